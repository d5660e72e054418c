/- Plain laws of sums over positions. No program in sight. -/
import Derived.Test.YtmhmjbggjbeikaaLaw10
namespace Go.Proofs.Ytmhmjbggjbeikaa

def sum3 (x : Three) : Int := x.1 + x.2.1 + x.2.2
def all3 (m : List (Key × Three)) : Int := (m.map fun p => sum3 p.2).sum

theorem sum3_set {sub : Int} (h : isPart sub) (x : Three) (v : Int) : sum3 (set3 x sub v) = sum3 x - part3 x sub + v := by
  obtain ⟨a, b, c⟩ := x
  unfold set3 part3 sum3
  by_cases h0 : sub = 0
  · simp only [h0, if_true]; omega
  · by_cases h1 : sub = 1
    · simp only [h1, if_neg (show ¬ ((1 : Int) = 0) by omega), if_true]; omega
    · simp only [if_neg h0, if_neg h1]; omega

section
variable {κ ν : Type} [DecidableEq κ]
/-- A sum over the entries, one of them put: what was there falls away. -/
theorem sum_put (f : ν → Int) : ∀ (m : List (κ × ν)) (k : κ) (v : ν), ((put m k v).map fun p => f p.2).sum = (m.map fun p => f p.2).sum - ((look m k).elim 0 f) + f v
  | [], k, v => by simp [put, look]
  | p :: m, k, v => by
    have ih := sum_put f m k v
    unfold put look
    by_cases h : p.1 = k
    · simp only [h, if_true, Option.elim_some, List.map_cons, List.sum_cons]; omega
    · simp only [h, if_false, List.map_cons, List.sum_cons, ih]; omega
theorem sum_del (f : ν → Int) : ∀ (m : List (κ × ν)), Apart m → ∀ (k : κ), ((del m k).map fun p => f p.2).sum = (m.map fun p => f p.2).sum - ((look m k).elim 0 f)
  | [], _, k => by simp [del, look]
  | p :: m, ha, k => by
    have ha' : p.1 ∉ m.map (·.1) ∧ Apart m := by
      unfold Apart at ha ⊢
      rw [List.map_cons, List.nodup_cons] at ha
      exact ha
    have ih := sum_del f m ha'.2 k
    by_cases h : p.1 = k
    · have hno : k ∉ m.map (·.1) := by rw [← h]; exact ha'.1
      have e1 : del (p :: m) k = m := by
        have e2 : del m k = m := del_absent (fun q hq e => hno (List.mem_map.2 ⟨q, hq, e⟩))
        unfold del at e2 ⊢
        rw [List.filter_cons, if_neg (by simp [h])]
        exact e2
      rw [e1]
      unfold look
      simp only [h, if_true, Option.elim_some, List.map_cons, List.sum_cons]; omega
    · have e1 : del (p :: m) k = p :: del m k := by
        unfold del
        rw [List.filter_cons, if_pos (by simp [h])]
      rw [e1]
      unfold look
      simp only [h, if_false, List.map_cons, List.sum_cons, ih]; omega
end

theorem look_sum (m : List (Key × Three)) (k : Key) : ((look m k).elim 0 sum3) = sum3 (posGet m k) := by
  unfold posGet
  cases look m k <;> simp [sum3]
theorem all3_add {m : List (Key × Three)} (ha : Apart m) (k : Key) (sub by_ : Int) : all3 (addMap m k sub by_) = if addErr m k sub by_ = 0 then all3 m + by_ else all3 m := by
  by_cases he : addErr m k sub by_ = 0
  · rw [if_pos he]
    have hp := (addErr_zero he).1
    have hs := sum3_set hp (posGet m k) (part3 (posGet m k) sub + by_)
    unfold addMap
    rw [if_neg (not_not_intro he)]
    by_cases h0 : set3 (posGet m k) sub (part3 (posGet m k) sub + by_) = (0, 0, 0)
    · rw [if_pos h0]
      have h1 := sum_del sum3 m ha k
      rw [look_sum] at h1
      unfold all3
      rw [h1]
      rw [h0] at hs
      simp only [sum3] at hs ⊢
      omega
    · rw [if_neg h0]
      have h1 := sum_put sum3 m k (set3 (posGet m k) sub (part3 (posGet m k) sub + by_))
      rw [look_sum] at h1
      unfold all3
      rw [h1, hs]
      omega
  · rw [if_neg he]
    unfold addMap
    rw [if_pos he]

/-- Changes that are not great, one by one. -/
theorem runOps_apart : ∀ (l : List POp) (m : List (Key × Three)), Apart m → Apart (l.foldl stepOp m)
  | [], _, h => h
  | _ :: l, _, h => runOps_apart l _ (apart_add h _ _ _)
theorem all3_fold : ∀ (l : List POp) (m : List (Key × Three)), Apart m → (∀ o ∈ l, o.by_ ≤ 1125899906842624) → all3 (l.foldl stepOp m) ≤ all3 m + l.length * 1125899906842624
  | [], m, _, _ => by simp
  | o :: l, m, ha, h => by
    have h1 := all3_fold l (stepOp m o) (apart_add ha _ _ _) (fun o' ho' => h o' (List.mem_cons_of_mem _ ho'))
    have h2 := h o List.mem_cons_self
    have h3 := all3_add ha o.k o.sub o.by_
    have h4 : all3 (stepOp m o) ≤ all3 m + 1125899906842624 := by
      unfold stepOp
      rw [h3]
      split <;> omega
    simp only [List.foldl_cons, List.length_cons]
    omega
theorem all3_run (l : List POp) (h : ∀ o ∈ l, o.by_ ≤ 1125899906842624) : all3 (runOps l) ≤ l.length * 1125899906842624 := by
  have := all3_fold l [] apart_nil h
  simpa [all3, runOps] using this

theorem sum3_nonneg {x : Three} (h : Good3 x) : 0 ≤ sum3 x := by
  obtain ⟨⟨h1, _⟩, ⟨h2, _⟩, ⟨h3, _⟩⟩ := h
  unfold sum3
  omega
theorem sum3_pos {x : Three} (h : Good3 x) (h0 : x ≠ (0, 0, 0)) : 0 < sum3 x := by
  obtain ⟨a, b, c⟩ := x
  obtain ⟨⟨h1, _⟩, ⟨h2, _⟩, ⟨h3, _⟩⟩ := h
  unfold sum3
  simp only at h1 h2 h3 ⊢
  by_cases e1 : a = 0
  · by_cases e2 : b = 0
    · by_cases e3 : c = 0
      · exact absurd (by rw [e1, e2, e3]) h0
      · omega
    · omega
  · omega

theorem sum_nonneg : ∀ (l : List Int), (∀ v ∈ l, 0 ≤ v) → 0 ≤ l.sum
  | [], _ => by simp
  | v :: l, h => by
    have h1 := h v List.mem_cons_self
    have h2 := sum_nonneg l fun u hu => h u (List.mem_cons_of_mem _ hu)
    rw [List.sum_cons]
    omega
theorem perm_sum {l l' : List Int} (h : l.Perm l') : l.sum = l'.sum := by
  induction h with
  | nil => rfl
  | cons x _ ih => rw [List.sum_cons, List.sum_cons, ih]
  | swap x y l => rw [List.sum_cons, List.sum_cons, List.sum_cons, List.sum_cons]; omega
  | trans _ _ h1 h2 => exact h1.trans h2
theorem sum_filter_le {α : Type} (f : α → Int) (s : α → Bool) : ∀ (l : List α), (∀ x ∈ l, 0 ≤ f x) → ((l.filter s).map f).sum ≤ (l.map f).sum
  | [], _ => by simp
  | x :: l, h => by
    have h1 := h x List.mem_cons_self
    have h2 := sum_filter_le f s l fun u hu => h u (List.mem_cons_of_mem _ hu)
    rw [List.filter_cons]
    split
    · simp only [List.map_cons, List.sum_cons]; omega
    · simp only [List.map_cons, List.sum_cons]; omega
/-- What those keys have that are chosen: no more than all. -/
theorem keys_sum {m : List (Key × Three)} (hg : GoodPos m) (ha : Apart m) (al : List ByteArray) : ((posKeys m al).map fun k => sum3 (posGet m k)).sum ≤ all3 m := by
  have hp : ((posKeys m al).map fun k => sum3 (posGet m k)).Perm (((m.map (·.1)).filter (selKey al)).map fun k => sum3 (posGet m k)) := by
    unfold posKeys
    exact (sortK_perm _).map _
  rw [perm_sum hp]
  refine Int.le_trans (sum_filter_le _ _ _ (fun k _ => sum3_nonneg (good_get hg k))) ?_
  rw [List.map_map]
  unfold all3
  have : m.map ((fun k => sum3 (posGet m k)) ∘ fun x => x.1) = m.map fun p => sum3 p.2 := List.map_congr_left fun p hp => by
    simp only [Function.comp]
    unfold posGet
    rw [look_of_mem ha hp]
    rfl
  rw [this]
  exact Int.le_refl _
theorem accAdd_fit {xs : List Int} (h0 : 0 ≤ xs.sum) (h1 : xs.sum ≤ 1152921504606846976) : accAdd xs = xs.sum := by
  unfold accAdd
  rw [if_pos (by unfold fits; omega)]
theorem whole_fit {m : List (Key × Three)} (hg : GoodPos m) {k : Key} (h : sum3 (posGet m k) ≤ 1152921504606846976) : posWhole m k = sum3 (posGet m k) := by
  have h0 := sum3_nonneg (good_get hg k)
  have e : (list3 (posGet m k)).sum = sum3 (posGet m k) := by simp [list3, sum3]; omega
  unfold posWhole
  rw [accAdd_fit (by omega) (by omega), e]
theorem flat_sum (g : Key → Three) : ∀ l : List Key, (l.flatMap fun k => list3 (g k)).sum = (l.map fun k => sum3 (g k)).sum
  | [] => by simp
  | k :: l => by
    rw [List.flatMap_cons, List.sum_append, flat_sum g l, List.map_cons, List.sum_cons]
    simp [list3, sum3]
    omega
theorem keys_sum_nonneg {m : List (Key × Three)} (hg : GoodPos m) (l : List Key) : 0 ≤ (l.map fun k => sum3 (posGet m k)).sum :=
  sum_nonneg _ fun v hv => by
    obtain ⟨k, _, rfl⟩ := List.mem_map.1 hv
    exact sum3_nonneg (good_get hg k)
theorem total_fit {m : List (Key × Three)} (hg : GoodPos m) (ha : Apart m) (h : all3 m ≤ 1152921504606846976) (a : ByteArray) : posTotal m a = ((posKeys m [a]).map fun k => sum3 (posGet m k)).sum := by
  have h1 := keys_sum hg ha [a]
  have h0 := keys_sum_nonneg hg (posKeys m [a])
  unfold posTotal
  rw [accAdd_fit (by rw [flat_sum]; exact h0) (by rw [flat_sum]; omega), flat_sum]
theorem sum_part {m : List (Key × Three)} (hg : GoodPos m) (l : List Key) (j : Nat) : ((l.take j).map fun k => sum3 (posGet m k)).sum ≤ (l.map fun k => sum3 (posGet m k)).sum := by
  have h := keys_sum_nonneg hg (l.drop j)
  conv => rhs; rw [← List.take_append_drop j l, List.map_append, List.sum_append]
  omega
theorem sum_next (m : List (Key × Three)) {l : List Key} {j : Nat} {x : Key} (h : l[j]? = some x) : ((l.take (j + 1)).map fun k => sum3 (posGet m k)).sum = ((l.take j).map fun k => sum3 (posGet m k)).sum + sum3 (posGet m x) := by
  obtain ⟨hl, rfl⟩ := List.getElem?_eq_some_iff.1 h
  rw [List.take_succ_eq_append_getElem hl, List.map_append, List.sum_append]
  simp
end Go.Proofs.Ytmhmjbggjbeikaa
