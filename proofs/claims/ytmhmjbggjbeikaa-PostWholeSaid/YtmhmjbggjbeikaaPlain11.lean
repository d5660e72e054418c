/- Plain laws of ledgers: what a transaction does to the parts of positions and to the sums of assets. No program in sight. -/
import Derived.Test.YtmhmjbggjbeikaaSums10
import Derived.Test.YtmhmjbggjbeikaaApply
namespace Go.Proofs.Ytmhmjbggjbeikaa
open Go.RowKit

/-! ### sums by asset -/
section
variable {κ ν : Type} [DecidableEq κ]
theorem sum_put2 (f : κ → ν → Int) : ∀ (m : List (κ × ν)) (k : κ) (v : ν), ((put m k v).map fun p => f p.1 p.2).sum = (m.map fun p => f p.1 p.2).sum - ((look m k).elim 0 (f k)) + f k v
  | [], k, v => by simp [put, look]
  | p :: m, k, v => by
    have ih := sum_put2 f m k v
    unfold put look
    by_cases h : p.1 = k
    · subst h; simp only [if_true, Option.elim_some, List.map_cons, List.sum_cons]; omega
    · simp only [h, if_false, List.map_cons, List.sum_cons, ih]; omega
theorem sum_del2 (f : κ → ν → Int) : ∀ (m : List (κ × ν)), Apart m → ∀ (k : κ), ((del m k).map fun p => f p.1 p.2).sum = (m.map fun p => f p.1 p.2).sum - ((look m k).elim 0 (f k))
  | [], _, k => by simp [del, look]
  | p :: m, ha, k => by
    have ha' : p.1 ∉ m.map (·.1) ∧ Apart m := by
      unfold Apart at ha ⊢
      rw [List.map_cons, List.nodup_cons] at ha
      exact ha
    have ih := sum_del2 f m ha'.2 k
    by_cases h : p.1 = k
    · have e1 : del (p :: m) k = m := by
        have e2 : del m k = m := del_absent (fun q hq e => ha'.1 (List.mem_map.2 ⟨q, hq, e.trans h.symm⟩))
        unfold del at e2 ⊢
        rw [List.filter_cons, if_neg (by simp [h])]
        exact e2
      rw [e1]
      unfold look
      subst h
      simp only [if_true, Option.elim_some, List.map_cons, List.sum_cons]; omega
    · have e1 : del (p :: m) k = p :: del m k := by
        unfold del
        rw [List.filter_cons, if_pos (by simp [h])]
      rw [e1]
      unfold look
      simp only [h, if_false, List.map_cons, List.sum_cons, ih]; omega
end

def ofA (a : ByteArray) (k : Key) (x : Three) : Int := if k.2 = a then sum3 x else 0
/-- How much of an asset there is. -/
def sumA (m : List (Key × Three)) (a : ByteArray) : Int := (m.map fun p => ofA a p.1 p.2).sum
theorem look_ofA (m : List (Key × Three)) (a : ByteArray) (k : Key) : ((look m k).elim 0 (ofA a k)) = ofA a k (posGet m k) := by
  unfold posGet
  cases look m k <;> simp [ofA, sum3]
theorem sumA_add {m : List (Key × Three)} (ha : Apart m) (k : Key) (sub by_ : Int) (he : addErr m k sub by_ = 0) (a : ByteArray) : sumA (addMap m k sub by_) a = sumA m a + if k.2 = a then by_ else 0 := by
  have hp := (addErr_zero he).1
  have hs := sum3_set hp (posGet m k) (part3 (posGet m k) sub + by_)
  unfold addMap
  rw [if_neg (not_not_intro he)]
  by_cases h0 : set3 (posGet m k) sub (part3 (posGet m k) sub + by_) = (0, 0, 0)
  · rw [if_pos h0]
    have h1 := sum_del2 (ofA a) m ha k
    rw [look_ofA] at h1
    unfold sumA
    rw [h1]
    rw [h0] at hs
    unfold ofA
    by_cases e : k.2 = a
    · simp only [e, if_true]; simp only [sum3] at hs ⊢; omega
    · simp only [e, if_false]; omega
  · rw [if_neg h0]
    have h1 := sum_put2 (ofA a) m k (set3 (posGet m k) sub (part3 (posGet m k) sub + by_))
    rw [look_ofA] at h1
    unfold sumA
    rw [h1]
    unfold ofA
    by_cases e : k.2 = a
    · simp only [e, if_true]; rw [hs]; omega
    · simp only [e, if_false]; omega
theorem total_sum {m : List (Key × Three)} (ha : Apart m) (a : ByteArray) : ((posKeys m [a]).flatMap fun k => list3 (posGet m k)).sum = sumA m a := by
  rw [flat_sum]
  have hp : ((posKeys m [a]).map fun k => sum3 (posGet m k)).Perm (((m.map (·.1)).filter (selKey [a])).map fun k => sum3 (posGet m k)) := by
    unfold posKeys
    exact (sortK_perm _).map _
  rw [perm_sum hp]
  have key : ∀ l : List (Key × Three), (∀ p ∈ l, posGet m p.1 = p.2) → (((l.map (·.1)).filter (selKey [a])).map fun k => sum3 (posGet m k)).sum = (l.map fun p => ofA a p.1 p.2).sum := by
    intro l
    induction l with
    | nil => intro _; rfl
    | cons p l ih =>
      intro h
      have h1 := ih fun q hq => h q (List.mem_cons_of_mem _ hq)
      have h2 := h p List.mem_cons_self
      rw [List.map_cons, List.filter_cons, List.map_cons, List.sum_cons, ← h1]
      have hsel : selKey [a] p.1 = decide (p.1.2 = a) := by
        simp only [selKey, hasStr, List.isEmpty_cons, Bool.false_or, List.any_cons, List.any_nil, Bool.or_false]
        exact decide_eq_decide.2 ⟨fun e => e.symm, fun e => e.symm⟩
      rw [hsel]
      by_cases e : p.1.2 = a
      · simp only [e, decide_true, if_true, List.map_cons, List.sum_cons, ofA, h2]
      · simp only [e, decide_false, ofA, Bool.false_eq_true, if_false]; omega
  exact key m fun p hp => by
    unfold posGet
    rw [look_of_mem ha hp]
    rfl
theorem posTotal_eq {m : List (Key × Three)} (ha : Apart m) {a : ByteArray} (h0 : 0 ≤ sumA m a) (h1 : sumA m a ≤ 1152921504606846976) : posTotal m a = sumA m a := by
  unfold posTotal
  rw [accAdd_fit (by rw [total_sum ha]; exact h0) (by rw [total_sum ha]; exact h1), total_sum ha]
theorem sumA_nonneg {m : List (Key × Three)} (hg : GoodPos m) (a : ByteArray) : 0 ≤ sumA m a := by
  refine sum_nonneg _ fun v hv => ?_
  obtain ⟨p, hp, rfl⟩ := List.mem_map.1 hv
  unfold ofA
  split
  · exact sum3_nonneg (hg p hp).1
  · omega

/-! ### parts -/
theorem posPart_add {m : List (Key × Three)} {k : Key} {sub by_ : Int} (he : addErr m k sub by_ = 0) (k' : Key) (s' : Int) : posPart (addMap m k sub by_) k' s' = if k = k' ∧ sub = s' then posPart m k' s' + by_ else posPart m k' s' := by
  have hp := (addErr_zero he).1
  unfold posPart
  by_cases hs : isPart s'
  · simp only [if_pos hs]
    rw [posGet_add]
    by_cases hk : k = k'
    · subst hk
      rw [if_pos ⟨he, rfl⟩]
      unfold newThree
      by_cases e : sub = s'
      · subst e
        rw [if_pos ⟨rfl, rfl⟩, part3_set3 hp]
      · rw [if_neg (fun h => e h.2)]
        unfold isPart at hp hs
        unfold part3 set3
        by_cases a0 : s' = 0
        · by_cases b1 : sub = 1
          · simp [a0, b1]
          · have : sub = 2 := by omega
            simp [a0, this]
        · by_cases a1 : s' = 1
          · by_cases b0 : sub = 0
            · simp [a1, b0]
            · have : sub = 2 := by omega
              simp [a1, this]
          · have a2 : s' = 2 := by omega
            by_cases b0 : sub = 0
            · simp [a2, b0]
            · have : sub = 1 := by omega
              simp [a2, this]
    · rw [if_neg (fun h => hk h.2), if_neg (fun h => hk h.1)]
  · simp only [if_neg hs]
    rw [if_neg]
    rintro ⟨_, rfl⟩
    exact hs hp
theorem addErr_of {m : List (Key × Three)} {k : Key} {sub by_ : Int} (h1 : isPart sub) (h2 : within by_) (h3 : okPart (posPart m k sub + by_)) : addErr m k sub by_ = 0 := by
  unfold posPart at h3
  rw [if_pos h1] at h3
  unfold okPart at h3
  unfold addErr
  rw [if_neg (not_not_intro ⟨h1, h2⟩), if_neg (by omega), if_neg (by omega)]

/-- What some nets, of different parts, do. -/
theorem fold_nets : ∀ (ns : List PNet) (m : List (Key × Three)), GoodPos m → Apart m → (ns.map PNet.key).Nodup → (∀ x ∈ ns, isPart x.sub ∧ within x.by_ ∧ okPart (posPart m x.k x.sub + x.by_)) →
    GoodPos (ns.foldl addNet m) ∧ Apart (ns.foldl addNet m) ∧ (∀ k s, posPart (ns.foldl addNet m) k s = posPart m k s + ((ns.filter fun x => decide (x.key = (k, s))).map PNet.by_).sum) ∧
      ∀ a, sumA (ns.foldl addNet m) a = sumA m a + (ns.map fun x => if x.k.2 = a then x.by_ else 0).sum
  | [], m, hg, ha, _, _ => ⟨hg, ha, fun k s => by simp, fun a => by simp⟩
  | x :: ns, m, hg, ha, hn, hok => by
    obtain ⟨h1, h2, h3⟩ := hok x List.mem_cons_self
    have he := addErr_of h1 h2 h3
    rw [List.map_cons, List.nodup_cons] at hn
    have hpp := posPart_add he
    obtain ⟨i1, i2, i3, i4⟩ := fold_nets ns (addNet m x) (good_add hg _ _ _) (apart_add ha _ _ _) hn.2 (fun y hy => by
      obtain ⟨g1, g2, g3⟩ := hok y (List.mem_cons_of_mem _ hy)
      refine ⟨g1, g2, ?_⟩
      have hne : ¬ (x.k = y.k ∧ x.sub = y.sub) := fun ⟨e1, e2⟩ => hn.1 (List.mem_map.2 ⟨y, hy, by unfold PNet.key; rw [e1, e2]⟩)
      show okPart (posPart (addMap m x.k x.sub x.by_) y.k y.sub + y.by_)
      rw [hpp, if_neg hne]
      exact g3)
    refine ⟨i1, i2, fun k s => ?_, fun a => ?_⟩
    · rw [List.foldl_cons, i3]
      show posPart (addMap m x.k x.sub x.by_) k s + _ = _
      rw [hpp, List.filter_cons]
      by_cases e : x.k = k ∧ x.sub = s
      · have e' : x.key = (k, s) := by unfold PNet.key; rw [e.1, e.2]
        simp only [e', decide_true, if_true, if_pos e, List.map_cons, List.sum_cons]; omega
      · have e' : ¬ x.key = (k, s) := fun h => e (by unfold PNet.key at h; simpa using h)
        simp only [e', decide_false, Bool.false_eq_true, if_false, if_neg e]
    · rw [List.foldl_cons, i4]
      show sumA (addMap m x.k x.sub x.by_) a + _ = _
      rw [sumA_add ha _ _ _ he, List.map_cons, List.sum_cons]; omega

/-! ### nets, and the postings that they come of -/
theorem sum_groups {α κ : Type} [DecidableEq κ] (key : α → κ) (g : α → Int) (qs : List κ) (hn : qs.Nodup) : ∀ l : List α, (∀ x ∈ l, key x ∈ qs) → (qs.map fun q => ((l.filter fun x => decide (key x = q)).map g).sum).sum = (l.map g).sum
  | [], _ => by
    have : ∀ qs : List κ, (qs.map fun _ => (([] : List α).map g).sum).sum = 0 := fun qs => by
      induction qs with
      | nil => rfl
      | cons q qs ih => simpa using ih
    simpa using this qs
  | x :: l, h => by
    have ih := sum_groups key g qs hn l fun y hy => h y (List.mem_cons_of_mem _ hy)
    have hx := h x List.mem_cons_self
    have one : ∀ qs : List κ, qs.Nodup → (qs.map fun q => (((x :: l).filter fun y => decide (key y = q)).map g).sum).sum = (qs.map fun q => ((l.filter fun y => decide (key y = q)).map g).sum).sum + if key x ∈ qs then g x else 0 := by
      intro qs
      induction qs with
      | nil => intro _; simp
      | cons q qs ih2 =>
        intro hn2
        rw [List.nodup_cons] at hn2
        have h2 := ih2 hn2.2
        rw [List.map_cons, List.sum_cons, List.map_cons, List.sum_cons, h2, List.filter_cons]
        by_cases e : key x = q
        · subst e
          simp only [decide_true, if_true, List.map_cons, List.sum_cons, List.mem_cons, true_or, if_neg hn2.1]; omega
        · simp only [e, decide_false, Bool.false_eq_true, if_false, List.mem_cons, false_or]; omega
    rw [one qs hn, ih, if_pos hx, List.map_cons, List.sum_cons]; omega

theorem parts_nodup (l : List PPost) : (partsB l).Nodup := (sortP_perm _).nodup_iff.2 (groups_apart _ _ l)
theorem parts_mem {l : List PPost} {q : PKey} : q ∈ partsB l ↔ ∃ p ∈ l, p.part = q := by
  unfold partsB
  rw [(sortP_perm _).mem_iff]
  constructor
  · intro h
    obtain ⟨⟨q', xs⟩, h2, rfl⟩ := List.mem_map.1 h
    exact (groups_mem _ _ h2).2
  · rintro ⟨p, hp, rfl⟩
    exact List.mem_map.2 ⟨_, groups_has PPost.part PPost.by_ hp, rfl⟩
theorem nets_keys (l : List PPost) : (netsB l).map PNet.key = partsB l := by
  unfold netsB
  rw [List.map_map]
  have : PNet.key ∘ netAt l = id := funext fun q => rfl
  rw [this, List.map_id]
theorem nets_mem {l : List PPost} {x : PNet} (h : x ∈ netsB l) : ∃ p ∈ l, x = netAt l p.part := by
  obtain ⟨q, hq, rfl⟩ := List.mem_map.1 h
  obtain ⟨p, hp, rfl⟩ := parts_mem.1 hq
  exact ⟨p, hp, rfl⟩
theorem nets_has {l : List PPost} {p : PPost} (h : p ∈ l) : netAt l p.part ∈ netsB l := List.mem_map.2 ⟨_, parts_mem.2 ⟨p, h, rfl⟩, rfl⟩

theorem accAdd_zero {xs : List Int} : accAdd xs = 0 ↔ xs.sum = 0 := by
  unfold accAdd
  by_cases h : fits xs.sum
  · rw [if_pos h]
  · rw [if_neg h]
    have h' : ¬ xs.sum = 0 := fun e => h (by rw [e]; unfold fits; omega)
    split <;> simp [h']
def sumOf (l : List PPost) (a : ByteArray) : Int := ((l.filter fun p => decide (p.k.2 = a)).map PPost.by_).sum
theorem even_iff {l : List PPost} : evenB l = true ↔ ∀ a, sumOf l a = 0 := by
  unfold evenB
  rw [List.all_eq_true]
  constructor
  · intro h a
    by_cases hx : ∃ p ∈ l, p.k.2 = a
    · obtain ⟨p, hp, rfl⟩ := hx
      have := h _ (groups_has (fun p : PPost => p.k.2) (fun p => p.by_) hp)
      simp only [decide_eq_true_eq] at this
      exact accAdd_zero.1 this
    · unfold sumOf
      rw [List.filter_eq_nil_iff.2 (fun p hp => by simp only [decide_eq_true_eq]; exact fun e => hx ⟨p, hp, e⟩)]
      rfl
  · rintro h ⟨a, xs⟩ hx
    have := (groups_mem _ _ hx).1
    simp only [decide_eq_true_eq]
    rw [accAdd_zero, this]
    exact h a

theorem netErr_zero {v sub by_ : Int} {over bl : Bool} (h : netErr v sub by_ over bl = 0) : over = false ∧ okPart (v + by_) ∧ ¬ (sub = 0 ∧ by_ < 0 ∧ bl = true) := by
  unfold netErr at h
  split at h
  · omega
  · rename_i h1
    split at h
    · omega
    · rename_i h2
      split at h
      · omega
      · rename_i h3
        refine ⟨by cases over with | false => rfl | true => exact absurd (.inr rfl) h3, ⟨?_, ?_⟩, h1⟩
        · exact Int.not_lt.1 fun e => h2 (.inl e)
        · exact Int.not_lt.1 fun e => h3 (.inl (by omega))
theorem firstErr_zero {L : Led} : ∀ {ns : List PNet}, firstErr L ns = 0 ↔ ∀ x ∈ ns, netErrOf L x = 0
  | [] => by simp [firstErr]
  | x :: ns => by
    unfold firstErr
    by_cases h : netErrOf L x = 0
    · rw [if_pos h, firstErr_zero]; simp [h]
    · rw [if_neg h]; simp [h]
theorem firstErr_one {L : Led} {c : Int} : ∀ {ns : List PNet}, (∀ x ∈ ns, netErrOf L x = 0 ∨ netErrOf L x = c) → (∃ x ∈ ns, netErrOf L x = c) → firstErr L ns = c
  | [], _, h => by obtain ⟨x, hx, _⟩ := h; cases hx
  | x :: ns, h1, h2 => by
    unfold firstErr
    by_cases h : netErrOf L x = 0
    · rw [if_pos h]
      obtain ⟨y, hy, e⟩ := h2
      rcases List.mem_cons.1 hy with rfl | hy
      · by_cases hr : ∃ z ∈ ns, netErrOf L z = c
        · exact firstErr_one (fun z hz => h1 z (List.mem_cons_of_mem _ hz)) hr
        · rw [← e, h, firstErr_zero]
          intro z hz
          rcases h1 z (List.mem_cons_of_mem _ hz) with h3 | h3
          · exact h3
          · exact absurd ⟨z, hz, h3⟩ hr
      · exact firstErr_one (fun z hz => h1 z (List.mem_cons_of_mem _ hz)) ⟨y, hy, e⟩
    · rw [if_neg h]
      exact (h1 x List.mem_cons_self).resolve_left h

/-! ### a transaction that is taken -/
theorem look_zero {L : Led} {l : List PPost} (h : lookErr L l = 0) : l.length ≤ 600 ∧ (∀ p ∈ l, okPost p) ∧ (∀ a, sumOf l a = 0) ∧ ∀ x ∈ netsB l, netErrOf L x = 0 := by
  unfold lookErr at h
  split at h
  · omega
  · rename_i h1
    split at h
    · omega
    · rename_i h2
      refine ⟨by omega, fun p hp => Classical.byContradiction fun hn => h2 (.inl ⟨p, hp, hn⟩), even_iff.1 ?_, firstErr_zero.1 h⟩
      cases he : evenB l with
      | true => rfl
      | false => exact absurd (.inr he) h2
theorem look_of {L : Led} {l : List PPost} (h1 : l.length ≤ 600) (h2 : ∀ p ∈ l, okPost p) (h3 : ∀ a, sumOf l a = 0) : lookErr L l = firstErr L (netsB l) := by
  unfold lookErr
  rw [if_neg (by omega), if_neg]
  rintro (⟨p, hp, hn⟩ | h)
  · exact hn (h2 p hp)
  · rw [even_iff.2 h3] at h; cases h
theorem look_uneven {L : Led} {l : List PPost} (h1 : l.length ≤ 600) {a : ByteArray} (h3 : sumOf l a ≠ 0) : lookErr L l = 1 := by
  have he : evenB l = false := by
    cases he : evenB l with
    | false => rfl
    | true => exact absurd (even_iff.1 he a) h3
  unfold lookErr
  rw [if_neg (by omega), if_pos (.inr he)]

def partSum (l : List PPost) (k : Key) (s : Int) : Int := (numsOf PPost.part PPost.by_ l (k, s)).sum
theorem apply_does {L : Led} {l : List PPost} (h : lookErr L l = 0) (hg : GoodPos L.m) (ha : Apart L.m) :
    GoodPos (applyLed L l).m ∧ Apart (applyLed L l).m ∧ (∀ k s, posPart (applyLed L l).m k s = posPart L.m k s + partSum l k s) ∧ (∀ a, sumA (applyLed L l).m a = sumA L.m a) ∧ (applyLed L l).iss = L.iss ∧ (applyLed L l).blk = L.blk := by
  have hap : applyLed L l = ⟨(netsB l).foldl addNet L.m, L.iss, L.blk⟩ := by unfold applyLed; rw [if_neg (not_not_intro h)]
  obtain ⟨_, hok, hev, hne⟩ := look_zero h
  have exact_ : ∀ x ∈ netsB l, x.by_ = partSum l x.k x.sub := fun x hx => by
    have h1 := (netErr_zero (hne x hx)).1
    obtain ⟨p, hp, rfl⟩ := nets_mem hx
    have h2 : fits (numsOf PPost.part PPost.by_ l p.part).sum := by
      have : (!decide (fits (numsOf PPost.part PPost.by_ l p.part).sum)) = false := h1
      simpa using this
    show accAdd (numsOf PPost.part PPost.by_ l p.part) = (numsOf PPost.part PPost.by_ l p.part).sum
    unfold accAdd
    rw [if_pos h2]
  obtain ⟨f1, f2, f3, f4⟩ := fold_nets (netsB l) L.m hg ha (by rw [nets_keys]; exact parts_nodup l) (fun x hx => by
    refine ⟨?_, nets_within hx, (netErr_zero (hne x hx)).2.1⟩
    obtain ⟨p, hp, rfl⟩ := nets_mem hx
    exact (hok p hp).1)
  rw [hap]
  refine ⟨f1, f2, fun k s => ?_, fun a => ?_, rfl, rfl⟩
  · rw [f3]
    congr 1
    by_cases hx : ∃ p ∈ l, p.part = (k, s)
    · obtain ⟨p, hp, he⟩ := hx
      have hmem := nets_has hp
      have hnd : (netsB l).Nodup := by
        have := parts_nodup l
        rw [← nets_keys] at this
        exact List.Pairwise.of_map PNet.key (fun a b h e => h (by rw [e])) this
      have : (netsB l).filter (fun x => decide (x.key = (k, s))) = [netAt l (k, s)] := by
        have hall : ∀ x ∈ netsB l, x.key = (k, s) → x = netAt l (k, s) := fun x hx e => by
          obtain ⟨p', _, rfl⟩ := nets_mem hx
          have : p'.part = (k, s) := e
          rw [this]
        rw [he] at hmem
        have hkey : (netAt l (k, s)).key = (k, s) := rfl
        generalize netAt l (k, s) = y at hall hmem hkey
        clear f1 f2 f3 f4 hne exact_ hap h hok hev he hp
        revert hnd hall hmem
        generalize netsB l = ns
        intro hnd hall hmem
        induction ns with
        | nil => cases hmem
        | cons x ns ih =>
          rw [List.nodup_cons] at hnd
          rw [List.filter_cons]
          by_cases e : x.key = (k, s)
          · have hx := hall x List.mem_cons_self e
            subst hx
            rw [if_pos (by simpa using e)]
            congr 1
            refine List.filter_eq_nil_iff.2 fun z hz => ?_
            simp only [decide_eq_true_eq]
            intro e2
            have := hall z (List.mem_cons_of_mem _ hz) e2
            subst this
            exact hnd.1 hz
          · rw [if_neg (by simpa using e)]
            refine ih hnd.2 (fun z hz => hall z (List.mem_cons_of_mem _ hz)) ?_
            rcases List.mem_cons.1 hmem with rfl | h
            · exact absurd hkey e
            · exact h
      rw [this]
      have := exact_ (netAt l (k, s)) (by rw [← he]; exact hmem)
      simp only [List.map_cons, List.map_nil, List.sum_cons, List.sum_nil, Int.add_zero]
      exact this
    · have h1 : (netsB l).filter (fun x => decide (x.key = (k, s))) = [] := List.filter_eq_nil_iff.2 fun x hx' => by
        simp only [decide_eq_true_eq]
        intro e
        obtain ⟨p, hp, rfl⟩ := nets_mem hx'
        exact hx ⟨p, hp, e⟩
      have h2 : numsOf PPost.part PPost.by_ l (k, s) = [] := by
        unfold numsOf
        rw [List.filter_eq_nil_iff.2 fun p hp => by simp only [decide_eq_true_eq]; exact fun e => hx ⟨p, hp, e⟩]
        rfl
      rw [h1]
      unfold partSum
      rw [h2]
      rfl
  · rw [f4]
    have h0 : ((netsB l).map fun x => if x.k.2 = a then x.by_ else 0) = (partsB l).map fun q => ((l.filter fun p => decide (p.part = q)).map fun p => if p.k.2 = a then p.by_ else 0).sum := by
      have : ((netsB l).map fun x => if x.k.2 = a then x.by_ else 0) = (netsB l).map fun x => ((l.filter fun p => decide (p.part = x.key)).map fun p => if p.k.2 = a then p.by_ else 0).sum := by
        refine List.map_congr_left fun x hx => ?_
        rw [exact_ x hx]
        unfold partSum numsOf
        have hk : ∀ p ∈ l.filter (fun p => decide (p.part = x.key)), p.k.2 = x.k.2 := fun p hp => by
          have := (List.mem_filter.1 hp).2
          simp only [decide_eq_true_eq] at this
          have h9 := congrArg (fun q : PKey => q.1.2) this
          exact h9
        by_cases e : x.k.2 = a
        · rw [if_pos e]
          congr 1
          refine List.map_congr_left fun p hp => ?_
          rw [if_pos ((hk p hp).trans e)]
        · rw [if_neg e]
          have : ((l.filter fun p => decide (p.part = x.key)).map fun p => if p.k.2 = a then p.by_ else 0) = (l.filter fun p => decide (p.part = x.key)).map fun _ => 0 := List.map_congr_left fun p hp => by
            rw [if_neg (fun e2 => e ((hk p hp).symm.trans e2))]
          rw [this]
          have z : ∀ l : List PPost, (l.map fun _ => (0 : Int)).sum = 0 := fun l => by induction l with
            | nil => rfl
            | cons _ _ ih => simpa using ih
          exact (z _).symm
      rw [this, ← nets_keys, List.map_map]
      rfl
    rw [h0, sum_groups PPost.part _ (partsB l) (parts_nodup l) l fun p hp => parts_mem.2 ⟨p, hp, rfl⟩]
    have h1 : (l.map fun p => if p.k.2 = a then p.by_ else 0).sum = sumOf l a := by
      unfold sumOf
      have : ∀ l : List PPost, (l.map fun p => if p.k.2 = a then p.by_ else 0).sum = ((l.filter fun p => decide (p.k.2 = a)).map PPost.by_).sum := by
        intro l
        induction l with
        | nil => rfl
        | cons p l ih =>
          rw [List.map_cons, List.sum_cons, List.filter_cons, ih]
          by_cases e : p.k.2 = a
          · simp [e]
          · simp [e]
      exact this l
    rw [h1, hev a]
    omega
end Go.Proofs.Ytmhmjbggjbeikaa
