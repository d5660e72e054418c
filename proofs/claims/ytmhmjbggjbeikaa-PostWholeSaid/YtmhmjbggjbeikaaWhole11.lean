/- Plain laws for PostWhole: what a transaction that is taken does to the whole of a key. No program in sight. -/
import Derived.Test.YtmhmjbggjbeikaaDuo11
namespace Go.Proofs.Ytmhmjbggjbeikaa
open Go.RowKit

/-- What is posted to a key. -/
def keySum (p : List PPost) (k : Key) : Int := ((p.filter fun x => decide (x.k = k)).map PPost.by_).sum
theorem mem_le_sum : ∀ {l : List Int}, (∀ x ∈ l, 0 ≤ x) → ∀ {x : Int}, x ∈ l → x ≤ l.sum
  | [], _, _, h => by cases h
  | y :: l, hn, x, h => by
    have h1 := sum_nonneg l fun z hz => hn z (List.mem_cons_of_mem _ hz)
    have h2 := hn y List.mem_cons_self
    rw [List.sum_cons]
    rcases List.mem_cons.1 h with rfl | h
    · omega
    · have := mem_le_sum (fun z hz => hn z (List.mem_cons_of_mem _ hz)) h
      omega
theorem whole_le {m : List (Key × Three)} (hg : GoodPos m) (k : Key) : sum3 (posGet m k) ≤ sumA m k.2 := by
  unfold posGet
  cases hl : look m k with
  | none =>
    have := sumA_nonneg hg k.2
    simpa [sum3] using this
  | some x =>
    have hmem := look_some hl
    have h1 : ofA k.2 k x ∈ m.map fun p => ofA k.2 p.1 p.2 := List.mem_map.2 ⟨_, hmem, rfl⟩
    have h2 := mem_le_sum (l := m.map fun p => ofA k.2 p.1 p.2) (fun v hv => by
      obtain ⟨p, hp, rfl⟩ := List.mem_map.1 hv
      unfold ofA
      split
      · exact sum3_nonneg (hg p hp).1
      · omega) h1
    have h3 : ofA k.2 k x = sum3 x := by unfold ofA; rw [if_pos rfl]
    rw [h3] at h2
    exact h2
theorem sum3_parts (m : List (Key × Three)) (k : Key) : sum3 (posGet m k) = posPart m k 0 + posPart m k 1 + posPart m k 2 := by
  rw [posGet_part]
  rfl
theorem parts_key {k : Key} : ∀ {p : List PPost}, (∀ x ∈ p, isPart x.sub) → partSum p k 0 + partSum p k 1 + partSum p k 2 = keySum p k
  | [], _ => rfl
  | x :: p, h => by
    have ih := parts_key (k := k) fun y hy => h y (List.mem_cons_of_mem _ hy)
    have hx := h x List.mem_cons_self
    unfold partSum numsOf keySum at ih ⊢
    simp only [List.filter_cons]
    by_cases e : x.k = k
    · have key : ∀ s, (x.part = (k, s)) = (x.sub = s) := fun s => by
        unfold PPost.part
        rw [e]
        simp
      simp only [key, e, decide_true, if_true, List.map_cons, List.sum_cons]
      unfold isPart at hx
      have h3 : x.sub = 0 ∨ x.sub = 1 ∨ x.sub = 2 := by omega
      rcases h3 with h3 | h3 | h3 <;> simp [h3] <;> omega
    · have key : ∀ s, (x.part = (k, s)) = False := fun s => by
        unfold PPost.part
        simp [e]
      simp only [key, e, decide_false, Bool.false_eq_true, if_false]
      exact ih
theorem whole_does {L : Led} (h : EvenLed L) {p : List PPost} (he : lookErr L p = 0) (k : Key) :
    posWhole (applyLed L p).m k = posWhole L.m k + keySum p k ∧ 0 ≤ posWhole L.m k ∧ posWhole L.m k ≤ 1152921504606846976 ∧ 0 ≤ posWhole (applyLed L p).m k ∧ posWhole (applyLed L p).m k ≤ 1152921504606846976 := by
  obtain ⟨g1, a1, p1, s1, i1, _⟩ := apply_does he h.good h.apart
  obtain ⟨_, hok, _, _⟩ := look_zero he
  have t1 := whole_le h.good k
  have t2 := whole_le g1 k
  have t3 := h.sum k.2
  have t4 := h.top k.2
  rw [s1] at t2
  have w1 := whole_fit h.good (k := k) (by omega)
  have w2 := whole_fit g1 (k := k) (by omega)
  have n1 := sum3_nonneg (good_get h.good k)
  have n2 := sum3_nonneg (good_get g1 k)
  have hs := parts_key (k := k) (p := p) fun x hx => (hok x hx).1
  refine ⟨?_, by omega, by omega, by omega, by omega⟩
  rw [w1, w2, sum3_parts, sum3_parts, p1, p1, p1]
  omega
theorem key_next {p : List PPost} {j : Nat} {x : PPost} (hx : p[j]? = some x) (k : Key) : keySum (p.take (j + 1)) k = keySum (p.take j) k + if x.k = k then x.by_ else 0 := by
  obtain ⟨h1, rfl⟩ := List.getElem?_eq_some_iff.1 hx
  unfold keySum
  rw [List.take_succ_eq_append_getElem h1, List.filter_append, List.map_append, List.sum_append]
  congr 1
  by_cases e : p[j].k = k
  · simp [e]
  · simp [e]
theorem wrap_add (a b : Int) : wrap64 (wrap64 a + b) = wrap64 (a + b) := by
  unfold wrap64
  omega
theorem wrap_id {a : Int} (h1 : -1152921504606846976 ≤ a) (h2 : a ≤ 1152921504606846976) : wrap64 a = a := by
  unfold wrap64
  omega
end Go.Proofs.Ytmhmjbggjbeikaa
