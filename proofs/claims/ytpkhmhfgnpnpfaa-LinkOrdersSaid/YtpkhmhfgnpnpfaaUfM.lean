/- Classes of numbers, as a plain list of what stands above each: heads, and what a join does to them. No program in sight. -/
import Derived.Test.YtpkhmhfgnpnpfaaCore
namespace Go.Proofs.Ytpkhmhfgnpnpfaa

/-- Of each number (the i-th place is number i + 1) one of its class that is not above it. -/
def GoodUp (up : List Nat) : Prop := ∀ i, i < up.length → 1 ≤ up.getD i 0 ∧ up.getD i 0 ≤ i + 1
def headN (up : List Nat) : Nat → Nat → Nat
  | 0, i => i
  | f + 1, i => if up.getD (i - 1) 0 = i then i else headN up f (up.getD (i - 1) 0)
/-- The least number of i's class. -/
def headOf (up : List Nat) (i : Nat) : Nat := headN up i i

theorem good_at {up : List Nat} (h : GoodUp up) {i : Nat} (h1 : 1 ≤ i) (h2 : i ≤ up.length) : 1 ≤ up.getD (i - 1) 0 ∧ up.getD (i - 1) 0 ≤ i := by
  have := h (i - 1) (by omega)
  omega
theorem headN_fuel {up : List Nat} (h : GoodUp up) : ∀ (i f g : Nat), 1 ≤ i → i ≤ up.length → i ≤ f → i ≤ g → headN up f i = headN up g i := by
  intro i
  induction i using Nat.strongRecOn with
  | ind i ih =>
    intro f g h1 h2 hf hg
    obtain ⟨f, rfl⟩ : ∃ f', f = f' + 1 := ⟨f - 1, by omega⟩
    obtain ⟨g, rfl⟩ : ∃ g', g = g' + 1 := ⟨g - 1, by omega⟩
    unfold headN
    by_cases e : up.getD (i - 1) 0 = i
    · rw [if_pos e, if_pos e]
    · rw [if_neg e, if_neg e]
      obtain ⟨g1, g2⟩ := good_at h h1 h2
      exact ih _ (by omega) f g g1 (by omega) (by omega) (by omega)
theorem head_step {up : List Nat} (h : GoodUp up) {i : Nat} (h1 : 1 ≤ i) (h2 : i ≤ up.length) : headOf up i = if up.getD (i - 1) 0 = i then i else headOf up (up.getD (i - 1) 0) := by
  obtain ⟨j, rfl⟩ : ∃ j, i = j + 1 := ⟨i - 1, by omega⟩
  show headN up (j + 1) (j + 1) = _
  rw [headN]
  by_cases e : up.getD (j + 1 - 1) 0 = j + 1
  · rw [if_pos e, if_pos e]
  · rw [if_neg e, if_neg e]
    obtain ⟨g1, g2⟩ := good_at h h1 h2
    exact headN_fuel h _ _ _ g1 (by omega) (by omega) (Nat.le_refl _)
theorem head_root {up : List Nat} (h : GoodUp up) : ∀ {i : Nat}, 1 ≤ i → i ≤ up.length → 1 ≤ headOf up i ∧ headOf up i ≤ i ∧ up.getD (headOf up i - 1) 0 = headOf up i := by
  intro i
  induction i using Nat.strongRecOn with
  | ind i ih =>
    intro h1 h2
    rw [head_step h h1 h2]
    by_cases e : up.getD (i - 1) 0 = i
    · rw [if_pos e]
      exact ⟨h1, Nat.le_refl _, e⟩
    · rw [if_neg e]
      obtain ⟨g1, g2⟩ := good_at h h1 h2
      obtain ⟨k1, k2, k3⟩ := ih _ (by omega) g1 (by omega)
      exact ⟨k1, by omega, k3⟩
theorem head_of_root {up : List Nat} (h : GoodUp up) {i : Nat} (h1 : 1 ≤ i) (h2 : i ≤ up.length) (hr : up.getD (i - 1) 0 = i) : headOf up i = i := by
  rw [head_step h h1 h2, if_pos hr]
theorem getD_set (up : List Nat) (k j v : Nat) (hk : k < up.length) : (up.set k v).getD j 0 = if k = j then v else up.getD j 0 := by
  simp only [List.getD_eq_getElem?_getD, List.getElem?_set]
  by_cases e : k = j
  · subst e; simp [hk]
  · simp [e]
theorem good_set {up : List Nat} (h : GoodUp up) {lo hi : Nat} (h1 : 1 ≤ lo) (h2 : lo < hi) (h3 : hi ≤ up.length) : GoodUp (up.set (hi - 1) lo) := fun i hi' => by
  rw [List.length_set] at hi'
  rw [getD_set _ _ _ _ (by omega)]
  split
  · omega
  · exact h i hi'
/-- Two classes made one: whoever had the greater head has the lesser one. -/
theorem head_set {up : List Nat} (h : GoodUp up) {lo hi : Nat} (h1 : 1 ≤ lo) (h2 : lo < hi) (h3 : hi ≤ up.length) (rl : up.getD (lo - 1) 0 = lo) (rh : up.getD (hi - 1) 0 = hi) :
    ∀ {i : Nat}, 1 ≤ i → i ≤ up.length → headOf (up.set (hi - 1) lo) i = if headOf up i = hi then lo else headOf up i := by
  have hg := good_set h h1 h2 h3
  have hlo : headOf (up.set (hi - 1) lo) lo = lo := head_of_root hg h1 (by rw [List.length_set]; omega) (by rw [getD_set _ _ _ _ (by omega), if_neg (by omega)]; exact rl)
  intro i
  induction i using Nat.strongRecOn with
  | ind i ih =>
    intro i1 i2
    rw [head_step hg i1 (by rw [List.length_set]; exact i2), head_step h i1 i2, getD_set _ _ _ _ (by omega)]
    by_cases e : hi - 1 = i - 1
    · have ei : i = hi := by omega
      subst ei
      rw [if_pos rfl, if_neg (by omega), rh, if_pos rfl, if_pos rfl]
      exact hlo
    · rw [if_neg e]
      by_cases r : up.getD (i - 1) 0 = i
      · rw [if_pos r, if_pos r, if_neg (by omega)]
      · rw [if_neg r, if_neg r]
        obtain ⟨g1, g2⟩ := good_at h i1 i2
        exact ih _ (by omega) g1 (by omega)

/-! ### heads as a list: the state of all classes -/
def headsOf (up : List Nat) : List Nat := (List.range up.length).map fun i => headOf up (i + 1)
theorem headsOf_length (up : List Nat) : (headsOf up).length = up.length := by simp [headsOf]
theorem headsOf_at {up : List Nat} {i : Nat} (h1 : 1 ≤ i) (h2 : i ≤ up.length) : (headsOf up).getD (i - 1) 0 = headOf up i := by
  have hi : i - 1 < up.length := by omega
  have he : i - 1 + 1 = i := by omega
  simp [headsOf, List.getD_eq_getElem?_getD, hi, he]
/-- Two heads made one. -/
def mergeH (hs : List Nat) (a b : Nat) : List Nat := if a = b then hs else hs.map fun h => if h = max a b then min a b else h
theorem headsOf_set {up : List Nat} (h : GoodUp up) {lo hi : Nat} (h1 : 1 ≤ lo) (h2 : lo < hi) (h3 : hi ≤ up.length) (rl : up.getD (lo - 1) 0 = lo) (rh : up.getD (hi - 1) 0 = hi) :
    headsOf (up.set (hi - 1) lo) = mergeH (headsOf up) lo hi := by
  unfold mergeH
  rw [if_neg (by omega), show max lo hi = hi by omega, show min lo hi = lo by omega]
  unfold headsOf
  rw [List.length_set, List.map_map]
  refine List.map_congr_left fun i hi' => ?_
  rw [List.mem_range] at hi'
  exact head_set h h1 h2 h3 rl rh (by omega) (by omega)
theorem mergeH_length (hs : List Nat) (a b : Nat) : (mergeH hs a b).length = hs.length := by
  unfold mergeH
  split <;> simp
/-- Numbers joined, one after the other, with the first of them. -/
def joinH (hs : List Nat) (l0 : Nat) : List Nat → List Nat
  | [] => hs
  | i :: l => joinH (mergeH hs (hs.getD (l0 - 1) 0) (hs.getD (i - 1) 0)) l0 l
theorem joinH_length : ∀ (l : List Nat) (hs : List Nat) (l0 : Nat), (joinH hs l0 l).length = hs.length
  | [], _, _ => rfl
  | i :: l, hs, l0 => (joinH_length l _ l0).trans (mergeH_length _ _ _)
/-- The class of a head; all classes, by their heads. -/
def classH (hs : List Nat) (h : Nat) : List Nat := (List.range hs.length).filterMap fun i => if hs.getD i 0 = h then some (i + 1) else none
def classesH (hs : List Nat) : List (List Nat) := (List.range hs.length).filterMap fun i => if hs.getD i 0 = i + 1 then some (classH hs (i + 1)) else none
end Go.Proofs.Ytpkhmhfgnpnpfaa
