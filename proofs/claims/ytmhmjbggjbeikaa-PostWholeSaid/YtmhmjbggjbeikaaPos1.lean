/- Positions: what they are in memory; New, Get, Part, Add. -/
import Derived.Test.YtmhmjbggjbeikaaKey
import Derived.BigRegion
namespace Go.Proofs.Ytmhmjbggjbeikaa
set_option linter.unusedSimpArgs false
set_option linter.unusedVariables false
open Go.RowKit
attribute [local go_sem] objAt_alloc objAt_alloc_at objAt_drew objAt_setCell

def maxMoney : Int := 1152921504606846976

/-! ### plain -/
def okPart (x : Int) : Prop := 0 ≤ x ∧ x ≤ 1152921504606846976
def Good3 (x : Three) : Prop := okPart x.1 ∧ okPart x.2.1 ∧ okPart x.2.2
/-- What positions hold: parts within their ends, none of them all nought. -/
def GoodPos (m : List (Key × Three)) : Prop := ∀ p ∈ m, Good3 p.2 ∧ p.2 ≠ (0, 0, 0)
def posGet (m : List (Key × Three)) (k : Key) : Three := (look m k).getD (0, 0, 0)
def part3 (x : Three) (sub : Int) : Int := if sub = 0 then x.1 else if sub = 1 then x.2.1 else x.2.2
def set3 (x : Three) (sub v : Int) : Three := if sub = 0 then (v, x.2) else if sub = 1 then (x.1, v, x.2.2) else (x.1, x.2.1, v)
def isPart (sub : Int) : Prop := 0 ≤ sub ∧ sub < 3
instance (sub : Int) : Decidable (isPart sub) := by unfold isPart; infer_instance
def within (by_ : Int) : Prop := -1152921504606846976 ≤ by_ ∧ by_ ≤ 1152921504606846976
instance (x : Int) : Decidable (within x) := by unfold within; infer_instance
def addErr (m : List (Key × Three)) (k : Key) (sub by_ : Int) : Int :=
  if ¬ (isPart sub ∧ within by_) then 1 else
  if part3 (posGet m k) sub + by_ < 0 then 30 else
  if part3 (posGet m k) sub + by_ > 1152921504606846976 then 12 else 0
def addMap (m : List (Key × Three)) (k : Key) (sub by_ : Int) : List (Key × Three) :=
  if addErr m k sub by_ ≠ 0 then m else
  if set3 (posGet m k) sub (part3 (posGet m k) sub + by_) = (0, 0, 0) then del m k else put m k (set3 (posGet m k) sub (part3 (posGet m k) sub + by_))

theorem good_get {m : List (Key × Three)} (h : GoodPos m) (k : Key) : Good3 (posGet m k) := by
  unfold posGet
  cases hl : look m k with
  | none => exact ⟨⟨by decide, by decide⟩, ⟨by decide, by decide⟩, ⟨by decide, by decide⟩⟩
  | some v => exact (h _ (look_some hl)).1

/-! ### in memory -/
/-- Block p is a Pos that has the positions m; its blocks are those of F. -/
def PosAt (w : World) (p : Nat) (F : Nat → Prop) (m : List (Key × Three)) : Prop :=
  F p ∧ (∀ k, F k → k < w.heap.size) ∧ GoodPos m ∧
  ((w.heap[p]? = some (.cells #[.map none] 74 (0, 0)) ∧ m = []) ∨
   ∃ b, b ≠ p ∧ F b ∧ w.heap[p]? = some (.cells #[.map (some b)] 74 (0, 0)) ∧ MapB ekey eval3 w b m)

/-! ### the walks -/
set_option maxHeartbeats 400000 in
theorem isPart_calls (a : Int) (w : World) :
    Calls Try.prog 36 #[.int .i64 a] w fun e w' => e = .returned (.bool (decide (isPart a))) ∧ w = w' := by
  unfold isPart
  by_cases h0 : 0 ≤ a
  all_goals by_cases h1 : a < 3
  all_goals
    go_enter Try.func36, Try.ntmps36
    go_wp2
    go_ret
    exact ⟨by simp [h0, h1] <;> omega, rfl⟩
theorem isPart_yes (a : Int) (w : World) (h : isPart a) : Calls Try.prog 36 #[.int .i64 a] w fun e w' => e = .returned (.bool true) ∧ w = w' := by
  have := isPart_calls a w
  rwa [decide_eq_true h] at this
theorem isPart_no (a : Int) (w : World) (h : ¬ isPart a) : Calls Try.prog 36 #[.int .i64 a] w fun e w' => e = .returned (.bool false) ∧ w = w' := by
  have := isPart_calls a w
  rwa [decide_eq_false h] at this

set_option maxHeartbeats 400000 in
theorem add_nil (k : Key) (sub by_ : Int) (w : World) :
    Calls Try.prog 16 #[.pointer none, ekey k, .int .i64 sub, .int .i64 by_] w fun e w' => e = .returned (.int .i64 1) ∧ Below w.heap.size w w' := by
  unfold ekey
  go_enter Try.func16, Try.ntmps16
  go_wp2
  go_ret
  exact ⟨rfl, (Below.refl _ _).alloc (Nat.le_refl _) _⟩

set_option maxHeartbeats 400000 in
theorem add_refuse (p : Nat) (k : Key) (sub by_ : Int) (w : World) (h : ¬ (isPart sub ∧ within by_)) :
    Calls Try.prog 16 #[.pointer (some ⟨p, 0, none⟩), ekey k, .int .i64 sub, .int .i64 by_] w fun e w' => e = .returned (.int .i64 1) ∧ Below w.heap.size w w' := by
  unfold ekey
  by_cases h1 : isPart sub
  · by_cases h2 : by_ < -1152921504606846976
    · clear h
      go_enter Try.func16, Try.ntmps16
      go_wp2_with (go_at_call 36; refine (isPart_yes _ _ h1).mono ?_; rintro e w' ⟨rfl, rfl⟩)
      go_ret
      exact ⟨rfl, (Below.refl _ _).alloc (Nat.le_refl _) _⟩
    · have h3 : 1152921504606846976 < by_ := by unfold within at h; simp only [h1, true_and] at h; omega
      clear h
      go_enter Try.func16, Try.ntmps16
      go_wp2_with (go_at_call 36; refine (isPart_yes _ _ h1).mono ?_; rintro e w' ⟨rfl, rfl⟩)
      go_ret
      exact ⟨rfl, (Below.refl _ _).alloc (Nat.le_refl _) _⟩
  · clear h
    go_enter Try.func16, Try.ntmps16
    go_wp2_with (go_at_call 36; refine (isPart_no _ _ h1).mono ?_; rintro e w' ⟨rfl, rfl⟩)
    go_ret
    exact ⟨rfl, (Below.refl _ _).alloc (Nat.le_refl _) _⟩

set_option maxHeartbeats 400000 in
theorem add_low (p b : Nat) (mv : Value) (k1 k2 : ByteArray) (x y z : Int) (sub by_ : Int) (w : World) (hp : w.cell? ⟨p, 0, none⟩ = some mv) (hpl : p < w.heap.size) (hbl : b < w.heap.size)
    (hlook : ∀ W : World, objAt W b = objAt w b → (Instr.lookup 72 mv (.agg #[.string k1, .string k2]) false).run Try.prog W = .ok (.agg #[.int .i64 x, .int .i64 y, .int .i64 z]) W)
    (hx : okPart x) (hy : okPart y) (hz : okPart z) (h1 : isPart sub) (h2 : within by_) (h3 : part3 (x, y, z) sub + by_ < 0) :
    Calls Try.prog 16 #[.pointer (some ⟨p, 0, none⟩), .agg #[.string k1, .string k2], .int .i64 sub, .int .i64 by_] w fun e w' => e = .returned (.int .i64 30) ∧ Below w.heap.size w w' := by
  have p1 : p < w.heap.size + 1 := by omega
  have p2 : p < w.heap.size + 1 + 1 := by omega
  have b1 : b < w.heap.size + 1 := by omega
  have b2 : b < w.heap.size + 1 + 1 := by omega
  obtain ⟨hx1, hx2⟩ := hx
  obtain ⟨hy1, hy2⟩ := hy
  obtain ⟨hz1, hz2⟩ := hz
  obtain ⟨g1, g2⟩ := h2
  have hs : sub = 0 ∨ sub = 1 ∨ sub = 2 := by unfold isPart at h1; omega
  rcases hs with rfl | rfl | rfl
  all_goals
    simp [part3] at h3
    go_enter Try.func16, Try.ntmps16
    go_wp2_with (go_at_call 36; refine (isPart_yes _ _ h1).mono ?_; rintro e w' ⟨rfl, rfl⟩)
    go_region
    all_goals go_wp2
    go_ret
    exact ⟨rfl, (((Below.refl _ _).alloc (Nat.le_refl _) _).alloc (by simp) _).drew⟩

set_option maxHeartbeats 400000 in
theorem add_over (p b : Nat) (mv : Value) (k1 k2 : ByteArray) (x y z : Int) (sub by_ : Int) (w : World) (hp : w.cell? ⟨p, 0, none⟩ = some mv) (hpl : p < w.heap.size) (hbl : b < w.heap.size)
    (hlook : ∀ W : World, objAt W b = objAt w b → (Instr.lookup 72 mv (.agg #[.string k1, .string k2]) false).run Try.prog W = .ok (.agg #[.int .i64 x, .int .i64 y, .int .i64 z]) W)
    (hx : okPart x) (hy : okPart y) (hz : okPart z) (h1 : isPart sub) (h2 : within by_) (h3 : part3 (x, y, z) sub + by_ > 1152921504606846976) :
    Calls Try.prog 16 #[.pointer (some ⟨p, 0, none⟩), .agg #[.string k1, .string k2], .int .i64 sub, .int .i64 by_] w fun e w' => e = .returned (.int .i64 12) ∧ Below w.heap.size w w' := by
  have p1 : p < w.heap.size + 1 := by omega
  have p2 : p < w.heap.size + 1 + 1 := by omega
  have b1 : b < w.heap.size + 1 := by omega
  have b2 : b < w.heap.size + 1 + 1 := by omega
  obtain ⟨hx1, hx2⟩ := hx
  obtain ⟨hy1, hy2⟩ := hy
  obtain ⟨hz1, hz2⟩ := hz
  obtain ⟨g1, g2⟩ := h2
  have hs : sub = 0 ∨ sub = 1 ∨ sub = 2 := by unfold isPart at h1; omega
  rcases hs with rfl | rfl | rfl
  all_goals
    simp [part3] at h3
    go_enter Try.func16, Try.ntmps16
    go_wp2_with (go_at_call 36; refine (isPart_yes _ _ h1).mono ?_; rintro e w' ⟨rfl, rfl⟩)
    go_region
    all_goals go_wp2
    go_ret
    exact ⟨rfl, (((Below.refl _ _).alloc (Nat.le_refl _) _).alloc (by simp) _).drew⟩

set_option maxHeartbeats 1000000 in
theorem add_zero_some (p b : Nat) (k1 k2 : ByteArray) (x y z : Int) (sub by_ : Int) (w : World) (upd : World → World) (hp : w.cell? ⟨p, 0, none⟩ = some (.map (some b))) (hpl : p < w.heap.size) (hbl : b < w.heap.size)
    (hlook : ∀ W : World, objAt W b = objAt w b → (Instr.lookup 72 (.map (some b)) (.agg #[.string k1, .string k2]) false).run Try.prog W = .ok (.agg #[.int .i64 x, .int .i64 y, .int .i64 z]) W)
    (hrun : ∀ W : World, objAt W b = objAt w b → (Builtin.delete_ #[72, 24] 0 #[.map (some b), .agg #[.string k1, .string k2]]).run Try.prog W = .ok (.tuple #[]) (upd W))
    (hx : okPart x) (hy : okPart y) (hz : okPart z) (h1 : isPart sub) (h2 : within by_) (h3 : set3 (x, y, z) sub (part3 (x, y, z) sub + by_) = (0, 0, 0)) :
    Calls Try.prog 16 #[.pointer (some ⟨p, 0, none⟩), .agg #[.string k1, .string k2], .int .i64 sub, .int .i64 by_] w fun e w' => e = .returned (.int .i64 0) ∧ ∃ o1 o2, w' = upd (((w.alloc o1).alloc o2).drew.drew) := by
  have p1 : p < w.heap.size + 1 := by omega
  have p2 : p < w.heap.size + 1 + 1 := by omega
  have p3 : p < w.heap.size + 1 + 1 + 1 := by omega
  have b1 : b < w.heap.size + 1 := by omega
  have b2 : b < w.heap.size + 1 + 1 := by omega
  have hnil := fun W r => run_eql_map_nil (P := Try.prog) W _ _ _ r Try.underlying72
  obtain ⟨hx1, hx2⟩ := hx
  obtain ⟨hy1, hy2⟩ := hy
  obtain ⟨hz1, hz2⟩ := hz
  obtain ⟨g1, g2⟩ := h2
  have hs : sub = 0 ∨ sub = 1 ∨ sub = 2 := by unfold isPart at h1; omega
  rcases hs with rfl | rfl | rfl
  · simp [part3, set3] at h3
    obtain ⟨h3, rfl, rfl⟩ := h3
    have heq := arr3_eq (x + by_, 0, 0) (0, 0, 0) (by rw [h3])
    simp only [eval3] at heq
    have h4 : 0 ≤ x + by_ := by omega
    have h5 : x + by_ ≤ 0 := by omega
    clear h3
    go_enter Try.func16, Try.ntmps16
    go_wp2_with (go_at_call 36; refine (isPart_yes _ _ h1).mono ?_; rintro e w' ⟨rfl, rfl⟩)
    go_region
    all_goals go_wp2
    go_region
    all_goals go_wp2
    go_ret
    exact ⟨rfl, _, _, rfl⟩
  · simp [part3, set3] at h3
    obtain ⟨rfl, h3, rfl⟩ := h3
    have heq := arr3_eq (0, y + by_, 0) (0, 0, 0) (by rw [h3])
    simp only [eval3] at heq
    have h4 : 0 ≤ y + by_ := by omega
    have h5 : y + by_ ≤ 0 := by omega
    clear h3
    go_enter Try.func16, Try.ntmps16
    go_wp2_with (go_at_call 36; refine (isPart_yes _ _ h1).mono ?_; rintro e w' ⟨rfl, rfl⟩)
    go_region
    all_goals go_wp2
    go_region
    all_goals go_wp2
    go_ret
    exact ⟨rfl, _, _, rfl⟩
  · simp [part3, set3] at h3
    obtain ⟨rfl, rfl, h3⟩ := h3
    have heq := arr3_eq (0, 0, z + by_) (0, 0, 0) (by rw [h3])
    simp only [eval3] at heq
    have h4 : 0 ≤ z + by_ := by omega
    have h5 : z + by_ ≤ 0 := by omega
    clear h3
    go_enter Try.func16, Try.ntmps16
    go_wp2_with (go_at_call 36; refine (isPart_yes _ _ h1).mono ?_; rintro e w' ⟨rfl, rfl⟩)
    go_region
    all_goals go_wp2
    go_region
    all_goals go_wp2
    go_ret
    exact ⟨rfl, _, _, rfl⟩

set_option maxHeartbeats 1000000 in
theorem add_some (p b : Nat) (k1 k2 : ByteArray) (x y z : Int) (sub by_ : Int) (w : World) (upd : World → World) (hp : w.cell? ⟨p, 0, none⟩ = some (.map (some b))) (hpl : p < w.heap.size) (hbl : b < w.heap.size)
    (hlook : ∀ W : World, objAt W b = objAt w b → (Instr.lookup 72 (.map (some b)) (.agg #[.string k1, .string k2]) false).run Try.prog W = .ok (.agg #[.int .i64 x, .int .i64 y, .int .i64 z]) W)
    (hrun : ∀ W : World, objAt W b = objAt w b → (Instr.mapUpdate 72 (.map (some b)) (.agg #[.string k1, .string k2]) (eval3 (set3 (x, y, z) sub (part3 (x, y, z) sub + by_)))).run Try.prog W = .ok () (upd W))
    (hx : okPart x) (hy : okPart y) (hz : okPart z) (h1 : isPart sub) (h2 : within by_) (h4 : 0 ≤ part3 (x, y, z) sub + by_) (h5 : part3 (x, y, z) sub + by_ ≤ 1152921504606846976) (h3 : set3 (x, y, z) sub (part3 (x, y, z) sub + by_) ≠ (0, 0, 0)) :
    Calls Try.prog 16 #[.pointer (some ⟨p, 0, none⟩), .agg #[.string k1, .string k2], .int .i64 sub, .int .i64 by_] w fun e w' => e = .returned (.int .i64 0) ∧ ∃ o1 o2, w' = upd (((w.alloc o1).alloc o2).drew.drew) := by
  have p1 : p < w.heap.size + 1 := by omega
  have p2 : p < w.heap.size + 1 + 1 := by omega
  have p3 : p < w.heap.size + 1 + 1 + 1 := by omega
  have b1 : b < w.heap.size + 1 := by omega
  have b2 : b < w.heap.size + 1 + 1 := by omega
  have hnil := fun W r => run_eql_map_nil (P := Try.prog) W _ _ _ r Try.underlying72
  obtain ⟨hx1, hx2⟩ := hx
  obtain ⟨hy1, hy2⟩ := hy
  obtain ⟨hz1, hz2⟩ := hz
  obtain ⟨g1, g2⟩ := h2
  have hs : sub = 0 ∨ sub = 1 ∨ sub = 2 := by unfold isPart at h1; omega
  rcases hs with rfl | rfl | rfl
  · simp only [part3, set3, if_true, if_false, Int.reduceEq] at h3 h4 h5 hrun
    have heq := arr3_ne (x + by_, y, z) (0, 0, 0) h3
    simp only [eval3] at heq hrun
    clear h3
    go_enter Try.func16, Try.ntmps16
    go_wp2_with (go_at_call 36; refine (isPart_yes _ _ h1).mono ?_; rintro e w' ⟨rfl, rfl⟩)
    go_region
    all_goals go_wp2
    go_region
    all_goals go_wp2
    go_ret
    exact ⟨rfl, _, _, rfl⟩
  · simp only [part3, set3, if_true, if_false, Int.reduceEq] at h3 h4 h5 hrun
    have heq := arr3_ne (x, y + by_, z) (0, 0, 0) h3
    simp only [eval3] at heq hrun
    clear h3
    go_enter Try.func16, Try.ntmps16
    go_wp2_with (go_at_call 36; refine (isPart_yes _ _ h1).mono ?_; rintro e w' ⟨rfl, rfl⟩)
    go_region
    all_goals go_wp2
    go_region
    all_goals go_wp2
    go_ret
    exact ⟨rfl, _, _, rfl⟩
  · simp only [part3, set3, if_true, if_false, Int.reduceEq] at h3 h4 h5 hrun
    have heq := arr3_ne (x, y, z + by_) (0, 0, 0) h3
    simp only [eval3] at heq hrun
    clear h3
    go_enter Try.func16, Try.ntmps16
    go_wp2_with (go_at_call 36; refine (isPart_yes _ _ h1).mono ?_; rintro e w' ⟨rfl, rfl⟩)
    go_region
    all_goals go_wp2
    go_region
    all_goals go_wp2
    go_ret
    exact ⟨rfl, _, _, rfl⟩

set_option maxHeartbeats 1000000 in
theorem add_zero_none (p : Nat) (k1 k2 : ByteArray) (sub by_ : Int) (w : World) (upd : World → World) (hp : w.cell? ⟨p, 0, none⟩ = some (.map none)) (hf : w.frozen? ⟨p, 0, none⟩ = false) (hpl : p < w.heap.size)
    (hlook : ∀ W : World, (Instr.lookup 72 (.map none) (.agg #[.string k1, .string k2]) false).run Try.prog W = .ok (.agg #[.int .i64 0, .int .i64 0, .int .i64 0]) W)
    (hrun : ∀ W : World, objAt W (w.heap.size + 1 + 1) = some (.map #[] 0) → (Builtin.delete_ #[72, 24] 0 #[.map (some (w.heap.size + 1 + 1)), .agg #[.string k1, .string k2]]).run Try.prog W = .ok (.tuple #[]) (upd W))
    (h1 : isPart sub) (h2 : within by_) (h3 : set3 (0, 0, 0) sub (part3 (0, 0, 0) sub + by_) = (0, 0, 0)) :
    Calls Try.prog 16 #[.pointer (some ⟨p, 0, none⟩), .agg #[.string k1, .string k2], .int .i64 sub, .int .i64 by_] w fun e w' => e = .returned (.int .i64 0) ∧ ∃ o1 o2, w' = upd ((((w.setCell ⟨p, 0, none⟩ (.map (some (w.heap.size + 1 + 1)))).alloc o1).alloc o2).alloc (.map #[] 0)).drew.drew := by
  have p1 : p < w.heap.size + 1 := by omega
  have p2 : p < w.heap.size + 1 + 1 := by omega
  have p3 : p < w.heap.size + 1 + 1 + 1 := by omega
  have q1 : ¬ (w.heap.size + 1 + 1 = p) := by omega
  have hnil := fun W r => run_eql_map_nil (P := Try.prog) W _ _ _ r Try.underlying72
  have hmk := @run_makeMap Try.prog
  obtain ⟨g1, g2⟩ := h2
  have hs : sub = 0 ∨ sub = 1 ∨ sub = 2 := by unfold isPart at h1; omega
  rcases hs with rfl | rfl | rfl
  · simp [part3, set3] at h3
    have heq := arr3_eq (by_, 0, 0) (0, 0, 0) (by rw [h3])
    simp only [eval3] at heq
    have h4 : 0 ≤ by_ := by omega
    have h5 : by_ ≤ 0 := by omega
    clear h3
    go_enter Try.func16, Try.ntmps16
    go_wp2_with (go_at_call 36; refine (isPart_yes _ _ h1).mono ?_; rintro e w' ⟨rfl, rfl⟩)
    go_region
    all_goals go_wp2
    go_region
    all_goals go_wp2
    go_ret
    exact ⟨rfl, _, _, rfl⟩
  · simp [part3, set3] at h3
    have heq := arr3_eq (0, by_, 0) (0, 0, 0) (by rw [h3])
    simp only [eval3] at heq
    have h4 : 0 ≤ by_ := by omega
    have h5 : by_ ≤ 0 := by omega
    clear h3
    go_enter Try.func16, Try.ntmps16
    go_wp2_with (go_at_call 36; refine (isPart_yes _ _ h1).mono ?_; rintro e w' ⟨rfl, rfl⟩)
    go_region
    all_goals go_wp2
    go_region
    all_goals go_wp2
    go_ret
    exact ⟨rfl, _, _, rfl⟩
  · simp [part3, set3] at h3
    have heq := arr3_eq (0, 0, by_) (0, 0, 0) (by rw [h3])
    simp only [eval3] at heq
    have h4 : 0 ≤ by_ := by omega
    have h5 : by_ ≤ 0 := by omega
    clear h3
    go_enter Try.func16, Try.ntmps16
    go_wp2_with (go_at_call 36; refine (isPart_yes _ _ h1).mono ?_; rintro e w' ⟨rfl, rfl⟩)
    go_region
    all_goals go_wp2
    go_region
    all_goals go_wp2
    go_ret
    exact ⟨rfl, _, _, rfl⟩

set_option maxHeartbeats 1000000 in
theorem add_none (p : Nat) (k1 k2 : ByteArray) (sub by_ : Int) (w : World) (upd : World → World) (hp : w.cell? ⟨p, 0, none⟩ = some (.map none)) (hf : w.frozen? ⟨p, 0, none⟩ = false) (hpl : p < w.heap.size)
    (hlook : ∀ W : World, (Instr.lookup 72 (.map none) (.agg #[.string k1, .string k2]) false).run Try.prog W = .ok (.agg #[.int .i64 0, .int .i64 0, .int .i64 0]) W)
    (hrun : ∀ W : World, objAt W (w.heap.size + 1 + 1) = some (.map #[] 0) → (Instr.mapUpdate 72 (.map (some (w.heap.size + 1 + 1))) (.agg #[.string k1, .string k2]) (eval3 (set3 (0, 0, 0) sub (part3 (0, 0, 0) sub + by_)))).run Try.prog W = .ok () (upd W))
    (h1 : isPart sub) (h2 : within by_) (h4 : 0 ≤ part3 (0, 0, 0) sub + by_) (h5 : part3 (0, 0, 0) sub + by_ ≤ 1152921504606846976) (h3 : set3 (0, 0, 0) sub (part3 (0, 0, 0) sub + by_) ≠ (0, 0, 0)) :
    Calls Try.prog 16 #[.pointer (some ⟨p, 0, none⟩), .agg #[.string k1, .string k2], .int .i64 sub, .int .i64 by_] w fun e w' => e = .returned (.int .i64 0) ∧ ∃ o1 o2, w' = upd ((((w.setCell ⟨p, 0, none⟩ (.map (some (w.heap.size + 1 + 1)))).alloc o1).alloc o2).alloc (.map #[] 0)).drew.drew := by
  have p1 : p < w.heap.size + 1 := by omega
  have p2 : p < w.heap.size + 1 + 1 := by omega
  have p3 : p < w.heap.size + 1 + 1 + 1 := by omega
  have q1 : ¬ (w.heap.size + 1 + 1 = p) := by omega
  have hnil := fun W r => run_eql_map_nil (P := Try.prog) W _ _ _ r Try.underlying72
  have hmk := @run_makeMap Try.prog
  obtain ⟨g1, g2⟩ := h2
  have hs : sub = 0 ∨ sub = 1 ∨ sub = 2 := by unfold isPart at h1; omega
  rcases hs with rfl | rfl | rfl
  · simp only [part3, set3, if_true, if_false, Int.reduceEq] at h3 h4 h5 hrun
    simp at h4
    have heq := arr3_ne (by_, 0, 0) (0, 0, 0) (by simpa using h3)
    simp only [eval3, Int.zero_add] at heq hrun
    clear h3
    go_enter Try.func16, Try.ntmps16
    go_wp2_with (go_at_call 36; refine (isPart_yes _ _ h1).mono ?_; rintro e w' ⟨rfl, rfl⟩)
    go_region
    all_goals go_wp2
    go_region
    all_goals go_wp2
    go_ret
    exact ⟨rfl, _, _, rfl⟩
  · simp only [part3, set3, if_true, if_false, Int.reduceEq] at h3 h4 h5 hrun
    simp at h4
    have heq := arr3_ne (0, by_, 0) (0, 0, 0) (by simpa using h3)
    simp only [eval3, Int.zero_add] at heq hrun
    clear h3
    go_enter Try.func16, Try.ntmps16
    go_wp2_with (go_at_call 36; refine (isPart_yes _ _ h1).mono ?_; rintro e w' ⟨rfl, rfl⟩)
    go_region
    all_goals go_wp2
    go_region
    all_goals go_wp2
    go_ret
    exact ⟨rfl, _, _, rfl⟩
  · simp only [part3, set3, if_true, if_false, Int.reduceEq] at h3 h4 h5 hrun
    simp at h4
    have heq := arr3_ne (0, 0, by_) (0, 0, 0) (by simpa using h3)
    simp only [eval3, Int.zero_add] at heq hrun
    clear h3
    go_enter Try.func16, Try.ntmps16
    go_wp2_with (go_at_call 36; refine (isPart_yes _ _ h1).mono ?_; rintro e w' ⟨rfl, rfl⟩)
    go_region
    all_goals go_wp2
    go_region
    all_goals go_wp2
    go_ret
    exact ⟨rfl, _, _, rfl⟩

end Go.Proofs.Ytmhmjbggjbeikaa
