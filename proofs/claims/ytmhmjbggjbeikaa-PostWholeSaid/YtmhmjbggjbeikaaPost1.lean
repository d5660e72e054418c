/- Chapter 11, the small functions: none, beyond, own, right, Move, Shift. -/
import Derived.Test.YtmhmjbggjbeikaaLaw10
import Derived.Test.YtmhmjbggjbeikaaStill
namespace Go.Proofs.Ytmhmjbggjbeikaa
set_option linter.unusedSimpArgs false
set_option linter.unusedVariables false
open Go.RowKit
attribute [local go_sem] objAt_alloc objAt_alloc_at objAt_drew objAt_drewN objAt_setCell

set_option maxHeartbeats 400000 in
theorem none_nil (w : World) : Calls Try.prog 42 #[.pointer none] w fun e w' => e = .returned (.bool true) ∧ w = w' := by
  go_enter Try.func42, Try.ntmps42
  go_wp2
  go_ret
  exact ⟨rfl, rfl⟩
set_option maxHeartbeats 400000 in
theorem none_zero (g : Nat) (w : World) (h : w.cell? ⟨g, 0, none⟩ = some (.pointer none)) : Calls Try.prog 42 #[.pointer (some ⟨g, 0, none⟩)] w fun e w' => e = .returned (.bool true) ∧ w = w' := by
  go_enter Try.func42, Try.ntmps42
  go_wp2
  go_ret
  exact ⟨rfl, rfl⟩
set_option maxHeartbeats 400000 in
theorem none_no (g p : Nat) (w : World) (h : w.cell? ⟨g, 0, none⟩ = some (.pointer (some ⟨p, 0, none⟩))) : Calls Try.prog 42 #[.pointer (some ⟨g, 0, none⟩)] w fun e w' => e = .returned (.bool false) ∧ w = w' := by
  go_enter Try.func42, Try.ntmps42
  go_wp2
  go_ret
  exact ⟨rfl, rfl⟩
set_option maxHeartbeats 400000 in
theorem beyond_calls (n : Int) (w : World) : Calls Try.prog 43 #[.int .i64 n] w fun e w' => e = .returned (.bool (decide (¬ within n))) ∧ w = w' := by
  by_cases h1 : n < -1152921504606846976
  · have hr : decide (¬ within n) = true := by unfold within; simp; omega
    rw [hr]
    go_enter Try.func43, Try.ntmps43
    go_wp2
    go_ret
    exact ⟨rfl, rfl⟩
  · by_cases h2 : n > 1152921504606846976
    · have hr : decide (¬ within n) = true := by unfold within; simp; omega
      rw [hr]
      go_enter Try.func43, Try.ntmps43
      go_wp2
      go_ret
      exact ⟨by simp [h2], rfl⟩
    · have hr : decide (¬ within n) = false := by unfold within; simp; omega
      rw [hr]
      go_enter Try.func43, Try.ntmps43
      go_wp2
      go_ret
      exact ⟨by simp [h2], rfl⟩

/-- A posting, plainly. -/
structure PPost where
  k : Key
  sub : Int
  by_ : Int
def epost (p : PPost) : Value := .agg #[.string p.k.1, .string p.k.2, .int .i64 p.sub, .int .i64 p.by_]
def okPost (p : PPost) : Prop := isPart p.sub ∧ within p.by_
instance (p : PPost) : Decidable (okPost p) := by unfold okPost; infer_instance

set_option maxHeartbeats 400000 in
theorem right_calls (p : PPost) (w : World) : Calls Try.prog 59 #[epost p] w fun e w' => e = .returned (.bool (decide (okPost p))) ∧ Below w.heap.size w w' := by
  obtain ⟨⟨k1, k2⟩, s, y⟩ := p
  unfold epost
  have HBY := hide (fun W => beyond_calls y W)
  by_cases h1 : 0 ≤ s
  · by_cases h2 : s ≤ 2
    · have hr : decide (okPost ⟨(k1, k2), s, y⟩) = decide (within y) := by
        have : isPart s := by unfold isPart; omega
        simp [okPost, this]
      rw [hr]
      by_cases hw : within y
      · have hb := fun W => HBY.out W
        simp only [hw, not_true_eq_false, decide_false] at hb
        rw [decide_eq_true hw]
        have HB := hide hb
        clear hb hr
        go_enter Try.func59, Try.ntmps59
        go_wp2_with (go_at_call 43; refine (HB.out _).mono ?_; rintro e w' ⟨rfl, rfl⟩)
        go_ret
        exact ⟨rfl, (Below.refl _ _).alloc (Nat.le_refl _) _⟩
      · have hb := fun W => HBY.out W
        simp only [hw, not_false_eq_true, decide_true] at hb
        rw [decide_eq_false hw]
        have HB := hide hb
        clear hb hr
        go_enter Try.func59, Try.ntmps59
        go_wp2_with (go_at_call 43; refine (HB.out _).mono ?_; rintro e w' ⟨rfl, rfl⟩)
        go_ret
        exact ⟨rfl, (Below.refl _ _).alloc (Nat.le_refl _) _⟩
    · have hr : decide (okPost ⟨(k1, k2), s, y⟩) = false := by
        have : ¬ isPart s := by unfold isPart; omega
        simp [okPost, this]
      rw [hr]
      clear hr
      go_enter Try.func59, Try.ntmps59
      go_wp2
      go_ret
      exact ⟨by simp [h2], (Below.refl _ _).alloc (Nat.le_refl _) _⟩
  · have hr : decide (okPost ⟨(k1, k2), s, y⟩) = false := by
      have : ¬ isPart s := by unfold isPart; omega
      simp [okPost, this]
    rw [hr]
    clear hr
    go_enter Try.func59, Try.ntmps59
    go_wp2
    go_ret
    exact ⟨by simp [h1], (Below.refl _ _).alloc (Nat.le_refl _) _⟩

set_option maxHeartbeats 400000 in
theorem move_calls (a b x : ByteArray) (y : Int) (w : World) (h1 : -9223372036854775807 ≤ y) (h2 : y ≤ 9223372036854775807) :
    Calls Try.prog 26 #[.string a, .string b, .string x, .int .i64 y] w fun e w' => e = .returned (.slice (some ⟨w.heap.size, 0, none⟩) 2 2) ∧
      w' = w.alloc (.cells #[.string a, .string x, .int .i64 0, .int .i64 (-y), .string b, .string x, .int .i64 0, .int .i64 y] 51) := by
  go_enter Try.func26, Try.ntmps26
  go_wp2
  go_ret
  exact ⟨rfl, rfl⟩
end Go.Proofs.Ytmhmjbggjbeikaa
