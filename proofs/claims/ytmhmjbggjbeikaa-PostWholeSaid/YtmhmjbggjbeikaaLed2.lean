/- The ledger: New, Issue. -/
import Derived.Test.YtmhmjbggjbeikaaLed1
namespace Go.Proofs.Ytmhmjbggjbeikaa
set_option linter.unusedSimpArgs false
set_option linter.unusedVariables false
open Go.RowKit
attribute [local go_sem] objAt_alloc objAt_alloc_at objAt_drew objAt_drewN objAt_setCell

def led0 : Led := ⟨[], [], []⟩
set_option maxHeartbeats 1000000 in
theorem ledNew_calls (w : World) : Calls Try.prog 24 #[] w fun e w' => ∃ g p F, e = .returned (.pointer (some ⟨g, 0, none⟩)) ∧ LedAt w' g p F led0 ∧ (∀ j, F j → w.heap.size ≤ j) ∧ Below w.heap.size w w' := by
  have HN := hide (posNew_calls w)
  go_enter Try.func24, Try.ntmps24
  go_wp2_with (go_at_call 14; refine HN.out.mono ?_; rintro e w1 ⟨rfl, hp1, hb1⟩; have HP1 := hide hp1; have HB1 := hide hb1; clear hp1 hb1)
  go_ret
  have hsz : w.heap.size < w1.heap.size := HP1.out.2.1 _ rfl
  refine ⟨w1.heap.size, w.heap.size, fun j => j = w.heap.size ∨ j = w1.heap.size, rfl, ⟨fun j => j = w.heap.size, none, none, ?_, HP1.out.below ((Below.refl _ _).alloc (Nat.le_refl _) _), .inl ⟨rfl, rfl⟩, .inl ⟨rfl, rfl⟩, .inr rfl, fun j hj => .inl hj, fun j hj => (by cases hj), fun j hj => (by cases hj), fun j hj => ?_, fun e => (by omega), fun j hj => (by cases hj), fun j hj => (by cases hj)⟩, fun j hj => ?_, HB1.out.alloc HB1.out.size _⟩
  · rw [heap_alloc_new]
  · simp; omega
  · omega

/-- What Issue answers, and what it leaves. -/
def issueErr (L : Led) (k : Key) (by_ : Int) : Int :=
  if ¬ within by_ then 1 else if by_ < 0 ∧ isBlk L.blk k = true then 35 else if issOf L.iss k.2 + by_ > 1152921504606846976 then 12 else addErr L.m k 0 by_
def issueLed (L : Led) (k : Key) (by_ : Int) : Led :=
  if issueErr L k by_ ≠ 0 then L else ⟨addMap L.m k 0 by_, put L.iss k.2 (issOf L.iss k.2 + by_), L.blk⟩

set_option maxHeartbeats 1000000 in
theorem issue_far (g p : Nat) (k1 k2 : ByteArray) (by_ : Int) (w : World) (hg : g < w.heap.size) (h0 : w.cell? ⟨g, 0, none⟩ = some (.pointer (some ⟨p, 0, none⟩))) (h : ¬ within by_) :
    Calls Try.prog 25 #[.pointer (some ⟨g, 0, none⟩), .agg #[.string k1, .string k2], .int .i64 by_] w fun e w' => e = .returned (.int .i64 1) ∧ Below w.heap.size w w' := by
  have hby := fun W => beyond_calls by_ W
  simp only [h, not_false_eq_true, decide_true] at hby
  have HBY := hide hby
  clear hby h
  go_enter Try.func25, Try.ntmps25
  go_wp2_with (first
    | (go_at_call 42; refine (none_no g p _ (by go_simp)).mono ?_; rintro e w' ⟨rfl, rfl⟩)
    | (go_at_call 43; refine (HBY.out _).mono ?_; rintro e w' ⟨rfl, rfl⟩))
  go_ret
  exact ⟨rfl, (Below.refl _ _).alloc (Nat.le_refl _) _⟩
set_option maxHeartbeats 1000000 in
theorem issue_barred (g p : Nat) (k1 k2 : ByteArray) (by_ : Int) (w : World) (hg : g < w.heap.size) (h0 : w.cell? ⟨g, 0, none⟩ = some (.pointer (some ⟨p, 0, none⟩))) (h : within by_) (hn : by_ < 0)
    (hb : ∀ W, Below w.heap.size w W → Calls Try.prog 34 #[.pointer (some ⟨g, 0, none⟩), .agg #[.string k1, .string k2]] W fun e w' => e = .returned (.bool true) ∧ Below W.heap.size W w') :
    Calls Try.prog 25 #[.pointer (some ⟨g, 0, none⟩), .agg #[.string k1, .string k2], .int .i64 by_] w fun e w' => e = .returned (.int .i64 35) ∧ Below w.heap.size w w' := by
  have hby := fun W => beyond_calls by_ W
  simp only [h, not_true_eq_false, decide_false] at hby
  have HBY := hide hby
  have HB := hide hb
  have HW := hide ((Below.refl w.heap.size w).alloc (Nat.le_refl _) (.cells #[.string k1, .string k2] 24))
  clear hby h hb
  go_enter Try.func25, Try.ntmps25
  go_wp2_with (first
    | (go_at_call 42; refine (none_no g p _ (by go_simp)).mono ?_; rintro e w' ⟨rfl, rfl⟩)
    | (go_at_call 43; refine (HBY.out _).mono ?_; rintro e w' ⟨rfl, rfl⟩)
    | (go_at_call 34; refine (HB.out _ HW.out).mono ?_; rintro e w1 ⟨rfl, hb1⟩; have HB1 := hide (HW.out.trans (hb1.mono HW.out.size)); clear hb1))
  go_ret
  exact ⟨rfl, HB1.out⟩
end Go.Proofs.Ytmhmjbggjbeikaa
