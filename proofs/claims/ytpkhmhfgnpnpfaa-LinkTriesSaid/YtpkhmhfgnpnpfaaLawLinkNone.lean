/- LinkNone: the walk. -/
import Derived.Test.YtpkhmhfgnpnpfaaAlive18
import Derived.Test.YtpkhmhfgnpnpfaaOpen18
namespace Go.Proofs.Ytpkhmhfgnpnpfaa
set_option linter.unusedSimpArgs false
set_option linter.unusedVariables false
open Go.RowKit
attribute [local go_sem] objAt_alloc objAt_alloc_at objAt_drew objAt_drewN objAt_setCell comesTo_value comesTo_enter

theorem try_nil (a : Option Addr) (n c : Nat) (w : World) : Calls Try.prog 22 #[.pointer none, .slice a n c] w fun e w' => e = .returned (.int .i64 1) ∧ Below w.heap.size w w' := by
  have HB : Hid (Below w.heap.size w (w.alloc (.cells #[.pointer none] 24))) := hide ((Below.refl _ _).alloc (Nat.le_refl _) _)
  go_enter Try.func22, Try.ntmps22
  go_wp2
  go_ret
  exact ⟨rfl, HB.out⟩
theorem add_nil (a : Option Addr) (n c : Nat) (w : World) : Calls Try.prog 14 #[.pointer none, .slice a n c] w fun e w' => e = .returned (.int .i64 1) ∧ Below w.heap.size w w' := by
  have HT := hide (try_nil a n c w)
  go_enter Try.func14, Try.ntmps14
  go_wp2_with (go_at_call 22; refine HT.out.mono ?_; rintro e w1 ⟨rfl, hb1⟩; have HB1 := hide hb1; clear hb1)
  go_ret
  exact ⟨rfl, HB1.out⟩
theorem links_nil (w : World) : Calls Try.prog 20 #[.pointer none] w fun e w' => e = .returned (.slice none 0 0) ∧ w = w' := by
  go_enter Try.func20, Try.ntmps20
  go_wp2
  go_ret
  exact ⟨rfl, rfl⟩
theorem ahead_nil (i : Int) (w : World) : Calls Try.prog 15 #[.pointer none, .int .i64 i] w fun e w' => e = .returned (.slice none 0 0) ∧ w = w' := by
  go_enter Try.func15, Try.ntmps15
  go_wp2
  go_ret
  exact ⟨rfl, rfl⟩
theorem behind_nil (i : Int) (w : World) : Calls Try.prog 16 #[.pointer none, .int .i64 i] w fun e w' => e = .returned (.slice none 0 0) ∧ w = w' := by
  go_enter Try.func16, Try.ntmps16
  go_wp2
  go_ret
  exact ⟨rfl, rfl⟩
theorem order_nil (w : World) : Calls Try.prog 19 #[.pointer none] w fun e w' => e = .returned (.slice none 0 0) ∧ w = w' := by
  go_enter Try.func19, Try.ntmps19
  go_wp2
  go_ret
  exact ⟨rfl, rfl⟩
theorem ggrow_nil (i : Int) (w : World) : Calls Try.prog 24 #[.pointer none, .int .i64 i] w fun e w' => e = .returned (.int .i64 1) ∧ w = w' := by
  go_enter Try.func24, Try.ntmps24
  go_wp2
  go_ret
  exact ⟨rfl, rfl⟩

set_option maxHeartbeats 4000000 in
set_option maxRecDepth 100000 in
theorem linkNone_walk (q : PLink) (i : Int) (w : World) :
    Calls Try.prog 6 #[elink q, .int .i64 i] w fun e w' => e = .returned (.bool true) ∧ Below w.heap.size w w' := by
  obtain ⟨q1, q2, q3⟩ := q
  unfold elink
  simp only
  obtain ⟨w0, hw0⟩ : ∃ w0, w.alloc (.cells #[.int .i64 q1, .int .i64 q2, .int .i64 q3] 30) = w0 := ⟨_, rfl⟩
  have hb0 : Below w.heap.size w w0 := by rw [← hw0]; exact (Below.refl _ _).alloc (Nat.le_refl _) _
  have hc0 : w0.heap[w.heap.size]? = some (.cells #[.int .i64 q1, .int .i64 q2, .int .i64 q3] 30 (0, 0)) := by rw [← hw0]; exact heap_alloc_new w _
  have hs0 : w.heap.size < w0.heap.size := by rw [← hw0]; simp
  have HC : Hid (∀ W, Below w0.heap.size w0 W → W.cell? ⟨w.heap.size, 0, none⟩ = some (.int .i64 q1) ∧ W.cell? ⟨w.heap.size, 1, none⟩ = some (.int .i64 q2) ∧ W.cell? ⟨w.heap.size, 2, none⟩ = some (.int .i64 q3)) := hide fun W hW => by
    have h1 := (hW.block w.heap.size hs0).trans hc0
    refine ⟨?_, ?_, ?_⟩ <;> simp [World.cell?, h1]
  clear hc0
  go_enter Try.func6, Try.ntmps6
  go_wp2_with (go_at_call 12; refine Hid.out ?_)
  refine hide ?_
  refine (alive18_calls w0).mono ?_
  rintro e w1 ⟨rfl, hb1⟩
  obtain ⟨c0, c1, c2⟩ := HC.out w1 hb1
  have HB1 := hide hb1
  clear hb1
  go_wp2_with (go_at_call 14; refine Hid.out ?_)
  refine hide ?_
  refine (add_nil _ _ _ _).mono ?_
  rintro e w2 ⟨rfl, hb2⟩
  have hb2' : Below w0.heap.size w0 w2 := (HB1.out.alloc HB1.out.size _).trans (hb2.mono (by have := HB1.out.size; simp; omega))
  clear c0 c1 c2
  obtain ⟨c0, c1, c2⟩ := HC.out w2 hb2'
  have HB2 := hide hb2'
  clear hb2 hb2'
  go_wp2_with (go_at_call 22; refine Hid.out ?_)
  refine hide ?_
  refine (try_nil _ _ _ _).mono ?_
  rintro e w3 ⟨rfl, hb3⟩
  have hb3' : Below w0.heap.size w0 w3 := (HB2.out.alloc HB2.out.size _).trans (hb3.mono (by have := HB2.out.size; simp; omega))
  have HB3 := hide hb3'
  clear hb3 hb3' c0 c1 c2
  go_wp2_with (first | (go_at_call 20; refine (links_nil _).mono ?_; rintro e w4 ⟨rfl, rfl⟩) | (go_at_call 15; refine (ahead_nil _ _).mono ?_; rintro e w4 ⟨rfl, rfl⟩) | (go_at_call 16; refine (behind_nil _ _).mono ?_; rintro e w4 ⟨rfl, rfl⟩) | (go_at_call 19; refine (order_nil _).mono ?_; rintro e w4 ⟨rfl, rfl⟩) | (go_at_call 24; refine (ggrow_nil _ _).mono ?_; rintro e w4 ⟨rfl, rfl⟩))
  go_ret
  exact ⟨rfl, hb0.trans (HB3.out.mono hb0.size)⟩
end Go.Proofs.Ytpkhmhfgnpnpfaa
