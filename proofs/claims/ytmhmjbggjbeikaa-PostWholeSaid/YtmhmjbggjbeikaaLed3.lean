/- (*Ledger).Issue, behind the bar of a block. -/
import Derived.Test.YtmhmjbggjbeikaaLed2
namespace Go.Proofs.Ytmhmjbggjbeikaa
set_option linter.unusedSimpArgs false
set_option linter.unusedVariables false
open Go.RowKit
attribute [local go_sem] objAt_alloc objAt_alloc_at objAt_drew objAt_drewN objAt_setCell

set_option maxHeartbeats 2000000 in
set_option maxRecDepth 100000 in
theorem issue_over (g p b : Nat) (im : Option Nat) (k1 k2 : ByteArray) (by_ n : Int) (w : World) (hg : g < w.heap.size) (hb : b < w.heap.size) (h0 : w.cell? ⟨g, 0, none⟩ = some (.pointer (some ⟨p, 0, none⟩))) (h1 : w.cell? ⟨g, 1, none⟩ = some (.map im)) (h : within by_)
    (hbl : by_ < 0 → ∀ W, Below w.heap.size w W → Calls Try.prog 34 #[.pointer (some ⟨g, 0, none⟩), .agg #[.string k1, .string k2]] W fun e w' => e = .returned (.bool false) ∧ Below W.heap.size W w')
    (hl : ∀ W : World, objAt W b = objAt w b → (Instr.lookup 53 (.map im) (.string k2) false).run Try.prog W = .ok (.int .i64 n) W) (hf1 : -9223372036854775808 ≤ n + by_) (hf2 : n + by_ ≤ 9223372036854775807) (ho : n + by_ > 1152921504606846976) :
    Calls Try.prog 25 #[.pointer (some ⟨g, 0, none⟩), .agg #[.string k1, .string k2], .int .i64 by_] w fun e w' => e = .returned (.int .i64 12) ∧ Below w.heap.size w w' := by
  have hby := fun W => beyond_calls by_ W
  simp only [h, not_true_eq_false, decide_false] at hby
  have HBY := hide hby
  have HW := hide ((Below.refl w.heap.size w).alloc (Nat.le_refl _) (.cells #[.string k1, .string k2] 24))
  clear hby h
  by_cases hneg : by_ < 0
  · have hblk := hbl hneg
    have HB := hide hblk
    clear hblk hbl
    go_enter Try.func25, Try.ntmps25
    go_wp2_with (first
      | (go_at_call 42; refine (none_no g p _ (by go_simp)).mono ?_; rintro e w' ⟨rfl, rfl⟩)
      | (go_at_call 43; refine (HBY.out _).mono ?_; rintro e w' ⟨rfl, rfl⟩)
      | (go_at_call 34; refine (HB.out _ HW.out).mono ?_; rintro e w1 ⟨rfl, hb1⟩; have HB1 := hide (HW.out.trans (hb1.mono HW.out.size)); have hk1 : w1.cell? ⟨w.heap.size, 0, none⟩ = some (.string k1) := (hb1.cell (p := ⟨w.heap.size, 0, none⟩) (by simp)).trans (by simp); have hk2 : w1.cell? ⟨w.heap.size, 1, none⟩ = some (.string k2) := (hb1.cell (p := ⟨w.heap.size, 1, none⟩) (by simp)).trans (by simp); have hk3 : w1.frozen? ⟨w.heap.size, 0, none⟩ = false := (hb1.frozen (p := ⟨w.heap.size, 0, none⟩) (by simp)).trans (by simp); have hk4 : w1.frozen? ⟨w.heap.size, 1, none⟩ = false := (hb1.frozen (p := ⟨w.heap.size, 1, none⟩) (by simp)).trans (by simp); have hsz1 : w.heap.size < w1.heap.size := (Nat.lt_of_lt_of_le (by simp) hb1.size); clear hb1))
    have hg1 : w1.cell? ⟨g, 1, none⟩ = some (.map im) := (HB1.out.cell (p := ⟨g, 1, none⟩) hg).trans h1
    have hl1 : ∀ W : World, objAt W b = objAt w1 b → (Instr.lookup 53 (.map im) (.string k2) false).run Try.prog W = .ok (.int .i64 n) W := fun W hW => hl W (hW.trans (HB1.out.block b hb))
    have hl2 := hl1 w1.drew rfl
    clear hl
    go_region
    all_goals go_wp2
    all_goals go_ret
    all_goals exact ⟨rfl, HB1.out.drew⟩
  · clear hbl
    go_enter Try.func25, Try.ntmps25
    go_wp2_with (first
      | (go_at_call 42; refine (none_no g p _ (by go_simp)).mono ?_; rintro e w' ⟨rfl, rfl⟩)
      | (go_at_call 43; refine (HBY.out _).mono ?_; rintro e w' ⟨rfl, rfl⟩))
    have HB1 := HW
    have hk1 : (w.alloc (.cells #[.string k1, .string k2] 24)).cell? ⟨w.heap.size, 0, none⟩ = some (.string k1) := by simp
    have hk2 : (w.alloc (.cells #[.string k1, .string k2] 24)).cell? ⟨w.heap.size, 1, none⟩ = some (.string k2) := by simp
    have hk3 : (w.alloc (.cells #[.string k1, .string k2] 24)).frozen? ⟨w.heap.size, 0, none⟩ = false := by simp
    have hk4 : (w.alloc (.cells #[.string k1, .string k2] 24)).frozen? ⟨w.heap.size, 1, none⟩ = false := by simp
    have hsz1 : w.heap.size < (w.alloc (.cells #[.string k1, .string k2] 24)).heap.size := by simp
    generalize w.alloc (.cells #[.string k1, .string k2] 24) = w1 at *
    have hg1 : w1.cell? ⟨g, 1, none⟩ = some (.map im) := (HB1.out.cell (p := ⟨g, 1, none⟩) hg).trans h1
    have hl1 : ∀ W : World, objAt W b = objAt w1 b → (Instr.lookup 53 (.map im) (.string k2) false).run Try.prog W = .ok (.int .i64 n) W := fun W hW => hl W (hW.trans (HB1.out.block b hb))
    have hl2 := hl1 w1.drew rfl
    clear hl
    go_region
    all_goals go_wp2
    all_goals go_ret
    all_goals exact ⟨rfl, HB1.out.drew⟩
set_option maxHeartbeats 4000000 in
set_option maxRecDepth 100000 in
theorem issue_refused (g p b : Nat) (im : Option Nat) (k1 k2 : ByteArray) (by_ n : Int) (w : World) (hg : g < w.heap.size) (hb : b < w.heap.size) (h0 : w.cell? ⟨g, 0, none⟩ = some (.pointer (some ⟨p, 0, none⟩))) (h1 : w.cell? ⟨g, 1, none⟩ = some (.map im)) (h : within by_)
    (hbl : by_ < 0 → ∀ W, Below w.heap.size w W → Calls Try.prog 34 #[.pointer (some ⟨g, 0, none⟩), .agg #[.string k1, .string k2]] W fun e w' => e = .returned (.bool false) ∧ Below W.heap.size W w')
    (hl : ∀ W : World, objAt W b = objAt w b → (Instr.lookup 53 (.map im) (.string k2) false).run Try.prog W = .ok (.int .i64 n) W) (hf1 : -9223372036854775808 ≤ n + by_) (hf2 : n + by_ ≤ 9223372036854775807) (ho : ¬ n + by_ > 1152921504606846976) (er : Int) (Fp : Nat → Prop) (Post : World → World → Prop) (hs1 : shortText k1) (hs2 : shortText k2) (hFg : ¬ Fp g) (hFb : ¬ Fp b) (hFn : ∀ j, Fp j → j < w.heap.size)
    (hadd : ∀ W, Below w.heap.size w W → Calls Try.prog 16 #[.pointer (some ⟨p, 0, none⟩), .agg #[.string k1, .string k2], .int .i64 0, .int .i64 by_] W fun e w' => e = .returned (.int .i64 er) ∧ Frm Fp W w' ∧ Post W w') (he : er ≠ 0) :
    Calls Try.prog 25 #[.pointer (some ⟨g, 0, none⟩), .agg #[.string k1, .string k2], .int .i64 by_] w fun e w' => e = .returned (.int .i64 er) ∧ ∃ W, Below w.heap.size w W ∧ Frm Fp W w' ∧ Post W w' := by
  have HADD := hide hadd
  clear hadd
  have hby := fun W => beyond_calls by_ W
  simp only [h, not_true_eq_false, decide_false] at hby
  have HBY := hide hby
  have HW := hide ((Below.refl w.heap.size w).alloc (Nat.le_refl _) (.cells #[.string k1, .string k2] 24))
  clear hby h
  by_cases hneg : by_ < 0
  · have hblk := hbl hneg
    have HB := hide hblk
    clear hblk hbl
    go_enter Try.func25, Try.ntmps25
    go_wp2_with (first
      | (go_at_call 42; refine (none_no g p _ (by go_simp)).mono ?_; rintro e w' ⟨rfl, rfl⟩)
      | (go_at_call 43; refine (HBY.out _).mono ?_; rintro e w' ⟨rfl, rfl⟩)
      | (go_at_call 34; refine (HB.out _ HW.out).mono ?_; rintro e w1 ⟨rfl, hb1⟩; have HB1 := hide (HW.out.trans (hb1.mono HW.out.size)); have hk1 : w1.cell? ⟨w.heap.size, 0, none⟩ = some (.string k1) := (hb1.cell (p := ⟨w.heap.size, 0, none⟩) (by simp)).trans (by simp); have hk2 : w1.cell? ⟨w.heap.size, 1, none⟩ = some (.string k2) := (hb1.cell (p := ⟨w.heap.size, 1, none⟩) (by simp)).trans (by simp); have hk3 : w1.frozen? ⟨w.heap.size, 0, none⟩ = false := (hb1.frozen (p := ⟨w.heap.size, 0, none⟩) (by simp)).trans (by simp); have hk4 : w1.frozen? ⟨w.heap.size, 1, none⟩ = false := (hb1.frozen (p := ⟨w.heap.size, 1, none⟩) (by simp)).trans (by simp); have hsz1 : w.heap.size < w1.heap.size := (Nat.lt_of_lt_of_le (by simp) hb1.size); clear hb1))
    have hg1 : w1.cell? ⟨g, 1, none⟩ = some (.map im) := (HB1.out.cell (p := ⟨g, 1, none⟩) hg).trans h1
    have hl1 : ∀ W : World, objAt W b = objAt w1 b → (Instr.lookup 53 (.map im) (.string k2) false).run Try.prog W = .ok (.int .i64 n) W := fun W hW => hl W (hW.trans (HB1.out.block b hb))
    have hl2 := hl1 w1.drew rfl
    clear hl
    go_region
    all_goals go_wp2_with fail
    have HO := hide (fun W => own_calls k1 k2 W hs1 hs2)
    refine (HO.out _).mono ?_
    rintro e w2 ⟨rfl, hb2⟩
    have HB2 := hide (HB1.out.drew.trans (hb2.mono HB1.out.size))
    have hm1 : w2.cell? ⟨w.heap.size, 0, none⟩ = some (.string k1) := (hb2.cell (p := ⟨w.heap.size, 0, none⟩) hsz1).trans hk1
    have hm2 : w2.cell? ⟨w.heap.size, 1, none⟩ = some (.string k2) := (hb2.cell (p := ⟨w.heap.size, 1, none⟩) hsz1).trans hk2
    have hm3 : w2.frozen? ⟨w.heap.size, 0, none⟩ = false := (hb2.frozen (p := ⟨w.heap.size, 0, none⟩) hsz1).trans hk3
    have hm4 : w2.frozen? ⟨w.heap.size, 1, none⟩ = false := (hb2.frozen (p := ⟨w.heap.size, 1, none⟩) hsz1).trans hk4
    have hsz2 : w.heap.size < w2.heap.size := Nat.lt_of_lt_of_le hsz1 hb2.size
    clear hb2 hk1 hk2 hk3 hk4 hg1 hl1 hl2 HB1 HW
    go_wp2_with fail
    have HB3 : Hid (Below w.heap.size w ((w2.setCell ⟨w.heap.size, 0, none⟩ (.string k1)).setCell ⟨w.heap.size, 1, none⟩ (.string k2))) := hide ((HB2.out.setCell (by simp) _).setCell (by simp) _)
    have hn1 : ((w2.setCell ⟨w.heap.size, 0, none⟩ (.string k1)).setCell ⟨w.heap.size, 1, none⟩ (.string k2)).cell? ⟨w.heap.size, 0, none⟩ = some (.string k1) := by go_simp
    have hn2 : ((w2.setCell ⟨w.heap.size, 0, none⟩ (.string k1)).setCell ⟨w.heap.size, 1, none⟩ (.string k2)).cell? ⟨w.heap.size, 1, none⟩ = some (.string k2) := by go_simp
    have hsz3 : w.heap.size < ((w2.setCell ⟨w.heap.size, 0, none⟩ (.string k1)).setCell ⟨w.heap.size, 1, none⟩ (.string k2)).heap.size := by simpa [World.setCell] using hsz2
    generalize (w2.setCell ⟨w.heap.size, 0, none⟩ (.string k1)).setCell ⟨w.heap.size, 1, none⟩ (.string k2) = w3 at *
    clear hm1 hm2 hm3 hm4 hsz2 HB2
    have hg3 : w3.cell? ⟨g, 0, none⟩ = some (.pointer (some ⟨p, 0, none⟩)) := (HB3.out.cell (p := ⟨g, 0, none⟩) hg).trans h0
    refine region_still_tail 6 (by kernel_rfl) (by kernel_rfl) (fun KT hKT => ?_)
    simp only [List.take_succ_cons, List.take_zero, List.drop_succ_cons, List.drop_zero] at hKT ⊢
    iterate 6 still_step
    refine wpStill_nil (hKT _ ?_)
    clear hKT KT
    go_wp2_with fail
    refine (HADD.out _ HB3.out.drew).mono ?_
    rintro e w4 ⟨rfl, hf4, hpost⟩
    have HP := hide hpost
    have HF4 := hide hf4
    clear hpost hf4
    go_wp2_with fail
    go_ret
    exact ⟨rfl, _, HB3.out.drew, HF4.out, HP.out⟩
  · clear hbl
    go_enter Try.func25, Try.ntmps25
    go_wp2_with (first
      | (go_at_call 42; refine (none_no g p _ (by go_simp)).mono ?_; rintro e w' ⟨rfl, rfl⟩)
      | (go_at_call 43; refine (HBY.out _).mono ?_; rintro e w' ⟨rfl, rfl⟩))
    have HB1 := HW
    have hk1 : (w.alloc (.cells #[.string k1, .string k2] 24)).cell? ⟨w.heap.size, 0, none⟩ = some (.string k1) := by simp
    have hk2 : (w.alloc (.cells #[.string k1, .string k2] 24)).cell? ⟨w.heap.size, 1, none⟩ = some (.string k2) := by simp
    have hk3 : (w.alloc (.cells #[.string k1, .string k2] 24)).frozen? ⟨w.heap.size, 0, none⟩ = false := by simp
    have hk4 : (w.alloc (.cells #[.string k1, .string k2] 24)).frozen? ⟨w.heap.size, 1, none⟩ = false := by simp
    have hsz1 : w.heap.size < (w.alloc (.cells #[.string k1, .string k2] 24)).heap.size := by simp
    generalize w.alloc (.cells #[.string k1, .string k2] 24) = w1 at *
    have hg1 : w1.cell? ⟨g, 1, none⟩ = some (.map im) := (HB1.out.cell (p := ⟨g, 1, none⟩) hg).trans h1
    have hl1 : ∀ W : World, objAt W b = objAt w1 b → (Instr.lookup 53 (.map im) (.string k2) false).run Try.prog W = .ok (.int .i64 n) W := fun W hW => hl W (hW.trans (HB1.out.block b hb))
    have hl2 := hl1 w1.drew rfl
    clear hl
    go_region
    all_goals go_wp2_with fail
    have HO := hide (fun W => own_calls k1 k2 W hs1 hs2)
    refine (HO.out _).mono ?_
    rintro e w2 ⟨rfl, hb2⟩
    have HB2 := hide (HB1.out.drew.trans (hb2.mono HB1.out.size))
    have hm1 : w2.cell? ⟨w.heap.size, 0, none⟩ = some (.string k1) := (hb2.cell (p := ⟨w.heap.size, 0, none⟩) hsz1).trans hk1
    have hm2 : w2.cell? ⟨w.heap.size, 1, none⟩ = some (.string k2) := (hb2.cell (p := ⟨w.heap.size, 1, none⟩) hsz1).trans hk2
    have hm3 : w2.frozen? ⟨w.heap.size, 0, none⟩ = false := (hb2.frozen (p := ⟨w.heap.size, 0, none⟩) hsz1).trans hk3
    have hm4 : w2.frozen? ⟨w.heap.size, 1, none⟩ = false := (hb2.frozen (p := ⟨w.heap.size, 1, none⟩) hsz1).trans hk4
    have hsz2 : w.heap.size < w2.heap.size := Nat.lt_of_lt_of_le hsz1 hb2.size
    clear hb2 hk1 hk2 hk3 hk4 hg1 hl1 hl2 HB1 HW
    go_wp2_with fail
    have HB3 : Hid (Below w.heap.size w ((w2.setCell ⟨w.heap.size, 0, none⟩ (.string k1)).setCell ⟨w.heap.size, 1, none⟩ (.string k2))) := hide ((HB2.out.setCell (by simp) _).setCell (by simp) _)
    have hn1 : ((w2.setCell ⟨w.heap.size, 0, none⟩ (.string k1)).setCell ⟨w.heap.size, 1, none⟩ (.string k2)).cell? ⟨w.heap.size, 0, none⟩ = some (.string k1) := by go_simp
    have hn2 : ((w2.setCell ⟨w.heap.size, 0, none⟩ (.string k1)).setCell ⟨w.heap.size, 1, none⟩ (.string k2)).cell? ⟨w.heap.size, 1, none⟩ = some (.string k2) := by go_simp
    have hsz3 : w.heap.size < ((w2.setCell ⟨w.heap.size, 0, none⟩ (.string k1)).setCell ⟨w.heap.size, 1, none⟩ (.string k2)).heap.size := by simpa [World.setCell] using hsz2
    generalize (w2.setCell ⟨w.heap.size, 0, none⟩ (.string k1)).setCell ⟨w.heap.size, 1, none⟩ (.string k2) = w3 at *
    clear hm1 hm2 hm3 hm4 hsz2 HB2
    have hg3 : w3.cell? ⟨g, 0, none⟩ = some (.pointer (some ⟨p, 0, none⟩)) := (HB3.out.cell (p := ⟨g, 0, none⟩) hg).trans h0
    refine region_still_tail 6 (by kernel_rfl) (by kernel_rfl) (fun KT hKT => ?_)
    simp only [List.take_succ_cons, List.take_zero, List.drop_succ_cons, List.drop_zero] at hKT ⊢
    iterate 6 still_step
    refine wpStill_nil (hKT _ ?_)
    clear hKT KT
    go_wp2_with fail
    refine (HADD.out _ HB3.out.drew).mono ?_
    rintro e w4 ⟨rfl, hf4, hpost⟩
    have HP := hide hpost
    have HF4 := hide hf4
    clear hpost hf4
    go_wp2_with fail
    go_ret
    exact ⟨rfl, _, HB3.out.drew, HF4.out, HP.out⟩

set_option maxHeartbeats 4000000 in
set_option maxRecDepth 100000 in
theorem issue_some (g p b : Nat) (k1 k2 : ByteArray) (by_ n : Int) (w : World) (hg : g < w.heap.size) (hb : b < w.heap.size) (h0 : w.cell? ⟨g, 0, none⟩ = some (.pointer (some ⟨p, 0, none⟩))) (h1 : w.cell? ⟨g, 1, none⟩ = some (.map (some b))) (h : within by_)
    (hbl : by_ < 0 → ∀ W, Below w.heap.size w W → Calls Try.prog 34 #[.pointer (some ⟨g, 0, none⟩), .agg #[.string k1, .string k2]] W fun e w' => e = .returned (.bool false) ∧ Below W.heap.size W w')
    (hl : ∀ W : World, objAt W b = objAt w b → (Instr.lookup 53 (.map (some b)) (.string k2) false).run Try.prog W = .ok (.int .i64 n) W) (hf1 : -9223372036854775808 ≤ n + by_) (hf2 : n + by_ ≤ 9223372036854775807) (ho : ¬ n + by_ > 1152921504606846976) (er : Int) (Fp : Nat → Prop) (Post : World → World → Prop) (hs1 : shortText k1) (hs2 : shortText k2) (hFg : ¬ Fp g) (hFb : ¬ Fp b) (hFn : ∀ j, Fp j → j < w.heap.size)
    (hadd : ∀ W, Below w.heap.size w W → Calls Try.prog 16 #[.pointer (some ⟨p, 0, none⟩), .agg #[.string k1, .string k2], .int .i64 0, .int .i64 by_] W fun e w' => e = .returned (.int .i64 er) ∧ Frm Fp W w' ∧ Post W w') (h1f : w.frozen? ⟨g, 1, none⟩ = false) (he : er = 0) (upd : World → World)
    (hu : ∀ W : World, objAt W b = objAt w b → (Instr.mapUpdate 53 (.map (some b)) (.string k2) (.int .i64 (n + by_))).run Try.prog W = .ok () (upd W)) :
    Calls Try.prog 25 #[.pointer (some ⟨g, 0, none⟩), .agg #[.string k1, .string k2], .int .i64 by_] w fun e w' => e = .returned (.int .i64 0) ∧ ∃ W w1, Below w.heap.size w W ∧ Frm Fp W w1 ∧ Post W w1 ∧ objAt w1 b = objAt w b ∧ w' = upd w1.drew := by
  subst he
  have HADD := hide hadd
  clear hadd
  have hby := fun W => beyond_calls by_ W
  simp only [h, not_true_eq_false, decide_false] at hby
  have HBY := hide hby
  have HW := hide ((Below.refl w.heap.size w).alloc (Nat.le_refl _) (.cells #[.string k1, .string k2] 24))
  clear hby h
  by_cases hneg : by_ < 0
  · have hblk := hbl hneg
    have HB := hide hblk
    clear hblk hbl
    go_enter Try.func25, Try.ntmps25
    go_wp2_with (first
      | (go_at_call 42; refine (none_no g p _ (by go_simp)).mono ?_; rintro e w' ⟨rfl, rfl⟩)
      | (go_at_call 43; refine (HBY.out _).mono ?_; rintro e w' ⟨rfl, rfl⟩)
      | (go_at_call 34; refine (HB.out _ HW.out).mono ?_; rintro e w1 ⟨rfl, hb1⟩; have HB1 := hide (HW.out.trans (hb1.mono HW.out.size)); have hk1 : w1.cell? ⟨w.heap.size, 0, none⟩ = some (.string k1) := (hb1.cell (p := ⟨w.heap.size, 0, none⟩) (by simp)).trans (by simp); have hk2 : w1.cell? ⟨w.heap.size, 1, none⟩ = some (.string k2) := (hb1.cell (p := ⟨w.heap.size, 1, none⟩) (by simp)).trans (by simp); have hk3 : w1.frozen? ⟨w.heap.size, 0, none⟩ = false := (hb1.frozen (p := ⟨w.heap.size, 0, none⟩) (by simp)).trans (by simp); have hk4 : w1.frozen? ⟨w.heap.size, 1, none⟩ = false := (hb1.frozen (p := ⟨w.heap.size, 1, none⟩) (by simp)).trans (by simp); have hsz1 : w.heap.size < w1.heap.size := (Nat.lt_of_lt_of_le (by simp) hb1.size); clear hb1))
    have hg1 : w1.cell? ⟨g, 1, none⟩ = some (.map (some b)) := (HB1.out.cell (p := ⟨g, 1, none⟩) hg).trans h1
    have hl1 : ∀ W : World, objAt W b = objAt w1 b → (Instr.lookup 53 (.map (some b)) (.string k2) false).run Try.prog W = .ok (.int .i64 n) W := fun W hW => hl W (hW.trans (HB1.out.block b hb))
    have hl2 := hl1 w1.drew rfl
    go_region
    all_goals go_wp2_with fail
    have HO := hide (fun W => own_calls k1 k2 W hs1 hs2)
    refine (HO.out _).mono ?_
    rintro e w2 ⟨rfl, hb2⟩
    have HB2 := hide (HB1.out.drew.trans (hb2.mono HB1.out.size))
    have hm1 : w2.cell? ⟨w.heap.size, 0, none⟩ = some (.string k1) := (hb2.cell (p := ⟨w.heap.size, 0, none⟩) hsz1).trans hk1
    have hm2 : w2.cell? ⟨w.heap.size, 1, none⟩ = some (.string k2) := (hb2.cell (p := ⟨w.heap.size, 1, none⟩) hsz1).trans hk2
    have hm3 : w2.frozen? ⟨w.heap.size, 0, none⟩ = false := (hb2.frozen (p := ⟨w.heap.size, 0, none⟩) hsz1).trans hk3
    have hm4 : w2.frozen? ⟨w.heap.size, 1, none⟩ = false := (hb2.frozen (p := ⟨w.heap.size, 1, none⟩) hsz1).trans hk4
    have hsz2 : w.heap.size < w2.heap.size := Nat.lt_of_lt_of_le hsz1 hb2.size
    clear hb2 hk1 hk2 hk3 hk4 hg1 hl1 hl2 HB1 HW
    go_wp2_with fail
    have HB3 : Hid (Below w.heap.size w ((w2.setCell ⟨w.heap.size, 0, none⟩ (.string k1)).setCell ⟨w.heap.size, 1, none⟩ (.string k2))) := hide ((HB2.out.setCell (by simp) _).setCell (by simp) _)
    have hn1 : ((w2.setCell ⟨w.heap.size, 0, none⟩ (.string k1)).setCell ⟨w.heap.size, 1, none⟩ (.string k2)).cell? ⟨w.heap.size, 0, none⟩ = some (.string k1) := by go_simp
    have hn2 : ((w2.setCell ⟨w.heap.size, 0, none⟩ (.string k1)).setCell ⟨w.heap.size, 1, none⟩ (.string k2)).cell? ⟨w.heap.size, 1, none⟩ = some (.string k2) := by go_simp
    have hsz3 : w.heap.size < ((w2.setCell ⟨w.heap.size, 0, none⟩ (.string k1)).setCell ⟨w.heap.size, 1, none⟩ (.string k2)).heap.size := by simpa [World.setCell] using hsz2
    generalize (w2.setCell ⟨w.heap.size, 0, none⟩ (.string k1)).setCell ⟨w.heap.size, 1, none⟩ (.string k2) = w3 at *
    clear hm1 hm2 hm3 hm4 hsz2 HB2
    have hg3 : w3.cell? ⟨g, 0, none⟩ = some (.pointer (some ⟨p, 0, none⟩)) := (HB3.out.cell (p := ⟨g, 0, none⟩) hg).trans h0
    refine region_still_tail 6 (by kernel_rfl) (by kernel_rfl) (fun KT hKT => ?_)
    simp only [List.take_succ_cons, List.take_zero, List.drop_succ_cons, List.drop_zero] at hKT ⊢
    iterate 6 still_step
    refine wpStill_nil (hKT _ ?_)
    clear hKT KT
    go_wp2_with fail
    refine (HADD.out _ HB3.out.drew).mono ?_
    rintro e w4 ⟨rfl, hf4, hpost⟩
    have HP := hide hpost
    have HF4 := hide hf4
    clear hpost hf4
    have hbw : b < w3.drew.heap.size := Nat.lt_of_lt_of_le hb HB3.out.size
    have hgw : g < w3.drew.heap.size := Nat.lt_of_lt_of_le hg HB3.out.size
    have hnF : ¬ Fp w.heap.size := fun e => by have := hFn _ e; omega
    have hq0 : w4.cell? ⟨g, 1, none⟩ = some (.map (some b)) := (HF4.out.cell (p := ⟨g, 1, none⟩) hgw hFg).trans ((HB3.out.cell (p := ⟨g, 1, none⟩) hg).trans h1)
    have hq1 : w4.frozen? ⟨g, 1, none⟩ = false := (HF4.out.frozen (p := ⟨g, 1, none⟩) hgw hFg).trans ((HB3.out.frozen (p := ⟨g, 1, none⟩) hg).trans h1f)
    have hq2 : w4.cell? ⟨w.heap.size, 0, none⟩ = some (.string k1) := (HF4.out.cell (p := ⟨w.heap.size, 0, none⟩) hsz3 hnF).trans hn1
    have hq3 : w4.cell? ⟨w.heap.size, 1, none⟩ = some (.string k2) := (HF4.out.cell (p := ⟨w.heap.size, 1, none⟩) hsz3 hnF).trans hn2
    have hob : objAt w4 b = objAt w b := (HF4.out.block b hbw hFb).trans (HB3.out.block b hb)
    have hg4 : g < w4.heap.size := Nat.lt_of_lt_of_le hgw HF4.out.size
    have hs4 : w.heap.size < w4.heap.size := Nat.lt_of_lt_of_le hsz3 HF4.out.size
    clear hn1 hn2 hg3 hsz3
    have hl4 := hl w4.drew hob
    have hu4 := hu w4.drew hob
    have HOB := hide hob
    have hnil := fun W r => run_eql_map_nil (P := Try.prog) W _ _ _ r Try.underlying53
    clear hl hu hob
    go_wp2_with fail
    go_region
    all_goals go_wp2
    all_goals go_ret
    all_goals exact ⟨rfl, _, _, HB3.out.drew, HF4.out, HP.out, HOB.out, rfl⟩
  · clear hbl
    go_enter Try.func25, Try.ntmps25
    go_wp2_with (first
      | (go_at_call 42; refine (none_no g p _ (by go_simp)).mono ?_; rintro e w' ⟨rfl, rfl⟩)
      | (go_at_call 43; refine (HBY.out _).mono ?_; rintro e w' ⟨rfl, rfl⟩))
    have HB1 := HW
    have hk1 : (w.alloc (.cells #[.string k1, .string k2] 24)).cell? ⟨w.heap.size, 0, none⟩ = some (.string k1) := by simp
    have hk2 : (w.alloc (.cells #[.string k1, .string k2] 24)).cell? ⟨w.heap.size, 1, none⟩ = some (.string k2) := by simp
    have hk3 : (w.alloc (.cells #[.string k1, .string k2] 24)).frozen? ⟨w.heap.size, 0, none⟩ = false := by simp
    have hk4 : (w.alloc (.cells #[.string k1, .string k2] 24)).frozen? ⟨w.heap.size, 1, none⟩ = false := by simp
    have hsz1 : w.heap.size < (w.alloc (.cells #[.string k1, .string k2] 24)).heap.size := by simp
    generalize w.alloc (.cells #[.string k1, .string k2] 24) = w1 at *
    have hg1 : w1.cell? ⟨g, 1, none⟩ = some (.map (some b)) := (HB1.out.cell (p := ⟨g, 1, none⟩) hg).trans h1
    have hl1 : ∀ W : World, objAt W b = objAt w1 b → (Instr.lookup 53 (.map (some b)) (.string k2) false).run Try.prog W = .ok (.int .i64 n) W := fun W hW => hl W (hW.trans (HB1.out.block b hb))
    have hl2 := hl1 w1.drew rfl
    go_region
    all_goals go_wp2_with fail
    have HO := hide (fun W => own_calls k1 k2 W hs1 hs2)
    refine (HO.out _).mono ?_
    rintro e w2 ⟨rfl, hb2⟩
    have HB2 := hide (HB1.out.drew.trans (hb2.mono HB1.out.size))
    have hm1 : w2.cell? ⟨w.heap.size, 0, none⟩ = some (.string k1) := (hb2.cell (p := ⟨w.heap.size, 0, none⟩) hsz1).trans hk1
    have hm2 : w2.cell? ⟨w.heap.size, 1, none⟩ = some (.string k2) := (hb2.cell (p := ⟨w.heap.size, 1, none⟩) hsz1).trans hk2
    have hm3 : w2.frozen? ⟨w.heap.size, 0, none⟩ = false := (hb2.frozen (p := ⟨w.heap.size, 0, none⟩) hsz1).trans hk3
    have hm4 : w2.frozen? ⟨w.heap.size, 1, none⟩ = false := (hb2.frozen (p := ⟨w.heap.size, 1, none⟩) hsz1).trans hk4
    have hsz2 : w.heap.size < w2.heap.size := Nat.lt_of_lt_of_le hsz1 hb2.size
    clear hb2 hk1 hk2 hk3 hk4 hg1 hl1 hl2 HB1 HW
    go_wp2_with fail
    have HB3 : Hid (Below w.heap.size w ((w2.setCell ⟨w.heap.size, 0, none⟩ (.string k1)).setCell ⟨w.heap.size, 1, none⟩ (.string k2))) := hide ((HB2.out.setCell (by simp) _).setCell (by simp) _)
    have hn1 : ((w2.setCell ⟨w.heap.size, 0, none⟩ (.string k1)).setCell ⟨w.heap.size, 1, none⟩ (.string k2)).cell? ⟨w.heap.size, 0, none⟩ = some (.string k1) := by go_simp
    have hn2 : ((w2.setCell ⟨w.heap.size, 0, none⟩ (.string k1)).setCell ⟨w.heap.size, 1, none⟩ (.string k2)).cell? ⟨w.heap.size, 1, none⟩ = some (.string k2) := by go_simp
    have hsz3 : w.heap.size < ((w2.setCell ⟨w.heap.size, 0, none⟩ (.string k1)).setCell ⟨w.heap.size, 1, none⟩ (.string k2)).heap.size := by simpa [World.setCell] using hsz2
    generalize (w2.setCell ⟨w.heap.size, 0, none⟩ (.string k1)).setCell ⟨w.heap.size, 1, none⟩ (.string k2) = w3 at *
    clear hm1 hm2 hm3 hm4 hsz2 HB2
    have hg3 : w3.cell? ⟨g, 0, none⟩ = some (.pointer (some ⟨p, 0, none⟩)) := (HB3.out.cell (p := ⟨g, 0, none⟩) hg).trans h0
    refine region_still_tail 6 (by kernel_rfl) (by kernel_rfl) (fun KT hKT => ?_)
    simp only [List.take_succ_cons, List.take_zero, List.drop_succ_cons, List.drop_zero] at hKT ⊢
    iterate 6 still_step
    refine wpStill_nil (hKT _ ?_)
    clear hKT KT
    go_wp2_with fail
    refine (HADD.out _ HB3.out.drew).mono ?_
    rintro e w4 ⟨rfl, hf4, hpost⟩
    have HP := hide hpost
    have HF4 := hide hf4
    clear hpost hf4
    have hbw : b < w3.drew.heap.size := Nat.lt_of_lt_of_le hb HB3.out.size
    have hgw : g < w3.drew.heap.size := Nat.lt_of_lt_of_le hg HB3.out.size
    have hnF : ¬ Fp w.heap.size := fun e => by have := hFn _ e; omega
    have hq0 : w4.cell? ⟨g, 1, none⟩ = some (.map (some b)) := (HF4.out.cell (p := ⟨g, 1, none⟩) hgw hFg).trans ((HB3.out.cell (p := ⟨g, 1, none⟩) hg).trans h1)
    have hq1 : w4.frozen? ⟨g, 1, none⟩ = false := (HF4.out.frozen (p := ⟨g, 1, none⟩) hgw hFg).trans ((HB3.out.frozen (p := ⟨g, 1, none⟩) hg).trans h1f)
    have hq2 : w4.cell? ⟨w.heap.size, 0, none⟩ = some (.string k1) := (HF4.out.cell (p := ⟨w.heap.size, 0, none⟩) hsz3 hnF).trans hn1
    have hq3 : w4.cell? ⟨w.heap.size, 1, none⟩ = some (.string k2) := (HF4.out.cell (p := ⟨w.heap.size, 1, none⟩) hsz3 hnF).trans hn2
    have hob : objAt w4 b = objAt w b := (HF4.out.block b hbw hFb).trans (HB3.out.block b hb)
    have hg4 : g < w4.heap.size := Nat.lt_of_lt_of_le hgw HF4.out.size
    have hs4 : w.heap.size < w4.heap.size := Nat.lt_of_lt_of_le hsz3 HF4.out.size
    clear hn1 hn2 hg3 hsz3
    have hl4 := hl w4.drew hob
    have hu4 := hu w4.drew hob
    have HOB := hide hob
    have hnil := fun W r => run_eql_map_nil (P := Try.prog) W _ _ _ r Try.underlying53
    clear hl hu hob
    go_wp2_with fail
    go_region
    all_goals go_wp2
    all_goals go_ret
    all_goals exact ⟨rfl, _, _, HB3.out.drew, HF4.out, HP.out, HOB.out, rfl⟩

set_option maxHeartbeats 4000000 in
set_option maxRecDepth 100000 in
theorem issue_none (g p b : Nat) (k1 k2 : ByteArray) (by_ : Int) (w : World) (hg : g < w.heap.size) (hb : b < w.heap.size) (h0 : w.cell? ⟨g, 0, none⟩ = some (.pointer (some ⟨p, 0, none⟩))) (h1 : w.cell? ⟨g, 1, none⟩ = some (.map none)) (h : within by_)
    (hbl : by_ < 0 → ∀ W, Below w.heap.size w W → Calls Try.prog 34 #[.pointer (some ⟨g, 0, none⟩), .agg #[.string k1, .string k2]] W fun e w' => e = .returned (.bool false) ∧ Below W.heap.size W w')
    (hl : ∀ W : World, objAt W b = objAt w b → (Instr.lookup 53 (.map none) (.string k2) false).run Try.prog W = .ok (.int .i64 0) W) (hf1 : -9223372036854775808 ≤ 0 + by_) (hf2 : 0 + by_ ≤ 9223372036854775807) (ho : ¬ 0 + by_ > 1152921504606846976) (er : Int) (Fp : Nat → Prop) (Post : World → World → Prop) (hs1 : shortText k1) (hs2 : shortText k2) (hFg : ¬ Fp g) (hFb : ¬ Fp b) (hFn : ∀ j, Fp j → j < w.heap.size)
    (hadd : ∀ W, Below w.heap.size w W → Calls Try.prog 16 #[.pointer (some ⟨p, 0, none⟩), .agg #[.string k1, .string k2], .int .i64 0, .int .i64 by_] W fun e w' => e = .returned (.int .i64 er) ∧ Frm Fp W w' ∧ Post W w') (h1f : w.frozen? ⟨g, 1, none⟩ = false) (he : er = 0) (upd : Nat → World → World)
    (hl0 : ∀ (c : Nat) (W : World), objAt W c = some (.map #[] 0) → (Instr.lookup 53 (.map (some c)) (.string k2) false).run Try.prog W = .ok (.int .i64 0) W)
    (hu : ∀ (c : Nat) (W : World), objAt W c = some (.map #[] 0) → (Instr.mapUpdate 53 (.map (some c)) (.string k2) (.int .i64 (0 + by_))).run Try.prog W = .ok () (upd c W)) :
    Calls Try.prog 25 #[.pointer (some ⟨g, 0, none⟩), .agg #[.string k1, .string k2], .int .i64 by_] w fun e w' => e = .returned (.int .i64 0) ∧ ∃ W w1, Below w.heap.size w W ∧ Frm Fp W w1 ∧ Post W w1 ∧ w' = upd w1.heap.size ((w1.setCell ⟨g, 1, none⟩ (.map (some w1.heap.size))).alloc (.map #[] 0)).drew := by
  subst he
  simp only [Int.zero_add] at *
  have HADD := hide hadd
  clear hadd
  have hby := fun W => beyond_calls by_ W
  simp only [h, not_true_eq_false, decide_false] at hby
  have HBY := hide hby
  have HW := hide ((Below.refl w.heap.size w).alloc (Nat.le_refl _) (.cells #[.string k1, .string k2] 24))
  clear hby h
  by_cases hneg : by_ < 0
  · have hblk := hbl hneg
    have HB := hide hblk
    clear hblk hbl
    go_enter Try.func25, Try.ntmps25
    go_wp2_with (first
      | (go_at_call 42; refine (none_no g p _ (by go_simp)).mono ?_; rintro e w' ⟨rfl, rfl⟩)
      | (go_at_call 43; refine (HBY.out _).mono ?_; rintro e w' ⟨rfl, rfl⟩)
      | (go_at_call 34; refine (HB.out _ HW.out).mono ?_; rintro e w1 ⟨rfl, hb1⟩; have HB1 := hide (HW.out.trans (hb1.mono HW.out.size)); have hk1 : w1.cell? ⟨w.heap.size, 0, none⟩ = some (.string k1) := (hb1.cell (p := ⟨w.heap.size, 0, none⟩) (by simp)).trans (by simp); have hk2 : w1.cell? ⟨w.heap.size, 1, none⟩ = some (.string k2) := (hb1.cell (p := ⟨w.heap.size, 1, none⟩) (by simp)).trans (by simp); have hk3 : w1.frozen? ⟨w.heap.size, 0, none⟩ = false := (hb1.frozen (p := ⟨w.heap.size, 0, none⟩) (by simp)).trans (by simp); have hk4 : w1.frozen? ⟨w.heap.size, 1, none⟩ = false := (hb1.frozen (p := ⟨w.heap.size, 1, none⟩) (by simp)).trans (by simp); have hsz1 : w.heap.size < w1.heap.size := (Nat.lt_of_lt_of_le (by simp) hb1.size); clear hb1))
    have hg1 : w1.cell? ⟨g, 1, none⟩ = some (.map none) := (HB1.out.cell (p := ⟨g, 1, none⟩) hg).trans h1
    have hl1 : ∀ W : World, objAt W b = objAt w1 b → (Instr.lookup 53 (.map none) (.string k2) false).run Try.prog W = .ok (.int .i64 0) W := fun W hW => hl W (hW.trans (HB1.out.block b hb))
    have hl2 := hl1 w1.drew rfl
    go_region
    all_goals go_wp2_with fail
    have HO := hide (fun W => own_calls k1 k2 W hs1 hs2)
    refine (HO.out _).mono ?_
    rintro e w2 ⟨rfl, hb2⟩
    have HB2 := hide (HB1.out.drew.trans (hb2.mono HB1.out.size))
    have hm1 : w2.cell? ⟨w.heap.size, 0, none⟩ = some (.string k1) := (hb2.cell (p := ⟨w.heap.size, 0, none⟩) hsz1).trans hk1
    have hm2 : w2.cell? ⟨w.heap.size, 1, none⟩ = some (.string k2) := (hb2.cell (p := ⟨w.heap.size, 1, none⟩) hsz1).trans hk2
    have hm3 : w2.frozen? ⟨w.heap.size, 0, none⟩ = false := (hb2.frozen (p := ⟨w.heap.size, 0, none⟩) hsz1).trans hk3
    have hm4 : w2.frozen? ⟨w.heap.size, 1, none⟩ = false := (hb2.frozen (p := ⟨w.heap.size, 1, none⟩) hsz1).trans hk4
    have hsz2 : w.heap.size < w2.heap.size := Nat.lt_of_lt_of_le hsz1 hb2.size
    clear hb2 hk1 hk2 hk3 hk4 hg1 hl1 hl2 HB1 HW
    go_wp2_with fail
    have HB3 : Hid (Below w.heap.size w ((w2.setCell ⟨w.heap.size, 0, none⟩ (.string k1)).setCell ⟨w.heap.size, 1, none⟩ (.string k2))) := hide ((HB2.out.setCell (by simp) _).setCell (by simp) _)
    have hn1 : ((w2.setCell ⟨w.heap.size, 0, none⟩ (.string k1)).setCell ⟨w.heap.size, 1, none⟩ (.string k2)).cell? ⟨w.heap.size, 0, none⟩ = some (.string k1) := by go_simp
    have hn2 : ((w2.setCell ⟨w.heap.size, 0, none⟩ (.string k1)).setCell ⟨w.heap.size, 1, none⟩ (.string k2)).cell? ⟨w.heap.size, 1, none⟩ = some (.string k2) := by go_simp
    have hsz3 : w.heap.size < ((w2.setCell ⟨w.heap.size, 0, none⟩ (.string k1)).setCell ⟨w.heap.size, 1, none⟩ (.string k2)).heap.size := by simpa [World.setCell] using hsz2
    generalize (w2.setCell ⟨w.heap.size, 0, none⟩ (.string k1)).setCell ⟨w.heap.size, 1, none⟩ (.string k2) = w3 at *
    clear hm1 hm2 hm3 hm4 hsz2 HB2
    have hg3 : w3.cell? ⟨g, 0, none⟩ = some (.pointer (some ⟨p, 0, none⟩)) := (HB3.out.cell (p := ⟨g, 0, none⟩) hg).trans h0
    refine region_still_tail 6 (by kernel_rfl) (by kernel_rfl) (fun KT hKT => ?_)
    simp only [List.take_succ_cons, List.take_zero, List.drop_succ_cons, List.drop_zero] at hKT ⊢
    iterate 6 still_step
    refine wpStill_nil (hKT _ ?_)
    clear hKT KT
    go_wp2_with fail
    refine (HADD.out _ HB3.out.drew).mono ?_
    rintro e w4 ⟨rfl, hf4, hpost⟩
    have HP := hide hpost
    have HF4 := hide hf4
    clear hpost hf4
    have hbw : b < w3.drew.heap.size := Nat.lt_of_lt_of_le hb HB3.out.size
    have hgw : g < w3.drew.heap.size := Nat.lt_of_lt_of_le hg HB3.out.size
    have hnF : ¬ Fp w.heap.size := fun e => by have := hFn _ e; omega
    have hq0 : w4.cell? ⟨g, 1, none⟩ = some (.map none) := (HF4.out.cell (p := ⟨g, 1, none⟩) hgw hFg).trans ((HB3.out.cell (p := ⟨g, 1, none⟩) hg).trans h1)
    have hq1 : w4.frozen? ⟨g, 1, none⟩ = false := (HF4.out.frozen (p := ⟨g, 1, none⟩) hgw hFg).trans ((HB3.out.frozen (p := ⟨g, 1, none⟩) hg).trans h1f)
    have hq2 : w4.cell? ⟨w.heap.size, 0, none⟩ = some (.string k1) := (HF4.out.cell (p := ⟨w.heap.size, 0, none⟩) hsz3 hnF).trans hn1
    have hq3 : w4.cell? ⟨w.heap.size, 1, none⟩ = some (.string k2) := (HF4.out.cell (p := ⟨w.heap.size, 1, none⟩) hsz3 hnF).trans hn2
    have hob : objAt w4 b = objAt w b := (HF4.out.block b hbw hFb).trans (HB3.out.block b hb)
    have hg4 : g < w4.heap.size := Nat.lt_of_lt_of_le hgw HF4.out.size
    have hs4 : w.heap.size < w4.heap.size := Nat.lt_of_lt_of_le hsz3 HF4.out.size
    clear hn1 hn2 hg3 hsz3
    have hg3f : (w4.alloc (.map #[] 0)).cell? ⟨g, 1, none⟩ = some (.map none) := ((Below.refl w4.heap.size w4).alloc (Nat.le_refl _) (.map #[] 0)).cell (p := ⟨g, 1, none⟩) hg4 |>.trans hq0
    have hob5 : objAt ((w4.setCell ⟨g, 1, none⟩ (.map (some w4.heap.size))).alloc (.map #[] 0)).drew w4.heap.size = some (.map #[] 0) := by
      rw [objAt_drew, objAt_alloc_at _ _ _ (by simp [World.setCell])]
    have hl5 := hl0 w4.heap.size _ hob5
    have hu5 := hu w4.heap.size _ hob5
    have hnil := fun W r => run_eql_map_nil (P := Try.prog) W _ _ _ r Try.underlying53
    have hmk := @run_makeMap Try.prog
    clear hl hu hl0 hob hob5
    go_wp2_with fail
    go_region
    all_goals go_wp2
    all_goals go_ret
    all_goals exact ⟨rfl, _, _, HB3.out.drew, HF4.out, HP.out, rfl⟩
  · clear hbl
    go_enter Try.func25, Try.ntmps25
    go_wp2_with (first
      | (go_at_call 42; refine (none_no g p _ (by go_simp)).mono ?_; rintro e w' ⟨rfl, rfl⟩)
      | (go_at_call 43; refine (HBY.out _).mono ?_; rintro e w' ⟨rfl, rfl⟩))
    have HB1 := HW
    have hk1 : (w.alloc (.cells #[.string k1, .string k2] 24)).cell? ⟨w.heap.size, 0, none⟩ = some (.string k1) := by simp
    have hk2 : (w.alloc (.cells #[.string k1, .string k2] 24)).cell? ⟨w.heap.size, 1, none⟩ = some (.string k2) := by simp
    have hk3 : (w.alloc (.cells #[.string k1, .string k2] 24)).frozen? ⟨w.heap.size, 0, none⟩ = false := by simp
    have hk4 : (w.alloc (.cells #[.string k1, .string k2] 24)).frozen? ⟨w.heap.size, 1, none⟩ = false := by simp
    have hsz1 : w.heap.size < (w.alloc (.cells #[.string k1, .string k2] 24)).heap.size := by simp
    generalize w.alloc (.cells #[.string k1, .string k2] 24) = w1 at *
    have hg1 : w1.cell? ⟨g, 1, none⟩ = some (.map none) := (HB1.out.cell (p := ⟨g, 1, none⟩) hg).trans h1
    have hl1 : ∀ W : World, objAt W b = objAt w1 b → (Instr.lookup 53 (.map none) (.string k2) false).run Try.prog W = .ok (.int .i64 0) W := fun W hW => hl W (hW.trans (HB1.out.block b hb))
    have hl2 := hl1 w1.drew rfl
    go_region
    all_goals go_wp2_with fail
    have HO := hide (fun W => own_calls k1 k2 W hs1 hs2)
    refine (HO.out _).mono ?_
    rintro e w2 ⟨rfl, hb2⟩
    have HB2 := hide (HB1.out.drew.trans (hb2.mono HB1.out.size))
    have hm1 : w2.cell? ⟨w.heap.size, 0, none⟩ = some (.string k1) := (hb2.cell (p := ⟨w.heap.size, 0, none⟩) hsz1).trans hk1
    have hm2 : w2.cell? ⟨w.heap.size, 1, none⟩ = some (.string k2) := (hb2.cell (p := ⟨w.heap.size, 1, none⟩) hsz1).trans hk2
    have hm3 : w2.frozen? ⟨w.heap.size, 0, none⟩ = false := (hb2.frozen (p := ⟨w.heap.size, 0, none⟩) hsz1).trans hk3
    have hm4 : w2.frozen? ⟨w.heap.size, 1, none⟩ = false := (hb2.frozen (p := ⟨w.heap.size, 1, none⟩) hsz1).trans hk4
    have hsz2 : w.heap.size < w2.heap.size := Nat.lt_of_lt_of_le hsz1 hb2.size
    clear hb2 hk1 hk2 hk3 hk4 hg1 hl1 hl2 HB1 HW
    go_wp2_with fail
    have HB3 : Hid (Below w.heap.size w ((w2.setCell ⟨w.heap.size, 0, none⟩ (.string k1)).setCell ⟨w.heap.size, 1, none⟩ (.string k2))) := hide ((HB2.out.setCell (by simp) _).setCell (by simp) _)
    have hn1 : ((w2.setCell ⟨w.heap.size, 0, none⟩ (.string k1)).setCell ⟨w.heap.size, 1, none⟩ (.string k2)).cell? ⟨w.heap.size, 0, none⟩ = some (.string k1) := by go_simp
    have hn2 : ((w2.setCell ⟨w.heap.size, 0, none⟩ (.string k1)).setCell ⟨w.heap.size, 1, none⟩ (.string k2)).cell? ⟨w.heap.size, 1, none⟩ = some (.string k2) := by go_simp
    have hsz3 : w.heap.size < ((w2.setCell ⟨w.heap.size, 0, none⟩ (.string k1)).setCell ⟨w.heap.size, 1, none⟩ (.string k2)).heap.size := by simpa [World.setCell] using hsz2
    generalize (w2.setCell ⟨w.heap.size, 0, none⟩ (.string k1)).setCell ⟨w.heap.size, 1, none⟩ (.string k2) = w3 at *
    clear hm1 hm2 hm3 hm4 hsz2 HB2
    have hg3 : w3.cell? ⟨g, 0, none⟩ = some (.pointer (some ⟨p, 0, none⟩)) := (HB3.out.cell (p := ⟨g, 0, none⟩) hg).trans h0
    refine region_still_tail 6 (by kernel_rfl) (by kernel_rfl) (fun KT hKT => ?_)
    simp only [List.take_succ_cons, List.take_zero, List.drop_succ_cons, List.drop_zero] at hKT ⊢
    iterate 6 still_step
    refine wpStill_nil (hKT _ ?_)
    clear hKT KT
    go_wp2_with fail
    refine (HADD.out _ HB3.out.drew).mono ?_
    rintro e w4 ⟨rfl, hf4, hpost⟩
    have HP := hide hpost
    have HF4 := hide hf4
    clear hpost hf4
    have hbw : b < w3.drew.heap.size := Nat.lt_of_lt_of_le hb HB3.out.size
    have hgw : g < w3.drew.heap.size := Nat.lt_of_lt_of_le hg HB3.out.size
    have hnF : ¬ Fp w.heap.size := fun e => by have := hFn _ e; omega
    have hq0 : w4.cell? ⟨g, 1, none⟩ = some (.map none) := (HF4.out.cell (p := ⟨g, 1, none⟩) hgw hFg).trans ((HB3.out.cell (p := ⟨g, 1, none⟩) hg).trans h1)
    have hq1 : w4.frozen? ⟨g, 1, none⟩ = false := (HF4.out.frozen (p := ⟨g, 1, none⟩) hgw hFg).trans ((HB3.out.frozen (p := ⟨g, 1, none⟩) hg).trans h1f)
    have hq2 : w4.cell? ⟨w.heap.size, 0, none⟩ = some (.string k1) := (HF4.out.cell (p := ⟨w.heap.size, 0, none⟩) hsz3 hnF).trans hn1
    have hq3 : w4.cell? ⟨w.heap.size, 1, none⟩ = some (.string k2) := (HF4.out.cell (p := ⟨w.heap.size, 1, none⟩) hsz3 hnF).trans hn2
    have hob : objAt w4 b = objAt w b := (HF4.out.block b hbw hFb).trans (HB3.out.block b hb)
    have hg4 : g < w4.heap.size := Nat.lt_of_lt_of_le hgw HF4.out.size
    have hs4 : w.heap.size < w4.heap.size := Nat.lt_of_lt_of_le hsz3 HF4.out.size
    clear hn1 hn2 hg3 hsz3
    have hg3f : (w4.alloc (.map #[] 0)).cell? ⟨g, 1, none⟩ = some (.map none) := ((Below.refl w4.heap.size w4).alloc (Nat.le_refl _) (.map #[] 0)).cell (p := ⟨g, 1, none⟩) hg4 |>.trans hq0
    have hob5 : objAt ((w4.setCell ⟨g, 1, none⟩ (.map (some w4.heap.size))).alloc (.map #[] 0)).drew w4.heap.size = some (.map #[] 0) := by
      rw [objAt_drew, objAt_alloc_at _ _ _ (by simp [World.setCell])]
    have hl5 := hl0 w4.heap.size _ hob5
    have hu5 := hu w4.heap.size _ hob5
    have hnil := fun W r => run_eql_map_nil (P := Try.prog) W _ _ _ r Try.underlying53
    have hmk := @run_makeMap Try.prog
    clear hl hu hl0 hob hob5
    go_wp2_with fail
    go_region
    all_goals go_wp2
    all_goals go_ret
    all_goals exact ⟨rfl, _, _, HB3.out.drew, HF4.out, HP.out, rfl⟩
end Go.Proofs.Ytmhmjbggjbeikaa
