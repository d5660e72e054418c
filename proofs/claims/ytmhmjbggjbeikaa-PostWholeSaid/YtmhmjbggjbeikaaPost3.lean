/- Chapter 11: what is wrong with what is done to a part. -/
import Derived.Test.YtmhmjbggjbeikaaLed1
namespace Go.Proofs.Ytmhmjbggjbeikaa
set_option linter.unusedSimpArgs false
set_option linter.unusedVariables false
open Go.RowKit
attribute [local go_sem] objAt_alloc objAt_alloc_at objAt_drew objAt_drewN objAt_setCell

def netErr (v sub by_ : Int) (over bl : Bool) : Int :=
  if sub = 0 ∧ by_ < 0 ∧ bl = true then 35 else if v + by_ < 0 ∨ (over = true ∧ by_ < 0) then 30 else if v + by_ > 1152921504606846976 ∨ over = true then 12 else 0

set_option maxHeartbeats 16000000 in
set_option maxRecDepth 100000 in
theorem wrong_walk (g p : Nat) (k1 k2 : ByteArray) (sub by_ v : Int) (over bl : Bool) (w : World) (hg : g < w.heap.size) (h0 : w.cell? ⟨g, 0, none⟩ = some (.pointer (some ⟨p, 0, none⟩)))
    (hv1 : 0 ≤ v) (hv2 : v ≤ 1152921504606846976) (hb1 : -1152921504606846976 ≤ by_) (hb2 : by_ ≤ 1152921504606846976)
    (hpart : ∀ W, Below w.heap.size w W → Calls Try.prog 19 #[.pointer (some ⟨p, 0, none⟩), .agg #[.string k1, .string k2], .int .i64 sub] W fun e w' => e = .returned (.int .i64 v) ∧ Below W.heap.size W w')
    (hblk : ∀ W, Below w.heap.size w W → Calls Try.prog 34 #[.pointer (some ⟨g, 0, none⟩), .agg #[.string k1, .string k2]] W fun e w' => e = .returned (.bool bl) ∧ Below W.heap.size W w') :
    Calls Try.prog 62 #[.pointer (some ⟨g, 0, none⟩), .agg #[.string k1, .string k2, .int .i64 sub, .int .i64 by_, .bool over]] w fun e w' => e = .returned (.int .i64 (netErr v sub by_ over bl)) ∧ Below w.heap.size w w' := by
  have HPART := hide hpart
  have HBLK := hide hblk
  have HW := hide ((Below.refl w.heap.size w).alloc (Nat.le_refl _) (.cells #[.string k1, .string k2, .int .i64 sub, .int .i64 by_, .bool over] 94))
  have hsz : w.heap.size < (w.alloc (.cells #[.string k1, .string k2, .int .i64 sub, .int .i64 by_, .bool over] 94)).heap.size := by simp
  have hc : ∀ W, Below w.heap.size w W → Below (w.heap.size + 1) (w.alloc (.cells #[.string k1, .string k2, .int .i64 sub, .int .i64 by_, .bool over] 94)) W → W.cell? ⟨g, 0, none⟩ = some (.pointer (some ⟨p, 0, none⟩)) ∧ W.cell? ⟨w.heap.size, 0, none⟩ = some (.string k1) ∧ W.cell? ⟨w.heap.size, 1, none⟩ = some (.string k2) ∧
      W.cell? ⟨w.heap.size, 2, none⟩ = some (.int .i64 sub) ∧ W.cell? ⟨w.heap.size, 3, none⟩ = some (.int .i64 by_) ∧ W.cell? ⟨w.heap.size, 4, none⟩ = some (.bool over) ∧ Hid (Below w.heap.size w W ∧ Below (w.heap.size + 1) (w.alloc (.cells #[.string k1, .string k2, .int .i64 sub, .int .i64 by_, .bool over] 94)) W) := fun W h h2 =>
    ⟨(h.cell (p := ⟨g, 0, none⟩) hg).trans h0, (h2.cell (p := ⟨w.heap.size, 0, none⟩) (by simp)).trans (by simp), (h2.cell (p := ⟨w.heap.size, 1, none⟩) (by simp)).trans (by simp), (h2.cell (p := ⟨w.heap.size, 2, none⟩) (by simp)).trans (by simp), (h2.cell (p := ⟨w.heap.size, 3, none⟩) (by simp)).trans (by simp), (h2.cell (p := ⟨w.heap.size, 4, none⟩) (by simp)).trans (by simp), h, h2⟩
  have HC := hide hc
  have hwsz : (w.alloc (.cells #[.string k1, .string k2, .int .i64 sub, .int .i64 by_, .bool over] 94)).heap.size = w.heap.size + 1 := by simp
  have HWSZ := hide hwsz
  clear hpart hblk hc hwsz
  go_enter Try.func62, Try.ntmps62
  go_wp2_with fail
  generalize w.alloc (.cells #[.string k1, .string k2, .int .i64 sub, .int .i64 by_, .bool over] 94) = w0 at *
  have HPB : Hid (∀ W W', Below w.heap.size w W ∧ Below (w.heap.size + 1) w0 W → Below W.heap.size W W' → Below w.heap.size w W' ∧ Below (w.heap.size + 1) w0 W') := hide fun W W' ⟨a, b⟩ c =>
    ⟨a.trans (c.mono a.size), b.trans (c.mono (by have := b.size; have := HWSZ.out; omega))⟩
  go_region_held3 (fun W => W.cell? ⟨g, 0, none⟩ = some (.pointer (some ⟨p, 0, none⟩)) ∧ W.cell? ⟨w.heap.size, 0, none⟩ = some (.string k1) ∧ W.cell? ⟨w.heap.size, 1, none⟩ = some (.string k2) ∧ W.cell? ⟨w.heap.size, 2, none⟩ = some (.int .i64 sub) ∧ W.cell? ⟨w.heap.size, 3, none⟩ = some (.int .i64 by_) ∧ W.cell? ⟨w.heap.size, 4, none⟩ = some (.bool over) ∧ Hid (Below w.heap.size w W ∧ Below (w.heap.size + 1) w0 W))
    (first | exact HC.out _ HW.out.drew (Below.refl _ _).drew | exact HC.out _ (by assumption) (by assumption))
    (first
      | (go_at_call 19; go_split_ands; have hbb := Hid.out (p := Below w.heap.size w _ ∧ Below (w.heap.size + 1) w0 _) (by assumption); refine (HPART.out _ hbb.1).mono ?_; rintro e w5 ⟨rfl, hb5⟩; obtain ⟨hb6, hb7⟩ := HPB.out _ _ hbb hb5))
  have hwr : IntKind.i64.wrap (v + by_) = v + by_ := by rw [IntKind.wrap_i64]; omega
  rw [hwr]
  obtain ⟨f1, f2, f3, f4, f5, f6, f7⟩ := HC.out w5 hb6 hb7
  have HB6 := hide hb6
  have hs5 : w.heap.size < w5.heap.size := Nat.lt_of_lt_of_le hsz hb7.size
  clear hwr hb6 hb7 HC HPART HPB f7
  rename_i hheld
  clear hheld
  by_cases hs : sub = 0
  · by_cases hn : by_ < 0
    · cases bl
      · go_wp2_with fail
        refine (HBLK.out _ HB6.out).mono ?_
        rintro e w6 ⟨rfl, hb9⟩
        have HB9 := hide (HB6.out.trans (hb9.mono HB6.out.size))
        have g1 : w6.cell? ⟨w.heap.size, 3, none⟩ = some (.int .i64 by_) := (hb9.cell (p := ⟨w.heap.size, 3, none⟩) hs5).trans f5
        have g2 : w6.cell? ⟨w.heap.size, 4, none⟩ = some (.bool over) := (hb9.cell (p := ⟨w.heap.size, 4, none⟩) hs5).trans f6
        clear hb9
        by_cases h1 : v + by_ < 0
        · first | (exfalso; omega) | (go_wp2; all_goals go_ret; all_goals exact ⟨ret_i (by simp [netErr, hs, hn, h1] <;> omega), HB9.out⟩)
        · have h5 : 0 ≤ v + by_ := by omega
          by_cases h4 : v + by_ > 1152921504606846976
          · cases over
            · first | (exfalso; omega) | (go_wp2; all_goals go_ret; all_goals exact ⟨ret_i (by simp [netErr, hs, hn, h1, h5, h4] <;> omega), HB9.out⟩)
            · by_cases h6 : by_ < 0
              · first | (exfalso; omega) | (go_wp2; all_goals go_ret; all_goals exact ⟨ret_i (by simp [netErr, hs, hn, h1, h5, h4, h6] <;> omega), HB9.out⟩)
              · first | (exfalso; omega) | (go_wp2; all_goals go_ret; all_goals exact ⟨ret_i (by simp [netErr, hs, hn, h1, h5, h4, h6] <;> omega), HB9.out⟩)
          · cases over
            · first | (exfalso; omega) | (go_wp2; all_goals go_ret; all_goals exact ⟨ret_i (by simp [netErr, hs, hn, h1, h5, h4] <;> omega), HB9.out⟩)
            · by_cases h6 : by_ < 0
              · first | (exfalso; omega) | (go_wp2; all_goals go_ret; all_goals exact ⟨ret_i (by simp [netErr, hs, hn, h1, h5, h4, h6] <;> omega), HB9.out⟩)
              · first | (exfalso; omega) | (go_wp2; all_goals go_ret; all_goals exact ⟨ret_i (by simp [netErr, hs, hn, h1, h5, h4, h6] <;> omega), HB9.out⟩)
      · go_wp2_with fail
        refine (HBLK.out _ HB6.out).mono ?_
        rintro e w6 ⟨rfl, hb9⟩
        have HB9 := hide (HB6.out.trans (hb9.mono HB6.out.size))
        have g1 : w6.cell? ⟨w.heap.size, 3, none⟩ = some (.int .i64 by_) := (hb9.cell (p := ⟨w.heap.size, 3, none⟩) hs5).trans f5
        have g2 : w6.cell? ⟨w.heap.size, 4, none⟩ = some (.bool over) := (hb9.cell (p := ⟨w.heap.size, 4, none⟩) hs5).trans f6
        clear hb9
        go_wp2
        go_ret
        exact ⟨ret_i (by simp [netErr, hs, hn]), HB9.out⟩
    · by_cases h1 : v + by_ < 0
      · first | (exfalso; omega) | (go_wp2; all_goals go_ret; all_goals exact ⟨ret_i (by simp [netErr, hs, hn, h1] <;> omega), HB6.out⟩)
      · have h5 : 0 ≤ v + by_ := by omega
        by_cases h4 : v + by_ > 1152921504606846976
        · cases over
          · first | (exfalso; omega) | (go_wp2; all_goals go_ret; all_goals exact ⟨ret_i (by simp [netErr, hs, hn, h1, h5, h4] <;> omega), HB6.out⟩)
          · by_cases h6 : by_ < 0
            · first | (exfalso; omega) | (go_wp2; all_goals go_ret; all_goals exact ⟨ret_i (by simp [netErr, hs, hn, h1, h5, h4, h6] <;> omega), HB6.out⟩)
            · first | (exfalso; omega) | (go_wp2; all_goals go_ret; all_goals exact ⟨ret_i (by simp [netErr, hs, hn, h1, h5, h4, h6] <;> omega), HB6.out⟩)
        · cases over
          · first | (exfalso; omega) | (go_wp2; all_goals go_ret; all_goals exact ⟨ret_i (by simp [netErr, hs, hn, h1, h5, h4] <;> omega), HB6.out⟩)
          · by_cases h6 : by_ < 0
            · first | (exfalso; omega) | (go_wp2; all_goals go_ret; all_goals exact ⟨ret_i (by simp [netErr, hs, hn, h1, h5, h4, h6] <;> omega), HB6.out⟩)
            · first | (exfalso; omega) | (go_wp2; all_goals go_ret; all_goals exact ⟨ret_i (by simp [netErr, hs, hn, h1, h5, h4, h6] <;> omega), HB6.out⟩)
  · by_cases h1 : v + by_ < 0
    · first | (exfalso; omega) | (go_wp2; all_goals go_ret; all_goals exact ⟨ret_i (by simp [netErr, hs, h1] <;> omega), HB6.out⟩)
    · have h5 : 0 ≤ v + by_ := by omega
      by_cases h4 : v + by_ > 1152921504606846976
      · cases over
        · first | (exfalso; omega) | (go_wp2; all_goals go_ret; all_goals exact ⟨ret_i (by simp [netErr, hs, h1, h5, h4] <;> omega), HB6.out⟩)
        · by_cases h6 : by_ < 0
          · first | (exfalso; omega) | (go_wp2; all_goals go_ret; all_goals exact ⟨ret_i (by simp [netErr, hs, h1, h5, h4, h6] <;> omega), HB6.out⟩)
          · first | (exfalso; omega) | (go_wp2; all_goals go_ret; all_goals exact ⟨ret_i (by simp [netErr, hs, h1, h5, h4, h6] <;> omega), HB6.out⟩)
      · cases over
        · first | (exfalso; omega) | (go_wp2; all_goals go_ret; all_goals exact ⟨ret_i (by simp [netErr, hs, h1, h5, h4] <;> omega), HB6.out⟩)
        · by_cases h6 : by_ < 0
          · first | (exfalso; omega) | (go_wp2; all_goals go_ret; all_goals exact ⟨ret_i (by simp [netErr, hs, h1, h5, h4, h6] <;> omega), HB6.out⟩)
          · first | (exfalso; omega) | (go_wp2; all_goals go_ret; all_goals exact ⟨ret_i (by simp [netErr, hs, h1, h5, h4, h6] <;> omega), HB6.out⟩)
end Go.Proofs.Ytmhmjbggjbeikaa
