/- PosNone: of nil positions. -/
import Derived.Test.YtmhmjbggjbeikaaOpen10
namespace Go.Proofs.Ytmhmjbggjbeikaa
open Go.RowKit
attribute [local go_sem] objAt_alloc objAt_alloc_at objAt_drew objAt_drewN objAt_setCell

set_option maxHeartbeats 1000000 in
theorem total_nil (a : ByteArray) (w : World) :
    Calls Try.prog 21 #[.pointer none, .string a] w fun e w' => e = .returned (.int .i64 0) ∧ Below w.heap.size w w' := by
  have HA : Hid (∀ W : World, W.cell? ⟨w.heap.size + 1, 0, none⟩ = some (.bool false) → W.frozen? ⟨w.heap.size + 1, 0, none⟩ = false → Calls Try.prog 41 #[.pointer (some ⟨w.heap.size + 1, 0, none⟩), .slice none 0 0] W fun e w' => e = .returned (.int .i64 0) ∧ w' = accWorld W (w.heap.size + 1) []) := hide fun W h1 h2 => by
    have := accAdd_calls (w.heap.size + 1) none 0 0 false [] W h1 h2 (fun h => by simp at h) (by simp) (by simp)
    rwa [show accAdd [] = 0 by decide +kernel] at this
  go_enter Try.func21, Try.ntmps21
  go_wp2_with (go_at_call 18; refine (keys_nilptr _ _ _ _).mono ?_; rintro e w' ⟨rfl, rfl⟩)
  go_loopw [5, 15] (fun v i wr => v = .slice none 0 0 ∧ i = .int .i64 0 ∧ wr = w.alloc (.cells #[.string a] 9)) (fun _ _ _ => 0)
  case atStart => exact ⟨rfl, rfl, rfl⟩
  case round =>
    obtain ⟨rfl, rfl, rfl⟩ := hrel
    go_wp2_with (go_at_call 41; refine (HA.out _ (by go_simp) (by go_simp)).mono ?_; rintro e w' ⟨rfl, rfl⟩)
    go_ret
    exact ⟨rfl, accWorld_below (((Below.refl _ _).alloc (Nat.le_refl _) _).alloc (by simp) _) (by omega)⟩

theorem get_nil' (k : Key) (w : World) :
    Calls Try.prog 17 #[.pointer none, ekey k] w fun e w' => e = .returned (.agg #[.int .i64 0, .int .i64 0, .int .i64 0]) ∧ Below w.heap.size w w' := get_nil k w

theorem keys_nil' (A : Option Addr) (n c : Nat) (w : World) :
    Calls Try.prog 18 #[.pointer none, .slice A n c] w fun e w' => e = .returned (.slice none 0 0) ∧ Below w.heap.size w w' :=
  (keys_nilptr A n c w).mono fun _ _ h => ⟨h.1, h.2 ▸ Below.refl _ _⟩

set_option maxHeartbeats 4000000 in
set_option maxRecDepth 100000 in
theorem posNone_cells (k1 k2 : ByteArray) (sub by_ : Int) (w : World) :
    Calls Try.prog 5 #[.agg #[.string k1, .string k2, .int .i64 sub, .int .i64 by_]] w fun e w' => e = .returned (.bool true) ∧ Below w.heap.size w w' := by
  have hkeep : ∀ W : World, Below (w.heap.size + 1) (w.alloc (.cells #[.string k1, .string k2, .int .i64 sub, .int .i64 by_] 26)) W → W.cell? ⟨w.heap.size, 0, none⟩ = some (.string k1) ∧ W.cell? ⟨w.heap.size, 1, none⟩ = some (.string k2) ∧ W.cell? ⟨w.heap.size, 2, none⟩ = some (.int .i64 sub) ∧ W.cell? ⟨w.heap.size, 3, none⟩ = some (.int .i64 by_) ∧ Hid (Below (w.heap.size + 1) (w.alloc (.cells #[.string k1, .string k2, .int .i64 sub, .int .i64 by_] 26)) W) := fun W h =>
    ⟨(h.cell (p := ⟨w.heap.size, 0, none⟩) (by simp)).trans (by simp), (h.cell (p := ⟨w.heap.size, 1, none⟩) (by simp)).trans (by simp), (h.cell (p := ⟨w.heap.size, 2, none⟩) (by simp)).trans (by simp), (h.cell (p := ⟨w.heap.size, 3, none⟩) (by simp)).trans (by simp), h⟩
  have HKEEP := hide hkeep
  clear hkeep
  have hend : Below w.heap.size w (w.alloc (.cells #[.string k1, .string k2, .int .i64 sub, .int .i64 by_] 26)) := (Below.refl _ _).alloc (Nat.le_refl _) _
  have hsz : (w.alloc (.cells #[.string k1, .string k2, .int .i64 sub, .int .i64 by_] 26)).heap.size = w.heap.size + 1 := by simp
  have HEND := hide hend
  have HSZ := hide hsz
  clear hend hsz
  go_enter Try.func5, Try.ntmps5
  go_wp2_with fail
  generalize hw0 : w.alloc (.cells #[.string k1, .string k2, .int .i64 sub, .int .i64 by_] 26) = w0 at *
  clear hw0
  go_region_held3 (fun W => W.cell? ⟨w.heap.size, 0, none⟩ = some (.string k1) ∧ W.cell? ⟨w.heap.size, 1, none⟩ = some (.string k2) ∧ W.cell? ⟨w.heap.size, 2, none⟩ = some (.int .i64 sub) ∧ W.cell? ⟨w.heap.size, 3, none⟩ = some (.int .i64 by_) ∧ Hid (Below (w.heap.size + 1) w0 W))
    (first | exact HKEEP.out _ ((Below.refl _ _).drew) | exact HKEEP.out _ (by assumption))
    (first
      | (go_at_call 15; go_split_ands; refine (alive_calls _).mono ?_; rintro e w5 ⟨rfl, hb5⟩; have hb6 := Below.trans (B := w.heap.size + 1) (a := w0) (by assumption) (hb5.mono (by rw [← HSZ.out]; exact Below.size (B := w.heap.size + 1) (w := w0) (by assumption))))
      | (go_at_call 16; go_split_ands; refine (add_nil (k1, k2) sub by_ _).mono ?_; rintro e w5 ⟨rfl, hb5⟩; have hb6 := Below.trans (B := w.heap.size + 1) (a := w0) (by assumption) (hb5.mono (by rw [← HSZ.out]; exact Below.size (B := w.heap.size + 1) (w := w0) (by assumption))))
      | (go_at_call 17; go_split_ands; refine (get_nil' (k1, k2) _).mono ?_; rintro e w5 ⟨rfl, hb5⟩; have hb6 := Below.trans (B := w.heap.size + 1) (a := w0) (by assumption) (hb5.mono (by rw [← HSZ.out]; exact Below.size (B := w.heap.size + 1) (w := w0) (by assumption))))
      | (go_at_call 19; go_split_ands; refine (part_no none (k1, k2) sub _ (.inl rfl)).mono ?_; rintro e w5 ⟨rfl, hb5⟩; have hb6 := Below.trans (B := w.heap.size + 1) (a := w0) (by assumption) (hb5.mono (by rw [← HSZ.out]; exact Below.size (B := w.heap.size + 1) (w := w0) (by assumption))))
      | (go_at_call 21; go_split_ands; refine (total_nil _ _).mono ?_; rintro e w5 ⟨rfl, hb5⟩; have hb6 := Below.trans (B := w.heap.size + 1) (a := w0) (by assumption) (hb5.mono (by rw [← HSZ.out]; exact Below.size (B := w.heap.size + 1) (w := w0) (by assumption))))
      | (go_at_call 22; go_split_ands; refine (whole_nil (k1, k2) _).mono ?_; rintro e w5 ⟨rfl, hb5⟩; have hb6 := Below.trans (B := w.heap.size + 1) (a := w0) (by assumption) (hb5.mono (by rw [← HSZ.out]; exact Below.size (B := w.heap.size + 1) (w := w0) (by assumption))))
      | (go_at_call 18; go_split_ands; refine (keys_nil' _ _ _ _).mono ?_; rintro e w5 ⟨rfl, hb5⟩; have hb6 := Below.trans (B := w.heap.size + 1) (a := w0) (by assumption) (hb5.mono (by rw [← HSZ.out]; exact Below.size (B := w.heap.size + 1) (w := w0) (by assumption)))))
  all_goals go_wp2
  all_goals go_ret
  all_goals exact ⟨rfl, HEND.out.trans (hb6.mono (by omega))⟩

theorem posNone_walk (a : POp) (w : World) (_h : a.fits) :
    Calls Try.prog 5 #[.agg #[.string a.k.1, .string a.k.2, .int .i64 a.sub, .int .i64 a.by_]] w fun e w' => e = .returned (.bool true) ∧ Below w.heap.size w w' := posNone_cells _ _ _ _ w
end Go.Proofs.Ytmhmjbggjbeikaa
