/- complinelaw10.alive. -/
import Derived.Test.YtmhmjbggjbeikaaTotal
import Derived.Deep.RegionHeld3
namespace Go.Proofs.Ytmhmjbggjbeikaa
open Go.RowKit
attribute [local go_sem] objAt_alloc objAt_alloc_at objAt_drew objAt_drewN objAt_setCell

set_option maxHeartbeats 400000 in
theorem posNew_calls (w : World) : Calls Try.prog 14 #[] w fun e w' => e = .returned (.pointer (some ⟨w.heap.size, 0, none⟩)) ∧ PosAt w' w.heap.size (fun j => j = w.heap.size) [] ∧ Below w.heap.size w w' := by
  have h : Calls Try.prog 14 #[] w fun e w' => e = .returned (.pointer (some ⟨w.heap.size, 0, none⟩)) ∧ w' = w.alloc (.cells #[.map none] 74) := by
    go_enter Try.func14, Try.ntmps14
    go_wp2
    go_ret
    exact ⟨rfl, rfl⟩
  refine h.mono fun e w' ⟨h1, h2⟩ => ⟨h1, ?_, by rw [h2]; exact (Below.refl _ _).alloc (Nat.le_refl _) _⟩
  subst h2
  exact ⟨rfl, fun k hk => by subst hk; simp, fun p hp => (by simp at hp), .inl ⟨heap_alloc_new w _, rfl⟩⟩

theorem PosAt.below' {w w' : World} {p B : Nat} {F : Nat → Prop} {m : List (Key × Three)} (h : PosAt w p F m) (hb : Below B w w') (hB : w.heap.size ≤ B) : PosAt w' p F m := h.below (hb.mono hB)

def keyAX : Key := (⟨#[65]⟩, ⟨#[88]⟩)
def m1 : List (Key × Three) := [(keyAX, (5, 0, 0))]
theorem alive_add1 : addErr [] keyAX 0 5 = 0 := by decide +kernel
theorem alive_map1 : addMap [] keyAX 0 5 = m1 := by decide +kernel
theorem alive_add2 : addErr m1 keyAX 0 (-6) = 30 := by decide +kernel
theorem alive_map2 : addMap m1 keyAX 0 (-6) = m1 := by decide +kernel
theorem alive_get : posGet m1 keyAX = (5, 0, 0) := by decide +kernel
theorem alive_keys : posKeys m1 [⟨#[88]⟩] = [keyAX] := by
  unfold posKeys sortK
  have : List.filter (selKey [⟨#[88]⟩]) (List.map (fun x => x.1) m1) = [keyAX] := by decide +kernel
  rw [this]
  simp
theorem alive_total : posTotal m1 ⟨#[88]⟩ = 5 := by
  unfold posTotal
  rw [alive_keys]
  decide +kernel
theorem alive_part : posPart m1 keyAX 1 = 0 := by decide +kernel

theorem alive_a1 (p : Nat) (F : Nat → Prop) (W : World) (h : PosAt W p F []) : Calls Try.prog 16 #[.pointer (some ⟨p, 0, none⟩), .agg #[.string ⟨#[65]⟩, .string ⟨#[88]⟩], .int .i64 0, .int .i64 5] W fun e w' => e = .returned (.int .i64 0) ∧ ∃ F', PosAt w' p F' m1 ∧ Frm F W w' ∧ ∀ j, F' j → F j ∨ W.heap.size ≤ j := by
  have := add_calls p F [] keyAX 0 5 W h
  rwa [alive_add1, alive_map1] at this
theorem alive_a2 (p : Nat) (F : Nat → Prop) (W : World) (h : PosAt W p F m1) : Calls Try.prog 16 #[.pointer (some ⟨p, 0, none⟩), .agg #[.string ⟨#[65]⟩, .string ⟨#[88]⟩], .int .i64 0, .int .i64 (-6)] W fun e w' => e = .returned (.int .i64 30) ∧ ∃ F', PosAt w' p F' m1 ∧ Frm F W w' ∧ ∀ j, F' j → F j ∨ W.heap.size ≤ j := by
  have := add_calls p F m1 keyAX 0 (-6) W h
  rwa [alive_add2, alive_map2] at this
theorem alive_k (p : Nat) (F : Nat → Prop) (W : World) (g c : Nat) (h : PosAt W p F m1) (hc : W.cell? ⟨g, 0, none⟩ = some (.string ⟨#[88]⟩)) : Calls Try.prog 18 #[.pointer (some ⟨p, 0, none⟩), .slice (some ⟨g, 0, none⟩) 1 c] W fun e w' => ∃ b cap, e = .returned (.slice (some ⟨b, 0, none⟩) 1 cap) ∧ w'.cell? ⟨b, 0, none⟩ = some (.string ⟨#[65]⟩) ∧ w'.cell? ⟨b, 1, none⟩ = some (.string ⟨#[88]⟩) ∧ W.heap.size ≤ b ∧ b < w'.heap.size ∧ Below W.heap.size W w' := by
  have := keys_calls p F m1 (some ⟨g, 0, none⟩) c [⟨#[88]⟩] W h (by decide) (fun _ => ⟨g, 0, rfl, World.block_lt_of_cell? _ _ hc, fun i hi => by
    have : i = 0 := by simp at hi; omega
    subst this
    exact hc⟩) (by decide)
  rw [alive_keys] at this
  refine this.mono fun e w' ⟨v, h1, h2, h3⟩ => ?_
  obtain ⟨A, cap, rfl, hA⟩ := own_keys h2
  obtain ⟨b, rfl, hb1, hb2, hb3⟩ := hA 0 (by decide)
  have hcell := own_key_cells h2 hb3 (i := 0) (by decide)
  exact ⟨b, cap, h1, hcell.1, hcell.2, hb1, hb2, h3⟩
theorem alive_g (p : Nat) (F : Nat → Prop) (W : World) (h : PosAt W p F m1) : Calls Try.prog 17 #[.pointer (some ⟨p, 0, none⟩), .agg #[.string ⟨#[65]⟩, .string ⟨#[88]⟩]] W fun e w' => e = .returned (.agg #[.int .i64 5, .int .i64 0, .int .i64 0]) ∧ Below W.heap.size W w' := by
  have := get_calls p F m1 keyAX W h
  rwa [alive_get] at this
theorem alive_t (p : Nat) (F : Nat → Prop) (W : World) (h : PosAt W p F m1) : Calls Try.prog 21 #[.pointer (some ⟨p, 0, none⟩), .string ⟨#[88]⟩] W fun e w' => e = .returned (.int .i64 5) ∧ Below W.heap.size W w' := by
  have := total_calls p F m1 ⟨#[88]⟩ W h (by decide)
  rwa [alive_total] at this
theorem alive_p (p : Nat) (F : Nat → Prop) (W : World) (h : PosAt W p F m1) : Calls Try.prog 19 #[.pointer (some ⟨p, 0, none⟩), .agg #[.string ⟨#[65]⟩, .string ⟨#[88]⟩], .int .i64 1] W fun e w' => e = .returned (.int .i64 0) ∧ Below W.heap.size W w' := by
  have := part_calls p F m1 keyAX 1 W h
  rwa [alive_part] at this

set_option maxHeartbeats 4000000 in
set_option maxRecDepth 100000 in
theorem alive_calls (w : World) : Calls Try.prog 15 #[] w fun e w' => e = .returned (.bool true) ∧ Below w.heap.size w w' := by
  have HN := hide (posNew_calls w)
  go_enter Try.func15, Try.ntmps15
  go_wp2_with (go_at_call 14; refine HN.out.mono ?_; rintro e w1 ⟨rfl, hp1, hb1⟩; have HP1 := hide hp1; have HB1 := hide hb1; have hl1 := (hp1.2.1 _ rfl); clear hp1 hb1)
  -- the first Add
  refine (alive_a1 _ _ _ (HP1.out.below ((Below.refl _ _).alloc (Nat.le_refl _) _))).mono ?_
  rintro e w2 ⟨rfl, F2, hp2, hf2, hF2⟩
  have hk2a : w2.cell? ⟨w1.heap.size, 0, none⟩ = some (.string ⟨#[65]⟩) := (hf2.cell (p := ⟨w1.heap.size, 0, none⟩) (by simp) (fun e => by simp at e; omega)).trans (by simp)
  have hk2b : w2.cell? ⟨w1.heap.size, 1, none⟩ = some (.string ⟨#[88]⟩) := (hf2.cell (p := ⟨w1.heap.size, 1, none⟩) (by simp) (fun e => by simp at e; omega)).trans (by simp)
  have hl2 : w1.heap.size < w2.heap.size := by have := hf2.size; simp at this; omega
  have HP2 := hide hp2
  have hnk : ¬ F2 w1.heap.size := fun e => by have := hF2 _ e; simp at this; omega
  have HB2 : Hid (Below w.heap.size w w2) := HB1.out.trans (((Below.refl _ _).alloc (Nat.le_refl _) _ |>.mono (by omega)).trans (hf2.below (by simp; omega) fun j hj => by omega))
  have HF2 : Hid (∀ j, F2 j → w.heap.size ≤ j) := hide fun j hj => by have := hF2 j hj; simp at this; omega
  clear hp2 hf2 hF2 HP1 HB1 HN
  go_wp2_with fail
  -- the second Add
  refine (alive_a2 _ _ _ HP2.out).mono ?_
  rintro e w3 ⟨rfl, F3, hp3, hf3, hF3⟩
  have hk3a : w3.cell? ⟨w1.heap.size, 0, none⟩ = some (.string ⟨#[65]⟩) := (hf3.cell (p := ⟨w1.heap.size, 0, none⟩) hl2 hnk).trans hk2a
  have hk3b : w3.cell? ⟨w1.heap.size, 1, none⟩ = some (.string ⟨#[88]⟩) := (hf3.cell (p := ⟨w1.heap.size, 1, none⟩) hl2 hnk).trans hk2b
  have hl3 : w1.heap.size < w3.heap.size := by have := hf3.size; omega
  have HP3 := hide hp3
  have HB3 : Hid (Below w.heap.size w w3) := HB2.out.trans (hf3.below HB2.out.size HF2.out)
  clear hp3 hf3 hF3 HP2 HB2 hk2a hk2b hl2 hnk HF2
  go_wp2_with fail
  -- Keys
  refine (alive_k _ F3 _ w3.heap.size 1 (HP3.out.below ((Below.refl _ _).alloc (Nat.le_refl _) _)) (by simp)).mono ?_
  rintro e w4 ⟨b, cap, rfl, hc1, hc2, hb1, hb2, hb4⟩
  have hbel : Below w3.heap.size w3 w4 := ((Below.refl _ _).alloc (Nat.le_refl _) _).trans (hb4.mono (by simp))
  have hk4a : w4.cell? ⟨w1.heap.size, 0, none⟩ = some (.string ⟨#[65]⟩) := (hbel.cell (p := ⟨w1.heap.size, 0, none⟩) hl3).trans hk3a
  have hk4b : w4.cell? ⟨w1.heap.size, 1, none⟩ = some (.string ⟨#[88]⟩) := (hbel.cell (p := ⟨w1.heap.size, 1, none⟩) hl3).trans hk3b
  have HP4 := hide (HP3.out.below hbel)
  have HB4 : Hid (Below w.heap.size w w4) := HB3.out.trans (hbel.mono HB3.out.size)
  have hl4 : w1.heap.size < w4.heap.size := by have := hbel.size; omega
  clear hbel hb4 HP3 HB3 hk3a hk3b hl3 hb1
  go_wp2_with fail
  have hA := fun (W : World) (h : Below w4.heap.size w4 W) => HP4.out.below h
  have HA := hide hA
  have hb20 := hb2
  clear hA
  have hkeep : ∀ W : World, Below w4.heap.size w4 W → W.cell? ⟨w1.heap.size, 0, none⟩ = some (.string ⟨#[65]⟩) ∧ W.cell? ⟨w1.heap.size, 1, none⟩ = some (.string ⟨#[88]⟩) ∧ W.cell? ⟨b, 0, none⟩ = some (.string ⟨#[65]⟩) ∧ W.cell? ⟨b, 1, none⟩ = some (.string ⟨#[88]⟩) ∧ Hid (Below w4.heap.size w4 W) := fun W h =>
    ⟨(h.cell (p := ⟨w1.heap.size, 0, none⟩) hl4).trans hk4a, (h.cell (p := ⟨w1.heap.size, 1, none⟩) hl4).trans hk4b, (h.cell (p := ⟨b, 0, none⟩) hb2).trans hc1, (h.cell (p := ⟨b, 1, none⟩) hb2).trans hc2, h⟩
  have HKEEP := hide hkeep
  clear hkeep
  go_region_held3 (fun W => W.cell? ⟨w1.heap.size, 0, none⟩ = some (.string ⟨#[65]⟩) ∧ W.cell? ⟨w1.heap.size, 1, none⟩ = some (.string ⟨#[88]⟩) ∧ W.cell? ⟨b, 0, none⟩ = some (.string ⟨#[65]⟩) ∧ W.cell? ⟨b, 1, none⟩ = some (.string ⟨#[88]⟩) ∧ Hid (Below w4.heap.size w4 W))
    (first | exact HKEEP.out _ ((Below.refl _ _).drew) | exact HKEEP.out _ (by assumption))
    (first
      | (go_at_call 17; go_split_ands; refine (alive_g _ F3 _ (HA.out _ (by assumption))).mono ?_; rintro e w5 ⟨rfl, hb5⟩; have hb6 := Below.trans (a := w4) (by assumption) (hb5.mono (Below.size (B := w4.heap.size) (w := w4) (by assumption))))
      | (go_at_call 21; go_split_ands; refine (alive_t _ F3 _ (HA.out _ (by assumption))).mono ?_; rintro e w5 ⟨rfl, hb5⟩; have hb6 := Below.trans (a := w4) (by assumption) (hb5.mono (Below.size (B := w4.heap.size) (w := w4) (by assumption))))
      | (go_at_call 19; go_split_ands; refine (alive_p _ F3 _ (HA.out _ (by assumption))).mono ?_; rintro e w5 ⟨rfl, hb5⟩; have hb6 := Below.trans (a := w4) (by assumption) (hb5.mono (Below.size (B := w4.heap.size) (w := w4) (by assumption)))))
  have hend := HB4.out.size
  go_wp2
  go_ret
  exact ⟨rfl, HB4.out.trans (hb6.mono hend)⟩
end Go.Proofs.Ytmhmjbggjbeikaa
