/- A key of its own: strings.Clone, own. -/
import Derived.Test.YtmhmjbggjbeikaaPost1
import Derived.Test.YtmhmjbggjbeikaaShelf
import Derived.Shelf.Strconv.Clone
namespace Go.Proofs.Ytmhmjbggjbeikaa
set_option linter.unusedSimpArgs false
set_option linter.unusedVariables false
open Go.RowKit

/-- A text that may be cloned. -/
def shortText (s : ByteArray) : Prop := s.size ≤ 281474976710656
theorem stringsliteClone (s : ByteArray) (w : World) (h : shortText s) : Calls Try.prog 76 #[.string s] w fun e w' => e = .returned (.string s) ∧ Below w.heap.size w w' :=
  Any.stringslite_Clone Try.lays316 s w h
theorem clone_calls (s : ByteArray) (w : World) (h : shortText s) : Calls Try.prog 56 #[.string s] w fun e w' => e = .returned (.string s) ∧ Below w.heap.size w w' := by
  have HC := hide (fun W => stringsliteClone s W h)
  clear h
  go_enter Try.func56, Try.ntmps56
  go_wp2_with (go_at_call 76; refine (HC.out _).mono ?_; rintro e w1 ⟨rfl, hb1⟩; have HB1 := hide hb1; clear hb1)
  go_ret
  exact ⟨rfl, HB1.out⟩

set_option maxHeartbeats 1000000 in
set_option maxRecDepth 100000 in
theorem own_calls (k1 k2 : ByteArray) (w : World) (h1 : shortText k1) (h2 : shortText k2) : Calls Try.prog 44 #[.agg #[.string k1, .string k2]] w fun e w' => e = .returned (.agg #[.string k1, .string k2]) ∧ Below w.heap.size w w' := by
  have HA := hide (fun W => clone_calls k1 W h1)
  have HB := hide (fun W => clone_calls k2 W h2)
  clear h1 h2
  go_enter Try.func44, Try.ntmps44
  go_wp2_with fail
  have HW : Hid (Below w.heap.size w ((w.alloc (.cells #[.string k1, .string k2] 24)).alloc (.cells #[.string ByteArray.empty, .string ByteArray.empty] 24))) := hide (((Below.refl _ _).alloc (Nat.le_refl _) _).alloc (by simp) _)
  have hkeep : ∀ W W' : World, (W.cell? ⟨w.heap.size, 0, none⟩ = some (.string k1) ∧ W.cell? ⟨w.heap.size, 1, none⟩ = some (.string k2) ∧ (∃ u, W.cell? ⟨w.heap.size + 1, 0, none⟩ = some u) ∧ (∃ u, W.cell? ⟨w.heap.size + 1, 1, none⟩ = some u) ∧ W.frozen? ⟨w.heap.size + 1, 0, none⟩ = false ∧ W.frozen? ⟨w.heap.size + 1, 1, none⟩ = false ∧ w.heap.size + 1 < W.heap.size ∧ Hid (Below w.heap.size w W)) → Below W.heap.size W W' →
      (W'.cell? ⟨w.heap.size, 0, none⟩ = some (.string k1) ∧ W'.cell? ⟨w.heap.size, 1, none⟩ = some (.string k2) ∧ (∃ u, W'.cell? ⟨w.heap.size + 1, 0, none⟩ = some u) ∧ (∃ u, W'.cell? ⟨w.heap.size + 1, 1, none⟩ = some u) ∧ W'.frozen? ⟨w.heap.size + 1, 0, none⟩ = false ∧ W'.frozen? ⟨w.heap.size + 1, 1, none⟩ = false ∧ w.heap.size + 1 < W'.heap.size ∧ Hid (Below w.heap.size w W')) := fun W W' ⟨h1, h2, ⟨u, h3⟩, ⟨v, h4⟩, h5, h6, h7, h8⟩ hb =>
    ⟨(hb.cell (p := ⟨w.heap.size, 0, none⟩) (by simp; omega)).trans h1, (hb.cell (p := ⟨w.heap.size, 1, none⟩) (by simp; omega)).trans h2, ⟨u, (hb.cell (p := ⟨w.heap.size + 1, 0, none⟩) h7).trans h3⟩, ⟨v, (hb.cell (p := ⟨w.heap.size + 1, 1, none⟩) h7).trans h4⟩,
      (hb.frozen (p := ⟨w.heap.size + 1, 0, none⟩) h7).trans h5, (hb.frozen (p := ⟨w.heap.size + 1, 1, none⟩) h7).trans h6, Nat.lt_of_lt_of_le h7 hb.size, h8.out.trans (hb.mono h8.out.size)⟩
  have HKEEP := hide hkeep
  clear hkeep
  refine wp_region_held_drew (S := fun W => W.cell? ⟨w.heap.size, 0, none⟩ = some (.string k1) ∧ W.cell? ⟨w.heap.size, 1, none⟩ = some (.string k2) ∧ (∃ u, W.cell? ⟨w.heap.size + 1, 0, none⟩ = some u) ∧ (∃ u, W.cell? ⟨w.heap.size + 1, 1, none⟩ = some u) ∧ W.frozen? ⟨w.heap.size + 1, 0, none⟩ = false ∧ W.frozen? ⟨w.heap.size + 1, 1, none⟩ = false ∧ w.heap.size + 1 < W.heap.size ∧ Hid (Below w.heap.size w W)) (by kernel_rfl) ⟨by simp, by simp, ⟨.string ⟨#[]⟩, by simp⟩, ⟨.string ⟨#[]⟩, by simp⟩, by simp, by simp, by simp, HW.out.drew⟩ (fun hHeld => ?_)
  refine wpAnyH_take (i := 0) (v := ?_) rfl (by kernel_rfl) (by kernel_rfl) (by kernel_rfl) (fun _ _ _ h => h) (Or.inl ⟨by rfl, ?hya0⟩) (by assumption) ?resta0
  case hya0 => (intro w hSw; (try dsimp only at hSw); go_split_ands; go_simp; try with_reducible rfl)
  try simp only [Act.put, List.setIfInBounds_toArray, List.set_cons_zero, List.set_cons_succ, List.getElem_toArray, List.getElem_cons_zero, List.getElem_cons_succ]
  refine wpAnyH_take (i := 1) (v := ?_) rfl (by kernel_rfl) (by kernel_rfl) (by kernel_rfl) (fun _ _ _ h => h) (Or.inl ⟨by rfl, ?hya1⟩) (by assumption) ?resta1
  case hya1 => (intro w hSw; (try dsimp only at hSw); go_split_ands; go_simp; try with_reducible rfl)
  try simp only [Act.put, List.setIfInBounds_toArray, List.set_cons_zero, List.set_cons_succ, List.getElem_toArray, List.getElem_cons_zero, List.getElem_cons_succ]
  refine wpAnyH_take (i := 3) (v := ?_) rfl (by kernel_rfl) (by kernel_rfl) (by kernel_rfl) (fun _ _ _ h => h) (Or.inl ⟨by rfl, ?hya3⟩) (by assumption) ?resta3
  case hya3 => (intro w hSw; (try dsimp only at hSw); go_split_ands; go_simp; try with_reducible rfl)
  try simp only [Act.put, List.setIfInBounds_toArray, List.set_cons_zero, List.set_cons_succ, List.getElem_toArray, List.getElem_cons_zero, List.getElem_cons_succ]
  refine wpAnyH_take (i := 4) (v := ?_) rfl (by kernel_rfl) (by kernel_rfl) (by kernel_rfl) (fun _ _ _ h => h) (Or.inl ⟨by rfl, ?hya4⟩) (by assumption) ?resta4
  case hya4 => (intro w hSw; (try dsimp only at hSw); go_split_ands; go_simp; try with_reducible rfl)
  try simp only [Act.put, List.setIfInBounds_toArray, List.set_cons_zero, List.set_cons_succ, List.getElem_toArray, List.getElem_cons_zero, List.getElem_cons_succ]
  refine wpAnyH_ready (rs := [2]) (by kernel_rfl) (by simp) ?_
  refine AllReadyH.cons rfl (fun K hK => ?_) AllReadyH.nil
  go_simp
  refine (HA.out _).mono ?_
  rintro e w3 ⟨rfl, hb3⟩
  have hs3 := HKEEP.out _ _ hHeld hb3
  clear hHeld hb3
  try go_wp2_with fail
  refine hK.out _ _ (hs3) (fun hHeld => ?_)
  clear hK K
  try simp only [Act.put, List.setIfInBounds_toArray, List.set_cons_zero, List.set_cons_succ, List.getElem_toArray, List.getElem_cons_zero, List.getElem_cons_succ]
  refine wpAnyH_ready (rs := [5]) (by kernel_rfl) (by simp) ?_
  refine AllReadyH.cons rfl (fun K hK => ?_) AllReadyH.nil
  go_simp
  refine (HB.out _).mono ?_
  rintro e w4 ⟨rfl, hb4⟩
  have hs4 := HKEEP.out _ _ hHeld hb4
  clear hHeld hb4
  try go_wp2_with fail
  refine hK.out _ _ (hs4) (fun hHeld => ?_)
  clear hK K
  try simp only [Act.put, List.setIfInBounds_toArray, List.set_cons_zero, List.set_cons_succ, List.getElem_toArray, List.getElem_cons_zero, List.getElem_cons_succ]
  refine wpAnyH_take (i := 6) (v := ?_) rfl (by kernel_rfl) (by kernel_rfl) (by kernel_rfl) (fun _ _ _ h => h) (Or.inl ⟨by rfl, ?hya6⟩) (by assumption) ?resta6
  case hya6 => (intro w hSw; (try dsimp only at hSw); go_split_ands; go_simp; try with_reducible rfl)
  try simp only [Act.put, List.setIfInBounds_toArray, List.set_cons_zero, List.set_cons_succ, List.getElem_toArray, List.getElem_cons_zero, List.getElem_cons_succ]
  refine wpAnyH_ready (rs := [7]) (by kernel_rfl) (by simp) ?_
  refine AllReadyH.cons rfl (fun K hK => ?_) AllReadyH.nil
  obtain ⟨g1, g2, ⟨u1, g3⟩, ⟨u2, g4⟩, g5, g6, g7, g8⟩ := hHeld
  go_simp
  have hne : w.heap.size ≠ w.heap.size + 1 := by omega
  refine hK.out _ _ ?hfin (fun hHeld => ?hrest)
  case hfin => (exact ⟨by go_simp, by go_simp, ⟨.string k1, by go_simp⟩, ⟨.string k2, by go_simp⟩, by go_simp, by go_simp, by simpa [World.setCell] using g7, (g8.out.setCell (by simp) _).setCell (by simp) _⟩)
  have hv1 : ((w4.setCell ⟨w.heap.size + 1, 0, none⟩ (.string k1)).setCell ⟨w.heap.size + 1, 1, none⟩ (.string k2)).cell? ⟨w.heap.size + 1, 0, none⟩ = some (.string k1) := by go_simp
  have hv2 : ((w4.setCell ⟨w.heap.size + 1, 0, none⟩ (.string k1)).setCell ⟨w.heap.size + 1, 1, none⟩ (.string k2)).cell? ⟨w.heap.size + 1, 1, none⟩ = some (.string k2) := by go_simp
  have HB9 : Hid (Below w.heap.size w ((w4.setCell ⟨w.heap.size + 1, 0, none⟩ (.string k1)).setCell ⟨w.heap.size + 1, 1, none⟩ (.string k2))) := hide ((g8.out.setCell (by simp) _).setCell (by simp) _)
  generalize (w4.setCell ⟨w.heap.size + 1, 0, none⟩ (.string k1)).setCell ⟨w.heap.size + 1, 1, none⟩ (.string k2) = w9 at *
  clear hK K
  try simp only [Act.put, List.setIfInBounds_toArray, List.set_cons_zero, List.set_cons_succ, List.getElem_toArray, List.getElem_cons_zero, List.getElem_cons_succ]
  refine wpAnyH_done (by kernel_rfl) ?_ _
  go_wp2
  exact bodyPost_ret (v := .agg #[.string k1, .string k2]) (by simp [results, Try.results44, go_sem, hv1, hv2]) rfl ⟨rfl, HB9.out⟩
end Go.Proofs.Ytmhmjbggjbeikaa
