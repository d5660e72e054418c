/- (*Ledger).Block. -/
import Derived.Test.YtmhmjbggjbeikaaLaw11
namespace Go.Proofs.Ytmhmjbggjbeikaa
set_option linter.unusedSimpArgs false
set_option linter.unusedVariables false
open Go.RowKit
attribute [local go_sem] objAt_alloc objAt_alloc_at objAt_drew objAt_drewN objAt_setCell comesTo_value comesTo_enter

def blockLed (L : Led) (k : Key) (on : Bool) : Led := ⟨L.m, L.iss, if on = true then put (del L.blk k) k () else del L.blk k⟩

section
variable {w w1 W W' : World} {g p b : Nat} {Fp F : Nat → Prop} {im bm : Option Nat} {L : Led}
theorem LedParts.below (h : LedParts w g p Fp im bm F L) (hb : Below w.heap.size w w1) : LedParts w1 g p Fp im bm F L := by
  obtain ⟨h1, h2, h3, h4, h5, h6, h7, h8, h9, h10⟩ := h
  exact ⟨(hb.block g (h9 g h5)).trans h1, h2.below hb, h3.frm (Frm.of_below (S := None) hb) (fun _ _ => id), h4.frm (Frm.of_below (S := None) hb) (fun _ _ => id), h5, h6, h7, h8, fun j hj => Nat.lt_of_lt_of_le (h9 j hj) hb.size, h10⟩
theorem parts_blk {blk' : List (Key × Unit)} (h : LedParts w g p Fp im (some b) F L) (hm : MapB ekey eunit w1 b blk') (hf : Frm (fun x => x = b) w w1) : LedParts w1 g p Fp im (some b) F ⟨L.m, L.iss, blk'⟩ ∧ Frm F w w1 := by
  obtain ⟨h1, h2, h3, h4, h5, h6, h7, h8, h9, h10, h11, h12⟩ := h
  obtain ⟨e1, e2, e3⟩ := h12 b rfl
  refine ⟨⟨(hf.block g (h9 g h5) (fun e => e1 e.symm)).trans h1, h2.frm hf (fun j hj e => e2 (e ▸ hj)), h3.frm hf (fun j hj e => e3 (by rw [hj, e])), .inr ⟨b, rfl, hm⟩, h5, h6, h7, h8, fun j hj => Nat.lt_of_lt_of_le (h9 j hj) hf.size, h10, h11, h12⟩, hf.mono (fun j hj => .inl (by rw [hj]; exact h8 b rfl))⟩
/-- The map was made. -/
theorem parts_made_blk (h : LedParts w g p Fp im none F L) :
    LedParts ((w.setCell ⟨g, 2, none⟩ (.map (some w.heap.size))).alloc (.map #[] 0)) g p Fp im (some w.heap.size) (fun j => F j ∨ j = w.heap.size) ⟨L.m, L.iss, []⟩ ∧ Frm F w ((w.setCell ⟨g, 2, none⟩ (.map (some w.heap.size))).alloc (.map #[] 0)) ∧ MapB ekey eunit ((w.setCell ⟨g, 2, none⟩ (.map (some w.heap.size))).alloc (.map #[] 0)) w.heap.size ([] : List (Key × Unit)) := by
  obtain ⟨h1, h2, h3, h4, h5, h6, h7, h8, h9, h10, h11, h12⟩ := h
  have f0 : Frm (fun x => x = g) w ((w.setCell ⟨g, 2, none⟩ (.map (some w.heap.size))).alloc (.map #[] 0)) := ((Frm.refl (fun x => x = g) w).setCell (p := ⟨g, 2, none⟩) (.inl rfl) _).alloc _
  have hgs := h9 g h5
  have e0 : ((w.setCell ⟨g, 2, none⟩ (.map (some w.heap.size))).alloc (.map #[] 0)).heap[g]? = some (.cells #[.pointer (some ⟨p, 0, none⟩), .map im, .map (some w.heap.size)] 56 (0, 0)) := by
    have a1 : ((w.setCell ⟨g, 2, none⟩ (.map (some w.heap.size))).alloc (.map #[] 0)).heap[g]? = (w.setCell ⟨g, 2, none⟩ (.map (some w.heap.size))).heap[g]? := Below.heap_alloc _ _ _ (by simpa [World.setCell] using hgs)
    rw [a1]
    simp [World.setCell, Array.getElem?_modify, h1]
  have s0 : ((w.setCell ⟨g, 2, none⟩ (.map (some w.heap.size))).alloc (.map #[] 0)).heap.size = w.heap.size + 1 := by simp [World.setCell]
  have hm : MapB ekey eunit ((w.setCell ⟨g, 2, none⟩ (.map (some w.heap.size))).alloc (.map #[] 0)) w.heap.size ([] : List (Key × Unit)) := by
    have := MapB.made (ek := ekey) (ev := eunit) (w.setCell ⟨g, 2, none⟩ (.map (some w.heap.size)))
    simpa [World.setCell] using this
  refine ⟨⟨e0, h2.frm f0 (fun j hj e => h10 (e ▸ hj)), h3.frm f0 (fun j hj e => (h11 j hj).1 e), .inr ⟨_, rfl, hm⟩, .inl h5, fun j hj => .inl (h6 j hj), fun j hj => .inl (h7 j hj), fun j hj => .inr (by cases hj; rfl), fun j hj => ?_, h10, h11,
    fun j hj => by
      cases hj
      exact ⟨by omega, fun e => by have := h9 _ (h6 _ e); omega, fun e => by have := h9 _ (h7 _ e); omega⟩⟩, f0.mono (fun j hj => .inl (by rw [hj]; exact h5)), hm⟩
  rw [s0]
  rcases hj with hj | hj
  · have := h9 j hj; omega
  · omega
end

set_option maxHeartbeats 4000000 in
set_option maxRecDepth 100000 in
theorem block_calls (g p : Nat) (F : Nat → Prop) (L : Led) (k1 k2 : ByteArray) (on : Bool) (w : World) (h : LedAt w g p F L) (hs1 : shortText k1) (hs2 : shortText k2) :
    Calls Try.prog 31 #[.pointer (some ⟨g, 0, none⟩), .agg #[.string k1, .string k2], .bool on] w fun e w' => e = .returned (.tuple #[]) ∧ LedPost w g p F (blockLed L (k1, k2) on) w' := by
  have HOWN := hide (fun W => own_calls k1 k2 W hs1 hs2)
  have hnil := fun W r => run_eql_map_nil (P := Try.prog) W _ _ _ r Try.underlying54
  have hmk := @run_makeMap Try.prog
  obtain ⟨Fp, im, bm, hparts⟩ := h
  have hp0 : LedParts w g p Fp im bm F L := hparts
  have hp1 := hp0.below ((Below.refl _ _).alloc (Nat.le_refl _) (.cells #[.string k1, .string k2] 24))
  have hbel0 : Below w.heap.size w (w.alloc (.cells #[.string k1, .string k2] 24)) := (Below.refl _ _).alloc (Nat.le_refl _) _
  obtain ⟨h1, _, _, h4, h5, _, _, h8, h9, _, _, h12⟩ := hparts
  obtain ⟨e0, _, e2, f0, _, f2⟩ := led_cells h1
  have hg := h9 g h5
  have HFL := hide h9
  have HP1 := hide hp1
  have HBEL := hide hbel0
  clear hs1 hs2 hp0 h1 h5 hp1 hbel0
  cases bm with
  | some b =>
    have hb := h9 b (h8 b rfl)
    have hbg := (h12 b rfl).1
    have hmb0 : MapB ekey eunit (w.alloc (.cells #[.string k1, .string k2] 24)) b L.blk := by
      rcases h4 with ⟨h, _⟩ | ⟨b', h, h'⟩
      · cases h
      · cases h; exact h'.alloc _
    have HMB := hide hmb0
    have HEND : Hid (∀ (W' : World) (blk' : List (Key × Unit)), LedParts W' g p Fp im (some b) F ⟨L.m, L.iss, blk'⟩ → Frm F (w.alloc (.cells #[.string k1, .string k2] 24)) W' → LedPost w g p F ⟨L.m, L.iss, blk'⟩ W') := hide fun W' blk' hq hf =>
      ⟨F, hq.led, (Frm.of_below (S := F) HBEL.out).trans hf (fun j hj => .inl hj), fun j hj => .inl hj⟩
    have hz : (w.alloc (.cells #[.string k1, .string k2] 24)).heap.size = w.heap.size + 1 := by simp
    have c2 : (w.alloc (.cells #[.string k1, .string k2] 24)).cell? ⟨g, 2, none⟩ = some (.map (some b)) := (HBEL.out.cell (p := ⟨g, 2, none⟩) hg).trans e2
    have ck1 : (w.alloc (.cells #[.string k1, .string k2] 24)).cell? ⟨w.heap.size, 0, none⟩ = some (.string k1) := by simp
    have ck2 : (w.alloc (.cells #[.string k1, .string k2] 24)).cell? ⟨w.heap.size, 1, none⟩ = some (.string k2) := by simp
    have hsb : ¬ w.heap.size = b := by omega
    have hgb : ¬ g = b := fun e => hbg e.symm
    have HLP := HP1
    clear h4 h8 h9 h12 hmb0 HP1
    have HEQF : Hid (blockLed L (k1, k2) false = ⟨L.m, L.iss, del L.blk (k1, k2)⟩) := rfl
    have HEQT : Hid (blockLed L (k1, k2) true = ⟨L.m, L.iss, put (del L.blk (k1, k2)) (k1, k2) ()⟩) := rfl
    cases on with
    | false =>
      go_enter Try.func31, Try.ntmps31
      go_wp2_with (go_at_call 42; refine (none_no g p _ (by go_simp)).mono ?_; rintro e w' ⟨rfl, rfl⟩)
      have hs1 : w.heap.size < (w.alloc (.cells #[.string k1, .string k2] 24)).heap.size := by omega
      have hg1 : g < (w.alloc (.cells #[.string k1, .string k2] 24)).heap.size := by omega
      clear hz
      generalize w.alloc (.cells #[.string k1, .string k2] 24) = W1 at *
      have HF : Hid (∀ W, W1.drew = W → W.cell? ⟨g, 2, none⟩ = some (.map (some b)) ∧ W.cell? ⟨w.heap.size, 0, none⟩ = some (.string k1) ∧ W.cell? ⟨w.heap.size, 1, none⟩ = some (.string k2)) := hide fun W hW => hW ▸ ⟨c2, ck1, ck2⟩
      refine region_by (fun a b => a = b) way_eq 5 5 (fun W => W1.drew = W) (by kernel_rfl) (by kernel_rfl) (fun _ _ d _ _ h => by cases d <;> exact h) (fun x y h hx => h ▸ hx) rfl (fun KT hKT => ?_)
      simp only [List.take_succ_cons, List.take_zero]
      refine Lex.want (v := ?_) (by rfl) (fun W hW => ?hd1) ?_
      case hd1 =>
        have hh := HF.out W hW
        clear hW
        go_split_ands
        go_simp
        first | rfl | exact way_new.refl _ | exact way_grow.refl _ | (refine ⟨?_, way_new.refl _⟩; rfl) | (refine ⟨?_, way_grow.refl _⟩; rfl)
      try simp only [Act.put, List.setIfInBounds_toArray, List.set_cons_zero, List.set_cons_succ, List.getElem_toArray, List.getElem_cons_zero, List.getElem_cons_succ]
      refine Lex.want (v := ?_) (by rfl) (fun W hW => ?hd2) ?_
      case hd2 =>
        have hh := HF.out W hW
        clear hW
        go_split_ands
        go_simp
        first | rfl | exact way_new.refl _ | exact way_grow.refl _ | (refine ⟨?_, way_new.refl _⟩; rfl) | (refine ⟨?_, way_grow.refl _⟩; rfl)
      try simp only [Act.put, List.setIfInBounds_toArray, List.set_cons_zero, List.set_cons_succ, List.getElem_toArray, List.getElem_cons_zero, List.getElem_cons_succ]
      refine Lex.want (v := ?_) (by rfl) (fun W hW => ?hd3) ?_
      case hd3 =>
        have hh := HF.out W hW
        clear hW
        go_split_ands
        go_simp
        first | rfl | exact way_new.refl _ | exact way_grow.refl _ | (refine ⟨?_, way_new.refl _⟩; rfl) | (refine ⟨?_, way_grow.refl _⟩; rfl)
      try simp only [Act.put, List.setIfInBounds_toArray, List.set_cons_zero, List.set_cons_succ, List.getElem_toArray, List.getElem_cons_zero, List.getElem_cons_succ]
      refine Lex.want (v := ?_) (by rfl) (fun W hW => ?hd4) ?_
      case hd4 =>
        have hh := HF.out W hW
        clear hW
        go_split_ands
        go_simp
        first | rfl | exact way_new.refl _ | exact way_grow.refl _ | (refine ⟨?_, way_new.refl _⟩; rfl) | (refine ⟨?_, way_grow.refl _⟩; rfl)
      try simp only [Act.put, List.setIfInBounds_toArray, List.set_cons_zero, List.set_cons_succ, List.getElem_toArray, List.getElem_cons_zero, List.getElem_cons_succ]
      refine Lex.want (v := ?_) (by rfl) (fun W hW => ?hd5) ?_
      case hd5 =>
        have hh := HF.out W hW
        clear hW
        go_split_ands
        go_simp
        first | rfl | exact way_new.refl _ | exact way_grow.refl _ | (refine ⟨?_, way_new.refl _⟩; rfl) | (refine ⟨?_, way_grow.refl _⟩; rfl)
      try simp only [Act.put, List.setIfInBounds_toArray, List.set_cons_zero, List.set_cons_succ, List.getElem_toArray, List.getElem_cons_zero, List.getElem_cons_succ]
      refine Lex.nil (hKT.out _ ?_)
      clear hKT KT
      refine Reg.done (by kernel_rfl) (fun W hW hWT => ⟨by kernel_rfl, ?_⟩)
      simp only [List.drop_succ_cons, List.drop_zero]
      subst hW
      clear hWT HF
      obtain ⟨upd, hupd⟩ := HMB.out.delete_fn (P := Try.prog) keyT Try.underlying54 (k1, k2) 0 24
      obtain ⟨hu1, hu2, hu3, hu4⟩ := hupd W1.drew rfl
      simp only [ekey] at hu1
      have HP2 := hide (parts_blk HLP.out hu2 ⟨hu3.os, hu3.tape, hu3.output, hu3.size, hu3.block⟩)
      have HU2 := hide hu2
      have hs2 : w.heap.size < (upd W1.drew).heap.size := by rw [hu4]; exact hs1
      have d1 : (upd W1.drew).cell? ⟨w.heap.size, 0, none⟩ = some (.string k1) := (World.cell?_of_block (a := ⟨w.heap.size, 0, none⟩) (hu3.block w.heap.size hs1 hsb)).trans ck1
      have d2 : (upd W1.drew).cell? ⟨w.heap.size, 1, none⟩ = some (.string k2) := (World.cell?_of_block (a := ⟨w.heap.size, 1, none⟩) (hu3.block w.heap.size hs1 hsb)).trans ck2
      have d3 : (upd W1.drew).cell? ⟨g, 2, none⟩ = some (.map (some b)) := (World.cell?_of_block (a := ⟨g, 2, none⟩) (hu3.block g hg1 hgb)).trans c2
      have hg2 : g < (upd W1.drew).heap.size := by rw [hu4]; exact hg1
      clear hu2 hu3 hu4 hupd
      go_wp2_with fail
      go_end0
      exact ⟨rfl, by rw [HEQF.out]; exact HEND.out _ _ HP2.out.1 HP2.out.2⟩
    | true =>
      go_enter Try.func31, Try.ntmps31
      go_wp2_with (go_at_call 42; refine (none_no g p _ (by go_simp)).mono ?_; rintro e w' ⟨rfl, rfl⟩)
      have hs1 : w.heap.size < (w.alloc (.cells #[.string k1, .string k2] 24)).heap.size := by omega
      have hg1 : g < (w.alloc (.cells #[.string k1, .string k2] 24)).heap.size := by omega
      clear hz
      generalize w.alloc (.cells #[.string k1, .string k2] 24) = W1 at *
      have HF : Hid (∀ W, W1.drew = W → W.cell? ⟨g, 2, none⟩ = some (.map (some b)) ∧ W.cell? ⟨w.heap.size, 0, none⟩ = some (.string k1) ∧ W.cell? ⟨w.heap.size, 1, none⟩ = some (.string k2)) := hide fun W hW => hW ▸ ⟨c2, ck1, ck2⟩
      refine region_by (fun a b => a = b) way_eq 5 5 (fun W => W1.drew = W) (by kernel_rfl) (by kernel_rfl) (fun _ _ d _ _ h => by cases d <;> exact h) (fun x y h hx => h ▸ hx) rfl (fun KT hKT => ?_)
      simp only [List.take_succ_cons, List.take_zero]
      refine Lex.want (v := ?_) (by rfl) (fun W hW => ?hd6) ?_
      case hd6 =>
        have hh := HF.out W hW
        clear hW
        go_split_ands
        go_simp
        first | rfl | exact way_new.refl _ | exact way_grow.refl _ | (refine ⟨?_, way_new.refl _⟩; rfl) | (refine ⟨?_, way_grow.refl _⟩; rfl)
      try simp only [Act.put, List.setIfInBounds_toArray, List.set_cons_zero, List.set_cons_succ, List.getElem_toArray, List.getElem_cons_zero, List.getElem_cons_succ]
      refine Lex.want (v := ?_) (by rfl) (fun W hW => ?hd7) ?_
      case hd7 =>
        have hh := HF.out W hW
        clear hW
        go_split_ands
        go_simp
        first | rfl | exact way_new.refl _ | exact way_grow.refl _ | (refine ⟨?_, way_new.refl _⟩; rfl) | (refine ⟨?_, way_grow.refl _⟩; rfl)
      try simp only [Act.put, List.setIfInBounds_toArray, List.set_cons_zero, List.set_cons_succ, List.getElem_toArray, List.getElem_cons_zero, List.getElem_cons_succ]
      refine Lex.want (v := ?_) (by rfl) (fun W hW => ?hd8) ?_
      case hd8 =>
        have hh := HF.out W hW
        clear hW
        go_split_ands
        go_simp
        first | rfl | exact way_new.refl _ | exact way_grow.refl _ | (refine ⟨?_, way_new.refl _⟩; rfl) | (refine ⟨?_, way_grow.refl _⟩; rfl)
      try simp only [Act.put, List.setIfInBounds_toArray, List.set_cons_zero, List.set_cons_succ, List.getElem_toArray, List.getElem_cons_zero, List.getElem_cons_succ]
      refine Lex.want (v := ?_) (by rfl) (fun W hW => ?hd9) ?_
      case hd9 =>
        have hh := HF.out W hW
        clear hW
        go_split_ands
        go_simp
        first | rfl | exact way_new.refl _ | exact way_grow.refl _ | (refine ⟨?_, way_new.refl _⟩; rfl) | (refine ⟨?_, way_grow.refl _⟩; rfl)
      try simp only [Act.put, List.setIfInBounds_toArray, List.set_cons_zero, List.set_cons_succ, List.getElem_toArray, List.getElem_cons_zero, List.getElem_cons_succ]
      refine Lex.want (v := ?_) (by rfl) (fun W hW => ?hd10) ?_
      case hd10 =>
        have hh := HF.out W hW
        clear hW
        go_split_ands
        go_simp
        first | rfl | exact way_new.refl _ | exact way_grow.refl _ | (refine ⟨?_, way_new.refl _⟩; rfl) | (refine ⟨?_, way_grow.refl _⟩; rfl)
      try simp only [Act.put, List.setIfInBounds_toArray, List.set_cons_zero, List.set_cons_succ, List.getElem_toArray, List.getElem_cons_zero, List.getElem_cons_succ]
      refine Lex.nil (hKT.out _ ?_)
      clear hKT KT
      refine Reg.done (by kernel_rfl) (fun W hW hWT => ⟨by kernel_rfl, ?_⟩)
      simp only [List.drop_succ_cons, List.drop_zero]
      subst hW
      clear hWT HF
      obtain ⟨upd, hupd⟩ := HMB.out.delete_fn (P := Try.prog) keyT Try.underlying54 (k1, k2) 0 24
      obtain ⟨hu1, hu2, hu3, hu4⟩ := hupd W1.drew rfl
      simp only [ekey] at hu1
      have HP2 := hide (parts_blk HLP.out hu2 ⟨hu3.os, hu3.tape, hu3.output, hu3.size, hu3.block⟩)
      have HU2 := hide hu2
      have hs2 : w.heap.size < (upd W1.drew).heap.size := by rw [hu4]; exact hs1
      have d1 : (upd W1.drew).cell? ⟨w.heap.size, 0, none⟩ = some (.string k1) := (World.cell?_of_block (a := ⟨w.heap.size, 0, none⟩) (hu3.block w.heap.size hs1 hsb)).trans ck1
      have d2 : (upd W1.drew).cell? ⟨w.heap.size, 1, none⟩ = some (.string k2) := (World.cell?_of_block (a := ⟨w.heap.size, 1, none⟩) (hu3.block w.heap.size hs1 hsb)).trans ck2
      have d3 : (upd W1.drew).cell? ⟨g, 2, none⟩ = some (.map (some b)) := (World.cell?_of_block (a := ⟨g, 2, none⟩) (hu3.block g hg1 hgb)).trans c2
      have hg2 : g < (upd W1.drew).heap.size := by rw [hu4]; exact hg1
      clear hu2 hu3 hu4 hupd
      go_wp2_with fail
      generalize upd W1.drew = W2 at *
      have HF : Hid (∀ W, New W2 W → W.cell? ⟨g, 2, none⟩ = some (.map (some b)) ∧ W.cell? ⟨w.heap.size, 0, none⟩ = some (.string k1) ∧ W.cell? ⟨w.heap.size, 1, none⟩ = some (.string k2)) := hide fun W hW => ⟨(Below.cell hW (p := ⟨g, 2, none⟩) hg2).trans d3, (Below.cell hW (p := ⟨w.heap.size, 0, none⟩) hs2).trans d1, (Below.cell hW (p := ⟨w.heap.size, 1, none⟩) hs2).trans d2⟩
      refine region_by New way_new 7 7 (fun W => New W2 W) (by kernel_rfl) (by kernel_rfl) (fun _ _ d _ _ h => by cases d <;> exact h) (fun x y h hx => way_new.trans hx h) (Below.refl _ _).drew (fun KT hKT => ?_)
      simp only [List.take_succ_cons, List.take_zero]
      refine Lex.want (v := ?_) (by rfl) (fun W hW => ?hd11) ?_
      case hd11 =>
        have hh := HF.out W hW
        clear hW
        go_split_ands
        go_simp
        first | rfl | exact way_new.refl _ | exact way_grow.refl _ | (refine ⟨?_, way_new.refl _⟩; rfl) | (refine ⟨?_, way_grow.refl _⟩; rfl)
      try simp only [Act.put, List.setIfInBounds_toArray, List.set_cons_zero, List.set_cons_succ, List.getElem_toArray, List.getElem_cons_zero, List.getElem_cons_succ]
      refine Lex.want (v := ?_) (by rfl) (fun W hW => ?hd12) ?_
      case hd12 =>
        have hh := HF.out W hW
        clear hW
        go_split_ands
        go_simp
        first | rfl | exact way_new.refl _ | exact way_grow.refl _ | (refine ⟨?_, way_new.refl _⟩; rfl) | (refine ⟨?_, way_grow.refl _⟩; rfl)
      try simp only [Act.put, List.setIfInBounds_toArray, List.set_cons_zero, List.set_cons_succ, List.getElem_toArray, List.getElem_cons_zero, List.getElem_cons_succ]
      refine Lex.want (v := ?_) (by rfl) (fun W hW => ?hd13) ?_
      case hd13 =>
        have hh := HF.out W hW
        clear hW
        go_split_ands
        go_simp
        first | rfl | exact way_new.refl _ | exact way_grow.refl _ | (refine ⟨?_, way_new.refl _⟩; rfl) | (refine ⟨?_, way_grow.refl _⟩; rfl)
      try simp only [Act.put, List.setIfInBounds_toArray, List.set_cons_zero, List.set_cons_succ, List.getElem_toArray, List.getElem_cons_zero, List.getElem_cons_succ]
      refine Lex.want (v := ?_) (by rfl) (fun W hW => ?hd14) ?_
      case hd14 =>
        have hh := HF.out W hW
        clear hW
        go_split_ands
        go_simp
        first | rfl | exact way_new.refl _ | exact way_grow.refl _ | (refine ⟨?_, way_new.refl _⟩; rfl) | (refine ⟨?_, way_grow.refl _⟩; rfl)
      try simp only [Act.put, List.setIfInBounds_toArray, List.set_cons_zero, List.set_cons_succ, List.getElem_toArray, List.getElem_cons_zero, List.getElem_cons_succ]
      refine Lex.want (v := ?_) (by rfl) (fun W hW => ?hd15) ?_
      case hd15 =>
        have hh := HF.out W hW
        clear hW
        go_split_ands
        go_simp
        first | rfl | exact way_new.refl _ | exact way_grow.refl _ | (refine ⟨?_, way_new.refl _⟩; rfl) | (refine ⟨?_, way_grow.refl _⟩; rfl)
      try simp only [Act.put, List.setIfInBounds_toArray, List.set_cons_zero, List.set_cons_succ, List.getElem_toArray, List.getElem_cons_zero, List.getElem_cons_succ]
      refine Lex.want (v := ?_) (by rfl) (fun W hW => ?hd16) ?_
      case hd16 =>
        have hcc := hide (HOWN.out W)
        go_simp
        exact hcc
      try simp only [Act.put, List.setIfInBounds_toArray, List.set_cons_zero, List.set_cons_succ, List.getElem_toArray, List.getElem_cons_zero, List.getElem_cons_succ]
      refine Lex.want (v := ?_) (by rfl) (fun W hW => ?hd17) ?_
      case hd17 =>
        have hh := HF.out W hW
        clear hW
        go_split_ands
        go_simp
        first | rfl | exact way_new.refl _ | exact way_grow.refl _ | (refine ⟨?_, way_new.refl _⟩; rfl) | (refine ⟨?_, way_grow.refl _⟩; rfl)
      try simp only [Act.put, List.setIfInBounds_toArray, List.set_cons_zero, List.set_cons_succ, List.getElem_toArray, List.getElem_cons_zero, List.getElem_cons_succ]
      refine Lex.nil (hKT.out _ ?_)
      clear hKT KT
      refine Reg.done (by kernel_rfl) (fun W hW hWT => ⟨by kernel_rfl, ?_⟩)
      simp only [List.drop_succ_cons, List.drop_zero]
      clear hW HF
      have hb3 : Below W2.heap.size W2 W := hWT
      have hmb3 : MapB ekey eunit W b (del L.blk (k1, k2)) := HU2.out.frm (Frm.of_below (S := None) hb3) id
      obtain ⟨upd2, hupd2⟩ := hmb3.update_fn (P := Try.prog) keyT Try.underlying54 (k1, k2) ()
      obtain ⟨hv1, hv2, hv3, hv4⟩ := hupd2 W rfl
      simp only [ekey, eunit] at hv1
      have HP3 := hide (parts_blk (HP2.out.1.below hb3) hv2 ⟨hv3.os, hv3.tape, hv3.output, hv3.size, hv3.block⟩)
      have HB3 := hide hb3
      clear hv2 hv3 hv4 hupd2 hmb3 hWT hb3
      go_wp2_with fail
      go_end0
      exact ⟨rfl, by rw [HEQT.out]; exact HEND.out _ _ HP3.out.1 ((HP2.out.2.trans (Frm.of_below (S := F) HB3.out) (fun j hj => .inl hj)).trans HP3.out.2 (fun j hj => .inl hj))⟩
  | none =>
    have hbk : L.blk = [] := by
      rcases h4 with ⟨_, h⟩ | ⟨b', h, _⟩
      · exact h
      · cases h
    obtain ⟨m1, m2, m3⟩ := parts_made_blk HP1.out
    have hz : (w.alloc (.cells #[.string k1, .string k2] 24)).heap.size = w.heap.size + 1 := by simp
    have hcomm : (((w.alloc (.cells #[.string k1, .string k2] 24)).setCell ⟨g, 2, none⟩ (.map (some (w.alloc (.cells #[.string k1, .string k2] 24)).heap.size))).alloc (.map #[] 0)) = (((w.setCell ⟨g, 2, none⟩ (.map (some (w.heap.size + 1)))).alloc (.cells #[.string k1, .string k2] 24)).alloc (.map #[] 0)) := by
      rw [hz, World.setCell_alloc_past _ _ _ _ hg]
    rw [hcomm] at m1 m2 m3
    rw [hz] at m1 m3
    have hszz : (((w.setCell ⟨g, 2, none⟩ (.map (some (w.heap.size + 1)))).alloc (.cells #[.string k1, .string k2] 24)).alloc (.map #[] 0)).heap.size = w.heap.size + 2 := by simp [World.setCell]
    have c2 : (((w.setCell ⟨g, 2, none⟩ (.map (some (w.heap.size + 1)))).alloc (.cells #[.string k1, .string k2] 24)).alloc (.map #[] 0)).cell? ⟨g, 2, none⟩ = some (.map (some (w.heap.size + 1))) := by
      obtain ⟨q1, _⟩ := m1
      exact (led_cells q1).2.2.1
    have hblk1 : (((w.setCell ⟨g, 2, none⟩ (.map (some (w.heap.size + 1)))).alloc (.cells #[.string k1, .string k2] 24)).alloc (.map #[] 0)).heap[w.heap.size]? = some (.cells #[.string k1, .string k2] 24 (0, 0)) := by
      refine (Below.heap_alloc _ _ _ (by simp [World.setCell])).trans ?_
      have := heap_alloc_new (w.setCell ⟨g, 2, none⟩ (.map (some (w.heap.size + 1)))) (.cells #[.string k1, .string k2] 24)
      simpa [World.setCell] using this
    have ck1 : (((w.setCell ⟨g, 2, none⟩ (.map (some (w.heap.size + 1)))).alloc (.cells #[.string k1, .string k2] 24)).alloc (.map #[] 0)).cell? ⟨w.heap.size, 0, none⟩ = some (.string k1) := by simp only [World.cell?, hblk1]; rfl
    have ck2 : (((w.setCell ⟨g, 2, none⟩ (.map (some (w.heap.size + 1)))).alloc (.cells #[.string k1, .string k2] 24)).alloc (.map #[] 0)).cell? ⟨w.heap.size, 1, none⟩ = some (.string k2) := by simp only [World.cell?, hblk1]; rfl
    have HLP := hide m1
    have HMB := hide m3
    have hfw : Frm F w (((w.setCell ⟨g, 2, none⟩ (.map (some (w.heap.size + 1)))).alloc (.cells #[.string k1, .string k2] 24)).alloc (.map #[] 0)) := (Frm.of_below (S := F) HBEL.out).trans m2 (fun j hj => .inl hj)
    have HEND : Hid (∀ (W' : World) (blk' : List (Key × Unit)), LedParts W' g p Fp im (some (w.heap.size + 1)) (fun j => F j ∨ j = w.heap.size + 1) ⟨L.m, L.iss, blk'⟩ → Frm (fun j => F j ∨ j = w.heap.size + 1) (((w.setCell ⟨g, 2, none⟩ (.map (some (w.heap.size + 1)))).alloc (.cells #[.string k1, .string k2] 24)).alloc (.map #[] 0)) W' → LedPost w g p F ⟨L.m, L.iss, blk'⟩ W') := hide fun W' blk' hq hf =>
      ⟨_, hq.led, hfw.trans hf (fun j hj => hj.imp id (fun e => by omega)), fun j hj => hj.imp id (fun e => by omega)⟩
    have hsb : ¬ w.heap.size = w.heap.size + 1 := by omega
    have hgb : ¬ g = w.heap.size + 1 := by omega
    have HBK := hide hbk
    clear h4 h8 h9 h12 HP1 m1 m2 m3 hblk1 hfw hcomm hbk
    have HEQF : Hid (blockLed L (k1, k2) false = ⟨L.m, L.iss, del (⟨L.m, L.iss, []⟩ : Led).blk (k1, k2)⟩) := hide (by unfold blockLed; rw [HBK.out]; rfl)
    have HEQT : Hid (blockLed L (k1, k2) true = ⟨L.m, L.iss, put (del (⟨L.m, L.iss, []⟩ : Led).blk (k1, k2)) (k1, k2) ()⟩) := hide (by unfold blockLed; rw [HBK.out]; rfl)
    cases on with
    | false =>
      go_enter Try.func31, Try.ntmps31
      go_wp2_with (go_at_call 42; refine (none_no g p _ (by go_simp)).mono ?_; rintro e w' ⟨rfl, rfl⟩)
      have hs1 : w.heap.size < (((w.setCell ⟨g, 2, none⟩ (.map (some (w.heap.size + 1)))).alloc (.cells #[.string k1, .string k2] 24)).alloc (.map #[] 0)).heap.size := by omega
      have hg1 : g < (((w.setCell ⟨g, 2, none⟩ (.map (some (w.heap.size + 1)))).alloc (.cells #[.string k1, .string k2] 24)).alloc (.map #[] 0)).heap.size := by omega
      clear hz hszz
      generalize ((w.setCell ⟨g, 2, none⟩ (.map (some (w.heap.size + 1)))).alloc (.cells #[.string k1, .string k2] 24)).alloc (.map #[] 0) = W1 at *
      have HF : Hid (∀ W, W1.drew = W → W.cell? ⟨g, 2, none⟩ = some (.map (some (w.heap.size + 1))) ∧ W.cell? ⟨w.heap.size, 0, none⟩ = some (.string k1) ∧ W.cell? ⟨w.heap.size, 1, none⟩ = some (.string k2)) := hide fun W hW => hW ▸ ⟨c2, ck1, ck2⟩
      refine region_by (fun a b => a = b) way_eq 5 5 (fun W => W1.drew = W) (by kernel_rfl) (by kernel_rfl) (fun _ _ d _ _ h => by cases d <;> exact h) (fun x y h hx => h ▸ hx) rfl (fun KT hKT => ?_)
      simp only [List.take_succ_cons, List.take_zero]
      refine Lex.want (v := ?_) (by rfl) (fun W hW => ?hd18) ?_
      case hd18 =>
        have hh := HF.out W hW
        clear hW
        go_split_ands
        go_simp
        first | rfl | exact way_new.refl _ | exact way_grow.refl _ | (refine ⟨?_, way_new.refl _⟩; rfl) | (refine ⟨?_, way_grow.refl _⟩; rfl)
      try simp only [Act.put, List.setIfInBounds_toArray, List.set_cons_zero, List.set_cons_succ, List.getElem_toArray, List.getElem_cons_zero, List.getElem_cons_succ]
      refine Lex.want (v := ?_) (by rfl) (fun W hW => ?hd19) ?_
      case hd19 =>
        have hh := HF.out W hW
        clear hW
        go_split_ands
        go_simp
        first | rfl | exact way_new.refl _ | exact way_grow.refl _ | (refine ⟨?_, way_new.refl _⟩; rfl) | (refine ⟨?_, way_grow.refl _⟩; rfl)
      try simp only [Act.put, List.setIfInBounds_toArray, List.set_cons_zero, List.set_cons_succ, List.getElem_toArray, List.getElem_cons_zero, List.getElem_cons_succ]
      refine Lex.want (v := ?_) (by rfl) (fun W hW => ?hd20) ?_
      case hd20 =>
        have hh := HF.out W hW
        clear hW
        go_split_ands
        go_simp
        first | rfl | exact way_new.refl _ | exact way_grow.refl _ | (refine ⟨?_, way_new.refl _⟩; rfl) | (refine ⟨?_, way_grow.refl _⟩; rfl)
      try simp only [Act.put, List.setIfInBounds_toArray, List.set_cons_zero, List.set_cons_succ, List.getElem_toArray, List.getElem_cons_zero, List.getElem_cons_succ]
      refine Lex.want (v := ?_) (by rfl) (fun W hW => ?hd21) ?_
      case hd21 =>
        have hh := HF.out W hW
        clear hW
        go_split_ands
        go_simp
        first | rfl | exact way_new.refl _ | exact way_grow.refl _ | (refine ⟨?_, way_new.refl _⟩; rfl) | (refine ⟨?_, way_grow.refl _⟩; rfl)
      try simp only [Act.put, List.setIfInBounds_toArray, List.set_cons_zero, List.set_cons_succ, List.getElem_toArray, List.getElem_cons_zero, List.getElem_cons_succ]
      refine Lex.want (v := ?_) (by rfl) (fun W hW => ?hd22) ?_
      case hd22 =>
        have hh := HF.out W hW
        clear hW
        go_split_ands
        go_simp
        first | rfl | exact way_new.refl _ | exact way_grow.refl _ | (refine ⟨?_, way_new.refl _⟩; rfl) | (refine ⟨?_, way_grow.refl _⟩; rfl)
      try simp only [Act.put, List.setIfInBounds_toArray, List.set_cons_zero, List.set_cons_succ, List.getElem_toArray, List.getElem_cons_zero, List.getElem_cons_succ]
      refine Lex.nil (hKT.out _ ?_)
      clear hKT KT
      refine Reg.done (by kernel_rfl) (fun W hW hWT => ⟨by kernel_rfl, ?_⟩)
      simp only [List.drop_succ_cons, List.drop_zero]
      subst hW
      clear hWT HF
      obtain ⟨upd, hupd⟩ := HMB.out.delete_fn (P := Try.prog) keyT Try.underlying54 (k1, k2) 0 24
      obtain ⟨hu1, hu2, hu3, hu4⟩ := hupd W1.drew rfl
      simp only [ekey] at hu1
      have HP2 := hide (parts_blk HLP.out hu2 ⟨hu3.os, hu3.tape, hu3.output, hu3.size, hu3.block⟩)
      have HU2 := hide hu2
      have hs2 : w.heap.size < (upd W1.drew).heap.size := by rw [hu4]; exact hs1
      have d1 : (upd W1.drew).cell? ⟨w.heap.size, 0, none⟩ = some (.string k1) := (World.cell?_of_block (a := ⟨w.heap.size, 0, none⟩) (hu3.block w.heap.size hs1 hsb)).trans ck1
      have d2 : (upd W1.drew).cell? ⟨w.heap.size, 1, none⟩ = some (.string k2) := (World.cell?_of_block (a := ⟨w.heap.size, 1, none⟩) (hu3.block w.heap.size hs1 hsb)).trans ck2
      have d3 : (upd W1.drew).cell? ⟨g, 2, none⟩ = some (.map (some (w.heap.size + 1))) := (World.cell?_of_block (a := ⟨g, 2, none⟩) (hu3.block g hg1 hgb)).trans c2
      have hg2 : g < (upd W1.drew).heap.size := by rw [hu4]; exact hg1
      clear hu2 hu3 hu4 hupd
      go_wp2_with fail
      go_end0
      exact ⟨rfl, by rw [HEQF.out]; exact HEND.out _ _ HP2.out.1 HP2.out.2⟩
    | true =>
      go_enter Try.func31, Try.ntmps31
      go_wp2_with (go_at_call 42; refine (none_no g p _ (by go_simp)).mono ?_; rintro e w' ⟨rfl, rfl⟩)
      have hs1 : w.heap.size < (((w.setCell ⟨g, 2, none⟩ (.map (some (w.heap.size + 1)))).alloc (.cells #[.string k1, .string k2] 24)).alloc (.map #[] 0)).heap.size := by omega
      have hg1 : g < (((w.setCell ⟨g, 2, none⟩ (.map (some (w.heap.size + 1)))).alloc (.cells #[.string k1, .string k2] 24)).alloc (.map #[] 0)).heap.size := by omega
      clear hz hszz
      generalize ((w.setCell ⟨g, 2, none⟩ (.map (some (w.heap.size + 1)))).alloc (.cells #[.string k1, .string k2] 24)).alloc (.map #[] 0) = W1 at *
      have HF : Hid (∀ W, W1.drew = W → W.cell? ⟨g, 2, none⟩ = some (.map (some (w.heap.size + 1))) ∧ W.cell? ⟨w.heap.size, 0, none⟩ = some (.string k1) ∧ W.cell? ⟨w.heap.size, 1, none⟩ = some (.string k2)) := hide fun W hW => hW ▸ ⟨c2, ck1, ck2⟩
      refine region_by (fun a b => a = b) way_eq 5 5 (fun W => W1.drew = W) (by kernel_rfl) (by kernel_rfl) (fun _ _ d _ _ h => by cases d <;> exact h) (fun x y h hx => h ▸ hx) rfl (fun KT hKT => ?_)
      simp only [List.take_succ_cons, List.take_zero]
      refine Lex.want (v := ?_) (by rfl) (fun W hW => ?hd23) ?_
      case hd23 =>
        have hh := HF.out W hW
        clear hW
        go_split_ands
        go_simp
        first | rfl | exact way_new.refl _ | exact way_grow.refl _ | (refine ⟨?_, way_new.refl _⟩; rfl) | (refine ⟨?_, way_grow.refl _⟩; rfl)
      try simp only [Act.put, List.setIfInBounds_toArray, List.set_cons_zero, List.set_cons_succ, List.getElem_toArray, List.getElem_cons_zero, List.getElem_cons_succ]
      refine Lex.want (v := ?_) (by rfl) (fun W hW => ?hd24) ?_
      case hd24 =>
        have hh := HF.out W hW
        clear hW
        go_split_ands
        go_simp
        first | rfl | exact way_new.refl _ | exact way_grow.refl _ | (refine ⟨?_, way_new.refl _⟩; rfl) | (refine ⟨?_, way_grow.refl _⟩; rfl)
      try simp only [Act.put, List.setIfInBounds_toArray, List.set_cons_zero, List.set_cons_succ, List.getElem_toArray, List.getElem_cons_zero, List.getElem_cons_succ]
      refine Lex.want (v := ?_) (by rfl) (fun W hW => ?hd25) ?_
      case hd25 =>
        have hh := HF.out W hW
        clear hW
        go_split_ands
        go_simp
        first | rfl | exact way_new.refl _ | exact way_grow.refl _ | (refine ⟨?_, way_new.refl _⟩; rfl) | (refine ⟨?_, way_grow.refl _⟩; rfl)
      try simp only [Act.put, List.setIfInBounds_toArray, List.set_cons_zero, List.set_cons_succ, List.getElem_toArray, List.getElem_cons_zero, List.getElem_cons_succ]
      refine Lex.want (v := ?_) (by rfl) (fun W hW => ?hd26) ?_
      case hd26 =>
        have hh := HF.out W hW
        clear hW
        go_split_ands
        go_simp
        first | rfl | exact way_new.refl _ | exact way_grow.refl _ | (refine ⟨?_, way_new.refl _⟩; rfl) | (refine ⟨?_, way_grow.refl _⟩; rfl)
      try simp only [Act.put, List.setIfInBounds_toArray, List.set_cons_zero, List.set_cons_succ, List.getElem_toArray, List.getElem_cons_zero, List.getElem_cons_succ]
      refine Lex.want (v := ?_) (by rfl) (fun W hW => ?hd27) ?_
      case hd27 =>
        have hh := HF.out W hW
        clear hW
        go_split_ands
        go_simp
        first | rfl | exact way_new.refl _ | exact way_grow.refl _ | (refine ⟨?_, way_new.refl _⟩; rfl) | (refine ⟨?_, way_grow.refl _⟩; rfl)
      try simp only [Act.put, List.setIfInBounds_toArray, List.set_cons_zero, List.set_cons_succ, List.getElem_toArray, List.getElem_cons_zero, List.getElem_cons_succ]
      refine Lex.nil (hKT.out _ ?_)
      clear hKT KT
      refine Reg.done (by kernel_rfl) (fun W hW hWT => ⟨by kernel_rfl, ?_⟩)
      simp only [List.drop_succ_cons, List.drop_zero]
      subst hW
      clear hWT HF
      obtain ⟨upd, hupd⟩ := HMB.out.delete_fn (P := Try.prog) keyT Try.underlying54 (k1, k2) 0 24
      obtain ⟨hu1, hu2, hu3, hu4⟩ := hupd W1.drew rfl
      simp only [ekey] at hu1
      have HP2 := hide (parts_blk HLP.out hu2 ⟨hu3.os, hu3.tape, hu3.output, hu3.size, hu3.block⟩)
      have HU2 := hide hu2
      have hs2 : w.heap.size < (upd W1.drew).heap.size := by rw [hu4]; exact hs1
      have d1 : (upd W1.drew).cell? ⟨w.heap.size, 0, none⟩ = some (.string k1) := (World.cell?_of_block (a := ⟨w.heap.size, 0, none⟩) (hu3.block w.heap.size hs1 hsb)).trans ck1
      have d2 : (upd W1.drew).cell? ⟨w.heap.size, 1, none⟩ = some (.string k2) := (World.cell?_of_block (a := ⟨w.heap.size, 1, none⟩) (hu3.block w.heap.size hs1 hsb)).trans ck2
      have d3 : (upd W1.drew).cell? ⟨g, 2, none⟩ = some (.map (some (w.heap.size + 1))) := (World.cell?_of_block (a := ⟨g, 2, none⟩) (hu3.block g hg1 hgb)).trans c2
      have hg2 : g < (upd W1.drew).heap.size := by rw [hu4]; exact hg1
      clear hu2 hu3 hu4 hupd
      go_wp2_with fail
      generalize upd W1.drew = W2 at *
      have HF : Hid (∀ W, New W2 W → W.cell? ⟨g, 2, none⟩ = some (.map (some (w.heap.size + 1))) ∧ W.cell? ⟨w.heap.size, 0, none⟩ = some (.string k1) ∧ W.cell? ⟨w.heap.size, 1, none⟩ = some (.string k2)) := hide fun W hW => ⟨(Below.cell hW (p := ⟨g, 2, none⟩) hg2).trans d3, (Below.cell hW (p := ⟨w.heap.size, 0, none⟩) hs2).trans d1, (Below.cell hW (p := ⟨w.heap.size, 1, none⟩) hs2).trans d2⟩
      refine region_by New way_new 7 7 (fun W => New W2 W) (by kernel_rfl) (by kernel_rfl) (fun _ _ d _ _ h => by cases d <;> exact h) (fun x y h hx => way_new.trans hx h) (Below.refl _ _).drew (fun KT hKT => ?_)
      simp only [List.take_succ_cons, List.take_zero]
      refine Lex.want (v := ?_) (by rfl) (fun W hW => ?hd28) ?_
      case hd28 =>
        have hh := HF.out W hW
        clear hW
        go_split_ands
        go_simp
        first | rfl | exact way_new.refl _ | exact way_grow.refl _ | (refine ⟨?_, way_new.refl _⟩; rfl) | (refine ⟨?_, way_grow.refl _⟩; rfl)
      try simp only [Act.put, List.setIfInBounds_toArray, List.set_cons_zero, List.set_cons_succ, List.getElem_toArray, List.getElem_cons_zero, List.getElem_cons_succ]
      refine Lex.want (v := ?_) (by rfl) (fun W hW => ?hd29) ?_
      case hd29 =>
        have hh := HF.out W hW
        clear hW
        go_split_ands
        go_simp
        first | rfl | exact way_new.refl _ | exact way_grow.refl _ | (refine ⟨?_, way_new.refl _⟩; rfl) | (refine ⟨?_, way_grow.refl _⟩; rfl)
      try simp only [Act.put, List.setIfInBounds_toArray, List.set_cons_zero, List.set_cons_succ, List.getElem_toArray, List.getElem_cons_zero, List.getElem_cons_succ]
      refine Lex.want (v := ?_) (by rfl) (fun W hW => ?hd30) ?_
      case hd30 =>
        have hh := HF.out W hW
        clear hW
        go_split_ands
        go_simp
        first | rfl | exact way_new.refl _ | exact way_grow.refl _ | (refine ⟨?_, way_new.refl _⟩; rfl) | (refine ⟨?_, way_grow.refl _⟩; rfl)
      try simp only [Act.put, List.setIfInBounds_toArray, List.set_cons_zero, List.set_cons_succ, List.getElem_toArray, List.getElem_cons_zero, List.getElem_cons_succ]
      refine Lex.want (v := ?_) (by rfl) (fun W hW => ?hd31) ?_
      case hd31 =>
        have hh := HF.out W hW
        clear hW
        go_split_ands
        go_simp
        first | rfl | exact way_new.refl _ | exact way_grow.refl _ | (refine ⟨?_, way_new.refl _⟩; rfl) | (refine ⟨?_, way_grow.refl _⟩; rfl)
      try simp only [Act.put, List.setIfInBounds_toArray, List.set_cons_zero, List.set_cons_succ, List.getElem_toArray, List.getElem_cons_zero, List.getElem_cons_succ]
      refine Lex.want (v := ?_) (by rfl) (fun W hW => ?hd32) ?_
      case hd32 =>
        have hh := HF.out W hW
        clear hW
        go_split_ands
        go_simp
        first | rfl | exact way_new.refl _ | exact way_grow.refl _ | (refine ⟨?_, way_new.refl _⟩; rfl) | (refine ⟨?_, way_grow.refl _⟩; rfl)
      try simp only [Act.put, List.setIfInBounds_toArray, List.set_cons_zero, List.set_cons_succ, List.getElem_toArray, List.getElem_cons_zero, List.getElem_cons_succ]
      refine Lex.want (v := ?_) (by rfl) (fun W hW => ?hd33) ?_
      case hd33 =>
        have hcc := hide (HOWN.out W)
        go_simp
        exact hcc
      try simp only [Act.put, List.setIfInBounds_toArray, List.set_cons_zero, List.set_cons_succ, List.getElem_toArray, List.getElem_cons_zero, List.getElem_cons_succ]
      refine Lex.want (v := ?_) (by rfl) (fun W hW => ?hd34) ?_
      case hd34 =>
        have hh := HF.out W hW
        clear hW
        go_split_ands
        go_simp
        first | rfl | exact way_new.refl _ | exact way_grow.refl _ | (refine ⟨?_, way_new.refl _⟩; rfl) | (refine ⟨?_, way_grow.refl _⟩; rfl)
      try simp only [Act.put, List.setIfInBounds_toArray, List.set_cons_zero, List.set_cons_succ, List.getElem_toArray, List.getElem_cons_zero, List.getElem_cons_succ]
      refine Lex.nil (hKT.out _ ?_)
      clear hKT KT
      refine Reg.done (by kernel_rfl) (fun W hW hWT => ⟨by kernel_rfl, ?_⟩)
      simp only [List.drop_succ_cons, List.drop_zero]
      clear hW HF
      have hb3 : Below W2.heap.size W2 W := hWT
      have hmb3 : MapB ekey eunit W (w.heap.size + 1) (del (⟨L.m, L.iss, []⟩ : Led).blk (k1, k2)) := HU2.out.frm (Frm.of_below (S := None) hb3) id
      obtain ⟨upd2, hupd2⟩ := hmb3.update_fn (P := Try.prog) keyT Try.underlying54 (k1, k2) ()
      obtain ⟨hv1, hv2, hv3, hv4⟩ := hupd2 W rfl
      simp only [ekey, eunit] at hv1
      have HP3 := hide (parts_blk (HP2.out.1.below hb3) hv2 ⟨hv3.os, hv3.tape, hv3.output, hv3.size, hv3.block⟩)
      have HB3 := hide hb3
      clear hv2 hv3 hv4 hupd2 hmb3 hWT hb3
      go_wp2_with fail
      go_end0
      exact ⟨rfl, by rw [HEQT.out]; exact HEND.out _ _ HP3.out.1 ((HP2.out.2.trans (Frm.of_below (S := (fun j => F j ∨ j = w.heap.size + 1)) HB3.out) (fun j hj => .inl hj)).trans HP3.out.2 (fun j hj => .inl hj))⟩
end Go.Proofs.Ytmhmjbggjbeikaa
