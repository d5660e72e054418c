/- Chapter 11: Try, Apply. -/
import Derived.Test.YtmhmjbggjbeikaaLook
namespace Go.Proofs.Ytmhmjbggjbeikaa
set_option linter.unusedSimpArgs false
set_option linter.unusedVariables false
open Go.RowKit
attribute [local go_sem] objAt_alloc objAt_alloc_at objAt_drew objAt_drewN objAt_setCell comesTo_value comesTo_enter

set_option maxHeartbeats 1000000 in
/-- (*Ledger).Try. -/
theorem try_calls (g p : Nat) (F : Nat → Prop) (L : Led) (a : Option Addr) (n c : Nat) (l : List PPost) (w : World) (hn : l.length = n) (hm : n ≤ 1099511627776) (h : LedAt w g p F L) (hp : PostsAt w a l) :
    Calls Try.prog 27 #[.pointer (some ⟨g, 0, none⟩), .slice a n c] w fun e w' => e = .returned (.int .i64 (lookErr L l)) ∧ Below w.heap.size w w' := by
  have HLK := hide (look_calls g p F L a n c l w hn hm h hp)
  clear h hp hn
  go_enter Try.func27, Try.ntmps27
  go_wp2_with (go_at_call 45; refine HLK.out.mono ?_; rintro e w1 ⟨v, rfl, _, _, hb1⟩)
  go_ret
  exact ⟨rfl, hb1⟩

/-- Add, through a ledger. -/
theorem led_add (g p : Nat) (F : Nat → Prop) (L : Led) (k : Key) (sub by_ : Int) (w : World) (h : LedAt w g p F L) :
    Calls Try.prog 16 #[.pointer (some ⟨p, 0, none⟩), ekey k, .int .i64 sub, .int .i64 by_] w fun e w' => e = .returned (.int .i64 (addErr L.m k sub by_)) ∧ LedPost w g p F ⟨addMap L.m k sub by_, L.iss, L.blk⟩ w' := by
  obtain ⟨Fp, im, bm, hparts⟩ := h
  have hp0 : LedParts w g p Fp im bm F L := hparts
  refine (add_calls p Fp L.m k sub by_ w hparts.2.1).mono fun e w' ⟨h1, F', h2, h3, h4⟩ => ⟨h1, ?_⟩
  obtain ⟨q1, q2, q3⟩ := parts_pos hp0 (Below.refl _ _) h3 h2 h4
  exact ⟨_, q1.led, q2, q3⟩

def addNet (m : List (Key × Three)) (x : PNet) : List (Key × Three) := addMap m x.k x.sub x.by_
def applyLed (L : Led) (l : List PPost) : Led := if lookErr L l ≠ 0 then L else ⟨(netsB l).foldl addNet L.m, L.iss, L.blk⟩
def shortPosts (l : List PPost) : Prop := ∀ p ∈ l, shortText p.k.1 ∧ shortText p.k.2
theorem nets_short {l : List PPost} (h : shortPosts l) {x : PNet} (hx : x ∈ netsB l) : shortText x.k.1 ∧ shortText x.k.2 := by
  obtain ⟨q, hq, rfl⟩ := List.mem_map.1 hx
  have h1 : q ∈ (byPart l).map (·.1) := (sortP_perm _).mem_iff.1 hq
  obtain ⟨⟨q', xs⟩, h2, rfl⟩ := List.mem_map.1 h1
  obtain ⟨_, p, hp, he⟩ := groups_mem _ _ h2
  have := h p hp
  rw [← he]
  exact this

/-- What the rounds of Apply keep. -/
def AppRel (w1 : World) (g p : Nat) (F : Nat → Prop) (L : Led) (l : List PPost) (k : Nat) (wr : World) : Prop :=
  ∃ F', LedAt wr g p F' ⟨((netsB l).take k).foldl addNet L.m, L.iss, L.blk⟩ ∧ Frm F w1 wr ∧ ∀ j, F' j → F j ∨ w1.heap.size ≤ j

set_option maxHeartbeats 4000000 in
set_option maxRecDepth 100000 in
/-- (*Ledger).Apply. -/
theorem apply_calls (g p : Nat) (F : Nat → Prop) (L : Led) (a : Option Addr) (n c : Nat) (l : List PPost) (w : World) (hn : l.length = n) (hm : n ≤ 1099511627776) (h : LedAt w g p F L) (hp : PostsAt w a l) (hs : shortPosts l) :
    Calls Try.prog 29 #[.pointer (some ⟨g, 0, none⟩), .slice a n c] w fun e w' => e = .returned (.int .i64 (lookErr L l)) ∧ LedPost w g p F (applyLed L l) w' := by
  have HLK := hide (look_calls g p F L a n c l w hn hm h hp)
  have hFl : ∀ j, F j → j < w.heap.size := by
    obtain ⟨Fp, im, bm, h1, h2, h3, h4, h5, h6, h7, h8, h9, h10⟩ := h
    exact h9
  have HL := hide h
  have HS := hide hs
  have hml : (netsB l).length ≤ n := by rw [← hn]; exact netsB_length l
  clear h hp hn hs
  by_cases hz : lookErr L l = 0
  · have HA : Hid (applyLed L l = ⟨((netsB l).take (netsB l).length).foldl addNet L.m, L.iss, L.blk⟩) := hide (by unfold applyLed; rw [if_neg (not_not_intro hz), List.take_length])
    have hlk : Calls Try.prog 45 #[.pointer (some ⟨g, 0, none⟩), .slice a n c] w fun e w' => ∃ A cp, e = .returned (.tuple #[.slice A (netsB l).length cp, .int .i64 0]) ∧ NetsIn A (netsB l) w.heap.size w' ∧ Below w.heap.size w w' :=
      HLK.out.mono fun e w' ⟨v, h1, h2, h3, h4⟩ => by
        obtain ⟨A, cp, rfl, h5⟩ := h2 hz
        exact ⟨A, cp, by rw [h1, hz], h5, h4⟩
    have HLK2 := hide hlk
    clear hlk HLK
    rw [hz]
    clear hz
    generalize hnn : (netsB l).length = m at *
    have HM := hide hnn
    clear hnn
    go_enter Try.func29, Try.ntmps29
    go_wp2_with (go_at_call 45; refine HLK2.out.mono ?_; rintro e w1 ⟨A, cap, rfl, hin, hb1⟩; have HIN := hide hin; have HB1 := hide hb1; clear hin hb1)
    go_loopw [17] (fun i wr => ∃ k : Nat, k ≤ m ∧ i = .int .i64 k ∧ AppRel w1 g p F L l k wr) (fun i _ => m - (intOf i).toNat)
    case atStart => exact ⟨0, by omega, rfl, F, HL.out.below HB1.out, Frm.refl _ _, fun j hj => .inl hj⟩
    case round =>
      obtain ⟨k, hk, rfl, F', hled, hfr, hF'⟩ := hrel
      by_cases hlt : k < m
      · obtain ⟨x, hx⟩ : ∃ x, (netsB l)[k]? = some x := ⟨(netsB l)[k]'(by have := HM.out; omega), List.getElem?_eq_getElem (by have := HM.out; omega)⟩
        have hin2 := HIN.out.keep (W := wr) fun gb hgb hlt' => by
          have : ¬ F gb := fun e => by
            obtain ⟨g2, h1, h2, _⟩ := HIN.out k x hx
            rw [hgb] at h1
            have e2 : gb = g2 := by simpa using h1
            have := hFl gb e
            omega
          exact ⟨hfr.block gb hlt' this, Nat.lt_of_lt_of_le hlt' hfr.size⟩
        obtain ⟨gb, hA, _, hgb, d1, d2, d3, d4, d5⟩ := hin2 k x hx
        have hsh := nets_short HS.out (List.mem_of_getElem? hx)
        have hgp : g < wr.heap.size ∧ wr.cell? ⟨g, 0, none⟩ = some (.pointer (some ⟨p, 0, none⟩)) := by
          obtain ⟨Fp, im, bm, h1, h2, h3, h4, h5, h6, h7, h8, h9, h10⟩ := hled
          exact ⟨h9 g h5, (led_cells h1).1⟩
        have HOWN := hide (fun W => own_calls x.k.1 x.k.2 W hsh.1 hsh.2)
        have HADD : Hid (∀ W, Below wr.heap.size wr W → Calls Try.prog 16 #[.pointer (some ⟨p, 0, none⟩), ekey x.k, .int .i64 x.sub, .int .i64 x.by_] W fun e w' => (∃ r, e = .returned (.int .i64 r)) ∧ AppRel w1 g p F L l (k + 1) w') := hide fun W hW =>
          (led_add g p F' _ x.k x.sub x.by_ W (hled.below hW)).mono fun e w' ⟨h1, F2, h2, h3, h4⟩ => ⟨⟨_, h1⟩, F2, by
            obtain ⟨hkl, hke⟩ := List.getElem?_eq_some_iff.1 hx
            rw [List.take_succ_eq_append_getElem hkl, List.foldl_append, hke]
            exact h2, (hfr.trans (Frm.of_below (S := F) hW) (fun j hj => .inl hj)).trans h3 (fun j hj => hF' j hj), fun j hj => by
            rcases h4 j hj with e | e
            · exact hF' j e
            · exact .inr (Nat.le_trans hfr.size (Nat.le_trans hW.size e))⟩
        have hsz := hgp.1
        have hg0 := hgp.2
        clear hx hin2 hsh hgp hled hfr hF'
        obtain ⟨⟨x1, x2⟩, x3, x4, x5⟩ := x
        subst hA
        simp only [ekey] at *
        go_wp2_with fail
        have hb0 : Below wr.heap.size wr (wr.alloc (.cells #[.string x1, .string x2, .int .i64 x3, .int .i64 x4, .bool x5] 94)) := (Below.refl _ _).alloc (Nat.le_refl _) _
        have hc0 : (wr.alloc (.cells #[.string x1, .string x2, .int .i64 x3, .int .i64 x4, .bool x5] 94)).heap[wr.heap.size]? = some (.cells #[.string x1, .string x2, .int .i64 x3, .int .i64 x4, .bool x5] 94 (0, 0)) := heap_alloc_new wr _
        have hs0 : (wr.alloc (.cells #[.string x1, .string x2, .int .i64 x3, .int .i64 x4, .bool x5] 94)).heap.size = wr.heap.size + 1 := by simp
        generalize wr.alloc (.cells #[.string x1, .string x2, .int .i64 x3, .int .i64 x4, .bool x5] 94) = w0 at *
        have HF : Hid (∀ W, New w0 W → W.cell? ⟨g, 0, none⟩ = some (.pointer (some ⟨p, 0, none⟩)) ∧ W.cell? ⟨wr.heap.size, 0, none⟩ = some (.string x1) ∧ W.cell? ⟨wr.heap.size, 1, none⟩ = some (.string x2) ∧ W.cell? ⟨wr.heap.size, 2, none⟩ = some (.int .i64 x3) ∧ W.cell? ⟨wr.heap.size, 3, none⟩ = some (.int .i64 x4)) := hide fun W hW => by
          unfold New at hW
          have e0 := (hW.block wr.heap.size (by omega)).trans hc0
          exact ⟨(hW.cell (p := ⟨g, 0, none⟩) (by simp; omega)).trans ((hb0.cell (p := ⟨g, 0, none⟩) hsz).trans hg0), by simp [World.cell?, e0], by simp [World.cell?, e0], by simp [World.cell?, e0], by simp [World.cell?, e0]⟩
        have HB0 := hide hb0
        clear hb0 hc0 d1 d2 d3 d4 d5
        refine region_by New way_new 13 13 (fun W => New w0 W) (by kernel_rfl) (by kernel_rfl) (fun _ _ d _ _ h => by cases d <;> exact h) (fun x y h hx => way_new.trans hx h) (Below.refl _ _).drew (fun KT hKT => ?_)
        simp only [List.take_succ_cons, List.take_zero]
        refine Lex.want (v := ?_) (by rfl) (fun W hW => ?hd1) ?_
        case hd1 =>
          have hh := HF.out W hW
          clear hW
          go_split_ands
          go_simp
          first | rfl | exact way_new.refl _ | exact way_grow.refl _ | (refine ⟨?_, way_new.refl _⟩; rfl) | (refine ⟨?_, way_grow.refl _⟩; rfl)
        try simp only [Act.put, List.setIfInBounds_toArray, List.set_cons_zero, List.set_cons_succ, List.getElem_toArray, List.getElem_cons_zero, List.getElem_cons_succ]
        refine Lex.want (v := ?_) (by rfl) (fun W hW => ?hd2) ?_
        case hd2 =>
          have hh := HF.out W hW
          clear hW
          go_split_ands
          go_simp
          first | rfl | exact way_new.refl _ | exact way_grow.refl _ | (refine ⟨?_, way_new.refl _⟩; rfl) | (refine ⟨?_, way_grow.refl _⟩; rfl)
        try simp only [Act.put, List.setIfInBounds_toArray, List.set_cons_zero, List.set_cons_succ, List.getElem_toArray, List.getElem_cons_zero, List.getElem_cons_succ]
        refine Lex.want (v := ?_) (by rfl) (fun W hW => ?hd3) ?_
        case hd3 =>
          have hh := HF.out W hW
          clear hW
          go_split_ands
          go_simp
          first | rfl | exact way_new.refl _ | exact way_grow.refl _ | (refine ⟨?_, way_new.refl _⟩; rfl) | (refine ⟨?_, way_grow.refl _⟩; rfl)
        try simp only [Act.put, List.setIfInBounds_toArray, List.set_cons_zero, List.set_cons_succ, List.getElem_toArray, List.getElem_cons_zero, List.getElem_cons_succ]
        refine Lex.want (v := ?_) (by rfl) (fun W hW => ?hd4) ?_
        case hd4 =>
          have hh := HF.out W hW
          clear hW
          go_split_ands
          go_simp
          first | rfl | exact way_new.refl _ | exact way_grow.refl _ | (refine ⟨?_, way_new.refl _⟩; rfl) | (refine ⟨?_, way_grow.refl _⟩; rfl)
        try simp only [Act.put, List.setIfInBounds_toArray, List.set_cons_zero, List.set_cons_succ, List.getElem_toArray, List.getElem_cons_zero, List.getElem_cons_succ]
        refine Lex.want (v := ?_) (by rfl) (fun W hW => ?hd5) ?_
        case hd5 =>
          have hh := HF.out W hW
          clear hW
          go_split_ands
          go_simp
          first | rfl | exact way_new.refl _ | exact way_grow.refl _ | (refine ⟨?_, way_new.refl _⟩; rfl) | (refine ⟨?_, way_grow.refl _⟩; rfl)
        try simp only [Act.put, List.setIfInBounds_toArray, List.set_cons_zero, List.set_cons_succ, List.getElem_toArray, List.getElem_cons_zero, List.getElem_cons_succ]
        refine Lex.want (v := ?_) (by rfl) (fun W hW => ?hd6) ?_
        case hd6 =>
          have hh := HF.out W hW
          clear hW
          go_split_ands
          go_simp
          first | rfl | exact way_new.refl _ | exact way_grow.refl _ | (refine ⟨?_, way_new.refl _⟩; rfl) | (refine ⟨?_, way_grow.refl _⟩; rfl)
        try simp only [Act.put, List.setIfInBounds_toArray, List.set_cons_zero, List.set_cons_succ, List.getElem_toArray, List.getElem_cons_zero, List.getElem_cons_succ]
        refine Lex.want (v := ?_) (by rfl) (fun W hW => ?hd7) ?_
        case hd7 =>
          have hh := HF.out W hW
          clear hW
          go_split_ands
          go_simp
          first | rfl | exact way_new.refl _ | exact way_grow.refl _ | (refine ⟨?_, way_new.refl _⟩; rfl) | (refine ⟨?_, way_grow.refl _⟩; rfl)
        try simp only [Act.put, List.setIfInBounds_toArray, List.set_cons_zero, List.set_cons_succ, List.getElem_toArray, List.getElem_cons_zero, List.getElem_cons_succ]
        refine Lex.want (v := ?_) (by rfl) (fun W hW => ?hd8) ?_
        case hd8 =>
          have hcc := hide (HOWN.out W)
          go_simp
          exact hcc
        try simp only [Act.put, List.setIfInBounds_toArray, List.set_cons_zero, List.set_cons_succ, List.getElem_toArray, List.getElem_cons_zero, List.getElem_cons_succ]
        refine Lex.want (v := ?_) (by rfl) (fun W hW => ?hd9) ?_
        case hd9 =>
          have hh := HF.out W hW
          clear hW
          go_split_ands
          go_simp
          first | rfl | exact way_new.refl _ | exact way_grow.refl _ | (refine ⟨?_, way_new.refl _⟩; rfl) | (refine ⟨?_, way_grow.refl _⟩; rfl)
        try simp only [Act.put, List.setIfInBounds_toArray, List.set_cons_zero, List.set_cons_succ, List.getElem_toArray, List.getElem_cons_zero, List.getElem_cons_succ]
        refine Lex.want (v := ?_) (by rfl) (fun W hW => ?hd10) ?_
        case hd10 =>
          have hh := HF.out W hW
          clear hW
          go_split_ands
          go_simp
          first | rfl | exact way_new.refl _ | exact way_grow.refl _ | (refine ⟨?_, way_new.refl _⟩; rfl) | (refine ⟨?_, way_grow.refl _⟩; rfl)
        try simp only [Act.put, List.setIfInBounds_toArray, List.set_cons_zero, List.set_cons_succ, List.getElem_toArray, List.getElem_cons_zero, List.getElem_cons_succ]
        refine Lex.want (v := ?_) (by rfl) (fun W hW => ?hd11) ?_
        case hd11 =>
          have hh := HF.out W hW
          clear hW
          go_split_ands
          go_simp
          first | rfl | exact way_new.refl _ | exact way_grow.refl _ | (refine ⟨?_, way_new.refl _⟩; rfl) | (refine ⟨?_, way_grow.refl _⟩; rfl)
        try simp only [Act.put, List.setIfInBounds_toArray, List.set_cons_zero, List.set_cons_succ, List.getElem_toArray, List.getElem_cons_zero, List.getElem_cons_succ]
        refine Lex.want (v := ?_) (by rfl) (fun W hW => ?hd12) ?_
        case hd12 =>
          have hh := HF.out W hW
          clear hW
          go_split_ands
          go_simp
          first | rfl | exact way_new.refl _ | exact way_grow.refl _ | (refine ⟨?_, way_new.refl _⟩; rfl) | (refine ⟨?_, way_grow.refl _⟩; rfl)
        try simp only [Act.put, List.setIfInBounds_toArray, List.set_cons_zero, List.set_cons_succ, List.getElem_toArray, List.getElem_cons_zero, List.getElem_cons_succ]
        refine Lex.want (v := ?_) (by rfl) (fun W hW => ?hd13) ?_
        case hd13 =>
          have hh := HF.out W hW
          clear hW
          go_split_ands
          go_simp
          first | rfl | exact way_new.refl _ | exact way_grow.refl _ | (refine ⟨?_, way_new.refl _⟩; rfl) | (refine ⟨?_, way_grow.refl _⟩; rfl)
        try simp only [Act.put, List.setIfInBounds_toArray, List.set_cons_zero, List.set_cons_succ, List.getElem_toArray, List.getElem_cons_zero, List.getElem_cons_succ]
        refine Lex.nil (hKT.out _ ?_)
        clear hKT KT
        refine Reg.done (by kernel_rfl) (fun W _ hW => ⟨by kernel_rfl, ?_⟩)
        simp only [List.drop_succ_cons, List.drop_zero]
        have HW : Hid (Below wr.heap.size wr W) := hide (by
          unfold New at hW
          exact HB0.out.trans (hW.mono (by omega)))
        clear hW HF
        go_wp2_with (go_at_call 16; refine (HADD.out _ HW.out).mono ?_; rintro e w9 ⟨⟨r, rfl⟩, hrel9⟩; have HR9 := hide hrel9; clear hrel9)
        exact ⟨⟨k + 1, by omega, by go_num, HR9.out⟩, by simp [intOf]; omega⟩
      · have hkm : k = m := by omega
        subst hkm
        go_wp2_with fail
        go_ret
        refine ⟨rfl, F', ?_, (Frm.of_below (S := F) HB1.out).trans hfr (fun j hj => .inl hj), fun j hj => (hF' j hj).imp id (fun e => Nat.le_trans HB1.out.size e)⟩
        rw [HA.out]
        exact hled
  · have HA : Hid (applyLed L l = L) := hide (by unfold applyLed; rw [if_pos hz])
    have hlk : Calls Try.prog 45 #[.pointer (some ⟨g, 0, none⟩), .slice a n c] w fun e w' => e = .returned (.tuple #[.slice none 0 0, .int .i64 (lookErr L l)]) ∧ Below w.heap.size w w' :=
      HLK.out.mono fun e w' ⟨v, h1, h2, h3, h4⟩ => ⟨by rw [h1, h3 hz], h4⟩
    have HLK2 := hide hlk
    clear hlk HLK hz
    generalize lookErr L l = r at *
    go_enter Try.func29, Try.ntmps29
    go_wp2_with (go_at_call 45; refine HLK2.out.mono ?_; rintro e w1 ⟨rfl, hb1⟩; have HB1 := hide hb1; clear hb1)
    go_loopw [17] (fun i wr => i = .int .i64 0 ∧ w1 = wr) (fun i _ => 0)
    case atStart => exact ⟨rfl, rfl⟩
    case round =>
      obtain ⟨rfl, rfl⟩ := hrel
      go_wp2_with fail
      go_ret
      refine ⟨rfl, ?_⟩
      rw [HA.out]
      exact LedPost.same HL.out HB1.out
end Go.Proofs.Ytmhmjbggjbeikaa
