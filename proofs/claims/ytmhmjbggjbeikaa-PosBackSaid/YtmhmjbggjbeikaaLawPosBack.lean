/- PosBack: what is added and taken off again leaves all as it was. -/
import Derived.Test.YtmhmjbggjbeikaaLaw10
import Derived.Test.YtmhmjbggjbeikaaPlain10
import Derived.Test.YtmhmjbggjbeikaaStill
namespace Go.Proofs.Ytmhmjbggjbeikaa
open Go.RowKit
attribute [local go_sem] objAt_alloc objAt_alloc_at objAt_drew objAt_drewN objAt_setCell

/-- The cells of an Op that was laid in a block of its own. -/
def OpCells (b : Nat) (o : POp) (W : World) : Prop :=
  W.cell? ⟨b, 0, none⟩ = some (.string o.k.1) ∧ W.cell? ⟨b, 1, none⟩ = some (.string o.k.2) ∧ W.cell? ⟨b, 2, none⟩ = some (.int .i64 o.sub) ∧ W.cell? ⟨b, 3, none⟩ = some (.int .i64 o.by_)

theorem OpCells.keep {b : Nat} {o : POp} {w W : World} (h : OpCells b o w) (hb : b < w.heap.size) (hw : Below w.heap.size w W) : OpCells b o W :=
  ⟨(hw.cell (p := ⟨b, 0, none⟩) hb).trans h.1, (hw.cell (p := ⟨b, 1, none⟩) hb).trans h.2.1, (hw.cell (p := ⟨b, 2, none⟩) hb).trans h.2.2.1, (hw.cell (p := ⟨b, 3, none⟩) hb).trans h.2.2.2⟩

set_option maxHeartbeats 4000000 in
set_option maxRecDepth 100000 in
theorem posBack_walk (a : Option Addr) (len cap : Nat) (l : List POp) (o : POp) (w : World) (hl : OpsAt w a len cap l) (ho : o.fits) :
    Calls Try.prog 3 #[.slice a len cap, .agg #[.string o.k.1, .string o.k.2, .int .i64 o.sub, .int .i64 o.by_]] w fun e w' => e = .returned (.bool true) ∧ Below w.heap.size w w' := by
  obtain ⟨hlen, hfit, hmax, hcase⟩ := hl
  obtain ⟨⟨k1, k2⟩, sub, by_⟩ := o
  have hend : Below w.heap.size w (w.alloc (.cells #[.string k1, .string k2, .int .i64 sub, .int .i64 by_] 26)) := (Below.refl _ _).alloc (Nat.le_refl _) _
  have hsz : (w.alloc (.cells #[.string k1, .string k2, .int .i64 sub, .int .i64 by_] 26)).heap.size = w.heap.size + 1 := by simp
  have hoc : OpCells w.heap.size ⟨(k1, k2), sub, by_⟩ (w.alloc (.cells #[.string k1, .string k2, .int .i64 sub, .int .i64 by_] 26)) := ⟨by simp, by simp, by simp, by simp⟩
  have HEND := hide hend
  have HSZ := hide hsz
  have HOC := hide hoc
  have HCASE := hide hcase
  have HFIT := hide hfit
  clear hend hsz hoc hcase hfit ho
  by_cases hbig : len > 60
  · go_enter Try.func3, Try.ntmps3
    go_wp2_with fail
    generalize hw0 : w.alloc (.cells #[.string k1, .string k2, .int .i64 sub, .int .i64 by_] 26) = w0 at *
    clear hw0
    refine (ad_new _).mono ?_
    rintro e w1 ⟨rfl, ha1⟩
    have HA1 := hide ha1; clear ha1
    go_wp2_with fail
    refine (alive_calls _).mono ?_
    rintro e w2 ⟨rfl, hb2⟩
    have HB2 := hide (HA1.out.step hb2).below
    clear hb2
    go_wp2_with fail
    go_ret
    exact ⟨rfl, HEND.out.trans (HB2.out.mono (by rw [HSZ.out]; omega))⟩
  · go_enter Try.func3, Try.ntmps3
    go_wp2_with fail
    generalize hw0 : w.alloc (.cells #[.string k1, .string k2, .int .i64 sub, .int .i64 by_] 26) = w0 at *
    clear hw0
    refine (ad_new _).mono ?_
    rintro e w1 ⟨rfl, ha1⟩
    have HA1 := hide ha1; clear ha1
    go_wp2_with fail
    go_loopw [6] (fun i wr => ∃ k : Nat, k ≤ len ∧ i = .int .i64 k ∧ Hid (Adds w0 w0.heap.size (runOps (l.take k)) wr)) (fun i _ => len - (intOf i).toNat)
    case atStart => exact ⟨0, by omega, rfl, by simpa [runOps] using HA1⟩
    case round =>
      obtain ⟨k, hk, rfl, hrel⟩ := hrel
      by_cases hlt : k < len
      · have hc : ∃ b off : Nat, a = some ⟨b, off, none⟩ ∧ b < w.heap.size ∧ len ≤ cap ∧ cap ≤ maxLen ∧ ∃ (c1 c2 : ByteArray) (s y : Int), l[k]? = some ⟨(c1, c2), s, y⟩ ∧
            w.cell? ⟨b, off + k * 4, none⟩ = some (.string c1) ∧ w.cell? ⟨b, off + k * 4 + 1, none⟩ = some (.string c2) ∧ w.cell? ⟨b, off + k * 4 + 2, none⟩ = some (.int .i64 s) ∧ w.cell? ⟨b, off + k * 4 + 3, none⟩ = some (.int .i64 y) := by
          rcases HCASE.out with h | ⟨b, off, h1, h2, h3, h4, h5⟩
          · subst h; simp at hlen; omega
          · have hkl : k < l.length := by omega
            have he : l[k]? = some l[k] := List.getElem?_eq_getElem hkl
            have hh := h5 k l[k] he
            exact ⟨b, off, h1, h2, h3, h4, l[k].k.1, l[k].k.2, l[k].sub, l[k].by_, he, hh⟩
        obtain ⟨b, off, rfl, hbw, hlc, hcm, c1, c2, s, y, he, hc1, hc2, hc3, hc4⟩ := hc
        have HE := hide he
        clear he
        have hkeep : ∀ W : World, Adds w0 w0.heap.size (runOps (l.take k)) W → W.cell? ⟨b, off + k * 4, none⟩ = some (.string c1) ∧ W.cell? ⟨b, off + k * 4 + 1, none⟩ = some (.string c2) ∧ W.cell? ⟨b, off + k * 4 + 2, none⟩ = some (.int .i64 s) ∧ W.cell? ⟨b, off + k * 4 + 3, none⟩ = some (.int .i64 y) := fun W h => by
          have hB : Below w.heap.size w W := HEND.out.trans (h.below.mono (by rw [HSZ.out]; omega))
          exact ⟨(hB.cell (p := ⟨b, off + k * 4, none⟩) hbw).trans hc1, (hB.cell (p := ⟨b, off + k * 4 + 1, none⟩) hbw).trans hc2, (hB.cell (p := ⟨b, off + k * 4 + 2, none⟩) hbw).trans hc3, (hB.cell (p := ⟨b, off + k * 4 + 3, none⟩) hbw).trans hc4⟩
        obtain ⟨hd1, hd2, hd3, hd4⟩ := hkeep _ hrel.out
        clear hc1 hc2 hc3 hc4 hkeep
        go_wp2_with fail
        refine region_still_tail 16 (by kernel_rfl) (by kernel_rfl) (fun KT hKT => ?_)
        simp only [List.take_succ_cons, List.take_zero, List.drop_succ_cons, List.drop_zero] at hKT ⊢
        iterate 16 still_step
        refine wpStill_nil (hKT _ ?_)
        clear hKT KT
        go_wp2_with (go_at_call 16; refine (ad_add c1 c2 s y _ hrel.out.drew).mono ?_; rintro e w2 ⟨rfl, ha2⟩; have HA2 := hide ha2; clear ha2)
        exact ⟨⟨k + 1, by omega, by go_num, by rw [runOps_next HE.out]; exact HA2⟩, by simp [intOf]; omega⟩
      · have hkn : k = len := by omega
        subst hkn
        rw [show l.take k = l by rw [← hlen]; exact List.take_length] at hrel
        have hml : (runOps l).length ≤ 60 := by have := runOps_length l; omega
        clear HCASE HFIT HA1 hmax
        generalize runOps l = m at *
        have hgood := hrel.out.good
        have hapart := hrel.out.apart
        have hoc : OpCells w.heap.size ⟨(k1, k2), sub, by_⟩ wr := HOC.out.keep (by rw [HSZ.out]; omega) hrel.out.below
        obtain ⟨ho1, ho2, ho3, ho4⟩ := hoc
        go_wp2_with fail
        generalize hq : posGet m (k1, k2) = q3
        have HQ := hide hq
        obtain ⟨x, y, z⟩ := q3
        clear hq
        have hgt := ad_get k1 k2 wr hrel.out
        rw [HQ.out] at hgt
        refine hgt.mono ?_
        rintro e w2 ⟨rfl, hb2⟩
        clear hgt
        have HA2 := hide (hrel.out.step hb2)
        clear hb2 ho1 ho2 ho3 ho4 hrel
        go_wp2_with fail
        refine (ad_keys_len _ (by omega) HA2.out).mono ?_
        rintro e w3 ⟨A, c, rfl, hb3⟩
        have HA3 := hide (HA2.out.step hb3)
        clear hb3 HA2
        have hoc : OpCells w.heap.size ⟨(k1, k2), sub, by_⟩ w3 := HOC.out.keep (by rw [HSZ.out]; omega) HA3.out.below
        have hl3 : w.heap.size < w3.heap.size := by have := HA3.out.below.size; have := HSZ.out; omega
        obtain ⟨ho1, ho2, ho3, ho4⟩ := hoc
        go_wp2_with fail
        refine (adq_add k1 k2 sub by_ _ (HA3.out.new _)).mono ?_
        rintro e w4 ⟨rfl, ha4, hq4⟩
        rw [heap_alloc_new] at hq4
        have hc1 : w4.cell? ⟨w3.heap.size, 0, none⟩ = some (.int .i64 x) := by simp [World.cell?, hq4]
        have hc2 : w4.cell? ⟨w3.heap.size, 1, none⟩ = some (.int .i64 y) := by simp [World.cell?, hq4]
        have hc3 : w4.cell? ⟨w3.heap.size, 2, none⟩ = some (.int .i64 z) := by simp [World.cell?, hq4]
        have hq4 := ha4.2.1
        have HA4 := hide ha4
        clear ha4 HA3 ho1 ho2 ho3 ho4 hl3
        generalize w3.heap.size = q at *
        have hoc : OpCells w.heap.size ⟨(k1, k2), sub, by_⟩ w4 := HOC.out.keep (by rw [HSZ.out]; omega) HA4.out.adds.below
        have hl4 : w.heap.size < w4.heap.size := by have := HA4.out.adds.below.size; have := HSZ.out; omega
        obtain ⟨ho1, ho2, ho3, ho4⟩ := hoc
        by_cases he : addErr m (k1, k2) sub by_ = 0
        · obtain ⟨hb1, hb2, hb3, hb4⟩ := add_back hgood hapart he
          rw [HQ.out] at hb3
          obtain ⟨hp1, hp2, _⟩ := addErr_zero he
          have hw1 : -1152921504606846976 ≤ by_ := hp2.1
          have hw2 : by_ ≤ 1152921504606846976 := hp2.2
          have HB1 := hide hb1
          have HB3 := hide hb3
          have HB4 := hide hb4
          obtain ⟨hn1, hn2⟩ := hb2
          clear hb1 hb3 hb4 hp1 hp2 hgood hapart HQ
          generalize hmm : addMap m (k1, k2) sub by_ = m1 at *
          have HMM := hide hmm
          clear hmm
          rw [he]
          go_wp2_with fail
          refine (ad_part k1 k2 sub _ HA4.out.adds).mono ?_
          rintro e w5 ⟨rfl, hb5⟩
          have HA5 := hide (HA4.out.step hb5)
          have hr1 : w5.cell? ⟨w.heap.size, 0, none⟩ = some (.string k1) := (hb5.cell (p := ⟨w.heap.size, 0, none⟩) hl4).trans ho1
          have hr2 : w5.cell? ⟨w.heap.size, 1, none⟩ = some (.string k2) := (hb5.cell (p := ⟨w.heap.size, 1, none⟩) hl4).trans ho2
          have hr3 : w5.cell? ⟨w.heap.size, 2, none⟩ = some (.int .i64 sub) := (hb5.cell (p := ⟨w.heap.size, 2, none⟩) hl4).trans ho3
          have hr4 : w5.cell? ⟨w.heap.size, 3, none⟩ = some (.int .i64 by_) := (hb5.cell (p := ⟨w.heap.size, 3, none⟩) hl4).trans ho4
          have hd1 : w5.cell? ⟨q, 0, none⟩ = some (.int .i64 x) := (hb5.cell (p := ⟨q, 0, none⟩) hq4).trans hc1
          have hd2 : w5.cell? ⟨q, 1, none⟩ = some (.int .i64 y) := (hb5.cell (p := ⟨q, 1, none⟩) hq4).trans hc2
          have hd3 : w5.cell? ⟨q, 2, none⟩ = some (.int .i64 z) := (hb5.cell (p := ⟨q, 2, none⟩) hq4).trans hc3
          clear ho1 ho2 ho3 ho4 hc1 hc2 hc3 hb5 hl4 hq4 HA4
          generalize posPart m1 (k1, k2) sub = now at *
          go_wp2_with fail
          refine (adq_add k1 k2 sub (-by_) _ HA5.out).mono ?_
          rintro e w4 ⟨rfl, ha4, hq5⟩
          have hqb : q < w5.heap.size := HA5.out.2.1
          have hc1 : w4.cell? ⟨q, 0, none⟩ = some (.int .i64 x) := (World.cell?_of_block hq5).trans hd1
          have hc2 : w4.cell? ⟨q, 1, none⟩ = some (.int .i64 y) := (World.cell?_of_block hq5).trans hd2
          have hc3 : w4.cell? ⟨q, 2, none⟩ = some (.int .i64 z) := (World.cell?_of_block hq5).trans hd3
          have hq4 := ha4.2.1
          have HA4 := hide ha4
          clear ha4 HA5 hr1 hr2 hr3 hr4 hd1 hd2 hd3 hq5 hqb
          have hoc : OpCells w.heap.size ⟨(k1, k2), sub, by_⟩ w4 := HOC.out.keep (by rw [HSZ.out]; omega) HA4.out.adds.below
          have hl4 : w.heap.size < w4.heap.size := by have := HA4.out.adds.below.size; have := HSZ.out; omega
          obtain ⟨ho1, ho2, _, _⟩ := hoc
          have hg : ∀ W, Below w4.heap.size w4 W → Calls Try.prog 17 #[.pointer (some ⟨w0.heap.size, 0, none⟩), .agg #[.string k1, .string k2]] W fun e w' => e = .returned (.agg #[.int .i64 x, .int .i64 y, .int .i64 z]) ∧ Below W.heap.size W w' := fun W h => by
            have := ad_get k1 k2 W (HA4.out.step h).adds
            rwa [HB3.out] at this
          have hk : ∀ W, Below w4.heap.size w4 W → Calls Try.prog 18 #[.pointer (some ⟨w0.heap.size, 0, none⟩), .slice none 0 0] W fun e w' => ∃ A c, e = .returned (.slice A m.length c) ∧ Below W.heap.size W w' := fun W h => by
            have := ad_keys_len W (by rw [HB4.out]; omega) (HA4.out.step h).adds
            rwa [HB4.out] at this
          have HG := hide hg
          have HK := hide hk
          clear hg hk
          rw [HB1.out]
          generalize m.length = n at *
          go_wp2_with fail
          have hkeep : ∀ W : World, Below w4.heap.size w4 W → W.cell? ⟨w.heap.size, 0, none⟩ = some (.string k1) ∧ W.cell? ⟨w.heap.size, 1, none⟩ = some (.string k2) ∧ W.cell? ⟨q, 0, none⟩ = some (.int .i64 x) ∧ W.cell? ⟨q, 1, none⟩ = some (.int .i64 y) ∧ W.cell? ⟨q, 2, none⟩ = some (.int .i64 z) ∧ Hid (Below w4.heap.size w4 W) := fun W h =>
            ⟨(h.cell (p := ⟨w.heap.size, 0, none⟩) hl4).trans ho1, (h.cell (p := ⟨w.heap.size, 1, none⟩) hl4).trans ho2, (h.cell (p := ⟨q, 0, none⟩) hq4).trans hc1, (h.cell (p := ⟨q, 1, none⟩) hq4).trans hc2, (h.cell (p := ⟨q, 2, none⟩) hq4).trans hc3, h⟩
          have HKEEP := hide hkeep
          clear hkeep
          have HBW : Hid (Below w.heap.size w w4) := HEND.out.trans (HA4.out.adds.below.mono (by rw [HSZ.out]; omega))
          go_region_held3 (fun W => W.cell? ⟨w.heap.size, 0, none⟩ = some (.string k1) ∧ W.cell? ⟨w.heap.size, 1, none⟩ = some (.string k2) ∧ W.cell? ⟨q, 0, none⟩ = some (.int .i64 x) ∧ W.cell? ⟨q, 1, none⟩ = some (.int .i64 y) ∧ W.cell? ⟨q, 2, none⟩ = some (.int .i64 z) ∧ Hid (Below w4.heap.size w4 W))
            (first | exact HKEEP.out _ ((Below.refl _ _).drew) | exact HKEEP.out _ (by assumption))
            (first
              | (go_at_call 15; go_split_ands; refine (alive_calls _).mono ?_; rintro e w5 ⟨rfl, hb5⟩; have hb6 := Below.trans (a := w4) (by assumption) (hb5.mono (Below.size (B := w4.heap.size) (w := w4) (by assumption))))
              | (go_at_call 17; go_split_ands; refine (HG.out _ (by assumption)).mono ?_; rintro e w5 ⟨rfl, hb5⟩; have hb6 := Below.trans (a := w4) (by assumption) (hb5.mono (Below.size (B := w4.heap.size) (w := w4) (by assumption))))
              | (go_at_call 18; go_split_ands; refine (HK.out _ (by assumption)).mono ?_; rintro e w5 ⟨A5, c5, rfl, hb5⟩; have hb6 := Below.trans (a := w4) (by assumption) (hb5.mono (Below.size (B := w4.heap.size) (w := w4) (by assumption)))))
          go_wp2
          go_ret
          exact ⟨rfl, HBW.out.trans (hb6.mono HBW.out.size)⟩
        · have hmm : addMap m (k1, k2) sub by_ = m := by unfold addMap; rw [if_pos he]
          rw [hmm] at HA4
          have hg : ∀ W, Below w4.heap.size w4 W → Calls Try.prog 17 #[.pointer (some ⟨w0.heap.size, 0, none⟩), .agg #[.string k1, .string k2]] W fun e w' => e = .returned (.agg #[.int .i64 x, .int .i64 y, .int .i64 z]) ∧ Below W.heap.size W w' := fun W h => by
            have := ad_get k1 k2 W (HA4.out.step h).adds
            rwa [HQ.out] at this
          have hk : ∀ W, Below w4.heap.size w4 W → Calls Try.prog 18 #[.pointer (some ⟨w0.heap.size, 0, none⟩), .slice none 0 0] W fun e w' => ∃ A c, e = .returned (.slice A m.length c) ∧ Below W.heap.size W w' := fun W h =>
            ad_keys_len W (by omega) (HA4.out.step h).adds
          have HG := hide hg
          have HK := hide hk
          clear hg hk hmm hgood hapart
          generalize m.length = n at *
          generalize addErr m (k1, k2) sub by_ = er at *
          go_wp2_with fail
          have hkeep : ∀ W : World, Below w4.heap.size w4 W → W.cell? ⟨w.heap.size, 0, none⟩ = some (.string k1) ∧ W.cell? ⟨w.heap.size, 1, none⟩ = some (.string k2) ∧ W.cell? ⟨q, 0, none⟩ = some (.int .i64 x) ∧ W.cell? ⟨q, 1, none⟩ = some (.int .i64 y) ∧ W.cell? ⟨q, 2, none⟩ = some (.int .i64 z) ∧ Hid (Below w4.heap.size w4 W) := fun W h =>
            ⟨(h.cell (p := ⟨w.heap.size, 0, none⟩) hl4).trans ho1, (h.cell (p := ⟨w.heap.size, 1, none⟩) hl4).trans ho2, (h.cell (p := ⟨q, 0, none⟩) hq4).trans hc1, (h.cell (p := ⟨q, 1, none⟩) hq4).trans hc2, (h.cell (p := ⟨q, 2, none⟩) hq4).trans hc3, h⟩
          have HKEEP := hide hkeep
          clear hkeep
          have HBW : Hid (Below w.heap.size w w4) := HEND.out.trans (HA4.out.adds.below.mono (by rw [HSZ.out]; omega))
          go_region_held3 (fun W => W.cell? ⟨w.heap.size, 0, none⟩ = some (.string k1) ∧ W.cell? ⟨w.heap.size, 1, none⟩ = some (.string k2) ∧ W.cell? ⟨q, 0, none⟩ = some (.int .i64 x) ∧ W.cell? ⟨q, 1, none⟩ = some (.int .i64 y) ∧ W.cell? ⟨q, 2, none⟩ = some (.int .i64 z) ∧ Hid (Below w4.heap.size w4 W))
            (first | exact HKEEP.out _ ((Below.refl _ _).drew) | exact HKEEP.out _ (by assumption))
            (first
              | (go_at_call 15; go_split_ands; refine (alive_calls _).mono ?_; rintro e w5 ⟨rfl, hb5⟩; have hb6 := Below.trans (a := w4) (by assumption) (hb5.mono (Below.size (B := w4.heap.size) (w := w4) (by assumption))))
              | (go_at_call 17; go_split_ands; refine (HG.out _ (by assumption)).mono ?_; rintro e w5 ⟨rfl, hb5⟩; have hb6 := Below.trans (a := w4) (by assumption) (hb5.mono (Below.size (B := w4.heap.size) (w := w4) (by assumption))))
              | (go_at_call 18; go_split_ands; refine (HK.out _ (by assumption)).mono ?_; rintro e w5 ⟨A5, c5, rfl, hb5⟩; have hb6 := Below.trans (a := w4) (by assumption) (hb5.mono (Below.size (B := w4.heap.size) (w := w4) (by assumption)))))
          go_wp2
          go_ret
          exact ⟨rfl, HBW.out.trans (hb6.mono HBW.out.size)⟩
end Go.Proofs.Ytmhmjbggjbeikaa
