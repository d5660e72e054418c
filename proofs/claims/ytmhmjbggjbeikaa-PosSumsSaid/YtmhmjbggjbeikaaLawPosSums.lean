/- PosSums: a total is the sum of what the accounts have of it, in all parts. -/
import Derived.Test.YtmhmjbggjbeikaaSums10
import Derived.Test.YtmhmjbggjbeikaaStill
namespace Go.Proofs.Ytmhmjbggjbeikaa
set_option linter.unusedSimpArgs false
set_option linter.unusedVariables false
open Go.RowKit
attribute [local go_sem] objAt_alloc objAt_alloc_at objAt_drew objAt_drewN objAt_setCell

/-- What the walk wants to know of the keys of one asset. -/
structure Sums10 (m : List (Key × Three)) (a : ByteArray) (ks : List Key) : Prop where
  key : ∀ (j : Nat) (x : Key), ks[j]? = some x → x.2 = a ∧ Good3 (posGet m x) ∧ 0 < sum3 (posGet m x) ∧ sum3 (posGet m x) ≤ 112589990684262400 ∧ posWhole m x = sum3 (posGet m x)
  part : ∀ j, 0 ≤ ((ks.take j).map fun k => sum3 (posGet m k)).sum ∧ ((ks.take j).map fun k => sum3 (posGet m k)).sum ≤ 112589990684262400
  total : posTotal m a = (ks.map fun k => sum3 (posGet m k)).sum

theorem sums_of {m : List (Key × Three)} (hg : GoodPos m) (ha : Apart m) (h : all3 m ≤ 112589990684262400) (a : ByteArray) : Sums10 m a (posKeys m [a]) := by
  have hall := keys_sum hg ha [a]
  have hpart : ∀ j, 0 ≤ (((posKeys m [a]).take j).map fun k => sum3 (posGet m k)).sum ∧ (((posKeys m [a]).take j).map fun k => sum3 (posGet m k)).sum ≤ 112589990684262400 := fun j =>
    ⟨keys_sum_nonneg hg _, by have := sum_part hg (posKeys m [a]) j; omega⟩
  refine ⟨fun j x hx => ?_, hpart, total_fit hg ha (by omega) a⟩
  have hmem := List.mem_of_getElem? hx
  have hle : sum3 (posGet m x) ≤ 112589990684262400 := by
    have h1 := sum_next m hx
    have h2 := hpart (j + 1)
    have h3 := hpart j
    omega
  refine ⟨?_, good_get hg x, sum3_pos (good_get hg x) (posKeys_has hg hmem), hle, whole_fit hg (by omega)⟩
  have := (posKeys_mem.1 hmem).2
  have h2 : a = x.2 := by simpa [selKey, hasStr] using this
  exact h2.symm

set_option maxHeartbeats 8000000 in
set_option maxRecDepth 100000 in
theorem posSums_walk (a : Option Addr) (len cap : Nat) (l : List POp) (w : World) (hl : OpsAt w a len cap l) :
    Calls Try.prog 6 #[.slice a len cap] w fun e w' => e = .returned (.bool true) ∧ Below w.heap.size w w' := by
  have hlen := hl.1
  have HL := hide hl
  clear hl
  by_cases hbig : len > 100
  · go_enter Try.func6, Try.ntmps6
    go_wp2_with fail
    refine (ad_new _).mono ?_
    rintro e w1 ⟨rfl, ha1⟩
    have HA1 := hide ha1; clear ha1
    go_wp2_with fail
    refine (alive_calls _).mono ?_
    rintro e w2 ⟨rfl, hb2⟩
    have HB2 := hide (HA1.out.step hb2).below
    clear hb2
    go_wp2_with fail
    go_ret
    exact ⟨rfl, HB2.out⟩
  · go_enter Try.func6, Try.ntmps6
    go_wp2_with fail
    refine (ad_new _).mono ?_
    rintro e w1 ⟨rfl, ha1⟩
    have HA1 := hide ha1; clear ha1
    go_wp2_with fail
    go_loopw [4] (fun i wr => ∃ k : Nat, k ≤ len ∧ i = .int .i64 k ∧ Hid (∀ o ∈ l.take k, o.by_ ≤ 1125899906842624) ∧ Hid (Adds w w.heap.size (runOps (l.take k)) wr)) (fun i _ => len - (intOf i).toNat)
    case atStart => exact ⟨0, by omega, rfl, hide (by simp), by simpa [runOps] using HA1⟩
    case round =>
      obtain ⟨k, hk, rfl, hby, hrel⟩ := hrel
      by_cases hlt : k < len
      · obtain ⟨b, off, c1, c2, s, y, rfl, hlc, hcm, he, hcell⟩ := HL.out.cell hlt
        obtain ⟨hd1, hd2, hd3, hd4⟩ := hcell _ hrel.out.below
        have HE := hide he
        clear he hcell
        by_cases hy1 : y > 1125899906842624
        · go_wp2_with (go_at_call 15; refine (alive_calls _).mono ?_; rintro e w2 ⟨rfl, hb2⟩; have HB2 := hide (hrel.out.step hb2).below; clear hb2)
          go_ret
          exact ⟨rfl, HB2.out⟩
        · by_cases hy2 : y < -1125899906842624
          · go_wp2_with (go_at_call 15; refine (alive_calls _).mono ?_; rintro e w2 ⟨rfl, hb2⟩; have HB2 := hide (hrel.out.step hb2).below; clear hb2)
            go_ret
            exact ⟨rfl, HB2.out⟩
          · have HBY : Hid (∀ o ∈ l.take (k + 1), o.by_ ≤ 1125899906842624) := hide fun o ho => by
              obtain ⟨hkl, hke⟩ := List.getElem?_eq_some_iff.1 HE.out
              rw [List.take_succ_eq_append_getElem hkl, List.mem_append, List.mem_singleton] at ho
              rcases ho with ho | rfl
              · exact hby.out o ho
              · rw [hke]; show y ≤ _; omega
            go_wp2_with fail
            refine region_still_tail 16 (by kernel_rfl) (by kernel_rfl) (fun KT hKT => ?_)
            simp only [List.take_succ_cons, List.take_zero, List.drop_succ_cons, List.drop_zero] at hKT ⊢
            iterate 16 still_step
            refine wpStill_nil (hKT _ ?_)
            clear hKT KT
            go_wp2_with (go_at_call 16; refine (ad_add c1 c2 s y _ hrel.out.drew).mono ?_; rintro e w2 ⟨rfl, ha2⟩; have HA2 := hide ha2; clear ha2)
            exact ⟨⟨k + 1, by omega, by go_num, HBY, by rw [runOps_next HE.out]; exact HA2⟩, by simp [intOf]; omega⟩
      · have hkn : k = len := by omega
        subst hkn
        rw [show l.take k = l by rw [← hlen]; exact List.take_length] at hrel hby
        have hml : (runOps l).length ≤ 100 := by have := runOps_length l; omega
        have hall : all3 (runOps l) ≤ 112589990684262400 := by
          have := all3_run l hby.out
          have : (l.length : Int) * 1125899906842624 ≤ 100 * 1125899906842624 := Int.mul_le_mul_of_nonneg_right (by omega) (by omega)
          omega
        have HS := hide (sums_of hrel.out.good hrel.out.apart hall)
        have HML := hide hml
        clear hby HA1 hml hall
        generalize runOps l = m at *
        go_wp2_with fail
        go_loopw [5] (fun i W => ∃ i' : Nat, i' ≤ k ∧ i = .int .i64 i' ∧ Hid (Adds w w.heap.size m W)) (fun i _ => k - (intOf i).toNat)
        case atStart => exact ⟨0, by omega, rfl, hrel⟩
        case round =>
          obtain ⟨i, hi, rfl, hrel⟩ := hrel
          by_cases hlt2 : i < k
          · obtain ⟨b, off, c1, c2, s, y, rfl, hlc, hcm, _, hcell⟩ := HL.out.cell hlt2
            obtain ⟨hd1, hd2, hd3, hd4⟩ := hcell _ hrel.out.below
            clear hcell
            have hs := HS.out c2
            have hkl : (posKeys m [c2]).length ≤ 100 := Nat.le_trans (posKeys_length _ _) HML.out
            have hkc := ad_keys1 c2 _ (by have := HML.out; omega) hrel.out
            have HT := hide (fun W h => ad_total (w0 := w) (p := w.heap.size) (m := m) c2 W (by have := HML.out; omega) h)
            generalize posKeys m [c2] = ks at *
            have HS2 := hide hs
            clear hs
            go_wp2_with fail
            refine hkc.mono ?_
            rintro e w3 ⟨A2, cp2, rfl, hki, hb3⟩
            have HA3 := hide (hrel.out.step hb3)
            have HKI := hide hki
            clear hkc hki hb3 hd1 hd2 hd3 hd4
            go_wp2_with fail
            go_loopw [8, 9] (fun n jv W => ∃ j : Nat, j ≤ ks.length ∧ jv = .int .i64 j ∧ n = .int .i64 ((ks.take j).map fun k => sum3 (posGet m k)).sum ∧ Hid (Below w3.heap.size w3 W)) (fun _ jv _ => ks.length - (intOf jv).toNat)
            case atStart => exact ⟨0, by omega, rfl, by simp, hide (Below.refl _ _)⟩
            case round =>
              obtain ⟨j, hj, rfl, rfl, hb⟩ := hrel
              by_cases hjl : j < ks.length
              · obtain ⟨x0, hx⟩ : ∃ x, ks[j]? = some x := ⟨ks[j], List.getElem?_eq_getElem hjl⟩
                obtain ⟨g, rfl, hg, hx1, hx2⟩ := (HKI.out.keep hb.out) j x0 hx
                obtain ⟨hxa, hgd, hpos, hle, hwh⟩ := HS2.out.key j x0 hx
                obtain ⟨hp1, hp2⟩ := HS2.out.part j
                have HNEXT := hide (sum_next m hx)
                obtain ⟨x1, x2⟩ := x0
                obtain rfl : c2 = x2 := by simpa using hxa.symm
                simp only at hx1 hx2
                have HAW := hide (HA3.out.step hb.out)
                have hgt := ad_get x1 c2 wr HAW.out
                have hw : ∀ W, Below wr.heap.size wr W → Calls Try.prog 22 #[.pointer (some ⟨w.heap.size, 0, none⟩), .agg #[.string x1, .string c2]] W fun e w' => e = .returned (.int .i64 (sum3 (posGet m (x1, c2)))) ∧ Below W.heap.size W w' := fun W h => by
                  have := ad_whole x1 c2 W (HAW.out.step h)
                  rwa [hwh] at this
                clear hwh hxa hx HAW
                generalize posGet m (x1, c2) = q3 at *
                obtain ⟨x, y, z⟩ := q3
                generalize hN : ((ks.take j).map fun k => sum3 (posGet m k)).sum = N at *
                obtain ⟨⟨hx0, _⟩, ⟨hy0, _⟩, ⟨hz0, _⟩⟩ := hgd
                simp only [sum3] at hx0 hy0 hz0 hpos hle hw
                simp only [show sum3 (x, y, z) = x + y + z from rfl] at HNEXT
                have HW0 := hide hw
                clear hw hN
                go_wp2_with fail
                refine hgt.mono ?_
                rintro e w5 ⟨rfl, hb5⟩
                clear hgt
                go_wp2_with fail
                have hb6 : Below wr.heap.size wr (w5.alloc (.cells #[.int .i64 x, .int .i64 y, .int .i64 z] 33)) := hb5.alloc hb5.size _
                have hz1 : (w5.alloc (.cells #[.int .i64 x, .int .i64 y, .int .i64 z] 33)).cell? ⟨w5.heap.size, 0, none⟩ = some (.int .i64 x) := by simp
                have hz2 : (w5.alloc (.cells #[.int .i64 x, .int .i64 y, .int .i64 z] 33)).cell? ⟨w5.heap.size, 1, none⟩ = some (.int .i64 y) := by simp
                have hz3 : (w5.alloc (.cells #[.int .i64 x, .int .i64 y, .int .i64 z] 33)).cell? ⟨w5.heap.size, 2, none⟩ = some (.int .i64 z) := by simp
                have hq : w5.heap.size < (w5.alloc (.cells #[.int .i64 x, .int .i64 y, .int .i64 z] 33)).heap.size := by simp
                generalize w5.alloc (.cells #[.int .i64 x, .int .i64 y, .int .i64 z] 33) = w6 at *
                generalize w5.heap.size = q at *
                have hg6 : g < w6.heap.size := Nat.lt_of_lt_of_le hg hb6.size
                have hv1 := (hb6.cell (p := ⟨g, j * 2, none⟩) hg).trans hx1
                have hv2 := (hb6.cell (p := ⟨g, j * 2 + 1, none⟩) hg).trans hx2
                have HB6 : Hid (Below w3.heap.size w3 w6) := hide (hb.out.trans (hb6.mono hb.out.size))
                have hw6 : ∀ W, Below w6.heap.size w6 W → Calls Try.prog 22 #[.pointer (some ⟨w.heap.size, 0, none⟩), .agg #[.string x1, .string c2]] W fun e w' => e = .returned (.int .i64 (x + y + z)) ∧ Below W.heap.size W w' := fun W h => HW0.out W (hb6.trans (h.mono hb6.size))
                have HW := hide hw6
                have hkeep : ∀ W : World, Below w6.heap.size w6 W → W.cell? ⟨g, j * 2, none⟩ = some (.string x1) ∧ W.cell? ⟨g, j * 2 + 1, none⟩ = some (.string c2) ∧ W.cell? ⟨q, 0, none⟩ = some (.int .i64 x) ∧ W.cell? ⟨q, 1, none⟩ = some (.int .i64 y) ∧ W.cell? ⟨q, 2, none⟩ = some (.int .i64 z) ∧ Hid (Below w6.heap.size w6 W) := fun W h =>
                  ⟨(h.cell (p := ⟨g, j * 2, none⟩) hg6).trans hv1, (h.cell (p := ⟨g, j * 2 + 1, none⟩) hg6).trans hv2, (h.cell (p := ⟨q, 0, none⟩) hq).trans hz1, (h.cell (p := ⟨q, 1, none⟩) hq).trans hz2, (h.cell (p := ⟨q, 2, none⟩) hq).trans hz3, h⟩
                have HKEEP := hide hkeep
                clear hkeep hw6 HW0 hx1 hx2 hv1 hv2 hz1 hz2 hz3 hb5 hb6
                have HSUM : Hid (IntKind.i64.wrap (IntKind.i64.wrap (x + y) + z) = x + y + z) := hide (by rw [IntKind.wrap_i64, IntKind.wrap_i64]; omega)
                have hs1 : 0 ≤ x + y := by omega
                have hs2 : x + y ≤ 112589990684262400 := by omega
                refine wp_region_held_drew (S := fun W => W.cell? ⟨g, j * 2, none⟩ = some (.string x1) ∧ W.cell? ⟨g, j * 2 + 1, none⟩ = some (.string c2) ∧ W.cell? ⟨q, 0, none⟩ = some (.int .i64 x) ∧ W.cell? ⟨q, 1, none⟩ = some (.int .i64 y) ∧ W.cell? ⟨q, 2, none⟩ = some (.int .i64 z) ∧ Hid (Below w6.heap.size w6 W)) (by kernel_rfl) (HKEEP.out _ (Below.refl _ _).drew) (fun hHeld => ?_)
                refine wpAnyH_take (i := 0) (v := ?_) rfl (by kernel_rfl) (by kernel_rfl) (by kernel_rfl) (fun _ _ _ h => h) (Or.inl ⟨by rfl, ?hya0⟩) (by assumption) ?resta0
                case hya0 => (intro w hSw; (try dsimp only at hSw); go_split_ands; go_simp; try with_reducible rfl)
                try simp only [Act.put, List.setIfInBounds_toArray, List.set_cons_zero, List.set_cons_succ, List.getElem_toArray, List.getElem_cons_zero, List.getElem_cons_succ]
                refine wpAnyH_take (i := 1) (v := ?_) rfl (by kernel_rfl) (by kernel_rfl) (by kernel_rfl) (fun _ _ _ h => h) (Or.inl ⟨by rfl, ?hya1⟩) (by assumption) ?resta1
                case hya1 => (intro w hSw; (try dsimp only at hSw); go_split_ands; go_simp; try with_reducible rfl)
                try simp only [Act.put, List.setIfInBounds_toArray, List.set_cons_zero, List.set_cons_succ, List.getElem_toArray, List.getElem_cons_zero, List.getElem_cons_succ]
                refine wpAnyH_take (i := 2) (v := ?_) rfl (by kernel_rfl) (by kernel_rfl) (by kernel_rfl) (fun _ _ _ h => h) (Or.inl ⟨by rfl, ?hya2⟩) (by assumption) ?resta2
                case hya2 => (intro w hSw; (try dsimp only at hSw); go_split_ands; go_simp; try with_reducible rfl)
                try simp only [Act.put, List.setIfInBounds_toArray, List.set_cons_zero, List.set_cons_succ, List.getElem_toArray, List.getElem_cons_zero, List.getElem_cons_succ]
                refine wpAnyH_take (i := 3) (v := ?_) rfl (by kernel_rfl) (by kernel_rfl) (by kernel_rfl) (fun _ _ _ h => h) (Or.inl ⟨by rfl, ?hya3⟩) (by assumption) ?resta3
                case hya3 => (intro w hSw; (try dsimp only at hSw); go_split_ands; go_simp; try with_reducible rfl)
                try simp only [Act.put, List.setIfInBounds_toArray, List.set_cons_zero, List.set_cons_succ, List.getElem_toArray, List.getElem_cons_zero, List.getElem_cons_succ]
                refine wpAnyH_take (i := 4) (v := ?_) rfl (by kernel_rfl) (by kernel_rfl) (by kernel_rfl) (fun _ _ _ h => h) (Or.inl ⟨by rfl, ?hya4⟩) (by assumption) ?resta4
                case hya4 => (intro w hSw; (try dsimp only at hSw); go_split_ands; go_simp; try with_reducible rfl)
                try simp only [Act.put, List.setIfInBounds_toArray, List.set_cons_zero, List.set_cons_succ, List.getElem_toArray, List.getElem_cons_zero, List.getElem_cons_succ]
                refine wpAnyH_take (i := 5) (v := ?_) rfl (by kernel_rfl) (by kernel_rfl) (by kernel_rfl) (fun _ _ _ h => h) (Or.inl ⟨by rfl, ?hya5⟩) (by assumption) ?resta5
                case hya5 => (intro w hSw; (try dsimp only at hSw); go_split_ands; go_simp; try with_reducible rfl)
                try simp only [Act.put, List.setIfInBounds_toArray, List.set_cons_zero, List.set_cons_succ, List.getElem_toArray, List.getElem_cons_zero, List.getElem_cons_succ]
                refine wpAnyH_take (i := 6) (v := .bool false) rfl (by kernel_rfl) (by kernel_rfl) (by kernel_rfl) (fun _ _ _ h => h) (Or.inl ⟨by rfl, ?hya6⟩) (by assumption) ?resta6
                case hya6 => (intro w hSw; (try dsimp only at hSw); go_split_ands; go_simp; first | done | omega | simp)
                try simp only [Act.put, List.setIfInBounds_toArray, List.set_cons_zero, List.set_cons_succ, List.getElem_toArray, List.getElem_cons_zero, List.getElem_cons_succ]
                refine wpAnyH_take (i := 7) (v := ?_) rfl (by kernel_rfl) (by kernel_rfl) (by kernel_rfl) (fun _ _ _ h => h) (Or.inl ⟨by rfl, ?hya7⟩) (by assumption) ?resta7
                case hya7 => (intro w hSw; (try dsimp only at hSw); go_split_ands; go_simp; try with_reducible rfl)
                try simp only [Act.put, List.setIfInBounds_toArray, List.set_cons_zero, List.set_cons_succ, List.getElem_toArray, List.getElem_cons_zero, List.getElem_cons_succ]
                refine wpAnyH_take (i := 8) (v := ?_) rfl (by kernel_rfl) (by kernel_rfl) (by kernel_rfl) (fun _ _ _ h => h) (Or.inl ⟨by rfl, ?hya8⟩) (by assumption) ?resta8
                case hya8 => (intro w hSw; (try dsimp only at hSw); go_split_ands; go_simp; try with_reducible rfl)
                try simp only [Act.put, List.setIfInBounds_toArray, List.set_cons_zero, List.set_cons_succ, List.getElem_toArray, List.getElem_cons_zero, List.getElem_cons_succ]
                refine wpAnyH_take (i := 9) (v := ?_) rfl (by kernel_rfl) (by kernel_rfl) (by kernel_rfl) (fun _ _ _ h => h) (Or.inl ⟨by rfl, ?hya9⟩) (by assumption) ?resta9
                case hya9 => (intro w hSw; (try dsimp only at hSw); go_split_ands; go_simp; try with_reducible rfl)
                try simp only [Act.put, List.setIfInBounds_toArray, List.set_cons_zero, List.set_cons_succ, List.getElem_toArray, List.getElem_cons_zero, List.getElem_cons_succ]
                refine wpAnyH_take (i := 10) (v := .bool false) rfl (by kernel_rfl) (by kernel_rfl) (by kernel_rfl) (fun _ _ _ h => h) (Or.inl ⟨by rfl, ?hya10⟩) (by assumption) ?resta10
                case hya10 => (intro w hSw; (try dsimp only at hSw); go_split_ands; go_simp; first | done | omega | simp)
                try simp only [Act.put, List.setIfInBounds_toArray, List.set_cons_zero, List.set_cons_succ, List.getElem_toArray, List.getElem_cons_zero, List.getElem_cons_succ]
                refine wpAnyH_take (i := 11) (v := ?_) rfl (by kernel_rfl) (by kernel_rfl) (by kernel_rfl) (fun _ _ _ h => h) (Or.inl ⟨by rfl, ?hya11⟩) (by assumption) ?resta11
                case hya11 => (intro w hSw; (try dsimp only at hSw); go_split_ands; go_simp; try with_reducible rfl)
                try simp only [Act.put, List.setIfInBounds_toArray, List.set_cons_zero, List.set_cons_succ, List.getElem_toArray, List.getElem_cons_zero, List.getElem_cons_succ]
                refine wpAnyH_take (i := 12) (v := ?_) rfl (by kernel_rfl) (by kernel_rfl) (by kernel_rfl) (fun _ _ _ h => h) (Or.inl ⟨by rfl, ?hya12⟩) (by assumption) ?resta12
                case hya12 => (intro w hSw; (try dsimp only at hSw); go_split_ands; go_simp; try with_reducible rfl)
                try simp only [Act.put, List.setIfInBounds_toArray, List.set_cons_zero, List.set_cons_succ, List.getElem_toArray, List.getElem_cons_zero, List.getElem_cons_succ]
                refine wpAnyH_take (i := 13) (v := ?_) rfl (by kernel_rfl) (by kernel_rfl) (by kernel_rfl) (fun _ _ _ h => h) (Or.inl ⟨by rfl, ?hya13⟩) (by assumption) ?resta13
                case hya13 => (intro w hSw; (try dsimp only at hSw); go_split_ands; go_simp; try with_reducible rfl)
                try simp only [Act.put, List.setIfInBounds_toArray, List.set_cons_zero, List.set_cons_succ, List.getElem_toArray, List.getElem_cons_zero, List.getElem_cons_succ]
                refine wpAnyH_take (i := 14) (v := ?_) rfl (by kernel_rfl) (by kernel_rfl) (by kernel_rfl) (fun _ _ _ h => h) (Or.inl ⟨by rfl, ?hya14⟩) (by assumption) ?resta14
                case hya14 => (intro w hSw; (try dsimp only at hSw); go_split_ands; go_simp; try with_reducible rfl)
                try simp only [Act.put, List.setIfInBounds_toArray, List.set_cons_zero, List.set_cons_succ, List.getElem_toArray, List.getElem_cons_zero, List.getElem_cons_succ]
                refine wpAnyH_take (i := 15) (v := .bool false) rfl (by kernel_rfl) (by kernel_rfl) (by kernel_rfl) (fun _ _ _ h => h) (Or.inl ⟨by rfl, ?hya15⟩) (by assumption) ?resta15
                case hya15 => (intro w hSw; (try dsimp only at hSw); go_split_ands; go_simp; first | done | omega | simp)
                try simp only [Act.put, List.setIfInBounds_toArray, List.set_cons_zero, List.set_cons_succ, List.getElem_toArray, List.getElem_cons_zero, List.getElem_cons_succ]
                refine wpAnyH_take (i := 16) (v := ?_) rfl (by kernel_rfl) (by kernel_rfl) (by kernel_rfl) (fun _ _ _ h => h) (Or.inl ⟨by rfl, ?hya16⟩) (by assumption) ?resta16
                case hya16 => (intro w hSw; (try dsimp only at hSw); go_split_ands; go_simp; try with_reducible rfl)
                try simp only [Act.put, List.setIfInBounds_toArray, List.set_cons_zero, List.set_cons_succ, List.getElem_toArray, List.getElem_cons_zero, List.getElem_cons_succ]
                refine wpAnyH_take (i := 17) (v := ?_) rfl (by kernel_rfl) (by kernel_rfl) (by kernel_rfl) (fun _ _ _ h => h) (Or.inl ⟨by rfl, ?hya17⟩) (by assumption) ?resta17
                case hya17 => (intro w hSw; (try dsimp only at hSw); go_split_ands; go_simp; try with_reducible rfl)
                try simp only [Act.put, List.setIfInBounds_toArray, List.set_cons_zero, List.set_cons_succ, List.getElem_toArray, List.getElem_cons_zero, List.getElem_cons_succ]
                refine wpAnyH_take (i := 18) (v := ?_) rfl (by kernel_rfl) (by kernel_rfl) (by kernel_rfl) (fun _ _ _ h => h) (Or.inl ⟨by rfl, ?hya18⟩) (by assumption) ?resta18
                case hya18 => (intro w hSw; (try dsimp only at hSw); go_split_ands; go_simp; try with_reducible rfl)
                try simp only [Act.put, List.setIfInBounds_toArray, List.set_cons_zero, List.set_cons_succ, List.getElem_toArray, List.getElem_cons_zero, List.getElem_cons_succ]
                refine wpAnyH_take (i := 19) (v := ?_) rfl (by kernel_rfl) (by kernel_rfl) (by kernel_rfl) (fun _ _ _ h => h) (Or.inl ⟨by rfl, ?hya19⟩) (by assumption) ?resta19
                case hya19 => (intro w hSw; (try dsimp only at hSw); go_split_ands; go_simp; try with_reducible rfl)
                try simp only [Act.put, List.setIfInBounds_toArray, List.set_cons_zero, List.set_cons_succ, List.getElem_toArray, List.getElem_cons_zero, List.getElem_cons_succ]
                refine wpAnyH_take (i := 20) (v := .bool false) rfl (by kernel_rfl) (by kernel_rfl) (by kernel_rfl) (fun _ _ _ h => h) (Or.inl ⟨by rfl, ?hya20⟩) (by assumption) ?resta20
                case hya20 => (intro w hSw; (try dsimp only at hSw); go_split_ands; go_simp; first | done | omega | simp)
                try simp only [Act.put, List.setIfInBounds_toArray, List.set_cons_zero, List.set_cons_succ, List.getElem_toArray, List.getElem_cons_zero, List.getElem_cons_succ]
                refine wpAnyH_take (i := 21) (v := ?_) rfl (by kernel_rfl) (by kernel_rfl) (by kernel_rfl) (fun _ _ _ h => h) (Or.inl ⟨by rfl, ?hya21⟩) (by assumption) ?resta21
                case hya21 => (intro w hSw; (try dsimp only at hSw); go_split_ands; go_simp; try with_reducible rfl)
                try simp only [Act.put, List.setIfInBounds_toArray, List.set_cons_zero, List.set_cons_succ, List.getElem_toArray, List.getElem_cons_zero, List.getElem_cons_succ]
                refine wpAnyH_take (i := 22) (v := ?_) rfl (by kernel_rfl) (by kernel_rfl) (by kernel_rfl) (fun _ _ _ h => h) (Or.inl ⟨by rfl, ?hya22⟩) (by assumption) ?resta22
                case hya22 => (intro w hSw; (try dsimp only at hSw); go_split_ands; go_simp; try with_reducible rfl)
                try simp only [Act.put, List.setIfInBounds_toArray, List.set_cons_zero, List.set_cons_succ, List.getElem_toArray, List.getElem_cons_zero, List.getElem_cons_succ]
                refine wpAnyH_take (i := 23) (v := ?_) rfl (by kernel_rfl) (by kernel_rfl) (by kernel_rfl) (fun _ _ _ h => h) (Or.inl ⟨by rfl, ?hya23⟩) (by assumption) ?resta23
                case hya23 => (intro w hSw; (try dsimp only at hSw); go_split_ands; go_simp; try with_reducible rfl)
                try simp only [Act.put, List.setIfInBounds_toArray, List.set_cons_zero, List.set_cons_succ, List.getElem_toArray, List.getElem_cons_zero, List.getElem_cons_succ]
                refine wpAnyH_take (i := 24) (v := ?_) rfl (by kernel_rfl) (by kernel_rfl) (by kernel_rfl) (fun _ _ _ h => h) (Or.inl ⟨by rfl, ?hya24⟩) (by assumption) ?resta24
                case hya24 => (intro w hSw; (try dsimp only at hSw); go_split_ands; go_simp; try with_reducible rfl)
                try simp only [Act.put, List.setIfInBounds_toArray, List.set_cons_zero, List.set_cons_succ, List.getElem_toArray, List.getElem_cons_zero, List.getElem_cons_succ]
                refine wpAnyH_take (i := 25) (v := ?_) rfl (by kernel_rfl) (by kernel_rfl) (by kernel_rfl) (fun _ _ _ h => h) (Or.inl ⟨by rfl, ?hya25⟩) (by assumption) ?resta25
                case hya25 => (intro w hSw; (try dsimp only at hSw); go_split_ands; go_simp; try with_reducible rfl)
                try simp only [Act.put, List.setIfInBounds_toArray, List.set_cons_zero, List.set_cons_succ, List.getElem_toArray, List.getElem_cons_zero, List.getElem_cons_succ]
                refine wpAnyH_take (i := 26) (v := ?_) rfl (by kernel_rfl) (by kernel_rfl) (by kernel_rfl) (fun _ _ _ h => h) (Or.inl ⟨by rfl, ?hya26⟩) (by assumption) ?resta26
                case hya26 => (intro w hSw; (try dsimp only at hSw); go_split_ands; go_simp; try with_reducible rfl)
                try simp only [Act.put, List.setIfInBounds_toArray, List.set_cons_zero, List.set_cons_succ, List.getElem_toArray, List.getElem_cons_zero, List.getElem_cons_succ]
                refine wpAnyH_take (i := 27) (v := ?_) rfl (by kernel_rfl) (by kernel_rfl) (by kernel_rfl) (fun _ _ _ h => h) (Or.inl ⟨by rfl, ?hya27⟩) (by assumption) ?resta27
                case hya27 => (intro w hSw; (try dsimp only at hSw); go_split_ands; go_simp; try with_reducible rfl)
                try simp only [Act.put, List.setIfInBounds_toArray, List.set_cons_zero, List.set_cons_succ, List.getElem_toArray, List.getElem_cons_zero, List.getElem_cons_succ]
                refine wpAnyH_take (i := 28) (v := ?_) rfl (by kernel_rfl) (by kernel_rfl) (by kernel_rfl) (fun _ _ _ h => h) (Or.inl ⟨by rfl, ?hya28⟩) (by assumption) ?resta28
                case hya28 => (intro w hSw; (try dsimp only at hSw); go_split_ands; go_simp; try with_reducible rfl)
                try simp only [Act.put, List.setIfInBounds_toArray, List.set_cons_zero, List.set_cons_succ, List.getElem_toArray, List.getElem_cons_zero, List.getElem_cons_succ]
                refine wpAnyH_take (i := 29) (v := ?_) rfl (by kernel_rfl) (by kernel_rfl) (by kernel_rfl) (fun _ _ _ h => h) (Or.inl ⟨by rfl, ?hya29⟩) (by assumption) ?resta29
                case hya29 => (intro w hSw; (try dsimp only at hSw); go_split_ands; go_simp; try with_reducible rfl)
                try simp only [Act.put, List.setIfInBounds_toArray, List.set_cons_zero, List.set_cons_succ, List.getElem_toArray, List.getElem_cons_zero, List.getElem_cons_succ]
                refine wpAnyH_take (i := 30) (v := ?_) rfl (by kernel_rfl) (by kernel_rfl) (by kernel_rfl) (fun _ _ _ h => h) (Or.inl ⟨by rfl, ?hya30⟩) (by assumption) ?resta30
                case hya30 => (intro w hSw; (try dsimp only at hSw); go_split_ands; go_simp; try with_reducible rfl)
                try simp only [Act.put, List.setIfInBounds_toArray, List.set_cons_zero, List.set_cons_succ, List.getElem_toArray, List.getElem_cons_zero, List.getElem_cons_succ]
                refine wpAnyH_take (i := 31) (v := ?_) rfl (by kernel_rfl) (by kernel_rfl) (by kernel_rfl) (fun _ _ _ h => h) (Or.inl ⟨by rfl, ?hya31⟩) (by assumption) ?resta31
                case hya31 => (intro w hSw; (try dsimp only at hSw); go_split_ands; go_simp; try with_reducible rfl)
                try simp only [Act.put, List.setIfInBounds_toArray, List.set_cons_zero, List.set_cons_succ, List.getElem_toArray, List.getElem_cons_zero, List.getElem_cons_succ]
                refine wpAnyH_take (i := 32) (v := ?_) rfl (by kernel_rfl) (by kernel_rfl) (by kernel_rfl) (fun _ _ _ h => h) (Or.inl ⟨by rfl, ?hya32⟩) (by assumption) ?resta32
                case hya32 => (intro w hSw; (try dsimp only at hSw); go_split_ands; go_simp; try with_reducible rfl)
                try simp only [Act.put, List.setIfInBounds_toArray, List.set_cons_zero, List.set_cons_succ, List.getElem_toArray, List.getElem_cons_zero, List.getElem_cons_succ]
                refine wpAnyH_take (i := 33) (v := ?_) rfl (by kernel_rfl) (by kernel_rfl) (by kernel_rfl) (fun _ _ _ h => h) (Or.inl ⟨by rfl, ?hya33⟩) (by assumption) ?resta33
                case hya33 => (intro w hSw; (try dsimp only at hSw); go_split_ands; go_simp; try with_reducible rfl)
                try simp only [Act.put, List.setIfInBounds_toArray, List.set_cons_zero, List.set_cons_succ, List.getElem_toArray, List.getElem_cons_zero, List.getElem_cons_succ]
                refine wpAnyH_take (i := 34) (v := ?_) rfl (by kernel_rfl) (by kernel_rfl) (by kernel_rfl) (fun _ _ _ h => h) (Or.inl ⟨by rfl, ?hya34⟩) (by assumption) ?resta34
                case hya34 => (intro w hSw; (try dsimp only at hSw); go_split_ands; go_simp; try with_reducible rfl)
                try simp only [Act.put, List.setIfInBounds_toArray, List.set_cons_zero, List.set_cons_succ, List.getElem_toArray, List.getElem_cons_zero, List.getElem_cons_succ]
                refine wpAnyH_take (i := 35) (v := ?_) rfl (by kernel_rfl) (by kernel_rfl) (by kernel_rfl) (fun _ _ _ h => h) (Or.inl ⟨by rfl, ?hya35⟩) (by assumption) ?resta35
                case hya35 => (intro w hSw; (try dsimp only at hSw); go_split_ands; go_simp; try with_reducible rfl)
                try simp only [Act.put, List.setIfInBounds_toArray, List.set_cons_zero, List.set_cons_succ, List.getElem_toArray, List.getElem_cons_zero, List.getElem_cons_succ]
                refine wpAnyH_ready (rs := [36]) (by kernel_rfl) (by simp) ?_
                refine AllReadyH.cons rfl (fun K hK => ?_) AllReadyH.nil
                go_simp
                refine (HW.out _ hHeld.2.2.2.2.2).mono ?_
                rintro e w7 ⟨rfl, hb7⟩
                have hb8 := Below.trans hHeld.2.2.2.2.2 (hb7.mono (Below.size hHeld.2.2.2.2.2))
                try go_wp2_with fail
                refine hK.out _ _ (HKEEP.out _ hb8) (fun hHeld => ?_)
                clear hK K
                try simp only [Act.put, List.setIfInBounds_toArray, List.set_cons_zero, List.set_cons_succ, List.getElem_toArray, List.getElem_cons_zero, List.getElem_cons_succ]
                refine wpAnyH_take (i := 37) (v := .bool false) rfl (by kernel_rfl) (by kernel_rfl) (by kernel_rfl) (fun _ _ _ h => h) (Or.inl ⟨by rfl, ?hya37⟩) (by assumption) ?resta37
                case hya37 => (intro w hSw; (try dsimp only at hSw); go_split_ands; go_simp; exact HSUM.out)
                try simp only [Act.put, List.setIfInBounds_toArray, List.set_cons_zero, List.set_cons_succ, List.getElem_toArray, List.getElem_cons_zero, List.getElem_cons_succ]
                refine wpAnyH_take (i := 38) (v := ?_) rfl (by kernel_rfl) (by kernel_rfl) (by kernel_rfl) (fun _ _ _ h => h) (Or.inl ⟨by rfl, ?hya38⟩) (by assumption) ?resta38
                case hya38 => (intro w hSw; (try dsimp only at hSw); go_split_ands; go_simp; try with_reducible rfl)
                try simp only [Act.put, List.setIfInBounds_toArray, List.set_cons_zero, List.set_cons_succ, List.getElem_toArray, List.getElem_cons_zero, List.getElem_cons_succ]
                refine wpAnyH_take (i := 39) (v := ?_) rfl (by kernel_rfl) (by kernel_rfl) (by kernel_rfl) (fun _ _ _ h => h) (Or.inl ⟨by rfl, ?hya39⟩) (by assumption) ?resta39
                case hya39 => (intro w hSw; (try dsimp only at hSw); go_split_ands; go_simp; try with_reducible rfl)
                try simp only [Act.put, List.setIfInBounds_toArray, List.set_cons_zero, List.set_cons_succ, List.getElem_toArray, List.getElem_cons_zero, List.getElem_cons_succ]
                refine wpAnyH_take (i := 40) (v := ?_) rfl (by kernel_rfl) (by kernel_rfl) (by kernel_rfl) (fun _ _ _ h => h) (Or.inl ⟨by rfl, ?hya40⟩) (by assumption) ?resta40
                case hya40 => (intro w hSw; (try dsimp only at hSw); go_split_ands; go_simp; try with_reducible rfl)
                try simp only [Act.put, List.setIfInBounds_toArray, List.set_cons_zero, List.set_cons_succ, List.getElem_toArray, List.getElem_cons_zero, List.getElem_cons_succ]
                refine wpAnyH_take (i := 41) (v := ?_) rfl (by kernel_rfl) (by kernel_rfl) (by kernel_rfl) (fun _ _ _ h => h) (Or.inl ⟨by rfl, ?hya41⟩) (by assumption) ?resta41
                case hya41 => (intro w hSw; (try dsimp only at hSw); go_split_ands; go_simp; try with_reducible rfl)
                try simp only [Act.put, List.setIfInBounds_toArray, List.set_cons_zero, List.set_cons_succ, List.getElem_toArray, List.getElem_cons_zero, List.getElem_cons_succ]
                refine wpAnyH_take (i := 42) (v := ?_) rfl (by kernel_rfl) (by kernel_rfl) (by kernel_rfl) (fun _ _ _ h => h) (Or.inl ⟨by rfl, ?hya42⟩) (by assumption) ?resta42
                case hya42 => (intro w hSw; (try dsimp only at hSw); go_split_ands; go_simp; try with_reducible rfl)
                try simp only [Act.put, List.setIfInBounds_toArray, List.set_cons_zero, List.set_cons_succ, List.getElem_toArray, List.getElem_cons_zero, List.getElem_cons_succ]
                refine wpAnyH_take (i := 43) (v := ?_) rfl (by kernel_rfl) (by kernel_rfl) (by kernel_rfl) (fun _ _ _ h => h) (Or.inl ⟨by rfl, ?hya43⟩) (by assumption) ?resta43
                case hya43 => (intro w hSw; (try dsimp only at hSw); go_split_ands; go_simp; try with_reducible rfl)
                try simp only [Act.put, List.setIfInBounds_toArray, List.set_cons_zero, List.set_cons_succ, List.getElem_toArray, List.getElem_cons_zero, List.getElem_cons_succ]
                refine wpAnyH_take (i := 44) (v := ?_) rfl (by kernel_rfl) (by kernel_rfl) (by kernel_rfl) (fun _ _ _ h => h) (Or.inl ⟨by rfl, ?hya44⟩) (by assumption) ?resta44
                case hya44 => (intro w hSw; (try dsimp only at hSw); go_split_ands; go_simp; try with_reducible rfl)
                try simp only [Act.put, List.setIfInBounds_toArray, List.set_cons_zero, List.set_cons_succ, List.getElem_toArray, List.getElem_cons_zero, List.getElem_cons_succ]
                refine wpAnyH_ready (rs := [45]) (by kernel_rfl) (by simp) ?_
                refine AllReadyH.cons rfl (fun K hK => ?_) AllReadyH.nil
                go_simp
                refine (HW.out _ hHeld.2.2.2.2.2).mono ?_
                rintro e w7 ⟨rfl, hb7⟩
                have hb8 := Below.trans hHeld.2.2.2.2.2 (hb7.mono (Below.size hHeld.2.2.2.2.2))
                try go_wp2_with fail
                refine hK.out _ _ (HKEEP.out _ hb8) (fun hHeld => ?_)
                clear hK K
                try simp only [Act.put, List.setIfInBounds_toArray, List.set_cons_zero, List.set_cons_succ, List.getElem_toArray, List.getElem_cons_zero, List.getElem_cons_succ]
                refine wpAnyH_take (i := 46) (v := .bool false) rfl (by kernel_rfl) (by kernel_rfl) (by kernel_rfl) (fun _ _ _ h => h) (Or.inl ⟨by rfl, ?hya46⟩) (by assumption) ?resta46
                case hya46 => (intro w hSw; (try dsimp only at hSw); go_split_ands; go_simp; first | done | omega | simp)
                try simp only [Act.put, List.setIfInBounds_toArray, List.set_cons_zero, List.set_cons_succ, List.getElem_toArray, List.getElem_cons_zero, List.getElem_cons_succ]
                refine wpAnyH_take (i := 47) (v := ?_) rfl (by kernel_rfl) (by kernel_rfl) (by kernel_rfl) (fun _ _ _ h => h) (Or.inl ⟨by rfl, ?hya47⟩) (by assumption) ?resta47
                case hya47 => (intro w hSw; (try dsimp only at hSw); go_split_ands; go_simp; try with_reducible rfl)
                try simp only [Act.put, List.setIfInBounds_toArray, List.set_cons_zero, List.set_cons_succ, List.getElem_toArray, List.getElem_cons_zero, List.getElem_cons_succ]
                refine wpAnyH_done (by kernel_rfl) ?_ _
                have hend6 := hHeld.2.2.2.2.2
                have hk1 := hHeld.1
                have hk2 := hHeld.2.1
                go_wp2_with fail
                refine (HW.out _ hend6).mono ?_
                rintro e w8 ⟨rfl, hb9⟩
                have HB8 : Hid (Below w3.heap.size w3 w8) := hide (HB6.out.trans ((hend6.trans (hb9.mono hend6.size)).mono HB6.out.size))
                clear hb9 hend6 hHeld
                go_wp2_with fail
                exact ⟨⟨j + 1, by omega, by go_num, by rw [HNEXT.out], HB8⟩, by simp [intOf]; omega⟩
              · have hjn : j = ks.length := by omega
                have hsum : posTotal m c2 = ((ks.take j).map fun k => sum3 (posGet m k)).sum := by rw [HS2.out.total, hjn, List.take_length]
                have ht := HT.out _ (HA3.out.step hb.out)
                rw [hsum] at ht
                have HBW := hide (HA3.out.step hb.out)
                clear hsum
                generalize ((ks.take j).map fun k => sum3 (posGet m k)).sum = N at *
                go_wp2_with fail
                refine ht.mono ?_
                rintro e w5 ⟨rfl, hb5⟩
                have HA5 := hide (HBW.out.step hb5)
                clear hb5 ht
                go_wp2_with fail
                exact ⟨⟨i + 1, by omega, by go_num, HA5⟩, by simp [intOf]; omega⟩
          · go_wp2_with (go_at_call 15; refine (alive_calls _).mono ?_; rintro e w2 ⟨rfl, hb2⟩; have HB2 := hide (hrel.out.step hb2).below; clear hb2)
            go_ret
            exact ⟨rfl, HB2.out⟩
end Go.Proofs.Ytmhmjbggjbeikaa
