/- (*money.Acc).Add. -/
import Derived.Test.YtmhmjbggjbeikaaCmp
namespace Go.Proofs.Ytmhmjbggjbeikaa
set_option linter.unusedSimpArgs false
set_option linter.unusedVariables false
open Go.RowKit

/-- A number of 64 bits, not signed. -/
def isU64 (x : Int) : Prop := 0 ≤ x ∧ x < 18446744073709551616
def carrySum (x y c : Int) : Int := (x + y + c) % 18446744073709551616
def carryOut (x y c : Int) : Int := (x + y + c) / 18446744073709551616

theorem add64_run (x y c : Int) (hx : isU64 x) (hy : isU64 y) (hc : c = 0 ∨ c = 1) (W : World) :
    (callFunc 54 #[.int .u64 x, .int .u64 y, .int .u64 c]).run Try.prog W = .ok (.value (.tuple #[.int .u64 (carrySum x y c), .int .u64 (carryOut x y c)])) W := by
  rw [run_callFunc_extern Try.func54 (by kernel_rfl) (by kernel_rfl) (by kernel_rfl) (e := add64Entry) (by kernel_rfl), run_add64 x y c hx.1 hy.1 (by omega) (by omega)]
  rfl
def sgnOf (v : Int) : Int := if v < 0 then -1 else 0
def u64Of (v : Int) : Int := v % 18446744073709551616
theorem shr63_run (v : Int) (h1 : -9223372036854775808 ≤ v) (h2 : v ≤ 9223372036854775807) : Op.shift .shr .i64 v .u64 63 = pure (.int .i64 (sgnOf v)) := by
  unfold sgnOf Op.shift
  rw [if_neg (by omega)]
  simp only [IntKind.bits]
  have : v.fdiv (2 ^ min (63 : Int).toNat 64) = if v < 0 then -1 else 0 := by
    show v.fdiv 9223372036854775808 = _
    rw [Int.fdiv_eq_ediv_of_nonneg _ (by omega)]
    split <;> omega
  rw [this]
def i64Of (v : Int) : Int := if v < 9223372036854775808 then v else v - 18446744073709551616
def top63 (v : Int) : Int := v / 9223372036854775808
theorem shr63u_run (v : Int) : Op.shift .shr .u64 v .u64 63 = pure (.int .u64 (top63 v)) := by
  unfold top63 Op.shift
  rw [if_neg (by omega)]
  simp only [IntKind.bits]
  have : v.fdiv (2 ^ min (63 : Int).toNat 64) = v / 9223372036854775808 := by
    show v.fdiv 9223372036854775808 = _
    rw [Int.fdiv_eq_ediv_of_nonneg _ (by omega)]
  rw [this]
theorem convU64_run (v : Int) (W : World) : (convert 3 106 (.int .i64 v)).run Try.prog W = .ok (.int .u64 (u64Of v)) W := by
  have h1 : (convert 3 106 (.int .i64 v)).run Try.prog W = .ok (.int .u64 (IntKind.u64.wrap v)) W := by
    simp [convert, Conv.intToInt, run_underlying Try.underlying3, run_underlying Try.underlying106]
  rw [h1]
  simp [IntKind.wrap, IntKind.bits, IntKind.signed, u64Of]
theorem convI64_run (v : Int) (hv : isU64 v) (W : World) : (convert 106 3 (.int .u64 v)).run Try.prog W = .ok (.int .i64 (i64Of v)) W := by
  have h1 : (convert 106 3 (.int .u64 v)).run Try.prog W = .ok (.int .i64 (IntKind.i64.wrap v)) W := by
    simp [convert, Conv.intToInt, run_underlying Try.underlying3, run_underlying Try.underlying106]
  rw [h1]
  have h2 : IntKind.i64.wrap v = i64Of v := by
    rw [IntKind.wrap_i64]
    unfold isU64 at hv
    unfold i64Of
    split <;> omega
  rw [h2]

/-! ### the words of a sum -/
def hiLo (h l t : Int) : Prop := isU64 h ∧ isU64 l ∧ h * 18446744073709551616 + l = t % 340282366920938463463374607431768211456
def isI64 (v : Int) : Prop := -9223372036854775808 ≤ v ∧ v ≤ 9223372036854775807
theorem u64Of_is (v : Int) : isU64 (u64Of v) := by unfold isU64 u64Of; omega
theorem carryOut_bit {x y : Int} (hx : isU64 x) (hy : isU64 y) : carryOut x y 0 = 0 ∨ carryOut x y 0 = 1 := by unfold isU64 at hx hy; unfold carryOut; omega
theorem hiLo_step {h l t v : Int} (H : hiLo h l t) (hv : isI64 v) : hiLo (carrySum h (u64Of (sgnOf v)) (carryOut l (u64Of v) 0)) (carrySum l (u64Of v) 0) (t + v) := by
  obtain ⟨⟨h1, h2⟩, ⟨h3, h4⟩, h5⟩ := H
  obtain ⟨v1, v2⟩ := hv
  unfold hiLo isU64 carrySum carryOut
  by_cases hneg : v < 0
  · have e1 : u64Of v = v + 18446744073709551616 := by unfold u64Of; omega
    have e2 : u64Of (sgnOf v) = 18446744073709551615 := by unfold sgnOf u64Of; rw [if_pos hneg]; omega
    rw [e1, e2]
    refine ⟨by omega, by omega, ?_⟩
    omega
  · have e1 : u64Of v = v := by unfold u64Of; omega
    have e2 : u64Of (sgnOf v) = 0 := by unfold sgnOf u64Of; rw [if_neg hneg]; omega
    rw [e1, e2]
    refine ⟨by omega, by omega, ?_⟩
    omega
/-- Does the sum lie within money's ends? -/
def fits (t : Int) : Prop := -1152921504606846976 ≤ t ∧ t ≤ 1152921504606846976
instance (t : Int) : Decidable (fits t) := by unfold fits; infer_instance
def small (t : Int) : Prop := -85070591730234615865843651857942052864 < t ∧ t < 85070591730234615865843651857942052864
theorem hiLo_fits {h l t : Int} (H : hiLo h l t) (hs : small t) : fits t ↔ h = u64Of (sgnOf (i64Of l)) ∧ -1152921504606846976 ≤ i64Of l ∧ i64Of l ≤ 1152921504606846976 := by
  obtain ⟨⟨h1, h2⟩, ⟨h3, h4⟩, h5⟩ := H
  obtain ⟨s1, s2⟩ := hs
  have e : u64Of (sgnOf (i64Of l)) = if l < 9223372036854775808 then 0 else 18446744073709551615 := by
    unfold u64Of sgnOf i64Of
    by_cases hl : l < 9223372036854775808
    · rw [if_pos hl, if_pos hl, if_neg (by omega)]; omega
    · rw [if_neg hl, if_neg hl, if_pos (by omega)]; omega
  rw [e]
  unfold fits i64Of
  by_cases hl : l < 9223372036854775808
  · simp only [if_pos hl]; omega
  · simp only [if_neg hl]; omega
theorem hiLo_value {h l t : Int} (H : hiLo h l t) (hs : small t) (hf : fits t) : i64Of l = t := by
  obtain ⟨⟨h1, h2⟩, ⟨h3, h4⟩, h5⟩ := H
  unfold fits at hf
  unfold i64Of
  split <;> omega
theorem hiLo_below {h l t : Int} (H : hiLo h l t) (hs : small t) : (top63 h == 1) = decide (t < 0) := by
  obtain ⟨⟨h1, h2⟩, ⟨h3, h4⟩, h5⟩ := H
  obtain ⟨s1, s2⟩ := hs
  have h6 : top63 h = 1 ↔ t < 0 := by unfold top63; omega
  by_cases hneg : t < 0
  · rw [h6.2 hneg]; simp [hneg]
  · have : top63 h ≠ 1 := fun e => hneg (h6.1 e)
    simp [hneg, this]
theorem sum_small (xs : List Int) (h : ∀ x ∈ xs, isI64 x) : -9223372036854775808 * xs.length ≤ xs.sum ∧ xs.sum ≤ 9223372036854775808 * xs.length := by
  induction xs with
  | nil => simp
  | cons x r ih =>
    have h1 := ih (fun y hy => h y (List.mem_cons_of_mem _ hy))
    have h2 := h x List.mem_cons_self
    unfold isI64 at h2
    simp only [List.sum_cons, List.length_cons]
    omega

/-- A sum within money's ends, and whether it lay beyond one. -/
def accAdd (xs : List Int) : Int := if fits xs.sum then xs.sum else if xs.sum < 0 then -1152921504606846976 else 1152921504606846976

def accWorld (w : World) (ap : Nat) (xs : List Int) : World := if fits xs.sum then w else w.setCell ⟨ap, 0, none⟩ (.bool true)
/-- The slice at A holds the numbers xs. -/
def IntsAt (w : World) (B : Nat) (A : Option Addr) (xs : List Int) : Prop :=
  0 < xs.length → ∃ g off, A = some ⟨g, off, none⟩ ∧ g < B ∧ ∀ i, i < xs.length → w.cell? ⟨g, off + i, none⟩ = some (.int .i64 (xs.getD i 0))

def overV (b : Bool) : Int := if b = true then -1152921504606846976 else 1152921504606846976
set_option maxHeartbeats 400000 in
theorem over_calls (ap : Nat) (b o : Bool) (w : World) (hc : w.cell? ⟨ap, 0, none⟩ = some (.bool o)) (hf : w.frozen? ⟨ap, 0, none⟩ = false) :
    Calls Try.prog 55 #[.pointer (some ⟨ap, 0, none⟩), .bool b] w fun e w' => e = .returned (.int .i64 (overV b)) ∧ w' = w.setCell ⟨ap, 0, none⟩ (.bool true) := by
  cases b
  all_goals
    go_enter Try.func55, Try.ntmps55
    go_wp2
    go_ret
    exact ⟨rfl, rfl⟩

theorem sum_take_succ (xs : List Int) (k : Nat) (h : k < xs.length) : (xs.take (k + 1)).sum = (xs.take k).sum + xs.getD k 0 := by
  rw [List.take_succ_eq_append_getElem h, List.sum_append]
  simp [List.getD_eq_getElem?_getD, List.getElem?_eq_getElem h]
theorem getD_mem {xs : List Int} {k : Nat} (h : k < xs.length) : xs.getD k 0 ∈ xs := by
  rw [List.getD_eq_getElem?_getD, List.getElem?_eq_getElem h]
  exact List.getElem_mem h

set_option maxHeartbeats 1000000 in
/-- (*money.Acc).Add. -/
theorem accAdd_calls (ap : Nat) (A : Option Addr) (c B : Nat) (o : Bool) (xs : List Int) (w : World) (hca : w.cell? ⟨ap, 0, none⟩ = some (.bool o)) (hfa : w.frozen? ⟨ap, 0, none⟩ = false)
    (hi : IntsAt w B A xs) (hx : ∀ x ∈ xs, isI64 x) (hm : xs.length ≤ 1152921504606846976) :
    Calls Try.prog 41 #[.pointer (some ⟨ap, 0, none⟩), .slice A xs.length c] w fun e w' => e = .returned (.int .i64 (accAdd xs)) ∧ w' = accWorld w ap xs := by
  have HI := hide hi
  have HX := hide hx
  obtain ⟨n, HN⟩ : ∃ n, Hid (xs.length = n) := ⟨_, rfl⟩
  have HSM : Hid (small xs.sum) := by
    have h1 := sum_small xs hx
    show small _
    unfold small
    omega
  clear hi hx
  rw [HN.out] at hm ⊢
  go_enter Try.func41, Try.ntmps41
  go_wp2
  go_loop [5, 6, 15] (fun hi lo i => ∃ (k : Nat) (h l : Int), k ≤ n ∧ i = .int .i64 k ∧ hi = .int .u64 h ∧ lo = .int .u64 l ∧ Hid (hiLo h l (xs.take k).sum)) (fun _ _ i => n - (intOf i).toNat)
  case atStart => exact ⟨0, 0, 0, Nat.zero_le _, rfl, rfl, rfl, hide ⟨⟨by decide, by decide⟩, ⟨by decide, by decide⟩, by simp⟩⟩
  case round =>
    obtain ⟨k, h, l, hk, rfl, rfl, rfl, hhl⟩ := hrel
    by_cases hlt : k < n
    · have hlt' : k < xs.length := by rw [HN.out]; exact hlt
      obtain ⟨g, off, rfl, hg, hcell0⟩ := HI.out (by omega)
      have hcell := hcell0 k hlt'
      have hv := HX.out _ (getD_mem hlt')
      have hst := hiLo_step hhl.out hv
      rw [← sum_take_succ xs k hlt'] at hst
      clear hcell0 hg hlt'
      generalize xs.getD k 0 = v at hcell hv hst
      have HST := hide hst
      have hshr := shr63_run v hv.1 hv.2
      have hc1 := convU64_run v
      have hc2 := convU64_run (sgnOf v)
      have ha1 := add64_run l (u64Of v) 0 hhl.out.2.1 (u64Of_is v) (.inl rfl)
      have ha2 := add64_run h (u64Of (sgnOf v)) (carryOut l (u64Of v) 0) hhl.out.1 (u64Of_is _) (carryOut_bit hhl.out.2.1 (u64Of_is v))
      clear hv hst
      go_wp2
      go_round
      case rel => exact ⟨k + 1, _, _, by omega, by go_num, rfl, rfl, HST⟩
      case measure => simp [intOf]; omega
    · have hfull : xs.take k = xs := List.take_of_length_le (by rw [HN.out]; omega)
      have H0 := hhl.out
      rw [hfull] at H0
      have HS0 := HSM.out
      have hc3 := convI64_run l H0.2.1
      have hs1 := shr63u_run h
      have hbel := hiLo_below H0 HS0
      have hir : isI64 (i64Of l) := by
        have := H0.2.1
        unfold isU64 at this
        unfold isI64 i64Of
        split <;> omega
      have hs2 := shr63_run (i64Of l) hir.1 hir.2
      have hc4 := convU64_run (sgnOf (i64Of l))
      have hff := hiLo_fits H0 HS0
      by_cases hfit : fits xs.sum
      · have hval := hiLo_value H0 HS0 hfit
        have h3 := hff.1 hfit
        have hq : (h == u64Of (sgnOf (i64Of l))) = true := by rw [← h3.1]; simp
        have hq2 := h3.2.1
        have hq3 := h3.2.2
        have HV := hide hval
        have HF := hide hfit
        clear hval hfit hff h3 hir H0 HS0 hfull hhl
        generalize i64Of l = s at *
        go_wp2
        go_ret
        refine ⟨ret_i ?_, ?_⟩
        · unfold accAdd
          rw [if_pos HF.out]
          exact HV.out
        · unfold accWorld
          rw [if_pos HF.out]
      · have h3 : ¬ (h = u64Of (sgnOf (i64Of l)) ∧ -1152921504606846976 ≤ i64Of l ∧ i64Of l ≤ 1152921504606846976) := fun e => hfit (hff.2 e)
        have HF := hide hfit
        have HOV := hide (fun b => over_calls ap b o w hca hfa)
        have hend : ∀ b : Bool, b = decide (xs.sum < 0) → Ending.returned (.int .i64 (overV b)) = .returned (.int .i64 (accAdd xs)) ∧ w.setCell ⟨ap, 0, none⟩ (.bool true) = accWorld w ap xs := fun b hb => by
          refine ⟨ret_i ?_, ?_⟩
          · unfold accAdd
            rw [if_neg HF.out, hb]
            simp [overV]
          · unfold accWorld
            rw [if_neg HF.out]
        have HE := hide hend
        have HB := hide hbel
        clear hend hbel hff hir H0 HS0 hfull hhl hfit hca hfa
        generalize i64Of l = s at *
        generalize hqq : (h == u64Of (sgnOf s)) = q at *
        cases q with
        | false =>
          clear h3
          go_wp2_with (go_at_call 55; refine (HOV.out _).mono ?_; rintro e w' ⟨rfl, rfl⟩)
          go_ret
          exact HE.out _ HB.out
        | true =>
          have h4 : ¬ (-1152921504606846976 ≤ s ∧ s ≤ 1152921504606846976) := fun e => h3 ⟨by simpa using hqq, e⟩
          clear h3
          by_cases h5 : -1152921504606846976 ≤ s
          · have h6 : 1152921504606846976 < s := by omega
            clear h4
            go_wp2_with (go_at_call 55; refine (HOV.out _).mono ?_; rintro e w' ⟨rfl, rfl⟩)
            go_ret
            exact HE.out _ HB.out
          · have h6 : s < -1152921504606846976 := by omega
            clear h4 h5
            go_wp2_with (go_at_call 55; refine (HOV.out _).mono ?_; rintro e w' ⟨rfl, rfl⟩)
            go_ret
            exact HE.out _ HB.out
end Go.Proofs.Ytmhmjbggjbeikaa
