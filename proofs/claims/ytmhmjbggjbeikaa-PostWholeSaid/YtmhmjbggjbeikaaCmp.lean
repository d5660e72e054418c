/- Comparing: strings, numbers, cmp.Or, the order of keys. -/
import Derived.Test.YtmhmjbggjbeikaaPos1
import Derived.Deep.QuietTactic
import Derived.BigQuiet
import Derived.Deep.RegionWith
import Derived.Test.YtmhmjbggjbeikaaStill
namespace Go.Proofs.Ytmhmjbggjbeikaa
open Go.RowKit

/-- Which of two texts stands ahead: -1, 0, 1. -/
def cmpS (a b : ByteArray) : Int := if Op.bytesLess a.toList b.toList = true then -1 else if a = b then 0 else 1
def cmpI (a b : Int) : Int := if a < b then -1 else if b < a then 1 else 0
def firstOf : List Int → Int
  | [] => 0
  | x :: r => if x = 0 then firstOf r else x
def cmpKey (x y : Key) : Int := firstOf [cmpS x.1 y.1, cmpS x.2 y.2]

theorem ret_i {k : IntKind} {a b : Int} (h : a = b) : Ending.returned (.int k a) = .returned (.int k b) := by rw [h]

set_option maxHeartbeats 400000 in
theorem isNaN_str (a : ByteArray) (w : World) : Calls Try.prog 87 #[.string a] w fun e w' => e = .returned (.bool false) ∧ w = w' := by
  go_enter Try.func87, Try.ntmps87
  go_wp2
  go_ret
  exact ⟨by simp, rfl⟩
set_option maxHeartbeats 400000 in
theorem compare_str (a b : ByteArray) (w : World) : Calls Try.prog 75 #[.string a, .string b] w fun e w' => e = .returned (.int .i64 (cmpS a b)) ∧ w = w' := by
  go_enter Try.func75, Try.ntmps75
  go_wp2_with (go_at_call 87; refine (isNaN_str _ _).mono ?_; rintro e w' ⟨rfl, rfl⟩)
  · have h : Op.bytesLess a.toList b.toList = true := by assumption
    go_ret
    exact ⟨ret_i (by simp [cmpS, h]), rfl⟩
  · have h : Op.bytesLess a.toList b.toList = false := by assumption
    have h2 : (!a.toList == b.toList) = true := by assumption
    have h3 : a ≠ b := fun e => by subst e; simp at h2
    go_ret
    exact ⟨ret_i (by simp [cmpS, h, h3]), rfl⟩
  · have h : Op.bytesLess a.toList b.toList = false := by assumption
    have h2 : (!a.toList == b.toList) = false := by assumption
    have h3 : a = b := toList_inj.1 (by simpa using h2)
    go_ret
    exact ⟨ret_i (by subst h3; simp [cmpS, h]), rfl⟩
set_option maxHeartbeats 400000 in
theorem isNaN_int (a : Int) (w : World) : Calls Try.prog 89 #[.int .i64 a] w fun e w' => e = .returned (.bool false) ∧ w = w' := by
  go_enter Try.func89, Try.ntmps89
  go_wp2
  go_ret
  exact ⟨by simp, rfl⟩
set_option maxHeartbeats 400000 in
theorem compare_int (a b : Int) (w : World) : Calls Try.prog 80 #[.int .i64 a, .int .i64 b] w fun e w' => e = .returned (.int .i64 (cmpI a b)) ∧ w = w' := by
  by_cases h1 : a < b
  · go_enter Try.func80, Try.ntmps80
    go_wp2_with (go_at_call 89; refine (isNaN_int _ _).mono ?_; rintro e w' ⟨rfl, rfl⟩)
    go_ret
    exact ⟨ret_i (by simp [cmpI, h1]), rfl⟩
  · by_cases h2 : b < a
    · go_enter Try.func80, Try.ntmps80
      go_wp2_with (go_at_call 89; refine (isNaN_int _ _).mono ?_; rintro e w' ⟨rfl, rfl⟩)
      go_ret
      exact ⟨ret_i (by unfold cmpI; rw [if_neg (by omega), if_pos h2]), rfl⟩
    · go_enter Try.func80, Try.ntmps80
      go_wp2_with (go_at_call 89; refine (isNaN_int _ _).mono ?_; rintro e w' ⟨rfl, rfl⟩)
      go_ret
      exact ⟨ret_i (by unfold cmpI; rw [if_neg (by omega), if_neg (by omega)]), rfl⟩
set_option maxHeartbeats 400000 in
theorem nameCompare (a b : ByteArray) (w : World) : Calls Try.prog 53 #[.string a, .string b] w fun e w' => e = .returned (.int .i64 (cmpS a b)) ∧ w = w' := by
  go_enter Try.func53, Try.ntmps53
  go_wp2_with (go_at_call 75; refine (compare_str _ _ _).mono ?_; rintro e w' ⟨rfl, rfl⟩)
  go_ret
  exact ⟨rfl, rfl⟩

theorem firstOf_drop {xs : List Int} {k : Nat} (h : k < xs.length) : firstOf (xs.drop k) = if xs.getD k 0 = 0 then firstOf (xs.drop (k + 1)) else xs.getD k 0 := by
  rw [List.drop_eq_getElem_cons h, firstOf]
  simp [List.getD_eq_getElem?_getD, List.getElem?_eq_getElem h]

set_option maxHeartbeats 1000000 in
theorem cmpOr (g n c : Nat) (xs : List Int) (w : World) (hn : xs.length = n) (hm : n ≤ 1000) (hc : ∀ i, i < n → w.cell? ⟨g, i, none⟩ = some (.int .i64 (xs.getD i 0))) :
    Calls Try.prog 52 #[.slice (some ⟨g, 0, none⟩) n c] w fun e w' => e = .returned (.int .i64 (firstOf xs)) ∧ w = w' := by
  have HC := hide hc
  have HF : ∀ k, k < n → Hid (firstOf (xs.drop k) = if xs.getD k 0 = 0 then firstOf (xs.drop (k + 1)) else xs.getD k 0) := fun k hk => firstOf_drop (by omega)
  have HN := hide hn
  have HF2 := hide HF
  clear hc hn HF
  go_enter Try.func52, Try.ntmps52
  go_wp2
  go_loop [5, 8] (fun _ i => ∃ k : Nat, k ≤ n ∧ i = .int .i64 k ∧ Hid (firstOf xs = firstOf (xs.drop k))) (fun _ i => n - (intOf i).toNat)
  case atStart => exact ⟨0, Nat.zero_le _, rfl, rfl⟩
  case round =>
    obtain ⟨k, hk, rfl, hf⟩ := hrel
    by_cases hlt : k < n
    · have hcell := HC.out k hlt
      have H1 := HF2.out k hlt
      by_cases h0 : xs.getD k 0 = 0
      · have h0' : (xs.getD k 0 != 0) = false := by rw [h0]; rfl
        have h1 := H1.out
        rw [if_pos h0] at h1
        have H2 : Hid (firstOf xs = firstOf (xs.drop (k + 1))) := hf.out.trans h1
        clear h0 h1 H1 hf
        generalize xs.getD k 0 = v at hcell h0'
        go_wp2
        go_round
        case rel => exact ⟨k + 1, by omega, by go_num, H2⟩
        case measure => simp [intOf]; omega
      · have h0' : (xs.getD k 0 != 0) = true := bne_iff_ne.2 h0
        have h1 := H1.out
        rw [if_neg h0] at h1
        have H2 : Hid (firstOf xs = xs.getD k 0) := hf.out.trans h1
        clear h0 h1 H1 hf
        generalize xs.getD k 0 = v at hcell h0' H2
        go_wp2
        go_ret
        exact ⟨ret_i H2.out.symm, rfl⟩
    · have H2 : Hid (firstOf xs = 0) := by
        have h := hf.out
        rw [List.drop_eq_nil_of_le (by have := HN.out; omega)] at h
        exact h
      clear hf
      go_wp2
      go_ret
      exact ⟨ret_i H2.out.symm, rfl⟩

theorem cmpOr2 (g c : Nat) (x y : Int) (w : World) (h0 : w.cell? ⟨g, 0, none⟩ = some (.int .i64 x)) (h1 : w.cell? ⟨g, 1, none⟩ = some (.int .i64 y)) :
    Calls Try.prog 52 #[.slice (some ⟨g, 0, none⟩) 2 c] w fun e w' => e = .returned (.int .i64 (firstOf [x, y])) ∧ w = w' :=
  cmpOr g 2 c [x, y] w rfl (by decide) (fun i hi => by
    have : i = 0 ∨ i = 1 := by omega
    rcases this with rfl | rfl
    · exact h0
    · exact h1)

set_option maxHeartbeats 1000000 in
set_option maxRecDepth 100000 in
theorem before_calls (x y : Key) (w : World) : Calls Try.prog 39 #[ekey x, ekey y] w fun e w' =>
    e = .returned (.int .i64 (cmpKey x y)) ∧ ∃ o1 o2 o3, w' = (((w.alloc o1).alloc o2).alloc o3).drew := by
  obtain ⟨x1, x2⟩ := x
  obtain ⟨y1, y2⟩ := y
  unfold cmpKey ekey
  have h1 := fun W => nameCompare x1 y1 W
  have h2 := fun W => nameCompare x2 y2 W
  simp only
  generalize cmpS x1 y1 = a at h1 ⊢
  generalize cmpS x2 y2 = b at h2 ⊢
  have H1 := hide h1
  have H2 := hide h2
  clear h1 h2
  go_enter Try.func39, Try.ntmps39
  go_wp2_with fail
  refine region_still_tail 10 (by kernel_rfl) (by kernel_rfl) (fun KT hKT => ?_)
  simp only [List.take_succ_cons, List.take_zero, List.drop_succ_cons, List.drop_zero] at hKT ⊢
  iterate 4 still_step
  still_call ((H1.out _).mono fun e w' ⟨he, hw⟩ => ⟨he, hw.symm⟩)
  iterate 4 still_step
  still_call ((H2.out _).mono fun e w' ⟨he, hw⟩ => ⟨he, hw.symm⟩)
  refine wpStill_nil (hKT _ ?_)
  clear hKT KT
  go_wp2_with (go_at_call 52; refine (cmpOr2 _ _ a b _ (by go_simp) (by go_simp)).mono ?_; rintro e w' ⟨rfl, rfl⟩)
  go_ret
  exact ⟨rfl, _, _, _, rfl⟩

end Go.Proofs.Ytmhmjbggjbeikaa
