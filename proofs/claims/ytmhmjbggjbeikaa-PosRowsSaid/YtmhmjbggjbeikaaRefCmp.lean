/- The document's own compare of texts and order of keys: they answer as the program's. -/
import Derived.Test.YtmhmjbggjbeikaaOrd
namespace Go.Proofs.Ytmhmjbggjbeikaa
open Go.RowKit

/-! ### plain -/
theorem lt_behind {x y : List UInt8} (h : x < y) : ∀ p : List UInt8, p ++ x < p ++ y
  | [] => h
  | a :: p => List.cons_lt_cons_iff.2 (.inr ⟨rfl, lt_behind h p⟩)
theorem bytes_len (a : ByteArray) : a.toList.length = a.size := by rw [ByteArray.toList_eq]; simp
theorem bytes_get (a : ByteArray) (k : Nat) (h : k < a.size) : a.toList[k]'(by rw [bytes_len]; exact h) = a[k] := by
  simp only [ByteArray.toList_eq, Array.getElem_toList]
  rfl
/-- The two agree up to k. -/
def sameTo (a b : ByteArray) (k : Nat) : Prop := a.toList.take k = b.toList.take k
theorem cut_at (a : ByteArray) (k : Nat) (h : k < a.size) : a.toList = a.toList.take k ++ a[k] :: a.toList.drop (k + 1) := by
  conv => lhs; rw [← List.take_append_drop k a.toList]
  rw [List.drop_eq_getElem_cons (by rw [bytes_len]; exact h), bytes_get a k h]
theorem lt_at {a b : ByteArray} {k : Nat} (hs : sameTo a b k) (ha : k < a.size) (hb : k < b.size) (h : a[k].toNat < b[k].toNat) : a.toList < b.toList := by
  rw [cut_at a k ha, cut_at b k hb, hs]
  exact lt_behind (List.cons_lt_cons_iff.2 (.inl (UInt8.lt_iff_toNat_lt.2 h))) _
theorem sameTo_next {a b : ByteArray} {k : Nat} (hs : sameTo a b k) (ha : k < a.size) (hb : k < b.size) (h1 : ¬ a[k].toNat < b[k].toNat) (h2 : ¬ b[k].toNat < a[k].toNat) : sameTo a b (k + 1) := by
  unfold sameTo at *
  rw [List.take_succ_eq_append_getElem (by rw [bytes_len]; exact ha), List.take_succ_eq_append_getElem (by rw [bytes_len]; exact hb), hs, bytes_get a k ha, bytes_get b k hb]
  rw [UInt8.toNat_inj.1 (show a[k].toNat = b[k].toNat by omega)]
theorem cmpS_of_lt {a b : ByteArray} (h : a.toList < b.toList) : cmpS a b = -1 := by unfold cmpS; rw [Proofs.bytesLess_eq]; simp [h]
theorem cmpS_of_gt {a b : ByteArray} (h : b.toList < a.toList) : cmpS a b = 1 := by
  unfold cmpS; rw [Proofs.bytesLess_eq]
  have h1 : ¬ a.toList < b.toList := List.lt_asymm h
  have h2 : a ≠ b := fun e => by subst e; exact List.lt_irrefl _ h
  simp [h1, h2]
theorem lt_short {a b : ByteArray} {k : Nat} (hs : sameTo a b k) (ha : a.size ≤ k) (h : a.size < b.size) : a.toList < b.toList := by
  have e1 : a.toList.take k = a.toList := List.take_of_length_le (by rw [bytes_len]; exact ha)
  have e2 : a.toList = b.toList.take a.size := by
    have := congrArg (List.take a.size) (e1.symm.trans hs)
    rw [List.take_take, Nat.min_eq_left ha] at this
    rw [← this]
    exact (List.take_of_length_le (by rw [bytes_len]; exact Nat.le_refl _)).symm
  have e3 := cut_at b a.size h
  rw [← e2] at e3
  rw [e3]
  have := lt_behind (show ([] : List UInt8) < b[a.size] :: b.toList.drop (a.size + 1) from List.nil_lt_cons _ _) a.toList
  rwa [List.append_nil] at this
theorem eq_whole {a b : ByteArray} {k : Nat} (hs : sameTo a b k) (ha : a.size ≤ k) (hb : b.size ≤ k) : cmpS a b = 0 := by
  unfold sameTo at hs
  rw [List.take_of_length_le (by rw [bytes_len]; exact ha), List.take_of_length_le (by rw [bytes_len]; exact hb)] at hs
  exact (cmpS_cmp.zero a b).2 (toList_inj.1 hs)

/-! ### the walks -/
def CmpPost (a b : ByteArray) (w : World) (e : Ending) (w' : World) : Prop := e = .returned (.int .i64 (cmpS a b)) ∧ Below w.heap.size w w'

set_option maxHeartbeats 1000000 in
theorem refCompare_calls (a b : ByteArray) (w : World) (hma : a.size ≤ maxLen) (hmb : b.size ≤ maxLen) : Calls Try.prog 40 #[.string a, .string b] w (CmpPost a b w) := by
  have ma : a.size ≤ 9223372036854775807 := by unfold maxLen at hma; omega
  have mb : b.size ≤ 9223372036854775807 := by unfold maxLen at hmb; omega
  clear hma hmb
  go_enter Try.func40, Try.ntmps40
  go_wp2_with fail
  go_loopw [5] (fun i wr => ∃ k : Nat, k ≤ a.size ∧ k ≤ b.size ∧ i = .int .i64 k ∧ Hid (sameTo a b k) ∧ Hid (Below w.heap.size w wr)) (fun i _ => a.size - (intOf i).toNat)
  case atStart => exact ⟨0, by omega, by omega, rfl, hide (by simp [sameTo]), hide (Below.refl _ _)⟩
  case round =>
    obtain ⟨k, hka, hkb, rfl, hs, hb⟩ := hrel
    by_cases h1 : k < a.size
    · by_cases h2 : k < b.size
      · by_cases h3 : a[k].toNat < b[k].toNat
        · have hr := hide (cmpS_of_lt (lt_at hs.out h1 h2 h3))
          clear hs
          have h3' : ((a[k].toNat : Nat) : Int) < (b[k].toNat : Int) := by omega
          go_wp2_with fail
          go_region
          all_goals go_wp2
          go_ret
          exact ⟨ret_i hr.out.symm, hb.out.drew⟩
        · by_cases h4 : b[k].toNat < a[k].toNat
          · have hr := hide (cmpS_of_gt (lt_at (show sameTo b a k from hs.out.symm) h2 h1 h4))
            clear hs
            have h3' : ¬ ((a[k].toNat : Nat) : Int) < (b[k].toNat : Int) := by omega
            have h4' : ((b[k].toNat : Nat) : Int) < (a[k].toNat : Int) := by omega
            go_wp2_with fail
            go_region
            all_goals go_wp2_with fail
            go_region
            all_goals go_wp2
            go_ret
            exact ⟨ret_i hr.out.symm, hb.out.drew.drew⟩
          · have hr := hide (sameTo_next hs.out h1 h2 h3 h4)
            clear hs
            have h3' : ¬ ((a[k].toNat : Nat) : Int) < (b[k].toNat : Int) := by omega
            have h4' : ¬ ((b[k].toNat : Nat) : Int) < (a[k].toNat : Int) := by omega
            go_wp2_with fail
            go_region
            all_goals go_wp2_with fail
            go_region
            all_goals go_wp2
            exact ⟨⟨k + 1, by omega, by omega, by go_num, hr, hide hb.out.drew.drew⟩, by simp [intOf]; omega⟩
      · have hr := hide (cmpS_of_gt (lt_short (show sameTo b a k from hs.out.symm) (by omega) (show b.size < a.size by omega)))
        clear hs
        have h5 : ¬ a.size < b.size := by omega
        have h6 : b.size < a.size := by omega
        go_wp2
        go_ret
        exact ⟨ret_i hr.out.symm, hb.out⟩
    · by_cases h2 : a.size < b.size
      · have hr := hide (cmpS_of_lt (lt_short hs.out (by omega) h2))
        clear hs
        go_wp2
        go_ret
        exact ⟨ret_i hr.out.symm, hb.out⟩
      · have hr := hide (eq_whole hs.out (by omega) (show b.size ≤ k by omega))
        clear hs
        have h5 : ¬ b.size < a.size := by omega
        go_wp2
        go_ret
        exact ⟨ret_i hr.out.symm, hb.out⟩

/-- Before: whether the one key stands ahead of the other. -/
theorem refBefore_calls (x1 x2 y1 y2 : ByteArray) (w : World) (h1 : x1.size ≤ maxLen) (h2 : x2.size ≤ maxLen) (h3 : y1.size ≤ maxLen) (h4 : y2.size ≤ maxLen) :
    Calls Try.prog 20 #[.agg #[.string x1, .string x2], .agg #[.string y1, .string y2]] w fun e w' => e = .returned (.bool (decide (cmpKey (x1, x2) (y1, y2) < 0))) ∧ Below w.heap.size w w' := by
  have hA : ∀ W : World, Calls Try.prog 40 #[.string x1, .string y1] W fun e w' => e = .returned (.int .i64 (cmpS x1 y1)) ∧ Below W.heap.size W w' := fun W => refCompare_calls x1 y1 W h1 h3
  have hB : ∀ W : World, Calls Try.prog 40 #[.string x2, .string y2] W fun e w' => e = .returned (.int .i64 (cmpS x2 y2)) ∧ Below W.heap.size W w' := fun W => refCompare_calls x2 y2 W h2 h4
  clear h1 h2 h3 h4
  have hk : cmpKey (x1, x2) (y1, y2) = if cmpS x1 y1 = 0 then (if cmpS x2 y2 = 0 then 0 else cmpS x2 y2) else cmpS x1 y1 := rfl
  rw [hk]
  clear hk
  generalize cmpS x1 y1 = c1 at *
  generalize cmpS x2 y2 = c2 at *
  have HA := hide hA
  have HB := hide hB
  clear hA hB
  by_cases h1 : c1 < 0
  · have hr : decide ((if c1 = 0 then (if c2 = 0 then 0 else c2) else c1) < 0) = true := by rw [if_neg (by omega)]; simpa using h1
    rw [hr]
    clear hr
    go_enter Try.func20, Try.ntmps20
    go_wp2_with (go_at_call 40; first | (refine (HA.out _).mono ?_; rintro e w1 ⟨rfl, hb1⟩; have HB1 := hide (((Below.refl w.heap.size w).alloc (Nat.le_refl _) _).alloc (by simp) _ |>.trans (hb1.mono (by simp; omega))); clear hb1))
    go_ret
    exact ⟨rfl, HB1.out⟩
  · by_cases h2 : c1 = 0
    · subst h2
      have hr : (if (0 : Int) = 0 then (if c2 = 0 then 0 else c2) else 0) = c2 := by simp only [if_true]; split <;> omega
      rw [hr]
      clear hr
      go_enter Try.func20, Try.ntmps20
      go_wp2_with fail
      refine (HA.out _).mono ?_
      rintro e w1 ⟨rfl, hb1⟩
      have hc1 : w1.cell? ⟨w.heap.size, 1, none⟩ = some (.string x2) := (hb1.cell (p := ⟨w.heap.size, 1, none⟩) (by simp; omega)).trans (by simp)
      have hc2 : w1.cell? ⟨w.heap.size + 1, 1, none⟩ = some (.string y2) := (hb1.cell (p := ⟨w.heap.size + 1, 1, none⟩) (by simp)).trans (by simp)
      have HB1 := hide (((Below.refl w.heap.size w).alloc (Nat.le_refl _) _).alloc (by simp) _ |>.trans (hb1.mono (by simp; omega)))
      clear hb1
      go_wp2_with fail
      refine (HB.out _).mono ?_
      rintro e w2 ⟨rfl, hb2⟩
      have HB2 := hide (HB1.out.trans (hb2.mono HB1.out.size))
      clear hb2
      by_cases h3 : c2 < 0
      · go_wp2
        go_ret
        exact ⟨by simp [h3], HB2.out⟩
      · go_wp2
        go_ret
        exact ⟨by simp [h3], HB2.out⟩
    · have hr : decide ((if c1 = 0 then (if c2 = 0 then 0 else c2) else c1) < 0) = false := by rw [if_neg h2]; simpa using h1
      rw [hr]
      clear hr
      go_enter Try.func20, Try.ntmps20
      go_wp2_with (go_at_call 40; first | (refine (HA.out _).mono ?_; rintro e w1 ⟨rfl, hb1⟩; have HB1 := hide (((Below.refl w.heap.size w).alloc (Nat.le_refl _) _).alloc (by simp) _ |>.trans (hb1.mono (by simp; omega))); clear hb1))
      go_ret
      exact ⟨by simp [h1], HB1.out⟩
end Go.Proofs.Ytmhmjbggjbeikaa
