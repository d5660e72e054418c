/- Slices of strings that are read: slices.Index, slices.Contains. -/
import Derived.Test.YtmhmjbggjbeikaaOrd
namespace Go.Proofs.Ytmhmjbggjbeikaa
open Go.RowKit

/-- The slice at A, of as many elements as al has, holds the texts al; it lies below block B. -/
def StrsAt (w : World) (B : Nat) (A : Option Addr) (al : List ByteArray) : Prop :=
  0 < al.length → ∃ b off, A = some ⟨b, off, none⟩ ∧ b < B ∧ ∀ i, i < al.length → w.cell? ⟨b, off + i, none⟩ = some (.string (al.getD i ByteArray.empty))
theorem StrsAt.keep {w w' : World} {B B' : Nat} {A : Option Addr} {al : List ByteArray} (h : StrsAt w B A al) (hB : B ≤ B') (hk : ∀ p : Addr, p.block < B → w'.cell? p = w.cell? p) : StrsAt w' B' A al := fun hn => by
  obtain ⟨b, off, h1, h2, h3⟩ := h hn
  exact ⟨b, off, h1, by omega, fun i hi => (hk _ h2).trans (h3 i hi)⟩
theorem StrsAt.below {w w' : World} {B C : Nat} {A : Option Addr} {al : List ByteArray} (h : StrsAt w B A al) (hb : Below C w w') (hB : B ≤ C) : StrsAt w' B A al := h.keep (Nat.le_refl _) fun p hp => hb.cell (by omega)
theorem StrsAt.frm {w w' : World} {B : Nat} {S : Nat → Prop} {A : Option Addr} {al : List ByteArray} (h : StrsAt w B A al) (hf : Frm S w w') (hB : B ≤ w.heap.size) (hS : ∀ j, j < B → ¬ S j) : StrsAt w' B A al := h.keep (Nat.le_refl _) fun p hp => hf.cell (by omega) (hS _ hp)

theorem mem_of_getD {al : List ByteArray} {i : Nat} (h : i < al.length) : al.getD i ByteArray.empty ∈ al := by
  rw [List.getD_eq_getElem?_getD, List.getElem?_eq_getElem h]
  exact List.getElem_mem h
theorem not_mem_take {al : List ByteArray} {x : ByteArray} {k : Nat} (h : k < al.length) (h1 : x ∉ al.take k) (h2 : x ≠ al.getD k ByteArray.empty) : x ∉ al.take (k + 1) := by
  rw [List.take_succ_eq_append_getElem h, List.mem_append]
  rw [List.getD_eq_getElem?_getD, List.getElem?_eq_getElem h] at h2
  simpa [h1] using h2

def hasStr (al : List ByteArray) (x : ByteArray) : Bool := al.any fun y => decide (y = x)
theorem hasStr_iff {al : List ByteArray} {x : ByteArray} : hasStr al x = true ↔ x ∈ al := by
  unfold hasStr
  rw [List.any_eq_true]
  constructor
  · rintro ⟨y, h1, h2⟩
    rwa [← of_decide_eq_true h2]
  · exact fun h => ⟨x, h, by simp⟩

set_option maxHeartbeats 1000000 in
theorem index_str (A : Option Addr) (c : Nat) (al : List ByteArray) (x : ByteArray) (w : World) (B : Nat) (h : StrsAt w B A al) (hm : al.length ≤ 4611686018427387904) :
    Calls Try.prog 49 #[.slice A al.length c, .string x] w fun e w' => (∃ i : Int, e = .returned (.int .i64 i) ∧ (0 ≤ i ↔ x ∈ al)) ∧ w = w' := by
  by_cases hn : 0 < al.length
  · obtain ⟨b, off, rfl, hb, hc⟩ := h hn
    have HC := hide hc
    obtain ⟨n, HN⟩ : ∃ n, Hid (al.length = n) := ⟨_, rfl⟩
    clear hc h
    rw [HN.out] at hn hm ⊢
    go_enter Try.func49, Try.ntmps49
    go_wp2
    go_loop [5, 8] (fun _ i => ∃ k : Nat, k ≤ n ∧ i = .int .i64 k ∧ Hid (x ∉ al.take k)) (fun _ i => n - (intOf i).toNat)
    case atStart => exact ⟨0, Nat.zero_le _, rfl, by simp [Hid]⟩
    case round =>
      obtain ⟨k, hk, rfl, hf⟩ := hrel
      by_cases hlt : k < n
      · have hlt' : k < al.length := by rw [HN.out]; exact hlt
        have hcell := HC.out k hlt'
        by_cases h0 : x = al.getD k ByteArray.empty
        · have h0' : (x.toList == (al.getD k ByteArray.empty).toList) = true := by rw [bytes_beq_decide]; simpa using h0
          have HM : Hid (x ∈ al) := by rw [h0]; exact mem_of_getD hlt'
          clear h0 hf hlt'
          generalize al.getD k ByteArray.empty = v at hcell h0'
          go_wp2
          go_ret
          exact ⟨⟨k, rfl, by simp [HM.out]⟩, rfl⟩
        · have h0' : (x.toList == (al.getD k ByteArray.empty).toList) = false := by rw [bytes_beq_decide]; simpa using h0
          have HM : Hid (x ∉ al.take (k + 1)) := not_mem_take hlt' hf.out h0
          clear h0 hf hlt'
          generalize al.getD k ByteArray.empty = v at hcell h0'
          go_wp2
          go_round
          case rel => exact ⟨k + 1, by omega, by go_num, HM⟩
          case measure => simp [intOf]; omega
      · have HM : Hid (x ∉ al) := by
          have := hf.out
          rwa [List.take_of_length_le (by rw [HN.out]; omega)] at this
        clear hf
        go_wp2
        go_ret
        exact ⟨⟨-1, rfl, by simp [HM.out]⟩, rfl⟩
  · obtain rfl : al = [] := List.eq_nil_of_length_eq_zero (by omega)
    simp only [List.length_nil]
    go_enter Try.func49, Try.ntmps49
    go_wp2
    go_loop [8] (fun i => i = .int .i64 0) (fun _ => 0)
    case atStart => rfl
    case round =>
      obtain rfl := hrel
      go_wp2
      go_ret
      exact ⟨⟨-1, rfl, by simp⟩, rfl⟩

set_option maxHeartbeats 1000000 in
theorem contains_str (A : Option Addr) (c : Nat) (al : List ByteArray) (x : ByteArray) (w : World) (B : Nat) (h : StrsAt w B A al) (hm : al.length ≤ 4611686018427387904) :
    Calls Try.prog 37 #[.slice A al.length c, .string x] w fun e w' => e = .returned (.bool (hasStr al x)) ∧ w = w' := by
  have H := fun W hW => index_str A c al x W B hW hm
  have H1 := hide (H w h)
  clear H h
  generalize al.length = n at H1 hm ⊢
  go_enter Try.func37, Try.ntmps37
  go_wp2_with (go_at_call 49; refine H1.out.mono ?_; rintro e w' ⟨⟨i, rfl, hi⟩, rfl⟩; replace hi := hide hi)
  go_ret
  refine ⟨?_, rfl⟩
  have := hi.out
  rw [← hasStr_iff] at this
  cases h0 : hasStr al x with
  | true => simp [this.2 h0]
  | false =>
    have h1 : ¬ 0 ≤ i := fun e => by rw [this.1 e] at h0; cases h0
    simp [h1]
end Go.Proofs.Ytmhmjbggjbeikaa
