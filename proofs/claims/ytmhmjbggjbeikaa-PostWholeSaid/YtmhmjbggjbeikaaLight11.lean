/- Chapter 11: whether steps are few and short enough. -/
import Derived.Test.YtmhmjbggjbeikaaArgs11
import Derived.Test.YtmhmjbggjbeikaaAlive11
namespace Go.Proofs.Ytmhmjbggjbeikaa
set_option linter.unusedSimpArgs false
set_option linter.unusedVariables false
open Go.RowKit
attribute [local go_sem] objAt_alloc objAt_alloc_at objAt_drew objAt_drewN objAt_setCell comesTo_value comesTo_enter

def roomOf (r n : Int) : Int := if r < 0 ∨ r < n then -1 else r - n
set_option maxHeartbeats 1000000 in
theorem room_calls (g c : Nat) (r n : Int) (w : World) (h : w.cell? ⟨g, 0, none⟩ = some (.int .i64 n)) (h1 : -1 ≤ r) (h2 : r ≤ 1500) (h3 : 0 ≤ n) (h4 : n ≤ 9223372036854775807) :
    Calls Try.prog 46 #[.int .i64 r, .slice (some ⟨g, 0, none⟩) 1 c] w fun e w' => e = .returned (.int .i64 (roomOf r n)) ∧ w = w' := by
  unfold roomOf
  by_cases c1 : r < 0
  · rw [if_pos (.inl c1)]
    go_enter Try.func46, Try.ntmps46
    go_wp2
    go_loop [0, 5] (fun x i => x = .int .i64 r ∧ i = .int .i64 0) (fun _ _ => 0)
    case atStart => exact ⟨rfl, rfl⟩
    case round =>
      obtain ⟨rfl, rfl⟩ := hrel
      go_wp2
      go_ret
      exact ⟨rfl, rfl⟩
  · by_cases c2 : n > r
    · rw [if_pos (.inr c2)]
      go_enter Try.func46, Try.ntmps46
      go_wp2
      go_loop [0, 5] (fun x i => x = .int .i64 r ∧ i = .int .i64 0) (fun _ _ => 0)
      case atStart => exact ⟨rfl, rfl⟩
      case round =>
        obtain ⟨rfl, rfl⟩ := hrel
        go_wp2
        go_ret
        exact ⟨rfl, rfl⟩
    · rw [if_neg (by omega)]
      have hsub : IntKind.i64.wrap (r - n) = r - n := by rw [IntKind.wrap_i64]; omega
      go_enter Try.func46, Try.ntmps46
      go_wp2
      go_loop [0, 5] (fun x i => ∃ k : Nat, k ≤ 1 ∧ i = .int .i64 k ∧ x = .int .i64 (r - n * k)) (fun _ i => 1 - (intOf i).toNat)
      case atStart => exact ⟨0, by omega, rfl, by simp⟩
      case round =>
        obtain ⟨k, hk, rfl, rfl⟩ := hrel
        have h01 : k = 0 ∨ k = 1 := by omega
        rcases h01 with rfl | rfl
        · simp only [Int.natCast_zero, Int.mul_zero, Int.sub_zero]
          go_wp2
          go_round
          case rel => exact ⟨1, by omega, rfl, by simp⟩
          case measure => simp [intOf]
        · simp only [Int.natCast_one, Int.mul_one]
          go_wp2
          go_ret
          exact ⟨rfl, rfl⟩

/-- What a slice of Ops leads to. -/
def OpsIn (w : World) (a : Option Addr) (len cap : Nat) (l : List POp11) : Prop := l.length = len ∧ len ≤ cap ∧ cap ≤ maxLen ∧ (∀ o ∈ l, wfOp11 w o) ∧ ElemsAt opCells 5 w a l
theorem ElemsAt.op {w : World} {a : Option Addr} {l : List POp11} (h : ElemsAt opCells 5 w a l) {k : Nat} {o : POp11} (hk : l[k]? = some o) : ∃ b off : Nat, a = some ⟨b, off, none⟩ ∧ b < w.heap.size ∧
    w.cell? ⟨b, off + k * 5, none⟩ = some (.int .i64 o.kind) ∧ w.cell? ⟨b, off + k * 5 + 1, none⟩ = some (.int .i64 o.n) ∧ w.cell? ⟨b, off + k * 5 + 2, none⟩ = some (.string o.k.1) ∧ w.cell? ⟨b, off + k * 5 + 3, none⟩ = some (.string o.k.2) ∧ w.cell? ⟨b, off + k * 5 + 4, none⟩ = some (.slice o.a o.len o.cap) := by
  obtain ⟨b, off, h1, h2, h3⟩ := h k o hk
  exact ⟨b, off, h1, h2, by simpa using h3 0 _ (by decide) rfl, h3 1 _ (by decide) rfl, h3 2 _ (by decide) rfl, h3 3 _ (by decide) rfl, h3 4 _ (by decide) rfl⟩

def lens (l : List POp11) : List Int := l.map fun o => (o.len : Int)
def LightPost (w : World) (l : List POp11) (e : Ending) (w' : World) : Prop := ∃ b : Bool, e = .returned (.bool b) ∧ (b = true → l.length ≤ 100 ∧ (lens l).sum ≤ 1500) ∧ Below w.heap.size w w'
def LightRel (w : World) (l : List POp11) (k : Nat) (r : Int) (wr : World) : Prop := -1 ≤ r ∧ r ≤ 1500 ∧ (0 ≤ r → ((lens l).take k).sum + r = 1500) ∧ Below w.heap.size w wr

set_option maxHeartbeats 4000000 in
set_option maxRecDepth 100000 in
theorem light_calls (a : Option Addr) (n c : Nat) (l : List POp11) (w : World) (hn : l.length = n) (hm : n ≤ maxLen) (h : ElemsAt opCells 5 w a l) (hl : ∀ o ∈ l, o.len ≤ maxLen) :
    Calls Try.prog 28 #[.slice a n c] w (LightPost w l) := by
  unfold maxLen at hm hl
  have HE := hide h
  have HN := hide hn
  have HL := hide hl
  clear h hn hl
  go_enter Try.func28, Try.ntmps28
  go_wp2_with fail
  go_loopw [3, 4] (fun x i wr => ∃ (k : Nat) (r : Int), k ≤ n ∧ i = .int .i64 k ∧ x = .int .i64 r ∧ LightRel w l k r wr) (fun _ i _ => n - (intOf i).toNat)
  case atStart => exact ⟨0, 1500, by omega, rfl, rfl, by omega, by omega, fun _ => by simp, Below.refl _ _⟩
  case round =>
    obtain ⟨k, r, hk, rfl, rfl, r1, r2, r3, r4⟩ := hrel
    have HR := hide r3
    have HB := hide r4
    clear r3 r4
    -- what stands behind the loop
    have HEND : Hid (0 ≤ r → n ≤ 100 → (k = n ∨ 200 ≤ k) → l.length ≤ 100 ∧ (lens l).sum ≤ 1500) := hide fun h0 h1 h2 => by
      have hkn : k = n := by omega
      have := HR.out h0
      rw [List.take_of_length_le (by unfold lens; rw [List.length_map, HN.out]; omega)] at this
      exact ⟨by rw [HN.out]; exact h1, by omega⟩
    by_cases hlt : k < n
    · by_cases h200 : k < 200
      · by_cases hr : 0 ≤ r
        · obtain ⟨o, ho⟩ : ∃ o, l[k]? = some o := ⟨l[k]'(by have := HN.out; omega), List.getElem?_eq_getElem (by have := HN.out; omega)⟩
          obtain ⟨b, off, rfl, hb, g1, g2, g3, g4, g5⟩ := (HE.out.keep HB.out).op ho
          have hol := HL.out o (List.mem_of_getElem? ho)
          have HSUM : Hid (((lens l).take (k + 1)).sum = ((lens l).take k).sum + (o.len : Int)) := hide (by
            have hk' : (lens l)[k]? = some (o.len : Int) := by simp [lens, ho]
            obtain ⟨q1, q2⟩ := List.getElem?_eq_some_iff.1 hk'
            rw [List.take_succ_eq_append_getElem q1, List.sum_append, q2]
            simp)
          clear ho
          generalize o.len = ol at *
          generalize o.a = oa at *
          generalize o.cap = oc at *
          go_wp2_with (go_at_call 46; refine (room_calls _ _ r ol _ (by go_simp) (by omega) (by omega) (by omega) (by omega)).mono ?_; rintro e w' ⟨rfl, rfl⟩)
          refine ⟨⟨k + 1, roomOf r ol, by omega, by go_num, rfl, ?_, ?_, ?_, HB.out.alloc HB.out.size _⟩, by simp [intOf]; omega⟩
          · unfold roomOf; split <;> omega
          · unfold roomOf; split <;> omega
          · intro hp
            have h1 := HR.out hr
            have h2 := HSUM.out
            unfold roomOf at hp ⊢
            split at hp
            · omega
            · rename_i hc
              rw [if_neg hc]
              omega
        · by_cases h100 : n ≤ 100
          all_goals
            go_wp2_with fail
            go_ret
            exact ⟨false, rfl, fun h => (by cases h), HB.out⟩
      · have h100 : ¬ n ≤ 100 := by omega
        go_wp2_with fail
        go_ret
        exact ⟨false, rfl, fun h => (by cases h), HB.out⟩
    · have hkn : k = n := by omega
      subst hkn
      by_cases h100 : k ≤ 100
      · by_cases hr : 0 ≤ r
        · go_wp2_with fail
          go_ret
          exact ⟨true, rfl, fun _ => HEND.out hr h100 (by simp), HB.out⟩
        · go_wp2_with fail
          go_ret
          exact ⟨false, rfl, fun h => (by cases h), HB.out⟩
      · go_wp2_with fail
        go_ret
        exact ⟨false, rfl, fun h => (by cases h), HB.out⟩
end Go.Proofs.Ytmhmjbggjbeikaa
