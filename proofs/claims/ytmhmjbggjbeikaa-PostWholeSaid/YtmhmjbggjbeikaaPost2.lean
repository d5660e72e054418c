/- Chapter 11: Shift; whether all postings can be. -/
import Derived.Test.YtmhmjbggjbeikaaPost1
namespace Go.Proofs.Ytmhmjbggjbeikaa
set_option linter.unusedSimpArgs false
set_option linter.unusedVariables false
open Go.RowKit
attribute [local go_sem] objAt_alloc objAt_alloc_at objAt_drew objAt_drewN objAt_setCell

set_option maxHeartbeats 400000 in
theorem shift_calls (k1 k2 : ByteArray) (f t y : Int) (w : World) (h1 : -9223372036854775807 ≤ y) (h2 : y ≤ 9223372036854775807) :
    Calls Try.prog 33 #[.agg #[.string k1, .string k2], .int .i64 f, .int .i64 t, .int .i64 y] w fun e w' => e = .returned (.slice (some ⟨w.heap.size + 1, 0, none⟩) 2 2) ∧
      w' = (w.alloc (.cells #[.string k1, .string k2] 24)).alloc (.cells #[.string k1, .string k2, .int .i64 f, .int .i64 (-y), .string k1, .string k2, .int .i64 t, .int .i64 y] 51) := by
  go_enter Try.func33, Try.ntmps33
  go_wp2
  go_ret
  exact ⟨by simp, rfl⟩

/-- look's own test of a posting. -/
theorem look1_calls (p : PPost) (w : World) : Calls Try.prog 58 #[epost p] w fun e w' => e = .returned (.bool (!decide (okPost p))) ∧ Below w.heap.size w w' := by
  have HR := hide (fun W => right_calls p W)
  generalize decide (okPost p) = r at *
  obtain ⟨⟨k1, k2⟩, s, y⟩ := p
  unfold epost at *
  go_enter Try.func58, Try.ntmps58
  go_wp2_with (go_at_call 59; refine (HR.out _).mono ?_; rintro e w1 ⟨rfl, hb1⟩; have HB1 := hide hb1; clear hb1)
  go_ret
  exact ⟨rfl, ((Below.refl _ _).alloc (Nat.le_refl _) _).trans (HB1.out.mono (by simp))⟩

/-- What a slice of postings leads to, wherever nothing of w has turned. -/
def PostsAt (w : World) (a : Option Addr) (l : List PPost) : Prop :=
  ∀ (k : Nat) (p : PPost), l[k]? = some p → ∃ b off : Nat, a = some ⟨b, off, none⟩ ∧ b < w.heap.size ∧ w.cell? ⟨b, off + k * 4, none⟩ = some (.string p.k.1) ∧ w.cell? ⟨b, off + k * 4 + 1, none⟩ = some (.string p.k.2) ∧
    w.cell? ⟨b, off + k * 4 + 2, none⟩ = some (.int .i64 p.sub) ∧ w.cell? ⟨b, off + k * 4 + 3, none⟩ = some (.int .i64 p.by_)
theorem PostsAt.keep {w W : World} {a : Option Addr} {l : List PPost} (h : PostsAt w a l) (hb : Below w.heap.size w W) : PostsAt W a l := fun k p hp => by
  obtain ⟨b, off, h1, h2, h3, h4, h5, h6⟩ := h k p hp
  exact ⟨b, off, h1, Nat.lt_of_lt_of_le h2 hb.size, (hb.cell (p := ⟨b, off + k * 4, none⟩) h2).trans h3, (hb.cell (p := ⟨b, off + k * 4 + 1, none⟩) h2).trans h4, (hb.cell (p := ⟨b, off + k * 4 + 2, none⟩) h2).trans h5, (hb.cell (p := ⟨b, off + k * 4 + 3, none⟩) h2).trans h6⟩

/-- The place of the first posting that cannot be. -/
def firstBad (l : List PPost) (r : Int) : Prop := (r < 0 ∧ ∀ p ∈ l, okPost p) ∨ (0 ≤ r ∧ ∃ p ∈ l, ¬ okPost p)
def IndexPost (w : World) (l : List PPost) (e : Ending) (w' : World) : Prop := ∃ r : Int, e = .returned (.int .i64 r) ∧ Hid (firstBad l r) ∧ Below w.heap.size w w'
set_option maxHeartbeats 1000000 in
theorem indexBad_calls (a : Option Addr) (n c : Nat) (l : List PPost) (w : World) (hn : l.length = n) (hm : n ≤ 1099511627776) (h : PostsAt w a l) :
    Calls Try.prog 77 #[.slice a n c, .func (.func 58) #[] #[]] w (IndexPost w l) := by
  have HP := hide h
  clear h
  go_enter Try.func77, Try.ntmps77
  go_wp2_with fail
  go_loopw [8] (fun i wr => ∃ k : Nat, k ≤ n ∧ i = .int .i64 k ∧ Hid (∀ p ∈ l.take k, okPost p) ∧ Hid (Below w.heap.size w wr)) (fun i _ => n - (intOf i).toNat)
  case atStart => exact ⟨0, by omega, rfl, hide (by simp), hide (Below.refl _ _)⟩
  case round =>
    obtain ⟨k, hk, rfl, hok, hb⟩ := hrel
    by_cases hlt : k < n
    · obtain ⟨q, hq⟩ : ∃ q, l[k]? = some q := ⟨l[k]'(by omega), List.getElem?_eq_getElem (by omega)⟩
      obtain ⟨b, off, rfl, hb0, g1, g2, g3, g4⟩ := (HP.out.keep hb.out) k q hq
      have HC := hide (look1_calls q wr)
      have HQ := hide hq
      have hmem : q ∈ l := List.mem_of_getElem? hq
      clear hq
      by_cases hgood : okPost q
      · have hc := HC.out
        simp only [hgood, decide_true, Bool.not_true] at hc
        have HNEXT : Hid (∀ p ∈ l.take (k + 1), okPost p) := hide fun p hp => by
          obtain ⟨hkl, hke⟩ := List.getElem?_eq_some_iff.1 HQ.out
          rw [List.take_succ_eq_append_getElem hkl, List.mem_append, List.mem_singleton] at hp
          rcases hp with hp | rfl
          · exact hok.out p hp
          · rw [hke]; exact hgood
        unfold epost at hc
        have HC2 := hide hc
        clear hc HC hmem hgood HQ
        obtain ⟨⟨q1, q2⟩, q3, q4⟩ := q
        go_wp2_with fail
        refine HC2.out.mono ?_
        rintro e w5 ⟨rfl, hb5⟩
        have HB5 := hide (hb.out.trans (hb5.mono hb.out.size))
        clear hb5
        go_wp2_with fail
        exact ⟨⟨k + 1, by omega, by go_num, HNEXT, HB5⟩, by simp [intOf]; omega⟩
      · have hc := HC.out
        simp only [hgood, decide_false, Bool.not_false] at hc
        have HBAD : Hid (firstBad l k) := hide (.inr ⟨by omega, q, hmem, hgood⟩)
        unfold epost at hc
        have HC2 := hide hc
        clear hc HC hmem hgood HQ
        obtain ⟨⟨q1, q2⟩, q3, q4⟩ := q
        go_wp2_with fail
        refine HC2.out.mono ?_
        rintro e w5 ⟨rfl, hb5⟩
        have HB5 := hide (hb.out.trans (hb5.mono hb.out.size))
        clear hb5
        go_wp2_with fail
        go_ret
        exact ⟨k, rfl, HBAD, HB5.out⟩
    · have hkn : k = n := by omega
      subst hkn
      have hall : ∀ p ∈ l, okPost p := by
        have := hok.out
        rwa [← hn, List.take_length] at this
      go_wp2_with fail
      go_ret
      exact ⟨-1, rfl, hide (.inl ⟨by omega, hall⟩), hb.out⟩

/-- Whether one of the postings cannot be. -/
theorem containsBad_calls (a : Option Addr) (n c : Nat) (l : List PPost) (w : World) (hn : l.length = n) (hm : n ≤ 1099511627776) (h : PostsAt w a l) :
    Calls Try.prog 57 #[.slice a n c, .func (.func 58) #[] #[]] w fun e w' => e = .returned (.bool (decide (∃ p ∈ l, ¬ okPost p))) ∧ Below w.heap.size w w' := by
  have HI := hide (indexBad_calls a n c l w hn hm h)
  clear h hn
  go_enter Try.func57, Try.ntmps57
  go_wp2_with fail
  refine HI.out.mono ?_
  rintro e w1 ⟨r, rfl, hr, hb⟩
  have HB := hide hb
  clear hb
  rcases hr.out with ⟨h1, h2⟩ | ⟨h1, h2⟩
  · have hd : decide (∃ p ∈ l, ¬ okPost p) = false := decide_eq_false (fun ⟨p, hp, hq⟩ => hq (h2 p hp))
    have HD := hide hd
    clear hd h2 hr
    go_wp2
    go_ret
    exact ⟨by rw [HD.out]; simp [h1], HB.out⟩
  · have hd : decide (∃ p ∈ l, ¬ okPost p) = true := decide_eq_true h2
    have HD := hide hd
    clear hd h2 hr
    go_wp2
    go_ret
    exact ⟨by rw [HD.out]; simp [h1], HB.out⟩
end Go.Proofs.Ytmhmjbggjbeikaa
