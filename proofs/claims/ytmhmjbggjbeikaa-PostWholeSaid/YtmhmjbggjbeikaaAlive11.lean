/- complinelaw11.alive. -/
import Derived.Test.YtmhmjbggjbeikaaLaw11
namespace Go.Proofs.Ytmhmjbggjbeikaa
set_option linter.unusedSimpArgs false
set_option linter.unusedVariables false
open Go.RowKit
attribute [local go_sem] objAt_alloc objAt_alloc_at objAt_drew objAt_drewN objAt_setCell comesTo_value comesTo_enter

abbrev tA : ByteArray := ⟨#[65]⟩
abbrev tB : ByteArray := ⟨#[66]⟩
abbrev tX : ByteArray := ⟨#[88]⟩
theorem tAB : tA ≠ tB := by decide +kernel
theorem short1 (b : UInt8) : shortText ⟨#[b]⟩ := by
  show (1 : Nat) ≤ 281474976710656
  omega
theorem move_short {a b x : ByteArray} (ha : shortText a) (hb : shortText b) (hx : shortText x) (y : Int) : shortPosts (movePosts a b x y) := by
  intro p hp
  simp only [movePosts, List.mem_cons, List.not_mem_nil, or_false] at hp
  rcases hp with rfl | rfl
  · exact ⟨ha, hx⟩
  · exact ⟨hb, hx⟩

/-- Move's postings, where they lie. -/
theorem move_at (a b x : ByteArray) (y : Int) (W : World) : PostsAt (W.alloc (.cells #[.string a, .string x, .int .i64 0, .int .i64 (-y), .string b, .string x, .int .i64 0, .int .i64 y] 51)) (some ⟨W.heap.size, 0, none⟩) (movePosts a b x y) :=
  posts_two (w := W) (p := ⟨(a, x), 0, -y⟩) (q := ⟨(b, x), 0, y⟩) (heap_alloc_new W _)
/-- Apply of a transfer, as a call of Move and one of Apply leave it. -/
theorem ls_move {w0 W : World} {g p : Nat} {L : Led} {S : Nat → Prop} (a b x : ByteArray) (y : Int) (c : Nat) (ha : shortText a) (hb : shortText b) (hx : shortText x) (h : Leds w0 g p L S W) :
    Calls Try.prog 29 #[.pointer (some ⟨g, 0, none⟩), .slice (some ⟨W.heap.size, 0, none⟩) 2 c] (W.alloc (.cells #[.string a, .string x, .int .i64 0, .int .i64 (-y), .string b, .string x, .int .i64 0, .int .i64 y] 51)) fun e w' =>
      e = .returned (.int .i64 (lookErr L (movePosts a b x y))) ∧ Leds w0 g p (applyLed L (movePosts a b x y)) S w' ∧ Kept S W w' := by
  have h1 := h.alloc (.cells #[.string a, .string x, .int .i64 0, .int .i64 (-y), .string b, .string x, .int .i64 0, .int .i64 y] 51)
  have hlt : ∀ j, S j → j < W.heap.size := by
    obtain ⟨F, _, _, _, h4⟩ := h
    exact h4
  exact (ls_apply _ 2 c _ rfl (by decide) (move_at a b x y W) (move_short ha hb hx y) h1).mono fun e w' ⟨e1, e2, e3⟩ => ⟨e1, e2, fun j hj => (e3 j hj).trans (Below.heap_alloc W _ j (hlt j hj))⟩

def al1 : Led := issueLed led0 (tA, tX) 5
def al2 : Led := applyLed al1 (movePosts tA tB tX 5)
theorem al_facts : issueErr led0 (tA, tX) 5 = 0 ∧ issOf al1.iss tX = 5 ∧ al1.m.length ≤ 1 := by
  obtain ⟨h1, _, _, h4, _, h6⟩ := issue_first (tA, tX) 5 (by omega) (by omega)
  exact ⟨h1, h4, h6⟩
theorem al_good : GoodPos al1.m ∧ Apart al1.m := by
  have h : al1.m = addMap [] (tA, tX) 0 5 := by
    unfold al1 issueLed
    rw [if_neg (not_not_intro al_facts.1)]
    rfl
  rw [h]
  exact ⟨good_add (fun p hp => by simp at hp) _ _ _, apart_add apart_nil _ _ _⟩
theorem al_look : lookErr al1 (movePosts tA tB tX 6) = 30 ∧ lookErr al1 (movePosts tA tB tX 5) = 0 := by
  obtain ⟨_, h2, _, _, h5, _⟩ := issue_first (tA, tX) 5 (by omega) (by omega)
  have hb : isBlk al1.blk (tA, tX) = false := by unfold al1; rw [h5]; rfl
  have eA : posPart al1.m (tA, tX) 0 = 5 := by unfold al1; rw [h2, if_pos ⟨rfl, rfl⟩]
  have eB : posPart al1.m (tB, tX) 0 = 0 := by
    unfold al1; rw [h2, if_neg]
    rintro ⟨h, _⟩
    exact tAB (congrArg Prod.fst h)
  constructor
  · rw [move_look al1 tA tB tX 6 tAB (by omega) (by omega) al_good.1 (by rw [eB]; omega) hb, eA]; rfl
  · rw [move_look al1 tA tB tX 5 tAB (by omega) (by omega) al_good.1 (by rw [eB]; omega) hb, eA]; rfl
theorem al_end : posTotal al2.m tX = 5 ∧ issOf al2.iss tX = 5 ∧ posPart al2.m (tB, tX) 0 = 5 ∧ al2.m.length ≤ 3 := by
  obtain ⟨_, h2, h3, _, _, h6⟩ := issue_first (tA, tX) 5 (by omega) (by omega)
  obtain ⟨m1, m2, m3, _⟩ := move_does tAB al_look.2 al_good.1 al_good.2
  obtain ⟨g1, g2, _⟩ := apply_does al_look.2 al_good.1 al_good.2
  have hs : sumA al2.m tX = 5 := by
    unfold al2; rw [m2]; unfold al1; rw [h3, if_pos rfl]
  refine ⟨(posTotal_eq (m := al2.m) g2 (by rw [hs]; omega) (by rw [hs]; omega)).trans hs, ?_, ?_, ?_⟩
  · unfold al2; rw [m3]; exact al_facts.2.1
  · unfold al2; rw [m1, if_neg, if_pos rfl]
    · unfold al1; rw [h2, if_neg]
      · rfl
      · rintro ⟨h, _⟩; exact tAB (congrArg Prod.fst h)
    · intro h
      exact tAB (congrArg (fun q : PKey => q.1.1) h).symm
  · have := applyLed_length al1 (movePosts tA tB tX 5)
    have h7 := al_facts.2.2
    show (applyLed al1 (movePosts tA tB tX 5)).m.length ≤ 3
    have e2 : (movePosts tA tB tX 5).length = 2 := rfl
    omega

set_option maxHeartbeats 4000000 in
set_option maxRecDepth 100000 in
theorem alive11_calls (w : World) : Calls Try.prog 23 #[] w fun e w' => e = .returned (.bool true) ∧ Below w.heap.size w w' := by
  have HNEW := hide (ls_new w)
  have HISS : Hid (∀ g p W, Leds w g p led0 (fun _ => False) W → Calls Try.prog 25 #[.pointer (some ⟨g, 0, none⟩), .agg #[.string { data := #[65] }, .string { data := #[88] }], .int .i64 5] W fun e w' => e = .returned (.int .i64 0) ∧ Leds w g p al1 (fun _ => False) w') := hide fun g p W h =>
    (ls_issue tA tX 5 h (short1 _) (short1 _) (fun _ => by show _ ≤ (0 : Int) + 5; omega) (fun _ => by show (0 : Int) + 5 ≤ _; omega)).mono fun e w' ⟨h1, h2, _⟩ => ⟨by rw [h1, al_facts.1], h2⟩
  have HM6 : Hid (∀ g p W, Leds w g p al1 (fun _ => False) W → Calls Try.prog 29 #[.pointer (some ⟨g, 0, none⟩), .slice (some ⟨W.heap.size, 0, none⟩) 2 2] (W.alloc (.cells #[.string { data := #[65] }, .string { data := #[88] }, .int .i64 0, .int .i64 (-6), .string { data := #[66] }, .string { data := #[88] }, .int .i64 0, .int .i64 6] 51)) fun e w' => e = .returned (.int .i64 30) ∧ Leds w g p al1 (fun _ => False) w') := hide fun g p W h =>
    (ls_move tA tB tX 6 2 (short1 _) (short1 _) (short1 _) h).mono fun e w' ⟨h1, h2, _⟩ => ⟨by rw [h1, al_look.1], by
      have : applyLed al1 (movePosts tA tB tX 6) = al1 := by unfold applyLed; rw [if_pos (by rw [al_look.1]; decide)]
      rwa [this] at h2⟩
  have HM5 : Hid (∀ g p W, Leds w g p al1 (fun _ => False) W → Calls Try.prog 29 #[.pointer (some ⟨g, 0, none⟩), .slice (some ⟨W.heap.size, 0, none⟩) 2 2] (W.alloc (.cells #[.string { data := #[65] }, .string { data := #[88] }, .int .i64 0, .int .i64 (-5), .string { data := #[66] }, .string { data := #[88] }, .int .i64 0, .int .i64 5] 51)) fun e w' => e = .returned (.int .i64 0) ∧ Leds w g p al2 (fun _ => False) w') := hide fun g p W h =>
    (ls_move tA tB tX 5 2 (short1 _) (short1 _) (short1 _) h).mono fun e w' ⟨h1, h2, _⟩ => ⟨by rw [h1, al_look.2], h2⟩
  have HTOT : Hid (∀ g p W, Leds w g p al2 (fun _ => False) W → Calls Try.prog 21 #[.pointer (some ⟨p, 0, none⟩), .string { data := #[88] }] W fun e w' => e = .returned (.int .i64 5) ∧ Below W.heap.size W w') := hide fun g p W h => by
    have := ls_total tX (by have := al_end.2.2.2; omega) h
    rwa [al_end.1] at this
  have HISD : Hid (∀ g p W, Leds w g p al2 (fun _ => False) W → Calls Try.prog 32 #[.pointer (some ⟨g, 0, none⟩), .string { data := #[88] }] W fun e w' => e = .returned (.int .i64 5) ∧ Below W.heap.size W w') := hide fun g p W h => by
    have := ls_issued tX h
    rwa [al_end.2.1] at this
  have HPART : Hid (∀ g p W, Leds w g p al2 (fun _ => False) W → Calls Try.prog 19 #[.pointer (some ⟨p, 0, none⟩), .agg #[.string { data := #[66] }, .string { data := #[88] }], .int .i64 0] W fun e w' => e = .returned (.int .i64 5) ∧ Below W.heap.size W w') := hide fun g p W h => by
    have := ls_part tB tX 0 h
    rwa [al_end.2.2.1] at this
  go_enter Try.func23, Try.ntmps23
  go_wp2_with (first
    | (go_at_call 24; refine HNEW.out.mono ?_; rintro e w1 ⟨g, p, rfl, h1⟩; have HL1 := hide h1; clear h1)
    | (go_at_call 25; ((with_reducible refine (HISS.out _ _ _ HL1.out).mono ?_)); rintro e w2 ⟨rfl, h1⟩; have HL2 := hide h1; clear h1)
    | (go_at_call 26; refine (move_calls _ _ _ _ _ (by decide) (by decide)).mono ?_; rintro e w' ⟨rfl, rfl⟩)
    | (go_at_call 29; ((with_reducible refine (HM6.out _ _ _ HL2.out).mono ?_)); rintro e w3 ⟨rfl, h1⟩; have HL3 := hide h1; clear h1)
    | (go_at_call 29; ((with_reducible refine (HM5.out _ _ _ HL3.out).mono ?_)); rintro e w4 ⟨rfl, h1⟩; have HL4 := hide h1; have hc4 := HL4.out.cell.1; clear h1)
    | (go_at_call 21; ((with_reducible refine (HTOT.out _ _ _ HL4.out).mono ?_)); rintro e w5 ⟨rfl, h1⟩; have HL5 := hide (HL4.out.step h1); have hc5 := HL5.out.cell.1; clear h1)
    | (go_at_call 32; ((with_reducible refine (HISD.out _ _ _ HL5.out).mono ?_)); rintro e w6 ⟨rfl, h1⟩; have HL6 := hide (HL5.out.step h1); have hc6 := HL6.out.cell.1; clear h1)
    | (go_at_call 19; ((with_reducible refine (HPART.out _ _ _ HL6.out).mono ?_)); rintro e w7 ⟨rfl, h1⟩; have HL7 := hide (HL6.out.step h1); clear h1))
  go_ret
  exact ⟨rfl, HL7.out.below⟩
end Go.Proofs.Ytmhmjbggjbeikaa
