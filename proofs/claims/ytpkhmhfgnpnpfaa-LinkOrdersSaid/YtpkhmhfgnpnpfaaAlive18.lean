/- alive, of chapter 18. -/
import Derived.Test.YtpkhmhfgnpnpfaaLaw18
import Derived.Test.YtpkhmhfgnpnpfaaUf4
namespace Go.Proofs.Ytpkhmhfgnpnpfaa
set_option linter.unusedSimpArgs false
set_option linter.unusedVariables false
open Go.RowKit
attribute [local go_sem] objAt_alloc objAt_alloc_at objAt_drew objAt_drewN objAt_setCell comesTo_value comesTo_enter

def al0 : Gra := ⟨freshC 3, []⟩
def al1 : Gra := addG al0 [⟨2, 2, 1⟩]
def al2 : Gra := addG al1 [⟨1, 1, 3⟩]
theorem al18_facts : tryG al0 [⟨2, 2, 1⟩] = 0 ∧ tryG al1 [⟨1, 1, 3⟩] = 0 ∧ orderG al2 = [[2], [1, 3]] ∧ tryG al2 [⟨2, 3, 2⟩] = 24 ∧ sameC al2.c [1, 3] = true ∧ (nearC al2.c al2.ls true 3).length = 1 := by
  decide +kernel
theorem link_one (W : World) (x : PLink) : LinksArg (W.alloc (.cells #[.int .i64 x.kind, .int .i64 x.src, .int .i64 x.dst] 30)) (some ⟨W.heap.size, 0, none⟩) 1 1 [x] :=
  ⟨rfl, by decide, by simp, fun k y hk => by
    match k, hk with
    | 0, hk => simp at hk; subst hk; exact ⟨W.heap.size, 0, rfl, by simp, by simp, by simp, by simp⟩⟩
theorem gr_add1 {w0 W : World} {g : Nat} {G : Gra} (h : Gras w0 g G W) (x : PLink) :
    Calls Try.prog 14 #[.pointer (some ⟨g, 0, none⟩), .slice (some ⟨W.heap.size, 0, none⟩) 1 1] (W.alloc (.cells #[.int .i64 x.kind, .int .i64 x.src, .int .i64 x.dst] 30)) fun e w' => e = .returned (.int .i64 (tryG G [x])) ∧ Gras w0 g (addG G [x]) w' :=
  gr_add h ((Below.refl _ _).alloc (Nat.le_refl _) _) (link_one W x) (fun y hy => by
    simp only [Option.some.injEq] at hy
    subst hy
    exact .inr (Nat.le_refl _))
theorem add_bad {w0 W W' : World} {g : Nat} {G : Gra} {a : Option Addr} {n c : Nat} {l : List PLink} (h : Gras w0 g G W) (hb : Below W.heap.size W W') (hl : LinksArg W' a n c l) (h0 : tryG G l ≠ 0) :
    Calls Try.prog 14 #[.pointer (some ⟨g, 0, none⟩), .slice a n c] W' fun e w' => e = .returned (.int .i64 (tryG G l)) ∧ Below W'.heap.size W' w' := by
  have HT := hide (gr_try (h.step hb) hl)
  obtain ⟨t, ht⟩ : ∃ t, tryG G l = t := ⟨_, rfl⟩
  rw [ht] at HT h0 ⊢
  clear h hl hb ht
  have h1 : (t != 0) = true := by simpa using h0
  go_enter Try.func14, Try.ntmps14
  go_wp2_with (go_at_call 22; refine HT.out.mono ?_; rintro e w1 ⟨rfl, hb1⟩; have HB1 := hide hb1; clear hb1)
  go_ret
  exact ⟨rfl, HB1.out⟩

set_option maxHeartbeats 4000000 in
set_option maxRecDepth 100000 in
theorem alive18_calls (w : World) : Calls Try.prog 12 #[] w fun e w' => e = .returned (.bool true) ∧ Below w.heap.size w w' := by
  obtain ⟨f1, f2, f3, f4, f5, f6⟩ := al18_facts
  have F1 := hide f1
  have F2 := hide f2
  have F3 := hide f3
  have F4 := hide f4
  have F5 := hide f5
  have F6 := hide f6
  clear f1 f2 f3 f4 f5 f6
  go_enter Try.func12, Try.ntmps12
  go_wp2_with (go_at_call 13; refine Hid.out ?_)
  refine hide ?_
  refine (gr_new (w0 := w) 3 (by decide) w (Below.refl _ _)).mono ?_
  rintro e w1 ⟨g, rfl, hg⟩
  have HG := hide hg
  clear hg
  go_wp2_with (go_at_call 14; refine Hid.out ?_)
  refine hide ?_
  have hadd := gr_add1 HG.out ⟨2, 2, 1⟩
  have e1 : tryG ⟨freshC 3, []⟩ [⟨2, 2, 1⟩] = 0 := F1.out
  rw [e1] at hadd
  refine hadd.mono ?_
  rintro e w2 ⟨rfl, hg2⟩
  have HG2 : Hid (Gras w g al1 w2) := hide hg2
  clear hg2 hadd e1 HG
  go_wp2_with (go_at_call 14; refine Hid.out ?_)
  refine hide ?_
  have hadd := gr_add1 HG2.out ⟨1, 1, 3⟩
  rw [F2.out] at hadd
  refine hadd.mono ?_
  rintro e w3 ⟨rfl, hg3⟩
  have HG3 : Hid (Gras w g al2 w3) := hide hg3
  clear hg3 hadd HG2
  go_wp2_with (go_at_call 19; refine Hid.out ?_)
  refine hide ?_
  refine (gr_order HG3.out).mono ?_
  rintro e w4 ⟨oa, oc, rfl, ho, hb4⟩
  rw [F3.out] at ho ⊢
  have HO := hide ho
  have HG4 := hide (HG3.out.step hb4)
  clear ho hb4 HG3
  go_wp2_with (go_at_call 14; refine Hid.out ?_)
  refine hide ?_
  have hadd := add_bad HG4.out ((Below.refl _ _).alloc (Nat.le_refl _) (.cells #[.int .i64 2, .int .i64 3, .int .i64 2] 30)) (link_one w4 ⟨2, 3, 2⟩) (by rw [F4.out]; decide)
  rw [F4.out] at hadd
  refine hadd.mono ?_
  rintro e w5 ⟨rfl, hb5⟩
  have hb5' : Below w4.heap.size w4 w5 := ((Below.refl _ _).alloc (Nat.le_refl _) _).trans (hb5.mono (by simp))
  have HG5 := hide (HG4.out.step hb5')
  have hO := HO.out.below hb5'
  obtain ⟨r, off, a1, c1, rfl, _, g1, i1⟩ := hO 0 [2] rfl
  obtain ⟨r', off', a2, c2, e', _, g2, i2⟩ := hO 1 [1, 3] rfl
  simp only [Option.some.injEq, Addr.mk.injEq, and_true] at e'
  obtain ⟨rfl, rfl⟩ := e'
  obtain ⟨b1, o1, rfl, _, g3⟩ := i1 0 2 rfl
  rw [Nat.add_zero] at g1 g3
  simp only [List.length_cons, List.length_nil, Nat.zero_add] at g1 g2
  obtain ⟨u, hgl, hgc, Fu, hu⟩ := gr_uf HG5.out
  have hu2 : UfAt (w5.alloc (.cells #[.int .i64 1, .int .i64 3] 3)) u Fu al2.c := hu.below ((Below.refl _ _).alloc (Nat.le_refl _) _)
  have HS := hide (same_calls u Fu al2.c (some ⟨w5.heap.size, 0, none⟩) 2 2 [1, 3] _ hu2 rfl (by decide) (by
    intro k x hk
    refine ⟨w5.heap.size, 0, rfl, by simp, ?_⟩
    match k, hk with
    | 0, hk => simp at hk; subst hk; simp
    | 1, hk => simp at hk; subst hk; simp))
  rw [F5.out] at HS
  clear hadd hb5 hb5' hO i1 i2 hu2 hu HG4 HO
  go_wp2_with (go_at_call 17; refine Hid.out ?_)
  refine hide ?_
  refine HS.out.mono ?_
  rintro e w6 ⟨rfl, hb6⟩
  have HG6 := hide (HG5.out.step (((Below.refl _ _).alloc (Nat.le_refl _) _).trans (hb6.mono (by simp))))
  clear hb6 HS
  go_wp2_with (go_at_call 15; refine Hid.out ?_)
  refine hide ?_
  refine (gr_ahead 3 HG6.out).mono ?_
  rintro e w7 ⟨na, nc, rfl, _, hb7⟩
  rw [F6.out]
  have HB7 := hide (HG6.out.step hb7).below
  clear hb7
  go_wp2_with fail
  go_ret
  exact ⟨rfl, HB7.out⟩
end Go.Proofs.Ytpkhmhfgnpnpfaa
