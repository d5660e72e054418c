/- Package link: Try. -/
import Derived.Test.YtpkhmhfgnpnpfaaGra6
import Derived.Laws.EntriesVeiled
namespace Go.Proofs.Ytpkhmhfgnpnpfaa
set_option linter.unusedSimpArgs false
set_option linter.unusedVariables false
open Go.RowKit
attribute [local go_sem] objAt_alloc objAt_alloc_at objAt_drew objAt_drewN objAt_setCell comesTo_value comesTo_enter

/-- Try's own test of a number. -/
theorem try1_calls (i : Int) (x g u : Nat) (Fu : Nat → Prop) (c : Cls) (w : World) (hx : w.cell? ⟨x, 0, none⟩ = some (.pointer (some ⟨g, 0, none⟩))) (hg : w.cell? ⟨g, 0, none⟩ = some (.pointer (some ⟨u, 0, none⟩))) (hu : UfAt w u Fu c) :
    Calls Try.prog 51 #[.int .i64 i, .pointer (some ⟨x, 0, none⟩)] w fun e w' => e = .returned (.bool (decide (1 ≤ i ∧ i ≤ (c.n : Int)))) ∧ w = w' := by
  have HLEN := hide (len_calls hu)
  clear hu
  by_cases h1 : 1 ≤ i
  · by_cases h2 : i ≤ (c.n : Int)
    · rw [decide_eq_true (And.intro h1 h2)]
      generalize c.n = n at *
      go_enter Try.func51, Try.ntmps51
      go_wp2_with (go_at_call 52; refine HLEN.out.mono ?_; rintro e w1 ⟨rfl, rfl⟩)
      go_ret
      exact ⟨rfl, rfl⟩
    · rw [decide_eq_false (fun h : 1 ≤ i ∧ i ≤ (c.n : Int) => h2 h.2)]
      generalize c.n = n at *
      go_enter Try.func51, Try.ntmps51
      go_wp2_with (go_at_call 52; refine HLEN.out.mono ?_; rintro e w1 ⟨rfl, rfl⟩)
      go_ret
      exact ⟨by simp [h2], rfl⟩
  · rw [decide_eq_false (fun h : 1 ≤ i ∧ i ≤ (c.n : Int) => h1 h.1)]
    generalize c.n = n at *
    go_enter Try.func51, Try.ntmps51
    go_wp2
    go_ret
    exact ⟨rfl, rfl⟩

/-- Try's own test of a link's numbers. -/
theorem try2_calls (q : PLink) (y x g u : Nat) (Fu : Nat → Prop) (c : Cls) (w : World) (hy : w.cell? ⟨y, 0, none⟩ = some (.func (.func 51) #[] #[.pointer (some ⟨x, 0, none⟩)])) (hx : w.cell? ⟨x, 0, none⟩ = some (.pointer (some ⟨g, 0, none⟩)))
    (hg : w.cell? ⟨g, 0, none⟩ = some (.pointer (some ⟨u, 0, none⟩))) (hu : UfAt w u Fu c) (hyl : y < w.heap.size) (hxl : x < w.heap.size) (hgl : g < w.heap.size) :
    Calls Try.prog 54 #[elink q, .pointer (some ⟨y, 0, none⟩)] w fun e w' => e = .returned (.bool (decide (¬ linkIn c q))) ∧ Below w.heap.size w w' := by
  obtain ⟨qk, qs, qd⟩ := q
  unfold elink
  simp only
  have hb : Below w.heap.size w (w.alloc (.cells #[.int .i64 qk, .int .i64 qs, .int .i64 qd] 30)) := (Below.refl _ _).alloc (Nat.le_refl _) _
  have H1 := hide (fun i => try1_calls i x g u Fu c _ ((hb.cell (p := ⟨x, 0, none⟩) hxl).trans hx) ((hb.cell (p := ⟨g, 0, none⟩) hgl).trans hg) (hu.below hb))
  have hE : decide (¬ linkIn c ⟨qk, qs, qd⟩) = (!decide (1 ≤ qs ∧ qs ≤ (c.n : Int)) || !decide (1 ≤ qd ∧ qd ≤ (c.n : Int))) := by
    unfold linkIn
    by_cases h1 : 1 ≤ qs ∧ qs ≤ (c.n : Int) <;> by_cases h2 : 1 ≤ qd ∧ qd ≤ (c.n : Int) <;> simp [h1, h2]
  rw [hE]
  have HS := H1.out qs
  have HD := H1.out qd
  generalize decide (1 ≤ qs ∧ qs ≤ (c.n : Int)) = b1 at *
  generalize decide (1 ≤ qd ∧ qd ≤ (c.n : Int)) = b2 at *
  have HS := hide HS
  have HD := hide HD
  have HB := hide hb
  clear hx hg hu hE hb H1
  cases b1
  · go_enter Try.func54, Try.ntmps54
    go_wp2_with (go_at_call 51; refine HS.out.mono ?_; rintro e w1 ⟨rfl, rfl⟩)
    go_ret
    exact ⟨rfl, HB.out⟩
  · go_enter Try.func54, Try.ntmps54
    go_wp2_with (go_at_call 51; refine Hid.out ?_)
    refine hide ?_
    refine HS.out.mono ?_
    rintro e w1 ⟨rfl, rfl⟩
    go_wp2_with (go_at_call 51; refine Hid.out ?_)
    refine hide ?_
    refine HD.out.mono ?_
    rintro e w1 ⟨rfl, rfl⟩
    go_wp2_with fail
    go_ret
    exact ⟨rfl, HB.out⟩

/-- Try's own test of a link's kind. -/
theorem try3_calls (q : PLink) (w : World) :
    Calls Try.prog 55 #[elink q] w fun e w' => e = .returned (.bool (decide (badLink q))) ∧ Below w.heap.size w w' := by
  obtain ⟨qk, qs, qd⟩ := q
  unfold elink badLink
  simp only
  have HB : Hid (Below w.heap.size w (w.alloc (.cells #[.int .i64 qk, .int .i64 qs, .int .i64 qd] 30))) := hide ((Below.refl _ _).alloc (Nat.le_refl _) _)
  by_cases h1 : qk = 1
  · subst h1
    by_cases h3 : qs = qd
    · subst h3
      go_enter Try.func55, Try.ntmps55
      go_wp2
      go_ret
      exact ⟨by simp, HB.out⟩
    · have e3 : (qs == qd) = false := by simpa using h3
      go_enter Try.func55, Try.ntmps55
      go_wp2
      go_ret
      exact ⟨by simp [h3], HB.out⟩
  · have e1 : (qk != 1) = true := by simpa using h1
    by_cases h2 : qk = 2
    · subst h2
      by_cases h3 : qs = qd
      · subst h3
        go_enter Try.func55, Try.ntmps55
        go_wp2
        go_ret
        exact ⟨by simp, HB.out⟩
      · have e3 : (qs == qd) = false := by simpa using h3
        go_enter Try.func55, Try.ntmps55
        go_wp2
        go_ret
        exact ⟨by simp [h3], HB.out⟩
    · have e2 : (qk != 2) = true := by simpa using h2
      go_enter Try.func55, Try.ntmps55
      go_wp2
      go_ret
      exact ⟨by simp [h1, h2], HB.out⟩

theorem enters54 : Enters Try.prog 54 := enters_of Try.func54 (by kernel_rfl) rfl
theorem enters55 : Enters Try.prog 55 := enters_of Try.func55 (by kernel_rfl) rfl

/-- What the tests of Try come to. -/
theorem tryG_long {G : Gra} {l : List PLink} (h : G.ls.length + l.length > 120) : tryG G l = 2 := by unfold tryG; rw [if_pos h]
theorem tryG_index {G : Gra} {l : List PLink} (h : ¬ G.ls.length + l.length > 120) (h2 : ∃ x ∈ l, ¬ linkIn G.c x) : tryG G l = 3 := by unfold tryG; rw [if_neg h, if_pos h2]
theorem tryG_arg {G : Gra} {l : List PLink} (h : ¬ G.ls.length + l.length > 120) (h2 : ¬ ∃ x ∈ l, ¬ linkIn G.c x) (h3 : ∃ x ∈ l, badLink x) : tryG G l = 1 := by unfold tryG; rw [if_neg h, if_neg h2, if_pos h3]
theorem tryG_cycle {G : Gra} {l : List PLink} (h : ¬ G.ls.length + l.length > 120) (h2 : ¬ ∃ x ∈ l, ¬ linkIn G.c x) (h3 : ¬ ∃ x ∈ l, badLink x) (h4 : circleG G l) : tryG G l = 24 := by unfold tryG; rw [if_neg h, if_neg h2, if_neg h3, if_pos h4]
theorem tryG_ok {G : Gra} {l : List PLink} (h : ¬ G.ls.length + l.length > 120) (h2 : ¬ ∃ x ∈ l, ¬ linkIn G.c x) (h3 : ¬ ∃ x ∈ l, badLink x) (h4 : ¬ circleG G l) : tryG G l = 0 := by unfold tryG; rw [if_neg h, if_neg h2, if_neg h3, if_neg h4]

set_option maxHeartbeats 4000000 in
set_option maxRecDepth 100000 in
theorem try_calls (g : Nat) (F : Nat → Prop) (G : Gra) (a : Option Addr) (n cp : Nat) (l : List PLink) (w : World) (h : GraAt w g F G) (hl : LinksArg w a n cp l) :
    Calls Try.prog 22 #[.pointer (some ⟨g, 0, none⟩), .slice a n cp] w fun e w' => e = .returned (.int .i64 (tryG G l)) ∧ Below w.heap.size w w' := by
  have HG := hide h
  obtain ⟨u, lv, Fu, hp, _⟩ := h
  obtain ⟨la, lc, hlv, hc0, hc1, hla⟩ := hp.reads
  have hgs := hp.lt
  have hfewG := hp.ok.few
  have hln := hl.1
  have hnm := hl.2.1
  obtain ⟨w2, hw2⟩ : ∃ w2, (w.alloc (.cells #[.pointer (some ⟨g, 0, none⟩)] 24)).alloc (.cells #[.func (.func 51) #[] #[.pointer (some ⟨w.heap.size, 0, none⟩)]] 93) = w2 := ⟨_, rfl⟩
  have hb2 : Below w.heap.size w w2 := by rw [← hw2]; exact ((Below.refl _ _).alloc (Nat.le_refl _) _).alloc (by simp) _
  have hs2 : w2.heap.size = w.heap.size + 2 := by rw [← hw2]; simp
  have hx2 : w2.cell? ⟨w.heap.size, 0, none⟩ = some (.pointer (some ⟨g, 0, none⟩)) := by
    have e2 : w2.heap[w.heap.size]? = some (.cells #[.pointer (some ⟨g, 0, none⟩)] 24 (0, 0)) := by rw [← hw2, Below.heap_alloc _ _ _ (by simp)]; exact heap_alloc_new w _
    exact box_cell e2
  have hy2 : w2.cell? ⟨w.heap.size + 1, 0, none⟩ = some (.func (.func 51) #[] #[.pointer (some ⟨w.heap.size, 0, none⟩)]) := by
    have e2 := heap_alloc_new (w.alloc (.cells #[.pointer (some ⟨g, 0, none⟩)] 24)) (.cells #[.func (.func 51) #[] #[.pointer (some ⟨w.heap.size, 0, none⟩)]] 93)
    rw [hw2] at e2
    simp at e2
    exact box_cell e2
  have hc1' : w2.cell? ⟨g, 1, none⟩ = some (.slice la G.ls.length lc) := (hb2.cell (p := ⟨g, 1, none⟩) hgs).trans hc1
  have hg2 := (hb2.cell (p := ⟨g, 0, none⟩) hgs).trans hc0
  have HU := hide (hp.uf.below hb2)
  have H2 : Hid (Calls Try.prog 53 #[.slice a n cp, .func (.func 54) #[] #[.pointer (some ⟨w.heap.size + 1, 0, none⟩)]] w2 fun e w' => e = .returned (.bool (decide (∃ x ∈ l, ¬ linkIn G.c x))) ∧ Below w2.heap.size w2 w') := hide
    (containsFunc_link 54 enters54 #[.pointer (some ⟨w.heap.size + 1, 0, none⟩)] (fun x => ¬ linkIn G.c x) a n cp l w2 hl.1 hl.2.1 (hl.below hb2).2.2.2 (fun x _ W hW =>
      try2_calls x (w.heap.size + 1) w.heap.size g u Fu G.c W ((hW.cell (p := ⟨w.heap.size + 1, 0, none⟩) (by show w.heap.size + 1 < _; omega)).trans hy2) ((hW.cell (p := ⟨w.heap.size, 0, none⟩) (by show w.heap.size < _; omega)).trans hx2) ((hW.cell (p := ⟨g, 0, none⟩) (by show g < _; omega)).trans hg2) (HU.out.below hW) (by have := hW.size; omega) (by have := hW.size; omega) (by have := hW.size; omega)))
  have H3 : Hid (∀ W, Below w2.heap.size w2 W → Calls Try.prog 53 #[.slice a n cp, .func (.func 55) #[] #[]] W fun e w' => e = .returned (.bool (decide (∃ x ∈ l, badLink x))) ∧ Below W.heap.size W w') := hide fun W hW =>
    containsFunc_link 55 enters55 #[] badLink a n cp l W hl.1 hl.2.1 ((hl.below hb2).below hW).2.2.2 (fun x _ V hV => try3_calls x V)
  have HL := hide hl
  have HB2 := hide hb2
  have HX2 := hide hx2
  obtain ⟨m, hm⟩ : ∃ m, G.ls.length = m := ⟨_, rfl⟩
  have h4 := @tryG_long G l
  have h5 := @tryG_index G l
  have h6 := @tryG_arg G l
  have h7 := @tryG_cycle G l
  have h8 := @tryG_ok G l
  rw [hm, hln] at h4 h5 h6 h7 h8
  have HT := hide (And.intro h4 (And.intro h5 (And.intro h6 (And.intro h7 h8))))
  rw [hm] at hc1' hfewG
  clear h4 h5 h6 h7 h8 hp hc0 hc1 hla hlv hl hb2 hg2 HU hm
  by_cases hlong : m + n > 120
  · rw [HT.out.1 hlong]
    clear hy2
    go_enter Try.func22, Try.ntmps22
    go_wp2_with fail
    go_ret
    exact ⟨rfl, HB2.out⟩
  · by_cases hidx : ∃ x ∈ l, ¬ linkIn G.c x
    · rw [HT.out.2.1 hlong hidx]
      rw [decide_eq_true hidx] at H2
      clear hy2 hidx
      go_enter Try.func22, Try.ntmps22
      go_wp2_with (go_at_call 53; refine H2.out.mono ?_; rintro e w3 ⟨rfl, hb3⟩; have HB3 := hide (HB2.out.trans (hb3.mono HB2.out.size)); clear hb3)
      go_ret
      exact ⟨rfl, HB3.out⟩
    · have hin : ∀ x ∈ l, linkIn G.c x := fun x hx => Classical.byContradiction fun hn => hidx ⟨x, hx, hn⟩
      have HCI : Hid (n ≤ 1000 → ∀ W, Below w.heap.size w W → Calls Try.prog 56 #[.pointer (some ⟨g, 0, none⟩), .slice a n cp] W fun e w' => e = .returned (.bool (decide (circleG G l))) ∧ Below W.heap.size W w') := hide fun hq W hW =>
        circle_calls g F G a n cp l W (HG.out.below hW) (HL.out.below hW) hq hin
      have hn1 : n ≤ 1000 := by omega
      have HCI := hide (HCI.out hn1)
      by_cases hbad : ∃ x ∈ l, badLink x
      · rw [HT.out.2.2.1 hlong hidx hbad]
        rw [decide_eq_false hidx] at H2
        rw [decide_eq_true hbad] at H3
        clear hy2 hidx hbad hin HCI
        go_enter Try.func22, Try.ntmps22
        go_wp2_with (go_at_call 53; refine Hid.out ?_)
        refine hide ?_
        refine H2.out.mono ?_
        rintro e w3 ⟨rfl, hb3⟩
        have HB3 := hide (HB2.out.trans (hb3.mono HB2.out.size))
        have HC3 := hide (H3.out w3 hb3)
        clear hb3
        go_wp2_with (go_at_call 53; refine HC3.out.mono ?_; rintro e w4 ⟨rfl, hb4⟩; have HB4 := hide (HB3.out.trans (hb4.mono HB3.out.size)); clear hb4)
        go_ret
        exact ⟨rfl, HB4.out⟩
      · have HEQ : Hid (tryG G l = if decide (circleG G l) = true then 24 else 0) := hide (by
          by_cases hc : circleG G l
          · rw [HT.out.2.2.2.1 hlong hidx hbad hc, if_pos (decide_eq_true hc)]
          · rw [HT.out.2.2.2.2 hlong hidx hbad hc, if_neg (by simpa using hc)])
        rw [HEQ.out]
        rw [decide_eq_false hidx] at H2
        rw [decide_eq_false hbad] at H3
        obtain ⟨bc, hbc⟩ : ∃ b, decide (circleG G l) = b := ⟨_, rfl⟩
        rw [hbc] at HCI ⊢
        clear hy2 hidx hbad hin hbc HEQ HT
        go_enter Try.func22, Try.ntmps22
        go_wp2_with (go_at_call 53; refine Hid.out ?_)
        refine hide ?_
        refine H2.out.mono ?_
        rintro e w3 ⟨rfl, hb3⟩
        have HB3 := hide (HB2.out.trans (hb3.mono HB2.out.size))
        have HC3 := hide (H3.out w3 hb3)
        have hx3 := (hb3.cell (p := ⟨w.heap.size, 0, none⟩) (by show w.heap.size < _; omega)).trans hx2
        have hsz3 := hb3.size
        clear hb3 hx2
        go_wp2_with (go_at_call 53; refine Hid.out ?_)
        refine hide ?_
        refine HC3.out.mono ?_
        rintro e w4 ⟨rfl, hb4⟩
        have HB4 := hide (HB3.out.trans (hb4.mono HB3.out.size))
        have HC4 := hide (HCI.out w4 HB4.out)
        have hx4 := (hb4.cell (p := ⟨w.heap.size, 0, none⟩) (by show w.heap.size < _; omega)).trans hx3
        clear hb4 hx3
        go_wp2_with (go_at_call 56; refine Hid.out ?_)
        refine hide ?_
        refine HC4.out.mono ?_
        rintro e w5 ⟨rfl, hb5⟩
        have HB5 := hide (HB4.out.trans (hb5.mono HB4.out.size))
        clear hb5 hx4
        cases bc
        · go_wp2_with fail
          go_ret
          exact ⟨by simp, HB5.out⟩
        · go_wp2_with fail
          go_ret
          exact ⟨by simp, HB5.out⟩
end Go.Proofs.Ytpkhmhfgnpnpfaa
