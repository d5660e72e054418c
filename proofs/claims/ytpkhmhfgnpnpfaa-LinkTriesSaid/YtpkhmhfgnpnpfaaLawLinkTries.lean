/- LinkTries: the walk. -/
import Derived.Test.YtpkhmhfgnpnpfaaLawLinkNone
import Derived.BigFrame
import Derived.Deep.CutRange
import Derived.Deep.CutBlock
import Derived.Deep.DeepCutAuto
namespace Go.Proofs.Ytpkhmhfgnpnpfaa
set_option linter.unusedSimpArgs false
set_option linter.unusedVariables false
open Go.RowKit
attribute [local go_sem] objAt_alloc objAt_alloc_at objAt_drew objAt_drewN objAt_setCell comesTo_value comesTo_enter

theorem LinksIn.block {w : World} {a : Option Addr} {l : List PLink} (h : LinksIn w a l) (hn : a = none → l.length = 0) : l = [] ∨ ∃ b off, a = some ⟨b, off, none⟩ ∧ b < w.heap.size := by
  cases l with
  | nil => exact .inl rfl
  | cons x l =>
    obtain ⟨b, off, h1, h2, _⟩ := h 0 x rfl
    exact .inr ⟨b, off, h1, h2⟩
/-- The graph g of the blocks F, as it stands before a call that may turn it. -/
theorem Gras.open {w0 W : World} {g : Nat} {G : Gra} (h : Gras w0 g G W) : ∃ F, GraAt W g F G ∧ (∀ j, F j → w0.heap.size ≤ j) ∧ ∀ j, F j → j < W.heap.size := by
  obtain ⟨F, h1, h2, _⟩ := h
  exact ⟨F, h1, h2, h1.lt⟩

set_option maxHeartbeats 8000000 in
set_option maxRecDepth 100000 in
theorem linkTries_walk (a0 : Int) (a1 : Option Addr) (len1 cap1 : Nat) (l1 : List PLink) (a2 : Option Addr) (len2 cap2 : Nat) (l2 : List PLink) (w : World) (hr1 : LinksRaw w a1 len1 cap1 l1) (hr2 : LinksRaw w a2 len2 cap2 l2) :
    Calls Try.prog 5 #[.int .i64 a0, .slice a1 len1 cap1, .slice a2 len2 cap2] w fun e w' => e = .returned (.bool true) ∧ Below w.heap.size w w' := by
  obtain ⟨i0, hi, hz0, hz1, hz2⟩ := info_parts linkInfo
  have hm1 : len1 ≤ 9223372036854775807 := by have := hr1.2.1; unfold maxLen at this; omega
  have hm2 : len2 ≤ 9223372036854775807 := by have := hr2.2.1; unfold maxLen at this; omega
  by_cases hguard : 0 ≤ a0 ∧ a0 ≤ 30 ∧ len1 ≤ 60 ∧ len2 ≤ 60
  case neg =>
    have HAL := hide (alive18_calls w)
    clear hr1 hr2
    by_cases g1 : a0 < 0
    · go_enter Try.func5, Try.ntmps5
      go_wp2_with (go_at_call 12; refine HAL.out.mono ?_; rintro e w2 ⟨rfl, hb⟩; have HB := hide hb; clear hb)
      go_ret
      exact ⟨rfl, HB.out⟩
    · by_cases g2 : (30 : Int) < a0
      · go_enter Try.func5, Try.ntmps5
        go_wp2_with (go_at_call 12; refine HAL.out.mono ?_; rintro e w2 ⟨rfl, hb⟩; have HB := hide hb; clear hb)
        go_ret
        exact ⟨rfl, HB.out⟩
      · by_cases g3 : (60 : Int) < (len1 : Int)
        · go_enter Try.func5, Try.ntmps5
          go_wp2_with (go_at_call 12; refine HAL.out.mono ?_; rintro e w2 ⟨rfl, hb⟩; have HB := hide hb; clear hb)
          go_ret
          exact ⟨rfl, HB.out⟩
        · have g4 : (60 : Int) < (len2 : Int) := by omega
          go_enter Try.func5, Try.ntmps5
          go_wp2_with (go_at_call 12; refine HAL.out.mono ?_; rintro e w2 ⟨rfl, hb⟩; have HB := hide hb; clear hb)
          go_ret
          exact ⟨rfl, HB.out⟩
  case pos =>
    obtain ⟨g1, g2, g3, g4⟩ := hguard
    obtain ⟨n, rfl⟩ : ∃ n : Nat, a0 = n := ⟨a0.toNat, by omega⟩
    have e1 : decide ((n : Int) < 0) = false := decide_eq_false (by omega)
    have e2 : decide ((30 : Int) < (n : Int)) = false := decide_eq_false (by omega)
    have e3 : decide ((60 : Int) < (len1 : Int)) = false := decide_eq_false (by omega)
    have e4 : decide ((60 : Int) < (len2 : Int)) = false := decide_eq_false (by omega)
    have HA1 := hide (hr1.arg (by omega))
    have HA2 := hide (hr2.arg (by omega))
    have hln1 := hr1.1
    have hln2 := hr2.1
    have HLT2 : Hid (∀ x, a2 = some x → x.block < w.heap.size ∨ l2 = []) := hide fun x hx => by
      rcases hr2.2.2.2.block (fun e => by rw [hr2.1]; exact (hr2.2.2.1 e).1) with e | ⟨b, off, e, hb⟩
      · exact .inr e
      · rw [e] at hx
        simp only [Option.some.injEq] at hx
        subst hx
        exact .inl hb
    have HNEW := hide (gr_new (w0 := w) n (by omega) w (Below.refl _ _))
    clear hr1 hr2
    go_enter Try.func5, Try.ntmps5
    go_wp2_with (go_at_call 13; refine Hid.out ?_)
    refine hide ?_
    refine HNEW.out.mono ?_
    rintro e w1 ⟨g, rfl, hg⟩
    have HG := hide hg
    clear hg HNEW
    go_wp2_with fail
    go_loopw [9] (fun i wr => ∃ (k : Nat) (G : Gra), k ≤ len1 ∧ i = .int .i64 k ∧ Hid (Gras w g G wr)) (fun i _ => len1 - (intOf i).toNat)
    case atStart => exact ⟨0, _, by omega, rfl, HG⟩
    case round =>
      clear HG
      obtain ⟨k, G, hk, rfl, hg⟩ := hrel
      by_cases hlt : k < len1
      · obtain ⟨x, hx⟩ : ∃ x, l1[k]? = some x := ⟨l1[k]'(by omega), List.getElem?_eq_getElem (by omega)⟩
        obtain ⟨b, off, rfl, hb0, q1, q2, q3⟩ := (HA1.out.below hg.out.below).2.2.2 k _ hx
        have HADD := hide (gr_add1 hg.out x)
        obtain ⟨xk, xs, xd⟩ := x
        simp only at q1 q2 q3 HADD
        clear hx
        go_wp2_with (go_at_call 14; refine HADD.out.mono ?_; rintro e w3 ⟨rfl, hg3⟩; have HG3 := hide hg3; clear hg3)
        exact ⟨⟨k + 1, _, by omega, by go_num, HG3⟩, by simp [intOf]; omega⟩
      · have hkn : k = len1 := by omega
        subst hkn
        -- Links, Order, Try, Links
        obtain ⟨F, hga, hF0, hFl⟩ := hg.out.open
        have hbw := hg.out.below
        go_wp2_with (go_at_call 20; refine Hid.out ?_)
        refine hide ?_
        refine (links_calls hga).mono ?_
        rintro e w2 ⟨v2, rfl, hv2, hb2⟩
        obtain ⟨wa, wc, rfl, hwl, hwb, hwn⟩ := row_links hv2
        have hwF : Clear wa F := fun x hx hF => by
          have h1 := (hv2.lt _ (hwb x hx)).1
          have h2 := hFl _ hF
          omega
        have HW2 := hide hwl
        have HGA2 := hide (hga.below hb2)
        have hs2 := hb2.size
        have hb02 := hbw.trans (hb2.mono hbw.size)
        clear hv2 hwl hb2 hga hbw
        go_wp2_with (go_at_call 19; refine Hid.out ?_)
        refine hide ?_
        refine (gorder_calls HGA2.out).mono ?_
        rintro e w3 ⟨v3, rfl, hv3, hb3⟩
        obtain ⟨oa, oc, rfl⟩ := rows_len hv3
        have HR3 := hide hv3
        have HW3 := hide (HW2.out.below hb3)
        have HGA3 := hide (HGA2.out.below hb3)
        have hs3 := hb3.size
        have hb03 := hb02.trans (hb3.mono hb02.size)
        clear hv3 hb3 hb02 HW2 HGA2
        go_wp2_with (go_at_call 22; refine Hid.out ?_)
        refine hide ?_
        refine (try_calls g F G a2 len2 cap2 l2 w3 HGA3.out (HA2.out.below hb03)).mono ?_
        rintro e w4 ⟨rfl, hb4⟩
        have HR4 := hide (HR3.out.below hb4)
        have HW4 := hide (HW3.out.below hb4)
        have HGA4 := hide (HGA3.out.below hb4)
        have hs4 := hb4.size
        have hb04 := hb03.trans (hb4.mono hb03.size)
        clear hb4 hb03 HR3 HW3 HGA3
        go_wp2_with (go_at_call 20; refine Hid.out ?_)
        refine hide ?_
        refine (links_calls HGA4.out).mono ?_
        rintro e w5 ⟨v5, rfl, hv5, hb5⟩
        obtain ⟨ma, mc, rfl, hml, hmb, hmn⟩ := row_links hv5
        have hmF : Clear ma F := fun x hx hF => by
          have h1 := (hv5.lt _ (hmb x hx)).1
          have h2 := hFl _ hF
          omega
        have HM5 := hide hml
        have HR5 := hide (HR4.out.below hb5)
        have HW5 := hide (HW4.out.below hb5)
        have HGA5 := hide (HGA4.out.below hb5)
        have hs5 := hb5.size
        have hb05 := hb04.trans (hb5.mono hb04.size)
        clear hv5 hml hb5 hb04 HR4 HW4 HGA4
        have hcl2 : Clear a2 F ∨ l2 = [] := by
          by_cases he : l2 = []
          · exact .inr he
          · refine .inl fun x hx hF => ?_
            rcases HLT2.out x hx with e | e
            · have := hF0 _ hF; omega
            · exact he e
        go_wp2_with (go_at_call 14; refine Hid.out ?_)
        refine hide ?_
        refine (add_calls HGA5.out (HA2.out.below hb05) hcl2).mono ?_
        rintro e w6 ⟨rfl, F6, hga6, hf6, hF6⟩
        have HM6 := hide (HM5.out.frm hf6 hmF)
        have HW6 := hide (HW5.out.frm hf6 hwF)
        have HR6 := hide (HR5.out.frm hf6 (fun j hj => .inl (by have := hFl j hj; omega)))
        have HGA6 := hide hga6
        have hb06 : Below w.heap.size w w6 := hb05.trans (hf6.below hb05.size hF0)
        have hs6 := hf6.size
        clear hf6 hga6 HM5 HW5 HR5 HGA5 hcl2 hb05 hF6
        -- Links, Order
        go_wp2_with (go_at_call 20; refine Hid.out ?_)
        refine hide ?_
        refine (links_calls HGA6.out).mono ?_
        rintro e w7 ⟨v7, rfl, hv7, hb7⟩
        obtain ⟨na, nc, rfl, hnl, _, hnn⟩ := row_links hv7
        have HN7 := hide hnl
        have HM7 := hide (HM6.out.below hb7)
        have HR7 := hide (HR6.out.below hb7)
        have HW7 := hide (HW6.out.below hb7)
        have HGA7 := hide (HGA6.out.below hb7)
        have hs7 := hb7.size
        have hb07 := hb06.trans (hb7.mono hb06.size)
        clear hv7 hnl hb7 hb06 HM6 HR6 HW6 HGA6
        go_wp2_with (go_at_call 19; refine Hid.out ?_)
        refine hide ?_
        refine (gorder_calls HGA7.out).mono ?_
        rintro e w8 ⟨v8, rfl, hv8, hb8⟩
        obtain ⟨pa, pc, rfl, hp8⟩ := rowsAt_in hv8
        obtain ⟨oa', oc', e', ho8⟩ := rowsAt_in HR7.out
        simp only [Value.slice.injEq] at e'
        obtain ⟨rfl, -, rfl⟩ := e'
        have HP8 := hide hp8
        have HO8 := hide (ho8.below hb8)
        have HN8 := hide (HN7.out.below hb8)
        have HM8 := hide (HM7.out.below hb8)
        have HW8 := hide (HW7.out.below hb8)
        have HB8 := hide (hb07.trans (hb8.mono hb07.size))
        clear hv8 hp8 ho8 hb8 hb07 HN7 HM7 HW7 HR7 HGA7
        obtain ⟨t, ht⟩ : ∃ t, tryG G l2 = t := ⟨_, rfl⟩
        have HT := hide ht
        rw [ht]
        obtain ⟨G', hG'⟩ : ∃ G', addG G l2 = G' := ⟨_, rfl⟩
        rw [hG'] at HP8 HN8 ⊢
        have HAD := hide hG'
        have hok' : G'.ls.length ≤ 120 := by rw [← hG']; exact (addG_ok hg.out.ok l2).few
        have hok : G.ls.length ≤ 120 := hg.out.ok.few
        have HSML : Hid (G.c.n ≤ 1000) := hide hg.out.ok.small
        have HSM := hide (same_links wa ma G.ls.length G.ls.length wc mc G.ls G.ls w8 rfl rfl (by omega) HW8.out HM8.out)
        rw [decide_eq_true rfl] at HSM
        obtain ⟨m, hm⟩ : ∃ m, G.ls.length = m := ⟨_, rfl⟩
        obtain ⟨m', hm'⟩ : ∃ m, G'.ls.length = m := ⟨_, rfl⟩
        have HMM := hide (And.intro hm hm')
        rw [hm] at HSM hok hwn ⊢
        rw [hm'] at hok' ⊢
        clear ht hG' hg HM8 hm hm' hnn hmn hmF hwF hFl hF0
        have htt : (t != t) = false := by simp
        go_wp2_with (go_at_call 23; refine Hid.out ?_)
        refine hide ?_
        refine HSM.out.mono ?_
        rintro e w9 ⟨rfl, hb9⟩
        have HB9 := hide (HB8.out.trans (hb9.mono HB8.out.size))
        have HP9 := hide (HP8.out.below hb9)
        have HO9 := hide (HO8.out.below hb9)
        have HN9 := hide (HN8.out.below hb9)
        have HW9 := hide (HW8.out.below hb9)
        have hs9 := hb9.size
        clear hb9 HP8 HO8 HN8 HW8 HSM
        by_cases h0 : t = 0
        · subst h0
          have HG'' : Hid (G'.ls = G.ls ++ l2) := hide (by rw [← HAD.out]; unfold addG; rw [if_pos HT.out])
          go_wp2_with (go_at_call 12; refine Hid.out ?_)
          refine hide ?_
          refine (alive18_calls w9).mono ?_
          rintro e w10 ⟨rfl, hb10⟩
          have HB10 := hide (HB9.out.trans (hb10.mono HB9.out.size))
          have HN10 := hide (HN9.out.below hb10)
          have HW10 := hide (HW9.out.below hb10)
          clear hb10 HN9 HW9 HP9 HO9
          go_wp2_with (at_builtin; refine Hid.out ?_)
          refine hide ?_
          refine BigFrame.wpList_want (by rfl) fun K hK => ?_
          refine append_cells (.const (.slice none 0 0)) (.tmp 85) _ 30 rfl w10.heap.size i0 _ 3 24 Try.underlying22 hi hz0 hz1 hz2 rfl (by decide) (.slice none 0 0) 0 [] rfl (World.ownsRow_nil _ _ _ _) wa m wc (G.ls.flatMap lcells) rfl (by rw [flat_length lcells 3 lcells_len, HMM.out.1]) hwn HW10.out.cells (lcells_all _) (by unfold maxLen; omega) (by omega) (Nat.le_refl _) ?_
          intro v11 w11 hown11 hgrow11
          refine hK _ _ ?_
          have hb11 : Below w10.heap.size w10 w11 := by
            have hf : Frm None w10 w11 := (Frm.refl _ _).grown hgrow11 fun q hq => by simp [Value.ownBlock] at hq
            exact hf.below (Nat.le_refl _) fun j hj => hj.elim
          simp only [Nat.zero_add, List.nil_append] at hown11
          have HO11 := hide hown11
          have HBX := hide hb11
          have HB11 := hide (HB10.out.trans (hb11.mono HB10.out.size))
          have hs11 := hb11.size
          have HA11 := hide (HA2.out.below HB11.out)
          clear hown11 hgrow11 hb11 hK K HW10
          go_wp2_with (at_builtin; refine Hid.out ?_)
          refine hide ?_
          refine BigFrame.wpList_want (by rfl) fun K hK => ?_
          refine append_cells (.tmp 86) (.tmp 87) _ 30 rfl w10.heap.size i0 _ 3 24 Try.underlying22 hi hz0 hz1 hz2 rfl (by decide) v11 m (G.ls.flatMap lcells) rfl HO11.out a2 len2 cap2 (l2.flatMap lcells) rfl (by rw [flat_length lcells 3 lcells_len, hln2]) HA11.out.2.2.1 HA11.out.cells (lcells_all _) (by unfold maxLen; omega) (by omega) hs11 ?_
          intro v12 w12 hown12 hgrow12
          refine hK _ _ ?_
          have hb12 : Below w10.heap.size w11 w12 := by
            have hf : Frm (fun j => v11.ownBlock = some j) w11 w12 := (Frm.refl _ _).grown hgrow12 fun q hq => .inl hq
            exact hf.below hs11 fun j hj => (HO11.out.lt j hj).1
          rw [← List.flatMap_append] at hown12
          have hlen12 : (G.ls ++ l2).length = m + len2 := by rw [List.length_append, HMM.out.1, hln2]
          obtain ⟨xa, xc, rfl, hxl, _, _⟩ := row_links (by rw [hlen12]; exact hown12)
          have hb1012 := HBX.out.trans hb12
          have hs12 := hb12.size
          have HSL := hide (same_links na xa m' (m + len2) nc xc G'.ls (G.ls ++ l2) w12 HMM.out.2 hlen12 (by omega) (HN10.out.below hb1012) hxl)
          rw [HG''.out, decide_eq_true rfl] at HSL
          have HB12 := hide (HB10.out.trans (hb1012.mono HB10.out.size))
          clear hown12 hgrow12 hb12 hxl hb1012 hK K
          go_wp2_with (go_at_call 23; refine Hid.out ?_)
          refine hide ?_
          refine HSL.out.mono ?_
          rintro e w13 ⟨rfl, hb13⟩
          have HB13 := hide (HB12.out.trans (hb13.mono HB12.out.size))
          clear hb13
          go_wp2_with fail
          go_ret
          exact ⟨rfl, HB13.out⟩
        · have hne0 : (t == 0) = false := by simpa using h0
          have HGG : Hid (G' = G) := hide (by rw [← HAD.out]; exact addG_same (by rw [HT.out]; exact h0))
          have hmm : m' = m := by rw [← HMM.out.1, ← HMM.out.2, HGG.out]
          have HPO : Hid (RowsIn w9 pa (orderG G)) := hide (by rw [← HGG.out]; exact HP9.out)
          have HNG : Hid (LinksIn w9 na G.ls) := hide (by rw [← HGG.out]; exact HN9.out)
          have hlo : (orderG G').length = (orderG G).length := by rw [HGG.out]
          have hol : (orderG G).length ≤ 1000 := by
            unfold orderG
            rw [List.length_map]
            have h1 := (orderC_walked (c := G.c) (ls := G.ls)).length
            have h2 := List.length_filter_le (fun h => decide (G.c.f h = h)) (nums G.c.n)
            rw [nums_length] at h2
            have h3 := HSML.out
            unfold headsC at h1
            omega
          rw [hlo, hmm]
          clear HP9 HN9 hmm hlo h0
          obtain ⟨om, hom⟩ : ∃ om, (orderG G).length = om := ⟨_, rfl⟩
          have HOM := hide hom
          rw [hom] at hol ⊢
          clear hom
          obtain ⟨wo, rfl⟩ : ∃ wo : World, wo = w9 := ⟨_, rfl⟩
          go_wp2_with fail
          go_loopw [17] (fun i wr => ∃ j : Nat, j ≤ om ∧ i = .int .i64 j ∧ Hid (Below wo.heap.size wo wr)) (fun i _ => om - (intOf i).toNat)
          case atStart => exact ⟨0, by omega, rfl, hide (Below.refl _ _)⟩
          case round =>
            obtain ⟨j, hj, rfl, hbr⟩ := hrel
            by_cases hjl : j < om
            · obtain ⟨x, hx⟩ : ∃ x, (orderG G)[j]? = some x := ⟨(orderG G)[j]'(by have := HOM.out; omega), List.getElem?_eq_getElem _⟩
              obtain ⟨r1, o1, ra1, rc1, rfl, hr1, q1, i1⟩ := (HO9.out.below hbr.out) j x hx
              obtain ⟨r2, o2, ra2, rc2, rfl, hr2, q2, i2⟩ := (HPO.out.below hbr.out) j x hx
              have hxl : x.length ≤ 1000 := by
                have hmem := List.mem_of_getElem? hx
                unfold orderG at hmem
                obtain ⟨h, _, rfl⟩ := List.mem_map.1 hmem
                unfold classC
                split
                · simp
                · have h2 := List.length_filter_le (fun j => decide (G.c.f j = G.c.f h)) (nums G.c.n)
                  rw [nums_length] at h2
                  have := HSML.out
                  omega
              obtain ⟨xn, hxn⟩ : ∃ xn, x.length = xn := ⟨_, rfl⟩
              have HSI : Hid (∀ W, New wr W → Calls Try.prog 21 #[.slice ra1 xn rc1, .slice ra2 xn rc2] W fun e w' => e = .returned (.bool true) ∧ New W w') := hide fun W hW => by
                have := same_ints ra1 ra2 xn xn rc1 rc2 x x W hxn hxn (by omega) (i1.below hW) (i2.below hW)
                rwa [decide_eq_true rfl] at this
              rw [hxn] at q1 q2
              have HF : Hid (∀ W, New wr W → W.cell? ⟨r1, o1 + j, none⟩ = some (.slice ra1 xn rc1) ∧ W.cell? ⟨r2, o2 + j, none⟩ = some (.slice ra2 xn rc2)) := hide fun W hW =>
                ⟨(Below.cell hW (p := ⟨r1, o1 + j, none⟩) hr1).trans q1, (Below.cell hW (p := ⟨r2, o2 + j, none⟩) hr2).trans q2⟩
              clear hx q1 q2 i1 i2 hxn hxl
              go_wp2_with fail
              refine region_by New way_new 10 10 (fun W => New wr W) (by kernel_rfl) (by kernel_rfl) (fun _ _ d _ _ h => by cases d <;> exact h) (fun x y h hx => way_new.trans hx h) (Below.refl _ _).drew (fun KT hKT => ?_)
              simp only [List.take_succ_cons, List.take_zero]
              refine Lex.want (v := ?_) (by rfl) (fun W hW => ?hd1) ?_
              case hd1 =>
                have hh := HF.out W hW
                clear hW
                go_split_ands
                go_simp
                first | rfl | exact way_new.refl _ | exact way_grow.refl _ | (refine ⟨?_, way_new.refl _⟩; rfl) | (refine ⟨?_, way_grow.refl _⟩; rfl)
              try simp only [Act.put, List.setIfInBounds_toArray, List.set_cons_zero, List.set_cons_succ, List.getElem_toArray, List.getElem_cons_zero, List.getElem_cons_succ]
              refine Lex.want (v := ?_) (by rfl) (fun W hW => ?hd2) ?_
              case hd2 =>
                have hh := HF.out W hW
                clear hW
                go_split_ands
                go_simp
                first | rfl | exact way_new.refl _ | exact way_grow.refl _ | (refine ⟨?_, way_new.refl _⟩; rfl) | (refine ⟨?_, way_grow.refl _⟩; rfl)
              try simp only [Act.put, List.setIfInBounds_toArray, List.set_cons_zero, List.set_cons_succ, List.getElem_toArray, List.getElem_cons_zero, List.getElem_cons_succ]
              refine Lex.want (v := ?_) (by rfl) (fun W hW => ?hd3) ?_
              case hd3 =>
                have hh := HF.out W hW
                clear hW
                go_split_ands
                go_simp
                first | rfl | exact way_new.refl _ | exact way_grow.refl _ | (refine ⟨?_, way_new.refl _⟩; rfl) | (refine ⟨?_, way_grow.refl _⟩; rfl)
              try simp only [Act.put, List.setIfInBounds_toArray, List.set_cons_zero, List.set_cons_succ, List.getElem_toArray, List.getElem_cons_zero, List.getElem_cons_succ]
              refine Lex.want (v := ?_) (by rfl) (fun W hW => ?hd4) ?_
              case hd4 =>
                have hh := HF.out W hW
                clear hW
                go_split_ands
                go_simp
                first | rfl | exact way_new.refl _ | exact way_grow.refl _ | (refine ⟨?_, way_new.refl _⟩; rfl) | (refine ⟨?_, way_grow.refl _⟩; rfl)
              try simp only [Act.put, List.setIfInBounds_toArray, List.set_cons_zero, List.set_cons_succ, List.getElem_toArray, List.getElem_cons_zero, List.getElem_cons_succ]
              refine Lex.want (v := ?_) (by rfl) (fun W hW => ?hd5) ?_
              case hd5 =>
                have hh := HF.out W hW
                clear hW
                go_split_ands
                go_simp
                first | rfl | exact way_new.refl _ | exact way_grow.refl _ | (refine ⟨?_, way_new.refl _⟩; rfl) | (refine ⟨?_, way_grow.refl _⟩; rfl)
              try simp only [Act.put, List.setIfInBounds_toArray, List.set_cons_zero, List.set_cons_succ, List.getElem_toArray, List.getElem_cons_zero, List.getElem_cons_succ]
              refine Lex.want (v := ?_) (by rfl) (fun W hW => ?hd6) ?_
              case hd6 =>
                have hh := HF.out W hW
                clear hW
                go_split_ands
                go_simp
                first | rfl | exact way_new.refl _ | exact way_grow.refl _ | (refine ⟨?_, way_new.refl _⟩; rfl) | (refine ⟨?_, way_grow.refl _⟩; rfl)
              try simp only [Act.put, List.setIfInBounds_toArray, List.set_cons_zero, List.set_cons_succ, List.getElem_toArray, List.getElem_cons_zero, List.getElem_cons_succ]
              refine Lex.want (v := ?_) (by rfl) (fun W hW => ?hd7) ?_
              case hd7 =>
                have hh := HF.out W hW
                clear hW
                go_split_ands
                go_simp
                first | rfl | exact way_new.refl _ | exact way_grow.refl _ | (refine ⟨?_, way_new.refl _⟩; rfl) | (refine ⟨?_, way_grow.refl _⟩; rfl)
              try simp only [Act.put, List.setIfInBounds_toArray, List.set_cons_zero, List.set_cons_succ, List.getElem_toArray, List.getElem_cons_zero, List.getElem_cons_succ]
              refine Lex.want (v := ?_) (by rfl) (fun W hW => ?hd8) ?_
              case hd8 =>
                have hh := HF.out W hW
                clear hW
                go_split_ands
                go_simp
                first | rfl | exact way_new.refl _ | exact way_grow.refl _ | (refine ⟨?_, way_new.refl _⟩; rfl) | (refine ⟨?_, way_grow.refl _⟩; rfl)
              try simp only [Act.put, List.setIfInBounds_toArray, List.set_cons_zero, List.set_cons_succ, List.getElem_toArray, List.getElem_cons_zero, List.getElem_cons_succ]
              refine Lex.want (v := ?_) (by rfl) (fun W hW => ?hd9) ?_
              case hd9 =>
                have hcc := hide (HSI.out W hW)
                go_simp
                exact hcc
              try simp only [Act.put, List.setIfInBounds_toArray, List.set_cons_zero, List.set_cons_succ, List.getElem_toArray, List.getElem_cons_zero, List.getElem_cons_succ]
              refine Lex.want (v := ?_) (by rfl) (fun W hW => ?hd10) ?_
              case hd10 =>
                have hh := HF.out W hW
                clear hW
                go_split_ands
                go_simp
                first | rfl | exact way_new.refl _ | exact way_grow.refl _ | (refine ⟨?_, way_new.refl _⟩; rfl) | (refine ⟨?_, way_grow.refl _⟩; rfl)
              try simp only [Act.put, List.setIfInBounds_toArray, List.set_cons_zero, List.set_cons_succ, List.getElem_toArray, List.getElem_cons_zero, List.getElem_cons_succ]
              refine Lex.nil (hKT.out _ ?_)
              clear hKT KT
              refine Reg.done (by kernel_rfl) (fun W hW hWT => ⟨by kernel_rfl, ?_⟩)
              simp only [List.drop_succ_cons, List.drop_zero]
              clear HF HSI
              have HB9' := hide (hbr.out.trans (Below.mono hWT hbr.out.size))
              go_wp2_with fail
              exact ⟨⟨j + 1, by omega, by go_num, HB9'⟩, by simp [intOf]; omega⟩
            · have hjm : j = om := by omega
              subst hjm
              have HSL := hide (fun W hW => same_links wa na m m wc nc G.ls G.ls W HMM.out.1 HMM.out.1 (by omega) ((HW9.out.below hbr.out).below hW) ((HNG.out.below hbr.out).below hW))
              have HBZ := hide (HB9.out.trans (hbr.out.mono HB9.out.size))
              clear HO9 HPO HW9 HNG
              go_wp2_with (go_at_call 12; refine Hid.out ?_)
              refine hide ?_
              refine (alive18_calls wr).mono ?_
              rintro e w10 ⟨rfl, hb10⟩
              have hSL := HSL.out w10 hb10
              simp only [decide_true] at hSL
              have HS2 := hide hSL
              have HB10 := hide (HBZ.out.trans (hb10.mono HBZ.out.size))
              clear hSL hb10 HSL
              go_wp2_with (go_at_call 23; refine Hid.out ?_)
              refine hide ?_
              refine HS2.out.mono ?_
              rintro e w11 ⟨rfl, hb11⟩
              have HB11 := hide (HB10.out.trans (hb11.mono HB10.out.size))
              clear hb11
              go_wp2_with fail
              go_ret
              exact ⟨rfl, HB11.out⟩
end Go.Proofs.Ytpkhmhfgnpnpfaa
