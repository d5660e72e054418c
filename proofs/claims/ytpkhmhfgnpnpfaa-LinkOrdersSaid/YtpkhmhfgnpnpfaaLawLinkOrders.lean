/- LinkOrders: the walk. -/
import Derived.Test.YtpkhmhfgnpnpfaaDuo18
import Derived.Test.YtpkhmhfgnpnpfaaOpen18
import Derived.Test.YtpkhmhfgnpnpfaaGraL
import Derived.Test.YtpkhmhfgnpnpfaaLawLinkNear
namespace Go.Proofs.Ytpkhmhfgnpnpfaa
set_option linter.unusedSimpArgs false
set_option linter.unusedVariables false
open Go.RowKit
attribute [local go_sem] objAt_alloc objAt_alloc_at objAt_drew objAt_drewN objAt_setCell comesTo_value comesTo_enter

theorem orderG_class {G : Gra} {k : Nat} {l : List Int} (h : (orderG G)[k]? = some l) : ∃ a, (orderC G.c G.ls)[k]? = some a ∧ l = classC G.c a := by
  unfold orderG at h
  rw [List.getElem?_map, Option.map_eq_some_iff] at h
  obtain ⟨a, h1, h2⟩ := h
  exact ⟨a, h1, h2.symm⟩
theorem orderG_length (G : Gra) : (orderG G).length ≤ G.c.n := by
  unfold orderG
  rw [List.length_map]
  have h1 := (orderC_walked (c := G.c) (ls := G.ls)).length
  have h2 := List.length_filter_le (fun h => decide (G.c.f h = h)) (nums G.c.n)
  rw [nums_length] at h2
  unfold headsC at h1
  omega

set_option maxHeartbeats 16000000 in
set_option maxRecDepth 100000 in
theorem linkOrders_walk (a0 : Int) (a1 : Option Addr) (len1 cap1 : Nat) (l1 : List PLink) (w : World) (hr1 : LinksRaw w a1 len1 cap1 l1) :
    Calls Try.prog 4 #[.int .i64 a0, .slice a1 len1 cap1] w fun e w' => e = .returned (.bool true) ∧ Below w.heap.size w w' := by
  obtain ⟨i0, hi, hz0, hz1, hz2⟩ := info_parts ufIntInfo
  have hm1 : len1 ≤ 9223372036854775807 := by have := hr1.2.1; unfold maxLen at this; omega
  by_cases hguard : 1 ≤ a0 ∧ a0 ≤ 30 ∧ len1 ≤ 60
  case neg =>
    have HAL := hide (alive18_calls w)
    clear hr1
    by_cases g1 : a0 < 1
    · go_enter Try.func4, Try.ntmps4
      go_wp2_with (go_at_call 12; refine HAL.out.mono ?_; rintro e w2 ⟨rfl, hb⟩; have HB := hide hb; clear hb)
      go_ret
      exact ⟨rfl, HB.out⟩
    · by_cases g2 : (30 : Int) < a0
      · go_enter Try.func4, Try.ntmps4
        go_wp2_with (go_at_call 12; refine HAL.out.mono ?_; rintro e w2 ⟨rfl, hb⟩; have HB := hide hb; clear hb)
        go_ret
        exact ⟨rfl, HB.out⟩
      · have g3 : (60 : Int) < (len1 : Int) := by omega
        go_enter Try.func4, Try.ntmps4
        go_wp2_with (go_at_call 12; refine HAL.out.mono ?_; rintro e w2 ⟨rfl, hb⟩; have HB := hide hb; clear hb)
        go_ret
        exact ⟨rfl, HB.out⟩
  case pos =>
    obtain ⟨g1, g2, g3⟩ := hguard
    obtain ⟨n, rfl⟩ : ∃ n : Nat, a0 = n := ⟨a0.toNat, by omega⟩
    have e1 : decide ((n : Int) < 1) = false := decide_eq_false (by omega)
    have e2 : decide ((30 : Int) < (n : Int)) = false := decide_eq_false (by omega)
    have e3 : decide ((60 : Int) < (len1 : Int)) = false := decide_eq_false (by omega)
    have HA1 := hide (hr1.arg (by omega))
    have hln1 := hr1.1
    have HLT1 : Hid ((∀ y, a1 = some y → y.block < w.heap.size) ∨ l1 = []) := hide (by
      rcases hr1.2.2.2.block' (fun e => by rw [hr1.1]; exact (hr1.2.2.1 e).1) with e | ⟨b, off, e, hb⟩
      · exact .inr e
      · refine .inl fun y hy => ?_
        rw [e] at hy
        simp only [Option.some.injEq] at hy
        subst hy
        exact hb)
    have HNEW := hide (gr_new (w0 := w) n (by omega) w (Below.refl _ _))
    clear hr1
    go_enter Try.func4, Try.ntmps4
    go_wp2_with (go_at_call 13; refine Hid.out ?_)
    refine hide ?_
    refine HNEW.out.mono ?_
    rintro e w1 ⟨g, rfl, hg⟩
    go_wp2_with (go_at_call 13; refine Hid.out ?_)
    refine hide ?_
    refine (duo18_new n (by omega) hg).mono ?_
    rintro e w2 ⟨x, rfl, hd⟩
    have HD := hide hd
    have HFU := hide (full_new n)
    have HWO := hide (withOk_new n)
    have HNN : Hid ((⟨freshC n, []⟩ : Gra).c.n = n) := hide rfl
    clear hd hg HNEW
    go_wp2_with fail
    go_loopw [9, 10] (fun okv iv wr => ∃ (k : Nat) (G : Gra) (ob : Bool), k ≤ len1 ∧ iv = .int .i64 k ∧ okv = .bool ob ∧ Hid (ob = true → G = ⟨withC (freshC n) (l1.take k), l1.take k⟩) ∧ Hid (FullG G) ∧ Hid (WithOk G) ∧ Hid (G.c.n = n) ∧ Hid (Duo18 w g x G ⟨freshC n, []⟩ wr)) (fun _ iv _ => len1 - (intOf iv).toNat)
    case atStart => exact ⟨0, ⟨freshC n, []⟩, true, by omega, rfl, rfl, hide (fun _ => rfl), HFU, HWO, HNN, HD⟩
    case round =>
      clear HD HFU HWO HNN
      obtain ⟨k, G, ob, hk, rfl, rfl, heq, hfu, hwo, hnn, hd⟩ := hrel
      by_cases hlt : k < len1
      · as_aux_lemma =>
          obtain ⟨q, hq⟩ : ∃ q, l1[k]? = some q := ⟨l1[k]'(by omega), List.getElem?_eq_getElem (by omega)⟩
          have htk := take_snoc hq
          go_wp2_with (go_at_call 19; refine Hid.out ?_)
          refine hide ?_
          refine (gr_order hd.out.left).mono ?_
          rintro e w3 ⟨wa, wc, rfl, _, hb3⟩
          have HD3 := hide (hd.out.step hb3)
          obtain ⟨b, off, rfl, hb0, q1, q2, q3⟩ := (HA1.out.below HD3.out.below).2.2.2 k _ hq
          have HADD := hide (duo18_add1 HD3.out q)
          have HFN := hide (full_add hfu.out [q])
          have HWN := hide (withOk_add hwo.out [q])
          have HNX : Hid ((addG G [q]).c.n = n) := hide ((addG_n G [q]).trans hnn.out)
          have HEN : Hid (tryG G [q] = 0 → ob = true → addG G [q] = ⟨withC (freshC n) (l1.take (k + 1)), l1.take (k + 1)⟩) := hide fun h0 ho => by
            have := heq.out ho
            subst this
            rw [htk]
            exact addG_one h0
          have HSAME : Hid (tryG G [q] ≠ 0 → addG G [q] = G) := hide fun h0 => addG_same h0
          obtain ⟨t, ht⟩ : ∃ t, tryG G [q] = t := ⟨_, rfl⟩
          rw [ht] at HADD HEN HSAME
          obtain ⟨G', hG'⟩ : ∃ G', addG G [q] = G' := ⟨_, rfl⟩
          rw [hG'] at HADD HFN HWN HNX HEN HSAME
          obtain ⟨xk, xs, xd⟩ := q
          simp only at q1 q2 q3 HADD
          clear hq htk ht hG' hb3 hd
          go_wp2_with (go_at_call 14; refine Hid.out ?_)
          refine hide ?_
          refine HADD.out.mono ?_
          rintro e w4 ⟨rfl, hd4⟩
          have HD4 := hide hd4
          clear hd4 HADD q1 q2 q3
          by_cases h0 : t = 0
          · subst h0
            go_wp2_with fail
            exact ⟨⟨k + 1, G', ob, by omega, by go_num, rfl, hide (fun ho => by first | exact HEN.out rfl ho | exact HEN.out trivial ho), HFN, HWN, HNX, HD4⟩, by simp [intOf]; omega⟩
          · have hne : (t != 0) = true := by simpa using h0
            have hGG := HSAME.out h0
            subst hGG
            clear h0
            go_wp2_with (go_at_call 19; refine Hid.out ?_)
            refine hide ?_
            refine (gr_order HD4.out.left).mono ?_
            rintro e w5 ⟨na, nc, rfl, _, hb5⟩
            have HD5 := hide (HD4.out.step hb5)
            clear hb5 HD4 HEN HSAME
            generalize (orderG G').length = om
            go_wp2_with fail
            exact ⟨⟨k + 1, G', false, by omega, by go_num, rfl, hide (by simp), HFN, HWN, HNX, HD5⟩, by simp [intOf]; omega⟩
      · have hkn : k = len1 := by omega
        subst hkn
        have hcl : (∀ y, a1 = some y → y.block < w.heap.size ∨ wr.heap.size ≤ y.block) ∨ l1 = [] := HLT1.out.imp (fun h y hy => .inl (h y hy)) id
        have HADX := hide (duo18_add hd.out.swap (Below.refl _ _) (HA1.out.below hd.out.below) hcl)
        have hfull : l1.take k = l1 := List.take_of_length_le (by omega)
        rw [hfull] at heq
        have HT : Hid (ob = true → tryG ⟨freshC n, []⟩ l1 = 0) := hide fun ho => by
          have hG := heq.out ho
          have h1 := hd.out.left.ok
          have h2 := hfu.out
          rw [hG] at h1 h2
          exact at_once h1 h2
        have HXG : Hid (ob = true → addG ⟨freshC n, []⟩ l1 = G) := hide fun ho => by
          rw [heq.out ho]
          unfold addG
          rw [if_pos (HT.out ho)]
          rfl
        obtain ⟨t, ht⟩ : ∃ t, tryG ⟨freshC n, []⟩ l1 = t := ⟨_, rfl⟩
        rw [ht] at HADX HT
        obtain ⟨X', hX'⟩ : ∃ X', addG ⟨freshC n, []⟩ l1 = X' := ⟨_, rfl⟩
        rw [hX'] at HADX HXG
        clear ht hX' heq hfull hcl hd
        go_wp2_with (go_at_call 14; refine Hid.out ?_)
        refine hide ?_
        refine HADX.out.mono ?_
        rintro e w3 ⟨rfl, hd3⟩
        have HD3 := hide hd3.swap
        clear hd3 HADX
        by_cases hodd : ob = false ∧ t = 0
        · obtain ⟨rfl, rfl⟩ := hodd
          have HAL := hide (alive18_calls w3)
          have hbw := HD3.out.below
          clear HT HXG HD3
          go_wp2_with (go_at_call 12; refine HAL.out.mono ?_; rintro e w2 ⟨rfl, hb⟩; have HB := hide hb; clear hb)
          go_ret
          exact ⟨rfl, hbw.trans (HB.out.mono hbw.size)⟩
        · as_aux_lemma =>
            have htb : (t == 0) = ob := by
              cases ob with
              | true => rw [HT.out rfl]; rfl
              | false =>
                have : t ≠ 0 := fun h => hodd ⟨rfl, h⟩
                simpa using this
            have HOB := hide htb
            have hbb : (ob != ob) = false := by simp
            clear hodd HT
            go_wp2_with (go_at_call 19; refine Hid.out ?_)
            refine hide ?_
            refine (gr_order HD3.out.left).mono ?_
            rintro e wo ⟨oa, oc, rfl, ho, hbo⟩
            have HO := hide ho
            have HDO := hide (HD3.out.step hbo)
            have HOKG := hide HD3.out.left.ok
            obtain ⟨m, hm⟩ : ∃ m, (orderG G).length = m := ⟨_, rfl⟩
            have hmn : m ≤ n := by
              have h1 := orderG_length G
              have h2 := hnn.out
              omega
            have HM := hide hm
            rw [hm]
            clear ho hbo HD3 hm HA1
            go_wp2_with fail
            go_loopw [14, 15] (fun pv iv wr => ∃ k2 : Nat, k2 ≤ n + 1 ∧ iv = .int .i64 k2 ∧ Hid (wr.ownsRow wo.heap.size 3 1 pv k2 (goInts (List.replicate k2 (-1)))) ∧ Hid (Below wo.heap.size wo wr)) (fun _ iv _ => n + 2 - (intOf iv).toNat)
            case atStart => exact ⟨0, by omega, rfl, hide (World.ownsRow_nil _ _ _ _), hide (Below.refl _ _)⟩
            case round =>
              obtain ⟨k2, hk2, rfl, hown, hb2⟩ := hrel
              have hsz2 := hb2.out.size
              by_cases hlt2 : k2 ≤ n
              · go_wp2_with (at_builtin; refine Hid.out ?_)
                refine hide ?_
                refine wpList_append_own _ rfl (.tmp 100) (.tmp 101) _ rfl wo.heap.size 3 i0 _ 1 8 Try.underlying31 hi hz0 hz1 hz2 rfl (by decide) _ k2 (goInts (List.replicate k2 (-1))) rfl (hown.out.alloc _) ⟨wr.heap.size, 0, none⟩ 1 1 [.int .i64 (-1)] rfl rfl (World.news_of_block (heap_alloc_new wr _)) (goInts_one [-1]) (by unfold maxLen; omega) (by omega) (by simp; omega) ?_
                intro v4 w4 hown4 hgrow4 _
                have hf4 : Frm (fun j => u14.ownBlock = some j) wr w4 := ((Frm.refl _ _).alloc _).grown hgrow4 fun q hq => .inl hq
                have HB4 := hide (hb2.out.trans (hf4.below hsz2 fun j hj => (hown.out.lt j hj).1))
                have HO4 : Hid (w4.ownsRow wo.heap.size 3 1 v4 (k2 + 1) (goInts (List.replicate (k2 + 1) (-1)))) := hide (by
                  rw [List.replicate_succ']
                  simpa [goInts] using hown4)
                clear hown4 hgrow4 hf4
                go_wp2_with fail
                exact ⟨⟨k2 + 1, by omega, by go_num, HO4, HB4⟩, by simp [intOf]; omega⟩
              · have hkn2 : n < k2 := by omega
                obtain ⟨pb, pc, rfl, hpb, hpl⟩ := hown.out.form (by omega)
                obtain ⟨wp, rfl⟩ : ∃ wp : World, wp = wr := ⟨_, rfl⟩
                have HW0 := hide (orderC_walked (c := G.c) (ls := G.ls))
                have HST : Hid (∀ v, v ≤ n → (List.replicate k2 (-1 : Int)).getD v 0 = placeOf G.c (orderC G.c G.ls) 0 0 (v : Int)) := hide fun v hv => by
                  rw [place_start, List.getD_eq_getElem?_getD, List.getElem?_replicate, if_pos (by omega)]
                  rfl
                go_wp2_with fail
                go_loopw [16] (fun iv wr => ∃ (i : Nat) (P : List Int), i ≤ m ∧ iv = .int .i64 i ∧ P.length = k2 ∧ Hid (∀ v, v ≤ n → P.getD v 0 = placeOf G.c (orderC G.c G.ls) i 0 (v : Int)) ∧ Hid (wr.ownsRow wo.heap.size 3 1 (.slice (some ⟨pb, 0, none⟩) k2 pc) k2 (goInts P)) ∧ Hid (Frm (fun j => j = pb) wp wr)) (fun iv _ => m - (intOf iv).toNat)
                case atStart => exact ⟨0, List.replicate k2 (-1), by omega, rfl, by simp, HST, hown, hide (Frm.refl _ _)⟩
                case round =>
                  clear HST hown
                  obtain ⟨i, P, hi2, rfl, hPl, hP, hown, hf⟩ := hrel
                  by_cases him : i < m
                  · as_aux_lemma =>
                      obtain ⟨lc, hlc⟩ : ∃ l, (orderG G)[i]? = some l := ⟨(orderG G)[i]'(by have := HM.out; omega), List.getElem?_eq_getElem _⟩
                      obtain ⟨a, hia, rfl⟩ := orderG_class hlc
                      have HLC := hide hlc
                      have hhd := HW0.out.heads a (List.mem_of_getElem? hia)
                      obtain ⟨rr, hcr⟩ := classC_head HOKG.out.ok hhd
                      have HPF := hide (fun (k : Nat) (v : Int) hv => place_fresh HOKG.out.ok HW0.out.nodup HW0.out.heads (k := k) (v := v) hia hv)
                      have HPS := hide (fun (k : Nat) (v u : Int) hv => place_set (c := G.c) (k := k) (v := v) (u := u) hia hv)
                      have HPN := hide (fun (u : Int) => place_next HOKG.out.ok HW0.out.nodup HW0.out.heads (u := u) hia)
                      have HCM : Hid (∀ v ∈ classC G.c a, (1 ≤ v ∧ v ≤ (n : Int)) ∧ sameC G.c [a, v] = true) := hide fun v hv => by
                        have h1 := (ord_class HOKG.out.ok HW0.out.heads hia).1 hv
                        have h2 := hhd.1
                        have h3 := (HOKG.out.ok.pos_iff v).1 (by omega)
                        have h4 := hnn.out
                        refine ⟨⟨h3.1, by omega⟩, decide_eq_true fun y hy => ?_⟩
                        simp at hy
                        rcases hy with rfl | rfl
                        · exact ⟨⟨hhd.1, hhd.2.1⟩, rfl⟩
                        · exact ⟨h3, by rw [h1]; exact hhd.2.2.symm⟩
                      have hcn30 : (classC G.c a).length ≤ 30 := by
                        have h1 := classC_length G.c a
                        have h2 := hnn.out
                        omega
                      have HHD : Hid ((classC G.c a)[0]? = some a) := hide (by rw [hcr]; rfl)
                      obtain ⟨cn, hcn⟩ : ∃ cn, (classC G.c a).length = cn := ⟨_, rfl⟩
                      have HCN := hide hcn
                      rw [hcn] at hcn30
                      clear hlc hcr hhd hcn
                      go_wp2_with fail
                      go_loopw [17] (fun kv wr => ∃ (k3 : Nat) (P : List Int), k3 ≤ cn ∧ kv = .int .i64 k3 ∧ P.length = k2 ∧ Hid (∀ v, v ≤ n → P.getD v 0 = placeOf G.c (orderC G.c G.ls) i k3 (v : Int)) ∧ Hid (wr.ownsRow wo.heap.size 3 1 (.slice (some ⟨pb, 0, none⟩) k2 pc) k2 (goInts P)) ∧ Hid (Frm (fun j => j = pb) wp wr)) (fun kv _ => cn - (intOf kv).toNat)
                      case atStart => exact ⟨0, P, by omega, rfl, hPl, hP, hown, hf⟩
                      case round =>
                        clear hP hown hf hPl
                        obtain ⟨k3, P', hk3, rfl, hPl, hP, hown, hf⟩ := hrel
                        have hbw : Below wo.heap.size wo wr := hb2.out.trans (hf.out.below hsz2 fun j hj => by omega)
                        obtain ⟨r, ro, ra, rc, rfl, hrl, q1, i1⟩ := (HO.out.below hbw) i _ HLC.out
                        rw [HCN.out] at q1
                        by_cases hkc : k3 < cn
                        · as_aux_lemma =>
                            obtain ⟨v, hv⟩ : ∃ v, (classC G.c a)[k3]? = some v := ⟨(classC G.c a)[k3]'(by have := HCN.out; omega), List.getElem?_eq_getElem _⟩
                            obtain ⟨⟨hv1, hv2⟩, hsv⟩ := HCM.out v (List.mem_of_getElem? hv)
                            obtain ⟨vn, rfl⟩ : ∃ vn : Nat, v = vn := ⟨v.toNat, by omega⟩
                            have hpv : P'.getD vn 0 = -1 := by rw [hP.out vn (by omega)]; exact HPF.out k3 _ hv
                            obtain ⟨b5, o5, rfl, hb5l, q2⟩ := i1 k3 _ hv
                            obtain ⟨b6, o6, e6, hb6l, q3⟩ := i1 0 a HHD.out
                            simp only [Option.some.injEq, Addr.mk.injEq, and_true] at e6
                            obtain ⟨rfl, rfl⟩ := e6
                            rw [Nat.add_zero] at q3
                            have hplc : wr.cell? ⟨pb, vn, none⟩ = some (.int .i64 (-1)) := by
                              rw [hown.out.cellAt vn (by omega)]
                              rw [List.getD_eq_getElem?_getD, List.getElem?_eq_getElem (by omega)] at hpv
                              simp at hpv
                              simp [goInts, List.getElem?_eq_getElem (show vn < P'.length by omega), hpv]
                            obtain ⟨u, hgl, hgc, Fu, huf⟩ := gr_uf (HDO.out.left.step hbw)
                            have HF : Hid (∀ W, New wr W → W.cell? ⟨g, 0, none⟩ = some (.pointer (some ⟨u, 0, none⟩)) ∧ W.cell? ⟨r, ro + i, none⟩ = some (.slice (some ⟨b5, o5, none⟩) cn rc) ∧ W.cell? ⟨b5, o5 + k3, none⟩ = some (.int .i64 (vn : Int)) ∧ W.cell? ⟨b5, o5, none⟩ = some (.int .i64 a) ∧ W.cell? ⟨pb, vn, none⟩ = some (.int .i64 (-1))) := hide fun W hW => by
                              refine ⟨(Below.cell hW (p := ⟨g, 0, none⟩) hgl).trans hgc, (Below.cell hW (p := ⟨r, ro + i, none⟩) hrl).trans q1, (Below.cell hW (p := ⟨b5, o5 + k3, none⟩) hb5l).trans q2, (Below.cell hW (p := ⟨b5, o5, none⟩) hb5l).trans q3, (Below.cell hW (p := ⟨pb, vn, none⟩) (by show pb < _; have := hf.out.size; omega)).trans hplc⟩
                            -- BEGIN31
                            have HUF := hide huf
                            have HSM : Hid (∀ (V : World) (q : Nat), V.heap[q]? = some (.cells #[.int .i64 a, .int .i64 (vn : Int)] 3 (0, 0)) → Below wr.heap.size wr V → Calls Try.prog 17 #[.pointer (some ⟨u, 0, none⟩), .slice (some ⟨q, 0, none⟩) 2 2] V fun e w' => e = .returned (.bool true) ∧ Below V.heap.size V w') := hide fun V q hq hV => by
                              have := same_calls u Fu G.c (some ⟨q, 0, none⟩) 2 2 [a, (vn : Int)] V (HUF.out.below hV) rfl (by decide) (by
                                intro k x hk
                                refine ⟨q, 0, rfl, (Array.getElem?_eq_some_iff.1 hq).1, ?_⟩
                                match k, hk with
                                | 0, hk => simp at hk; subst hk; simp [World.cell?, hq]
                                | 1, hk => simp at hk; subst hk; simp [World.cell?, hq])
                              rwa [hsv] at this
                            have d1 : decide ((vn : Int) < 1) = false := decide_eq_false (by omega)
                            have d2 : decide ((n : Int) < (vn : Int)) = false := decide_eq_false (by omega)
                            have d2' : decide (n < vn) = false := decide_eq_false (by omega)
                            have d3 : vn < k2 := by omega
                            have d3' : (vn : Int) < (k2 : Int) := by omega
                            have d4 : 0 < cn := by omega
                            have HV := hide hv
                            have HBWR := hide hbw
                            have hpbl : pb < wr.heap.size := by have := hf.out.size; omega
                            clear q2 q3 i1 hv hsv hpv hplc hgc huf hbw
                            go_wp2_with fail
                            clear q1
                            refine region_by (fun a b => a = b) way_eq 54 50 (fun W => New wr W) (by kernel_rfl) (by kernel_rfl) (fun _ _ d _ _ h => by cases d <;> exact h) (fun x y h hx => h ▸ hx) (Below.refl _ _).drew (fun KT hKT => ?_)
                            simp only [List.take_succ_cons, List.take_zero]
                            refine Lex.want (v := ?_) (by rfl) (fun W hW => ?hd1) ?_
                            case hd1 =>
                              have hh := HF.out W hW
                              clear hW
                              go_split_ands
                              go_simp
                              first | rfl | exact way_new.refl _ | exact way_grow.refl _ | (refine ⟨?_, way_new.refl _⟩; rfl) | (refine ⟨?_, way_grow.refl _⟩; rfl)
                            try simp only [Act.put, List.setIfInBounds_toArray, List.set_cons_zero, List.set_cons_succ, List.getElem_toArray, List.getElem_cons_zero, List.getElem_cons_succ]
                            refine Lex.want (v := ?_) (by rfl) (fun W hW => ?hd2) ?_
                            case hd2 =>
                              have hh := HF.out W hW
                              clear hW
                              go_split_ands
                              go_simp
                              first | rfl | exact way_new.refl _ | exact way_grow.refl _ | (refine ⟨?_, way_new.refl _⟩; rfl) | (refine ⟨?_, way_grow.refl _⟩; rfl)
                            try simp only [Act.put, List.setIfInBounds_toArray, List.set_cons_zero, List.set_cons_succ, List.getElem_toArray, List.getElem_cons_zero, List.getElem_cons_succ]
                            refine Lex.want (v := ?_) (by rfl) (fun W hW => ?hd3) ?_
                            case hd3 =>
                              have hh := HF.out W hW
                              clear hW
                              go_split_ands
                              go_simp
                              first | rfl | exact way_new.refl _ | exact way_grow.refl _ | (refine ⟨?_, way_new.refl _⟩; rfl) | (refine ⟨?_, way_grow.refl _⟩; rfl)
                            try simp only [Act.put, List.setIfInBounds_toArray, List.set_cons_zero, List.set_cons_succ, List.getElem_toArray, List.getElem_cons_zero, List.getElem_cons_succ]
                            refine Lex.want (v := ?_) (by rfl) (fun W hW => ?hd4) ?_
                            case hd4 =>
                              have hh := HF.out W hW
                              clear hW
                              go_split_ands
                              go_simp
                              first | rfl | exact way_new.refl _ | exact way_grow.refl _ | (refine ⟨?_, way_new.refl _⟩; rfl) | (refine ⟨?_, way_grow.refl _⟩; rfl)
                            try simp only [Act.put, List.setIfInBounds_toArray, List.set_cons_zero, List.set_cons_succ, List.getElem_toArray, List.getElem_cons_zero, List.getElem_cons_succ]
                            refine Lex.want (v := ?_) (by rfl) (fun W hW => ?hd5) ?_
                            case hd5 =>
                              have hh := HF.out W hW
                              clear hW
                              go_split_ands
                              go_simp
                              first | rfl | exact way_new.refl _ | exact way_grow.refl _ | (refine ⟨?_, way_new.refl _⟩; rfl) | (refine ⟨?_, way_grow.refl _⟩; rfl)
                            try simp only [Act.put, List.setIfInBounds_toArray, List.set_cons_zero, List.set_cons_succ, List.getElem_toArray, List.getElem_cons_zero, List.getElem_cons_succ]
                            refine Lex.want (v := ?_) (by rfl) (fun W hW => ?hd6) ?_
                            case hd6 =>
                              have hh := HF.out W hW
                              clear hW
                              go_split_ands
                              go_simp
                              first | rfl | exact way_new.refl _ | exact way_grow.refl _ | (refine ⟨?_, way_new.refl _⟩; rfl) | (refine ⟨?_, way_grow.refl _⟩; rfl)
                            try simp only [Act.put, List.setIfInBounds_toArray, List.set_cons_zero, List.set_cons_succ, List.getElem_toArray, List.getElem_cons_zero, List.getElem_cons_succ]
                            refine Lex.want (v := ?_) (by rfl) (fun W hW => ?hd7) ?_
                            case hd7 =>
                              have hh := HF.out W hW
                              clear hW
                              go_split_ands
                              go_simp
                              first | rfl | exact way_new.refl _ | exact way_grow.refl _ | (refine ⟨?_, way_new.refl _⟩; rfl) | (refine ⟨?_, way_grow.refl _⟩; rfl)
                            try simp only [Act.put, List.setIfInBounds_toArray, List.set_cons_zero, List.set_cons_succ, List.getElem_toArray, List.getElem_cons_zero, List.getElem_cons_succ]
                            refine Lex.want (v := ?_) (by rfl) (fun W hW => ?hd8) ?_
                            case hd8 =>
                              have hh := HF.out W hW
                              clear hW
                              go_split_ands
                              go_simp
                              first | rfl | exact way_new.refl _ | exact way_grow.refl _ | (refine ⟨?_, way_new.refl _⟩; rfl) | (refine ⟨?_, way_grow.refl _⟩; rfl)
                            try simp only [Act.put, List.setIfInBounds_toArray, List.set_cons_zero, List.set_cons_succ, List.getElem_toArray, List.getElem_cons_zero, List.getElem_cons_succ]
                            refine Lex.want (v := ?_) (by rfl) (fun W hW => ?hd9) ?_
                            case hd9 =>
                              have hh := HF.out W hW
                              clear hW
                              go_split_ands
                              go_simp
                              first | rfl | exact way_new.refl _ | exact way_grow.refl _ | (refine ⟨?_, way_new.refl _⟩; rfl) | (refine ⟨?_, way_grow.refl _⟩; rfl)
                            try simp only [Act.put, List.setIfInBounds_toArray, List.set_cons_zero, List.set_cons_succ, List.getElem_toArray, List.getElem_cons_zero, List.getElem_cons_succ]
                            refine Lex.want (v := ?_) (by rfl) (fun W hW => ?hd10) ?_
                            case hd10 =>
                              have hh := HF.out W hW
                              clear hW
                              go_split_ands
                              go_simp
                              first | rfl | exact way_new.refl _ | exact way_grow.refl _ | (refine ⟨?_, way_new.refl _⟩; rfl) | (refine ⟨?_, way_grow.refl _⟩; rfl)
                            try simp only [Act.put, List.setIfInBounds_toArray, List.set_cons_zero, List.set_cons_succ, List.getElem_toArray, List.getElem_cons_zero, List.getElem_cons_succ]
                            refine Lex.want (v := ?_) (by rfl) (fun W hW => ?hd11) ?_
                            case hd11 =>
                              have hh := HF.out W hW
                              clear hW
                              go_split_ands
                              go_simp
                              first | rfl | exact way_new.refl _ | exact way_grow.refl _ | (refine ⟨?_, way_new.refl _⟩; rfl) | (refine ⟨?_, way_grow.refl _⟩; rfl)
                            try simp only [Act.put, List.setIfInBounds_toArray, List.set_cons_zero, List.set_cons_succ, List.getElem_toArray, List.getElem_cons_zero, List.getElem_cons_succ]
                            refine Lex.want (v := ?_) (by rfl) (fun W hW => ?hd12) ?_
                            case hd12 =>
                              have hh := HF.out W hW
                              clear hW
                              go_split_ands
                              go_simp
                              first | rfl | exact way_new.refl _ | exact way_grow.refl _ | (refine ⟨?_, way_new.refl _⟩; rfl) | (refine ⟨?_, way_grow.refl _⟩; rfl)
                            try simp only [Act.put, List.setIfInBounds_toArray, List.set_cons_zero, List.set_cons_succ, List.getElem_toArray, List.getElem_cons_zero, List.getElem_cons_succ]
                            refine Lex.want (v := ?_) (by rfl) (fun W hW => ?hd13) ?_
                            case hd13 =>
                              have hh := HF.out W hW
                              clear hW
                              go_split_ands
                              go_simp
                              first | rfl | exact way_new.refl _ | exact way_grow.refl _ | (refine ⟨?_, way_new.refl _⟩; rfl) | (refine ⟨?_, way_grow.refl _⟩; rfl)
                            try simp only [Act.put, List.setIfInBounds_toArray, List.set_cons_zero, List.set_cons_succ, List.getElem_toArray, List.getElem_cons_zero, List.getElem_cons_succ]
                            refine Lex.want (v := ?_) (by rfl) (fun W hW => ?hd14) ?_
                            case hd14 =>
                              have hh := HF.out W hW
                              clear hW
                              go_split_ands
                              go_simp
                              first | rfl | exact way_new.refl _ | exact way_grow.refl _ | (refine ⟨?_, way_new.refl _⟩; rfl) | (refine ⟨?_, way_grow.refl _⟩; rfl)
                            try simp only [Act.put, List.setIfInBounds_toArray, List.set_cons_zero, List.set_cons_succ, List.getElem_toArray, List.getElem_cons_zero, List.getElem_cons_succ]
                            refine Lex.want (v := ?_) (by rfl) (fun W hW => ?hd15) ?_
                            case hd15 =>
                              have hh := HF.out W hW
                              clear hW
                              go_split_ands
                              go_simp
                              first | rfl | exact way_new.refl _ | exact way_grow.refl _ | (refine ⟨?_, way_new.refl _⟩; rfl) | (refine ⟨?_, way_grow.refl _⟩; rfl)
                            try simp only [Act.put, List.setIfInBounds_toArray, List.set_cons_zero, List.set_cons_succ, List.getElem_toArray, List.getElem_cons_zero, List.getElem_cons_succ]
                            refine Lex.want (v := ?_) (by rfl) (fun W hW => ?hd16) ?_
                            case hd16 =>
                              have hh := HF.out W hW
                              clear hW
                              go_split_ands
                              go_simp
                              first | rfl | exact way_new.refl _ | exact way_grow.refl _ | (refine ⟨?_, way_new.refl _⟩; rfl) | (refine ⟨?_, way_grow.refl _⟩; rfl)
                            try simp only [Act.put, List.setIfInBounds_toArray, List.set_cons_zero, List.set_cons_succ, List.getElem_toArray, List.getElem_cons_zero, List.getElem_cons_succ]
                            refine Lex.want (v := ?_) (by rfl) (fun W hW => ?hd17) ?_
                            case hd17 =>
                              have hh := HF.out W hW
                              clear hW
                              go_split_ands
                              go_simp
                              first | rfl | exact way_new.refl _ | exact way_grow.refl _ | (refine ⟨?_, way_new.refl _⟩; rfl) | (refine ⟨?_, way_grow.refl _⟩; rfl)
                            try simp only [Act.put, List.setIfInBounds_toArray, List.set_cons_zero, List.set_cons_succ, List.getElem_toArray, List.getElem_cons_zero, List.getElem_cons_succ]
                            refine Lex.want (v := ?_) (by rfl) (fun W hW => ?hd18) ?_
                            case hd18 =>
                              have hh := HF.out W hW
                              clear hW
                              go_split_ands
                              go_simp
                              first | rfl | exact way_new.refl _ | exact way_grow.refl _ | (refine ⟨?_, way_new.refl _⟩; rfl) | (refine ⟨?_, way_grow.refl _⟩; rfl)
                            try simp only [Act.put, List.setIfInBounds_toArray, List.set_cons_zero, List.set_cons_succ, List.getElem_toArray, List.getElem_cons_zero, List.getElem_cons_succ]
                            refine Lex.want (v := ?_) (by rfl) (fun W hW => ?hd19) ?_
                            case hd19 =>
                              have hh := HF.out W hW
                              clear hW
                              go_split_ands
                              go_simp
                              first | rfl | exact way_new.refl _ | exact way_grow.refl _ | (refine ⟨?_, way_new.refl _⟩; rfl) | (refine ⟨?_, way_grow.refl _⟩; rfl)
                            try simp only [Act.put, List.setIfInBounds_toArray, List.set_cons_zero, List.set_cons_succ, List.getElem_toArray, List.getElem_cons_zero, List.getElem_cons_succ]
                            refine Lex.want (v := ?_) (by rfl) (fun W hW => ?hd20) ?_
                            case hd20 =>
                              have hh := HF.out W hW
                              clear hW
                              go_split_ands
                              go_simp
                              first | rfl | exact way_new.refl _ | exact way_grow.refl _ | (refine ⟨?_, way_new.refl _⟩; rfl) | (refine ⟨?_, way_grow.refl _⟩; rfl)
                            try simp only [Act.put, List.setIfInBounds_toArray, List.set_cons_zero, List.set_cons_succ, List.getElem_toArray, List.getElem_cons_zero, List.getElem_cons_succ]
                            refine Lex.want (v := ?_) (by rfl) (fun W hW => ?hd21) ?_
                            case hd21 =>
                              have hh := HF.out W hW
                              clear hW
                              go_split_ands
                              go_simp
                              first | rfl | exact way_new.refl _ | exact way_grow.refl _ | (refine ⟨?_, way_new.refl _⟩; rfl) | (refine ⟨?_, way_grow.refl _⟩; rfl)
                            try simp only [Act.put, List.setIfInBounds_toArray, List.set_cons_zero, List.set_cons_succ, List.getElem_toArray, List.getElem_cons_zero, List.getElem_cons_succ]
                            refine Lex.want (v := ?_) (by rfl) (fun W hW => ?hd22) ?_
                            case hd22 =>
                              have hh := HF.out W hW
                              clear hW
                              go_split_ands
                              go_simp
                              first | rfl | exact way_new.refl _ | exact way_grow.refl _ | (refine ⟨?_, way_new.refl _⟩; rfl) | (refine ⟨?_, way_grow.refl _⟩; rfl)
                            try simp only [Act.put, List.setIfInBounds_toArray, List.set_cons_zero, List.set_cons_succ, List.getElem_toArray, List.getElem_cons_zero, List.getElem_cons_succ]
                            refine Lex.want (v := ?_) (by rfl) (fun W hW => ?hd23) ?_
                            case hd23 =>
                              have hh := HF.out W hW
                              clear hW
                              go_split_ands
                              go_simp
                              first | rfl | exact way_new.refl _ | exact way_grow.refl _ | (refine ⟨?_, way_new.refl _⟩; rfl) | (refine ⟨?_, way_grow.refl _⟩; rfl)
                            try simp only [Act.put, List.setIfInBounds_toArray, List.set_cons_zero, List.set_cons_succ, List.getElem_toArray, List.getElem_cons_zero, List.getElem_cons_succ]
                            refine Lex.want (v := ?_) (by rfl) (fun W hW => ?hd24) ?_
                            case hd24 =>
                              have hh := HF.out W hW
                              clear hW
                              go_split_ands
                              go_simp
                              first | rfl | exact way_new.refl _ | exact way_grow.refl _ | (refine ⟨?_, way_new.refl _⟩; rfl) | (refine ⟨?_, way_grow.refl _⟩; rfl)
                            try simp only [Act.put, List.setIfInBounds_toArray, List.set_cons_zero, List.set_cons_succ, List.getElem_toArray, List.getElem_cons_zero, List.getElem_cons_succ]
                            refine Lex.want (v := ?_) (by rfl) (fun W hW => ?hd25) ?_
                            case hd25 =>
                              have hh := HF.out W hW
                              clear hW
                              go_split_ands
                              go_simp
                              first | rfl | exact way_new.refl _ | exact way_grow.refl _ | (refine ⟨?_, way_new.refl _⟩; rfl) | (refine ⟨?_, way_grow.refl _⟩; rfl)
                            try simp only [Act.put, List.setIfInBounds_toArray, List.set_cons_zero, List.set_cons_succ, List.getElem_toArray, List.getElem_cons_zero, List.getElem_cons_succ]
                            as_aux_lemma =>
                              refine Lex.want (v := ?_) (by rfl) (fun W hW => ?hd26) ?_
                              case hd26 =>
                                have hh := HF.out W hW
                                clear hW
                                go_split_ands
                                go_simp
                                first | rfl | exact way_new.refl _ | exact way_grow.refl _ | (refine ⟨?_, way_new.refl _⟩; rfl) | (refine ⟨?_, way_grow.refl _⟩; rfl)
                              try simp only [Act.put, List.setIfInBounds_toArray, List.set_cons_zero, List.set_cons_succ, List.getElem_toArray, List.getElem_cons_zero, List.getElem_cons_succ]
                              refine Lex.want (v := ?_) (by rfl) (fun W hW => ?hd27) ?_
                              case hd27 =>
                                have hh := HF.out W hW
                                clear hW
                                go_split_ands
                                go_simp
                                first | rfl | exact way_new.refl _ | exact way_grow.refl _ | (refine ⟨?_, way_new.refl _⟩; rfl) | (refine ⟨?_, way_grow.refl _⟩; rfl)
                              try simp only [Act.put, List.setIfInBounds_toArray, List.set_cons_zero, List.set_cons_succ, List.getElem_toArray, List.getElem_cons_zero, List.getElem_cons_succ]
                              refine Lex.want (v := ?_) (by rfl) (fun W hW => ?hd28) ?_
                              case hd28 =>
                                have hh := HF.out W hW
                                clear hW
                                go_split_ands
                                go_simp
                                first | rfl | exact way_new.refl _ | exact way_grow.refl _ | (refine ⟨?_, way_new.refl _⟩; rfl) | (refine ⟨?_, way_grow.refl _⟩; rfl)
                              try simp only [Act.put, List.setIfInBounds_toArray, List.set_cons_zero, List.set_cons_succ, List.getElem_toArray, List.getElem_cons_zero, List.getElem_cons_succ]
                              refine Lex.want (v := ?_) (by rfl) (fun W hW => ?hd29) ?_
                              case hd29 =>
                                have hh := HF.out W hW
                                clear hW
                                go_split_ands
                                go_simp
                                first | rfl | exact way_new.refl _ | exact way_grow.refl _ | (refine ⟨?_, way_new.refl _⟩; rfl) | (refine ⟨?_, way_grow.refl _⟩; rfl)
                              try simp only [Act.put, List.setIfInBounds_toArray, List.set_cons_zero, List.set_cons_succ, List.getElem_toArray, List.getElem_cons_zero, List.getElem_cons_succ]
                              refine Lex.want (v := ?_) (by rfl) (fun W hW => ?hd30) ?_
                              case hd30 =>
                                have hh := HF.out W hW
                                clear hW
                                go_split_ands
                                go_simp
                                first | rfl | exact way_new.refl _ | exact way_grow.refl _ | (refine ⟨?_, way_new.refl _⟩; rfl) | (refine ⟨?_, way_grow.refl _⟩; rfl)
                              try simp only [Act.put, List.setIfInBounds_toArray, List.set_cons_zero, List.set_cons_succ, List.getElem_toArray, List.getElem_cons_zero, List.getElem_cons_succ]
                              refine Lex.want (v := ?_) (by rfl) (fun W hW => ?hd31) ?_
                              case hd31 =>
                                have hh := HF.out W hW
                                clear hW
                                go_split_ands
                                go_simp
                                first | rfl | exact way_new.refl _ | exact way_grow.refl _ | (refine ⟨?_, way_new.refl _⟩; rfl) | (refine ⟨?_, way_grow.refl _⟩; rfl)
                              try simp only [Act.put, List.setIfInBounds_toArray, List.set_cons_zero, List.set_cons_succ, List.getElem_toArray, List.getElem_cons_zero, List.getElem_cons_succ]
                              refine Lex.want (v := ?_) (by rfl) (fun W hW => ?hd32) ?_
                              case hd32 =>
                                have hh := HF.out W hW
                                clear hW
                                go_split_ands
                                go_simp
                                first | rfl | exact way_new.refl _ | exact way_grow.refl _ | (refine ⟨?_, way_new.refl _⟩; rfl) | (refine ⟨?_, way_grow.refl _⟩; rfl)
                              try simp only [Act.put, List.setIfInBounds_toArray, List.set_cons_zero, List.set_cons_succ, List.getElem_toArray, List.getElem_cons_zero, List.getElem_cons_succ]
                              refine Lex.want (v := ?_) (by rfl) (fun W hW => ?hd33) ?_
                              case hd33 =>
                                have hh := HF.out W hW
                                clear hW
                                go_split_ands
                                go_simp
                                first | rfl | exact way_new.refl _ | exact way_grow.refl _ | (refine ⟨?_, way_new.refl _⟩; rfl) | (refine ⟨?_, way_grow.refl _⟩; rfl)
                              try simp only [Act.put, List.setIfInBounds_toArray, List.set_cons_zero, List.set_cons_succ, List.getElem_toArray, List.getElem_cons_zero, List.getElem_cons_succ]
                              refine Lex.want (v := ?_) (by rfl) (fun W hW => ?hd34) ?_
                              case hd34 =>
                                have hh := HF.out W hW
                                clear hW
                                go_split_ands
                                go_simp
                                first | rfl | exact way_new.refl _ | exact way_grow.refl _ | (refine ⟨?_, way_new.refl _⟩; rfl) | (refine ⟨?_, way_grow.refl _⟩; rfl)
                              try simp only [Act.put, List.setIfInBounds_toArray, List.set_cons_zero, List.set_cons_succ, List.getElem_toArray, List.getElem_cons_zero, List.getElem_cons_succ]
                              refine Lex.want (v := ?_) (by rfl) (fun W hW => ?hd35) ?_
                              case hd35 =>
                                have hh := HF.out W hW
                                clear hW
                                go_split_ands
                                go_simp
                                first | rfl | exact way_new.refl _ | exact way_grow.refl _ | (refine ⟨?_, way_new.refl _⟩; rfl) | (refine ⟨?_, way_grow.refl _⟩; rfl)
                              try simp only [Act.put, List.setIfInBounds_toArray, List.set_cons_zero, List.set_cons_succ, List.getElem_toArray, List.getElem_cons_zero, List.getElem_cons_succ]
                              refine Lex.want (v := ?_) (by rfl) (fun W hW => ?hd36) ?_
                              case hd36 =>
                                have hh := HF.out W hW
                                clear hW
                                go_split_ands
                                go_simp
                                first | rfl | exact way_new.refl _ | exact way_grow.refl _ | (refine ⟨?_, way_new.refl _⟩; rfl) | (refine ⟨?_, way_grow.refl _⟩; rfl)
                              try simp only [Act.put, List.setIfInBounds_toArray, List.set_cons_zero, List.set_cons_succ, List.getElem_toArray, List.getElem_cons_zero, List.getElem_cons_succ]
                              refine Lex.want (v := ?_) (by rfl) (fun W hW => ?hd37) ?_
                              case hd37 =>
                                have hh := HF.out W hW
                                clear hW
                                go_split_ands
                                go_simp
                                first | rfl | exact way_new.refl _ | exact way_grow.refl _ | (refine ⟨?_, way_new.refl _⟩; rfl) | (refine ⟨?_, way_grow.refl _⟩; rfl)
                              try simp only [Act.put, List.setIfInBounds_toArray, List.set_cons_zero, List.set_cons_succ, List.getElem_toArray, List.getElem_cons_zero, List.getElem_cons_succ]
                              refine Lex.want (v := ?_) (by rfl) (fun W hW => ?hd38) ?_
                              case hd38 =>
                                have hh := HF.out W hW
                                clear hW
                                go_split_ands
                                go_simp
                                first | rfl | exact way_new.refl _ | exact way_grow.refl _ | (refine ⟨?_, way_new.refl _⟩; rfl) | (refine ⟨?_, way_grow.refl _⟩; rfl)
                              try simp only [Act.put, List.setIfInBounds_toArray, List.set_cons_zero, List.set_cons_succ, List.getElem_toArray, List.getElem_cons_zero, List.getElem_cons_succ]
                              refine Lex.want (v := ?_) (by rfl) (fun W hW => ?hd39) ?_
                              case hd39 =>
                                have hh := HF.out W hW
                                clear hW
                                go_split_ands
                                go_simp
                                first | rfl | exact way_new.refl _ | exact way_grow.refl _ | (refine ⟨?_, way_new.refl _⟩; rfl) | (refine ⟨?_, way_grow.refl _⟩; rfl)
                              try simp only [Act.put, List.setIfInBounds_toArray, List.set_cons_zero, List.set_cons_succ, List.getElem_toArray, List.getElem_cons_zero, List.getElem_cons_succ]
                              refine Lex.want (v := ?_) (by rfl) (fun W hW => ?hd40) ?_
                              case hd40 =>
                                have hh := HF.out W hW
                                clear hW
                                go_split_ands
                                go_simp
                                first | rfl | exact way_new.refl _ | exact way_grow.refl _ | (refine ⟨?_, way_new.refl _⟩; rfl) | (refine ⟨?_, way_grow.refl _⟩; rfl)
                              try simp only [Act.put, List.setIfInBounds_toArray, List.set_cons_zero, List.set_cons_succ, List.getElem_toArray, List.getElem_cons_zero, List.getElem_cons_succ]
                              refine Lex.want (v := ?_) (by rfl) (fun W hW => ?hd41) ?_
                              case hd41 =>
                                have hh := HF.out W hW
                                clear hW
                                go_split_ands
                                go_simp
                                first | rfl | exact way_new.refl _ | exact way_grow.refl _ | (refine ⟨?_, way_new.refl _⟩; rfl) | (refine ⟨?_, way_grow.refl _⟩; rfl)
                              try simp only [Act.put, List.setIfInBounds_toArray, List.set_cons_zero, List.set_cons_succ, List.getElem_toArray, List.getElem_cons_zero, List.getElem_cons_succ]
                              refine Lex.want (v := ?_) (by rfl) (fun W hW => ?hd42) ?_
                              case hd42 =>
                                have hh := HF.out W hW
                                clear hW
                                go_split_ands
                                go_simp
                                first | rfl | exact way_new.refl _ | exact way_grow.refl _ | (refine ⟨?_, way_new.refl _⟩; rfl) | (refine ⟨?_, way_grow.refl _⟩; rfl)
                              try simp only [Act.put, List.setIfInBounds_toArray, List.set_cons_zero, List.set_cons_succ, List.getElem_toArray, List.getElem_cons_zero, List.getElem_cons_succ]
                              refine Lex.want (v := ?_) (by rfl) (fun W hW => ?hd43) ?_
                              case hd43 =>
                                have hh := HF.out W hW
                                clear hW
                                go_split_ands
                                go_simp
                                first | rfl | exact way_new.refl _ | exact way_grow.refl _ | (refine ⟨?_, way_new.refl _⟩; rfl) | (refine ⟨?_, way_grow.refl _⟩; rfl)
                              try simp only [Act.put, List.setIfInBounds_toArray, List.set_cons_zero, List.set_cons_succ, List.getElem_toArray, List.getElem_cons_zero, List.getElem_cons_succ]
                              refine Lex.want (v := ?_) (by rfl) (fun W hW => ?hd44) ?_
                              case hd44 =>
                                have hh := HF.out W hW
                                clear hW
                                go_split_ands
                                go_simp
                                first | rfl | exact way_new.refl _ | exact way_grow.refl _ | (refine ⟨?_, way_new.refl _⟩; rfl) | (refine ⟨?_, way_grow.refl _⟩; rfl)
                              try simp only [Act.put, List.setIfInBounds_toArray, List.set_cons_zero, List.set_cons_succ, List.getElem_toArray, List.getElem_cons_zero, List.getElem_cons_succ]
                              refine Lex.want (v := ?_) (by rfl) (fun W hW => ?hd45) ?_
                              case hd45 =>
                                have hh := HF.out W hW
                                clear hW
                                go_split_ands
                                go_simp
                                first | rfl | exact way_new.refl _ | exact way_grow.refl _ | (refine ⟨?_, way_new.refl _⟩; rfl) | (refine ⟨?_, way_grow.refl _⟩; rfl)
                              try simp only [Act.put, List.setIfInBounds_toArray, List.set_cons_zero, List.set_cons_succ, List.getElem_toArray, List.getElem_cons_zero, List.getElem_cons_succ]
                              refine Lex.want (v := ?_) (by rfl) (fun W hW => ?hd46) ?_
                              case hd46 =>
                                have hh := HF.out W hW
                                clear hW
                                go_split_ands
                                go_simp
                                first | rfl | exact way_new.refl _ | exact way_grow.refl _ | (refine ⟨?_, way_new.refl _⟩; rfl) | (refine ⟨?_, way_grow.refl _⟩; rfl)
                              try simp only [Act.put, List.setIfInBounds_toArray, List.set_cons_zero, List.set_cons_succ, List.getElem_toArray, List.getElem_cons_zero, List.getElem_cons_succ]
                              refine Lex.want (v := ?_) (by rfl) (fun W hW => ?hd47) ?_
                              case hd47 =>
                                have hh := HF.out W hW
                                clear hW
                                go_split_ands
                                go_simp
                                first | rfl | exact way_new.refl _ | exact way_grow.refl _ | (refine ⟨?_, way_new.refl _⟩; rfl) | (refine ⟨?_, way_grow.refl _⟩; rfl)
                              try simp only [Act.put, List.setIfInBounds_toArray, List.set_cons_zero, List.set_cons_succ, List.getElem_toArray, List.getElem_cons_zero, List.getElem_cons_succ]
                              refine Lex.want (v := ?_) (by rfl) (fun W hW => ?hd48) ?_
                              case hd48 =>
                                have hh := HF.out W hW
                                clear hW
                                go_split_ands
                                go_simp
                                first | rfl | exact way_new.refl _ | exact way_grow.refl _ | (refine ⟨?_, way_new.refl _⟩; rfl) | (refine ⟨?_, way_grow.refl _⟩; rfl)
                              try simp only [Act.put, List.setIfInBounds_toArray, List.set_cons_zero, List.set_cons_succ, List.getElem_toArray, List.getElem_cons_zero, List.getElem_cons_succ]
                              refine Lex.want (v := ?_) (by rfl) (fun W hW => ?hd49) ?_
                              case hd49 =>
                                have hh := HF.out W hW
                                clear hW
                                go_split_ands
                                go_simp
                                first | rfl | exact way_new.refl _ | exact way_grow.refl _ | (refine ⟨?_, way_new.refl _⟩; rfl) | (refine ⟨?_, way_grow.refl _⟩; rfl)
                              try simp only [Act.put, List.setIfInBounds_toArray, List.set_cons_zero, List.set_cons_succ, List.getElem_toArray, List.getElem_cons_zero, List.getElem_cons_succ]
                              refine Lex.want (v := ?_) (by rfl) (fun W hW => ?hd50) ?_
                              case hd50 =>
                                have hh := HF.out W hW
                                clear hW
                                go_split_ands
                                go_simp
                                first | rfl | exact way_new.refl _ | exact way_grow.refl _ | (refine ⟨?_, way_new.refl _⟩; rfl) | (refine ⟨?_, way_grow.refl _⟩; rfl)
                              try simp only [Act.put, List.setIfInBounds_toArray, List.set_cons_zero, List.set_cons_succ, List.getElem_toArray, List.getElem_cons_zero, List.getElem_cons_succ]
                              refine Lex.nil (hKT.out _ ?_)
                              clear hKT KT
                              as_aux_lemma =>
                                refine Reg.only 50 rfl (by decide) (by kernel_rfl) (fun W hW hT K hK => ?_)
                                subst hW
                                go_simp
                                refine hK.out _ _ ((Below.alloc hT (Nat.le_trans (Nat.le_refl _) hT.size) _)) (fun _ => ?_)
                                clear hK K
                                try simp only [Act.put, List.setIfInBounds_toArray, List.set_cons_zero, List.set_cons_succ, List.getElem_toArray, List.getElem_cons_zero, List.getElem_cons_succ]
                                refine Reg.only 51 rfl (by decide) (by kernel_rfl) (fun W hW hT2 K hK => ?_)
                                subst hW
                                have hSM := hide (HSM.out (wr.alloc (.cells #[.int .i64 a, .int .i64 (vn : Int)] 3)).drew wr.heap.size (heap_alloc_new wr _) hT2)
                                go_simp
                                refine hSM.out.mono ?_
                                rintro e w9 ⟨rfl, hb9⟩
                                refine hK.out _ _ ((Below.trans hT2 (Below.mono hb9 (by have := hT2.size; exact this)))) (fun _ => ?_)
                                clear hK K
                                try simp only [Act.put, List.setIfInBounds_toArray, List.set_cons_zero, List.set_cons_succ, List.getElem_toArray, List.getElem_cons_zero, List.getElem_cons_succ]
                                refine Reg.seg 52 2 way_eq (by kernel_rfl) (fun _ _ d _ _ h => by cases d <;> exact h) (fun KT hKT => ?_)
                                simp only [List.take_succ_cons, List.take_zero, List.drop_succ_cons, List.drop_zero]
                                refine Lex.want (v := ?_) (by rfl) (fun W hW => ?hd51) ?_
                                case hd51 =>
                                  have hh := HF.out W hW
                                  clear hW
                                  go_split_ands
                                  go_simp
                                  first | rfl | exact way_new.refl _ | exact way_grow.refl _ | (refine ⟨?_, way_new.refl _⟩; rfl) | (refine ⟨?_, way_grow.refl _⟩; rfl)
                                try simp only [Act.put, List.setIfInBounds_toArray, List.set_cons_zero, List.set_cons_succ, List.getElem_toArray, List.getElem_cons_zero, List.getElem_cons_succ]
                                refine Lex.want (v := ?_) (by rfl) (fun W hW => ?hd52) ?_
                                case hd52 =>
                                  have hh := HF.out W hW
                                  clear hW
                                  go_split_ands
                                  go_simp
                                  first | rfl | exact way_new.refl _ | exact way_grow.refl _ | (refine ⟨?_, way_new.refl _⟩; rfl) | (refine ⟨?_, way_grow.refl _⟩; rfl)
                                try simp only [Act.put, List.setIfInBounds_toArray, List.set_cons_zero, List.set_cons_succ, List.getElem_toArray, List.getElem_cons_zero, List.getElem_cons_succ]
                                refine Lex.nil (hKT.out _ ?_)
                                clear hKT KT
                                refine Reg.done (by kernel_rfl) (fun W hW hWT => ⟨by kernel_rfl, ?_⟩)
                                simp only [List.drop_succ_cons, List.drop_zero]
                                subst hW
                                have HB9 := hide (show Below wr.heap.size wr w9 from hWT)
                                obtain ⟨_, q1, q2, q3, q4⟩ := HF.out w9 hWT
                                have hown9 := row_below hown.out HB9.out
                                have hfz9 : w9.frozen? ⟨pb, vn, none⟩ = false := hown9.frozenAt vn
                                have HST9 := hide (hown9.stored vn (.int .i64 (i : Int)))
                                clear HF HSM hT hT2 hSM hb9 hWT q3 hown9
                                go_wp2_with fail
                                have HOWN' : Hid ((w9.setCell ⟨pb, vn, none⟩ (.int .i64 (i : Int))).ownsRow wo.heap.size 3 1 (.slice (some ⟨pb, 0, none⟩) k2 pc) k2 (goInts (P'.set vn (i : Int)))) := hide (by
                                  have := HST9.out.1
                                  simpa [goInts, List.map_set] using this)
                                have HP' : Hid (∀ v, v ≤ n → (P'.set vn (i : Int)).getD v 0 = placeOf G.c (orderC G.c G.ls) i (k3 + 1) (v : Int)) := hide fun v hvn => by
                                  rw [HPS.out k3 (vn : Int) (v : Int) HV.out, List.getD_eq_getElem?_getD, List.getElem?_set]
                                  by_cases e : vn = v
                                  · subst e
                                    rw [if_pos rfl, if_pos rfl, if_pos (by omega)]
                                    rfl
                                  · rw [if_neg e, if_neg (by omega), ← List.getD_eq_getElem?_getD]
                                    exact hP.out v hvn
                                have HF' : Hid (Frm (fun j => j = pb) wp (w9.setCell ⟨pb, vn, none⟩ (.int .i64 (i : Int)))) := hide ((hf.out.trans (Frm.of_below (S := fun j => j = pb) HB9.out) (fun j hj => .inl hj)).setCell (.inl rfl) _)
                                exact ⟨⟨k3 + 1, P'.set vn (i : Int), by omega, by go_num, by rw [List.length_set]; exact hPl, HP', HOWN', HF'⟩, by simp [intOf]; omega⟩
                                -- END31
                        · have hkc' : k3 = cn := by omega
                          subst hkc'
                          have HPX : Hid (∀ v, v ≤ n → P'.getD v 0 = placeOf G.c (orderC G.c G.ls) (i + 1) 0 (v : Int)) := hide fun v hvn => by
                            rw [hP.out v hvn, ← HPN.out, HCN.out]
                          clear i1
                          go_wp2_with fail
                          exact ⟨⟨i + 1, P', by omega, by go_num, hPl, HPX, hown, hf⟩, by simp [intOf]; omega⟩
                  · as_aux_lemma =>
                      have him' : i = m := by omega
                      subst him'
                      have hil : i = (orderC G.c G.ls).length := by
                        have := HM.out
                        unfold orderG at this
                        rw [List.length_map] at this
                        exact this.symm
                      have HPC : Hid (∀ v, v ≤ n → wr.cell? ⟨pb, v, none⟩ = some (.int .i64 (idxI (orderC G.c G.ls) (G.c.f (v : Int)) 0))) := hide fun v hv => by
                        rw [hown.out.cellAt v (by omega)]
                        have h1 := hP.out v hv
                        rw [hil, place_end, List.getD_eq_getElem?_getD, List.getElem?_eq_getElem (by omega)] at h1
                        simp at h1
                        simp [goInts, List.getElem?_eq_getElem (show v < P.length by omega), h1]
                      have hbw : Below wo.heap.size wo wr := hb2.out.trans (hf.out.below hsz2 fun j hj => by omega)
                      have HDR := hide (HDO.out.step hbw)
                      have HOR := hide (HO.out.below hbw)
                      have hpbl : pb < wr.heap.size := by have := hf.out.size; omega
                      clear hP hown hf HO HDO hbw hil HW0 hb2 hPl hpb hsz2
                      go_wp2_with (go_at_call 20; refine Hid.out ?_)
                      refine hide ?_
                      refine (gr_links HDR.out.left).mono ?_
                      rintro e w7 ⟨ga, gc, rfl, hga, hb7⟩
                      have HGA := hide hga
                      have HD7 := hide (HDR.out.step hb7)
                      have HO7 := hide (HOR.out.below hb7)
                      have HPC7 : Hid (∀ v, v ≤ n → w7.cell? ⟨pb, v, none⟩ = some (.int .i64 (idxI (orderC G.c G.ls) (G.c.f (v : Int)) 0))) := hide fun v hv => (Below.cell hb7 (p := ⟨pb, v, none⟩) hpbl).trans (HPC.out v hv)
                      have hpb7 : pb < w7.heap.size := by have := hb7.size; omega
                      have hfew := HOKG.out.few
                      obtain ⟨lm, hlm⟩ : ∃ k, G.ls.length = k := ⟨_, rfl⟩
                      have HLM := hide hlm
                      rw [hlm] at hfew HGA ⊢
                      clear hga hb7 hlm HDR HOR HPC hpbl
                      go_wp2_with fail
                      go_loopw [19] (fun iv wr => ∃ j : Nat, j ≤ lm ∧ iv = .int .i64 j ∧ Hid (Below w7.heap.size w7 wr)) (fun iv _ => lm - (intOf iv).toNat)
                      case atStart => exact ⟨0, by omega, rfl, hide (Below.refl _ _)⟩
                      case round =>
                        obtain ⟨j, hj, rfl, hbr⟩ := hrel
                        by_cases hjl : j < lm
                        · -- BEGIN38
                          obtain ⟨q, hq⟩ : ∃ q, G.ls[j]? = some q := ⟨G.ls[j]'(by have := HLM.out; omega), List.getElem?_eq_getElem _⟩
                          have hqm := List.mem_of_getElem? hq
                          obtain ⟨hp1, hp2⟩ := place_link HOKG.out hfu.out hwo.out hqm
                          obtain ⟨⟨hs1, hs2⟩, hd1, hd2⟩ := HOKG.out.inn q hqm
                          have hgood := HOKG.out.good q hqm
                          rw [hnn.out] at hs2 hd2
                          obtain ⟨b7, o7, rfl, hb7l, q1, q2, q3⟩ := (HGA.out.below hbr.out).2.2.2 j q hq
                          obtain ⟨xk, xs, xd⟩ := q
                          simp only at q1 q2 q3 hp1 hp2 hs1 hs2 hd1 hd2
                          obtain ⟨sn, rfl⟩ : ∃ sn : Nat, xs = sn := ⟨xs.toNat, by omega⟩
                          obtain ⟨dn, rfl⟩ : ∃ dn : Nat, xd = dn := ⟨xd.toNat, by omega⟩
                          have hps := (Below.cell hbr.out (p := ⟨pb, sn, none⟩) hpb7).trans (HPC7.out sn (by omega))
                          have hpd := (Below.cell hbr.out (p := ⟨pb, dn, none⟩) hpb7).trans (HPC7.out dn (by omega))
                          obtain ⟨S, hS⟩ : ∃ S, idxI (orderC G.c G.ls) (G.c.f (sn : Int)) 0 = S := ⟨_, rfl⟩
                          obtain ⟨D, hD⟩ : ∃ D, idxI (orderC G.c G.ls) (G.c.f (dn : Int)) 0 = D := ⟨_, rfl⟩
                          rw [hS] at hps hp1 hp2
                          rw [hD] at hpd hp1 hp2
                          have hk12 : xk = 1 ∨ xk = 2 := by
                            unfold badLink at hgood
                            simp only at hgood
                            omega
                          have d1 : sn < k2 := by omega
                          have d1' : (sn : Int) < (k2 : Int) := by omega
                          have d2 : dn < k2 := by omega
                          have d2' : (dn : Int) < (k2 : Int) := by omega
                          have HBJ := hide (Below.drew hbr.out)
                          clear hS hD hgood hqm hq
                          rcases hk12 with rfl | rfl
                          · as_aux_lemma =>
                              have hSD : D = S := (hp1 rfl).symm
                              subst hSD
                              have HF : Hid (∀ W, wr.drew = W → W.cell? ⟨b7, o7 + j * 3, none⟩ = some (.int .i64 1) ∧ W.cell? ⟨b7, o7 + j * 3 + 1, none⟩ = some (.int .i64 (sn : Int)) ∧ W.cell? ⟨b7, o7 + j * 3 + 2, none⟩ = some (.int .i64 (dn : Int)) ∧ W.cell? ⟨pb, sn, none⟩ = some (.int .i64 D) ∧ W.cell? ⟨pb, dn, none⟩ = some (.int .i64 D)) := hide fun W hW => hW ▸ ⟨q1, q2, q3, hps, hpd⟩
                              clear q1 q2 q3 hps hpd hp1 hp2
                              go_wp2_with fail
                              refine region_by (fun a b => a = b) way_eq 52 52 (fun W => wr.drew = W) (by kernel_rfl) (by kernel_rfl) (fun _ _ d _ _ h => by cases d <;> exact h) (fun x y h hx => h ▸ hx) rfl (fun KT hKT => ?_)
                              simp only [List.take_succ_cons, List.take_zero]
                              refine Lex.want (v := ?_) (by rfl) (fun W hW => ?hd53) ?_
                              case hd53 =>
                                have hh := HF.out W hW
                                clear hW
                                go_split_ands
                                go_simp
                                first | rfl | exact way_new.refl _ | exact way_grow.refl _ | (refine ⟨?_, way_new.refl _⟩; rfl) | (refine ⟨?_, way_grow.refl _⟩; rfl)
                              try simp only [Act.put, List.setIfInBounds_toArray, List.set_cons_zero, List.set_cons_succ, List.getElem_toArray, List.getElem_cons_zero, List.getElem_cons_succ]
                              refine Lex.want (v := ?_) (by rfl) (fun W hW => ?hd54) ?_
                              case hd54 =>
                                have hh := HF.out W hW
                                clear hW
                                go_split_ands
                                go_simp
                                first | rfl | exact way_new.refl _ | exact way_grow.refl _ | (refine ⟨?_, way_new.refl _⟩; rfl) | (refine ⟨?_, way_grow.refl _⟩; rfl)
                              try simp only [Act.put, List.setIfInBounds_toArray, List.set_cons_zero, List.set_cons_succ, List.getElem_toArray, List.getElem_cons_zero, List.getElem_cons_succ]
                              refine Lex.want (v := ?_) (by rfl) (fun W hW => ?hd55) ?_
                              case hd55 =>
                                have hh := HF.out W hW
                                clear hW
                                go_split_ands
                                go_simp
                                first | rfl | exact way_new.refl _ | exact way_grow.refl _ | (refine ⟨?_, way_new.refl _⟩; rfl) | (refine ⟨?_, way_grow.refl _⟩; rfl)
                              try simp only [Act.put, List.setIfInBounds_toArray, List.set_cons_zero, List.set_cons_succ, List.getElem_toArray, List.getElem_cons_zero, List.getElem_cons_succ]
                              refine Lex.want (v := ?_) (by rfl) (fun W hW => ?hd56) ?_
                              case hd56 =>
                                have hh := HF.out W hW
                                clear hW
                                go_split_ands
                                go_simp
                                first | rfl | exact way_new.refl _ | exact way_grow.refl _ | (refine ⟨?_, way_new.refl _⟩; rfl) | (refine ⟨?_, way_grow.refl _⟩; rfl)
                              try simp only [Act.put, List.setIfInBounds_toArray, List.set_cons_zero, List.set_cons_succ, List.getElem_toArray, List.getElem_cons_zero, List.getElem_cons_succ]
                              refine Lex.want (v := ?_) (by rfl) (fun W hW => ?hd57) ?_
                              case hd57 =>
                                have hh := HF.out W hW
                                clear hW
                                go_split_ands
                                go_simp
                                first | rfl | exact way_new.refl _ | exact way_grow.refl _ | (refine ⟨?_, way_new.refl _⟩; rfl) | (refine ⟨?_, way_grow.refl _⟩; rfl)
                              try simp only [Act.put, List.setIfInBounds_toArray, List.set_cons_zero, List.set_cons_succ, List.getElem_toArray, List.getElem_cons_zero, List.getElem_cons_succ]
                              refine Lex.want (v := ?_) (by rfl) (fun W hW => ?hd58) ?_
                              case hd58 =>
                                have hh := HF.out W hW
                                clear hW
                                go_split_ands
                                go_simp
                                first | rfl | exact way_new.refl _ | exact way_grow.refl _ | (refine ⟨?_, way_new.refl _⟩; rfl) | (refine ⟨?_, way_grow.refl _⟩; rfl)
                              try simp only [Act.put, List.setIfInBounds_toArray, List.set_cons_zero, List.set_cons_succ, List.getElem_toArray, List.getElem_cons_zero, List.getElem_cons_succ]
                              refine Lex.want (v := ?_) (by rfl) (fun W hW => ?hd59) ?_
                              case hd59 =>
                                have hh := HF.out W hW
                                clear hW
                                go_split_ands
                                go_simp
                                first | rfl | exact way_new.refl _ | exact way_grow.refl _ | (refine ⟨?_, way_new.refl _⟩; rfl) | (refine ⟨?_, way_grow.refl _⟩; rfl)
                              try simp only [Act.put, List.setIfInBounds_toArray, List.set_cons_zero, List.set_cons_succ, List.getElem_toArray, List.getElem_cons_zero, List.getElem_cons_succ]
                              refine Lex.want (v := ?_) (by rfl) (fun W hW => ?hd60) ?_
                              case hd60 =>
                                have hh := HF.out W hW
                                clear hW
                                go_split_ands
                                go_simp
                                first | rfl | exact way_new.refl _ | exact way_grow.refl _ | (refine ⟨?_, way_new.refl _⟩; rfl) | (refine ⟨?_, way_grow.refl _⟩; rfl)
                              try simp only [Act.put, List.setIfInBounds_toArray, List.set_cons_zero, List.set_cons_succ, List.getElem_toArray, List.getElem_cons_zero, List.getElem_cons_succ]
                              refine Lex.want (v := ?_) (by rfl) (fun W hW => ?hd61) ?_
                              case hd61 =>
                                have hh := HF.out W hW
                                clear hW
                                go_split_ands
                                go_simp
                                first | rfl | exact way_new.refl _ | exact way_grow.refl _ | (refine ⟨?_, way_new.refl _⟩; rfl) | (refine ⟨?_, way_grow.refl _⟩; rfl)
                              try simp only [Act.put, List.setIfInBounds_toArray, List.set_cons_zero, List.set_cons_succ, List.getElem_toArray, List.getElem_cons_zero, List.getElem_cons_succ]
                              refine Lex.want (v := ?_) (by rfl) (fun W hW => ?hd62) ?_
                              case hd62 =>
                                have hh := HF.out W hW
                                clear hW
                                go_split_ands
                                go_simp
                                first | rfl | exact way_new.refl _ | exact way_grow.refl _ | (refine ⟨?_, way_new.refl _⟩; rfl) | (refine ⟨?_, way_grow.refl _⟩; rfl)
                              try simp only [Act.put, List.setIfInBounds_toArray, List.set_cons_zero, List.set_cons_succ, List.getElem_toArray, List.getElem_cons_zero, List.getElem_cons_succ]
                              refine Lex.want (v := ?_) (by rfl) (fun W hW => ?hd63) ?_
                              case hd63 =>
                                have hh := HF.out W hW
                                clear hW
                                go_split_ands
                                go_simp
                                first | rfl | exact way_new.refl _ | exact way_grow.refl _ | (refine ⟨?_, way_new.refl _⟩; rfl) | (refine ⟨?_, way_grow.refl _⟩; rfl)
                              try simp only [Act.put, List.setIfInBounds_toArray, List.set_cons_zero, List.set_cons_succ, List.getElem_toArray, List.getElem_cons_zero, List.getElem_cons_succ]
                              refine Lex.want (v := ?_) (by rfl) (fun W hW => ?hd64) ?_
                              case hd64 =>
                                have hh := HF.out W hW
                                clear hW
                                go_split_ands
                                go_simp
                                first | rfl | exact way_new.refl _ | exact way_grow.refl _ | (refine ⟨?_, way_new.refl _⟩; rfl) | (refine ⟨?_, way_grow.refl _⟩; rfl)
                              try simp only [Act.put, List.setIfInBounds_toArray, List.set_cons_zero, List.set_cons_succ, List.getElem_toArray, List.getElem_cons_zero, List.getElem_cons_succ]
                              refine Lex.want (v := ?_) (by rfl) (fun W hW => ?hd65) ?_
                              case hd65 =>
                                have hh := HF.out W hW
                                clear hW
                                go_split_ands
                                go_simp
                                first | rfl | exact way_new.refl _ | exact way_grow.refl _ | (refine ⟨?_, way_new.refl _⟩; rfl) | (refine ⟨?_, way_grow.refl _⟩; rfl)
                              try simp only [Act.put, List.setIfInBounds_toArray, List.set_cons_zero, List.set_cons_succ, List.getElem_toArray, List.getElem_cons_zero, List.getElem_cons_succ]
                              refine Lex.want (v := ?_) (by rfl) (fun W hW => ?hd66) ?_
                              case hd66 =>
                                have hh := HF.out W hW
                                clear hW
                                go_split_ands
                                go_simp
                                first | rfl | exact way_new.refl _ | exact way_grow.refl _ | (refine ⟨?_, way_new.refl _⟩; rfl) | (refine ⟨?_, way_grow.refl _⟩; rfl)
                              try simp only [Act.put, List.setIfInBounds_toArray, List.set_cons_zero, List.set_cons_succ, List.getElem_toArray, List.getElem_cons_zero, List.getElem_cons_succ]
                              refine Lex.want (v := ?_) (by rfl) (fun W hW => ?hd67) ?_
                              case hd67 =>
                                have hh := HF.out W hW
                                clear hW
                                go_split_ands
                                go_simp
                                first | rfl | exact way_new.refl _ | exact way_grow.refl _ | (refine ⟨?_, way_new.refl _⟩; rfl) | (refine ⟨?_, way_grow.refl _⟩; rfl)
                              try simp only [Act.put, List.setIfInBounds_toArray, List.set_cons_zero, List.set_cons_succ, List.getElem_toArray, List.getElem_cons_zero, List.getElem_cons_succ]
                              refine Lex.want (v := ?_) (by rfl) (fun W hW => ?hd68) ?_
                              case hd68 =>
                                have hh := HF.out W hW
                                clear hW
                                go_split_ands
                                go_simp
                                first | rfl | exact way_new.refl _ | exact way_grow.refl _ | (refine ⟨?_, way_new.refl _⟩; rfl) | (refine ⟨?_, way_grow.refl _⟩; rfl)
                              try simp only [Act.put, List.setIfInBounds_toArray, List.set_cons_zero, List.set_cons_succ, List.getElem_toArray, List.getElem_cons_zero, List.getElem_cons_succ]
                              refine Lex.want (v := ?_) (by rfl) (fun W hW => ?hd69) ?_
                              case hd69 =>
                                have hh := HF.out W hW
                                clear hW
                                go_split_ands
                                go_simp
                                first | rfl | exact way_new.refl _ | exact way_grow.refl _ | (refine ⟨?_, way_new.refl _⟩; rfl) | (refine ⟨?_, way_grow.refl _⟩; rfl)
                              try simp only [Act.put, List.setIfInBounds_toArray, List.set_cons_zero, List.set_cons_succ, List.getElem_toArray, List.getElem_cons_zero, List.getElem_cons_succ]
                              as_aux_lemma =>
                                refine Lex.want (v := ?_) (by rfl) (fun W hW => ?hd70) ?_
                                case hd70 =>
                                  have hh := HF.out W hW
                                  clear hW
                                  go_split_ands
                                  go_simp
                                  first | rfl | exact way_new.refl _ | exact way_grow.refl _ | (refine ⟨?_, way_new.refl _⟩; rfl) | (refine ⟨?_, way_grow.refl _⟩; rfl)
                                try simp only [Act.put, List.setIfInBounds_toArray, List.set_cons_zero, List.set_cons_succ, List.getElem_toArray, List.getElem_cons_zero, List.getElem_cons_succ]
                                refine Lex.want (v := ?_) (by rfl) (fun W hW => ?hd71) ?_
                                case hd71 =>
                                  have hh := HF.out W hW
                                  clear hW
                                  go_split_ands
                                  go_simp
                                  first | rfl | exact way_new.refl _ | exact way_grow.refl _ | (refine ⟨?_, way_new.refl _⟩; rfl) | (refine ⟨?_, way_grow.refl _⟩; rfl)
                                try simp only [Act.put, List.setIfInBounds_toArray, List.set_cons_zero, List.set_cons_succ, List.getElem_toArray, List.getElem_cons_zero, List.getElem_cons_succ]
                                refine Lex.want (v := ?_) (by rfl) (fun W hW => ?hd72) ?_
                                case hd72 =>
                                  have hh := HF.out W hW
                                  clear hW
                                  go_split_ands
                                  go_simp
                                  first | rfl | exact way_new.refl _ | exact way_grow.refl _ | (refine ⟨?_, way_new.refl _⟩; rfl) | (refine ⟨?_, way_grow.refl _⟩; rfl)
                                try simp only [Act.put, List.setIfInBounds_toArray, List.set_cons_zero, List.set_cons_succ, List.getElem_toArray, List.getElem_cons_zero, List.getElem_cons_succ]
                                refine Lex.want (v := ?_) (by rfl) (fun W hW => ?hd73) ?_
                                case hd73 =>
                                  have hh := HF.out W hW
                                  clear hW
                                  go_split_ands
                                  go_simp
                                  first | rfl | exact way_new.refl _ | exact way_grow.refl _ | (refine ⟨?_, way_new.refl _⟩; rfl) | (refine ⟨?_, way_grow.refl _⟩; rfl)
                                try simp only [Act.put, List.setIfInBounds_toArray, List.set_cons_zero, List.set_cons_succ, List.getElem_toArray, List.getElem_cons_zero, List.getElem_cons_succ]
                                refine Lex.want (v := ?_) (by rfl) (fun W hW => ?hd74) ?_
                                case hd74 =>
                                  have hh := HF.out W hW
                                  clear hW
                                  go_split_ands
                                  go_simp
                                  first | rfl | exact way_new.refl _ | exact way_grow.refl _ | (refine ⟨?_, way_new.refl _⟩; rfl) | (refine ⟨?_, way_grow.refl _⟩; rfl)
                                try simp only [Act.put, List.setIfInBounds_toArray, List.set_cons_zero, List.set_cons_succ, List.getElem_toArray, List.getElem_cons_zero, List.getElem_cons_succ]
                                refine Lex.want (v := ?_) (by rfl) (fun W hW => ?hd75) ?_
                                case hd75 =>
                                  have hh := HF.out W hW
                                  clear hW
                                  go_split_ands
                                  go_simp
                                  first | rfl | exact way_new.refl _ | exact way_grow.refl _ | (refine ⟨?_, way_new.refl _⟩; rfl) | (refine ⟨?_, way_grow.refl _⟩; rfl)
                                try simp only [Act.put, List.setIfInBounds_toArray, List.set_cons_zero, List.set_cons_succ, List.getElem_toArray, List.getElem_cons_zero, List.getElem_cons_succ]
                                refine Lex.want (v := ?_) (by rfl) (fun W hW => ?hd76) ?_
                                case hd76 =>
                                  have hh := HF.out W hW
                                  clear hW
                                  go_split_ands
                                  go_simp
                                  first | rfl | exact way_new.refl _ | exact way_grow.refl _ | (refine ⟨?_, way_new.refl _⟩; rfl) | (refine ⟨?_, way_grow.refl _⟩; rfl)
                                try simp only [Act.put, List.setIfInBounds_toArray, List.set_cons_zero, List.set_cons_succ, List.getElem_toArray, List.getElem_cons_zero, List.getElem_cons_succ]
                                refine Lex.want (v := ?_) (by rfl) (fun W hW => ?hd77) ?_
                                case hd77 =>
                                  have hh := HF.out W hW
                                  clear hW
                                  go_split_ands
                                  go_simp
                                  first | rfl | exact way_new.refl _ | exact way_grow.refl _ | (refine ⟨?_, way_new.refl _⟩; rfl) | (refine ⟨?_, way_grow.refl _⟩; rfl)
                                try simp only [Act.put, List.setIfInBounds_toArray, List.set_cons_zero, List.set_cons_succ, List.getElem_toArray, List.getElem_cons_zero, List.getElem_cons_succ]
                                refine Lex.want (v := ?_) (by rfl) (fun W hW => ?hd78) ?_
                                case hd78 =>
                                  have hh := HF.out W hW
                                  clear hW
                                  go_split_ands
                                  go_simp
                                  first | rfl | exact way_new.refl _ | exact way_grow.refl _ | (refine ⟨?_, way_new.refl _⟩; rfl) | (refine ⟨?_, way_grow.refl _⟩; rfl)
                                try simp only [Act.put, List.setIfInBounds_toArray, List.set_cons_zero, List.set_cons_succ, List.getElem_toArray, List.getElem_cons_zero, List.getElem_cons_succ]
                                refine Lex.want (v := ?_) (by rfl) (fun W hW => ?hd79) ?_
                                case hd79 =>
                                  have hh := HF.out W hW
                                  clear hW
                                  go_split_ands
                                  go_simp
                                  first | rfl | exact way_new.refl _ | exact way_grow.refl _ | (refine ⟨?_, way_new.refl _⟩; rfl) | (refine ⟨?_, way_grow.refl _⟩; rfl)
                                try simp only [Act.put, List.setIfInBounds_toArray, List.set_cons_zero, List.set_cons_succ, List.getElem_toArray, List.getElem_cons_zero, List.getElem_cons_succ]
                                refine Lex.want (v := ?_) (by rfl) (fun W hW => ?hd80) ?_
                                case hd80 =>
                                  have hh := HF.out W hW
                                  clear hW
                                  go_split_ands
                                  go_simp
                                  first | rfl | exact way_new.refl _ | exact way_grow.refl _ | (refine ⟨?_, way_new.refl _⟩; rfl) | (refine ⟨?_, way_grow.refl _⟩; rfl)
                                try simp only [Act.put, List.setIfInBounds_toArray, List.set_cons_zero, List.set_cons_succ, List.getElem_toArray, List.getElem_cons_zero, List.getElem_cons_succ]
                                refine Lex.want (v := ?_) (by rfl) (fun W hW => ?hd81) ?_
                                case hd81 =>
                                  have hh := HF.out W hW
                                  clear hW
                                  go_split_ands
                                  go_simp
                                  first | rfl | exact way_new.refl _ | exact way_grow.refl _ | (refine ⟨?_, way_new.refl _⟩; rfl) | (refine ⟨?_, way_grow.refl _⟩; rfl)
                                try simp only [Act.put, List.setIfInBounds_toArray, List.set_cons_zero, List.set_cons_succ, List.getElem_toArray, List.getElem_cons_zero, List.getElem_cons_succ]
                                refine Lex.want (v := ?_) (by rfl) (fun W hW => ?hd82) ?_
                                case hd82 =>
                                  have hh := HF.out W hW
                                  clear hW
                                  go_split_ands
                                  go_simp
                                  first | rfl | exact way_new.refl _ | exact way_grow.refl _ | (refine ⟨?_, way_new.refl _⟩; rfl) | (refine ⟨?_, way_grow.refl _⟩; rfl)
                                try simp only [Act.put, List.setIfInBounds_toArray, List.set_cons_zero, List.set_cons_succ, List.getElem_toArray, List.getElem_cons_zero, List.getElem_cons_succ]
                                refine Lex.want (v := ?_) (by rfl) (fun W hW => ?hd83) ?_
                                case hd83 =>
                                  have hh := HF.out W hW
                                  clear hW
                                  go_split_ands
                                  go_simp
                                  first | rfl | exact way_new.refl _ | exact way_grow.refl _ | (refine ⟨?_, way_new.refl _⟩; rfl) | (refine ⟨?_, way_grow.refl _⟩; rfl)
                                try simp only [Act.put, List.setIfInBounds_toArray, List.set_cons_zero, List.set_cons_succ, List.getElem_toArray, List.getElem_cons_zero, List.getElem_cons_succ]
                                refine Lex.want (v := ?_) (by rfl) (fun W hW => ?hd84) ?_
                                case hd84 =>
                                  have hh := HF.out W hW
                                  clear hW
                                  go_split_ands
                                  go_simp
                                  first | rfl | exact way_new.refl _ | exact way_grow.refl _ | (refine ⟨?_, way_new.refl _⟩; rfl) | (refine ⟨?_, way_grow.refl _⟩; rfl)
                                try simp only [Act.put, List.setIfInBounds_toArray, List.set_cons_zero, List.set_cons_succ, List.getElem_toArray, List.getElem_cons_zero, List.getElem_cons_succ]
                                refine Lex.want (v := ?_) (by rfl) (fun W hW => ?hd85) ?_
                                case hd85 =>
                                  have hh := HF.out W hW
                                  clear hW
                                  go_split_ands
                                  go_simp
                                  first | rfl | exact way_new.refl _ | exact way_grow.refl _ | (refine ⟨?_, way_new.refl _⟩; rfl) | (refine ⟨?_, way_grow.refl _⟩; rfl)
                                try simp only [Act.put, List.setIfInBounds_toArray, List.set_cons_zero, List.set_cons_succ, List.getElem_toArray, List.getElem_cons_zero, List.getElem_cons_succ]
                                refine Lex.skip (by rfl) ?_
                                try simp only [Act.put, List.setIfInBounds_toArray, List.set_cons_zero, List.set_cons_succ, List.getElem_toArray, List.getElem_cons_zero, List.getElem_cons_succ]
                                refine Lex.skip (by rfl) ?_
                                try simp only [Act.put, List.setIfInBounds_toArray, List.set_cons_zero, List.set_cons_succ, List.getElem_toArray, List.getElem_cons_zero, List.getElem_cons_succ]
                                refine Lex.skip (by rfl) ?_
                                try simp only [Act.put, List.setIfInBounds_toArray, List.set_cons_zero, List.set_cons_succ, List.getElem_toArray, List.getElem_cons_zero, List.getElem_cons_succ]
                                refine Lex.skip (by rfl) ?_
                                try simp only [Act.put, List.setIfInBounds_toArray, List.set_cons_zero, List.set_cons_succ, List.getElem_toArray, List.getElem_cons_zero, List.getElem_cons_succ]
                                refine Lex.skip (by rfl) ?_
                                try simp only [Act.put, List.setIfInBounds_toArray, List.set_cons_zero, List.set_cons_succ, List.getElem_toArray, List.getElem_cons_zero, List.getElem_cons_succ]
                                refine Lex.skip (by rfl) ?_
                                try simp only [Act.put, List.setIfInBounds_toArray, List.set_cons_zero, List.set_cons_succ, List.getElem_toArray, List.getElem_cons_zero, List.getElem_cons_succ]
                                refine Lex.skip (by rfl) ?_
                                try simp only [Act.put, List.setIfInBounds_toArray, List.set_cons_zero, List.set_cons_succ, List.getElem_toArray, List.getElem_cons_zero, List.getElem_cons_succ]
                                refine Lex.skip (by rfl) ?_
                                try simp only [Act.put, List.setIfInBounds_toArray, List.set_cons_zero, List.set_cons_succ, List.getElem_toArray, List.getElem_cons_zero, List.getElem_cons_succ]
                                refine Lex.skip (by rfl) ?_
                                try simp only [Act.put, List.setIfInBounds_toArray, List.set_cons_zero, List.set_cons_succ, List.getElem_toArray, List.getElem_cons_zero, List.getElem_cons_succ]
                                refine Lex.skip (by rfl) ?_
                                try simp only [Act.put, List.setIfInBounds_toArray, List.set_cons_zero, List.set_cons_succ, List.getElem_toArray, List.getElem_cons_zero, List.getElem_cons_succ]
                                refine Lex.skip (by rfl) ?_
                                try simp only [Act.put, List.setIfInBounds_toArray, List.set_cons_zero, List.set_cons_succ, List.getElem_toArray, List.getElem_cons_zero, List.getElem_cons_succ]
                                refine Lex.skip (by rfl) ?_
                                try simp only [Act.put, List.setIfInBounds_toArray, List.set_cons_zero, List.set_cons_succ, List.getElem_toArray, List.getElem_cons_zero, List.getElem_cons_succ]
                                refine Lex.skip (by rfl) ?_
                                try simp only [Act.put, List.setIfInBounds_toArray, List.set_cons_zero, List.set_cons_succ, List.getElem_toArray, List.getElem_cons_zero, List.getElem_cons_succ]
                                refine Lex.skip (by rfl) ?_
                                try simp only [Act.put, List.setIfInBounds_toArray, List.set_cons_zero, List.set_cons_succ, List.getElem_toArray, List.getElem_cons_zero, List.getElem_cons_succ]
                                refine Lex.skip (by rfl) ?_
                                try simp only [Act.put, List.setIfInBounds_toArray, List.set_cons_zero, List.set_cons_succ, List.getElem_toArray, List.getElem_cons_zero, List.getElem_cons_succ]
                                refine Lex.skip (by rfl) ?_
                                try simp only [Act.put, List.setIfInBounds_toArray, List.set_cons_zero, List.set_cons_succ, List.getElem_toArray, List.getElem_cons_zero, List.getElem_cons_succ]
                                refine Lex.skip (by rfl) ?_
                                try simp only [Act.put, List.setIfInBounds_toArray, List.set_cons_zero, List.set_cons_succ, List.getElem_toArray, List.getElem_cons_zero, List.getElem_cons_succ]
                                refine Lex.want (v := ?_) (by rfl) (fun W hW => ?hd86) ?_
                                case hd86 =>
                                  have hh := HF.out W hW
                                  clear hW
                                  go_split_ands
                                  go_simp
                                  first | rfl | exact way_new.refl _ | exact way_grow.refl _ | (refine ⟨?_, way_new.refl _⟩; rfl) | (refine ⟨?_, way_grow.refl _⟩; rfl)
                                try simp only [Act.put, List.setIfInBounds_toArray, List.set_cons_zero, List.set_cons_succ, List.getElem_toArray, List.getElem_cons_zero, List.getElem_cons_succ]
                                refine Lex.want (v := ?_) (by rfl) (fun W hW => ?hd87) ?_
                                case hd87 =>
                                  have hh := HF.out W hW
                                  clear hW
                                  go_split_ands
                                  go_simp
                                  first | rfl | exact way_new.refl _ | exact way_grow.refl _ | (refine ⟨?_, way_new.refl _⟩; rfl) | (refine ⟨?_, way_grow.refl _⟩; rfl)
                                try simp only [Act.put, List.setIfInBounds_toArray, List.set_cons_zero, List.set_cons_succ, List.getElem_toArray, List.getElem_cons_zero, List.getElem_cons_succ]
                                refine Lex.nil (hKT.out _ ?_)
                                clear hKT KT
                                refine Reg.done (by kernel_rfl) (fun W hW hWT => ⟨by kernel_rfl, ?_⟩)
                                simp only [List.drop_succ_cons, List.drop_zero]
                                subst hW
                                clear HF hWT
                                go_wp2_with fail
                                exact ⟨⟨j + 1, by omega, by go_num, HBJ⟩, by simp [intOf]; omega⟩
                          · as_aux_lemma =>
                              have hSD := hp2 rfl
                              have e7 : decide (D ≤ S) = false := decide_eq_false (by omega)
                              have HF : Hid (∀ W, wr.drew = W → W.cell? ⟨b7, o7 + j * 3, none⟩ = some (.int .i64 2) ∧ W.cell? ⟨b7, o7 + j * 3 + 1, none⟩ = some (.int .i64 (sn : Int)) ∧ W.cell? ⟨b7, o7 + j * 3 + 2, none⟩ = some (.int .i64 (dn : Int)) ∧ W.cell? ⟨pb, sn, none⟩ = some (.int .i64 S) ∧ W.cell? ⟨pb, dn, none⟩ = some (.int .i64 D)) := hide fun W hW => hW ▸ ⟨q1, q2, q3, hps, hpd⟩
                              clear q1 q2 q3 hps hpd hp1 hp2
                              go_wp2_with fail
                              refine region_by (fun a b => a = b) way_eq 52 52 (fun W => wr.drew = W) (by kernel_rfl) (by kernel_rfl) (fun _ _ d _ _ h => by cases d <;> exact h) (fun x y h hx => h ▸ hx) rfl (fun KT hKT => ?_)
                              simp only [List.take_succ_cons, List.take_zero]
                              refine Lex.want (v := ?_) (by rfl) (fun W hW => ?hd88) ?_
                              case hd88 =>
                                have hh := HF.out W hW
                                clear hW
                                go_split_ands
                                go_simp
                                first | rfl | exact way_new.refl _ | exact way_grow.refl _ | (refine ⟨?_, way_new.refl _⟩; rfl) | (refine ⟨?_, way_grow.refl _⟩; rfl)
                              try simp only [Act.put, List.setIfInBounds_toArray, List.set_cons_zero, List.set_cons_succ, List.getElem_toArray, List.getElem_cons_zero, List.getElem_cons_succ]
                              refine Lex.want (v := ?_) (by rfl) (fun W hW => ?hd89) ?_
                              case hd89 =>
                                have hh := HF.out W hW
                                clear hW
                                go_split_ands
                                go_simp
                                first | rfl | exact way_new.refl _ | exact way_grow.refl _ | (refine ⟨?_, way_new.refl _⟩; rfl) | (refine ⟨?_, way_grow.refl _⟩; rfl)
                              try simp only [Act.put, List.setIfInBounds_toArray, List.set_cons_zero, List.set_cons_succ, List.getElem_toArray, List.getElem_cons_zero, List.getElem_cons_succ]
                              refine Lex.want (v := ?_) (by rfl) (fun W hW => ?hd90) ?_
                              case hd90 =>
                                have hh := HF.out W hW
                                clear hW
                                go_split_ands
                                go_simp
                                first | rfl | exact way_new.refl _ | exact way_grow.refl _ | (refine ⟨?_, way_new.refl _⟩; rfl) | (refine ⟨?_, way_grow.refl _⟩; rfl)
                              try simp only [Act.put, List.setIfInBounds_toArray, List.set_cons_zero, List.set_cons_succ, List.getElem_toArray, List.getElem_cons_zero, List.getElem_cons_succ]
                              refine Lex.want (v := ?_) (by rfl) (fun W hW => ?hd91) ?_
                              case hd91 =>
                                have hh := HF.out W hW
                                clear hW
                                go_split_ands
                                go_simp
                                first | rfl | exact way_new.refl _ | exact way_grow.refl _ | (refine ⟨?_, way_new.refl _⟩; rfl) | (refine ⟨?_, way_grow.refl _⟩; rfl)
                              try simp only [Act.put, List.setIfInBounds_toArray, List.set_cons_zero, List.set_cons_succ, List.getElem_toArray, List.getElem_cons_zero, List.getElem_cons_succ]
                              refine Lex.want (v := ?_) (by rfl) (fun W hW => ?hd92) ?_
                              case hd92 =>
                                have hh := HF.out W hW
                                clear hW
                                go_split_ands
                                go_simp
                                first | rfl | exact way_new.refl _ | exact way_grow.refl _ | (refine ⟨?_, way_new.refl _⟩; rfl) | (refine ⟨?_, way_grow.refl _⟩; rfl)
                              try simp only [Act.put, List.setIfInBounds_toArray, List.set_cons_zero, List.set_cons_succ, List.getElem_toArray, List.getElem_cons_zero, List.getElem_cons_succ]
                              refine Lex.want (v := ?_) (by rfl) (fun W hW => ?hd93) ?_
                              case hd93 =>
                                have hh := HF.out W hW
                                clear hW
                                go_split_ands
                                go_simp
                                first | rfl | exact way_new.refl _ | exact way_grow.refl _ | (refine ⟨?_, way_new.refl _⟩; rfl) | (refine ⟨?_, way_grow.refl _⟩; rfl)
                              try simp only [Act.put, List.setIfInBounds_toArray, List.set_cons_zero, List.set_cons_succ, List.getElem_toArray, List.getElem_cons_zero, List.getElem_cons_succ]
                              refine Lex.want (v := ?_) (by rfl) (fun W hW => ?hd94) ?_
                              case hd94 =>
                                have hh := HF.out W hW
                                clear hW
                                go_split_ands
                                go_simp
                                first | rfl | exact way_new.refl _ | exact way_grow.refl _ | (refine ⟨?_, way_new.refl _⟩; rfl) | (refine ⟨?_, way_grow.refl _⟩; rfl)
                              try simp only [Act.put, List.setIfInBounds_toArray, List.set_cons_zero, List.set_cons_succ, List.getElem_toArray, List.getElem_cons_zero, List.getElem_cons_succ]
                              refine Lex.skip (by rfl) ?_
                              try simp only [Act.put, List.setIfInBounds_toArray, List.set_cons_zero, List.set_cons_succ, List.getElem_toArray, List.getElem_cons_zero, List.getElem_cons_succ]
                              refine Lex.skip (by rfl) ?_
                              try simp only [Act.put, List.setIfInBounds_toArray, List.set_cons_zero, List.set_cons_succ, List.getElem_toArray, List.getElem_cons_zero, List.getElem_cons_succ]
                              refine Lex.skip (by rfl) ?_
                              try simp only [Act.put, List.setIfInBounds_toArray, List.set_cons_zero, List.set_cons_succ, List.getElem_toArray, List.getElem_cons_zero, List.getElem_cons_succ]
                              refine Lex.skip (by rfl) ?_
                              try simp only [Act.put, List.setIfInBounds_toArray, List.set_cons_zero, List.set_cons_succ, List.getElem_toArray, List.getElem_cons_zero, List.getElem_cons_succ]
                              refine Lex.skip (by rfl) ?_
                              try simp only [Act.put, List.setIfInBounds_toArray, List.set_cons_zero, List.set_cons_succ, List.getElem_toArray, List.getElem_cons_zero, List.getElem_cons_succ]
                              refine Lex.skip (by rfl) ?_
                              try simp only [Act.put, List.setIfInBounds_toArray, List.set_cons_zero, List.set_cons_succ, List.getElem_toArray, List.getElem_cons_zero, List.getElem_cons_succ]
                              refine Lex.skip (by rfl) ?_
                              try simp only [Act.put, List.setIfInBounds_toArray, List.set_cons_zero, List.set_cons_succ, List.getElem_toArray, List.getElem_cons_zero, List.getElem_cons_succ]
                              refine Lex.skip (by rfl) ?_
                              try simp only [Act.put, List.setIfInBounds_toArray, List.set_cons_zero, List.set_cons_succ, List.getElem_toArray, List.getElem_cons_zero, List.getElem_cons_succ]
                              refine Lex.skip (by rfl) ?_
                              try simp only [Act.put, List.setIfInBounds_toArray, List.set_cons_zero, List.set_cons_succ, List.getElem_toArray, List.getElem_cons_zero, List.getElem_cons_succ]
                              refine Lex.skip (by rfl) ?_
                              try simp only [Act.put, List.setIfInBounds_toArray, List.set_cons_zero, List.set_cons_succ, List.getElem_toArray, List.getElem_cons_zero, List.getElem_cons_succ]
                              refine Lex.skip (by rfl) ?_
                              try simp only [Act.put, List.setIfInBounds_toArray, List.set_cons_zero, List.set_cons_succ, List.getElem_toArray, List.getElem_cons_zero, List.getElem_cons_succ]
                              refine Lex.skip (by rfl) ?_
                              try simp only [Act.put, List.setIfInBounds_toArray, List.set_cons_zero, List.set_cons_succ, List.getElem_toArray, List.getElem_cons_zero, List.getElem_cons_succ]
                              refine Lex.skip (by rfl) ?_
                              try simp only [Act.put, List.setIfInBounds_toArray, List.set_cons_zero, List.set_cons_succ, List.getElem_toArray, List.getElem_cons_zero, List.getElem_cons_succ]
                              refine Lex.skip (by rfl) ?_
                              try simp only [Act.put, List.setIfInBounds_toArray, List.set_cons_zero, List.set_cons_succ, List.getElem_toArray, List.getElem_cons_zero, List.getElem_cons_succ]
                              refine Lex.skip (by rfl) ?_
                              try simp only [Act.put, List.setIfInBounds_toArray, List.set_cons_zero, List.set_cons_succ, List.getElem_toArray, List.getElem_cons_zero, List.getElem_cons_succ]
                              refine Lex.skip (by rfl) ?_
                              try simp only [Act.put, List.setIfInBounds_toArray, List.set_cons_zero, List.set_cons_succ, List.getElem_toArray, List.getElem_cons_zero, List.getElem_cons_succ]
                              refine Lex.skip (by rfl) ?_
                              try simp only [Act.put, List.setIfInBounds_toArray, List.set_cons_zero, List.set_cons_succ, List.getElem_toArray, List.getElem_cons_zero, List.getElem_cons_succ]
                              as_aux_lemma =>
                                refine Lex.want (v := ?_) (by rfl) (fun W hW => ?hd95) ?_
                                case hd95 =>
                                  have hh := HF.out W hW
                                  clear hW
                                  go_split_ands
                                  go_simp
                                  first | rfl | exact way_new.refl _ | exact way_grow.refl _ | (refine ⟨?_, way_new.refl _⟩; rfl) | (refine ⟨?_, way_grow.refl _⟩; rfl)
                                try simp only [Act.put, List.setIfInBounds_toArray, List.set_cons_zero, List.set_cons_succ, List.getElem_toArray, List.getElem_cons_zero, List.getElem_cons_succ]
                                refine Lex.want (v := ?_) (by rfl) (fun W hW => ?hd96) ?_
                                case hd96 =>
                                  have hh := HF.out W hW
                                  clear hW
                                  go_split_ands
                                  go_simp
                                  first | rfl | exact way_new.refl _ | exact way_grow.refl _ | (refine ⟨?_, way_new.refl _⟩; rfl) | (refine ⟨?_, way_grow.refl _⟩; rfl)
                                try simp only [Act.put, List.setIfInBounds_toArray, List.set_cons_zero, List.set_cons_succ, List.getElem_toArray, List.getElem_cons_zero, List.getElem_cons_succ]
                                refine Lex.want (v := ?_) (by rfl) (fun W hW => ?hd97) ?_
                                case hd97 =>
                                  have hh := HF.out W hW
                                  clear hW
                                  go_split_ands
                                  go_simp
                                  first | rfl | exact way_new.refl _ | exact way_grow.refl _ | (refine ⟨?_, way_new.refl _⟩; rfl) | (refine ⟨?_, way_grow.refl _⟩; rfl)
                                try simp only [Act.put, List.setIfInBounds_toArray, List.set_cons_zero, List.set_cons_succ, List.getElem_toArray, List.getElem_cons_zero, List.getElem_cons_succ]
                                refine Lex.want (v := ?_) (by rfl) (fun W hW => ?hd98) ?_
                                case hd98 =>
                                  have hh := HF.out W hW
                                  clear hW
                                  go_split_ands
                                  go_simp
                                  first | rfl | exact way_new.refl _ | exact way_grow.refl _ | (refine ⟨?_, way_new.refl _⟩; rfl) | (refine ⟨?_, way_grow.refl _⟩; rfl)
                                try simp only [Act.put, List.setIfInBounds_toArray, List.set_cons_zero, List.set_cons_succ, List.getElem_toArray, List.getElem_cons_zero, List.getElem_cons_succ]
                                refine Lex.want (v := ?_) (by rfl) (fun W hW => ?hd99) ?_
                                case hd99 =>
                                  have hh := HF.out W hW
                                  clear hW
                                  go_split_ands
                                  go_simp
                                  first | rfl | exact way_new.refl _ | exact way_grow.refl _ | (refine ⟨?_, way_new.refl _⟩; rfl) | (refine ⟨?_, way_grow.refl _⟩; rfl)
                                try simp only [Act.put, List.setIfInBounds_toArray, List.set_cons_zero, List.set_cons_succ, List.getElem_toArray, List.getElem_cons_zero, List.getElem_cons_succ]
                                refine Lex.want (v := ?_) (by rfl) (fun W hW => ?hd100) ?_
                                case hd100 =>
                                  have hh := HF.out W hW
                                  clear hW
                                  go_split_ands
                                  go_simp
                                  first | rfl | exact way_new.refl _ | exact way_grow.refl _ | (refine ⟨?_, way_new.refl _⟩; rfl) | (refine ⟨?_, way_grow.refl _⟩; rfl)
                                try simp only [Act.put, List.setIfInBounds_toArray, List.set_cons_zero, List.set_cons_succ, List.getElem_toArray, List.getElem_cons_zero, List.getElem_cons_succ]
                                refine Lex.want (v := ?_) (by rfl) (fun W hW => ?hd101) ?_
                                case hd101 =>
                                  have hh := HF.out W hW
                                  clear hW
                                  go_split_ands
                                  go_simp
                                  first | rfl | exact way_new.refl _ | exact way_grow.refl _ | (refine ⟨?_, way_new.refl _⟩; rfl) | (refine ⟨?_, way_grow.refl _⟩; rfl)
                                try simp only [Act.put, List.setIfInBounds_toArray, List.set_cons_zero, List.set_cons_succ, List.getElem_toArray, List.getElem_cons_zero, List.getElem_cons_succ]
                                refine Lex.want (v := ?_) (by rfl) (fun W hW => ?hd102) ?_
                                case hd102 =>
                                  have hh := HF.out W hW
                                  clear hW
                                  go_split_ands
                                  go_simp
                                  first | rfl | exact way_new.refl _ | exact way_grow.refl _ | (refine ⟨?_, way_new.refl _⟩; rfl) | (refine ⟨?_, way_grow.refl _⟩; rfl)
                                try simp only [Act.put, List.setIfInBounds_toArray, List.set_cons_zero, List.set_cons_succ, List.getElem_toArray, List.getElem_cons_zero, List.getElem_cons_succ]
                                refine Lex.want (v := ?_) (by rfl) (fun W hW => ?hd103) ?_
                                case hd103 =>
                                  have hh := HF.out W hW
                                  clear hW
                                  go_split_ands
                                  go_simp
                                  first | rfl | exact way_new.refl _ | exact way_grow.refl _ | (refine ⟨?_, way_new.refl _⟩; rfl) | (refine ⟨?_, way_grow.refl _⟩; rfl)
                                try simp only [Act.put, List.setIfInBounds_toArray, List.set_cons_zero, List.set_cons_succ, List.getElem_toArray, List.getElem_cons_zero, List.getElem_cons_succ]
                                refine Lex.want (v := ?_) (by rfl) (fun W hW => ?hd104) ?_
                                case hd104 =>
                                  have hh := HF.out W hW
                                  clear hW
                                  go_split_ands
                                  go_simp
                                  first | rfl | exact way_new.refl _ | exact way_grow.refl _ | (refine ⟨?_, way_new.refl _⟩; rfl) | (refine ⟨?_, way_grow.refl _⟩; rfl)
                                try simp only [Act.put, List.setIfInBounds_toArray, List.set_cons_zero, List.set_cons_succ, List.getElem_toArray, List.getElem_cons_zero, List.getElem_cons_succ]
                                refine Lex.want (v := ?_) (by rfl) (fun W hW => ?hd105) ?_
                                case hd105 =>
                                  have hh := HF.out W hW
                                  clear hW
                                  go_split_ands
                                  go_simp
                                  first | rfl | exact way_new.refl _ | exact way_grow.refl _ | (refine ⟨?_, way_new.refl _⟩; rfl) | (refine ⟨?_, way_grow.refl _⟩; rfl)
                                try simp only [Act.put, List.setIfInBounds_toArray, List.set_cons_zero, List.set_cons_succ, List.getElem_toArray, List.getElem_cons_zero, List.getElem_cons_succ]
                                refine Lex.want (v := ?_) (by rfl) (fun W hW => ?hd106) ?_
                                case hd106 =>
                                  have hh := HF.out W hW
                                  clear hW
                                  go_split_ands
                                  go_simp
                                  first | rfl | exact way_new.refl _ | exact way_grow.refl _ | (refine ⟨?_, way_new.refl _⟩; rfl) | (refine ⟨?_, way_grow.refl _⟩; rfl)
                                try simp only [Act.put, List.setIfInBounds_toArray, List.set_cons_zero, List.set_cons_succ, List.getElem_toArray, List.getElem_cons_zero, List.getElem_cons_succ]
                                refine Lex.want (v := ?_) (by rfl) (fun W hW => ?hd107) ?_
                                case hd107 =>
                                  have hh := HF.out W hW
                                  clear hW
                                  go_split_ands
                                  go_simp
                                  first | rfl | exact way_new.refl _ | exact way_grow.refl _ | (refine ⟨?_, way_new.refl _⟩; rfl) | (refine ⟨?_, way_grow.refl _⟩; rfl)
                                try simp only [Act.put, List.setIfInBounds_toArray, List.set_cons_zero, List.set_cons_succ, List.getElem_toArray, List.getElem_cons_zero, List.getElem_cons_succ]
                                refine Lex.want (v := ?_) (by rfl) (fun W hW => ?hd108) ?_
                                case hd108 =>
                                  have hh := HF.out W hW
                                  clear hW
                                  go_split_ands
                                  go_simp
                                  first | rfl | exact way_new.refl _ | exact way_grow.refl _ | (refine ⟨?_, way_new.refl _⟩; rfl) | (refine ⟨?_, way_grow.refl _⟩; rfl)
                                try simp only [Act.put, List.setIfInBounds_toArray, List.set_cons_zero, List.set_cons_succ, List.getElem_toArray, List.getElem_cons_zero, List.getElem_cons_succ]
                                refine Lex.want (v := ?_) (by rfl) (fun W hW => ?hd109) ?_
                                case hd109 =>
                                  have hh := HF.out W hW
                                  clear hW
                                  go_split_ands
                                  go_simp
                                  first | rfl | exact way_new.refl _ | exact way_grow.refl _ | (refine ⟨?_, way_new.refl _⟩; rfl) | (refine ⟨?_, way_grow.refl _⟩; rfl)
                                try simp only [Act.put, List.setIfInBounds_toArray, List.set_cons_zero, List.set_cons_succ, List.getElem_toArray, List.getElem_cons_zero, List.getElem_cons_succ]
                                refine Lex.want (v := ?_) (by rfl) (fun W hW => ?hd110) ?_
                                case hd110 =>
                                  have hh := HF.out W hW
                                  clear hW
                                  go_split_ands
                                  go_simp
                                  first | rfl | exact way_new.refl _ | exact way_grow.refl _ | (refine ⟨?_, way_new.refl _⟩; rfl) | (refine ⟨?_, way_grow.refl _⟩; rfl)
                                try simp only [Act.put, List.setIfInBounds_toArray, List.set_cons_zero, List.set_cons_succ, List.getElem_toArray, List.getElem_cons_zero, List.getElem_cons_succ]
                                refine Lex.want (v := ?_) (by rfl) (fun W hW => ?hd111) ?_
                                case hd111 =>
                                  have hh := HF.out W hW
                                  clear hW
                                  go_split_ands
                                  go_simp
                                  first | rfl | exact way_new.refl _ | exact way_grow.refl _ | (refine ⟨?_, way_new.refl _⟩; rfl) | (refine ⟨?_, way_grow.refl _⟩; rfl)
                                try simp only [Act.put, List.setIfInBounds_toArray, List.set_cons_zero, List.set_cons_succ, List.getElem_toArray, List.getElem_cons_zero, List.getElem_cons_succ]
                                refine Lex.want (v := ?_) (by rfl) (fun W hW => ?hd112) ?_
                                case hd112 =>
                                  have hh := HF.out W hW
                                  clear hW
                                  go_split_ands
                                  go_simp
                                  first | rfl | exact way_new.refl _ | exact way_grow.refl _ | (refine ⟨?_, way_new.refl _⟩; rfl) | (refine ⟨?_, way_grow.refl _⟩; rfl)
                                try simp only [Act.put, List.setIfInBounds_toArray, List.set_cons_zero, List.set_cons_succ, List.getElem_toArray, List.getElem_cons_zero, List.getElem_cons_succ]
                                refine Lex.want (v := ?_) (by rfl) (fun W hW => ?hd113) ?_
                                case hd113 =>
                                  have hh := HF.out W hW
                                  clear hW
                                  go_split_ands
                                  go_simp
                                  first | rfl | exact way_new.refl _ | exact way_grow.refl _ | (refine ⟨?_, way_new.refl _⟩; rfl) | (refine ⟨?_, way_grow.refl _⟩; rfl)
                                try simp only [Act.put, List.setIfInBounds_toArray, List.set_cons_zero, List.set_cons_succ, List.getElem_toArray, List.getElem_cons_zero, List.getElem_cons_succ]
                                refine Lex.want (v := ?_) (by rfl) (fun W hW => ?hd114) ?_
                                case hd114 =>
                                  have hh := HF.out W hW
                                  clear hW
                                  go_split_ands
                                  go_simp
                                  first | rfl | exact way_new.refl _ | exact way_grow.refl _ | (refine ⟨?_, way_new.refl _⟩; rfl) | (refine ⟨?_, way_grow.refl _⟩; rfl)
                                try simp only [Act.put, List.setIfInBounds_toArray, List.set_cons_zero, List.set_cons_succ, List.getElem_toArray, List.getElem_cons_zero, List.getElem_cons_succ]
                                refine Lex.want (v := ?_) (by rfl) (fun W hW => ?hd115) ?_
                                case hd115 =>
                                  have hh := HF.out W hW
                                  clear hW
                                  go_split_ands
                                  go_simp
                                  first | rfl | exact way_new.refl _ | exact way_grow.refl _ | (refine ⟨?_, way_new.refl _⟩; rfl) | (refine ⟨?_, way_grow.refl _⟩; rfl)
                                try simp only [Act.put, List.setIfInBounds_toArray, List.set_cons_zero, List.set_cons_succ, List.getElem_toArray, List.getElem_cons_zero, List.getElem_cons_succ]
                                refine Lex.want (v := ?_) (by rfl) (fun W hW => ?hd116) ?_
                                case hd116 =>
                                  have hh := HF.out W hW
                                  clear hW
                                  go_split_ands
                                  go_simp
                                  first | rfl | exact way_new.refl _ | exact way_grow.refl _ | (refine ⟨?_, way_new.refl _⟩; rfl) | (refine ⟨?_, way_grow.refl _⟩; rfl)
                                try simp only [Act.put, List.setIfInBounds_toArray, List.set_cons_zero, List.set_cons_succ, List.getElem_toArray, List.getElem_cons_zero, List.getElem_cons_succ]
                                refine Lex.want (v := ?_) (by rfl) (fun W hW => ?hd117) ?_
                                case hd117 =>
                                  have hh := HF.out W hW
                                  clear hW
                                  go_split_ands
                                  go_simp
                                  first | rfl | exact way_new.refl _ | exact way_grow.refl _ | (refine ⟨?_, way_new.refl _⟩; rfl) | (refine ⟨?_, way_grow.refl _⟩; rfl)
                                try simp only [Act.put, List.setIfInBounds_toArray, List.set_cons_zero, List.set_cons_succ, List.getElem_toArray, List.getElem_cons_zero, List.getElem_cons_succ]
                                refine Lex.want (v := ?_) (by rfl) (fun W hW => ?hd118) ?_
                                case hd118 =>
                                  have hh := HF.out W hW
                                  clear hW
                                  go_split_ands
                                  go_simp
                                  first | rfl | exact way_new.refl _ | exact way_grow.refl _ | (refine ⟨?_, way_new.refl _⟩; rfl) | (refine ⟨?_, way_grow.refl _⟩; rfl)
                                try simp only [Act.put, List.setIfInBounds_toArray, List.set_cons_zero, List.set_cons_succ, List.getElem_toArray, List.getElem_cons_zero, List.getElem_cons_succ]
                                refine Lex.want (v := ?_) (by rfl) (fun W hW => ?hd119) ?_
                                case hd119 =>
                                  have hh := HF.out W hW
                                  clear hW
                                  go_split_ands
                                  go_simp
                                  first | rfl | exact way_new.refl _ | exact way_grow.refl _ | (refine ⟨?_, way_new.refl _⟩; rfl) | (refine ⟨?_, way_grow.refl _⟩; rfl)
                                try simp only [Act.put, List.setIfInBounds_toArray, List.set_cons_zero, List.set_cons_succ, List.getElem_toArray, List.getElem_cons_zero, List.getElem_cons_succ]
                                refine Lex.want (v := ?_) (by rfl) (fun W hW => ?hd120) ?_
                                case hd120 =>
                                  have hh := HF.out W hW
                                  clear hW
                                  go_split_ands
                                  go_simp
                                  first | rfl | exact way_new.refl _ | exact way_grow.refl _ | (refine ⟨?_, way_new.refl _⟩; rfl) | (refine ⟨?_, way_grow.refl _⟩; rfl)
                                try simp only [Act.put, List.setIfInBounds_toArray, List.set_cons_zero, List.set_cons_succ, List.getElem_toArray, List.getElem_cons_zero, List.getElem_cons_succ]
                                refine Lex.want (v := ?_) (by rfl) (fun W hW => ?hd121) ?_
                                case hd121 =>
                                  have hh := HF.out W hW
                                  clear hW
                                  go_split_ands
                                  go_simp
                                  first | rfl | exact way_new.refl _ | exact way_grow.refl _ | (refine ⟨?_, way_new.refl _⟩; rfl) | (refine ⟨?_, way_grow.refl _⟩; rfl)
                                try simp only [Act.put, List.setIfInBounds_toArray, List.set_cons_zero, List.set_cons_succ, List.getElem_toArray, List.getElem_cons_zero, List.getElem_cons_succ]
                                refine Lex.want (v := ?_) (by rfl) (fun W hW => ?hd122) ?_
                                case hd122 =>
                                  have hh := HF.out W hW
                                  clear hW
                                  go_split_ands
                                  go_simp
                                  first | rfl | exact way_new.refl _ | exact way_grow.refl _ | (refine ⟨?_, way_new.refl _⟩; rfl) | (refine ⟨?_, way_grow.refl _⟩; rfl)
                                try simp only [Act.put, List.setIfInBounds_toArray, List.set_cons_zero, List.set_cons_succ, List.getElem_toArray, List.getElem_cons_zero, List.getElem_cons_succ]
                                refine Lex.nil (hKT.out _ ?_)
                                clear hKT KT
                                refine Reg.done (by kernel_rfl) (fun W hW hWT => ⟨by kernel_rfl, ?_⟩)
                                simp only [List.drop_succ_cons, List.drop_zero]
                                subst hW
                                clear HF hWT
                                go_wp2_with fail
                                exact ⟨⟨j + 1, by omega, by go_num, HBJ⟩, by simp [intOf]; omega⟩
                          -- END38
                        · have hjm : j = lm := by omega
                          subst hjm
                          obtain ⟨w8, rfl⟩ : ∃ w8 : World, w8 = wr := ⟨_, rfl⟩
                          have HD8 := hide (HD7.out.step hbr.out)
                          have HO8 := hide (HO7.out.below hbr.out)
                          have HPC8 : Hid (∀ v, v ≤ n → w8.cell? ⟨pb, v, none⟩ = some (.int .i64 (idxI (orderC G.c G.ls) (G.c.f (v : Int)) 0))) := hide fun v hv => (Below.cell hbr.out (p := ⟨pb, v, none⟩) hpb7).trans (HPC7.out v hv)
                          have hpb8 : pb < w8.heap.size := by have := hbr.out.size; omega
                          clear hbr HD7 HO7 HPC7 HGA
                          go_wp2_with fail
                          go_loopw [20] (fun iv wr => ∃ j : Nat, 1 ≤ j ∧ j ≤ n + 1 ∧ iv = .int .i64 j ∧ Hid (Below w8.heap.size w8 wr)) (fun iv _ => n + 2 - (intOf iv).toNat)
                          case atStart => exact ⟨1, by omega, by omega, rfl, hide (Below.refl _ _)⟩
                          case round =>
                            obtain ⟨j2, hj1, hj2, rfl, hbr⟩ := hrel
                            by_cases hjn : j2 ≤ n
                            · have hpj := (Below.cell hbr.out (p := ⟨pb, j2, none⟩) hpb8).trans (HPC8.out j2 hjn)
                              have hpos := place_all HOKG.out hfu.out (v := (j2 : Int)) (by omega) (by rw [hnn.out]; omega)
                              obtain ⟨S, hS⟩ : ∃ S, idxI (orderC G.c G.ls) (G.c.f (j2 : Int)) 0 = S := ⟨_, rfl⟩
                              rw [hS] at hpj hpos
                              have e7 : decide (S < 0) = false := decide_eq_false (by omega)
                              have d1 : j2 < k2 := by omega
                              have d1' : (j2 : Int) < (k2 : Int) := by omega
                              clear hS
                              go_wp2_with fail
                              exact ⟨⟨j2 + 1, by omega, by omega, by go_num, hbr⟩, by simp [intOf]; omega⟩
                            · as_aux_lemma =>
                                have HD9 := hide (HD8.out.step hbr.out)
                                have HO9 := hide (HO8.out.below hbr.out)
                                clear hbr HD8 HO8 HPC8 HOB
                                go_wp2_with (go_at_call 19; refine Hid.out ?_)
                                refine hide ?_
                                refine (gr_order HD9.out.swap.left).mono ?_
                                rintro e w9 ⟨pa, pc2, rfl, hp9, hb9⟩
                                have hbw9 := HD9.out.below.trans (hb9.mono HD9.out.below.size)
                                have hi30 : i ≤ 30 := by omega
                                cases ob with
                                | false =>
                                  have HB9 := hide hbw9
                                  clear hp9 hb9 HD9 HO9 HXG hbw9
                                  generalize (orderG X').length = pl
                                  rcases Nat.eq_zero_or_pos i with h0 | h0
                                  · subst h0
                                    go_wp2_with fail
                                    go_loopw [22] (fun iv wr => iv = .int .i64 0 ∧ wr = w9) (fun _ _ => 0)
                                    case atStart => exact ⟨rfl, rfl⟩
                                    case round =>
                                      obtain ⟨rfl, rfl⟩ := hrel
                                      have HAL := hide (alive18_calls wr)
                                      go_wp2_with (go_at_call 12; refine HAL.out.mono ?_; rintro e w10 ⟨rfl, hb10⟩; have HB10 := hide hb10; clear hb10)
                                      go_ret
                                      exact ⟨rfl, HB9.out.trans (HB10.out.mono HB9.out.size)⟩
                                  · go_wp2_with fail
                                    go_loopw [22] (fun iv wr => iv = .int .i64 0 ∧ wr = w9) (fun _ _ => 0)
                                    case atStart => exact ⟨rfl, rfl⟩
                                    case round =>
                                      obtain ⟨rfl, rfl⟩ := hrel
                                      have HAL := hide (alive18_calls wr)
                                      go_wp2_with (go_at_call 12; refine HAL.out.mono ?_; rintro e w10 ⟨rfl, hb10⟩; have HB10 := hide hb10; clear hb10)
                                      go_ret
                                      exact ⟨rfl, HB9.out.trans (HB10.out.mono HB9.out.size)⟩
                                | true =>
                                  have hXX : X' = G := HXG.out rfl
                                  have HB9 := hide hbw9
                                  have HP9 : Hid (RowsIn w9 pa (orderG G)) := hide (hXX ▸ hp9)
                                  have HO10 := hide (HO9.out.below hb9)
                                  have hlx : (orderG X').length = i := by rw [hXX]; exact HM.out
                                  rw [hlx]
                                  clear hp9 hb9 HD9 HO9 HXG hbw9 hXX hlx
                                  go_wp2_with fail
                                  go_loopw [22] (fun iv wr => ∃ j : Nat, j ≤ i ∧ iv = .int .i64 j ∧ Hid (Below w9.heap.size w9 wr)) (fun iv _ => i - (intOf iv).toNat)
                                  case atStart => exact ⟨0, by omega, rfl, hide (Below.refl _ _)⟩
                                  case round =>
                                    obtain ⟨j, hj, rfl, hbr⟩ := hrel
                                    by_cases hjl : j < i
                                    · obtain ⟨x, hx⟩ : ∃ x, (orderG G)[j]? = some x := ⟨(orderG G)[j]'(by have := HM.out; omega), List.getElem?_eq_getElem _⟩
                                      obtain ⟨r1, o1, ra1, rc1, rfl, hr1, q1, i1⟩ := (HO10.out.below hbr.out) j x hx
                                      obtain ⟨r2, o2, ra2, rc2, rfl, hr2, q2, i2⟩ := (HP9.out.below hbr.out) j x hx
                                      have hxl : x.length ≤ 1000 := by
                                        obtain ⟨a, _, rfl⟩ := orderG_class hx
                                        have h1 := classC_length G.c a
                                        have h2 := hnn.out
                                        omega
                                      obtain ⟨xn, hxn⟩ : ∃ xn, x.length = xn := ⟨_, rfl⟩
                                      have HSI : Hid (∀ W, New wr W → Calls Try.prog 21 #[.slice ra1 xn rc1, .slice ra2 xn rc2] W fun e w' => e = .returned (.bool true) ∧ New W w') := hide fun W hW => by
                                        have := same_ints ra1 ra2 xn xn rc1 rc2 x x W hxn hxn (by omega) (i1.below hW) (i2.below hW)
                                        rwa [decide_eq_true rfl] at this
                                      rw [hxn] at q1 q2
                                      have HF : Hid (∀ W, New wr W → W.cell? ⟨r1, o1 + j, none⟩ = some (.slice ra1 xn rc1) ∧ W.cell? ⟨r2, o2 + j, none⟩ = some (.slice ra2 xn rc2)) := hide fun W hW =>
                                        ⟨(Below.cell hW (p := ⟨r1, o1 + j, none⟩) hr1).trans q1, (Below.cell hW (p := ⟨r2, o2 + j, none⟩) hr2).trans q2⟩
                                      clear hx q1 q2 i1 i2 hxn hxl
                                      go_wp2_with fail
                                      refine region_by New way_new 10 10 (fun W => New wr W) (by kernel_rfl) (by kernel_rfl) (fun _ _ d _ _ h => by cases d <;> exact h) (fun x y h hx => way_new.trans hx h) (Below.refl _ _).drew (fun KT hKT => ?_)
                                      simp only [List.take_succ_cons, List.take_zero]
                                      refine Lex.want (v := ?_) (by rfl) (fun W hW => ?hd123) ?_
                                      case hd123 =>
                                        have hh := HF.out W hW
                                        clear hW
                                        go_split_ands
                                        go_simp
                                        first | rfl | exact way_new.refl _ | exact way_grow.refl _ | (refine ⟨?_, way_new.refl _⟩; rfl) | (refine ⟨?_, way_grow.refl _⟩; rfl)
                                      try simp only [Act.put, List.setIfInBounds_toArray, List.set_cons_zero, List.set_cons_succ, List.getElem_toArray, List.getElem_cons_zero, List.getElem_cons_succ]
                                      refine Lex.want (v := ?_) (by rfl) (fun W hW => ?hd124) ?_
                                      case hd124 =>
                                        have hh := HF.out W hW
                                        clear hW
                                        go_split_ands
                                        go_simp
                                        first | rfl | exact way_new.refl _ | exact way_grow.refl _ | (refine ⟨?_, way_new.refl _⟩; rfl) | (refine ⟨?_, way_grow.refl _⟩; rfl)
                                      try simp only [Act.put, List.setIfInBounds_toArray, List.set_cons_zero, List.set_cons_succ, List.getElem_toArray, List.getElem_cons_zero, List.getElem_cons_succ]
                                      refine Lex.want (v := ?_) (by rfl) (fun W hW => ?hd125) ?_
                                      case hd125 =>
                                        have hh := HF.out W hW
                                        clear hW
                                        go_split_ands
                                        go_simp
                                        first | rfl | exact way_new.refl _ | exact way_grow.refl _ | (refine ⟨?_, way_new.refl _⟩; rfl) | (refine ⟨?_, way_grow.refl _⟩; rfl)
                                      try simp only [Act.put, List.setIfInBounds_toArray, List.set_cons_zero, List.set_cons_succ, List.getElem_toArray, List.getElem_cons_zero, List.getElem_cons_succ]
                                      refine Lex.want (v := ?_) (by rfl) (fun W hW => ?hd126) ?_
                                      case hd126 =>
                                        have hh := HF.out W hW
                                        clear hW
                                        go_split_ands
                                        go_simp
                                        first | rfl | exact way_new.refl _ | exact way_grow.refl _ | (refine ⟨?_, way_new.refl _⟩; rfl) | (refine ⟨?_, way_grow.refl _⟩; rfl)
                                      try simp only [Act.put, List.setIfInBounds_toArray, List.set_cons_zero, List.set_cons_succ, List.getElem_toArray, List.getElem_cons_zero, List.getElem_cons_succ]
                                      refine Lex.want (v := ?_) (by rfl) (fun W hW => ?hd127) ?_
                                      case hd127 =>
                                        have hh := HF.out W hW
                                        clear hW
                                        go_split_ands
                                        go_simp
                                        first | rfl | exact way_new.refl _ | exact way_grow.refl _ | (refine ⟨?_, way_new.refl _⟩; rfl) | (refine ⟨?_, way_grow.refl _⟩; rfl)
                                      try simp only [Act.put, List.setIfInBounds_toArray, List.set_cons_zero, List.set_cons_succ, List.getElem_toArray, List.getElem_cons_zero, List.getElem_cons_succ]
                                      refine Lex.want (v := ?_) (by rfl) (fun W hW => ?hd128) ?_
                                      case hd128 =>
                                        have hh := HF.out W hW
                                        clear hW
                                        go_split_ands
                                        go_simp
                                        first | rfl | exact way_new.refl _ | exact way_grow.refl _ | (refine ⟨?_, way_new.refl _⟩; rfl) | (refine ⟨?_, way_grow.refl _⟩; rfl)
                                      try simp only [Act.put, List.setIfInBounds_toArray, List.set_cons_zero, List.set_cons_succ, List.getElem_toArray, List.getElem_cons_zero, List.getElem_cons_succ]
                                      refine Lex.want (v := ?_) (by rfl) (fun W hW => ?hd129) ?_
                                      case hd129 =>
                                        have hh := HF.out W hW
                                        clear hW
                                        go_split_ands
                                        go_simp
                                        first | rfl | exact way_new.refl _ | exact way_grow.refl _ | (refine ⟨?_, way_new.refl _⟩; rfl) | (refine ⟨?_, way_grow.refl _⟩; rfl)
                                      try simp only [Act.put, List.setIfInBounds_toArray, List.set_cons_zero, List.set_cons_succ, List.getElem_toArray, List.getElem_cons_zero, List.getElem_cons_succ]
                                      refine Lex.want (v := ?_) (by rfl) (fun W hW => ?hd130) ?_
                                      case hd130 =>
                                        have hh := HF.out W hW
                                        clear hW
                                        go_split_ands
                                        go_simp
                                        first | rfl | exact way_new.refl _ | exact way_grow.refl _ | (refine ⟨?_, way_new.refl _⟩; rfl) | (refine ⟨?_, way_grow.refl _⟩; rfl)
                                      try simp only [Act.put, List.setIfInBounds_toArray, List.set_cons_zero, List.set_cons_succ, List.getElem_toArray, List.getElem_cons_zero, List.getElem_cons_succ]
                                      refine Lex.want (v := ?_) (by rfl) (fun W hW => ?hd131) ?_
                                      case hd131 =>
                                        have hcc := hide (HSI.out W hW)
                                        go_simp
                                        exact hcc
                                      try simp only [Act.put, List.setIfInBounds_toArray, List.set_cons_zero, List.set_cons_succ, List.getElem_toArray, List.getElem_cons_zero, List.getElem_cons_succ]
                                      refine Lex.want (v := ?_) (by rfl) (fun W hW => ?hd132) ?_
                                      case hd132 =>
                                        have hh := HF.out W hW
                                        clear hW
                                        go_split_ands
                                        go_simp
                                        first | rfl | exact way_new.refl _ | exact way_grow.refl _ | (refine ⟨?_, way_new.refl _⟩; rfl) | (refine ⟨?_, way_grow.refl _⟩; rfl)
                                      try simp only [Act.put, List.setIfInBounds_toArray, List.set_cons_zero, List.set_cons_succ, List.getElem_toArray, List.getElem_cons_zero, List.getElem_cons_succ]
                                      refine Lex.nil (hKT.out _ ?_)
                                      clear hKT KT
                                      refine Reg.done (by kernel_rfl) (fun W hW hWT => ⟨by kernel_rfl, ?_⟩)
                                      simp only [List.drop_succ_cons, List.drop_zero]
                                      clear HF HSI
                                      have HB9' := hide (hbr.out.trans (Below.mono hWT hbr.out.size))
                                      go_wp2_with fail
                                      exact ⟨⟨j + 1, by omega, by go_num, HB9'⟩, by simp [intOf]; omega⟩
                                    · have hjm : j = i := by omega
                                      subst hjm
                                      have HBZ := hide (HB9.out.trans (hbr.out.mono HB9.out.size))
                                      have HAL := hide (alive18_calls wr)
                                      clear HO10 HP9
                                      go_wp2_with (go_at_call 12; refine HAL.out.mono ?_; rintro e w10 ⟨rfl, hb10⟩; have HB10 := hide hb10; clear hb10)
                                      go_ret
                                      exact ⟨rfl, HBZ.out.trans (HB10.out.mono HBZ.out.size)⟩
end Go.Proofs.Ytpkhmhfgnpnpfaa
