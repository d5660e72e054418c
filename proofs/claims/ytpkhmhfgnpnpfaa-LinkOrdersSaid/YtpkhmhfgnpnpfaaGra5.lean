/- Package link: order: the walk. -/
import Derived.Test.YtpkhmhfgnpnpfaaGra4
namespace Go.Proofs.Ytpkhmhfgnpnpfaa
set_option linter.unusedSimpArgs false
set_option linter.unusedVariables false
open Go.RowKit
attribute [local go_sem] objAt_alloc objAt_alloc_at objAt_drew objAt_drewN objAt_setCell comesTo_value comesTo_enter
theorem enters83 : Enters Try.prog 83 := enters_of Try.func83 (by kernel_rfl) rfl

set_option maxHeartbeats 4000000 in
set_option maxRecDepth 100000 in
theorem order_calls (u : Nat) (F : Nat → Prop) (c : Cls) (a : Option Addr) (n cp : Nat) (ls : List PLink) (w : World) (hu : UfAt w u F c) (hl : LinksArg w a n cp ls) (hfew : n ≤ 100000) :
    Calls Try.prog 49 #[.pointer (some ⟨u, 0, none⟩), .slice a n cp] w (RowsPost w ((orderC c ls).map (classC c))) := by
  have hmk := @run_makeMap Try.prog
  obtain ⟨i0, hi, hz0, hz1, hz2⟩ := info_parts intsInfo
  have HH := hide (heads_calls u F c a n cp ls w hu hl hfew)
  have HU := hide hu
  have HOK := hide hu.ok.1
  have hsm := hu.ok.2
  have hll : ls.length ≤ 100000 := by rw [hl.1]; exact hfew
  have hHL : (headsC c).length ≤ 1000 := by
    have := List.length_filter_le (fun h => decide (c.f h = h)) (nums c.n)
    rw [nums_length] at this
    exact Nat.le_trans this hsm
  clear hu hl
  go_enter Try.func49, Try.ntmps49
  go_wp2_with (go_at_call 46; refine Hid.out ?_)
  refine hide ?_
  refine HH.out.mono ?_
  rintro e w1 ⟨ab, rfl, hA, hab, hb1⟩
  obtain ⟨w2, hw2⟩ : ∃ w2, ((w1.alloc (.cells #[.map (some ab)] 90)).alloc (.map #[] 0)).alloc (.cells #[.map (some (w1.heap.size + 1))] 142) = w2 := ⟨_, rfl⟩
  have hb12 : Below w1.heap.size w1 w2 := by rw [← hw2]; exact (((Below.refl _ _).alloc (Nat.le_refl _) _).alloc (by simp) _).alloc (by simp; omega) _
  have hb2 : Below w.heap.size w w2 := hb1.trans (hb12.mono hb1.size)
  have he2 : w2.heap[w1.heap.size]? = some (.cells #[.map (some ab)] 90 (0, 0)) := by
    rw [← hw2, Below.heap_alloc _ _ _ (by simp; omega), Below.heap_alloc _ _ _ (by simp)]
    exact heap_alloc_new w1 _
  have hm2 : w2.heap[w1.heap.size + 1]? = some (.map #[] 0) := by
    rw [← hw2, Below.heap_alloc _ _ _ (by simp)]
    have := heap_alloc_new (w1.alloc (.cells #[.map (some ab)] 90)) (.map #[] 0)
    simpa using this
  have hd2 : w2.heap[w1.heap.size + 2]? = some (.cells #[.map (some (w1.heap.size + 1))] 142 (0, 0)) := by
    rw [← hw2]
    have := heap_alloc_new ((w1.alloc (.cells #[.map (some ab)] 90)).alloc (.map #[] 0)) (.cells #[.map (some (w1.heap.size + 1))] 142)
    simpa using this
  have hs2 : w2.heap.size = w1.heap.size + 3 := by rw [← hw2]; simp
  have hmem : OrdMem w2 (w1.heap.size + 2) w1.heap.size (w1.heap.size + 1) ab w.heap.size (unitOf []) c ls := ⟨hd2, he2, ⟨#[], 0, hm2, by simp [unitOf], by simp, by simp, apart_nil⟩, hA.below hb12, by obtain ⟨L, q, _⟩ := hA; have := q.1.lt; omega⟩
  have HMEM := hide hmem
  have HB2 := hide hb2
  have HCL := hide (classes_calls (HU.out.below hb2))
  have hs1 := hb1.size
  clear hA hb1 hb12 hb2 he2 hm2 hd2 hmem HH
  go_wp2_with (go_at_call 85; refine Hid.out ?_)
  refine hide ?_
  refine HCL.out.mono ?_
  rintro e w3 ⟨av, rfl, ⟨vs, hv1, hv2, hv3⟩, hb3⟩
  obtain ⟨aa, ac, rfl, _, _⟩ := rows_vals hv1 hv2
  obtain ⟨m, hm⟩ : ∃ m, (classesC c).length = m := ⟨_, rfl⟩
  have hmm : m ≤ 1000 := by rw [← hm, classesC, List.length_map]; exact hHL
  have HV1 := hide hv1
  have HV2 := hide hv2
  have HV3 := hide hv3
  have HB3 := hide (HB2.out.trans (hb3.mono HB2.out.size))
  have hs3 := hb3.size
  have hstart : OrdRel w.heap.size w3 (w1.heap.size + 2) w1.heap.size (w1.heap.size + 1) ab c ls vs (.slice none 0 0) w3 :=
    ⟨[], [], walked_nil, rfl, HMEM.out.below hb3, World.ownsRow_nil _ _ _ _, by simp, Frm.refl _ _⟩
  have HSTART := hide hstart
  have HNC : Hid (∀ cc ee ff, w3.heap[w1.heap.size + 1]? ≠ some (.cells cc ee ff)) := hide (HMEM.out.below hb3).dmap.notCells
  rw [hm]
  have HM := hide hm
  clear hv1 hv2 hv3 hb3 HCL HMEM hstart hm hw2 HU
  obtain ⟨H, hH⟩ : ∃ H, (headsC c).length = H := ⟨_, rfl⟩
  have HH := hide hH
  rw [hH] at hHL
  clear hH
  go_wp2_with fail
  go_loopw [5, 10] (fun out _ wr => Hid (OrdRel w.heap.size w3 (w1.heap.size + 2) w1.heap.size (w1.heap.size + 1) ab c ls vs out wr)) (fun out _ _ => H + 1 - ordLen out)
  case atStart => exact HSTART
  case round =>
    clear HSTART
    obtain ⟨dn, ov, hw, ho, hom, hown, hov, hf⟩ := hrel.out
    have hlen := own_ordLen hown
    have hdl : dn.length ≤ H := by rw [← HH.out]; exact hw.length
    have hv1 := row_frm HV1.out hf (fun g hg e => row_not HV1.out HNC.out (by rw [hg, e]))
    have hv2 : ∀ (i : Nat) (u : Value) (l : List Int), vs[i]? = some u → (classesC c)[i]? = some l → wr.ownsRow w2.heap.size 3 1 u l.length (goInts l) := fun i u l h1 h2 => row_frm (HV2.out i u l h1 h2) hf (fun g hg e => row_not (HV2.out i u l h1 h2) HNC.out (by rw [hg, e]))
    obtain ⟨aa', ac', e1, hvals, hzip⟩ := rows_vals hv1 hv2
    simp only [Value.slice.injEq] at e1
    obtain ⟨rfl, -, rfl⟩ := e1
    have hzl : (vs.zip (classesC c)).length = m := by
      rw [List.length_zip, own_len hv1, HM.out]; omega
    have HI : Hid (Calls Try.prog 86 #[.slice aa m ac, .func (.func 83) #[] #[.pointer (some ⟨w1.heap.size + 2, 0, none⟩), .pointer (some ⟨w1.heap.size, 0, none⟩)]] wr (FirstPost wr (vs.zip (classesC c)) fun x => readyD c ls (unitOf dn) (x.2.headD 0))) := hide
      (indexFunc_row 83 enters83 #[.pointer (some ⟨w1.heap.size + 2, 0, none⟩), .pointer (some ⟨w1.heap.size, 0, none⟩)] (fun x => readyD c ls (unitOf dn) (x.2.headD 0)) aa m ac _ wr hzl (by omega) hvals (fun x hx W hW => by
        obtain ⟨k, hk⟩ := List.getElem?_of_mem hx
        obtain ⟨_, q2, ra, rc, q3, q4⟩ := hzip k x hk
        obtain ⟨h, h1, h2⟩ := class_of q2
        have hhead := mem_headsC.1 (List.mem_of_getElem? h1)
        obtain ⟨r, hr⟩ := classC_head HOK.out hhead
        rw [q3, h2, hr]
        rw [h2, hr] at q4
        exact ready_calls ra _ rc h r _ _ _ _ _ _ c ls W rfl (q4.below hW) (hom.below hW) hll))
    have HZ := hide hzip
    have HVALS := hide hvals
    have HZL := hide hzl
    have HHV2 := hide hv2
    have HHV1 := hide hv1
    clear hvals hv1 hv2 hzip hzl
    go_wp2_with (go_at_call 86; refine Hid.out ?_)
    refine hide ?_
    refine HI.out.mono ?_
    rintro e w5 ⟨rI, rfl, hr, hb5⟩
    rcases hr.out with ⟨k, ⟨xv, xl⟩, rfl, hk, hp, hmin⟩ | ⟨rfl, hnone⟩
    · obtain ⟨z1, z2, ra, rc, z3, z4⟩ := HZ.out k _ hk
      simp only at z1 z2 z3 z4 hp
      obtain ⟨h, h1, rfl⟩ := class_of z2
      have hhead := mem_headsC.1 (List.mem_of_getElem? h1)
      obtain ⟨r, hcr⟩ := classC_head HOK.out hhead
      rw [hcr] at hp z3 z4
      have hrd : readyC c ls dn h = true := (ready_iff c ls dn h).1 hp
      have hnin : h ∉ dn := (readyC_iff.1 hrd).1
      have hfind : (headsC c).find? (readyC c ls dn) = some h := find_first h1 hrd fun j y hj hy => by
        obtain ⟨uu, huu⟩ : ∃ uu, vs[j]? = some uu := ⟨vs[j]'(by have := (List.getElem?_eq_some_iff.1 z1).1; omega), List.getElem?_eq_getElem _⟩
        have hz : (vs.zip (classesC c))[j]? = some (uu, classC c y) := by rw [List.getElem?_zip_eq_some]; exact ⟨huu, class_at hy⟩
        have := hmin j _ hj hz
        simp only at this
        obtain ⟨r', hr'⟩ := classC_head HOK.out (mem_headsC.1 (List.mem_of_getElem? hy))
        rw [hr'] at this
        cases hq : readyC c ls dn y with
        | false => rfl
        | true => exact absurd ((ready_iff c ls dn y).2 hq) this
      have hom5 := hom.below hb5
      have hkm : k < m := by rw [← HZL.out]; exact (List.getElem?_eq_some_iff.1 hk).1
      obtain ⟨b, off, e1, hblt, g1, _⟩ := (HVALS.out.below hb5) k _ hk
      simp only at g1
      obtain ⟨b2, off2, e2, hb2lt, g2⟩ := (z4.below hb5) 0 h rfl
      rw [Nat.add_zero] at g2
      obtain ⟨xn, hxn⟩ : ∃ xn, (h :: r).length = xn := ⟨_, rfl⟩
      have hxn0 : 0 < xn := by rw [← hxn]; simp
      rw [hxn] at z3
      subst z3
      subst e2
      obtain ⟨upd, hupd⟩ := hom5.dmap.update_fn (P := Try.prog) intT Try.underlying142 h ()
      have hrun := fun W hW => (hupd W hW).1
      simp only [ekint, ekunit] at hrun
      have HUPD := hide hupd
      have hob : objAt w5.drew (w1.heap.size + 1) = objAt w5 (w1.heap.size + 1) := rfl
      have hrun5 := hrun w5.drew hob
      have hbn : ¬ b = w1.heap.size + 1 := fun e => by
        subst e
        obtain ⟨es, clock, q, _⟩ := hom5.dmap
        simp [World.cell?, q] at g1
      have hbn2 : ¬ b2 = w1.heap.size + 1 := fun e => by
        subst e
        obtain ⟨es, clock, q, _⟩ := hom5.dmap
        simp [World.cell?, q] at g2
      have hdn : ¬ w1.heap.size + 2 = w1.heap.size + 1 := by omega
      have HF : Hid (∀ W, Frm (fun j => j = w1.heap.size + 1) w5 W → W.cell? ⟨w1.heap.size + 2, 0, none⟩ = some (.map (some (w1.heap.size + 1))) ∧ W.cell? ⟨b, off + k, none⟩ = some (.slice (some ⟨b2, off2, none⟩) xn rc) ∧ W.cell? ⟨b2, off2, none⟩ = some (.int .i64 h)) := hide fun W hW =>
        ⟨(hW.cell (p := ⟨w1.heap.size + 2, 0, none⟩) (Array.getElem?_eq_some_iff.1 hom5.dbox).1 hdn).trans (box_cell hom5.dbox), (hW.cell (p := ⟨b, off + k, none⟩) hblt hbn).trans g1, (hW.cell (p := ⟨b2, off2, none⟩) hb2lt hbn2).trans g2⟩
      have HOM5 := hide hom5
      have HWK := hide (hw.step hhead hrd)
      have HON : Hid (orderN c ls ((headsC c).length - (dn ++ [h]).length) (dn ++ [h]) = orderC c ls) := hide (by
        have := ho
        rw [orderN_step _ hw (by omega), hfind] at this
        rw [← this, List.length_append, List.length_singleton, Nat.sub_add_eq])
      have HOWN := hide (row_below hown hb5)
      have HOV : Hid (∀ (i : Nat) (h' : Int) (u' : Value), (dn ++ [h])[i]? = some h' → (ov ++ [Value.slice (some ⟨b2, off2, none⟩) xn rc])[i]? = some u' → ∃ k : Nat, (headsC c)[k]? = some h' ∧ vs[k]? = some u') := hide fun i h' u' q1 q2 => by
        have hl := own_len hown
        by_cases hi : i < dn.length
        · rw [List.getElem?_append_left hi] at q1
          rw [List.getElem?_append_left (by omega)] at q2
          exact hov i h' u' q1 q2
        · have hi' : i = dn.length := by
            have := (List.getElem?_eq_some_iff.1 q1).1
            simp at this
            omega
          subst hi'
          rw [List.getElem?_append_right (by omega)] at q1 q2
          simp [hl] at q1 q2
          subst q1 q2
          exact ⟨k, h1, z1⟩
      have HFR := hide (hf.trans (Frm.of_below (S := fun j => j = w1.heap.size + 1) hb5) (fun j hj => .inl hj))
      have HNIN := hide hnin
      have hsz5 := hb5.size
      have hszr := hf.size
      have hdm : dn.length < H := by
        have := (hw.step hhead hrd).length
        simp at this
        rw [← HH.out]
        omega
      clear hupd hrun hom5 hw ho hov hf hfind hrd hnin hp hmin hk z1 z2 z4 h1 hhead hcr hxn hr hom hb5 g1 g2 hbn hbn2 HZ HHV2 HHV1 HVALS HZL HI HV1 HV2 HV3 HM
      subst e1
      go_wp2_with fail
      refine region_by (fun a b => a = b) way_eq 9 8 (fun W => Frm (fun j => j = w1.heap.size + 1) w5 W) (by kernel_rfl) (by kernel_rfl) (fun _ _ d _ _ h => by cases d <;> exact h) (fun x y h hx => h ▸ hx) (Frm.refl _ _).drew (fun KT hKT => ?_)
      simp only [List.take_succ_cons, List.take_zero]
      refine Lex.want (v := ?_) (by rfl) (fun W hW => ?hd1) ?_
      case hd1 =>
        have hh := HF.out W hW
        clear hW
        go_split_ands
        go_simp
        first | rfl | exact way_new.refl _ | exact way_grow.refl _ | (refine ⟨?_, way_new.refl _⟩; rfl) | (refine ⟨?_, way_grow.refl _⟩; rfl)
      try simp only [Act.put, List.setIfInBounds_toArray, List.set_cons_zero, List.set_cons_succ, List.getElem_toArray, List.getElem_cons_zero, List.getElem_cons_succ]
      refine Lex.want (v := ?_) (by rfl) (fun W hW => ?hd2) ?_
      case hd2 =>
        have hh := HF.out W hW
        clear hW
        go_split_ands
        go_simp
        first | rfl | exact way_new.refl _ | exact way_grow.refl _ | (refine ⟨?_, way_new.refl _⟩; rfl) | (refine ⟨?_, way_grow.refl _⟩; rfl)
      try simp only [Act.put, List.setIfInBounds_toArray, List.set_cons_zero, List.set_cons_succ, List.getElem_toArray, List.getElem_cons_zero, List.getElem_cons_succ]
      refine Lex.want (v := ?_) (by rfl) (fun W hW => ?hd3) ?_
      case hd3 =>
        have hh := HF.out W hW
        clear hW
        go_split_ands
        go_simp
        first | rfl | exact way_new.refl _ | exact way_grow.refl _ | (refine ⟨?_, way_new.refl _⟩; rfl) | (refine ⟨?_, way_grow.refl _⟩; rfl)
      try simp only [Act.put, List.setIfInBounds_toArray, List.set_cons_zero, List.set_cons_succ, List.getElem_toArray, List.getElem_cons_zero, List.getElem_cons_succ]
      refine Lex.want (v := ?_) (by rfl) (fun W hW => ?hd4) ?_
      case hd4 =>
        have hh := HF.out W hW
        clear hW
        go_split_ands
        go_simp
        first | rfl | exact way_new.refl _ | exact way_grow.refl _ | (refine ⟨?_, way_new.refl _⟩; rfl) | (refine ⟨?_, way_grow.refl _⟩; rfl)
      try simp only [Act.put, List.setIfInBounds_toArray, List.set_cons_zero, List.set_cons_succ, List.getElem_toArray, List.getElem_cons_zero, List.getElem_cons_succ]
      refine Lex.want (v := ?_) (by rfl) (fun W hW => ?hd5) ?_
      case hd5 =>
        have hh := HF.out W hW
        clear hW
        go_split_ands
        go_simp
        first | rfl | exact way_new.refl _ | exact way_grow.refl _ | (refine ⟨?_, way_new.refl _⟩; rfl) | (refine ⟨?_, way_grow.refl _⟩; rfl)
      try simp only [Act.put, List.setIfInBounds_toArray, List.set_cons_zero, List.set_cons_succ, List.getElem_toArray, List.getElem_cons_zero, List.getElem_cons_succ]
      refine Lex.want (v := ?_) (by rfl) (fun W hW => ?hd6) ?_
      case hd6 =>
        have hh := HF.out W hW
        clear hW
        go_split_ands
        go_simp
        first | rfl | exact way_new.refl _ | exact way_grow.refl _ | (refine ⟨?_, way_new.refl _⟩; rfl) | (refine ⟨?_, way_grow.refl _⟩; rfl)
      try simp only [Act.put, List.setIfInBounds_toArray, List.set_cons_zero, List.set_cons_succ, List.getElem_toArray, List.getElem_cons_zero, List.getElem_cons_succ]
      refine Lex.want (v := ?_) (by rfl) (fun W hW => ?hd7) ?_
      case hd7 =>
        have hh := HF.out W hW
        clear hW
        go_split_ands
        go_simp
        first | rfl | exact way_new.refl _ | exact way_grow.refl _ | (refine ⟨?_, way_new.refl _⟩; rfl) | (refine ⟨?_, way_grow.refl _⟩; rfl)
      try simp only [Act.put, List.setIfInBounds_toArray, List.set_cons_zero, List.set_cons_succ, List.getElem_toArray, List.getElem_cons_zero, List.getElem_cons_succ]
      refine Lex.want (v := ?_) (by rfl) (fun W hW => ?hd8) ?_
      case hd8 =>
        have hh := HF.out W hW
        clear hW
        go_split_ands
        go_simp
        first | rfl | exact way_new.refl _ | exact way_grow.refl _ | (refine ⟨?_, way_new.refl _⟩; rfl) | (refine ⟨?_, way_grow.refl _⟩; rfl)
      try simp only [Act.put, List.setIfInBounds_toArray, List.set_cons_zero, List.set_cons_succ, List.getElem_toArray, List.getElem_cons_zero, List.getElem_cons_succ]
      refine Lex.nil (hKT.out _ ?_)
      clear hKT KT
      refine Reg.only 8 rfl (by decide) (by kernel_rfl) (fun W hW hT K hK => ?_)
      subst hW
      go_simp
      obtain ⟨_, u2, u3, u4⟩ := HUPD.out w5.drew rfl
      have hT6 : Frm (fun j => j = w1.heap.size + 1) w5 (upd w5.drew) := (Frm.refl (fun j => j = w1.heap.size + 1) w5).drew.trans u3 (fun j hj => .inl hj)
      refine hK.out _ _ hT6 (fun _ => ?_)
      clear hK K hrun5 hT HUPD
      try simp only [Act.put, List.setIfInBounds_toArray, List.set_cons_zero, List.set_cons_succ, List.getElem_toArray, List.getElem_cons_zero, List.getElem_cons_succ]
      refine Reg.done (by kernel_rfl) (fun W hW hWT => ⟨by kernel_rfl, ?_⟩)
      simp only [List.drop_succ_cons, List.drop_zero]
      subst hW
      clear hWT
      have hom6 := HOM5.out.turn hT6 u2
      rw [put_unit HNIN.out] at hom6
      generalize upd w5.drew = w6 at *
      have hown6 : w6.ownsRow w3.heap.size 31 1 u5 dn.length ov := row_frm HOWN.out hT6 (fun g hg e => row_not HOWN.out HOM5.out.dmap.notCells (by rw [hg, e]))
      have HF6 : Hid (∀ W, Below w6.heap.size w6 W → True) := hide fun _ _ => trivial
      have hc1 := (HF.out w6 hT6).2.1
      have HOM6 := hide hom6
      have HT6 := hide hT6
      have hsz6 := hT6.size
      clear hom6 hT6 u2 u3 u4 HF HOM5 HOWN
      go_wp2_with (at_builtin; refine wpList_append_own _ rfl (.tmp 32) (.tmp 37) _ rfl w3.heap.size 31 i0 _ 1 24 Try.underlying38 hi hz0 hz1 hz2 rfl (by decide) u5 dn.length ov rfl (hown6.alloc _) ⟨w6.heap.size, 0, none⟩ 1 1 [.slice (some ⟨b2, off2, none⟩) xn rc] rfl rfl (World.news_of_block (heap_alloc_new w6 _)) (by intro x hx; simp at hx; subst hx; rfl) (by unfold maxLen; omega) (by omega) (by simp; omega) ?_; intro v2 w8 hown2 hgrow2 _; have HO2 := hide hown2; have HG2 := hide hgrow2; clear hown2 hgrow2)
      have hf8 : Frm (fun j => u5.ownBlock = some j) w6 w8 := ((Frm.refl _ _).alloc _).grown HG2.out fun q hq => .inl hq
      have HNEW : Hid (OrdRel w.heap.size w3 (w1.heap.size + 2) w1.heap.size (w1.heap.size + 1) ab c ls vs v2 w8 ∧ H + 1 - ordLen v2 < H + 1 - ordLen u5) := hide (by
        refine ⟨⟨dn ++ [h], ov ++ [.slice (some ⟨b2, off2, none⟩) xn rc], HWK.out, HON.out, HOM6.out.grown hown6 hf8, by simpa using HO2.out, HOV.out, ?_⟩, ?_⟩
        · refine (HFR.out.trans HT6.out (fun j hj => .inl hj)).trans hf8 (fun j hj => .inr ?_)
          exact (hown6.lt j hj).1
        · rw [own_ordLen HO2.out, hlen]
          omega)
      clear hf8 HO2 HG2 HOM6 HT6 hown6
      go_roundw
      case rel => exact hide HNEW.out.1
      case measure => exact HNEW.out.2
    · have hfind : (headsC c).find? (readyC c ls dn) = none := by
        rw [List.find?_eq_none]
        intro h hh hrd
        obtain ⟨k, hk⟩ := List.getElem?_of_mem hh
        have hlt := (List.getElem?_eq_some_iff.1 hk).1
        obtain ⟨uu, huu⟩ : ∃ uu, vs[k]? = some uu := ⟨vs[k]'(by have := own_len HHV1.out; rw [HM.out] at this; rw [this, ← HM.out, classesC, List.length_map]; exact hlt), List.getElem?_eq_getElem _⟩
        have hz : (vs.zip (classesC c))[k]? = some (uu, classC c h) := by rw [List.getElem?_zip_eq_some]; exact ⟨huu, class_at hk⟩
        refine hnone _ (List.mem_of_getElem? hz) ?_
        obtain ⟨r, hr⟩ := classC_head HOK.out (mem_headsC.1 hh)
        show readyD c ls (unitOf dn) ((classC c h).headD 0)
        rw [hr]
        exact (ready_iff c ls dn h).2 hrd
      have HE : Hid (RowsAt w5 w.heap.size u5 ((orderC c ls).map (classC c))) := hide (RowsAt.below (ord_last (by have := HB3.out.size; exact this) (fun i u l h1 h2 => row_base (HHV2.out i u l h1 h2) fun g hg => by have := ((HHV2.out i u l h1 h2).lt g hg).1; have := HB2.out.size; omega) HV3.out hw ho hown hov hfind) hb5)
      have HBE : Hid (Below w.heap.size w w5) := hide ((HB3.out.trans (hf.below HB3.out.size fun j hj => by omega)).trans (hb5.mono (by have := HB3.out.size; have := hf.size; omega)))
      clear hfind hnone hr
      go_wp2_with fail
      go_ret
      exact ⟨_, rfl, HE.out, HBE.out⟩
end Go.Proofs.Ytpkhmhfgnpnpfaa
