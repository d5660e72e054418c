/- Package link: Ahead. -/
import Derived.Test.YtpkhmhfgnpnpfaaGra9
namespace Go.Proofs.Ytpkhmhfgnpnpfaa
set_option linter.unusedSimpArgs false
set_option linter.unusedVariables false
open Go.RowKit
attribute [local go_sem] objAt_alloc objAt_alloc_at objAt_drew objAt_drewN objAt_setCell comesTo_value comesTo_enter

theorem flat_nodup {c : Cls} (h : OkC c) : ∀ {hs : List Int}, hs.Nodup → (∀ a ∈ hs, isHead c a) → (hs.flatMap (classC c)).Nodup
  | [], _, _ => by simp
  | a :: hs, hn, hh => by
    obtain ⟨h1, h2⟩ := List.nodup_cons.1 hn
    rw [List.flatMap_cons]
    refine List.nodup_append.2 ⟨rise_nodup (classC_rise c a), flat_nodup h h2 (fun b hb => hh b (List.mem_cons_of_mem _ hb)), fun x hx y hy e => ?_⟩
    subst e
    obtain ⟨b, hb, hxb⟩ := List.mem_flatMap.1 hy
    have e1 := ((mem_classC h).1 hx).2
    have e2 := ((mem_classC h).1 hxb).2
    rw [(hh a List.mem_cons_self).2.2] at e1
    rw [(hh b (List.mem_cons_of_mem _ hb)).2.2] at e2
    rw [e1] at e2
    exact h1 (e2 ▸ hb)
/-- The numbers of some classes, sorted. -/
theorem numbers_eq {c : Cls} (h : OkC c) {hs : List Int} (hn : hs.Nodup) (hh : ∀ a ∈ hs, isHead c a) : sortI (hs.flatMap (classC c)) = (nums c.n).filter fun j => decide (c.f j ∈ hs) := by
  refine sortI_rise (flat_nodup h hn hh) ((nums_rise _).filter _) fun x => ?_
  rw [List.mem_flatMap, List.mem_filter, decide_eq_true_eq, mem_nums]
  constructor
  · rintro ⟨a, ha, hx⟩
    obtain ⟨e1, e2⟩ := (mem_classC h).1 hx
    refine ⟨(h.pos_iff x).1 (by rw [e2]; exact e1), ?_⟩
    rw [e2, (hh a ha).2.2]
    exact ha
  · rintro ⟨hx, hf⟩
    have hp := h.pos hx.1 hx.2
    have hi := h.idem hx.1 hx.2
    exact ⟨c.f x, hf, (mem_classC h).2 ⟨by rw [hi]; omega, hi.symm⟩⟩
theorem near_ahead {G : Gra} (h : OkG G) {i : Int} (hi : G.c.f i ≠ 0) : sortI (((look (aheadOf G.c G.ls) (G.c.f i)).getD []).flatMap (classC G.c)) = nearC G.c G.ls true i := by
  have ha := aheadOf_ok G.c G.ls
  rw [numbers_eq h.ok (ha.once _) fun a hx => ?_]
  · unfold nearC
    rw [if_neg hi]
    refine List.filter_congr fun j hj => ?_
    rw [Bool.eq_iff_iff, decide_eq_true_eq, ha.mem, List.any_eq_true]
    refine exists_congr fun x => and_congr Iff.rfl ?_
    simp
  · obtain ⟨x, hxm, _, _, rfl⟩ := (ha.mem _ _).1 hx
    have := (h.inn x hxm).1
    exact isHead_f h.ok this.1 this.2

set_option maxHeartbeats 4000000 in
set_option maxRecDepth 100000 in
theorem ahead_walk (g : Nat) (F : Nat → Prop) (G : Gra) (i : Int) (w : World) (h : GraAt w g F G) (hi : G.c.f i ≠ 0) :
    Calls Try.prog 15 #[.pointer (some ⟨g, 0, none⟩), .int .i64 i] w (IntsPost w (nearC G.c G.ls true i)) := by
  rw [← near_ahead h.ok hi]
  have HG := hide h
  obtain ⟨u, lv, Fu, hp, _⟩ := h
  obtain ⟨la, lc, hlv, hc0, hc1, hla⟩ := hp.reads
  have hgs := hp.lt
  have hfew := hp.ok.few
  have HH := hide (head_calls i hp.uf)
  have HU := hide hp.uf
  have HLA := hide hla
  have HAK := hide (aheadOf_ok G.c G.ls)
  obtain ⟨m, hm⟩ : ∃ m, G.ls.length = m := ⟨_, rfl⟩
  obtain ⟨fi, hfi⟩ : ∃ y, G.c.f i = y := ⟨_, rfl⟩
  rw [hfi] at HH hi ⊢
  rw [hm] at hc1 HLA
  have hne : (fi == 0) = false := by simpa using hi
  obtain ⟨wd, hwd⟩ : ∃ wd, w.drew = wd := ⟨_, rfl⟩
  have hbd : Below w.heap.size w wd := by rw [← hwd]; exact (Below.refl _ _).drew
  have hsd : wd.heap.size = w.heap.size := by rw [← hwd]; rfl
  have HH1 : Hid (∀ W, New wd W → Calls Try.prog 44 #[.pointer (some ⟨u, 0, none⟩), .int .i64 i] W fun e w' => e = .returned (.int .i64 fi) ∧ W = w') := hide fun W hW => by
    have := head_calls i ((HU.out.below hbd).below hW)
    rwa [hfi] at this
  have HHD : Hid (∀ W, Below w.heap.size w W → Calls Try.prog 46 #[.pointer (some ⟨u, 0, none⟩), .slice la m lc] W (HeadsPost W G.c G.ls)) := hide fun W hW => heads_calls u Fu G.c la m lc G.ls W (HU.out.below hW) (by rw [← hm] at HLA ⊢; exact HLA.out.below hW) (by omega)
  have HF : Hid (∀ W, New wd W → W.cell? ⟨g, 0, none⟩ = some (.pointer (some ⟨u, 0, none⟩)) ∧ W.cell? ⟨g, 1, none⟩ = some (.slice la m lc)) := hide fun W hW =>
    ⟨(Below.cell hW (p := ⟨g, 0, none⟩) (by show g < _; omega)).trans ((hbd.cell (p := ⟨g, 0, none⟩) hgs).trans hc0), (Below.cell hW (p := ⟨g, 1, none⟩) (by show g < _; omega)).trans ((hbd.cell (p := ⟨g, 1, none⟩) hgs).trans hc1)⟩
  have HBD := hide hbd
  clear hp hla hlv hfi hi hm hbd
  go_enter Try.func15, Try.ntmps15
  go_wp2_with (go_at_call 44; refine HH.out.mono ?_; rintro e w1 ⟨rfl, rfl⟩)
  clear hc0 hc1 HH
  refine region_by (fun a b => a = b) way_eq 17 9 (fun W => New wd W) (by kernel_rfl) (by kernel_rfl) (fun _ _ d _ _ h => by cases d <;> exact h) (fun x y h hx => h ▸ hx) (by rw [hwd]; exact Below.refl _ _) (fun KT hKT => ?_)
  simp only [List.take_succ_cons, List.take_zero]
  refine Lex.want (v := ?_) (by rfl) (fun W hW => ?hd1) ?_
  case hd1 =>
    have hh := HF.out W hW
    clear hW
    go_split_ands
    go_simp
    first | rfl | exact way_new.refl _ | exact way_grow.refl _ | (refine ⟨?_, way_new.refl _⟩; rfl) | (refine ⟨?_, way_grow.refl _⟩; rfl)
  try simp only [Act.put, List.setIfInBounds_toArray, List.set_cons_zero, List.set_cons_succ, List.getElem_toArray, List.getElem_cons_zero, List.getElem_cons_succ]
  refine Lex.want (v := ?_) (by rfl) (fun W hW => ?hd2) ?_
  case hd2 =>
    have hh := HF.out W hW
    clear hW
    go_split_ands
    go_simp
    first | rfl | exact way_new.refl _ | exact way_grow.refl _ | (refine ⟨?_, way_new.refl _⟩; rfl) | (refine ⟨?_, way_grow.refl _⟩; rfl)
  try simp only [Act.put, List.setIfInBounds_toArray, List.set_cons_zero, List.set_cons_succ, List.getElem_toArray, List.getElem_cons_zero, List.getElem_cons_succ]
  refine Lex.want (v := ?_) (by rfl) (fun W hW => ?hd3) ?_
  case hd3 =>
    have hh := HF.out W hW
    clear hW
    go_split_ands
    go_simp
    first | rfl | exact way_new.refl _ | exact way_grow.refl _ | (refine ⟨?_, way_new.refl _⟩; rfl) | (refine ⟨?_, way_grow.refl _⟩; rfl)
  try simp only [Act.put, List.setIfInBounds_toArray, List.set_cons_zero, List.set_cons_succ, List.getElem_toArray, List.getElem_cons_zero, List.getElem_cons_succ]
  refine Lex.want (v := ?_) (by rfl) (fun W hW => ?hd4) ?_
  case hd4 =>
    have hh := HF.out W hW
    clear hW
    go_split_ands
    go_simp
    first | rfl | exact way_new.refl _ | exact way_grow.refl _ | (refine ⟨?_, way_new.refl _⟩; rfl) | (refine ⟨?_, way_grow.refl _⟩; rfl)
  try simp only [Act.put, List.setIfInBounds_toArray, List.set_cons_zero, List.set_cons_succ, List.getElem_toArray, List.getElem_cons_zero, List.getElem_cons_succ]
  refine Lex.want (v := ?_) (by rfl) (fun W hW => ?hd5) ?_
  case hd5 =>
    have hh := HF.out W hW
    clear hW
    go_split_ands
    go_simp
    first | rfl | exact way_new.refl _ | exact way_grow.refl _ | (refine ⟨?_, way_new.refl _⟩; rfl) | (refine ⟨?_, way_grow.refl _⟩; rfl)
  try simp only [Act.put, List.setIfInBounds_toArray, List.set_cons_zero, List.set_cons_succ, List.getElem_toArray, List.getElem_cons_zero, List.getElem_cons_succ]
  refine Lex.want (v := ?_) (by rfl) (fun W hW => ?hd6) ?_
  case hd6 =>
    have hh := HF.out W hW
    clear hW
    go_split_ands
    go_simp
    first | rfl | exact way_new.refl _ | exact way_grow.refl _ | (refine ⟨?_, way_new.refl _⟩; rfl) | (refine ⟨?_, way_grow.refl _⟩; rfl)
  try simp only [Act.put, List.setIfInBounds_toArray, List.set_cons_zero, List.set_cons_succ, List.getElem_toArray, List.getElem_cons_zero, List.getElem_cons_succ]
  refine Lex.want (v := ?_) (by rfl) (fun W hW => ?hd7) ?_
  case hd7 =>
    have hh := HF.out W hW
    clear hW
    go_split_ands
    go_simp
    first | rfl | exact way_new.refl _ | exact way_grow.refl _ | (refine ⟨?_, way_new.refl _⟩; rfl) | (refine ⟨?_, way_grow.refl _⟩; rfl)
  try simp only [Act.put, List.setIfInBounds_toArray, List.set_cons_zero, List.set_cons_succ, List.getElem_toArray, List.getElem_cons_zero, List.getElem_cons_succ]
  refine Lex.want (v := ?_) (by rfl) (fun W hW => ?hd8) ?_
  case hd8 =>
    have hh := HF.out W hW
    clear hW
    go_split_ands
    go_simp
    first | rfl | exact way_new.refl _ | exact way_grow.refl _ | (refine ⟨?_, way_new.refl _⟩; rfl) | (refine ⟨?_, way_grow.refl _⟩; rfl)
  try simp only [Act.put, List.setIfInBounds_toArray, List.set_cons_zero, List.set_cons_succ, List.getElem_toArray, List.getElem_cons_zero, List.getElem_cons_succ]
  refine Lex.want (v := ?_) (by rfl) (fun W hW => ?hd9) ?_
  case hd9 =>
    have hh := HF.out W hW
    clear hW
    go_split_ands
    go_simp
    first | rfl | exact way_new.refl _ | exact way_grow.refl _ | (refine ⟨?_, way_new.refl _⟩; rfl) | (refine ⟨?_, way_grow.refl _⟩; rfl)
  try simp only [Act.put, List.setIfInBounds_toArray, List.set_cons_zero, List.set_cons_succ, List.getElem_toArray, List.getElem_cons_zero, List.getElem_cons_succ]
  refine Lex.nil (hKT.out _ ?_)
  clear hKT KT
  refine Reg.take 10 (v := ?_) way_eq (by kernel_rfl) rfl (by decide) (by kernel_rfl) (by kernel_rfl) (fun _ _ _ h => h) (Or.inl ⟨by rfl, fun W hW => ?hd10⟩) ?_
  case hd10 =>
    have hh := HF.out W hW
    clear hW
    go_split_ands
    go_simp
    first | rfl | exact way_new.refl _ | exact way_grow.refl _ | (refine ⟨?_, way_new.refl _⟩; rfl) | (refine ⟨?_, way_grow.refl _⟩; rfl)
  try simp only [Act.put, List.setIfInBounds_toArray, List.set_cons_zero, List.set_cons_succ, List.getElem_toArray, List.getElem_cons_zero, List.getElem_cons_succ]
  refine Reg.take 11 (v := ?_) way_eq (by kernel_rfl) rfl (by decide) (by kernel_rfl) (by kernel_rfl) (fun _ _ _ h => h) (Or.inl ⟨by rfl, fun W hW => ?hd11⟩) ?_
  case hd11 =>
    have hh := HF.out W hW
    clear hW
    go_split_ands
    go_simp
    first | rfl | exact way_new.refl _ | exact way_grow.refl _ | (refine ⟨?_, way_new.refl _⟩; rfl) | (refine ⟨?_, way_grow.refl _⟩; rfl)
  try simp only [Act.put, List.setIfInBounds_toArray, List.set_cons_zero, List.set_cons_succ, List.getElem_toArray, List.getElem_cons_zero, List.getElem_cons_succ]
  refine Reg.take 12 (v := ?_) way_eq (by kernel_rfl) rfl (by decide) (by kernel_rfl) (by kernel_rfl) (fun _ _ _ h => h) (Or.inl ⟨by rfl, fun W hW => ?hd12⟩) ?_
  case hd12 =>
    have hh := HF.out W hW
    clear hW
    go_split_ands
    go_simp
    first | rfl | exact way_new.refl _ | exact way_grow.refl _ | (refine ⟨?_, way_new.refl _⟩; rfl) | (refine ⟨?_, way_grow.refl _⟩; rfl)
  try simp only [Act.put, List.setIfInBounds_toArray, List.set_cons_zero, List.set_cons_succ, List.getElem_toArray, List.getElem_cons_zero, List.getElem_cons_succ]
  refine Reg.take 13 (v := ?_) way_eq (by kernel_rfl) rfl (by decide) (by kernel_rfl) (by kernel_rfl) (fun _ _ _ h => h) (Or.inl ⟨by rfl, fun W hW => ?hd13⟩) ?_
  case hd13 =>
    have hh := HF.out W hW
    clear hW
    go_split_ands
    go_simp
    first | rfl | exact way_new.refl _ | exact way_grow.refl _ | (refine ⟨?_, way_new.refl _⟩; rfl) | (refine ⟨?_, way_grow.refl _⟩; rfl)
  try simp only [Act.put, List.setIfInBounds_toArray, List.set_cons_zero, List.set_cons_succ, List.getElem_toArray, List.getElem_cons_zero, List.getElem_cons_succ]
  refine Reg.take 14 (v := ?_) way_eq (by kernel_rfl) rfl (by decide) (by kernel_rfl) (by kernel_rfl) (fun _ _ _ h => h) (Or.inl ⟨by rfl, fun W hW => ?hd14⟩) ?_
  case hd14 =>
    have hh := HF.out W hW
    clear hW
    go_split_ands
    go_simp
    first | rfl | exact way_new.refl _ | exact way_grow.refl _ | (refine ⟨?_, way_new.refl _⟩; rfl) | (refine ⟨?_, way_grow.refl _⟩; rfl)
  try simp only [Act.put, List.setIfInBounds_toArray, List.set_cons_zero, List.set_cons_succ, List.getElem_toArray, List.getElem_cons_zero, List.getElem_cons_succ]
  refine Reg.only 9 rfl (by decide) (by kernel_rfl) (fun W hW hT K hK => ?_)
  have hW : wd = W := hwd ▸ hW
  subst hW
  go_simp
  refine (HHD.out wd HBD.out).mono ?_
  rintro e w1 ⟨b, rfl, hA, hb, hb1⟩
  refine hK.out _ _ hb1 (fun _ => ?_)
  clear hK K hT
  try simp only [Act.put, List.setIfInBounds_toArray, List.set_cons_zero, List.set_cons_succ, List.getElem_toArray, List.getElem_cons_zero, List.getElem_cons_succ]
  have HA := hide hA
  have HB1 := hide hb1
  refine Reg.only 15 rfl (by decide) (by kernel_rfl) (fun W hW hT K hK => ?_)
  subst hW
  have hcc := hide (HH1.out w1 hb1)
  go_simp
  refine hcc.out.mono ?_
  rintro e w2 ⟨rfl, rfl⟩
  refine hK.out _ _ hT (fun _ => ?_)
  clear hK K hcc
  try simp only [Act.put, List.setIfInBounds_toArray, List.set_cons_zero, List.set_cons_succ, List.getElem_toArray, List.getElem_cons_zero, List.getElem_cons_succ]
  obtain ⟨L, hg, hL⟩ := hA
  have hrow := hg.row fi
  have hahd := ahead_look hL fi
  obtain ⟨ra, rc, hre, hri, _⟩ := row_ints hrow
  have hlk := grpI_look hg.1 fi w1 rfl
  have hfl := HAK.out.few fi
  rw [← hahd] at hfl
  have HAH := hide hahd
  rw [hre] at hlk
  have hbw : Below w.heap.size w w1 := HBD.out.trans (Below.mono hb1 HBD.out.size)
  have HN := hide (numbers_calls g F G ra _ rc _ w1 (HG.out.below hbw) rfl (by omega) hri)
  have HBW := hide hbw
  generalize ((look L fi).getD grp0).2.length = m1 at *
  clear hg hL hrow hahd hre hri hfl hbw hb1
  refine Reg.only 16 rfl (by decide) (by kernel_rfl) (fun W hW hT2 K hK => ?_)
  subst hW
  go_simp
  refine hK.out _ _ hT2 (fun _ => ?_)
  clear hK K hT2 hT
  try simp only [Act.put, List.setIfInBounds_toArray, List.set_cons_zero, List.set_cons_succ, List.getElem_toArray, List.getElem_cons_zero, List.getElem_cons_succ]
  refine Reg.done (by kernel_rfl) (fun W hW hWT => ⟨by kernel_rfl, ?_⟩)
  simp only [List.drop_succ_cons, List.drop_zero]
  subst hW
  clear HF HH1 HHD hWT
  go_wp2_with (go_at_call 45; refine HN.out.mono ?_; rintro e w5 ⟨v5, rfl, hv5, hb5⟩; have HV5 := hide hv5; have HB5 := hide hb5; clear hv5 hb5)
  go_ret
  have hv5 := HV5.out
  rw [HAH.out] at hv5
  exact ⟨_, rfl, row_base hv5 (fun q hq => by have := (HV5.out.lt q hq).1; have := HBW.out.size; omega), HBW.out.trans (HB5.out.mono HBW.out.size)⟩

theorem nearC_none {c : Cls} {ls : List PLink} {a : Bool} {i : Int} (h : c.f i = 0) : nearC c ls a i = [] := by unfold nearC; rw [if_pos h]
theorem ahead_calls {g : Nat} {F : Nat → Prop} {G : Gra} (i : Int) {w : World} (h : GraAt w g F G) :
    Calls Try.prog 15 #[.pointer (some ⟨g, 0, none⟩), .int .i64 i] w (IntsPost w (nearC G.c G.ls true i)) := by
  by_cases hi : G.c.f i = 0
  · rw [nearC_none hi]
    obtain ⟨u, lv, Fu, hp, _⟩ := h
    have hc0 : w.cell? ⟨g, 0, none⟩ = some (.pointer (some ⟨u, 0, none⟩)) := by simp [World.cell?, hp.cell]
    have HH := hide (head_calls i hp.uf)
    rw [hi] at HH
    clear hp hi
    go_enter Try.func15, Try.ntmps15
    go_wp2_with (go_at_call 44; refine HH.out.mono ?_; rintro e w1 ⟨rfl, rfl⟩)
    go_ret
    exact ⟨_, rfl, World.ownsRow_nil _ _ _ _, Below.refl _ _⟩
  · exact ahead_walk g F G i w h hi
end Go.Proofs.Ytpkhmhfgnpnpfaa
