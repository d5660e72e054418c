/- Package link: Behind. -/
import Derived.Test.YtpkhmhfgnpnpfaaGra10
namespace Go.Proofs.Ytpkhmhfgnpnpfaa
set_option linter.unusedSimpArgs false
set_option linter.unusedVariables false
open Go.RowKit
attribute [local go_sem] objAt_alloc objAt_alloc_at objAt_drew objAt_drewN objAt_setCell comesTo_value comesTo_enter

/-- Does a class stand straight behind that of head f? -/
def behP (L : List (Int × Grp)) (f : Int) (h : Int) : Bool := decide (f ∈ ((look L h).getD grp0).2)
theorem near_behind {G : Gra} (h : OkG G) {i : Int} (hi : G.c.f i ≠ 0) {L : List (Int × Grp)} (hL : (L.map fun p => (p.1, p.2.2)) = aheadOf G.c G.ls) (ha : Apart L) {hs : List Int} (hp : hs.Perm ((L.map (·.1)).filter (behP L (G.c.f i)))) :
    sortI (hs.flatMap (classC G.c)) = nearC G.c G.ls false i := by
  have hak := aheadOf_ok G.c G.ls
  have hnd : (L.map (·.1)).Nodup := ha
  have hmem : ∀ a, a ∈ hs ↔ ∃ x ∈ G.ls, x.kind = 2 ∧ G.c.f x.dst = a ∧ G.c.f x.src = G.c.f i := fun a => by
    rw [hp.mem_iff, List.mem_filter]
    unfold behP
    rw [decide_eq_true_eq, ahead_look hL, hak.mem]
    constructor
    · exact fun h => h.2
    · rintro ⟨x, h1, h2, h3, h4⟩
      refine ⟨?_, x, h1, h2, h3, h4⟩
      refine Classical.byContradiction fun hn => ?_
      have h5 : G.c.f x.src ∈ (look (aheadOf G.c G.ls) a).getD [] := (hak.mem _ _).2 ⟨x, h1, h2, h3, rfl⟩
      rw [← ahead_look hL, look_none.2 (fun p hp e => hn (List.mem_map.2 ⟨p, hp, e⟩))] at h5
      simp [grp0] at h5
  rw [numbers_eq h.ok (hp.nodup_iff.2 (List.Nodup.sublist List.filter_sublist hnd)) fun a hx => ?_]
  · unfold nearC
    rw [if_neg hi]
    refine List.filter_congr fun j hj => ?_
    rw [Bool.eq_iff_iff, decide_eq_true_eq, hmem, List.any_eq_true]
    refine exists_congr fun x => and_congr Iff.rfl ?_
    simp
    exact fun _ => And.comm
  · obtain ⟨x, hxm, _, rfl, _⟩ := (hmem a).1 hx
    have := (h.inn x hxm).2
    exact isHead_f h.ok this.1 this.2

/-- What the rounds of Behind keep. -/
def BehRel (wi : World) (it b : Nat) (L : List (Int × Grp)) (f : Int) (v : Value) (wr : World) : Prop :=
  ∃ (left : List (Int × Grp)) (out : List Int), IterB ekint egrp wr it b L left ∧ wr.ownsRow wi.heap.size 3 1 v out.length (goInts out) ∧ (out ++ (left.map (·.1)).filter (behP L f)).Perm ((L.map (·.1)).filter (behP L f)) ∧ Frm (fun j => j = it) wi wr

set_option maxHeartbeats 4000000 in
set_option maxRecDepth 100000 in
theorem behind_walk (g : Nat) (F : Nat → Prop) (G : Gra) (i : Int) (w : World) (h : GraAt w g F G) (hi : G.c.f i ≠ 0) :
    Calls Try.prog 16 #[.pointer (some ⟨g, 0, none⟩), .int .i64 i] w (IntsPost w (nearC G.c G.ls false i)) := by
  obtain ⟨i0, hinf, hz0, hz1, hz2⟩ := info_parts ufIntInfo
  have HG := hide h
  have HOKG := hide h.ok
  obtain ⟨u, lv, Fu, hp, _⟩ := h
  obtain ⟨la, lc, hlv, hc0, hc1, hla⟩ := hp.reads
  have hgs := hp.lt
  have hfew := hp.ok.few
  have HH := hide (head_calls i hp.uf)
  have HU := hide hp.uf
  have HLA := hide hla
  have HAK := hide (aheadOf_ok G.c G.ls)
  obtain ⟨m, hm⟩ : ∃ m, G.ls.length = m := ⟨_, rfl⟩
  have HM := hide hm
  have HI := hide hi
  have HHI : Hid (∀ W, Below w.heap.size w W → Calls Try.prog 44 #[.pointer (some ⟨u, 0, none⟩), .int .i64 i] W fun e w' => e = .returned (.int .i64 (G.c.f i)) ∧ W = w') := hide fun W hW => head_calls i (HU.out.below hW)
  have HNR := hide (fun (L : List (Int × Grp)) (hs : List Int) hL ha hp => near_behind HOKG.out hi (L := L) (hs := hs) hL ha hp)
  obtain ⟨fi, hfi⟩ : ∃ y, G.c.f i = y := ⟨_, rfl⟩
  rw [hfi] at HH hi HHI HNR
  rw [hm] at hc1 HLA hfew
  have hne : (fi == 0) = false := by simpa using hi
  have hbd : Below w.heap.size w w.drew := (Below.refl _ _).drew
  have HHD : Hid (Calls Try.prog 46 #[.pointer (some ⟨u, 0, none⟩), .slice la m lc] w.drew (HeadsPost w.drew G.c G.ls)) := hide (heads_calls u Fu G.c la m lc G.ls w.drew (HU.out.below hbd) (by rw [← hm] at HLA ⊢; exact HLA.out.below hbd) (by omega))
  have HF : Hid (∀ W, w.drew = W → W.cell? ⟨g, 0, none⟩ = some (.pointer (some ⟨u, 0, none⟩)) ∧ W.cell? ⟨g, 1, none⟩ = some (.slice la m lc)) := hide fun W hW => hW ▸ ⟨hc0, hc1⟩
  have hg0 := hc0
  clear hp hla hlv hfi hi hm hbd
  go_enter Try.func16, Try.ntmps16
  go_wp2_with (go_at_call 44; refine HH.out.mono ?_; rintro e w1 ⟨rfl, rfl⟩)
  clear hc0 hc1 HH
  refine region_by (fun a b => a = b) way_eq 8 8 (fun W => w.drew = W) (by kernel_rfl) (by kernel_rfl) (fun _ _ d _ _ h => by cases d <;> exact h) (fun x y h hx => h ▸ hx) rfl (fun KT hKT => ?_)
  simp only [List.take_succ_cons, List.take_zero]
  refine Lex.want (v := ?_) (by rfl) (fun W hW => ?hd1) ?_
  case hd1 =>
    have hh := HF.out W hW
    clear hW
    go_split_ands
    go_simp
    first | rfl | exact way_new.refl _ | exact way_grow.refl _ | (refine ⟨?_, way_new.refl _⟩; rfl) | (refine ⟨?_, way_grow.refl _⟩; rfl)
  try simp only [Act.put, List.setIfInBounds_toArray, List.set_cons_zero, List.set_cons_succ, List.getElem_toArray, List.getElem_cons_zero, List.getElem_cons_succ]
  refine Lex.want (v := ?_) (by rfl) (fun W hW => ?hd2) ?_
  case hd2 =>
    have hh := HF.out W hW
    clear hW
    go_split_ands
    go_simp
    first | rfl | exact way_new.refl _ | exact way_grow.refl _ | (refine ⟨?_, way_new.refl _⟩; rfl) | (refine ⟨?_, way_grow.refl _⟩; rfl)
  try simp only [Act.put, List.setIfInBounds_toArray, List.set_cons_zero, List.set_cons_succ, List.getElem_toArray, List.getElem_cons_zero, List.getElem_cons_succ]
  refine Lex.want (v := ?_) (by rfl) (fun W hW => ?hd3) ?_
  case hd3 =>
    have hh := HF.out W hW
    clear hW
    go_split_ands
    go_simp
    first | rfl | exact way_new.refl _ | exact way_grow.refl _ | (refine ⟨?_, way_new.refl _⟩; rfl) | (refine ⟨?_, way_grow.refl _⟩; rfl)
  try simp only [Act.put, List.setIfInBounds_toArray, List.set_cons_zero, List.set_cons_succ, List.getElem_toArray, List.getElem_cons_zero, List.getElem_cons_succ]
  refine Lex.want (v := ?_) (by rfl) (fun W hW => ?hd4) ?_
  case hd4 =>
    have hh := HF.out W hW
    clear hW
    go_split_ands
    go_simp
    first | rfl | exact way_new.refl _ | exact way_grow.refl _ | (refine ⟨?_, way_new.refl _⟩; rfl) | (refine ⟨?_, way_grow.refl _⟩; rfl)
  try simp only [Act.put, List.setIfInBounds_toArray, List.set_cons_zero, List.set_cons_succ, List.getElem_toArray, List.getElem_cons_zero, List.getElem_cons_succ]
  refine Lex.want (v := ?_) (by rfl) (fun W hW => ?hd5) ?_
  case hd5 =>
    have hh := HF.out W hW
    clear hW
    go_split_ands
    go_simp
    first | rfl | exact way_new.refl _ | exact way_grow.refl _ | (refine ⟨?_, way_new.refl _⟩; rfl) | (refine ⟨?_, way_grow.refl _⟩; rfl)
  try simp only [Act.put, List.setIfInBounds_toArray, List.set_cons_zero, List.set_cons_succ, List.getElem_toArray, List.getElem_cons_zero, List.getElem_cons_succ]
  refine Lex.want (v := ?_) (by rfl) (fun W hW => ?hd6) ?_
  case hd6 =>
    have hh := HF.out W hW
    clear hW
    go_split_ands
    go_simp
    first | rfl | exact way_new.refl _ | exact way_grow.refl _ | (refine ⟨?_, way_new.refl _⟩; rfl) | (refine ⟨?_, way_grow.refl _⟩; rfl)
  try simp only [Act.put, List.setIfInBounds_toArray, List.set_cons_zero, List.set_cons_succ, List.getElem_toArray, List.getElem_cons_zero, List.getElem_cons_succ]
  refine Lex.want (v := ?_) (by rfl) (fun W hW => ?hd7) ?_
  case hd7 =>
    have hh := HF.out W hW
    clear hW
    go_split_ands
    go_simp
    first | rfl | exact way_new.refl _ | exact way_grow.refl _ | (refine ⟨?_, way_new.refl _⟩; rfl) | (refine ⟨?_, way_grow.refl _⟩; rfl)
  try simp only [Act.put, List.setIfInBounds_toArray, List.set_cons_zero, List.set_cons_succ, List.getElem_toArray, List.getElem_cons_zero, List.getElem_cons_succ]
  refine Lex.want (v := ?_) (by rfl) (fun W hW => ?hd8) ?_
  case hd8 =>
    have hh := HF.out W hW
    clear hW
    go_split_ands
    go_simp
    first | rfl | exact way_new.refl _ | exact way_grow.refl _ | (refine ⟨?_, way_new.refl _⟩; rfl) | (refine ⟨?_, way_grow.refl _⟩; rfl)
  try simp only [Act.put, List.setIfInBounds_toArray, List.set_cons_zero, List.set_cons_succ, List.getElem_toArray, List.getElem_cons_zero, List.getElem_cons_succ]
  refine Lex.nil (hKT.out _ ?_)
  clear hKT KT
  refine Reg.done (by kernel_rfl) (fun W hW hWT => ⟨by kernel_rfl, ?_⟩)
  simp only [List.drop_succ_cons, List.drop_zero]
  subst hW
  clear hWT HF
  go_wp2_with (go_at_call 46; refine Hid.out ?_)
  refine hide ?_
  refine HHD.out.mono ?_
  rintro e w1 ⟨b, rfl, ⟨L, hg, hL⟩, hb, hb1⟩
  have hb1' : Below w.heap.size w w1 := (show Below w.heap.size w w.drew from (Below.refl _ _).drew).trans hb1
  have hrange := (hg.1.range (P := Try.prog) (t := 90) Try.underlying90).1
  have hit0 := (hg.1.range (P := Try.prog) (t := 90) Try.underlying90).2
  obtain ⟨wi, hwi⟩ : ∃ wi, w1.alloc (.mapIter (some b) (clockOf w1 b) #[] (clockOf w1 b)) = wi := ⟨_, rfl⟩
  rw [hwi] at hrange hit0
  have hb1i : Below w1.heap.size w1 wi := by rw [← hwi]; exact (Below.refl _ _).alloc (Nat.le_refl _) _
  have hsi : wi.heap.size = w1.heap.size + 1 := by rw [← hwi]; simp
  have HGI := hide (hg.below hb1i)
  have HIT := hide hit0
  have HBI := hide (hb1'.trans (hb1i.mono hb1'.size))
  have HL := hide hL
  have hLlen : L.length ≤ m := by
    have h1 := HAK.out.short
    rw [← hL, List.length_map, HM.out] at h1
    exact h1
  have hsw := hb1'.size
  clear hg hb1 hb1i hit0 hL hb1' hwi
  go_wp2_with fail
  go_loopw [5, 6, 7] (fun v _ _ wr => Hid (BehRel wi w1.heap.size b L fi v wr)) (fun _ _ _ wr => wr.rangeLeft b w1.heap.size)
  case atStart => exact hide ⟨L, [], HIT.out, World.ownsRow_nil _ _ _ _, by simp, Frm.refl _ _⟩
  case round =>
    obtain ⟨left, out, hit, hown, hperm, hf⟩ := hrel.out
    have HP := hide hperm
    have hbw : Below w.heap.size w wr := HBI.out.trans (hf.below HBI.out.size fun j hj => by omega)
    clear hperm hrel
    rcases hit.next (P := Try.prog) 0 with ⟨rfl, hnext⟩ | ⟨pr, left', w2, hl, hmem, hnext, hit1, hf1, hs1, hentry⟩
    · have hnext' : ∀ ty, (Instr.next (.pointer (some ⟨w1.heap.size, 0, none⟩)) false ty).run Try.prog wr = .ok (.tuple #[.bool false]) wr := fun _ => hnext
      clear hnext
      have hp := HP.out
      simp only [List.map_nil, List.filter_nil, List.append_nil] at hp
      have hlen : out.length ≤ m := by
        rw [hp.length_eq]
        exact Nat.le_trans (List.length_filter_le _ _) (by simpa using hLlen)
      have hEQ := HNR.out L out HL.out hit.map.apart hp
      obtain ⟨oa, oc, rfl, hoi, _⟩ := row_ints hown
      have HN := hide (numbers_calls g F G oa _ oc out wr (HG.out.below hbw) rfl (by omega) hoi)
      rw [hEQ] at HN
      obtain ⟨om, hom⟩ : ∃ om, out.length = om := ⟨_, rfl⟩
      rw [hom] at HN ⊢
      have HBW := hide hbw
      clear hp hEQ hoi hlen hown HP hbw hit hf hom
      go_wp2_with (go_at_call 45; refine HN.out.mono ?_; rintro e w5 ⟨v5, rfl, hv5, hb5⟩; have HV5 := hide hv5; have HB5 := hide hb5; clear hv5 hb5)
      go_ret
      exact ⟨_, rfl, row_base HV5.out (fun q hq => by have := (HV5.out.lt q hq).1; have := HBW.out.size; omega), HBW.out.trans (HB5.out.mono HBW.out.size)⟩
    · have hnext' : ∀ ty, (Instr.next (.pointer (some ⟨w1.heap.size, 0, none⟩)) false ty).run Try.prog wr = .ok (.tuple #[.bool true, ekint pr.1, egrp pr.2]) w2 := fun _ => hnext
      clear hnext
      obtain ⟨tk, fv, fl⟩ := pr
      simp only [ekint, egrp] at hnext' hentry
      have hlt2 : w1.heap.size < w2.heap.size := by rw [hs1]; exact hit.lt
      have hbw2 : Below w.heap.size w w2 := hbw.trans (hf1.below hbw.size fun j hj => by omega)
      have hfi2 : Frm (fun j => j = w1.heap.size) wi w2 := hf.trans hf1 (fun j hj => .inl hj)
      have hit_nc := hit.noCells
      have hown2 : w2.ownsRow wi.heap.size 3 1 u5 out.length (goInts out) := row_frm hown hf1 fun g hg e => row_not hown hit_nc (by rw [hg, e])
      have hlook := look_of_mem hit.map.apart hmem
      have hP : behP L fi tk = decide (fi ∈ fl) := by unfold behP; rw [hlook]; rfl
      have hgrp : w2.ownsRow w.drew.heap.size 3 1 fv fl.length (goInts fl) := by
        have h0 := HGI.out.2.1 _ hmem
        refine row_frm h0 hfi2 fun q hq e => ?_
        subst e
        have hx : ∀ c e f, wi.heap[w1.heap.size]? ≠ some (.cells c e f) := HIT.out.noCells
        exact row_not h0 hx hq
      have hmeas : left'.length < left.length := by rw [hl.length_eq]; simp
      have hperm' : (out ++ ((if behP L fi tk = true then [tk] else []) ++ (left'.map (·.1)).filter (behP L fi))).Perm ((L.map (·.1)).filter (behP L fi)) := by
        refine List.Perm.trans (List.Perm.append_left _ ?_) HP.out
        refine List.Perm.trans ?_ ((hl.map (·.1)).filter (behP L fi)).symm
        rw [List.map_cons]
        by_cases hs : behP L fi tk = true
        · rw [if_pos hs, List.filter_cons_of_pos hs]; rfl
        · rw [if_neg hs, List.filter_cons_of_neg hs]; rfl
      have HP' := hide hperm'
      have hfl : fl.length ≤ m := by
        have h1 := HAK.out.few tk
        rw [← ahead_look HL.out, hlook, HM.out] at h1
        exact h1
      have hsm : out.length ≤ m := by
        have h1 := HP'.out.length_eq
        rw [List.length_append] at h1
        have h2 := List.length_filter_le (behP L fi) (L.map (·.1))
        rw [List.length_map] at h2
        omega
      have HL0 := hide hit.count
      have HMS := hide hmeas
      have HIT1 := hide hit1
      have hne0 : u5.ownBlock ≠ some w1.heap.size := row_not hown2 hit1.noCells
      have hneb : u5.ownBlock ≠ some b := row_not hown2 hit1.map.notCells
      obtain ⟨fa, fc, rfl, hfi3, _⟩ := row_ints hgrp
      obtain ⟨fn, hfn⟩ : ∃ fn, fl.length = fn := ⟨_, rfl⟩
      have HCON := hide (contains_int fa fn fc fl fi w2 hfn (by omega) hfi3)
      rw [hfn] at hnext' hentry
      rw [← hP] at HCON
      have HHW := hide (HHI.out w2 hbw2)
      have hg2 := (hbw2.cell (p := ⟨g, 0, none⟩) hgs).trans hg0
      have HFI2 := hide hfi2
      have HOWN2 := hide hown2
      have HB2 := hide hbw2
      have hsz2 := hfi2.size
      have HEND : ∀ (v' : Value) (W : World), Hid (W.ownsRow wi.heap.size 3 1 v' (out.length + 1) (goInts out ++ [.int .i64 tk]) → Frm (fun j => u5.ownBlock = some j) w2 W → behP L fi tk = true →
          BehRel wi w1.heap.size b L fi v' W ∧ W.rangeLeft b w1.heap.size < wr.rangeLeft b w1.heap.size) := fun v' W => hide fun ho hfW hs => by
        have hit2 : IterB ekint egrp W w1.heap.size b L left' := HIT1.out.frm hfW (by simpa using hneb) (by simpa using hne0)
        refine ⟨⟨left', out ++ [tk], hit2, by simpa [goInts] using ho, ?_, HFI2.out.trans hfW fun j hj => .inr (HOWN2.out.lt j hj).1⟩, by rw [HL0.out, hit2.count]; exact HMS.out⟩
        have := HP'.out
        rw [if_pos hs] at this
        simpa using this
      have HEND2 : Hid (behP L fi tk = false → BehRel wi w1.heap.size b L fi u5 w2 ∧ w2.rangeLeft b w1.heap.size < wr.rangeLeft b w1.heap.size) := hide fun hs => by
        refine ⟨⟨left', out, HIT1.out, HOWN2.out, ?_, HFI2.out⟩, by rw [HL0.out, HIT1.out.count]; exact HMS.out⟩
        have := HP'.out
        rw [hs] at this
        simpa using this
      clear hl hmem hit1 hf1 hperm' hmeas hit hown hs1 hlook hP hgrp hfl hfi2 hown2 hfi3 hfn hf hbw hbw2 hit_nc
      obtain ⟨bh, hbh⟩ : ∃ bb, behP L fi tk = bb := ⟨_, rfl⟩
      rw [hbh] at HCON
      have HBH := hide hbh
      clear hbh
      cases bh
      · go_wp2_with (go_at_call 44; refine Hid.out ?_)
        refine hide ?_
        refine HHW.out.mono ?_
        rintro e w3 ⟨rfl, rfl⟩
        go_wp2_with (go_at_call 47; refine Hid.out ?_)
        refine hide ?_
        refine HCON.out.mono ?_
        rintro e w3 ⟨rfl, rfl⟩
        go_wp2_with fail
        go_roundw
        case rel => exact hide (HEND2.out HBH.out).1
        case measure => exact (HEND2.out HBH.out).2
      · go_wp2_with (go_at_call 44; refine Hid.out ?_)
        refine hide ?_
        refine HHW.out.mono ?_
        rintro e w3 ⟨rfl, rfl⟩
        go_wp2_with (go_at_call 47; refine Hid.out ?_)
        refine hide ?_
        refine HCON.out.mono ?_
        rintro e w3 ⟨rfl, rfl⟩
        go_wp2_with (at_builtin; refine Hid.out ?_)
        refine hide ?_
        refine wpList_append_own _ rfl (.tmp 42) (.tmp 44) _ rfl wi.heap.size 3 i0 _ 1 8 Try.underlying31 hinf hz0 hz1 hz2 rfl (by decide) u5 out.length (goInts out) rfl (HOWN2.out.alloc _) ⟨w2.heap.size, 0, none⟩ 1 1 [.int .i64 tk] rfl rfl (World.news_of_block (heap_alloc_new w2 _)) (goInts_one [tk]) (by unfold maxLen; omega) (by omega) (by simp; omega) ?_
        intro v4 w4 hown4 hgrow4 _
        have hf4 : Frm (fun j => u5.ownBlock = some j) w2 w4 := ((Frm.refl _ _).alloc _).grown hgrow4 fun q hq => .inl hq
        have HFIN := hide ((HEND v4 w4).out hown4 hf4 HBH.out)
        clear hown4 hgrow4 hf4
        go_wp2_with fail
        go_roundw
        case rel => exact hide HFIN.out.1
        case measure => exact HFIN.out.2
theorem behind_calls {g : Nat} {F : Nat → Prop} {G : Gra} (i : Int) {w : World} (h : GraAt w g F G) :
    Calls Try.prog 16 #[.pointer (some ⟨g, 0, none⟩), .int .i64 i] w (IntsPost w (nearC G.c G.ls false i)) := by
  by_cases hi : G.c.f i = 0
  · rw [nearC_none hi]
    obtain ⟨u, lv, Fu, hp, _⟩ := h
    have hc0 : w.cell? ⟨g, 0, none⟩ = some (.pointer (some ⟨u, 0, none⟩)) := by simp [World.cell?, hp.cell]
    have HH := hide (head_calls i hp.uf)
    rw [hi] at HH
    clear hp hi
    go_enter Try.func16, Try.ntmps16
    go_wp2_with (go_at_call 44; refine HH.out.mono ?_; rintro e w1 ⟨rfl, rfl⟩)
    go_ret
    exact ⟨_, rfl, World.ownsRow_nil _ _ _ _, Below.refl _ _⟩
  · exact behind_walk g F G i w h hi
end Go.Proofs.Ytpkhmhfgnpnpfaa
