/- Package link: Links, Order, Grow, numbers. -/
import Derived.Test.YtpkhmhfgnpnpfaaGra8
namespace Go.Proofs.Ytpkhmhfgnpnpfaa
set_option linter.unusedSimpArgs false
set_option linter.unusedVariables false
open Go.RowKit
attribute [local go_sem] objAt_alloc objAt_alloc_at objAt_drew objAt_drewN objAt_setCell comesTo_value comesTo_enter

theorem links_calls {g : Nat} {F : Nat → Prop} {G : Gra} {w : World} (h : GraAt w g F G) :
    Calls Try.prog 20 #[.pointer (some ⟨g, 0, none⟩)] w (LinksPost w G.ls) := by
  obtain ⟨u, lv, Fu, hp, _⟩ := h
  obtain ⟨la, lc, hlv, hc0, hc1, hla⟩ := hp.reads
  have HC := hide (cloneLinks_calls la G.ls.length lc G.ls w hla (by have := hp.ok.few; omega))
  generalize G.ls.length = m at *
  clear hp hla
  go_enter Try.func20, Try.ntmps20
  go_wp2_with (go_at_call 50; refine HC.out.mono ?_; rintro e w1 ⟨v, rfl, hv, hb⟩; have HV := hide hv; have HB := hide hb; clear hv hb)
  go_ret
  exact ⟨_, rfl, HV.out, HB.out⟩

/-- What Order answers. -/
def orderG (G : Gra) : List (List Int) := (orderC G.c G.ls).map (classC G.c)
set_option maxHeartbeats 1000000 in
set_option maxRecDepth 100000 in
theorem gorder_calls {g : Nat} {F : Nat → Prop} {G : Gra} {w : World} (h : GraAt w g F G) :
    Calls Try.prog 19 #[.pointer (some ⟨g, 0, none⟩)] w (RowsPost w (orderG G)) := by
  obtain ⟨u, lv, Fu, hp, _⟩ := h
  obtain ⟨la, lc, hlv, hc0, hc1, hla⟩ := hp.reads
  have hgs := hp.lt
  have hfew := hp.ok.few
  have HO : Hid (∀ W, Below w.heap.size w W → Calls Try.prog 49 #[.pointer (some ⟨u, 0, none⟩), .slice la G.ls.length lc] W (RowsPost W (orderG G))) := hide fun W hW => order_calls u Fu G.c la G.ls.length lc G.ls W (hp.uf.below hW) (hla.below hW) (by omega)
  generalize G.ls.length = m at *
  have HF : Hid (∀ W, w.drew = W → W.cell? ⟨g, 0, none⟩ = some (.pointer (some ⟨u, 0, none⟩)) ∧ W.cell? ⟨g, 1, none⟩ = some (.slice la m lc)) := hide fun W hW => hW ▸ ⟨hc0, hc1⟩
  clear hp hla hlv
  go_enter Try.func19, Try.ntmps19
  go_wp2_with fail
  clear hc0 hc1
  refine region_by (fun a b => a = b) way_eq 8 8 (fun W => w.drew = W) (by kernel_rfl) (by kernel_rfl) (fun _ _ d _ _ h => by cases d <;> exact h) (fun x y h hx => h ▸ hx) rfl (fun KT hKT => ?_)
  simp only [List.take_succ_cons, List.take_zero]
  refine Lex.want (v := ?_) (by rfl) (fun W hW => ?hd1) ?_
  case hd1 =>
    have hh := HF.out W hW
    clear hW
    go_split_ands
    go_simp
    first | rfl | exact way_new.refl _ | exact way_grow.refl _ | (refine ⟨?_, way_new.refl _⟩; rfl) | (refine ⟨?_, way_grow.refl _⟩; rfl)
  try simp only [Act.put, List.setIfInBounds_toArray, List.set_cons_zero, List.set_cons_succ, List.getElem_toArray, List.getElem_cons_zero, List.getElem_cons_succ]
  refine Lex.want (v := ?_) (by rfl) (fun W hW => ?hd2) ?_
  case hd2 =>
    have hh := HF.out W hW
    clear hW
    go_split_ands
    go_simp
    first | rfl | exact way_new.refl _ | exact way_grow.refl _ | (refine ⟨?_, way_new.refl _⟩; rfl) | (refine ⟨?_, way_grow.refl _⟩; rfl)
  try simp only [Act.put, List.setIfInBounds_toArray, List.set_cons_zero, List.set_cons_succ, List.getElem_toArray, List.getElem_cons_zero, List.getElem_cons_succ]
  refine Lex.want (v := ?_) (by rfl) (fun W hW => ?hd3) ?_
  case hd3 =>
    have hh := HF.out W hW
    clear hW
    go_split_ands
    go_simp
    first | rfl | exact way_new.refl _ | exact way_grow.refl _ | (refine ⟨?_, way_new.refl _⟩; rfl) | (refine ⟨?_, way_grow.refl _⟩; rfl)
  try simp only [Act.put, List.setIfInBounds_toArray, List.set_cons_zero, List.set_cons_succ, List.getElem_toArray, List.getElem_cons_zero, List.getElem_cons_succ]
  refine Lex.want (v := ?_) (by rfl) (fun W hW => ?hd4) ?_
  case hd4 =>
    have hh := HF.out W hW
    clear hW
    go_split_ands
    go_simp
    first | rfl | exact way_new.refl _ | exact way_grow.refl _ | (refine ⟨?_, way_new.refl _⟩; rfl) | (refine ⟨?_, way_grow.refl _⟩; rfl)
  try simp only [Act.put, List.setIfInBounds_toArray, List.set_cons_zero, List.set_cons_succ, List.getElem_toArray, List.getElem_cons_zero, List.getElem_cons_succ]
  refine Lex.want (v := ?_) (by rfl) (fun W hW => ?hd5) ?_
  case hd5 =>
    have hh := HF.out W hW
    clear hW
    go_split_ands
    go_simp
    first | rfl | exact way_new.refl _ | exact way_grow.refl _ | (refine ⟨?_, way_new.refl _⟩; rfl) | (refine ⟨?_, way_grow.refl _⟩; rfl)
  try simp only [Act.put, List.setIfInBounds_toArray, List.set_cons_zero, List.set_cons_succ, List.getElem_toArray, List.getElem_cons_zero, List.getElem_cons_succ]
  refine Lex.want (v := ?_) (by rfl) (fun W hW => ?hd6) ?_
  case hd6 =>
    have hh := HF.out W hW
    clear hW
    go_split_ands
    go_simp
    first | rfl | exact way_new.refl _ | exact way_grow.refl _ | (refine ⟨?_, way_new.refl _⟩; rfl) | (refine ⟨?_, way_grow.refl _⟩; rfl)
  try simp only [Act.put, List.setIfInBounds_toArray, List.set_cons_zero, List.set_cons_succ, List.getElem_toArray, List.getElem_cons_zero, List.getElem_cons_succ]
  refine Lex.want (v := ?_) (by rfl) (fun W hW => ?hd7) ?_
  case hd7 =>
    have hh := HF.out W hW
    clear hW
    go_split_ands
    go_simp
    first | rfl | exact way_new.refl _ | exact way_grow.refl _ | (refine ⟨?_, way_new.refl _⟩; rfl) | (refine ⟨?_, way_grow.refl _⟩; rfl)
  try simp only [Act.put, List.setIfInBounds_toArray, List.set_cons_zero, List.set_cons_succ, List.getElem_toArray, List.getElem_cons_zero, List.getElem_cons_succ]
  refine Lex.want (v := ?_) (by rfl) (fun W hW => ?hd8) ?_
  case hd8 =>
    have hh := HF.out W hW
    clear hW
    go_split_ands
    go_simp
    first | rfl | exact way_new.refl _ | exact way_grow.refl _ | (refine ⟨?_, way_new.refl _⟩; rfl) | (refine ⟨?_, way_grow.refl _⟩; rfl)
  try simp only [Act.put, List.setIfInBounds_toArray, List.set_cons_zero, List.set_cons_succ, List.getElem_toArray, List.getElem_cons_zero, List.getElem_cons_succ]
  refine Lex.nil (hKT.out _ ?_)
  clear hKT KT
  refine Reg.done (by kernel_rfl) (fun W hW hWT => ⟨by kernel_rfl, ?_⟩)
  simp only [List.drop_succ_cons, List.drop_zero]
  subst hW
  clear hWT HF
  go_wp2_with (go_at_call 49; refine (HO.out w.drew (Below.refl _ _).drew).mono ?_; rintro e w1 ⟨v, rfl, hv, hb⟩; have HV := hide hv; have HB := hide hb; clear hv hb)
  go_ret
  exact ⟨_, rfl, HV.out, Below.trans ((Below.refl w.heap.size w).drew) HB.out⟩

/-- What Grow answers, and leaves. -/
def growG (G : Gra) (n : Int) : Gra := ⟨growTo G.c n, G.ls⟩
theorem growG_ok {G : Gra} (h : OkG G) (n : Int) : OkG (growG G n) := by
  unfold growG growTo
  split
  · exact h
  · rename_i hn
    refine ⟨growC_ok h.ok (by omega), by show n.toNat ≤ 1000; omega, h.few, fun x hx => ?_, h.good⟩
    have := h.inn x hx
    unfold linkIn at this ⊢
    show (1 ≤ x.src ∧ x.src ≤ (n.toNat : Int)) ∧ 1 ≤ x.dst ∧ x.dst ≤ (n.toNat : Int)
    omega
theorem ggrow_calls {g : Nat} {F : Nat → Prop} {G : Gra} (n : Int) {w : World} (h : GraAt w g F G) :
    Calls Try.prog 24 #[.pointer (some ⟨g, 0, none⟩), .int .i64 n] w fun e w' => e = .returned (.int .i64 (growErr G.c n)) ∧ GraPost w g F (growG G n) w' := by
  have hok := growG_ok h.ok n
  obtain ⟨u, lv, Fu, hp, q1, q2, q3, q4⟩ := h
  obtain ⟨la, lc, hlv, hc0, hc1, hla⟩ := hp.reads
  have HG := hide (grow_calls u Fu G.c n w hp.uf)
  have HP := hide hp
  clear hp hla hc1
  go_enter Try.func24, Try.ntmps24
  go_wp2_with (go_at_call 57; refine HG.out.mono ?_; rintro e w1 ⟨rfl, F1, hu, hf, hF⟩; have HU := hide hu; have HFF := hide hf; have HF1 := hide hF; clear hu hf hF)
  go_ret
  refine ⟨rfl, fun j => F j ∨ F1 j, ⟨u, lv, F1, ⟨(HFF.out.block g HP.out.lt HP.out.gu).trans HP.out.cell, HU.out, row_frm HP.out.row HFF.out HP.out.lu, fun hg => ?_, HP.out.lg, fun b hb hF => ?_, hok⟩, .inl q1, fun j => .inr, fun b hb => .inl (q3 b hb), fun j hj => ?_⟩, HFF.out.mono (fun j hj => .inl (q2 j hj)), fun j hj => ?_⟩
  · rcases HF1.out g hg with e | e
    · exact HP.out.gu e
    · have := HP.out.lt; omega
  · rcases HF1.out b hF with e | e
    · exact HP.out.lu b hb e
    · have := q4 b (q3 b hb); omega
  · rcases hj with hj | hj
    · exact Nat.lt_of_lt_of_le (q4 j hj) HFF.out.size
    · obtain ⟨_, _, _, _, _, _, h⟩ := HU.out; exact h j hj
  · rcases hj with hj | hj
    · exact .inl hj
    · exact (HF1.out j hj).imp (q2 j) id

/-! ### numbers -/
theorem flat_len (c : Cls) (n : Nat) (hn : c.n ≤ n) (hs : List Int) : (hs.flatMap (classC c)).length ≤ hs.length * n := by
  induction hs with
  | nil => simp
  | cons h hs ih =>
    have h1 : (classC c h).length ≤ n := by
      unfold classC
      split
      · simp
      · have := List.length_filter_le (fun j => decide (c.f j = c.f h)) (nums c.n)
        rw [nums_length] at this
        omega
    rw [List.flatMap_cons, List.length_append, List.length_cons, Nat.add_mul]
    omega

set_option maxHeartbeats 2000000 in
set_option maxRecDepth 100000 in
theorem numbers_calls (g : Nat) (F : Nat → Prop) (G : Gra) (a : Option Addr) (n cp : Nat) (hs : List Int) (w : World) (h : GraAt w g F G) (hn : hs.length = n) (hfew : n ≤ 1000) (hl : IntsIn w a hs) :
    Calls Try.prog 45 #[.pointer (some ⟨g, 0, none⟩), .slice a n cp] w (IntsPost w (sortI (hs.flatMap (classC G.c)))) := by
  obtain ⟨i0, hi, hz0, hz1, hz2⟩ := info_parts ufIntInfo
  have HG := hide h
  have HL := hide hl
  obtain ⟨u, lv, Fu, hp, _⟩ := h
  have hg0 : w.cell? ⟨g, 0, none⟩ = some (.pointer (some ⟨u, 0, none⟩)) := by simp [World.cell?, hp.cell]
  have hgs := hp.lt
  have HU := hide hp.uf
  have hc1000 := hp.ok.small
  have HFL := hide (fun k => flat_len G.c 1000 hc1000 (hs.take k))
  have HFL2 := hide (flat_len G.c 1000 hc1000 hs)
  clear hp hl
  go_enter Try.func45, Try.ntmps45
  go_wp2_with fail
  go_loopw [5, 7, 10] (fun v _ i wr => ∃ k : Nat, k ≤ n ∧ i = .int .i64 k ∧ Hid (wr.ownsRow w.heap.size 3 1 v ((hs.take k).flatMap (classC G.c)).length (goInts ((hs.take k).flatMap (classC G.c)))) ∧ Hid (Below w.heap.size w wr)) (fun _ _ i _ => n - (intOf i).toNat)
  case atStart => exact ⟨0, by omega, rfl, hide (World.ownsRow_nil _ _ _ _), hide (Below.refl _ _)⟩
  case round =>
    obtain ⟨k, hk, rfl, hown, hb⟩ := hrel
    by_cases hlt : k < n
    · obtain ⟨x, hx⟩ : ∃ x, hs[k]? = some x := ⟨hs[k]'(by omega), List.getElem?_eq_getElem (by omega)⟩
      obtain ⟨b, off, rfl, hb0, g1⟩ := (HL.out.below hb.out) k x hx
      have hgw := (hb.out.cell (p := ⟨g, 0, none⟩) hgs).trans hg0
      have htk := take_snoc hx
      have HNX : Hid ((hs.take (k + 1)).flatMap (classC G.c) = (hs.take k).flatMap (classC G.c) ++ classC G.c x) := hide (by rw [htk]; simp)
      have HCL := hide (class_calls x (HU.out.below hb.out))
      have hfl := HFL.out (k + 1)
      have hf0 := HFL.out k
      have htl : (hs.take (k + 1)).length ≤ 1000 := by rw [List.length_take]; omega
      have htl0 : (hs.take k).length ≤ 1000 := by rw [List.length_take]; omega
      have hbig : ((hs.take (k + 1)).flatMap (classC G.c)).length ≤ 1000000 := Nat.le_trans hfl (by have := Nat.mul_le_mul_right 1000 htl; omega)
      rw [HNX.out, List.length_append] at hbig
      clear hx htk hfl hf0 htl htl0
      go_wp2_with (go_at_call 18; refine Hid.out ?_)
      refine hide ?_
      refine HCL.out.mono ?_
      rintro e w1 ⟨cv, rfl, hcv, hb1⟩
      obtain ⟨ca, cc, rfl, hci, hcb⟩ := row_ints hcv
      have hcn : ca = none → (classC G.c x).length = 0 ∧ cc = 0 := fun e => by
        subst e
        rcases hcv.2 with ⟨e1, h0⟩ | ⟨_, _, _, e1, _⟩
        · simp at e1; exact ⟨h0, e1.2⟩
        · cases e1
      have hsz := hb.out.size
      have hs1 := hb1.size
      have HO1 := hide (row_below hown.out hb1)
      have HCI := hide hci
      have HB1 := hide (hb.out.trans (hb1.mono hb.out.size))
      obtain ⟨m1, hm1⟩ : ∃ m, ((hs.take k).flatMap (classC G.c)).length = m := ⟨_, rfl⟩
      obtain ⟨m2, hm2⟩ : ∃ m, (classC G.c x).length = m := ⟨_, rfl⟩
      rw [hm1] at HO1
      rw [hm1, hm2] at hbig
      rw [hm2] at hcn ⊢
      clear hcv hci hb1 HCL hcb
      go_wp2_with (at_builtin; refine Hid.out ?_)
      refine hide ?_
      refine wpList_append_cells rfl (.tmp 14) (.tmp 20) _ 3 rfl w.heap.size i0 _ 1 8 Try.underlying31 hi hz0 hz1 hz2 rfl (by decide) _ m1 _ rfl HO1.out ca m2 cc (goInts (classC G.c x)) rfl (by simp [goInts, hm2]) hcn HCI.out.cells (goInts_one _) (by unfold maxLen; omega) (by omega) (by omega) ?_
      intro v2 w2 hown2 hgrow2
      have hf : Frm (fun j => u5.ownBlock = some j) w1 w2 := (Frm.refl _ _).grown hgrow2 fun q hq => .inl hq
      have HB2 := hide (HB1.out.trans (hf.below HB1.out.size fun j hj => (HO1.out.lt j hj).1))
      have HO2 := hide hown2
      clear hown2 hgrow2 hf
      go_wp2_with fail
      exact ⟨⟨k + 1, by omega, by go_num, hide (by rw [HNX.out, List.length_append, hm1, hm2]; simpa [goInts] using HO2.out), HB2⟩, by simp [intOf]; omega⟩
    · have hkn : k = n := by omega
      subst hkn
      have hall : hs.take k = hs := List.take_of_length_le (by omega)
      rw [hall] at hown
      have hbig : (hs.flatMap (classC G.c)).length < 4611686018427387904 := by
        have h1 := HFL2.out
        have h2 : hs.length * 1000 ≤ 1000 * 1000 := Nat.mul_le_mul_right 1000 (by omega)
        omega
      have HS := hide (sortInts_calls w.heap.size u5 (hs.flatMap (classC G.c)) wr hown.out hbig)
      go_wp2_with (go_at_call 81; refine HS.out.mono ?_; rintro e w1 ⟨rfl, ho1, hf1⟩; have HO1 := hide ho1; have HF1 := hide hf1; clear ho1 hf1)
      go_ret
      exact ⟨_, rfl, HO1.out, hb.out.trans (HF1.out.below hb.out.size fun j hj => (hown.out.lt j hj).1)⟩
end Go.Proofs.Ytpkhmhfgnpnpfaa
