/- Package uf: Grow, New. -/
import Derived.Test.YtpkhmhfgnpnpfaaUf1
import Derived.Test.YtpkhmhfgnpnpfaaRgn2
import Derived.Deep.AppendLies
namespace Go.Proofs.Ytpkhmhfgnpnpfaa
set_option linter.unusedSimpArgs false
set_option linter.unusedVariables false
open Go.RowKit
attribute [local go_sem] objAt_alloc objAt_alloc_at objAt_drew objAt_drewN objAt_setCell comesTo_value comesTo_enter

theorem ufIntInfo : (Try.prog.info? 3).map (fun i => (i.zero, i.size, i.bytes)) = some (some (.int .i64 0), 1, 8) := by kernel_rfl

/-- A store into a struct of one cell. -/
theorem one_set {w : World} {u : Nat} {x : Value} {T : TypeId} (v : Value) (h : w.heap[u]? = some (.cells #[x] T (0, 0))) : (w.setCell ⟨u, 0, none⟩ v).heap[u]? = some (.cells #[v] T (0, 0)) := by
  have := heap_setCell_same w u 0 #[x] T v h
  simpa using this

def ufLen (w : World) (u : Nat) : Nat := match w.heap[u]? with
  | some (.cells cs _ _) => match cs[0]? with
    | some (Value.slice _ n _) => n
    | _ => 0
  | _ => 0
theorem UfParts.len {w : World} {u : Nat} {uv : Value} {up : List Nat} (h : UfParts w u uv up) : ufLen w u = up.length := by
  obtain ⟨a, cp, rfl, _⟩ := h.reads
  simp [ufLen, h.cell]
def GrowRel (u : Nat) (F : Nat → Prop) (c : Cls) (n : Nat) (w wr : World) : Prop :=
  ∃ uv up, UfParts wr u uv up ∧ clsOf up = growC c up.length ∧ c.n ≤ up.length ∧ up.length ≤ n ∧ Frm F w wr ∧ ∀ b, uv.ownBlock = some b → F b ∨ w.heap.size ≤ b
/-- What a call leaves of a Uf: its classes are c, and nothing old that was not its own has turned. -/
def UfPost (w : World) (u : Nat) (F : Nat → Prop) (c : Cls) (w' : World) : Prop := ∃ F', UfAt w' u F' c ∧ Frm F w w' ∧ ∀ j, F' j → F j ∨ w.heap.size ≤ j
theorem UfPost.same {w w' : World} {u : Nat} {F : Nat → Prop} {c : Cls} (h : UfAt w u F c) (hb : Below w.heap.size w w') : UfPost w u F c w' := ⟨F, h.below hb, Frm.of_below hb, fun _ => .inl⟩
theorem grow_last {w wr : World} {u : Nat} {F : Nat → Prop} {c : Cls} {n : Nat} (h : GrowRel u F c n w wr) (hn : n ≤ ufLen wr u) (hF : F u) (hlt : ∀ j, F j → j < w.heap.size) : UfPost w u F (growC c n) wr := by
  obtain ⟨uv, up, h1, h2, h3, h4, h5, h6⟩ := h
  rw [h1.len] at hn
  obtain rfl : n = up.length := by omega
  refine ⟨fun j => j = u ∨ uv.ownBlock = some j, ⟨uv, up, h1, h2, .inl rfl, fun b hb => .inr hb, fun j hj => ?_⟩, h5, fun j hj => ?_⟩
  · rcases hj with rfl | hj
    · exact h1.lt
    · exact (h1.row.lt j hj).2
  · rcases hj with rfl | hj
    · exact .inl hF
    · exact h6 j hj

set_option maxHeartbeats 2000000 in
set_option maxRecDepth 100000 in
theorem grow_walk (u : Nat) (F : Nat → Prop) (c : Cls) (n : Nat) (w : World) (h : UfAt w u F c) (hn : c.n ≤ n) (hn2 : n ≤ 1000) :
    Calls Try.prog 57 #[.pointer (some ⟨u, 0, none⟩), .int .i64 n] w fun e w' => e = .returned (.int .i64 0) ∧ UfPost w u F (growC c n) w' := by
  obtain ⟨i0, hi, hz0, hz1, hz2⟩ := info_parts ufIntInfo
  have hrel0 : GrowRel u F c n w w := by
    obtain ⟨uv, up, h1, rfl, h3, h4, h5⟩ := h
    exact ⟨uv, up, h1, growC_self.symm, Nat.le_refl _, hn, Frm.refl _ _, fun b hb => .inl (h4 b hb)⟩
  have HFU : Hid (F u ∧ ∀ j, F j → j < w.heap.size) := hide (by obtain ⟨uv, up, h1, rfl, h3, h4, h5⟩ := h; exact ⟨h3, h5⟩)
  obtain ⟨a0, n0, cp0, hc0, hn0⟩ : ∃ a n0 cp, w.cell? ⟨u, 0, none⟩ = some (.slice a n0 cp) ∧ n0 ≤ n := by
    obtain ⟨uv, up, h1, rfl, h3, h4, h5⟩ := h
    obtain ⟨a, cp, _, h2, _⟩ := h1.reads
    exact ⟨a, _, cp, h2, hn⟩
  have HREL := hide hrel0
  have e1 : decide (n < n0) = false := decide_eq_false (by omega)
  have e2 : decide ((1000 : Int) < (n : Int)) = false := decide_eq_false (by omega)
  clear hrel0 h
  go_enter Try.func57, Try.ntmps57
  go_wp2_with fail
  go_loopw [26] (fun _ wr => Hid (GrowRel u F c n w wr)) (fun _ wr => n - ufLen wr u)
  case atStart => exact HREL
  case round =>
    clear HREL hc0
    obtain ⟨uv, up, h1, h2, h3, h4, h5, h6⟩ := hrel.out
    have hlen := h1.len
    obtain ⟨a, cp, huv, hc, _⟩ := h1.reads
    by_cases hlt : up.length < n
    · obtain ⟨m, hm⟩ : ∃ m, up.length = m := ⟨_, rfl⟩
      rw [hm] at hc hlt
      have hs : u < wr.heap.size := h1.lt
      have hfz : wr.frozen? ⟨u, 0, none⟩ = false := by simp [World.frozen?, h1.cell]
      have HF : Hid (∀ W, Frm (fun j => uv.ownBlock = some j) wr W → W.cell? ⟨u, 0, none⟩ = some (.slice a m cp)) := hide fun W hW => (hW.cell (p := ⟨u, 0, none⟩) hs h1.apart).trans hc
      have HP := hide h1
      have HM := hide hm
      have HROW : Hid (wr.ownsRow 0 3 1 uv m (goNats up)) := hide (hm ▸ h1.row)
      have HX := hide (And.intro h2 (And.intro h3 (And.intro h5 h6)))
      have HUV := hide huv
      have HL := hide hlen
      clear h1 h2 h3 h4 h5 h6 hm huv hlen hrel
      go_wp2_with fail
      clear hc
      refine region_by (fun a b => a = b) way_eq 13 11 (fun W => Frm (fun j => uv.ownBlock = some j) wr W) (by kernel_rfl) (by kernel_rfl) (fun _ _ d _ _ h => by cases d <;> exact h) (fun x y h hx => h ▸ hx) (Frm.refl _ _).drew (fun KT hKT => ?_)
      simp only [List.take_succ_cons, List.take_zero]
      refine Lex.want (v := ?_) (by rfl) (fun W hW => ?hd1) ?_
      case hd1 =>
        have hh := HF.out W hW
        clear hW
        go_split_ands
        go_simp
        first | rfl | exact way_new.refl _ | exact way_grow.refl _ | (refine ⟨?_, way_new.refl _⟩; rfl) | (refine ⟨?_, way_grow.refl _⟩; rfl)
      try simp only [Act.put, List.setIfInBounds_toArray, List.set_cons_zero, List.set_cons_succ, List.getElem_toArray, List.getElem_cons_zero, List.getElem_cons_succ]
      refine Lex.want (v := ?_) (by rfl) (fun W hW => ?hd2) ?_
      case hd2 =>
        have hh := HF.out W hW
        clear hW
        go_split_ands
        go_simp
        first | rfl | exact way_new.refl _ | exact way_grow.refl _ | (refine ⟨?_, way_new.refl _⟩; rfl) | (refine ⟨?_, way_grow.refl _⟩; rfl)
      try simp only [Act.put, List.setIfInBounds_toArray, List.set_cons_zero, List.set_cons_succ, List.getElem_toArray, List.getElem_cons_zero, List.getElem_cons_succ]
      refine Lex.want (v := ?_) (by rfl) (fun W hW => ?hd3) ?_
      case hd3 =>
        have hh := HF.out W hW
        clear hW
        go_split_ands
        go_simp
        first | rfl | exact way_new.refl _ | exact way_grow.refl _ | (refine ⟨?_, way_new.refl _⟩; rfl) | (refine ⟨?_, way_grow.refl _⟩; rfl)
      try simp only [Act.put, List.setIfInBounds_toArray, List.set_cons_zero, List.set_cons_succ, List.getElem_toArray, List.getElem_cons_zero, List.getElem_cons_succ]
      refine Lex.want (v := ?_) (by rfl) (fun W hW => ?hd4) ?_
      case hd4 =>
        have hh := HF.out W hW
        clear hW
        go_split_ands
        go_simp
        first | rfl | exact way_new.refl _ | exact way_grow.refl _ | (refine ⟨?_, way_new.refl _⟩; rfl) | (refine ⟨?_, way_grow.refl _⟩; rfl)
      try simp only [Act.put, List.setIfInBounds_toArray, List.set_cons_zero, List.set_cons_succ, List.getElem_toArray, List.getElem_cons_zero, List.getElem_cons_succ]
      refine Lex.want (v := ?_) (by rfl) (fun W hW => ?hd5) ?_
      case hd5 =>
        have hh := HF.out W hW
        clear hW
        go_split_ands
        go_simp
        first | rfl | exact way_new.refl _ | exact way_grow.refl _ | (refine ⟨?_, way_new.refl _⟩; rfl) | (refine ⟨?_, way_grow.refl _⟩; rfl)
      try simp only [Act.put, List.setIfInBounds_toArray, List.set_cons_zero, List.set_cons_succ, List.getElem_toArray, List.getElem_cons_zero, List.getElem_cons_succ]
      refine Lex.want (v := ?_) (by rfl) (fun W hW => ?hd6) ?_
      case hd6 =>
        have hh := HF.out W hW
        clear hW
        go_split_ands
        go_simp
        first | rfl | exact way_new.refl _ | exact way_grow.refl _ | (refine ⟨?_, way_new.refl _⟩; rfl) | (refine ⟨?_, way_grow.refl _⟩; rfl)
      try simp only [Act.put, List.setIfInBounds_toArray, List.set_cons_zero, List.set_cons_succ, List.getElem_toArray, List.getElem_cons_zero, List.getElem_cons_succ]
      refine Lex.want (v := ?_) (by rfl) (fun W hW => ?hd7) ?_
      case hd7 =>
        have hh := HF.out W hW
        clear hW
        go_split_ands
        go_simp
        first | rfl | exact way_new.refl _ | exact way_grow.refl _ | (refine ⟨?_, way_new.refl _⟩; rfl) | (refine ⟨?_, way_grow.refl _⟩; rfl)
      try simp only [Act.put, List.setIfInBounds_toArray, List.set_cons_zero, List.set_cons_succ, List.getElem_toArray, List.getElem_cons_zero, List.getElem_cons_succ]
      refine Lex.want (v := ?_) (by rfl) (fun W hW => ?hd8) ?_
      case hd8 =>
        have hh := HF.out W hW
        clear hW
        go_split_ands
        go_simp
        first | rfl | exact way_new.refl _ | exact way_grow.refl _ | (refine ⟨?_, way_new.refl _⟩; rfl) | (refine ⟨?_, way_grow.refl _⟩; rfl)
      try simp only [Act.put, List.setIfInBounds_toArray, List.set_cons_zero, List.set_cons_succ, List.getElem_toArray, List.getElem_cons_zero, List.getElem_cons_succ]
      refine Lex.want (v := ?_) (by rfl) (fun W hW => ?hd9) ?_
      case hd9 =>
        have hh := HF.out W hW
        clear hW
        go_split_ands
        go_simp
        first | rfl | exact way_new.refl _ | exact way_grow.refl _ | (refine ⟨?_, way_new.refl _⟩; rfl) | (refine ⟨?_, way_grow.refl _⟩; rfl)
      try simp only [Act.put, List.setIfInBounds_toArray, List.set_cons_zero, List.set_cons_succ, List.getElem_toArray, List.getElem_cons_zero, List.getElem_cons_succ]
      refine Lex.want (v := ?_) (by rfl) (fun W hW => ?hd10) ?_
      case hd10 =>
        have hh := HF.out W hW
        clear hW
        go_split_ands
        go_simp
        first | rfl | exact way_new.refl _ | exact way_grow.refl _ | (refine ⟨?_, way_new.refl _⟩; rfl) | (refine ⟨?_, way_grow.refl _⟩; rfl)
      try simp only [Act.put, List.setIfInBounds_toArray, List.set_cons_zero, List.set_cons_succ, List.getElem_toArray, List.getElem_cons_zero, List.getElem_cons_succ]
      refine Lex.want (v := ?_) (by rfl) (fun W hW => ?hd11) ?_
      case hd11 =>
        have hh := HF.out W hW
        clear hW
        go_split_ands
        go_simp
        first | rfl | exact way_new.refl _ | exact way_grow.refl _ | (refine ⟨?_, way_new.refl _⟩; rfl) | (refine ⟨?_, way_grow.refl _⟩; rfl)
      try simp only [Act.put, List.setIfInBounds_toArray, List.set_cons_zero, List.set_cons_succ, List.getElem_toArray, List.getElem_cons_zero, List.getElem_cons_succ]
      refine Lex.nil (hKT.out _ ?_)
      clear hKT KT
      refine Reg.only 11 rfl (by decide) (by kernel_rfl) (fun W hW hT K hK => ?_)
      subst hW
      go_simp
      refine hK.out _ _ (hT.alloc _) (fun _ => ?_)
      clear hK K
      try simp only [Act.put, List.setIfInBounds_toArray, List.set_cons_zero, List.set_cons_succ, List.getElem_toArray, List.getElem_cons_zero, List.getElem_cons_succ]
      refine Reg.only 12 rfl (by decide) (by kernel_rfl) (fun W hW hT K hK => ?_)
      subst hW
      refine step_append_lies _ (by rfl) (.tmp 31) (.tmp 38) _ (by rfl) 0 3 i0 _ 1 8 Try.underlying31 hi hz0 hz1 hz2 (by rfl) (by decide) uv m (goNats up) (by rw [HUV.out, HM.out]; rfl) (HROW.out.drew.alloc _) ⟨wr.heap.size, 0, none⟩ 1 1 [.int .i64 (IntKind.i64.wrap ((m : Int) + 1))] (by rfl) (by rfl) (World.news_of_block (heap_alloc_new wr.drew _)) (by intro x hx; simp at hx; subst hx; rfl) (by decide) (by unfold maxLen; omega) (by omega) (by omega) (wr.heap.size + 1) (by simp) ?_
      intro g cap w2 hown2 hgrow2 hloc2 hlt2
      have hne2 : uv.ownBlock ≠ some u := HP.out.apart
      have hf2 : Frm (fun j => uv.ownBlock = some j) wr w2 := ((Frm.refl (fun j => uv.ownBlock = some j) wr).drew.alloc _).grown hgrow2 (fun j hj => .inl hj)
      have hcu : w2.heap[u]? = some (.cells #[uv] 95 (0, 0)) := (hf2.block u hs hne2).trans HP.out.cell
      have hu2 : u < w2.heap.size := Nat.lt_of_lt_of_le hs hf2.size
      have hfz2 : w2.frozen? ⟨u, 0, none⟩ = false := by simp [World.frozen?, hcu]
      have hcell2 : w2.cell? ⟨u, 0, none⟩ = some uv := by simp [World.cell?, hcu]
      have hwr : IntKind.i64.wrap ((m : Int) + 1) = ((m + 1 : Nat) : Int) := by rw [IntKind.wrap_i64]; omega
      rw [hwr] at hown2
      have hgu : g ≠ u := by
        rcases hloc2 with e | e
        · rintro rfl; exact hne2 e
        · omega
      have HNEW : Hid (GrowRel u F c n w (w2.setCell ⟨u, 0, none⟩ (.slice (some ⟨g, 0, none⟩) (m + 1) cap)) ∧ n - ufLen (w2.setCell ⟨u, 0, none⟩ (.slice (some ⟨g, 0, none⟩) (m + 1) cap)) u < n - ufLen wr u) := hide (by
        obtain ⟨x1, x2, x3, x4⟩ := HX.out
        have hlen' : (up ++ [up.length + 1]).length = m + 1 := by simp [HM.out]
        have hp : UfParts (w2.setCell ⟨u, 0, none⟩ (.slice (some ⟨g, 0, none⟩) (m + 1) cap)) u (.slice (some ⟨g, 0, none⟩) (m + 1) cap) (up ++ [up.length + 1]) :=
          ⟨one_set _ hcu, by
            rw [hlen']
            have h0 := ownsRow_setCell_other hown2 (a := ⟨u, 0, none⟩) (by simp [Value.ownBlock, hgu]) (.slice (some ⟨g, 0, none⟩) (m + 1) cap)
            simpa [goNats, HM.out] using h0, by simp [Value.ownBlock, hgu], good_push HP.out.good, by rw [hlen']; omega⟩
        refine ⟨⟨_, _, hp, ?_, by rw [hlen']; rw [HM.out] at x2; omega, by rw [hlen']; omega, ?_, ?_⟩, ?_⟩
        · rw [clsOf_push HP.out.good, x1, growC_growC c x2 (by omega), hlen', HM.out]
        · refine (x3.trans (S' := fun j => uv.ownBlock = some j ∨ j = u) ?_ ?_)
          · exact (hf2.mono (fun j hj => .inl (.inl hj))).setCell (.inl (.inr rfl)) _
          · intro j hj
            rcases hj with hj | rfl
            · exact x4 j hj
            · exact .inl HFU.out.1
        · intro b hb
          simp [Value.ownBlock] at hb
          subst hb
          rcases hloc2 with e | e
          · exact x4 g e
          · exact .inr (by have := x3.size; omega)
        · rw [hp.len, hlen', HL.out, HM.out]
          omega)
      refine hK.out _ _ hf2 (fun _ => ?_)
      clear hown2 hgrow2 hloc2 hf2 hcu hgu hwr hlt2 hne2 HF hT
      clear hK K
      try simp only [Act.put, List.setIfInBounds_toArray, List.set_cons_zero, List.set_cons_succ, List.getElem_toArray, List.getElem_cons_zero, List.getElem_cons_succ]
      refine Reg.done (by kernel_rfl) (fun W hW _ => ?_)
      subst hW
      refine ⟨by kernel_rfl, ?_⟩
      simp only [List.drop_succ_cons, List.drop_zero]
      go_wp2_with fail
      go_roundw
      case rel =>
        exact hide HNEW.out.1
      case measure => exact HNEW.out.2
    · have hend := hide (grow_last hrel.out (by rw [hlen]; omega) HFU.out.1 HFU.out.2)
      obtain ⟨m, hm⟩ : ∃ m, up.length = m := ⟨_, rfl⟩
      rw [hm] at hc hlt
      clear h1 h2 h3 h4 h5 h6 huv hlen hrel hm
      go_wp2_with fail
      go_ret
      exact ⟨rfl, hend.out⟩
theorem grow_bad (u : Nat) (F : Nat → Prop) (c : Cls) (n : Int) (w : World) (h : UfAt w u F c) (hn : n < c.n ∨ 1000 < n) :
    Calls Try.prog 57 #[.pointer (some ⟨u, 0, none⟩), .int .i64 n] w fun e w' => e = .returned (.int .i64 1) ∧ w = w' := by
  obtain ⟨uv, up, h1, rfl, h3⟩ := h
  obtain ⟨a, cp, _, h2, _⟩ := h1.reads
  change n < up.length ∨ _ at hn
  generalize up.length = m at *
  by_cases e : n < m
  · go_enter Try.func57, Try.ntmps57
    go_wp2
    go_ret
    exact ⟨rfl, rfl⟩
  · have e2 : decide (n < m) = false := decide_eq_false e
    have e3 : (1000 : Int) < n := by omega
    go_enter Try.func57, Try.ntmps57
    go_wp2
    go_ret
    exact ⟨rfl, rfl⟩
/-- What Grow answers, and makes. -/
def growErr (c : Cls) (n : Int) : Int := if n < c.n ∨ 1000 < n then 1 else 0
def growTo (c : Cls) (n : Int) : Cls := if n < c.n ∨ 1000 < n then c else growC c n.toNat
theorem grow_calls (u : Nat) (F : Nat → Prop) (c : Cls) (n : Int) (w : World) (h : UfAt w u F c) :
    Calls Try.prog 57 #[.pointer (some ⟨u, 0, none⟩), .int .i64 n] w fun e w' => e = .returned (.int .i64 (growErr c n)) ∧ UfPost w u F (growTo c n) w' := by
  unfold growErr growTo
  by_cases hn : n < c.n ∨ 1000 < n
  · rw [if_pos hn, if_pos hn]
    exact (grow_bad u F c n w h hn).mono fun e w' ⟨h1, h2⟩ => ⟨h1, UfPost.same h (h2 ▸ Below.refl _ _)⟩
  · rw [if_neg hn, if_neg hn]
    obtain ⟨k, rfl⟩ : ∃ k : Nat, n = k := ⟨n.toNat, by omega⟩
    exact grow_walk u F c k w h (by omega) (by omega)
/-- uf.New. -/
theorem new_fresh (w : World) : UfAt (w.alloc (.cells #[.slice none 0 0] 95)) w.heap.size (fun j => j = w.heap.size) ⟨0, fun _ => 0⟩ :=
  ⟨.slice none 0 0, [], ⟨heap_alloc_new w _, World.ownsRow_nil _ _ _ _, by simp [Value.ownBlock], fun i hi => by simp at hi, by simp⟩,
    Cls.ext' rfl (fun i => clsOf_out (by simp; omega)), rfl, by simp [Value.ownBlock], fun j hj => by subst hj; simp⟩
theorem ufnew_calls (n : Nat) (hn : n ≤ 1000) (w : World) :
    Calls Try.prog 42 #[.int .i64 n] w fun e w' => ∃ u F, e = .returned (.tuple #[.pointer (some ⟨u, 0, none⟩), .int .i64 0]) ∧ UfAt w' u F (freshC n) ∧ (∀ j, F j → w.heap.size ≤ j) ∧ Below w.heap.size w w' := by
  have hg := grow_walk w.heap.size _ _ n _ (new_fresh w) (Nat.zero_le _) hn
  have HG := hide hg
  clear hg
  go_enter Try.func42, Try.ntmps42
  go_wp2_with (go_at_call 57; refine HG.out.mono ?_; rintro e w1 ⟨rfl, F', hu, hf, hF⟩)
  go_ret2
  exact ⟨_, F', rfl, hu, fun j hj => by
    rcases hF j hj with e | e
    · subst e; exact Nat.le_refl _
    · simp at e; omega, ((Below.refl w.heap.size w).alloc (Nat.le_refl _) _).trans (hf.below (by simp) fun j hj => by subst hj; exact Nat.le_refl _)⟩
theorem ufnew_bad (n : Int) (hn : n < 0 ∨ 1000 < n) (w : World) :
    Calls Try.prog 42 #[.int .i64 n] w fun e w' => e = .returned (.tuple #[.pointer none, .int .i64 1]) ∧ Below w.heap.size w w' := by
  have hg := grow_bad w.heap.size _ _ n _ (new_fresh w) hn
  have HG := hide hg
  clear hg
  go_enter Try.func42, Try.ntmps42
  go_wp2_with (go_at_call 57; refine HG.out.mono ?_; rintro e w1 ⟨rfl, rfl⟩)
  go_ret2
  exact ⟨rfl, (Below.refl w.heap.size w).alloc (Nat.le_refl _) _⟩
end Go.Proofs.Ytpkhmhfgnpnpfaa
