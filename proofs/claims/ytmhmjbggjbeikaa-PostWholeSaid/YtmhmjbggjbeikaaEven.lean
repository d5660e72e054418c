/- Chapter 11: whether of each asset what is added is taken off elsewhere. -/
import Derived.Test.YtmhmjbggjbeikaaPost2
import Derived.Test.YtmhmjbggjbeikaaLed1
import Derived.Test.YtmhmjbggjbeikaaGrp
import Derived.Test.YtmhmjbggjbeikaaRgn
import Derived.Deep.AppendLies
namespace Go.Proofs.Ytmhmjbggjbeikaa
set_option linter.unusedSimpArgs false
set_option linter.unusedVariables false
open Go.RowKit
attribute [local go_sem] objAt_alloc objAt_alloc_at objAt_drew objAt_drewN objAt_setCell comesTo_value comesTo_enter

def byAsset (l : List PPost) : List (ByteArray × List Int) := groups (fun p => p.k.2) (fun p => p.by_) l
def evenB (l : List PPost) : Bool := (byAsset l).all fun g => decide (accAdd g.2 = 0)

theorem run_zeroInts (w : World) : (zeroValue 82).run Try.prog w = .ok (egrp grp0) w := by kernel_rfl
/-- A look-up among groups by texts. -/
theorem grp_look {w : World} {b : Nat} {L : List (ByteArray × Grp)} (h : MapB estr egrp w b L) (k : ByteArray) :
    ∀ W : World, objAt W b = objAt w b → (Instr.lookup 129 (.map (some b)) (.string k) false).run Try.prog W = .ok ((look L k).getD grp0).1 W := fun W hW => by
  have := (h.keep hW).lookup (P := Try.prog) strT Try.underlying129 (run_zeroInts W) false k
  refine this.trans ?_
  cases look L k <;> rfl

/-- What the rounds of the first loop keep. -/
def EvenRel (w : World) (l : List PPost) (k : Nat) (wr : World) : Prop :=
  ∃ L, GrpsAt estr 3 (w.heap.size + 1) wr w.heap.size L ∧ (L.map fun p => (p.1, p.2.2)) = byAsset (l.take k) ∧ (∀ p ∈ L, p.2.2.length ≤ k ∧ ∀ x ∈ p.2.2, within x) ∧ Below w.heap.size w wr

theorem even_step {w wr w1 w2 : World} {l : List PPost} {k : Nat} {q : PPost} {L : List (ByteArray × Grp)} {v : Value} (hq : l[k]? = some q) (hg : GrpsAt estr 3 (w.heap.size + 1) wr w.heap.size L)
    (hL : (L.map fun p => (p.1, p.2.2)) = byAsset (l.take k)) (hb : ∀ p ∈ L, p.2.2.length ≤ k ∧ ∀ x ∈ p.2.2, within x) (hbel : Below w.heap.size w wr) (hw : within q.by_)
    (hf : Frm (fun j => ((look L q.k.2).getD grp0).1.ownBlock = some j) wr w1) (ho : w1.ownsRow (w.heap.size + 1) 3 1 v (((look L q.k.2).getD grp0).2 ++ [q.by_]).length (goInts (((look L q.k.2).getD grp0).2 ++ [q.by_])))
    (hv : v.ownBlock = ((look L q.k.2).getD grp0).1.ownBlock ∨ ∃ g, v.ownBlock = some g ∧ wr.heap.size ≤ g) (hm : MapB estr egrp w2 w.heap.size (put L q.k.2 (v, ((look L q.k.2).getD grp0).2 ++ [q.by_]))) (hf2 : Frm (fun j => j = w.heap.size) w1 w2) : EvenRel w l (k + 1) w2 := by
  refine ⟨_, hg.put hf ho hv hm hf2, ?_, fun p hp => ?_, ?_⟩
  · obtain ⟨hk, rfl⟩ := List.getElem?_eq_some_iff.1 hq
    rw [List.take_succ_eq_append_getElem hk]
    unfold byAsset at hL ⊢
    rw [groups_snoc, ← hL, put_map (fun g : Grp => g.2), look_map (fun g : Grp => g.2)]
    congr 1
    cases look L l[k].k.2 <;> rfl
  · rcases mem_put hg.1.apart hp with rfl | ⟨hp, _⟩
    · cases hl : look L q.k.2 with
      | none => simp [grp0]; exact hw
      | some u =>
        have := hb _ (look_some hl)
        refine ⟨by simp; exact this.1, fun x hx => ?_⟩
        simp at hx
        rcases hx with hx | rfl
        · exact this.2 x hx
        · exact hw
    · exact ⟨Nat.le_succ_of_le (hb p hp).1, (hb p hp).2⟩
  · have h2 : Frm (fun j => ((look L q.k.2).getD grp0).1.ownBlock = some j ∨ j = w.heap.size) wr w2 := (hf.mono (fun j hj => .inl (.inl hj))).trans hf2 (fun j hj => .inl (.inr hj))
    exact hbel.trans (h2.below hbel.size fun j hj => by
      rcases hj with hj | hj
      · have := ((hg.row q.k.2).lt j hj).1; omega
      · omega)

/-- What the rounds of the second loop keep. -/
def Even2 (w wo : World) (L : List (ByteArray × Grp)) (wr : World) : Prop :=
  ∃ left, IterB estr egrp wr wo.heap.size w.heap.size L left ∧ GrpsAt estr 3 (w.heap.size + 1) wr w.heap.size L ∧ (∀ p ∈ L, p ∈ left ∨ accAdd p.2.2 = 0) ∧ Below w.heap.size w wr
theorem accWorld_frm {S : Nat → Prop} {a w : World} {ap : Nat} {xs : List Int} (h : Frm S a w) (hp : a.heap.size ≤ ap) : Frm S a (accWorld w ap xs) := by
  unfold accWorld
  split
  · exact h
  · exact h.setCell (.inr hp) _

set_option maxHeartbeats 2000000 in
set_option maxRecDepth 100000 in
theorem even_calls (a : Option Addr) (n c : Nat) (l : List PPost) (w : World) (hn : l.length = n) (hm : n ≤ 1099511627776) (h : PostsAt w a l) (hw : ∀ p ∈ l, within p.by_) :
    Calls Try.prog 60 #[.slice a n c] w fun e w' => e = .returned (.bool (evenB l)) ∧ Below w.heap.size w w' := by
  have hmk := @run_makeMap Try.prog
  obtain ⟨i0, hi, hz0, hz1, hz2⟩ := info_parts intInfo
  have HP := hide h
  have HWI := hide hw
  have HN := hide hn
  clear h hw hn
  go_enter Try.func60, Try.ntmps60
  go_wp2_with fail
  go_loopw [12] (fun i wr => ∃ k : Nat, k ≤ n ∧ i = .int .i64 k ∧ EvenRel w l k wr) (fun i _ => n - (intOf i).toNat)
  case atStart => exact ⟨0, by omega, rfl, [], GrpsAt.made w, rfl, by simp, (Below.refl _ _).alloc (Nat.le_refl _) _⟩
  case round =>
    obtain ⟨k, hk, rfl, L, hg, hL, hlen, hbel⟩ := hrel
    have HG := hide hg
    have HL := hide hL
    have HLEN := hide hlen
    have HB := hide hbel
    clear hg hL hlen hbel
    by_cases hlt : k < n
    · obtain ⟨q, hq⟩ : ∃ q, l[k]? = some q := ⟨l[k]'(by have := HN.out; omega), List.getElem?_eq_getElem (by have := HN.out; omega)⟩
      obtain ⟨b, off, rfl, hb0, g1, g2, g3, g4⟩ := (HP.out.keep HB.out) k q hq
      have HSTEP := hide (fun (w1 w2 : World) (v : Value) => even_step (w1 := w1) (w2 := w2) (v := v) hq HG.out HL.out HLEN.out HB.out (HWI.out q (List.mem_of_getElem? hq)))
      have hrow := HG.out.row q.k.2
      have hrlen : ((look L q.k.2).getD grp0).2.length ≤ 1099511627776 := by
        cases hl : look L q.k.2 with
        | none => simp [grp0]
        | some u => have := (HLEN.out _ (look_some hl)).1; simp only [Option.getD_some]; simp only at this; omega
      have hlk := fun W hW => grp_look HG.out.1 q.k.2 W hW
      have hup := fun (v : Value) W hW => HG.out.1.update_all (P := Try.prog) strT Try.underlying129 q.k.2 (v, ((look L q.k.2).getD grp0).2 ++ [q.by_]) W hW
      have hnm : ((look L q.k.2).getD grp0).1.ownBlock ≠ some w.heap.size := row_not hrow HG.out.1.notCells
      have hol := fun g hg => (hrow.lt g hg).2
      have hmb : w.heap.size < wr.heap.size := HG.out.1.lt
      clear hq
      obtain ⟨⟨q1, q2⟩, q3, q4⟩ := q
      simp only at *
      generalize ((look L q2).getD grp0).1 = v0 at *
      generalize ((look L q2).getD grp0).2 = xs at *
      have HROW := hide hrow
      have HLK := hide hlk
      have HUP := hide hup
      have HNM := hide hnm
      have HOL := hide hol
      clear hrow hlk hup hnm hol
      go_wp2_with fail
      have hr0 : (wr.alloc (.cells #[.string q1, .string q2, .int .i64 q3, .int .i64 q4] 51)).ownsRow (w.heap.size + 1) 3 1 v0 xs.length (goInts xs) := HROW.out.alloc _
      have hf0 : Frm None wr (wr.alloc (.cells #[.string q1, .string q2, .int .i64 q3, .int .i64 q4] 51)) := (Frm.refl _ _).alloc _
      have hc0 : (wr.alloc (.cells #[.string q1, .string q2, .int .i64 q3, .int .i64 q4] 51)).heap[wr.heap.size]? = some (.cells #[.string q1, .string q2, .int .i64 q3, .int .i64 q4] 51 (0, 0)) := heap_alloc_new wr _
      have hs0 : (wr.alloc (.cells #[.string q1, .string q2, .int .i64 q3, .int .i64 q4] 51)).heap.size = wr.heap.size + 1 := by simp
      generalize wr.alloc (.cells #[.string q1, .string q2, .int .i64 q3, .int .i64 q4] 51) = w0 at *
      have HF : Hid (∀ W, Frm (fun j => v0.ownBlock = some j) w0 W → W.cell? ⟨wr.heap.size, 1, none⟩ = some (.string q2) ∧ W.cell? ⟨wr.heap.size, 3, none⟩ = some (.int .i64 q4) ∧
          (Instr.lookup 129 (.map (some w.heap.size)) (.string q2) false).run Try.prog W = .ok v0 W) := hide fun W hW => by
        have hn0 : ¬ v0.ownBlock = some wr.heap.size := fun e => by have := HOL.out _ e; omega
        have e0 : W.heap[wr.heap.size]? = _ := (hW.block wr.heap.size (by omega) hn0).trans hc0
        refine ⟨by simp [World.cell?, e0], by simp [World.cell?, e0], HLK.out W ?_⟩
        exact (hW.block w.heap.size (by omega) HNM.out).trans (hf0.block w.heap.size hmb id)
      have HR0 := hide hr0
      have HF0 := hide hf0
      have HS0 := hide hs0
      clear hr0 hf0 hc0 hs0
      refine region_by (fun a b => a = b) way_eq 13 11 (fun W => Frm (fun j => v0.ownBlock = some j) w0 W) (by kernel_rfl) (by kernel_rfl) (fun _ _ d _ _ h => by cases d <;> exact h) (fun x y h hx => h ▸ hx) (Frm.refl _ _).drew (fun KT hKT => ?_)
      simp only [List.take_succ_cons, List.take_zero]
      refine Lex.want (v := ?_) (by rfl) (fun W hW => ?hd1) ?_
      case hd1 =>
        have hh := HF.out W hW
        clear hW
        go_split_ands
        go_simp
        first | rfl | exact way_new.refl _ | exact way_grow.refl _ | (refine ⟨?_, way_new.refl _⟩; rfl) | (refine ⟨?_, way_grow.refl _⟩; rfl)
      try simp only [Act.put, List.setIfInBounds_toArray, List.set_cons_zero, List.set_cons_succ, List.getElem_toArray, List.getElem_cons_zero, List.getElem_cons_succ]
      refine Lex.want (v := ?_) (by rfl) (fun W hW => ?hd2) ?_
      case hd2 =>
        have hh := HF.out W hW
        clear hW
        go_split_ands
        go_simp
        first | rfl | exact way_new.refl _ | exact way_grow.refl _ | (refine ⟨?_, way_new.refl _⟩; rfl) | (refine ⟨?_, way_grow.refl _⟩; rfl)
      try simp only [Act.put, List.setIfInBounds_toArray, List.set_cons_zero, List.set_cons_succ, List.getElem_toArray, List.getElem_cons_zero, List.getElem_cons_succ]
      refine Lex.want (v := ?_) (by rfl) (fun W hW => ?hd3) ?_
      case hd3 =>
        have hh := HF.out W hW
        clear hW
        go_split_ands
        go_simp
        first | rfl | exact way_new.refl _ | exact way_grow.refl _ | (refine ⟨?_, way_new.refl _⟩; rfl) | (refine ⟨?_, way_grow.refl _⟩; rfl)
      try simp only [Act.put, List.setIfInBounds_toArray, List.set_cons_zero, List.set_cons_succ, List.getElem_toArray, List.getElem_cons_zero, List.getElem_cons_succ]
      refine Lex.want (v := ?_) (by rfl) (fun W hW => ?hd4) ?_
      case hd4 =>
        have hh := HF.out W hW
        clear hW
        go_split_ands
        go_simp
        first | rfl | exact way_new.refl _ | exact way_grow.refl _ | (refine ⟨?_, way_new.refl _⟩; rfl) | (refine ⟨?_, way_grow.refl _⟩; rfl)
      try simp only [Act.put, List.setIfInBounds_toArray, List.set_cons_zero, List.set_cons_succ, List.getElem_toArray, List.getElem_cons_zero, List.getElem_cons_succ]
      refine Lex.want (v := ?_) (by rfl) (fun W hW => ?hd5) ?_
      case hd5 =>
        have hh := HF.out W hW
        clear hW
        go_split_ands
        go_simp
        first | rfl | exact way_new.refl _ | exact way_grow.refl _ | (refine ⟨?_, way_new.refl _⟩; rfl) | (refine ⟨?_, way_grow.refl _⟩; rfl)
      try simp only [Act.put, List.setIfInBounds_toArray, List.set_cons_zero, List.set_cons_succ, List.getElem_toArray, List.getElem_cons_zero, List.getElem_cons_succ]
      refine Lex.want (v := ?_) (by rfl) (fun W hW => ?hd6) ?_
      case hd6 =>
        have hh := HF.out W hW
        clear hW
        go_split_ands
        go_simp
        first | rfl | exact way_new.refl _ | exact way_grow.refl _ | (refine ⟨?_, way_new.refl _⟩; rfl) | (refine ⟨?_, way_grow.refl _⟩; rfl)
      try simp only [Act.put, List.setIfInBounds_toArray, List.set_cons_zero, List.set_cons_succ, List.getElem_toArray, List.getElem_cons_zero, List.getElem_cons_succ]
      refine Lex.want (v := ?_) (by rfl) (fun W hW => ?hd7) ?_
      case hd7 =>
        have hh := HF.out W hW
        clear hW
        go_split_ands
        go_simp
        first | rfl | exact way_new.refl _ | exact way_grow.refl _ | (refine ⟨?_, way_new.refl _⟩; rfl) | (refine ⟨?_, way_grow.refl _⟩; rfl)
      try simp only [Act.put, List.setIfInBounds_toArray, List.set_cons_zero, List.set_cons_succ, List.getElem_toArray, List.getElem_cons_zero, List.getElem_cons_succ]
      refine Lex.want (v := ?_) (by rfl) (fun W hW => ?hd8) ?_
      case hd8 =>
        have hh := HF.out W hW
        clear hW
        go_split_ands
        go_simp
        first | rfl | exact way_new.refl _ | exact way_grow.refl _ | (refine ⟨?_, way_new.refl _⟩; rfl) | (refine ⟨?_, way_grow.refl _⟩; rfl)
      try simp only [Act.put, List.setIfInBounds_toArray, List.set_cons_zero, List.set_cons_succ, List.getElem_toArray, List.getElem_cons_zero, List.getElem_cons_succ]
      refine Lex.want (v := ?_) (by rfl) (fun W hW => ?hd9) ?_
      case hd9 =>
        have hh := HF.out W hW
        clear hW
        go_split_ands
        go_simp
        first | rfl | exact way_new.refl _ | exact way_grow.refl _ | (refine ⟨?_, way_new.refl _⟩; rfl) | (refine ⟨?_, way_grow.refl _⟩; rfl)
      try simp only [Act.put, List.setIfInBounds_toArray, List.set_cons_zero, List.set_cons_succ, List.getElem_toArray, List.getElem_cons_zero, List.getElem_cons_succ]
      refine Lex.want (v := ?_) (by rfl) (fun W hW => ?hd10) ?_
      case hd10 =>
        have hh := HF.out W hW
        clear hW
        go_split_ands
        go_simp
        first | rfl | exact way_new.refl _ | exact way_grow.refl _ | (refine ⟨?_, way_new.refl _⟩; rfl) | (refine ⟨?_, way_grow.refl _⟩; rfl)
      try simp only [Act.put, List.setIfInBounds_toArray, List.set_cons_zero, List.set_cons_succ, List.getElem_toArray, List.getElem_cons_zero, List.getElem_cons_succ]
      refine Lex.want (v := ?_) (by rfl) (fun W hW => ?hd11) ?_
      case hd11 =>
        have hh := HF.out W hW
        clear hW
        go_split_ands
        go_simp
        first | rfl | exact way_new.refl _ | exact way_grow.refl _ | (refine ⟨?_, way_new.refl _⟩; rfl) | (refine ⟨?_, way_grow.refl _⟩; rfl)
      try simp only [Act.put, List.setIfInBounds_toArray, List.set_cons_zero, List.set_cons_succ, List.getElem_toArray, List.getElem_cons_zero, List.getElem_cons_succ]
      refine Lex.nil (hKT.out _ ?_)
      clear hKT KT
      refine Reg.only 11 rfl (by decide) (by kernel_rfl) (fun W hW hT K hK => ?_)
      subst hW
      go_simp
      refine hK.out _ _ (hT.alloc _) (fun _ => ?_)
      clear hK K
      try simp only [Act.put, List.setIfInBounds_toArray, List.set_cons_zero, List.set_cons_succ, List.getElem_toArray, List.getElem_cons_zero, List.getElem_cons_succ]
      refine Reg.only 12 rfl (by decide) (by kernel_rfl) (fun W hW hT K hK => ?_)
      subst hW
      have hd := HR0.out.drew
      refine step_append_lies _ (by rfl) (.tmp 24) (.tmp 27) _ (by rfl) (w.heap.size + 1) 3 i0 _ 1 8 Try.underlying82 hi hz0 hz1 hz2 (by rfl) (by decide) v0 xs.length (goInts xs) (by rfl) (hd.alloc _) ⟨w0.heap.size, 0, none⟩ 1 1 [.int .i64 q4] (by rfl) (by rfl) (World.news_of_block (heap_alloc_new w0.drew _)) (goInts_one [q4]) (by decide) (by unfold maxLen; omega) (by omega) (by have := HS0.out; simp; omega) (w0.heap.size + 1) (by simp) ?_
      intro g cap w2 hown2 hgrow2 hloc2 hlt2
      have hf2 : Frm (fun j => v0.ownBlock = some j) w0 w2 := ((Frm.refl (fun j => v0.ownBlock = some j) w0).drew.alloc _).grown hgrow2 (fun j hj => .inl hj)
      refine hK.out _ _ hf2 (fun _ => ?_)
      clear hK K
      try simp only [Act.put, List.setIfInBounds_toArray, List.set_cons_zero, List.set_cons_succ, List.getElem_toArray, List.getElem_cons_zero, List.getElem_cons_succ]
      refine Reg.done (by kernel_rfl) (fun W hW _ => ?_)
      subst hW
      refine ⟨by kernel_rfl, ?_⟩
      simp only [List.drop_succ_cons, List.drop_zero]
      have hob : objAt w2 w.heap.size = objAt wr w.heap.size := (hf2.block _ (by have := HS0.out; omega) HNM.out).trans (HF0.out.block _ hmb id)
      obtain ⟨hu1, hu2, hu3, hu4⟩ := HUP.out (.slice (some ⟨g, 0, none⟩) (xs.length + 1) cap) w2 hob
      have hst := HSTEP.out w2 _ (.slice (some ⟨g, 0, none⟩) (xs.length + 1) cap) ((HF0.out.mono (S' := fun j => v0.ownBlock = some j) (fun j hj => hj.elim)).trans hf2 (fun j hj => .inl hj)) (by simpa [goInts] using hown2) (by
        rcases hloc2 with e | e
        · exact .inl e.symm
        · exact .inr ⟨g, rfl, by have := HS0.out; rw [e]; omega⟩) hu2 hu3
      have hu1' : (Instr.mapUpdate 129 (.map (some w.heap.size)) (.string q2) (.slice (some ⟨g, 0, none⟩) (xs.length + 1) cap)).run Try.prog w2 = _ := hu1
      have HST := hide hst
      clear hu2 hu3 hu4 hst hu1 hob hf2 hown2 hgrow2 hloc2 hd hT
      generalize ranTo _ = w3 at *
      go_wp2_with fail
      exact ⟨⟨k + 1, by omega, by go_num, HST.out⟩, by simp [intOf]; omega⟩
    · have hkn : k = n := by omega
      subst hkn
      have hfull : byAsset (l.take k) = byAsset l := by rw [List.take_of_length_le (by have := HN.out; omega)]
      have HL2 : Hid ((L.map fun p => (p.1, p.2.2)) = byAsset l) := HL.out.trans hfull
      have hrange := (HG.out.1.range (P := Try.prog) (t := 129) Try.underlying129).1
      have HIT := hide (HG.out.1.range (P := Try.prog) (t := 129) Try.underlying129).2
      have HG1 : Hid (GrpsAt estr 3 (w.heap.size + 1) (wr.alloc (.mapIter (some w.heap.size) (clockOf wr w.heap.size) #[] (clockOf wr w.heap.size))) w.heap.size L) := hide (HG.out.below ((Below.refl _ _).alloc (Nat.le_refl _) _))
      clear hfull HL
      go_wp2_with fail
      obtain ⟨wo, rfl⟩ : ∃ wo : World, wo = wr := ⟨_, rfl⟩
      go_loopw [7] (fun _ wr => Even2 w wo L wr) (fun _ wr => wr.rangeLeft w.heap.size wo.heap.size)
      case atStart => exact ⟨L, HIT.out, HG1.out, fun p hp => .inl hp, HB.out.alloc HB.out.size _⟩
      case round =>
        obtain ⟨left, hit, hg, hdone, hbel⟩ := hrel
        have HD := hide hdone
        clear hdone
        rcases hit.next (P := Try.prog) 0 with ⟨rfl, hnext⟩ | ⟨pr, left', w1, hl, hmem, hnext, hit1, hf1, hs1, hentry⟩
        · have hnext' : ∀ ty, (Instr.next (.pointer (some ⟨wo.heap.size, 0, none⟩)) false ty).run Try.prog wr = .ok (.tuple #[.bool false]) wr := fun _ => hnext
          clear hnext
          have HV : Hid (evenB l = true) := by
            show evenB l = true
            unfold evenB
            rw [← HL2.out, List.all_map, List.all_eq_true]
            intro p hp
            rcases HD.out p hp with h | h
            · simp at h
            · simpa using h
          clear HD
          go_wp2
          go_ret
          exact ⟨by rw [HV.out]; rfl, hbel⟩
        · obtain ⟨kk, v, xs⟩ := pr
          have hnext' : ∀ ty, (Instr.next (.pointer (some ⟨wo.heap.size, 0, none⟩)) false ty).run Try.prog wr = .ok (.tuple #[.bool true, .string kk, v]) w1 := fun _ => hnext
          have hentry' : (Instr.entry (.pointer (some ⟨wo.heap.size, 0, none⟩))).run Try.prog w1 = .ok (.tuple #[.string kk, v]) w1 := hentry
          clear hnext hentry
          have hrow := hg.2.1 _ hmem
          have hxs := (HLEN.out _ hmem).2
          have hxl := (HLEN.out _ hmem).1
          simp only at hrow hxs hxl
          have hg1 : GrpsAt estr 3 (w.heap.size + 1) w1 w.heap.size L := hg.frm hf1 (fun e => hit.ne e.symm) (fun p hp g hgb e => row_not (hg.2.1 p hp) hit.noCells (by rw [hgb, e]))
          have hrow1 := hg1.2.1 _ hmem
          simp only at hrow1
          obtain ⟨A, c2, rfl, hcells⟩ := grp_slice hrow1
          have hb1 : Below w.heap.size w w1 := hbel.trans (hf1.below hbel.size fun j hj => by have := HB.out.size; omega)
          have hwl : w.heap.size ≤ w1.heap.size := hb1.size
          have HA : Hid (∀ W : World, W.cell? ⟨w1.heap.size, 0, none⟩ = some (.bool false) → W.frozen? ⟨w1.heap.size, 0, none⟩ = false → Below w1.heap.size w1 W → Calls Try.prog 41 #[.pointer (some ⟨w1.heap.size, 0, none⟩), .slice A xs.length c2] W fun e w' => e = .returned (.int .i64 (accAdd xs)) ∧ w' = accWorld W w1.heap.size xs) := hide fun W h1 h2 h3 =>
            accAdd_calls w1.heap.size A c2 w1.heap.size false xs W h1 h2 (fun hn => by
              obtain ⟨g, e1, e2, e3, e4, _⟩ := hcells 0 hn
              refine ⟨g, 0, e1, e3, fun i hi => ?_⟩
              obtain ⟨g', e1', _, e3', _, e5'⟩ := hcells i hi
              obtain rfl : g' = g := by rw [e1] at e1'; simpa using e1'.symm
              rw [Nat.zero_add]
              exact (h3.cell (p := ⟨g', i, none⟩) e3').trans e5') (fun x hx => by
                have := hxs x hx
                unfold within at this
                unfold isI64
                omega) (by omega)
          have hmeas : left'.length < left.length := by rw [hl.length_eq]; simp
          have HM : Hid (∀ W, Frm None w1 W → accAdd xs = 0 → Even2 w wo L W ∧ W.rangeLeft w.heap.size wo.heap.size < wr.rangeLeft w.heap.size wo.heap.size) := hide fun W hW h0 => by
            have hit2 := hit1.frm hW id id
            refine ⟨⟨left', hit2, hg1.frm hW id (fun _ _ _ _ => id), fun p hp => ?_, hb1.trans (hW.below hwl fun j hj => hj.elim)⟩, by rw [hit.count, hit2.count]; exact hmeas⟩
            rcases HD.out p hp with h | h
            · rcases List.mem_cons.1 (hl.mem_iff.1 h) with rfl | h
              · exact .inr h0
              · exact .inl h
            · exact .inr h
          have HFALSE : Hid (accAdd xs ≠ 0 → evenB l = false) := hide fun hne => by
            unfold evenB
            rw [← HL2.out, List.all_map]
            refine List.all_eq_false.2 ⟨_, hmem, ?_⟩
            simp [hne]
          have HB1 := hide hb1
          clear hit hg hbel hl hmem hit1 hf1 hs1 hrow hxs hg1 hrow1 hcells hb1 hmeas HD hxl HL2
          generalize hxn : xs.length = nx at *
          have HXN := hide hxn
          clear hxn
          by_cases h0 : accAdd xs = 0
          · have hz : (accAdd xs != 0) = false := by simp [h0]
            have H0 := hide h0
            clear h0 HFALSE
            generalize hr : accAdd xs = r at *
            have HR := hide hr
            clear hr
            go_wp2_with (go_at_call 41; go_must (refine (HA.out _ (by go_simp) (by go_simp) ((Below.refl _ _).alloc (Nat.le_refl _) _)).mono ?_); rintro e w' ⟨rfl, rfl⟩)
            have HE := HM.out (accWorld (w1.alloc (.cells #[.bool false] 84)) w1.heap.size xs) (accWorld_frm ((Frm.refl _ _).alloc _) (Nat.le_refl _)) H0.out
            exact HE
          · have hz : (accAdd xs != 0) = true := by simpa using h0
            have HV := hide (HFALSE.out h0)
            clear h0 HFALSE HM
            generalize hr : accAdd xs = r at *
            have HR := hide hr
            clear hr
            go_wp2_with (go_at_call 41; go_must (refine (HA.out _ (by go_simp) (by go_simp) ((Below.refl _ _).alloc (Nat.le_refl _) _)).mono ?_); rintro e w' ⟨rfl, rfl⟩)
            go_ret
            exact ⟨by rw [HV.out]; rfl, HB1.out.trans ((accWorld_frm (S := None) ((Frm.refl _ _).alloc _) (Nat.le_refl _)).below hwl fun j hj => hj.elim)⟩
end Go.Proofs.Ytmhmjbggjbeikaa
