/- Package link: the closures of order. -/
import Derived.Test.YtpkhmhfgnpnpfaaGra2
namespace Go.Proofs.Ytpkhmhfgnpnpfaa
set_option linter.unusedSimpArgs false
set_option linter.unusedVariables false
open Go.RowKit
attribute [local go_sem] objAt_alloc objAt_alloc_at objAt_drew objAt_drewN objAt_setCell comesTo_value comesTo_enter

theorem run_zeroUnitI (w : World) : (zeroValue 143).run Try.prog w = .ok (.agg #[]) w := by kernel_rfl
/-- A look-up in a set of numbers. -/
theorem set_look {w : World} {b : Nat} {D : List (Int × Unit)} (h : MapB ekint ekunit w b D) (k : Int) :
    ∀ W : World, objAt W b = objAt w b → (Instr.lookup 142 (.map (some b)) (.int .i64 k) true).run Try.prog W = .ok (.tuple #[.agg #[], .bool (look D k).isSome]) W := fun W hW => by
  have := (h.keep hW).lookup (P := Try.prog) intT Try.underlying142 (run_zeroUnitI W) true k
  refine this.trans ?_
  cases look D k <;> rfl

/-- Is a number missing of what is done? -/
theorem missing_calls (h : Int) (d db : Nat) (D : List (Int × Unit)) (w : World) (hd : w.cell? ⟨d, 0, none⟩ = some (.map (some db))) (hm : MapB ekint ekunit w db D) :
    Calls Try.prog 84 #[.int .i64 h, .pointer (some ⟨d, 0, none⟩)] w fun e w' => e = .returned (.bool (!(look D h).isSome)) ∧ Below w.heap.size w w' := by
  have hlk := set_look hm h w rfl
  generalize (look D h).isSome = b at *
  clear hm
  go_enter Try.func84, Try.ntmps84
  go_wp2_with fail
  go_ret
  exact ⟨rfl, (Below.refl _ _).alloc (Nat.le_refl _) _⟩

theorem enters84 : Enters Try.prog 84 := enters_of Try.func84 (by kernel_rfl) rfl
/-- What the boxes of order hold. -/
structure OrdMem (w : World) (d e db ab B : Nat) (D : List (Int × Unit)) (c : Cls) (ls : List PLink) : Prop where
  dbox : w.heap[d]? = some (.cells #[.map (some db)] 142 (0, 0))
  ebox : w.heap[e]? = some (.cells #[.map (some ab)] 90 (0, 0))
  dmap : MapB ekint ekunit w db D
  amap : AheadAt w B ab c ls
  ne : ab ≠ db
theorem AheadAt.below {w w' : World} {B b : Nat} {c : Cls} {ls : List PLink} (h : AheadAt w B b c ls) (hb : Below w.heap.size w w') : AheadAt w' B b c ls := by
  obtain ⟨L, h1, h2⟩ := h
  exact ⟨L, h1.below hb, h2⟩
theorem OrdMem.below {w w' : World} {d e db ab B : Nat} {D : List (Int × Unit)} {c : Cls} {ls : List PLink} (h : OrdMem w d e db ab B D c ls) (hb : Below w.heap.size w w') : OrdMem w' d e db ab B D c ls :=
  ⟨(hb.block d (Array.getElem?_eq_some_iff.1 h.dbox).1).trans h.dbox, (hb.block e (Array.getElem?_eq_some_iff.1 h.ebox).1).trans h.ebox, h.dmap.frm (Frm.of_below (S := None) hb) id, h.amap.below hb, h.ne⟩
theorem box_cell {w : World} {d : Nat} {x : Value} {T : TypeId} (h : w.heap[d]? = some (.cells #[x] T (0, 0))) : w.cell? ⟨d, 0, none⟩ = some x := by simp [World.cell?, h]
/-- May a head stand next? -/
def readyD (c : Cls) (ls : List PLink) (D : List (Int × Unit)) (h : Int) : Prop := (look D h).isSome = false ∧ ∀ p ∈ (look (aheadOf c ls) h).getD [], (look D p).isSome = true
instance (c : Cls) (ls : List PLink) (D : List (Int × Unit)) (h : Int) : Decidable (readyD c ls D h) := by unfold readyD; exact inferInstance

set_option maxHeartbeats 2000000 in
set_option maxRecDepth 100000 in
theorem ready_calls (a : Option Addr) (n cp : Nat) (h : Int) (r : List Int) (d e db ab B : Nat) (D : List (Int × Unit)) (c : Cls) (ls : List PLink) (w : World) (hn : n = r.length + 1) (hl : IntsIn w a (h :: r)) (hm : OrdMem w d e db ab B D c ls) (hfew : ls.length ≤ 100000) :
    Calls Try.prog 83 #[.slice a n cp, .pointer (some ⟨d, 0, none⟩), .pointer (some ⟨e, 0, none⟩)] w fun x w' => x = .returned (.bool (decide (readyD c ls D h))) ∧ Below w.heap.size w w' := by
  obtain ⟨b, off, rfl, hb0, g0⟩ := hl 0 h rfl
  rw [Nat.add_zero] at g0
  have hn0 : 0 < n := by omega
  have HF : Hid (∀ W, New w W → W.cell? ⟨d, 0, none⟩ = some (.map (some db)) ∧ W.cell? ⟨b, off, none⟩ = some (.int .i64 h) ∧ (Instr.lookup 142 (.map (some db)) (.int .i64 h) true).run Try.prog W = .ok (.tuple #[.agg #[], .bool (look D h).isSome]) W) := hide fun W hW =>
    ⟨(Below.cell hW (p := ⟨d, 0, none⟩) (Array.getElem?_eq_some_iff.1 hm.dbox).1).trans (box_cell hm.dbox), (Below.cell hW (p := ⟨b, off, none⟩) hb0).trans g0, set_look hm.dmap h W (Below.block hW db hm.dmap.lt)⟩
  have HM := hide hm
  have HL := hide hl
  obtain ⟨b1, hb1⟩ : ∃ x, (look D h).isSome = x := ⟨_, rfl⟩
  rw [hb1] at HF
  have HB1 := hide hb1
  clear hl hm g0 hb1
  go_enter Try.func83, Try.ntmps83
  go_upto_region 1 with fail
  refine region_by (fun a b => a = b) way_eq 11 8 (fun W => New w W) (by kernel_rfl) (by kernel_rfl) (fun _ _ d _ _ h => by cases d <;> exact h) (fun x y h hx => h ▸ hx) (Below.refl _ _).drew (fun KT hKT => ?_)
  simp only [List.take_succ_cons, List.take_zero]
  refine Lex.want (v := ?_) (by rfl) (fun W hW => ?hd1) ?_
  case hd1 =>
    have hh := HF.out W hW
    clear hW
    go_split_ands
    go_simp
    first | rfl | exact way_new.refl _ | exact way_grow.refl _ | (refine ⟨?_, way_new.refl _⟩; rfl) | (refine ⟨?_, way_grow.refl _⟩; rfl)
  try simp only [Act.put, List.setIfInBounds_toArray, List.set_cons_zero, List.set_cons_succ, List.getElem_toArray, List.getElem_cons_zero, List.getElem_cons_succ]
  refine Lex.want (v := ?_) (by rfl) (fun W hW => ?hd2) ?_
  case hd2 =>
    have hh := HF.out W hW
    clear hW
    go_split_ands
    go_simp
    first | rfl | exact way_new.refl _ | exact way_grow.refl _ | (refine ⟨?_, way_new.refl _⟩; rfl) | (refine ⟨?_, way_grow.refl _⟩; rfl)
  try simp only [Act.put, List.setIfInBounds_toArray, List.set_cons_zero, List.set_cons_succ, List.getElem_toArray, List.getElem_cons_zero, List.getElem_cons_succ]
  refine Lex.want (v := ?_) (by rfl) (fun W hW => ?hd3) ?_
  case hd3 =>
    have hh := HF.out W hW
    clear hW
    go_split_ands
    go_simp
    first | rfl | exact way_new.refl _ | exact way_grow.refl _ | (refine ⟨?_, way_new.refl _⟩; rfl) | (refine ⟨?_, way_grow.refl _⟩; rfl)
  try simp only [Act.put, List.setIfInBounds_toArray, List.set_cons_zero, List.set_cons_succ, List.getElem_toArray, List.getElem_cons_zero, List.getElem_cons_succ]
  refine Lex.want (v := ?_) (by rfl) (fun W hW => ?hd4) ?_
  case hd4 =>
    have hh := HF.out W hW
    clear hW
    go_split_ands
    go_simp
    first | rfl | exact way_new.refl _ | exact way_grow.refl _ | (refine ⟨?_, way_new.refl _⟩; rfl) | (refine ⟨?_, way_grow.refl _⟩; rfl)
  try simp only [Act.put, List.setIfInBounds_toArray, List.set_cons_zero, List.set_cons_succ, List.getElem_toArray, List.getElem_cons_zero, List.getElem_cons_succ]
  refine Lex.want (v := ?_) (by rfl) (fun W hW => ?hd5) ?_
  case hd5 =>
    have hh := HF.out W hW
    clear hW
    go_split_ands
    go_simp
    first | rfl | exact way_new.refl _ | exact way_grow.refl _ | (refine ⟨?_, way_new.refl _⟩; rfl) | (refine ⟨?_, way_grow.refl _⟩; rfl)
  try simp only [Act.put, List.setIfInBounds_toArray, List.set_cons_zero, List.set_cons_succ, List.getElem_toArray, List.getElem_cons_zero, List.getElem_cons_succ]
  refine Lex.want (v := ?_) (by rfl) (fun W hW => ?hd6) ?_
  case hd6 =>
    have hh := HF.out W hW
    clear hW
    go_split_ands
    go_simp
    first | rfl | exact way_new.refl _ | exact way_grow.refl _ | (refine ⟨?_, way_new.refl _⟩; rfl) | (refine ⟨?_, way_grow.refl _⟩; rfl)
  try simp only [Act.put, List.setIfInBounds_toArray, List.set_cons_zero, List.set_cons_succ, List.getElem_toArray, List.getElem_cons_zero, List.getElem_cons_succ]
  refine Lex.want (v := ?_) (by rfl) (fun W hW => ?hd7) ?_
  case hd7 =>
    have hh := HF.out W hW
    clear hW
    go_split_ands
    go_simp
    first | rfl | exact way_new.refl _ | exact way_grow.refl _ | (refine ⟨?_, way_new.refl _⟩; rfl) | (refine ⟨?_, way_grow.refl _⟩; rfl)
  try simp only [Act.put, List.setIfInBounds_toArray, List.set_cons_zero, List.set_cons_succ, List.getElem_toArray, List.getElem_cons_zero, List.getElem_cons_succ]
  refine Lex.want (v := ?_) (by rfl) (fun W hW => ?hd8) ?_
  case hd8 =>
    have hh := HF.out W hW
    clear hW
    go_split_ands
    go_simp
    first | rfl | exact way_new.refl _ | exact way_grow.refl _ | (refine ⟨?_, way_new.refl _⟩; rfl) | (refine ⟨?_, way_grow.refl _⟩; rfl)
  try simp only [Act.put, List.setIfInBounds_toArray, List.set_cons_zero, List.set_cons_succ, List.getElem_toArray, List.getElem_cons_zero, List.getElem_cons_succ]
  refine Lex.nil (hKT.out _ ?_)
  clear hKT KT
  refine Reg.only 8 rfl (by decide) (by kernel_rfl) (fun W hW hT K hK => ?_)
  subst hW
  go_simp
  refine hK.out _ _ (Below.alloc hT (by simp) _) (fun _ => ?_)
  clear hK K
  try simp only [Act.put, List.setIfInBounds_toArray, List.set_cons_zero, List.set_cons_succ, List.getElem_toArray, List.getElem_cons_zero, List.getElem_cons_succ]
  refine Reg.only 9 rfl (by decide) (by kernel_rfl) (fun W hW hT2 K hK => ?_)
  subst hW
  go_simp
  refine hK.out _ _ hT2 (fun _ => ?_)
  clear hK K
  try simp only [Act.put, List.setIfInBounds_toArray, List.set_cons_zero, List.set_cons_succ, List.getElem_toArray, List.getElem_cons_zero, List.getElem_cons_succ]
  refine Reg.only 10 rfl (by decide) (by kernel_rfl) (fun W hW hT3 K hK => ?_)
  subst hW
  go_simp
  refine hK.out _ _ hT3 (fun _ => ?_)
  clear hK K
  try simp only [Act.put, List.setIfInBounds_toArray, List.set_cons_zero, List.set_cons_succ, List.getElem_toArray, List.getElem_cons_zero, List.getElem_cons_succ]
  refine Reg.done (by kernel_rfl) (fun W hW hWT => ⟨by kernel_rfl, ?_⟩)
  simp only [List.drop_succ_cons, List.drop_zero]
  subst hW
  have hbw : Below w.heap.size w ((w.alloc (.cells #[] 143)).drew) := hT3
  generalize (w.alloc (.cells #[] 143)).drew = w1 at *
  clear hT hT2 hT3 hWT HF
  have HBW := hide hbw
  cases b1 with
  | true =>
    have HE : Hid (decide (readyD c ls D h) = false) := hide (decide_eq_false fun hr => by
      have := hr.1
      rw [HB1.out] at this
      cases this)
    clear hbw
    go_wp2_with fail
    go_ret
    exact ⟨by rw [HE.out]; rfl, HBW.out⟩
  | false =>
    have hm1 := HM.out.below hbw
    obtain ⟨L, hg, hL⟩ := hm1.amap
    have hrow := hg.row h
    have hahd := ahead_look hL h
    obtain ⟨ra, rc, hre, hri, _⟩ := row_ints hrow
    have hfl := (aheadOf_ok c ls).few h
    have hlk := grpI_look hg.1 h
    have hal : Hid (((look L h).getD grp0).2 = (look (aheadOf c ls) h).getD []) := hide hahd
    rw [← hahd] at hfl
    have hri2 := hri
    generalize ((look L h).getD grp0).1 = v0 at *
    generalize ((look L h).getD grp0).2 = al at *
    obtain ⟨m, hmm⟩ : ∃ m, al.length = m := ⟨_, rfl⟩
    have HC : Hid (∀ W, New w1 W → Calls Try.prog 79 #[.slice ra m rc, .func (.func 84) #[] #[.pointer (some ⟨d, 0, none⟩)]] W fun x w' => x = .returned (.bool (decide (∃ p ∈ al, (!(look D p).isSome) = true))) ∧ New W w') := hide fun W hW =>
      containsFunc_int 84 enters84 #[.pointer (some ⟨d, 0, none⟩)] (fun p => (!(look D p).isSome) = true) ra m rc al W hmm (by omega) (hri.below hW) (fun x _ V hV => by
        have h1 := (hm1.below hW).below hV
        have := missing_calls x d db D V (box_cell h1.dbox) h1.dmap
        rw [show decide ((!(look D x).isSome) = true) = !(look D x).isSome by cases (look D x).isSome <;> rfl]
        exact this)
    have HF : Hid (∀ W, New w1 W → W.cell? ⟨e, 0, none⟩ = some (.map (some ab)) ∧ W.cell? ⟨b, off, none⟩ = some (.int .i64 h) ∧ (Instr.lookup 90 (.map (some ab)) (.int .i64 h) false).run Try.prog W = .ok (.slice ra m rc) W) := hide fun W hW => by
      have h1 := hm1.below hW
      obtain ⟨b', off', e1, e2, e3⟩ := (HL.out.below (Below.trans hbw (Below.mono hW hbw.size))) 0 h rfl
      simp only [Option.some.injEq, Addr.mk.injEq, and_true] at e1
      obtain ⟨rfl, rfl⟩ := e1
      rw [Nat.add_zero] at e3
      refine ⟨box_cell h1.ebox, e3, ?_⟩
      rw [hlk W (Below.block hW ab hg.1.lt), hre, hmm]
    clear hg hrow hahd hre hri hri2 hfl hlk hm1 hmm hL
    obtain ⟨b2, hb2⟩ : ∃ x, decide (∃ p ∈ al, (!(look D p).isSome) = true) = x := ⟨_, rfl⟩
    rw [hb2] at HC
    have HE : Hid (decide (readyD c ls D h) = !b2) := hide (by
      rw [← hb2]
      have hset : readyD c ls D h ↔ ¬ ∃ p ∈ al, (!(look D p).isSome) = true := by
        unfold readyD
        rw [HB1.out, ← hal.out]
        constructor
        · rintro ⟨_, h2⟩ ⟨p, hp, hq⟩
          rw [h2 p hp] at hq
          cases hq
        · intro h2
          refine ⟨rfl, fun p hp => ?_⟩
          cases hq : (look D p).isSome with
          | true => rfl
          | false => exact absurd ⟨p, hp, by rw [hq]; rfl⟩ h2
      by_cases hx : ∃ p ∈ al, (!(look D p).isSome) = true
      · rw [decide_eq_true hx, decide_eq_false (fun hr => hset.1 hr hx)]; rfl
      · rw [decide_eq_false hx, decide_eq_true (hset.2 hx)]; rfl)
    clear hb2 hbw
    go_upto_region 4 with fail
    refine region_by New way_new 9 9 (fun W => New w1 W) (by kernel_rfl) (by kernel_rfl) (fun _ _ d _ _ h => by cases d <;> exact h) (fun x y h hx => way_new.trans hx h) (Below.refl _ _).drew (fun KT hKT => ?_)
    simp only [List.take_succ_cons, List.take_zero]
    refine Lex.want (v := ?_) (by rfl) (fun W hW => ?hd9) ?_
    case hd9 =>
      have hh := HF.out W hW
      clear hW
      go_split_ands
      go_simp
      first | rfl | exact way_new.refl _ | exact way_grow.refl _ | (refine ⟨?_, way_new.refl _⟩; rfl) | (refine ⟨?_, way_grow.refl _⟩; rfl)
    try simp only [Act.put, List.setIfInBounds_toArray, List.set_cons_zero, List.set_cons_succ, List.getElem_toArray, List.getElem_cons_zero, List.getElem_cons_succ]
    refine Lex.want (v := ?_) (by rfl) (fun W hW => ?hd10) ?_
    case hd10 =>
      have hh := HF.out W hW
      clear hW
      go_split_ands
      go_simp
      first | rfl | exact way_new.refl _ | exact way_grow.refl _ | (refine ⟨?_, way_new.refl _⟩; rfl) | (refine ⟨?_, way_grow.refl _⟩; rfl)
    try simp only [Act.put, List.setIfInBounds_toArray, List.set_cons_zero, List.set_cons_succ, List.getElem_toArray, List.getElem_cons_zero, List.getElem_cons_succ]
    refine Lex.want (v := ?_) (by rfl) (fun W hW => ?hd11) ?_
    case hd11 =>
      have hh := HF.out W hW
      clear hW
      go_split_ands
      go_simp
      first | rfl | exact way_new.refl _ | exact way_grow.refl _ | (refine ⟨?_, way_new.refl _⟩; rfl) | (refine ⟨?_, way_grow.refl _⟩; rfl)
    try simp only [Act.put, List.setIfInBounds_toArray, List.set_cons_zero, List.set_cons_succ, List.getElem_toArray, List.getElem_cons_zero, List.getElem_cons_succ]
    refine Lex.want (v := ?_) (by rfl) (fun W hW => ?hd12) ?_
    case hd12 =>
      have hh := HF.out W hW
      clear hW
      go_split_ands
      go_simp
      first | rfl | exact way_new.refl _ | exact way_grow.refl _ | (refine ⟨?_, way_new.refl _⟩; rfl) | (refine ⟨?_, way_grow.refl _⟩; rfl)
    try simp only [Act.put, List.setIfInBounds_toArray, List.set_cons_zero, List.set_cons_succ, List.getElem_toArray, List.getElem_cons_zero, List.getElem_cons_succ]
    refine Lex.want (v := ?_) (by rfl) (fun W hW => ?hd13) ?_
    case hd13 =>
      have hh := HF.out W hW
      clear hW
      go_split_ands
      go_simp
      first | rfl | exact way_new.refl _ | exact way_grow.refl _ | (refine ⟨?_, way_new.refl _⟩; rfl) | (refine ⟨?_, way_grow.refl _⟩; rfl)
    try simp only [Act.put, List.setIfInBounds_toArray, List.set_cons_zero, List.set_cons_succ, List.getElem_toArray, List.getElem_cons_zero, List.getElem_cons_succ]
    refine Lex.want (v := ?_) (by rfl) (fun W hW => ?hd14) ?_
    case hd14 =>
      have hh := HF.out W hW
      clear hW
      go_split_ands
      go_simp
      first | rfl | exact way_new.refl _ | exact way_grow.refl _ | (refine ⟨?_, way_new.refl _⟩; rfl) | (refine ⟨?_, way_grow.refl _⟩; rfl)
    try simp only [Act.put, List.setIfInBounds_toArray, List.set_cons_zero, List.set_cons_succ, List.getElem_toArray, List.getElem_cons_zero, List.getElem_cons_succ]
    refine Lex.want (v := ?_) (by rfl) (fun W hW => ?hd15) ?_
    case hd15 =>
      have hcc := hide (HC.out W hW)
      go_simp
      exact hcc
    try simp only [Act.put, List.setIfInBounds_toArray, List.set_cons_zero, List.set_cons_succ, List.getElem_toArray, List.getElem_cons_zero, List.getElem_cons_succ]
    refine Lex.want (v := ?_) (by rfl) (fun W hW => ?hd16) ?_
    case hd16 =>
      have hh := HF.out W hW
      clear hW
      go_split_ands
      go_simp
      first | rfl | exact way_new.refl _ | exact way_grow.refl _ | (refine ⟨?_, way_new.refl _⟩; rfl) | (refine ⟨?_, way_grow.refl _⟩; rfl)
    try simp only [Act.put, List.setIfInBounds_toArray, List.set_cons_zero, List.set_cons_succ, List.getElem_toArray, List.getElem_cons_zero, List.getElem_cons_succ]
    refine Lex.want (v := ?_) (by rfl) (fun W hW => ?hd17) ?_
    case hd17 =>
      have hh := HF.out W hW
      clear hW
      go_split_ands
      go_simp
      first | rfl | exact way_new.refl _ | exact way_grow.refl _ | (refine ⟨?_, way_new.refl _⟩; rfl) | (refine ⟨?_, way_grow.refl _⟩; rfl)
    try simp only [Act.put, List.setIfInBounds_toArray, List.set_cons_zero, List.set_cons_succ, List.getElem_toArray, List.getElem_cons_zero, List.getElem_cons_succ]
    refine Lex.nil (hKT.out _ ?_)
    clear hKT KT
    refine Reg.done (by kernel_rfl) (fun W hW hWT => ⟨by kernel_rfl, ?_⟩)
    simp only [List.drop_succ_cons, List.drop_zero]
    clear HF HC
    go_wp2_with fail
    go_ret
    exact ⟨by rw [HE.out]; rfl, HBW.out.trans (Below.mono hWT HBW.out.size)⟩
end Go.Proofs.Ytpkhmhfgnpnpfaa
