/- Package link: heads: of each class which ones stand straight ahead of it. -/
import Derived.Test.YtpkhmhfgnpnpfaaGra1
import Derived.Deep.CutRange
import Derived.Deep.CutBlock
import Derived.Deep.DeepCutAuto
namespace Go.Proofs.Ytpkhmhfgnpnpfaa
set_option linter.unusedSimpArgs false
set_option linter.unusedVariables false
open Go.RowKit
attribute [local go_sem] objAt_alloc objAt_alloc_at objAt_drew objAt_drewN objAt_setCell comesTo_value comesTo_enter

/-! ### maps with numbers as keys -/
def ekint (n : Int) : Value := .int .i64 n
def ekunit (_ : Unit) : Value := .agg #[]
theorem ekint_inj {x y : Int} (h : ekint x = ekint y) : x = y := by simpa [ekint] using h
theorem int_check (w : World) (em : Bool) (x : Int) : (Instr.checkKey em 10000 3 (ekint x)).run Try.prog w = .ok () w := by
  rw [Instr.checkKey]
  simp [run_underlying Try.underlying3, ekint]
theorem intT : KeyT Try.prog 3 ekint :=
  KeyT.of_now Try.underlying3 (fun x y => by simp only [ekint, Instr.sameNow]; rfl) ekint_inj int_check (fun x => by simp [ekint, Instr.sameBits])
theorem run_zeroIntsI (w : World) : (zeroValue 31).run Try.prog w = .ok (egrp grp0) w := by kernel_rfl
theorem grpI_look {w : World} {b : Nat} {L : List (Int × Grp)} (h : MapB ekint egrp w b L) (k : Int) :
    ∀ W : World, objAt W b = objAt w b → (Instr.lookup 90 (.map (some b)) (.int .i64 k) false).run Try.prog W = .ok ((look L k).getD grp0).1 W := fun W hW => by
  have := (h.keep hW).lookup (P := Try.prog) intT Try.underlying90 (run_zeroIntsI W) false k
  refine this.trans ?_
  cases look L k <;> rfl

/-! ### plainly -/
def aheadStep (c : Cls) (L : List (Int × List Int)) (x : PLink) : List (Int × List Int) :=
  if x.kind = 2 then (if c.f x.src ∈ (look L (c.f x.dst)).getD [] then L else put L (c.f x.dst) ((look L (c.f x.dst)).getD [] ++ [c.f x.src])) else L
def aheadOf (c : Cls) (ls : List PLink) : List (Int × List Int) := ls.foldl (aheadStep c) []
theorem aheadOf_snoc (c : Cls) (ls : List PLink) (x : PLink) : aheadOf c (ls ++ [x]) = aheadStep c (aheadOf c ls) x := by simp [aheadOf]
structure AheadOk (c : Cls) (ls : List PLink) (L : List (Int × List Int)) : Prop where
  apart : Apart L
  mem : ∀ h p, p ∈ (look L h).getD [] ↔ ∃ x ∈ ls, x.kind = 2 ∧ c.f x.dst = h ∧ c.f x.src = p
  once : ∀ h, ((look L h).getD []).Nodup
  full : ∀ q ∈ L, q.2 ≠ []
  few : ∀ h, ((look L h).getD []).length ≤ ls.length
  short : L.length ≤ ls.length
theorem aheadOf_ok (c : Cls) (ls : List PLink) : AheadOk c ls (aheadOf c ls) := by
  induction ls using snoc_ind with
  | h0 => exact ⟨apart_nil, by simp [aheadOf, look], by simp [aheadOf, look], by simp [aheadOf], by simp [aheadOf, look], by simp [aheadOf]⟩
  | h1 ls x ih =>
    rw [aheadOf_snoc]
    generalize aheadOf c ls = L at *
    obtain ⟨i1, i2, i3, i4, i5, i6⟩ := ih
    unfold aheadStep
    by_cases h1 : x.kind = 2
    · rw [if_pos h1]
      by_cases h2 : c.f x.src ∈ (look L (c.f x.dst)).getD []
      · rw [if_pos h2]
        refine ⟨i1, fun h p => ?_, i3, i4, fun h => by have := i5 h; simp; omega, by simp; omega⟩
        rw [i2]
        constructor
        · rintro ⟨y, hy, q⟩; exact ⟨y, by simp [hy], q⟩
        · rintro ⟨y, hy, q1, q2, q3⟩
          rcases List.mem_append.1 hy with hy | hy
          · exact ⟨y, hy, q1, q2, q3⟩
          · simp at hy; subst hy
            rw [q2, q3] at h2
            exact (i2 h p).1 h2
      · rw [if_neg h2]
        refine ⟨put_apart i1 _ _, fun h p => ?_, fun h => ?_, fun q hq => ?_, fun h => ?_, ?_⟩
        · rw [look_put]
          by_cases e : c.f x.dst = h
          · subst e
            simp only [if_true, Option.getD_some, List.mem_append, List.mem_singleton, i2]
            constructor
            · rintro (⟨y, hy, q⟩ | rfl)
              · exact ⟨y, .inl hy, q⟩
              · exact ⟨x, .inr rfl, h1, rfl, rfl⟩
            · rintro ⟨y, hy | rfl, q1, q2, q3⟩
              · exact .inl ⟨y, hy, q1, q2, q3⟩
              · exact .inr q3.symm
          · rw [if_neg e, i2]
            constructor
            · rintro ⟨y, hy, q⟩; exact ⟨y, by simp [hy], q⟩
            · rintro ⟨y, hy, q1, q2, q3⟩
              rcases List.mem_append.1 hy with hy | hy
              · exact ⟨y, hy, q1, q2, q3⟩
              · simp at hy; subst hy
                exact absurd q2 e
        · rw [look_put]
          by_cases e : c.f x.dst = h
          · subst e
            simp only [if_true, Option.getD_some]
            exact List.nodup_append.2 ⟨i3 _, by simp, fun a ha b hb => by simp at hb; subst hb; exact fun e => h2 (e ▸ ha)⟩
          · rw [if_neg e]; exact i3 h
        · rcases mem_put i1 hq with rfl | ⟨hq, _⟩
          · simp
          · exact i4 q hq
        · rw [look_put]
          by_cases e : c.f x.dst = h
          · subst e
            have := i5 (c.f x.dst)
            simp
            omega
          · rw [if_neg e]
            have := i5 h
            simp
            omega
        · have := put_length L (c.f x.dst) ((look L (c.f x.dst)).getD [] ++ [c.f x.src])
          simp
          omega
    · rw [if_neg h1]
      refine ⟨i1, fun h p => ?_, i3, i4, fun h => by have := i5 h; simp; omega, by simp; omega⟩
      rw [i2]
      constructor
      · rintro ⟨y, hy, q⟩; exact ⟨y, by simp [hy], q⟩
      · rintro ⟨y, hy, q1, q2, q3⟩
        rcases List.mem_append.1 hy with hy | hy
        · exact ⟨y, hy, q1, q2, q3⟩
        · simp at hy; subst hy
          exact absurd q1 h1

/-! ### the walk -/
/-- Block b is what heads makes. -/
def AheadAt (w : World) (B b : Nat) (c : Cls) (ls : List PLink) : Prop := ∃ L, GrpsAt ekint 3 B w b L ∧ (L.map fun p => (p.1, p.2.2)) = aheadOf c ls
theorem ahead_look {c : Cls} {ls : List PLink} {L : List (Int × Grp)} (h : (L.map fun p => (p.1, p.2.2)) = aheadOf c ls) (k : Int) : ((look L k).getD grp0).2 = (look (aheadOf c ls) k).getD [] := by
  rw [← h, look_map (fun g : Grp => g.2)]
  cases look L k <;> rfl
theorem ahead_put {c : Cls} {ls : List PLink} {L : List (Int × Grp)} (h : (L.map fun p => (p.1, p.2.2)) = aheadOf c ls) {x : PLink} (h1 : x.kind = 2) (h2 : c.f x.src ∉ (look (aheadOf c ls) (c.f x.dst)).getD []) (v : Value) :
    ((put L (c.f x.dst) (v, ((look L (c.f x.dst)).getD grp0).2 ++ [c.f x.src])).map fun p => (p.1, p.2.2)) = aheadOf c (ls ++ [x]) := by
  rw [aheadOf_snoc, aheadStep, if_pos h1, if_neg h2, put_map (fun g : Grp => g.2), h, ahead_look h]
theorem ahead_same {c : Cls} {ls : List PLink} {x : PLink} (h : x.kind ≠ 2 ∨ c.f x.src ∈ (look (aheadOf c ls) (c.f x.dst)).getD []) : aheadOf c (ls ++ [x]) = aheadOf c ls := by
  rw [aheadOf_snoc, aheadStep]
  rcases h with h | h
  · rw [if_neg h]
  · rw [if_pos h]; split <;> rfl

/-- What heads makes. -/
def HeadsPost (w : World) (c : Cls) (ls : List PLink) (e : Ending) (w' : World) : Prop := ∃ b, e = .returned (.map (some b)) ∧ AheadAt w' w.heap.size b c ls ∧ w.heap.size ≤ b ∧ Below w.heap.size w w'

set_option maxHeartbeats 4000000 in
set_option maxRecDepth 100000 in
theorem heads_calls (u : Nat) (F : Nat → Prop) (c : Cls) (a : Option Addr) (n cp : Nat) (l : List PLink) (w : World) (hu : UfAt w u F c) (hl : LinksArg w a n cp l) (hfew : n ≤ 100000) :
    Calls Try.prog 46 #[.pointer (some ⟨u, 0, none⟩), .slice a n cp] w (HeadsPost w c l) := by
  have hmk := @run_makeMap Try.prog
  obtain ⟨i0, hi, hz0, hz1, hz2⟩ := info_parts ufIntInfo
  have HU := hide hu
  have HL := hide hl
  have hll := hl.1
  have HSTART : Hid (GrpsAt ekint 3 w.heap.size (w.alloc (.map #[] 0)) w.heap.size ([] : List (Int × Grp))) := hide (GrpsAt.made w)
  have hEnd : ∀ (L : List (Int × Grp)), (L.map fun p => (p.1, p.2.2)) = aheadOf c l → True := fun _ _ => trivial
  clear hu hl hEnd
  go_enter Try.func46, Try.ntmps46
  go_wp2_with fail
  go_loopw [7, 8, 9, 13] (fun _ _ _ i wr => ∃ (k : Nat) (L : List (Int × Grp)), k ≤ n ∧ i = .int .i64 k ∧ Hid (GrpsAt ekint 3 w.heap.size wr w.heap.size L) ∧ Hid ((L.map fun p => (p.1, p.2.2)) = aheadOf c (l.take k)) ∧ Hid (Below w.heap.size w wr)) (fun _ _ _ i _ => n - (intOf i).toNat)
  case atStart => exact ⟨0, [], by omega, rfl, HSTART, hide rfl, hide ((Below.refl _ _).alloc (Nat.le_refl _) _)⟩
  case round =>
    obtain ⟨k, L, hk, rfl, hg, hL, hb⟩ := hrel
    clear HSTART
    by_cases hlt : k < n
    · obtain ⟨⟨xk, xs, xd⟩, hx⟩ : ∃ x, l[k]? = some x := ⟨l[k]'(by omega), List.getElem?_eq_getElem (by omega)⟩
      obtain ⟨b, off, rfl, hb0, g1, g2, g3⟩ := (HL.out.2.2.2.below hb.out) k _ hx
      simp only at g1 g2 g3
      have htk := take_snoc hx
      by_cases hk2 : xk = 2
      · subst hk2
        obtain ⟨w0, hw0⟩ : ∃ w0, wr.alloc (.cells #[.int .i64 2, .int .i64 xs, .int .i64 xd] 30) = w0 := ⟨_, rfl⟩
        have hb00 : Below w.heap.size w w0 := by rw [← hw0]; exact hb.out.alloc hb.out.size _
        have hbr : Below wr.heap.size wr w0 := by rw [← hw0]; exact (Below.refl _ _).alloc (Nat.le_refl _) _
        have hc0 : w0.heap[wr.heap.size]? = some (.cells #[.int .i64 2, .int .i64 xs, .int .i64 xd] 30 (0, 0)) := by rw [← hw0]; exact heap_alloc_new wr _
        have HH0 := hide (head_calls xs (HU.out.below (show Below w.heap.size w w0.drew from hb00.drew)))
        have HH1 := hide (head_calls xd (HU.out.below (show Below w.heap.size w w0.drew from hb00.drew)))
        have hgw : GrpsAt ekint 3 w.heap.size w0.drew w.heap.size L := hg.out.below (show Below wr.heap.size wr w0.drew from hbr.drew)
        have hLOOK := grpI_look hgw.1 (c.f xd)
        have hrow := hgw.row (c.f xd)
        have hahd := ahead_look hL.out (c.f xd)
        obtain ⟨ra, rc, hre, hri, _⟩ := row_ints hrow
        have hfew2 := (aheadOf_ok c (l.take k)).few (c.f xd)
        rw [← hahd] at hfew2
        have hlen : ((look L (c.f xd)).getD grp0).2.length ≤ k := Nat.le_trans hfew2 (by simp; omega)
        have HCON := hide (contains_int ra _ rc _ (c.f xs) w0.drew rfl (by omega) hri)
        have hmb : w.heap.size < w0.drew.heap.size := hgw.1.lt
        have HPUT := hide (fun (h2 : c.f xs ∉ (look (aheadOf c (l.take k)) (c.f xd)).getD []) (v : Value) => ahead_put hL.out (x := ⟨2, xs, xd⟩) rfl h2 v)
        have HSAME := hide (fun (h2 : c.f xs ∈ (look (aheadOf c (l.take k)) (c.f xd)).getD []) => ahead_same (c := c) (ls := l.take k) (x := ⟨2, xs, xd⟩) (.inr h2))
        simp only at HPUT HSAME
        rw [← htk, ← hahd] at HPUT HSAME
        obtain ⟨fs, hfs⟩ : ∃ y, c.f xs = y := ⟨_, rfl⟩
        obtain ⟨fd, hfd⟩ : ∃ y, c.f xd = y := ⟨_, rfl⟩
        rw [hfs] at HH0 HCON HPUT HSAME
        rw [hfd] at HH1 HCON HPUT HSAME hLOOK hrow hre hlen
        have HF : Hid (∀ W, w0.drew = W → W.cell? ⟨wr.heap.size, 1, none⟩ = some (.int .i64 xs) ∧ W.cell? ⟨wr.heap.size, 2, none⟩ = some (.int .i64 xd)) := hide fun W hW => by
          have hc1 : W.heap[wr.heap.size]? = some (.cells #[.int .i64 2, .int .i64 xs, .int .i64 xd] 30 (0, 0)) := by rw [← hW]; exact hc0
          exact ⟨by simp [World.cell?, hc1], by simp [World.cell?, hc1]⟩
        have HGW := hide hgw
        have HROW := hide hrow
        have HLK := hide hLOOK
        have HB0 := hide hb00
        have hkc : w0.cell? ⟨wr.heap.size, 0, none⟩ = some (.int .i64 2) := by simp [World.cell?, hc0]
        clear hb00 hbr hc0 hgw hLOOK hrow hri hfew2 hfs hfd htk hx hahd
        generalize hrows : ((look L fd).getD grp0).1 = v0 at *
        generalize hxs0 : ((look L fd).getD grp0).2 = xs0 at *
        go_upto_region 6 with fail
        clear hw0 hkc g1 g2 g3
        refine region_by (fun a b => a = b) way_eq 10 10 (fun W => w0.drew = W) (by kernel_rfl) (by kernel_rfl) (fun _ _ d _ _ h => by cases d <;> exact h) (fun x y h hx => h ▸ hx) rfl (fun KT hKT => ?_)
        simp only [List.take_succ_cons, List.take_zero]
        refine Lex.want (v := ?_) (by rfl) (fun W hW => ?hd1) ?_
        case hd1 =>
          have hh := HF.out W hW
          clear hW
          go_split_ands
          go_simp
          first | rfl | exact way_new.refl _ | exact way_grow.refl _ | (refine ⟨?_, way_new.refl _⟩; rfl) | (refine ⟨?_, way_grow.refl _⟩; rfl)
        try simp only [Act.put, List.setIfInBounds_toArray, List.set_cons_zero, List.set_cons_succ, List.getElem_toArray, List.getElem_cons_zero, List.getElem_cons_succ]
        refine Lex.want (v := ?_) (by rfl) (fun W hW => ?hd2) ?_
        case hd2 =>
          have hh := HF.out W hW
          clear hW
          go_split_ands
          go_simp
          first | rfl | exact way_new.refl _ | exact way_grow.refl _ | (refine ⟨?_, way_new.refl _⟩; rfl) | (refine ⟨?_, way_grow.refl _⟩; rfl)
        try simp only [Act.put, List.setIfInBounds_toArray, List.set_cons_zero, List.set_cons_succ, List.getElem_toArray, List.getElem_cons_zero, List.getElem_cons_succ]
        refine Lex.want (v := ?_) (by rfl) (fun W hW => ?hd3) ?_
        case hd3 =>
          have hh := HF.out W hW
          clear hW
          go_split_ands
          go_simp
          first | rfl | exact way_new.refl _ | exact way_grow.refl _ | (refine ⟨?_, way_new.refl _⟩; rfl) | (refine ⟨?_, way_grow.refl _⟩; rfl)
        try simp only [Act.put, List.setIfInBounds_toArray, List.set_cons_zero, List.set_cons_succ, List.getElem_toArray, List.getElem_cons_zero, List.getElem_cons_succ]
        refine Lex.want (v := ?_) (by rfl) (fun W hW => ?hd4) ?_
        case hd4 =>
          have hcc := hide (show Calls _ _ _ W _ from hW ▸ HH0.out)
          go_simp
          exact hcc
        try simp only [Act.put, List.setIfInBounds_toArray, List.set_cons_zero, List.set_cons_succ, List.getElem_toArray, List.getElem_cons_zero, List.getElem_cons_succ]
        refine Lex.want (v := ?_) (by rfl) (fun W hW => ?hd5) ?_
        case hd5 =>
          have hh := HF.out W hW
          clear hW
          go_split_ands
          go_simp
          first | rfl | exact way_new.refl _ | exact way_grow.refl _ | (refine ⟨?_, way_new.refl _⟩; rfl) | (refine ⟨?_, way_grow.refl _⟩; rfl)
        try simp only [Act.put, List.setIfInBounds_toArray, List.set_cons_zero, List.set_cons_succ, List.getElem_toArray, List.getElem_cons_zero, List.getElem_cons_succ]
        refine Lex.want (v := ?_) (by rfl) (fun W hW => ?hd6) ?_
        case hd6 =>
          have hh := HF.out W hW
          clear hW
          go_split_ands
          go_simp
          first | rfl | exact way_new.refl _ | exact way_grow.refl _ | (refine ⟨?_, way_new.refl _⟩; rfl) | (refine ⟨?_, way_grow.refl _⟩; rfl)
        try simp only [Act.put, List.setIfInBounds_toArray, List.set_cons_zero, List.set_cons_succ, List.getElem_toArray, List.getElem_cons_zero, List.getElem_cons_succ]
        refine Lex.want (v := ?_) (by rfl) (fun W hW => ?hd7) ?_
        case hd7 =>
          have hh := HF.out W hW
          clear hW
          go_split_ands
          go_simp
          first | rfl | exact way_new.refl _ | exact way_grow.refl _ | (refine ⟨?_, way_new.refl _⟩; rfl) | (refine ⟨?_, way_grow.refl _⟩; rfl)
        try simp only [Act.put, List.setIfInBounds_toArray, List.set_cons_zero, List.set_cons_succ, List.getElem_toArray, List.getElem_cons_zero, List.getElem_cons_succ]
        refine Lex.want (v := ?_) (by rfl) (fun W hW => ?hd8) ?_
        case hd8 =>
          have hcc := hide (show Calls _ _ _ W _ from hW ▸ HH1.out)
          go_simp
          exact hcc
        try simp only [Act.put, List.setIfInBounds_toArray, List.set_cons_zero, List.set_cons_succ, List.getElem_toArray, List.getElem_cons_zero, List.getElem_cons_succ]
        refine Lex.want (v := ?_) (by rfl) (fun W hW => ?hd9) ?_
        case hd9 =>
          have hh := HF.out W hW
          clear hW
          go_split_ands
          go_simp
          first | rfl | exact way_new.refl _ | exact way_grow.refl _ | (refine ⟨?_, way_new.refl _⟩; rfl) | (refine ⟨?_, way_grow.refl _⟩; rfl)
        try simp only [Act.put, List.setIfInBounds_toArray, List.set_cons_zero, List.set_cons_succ, List.getElem_toArray, List.getElem_cons_zero, List.getElem_cons_succ]
        refine Lex.want (v := ?_) (by rfl) (fun W hW => ?hd10) ?_
        case hd10 =>
          have hh := HF.out W hW
          clear hW
          go_split_ands
          go_simp
          first | rfl | exact way_new.refl _ | exact way_grow.refl _ | (refine ⟨?_, way_new.refl _⟩; rfl) | (refine ⟨?_, way_grow.refl _⟩; rfl)
        try simp only [Act.put, List.setIfInBounds_toArray, List.set_cons_zero, List.set_cons_succ, List.getElem_toArray, List.getElem_cons_zero, List.getElem_cons_succ]
        refine Lex.nil (hKT.out _ ?_)
        clear hKT KT
        refine Reg.done (by kernel_rfl) (fun W hW hWT => ⟨by kernel_rfl, ?_⟩)
        simp only [List.drop_succ_cons, List.drop_zero]
        subst hW
        clear hWT HF HH0 HH1
        have HBW : Hid (Below w.heap.size w w0.drew) := hide (HB0.out.drew)
        generalize hwd : w0.drew = w1 at *
        clear hwd
        obtain ⟨m, hm⟩ : ∃ m, xs0.length = m := ⟨_, rfl⟩
        rw [hm] at hre hlen HCON
        subst hre
        have hlk := HLK.out w1 rfl
        have HM := hide hm
        clear hm
        by_cases hin : fs ∈ xs0
        · rw [decide_eq_true hin] at HCON
          have HS := hide (HSAME.out hin)
          clear hin HPUT HSAME
          go_wp2_with (go_at_call 47; refine HCON.out.mono ?_; rintro e w5 ⟨rfl, rfl⟩)
          exact ⟨⟨k + 1, L, by omega, by go_num, HGW, hide (by rw [HS.out]; exact hL.out), HBW⟩, by simp [intOf]; omega⟩
        · rw [decide_eq_false hin] at HCON
          have HS := hide (HPUT.out hin)
          clear hin HPUT HSAME
          have hrow2 : w1.ownsRow w.heap.size 3 1 (.slice ra m rc) m (goInts xs0) := by
            have := HROW.out
            rwa [HM.out] at this
          go_wp2_with (first | (go_at_call 47; refine HCON.out.mono ?_; rintro e w5 ⟨rfl, rfl⟩) | (at_builtin; refine wpList_append_lies _ rfl (.tmp 38) (.tmp 40) _ rfl w.heap.size 3 i0 _ 1 8 Try.underlying31 hi hz0 hz1 hz2 rfl (by decide) _ m (goInts xs0) rfl (hrow2.alloc _) ⟨w1.heap.size, 0, none⟩ 1 1 [.int .i64 fs] rfl rfl (World.news_of_block (heap_alloc_new w1 _)) (goInts_one [fs]) (by decide) (by unfold maxLen; omega) (by omega) (by simp; omega) (w1.heap.size + 1) (by simp) ?_; intro g cap w2 hown2 hgrow2 hloc2 hlt2))
          have hf2 : Frm (fun j => (Value.slice ra m rc).ownBlock = some j) w1 w2 := ((Frm.refl _ _).alloc _).grown hgrow2 (fun j hj => .inl hj)
          have hnm : (Value.slice ra m rc).ownBlock ≠ some w.heap.size := row_not hrow2 HGW.out.1.notCells
          have hob : objAt w2 w.heap.size = objAt w1 w.heap.size := hf2.block _ hmb hnm
          obtain ⟨hu1, hu2, hu3, hu4⟩ := HGW.out.1.update_all (P := Try.prog) intT Try.underlying90 fd (.slice (some ⟨g, 0, none⟩) (m + 1) cap, xs0 ++ [fs]) w2 hob
          have hnew := HGW.out.put (k := fd) (v := .slice (some ⟨g, 0, none⟩) (m + 1) cap) (xs := xs0 ++ [fs]) (by rw [hrows]; exact hf2) (by simpa [goInts, HM.out] using hown2) (by
            rw [hrows]
            rcases hloc2 with e | e
            · exact .inl e.symm
            · exact .inr ⟨g, rfl, by omega⟩) hu2 hu3
          have hu1' : (Instr.mapUpdate 90 (.map (some w.heap.size)) (.int .i64 fd) (.slice (some ⟨g, 0, none⟩) (m + 1) cap)).run Try.prog w2 = _ := hu1
          have hs := HS.out (.slice (some ⟨g, 0, none⟩) (m + 1) cap)
          have HST := hide (And.intro hnew hs)
          have HBN := hide (HBW.out.trans (((hf2.mono (S' := fun j => (Value.slice ra m rc).ownBlock = some j ∨ j = w.heap.size) (fun j hj => .inl (.inl hj))).trans hu3 (fun j hj => .inl (.inr hj))).below HBW.out.size fun j hj => by
            rcases hj with hj | hj
            · exact (hrow2.lt j hj).1
            · omega))
          clear hu2 hu3 hu4 hnew hs hu1 hob hnm hf2 hown2 hgrow2 hloc2 HS hlt2
          generalize ranTo _ = w3 at *
          go_wp2_with fail
          simp only [hu1']
          go_wp2_with fail
          exact ⟨⟨k + 1, _, by omega, by go_num, hide HST.out.1, hide HST.out.2, HBN⟩, by simp [intOf]; omega⟩
      · have hk2' : (xk != 2) = true := by simpa using hk2
        have HS : Hid (aheadOf c (l.take (k + 1)) = aheadOf c (l.take k)) := hide (by rw [htk]; exact ahead_same (.inl hk2))
        have HGN : Hid (GrpsAt ekint 3 w.heap.size (wr.alloc (.cells #[.int .i64 xk, .int .i64 xs, .int .i64 xd] 30)) w.heap.size L) := hide (hg.out.below ((Below.refl _ _).alloc (Nat.le_refl _) _))
        have HBN : Hid (Below w.heap.size w (wr.alloc (.cells #[.int .i64 xk, .int .i64 xs, .int .i64 xd] 30))) := hide (hb.out.alloc hb.out.size _)
        clear hk2 htk hx
        go_wp2_with fail
        exact ⟨⟨k + 1, L, by omega, by go_num, HGN, hide (by rw [HS.out]; exact hL.out), HBN⟩, by simp [intOf]; omega⟩
    · have hkn : k = n := by omega
      subst hkn
      have HE : Hid (AheadAt wr w.heap.size w.heap.size c l) := hide ⟨L, hg.out, by rw [hL.out, List.take_of_length_le (by omega)]⟩
      go_wp2_with fail
      go_ret
      exact ⟨_, rfl, HE.out, Nat.le_refl _, hb.out⟩
end Go.Proofs.Ytpkhmhfgnpnpfaa
