/- The laws of chapter 18: what a law made: graphs; SameInts, SameLinks. -/
import Derived.Test.YtpkhmhfgnpnpfaaGra11
namespace Go.Proofs.Ytpkhmhfgnpnpfaa
set_option linter.unusedSimpArgs false
set_option linter.unusedVariables false
open Go.RowKit
attribute [local go_sem] objAt_alloc objAt_alloc_at objAt_drew objAt_drewN objAt_setCell comesTo_value comesTo_enter

/-- W has come out of w0, and its new graph g holds G. -/
def Gras (w0 : World) (g : Nat) (G : Gra) (W : World) : Prop := ∃ F, GraAt W g F G ∧ (∀ j, F j → w0.heap.size ≤ j) ∧ Below w0.heap.size w0 W
section
variable {w0 W W' : World} {g : Nat} {G : Gra}
theorem Gras.below (h : Gras w0 g G W) : Below w0.heap.size w0 W := h.choose_spec.2.2
theorem Gras.step (h : Gras w0 g G W) (hb : Below W.heap.size W W') : Gras w0 g G W' := by
  obtain ⟨F, h1, h2, h3⟩ := h
  exact ⟨F, h1.below hb, h2, h3.trans (hb.mono h3.size)⟩
theorem Gras.ok (h : Gras w0 g G W) : OkG G := by obtain ⟨F, h1, _⟩ := h; exact h1.ok
theorem Gras.turn {G' : Gra} (h : ∀ F, GraAt W g F G → GraPost W g F G' W') (hg : Gras w0 g G W) : Gras w0 g G' W' := by
  obtain ⟨F, h1, h2, h3⟩ := hg
  obtain ⟨F', q1, q2, q3⟩ := h F h1
  refine ⟨F', q1, fun j hj => ?_, h3.trans (q2.below h3.size h2)⟩
  rcases q3 j hj with e | e
  · exact h2 j e
  · have := h3.size; omega
theorem gr_new (n : Nat) (hn : n ≤ 1000) (W : World) (h0 : Below w0.heap.size w0 W) : Calls Try.prog 13 #[.int .i64 n] W fun e w' => ∃ g, e = .returned (.tuple #[.pointer (some ⟨g, 0, none⟩), .int .i64 0]) ∧ Gras w0 g ⟨freshC n, []⟩ w' :=
  (gnew_calls n hn W).mono fun e w' ⟨g, F, h1, h2, h3, h4⟩ => ⟨g, h1, F, h2, fun j hj => Nat.le_trans h0.size (h3 j hj), h0.trans (h4.mono h0.size)⟩
theorem gr_add {a : Option Addr} {n c : Nat} {l : List PLink} (h : Gras w0 g G W) (hb : Below W.heap.size W W') (hl : LinksArg W' a n c l) (hc : ∀ x, a = some x → x.block < w0.heap.size ∨ W.heap.size ≤ x.block) :
    Calls Try.prog 14 #[.pointer (some ⟨g, 0, none⟩), .slice a n c] W' fun e w' => e = .returned (.int .i64 (tryG G l)) ∧ Gras w0 g (addG G l) w' := by
  obtain ⟨F, h1, h2, h3⟩ := h
  have hF := h1.lt
  refine (add_calls (h1.below hb) hl (.inl fun x hx hj => ?_)).mono fun e w' ⟨q1, q2⟩ => ⟨q1, ?_⟩
  · have := hF _ hj
    have := h2 _ hj
    rcases hc x hx with e | e <;> omega
  · obtain ⟨F', q3, q4, q5⟩ := q2
    have hb' : Below w0.heap.size w0 W' := h3.trans (hb.mono h3.size)
    refine ⟨F', q3, fun j hj => ?_, hb'.trans (q4.below hb'.size h2)⟩
    rcases q5 j hj with e | e
    · exact h2 j e
    · have := hb'.size; omega
theorem gr_try {a : Option Addr} {n c : Nat} {l : List PLink} (h : Gras w0 g G W) (hl : LinksArg W a n c l) :
    Calls Try.prog 22 #[.pointer (some ⟨g, 0, none⟩), .slice a n c] W fun e w' => e = .returned (.int .i64 (tryG G l)) ∧ Below W.heap.size W w' := by
  obtain ⟨F, h1, _⟩ := h
  exact try_calls g F G a n c l W h1 hl
theorem gr_links (h : Gras w0 g G W) : Calls Try.prog 20 #[.pointer (some ⟨g, 0, none⟩)] W fun e w' => ∃ a c, e = .returned (.slice a G.ls.length c) ∧ LinksArg w' a G.ls.length c G.ls ∧ Below W.heap.size W w' := by
  obtain ⟨F, h1, _⟩ := h
  refine (links_calls h1).mono fun e w' ⟨v, q1, q2, q3⟩ => ?_
  obtain ⟨a, c, rfl, r1, _, r3⟩ := row_links q2
  exact ⟨a, c, q1, ⟨rfl, by have := h1.ok.few; omega, r3, r1⟩, q3⟩
/-- A slice of slices of numbers. -/
def RowsIn (w : World) (a : Option Addr) (L : List (List Int)) : Prop := ∀ k l, L[k]? = some l → ∃ r off ra rc, a = some ⟨r, off, none⟩ ∧ r < w.heap.size ∧ w.cell? ⟨r, off + k, none⟩ = some (.slice ra l.length rc) ∧ IntsIn w ra l
theorem RowsIn.below {a : Option Addr} {L : List (List Int)} (h : RowsIn W a L) (hb : Below W.heap.size W W') : RowsIn W' a L := fun k l hk => by
  obtain ⟨r, off, ra, rc, rfl, h2, h3, h4⟩ := h k l hk
  exact ⟨r, off, ra, rc, rfl, Nat.lt_of_lt_of_le h2 hb.size, (hb.cell (p := ⟨r, off + k, none⟩) h2).trans h3, h4.below hb⟩
theorem rowsAt_in {B : Nat} {v : Value} {L : List (List Int)} (h : RowsAt W B v L) : ∃ a c, v = .slice a L.length c ∧ RowsIn W a L := by
  obtain ⟨a, c, rfl, h1⟩ := rowsAt_get h
  refine ⟨a, c, rfl, fun k l hk => ?_⟩
  obtain ⟨r, ra, rc, rfl, h2, h3, h4, _⟩ := h1 k l hk
  exact ⟨r, 0, ra, rc, rfl, h2, by rw [Nat.zero_add]; exact h3, h4⟩
theorem gr_order (h : Gras w0 g G W) : Calls Try.prog 19 #[.pointer (some ⟨g, 0, none⟩)] W fun e w' => ∃ a c, e = .returned (.slice a (orderG G).length c) ∧ RowsIn w' a (orderG G) ∧ Below W.heap.size W w' := by
  obtain ⟨F, h1, _⟩ := h
  refine (gorder_calls h1).mono fun e w' ⟨v, q1, q2, q3⟩ => ?_
  obtain ⟨a, c, rfl, r1⟩ := rowsAt_in q2
  exact ⟨a, c, q1, r1, q3⟩
theorem ints_in {e : Ending} {w' : World} {l : List Int} (h : IntsPost W l e w') : ∃ a c, e = .returned (.slice a l.length c) ∧ IntsIn w' a l ∧ Below W.heap.size W w' := by
  obtain ⟨v, h1, h2, h3⟩ := h
  obtain ⟨a, c, rfl, r1, _⟩ := row_ints h2
  exact ⟨a, c, h1, r1, h3⟩
theorem gr_ahead (i : Int) (h : Gras w0 g G W) : Calls Try.prog 15 #[.pointer (some ⟨g, 0, none⟩), .int .i64 i] W fun e w' => ∃ a c, e = .returned (.slice a (nearC G.c G.ls true i).length c) ∧ IntsIn w' a (nearC G.c G.ls true i) ∧ Below W.heap.size W w' := by
  obtain ⟨F, h1, _⟩ := h
  exact (ahead_calls i h1).mono fun e w' => ints_in
theorem gr_behind (i : Int) (h : Gras w0 g G W) : Calls Try.prog 16 #[.pointer (some ⟨g, 0, none⟩), .int .i64 i] W fun e w' => ∃ a c, e = .returned (.slice a (nearC G.c G.ls false i).length c) ∧ IntsIn w' a (nearC G.c G.ls false i) ∧ Below W.heap.size W w' := by
  obtain ⟨F, h1, _⟩ := h
  exact (behind_calls i h1).mono fun e w' => ints_in
/-- The graph's pointer to its Uf, and what is asked of that. -/
theorem gr_uf (h : Gras w0 g G W) : ∃ u, g < W.heap.size ∧ W.cell? ⟨g, 0, none⟩ = some (.pointer (some ⟨u, 0, none⟩)) ∧ ∃ Fu, UfAt W u Fu G.c := by
  obtain ⟨F, ⟨u, lv, Fu, h1, _⟩, _⟩ := h
  exact ⟨u, h1.lt, by simp [World.cell?, h1.cell], Fu, h1.uf⟩
end

set_option maxHeartbeats 1000000 in
set_option maxRecDepth 100000 in
theorem same_ints (a b : Option Addr) (n m ca cb : Nat) (l r : List Int) (w : World) (hn : l.length = n) (hm : r.length = m) (hf : n ≤ 1099511627776) (ha : IntsIn w a l) (hb : IntsIn w b r) :
    Calls Try.prog 21 #[.slice a n ca, .slice b m cb] w fun e w' => e = .returned (.bool (decide (l = r))) ∧ Below w.heap.size w w' := by
  have HA := hide ha
  have HB := hide hb
  clear ha hb
  by_cases hnm : n = m
  · subst hnm
    obtain ⟨bq, hbq⟩ : ∃ b, decide (l = r) = b := ⟨_, rfl⟩
    have HQ := hide hbq
    rw [hbq]
    clear hbq
    go_enter Try.func21, Try.ntmps21
    go_wp2_with fail
    go_loopw [5] (fun i wr => ∃ k : Nat, k ≤ n ∧ i = .int .i64 k ∧ Hid (l.take k = r.take k) ∧ Hid (Below w.heap.size w wr)) (fun i _ => n - (intOf i).toNat)
    case atStart => exact ⟨0, by omega, rfl, hide rfl, hide (Below.refl _ _)⟩
    case round =>
      obtain ⟨k, hk, rfl, he, hbw⟩ := hrel
      by_cases hlt : k < n
      · obtain ⟨x, hx⟩ : ∃ x, l[k]? = some x := ⟨l[k]'(by omega), List.getElem?_eq_getElem (by omega)⟩
        obtain ⟨y, hy⟩ : ∃ y, r[k]? = some y := ⟨r[k]'(by omega), List.getElem?_eq_getElem (by omega)⟩
        obtain ⟨b1, o1, rfl, hl1, g1⟩ := (HA.out.below hbw.out) k x hx
        obtain ⟨b2, o2, rfl, hl2, g2⟩ := (HB.out.below hbw.out) k y hy
        have HF : Hid (∀ W, wr.drew = W → W.cell? ⟨b1, o1 + k, none⟩ = some (.int .i64 x) ∧ W.cell? ⟨b2, o2 + k, none⟩ = some (.int .i64 y)) := hide fun W hW => hW ▸ ⟨g1, g2⟩
        have HNE : Hid (x ≠ y → bq = false) := hide fun hne => by
          rw [← HQ.out]
          exact decide_eq_false fun h => by rw [h, hy] at hx; cases hx; exact hne rfl
        have HNX : Hid (x = y → l.take (k + 1) = r.take (k + 1)) := hide fun h => by rw [take_snoc hx, take_snoc hy, he.out, h]
        have hbq : (x == y) = decide (x = y) := rfl
        clear hx hy g1 g2
        by_cases hxy : x = y
        · subst hxy
          go_wp2_with fail
          refine region_by (fun a b => a = b) way_eq 10 10 (fun W => wr.drew = W) (by kernel_rfl) (by kernel_rfl) (fun _ _ d _ _ h => by cases d <;> exact h) (fun x y h hx => h ▸ hx) rfl (fun KT hKT => ?_)
          simp only [List.take_succ_cons, List.take_zero]
          refine Lex.want (v := ?_) (by rfl) (fun W hW => ?hd1) ?_
          case hd1 =>
            have hh := HF.out W hW
            clear hW
            go_split_ands
            go_simp
            first | rfl | exact way_new.refl _ | exact way_grow.refl _ | (refine ⟨?_, way_new.refl _⟩; rfl) | (refine ⟨?_, way_grow.refl _⟩; rfl)
          try simp only [Act.put, List.setIfInBounds_toArray, List.set_cons_zero, List.set_cons_succ, List.getElem_toArray, List.getElem_cons_zero, List.getElem_cons_succ]
          refine Lex.want (v := ?_) (by rfl) (fun W hW => ?hd2) ?_
          case hd2 =>
            have hh := HF.out W hW
            clear hW
            go_split_ands
            go_simp
            first | rfl | exact way_new.refl _ | exact way_grow.refl _ | (refine ⟨?_, way_new.refl _⟩; rfl) | (refine ⟨?_, way_grow.refl _⟩; rfl)
          try simp only [Act.put, List.setIfInBounds_toArray, List.set_cons_zero, List.set_cons_succ, List.getElem_toArray, List.getElem_cons_zero, List.getElem_cons_succ]
          refine Lex.want (v := ?_) (by rfl) (fun W hW => ?hd3) ?_
          case hd3 =>
            have hh := HF.out W hW
            clear hW
            go_split_ands
            go_simp
            first | rfl | exact way_new.refl _ | exact way_grow.refl _ | (refine ⟨?_, way_new.refl _⟩; rfl) | (refine ⟨?_, way_grow.refl _⟩; rfl)
          try simp only [Act.put, List.setIfInBounds_toArray, List.set_cons_zero, List.set_cons_succ, List.getElem_toArray, List.getElem_cons_zero, List.getElem_cons_succ]
          refine Lex.want (v := ?_) (by rfl) (fun W hW => ?hd4) ?_
          case hd4 =>
            have hh := HF.out W hW
            clear hW
            go_split_ands
            go_simp
            first | rfl | exact way_new.refl _ | exact way_grow.refl _ | (refine ⟨?_, way_new.refl _⟩; rfl) | (refine ⟨?_, way_grow.refl _⟩; rfl)
          try simp only [Act.put, List.setIfInBounds_toArray, List.set_cons_zero, List.set_cons_succ, List.getElem_toArray, List.getElem_cons_zero, List.getElem_cons_succ]
          refine Lex.want (v := ?_) (by rfl) (fun W hW => ?hd5) ?_
          case hd5 =>
            have hh := HF.out W hW
            clear hW
            go_split_ands
            go_simp
            first | rfl | exact way_new.refl _ | exact way_grow.refl _ | (refine ⟨?_, way_new.refl _⟩; rfl) | (refine ⟨?_, way_grow.refl _⟩; rfl)
          try simp only [Act.put, List.setIfInBounds_toArray, List.set_cons_zero, List.set_cons_succ, List.getElem_toArray, List.getElem_cons_zero, List.getElem_cons_succ]
          refine Lex.want (v := ?_) (by rfl) (fun W hW => ?hd6) ?_
          case hd6 =>
            have hh := HF.out W hW
            clear hW
            go_split_ands
            go_simp
            first | rfl | exact way_new.refl _ | exact way_grow.refl _ | (refine ⟨?_, way_new.refl _⟩; rfl) | (refine ⟨?_, way_grow.refl _⟩; rfl)
          try simp only [Act.put, List.setIfInBounds_toArray, List.set_cons_zero, List.set_cons_succ, List.getElem_toArray, List.getElem_cons_zero, List.getElem_cons_succ]
          refine Lex.want (v := ?_) (by rfl) (fun W hW => ?hd7) ?_
          case hd7 =>
            have hh := HF.out W hW
            clear hW
            go_split_ands
            go_simp
            first | rfl | exact way_new.refl _ | exact way_grow.refl _ | (refine ⟨?_, way_new.refl _⟩; rfl) | (refine ⟨?_, way_grow.refl _⟩; rfl)
          try simp only [Act.put, List.setIfInBounds_toArray, List.set_cons_zero, List.set_cons_succ, List.getElem_toArray, List.getElem_cons_zero, List.getElem_cons_succ]
          refine Lex.want (v := ?_) (by rfl) (fun W hW => ?hd8) ?_
          case hd8 =>
            have hh := HF.out W hW
            clear hW
            go_split_ands
            go_simp
            first | rfl | exact way_new.refl _ | exact way_grow.refl _ | (refine ⟨?_, way_new.refl _⟩; rfl) | (refine ⟨?_, way_grow.refl _⟩; rfl)
          try simp only [Act.put, List.setIfInBounds_toArray, List.set_cons_zero, List.set_cons_succ, List.getElem_toArray, List.getElem_cons_zero, List.getElem_cons_succ]
          refine Lex.want (v := ?_) (by rfl) (fun W hW => ?hd9) ?_
          case hd9 =>
            have hh := HF.out W hW
            clear hW
            go_split_ands
            go_simp
            first | rfl | exact way_new.refl _ | exact way_grow.refl _ | (refine ⟨?_, way_new.refl _⟩; rfl) | (refine ⟨?_, way_grow.refl _⟩; rfl)
          try simp only [Act.put, List.setIfInBounds_toArray, List.set_cons_zero, List.set_cons_succ, List.getElem_toArray, List.getElem_cons_zero, List.getElem_cons_succ]
          refine Lex.want (v := ?_) (by rfl) (fun W hW => ?hd10) ?_
          case hd10 =>
            have hh := HF.out W hW
            clear hW
            go_split_ands
            go_simp
            first | rfl | exact way_new.refl _ | exact way_grow.refl _ | (refine ⟨?_, way_new.refl _⟩; rfl) | (refine ⟨?_, way_grow.refl _⟩; rfl)
          try simp only [Act.put, List.setIfInBounds_toArray, List.set_cons_zero, List.set_cons_succ, List.getElem_toArray, List.getElem_cons_zero, List.getElem_cons_succ]
          refine Lex.nil (hKT.out _ ?_)
          clear hKT KT
          refine Reg.done (by kernel_rfl) (fun W hW hWT => ⟨by kernel_rfl, ?_⟩)
          simp only [List.drop_succ_cons, List.drop_zero]
          subst hW
          clear hWT HF hbq
          have HB9 := hide (Below.drew hbw.out)
          go_wp2_with fail
          exact ⟨⟨k + 1, by omega, by go_num, by first | exact hide (HNX.out rfl) | exact hide (HNX.out trivial), HB9⟩, by simp [intOf]; omega⟩
        · have e1 : (x == y) = false := by simpa using hxy
          have HE := hide (HNE.out hxy)
          clear hbq hxy
          go_wp2_with fail
          refine region_by (fun a b => a = b) way_eq 10 10 (fun W => wr.drew = W) (by kernel_rfl) (by kernel_rfl) (fun _ _ d _ _ h => by cases d <;> exact h) (fun x y h hx => h ▸ hx) rfl (fun KT hKT => ?_)
          simp only [List.take_succ_cons, List.take_zero]
          refine Lex.want (v := ?_) (by rfl) (fun W hW => ?hd11) ?_
          case hd11 =>
            have hh := HF.out W hW
            clear hW
            go_split_ands
            go_simp
            first | rfl | exact way_new.refl _ | exact way_grow.refl _ | (refine ⟨?_, way_new.refl _⟩; rfl) | (refine ⟨?_, way_grow.refl _⟩; rfl)
          try simp only [Act.put, List.setIfInBounds_toArray, List.set_cons_zero, List.set_cons_succ, List.getElem_toArray, List.getElem_cons_zero, List.getElem_cons_succ]
          refine Lex.want (v := ?_) (by rfl) (fun W hW => ?hd12) ?_
          case hd12 =>
            have hh := HF.out W hW
            clear hW
            go_split_ands
            go_simp
            first | rfl | exact way_new.refl _ | exact way_grow.refl _ | (refine ⟨?_, way_new.refl _⟩; rfl) | (refine ⟨?_, way_grow.refl _⟩; rfl)
          try simp only [Act.put, List.setIfInBounds_toArray, List.set_cons_zero, List.set_cons_succ, List.getElem_toArray, List.getElem_cons_zero, List.getElem_cons_succ]
          refine Lex.want (v := ?_) (by rfl) (fun W hW => ?hd13) ?_
          case hd13 =>
            have hh := HF.out W hW
            clear hW
            go_split_ands
            go_simp
            first | rfl | exact way_new.refl _ | exact way_grow.refl _ | (refine ⟨?_, way_new.refl _⟩; rfl) | (refine ⟨?_, way_grow.refl _⟩; rfl)
          try simp only [Act.put, List.setIfInBounds_toArray, List.set_cons_zero, List.set_cons_succ, List.getElem_toArray, List.getElem_cons_zero, List.getElem_cons_succ]
          refine Lex.want (v := ?_) (by rfl) (fun W hW => ?hd14) ?_
          case hd14 =>
            have hh := HF.out W hW
            clear hW
            go_split_ands
            go_simp
            first | rfl | exact way_new.refl _ | exact way_grow.refl _ | (refine ⟨?_, way_new.refl _⟩; rfl) | (refine ⟨?_, way_grow.refl _⟩; rfl)
          try simp only [Act.put, List.setIfInBounds_toArray, List.set_cons_zero, List.set_cons_succ, List.getElem_toArray, List.getElem_cons_zero, List.getElem_cons_succ]
          refine Lex.want (v := ?_) (by rfl) (fun W hW => ?hd15) ?_
          case hd15 =>
            have hh := HF.out W hW
            clear hW
            go_split_ands
            go_simp
            first | rfl | exact way_new.refl _ | exact way_grow.refl _ | (refine ⟨?_, way_new.refl _⟩; rfl) | (refine ⟨?_, way_grow.refl _⟩; rfl)
          try simp only [Act.put, List.setIfInBounds_toArray, List.set_cons_zero, List.set_cons_succ, List.getElem_toArray, List.getElem_cons_zero, List.getElem_cons_succ]
          refine Lex.want (v := ?_) (by rfl) (fun W hW => ?hd16) ?_
          case hd16 =>
            have hh := HF.out W hW
            clear hW
            go_split_ands
            go_simp
            first | rfl | exact way_new.refl _ | exact way_grow.refl _ | (refine ⟨?_, way_new.refl _⟩; rfl) | (refine ⟨?_, way_grow.refl _⟩; rfl)
          try simp only [Act.put, List.setIfInBounds_toArray, List.set_cons_zero, List.set_cons_succ, List.getElem_toArray, List.getElem_cons_zero, List.getElem_cons_succ]
          refine Lex.want (v := ?_) (by rfl) (fun W hW => ?hd17) ?_
          case hd17 =>
            have hh := HF.out W hW
            clear hW
            go_split_ands
            go_simp
            first | rfl | exact way_new.refl _ | exact way_grow.refl _ | (refine ⟨?_, way_new.refl _⟩; rfl) | (refine ⟨?_, way_grow.refl _⟩; rfl)
          try simp only [Act.put, List.setIfInBounds_toArray, List.set_cons_zero, List.set_cons_succ, List.getElem_toArray, List.getElem_cons_zero, List.getElem_cons_succ]
          refine Lex.want (v := ?_) (by rfl) (fun W hW => ?hd18) ?_
          case hd18 =>
            have hh := HF.out W hW
            clear hW
            go_split_ands
            go_simp
            first | rfl | exact way_new.refl _ | exact way_grow.refl _ | (refine ⟨?_, way_new.refl _⟩; rfl) | (refine ⟨?_, way_grow.refl _⟩; rfl)
          try simp only [Act.put, List.setIfInBounds_toArray, List.set_cons_zero, List.set_cons_succ, List.getElem_toArray, List.getElem_cons_zero, List.getElem_cons_succ]
          refine Lex.want (v := ?_) (by rfl) (fun W hW => ?hd19) ?_
          case hd19 =>
            have hh := HF.out W hW
            clear hW
            go_split_ands
            go_simp
            first | rfl | exact way_new.refl _ | exact way_grow.refl _ | (refine ⟨?_, way_new.refl _⟩; rfl) | (refine ⟨?_, way_grow.refl _⟩; rfl)
          try simp only [Act.put, List.setIfInBounds_toArray, List.set_cons_zero, List.set_cons_succ, List.getElem_toArray, List.getElem_cons_zero, List.getElem_cons_succ]
          refine Lex.want (v := ?_) (by rfl) (fun W hW => ?hd20) ?_
          case hd20 =>
            have hh := HF.out W hW
            clear hW
            go_split_ands
            go_simp
            first | rfl | exact way_new.refl _ | exact way_grow.refl _ | (refine ⟨?_, way_new.refl _⟩; rfl) | (refine ⟨?_, way_grow.refl _⟩; rfl)
          try simp only [Act.put, List.setIfInBounds_toArray, List.set_cons_zero, List.set_cons_succ, List.getElem_toArray, List.getElem_cons_zero, List.getElem_cons_succ]
          refine Lex.nil (hKT.out _ ?_)
          clear hKT KT
          refine Reg.done (by kernel_rfl) (fun W hW hWT => ⟨by kernel_rfl, ?_⟩)
          simp only [List.drop_succ_cons, List.drop_zero]
          subst hW
          clear hWT HF
          go_wp2_with fail
          go_ret
          exact ⟨by rw [HE.out]; rfl, Below.drew hbw.out⟩
      · have hkn : k = n := by omega
        subst hkn
        have HE : Hid (bq = true) := hide (by
          rw [← HQ.out]
          refine decide_eq_true ?_
          have := he.out
          rwa [List.take_of_length_le (by omega), List.take_of_length_le (by omega)] at this)
        go_wp2_with fail
        go_ret
        exact ⟨by rw [HE.out]; rfl, hbw.out⟩
  · have e1 : decide (l = r) = false := decide_eq_false fun h => hnm (by rw [← hn, ← hm, h])
    rw [e1]
    have e2 : ((n : Int) != (m : Int)) = true := by simp; omega
    go_enter Try.func21, Try.ntmps21
    go_wp2_with fail
    go_ret
    exact ⟨rfl, Below.refl _ _⟩
set_option maxHeartbeats 1000000 in
set_option maxRecDepth 100000 in
theorem same_links (a b : Option Addr) (n m ca cb : Nat) (l r : List PLink) (w : World) (hn : l.length = n) (hm : r.length = m) (hf : n ≤ 1099511627776) (ha : LinksIn w a l) (hb : LinksIn w b r) :
    Calls Try.prog 23 #[.slice a n ca, .slice b m cb] w fun e w' => e = .returned (.bool (decide (l = r))) ∧ Below w.heap.size w w' := by
  have HA := hide ha
  have HB := hide hb
  clear ha hb
  by_cases hnm : n = m
  · subst hnm
    obtain ⟨bq, hbq⟩ : ∃ b, decide (l = r) = b := ⟨_, rfl⟩
    have HQ := hide hbq
    rw [hbq]
    clear hbq
    go_enter Try.func23, Try.ntmps23
    go_wp2_with fail
    go_loopw [5] (fun i wr => ∃ k : Nat, k ≤ n ∧ i = .int .i64 k ∧ Hid (l.take k = r.take k) ∧ Hid (Below w.heap.size w wr)) (fun i _ => n - (intOf i).toNat)
    case atStart => exact ⟨0, by omega, rfl, hide rfl, hide (Below.refl _ _)⟩
    case round =>
      obtain ⟨k, hk, rfl, he, hbw⟩ := hrel
      by_cases hlt : k < n
      · obtain ⟨x, hx⟩ : ∃ x, l[k]? = some x := ⟨l[k]'(by omega), List.getElem?_eq_getElem (by omega)⟩
        obtain ⟨y, hy⟩ : ∃ y, r[k]? = some y := ⟨r[k]'(by omega), List.getElem?_eq_getElem (by omega)⟩
        obtain ⟨b1, o1, rfl, hl1, g1, g11, g12⟩ := (HA.out.below hbw.out) k x hx
        obtain ⟨b2, o2, rfl, hl2, g2, g21, g22⟩ := (HB.out.below hbw.out) k y hy
        have HF : Hid (∀ W, wr.drew = W → W.cell? ⟨b1, o1 + k * 3, none⟩ = some (.int .i64 x.kind) ∧ W.cell? ⟨b1, o1 + k * 3 + 1, none⟩ = some (.int .i64 x.src) ∧ W.cell? ⟨b1, o1 + k * 3 + 2, none⟩ = some (.int .i64 x.dst) ∧
            W.cell? ⟨b2, o2 + k * 3, none⟩ = some (.int .i64 y.kind) ∧ W.cell? ⟨b2, o2 + k * 3 + 1, none⟩ = some (.int .i64 y.src) ∧ W.cell? ⟨b2, o2 + k * 3 + 2, none⟩ = some (.int .i64 y.dst)) := hide fun W hW => hW ▸ ⟨g1, g11, g12, g2, g21, g22⟩
        have HNE : Hid (x ≠ y → bq = false) := hide fun hne => by
          rw [← HQ.out]
          exact decide_eq_false fun h => by rw [h, hy] at hx; cases hx; exact hne rfl
        have HNX : Hid (x = y → l.take (k + 1) = r.take (k + 1)) := hide fun h => by rw [take_snoc hx, take_snoc hy, he.out, h]
        obtain ⟨x1, x2, x3⟩ := x
        obtain ⟨y1, y2, y3⟩ := y
        simp only at HF
        clear hx hy g1 g2 g11 g12 g21 g22
        by_cases hxy : (⟨x1, x2, x3⟩ : PLink) = ⟨y1, y2, y3⟩
        · cases hxy
          go_wp2_with fail
          refine region_by (fun a b => a = b) way_eq 10 10 (fun W => wr.drew = W) (by kernel_rfl) (by kernel_rfl) (fun _ _ d _ _ h => by cases d <;> exact h) (fun x y h hx => h ▸ hx) rfl (fun KT hKT => ?_)
          simp only [List.take_succ_cons, List.take_zero]
          refine Lex.want (v := ?_) (by rfl) (fun W hW => ?hd21) ?_
          case hd21 =>
            have hh := HF.out W hW
            clear hW
            go_split_ands
            go_simp
            first | rfl | exact way_new.refl _ | exact way_grow.refl _ | (refine ⟨?_, way_new.refl _⟩; rfl) | (refine ⟨?_, way_grow.refl _⟩; rfl)
          try simp only [Act.put, List.setIfInBounds_toArray, List.set_cons_zero, List.set_cons_succ, List.getElem_toArray, List.getElem_cons_zero, List.getElem_cons_succ]
          refine Lex.want (v := ?_) (by rfl) (fun W hW => ?hd22) ?_
          case hd22 =>
            have hh := HF.out W hW
            clear hW
            go_split_ands
            go_simp
            first | rfl | exact way_new.refl _ | exact way_grow.refl _ | (refine ⟨?_, way_new.refl _⟩; rfl) | (refine ⟨?_, way_grow.refl _⟩; rfl)
          try simp only [Act.put, List.setIfInBounds_toArray, List.set_cons_zero, List.set_cons_succ, List.getElem_toArray, List.getElem_cons_zero, List.getElem_cons_succ]
          refine Lex.want (v := ?_) (by rfl) (fun W hW => ?hd23) ?_
          case hd23 =>
            have hh := HF.out W hW
            clear hW
            go_split_ands
            go_simp
            first | rfl | exact way_new.refl _ | exact way_grow.refl _ | (refine ⟨?_, way_new.refl _⟩; rfl) | (refine ⟨?_, way_grow.refl _⟩; rfl)
          try simp only [Act.put, List.setIfInBounds_toArray, List.set_cons_zero, List.set_cons_succ, List.getElem_toArray, List.getElem_cons_zero, List.getElem_cons_succ]
          refine Lex.want (v := ?_) (by rfl) (fun W hW => ?hd24) ?_
          case hd24 =>
            have hh := HF.out W hW
            clear hW
            go_split_ands
            go_simp
            first | rfl | exact way_new.refl _ | exact way_grow.refl _ | (refine ⟨?_, way_new.refl _⟩; rfl) | (refine ⟨?_, way_grow.refl _⟩; rfl)
          try simp only [Act.put, List.setIfInBounds_toArray, List.set_cons_zero, List.set_cons_succ, List.getElem_toArray, List.getElem_cons_zero, List.getElem_cons_succ]
          refine Lex.want (v := ?_) (by rfl) (fun W hW => ?hd25) ?_
          case hd25 =>
            have hh := HF.out W hW
            clear hW
            go_split_ands
            go_simp
            first | rfl | exact way_new.refl _ | exact way_grow.refl _ | (refine ⟨?_, way_new.refl _⟩; rfl) | (refine ⟨?_, way_grow.refl _⟩; rfl)
          try simp only [Act.put, List.setIfInBounds_toArray, List.set_cons_zero, List.set_cons_succ, List.getElem_toArray, List.getElem_cons_zero, List.getElem_cons_succ]
          refine Lex.want (v := ?_) (by rfl) (fun W hW => ?hd26) ?_
          case hd26 =>
            have hh := HF.out W hW
            clear hW
            go_split_ands
            go_simp
            first | rfl | exact way_new.refl _ | exact way_grow.refl _ | (refine ⟨?_, way_new.refl _⟩; rfl) | (refine ⟨?_, way_grow.refl _⟩; rfl)
          try simp only [Act.put, List.setIfInBounds_toArray, List.set_cons_zero, List.set_cons_succ, List.getElem_toArray, List.getElem_cons_zero, List.getElem_cons_succ]
          refine Lex.want (v := ?_) (by rfl) (fun W hW => ?hd27) ?_
          case hd27 =>
            have hh := HF.out W hW
            clear hW
            go_split_ands
            go_simp
            first | rfl | exact way_new.refl _ | exact way_grow.refl _ | (refine ⟨?_, way_new.refl _⟩; rfl) | (refine ⟨?_, way_grow.refl _⟩; rfl)
          try simp only [Act.put, List.setIfInBounds_toArray, List.set_cons_zero, List.set_cons_succ, List.getElem_toArray, List.getElem_cons_zero, List.getElem_cons_succ]
          refine Lex.want (v := ?_) (by rfl) (fun W hW => ?hd28) ?_
          case hd28 =>
            have hh := HF.out W hW
            clear hW
            go_split_ands
            go_simp
            first | rfl | exact way_new.refl _ | exact way_grow.refl _ | (refine ⟨?_, way_new.refl _⟩; rfl) | (refine ⟨?_, way_grow.refl _⟩; rfl)
          try simp only [Act.put, List.setIfInBounds_toArray, List.set_cons_zero, List.set_cons_succ, List.getElem_toArray, List.getElem_cons_zero, List.getElem_cons_succ]
          refine Lex.want (v := .bool true) (by rfl) (fun W hW => ?hdeq1) ?_
          case hdeq1 =>
            have hh := HF.out W hW
            clear hW
            go_split_ands
            go_simp
          try simp only [Act.put, List.setIfInBounds_toArray, List.set_cons_zero, List.set_cons_succ, List.getElem_toArray, List.getElem_cons_zero, List.getElem_cons_succ]
          refine Lex.want (v := ?_) (by rfl) (fun W hW => ?hd29) ?_
          case hd29 =>
            have hh := HF.out W hW
            clear hW
            go_split_ands
            go_simp
            first | rfl | exact way_new.refl _ | exact way_grow.refl _ | (refine ⟨?_, way_new.refl _⟩; rfl) | (refine ⟨?_, way_grow.refl _⟩; rfl)
          try simp only [Act.put, List.setIfInBounds_toArray, List.set_cons_zero, List.set_cons_succ, List.getElem_toArray, List.getElem_cons_zero, List.getElem_cons_succ]
          refine Lex.nil (hKT.out _ ?_)
          clear hKT KT
          refine Reg.done (by kernel_rfl) (fun W hW hWT => ⟨by kernel_rfl, ?_⟩)
          simp only [List.drop_succ_cons, List.drop_zero]
          subst hW
          clear hWT HF
          have HB9 := hide (Below.drew hbw.out)
          go_wp2_with fail
          exact ⟨⟨k + 1, by omega, by go_num, by first | exact hide (HNX.out rfl) | exact hide (HNX.out trivial), HB9⟩, by simp [intOf]; omega⟩
        · have HXY := hide hxy
          have HE := hide (HNE.out hxy)
          clear hxy
          go_wp2_with fail
          refine region_by (fun a b => a = b) way_eq 10 10 (fun W => wr.drew = W) (by kernel_rfl) (by kernel_rfl) (fun _ _ d _ _ h => by cases d <;> exact h) (fun x y h hx => h ▸ hx) rfl (fun KT hKT => ?_)
          simp only [List.take_succ_cons, List.take_zero]
          refine Lex.want (v := ?_) (by rfl) (fun W hW => ?hd30) ?_
          case hd30 =>
            have hh := HF.out W hW
            clear hW
            go_split_ands
            go_simp
            first | rfl | exact way_new.refl _ | exact way_grow.refl _ | (refine ⟨?_, way_new.refl _⟩; rfl) | (refine ⟨?_, way_grow.refl _⟩; rfl)
          try simp only [Act.put, List.setIfInBounds_toArray, List.set_cons_zero, List.set_cons_succ, List.getElem_toArray, List.getElem_cons_zero, List.getElem_cons_succ]
          refine Lex.want (v := ?_) (by rfl) (fun W hW => ?hd31) ?_
          case hd31 =>
            have hh := HF.out W hW
            clear hW
            go_split_ands
            go_simp
            first | rfl | exact way_new.refl _ | exact way_grow.refl _ | (refine ⟨?_, way_new.refl _⟩; rfl) | (refine ⟨?_, way_grow.refl _⟩; rfl)
          try simp only [Act.put, List.setIfInBounds_toArray, List.set_cons_zero, List.set_cons_succ, List.getElem_toArray, List.getElem_cons_zero, List.getElem_cons_succ]
          refine Lex.want (v := ?_) (by rfl) (fun W hW => ?hd32) ?_
          case hd32 =>
            have hh := HF.out W hW
            clear hW
            go_split_ands
            go_simp
            first | rfl | exact way_new.refl _ | exact way_grow.refl _ | (refine ⟨?_, way_new.refl _⟩; rfl) | (refine ⟨?_, way_grow.refl _⟩; rfl)
          try simp only [Act.put, List.setIfInBounds_toArray, List.set_cons_zero, List.set_cons_succ, List.getElem_toArray, List.getElem_cons_zero, List.getElem_cons_succ]
          refine Lex.want (v := ?_) (by rfl) (fun W hW => ?hd33) ?_
          case hd33 =>
            have hh := HF.out W hW
            clear hW
            go_split_ands
            go_simp
            first | rfl | exact way_new.refl _ | exact way_grow.refl _ | (refine ⟨?_, way_new.refl _⟩; rfl) | (refine ⟨?_, way_grow.refl _⟩; rfl)
          try simp only [Act.put, List.setIfInBounds_toArray, List.set_cons_zero, List.set_cons_succ, List.getElem_toArray, List.getElem_cons_zero, List.getElem_cons_succ]
          refine Lex.want (v := ?_) (by rfl) (fun W hW => ?hd34) ?_
          case hd34 =>
            have hh := HF.out W hW
            clear hW
            go_split_ands
            go_simp
            first | rfl | exact way_new.refl _ | exact way_grow.refl _ | (refine ⟨?_, way_new.refl _⟩; rfl) | (refine ⟨?_, way_grow.refl _⟩; rfl)
          try simp only [Act.put, List.setIfInBounds_toArray, List.set_cons_zero, List.set_cons_succ, List.getElem_toArray, List.getElem_cons_zero, List.getElem_cons_succ]
          refine Lex.want (v := ?_) (by rfl) (fun W hW => ?hd35) ?_
          case hd35 =>
            have hh := HF.out W hW
            clear hW
            go_split_ands
            go_simp
            first | rfl | exact way_new.refl _ | exact way_grow.refl _ | (refine ⟨?_, way_new.refl _⟩; rfl) | (refine ⟨?_, way_grow.refl _⟩; rfl)
          try simp only [Act.put, List.setIfInBounds_toArray, List.set_cons_zero, List.set_cons_succ, List.getElem_toArray, List.getElem_cons_zero, List.getElem_cons_succ]
          refine Lex.want (v := ?_) (by rfl) (fun W hW => ?hd36) ?_
          case hd36 =>
            have hh := HF.out W hW
            clear hW
            go_split_ands
            go_simp
            first | rfl | exact way_new.refl _ | exact way_grow.refl _ | (refine ⟨?_, way_new.refl _⟩; rfl) | (refine ⟨?_, way_grow.refl _⟩; rfl)
          try simp only [Act.put, List.setIfInBounds_toArray, List.set_cons_zero, List.set_cons_succ, List.getElem_toArray, List.getElem_cons_zero, List.getElem_cons_succ]
          refine Lex.want (v := ?_) (by rfl) (fun W hW => ?hd37) ?_
          case hd37 =>
            have hh := HF.out W hW
            clear hW
            go_split_ands
            go_simp
            first | rfl | exact way_new.refl _ | exact way_grow.refl _ | (refine ⟨?_, way_new.refl _⟩; rfl) | (refine ⟨?_, way_grow.refl _⟩; rfl)
          try simp only [Act.put, List.setIfInBounds_toArray, List.set_cons_zero, List.set_cons_succ, List.getElem_toArray, List.getElem_cons_zero, List.getElem_cons_succ]
          refine Lex.want (v := .bool false) (by rfl) (fun W hW => ?hdeq2) ?_
          case hdeq2 =>
            have hh := HF.out W hW
            have e1 := HXY.out
            clear hW
            go_split_ands
            go_simp
            by_cases q1 : x1 = y1
            · rw [if_pos q1]
              by_cases q2 : x2 = y2
              · rw [if_pos q2]
                by_cases q3 : x3 = y3
                · exact absurd (by rw [q1, q2, q3]) e1
                · rw [if_neg q3]; exact ⟨rfl, rfl⟩
              · rw [if_neg q2]; exact ⟨rfl, rfl⟩
            · rw [if_neg q1]; exact ⟨rfl, rfl⟩
          try simp only [Act.put, List.setIfInBounds_toArray, List.set_cons_zero, List.set_cons_succ, List.getElem_toArray, List.getElem_cons_zero, List.getElem_cons_succ]
          refine Lex.want (v := ?_) (by rfl) (fun W hW => ?hd38) ?_
          case hd38 =>
            have hh := HF.out W hW
            clear hW
            go_split_ands
            go_simp
            first | rfl | exact way_new.refl _ | exact way_grow.refl _ | (refine ⟨?_, way_new.refl _⟩; rfl) | (refine ⟨?_, way_grow.refl _⟩; rfl)
          try simp only [Act.put, List.setIfInBounds_toArray, List.set_cons_zero, List.set_cons_succ, List.getElem_toArray, List.getElem_cons_zero, List.getElem_cons_succ]
          refine Lex.nil (hKT.out _ ?_)
          clear hKT KT
          refine Reg.done (by kernel_rfl) (fun W hW hWT => ⟨by kernel_rfl, ?_⟩)
          simp only [List.drop_succ_cons, List.drop_zero]
          subst hW
          clear hWT HF
          go_wp2_with fail
          go_ret
          exact ⟨by rw [HE.out]; rfl, Below.drew hbw.out⟩
      · have hkn : k = n := by omega
        subst hkn
        have HE : Hid (bq = true) := hide (by
          rw [← HQ.out]
          refine decide_eq_true ?_
          have := he.out
          rwa [List.take_of_length_le (by omega), List.take_of_length_le (by omega)] at this)
        go_wp2_with fail
        go_ret
        exact ⟨by rw [HE.out]; rfl, hbw.out⟩
  · have e1 : decide (l = r) = false := decide_eq_false fun h => hnm (by rw [← hn, ← hm, h])
    rw [e1]
    have e2 : ((n : Int) != (m : Int)) = true := by simp; omega
    go_enter Try.func23, Try.ntmps23
    go_wp2_with fail
    go_ret
    exact ⟨rfl, Below.refl _ _⟩
end Go.Proofs.Ytpkhmhfgnpnpfaa
