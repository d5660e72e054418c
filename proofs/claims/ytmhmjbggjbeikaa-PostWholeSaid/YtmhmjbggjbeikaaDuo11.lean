/- Two ledgers, apart from one another: what turns the one leaves the other; two rows of keys compared; plain laws of PostSplits. -/
import Derived.Test.YtmhmjbggjbeikaaTot11
namespace Go.Proofs.Ytmhmjbggjbeikaa
set_option linter.unusedSimpArgs false
set_option linter.unusedVariables false
open Go.RowKit
attribute [local go_sem] objAt_alloc objAt_alloc_at objAt_drew objAt_drewN objAt_setCell comesTo_value comesTo_enter

def Duo (w0 : World) (ga pa gb pb : Nat) (L M : Led) (W : World) : Prop :=
  ∃ Fa Fb, LedAt W ga pa Fa L ∧ LedAt W gb pb Fb M ∧ (∀ j, Fa j → w0.heap.size ≤ j ∧ ¬ Fb j) ∧ (∀ j, Fb j → w0.heap.size ≤ j) ∧ Below w0.heap.size w0 W
theorem LedAt.lt {W : World} {g p : Nat} {F : Nat → Prop} {L : Led} (h : LedAt W g p F L) : ∀ j, F j → j < W.heap.size := by
  obtain ⟨Fp, im, bm, _, _, _, _, _, _, _, _, h9, _⟩ := h
  exact h9
section
variable {w0 W W' : World} {ga pa gb pb : Nat} {L L' M M' : Led}
theorem Duo.swap (h : Duo w0 ga pa gb pb L M W) : Duo w0 gb pb ga pa M L W := by
  obtain ⟨Fa, Fb, h1, h2, h3, h4, h5⟩ := h
  exact ⟨Fb, Fa, h2, h1, fun j hj => ⟨h4 j hj, fun e => (h3 j e).2 hj⟩, fun j hj => (h3 j hj).1, h5⟩
theorem Duo.below (h : Duo w0 ga pa gb pb L M W) : Below w0.heap.size w0 W := h.choose_spec.choose_spec.2.2.2.2
theorem Duo.step (h : Duo w0 ga pa gb pb L M W) (hb : Below W.heap.size W W') : Duo w0 ga pa gb pb L M W' := by
  obtain ⟨Fa, Fb, h1, h2, h3, h4, h5⟩ := h
  exact ⟨Fa, Fb, h1.below hb, h2.below hb, h3, h4, h5.trans (hb.mono h5.size)⟩
theorem Duo.turn (h : Duo w0 ga pa gb pb L M W) (hc : ∀ F, LedAt W ga pa F L → LedPost W ga pa F L' W') : Duo w0 ga pa gb pb L' M W' := by
  obtain ⟨Fa, Fb, h1, h2, h3, h4, h5⟩ := h
  obtain ⟨F', k1, k2, k3⟩ := hc Fa h1
  refine ⟨F', Fb, k1, h2.frm k2 (fun j hj e => (h3 j e).2 hj), fun j hj => ?_, h4, h5.trans (k2.below h5.size fun j hj => (h3 j hj).1)⟩
  rcases k3 j hj with e | e
  · exact h3 j e
  · exact ⟨Nat.le_trans h5.size e, fun e2 => by have := h2.lt j e2; omega⟩
theorem Duo.call (h : Duo w0 ga pa gb pb L M W) {f : FuncId} {args : Array Value} {v : Value} (hc : ∀ F, LedAt W ga pa F L → Calls Try.prog f args W fun e w' => e = .returned v ∧ LedPost W ga pa F L' w') :
    Calls Try.prog f args W fun e w' => e = .returned v ∧ Duo w0 ga pa gb pb L' M w' := by
  obtain ⟨Fa, Fb, h1, h2, h3, h4, h5⟩ := h
  refine (hc Fa h1).mono fun e w' ⟨e1, F', k1, k2, k3⟩ => ⟨e1, F', Fb, k1, h2.frm k2 (fun j hj e => (h3 j e).2 hj), fun j hj => ?_, h4, h5.trans (k2.below h5.size fun j hj => (h3 j hj).1)⟩
  rcases k3 j hj with e | e
  · exact h3 j e
  · exact ⟨Nat.le_trans h5.size e, fun e2 => by have := h2.lt j e2; omega⟩
theorem Duo.led (h : Duo w0 ga pa gb pb L M W) : Leds w0 ga pa L (fun _ => False) W := by
  obtain ⟨Fa, Fb, h1, h2, h3, h4, h5⟩ := h
  exact ⟨Fa, h1, fun j hj => ⟨(h3 j hj).1, id⟩, h5, fun j hj => hj.elim⟩
/-- A second ledger, made beside one. -/
theorem duo_new (h : Leds w0 ga pa L (fun _ => False) W) : Calls Try.prog 24 #[] W fun e w' => ∃ gb pb, e = .returned (.pointer (some ⟨gb, 0, none⟩)) ∧ Duo w0 ga pa gb pb L led0 w' := by
  obtain ⟨F, h1, h2, h3, _⟩ := h
  refine (ledNew_calls W).mono fun e w' ⟨g, p, F', e1, k1, k2, k3⟩ => ⟨g, p, e1, F, F', h1.below k3, k1, fun j hj => ⟨(h2 j hj).1, fun e => ?_⟩, fun j hj => Nat.le_trans h3.size (k2 j hj), h3.trans (k3.mono h3.size)⟩
  have := h1.lt j hj
  have := k2 j e
  omega
theorem duo_issue (h : Duo w0 ga pa gb pb L M W) (he : EvenLed L) (k1 k2 : ByteArray) (n : Int) (hs1 : shortText k1) (hs2 : shortText k2) :
    Calls Try.prog 25 #[.pointer (some ⟨ga, 0, none⟩), .agg #[.string k1, .string k2], .int .i64 n] W fun e w' => e = .returned (.int .i64 (issueErr L (k1, k2) n)) ∧ Duo w0 ga pa gb pb (issueLed L (k1, k2) n) M w' :=
  h.call fun F hF => issue_calls ga pa F L k1 k2 n W hF hs1 hs2 (fun hw => by have := he.nonneg k2; unfold within at hw; omega) (fun hw => by have := he.top k2; unfold within at hw; omega)
theorem duo_block (h : Duo w0 ga pa gb pb L M W) (k1 k2 : ByteArray) (on : Bool) (hs1 : shortText k1) (hs2 : shortText k2) :
    Calls Try.prog 31 #[.pointer (some ⟨ga, 0, none⟩), .agg #[.string k1, .string k2], .bool on] W fun e w' => e = .returned (.tuple #[]) ∧ Duo w0 ga pa gb pb (blockLed L (k1, k2) on) M w' :=
  h.call fun F hF => block_calls ga pa F L k1 k2 on W hF hs1 hs2
theorem duo_apply (h : Duo w0 ga pa gb pb L M W) (a : Option Addr) (n c : Nat) (l : List PPost) (hn : l.length = n) (hm : n ≤ 1099511627776) (hp : PostsAt W a l) (hs : shortPosts l) :
    Calls Try.prog 29 #[.pointer (some ⟨ga, 0, none⟩), .slice a n c] W fun e w' => e = .returned (.int .i64 (lookErr L l)) ∧ Duo w0 ga pa gb pb (applyLed L l) M w' :=
  h.call fun F hF => apply_calls ga pa F L a n c l W hn hm hF hp hs
theorem ls_keys {S : Nat → Prop} (h : Leds w0 ga pa L S W) (hm : L.m.length ≤ 1099511627776) :
    Calls Try.prog 18 #[.pointer (some ⟨pa, 0, none⟩), .slice none 0 0] W fun e w' => ∃ A c, e = .returned (.slice A (posKeys L.m []).length c) ∧ KeysIn A (posKeys L.m []) w' ∧ Below W.heap.size W w' := by
  obtain ⟨Fp, hp⟩ := h.pos
  refine (keys_calls pa Fp L.m none 0 [] W hp hm (fun h => by simp at h) (by simp)).mono fun e w' ⟨v, h4, h5, h6⟩ => ?_
  obtain ⟨A', c', rfl, h7⟩ := keysIn_own h5
  exact ⟨A', c', h4, h7, h6⟩
end

/-! ### two rows of keys -/
set_option maxHeartbeats 1000000 in
set_option maxRecDepth 100000 in
theorem same_keys (A B : Option Addr) (ca cb n : Nat) (ks : List Key) (w : World) (hn : ks.length = n) (hm : n ≤ 1099511627776) (ha : KeysIn A ks w) (hb : KeysIn B ks w) :
    Calls Try.prog 30 #[.slice A n ca, .slice B n cb] w fun e w' => e = .returned (.bool true) ∧ Below w.heap.size w w' := by
  have HA := hide ha
  have HB := hide hb
  have HN := hide hn
  clear ha hb hn
  go_enter Try.func30, Try.ntmps30
  go_wp2
  go_loopw [5] (fun i W => ∃ j : Nat, j ≤ n ∧ i = .int .i64 j ∧ Hid (Below w.heap.size w W)) (fun i _ => n - (intOf i).toNat)
  case atStart => exact ⟨0, by omega, rfl, hide (Below.refl _ _)⟩
  case round =>
    obtain ⟨j, hj, rfl, hbw⟩ := hrel
    by_cases hlt : j < n
    · obtain ⟨⟨x1, x2⟩, hx⟩ : ∃ x, ks[j]? = some x := ⟨ks[j]'(by have := HN.out; omega), List.getElem?_eq_getElem (by have := HN.out; omega)⟩
      obtain ⟨p, rfl, hp, p1, p2⟩ := (HA.out.keep hbw.out) j _ hx
      obtain ⟨q, rfl, hq, q1, q2⟩ := (HB.out.keep hbw.out) j _ hx
      clear hx
      simp only at p1 p2 q1 q2
      have HF : Hid (∀ W, wr.drew = W → W.cell? ⟨p, j * 2, none⟩ = some (.string x1) ∧ W.cell? ⟨p, j * 2 + 1, none⟩ = some (.string x2) ∧ W.cell? ⟨q, j * 2, none⟩ = some (.string x1) ∧ W.cell? ⟨q, j * 2 + 1, none⟩ = some (.string x2)) := hide fun W hW => hW ▸ ⟨p1, p2, q1, q2⟩
      clear p1 p2 q1 q2
      go_wp2
      refine region_by (fun a b => a = b) way_eq 10 10 (fun W => wr.drew = W) (by kernel_rfl) (by kernel_rfl) (fun _ _ d _ _ h => by cases d <;> exact h) (fun x y h hx => h ▸ hx) rfl (fun KT hKT => ?_)
      simp only [List.take_succ_cons, List.take_zero]
      refine Lex.want (v := ?_) (by rfl) (fun W hW => ?hd1) ?_
      case hd1 =>
        have hh := HF.out W hW
        clear hW
        go_split_ands
        go_simp
        first | rfl | exact way_new.refl _ | exact way_grow.refl _ | (refine ⟨?_, way_new.refl _⟩; rfl) | (refine ⟨?_, way_grow.refl _⟩; rfl)
      try simp only [Act.put, List.setIfInBounds_toArray, List.set_cons_zero, List.set_cons_succ, List.getElem_toArray, List.getElem_cons_zero, List.getElem_cons_succ]
      refine Lex.want (v := ?_) (by rfl) (fun W hW => ?hd2) ?_
      case hd2 =>
        have hh := HF.out W hW
        clear hW
        go_split_ands
        go_simp
        first | rfl | exact way_new.refl _ | exact way_grow.refl _ | (refine ⟨?_, way_new.refl _⟩; rfl) | (refine ⟨?_, way_grow.refl _⟩; rfl)
      try simp only [Act.put, List.setIfInBounds_toArray, List.set_cons_zero, List.set_cons_succ, List.getElem_toArray, List.getElem_cons_zero, List.getElem_cons_succ]
      refine Lex.want (v := ?_) (by rfl) (fun W hW => ?hd3) ?_
      case hd3 =>
        have hh := HF.out W hW
        clear hW
        go_split_ands
        go_simp
        first | rfl | exact way_new.refl _ | exact way_grow.refl _ | (refine ⟨?_, way_new.refl _⟩; rfl) | (refine ⟨?_, way_grow.refl _⟩; rfl)
      try simp only [Act.put, List.setIfInBounds_toArray, List.set_cons_zero, List.set_cons_succ, List.getElem_toArray, List.getElem_cons_zero, List.getElem_cons_succ]
      refine Lex.want (v := ?_) (by rfl) (fun W hW => ?hd4) ?_
      case hd4 =>
        have hh := HF.out W hW
        clear hW
        go_split_ands
        go_simp
        first | rfl | exact way_new.refl _ | exact way_grow.refl _ | (refine ⟨?_, way_new.refl _⟩; rfl) | (refine ⟨?_, way_grow.refl _⟩; rfl)
      try simp only [Act.put, List.setIfInBounds_toArray, List.set_cons_zero, List.set_cons_succ, List.getElem_toArray, List.getElem_cons_zero, List.getElem_cons_succ]
      refine Lex.want (v := ?_) (by rfl) (fun W hW => ?hd5) ?_
      case hd5 =>
        have hh := HF.out W hW
        clear hW
        go_split_ands
        go_simp
        first | rfl | exact way_new.refl _ | exact way_grow.refl _ | (refine ⟨?_, way_new.refl _⟩; rfl) | (refine ⟨?_, way_grow.refl _⟩; rfl)
      try simp only [Act.put, List.setIfInBounds_toArray, List.set_cons_zero, List.set_cons_succ, List.getElem_toArray, List.getElem_cons_zero, List.getElem_cons_succ]
      refine Lex.want (v := ?_) (by rfl) (fun W hW => ?hd6) ?_
      case hd6 =>
        have hh := HF.out W hW
        clear hW
        go_split_ands
        go_simp
        first | rfl | exact way_new.refl _ | exact way_grow.refl _ | (refine ⟨?_, way_new.refl _⟩; rfl) | (refine ⟨?_, way_grow.refl _⟩; rfl)
      try simp only [Act.put, List.setIfInBounds_toArray, List.set_cons_zero, List.set_cons_succ, List.getElem_toArray, List.getElem_cons_zero, List.getElem_cons_succ]
      refine Lex.want (v := ?_) (by rfl) (fun W hW => ?hd7) ?_
      case hd7 =>
        have hh := HF.out W hW
        clear hW
        go_split_ands
        go_simp
        first | rfl | exact way_new.refl _ | exact way_grow.refl _ | (refine ⟨?_, way_new.refl _⟩; rfl) | (refine ⟨?_, way_grow.refl _⟩; rfl)
      try simp only [Act.put, List.setIfInBounds_toArray, List.set_cons_zero, List.set_cons_succ, List.getElem_toArray, List.getElem_cons_zero, List.getElem_cons_succ]
      refine Lex.want (v := ?_) (by rfl) (fun W hW => ?hd8) ?_
      case hd8 =>
        have hh := HF.out W hW
        clear hW
        go_split_ands
        go_simp
        first | rfl | exact way_new.refl _ | exact way_grow.refl _ | (refine ⟨?_, way_new.refl _⟩; rfl) | (refine ⟨?_, way_grow.refl _⟩; rfl)
      try simp only [Act.put, List.setIfInBounds_toArray, List.set_cons_zero, List.set_cons_succ, List.getElem_toArray, List.getElem_cons_zero, List.getElem_cons_succ]
      refine Lex.want (v := ?_) (by rfl) (fun W hW => ?hd9) ?_
      case hd9 =>
        have hh := HF.out W hW
        clear hW
        go_split_ands
        go_simp
        first | rfl | exact way_new.refl _ | exact way_grow.refl _ | (refine ⟨?_, way_new.refl _⟩; rfl) | (refine ⟨?_, way_grow.refl _⟩; rfl)
      try simp only [Act.put, List.setIfInBounds_toArray, List.set_cons_zero, List.set_cons_succ, List.getElem_toArray, List.getElem_cons_zero, List.getElem_cons_succ]
      refine Lex.want (v := ?_) (by rfl) (fun W hW => ?hd10) ?_
      case hd10 =>
        have hh := HF.out W hW
        clear hW
        go_split_ands
        go_simp
        first | rfl | exact way_new.refl _ | exact way_grow.refl _ | (refine ⟨?_, way_new.refl _⟩; rfl) | (refine ⟨?_, way_grow.refl _⟩; rfl)
      try simp only [Act.put, List.setIfInBounds_toArray, List.set_cons_zero, List.set_cons_succ, List.getElem_toArray, List.getElem_cons_zero, List.getElem_cons_succ]
      refine Lex.nil (hKT.out _ ?_)
      clear hKT KT
      refine Reg.done (by kernel_rfl) (fun W hW hWT => ⟨by kernel_rfl, ?_⟩)
      simp only [List.drop_succ_cons, List.drop_zero]
      subst hW
      go_wp2
      exact ⟨⟨j + 1, by omega, by go_num, hide (hbw.out.drew)⟩, by simp [intOf]; omega⟩
    · go_wp2
      go_ret
      exact ⟨rfl, hbw.out⟩

/-! ### plain -/
theorem posGet_part (m : List (Key × Three)) (k : Key) : posGet m k = (posPart m k 0, posPart m k 1, posPart m k 2) := by
  have h : ∀ s, posPart m k s = if isPart s then part3 (posGet m k) s else 0 := fun s => rfl
  rw [h 0, h 1, h 2, if_pos (by decide), if_pos (by decide), if_pos (by decide)]
  rfl
theorem keys_same {m m' : List (Key × Three)} (hg : GoodPos m) (ha : Apart m) (hg' : GoodPos m') (ha' : Apart m') (h : ∀ k, posGet m k = posGet m' k) : posKeys m [] = posKeys m' [] := by
  have hmem : ∀ {m : List (Key × Three)}, GoodPos m → ∀ k, k ∈ posKeys m [] ↔ posGet m k ≠ (0, 0, 0) := fun {m} hg k => by
    rw [posKeys_mem, ← mem_keys hg k, List.mem_map]
    constructor
    · rintro ⟨⟨x, hx⟩, _⟩
      exact ⟨_, hx, rfl⟩
    · rintro ⟨p, hp, rfl⟩
      exact ⟨⟨p.2, hp⟩, by simp [selKey]⟩
  have hnd : ∀ {m : List (Key × Three)}, Apart m → (posKeys m []).Nodup := fun {m} ha => (sortK_perm _).nodup_iff.2 (List.Nodup.sublist List.filter_sublist ha)
  refine sorted_unique cmpKey_cmp _ _ ((List.perm_ext_iff_of_nodup (hnd ha) (hnd ha')).2 fun k => ?_) (sortK_sorted _) (sortK_sorted _)
  rw [hmem hg, hmem hg', h k]
theorem nums_append {α κ : Type} [DecidableEq κ] (key : α → κ) (num : α → Int) (p q : List α) (x : κ) : numsOf key num (p ++ q) x = numsOf key num p x ++ numsOf key num q x := by
  simp [numsOf]
theorem splits_plain {L : Led} (hg : GoodPos L.m) (ha : Apart L.m) (hb : L.blk = []) {p q : List PPost} (hp : p.length ≤ 60) (hq : q.length ≤ 60) (e : lookErr L p = 0) (f : lookErr (applyLed L p) q = 0) :
    lookErr L (p ++ q) = 0 ∧ posKeys (applyLed (applyLed L p) q).m [] = posKeys (applyLed L (p ++ q)).m [] ∧ ∀ k, posGet (applyLed (applyLed L p) q).m k = posGet (applyLed L (p ++ q)).m k := by
  obtain ⟨g1, a1, p1, _, _, _⟩ := apply_does e hg ha
  obtain ⟨g2, a2, p2, _, _, _⟩ := apply_does f g1 a1
  obtain ⟨_, ok1, ev1, _⟩ := look_zero e
  obtain ⟨_, ok2, ev2, _⟩ := look_zero f
  have hsum : ∀ k s, partSum (p ++ q) k s = partSum p k s + partSum q k s := fun k s => by
    unfold partSum
    rw [nums_append, List.sum_append]
  have hfin : ∀ k s, posPart (applyLed (applyLed L p) q).m k s = posPart L.m k s + partSum (p ++ q) k s := fun k s => by rw [p2, p1, hsum]; omega
  have hlook : lookErr L (p ++ q) = 0 := by
    rw [look_of (by rw [List.length_append]; omega) (fun x hx => (List.mem_append.1 hx).elim (ok1 x) (ok2 x)) (fun a => by
      have h1 := ev1 a
      have h2 := ev2 a
      unfold sumOf at h1 h2 ⊢
      rw [List.filter_append, List.map_append, List.sum_append]
      omega)]
    refine firstErr_zero.2 fun x hx => ?_
    obtain ⟨z, hz, rfl⟩ := nets_mem hx
    have h1 := posPart_ok hg z.part.1 z.part.2
    have h2 := posPart_ok g2 z.part.1 z.part.2
    rw [hfin] at h2
    rw [netAt_sum (y := partSum (p ++ q) z.part.1 z.part.2) rfl (by unfold fits; omega)]
    show netErr (posPart L.m z.part.1 z.part.2) z.part.2 (partSum (p ++ q) z.part.1 z.part.2) false (isBlk L.blk z.part.1) = 0
    rw [hb, netErr_plain _ _ _ _ (by rw [isBlk_nil]; rintro ⟨_, _, h⟩; cases h), if_neg (by omega), if_neg (by omega)]
  obtain ⟨g3, a3, p3, _, _, _⟩ := apply_does hlook hg ha
  have hget : ∀ k, posGet (applyLed (applyLed L p) q).m k = posGet (applyLed L (p ++ q)).m k := fun k => by
    rw [posGet_part, posGet_part, hfin, hfin, hfin, p3, p3, p3]
  exact ⟨hlook, keys_same g2 a2 g3 a3 hget, hget⟩
end Go.Proofs.Ytmhmjbggjbeikaa
