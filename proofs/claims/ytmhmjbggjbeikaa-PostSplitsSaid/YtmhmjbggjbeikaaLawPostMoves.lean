/- PostMoves: the walk. -/
import Derived.Test.YtmhmjbggjbeikaaAlive11
namespace Go.Proofs.Ytmhmjbggjbeikaa
set_option linter.unusedSimpArgs false
set_option linter.unusedVariables false
open Go.RowKit
attribute [local go_sem] objAt_alloc objAt_alloc_at objAt_drew objAt_drewN objAt_setCell comesTo_value comesTo_enter

theorem alive11_post {w W : World} (h : Below w.heap.size w W) : Calls Try.prog 23 #[] W fun e w' => e = .returned (.bool true) ∧ Below w.heap.size w w' :=
  (alive11_calls W).mono fun e w' ⟨h1, h2⟩ => ⟨h1, h.trans (h2.mono h.size)⟩

/-- The ledger holds L; two boxes lie behind one another, with keys. -/
def Boxed (w : World) (g p s : Nat) (x y : Key) (L : Led) (W : World) : Prop :=
  Leds w g p L (fun j => j = s ∨ j = s + 1) W ∧ W.heap[s]? = some (.cells #[.string x.1, .string x.2] 24 (0, 0)) ∧ W.heap[s + 1]? = some (.cells #[.string y.1, .string y.2] 24 (0, 0))
section
variable {w W W' : World} {g p s : Nat} {x y : Key} {L L' : Led}
theorem Boxed.step (h : Boxed w g p s x y L W) (hb : Below W.heap.size W W') : Boxed w g p s x y L W' := by
  obtain ⟨h1, h2, h3⟩ := h
  have l1 := (Array.getElem?_eq_some_iff.1 h2).1
  have l2 := (Array.getElem?_eq_some_iff.1 h3).1
  exact ⟨h1.step hb, (hb.block _ l1).trans h2, (hb.block _ l2).trans h3⟩
theorem Boxed.turn (h : Boxed w g p s x y L W) (h1 : Leds w g p L' (fun j => j = s ∨ j = s + 1) W') (hk : Kept (fun j => j = s ∨ j = s + 1) W W') : Boxed w g p s x y L' W' :=
  ⟨h1, (hk s (.inl rfl)).trans h.2.1, (hk (s + 1) (.inr rfl)).trans h.2.2⟩
theorem boxed_new {x1 x2 y1 y2 : ByteArray} (h : Leds w g p L (fun _ => False) W) : Boxed w g p W.heap.size (x1, x2) (y1, y2) L ((W.alloc (.cells #[.string x1, .string x2] 24)).alloc (.cells #[.string y1, .string y2] 24)) := by
  refine ⟨h.keep (((Below.refl _ _).alloc (Nat.le_refl _) _).alloc (by simp) _) _ (fun j hj => .inr ?_), (Below.heap_alloc _ _ _ (by simp)).trans (heap_alloc_new W _), ?_⟩
  · simp; omega
  · have h10 := heap_alloc_new (W.alloc (.cells #[.string x1, .string x2] 24)) (.cells #[.string y1, .string y2] 24)
    simpa using h10
/-- What the walk reads of it. -/
def BoxF (g p s : Nat) (x y : Key) (W : World) : Prop :=
  W.cell? ⟨g, 0, none⟩ = some (.pointer (some ⟨p, 0, none⟩)) ∧ W.cell? ⟨s, 0, none⟩ = some (.string x.1) ∧ W.cell? ⟨s, 1, none⟩ = some (.string x.2) ∧ W.cell? ⟨s + 1, 0, none⟩ = some (.string y.1) ∧ W.cell? ⟨s + 1, 1, none⟩ = some (.string y.2)
theorem Boxed.facts (h : Boxed w g p s x y L W) : BoxF g p s x y W := by
  obtain ⟨h1, h2, h3⟩ := h
  exact ⟨h1.cell.1, by simp [World.cell?, h2], by simp [World.cell?, h2], by simp [World.cell?, h3], by simp [World.cell?, h3]⟩
end

/-! ### plain -/
theorem whole_parts (m : List (Key × Three)) (k : Key) : posWhole m k = accAdd [posPart m k 0, posPart m k 1, posPart m k 2] := by
  unfold posWhole list3
  have h : ∀ s, posPart m k s = if isPart s then part3 (posGet m k) s else 0 := fun s => rfl
  rw [h 0, h 1, h 2, if_pos (by decide), if_pos (by decide), if_pos (by decide)]
  rfl
theorem moves_plain (a b : ByteArray) (n m : Int) (hab : a ≠ b) (h1 : 0 ≤ n) (h2 : n ≤ 1099511627776) (h3 : 0 ≤ m) (h4 : m ≤ 1099511627776) :
    issueErr led0 (a, tX) n = 0 ∧ lookErr (issueLed led0 (a, tX) n) (movePosts a b tX m) = (if n - m < 0 then 30 else 0) ∧
    (n - m < 0 → applyLed (issueLed led0 (a, tX) n) (movePosts a b tX m) = issueLed led0 (a, tX) n ∧ posTotal (issueLed led0 (a, tX) n).m tX = n ∧ posPart (issueLed led0 (a, tX) n).m (a, tX) 0 = n ∧ posPart (issueLed led0 (a, tX) n).m (b, tX) 0 = 0) ∧
    (¬ n - m < 0 → posTotal (applyLed (issueLed led0 (a, tX) n) (movePosts a b tX m)).m tX = n ∧ posPart (applyLed (issueLed led0 (a, tX) n) (movePosts a b tX m)).m (a, tX) 0 = n - m ∧ posPart (applyLed (issueLed led0 (a, tX) n) (movePosts a b tX m)).m (b, tX) 0 = m ∧
      lookErr (applyLed (issueLed led0 (a, tX) n) (movePosts a b tX m)) (movePosts b a tX m) = 0 ∧
      posPart (applyLed (applyLed (issueLed led0 (a, tX) n) (movePosts a b tX m)) (movePosts b a tX m)).m (a, tX) 0 = n ∧ posWhole (applyLed (applyLed (issueLed led0 (a, tX) n) (movePosts a b tX m)) (movePosts b a tX m)).m (b, tX) = 0) ∧
    (issueLed led0 (a, tX) n).m.length ≤ 1 := by
  obtain ⟨i1, i2, i3, i4, i5, i6⟩ := issue_first (a, tX) n h1 h2
  have hgood : GoodPos (issueLed led0 (a, tX) n).m ∧ Apart (issueLed led0 (a, tX) n).m := by
    have h : (issueLed led0 (a, tX) n).m = addMap [] (a, tX) 0 n := by
      unfold issueLed
      rw [if_neg (not_not_intro i1)]
      rfl
    rw [h]
    exact ⟨good_add (fun p hp => by simp at hp) _ _ _, apart_add apart_nil _ _ _⟩
  generalize issueLed led0 (a, tX) n = L1 at *
  have ea : posPart L1.m (a, tX) 0 = n := by rw [i2, if_pos ⟨rfl, rfl⟩]
  have eb : ∀ s, posPart L1.m (b, tX) s = 0 := fun s => by
    rw [i2, if_neg]
    rintro ⟨h, _⟩
    exact hab (congrArg Prod.fst h)
  have hs : sumA L1.m tX = n := by rw [i3, if_pos rfl]
  have ht : posTotal L1.m tX = n := (posTotal_eq hgood.2 (by rw [hs]; omega) (by rw [hs]; omega)).trans hs
  have hbl : ∀ k, isBlk L1.blk k = false := fun k => by rw [i5]; rfl
  have hlk := move_look L1 a b tX m hab h3 h4 hgood.1 (by rw [eb]; omega) (hbl _)
  rw [ea] at hlk
  refine ⟨i1, hlk, fun hlt => ⟨?_, ht, ea, eb 0⟩, fun hge => ?_, i6⟩
  · unfold applyLed
    rw [if_pos (by rw [hlk, if_pos hlt]; decide)]
  · rw [if_neg hge] at hlk
    obtain ⟨g1, g2, _⟩ := apply_does hlk hgood.1 hgood.2
    obtain ⟨d1, d2, d3, d4⟩ := move_does hab hlk hgood.1 hgood.2
    generalize applyLed L1 (movePosts a b tX m) = L2 at *
    have hba : ((b, tX), (0 : Int)) ≠ ((a, tX), 0) := fun h => hab (congrArg (fun q : PKey => q.1.1) h).symm
    have fa : posPart L2.m (a, tX) 0 = n - m := by rw [d1, if_pos rfl, ea]; omega
    have fb : ∀ s, posPart L2.m (b, tX) s = if s = 0 then m else 0 := fun s => by
      rw [d1, eb, if_neg (fun h => hab (congrArg (fun q : PKey => q.1.1) h).symm)]
      by_cases e : s = 0
      · subst e; rw [if_pos rfl, if_pos rfl]; omega
      · rw [if_neg (fun h => e (congrArg Prod.snd h)), if_neg e]; omega
    have hs2 : sumA L2.m tX = n := by rw [d2, hs]
    have hlk2 := move_look L2 b a tX m (fun e => hab e.symm) h3 h4 g1 (by rw [fa]; omega) (by rw [d4]; exact hbl _)
    rw [fb, if_pos rfl, if_neg (by omega)] at hlk2
    obtain ⟨q1, q2, q3, q4⟩ := move_does (fun e => hab e.symm) hlk2 g1 g2
    refine ⟨(posTotal_eq g2 (by rw [hs2]; omega) (by rw [hs2]; omega)).trans hs2, fa, by rw [fb, if_pos rfl], hlk2, ?_, ?_⟩
    · rw [q1, fa, if_neg (fun h => hba h.symm), if_pos rfl]; omega
    · rw [whole_parts]
      have z : ∀ s, posPart (applyLed L2 (movePosts b a tX m)).m (b, tX) s = 0 := fun s => by
        rw [q1, fb]
        by_cases e : s = 0
        · subst e; rw [if_pos rfl, if_pos rfl]; omega
        · rw [if_neg e, if_neg (fun h => e (congrArg Prod.snd h)), if_neg (fun h => hab (congrArg (fun q : PKey => q.1.1) h).symm)]; omega
      rw [z, z, z]
      rfl
def MovesPost (w : World) (e : Ending) (w' : World) : Prop := e = .returned (.bool true) ∧ Below w.heap.size w w'
set_option maxHeartbeats 4000000 in
set_option maxRecDepth 100000 in
theorem postMoves_odd (a b : ByteArray) (n m : Int) (w : World) (ha : a.size ≤ maxLen) (hb : b.size ≤ maxLen)
    (h : n < 0 ∨ 1099511627776 < n ∨ m < 0 ∨ 1099511627776 < m ∨ 100 < a.size ∨ 100 < b.size ∨ a = b) :
    Calls Try.prog 9 #[.string a, .string b, .int .i64 n, .int .i64 m] w (MovesPost w) := by
  unfold maxLen at ha hb
  have HAL := hide (alive11_post (Below.refl w.heap.size w))
  by_cases h1 : n < 0
  case' neg => by_cases h2 : n > 1099511627776
  case' neg => by_cases h3 : m < 0
  case' neg => by_cases h4 : m > 1099511627776
  case' neg => by_cases h5 : (a.size : Int) > 100
  case' neg => by_cases h6 : (b.size : Int) > 100
  case' neg => have h7 : (a.toList == b.toList) = true := (by have e : a = b := (by rcases h with h | h | h | h | h | h | h <;> first | exact h | omega); rw [e]; simp)
  all_goals
    clear h
    go_enter Try.func9, Try.ntmps9
    go_wp2_with (go_at_call 23; refine HAL.out.mono ?_; rintro e w1 ⟨rfl, hb1⟩; have HB1 := hide hb1; clear hb1)
    go_ret
    exact ⟨rfl, HB1.out⟩

section
variable {w W : World} {g p s : Nat} {x y : Key} {L : Led}
theorem bx_issue (k1 k2 : ByteArray) (by_ : Int) (h : Boxed w g p s x y L W) (hs1 : shortText k1) (hs2 : shortText k2) (hf1 : within by_ → -9223372036854775808 ≤ issOf L.iss k2 + by_) (hf2 : within by_ → issOf L.iss k2 + by_ ≤ 9223372036854775807) :
    Calls Try.prog 25 #[.pointer (some ⟨g, 0, none⟩), .agg #[.string k1, .string k2], .int .i64 by_] W fun e w' => e = .returned (.int .i64 (issueErr L (k1, k2) by_)) ∧ Boxed w g p s x y (issueLed L (k1, k2) by_) w' :=
  (ls_issue k1 k2 by_ h.1 hs1 hs2 hf1 hf2).mono fun e w' ⟨h1, h2, h3⟩ => ⟨h1, h.turn h2 h3⟩
theorem bx_move (a b t : ByteArray) (m : Int) (c : Nat) (ha : shortText a) (hb : shortText b) (ht : shortText t) (h : Boxed w g p s x y L W) :
    Calls Try.prog 29 #[.pointer (some ⟨g, 0, none⟩), .slice (some ⟨W.heap.size, 0, none⟩) 2 c] (W.alloc (.cells #[.string a, .string t, .int .i64 0, .int .i64 (-m), .string b, .string t, .int .i64 0, .int .i64 m] 51)) fun e w' =>
      e = .returned (.int .i64 (lookErr L (movePosts a b t m))) ∧ Boxed w g p s x y (applyLed L (movePosts a b t m)) w' :=
  (ls_move a b t m c ha hb ht h.1).mono fun e w' ⟨h1, h2, h3⟩ => ⟨h1, h.turn h2 h3⟩
theorem bx_total (a : ByteArray) (hm : L.m.length ≤ 1099511627776) (h : Boxed w g p s x y L W) :
    Calls Try.prog 21 #[.pointer (some ⟨p, 0, none⟩), .string a] W fun e w' => e = .returned (.int .i64 (posTotal L.m a)) ∧ Below W.heap.size W w' := ls_total a hm h.1
end

set_option maxHeartbeats 8000000 in
set_option maxRecDepth 100000 in
theorem postMoves_low (a b : ByteArray) (n m : Int) (w : World) (ha : a.size ≤ 100) (hb : b.size ≤ 100) (hab : a ≠ b) (h1 : 0 ≤ n) (h2 : n ≤ 1099511627776) (h3 : 0 ≤ m) (h4 : m ≤ 1099511627776) (hlt : n - m < 0) :
    Calls Try.prog 9 #[.string a, .string b, .int .i64 n, .int .i64 m] w (MovesPost w) := by
  have hsa : shortText a := by unfold shortText; omega
  have hsb : shortText b := by unfold shortText; omega
  obtain ⟨p1, p2, p3, _, p5⟩ := moves_plain a b n m hab h1 h2 h3 h4
  rw [if_pos hlt] at p2
  obtain ⟨p31, p32, p33, p34⟩ := p3 hlt
  have HNEW := hide (ls_new w)
  have HISS : Hid (∀ g p s W, Boxed w g p s (a, tX) (b, tX) led0 W → Calls Try.prog 25 #[.pointer (some ⟨g, 0, none⟩), .agg #[.string a, .string { data := #[88] }], .int .i64 n] W fun e w' => e = .returned (.int .i64 0) ∧ Boxed w g p s (a, tX) (b, tX) (issueLed led0 (a, tX) n) w') := hide fun g p s W h =>
    (bx_issue a tX n h hsa (short1 _) (fun _ => by show _ ≤ (0 : Int) + n; omega) (fun _ => by show (0 : Int) + n ≤ _; omega)).mono fun e w' ⟨q1, q2⟩ => ⟨by rw [q1, p1], q2⟩
  have HMV : Hid (∀ g p s W, Boxed w g p s (a, tX) (b, tX) (issueLed led0 (a, tX) n) W → Calls Try.prog 29 #[.pointer (some ⟨g, 0, none⟩), .slice (some ⟨W.heap.size, 0, none⟩) 2 2] (W.alloc (.cells #[.string a, .string { data := #[88] }, .int .i64 0, .int .i64 (-m), .string b, .string { data := #[88] }, .int .i64 0, .int .i64 m] 51)) fun e w' => e = .returned (.int .i64 30) ∧ Boxed w g p s (a, tX) (b, tX) (issueLed led0 (a, tX) n) w') := hide fun g p s W h =>
    (bx_move a b tX m 2 hsa hsb (short1 _) h).mono fun e w' ⟨q1, q2⟩ => ⟨by rw [q1, p2], by rwa [p31] at q2⟩
  have HTOT : Hid (∀ g p s W, Boxed w g p s (a, tX) (b, tX) (issueLed led0 (a, tX) n) W → Calls Try.prog 21 #[.pointer (some ⟨p, 0, none⟩), .string { data := #[88] }] W fun e w' => e = .returned (.int .i64 n) ∧ Below W.heap.size W w') := hide fun g p s W h => by
    have := bx_total tX (by omega) h
    rwa [p32] at this
  have HPA : Hid (∀ g p s W, Boxed w g p s (a, tX) (b, tX) (issueLed led0 (a, tX) n) W → Calls Try.prog 19 #[.pointer (some ⟨p, 0, none⟩), .agg #[.string a, .string { data := #[88] }], .int .i64 0] W fun e w' => e = .returned (.int .i64 n) ∧ Below W.heap.size W w') := hide fun g p s W h => by
    have := ls_part a tX 0 h.1
    rwa [p33] at this
  have HPB : Hid (∀ g p s W, Boxed w g p s (a, tX) (b, tX) (issueLed led0 (a, tX) n) W → Calls Try.prog 19 #[.pointer (some ⟨p, 0, none⟩), .agg #[.string b, .string { data := #[88] }], .int .i64 0] W fun e w' => e = .returned (.int .i64 0) ∧ Below W.heap.size W w') := hide fun g p s W h => by
    have := ls_part b tX 0 h.1
    rwa [p34] at this
  have hne : (a.toList == b.toList) = false := by rw [bytes_beq_decide]; simpa using hab
  have hmn : ¬ m ≤ n := by omega
  have hsz1 : ¬ ((a.size : Int) > 100) := by omega
  have hsz2 : ¬ ((b.size : Int) > 100) := by omega
  clear p1 p2 p3 p31 p32 p33 p34 p5 hsa hsb hab hlt
  generalize issueLed led0 (a, tX) n = L1 at *
  go_enter Try.func9, Try.ntmps9
  go_wp2_with (first
    | (go_at_call 24; refine HNEW.out.mono ?_; rintro e w1 ⟨g, p, rfl, h9⟩; have HL0 := hide (boxed_new (x1 := a) (x2 := { data := #[88] }) (y1 := b) (y2 := { data := #[88] }) h9); clear h9)
    | (go_at_call 25; ((with_reducible refine (HISS.out _ _ _ _ HL0.out).mono ?_)); rintro e w2 ⟨rfl, h9⟩; have HL2 := hide h9; obtain ⟨f1, f2, f3, f4, f5⟩ := h9.facts; clear h9)
    | (go_at_call 26; refine (move_calls _ _ _ _ _ (by omega) (by omega)).mono ?_; rintro e w' ⟨rfl, rfl⟩)
    | (go_at_call 29; ((with_reducible refine (HMV.out _ _ _ _ HL2.out).mono ?_)); rintro e w3 ⟨rfl, h9⟩; have HL3 := hide h9; obtain ⟨k1, k2, k3, k4, k5⟩ := h9.facts; clear h9)
    | (go_at_call 21; ((with_reducible refine (HTOT.out _ _ _ _ HL3.out).mono ?_)); rintro e w4 ⟨rfl, h9⟩; have HL4 := hide (HL3.out.step h9); clear h9))
  have HF : Hid (∀ W, New w4 W → W.cell? ⟨g, 0, none⟩ = some (.pointer (some ⟨p, 0, none⟩)) ∧ W.cell? ⟨w1.heap.size, 0, none⟩ = some (.string a) ∧ W.cell? ⟨w1.heap.size, 1, none⟩ = some (.string { data := #[88] }) ∧ W.cell? ⟨w1.heap.size + 1, 0, none⟩ = some (.string b) ∧ W.cell? ⟨w1.heap.size + 1, 1, none⟩ = some (.string { data := #[88] })) := hide fun W hW => (HL4.out.step hW).facts
  refine region_by New way_new 25 25 (fun W => New w4 W) (by kernel_rfl) (by kernel_rfl) (fun _ _ d _ _ h => by cases d <;> exact h) (fun x y h hx => way_new.trans hx h) (Below.refl _ _).drew (fun KT hKT => ?_)
  simp only [List.take_succ_cons, List.take_zero]
  refine Lex.want (v := ?_) (by rfl) (fun W hW => ?hd1) ?_
  case hd1 =>
    have hcc := hide (alive11_calls W)
    go_simp
    exact hcc
  try simp only [Act.put, List.setIfInBounds_toArray, List.set_cons_zero, List.set_cons_succ, List.getElem_toArray, List.getElem_cons_zero, List.getElem_cons_succ]
  refine Lex.want (v := ?_) (by rfl) (fun W hW => ?hd2) ?_
  case hd2 =>
    have hh := HF.out W hW
    clear hW
    go_split_ands
    go_simp
    first | rfl | exact way_new.refl _ | exact way_grow.refl _ | (refine ⟨?_, way_new.refl _⟩; rfl) | (refine ⟨?_, way_grow.refl _⟩; rfl)
  try simp only [Act.put, List.setIfInBounds_toArray, List.set_cons_zero, List.set_cons_succ, List.getElem_toArray, List.getElem_cons_zero, List.getElem_cons_succ]
  refine Lex.want (v := ?_) (by rfl) (fun W hW => ?hd3) ?_
  case hd3 =>
    have hh := HF.out W hW
    clear hW
    go_split_ands
    go_simp
    first | rfl | exact way_new.refl _ | exact way_grow.refl _ | (refine ⟨?_, way_new.refl _⟩; rfl) | (refine ⟨?_, way_grow.refl _⟩; rfl)
  try simp only [Act.put, List.setIfInBounds_toArray, List.set_cons_zero, List.set_cons_succ, List.getElem_toArray, List.getElem_cons_zero, List.getElem_cons_succ]
  refine Lex.want (v := ?_) (by rfl) (fun W hW => ?hd4) ?_
  case hd4 =>
    have hh := HF.out W hW
    clear hW
    go_split_ands
    go_simp
    first | rfl | exact way_new.refl _ | exact way_grow.refl _ | (refine ⟨?_, way_new.refl _⟩; rfl) | (refine ⟨?_, way_grow.refl _⟩; rfl)
  try simp only [Act.put, List.setIfInBounds_toArray, List.set_cons_zero, List.set_cons_succ, List.getElem_toArray, List.getElem_cons_zero, List.getElem_cons_succ]
  refine Lex.want (v := ?_) (by rfl) (fun W hW => ?hd5) ?_
  case hd5 =>
    have hh := HF.out W hW
    clear hW
    go_split_ands
    go_simp
    first | rfl | exact way_new.refl _ | exact way_grow.refl _ | (refine ⟨?_, way_new.refl _⟩; rfl) | (refine ⟨?_, way_grow.refl _⟩; rfl)
  try simp only [Act.put, List.setIfInBounds_toArray, List.set_cons_zero, List.set_cons_succ, List.getElem_toArray, List.getElem_cons_zero, List.getElem_cons_succ]
  refine Lex.want (v := ?_) (by rfl) (fun W hW => ?hd6) ?_
  case hd6 =>
    have hh := HF.out W hW
    clear hW
    go_split_ands
    go_simp
    first | rfl | exact way_new.refl _ | exact way_grow.refl _ | (refine ⟨?_, way_new.refl _⟩; rfl) | (refine ⟨?_, way_grow.refl _⟩; rfl)
  try simp only [Act.put, List.setIfInBounds_toArray, List.set_cons_zero, List.set_cons_succ, List.getElem_toArray, List.getElem_cons_zero, List.getElem_cons_succ]
  refine Lex.want (v := ?_) (by rfl) (fun W hW => ?hd7) ?_
  case hd7 =>
    have hh := HF.out W hW
    clear hW
    go_split_ands
    go_simp
    first | rfl | exact way_new.refl _ | exact way_grow.refl _ | (refine ⟨?_, way_new.refl _⟩; rfl) | (refine ⟨?_, way_grow.refl _⟩; rfl)
  try simp only [Act.put, List.setIfInBounds_toArray, List.set_cons_zero, List.set_cons_succ, List.getElem_toArray, List.getElem_cons_zero, List.getElem_cons_succ]
  refine Lex.want (v := ?_) (by rfl) (fun W hW => ?hd8) ?_
  case hd8 =>
    have hh := HF.out W hW
    clear hW
    go_split_ands
    go_simp
    first | rfl | exact way_new.refl _ | exact way_grow.refl _ | (refine ⟨?_, way_new.refl _⟩; rfl) | (refine ⟨?_, way_grow.refl _⟩; rfl)
  try simp only [Act.put, List.setIfInBounds_toArray, List.set_cons_zero, List.set_cons_succ, List.getElem_toArray, List.getElem_cons_zero, List.getElem_cons_succ]
  refine Lex.want (v := ?_) (by rfl) (fun W hW => ?hd9) ?_
  case hd9 =>
    have hh := HF.out W hW
    clear hW
    go_split_ands
    go_simp
    first | rfl | exact way_new.refl _ | exact way_grow.refl _ | (refine ⟨?_, way_new.refl _⟩; rfl) | (refine ⟨?_, way_grow.refl _⟩; rfl)
  try simp only [Act.put, List.setIfInBounds_toArray, List.set_cons_zero, List.set_cons_succ, List.getElem_toArray, List.getElem_cons_zero, List.getElem_cons_succ]
  refine Lex.want (v := ?_) (by rfl) (fun W hW => ?hd10) ?_
  case hd10 =>
    have hh := HF.out W hW
    clear hW
    go_split_ands
    go_simp
    first | rfl | exact way_new.refl _ | exact way_grow.refl _ | (refine ⟨?_, way_new.refl _⟩; rfl) | (refine ⟨?_, way_grow.refl _⟩; rfl)
  try simp only [Act.put, List.setIfInBounds_toArray, List.set_cons_zero, List.set_cons_succ, List.getElem_toArray, List.getElem_cons_zero, List.getElem_cons_succ]
  refine Lex.want (v := ?_) (by rfl) (fun W hW => ?hd11) ?_
  case hd11 =>
    have hh := HF.out W hW
    clear hW
    go_split_ands
    go_simp
    first | rfl | exact way_new.refl _ | exact way_grow.refl _ | (refine ⟨?_, way_new.refl _⟩; rfl) | (refine ⟨?_, way_grow.refl _⟩; rfl)
  try simp only [Act.put, List.setIfInBounds_toArray, List.set_cons_zero, List.set_cons_succ, List.getElem_toArray, List.getElem_cons_zero, List.getElem_cons_succ]
  refine Lex.want (v := ?_) (by rfl) (fun W hW => ?hd12) ?_
  case hd12 =>
    have hcc := hide (HPA.out _ _ _ W (HL4.out.step hW))
    go_simp
    exact hcc
  try simp only [Act.put, List.setIfInBounds_toArray, List.set_cons_zero, List.set_cons_succ, List.getElem_toArray, List.getElem_cons_zero, List.getElem_cons_succ]
  refine Lex.want (v := ?_) (by rfl) (fun W hW => ?hd13) ?_
  case hd13 =>
    have hh := HF.out W hW
    clear hW
    go_split_ands
    go_simp
    first | rfl | exact way_new.refl _ | exact way_grow.refl _ | (refine ⟨?_, way_new.refl _⟩; rfl) | (refine ⟨?_, way_grow.refl _⟩; rfl)
  try simp only [Act.put, List.setIfInBounds_toArray, List.set_cons_zero, List.set_cons_succ, List.getElem_toArray, List.getElem_cons_zero, List.getElem_cons_succ]
  refine Lex.want (v := ?_) (by rfl) (fun W hW => ?hd14) ?_
  case hd14 =>
    have hh := HF.out W hW
    clear hW
    go_split_ands
    go_simp
    first | rfl | exact way_new.refl _ | exact way_grow.refl _ | (refine ⟨?_, way_new.refl _⟩; rfl) | (refine ⟨?_, way_grow.refl _⟩; rfl)
  try simp only [Act.put, List.setIfInBounds_toArray, List.set_cons_zero, List.set_cons_succ, List.getElem_toArray, List.getElem_cons_zero, List.getElem_cons_succ]
  refine Lex.want (v := ?_) (by rfl) (fun W hW => ?hd15) ?_
  case hd15 =>
    have hh := HF.out W hW
    clear hW
    go_split_ands
    go_simp
    first | rfl | exact way_new.refl _ | exact way_grow.refl _ | (refine ⟨?_, way_new.refl _⟩; rfl) | (refine ⟨?_, way_grow.refl _⟩; rfl)
  try simp only [Act.put, List.setIfInBounds_toArray, List.set_cons_zero, List.set_cons_succ, List.getElem_toArray, List.getElem_cons_zero, List.getElem_cons_succ]
  refine Lex.want (v := ?_) (by rfl) (fun W hW => ?hd16) ?_
  case hd16 =>
    have hh := HF.out W hW
    clear hW
    go_split_ands
    go_simp
    first | rfl | exact way_new.refl _ | exact way_grow.refl _ | (refine ⟨?_, way_new.refl _⟩; rfl) | (refine ⟨?_, way_grow.refl _⟩; rfl)
  try simp only [Act.put, List.setIfInBounds_toArray, List.set_cons_zero, List.set_cons_succ, List.getElem_toArray, List.getElem_cons_zero, List.getElem_cons_succ]
  refine Lex.want (v := ?_) (by rfl) (fun W hW => ?hd17) ?_
  case hd17 =>
    have hh := HF.out W hW
    clear hW
    go_split_ands
    go_simp
    first | rfl | exact way_new.refl _ | exact way_grow.refl _ | (refine ⟨?_, way_new.refl _⟩; rfl) | (refine ⟨?_, way_grow.refl _⟩; rfl)
  try simp only [Act.put, List.setIfInBounds_toArray, List.set_cons_zero, List.set_cons_succ, List.getElem_toArray, List.getElem_cons_zero, List.getElem_cons_succ]
  refine Lex.want (v := ?_) (by rfl) (fun W hW => ?hd18) ?_
  case hd18 =>
    have hh := HF.out W hW
    clear hW
    go_split_ands
    go_simp
    first | rfl | exact way_new.refl _ | exact way_grow.refl _ | (refine ⟨?_, way_new.refl _⟩; rfl) | (refine ⟨?_, way_grow.refl _⟩; rfl)
  try simp only [Act.put, List.setIfInBounds_toArray, List.set_cons_zero, List.set_cons_succ, List.getElem_toArray, List.getElem_cons_zero, List.getElem_cons_succ]
  refine Lex.want (v := ?_) (by rfl) (fun W hW => ?hd19) ?_
  case hd19 =>
    have hh := HF.out W hW
    clear hW
    go_split_ands
    go_simp
    first | rfl | exact way_new.refl _ | exact way_grow.refl _ | (refine ⟨?_, way_new.refl _⟩; rfl) | (refine ⟨?_, way_grow.refl _⟩; rfl)
  try simp only [Act.put, List.setIfInBounds_toArray, List.set_cons_zero, List.set_cons_succ, List.getElem_toArray, List.getElem_cons_zero, List.getElem_cons_succ]
  refine Lex.want (v := ?_) (by rfl) (fun W hW => ?hd20) ?_
  case hd20 =>
    have hh := HF.out W hW
    clear hW
    go_split_ands
    go_simp
    first | rfl | exact way_new.refl _ | exact way_grow.refl _ | (refine ⟨?_, way_new.refl _⟩; rfl) | (refine ⟨?_, way_grow.refl _⟩; rfl)
  try simp only [Act.put, List.setIfInBounds_toArray, List.set_cons_zero, List.set_cons_succ, List.getElem_toArray, List.getElem_cons_zero, List.getElem_cons_succ]
  refine Lex.want (v := ?_) (by rfl) (fun W hW => ?hd21) ?_
  case hd21 =>
    have hh := HF.out W hW
    clear hW
    go_split_ands
    go_simp
    first | rfl | exact way_new.refl _ | exact way_grow.refl _ | (refine ⟨?_, way_new.refl _⟩; rfl) | (refine ⟨?_, way_grow.refl _⟩; rfl)
  try simp only [Act.put, List.setIfInBounds_toArray, List.set_cons_zero, List.set_cons_succ, List.getElem_toArray, List.getElem_cons_zero, List.getElem_cons_succ]
  refine Lex.want (v := ?_) (by rfl) (fun W hW => ?hd22) ?_
  case hd22 =>
    have hcc := hide (HPB.out _ _ _ W (HL4.out.step hW))
    go_simp
    exact hcc
  try simp only [Act.put, List.setIfInBounds_toArray, List.set_cons_zero, List.set_cons_succ, List.getElem_toArray, List.getElem_cons_zero, List.getElem_cons_succ]
  refine Lex.want (v := ?_) (by rfl) (fun W hW => ?hd23) ?_
  case hd23 =>
    have hh := HF.out W hW
    clear hW
    go_split_ands
    go_simp
    first | rfl | exact way_new.refl _ | exact way_grow.refl _ | (refine ⟨?_, way_new.refl _⟩; rfl) | (refine ⟨?_, way_grow.refl _⟩; rfl)
  try simp only [Act.put, List.setIfInBounds_toArray, List.set_cons_zero, List.set_cons_succ, List.getElem_toArray, List.getElem_cons_zero, List.getElem_cons_succ]
  refine Lex.want (v := ?_) (by rfl) (fun W hW => ?hd24) ?_
  case hd24 =>
    have hh := HF.out W hW
    clear hW
    go_split_ands
    go_simp
    first | rfl | exact way_new.refl _ | exact way_grow.refl _ | (refine ⟨?_, way_new.refl _⟩; rfl) | (refine ⟨?_, way_grow.refl _⟩; rfl)
  try simp only [Act.put, List.setIfInBounds_toArray, List.set_cons_zero, List.set_cons_succ, List.getElem_toArray, List.getElem_cons_zero, List.getElem_cons_succ]
  refine Lex.want (v := ?_) (by rfl) (fun W hW => ?hd25) ?_
  case hd25 =>
    have hh := HF.out W hW
    clear hW
    go_split_ands
    go_simp
    first | rfl | exact way_new.refl _ | exact way_grow.refl _ | (refine ⟨?_, way_new.refl _⟩; rfl) | (refine ⟨?_, way_grow.refl _⟩; rfl)
  try simp only [Act.put, List.setIfInBounds_toArray, List.set_cons_zero, List.set_cons_succ, List.getElem_toArray, List.getElem_cons_zero, List.getElem_cons_succ]
  refine Lex.nil (hKT.out _ ?_)
  clear hKT KT
  refine Reg.done (by kernel_rfl) (fun W hW hWT => ⟨by kernel_rfl, ?_⟩)
  simp only [List.drop_succ_cons, List.drop_zero]
  go_wp2_with fail
  go_ret
  exact ⟨rfl, (HL4.out.step hWT).1.below⟩
set_option maxHeartbeats 8000000 in
set_option maxRecDepth 100000 in
theorem postMoves_high (a b : ByteArray) (n m : Int) (w : World) (ha : a.size ≤ 100) (hb : b.size ≤ 100) (hab : a ≠ b) (h1 : 0 ≤ n) (h2 : n ≤ 1099511627776) (h3 : 0 ≤ m) (h4 : m ≤ 1099511627776) (hge : ¬ n - m < 0) :
    Calls Try.prog 9 #[.string a, .string b, .int .i64 n, .int .i64 m] w (MovesPost w) := by
  have hsa : shortText a := by unfold shortText; omega
  have hsb : shortText b := by unfold shortText; omega
  obtain ⟨p1, p2, _, p3, p5⟩ := moves_plain a b n m hab h1 h2 h3 h4
  rw [if_neg hge] at p2
  obtain ⟨p31, p32, p33, p34, p35, p36⟩ := p3 hge
  have HNEW := hide (ls_new w)
  have HISS : Hid (∀ g p s W, Boxed w g p s (a, tX) (b, tX) led0 W → Calls Try.prog 25 #[.pointer (some ⟨g, 0, none⟩), .agg #[.string a, .string { data := #[88] }], .int .i64 n] W fun e w' => e = .returned (.int .i64 0) ∧ Boxed w g p s (a, tX) (b, tX) (issueLed led0 (a, tX) n) w') := hide fun g p s W h =>
    (bx_issue a tX n h hsa (short1 _) (fun _ => by show _ ≤ (0 : Int) + n; omega) (fun _ => by show (0 : Int) + n ≤ _; omega)).mono fun e w' ⟨q1, q2⟩ => ⟨by rw [q1, p1], q2⟩
  have hl2 := applyLed_length (issueLed led0 (a, tX) n) (movePosts a b tX m)
  have e2 : (movePosts a b tX m).length = 2 := rfl
  have HMV : Hid (∀ g p s W, Boxed w g p s (a, tX) (b, tX) (issueLed led0 (a, tX) n) W → Calls Try.prog 29 #[.pointer (some ⟨g, 0, none⟩), .slice (some ⟨W.heap.size, 0, none⟩) 2 2] (W.alloc (.cells #[.string a, .string { data := #[88] }, .int .i64 0, .int .i64 (-m), .string b, .string { data := #[88] }, .int .i64 0, .int .i64 m] 51)) fun e w' => e = .returned (.int .i64 0) ∧ Boxed w g p s (a, tX) (b, tX) (applyLed (issueLed led0 (a, tX) n) (movePosts a b tX m)) w') := hide fun g p s W h =>
    (bx_move a b tX m 2 hsa hsb (short1 _) h).mono fun e w' ⟨q1, q2⟩ => ⟨by rw [q1, p2], q2⟩
  have HMV2 : Hid (∀ g p s W, Boxed w g p s (a, tX) (b, tX) (applyLed (issueLed led0 (a, tX) n) (movePosts a b tX m)) W → Calls Try.prog 29 #[.pointer (some ⟨g, 0, none⟩), .slice (some ⟨W.heap.size, 0, none⟩) 2 2] (W.alloc (.cells #[.string b, .string { data := #[88] }, .int .i64 0, .int .i64 (-m), .string a, .string { data := #[88] }, .int .i64 0, .int .i64 m] 51)) fun e w' => e = .returned (.int .i64 0) ∧ Boxed w g p s (a, tX) (b, tX) (applyLed (applyLed (issueLed led0 (a, tX) n) (movePosts a b tX m)) (movePosts b a tX m)) w') := hide fun g p s W h =>
    (bx_move b a tX m 2 hsb hsa (short1 _) h).mono fun e w' ⟨q1, q2⟩ => ⟨by rw [q1, p34], q2⟩
  have HTOT : Hid (∀ g p s W, Boxed w g p s (a, tX) (b, tX) (applyLed (issueLed led0 (a, tX) n) (movePosts a b tX m)) W → Calls Try.prog 21 #[.pointer (some ⟨p, 0, none⟩), .string { data := #[88] }] W fun e w' => e = .returned (.int .i64 n) ∧ Below W.heap.size W w') := hide fun g p s W h => by
    have := bx_total tX (by omega) h
    rwa [p31] at this
  have HPA : Hid (∀ g p s W, Boxed w g p s (a, tX) (b, tX) (applyLed (issueLed led0 (a, tX) n) (movePosts a b tX m)) W → Calls Try.prog 19 #[.pointer (some ⟨p, 0, none⟩), .agg #[.string a, .string { data := #[88] }], .int .i64 0] W fun e w' => e = .returned (.int .i64 (n - m)) ∧ Below W.heap.size W w') := hide fun g p s W h => by
    have := ls_part a tX 0 h.1
    rwa [p32] at this
  have HPB : Hid (∀ g p s W, Boxed w g p s (a, tX) (b, tX) (applyLed (issueLed led0 (a, tX) n) (movePosts a b tX m)) W → Calls Try.prog 19 #[.pointer (some ⟨p, 0, none⟩), .agg #[.string b, .string { data := #[88] }], .int .i64 0] W fun e w' => e = .returned (.int .i64 m) ∧ Below W.heap.size W w') := hide fun g p s W h => by
    have := ls_part b tX 0 h.1
    rwa [p33] at this
  have HPA3 : Hid (∀ g p s W, Boxed w g p s (a, tX) (b, tX) (applyLed (applyLed (issueLed led0 (a, tX) n) (movePosts a b tX m)) (movePosts b a tX m)) W → Calls Try.prog 19 #[.pointer (some ⟨p, 0, none⟩), .agg #[.string a, .string { data := #[88] }], .int .i64 0] W fun e w' => e = .returned (.int .i64 n) ∧ Below W.heap.size W w') := hide fun g p s W h => by
    have := ls_part a tX 0 h.1
    rwa [p35] at this
  have HPB3 : Hid (∀ g p s W, Boxed w g p s (a, tX) (b, tX) (applyLed (applyLed (issueLed led0 (a, tX) n) (movePosts a b tX m)) (movePosts b a tX m)) W → Calls Try.prog 22 #[.pointer (some ⟨p, 0, none⟩), .agg #[.string b, .string { data := #[88] }]] W fun e w' => e = .returned (.int .i64 0) ∧ Below W.heap.size W w') := hide fun g p s W h => by
    have := ls_whole b tX h.1
    rwa [p36] at this
  have hsub : IntKind.i64.wrap (n - m) = n - m := by rw [IntKind.wrap_i64]; omega
  have HSUB := hide hsub
  have hne : (a.toList == b.toList) = false := by rw [bytes_beq_decide]; simpa using hab
  have hmn : m ≤ n := by omega
  have hsz1 : ¬ ((a.size : Int) > 100) := by omega
  have hsz2 : ¬ ((b.size : Int) > 100) := by omega
  clear p1 p2 p3 p31 p32 p33 p34 p35 p36 p5 hsa hsb hab hge hl2 e2 hsub
  generalize applyLed (applyLed (issueLed led0 (a, tX) n) (movePosts a b tX m)) (movePosts b a tX m) = L3 at *
  generalize applyLed (issueLed led0 (a, tX) n) (movePosts a b tX m) = L2 at *
  generalize issueLed led0 (a, tX) n = L1 at *
  go_enter Try.func9, Try.ntmps9
  go_wp2_with (first
    | (go_at_call 24; refine HNEW.out.mono ?_; rintro e w1 ⟨g, p, rfl, h9⟩; have HL0 := hide (boxed_new (x1 := a) (x2 := { data := #[88] }) (y1 := b) (y2 := { data := #[88] }) h9); clear h9)
    | (go_at_call 25; ((with_reducible refine (HISS.out _ _ _ _ HL0.out).mono ?_)); rintro e w2 ⟨rfl, h9⟩; have HL2 := hide h9; obtain ⟨f1, f2, f3, f4, f5⟩ := h9.facts; clear h9)
    | (go_at_call 26; refine (move_calls _ _ _ _ _ (by omega) (by omega)).mono ?_; rintro e w' ⟨rfl, rfl⟩)
    | (go_at_call 29; ((with_reducible refine (HMV.out _ _ _ _ HL2.out).mono ?_)); rintro e w3 ⟨rfl, h9⟩; have HL3 := hide h9; obtain ⟨k1, k2, k3, k4, k5⟩ := h9.facts; clear h9)
    | (go_at_call 21; ((with_reducible refine (HTOT.out _ _ _ _ HL3.out).mono ?_)); rintro e w4 ⟨rfl, h9⟩; have HL4 := hide (HL3.out.step h9); clear h9))
  have HF : Hid (∀ W, New w4 W → W.cell? ⟨g, 0, none⟩ = some (.pointer (some ⟨p, 0, none⟩)) ∧ W.cell? ⟨w1.heap.size, 0, none⟩ = some (.string a) ∧ W.cell? ⟨w1.heap.size, 1, none⟩ = some (.string { data := #[88] }) ∧ W.cell? ⟨w1.heap.size + 1, 0, none⟩ = some (.string b) ∧ W.cell? ⟨w1.heap.size + 1, 1, none⟩ = some (.string { data := #[88] })) := hide fun W hW => (HL4.out.step hW).facts
  have hsub2 := HSUB.out
  refine region_by New way_new 20 20 (fun W => New w4 W) (by kernel_rfl) (by kernel_rfl) (fun _ _ d _ _ h => by cases d <;> exact h) (fun x y h hx => way_new.trans hx h) (Below.refl _ _).drew (fun KT hKT => ?_)
  simp only [List.take_succ_cons, List.take_zero]
  refine Lex.want (v := ?_) (by rfl) (fun W hW => ?hd26) ?_
  case hd26 =>
    have hh := HF.out W hW
    clear hW
    go_split_ands
    go_simp
    first | rfl | exact way_new.refl _ | exact way_grow.refl _ | (refine ⟨?_, way_new.refl _⟩; rfl) | (refine ⟨?_, way_grow.refl _⟩; rfl)
  try simp only [Act.put, List.setIfInBounds_toArray, List.set_cons_zero, List.set_cons_succ, List.getElem_toArray, List.getElem_cons_zero, List.getElem_cons_succ]
  refine Lex.want (v := ?_) (by rfl) (fun W hW => ?hd27) ?_
  case hd27 =>
    have hh := HF.out W hW
    clear hW
    go_split_ands
    go_simp
    first | rfl | exact way_new.refl _ | exact way_grow.refl _ | (refine ⟨?_, way_new.refl _⟩; rfl) | (refine ⟨?_, way_grow.refl _⟩; rfl)
  try simp only [Act.put, List.setIfInBounds_toArray, List.set_cons_zero, List.set_cons_succ, List.getElem_toArray, List.getElem_cons_zero, List.getElem_cons_succ]
  refine Lex.want (v := ?_) (by rfl) (fun W hW => ?hd28) ?_
  case hd28 =>
    have hh := HF.out W hW
    clear hW
    go_split_ands
    go_simp
    first | rfl | exact way_new.refl _ | exact way_grow.refl _ | (refine ⟨?_, way_new.refl _⟩; rfl) | (refine ⟨?_, way_grow.refl _⟩; rfl)
  try simp only [Act.put, List.setIfInBounds_toArray, List.set_cons_zero, List.set_cons_succ, List.getElem_toArray, List.getElem_cons_zero, List.getElem_cons_succ]
  refine Lex.want (v := ?_) (by rfl) (fun W hW => ?hd29) ?_
  case hd29 =>
    have hh := HF.out W hW
    clear hW
    go_split_ands
    go_simp
    first | rfl | exact way_new.refl _ | exact way_grow.refl _ | (refine ⟨?_, way_new.refl _⟩; rfl) | (refine ⟨?_, way_grow.refl _⟩; rfl)
  try simp only [Act.put, List.setIfInBounds_toArray, List.set_cons_zero, List.set_cons_succ, List.getElem_toArray, List.getElem_cons_zero, List.getElem_cons_succ]
  refine Lex.want (v := ?_) (by rfl) (fun W hW => ?hd30) ?_
  case hd30 =>
    have hh := HF.out W hW
    clear hW
    go_split_ands
    go_simp
    first | rfl | exact way_new.refl _ | exact way_grow.refl _ | (refine ⟨?_, way_new.refl _⟩; rfl) | (refine ⟨?_, way_grow.refl _⟩; rfl)
  try simp only [Act.put, List.setIfInBounds_toArray, List.set_cons_zero, List.set_cons_succ, List.getElem_toArray, List.getElem_cons_zero, List.getElem_cons_succ]
  refine Lex.want (v := ?_) (by rfl) (fun W hW => ?hd31) ?_
  case hd31 =>
    have hcc := hide (HPA.out _ _ _ W (HL4.out.step hW))
    go_simp
    exact hcc
  try simp only [Act.put, List.setIfInBounds_toArray, List.set_cons_zero, List.set_cons_succ, List.getElem_toArray, List.getElem_cons_zero, List.getElem_cons_succ]
  refine Lex.want (v := ?_) (by rfl) (fun W hW => ?hd32) ?_
  case hd32 =>
    have hh := HF.out W hW
    clear hW
    go_split_ands
    go_simp
    first | rfl | exact way_new.refl _ | exact way_grow.refl _ | (refine ⟨?_, way_new.refl _⟩; rfl) | (refine ⟨?_, way_grow.refl _⟩; rfl)
  try simp only [Act.put, List.setIfInBounds_toArray, List.set_cons_zero, List.set_cons_succ, List.getElem_toArray, List.getElem_cons_zero, List.getElem_cons_succ]
  refine Lex.want (v := ?_) (by rfl) (fun W hW => ?hd33) ?_
  case hd33 =>
    have hh := HF.out W hW
    clear hW
    go_split_ands
    go_simp
    first | rfl | exact way_new.refl _ | exact way_grow.refl _ | (refine ⟨?_, way_new.refl _⟩; rfl) | (refine ⟨?_, way_grow.refl _⟩; rfl)
  try simp only [Act.put, List.setIfInBounds_toArray, List.set_cons_zero, List.set_cons_succ, List.getElem_toArray, List.getElem_cons_zero, List.getElem_cons_succ]
  refine Lex.want (v := ?_) (by rfl) (fun W hW => ?hd34) ?_
  case hd34 =>
    have hh := HF.out W hW
    clear hW
    go_split_ands
    go_simp
    first | rfl | exact way_new.refl _ | exact way_grow.refl _ | (refine ⟨?_, way_new.refl _⟩; rfl) | (refine ⟨?_, way_grow.refl _⟩; rfl)
  try simp only [Act.put, List.setIfInBounds_toArray, List.set_cons_zero, List.set_cons_succ, List.getElem_toArray, List.getElem_cons_zero, List.getElem_cons_succ]
  refine Lex.want (v := ?_) (by rfl) (fun W hW => ?hd35) ?_
  case hd35 =>
    have hh := HF.out W hW
    clear hW
    go_split_ands
    go_simp
    first | rfl | exact way_new.refl _ | exact way_grow.refl _ | (refine ⟨?_, way_new.refl _⟩; rfl) | (refine ⟨?_, way_grow.refl _⟩; rfl)
  try simp only [Act.put, List.setIfInBounds_toArray, List.set_cons_zero, List.set_cons_succ, List.getElem_toArray, List.getElem_cons_zero, List.getElem_cons_succ]
  refine Lex.want (v := ?_) (by rfl) (fun W hW => ?hd36) ?_
  case hd36 =>
    have hh := HF.out W hW
    clear hW
    go_split_ands
    go_simp
    first | rfl | exact way_new.refl _ | exact way_grow.refl _ | (refine ⟨?_, way_new.refl _⟩; rfl) | (refine ⟨?_, way_grow.refl _⟩; rfl)
  try simp only [Act.put, List.setIfInBounds_toArray, List.set_cons_zero, List.set_cons_succ, List.getElem_toArray, List.getElem_cons_zero, List.getElem_cons_succ]
  refine Lex.want (v := ?_) (by rfl) (fun W hW => ?hd37) ?_
  case hd37 =>
    have hh := HF.out W hW
    clear hW
    go_split_ands
    go_simp
    first | rfl | exact way_new.refl _ | exact way_grow.refl _ | (refine ⟨?_, way_new.refl _⟩; rfl) | (refine ⟨?_, way_grow.refl _⟩; rfl)
  try simp only [Act.put, List.setIfInBounds_toArray, List.set_cons_zero, List.set_cons_succ, List.getElem_toArray, List.getElem_cons_zero, List.getElem_cons_succ]
  refine Lex.want (v := ?_) (by rfl) (fun W hW => ?hd38) ?_
  case hd38 =>
    have hh := HF.out W hW
    clear hW
    go_split_ands
    go_simp
    first | rfl | exact way_new.refl _ | exact way_grow.refl _ | (refine ⟨?_, way_new.refl _⟩; rfl) | (refine ⟨?_, way_grow.refl _⟩; rfl)
  try simp only [Act.put, List.setIfInBounds_toArray, List.set_cons_zero, List.set_cons_succ, List.getElem_toArray, List.getElem_cons_zero, List.getElem_cons_succ]
  refine Lex.want (v := ?_) (by rfl) (fun W hW => ?hd39) ?_
  case hd39 =>
    have hh := HF.out W hW
    clear hW
    go_split_ands
    go_simp
    first | rfl | exact way_new.refl _ | exact way_grow.refl _ | (refine ⟨?_, way_new.refl _⟩; rfl) | (refine ⟨?_, way_grow.refl _⟩; rfl)
  try simp only [Act.put, List.setIfInBounds_toArray, List.set_cons_zero, List.set_cons_succ, List.getElem_toArray, List.getElem_cons_zero, List.getElem_cons_succ]
  refine Lex.want (v := ?_) (by rfl) (fun W hW => ?hd40) ?_
  case hd40 =>
    have hh := HF.out W hW
    clear hW
    go_split_ands
    go_simp
    first | rfl | exact way_new.refl _ | exact way_grow.refl _ | (refine ⟨?_, way_new.refl _⟩; rfl) | (refine ⟨?_, way_grow.refl _⟩; rfl)
  try simp only [Act.put, List.setIfInBounds_toArray, List.set_cons_zero, List.set_cons_succ, List.getElem_toArray, List.getElem_cons_zero, List.getElem_cons_succ]
  refine Lex.want (v := ?_) (by rfl) (fun W hW => ?hd41) ?_
  case hd41 =>
    have hh := HF.out W hW
    clear hW
    go_split_ands
    go_simp
    first | rfl | exact way_new.refl _ | exact way_grow.refl _ | (refine ⟨?_, way_new.refl _⟩; rfl) | (refine ⟨?_, way_grow.refl _⟩; rfl)
  try simp only [Act.put, List.setIfInBounds_toArray, List.set_cons_zero, List.set_cons_succ, List.getElem_toArray, List.getElem_cons_zero, List.getElem_cons_succ]
  refine Lex.want (v := ?_) (by rfl) (fun W hW => ?hd42) ?_
  case hd42 =>
    have hcc := hide (HPB.out _ _ _ W (HL4.out.step hW))
    go_simp
    exact hcc
  try simp only [Act.put, List.setIfInBounds_toArray, List.set_cons_zero, List.set_cons_succ, List.getElem_toArray, List.getElem_cons_zero, List.getElem_cons_succ]
  refine Lex.want (v := ?_) (by rfl) (fun W hW => ?hd43) ?_
  case hd43 =>
    have hh := HF.out W hW
    clear hW
    go_split_ands
    go_simp
    first | rfl | exact way_new.refl _ | exact way_grow.refl _ | (refine ⟨?_, way_new.refl _⟩; rfl) | (refine ⟨?_, way_grow.refl _⟩; rfl)
  try simp only [Act.put, List.setIfInBounds_toArray, List.set_cons_zero, List.set_cons_succ, List.getElem_toArray, List.getElem_cons_zero, List.getElem_cons_succ]
  refine Lex.want (v := ?_) (by rfl) (fun W hW => ?hd44) ?_
  case hd44 =>
    have hh := HF.out W hW
    clear hW
    go_split_ands
    go_simp
    first | rfl | exact way_new.refl _ | exact way_grow.refl _ | (refine ⟨?_, way_new.refl _⟩; rfl) | (refine ⟨?_, way_grow.refl _⟩; rfl)
  try simp only [Act.put, List.setIfInBounds_toArray, List.set_cons_zero, List.set_cons_succ, List.getElem_toArray, List.getElem_cons_zero, List.getElem_cons_succ]
  refine Lex.want (v := ?_) (by rfl) (fun W hW => ?hd45) ?_
  case hd45 =>
    have hh := HF.out W hW
    clear hW
    go_split_ands
    go_simp
    first | rfl | exact way_new.refl _ | exact way_grow.refl _ | (refine ⟨?_, way_new.refl _⟩; rfl) | (refine ⟨?_, way_grow.refl _⟩; rfl)
  try simp only [Act.put, List.setIfInBounds_toArray, List.set_cons_zero, List.set_cons_succ, List.getElem_toArray, List.getElem_cons_zero, List.getElem_cons_succ]
  refine Lex.nil (hKT.out _ ?_)
  clear hKT KT
  refine Reg.done (by kernel_rfl) (fun W hW hWT => ⟨by kernel_rfl, ?_⟩)
  simp only [List.drop_succ_cons, List.drop_zero]
  have HL5 := hide (HL4.out.step hWT)
  clear hWT hW hsub2 HF
  rename_i w5
  go_wp2_with fail
  have HF2 : Hid (∀ W : World, (W.cell? ⟨g, 0, none⟩ = some (.pointer (some ⟨p, 0, none⟩)) ∧ W.cell? ⟨w1.heap.size, 0, none⟩ = some (.string a) ∧ W.cell? ⟨w1.heap.size, 1, none⟩ = some (.string { data := #[88] }) ∧ W.cell? ⟨w1.heap.size + 1, 0, none⟩ = some (.string b) ∧ W.cell? ⟨w1.heap.size + 1, 1, none⟩ = some (.string { data := #[88] })) → W.cell? ⟨g, 0, none⟩ = some (.pointer (some ⟨p, 0, none⟩)) ∧ W.cell? ⟨w1.heap.size, 0, none⟩ = some (.string a) ∧ W.cell? ⟨w1.heap.size, 1, none⟩ = some (.string { data := #[88] }) ∧ W.cell? ⟨w1.heap.size + 1, 0, none⟩ = some (.string b) ∧ W.cell? ⟨w1.heap.size + 1, 1, none⟩ = some (.string { data := #[88] })) := hide fun W h => h
  refine region_by (fun a b => a = b) way_eq 30 0 (fun W => W.cell? ⟨g, 0, none⟩ = some (.pointer (some ⟨p, 0, none⟩)) ∧ W.cell? ⟨w1.heap.size, 0, none⟩ = some (.string a) ∧ W.cell? ⟨w1.heap.size, 1, none⟩ = some (.string { data := #[88] }) ∧ W.cell? ⟨w1.heap.size + 1, 0, none⟩ = some (.string b) ∧ W.cell? ⟨w1.heap.size + 1, 1, none⟩ = some (.string { data := #[88] })) (by kernel_rfl) (by kernel_rfl) (fun _ _ d _ _ h => by cases d <;> exact h) (fun x y h hx => h ▸ hx) (HL5.out.step (Below.refl _ _).drew).facts (fun KT hKT => ?_)
  simp only [List.take_succ_cons, List.take_zero]
  refine Lex.nil (hKT.out _ ?_)
  clear hKT KT
  refine Reg.only 0 rfl (by decide) (by kernel_rfl) (fun W hW hT K hK => ?_)
  subst hW
  go_simp
  refine (alive11_calls _).mono ?_
  rintro e w6 ⟨rfl, hb6⟩
  have HL6 := hide ((HL5.out.step (Below.refl _ _).drew).step hb6)
  clear hb6
  refine hK.out _ _ (HL6.out.facts) (fun _ => ?_)
  clear hK K
  try simp only [Act.put, List.setIfInBounds_toArray, List.set_cons_zero, List.set_cons_succ, List.getElem_toArray, List.getElem_cons_zero, List.getElem_cons_succ]
  refine Reg.seg 1 5 way_eq (by kernel_rfl) (fun _ _ d _ _ h => by cases d <;> exact h) (fun KT hKT => ?_)
  simp only [List.take_succ_cons, List.take_zero, List.drop_succ_cons, List.drop_zero]
  refine Lex.want (v := ?_) (by rfl) (fun W hW => ?hd46) ?_
  case hd46 =>
    have hh := HF2.out W hW
    clear hW
    go_split_ands
    go_simp
    first | rfl | exact way_new.refl _ | exact way_grow.refl _ | (refine ⟨?_, way_new.refl _⟩; rfl) | (refine ⟨?_, way_grow.refl _⟩; rfl)
  try simp only [Act.put, List.setIfInBounds_toArray, List.set_cons_zero, List.set_cons_succ, List.getElem_toArray, List.getElem_cons_zero, List.getElem_cons_succ]
  refine Lex.want (v := ?_) (by rfl) (fun W hW => ?hd47) ?_
  case hd47 =>
    have hh := HF2.out W hW
    clear hW
    go_split_ands
    go_simp
    first | rfl | exact way_new.refl _ | exact way_grow.refl _ | (refine ⟨?_, way_new.refl _⟩; rfl) | (refine ⟨?_, way_grow.refl _⟩; rfl)
  try simp only [Act.put, List.setIfInBounds_toArray, List.set_cons_zero, List.set_cons_succ, List.getElem_toArray, List.getElem_cons_zero, List.getElem_cons_succ]
  refine Lex.want (v := ?_) (by rfl) (fun W hW => ?hd48) ?_
  case hd48 =>
    have hh := HF2.out W hW
    clear hW
    go_split_ands
    go_simp
    first | rfl | exact way_new.refl _ | exact way_grow.refl _ | (refine ⟨?_, way_new.refl _⟩; rfl) | (refine ⟨?_, way_grow.refl _⟩; rfl)
  try simp only [Act.put, List.setIfInBounds_toArray, List.set_cons_zero, List.set_cons_succ, List.getElem_toArray, List.getElem_cons_zero, List.getElem_cons_succ]
  refine Lex.want (v := ?_) (by rfl) (fun W hW => ?hd49) ?_
  case hd49 =>
    have hh := HF2.out W hW
    clear hW
    go_split_ands
    go_simp
    first | rfl | exact way_new.refl _ | exact way_grow.refl _ | (refine ⟨?_, way_new.refl _⟩; rfl) | (refine ⟨?_, way_grow.refl _⟩; rfl)
  try simp only [Act.put, List.setIfInBounds_toArray, List.set_cons_zero, List.set_cons_succ, List.getElem_toArray, List.getElem_cons_zero, List.getElem_cons_succ]
  refine Lex.want (v := ?_) (by rfl) (fun W hW => ?hd50) ?_
  case hd50 =>
    have hh := HF2.out W hW
    clear hW
    go_split_ands
    go_simp
    first | rfl | exact way_new.refl _ | exact way_grow.refl _ | (refine ⟨?_, way_new.refl _⟩; rfl) | (refine ⟨?_, way_grow.refl _⟩; rfl)
  try simp only [Act.put, List.setIfInBounds_toArray, List.set_cons_zero, List.set_cons_succ, List.getElem_toArray, List.getElem_cons_zero, List.getElem_cons_succ]
  refine Lex.nil (hKT.out _ ?_)
  clear hKT KT
  refine Reg.only 6 rfl (by decide) (by kernel_rfl) (fun W hW hT K hK => ?_)
  subst hW
  go_simp
  refine (move_calls _ _ _ _ _ (by omega) (by omega)).mono ?_
  rintro e w' ⟨rfl, rfl⟩
  refine hK.out _ _ ((HL6.out.step ((Below.refl _ _).alloc (Nat.le_refl _) _)).facts) (fun _ => ?_)
  clear hK K
  try simp only [Act.put, List.setIfInBounds_toArray, List.set_cons_zero, List.set_cons_succ, List.getElem_toArray, List.getElem_cons_zero, List.getElem_cons_succ]
  refine Reg.only 7 rfl (by decide) (by kernel_rfl) (fun W hW hT K hK => ?_)
  subst hW
  go_simp
  refine (HMV2.out _ _ _ _ HL6.out).mono ?_
  rintro e w7 ⟨rfl, h9⟩
  have HL7 := hide h9
  clear h9
  refine hK.out _ _ (HL7.out.facts) (fun _ => ?_)
  clear hK K
  try simp only [Act.put, List.setIfInBounds_toArray, List.set_cons_zero, List.set_cons_succ, List.getElem_toArray, List.getElem_cons_zero, List.getElem_cons_succ]
  refine Reg.seg 8 8 way_eq (by kernel_rfl) (fun _ _ d _ _ h => by cases d <;> exact h) (fun KT hKT => ?_)
  simp only [List.take_succ_cons, List.take_zero, List.drop_succ_cons, List.drop_zero]
  refine Lex.want (v := ?_) (by rfl) (fun W hW => ?hd51) ?_
  case hd51 =>
    have hh := HF2.out W hW
    clear hW
    go_split_ands
    go_simp
    first | rfl | exact way_new.refl _ | exact way_grow.refl _ | (refine ⟨?_, way_new.refl _⟩; rfl) | (refine ⟨?_, way_grow.refl _⟩; rfl)
  try simp only [Act.put, List.setIfInBounds_toArray, List.set_cons_zero, List.set_cons_succ, List.getElem_toArray, List.getElem_cons_zero, List.getElem_cons_succ]
  refine Lex.want (v := ?_) (by rfl) (fun W hW => ?hd52) ?_
  case hd52 =>
    have hh := HF2.out W hW
    clear hW
    go_split_ands
    go_simp
    first | rfl | exact way_new.refl _ | exact way_grow.refl _ | (refine ⟨?_, way_new.refl _⟩; rfl) | (refine ⟨?_, way_grow.refl _⟩; rfl)
  try simp only [Act.put, List.setIfInBounds_toArray, List.set_cons_zero, List.set_cons_succ, List.getElem_toArray, List.getElem_cons_zero, List.getElem_cons_succ]
  refine Lex.want (v := ?_) (by rfl) (fun W hW => ?hd53) ?_
  case hd53 =>
    have hh := HF2.out W hW
    clear hW
    go_split_ands
    go_simp
    first | rfl | exact way_new.refl _ | exact way_grow.refl _ | (refine ⟨?_, way_new.refl _⟩; rfl) | (refine ⟨?_, way_grow.refl _⟩; rfl)
  try simp only [Act.put, List.setIfInBounds_toArray, List.set_cons_zero, List.set_cons_succ, List.getElem_toArray, List.getElem_cons_zero, List.getElem_cons_succ]
  refine Lex.want (v := ?_) (by rfl) (fun W hW => ?hd54) ?_
  case hd54 =>
    have hh := HF2.out W hW
    clear hW
    go_split_ands
    go_simp
    first | rfl | exact way_new.refl _ | exact way_grow.refl _ | (refine ⟨?_, way_new.refl _⟩; rfl) | (refine ⟨?_, way_grow.refl _⟩; rfl)
  try simp only [Act.put, List.setIfInBounds_toArray, List.set_cons_zero, List.set_cons_succ, List.getElem_toArray, List.getElem_cons_zero, List.getElem_cons_succ]
  refine Lex.want (v := ?_) (by rfl) (fun W hW => ?hd55) ?_
  case hd55 =>
    have hh := HF2.out W hW
    clear hW
    go_split_ands
    go_simp
    first | rfl | exact way_new.refl _ | exact way_grow.refl _ | (refine ⟨?_, way_new.refl _⟩; rfl) | (refine ⟨?_, way_grow.refl _⟩; rfl)
  try simp only [Act.put, List.setIfInBounds_toArray, List.set_cons_zero, List.set_cons_succ, List.getElem_toArray, List.getElem_cons_zero, List.getElem_cons_succ]
  refine Lex.want (v := ?_) (by rfl) (fun W hW => ?hd56) ?_
  case hd56 =>
    have hh := HF2.out W hW
    clear hW
    go_split_ands
    go_simp
    first | rfl | exact way_new.refl _ | exact way_grow.refl _ | (refine ⟨?_, way_new.refl _⟩; rfl) | (refine ⟨?_, way_grow.refl _⟩; rfl)
  try simp only [Act.put, List.setIfInBounds_toArray, List.set_cons_zero, List.set_cons_succ, List.getElem_toArray, List.getElem_cons_zero, List.getElem_cons_succ]
  refine Lex.want (v := ?_) (by rfl) (fun W hW => ?hd57) ?_
  case hd57 =>
    have hh := HF2.out W hW
    clear hW
    go_split_ands
    go_simp
    first | rfl | exact way_new.refl _ | exact way_grow.refl _ | (refine ⟨?_, way_new.refl _⟩; rfl) | (refine ⟨?_, way_grow.refl _⟩; rfl)
  try simp only [Act.put, List.setIfInBounds_toArray, List.set_cons_zero, List.set_cons_succ, List.getElem_toArray, List.getElem_cons_zero, List.getElem_cons_succ]
  refine Lex.want (v := ?_) (by rfl) (fun W hW => ?hd58) ?_
  case hd58 =>
    have hh := HF2.out W hW
    clear hW
    go_split_ands
    go_simp
    first | rfl | exact way_new.refl _ | exact way_grow.refl _ | (refine ⟨?_, way_new.refl _⟩; rfl) | (refine ⟨?_, way_grow.refl _⟩; rfl)
  try simp only [Act.put, List.setIfInBounds_toArray, List.set_cons_zero, List.set_cons_succ, List.getElem_toArray, List.getElem_cons_zero, List.getElem_cons_succ]
  refine Lex.nil (hKT.out _ ?_)
  clear hKT KT
  refine Reg.take 17 (v := ?_) way_eq (by kernel_rfl) rfl (by decide) (by kernel_rfl) (by kernel_rfl) (fun _ _ _ h => h) (Or.inl ⟨by rfl, fun W hW => ?hd59⟩) ?_
  case hd59 =>
    have hh := HF2.out W hW
    clear hW
    go_split_ands
    go_simp
    first | rfl | exact way_new.refl _ | exact way_grow.refl _ | (refine ⟨?_, way_new.refl _⟩; rfl) | (refine ⟨?_, way_grow.refl _⟩; rfl)
  try simp only [Act.put, List.setIfInBounds_toArray, List.set_cons_zero, List.set_cons_succ, List.getElem_toArray, List.getElem_cons_zero, List.getElem_cons_succ]
  refine Reg.only 16 rfl (by decide) (by kernel_rfl) (fun W hW hT K hK => ?_)
  subst hW
  go_simp
  refine (HPA3.out _ _ _ _ HL7.out).mono ?_
  rintro e w8 ⟨rfl, h9⟩
  have HL8 := hide (HL7.out.step h9)
  clear h9
  refine hK.out _ _ (HL8.out.facts) (fun _ => ?_)
  clear hK K
  try simp only [Act.put, List.setIfInBounds_toArray, List.set_cons_zero, List.set_cons_succ, List.getElem_toArray, List.getElem_cons_zero, List.getElem_cons_succ]
  refine Reg.seg 18 8 way_eq (by kernel_rfl) (fun _ _ d _ _ h => by cases d <;> exact h) (fun KT hKT => ?_)
  simp only [List.take_succ_cons, List.take_zero, List.drop_succ_cons, List.drop_zero]
  refine Lex.want (v := ?_) (by rfl) (fun W hW => ?hd60) ?_
  case hd60 =>
    have hh := HF2.out W hW
    clear hW
    go_split_ands
    go_simp
    first | rfl | exact way_new.refl _ | exact way_grow.refl _ | (refine ⟨?_, way_new.refl _⟩; rfl) | (refine ⟨?_, way_grow.refl _⟩; rfl)
  try simp only [Act.put, List.setIfInBounds_toArray, List.set_cons_zero, List.set_cons_succ, List.getElem_toArray, List.getElem_cons_zero, List.getElem_cons_succ]
  refine Lex.want (v := ?_) (by rfl) (fun W hW => ?hd61) ?_
  case hd61 =>
    have hh := HF2.out W hW
    clear hW
    go_split_ands
    go_simp
    first | rfl | exact way_new.refl _ | exact way_grow.refl _ | (refine ⟨?_, way_new.refl _⟩; rfl) | (refine ⟨?_, way_grow.refl _⟩; rfl)
  try simp only [Act.put, List.setIfInBounds_toArray, List.set_cons_zero, List.set_cons_succ, List.getElem_toArray, List.getElem_cons_zero, List.getElem_cons_succ]
  refine Lex.want (v := ?_) (by rfl) (fun W hW => ?hd62) ?_
  case hd62 =>
    have hh := HF2.out W hW
    clear hW
    go_split_ands
    go_simp
    first | rfl | exact way_new.refl _ | exact way_grow.refl _ | (refine ⟨?_, way_new.refl _⟩; rfl) | (refine ⟨?_, way_grow.refl _⟩; rfl)
  try simp only [Act.put, List.setIfInBounds_toArray, List.set_cons_zero, List.set_cons_succ, List.getElem_toArray, List.getElem_cons_zero, List.getElem_cons_succ]
  refine Lex.want (v := ?_) (by rfl) (fun W hW => ?hd63) ?_
  case hd63 =>
    have hh := HF2.out W hW
    clear hW
    go_split_ands
    go_simp
    first | rfl | exact way_new.refl _ | exact way_grow.refl _ | (refine ⟨?_, way_new.refl _⟩; rfl) | (refine ⟨?_, way_grow.refl _⟩; rfl)
  try simp only [Act.put, List.setIfInBounds_toArray, List.set_cons_zero, List.set_cons_succ, List.getElem_toArray, List.getElem_cons_zero, List.getElem_cons_succ]
  refine Lex.want (v := ?_) (by rfl) (fun W hW => ?hd64) ?_
  case hd64 =>
    have hh := HF2.out W hW
    clear hW
    go_split_ands
    go_simp
    first | rfl | exact way_new.refl _ | exact way_grow.refl _ | (refine ⟨?_, way_new.refl _⟩; rfl) | (refine ⟨?_, way_grow.refl _⟩; rfl)
  try simp only [Act.put, List.setIfInBounds_toArray, List.set_cons_zero, List.set_cons_succ, List.getElem_toArray, List.getElem_cons_zero, List.getElem_cons_succ]
  refine Lex.want (v := ?_) (by rfl) (fun W hW => ?hd65) ?_
  case hd65 =>
    have hh := HF2.out W hW
    clear hW
    go_split_ands
    go_simp
    first | rfl | exact way_new.refl _ | exact way_grow.refl _ | (refine ⟨?_, way_new.refl _⟩; rfl) | (refine ⟨?_, way_grow.refl _⟩; rfl)
  try simp only [Act.put, List.setIfInBounds_toArray, List.set_cons_zero, List.set_cons_succ, List.getElem_toArray, List.getElem_cons_zero, List.getElem_cons_succ]
  refine Lex.want (v := ?_) (by rfl) (fun W hW => ?hd66) ?_
  case hd66 =>
    have hh := HF2.out W hW
    clear hW
    go_split_ands
    go_simp
    first | rfl | exact way_new.refl _ | exact way_grow.refl _ | (refine ⟨?_, way_new.refl _⟩; rfl) | (refine ⟨?_, way_grow.refl _⟩; rfl)
  try simp only [Act.put, List.setIfInBounds_toArray, List.set_cons_zero, List.set_cons_succ, List.getElem_toArray, List.getElem_cons_zero, List.getElem_cons_succ]
  refine Lex.want (v := ?_) (by rfl) (fun W hW => ?hd67) ?_
  case hd67 =>
    have hh := HF2.out W hW
    clear hW
    go_split_ands
    go_simp
    first | rfl | exact way_new.refl _ | exact way_grow.refl _ | (refine ⟨?_, way_new.refl _⟩; rfl) | (refine ⟨?_, way_grow.refl _⟩; rfl)
  try simp only [Act.put, List.setIfInBounds_toArray, List.set_cons_zero, List.set_cons_succ, List.getElem_toArray, List.getElem_cons_zero, List.getElem_cons_succ]
  refine Lex.nil (hKT.out _ ?_)
  clear hKT KT
  refine Reg.only 26 rfl (by decide) (by kernel_rfl) (fun W hW hT K hK => ?_)
  subst hW
  go_simp
  refine (HPB3.out _ _ _ _ HL8.out).mono ?_
  rintro e w9 ⟨rfl, h9⟩
  have HL9 := hide (HL8.out.step h9)
  clear h9
  refine hK.out _ _ (HL9.out.facts) (fun _ => ?_)
  clear hK K
  try simp only [Act.put, List.setIfInBounds_toArray, List.set_cons_zero, List.set_cons_succ, List.getElem_toArray, List.getElem_cons_zero, List.getElem_cons_succ]
  refine Reg.seg 27 3 way_eq (by kernel_rfl) (fun _ _ d _ _ h => by cases d <;> exact h) (fun KT hKT => ?_)
  simp only [List.take_succ_cons, List.take_zero, List.drop_succ_cons, List.drop_zero]
  refine Lex.want (v := ?_) (by rfl) (fun W hW => ?hd68) ?_
  case hd68 =>
    have hh := HF2.out W hW
    clear hW
    go_split_ands
    go_simp
    first | rfl | exact way_new.refl _ | exact way_grow.refl _ | (refine ⟨?_, way_new.refl _⟩; rfl) | (refine ⟨?_, way_grow.refl _⟩; rfl)
  try simp only [Act.put, List.setIfInBounds_toArray, List.set_cons_zero, List.set_cons_succ, List.getElem_toArray, List.getElem_cons_zero, List.getElem_cons_succ]
  refine Lex.want (v := ?_) (by rfl) (fun W hW => ?hd69) ?_
  case hd69 =>
    have hh := HF2.out W hW
    clear hW
    go_split_ands
    go_simp
    first | rfl | exact way_new.refl _ | exact way_grow.refl _ | (refine ⟨?_, way_new.refl _⟩; rfl) | (refine ⟨?_, way_grow.refl _⟩; rfl)
  try simp only [Act.put, List.setIfInBounds_toArray, List.set_cons_zero, List.set_cons_succ, List.getElem_toArray, List.getElem_cons_zero, List.getElem_cons_succ]
  refine Lex.want (v := ?_) (by rfl) (fun W hW => ?hd70) ?_
  case hd70 =>
    have hh := HF2.out W hW
    clear hW
    go_split_ands
    go_simp
    first | rfl | exact way_new.refl _ | exact way_grow.refl _ | (refine ⟨?_, way_new.refl _⟩; rfl) | (refine ⟨?_, way_grow.refl _⟩; rfl)
  try simp only [Act.put, List.setIfInBounds_toArray, List.set_cons_zero, List.set_cons_succ, List.getElem_toArray, List.getElem_cons_zero, List.getElem_cons_succ]
  refine Lex.nil (hKT.out _ ?_)
  clear hKT KT
  refine Reg.done (by kernel_rfl) (fun W hW hWT => ⟨by kernel_rfl, ?_⟩)
  simp only [List.drop_succ_cons, List.drop_zero]
  subst hW
  go_wp2_with fail
  go_ret
  exact ⟨rfl, HL9.out.1.below⟩

/-- PostMoves returns true, whatever it is called with. -/
theorem postMoves_walk (a b : ByteArray) (n m : Int) (w : World) (h1 : a.size ≤ maxLen) (h2 : b.size ≤ maxLen) (_h3 : (Lit.int .i64 n).wf = true) (_h4 : (Lit.int .i64 m).wf = true) :
    Calls Try.prog 9 #[.string a, .string b, .int .i64 n, .int .i64 m] w fun e w' => e = .returned (.bool true) ∧ Below w.heap.size w w' := by
  by_cases h : n < 0 ∨ 1099511627776 < n ∨ m < 0 ∨ 1099511627776 < m ∨ 100 < a.size ∨ 100 < b.size ∨ a = b
  · exact postMoves_odd a b n m w h1 h2 h
  · simp only [not_or] at h
    obtain ⟨c1, c2, c3, c4, c5, c6, c7⟩ := h
    by_cases hlt : n - m < 0
    · exact postMoves_low a b n m w (by omega) (by omega) c7 (by omega) (by omega) (by omega) (by omega) hlt
    · exact postMoves_high a b n m w (by omega) (by omega) c7 (by omega) (by omega) (by omega) (by omega) hlt
end Go.Proofs.Ytmhmjbggjbeikaa
