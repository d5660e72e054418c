/- PostShifts: the walk. -/
import Derived.Test.YtmhmjbggjbeikaaAlive11
import Derived.Test.YtmhmjbggjbeikaaBlock
namespace Go.Proofs.Ytmhmjbggjbeikaa
set_option linter.unusedSimpArgs false
set_option linter.unusedVariables false
open Go.RowKit
attribute [local go_sem] objAt_alloc objAt_alloc_at objAt_drew objAt_drewN objAt_setCell comesTo_value comesTo_enter

namespace Shifts
/-- The ledger holds L; a box lies there, with a key. -/
def Box1 (w : World) (g p s : Nat) (x : Key) (L : Led) (W : World) : Prop :=
  Leds w g p L (fun j => j = s) W ∧ W.heap[s]? = some (.cells #[.string x.1, .string x.2] 24 (0, 0))
section
variable {w W W' : World} {g p s : Nat} {x : Key} {L L' : Led}
theorem Box1.step (h : Box1 w g p s x L W) (hb : Below W.heap.size W W') : Box1 w g p s x L W' := by
  obtain ⟨h1, h2⟩ := h
  exact ⟨h1.step hb, (hb.block _ (Array.getElem?_eq_some_iff.1 h2).1).trans h2⟩
theorem Box1.drew (h : Box1 w g p s x L W) : Box1 w g p s x L W.drew := h.step (Below.refl _ _).drew
theorem Box1.turn (h : Box1 w g p s x L W) (h1 : Leds w g p L' (fun j => j = s) W') (hk : Kept (fun j => j = s) W W') : Box1 w g p s x L' W' := ⟨h1, (hk s rfl).trans h.2⟩
theorem Box1.facts (h : Box1 w g p s x L W) : W.cell? ⟨g, 0, none⟩ = some (.pointer (some ⟨p, 0, none⟩)) ∧ W.cell? ⟨s, 0, none⟩ = some (.string x.1) ∧ W.cell? ⟨s, 1, none⟩ = some (.string x.2) :=
  ⟨h.1.cell.1, by simp [World.cell?, h.2], by simp [World.cell?, h.2]⟩
theorem box1_new {x1 x2 : ByteArray} (h : Leds w g p L (fun _ => False) W) : Box1 w g p W.heap.size (x1, x2) L (W.alloc (.cells #[.string x1, .string x2] 24)) :=
  ⟨h.keep ((Below.refl _ _).alloc (Nat.le_refl _) _) _ (fun j hj => .inr ⟨by omega, by simp; omega⟩), heap_alloc_new W _⟩
theorem b1_issue (k1 k2 : ByteArray) (by_ : Int) (h : Box1 w g p s x L W) (hs1 : shortText k1) (hs2 : shortText k2) (hf1 : within by_ → -9223372036854775808 ≤ issOf L.iss k2 + by_) (hf2 : within by_ → issOf L.iss k2 + by_ ≤ 9223372036854775807) :
    Calls Try.prog 25 #[.pointer (some ⟨g, 0, none⟩), .agg #[.string k1, .string k2], .int .i64 by_] W fun e w' => e = .returned (.int .i64 (issueErr L (k1, k2) by_)) ∧ Box1 w g p s x (issueLed L (k1, k2) by_) w' :=
  (ls_issue k1 k2 by_ h.1 hs1 hs2 hf1 hf2).mono fun e w' ⟨h1, h2, h3⟩ => ⟨h1, h.turn h2 h3⟩
theorem b1_block (k1 k2 : ByteArray) (on : Bool) (h : Box1 w g p s x L W) (hs1 : shortText k1) (hs2 : shortText k2) :
    Calls Try.prog 31 #[.pointer (some ⟨g, 0, none⟩), .agg #[.string k1, .string k2], .bool on] W fun e w' => e = .returned (.tuple #[]) ∧ Box1 w g p s x (blockLed L (k1, k2) on) w' := by
  obtain ⟨⟨F, q1, q2, q3, q4⟩, hx⟩ := h
  refine (block_calls g p F L k1 k2 on W q1 hs1 hs2).mono fun e w' ⟨e1, F', r1, r2, r3⟩ => ⟨e1, ⟨F', r1, fun j hj => ?_, q3.trans (r2.below q3.size fun j hj => (q2 j hj).1), fun j hj => Nat.lt_of_lt_of_le (q4 j hj) r2.size⟩, (r2.block s (q4 s rfl) (fun e => (q2 s e).2 rfl)).trans hx⟩
  rcases r3 j hj with e | e
  · exact q2 j e
  · exact ⟨Nat.le_trans q3.size e, fun e2 => by have := q4 j e2; omega⟩
def shiftPosts (k : Key) (f t y : Int) : List PPost := [⟨k, f, -y⟩, ⟨k, t, y⟩]
/-- Apply of a shift, as a call of Shift and one of Apply leave it. -/
theorem b1_shift (k1 k2 : ByteArray) (f t y : Int) (c : Nat) (hs1 : shortText k1) (hs2 : shortText k2) (h : Box1 w g p s x L W) :
    Calls Try.prog 29 #[.pointer (some ⟨g, 0, none⟩), .slice (some ⟨W.heap.size + 1, 0, none⟩) 2 c] ((W.alloc (.cells #[.string k1, .string k2] 24)).alloc (.cells #[.string k1, .string k2, .int .i64 f, .int .i64 (-y), .string k1, .string k2, .int .i64 t, .int .i64 y] 51)) fun e w' =>
      e = .returned (.int .i64 (lookErr L (shiftPosts (k1, k2) f t y))) ∧ Box1 w g p s x (applyLed L (shiftPosts (k1, k2) f t y)) w' := by
  have hb : Below W.heap.size W ((W.alloc (.cells #[.string k1, .string k2] 24)).alloc (.cells #[.string k1, .string k2, .int .i64 f, .int .i64 (-y), .string k1, .string k2, .int .i64 t, .int .i64 y] 51)) := ((Below.refl _ _).alloc (Nat.le_refl _) _).alloc (by simp) _
  have h1 := h.step hb
  have hcell := heap_alloc_new (W.alloc (.cells #[.string k1, .string k2] 24)) (.cells #[.string k1, .string k2, .int .i64 f, .int .i64 (-y), .string k1, .string k2, .int .i64 t, .int .i64 y] 51)
  have hsz : (W.alloc (.cells #[.string k1, .string k2] 24)).heap.size = W.heap.size + 1 := by simp
  rw [hsz] at hcell
  refine (ls_apply _ 2 c (shiftPosts (k1, k2) f t y) rfl (by decide) (posts_two (w := W) (p := ⟨(k1, k2), f, -y⟩) (q := ⟨(k1, k2), t, y⟩) hcell) (fun q hq => ?_) h1.1).mono fun e w' ⟨e1, e2, e3⟩ => ⟨e1, h1.turn e2 e3⟩
  simp only [shiftPosts, List.mem_cons, List.not_mem_nil, or_false] at hq
  rcases hq with rfl | rfl <;> exact ⟨hs1, hs2⟩
end

/-! ### plain -/
theorem shift_parts (k : Key) (f t y : Int) (hft : f ≠ t) : numsOf PPost.part PPost.by_ (shiftPosts k f t y) (k, f) = [-y] ∧ numsOf PPost.part PPost.by_ (shiftPosts k f t y) (k, t) = [y] ∧ ∀ q, q ≠ (k, f) → q ≠ (k, t) → numsOf PPost.part PPost.by_ (shiftPosts k f t y) q = [] := by
  have htf : ¬ t = f := fun e => hft e.symm
  refine ⟨by simp [numsOf, shiftPosts, PPost.part, htf], by simp [numsOf, shiftPosts, PPost.part, hft], fun q h1 h2 => ?_⟩
  have h1' : ¬ (k, f) = q := fun e => h1 e.symm
  have h2' : ¬ (k, t) = q := fun e => h2 e.symm
  simp [numsOf, shiftPosts, PPost.part, h1', h2']
theorem shift_look (L : Led) (k : Key) (f t y : Int) (hf : isPart f) (ht : isPart t) (hft : f ≠ t) (h0 : 0 ≤ y) (h1 : y ≤ 1099511627776) (hg : GoodPos L.m) (hr : posPart L.m k t + y ≤ 1152921504606846976) :
    lookErr L (shiftPosts k f t y) = netErr (posPart L.m k f) f (-y) false (isBlk L.blk k) := by
  obtain ⟨n1, n2, _⟩ := shift_parts k f t y hft
  have hvt := posPart_ok hg k t
  have hok : ∀ p ∈ shiftPosts k f t y, okPost p := fun p hp => by
    simp only [shiftPosts, List.mem_cons, List.not_mem_nil, or_false] at hp
    rcases hp with rfl | rfl
    · exact ⟨hf, by unfold within; simp only; omega⟩
    · exact ⟨ht, by unfold within; simp only; omega⟩
  rw [look_of (by simp [shiftPosts]) hok (fun a => by
    unfold sumOf shiftPosts
    by_cases h : k.2 = a
    · simp [h]; omega
    · simp [h])]
  have eA : netErrOf L (netAt (shiftPosts k f t y) (k, f)) = netErr (posPart L.m k f) f (-y) false (isBlk L.blk k) := by
    rw [netAt_one n1 (by unfold fits; omega)]
    rfl
  have eB : netErrOf L (netAt (shiftPosts k f t y) (k, t)) = 0 := by
    rw [netAt_one n2 (by unfold fits; omega)]
    show netErr (posPart L.m k t) t y false (isBlk L.blk k) = 0
    rw [netErr_plain _ _ _ _ (by rintro ⟨_, h, _⟩; omega), if_neg (by omega), if_neg (by omega)]
  have hmem : ∀ z ∈ netsB (shiftPosts k f t y), z = netAt (shiftPosts k f t y) (k, f) ∨ z = netAt (shiftPosts k f t y) (k, t) := fun z hz => by
    obtain ⟨p, hp, rfl⟩ := nets_mem hz
    simp only [shiftPosts, List.mem_cons, List.not_mem_nil, or_false] at hp
    rcases hp with rfl | rfl
    · exact .inl rfl
    · exact .inr rfl
  refine firstErr_one (fun z hz => ?_) ⟨_, nets_has (p := ⟨k, f, -y⟩) (by simp [shiftPosts]), eA⟩
  rcases hmem z hz with rfl | rfl
  · exact .inr eA
  · exact .inl eB
theorem shift_does {L : Led} {k : Key} {f t y : Int} (hft : f ≠ t) (h : lookErr L (shiftPosts k f t y) = 0) (hg : GoodPos L.m) (ha : Apart L.m) :
    GoodPos (applyLed L (shiftPosts k f t y)).m ∧ Apart (applyLed L (shiftPosts k f t y)).m ∧ (∀ s, posPart (applyLed L (shiftPosts k f t y)).m k s = posPart L.m k s + if s = f then -y else if s = t then y else 0) ∧ (applyLed L (shiftPosts k f t y)).blk = L.blk := by
  obtain ⟨h1, h2, h3, h4, h5, h6⟩ := apply_does h hg ha
  obtain ⟨n1, n2, n3⟩ := shift_parts k f t y hft
  refine ⟨h1, h2, fun s => ?_, h6⟩
  rw [h3]
  congr 1
  unfold partSum
  by_cases e1 : s = f
  · rw [if_pos e1, e1, n1]; simp
  · rw [if_neg e1]
    by_cases e2 : s = t
    · rw [if_pos e2, e2, n2]; simp
    · rw [if_neg e2, n3 _ (fun h => e1 (congrArg Prod.snd h)) (fun h => e2 (congrArg Prod.snd h))]; rfl
theorem whole3 (m : List (Key × Three)) (k : Key) : posWhole m k = accAdd [posPart m k 0, posPart m k 1, posPart m k 2] := by
  unfold posWhole list3
  have h : ∀ s, posPart m k s = if isPart s then part3 (posGet m k) s else 0 := fun s => rfl
  rw [h 0, h 1, h 2, if_pos (by decide), if_pos (by decide), if_pos (by decide)]
  rfl
theorem acc3 {a b c n : Int} (h : a + b + c = n) (h0 : 0 ≤ n) (h1 : n ≤ 1099511627776) : accAdd [a, b, c] = n := by
  have : ([a, b, c] : List Int).sum = n := by simp; omega
  rw [accAdd_fit (by omega) (by omega), this]
abbrev kk : Key := (tA, tX)
/-- After the issue and the block. -/
def L2 (n : Int) (blocked : Bool) : Led := blockLed (issueLed led0 kk n) kk blocked
def L3 (n m : Int) (blocked : Bool) : Led := applyLed (L2 n blocked) (shiftPosts kk 0 2 m)
def L4 (n m : Int) : Led := blockLed (L3 n m false) kk true
theorem l2_facts (n : Int) (blocked : Bool) (h1 : 0 ≤ n) (h2 : n ≤ 1099511627776) :
    issueErr led0 kk n = 0 ∧ GoodPos (L2 n blocked).m ∧ Apart (L2 n blocked).m ∧ (∀ s, posPart (L2 n blocked).m kk s = if s = 0 then n else 0) ∧ isBlk (L2 n blocked).blk kk = blocked ∧ issOf (L2 n blocked).iss tX = n := by
  obtain ⟨i1, i2, i3, i4, i5, i6⟩ := issue_first kk n h1 h2
  have hm : (L2 n blocked).m = (issueLed led0 kk n).m := rfl
  have hi : (L2 n blocked).iss = (issueLed led0 kk n).iss := rfl
  have hgood : GoodPos (issueLed led0 kk n).m ∧ Apart (issueLed led0 kk n).m := by
    have h : (issueLed led0 kk n).m = addMap [] kk 0 n := by
      unfold issueLed
      rw [if_neg (not_not_intro i1)]
      rfl
    rw [h]
    exact ⟨good_add (fun p hp => by simp at hp) _ _ _, apart_add apart_nil _ _ _⟩
  refine ⟨i1, by rw [hm]; exact hgood.1, by rw [hm]; exact hgood.2, fun s => ?_, ?_, by rw [hi]; exact i4⟩
  · rw [hm, i2]
    by_cases e : s = 0
    · rw [if_pos ⟨rfl, e.symm⟩, if_pos e]
    · rw [if_neg (fun h => e h.2.symm), if_neg e]
  · unfold L2 blockLed
    rw [i5]
    cases blocked with
    | true => simp [isBlk, del, put, look]
    | false => simp [isBlk, del, look]
theorem shifts_plain (n m : Int) (blocked : Bool) (h1 : 0 ≤ n) (h2 : n ≤ 1099511627776) (h3 : 1 ≤ m) (h4 : m ≤ 1099511627776) :
    issueErr led0 kk n = 0 ∧ lookErr (L2 n blocked) (shiftPosts kk 0 2 m) = (if blocked = true then 35 else if n < m then 30 else 0) ∧ posWhole (L3 n m blocked).m kk = n ∧
    (blocked = true → L3 n m blocked = L2 n blocked ∧ issueErr (L2 n blocked) kk (-1) = 35 ∧ issueErr (L2 n blocked) kk 1 = 0 ∧ isBlk (issueLed (L2 n blocked) kk 1).blk kk = true ∧ issOf (L2 n blocked).iss tX = n) ∧
    (blocked = false → m ≤ n → posPart (L4 n m).m kk 2 = m ∧ lookErr (L4 n m) (shiftPosts kk 2 0 m) = 0 ∧ posPart (applyLed (L4 n m) (shiftPosts kk 2 0 m)).m kk 0 = n) := by
  obtain ⟨i1, g1, g2, g3, g4, g5⟩ := l2_facts n blocked h1 h2
  have hlk : lookErr (L2 n blocked) (shiftPosts kk 0 2 m) = (if blocked = true then 35 else if n < m then 30 else 0) := by
    rw [shift_look _ kk 0 2 m (by decide) (by decide) (by decide) (by omega) h4 g1 (by rw [g3]; simp; omega), g3, g4, if_pos rfl]
    cases blocked with
    | true =>
      unfold netErr
      rw [if_pos ⟨rfl, by omega, rfl⟩]
      rfl
    | false =>
      rw [netErr_plain _ _ _ _ (by simp)]
      by_cases hc : n < m
      · rw [if_pos (by omega), if_neg (by decide), if_pos hc]
      · rw [if_neg (by omega), if_neg (by omega), if_neg (by decide), if_neg hc]
  have hw2 : posWhole (L2 n blocked).m kk = n := by
    rw [whole3, g3, g3, g3]
    exact acc3 (by simp) h1 h2
  have href : lookErr (L2 n blocked) (shiftPosts kk 0 2 m) ≠ 0 → L3 n m blocked = L2 n blocked := fun h => by
    unfold L3 applyLed
    rw [if_pos h]
  refine ⟨i1, hlk, ?_, fun hb => ?_, fun hb hmn => ?_⟩
  · by_cases h0 : lookErr (L2 n blocked) (shiftPosts kk 0 2 m) = 0
    · obtain ⟨d1, d2, d3, d4⟩ := shift_does (by decide) h0 g1 g2
      rw [whole3]
      unfold L3
      rw [d3, d3, d3, g3, g3, g3]
      exact acc3 (by simp; omega) h1 h2
    · rw [href h0]; exact hw2
  · rw [hb, if_pos rfl] at hlk
    subst hb
    have e1 : issueErr (L2 n true) kk 1 = 0 := by
      unfold issueErr
      rw [if_neg (not_not_intro (by unfold within; omega)), if_neg (by omega), if_neg (by rw [g5]; omega)]
      exact addErr_of (by decide) (by unfold within; omega) (by rw [g3, if_pos rfl]; unfold okPart; omega)
    refine ⟨href (by rw [hlk]; decide), ?_, e1, ?_, g5⟩
    · unfold issueErr
      rw [if_neg (not_not_intro (by unfold within; omega)), if_pos ⟨by omega, g4⟩]
    · unfold issueLed
      rw [if_neg (not_not_intro e1)]
      exact g4
  · subst hb
    rw [if_neg (by decide), if_neg (by omega)] at hlk
    obtain ⟨d1, d2, d3, d4⟩ := shift_does (by decide) hlk g1 g2
    have m4 : (L4 n m).m = (L3 n m false).m := rfl
    have p3 : ∀ s, posPart (L4 n m).m kk s = if s = 0 then n - m else if s = 2 then m else 0 := fun s => by
      rw [m4]
      unfold L3
      rw [d3, g3]
      by_cases e : s = 0
      · simp [e]; omega
      · simp [e]
    have G1 : GoodPos (L4 n m).m := by rw [m4]; exact d1
    have G2 : Apart (L4 n m).m := by rw [m4]; exact d2
    have hl2 : lookErr (L4 n m) (shiftPosts kk 2 0 m) = 0 := by
      rw [shift_look _ kk 2 0 m (by decide) (by decide) (by decide) (by omega) h4 G1 (by rw [p3, if_pos rfl]; omega), p3]
      rw [netErr_plain _ _ _ _ (by rintro ⟨h, _⟩; omega)]
      simp
      omega
    obtain ⟨f1, f2, f3, f4⟩ := shift_does (by decide) hl2 G1 G2
    refine ⟨by rw [p3]; simp, hl2, ?_⟩
    rw [f3, p3]
    simp

set_option maxHeartbeats 4000000 in
set_option maxRecDepth 100000 in
theorem postShifts_odd (n m : Int) (bl : Bool) (w : World) (h : n < 0 ∨ 1099511627776 < n ∨ m < 1 ∨ 1099511627776 < m) :
    Calls Try.prog 11 #[.int .i64 n, .int .i64 m, .bool bl] w fun e w' => e = .returned (.bool true) ∧ Below w.heap.size w w' := by
  have HAL := hide (alive11_calls w)
  by_cases h1 : n < 0
  case' neg => by_cases h2 : n > 1099511627776
  case' neg => by_cases h3 : m < 1
  case' neg => have h4 : m > 1099511627776 := (by omega)
  all_goals
    clear h
    go_enter Try.func11, Try.ntmps11
    go_wp2_with (go_at_call 23; refine HAL.out.mono ?_; rintro e w1 ⟨rfl, hb1⟩; have HB1 := hide hb1; clear hb1)
    go_ret
    exact ⟨rfl, HB1.out⟩

set_option maxHeartbeats 8000000 in
set_option maxRecDepth 100000 in
theorem postShifts_barred (n m : Int) (w : World) (h1 : 0 ≤ n) (h2 : n ≤ 1099511627776) (h3 : 1 ≤ m) (h4 : m ≤ 1099511627776) :
    Calls Try.prog 11 #[.int .i64 n, .int .i64 m, .bool true] w fun e w' => e = .returned (.bool true) ∧ Below w.heap.size w w' := by
  obtain ⟨p1, p2, p3, p4, _⟩ := shifts_plain n m true h1 h2 h3 h4
  obtain ⟨q1, q2, q3, q4, q5⟩ := p4 rfl
  rw [if_pos rfl] at p2
  have HNEW := hide (ls_new w)
  have HISS : Hid (∀ g p s W, Box1 w g p s kk led0 W → Calls Try.prog 25 #[.pointer (some ⟨g, 0, none⟩), .agg #[.string { data := #[65] }, .string { data := #[88] }], .int .i64 n] W fun e w' => e = .returned (.int .i64 0) ∧ Box1 w g p s kk (issueLed led0 kk n) w') := hide fun g p s W h =>
    (b1_issue tA tX n h (short1 _) (short1 _) (fun _ => by show _ ≤ (0 : Int) + n; omega) (fun _ => by show (0 : Int) + n ≤ _; omega)).mono fun e w' ⟨q1, q2⟩ => ⟨by rw [q1, p1], q2⟩
  have HBLK : Hid (∀ g p s W, Box1 w g p s kk (issueLed led0 kk n) W → Calls Try.prog 31 #[.pointer (some ⟨g, 0, none⟩), .agg #[.string { data := #[65] }, .string { data := #[88] }], .bool true] W fun e w' => e = .returned (.tuple #[]) ∧ Box1 w g p s kk (L2 n true) w') := hide fun g p s W h => b1_block tA tX true h (short1 _) (short1 _)
  have HSH : Hid (∀ g p s W, Box1 w g p s kk (L2 n true) W → Calls Try.prog 29 #[.pointer (some ⟨g, 0, none⟩), .slice (some ⟨W.heap.size + 1, 0, none⟩) 2 2] ((W.alloc (.cells #[.string { data := #[65] }, .string { data := #[88] }] 24)).alloc (.cells #[.string { data := #[65] }, .string { data := #[88] }, .int .i64 0, .int .i64 (-m), .string { data := #[65] }, .string { data := #[88] }, .int .i64 2, .int .i64 m] 51)) fun e w' => e = .returned (.int .i64 35) ∧ Box1 w g p s kk (L3 n m true) w') := hide fun g p s W h =>
    (b1_shift tA tX 0 2 m 2 (short1 _) (short1 _) h).mono fun e w' ⟨q1, q2⟩ => ⟨by rw [q1, p2], q2⟩
  have HWH : Hid (∀ g p s W, Box1 w g p s kk (L3 n m true) W → Calls Try.prog 22 #[.pointer (some ⟨p, 0, none⟩), .agg #[.string { data := #[65] }, .string { data := #[88] }]] W fun e w' => e = .returned (.int .i64 n) ∧ Below W.heap.size W w') := hide fun g p s W h => by
    have := ls_whole tA tX h.1
    rwa [p3] at this
  have HI1 : Hid (∀ g p s W, Box1 w g p s kk (L3 n m true) W → Calls Try.prog 25 #[.pointer (some ⟨g, 0, none⟩), .agg #[.string { data := #[65] }, .string { data := #[88] }], .int .i64 (-1)] W fun e w' => e = .returned (.int .i64 35) ∧ Box1 w g p s kk (L3 n m true) w') := hide fun g p s W h => by
    rw [q1] at h ⊢
    have hi : issueLed (L2 n true) kk (-1) = L2 n true := by unfold issueLed; rw [if_pos (by rw [q2]; decide)]
    exact (b1_issue tA tX (-1) h (short1 _) (short1 _) (fun _ => by rw [q5]; omega) (fun _ => by rw [q5]; omega)).mono fun e w' ⟨r1, r2⟩ => ⟨by rw [r1, q2], by rwa [hi] at r2⟩
  have HI2 : Hid (∀ g p s W, Box1 w g p s kk (L3 n m true) W → Calls Try.prog 25 #[.pointer (some ⟨g, 0, none⟩), .agg #[.string { data := #[65] }, .string { data := #[88] }], .int .i64 1] W fun e w' => e = .returned (.int .i64 0) ∧ Box1 w g p s kk (issueLed (L2 n true) kk 1) w') := hide fun g p s W h => by
    rw [q1] at h
    exact (b1_issue tA tX 1 h (short1 _) (short1 _) (fun _ => by rw [q5]; omega) (fun _ => by rw [q5]; omega)).mono fun e w' ⟨r1, r2⟩ => ⟨by rw [r1, q3], r2⟩
  have HBD : Hid (∀ g p s W, Box1 w g p s kk (issueLed (L2 n true) kk 1) W → Calls Try.prog 34 #[.pointer (some ⟨g, 0, none⟩), .agg #[.string { data := #[65] }, .string { data := #[88] }]] W fun e w' => e = .returned (.bool true) ∧ Below W.heap.size W w') := hide fun g p s W h => by
    have := ls_blocked tA tX h.1
    rwa [q4] at this
  clear p1 p2 p3 p4 q1 q2 q3 q4 q5
  generalize issueLed (L2 n true) kk 1 = LB at *
  generalize L3 n m true = LA at *
  go_enter Try.func11, Try.ntmps11
  go_wp2_with (first
    | (go_at_call 24; refine HNEW.out.mono ?_; rintro e w1 ⟨g, p, rfl, h9⟩; have HL0 := hide (box1_new (x1 := { data := #[65] }) (x2 := { data := #[88] }) h9); clear h9)
    | (go_at_call 25; ((with_reducible refine (HISS.out _ _ _ _ HL0.out).mono ?_)); rintro e w2 ⟨rfl, h9⟩; have HL2 := hide h9; obtain ⟨f1, f2, f3⟩ := h9.facts; clear h9)
    | (go_at_call 31; ((with_reducible refine (HBLK.out _ _ _ _ HL2.out).mono ?_)); rintro e w3 ⟨rfl, h9⟩; have HL3 := hide h9; obtain ⟨k1, k2, k3⟩ := h9.facts; clear h9)
    | (go_at_call 33; refine (shift_calls _ _ _ _ _ _ (by omega) (by omega)).mono ?_; rintro e w' ⟨rfl, rfl⟩)
    | (go_at_call 29; ((with_reducible refine (HSH.out _ _ _ _ HL3.out).mono ?_)); rintro e w4 ⟨rfl, h9⟩; have HL4 := hide h9; obtain ⟨l1, l2, l3⟩ := h9.facts; clear h9))
  have HF : Hid (∀ W, New w4 W → W.cell? ⟨g, 0, none⟩ = some (.pointer (some ⟨p, 0, none⟩)) ∧ W.cell? ⟨w1.heap.size, 0, none⟩ = some (.string { data := #[65] }) ∧ W.cell? ⟨w1.heap.size, 1, none⟩ = some (.string { data := #[88] })) := hide fun W hW => (HL4.out.step hW).facts
  refine region_by New way_new 8 8 (fun W => New w4 W) (by kernel_rfl) (by kernel_rfl) (fun _ _ d _ _ h => by cases d <;> exact h) (fun x y h hx => way_new.trans hx h) (Below.refl _ _).drew (fun KT hKT => ?_)
  simp only [List.take_succ_cons, List.take_zero]
  refine Lex.want (v := ?_) (by rfl) (fun W hW => ?hd1) ?_
  case hd1 =>
    have hh := HF.out W hW
    clear hW
    go_split_ands
    go_simp
    first | rfl | exact way_new.refl _ | exact way_grow.refl _ | (refine ⟨?_, way_new.refl _⟩; rfl) | (refine ⟨?_, way_grow.refl _⟩; rfl)
  try simp only [Act.put, List.setIfInBounds_toArray, List.set_cons_zero, List.set_cons_succ, List.getElem_toArray, List.getElem_cons_zero, List.getElem_cons_succ]
  refine Lex.want (v := ?_) (by rfl) (fun W hW => ?hd2) ?_
  case hd2 =>
    have hh := HF.out W hW
    clear hW
    go_split_ands
    go_simp
    first | rfl | exact way_new.refl _ | exact way_grow.refl _ | (refine ⟨?_, way_new.refl _⟩; rfl) | (refine ⟨?_, way_grow.refl _⟩; rfl)
  try simp only [Act.put, List.setIfInBounds_toArray, List.set_cons_zero, List.set_cons_succ, List.getElem_toArray, List.getElem_cons_zero, List.getElem_cons_succ]
  refine Lex.want (v := ?_) (by rfl) (fun W hW => ?hd3) ?_
  case hd3 =>
    have hh := HF.out W hW
    clear hW
    go_split_ands
    go_simp
    first | rfl | exact way_new.refl _ | exact way_grow.refl _ | (refine ⟨?_, way_new.refl _⟩; rfl) | (refine ⟨?_, way_grow.refl _⟩; rfl)
  try simp only [Act.put, List.setIfInBounds_toArray, List.set_cons_zero, List.set_cons_succ, List.getElem_toArray, List.getElem_cons_zero, List.getElem_cons_succ]
  refine Lex.want (v := ?_) (by rfl) (fun W hW => ?hd4) ?_
  case hd4 =>
    have hh := HF.out W hW
    clear hW
    go_split_ands
    go_simp
    first | rfl | exact way_new.refl _ | exact way_grow.refl _ | (refine ⟨?_, way_new.refl _⟩; rfl) | (refine ⟨?_, way_grow.refl _⟩; rfl)
  try simp only [Act.put, List.setIfInBounds_toArray, List.set_cons_zero, List.set_cons_succ, List.getElem_toArray, List.getElem_cons_zero, List.getElem_cons_succ]
  refine Lex.want (v := ?_) (by rfl) (fun W hW => ?hd5) ?_
  case hd5 =>
    have hh := HF.out W hW
    clear hW
    go_split_ands
    go_simp
    first | rfl | exact way_new.refl _ | exact way_grow.refl _ | (refine ⟨?_, way_new.refl _⟩; rfl) | (refine ⟨?_, way_grow.refl _⟩; rfl)
  try simp only [Act.put, List.setIfInBounds_toArray, List.set_cons_zero, List.set_cons_succ, List.getElem_toArray, List.getElem_cons_zero, List.getElem_cons_succ]
  refine Lex.want (v := ?_) (by rfl) (fun W hW => ?hd6) ?_
  case hd6 =>
    have hcc := hide (HWH.out _ _ _ W (HL4.out.step hW))
    go_simp
    exact hcc
  try simp only [Act.put, List.setIfInBounds_toArray, List.set_cons_zero, List.set_cons_succ, List.getElem_toArray, List.getElem_cons_zero, List.getElem_cons_succ]
  refine Lex.want (v := ?_) (by rfl) (fun W hW => ?hd7) ?_
  case hd7 =>
    have hh := HF.out W hW
    clear hW
    go_split_ands
    go_simp
    first | rfl | exact way_new.refl _ | exact way_grow.refl _ | (refine ⟨?_, way_new.refl _⟩; rfl) | (refine ⟨?_, way_grow.refl _⟩; rfl)
  try simp only [Act.put, List.setIfInBounds_toArray, List.set_cons_zero, List.set_cons_succ, List.getElem_toArray, List.getElem_cons_zero, List.getElem_cons_succ]
  refine Lex.want (v := ?_) (by rfl) (fun W hW => ?hd8) ?_
  case hd8 =>
    have hh := HF.out W hW
    clear hW
    go_split_ands
    go_simp
    first | rfl | exact way_new.refl _ | exact way_grow.refl _ | (refine ⟨?_, way_new.refl _⟩; rfl) | (refine ⟨?_, way_grow.refl _⟩; rfl)
  try simp only [Act.put, List.setIfInBounds_toArray, List.set_cons_zero, List.set_cons_succ, List.getElem_toArray, List.getElem_cons_zero, List.getElem_cons_succ]
  refine Lex.nil (hKT.out _ ?_)
  clear hKT KT
  refine Reg.done (by kernel_rfl) (fun W hW hWT => ⟨by kernel_rfl, ?_⟩)
  simp only [List.drop_succ_cons, List.drop_zero]
  have HL5 := hide (HL4.out.step hWT)
  have hc5 := HL5.out.facts
  clear hWT hW HF
  obtain ⟨m1, m2, m3⟩ := hc5
  go_wp2_with (first
    | (go_at_call 23; refine (alive11_calls _).mono ?_; rintro e w6 ⟨rfl, hb6⟩; have HL6 := hide (HL5.out.step hb6); obtain ⟨n1, n2, n3⟩ := HL6.out.facts; clear hb6)
    | (go_at_call 25; ((with_reducible refine (HI1.out _ _ _ _ HL6.out).mono ?_)); rintro e w7 ⟨rfl, h9⟩; have HL7 := hide h9; obtain ⟨o1, o2, o3⟩ := h9.facts; clear h9)
    | (go_at_call 25; ((with_reducible refine (HI2.out _ _ _ _ HL7.out).mono ?_)); rintro e w8 ⟨rfl, h9⟩; have HL8 := hide h9; obtain ⟨r1, r2, r3⟩ := h9.facts; clear h9)
    | (go_at_call 34; ((with_reducible refine (HBD.out _ _ _ _ HL8.out).mono ?_)); rintro e w9 ⟨rfl, h9⟩; have HL9 := hide (HL8.out.step h9); clear h9))
  go_ret
  exact ⟨rfl, HL9.out.1.below⟩

set_option maxHeartbeats 8000000 in
set_option maxRecDepth 100000 in
theorem postShifts_poor (n m : Int) (w : World) (h1 : 0 ≤ n) (h2 : n ≤ 1099511627776) (h3 : 1 ≤ m) (h4 : m ≤ 1099511627776) (hlt : n < m) :
    Calls Try.prog 11 #[.int .i64 n, .int .i64 m, .bool false] w fun e w' => e = .returned (.bool true) ∧ Below w.heap.size w w' := by
  obtain ⟨p1, p2, p3, _, _⟩ := shifts_plain n m false h1 h2 h3 h4
  rw [if_neg (by decide), if_pos hlt] at p2
  have HNEW := hide (ls_new w)
  have HISS : Hid (∀ g p s W, Box1 w g p s kk led0 W → Calls Try.prog 25 #[.pointer (some ⟨g, 0, none⟩), .agg #[.string { data := #[65] }, .string { data := #[88] }], .int .i64 n] W fun e w' => e = .returned (.int .i64 0) ∧ Box1 w g p s kk (issueLed led0 kk n) w') := hide fun g p s W h =>
    (b1_issue tA tX n h (short1 _) (short1 _) (fun _ => by show _ ≤ (0 : Int) + n; omega) (fun _ => by show (0 : Int) + n ≤ _; omega)).mono fun e w' ⟨q1, q2⟩ => ⟨by rw [q1, p1], q2⟩
  have HBLK : Hid (∀ g p s W, Box1 w g p s kk (issueLed led0 kk n) W → Calls Try.prog 31 #[.pointer (some ⟨g, 0, none⟩), .agg #[.string { data := #[65] }, .string { data := #[88] }], .bool false] W fun e w' => e = .returned (.tuple #[]) ∧ Box1 w g p s kk (L2 n false) w') := hide fun g p s W h => b1_block tA tX false h (short1 _) (short1 _)
  have HSH : Hid (∀ g p s W, Box1 w g p s kk (L2 n false) W → Calls Try.prog 29 #[.pointer (some ⟨g, 0, none⟩), .slice (some ⟨W.heap.size + 1, 0, none⟩) 2 2] ((W.alloc (.cells #[.string { data := #[65] }, .string { data := #[88] }] 24)).alloc (.cells #[.string { data := #[65] }, .string { data := #[88] }, .int .i64 0, .int .i64 (-m), .string { data := #[65] }, .string { data := #[88] }, .int .i64 2, .int .i64 m] 51)) fun e w' => e = .returned (.int .i64 30) ∧ Box1 w g p s kk (L3 n m false) w') := hide fun g p s W h =>
    (b1_shift tA tX 0 2 m 2 (short1 _) (short1 _) h).mono fun e w' ⟨q1, q2⟩ => ⟨by rw [q1, p2], q2⟩
  have HWH : Hid (∀ g p s W, Box1 w g p s kk (L3 n m false) W → Calls Try.prog 22 #[.pointer (some ⟨p, 0, none⟩), .agg #[.string { data := #[65] }, .string { data := #[88] }]] W fun e w' => e = .returned (.int .i64 n) ∧ Below W.heap.size W w') := hide fun g p s W h => by
    have := ls_whole tA tX h.1
    rwa [p3] at this
  have hgt : m > n := hlt
  clear p1 p2 p3 hlt
  go_enter Try.func11, Try.ntmps11
  go_wp2_with (first
    | (go_at_call 24; refine HNEW.out.mono ?_; rintro e w1 ⟨g, p, rfl, h9⟩; have HL0 := hide (box1_new (x1 := { data := #[65] }) (x2 := { data := #[88] }) h9); clear h9)
    | (go_at_call 25; ((with_reducible refine (HISS.out _ _ _ _ HL0.out).mono ?_)); rintro e w2 ⟨rfl, h9⟩; have HL2 := hide h9; obtain ⟨f1, f2, f3⟩ := h9.facts; clear h9)
    | (go_at_call 31; ((with_reducible refine (HBLK.out _ _ _ _ HL2.out).mono ?_)); rintro e w3 ⟨rfl, h9⟩; have HL3 := hide h9; obtain ⟨k1, k2, k3⟩ := h9.facts; clear h9)
    | (go_at_call 33; refine (shift_calls _ _ _ _ _ _ (by omega) (by omega)).mono ?_; rintro e w' ⟨rfl, rfl⟩)
    | (go_at_call 29; ((with_reducible refine (HSH.out _ _ _ _ HL3.out).mono ?_)); rintro e w4 ⟨rfl, h9⟩; have HL4 := hide h9; obtain ⟨l1, l2, l3⟩ := h9.facts; clear h9))
  have HF : Hid (∀ W, New w4 W → W.cell? ⟨g, 0, none⟩ = some (.pointer (some ⟨p, 0, none⟩)) ∧ W.cell? ⟨w1.heap.size, 0, none⟩ = some (.string { data := #[65] }) ∧ W.cell? ⟨w1.heap.size, 1, none⟩ = some (.string { data := #[88] })) := hide fun W hW => (HL4.out.step hW).facts
  refine region_by New way_new 8 8 (fun W => New w4 W) (by kernel_rfl) (by kernel_rfl) (fun _ _ d _ _ h => by cases d <;> exact h) (fun x y h hx => way_new.trans hx h) (Below.refl _ _).drew (fun KT hKT => ?_)
  simp only [List.take_succ_cons, List.take_zero]
  refine Lex.want (v := ?_) (by rfl) (fun W hW => ?hd9) ?_
  case hd9 =>
    have hh := HF.out W hW
    clear hW
    go_split_ands
    go_simp
    first | rfl | exact way_new.refl _ | exact way_grow.refl _ | (refine ⟨?_, way_new.refl _⟩; rfl) | (refine ⟨?_, way_grow.refl _⟩; rfl)
  try simp only [Act.put, List.setIfInBounds_toArray, List.set_cons_zero, List.set_cons_succ, List.getElem_toArray, List.getElem_cons_zero, List.getElem_cons_succ]
  refine Lex.want (v := ?_) (by rfl) (fun W hW => ?hd10) ?_
  case hd10 =>
    have hh := HF.out W hW
    clear hW
    go_split_ands
    go_simp
    first | rfl | exact way_new.refl _ | exact way_grow.refl _ | (refine ⟨?_, way_new.refl _⟩; rfl) | (refine ⟨?_, way_grow.refl _⟩; rfl)
  try simp only [Act.put, List.setIfInBounds_toArray, List.set_cons_zero, List.set_cons_succ, List.getElem_toArray, List.getElem_cons_zero, List.getElem_cons_succ]
  refine Lex.want (v := ?_) (by rfl) (fun W hW => ?hd11) ?_
  case hd11 =>
    have hh := HF.out W hW
    clear hW
    go_split_ands
    go_simp
    first | rfl | exact way_new.refl _ | exact way_grow.refl _ | (refine ⟨?_, way_new.refl _⟩; rfl) | (refine ⟨?_, way_grow.refl _⟩; rfl)
  try simp only [Act.put, List.setIfInBounds_toArray, List.set_cons_zero, List.set_cons_succ, List.getElem_toArray, List.getElem_cons_zero, List.getElem_cons_succ]
  refine Lex.want (v := ?_) (by rfl) (fun W hW => ?hd12) ?_
  case hd12 =>
    have hh := HF.out W hW
    clear hW
    go_split_ands
    go_simp
    first | rfl | exact way_new.refl _ | exact way_grow.refl _ | (refine ⟨?_, way_new.refl _⟩; rfl) | (refine ⟨?_, way_grow.refl _⟩; rfl)
  try simp only [Act.put, List.setIfInBounds_toArray, List.set_cons_zero, List.set_cons_succ, List.getElem_toArray, List.getElem_cons_zero, List.getElem_cons_succ]
  refine Lex.want (v := ?_) (by rfl) (fun W hW => ?hd13) ?_
  case hd13 =>
    have hh := HF.out W hW
    clear hW
    go_split_ands
    go_simp
    first | rfl | exact way_new.refl _ | exact way_grow.refl _ | (refine ⟨?_, way_new.refl _⟩; rfl) | (refine ⟨?_, way_grow.refl _⟩; rfl)
  try simp only [Act.put, List.setIfInBounds_toArray, List.set_cons_zero, List.set_cons_succ, List.getElem_toArray, List.getElem_cons_zero, List.getElem_cons_succ]
  refine Lex.want (v := ?_) (by rfl) (fun W hW => ?hd14) ?_
  case hd14 =>
    have hcc := hide (HWH.out _ _ _ W (HL4.out.step hW))
    go_simp
    exact hcc
  try simp only [Act.put, List.setIfInBounds_toArray, List.set_cons_zero, List.set_cons_succ, List.getElem_toArray, List.getElem_cons_zero, List.getElem_cons_succ]
  refine Lex.want (v := ?_) (by rfl) (fun W hW => ?hd15) ?_
  case hd15 =>
    have hh := HF.out W hW
    clear hW
    go_split_ands
    go_simp
    first | rfl | exact way_new.refl _ | exact way_grow.refl _ | (refine ⟨?_, way_new.refl _⟩; rfl) | (refine ⟨?_, way_grow.refl _⟩; rfl)
  try simp only [Act.put, List.setIfInBounds_toArray, List.set_cons_zero, List.set_cons_succ, List.getElem_toArray, List.getElem_cons_zero, List.getElem_cons_succ]
  refine Lex.want (v := ?_) (by rfl) (fun W hW => ?hd16) ?_
  case hd16 =>
    have hh := HF.out W hW
    clear hW
    go_split_ands
    go_simp
    first | rfl | exact way_new.refl _ | exact way_grow.refl _ | (refine ⟨?_, way_new.refl _⟩; rfl) | (refine ⟨?_, way_grow.refl _⟩; rfl)
  try simp only [Act.put, List.setIfInBounds_toArray, List.set_cons_zero, List.set_cons_succ, List.getElem_toArray, List.getElem_cons_zero, List.getElem_cons_succ]
  refine Lex.nil (hKT.out _ ?_)
  clear hKT KT
  refine Reg.done (by kernel_rfl) (fun W hW hWT => ⟨by kernel_rfl, ?_⟩)
  simp only [List.drop_succ_cons, List.drop_zero]
  have HL5 := hide (HL4.out.step hWT)
  have hc5 := HL5.out.facts
  clear hWT hW HF
  obtain ⟨m1, m2, m3⟩ := hc5
  go_wp2_with (go_at_call 23; refine (alive11_calls _).mono ?_; rintro e w6 ⟨rfl, hb6⟩; have HL6 := hide (HL5.out.step hb6); clear hb6)
  go_ret
  exact ⟨rfl, HL6.out.1.below⟩

set_option maxHeartbeats 8000000 in
set_option maxRecDepth 100000 in
theorem postShifts_rich (n m : Int) (w : World) (h1 : 0 ≤ n) (h2 : n ≤ 1099511627776) (h3 : 1 ≤ m) (h4 : m ≤ 1099511627776) (hle : m ≤ n) :
    Calls Try.prog 11 #[.int .i64 n, .int .i64 m, .bool false] w fun e w' => e = .returned (.bool true) ∧ Below w.heap.size w w' := by
  obtain ⟨p1, p2, p3, _, p5⟩ := shifts_plain n m false h1 h2 h3 h4
  obtain ⟨q1, q2, q3⟩ := p5 rfl hle
  rw [if_neg (by decide), if_neg (by omega)] at p2
  have HNEW := hide (ls_new w)
  have HISS : Hid (∀ g p s W, Box1 w g p s kk led0 W → Calls Try.prog 25 #[.pointer (some ⟨g, 0, none⟩), .agg #[.string { data := #[65] }, .string { data := #[88] }], .int .i64 n] W fun e w' => e = .returned (.int .i64 0) ∧ Box1 w g p s kk (issueLed led0 kk n) w') := hide fun g p s W h =>
    (b1_issue tA tX n h (short1 _) (short1 _) (fun _ => by show _ ≤ (0 : Int) + n; omega) (fun _ => by show (0 : Int) + n ≤ _; omega)).mono fun e w' ⟨q1, q2⟩ => ⟨by rw [q1, p1], q2⟩
  have HBLK : Hid (∀ g p s W, Box1 w g p s kk (issueLed led0 kk n) W → Calls Try.prog 31 #[.pointer (some ⟨g, 0, none⟩), .agg #[.string { data := #[65] }, .string { data := #[88] }], .bool false] W fun e w' => e = .returned (.tuple #[]) ∧ Box1 w g p s kk (L2 n false) w') := hide fun g p s W h => b1_block tA tX false h (short1 _) (short1 _)
  have HSH : Hid (∀ g p s W, Box1 w g p s kk (L2 n false) W → Calls Try.prog 29 #[.pointer (some ⟨g, 0, none⟩), .slice (some ⟨W.heap.size + 1, 0, none⟩) 2 2] ((W.alloc (.cells #[.string { data := #[65] }, .string { data := #[88] }] 24)).alloc (.cells #[.string { data := #[65] }, .string { data := #[88] }, .int .i64 0, .int .i64 (-m), .string { data := #[65] }, .string { data := #[88] }, .int .i64 2, .int .i64 m] 51)) fun e w' => e = .returned (.int .i64 0) ∧ Box1 w g p s kk (L3 n m false) w') := hide fun g p s W h =>
    (b1_shift tA tX 0 2 m 2 (short1 _) (short1 _) h).mono fun e w' ⟨q1, q2⟩ => ⟨by rw [q1, p2], q2⟩
  have HWH : Hid (∀ g p s W, Box1 w g p s kk (L3 n m false) W → Calls Try.prog 22 #[.pointer (some ⟨p, 0, none⟩), .agg #[.string { data := #[65] }, .string { data := #[88] }]] W fun e w' => e = .returned (.int .i64 n) ∧ Below W.heap.size W w') := hide fun g p s W h => by
    have := ls_whole tA tX h.1
    rwa [p3] at this
  have HB4 : Hid (∀ g p s W, Box1 w g p s kk (L3 n m false) W → Calls Try.prog 31 #[.pointer (some ⟨g, 0, none⟩), .agg #[.string { data := #[65] }, .string { data := #[88] }], .bool true] W fun e w' => e = .returned (.tuple #[]) ∧ Box1 w g p s kk (L4 n m) w') := hide fun g p s W h => b1_block tA tX true h (short1 _) (short1 _)
  have HP2 : Hid (∀ g p s W, Box1 w g p s kk (L4 n m) W → Calls Try.prog 19 #[.pointer (some ⟨p, 0, none⟩), .agg #[.string { data := #[65] }, .string { data := #[88] }], .int .i64 2] W fun e w' => e = .returned (.int .i64 m) ∧ Below W.heap.size W w') := hide fun g p s W h => by
    have := ls_part tA tX 2 h.1
    rwa [q1] at this
  have HS2 : Hid (∀ g p s W, Box1 w g p s kk (L4 n m) W → Calls Try.prog 29 #[.pointer (some ⟨g, 0, none⟩), .slice (some ⟨W.heap.size + 1, 0, none⟩) 2 2] ((W.alloc (.cells #[.string { data := #[65] }, .string { data := #[88] }] 24)).alloc (.cells #[.string { data := #[65] }, .string { data := #[88] }, .int .i64 2, .int .i64 (-m), .string { data := #[65] }, .string { data := #[88] }, .int .i64 0, .int .i64 m] 51)) fun e w' => e = .returned (.int .i64 0) ∧ Box1 w g p s kk (applyLed (L4 n m) (shiftPosts kk 2 0 m)) w') := hide fun g p s W h =>
    (b1_shift tA tX 2 0 m 2 (short1 _) (short1 _) h).mono fun e w' ⟨r1, r2⟩ => ⟨by rw [r1, q2], r2⟩
  have HP0 : Hid (∀ g p s W, Box1 w g p s kk (applyLed (L4 n m) (shiftPosts kk 2 0 m)) W → Calls Try.prog 19 #[.pointer (some ⟨p, 0, none⟩), .agg #[.string { data := #[65] }, .string { data := #[88] }], .int .i64 0] W fun e w' => e = .returned (.int .i64 n) ∧ Below W.heap.size W w') := hide fun g p s W h => by
    have := ls_part tA tX 0 h.1
    rwa [q3] at this
  have hgt : ¬ m > n := by omega
  clear p1 p2 p3 p5 q1 q2 q3
  generalize applyLed (L4 n m) (shiftPosts kk 2 0 m) = LC at *
  generalize L4 n m = LB at *
  generalize L3 n m false = LA at *
  go_enter Try.func11, Try.ntmps11
  go_wp2_with (first
    | (go_at_call 24; refine HNEW.out.mono ?_; rintro e w1 ⟨g, p, rfl, h9⟩; have HL0 := hide (box1_new (x1 := { data := #[65] }) (x2 := { data := #[88] }) h9); clear h9)
    | (go_at_call 25; ((with_reducible refine (HISS.out _ _ _ _ HL0.out).mono ?_)); rintro e w2 ⟨rfl, h9⟩; have HL2 := hide h9; obtain ⟨f1, f2, f3⟩ := h9.facts; clear h9)
    | (go_at_call 31; ((with_reducible refine (HBLK.out _ _ _ _ HL2.out).mono ?_)); rintro e w3 ⟨rfl, h9⟩; have HL3 := hide h9; obtain ⟨k1, k2, k3⟩ := h9.facts; clear h9)
    | (go_at_call 33; refine (shift_calls _ _ _ _ _ _ (by omega) (by omega)).mono ?_; rintro e w' ⟨rfl, rfl⟩)
    | (go_at_call 29; ((with_reducible refine (HSH.out _ _ _ _ HL3.out).mono ?_)); rintro e w4 ⟨rfl, h9⟩; have HL4 := hide h9; obtain ⟨l1, l2, l3⟩ := h9.facts; clear h9))
  have HF : Hid (∀ W, New w4 W → W.cell? ⟨g, 0, none⟩ = some (.pointer (some ⟨p, 0, none⟩)) ∧ W.cell? ⟨w1.heap.size, 0, none⟩ = some (.string { data := #[65] }) ∧ W.cell? ⟨w1.heap.size, 1, none⟩ = some (.string { data := #[88] })) := hide fun W hW => (HL4.out.step hW).facts
  refine region_by New way_new 8 8 (fun W => New w4 W) (by kernel_rfl) (by kernel_rfl) (fun _ _ d _ _ h => by cases d <;> exact h) (fun x y h hx => way_new.trans hx h) (Below.refl _ _).drew (fun KT hKT => ?_)
  simp only [List.take_succ_cons, List.take_zero]
  refine Lex.want (v := ?_) (by rfl) (fun W hW => ?hd17) ?_
  case hd17 =>
    have hh := HF.out W hW
    clear hW
    go_split_ands
    go_simp
    first | rfl | exact way_new.refl _ | exact way_grow.refl _ | (refine ⟨?_, way_new.refl _⟩; rfl) | (refine ⟨?_, way_grow.refl _⟩; rfl)
  try simp only [Act.put, List.setIfInBounds_toArray, List.set_cons_zero, List.set_cons_succ, List.getElem_toArray, List.getElem_cons_zero, List.getElem_cons_succ]
  refine Lex.want (v := ?_) (by rfl) (fun W hW => ?hd18) ?_
  case hd18 =>
    have hh := HF.out W hW
    clear hW
    go_split_ands
    go_simp
    first | rfl | exact way_new.refl _ | exact way_grow.refl _ | (refine ⟨?_, way_new.refl _⟩; rfl) | (refine ⟨?_, way_grow.refl _⟩; rfl)
  try simp only [Act.put, List.setIfInBounds_toArray, List.set_cons_zero, List.set_cons_succ, List.getElem_toArray, List.getElem_cons_zero, List.getElem_cons_succ]
  refine Lex.want (v := ?_) (by rfl) (fun W hW => ?hd19) ?_
  case hd19 =>
    have hh := HF.out W hW
    clear hW
    go_split_ands
    go_simp
    first | rfl | exact way_new.refl _ | exact way_grow.refl _ | (refine ⟨?_, way_new.refl _⟩; rfl) | (refine ⟨?_, way_grow.refl _⟩; rfl)
  try simp only [Act.put, List.setIfInBounds_toArray, List.set_cons_zero, List.set_cons_succ, List.getElem_toArray, List.getElem_cons_zero, List.getElem_cons_succ]
  refine Lex.want (v := ?_) (by rfl) (fun W hW => ?hd20) ?_
  case hd20 =>
    have hh := HF.out W hW
    clear hW
    go_split_ands
    go_simp
    first | rfl | exact way_new.refl _ | exact way_grow.refl _ | (refine ⟨?_, way_new.refl _⟩; rfl) | (refine ⟨?_, way_grow.refl _⟩; rfl)
  try simp only [Act.put, List.setIfInBounds_toArray, List.set_cons_zero, List.set_cons_succ, List.getElem_toArray, List.getElem_cons_zero, List.getElem_cons_succ]
  refine Lex.want (v := ?_) (by rfl) (fun W hW => ?hd21) ?_
  case hd21 =>
    have hh := HF.out W hW
    clear hW
    go_split_ands
    go_simp
    first | rfl | exact way_new.refl _ | exact way_grow.refl _ | (refine ⟨?_, way_new.refl _⟩; rfl) | (refine ⟨?_, way_grow.refl _⟩; rfl)
  try simp only [Act.put, List.setIfInBounds_toArray, List.set_cons_zero, List.set_cons_succ, List.getElem_toArray, List.getElem_cons_zero, List.getElem_cons_succ]
  refine Lex.want (v := ?_) (by rfl) (fun W hW => ?hd22) ?_
  case hd22 =>
    have hcc := hide (HWH.out _ _ _ W (HL4.out.step hW))
    go_simp
    exact hcc
  try simp only [Act.put, List.setIfInBounds_toArray, List.set_cons_zero, List.set_cons_succ, List.getElem_toArray, List.getElem_cons_zero, List.getElem_cons_succ]
  refine Lex.want (v := ?_) (by rfl) (fun W hW => ?hd23) ?_
  case hd23 =>
    have hh := HF.out W hW
    clear hW
    go_split_ands
    go_simp
    first | rfl | exact way_new.refl _ | exact way_grow.refl _ | (refine ⟨?_, way_new.refl _⟩; rfl) | (refine ⟨?_, way_grow.refl _⟩; rfl)
  try simp only [Act.put, List.setIfInBounds_toArray, List.set_cons_zero, List.set_cons_succ, List.getElem_toArray, List.getElem_cons_zero, List.getElem_cons_succ]
  refine Lex.want (v := ?_) (by rfl) (fun W hW => ?hd24) ?_
  case hd24 =>
    have hh := HF.out W hW
    clear hW
    go_split_ands
    go_simp
    first | rfl | exact way_new.refl _ | exact way_grow.refl _ | (refine ⟨?_, way_new.refl _⟩; rfl) | (refine ⟨?_, way_grow.refl _⟩; rfl)
  try simp only [Act.put, List.setIfInBounds_toArray, List.set_cons_zero, List.set_cons_succ, List.getElem_toArray, List.getElem_cons_zero, List.getElem_cons_succ]
  refine Lex.nil (hKT.out _ ?_)
  clear hKT KT
  refine Reg.done (by kernel_rfl) (fun W hW hWT => ⟨by kernel_rfl, ?_⟩)
  simp only [List.drop_succ_cons, List.drop_zero]
  have HL5 := hide (HL4.out.step hWT)
  have hc5 := HL5.out.facts
  clear hWT hW HF
  obtain ⟨m1, m2, m3⟩ := hc5
  go_wp2_with (go_at_call 31; ((with_reducible refine (HB4.out _ _ _ _ HL5.out).mono ?_)); rintro e w6 ⟨rfl, h9⟩; have HL6 := hide h9; clear h9)
  have HF2 : Hid (∀ W : World, (W.cell? ⟨g, 0, none⟩ = some (.pointer (some ⟨p, 0, none⟩)) ∧ W.cell? ⟨w1.heap.size, 0, none⟩ = some (.string { data := #[65] }) ∧ W.cell? ⟨w1.heap.size, 1, none⟩ = some (.string { data := #[88] })) → W.cell? ⟨g, 0, none⟩ = some (.pointer (some ⟨p, 0, none⟩)) ∧ W.cell? ⟨w1.heap.size, 0, none⟩ = some (.string { data := #[65] }) ∧ W.cell? ⟨w1.heap.size, 1, none⟩ = some (.string { data := #[88] })) := hide fun W h => h
  refine region_by (fun a b => a = b) way_eq 34 0 (fun W => W.cell? ⟨g, 0, none⟩ = some (.pointer (some ⟨p, 0, none⟩)) ∧ W.cell? ⟨w1.heap.size, 0, none⟩ = some (.string { data := #[65] }) ∧ W.cell? ⟨w1.heap.size, 1, none⟩ = some (.string { data := #[88] })) (by kernel_rfl) (by kernel_rfl) (fun _ _ d _ _ h => by cases d <;> exact h) (fun x y h hx => h ▸ hx) HL6.out.drew.facts (fun KT hKT => ?_)
  simp only [List.take_succ_cons, List.take_zero]
  refine Lex.nil (hKT.out _ ?_)
  clear hKT KT
  refine Reg.only 0 rfl (by decide) (by kernel_rfl) (fun W hW hT K hK => ?_)
  subst hW
  go_simp
  refine (alive11_calls _).mono ?_
  rintro e w7 ⟨rfl, h9⟩
  have HL7 := hide (HL6.out.drew.step h9)
  clear h9
  refine hK.out _ _ (HL7.out.facts) (fun _ => ?_)
  clear hK K
  try simp only [Act.put, List.setIfInBounds_toArray, List.set_cons_zero, List.set_cons_succ, List.getElem_toArray, List.getElem_cons_zero, List.getElem_cons_succ]
  refine Reg.seg 1 10 way_eq (by kernel_rfl) (fun _ _ d _ _ h => by cases d <;> exact h) (fun KT hKT => ?_)
  simp only [List.take_succ_cons, List.take_zero, List.drop_succ_cons, List.drop_zero]
  refine Lex.want (v := ?_) (by rfl) (fun W hW => ?hd25) ?_
  case hd25 =>
    have hh := HF2.out W hW
    clear hW
    go_split_ands
    go_simp
    first | rfl | exact way_new.refl _ | exact way_grow.refl _ | (refine ⟨?_, way_new.refl _⟩; rfl) | (refine ⟨?_, way_grow.refl _⟩; rfl)
  try simp only [Act.put, List.setIfInBounds_toArray, List.set_cons_zero, List.set_cons_succ, List.getElem_toArray, List.getElem_cons_zero, List.getElem_cons_succ]
  refine Lex.want (v := ?_) (by rfl) (fun W hW => ?hd26) ?_
  case hd26 =>
    have hh := HF2.out W hW
    clear hW
    go_split_ands
    go_simp
    first | rfl | exact way_new.refl _ | exact way_grow.refl _ | (refine ⟨?_, way_new.refl _⟩; rfl) | (refine ⟨?_, way_grow.refl _⟩; rfl)
  try simp only [Act.put, List.setIfInBounds_toArray, List.set_cons_zero, List.set_cons_succ, List.getElem_toArray, List.getElem_cons_zero, List.getElem_cons_succ]
  refine Lex.want (v := ?_) (by rfl) (fun W hW => ?hd27) ?_
  case hd27 =>
    have hh := HF2.out W hW
    clear hW
    go_split_ands
    go_simp
    first | rfl | exact way_new.refl _ | exact way_grow.refl _ | (refine ⟨?_, way_new.refl _⟩; rfl) | (refine ⟨?_, way_grow.refl _⟩; rfl)
  try simp only [Act.put, List.setIfInBounds_toArray, List.set_cons_zero, List.set_cons_succ, List.getElem_toArray, List.getElem_cons_zero, List.getElem_cons_succ]
  refine Lex.want (v := ?_) (by rfl) (fun W hW => ?hd28) ?_
  case hd28 =>
    have hh := HF2.out W hW
    clear hW
    go_split_ands
    go_simp
    first | rfl | exact way_new.refl _ | exact way_grow.refl _ | (refine ⟨?_, way_new.refl _⟩; rfl) | (refine ⟨?_, way_grow.refl _⟩; rfl)
  try simp only [Act.put, List.setIfInBounds_toArray, List.set_cons_zero, List.set_cons_succ, List.getElem_toArray, List.getElem_cons_zero, List.getElem_cons_succ]
  refine Lex.want (v := ?_) (by rfl) (fun W hW => ?hd29) ?_
  case hd29 =>
    have hh := HF2.out W hW
    clear hW
    go_split_ands
    go_simp
    first | rfl | exact way_new.refl _ | exact way_grow.refl _ | (refine ⟨?_, way_new.refl _⟩; rfl) | (refine ⟨?_, way_grow.refl _⟩; rfl)
  try simp only [Act.put, List.setIfInBounds_toArray, List.set_cons_zero, List.set_cons_succ, List.getElem_toArray, List.getElem_cons_zero, List.getElem_cons_succ]
  refine Lex.want (v := ?_) (by rfl) (fun W hW => ?hd30) ?_
  case hd30 =>
    have hh := HF2.out W hW
    clear hW
    go_split_ands
    go_simp
    first | rfl | exact way_new.refl _ | exact way_grow.refl _ | (refine ⟨?_, way_new.refl _⟩; rfl) | (refine ⟨?_, way_grow.refl _⟩; rfl)
  try simp only [Act.put, List.setIfInBounds_toArray, List.set_cons_zero, List.set_cons_succ, List.getElem_toArray, List.getElem_cons_zero, List.getElem_cons_succ]
  refine Lex.want (v := ?_) (by rfl) (fun W hW => ?hd31) ?_
  case hd31 =>
    have hh := HF2.out W hW
    clear hW
    go_split_ands
    go_simp
    first | rfl | exact way_new.refl _ | exact way_grow.refl _ | (refine ⟨?_, way_new.refl _⟩; rfl) | (refine ⟨?_, way_grow.refl _⟩; rfl)
  try simp only [Act.put, List.setIfInBounds_toArray, List.set_cons_zero, List.set_cons_succ, List.getElem_toArray, List.getElem_cons_zero, List.getElem_cons_succ]
  refine Lex.want (v := ?_) (by rfl) (fun W hW => ?hd32) ?_
  case hd32 =>
    have hh := HF2.out W hW
    clear hW
    go_split_ands
    go_simp
    first | rfl | exact way_new.refl _ | exact way_grow.refl _ | (refine ⟨?_, way_new.refl _⟩; rfl) | (refine ⟨?_, way_grow.refl _⟩; rfl)
  try simp only [Act.put, List.setIfInBounds_toArray, List.set_cons_zero, List.set_cons_succ, List.getElem_toArray, List.getElem_cons_zero, List.getElem_cons_succ]
  refine Lex.want (v := ?_) (by rfl) (fun W hW => ?hd33) ?_
  case hd33 =>
    have hh := HF2.out W hW
    clear hW
    go_split_ands
    go_simp
    first | rfl | exact way_new.refl _ | exact way_grow.refl _ | (refine ⟨?_, way_new.refl _⟩; rfl) | (refine ⟨?_, way_grow.refl _⟩; rfl)
  try simp only [Act.put, List.setIfInBounds_toArray, List.set_cons_zero, List.set_cons_succ, List.getElem_toArray, List.getElem_cons_zero, List.getElem_cons_succ]
  refine Lex.want (v := ?_) (by rfl) (fun W hW => ?hd34) ?_
  case hd34 =>
    have hh := HF2.out W hW
    clear hW
    go_split_ands
    go_simp
    first | rfl | exact way_new.refl _ | exact way_grow.refl _ | (refine ⟨?_, way_new.refl _⟩; rfl) | (refine ⟨?_, way_grow.refl _⟩; rfl)
  try simp only [Act.put, List.setIfInBounds_toArray, List.set_cons_zero, List.set_cons_succ, List.getElem_toArray, List.getElem_cons_zero, List.getElem_cons_succ]
  refine Lex.nil (hKT.out _ ?_)
  clear hKT KT
  refine Reg.take 12 (v := ?_) way_eq (by kernel_rfl) rfl (by decide) (by kernel_rfl) (by kernel_rfl) (fun _ _ _ h => h) (Or.inl ⟨by rfl, fun W hW => ?hd35⟩) ?_
  case hd35 =>
    have hh := HF2.out W hW
    clear hW
    go_split_ands
    go_simp
    first | rfl | exact way_new.refl _ | exact way_grow.refl _ | (refine ⟨?_, way_new.refl _⟩; rfl) | (refine ⟨?_, way_grow.refl _⟩; rfl)
  try simp only [Act.put, List.setIfInBounds_toArray, List.set_cons_zero, List.set_cons_succ, List.getElem_toArray, List.getElem_cons_zero, List.getElem_cons_succ]
  refine Reg.only 11 rfl (by decide) (by kernel_rfl) (fun W hW hT K hK => ?_)
  subst hW
  go_simp
  refine (HP2.out _ _ _ _ HL7.out).mono ?_
  rintro e w8 ⟨rfl, h9⟩
  have HL8 := hide (HL7.out.step h9)
  clear h9
  refine hK.out _ _ (HL8.out.facts) (fun _ => ?_)
  clear hK K
  try simp only [Act.put, List.setIfInBounds_toArray, List.set_cons_zero, List.set_cons_succ, List.getElem_toArray, List.getElem_cons_zero, List.getElem_cons_succ]
  refine Reg.seg 13 6 way_eq (by kernel_rfl) (fun _ _ d _ _ h => by cases d <;> exact h) (fun KT hKT => ?_)
  simp only [List.take_succ_cons, List.take_zero, List.drop_succ_cons, List.drop_zero]
  refine Lex.want (v := ?_) (by rfl) (fun W hW => ?hd36) ?_
  case hd36 =>
    have hh := HF2.out W hW
    clear hW
    go_split_ands
    go_simp
    first | rfl | exact way_new.refl _ | exact way_grow.refl _ | (refine ⟨?_, way_new.refl _⟩; rfl) | (refine ⟨?_, way_grow.refl _⟩; rfl)
  try simp only [Act.put, List.setIfInBounds_toArray, List.set_cons_zero, List.set_cons_succ, List.getElem_toArray, List.getElem_cons_zero, List.getElem_cons_succ]
  refine Lex.want (v := ?_) (by rfl) (fun W hW => ?hd37) ?_
  case hd37 =>
    have hh := HF2.out W hW
    clear hW
    go_split_ands
    go_simp
    first | rfl | exact way_new.refl _ | exact way_grow.refl _ | (refine ⟨?_, way_new.refl _⟩; rfl) | (refine ⟨?_, way_grow.refl _⟩; rfl)
  try simp only [Act.put, List.setIfInBounds_toArray, List.set_cons_zero, List.set_cons_succ, List.getElem_toArray, List.getElem_cons_zero, List.getElem_cons_succ]
  refine Lex.want (v := ?_) (by rfl) (fun W hW => ?hd38) ?_
  case hd38 =>
    have hh := HF2.out W hW
    clear hW
    go_split_ands
    go_simp
    first | rfl | exact way_new.refl _ | exact way_grow.refl _ | (refine ⟨?_, way_new.refl _⟩; rfl) | (refine ⟨?_, way_grow.refl _⟩; rfl)
  try simp only [Act.put, List.setIfInBounds_toArray, List.set_cons_zero, List.set_cons_succ, List.getElem_toArray, List.getElem_cons_zero, List.getElem_cons_succ]
  refine Lex.want (v := ?_) (by rfl) (fun W hW => ?hd39) ?_
  case hd39 =>
    have hh := HF2.out W hW
    clear hW
    go_split_ands
    go_simp
    first | rfl | exact way_new.refl _ | exact way_grow.refl _ | (refine ⟨?_, way_new.refl _⟩; rfl) | (refine ⟨?_, way_grow.refl _⟩; rfl)
  try simp only [Act.put, List.setIfInBounds_toArray, List.set_cons_zero, List.set_cons_succ, List.getElem_toArray, List.getElem_cons_zero, List.getElem_cons_succ]
  refine Lex.want (v := ?_) (by rfl) (fun W hW => ?hd40) ?_
  case hd40 =>
    have hh := HF2.out W hW
    clear hW
    go_split_ands
    go_simp
    first | rfl | exact way_new.refl _ | exact way_grow.refl _ | (refine ⟨?_, way_new.refl _⟩; rfl) | (refine ⟨?_, way_grow.refl _⟩; rfl)
  try simp only [Act.put, List.setIfInBounds_toArray, List.set_cons_zero, List.set_cons_succ, List.getElem_toArray, List.getElem_cons_zero, List.getElem_cons_succ]
  refine Lex.want (v := ?_) (by rfl) (fun W hW => ?hd41) ?_
  case hd41 =>
    have hh := HF2.out W hW
    clear hW
    go_split_ands
    go_simp
    first | rfl | exact way_new.refl _ | exact way_grow.refl _ | (refine ⟨?_, way_new.refl _⟩; rfl) | (refine ⟨?_, way_grow.refl _⟩; rfl)
  try simp only [Act.put, List.setIfInBounds_toArray, List.set_cons_zero, List.set_cons_succ, List.getElem_toArray, List.getElem_cons_zero, List.getElem_cons_succ]
  refine Lex.nil (hKT.out _ ?_)
  clear hKT KT
  refine Reg.only 19 rfl (by decide) (by kernel_rfl) (fun W hW hT K hK => ?_)
  subst hW
  go_simp
  refine (shift_calls _ _ _ _ _ _ (by omega) (by omega)).mono ?_
  rintro e w' ⟨rfl, rfl⟩
  refine hK.out _ _ ((HL8.out.step (((Below.refl _ _).alloc (Nat.le_refl _) _).alloc (by simp) _)).facts) (fun _ => ?_)
  clear hK K
  try simp only [Act.put, List.setIfInBounds_toArray, List.set_cons_zero, List.set_cons_succ, List.getElem_toArray, List.getElem_cons_zero, List.getElem_cons_succ]
  refine Reg.only 20 rfl (by decide) (by kernel_rfl) (fun W hW hT K hK => ?_)
  subst hW
  go_simp
  refine (HS2.out _ _ _ _ HL8.out).mono ?_
  rintro e w9 ⟨rfl, h9⟩
  have HL9 := hide h9
  clear h9
  refine hK.out _ _ (HL9.out.facts) (fun _ => ?_)
  clear hK K
  try simp only [Act.put, List.setIfInBounds_toArray, List.set_cons_zero, List.set_cons_succ, List.getElem_toArray, List.getElem_cons_zero, List.getElem_cons_succ]
  refine Reg.seg 21 8 way_eq (by kernel_rfl) (fun _ _ d _ _ h => by cases d <;> exact h) (fun KT hKT => ?_)
  simp only [List.take_succ_cons, List.take_zero, List.drop_succ_cons, List.drop_zero]
  refine Lex.want (v := ?_) (by rfl) (fun W hW => ?hd42) ?_
  case hd42 =>
    have hh := HF2.out W hW
    clear hW
    go_split_ands
    go_simp
    first | rfl | exact way_new.refl _ | exact way_grow.refl _ | (refine ⟨?_, way_new.refl _⟩; rfl) | (refine ⟨?_, way_grow.refl _⟩; rfl)
  try simp only [Act.put, List.setIfInBounds_toArray, List.set_cons_zero, List.set_cons_succ, List.getElem_toArray, List.getElem_cons_zero, List.getElem_cons_succ]
  refine Lex.want (v := ?_) (by rfl) (fun W hW => ?hd43) ?_
  case hd43 =>
    have hh := HF2.out W hW
    clear hW
    go_split_ands
    go_simp
    first | rfl | exact way_new.refl _ | exact way_grow.refl _ | (refine ⟨?_, way_new.refl _⟩; rfl) | (refine ⟨?_, way_grow.refl _⟩; rfl)
  try simp only [Act.put, List.setIfInBounds_toArray, List.set_cons_zero, List.set_cons_succ, List.getElem_toArray, List.getElem_cons_zero, List.getElem_cons_succ]
  refine Lex.want (v := ?_) (by rfl) (fun W hW => ?hd44) ?_
  case hd44 =>
    have hh := HF2.out W hW
    clear hW
    go_split_ands
    go_simp
    first | rfl | exact way_new.refl _ | exact way_grow.refl _ | (refine ⟨?_, way_new.refl _⟩; rfl) | (refine ⟨?_, way_grow.refl _⟩; rfl)
  try simp only [Act.put, List.setIfInBounds_toArray, List.set_cons_zero, List.set_cons_succ, List.getElem_toArray, List.getElem_cons_zero, List.getElem_cons_succ]
  refine Lex.want (v := ?_) (by rfl) (fun W hW => ?hd45) ?_
  case hd45 =>
    have hh := HF2.out W hW
    clear hW
    go_split_ands
    go_simp
    first | rfl | exact way_new.refl _ | exact way_grow.refl _ | (refine ⟨?_, way_new.refl _⟩; rfl) | (refine ⟨?_, way_grow.refl _⟩; rfl)
  try simp only [Act.put, List.setIfInBounds_toArray, List.set_cons_zero, List.set_cons_succ, List.getElem_toArray, List.getElem_cons_zero, List.getElem_cons_succ]
  refine Lex.want (v := ?_) (by rfl) (fun W hW => ?hd46) ?_
  case hd46 =>
    have hh := HF2.out W hW
    clear hW
    go_split_ands
    go_simp
    first | rfl | exact way_new.refl _ | exact way_grow.refl _ | (refine ⟨?_, way_new.refl _⟩; rfl) | (refine ⟨?_, way_grow.refl _⟩; rfl)
  try simp only [Act.put, List.setIfInBounds_toArray, List.set_cons_zero, List.set_cons_succ, List.getElem_toArray, List.getElem_cons_zero, List.getElem_cons_succ]
  refine Lex.want (v := ?_) (by rfl) (fun W hW => ?hd47) ?_
  case hd47 =>
    have hh := HF2.out W hW
    clear hW
    go_split_ands
    go_simp
    first | rfl | exact way_new.refl _ | exact way_grow.refl _ | (refine ⟨?_, way_new.refl _⟩; rfl) | (refine ⟨?_, way_grow.refl _⟩; rfl)
  try simp only [Act.put, List.setIfInBounds_toArray, List.set_cons_zero, List.set_cons_succ, List.getElem_toArray, List.getElem_cons_zero, List.getElem_cons_succ]
  refine Lex.want (v := ?_) (by rfl) (fun W hW => ?hd48) ?_
  case hd48 =>
    have hh := HF2.out W hW
    clear hW
    go_split_ands
    go_simp
    first | rfl | exact way_new.refl _ | exact way_grow.refl _ | (refine ⟨?_, way_new.refl _⟩; rfl) | (refine ⟨?_, way_grow.refl _⟩; rfl)
  try simp only [Act.put, List.setIfInBounds_toArray, List.set_cons_zero, List.set_cons_succ, List.getElem_toArray, List.getElem_cons_zero, List.getElem_cons_succ]
  refine Lex.want (v := ?_) (by rfl) (fun W hW => ?hd49) ?_
  case hd49 =>
    have hh := HF2.out W hW
    clear hW
    go_split_ands
    go_simp
    first | rfl | exact way_new.refl _ | exact way_grow.refl _ | (refine ⟨?_, way_new.refl _⟩; rfl) | (refine ⟨?_, way_grow.refl _⟩; rfl)
  try simp only [Act.put, List.setIfInBounds_toArray, List.set_cons_zero, List.set_cons_succ, List.getElem_toArray, List.getElem_cons_zero, List.getElem_cons_succ]
  refine Lex.nil (hKT.out _ ?_)
  clear hKT KT
  refine Reg.take 30 (v := ?_) way_eq (by kernel_rfl) rfl (by decide) (by kernel_rfl) (by kernel_rfl) (fun _ _ _ h => h) (Or.inl ⟨by rfl, fun W hW => ?hd50⟩) ?_
  case hd50 =>
    have hh := HF2.out W hW
    clear hW
    go_split_ands
    go_simp
    first | rfl | exact way_new.refl _ | exact way_grow.refl _ | (refine ⟨?_, way_new.refl _⟩; rfl) | (refine ⟨?_, way_grow.refl _⟩; rfl)
  try simp only [Act.put, List.setIfInBounds_toArray, List.set_cons_zero, List.set_cons_succ, List.getElem_toArray, List.getElem_cons_zero, List.getElem_cons_succ]
  refine Reg.only 29 rfl (by decide) (by kernel_rfl) (fun W hW hT K hK => ?_)
  subst hW
  go_simp
  refine (HP0.out _ _ _ _ HL9.out).mono ?_
  rintro e w10 ⟨rfl, h9⟩
  have HL10 := hide (HL9.out.step h9)
  clear h9
  refine hK.out _ _ (HL10.out.facts) (fun _ => ?_)
  clear hK K
  try simp only [Act.put, List.setIfInBounds_toArray, List.set_cons_zero, List.set_cons_succ, List.getElem_toArray, List.getElem_cons_zero, List.getElem_cons_succ]
  refine Reg.seg 31 3 way_eq (by kernel_rfl) (fun _ _ d _ _ h => by cases d <;> exact h) (fun KT hKT => ?_)
  simp only [List.take_succ_cons, List.take_zero, List.drop_succ_cons, List.drop_zero]
  refine Lex.want (v := ?_) (by rfl) (fun W hW => ?hd51) ?_
  case hd51 =>
    have hh := HF2.out W hW
    clear hW
    go_split_ands
    go_simp
    first | rfl | exact way_new.refl _ | exact way_grow.refl _ | (refine ⟨?_, way_new.refl _⟩; rfl) | (refine ⟨?_, way_grow.refl _⟩; rfl)
  try simp only [Act.put, List.setIfInBounds_toArray, List.set_cons_zero, List.set_cons_succ, List.getElem_toArray, List.getElem_cons_zero, List.getElem_cons_succ]
  refine Lex.want (v := ?_) (by rfl) (fun W hW => ?hd52) ?_
  case hd52 =>
    have hh := HF2.out W hW
    clear hW
    go_split_ands
    go_simp
    first | rfl | exact way_new.refl _ | exact way_grow.refl _ | (refine ⟨?_, way_new.refl _⟩; rfl) | (refine ⟨?_, way_grow.refl _⟩; rfl)
  try simp only [Act.put, List.setIfInBounds_toArray, List.set_cons_zero, List.set_cons_succ, List.getElem_toArray, List.getElem_cons_zero, List.getElem_cons_succ]
  refine Lex.want (v := ?_) (by rfl) (fun W hW => ?hd53) ?_
  case hd53 =>
    have hh := HF2.out W hW
    clear hW
    go_split_ands
    go_simp
    first | rfl | exact way_new.refl _ | exact way_grow.refl _ | (refine ⟨?_, way_new.refl _⟩; rfl) | (refine ⟨?_, way_grow.refl _⟩; rfl)
  try simp only [Act.put, List.setIfInBounds_toArray, List.set_cons_zero, List.set_cons_succ, List.getElem_toArray, List.getElem_cons_zero, List.getElem_cons_succ]
  refine Lex.nil (hKT.out _ ?_)
  clear hKT KT
  refine Reg.done (by kernel_rfl) (fun W hW hWT => ⟨by kernel_rfl, ?_⟩)
  simp only [List.drop_succ_cons, List.drop_zero]
  subst hW
  go_wp2_with fail
  go_ret
  exact ⟨rfl, HL10.out.1.below⟩
end Shifts

/-- PostShifts returns true, whatever it is called with. -/
theorem postShifts_walk (n m : Int) (bl : Bool) (w : World) (_h1 : (Lit.int .i64 n).wf = true) (_h2 : (Lit.int .i64 m).wf = true) :
    Calls Try.prog 11 #[.int .i64 n, .int .i64 m, .bool bl] w fun e w' => e = .returned (.bool true) ∧ Below w.heap.size w w' := by
  by_cases h : n < 0 ∨ 1099511627776 < n ∨ m < 1 ∨ 1099511627776 < m
  · exact Shifts.postShifts_odd n m bl w h
  · simp only [not_or] at h
    obtain ⟨c1, c2, c3, c4⟩ := h
    cases bl with
    | true => exact Shifts.postShifts_barred n m w (by omega) (by omega) (by omega) (by omega)
    | false =>
      by_cases hlt : n < m
      · exact Shifts.postShifts_poor n m w (by omega) (by omega) (by omega) (by omega) hlt
      · exact Shifts.postShifts_rich n m w (by omega) (by omega) (by omega) (by omega) (by omega)
end Go.Proofs.Ytmhmjbggjbeikaa
