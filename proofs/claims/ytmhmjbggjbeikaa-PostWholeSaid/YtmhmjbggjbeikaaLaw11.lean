/- Shared by the laws of chapter 11: a world in which a ledger that was made has come to hold L; the contracts in these words. -/
import Derived.Test.YtmhmjbggjbeikaaPlain11
namespace Go.Proofs.Ytmhmjbggjbeikaa
set_option linter.unusedSimpArgs false
set_option linter.unusedVariables false
open Go.RowKit
attribute [local go_sem] objAt_alloc objAt_alloc_at objAt_drew objAt_drewN objAt_setCell comesTo_value comesTo_enter

/-- W has come out of w0, of which all stands as it did; its new ledger g, whose Pos is block p, holds L; the blocks of S are none of its own. -/
def Leds (w0 : World) (g p : Nat) (L : Led) (S : Nat → Prop) (W : World) : Prop :=
  ∃ F, LedAt W g p F L ∧ (∀ j, F j → w0.heap.size ≤ j ∧ ¬ S j) ∧ Below w0.heap.size w0 W ∧ ∀ j, S j → j < W.heap.size

section
variable {w0 W W' : World} {g p : Nat} {L L' : Led} {S : Nat → Prop}
theorem Leds.below (h : Leds w0 g p L S W) : Below w0.heap.size w0 W := h.choose_spec.2.2.1
theorem Leds.step (h : Leds w0 g p L S W) (hb : Below W.heap.size W W') : Leds w0 g p L S W' := by
  obtain ⟨F, h1, h2, h3, h4⟩ := h
  exact ⟨F, h1.below hb, h2, h3.trans (hb.mono h3.size), fun j hj => Nat.lt_of_lt_of_le (h4 j hj) hb.size⟩
theorem Leds.drew (h : Leds w0 g p L S W) : Leds w0 g p L S W.drew := h.step (Below.refl _ _).drew
theorem Leds.alloc (h : Leds w0 g p L S W) (o : Obj) : Leds w0 g p L S (W.alloc o) := h.step ((Below.refl _ _).alloc (Nat.le_refl _) o)
theorem Leds.good (h : Leds w0 g p L S W) : GoodPos L.m := by
  obtain ⟨F, ⟨Fp, im, bm, _, h2, _⟩, _⟩ := h
  exact h2.2.2.1
theorem Leds.apart (h : Leds w0 g p L S W) : Apart L.m := by
  obtain ⟨F, ⟨Fp, im, bm, _, ⟨_, _, _, hc⟩, _⟩, _⟩ := h
  rcases hc with ⟨_, e⟩ | ⟨b, _, _, _, hb⟩
  · rw [e]; exact apart_nil
  · exact hb.apart
theorem Leds.cell (h : Leds w0 g p L S W) : W.cell? ⟨g, 0, none⟩ = some (.pointer (some ⟨p, 0, none⟩)) ∧ g < W.heap.size := by
  obtain ⟨F, ⟨Fp, im, bm, h1, _, _, _, h5, _, _, _, h9, _⟩, _⟩ := h
  exact ⟨(led_cells h1).1, h9 g h5⟩
theorem Leds.pos (h : Leds w0 g p L S W) : ∃ Fp, PosAt W p Fp L.m := by
  obtain ⟨F, ⟨Fp, im, bm, _, h2, _⟩, _⟩ := h
  exact ⟨Fp, h2⟩
/-- A block that has come since is none of the ledger's. -/
theorem Leds.keep (h : Leds w0 g p L S W) (hb : Below W.heap.size W W') (S' : Nat → Prop) (hs : ∀ j, S' j → S j ∨ (W.heap.size ≤ j ∧ j < W'.heap.size)) : Leds w0 g p L S' W' := by
  obtain ⟨F, h1, h2, h3, h4⟩ := h
  have hlt : ∀ j, F j → j < W.heap.size := by
    obtain ⟨Fp, im, bm, _, _, _, _, _, _, _, _, h9, _⟩ := h1
    exact h9
  refine ⟨F, h1.below hb, fun j hj => ⟨(h2 j hj).1, fun e => ?_⟩, h3.trans (hb.mono h3.size), fun j hj => ?_⟩
  · rcases hs j e with e | ⟨e, _⟩
    · exact (h2 j hj).2 e
    · have := hlt j hj; omega
  · rcases hs j hj with e | ⟨_, e⟩
    · exact Nat.lt_of_lt_of_le (h4 j e) hb.size
    · exact e
/-- Only blocks of S have turned. -/
theorem Leds.frm (h : Leds w0 g p L S W) (hf : Frm S W W') (hS : ∀ j, S j → w0.heap.size ≤ j) : Leds w0 g p L S W' := by
  obtain ⟨F, h1, h2, h3, h4⟩ := h
  exact ⟨F, h1.frm hf (fun j hj => (h2 j hj).2), h2, h3.trans (hf.below h3.size hS), fun j hj => Nat.lt_of_lt_of_le (h4 j hj) hf.size⟩
/-- The blocks of S are as they were. -/
def Kept (S : Nat → Prop) (W W' : World) : Prop := ∀ j, S j → W'.heap[j]? = W.heap[j]?
theorem Leds.turn (h : Leds w0 g p L S W) (hc : ∀ F, LedAt W g p F L → LedPost W g p F L' W') : Leds w0 g p L' S W' ∧ Kept S W W' := by
  obtain ⟨F, h1, h2, h3, h4⟩ := h
  obtain ⟨F', k1, k2, k3⟩ := hc F h1
  refine ⟨⟨F', k1, fun j hj => ?_, h3.trans (k2.below h3.size fun j hj => (h2 j hj).1), fun j hj => Nat.lt_of_lt_of_le (h4 j hj) k2.size⟩, fun j hj => k2.block j (h4 j hj) fun e => (h2 j e).2 hj⟩
  rcases k3 j hj with e | e
  · exact h2 j e
  · exact ⟨Nat.le_trans h3.size e, fun e2 => by have := h4 j e2; omega⟩
end

section
variable {w0 W : World} {g p : Nat} {L : Led} {S : Nat → Prop}
theorem ls_new (w0 : World) : Calls Try.prog 24 #[] w0 fun e w' => ∃ g p, e = .returned (.pointer (some ⟨g, 0, none⟩)) ∧ Leds w0 g p led0 (fun _ => False) w' :=
  (ledNew_calls w0).mono fun e w' ⟨g, p, F, h1, h2, h3, h4⟩ => ⟨g, p, h1, F, h2, fun j hj => ⟨h3 j hj, id⟩, h4, fun j hj => hj.elim⟩
theorem ls_issue (k1 k2 : ByteArray) (by_ : Int) (h : Leds w0 g p L S W) (hs1 : shortText k1) (hs2 : shortText k2)
    (hf1 : within by_ → -9223372036854775808 ≤ issOf L.iss k2 + by_) (hf2 : within by_ → issOf L.iss k2 + by_ ≤ 9223372036854775807) :
    Calls Try.prog 25 #[.pointer (some ⟨g, 0, none⟩), .agg #[.string k1, .string k2], .int .i64 by_] W fun e w' => e = .returned (.int .i64 (issueErr L (k1, k2) by_)) ∧ Leds w0 g p (issueLed L (k1, k2) by_) S w' ∧ Kept S W w' := by
  obtain ⟨F, h1, h2, h3, h4⟩ := h
  refine (issue_calls g p F L k1 k2 by_ W h1 hs1 hs2 hf1 hf2).mono fun e w' ⟨e1, F', k1, k2, k3⟩ => ⟨e1, ⟨F', k1, fun j hj => ?_, h3.trans (k2.below h3.size fun j hj => (h2 j hj).1), fun j hj => Nat.lt_of_lt_of_le (h4 j hj) k2.size⟩, fun j hj => k2.block j (h4 j hj) fun e => (h2 j e).2 hj⟩
  rcases k3 j hj with e | e
  · exact h2 j e
  · exact ⟨Nat.le_trans h3.size e, fun e2 => by have := h4 j e2; omega⟩
theorem ls_apply (a : Option Addr) (n c : Nat) (l : List PPost) (hn : l.length = n) (hm : n ≤ 1099511627776) (hp : PostsAt W a l) (hs : shortPosts l) (h : Leds w0 g p L S W) :
    Calls Try.prog 29 #[.pointer (some ⟨g, 0, none⟩), .slice a n c] W fun e w' => e = .returned (.int .i64 (lookErr L l)) ∧ Leds w0 g p (applyLed L l) S w' ∧ Kept S W w' := by
  obtain ⟨F, h1, h2, h3, h4⟩ := h
  refine (apply_calls g p F L a n c l W hn hm h1 hp hs).mono fun e w' ⟨e1, F', k1, k2, k3⟩ => ⟨e1, ⟨F', k1, fun j hj => ?_, h3.trans (k2.below h3.size fun j hj => (h2 j hj).1), fun j hj => Nat.lt_of_lt_of_le (h4 j hj) k2.size⟩, fun j hj => k2.block j (h4 j hj) fun e => (h2 j e).2 hj⟩
  rcases k3 j hj with e | e
  · exact h2 j e
  · exact ⟨Nat.le_trans h3.size e, fun e2 => by have := h4 j e2; omega⟩
theorem ls_try (a : Option Addr) (n c : Nat) (l : List PPost) (hn : l.length = n) (hm : n ≤ 1099511627776) (hp : PostsAt W a l) (h : Leds w0 g p L S W) :
    Calls Try.prog 27 #[.pointer (some ⟨g, 0, none⟩), .slice a n c] W fun e w' => e = .returned (.int .i64 (lookErr L l)) ∧ Below W.heap.size W w' := by
  obtain ⟨F, h1, _⟩ := h
  exact try_calls g p F L a n c l W hn hm h1 hp
theorem ls_issued (a : ByteArray) (h : Leds w0 g p L S W) : Calls Try.prog 32 #[.pointer (some ⟨g, 0, none⟩), .string a] W fun e w' => e = .returned (.int .i64 (issOf L.iss a)) ∧ Below W.heap.size W w' := by
  obtain ⟨F, h1, _⟩ := h
  exact (issued_calls g p F L a W h1).mono fun e w' ⟨e1, e2⟩ => ⟨e1, e2 ▸ Below.refl _ _⟩
theorem ls_blocked (k1 k2 : ByteArray) (h : Leds w0 g p L S W) : Calls Try.prog 34 #[.pointer (some ⟨g, 0, none⟩), .agg #[.string k1, .string k2]] W fun e w' => e = .returned (.bool (isBlk L.blk (k1, k2))) ∧ Below W.heap.size W w' := by
  obtain ⟨F, h1, _⟩ := h
  exact blocked_calls g p F L k1 k2 W h1
theorem ls_part (k1 k2 : ByteArray) (sub : Int) (h : Leds w0 g p L S W) : Calls Try.prog 19 #[.pointer (some ⟨p, 0, none⟩), .agg #[.string k1, .string k2], .int .i64 sub] W fun e w' => e = .returned (.int .i64 (posPart L.m (k1, k2) sub)) ∧ Below W.heap.size W w' := by
  obtain ⟨Fp, hp⟩ := h.pos
  exact part_calls p Fp L.m (k1, k2) sub W hp
theorem ls_whole (k1 k2 : ByteArray) (h : Leds w0 g p L S W) : Calls Try.prog 22 #[.pointer (some ⟨p, 0, none⟩), .agg #[.string k1, .string k2]] W fun e w' => e = .returned (.int .i64 (posWhole L.m (k1, k2))) ∧ Below W.heap.size W w' := by
  obtain ⟨Fp, hp⟩ := h.pos
  exact whole_calls p Fp L.m (k1, k2) W hp
theorem ls_get (k1 k2 : ByteArray) (h : Leds w0 g p L S W) : Calls Try.prog 17 #[.pointer (some ⟨p, 0, none⟩), .agg #[.string k1, .string k2]] W fun e w' => e = .returned (.agg #[.int .i64 (posGet L.m (k1, k2)).1, .int .i64 (posGet L.m (k1, k2)).2.1, .int .i64 (posGet L.m (k1, k2)).2.2]) ∧ Below W.heap.size W w' := by
  obtain ⟨Fp, hp⟩ := h.pos
  exact get_calls p Fp L.m (k1, k2) W hp
theorem ls_total (a : ByteArray) (hm : L.m.length ≤ 1099511627776) (h : Leds w0 g p L S W) : Calls Try.prog 21 #[.pointer (some ⟨p, 0, none⟩), .string a] W fun e w' => e = .returned (.int .i64 (posTotal L.m a)) ∧ Below W.heap.size W w' := by
  obtain ⟨Fp, hp⟩ := h.pos
  exact total_calls p Fp L.m a W hp hm
end

/-! ### a first issue; two postings -/
theorem posPart_nil (k : Key) (s : Int) : posPart [] k s = 0 := by
  unfold posPart posGet part3
  simp [look]
theorem issue_first (k : Key) (n : Int) (h0 : 0 ≤ n) (h1 : n ≤ 1099511627776) :
    issueErr led0 k n = 0 ∧ (∀ k' s, posPart (issueLed led0 k n).m k' s = if k = k' ∧ 0 = s then n else 0) ∧ (∀ a, sumA (issueLed led0 k n).m a = if k.2 = a then n else 0) ∧ issOf (issueLed led0 k n).iss k.2 = n ∧ (issueLed led0 k n).blk = [] ∧ (issueLed led0 k n).m.length ≤ 1 := by
  have he : addErr [] k 0 n = 0 := addErr_of (by unfold isPart; omega) (by unfold within; omega) (by rw [posPart_nil]; unfold okPart; omega)
  have hi : issueErr led0 k n = 0 := by
    unfold issueErr led0
    rw [if_neg (not_not_intro (by unfold within; omega)), if_neg (by omega), if_neg (by simp [issOf, look]; omega)]
    exact he
  have hl : issueLed led0 k n = ⟨addMap [] k 0 n, put [] k.2 (issOf [] k.2 + n), []⟩ := by
    unfold issueLed
    rw [if_neg (not_not_intro hi)]
    rfl
  rw [hl]
  refine ⟨hi, fun k' s => ?_, fun a => ?_, ?_, rfl, ?_⟩
  · show posPart (addMap [] k 0 n) k' s = _
    rw [posPart_add he, posPart_nil]
    split <;> simp
  · show sumA (addMap [] k 0 n) a = _
    rw [sumA_add apart_nil _ _ _ he]
    simp [sumA]
  · simp [issOf, put, look]
  · have := addMap_length [] k 0 n
    simpa using this

theorem isBlk_nil (k : Key) : isBlk [] k = false := rfl
theorem posts_two {w W : World} {b : Nat} {T : TypeId} {f : Nat × Nat} {p q : PPost} (h : W.heap[b]? = some (.cells #[.string p.k.1, .string p.k.2, .int .i64 p.sub, .int .i64 p.by_, .string q.k.1, .string q.k.2, .int .i64 q.sub, .int .i64 q.by_] T f)) : PostsAt W (some ⟨b, 0, none⟩) [p, q] := by
  have hlt : b < W.heap.size := (Array.getElem?_eq_some_iff.1 h).1
  intro k x hx
  match k, hx with
  | 0, hx =>
    obtain rfl : p = x := by simpa using hx
    exact ⟨b, 0, rfl, hlt, by simp [World.cell?, h], by simp [World.cell?, h], by simp [World.cell?, h], by simp [World.cell?, h]⟩
  | 1, hx =>
    obtain rfl : q = x := by simpa using hx
    exact ⟨b, 0, rfl, hlt, by simp [World.cell?, h], by simp [World.cell?, h], by simp [World.cell?, h], by simp [World.cell?, h]⟩
  | k + 2, hx => simp at hx

def movePosts (a b x : ByteArray) (y : Int) : List PPost := [⟨(a, x), 0, -y⟩, ⟨(b, x), 0, y⟩]
theorem move_parts (a b x : ByteArray) (y : Int) (hab : a ≠ b) : numsOf PPost.part PPost.by_ (movePosts a b x y) ((a, x), 0) = [-y] ∧ numsOf PPost.part PPost.by_ (movePosts a b x y) ((b, x), 0) = [y] ∧ ∀ q, q ≠ ((a, x), 0) → q ≠ ((b, x), 0) → numsOf PPost.part PPost.by_ (movePosts a b x y) q = [] := by
  have hba : ¬ b = a := fun e => hab e.symm
  refine ⟨by simp [numsOf, movePosts, PPost.part, hba], by simp [numsOf, movePosts, PPost.part, hab], fun q h1 h2 => ?_⟩
  have h1' : ¬ ((a, x), (0 : Int)) = q := fun e => h1 e.symm
  have h2' : ¬ ((b, x), (0 : Int)) = q := fun e => h2 e.symm
  simp [numsOf, movePosts, PPost.part, h1', h2']
theorem move_even (a b x : ByteArray) (y : Int) (c : ByteArray) : sumOf (movePosts a b x y) c = 0 := by
  unfold sumOf movePosts
  by_cases h : x = c
  · simp [h]; omega
  · simp [h]
theorem netErr_plain (v sub by_ : Int) (bl : Bool) (h : ¬ (sub = 0 ∧ by_ < 0 ∧ bl = true)) : netErr v sub by_ false bl = if v + by_ < 0 then 30 else if v + by_ > 1152921504606846976 then 12 else 0 := by
  unfold netErr
  rw [if_neg h]
  simp
theorem netAt_one {l : List PPost} {q : PKey} {y : Int} (h : numsOf PPost.part PPost.by_ l q = [y]) (hf : fits y) : netAt l q = ⟨q.1, q.2, y, false⟩ := by
  unfold netAt
  rw [h]
  have e : ([y] : List Int).sum = y := by simp
  unfold accAdd
  rw [e, if_pos hf]
  simp [hf]
theorem netAt_sum {l : List PPost} {q : PKey} {y : Int} (h : (numsOf PPost.part PPost.by_ l q).sum = y) (hf : fits y) : netAt l q = ⟨q.1, q.2, y, false⟩ := by
  unfold netAt accAdd
  rw [h, if_pos hf]
  simp [hf]
/-- What a transfer comes to: what its one side says, where the other has room. -/
theorem move_look (L : Led) (a b x : ByteArray) (y : Int) (hab : a ≠ b) (h0 : 0 ≤ y) (h1 : y ≤ 1099511627776) (hg : GoodPos L.m) (hr : posPart L.m (b, x) 0 + y ≤ 1152921504606846976) (hbl : isBlk L.blk (a, x) = false) :
    lookErr L (movePosts a b x y) = if posPart L.m (a, x) 0 - y < 0 then 30 else 0 := by
  obtain ⟨n1, n2, _⟩ := move_parts a b x y hab
  have hva := posPart_ok hg (a, x) 0
  have hvb := posPart_ok hg (b, x) 0
  have hok : ∀ p ∈ movePosts a b x y, okPost p := fun p hp => by
    simp only [movePosts, List.mem_cons, List.not_mem_nil, or_false] at hp
    rcases hp with rfl | rfl <;> (unfold okPost isPart within; simp only; omega)
  rw [look_of (by simp [movePosts]) hok (move_even a b x y)]
  have eA : netErrOf L (netAt (movePosts a b x y) ((a, x), 0)) = if posPart L.m (a, x) 0 - y < 0 then 30 else 0 := by
    rw [netAt_one n1 (by unfold fits; omega)]
    show netErr (posPart L.m (a, x) 0) 0 (-y) false (isBlk L.blk (a, x)) = _
    rw [netErr_plain _ _ _ _ (by rw [hbl]; simp)]
    by_cases hc : posPart L.m (a, x) 0 - y < 0
    · rw [if_pos (by omega), if_pos hc]
    · rw [if_neg (by omega), if_neg (by omega), if_neg hc]
  have eB : netErrOf L (netAt (movePosts a b x y) ((b, x), 0)) = 0 := by
    rw [netAt_one n2 (by unfold fits; omega)]
    show netErr (posPart L.m (b, x) 0) 0 y false (isBlk L.blk (b, x)) = _
    rw [netErr_plain _ _ _ _ (by rintro ⟨_, h, _⟩; omega)]
    rw [if_neg (by omega), if_neg (by omega)]
  have hmem : ∀ z ∈ netsB (movePosts a b x y), z = netAt (movePosts a b x y) ((a, x), 0) ∨ z = netAt (movePosts a b x y) ((b, x), 0) := fun z hz => by
    obtain ⟨p, hp, rfl⟩ := nets_mem hz
    simp only [movePosts, List.mem_cons, List.not_mem_nil, or_false] at hp
    rcases hp with rfl | rfl
    · exact .inl rfl
    · exact .inr rfl
  by_cases hc : posPart L.m (a, x) 0 - y < 0
  · rw [if_pos hc] at eA ⊢
    refine firstErr_one (fun z hz => ?_) ⟨_, nets_has (p := ⟨(a, x), 0, -y⟩) (by simp [movePosts]), eA⟩
    rcases hmem z hz with rfl | rfl
    · exact .inr eA
    · exact .inl eB
  · rw [if_neg hc] at eA ⊢
    rw [firstErr_zero]
    intro z hz
    rcases hmem z hz with rfl | rfl
    · exact eA
    · exact eB
theorem move_does {L : Led} {a b x : ByteArray} {y : Int} (hab : a ≠ b) (h : lookErr L (movePosts a b x y) = 0) (hg : GoodPos L.m) (ha : Apart L.m) :
    (∀ k s, posPart (applyLed L (movePosts a b x y)).m k s = posPart L.m k s + if (k, s) = ((a, x), 0) then -y else if (k, s) = ((b, x), 0) then y else 0) ∧ (∀ c, sumA (applyLed L (movePosts a b x y)).m c = sumA L.m c) ∧ (applyLed L (movePosts a b x y)).iss = L.iss ∧ (applyLed L (movePosts a b x y)).blk = L.blk := by
  obtain ⟨_, _, h3, h4, h5, h6⟩ := apply_does h hg ha
  obtain ⟨n1, n2, n3⟩ := move_parts a b x y hab
  refine ⟨fun k s => ?_, h4, h5, h6⟩
  rw [h3]
  congr 1
  unfold partSum
  by_cases e1 : (k, s) = ((a, x), (0 : Int))
  · rw [if_pos e1, e1, n1]; simp
  · rw [if_neg e1]
    by_cases e2 : (k, s) = ((b, x), (0 : Int))
    · rw [if_pos e2, e2, n2]; simp
    · rw [if_neg e2, n3 _ e1 e2]; rfl
theorem foldNet_length : ∀ (ns : List PNet) (m : List (Key × Three)), (ns.foldl addNet m).length ≤ m.length + ns.length
  | [], m => by simp
  | x :: ns, m => by
    have h1 := foldNet_length ns (addNet m x)
    have h2 : (addNet m x).length ≤ m.length + 1 := addMap_length _ _ _ _
    simp only [List.foldl_cons, List.length_cons]
    omega
theorem applyLed_length (L : Led) (l : List PPost) : (applyLed L l).m.length ≤ L.m.length + l.length := by
  unfold applyLed
  split
  · omega
  · have h1 := foldNet_length (netsB l) L.m
    have h2 := netsB_length l
    show ((netsB l).foldl addNet L.m).length ≤ _
    omega
end Go.Proofs.Ytmhmjbggjbeikaa
