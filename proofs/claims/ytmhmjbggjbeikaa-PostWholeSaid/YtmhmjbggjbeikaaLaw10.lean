/- Shared by the laws of chapter 10: the changes run one by one, and a world in which a Pos that was made has come to hold what they came to. -/
import Derived.Test.YtmhmjbggjbeikaaOpen10
import Derived.Test.YtmhmjbggjbeikaaPlain10
namespace Go.Proofs.Ytmhmjbggjbeikaa
open Go.RowKit

def stepOp (m : List (Key × Three)) (o : POp) : List (Key × Three) := addMap m o.k o.sub o.by_
def runOps (l : List POp) : List (Key × Three) := l.foldl stepOp []

theorem runOps_take (l : List POp) {k : Nat} (hk : k < l.length) : runOps (l.take (k + 1)) = stepOp (runOps (l.take k)) l[k] := by
  unfold runOps
  rw [List.take_succ_eq_append_getElem hk, List.foldl_append]
  rfl
theorem runOps_next {l : List POp} {k : Nat} {o : POp} (h : l[k]? = some o) : runOps (l.take (k + 1)) = addMap (runOps (l.take k)) o.k o.sub o.by_ := by
  obtain ⟨hk, rfl⟩ := List.getElem?_eq_some_iff.1 h
  exact runOps_take l hk
theorem addMap_length (m : List (Key × Three)) (k : Key) (s b : Int) : (addMap m k s b).length ≤ m.length + 1 := by
  unfold addMap
  split
  · omega
  · split
    · have := del_length m k; omega
    · exact put_length _ _ _
theorem foldOps_length : ∀ (l : List POp) (m : List (Key × Three)), (l.foldl stepOp m).length ≤ m.length + l.length
  | [], m => by simp
  | o :: l, m => by
    have h1 := foldOps_length l (stepOp m o)
    have h2 : (stepOp m o).length ≤ m.length + 1 := addMap_length _ _ _ _
    simp only [List.foldl_cons, List.length_cons]
    omega
theorem runOps_length (l : List POp) : (runOps l).length ≤ l.length := by
  have := foldOps_length l []
  simpa [runOps] using this
theorem posKeys_nil_length (m : List (Key × Three)) : (posKeys m []).length = m.length := by
  unfold posKeys
  rw [(sortK_perm _).length_eq]
  have : (m.map (·.1)).filter (selKey []) = m.map (·.1) := List.filter_eq_self.2 (fun k _ => by simp [selKey])
  rw [this, List.length_map]

/-- The world W has come out of w0, of which all stands as it did; its new Pos p has the positions m. -/
def Adds (w0 : World) (p : Nat) (m : List (Key × Three)) (W : World) : Prop :=
  p < W.heap.size ∧ ∃ F, PosAt W p F m ∧ (∀ j, F j → w0.heap.size ≤ j) ∧ Below w0.heap.size w0 W

section
variable {w0 W W' : World} {p : Nat} {m : List (Key × Three)}
theorem Adds.below (h : Adds w0 p m W) : Below w0.heap.size w0 W := h.2.choose_spec.2.2
theorem Adds.good (h : Adds w0 p m W) : GoodPos m := h.2.choose_spec.1.2.2.1
theorem Adds.apart (h : Adds w0 p m W) : Apart m := by
  obtain ⟨_, F, ⟨_, _, _, hc⟩, _⟩ := h
  rcases hc with ⟨_, rfl⟩ | ⟨b, _, _, _, hb⟩
  · exact apart_nil
  · exact hb.apart
theorem Adds.step (h : Adds w0 p m W) (hb : Below W.heap.size W W') : Adds w0 p m W' := by
  obtain ⟨hp, F, h1, h2, h3⟩ := h
  exact ⟨Nat.lt_of_lt_of_le hp hb.size, F, h1.below hb, h2, h3.trans (hb.mono h3.size)⟩
theorem Adds.drew (h : Adds w0 p m W) : Adds w0 p m W.drew := h.step (Below.refl _ _).drew
theorem Adds.alloc (h : Adds w0 p m W) (o : Obj) : Adds w0 p m (W.alloc o) := h.step ((Below.refl _ _).alloc (Nat.le_refl _) o)
end

theorem ad_new (w0 : World) : Calls Try.prog 14 #[] w0 fun e w' => e = .returned (.pointer (some ⟨w0.heap.size, 0, none⟩)) ∧ Adds w0 w0.heap.size [] w' :=
  (posNew_calls w0).mono fun e w' ⟨h1, h2, h3⟩ => ⟨h1, h2.2.1 _ rfl, _, h2, fun j hj => by omega, h3⟩

section
variable {w0 : World} {p : Nat} {m : List (Key × Three)}
theorem ad_add (k1 k2 : ByteArray) (sub by_ : Int) (W : World) (h : Adds w0 p m W) :
    Calls Try.prog 16 #[.pointer (some ⟨p, 0, none⟩), .agg #[.string k1, .string k2], .int .i64 sub, .int .i64 by_] W fun e w' => e = .returned (.int .i64 (addErr m (k1, k2) sub by_)) ∧ Adds w0 p (addMap m (k1, k2) sub by_) w' := by
  obtain ⟨hp, F, h1, h2, h3⟩ := h
  refine (add_calls p F m (k1, k2) sub by_ W h1).mono fun e w' ⟨h4, F', h5, h6, h7⟩ => ⟨h4, Nat.lt_of_lt_of_le hp h6.size, F', h5, fun j hj => ?_, h3.trans (h6.below h3.size h2)⟩
  rcases h7 j hj with h8 | h8
  · exact h2 j h8
  · exact Nat.le_trans h3.size h8
theorem ad_get (k1 k2 : ByteArray) (W : World) (h : Adds w0 p m W) :
    Calls Try.prog 17 #[.pointer (some ⟨p, 0, none⟩), .agg #[.string k1, .string k2]] W fun e w' => e = .returned (.agg #[.int .i64 (posGet m (k1, k2)).1, .int .i64 (posGet m (k1, k2)).2.1, .int .i64 (posGet m (k1, k2)).2.2]) ∧ Below W.heap.size W w' := by
  obtain ⟨_, F, h1, h2, h3⟩ := h
  exact get_calls p F m (k1, k2) W h1
theorem ad_part (k1 k2 : ByteArray) (sub : Int) (W : World) (h : Adds w0 p m W) :
    Calls Try.prog 19 #[.pointer (some ⟨p, 0, none⟩), .agg #[.string k1, .string k2], .int .i64 sub] W fun e w' => e = .returned (.int .i64 (posPart m (k1, k2) sub)) ∧ Below W.heap.size W w' := by
  obtain ⟨_, F, h1, h2, h3⟩ := h
  exact part_calls p F m (k1, k2) sub W h1
theorem ad_whole (k1 k2 : ByteArray) (W : World) (h : Adds w0 p m W) :
    Calls Try.prog 22 #[.pointer (some ⟨p, 0, none⟩), .agg #[.string k1, .string k2]] W fun e w' => e = .returned (.int .i64 (posWhole m (k1, k2))) ∧ Below W.heap.size W w' := by
  obtain ⟨_, F, h1, h2, h3⟩ := h
  exact whole_calls p F m (k1, k2) W h1
theorem ad_total (a : ByteArray) (W : World) (hm : m.length ≤ 1099511627776) (h : Adds w0 p m W) :
    Calls Try.prog 21 #[.pointer (some ⟨p, 0, none⟩), .string a] W fun e w' => e = .returned (.int .i64 (posTotal m a)) ∧ Below W.heap.size W w' := by
  obtain ⟨_, F, h1, h2, h3⟩ := h
  exact total_calls p F m a W h1 hm
theorem ad_keys_all (W : World) (hm : m.length ≤ 1099511627776) (h : Adds w0 p m W) :
    Calls Try.prog 18 #[.pointer (some ⟨p, 0, none⟩), .slice none 0 0] W fun e w' => ∃ v, e = .returned v ∧ w'.ownsRow W.heap.size 24 2 v (posKeys m []).length ((posKeys m []).flatMap kcells) ∧ Below W.heap.size W w' := by
  obtain ⟨_, F, h1, h2, h3⟩ := h
  exact keys_calls p F m none 0 [] W h1 hm (fun h => by simp at h) (by simp)
/-- How many keys there are. -/
theorem ad_keys_len (W : World) (hm : m.length ≤ 1099511627776) (h : Adds w0 p m W) :
    Calls Try.prog 18 #[.pointer (some ⟨p, 0, none⟩), .slice none 0 0] W fun e w' => ∃ A c, e = .returned (.slice A m.length c) ∧ Below W.heap.size W w' := by
  refine (ad_keys_all W hm h).mono fun e w' ⟨v, h1, h2, h3⟩ => ?_
  obtain ⟨A, c, rfl, _⟩ := own_keys h2
  exact ⟨A, c, by rw [h1, posKeys_nil_length], h3⟩
end

/-- So does W, and the block q is none of the Pos's. -/
def AddsQ (w0 : World) (p : Nat) (m : List (Key × Three)) (q : Nat) (W : World) : Prop :=
  p < W.heap.size ∧ q < W.heap.size ∧ ∃ F, PosAt W p F m ∧ (∀ j, F j → w0.heap.size ≤ j) ∧ Below w0.heap.size w0 W ∧ ¬ F q

section
variable {w0 W W' : World} {p q : Nat} {m : List (Key × Three)}
theorem AddsQ.adds (h : AddsQ w0 p m q W) : Adds w0 p m W := by
  obtain ⟨h1, _, F, h2, h3, h4, _⟩ := h
  exact ⟨h1, F, h2, h3, h4⟩
theorem AddsQ.step (h : AddsQ w0 p m q W) (hb : Below W.heap.size W W') : AddsQ w0 p m q W' := by
  obtain ⟨hp, hq, F, h1, h2, h3, h4⟩ := h
  exact ⟨Nat.lt_of_lt_of_le hp hb.size, Nat.lt_of_lt_of_le hq hb.size, F, h1.below hb, h2, h3.trans (hb.mono h3.size), h4⟩
theorem Adds.new (h : Adds w0 p m W) (o : Obj) : AddsQ w0 p m W.heap.size (W.alloc o) := by
  obtain ⟨hp, F, h1, h2, h3⟩ := h
  have hb : Below W.heap.size W (W.alloc o) := (Below.refl _ _).alloc (Nat.le_refl _) o
  exact ⟨Nat.lt_of_lt_of_le hp hb.size, by simp, F, h1.below hb, h2, h3.trans (hb.mono h3.size), fun e => by have := h1.2.1 _ e; omega⟩
end
theorem adq_add {w0 : World} {p q : Nat} {m : List (Key × Three)} (k1 k2 : ByteArray) (sub by_ : Int) (W : World) (h : AddsQ w0 p m q W) :
    Calls Try.prog 16 #[.pointer (some ⟨p, 0, none⟩), .agg #[.string k1, .string k2], .int .i64 sub, .int .i64 by_] W fun e w' => e = .returned (.int .i64 (addErr m (k1, k2) sub by_)) ∧ AddsQ w0 p (addMap m (k1, k2) sub by_) q w' ∧ w'.heap[q]? = W.heap[q]? := by
  obtain ⟨hp, hq, F, h1, h2, h3, h8⟩ := h
  refine (add_calls p F m (k1, k2) sub by_ W h1).mono fun e w' ⟨h4, F', h5, h6, h7⟩ => ⟨h4, ⟨Nat.lt_of_lt_of_le hp h6.size, Nat.lt_of_lt_of_le hq h6.size, F', h5, fun j hj => ?_, h3.trans (h6.below h3.size h2), fun e => ?_⟩, h6.block q hq h8⟩
  · rcases h7 j hj with h9 | h9
    · exact h2 j h9
    · exact Nat.le_trans h3.size h9
  · rcases h7 q e with h9 | h9
    · exact h8 h9
    · omega

/-- One Op of a slice of Ops: its cells, wherever nothing old has turned. -/
theorem OpsAt.cell {w : World} {a : Option Addr} {len cap : Nat} {l : List POp} (h : OpsAt w a len cap l) {k : Nat} (hk : k < len) :
    ∃ (b off : Nat) (c1 c2 : ByteArray) (s y : Int), a = some ⟨b, off, none⟩ ∧ len ≤ cap ∧ cap ≤ maxLen ∧ l[k]? = some ⟨(c1, c2), s, y⟩ ∧ ∀ W, Below w.heap.size w W →
      W.cell? ⟨b, off + k * 4, none⟩ = some (.string c1) ∧ W.cell? ⟨b, off + k * 4 + 1, none⟩ = some (.string c2) ∧ W.cell? ⟨b, off + k * 4 + 2, none⟩ = some (.int .i64 s) ∧ W.cell? ⟨b, off + k * 4 + 3, none⟩ = some (.int .i64 y) := by
  obtain ⟨hlen, _, _, hc⟩ := h
  rcases hc with h | ⟨b, off, h1, h2, h3, h4, h5⟩
  · subst h; simp at hlen; omega
  · have hkl : k < l.length := by omega
    have he : l[k]? = some l[k] := List.getElem?_eq_getElem hkl
    obtain ⟨g1, g2, g3, g4⟩ := h5 k l[k] he
    exact ⟨b, off, l[k].k.1, l[k].k.2, l[k].sub, l[k].by_, h1, h3, h4, he, fun W hB => ⟨(hB.cell (p := ⟨b, off + k * 4, none⟩) h2).trans g1, (hB.cell (p := ⟨b, off + k * 4 + 1, none⟩) h2).trans g2, (hB.cell (p := ⟨b, off + k * 4 + 2, none⟩) h2).trans g3, (hB.cell (p := ⟨b, off + k * 4 + 3, none⟩) h2).trans g4⟩⟩

/-- A slice leads to these keys. -/
def KeysIn (A : Option Addr) (ks : List Key) (w : World) : Prop :=
  ∀ (i : Nat) (x : Key), ks[i]? = some x → ∃ g, A = some ⟨g, 0, none⟩ ∧ g < w.heap.size ∧ w.cell? ⟨g, i * 2, none⟩ = some (.string x.1) ∧ w.cell? ⟨g, i * 2 + 1, none⟩ = some (.string x.2)
theorem KeysIn.keep {A : Option Addr} {ks : List Key} {w W : World} (h : KeysIn A ks w) (hb : Below w.heap.size w W) : KeysIn A ks W := fun i x hx => by
  obtain ⟨g, h1, h2, h3, h4⟩ := h i x hx
  exact ⟨g, h1, Nat.lt_of_lt_of_le h2 hb.size, (hb.cell (p := ⟨g, i * 2, none⟩) h2).trans h3, (hb.cell (p := ⟨g, i * 2 + 1, none⟩) h2).trans h4⟩
theorem keysIn_own {w : World} {base : Nat} {v : Value} {ks : List Key} (h : w.ownsRow base 24 2 v ks.length (ks.flatMap kcells)) : ∃ A c, v = .slice A ks.length c ∧ KeysIn A ks w := by
  obtain ⟨A, c, rfl, hA⟩ := own_keys h
  refine ⟨A, c, rfl, fun i x hx => ?_⟩
  obtain ⟨hi, rfl⟩ := List.getElem?_eq_some_iff.1 hx
  obtain ⟨g, h1, h2, h3, h4⟩ := hA i hi
  obtain ⟨c1, c2⟩ := own_key_cells h h4 hi
  exact ⟨g, h1, h3, c1, c2⟩
section
variable {w0 : World} {p : Nat} {m : List (Key × Three)}
theorem ad_keys (A : Option Addr) (c : Nat) (al : List ByteArray) (W : World) (hm : m.length ≤ 1099511627776) (hal : StrsAt W W.heap.size A al) (hn : al.length ≤ 4611686018427387904) (h : Adds w0 p m W) :
    Calls Try.prog 18 #[.pointer (some ⟨p, 0, none⟩), .slice A al.length c] W fun e w' => ∃ A' c', e = .returned (.slice A' (posKeys m al).length c') ∧ KeysIn A' (posKeys m al) w' ∧ Below W.heap.size W w' := by
  obtain ⟨_, F, h1, h2, h3⟩ := h
  refine (keys_calls p F m A c al W h1 hm hal hn).mono fun e w' ⟨v, h4, h5, h6⟩ => ?_
  obtain ⟨A', c', rfl, h7⟩ := keysIn_own h5
  exact ⟨A', c', h4, h7, h6⟩
/-- Of one asset, of two: as a call with so many texts lays them. -/
theorem ad_keys1 (a : ByteArray) (W : World) (hm : m.length ≤ 1099511627776) (h : Adds w0 p m W) :
    Calls Try.prog 18 #[.pointer (some ⟨p, 0, none⟩), .slice (some ⟨W.heap.size, 0, none⟩) 1 1] (W.alloc (.cells #[.string a] 9)) fun e w' => ∃ A' c', e = .returned (.slice A' (posKeys m [a]).length c') ∧ KeysIn A' (posKeys m [a]) w' ∧ Below W.heap.size W w' := by
  have hb : Below W.heap.size W (W.alloc (.cells #[.string a] 9)) := (Below.refl _ _).alloc (Nat.le_refl _) _
  refine (ad_keys (some ⟨W.heap.size, 0, none⟩) 1 [a] _ hm (fun _ => ⟨W.heap.size, 0, rfl, by simp, fun i hi => by
      have : i = 0 := by simp at hi; omega
      subst this
      simp⟩) (by simp) (h.alloc _)).mono fun e w' ⟨A', c', h1, h2, h3⟩ => ⟨A', c', h1, h2, hb.trans (h3.mono (by simp))⟩
theorem ad_keys2 (a b : ByteArray) (W : World) (hm : m.length ≤ 1099511627776) (h : Adds w0 p m W) :
    Calls Try.prog 18 #[.pointer (some ⟨p, 0, none⟩), .slice (some ⟨W.heap.size, 0, none⟩) 2 2] (W.alloc (.cells #[.string a, .string b] 9)) fun e w' => ∃ A' c', e = .returned (.slice A' (posKeys m [a, b]).length c') ∧ KeysIn A' (posKeys m [a, b]) w' ∧ Below W.heap.size W w' := by
  have hb : Below W.heap.size W (W.alloc (.cells #[.string a, .string b] 9)) := (Below.refl _ _).alloc (Nat.le_refl _) _
  refine (ad_keys (some ⟨W.heap.size, 0, none⟩) 2 [a, b] _ hm (fun _ => ⟨W.heap.size, 0, rfl, by simp, fun i hi => by
      have : i = 0 ∨ i = 1 := by simp at hi; omega
      rcases this with rfl | rfl <;> simp⟩) (by simp) (h.alloc _)).mono fun e w' ⟨A', c', h1, h2, h3⟩ => ⟨A', c', h1, h2, hb.trans (h3.mono (by simp))⟩
theorem ad_keys0 (W : World) (hm : m.length ≤ 1099511627776) (h : Adds w0 p m W) :
    Calls Try.prog 18 #[.pointer (some ⟨p, 0, none⟩), .slice none 0 0] W fun e w' => ∃ A' c', e = .returned (.slice A' (posKeys m []).length c') ∧ KeysIn A' (posKeys m []) w' ∧ Below W.heap.size W w' :=
  ad_keys none 0 [] W hm (fun h => by simp at h) (by simp) h
end

theorem foldOps_keys : ∀ (l : List POp) (m : List (Key × Three)) {k : Key}, k ∈ (l.foldl stepOp m).map (·.1) → k ∈ m.map (·.1) ∨ ∃ o ∈ l, o.k = k
  | [], m, k, h => .inl h
  | o :: l, m, k, h => by
    rcases foldOps_keys l (stepOp m o) h with h | ⟨o', h1, h2⟩
    · rcases addMap_keys h with h | h
      · exact .inl h
      · exact .inr ⟨o, List.mem_cons_self, h.symm⟩
    · exact .inr ⟨o', List.mem_cons_of_mem _ h1, h2⟩
theorem runOps_keys {l : List POp} {k : Key} (h : k ∈ (runOps l).map (·.1)) : ∃ o ∈ l, o.k = k := by
  rcases foldOps_keys l [] h with h | h
  · simp at h
  · exact h
/-- The texts of the keys are no longer than a text can be. -/
theorem posKeys_size {l : List POp} (hf : ∀ o ∈ l, o.fits) {al : List ByteArray} {k : Key} (h : k ∈ posKeys (runOps l) al) : k.1.size ≤ maxLen ∧ k.2.size ≤ maxLen := by
  obtain ⟨⟨x, hx⟩, _⟩ := posKeys_mem.1 h
  obtain ⟨o, ho, rfl⟩ := runOps_keys (List.mem_map.2 ⟨_, hx, rfl⟩)
  exact (hf o ho).2
end Go.Proofs.Ytmhmjbggjbeikaa
