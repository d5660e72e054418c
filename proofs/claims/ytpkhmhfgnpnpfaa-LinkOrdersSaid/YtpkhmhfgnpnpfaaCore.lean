/- Words of this session for memory: frames, maps whose entries are typed, iterators over them, slices that are read. No program in sight. -/
import Derived.WalkKit
import Derived.Maps.Range
import Derived.WalkSpells
import Derived.WalkLawsBesides
namespace Go.Proofs.Ytpkhmhfgnpnpfaa
set_option linter.unusedSimpArgs false
set_option linter.unusedVariables false
open Go.RowKit
open Go.ChangeMaps (setBlock heap_setBlock_same heap_setBlock_other)

theorem hide {p : Prop} (h : p) : Hid p := h

/-! ### Frames: old blocks outside S are as they were -/
structure Frm (S : Nat → Prop) (w w' : World) : Prop where
  os : w'.os = w.os
  tape : w'.tape = w.tape
  output : w'.output = w.output
  size : w.heap.size ≤ w'.heap.size
  block : ∀ k, k < w.heap.size → ¬ S k → w'.heap[k]? = w.heap[k]?

/-- No old block has turned. -/
def None : Nat → Prop := fun _ => False

section
variable {S S' : Nat → Prop} {a b c w w' : World}
theorem Frm.refl (S : Nat → Prop) (w : World) : Frm S w w := ⟨rfl, rfl, rfl, Nat.le_refl _, fun _ _ _ => rfl⟩
theorem Frm.trans (h : Frm S a b) (k : Frm S' b c) (hs : ∀ j, S' j → S j ∨ a.heap.size ≤ j) : Frm S a c :=
  ⟨k.os.trans h.os, k.tape.trans h.tape, k.output.trans h.output, Nat.le_trans h.size k.size, fun i hi hn =>
    (k.block i (Nat.lt_of_lt_of_le hi h.size) (fun e => (hs i e).elim hn (fun e2 => by omega))).trans (h.block i hi hn)⟩
theorem Frm.mono (h : Frm S a b) (hs : ∀ j, S j → S' j ∨ a.heap.size ≤ j) : Frm S' a b :=
  ⟨h.os, h.tape, h.output, h.size, fun i hi hn => h.block i hi (fun e => (hs i e).elim hn (fun e2 => by omega))⟩
theorem Frm.drew (h : Frm S a w) : Frm S a w.drew := ⟨h.os, h.tape, h.output, h.size, h.block⟩
theorem Frm.drewN (h : Frm S a w) (n : Nat) : Frm S a (w.drewN n) := ⟨h.os, h.tape, h.output, h.size, h.block⟩
theorem Frm.alloc (h : Frm S a w) (o : Obj) : Frm S a (w.alloc o) :=
  ⟨h.os, h.tape, h.output, Nat.le_trans h.size (by simp), fun i hi hn => (Below.heap_alloc w o i (Nat.lt_of_lt_of_le hi h.size)).trans (h.block i hi hn)⟩
theorem Frm.setCell (h : Frm S a w) {p : Addr} (hp : S p.block ∨ a.heap.size ≤ p.block) (u : Value) : Frm S a (w.setCell p u) :=
  ⟨h.os, h.tape, h.output, by simpa [World.setCell] using h.size, fun i hi hn => (Below.heap_setCell w p u i (by
    rintro rfl
    rcases hp with hp | hp
    · exact hn hp
    · omega)).trans (h.block i hi hn)⟩
theorem Frm.setBlock_map {es : Array MapEntry} {clock r : Nat} (h : Frm S a w) (hb : w.heap[r]? = some (.map es clock)) (hr : S r ∨ a.heap.size ≤ r) (o : Obj) : Frm S a (setBlock w r o) :=
  ⟨h.os, h.tape, h.output, by simpa [setBlock] using h.size, fun i hi hn => (heap_setBlock_other hb o (by
    rintro rfl
    rcases hr with hp | hp
    · exact hn hp
    · omega)).trans (h.block i hi hn)⟩
theorem Frm.grown {row : Option Nat} (h : Frm S a w) (hg : w.grownBy w' row) (hr : ∀ k, row = some k → S k ∨ a.heap.size ≤ k) : Frm S a w' :=
  ⟨hg.os.trans h.os, hg.tape.trans h.tape, hg.output.trans h.output, Nat.le_trans h.size hg.size, fun i hi hn =>
    (hg.block i (Nat.lt_of_lt_of_le hi h.size) (fun e => (hr i e.symm).elim hn (fun e2 => by omega))).trans (h.block i hi hn)⟩
theorem Frm.below {B : Nat} (h : Frm S a b) (hB : B ≤ a.heap.size) (hs : ∀ j, S j → B ≤ j) : Below B a b :=
  ⟨h.os, h.tape, h.output, h.size, fun i hi => h.block i (by omega) (fun e => by have := hs i e; omega)⟩
theorem Frm.of_below (h : Below a.heap.size a b) : Frm S a b := ⟨h.os, h.tape, h.output, h.size, fun i hi _ => h.block i hi⟩
theorem Frm.of_belowB {B : Nat} (h : Below B a b) : Frm (fun k => B ≤ k) a b := ⟨h.os, h.tape, h.output, h.size, fun i _ hn => h.block i (by omega)⟩
theorem Frm.cell (h : Frm S a b) {p : Addr} (hp : p.block < a.heap.size) (hn : ¬ S p.block) : b.cell? p = a.cell? p := World.cell?_of_block (h.block p.block hp hn)
theorem Frm.frozen (h : Frm S a b) {p : Addr} (hp : p.block < a.heap.size) (hn : ¬ S p.block) : b.frozen? p = a.frozen? p := World.frozen?_of_block (h.block p.block hp hn)
end

/-! ### Old blocks, for the walk -/
/-- What block b holds. -/
def objAt (w : World) (b : Nat) : Option Obj := w.heap[b]?
theorem objAt_eq (w : World) (b : Nat) : objAt w b = w.heap[b]? := rfl
theorem objAt_alloc (w : World) (o : Obj) (k : Nat) (h : k < w.heap.size) : objAt (w.alloc o) k = objAt w k := Below.heap_alloc w o k h
theorem objAt_alloc_new (w : World) (o : Obj) : objAt (w.alloc o) w.heap.size = some o := heap_alloc_new w o
theorem objAt_alloc_at (w : World) (o : Obj) (n : Nat) (hn : n = w.heap.size) : objAt (w.alloc o) n = some o := by subst hn; exact heap_alloc_new w o
theorem objAt_drew (w : World) (k : Nat) : objAt w.drew k = objAt w k := rfl
theorem objAt_drewN (w : World) (n k : Nat) : objAt (w.drewN n) k = objAt w k := rfl
theorem objAt_setCell (w : World) (a : Addr) (u : Value) (k : Nat) (h : k ≠ a.block) : objAt (w.setCell a u) k = objAt w k := Below.heap_setCell w a u k h

/-! ### Association lists -/
section
variable {κ ν : Type}
def look [DecidableEq κ] : List (κ × ν) → κ → Option ν
  | [], _ => none
  | p :: r, k => if p.1 = k then some p.2 else look r k
def put [DecidableEq κ] : List (κ × ν) → κ → ν → List (κ × ν)
  | [], k, v => [(k, v)]
  | p :: r, k, v => if p.1 = k then (k, v) :: r else p :: put r k v
def del [DecidableEq κ] (l : List (κ × ν)) (k : κ) : List (κ × ν) := l.filter fun p => !decide (p.1 = k)
/-- No key twice. -/
def Apart (l : List (κ × ν)) : Prop := (l.map (·.1)).Nodup

theorem look_some [DecidableEq κ] {l : List (κ × ν)} {k : κ} {v : ν} (h : look l k = some v) : (k, v) ∈ l := by
  induction l with
  | nil => cases h
  | cons p r ih =>
    unfold look at h
    split at h
    · rename_i e
      cases h; subst e
      exact List.mem_cons_self
    · exact List.mem_cons_of_mem _ (ih h)
theorem look_none [DecidableEq κ] {l : List (κ × ν)} {k : κ} : look l k = none ↔ ∀ p ∈ l, p.1 ≠ k := by
  induction l with
  | nil => simp [look]
  | cons p r ih =>
    unfold look
    by_cases e : p.1 = k
    · simp [e]
    · simp [e, ih]
theorem look_of_mem [DecidableEq κ] {l : List (κ × ν)} (h : Apart l) {k : κ} {v : ν} (hm : (k, v) ∈ l) : look l k = some v := by
  induction l with
  | nil => simp at hm
  | cons p r ih =>
    obtain ⟨h1, h2⟩ := List.nodup_cons.1 h
    unfold look
    rcases List.mem_cons.1 hm with e | hm'
    · subst e; simp
    · rw [if_neg, ih h2 hm']
      intro e
      exact h1 (List.mem_map.2 ⟨(k, v), hm', e.symm⟩)
theorem look_iff [DecidableEq κ] {l : List (κ × ν)} (h : Apart l) {k : κ} {v : ν} : look l k = some v ↔ (k, v) ∈ l := ⟨look_some, look_of_mem h⟩
theorem look_put [DecidableEq κ] (l : List (κ × ν)) (k k' : κ) (v : ν) : look (put l k v) k' = if k = k' then some v else look l k' := by
  induction l with
  | nil => simp [put, look]
  | cons p r ih =>
    unfold put
    by_cases e : p.1 = k
    · rw [if_pos e]
      by_cases e2 : k = k'
      · simp [look, e2]
      · simp [look, e2, e]
    · rw [if_neg e]
      by_cases e2 : p.1 = k'
      · have : ¬ k = k' := fun e3 => e (e2.trans e3.symm)
        simp [look, e2, this]
      · simp [look, e2, ih]
theorem look_del [DecidableEq κ] (l : List (κ × ν)) (k k' : κ) : look (del l k) k' = if k = k' then none else look l k' := by
  induction l with
  | nil => simp [del, look]
  | cons p r ih =>
    unfold del at ih ⊢
    by_cases e : p.1 = k
    · rw [List.filter_cons_of_neg (by simp [e]), ih]
      by_cases e2 : k = k'
      · simp [e2]
      · have e3 : ¬ p.1 = k' := fun e3 => e2 (e.symm.trans e3)
        simp [e2, look, e3]
    · rw [List.filter_cons_of_pos (by simp [e])]
      by_cases e2 : p.1 = k'
      · have : ¬ k = k' := fun e3 => e (e2.trans e3.symm)
        simp [look, e2, this]
      · simp [look, e2, ih]
theorem put_keys [DecidableEq κ] (l : List (κ × ν)) (k : κ) (v : ν) : (put l k v).map (·.1) = if k ∈ l.map (·.1) then l.map (·.1) else l.map (·.1) ++ [k] := by
  induction l with
  | nil => simp [put]
  | cons p r ih =>
    unfold put
    by_cases e : p.1 = k
    · rw [if_pos e]; simp [e]
    · rw [if_neg e]
      have e' : ¬ k = p.1 := fun h => e h.symm
      simp only [List.map_cons, ih, List.mem_cons, e', false_or]
      by_cases hm : k ∈ r.map (·.1)
      · rw [if_pos hm, if_pos hm]
      · rw [if_neg hm, if_neg hm]; rfl
theorem put_apart [DecidableEq κ] {l : List (κ × ν)} (h : Apart l) (k : κ) (v : ν) : Apart (put l k v) := by
  unfold Apart
  rw [put_keys]
  split
  · exact h
  · rename_i hn
    exact List.nodup_append.2 ⟨h, by simp, fun x hx y hy => by simp at hy; subst hy; exact fun e => hn (e ▸ hx)⟩
theorem del_apart [DecidableEq κ] {l : List (κ × ν)} (h : Apart l) (k : κ) : Apart (del l k) := by
  unfold Apart del
  exact List.Nodup.sublist (List.Sublist.map _ List.filter_sublist) h
theorem put_length [DecidableEq κ] (l : List (κ × ν)) (k : κ) (v : ν) : (put l k v).length ≤ l.length + 1 := by
  have := congrArg List.length (put_keys l k v)
  simp only [List.length_map] at this
  rw [this]
  split <;> simp
theorem del_length [DecidableEq κ] (l : List (κ × ν)) (k : κ) : (del l k).length ≤ l.length := List.length_filter_le _ _
theorem apart_nil : Apart ([] : List (κ × ν)) := List.nodup_nil
end

/-! ### Keys of a map, typed -/
/-- What a map's operations need of a key's type: κ's values, laid by ek. -/
structure KeyT {κ : Type} (P : Program) (kt : TypeId) (ek : κ → Value) : Prop where
  inj : ∀ {x y : κ}, ek x = ek y → x = y
  check : ∀ (w : World) (em : Bool) (x : κ), (Instr.checkKey em 10000 kt (ek x)).run P w = .ok () w
  find : ∀ (w : World) (x : κ) (es : List MapEntry), (∀ e ∈ es, ∃ y, e.key = ek y) →
    ((Instr.findKey kt (ek x) es).run P w = .ok none w ∧ ∀ e ∈ es, e.key ≠ ek x) ∨ ∃ j e, (Instr.findKey kt (ek x) es).run P w = .ok (some (j, e.val)) w ∧ es[j]? = some e ∧ e.key = ek x ∧ ∀ i e', i < j → es[i]? = some e' → e'.key ≠ ek x
  stays : ∀ (w : World) (x : κ), (Instr.keyThatStays (ek x) (ek x)).run P w = .ok (ek x) w

section
variable {κ : Type} {P : Program} {kt : TypeId} {ek : κ → Value}

theorem findAsking_run [DecidableEq κ] (heq : ∀ (x y : κ) (w : World), (Op.equal kt (ek x) (ek y)).run P w = .ok (decide (x = y)) w) (hinj : ∀ {x y : κ}, ek x = ek y → x = y) (w : World) (x : κ) :
    ∀ (es : List MapEntry) (i : Nat), (∀ e ∈ es, ∃ y, e.key = ek y) →
    ((Instr.findAsking kt (ek x) es i).run P w = .ok none w ∧ ∀ e ∈ es, e.key ≠ ek x) ∨ ∃ j e, (Instr.findAsking kt (ek x) es i).run P w = .ok (some (i + j, e.val)) w ∧ es[j]? = some e ∧ e.key = ek x ∧ ∀ q e', q < j → es[q]? = some e' → e'.key ≠ ek x
  | [], i, _ => .inl ⟨by simp [Instr.findAsking], by simp⟩
  | e :: es, i, h => by
    obtain ⟨y, hy⟩ := h e List.mem_cons_self
    by_cases hxy : x = y
    · subst hxy
      refine .inr ⟨0, e, ?_, rfl, hy, fun q _ hq => absurd hq (by omega)⟩
      simp [Instr.findAsking, hy, heq, Result.andThen]
    · have hne : e.key ≠ ek x := fun h2 => hxy (hinj (hy.symm.trans h2)).symm
      rcases findAsking_run heq hinj w x es (i + 1) (fun e' he' => h e' (List.mem_cons_of_mem _ he')) with ⟨h1, h2⟩ | ⟨j, e', h1, h2, h3, h4⟩
      · refine .inl ⟨?_, fun e' he' => ?_⟩
        · simp [Instr.findAsking, hy, heq, hxy, Result.andThen, h1]
        · rcases List.mem_cons.1 he' with rfl | he'
          · exact hne
          · exact h2 e' he'
      · refine .inr ⟨j + 1, e', ?_, by simpa using h2, h3, fun q e'' hq hq' => ?_⟩
        · have e1 : i + (j + 1) = i + 1 + j := by omega
          simp [Instr.findAsking, hy, heq, hxy, Result.andThen, h1, e1]
        · cases q with
          | zero => simp at hq'; subst hq'; exact hne
          | succ q => exact h4 q e'' (by omega) (by simpa using hq')

theorem findNow_none {d : TypeDesc} (hs : ∀ x y : κ, Instr.sameNow d (ek x) (ek y) = none) (x : κ) : ∀ (es : List MapEntry) (i : Nat), (∀ e ∈ es, ∃ y, e.key = ek y) → Instr.findNow d (ek x) es i = if es = [] then some none else none
  | [], _, _ => rfl
  | e :: es, i, h => by
    obtain ⟨y, hy⟩ := h e List.mem_cons_self
    simp [Instr.findNow, hy, hs]

/-- A key type that is told apart by '==' alone (a struct). -/
theorem KeyT.of_equal [DecidableEq κ] {d : TypeDesc} (hd : P.underlying kt = some d) (hs : ∀ x y : κ, Instr.sameNow d (ek x) (ek y) = none)
    (heq : ∀ (x y : κ) (w : World), (Op.equal kt (ek x) (ek y)).run P w = .ok (decide (x = y)) w) (hinj : ∀ {x y : κ}, ek x = ek y → x = y)
    (hcheck : ∀ (w : World) (em : Bool) (x : κ), (Instr.checkKey em 10000 kt (ek x)).run P w = .ok () w)
    (hst : ∀ x : κ, Instr.sameBits 10000 (ek x) (ek x) = true) : KeyT P kt ek where
  inj := hinj
  check := hcheck
  stays w x := by simp [Instr.keyThatStays, hst]
  find w x es h := by
    have e1 : (Instr.findKey kt (ek x) es).run P w = (Instr.findAsking kt (ek x) es 0).run P w := by
      by_cases h0 : es = []
      · subst h0
        simp [Instr.findKey, run_underlying hd, Instr.findNow, Instr.findAsking, Result.andThen]
      · have := findNow_none hs x es 0 h
        rw [if_neg h0] at this
        simp [Instr.findKey, run_underlying hd, this, Result.andThen]
    rw [e1]
    simpa using findAsking_run heq hinj w x es 0 h

theorem findNow_dec [DecidableEq κ] {d : TypeDesc} (hs : ∀ x y : κ, Instr.sameNow d (ek x) (ek y) = some (decide (x = y))) (hinj : ∀ {x y : κ}, ek x = ek y → x = y) (x : κ) : ∀ (es : List MapEntry) (i : Nat), (∀ e ∈ es, ∃ y, e.key = ek y) →
    (Instr.findNow d (ek x) es i = some none ∧ ∀ e ∈ es, e.key ≠ ek x) ∨ ∃ j e, Instr.findNow d (ek x) es i = some (some (i + j, e.val)) ∧ es[j]? = some e ∧ e.key = ek x ∧ ∀ q e', q < j → es[q]? = some e' → e'.key ≠ ek x
  | [], _, _ => .inl ⟨rfl, by simp⟩
  | e :: es, i, h => by
    obtain ⟨y, hy⟩ := h e List.mem_cons_self
    by_cases hxy : x = y
    · subst hxy
      refine .inr ⟨0, e, ?_, rfl, hy, fun q _ hq => absurd hq (by omega)⟩
      simp [Instr.findNow, hy, hs]
    · have hne : e.key ≠ ek x := fun h2 => hxy (hinj (hy.symm.trans h2)).symm
      rcases findNow_dec hs hinj x es (i + 1) (fun e' he' => h e' (List.mem_cons_of_mem _ he')) with ⟨h1, h2⟩ | ⟨j, e', h1, h2, h3, h4⟩
      · refine .inl ⟨by simp [Instr.findNow, hy, hs, hxy, h1], fun e' he' => ?_⟩
        rcases List.mem_cons.1 he' with rfl | he'
        · exact hne
        · exact h2 e' he'
      · have e1 : i + (j + 1) = i + 1 + j := by omega
        refine .inr ⟨j + 1, e', by simp [Instr.findNow, hy, hs, hxy, h1, e1], by simpa using h2, h3, fun q e'' hq hq' => ?_⟩
        cases q with
        | zero => simp at hq'; subst hq'; exact hne
        | succ q => exact h4 q e'' (by omega) (by simpa using hq')

/-- A key type that is told apart at once (an int, a string). -/
theorem KeyT.of_now [DecidableEq κ] {d : TypeDesc} (hd : P.underlying kt = some d) (hs : ∀ x y : κ, Instr.sameNow d (ek x) (ek y) = some (decide (x = y))) (hinj : ∀ {x y : κ}, ek x = ek y → x = y)
    (hcheck : ∀ (w : World) (em : Bool) (x : κ), (Instr.checkKey em 10000 kt (ek x)).run P w = .ok () w)
    (hst : ∀ x : κ, Instr.sameBits 10000 (ek x) (ek x) = true) : KeyT P kt ek where
  inj := hinj
  check := hcheck
  stays w x := by simp [Instr.keyThatStays, hst]
  find w x es h := by
    rcases findNow_dec hs hinj x es 0 h with ⟨h1, h2⟩ | ⟨j, e, h1, h2, h3, h4⟩
    · exact .inl ⟨by simp [Instr.findKey, run_underlying hd, h1, Result.andThen], h2⟩
    · exact .inr ⟨j, e, by simp [Instr.findKey, run_underlying hd, h1, Result.andThen], h2, h3, h4⟩
end

theorem bytes_beq_decide (a b : ByteArray) : (a.toList == b.toList) = decide (a = b) := by
  by_cases h : a = b
  · subst h; simp
  · have : a.toList ≠ b.toList := fun e => h (by
      rw [ByteArray.toList_eq, ByteArray.toList_eq] at e
      obtain ⟨⟨x⟩⟩ := a
      obtain ⟨⟨y⟩⟩ := b
      simp only at e
      rw [e])
    simp [h, this]

/-! ### A map's block, its entries typed -/
section
variable {κ ν : Type} (ek : κ → Value) (ev : ν → Value)

/-- Block b of w is a map that has the entries l, in this order. -/
def MapB (w : World) (b : Nat) (l : List (κ × ν)) : Prop :=
  ∃ es clock, w.heap[b]? = some (.map es clock) ∧ es.toList.map (fun e => (e.key, e.val)) = l.map (fun p => (ek p.1, ev p.2)) ∧
    (∀ e ∈ es.toList, e.born < clock) ∧ (es.toList.map (·.born)).Nodup ∧ Apart l

variable {ek ev} {P : Program} {kt et t : TypeId} {w w' : World} {b : Nat} {l : List (κ × ν)}

theorem MapB.apart (h : MapB ek ev w b l) : Apart l := by obtain ⟨_, _, _, _, _, _, h⟩ := h; exact h
theorem MapB.lt (h : MapB ek ev w b l) : b < w.heap.size := by
  obtain ⟨es, clock, hb, _⟩ := h
  exact (Array.getElem?_eq_some_iff.1 hb).1
theorem MapB.keep (h : MapB ek ev w b l) (hb : w'.heap[b]? = w.heap[b]?) : MapB ek ev w' b l := by
  obtain ⟨es, clock, h1, r⟩ := h
  exact ⟨es, clock, hb.trans h1, r⟩
theorem MapB.frm {S : Nat → Prop} (h : MapB ek ev w b l) (hf : Frm S w w') (hn : ¬ S b) : MapB ek ev w' b l := h.keep (hf.block b h.lt hn)
theorem MapB.alloc (h : MapB ek ev w b l) (o : Obj) : MapB ek ev (w.alloc o) b l := h.keep (Below.heap_alloc w o b h.lt)
theorem MapB.drew (h : MapB ek ev w b l) : MapB ek ev w.drew b l := h
theorem MapB.drewN (h : MapB ek ev w b l) (n : Nat) : MapB ek ev (w.drewN n) b l := h
theorem MapB.setCell (h : MapB ek ev w b l) {p : Addr} (hp : b ≠ p.block) (u : Value) : MapB ek ev (w.setCell p u) b l := h.keep (Below.heap_setCell w p u b hp)
theorem MapB.made (w : World) : MapB ek ev (w.alloc (.map #[] 0)) w.heap.size ([] : List (κ × ν)) :=
  ⟨#[], 0, heap_alloc_new w _, by simp, by simp, by simp, apart_nil⟩

theorem map_get {es : List MapEntry} (h : es.map (fun e => (e.key, e.val)) = l.map (fun p => (ek p.1, ev p.2))) (i : Nat) (e : MapEntry) (hi : es[i]? = some e) : ∃ p, l[i]? = some p ∧ e.key = ek p.1 ∧ e.val = ev p.2 := by
  have := congrArg (·[i]?) h
  simp only [List.getElem?_map, hi, Option.map_some] at this
  cases hl : l[i]? with
  | none => rw [hl] at this; cases this
  | some p =>
    rw [hl] at this
    simp only [Option.map_some, Option.some.injEq, Prod.mk.injEq] at this
    exact ⟨p, rfl, this.1, this.2⟩
theorem map_get' {es : List MapEntry} (h : es.map (fun e => (e.key, e.val)) = l.map (fun p => (ek p.1, ev p.2))) (i : Nat) (p : κ × ν) (hi : l[i]? = some p) : ∃ e, es[i]? = some e ∧ e.key = ek p.1 ∧ e.val = ev p.2 := by
  have := congrArg (·[i]?) h
  simp only [List.getElem?_map, hi, Option.map_some] at this
  cases hl : es[i]? with
  | none => rw [hl] at this; cases this
  | some e =>
    rw [hl] at this
    simp only [Option.map_some, Option.some.injEq, Prod.mk.injEq] at this
    exact ⟨e, rfl, this.1, this.2⟩
theorem map_keys {es : List MapEntry} (h : es.map (fun e => (e.key, e.val)) = l.map (fun p => (ek p.1, ev p.2))) : ∀ e ∈ es, ∃ y, e.key = ek y := fun e he => by
  obtain ⟨i, hi⟩ := List.getElem?_of_mem he
  obtain ⟨p, _, hp, _⟩ := map_get h i e hi
  exact ⟨_, hp⟩

theorem look_at [DecidableEq κ] {l : List (κ × ν)} (h : Apart l) {j : Nat} {p : κ × ν} (hj : l[j]? = some p) : look l p.1 = some p.2 := look_of_mem h (List.mem_of_getElem? hj)

/-- 'm[k]' (c = false), 'v, ok := m[k]' (c = true). -/
theorem MapB.lookup [DecidableEq κ] (h : MapB ek ev w b l) (K : KeyT P kt ek) (ht : P.underlying t = some (.map kt et)) {z : Value} (hz : (zeroValue et).run P w = .ok z w) (c : Bool) (k : κ) :
    (Instr.lookup t (.map (some b)) (ek k) c).run P w = .ok (match look l k with
      | some v => if c then .tuple #[ev v, .bool true] else ev v
      | none => if c then .tuple #[z, .bool false] else z) w := by
  obtain ⟨es, clock, hb, hm, _, _, ha⟩ := h
  rcases K.find w k es.toList (map_keys hm) with ⟨h1, h2⟩ | ⟨j, e, h1, h2, h3, _⟩
  · have hn : look l k = none := look_none.2 (fun p hp e => by
      obtain ⟨i, hi⟩ := List.getElem?_of_mem hp
      obtain ⟨e', he', hk, _⟩ := map_get' hm i p hi
      exact h2 e' (List.mem_of_getElem? he') (by rw [hk, e]))
    rw [hn]
    simp [Instr.lookup, run_underlying ht, MapKept.run_getObj_map hb, K.check w _ k, h1, hz, Result.andThen]
  · obtain ⟨p, hp, hk, hv⟩ := map_get hm j e h2
    have hpk : p.1 = k := K.inj (hk.symm.trans h3)
    have hl : look l k = some p.2 := hpk ▸ look_at ha hp
    rw [hl]
    simp [Instr.lookup, run_underlying ht, MapKept.run_getObj_map hb, K.check w _ k, h1, hv, Result.andThen]

/-- of a nil map. -/
theorem nil_lookup (K : KeyT P kt ek) (ht : P.underlying t = some (.map kt et)) {z : Value} (hz : (zeroValue et).run P w = .ok z w) (c : Bool) (k : κ) :
    (Instr.lookup t (.map none) (ek k) c).run P w = .ok (if c then .tuple #[z, .bool false] else z) w := by
  rcases K.find w k [] (by simp) with ⟨h1, _⟩ | ⟨j, e, _, h2, _⟩
  · simp [Instr.lookup, run_underlying ht, K.check w _ k, h1, hz, Result.andThen]
  · simp at h2

theorem put_absent [DecidableEq κ] {l : List (κ × ν)} {k : κ} {v : ν} (h : ∀ p ∈ l, p.1 ≠ k) : put l k v = l ++ [(k, v)] := by
  induction l with
  | nil => rfl
  | cons p r ih =>
    unfold put
    rw [if_neg (h p List.mem_cons_self), ih (fun q hq => h q (List.mem_cons_of_mem _ hq))]
    rfl
theorem put_present [DecidableEq κ] {l : List (κ × ν)} (ha : Apart l) {j : Nat} {p : κ × ν} (hj : l[j]? = some p) (v : ν) : put l p.1 v = l.set j (p.1, v) := by
  induction l generalizing j with
  | nil => simp at hj
  | cons q r ih =>
    cases j with
    | zero =>
      simp at hj
      subst hj
      simp [put]
    | succ j =>
      simp at hj
      obtain ⟨h1, h2⟩ := List.nodup_cons.1 ha
      have hne : ¬ q.1 = p.1 := fun e => h1 (List.mem_map.2 ⟨p, List.mem_of_getElem? hj, e.symm⟩)
      unfold put
      rw [if_neg hne, ih h2 hj]
      rfl
theorem del_absent [DecidableEq κ] {l : List (κ × ν)} {k : κ} (h : ∀ p ∈ l, p.1 ≠ k) : del l k = l := List.filter_eq_self.2 (fun p hp => by simpa using h p hp)
theorem del_present [DecidableEq κ] {l : List (κ × ν)} (ha : Apart l) {j : Nat} {p : κ × ν} (hj : l[j]? = some p) : del l p.1 = l.eraseIdx j := by
  induction l generalizing j with
  | nil => simp at hj
  | cons q r ih =>
    obtain ⟨h1, h2⟩ := List.nodup_cons.1 ha
    cases j with
    | zero =>
      simp at hj
      subst hj
      rw [List.eraseIdx_cons_zero]
      unfold del
      rw [List.filter_cons_of_neg (by simp)]
      exact del_absent (fun p hp e => h1 (List.mem_map.2 ⟨p, hp, e⟩))
    | succ j =>
      simp at hj
      have hne : ¬ q.1 = p.1 := fun e => h1 (List.mem_map.2 ⟨p, List.mem_of_getElem? hj, e.symm⟩)
      have := ih h2 hj
      unfold del at this ⊢
      rw [List.filter_cons_of_pos (by simp [hne]), this, List.eraseIdx_cons_succ]

/-- 'm[k] = v'. -/
theorem MapB.update [DecidableEq κ] (h : MapB ek ev w b l) (K : KeyT P kt ek) (ht : P.underlying t = some (.map kt et)) (k : κ) (v : ν) :
    ∃ w', (Instr.mapUpdate t (.map (some b)) (ek k) (ev v)).run P w = .ok () w' ∧ MapB ek ev w' b (put l k v) ∧ Frm (· = b) w w' ∧ w'.heap.size = w.heap.size ∧ w'.drawn = w.drawn := by
  obtain ⟨es, clock, hb, hm, hc, hn, ha⟩ := h
  rcases K.find w k es.toList (map_keys hm) with ⟨h1, h2⟩ | ⟨j, e, h1, h2, h3, _⟩
  · have hab : ∀ p ∈ l, p.1 ≠ k := fun p hp e => by
      obtain ⟨i, hi⟩ := List.getElem?_of_mem hp
      obtain ⟨e', he', hk, _⟩ := map_get' hm i p hi
      exact h2 e' (List.mem_of_getElem? he') (by rw [hk, e])
    refine ⟨setBlock w b (.map (es.push ⟨ek k, ev v, clock⟩) (clock + 1)), ?_, ⟨_, _, heap_setBlock_same hb _, ?_, ?_, ?_, put_apart ha k v⟩, (Frm.refl (fun x => x = b) w).setBlock_map hb (.inl rfl) _, by simp [setBlock], rfl⟩
    · simp [Instr.mapUpdate, run_underlying ht, MapKept.run_getObj_map hb, K.check w false k, h1, MapKept.run_setObj_map _ hb, Result.andThen, setBlock]
    · rw [put_absent hab]
      simp [hm]
    · intro x hx
      simp only [Array.toList_push, List.mem_append, List.mem_singleton] at hx
      rcases hx with hx | rfl
      · have := hc x hx; omega
      · exact Nat.lt_succ_self _
    · simp only [Array.toList_push, List.map_append, List.map_cons, List.map_nil]
      refine List.nodup_append.2 ⟨hn, by simp, fun x hx y hy => ?_⟩
      simp at hy
      subst hy
      obtain ⟨e', he', rfl⟩ := List.mem_map.1 hx
      have := hc e' he'
      omega
  · obtain ⟨p, hp, hk, hv⟩ := map_get hm j e h2
    have hpk : p.1 = k := K.inj (hk.symm.trans h3)
    subst hpk
    have hj : es[j]? = some e := by simpa using h2
    have hlist : (es.modify j (fun e' => { e' with key := ek p.1, val := ev v })).toList = es.toList.set j { e with key := ek p.1, val := ev v } := by
      rw [Array.toList_modify, ChangeMaps.modify_eq_set _ _ _ _ h2]
    refine ⟨setBlock w b (.map (es.modify j fun e' => { e' with key := ek p.1, val := ev v }) clock), ?_, ⟨_, _, heap_setBlock_same hb _, ?_, ?_, ?_, put_apart ha _ v⟩, (Frm.refl (fun x => x = b) w).setBlock_map hb (.inl rfl) _, by simp [setBlock], rfl⟩
    · simp [Instr.mapUpdate, run_underlying ht, MapKept.run_getObj_map hb, K.check w false p.1, h1, hj, h3, K.stays w, MapKept.run_setObj_map _ hb, Result.andThen, setBlock]
    · rw [hlist, List.map_set, hm, put_present ha hp, List.map_set]
    · rw [hlist]
      intro x hx
      rcases List.mem_or_eq_of_mem_set hx with hx | rfl
      · exact hc x hx
      · exact hc e (List.mem_of_getElem? h2)
    · rw [hlist, List.map_set]
      have : (es.toList.map (·.born)).set j e.born = es.toList.map (·.born) := by
        apply List.ext_getElem?
        intro i
        rw [List.getElem?_set]
        split
        · rename_i hij
          subst hij
          simp [h2, hj]
          exact (Array.getElem?_eq_some_iff.1 hj).1
        · rfl
      show ((es.toList.map (·.born)).set j e.born).Nodup
      rw [this]
      exact hn

/-- 'delete(m, k)'. -/
theorem MapB.delete [DecidableEq κ] (h : MapB ek ev w b l) (K : KeyT P kt ek) (ht : P.underlying t = some (.map kt et)) (k : κ) (ty : TypeId) (kt' : TypeId) :
    ∃ w', (Builtin.delete_ #[t, kt'] ty #[.map (some b), ek k]).run P w = .ok (.tuple #[]) w' ∧ MapB ek ev w' b (del l k) ∧ Frm (· = b) w w' ∧ w'.heap.size = w.heap.size ∧ w'.drawn = w.drawn := by
  obtain ⟨es, clock, hb, hm, hc, hn, ha⟩ := h
  rcases K.find w k es.toList (map_keys hm) with ⟨h1, h2⟩ | ⟨j, e, h1, h2, h3, _⟩
  · have hab : ∀ p ∈ l, p.1 ≠ k := fun p hp e => by
      obtain ⟨i, hi⟩ := List.getElem?_of_mem hp
      obtain ⟨e', he', hk, _⟩ := map_get' hm i p hi
      exact h2 e' (List.mem_of_getElem? he') (by rw [hk, e])
    refine ⟨setBlock w b (.map es clock), ?_, ⟨_, _, heap_setBlock_same hb _, by rw [del_absent hab]; exact hm, hc, hn, del_apart ha k⟩, (Frm.refl (fun x => x = b) w).setBlock_map hb (.inl rfl) _, by simp [setBlock], rfl⟩
    simp [Builtin.delete_, run_underlying ht, MapKept.run_getObj_map hb, K.check w _ k, h1, MapKept.run_setObj_map _ hb, Result.andThen, setBlock]
  · obtain ⟨p, hp, hk, hv⟩ := map_get hm j e h2
    have hpk : p.1 = k := K.inj (hk.symm.trans h3)
    subst hpk
    have hj : j < es.size := by simpa using (List.getElem?_eq_some_iff.1 h2).1
    have hsub : (es.eraseIdxIfInBounds j).toList = es.toList.eraseIdx j := by
      unfold Array.eraseIdxIfInBounds
      rw [dif_pos hj]
      simp
    refine ⟨setBlock w b (.map (es.eraseIdxIfInBounds j) clock), ?_, ⟨_, _, heap_setBlock_same hb _, ?_, ?_, ?_, del_apart ha _⟩, (Frm.refl (fun x => x = b) w).setBlock_map hb (.inl rfl) _, by simp [setBlock], rfl⟩
    · simp [Builtin.delete_, run_underlying ht, MapKept.run_getObj_map hb, K.check w _ p.1, h1, MapKept.run_setObj_map _ hb, Result.andThen, setBlock]
    · rw [hsub, ChangeMaps.map_eraseIdx, hm, del_present ha hp, ChangeMaps.map_eraseIdx]
    · rw [hsub]
      exact fun x hx => hc x ((List.eraseIdx_sublist _ _).subset hx)
    · rw [hsub, ChangeMaps.map_eraseIdx]
      exact List.Nodup.sublist (List.eraseIdx_sublist _ _) hn

/-- The world that a run ends in. -/
def ranTo {α : Type} : Result α → World
  | .ok _ w => w
  | .halt _ w => w

/-- 'm[k] = v', for the walk: an equation on the run in every world in which the block is as it is. -/
theorem MapB.update_fn [DecidableEq κ] (h : MapB ek ev w b l) (K : KeyT P kt ek) (ht : P.underlying t = some (.map kt et)) (k : κ) (v : ν) :
    ∃ upd : World → World, ∀ W, objAt W b = objAt w b → (Instr.mapUpdate t (.map (some b)) (ek k) (ev v)).run P W = .ok () (upd W) ∧ MapB ek ev (upd W) b (put l k v) ∧ Frm (fun x => x = b) W (upd W) ∧ (upd W).heap.size = W.heap.size := by
  refine ⟨fun W => ranTo ((Instr.mapUpdate t (.map (some b)) (ek k) (ev v)).run P W), fun W hW => ?_⟩
  obtain ⟨w', h1, h2, h3, h4, _⟩ := (h.keep hW).update K ht k v
  dsimp only
  rw [h1]
  exact ⟨rfl, h2, h3, h4⟩
theorem MapB.delete_fn [DecidableEq κ] (h : MapB ek ev w b l) (K : KeyT P kt ek) (ht : P.underlying t = some (.map kt et)) (k : κ) (ty kt' : TypeId) :
    ∃ upd : World → World, ∀ W, objAt W b = objAt w b → (Builtin.delete_ #[t, kt'] ty #[.map (some b), ek k]).run P W = .ok (.tuple #[]) (upd W) ∧ MapB ek ev (upd W) b (del l k) ∧ Frm (fun x => x = b) W (upd W) ∧ (upd W).heap.size = W.heap.size := by
  refine ⟨fun W => ranTo ((Builtin.delete_ #[t, kt'] ty #[.map (some b), ek k]).run P W), fun W hW => ?_⟩
  obtain ⟨w', h1, h2, h3, h4, _⟩ := (h.keep hW).delete K ht k ty kt'
  dsimp only
  rw [h1]
  exact ⟨rfl, h2, h3, h4⟩

/-- 'len(m)'. -/
theorem MapB.len (h : MapB ek ev w b l) (ht : P.underlying t = some (.map kt et)) (ty : TypeId) : (Builtin.len_ #[t] ty #[.map (some b)]).run P w = .ok (goInt l.length) w := by
  obtain ⟨es, clock, hb, hm, _⟩ := h
  have : es.size = l.length := by have := congrArg List.length hm; simpa using this
  simp [Builtin.len_, run_underlying ht, MapKept.run_getObj_map hb, this, Result.andThen]

/-! ### 'range' over it -/
variable (ek ev) in
/-- Block r is an iterator over the map of block b, which has the entries l; those of left are still to come. -/
def IterB (w : World) (r b : Nat) (l left : List (κ × ν)) : Prop :=
  ∃ es clock since seen c0, w.heap[b]? = some (.map es clock) ∧ es.toList.map (fun e => (e.key, e.val)) = l.map (fun p => (ek p.1, ev p.2)) ∧
    (∀ e ∈ es.toList, e.born < clock) ∧ (es.toList.map (·.born)).Nodup ∧ Apart l ∧
    w.heap[r]? = some (.mapIter (some b) since seen c0) ∧ (∀ e ∈ es.toList, e.born < since) ∧ since ≤ c0 ∧ since ≤ clock ∧
    (leftOf es seen).toList.map (fun e => (e.key, e.val)) = left.map (fun p => (ek p.1, ev p.2)) ∧ left.Sublist l

variable {r : Nat} {left : List (κ × ν)}
theorem IterB.map (h : IterB ek ev w r b l left) : MapB ek ev w b l := by
  obtain ⟨es, clock, _, _, _, h1, h2, h3, h4, h5, _⟩ := h
  exact ⟨es, clock, h1, h2, h3, h4, h5⟩
theorem IterB.lt (h : IterB ek ev w r b l left) : r < w.heap.size := by
  obtain ⟨es, clock, _, _, _, _, _, _, _, _, hr, _⟩ := h
  exact (Array.getElem?_eq_some_iff.1 hr).1
theorem IterB.ne (h : IterB ek ev w r b l left) : r ≠ b := by
  obtain ⟨es, clock, _, _, _, hb, _, _, _, _, hr, _⟩ := h
  rintro rfl
  rw [hb] at hr
  cases hr
theorem IterB.keep (h : IterB ek ev w r b l left) (hb : w'.heap[b]? = w.heap[b]?) (hr : w'.heap[r]? = w.heap[r]?) : IterB ek ev w' r b l left := by
  obtain ⟨es, clock, since, seen, c0, h1, h2, h3, h4, h5, h6, h7⟩ := h
  exact ⟨es, clock, since, seen, c0, hb.trans h1, h2, h3, h4, h5, hr.trans h6, h7⟩
theorem IterB.frm {S : Nat → Prop} (h : IterB ek ev w r b l left) (hf : Frm S w w') (hb : ¬ S b) (hr : ¬ S r) : IterB ek ev w' r b l left := h.keep (hf.block b h.map.lt hb) (hf.block r h.lt hr)

/-- The stamp that a map's next entry will have. -/
def clockOf (w : World) (b : Nat) : Nat := match w.heap[b]? with
  | some (.map _ c) => c
  | _ => 0

theorem MapB.range (h : MapB ek ev w b l) (ht : P.underlying t = some (.map kt et)) :
    (Instr.range t (.map (some b))).run P w = .ok (.pointer (some ⟨w.heap.size, 0, none⟩)) (w.alloc (.mapIter (some b) (clockOf w b) #[] (clockOf w b))) ∧
      IterB ek ev (w.alloc (.mapIter (some b) (clockOf w b) #[] (clockOf w b))) w.heap.size b l l := by
  have hlt := h.lt
  obtain ⟨es, clock, hb, hm, hc, hn, ha⟩ := h
  have hcl : clockOf w b = clock := by simp [clockOf, hb]
  rw [hcl]
  refine ⟨run_range_map w t kt et b es clock ht hb, es, clock, clock, #[], clock, (Below.heap_alloc w _ b hlt).trans hb, hm, hc, hn, ha, heap_alloc_new w _, hc, Nat.le_refl _, Nat.le_refl _, ?_⟩
  have : leftOf es #[] = es := by simp [leftOf]
  rw [this]
  exact ⟨hm, List.Sublist.refl _⟩

theorem Frm.setBlock_iter {S : Nat → Prop} {a w : World} {m : Option Nat} {s : Nat} {seen : Array Nat} {c r : Nat} (h : Frm S a w) (hb : w.heap[r]? = some (.mapIter m s seen c)) (hr : S r ∨ a.heap.size ≤ r) (o : Obj) : Frm S a (setBlock w r o) :=
  ⟨h.os, h.tape, h.output, by simpa [setBlock] using h.size, fun i hi hn => (show (setBlock w r o).heap[i]? = w.heap[i]? by
    simp only [setBlock, Array.getElem?_setIfInBounds]
    rw [if_neg]
    rintro rfl
    rcases hr with hp | hp
    · exact hn hp
    · omega).trans (h.block i hi hn)⟩

theorem perm_eraseIdx {α : Type} : ∀ (l : List α) (i : Nat) (h : i < l.length), l.Perm (l[i] :: l.eraseIdx i)
  | _ :: _, 0, _ => List.Perm.refl _
  | x :: r, i + 1, h => (((perm_eraseIdx r i (by simpa using h)).cons x).trans (List.Perm.swap _ _ _))

/-- The loop's step: nothing is left; or some entry comes out. -/
theorem IterB.next (h : IterB ek ev w r b l left) (ty : TypeId) :
    (left = [] ∧ (Instr.next (.pointer (some ⟨r, 0, none⟩)) false ty).run P w = .ok (.tuple #[.bool false]) w) ∨
    ∃ (p : κ × ν) (left' : List (κ × ν)) (w' : World), left.Perm (p :: left') ∧ p ∈ l ∧ (Instr.next (.pointer (some ⟨r, 0, none⟩)) false ty).run P w = .ok (.tuple #[.bool true, ek p.1, ev p.2]) w' ∧
      IterB ek ev w' r b l left' ∧ Frm (fun x => x = r) w w' ∧ w'.heap.size = w.heap.size ∧ (Instr.entry (.pointer (some ⟨r, 0, none⟩))).run P w' = .ok (.tuple #[ek p.1, ev p.2]) w' := by
  have hne := h.ne
  obtain ⟨es, clock, since, seen, c0, hb, hm, hc, hn, ha, hr, hold, hsc, hsk, hl, hsub⟩ := h
  rcases run_next_at (P := P) w ty r b since c0 seen es clock hr hb hold hsc with ⟨h0, hrun⟩ | ⟨e, he, w1, hal, hrun⟩
  · refine .inl ⟨?_, hrun⟩
    have : leftOf es seen = #[] := Array.eq_empty_of_size_eq_zero h0
    rw [this] at hl
    simpa using hl.symm
  · obtain ⟨hem, hes⟩ := mem_left he
    obtain ⟨i, hi⟩ := List.getElem?_of_mem he
    obtain ⟨p, hp, hk, hv⟩ := map_get hl i e hi
    have hr1 : w1.heap[r]? = some (.mapIter (some b) since seen c0) := by rcases hal with rfl | rfl <;> exact hr
    have hb1 : w1.heap[b]? = some (.map es clock) := by rcases hal with rfl | rfl <;> exact hb
    have hset : (setBlock w1 r (.mapIter (some b) since (seen.push e.born) clock)).heap[r]? = some (.mapIter (some b) since (seen.push e.born) clock) := by
      simp [setBlock, (Array.getElem?_eq_some_iff.1 hr1).1]
    have hb' : (setBlock w1 r (.mapIter (some b) since (seen.push e.born) clock)).heap[b]? = some (.map es clock) := by
      simp only [setBlock, Array.getElem?_setIfInBounds]
      rw [if_neg hne]
      exact hb1
    have hdel : (leftOf es (seen.push e.born)).toList = (leftOf es seen).toList.eraseIdx i := by
      have hnl : ((leftOf es seen).toList.map (·.born)).Nodup := by
        refine List.Nodup.sublist (List.Sublist.map _ ?_) hn
        simp only [leftOf, Array.toList_filter]
        exact List.filter_sublist
      have e1 : (leftOf es (seen.push e.born)).toList = (leftOf es seen).toList.filter (fun x => !(x.born == e.born)) := by
        simp only [leftOf, Array.toList_filter, List.filter_filter]
        refine List.filter_congr (fun x _ => ?_)
        rw [contains_push]
        cases seen.contains x.born <;> cases (x.born == e.born) <;> rfl
      rw [e1]
      clear hp hl
      revert hnl hi
      generalize (leftOf es seen).toList = L
      intro hi hnl
      induction L generalizing i with
      | nil => simp at hi
      | cons q L ih =>
        obtain ⟨n1, n2⟩ := List.nodup_cons.1 hnl
        cases i with
        | zero =>
          simp at hi
          subst hi
          rw [List.filter_cons_of_neg (by simp), List.eraseIdx_cons_zero]
          refine List.filter_eq_self.2 (fun x hx => ?_)
          have : x.born ≠ q.born := fun e2 => n1 (List.mem_map.2 ⟨x, hx, e2⟩)
          simpa using this
        | succ i =>
          simp at hi
          have : q.born ≠ e.born := fun e2 => n1 (List.mem_map.2 ⟨e, List.mem_of_getElem? hi, e2.symm⟩)
          rw [List.filter_cons_of_pos (by simpa using this), List.eraseIdx_cons_succ, ih i hi n2]
    refine .inr ⟨p, left.eraseIdx i, _, ?_, ?_, by rw [← hk, ← hv]; exact hrun, ⟨es, clock, since, seen.push e.born, clock, hb', hm, hc, hn, ha, hset, hold, hsk, hsk, ?_⟩, ?_, ?_, ?_⟩
    · have hlt := (List.getElem?_eq_some_iff.1 hp).1
      have := perm_eraseIdx left i hlt
      rw [(List.getElem?_eq_some_iff.1 hp).2] at this
      exact this
    · exact hsub.subset (List.mem_of_getElem? hp)
    · rw [hdel, ChangeMaps.map_eraseIdx, hl, ChangeMaps.map_eraseIdx]
      exact ⟨rfl, (List.eraseIdx_sublist _ _).trans hsub⟩
    · have h1 : Frm (fun x => x = r) w w1 := by
        rcases hal with rfl | rfl
        · exact Frm.refl _ _
        · exact (Frm.refl _ _).drew
      exact h1.setBlock_iter hr1 (.inl rfl) _
    · rcases hal with rfl | rfl <;> simp [setBlock]
    · rw [← hk, ← hv]
      exact run_entry_at _ r b since seen es clock e hset hb' hem hn
end

end Go.Proofs.Ytpkhmhfgnpnpfaa
