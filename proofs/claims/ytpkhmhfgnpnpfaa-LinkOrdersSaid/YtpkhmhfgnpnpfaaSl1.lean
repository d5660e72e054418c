/- Slices that are read: slices.Index, Contains of numbers; IndexFunc, ContainsFunc of numbers, of links, of rows, whatever the function. -/
import Derived.Test.YtpkhmhfgnpnpfaaUf6
import Derived.Shelf.Abstract
namespace Go.Proofs.Ytpkhmhfgnpnpfaa
set_option linter.unusedSimpArgs false
set_option linter.unusedVariables false
open Go.RowKit
attribute [local go_sem] objAt_alloc objAt_alloc_at objAt_drew objAt_drewN objAt_setCell comesTo_value comesTo_enter

/-- The first place at which p holds, or -1. -/
def FirstAt {α : Type} (l : List α) (p : α → Prop) (r : Int) : Prop := (∃ (k : Nat) (x : α), r = k ∧ l[k]? = some x ∧ p x ∧ ∀ j y, j < k → l[j]? = some y → ¬ p y) ∨ (r = -1 ∧ ∀ x ∈ l, ¬ p x)
theorem firstAt_next {α : Type} {l : List α} {p : α → Prop} {k : Nat} {x : α} (hx : l[k]? = some x) (h : ∀ j y, j < k → l[j]? = some y → ¬ p y) (hp : ¬ p x) : ∀ j y, j < k + 1 → l[j]? = some y → ¬ p y := fun j y hj hy => by
  by_cases e : j = k
  · subst e
    rw [hx] at hy
    cases hy
    exact hp
  · exact h j y (by omega) hy
theorem firstAt_none {α : Type} {l : List α} {p : α → Prop} (h : ∀ j y, j < l.length → l[j]? = some y → ¬ p y) : FirstAt l p (-1) := .inr ⟨rfl, fun x hx => by
  obtain ⟨j, hj⟩ := List.getElem?_of_mem hx
  exact h j x (List.getElem?_eq_some_iff.1 hj).1 hj⟩
theorem firstAt_ex {α : Type} {l : List α} {p : α → Prop} {r : Int} (h : FirstAt l p r) : 0 ≤ r ↔ ∃ x ∈ l, p x := by
  rcases h with ⟨k, x, rfl, h1, h2, _⟩ | ⟨rfl, h1⟩
  · exact ⟨fun _ => ⟨x, List.mem_of_getElem? h1, h2⟩, fun _ => by omega⟩
  · exact ⟨fun h => by omega, fun ⟨x, h2, h3⟩ => absurd h3 (h1 x h2)⟩

def FirstPost {α : Type} (w : World) (l : List α) (p : α → Prop) (e : Ending) (w' : World) : Prop := ∃ r : Int, e = .returned (.int .i64 r) ∧ Hid (FirstAt l p r) ∧ Below w.heap.size w w'

set_option maxHeartbeats 1000000 in
theorem index_int (a : Option Addr) (n c : Nat) (l : List Int) (x : Int) (w : World) (hn : l.length = n) (hm : n ≤ 1099511627776) (h : IntsIn w a l) :
    Calls Try.prog 82 #[.slice a n c, .int .i64 x] w fun e w' => (∃ r : Int, e = .returned (.int .i64 r) ∧ Hid (FirstAt l (fun y => y = x) r)) ∧ w = w' := by
  have HL := hide h
  have HN := hide hn
  clear h hn
  go_enter Try.func82, Try.ntmps82
  go_wp2
  go_loop [8] (fun i => ∃ k : Nat, k ≤ n ∧ i = .int .i64 k ∧ Hid (∀ j y, j < k → l[j]? = some y → ¬ y = x)) (fun i => n - (intOf i).toNat)
  case atStart => exact ⟨0, by omega, rfl, hide (by intro j y hj; omega)⟩
  case round =>
    obtain ⟨k, hk, rfl, hf⟩ := hrel
    by_cases hlt : k < n
    · obtain ⟨y, hy⟩ : ∃ y, l[k]? = some y := ⟨l[k]'(by have := HN.out; omega), List.getElem?_eq_getElem (by have := HN.out; omega)⟩
      obtain ⟨b, off, rfl, hb0, g1⟩ := HL.out k y hy
      by_cases he : y = x
      · subst he
        have HE : Hid (FirstAt l (fun z => z = y) k) := hide (.inl ⟨k, y, rfl, hy, rfl, hf.out⟩)
        clear hy
        go_wp2
        go_ret
        exact ⟨⟨k, rfl, HE⟩, rfl⟩
      · have HE := hide (firstAt_next hy hf.out he)
        have e1 : (x == y) = false := by simpa using fun e => he e.symm
        clear hy he
        go_wp2
        exact ⟨⟨k + 1, by omega, by go_num, HE⟩, by simp [intOf]; omega⟩
    · have hkn : k = n := by omega
      subst hkn
      have HE := hide (firstAt_none (l := l) (by rw [HN.out]; exact hf.out))
      go_wp2
      go_ret
      exact ⟨⟨-1, rfl, HE⟩, rfl⟩
theorem contains_int (a : Option Addr) (n c : Nat) (l : List Int) (x : Int) (w : World) (hn : l.length = n) (hm : n ≤ 1099511627776) (h : IntsIn w a l) :
    Calls Try.prog 47 #[.slice a n c, .int .i64 x] w fun e w' => e = .returned (.bool (decide (x ∈ l))) ∧ w = w' := by
  have HI := hide (index_int a n c l x w hn hm h)
  clear h hn
  go_enter Try.func47, Try.ntmps47
  go_wp2_with fail
  refine HI.out.mono ?_
  rintro e w1 ⟨⟨r, rfl, hr⟩, rfl⟩
  have hd : decide (x ∈ l) = decide (0 ≤ r) := by
    rw [decide_eq_decide, firstAt_ex hr.out]
    exact ⟨fun h => ⟨x, h, rfl⟩, fun ⟨y, h1, h2⟩ => h2 ▸ h1⟩
  have HD := hide hd
  clear hr hd
  go_wp2
  go_ret
  exact ⟨by rw [HD.out]; rfl, rfl⟩

set_option maxHeartbeats 1000000 in
theorem indexFunc_int (N : FuncId) (hent : Enters Try.prog N) (caps : Array Value) (p : Int → Prop) [DecidablePred p] (a : Option Addr) (n c : Nat) (l : List Int) (w : World) (hn : l.length = n) (hm : n ≤ 1099511627776) (h : IntsIn w a l)
    (hf : ∀ x ∈ l, ∀ W, Below w.heap.size w W → Calls Try.prog N (#[.int .i64 x] ++ caps) W fun e w' => e = .returned (.bool (decide (p x))) ∧ Below W.heap.size W w') :
    Calls Try.prog 112 #[.slice a n c, .func (.func N) #[] caps] w (FirstPost w l p) := by
  have HL := hide h
  have HN := hide hn
  have HFN := hide hf
  have hcf : ∀ (args : Array Value) (W : World), (callFunc N args).run Try.prog W = .ok (.enter N args) W := hent
  clear h hn hf hent
  go_enter Try.func112, Try.ntmps112
  go_wp2_with fail
  go_loopw [8] (fun i wr => ∃ k : Nat, k ≤ n ∧ i = .int .i64 k ∧ Hid (∀ j y, j < k → l[j]? = some y → ¬ p y) ∧ Hid (Below w.heap.size w wr)) (fun i _ => n - (intOf i).toNat)
  case atStart => exact ⟨0, by omega, rfl, hide (by intro j y hj; omega), hide (Below.refl _ _)⟩
  case round =>
    obtain ⟨k, hk, rfl, hf, hb⟩ := hrel
    by_cases hlt : k < n
    · obtain ⟨y, hy⟩ : ∃ y, l[k]? = some y := ⟨l[k]'(by have := HN.out; omega), List.getElem?_eq_getElem (by have := HN.out; omega)⟩
      obtain ⟨b, off, rfl, hb0, g1⟩ := (HL.out.below hb.out) k y hy
      have HC := hide (HFN.out y (List.mem_of_getElem? hy) wr hb.out)
      by_cases he : p y
      · have HE : Hid (FirstAt l p k) := hide (.inl ⟨k, y, rfl, hy, he, hf.out⟩)
        rw [decide_eq_true he] at HC
        clear hy he
        go_wp2_with fail
        refine HC.out.mono ?_
        rintro e w5 ⟨rfl, hb5⟩
        have HB5 := hide (hb.out.trans (hb5.mono hb.out.size))
        clear hb5
        go_wp2
        go_ret
        exact ⟨k, rfl, HE, HB5.out⟩
      · have HE := hide (firstAt_next hy hf.out he)
        rw [decide_eq_false he] at HC
        clear hy he
        go_wp2_with fail
        refine HC.out.mono ?_
        rintro e w5 ⟨rfl, hb5⟩
        have HB5 := hide (hb.out.trans (hb5.mono hb.out.size))
        clear hb5
        go_wp2
        exact ⟨⟨k + 1, by omega, by go_num, HE, HB5⟩, by simp [intOf]; omega⟩
    · have hkn : k = n := by omega
      subst hkn
      have HE := hide (firstAt_none (l := l) (by rw [HN.out]; exact hf.out))
      go_wp2
      go_ret
      exact ⟨-1, rfl, HE, hb.out⟩
theorem containsFunc_int (N : FuncId) (hent : Enters Try.prog N) (caps : Array Value) (p : Int → Prop) [DecidablePred p] (a : Option Addr) (n c : Nat) (l : List Int) (w : World) (hn : l.length = n) (hm : n ≤ 1099511627776) (h : IntsIn w a l)
    (hf : ∀ x ∈ l, ∀ W, Below w.heap.size w W → Calls Try.prog N (#[.int .i64 x] ++ caps) W fun e w' => e = .returned (.bool (decide (p x))) ∧ Below W.heap.size W w') :
    Calls Try.prog 79 #[.slice a n c, .func (.func N) #[] caps] w fun e w' => e = .returned (.bool (decide (∃ x ∈ l, p x))) ∧ Below w.heap.size w w' := by
  have HI := hide (indexFunc_int N hent caps p a n c l w hn hm h hf)
  clear h hn hf
  go_enter Try.func79, Try.ntmps79
  go_wp2_with fail
  refine HI.out.mono ?_
  rintro e w1 ⟨r, rfl, hr, hb⟩
  have HD : Hid (decide (∃ x ∈ l, p x) = decide (0 ≤ r)) := hide (by rw [decide_eq_decide, firstAt_ex hr.out])
  have HB := hide hb
  clear hr hb
  go_wp2
  go_ret
  exact ⟨by rw [HD.out]; rfl, HB.out⟩

/-- What a slice of links leads to, wherever it lies. -/
def LinksIn (w : World) (a : Option Addr) (l : List PLink) : Prop :=
  ∀ (k : Nat) (x : PLink), l[k]? = some x → ∃ b off : Nat, a = some ⟨b, off, none⟩ ∧ b < w.heap.size ∧ w.cell? ⟨b, off + k * 3, none⟩ = some (.int .i64 x.kind) ∧ w.cell? ⟨b, off + k * 3 + 1, none⟩ = some (.int .i64 x.src) ∧ w.cell? ⟨b, off + k * 3 + 2, none⟩ = some (.int .i64 x.dst)
theorem LinksIn.frm {w w' : World} {S : Nat → Prop} {a : Option Addr} {l : List PLink} (h : LinksIn w a l) (hf : Frm S w w') (hc : Clear a S) : LinksIn w' a l := fun k x hx => by
  obtain ⟨b, off, rfl, h2, h3, h4, h5⟩ := h k x hx
  have hn := hc ⟨b, off, none⟩ rfl
  exact ⟨b, off, rfl, Nat.lt_of_lt_of_le h2 hf.size, (hf.cell (p := ⟨b, off + k * 3, none⟩) h2 hn).trans h3, (hf.cell (p := ⟨b, off + k * 3 + 1, none⟩) h2 hn).trans h4, (hf.cell (p := ⟨b, off + k * 3 + 2, none⟩) h2 hn).trans h5⟩
theorem LinksIn.below {w w' : World} {a : Option Addr} {l : List PLink} (h : LinksIn w a l) (hb : Below w.heap.size w w') : LinksIn w' a l := h.frm (Frm.of_below (S := None) hb) (fun _ _ => id)
def elink (x : PLink) : Value := .agg #[.int .i64 x.kind, .int .i64 x.src, .int .i64 x.dst]
/-- What a slice of slices leads to; what they hold stands beside them. -/
def ValsIn (w : World) (a : Option Addr) (l : List (Value × List Int)) : Prop :=
  ∀ (k : Nat) (x : Value × List Int), l[k]? = some x → ∃ b off : Nat, a = some ⟨b, off, none⟩ ∧ b < w.heap.size ∧ w.cell? ⟨b, off + k, none⟩ = some x.1 ∧ ∃ ra rn rc, x.1 = .slice ra rn rc
theorem ValsIn.below {w w' : World} {a : Option Addr} {l : List (Value × List Int)} (h : ValsIn w a l) (hb : Below w.heap.size w w') : ValsIn w' a l := fun k x hx => by
  obtain ⟨b, off, rfl, h2, h3, h4⟩ := h k x hx
  exact ⟨b, off, rfl, Nat.lt_of_lt_of_le h2 hb.size, (hb.cell (p := ⟨b, off + k, none⟩) h2).trans h3, h4⟩

set_option maxHeartbeats 1000000 in
theorem indexFunc_link (N : FuncId) (hent : Enters Try.prog N) (caps : Array Value) (p : PLink → Prop) [DecidablePred p] (a : Option Addr) (n c : Nat) (l : List PLink) (w : World) (hn : l.length = n) (hm : n ≤ 1099511627776) (h : LinksIn w a l)
    (hf : ∀ x ∈ l, ∀ W, Below w.heap.size w W → Calls Try.prog N (#[elink x] ++ caps) W fun e w' => e = .returned (.bool (decide (p x))) ∧ Below W.heap.size W w') :
    Calls Try.prog 87 #[.slice a n c, .func (.func N) #[] caps] w (FirstPost w l p) := by
  have HL := hide h
  have HN := hide hn
  have HFN := hide hf
  have hcf : ∀ (args : Array Value) (W : World), (callFunc N args).run Try.prog W = .ok (.enter N args) W := hent
  clear h hn hf hent
  go_enter Try.func87, Try.ntmps87
  go_wp2_with fail
  go_loopw [8] (fun i wr => ∃ k : Nat, k ≤ n ∧ i = .int .i64 k ∧ Hid (∀ j y, j < k → l[j]? = some y → ¬ p y) ∧ Hid (Below w.heap.size w wr)) (fun i _ => n - (intOf i).toNat)
  case atStart => exact ⟨0, by omega, rfl, hide (by intro j y hj; omega), hide (Below.refl _ _)⟩
  case round =>
    obtain ⟨k, hk, rfl, hf, hb⟩ := hrel
    by_cases hlt : k < n
    · obtain ⟨y, hy⟩ : ∃ y, l[k]? = some y := ⟨l[k]'(by have := HN.out; omega), List.getElem?_eq_getElem (by have := HN.out; omega)⟩
      obtain ⟨b, off, rfl, hb0, g1, g2, g3⟩ := (HL.out.below hb.out) k y hy
      have HC := hide (HFN.out y (List.mem_of_getElem? hy) wr hb.out)
      by_cases he : p y
      · have HE : Hid (FirstAt l p k) := hide (.inl ⟨k, y, rfl, hy, he, hf.out⟩)
        rw [decide_eq_true he] at HC
        clear hy he
        unfold elink at HC
        obtain ⟨y1, y2, y3⟩ := y
        go_wp2_with fail
        refine HC.out.mono ?_
        rintro e w5 ⟨rfl, hb5⟩
        have HB5 := hide (hb.out.trans (hb5.mono hb.out.size))
        clear hb5
        go_wp2
        go_ret
        exact ⟨k, rfl, HE, HB5.out⟩
      · have HE := hide (firstAt_next hy hf.out he)
        rw [decide_eq_false he] at HC
        clear hy he
        unfold elink at HC
        obtain ⟨y1, y2, y3⟩ := y
        go_wp2_with fail
        refine HC.out.mono ?_
        rintro e w5 ⟨rfl, hb5⟩
        have HB5 := hide (hb.out.trans (hb5.mono hb.out.size))
        clear hb5
        go_wp2
        exact ⟨⟨k + 1, by omega, by go_num, HE, HB5⟩, by simp [intOf]; omega⟩
    · have hkn : k = n := by omega
      subst hkn
      have HE := hide (firstAt_none (l := l) (by rw [HN.out]; exact hf.out))
      go_wp2
      go_ret
      exact ⟨-1, rfl, HE, hb.out⟩
theorem containsFunc_link (N : FuncId) (hent : Enters Try.prog N) (caps : Array Value) (p : PLink → Prop) [DecidablePred p] (a : Option Addr) (n c : Nat) (l : List PLink) (w : World) (hn : l.length = n) (hm : n ≤ 1099511627776) (h : LinksIn w a l)
    (hf : ∀ x ∈ l, ∀ W, Below w.heap.size w W → Calls Try.prog N (#[elink x] ++ caps) W fun e w' => e = .returned (.bool (decide (p x))) ∧ Below W.heap.size W w') :
    Calls Try.prog 53 #[.slice a n c, .func (.func N) #[] caps] w fun e w' => e = .returned (.bool (decide (∃ x ∈ l, p x))) ∧ Below w.heap.size w w' := by
  have HI := hide (indexFunc_link N hent caps p a n c l w hn hm h hf)
  clear h hn hf
  go_enter Try.func53, Try.ntmps53
  go_wp2_with fail
  refine HI.out.mono ?_
  rintro e w1 ⟨r, rfl, hr, hb⟩
  have HD : Hid (decide (∃ x ∈ l, p x) = decide (0 ≤ r)) := hide (by rw [decide_eq_decide, firstAt_ex hr.out])
  have HB := hide hb
  clear hr hb
  go_wp2
  go_ret
  exact ⟨by rw [HD.out]; rfl, HB.out⟩
set_option maxHeartbeats 1000000 in
theorem indexFunc_row (N : FuncId) (hent : Enters Try.prog N) (caps : Array Value) (p : Value × List Int → Prop) [DecidablePred p] (a : Option Addr) (n c : Nat) (l : List (Value × List Int)) (w : World) (hn : l.length = n) (hm : n ≤ 1099511627776) (h : ValsIn w a l)
    (hf : ∀ x ∈ l, ∀ W, Below w.heap.size w W → Calls Try.prog N (#[x.1] ++ caps) W fun e w' => e = .returned (.bool (decide (p x))) ∧ Below W.heap.size W w') :
    Calls Try.prog 86 #[.slice a n c, .func (.func N) #[] caps] w (FirstPost w l p) := by
  have HL := hide h
  have HN := hide hn
  have HFN := hide hf
  have hcf : ∀ (args : Array Value) (W : World), (callFunc N args).run Try.prog W = .ok (.enter N args) W := hent
  clear h hn hf hent
  go_enter Try.func86, Try.ntmps86
  go_wp2_with fail
  go_loopw [8] (fun i wr => ∃ k : Nat, k ≤ n ∧ i = .int .i64 k ∧ Hid (∀ j y, j < k → l[j]? = some y → ¬ p y) ∧ Hid (Below w.heap.size w wr)) (fun i _ => n - (intOf i).toNat)
  case atStart => exact ⟨0, by omega, rfl, hide (by intro j y hj; omega), hide (Below.refl _ _)⟩
  case round =>
    obtain ⟨k, hk, rfl, hf, hb⟩ := hrel
    by_cases hlt : k < n
    · obtain ⟨y, hy⟩ : ∃ y, l[k]? = some y := ⟨l[k]'(by have := HN.out; omega), List.getElem?_eq_getElem (by have := HN.out; omega)⟩
      obtain ⟨b, off, rfl, hb0, g1, ra, rn, rc, hsl⟩ := (HL.out.below hb.out) k y hy
      have HC := hide (HFN.out y (List.mem_of_getElem? hy) wr hb.out)
      by_cases he : p y
      · have HE : Hid (FirstAt l p k) := hide (.inl ⟨k, y, rfl, hy, he, hf.out⟩)
        rw [decide_eq_true he] at HC
        clear hy he
        obtain ⟨yv, yl⟩ := y
        simp only at hsl HC g1
        subst hsl
        go_wp2_with fail
        refine HC.out.mono ?_
        rintro e w5 ⟨rfl, hb5⟩
        have HB5 := hide (hb.out.trans (hb5.mono hb.out.size))
        clear hb5
        go_wp2
        go_ret
        exact ⟨k, rfl, HE, HB5.out⟩
      · have HE := hide (firstAt_next hy hf.out he)
        rw [decide_eq_false he] at HC
        clear hy he
        obtain ⟨yv, yl⟩ := y
        simp only at hsl HC g1
        subst hsl
        go_wp2_with fail
        refine HC.out.mono ?_
        rintro e w5 ⟨rfl, hb5⟩
        have HB5 := hide (hb.out.trans (hb5.mono hb.out.size))
        clear hb5
        go_wp2
        exact ⟨⟨k + 1, by omega, by go_num, HE, HB5⟩, by simp [intOf]; omega⟩
    · have hkn : k = n := by omega
      subst hkn
      have HE := hide (firstAt_none (l := l) (by rw [HN.out]; exact hf.out))
      go_wp2
      go_ret
      exact ⟨-1, rfl, HE, hb.out⟩
end Go.Proofs.Ytpkhmhfgnpnpfaa
