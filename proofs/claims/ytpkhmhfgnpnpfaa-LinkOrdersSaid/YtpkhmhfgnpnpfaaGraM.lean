/- Classes of numbers as a function (of each number the least of its class), links between them, and their order: plain, no program in sight. -/
import Derived.Test.YtpkhmhfgnpnpfaaUfM
namespace Go.Proofs.Ytpkhmhfgnpnpfaa

/-! ### classes -/
/-- Numbers from 1 to n; of each the least of its class, of no number 0. -/
structure Cls where
  n : Nat
  f : Int → Int
theorem Cls.ext' {a b : Cls} (h1 : a.n = b.n) (h2 : ∀ i, a.f i = b.f i) : a = b := by
  obtain ⟨n, f⟩ := a
  obtain ⟨m, g⟩ := b
  simp only at h1 h2
  subst h1
  obtain rfl : f = g := funext h2
  rfl
structure OkC (c : Cls) : Prop where
  out : ∀ i : Int, ¬ (1 ≤ i ∧ i ≤ (c.n : Int)) → c.f i = 0
  pos : ∀ {i : Int}, 1 ≤ i → i ≤ (c.n : Int) → 1 ≤ c.f i
  le : ∀ {i : Int}, 1 ≤ i → i ≤ (c.n : Int) → c.f i ≤ i
  idem : ∀ {i : Int}, 1 ≤ i → i ≤ (c.n : Int) → c.f (c.f i) = c.f i
theorem OkC.pos_iff {c : Cls} (h : OkC c) (i : Int) : c.f i ≠ 0 ↔ 1 ≤ i ∧ i ≤ (c.n : Int) := by
  constructor
  · intro hi
    exact Classical.byContradiction fun hn => hi (h.out i hn)
  · intro hi e
    have := h.pos hi.1 hi.2
    omega
/-- Classes as the program keeps them. -/
def clsOf (up : List Nat) : Cls := ⟨up.length, fun i : Int => if 1 ≤ i ∧ i ≤ up.length then (headOf up i.toNat : Int) else 0⟩
theorem clsOf_ok {up : List Nat} (h : GoodUp up) : OkC (clsOf up) := by
  have key : ∀ {i : Int}, 1 ≤ i → i ≤ up.length → (clsOf up).f i = (headOf up i.toNat : Int) := fun {i : Int} h1 h2 => by
    show (if 1 ≤ i ∧ i ≤ up.length then (headOf up i.toNat : Int) else 0) = _
    rw [if_pos ⟨h1, h2⟩]
  refine ⟨fun i hi => ?_, fun {i : Int} h1 h2 => ?_, fun {i : Int} h1 h2 => ?_, fun {i : Int} h1 h2 => ?_⟩
  · show (if 1 ≤ i ∧ i ≤ up.length then (headOf up i.toNat : Int) else 0) = _
    exact if_neg hi
  · change i ≤ up.length at h2
    rw [key h1 h2]
    have := head_root h (i := i.toNat) (by omega) (by omega)
    omega
  · change i ≤ up.length at h2
    rw [key h1 h2]
    have := head_root h (i := i.toNat) (by omega) (by omega)
    omega
  · change i ≤ up.length at h2
    rw [key h1 h2]
    obtain ⟨a, b, d⟩ := head_root h (i := i.toNat) (by omega) (by omega)
    rw [key (by omega) (by omega)]
    rw [show ((headOf up i.toNat : Nat) : Int).toNat = headOf up i.toNat by omega]
    rw [head_of_root h a (by omega) d]

/-- Two heads made one. -/
def mergeC (c : Cls) (a b : Int) : Cls := if a = b then c else ⟨c.n, fun i => if c.f i = max a b then min a b else c.f i⟩
theorem mergeC_n (c : Cls) (a b : Int) : (mergeC c a b).n = c.n := by unfold mergeC; split <;> rfl
theorem mergeC_f (c : Cls) (a b i : Int) : (mergeC c a b).f i = if a ≠ b ∧ c.f i = max a b then min a b else c.f i := by
  unfold mergeC
  by_cases h : a = b
  · rw [if_pos h, if_neg (fun h2 => h2.1 h)]
  · rw [if_neg h]
    by_cases h3 : c.f i = max a b
    · simp [h3, h]
    · simp [h3]
/-- A head. -/
def isHead (c : Cls) (a : Int) : Prop := 1 ≤ a ∧ a ≤ (c.n : Int) ∧ c.f a = a
theorem isHead_f {c : Cls} (h : OkC c) {i : Int} (h1 : 1 ≤ i) (h2 : i ≤ (c.n : Int)) : isHead c (c.f i) := ⟨h.pos h1 h2, by have := h.le h1 h2; omega, h.idem h1 h2⟩
theorem mergeC_ok {c : Cls} (h : OkC c) {a b : Int} (ha : isHead c a) (hb : isHead c b) : OkC (mergeC c a b) := by
  by_cases hab : a = b
  · unfold mergeC; rw [if_pos hab]; exact h
  obtain ⟨a1, a2, a3⟩ := ha
  obtain ⟨b1, b2, b3⟩ := hb
  have hmx : c.f (max a b) = max a b := by rcases Int.le_total a b with h1 | h1 <;> simp [h1, Int.max_eq_left, Int.max_eq_right, a3, b3]
  have hmn : c.f (min a b) = min a b := by rcases Int.le_total a b with h1 | h1 <;> simp [h1, Int.min_eq_left, Int.min_eq_right, a3, b3]
  refine ⟨fun i hi => ?_, fun {i : Int} h1 h2 => ?_, fun {i : Int} h1 h2 => ?_, fun {i : Int} h1 h2 => ?_⟩
  · rw [mergeC_n] at hi
    rw [mergeC_f, h.out i hi, if_neg (by omega)]
  · rw [mergeC_n] at h2
    rw [mergeC_f]
    have := h.pos h1 h2
    split <;> omega
  · rw [mergeC_n] at h2
    rw [mergeC_f]
    have := h.le h1 h2
    split <;> omega
  · rw [mergeC_n] at h2
    rw [mergeC_f c a b i]
    by_cases e : a ≠ b ∧ c.f i = max a b
    · rw [if_pos e, mergeC_f, hmn, if_neg (by omega)]
    · rw [if_neg e, mergeC_f, h.idem h1 h2, if_neg e]
/-- All of l joined with l0, one behind the other. -/
def joinC (c : Cls) (l0 : Int) : List Int → Cls
  | [] => c
  | i :: l => joinC (mergeC c (c.f l0) (c.f i)) l0 l
def allIn (c : Cls) (l : List Int) : Prop := ∀ i ∈ l, 1 ≤ i ∧ i ≤ (c.n : Int)
instance (c : Cls) (l : List Int) : Decidable (allIn c l) := by unfold allIn; exact inferInstance
theorem joinC_n (l0 : Int) : ∀ (l : List Int) (c : Cls), (joinC c l0 l).n = c.n
  | [], _ => rfl
  | i :: l, c => (joinC_n l0 l _).trans (mergeC_n _ _ _)
theorem joinC_ok {l0 : Int} : ∀ {l : List Int} {c : Cls}, OkC c → allIn c (l0 :: l) → OkC (joinC c l0 l)
  | [], _, h, _ => h
  | i :: l, c, h, hl => by
    have h0 := hl l0 List.mem_cons_self
    have h1 := hl i (List.mem_cons_of_mem _ List.mem_cons_self)
    refine joinC_ok (c := mergeC c (c.f l0) (c.f i)) (mergeC_ok h (isHead_f h h0.1 h0.2) (isHead_f h h1.1 h1.2)) fun j hj => ?_
    rw [mergeC_n]
    rcases List.mem_cons.1 hj with rfl | hj
    · exact h0
    · exact hl j (List.mem_cons_of_mem _ (List.mem_cons_of_mem _ hj))
/-- What Join makes of classes. -/
def joinL (c : Cls) (l : List Int) : Cls := match l with
  | [] => c
  | i :: r => joinC c i (i :: r)
theorem joinL_n (c : Cls) (l : List Int) : (joinL c l).n = c.n := by cases l with
  | nil => rfl
  | cons i r => exact joinC_n i _ c
theorem joinL_ok {c : Cls} (h : OkC c) {l : List Int} (hl : allIn c l) : OkC (joinL c l) := by cases l with
  | nil => exact h
  | cons i r =>
    refine joinC_ok h fun j hj => ?_
    rcases List.mem_cons.1 hj with e | hj
    · exact hl _ (e ▸ List.mem_cons_self)
    · exact hl _ hj
theorem mergeC_same (c : Cls) (a : Int) : mergeC c a a = c := by unfold mergeC; rw [if_pos rfl]
theorem joinL_two (c : Cls) (a b : Int) : joinL c [a, b] = mergeC c (c.f a) (c.f b) := by
  show mergeC (mergeC c (c.f a) (c.f a)) _ _ = _
  rw [mergeC_same]
/-- More numbers, each a class of its own. -/
def growC (c : Cls) (m : Nat) : Cls := ⟨m, fun i => if c.n < i ∧ i ≤ m then i else c.f i⟩
def freshC (n : Nat) : Cls := growC ⟨0, fun _ => 0⟩ n
theorem growC_ok {c : Cls} (h : OkC c) {m : Nat} (hm : c.n ≤ m) : OkC (growC c m) := by
  have key : ∀ i, (growC c m).f i = if c.n < i ∧ i ≤ m then i else c.f i := fun _ => rfl
  refine ⟨fun i hi => ?_, fun {i : Int} h1 h2 => ?_, fun {i : Int} h1 h2 => ?_, fun {i : Int} h1 h2 => ?_⟩
  · change ¬ (1 ≤ i ∧ i ≤ (m : Int)) at hi
    rw [key, if_neg (by omega), h.out i (by omega)]
  · change i ≤ (m : Int) at h2
    rw [key]
    split
    · exact h1
    · exact h.pos h1 (by omega)
  · change i ≤ (m : Int) at h2
    rw [key]
    split
    · exact Int.le_refl _
    · exact h.le h1 (by omega)
  · change i ≤ (m : Int) at h2
    rw [key i]
    by_cases e : c.n < i ∧ i ≤ m
    · rw [if_pos e, key, if_pos e]
    · have h3 : i ≤ c.n := by omega
      have h4 := h.le h1 h3
      rw [if_neg e, key, if_neg (by omega), h.idem h1 h3]
theorem noneC_ok : OkC ⟨0, fun _ => 0⟩ := ⟨fun _ _ => rfl, fun {i : Int} h1 h2 => by simp at h2; omega, fun {i : Int} h1 h2 => by simp at h2; omega, fun {i : Int} h1 h2 => by simp at h2; omega⟩
theorem freshC_ok (n : Nat) : OkC (freshC n) := growC_ok noneC_ok (Nat.zero_le _)
theorem freshC_f (n : Nat) (i : Int) : (freshC n).f i = if 1 ≤ i ∧ i ≤ n then i else 0 := by
  show (if ((0 : Nat) : Int) < i ∧ i ≤ n then i else 0) = _
  by_cases h : 1 ≤ i ∧ i ≤ n
  · rw [if_pos h, if_pos (by omega)]
  · rw [if_neg h, if_neg (by omega)]

/-! ### the program's list of what stands above, and the function -/
theorem clsOf_f {up : List Nat} {i : Nat} (h1 : 1 ≤ i) (h2 : i ≤ up.length) : (clsOf up).f i = (headOf up i : Int) := by
  show (if 1 ≤ (i : Int) ∧ (i : Int) ≤ up.length then (headOf up (i : Int).toNat : Int) else 0) = _
  rw [if_pos (by omega), show (i : Int).toNat = i by omega]
theorem clsOf_out {up : List Nat} {i : Int} (h : ¬ (1 ≤ i ∧ i ≤ up.length)) : (clsOf up).f i = 0 := if_neg h
theorem clsOf_set {up : List Nat} (h : GoodUp up) {lo hi : Nat} (h1 : 1 ≤ lo) (h2 : lo < hi) (h3 : hi ≤ up.length) (rl : up.getD (lo - 1) 0 = lo) (rh : up.getD (hi - 1) 0 = hi) {a b : Int} (hab : max a b = hi) (hab' : min a b = lo) :
    clsOf (up.set (hi - 1) lo) = mergeC (clsOf up) a b := by
  refine Cls.ext' (by rw [mergeC_n]; simp [clsOf]) fun i => ?_
  rw [mergeC_f, hab, hab']
  by_cases hi' : 1 ≤ i ∧ i ≤ up.length
  · obtain ⟨j, rfl⟩ : ∃ j : Nat, i = j := ⟨i.toNat, by omega⟩
    rw [clsOf_f (by omega) (by rw [List.length_set]; omega), clsOf_f (by omega) (by omega), head_set h h1 h2 h3 rl rh (by omega) (by omega)]
    by_cases e : headOf up j = hi
    · rw [if_pos e, if_pos ⟨by omega, by omega⟩]
    · rw [if_neg e, if_neg (by omega)]
  · rw [clsOf_out (by rw [List.length_set]; exact hi'), clsOf_out hi', if_neg (by omega)]
theorem good_push {up : List Nat} (h : GoodUp up) : GoodUp (up ++ [up.length + 1]) := fun i hi => by
  rw [List.length_append, List.length_singleton] at hi
  by_cases e : i < up.length
  · have := h i e
    rw [List.getD_eq_getElem?_getD, List.getElem?_append_left e, ← List.getD_eq_getElem?_getD]
    exact this
  · have : i = up.length := by omega
    subst this
    simp
theorem headOf_push {up : List Nat} (h : GoodUp up) : ∀ {i : Nat}, 1 ≤ i → i ≤ up.length → headOf (up ++ [up.length + 1]) i = headOf up i := by
  intro i
  have hg := good_push h
  induction i using Nat.strongRecOn with
  | ind i ih =>
    intro h1 h2
    have e : (up ++ [up.length + 1]).getD (i - 1) 0 = up.getD (i - 1) 0 := by
      rw [List.getD_eq_getElem?_getD, List.getElem?_append_left (by omega), ← List.getD_eq_getElem?_getD]
    rw [head_step hg h1 (by simp; omega), head_step h h1 h2, e]
    by_cases r : up.getD (i - 1) 0 = i
    · rw [if_pos r, if_pos r]
    · rw [if_neg r, if_neg r]
      obtain ⟨g1, g2⟩ := good_at h h1 h2
      exact ih _ (by omega) g1 (by omega)
theorem clsOf_push {up : List Nat} (h : GoodUp up) : clsOf (up ++ [up.length + 1]) = growC (clsOf up) (up.length + 1) := by
  have hg := good_push h
  refine Cls.ext' (by simp [clsOf, growC]) fun i => ?_
  have key : (growC (clsOf up) (up.length + 1)).f i = if (up.length : Int) < i ∧ i ≤ ((up.length + 1 : Nat) : Int) then i else (clsOf up).f i := rfl
  rw [key]
  by_cases e : (up.length : Int) < i ∧ i ≤ ((up.length + 1 : Nat) : Int)
  · obtain rfl : i = ((up.length + 1 : Nat) : Int) := by omega
    rw [if_pos e, clsOf_f (by omega) (by simp), head_of_root hg (by omega) (by simp) (by simp)]
  · rw [if_neg e]
    by_cases hi : 1 ≤ i ∧ i ≤ up.length
    · obtain ⟨j, rfl⟩ : ∃ j : Nat, i = j := ⟨i.toNat, by omega⟩
      rw [clsOf_f (by omega) (by simp; omega), clsOf_f (by omega) (by omega), headOf_push h (by omega) (by omega)]
    · rw [clsOf_out hi, clsOf_out (by simp; omega)]
theorem growC_growC (c : Cls) {m k : Nat} (h : c.n ≤ m) (h2 : m ≤ k) : growC (growC c m) k = growC c k := by
  refine Cls.ext' rfl fun i => ?_
  show (if (m : Int) < i ∧ i ≤ k then i else if (c.n : Int) < i ∧ i ≤ m then i else c.f i) = if (c.n : Int) < i ∧ i ≤ k then i else c.f i
  by_cases h3 : (m : Int) < i ∧ i ≤ k
  · rw [if_pos h3, if_pos (by omega)]
  · rw [if_neg h3]
    by_cases h4 : (c.n : Int) < i ∧ i ≤ m
    · rw [if_pos h4, if_pos (by omega)]
    · rw [if_neg h4, if_neg (by omega)]
theorem growC_self {c : Cls} : growC c c.n = c := Cls.ext' rfl fun i => by
  show (if (c.n : Int) < i ∧ i ≤ c.n then i else c.f i) = _
  rw [if_neg (by omega)]

/-! ### numbers, classes, heads -/
def nums (n : Nat) : List Int := (List.range n).map fun i => ((i + 1 : Nat) : Int)
theorem mem_nums {n : Nat} {i : Int} : i ∈ nums n ↔ 1 ≤ i ∧ i ≤ n := by
  unfold nums
  rw [List.mem_map]
  constructor
  · rintro ⟨k, hk, rfl⟩
    rw [List.mem_range] at hk
    omega
  · intro h
    exact ⟨i.toNat - 1, by rw [List.mem_range]; omega, by omega⟩
theorem nums_rise (n : Nat) : (nums n).Pairwise (· < ·) := by
  unfold nums
  rw [List.pairwise_map]
  refine List.Pairwise.imp ?_ List.pairwise_lt_range
  intro a b h
  omega
theorem nums_succ (n : Nat) : nums (n + 1) = nums n ++ [((n + 1 : Nat) : Int)] := by simp [nums, List.range_succ]
theorem nums_length (n : Nat) : (nums n).length = n := by simp [nums]
/-- The class of a number. -/
def classC (c : Cls) (i : Int) : List Int := if c.f i = 0 then [] else (nums c.n).filter fun j => decide (c.f j = c.f i)
def headsC (c : Cls) : List Int := (nums c.n).filter fun h => decide (c.f h = h)
def classesC (c : Cls) : List (List Int) := (headsC c).map (classC c)
theorem mem_classC {c : Cls} (h : OkC c) {i j : Int} : j ∈ classC c i ↔ c.f i ≠ 0 ∧ c.f j = c.f i := by
  unfold classC
  split
  · rename_i e
    simp [e]
  · rename_i e
    rw [List.mem_filter, mem_nums]
    simp only [decide_eq_true_eq]
    constructor
    · exact fun h2 => ⟨e, h2.2⟩
    · exact fun h2 => ⟨(h.pos_iff j).1 (by rw [h2.2]; exact e), h2.2⟩
theorem classC_rise (c : Cls) (i : Int) : (classC c i).Pairwise (· < ·) := by
  unfold classC
  split
  · exact List.Pairwise.nil
  · exact (nums_rise _).filter _
theorem mem_headsC {c : Cls} {h : Int} : h ∈ headsC c ↔ isHead c h := by
  unfold headsC isHead
  rw [List.mem_filter, mem_nums]
  simp [and_assoc]
theorem headsC_rise (c : Cls) : (headsC c).Pairwise (· < ·) := (nums_rise _).filter _
theorem rise_nodup {l : List Int} (h : l.Pairwise (· < ·)) : l.Nodup := h.imp fun h => by omega
theorem classC_head {c : Cls} (h : OkC c) {i : Int} (hi : isHead c i) : ∃ r, classC c i = i :: r := by
  have hm : i ∈ classC c i := (mem_classC h).2 ⟨by have := hi.1; rw [hi.2.2]; omega, rfl⟩
  have hr := classC_rise c i
  revert hm hr
  have hall : ∀ j ∈ classC c i, i ≤ j := fun j hj => by
    have := (mem_classC h).1 hj
    have hj1 := (h.pos_iff j).1 (by rw [this.2]; exact this.1)
    have := h.le hj1.1 hj1.2
    rw [(‹c.f i ≠ 0 ∧ c.f j = c.f i›).2, hi.2.2] at this
    exact this
  revert hall
  cases classC c i with
  | nil => intro _ hm; simp at hm
  | cons x r =>
    intro hall hm hr
    rcases List.mem_cons.1 hm with rfl | hm
    · exact ⟨r, rfl⟩
    · have h1 := (List.pairwise_cons.1 hr).1 i hm
      have h2 := hall x List.mem_cons_self
      omega
/-- Lists that rise and have the same members are the same. -/
theorem rise_eq : ∀ {a b : List Int}, a.Pairwise (· < ·) → b.Pairwise (· < ·) → (∀ x, x ∈ a ↔ x ∈ b) → a = b
  | [], [], _, _, _ => rfl
  | [], y :: b, _, _, h => absurd ((h y).2 List.mem_cons_self) (by simp)
  | x :: a, [], _, _, h => absurd ((h x).1 List.mem_cons_self) (by simp)
  | x :: a, y :: b, ha, hb, h => by
    obtain ⟨a1, a2⟩ := List.pairwise_cons.1 ha
    obtain ⟨b1, b2⟩ := List.pairwise_cons.1 hb
    have hxy : x = y := by
      rcases List.mem_cons.1 ((h x).1 List.mem_cons_self) with e | e
      · exact e
      · rcases List.mem_cons.1 ((h y).2 List.mem_cons_self) with e2 | e2
        · exact e2.symm
        · have := a1 y e2
          have := b1 x e
          omega
    subst hxy
    rw [rise_eq a2 b2 fun z => ?_]
    constructor
    · intro hz
      rcases List.mem_cons.1 ((h z).1 (List.mem_cons_of_mem _ hz)) with e | e
      · have := a1 z hz; omega
      · exact e
    · intro hz
      rcases List.mem_cons.1 ((h z).2 (List.mem_cons_of_mem _ hz)) with e | e
      · have := b1 z hz; omega
      · exact e

/-! ### links -/
structure PLink where
  kind : Int
  src : Int
  dst : Int
deriving DecidableEq
instance : Inhabited PLink := ⟨⟨0, 0, 0⟩⟩
/-- Classes, and what links make of them. -/
def withC (c : Cls) : List PLink → Cls
  | [] => c
  | x :: l => withC (if x.kind = 1 then mergeC c (c.f x.src) (c.f x.dst) else c) l
def linkIn (c : Cls) (x : PLink) : Prop := (1 ≤ x.src ∧ x.src ≤ (c.n : Int)) ∧ 1 ≤ x.dst ∧ x.dst ≤ (c.n : Int)
instance (c : Cls) (x : PLink) : Decidable (linkIn c x) := by unfold linkIn; exact inferInstance
theorem withC_n : ∀ (l : List PLink) (c : Cls), (withC c l).n = c.n
  | [], _ => rfl
  | x :: l, c => by
    rw [withC, withC_n l]
    split
    · exact mergeC_n _ _ _
    · rfl
theorem withC_ok : ∀ {l : List PLink} {c : Cls}, OkC c → (∀ x ∈ l, linkIn c x) → OkC (withC c l)
  | [], _, h, _ => h
  | x :: l, c, h, hl => by
    rw [withC]
    obtain ⟨h1, h2⟩ := hl x List.mem_cons_self
    split
    · refine withC_ok (mergeC_ok h (isHead_f h h1.1 h1.2) (isHead_f h h2.1 h2.2)) fun y hy => ?_
      have := hl y (List.mem_cons_of_mem _ hy)
      unfold linkIn at this ⊢
      rwa [mergeC_n]
    · exact withC_ok h fun y hy => hl y (List.mem_cons_of_mem _ hy)
theorem withC_append (a b : List PLink) : ∀ c, withC c (a ++ b) = withC (withC c a) b := by
  induction a with
  | nil => intro _; rfl
  | cons x a ih => intro c; exact ih _
/-- May a head stand next, those of done being there? -/
def readyC (c : Cls) (ls : List PLink) (done : List Int) (h : Int) : Bool := decide (h ∉ done) && ls.all fun x => !(decide (x.kind = 2) && decide (c.f x.dst = h)) || decide (c.f x.src ∈ done)
theorem readyC_iff {c : Cls} {ls : List PLink} {done : List Int} {h : Int} : readyC c ls done h = true ↔ h ∉ done ∧ ∀ x ∈ ls, x.kind = 2 → c.f x.dst = h → c.f x.src ∈ done := by
  unfold readyC
  rw [Bool.and_eq_true, decide_eq_true_eq, List.all_eq_true]
  refine and_congr Iff.rfl (forall_congr' fun x => forall_congr' fun _ => ?_)
  by_cases h1 : x.kind = 2 <;> by_cases h2 : c.f x.dst = h <;> simp [h1, h2]
def orderN (c : Cls) (ls : List PLink) : Nat → List Int → List Int
  | 0, done => done
  | k + 1, done => match (headsC c).find? (readyC c ls done) with
    | none => done
    | some h => orderN c ls k (done ++ [h])
/-- The heads in their order. -/
def orderC (c : Cls) (ls : List PLink) : List Int := orderN c ls (headsC c).length []
/-- Numbers whose class stands straight ahead of that of i (or behind it). -/
def nearC (c : Cls) (ls : List PLink) (ahead : Bool) (i : Int) : List Int :=
  if c.f i = 0 then [] else (nums c.n).filter fun j => ls.any fun x => decide (x.kind = 2) && (if ahead then decide (c.f x.dst = c.f i) && decide (c.f x.src = c.f j) else decide (c.f x.src = c.f i) && decide (c.f x.dst = c.f j))
theorem nearC_rise (c : Cls) (ls : List PLink) (a : Bool) (i : Int) : (nearC c ls a i).Pairwise (· < ·) := by
  unfold nearC
  split
  · exact List.Pairwise.nil
  · exact (nums_rise _).filter _

/-! ### a graph -/
structure Gra where
  c : Cls
  ls : List PLink
def circleG (g : Gra) (l : List PLink) : Prop := (orderC (withC g.c l) (g.ls ++ l)).length ≠ (headsC (withC g.c l)).length
instance (g : Gra) (l : List PLink) : Decidable (circleG g l) := by unfold circleG; exact inferInstance
def badLink (x : PLink) : Prop := (x.kind ≠ 1 ∧ x.kind ≠ 2) ∨ x.src = x.dst
instance (x : PLink) : Decidable (badLink x) := by unfold badLink; exact inferInstance
/-- What Try answers. -/
def tryG (g : Gra) (l : List PLink) : Int :=
  if g.ls.length + l.length > 120 then 2
  else if ∃ x ∈ l, ¬ linkIn g.c x then 3
  else if ∃ x ∈ l, badLink x then 1
  else if circleG g l then 24
  else 0
def addG (g : Gra) (l : List PLink) : Gra := if tryG g l = 0 then ⟨withC g.c l, g.ls ++ l⟩ else g
structure OkG (g : Gra) : Prop where
  ok : OkC g.c
  small : g.c.n ≤ 1000
  few : g.ls.length ≤ 120
  inn : ∀ x ∈ g.ls, linkIn g.c x
  good : ∀ x ∈ g.ls, ¬ badLink x
end Go.Proofs.Ytpkhmhfgnpnpfaa
