/- Orders: what a three-way comparison must be; texts, numbers, pairs; sorted permutations are one. -/
import Derived.Test.YtmhmjbggjbeikaaCmp
import Derived.Test.YtmhmjbggjbeikaaSort
import Derived.Sort.Walk0
namespace Go.Proofs.Ytmhmjbggjbeikaa
open Go.RowKit Go.Sort

/-- A three-way comparison that is an order. -/
structure IsCmp {α : Type} (c : α → α → Int) : Prop where
  zero : ∀ x y, c x y = 0 ↔ x = y
  anti : ∀ x y, c x y < 0 ↔ 0 < c y x
  trans : ∀ x y z, c x y < 0 → c y z < 0 → c x z < 0

namespace IsCmp
variable {α β : Type} {c : α → α → Int} {d : β → β → Int}
theorem total (h : IsCmp c) {x y : α} (hne : x ≠ y) : c x y < 0 ∨ c y x < 0 := by
  have h1 := h.anti y x
  have h2 : c x y ≠ 0 := fun e => hne ((h.zero x y).1 e)
  omega
theorem irrefl (h : IsCmp c) (x : α) : ¬ c x x < 0 := by have := (h.zero x x).2 rfl; omega
theorem asymm (h : IsCmp c) {x y : α} (h1 : c x y < 0) : ¬ c y x < 0 := by have := (h.anti x y).1 h1; omega
theorem swo (h : IsCmp c) : SWO (Go.Proofs.ltOf c) where
  irrefl x := by simp [Go.Proofs.ltOf, h.irrefl x]
  trans x y z h1 h2 := by
    simp only [Go.Proofs.ltOf, decide_eq_true_eq] at *
    exact h.trans x y z h1 h2
  ntrans x y z h1 h2 := by
    simp only [Go.Proofs.ltOf, decide_eq_false_iff_not] at *
    intro h3
    have e1 : c y x ≤ 0 := by have := h.anti y x; have := h.anti x y; omega
    by_cases hxy : x = y
    · subst hxy; exact h2 h3
    · rcases h.total hxy with h4 | h4
      · exact h1 h4
      · exact h2 (h.trans y x z h4 h3)

/-- First by the one, then by the other. -/
theorem lex (h : IsCmp c) (k : IsCmp d) : IsCmp fun (x y : α × β) => firstOf [c x.1 y.1, d x.2 y.2] where
  zero x y := by
    obtain ⟨x1, x2⟩ := x
    obtain ⟨y1, y2⟩ := y
    have h1 := h.zero x1 y1
    have h2 := k.zero x2 y2
    simp only [firstOf, Prod.mk.injEq]
    by_cases e1 : c x1 y1 = 0 <;> by_cases e2 : d x2 y2 = 0 <;> simp_all
  anti x y := by
    obtain ⟨x1, x2⟩ := x
    obtain ⟨y1, y2⟩ := y
    have h1 := h.anti x1 y1
    have h1' := h.anti y1 x1
    have h2 := k.anti x2 y2
    have h2' := k.anti y2 x2
    simp only [firstOf]
    by_cases e1 : c x1 y1 = 0
    · have e3 : c y1 x1 = 0 := by omega
      simp only [e1, e3, if_true]
      by_cases e2 : d x2 y2 = 0
      · have e4 : d y2 x2 = 0 := by omega
        simp [e2, e4]
      · have e4 : d y2 x2 ≠ 0 := by omega
        simp only [e2, e4, if_false]
        exact h2
    · have e3 : c y1 x1 ≠ 0 := by omega
      simp only [e1, e3, if_false]
      exact h1
  trans x y z h1 h2 := by
    obtain ⟨x1, x2⟩ := x
    obtain ⟨y1, y2⟩ := y
    obtain ⟨z1, z2⟩ := z
    simp only [firstOf] at *
    by_cases e1 : c x1 y1 = 0
    · have := (h.zero x1 y1).1 e1
      subst this
      rw [if_pos e1] at h1
      by_cases e2 : c x1 z1 = 0
      · rw [if_pos e2] at h2 ⊢
        have e3 : d x2 y2 ≠ 0 := fun e => by rw [e] at h1; simp at h1
        have e4 : d y2 z2 ≠ 0 := fun e => by rw [e] at h2; simp at h2
        rw [if_neg e3] at h1
        rw [if_neg e4] at h2
        have := k.trans x2 y2 z2 h1 h2
        rw [if_neg (by omega)]
        exact this
      · rw [if_neg e2] at h2 ⊢
        exact h2
    · rw [if_neg e1] at h1
      by_cases e2 : c y1 z1 = 0
      · have := (h.zero y1 z1).1 e2
        subst this
        rw [if_neg e1]
        exact h1
      · rw [if_neg e2] at h2
        have := h.trans x1 y1 z1 h1 h2
        rw [if_neg (by omega)]
        exact this
end IsCmp

theorem cmpS_lt (a b : ByteArray) : cmpS a b < 0 ↔ a.toList < b.toList := by
  unfold cmpS
  rw [Proofs.bytesLess_eq]
  by_cases h : a.toList < b.toList
  · simp [h]
  · simp [h]; split <;> simp
theorem cmpS_cmp : IsCmp cmpS where
  zero a b := by
    unfold cmpS
    rw [Proofs.bytesLess_eq]
    by_cases h : a.toList < b.toList
    · simp [h]
      rintro rfl
      exact absurd h (List.lt_irrefl _)
    · simp [h]
  anti a b := by
    have h1 := cmpS_lt a b
    have h2 := cmpS_lt b a
    rw [h1]
    unfold cmpS
    rw [Proofs.bytesLess_eq]
    by_cases h : b.toList < a.toList
    · simp [h]
      exact List.lt_asymm h
    · simp [h]
      constructor
      · intro h3
        rw [if_neg]
        · decide
        · rintro rfl
          exact absurd h3 (List.lt_irrefl _)
      · intro h3
        have hne : a ≠ b := by rintro rfl; simp at h3
        have h4 : a.toList ≤ b.toList := List.not_lt.1 h
        refine Classical.byContradiction fun h5 => ?_
        exact hne (toList_inj.1 (List.le_antisymm h4 (List.not_lt.1 h5)))
  trans a b c h1 h2 := by
    rw [cmpS_lt] at *
    exact List.lt_trans h1 h2
theorem cmpI_lt (a b : Int) : cmpI a b < 0 ↔ a < b := by
  unfold cmpI
  by_cases h1 : a < b
  · rw [if_pos h1]; omega
  · rw [if_neg h1]
    by_cases h2 : b < a
    · rw [if_pos h2]; omega
    · rw [if_neg h2]; omega
theorem cmpI_cmp : IsCmp cmpI where
  zero a b := by
    unfold cmpI
    by_cases h1 : a < b
    · rw [if_pos h1]; omega
    · rw [if_neg h1]
      by_cases h2 : b < a
      · rw [if_pos h2]; omega
      · rw [if_neg h2]; omega
  anti a b := by
    rw [cmpI_lt]
    unfold cmpI
    by_cases h1 : b < a
    · rw [if_pos h1]; omega
    · rw [if_neg h1]
      by_cases h2 : a < b
      · rw [if_pos h2]; omega
      · rw [if_neg h2]; omega
  trans a b c h1 h2 := by
    rw [cmpI_lt] at *
    omega
theorem cmpKey_cmp : IsCmp cmpKey := cmpS_cmp.lex cmpS_cmp

/-- Two sorted permutations of one another are one. -/
theorem sorted_unique {α : Type} {c : α → α → Int} (h : IsCmp c) : ∀ (l l' : List α), l.Perm l' → l.Pairwise (fun a b => Go.Proofs.ltOf c b a = false) → l'.Pairwise (fun a b => Go.Proofs.ltOf c b a = false) → l = l'
  | [], l', hp, _, _ => (List.nil_perm.1 hp).symm
  | a :: r, [], hp, _, _ => by simpa using hp.length_eq
  | a :: r, b :: s, hp, h1, h2 => by
    obtain ⟨h1a, h1b⟩ := List.pairwise_cons.1 h1
    obtain ⟨h2a, h2b⟩ := List.pairwise_cons.1 h2
    have hab : a = b := by
      rcases List.mem_cons.1 (hp.mem_iff.1 List.mem_cons_self) with e | e
      · exact e
      · rcases List.mem_cons.1 (hp.symm.mem_iff.1 (List.mem_cons_self (a := b) (l := s))) with e2 | e2
        · exact e2.symm
        · have x1 := h1a b e2
          have x2 := h2a a e
          simp only [Go.Proofs.ltOf, decide_eq_false_iff_not] at x1 x2
          refine Classical.byContradiction fun hne => ?_
          rcases h.total hne with h3 | h3
          · exact x2 h3
          · exact x1 h3
    subst hab
    rw [sorted_unique h r s (hp.cons_inv) h1b h2b]
/-- Strictly rising. -/
theorem rising_of_sorted {α : Type} {c : α → α → Int} (h : IsCmp c) {l : List α} (hs : l.Pairwise (fun a b => Go.Proofs.ltOf c b a = false)) (hn : l.Nodup) : l.Pairwise (fun a b => c a b < 0) := by
  have := hs.and hn
  refine this.imp (fun {a b} ⟨h1, h2⟩ => ?_)
  simp only [Go.Proofs.ltOf, decide_eq_false_iff_not] at h1
  rcases h.total h2 with h3 | h3
  · exact h3
  · exact absurd h3 h1
end Go.Proofs.Ytmhmjbggjbeikaa
