/- Graphs whose order is full: what their links say of heads; near numbers. Plain, no program in sight. -/
import Derived.Test.YtpkhmhfgnpnpfaaGraO
namespace Go.Proofs.Ytpkhmhfgnpnpfaa

/-- The classes have an order. -/
def FullG (G : Gra) : Prop := (orderC G.c G.ls).length = (headsC G.c).length
theorem full_new (n : Nat) : FullG ⟨freshC n, []⟩ := by
  unfold FullG
  have hw := orderC_walked (c := freshC n) (ls := [])
  refine Nat.le_antisymm hw.length ?_
  refine List.Nodup.length_le_of_subset (rise_nodup (headsC_rise _)) fun h hh => ?_
  have hend := orderC_end (c := freshC n) (ls := [])
  rw [List.find?_eq_none] at hend
  have h1 := hend h hh
  refine Classical.byContradiction fun hn => h1 ?_
  rw [readyC_iff]
  exact ⟨hn, by simp⟩
theorem full_order {G : Gra} (h : FullG G) {x : PLink} (hx : x ∈ G.ls) (hk : x.kind = 2) (hd : isHead G.c (G.c.f x.dst)) :
    ∃ i j : Nat, (orderC G.c G.ls)[i]? = some (G.c.f x.src) ∧ (orderC G.c G.ls)[j]? = some (G.c.f x.dst) ∧ i < j := by
  have hw := orderC_walked (c := G.c) (ls := G.ls)
  obtain ⟨j, hj⟩ := List.getElem?_of_mem ((full_mem h).2 hd)
  have hb := hw.before j _ hj x hx hk rfl
  obtain ⟨i, hi⟩ := List.getElem?_of_mem hb
  rw [List.getElem?_take] at hi
  split at hi
  · exact ⟨i, j, hi, hj, by assumption⟩
  · cases hi
theorem full_ne {G : Gra} (h : FullG G) {x : PLink} (hx : x ∈ G.ls) (hk : x.kind = 2) (hd : isHead G.c (G.c.f x.dst)) : G.c.f x.src ≠ G.c.f x.dst := fun e => by
  obtain ⟨i, j, hi, hj, hij⟩ := full_order h hx hk hd
  rw [e] at hi
  have hn := List.pairwise_iff_getElem.1 (orderC_walked (c := G.c) (ls := G.ls)).nodup
  obtain ⟨q1, q2⟩ := List.getElem?_eq_some_iff.1 hi
  obtain ⟨q3, q4⟩ := List.getElem?_eq_some_iff.1 hj
  exact hn i j q1 q3 hij (q2.trans q4.symm)
theorem full_add {G : Gra} (h : FullG G) (l : List PLink) : FullG (addG G l) := by
  unfold addG
  split
  · rename_i h0
    unfold tryG at h0
    split at h0
    · cases h0
    · split at h0
      · cases h0
      · split at h0
        · cases h0
        · split at h0
          · cases h0
          · rename_i hc
            unfold circleG at hc
            exact Classical.not_not.1 hc
  · exact h
theorem mem_near {c : Cls} (h : OkC c) {ls : List PLink} {a : Bool} {i j : Int} (hin : ∀ x ∈ ls, linkIn c x) :
    j ∈ nearC c ls a i ↔ c.f i ≠ 0 ∧ ∃ x ∈ ls, x.kind = 2 ∧ (if a then c.f x.dst = c.f i ∧ c.f x.src = c.f j else c.f x.src = c.f i ∧ c.f x.dst = c.f j) := by
  unfold nearC
  by_cases h0 : c.f i = 0
  · rw [if_pos h0]; simp [h0]
  · rw [if_neg h0, List.mem_filter, mem_nums, List.any_eq_true]
    constructor
    · rintro ⟨_, x, hx, hb⟩
      refine ⟨h0, x, hx, ?_⟩
      cases a <;> simp at hb ⊢ <;> exact hb
    · rintro ⟨_, x, hx, hk, hb⟩
      have hl := hin x hx
      refine ⟨?_, x, hx, ?_⟩
      · refine (h.pos_iff j).1 ?_
        cases a
        · simp at hb
          rw [← hb.2]
          have := h.pos hl.2.1 hl.2.2
          omega
        · simp at hb
          rw [← hb.2]
          have := h.pos hl.1.1 hl.1.2
          omega
      · cases a <;> simp at hb ⊢ <;> exact ⟨hk, hb⟩
/-- What LinkNear asks. -/
theorem near_back {G : Gra} (h : OkG G) {i j : Int} (hj : j ∈ nearC G.c G.ls true i) : i ∈ nearC G.c G.ls false j ∨ ¬ (1 ≤ i ∧ i ≤ (G.c.n : Int)) := by
  obtain ⟨h1, x, hx, hk, hb⟩ := (mem_near h.ok h.inn).1 hj
  simp at hb
  refine .inl ((mem_near h.ok h.inn).2 ⟨?_, x, hx, hk, ?_⟩)
  · rw [← hb.2]
    have hl := h.inn x hx
    have := h.ok.pos hl.1.1 hl.1.2
    omega
  · simp [hb]
theorem near_apart {G : Gra} (h : OkG G) (hf : FullG G) {i j : Int} (hj : j ∈ nearC G.c G.ls true i) : G.c.f j ≠ G.c.f i := fun e => by
  obtain ⟨h1, x, hx, hk, hb⟩ := (mem_near h.ok h.inn).1 hj
  simp at hb
  have hl := h.inn x hx
  refine full_ne hf hx hk (isHead_f h.ok hl.2.1 hl.2.2) ?_
  rw [hb.1, hb.2, e]
theorem near_class {G : Gra} (h : OkG G) {i j k : Int} (hj : j ∈ nearC G.c G.ls true i) (hk : k ∈ classC G.c j) : k ∈ nearC G.c G.ls true i := by
  obtain ⟨h1, x, hx, hx2, hb⟩ := (mem_near h.ok h.inn).1 hj
  have hc := ((mem_classC h.ok).1 hk).2
  refine (mem_near h.ok h.inn).2 ⟨h1, x, hx, hx2, ?_⟩
  simp at hb ⊢
  exact ⟨hb.1, hb.2.trans hc.symm⟩
end Go.Proofs.Ytpkhmhfgnpnpfaa
