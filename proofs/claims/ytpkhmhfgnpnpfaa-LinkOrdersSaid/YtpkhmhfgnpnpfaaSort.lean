/- slices.SortFunc over a row of the call's own, elements of k cells: in the words of ownsRow. -/
import Derived.Test.YtpkhmhfgnpnpfaaCore
import Derived.Shelf.SlSortCmp.WholeK
import Derived.Shelf.SlSortCmp.NoneTotal
namespace Go.Proofs.Ytpkhmhfgnpnpfaa
open Go.RowKit Go.Shelf Go.Lib Go.Sort

section
variable {α : Type} [Inhabited α]

theorem flat_get (enc : α → List Value) (k : Nat) (hk : ∀ x, (enc x).length = k) : ∀ (l : List α) (t : Nat), t < l.length * k → (l.flatMap enc)[t]? = (enc (l.toArray[t / k]!))[t % k]?
  | [], t, h => by simp at h
  | x :: r, t, h => by
    have k0 : 0 < k := by rcases Nat.eq_zero_or_pos k with h0 | h0; · subst h0; simp at h
                          · exact h0
    rw [List.flatMap_cons]
    by_cases ht : t < k
    · rw [List.getElem?_append_left (by rw [hk]; exact ht), Nat.div_eq_of_lt ht, Nat.mod_eq_of_lt ht]
      simp
    · obtain ⟨s, rfl⟩ : ∃ s, t = s + k := ⟨t - k, by omega⟩
      rw [List.getElem?_append_right (by rw [hk]; omega), hk, Nat.add_sub_cancel, Nat.add_div_right _ k0, Nat.add_mod_right,
        flat_get enc k hk r s (by simp only [List.length_cons, Nat.add_mul, Nat.one_mul] at h; omega)]
      congr 2
      simp only [List.getElem!_toArray]
      simp [getElem!_def]

omit [Inhabited α] in
theorem flat_length (enc : α → List Value) (k : Nat) (hk : ∀ x, (enc x).length = k) (l : List α) : (l.flatMap enc).length = l.length * k := by
  induction l with
  | nil => simp
  | cons x r ih => rw [List.flatMap_cons, List.length_append, hk, ih, List.length_cons, Nat.add_mul, Nat.one_mul, Nat.add_comm]

theorem flatK_eq (enc : α → List Value) (k : Nat) (hk : ∀ x, (enc x).length = k) (d : Array α) : (flatK enc k d).toList = d.toList.flatMap enc := by
  have hlen : (d.toList.flatMap enc).length = d.size * k := by
    rw [flat_length enc k hk]
    simp
  apply List.ext_getElem?
  intro t
  by_cases ht : t < d.size * k
  · have k0 : 0 < k := by rcases Nat.eq_zero_or_pos k with h0 | h0; · subst h0; simp at ht
                          · exact h0
    rw [flat_get enc k hk d.toList t (by simpa using ht)]
    have e1 : (flatK enc k d)[t]? = some (flatK enc k d)[t]! := by
      rw [Array.getElem?_eq_getElem (show t < (flatK enc k d).size by simpa using ht), getElem!_pos (flatK enc k d) t (by simpa using ht)]
    rw [Array.getElem?_toList, e1, get_flatK enc k d t ht]
    have hm : t % k < (enc d[t / k]!).length := by rw [hk]; exact Nat.mod_lt _ k0
    simp only [Array.toArray_toList]
    rw [List.getElem?_eq_getElem hm, getElem!_pos (enc d[t / k]!) (t % k) hm]
  · rw [List.getElem?_eq_none (by simp; omega), List.getElem?_eq_none (by omega)]

omit [Inhabited α] in
theorem ownsRow_flat {w : World} {base : Nat} {e : TypeId} {k : Nat} {v : Value} {l : List α} {enc : α → List Value} (h : w.ownsRow base e k v l.length (l.flatMap enc)) (hne : l ≠ []) :
    ∃ g cap cur, v = .slice (some ⟨g, 0, none⟩) l.length cap ∧ base ≤ g ∧ w.heap[g]? = some (.cells cur e (0, 0)) ∧ l.length ≤ cap ∧ cap ≤ maxLen ∧ cur.size = cap * k ∧ cur.toList.take (l.length * k) = l.flatMap enc := by
  obtain ⟨_, ⟨_, h0⟩ | h⟩ := h
  · exact absurd (List.eq_nil_of_length_eq_zero h0) hne
  · exact h

theorem putCells_take (F : Array Value) (c : Array Value) (h : F.size ≤ c.size) : (putCells id 0 F c).toList.take F.size = F.toList := by
  apply List.ext_getElem?
  intro t
  rw [List.getElem?_take]
  by_cases ht : t < F.size
  · rw [if_pos ht, Array.getElem?_toList, Array.getElem?_toList]
    unfold putCells
    rw [Array.getElem?_mapIdx, Array.getElem?_eq_getElem (show t < c.size by omega), Array.getElem?_eq_getElem ht]
    simp [ht]
  · rw [if_neg ht, List.getElem?_eq_none (by simp; omega)]

/-- slices.SortFunc. -/
theorem sort_row {P : Program} {ρ : Ren} (L : SlLaysF0.n6 P ρ) (k : Nat) (aE : ∀ w, (isAgg (ρ.t 24)).run P w = .ok true w) (zE : ∀ w, (Go.sizeOf (ρ.t 24)).run P w = .ok k w)
    (enc : α → List Value) (hk : ∀ x, (enc x).length = k) (h1 : ∀ x, ∀ v ∈ enc x, v.oneCell' = true) (cf : α → α → Int) (hO : SWO (ltOf cf)) (g : Nat)
    (eg : ∀ args w, (callFunc g args).run P w = .ok (.enter g args) w)
    (hcmp : ∀ (x y : α) (W : World), Calls P g #[.agg (enc x).toArray, .agg (enc y).toArray] W fun e w' => e = .returned (.int .i64 (cf x y)) ∧ ∃ q os, w' = grow (W.drewN q) os)
    (base : Nat) (e : TypeId) (v : Value) (l : List α) (w : World) (hown : w.ownsRow base e k v l.length (l.flatMap enc)) (hsz : l.length < 4611686018427387904) :
    Calls P (ρ.f 6) #[v, .func (.func g) #[] #[]] w fun r w' => r = .returned (.tuple #[]) ∧ ∃ l' : List α, l'.Perm l ∧ l'.Pairwise (fun a b => ltOf cf b a = false) ∧ w'.ownsRow base e k v l'.length (l'.flatMap enc) ∧ Frm (fun j => v.ownBlock = some j) w w' := by
  by_cases hne : l = []
  · subst hne
    obtain ⟨p, cap, rfl⟩ : ∃ p cap, v = .slice p 0 cap := by
      rcases hown.2 with ⟨rfl, _⟩ | ⟨g, cap, cur, rfl, _⟩
      · exact ⟨none, 0, rfl⟩
      · exact ⟨some ⟨g, 0, none⟩, cap, rfl⟩
    refine (AnyF.slices_SortFunc_none L p cap _ w).mono fun r w' ⟨hr, hw⟩ => ⟨hr, [], List.Perm.refl _, List.Pairwise.nil, ?_, ?_⟩
    · rw [hw]; exact hown
    · rw [hw]; exact Frm.refl _ _
  · obtain ⟨b, cap, cur, rfl, hb, hheap, hlc, hcm, hcs, htake⟩ := ownsRow_flat hown hne
    have hblk : b < w.heap.size := (Array.getElem?_eq_some_iff.1 hheap).1
    have hFs : (flatK enc k l.toArray).size ≤ cur.size := by
      rw [size_flatK, hcs]
      simpa using Nat.mul_le_mul_right k hlc
    have hF : (flatK enc k l.toArray).toList = cur.toList.take (l.length * k) := by rw [flatK_eq enc k hk, htake]
    have hH : HoldsK enc k w b 0 l.toArray := by
      intro j hj
      have hj' : j < l.length * k := by simpa using hj
      have e1 : cur[j]? = some (flatK enc k l.toArray)[j]! := by
        have e0 : (flatK enc k l.toArray)[j]? = some (flatK enc k l.toArray)[j]! := by rw [Array.getElem?_eq_getElem hj, getElem!_pos _ j hj]
        rw [← e0, ← Array.getElem?_toList, ← Array.getElem?_toList, hF, List.getElem?_take, if_pos hj']
      constructor
      · rw [Nat.zero_add, cell_of_row w b j cur e (0, 0) hheap, e1]; rfl
      · simp [World.frozen?, hheap]
    have hcl : CmpLays P g #[] enc k cf b 0 l.toArray.size w := fun m os dk _ x y => by
      have := hcmp x y (sortWorldK enc k w b 0 m dk os)
      simpa using this
    have hS := AnyQ.slices_SortFunc L k aE zE enc hk h1 cf hO g #[] b 0 cap l.toArray w eg hcl hH hblk (by simpa using hsz)
    simp only [List.size_toArray] at hS
    refine hS.mono fun r w' ⟨hr, d', n, os, hp, hs, hw⟩ => ⟨hr, d'.toList, ?_, ?_, ?_, ?_⟩
    · have := hp.2.2
      have e1 : (d'.extract 0 l.length).toList = d'.toList := by
        have : d'.size = l.length := by simpa using hp.1
        simp [← this]
      have e2 : (l.toArray.extract 0 l.length).toList = l := by simp
      rw [e1, e2] at this
      exact this
    · rw [List.pairwise_iff_getElem]
      intro i j hi hj hij
      have hd : d'.size = l.length := by simpa using hp.1
      have := hs i j (Nat.zero_le _) hij (by rw [← hd]; simpa using hj)
      rw [getElem!_pos d' i (by simpa using hi), getElem!_pos d' j (by simpa using hj)] at this
      simpa using this
    · have hd : d'.size = l.length := by simpa using hp.1
      have hdl : d'.toList.length = l.length := by simpa using hd
      have hrow : w'.heap[b]? = some (.cells (putCells id 0 (flatK enc k d') cur) e (0, 0)) := by
        rw [hw]
        unfold sortWorldK putRowK putRow
        rw [heap_grow_old _ _ (by simpa [mapBlock, Sort.ahead] using hblk)]
        simp only [mapBlock, Sort.ahead, Array.getElem?_modify, if_true, hheap, Option.map_some, onCells]
      refine ⟨flat_length enc k hk _, .inr ⟨b, cap, _, by rw [hdl], hb, hrow, by rw [hdl]; exact hlc, hcm, by simp [putCells, hcs], ?_⟩⟩
      have hs2 : (flatK enc k d').size ≤ cur.size := by rw [size_flatK, hd, hcs]; exact Nat.mul_le_mul_right k hlc
      have := putCells_take (flatK enc k d') cur hs2
      rw [size_flatK, flatK_eq enc k hk] at this
      simpa using this
    · refine ⟨by rw [hw]; rfl, by rw [hw]; rfl, by rw [hw]; rfl, by rw [hw]; exact size_sortWorldK_c enc k w b 0 n d' os, fun j hj hn => ?_⟩
      have hjb : j ≠ b := fun e1 => hn (by simp [Value.ownBlock, e1])
      rw [hw]
      unfold sortWorldK putRowK putRow
      rw [heap_grow_old _ _ (by simpa [mapBlock, Sort.ahead] using hj)]
      simp only [mapBlock, Sort.ahead, Array.getElem?_modify, if_neg (Ne.symm hjb)]
end
end Go.Proofs.Ytpkhmhfgnpnpfaa
