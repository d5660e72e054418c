/- What LinkOrders asks, plainly: links at once or one by one; the place of each number in the order. No program in sight. -/
import Derived.Test.YtpkhmhfgnpnpfaaGraF
namespace Go.Proofs.Ytpkhmhfgnpnpfaa

/-! ### links of kind 1 -/
def WithOk (G : Gra) : Prop := ∀ x ∈ G.ls, x.kind = 1 → G.c.f x.src = G.c.f x.dst
theorem merge_keeps {c : Cls} {a b i j : Int} (h : c.f i = c.f j) : (mergeC c a b).f i = (mergeC c a b).f j := by rw [mergeC_f, mergeC_f, h]
theorem with_keeps : ∀ (l : List PLink) {c : Cls} {i j : Int}, c.f i = c.f j → (withC c l).f i = (withC c l).f j
  | [], _, _, _, h => h
  | x :: l, c, i, j, h => by
    rw [withC]
    refine with_keeps l ?_
    split
    · exact merge_keeps h
    · exact h
theorem merge_one (c : Cls) (i j : Int) : (mergeC c (c.f i) (c.f j)).f i = (mergeC c (c.f i) (c.f j)).f j := by
  rw [mergeC_f, mergeC_f]
  by_cases h : c.f i = c.f j
  · rw [if_neg (fun e => e.1 h), if_neg (fun e => e.1 h), h]
  · rcases Int.le_total (c.f i) (c.f j) with h1 | h1
    · rw [Int.max_eq_right h1, Int.min_eq_left h1, if_neg (fun e => h e.2), if_pos ⟨h, rfl⟩]
    · rw [Int.max_eq_left h1, Int.min_eq_right h1, if_pos ⟨h, rfl⟩, if_neg (fun e => h e.2.symm)]
theorem with_joins : ∀ (l : List PLink) (c : Cls), ∀ x ∈ l, x.kind = 1 → (withC c l).f x.src = (withC c l).f x.dst
  | [], _, x, hx, _ => by simp at hx
  | y :: l, c, x, hx, hk => by
    rw [withC]
    rcases List.mem_cons.1 hx with rfl | hx
    · rw [if_pos hk]
      exact with_keeps l (merge_one c _ _)
    · exact with_joins l _ x hx hk
theorem withOk_new (n : Nat) : WithOk ⟨freshC n, []⟩ := fun x hx => by simp at hx
theorem withOk_add {G : Gra} (h : WithOk G) (l : List PLink) : WithOk (addG G l) := by
  unfold addG
  split
  · intro x hx hk
    rcases List.mem_append.1 hx with hx | hx
    · exact with_keeps l (h x hx hk)
    · exact with_joins l _ x hx hk
  · exact h

/-! ### one by one, and at once -/
theorem addG_one {c : Cls} {p : List PLink} {x : PLink} (h : tryG ⟨withC c p, p⟩ [x] = 0) : addG ⟨withC c p, p⟩ [x] = ⟨withC c (p ++ [x]), p ++ [x]⟩ := by
  unfold addG
  rw [if_pos h, withC_append]
theorem at_once {c : Cls} {l : List PLink} (h : OkG ⟨withC c l, l⟩) (hf : FullG ⟨withC c l, l⟩) : tryG ⟨c, []⟩ l = 0 := by
  have h1 : ¬ (([] : List PLink).length + l.length > 120) := by
    have := h.few
    simp at this ⊢
    exact this
  unfold tryG
  rw [if_neg h1, if_neg, if_neg, if_neg]
  · unfold circleG
    exact fun hn => hn hf
  · rintro ⟨x, hx, hb⟩
    exact h.good x hx hb
  · rintro ⟨x, hx, hb⟩
    refine hb ?_
    have := h.inn x hx
    unfold linkIn at this ⊢
    rwa [withC_n] at this

/-! ### places -/
def idxI : List Int → Int → Nat → Int
  | [], _, _ => -1
  | x :: r, v, n => if x = v then n else idxI r v (n + 1)
theorem idxI_none : ∀ {l : List Int} {v : Int} (n : Nat), v ∉ l → idxI l v n = -1
  | [], _, _, _ => rfl
  | x :: r, v, n, h => by
    unfold idxI
    rw [if_neg (fun e : x = v => h (e ▸ List.mem_cons_self)), idxI_none _ (fun e => h (List.mem_cons_of_mem _ e))]
theorem idxI_at : ∀ {l : List Int} {v : Int} {k : Nat} (n : Nat), l.Nodup → l[k]? = some v → idxI l v n = ((n + k : Nat) : Int)
  | [], _, _, _, _, h => by simp at h
  | x :: r, v, 0, n, _, h => by
    simp at h
    unfold idxI
    rw [if_pos h]; rfl
  | x :: r, v, k + 1, n, hn, h => by
    obtain ⟨h1, h2⟩ := List.nodup_cons.1 hn
    have hm : v ∈ r := List.mem_of_getElem? (by simpa using h)
    unfold idxI
    rw [if_neg (fun e : x = v => h1 (e ▸ hm)), idxI_at (k := k) (n + 1) h2 (by simpa using h)]
    congr 1
    omega
theorem idxI_pos {l : List Int} {v : Int} (hn : l.Nodup) (h : v ∈ l) : 0 ≤ idxI l v 0 := by
  obtain ⟨k, hk⟩ := List.getElem?_of_mem h
  rw [idxI_at 0 hn hk]
  omega
/-- The place of v, i classes of the order being done, and of the next one k numbers. -/
def placeOf (c : Cls) (ord : List Int) (i k : Nat) (v : Int) : Int := if v ∈ (classC c (ord.getD i 0)).take k then (i : Int) else idxI (ord.take i) (c.f v) 0
theorem place_start (c : Cls) (ord : List Int) (v : Int) : placeOf c ord 0 0 v = -1 := by simp [placeOf, idxI]
theorem ord_class {c : Cls} {ord : List Int} (h : OkC c) (hh : ∀ a ∈ ord, isHead c a) {i : Nat} {a v : Int} (ha : ord[i]? = some a) : v ∈ classC c a ↔ c.f v = a := by
  have hd := hh a (List.mem_of_getElem? ha)
  rw [mem_classC h, hd.2.2]
  have := hd.1
  exact ⟨fun h => h.2, fun h => ⟨by omega, h⟩⟩
theorem place_fresh {c : Cls} {ord : List Int} (h : OkC c) (hn : ord.Nodup) (hh : ∀ a ∈ ord, isHead c a) {i k : Nat} {a v : Int} (ha : ord[i]? = some a) (hv : (classC c a)[k]? = some v) : placeOf c ord i k v = -1 := by
  have hg : ord.getD i 0 = a := by simp [List.getD_eq_getElem?_getD, ha]
  have hf := (ord_class h hh ha).1 (List.mem_of_getElem? hv)
  unfold placeOf
  rw [hg, if_neg, idxI_none]
  · rw [hf]
    intro hm
    obtain ⟨j, hj⟩ := List.getElem?_of_mem hm
    rw [List.getElem?_take] at hj
    split at hj
    · obtain ⟨q1, q2⟩ := List.getElem?_eq_some_iff.1 hj
      obtain ⟨q3, q4⟩ := List.getElem?_eq_some_iff.1 ha
      exact List.pairwise_iff_getElem.1 hn j i q1 q3 (by assumption) (q2.trans q4.symm)
    · cases hj
  · intro hm
    obtain ⟨j, hj⟩ := List.getElem?_of_mem hm
    rw [List.getElem?_take] at hj
    split at hj
    · obtain ⟨q1, q2⟩ := List.getElem?_eq_some_iff.1 hj
      obtain ⟨q3, q4⟩ := List.getElem?_eq_some_iff.1 hv
      have := List.pairwise_iff_getElem.1 (classC_rise c a) j k q1 q3 (by assumption)
      omega
    · cases hj
theorem place_set {c : Cls} {ord : List Int} {i k : Nat} {a v u : Int} (ha : ord[i]? = some a) (hv : (classC c a)[k]? = some v) : placeOf c ord i (k + 1) u = if u = v then (i : Int) else placeOf c ord i k u := by
  have hg : ord.getD i 0 = a := by simp [List.getD_eq_getElem?_getD, ha]
  unfold placeOf
  rw [hg]
  obtain ⟨q1, q2⟩ := List.getElem?_eq_some_iff.1 hv
  rw [List.take_succ_eq_append_getElem q1, q2]
  by_cases e : u = v
  · subst e; simp
  · simp [e]
theorem place_next {c : Cls} {ord : List Int} (h : OkC c) (hn : ord.Nodup) (hh : ∀ a ∈ ord, isHead c a) {i : Nat} {a u : Int} (ha : ord[i]? = some a) : placeOf c ord i (classC c a).length u = placeOf c ord (i + 1) 0 u := by
  have hg : ord.getD i 0 = a := by simp [List.getD_eq_getElem?_getD, ha]
  unfold placeOf
  rw [hg, List.take_length]
  obtain ⟨q1, q2⟩ := List.getElem?_eq_some_iff.1 ha
  have hn' : (ord.take (i + 1)).Nodup := List.Nodup.sublist (List.take_sublist _ _) hn
  by_cases e : u ∈ classC c a
  · have hf := (ord_class h hh ha).1 e
    rw [if_pos e, if_neg (by simp), hf, idxI_at (k := i) 0 hn' (by rw [List.getElem?_take, if_pos (by omega)]; exact ha)]
    simp
  · rw [if_neg e, if_neg (by simp)]
    have hf : c.f u ≠ a := fun e2 => e ((ord_class h hh ha).2 e2)
    by_cases hm : c.f u ∈ ord.take i
    · obtain ⟨j, hj⟩ := List.getElem?_of_mem hm
      have hj2 : j < i ∧ ord[j]? = some (c.f u) := by
        rw [List.getElem?_take] at hj
        split at hj
        · exact ⟨by assumption, hj⟩
        · cases hj
      rw [idxI_at 0 (List.Nodup.sublist (List.take_sublist _ _) hn) hj, idxI_at (k := j) 0 hn' (by rw [List.getElem?_take, if_pos (by omega)]; exact hj2.2)]
    · rw [idxI_none _ hm, idxI_none]
      rw [List.take_succ_eq_append_getElem q1, q2, List.mem_append, List.mem_singleton]
      exact fun e => e.elim hm hf
theorem place_end (c : Cls) (ord : List Int) (v : Int) : placeOf c ord ord.length 0 v = idxI ord (c.f v) 0 := by
  unfold placeOf
  rw [if_neg (by simp), List.take_length]
/-- What the places of a full order say of links. -/
theorem place_link {G : Gra} (h : OkG G) (hf : FullG G) (hw : WithOk G) {x : PLink} (hx : x ∈ G.ls) :
    (x.kind = 1 → idxI (orderC G.c G.ls) (G.c.f x.src) 0 = idxI (orderC G.c G.ls) (G.c.f x.dst) 0) ∧ (x.kind = 2 → idxI (orderC G.c G.ls) (G.c.f x.src) 0 < idxI (orderC G.c G.ls) (G.c.f x.dst) 0) := by
  refine ⟨fun hk => by rw [hw x hx hk], fun hk => ?_⟩
  have hl := h.inn x hx
  obtain ⟨i, j, hi, hj, hij⟩ := full_order hf hx hk (isHead_f h.ok hl.2.1 hl.2.2)
  have hn := (orderC_walked (c := G.c) (ls := G.ls)).nodup
  rw [idxI_at 0 hn hi, idxI_at 0 hn hj]
  omega
theorem place_all {G : Gra} (h : OkG G) (hf : FullG G) {v : Int} (h1 : 1 ≤ v) (h2 : v ≤ (G.c.n : Int)) : 0 ≤ idxI (orderC G.c G.ls) (G.c.f v) 0 :=
  idxI_pos (orderC_walked (c := G.c) (ls := G.ls)).nodup ((full_mem hf).2 (isHead_f h.ok h1 h2))
end Go.Proofs.Ytpkhmhfgnpnpfaa
