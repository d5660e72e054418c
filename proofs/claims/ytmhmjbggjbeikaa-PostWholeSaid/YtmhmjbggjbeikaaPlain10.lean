/- Plain laws of positions: what Add does to what Get tells, and how many keys there are. No program in sight. -/
import Derived.Test.YtmhmjbggjbeikaaGet
import Derived.Test.YtmhmjbggjbeikaaKeys
namespace Go.Proofs.Ytmhmjbggjbeikaa

theorem posGet_put (m : List (Key × Three)) (k k' : Key) (v : Three) : posGet (put m k v) k' = if k = k' then v else posGet m k' := by
  unfold posGet
  rw [look_put]
  split <;> rfl
theorem posGet_del (m : List (Key × Three)) (k k' : Key) : posGet (del m k) k' = if k = k' then (0, 0, 0) else posGet m k' := by
  unfold posGet
  rw [look_del]
  split <;> rfl
/-- The three after a change that is let in. -/
def newThree (m : List (Key × Three)) (k : Key) (sub by_ : Int) : Three := set3 (posGet m k) sub (part3 (posGet m k) sub + by_)
theorem posGet_add (m : List (Key × Three)) (k k' : Key) (sub by_ : Int) : posGet (addMap m k sub by_) k' = if addErr m k sub by_ = 0 ∧ k = k' then newThree m k sub by_ else posGet m k' := by
  unfold addMap newThree
  by_cases he : addErr m k sub by_ = 0
  · rw [if_neg (not_not_intro he)]
    by_cases h0 : set3 (posGet m k) sub (part3 (posGet m k) sub + by_) = (0, 0, 0)
    · rw [if_pos h0, posGet_del]
      by_cases hk : k = k'
      · rw [if_pos hk, if_pos ⟨he, hk⟩, h0]
      · rw [if_neg hk, if_neg (fun h => hk h.2)]
    · rw [if_neg h0, posGet_put]
      by_cases hk : k = k'
      · rw [if_pos hk, if_pos ⟨he, hk⟩]
      · rw [if_neg hk, if_neg (fun h => hk h.2)]
  · rw [if_pos he, if_neg (fun h => he h.1)]
theorem addErr_zero {m : List (Key × Three)} {k : Key} {sub by_ : Int} (h : addErr m k sub by_ = 0) : isPart sub ∧ within by_ ∧ okPart (part3 (posGet m k) sub + by_) := by
  unfold addErr at h
  split at h
  · omega
  · rename_i h1
    split at h
    · omega
    · split at h
      · omega
      · have h1' : isPart sub ∧ within by_ := Decidable.of_not_not h1
        exact ⟨h1'.1, h1'.2, by unfold okPart; omega⟩
theorem part3_set3 {sub : Int} (_h : isPart sub) (x : Three) (v : Int) : part3 (set3 x sub v) sub = v := by
  unfold part3 set3
  split
  · rfl
  · split <;> rfl
theorem set3_back {sub : Int} (x : Three) (v : Int) : set3 (set3 x sub v) sub (part3 x sub) = x := by
  obtain ⟨a, b, c⟩ := x
  unfold part3 set3
  split
  · rfl
  · split <;> rfl
theorem good_part {x : Three} (h : Good3 x) (sub : Int) : okPart (part3 x sub) := by
  unfold part3
  split
  · exact h.1
  · split
    · exact h.2.1
    · exact h.2.2
theorem good_add {m : List (Key × Three)} (h : GoodPos m) (k : Key) (sub by_ : Int) : GoodPos (addMap m k sub by_) := by
  unfold addMap
  split
  · exact h
  · rename_i he
    have he' : addErr m k sub by_ = 0 := Decidable.of_not_not he
    split
    · exact good_del h k
    · rename_i h0
      exact good_put h (good_set3 (good_get h k) (addErr_zero he').2.2) h0
theorem apart_add {m : List (Key × Three)} (h : Apart m) (k : Key) (sub by_ : Int) : Apart (addMap m k sub by_) := by
  unfold addMap
  split
  · exact h
  · split
    · exact del_apart h k
    · exact put_apart h k _
/-- Where Get tells something, the key is there. -/
theorem mem_keys {m : List (Key × Three)} (h : GoodPos m) (k : Key) : k ∈ m.map (·.1) ↔ posGet m k ≠ (0, 0, 0) := by
  unfold posGet
  cases hl : look m k with
  | none =>
    simp only [Option.getD_none]
    constructor
    · intro hm
      obtain ⟨p, hp, e⟩ := List.mem_map.1 hm
      exact absurd e (look_none.1 hl p hp)
    · intro h0; exact absurd rfl h0
  | some v =>
    simp only [Option.getD_some]
    have hv := look_some hl
    exact ⟨fun _ => (h _ hv).2, fun _ => List.mem_map.2 ⟨_, hv, rfl⟩⟩
section
variable {κ ν : Type} [DecidableEq κ]
theorem put_len_mem {m : List (κ × ν)} {k : κ} (v : ν) (h : k ∈ m.map (·.1)) : (put m k v).length = m.length := by
  have := congrArg List.length (put_keys m k v)
  rw [List.length_map, if_pos h, List.length_map] at this
  exact this
theorem put_len_not {m : List (κ × ν)} {k : κ} (v : ν) (h : k ∉ m.map (·.1)) : (put m k v).length = m.length + 1 := by
  have := congrArg List.length (put_keys m k v)
  rw [List.length_map, if_neg h, List.length_append, List.length_map] at this
  exact this
theorem del_len_mem {m : List (κ × ν)} (ha : Apart m) {k : κ} (hk : k ∈ m.map (·.1)) : (del m k).length + 1 = m.length := by
  obtain ⟨p, hp, rfl⟩ := List.mem_map.1 hk
  obtain ⟨j, hj⟩ := List.getElem?_of_mem hp
  have hjl := (List.getElem?_eq_some_iff.1 hj).1
  rw [del_present ha hj, List.length_eraseIdx_of_lt hjl]
  omega
theorem del_len_not {m : List (κ × ν)} {k : κ} (hk : k ∉ m.map (·.1)) : (del m k).length = m.length := by
  rw [del_absent (fun p hp e => hk (List.mem_map.2 ⟨p, hp, e⟩))]
end
/-- How long the list is after a change that is let in: by whether there was and is something. -/
theorem add_len {m : List (Key × Three)} (hg : GoodPos m) (ha : Apart m) {k : Key} {sub by_ : Int} (h : addErr m k sub by_ = 0) :
    (addMap m k sub by_).length + (if posGet m k = (0, 0, 0) then 0 else 1) = m.length + (if newThree m k sub by_ = (0, 0, 0) then 0 else 1) := by
  have hk := mem_keys hg k
  unfold addMap
  rw [if_neg (not_not_intro h)]
  unfold newThree
  by_cases h0 : set3 (posGet m k) sub (part3 (posGet m k) sub + by_) = (0, 0, 0)
  · rw [if_pos h0, if_pos h0]
    by_cases h1 : posGet m k = (0, 0, 0)
    · rw [if_pos h1, del_len_not (fun e => hk.1 e h1)]
    · rw [if_neg h1, del_len_mem ha (hk.2 h1)]; omega
  · rw [if_neg h0, if_neg h0]
    by_cases h1 : posGet m k = (0, 0, 0)
    · rw [if_pos h1, put_len_not _ (fun e => hk.1 e h1)]
    · rw [if_neg h1, put_len_mem _ (hk.2 h1)]
/-- What is added and taken off again. -/
theorem add_back {m : List (Key × Three)} (hg : GoodPos m) (ha : Apart m) {k : Key} {sub by_ : Int} (h : addErr m k sub by_ = 0) :
    addErr (addMap m k sub by_) k sub (-by_) = 0 ∧ okPart (posPart (addMap m k sub by_) k sub) ∧ posGet (addMap (addMap m k sub by_) k sub (-by_)) k = posGet m k ∧ (addMap (addMap m k sub by_) k sub (-by_)).length = m.length := by
  obtain ⟨hp, hw, hok⟩ := addErr_zero h
  have g1 : posGet (addMap m k sub by_) k = newThree m k sub by_ := by rw [posGet_add, if_pos ⟨h, rfl⟩]
  have p1 : part3 (newThree m k sub by_) sub = part3 (posGet m k) sub + by_ := part3_set3 hp _ _
  have hx := good_part (good_get hg k) sub
  have e2 : addErr (addMap m k sub by_) k sub (-by_) = 0 := by
    unfold addErr
    rw [g1, p1, if_neg (by unfold within at hw ⊢; simp only [hp, true_and]; omega), if_neg (by unfold okPart at hx; omega), if_neg (by unfold okPart at hx; omega)]
  have n2 : newThree (addMap m k sub by_) k sub (-by_) = posGet m k := by
    unfold newThree
    rw [g1, p1, show part3 (posGet m k) sub + by_ + -by_ = part3 (posGet m k) sub by omega]
    exact set3_back _ _
  refine ⟨e2, ?_, ?_, ?_⟩
  · unfold posPart
    rw [if_pos hp, g1, p1]
    exact hok
  · rw [posGet_add, if_pos ⟨e2, rfl⟩, n2]
  · have l1 := add_len hg ha h
    have l2 := add_len (good_add hg k sub by_) (apart_add ha k sub by_) e2
    rw [n2, g1] at l2
    omega

/-! ### Keys: the chosen are those of all that are chosen; each has something; they rise -/
theorem posKeys_filter (m : List (Key × Three)) (al : List ByteArray) : posKeys m al = (posKeys m []).filter (selKey al) := by
  have e : (m.map (·.1)).filter (selKey []) = m.map (·.1) := List.filter_eq_self.2 (fun k _ => by simp [selKey])
  refine (sortK_eq (l' := (posKeys m []).filter (selKey al)) ?_ ?_).symm
  · unfold posKeys
    rw [e]
    exact (sortK_perm _).filter _
  · unfold posKeys
    exact (sortK_sorted _).filter _
theorem filter_next {α : Type} (f : α → Bool) : ∀ (l : List α) (k : Nat) (x : α), l[k]? = some x → f x = true → (l.filter f)[((l.take k).filter f).length]? = some x ∧ ((l.take (k + 1)).filter f).length = ((l.take k).filter f).length + 1
  | [], k, x, h, _ => by simp at h
  | y :: l, 0, x, h, hf => by
    simp at h
    subst h
    simp [hf]
  | y :: l, k + 1, x, h, hf => by
    have := filter_next f l k x (by simpa using h) hf
    simp only [List.take_succ_cons, List.filter_cons]
    split
    · simp only [List.length_cons, List.getElem?_cons_succ]
      exact ⟨this.1, by rw [this.2]⟩
    · exact this
theorem filter_skip {α : Type} (f : α → Bool) : ∀ (l : List α) (k : Nat) (x : α), l[k]? = some x → f x = false → ((l.take (k + 1)).filter f).length = ((l.take k).filter f).length
  | [], k, x, h, _ => by simp at h
  | y :: l, 0, x, h, hf => by
    simp at h
    subst h
    simp [hf]
  | y :: l, k + 1, x, h, hf => by
    have := filter_skip f l k x (by simpa using h) hf
    simp only [List.take_succ_cons, List.filter_cons]
    split
    · simp only [List.length_cons]
      rw [this]
    · exact this
theorem posKeys_has {m : List (Key × Three)} (hg : GoodPos m) {al : List ByteArray} {k : Key} (h : k ∈ posKeys m al) : posGet m k ≠ (0, 0, 0) :=
  (mem_keys hg k).1 (by
    obtain ⟨⟨x, hx⟩, _⟩ := posKeys_mem.1 h
    exact List.mem_map.2 ⟨_, hx, rfl⟩)
theorem posKeys_step {m : List (Key × Three)} (ha : Apart m) {al : List ByteArray} {i : Nat} {x y : Key} (hx : (posKeys m al)[i]? = some x) (hy : (posKeys m al)[i + 1]? = some y) : cmpKey x y < 0 := by
  obtain ⟨h1, rfl⟩ := List.getElem?_eq_some_iff.1 hx
  obtain ⟨h2, rfl⟩ := List.getElem?_eq_some_iff.1 hy
  exact List.pairwise_iff_getElem.1 (posKeys_rising ha al) i (i + 1) h1 h2 (by omega)
theorem addMap_keys {m : List (Key × Three)} {k k' : Key} {sub by_ : Int} (h : k' ∈ (addMap m k sub by_).map (·.1)) : k' ∈ m.map (·.1) ∨ k' = k := by
  unfold addMap at h
  split at h
  · exact .inl h
  · split at h
    · obtain ⟨p, hp, rfl⟩ := List.mem_map.1 h
      exact .inl (List.mem_map.2 ⟨p, (List.mem_filter.1 hp).1, rfl⟩)
    · rw [put_keys] at h
      split at h
      · exact .inl h
      · rcases List.mem_append.1 h with h | h
        · exact .inl h
        · exact .inr (by simpa using h)
end Go.Proofs.Ytmhmjbggjbeikaa
