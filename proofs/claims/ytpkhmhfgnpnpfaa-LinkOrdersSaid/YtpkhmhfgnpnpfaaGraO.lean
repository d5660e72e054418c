/- Classes joined anew from their lists; the order of classes: what it holds. Plain, no program in sight. -/
import Derived.Test.YtpkhmhfgnpnpfaaGraM
namespace Go.Proofs.Ytpkhmhfgnpnpfaa

/-! ### classes joined anew -/
/-- Classes of c of some heads, joined; all other numbers by themselves. -/
def partC (c : Cls) (hs : List Int) : Cls := ⟨c.n, fun i => if c.f i ∈ hs then c.f i else if 1 ≤ i ∧ i ≤ c.n then i else 0⟩
theorem partC_nil (c : Cls) : partC c [] = freshC c.n := Cls.ext' rfl fun i => by
  rw [freshC_f]
  show (if c.f i ∈ [] then c.f i else if 1 ≤ i ∧ i ≤ c.n then i else 0) = _
  rw [if_neg (by simp)]
theorem partC_all {c : Cls} (h : OkC c) : partC c (headsC c) = c := Cls.ext' rfl fun i => by
  show (if c.f i ∈ headsC c then c.f i else if 1 ≤ i ∧ i ≤ c.n then i else 0) = _
  by_cases hi : 1 ≤ i ∧ i ≤ (c.n : Int)
  · rw [if_pos (mem_headsC.2 (isHead_f h hi.1 hi.2))]
  · have h0 := h.out i hi
    rw [if_neg hi, h0]
    split <;> rfl
/-- Some of a class joined with its head. -/
theorem join_part {c : Cls} (h : OkC c) {hs : List Int} {a : Int} (ha : isHead c a) (hn : a ∉ hs) : ∀ (l seen : List Int), (∀ i ∈ l, c.f i = a) →
    (∀ d : Cls, d.n = c.n → (∀ i, d.f i = if i ∈ seen ∧ c.f i = a then a else (partC c hs).f i) → ∃ seen' : List Int, (∀ x : Int, x ∈ seen' ↔ x ∈ seen ∨ x ∈ l) ∧ (joinC d a l).n = c.n ∧ ∀ i, (joinC d a l).f i = if i ∈ seen' ∧ c.f i = a then a else (partC c hs).f i) := by
  intro l
  induction l with
  | nil => exact fun seen _ d hd hf => ⟨seen, by simp, hd, hf⟩
  | cons i l ih =>
    intro seen hl d hd hf
    have hi := hl i List.mem_cons_self
    have h0 := ha.1
    have hin : 1 ≤ i ∧ i ≤ (c.n : Int) := (h.pos_iff i).1 (by omega)
    have hia := h.le hin.1 hin.2
    have hp : ∀ j, c.f j = a → (partC c hs).f j = if 1 ≤ j ∧ j ≤ (c.n : Int) then j else 0 := fun j hj => by
      show (if c.f j ∈ hs then c.f j else _) = _
      rw [if_neg (by rw [hj]; exact hn)]
    have hda : d.f a = a := by
      rw [hf]
      split
      · rfl
      · rw [hp a ha.2.2, if_pos ⟨ha.1, ha.2.1⟩]
    have hdi : d.f i = a ∨ d.f i = i := by
      rw [hf]
      split
      · exact .inl rfl
      · rw [hp i hi, if_pos hin]; exact .inr rfl
    obtain ⟨s', q1, q2, q3⟩ := ih (i :: seen) (fun j hj => hl j (List.mem_cons_of_mem _ hj)) (mergeC d (d.f a) (d.f i)) (by rw [mergeC_n]; exact hd) fun j => by
      rw [mergeC_f, hda]
      rcases hdi with e | e
      · rw [e, if_neg (fun h => h.1 rfl), hf]
        by_cases hji : j = i
        · subst hji
          have : d.f j = a := e
          rw [hf] at this
          rw [this, if_pos ⟨List.mem_cons_self, hi⟩]
        · have : (j ∈ i :: seen) ↔ j ∈ seen := by simp [hji]
          simp only [this]
      · rw [e]
        by_cases hai : a = i
        · subst hai
          rw [if_neg (fun h => h.1 rfl), hf]
          by_cases hji : j = a
          · subst hji
            rw [if_pos (c := j ∈ j :: seen ∧ c.f j = j) ⟨List.mem_cons_self, hi⟩]
            split
            · rfl
            · rw [hp _ ha.2.2, if_pos hin]
          · have : (j ∈ a :: seen) ↔ j ∈ seen := by simp [hji]
            simp only [this]
        · have hlt : a < i := by omega
          rw [show max a i = i by omega, show min a i = a by omega]
          by_cases hji : j = i
          · subst hji
            rw [if_pos ⟨hai, e⟩, if_pos ⟨List.mem_cons_self, hi⟩]
          · have hm : (j ∈ i :: seen) ↔ j ∈ seen := by simp [hji]
            have hdj : d.f j ≠ i := by
              rw [hf]
              split
              · exact hai
              · show (if c.f j ∈ hs then c.f j else if 1 ≤ j ∧ j ≤ (c.n : Int) then j else 0) ≠ i
                split
                · rename_i hjs
                  intro e2
                  have hcj : c.f j = i := e2
                  have hj' : 1 ≤ j ∧ j ≤ (c.n : Int) := (h.pos_iff j).1 (by omega)
                  have := h.idem hj'.1 hj'.2
                  rw [hcj, hi] at this
                  exact hai this
                · split
                  · exact hji
                  · omega
            rw [if_neg (fun h => hdj h.2), hf]
            simp only [hm]
    refine ⟨s', fun x => ?_, q2, q3⟩
    rw [q1]
    simp only [List.mem_cons]
    constructor
    · rintro ((rfl | h) | h)
      · exact .inr (.inl rfl)
      · exact .inl h
      · exact .inr (.inr h)
    · rintro (h | rfl | h)
      · exact .inl (.inr h)
      · exact .inl (.inl rfl)
      · exact .inr h
theorem join_class {c : Cls} (h : OkC c) {hs : List Int} {a : Int} (ha : isHead c a) (hn : a ∉ hs) : joinL (partC c hs) (classC c a) = partC c (hs ++ [a]) := by
  obtain ⟨r, hr⟩ := classC_head h ha
  have hmem : ∀ i, i ∈ classC c a ↔ c.f i = a := fun i => by
    rw [mem_classC h, ha.2.2]
    have := ha.1
    exact ⟨fun h => h.2, fun h => ⟨by omega, h⟩⟩
  obtain ⟨s', q1, q2, q3⟩ := join_part h ha hn (classC c a) [] (fun i hi => (hmem i).1 hi) (partC c hs) rfl (fun i => by rw [if_neg (by simp)])
  have : joinL (partC c hs) (classC c a) = joinC (partC c hs) a (classC c a) := by rw [hr]; rfl
  rw [this]
  refine Cls.ext' q2 fun i => ?_
  rw [q3]
  show _ = if c.f i ∈ hs ++ [a] then c.f i else if 1 ≤ i ∧ i ≤ (c.n : Int) then i else 0
  by_cases e : c.f i = a
  · rw [if_pos ⟨(q1 i).2 (.inr ((hmem i).2 e)), e, ⟩, if_pos (by simp [e]), e]
  · rw [if_neg (fun h => e h.2)]
    show (if c.f i ∈ hs then c.f i else _) = _
    by_cases e2 : c.f i ∈ hs
    · rw [if_pos e2, if_pos (by simp [e2])]
    · rw [if_neg e2, if_neg (c := c.f i ∈ hs ++ [a]) (by simp [e2, e])]

theorem join_classes {c : Cls} (h : OkC c) : ∀ (l hs : List Int), (∀ a ∈ l, isHead c a) → (hs ++ l).Nodup → (l.map (classC c)).foldl joinL (partC c hs) = partC c (hs ++ l)
  | [], hs, _, _ => by simp
  | a :: l, hs, hl, hn => by
    have hn' : (hs ++ [a] ++ l).Nodup := by simpa using hn
    have ha : a ∉ hs := by
      intro hm
      have := (List.nodup_append.1 hn).2.2 a hm a List.mem_cons_self
      exact this rfl
    rw [List.map_cons, List.foldl_cons, join_class h (hl a List.mem_cons_self) ha, join_classes h l _ (fun b hb => hl b (List.mem_cons_of_mem _ hb)) hn']
    simp
/-- What joined makes of its own classes: those classes. -/
theorem joined_same {c : Cls} (h : OkC c) : (classesC c).foldl joinL (freshC c.n) = c := by
  have := join_classes h (headsC c) [] (fun a ha => mem_headsC.1 ha) (by simpa using rise_nodup (headsC_rise c))
  rw [partC_nil] at this
  rw [classesC, this, List.nil_append, partC_all h]

/-! ### the order -/
section
variable {c : Cls} {ls : List PLink}
/-- What is done comes in an order that the links allow. -/
structure Walked (c : Cls) (ls : List PLink) (done : List Int) : Prop where
  nodup : done.Nodup
  heads : ∀ h ∈ done, isHead c h
  before : ∀ (i : Nat) (h : Int), done[i]? = some h → ∀ x ∈ ls, x.kind = 2 → c.f x.dst = h → c.f x.src ∈ done.take i
theorem walked_nil : Walked c ls [] := ⟨List.nodup_nil, by simp, by simp⟩
theorem Walked.step {done : List Int} (h : Walked c ls done) {a : Int} (ha : isHead c a) (hr : readyC c ls done a = true) : Walked c ls (done ++ [a]) := by
  obtain ⟨r1, r2⟩ := readyC_iff.1 hr
  refine ⟨List.nodup_append.2 ⟨h.nodup, by simp, fun x hx y hy => by simp at hy; subst hy; exact fun e => r1 (e ▸ hx)⟩, fun x hx => ?_, fun i x hi y hy hk hd => ?_⟩
  · rcases List.mem_append.1 hx with hx | hx
    · exact h.heads x hx
    · simp at hx; subst hx; exact ha
  · by_cases hlt : i < done.length
    · rw [List.getElem?_append_left hlt] at hi
      rw [List.take_append_of_le_length (by omega)]
      exact h.before i x hi y hy hk hd
    · have hil : i = done.length := by
        have := (List.getElem?_eq_some_iff.1 hi).1
        simp at this
        omega
      subst hil
      simp at hi
      subst hi
      rw [List.take_append_of_le_length (Nat.le_refl _), List.take_length]
      exact r2 y hy hk hd
theorem Walked.length {done : List Int} (h : Walked c ls done) : done.length ≤ (headsC c).length := by
  exact List.Nodup.length_le_of_subset h.nodup fun x hx => mem_headsC.2 (h.heads x hx)
theorem find_head {done : List Int} {a : Int} (h : (headsC c).find? (readyC c ls done) = some a) : isHead c a ∧ readyC c ls done a = true := ⟨mem_headsC.1 (List.mem_of_find?_eq_some h), List.find?_some h⟩
/-- One step of the order, whatever is done. -/
theorem orderN_step (k : Nat) {done : List Int} (h : Walked c ls done) (hk : (headsC c).length ≤ k + done.length) :
    orderN c ls k done = match (headsC c).find? (readyC c ls done) with
      | none => done
      | some a => orderN c ls (k - 1) (done ++ [a]) := by
  cases k with
  | zero =>
    cases hf : (headsC c).find? (readyC c ls done) with
    | none => rfl
    | some a =>
      obtain ⟨h1, h2⟩ := find_head hf
      have := (h.step h1 h2).length
      simp at this
      omega
  | succ k => rfl
theorem orderN_walked : ∀ (k : Nat) {done : List Int}, Walked c ls done → Walked c ls (orderN c ls k done)
  | 0, _, h => h
  | k + 1, done, h => by
    rw [orderN]
    cases hf : (headsC c).find? (readyC c ls done) with
    | none => exact h
    | some a => exact orderN_walked k (h.step (find_head hf).1 (find_head hf).2)
theorem orderC_walked : Walked c ls (orderC c ls) := orderN_walked _ walked_nil
theorem orderN_end : ∀ (k : Nat) {done : List Int}, Walked c ls done → (headsC c).length ≤ k + done.length → (headsC c).find? (readyC c ls (orderN c ls k done)) = none
  | 0, done, h, hk => by
    cases hf : (headsC c).find? (readyC c ls done) with
    | none => exact hf
    | some a =>
      have := (h.step (find_head hf).1 (find_head hf).2).length
      simp at this
      omega
  | k + 1, done, h, hk => by
    rw [orderN]
    cases hf : (headsC c).find? (readyC c ls done) with
    | none => exact hf
    | some a => exact orderN_end k (h.step (find_head hf).1 (find_head hf).2) (by simp; omega)
theorem orderC_end : (headsC c).find? (readyC c ls (orderC c ls)) = none := orderN_end _ walked_nil (by simp)
/-- An order that has as many heads as there are has all. -/
theorem full_mem (h : (orderC c ls).length = (headsC c).length) {a : Int} : a ∈ orderC c ls ↔ isHead c a := by
  have hw := orderC_walked (c := c) (ls := ls)
  constructor
  · exact hw.heads a
  · intro ha
    refine Classical.byContradiction fun hn => ?_
    have h1 : (a :: orderC c ls).Nodup := List.nodup_cons.2 ⟨hn, hw.nodup⟩
    have h2 := List.Nodup.length_le_of_subset (l₂ := headsC c) h1 fun x hx => by
      rcases List.mem_cons.1 hx with rfl | hx
      · exact mem_headsC.2 ha
      · exact mem_headsC.2 (hw.heads x hx)
    simp at h2
    omega
end
end Go.Proofs.Ytpkhmhfgnpnpfaa
