/- Appends of postings, spread, to a row of the caller's own. -/
import Derived.Test.YtmhmjbggjbeikaaLawPostLevel
import Derived.Test.YtmhmjbggjbeikaaTot11
namespace Go.Proofs.Ytmhmjbggjbeikaa
set_option linter.unusedSimpArgs false
set_option linter.unusedVariables false
open Go.RowKit

theorem posts_news {w : World} {b off : Nat} {l : List PPost} (h : PostsAt w (some ⟨b, off, none⟩) l) : ∀ j u, (l.flatMap pcells)[j]? = some u → w.cell? ((⟨b, off, none⟩ : Addr).add j) = some u := by
  intro j u hj
  have hlen : j < l.length * 4 := by
    have h1 := (List.getElem?_eq_some_iff.1 hj).1
    rw [List.length_flatMap] at h1
    have : (l.map fun p => (pcells p).length).sum = l.length * 4 := by
      clear h hj h1
      induction l with
      | nil => rfl
      | cons p l ih => rw [List.map_cons, List.sum_cons, ih, pcells_len, List.length_cons]; omega
    omega
  have hk : j / 4 < l.length := by omega
  obtain ⟨p, hp⟩ : ∃ p, l[j / 4]? = some p := ⟨l[j / 4], List.getElem?_eq_getElem hk⟩
  rw [flat_get pcells 4 pcells_len l j hlen] at hj
  have hpk : l.toArray[j / 4]! = p := by
    rw [getElem!_pos l.toArray (j / 4) (by simpa using hk)]
    obtain ⟨_, rfl⟩ := List.getElem?_eq_some_iff.1 hp
    simp
  rw [hpk] at hj
  obtain ⟨b', off', e, _, c0, c1, c2, c3⟩ := h (j / 4) p hp
  simp only [Option.some.injEq, Addr.mk.injEq, and_true] at e
  obtain ⟨rfl, rfl⟩ := e
  rw [Addr.add_lit]
  have hm : j % 4 < 4 := Nat.mod_lt _ (by decide)
  have hjj : j = j / 4 * 4 + j % 4 := by omega
  generalize j / 4 = k at *
  generalize j % 4 = r at *
  subst hjj
  match r, hm with
  | 0, _ => simp [pcells] at hj; subst hj; simpa using c0
  | 1, _ => simp [pcells] at hj; subst hj; simpa [Nat.add_assoc] using c1
  | 2, _ => simp [pcells] at hj; subst hj; simpa [Nat.add_assoc] using c2
  | 3, _ => simp [pcells] at hj; subst hj; simpa [Nat.add_assoc] using c3

theorem pcells_all (l : List PPost) : ∀ u ∈ l.flatMap pcells, u.oneCell' = true := by
  intro u hu
  obtain ⟨p, _, hp⟩ := List.mem_flatMap.1 hu
  exact pcells_one p u hp
theorem pcells_length (l : List PPost) : (l.flatMap pcells).length = l.length * 4 := by
  induction l with
  | nil => rfl
  | cons p l ih => rw [List.flatMap_cons, List.length_append, ih, pcells_len, List.length_cons]; omega

theorem append_posts {w : World} {o : Oper} {a : Act} {K : Act → World → Prop} {Q : Exit → Act → World → Prop} (s x : Operand)
    (ho : o.op = .call { callee := .builtin .append, args := #[s, x], argTypes := #[48, 48] })
    (base : Nat) (v : Value) (n : Nat) (l1 : List PPost) (hs : a.eval s = v) (hn : l1.length = n) (hown : w.ownsRow base 51 4 v n (l1.flatMap pcells))
    (ad : Option Addr) (m c : Nat) (l2 : List PPost) (hx : a.eval x = .slice ad m c) (hl : l2.length = m) (hnone : ad = none → m = 0 ∧ c = 0) (hp : PostsAt w ad l2) (hm : n + m ≤ 100000) (hbase : base ≤ w.heap.size)
    (h : ∀ v' w', w'.ownsRow base 51 4 v' (n + m) ((l1 ++ l2).flatMap pcells) → w.grownBy w' v.ownBlock → K (a.put o.dst v') w') : o.wp Try.prog a w K Q := by
  obtain ⟨j0, hj, hy0, hy1, hy2⟩ := info_parts postInfo
  rw [List.flatMap_append] at h
  cases ad with
  | none =>
    obtain ⟨rfl, rfl⟩ := hnone rfl
    obtain rfl : l2 = [] := List.eq_nil_of_length_eq_zero hl
    have hrun := run_append_owned_none (P := Try.prog) (w := w) base 48 o.type 51 j0 4 Try.underlying48 hj v n _ hown
    unfold Oper.wp execOp
    simp only [ho, resolve, invoke, builtin, Sem.run_bind, Sem.run_pure, Result.andThen_ok, List.map_toArray, List.map_cons, List.map_nil, hs, hx, hrun]
    exact h v w (by simpa using hown) (World.grownBy.refl _ _)
  | some y =>
    have hnews : ∀ j u, (l2.flatMap pcells)[j]? = some u → w.cell? (y.add j) = some u := by
      cases l2 with
      | nil => intro j u hj; simp at hj
      | cons p l2 =>
        obtain ⟨b, off, e, _⟩ := hp 0 p rfl
        obtain rfl : y = ⟨b, off, none⟩ := by simpa using e
        exact posts_news hp
    exact wp_append_own w s x 48 ho base 51 j0 _ 4 48 Try.underlying48 hj hy0 hy1 hy2 (by rfl) (by decide) v n _ hs hown y m c (l2.flatMap pcells) hx (by rw [pcells_length, hl]) hnews (pcells_all l2) (by unfold maxLen; omega) (by omega) hbase fun v' w' h1 h2 _ => h v' w' h1 h2
end Go.Proofs.Ytmhmjbggjbeikaa
