/- Package link: order. -/
import Derived.Test.YtpkhmhfgnpnpfaaGra3
namespace Go.Proofs.Ytpkhmhfgnpnpfaa
set_option linter.unusedSimpArgs false
set_option linter.unusedVariables false
open Go.RowKit
attribute [local go_sem] objAt_alloc objAt_alloc_at objAt_drew objAt_drewN objAt_setCell comesTo_value comesTo_enter

theorem find_first {α : Type} {p : α → Bool} : ∀ {l : List α} {k : Nat} {x : α}, l[k]? = some x → p x = true → (∀ j y, j < k → l[j]? = some y → p y = false) → l.find? p = some x
  | [], k, x, h, _, _ => by simp at h
  | y :: l, 0, x, h, hp, _ => by simp at h; subst h; simp [hp]
  | y :: l, k + 1, x, h, hp, hb => by
    have := hb 0 y (by omega) rfl
    rw [List.find?_cons_of_neg (by rw [this]; simp)]
    exact find_first (k := k) (by simpa using h) hp fun j z hj hz => hb (j + 1) z (by omega) (by simpa using hz)
def unitOf (dn : List Int) : List (Int × Unit) := dn.map fun h => (h, ())
theorem look_unit (dn : List Int) (p : Int) : (look (unitOf dn) p).isSome = decide (p ∈ dn) := by
  induction dn with
  | nil => rfl
  | cons h dn ih =>
    show (if h = p then some () else look (unitOf dn) p).isSome = _
    by_cases e : h = p
    · simp [e]
    · rw [if_neg e, ih]
      simp [Ne.symm e]
theorem put_unit {dn : List Int} {h : Int} (hn : h ∉ dn) : put (unitOf dn) h () = unitOf (dn ++ [h]) := by
  rw [put_absent fun p hp e => by
    obtain ⟨x, hx, rfl⟩ := List.mem_map.1 hp
    exact hn (e ▸ hx)]
  simp [unitOf]
theorem ready_iff (c : Cls) (ls : List PLink) (dn : List Int) (h : Int) : readyD c ls (unitOf dn) h ↔ readyC c ls dn h = true := by
  rw [readyC_iff]
  unfold readyD
  rw [look_unit]
  refine and_congr (by simp) ?_
  constructor
  · intro hp x hx hk hd
    have := hp (c.f x.src) (((aheadOf_ok c ls).mem h _).2 ⟨x, hx, hk, hd, rfl⟩)
    rw [look_unit] at this
    simpa using this
  · intro hp p hm
    obtain ⟨x, hx, hk, hd, rfl⟩ := ((aheadOf_ok c ls).mem h p).1 hm
    rw [look_unit]
    simpa using hp x hx hk hd

/-- A row of rows, element by element. -/
theorem rows_vals {w : World} {B : Nat} {v : Value} {L : List (List Int)} {vs : List Value} (h1 : w.ownsRow B 31 1 v L.length vs) (h2 : ∀ (i : Nat) (u : Value) (l : List Int), vs[i]? = some u → L[i]? = some l → w.ownsRow B 3 1 u l.length (goInts l)) :
    ∃ a cp, v = .slice a L.length cp ∧ ValsIn w a (vs.zip L) ∧ ∀ (k : Nat) (x : Value × List Int), (vs.zip L)[k]? = some x → vs[k]? = some x.1 ∧ L[k]? = some x.2 ∧ ∃ ra rc, x.1 = .slice ra x.2.length rc ∧ IntsIn w ra x.2 := by
  have hlen := own_len h1
  have key : ∀ (k : Nat) (x : Value × List Int), (vs.zip L)[k]? = some x → vs[k]? = some x.1 ∧ L[k]? = some x.2 ∧ ∃ ra rc, x.1 = .slice ra x.2.length rc ∧ IntsIn w ra x.2 := fun k x hx => by
    rw [List.getElem?_zip_eq_some] at hx
    obtain ⟨ra, rc, e, q1, _⟩ := row_ints (h2 k x.1 x.2 hx.1 hx.2)
    exact ⟨hx.1, hx.2, ra, rc, e, q1⟩
  rcases h1.2 with ⟨rfl, h0⟩ | ⟨g, cap, cur, rfl, g1, g2, _⟩
  · refine ⟨none, 0, by rw [h0], fun k x hk => ?_, key⟩
    have := (key k x hk).2.1
    rw [List.eq_nil_of_length_eq_zero h0] at this
    simp at this
  · refine ⟨some ⟨g, 0, none⟩, cap, rfl, fun k x hk => ?_, key⟩
    obtain ⟨q1, q2, ra, rc, q3, _⟩ := key k x hk
    have hlt := (List.getElem?_eq_some_iff.1 q2).1
    exact ⟨g, 0, rfl, (Array.getElem?_eq_some_iff.1 g2).1, by rw [Nat.zero_add, h1.cellAt k (by omega)]; exact q1, ra, _, rc, q3⟩

/-- What the rounds of order keep: dn heads are done, out holds their classes. -/
def OrdRel (B : Nat) (w3 : World) (d e db ab : Nat) (c : Cls) (ls : List PLink) (vs : List Value) (out : Value) (wr : World) : Prop :=
  ∃ (dn : List Int) (ov : List Value), Walked c ls dn ∧ orderN c ls ((headsC c).length - dn.length) dn = orderC c ls ∧ OrdMem wr d e db ab B (unitOf dn) c ls ∧ wr.ownsRow w3.heap.size 31 1 out dn.length ov ∧
    (∀ (i : Nat) (h : Int) (u : Value), dn[i]? = some h → ov[i]? = some u → ∃ k : Nat, (headsC c)[k]? = some h ∧ vs[k]? = some u) ∧ Frm (fun j => j = db) w3 wr
def ordLen : Value → Nat
  | .slice _ n _ => n
  | _ => 0
theorem own_ordLen {w : World} {B : Nat} {e : TypeId} {v : Value} {n : Nat} {vs : List Value} (h : w.ownsRow B e 1 v n vs) : ordLen v = n := by
  rcases h.2 with ⟨rfl, h0⟩ | ⟨g, cap, cur, rfl, _⟩
  · exact h0.symm
  · rfl
theorem class_at {c : Cls} {k : Nat} {h : Int} (hh : (headsC c)[k]? = some h) : (classesC c)[k]? = some (classC c h) := by
  unfold classesC
  rw [List.getElem?_map, hh]; rfl
theorem class_of {c : Cls} {k : Nat} {l : List Int} (hl : (classesC c)[k]? = some l) : ∃ h, (headsC c)[k]? = some h ∧ l = classC c h := by
  unfold classesC at hl
  rw [List.getElem?_map, Option.map_eq_some_iff] at hl
  obtain ⟨h, h1, h2⟩ := hl
  exact ⟨h, h1, h2.symm⟩
/-- None is ready: the order is done. -/
theorem ord_last {B : Nat} {w3 wr : World} {c : Cls} {ls : List PLink} {vs : List Value} {out : Value} {dn : List Int} {ov : List Value} (hB : B ≤ w3.heap.size)
    (hvs : ∀ (i : Nat) (u : Value) (l : List Int), vs[i]? = some u → (classesC c)[i]? = some l → wr.ownsRow B 3 1 u l.length (goInts l)) (hdis : ∀ (i j : Nat) (u u' : Value), i ≠ j → vs[i]? = some u → vs[j]? = some u' → ∀ g, u.ownBlock = some g → u'.ownBlock ≠ some g)
    (hw : Walked c ls dn) (ho : orderN c ls ((headsC c).length - dn.length) dn = orderC c ls) (hown : wr.ownsRow w3.heap.size 31 1 out dn.length ov)
    (hov : ∀ (i : Nat) (h : Int) (u : Value), dn[i]? = some h → ov[i]? = some u → ∃ k : Nat, (headsC c)[k]? = some h ∧ vs[k]? = some u) (hnone : (headsC c).find? (readyC c ls dn) = none) : RowsAt wr B out ((orderC c ls).map (classC c)) := by
  have hdn : orderC c ls = dn := by
    rw [← ho, orderN_step _ hw (by omega), hnone]
  rw [hdn]
  have hlen := own_len hown
  refine ⟨ov, by rw [List.length_map]; exact row_base hown fun g hg => by have := (hown.lt g hg).1; omega, fun i u l hu hl => ?_, fun i j u u' hij hu hu' => ?_⟩
  · rw [List.getElem?_map, Option.map_eq_some_iff] at hl
    obtain ⟨h, h1, rfl⟩ := hl
    obtain ⟨k, k1, k2⟩ := hov i h u h1 hu
    exact hvs k u _ k2 (class_at k1)
  · obtain ⟨h, h1⟩ : ∃ h, dn[i]? = some h := ⟨dn[i]'(by have := (List.getElem?_eq_some_iff.1 hu).1; omega), List.getElem?_eq_getElem _⟩
    obtain ⟨h', h1'⟩ : ∃ h, dn[j]? = some h := ⟨dn[j]'(by have := (List.getElem?_eq_some_iff.1 hu').1; omega), List.getElem?_eq_getElem _⟩
    obtain ⟨k, k1, k2⟩ := hov i h u h1 hu
    obtain ⟨k', k1', k2'⟩ := hov j h' u' h1' hu'
    refine hdis k k' u u' (fun e => hij ?_) k2 k2'
    subst e
    rw [k1] at k1'
    cases k1'
    obtain ⟨q1, q2⟩ := List.getElem?_eq_some_iff.1 h1
    obtain ⟨q1', q2'⟩ := List.getElem?_eq_some_iff.1 h1'
    have hnd := List.pairwise_iff_getElem.1 hw.nodup
    rcases Nat.lt_trichotomy i j with e | e | e
    · exact absurd (q2.trans q2'.symm) (hnd i j q1 q1' e)
    · exact e
    · exact absurd (q2'.trans q2.symm) (hnd j i q1' q1 e)
/-- One more number in the set of what is done. -/
theorem OrdMem.turn {w w' : World} {d e db ab B : Nat} {D D' : List (Int × Unit)} {c : Cls} {ls : List PLink} (h : OrdMem w d e db ab B D c ls) (hf : Frm (fun j => j = db) w w') (hm : MapB ekint ekunit w' db D') : OrdMem w' d e db ab B D' c ls := by
  obtain ⟨h1, h2, h3, ⟨L, h4, h5⟩, hab⟩ := h
  have ne : ∀ {x : Nat} {v : Value} {T : TypeId}, w.heap[x]? = some (.cells #[v] T (0, 0)) → ¬ x = db := fun {x v T} hx e => by
    subst e
    exact h3.notCells _ _ _ hx
  exact ⟨(hf.block d (Array.getElem?_eq_some_iff.1 h1).1 (ne h1)).trans h1, (hf.block e (Array.getElem?_eq_some_iff.1 h2).1 (ne h2)).trans h2, hm, ⟨L, h4.frm hf hab (fun p hp g hg e => row_not (h4.2.1 p hp) h3.notCells (by rw [hg, e])), h5⟩, hab⟩
/-- A row of rows that grows leaves what order holds. -/
theorem OrdMem.grown {w w' : World} {d e db ab B B' n : Nat} {D : List (Int × Unit)} {c : Cls} {ls : List PLink} {v : Value} {vs : List Value} (h : OrdMem w d e db ab B D c ls) (ho : w.ownsRow B' 31 1 v n vs) (hf : Frm (fun j => v.ownBlock = some j) w w') : OrdMem w' d e db ab B D c ls := by
  obtain ⟨h1, h2, h3, ⟨L, h4, h5⟩, hab⟩ := h
  have ne : ∀ {x : Nat} {u : Value} {T : TypeId}, T ≠ 31 → w.heap[x]? = some (.cells #[u] T (0, 0)) → ¬ v.ownBlock = some x := fun {x u T} hT hx e => by
    rcases ho.2 with ⟨rfl, _⟩ | ⟨g, cap, cur, rfl, _, hh, _⟩
    · simp [Value.ownBlock] at e
    · simp [Value.ownBlock] at e
      subst e
      rw [hx] at hh
      simp at hh
      exact hT hh.2
  exact ⟨(hf.block d (Array.getElem?_eq_some_iff.1 h1).1 (ne (by decide) h1)).trans h1, (hf.block e (Array.getElem?_eq_some_iff.1 h2).1 (ne (by decide) h2)).trans h2, h3.frm hf (row_not ho h3.notCells), ⟨L,
    h4.frm hf (row_not ho h4.1.notCells) (fun p hp g hg e => row_types (h4.2.1 p hp) ho (by decide) hg e), h5⟩, hab⟩
end Go.Proofs.Ytpkhmhfgnpnpfaa
