/- Package uf: Class, Classes: rows that the call makes. -/
import Derived.Test.YtpkhmhfgnpnpfaaUf3
namespace Go.Proofs.Ytpkhmhfgnpnpfaa
set_option linter.unusedSimpArgs false
set_option linter.unusedVariables false
open Go.RowKit
attribute [local go_sem] objAt_alloc objAt_alloc_at objAt_drew objAt_drewN objAt_setCell comesTo_value comesTo_enter

/-- The class of i among the numbers to k. -/
def partOf (c : Cls) (i : Int) (k : Nat) : List Int := (nums k).filter fun j => decide (c.f j = c.f i)
theorem partOf_succ (c : Cls) (i : Int) (k : Nat) : partOf c i (k + 1) = if c.f ((k + 1 : Nat) : Int) = c.f i then partOf c i k ++ [((k + 1 : Nat) : Int)] else partOf c i k := by
  unfold partOf
  rw [nums_succ, List.filter_append]
  by_cases h : c.f ((k + 1 : Nat) : Int) = c.f i
  · rw [if_pos h, List.filter_cons_of_pos (by simpa using h), List.filter_nil]
  · rw [if_neg h, List.filter_cons_of_neg (by simpa using h), List.filter_nil, List.append_nil]
theorem partOf_none {c : Cls} (h : OkC c) {i : Int} (k : Nat) (hk : (k : Int) < c.f i) (hn : k ≤ c.n) : partOf c i k = [] := by
  unfold partOf
  rw [List.filter_eq_nil_iff]
  intro j hj
  rw [mem_nums] at hj
  have := h.le hj.1 (by omega)
  simp
  omega
theorem partOf_all {c : Cls} {i : Int} (h : c.f i ≠ 0) : partOf c i c.n = classC c i := by unfold classC; rw [if_neg h]; rfl
theorem partOf_length (c : Cls) (i : Int) (k : Nat) : (partOf c i k).length ≤ k := by
  have := List.length_filter_le (fun j => decide (c.f j = c.f i)) (nums k)
  rwa [nums_length] at this

/-- What a call makes that answers a new row of numbers. -/
def IntsPost (w : World) (l : List Int) (e : Ending) (w' : World) : Prop := ∃ v, e = .returned v ∧ w'.ownsRow w.heap.size 3 1 v l.length (goInts l) ∧ Below w.heap.size w w'

set_option maxHeartbeats 2000000 in
set_option maxRecDepth 100000 in
theorem class_walk (u : Nat) (F : Nat → Prop) (c : Cls) (i : Int) (w : World) (h : UfAt w u F c) (hi : 1 ≤ i ∧ i ≤ (c.n : Int)) :
    Calls Try.prog 18 #[.pointer (some ⟨u, 0, none⟩), .int .i64 i] w (IntsPost w (classC c i)) := by
  obtain ⟨i0, hinf, hz0, hz1, hz2⟩ := info_parts ufIntInfo
  obtain ⟨hok, hsm⟩ := h.ok
  have HU := hide h
  have his := is_calls i h
  have e1 : decide (1 ≤ i ∧ i ≤ (c.n : Int)) = true := decide_eq_true hi
  rw [e1] at his
  have HIS := hide his
  have hd := head_calls i h
  have hd0 := hok.pos hi.1 hi.2
  have hd1 := hok.le hi.1 hi.2
  obtain ⟨k0, hk0⟩ : ∃ k : Nat, c.f i = ((k + 1 : Nat) : Int) := ⟨(c.f i).toNat - 1, by omega⟩
  have hall := partOf_all (c := c) (i := i) (by omega)
  have hnone := partOf_none hok (i := i) k0 (by omega) (by omega)
  have hsucc := partOf_succ c i
  have hplen := partOf_length c i
  have hk1 : k0 < c.n := by omega
  rw [hk0] at hd
  rw [← hall]
  have HD := hide hd
  have HNONE := hide hnone
  have HSUCC := hide hsucc
  have HPL := hide hplen
  clear h his e1 hd hall hnone hsucc hplen hd0 hd1 hi hok
  obtain ⟨n, hn⟩ : ∃ n, c.n = n := ⟨_, rfl⟩
  rw [hn] at hk1 hsm ⊢
  have HREAD : Hid (∀ W, Below w.heap.size w W → ∃ a cp, W.cell? ⟨u, 0, none⟩ = some (.slice a n cp)) := hide fun W hW => by
    obtain ⟨uv, up, h1, hc, _⟩ := HU.out.below hW
    obtain ⟨a, cp, _, h2, _⟩ := h1.reads
    refine ⟨a, cp, ?_⟩
    rw [h2, ← hn, ← hc]
    rfl
  have hown0 : w.ownsRow w.heap.size 3 1 (.slice none 0 0) (partOf c i k0).length (goInts (partOf c i k0)) := by rw [HNONE.out]; exact World.ownsRow_nil _ _ _ _
  have HOWN0 := hide hown0
  clear hown0
  go_enter Try.func18, Try.ntmps18
  go_wp2_with (first | (go_at_call 48; refine HIS.out.mono ?_; rintro e w1 ⟨rfl, rfl⟩) | (go_at_call 44; refine HD.out.mono ?_; rintro e w1 ⟨rfl, rfl⟩))
  go_loopw [5, 7] (fun v j wr => ∃ k : Nat, k0 ≤ k ∧ k ≤ n ∧ j = .int .i64 ((k + 1 : Nat) : Int) ∧ Hid (wr.ownsRow w.heap.size 3 1 v (partOf c i k).length (goInts (partOf c i k))) ∧ Hid (Below w.heap.size w wr)) (fun _ j _ => n + 1 - (intOf j).toNat)
  case atStart => exact ⟨k0, Nat.le_refl _, by omega, rfl, HOWN0, hide (Below.refl _ _)⟩
  case round =>
    obtain ⟨k, hkk, hk, rfl, hown, hb⟩ := hrel
    obtain ⟨a, cp, hcell⟩ := HREAD.out _ hb.out
    by_cases hlt : k < n
    · have HH := hide (head_calls ((k + 1 : Nat) : Int) (HU.out.below hb.out))
      have hsz := hb.out.size
      have hpl := HPL.out k
      by_cases he : c.f ((k + 1 : Nat) : Int) = c.f i
      · have HS : Hid (partOf c i (k + 1) = partOf c i k ++ [((k + 1 : Nat) : Int)]) := hide (by rw [HSUCC.out k, if_pos he])
        rw [he, hk0] at HH
        clear he
        go_wp2_with (first | (go_at_call 44; refine HH.out.mono ?_; rintro e w1 ⟨rfl, rfl⟩) | (at_builtin; refine wpList_append_own _ rfl (.tmp 30) (.tmp 32) _ rfl w.heap.size 3 i0 _ 1 8 Try.underlying31 hinf hz0 hz1 hz2 rfl (by decide) u5 (partOf c i k).length (goInts (partOf c i k)) rfl (hown.out.alloc _) ⟨wr.heap.size, 0, none⟩ 1 1 [.int .i64 ((k + 1 : Nat) : Int)] rfl rfl (World.news_of_block (heap_alloc_new wr _)) (by intro x hx; simp at hx; subst hx; rfl) (by unfold maxLen; omega) (by omega) (by simp; omega) ?_; intro v2 w2 hown2 hgrow2 _; have HO2 := hide hown2; have HG2 := hide hgrow2; clear hown2 hgrow2))
        have hb2 : Below w.heap.size w w2 := by
          have hf : Frm (fun j => u5.ownBlock = some j) wr w2 := ((Frm.refl _ _).alloc _).grown HG2.out fun q hq => .inl hq
          exact hb.out.trans (hf.below hb.out.size fun j hj => (hown.out.lt j hj).1)
        have HB2 := hide hb2
        clear hb2
        exact ⟨⟨k + 1, by omega, by omega, by go_num, hide (by rw [HS.out]; simpa [goInts] using HO2.out), HB2⟩, by simp [intOf]; omega⟩
      · have HS : Hid (partOf c i (k + 1) = partOf c i k) := hide (by rw [HSUCC.out k, if_neg he])
        have he2 : (c.f ((k + 1 : Nat) : Int) == ((k0 + 1 : Nat) : Int)) = false := by simpa [hk0] using he
        obtain ⟨y, hy⟩ : ∃ y, c.f ((k + 1 : Nat) : Int) = y := ⟨_, rfl⟩
        rw [hy] at HH he2
        clear he hy
        go_wp2_with (go_at_call 44; refine HH.out.mono ?_; rintro e w1 ⟨rfl, rfl⟩)
        exact ⟨⟨k + 1, by omega, by omega, by go_num, by rw [HS.out]; exact hown, hb⟩, by simp [intOf]; omega⟩
    · have hkn : k = n := by omega
      subst hkn
      go_wp2_with fail
      go_ret
      exact ⟨_, rfl, hown.out, hb.out⟩
theorem class_calls {u : Nat} {F : Nat → Prop} {c : Cls} (i : Int) {w : World} (h : UfAt w u F c) :
    Calls Try.prog 18 #[.pointer (some ⟨u, 0, none⟩), .int .i64 i] w (IntsPost w (classC c i)) := by
  by_cases hi : 1 ≤ i ∧ i ≤ (c.n : Int)
  · exact class_walk u F c i w h hi
  · have his := is_calls i h
    have e1 : decide (1 ≤ i ∧ i ≤ (c.n : Int)) = false := decide_eq_false hi
    rw [e1] at his
    have HIS := hide his
    have e2 : classC c i = [] := by unfold classC; rw [if_pos (h.ok.1.out i hi)]
    rw [e2]
    clear his e1 e2 h hi
    go_enter Try.func18, Try.ntmps18
    go_wp2_with (go_at_call 48; refine HIS.out.mono ?_; rintro e w1 ⟨rfl, rfl⟩)
    go_ret
    exact ⟨_, rfl, World.ownsRow_nil _ _ _ _, Below.refl _ _⟩

/-! ### rows of rows -/
/-- A row of the call's own whose elements are rows of numbers, no two of one block. -/
def RowsAt (w : World) (B : Nat) (v : Value) (L : List (List Int)) : Prop :=
  ∃ vs : List Value, w.ownsRow B 31 1 v L.length vs ∧ (∀ (i : Nat) (u : Value) (l : List Int), vs[i]? = some u → L[i]? = some l → w.ownsRow B 3 1 u l.length (goInts l)) ∧
    ∀ (i j : Nat) (u u' : Value), i ≠ j → vs[i]? = some u → vs[j]? = some u' → ∀ g, u.ownBlock = some g → u'.ownBlock ≠ some g
theorem rowsAt_nil (w : World) (B : Nat) : RowsAt w B (.slice none 0 0) [] := ⟨[], World.ownsRow_nil _ _ _ _, by simp, by simp⟩
theorem own_len {w : World} {B : Nat} {e : TypeId} {v : Value} {n : Nat} {vs : List Value} (h : w.ownsRow B e 1 v n vs) : vs.length = n := by have := h.1; omega
theorem RowsAt.frm {w w' : World} {S : Nat → Prop} {B : Nat} {v : Value} {L : List (List Int)} (h : RowsAt w B v L) (hf : Frm S w w') (hS : ∀ j, S j → j < B ∨ w.heap.size ≤ j) : RowsAt w' B v L := by
  obtain ⟨vs, h1, h2, h3⟩ := h
  have key : ∀ {e : TypeId} {u : Value} {n : Nat} {xs : List Value}, w.ownsRow B e 1 u n xs → w'.ownsRow B e 1 u n xs := fun {e u n xs} ho => row_frm ho hf fun g hg hs => by
    have := ho.lt g hg
    rcases hS g hs with h | h <;> omega
  exact ⟨vs, key h1, fun i u l hu hl => key (h2 i u l hu hl), h3⟩
theorem RowsAt.below {w w' : World} {B : Nat} {v : Value} {L : List (List Int)} (h : RowsAt w B v L) (hb : Below w.heap.size w w') : RowsAt w' B v L := h.frm (Frm.of_below (S := None) hb) (fun _ hj => hj.elim)
/-- One more row, new, appended. -/
theorem RowsAt.push {w w1 w2 : World} {B : Nat} {v u v' : Value} {L : List (List Int)} {l : List Int} {vs : List Value} (hB : B ≤ w.heap.size)
    (h2 : ∀ (i : Nat) (u : Value) (l : List Int), vs[i]? = some u → L[i]? = some l → w.ownsRow B 3 1 u l.length (goInts l)) (h3 : ∀ (i j : Nat) (u u' : Value), i ≠ j → vs[i]? = some u → vs[j]? = some u' → ∀ g, u.ownBlock = some g → u'.ownBlock ≠ some g)
    (h1 : w.ownsRow B 31 1 v L.length vs) (hu : w1.ownsRow w.heap.size 3 1 u l.length (goInts l)) (hb : Below w.heap.size w w1) (hf : Frm (fun j => v.ownBlock = some j) w1 w2) (ho : w2.ownsRow B 31 1 v' (L.length + 1) (vs ++ [u])) : RowsAt w2 B v' (L ++ [l]) := by
  have hlen := own_len h1
  have hv1 : w1.ownsRow B 31 1 v L.length vs := row_below h1 hb
  have hty : ∀ {u' : Value} {n : Nat} {xs : List Value} {B' : Nat}, w1.ownsRow B' 3 1 u' n xs → ∀ g, u'.ownBlock = some g → ¬ v.ownBlock = some g := fun hr g hg => row_types hr hv1 (by decide) hg
  refine ⟨vs ++ [u], by simpa using ho, fun i x m hx hm => ?_, fun i j x x' hij hx hx' g hg => ?_⟩
  · by_cases hi : i < L.length
    · rw [List.getElem?_append_left (by omega)] at hx hm
      have hr := row_below (h2 i x m hx hm) hb
      exact row_frm hr hf (hty hr)
    · have hi' : i = L.length := by
        have := (List.getElem?_eq_some_iff.1 hm).1
        simp at this
        omega
      subst hi'
      rw [List.getElem?_append_right (by omega)] at hx hm
      simp [hlen] at hx hm
      subst hx hm
      exact row_base (row_frm hu hf (hty hu)) fun g hg => by have := (hu.lt g hg).1; omega
  · have old : ∀ (i : Nat) (x : Value), i < vs.length → (vs ++ [u])[i]? = some x → vs[i]? = some x ∧ ∀ g, x.ownBlock = some g → g < w.heap.size := fun i x hi hx => by
      rw [List.getElem?_append_left hi] at hx
      obtain ⟨m, hm⟩ : ∃ m, L[i]? = some m := ⟨L[i]'(by omega), List.getElem?_eq_getElem (by omega)⟩
      exact ⟨hx, fun g hg => ((h2 i x m hx hm).lt g hg).2⟩
    have new : ∀ (i : Nat) (x : Value), ¬ i < vs.length → (vs ++ [u])[i]? = some x → i = vs.length ∧ x = u := fun i x hi hx => by
      have hi' : i = vs.length := by
        have := (List.getElem?_eq_some_iff.1 hx).1
        simp at this
        omega
      subst hi'
      simp at hx
      exact ⟨rfl, hx.symm⟩
    by_cases hi : i < vs.length
    · obtain ⟨o1, o2⟩ := old i x hi hx
      by_cases hj : j < vs.length
      · exact h3 i j x x' hij o1 (old j x' hj hx').1 g hg
      · obtain ⟨_, rfl⟩ := new j x' hj hx'
        intro e
        have := (hu.lt g e).1
        have := o2 g hg
        omega
    · obtain ⟨rfl, rfl⟩ := new i x hi hx
      by_cases hj : j < vs.length
      · intro e
        have := (old j x' hj hx').2 g e
        have := (hu.lt g hg).1
        omega
      · exact absurd (new j x' hj hx').1 (by omega)
end Go.Proofs.Ytpkhmhfgnpnpfaa
