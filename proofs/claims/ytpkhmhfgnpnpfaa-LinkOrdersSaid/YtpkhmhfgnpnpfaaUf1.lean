/- Package uf: Uf in memory; is, Head, Len. -/
import Derived.Test.YtpkhmhfgnpnpfaaGraO
import Derived.Test.YtpkhmhfgnpnpfaaGrp
import Derived.Test.YtpkhmhfgnpnpfaaProg
namespace Go.Proofs.Ytpkhmhfgnpnpfaa
set_option linter.unusedSimpArgs false
set_option linter.unusedVariables false
open Go.RowKit
attribute [local go_sem] objAt_alloc objAt_alloc_at objAt_drew objAt_drewN objAt_setCell

def goNats (l : List Nat) : List Value := l.map fun x : Nat => Value.int .i64 x
theorem goNats_len (l : List Nat) : (goNats l).length = l.length := by simp [goNats]
/-- Block u is a Uf whose slice uv holds up. -/
structure UfParts (w : World) (u : Nat) (uv : Value) (up : List Nat) : Prop where
  cell : w.heap[u]? = some (.cells #[uv] 95 (0, 0))
  row : w.ownsRow 0 3 1 uv up.length (goNats up)
  apart : uv.ownBlock ≠ some u
  good : GoodUp up
  small : up.length ≤ 1000
/-- Block u is a Uf of classes c; its blocks are among F. -/
def UfAt (w : World) (u : Nat) (F : Nat → Prop) (c : Cls) : Prop :=
  ∃ uv up, UfParts w u uv up ∧ clsOf up = c ∧ F u ∧ (∀ b, uv.ownBlock = some b → F b) ∧ ∀ j, F j → j < w.heap.size
theorem UfParts.lt {w : World} {u : Nat} {uv : Value} {up : List Nat} (h : UfParts w u uv up) : u < w.heap.size := (Array.getElem?_eq_some_iff.1 h.cell).1
theorem UfParts.frm {w w' : World} {S : Nat → Prop} {u : Nat} {uv : Value} {up : List Nat} (h : UfParts w u uv up) (hf : Frm S w w') (hu : ¬ S u) (hv : ∀ b, uv.ownBlock = some b → ¬ S b) : UfParts w' u uv up :=
  ⟨(hf.block u h.lt hu).trans h.cell, row_frm h.row hf hv, h.apart, h.good, h.small⟩
theorem UfAt.frm {w w' : World} {S F : Nat → Prop} {u : Nat} {c : Cls} (h : UfAt w u F c) (hf : Frm S w w') (hs : ∀ j, F j → ¬ S j) : UfAt w' u F c := by
  obtain ⟨uv, up, h1, h2, h3, h4, h5⟩ := h
  exact ⟨uv, up, h1.frm hf (hs u h3) (fun b hb => hs b (h4 b hb)), h2, h3, h4, fun j hj => Nat.lt_of_lt_of_le (h5 j hj) hf.size⟩
theorem UfAt.below {w w' : World} {F : Nat → Prop} {u : Nat} {c : Cls} (h : UfAt w u F c) (hb : Below w.heap.size w w') : UfAt w' u F c := h.frm (Frm.of_below (S := None) hb) (fun _ _ => id)
theorem UfAt.ok {w : World} {F : Nat → Prop} {u : Nat} {c : Cls} (h : UfAt w u F c) : OkC c ∧ c.n ≤ 1000 := by
  obtain ⟨uv, up, h1, rfl, _⟩ := h
  exact ⟨clsOf_ok h1.good, h1.small⟩
/-- The cells that a walk reads. -/
theorem UfParts.reads {w : World} {u : Nat} {uv : Value} {up : List Nat} (h : UfParts w u uv up) :
    ∃ (a : Option Addr) (cp : Nat), uv = .slice a up.length cp ∧ w.cell? ⟨u, 0, none⟩ = some (.slice a up.length cp) ∧ ∀ k, k < up.length → ∃ r, a = some ⟨r, 0, none⟩ ∧ w.cell? ⟨r, k, none⟩ = some (.int .i64 (up.getD k 0)) := by
  have hc : w.cell? ⟨u, 0, none⟩ = some uv := by simp [World.cell?, h.cell]
  rcases h.row.2 with ⟨rfl, h0⟩ | ⟨g, cap, cur, rfl, h1⟩
  · refine ⟨none, 0, by rw [h0], by rw [hc, h0], fun k hk => by omega⟩
  · refine ⟨some ⟨g, 0, none⟩, cap, rfl, hc, fun k hk => ⟨g, rfl, ?_⟩⟩
    rw [h.row.cellAt k (by omega)]
    simp [goNats, hk]

theorem is_walk (u : Nat) (a : Option Addr) (n cp : Nat) (i : Int) (w : World) (h : w.cell? ⟨u, 0, none⟩ = some (.slice a n cp)) (hn : n ≤ 1000) :
    Calls Try.prog 48 #[.pointer (some ⟨u, 0, none⟩), .int .i64 i] w fun e w' => e = .returned (.bool (decide (1 ≤ i ∧ i ≤ n))) ∧ w = w' := by
  by_cases h1 : 1 ≤ i
  · by_cases h2 : i ≤ n
    · have e1 : decide (1 ≤ i ∧ i ≤ n) = true := by simp [h1, h2]
      rw [e1]
      go_enter Try.func48, Try.ntmps48
      go_wp2
      go_ret
      exact ⟨rfl, rfl⟩
    · have e1 : decide (1 ≤ i ∧ i ≤ n) = false := by simp [h2]
      rw [e1]
      go_enter Try.func48, Try.ntmps48
      go_wp2
      go_ret
      exact ⟨rfl, rfl⟩
  · have e1 : decide (1 ≤ i ∧ i ≤ n) = false := by simp [h1]
    rw [e1]
    go_enter Try.func48, Try.ntmps48
    go_wp2
    go_ret
    exact ⟨rfl, rfl⟩
theorem is_calls {u : Nat} {F : Nat → Prop} {c : Cls} (i : Int) {w : World} (h : UfAt w u F c) :
    Calls Try.prog 48 #[.pointer (some ⟨u, 0, none⟩), .int .i64 i] w fun e w' => e = .returned (.bool (decide (1 ≤ i ∧ i ≤ (c.n : Int)))) ∧ w = w' := by
  obtain ⟨uv, up, h1, rfl, _⟩ := h
  obtain ⟨a, cp, _, h2, _⟩ := h1.reads
  exact is_walk u a up.length cp i w h2 h1.small

theorem head_walk (u r : Nat) (n cp : Nat) (up : List Nat) (k0 : Nat) (w : World) (hn : up.length = n) (hn2 : n ≤ 1000) (hg : GoodUp up) (hk0 : k0 < n) (h : w.cell? ⟨u, 0, none⟩ = some (.slice (some ⟨r, 0, none⟩) n cp)) (hc : ∀ k, k < n → w.cell? ⟨r, k, none⟩ = some (.int .i64 (up.getD k 0))) :
    Calls Try.prog 44 #[.pointer (some ⟨u, 0, none⟩), .int .i64 ((k0 + 1 : Nat) : Int)] w fun e w' => e = .returned (.int .i64 (headOf up (k0 + 1))) ∧ w = w' := by
  have HC := hide hc
  have HG := hide hg
  have his := is_walk u (some ⟨r, 0, none⟩) n cp ((k0 + 1 : Nat) : Int) w h hn2
  have e1 : decide (1 ≤ ((k0 + 1 : Nat) : Int) ∧ ((k0 + 1 : Nat) : Int) ≤ n) = true := by simp; omega
  rw [e1] at his
  have HIS := hide his
  clear hc hg his e1
  go_enter Try.func44, Try.ntmps44
  go_wp2_with (go_at_call 48; refine HIS.out.mono ?_; rintro e w1 ⟨rfl, rfl⟩)
  go_loop [1] (fun iv => ∃ k : Nat, k < n ∧ iv = .int .i64 ((k + 1 : Nat) : Int) ∧ Hid (headOf up (k + 1) = headOf up (k0 + 1))) (fun iv => (intOf iv).toNat)
  case atStart => exact ⟨k0, hk0, rfl, hide rfl⟩
  case round =>
    obtain ⟨k, hk, rfl, hh⟩ := hrel
    have hcell := HC.out k hk
    have hst := head_step HG.out (i := k + 1) (by omega) (by omega)
    obtain ⟨g1, g2⟩ := good_at HG.out (i := k + 1) (by omega) (by omega)
    rw [Nat.add_sub_cancel] at hst g1 g2
    obtain ⟨x, hx⟩ : ∃ x, up.getD k 0 = x := ⟨_, rfl⟩
    rw [hx] at hcell hst g1 g2
    by_cases e : x = k + 1
    · subst e
      rw [if_pos rfl] at hst
      have HE : Hid (headOf up (k0 + 1) = k + 1) := hide (by rw [← hh.out]; exact hst)
      clear hst hx
      go_wp2
      go_ret
      exact ⟨by rw [HE.out]; simp, rfl⟩
    · rw [if_neg e] at hst
      have hne : ((x : Int) != ((k + 1 : Nat) : Int)) = true := by simp; omega
      have HE := hide (hst.symm.trans hh.out)
      clear hst hx
      go_wp2
      go_round
      case rel => exact ⟨x - 1, by omega, by go_num, by rw [show x - 1 + 1 = x by omega]; exact HE⟩
      case measure => simp [intOf]; omega
theorem head_calls {u : Nat} {F : Nat → Prop} {c : Cls} (i : Int) {w : World} (h : UfAt w u F c) :
    Calls Try.prog 44 #[.pointer (some ⟨u, 0, none⟩), .int .i64 i] w fun e w' => e = .returned (.int .i64 (c.f i)) ∧ w = w' := by
  have his := is_calls i h
  obtain ⟨uv, up, h1, rfl, _⟩ := h
  obtain ⟨a, cp, _, h2, h3⟩ := h1.reads
  by_cases hi : 1 ≤ i ∧ i ≤ up.length
  · obtain ⟨r, rfl, _⟩ := h3 0 (by omega)
    obtain ⟨k, rfl⟩ : ∃ k : Nat, i = ((k + 1 : Nat) : Int) := ⟨i.toNat - 1, by omega⟩
    rw [clsOf_f (by omega) (by omega)]
    exact head_walk u r up.length cp up k w rfl h1.small h1.good (by omega) h2 fun j hj => by
      obtain ⟨r', e, h4⟩ := h3 j hj
      simp at e; subst e; exact h4
  · rw [clsOf_out hi]
    have e1 : decide (1 ≤ i ∧ i ≤ ((clsOf up).n : Int)) = false := decide_eq_false hi
    rw [e1] at his
    have HIS := hide his
    clear his e1 hi h3 h2 h1
    go_enter Try.func44, Try.ntmps44
    go_wp2_with (go_at_call 48; refine HIS.out.mono ?_; rintro e w1 ⟨rfl, rfl⟩)
    go_ret
    exact ⟨rfl, rfl⟩
theorem len_calls {u : Nat} {F : Nat → Prop} {c : Cls} {w : World} (h : UfAt w u F c) :
    Calls Try.prog 52 #[.pointer (some ⟨u, 0, none⟩)] w fun e w' => e = .returned (.int .i64 c.n) ∧ w = w' := by
  obtain ⟨uv, up, h1, rfl, _⟩ := h
  obtain ⟨a, cp, _, h2, h3⟩ := h1.reads
  show Calls _ _ _ _ fun e w' => e = .returned (.int .i64 up.length) ∧ w = w'
  clear h3
  go_enter Try.func52, Try.ntmps52
  go_wp2
  go_ret
  exact ⟨rfl, rfl⟩
end Go.Proofs.Ytpkhmhfgnpnpfaa
