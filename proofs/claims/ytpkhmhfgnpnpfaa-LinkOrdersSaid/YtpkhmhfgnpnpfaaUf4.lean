/- Package uf: Same, Class, Classes. -/
import Derived.Test.YtpkhmhfgnpnpfaaUf3
namespace Go.Proofs.Ytpkhmhfgnpnpfaa
set_option linter.unusedSimpArgs false
set_option linter.unusedVariables false
open Go.RowKit
attribute [local go_sem] objAt_alloc objAt_alloc_at objAt_drew objAt_drewN objAt_setCell comesTo_value comesTo_enter

/-- Are all of a list numbers of the first one's class? -/
def sameP (c : Cls) (l0 : Int) (l : List Int) : Prop := ∀ x ∈ l, (1 ≤ x ∧ x ≤ (c.n : Int)) ∧ c.f x = c.f l0
instance (c : Cls) (l0 : Int) (l : List Int) : Decidable (sameP c l0 l) := by unfold sameP; exact inferInstance
def sameC (c : Cls) (l : List Int) : Bool := decide (sameP c (l.headD 0) l)

set_option maxHeartbeats 2000000 in
set_option maxRecDepth 100000 in
theorem same_calls (u : Nat) (F : Nat → Prop) (c : Cls) (a : Option Addr) (n cp : Nat) (l : List Int) (w : World) (h : UfAt w u F c) (hn : l.length = n) (hm : n ≤ 1099511627776) (hl : IntsIn w a l) :
    Calls Try.prog 17 #[.pointer (some ⟨u, 0, none⟩), .slice a n cp] w fun e w' => e = .returned (.bool (sameC c l)) ∧ Below w.heap.size w w' := by
  have HU := hide h
  have HL := hide hl
  obtain ⟨b0, hb0⟩ : ∃ b, sameC c l = b := ⟨_, rfl⟩
  have HS := hide hb0
  rw [hb0]
  clear h hl hb0
  go_enter Try.func17, Try.ntmps17
  go_wp2_with fail
  go_loopw [11] (fun i wr => ∃ k : Nat, k ≤ n ∧ i = .int .i64 k ∧ Hid (sameP c (l.headD 0) (l.take k)) ∧ Hid (Below w.heap.size w wr)) (fun i _ => n - (intOf i).toNat)
  case atStart => exact ⟨0, by omega, rfl, hide (by intro x hx; simp at hx), hide (Below.refl _ _)⟩
  case round =>
    obtain ⟨k, hk, rfl, hsm, hb⟩ := hrel
    by_cases hlt : k < n
    · obtain ⟨x, hx⟩ : ∃ x, l[k]? = some x := ⟨l[k]'(by omega), List.getElem?_eq_getElem (by omega)⟩
      obtain ⟨x0, hx0⟩ : ∃ x0, l[0]? = some x0 := ⟨l[0]'(by omega), List.getElem?_eq_getElem (by omega)⟩
      have hL := HL.out.below hb.out
      have HW : Hid (UfAt wr.drew u F c) := hide ((HU.out.below hb.out).below (Below.refl _ _).drew)
      obtain ⟨b, off, rfl, hlb, g1⟩ := hL k x hx
      obtain ⟨b', off', e, _, g0⟩ := hL 0 x0 hx0
      simp only [Option.some.injEq, Addr.mk.injEq, and_true] at e
      obtain ⟨rfl, rfl⟩ := e
      rw [Nat.add_zero] at g0
      have hd0 : l.headD 0 = x0 := by
        cases l with
        | nil => simp at hx0
        | cons y r => simpa using hx0
      have htk : l.take (k + 1) = l.take k ++ [x] := by
        obtain ⟨q1, q2⟩ := List.getElem?_eq_some_iff.1 hx
        rw [List.take_succ_eq_append_getElem q1, q2]
      have hmem := List.mem_of_getElem? hx
      have HF : Hid (∀ W, wr.drew = W → W.cell? ⟨b, off, none⟩ = some (.int .i64 x0)) := hide fun W hW => hW ▸ g0
      obtain ⟨y, hy⟩ : ∃ y, c.f x = y := ⟨_, rfl⟩
      obtain ⟨y0, hy0⟩ : ∃ y, c.f x0 = y := ⟨_, rfl⟩
      have HH := hide (head_calls x HW.out)
      have HH0 := hide (head_calls x0 HW.out)
      have HIS := hide (is_calls x HW.out)
      rw [hy] at HH
      rw [hy0] at HH0
      by_cases hin : 1 ≤ x ∧ x ≤ (c.n : Int)
      · have e1 : decide (1 ≤ x ∧ x ≤ (c.n : Int)) = true := decide_eq_true hin
        rw [e1] at HIS
        by_cases hyy : y = y0
        · have HN : Hid (sameP c (l.headD 0) (l.take (k + 1))) := hide fun z hz => by
            rw [htk] at hz
            rcases List.mem_append.1 hz with hz | hz
            · exact hsm.out z hz
            · simp at hz; subst hz
              exact ⟨hin, by rw [hd0, hy, hyy, hy0]⟩
          have hn0 : 0 < n := by omega
          have e2 : (y != y0) = false := by simpa using hyy
          clear hin hx hx0 hL hd0 htk hmem hy hy0 g0 e1
          go_wp2_with fail
          refine region_by (fun a b => a = b) way_eq 15 15 (fun W => wr.drew = W) (by kernel_rfl) (by kernel_rfl) (fun _ _ d _ _ h => by cases d <;> exact h) (fun x y h hx => h ▸ hx) rfl (fun KT hKT => ?_)
          simp only [List.take_succ_cons, List.take_zero]
          refine Lex.want (v := ?_) (by rfl) (fun W hW => ?hd1) ?_
          case hd1 =>
            have hh := HF.out W hW
            clear hW
            go_split_ands
            go_simp
            first | rfl | exact way_new.refl _ | exact way_grow.refl _ | (refine ⟨?_, way_new.refl _⟩; rfl) | (refine ⟨?_, way_grow.refl _⟩; rfl)
          try simp only [Act.put, List.setIfInBounds_toArray, List.set_cons_zero, List.set_cons_succ, List.getElem_toArray, List.getElem_cons_zero, List.getElem_cons_succ]
          refine Lex.want (v := ?_) (by rfl) (fun W hW => ?hd2) ?_
          case hd2 =>
            have hh := HF.out W hW
            clear hW
            go_split_ands
            go_simp
            first | rfl | exact way_new.refl _ | exact way_grow.refl _ | (refine ⟨?_, way_new.refl _⟩; rfl) | (refine ⟨?_, way_grow.refl _⟩; rfl)
          try simp only [Act.put, List.setIfInBounds_toArray, List.set_cons_zero, List.set_cons_succ, List.getElem_toArray, List.getElem_cons_zero, List.getElem_cons_succ]
          refine Lex.want (v := ?_) (by rfl) (fun W hW => ?hd3) ?_
          case hd3 =>
            have hcc := hide (show Calls _ _ _ W _ from hW ▸ HIS.out)
            go_simp
            exact hcc
          try simp only [Act.put, List.setIfInBounds_toArray, List.set_cons_zero, List.set_cons_succ, List.getElem_toArray, List.getElem_cons_zero, List.getElem_cons_succ]
          refine Lex.want (v := ?_) (by rfl) (fun W hW => ?hd4) ?_
          case hd4 =>
            have hh := HF.out W hW
            clear hW
            go_split_ands
            go_simp
            first | rfl | exact way_new.refl _ | exact way_grow.refl _ | (refine ⟨?_, way_new.refl _⟩; rfl) | (refine ⟨?_, way_grow.refl _⟩; rfl)
          try simp only [Act.put, List.setIfInBounds_toArray, List.set_cons_zero, List.set_cons_succ, List.getElem_toArray, List.getElem_cons_zero, List.getElem_cons_succ]
          refine Lex.want (v := ?_) (by rfl) (fun W hW => ?hd5) ?_
          case hd5 =>
            have hh := HF.out W hW
            clear hW
            go_split_ands
            go_simp
            first | rfl | exact way_new.refl _ | exact way_grow.refl _ | (refine ⟨?_, way_new.refl _⟩; rfl) | (refine ⟨?_, way_grow.refl _⟩; rfl)
          try simp only [Act.put, List.setIfInBounds_toArray, List.set_cons_zero, List.set_cons_succ, List.getElem_toArray, List.getElem_cons_zero, List.getElem_cons_succ]
          refine Lex.want (v := ?_) (by rfl) (fun W hW => ?hd6) ?_
          case hd6 =>
            have hh := HF.out W hW
            clear hW
            go_split_ands
            go_simp
            first | rfl | exact way_new.refl _ | exact way_grow.refl _ | (refine ⟨?_, way_new.refl _⟩; rfl) | (refine ⟨?_, way_grow.refl _⟩; rfl)
          try simp only [Act.put, List.setIfInBounds_toArray, List.set_cons_zero, List.set_cons_succ, List.getElem_toArray, List.getElem_cons_zero, List.getElem_cons_succ]
          refine Lex.want (v := ?_) (by rfl) (fun W hW => ?hd7) ?_
          case hd7 =>
            have hh := HF.out W hW
            clear hW
            go_split_ands
            go_simp
            first | rfl | exact way_new.refl _ | exact way_grow.refl _ | (refine ⟨?_, way_new.refl _⟩; rfl) | (refine ⟨?_, way_grow.refl _⟩; rfl)
          try simp only [Act.put, List.setIfInBounds_toArray, List.set_cons_zero, List.set_cons_succ, List.getElem_toArray, List.getElem_cons_zero, List.getElem_cons_succ]
          refine Lex.want (v := ?_) (by rfl) (fun W hW => ?hd8) ?_
          case hd8 =>
            have hcc := hide (show Calls _ _ _ W _ from hW ▸ HH.out)
            go_simp
            exact hcc
          try simp only [Act.put, List.setIfInBounds_toArray, List.set_cons_zero, List.set_cons_succ, List.getElem_toArray, List.getElem_cons_zero, List.getElem_cons_succ]
          refine Lex.want (v := ?_) (by rfl) (fun W hW => ?hd9) ?_
          case hd9 =>
            have hh := HF.out W hW
            clear hW
            go_split_ands
            go_simp
            first | rfl | exact way_new.refl _ | exact way_grow.refl _ | (refine ⟨?_, way_new.refl _⟩; rfl) | (refine ⟨?_, way_grow.refl _⟩; rfl)
          try simp only [Act.put, List.setIfInBounds_toArray, List.set_cons_zero, List.set_cons_succ, List.getElem_toArray, List.getElem_cons_zero, List.getElem_cons_succ]
          refine Lex.want (v := ?_) (by rfl) (fun W hW => ?hd10) ?_
          case hd10 =>
            have hh := HF.out W hW
            clear hW
            go_split_ands
            go_simp
            first | rfl | exact way_new.refl _ | exact way_grow.refl _ | (refine ⟨?_, way_new.refl _⟩; rfl) | (refine ⟨?_, way_grow.refl _⟩; rfl)
          try simp only [Act.put, List.setIfInBounds_toArray, List.set_cons_zero, List.set_cons_succ, List.getElem_toArray, List.getElem_cons_zero, List.getElem_cons_succ]
          refine Lex.want (v := ?_) (by rfl) (fun W hW => ?hd11) ?_
          case hd11 =>
            have hh := HF.out W hW
            clear hW
            go_split_ands
            go_simp
            first | rfl | exact way_new.refl _ | exact way_grow.refl _ | (refine ⟨?_, way_new.refl _⟩; rfl) | (refine ⟨?_, way_grow.refl _⟩; rfl)
          try simp only [Act.put, List.setIfInBounds_toArray, List.set_cons_zero, List.set_cons_succ, List.getElem_toArray, List.getElem_cons_zero, List.getElem_cons_succ]
          refine Lex.want (v := ?_) (by rfl) (fun W hW => ?hd12) ?_
          case hd12 =>
            have hh := HF.out W hW
            clear hW
            go_split_ands
            go_simp
            first | rfl | exact way_new.refl _ | exact way_grow.refl _ | (refine ⟨?_, way_new.refl _⟩; rfl) | (refine ⟨?_, way_grow.refl _⟩; rfl)
          try simp only [Act.put, List.setIfInBounds_toArray, List.set_cons_zero, List.set_cons_succ, List.getElem_toArray, List.getElem_cons_zero, List.getElem_cons_succ]
          refine Lex.want (v := ?_) (by rfl) (fun W hW => ?hd13) ?_
          case hd13 =>
            have hcc := hide (show Calls _ _ _ W _ from hW ▸ HH0.out)
            go_simp
            exact hcc
          try simp only [Act.put, List.setIfInBounds_toArray, List.set_cons_zero, List.set_cons_succ, List.getElem_toArray, List.getElem_cons_zero, List.getElem_cons_succ]
          refine Lex.want (v := ?_) (by rfl) (fun W hW => ?hd14) ?_
          case hd14 =>
            have hh := HF.out W hW
            clear hW
            go_split_ands
            go_simp
            first | rfl | exact way_new.refl _ | exact way_grow.refl _ | (refine ⟨?_, way_new.refl _⟩; rfl) | (refine ⟨?_, way_grow.refl _⟩; rfl)
          try simp only [Act.put, List.setIfInBounds_toArray, List.set_cons_zero, List.set_cons_succ, List.getElem_toArray, List.getElem_cons_zero, List.getElem_cons_succ]
          refine Lex.want (v := ?_) (by rfl) (fun W hW => ?hd15) ?_
          case hd15 =>
            have hh := HF.out W hW
            clear hW
            go_split_ands
            go_simp
            first | rfl | exact way_new.refl _ | exact way_grow.refl _ | (refine ⟨?_, way_new.refl _⟩; rfl) | (refine ⟨?_, way_grow.refl _⟩; rfl)
          try simp only [Act.put, List.setIfInBounds_toArray, List.set_cons_zero, List.set_cons_succ, List.getElem_toArray, List.getElem_cons_zero, List.getElem_cons_succ]
          refine Lex.nil (hKT.out _ ?_)
          clear hKT KT
          refine Reg.done (by kernel_rfl) (fun W hW hWT => ⟨by kernel_rfl, ?_⟩)
          simp only [List.drop_succ_cons, List.drop_zero]
          subst hW
          clear hWT HF
          have HB := hide (show Below w.heap.size w wr.drew from hb.out.drew)
          go_wp2_with fail
          exact ⟨⟨k + 1, by omega, by go_num, HN, HB⟩, by simp [intOf]; omega⟩
        · have HN : Hid (b0 = false) := hide (by
            rw [← HS.out]
            refine decide_eq_false fun hs => hyy ?_
            have := (hs x hmem).2
            rw [hd0, hy, hy0] at this
            exact this)
          have hn0 : 0 < n := by omega
          have e2 : (y != y0) = true := by simpa using hyy
          clear hin hx hx0 hL hd0 htk hmem hy hy0 g0 e1
          go_wp2_with fail
          refine region_by (fun a b => a = b) way_eq 15 15 (fun W => wr.drew = W) (by kernel_rfl) (by kernel_rfl) (fun _ _ d _ _ h => by cases d <;> exact h) (fun x y h hx => h ▸ hx) rfl (fun KT hKT => ?_)
          simp only [List.take_succ_cons, List.take_zero]
          refine Lex.want (v := ?_) (by rfl) (fun W hW => ?hd16) ?_
          case hd16 =>
            have hh := HF.out W hW
            clear hW
            go_split_ands
            go_simp
            first | rfl | exact way_new.refl _ | exact way_grow.refl _ | (refine ⟨?_, way_new.refl _⟩; rfl) | (refine ⟨?_, way_grow.refl _⟩; rfl)
          try simp only [Act.put, List.setIfInBounds_toArray, List.set_cons_zero, List.set_cons_succ, List.getElem_toArray, List.getElem_cons_zero, List.getElem_cons_succ]
          refine Lex.want (v := ?_) (by rfl) (fun W hW => ?hd17) ?_
          case hd17 =>
            have hh := HF.out W hW
            clear hW
            go_split_ands
            go_simp
            first | rfl | exact way_new.refl _ | exact way_grow.refl _ | (refine ⟨?_, way_new.refl _⟩; rfl) | (refine ⟨?_, way_grow.refl _⟩; rfl)
          try simp only [Act.put, List.setIfInBounds_toArray, List.set_cons_zero, List.set_cons_succ, List.getElem_toArray, List.getElem_cons_zero, List.getElem_cons_succ]
          refine Lex.want (v := ?_) (by rfl) (fun W hW => ?hd18) ?_
          case hd18 =>
            have hcc := hide (show Calls _ _ _ W _ from hW ▸ HIS.out)
            go_simp
            exact hcc
          try simp only [Act.put, List.setIfInBounds_toArray, List.set_cons_zero, List.set_cons_succ, List.getElem_toArray, List.getElem_cons_zero, List.getElem_cons_succ]
          refine Lex.want (v := ?_) (by rfl) (fun W hW => ?hd19) ?_
          case hd19 =>
            have hh := HF.out W hW
            clear hW
            go_split_ands
            go_simp
            first | rfl | exact way_new.refl _ | exact way_grow.refl _ | (refine ⟨?_, way_new.refl _⟩; rfl) | (refine ⟨?_, way_grow.refl _⟩; rfl)
          try simp only [Act.put, List.setIfInBounds_toArray, List.set_cons_zero, List.set_cons_succ, List.getElem_toArray, List.getElem_cons_zero, List.getElem_cons_succ]
          refine Lex.want (v := ?_) (by rfl) (fun W hW => ?hd20) ?_
          case hd20 =>
            have hh := HF.out W hW
            clear hW
            go_split_ands
            go_simp
            first | rfl | exact way_new.refl _ | exact way_grow.refl _ | (refine ⟨?_, way_new.refl _⟩; rfl) | (refine ⟨?_, way_grow.refl _⟩; rfl)
          try simp only [Act.put, List.setIfInBounds_toArray, List.set_cons_zero, List.set_cons_succ, List.getElem_toArray, List.getElem_cons_zero, List.getElem_cons_succ]
          refine Lex.want (v := ?_) (by rfl) (fun W hW => ?hd21) ?_
          case hd21 =>
            have hh := HF.out W hW
            clear hW
            go_split_ands
            go_simp
            first | rfl | exact way_new.refl _ | exact way_grow.refl _ | (refine ⟨?_, way_new.refl _⟩; rfl) | (refine ⟨?_, way_grow.refl _⟩; rfl)
          try simp only [Act.put, List.setIfInBounds_toArray, List.set_cons_zero, List.set_cons_succ, List.getElem_toArray, List.getElem_cons_zero, List.getElem_cons_succ]
          refine Lex.want (v := ?_) (by rfl) (fun W hW => ?hd22) ?_
          case hd22 =>
            have hh := HF.out W hW
            clear hW
            go_split_ands
            go_simp
            first | rfl | exact way_new.refl _ | exact way_grow.refl _ | (refine ⟨?_, way_new.refl _⟩; rfl) | (refine ⟨?_, way_grow.refl _⟩; rfl)
          try simp only [Act.put, List.setIfInBounds_toArray, List.set_cons_zero, List.set_cons_succ, List.getElem_toArray, List.getElem_cons_zero, List.getElem_cons_succ]
          refine Lex.want (v := ?_) (by rfl) (fun W hW => ?hd23) ?_
          case hd23 =>
            have hcc := hide (show Calls _ _ _ W _ from hW ▸ HH.out)
            go_simp
            exact hcc
          try simp only [Act.put, List.setIfInBounds_toArray, List.set_cons_zero, List.set_cons_succ, List.getElem_toArray, List.getElem_cons_zero, List.getElem_cons_succ]
          refine Lex.want (v := ?_) (by rfl) (fun W hW => ?hd24) ?_
          case hd24 =>
            have hh := HF.out W hW
            clear hW
            go_split_ands
            go_simp
            first | rfl | exact way_new.refl _ | exact way_grow.refl _ | (refine ⟨?_, way_new.refl _⟩; rfl) | (refine ⟨?_, way_grow.refl _⟩; rfl)
          try simp only [Act.put, List.setIfInBounds_toArray, List.set_cons_zero, List.set_cons_succ, List.getElem_toArray, List.getElem_cons_zero, List.getElem_cons_succ]
          refine Lex.want (v := ?_) (by rfl) (fun W hW => ?hd25) ?_
          case hd25 =>
            have hh := HF.out W hW
            clear hW
            go_split_ands
            go_simp
            first | rfl | exact way_new.refl _ | exact way_grow.refl _ | (refine ⟨?_, way_new.refl _⟩; rfl) | (refine ⟨?_, way_grow.refl _⟩; rfl)
          try simp only [Act.put, List.setIfInBounds_toArray, List.set_cons_zero, List.set_cons_succ, List.getElem_toArray, List.getElem_cons_zero, List.getElem_cons_succ]
          refine Lex.want (v := ?_) (by rfl) (fun W hW => ?hd26) ?_
          case hd26 =>
            have hh := HF.out W hW
            clear hW
            go_split_ands
            go_simp
            first | rfl | exact way_new.refl _ | exact way_grow.refl _ | (refine ⟨?_, way_new.refl _⟩; rfl) | (refine ⟨?_, way_grow.refl _⟩; rfl)
          try simp only [Act.put, List.setIfInBounds_toArray, List.set_cons_zero, List.set_cons_succ, List.getElem_toArray, List.getElem_cons_zero, List.getElem_cons_succ]
          refine Lex.want (v := ?_) (by rfl) (fun W hW => ?hd27) ?_
          case hd27 =>
            have hh := HF.out W hW
            clear hW
            go_split_ands
            go_simp
            first | rfl | exact way_new.refl _ | exact way_grow.refl _ | (refine ⟨?_, way_new.refl _⟩; rfl) | (refine ⟨?_, way_grow.refl _⟩; rfl)
          try simp only [Act.put, List.setIfInBounds_toArray, List.set_cons_zero, List.set_cons_succ, List.getElem_toArray, List.getElem_cons_zero, List.getElem_cons_succ]
          refine Lex.want (v := ?_) (by rfl) (fun W hW => ?hd28) ?_
          case hd28 =>
            have hcc := hide (show Calls _ _ _ W _ from hW ▸ HH0.out)
            go_simp
            exact hcc
          try simp only [Act.put, List.setIfInBounds_toArray, List.set_cons_zero, List.set_cons_succ, List.getElem_toArray, List.getElem_cons_zero, List.getElem_cons_succ]
          refine Lex.want (v := ?_) (by rfl) (fun W hW => ?hd29) ?_
          case hd29 =>
            have hh := HF.out W hW
            clear hW
            go_split_ands
            go_simp
            first | rfl | exact way_new.refl _ | exact way_grow.refl _ | (refine ⟨?_, way_new.refl _⟩; rfl) | (refine ⟨?_, way_grow.refl _⟩; rfl)
          try simp only [Act.put, List.setIfInBounds_toArray, List.set_cons_zero, List.set_cons_succ, List.getElem_toArray, List.getElem_cons_zero, List.getElem_cons_succ]
          refine Lex.want (v := ?_) (by rfl) (fun W hW => ?hd30) ?_
          case hd30 =>
            have hh := HF.out W hW
            clear hW
            go_split_ands
            go_simp
            first | rfl | exact way_new.refl _ | exact way_grow.refl _ | (refine ⟨?_, way_new.refl _⟩; rfl) | (refine ⟨?_, way_grow.refl _⟩; rfl)
          try simp only [Act.put, List.setIfInBounds_toArray, List.set_cons_zero, List.set_cons_succ, List.getElem_toArray, List.getElem_cons_zero, List.getElem_cons_succ]
          refine Lex.nil (hKT.out _ ?_)
          clear hKT KT
          refine Reg.done (by kernel_rfl) (fun W hW hWT => ⟨by kernel_rfl, ?_⟩)
          simp only [List.drop_succ_cons, List.drop_zero]
          subst hW
          clear hWT HF
          go_wp2_with fail
          go_ret
          exact ⟨by rw [HN.out]; rfl, hb.out.drew⟩
      · have HN : Hid (b0 = false) := hide (by
          rw [← HS.out]
          exact decide_eq_false fun hs => hin (hs x hmem).1)
        have e1 : decide (1 ≤ x ∧ x ≤ (c.n : Int)) = false := decide_eq_false hin
        rw [e1] at HIS
        clear hin hx hx0 hL hd0 htk hmem hy hy0 g0 e1
        go_wp2_with fail
        refine region_by (fun a b => a = b) way_eq 15 15 (fun W => wr.drew = W) (by kernel_rfl) (by kernel_rfl) (fun _ _ d _ _ h => by cases d <;> exact h) (fun x y h hx => h ▸ hx) rfl (fun KT hKT => ?_)
        simp only [List.take_succ_cons, List.take_zero]
        refine Lex.want (v := ?_) (by rfl) (fun W hW => ?hd31) ?_
        case hd31 =>
          have hh := HF.out W hW
          clear hW
          go_split_ands
          go_simp
          first | rfl | exact way_new.refl _ | exact way_grow.refl _ | (refine ⟨?_, way_new.refl _⟩; rfl) | (refine ⟨?_, way_grow.refl _⟩; rfl)
        try simp only [Act.put, List.setIfInBounds_toArray, List.set_cons_zero, List.set_cons_succ, List.getElem_toArray, List.getElem_cons_zero, List.getElem_cons_succ]
        refine Lex.want (v := ?_) (by rfl) (fun W hW => ?hd32) ?_
        case hd32 =>
          have hh := HF.out W hW
          clear hW
          go_split_ands
          go_simp
          first | rfl | exact way_new.refl _ | exact way_grow.refl _ | (refine ⟨?_, way_new.refl _⟩; rfl) | (refine ⟨?_, way_grow.refl _⟩; rfl)
        try simp only [Act.put, List.setIfInBounds_toArray, List.set_cons_zero, List.set_cons_succ, List.getElem_toArray, List.getElem_cons_zero, List.getElem_cons_succ]
        refine Lex.want (v := ?_) (by rfl) (fun W hW => ?hd33) ?_
        case hd33 =>
          have hcc := hide (show Calls _ _ _ W _ from hW ▸ HIS.out)
          go_simp
          exact hcc
        try simp only [Act.put, List.setIfInBounds_toArray, List.set_cons_zero, List.set_cons_succ, List.getElem_toArray, List.getElem_cons_zero, List.getElem_cons_succ]
        refine Lex.want (v := ?_) (by rfl) (fun W hW => ?hd34) ?_
        case hd34 =>
          have hh := HF.out W hW
          clear hW
          go_split_ands
          go_simp
          first | rfl | exact way_new.refl _ | exact way_grow.refl _ | (refine ⟨?_, way_new.refl _⟩; rfl) | (refine ⟨?_, way_grow.refl _⟩; rfl)
        try simp only [Act.put, List.setIfInBounds_toArray, List.set_cons_zero, List.set_cons_succ, List.getElem_toArray, List.getElem_cons_zero, List.getElem_cons_succ]
        refine Lex.want (v := ?_) (by rfl) (fun W hW => ?hd35) ?_
        case hd35 =>
          have hh := HF.out W hW
          clear hW
          go_split_ands
          go_simp
          first | rfl | exact way_new.refl _ | exact way_grow.refl _ | (refine ⟨?_, way_new.refl _⟩; rfl) | (refine ⟨?_, way_grow.refl _⟩; rfl)
        try simp only [Act.put, List.setIfInBounds_toArray, List.set_cons_zero, List.set_cons_succ, List.getElem_toArray, List.getElem_cons_zero, List.getElem_cons_succ]
        refine Lex.skip (by rfl) ?_
        try simp only [Act.put, List.setIfInBounds_toArray, List.set_cons_zero, List.set_cons_succ, List.getElem_toArray, List.getElem_cons_zero, List.getElem_cons_succ]
        refine Lex.skip (by rfl) ?_
        try simp only [Act.put, List.setIfInBounds_toArray, List.set_cons_zero, List.set_cons_succ, List.getElem_toArray, List.getElem_cons_zero, List.getElem_cons_succ]
        refine Lex.skip (by rfl) ?_
        try simp only [Act.put, List.setIfInBounds_toArray, List.set_cons_zero, List.set_cons_succ, List.getElem_toArray, List.getElem_cons_zero, List.getElem_cons_succ]
        refine Lex.skip (by rfl) ?_
        try simp only [Act.put, List.setIfInBounds_toArray, List.set_cons_zero, List.set_cons_succ, List.getElem_toArray, List.getElem_cons_zero, List.getElem_cons_succ]
        refine Lex.skip (by rfl) ?_
        try simp only [Act.put, List.setIfInBounds_toArray, List.set_cons_zero, List.set_cons_succ, List.getElem_toArray, List.getElem_cons_zero, List.getElem_cons_succ]
        refine Lex.skip (by rfl) ?_
        try simp only [Act.put, List.setIfInBounds_toArray, List.set_cons_zero, List.set_cons_succ, List.getElem_toArray, List.getElem_cons_zero, List.getElem_cons_succ]
        refine Lex.skip (by rfl) ?_
        try simp only [Act.put, List.setIfInBounds_toArray, List.set_cons_zero, List.set_cons_succ, List.getElem_toArray, List.getElem_cons_zero, List.getElem_cons_succ]
        refine Lex.skip (by rfl) ?_
        try simp only [Act.put, List.setIfInBounds_toArray, List.set_cons_zero, List.set_cons_succ, List.getElem_toArray, List.getElem_cons_zero, List.getElem_cons_succ]
        refine Lex.skip (by rfl) ?_
        try simp only [Act.put, List.setIfInBounds_toArray, List.set_cons_zero, List.set_cons_succ, List.getElem_toArray, List.getElem_cons_zero, List.getElem_cons_succ]
        refine Lex.want (v := ?_) (by rfl) (fun W hW => ?hd36) ?_
        case hd36 =>
          have hh := HF.out W hW
          clear hW
          go_split_ands
          go_simp
          first | rfl | exact way_new.refl _ | exact way_grow.refl _ | (refine ⟨?_, way_new.refl _⟩; rfl) | (refine ⟨?_, way_grow.refl _⟩; rfl)
        try simp only [Act.put, List.setIfInBounds_toArray, List.set_cons_zero, List.set_cons_succ, List.getElem_toArray, List.getElem_cons_zero, List.getElem_cons_succ]
        refine Lex.nil (hKT.out _ ?_)
        clear hKT KT
        refine Reg.done (by kernel_rfl) (fun W hW hWT => ⟨by kernel_rfl, ?_⟩)
        simp only [List.drop_succ_cons, List.drop_zero]
        subst hW
        clear hWT HF
        go_wp2_with fail
        go_ret
        exact ⟨by rw [HN.out]; rfl, hb.out.drew⟩
    · have hkn : k = n := by omega
      subst hkn
      have HN : Hid (b0 = true) := hide (by
        rw [← HS.out]
        refine decide_eq_true ?_
        have := hsm.out
        rwa [← hn, List.take_length] at this)
      go_wp2_with fail
      go_ret
      exact ⟨by rw [HN.out]; rfl, hb.out⟩
end Go.Proofs.Ytpkhmhfgnpnpfaa
