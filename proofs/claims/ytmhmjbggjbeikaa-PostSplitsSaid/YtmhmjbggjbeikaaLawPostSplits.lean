/- PostSplits: the walk. -/
import Derived.Test.YtmhmjbggjbeikaaDuo11
import Derived.Test.YtmhmjbggjbeikaaApp11
import Derived.Test.YtmhmjbggjbeikaaOpenW11
import Derived.Test.YtmhmjbggjbeikaaAlive11
import Derived.Deep.CutRange
import Derived.Deep.CutBlock
import Derived.Deep.DeepCutAuto
namespace Go.Proofs.Ytmhmjbggjbeikaa
set_option linter.unusedSimpArgs false
set_option linter.unusedVariables false
open Go.RowKit
attribute [local go_sem] objAt_alloc objAt_alloc_at objAt_drew objAt_drewN objAt_setCell comesTo_value comesTo_enter

namespace Splits
def RunI (k : Nat) (L : Led) : Prop := EvenLed L ∧ L.blk = [] ∧ L.m.length ≤ k
theorem issue_blk (L : Led) (k : Key) (n : Int) : (issueLed L k n).blk = L.blk := by
  unfold issueLed
  split <;> rfl
theorem RunI.issue {k : Nat} {L : Led} (h : RunI k L) (key : Key) (n : Int) : RunI (k + 1) (issueLed L key n) := by
  obtain ⟨h1, h2, h3⟩ := h
  have := issue_len L key n
  exact ⟨even_issue h1 _ _, by rw [issue_blk]; exact h2, by omega⟩
theorem RunI.on {k : Nat} {L : Led} (h : RunI k L) : RunI (k + 1) L := ⟨h.1, h.2.1, by have := h.2.2; omega⟩
end Splits

open Splits in
set_option maxHeartbeats 8000000 in
set_option maxRecDepth 100000 in
theorem postSplits_walk (a0 : Option Addr) (len0 cap0 : Nat) (l0 : List POp11) (a1 : Option Addr) (len1 cap1 : Nat) (l1 : List PPost) (a2 : Option Addr) (len2 cap2 : Nat) (l2 : List PPost) (w : World)
    (h : OpsArg w a0 len0 cap0 l0) (hp : PostsArg w a1 len1 cap1 l1) (hq : PostsArg w a2 len2 cap2 l2) :
    Calls Try.prog 8 #[.slice a0 len0 cap0, .slice a1 len1 cap1, .slice a2 len2 cap2] w fun e w' => e = .returned (.bool true) ∧ Below w.heap.size w w' := by
  obtain ⟨hlen, hlc, hcm, hwf, hel⟩ := h
  have HLI := hide (light_calls a0 len0 cap0 l0 w hlen (by omega) hel (fun o ho => by obtain ⟨w1, w2, w3, w4, w5, w6, w7, w8, w9⟩ := hwf o ho; omega))
  have HWF := hide hwf
  have HEL := hide hel
  have HLEN := hide hlen
  have HP := hide hp
  have HQ := hide hq
  have hc1 : len1 ≤ 9223372036854775807 := by obtain ⟨h1, h2, h3, _⟩ := hp; unfold maxLen at h3; omega
  have hc2 : len2 ≤ 9223372036854775807 := by obtain ⟨h1, h2, h3, _⟩ := hq; unfold maxLen at h3; omega
  unfold maxLen at hcm
  clear hwf hel hlen hp hq
  go_enter Try.func8, Try.ntmps8
  go_wp2_with (go_at_call 28; refine Hid.out ?_)
  refine hide ?_
  refine HLI.out.mono ?_
  rintro e w1 ⟨b, rfl, hb1, hb2⟩
  have HB1 := hide hb2
  have HLT := hide hb1
  clear hb1 hb2 HLI
  by_cases hyes : b = true ∧ len1 ≤ 60 ∧ len2 ≤ 60
  case neg =>
    cases b with
    | false =>
      go_wp2_with (go_at_call 23; refine (alive11_calls _).mono ?_; rintro e w2 ⟨rfl, hb4⟩; have HB4 := hide hb4; clear hb4)
      go_ret
      exact ⟨rfl, HB1.out.trans (HB4.out.mono HB1.out.size)⟩
    | true =>
      by_cases h1 : 60 < len1
      · have e1 : decide ((60 : Int) < (len1 : Int)) = true := decide_eq_true (by omega)
        go_wp2_with (go_at_call 23; refine (alive11_calls _).mono ?_; rintro e w2 ⟨rfl, hb4⟩; have HB4 := hide hb4; clear hb4)
        go_ret
        exact ⟨rfl, HB1.out.trans (HB4.out.mono HB1.out.size)⟩
      · have e1 : decide ((60 : Int) < (len1 : Int)) = false := decide_eq_false (by omega)
        have e2 : decide ((60 : Int) < (len2 : Int)) = true := decide_eq_true (by
          have : ¬ len2 ≤ 60 := fun e => hyes ⟨rfl, by omega, e⟩
          omega)
        go_wp2_with (go_at_call 23; refine (alive11_calls _).mono ?_; rintro e w2 ⟨rfl, hb4⟩; have HB4 := hide hb4; clear hb4)
        go_ret
        exact ⟨rfl, HB1.out.trans (HB4.out.mono HB1.out.size)⟩
  case pos =>
    obtain ⟨rfl, h60, h61⟩ := hyes
    obtain ⟨hl1, hl2⟩ := HLT.out rfl
    rw [HLEN.out] at hl1
    clear HLT
    have e1 : decide ((60 : Int) < (len1 : Int)) = false := decide_eq_false (by omega)
    have e2 : decide ((60 : Int) < (len2 : Int)) = false := decide_eq_false (by omega)
    go_wp2_with (go_at_call 24; refine Hid.out ?_)
    refine hide ?_
    refine (ls_new w1).mono ?_
    rintro e w2 ⟨ga, pa, rfl, hled⟩
    have HLED : Hid (Leds w ga pa led0 (fun _ => False) w2) := hide (by
      obtain ⟨F, q1, q2, q3, q4⟩ := hled
      exact ⟨F, q1, fun j hj => ⟨Nat.le_trans HB1.out.size (q2 j hj).1, (q2 j hj).2⟩, HB1.out.trans (q3.mono HB1.out.size), q4⟩)
    clear hled
    go_wp2_with (go_at_call 24; refine Hid.out ?_)
    refine hide ?_
    refine (duo_new HLED.out).mono ?_
    rintro e w3 ⟨gb, pb, rfl, hduo⟩
    have HDUO := hide hduo
    clear hduo
    have HR0 : Hid (RunI 0 led0) := hide ⟨even_led0, rfl, by simp [led0]⟩
    go_wp2_with fail
    go_loopw [9] (fun iv W => ∃ (k : Nat) (L : Led), k ≤ len0 ∧ iv = .int .i64 k ∧ Hid (RunI k L) ∧ Hid (Duo w ga pa gb pb L L W)) (fun iv _ => len0 - (intOf iv).toNat)
    case atStart => exact ⟨0, led0, by omega, rfl, HR0, HDUO⟩
    case round =>
      obtain ⟨k, L, hk, rfl, hrun, hrel⟩ := hrel
      clear HR0 HDUO HLED
      by_cases hlt : k < len0
      · obtain ⟨o, ho⟩ : ∃ o, l0[k]? = some o := ⟨l0[k]'(by have := HLEN.out; omega), List.getElem?_eq_getElem (by have := HLEN.out; omega)⟩
        have hwo := HWF.out o (List.mem_of_getElem? ho)
        have HS : Hid (shortText o.k.1 ∧ shortText o.k.2) := hide (by
          obtain ⟨w1, w2, w3, w4, w5, w6, w7, w8, w9⟩ := hwo
          exact ⟨reach_short w3, reach_short w4⟩)
        obtain ⟨b, off, rfl, hb, d0, d1, d2, d3, d4⟩ := HEL.out.op ho
        clear hwo ho
        obtain ⟨kd, nn, ⟨k1, k2⟩, oa, ol, oc, oP⟩ := o
        simp only at d0 d1 d2 d3 d4
        have HC : Hid (∀ W, Below w.heap.size w W → W.cell? ⟨b, off + k * 5, none⟩ = some (.int .i64 kd) ∧ W.cell? ⟨b, off + k * 5 + 1, none⟩ = some (.int .i64 nn) ∧ W.cell? ⟨b, off + k * 5 + 2, none⟩ = some (.string k1) ∧ W.cell? ⟨b, off + k * 5 + 3, none⟩ = some (.string k2)) := hide fun W hW =>
          ⟨(hW.cell (p := ⟨b, off + k * 5, none⟩) hb).trans d0, (hW.cell (p := ⟨b, off + k * 5 + 1, none⟩) hb).trans d1, (hW.cell (p := ⟨b, off + k * 5 + 2, none⟩) hb).trans d2, (hW.cell (p := ⟨b, off + k * 5 + 3, none⟩) hb).trans d3⟩
        clear d0 d1 d2 d3 d4
        obtain ⟨c0, c1, c2, c3⟩ := HC.out _ hrel.out.below
        by_cases hk3 : kd = 3
        · subst hk3
          have HD1 := hide (hrel.out.step (W' := wr.drew) (Below.refl _ _).drew)
          have HF : Hid (∀ W, wr.drew = W → W.cell? ⟨b, off + k * 5 + 1, none⟩ = some (.int .i64 nn) ∧ W.cell? ⟨b, off + k * 5 + 2, none⟩ = some (.string k1) ∧ W.cell? ⟨b, off + k * 5 + 3, none⟩ = some (.string k2)) := hide fun W hW => hW ▸ ⟨c1, c2, c3⟩
          go_upto_region 10 with fail
          clear c0 c1 c2 c3
          refine region_by (fun a b => a = b) way_eq 11 11 (fun W => wr.drew = W) (by kernel_rfl) (by kernel_rfl) (fun _ _ d _ _ h => by cases d <;> exact h) (fun x y h hx => h ▸ hx) rfl (fun KT hKT => ?_)
          simp only [List.take_succ_cons, List.take_zero]
          refine Lex.want (v := ?_) (by rfl) (fun W hW => ?hd1) ?_
          case hd1 =>
            have hh := HF.out W hW
            clear hW
            go_split_ands
            go_simp
            first | rfl | exact way_new.refl _ | exact way_grow.refl _ | (refine ⟨?_, way_new.refl _⟩; rfl) | (refine ⟨?_, way_grow.refl _⟩; rfl)
          try simp only [Act.put, List.setIfInBounds_toArray, List.set_cons_zero, List.set_cons_succ, List.getElem_toArray, List.getElem_cons_zero, List.getElem_cons_succ]
          refine Lex.want (v := ?_) (by rfl) (fun W hW => ?hd2) ?_
          case hd2 =>
            have hh := HF.out W hW
            clear hW
            go_split_ands
            go_simp
            first | rfl | exact way_new.refl _ | exact way_grow.refl _ | (refine ⟨?_, way_new.refl _⟩; rfl) | (refine ⟨?_, way_grow.refl _⟩; rfl)
          try simp only [Act.put, List.setIfInBounds_toArray, List.set_cons_zero, List.set_cons_succ, List.getElem_toArray, List.getElem_cons_zero, List.getElem_cons_succ]
          refine Lex.want (v := ?_) (by rfl) (fun W hW => ?hd3) ?_
          case hd3 =>
            have hh := HF.out W hW
            clear hW
            go_split_ands
            go_simp
            first | rfl | exact way_new.refl _ | exact way_grow.refl _ | (refine ⟨?_, way_new.refl _⟩; rfl) | (refine ⟨?_, way_grow.refl _⟩; rfl)
          try simp only [Act.put, List.setIfInBounds_toArray, List.set_cons_zero, List.set_cons_succ, List.getElem_toArray, List.getElem_cons_zero, List.getElem_cons_succ]
          refine Lex.want (v := ?_) (by rfl) (fun W hW => ?hd4) ?_
          case hd4 =>
            have hh := HF.out W hW
            clear hW
            go_split_ands
            go_simp
            first | rfl | exact way_new.refl _ | exact way_grow.refl _ | (refine ⟨?_, way_new.refl _⟩; rfl) | (refine ⟨?_, way_grow.refl _⟩; rfl)
          try simp only [Act.put, List.setIfInBounds_toArray, List.set_cons_zero, List.set_cons_succ, List.getElem_toArray, List.getElem_cons_zero, List.getElem_cons_succ]
          refine Lex.want (v := ?_) (by rfl) (fun W hW => ?hd5) ?_
          case hd5 =>
            have hh := HF.out W hW
            clear hW
            go_split_ands
            go_simp
            first | rfl | exact way_new.refl _ | exact way_grow.refl _ | (refine ⟨?_, way_new.refl _⟩; rfl) | (refine ⟨?_, way_grow.refl _⟩; rfl)
          try simp only [Act.put, List.setIfInBounds_toArray, List.set_cons_zero, List.set_cons_succ, List.getElem_toArray, List.getElem_cons_zero, List.getElem_cons_succ]
          refine Lex.want (v := ?_) (by rfl) (fun W hW => ?hd6) ?_
          case hd6 =>
            have hh := HF.out W hW
            clear hW
            go_split_ands
            go_simp
            first | rfl | exact way_new.refl _ | exact way_grow.refl _ | (refine ⟨?_, way_new.refl _⟩; rfl) | (refine ⟨?_, way_grow.refl _⟩; rfl)
          try simp only [Act.put, List.setIfInBounds_toArray, List.set_cons_zero, List.set_cons_succ, List.getElem_toArray, List.getElem_cons_zero, List.getElem_cons_succ]
          refine Lex.want (v := ?_) (by rfl) (fun W hW => ?hd7) ?_
          case hd7 =>
            have hh := HF.out W hW
            clear hW
            go_split_ands
            go_simp
            first | rfl | exact way_new.refl _ | exact way_grow.refl _ | (refine ⟨?_, way_new.refl _⟩; rfl) | (refine ⟨?_, way_grow.refl _⟩; rfl)
          try simp only [Act.put, List.setIfInBounds_toArray, List.set_cons_zero, List.set_cons_succ, List.getElem_toArray, List.getElem_cons_zero, List.getElem_cons_succ]
          refine Lex.want (v := ?_) (by rfl) (fun W hW => ?hd8) ?_
          case hd8 =>
            have hh := HF.out W hW
            clear hW
            go_split_ands
            go_simp
            first | rfl | exact way_new.refl _ | exact way_grow.refl _ | (refine ⟨?_, way_new.refl _⟩; rfl) | (refine ⟨?_, way_grow.refl _⟩; rfl)
          try simp only [Act.put, List.setIfInBounds_toArray, List.set_cons_zero, List.set_cons_succ, List.getElem_toArray, List.getElem_cons_zero, List.getElem_cons_succ]
          refine Lex.want (v := ?_) (by rfl) (fun W hW => ?hd9) ?_
          case hd9 =>
            have hh := HF.out W hW
            clear hW
            go_split_ands
            go_simp
            first | rfl | exact way_new.refl _ | exact way_grow.refl _ | (refine ⟨?_, way_new.refl _⟩; rfl) | (refine ⟨?_, way_grow.refl _⟩; rfl)
          try simp only [Act.put, List.setIfInBounds_toArray, List.set_cons_zero, List.set_cons_succ, List.getElem_toArray, List.getElem_cons_zero, List.getElem_cons_succ]
          refine Lex.want (v := ?_) (by rfl) (fun W hW => ?hd10) ?_
          case hd10 =>
            have hh := HF.out W hW
            clear hW
            go_split_ands
            go_simp
            first | rfl | exact way_new.refl _ | exact way_grow.refl _ | (refine ⟨?_, way_new.refl _⟩; rfl) | (refine ⟨?_, way_grow.refl _⟩; rfl)
          try simp only [Act.put, List.setIfInBounds_toArray, List.set_cons_zero, List.set_cons_succ, List.getElem_toArray, List.getElem_cons_zero, List.getElem_cons_succ]
          refine Lex.want (v := ?_) (by rfl) (fun W hW => ?hd11) ?_
          case hd11 =>
            have hh := HF.out W hW
            clear hW
            go_split_ands
            go_simp
            first | rfl | exact way_new.refl _ | exact way_grow.refl _ | (refine ⟨?_, way_new.refl _⟩; rfl) | (refine ⟨?_, way_grow.refl _⟩; rfl)
          try simp only [Act.put, List.setIfInBounds_toArray, List.set_cons_zero, List.set_cons_succ, List.getElem_toArray, List.getElem_cons_zero, List.getElem_cons_succ]
          refine Lex.nil (hKT.out _ ?_)
          clear hKT KT
          refine Reg.done (by kernel_rfl) (fun W hW hWT => ⟨by kernel_rfl, ?_⟩)
          simp only [List.drop_succ_cons, List.drop_zero]
          subst hW
          clear hWT HF
          go_wp2_with (go_at_call 25; refine Hid.out ?_)
          refine hide ?_
          refine (duo_issue HD1.out hrun.out.1 k1 k2 nn HS.out.1 HS.out.2).mono ?_
          rintro e w4 ⟨rfl, hd4⟩
          have HD2 := hide (hd4.swap.step (W' := w4.drew) (Below.refl _ _).drew)
          obtain ⟨c0, c1, c2, c3⟩ := HC.out _ hd4.below
          clear hd4
          have HF : Hid (∀ W, w4.drew = W → W.cell? ⟨b, off + k * 5 + 1, none⟩ = some (.int .i64 nn) ∧ W.cell? ⟨b, off + k * 5 + 2, none⟩ = some (.string k1) ∧ W.cell? ⟨b, off + k * 5 + 3, none⟩ = some (.string k2)) := hide fun W hW => hW ▸ ⟨c1, c2, c3⟩
          go_upto_region 11 with fail
          clear c0 c1 c2 c3
          refine region_by (fun a b => a = b) way_eq 11 11 (fun W => w4.drew = W) (by kernel_rfl) (by kernel_rfl) (fun _ _ d _ _ h => by cases d <;> exact h) (fun x y h hx => h ▸ hx) rfl (fun KT hKT => ?_)
          simp only [List.take_succ_cons, List.take_zero]
          refine Lex.want (v := ?_) (by rfl) (fun W hW => ?hd12) ?_
          case hd12 =>
            have hh := HF.out W hW
            clear hW
            go_split_ands
            go_simp
            first | rfl | exact way_new.refl _ | exact way_grow.refl _ | (refine ⟨?_, way_new.refl _⟩; rfl) | (refine ⟨?_, way_grow.refl _⟩; rfl)
          try simp only [Act.put, List.setIfInBounds_toArray, List.set_cons_zero, List.set_cons_succ, List.getElem_toArray, List.getElem_cons_zero, List.getElem_cons_succ]
          refine Lex.want (v := ?_) (by rfl) (fun W hW => ?hd13) ?_
          case hd13 =>
            have hh := HF.out W hW
            clear hW
            go_split_ands
            go_simp
            first | rfl | exact way_new.refl _ | exact way_grow.refl _ | (refine ⟨?_, way_new.refl _⟩; rfl) | (refine ⟨?_, way_grow.refl _⟩; rfl)
          try simp only [Act.put, List.setIfInBounds_toArray, List.set_cons_zero, List.set_cons_succ, List.getElem_toArray, List.getElem_cons_zero, List.getElem_cons_succ]
          refine Lex.want (v := ?_) (by rfl) (fun W hW => ?hd14) ?_
          case hd14 =>
            have hh := HF.out W hW
            clear hW
            go_split_ands
            go_simp
            first | rfl | exact way_new.refl _ | exact way_grow.refl _ | (refine ⟨?_, way_new.refl _⟩; rfl) | (refine ⟨?_, way_grow.refl _⟩; rfl)
          try simp only [Act.put, List.setIfInBounds_toArray, List.set_cons_zero, List.set_cons_succ, List.getElem_toArray, List.getElem_cons_zero, List.getElem_cons_succ]
          refine Lex.want (v := ?_) (by rfl) (fun W hW => ?hd15) ?_
          case hd15 =>
            have hh := HF.out W hW
            clear hW
            go_split_ands
            go_simp
            first | rfl | exact way_new.refl _ | exact way_grow.refl _ | (refine ⟨?_, way_new.refl _⟩; rfl) | (refine ⟨?_, way_grow.refl _⟩; rfl)
          try simp only [Act.put, List.setIfInBounds_toArray, List.set_cons_zero, List.set_cons_succ, List.getElem_toArray, List.getElem_cons_zero, List.getElem_cons_succ]
          refine Lex.want (v := ?_) (by rfl) (fun W hW => ?hd16) ?_
          case hd16 =>
            have hh := HF.out W hW
            clear hW
            go_split_ands
            go_simp
            first | rfl | exact way_new.refl _ | exact way_grow.refl _ | (refine ⟨?_, way_new.refl _⟩; rfl) | (refine ⟨?_, way_grow.refl _⟩; rfl)
          try simp only [Act.put, List.setIfInBounds_toArray, List.set_cons_zero, List.set_cons_succ, List.getElem_toArray, List.getElem_cons_zero, List.getElem_cons_succ]
          refine Lex.want (v := ?_) (by rfl) (fun W hW => ?hd17) ?_
          case hd17 =>
            have hh := HF.out W hW
            clear hW
            go_split_ands
            go_simp
            first | rfl | exact way_new.refl _ | exact way_grow.refl _ | (refine ⟨?_, way_new.refl _⟩; rfl) | (refine ⟨?_, way_grow.refl _⟩; rfl)
          try simp only [Act.put, List.setIfInBounds_toArray, List.set_cons_zero, List.set_cons_succ, List.getElem_toArray, List.getElem_cons_zero, List.getElem_cons_succ]
          refine Lex.want (v := ?_) (by rfl) (fun W hW => ?hd18) ?_
          case hd18 =>
            have hh := HF.out W hW
            clear hW
            go_split_ands
            go_simp
            first | rfl | exact way_new.refl _ | exact way_grow.refl _ | (refine ⟨?_, way_new.refl _⟩; rfl) | (refine ⟨?_, way_grow.refl _⟩; rfl)
          try simp only [Act.put, List.setIfInBounds_toArray, List.set_cons_zero, List.set_cons_succ, List.getElem_toArray, List.getElem_cons_zero, List.getElem_cons_succ]
          refine Lex.want (v := ?_) (by rfl) (fun W hW => ?hd19) ?_
          case hd19 =>
            have hh := HF.out W hW
            clear hW
            go_split_ands
            go_simp
            first | rfl | exact way_new.refl _ | exact way_grow.refl _ | (refine ⟨?_, way_new.refl _⟩; rfl) | (refine ⟨?_, way_grow.refl _⟩; rfl)
          try simp only [Act.put, List.setIfInBounds_toArray, List.set_cons_zero, List.set_cons_succ, List.getElem_toArray, List.getElem_cons_zero, List.getElem_cons_succ]
          refine Lex.want (v := ?_) (by rfl) (fun W hW => ?hd20) ?_
          case hd20 =>
            have hh := HF.out W hW
            clear hW
            go_split_ands
            go_simp
            first | rfl | exact way_new.refl _ | exact way_grow.refl _ | (refine ⟨?_, way_new.refl _⟩; rfl) | (refine ⟨?_, way_grow.refl _⟩; rfl)
          try simp only [Act.put, List.setIfInBounds_toArray, List.set_cons_zero, List.set_cons_succ, List.getElem_toArray, List.getElem_cons_zero, List.getElem_cons_succ]
          refine Lex.want (v := ?_) (by rfl) (fun W hW => ?hd21) ?_
          case hd21 =>
            have hh := HF.out W hW
            clear hW
            go_split_ands
            go_simp
            first | rfl | exact way_new.refl _ | exact way_grow.refl _ | (refine ⟨?_, way_new.refl _⟩; rfl) | (refine ⟨?_, way_grow.refl _⟩; rfl)
          try simp only [Act.put, List.setIfInBounds_toArray, List.set_cons_zero, List.set_cons_succ, List.getElem_toArray, List.getElem_cons_zero, List.getElem_cons_succ]
          refine Lex.want (v := ?_) (by rfl) (fun W hW => ?hd22) ?_
          case hd22 =>
            have hh := HF.out W hW
            clear hW
            go_split_ands
            go_simp
            first | rfl | exact way_new.refl _ | exact way_grow.refl _ | (refine ⟨?_, way_new.refl _⟩; rfl) | (refine ⟨?_, way_grow.refl _⟩; rfl)
          try simp only [Act.put, List.setIfInBounds_toArray, List.set_cons_zero, List.set_cons_succ, List.getElem_toArray, List.getElem_cons_zero, List.getElem_cons_succ]
          refine Lex.nil (hKT.out _ ?_)
          clear hKT KT
          refine Reg.done (by kernel_rfl) (fun W hW hWT => ⟨by kernel_rfl, ?_⟩)
          simp only [List.drop_succ_cons, List.drop_zero]
          subst hW
          clear hWT HF
          go_wp2_with (go_at_call 25; refine Hid.out ?_)
          refine hide ?_
          refine (duo_issue HD2.out hrun.out.1 k1 k2 nn HS.out.1 HS.out.2).mono ?_
          rintro e w5 ⟨rfl, hd5⟩
          have HD5 := hide hd5.swap
          clear hd5
          go_wp2_with fail
          exact ⟨⟨k + 1, _, by omega, by go_num, hide (hrun.out.issue (k1, k2) nn), HD5⟩, by simp [intOf]; omega⟩
        · have hb3 : (kd == 3) = false := by simpa using hk3
          go_wp2_with fail
          exact ⟨⟨k + 1, L, by omega, by go_num, hide hrun.out.on, hrel⟩, by simp [intOf]; omega⟩
      · have hkn : k = len0 := by omega
        clear HWF HEL HLEN e1 e2
        obtain ⟨hp1, hp2, hp3, hp4, hp5, hp6⟩ := HP.out
        obtain ⟨hq1, hq2, hq3, hq4, hq5, hq6⟩ := HQ.out
        have HSP : Hid (shortPosts l1) := hide fun q hq => ⟨reach_short (hp4 q hq).1.1, reach_short (hp4 q hq).1.2⟩
        have HSQ : Hid (shortPosts l2) := hide fun q hq => ⟨reach_short (hq4 q hq).1.1, reach_short (hq4 q hq).1.2⟩
        have HP5 := hide hp5
        have HQ5 := hide hq5
        clear hp2 hp3 hp4 hp5 hq2 hq3 hq4 hq5
        obtain ⟨eV, hE⟩ : ∃ x, lookErr L l1 = x := ⟨_, rfl⟩
        obtain ⟨L1, hL1⟩ : ∃ x, applyLed L l1 = x := ⟨_, rfl⟩
        obtain ⟨fV, hF⟩ : ∃ x, lookErr L1 l2 = x := ⟨_, rfl⟩
        obtain ⟨L2, hL2⟩ : ∃ x, applyLed L1 l2 = x := ⟨_, rfl⟩
        obtain ⟨gV, hG⟩ : ∃ x, lookErr L (l1 ++ l2) = x := ⟨_, rfl⟩
        obtain ⟨M2, hM2⟩ : ∃ x, applyLed L (l1 ++ l2) = x := ⟨_, rfl⟩
        have HA1 := hide (duo_apply hrel.out a1 len1 cap1 l1 hp1 (by omega) (HP5.out.keep hrel.out.below) HSP.out)
        rw [hE, hL1] at HA1
        go_wp2_with (go_at_call 29; refine Hid.out ?_)
        refine hide ?_
        (with_reducible refine HA1.out.mono ?_)
        rintro e w4 ⟨rfl, hd4⟩
        have HD4 := hide hd4
        have HA2 := hide (duo_apply hd4 a2 len2 cap2 l2 hq1 (by omega) (HQ5.out.keep hd4.below) HSQ.out)
        rw [hF, hL2] at HA2
        clear hd4 HA1
        go_wp2_with (go_at_call 29; refine Hid.out ?_)
        refine hide ?_
        (with_reducible refine HA2.out.mono ?_)
        rintro e w5 ⟨rfl, hd5⟩
        have HD5 := hide hd5
        have HP6 := hide (HP5.out.keep hd5.below)
        have hb5 := hd5.below
        clear hd5 HA2 HD4
        go_wp2_with (at_builtin; refine Hid.out ?_)
        refine hide ?_
        refine BigFrame.wpList_want rfl (fun K hK => ?_)
        refine append_posts (.const (.slice none 0 0)) (.tmp 80) rfl w5.heap.size (.slice none 0 0) 0 [] rfl rfl (World.ownsRow_nil _ _ _ _) a1 len1 cap1 l1 (by rfl) hp1 hp6 HP6.out (by omega) (Nat.le_refl _) ?_
        intro v6 w6 hown6 hg6
        have hown6' : w6.ownsRow w5.heap.size 51 4 v6 len1 (l1.flatMap pcells) := by simpa using hown6
        have hb6 : Below w5.heap.size w5 w6 := (Below.refl _ _).grown hg6 (Nat.le_refl _) (fun k hk => by simp [Value.ownBlock] at hk)
        have HB6 := hide hb6
        have HQ6 := hide (HQ5.out.keep (hb5.trans (hb6.mono hb5.size)))
        have HOWN6 := hide hown6'
        clear hown6 hown6' hg6 hb6
        refine hK _ _ ?_
        clear hK K
        go_wp2_with (at_builtin; refine Hid.out ?_)
        refine hide ?_
        refine BigFrame.wpList_want rfl (fun K hK => ?_)
        refine append_posts (.tmp 81) (.tmp 82) rfl w5.heap.size v6 len1 l1 (by rfl) hp1 HOWN6.out a2 len2 cap2 l2 (by rfl) hq1 hq6 HQ6.out (by omega) HB6.out.size ?_
        intro v7 w7 hown7 hg7
        have hll : len1 + len2 = (l1 ++ l2).length := by rw [List.length_append]; omega
        have hb7 : Below w5.heap.size w5 w7 := HB6.out.grown hg7 HB6.out.size (fun k hk => by
          rcases HOWN6.out.2 with ⟨rfl, _⟩ | ⟨g, cap, cur, rfl, hbg, _⟩
          · simp [Value.ownBlock] at hk
          · simp [Value.ownBlock] at hk; omega)
        rw [hll] at hown7
        obtain ⟨A7, c7, hv7, hposts⟩ := posts_own (l := l1 ++ l2) hown7
        obtain ⟨n3, hn3⟩ : ∃ n3, (l1 ++ l2).length = n3 := ⟨_, rfl⟩
        rw [hn3] at hv7 hll
        subst hv7
        have HA3 := hide (duo_apply (HD5.out.step hb7).swap A7 n3 c7 (l1 ++ l2) hn3 (by omega) hposts (fun q hq => (List.mem_append.1 hq).elim (HSP.out q) (HSQ.out q)))
        rw [hG, hM2] at HA3
        clear hown7 hg7 hb7 hposts HOWN6 HQ6 HB6 hll hn3
        refine hK _ _ ?_
        clear hK K
        go_wp2_with (go_at_call 29; refine Hid.out ?_)
        refine hide ?_
        (with_reducible refine HA3.out.mono ?_)
        rintro e w8 ⟨rfl, hd8⟩
        have HD8 := hide hd8.swap
        clear hd8 HA3 hb5 HP6
        go_upto_region 15 with fail
        by_cases hgood : eV = 0 ∧ fV = 0
        case neg =>
          have HB8 := hide HD8.out.below
          by_cases hz : eV = 0
          · have hfz : ¬ fV = 0 := fun e => hgood ⟨hz, e⟩
            have g1 : (fV == 0) = false := by simpa using hfz
            have g2 : (fV != 0) = true := by simpa using hfz
            have g3 : (eV == 0) = true := by simpa using hz
            have g4 : (eV != 0) = false := by simpa using hz
            clear hfz hz hgood
            go_wp2_with (go_at_call 23; refine (alive11_calls _).mono ?_; rintro e w9 ⟨rfl, hb9⟩; have HB9 := hide (HB8.out.trans (hb9.mono HB8.out.size)); clear hb9)
            go_ret
            exact ⟨rfl, HB9.out⟩
          · have g3 : (eV == 0) = false := by simpa using hz
            have g4 : (eV != 0) = true := by simpa using hz
            clear hz hgood
            go_wp2_with (go_at_call 23; refine (alive11_calls _).mono ?_; rintro e w9 ⟨rfl, hb9⟩; have HB9 := hide (HB8.out.trans (hb9.mono HB8.out.size)); clear hb9)
            go_ret
            exact ⟨rfl, HB9.out⟩
        case pos =>
          obtain ⟨rfl, rfl⟩ := hgood
          obtain ⟨s1, s2, s3⟩ := splits_plain (L := L) (p := l1) (q := l2) hrun.out.1.good hrun.out.1.apart hrun.out.2.1 (by omega) (by omega) hE (by rw [hL1]; exact hF)
          rw [hL1, hL2, hM2] at s2 s3
          rw [hG] at s1
          subst s1
          have hlm : L2.m.length ≤ 1099511627776 ∧ M2.m.length ≤ 1099511627776 := by
            have h1 := hrun.out.2.2
            have h2 := apply_len L l1
            have h3 := apply_len L1 l2
            have h4 := apply_len L (l1 ++ l2)
            rw [hL1] at h2
            rw [hL2] at h3
            rw [hM2, List.length_append] at h4
            omega
          have HKB : Hid (∀ W, Below w8.heap.size w8 W → Calls Try.prog 18 #[.pointer (some ⟨pb, 0, none⟩), .slice none 0 0] W fun e w' => ∃ A c, e = .returned (.slice A (posKeys L2.m []).length c) ∧ KeysIn A (posKeys L2.m []) w' ∧ Below W.heap.size W w') := hide fun W hW => by
            have := ls_keys (HD8.out.step hW).swap.led hlm.2
            rwa [← s2] at this
          have HKA := hide (ls_keys HD8.out.led hlm.1)
          have HGET : Hid (∀ x1 x2, ∃ x y z : Int, ∀ V, Below w8.heap.size w8 V → Calls Try.prog 17 #[.pointer (some ⟨pa, 0, none⟩), .agg #[.string x1, .string x2]] V (fun e w' => e = .returned (.agg #[.int .i64 x, .int .i64 y, .int .i64 z]) ∧ New V w') ∧
              Calls Try.prog 17 #[.pointer (some ⟨pb, 0, none⟩), .agg #[.string x1, .string x2]] V (fun e w' => e = .returned (.agg #[.int .i64 x, .int .i64 y, .int .i64 z]) ∧ New V w')) := hide fun x1 x2 => ⟨_, _, _, fun V hV => ⟨ls_get x1 x2 (HD8.out.step hV).led, by
              have := ls_get x1 x2 (HD8.out.step hV).swap.led
              rw [← s3] at this
              exact this⟩⟩
          have HG : Hid (∀ W, Below w8.heap.size w8 W → W.cell? ⟨ga, 0, none⟩ = some (.pointer (some ⟨pa, 0, none⟩)) ∧ W.cell? ⟨gb, 0, none⟩ = some (.pointer (some ⟨pb, 0, none⟩))) := hide fun W hW => ⟨(HD8.out.step hW).led.cell.1, (HD8.out.step hW).swap.led.cell.1⟩
          have HB8 := hide HD8.out.below
          have hksl : (posKeys L2.m []).length ≤ 1099511627776 := Nat.le_trans (posKeys_length _ _) hlm.1
          clear s2 s3 hlm hE hF hG hL1 hL2 hM2 HD8 HD5 hrun hrel
          generalize posKeys L2.m [] = ks at *
          obtain ⟨i1, i2⟩ := HG.out _ (Below.refl _ _)
          go_upto_region 19 with fail
          go_wp2_with (go_at_call 18; refine Hid.out ?_)
          refine hide ?_
          (with_reducible refine HKA.out.mono ?_)
          rintro e w9 ⟨A9, c9, rfl, hk9, hb9⟩
          have HK9 := hide hk9
          have HB9 := hide hb9
          clear hk9 i1 i2
          obtain ⟨i1, i2⟩ := HG.out _ hb9
          clear hb9
          go_wp2_with (go_at_call 18; refine Hid.out ?_)
          refine hide ?_
          (with_reducible refine (HKB.out _ HB9.out).mono ?_)
          rintro e w10 ⟨A10, c10, rfl, hk10, hb10⟩
          have HK10 := hide (HK9.out.keep hb10)
          have HSK := hide (same_keys A9 A10 c9 c10 ks.length ks w10 rfl hksl HK10.out hk10)
          have HB10 := hide (HB9.out.trans (hb10.mono HB9.out.size))
          clear hb10 hk10 i1 i2 HK9
          go_wp2_with (go_at_call 30; refine HSK.out.mono ?_; rintro e w11 ⟨rfl, hb11⟩; have HK11 := hide (HK10.out.keep hb11); have HB11 := hide (HB10.out.trans (hb11.mono HB10.out.size)); clear hb11)
          go_loopw [14] (fun jv W => ∃ j : Nat, j ≤ ks.length ∧ jv = .int .i64 j ∧ Hid (Below w11.heap.size w11 W)) (fun jv _ => ks.length - (intOf jv).toNat)
          case atStart => exact ⟨0, by omega, rfl, hide (Below.refl _ _)⟩
          case round =>
            obtain ⟨j, hj, rfl, hb⟩ := hrel
            have HBW := hide (HB11.out.trans (hb.out.mono HB11.out.size))
            by_cases hjl : j < ks.length
            · obtain ⟨⟨x1, x2⟩, hx⟩ : ∃ x, ks[j]? = some x := ⟨ks[j], List.getElem?_eq_getElem hjl⟩
              obtain ⟨q, rfl, hq, hx1, hx2⟩ := (HK11.out.keep hb.out) j _ hx
              simp only at hx1 hx2
              clear hx
              obtain ⟨i1, i2⟩ := HG.out _ HBW.out
              obtain ⟨x, y, z, hget⟩ := HGET.out x1 x2
              have HGT := hide hget
              have hs1 : ga < wr.heap.size := cell_in i1
              have hs2 : gb < wr.heap.size := cell_in i2
              have HF : Hid (∀ W, New wr W → W.cell? ⟨ga, 0, none⟩ = some (.pointer (some ⟨pa, 0, none⟩)) ∧ W.cell? ⟨gb, 0, none⟩ = some (.pointer (some ⟨pb, 0, none⟩)) ∧ W.cell? ⟨q, j * 2, none⟩ = some (.string x1) ∧ W.cell? ⟨q, j * 2 + 1, none⟩ = some (.string x2)) := hide fun W hW =>
                ⟨(Below.cell hW (p := ⟨ga, 0, none⟩) hs1).trans i1, (Below.cell hW (p := ⟨gb, 0, none⟩) hs2).trans i2, (Below.cell hW (p := ⟨q, j * 2, none⟩) hq).trans hx1, (Below.cell hW (p := ⟨q, j * 2 + 1, none⟩) hq).trans hx2⟩
              clear hget i1 i2 hx1 hx2
              go_upto_region 25 with fail
              refine region_by New way_new 19 19 (fun W => New wr W) (by kernel_rfl) (by kernel_rfl) (fun _ _ d _ _ h => by cases d <;> exact h) (fun x y h hx => way_new.trans hx h) (Below.refl _ _).drew (fun KT hKT => ?_)
              simp only [List.take_succ_cons, List.take_zero]
              refine Lex.want (v := ?_) (by rfl) (fun W hW => ?hd23) ?_
              case hd23 =>
                have hh := HF.out W hW
                clear hW
                go_split_ands
                go_simp
                first | rfl | exact way_new.refl _ | exact way_grow.refl _ | (refine ⟨?_, way_new.refl _⟩; rfl) | (refine ⟨?_, way_grow.refl _⟩; rfl)
              try simp only [Act.put, List.setIfInBounds_toArray, List.set_cons_zero, List.set_cons_succ, List.getElem_toArray, List.getElem_cons_zero, List.getElem_cons_succ]
              refine Lex.want (v := ?_) (by rfl) (fun W hW => ?hd24) ?_
              case hd24 =>
                have hh := HF.out W hW
                clear hW
                go_split_ands
                go_simp
                first | rfl | exact way_new.refl _ | exact way_grow.refl _ | (refine ⟨?_, way_new.refl _⟩; rfl) | (refine ⟨?_, way_grow.refl _⟩; rfl)
              try simp only [Act.put, List.setIfInBounds_toArray, List.set_cons_zero, List.set_cons_succ, List.getElem_toArray, List.getElem_cons_zero, List.getElem_cons_succ]
              refine Lex.want (v := ?_) (by rfl) (fun W hW => ?hd25) ?_
              case hd25 =>
                have hh := HF.out W hW
                clear hW
                go_split_ands
                go_simp
                first | rfl | exact way_new.refl _ | exact way_grow.refl _ | (refine ⟨?_, way_new.refl _⟩; rfl) | (refine ⟨?_, way_grow.refl _⟩; rfl)
              try simp only [Act.put, List.setIfInBounds_toArray, List.set_cons_zero, List.set_cons_succ, List.getElem_toArray, List.getElem_cons_zero, List.getElem_cons_succ]
              refine Lex.want (v := ?_) (by rfl) (fun W hW => ?hd26) ?_
              case hd26 =>
                have hh := HF.out W hW
                clear hW
                go_split_ands
                go_simp
                first | rfl | exact way_new.refl _ | exact way_grow.refl _ | (refine ⟨?_, way_new.refl _⟩; rfl) | (refine ⟨?_, way_grow.refl _⟩; rfl)
              try simp only [Act.put, List.setIfInBounds_toArray, List.set_cons_zero, List.set_cons_succ, List.getElem_toArray, List.getElem_cons_zero, List.getElem_cons_succ]
              refine Lex.want (v := ?_) (by rfl) (fun W hW => ?hd27) ?_
              case hd27 =>
                have hh := HF.out W hW
                clear hW
                go_split_ands
                go_simp
                first | rfl | exact way_new.refl _ | exact way_grow.refl _ | (refine ⟨?_, way_new.refl _⟩; rfl) | (refine ⟨?_, way_grow.refl _⟩; rfl)
              try simp only [Act.put, List.setIfInBounds_toArray, List.set_cons_zero, List.set_cons_succ, List.getElem_toArray, List.getElem_cons_zero, List.getElem_cons_succ]
              refine Lex.want (v := ?_) (by rfl) (fun W hW => ?hd28) ?_
              case hd28 =>
                have hh := HF.out W hW
                clear hW
                go_split_ands
                go_simp
                first | rfl | exact way_new.refl _ | exact way_grow.refl _ | (refine ⟨?_, way_new.refl _⟩; rfl) | (refine ⟨?_, way_grow.refl _⟩; rfl)
              try simp only [Act.put, List.setIfInBounds_toArray, List.set_cons_zero, List.set_cons_succ, List.getElem_toArray, List.getElem_cons_zero, List.getElem_cons_succ]
              refine Lex.want (v := ?_) (by rfl) (fun W hW => ?hd29) ?_
              case hd29 =>
                have hh := HF.out W hW
                clear hW
                go_split_ands
                go_simp
                first | rfl | exact way_new.refl _ | exact way_grow.refl _ | (refine ⟨?_, way_new.refl _⟩; rfl) | (refine ⟨?_, way_grow.refl _⟩; rfl)
              try simp only [Act.put, List.setIfInBounds_toArray, List.set_cons_zero, List.set_cons_succ, List.getElem_toArray, List.getElem_cons_zero, List.getElem_cons_succ]
              refine Lex.want (v := ?_) (by rfl) (fun W hW => ?hd30) ?_
              case hd30 =>
                have hh := HF.out W hW
                clear hW
                go_split_ands
                go_simp
                first | rfl | exact way_new.refl _ | exact way_grow.refl _ | (refine ⟨?_, way_new.refl _⟩; rfl) | (refine ⟨?_, way_grow.refl _⟩; rfl)
              try simp only [Act.put, List.setIfInBounds_toArray, List.set_cons_zero, List.set_cons_succ, List.getElem_toArray, List.getElem_cons_zero, List.getElem_cons_succ]
              refine Lex.want (v := ?_) (by rfl) (fun W hW => ?hd31) ?_
              case hd31 =>
                have hcc := hide (HGT.out W (HBW.out.trans (Below.mono hW HBW.out.size))).1
                go_simp
                exact hcc
              try simp only [Act.put, List.setIfInBounds_toArray, List.set_cons_zero, List.set_cons_succ, List.getElem_toArray, List.getElem_cons_zero, List.getElem_cons_succ]
              refine Lex.want (v := ?_) (by rfl) (fun W hW => ?hd32) ?_
              case hd32 =>
                have hh := HF.out W hW
                clear hW
                go_split_ands
                go_simp
                first | rfl | exact way_new.refl _ | exact way_grow.refl _ | (refine ⟨?_, way_new.refl _⟩; rfl) | (refine ⟨?_, way_grow.refl _⟩; rfl)
              try simp only [Act.put, List.setIfInBounds_toArray, List.set_cons_zero, List.set_cons_succ, List.getElem_toArray, List.getElem_cons_zero, List.getElem_cons_succ]
              refine Lex.want (v := ?_) (by rfl) (fun W hW => ?hd33) ?_
              case hd33 =>
                have hh := HF.out W hW
                clear hW
                go_split_ands
                go_simp
                first | rfl | exact way_new.refl _ | exact way_grow.refl _ | (refine ⟨?_, way_new.refl _⟩; rfl) | (refine ⟨?_, way_grow.refl _⟩; rfl)
              try simp only [Act.put, List.setIfInBounds_toArray, List.set_cons_zero, List.set_cons_succ, List.getElem_toArray, List.getElem_cons_zero, List.getElem_cons_succ]
              refine Lex.want (v := ?_) (by rfl) (fun W hW => ?hd34) ?_
              case hd34 =>
                have hh := HF.out W hW
                clear hW
                go_split_ands
                go_simp
                first | rfl | exact way_new.refl _ | exact way_grow.refl _ | (refine ⟨?_, way_new.refl _⟩; rfl) | (refine ⟨?_, way_grow.refl _⟩; rfl)
              try simp only [Act.put, List.setIfInBounds_toArray, List.set_cons_zero, List.set_cons_succ, List.getElem_toArray, List.getElem_cons_zero, List.getElem_cons_succ]
              refine Lex.want (v := ?_) (by rfl) (fun W hW => ?hd35) ?_
              case hd35 =>
                have hh := HF.out W hW
                clear hW
                go_split_ands
                go_simp
                first | rfl | exact way_new.refl _ | exact way_grow.refl _ | (refine ⟨?_, way_new.refl _⟩; rfl) | (refine ⟨?_, way_grow.refl _⟩; rfl)
              try simp only [Act.put, List.setIfInBounds_toArray, List.set_cons_zero, List.set_cons_succ, List.getElem_toArray, List.getElem_cons_zero, List.getElem_cons_succ]
              refine Lex.want (v := ?_) (by rfl) (fun W hW => ?hd36) ?_
              case hd36 =>
                have hh := HF.out W hW
                clear hW
                go_split_ands
                go_simp
                first | rfl | exact way_new.refl _ | exact way_grow.refl _ | (refine ⟨?_, way_new.refl _⟩; rfl) | (refine ⟨?_, way_grow.refl _⟩; rfl)
              try simp only [Act.put, List.setIfInBounds_toArray, List.set_cons_zero, List.set_cons_succ, List.getElem_toArray, List.getElem_cons_zero, List.getElem_cons_succ]
              refine Lex.want (v := ?_) (by rfl) (fun W hW => ?hd37) ?_
              case hd37 =>
                have hh := HF.out W hW
                clear hW
                go_split_ands
                go_simp
                first | rfl | exact way_new.refl _ | exact way_grow.refl _ | (refine ⟨?_, way_new.refl _⟩; rfl) | (refine ⟨?_, way_grow.refl _⟩; rfl)
              try simp only [Act.put, List.setIfInBounds_toArray, List.set_cons_zero, List.set_cons_succ, List.getElem_toArray, List.getElem_cons_zero, List.getElem_cons_succ]
              refine Lex.want (v := ?_) (by rfl) (fun W hW => ?hd38) ?_
              case hd38 =>
                have hh := HF.out W hW
                clear hW
                go_split_ands
                go_simp
                first | rfl | exact way_new.refl _ | exact way_grow.refl _ | (refine ⟨?_, way_new.refl _⟩; rfl) | (refine ⟨?_, way_grow.refl _⟩; rfl)
              try simp only [Act.put, List.setIfInBounds_toArray, List.set_cons_zero, List.set_cons_succ, List.getElem_toArray, List.getElem_cons_zero, List.getElem_cons_succ]
              refine Lex.want (v := ?_) (by rfl) (fun W hW => ?hd39) ?_
              case hd39 =>
                have hh := HF.out W hW
                clear hW
                go_split_ands
                go_simp
                first | rfl | exact way_new.refl _ | exact way_grow.refl _ | (refine ⟨?_, way_new.refl _⟩; rfl) | (refine ⟨?_, way_grow.refl _⟩; rfl)
              try simp only [Act.put, List.setIfInBounds_toArray, List.set_cons_zero, List.set_cons_succ, List.getElem_toArray, List.getElem_cons_zero, List.getElem_cons_succ]
              refine Lex.want (v := ?_) (by rfl) (fun W hW => ?hd40) ?_
              case hd40 =>
                have hcc := hide (HGT.out W (HBW.out.trans (Below.mono hW HBW.out.size))).2
                go_simp
                exact hcc
              try simp only [Act.put, List.setIfInBounds_toArray, List.set_cons_zero, List.set_cons_succ, List.getElem_toArray, List.getElem_cons_zero, List.getElem_cons_succ]
              refine Lex.want (v := ?_) (by rfl) (fun W hW => ?hd41) ?_
              case hd41 =>
                have hh := HF.out W hW
                clear hW
                go_split_ands
                go_simp
                first | rfl | exact way_new.refl _ | exact way_grow.refl _ | (refine ⟨?_, way_new.refl _⟩; rfl) | (refine ⟨?_, way_grow.refl _⟩; rfl)
              try simp only [Act.put, List.setIfInBounds_toArray, List.set_cons_zero, List.set_cons_succ, List.getElem_toArray, List.getElem_cons_zero, List.getElem_cons_succ]
              refine Lex.nil (hKT.out _ ?_)
              clear hKT KT
              refine Reg.done (by kernel_rfl) (fun W hW hWT => ⟨by kernel_rfl, ?_⟩)
              simp only [List.drop_succ_cons, List.drop_zero]
              have HB12 := hide (hb.out.trans (Below.mono hWT hb.out.size))
              go_wp2_with fail
              exact ⟨⟨j + 1, by omega, by go_num, HB12⟩, by simp [intOf]; omega⟩
            · have HB12 := hide (HB8.out.trans (HBW.out.mono HB8.out.size))
              go_wp2_with (go_at_call 23; refine (alive11_calls _).mono ?_; rintro e w12 ⟨rfl, hb13⟩; have HB13 := hide (HB12.out.trans (hb13.mono HB12.out.size)); clear hb13)
              go_ret
              exact ⟨rfl, HB13.out⟩
end Go.Proofs.Ytmhmjbggjbeikaa
