/- PostWhole: the walk. -/
import Derived.Test.YtmhmjbggjbeikaaWhole11
import Derived.Test.YtmhmjbggjbeikaaRgn2
import Derived.Test.YtmhmjbggjbeikaaOpenW11
import Derived.Test.YtmhmjbggjbeikaaAlive11
import Derived.Deep.CutRange
import Derived.Deep.CutBlock
import Derived.Deep.DeepCutAuto
namespace Go.Proofs.Ytmhmjbggjbeikaa
set_option linter.unusedSimpArgs false
set_option linter.unusedVariables false
open Go.RowKit
attribute [local go_sem] objAt_alloc objAt_alloc_at objAt_drew objAt_drewN objAt_setCell comesTo_value comesTo_enter

namespace Whole
def RunW (k : Nat) (L : Led) : Prop := EvenLed L ∧ L.m.length ≤ k
theorem RunW.issue {k : Nat} {L : Led} (h : RunW k L) (key : Key) (n : Int) : RunW (k + 1) (issueLed L key n) := by
  obtain ⟨h1, h3⟩ := h
  have := issue_len L key n
  exact ⟨even_issue h1 _ _, by omega⟩
theorem RunW.block {k : Nat} {L : Led} (h : RunW k L) (key : Key) (on : Bool) : RunW (k + 1) (blockLed L key on) := ⟨even_block h.1 _ _, show L.m.length ≤ k + 1 by have := h.2; omega⟩
theorem RunW.on {k : Nat} {L : Led} (h : RunW k L) : RunW (k + 1) L := ⟨h.1, by have := h.2; omega⟩
theorem box3 {W : World} {q : Nat} {u v t : Value} {T : TypeId} (h : W.heap[q]? = some (.cells #[u, v, t] T (0, 0))) :
    W.cell? ⟨q, 0, none⟩ = some u ∧ W.cell? ⟨q, 1, none⟩ = some v ∧ W.cell? ⟨q, 2, none⟩ = some t ∧ W.frozen? ⟨q, 0, none⟩ = false ∧ W.frozen? ⟨q, 1, none⟩ = false ∧ W.frozen? ⟨q, 2, none⟩ = false := by
  refine ⟨?_, ?_, ?_, ?_, ?_, ?_⟩ <;> simp [World.cell?, World.frozen?, h]
theorem bytes_list_eq (a b : ByteArray) : (a.toList = b.toList) = (a = b) := by
  have h := bytes_beq_decide a b
  by_cases e : a = b
  · simp [e]
  · rw [decide_eq_false e] at h
    simp only [e, eq_iff_iff, iff_false]
    simpa using h
theorem blk_keep {a b : World} {q : Nat} {o : Obj} (h : New a b) (hz : a.heap[q]? = some o) : b.heap[q]? = some o := (Below.block h q (Array.getElem?_eq_some_iff.1 hz).1).trans hz
/-- A box written whole. -/
def put3 (W : World) (q : Nat) (x y z : Int) : World := ((W.setCell ⟨q, 0, none⟩ (.int .i64 x)).setCell ⟨q, 1, none⟩ (.int .i64 y)).setCell ⟨q, 2, none⟩ (.int .i64 z)
theorem put3_same {W : World} {q : Nat} {u v t : Value} {T : TypeId} (x y z : Int) (h : W.heap[q]? = some (.cells #[u, v, t] T (0, 0))) : (put3 W q x y z).heap[q]? = some (.cells #[.int .i64 x, .int .i64 y, .int .i64 z] T (0, 0)) := by
  simp [put3, World.setCell, Array.getElem?_modify, h]
theorem put3_other {W : World} {q q' : Nat} (x y z : Int) (h : q' ≠ q) : (put3 W q x y z).heap[q']? = W.heap[q']? := by
  unfold put3
  rw [Below.heap_setCell _ _ _ _ h, Below.heap_setCell _ _ _ _ h, Below.heap_setCell _ _ _ _ h]
theorem put3_new {w W : World} {q : Nat} (x y z : Int) (h : New w W) (hq : w.heap.size ≤ q) : New w (put3 W q x y z) := Below.setCell (Below.setCell (Below.setCell h hq _) hq _) hq _
end Whole

open Whole in
set_option maxHeartbeats 8000000 in
set_option maxRecDepth 100000 in
theorem postWhole_walk (a0 : Option Addr) (len0 cap0 : Nat) (l0 : List POp11) (a1 : Option Addr) (len1 cap1 : Nat) (l1 : List PPost) (w : World)
    (h : OpsArg w a0 len0 cap0 l0) (hp : PostsArg w a1 len1 cap1 l1) :
    Calls Try.prog 12 #[.slice a0 len0 cap0, .slice a1 len1 cap1] w fun e w' => e = .returned (.bool true) ∧ Below w.heap.size w w' := by
  obtain ⟨hlen, hlc, hcm, hwf, hel⟩ := h
  have HLI := hide (light_calls a0 len0 cap0 l0 w hlen (by omega) hel (fun o ho => by obtain ⟨w1, w2, w3, w4, w5, w6, w7, w8, w9⟩ := hwf o ho; omega))
  have HWF := hide hwf
  have HEL := hide hel
  have HLEN := hide hlen
  have HP := hide hp
  have hc1 : len1 ≤ 9223372036854775807 := by obtain ⟨h1, h2, h3, _⟩ := hp; unfold maxLen at h3; omega
  unfold maxLen at hcm
  clear hwf hel hlen hp
  go_enter Try.func12, Try.ntmps12
  go_wp2_with (go_at_call 28; refine Hid.out ?_)
  refine hide ?_
  refine HLI.out.mono ?_
  rintro e w1 ⟨b, rfl, hb1, hb2⟩
  have HB1 := hide hb2
  have HLT := hide hb1
  clear hb1 hb2 HLI
  by_cases hyes : b = true ∧ len1 ≤ 100
  case neg =>
    cases b with
    | false =>
      go_wp2_with (go_at_call 23; refine (alive11_calls _).mono ?_; rintro e w2 ⟨rfl, hb4⟩; have HB4 := hide hb4; clear hb4)
      go_ret
      exact ⟨rfl, HB1.out.trans (HB4.out.mono HB1.out.size)⟩
    | true =>
      have e1 : decide ((100 : Int) < (len1 : Int)) = true := decide_eq_true (by
        have : ¬ len1 ≤ 100 := fun e => hyes ⟨rfl, e⟩
        omega)
      go_wp2_with (go_at_call 23; refine (alive11_calls _).mono ?_; rintro e w2 ⟨rfl, hb4⟩; have HB4 := hide hb4; clear hb4)
      go_ret
      exact ⟨rfl, HB1.out.trans (HB4.out.mono HB1.out.size)⟩
  case pos =>
    obtain ⟨rfl, h60⟩ := hyes
    obtain ⟨hl1, hl2⟩ := HLT.out rfl
    rw [HLEN.out] at hl1
    clear HLT
    have e1 : decide ((100 : Int) < (len1 : Int)) = false := decide_eq_false (by omega)
    go_wp2_with (go_at_call 24; refine Hid.out ?_)
    refine hide ?_
    refine (ls_new w1).mono ?_
    rintro e w2 ⟨ga, pa, rfl, hled⟩
    have HLED : Hid (Leds w ga pa led0 (fun _ => False) w2) := hide (by
      obtain ⟨F, q1, q2, q3, q4⟩ := hled
      exact ⟨F, q1, fun j hj => ⟨Nat.le_trans HB1.out.size (q2 j hj).1, (q2 j hj).2⟩, HB1.out.trans (q3.mono HB1.out.size), q4⟩)
    clear hled
    go_wp2_with (go_at_call 24; refine Hid.out ?_)
    refine hide ?_
    refine (duo_new HLED.out).mono ?_
    rintro e w3 ⟨gb, pb, rfl, hduo⟩
    have HDUO := hide hduo
    clear hduo
    have HR0 : Hid (RunW 0 led0) := hide ⟨even_led0, by simp [led0]⟩
    go_wp2_with fail
    go_loopw [7] (fun iv W => ∃ (k : Nat) (L : Led), k ≤ len0 ∧ iv = .int .i64 k ∧ Hid (RunW k L) ∧ Hid (Duo w ga pa gb pb L L W)) (fun iv _ => len0 - (intOf iv).toNat)
    case atStart => exact ⟨0, led0, by omega, rfl, HR0, HDUO⟩
    case round =>
      obtain ⟨k, L, hk, rfl, hrun, hrel⟩ := hrel
      clear HR0 HDUO HLED
      by_cases hlt : k < len0
      · obtain ⟨o, ho⟩ : ∃ o, l0[k]? = some o := ⟨l0[k]'(by have := HLEN.out; omega), List.getElem?_eq_getElem (by have := HLEN.out; omega)⟩
        have hwo := HWF.out o (List.mem_of_getElem? ho)
        have HS : Hid (shortText o.k.1 ∧ shortText o.k.2) := hide (by
          obtain ⟨w1, w2, w3, w4, w5, w6, w7, w8, w9⟩ := hwo
          exact ⟨reach_short w3, reach_short w4⟩)
        obtain ⟨b, off, rfl, hb, d0, d1, d2, d3, d4⟩ := HEL.out.op ho
        clear hwo ho
        obtain ⟨kd, nn, ⟨k1, k2⟩, oa, ol, oc, oP⟩ := o
        simp only at d0 d1 d2 d3 d4
        have HC : Hid (∀ W, Below w.heap.size w W → W.cell? ⟨b, off + k * 5, none⟩ = some (.int .i64 kd) ∧ W.cell? ⟨b, off + k * 5 + 1, none⟩ = some (.int .i64 nn) ∧ W.cell? ⟨b, off + k * 5 + 2, none⟩ = some (.string k1) ∧ W.cell? ⟨b, off + k * 5 + 3, none⟩ = some (.string k2)) := hide fun W hW =>
          ⟨(hW.cell (p := ⟨b, off + k * 5, none⟩) hb).trans d0, (hW.cell (p := ⟨b, off + k * 5 + 1, none⟩) hb).trans d1, (hW.cell (p := ⟨b, off + k * 5 + 2, none⟩) hb).trans d2, (hW.cell (p := ⟨b, off + k * 5 + 3, none⟩) hb).trans d3⟩
        clear d0 d1 d2 d3 d4
        obtain ⟨c0, c1, c2, c3⟩ := HC.out _ hrel.out.below
        by_cases hk3 : kd = 3
        · subst hk3
          have HD1 := hide (hrel.out.step (W' := wr.drew) (Below.refl _ _).drew)
          have HF : Hid (∀ W, wr.drew = W → W.cell? ⟨b, off + k * 5 + 1, none⟩ = some (.int .i64 nn) ∧ W.cell? ⟨b, off + k * 5 + 2, none⟩ = some (.string k1) ∧ W.cell? ⟨b, off + k * 5 + 3, none⟩ = some (.string k2)) := hide fun W hW => hW ▸ ⟨c1, c2, c3⟩
          go_upto_region 10 with fail
          clear c0 c1 c2 c3
          refine region_by (fun a b => a = b) way_eq 11 11 (fun W => wr.drew = W) (by kernel_rfl) (by kernel_rfl) (fun _ _ d _ _ h => by cases d <;> exact h) (fun x y h hx => h ▸ hx) rfl (fun KT hKT => ?_)
          simp only [List.take_succ_cons, List.take_zero]
          refine Lex.want (v := ?_) (by rfl) (fun W hW => ?hd1) ?_
          case hd1 =>
            have hh := HF.out W hW
            clear hW
            go_split_ands
            go_simp
            first | rfl | exact way_new.refl _ | exact way_grow.refl _ | (refine ⟨?_, way_new.refl _⟩; rfl) | (refine ⟨?_, way_grow.refl _⟩; rfl)
          try simp only [Act.put, List.setIfInBounds_toArray, List.set_cons_zero, List.set_cons_succ, List.getElem_toArray, List.getElem_cons_zero, List.getElem_cons_succ]
          refine Lex.want (v := ?_) (by rfl) (fun W hW => ?hd2) ?_
          case hd2 =>
            have hh := HF.out W hW
            clear hW
            go_split_ands
            go_simp
            first | rfl | exact way_new.refl _ | exact way_grow.refl _ | (refine ⟨?_, way_new.refl _⟩; rfl) | (refine ⟨?_, way_grow.refl _⟩; rfl)
          try simp only [Act.put, List.setIfInBounds_toArray, List.set_cons_zero, List.set_cons_succ, List.getElem_toArray, List.getElem_cons_zero, List.getElem_cons_succ]
          refine Lex.want (v := ?_) (by rfl) (fun W hW => ?hd3) ?_
          case hd3 =>
            have hh := HF.out W hW
            clear hW
            go_split_ands
            go_simp
            first | rfl | exact way_new.refl _ | exact way_grow.refl _ | (refine ⟨?_, way_new.refl _⟩; rfl) | (refine ⟨?_, way_grow.refl _⟩; rfl)
          try simp only [Act.put, List.setIfInBounds_toArray, List.set_cons_zero, List.set_cons_succ, List.getElem_toArray, List.getElem_cons_zero, List.getElem_cons_succ]
          refine Lex.want (v := ?_) (by rfl) (fun W hW => ?hd4) ?_
          case hd4 =>
            have hh := HF.out W hW
            clear hW
            go_split_ands
            go_simp
            first | rfl | exact way_new.refl _ | exact way_grow.refl _ | (refine ⟨?_, way_new.refl _⟩; rfl) | (refine ⟨?_, way_grow.refl _⟩; rfl)
          try simp only [Act.put, List.setIfInBounds_toArray, List.set_cons_zero, List.set_cons_succ, List.getElem_toArray, List.getElem_cons_zero, List.getElem_cons_succ]
          refine Lex.want (v := ?_) (by rfl) (fun W hW => ?hd5) ?_
          case hd5 =>
            have hh := HF.out W hW
            clear hW
            go_split_ands
            go_simp
            first | rfl | exact way_new.refl _ | exact way_grow.refl _ | (refine ⟨?_, way_new.refl _⟩; rfl) | (refine ⟨?_, way_grow.refl _⟩; rfl)
          try simp only [Act.put, List.setIfInBounds_toArray, List.set_cons_zero, List.set_cons_succ, List.getElem_toArray, List.getElem_cons_zero, List.getElem_cons_succ]
          refine Lex.want (v := ?_) (by rfl) (fun W hW => ?hd6) ?_
          case hd6 =>
            have hh := HF.out W hW
            clear hW
            go_split_ands
            go_simp
            first | rfl | exact way_new.refl _ | exact way_grow.refl _ | (refine ⟨?_, way_new.refl _⟩; rfl) | (refine ⟨?_, way_grow.refl _⟩; rfl)
          try simp only [Act.put, List.setIfInBounds_toArray, List.set_cons_zero, List.set_cons_succ, List.getElem_toArray, List.getElem_cons_zero, List.getElem_cons_succ]
          refine Lex.want (v := ?_) (by rfl) (fun W hW => ?hd7) ?_
          case hd7 =>
            have hh := HF.out W hW
            clear hW
            go_split_ands
            go_simp
            first | rfl | exact way_new.refl _ | exact way_grow.refl _ | (refine ⟨?_, way_new.refl _⟩; rfl) | (refine ⟨?_, way_grow.refl _⟩; rfl)
          try simp only [Act.put, List.setIfInBounds_toArray, List.set_cons_zero, List.set_cons_succ, List.getElem_toArray, List.getElem_cons_zero, List.getElem_cons_succ]
          refine Lex.want (v := ?_) (by rfl) (fun W hW => ?hd8) ?_
          case hd8 =>
            have hh := HF.out W hW
            clear hW
            go_split_ands
            go_simp
            first | rfl | exact way_new.refl _ | exact way_grow.refl _ | (refine ⟨?_, way_new.refl _⟩; rfl) | (refine ⟨?_, way_grow.refl _⟩; rfl)
          try simp only [Act.put, List.setIfInBounds_toArray, List.set_cons_zero, List.set_cons_succ, List.getElem_toArray, List.getElem_cons_zero, List.getElem_cons_succ]
          refine Lex.want (v := ?_) (by rfl) (fun W hW => ?hd9) ?_
          case hd9 =>
            have hh := HF.out W hW
            clear hW
            go_split_ands
            go_simp
            first | rfl | exact way_new.refl _ | exact way_grow.refl _ | (refine ⟨?_, way_new.refl _⟩; rfl) | (refine ⟨?_, way_grow.refl _⟩; rfl)
          try simp only [Act.put, List.setIfInBounds_toArray, List.set_cons_zero, List.set_cons_succ, List.getElem_toArray, List.getElem_cons_zero, List.getElem_cons_succ]
          refine Lex.want (v := ?_) (by rfl) (fun W hW => ?hd10) ?_
          case hd10 =>
            have hh := HF.out W hW
            clear hW
            go_split_ands
            go_simp
            first | rfl | exact way_new.refl _ | exact way_grow.refl _ | (refine ⟨?_, way_new.refl _⟩; rfl) | (refine ⟨?_, way_grow.refl _⟩; rfl)
          try simp only [Act.put, List.setIfInBounds_toArray, List.set_cons_zero, List.set_cons_succ, List.getElem_toArray, List.getElem_cons_zero, List.getElem_cons_succ]
          refine Lex.want (v := ?_) (by rfl) (fun W hW => ?hd11) ?_
          case hd11 =>
            have hh := HF.out W hW
            clear hW
            go_split_ands
            go_simp
            first | rfl | exact way_new.refl _ | exact way_grow.refl _ | (refine ⟨?_, way_new.refl _⟩; rfl) | (refine ⟨?_, way_grow.refl _⟩; rfl)
          try simp only [Act.put, List.setIfInBounds_toArray, List.set_cons_zero, List.set_cons_succ, List.getElem_toArray, List.getElem_cons_zero, List.getElem_cons_succ]
          refine Lex.nil (hKT.out _ ?_)
          clear hKT KT
          refine Reg.done (by kernel_rfl) (fun W hW hWT => ⟨by kernel_rfl, ?_⟩)
          simp only [List.drop_succ_cons, List.drop_zero]
          subst hW
          clear hWT HF
          go_wp2_with (go_at_call 25; refine Hid.out ?_)
          refine hide ?_
          refine (duo_issue HD1.out hrun.out.1 k1 k2 nn HS.out.1 HS.out.2).mono ?_
          rintro e w4 ⟨rfl, hd4⟩
          have HD2 := hide (hd4.swap.step (W' := w4.drew) (Below.refl _ _).drew)
          obtain ⟨c0, c1, c2, c3⟩ := HC.out _ hd4.below
          clear hd4
          have HF : Hid (∀ W, w4.drew = W → W.cell? ⟨b, off + k * 5 + 1, none⟩ = some (.int .i64 nn) ∧ W.cell? ⟨b, off + k * 5 + 2, none⟩ = some (.string k1) ∧ W.cell? ⟨b, off + k * 5 + 3, none⟩ = some (.string k2)) := hide fun W hW => hW ▸ ⟨c1, c2, c3⟩
          go_upto_region 11 with fail
          clear c0 c1 c2 c3
          refine region_by (fun a b => a = b) way_eq 11 11 (fun W => w4.drew = W) (by kernel_rfl) (by kernel_rfl) (fun _ _ d _ _ h => by cases d <;> exact h) (fun x y h hx => h ▸ hx) rfl (fun KT hKT => ?_)
          simp only [List.take_succ_cons, List.take_zero]
          refine Lex.want (v := ?_) (by rfl) (fun W hW => ?hd12) ?_
          case hd12 =>
            have hh := HF.out W hW
            clear hW
            go_split_ands
            go_simp
            first | rfl | exact way_new.refl _ | exact way_grow.refl _ | (refine ⟨?_, way_new.refl _⟩; rfl) | (refine ⟨?_, way_grow.refl _⟩; rfl)
          try simp only [Act.put, List.setIfInBounds_toArray, List.set_cons_zero, List.set_cons_succ, List.getElem_toArray, List.getElem_cons_zero, List.getElem_cons_succ]
          refine Lex.want (v := ?_) (by rfl) (fun W hW => ?hd13) ?_
          case hd13 =>
            have hh := HF.out W hW
            clear hW
            go_split_ands
            go_simp
            first | rfl | exact way_new.refl _ | exact way_grow.refl _ | (refine ⟨?_, way_new.refl _⟩; rfl) | (refine ⟨?_, way_grow.refl _⟩; rfl)
          try simp only [Act.put, List.setIfInBounds_toArray, List.set_cons_zero, List.set_cons_succ, List.getElem_toArray, List.getElem_cons_zero, List.getElem_cons_succ]
          refine Lex.want (v := ?_) (by rfl) (fun W hW => ?hd14) ?_
          case hd14 =>
            have hh := HF.out W hW
            clear hW
            go_split_ands
            go_simp
            first | rfl | exact way_new.refl _ | exact way_grow.refl _ | (refine ⟨?_, way_new.refl _⟩; rfl) | (refine ⟨?_, way_grow.refl _⟩; rfl)
          try simp only [Act.put, List.setIfInBounds_toArray, List.set_cons_zero, List.set_cons_succ, List.getElem_toArray, List.getElem_cons_zero, List.getElem_cons_succ]
          refine Lex.want (v := ?_) (by rfl) (fun W hW => ?hd15) ?_
          case hd15 =>
            have hh := HF.out W hW
            clear hW
            go_split_ands
            go_simp
            first | rfl | exact way_new.refl _ | exact way_grow.refl _ | (refine ⟨?_, way_new.refl _⟩; rfl) | (refine ⟨?_, way_grow.refl _⟩; rfl)
          try simp only [Act.put, List.setIfInBounds_toArray, List.set_cons_zero, List.set_cons_succ, List.getElem_toArray, List.getElem_cons_zero, List.getElem_cons_succ]
          refine Lex.want (v := ?_) (by rfl) (fun W hW => ?hd16) ?_
          case hd16 =>
            have hh := HF.out W hW
            clear hW
            go_split_ands
            go_simp
            first | rfl | exact way_new.refl _ | exact way_grow.refl _ | (refine ⟨?_, way_new.refl _⟩; rfl) | (refine ⟨?_, way_grow.refl _⟩; rfl)
          try simp only [Act.put, List.setIfInBounds_toArray, List.set_cons_zero, List.set_cons_succ, List.getElem_toArray, List.getElem_cons_zero, List.getElem_cons_succ]
          refine Lex.want (v := ?_) (by rfl) (fun W hW => ?hd17) ?_
          case hd17 =>
            have hh := HF.out W hW
            clear hW
            go_split_ands
            go_simp
            first | rfl | exact way_new.refl _ | exact way_grow.refl _ | (refine ⟨?_, way_new.refl _⟩; rfl) | (refine ⟨?_, way_grow.refl _⟩; rfl)
          try simp only [Act.put, List.setIfInBounds_toArray, List.set_cons_zero, List.set_cons_succ, List.getElem_toArray, List.getElem_cons_zero, List.getElem_cons_succ]
          refine Lex.want (v := ?_) (by rfl) (fun W hW => ?hd18) ?_
          case hd18 =>
            have hh := HF.out W hW
            clear hW
            go_split_ands
            go_simp
            first | rfl | exact way_new.refl _ | exact way_grow.refl _ | (refine ⟨?_, way_new.refl _⟩; rfl) | (refine ⟨?_, way_grow.refl _⟩; rfl)
          try simp only [Act.put, List.setIfInBounds_toArray, List.set_cons_zero, List.set_cons_succ, List.getElem_toArray, List.getElem_cons_zero, List.getElem_cons_succ]
          refine Lex.want (v := ?_) (by rfl) (fun W hW => ?hd19) ?_
          case hd19 =>
            have hh := HF.out W hW
            clear hW
            go_split_ands
            go_simp
            first | rfl | exact way_new.refl _ | exact way_grow.refl _ | (refine ⟨?_, way_new.refl _⟩; rfl) | (refine ⟨?_, way_grow.refl _⟩; rfl)
          try simp only [Act.put, List.setIfInBounds_toArray, List.set_cons_zero, List.set_cons_succ, List.getElem_toArray, List.getElem_cons_zero, List.getElem_cons_succ]
          refine Lex.want (v := ?_) (by rfl) (fun W hW => ?hd20) ?_
          case hd20 =>
            have hh := HF.out W hW
            clear hW
            go_split_ands
            go_simp
            first | rfl | exact way_new.refl _ | exact way_grow.refl _ | (refine ⟨?_, way_new.refl _⟩; rfl) | (refine ⟨?_, way_grow.refl _⟩; rfl)
          try simp only [Act.put, List.setIfInBounds_toArray, List.set_cons_zero, List.set_cons_succ, List.getElem_toArray, List.getElem_cons_zero, List.getElem_cons_succ]
          refine Lex.want (v := ?_) (by rfl) (fun W hW => ?hd21) ?_
          case hd21 =>
            have hh := HF.out W hW
            clear hW
            go_split_ands
            go_simp
            first | rfl | exact way_new.refl _ | exact way_grow.refl _ | (refine ⟨?_, way_new.refl _⟩; rfl) | (refine ⟨?_, way_grow.refl _⟩; rfl)
          try simp only [Act.put, List.setIfInBounds_toArray, List.set_cons_zero, List.set_cons_succ, List.getElem_toArray, List.getElem_cons_zero, List.getElem_cons_succ]
          refine Lex.want (v := ?_) (by rfl) (fun W hW => ?hd22) ?_
          case hd22 =>
            have hh := HF.out W hW
            clear hW
            go_split_ands
            go_simp
            first | rfl | exact way_new.refl _ | exact way_grow.refl _ | (refine ⟨?_, way_new.refl _⟩; rfl) | (refine ⟨?_, way_grow.refl _⟩; rfl)
          try simp only [Act.put, List.setIfInBounds_toArray, List.set_cons_zero, List.set_cons_succ, List.getElem_toArray, List.getElem_cons_zero, List.getElem_cons_succ]
          refine Lex.nil (hKT.out _ ?_)
          clear hKT KT
          refine Reg.done (by kernel_rfl) (fun W hW hWT => ⟨by kernel_rfl, ?_⟩)
          simp only [List.drop_succ_cons, List.drop_zero]
          subst hW
          clear hWT HF
          go_wp2_with (go_at_call 25; refine Hid.out ?_)
          refine hide ?_
          refine (duo_issue HD2.out hrun.out.1 k1 k2 nn HS.out.1 HS.out.2).mono ?_
          rintro e w5 ⟨rfl, hd5⟩
          have HD5 := hide hd5.swap
          obtain ⟨c0, c1, c2, c3⟩ := HC.out _ hd5.below
          clear hd5
          go_wp2_with fail
          exact ⟨⟨k + 1, _, by omega, by go_num, hide (hrun.out.issue (k1, k2) nn), HD5⟩, by simp [intOf]; omega⟩
        · have hb3 : (kd == 3) = false := by simpa using hk3
          by_cases hk4 : kd = 4
          · subst hk4
            go_wp2_with (go_at_call 31; refine Hid.out ?_)
            refine hide ?_
            (with_reducible refine (duo_block hrel.out k1 k2 true HS.out.1 HS.out.2).mono ?_)
            rintro e w4 ⟨rfl, hd4⟩
            clear c0 c1 c2 c3
            obtain ⟨c0, c1, c2, c3⟩ := HC.out _ hd4.below
            have HD4 := hide hd4.swap
            clear hd4
            go_wp2_with (go_at_call 31; refine Hid.out ?_)
            refine hide ?_
            (with_reducible refine (duo_block HD4.out k1 k2 true HS.out.1 HS.out.2).mono ?_)
            rintro e w5 ⟨rfl, hd5⟩
            have HD5 := hide hd5.swap
            clear hd5
            go_wp2_with fail
            exact ⟨⟨k + 1, _, by omega, by go_num, hide (hrun.out.block (k1, k2) true), HD5⟩, by simp [intOf]; omega⟩
          · have hb4 : (kd == 4) = false := by simpa using hk4
            go_wp2_with fail
            exact ⟨⟨k + 1, L, by omega, by go_num, hide hrun.out.on, hrel⟩, by simp [intOf]; omega⟩
      · have hkn : k = len0 := by omega
        clear HWF HEL HLEN e1
        obtain ⟨hp1, hp2, hp3, hp4, hp5, hp6⟩ := HP.out
        have HSP : Hid (shortPosts l1) := hide fun q hq => ⟨reach_short (hp4 q hq).1.1, reach_short (hp4 q hq).1.2⟩
        have HP5 := hide hp5
        clear hp2 hp3 hp4 hp5 hp6 HP
        obtain ⟨eV, hE⟩ : ∃ x, lookErr L l1 = x := ⟨_, rfl⟩
        obtain ⟨L1, hL1⟩ : ∃ x, applyLed L l1 = x := ⟨_, rfl⟩
        have HTR := hide (ls_try a1 len1 cap1 l1 hp1 (by omega) (HP5.out.keep hrel.out.below) hrel.out.led)
        rw [hE] at HTR
        go_wp2_with (go_at_call 27; refine Hid.out ?_)
        refine hide ?_
        (with_reducible refine HTR.out.mono ?_)
        rintro e w4 ⟨rfl, hb4⟩
        have HD4 := hide (hrel.out.step hb4)
        have HAP := hide (duo_apply HD4.out a1 len1 cap1 l1 hp1 (by omega) (HP5.out.keep HD4.out.below) HSP.out)
        rw [hE, hL1] at HAP
        clear hb4 HTR hrel
        go_wp2_with (go_at_call 29; refine Hid.out ?_)
        refine hide ?_
        (with_reducible refine HAP.out.mono ?_)
        rintro e w5 ⟨rfl, hd5⟩
        have HD5 := hide hd5
        have HB5 := hide hd5.below
        clear hd5 HAP HD4
        have hlm : L1.m.length ≤ 1099511627776 ∧ L.m.length ≤ 1099511627776 := by
          have h1 := hrun.out.2
          have h2 := apply_len L l1
          rw [hL1] at h2
          omega
        have hksl : (posKeys L1.m []).length ≤ 1099511627776 := Nat.le_trans (posKeys_length _ _) hlm.1
        have HKA := hide (ls_keys HD5.out.led hlm.1)
        have HKB : Hid (eV ≠ 0 → ∀ W, Below w5.heap.size w5 W → Calls Try.prog 18 #[.pointer (some ⟨pb, 0, none⟩), .slice none 0 0] W fun e w' => ∃ A c, e = .returned (.slice A (posKeys L1.m []).length c) ∧ KeysIn A (posKeys L1.m []) w' ∧ Below W.heap.size W w') := hide fun hne W hW => by
          have hLL : L1 = L := by rw [← hL1]; unfold applyLed; rw [if_pos (by rw [hE]; exact hne)]
          have := ls_keys (HD5.out.step hW).swap.led hlm.2
          rwa [← hLL] at this
        have HGET : Hid (∀ x1 x2, ∃ x y z x' y' z' : Int, (eV ≠ 0 → x = x' ∧ y = y' ∧ z = z') ∧ (∀ V, Below w5.heap.size w5 V → Calls Try.prog 17 #[.pointer (some ⟨pa, 0, none⟩), .agg #[.string x1, .string x2]] V (fun e w' => e = .returned (.agg #[.int .i64 x, .int .i64 y, .int .i64 z]) ∧ New V w') ∧
            Calls Try.prog 17 #[.pointer (some ⟨pb, 0, none⟩), .agg #[.string x1, .string x2]] V (fun e w' => e = .returned (.agg #[.int .i64 x', .int .i64 y', .int .i64 z']) ∧ New V w'))) := hide fun x1 x2 => ⟨_, _, _, _, _, _, fun hne => by
              have hLL : L1 = L := by rw [← hL1]; unfold applyLed; rw [if_pos (by rw [hE]; exact hne)]
              rw [hLL]
              exact ⟨rfl, rfl, rfl⟩, fun V hV => ⟨ls_get x1 x2 (HD5.out.step hV).led, ls_get x1 x2 (HD5.out.step hV).swap.led⟩⟩
        have HWH : Hid (eV = 0 → ∀ x1 x2, ∃ u v : Int, u - v = keySum l1 (x1, x2) ∧ 0 ≤ u ∧ u ≤ 1152921504606846976 ∧ 0 ≤ v ∧ v ≤ 1152921504606846976 ∧ ∀ V, Below w5.heap.size w5 V → Calls Try.prog 22 #[.pointer (some ⟨pa, 0, none⟩), .agg #[.string x1, .string x2]] V (fun e w' => e = .returned (.int .i64 u) ∧ New V w') ∧
            Calls Try.prog 22 #[.pointer (some ⟨pb, 0, none⟩), .agg #[.string x1, .string x2]] V (fun e w' => e = .returned (.int .i64 v) ∧ New V w')) := hide fun hz x1 x2 => by
          obtain ⟨t1, t2, t3, t4, t5⟩ := whole_does hrun.out.1 (p := l1) (by rw [hE]; exact hz) (x1, x2)
          rw [hL1] at t1 t4 t5
          exact ⟨_, _, by omega, t4, t5, t2, t3, fun V hV => ⟨ls_whole x1 x2 (HD5.out.step hV).led, ls_whole x1 x2 (HD5.out.step hV).swap.led⟩⟩
        have HG : Hid (∀ W, Below w5.heap.size w5 W → W.cell? ⟨ga, 0, none⟩ = some (.pointer (some ⟨pa, 0, none⟩)) ∧ W.cell? ⟨gb, 0, none⟩ = some (.pointer (some ⟨pb, 0, none⟩))) := hide fun W hW => ⟨(HD5.out.step hW).led.cell.1, (HD5.out.step hW).swap.led.cell.1⟩
        clear hlm hE hL1 HD5 hrun
        generalize posKeys L1.m [] = ks at *
        obtain ⟨i1, i2⟩ := HG.out _ (Below.refl _ _)
        go_upto_region 19 with fail
        go_wp2_with (go_at_call 18; refine Hid.out ?_)
        refine hide ?_
        (with_reducible refine HKA.out.mono ?_)
        rintro e w6 ⟨A6, c6, rfl, hk6, hb6⟩
        have HK6 := hide hk6
        have HB6 := hide hb6
        clear hk6 i1 i2 HKA
        obtain ⟨i1, i2⟩ := HG.out _ hb6
        clear hb6
        have hzz : eV = 0 ∨ (¬ eV = 0 ∧ (eV == 0) = false ∧ (eV != 0) = true) := by
          by_cases hz : eV = 0
          · exact .inl hz
          · exact .inr ⟨hz, by simpa using hz, by simpa using hz⟩
        go_upto_region 20 with fail
        go_cut [114] from 89 to 198 (fun t wx => t = .bool false ∧ Hid (Below w6.heap.size w6 wx))
        case first =>
          rcases hzz with rfl | ⟨hz, hz1, hz2⟩
          · go_wp2_with fail
            go_meet
            exact ⟨rfl, hide (Below.refl _ _)⟩
          · have HNZ := hide hz
            clear hz
            go_wp2_with (go_at_call 18; refine Hid.out ?_)
            refine hide ?_
            (with_reducible refine (HKB.out HNZ.out _ HB6.out).mono ?_)
            rintro e w7 ⟨A7, c7, rfl, hk7, hb7⟩
            have HSK := hide (same_keys A6 A7 c6 c7 ks.length ks w7 rfl hksl (HK6.out.keep hb7) hk7)
            have HB7 := hide hb7
            clear hb7 hk7
            go_wp2_with (go_at_call 30; refine HSK.out.mono ?_; rintro e w8 ⟨rfl, hb8⟩; have HB8 := hide (HB7.out.trans (hb8.mono HB7.out.size)); clear hb8)
            go_meet
            exact ⟨rfl, HB8⟩
        case rest =>
        obtain ⟨wz, rfl⟩ : ∃ x, x = wc := ⟨_, rfl⟩
        obtain ⟨rfl, hbc⟩ := hcut
        have HKC := hide (HK6.out.keep hbc.out)
        have HBC := hide (HB6.out.trans (hbc.out.mono HB6.out.size))
        clear i1 i2 HKB HK6 hbc HB6
        go_wp2_with fail
        go_loopw [11] (fun iv W => ∃ i : Nat, i ≤ ks.length ∧ iv = .int .i64 i ∧ Hid (Below wz.heap.size wz W)) (fun iv _ => ks.length - (intOf iv).toNat)
        case atStart => exact ⟨0, by omega, rfl, hide (Below.refl _ _)⟩
        case round =>
          obtain ⟨i, hi, rfl, hb⟩ := hrel
          have HBW := hide (HBC.out.trans (hb.out.mono HBC.out.size))
          by_cases hil : i < ks.length
          · obtain ⟨⟨x1, x2⟩, hx⟩ : ∃ x, ks[i]? = some x := ⟨ks[i], List.getElem?_eq_getElem hil⟩
            obtain ⟨q, rfl, hq, hx1, hx2⟩ := (HKC.out.keep hb.out) i _ hx
            simp only at hx1 hx2
            have HKX := hide hx
            clear hx
            obtain ⟨i1, i2⟩ := HG.out _ HBW.out
            obtain ⟨x, y, z, x', y', z', hsame, hget⟩ := HGET.out x1 x2
            have HGT := hide hget
            have HSAME := hide hsame
            have hs1 : ga < wr.heap.size := cell_in i1
            have hs2 : gb < wr.heap.size := cell_in i2
            have HF : Hid (∀ W, New wr W → W.cell? ⟨ga, 0, none⟩ = some (.pointer (some ⟨pa, 0, none⟩)) ∧ W.cell? ⟨gb, 0, none⟩ = some (.pointer (some ⟨pb, 0, none⟩)) ∧ W.cell? ⟨q, i * 2, none⟩ = some (.string x1) ∧ W.cell? ⟨q, i * 2 + 1, none⟩ = some (.string x2)) := hide fun W hW =>
              ⟨(Below.cell hW (p := ⟨ga, 0, none⟩) hs1).trans i1, (Below.cell hW (p := ⟨gb, 0, none⟩) hs2).trans i2, (Below.cell hW (p := ⟨q, i * 2, none⟩) hq).trans hx1, (Below.cell hW (p := ⟨q, i * 2 + 1, none⟩) hq).trans hx2⟩
            clear hget hsame i1 i2 hx1 hx2
            go_upto_region 25 with fail
            go_cut [12, 13] from 115 to 197 (fun t u wx => ∃ q1 q2 : Nat, t = .pointer (some ⟨q1, 0, none⟩) ∧ u = .pointer (some ⟨q2, 0, none⟩) ∧ Hid (New wr wx) ∧ Hid (wx.heap[q1]? = some (.cells #[.int .i64 x, .int .i64 y, .int .i64 z] 33 (0, 0))) ∧ Hid (wx.heap[q2]? = some (.cells #[.int .i64 x', .int .i64 y', .int .i64 z'] 33 (0, 0))))
            case first =>
              refine region_by New way_new 22 18 (fun W => New wr W) (by kernel_rfl) (by kernel_rfl) (fun _ _ d _ _ h => by cases d <;> exact h) (fun x y h hx => way_new.trans hx h) (Below.refl _ _).drew (fun KT hKT => ?_)
              simp only [List.take_succ_cons, List.take_zero]
              refine Lex.want (v := ?_) (by rfl) (fun W hW => ?hd23) ?_
              case hd23 =>
                have hh := HF.out W hW
                clear hW
                go_split_ands
                go_simp
                first | rfl | exact way_new.refl _ | exact way_grow.refl _ | (refine ⟨?_, way_new.refl _⟩; rfl) | (refine ⟨?_, way_grow.refl _⟩; rfl)
              try simp only [Act.put, List.setIfInBounds_toArray, List.set_cons_zero, List.set_cons_succ, List.getElem_toArray, List.getElem_cons_zero, List.getElem_cons_succ]
              refine Lex.want (v := ?_) (by rfl) (fun W hW => ?hd24) ?_
              case hd24 =>
                have hh := HF.out W hW
                clear hW
                go_split_ands
                go_simp
                first | rfl | exact way_new.refl _ | exact way_grow.refl _ | (refine ⟨?_, way_new.refl _⟩; rfl) | (refine ⟨?_, way_grow.refl _⟩; rfl)
              try simp only [Act.put, List.setIfInBounds_toArray, List.set_cons_zero, List.set_cons_succ, List.getElem_toArray, List.getElem_cons_zero, List.getElem_cons_succ]
              refine Lex.want (v := ?_) (by rfl) (fun W hW => ?hd25) ?_
              case hd25 =>
                have hh := HF.out W hW
                clear hW
                go_split_ands
                go_simp
                first | rfl | exact way_new.refl _ | exact way_grow.refl _ | (refine ⟨?_, way_new.refl _⟩; rfl) | (refine ⟨?_, way_grow.refl _⟩; rfl)
              try simp only [Act.put, List.setIfInBounds_toArray, List.set_cons_zero, List.set_cons_succ, List.getElem_toArray, List.getElem_cons_zero, List.getElem_cons_succ]
              refine Lex.want (v := ?_) (by rfl) (fun W hW => ?hd26) ?_
              case hd26 =>
                have hh := HF.out W hW
                clear hW
                go_split_ands
                go_simp
                first | rfl | exact way_new.refl _ | exact way_grow.refl _ | (refine ⟨?_, way_new.refl _⟩; rfl) | (refine ⟨?_, way_grow.refl _⟩; rfl)
              try simp only [Act.put, List.setIfInBounds_toArray, List.set_cons_zero, List.set_cons_succ, List.getElem_toArray, List.getElem_cons_zero, List.getElem_cons_succ]
              refine Lex.want (v := ?_) (by rfl) (fun W hW => ?hd27) ?_
              case hd27 =>
                have hh := HF.out W hW
                clear hW
                go_split_ands
                go_simp
                first | rfl | exact way_new.refl _ | exact way_grow.refl _ | (refine ⟨?_, way_new.refl _⟩; rfl) | (refine ⟨?_, way_grow.refl _⟩; rfl)
              try simp only [Act.put, List.setIfInBounds_toArray, List.set_cons_zero, List.set_cons_succ, List.getElem_toArray, List.getElem_cons_zero, List.getElem_cons_succ]
              refine Lex.want (v := ?_) (by rfl) (fun W hW => ?hd28) ?_
              case hd28 =>
                have hh := HF.out W hW
                clear hW
                go_split_ands
                go_simp
                first | rfl | exact way_new.refl _ | exact way_grow.refl _ | (refine ⟨?_, way_new.refl _⟩; rfl) | (refine ⟨?_, way_grow.refl _⟩; rfl)
              try simp only [Act.put, List.setIfInBounds_toArray, List.set_cons_zero, List.set_cons_succ, List.getElem_toArray, List.getElem_cons_zero, List.getElem_cons_succ]
              refine Lex.want (v := ?_) (by rfl) (fun W hW => ?hd29) ?_
              case hd29 =>
                have hh := HF.out W hW
                clear hW
                go_split_ands
                go_simp
                first | rfl | exact way_new.refl _ | exact way_grow.refl _ | (refine ⟨?_, way_new.refl _⟩; rfl) | (refine ⟨?_, way_grow.refl _⟩; rfl)
              try simp only [Act.put, List.setIfInBounds_toArray, List.set_cons_zero, List.set_cons_succ, List.getElem_toArray, List.getElem_cons_zero, List.getElem_cons_succ]
              refine Lex.want (v := ?_) (by rfl) (fun W hW => ?hd30) ?_
              case hd30 =>
                have hh := HF.out W hW
                clear hW
                go_split_ands
                go_simp
                first | rfl | exact way_new.refl _ | exact way_grow.refl _ | (refine ⟨?_, way_new.refl _⟩; rfl) | (refine ⟨?_, way_grow.refl _⟩; rfl)
              try simp only [Act.put, List.setIfInBounds_toArray, List.set_cons_zero, List.set_cons_succ, List.getElem_toArray, List.getElem_cons_zero, List.getElem_cons_succ]
              refine Lex.want (v := ?_) (by rfl) (fun W hW => ?hd31) ?_
              case hd31 =>
                have hcc := hide (HGT.out W (HBW.out.trans (Below.mono hW HBW.out.size))).1
                go_simp
                exact hcc
              try simp only [Act.put, List.setIfInBounds_toArray, List.set_cons_zero, List.set_cons_succ, List.getElem_toArray, List.getElem_cons_zero, List.getElem_cons_succ]
              refine Lex.want (v := ?_) (by rfl) (fun W hW => ?hd32) ?_
              case hd32 =>
                have hh := HF.out W hW
                clear hW
                go_split_ands
                go_simp
                first | rfl | exact way_new.refl _ | exact way_grow.refl _ | (refine ⟨?_, way_new.refl _⟩; rfl) | (refine ⟨?_, way_grow.refl _⟩; rfl)
              try simp only [Act.put, List.setIfInBounds_toArray, List.set_cons_zero, List.set_cons_succ, List.getElem_toArray, List.getElem_cons_zero, List.getElem_cons_succ]
              refine Lex.want (v := ?_) (by rfl) (fun W hW => ?hd33) ?_
              case hd33 =>
                have hh := HF.out W hW
                clear hW
                go_split_ands
                go_simp
                first | rfl | exact way_new.refl _ | exact way_grow.refl _ | (refine ⟨?_, way_new.refl _⟩; rfl) | (refine ⟨?_, way_grow.refl _⟩; rfl)
              try simp only [Act.put, List.setIfInBounds_toArray, List.set_cons_zero, List.set_cons_succ, List.getElem_toArray, List.getElem_cons_zero, List.getElem_cons_succ]
              refine Lex.want (v := ?_) (by rfl) (fun W hW => ?hd34) ?_
              case hd34 =>
                have hh := HF.out W hW
                clear hW
                go_split_ands
                go_simp
                first | rfl | exact way_new.refl _ | exact way_grow.refl _ | (refine ⟨?_, way_new.refl _⟩; rfl) | (refine ⟨?_, way_grow.refl _⟩; rfl)
              try simp only [Act.put, List.setIfInBounds_toArray, List.set_cons_zero, List.set_cons_succ, List.getElem_toArray, List.getElem_cons_zero, List.getElem_cons_succ]
              refine Lex.want (v := ?_) (by rfl) (fun W hW => ?hd35) ?_
              case hd35 =>
                have hh := HF.out W hW
                clear hW
                go_split_ands
                go_simp
                first | rfl | exact way_new.refl _ | exact way_grow.refl _ | (refine ⟨?_, way_new.refl _⟩; rfl) | (refine ⟨?_, way_grow.refl _⟩; rfl)
              try simp only [Act.put, List.setIfInBounds_toArray, List.set_cons_zero, List.set_cons_succ, List.getElem_toArray, List.getElem_cons_zero, List.getElem_cons_succ]
              refine Lex.want (v := ?_) (by rfl) (fun W hW => ?hd36) ?_
              case hd36 =>
                have hh := HF.out W hW
                clear hW
                go_split_ands
                go_simp
                first | rfl | exact way_new.refl _ | exact way_grow.refl _ | (refine ⟨?_, way_new.refl _⟩; rfl) | (refine ⟨?_, way_grow.refl _⟩; rfl)
              try simp only [Act.put, List.setIfInBounds_toArray, List.set_cons_zero, List.set_cons_succ, List.getElem_toArray, List.getElem_cons_zero, List.getElem_cons_succ]
              refine Lex.want (v := ?_) (by rfl) (fun W hW => ?hd37) ?_
              case hd37 =>
                have hh := HF.out W hW
                clear hW
                go_split_ands
                go_simp
                first | rfl | exact way_new.refl _ | exact way_grow.refl _ | (refine ⟨?_, way_new.refl _⟩; rfl) | (refine ⟨?_, way_grow.refl _⟩; rfl)
              try simp only [Act.put, List.setIfInBounds_toArray, List.set_cons_zero, List.set_cons_succ, List.getElem_toArray, List.getElem_cons_zero, List.getElem_cons_succ]
              refine Lex.want (v := ?_) (by rfl) (fun W hW => ?hd38) ?_
              case hd38 =>
                have hh := HF.out W hW
                clear hW
                go_split_ands
                go_simp
                first | rfl | exact way_new.refl _ | exact way_grow.refl _ | (refine ⟨?_, way_new.refl _⟩; rfl) | (refine ⟨?_, way_grow.refl _⟩; rfl)
              try simp only [Act.put, List.setIfInBounds_toArray, List.set_cons_zero, List.set_cons_succ, List.getElem_toArray, List.getElem_cons_zero, List.getElem_cons_succ]
              refine Lex.want (v := ?_) (by rfl) (fun W hW => ?hd39) ?_
              case hd39 =>
                have hh := HF.out W hW
                clear hW
                go_split_ands
                go_simp
                first | rfl | exact way_new.refl _ | exact way_grow.refl _ | (refine ⟨?_, way_new.refl _⟩; rfl) | (refine ⟨?_, way_grow.refl _⟩; rfl)
              try simp only [Act.put, List.setIfInBounds_toArray, List.set_cons_zero, List.set_cons_succ, List.getElem_toArray, List.getElem_cons_zero, List.getElem_cons_succ]
              refine Lex.want (v := ?_) (by rfl) (fun W hW => ?hd40) ?_
              case hd40 =>
                have hcc := hide (HGT.out W (HBW.out.trans (Below.mono hW HBW.out.size))).2
                go_simp
                exact hcc
              try simp only [Act.put, List.setIfInBounds_toArray, List.set_cons_zero, List.set_cons_succ, List.getElem_toArray, List.getElem_cons_zero, List.getElem_cons_succ]
              refine Lex.nil (hKT.out _ ?_)
              clear hKT KT
              refine Reg.two 18 19 rfl rfl (by decide) (by decide) (by kernel_rfl) (fun W hW hT K hK => ?_) (fun W hW hT K hK => ?_)
              · go_simp
                have HZ1 := hide (heap_alloc_new W (.cells #[.int .i64 0, .int .i64 0, .int .i64 0] 33))
                have hle0 : wr.heap.size ≤ W.heap.size := Below.size hT
                refine hK.out _ _ (Below.alloc hT (Below.size hT) _) (fun _ => ?_)
                clear hK K
                try simp only [Act.put, List.setIfInBounds_toArray, List.set_cons_zero, List.set_cons_succ, List.getElem_toArray, List.getElem_cons_zero, List.getElem_cons_succ]
                refine Reg.only 19 rfl (by decide) (by kernel_rfl) (fun W2 hW2 hT2 K hK => ?_)
                go_simp
                have hlt2 : W.heap.size < W2.heap.size := (Array.getElem?_eq_some_iff.1 (blk_keep hW2 HZ1.out)).1
                have HZ2 := hide ((Below.heap_alloc W2 (.cells #[.int .i64 0, .int .i64 0, .int .i64 0] 33) _ hlt2).trans (blk_keep hW2 HZ1.out))
                have HZ3 := hide (heap_alloc_new W2 (.cells #[.int .i64 0, .int .i64 0, .int .i64 0] 33))
                clear HZ1
                refine hK.out _ _ (Below.alloc hT2 (Below.size hT2) _) (fun _ => ?_)
                clear hK K
                try simp only [Act.put, List.setIfInBounds_toArray, List.set_cons_zero, List.set_cons_succ, List.getElem_toArray, List.getElem_cons_zero, List.getElem_cons_succ]
                have hle1 : wr.heap.size ≤ W.heap.size := by have := Below.size hT2; omega
                have hle2 : wr.heap.size ≤ W2.heap.size := by have := Below.size hT2; omega
                have hne : W.heap.size ≠ W2.heap.size := by omega
                refine Reg.only 20 rfl (by decide) (by kernel_rfl) (fun W3 hW3 hT3 K hK => ?_)
                have HY1 := hide (blk_keep hW3 HZ2.out)
                have HY2 := hide (blk_keep hW3 HZ3.out)
                obtain ⟨b1, b2, b3, b4, b5, b6⟩ := box3 HY1.out
                go_simp
                refine hK.out _ _ (put3_new x y z hT3 hle1) (fun _ => ?_)
                clear hK K b1 b2 b3 b4 b5 b6
                try simp only [Act.put, List.setIfInBounds_toArray, List.set_cons_zero, List.set_cons_succ, List.getElem_toArray, List.getElem_cons_zero, List.getElem_cons_succ]
                refine Reg.only 21 rfl (by decide) (by kernel_rfl) (fun W4 hW4 hT4 K hK => ?_)
                have HX1 := hide (blk_keep hW4 (put3_same x y z HY1.out))
                have HX2 := hide (blk_keep hW4 ((put3_other x y z (Ne.symm hne)).trans HY2.out))
                obtain ⟨b1, b2, b3, b4, b5, b6⟩ := box3 HX2.out
                go_simp
                refine hK.out _ _ (put3_new x' y' z' hT4 hle2) (fun _ => ?_)
                clear hK K b1 b2 b3 b4 b5 b6
                try simp only [Act.put, List.setIfInBounds_toArray, List.set_cons_zero, List.set_cons_succ, List.getElem_toArray, List.getElem_cons_zero, List.getElem_cons_succ]
                refine Reg.done (by kernel_rfl) (fun W5 hW5 hT5 => ⟨by kernel_rfl, ?_⟩)
                simp only [List.drop_succ_cons, List.drop_zero]
                have HV1 := hide (blk_keep hW5 ((put3_other x' y' z' hne).trans HX1.out))
                have HV2 := hide (blk_keep hW5 (put3_same x' y' z' HX2.out))
                have HT := hide hT5
                clear HX1 HX2 HY1 HY2 HZ2 HZ3 hW5 hT5 hW4 hT4 hW3 hT3 hW2 hT2 hT
                go_wp2_with fail
                go_meet
                exact ⟨_, _, rfl, rfl, HT, HV1, HV2⟩
              · go_simp
                have HZ1 := hide (heap_alloc_new W (.cells #[.int .i64 0, .int .i64 0, .int .i64 0] 33))
                have hle0 : wr.heap.size ≤ W.heap.size := Below.size hT
                refine hK.out _ _ (Below.alloc hT (Below.size hT) _) (fun _ => ?_)
                clear hK K
                try simp only [Act.put, List.setIfInBounds_toArray, List.set_cons_zero, List.set_cons_succ, List.getElem_toArray, List.getElem_cons_zero, List.getElem_cons_succ]
                refine Reg.only 18 rfl (by decide) (by kernel_rfl) (fun W2 hW2 hT2 K hK => ?_)
                go_simp
                have hlt2 : W.heap.size < W2.heap.size := (Array.getElem?_eq_some_iff.1 (blk_keep hW2 HZ1.out)).1
                have HZ2 := hide ((Below.heap_alloc W2 (.cells #[.int .i64 0, .int .i64 0, .int .i64 0] 33) _ hlt2).trans (blk_keep hW2 HZ1.out))
                have HZ3 := hide (heap_alloc_new W2 (.cells #[.int .i64 0, .int .i64 0, .int .i64 0] 33))
                clear HZ1
                refine hK.out _ _ (Below.alloc hT2 (Below.size hT2) _) (fun _ => ?_)
                clear hK K
                try simp only [Act.put, List.setIfInBounds_toArray, List.set_cons_zero, List.set_cons_succ, List.getElem_toArray, List.getElem_cons_zero, List.getElem_cons_succ]
                have hle1 : wr.heap.size ≤ W2.heap.size := by have := Below.size hT2; omega
                have hle2 : wr.heap.size ≤ W.heap.size := by have := Below.size hT2; omega
                have hne : W2.heap.size ≠ W.heap.size := by omega
                refine Reg.only 20 rfl (by decide) (by kernel_rfl) (fun W3 hW3 hT3 K hK => ?_)
                have HY1 := hide (blk_keep hW3 HZ3.out)
                have HY2 := hide (blk_keep hW3 HZ2.out)
                obtain ⟨b1, b2, b3, b4, b5, b6⟩ := box3 HY1.out
                go_simp
                refine hK.out _ _ (put3_new x y z hT3 hle1) (fun _ => ?_)
                clear hK K b1 b2 b3 b4 b5 b6
                try simp only [Act.put, List.setIfInBounds_toArray, List.set_cons_zero, List.set_cons_succ, List.getElem_toArray, List.getElem_cons_zero, List.getElem_cons_succ]
                refine Reg.only 21 rfl (by decide) (by kernel_rfl) (fun W4 hW4 hT4 K hK => ?_)
                have HX1 := hide (blk_keep hW4 (put3_same x y z HY1.out))
                have HX2 := hide (blk_keep hW4 ((put3_other x y z (Ne.symm hne)).trans HY2.out))
                obtain ⟨b1, b2, b3, b4, b5, b6⟩ := box3 HX2.out
                go_simp
                refine hK.out _ _ (put3_new x' y' z' hT4 hle2) (fun _ => ?_)
                clear hK K b1 b2 b3 b4 b5 b6
                try simp only [Act.put, List.setIfInBounds_toArray, List.set_cons_zero, List.set_cons_succ, List.getElem_toArray, List.getElem_cons_zero, List.getElem_cons_succ]
                refine Reg.done (by kernel_rfl) (fun W5 hW5 hT5 => ⟨by kernel_rfl, ?_⟩)
                simp only [List.drop_succ_cons, List.drop_zero]
                have HV1 := hide (blk_keep hW5 ((put3_other x' y' z' hne).trans HX1.out))
                have HV2 := hide (blk_keep hW5 (put3_same x' y' z' HX2.out))
                have HT := hide hT5
                clear HX1 HX2 HY1 HY2 HZ2 HZ3 hW5 hT5 hW4 hT4 hW3 hT3 hW2 hT2 hT
                go_wp2_with fail
                go_meet
                exact ⟨_, _, rfl, rfl, HT, HV1, HV2⟩
            case rest =>
            obtain ⟨wb, rfl⟩ : ∃ x, x = wc := ⟨_, rfl⟩
            obtain ⟨q1, q2, rfl, rfl, hw, hz1, hz2⟩ := hcut
            obtain ⟨b1, b2, b3, _⟩ := box3 hz1.out
            obtain ⟨d1, d2, d3, _⟩ := box3 hz2.out
            have HBX := hide (HBW.out.trans (Below.mono hw.out HBW.out.size))
            have HBY := hide (hb.out.trans (Below.mono hw.out hb.out.size))
            go_upto_region 26 with fail
            go_cut [145] from 115 to 197 (fun t wx => t = .bool false ∧ wb = wx)
            case first =>
              rcases hzz with rfl | ⟨hz, g1, g2⟩
              · go_wp2_with fail
                go_meet
                exact ⟨rfl, rfl⟩
              · obtain ⟨rfl, rfl, rfl⟩ := HSAME.out hz
                have HNZ := hide hz
                clear hz
                go_wp2_with fail
                go_meet
                exact ⟨rfl, rfl⟩
            case rest =>
            obtain ⟨rfl, rfl⟩ := hcut
            clear b1 b2 b3 d1 d2 d3 hz1 hz2 HSAME HGT HF
            go_wp2_with fail
            go_loopw [14, 15] (fun nv jv W => ∃ j : Nat, j ≤ len1 ∧ jv = .int .i64 j ∧ nv = .int .i64 (wrap64 (keySum (l1.take j) (x1, x2))) ∧ Hid (eV ≠ 0 → j = 0) ∧ Hid (Below wb.heap.size wb W)) (fun _ jv _ => len1 - (intOf jv).toNat)
            case atStart => exact ⟨0, by omega, rfl, by simp [keySum, wrap64], hide (fun _ => rfl), hide (Below.refl _ _)⟩
            case round =>
              obtain ⟨j, hj, rfl, hnv, hj0, hb3⟩ := hrel
              have HBZ := hide (HBX.out.trans (Below.mono hb3.out HBX.out.size))
              have HBV := hide (HBY.out.trans (Below.mono hb3.out HBY.out.size))
              rcases hzz with rfl | ⟨hz, g1, g2⟩
              · by_cases hjl : j < len1
                · obtain ⟨⟨⟨k1, k2⟩, sb, by_⟩, hpp⟩ : ∃ x, l1[j]? = some x := ⟨l1[j]'(by omega), List.getElem?_eq_getElem (by omega)⟩
                  obtain ⟨pb1, poff, rfl, hplt, p0, p1, p2, p3⟩ := (HP5.out.keep (HB5.out.trans (HBZ.out.mono HB5.out.size))) j _ hpp
                  obtain ⟨q', hqe, hq', hx1, hx2⟩ := (HKC.out.keep HBV.out) i _ HKX.out
                  simp only at hx1 hx2 p0 p1 p2 p3
                  obtain rfl : q = q' := by simpa using hqe
                  have HNX := hide (key_next hpp (x1, x2))
                  have HF : Hid (∀ W, wr.drew = W → W.cell? ⟨pb1, poff + j * 4, none⟩ = some (.string k1) ∧ W.cell? ⟨pb1, poff + j * 4 + 1, none⟩ = some (.string k2) ∧ W.cell? ⟨q, i * 2, none⟩ = some (.string x1) ∧ W.cell? ⟨q, i * 2 + 1, none⟩ = some (.string x2)) := hide fun W hW => hW ▸ ⟨p0, p1, hx1, hx2⟩
                  clear p0 p1 p2 hx1 hx2 hqe
                  obtain ⟨bq, hbq⟩ : ∃ bq : Bool, decide (k1 = x1 ∧ k2 = x2) = bq := ⟨_, rfl⟩
                  have HBQ := hide hbq
                  clear hbq
                  go_upto_region 32 with fail
                  refine region_by (fun a b => a = b) way_eq 10 10 (fun W => wr.drew = W) (by kernel_rfl) (by kernel_rfl) (fun _ _ d _ _ h => by cases d <;> exact h) (fun x y h hx => h ▸ hx) rfl (fun KT hKT => ?_)
                  simp only [List.take_succ_cons, List.take_zero]
                  refine Lex.want (v := ?_) (by rfl) (fun W hW => ?hd41) ?_
                  case hd41 =>
                    have hh := HF.out W hW
                    clear hW
                    go_split_ands
                    go_simp
                    first | rfl | exact way_new.refl _ | exact way_grow.refl _ | (refine ⟨?_, way_new.refl _⟩; rfl) | (refine ⟨?_, way_grow.refl _⟩; rfl)
                  try simp only [Act.put, List.setIfInBounds_toArray, List.set_cons_zero, List.set_cons_succ, List.getElem_toArray, List.getElem_cons_zero, List.getElem_cons_succ]
                  refine Lex.want (v := ?_) (by rfl) (fun W hW => ?hd42) ?_
                  case hd42 =>
                    have hh := HF.out W hW
                    clear hW
                    go_split_ands
                    go_simp
                    first | rfl | exact way_new.refl _ | exact way_grow.refl _ | (refine ⟨?_, way_new.refl _⟩; rfl) | (refine ⟨?_, way_grow.refl _⟩; rfl)
                  try simp only [Act.put, List.setIfInBounds_toArray, List.set_cons_zero, List.set_cons_succ, List.getElem_toArray, List.getElem_cons_zero, List.getElem_cons_succ]
                  refine Lex.want (v := ?_) (by rfl) (fun W hW => ?hd43) ?_
                  case hd43 =>
                    have hh := HF.out W hW
                    clear hW
                    go_split_ands
                    go_simp
                    first | rfl | exact way_new.refl _ | exact way_grow.refl _ | (refine ⟨?_, way_new.refl _⟩; rfl) | (refine ⟨?_, way_grow.refl _⟩; rfl)
                  try simp only [Act.put, List.setIfInBounds_toArray, List.set_cons_zero, List.set_cons_succ, List.getElem_toArray, List.getElem_cons_zero, List.getElem_cons_succ]
                  refine Lex.want (v := ?_) (by rfl) (fun W hW => ?hd44) ?_
                  case hd44 =>
                    have hh := HF.out W hW
                    clear hW
                    go_split_ands
                    go_simp
                    first | rfl | exact way_new.refl _ | exact way_grow.refl _ | (refine ⟨?_, way_new.refl _⟩; rfl) | (refine ⟨?_, way_grow.refl _⟩; rfl)
                  try simp only [Act.put, List.setIfInBounds_toArray, List.set_cons_zero, List.set_cons_succ, List.getElem_toArray, List.getElem_cons_zero, List.getElem_cons_succ]
                  refine Lex.want (v := ?_) (by rfl) (fun W hW => ?hd45) ?_
                  case hd45 =>
                    have hh := HF.out W hW
                    clear hW
                    go_split_ands
                    go_simp
                    first | rfl | exact way_new.refl _ | exact way_grow.refl _ | (refine ⟨?_, way_new.refl _⟩; rfl) | (refine ⟨?_, way_grow.refl _⟩; rfl)
                  try simp only [Act.put, List.setIfInBounds_toArray, List.set_cons_zero, List.set_cons_succ, List.getElem_toArray, List.getElem_cons_zero, List.getElem_cons_succ]
                  refine Lex.want (v := ?_) (by rfl) (fun W hW => ?hd46) ?_
                  case hd46 =>
                    have hh := HF.out W hW
                    clear hW
                    go_split_ands
                    go_simp
                    first | rfl | exact way_new.refl _ | exact way_grow.refl _ | (refine ⟨?_, way_new.refl _⟩; rfl) | (refine ⟨?_, way_grow.refl _⟩; rfl)
                  try simp only [Act.put, List.setIfInBounds_toArray, List.set_cons_zero, List.set_cons_succ, List.getElem_toArray, List.getElem_cons_zero, List.getElem_cons_succ]
                  refine Lex.want (v := ?_) (by rfl) (fun W hW => ?hd47) ?_
                  case hd47 =>
                    have hh := HF.out W hW
                    clear hW
                    go_split_ands
                    go_simp
                    first | rfl | exact way_new.refl _ | exact way_grow.refl _ | (refine ⟨?_, way_new.refl _⟩; rfl) | (refine ⟨?_, way_grow.refl _⟩; rfl)
                  try simp only [Act.put, List.setIfInBounds_toArray, List.set_cons_zero, List.set_cons_succ, List.getElem_toArray, List.getElem_cons_zero, List.getElem_cons_succ]
                  refine Lex.want (v := ?_) (by rfl) (fun W hW => ?hd48) ?_
                  case hd48 =>
                    have hh := HF.out W hW
                    clear hW
                    go_split_ands
                    go_simp
                    first | rfl | exact way_new.refl _ | exact way_grow.refl _ | (refine ⟨?_, way_new.refl _⟩; rfl) | (refine ⟨?_, way_grow.refl _⟩; rfl)
                  try simp only [Act.put, List.setIfInBounds_toArray, List.set_cons_zero, List.set_cons_succ, List.getElem_toArray, List.getElem_cons_zero, List.getElem_cons_succ]
                  refine Lex.want (v := ?_) (by rfl) (fun W hW => ?hd49) ?_
                  case hd49 =>
                    have hh := HF.out W hW
                    clear hW
                    go_split_ands
                    go_simp
                    first | rfl | exact way_new.refl _ | exact way_grow.refl _ | (refine ⟨?_, way_new.refl _⟩; rfl) | (refine ⟨?_, way_grow.refl _⟩; rfl)
                  try simp only [Act.put, List.setIfInBounds_toArray, List.set_cons_zero, List.set_cons_succ, List.getElem_toArray, List.getElem_cons_zero, List.getElem_cons_succ]
                  refine Lex.want (v := .bool bq) (by rfl) (fun W hW => ?hdeq) ?_
                  case hdeq =>
                    have hh := HF.out W hW
                    clear hW
                    go_split_ands
                    go_simp
                    have hbq := HBQ.out
                    by_cases h1 : k1 = x1 <;> by_cases h2 : k2 = x2 <;> (simp [h1, h2] at hbq; subst hbq; simp [bytes_list_eq, h1, h2]; exact ⟨rfl, rfl⟩)
                  try simp only [Act.put, List.setIfInBounds_toArray, List.set_cons_zero, List.set_cons_succ, List.getElem_toArray, List.getElem_cons_zero, List.getElem_cons_succ]
                  refine Lex.nil (hKT.out _ ?_)
                  clear hKT KT
                  refine Reg.done (by kernel_rfl) (fun W hW hWT => ⟨by kernel_rfl, ?_⟩)
                  simp only [List.drop_succ_cons, List.drop_zero]
                  subst hW
                  clear hWT HF
                  have HB9 := hide (Below.drew hb3.out)
                  cases bq
                  case true =>
                    have hk : k1 = x1 ∧ k2 = x2 := of_decide_eq_true HBQ.out
                    have HNV : Hid (wrap64 (wrap64 (keySum (l1.take j) (x1, x2)) + by_) = wrap64 (keySum (l1.take (j + 1)) (x1, x2))) := hide (by rw [HNX.out, if_pos (by rw [hk.1, hk.2]), wrap_add])
                    subst hnv
                    clear hk HNX
                    go_wp2_with fail
                    exact ⟨⟨j + 1, by omega, by go_num, by rw [← HNV.out], hide (fun h => absurd rfl h), HB9⟩, by simp [intOf]; omega⟩
                  case false =>
                    have hk : ¬ (k1 = x1 ∧ k2 = x2) := of_decide_eq_false HBQ.out
                    have HNV : Hid (wrap64 (keySum (l1.take j) (x1, x2)) = wrap64 (keySum (l1.take (j + 1)) (x1, x2))) := hide (by rw [HNX.out, if_neg (fun e => hk (by simpa using e)), Int.add_zero])
                    subst hnv
                    clear hk HNX
                    go_wp2_with fail
                    exact ⟨⟨j + 1, by omega, by go_num, by rw [← HNV.out], hide (fun h => absurd rfl h), HB9⟩, by simp [intOf]; omega⟩
                · obtain ⟨u, v, t1, t2, t3, t4, t5, hwh⟩ := HWH.out rfl x1 x2
                  have hkS : l1.take j = l1 := List.take_of_length_le (by omega)
                  have hsub : wrap64 (u - v) = u - v := wrap_id (by omega) (by omega)
                  have hsub2 : IntKind.i64.wrap (u - v) = u - v := by rw [IntKind.wrap_i64]; omega
                  rw [hkS, ← t1, hsub] at hnv
                  subst hnv
                  have HWC := hide hwh
                  clear t1 hwh hkS
                  obtain ⟨q', hqe, hq', hx1, hx2⟩ := (HKC.out.keep HBV.out) i _ HKX.out
                  simp only at hx1 hx2
                  obtain rfl : q = q' := by simpa using hqe
                  obtain ⟨i1, i2⟩ := HG.out _ HBZ.out
                  have hs1 : ga < wr.heap.size := cell_in i1
                  have hs2 : gb < wr.heap.size := cell_in i2
                  have HF : Hid (∀ W, New wr W → W.cell? ⟨ga, 0, none⟩ = some (.pointer (some ⟨pa, 0, none⟩)) ∧ W.cell? ⟨gb, 0, none⟩ = some (.pointer (some ⟨pb, 0, none⟩)) ∧ W.cell? ⟨q, i * 2, none⟩ = some (.string x1) ∧ W.cell? ⟨q, i * 2 + 1, none⟩ = some (.string x2)) := hide fun W hW =>
                    ⟨(Below.cell hW (p := ⟨ga, 0, none⟩) hs1).trans i1, (Below.cell hW (p := ⟨gb, 0, none⟩) hs2).trans i2, (Below.cell hW (p := ⟨q, i * 2, none⟩) hq').trans hx1, (Below.cell hW (p := ⟨q, i * 2 + 1, none⟩) hq').trans hx2⟩
                  clear i1 i2 hx1 hx2 hqe
                  go_upto_region 34 with fail
                  refine region_by New way_new 25 25 (fun W => New wr W) (by kernel_rfl) (by kernel_rfl) (fun _ _ d _ _ h => by cases d <;> exact h) (fun x y h hx => way_new.trans hx h) (Below.refl _ _).drew (fun KT hKT => ?_)
                  simp only [List.take_succ_cons, List.take_zero]
                  refine Lex.want (v := ?_) (by rfl) (fun W hW => ?hd50) ?_
                  case hd50 =>
                    have hh := HF.out W hW
                    clear hW
                    go_split_ands
                    go_simp
                    first | rfl | exact way_new.refl _ | exact way_grow.refl _ | (refine ⟨?_, way_new.refl _⟩; rfl) | (refine ⟨?_, way_grow.refl _⟩; rfl)
                  try simp only [Act.put, List.setIfInBounds_toArray, List.set_cons_zero, List.set_cons_succ, List.getElem_toArray, List.getElem_cons_zero, List.getElem_cons_succ]
                  refine Lex.want (v := ?_) (by rfl) (fun W hW => ?hd51) ?_
                  case hd51 =>
                    have hh := HF.out W hW
                    clear hW
                    go_split_ands
                    go_simp
                    first | rfl | exact way_new.refl _ | exact way_grow.refl _ | (refine ⟨?_, way_new.refl _⟩; rfl) | (refine ⟨?_, way_grow.refl _⟩; rfl)
                  try simp only [Act.put, List.setIfInBounds_toArray, List.set_cons_zero, List.set_cons_succ, List.getElem_toArray, List.getElem_cons_zero, List.getElem_cons_succ]
                  refine Lex.want (v := ?_) (by rfl) (fun W hW => ?hd52) ?_
                  case hd52 =>
                    have hh := HF.out W hW
                    clear hW
                    go_split_ands
                    go_simp
                    first | rfl | exact way_new.refl _ | exact way_grow.refl _ | (refine ⟨?_, way_new.refl _⟩; rfl) | (refine ⟨?_, way_grow.refl _⟩; rfl)
                  try simp only [Act.put, List.setIfInBounds_toArray, List.set_cons_zero, List.set_cons_succ, List.getElem_toArray, List.getElem_cons_zero, List.getElem_cons_succ]
                  refine Lex.want (v := ?_) (by rfl) (fun W hW => ?hd53) ?_
                  case hd53 =>
                    have hh := HF.out W hW
                    clear hW
                    go_split_ands
                    go_simp
                    first | rfl | exact way_new.refl _ | exact way_grow.refl _ | (refine ⟨?_, way_new.refl _⟩; rfl) | (refine ⟨?_, way_grow.refl _⟩; rfl)
                  try simp only [Act.put, List.setIfInBounds_toArray, List.set_cons_zero, List.set_cons_succ, List.getElem_toArray, List.getElem_cons_zero, List.getElem_cons_succ]
                  refine Lex.want (v := ?_) (by rfl) (fun W hW => ?hd54) ?_
                  case hd54 =>
                    have hh := HF.out W hW
                    clear hW
                    go_split_ands
                    go_simp
                    first | rfl | exact way_new.refl _ | exact way_grow.refl _ | (refine ⟨?_, way_new.refl _⟩; rfl) | (refine ⟨?_, way_grow.refl _⟩; rfl)
                  try simp only [Act.put, List.setIfInBounds_toArray, List.set_cons_zero, List.set_cons_succ, List.getElem_toArray, List.getElem_cons_zero, List.getElem_cons_succ]
                  refine Lex.want (v := ?_) (by rfl) (fun W hW => ?hd55) ?_
                  case hd55 =>
                    have hh := HF.out W hW
                    clear hW
                    go_split_ands
                    go_simp
                    first | rfl | exact way_new.refl _ | exact way_grow.refl _ | (refine ⟨?_, way_new.refl _⟩; rfl) | (refine ⟨?_, way_grow.refl _⟩; rfl)
                  try simp only [Act.put, List.setIfInBounds_toArray, List.set_cons_zero, List.set_cons_succ, List.getElem_toArray, List.getElem_cons_zero, List.getElem_cons_succ]
                  refine Lex.want (v := ?_) (by rfl) (fun W hW => ?hd56) ?_
                  case hd56 =>
                    have hh := HF.out W hW
                    clear hW
                    go_split_ands
                    go_simp
                    first | rfl | exact way_new.refl _ | exact way_grow.refl _ | (refine ⟨?_, way_new.refl _⟩; rfl) | (refine ⟨?_, way_grow.refl _⟩; rfl)
                  try simp only [Act.put, List.setIfInBounds_toArray, List.set_cons_zero, List.set_cons_succ, List.getElem_toArray, List.getElem_cons_zero, List.getElem_cons_succ]
                  refine Lex.want (v := ?_) (by rfl) (fun W hW => ?hd57) ?_
                  case hd57 =>
                    have hh := HF.out W hW
                    clear hW
                    go_split_ands
                    go_simp
                    first | rfl | exact way_new.refl _ | exact way_grow.refl _ | (refine ⟨?_, way_new.refl _⟩; rfl) | (refine ⟨?_, way_grow.refl _⟩; rfl)
                  try simp only [Act.put, List.setIfInBounds_toArray, List.set_cons_zero, List.set_cons_succ, List.getElem_toArray, List.getElem_cons_zero, List.getElem_cons_succ]
                  refine Lex.want (v := ?_) (by rfl) (fun W hW => ?hd58) ?_
                  case hd58 =>
                    have hh := HF.out W hW
                    clear hW
                    go_split_ands
                    go_simp
                    first | rfl | exact way_new.refl _ | exact way_grow.refl _ | (refine ⟨?_, way_new.refl _⟩; rfl) | (refine ⟨?_, way_grow.refl _⟩; rfl)
                  try simp only [Act.put, List.setIfInBounds_toArray, List.set_cons_zero, List.set_cons_succ, List.getElem_toArray, List.getElem_cons_zero, List.getElem_cons_succ]
                  refine Lex.want (v := ?_) (by rfl) (fun W hW => ?hd59) ?_
                  case hd59 =>
                    have hh := HF.out W hW
                    clear hW
                    go_split_ands
                    go_simp
                    first | rfl | exact way_new.refl _ | exact way_grow.refl _ | (refine ⟨?_, way_new.refl _⟩; rfl) | (refine ⟨?_, way_grow.refl _⟩; rfl)
                  try simp only [Act.put, List.setIfInBounds_toArray, List.set_cons_zero, List.set_cons_succ, List.getElem_toArray, List.getElem_cons_zero, List.getElem_cons_succ]
                  refine Lex.want (v := ?_) (by rfl) (fun W hW => ?hd60) ?_
                  case hd60 =>
                    have hh := HF.out W hW
                    clear hW
                    go_split_ands
                    go_simp
                    first | rfl | exact way_new.refl _ | exact way_grow.refl _ | (refine ⟨?_, way_new.refl _⟩; rfl) | (refine ⟨?_, way_grow.refl _⟩; rfl)
                  try simp only [Act.put, List.setIfInBounds_toArray, List.set_cons_zero, List.set_cons_succ, List.getElem_toArray, List.getElem_cons_zero, List.getElem_cons_succ]
                  refine Lex.want (v := ?_) (by rfl) (fun W hW => ?hd61) ?_
                  case hd61 =>
                    have hcc := hide (HWC.out W (HBZ.out.trans (Below.mono hW HBZ.out.size))).1
                    go_simp
                    exact hcc
                  try simp only [Act.put, List.setIfInBounds_toArray, List.set_cons_zero, List.set_cons_succ, List.getElem_toArray, List.getElem_cons_zero, List.getElem_cons_succ]
                  refine Lex.want (v := ?_) (by rfl) (fun W hW => ?hd62) ?_
                  case hd62 =>
                    have hh := HF.out W hW
                    clear hW
                    go_split_ands
                    go_simp
                    first | rfl | exact way_new.refl _ | exact way_grow.refl _ | (refine ⟨?_, way_new.refl _⟩; rfl) | (refine ⟨?_, way_grow.refl _⟩; rfl)
                  try simp only [Act.put, List.setIfInBounds_toArray, List.set_cons_zero, List.set_cons_succ, List.getElem_toArray, List.getElem_cons_zero, List.getElem_cons_succ]
                  refine Lex.want (v := ?_) (by rfl) (fun W hW => ?hd63) ?_
                  case hd63 =>
                    have hh := HF.out W hW
                    clear hW
                    go_split_ands
                    go_simp
                    first | rfl | exact way_new.refl _ | exact way_grow.refl _ | (refine ⟨?_, way_new.refl _⟩; rfl) | (refine ⟨?_, way_grow.refl _⟩; rfl)
                  try simp only [Act.put, List.setIfInBounds_toArray, List.set_cons_zero, List.set_cons_succ, List.getElem_toArray, List.getElem_cons_zero, List.getElem_cons_succ]
                  refine Lex.want (v := ?_) (by rfl) (fun W hW => ?hd64) ?_
                  case hd64 =>
                    have hh := HF.out W hW
                    clear hW
                    go_split_ands
                    go_simp
                    first | rfl | exact way_new.refl _ | exact way_grow.refl _ | (refine ⟨?_, way_new.refl _⟩; rfl) | (refine ⟨?_, way_grow.refl _⟩; rfl)
                  try simp only [Act.put, List.setIfInBounds_toArray, List.set_cons_zero, List.set_cons_succ, List.getElem_toArray, List.getElem_cons_zero, List.getElem_cons_succ]
                  refine Lex.want (v := ?_) (by rfl) (fun W hW => ?hd65) ?_
                  case hd65 =>
                    have hh := HF.out W hW
                    clear hW
                    go_split_ands
                    go_simp
                    first | rfl | exact way_new.refl _ | exact way_grow.refl _ | (refine ⟨?_, way_new.refl _⟩; rfl) | (refine ⟨?_, way_grow.refl _⟩; rfl)
                  try simp only [Act.put, List.setIfInBounds_toArray, List.set_cons_zero, List.set_cons_succ, List.getElem_toArray, List.getElem_cons_zero, List.getElem_cons_succ]
                  refine Lex.want (v := ?_) (by rfl) (fun W hW => ?hd66) ?_
                  case hd66 =>
                    have hh := HF.out W hW
                    clear hW
                    go_split_ands
                    go_simp
                    first | rfl | exact way_new.refl _ | exact way_grow.refl _ | (refine ⟨?_, way_new.refl _⟩; rfl) | (refine ⟨?_, way_grow.refl _⟩; rfl)
                  try simp only [Act.put, List.setIfInBounds_toArray, List.set_cons_zero, List.set_cons_succ, List.getElem_toArray, List.getElem_cons_zero, List.getElem_cons_succ]
                  refine Lex.want (v := ?_) (by rfl) (fun W hW => ?hd67) ?_
                  case hd67 =>
                    have hh := HF.out W hW
                    clear hW
                    go_split_ands
                    go_simp
                    first | rfl | exact way_new.refl _ | exact way_grow.refl _ | (refine ⟨?_, way_new.refl _⟩; rfl) | (refine ⟨?_, way_grow.refl _⟩; rfl)
                  try simp only [Act.put, List.setIfInBounds_toArray, List.set_cons_zero, List.set_cons_succ, List.getElem_toArray, List.getElem_cons_zero, List.getElem_cons_succ]
                  refine Lex.want (v := ?_) (by rfl) (fun W hW => ?hd68) ?_
                  case hd68 =>
                    have hh := HF.out W hW
                    clear hW
                    go_split_ands
                    go_simp
                    first | rfl | exact way_new.refl _ | exact way_grow.refl _ | (refine ⟨?_, way_new.refl _⟩; rfl) | (refine ⟨?_, way_grow.refl _⟩; rfl)
                  try simp only [Act.put, List.setIfInBounds_toArray, List.set_cons_zero, List.set_cons_succ, List.getElem_toArray, List.getElem_cons_zero, List.getElem_cons_succ]
                  refine Lex.want (v := ?_) (by rfl) (fun W hW => ?hd69) ?_
                  case hd69 =>
                    have hh := HF.out W hW
                    clear hW
                    go_split_ands
                    go_simp
                    first | rfl | exact way_new.refl _ | exact way_grow.refl _ | (refine ⟨?_, way_new.refl _⟩; rfl) | (refine ⟨?_, way_grow.refl _⟩; rfl)
                  try simp only [Act.put, List.setIfInBounds_toArray, List.set_cons_zero, List.set_cons_succ, List.getElem_toArray, List.getElem_cons_zero, List.getElem_cons_succ]
                  refine Lex.want (v := ?_) (by rfl) (fun W hW => ?hd70) ?_
                  case hd70 =>
                    have hcc := hide (HWC.out W (HBZ.out.trans (Below.mono hW HBZ.out.size))).2
                    go_simp
                    exact hcc
                  try simp only [Act.put, List.setIfInBounds_toArray, List.set_cons_zero, List.set_cons_succ, List.getElem_toArray, List.getElem_cons_zero, List.getElem_cons_succ]
                  refine Lex.want (v := ?_) (by rfl) (fun W hW => ?hd71) ?_
                  case hd71 =>
                    have hh := HF.out W hW
                    clear hW
                    go_split_ands
                    go_simp
                    first | rfl | exact way_new.refl _ | exact way_grow.refl _ | (refine ⟨?_, way_new.refl _⟩; rfl) | (refine ⟨?_, way_grow.refl _⟩; rfl)
                  try simp only [Act.put, List.setIfInBounds_toArray, List.set_cons_zero, List.set_cons_succ, List.getElem_toArray, List.getElem_cons_zero, List.getElem_cons_succ]
                  refine Lex.want (v := ?_) (by rfl) (fun W hW => ?hd72) ?_
                  case hd72 =>
                    have hh := HF.out W hW
                    clear hW
                    go_split_ands
                    go_simp
                    first | rfl | exact way_new.refl _ | exact way_grow.refl _ | (refine ⟨?_, way_new.refl _⟩; rfl) | (refine ⟨?_, way_grow.refl _⟩; rfl)
                  try simp only [Act.put, List.setIfInBounds_toArray, List.set_cons_zero, List.set_cons_succ, List.getElem_toArray, List.getElem_cons_zero, List.getElem_cons_succ]
                  refine Lex.want (v := ?_) (by rfl) (fun W hW => ?hd73) ?_
                  case hd73 =>
                    have hh := HF.out W hW
                    clear hW
                    go_split_ands
                    go_simp
                    first | rfl | exact way_new.refl _ | exact way_grow.refl _ | (refine ⟨?_, way_new.refl _⟩; rfl) | (refine ⟨?_, way_grow.refl _⟩; rfl)
                  try simp only [Act.put, List.setIfInBounds_toArray, List.set_cons_zero, List.set_cons_succ, List.getElem_toArray, List.getElem_cons_zero, List.getElem_cons_succ]
                  refine Lex.want (v := ?_) (by rfl) (fun W hW => ?hd74) ?_
                  case hd74 =>
                    have hh := HF.out W hW
                    clear hW
                    go_split_ands
                    go_simp
                    first | rfl | exact way_new.refl _ | exact way_grow.refl _ | (refine ⟨?_, way_new.refl _⟩; rfl) | (refine ⟨?_, way_grow.refl _⟩; rfl)
                  try simp only [Act.put, List.setIfInBounds_toArray, List.set_cons_zero, List.set_cons_succ, List.getElem_toArray, List.getElem_cons_zero, List.getElem_cons_succ]
                  refine Lex.nil (hKT.out _ ?_)
                  clear hKT KT
                  refine Reg.done (by kernel_rfl) (fun W hW hWT => ⟨by kernel_rfl, ?_⟩)
                  simp only [List.drop_succ_cons, List.drop_zero]
                  have HB9 := hide (HBV.out.trans (Below.mono hWT HBV.out.size))
                  go_wp2_with fail
                  exact ⟨⟨i + 1, by omega, by go_num, HB9⟩, by simp [intOf]; omega⟩
              · subst hnv
                have HF : Hid (∀ W, New wr W → True) := hide fun W hW => trivial
                generalize wrap64 (keySum (l1.take j) (x1, x2)) = nS
                have HNZ := hide hz
                clear hz
                by_cases hjl : j < len1
                all_goals
                  go_upto_region 34 with fail
                  refine region_by New way_new 25 25 (fun W => New wr W) (by kernel_rfl) (by kernel_rfl) (fun _ _ d _ _ h => by cases d <;> exact h) (fun x y h hx => way_new.trans hx h) (Below.refl _ _).drew (fun KT hKT => ?_)
                  simp only [List.take_succ_cons, List.take_zero]
                  refine Lex.want (v := ?_) (by rfl) (fun W hW => ?hd75) ?_
                  case hd75 =>
                    have hh := HF.out W hW
                    clear hW
                    go_split_ands
                    go_simp
                    first | rfl | exact way_new.refl _ | exact way_grow.refl _ | (refine ⟨?_, way_new.refl _⟩; rfl) | (refine ⟨?_, way_grow.refl _⟩; rfl)
                  try simp only [Act.put, List.setIfInBounds_toArray, List.set_cons_zero, List.set_cons_succ, List.getElem_toArray, List.getElem_cons_zero, List.getElem_cons_succ]
                  refine Lex.want (v := ?_) (by rfl) (fun W hW => ?hd76) ?_
                  case hd76 =>
                    have hh := HF.out W hW
                    clear hW
                    go_split_ands
                    go_simp
                    first | rfl | exact way_new.refl _ | exact way_grow.refl _ | (refine ⟨?_, way_new.refl _⟩; rfl) | (refine ⟨?_, way_grow.refl _⟩; rfl)
                  try simp only [Act.put, List.setIfInBounds_toArray, List.set_cons_zero, List.set_cons_succ, List.getElem_toArray, List.getElem_cons_zero, List.getElem_cons_succ]
                  refine Lex.want (v := ?_) (by rfl) (fun W hW => ?hd77) ?_
                  case hd77 =>
                    have hh := HF.out W hW
                    clear hW
                    go_split_ands
                    go_simp
                    first | rfl | exact way_new.refl _ | exact way_grow.refl _ | (refine ⟨?_, way_new.refl _⟩; rfl) | (refine ⟨?_, way_grow.refl _⟩; rfl)
                  try simp only [Act.put, List.setIfInBounds_toArray, List.set_cons_zero, List.set_cons_succ, List.getElem_toArray, List.getElem_cons_zero, List.getElem_cons_succ]
                  refine Lex.skip (by rfl) ?_
                  try simp only [Act.put, List.setIfInBounds_toArray, List.set_cons_zero, List.set_cons_succ, List.getElem_toArray, List.getElem_cons_zero, List.getElem_cons_succ]
                  refine Lex.skip (by rfl) ?_
                  try simp only [Act.put, List.setIfInBounds_toArray, List.set_cons_zero, List.set_cons_succ, List.getElem_toArray, List.getElem_cons_zero, List.getElem_cons_succ]
                  refine Lex.skip (by rfl) ?_
                  try simp only [Act.put, List.setIfInBounds_toArray, List.set_cons_zero, List.set_cons_succ, List.getElem_toArray, List.getElem_cons_zero, List.getElem_cons_succ]
                  refine Lex.skip (by rfl) ?_
                  try simp only [Act.put, List.setIfInBounds_toArray, List.set_cons_zero, List.set_cons_succ, List.getElem_toArray, List.getElem_cons_zero, List.getElem_cons_succ]
                  refine Lex.skip (by rfl) ?_
                  try simp only [Act.put, List.setIfInBounds_toArray, List.set_cons_zero, List.set_cons_succ, List.getElem_toArray, List.getElem_cons_zero, List.getElem_cons_succ]
                  refine Lex.skip (by rfl) ?_
                  try simp only [Act.put, List.setIfInBounds_toArray, List.set_cons_zero, List.set_cons_succ, List.getElem_toArray, List.getElem_cons_zero, List.getElem_cons_succ]
                  refine Lex.skip (by rfl) ?_
                  try simp only [Act.put, List.setIfInBounds_toArray, List.set_cons_zero, List.set_cons_succ, List.getElem_toArray, List.getElem_cons_zero, List.getElem_cons_succ]
                  refine Lex.skip (by rfl) ?_
                  try simp only [Act.put, List.setIfInBounds_toArray, List.set_cons_zero, List.set_cons_succ, List.getElem_toArray, List.getElem_cons_zero, List.getElem_cons_succ]
                  refine Lex.skip (by rfl) ?_
                  try simp only [Act.put, List.setIfInBounds_toArray, List.set_cons_zero, List.set_cons_succ, List.getElem_toArray, List.getElem_cons_zero, List.getElem_cons_succ]
                  refine Lex.skip (by rfl) ?_
                  try simp only [Act.put, List.setIfInBounds_toArray, List.set_cons_zero, List.set_cons_succ, List.getElem_toArray, List.getElem_cons_zero, List.getElem_cons_succ]
                  refine Lex.skip (by rfl) ?_
                  try simp only [Act.put, List.setIfInBounds_toArray, List.set_cons_zero, List.set_cons_succ, List.getElem_toArray, List.getElem_cons_zero, List.getElem_cons_succ]
                  refine Lex.skip (by rfl) ?_
                  try simp only [Act.put, List.setIfInBounds_toArray, List.set_cons_zero, List.set_cons_succ, List.getElem_toArray, List.getElem_cons_zero, List.getElem_cons_succ]
                  refine Lex.skip (by rfl) ?_
                  try simp only [Act.put, List.setIfInBounds_toArray, List.set_cons_zero, List.set_cons_succ, List.getElem_toArray, List.getElem_cons_zero, List.getElem_cons_succ]
                  refine Lex.skip (by rfl) ?_
                  try simp only [Act.put, List.setIfInBounds_toArray, List.set_cons_zero, List.set_cons_succ, List.getElem_toArray, List.getElem_cons_zero, List.getElem_cons_succ]
                  refine Lex.skip (by rfl) ?_
                  try simp only [Act.put, List.setIfInBounds_toArray, List.set_cons_zero, List.set_cons_succ, List.getElem_toArray, List.getElem_cons_zero, List.getElem_cons_succ]
                  refine Lex.skip (by rfl) ?_
                  try simp only [Act.put, List.setIfInBounds_toArray, List.set_cons_zero, List.set_cons_succ, List.getElem_toArray, List.getElem_cons_zero, List.getElem_cons_succ]
                  refine Lex.skip (by rfl) ?_
                  try simp only [Act.put, List.setIfInBounds_toArray, List.set_cons_zero, List.set_cons_succ, List.getElem_toArray, List.getElem_cons_zero, List.getElem_cons_succ]
                  refine Lex.skip (by rfl) ?_
                  try simp only [Act.put, List.setIfInBounds_toArray, List.set_cons_zero, List.set_cons_succ, List.getElem_toArray, List.getElem_cons_zero, List.getElem_cons_succ]
                  refine Lex.skip (by rfl) ?_
                  try simp only [Act.put, List.setIfInBounds_toArray, List.set_cons_zero, List.set_cons_succ, List.getElem_toArray, List.getElem_cons_zero, List.getElem_cons_succ]
                  refine Lex.skip (by rfl) ?_
                  try simp only [Act.put, List.setIfInBounds_toArray, List.set_cons_zero, List.set_cons_succ, List.getElem_toArray, List.getElem_cons_zero, List.getElem_cons_succ]
                  refine Lex.skip (by rfl) ?_
                  try simp only [Act.put, List.setIfInBounds_toArray, List.set_cons_zero, List.set_cons_succ, List.getElem_toArray, List.getElem_cons_zero, List.getElem_cons_succ]
                  refine Lex.want (v := ?_) (by rfl) (fun W hW => ?hd78) ?_
                  case hd78 =>
                    have hh := HF.out W hW
                    clear hW
                    go_split_ands
                    go_simp
                    first | rfl | exact way_new.refl _ | exact way_grow.refl _ | (refine ⟨?_, way_new.refl _⟩; rfl) | (refine ⟨?_, way_grow.refl _⟩; rfl)
                  try simp only [Act.put, List.setIfInBounds_toArray, List.set_cons_zero, List.set_cons_succ, List.getElem_toArray, List.getElem_cons_zero, List.getElem_cons_succ]
                  refine Lex.nil (hKT.out _ ?_)
                  clear hKT KT
                  refine Reg.done (by kernel_rfl) (fun W hW hWT => ⟨by kernel_rfl, ?_⟩)
                  simp only [List.drop_succ_cons, List.drop_zero]
                  have HB9 := hide (HBV.out.trans (Below.mono hWT HBV.out.size))
                  go_wp2_with fail
                  exact ⟨⟨i + 1, by omega, by go_num, HB9⟩, by simp [intOf]; omega⟩
          · have HB12 := hide (HB5.out.trans (HBW.out.mono HB5.out.size))
            go_wp2_with (go_at_call 23; refine (alive11_calls _).mono ?_; rintro e w12 ⟨rfl, hb13⟩; have HB13 := hide (HB12.out.trans (hb13.mono HB12.out.size)); clear hb13)
            go_ret
            exact ⟨rfl, HB13.out⟩
end Go.Proofs.Ytmhmjbggjbeikaa
