/- PostTotals: the walk. -/
import Derived.Test.YtmhmjbggjbeikaaTot11
import Derived.Test.YtmhmjbggjbeikaaOpenW11
import Derived.Test.YtmhmjbggjbeikaaRgn2
import Derived.Test.YtmhmjbggjbeikaaAlive11
import Derived.Deep.CutRange
import Derived.Deep.CutBlock
import Derived.Deep.DeepCutAuto
namespace Go.Proofs.Ytmhmjbggjbeikaa
set_option linter.unusedSimpArgs false
set_option linter.unusedVariables false
open Go.RowKit
attribute [local go_sem] objAt_alloc objAt_alloc_at objAt_drew objAt_drewN objAt_setCell comesTo_value comesTo_enter

namespace Totals
/-- The ledger holds L; the box of a step lies there. -/
def TSt (w : World) (g p s : Nat) (o : POp11) (L : Led) (W : World) : Prop :=
  Leds w g p L (fun j => j = s) W ∧ W.heap[s]? = some (.cells #[.int .i64 o.kind, .int .i64 o.n, .string o.k.1, .string o.k.2, .slice o.a o.len o.cap] 61 (0, 0))
section
variable {w W W' : World} {g p s : Nat} {o : POp11} {L L' : Led}
theorem TSt.step (h : TSt w g p s o L W) (hb : Below W.heap.size W W') : TSt w g p s o L W' := by
  obtain ⟨h1, h2⟩ := h
  exact ⟨h1.step hb, (hb.block _ (Array.getElem?_eq_some_iff.1 h2).1).trans h2⟩
theorem TSt.drew (h : TSt w g p s o L W) : TSt w g p s o L W.drew := h.step (Below.refl _ _).drew
theorem TSt.turn (h : TSt w g p s o L W) (h1 : Leds w g p L' (fun j => j = s) W') (hk : Kept (fun j => j = s) W W') : TSt w g p s o L' W' := ⟨h1, (hk s rfl).trans h.2⟩
theorem TSt.below (h : TSt w g p s o L W) : Below w.heap.size w W := h.1.below
theorem TSt.led (h : TSt w g p s o L W) : Leds w g p L (fun _ => False) W := h.1.keep (Below.refl _ _) _ (fun j hj => hj.elim)
theorem TSt.facts (h : TSt w g p s o L W) : W.cell? ⟨g, 0, none⟩ = some (.pointer (some ⟨p, 0, none⟩)) ∧ W.cell? ⟨s, 0, none⟩ = some (.int .i64 o.kind) ∧ W.cell? ⟨s, 1, none⟩ = some (.int .i64 o.n) ∧ W.cell? ⟨s, 2, none⟩ = some (.string o.k.1) ∧ W.cell? ⟨s, 3, none⟩ = some (.string o.k.2) ∧ W.cell? ⟨s, 4, none⟩ = some (.slice o.a o.len o.cap) :=
  ⟨h.1.cell.1, by simp [World.cell?, h.2], by simp [World.cell?, h.2], by simp [World.cell?, h.2], by simp [World.cell?, h.2], by simp [World.cell?, h.2]⟩
theorem tst_new {o : POp11} (h : Leds w g p L (fun _ => False) W) : TSt w g p W.heap.size o L (W.alloc (.cells #[.int .i64 o.kind, .int .i64 o.n, .string o.k.1, .string o.k.2, .slice o.a o.len o.cap] 61)) :=
  ⟨h.keep ((Below.refl _ _).alloc (Nat.le_refl _) _) _ (fun j hj => .inr ⟨by omega, by simp; omega⟩), heap_alloc_new W _⟩
theorem ts_issue (h : TSt w g p s o L W) (he : EvenLed L) (hs1 : shortText o.k.1) (hs2 : shortText o.k.2) (n : Int) :
    Calls Try.prog 25 #[.pointer (some ⟨g, 0, none⟩), .agg #[.string o.k.1, .string o.k.2], .int .i64 n] W fun e w' => ∃ x, e = .returned x ∧ TSt w g p s o (issueLed L o.k n) w' :=
  (ls_issue o.k.1 o.k.2 n h.1 hs1 hs2 (fun hw => by have := he.nonneg o.k.2; unfold within at hw; omega) (fun hw => by have := he.top o.k.2; unfold within at hw; omega)).mono fun e w' ⟨h1, h2, h3⟩ => ⟨_, h1, h.turn h2 h3⟩
theorem ts_block (h : TSt w g p s o L W) (hs1 : shortText o.k.1) (hs2 : shortText o.k.2) (on : Bool) :
    Calls Try.prog 31 #[.pointer (some ⟨g, 0, none⟩), .agg #[.string o.k.1, .string o.k.2], .bool on] W fun e w' => e = .returned (.tuple #[]) ∧ TSt w g p s o (blockLed L o.k on) w' := by
  obtain ⟨⟨F, q1, q2, q3, q4⟩, hx⟩ := h
  refine (block_calls g p F L o.k.1 o.k.2 on W q1 hs1 hs2).mono fun e w' ⟨e1, F', r1, r2, r3⟩ => ⟨e1, ⟨F', r1, fun j hj => ?_, q3.trans (r2.below q3.size fun j hj => (q2 j hj).1), fun j hj => Nat.lt_of_lt_of_le (q4 j hj) r2.size⟩, (r2.block s (q4 s rfl) (fun e => (q2 s e).2 rfl)).trans hx⟩
  rcases r3 j hj with e | e
  · exact q2 j e
  · exact ⟨Nat.le_trans q3.size e, fun e2 => by have := q4 j e2; omega⟩
theorem ts_apply (h : TSt w g p s o L W) (hw : wfOp11 w o) (hm : o.len ≤ 1099511627776) :
    Calls Try.prog 29 #[.pointer (some ⟨g, 0, none⟩), .slice o.a o.len o.cap] W fun e w' => ∃ x, e = .returned x ∧ TSt w g p s o (applyLed L o.P) w' := by
  obtain ⟨w1, w2, w3, w4, w5, w6, w7, w8, w9⟩ := hw
  exact (ls_apply o.a o.len o.cap o.P w5 hm (w9.keep h.below) (fun q hq => ⟨reach_short (w8 q hq).1.1, reach_short (w8 q hq).1.2⟩) h.1).mono fun e w' ⟨h1, h2, h3⟩ => ⟨_, h1, h.turn h2 h3⟩
theorem ts_keys (h : TSt w g p s o L W) (hm : L.m.length ≤ 1099511627776) :
    Calls Try.prog 18 #[.pointer (some ⟨p, 0, none⟩), .slice none 0 0] W fun e w' => ∃ A c, e = .returned (.slice A (posKeys L.m []).length c) ∧ KeysIn A (posKeys L.m []) w' ∧ Below W.heap.size W w' := by
  obtain ⟨Fp, hp⟩ := h.1.pos
  refine (keys_calls p Fp L.m none 0 [] W hp hm (fun h => by simp at h) (by simp)).mono fun e w' ⟨v, h4, h5, h6⟩ => ?_
  obtain ⟨A', c', rfl, h7⟩ := keysIn_own h5
  exact ⟨A', c', h4, h7, h6⟩
end
theorem box3 {W : World} {q : Nat} {u v t : Value} {T : TypeId} (h : W.heap[q]? = some (.cells #[u, v, t] T (0, 0))) :
    W.cell? ⟨q, 0, none⟩ = some u ∧ W.cell? ⟨q, 1, none⟩ = some v ∧ W.cell? ⟨q, 2, none⟩ = some t ∧ W.frozen? ⟨q, 0, none⟩ = false ∧ W.frozen? ⟨q, 1, none⟩ = false ∧ W.frozen? ⟨q, 2, none⟩ = false := by
  refine ⟨?_, ?_, ?_, ?_, ?_, ?_⟩ <;> simp [World.cell?, World.frozen?, h]
theorem box3_set {W : World} {q : Nat} {u v t : Value} {T : TypeId} (x y z : Int) (h : W.heap[q]? = some (.cells #[u, v, t] T (0, 0))) :
    (((W.setCell ⟨q, 0, none⟩ (.int .i64 x)).setCell ⟨q, 1, none⟩ (.int .i64 y)).setCell ⟨q, 2, none⟩ (.int .i64 z)).cell? ⟨q, 0, none⟩ = some (.int .i64 x) ∧ (((W.setCell ⟨q, 0, none⟩ (.int .i64 x)).setCell ⟨q, 1, none⟩ (.int .i64 y)).setCell ⟨q, 2, none⟩ (.int .i64 z)).cell? ⟨q, 1, none⟩ = some (.int .i64 y) ∧ (((W.setCell ⟨q, 0, none⟩ (.int .i64 x)).setCell ⟨q, 1, none⟩ (.int .i64 y)).setCell ⟨q, 2, none⟩ (.int .i64 z)).cell? ⟨q, 2, none⟩ = some (.int .i64 z) := by
  refine ⟨?_, ?_, ?_⟩ <;> simp [World.cell?, World.setCell, Array.getElem?_modify, h]
/-- What the state k steps in is. -/
def Run (l : List POp11) (k : Nat) (L : Led) : Prop := EvenLed L ∧ (L.m.length : Int) ≤ k + ((lens l).take k).sum
theorem Run.issue {l : List POp11} {k : Nat} {L : Led} {o : POp11} (h : Run l k L) (ho : l[k]? = some o) (key : Key) (n : Int) : Run l (k + 1) (issueLed L key n) := by
  have h1 := lens_next ho
  have h2 := issue_len L key n
  have h3 := h.2
  exact ⟨even_issue h.1 _ _, by omega⟩
theorem Run.apply {l : List POp11} {k : Nat} {L : Led} {o : POp11} (h : Run l k L) (ho : l[k]? = some o) (hl : o.P.length = o.len) : Run l (k + 1) (applyLed L o.P) := by
  have h1 := lens_next ho
  have h2 := apply_len L o.P
  have h3 := h.2
  exact ⟨even_apply h.1 _, by omega⟩
theorem Run.block {l : List POp11} {k : Nat} {L : Led} {o : POp11} (h : Run l k L) (ho : l[k]? = some o) (key : Key) (on : Bool) : Run l (k + 1) (blockLed L key on) := by
  have h1 := lens_next ho
  have h3 := h.2
  exact ⟨even_block h.1 _ _, show (L.m.length : Int) ≤ _ by omega⟩
theorem Run.short {l : List POp11} {k : Nat} {L : Led} (h : Run l k L) (hk : k ≤ 100) (hs : (lens l).sum ≤ 1500) : L.m.length ≤ 1099511627776 := by
  have h1 := lens_part l k
  have h3 := h.2
  omega
end Totals
open Totals in
set_option maxHeartbeats 8000000 in
set_option maxRecDepth 100000 in
theorem postTotals_walk (a : Option Addr) (len cap : Nat) (l : List POp11) (w : World) (h : OpsArg w a len cap l) :
    Calls Try.prog 10 #[.slice a len cap] w fun e w' => e = .returned (.bool true) ∧ Below w.heap.size w w' := by
  obtain ⟨hlen, hlc, hcm, hwf, hel⟩ := h
  have HLI := hide (light_calls a len cap l w hlen (by omega) hel (fun o ho => by obtain ⟨w1, w2, w3, w4, w5, w6, w7, w8, w9⟩ := hwf o ho; omega))
  have HWF := hide hwf
  have HEL := hide hel
  have HLEN := hide hlen
  unfold maxLen at hcm
  clear hwf hel hlen
  go_enter Try.func10, Try.ntmps10
  go_wp2_with fail
  refine HLI.out.mono ?_
  rintro e w1 ⟨b, rfl, hb1, hb2⟩
  have HB1 := hide hb2
  have HLT := hide hb1
  clear hb1 hb2 HLI
  cases b with
  | false =>
    go_wp2_with (go_at_call 23; refine (alive11_calls _).mono ?_; rintro e w2 ⟨rfl, hb4⟩; have HB4 := hide hb4; clear hb4)
    go_ret
    exact ⟨rfl, HB1.out.trans (HB4.out.mono HB1.out.size)⟩
  | true =>
    obtain ⟨hl1, hl2⟩ := HLT.out rfl
    rw [HLEN.out] at hl1
    clear HLT
    go_wp2_with fail
    refine (ls_new w1).mono ?_
    rintro e w2 ⟨g, p, rfl, hled⟩
    have HLED : Hid (Leds w g p led0 (fun _ => False) w2) := hide (by
      obtain ⟨F, q1, q2, q3, q4⟩ := hled
      exact ⟨F, q1, fun j hj => ⟨Nat.le_trans HB1.out.size (q2 j hj).1, (q2 j hj).2⟩, HB1.out.trans (q3.mono HB1.out.size), q4⟩)
    clear hled
    have HR0 : Hid (Run l 0 led0) := hide ⟨even_led0, by simp [led0]⟩
    go_wp2_with fail
    go_loopw [4, 5] (fun lv iv W => ∃ (k c : Nat) (L : Led), k ≤ len ∧ c ≤ 7 ∧ iv = .int .i64 k ∧ lv = .int .i64 c ∧ Hid (Run l k L) ∧ Hid (Leds w g p L (fun _ => False) W)) (fun _ iv _ => len - (intOf iv).toNat)
    case atStart => exact ⟨0, 0, led0, by omega, by omega, rfl, rfl, HR0, HLED⟩
    case round =>
      obtain ⟨k, c, L, hk, hc, rfl, rfl, hrun, hrel⟩ := hrel
      clear HR0 HLED
      by_cases hlt : k < len
      · obtain ⟨o, ho⟩ : ∃ o, l[k]? = some o := ⟨l[k]'(by have := HLEN.out; omega), List.getElem?_eq_getElem (by have := HLEN.out; omega)⟩
        have HO := hide ho
        have hwo := HWF.out o (List.mem_of_getElem? ho)
        obtain ⟨b, off, rfl, hb, d0, d1, d2, d3, d4⟩ := (HEL.out.keep hrel.out.below).op ho
        have HS : Hid (shortText o.k.1 ∧ shortText o.k.2 ∧ o.len ≤ 1099511627776 ∧ o.P.length = o.len) := hide (by
          obtain ⟨w1, w2, w3, w4, w5, w6, w7, w8, w9⟩ := hwo
          have h1 := lens_next ho
          have h2 := lens_part l k
          have h3 := lens_part l (k + 1)
          exact ⟨reach_short w3, reach_short w4, by omega, w5⟩)
        have HWO := hide hwo
        have HST := hide (tst_new (o := o) hrel.out)
        clear hwo ho
        obtain ⟨kd, nn, ⟨k1, k2⟩, oa, ol, oc, oP⟩ := o
        simp only at d0 d1 d2 d3 d4
        go_upto_region 11 with fail
        have HST2 : Hid (TSt w g p wr.heap.size ⟨kd, nn, (k1, k2), oa, ol, oc, oP⟩ L (wr.alloc (.cells #[.int .i64 kd, .int .i64 nn, .string k1, .string k2, .slice oa ol oc] 61))) := HST
        clear HST
        generalize wr.alloc (.cells #[.int .i64 kd, .int .i64 nn, .string k1, .string k2, .slice oa ol oc] 61) = W1 at *
        generalize wr.heap.size = s at *
        clear hrel d0 d1 d2 d3 d4
        obtain ⟨f0, f1, f2, f3, f4, f5⟩ := HST2.out.facts
        simp only at f0 f1 f2 f3 f4 f5
        go_cut [34] from 17 to 145 (fun t wx => t = .bool (decide (kd = 3 ∧ nn < 0)) ∧ W1 = wx)
        case first =>
          by_cases hk3 : kd = 3
          · by_cases hn0 : nn < 0
            · go_wp2_with fail
              go_meet
              exact ⟨congrArg Value.bool (decide_eq_true (p := kd = 3 ∧ nn < 0) ⟨hk3, hn0⟩).symm, rfl⟩
            · go_wp2_with fail
              go_meet
              exact ⟨congrArg Value.bool (decide_eq_false (p := kd = 3 ∧ nn < 0) (fun h => absurd h.2 (by omega))).symm, rfl⟩
          · have hb3 : (kd == 3) = false := by simpa using hk3
            go_wp2_with fail
            go_meet
            exact ⟨congrArg Value.bool (decide_eq_false (p := kd = 3 ∧ nn < 0) (fun h => absurd h.1 (by omega))).symm, rfl⟩
        case rest =>
        obtain ⟨rfl, rfl⟩ := hcut
        generalize hq : decide (kd = 3 ∧ nn < 0) = q
        clear hq
        go_upto_if 34 with fail
        go_cut [4] from 17 to 145 (fun t wx => (∃ c' : Nat, c' ≤ 8 ∧ t = .int .i64 c') ∧ W1 = wx)
        case first =>
          cases q
          · go_wp2_with fail
            go_meet
            exact ⟨⟨c, by omega, rfl⟩, rfl⟩
          · go_wp2_with fail
            go_meet
            exact ⟨⟨c + 1, by omega, by go_num⟩, rfl⟩
        case rest =>
        obtain ⟨⟨c', hc', rfl⟩, rfl⟩ := hcut
        by_cases h7 : c' > 7
        · go_wp2_with (go_at_call 23; refine (alive11_calls _).mono ?_; rintro e w2 ⟨rfl, hb4⟩; have HB4 := hide (HST2.out.step hb4).below; clear hb4)
          go_ret
          exact ⟨rfl, HB4.out⟩
        go_upto_block 2 with fail
        go_cut [] from 17 to 145 (fun wx => ∃ L' : Led, Hid (Run l (k + 1) L') ∧ Hid (TSt w g p s ⟨kd, nn, (k1, k2), oa, ol, oc, oP⟩ L' wx))
        case first =>
          obtain ⟨hs1, hs2, hs3, hs4⟩ := HS.out
          have HISS := hide (ts_issue HST2.out hrun.out.1 hs1 hs2 nn)
          have HBLK := hide (fun on => ts_block HST2.out hs1 hs2 on)
          have HAPP := hide (ts_apply HST2.out HWO.out hs3)
          have RI := hide (hrun.out.issue HO.out (k1, k2) nn)
          have RB := hide (fun on => hrun.out.block HO.out (k1, k2) on)
          have RA := hide (hrun.out.apply HO.out hs4)
          clear hs1 hs2 hs3 hs4
          simp only at HISS HBLK HAPP RI RB RA
          by_cases hk3 : kd = 3
          · subst hk3
            go_wp2_with (go_at_call 25; refine HISS.out.mono ?_; rintro e w' ⟨x, rfl, hT⟩; have HT := hide hT; clear hT)
            go_meet
            exact ⟨_, RI, HT⟩
          · have hb3 : (kd == 3) = false := by simpa using hk3
            by_cases hk4 : kd = 4
            · subst hk4
              go_wp2_with (go_at_call 31; refine (HBLK.out _).mono ?_; rintro e w' ⟨rfl, hT⟩; have HT := hide hT; clear hT)
              go_meet
              exact ⟨_, hide (RB.out _), HT⟩
            · have hb4 : (kd == 4) = false := by simpa using hk4
              by_cases hk5 : kd = 5
              · subst hk5
                go_wp2_with (go_at_call 31; refine (HBLK.out _).mono ?_; rintro e w' ⟨rfl, hT⟩; have HT := hide hT; clear hT)
                go_meet
                exact ⟨_, hide (RB.out _), HT⟩
              · have hb5 : (kd == 5) = false := by simpa using hk5
                go_wp2_with (go_at_call 29; refine HAPP.out.mono ?_; rintro e w' ⟨x, rfl, hT⟩; have HT := hide hT; clear hT)
                go_meet
                exact ⟨_, RA, HT⟩
        case rest =>
        obtain ⟨L', hrun', hst⟩ := hcut
        clear hrun HST2 f0 f1 f2 f3 f4 f5 HWO HS
        obtain ⟨f0, f1, f2, f3, f4, f5⟩ := hst.out.facts
        simp only at f1 f2 f3 f4 f5
        have hml := hrun'.out.short (by omega) hl2
        have HKS := hide (ts_keys hst.out hml)
        go_wp2_with (go_at_call 18; refine Hid.out ?_)
        refine hide ?_
        refine HKS.out.mono ?_
        rintro e w3 ⟨A, cp, rfl, hki, hb3⟩
        have HST3 := hide (hst.out.step hb3)
        have HKI := hide hki
        have HTOT : Hid (∀ a W, Below w3.heap.size w3 W → Calls Try.prog 21 #[.pointer (some ⟨p, 0, none⟩), .string a] W fun e w' => e = .returned (.int .i64 (issOf L'.iss a)) ∧ New W w') := hide fun a W hW => (ls_total a hml (HST3.out.step hW).1).mono fun e w' ⟨h1, h2⟩ => ⟨by rw [h1, hrun'.out.1.total], h2⟩
        have HIS : Hid (∀ a W, Below w3.heap.size w3 W → Calls Try.prog 32 #[.pointer (some ⟨g, 0, none⟩), .string a] W fun e w' => e = .returned (.int .i64 (issOf L'.iss a)) ∧ New W w') := hide fun a W hW => ls_issued a (HST3.out.step hW).1
        have HGET : Hid (∀ x1 x2 W, Below w3.heap.size w3 W → ∃ x y z : Int, okPart x ∧ okPart y ∧ okPart z ∧ ∀ V, Below W.heap.size W V → Calls Try.prog 17 #[.pointer (some ⟨p, 0, none⟩), .agg #[.string x1, .string x2]] V fun e w' => e = .returned (.agg #[.int .i64 x, .int .i64 y, .int .i64 z]) ∧ New V w') := hide fun x1 x2 W hW => by
          obtain ⟨h1, h2, h3⟩ := good_get hrun'.out.1.good (x1, x2)
          exact ⟨_, _, _, h1, h2, h3, fun V hV => ls_get x1 x2 (HST3.out.step (hW.trans (hV.mono hW.size))).1⟩
        have HG : Hid (∀ W, Below w3.heap.size w3 W → W.cell? ⟨g, 0, none⟩ = some (.pointer (some ⟨p, 0, none⟩)) ∧ W.cell? ⟨s, 3, none⟩ = some (.string k2)) := hide fun W hW => by
          obtain ⟨f0, f1, f2, f3, f4, f5⟩ := (HST3.out.step hW).facts
          exact ⟨f0, f4⟩
        have hksl : (posKeys L'.m []).length ≤ 1099511627776 := Nat.le_trans (posKeys_length _ _) hml
        clear hki hb3 HKS f0 f1 f2 f3 f4 f5 hml
        generalize posKeys L'.m [] = ks at *
        go_wp2_with fail
        go_loopw [8] (fun jv W => ∃ j : Nat, j ≤ ks.length ∧ jv = .int .i64 j ∧ Hid (Below w3.heap.size w3 W)) (fun jv _ => ks.length - (intOf jv).toNat)
        case atStart => exact ⟨0, by omega, rfl, hide (Below.refl _ _)⟩
        case round =>
          obtain ⟨j, hj, rfl, hb⟩ := hrel
          by_cases hjl : j < ks.length
          · obtain ⟨⟨x1, x2⟩, hx⟩ : ∃ x, ks[j]? = some x := ⟨ks[j], List.getElem?_eq_getElem hjl⟩
            obtain ⟨q, rfl, hq, hx1, hx2⟩ := (HKI.out.keep hb.out) j _ hx
            simp only at hx1 hx2
            obtain ⟨f0, f4⟩ := HG.out _ hb.out
            obtain ⟨x, y, z, ⟨ax0, ax1⟩, ⟨ay0, ay1⟩, ⟨az0, az1⟩, hget⟩ := HGET.out x1 x2 _ hb.out
            have HGT := hide hget
            have hgs : g < wr.heap.size := cell_in f0
            have HF : Hid (∀ W, New wr W → W.cell? ⟨g, 0, none⟩ = some (.pointer (some ⟨p, 0, none⟩)) ∧ W.cell? ⟨q, j * 2, none⟩ = some (.string x1) ∧ W.cell? ⟨q, j * 2 + 1, none⟩ = some (.string x2)) := hide fun W hW =>
              ⟨(Below.cell hW (p := ⟨g, 0, none⟩) hgs).trans f0, (Below.cell hW (p := ⟨q, j * 2, none⟩) hq).trans hx1, (Below.cell hW (p := ⟨q, j * 2 + 1, none⟩) hq).trans hx2⟩
            clear hget f4
            go_upto_region 26 with fail
            go_cut [9] from 69 to 131 (fun t wx => ∃ q2 : Nat, t = .pointer (some ⟨q2, 0, none⟩) ∧ Hid (Below wr.heap.size wr wx) ∧ wx.cell? ⟨q2, 0, none⟩ = some (.int .i64 x) ∧ wx.cell? ⟨q2, 1, none⟩ = some (.int .i64 y) ∧ wx.cell? ⟨q2, 2, none⟩ = some (.int .i64 z))
            case first =>
              refine region_by (fun a b => a = b) way_eq 11 8 (fun W => New wr W) (by kernel_rfl) (by kernel_rfl) (fun _ _ d _ _ h => by cases d <;> exact h) (fun x y h hx => h ▸ hx) (Below.refl _ _).drew (fun KT hKT => ?_)
              simp only [List.take_succ_cons, List.take_zero]
              refine Lex.want (v := ?_) (by rfl) (fun W hW => ?hd1) ?_
              case hd1 =>
                have hh := HF.out W hW
                clear hW
                go_split_ands
                go_simp
                first | rfl | exact way_new.refl _ | exact way_grow.refl _ | (refine ⟨?_, way_new.refl _⟩; rfl) | (refine ⟨?_, way_grow.refl _⟩; rfl)
              try simp only [Act.put, List.setIfInBounds_toArray, List.set_cons_zero, List.set_cons_succ, List.getElem_toArray, List.getElem_cons_zero, List.getElem_cons_succ]
              refine Lex.want (v := ?_) (by rfl) (fun W hW => ?hd2) ?_
              case hd2 =>
                have hh := HF.out W hW
                clear hW
                go_split_ands
                go_simp
                first | rfl | exact way_new.refl _ | exact way_grow.refl _ | (refine ⟨?_, way_new.refl _⟩; rfl) | (refine ⟨?_, way_grow.refl _⟩; rfl)
              try simp only [Act.put, List.setIfInBounds_toArray, List.set_cons_zero, List.set_cons_succ, List.getElem_toArray, List.getElem_cons_zero, List.getElem_cons_succ]
              refine Lex.want (v := ?_) (by rfl) (fun W hW => ?hd3) ?_
              case hd3 =>
                have hh := HF.out W hW
                clear hW
                go_split_ands
                go_simp
                first | rfl | exact way_new.refl _ | exact way_grow.refl _ | (refine ⟨?_, way_new.refl _⟩; rfl) | (refine ⟨?_, way_grow.refl _⟩; rfl)
              try simp only [Act.put, List.setIfInBounds_toArray, List.set_cons_zero, List.set_cons_succ, List.getElem_toArray, List.getElem_cons_zero, List.getElem_cons_succ]
              refine Lex.want (v := ?_) (by rfl) (fun W hW => ?hd4) ?_
              case hd4 =>
                have hh := HF.out W hW
                clear hW
                go_split_ands
                go_simp
                first | rfl | exact way_new.refl _ | exact way_grow.refl _ | (refine ⟨?_, way_new.refl _⟩; rfl) | (refine ⟨?_, way_grow.refl _⟩; rfl)
              try simp only [Act.put, List.setIfInBounds_toArray, List.set_cons_zero, List.set_cons_succ, List.getElem_toArray, List.getElem_cons_zero, List.getElem_cons_succ]
              refine Lex.want (v := ?_) (by rfl) (fun W hW => ?hd5) ?_
              case hd5 =>
                have hh := HF.out W hW
                clear hW
                go_split_ands
                go_simp
                first | rfl | exact way_new.refl _ | exact way_grow.refl _ | (refine ⟨?_, way_new.refl _⟩; rfl) | (refine ⟨?_, way_grow.refl _⟩; rfl)
              try simp only [Act.put, List.setIfInBounds_toArray, List.set_cons_zero, List.set_cons_succ, List.getElem_toArray, List.getElem_cons_zero, List.getElem_cons_succ]
              refine Lex.want (v := ?_) (by rfl) (fun W hW => ?hd6) ?_
              case hd6 =>
                have hh := HF.out W hW
                clear hW
                go_split_ands
                go_simp
                first | rfl | exact way_new.refl _ | exact way_grow.refl _ | (refine ⟨?_, way_new.refl _⟩; rfl) | (refine ⟨?_, way_grow.refl _⟩; rfl)
              try simp only [Act.put, List.setIfInBounds_toArray, List.set_cons_zero, List.set_cons_succ, List.getElem_toArray, List.getElem_cons_zero, List.getElem_cons_succ]
              refine Lex.want (v := ?_) (by rfl) (fun W hW => ?hd7) ?_
              case hd7 =>
                have hh := HF.out W hW
                clear hW
                go_split_ands
                go_simp
                first | rfl | exact way_new.refl _ | exact way_grow.refl _ | (refine ⟨?_, way_new.refl _⟩; rfl) | (refine ⟨?_, way_grow.refl _⟩; rfl)
              try simp only [Act.put, List.setIfInBounds_toArray, List.set_cons_zero, List.set_cons_succ, List.getElem_toArray, List.getElem_cons_zero, List.getElem_cons_succ]
              refine Lex.want (v := ?_) (by rfl) (fun W hW => ?hd8) ?_
              case hd8 =>
                have hh := HF.out W hW
                clear hW
                go_split_ands
                go_simp
                first | rfl | exact way_new.refl _ | exact way_grow.refl _ | (refine ⟨?_, way_new.refl _⟩; rfl) | (refine ⟨?_, way_grow.refl _⟩; rfl)
              try simp only [Act.put, List.setIfInBounds_toArray, List.set_cons_zero, List.set_cons_succ, List.getElem_toArray, List.getElem_cons_zero, List.getElem_cons_succ]
              refine Lex.nil (hKT.out _ ?_)
              clear hKT KT
              refine Reg.two 8 9 rfl rfl (by decide) (by decide) (by kernel_rfl) (fun W hW hT K hK => ?_) (fun W hW hT K hK => ?_)
              · subst hW
                go_simp
                refine (HGT.out _ hT).mono ?_
                rintro e w5 ⟨rfl, hb5⟩
                have HB5 : Hid (New wr w5) := hide (Below.trans hT (Below.mono hb5 (Below.size hT)))
                clear hb5
                refine hK.out _ _ (HB5.out) (fun _ => ?_)
                clear hK K
                try simp only [Act.put, List.setIfInBounds_toArray, List.set_cons_zero, List.set_cons_succ, List.getElem_toArray, List.getElem_cons_zero, List.getElem_cons_succ]
                refine Reg.only 9 rfl (by decide) (by kernel_rfl) (fun W hW hT K hK => ?_)
                subst hW
                go_simp
                refine hK.out _ _ (Below.alloc HB5.out (Below.size HB5.out) _) (fun _ => ?_)
                clear hK K
                try simp only [Act.put, List.setIfInBounds_toArray, List.set_cons_zero, List.set_cons_succ, List.getElem_toArray, List.getElem_cons_zero, List.getElem_cons_succ]
                refine Reg.only 10 rfl (by decide) (by kernel_rfl) (fun W hW hT K hK => ?_)
                subst hW
                go_simp
                refine hK.out _ _ (Below.alloc HB5.out (Below.size HB5.out) _) (fun _ => ?_)
                clear hK K
                try simp only [Act.put, List.setIfInBounds_toArray, List.set_cons_zero, List.set_cons_succ, List.getElem_toArray, List.getElem_cons_zero, List.getElem_cons_succ]
                refine Reg.done (by kernel_rfl) (fun W hW hWT => ⟨by kernel_rfl, ?_⟩)
                simp only [List.drop_succ_cons, List.drop_zero]
                subst hW
                go_wp2_with fail
                go_meet
                exact ⟨w5.heap.size, rfl, hide hWT, by simp, by simp, by simp⟩
              · subst hW
                go_simp
                refine hK.out _ _ (hT.alloc (Nat.le_refl _) _) (fun _ => ?_)
                clear hK K
                try simp only [Act.put, List.setIfInBounds_toArray, List.set_cons_zero, List.set_cons_succ, List.getElem_toArray, List.getElem_cons_zero, List.getElem_cons_succ]
                refine Reg.only 8 rfl (by decide) (by kernel_rfl) (fun W hW hT K hK => ?_)
                subst hW
                go_simp
                refine (HGT.out _ hT).mono ?_
                rintro e w5 ⟨rfl, hb5⟩
                have HB5 : Hid (New wr w5) := hide (Below.trans hT (Below.mono hb5 (Below.size hT)))
                have HZ : w5.heap[wr.heap.size]? = some (.cells #[.int .i64 0, .int .i64 0, .int .i64 0] 33 (0, 0)) := (Below.block hb5 wr.heap.size (by simp)).trans (heap_alloc_new wr _)
                obtain ⟨z1, z2, z3, z4, z5, z6⟩ := box3 HZ
                have HZ3 := hide (box3_set x y z HZ)
                clear hb5 HZ
                refine hK.out _ _ (HB5.out) (fun _ => ?_)
                clear hK K
                try simp only [Act.put, List.setIfInBounds_toArray, List.set_cons_zero, List.set_cons_succ, List.getElem_toArray, List.getElem_cons_zero, List.getElem_cons_succ]
                refine Reg.only 10 rfl (by decide) (by kernel_rfl) (fun W hW hT K hK => ?_)
                subst hW
                go_simp
                have HB6 : Hid (New wr (((w5.setCell ⟨wr.heap.size, 0, none⟩ (.int .i64 x)).setCell ⟨wr.heap.size, 1, none⟩ (.int .i64 y)).setCell ⟨wr.heap.size, 2, none⟩ (.int .i64 z))) := hide (Below.setCell (Below.setCell (Below.setCell HB5.out (Nat.le_refl _) _) (Nat.le_refl _) _) (Nat.le_refl _) _)
                refine hK.out _ _ (HB6.out) (fun _ => ?_)
                clear hK K
                try simp only [Act.put, List.setIfInBounds_toArray, List.set_cons_zero, List.set_cons_succ, List.getElem_toArray, List.getElem_cons_zero, List.getElem_cons_succ]
                refine Reg.done (by kernel_rfl) (fun W hW hWT => ⟨by kernel_rfl, ?_⟩)
                simp only [List.drop_succ_cons, List.drop_zero]
                subst hW
                obtain ⟨z7, z8, z9⟩ := HZ3.out
                go_wp2_with fail
                go_meet
                exact ⟨wr.heap.size, rfl, hide hWT, z7, z8, z9⟩
            case rest =>
            obtain ⟨q2, rfl, hb6, y0, y1, y2⟩ := hcut
            have HB6 := hide (hb.out.trans (hb6.out.mono hb.out.size))
            have g0 := (hb6.out.cell (p := ⟨g, 0, none⟩) hgs).trans f0
            have g1 := (hb6.out.cell (p := ⟨q, j * 2, none⟩) hq).trans hx1
            have g2 := (hb6.out.cell (p := ⟨q, j * 2 + 1, none⟩) hq).trans hx2
            have hgs6 : g < wc.heap.size := cell_in g0
            have hq6 : q < wc.heap.size := cell_in g1
            have hq26 : q2 < wc.heap.size := cell_in y0
            have HF27 : Hid (∀ W, New wc W → W.cell? ⟨g, 0, none⟩ = some (.pointer (some ⟨p, 0, none⟩)) ∧ W.cell? ⟨q, j * 2 + 1, none⟩ = some (.string x2) ∧ W.cell? ⟨q2, 0, none⟩ = some (.int .i64 x) ∧ W.cell? ⟨q2, 1, none⟩ = some (.int .i64 y) ∧ W.cell? ⟨q2, 2, none⟩ = some (.int .i64 z)) := hide fun W hW =>
              ⟨(Below.cell hW (p := ⟨g, 0, none⟩) hgs6).trans g0, (Below.cell hW (p := ⟨q, j * 2 + 1, none⟩) hq6).trans g2, (Below.cell hW (p := ⟨q2, 0, none⟩) hq26).trans y0, (Below.cell hW (p := ⟨q2, 1, none⟩) hq26).trans y1, (Below.cell hW (p := ⟨q2, 2, none⟩) hq26).trans y2⟩
            have e1 : decide (x < 0) = false := decide_eq_false (by omega)
            have e2 : decide (y < 0) = false := decide_eq_false (by omega)
            have e3 : decide (z < 0) = false := decide_eq_false (by omega)
            have e4 : decide (1152921504606846976 < x) = false := decide_eq_false (by omega)
            have e5 : decide (1152921504606846976 < y) = false := decide_eq_false (by omega)
            have e6 : decide (1152921504606846976 < z) = false := decide_eq_false (by omega)
            clear g0 g1 g2 hgs6 hq26 y0 y1 y2 hx1 hx2 f0 HF hgs HGT
            go_upto_region 27 with fail
            go_cut [131] from 69 to 131 (fun t wx => t = .bool false ∧ Hid (New wc wx))
            case first =>
              as_aux_lemma =>
                refine region_by New way_new 48 48 (fun W => New wc W) (by kernel_rfl) (by kernel_rfl) (fun _ _ d _ _ h => by cases d <;> exact h) (fun x y h hx => way_new.trans hx h) (Below.refl _ _).drew (fun KT hKT => ?_)
                simp only [List.take_succ_cons, List.take_zero]
                refine Lex.want (v := ?_) (by rfl) (fun W hW => ?hd9) ?_
                case hd9 =>
                  have hh := HF27.out W hW
                  clear hW
                  go_split_ands
                  go_simp
                  first | rfl | exact way_new.refl _ | exact way_grow.refl _ | (refine ⟨?_, way_new.refl _⟩; rfl) | (refine ⟨?_, way_grow.refl _⟩; rfl)
                try simp only [Act.put, List.setIfInBounds_toArray, List.set_cons_zero, List.set_cons_succ, List.getElem_toArray, List.getElem_cons_zero, List.getElem_cons_succ]
                refine Lex.want (v := ?_) (by rfl) (fun W hW => ?hd10) ?_
                case hd10 =>
                  have hh := HF27.out W hW
                  clear hW
                  go_split_ands
                  go_simp
                  first | rfl | exact way_new.refl _ | exact way_grow.refl _ | (refine ⟨?_, way_new.refl _⟩; rfl) | (refine ⟨?_, way_grow.refl _⟩; rfl)
                try simp only [Act.put, List.setIfInBounds_toArray, List.set_cons_zero, List.set_cons_succ, List.getElem_toArray, List.getElem_cons_zero, List.getElem_cons_succ]
                refine Lex.want (v := ?_) (by rfl) (fun W hW => ?hd11) ?_
                case hd11 =>
                  have hh := HF27.out W hW
                  clear hW
                  go_split_ands
                  go_simp
                  first | rfl | exact way_new.refl _ | exact way_grow.refl _ | (refine ⟨?_, way_new.refl _⟩; rfl) | (refine ⟨?_, way_grow.refl _⟩; rfl)
                try simp only [Act.put, List.setIfInBounds_toArray, List.set_cons_zero, List.set_cons_succ, List.getElem_toArray, List.getElem_cons_zero, List.getElem_cons_succ]
                refine Lex.want (v := ?_) (by rfl) (fun W hW => ?hd12) ?_
                case hd12 =>
                  have hh := HF27.out W hW
                  clear hW
                  go_split_ands
                  go_simp
                  first | rfl | exact way_new.refl _ | exact way_grow.refl _ | (refine ⟨?_, way_new.refl _⟩; rfl) | (refine ⟨?_, way_grow.refl _⟩; rfl)
                try simp only [Act.put, List.setIfInBounds_toArray, List.set_cons_zero, List.set_cons_succ, List.getElem_toArray, List.getElem_cons_zero, List.getElem_cons_succ]
                refine Lex.want (v := ?_) (by rfl) (fun W hW => ?hd13) ?_
                case hd13 =>
                  have hh := HF27.out W hW
                  clear hW
                  go_split_ands
                  go_simp
                  first | rfl | exact way_new.refl _ | exact way_grow.refl _ | (refine ⟨?_, way_new.refl _⟩; rfl) | (refine ⟨?_, way_grow.refl _⟩; rfl)
                try simp only [Act.put, List.setIfInBounds_toArray, List.set_cons_zero, List.set_cons_succ, List.getElem_toArray, List.getElem_cons_zero, List.getElem_cons_succ]
                refine Lex.want (v := ?_) (by rfl) (fun W hW => ?hd14) ?_
                case hd14 =>
                  have hh := HF27.out W hW
                  clear hW
                  go_split_ands
                  go_simp
                  first | rfl | exact way_new.refl _ | exact way_grow.refl _ | (refine ⟨?_, way_new.refl _⟩; rfl) | (refine ⟨?_, way_grow.refl _⟩; rfl)
                try simp only [Act.put, List.setIfInBounds_toArray, List.set_cons_zero, List.set_cons_succ, List.getElem_toArray, List.getElem_cons_zero, List.getElem_cons_succ]
                refine Lex.want (v := ?_) (by rfl) (fun W hW => ?hd15) ?_
                case hd15 =>
                  have hh := HF27.out W hW
                  clear hW
                  go_split_ands
                  go_simp
                  first | rfl | exact way_new.refl _ | exact way_grow.refl _ | (refine ⟨?_, way_new.refl _⟩; rfl) | (refine ⟨?_, way_grow.refl _⟩; rfl)
                try simp only [Act.put, List.setIfInBounds_toArray, List.set_cons_zero, List.set_cons_succ, List.getElem_toArray, List.getElem_cons_zero, List.getElem_cons_succ]
                refine Lex.want (v := ?_) (by rfl) (fun W hW => ?hd16) ?_
                case hd16 =>
                  have hh := HF27.out W hW
                  clear hW
                  go_split_ands
                  go_simp
                  first | rfl | exact way_new.refl _ | exact way_grow.refl _ | (refine ⟨?_, way_new.refl _⟩; rfl) | (refine ⟨?_, way_grow.refl _⟩; rfl)
                try simp only [Act.put, List.setIfInBounds_toArray, List.set_cons_zero, List.set_cons_succ, List.getElem_toArray, List.getElem_cons_zero, List.getElem_cons_succ]
                refine Lex.want (v := ?_) (by rfl) (fun W hW => ?hd17) ?_
                case hd17 =>
                  have hh := HF27.out W hW
                  clear hW
                  go_split_ands
                  go_simp
                  first | rfl | exact way_new.refl _ | exact way_grow.refl _ | (refine ⟨?_, way_new.refl _⟩; rfl) | (refine ⟨?_, way_grow.refl _⟩; rfl)
                try simp only [Act.put, List.setIfInBounds_toArray, List.set_cons_zero, List.set_cons_succ, List.getElem_toArray, List.getElem_cons_zero, List.getElem_cons_succ]
                refine Lex.want (v := ?_) (by rfl) (fun W hW => ?hd18) ?_
                case hd18 =>
                  have hh := HF27.out W hW
                  clear hW
                  go_split_ands
                  go_simp
                  first | rfl | exact way_new.refl _ | exact way_grow.refl _ | (refine ⟨?_, way_new.refl _⟩; rfl) | (refine ⟨?_, way_grow.refl _⟩; rfl)
                try simp only [Act.put, List.setIfInBounds_toArray, List.set_cons_zero, List.set_cons_succ, List.getElem_toArray, List.getElem_cons_zero, List.getElem_cons_succ]
                refine Lex.want (v := ?_) (by rfl) (fun W hW => ?hd19) ?_
                case hd19 =>
                  have hh := HF27.out W hW
                  clear hW
                  go_split_ands
                  go_simp
                  first | rfl | exact way_new.refl _ | exact way_grow.refl _ | (refine ⟨?_, way_new.refl _⟩; rfl) | (refine ⟨?_, way_grow.refl _⟩; rfl)
                try simp only [Act.put, List.setIfInBounds_toArray, List.set_cons_zero, List.set_cons_succ, List.getElem_toArray, List.getElem_cons_zero, List.getElem_cons_succ]
                refine Lex.want (v := ?_) (by rfl) (fun W hW => ?hd20) ?_
                case hd20 =>
                  have hh := HF27.out W hW
                  clear hW
                  go_split_ands
                  go_simp
                  first | rfl | exact way_new.refl _ | exact way_grow.refl _ | (refine ⟨?_, way_new.refl _⟩; rfl) | (refine ⟨?_, way_grow.refl _⟩; rfl)
                try simp only [Act.put, List.setIfInBounds_toArray, List.set_cons_zero, List.set_cons_succ, List.getElem_toArray, List.getElem_cons_zero, List.getElem_cons_succ]
                refine Lex.want (v := ?_) (by rfl) (fun W hW => ?hd21) ?_
                case hd21 =>
                  have hh := HF27.out W hW
                  clear hW
                  go_split_ands
                  go_simp
                  first | rfl | exact way_new.refl _ | exact way_grow.refl _ | (refine ⟨?_, way_new.refl _⟩; rfl) | (refine ⟨?_, way_grow.refl _⟩; rfl)
                try simp only [Act.put, List.setIfInBounds_toArray, List.set_cons_zero, List.set_cons_succ, List.getElem_toArray, List.getElem_cons_zero, List.getElem_cons_succ]
                refine Lex.want (v := ?_) (by rfl) (fun W hW => ?hd22) ?_
                case hd22 =>
                  have hh := HF27.out W hW
                  clear hW
                  go_split_ands
                  go_simp
                  first | rfl | exact way_new.refl _ | exact way_grow.refl _ | (refine ⟨?_, way_new.refl _⟩; rfl) | (refine ⟨?_, way_grow.refl _⟩; rfl)
                try simp only [Act.put, List.setIfInBounds_toArray, List.set_cons_zero, List.set_cons_succ, List.getElem_toArray, List.getElem_cons_zero, List.getElem_cons_succ]
                refine Lex.want (v := ?_) (by rfl) (fun W hW => ?hd23) ?_
                case hd23 =>
                  have hh := HF27.out W hW
                  clear hW
                  go_split_ands
                  go_simp
                  first | rfl | exact way_new.refl _ | exact way_grow.refl _ | (refine ⟨?_, way_new.refl _⟩; rfl) | (refine ⟨?_, way_grow.refl _⟩; rfl)
                try simp only [Act.put, List.setIfInBounds_toArray, List.set_cons_zero, List.set_cons_succ, List.getElem_toArray, List.getElem_cons_zero, List.getElem_cons_succ]
                refine Lex.want (v := ?_) (by rfl) (fun W hW => ?hd24) ?_
                case hd24 =>
                  have hh := HF27.out W hW
                  clear hW
                  go_split_ands
                  go_simp
                  first | rfl | exact way_new.refl _ | exact way_grow.refl _ | (refine ⟨?_, way_new.refl _⟩; rfl) | (refine ⟨?_, way_grow.refl _⟩; rfl)
                try simp only [Act.put, List.setIfInBounds_toArray, List.set_cons_zero, List.set_cons_succ, List.getElem_toArray, List.getElem_cons_zero, List.getElem_cons_succ]
                as_aux_lemma =>
                  refine Lex.want (v := ?_) (by rfl) (fun W hW => ?hd25) ?_
                  case hd25 =>
                    have hh := HF27.out W hW
                    clear hW
                    go_split_ands
                    go_simp
                    first | rfl | exact way_new.refl _ | exact way_grow.refl _ | (refine ⟨?_, way_new.refl _⟩; rfl) | (refine ⟨?_, way_grow.refl _⟩; rfl)
                  try simp only [Act.put, List.setIfInBounds_toArray, List.set_cons_zero, List.set_cons_succ, List.getElem_toArray, List.getElem_cons_zero, List.getElem_cons_succ]
                  refine Lex.want (v := ?_) (by rfl) (fun W hW => ?hd26) ?_
                  case hd26 =>
                    have hh := HF27.out W hW
                    clear hW
                    go_split_ands
                    go_simp
                    first | rfl | exact way_new.refl _ | exact way_grow.refl _ | (refine ⟨?_, way_new.refl _⟩; rfl) | (refine ⟨?_, way_grow.refl _⟩; rfl)
                  try simp only [Act.put, List.setIfInBounds_toArray, List.set_cons_zero, List.set_cons_succ, List.getElem_toArray, List.getElem_cons_zero, List.getElem_cons_succ]
                  refine Lex.want (v := ?_) (by rfl) (fun W hW => ?hd27) ?_
                  case hd27 =>
                    have hh := HF27.out W hW
                    clear hW
                    go_split_ands
                    go_simp
                    first | rfl | exact way_new.refl _ | exact way_grow.refl _ | (refine ⟨?_, way_new.refl _⟩; rfl) | (refine ⟨?_, way_grow.refl _⟩; rfl)
                  try simp only [Act.put, List.setIfInBounds_toArray, List.set_cons_zero, List.set_cons_succ, List.getElem_toArray, List.getElem_cons_zero, List.getElem_cons_succ]
                  refine Lex.want (v := ?_) (by rfl) (fun W hW => ?hd28) ?_
                  case hd28 =>
                    have hh := HF27.out W hW
                    clear hW
                    go_split_ands
                    go_simp
                    first | rfl | exact way_new.refl _ | exact way_grow.refl _ | (refine ⟨?_, way_new.refl _⟩; rfl) | (refine ⟨?_, way_grow.refl _⟩; rfl)
                  try simp only [Act.put, List.setIfInBounds_toArray, List.set_cons_zero, List.set_cons_succ, List.getElem_toArray, List.getElem_cons_zero, List.getElem_cons_succ]
                  refine Lex.want (v := ?_) (by rfl) (fun W hW => ?hd29) ?_
                  case hd29 =>
                    have hh := HF27.out W hW
                    clear hW
                    go_split_ands
                    go_simp
                    first | rfl | exact way_new.refl _ | exact way_grow.refl _ | (refine ⟨?_, way_new.refl _⟩; rfl) | (refine ⟨?_, way_grow.refl _⟩; rfl)
                  try simp only [Act.put, List.setIfInBounds_toArray, List.set_cons_zero, List.set_cons_succ, List.getElem_toArray, List.getElem_cons_zero, List.getElem_cons_succ]
                  refine Lex.want (v := ?_) (by rfl) (fun W hW => ?hd30) ?_
                  case hd30 =>
                    have hh := HF27.out W hW
                    clear hW
                    go_split_ands
                    go_simp
                    first | rfl | exact way_new.refl _ | exact way_grow.refl _ | (refine ⟨?_, way_new.refl _⟩; rfl) | (refine ⟨?_, way_grow.refl _⟩; rfl)
                  try simp only [Act.put, List.setIfInBounds_toArray, List.set_cons_zero, List.set_cons_succ, List.getElem_toArray, List.getElem_cons_zero, List.getElem_cons_succ]
                  refine Lex.want (v := ?_) (by rfl) (fun W hW => ?hd31) ?_
                  case hd31 =>
                    have hh := HF27.out W hW
                    clear hW
                    go_split_ands
                    go_simp
                    first | rfl | exact way_new.refl _ | exact way_grow.refl _ | (refine ⟨?_, way_new.refl _⟩; rfl) | (refine ⟨?_, way_grow.refl _⟩; rfl)
                  try simp only [Act.put, List.setIfInBounds_toArray, List.set_cons_zero, List.set_cons_succ, List.getElem_toArray, List.getElem_cons_zero, List.getElem_cons_succ]
                  refine Lex.want (v := ?_) (by rfl) (fun W hW => ?hd32) ?_
                  case hd32 =>
                    have hh := HF27.out W hW
                    clear hW
                    go_split_ands
                    go_simp
                    first | rfl | exact way_new.refl _ | exact way_grow.refl _ | (refine ⟨?_, way_new.refl _⟩; rfl) | (refine ⟨?_, way_grow.refl _⟩; rfl)
                  try simp only [Act.put, List.setIfInBounds_toArray, List.set_cons_zero, List.set_cons_succ, List.getElem_toArray, List.getElem_cons_zero, List.getElem_cons_succ]
                  refine Lex.want (v := ?_) (by rfl) (fun W hW => ?hd33) ?_
                  case hd33 =>
                    have hh := HF27.out W hW
                    clear hW
                    go_split_ands
                    go_simp
                    first | rfl | exact way_new.refl _ | exact way_grow.refl _ | (refine ⟨?_, way_new.refl _⟩; rfl) | (refine ⟨?_, way_grow.refl _⟩; rfl)
                  try simp only [Act.put, List.setIfInBounds_toArray, List.set_cons_zero, List.set_cons_succ, List.getElem_toArray, List.getElem_cons_zero, List.getElem_cons_succ]
                  refine Lex.want (v := ?_) (by rfl) (fun W hW => ?hd34) ?_
                  case hd34 =>
                    have hh := HF27.out W hW
                    clear hW
                    go_split_ands
                    go_simp
                    first | rfl | exact way_new.refl _ | exact way_grow.refl _ | (refine ⟨?_, way_new.refl _⟩; rfl) | (refine ⟨?_, way_grow.refl _⟩; rfl)
                  try simp only [Act.put, List.setIfInBounds_toArray, List.set_cons_zero, List.set_cons_succ, List.getElem_toArray, List.getElem_cons_zero, List.getElem_cons_succ]
                  refine Lex.want (v := ?_) (by rfl) (fun W hW => ?hd35) ?_
                  case hd35 =>
                    have hh := HF27.out W hW
                    clear hW
                    go_split_ands
                    go_simp
                    first | rfl | exact way_new.refl _ | exact way_grow.refl _ | (refine ⟨?_, way_new.refl _⟩; rfl) | (refine ⟨?_, way_grow.refl _⟩; rfl)
                  try simp only [Act.put, List.setIfInBounds_toArray, List.set_cons_zero, List.set_cons_succ, List.getElem_toArray, List.getElem_cons_zero, List.getElem_cons_succ]
                  refine Lex.want (v := ?_) (by rfl) (fun W hW => ?hd36) ?_
                  case hd36 =>
                    have hh := HF27.out W hW
                    clear hW
                    go_split_ands
                    go_simp
                    first | rfl | exact way_new.refl _ | exact way_grow.refl _ | (refine ⟨?_, way_new.refl _⟩; rfl) | (refine ⟨?_, way_grow.refl _⟩; rfl)
                  try simp only [Act.put, List.setIfInBounds_toArray, List.set_cons_zero, List.set_cons_succ, List.getElem_toArray, List.getElem_cons_zero, List.getElem_cons_succ]
                  refine Lex.want (v := ?_) (by rfl) (fun W hW => ?hd37) ?_
                  case hd37 =>
                    have hh := HF27.out W hW
                    clear hW
                    go_split_ands
                    go_simp
                    first | rfl | exact way_new.refl _ | exact way_grow.refl _ | (refine ⟨?_, way_new.refl _⟩; rfl) | (refine ⟨?_, way_grow.refl _⟩; rfl)
                  try simp only [Act.put, List.setIfInBounds_toArray, List.set_cons_zero, List.set_cons_succ, List.getElem_toArray, List.getElem_cons_zero, List.getElem_cons_succ]
                  refine Lex.want (v := ?_) (by rfl) (fun W hW => ?hd38) ?_
                  case hd38 =>
                    have hh := HF27.out W hW
                    clear hW
                    go_split_ands
                    go_simp
                    first | rfl | exact way_new.refl _ | exact way_grow.refl _ | (refine ⟨?_, way_new.refl _⟩; rfl) | (refine ⟨?_, way_grow.refl _⟩; rfl)
                  try simp only [Act.put, List.setIfInBounds_toArray, List.set_cons_zero, List.set_cons_succ, List.getElem_toArray, List.getElem_cons_zero, List.getElem_cons_succ]
                  refine Lex.want (v := ?_) (by rfl) (fun W hW => ?hd39) ?_
                  case hd39 =>
                    have hh := HF27.out W hW
                    clear hW
                    go_split_ands
                    go_simp
                    first | rfl | exact way_new.refl _ | exact way_grow.refl _ | (refine ⟨?_, way_new.refl _⟩; rfl) | (refine ⟨?_, way_grow.refl _⟩; rfl)
                  try simp only [Act.put, List.setIfInBounds_toArray, List.set_cons_zero, List.set_cons_succ, List.getElem_toArray, List.getElem_cons_zero, List.getElem_cons_succ]
                  refine Lex.want (v := ?_) (by rfl) (fun W hW => ?hd40) ?_
                  case hd40 =>
                    have hh := HF27.out W hW
                    clear hW
                    go_split_ands
                    go_simp
                    first | rfl | exact way_new.refl _ | exact way_grow.refl _ | (refine ⟨?_, way_new.refl _⟩; rfl) | (refine ⟨?_, way_grow.refl _⟩; rfl)
                  try simp only [Act.put, List.setIfInBounds_toArray, List.set_cons_zero, List.set_cons_succ, List.getElem_toArray, List.getElem_cons_zero, List.getElem_cons_succ]
                  refine Lex.want (v := ?_) (by rfl) (fun W hW => ?hd41) ?_
                  case hd41 =>
                    have hh := HF27.out W hW
                    clear hW
                    go_split_ands
                    go_simp
                    first | rfl | exact way_new.refl _ | exact way_grow.refl _ | (refine ⟨?_, way_new.refl _⟩; rfl) | (refine ⟨?_, way_grow.refl _⟩; rfl)
                  try simp only [Act.put, List.setIfInBounds_toArray, List.set_cons_zero, List.set_cons_succ, List.getElem_toArray, List.getElem_cons_zero, List.getElem_cons_succ]
                  refine Lex.want (v := ?_) (by rfl) (fun W hW => ?hd42) ?_
                  case hd42 =>
                    have hh := HF27.out W hW
                    clear hW
                    go_split_ands
                    go_simp
                    first | rfl | exact way_new.refl _ | exact way_grow.refl _ | (refine ⟨?_, way_new.refl _⟩; rfl) | (refine ⟨?_, way_grow.refl _⟩; rfl)
                  try simp only [Act.put, List.setIfInBounds_toArray, List.set_cons_zero, List.set_cons_succ, List.getElem_toArray, List.getElem_cons_zero, List.getElem_cons_succ]
                  refine Lex.want (v := ?_) (by rfl) (fun W hW => ?hd43) ?_
                  case hd43 =>
                    have hh := HF27.out W hW
                    clear hW
                    go_split_ands
                    go_simp
                    first | rfl | exact way_new.refl _ | exact way_grow.refl _ | (refine ⟨?_, way_new.refl _⟩; rfl) | (refine ⟨?_, way_grow.refl _⟩; rfl)
                  try simp only [Act.put, List.setIfInBounds_toArray, List.set_cons_zero, List.set_cons_succ, List.getElem_toArray, List.getElem_cons_zero, List.getElem_cons_succ]
                  refine Lex.want (v := ?_) (by rfl) (fun W hW => ?hd44) ?_
                  case hd44 =>
                    have hh := HF27.out W hW
                    clear hW
                    go_split_ands
                    go_simp
                    first | rfl | exact way_new.refl _ | exact way_grow.refl _ | (refine ⟨?_, way_new.refl _⟩; rfl) | (refine ⟨?_, way_grow.refl _⟩; rfl)
                  try simp only [Act.put, List.setIfInBounds_toArray, List.set_cons_zero, List.set_cons_succ, List.getElem_toArray, List.getElem_cons_zero, List.getElem_cons_succ]
                  refine Lex.want (v := ?_) (by rfl) (fun W hW => ?hd45) ?_
                  case hd45 =>
                    have hh := HF27.out W hW
                    clear hW
                    go_split_ands
                    go_simp
                    first | rfl | exact way_new.refl _ | exact way_grow.refl _ | (refine ⟨?_, way_new.refl _⟩; rfl) | (refine ⟨?_, way_grow.refl _⟩; rfl)
                  try simp only [Act.put, List.setIfInBounds_toArray, List.set_cons_zero, List.set_cons_succ, List.getElem_toArray, List.getElem_cons_zero, List.getElem_cons_succ]
                  refine Lex.want (v := ?_) (by rfl) (fun W hW => ?hd46) ?_
                  case hd46 =>
                    have hh := HF27.out W hW
                    clear hW
                    go_split_ands
                    go_simp
                    first | rfl | exact way_new.refl _ | exact way_grow.refl _ | (refine ⟨?_, way_new.refl _⟩; rfl) | (refine ⟨?_, way_grow.refl _⟩; rfl)
                  try simp only [Act.put, List.setIfInBounds_toArray, List.set_cons_zero, List.set_cons_succ, List.getElem_toArray, List.getElem_cons_zero, List.getElem_cons_succ]
                  as_aux_lemma =>
                    refine Lex.want (v := ?_) (by rfl) (fun W hW => ?hd47) ?_
                    case hd47 =>
                      have hcc := hide (HTOT.out x2 W (HB6.out.trans (Below.mono hW HB6.out.size)))
                      go_simp
                      exact hcc
                    try simp only [Act.put, List.setIfInBounds_toArray, List.set_cons_zero, List.set_cons_succ, List.getElem_toArray, List.getElem_cons_zero, List.getElem_cons_succ]
                    refine Lex.want (v := ?_) (by rfl) (fun W hW => ?hd48) ?_
                    case hd48 =>
                      have hh := HF27.out W hW
                      clear hW
                      go_split_ands
                      go_simp
                      first | rfl | exact way_new.refl _ | exact way_grow.refl _ | (refine ⟨?_, way_new.refl _⟩; rfl) | (refine ⟨?_, way_grow.refl _⟩; rfl)
                    try simp only [Act.put, List.setIfInBounds_toArray, List.set_cons_zero, List.set_cons_succ, List.getElem_toArray, List.getElem_cons_zero, List.getElem_cons_succ]
                    refine Lex.want (v := ?_) (by rfl) (fun W hW => ?hd49) ?_
                    case hd49 =>
                      have hh := HF27.out W hW
                      clear hW
                      go_split_ands
                      go_simp
                      first | rfl | exact way_new.refl _ | exact way_grow.refl _ | (refine ⟨?_, way_new.refl _⟩; rfl) | (refine ⟨?_, way_grow.refl _⟩; rfl)
                    try simp only [Act.put, List.setIfInBounds_toArray, List.set_cons_zero, List.set_cons_succ, List.getElem_toArray, List.getElem_cons_zero, List.getElem_cons_succ]
                    refine Lex.want (v := ?_) (by rfl) (fun W hW => ?hd50) ?_
                    case hd50 =>
                      have hh := HF27.out W hW
                      clear hW
                      go_split_ands
                      go_simp
                      first | rfl | exact way_new.refl _ | exact way_grow.refl _ | (refine ⟨?_, way_new.refl _⟩; rfl) | (refine ⟨?_, way_grow.refl _⟩; rfl)
                    try simp only [Act.put, List.setIfInBounds_toArray, List.set_cons_zero, List.set_cons_succ, List.getElem_toArray, List.getElem_cons_zero, List.getElem_cons_succ]
                    refine Lex.want (v := ?_) (by rfl) (fun W hW => ?hd51) ?_
                    case hd51 =>
                      have hh := HF27.out W hW
                      clear hW
                      go_split_ands
                      go_simp
                      first | rfl | exact way_new.refl _ | exact way_grow.refl _ | (refine ⟨?_, way_new.refl _⟩; rfl) | (refine ⟨?_, way_grow.refl _⟩; rfl)
                    try simp only [Act.put, List.setIfInBounds_toArray, List.set_cons_zero, List.set_cons_succ, List.getElem_toArray, List.getElem_cons_zero, List.getElem_cons_succ]
                    refine Lex.want (v := ?_) (by rfl) (fun W hW => ?hd52) ?_
                    case hd52 =>
                      have hh := HF27.out W hW
                      clear hW
                      go_split_ands
                      go_simp
                      first | rfl | exact way_new.refl _ | exact way_grow.refl _ | (refine ⟨?_, way_new.refl _⟩; rfl) | (refine ⟨?_, way_grow.refl _⟩; rfl)
                    try simp only [Act.put, List.setIfInBounds_toArray, List.set_cons_zero, List.set_cons_succ, List.getElem_toArray, List.getElem_cons_zero, List.getElem_cons_succ]
                    refine Lex.want (v := ?_) (by rfl) (fun W hW => ?hd53) ?_
                    case hd53 =>
                      have hh := HF27.out W hW
                      clear hW
                      go_split_ands
                      go_simp
                      first | rfl | exact way_new.refl _ | exact way_grow.refl _ | (refine ⟨?_, way_new.refl _⟩; rfl) | (refine ⟨?_, way_grow.refl _⟩; rfl)
                    try simp only [Act.put, List.setIfInBounds_toArray, List.set_cons_zero, List.set_cons_succ, List.getElem_toArray, List.getElem_cons_zero, List.getElem_cons_succ]
                    refine Lex.want (v := ?_) (by rfl) (fun W hW => ?hd54) ?_
                    case hd54 =>
                      have hcc := hide (HIS.out x2 W (HB6.out.trans (Below.mono hW HB6.out.size)))
                      go_simp
                      exact hcc
                    try simp only [Act.put, List.setIfInBounds_toArray, List.set_cons_zero, List.set_cons_succ, List.getElem_toArray, List.getElem_cons_zero, List.getElem_cons_succ]
                    refine Lex.want (v := ?_) (by rfl) (fun W hW => ?hd55) ?_
                    case hd55 =>
                      have hh := HF27.out W hW
                      clear hW
                      go_split_ands
                      go_simp
                      first | rfl | exact way_new.refl _ | exact way_grow.refl _ | (refine ⟨?_, way_new.refl _⟩; rfl) | (refine ⟨?_, way_grow.refl _⟩; rfl)
                    try simp only [Act.put, List.setIfInBounds_toArray, List.set_cons_zero, List.set_cons_succ, List.getElem_toArray, List.getElem_cons_zero, List.getElem_cons_succ]
                    refine Lex.want (v := ?_) (by rfl) (fun W hW => ?hd56) ?_
                    case hd56 =>
                      have hh := HF27.out W hW
                      clear hW
                      go_split_ands
                      go_simp
                      first | rfl | exact way_new.refl _ | exact way_grow.refl _ | (refine ⟨?_, way_new.refl _⟩; rfl) | (refine ⟨?_, way_grow.refl _⟩; rfl)
                    try simp only [Act.put, List.setIfInBounds_toArray, List.set_cons_zero, List.set_cons_succ, List.getElem_toArray, List.getElem_cons_zero, List.getElem_cons_succ]
                    refine Lex.nil (hKT.out _ ?_)
                    clear hKT KT
                    refine Reg.done (by kernel_rfl) (fun W hW hWT => ⟨by kernel_rfl, ?_⟩)
                    simp only [List.drop_succ_cons, List.drop_zero]
                    go_wp2_with fail
                    go_meet
                    exact ⟨rfl, hide hWT⟩
            case rest =>
            obtain ⟨rfl, hwt⟩ := hcut
            have HB7 := hide (HB6.out.trans (Below.mono hwt.out HB6.out.size))
            go_wp2_with fail
            exact ⟨⟨j + 1, by omega, by go_num, HB7⟩, by simp [intOf]; omega⟩
          · obtain ⟨f0, f4⟩ := HG.out _ hb.out
            have hgs : g < wr.heap.size := cell_in f0
            have hss : s < wr.heap.size := cell_in f4
            have HF29 : Hid (∀ W, New wr W → W.cell? ⟨g, 0, none⟩ = some (.pointer (some ⟨p, 0, none⟩)) ∧ W.cell? ⟨s, 3, none⟩ = some (.string k2)) := hide fun W hW =>
              ⟨(Below.cell hW (p := ⟨g, 0, none⟩) hgs).trans f0, (Below.cell hW (p := ⟨s, 3, none⟩) hss).trans f4⟩
            clear f0 f4
            go_upto_region 29 with fail
            refine region_by New way_new 14 14 (fun W => New wr W) (by kernel_rfl) (by kernel_rfl) (fun _ _ d _ _ h => by cases d <;> exact h) (fun x y h hx => way_new.trans hx h) (Below.refl _ _).drew (fun KT hKT => ?_)
            simp only [List.take_succ_cons, List.take_zero]
            refine Lex.want (v := ?_) (by rfl) (fun W hW => ?hd57) ?_
            case hd57 =>
              have hh := HF29.out W hW
              clear hW
              go_split_ands
              go_simp
              first | rfl | exact way_new.refl _ | exact way_grow.refl _ | (refine ⟨?_, way_new.refl _⟩; rfl) | (refine ⟨?_, way_grow.refl _⟩; rfl)
            try simp only [Act.put, List.setIfInBounds_toArray, List.set_cons_zero, List.set_cons_succ, List.getElem_toArray, List.getElem_cons_zero, List.getElem_cons_succ]
            refine Lex.want (v := ?_) (by rfl) (fun W hW => ?hd58) ?_
            case hd58 =>
              have hh := HF29.out W hW
              clear hW
              go_split_ands
              go_simp
              first | rfl | exact way_new.refl _ | exact way_grow.refl _ | (refine ⟨?_, way_new.refl _⟩; rfl) | (refine ⟨?_, way_grow.refl _⟩; rfl)
            try simp only [Act.put, List.setIfInBounds_toArray, List.set_cons_zero, List.set_cons_succ, List.getElem_toArray, List.getElem_cons_zero, List.getElem_cons_succ]
            refine Lex.want (v := ?_) (by rfl) (fun W hW => ?hd59) ?_
            case hd59 =>
              have hh := HF29.out W hW
              clear hW
              go_split_ands
              go_simp
              first | rfl | exact way_new.refl _ | exact way_grow.refl _ | (refine ⟨?_, way_new.refl _⟩; rfl) | (refine ⟨?_, way_grow.refl _⟩; rfl)
            try simp only [Act.put, List.setIfInBounds_toArray, List.set_cons_zero, List.set_cons_succ, List.getElem_toArray, List.getElem_cons_zero, List.getElem_cons_succ]
            refine Lex.want (v := ?_) (by rfl) (fun W hW => ?hd60) ?_
            case hd60 =>
              have hh := HF29.out W hW
              clear hW
              go_split_ands
              go_simp
              first | rfl | exact way_new.refl _ | exact way_grow.refl _ | (refine ⟨?_, way_new.refl _⟩; rfl) | (refine ⟨?_, way_grow.refl _⟩; rfl)
            try simp only [Act.put, List.setIfInBounds_toArray, List.set_cons_zero, List.set_cons_succ, List.getElem_toArray, List.getElem_cons_zero, List.getElem_cons_succ]
            refine Lex.want (v := ?_) (by rfl) (fun W hW => ?hd61) ?_
            case hd61 =>
              have hh := HF29.out W hW
              clear hW
              go_split_ands
              go_simp
              first | rfl | exact way_new.refl _ | exact way_grow.refl _ | (refine ⟨?_, way_new.refl _⟩; rfl) | (refine ⟨?_, way_grow.refl _⟩; rfl)
            try simp only [Act.put, List.setIfInBounds_toArray, List.set_cons_zero, List.set_cons_succ, List.getElem_toArray, List.getElem_cons_zero, List.getElem_cons_succ]
            refine Lex.want (v := ?_) (by rfl) (fun W hW => ?hd62) ?_
            case hd62 =>
              have hh := HF29.out W hW
              clear hW
              go_split_ands
              go_simp
              first | rfl | exact way_new.refl _ | exact way_grow.refl _ | (refine ⟨?_, way_new.refl _⟩; rfl) | (refine ⟨?_, way_grow.refl _⟩; rfl)
            try simp only [Act.put, List.setIfInBounds_toArray, List.set_cons_zero, List.set_cons_succ, List.getElem_toArray, List.getElem_cons_zero, List.getElem_cons_succ]
            refine Lex.want (v := ?_) (by rfl) (fun W hW => ?hd63) ?_
            case hd63 =>
              have hh := HF29.out W hW
              clear hW
              go_split_ands
              go_simp
              first | rfl | exact way_new.refl _ | exact way_grow.refl _ | (refine ⟨?_, way_new.refl _⟩; rfl) | (refine ⟨?_, way_grow.refl _⟩; rfl)
            try simp only [Act.put, List.setIfInBounds_toArray, List.set_cons_zero, List.set_cons_succ, List.getElem_toArray, List.getElem_cons_zero, List.getElem_cons_succ]
            refine Lex.want (v := ?_) (by rfl) (fun W hW => ?hd64) ?_
            case hd64 =>
              have hcc := hide (HTOT.out k2 W (hb.out.trans (Below.mono hW hb.out.size)))
              go_simp
              exact hcc
            try simp only [Act.put, List.setIfInBounds_toArray, List.set_cons_zero, List.set_cons_succ, List.getElem_toArray, List.getElem_cons_zero, List.getElem_cons_succ]
            refine Lex.want (v := ?_) (by rfl) (fun W hW => ?hd65) ?_
            case hd65 =>
              have hh := HF29.out W hW
              clear hW
              go_split_ands
              go_simp
              first | rfl | exact way_new.refl _ | exact way_grow.refl _ | (refine ⟨?_, way_new.refl _⟩; rfl) | (refine ⟨?_, way_grow.refl _⟩; rfl)
            try simp only [Act.put, List.setIfInBounds_toArray, List.set_cons_zero, List.set_cons_succ, List.getElem_toArray, List.getElem_cons_zero, List.getElem_cons_succ]
            refine Lex.want (v := ?_) (by rfl) (fun W hW => ?hd66) ?_
            case hd66 =>
              have hh := HF29.out W hW
              clear hW
              go_split_ands
              go_simp
              first | rfl | exact way_new.refl _ | exact way_grow.refl _ | (refine ⟨?_, way_new.refl _⟩; rfl) | (refine ⟨?_, way_grow.refl _⟩; rfl)
            try simp only [Act.put, List.setIfInBounds_toArray, List.set_cons_zero, List.set_cons_succ, List.getElem_toArray, List.getElem_cons_zero, List.getElem_cons_succ]
            refine Lex.want (v := ?_) (by rfl) (fun W hW => ?hd67) ?_
            case hd67 =>
              have hh := HF29.out W hW
              clear hW
              go_split_ands
              go_simp
              first | rfl | exact way_new.refl _ | exact way_grow.refl _ | (refine ⟨?_, way_new.refl _⟩; rfl) | (refine ⟨?_, way_grow.refl _⟩; rfl)
            try simp only [Act.put, List.setIfInBounds_toArray, List.set_cons_zero, List.set_cons_succ, List.getElem_toArray, List.getElem_cons_zero, List.getElem_cons_succ]
            refine Lex.want (v := ?_) (by rfl) (fun W hW => ?hd68) ?_
            case hd68 =>
              have hh := HF29.out W hW
              clear hW
              go_split_ands
              go_simp
              first | rfl | exact way_new.refl _ | exact way_grow.refl _ | (refine ⟨?_, way_new.refl _⟩; rfl) | (refine ⟨?_, way_grow.refl _⟩; rfl)
            try simp only [Act.put, List.setIfInBounds_toArray, List.set_cons_zero, List.set_cons_succ, List.getElem_toArray, List.getElem_cons_zero, List.getElem_cons_succ]
            refine Lex.want (v := ?_) (by rfl) (fun W hW => ?hd69) ?_
            case hd69 =>
              have hcc := hide (HIS.out k2 W (hb.out.trans (Below.mono hW hb.out.size)))
              go_simp
              exact hcc
            try simp only [Act.put, List.setIfInBounds_toArray, List.set_cons_zero, List.set_cons_succ, List.getElem_toArray, List.getElem_cons_zero, List.getElem_cons_succ]
            refine Lex.want (v := ?_) (by rfl) (fun W hW => ?hd70) ?_
            case hd70 =>
              have hh := HF29.out W hW
              clear hW
              go_split_ands
              go_simp
              first | rfl | exact way_new.refl _ | exact way_grow.refl _ | (refine ⟨?_, way_new.refl _⟩; rfl) | (refine ⟨?_, way_grow.refl _⟩; rfl)
            try simp only [Act.put, List.setIfInBounds_toArray, List.set_cons_zero, List.set_cons_succ, List.getElem_toArray, List.getElem_cons_zero, List.getElem_cons_succ]
            refine Lex.nil (hKT.out _ ?_)
            clear hKT KT
            refine Reg.done (by kernel_rfl) (fun W hW hWT => ⟨by kernel_rfl, ?_⟩)
            simp only [List.drop_succ_cons, List.drop_zero]
            have HL7 := hide (HST3.out.step (hb.out.trans (Below.mono hWT hb.out.size))).led
            go_wp2_with fail
            exact ⟨⟨k + 1, c', L', by omega, by omega, by go_num, rfl, hrun', HL7⟩, by simp [intOf]; omega⟩
      · go_wp2_with (go_at_call 23; refine (alive11_calls _).mono ?_; rintro e w2 ⟨rfl, hb4⟩; have HB4 := hide (hrel.out.step hb4).below; clear hb4)
        go_ret
        exact ⟨rfl, HB4.out⟩
end Go.Proofs.Ytmhmjbggjbeikaa
