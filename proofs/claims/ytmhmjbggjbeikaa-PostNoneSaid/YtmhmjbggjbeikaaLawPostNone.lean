/- PostNone: of a nil and of a zero ledger: the walk. -/
import Derived.Test.YtmhmjbggjbeikaaLight11
import Derived.Test.YtmhmjbggjbeikaaBlock
namespace Go.Proofs.Ytmhmjbggjbeikaa
set_option linter.unusedSimpArgs false
set_option linter.unusedVariables false
open Go.RowKit
attribute [local go_sem] objAt_alloc objAt_alloc_at objAt_drew objAt_drewN objAt_setCell comesTo_value comesTo_enter

namespace PNone
/-- A ledger that is none, wherever nothing of w has turned. -/
def Naught (w : World) (v : Value) : Prop := ∀ W, Below w.heap.size w W → Calls Try.prog 42 #[v] W fun e w' => e = .returned (.bool true) ∧ W = w'
theorem Naught.keep {w W : World} {v : Value} (h : Naught w v) (hb : Below w.heap.size w W) : Naught W v := fun W' hW => h W' (hb.trans (hW.mono hb.size))
theorem naught_nil (w : World) : Naught w (.pointer none) := fun W _ => none_nil W
theorem naught_zero {w : World} {g : Nat} (h : w.cell? ⟨g, 0, none⟩ = some (.pointer none)) (hg : g < w.heap.size) : Naught w (.pointer (some ⟨g, 0, none⟩)) := fun W hW => none_zero g W ((hW.cell (p := ⟨g, 0, none⟩) hg).trans h)

set_option maxHeartbeats 1000000 in
theorem block_none (v : Value) (k1 k2 : ByteArray) (on : Bool) (w : World) (h : Naught w v) : Calls Try.prog 31 #[v, .agg #[.string k1, .string k2], .bool on] w fun e w' => e = .returned (.tuple #[]) ∧ Below w.heap.size w w' := by
  have HN := hide (h _ ((Below.refl _ _).alloc (Nat.le_refl _) (.cells #[.string k1, .string k2] 24)))
  clear h
  go_enter Try.func31, Try.ntmps31
  go_wp2_with (go_at_call 42; refine HN.out.mono ?_; rintro e w' ⟨rfl, rfl⟩)
  refine bodyPost_ret (results_none rfl _ _ _) rfl ?_
  exact ⟨rfl, (Below.refl _ _).alloc (Nat.le_refl _) _⟩
set_option maxHeartbeats 1000000 in
theorem look_none (v : Value) (a : Option Addr) (n c : Nat) (w : World) (h : Naught w v) : Calls Try.prog 45 #[v, .slice a n c] w fun e w' => e = .returned (.tuple #[.slice none 0 0, .int .i64 1]) ∧ w = w' := by
  have HN := hide (h _ (Below.refl _ _))
  clear h
  go_enter Try.func45, Try.ntmps45
  go_wp2_with (go_at_call 42; refine HN.out.mono ?_; rintro e w' ⟨rfl, rfl⟩)
  go_ret2
  exact ⟨rfl, rfl⟩
set_option maxHeartbeats 1000000 in
theorem try_none (v : Value) (a : Option Addr) (n c : Nat) (w : World) (h : Naught w v) : Calls Try.prog 27 #[v, .slice a n c] w fun e w' => e = .returned (.int .i64 1) ∧ Below w.heap.size w w' := by
  have HN := hide (look_none v a n c w h)
  clear h
  go_enter Try.func27, Try.ntmps27
  go_wp2_with (go_at_call 45; refine HN.out.mono ?_; rintro e w' ⟨rfl, rfl⟩)
  go_ret
  exact ⟨rfl, Below.refl _ _⟩
set_option maxHeartbeats 1000000 in
theorem apply_none (v : Value) (a : Option Addr) (n c : Nat) (w : World) (h : Naught w v) : Calls Try.prog 29 #[v, .slice a n c] w fun e w' => e = .returned (.int .i64 1) ∧ Below w.heap.size w w' := by
  have HN := hide (look_none v a n c w h)
  clear h
  go_enter Try.func29, Try.ntmps29
  go_wp2_with (go_at_call 45; refine HN.out.mono ?_; rintro e w' ⟨rfl, rfl⟩)
  go_loopw [17] (fun i wr => i = .int .i64 0 ∧ w = wr) (fun i _ => 0)
  case atStart => exact ⟨rfl, rfl⟩
  case round =>
    obtain ⟨rfl, rfl⟩ := hrel
    go_wp2_with fail
    go_ret
    exact ⟨rfl, Below.refl _ _⟩
set_option maxHeartbeats 1000000 in
theorem issue_none0 (v : Value) (k1 k2 : ByteArray) (by_ : Int) (w : World) (h : Naught w v) : Calls Try.prog 25 #[v, .agg #[.string k1, .string k2], .int .i64 by_] w fun e w' => e = .returned (.int .i64 1) ∧ Below w.heap.size w w' := by
  have HN := hide (h _ ((Below.refl _ _).alloc (Nat.le_refl _) (.cells #[.string k1, .string k2] 24)))
  clear h
  go_enter Try.func25, Try.ntmps25
  go_wp2_with (go_at_call 42; refine HN.out.mono ?_; rintro e w' ⟨rfl, rfl⟩)
  go_ret
  exact ⟨rfl, (Below.refl _ _).alloc (Nat.le_refl _) _⟩
set_option maxHeartbeats 1000000 in
theorem issued_none (v : Value) (a : ByteArray) (w : World) (h : Naught w v) : Calls Try.prog 32 #[v, .string a] w fun e w' => e = .returned (.int .i64 0) ∧ Below w.heap.size w w' := by
  have HN := hide (h _ (Below.refl _ _))
  clear h
  go_enter Try.func32, Try.ntmps32
  go_wp2_with (go_at_call 42; refine HN.out.mono ?_; rintro e w' ⟨rfl, rfl⟩)
  go_ret
  exact ⟨rfl, Below.refl _ _⟩
set_option maxHeartbeats 1000000 in
theorem blocks_none (v : Value) (w : World) (h : Naught w v) : Calls Try.prog 35 #[v] w fun e w' => e = .returned (.slice none 0 0) ∧ Below w.heap.size w w' := by
  have HN := hide (h _ (Below.refl _ _))
  clear h
  go_enter Try.func35, Try.ntmps35
  go_wp2_with (go_at_call 42; refine HN.out.mono ?_; rintro e w' ⟨rfl, rfl⟩)
  go_ret
  exact ⟨rfl, Below.refl _ _⟩
set_option maxHeartbeats 1000000 in
theorem blocked_none (v : Value) (k1 k2 : ByteArray) (w : World) (h : Naught w v) : Calls Try.prog 34 #[v, .agg #[.string k1, .string k2]] w fun e w' => e = .returned (.bool false) ∧ Below w.heap.size w w' := by
  have HN := hide (h _ ((Below.refl _ _).alloc (Nat.le_refl _) (.cells #[.string k1, .string k2] 24)))
  clear h
  go_enter Try.func34, Try.ntmps34
  go_wp2_with (go_at_call 42; refine HN.out.mono ?_; rintro e w' ⟨rfl, rfl⟩)
  go_ret
  exact ⟨rfl, (Below.refl _ _).alloc (Nat.le_refl _) _⟩

/-- The state behind the zero ledger's making: the box of o, and the two ledgers. -/
def NSt (w : World) (s z : Nat) (kd nn : Int) (k1 k2 : ByteArray) (sl : Value) (W : World) : Prop :=
  Below w.heap.size w W ∧ W.heap[s]? = some (.cells #[.int .i64 kd, .int .i64 nn, .string k1, .string k2, sl] 61 (0, 0)) ∧ Naught W (.pointer (some ⟨z, 0, none⟩))
section
variable {w W W' : World} {s z : Nat} {kd nn : Int} {k1 k2 : ByteArray} {sl : Value}
theorem NSt.step (h : NSt w s z kd nn k1 k2 sl W) (hb : Below W.heap.size W W') : NSt w s z kd nn k1 k2 sl W' := by
  obtain ⟨h1, h2, h3⟩ := h
  exact ⟨h1.trans (hb.mono h1.size), (hb.block _ (Array.getElem?_eq_some_iff.1 h2).1).trans h2, h3.keep hb⟩
theorem NSt.naught (h : NSt w s z kd nn k1 k2 sl W) : Naught W (.pointer (some ⟨z, 0, none⟩)) := h.2.2
theorem NSt.facts (h : NSt w s z kd nn k1 k2 sl W) : W.cell? ⟨s, 1, none⟩ = some (.int .i64 nn) ∧ W.cell? ⟨s, 2, none⟩ = some (.string k1) ∧ W.cell? ⟨s, 3, none⟩ = some (.string k2) ∧ W.cell? ⟨s, 4, none⟩ = some sl := by
  obtain ⟨_, h2, _⟩ := h
  exact ⟨by simp [World.cell?, h2], by simp [World.cell?, h2], by simp [World.cell?, h2], by simp [World.cell?, h2]⟩
end

set_option maxHeartbeats 8000000 in
set_option maxRecDepth 100000 in
theorem postNone_cells (o : POp11) (w : World) (h : wfOp11 w o) :
    Calls Try.prog 13 #[.agg #[.int .i64 o.kind, .int .i64 o.n, .string o.k.1, .string o.k.2, .slice o.a o.len o.cap]] w fun e w' => e = .returned (.bool true) ∧ Below w.heap.size w w' := by
  obtain ⟨w1, w2, w3, w4, w5, w6, w7, w8, w9⟩ := h
  have hlen : o.len ≤ 9223372036854775807 := by unfold maxLen at w7; omega
  have HAL : Hid (∀ W, Below w.heap.size w W → Calls Try.prog 23 #[] W fun e w' => e = .returned (.bool true) ∧ Below w.heap.size w w') := hide fun W hW => (alive11_calls W).mono fun e w' ⟨h1, h2⟩ => ⟨h1, hW.trans (h2.mono hW.size)⟩
  have HLI : Hid (∀ c, Calls Try.prog 28 #[.slice (some ⟨w.heap.size + 1, 0, none⟩) 1 c] ((w.alloc (.cells #[.int .i64 o.kind, .int .i64 o.n, .string o.k.1, .string o.k.2, .slice o.a o.len o.cap] 61)).alloc (.cells #[.int .i64 o.kind, .int .i64 o.n, .string o.k.1, .string o.k.2, .slice o.a o.len o.cap] 61)) fun e w' => ∃ b : Bool, e = .returned (.bool b) ∧
      Below (w.heap.size + 2) ((w.alloc (.cells #[.int .i64 o.kind, .int .i64 o.n, .string o.k.1, .string o.k.2, .slice o.a o.len o.cap] 61)).alloc (.cells #[.int .i64 o.kind, .int .i64 o.n, .string o.k.1, .string o.k.2, .slice o.a o.len o.cap] 61)) w') := hide fun c => by
    refine (light_calls (some ⟨w.heap.size + 1, 0, none⟩) 1 c [o] _ rfl (by unfold maxLen; omega) (fun i x hx => ?_) (fun x hx => by simp at hx; subst hx; omega)).mono fun e w' ⟨b, h1, _, h3⟩ => ⟨b, h1, by simpa using h3⟩
    have hi : i = 0 ∧ o = x := by
      cases i with
      | zero => simpa using hx
      | succ i => simp at hx
    obtain ⟨rfl, rfl⟩ := hi
    refine ⟨w.heap.size + 1, 0, rfl, by simp, fun j u hj hu => ?_⟩
    have hcell := heap_alloc_new (w.alloc (.cells #[.int .i64 o.kind, .int .i64 o.n, .string o.k.1, .string o.k.2, .slice o.a o.len o.cap] 61)) (.cells #[.int .i64 o.kind, .int .i64 o.n, .string o.k.1, .string o.k.2, .slice o.a o.len o.cap] 61)
    have := World.news_of_block hcell j u (by simpa [opCells] using hu)
    simpa [Addr.add_lit] using this
  clear w1 w2 w3 w4 w5 w6 w7 w8 w9
  obtain ⟨kd, nn, ⟨k1, k2⟩, oa, ol, oc, oP⟩ := o
  simp only at *
  have hb2 : Below w.heap.size w ((w.alloc (.cells #[.int .i64 kd, .int .i64 nn, .string k1, .string k2, .slice oa ol oc] 61)).alloc (.cells #[.int .i64 kd, .int .i64 nn, .string k1, .string k2, .slice oa ol oc] 61)) := ((Below.refl _ _).alloc (Nat.le_refl _) _).alloc (by simp) _
  have hbox : ((w.alloc (.cells #[.int .i64 kd, .int .i64 nn, .string k1, .string k2, .slice oa ol oc] 61)).alloc (.cells #[.int .i64 kd, .int .i64 nn, .string k1, .string k2, .slice oa ol oc] 61)).heap[w.heap.size]? = some (.cells #[.int .i64 kd, .int .i64 nn, .string k1, .string k2, .slice oa ol oc] 61 (0, 0)) := (Below.heap_alloc _ _ _ (by simp)).trans (heap_alloc_new w _)
  have hsz2 : ((w.alloc (.cells #[.int .i64 kd, .int .i64 nn, .string k1, .string k2, .slice oa ol oc] 61)).alloc (.cells #[.int .i64 kd, .int .i64 nn, .string k1, .string k2, .slice oa ol oc] 61)).heap.size = w.heap.size + 2 := by simp
  have HB2 := hide hb2
  have HBOX := hide hbox
  have HSZ2 := hide hsz2
  clear hb2 hbox hsz2
  go_enter Try.func13, Try.ntmps13
  go_wp2_with (go_at_call 28; refine Hid.out ?_)
  refine hide ?_
  generalize (w.alloc (.cells #[.int .i64 kd, .int .i64 nn, .string k1, .string k2, .slice oa ol oc] 61)).alloc (.cells #[.int .i64 kd, .int .i64 nn, .string k1, .string k2, .slice oa ol oc] 61) = W2 at *
  refine (HLI.out _).mono ?_
  rintro e w3 ⟨b, rfl, hb3⟩
  have hbel3 : Below w.heap.size w w3 := HB2.out.trans (hb3.mono (by omega))
  have hbox3 := (hb3.block w.heap.size (by omega)).trans HBOX.out
  have hs3 : w.heap.size < w3.heap.size := (Array.getElem?_eq_some_iff.1 hbox3).1
  have hc4 : w3.cell? ⟨w.heap.size, 4, none⟩ = some (.slice oa ol oc) := by simp [World.cell?, hbox3]
  have HB3 := hide hbel3
  have HBOX3 := hide hbox3
  clear hb3 hbel3 hbox3
  cases b with
  | false =>
    go_wp2_with (go_at_call 23; refine (HAL.out _ HB3.out).mono ?_; rintro e w4 ⟨rfl, hb4⟩; have HB4 := hide hb4; clear hb4)
    go_ret
    exact ⟨rfl, HB4.out⟩
  | true =>
    by_cases h0 : ol = 0
    · subst h0
      go_wp2_with (go_at_call 23; refine (HAL.out _ HB3.out).mono ?_; rintro e w4 ⟨rfl, hb4⟩; have HB4 := hide hb4; clear hb4)
      go_ret
      exact ⟨rfl, HB4.out⟩
    · have hne : ((ol : Int) == 0) = false := by simpa using h0
      have HST : Hid (NSt w w.heap.size w3.heap.size kd nn k1 k2 (.slice oa ol oc) (w3.alloc (.cells #[.pointer none, .map none, .map none] 56))) := hide
        ⟨HB3.out.alloc (Nat.le_of_lt hs3) _, (Below.heap_alloc _ _ _ hs3).trans HBOX3.out, naught_zero (by simp) (by simp)⟩
      obtain ⟨x1, x2, x3, x4⟩ := HST.out.facts
      clear h0
      go_wp2_with first
        | (go_at_call 31; (with_reducible refine (block_none (.pointer none) _ _ _ _ (naught_nil _)).mono ?_); rintro e w' ⟨rfl, hb⟩; replace HST := hide (NSt.step HST.out hb); clear hb x1 x2 x3 x4; obtain ⟨x1, x2, x3, x4⟩ := HST.out.facts)
        | (go_at_call 31; (with_reducible refine (block_none (.pointer (some ⟨w3.heap.size, 0, none⟩)) _ _ _ _ HST.out.naught).mono ?_); rintro e w' ⟨rfl, hb⟩; replace HST := hide (NSt.step HST.out hb); clear hb x1 x2 x3 x4; obtain ⟨x1, x2, x3, x4⟩ := HST.out.facts)
        | (go_at_call 29; (with_reducible refine (apply_none (.pointer none) _ _ _ _ (naught_nil _)).mono ?_); rintro e w' ⟨rfl, hb⟩; replace HST := hide (NSt.step HST.out hb); clear hb x1 x2 x3 x4; obtain ⟨x1, x2, x3, x4⟩ := HST.out.facts)
        | (go_at_call 29; (with_reducible refine (apply_none (.pointer (some ⟨w3.heap.size, 0, none⟩)) _ _ _ _ HST.out.naught).mono ?_); rintro e w' ⟨rfl, hb⟩; replace HST := hide (NSt.step HST.out hb); clear hb x1 x2 x3 x4; obtain ⟨x1, x2, x3, x4⟩ := HST.out.facts)
        | (go_at_call 27; (with_reducible refine (try_none (.pointer none) _ _ _ _ (naught_nil _)).mono ?_); rintro e w' ⟨rfl, hb⟩; replace HST := hide (NSt.step HST.out hb); clear hb x1 x2 x3 x4; obtain ⟨x1, x2, x3, x4⟩ := HST.out.facts)
        | (go_at_call 27; (with_reducible refine (try_none (.pointer (some ⟨w3.heap.size, 0, none⟩)) _ _ _ _ HST.out.naught).mono ?_); rintro e w' ⟨rfl, hb⟩; replace HST := hide (NSt.step HST.out hb); clear hb x1 x2 x3 x4; obtain ⟨x1, x2, x3, x4⟩ := HST.out.facts)
        | (go_at_call 25; (with_reducible refine (issue_none0 (.pointer none) _ _ _ _ (naught_nil _)).mono ?_); rintro e w' ⟨rfl, hb⟩; replace HST := hide (NSt.step HST.out hb); clear hb x1 x2 x3 x4; obtain ⟨x1, x2, x3, x4⟩ := HST.out.facts)
        | (go_at_call 25; (with_reducible refine (issue_none0 (.pointer (some ⟨w3.heap.size, 0, none⟩)) _ _ _ _ HST.out.naught).mono ?_); rintro e w' ⟨rfl, hb⟩; replace HST := hide (NSt.step HST.out hb); clear hb x1 x2 x3 x4; obtain ⟨x1, x2, x3, x4⟩ := HST.out.facts)
        | (go_at_call 32; (with_reducible refine (issued_none (.pointer none) _ _ (naught_nil _)).mono ?_); rintro e w' ⟨rfl, hb⟩; replace HST := hide (NSt.step HST.out hb); clear hb x1 x2 x3 x4; obtain ⟨x1, x2, x3, x4⟩ := HST.out.facts)
        | (go_at_call 32; (with_reducible refine (issued_none (.pointer (some ⟨w3.heap.size, 0, none⟩)) _ _ HST.out.naught).mono ?_); rintro e w' ⟨rfl, hb⟩; replace HST := hide (NSt.step HST.out hb); clear hb x1 x2 x3 x4; obtain ⟨x1, x2, x3, x4⟩ := HST.out.facts)
        | (go_at_call 35; (with_reducible refine (blocks_none (.pointer none) _ (naught_nil _)).mono ?_); rintro e w' ⟨rfl, hb⟩; replace HST := hide (NSt.step HST.out hb); clear hb x1 x2 x3 x4; obtain ⟨x1, x2, x3, x4⟩ := HST.out.facts)
        | (go_at_call 35; (with_reducible refine (blocks_none (.pointer (some ⟨w3.heap.size, 0, none⟩)) _ HST.out.naught).mono ?_); rintro e w' ⟨rfl, hb⟩; replace HST := hide (NSt.step HST.out hb); clear hb x1 x2 x3 x4; obtain ⟨x1, x2, x3, x4⟩ := HST.out.facts)
        | (go_at_call 34; (with_reducible refine (blocked_none (.pointer none) _ _ _ (naught_nil _)).mono ?_); rintro e w' ⟨rfl, hb⟩; replace HST := hide (NSt.step HST.out hb); clear hb x1 x2 x3 x4; obtain ⟨x1, x2, x3, x4⟩ := HST.out.facts)
        | (go_at_call 34; (with_reducible refine (blocked_none (.pointer (some ⟨w3.heap.size, 0, none⟩)) _ _ _ HST.out.naught).mono ?_); rintro e w' ⟨rfl, hb⟩; replace HST := hide (NSt.step HST.out hb); clear hb x1 x2 x3 x4; obtain ⟨x1, x2, x3, x4⟩ := HST.out.facts)
        | (go_at_call 23; (with_reducible refine (alive11_calls _).mono ?_); rintro e w' ⟨rfl, hb⟩; replace HST := hide (NSt.step HST.out hb); clear hb x1 x2 x3 x4; obtain ⟨x1, x2, x3, x4⟩ := HST.out.facts)
      go_ret
      exact ⟨rfl, HST.out.1⟩
end PNone
theorem postNone_walk (o : POp11) (w : World) (h : wfOp11 w o) :
    Calls Try.prog 13 #[.agg #[.int .i64 o.kind, .int .i64 o.n, .string o.k.1, .string o.k.2, .slice o.a o.len o.cap]] w fun e w' => e = .returned (.bool true) ∧ Below w.heap.size w w' := PNone.postNone_cells o w h
end Go.Proofs.Ytmhmjbggjbeikaa
