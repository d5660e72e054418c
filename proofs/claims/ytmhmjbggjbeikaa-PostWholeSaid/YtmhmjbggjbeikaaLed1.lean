/- The ledger in memory; its maps, looked up. -/
import Derived.Test.YtmhmjbggjbeikaaOwn
namespace Go.Proofs.Ytmhmjbggjbeikaa
set_option linter.unusedSimpArgs false
set_option linter.unusedVariables false
open Go.RowKit

def estr (s : ByteArray) : Value := .string s
def eint (n : Int) : Value := .int .i64 n
def eunit (_ : Unit) : Value := .agg #[]

theorem estr_inj {x y : ByteArray} (h : estr x = estr y) : x = y := by simpa [estr] using h
theorem str_check (w : World) (em : Bool) (x : ByteArray) : (Instr.checkKey em 10000 9 (estr x)).run Try.prog w = .ok () w := by
  rw [Instr.checkKey]
  simp [run_underlying Try.underlying9, estr]
theorem strT : KeyT Try.prog 9 estr :=
  KeyT.of_now Try.underlying9 (fun x y => by simp only [estr, Instr.sameNow, beq_toListBytes, bytes_beq_decide]) estr_inj str_check (fun x => by simp [estr, Instr.sameBits, bytes_beq_self])

/-- A map that may be nil. -/
def MapO {κ ν : Type} (ek : κ → Value) (ev : ν → Value) (w : World) (o : Option Nat) (l : List (κ × ν)) : Prop :=
  (o = none ∧ l = []) ∨ ∃ b, o = some b ∧ MapB ek ev w b l

section
variable {κ ν : Type} {ek : κ → Value} {ev : ν → Value} {w w' : World} {o : Option Nat} {l : List (κ × ν)}
theorem MapO.apart (h : MapO ek ev w o l) : Apart l := by
  rcases h with ⟨_, rfl⟩ | ⟨b, _, h⟩
  · exact apart_nil
  · exact h.apart
theorem MapO.frm {S : Nat → Prop} (h : MapO ek ev w o l) (hf : Frm S w w') (hn : ∀ b, o = some b → ¬ S b) : MapO ek ev w' o l := by
  rcases h with h | ⟨b, rfl, h⟩
  · exact .inl h
  · exact .inr ⟨b, rfl, h.frm hf (hn b rfl)⟩
end

/-- What a ledger holds. -/
structure Led where
  m : List (Key × Three)
  iss : List (ByteArray × Int)
  blk : List (Key × Unit)

/-- Block g of w is a ledger that holds L; its blocks are those of F. -/
def LedAt (w : World) (g p : Nat) (F : Nat → Prop) (L : Led) : Prop :=
  ∃ (Fp : Nat → Prop) (im bm : Option Nat), w.heap[g]? = some (.cells #[.pointer (some ⟨p, 0, none⟩), .map im, .map bm] 56 (0, 0)) ∧ PosAt w p Fp L.m ∧
    MapO estr eint w im L.iss ∧ MapO ekey eunit w bm L.blk ∧ F g ∧ (∀ j, Fp j → F j) ∧ (∀ j, im = some j → F j) ∧ (∀ j, bm = some j → F j) ∧ (∀ j, F j → j < w.heap.size) ∧
    ¬ Fp g ∧ (∀ j, im = some j → j ≠ g ∧ ¬ Fp j) ∧ (∀ j, bm = some j → j ≠ g ∧ ¬ Fp j ∧ im ≠ some j)

theorem LedAt.frm {w w' : World} {g p : Nat} {F S : Nat → Prop} {L : Led} (h : LedAt w g p F L) (hf : Frm S w w') (hs : ∀ j, F j → ¬ S j) : LedAt w' g p F L := by
  obtain ⟨Fp, im, bm, h1, h2, h3, h4, h5, h6, h7, h8, h9, h10⟩ := h
  exact ⟨Fp, im, bm, (hf.block g (h9 g h5) (hs g h5)).trans h1, h2.frm hf (fun j hj => hs j (h6 j hj)), h3.frm hf (fun b hb => hs b (h7 b hb)), h4.frm hf (fun b hb => hs b (h8 b hb)), h5, h6, h7, h8, fun j hj => Nat.lt_of_lt_of_le (h9 j hj) hf.size, h10⟩
theorem LedAt.below {w w' : World} {g p : Nat} {F : Nat → Prop} {L : Led} (h : LedAt w g p F L) (hb : Below w.heap.size w w') : LedAt w' g p F L :=
  h.frm (Frm.of_below (S := None) hb) (fun _ _ => id)

/-- The three cells of a ledger. -/
theorem led_cells {w : World} {g p : Nat} {im bm : Option Nat} {t : TypeId} (h : w.heap[g]? = some (.cells #[.pointer (some ⟨p, 0, none⟩), .map im, .map bm] t (0, 0))) :
    w.cell? ⟨g, 0, none⟩ = some (.pointer (some ⟨p, 0, none⟩)) ∧ w.cell? ⟨g, 1, none⟩ = some (.map im) ∧ w.cell? ⟨g, 2, none⟩ = some (.map bm) ∧
    w.frozen? ⟨g, 0, none⟩ = false ∧ w.frozen? ⟨g, 1, none⟩ = false ∧ w.frozen? ⟨g, 2, none⟩ = false := by
  refine ⟨?_, ?_, ?_, ?_, ?_, ?_⟩ <;> simp [World.cell?, World.frozen?, h]

/-- What was issued of an asset; whether a key is blocked. -/
def issOf (l : List (ByteArray × Int)) (a : ByteArray) : Int := (look l a).getD 0
def isBlk (l : List (Key × Unit)) (k : Key) : Bool := (look l k).isSome

theorem run_zeroInt (w : World) : (zeroValue 3).run Try.prog w = .ok (.int .i64 0) w := by kernel_rfl
theorem run_zeroUnit (w : World) : (zeroValue 95).run Try.prog w = .ok (.agg #[]) w := by kernel_rfl

theorem iss_look {w : World} {o : Option Nat} {l : List (ByteArray × Int)} (h : MapO estr eint w o l) (a : ByteArray) :
    ∀ W : World, (∀ b, o = some b → objAt W b = objAt w b) → (Instr.lookup 53 (.map o) (.string a) false).run Try.prog W = .ok (.int .i64 (issOf l a)) W := fun W hW => by
  rcases h with ⟨rfl, rfl⟩ | ⟨b, rfl, h⟩
  · exact nil_lookup (P := Try.prog) strT Try.underlying53 (run_zeroInt W) false a
  · have := (h.keep (hW b rfl)).lookup (P := Try.prog) strT Try.underlying53 (run_zeroInt W) false a
    refine this.trans ?_
    unfold issOf
    cases look l a <;> rfl
theorem blk_look {w : World} {o : Option Nat} {l : List (Key × Unit)} (h : MapO ekey eunit w o l) (k : Key) :
    ∀ W : World, (∀ b, o = some b → objAt W b = objAt w b) → (Instr.lookup 54 (.map o) (.agg #[.string k.1, .string k.2]) true).run Try.prog W = .ok (.tuple #[.agg #[], .bool (isBlk l k)]) W := fun W hW => by
  rcases h with ⟨rfl, rfl⟩ | ⟨b, rfl, h⟩
  · exact nil_lookup (P := Try.prog) keyT Try.underlying54 (run_zeroUnit W) true k
  · have := (h.keep (hW b rfl)).lookup (P := Try.prog) keyT Try.underlying54 (run_zeroUnit W) true k
    refine this.trans ?_
    unfold isBlk
    cases look l k <;> rfl

set_option maxHeartbeats 1000000 in
theorem issued_walk (g p : Nat) (im : Option Nat) (a : ByteArray) (n : Int) (w : World) (h0 : w.cell? ⟨g, 0, none⟩ = some (.pointer (some ⟨p, 0, none⟩))) (h1 : w.cell? ⟨g, 1, none⟩ = some (.map im))
    (hl : (Instr.lookup 53 (.map im) (.string a) false).run Try.prog w = .ok (.int .i64 n) w) :
    Calls Try.prog 32 #[.pointer (some ⟨g, 0, none⟩), .string a] w fun e w' => e = .returned (.int .i64 n) ∧ w = w' := by
  go_enter Try.func32, Try.ntmps32
  go_wp2_with (go_at_call 42; refine (none_no g p _ h0).mono ?_; rintro e w' ⟨rfl, rfl⟩)
  go_ret
  exact ⟨rfl, rfl⟩
/-- (*Ledger).Issued. -/
theorem issued_calls (g p : Nat) (F : Nat → Prop) (L : Led) (a : ByteArray) (w : World) (h : LedAt w g p F L) :
    Calls Try.prog 32 #[.pointer (some ⟨g, 0, none⟩), .string a] w fun e w' => e = .returned (.int .i64 (issOf L.iss a)) ∧ w = w' := by
  obtain ⟨Fp, im, bm, h1, _, h3, _⟩ := h
  obtain ⟨c0, c1, _⟩ := led_cells h1
  exact issued_walk g p im a _ w c0 c1 (iss_look h3 a w (fun _ _ => rfl))

attribute [local go_sem] objAt_alloc objAt_alloc_at objAt_drew objAt_drewN objAt_setCell
set_option maxHeartbeats 1000000 in
theorem blocked_walk (g p b : Nat) (bm : Option Nat) (k1 k2 : ByteArray) (n : Bool) (w : World) (hg : g < w.heap.size) (hb : b < w.heap.size) (h0 : w.cell? ⟨g, 0, none⟩ = some (.pointer (some ⟨p, 0, none⟩))) (h2 : w.cell? ⟨g, 2, none⟩ = some (.map bm))
    (hl : ∀ W : World, objAt W b = objAt w b → (Instr.lookup 54 (.map bm) (.agg #[.string k1, .string k2]) true).run Try.prog W = .ok (.tuple #[.agg #[], .bool n]) W) :
    Calls Try.prog 34 #[.pointer (some ⟨g, 0, none⟩), .agg #[.string k1, .string k2]] w fun e w' => e = .returned (.bool n) ∧ Below w.heap.size w w' := by
  have hb1 : b < w.heap.size + 1 := by omega
  go_enter Try.func34, Try.ntmps34
  go_wp2_with (go_at_call 42; refine (none_no g p _ (by go_simp)).mono ?_; rintro e w' ⟨rfl, rfl⟩)
  go_region
  all_goals go_wp2
  all_goals go_ret
  all_goals exact ⟨rfl, by first | exact (((Below.refl _ _).alloc (Nat.le_refl _) _).alloc (by simp) _).drew | exact (((Below.refl _ _).alloc (Nat.le_refl _) _).drew.alloc (by simp) _)⟩
/-- A block that stands for a map that may be nil. -/
theorem MapO.block {κ ν : Type} {ek : κ → Value} {ev : ν → Value} {w : World} {o : Option Nat} {l : List (κ × ν)} (h : MapO ek ev w o l) {g : Nat} (hg : g < w.heap.size) :
    ∃ b, b < w.heap.size ∧ ∀ W : World, objAt W b = objAt w b → ∀ j, o = some j → objAt W j = objAt w j := by
  rcases h with ⟨rfl, _⟩ | ⟨b, rfl, h⟩
  · exact ⟨g, hg, fun W _ j hj => by cases hj⟩
  · exact ⟨b, h.lt, fun W hW j hj => by cases hj; exact hW⟩
/-- (*Ledger).Blocked. -/
theorem blocked_calls (g p : Nat) (F : Nat → Prop) (L : Led) (k1 k2 : ByteArray) (w : World) (h : LedAt w g p F L) :
    Calls Try.prog 34 #[.pointer (some ⟨g, 0, none⟩), .agg #[.string k1, .string k2]] w fun e w' => e = .returned (.bool (isBlk L.blk (k1, k2))) ∧ Below w.heap.size w w' := by
  obtain ⟨Fp, im, bm, h1, _, _, h4, h5, _, _, _, h9, _⟩ := h
  obtain ⟨c0, _, c2, _⟩ := led_cells h1
  obtain ⟨b, hb, hs⟩ := h4.block (h9 g h5)
  exact blocked_walk g p b bm k1 k2 _ w (h9 g h5) hb c0 c2 (fun W hW => blk_look h4 (k1, k2) W (hs W hW))
end Go.Proofs.Ytmhmjbggjbeikaa
