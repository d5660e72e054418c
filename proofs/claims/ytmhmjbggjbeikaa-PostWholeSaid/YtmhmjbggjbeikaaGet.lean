/- (*Pos).Get, Part. -/
import Derived.Test.YtmhmjbggjbeikaaPos2
import Derived.Deep.QuietTactic
import Derived.BigQuiet
namespace Go.Proofs.Ytmhmjbggjbeikaa
open Go.RowKit
attribute [local go_sem] objAt_alloc objAt_alloc_at objAt_drew objAt_drewN objAt_setCell

set_option maxHeartbeats 400000 in
theorem get_nil (k : Key) (w : World) :
    Calls Try.prog 17 #[.pointer none, ekey k] w fun e w' => e = .returned (eval3 (0, 0, 0)) ∧ Below w.heap.size w w' := by
  unfold ekey
  go_enter Try.func17, Try.ntmps17
  go_wp2
  exact bodyPost_ret (v := eval3 (0, 0, 0)) (by simp [results, Try.results17, go_sem, eval3]) rfl ⟨rfl, (((Below.refl _ _).alloc (Nat.le_refl _) _).alloc (by simp) _)⟩

set_option maxHeartbeats 400000 in
theorem get_walk (p b : Nat) (mv : Value) (k1 k2 : ByteArray) (x y z : Int) (w : World) (hp : w.cell? ⟨p, 0, none⟩ = some mv) (hpl : p < w.heap.size) (hbl : b < w.heap.size)
    (hlook : ∀ W : World, objAt W b = objAt w b → (Instr.lookup 72 mv (.agg #[.string k1, .string k2]) false).run Try.prog W = .ok (.agg #[.int .i64 x, .int .i64 y, .int .i64 z]) W) :
    Calls Try.prog 17 #[.pointer (some ⟨p, 0, none⟩), .agg #[.string k1, .string k2]] w fun e w' => e = .returned (.agg #[.int .i64 x, .int .i64 y, .int .i64 z]) ∧ Below w.heap.size w w' := by
  have p1 : p < w.heap.size + 1 := by omega
  have p2 : p < w.heap.size + 1 + 1 := by omega
  have b1 : b < w.heap.size + 1 := by omega
  have b2 : b < w.heap.size + 1 + 1 := by omega
  go_enter Try.func17, Try.ntmps17
  go_wp2
  go_region
  all_goals go_wp2
  exact bodyPost_ret (v := .agg #[.int .i64 x, .int .i64 y, .int .i64 z]) (by simp [results, Try.results17, go_sem]) rfl ⟨rfl, ((((Below.refl _ _).alloc (Nat.le_refl _) _).alloc (by simp) _).alloc (by simp; omega) _).drew⟩

/-- What the walk of a method that looks a key up wants to know of a Pos. -/
theorem PosAt.lookup {w : World} {p : Nat} {F : Nat → Prop} {m : List (Key × Three)} (h : PosAt w p F m) (k : Key) :
    ∃ mv b, b < w.heap.size ∧ p < w.heap.size ∧ w.cell? ⟨p, 0, none⟩ = some mv ∧ ∀ W : World, objAt W b = objAt w b → (Instr.lookup 72 mv (ekey k) false).run Try.prog W = .ok (eval3 (posGet m k)) W := by
  obtain ⟨hF, hlt, hg, hcase⟩ := h
  rcases hcase with ⟨h5, rfl⟩ | ⟨b, hbp, hb2, hb3, hb4⟩
  · exact ⟨.map none, p, hlt p hF, hlt p hF, (cell_of_obj h5).1, fun W _ => pos_look_nil k W⟩
  · exact ⟨.map (some b), b, hlt b hb2, hlt p hF, (cell_of_obj hb3).1, pos_look hb4 k⟩

/-- (*Pos).Get. -/
theorem get_calls (p : Nat) (F : Nat → Prop) (m : List (Key × Three)) (k : Key) (w : World) (h : PosAt w p F m) :
    Calls Try.prog 17 #[.pointer (some ⟨p, 0, none⟩), ekey k] w fun e w' => e = .returned (eval3 (posGet m k)) ∧ Below w.heap.size w w' := by
  obtain ⟨mv, b, hb, hpl, hcell, hlook⟩ := h.lookup k
  exact get_walk p b mv k.1 k.2 _ _ _ w hcell hpl hb hlook

set_option maxHeartbeats 400000 in
theorem part_no (p : Option Addr) (k : Key) (sub : Int) (w : World) (h : p = none ∨ ¬ isPart sub) :
    Calls Try.prog 19 #[.pointer p, ekey k, .int .i64 sub] w fun e w' => e = .returned (.int .i64 0) ∧ Below w.heap.size w w' := by
  unfold ekey
  cases p with
  | none =>
    clear h
    go_enter Try.func19, Try.ntmps19
    go_wp2
    go_ret
    exact ⟨rfl, (Below.refl _ _).alloc (Nat.le_refl _) _⟩
  | some p =>
    have h1 : ¬ isPart sub := h.resolve_left (by simp)
    have H1 := fun W => isPart_no sub W h1
    clear h h1
    go_enter Try.func19, Try.ntmps19
    go_wp2_with (go_at_call 36; refine (H1 _).mono ?_; rintro e w' ⟨rfl, rfl⟩)
    go_ret
    exact ⟨rfl, (Below.refl _ _).alloc (Nat.le_refl _) _⟩

set_option maxHeartbeats 1000000 in
theorem part_walk (p b : Nat) (mv : Value) (k1 k2 : ByteArray) (x y z : Int) (sub : Int) (w : World) (hp : w.cell? ⟨p, 0, none⟩ = some mv) (hpl : p < w.heap.size) (hbl : b < w.heap.size)
    (hlook : ∀ W : World, objAt W b = objAt w b → (Instr.lookup 72 mv (.agg #[.string k1, .string k2]) false).run Try.prog W = .ok (.agg #[.int .i64 x, .int .i64 y, .int .i64 z]) W) (h1 : isPart sub) :
    Calls Try.prog 19 #[.pointer (some ⟨p, 0, none⟩), .agg #[.string k1, .string k2], .int .i64 sub] w fun e w' => e = .returned (.int .i64 (part3 (x, y, z) sub)) ∧ Below w.heap.size w w' := by
  have p1 : p < w.heap.size + 1 := by omega
  have b1 : b < w.heap.size + 1 := by omega
  have hi0 : ∀ W, (Instr.index 76 (.agg #[.int .i64 x, .int .i64 y, .int .i64 z]) (.int .i64 0)).run Try.prog W = .ok (.int .i64 x) W := fun _ => by kernel_rfl
  have hi1 : ∀ W, (Instr.index 76 (.agg #[.int .i64 x, .int .i64 y, .int .i64 z]) (.int .i64 1)).run Try.prog W = .ok (.int .i64 y) W := fun _ => by kernel_rfl
  have hi2 : ∀ W, (Instr.index 76 (.agg #[.int .i64 x, .int .i64 y, .int .i64 z]) (.int .i64 2)).run Try.prog W = .ok (.int .i64 z) W := fun _ => by kernel_rfl
  have H1 := fun W => isPart_yes sub W h1
  have hs : sub = 0 ∨ sub = 1 ∨ sub = 2 := by unfold isPart at h1; omega
  clear h1
  rcases hs with rfl | rfl | rfl
  all_goals
    go_enter Try.func19, Try.ntmps19
    go_wp2_with (go_at_call 36; refine (H1 _).mono ?_; rintro e w' ⟨rfl, rfl⟩)
    go_region
    all_goals go_wp2
    go_ret
    exact ⟨rfl, ((Below.refl _ _).alloc (Nat.le_refl _) _).drew⟩

/-- What Part tells. -/
def posPart (m : List (Key × Three)) (k : Key) (sub : Int) : Int := if isPart sub then part3 (posGet m k) sub else 0
/-- (*Pos).Part. -/
theorem part_calls (p : Nat) (F : Nat → Prop) (m : List (Key × Three)) (k : Key) (sub : Int) (w : World) (h : PosAt w p F m) :
    Calls Try.prog 19 #[.pointer (some ⟨p, 0, none⟩), ekey k, .int .i64 sub] w fun e w' => e = .returned (.int .i64 (posPart m k sub)) ∧ Below w.heap.size w w' := by
  unfold posPart
  by_cases h1 : isPart sub
  · rw [if_pos h1]
    obtain ⟨mv, b, hb, hpl, hcell, hlook⟩ := h.lookup k
    exact part_walk p b mv k.1 k.2 _ _ _ sub w hcell hpl hb hlook h1
  · rw [if_neg h1]
    exact part_no _ k sub w (.inr h1)
end Go.Proofs.Ytmhmjbggjbeikaa
