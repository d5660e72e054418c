/- (*Ledger).Issue: the contract. -/
import Derived.Test.YtmhmjbggjbeikaaLed3
namespace Go.Proofs.Ytmhmjbggjbeikaa
set_option linter.unusedSimpArgs false
set_option linter.unusedVariables false
open Go.RowKit

/-- The parts of a ledger in memory, named. -/
def LedParts (w : World) (g p : Nat) (Fp : Nat → Prop) (im bm : Option Nat) (F : Nat → Prop) (L : Led) : Prop :=
  w.heap[g]? = some (.cells #[.pointer (some ⟨p, 0, none⟩), .map im, .map bm] 56 (0, 0)) ∧ PosAt w p Fp L.m ∧
    MapO estr eint w im L.iss ∧ MapO ekey eunit w bm L.blk ∧ F g ∧ (∀ j, Fp j → F j) ∧ (∀ j, im = some j → F j) ∧ (∀ j, bm = some j → F j) ∧ (∀ j, F j → j < w.heap.size) ∧
    ¬ Fp g ∧ (∀ j, im = some j → j ≠ g ∧ ¬ Fp j) ∧ (∀ j, bm = some j → j ≠ g ∧ ¬ Fp j ∧ im ≠ some j)
theorem LedParts.led {w : World} {g p : Nat} {Fp F : Nat → Prop} {im bm : Option Nat} {L : Led} (h : LedParts w g p Fp im bm F L) : LedAt w g p F L := ⟨Fp, im, bm, h⟩

/-- The positions have turned, nothing else. -/
theorem parts_pos {w W w1 : World} {g p : Nat} {Fp F F1 : Nat → Prop} {im bm : Option Nat} {L : Led} {m' : List (Key × Three)} (h : LedParts w g p Fp im bm F L) (hb : Below w.heap.size w W) (hf : Frm Fp W w1) (hp : PosAt w1 p F1 m')
    (hF : ∀ j, F1 j → Fp j ∨ W.heap.size ≤ j) : LedParts w1 g p F1 im bm (fun j => F j ∨ F1 j) ⟨m', L.iss, L.blk⟩ ∧ Frm F w w1 ∧ ∀ j, (F j ∨ F1 j) → F j ∨ w.heap.size ≤ j := by
  obtain ⟨h1, h2, h3, h4, h5, h6, h7, h8, h9, h10, h11, h12⟩ := h
  have hfw : Frm Fp w w1 := (Frm.of_below (S := Fp) hb).trans hf (fun j hj => .inl hj)
  have hsz := hb.size
  have hno : ∀ j, F j → ¬ Fp j → ¬ F1 j := fun j hj hn e => by
    rcases hF j e with e | e
    · exact hn e
    · have := h9 j hj; omega
  refine ⟨⟨(hfw.block g (h9 g h5) h10).trans h1, hp, h3.frm hfw (fun b hb' => (h11 b hb').2), h4.frm hfw (fun b hb' => (h12 b hb').2.1), .inl h5, fun j hj => .inr hj, fun j hj => .inl (h7 j hj), fun j hj => .inl (h8 j hj), fun j hj => ?_, hno g h5 h10,
    fun j hj => ⟨(h11 j hj).1, hno j (h7 j hj) (h11 j hj).2⟩, fun j hj => ⟨(h12 j hj).1, hno j (h8 j hj) (h12 j hj).2.1, (h12 j hj).2.2⟩⟩, hfw.mono (fun j hj => .inl (h6 j hj)), fun j hj => ?_⟩
  · rcases hj with hj | hj
    · exact Nat.lt_of_lt_of_le (h9 j hj) hfw.size
    · exact hp.2.1 j hj
  · rcases hj with hj | hj
    · exact .inl hj
    · rcases hF j hj with e | e
      · exact .inl (h6 j e)
      · exact .inr (by omega)
/-- What was issued has turned, the map was there. -/
theorem parts_iss {w w1 : World} {g p b : Nat} {Fp F : Nat → Prop} {bm : Option Nat} {L : Led} {iss' : List (ByteArray × Int)} (h : LedParts w g p Fp (some b) bm F L) (hm : MapB estr eint w1 b iss') (hf : Frm (fun x => x = b) w w1) :
    LedParts w1 g p Fp (some b) bm F ⟨L.m, iss', L.blk⟩ ∧ Frm F w w1 := by
  obtain ⟨h1, h2, h3, h4, h5, h6, h7, h8, h9, h10, h11, h12⟩ := h
  obtain ⟨e1, e2⟩ := h11 b rfl
  refine ⟨⟨(hf.block g (h9 g h5) (fun e => e1 e.symm)).trans h1, h2.frm hf (fun j hj e => e2 (e ▸ hj)), .inr ⟨b, rfl, hm⟩, h4.frm hf (fun j hj e => (h12 j hj).2.2 (by rw [e])), h5, h6, h7, h8, fun j hj => Nat.lt_of_lt_of_le (h9 j hj) hf.size, h10, h11, h12⟩,
    hf.mono (fun j hj => .inl (by rw [hj]; exact h7 b rfl))⟩
/-- The map was made. -/
theorem parts_made {w w1 : World} {g p : Nat} {Fp F : Nat → Prop} {bm : Option Nat} {L : Led} {iss' : List (ByteArray × Int)} (h : LedParts w g p Fp none bm F L)
    (hm : MapB estr eint w1 w.heap.size iss') (hf : Frm (fun x => x = w.heap.size) ((w.setCell ⟨g, 1, none⟩ (.map (some w.heap.size))).alloc (.map #[] 0)).drew w1) :
    LedParts w1 g p Fp (some w.heap.size) bm (fun j => F j ∨ j = w.heap.size) ⟨L.m, iss', L.blk⟩ ∧ Frm F w w1 := by
  obtain ⟨h1, h2, h3, h4, h5, h6, h7, h8, h9, h10, h11, h12⟩ := h
  have f0 : Frm (fun x => x = g) w ((w.setCell ⟨g, 1, none⟩ (.map (some w.heap.size))).alloc (.map #[] 0)).drew := (((Frm.refl (fun x => x = g) w).setCell (p := ⟨g, 1, none⟩) (.inl rfl) _).alloc _).drew
  have hgs := h9 g h5
  have e0 : ((w.setCell ⟨g, 1, none⟩ (.map (some w.heap.size))).alloc (.map #[] 0)).drew.heap[g]? = some (.cells #[.pointer (some ⟨p, 0, none⟩), .map (some w.heap.size), .map bm] 56 (0, 0)) := by
    have a1 : ((w.setCell ⟨g, 1, none⟩ (.map (some w.heap.size))).alloc (.map #[] 0)).drew.heap[g]? = (w.setCell ⟨g, 1, none⟩ (.map (some w.heap.size))).heap[g]? := Below.heap_alloc _ _ _ (by simpa [World.setCell] using hgs)
    rw [a1]
    simp [World.setCell, Array.getElem?_modify, h1]
  have s0 : ((w.setCell ⟨g, 1, none⟩ (.map (some w.heap.size))).alloc (.map #[] 0)).drew.heap.size = w.heap.size + 1 := by simp [World.setCell]
  have f1 : Frm (fun x => x = g) w w1 := f0.trans hf (fun j hj => .inr (by omega))
  refine ⟨⟨(hf.block g (by omega) (by omega)).trans e0, h2.frm f1 (fun j hj e => h10 (e ▸ hj)), .inr ⟨_, rfl, hm⟩, h4.frm f1 (fun j hj e => (h12 j hj).1 e), .inl h5, fun j hj => .inl (h6 j hj), fun j hj => .inr (by cases hj; rfl), fun j hj => .inl (h8 j hj), fun j hj => ?_, h10,
    fun j hj => by cases hj; exact ⟨by omega, fun e => by have := h9 _ (h6 _ e); omega⟩, fun j hj => ⟨(h12 j hj).1, (h12 j hj).2.1, fun e => by cases e; have := h9 _ (h8 _ hj); omega⟩⟩, f1.mono (fun j hj => .inl (by rw [hj]; exact h5))⟩
  have := hf.size
  rcases hj with hj | hj
  · have := h9 j hj; omega
  · omega
end Go.Proofs.Ytmhmjbggjbeikaa
