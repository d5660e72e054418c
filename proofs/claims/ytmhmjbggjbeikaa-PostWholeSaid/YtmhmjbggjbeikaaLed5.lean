/- (*Ledger).Issue: the contract. -/
import Derived.Test.YtmhmjbggjbeikaaLed4
namespace Go.Proofs.Ytmhmjbggjbeikaa
set_option linter.unusedSimpArgs false
set_option linter.unusedVariables false
open Go.RowKit

/-- What a call leaves of a ledger: it holds L, and nothing old that was not its own has turned. -/
def LedPost (w : World) (g p : Nat) (F : Nat → Prop) (L : Led) (w' : World) : Prop := ∃ F', LedAt w' g p F' L ∧ Frm F w w' ∧ ∀ j, F' j → F j ∨ w.heap.size ≤ j
theorem LedPost.same {w w' : World} {g p : Nat} {F : Nat → Prop} {L : Led} (h : LedAt w g p F L) (hb : Below w.heap.size w w') : LedPost w g p F L w' := ⟨F, h.below hb, Frm.of_below hb, fun _ => .inl⟩

theorem iss_put {w : World} {b : Nat} {l : List (ByteArray × Int)} (h : MapB estr eint w b l) (a : ByteArray) (n : Int) :
    ∃ upd : World → World, ∀ W, objAt W b = objAt w b → (Instr.mapUpdate 53 (.map (some b)) (.string a) (.int .i64 n)).run Try.prog W = .ok () (upd W) ∧ MapB estr eint (upd W) b (put l a n) ∧ Frm (fun x => x = b) W (upd W) ∧ (upd W).heap.size = W.heap.size :=
  h.update_fn (P := Try.prog) strT Try.underlying53 a n
theorem iss_put_new (a : ByteArray) (n : Int) :
    ∃ upd : Nat → World → World, ∀ (c : Nat) W, objAt W c = some (.map #[] 0) → (Instr.mapUpdate 53 (.map (some c)) (.string a) (.int .i64 n)).run Try.prog W = .ok () (upd c W) ∧ MapB estr eint (upd c W) c (put [] a n) ∧ Frm (fun x => x = c) W (upd c W) := by
  refine ⟨fun c W => ranTo ((Instr.mapUpdate 53 (.map (some c)) (.string a) (.int .i64 n)).run Try.prog W), fun c W hW => ?_⟩
  have h0 : MapB estr eint W c ([] : List (ByteArray × Int)) := ⟨#[], 0, hW, by simp, by simp, by simp, apart_nil⟩
  obtain ⟨upd, hu⟩ := iss_put h0 a n
  obtain ⟨h1, h2, h3, _⟩ := hu W rfl
  dsimp only
  rw [h1]
  exact ⟨rfl, h2, h3⟩

theorem issue_calls (g p : Nat) (F : Nat → Prop) (L : Led) (k1 k2 : ByteArray) (by_ : Int) (w : World) (h : LedAt w g p F L) (hs1 : shortText k1) (hs2 : shortText k2)
    (hf1 : within by_ → -9223372036854775808 ≤ issOf L.iss k2 + by_) (hf2 : within by_ → issOf L.iss k2 + by_ ≤ 9223372036854775807) :
    Calls Try.prog 25 #[.pointer (some ⟨g, 0, none⟩), .agg #[.string k1, .string k2], .int .i64 by_] w fun e w' => e = .returned (.int .i64 (issueErr L (k1, k2) by_)) ∧ LedPost w g p F (issueLed L (k1, k2) by_) w' := by
  have h' := h
  obtain ⟨Fp, im, bm, hparts⟩ := h
  have hp0 : LedParts w g p Fp im bm F L := hparts
  obtain ⟨h1, h2, h3, h4, h5, h6, h7, h8, h9, h10, h11, h12⟩ := hparts
  obtain ⟨c0, c1, c2, d0, d1, d2⟩ := led_cells h1
  have hg := h9 g h5
  have hsame : issueErr L (k1, k2) by_ ≠ 0 → issueLed L (k1, k2) by_ = L := fun he => by unfold issueLed; rw [if_pos he]
  by_cases hw : within by_
  case neg =>
    have he : issueErr L (k1, k2) by_ = 1 := by unfold issueErr; rw [if_pos hw]
    rw [hsame (by omega), he]
    exact (issue_far g p k1 k2 by_ w hg c0 hw).mono fun e w' ⟨e1, e2⟩ => ⟨e1, LedPost.same h' e2⟩
  by_cases hbar : by_ < 0 ∧ isBlk L.blk (k1, k2) = true
  · have he : issueErr L (k1, k2) by_ = 35 := by unfold issueErr; rw [if_neg (not_not_intro hw), if_pos hbar]
    rw [hsame (by omega), he]
    refine (issue_barred g p k1 k2 by_ w hg c0 hw hbar.1 (fun W hW => ?_)).mono fun e w' ⟨e1, e2⟩ => ⟨e1, LedPost.same h' e2⟩
    have := blocked_calls g p F L k1 k2 W (h'.below hW)
    rwa [hbar.2] at this
  have hbl : by_ < 0 → ∀ W, Below w.heap.size w W → Calls Try.prog 34 #[.pointer (some ⟨g, 0, none⟩), .agg #[.string k1, .string k2]] W fun e w' => e = .returned (.bool false) ∧ Below W.heap.size W w' := fun hn W hW => by
    have := blocked_calls g p F L k1 k2 W (h'.below hW)
    rwa [show isBlk L.blk (k1, k2) = false by
      cases hq : isBlk L.blk (k1, k2) with
      | false => rfl
      | true => exact absurd ⟨hn, hq⟩ hbar] at this
  have hf1 := hf1 hw
  have hf2 := hf2 hw
  by_cases hover : issOf L.iss k2 + by_ > 1152921504606846976
  · have he : issueErr L (k1, k2) by_ = 12 := by unfold issueErr; rw [if_neg (not_not_intro hw), if_neg hbar, if_pos hover]
    rw [hsame (by omega), he]
    obtain ⟨b, hb, hs⟩ := h3.block hg
    exact (issue_over g p b im k1 k2 by_ _ w hg hb c0 c1 hw hbl (fun W hW => iss_look h3 k2 W (hs W hW)) hf1 hf2 hover).mono fun e w' ⟨e1, e2⟩ => ⟨e1, LedPost.same h' e2⟩
  have he : issueErr L (k1, k2) by_ = addErr L.m (k1, k2) 0 by_ := by unfold issueErr; rw [if_neg (not_not_intro hw), if_neg hbar, if_neg hover]
  have hadd : ∀ W, Below w.heap.size w W → Calls Try.prog 16 #[.pointer (some ⟨p, 0, none⟩), .agg #[.string k1, .string k2], .int .i64 0, .int .i64 by_] W fun e w' => e = .returned (.int .i64 (addErr L.m (k1, k2) 0 by_)) ∧ Frm Fp W w' ∧ (fun W w' => ∃ F', PosAt w' p F' (addMap L.m (k1, k2) 0 by_) ∧ ∀ j, F' j → Fp j ∨ W.heap.size ≤ j) W w' := fun W hW =>
    (add_calls p Fp L.m (k1, k2) 0 by_ W (h2.below hW)).mono fun e w' ⟨e1, F', e2, e3, e4⟩ => ⟨e1, e3, F', e2, e4⟩
  have hFn : ∀ j, Fp j → j < w.heap.size := fun j hj => h9 j (h6 j hj)
  by_cases her : addErr L.m (k1, k2) 0 by_ = 0
  · have hL : issueLed L (k1, k2) by_ = ⟨addMap L.m (k1, k2) 0 by_, put L.iss k2 (issOf L.iss k2 + by_), L.blk⟩ := by
      unfold issueLed; rw [if_neg (not_not_intro (he.trans her))]
    rw [he, her, hL]
    rcases h3 with ⟨rfl, hi0⟩ | ⟨b, rfl, hmb⟩
    · -- no map yet
      have hz : issOf L.iss k2 = 0 := by rw [hi0]; rfl
      rw [hz] at hover hf1 hf2 ⊢
      obtain ⟨upd, hupd⟩ := iss_put_new k2 (0 + by_)
      have hnone : MapO estr eint w none ([] : List (ByteArray × Int)) := .inl ⟨rfl, rfl⟩
      refine (issue_none g p g k1 k2 by_ w hg hg c0 c1 hw hbl (fun W _ => iss_look hnone k2 W (fun b hb => by cases hb)) hf1 hf2 hover _ Fp _ hs1 hs2 h10 h10 hFn hadd d1 her upd
        (fun c W hW => by
          have hm : MapO estr eint W (some c) ([] : List (ByteArray × Int)) := .inr ⟨c, rfl, #[], 0, hW, by simp, by simp, by simp, apart_nil⟩
          exact iss_look hm k2 W (fun _ _ => rfl)) (fun c W hW => (hupd c W hW).1)).mono ?_
      rintro e w' ⟨e1, W, w1, e2, e3, ⟨F1, e4, e5⟩, rfl⟩
      refine ⟨e1, ?_⟩
      obtain ⟨q1, q2, q3⟩ := parts_pos hp0 e2 e3 e4 e5
      obtain ⟨_, u2, u3⟩ := hupd w1.heap.size ((w1.setCell ⟨g, 1, none⟩ (.map (some w1.heap.size))).alloc (.map #[] 0)).drew (by rw [objAt_drew, objAt_alloc_at _ _ _ (by simp [World.setCell])])
      obtain ⟨r1, r2⟩ := parts_made q1 u2 u3
      rw [hi0]
      exact ⟨_, r1.led, q2.trans r2 (fun j hj => q3 j hj), fun j hj => by
        rcases hj with hj | hj
        · exact q3 j hj
        · exact .inr (by have := q2.size; omega)⟩
    · have hbw := h9 b (h7 b rfl)
      obtain ⟨upd, hupd⟩ := iss_put hmb k2 (issOf L.iss k2 + by_)
      have hsome : MapO estr eint w (some b) L.iss := .inr ⟨b, rfl, hmb⟩
      refine (issue_some g p b k1 k2 by_ _ w hg hbw c0 c1 hw hbl (fun W hW => iss_look hsome k2 W (fun j hj => by cases hj; exact hW)) hf1 hf2 hover _ Fp _ hs1 hs2 h10 (h11 b rfl).2 hFn hadd d1 her upd (fun W hW => (hupd W hW).1)).mono ?_
      rintro e w' ⟨e1, W, w1, e2, e3, ⟨F1, e4, e5⟩, e6, rfl⟩
      refine ⟨e1, ?_⟩
      obtain ⟨q1, q2, q3⟩ := parts_pos hp0 e2 e3 e4 e5
      obtain ⟨_, u2, u3, _⟩ := hupd w1.drew e6
      obtain ⟨r1, r2⟩ := parts_iss q1 u2 ⟨u3.os, u3.tape, u3.output, u3.size, u3.block⟩
      exact ⟨_, r1.led, q2.trans r2 (fun j hj => q3 j hj), q3⟩
  · rw [hsame (by rw [he]; exact her), he]
    have fin : ∀ (e : Ending) (w' : World), (e = .returned (.int .i64 (addErr L.m (k1, k2) 0 by_)) ∧ ∃ W, Below w.heap.size w W ∧ Frm Fp W w' ∧ (fun W w' => ∃ F', PosAt w' p F' (addMap L.m (k1, k2) 0 by_) ∧ ∀ j, F' j → Fp j ∨ W.heap.size ≤ j) W w') →
        e = .returned (.int .i64 (addErr L.m (k1, k2) 0 by_)) ∧ LedPost w g p F L w' := fun e w' ⟨e1, W, e2, e3, F1, e4, e5⟩ => by
      have hmm : addMap L.m (k1, k2) 0 by_ = L.m := by unfold addMap; rw [if_pos her]
      rw [hmm] at e4
      obtain ⟨q1, q2, q3⟩ := parts_pos hp0 e2 e3 e4 e5
      exact ⟨e1, _, q1.led, q2, q3⟩
    rcases h3 with ⟨rfl, hi0⟩ | ⟨b, rfl, hmb⟩
    · have hnone : MapO estr eint w none L.iss := .inl ⟨rfl, hi0⟩
      exact (issue_refused g p g none k1 k2 by_ _ w hg hg c0 c1 hw hbl (fun W _ => iss_look hnone k2 W (fun b hb => by cases hb)) hf1 hf2 hover _ Fp _ hs1 hs2 h10 h10 hFn hadd her).mono fin
    · have hsome : MapO estr eint w (some b) L.iss := .inr ⟨b, rfl, hmb⟩
      exact (issue_refused g p b (some b) k1 k2 by_ _ w hg (h9 b (h7 b rfl)) c0 c1 hw hbl (fun W hW => iss_look hsome k2 W (fun j hj => by cases hj; exact hW)) hf1 hf2 hover _ Fp _ hs1 hs2 h10 (h11 b rfl).2 hFn hadd her).mono fin
end Go.Proofs.Ytmhmjbggjbeikaa
