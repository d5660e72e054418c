/- Two graphs of a law's own, apart. -/
import Derived.Test.YtpkhmhfgnpnpfaaAlive18
namespace Go.Proofs.Ytpkhmhfgnpnpfaa
set_option linter.unusedSimpArgs false
set_option linter.unusedVariables false
open Go.RowKit

/-- W has come out of w0; its new graphs g and x hold G and X, and have no block in common. -/
def Duo18 (w0 : World) (g x : Nat) (G X : Gra) (W : World) : Prop :=
  ∃ F1 F2, GraAt W g F1 G ∧ GraAt W x F2 X ∧ (∀ j, F1 j → w0.heap.size ≤ j) ∧ (∀ j, F2 j → w0.heap.size ≤ j) ∧ (∀ j, F1 j → ¬ F2 j) ∧ Below w0.heap.size w0 W
section
variable {w0 W W' : World} {g x : Nat} {G X : Gra}
theorem Duo18.left (h : Duo18 w0 g x G X W) : Gras w0 g G W := by
  obtain ⟨F1, F2, h1, h2, h3, h4, h5, h6⟩ := h
  exact ⟨F1, h1, h3, h6⟩
theorem Duo18.swap (h : Duo18 w0 g x G X W) : Duo18 w0 x g X G W := by
  obtain ⟨F1, F2, h1, h2, h3, h4, h5, h6⟩ := h
  exact ⟨F2, F1, h2, h1, h4, h3, fun j a b => h5 j b a, h6⟩
theorem Duo18.below (h : Duo18 w0 g x G X W) : Below w0.heap.size w0 W := h.left.below
theorem Duo18.step (h : Duo18 w0 g x G X W) (hb : Below W.heap.size W W') : Duo18 w0 g x G X W' := by
  obtain ⟨F1, F2, h1, h2, h3, h4, h5, h6⟩ := h
  exact ⟨F1, F2, h1.below hb, h2.below hb, h3, h4, h5, h6.trans (hb.mono h6.size)⟩
theorem duo18_new (n : Nat) (hn : n ≤ 1000) (h : Gras w0 g G W) : Calls Try.prog 13 #[.int .i64 n] W fun e w' => ∃ x, e = .returned (.tuple #[.pointer (some ⟨x, 0, none⟩), .int .i64 0]) ∧ Duo18 w0 g x G ⟨freshC n, []⟩ w' := by
  obtain ⟨F, h1, h2, h3⟩ := h
  refine (gnew_calls n hn W).mono fun e w' ⟨x, F2, q1, q2, q3, q4⟩ => ⟨x, q1, F, F2, h1.below q4, q2, h2, fun j hj => Nat.le_trans h3.size (q3 j hj), fun j hj hj2 => ?_, h3.trans (q4.mono h3.size)⟩
  have := h1.lt j hj
  have := q3 j hj2
  omega
theorem duo18_add {a : Option Addr} {n c : Nat} {l : List PLink} (h : Duo18 w0 g x G X W) (hb : Below W.heap.size W W') (hl : LinksArg W' a n c l) (hc : (∀ y, a = some y → y.block < w0.heap.size ∨ W.heap.size ≤ y.block) ∨ l = []) :
    Calls Try.prog 14 #[.pointer (some ⟨g, 0, none⟩), .slice a n c] W' fun e w' => e = .returned (.int .i64 (tryG G l)) ∧ Duo18 w0 g x (addG G l) X w' := by
  obtain ⟨F1, F2, h1, h2, h3, h4, h5, h6⟩ := h
  have hl1 := h1.lt
  have hl2 := h2.lt
  have hb' : Below w0.heap.size w0 W' := h6.trans (hb.mono h6.size)
  have hs := hb.size
  refine (add_calls (h1.below hb) hl ?_).mono fun e w' ⟨q1, F', q2, q3, q4⟩ => ⟨q1, F', F2, q2, (h2.below hb).frm q3 (fun j a b => h5 j b a), fun j hj => ?_, h4, fun j hj hj2 => ?_, hb'.trans (q3.below hb'.size h3)⟩
  · rcases hc with hc | hc
    · refine .inl fun y hy hj => ?_
      have := hl1 _ hj
      have := h3 _ hj
      rcases hc y hy with e | e <;> omega
    · exact .inr hc
  · rcases q4 j hj with e | e
    · exact h3 j e
    · have := hb'.size; omega
  · rcases q4 j hj with e | e
    · exact h5 j e hj2
    · have := hl2 j hj2; omega
theorem duo18_add1 (h : Duo18 w0 g x G X W) (q : PLink) :
    Calls Try.prog 14 #[.pointer (some ⟨g, 0, none⟩), .slice (some ⟨W.heap.size, 0, none⟩) 1 1] (W.alloc (.cells #[.int .i64 q.kind, .int .i64 q.src, .int .i64 q.dst] 30)) fun e w' => e = .returned (.int .i64 (tryG G [q])) ∧ Duo18 w0 g x (addG G [q]) X w' :=
  duo18_add h ((Below.refl _ _).alloc (Nat.le_refl _) _) (link_one W q) (.inl fun y hy => by
    simp only [Option.some.injEq] at hy
    subst hy
    exact .inr (Nat.le_refl _))
end
theorem LinksIn.block' {w : World} {a : Option Addr} {l : List PLink} (h : LinksIn w a l) (hn : a = none → l.length = 0) : l = [] ∨ ∃ b off, a = some ⟨b, off, none⟩ ∧ b < w.heap.size := by
  cases l with
  | nil => exact .inl rfl
  | cons x l =>
    obtain ⟨b, off, h1, h2, _⟩ := h 0 x rfl
    exact .inr ⟨b, off, h1, h2⟩
end Go.Proofs.Ytpkhmhfgnpnpfaa
