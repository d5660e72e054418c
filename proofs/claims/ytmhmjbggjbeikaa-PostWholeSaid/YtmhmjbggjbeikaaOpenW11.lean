/- Arguments of the laws of chapter 11 out of what the row hands: an Op, a slice of Ops, a slice of postings. -/
import Derived.Test.YtmhmjbggjbeikaaArgs11
namespace Go.Proofs.Ytmhmjbggjbeikaa
open Go.ChangeShapes Go.WideShapes Go.ChangeAt Go.RowKit Go.Deep Go.Joins
set_option maxRecDepth 100000
/-- What a slice of Ops leads to. -/
def OpsArg (w : World) (a : Option Addr) (len cap : Nat) (l : List POp11) : Prop :=
  l.length = len ∧ len ≤ cap ∧ cap ≤ maxLen ∧ (∀ o ∈ l, wfOp11 w o) ∧ ElemsAt opCells 5 w a l
/-- What a slice of postings leads to. -/
def PostsArg (w : World) (a : Option Addr) (len cap : Nat) (l : List PPost) : Prop :=
  l.length = len ∧ len ≤ cap ∧ cap ≤ maxLen ∧ (∀ p ∈ l, wfPost p) ∧ PostsAt w a l ∧ (a = none → len = 0 ∧ cap = 0)
section
variable {H : Type} {enc : TypeId × Value → H} {w : World} {base : Nat} {spare : Nat → Bool} {held : Bool}
theorem open_op11 {r : Reach} {b0 : Nat} {v : Value} {d : DataW H} {p : List MemPlace} (hv : Value.okWide Try.prog w r b0 61 v) (h : DataW.Trod enc Try.prog w base spare held 61 v d p) (hz : Light Try.prog 61 d) :
    ∃ o : POp11, v = .agg #[.int .i64 o.kind, .int .i64 o.n, .string o.k.1, .string o.k.2, .slice o.a o.len o.cap] ∧ wfOp11 w o := by
  obtain ⟨cs, rfl, hsz⟩ := okWide_struct Try.underlying61 hv
  obtain ⟨fuel, hf⟩ := h
  obtain ⟨o, ho, hw⟩ := trod_op11 hf hz
  refine ⟨o, ?_, hw⟩
  have : cs.toList = opCells o := by simpa [Value.cells] using ho
  rw [show cs = (opCells o).toArray by rw [← this]]
  rfl
theorem open_ops11 {r : Reach} {b0 : Nat} {v : Value} {d : DataW H} {p : List MemPlace} (hv : Value.okWide Try.prog w r b0 58 v) (h : DataW.Trod enc Try.prog w base spare held 58 v d p) (hz : Light Try.prog 58 d) :
    ∃ (a : Option Addr) (len cap : Nat) (l : List POp11), v = .slice a len cap ∧ OpsArg w a len cap l := by
  obtain ⟨a, len, cap, rfl⟩ := okWide_slice Try.underlying58 hv
  obtain ⟨fuel, hf⟩ := h
  obtain ⟨a', n, c, l, h1, h2, h3, h4, _, h5, h6⟩ := open_elems Try.underlying58 opCells 5 (fun _ => rfl) (by decide) (by kernel_rfl) (wfOp11 w) ⟨0, 0, (ByteArray.empty, ByteArray.empty), none, 0, 0, []⟩ (fun _ _ _ h hz => trod_op11 h hz) hf hz
  simp [Value.cells] at h1
  obtain ⟨rfl, rfl, rfl⟩ := h1
  exact ⟨_, _, _, l, rfl, h2, h3, h4, h5, h6⟩
theorem open_posts11 {r : Reach} {b0 : Nat} {v : Value} {d : DataW H} {p : List MemPlace} (hv : Value.okWide Try.prog w r b0 48 v) (h : DataW.Trod enc Try.prog w base spare held 48 v d p) (hz : Light Try.prog 48 d) :
    ∃ (a : Option Addr) (len cap : Nat) (l : List PPost), v = .slice a len cap ∧ PostsArg w a len cap l := by
  obtain ⟨a, len, cap, rfl⟩ := okWide_slice Try.underlying48 hv
  obtain ⟨fuel, hf⟩ := h
  have h0 : a = none → len = 0 ∧ cap = 0 := by
    rcases open_slice Try.underlying48 hf with ⟨hcs, _⟩ | ⟨x0, n, c, m, fu, D, Pl, hcs, _⟩
    · simp [Value.cells] at hcs
      exact fun _ => ⟨hcs.2.1, hcs.2.2⟩
    · simp [Value.cells] at hcs
      exact fun e => by rw [hcs.1] at e; cases e
  obtain ⟨a', n, c, l, h1, h2, h3, h4, h5, h6⟩ := trod_posts hf hz
  simp [Value.cells] at h1
  obtain ⟨rfl, rfl, rfl⟩ := h1
  exact ⟨_, _, _, l, rfl, h2, h3, h4, h5, h6, h0⟩
end
end Go.Proofs.Ytmhmjbggjbeikaa
