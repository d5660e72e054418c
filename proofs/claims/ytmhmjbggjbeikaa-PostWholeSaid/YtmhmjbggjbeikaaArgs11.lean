/- The arguments of the laws of chapter 11, opened to their cells: postings, Ops with slices of postings. -/
import Derived.Test.YtmhmjbggjbeikaaOpenG
import Derived.Lib.SmallJoins
import Derived.Test.YtmhmjbggjbeikaaLaw11
namespace Go.Proofs.Ytmhmjbggjbeikaa
open Go.ChangeShapes Go.WideShapes Go.ChangeAt Go.RowKit Go.Deep Go.Joins

set_option maxRecDepth 100000
theorem reach_short {s : ByteArray} (h : reachText s) : shortText s := by
  have h1 := reachBytes_lt
  unfold reachText at h
  unfold shortText
  omega
def wfPost (p : PPost) : Prop := (reachText p.k.1 ∧ reachText p.k.2) ∧ (Lit.int .i64 p.sub).wf = true ∧ (Lit.int .i64 p.by_).wf = true
def postCells (p : PPost) : List Value := [.string p.k.1, .string p.k.2, .int .i64 p.sub, .int .i64 p.by_]
/-- An Op: its kind, number, key, and postings, where they lie. -/
structure POp11 where
  kind : Int
  n : Int
  k : Key
  a : Option Addr
  len : Nat
  cap : Nat
  P : List PPost
def opCells (o : POp11) : List Value := [.int .i64 o.kind, .int .i64 o.n, .string o.k.1, .string o.k.2, .slice o.a o.len o.cap]
def wfOp11 (w : World) (o : POp11) : Prop := (Lit.int .i64 o.kind).wf = true ∧ (Lit.int .i64 o.n).wf = true ∧ reachText o.k.1 ∧ reachText o.k.2 ∧ o.P.length = o.len ∧ o.len ≤ o.cap ∧ o.cap ≤ maxLen ∧ (∀ p ∈ o.P, wfPost p) ∧ PostsAt w o.a o.P

section
variable {H : Type} {enc : TypeId × Value → H} {w : World} {base : Nat} {spare : Nat → Bool} {held : Bool}
theorem trod_key2 {fuel : Nat} {cs : List Value} {x : DataW H × List MemPlace} (h : DataW.trod enc Try.prog w base spare held fuel 24 cs = some x) (hz : Light Try.prog 24 x.1) :
    ∃ a b : ByteArray, cs = [.string a, .string b] ∧ reachText a ∧ reachText b := by
  obtain ⟨y0, y1, n, hx, hl, h0, h1⟩ := trod_struct2 Try.underlying24 h
  rw [hx] at hz
  obtain ⟨a, ha, za, _⟩ := open_text Try.underlying9 h0 (hz.part Try.underlying24 (j := 0) rfl rfl)
  obtain ⟨b, hb, zb, _⟩ := open_text Try.underlying9 h1 (hz.part Try.underlying24 (j := 1) rfl rfl)
  have hl2 : cs.length = 2 := hl.trans (by kernel_rfl)
  have c1 : Try.prog.cellsOf 9 = 1 := by kernel_rfl
  match cs, hl2 with
  | [c, d], _ =>
    simp [c1] at ha hb
    exact ⟨a, b, by rw [ha, hb], za, zb⟩
theorem trod_post {fuel : Nat} {cs : List Value} {x : DataW H × List MemPlace} (h : DataW.trod enc Try.prog w base spare held fuel 51 cs = some x) (hz : Light Try.prog 51 x.1) :
    ∃ p : PPost, cs = postCells p ∧ wfPost p := by
  obtain ⟨y0, y1, y2, n, hx, hl, h0, h1, h2⟩ := trod_struct3 Try.underlying51 h
  rw [hx] at hz
  have hl4 : cs.length = 4 := hl.trans (by kernel_rfl)
  obtain ⟨a, b, hk, za, zb⟩ := trod_key2 h0 (hz.part Try.underlying51 (j := 0) rfl rfl)
  obtain ⟨s, hs, _, ws⟩ := DataW.trod_int Try.underlying3 h1
  obtain ⟨y, hy, _, wy⟩ := DataW.trod_int Try.underlying3 h2
  have c1 : Try.prog.cellsOf 24 = 2 := by kernel_rfl
  have c2 : Try.prog.cellsOf 3 = 1 := by kernel_rfl
  match cs, hl4 with
  | [c, d, e, f], _ =>
    simp [c1, c2] at hk hs hy
    exact ⟨⟨(a, b), s, y⟩, by simp [postCells, hk, hs, hy], ⟨za, zb⟩, ws, wy⟩
theorem posts_of_elems {a : Option Addr} {l : List PPost} (h : ElemsAt postCells 4 w a l) : PostsAt w a l := fun k p hp => by
  obtain ⟨b, off, h1, h2, h3⟩ := h k p hp
  exact ⟨b, off, h1, h2, by simpa using h3 0 _ (by decide) rfl, h3 1 _ (by decide) rfl, h3 2 _ (by decide) rfl, h3 3 _ (by decide) rfl⟩
theorem trod_posts {fuel : Nat} {cs : List Value} {x : DataW H × List MemPlace} (h : DataW.trod enc Try.prog w base spare held fuel 48 cs = some x) (hz : Light Try.prog 48 x.1) :
    ∃ (a : Option Addr) (n c : Nat) (l : List PPost), cs = [.slice a n c] ∧ l.length = n ∧ n ≤ c ∧ c ≤ maxLen ∧ (∀ p ∈ l, wfPost p) ∧ PostsAt w a l := by
  obtain ⟨a, n, c, l, h1, h2, h3, h4, _, h5, h6⟩ := open_elems Try.underlying48 postCells 4 (fun _ => rfl) (by decide) (by kernel_rfl) wfPost ⟨(ByteArray.empty, ByteArray.empty), 0, 0⟩ (fun _ _ _ h hz => trod_post h hz) h hz
  exact ⟨a, n, c, l, h1, h2, h3, h4, h5, posts_of_elems h6⟩
theorem trod_op11 {fuel : Nat} {cs : List Value} {x : DataW H × List MemPlace} (h : DataW.trod enc Try.prog w base spare held fuel 61 cs = some x) (hz : Light Try.prog 61 x.1) :
    ∃ o : POp11, cs = opCells o ∧ wfOp11 w o := by
  obtain ⟨y0, y1, y2, y3, n, hx, hl, h0, h1, h2, h3⟩ := trod_struct4 Try.underlying61 h
  rw [hx] at hz
  have hl5 : cs.length = 5 := hl.trans (by kernel_rfl)
  obtain ⟨s, hs, _, ws⟩ := DataW.trod_int Try.underlying3 h0
  obtain ⟨y, hy, _, wy⟩ := DataW.trod_int Try.underlying3 h1
  obtain ⟨a, b, hk, za, zb⟩ := trod_key2 h2 (hz.part Try.underlying61 (j := 2) rfl rfl)
  obtain ⟨ad, len, cap, l, hp, e1, e2, e3, e4, e5⟩ := trod_posts h3 (hz.part Try.underlying61 (j := 3) rfl rfl)
  have c1 : Try.prog.cellsOf 24 = 2 := by kernel_rfl
  have c2 : Try.prog.cellsOf 3 = 1 := by kernel_rfl
  have c3 : Try.prog.cellsOf 48 = 1 := by kernel_rfl
  match cs, hl5 with
  | [c, d, e, f, g], _ =>
    simp [c1, c2, c3] at hs hy hk hp
    exact ⟨⟨s, y, (a, b), ad, len, cap, l⟩, by simp [opCells, hs, hy, hk, hp], ws, wy, za, zb, e1, e2, e3, e4, e5⟩
end
end Go.Proofs.Ytmhmjbggjbeikaa
