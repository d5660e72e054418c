/- The arguments of the laws of chapter 10, opened to their cells: one Op, a slice of Ops, a slice of strings. -/
import Derived.Test.YtmhmjbggjbeikaaRows
import Derived.Test.YtmhmjbggjbeikaaAlive10
import Derived.ProofKit
import Derived.Deep.Slices
import Derived.Deep.Fields
import Derived.Deep.Strs
import Derived.ChangeSame
namespace Go.Proofs.Ytmhmjbggjbeikaa
open Go.ChangeShapes Go.WideShapes Go.ChangeAt Go.RowKit Go.Deep

theorem cell_lt {w : World} {a : Addr} {v : Value} (h : w.cell? a = some v) : a.block < w.heap.size := by
  unfold World.cell? at h
  cases hk : w.heap[a.block]? with
  | none => simp [hk] at h
  | some x => exact (Array.getElem?_eq_some_iff.1 hk).1

/-- An Op as a plain value: its key, its part, its change. -/
structure POp where
  k : Key
  sub : Int
  by_ : Int

def POp.cells (o : POp) : List Value := [.string o.k.1, .string o.k.2, .int .i64 o.sub, .int .i64 o.by_]

/-- Its fields fit their kinds. -/
def POp.fits (o : POp) : Prop := ((Lit.int .i64 o.sub).wf = true ∧ (Lit.int .i64 o.by_).wf = true) ∧ o.k.1.size ≤ maxLen ∧ o.k.2.size ≤ maxLen

set_option maxRecDepth 100000
section
variable {H : Type} {enc : TypeId × Value → H} {w : World} {base : Nat} {spare : Nat → Bool} {held : Bool}
theorem trod_key {fuel : Nat} {cs : List Value} {x : DataW H × List MemPlace} (h : DataW.trod enc Try.prog w base spare held fuel 24 cs = some x) :
    ∃ a b : ByteArray, cs = [.string a, .string b] ∧ a.size ≤ maxLen ∧ b.size ≤ maxLen := by
  obtain ⟨y0, y1, n, _, hl, h0, h1⟩ := trod_struct2 Try.underlying24 h
  obtain ⟨a, ha, _, za⟩ := DataW.trod_string Try.underlying9 h0
  obtain ⟨b, hb, _, zb⟩ := DataW.trod_string Try.underlying9 h1
  have hl2 : cs.length = 2 := hl.trans (by kernel_rfl)
  have c1 : Try.prog.cellsOf 9 = 1 := by kernel_rfl
  match cs, hl2 with
  | [x, y], _ =>
    simp [c1] at ha hb
    exact ⟨a, b, by rw [ha, hb], za, zb⟩

theorem trod_op {fuel : Nat} {cs : List Value} {x : DataW H × List MemPlace} (h : DataW.trod enc Try.prog w base spare held fuel 26 cs = some x) :
    ∃ o : POp, cs = o.cells ∧ o.fits := by
  obtain ⟨y0, y1, y2, n, _, hl, h0, h1, h2⟩ := trod_struct3 Try.underlying26 h
  have hl4 : cs.length = 4 := hl.trans (by kernel_rfl)
  obtain ⟨a, b, hk, za, zb⟩ := trod_key h0
  obtain ⟨s, hs, _, ws⟩ := DataW.trod_int Try.underlying3 h1
  obtain ⟨y, hy, _, wy⟩ := DataW.trod_int Try.underlying3 h2
  have c1 : Try.prog.cellsOf 24 = 2 := by kernel_rfl
  have c2 : Try.prog.cellsOf 3 = 1 := by kernel_rfl
  match cs, hl4 with
  | [c, d, e, f], _ =>
    simp [c1, c2] at hk hs hy
    exact ⟨⟨(a, b), s, y⟩, by simp [POp.cells, hk, hs, hy], ⟨ws, wy⟩, za, zb⟩

theorem open_op {r : Reach} {b0 : Nat} {v : Value} {d : DataW H} {p : List MemPlace} (hv : Value.okWide Try.prog w r b0 26 v) (h : DataW.Trod enc Try.prog w base spare held 26 v d p) :
    ∃ o : POp, v = .agg #[.string o.k.1, .string o.k.2, .int .i64 o.sub, .int .i64 o.by_] ∧ o.fits := by
  obtain ⟨cs, rfl, hsz⟩ := okWide_struct Try.underlying26 hv
  obtain ⟨fuel, hf⟩ := h
  obtain ⟨o, ho, hw⟩ := trod_op hf
  refine ⟨o, ?_, hw⟩
  have : cs.toList = o.cells := by simpa [Value.cells] using ho
  rw [show cs = o.cells.toArray by rw [← this]]
  rfl

/-- What a slice of Ops leads to. -/
def OpsAt (w : World) (a : Option Addr) (len cap : Nat) (l : List POp) : Prop :=
  l.length = len ∧ (∀ o ∈ l, o.fits) ∧ len ≤ maxLen ∧
  (l = [] ∨ ∃ b off : Nat, a = some ⟨b, off, none⟩ ∧ b < w.heap.size ∧ len ≤ cap ∧ cap ≤ maxLen ∧
    ∀ (i : Nat) (o : POp), l[i]? = some o → w.cell? ⟨b, off + i * 4, none⟩ = some (.string o.k.1) ∧ w.cell? ⟨b, off + i * 4 + 1, none⟩ = some (.string o.k.2) ∧
      w.cell? ⟨b, off + i * 4 + 2, none⟩ = some (.int .i64 o.sub) ∧ w.cell? ⟨b, off + i * 4 + 3, none⟩ = some (.int .i64 o.by_))

theorem open_ops {r : Reach} {b0 : Nat} {t : TypeId} (ht : Try.prog.underlying t = some (.slice 26)) {v : Value} {d : DataW H} {p : List MemPlace} (hv : Value.okWide Try.prog w r b0 t v) (h : DataW.Trod enc Try.prog w base (fun _ => true) held t v d p) :
    ∃ (a : Option Addr) (len cap : Nat) (l : List POp), v = .slice a len cap ∧ OpsAt w a len cap l := by
  obtain ⟨a, len, cap, rfl⟩ := okWide_slice ht hv
  obtain ⟨fuel, hf⟩ := h
  have c4 : Try.prog.cellsOf 26 = 4 := by kernel_rfl
  rcases open_slice ht hf with ⟨hcs, _⟩ | ⟨x, len', cap', m, n, D, Pl, hcs, _, hl, hm, hmm, _, hi⟩
  · simp [Value.cells] at hcs
    obtain ⟨rfl, rfl, rfl⟩ := hcs
    exact ⟨_, _, _, [], rfl, rfl, by simp, by simp, .inl rfl⟩
  · simp [Value.cells] at hcs
    obtain ⟨rfl, rfl, rfl⟩ := hcs
    simp only [if_true] at hmm
    subst hmm
    have hex : ∀ i, ∃ o : POp, i < len → o.fits ∧ w.cells? base (x.add (i * 4)) 4 = some o.cells := fun i => by
      by_cases him : i < len
      · obtain ⟨cs', hc, ht'⟩ := hi i (by omega)
        rw [c4] at hc
        obtain ⟨o, rfl, ho⟩ := trod_op ht'
        exact ⟨o, fun _ => ⟨ho, hc⟩⟩
      · exact ⟨⟨(ByteArray.empty, ByteArray.empty), 0, 0⟩, fun h => absurd h him⟩
    obtain ⟨F, hF⟩ : ∃ F : Nat → POp, ∀ i, i < len → (F i).fits ∧ w.cells? base (x.add (i * 4)) 4 = some (F i).cells := ⟨fun i => Classical.choose (hex i), fun i => Classical.choose_spec (hex i)⟩
    refine ⟨_, _, _, (List.range len).map F, rfl, by simp, ?_, by omega, ?_⟩
    · intro o ho
      simp only [List.mem_map, List.mem_range] at ho
      obtain ⟨i, hil, rfl⟩ := ho
      exact (hF i hil).1
    · by_cases h0 : len = 0
      · exact .inl (by subst h0; rfl)
      right
      obtain ⟨b, off, spot⟩ := x
      have hspot : spot = none := by
        obtain ⟨_, _, hat⟩ := World.cells?_some (hF 0 (by omega)).2
        have h00 := hat 0 (by omega)
        simp only [Addr.add, if_true, Nat.zero_mul] at h00
        exact World.cell?_spot (h00.trans (List.getElem?_eq_getElem (by simp [POp.cells])))
      subst hspot
      have hcell : ∀ i, i < len → ∀ j, (hj : j < 4) → w.cell? ⟨b, off + i * 4 + j, none⟩ = some ((F i).cells[j]'hj) := fun i hil j hj => by
        obtain ⟨_, _, hat⟩ := World.cells?_some (hF i hil).2
        have := hat j hj
        rw [add_plain, add_plain] at this
        rw [this]
        exact List.getElem?_eq_getElem hj
      have hb : b < w.heap.size := cell_lt (hcell 0 (by omega) 0 (by omega))
      refine ⟨b, off, rfl, hb, hl, hm, fun i o hio => ?_⟩
      have hil : i < len := by
        have := (List.getElem?_eq_some_iff.1 hio).1
        simpa using this
      have ho : F i = o := by
        simpa [hil] using hio
      subst ho
      exact ⟨hcell i hil 0 (by omega), hcell i hil 1 (by omega), hcell i hil 2 (by omega), hcell i hil 3 (by omega)⟩
end
end Go.Proofs.Ytmhmjbggjbeikaa
