/- Arguments of the laws of chapter 18, opened to their cells: a link, a slice of links. -/
import Derived.Test.YtpkhmhfgnpnpfaaRows
import Derived.Test.YtpkhmhfgnpnpfaaSl2
import Derived.ProofKit
import Derived.Deep.Slices
import Derived.Deep.Fields
import Derived.Deep.Strs
import Derived.ChangeSame
namespace Go.Proofs.Ytpkhmhfgnpnpfaa
open Go.ChangeShapes Go.WideShapes Go.ChangeAt Go.RowKit Go.Deep

theorem cell_lt' {w : World} {a : Addr} {v : Value} (h : w.cell? a = some v) : a.block < w.heap.size := by
  unfold World.cell? at h
  cases hk : w.heap[a.block]? with
  | none => simp [hk] at h
  | some x => exact (Array.getElem?_eq_some_iff.1 hk).1

set_option maxRecDepth 100000
section
variable {H : Type} {enc : TypeId × Value → H} {w : World} {base : Nat} {spare : Nat → Bool} {held : Bool}
theorem trod_link {fuel : Nat} {cs : List Value} {x : DataW H × List MemPlace} (h : DataW.trod enc Try.prog w base spare held fuel 30 cs = some x) :
    ∃ o : PLink, cs = lcells o := by
  obtain ⟨y0, y1, y2, n, _, hl, h0, h1, h2⟩ := trod_struct3 Try.underlying30 h
  have hl4 : cs.length = 3 := hl.trans (by kernel_rfl)
  obtain ⟨a, ha, _, _⟩ := DataW.trod_int Try.underlying3 h0
  obtain ⟨s, hs, _, ws⟩ := DataW.trod_int Try.underlying3 h1
  obtain ⟨y, hy, _, wy⟩ := DataW.trod_int Try.underlying3 h2
  have c2 : Try.prog.cellsOf 3 = 1 := by kernel_rfl
  match cs, hl4 with
  | [c, d, e], _ =>
    simp [c2] at ha hs hy
    exact ⟨⟨a, s, y⟩, by simp [lcells, ha, hs, hy]⟩
theorem open_link {r : Reach} {b0 : Nat} {v : Value} {d : DataW H} {p : List MemPlace} (hv : Value.okWide Try.prog w r b0 30 v) (h : DataW.Trod enc Try.prog w base spare held 30 v d p) :
    ∃ o : PLink, v = elink o := by
  obtain ⟨cs, rfl, hsz⟩ := okWide_struct Try.underlying30 hv
  obtain ⟨fuel, hf⟩ := h
  obtain ⟨o, ho⟩ := trod_link hf
  refine ⟨o, ?_⟩
  have : cs.toList = lcells o := by simpa [Value.cells] using ho
  rw [show cs = (lcells o).toArray by rw [← this]]
  rfl

/-- A slice of links as the row hands it. -/
def LinksRaw (w : World) (a : Option Addr) (len cap : Nat) (l : List PLink) : Prop := l.length = len ∧ len ≤ maxLen ∧ (a = none → len = 0 ∧ cap = 0) ∧ LinksIn w a l
theorem LinksRaw.arg {w : World} {a : Option Addr} {len cap : Nat} {l : List PLink} (h : LinksRaw w a len cap l) (hf : len ≤ 1000) : LinksArg w a len cap l := ⟨h.1, by omega, h.2.2.1, h.2.2.2⟩
theorem open_links {r : Reach} {b0 : Nat} {t : TypeId} (ht : Try.prog.underlying t = some (.slice 30)) {v : Value} {d : DataW H} {p : List MemPlace} (hv : Value.okWide Try.prog w r b0 t v) (h : DataW.Trod enc Try.prog w base (fun _ => true) held t v d p) :
    ∃ (a : Option Addr) (len cap : Nat) (l : List PLink), v = .slice a len cap ∧ LinksRaw w a len cap l := by
  obtain ⟨a, len, cap, rfl⟩ := okWide_slice ht hv
  obtain ⟨fuel, hf⟩ := h
  have c4 : Try.prog.cellsOf 30 = 3 := by kernel_rfl
  rcases open_slice ht hf with ⟨hcs, _⟩ | ⟨x, len', cap', m, n, D, Pl, hcs, _, hl, hm, hmm, _, hi⟩
  · simp [Value.cells] at hcs
    obtain ⟨rfl, rfl, rfl⟩ := hcs
    exact ⟨_, _, _, [], rfl, rfl, by simp, by simp, fun k x hk => by simp at hk⟩
  · simp [Value.cells] at hcs
    obtain ⟨rfl, rfl, rfl⟩ := hcs
    simp only [if_true] at hmm
    subst hmm
    have hex : ∀ i, ∃ o : PLink, i < len → w.cells? base (x.add (i * 3)) 3 = some (lcells o) := fun i => by
      by_cases him : i < len
      · obtain ⟨cs', hc, ht'⟩ := hi i (by omega)
        rw [c4] at hc
        obtain ⟨o, rfl⟩ := trod_link ht'
        exact ⟨o, fun _ => hc⟩
      · exact ⟨⟨0, 0, 0⟩, fun h => absurd h him⟩
    obtain ⟨F, hF⟩ : ∃ F : Nat → PLink, ∀ i, i < len → w.cells? base (x.add (i * 3)) 3 = some (lcells (F i)) := ⟨fun i => Classical.choose (hex i), fun i => Classical.choose_spec (hex i)⟩
    refine ⟨_, _, _, (List.range len).map F, rfl, by simp, by omega, by simp, fun i o hio => ?_⟩
    have hil : i < len := by
      have := (List.getElem?_eq_some_iff.1 hio).1
      simpa using this
    have ho : F i = o := by simpa [hil] using hio
    subst ho
    obtain ⟨b, off, spot⟩ := x
    have hspot : spot = none := by
      obtain ⟨_, _, hat⟩ := World.cells?_some (hF 0 (by omega))
      have h00 := hat 0 (by omega)
      simp only [Addr.add, if_true, Nat.zero_mul] at h00
      exact World.cell?_spot (h00.trans (List.getElem?_eq_getElem (by simp [lcells])))
    subst hspot
    have hcell : ∀ j, (hj : j < 3) → w.cell? ⟨b, off + i * 3 + j, none⟩ = some ((lcells (F i))[j]'hj) := fun j hj => by
      obtain ⟨_, _, hat⟩ := World.cells?_some (hF i hil)
      have := hat j hj
      rw [add_plain, add_plain] at this
      rw [this]
      exact List.getElem?_eq_getElem hj
    exact ⟨b, off, rfl, cell_lt' (hcell 0 (by omega)), hcell 0 (by omega), hcell 1 (by omega), hcell 2 (by omega)⟩
end
end Go.Proofs.Ytpkhmhfgnpnpfaa
