/- Arguments opened to their cells: a slice of elements of k cells each, whose elements open; what is read is no longer than the reach. No program in sight. -/
import Derived.Test.YtmhmjbggjbeikaaCore
import Derived.ProofKit
import Derived.OpenShut
import Derived.Deep.Slices
import Derived.Deep.Fields
import Derived.Deep.Strs
import Derived.ChangeSame
import Derived.SizedLaws
namespace Go.Proofs.Ytmhmjbggjbeikaa
open Go.ChangeShapes Go.WideShapes Go.ChangeAt Go.RowKit Go.Deep

set_option maxRecDepth 100000
section
variable {H : Type} {enc : TypeId × Value → H} {P : Program} {w : World} {base : Nat} {spare : Nat → Bool} {held : Bool}

theorem weightsAll_mem {e : TypeId} : ∀ {l : List (DataW H)} {d : DataW H} {n : Nat}, d ∈ l → n ∈ d.weights P e → n ∈ DataW.weightsAll P e l
  | [], _, _, h, _ => by cases h
  | x :: l, d, n, h, hn => by
    rw [DataW.weightsAll, List.mem_append]
    rcases List.mem_cons.1 h with rfl | h
    · exact .inl hn
    · exact .inr (weightsAll_mem h hn)
theorem weights_part {t : TypeId} {fs : Array Field} (hu : P.underlying t = some (.struct fs)) {parts : List (DataW H)} {j : Nat} {f : Field} {d : DataW H} (hf : fs.toList[j]? = some f) (hd : parts[j]? = some d) {n : Nat} (hn : n ∈ d.weights P f.type) : n ∈ (DataW.agg parts).weights P t := by
  rw [DataW.weights, hu]
  exact DataW.weights_mem_each (j := j) (by simp only [List.getElem?_map, hf, Option.map_some]) hd n hn
/-- What is read weighs no more than the reach, each part of it. -/
def Light (P : Program) (t : TypeId) (d : DataW H) : Prop := ∀ n ∈ d.weights P t, n ≤ reachBytes
theorem Light.part {t : TypeId} {fs : Array Field} {parts : List (DataW H)} (h : Light P t (.agg parts)) (hu : P.underlying t = some (.struct fs)) {j : Nat} {f : Field} {d : DataW H} (hf : fs.toList[j]? = some f) (hd : parts[j]? = some d) : Light P f.type d :=
  fun n hn => h n (weights_part hu hf hd hn)
theorem Light.arg {ts : List TypeId} {ds : List (DataW H)} (h : (DataW.weightsEach P ts ds).all (· ≤ reachBytes) = true) {j : Nat} {t : TypeId} {d : DataW H} (ht : ts[j]? = some t) (hd : ds[j]? = some d) : Light P t d := fun n hn => by
  have := List.all_eq_true.1 h _ (DataW.weights_mem_each ht hd n hn)
  simpa using this

/-- A text no longer than the reach. -/
def reachText (s : ByteArray) : Prop := s.size ≤ reachBytes
theorem open_text {t : TypeId} {fuel : Nat} {cs : List Value} {x : DataW H × List MemPlace} (ht : P.underlying t = some .string) (h : DataW.trod enc P w base spare held fuel t cs = some x) (hz : Light P t x.1) : ∃ s : ByteArray, cs = [.string s] ∧ reachText s ∧ s.size ≤ maxLen := by
  obtain ⟨s, h1, h2, h3⟩ := DataW.trod_string ht h
  refine ⟨s, h1, ?_, h3⟩
  rw [h2] at hz
  have := hz s.data.toList.length (by simp [DataW.weights])
  unfold reachText
  simpa using this

theorem cell_in {w : World} {a : Addr} {v : Value} (h : w.cell? a = some v) : a.block < w.heap.size := by
  unfold World.cell? at h
  cases hk : w.heap[a.block]? with
  | none => simp [hk] at h
  | some x => exact (Array.getElem?_eq_some_iff.1 hk).1

variable {α : Type}
/-- A slice's elements, in memory. -/
def ElemsAt (cells : α → List Value) (k : Nat) (w : World) (a : Option Addr) (l : List α) : Prop :=
  ∀ (i : Nat) (o : α), l[i]? = some o → ∃ b off : Nat, a = some ⟨b, off, none⟩ ∧ b < w.heap.size ∧ ∀ (j : Nat) (u : Value), j < k → (cells o)[j]? = some u → w.cell? ⟨b, off + i * k + j, none⟩ = some u
theorem ElemsAt.keep {cells : α → List Value} {k : Nat} {w W : World} {a : Option Addr} {l : List α} (h : ElemsAt cells k w a l) (hb : Below w.heap.size w W) : ElemsAt cells k W a l := fun i o ho => by
  obtain ⟨b, off, h1, h2, h3⟩ := h i o ho
  exact ⟨b, off, h1, Nat.lt_of_lt_of_le h2 hb.size, fun j u hj hu => (hb.cell (p := ⟨b, off + i * k + j, none⟩) h2).trans (h3 j u hj hu)⟩

theorem open_elems {t e : TypeId} (ht : P.underlying t = some (.slice e)) (cells : α → List Value) (k : Nat) (hk : ∀ o, (cells o).length = k) (hpos : 0 < k) (hC : P.cellsOf e = k) (good : α → Prop) (dflt : α)
    (hel : ∀ (fuel : Nat) (cs : List Value) (x : DataW H × List MemPlace), DataW.trod enc P w base spare held fuel e cs = some x → Light P e x.1 → ∃ o, cs = cells o ∧ good o)
    {fuel : Nat} {cs : List Value} {x : DataW H × List MemPlace} (h : DataW.trod enc P w base spare held fuel t cs = some x) (hz : Light P t x.1) :
    ∃ (a : Option Addr) (n c : Nat) (l : List α), cs = [.slice a n c] ∧ l.length = n ∧ n ≤ c ∧ c ≤ maxLen ∧ n * P.bytesOf e ≤ reachBytes ∧ (∀ o ∈ l, good o) ∧ ElemsAt cells k w a l := by
  rcases open_slice ht h with ⟨hcs, _⟩ | ⟨x0, n, c, m, fu, D, Pl, hcs, _, hl, hm, hmm, hx, hi⟩
  · exact ⟨none, 0, 0, [], hcs, rfl, Nat.le_refl _, Nat.zero_le _, by simp, by simp, fun i o ho => by simp at ho⟩
  · have hnm : n ≤ m := by rw [hmm]; split <;> omega
    have hlight : ∀ i, i < n → Light P e (D i) := fun i hin q hq => hz q (by
      rw [hx]
      show q ∈ (DataW.slice _ _).weights P t
      rw [DataW.weights, ht]
      refine List.mem_cons_of_mem _ (List.mem_append.2 (.inl (weightsAll_mem (List.mem_map.2 ⟨i, List.mem_range.2 hin, rfl⟩) hq))))
    have hbytes : n * P.bytesOf e ≤ reachBytes := by
      have := hz ((n + (m - n)) * P.bytesOf e) (by
        rw [hx]
        show _ ∈ (DataW.slice _ _).weights P t
        rw [DataW.weights, ht]
        simp)
      exact Nat.le_trans (Nat.mul_le_mul_right _ (by omega)) this
    have hex : ∀ i, ∃ o : α, i < n → good o ∧ w.cells? base (x0.add (i * k)) k = some (cells o) := fun i => by
      by_cases hin : i < n
      · obtain ⟨cs', hc, ht'⟩ := hi i (by omega)
        rw [hC] at hc
        obtain ⟨o, rfl, ho⟩ := hel _ _ _ ht' (hlight i hin)
        exact ⟨o, fun _ => ⟨ho, hc⟩⟩
      · exact ⟨dflt, fun h => absurd h hin⟩
    obtain ⟨F, hF⟩ : ∃ F : Nat → α, ∀ i, i < n → good (F i) ∧ w.cells? base (x0.add (i * k)) k = some (cells (F i)) := ⟨fun i => Classical.choose (hex i), fun i => Classical.choose_spec (hex i)⟩
    refine ⟨some x0, n, c, (List.range n).map F, hcs, by simp, hl, hm, hbytes, ?_, ?_⟩
    · intro o ho
      simp only [List.mem_map, List.mem_range] at ho
      obtain ⟨i, hil, rfl⟩ := ho
      exact (hF i hil).1
    · intro i o hio
      have hil : i < n := by
        have := (List.getElem?_eq_some_iff.1 hio).1
        simpa using this
      have ho : F i = o := by simpa [hil] using hio
      subst ho
      obtain ⟨b, off, spot⟩ := x0
      have hspot : spot = none := by
        obtain ⟨_, _, hat⟩ := World.cells?_some (hF 0 (by omega)).2
        have h00 := hat 0 hpos
        simp only [Addr.add, if_true, Nat.zero_mul] at h00
        exact World.cell?_spot (h00.trans (List.getElem?_eq_getElem (by rw [hk]; exact hpos)))
      subst hspot
      have hcell : ∀ j, (hj : j < k) → w.cell? ⟨b, off + i * k + j, none⟩ = (cells (F i))[j]? := fun j hj => by
        obtain ⟨_, _, hat⟩ := World.cells?_some (hF i hil).2
        have := hat j hj
        rw [add_plain, add_plain] at this
        exact this
      have hb : b < w.heap.size := cell_in ((hcell 0 hpos).trans (List.getElem?_eq_getElem (by rw [hk]; exact hpos)))
      exact ⟨b, off, rfl, hb, fun j u hj hu => (hcell j hj).trans hu⟩
end
end Go.Proofs.Ytmhmjbggjbeikaa
