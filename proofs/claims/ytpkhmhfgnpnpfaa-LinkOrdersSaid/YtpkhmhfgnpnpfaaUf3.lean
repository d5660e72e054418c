/- Package uf: Join, Same. -/
import Derived.Test.YtpkhmhfgnpnpfaaUf2
import Derived.Deep.CutRange
import Derived.Deep.CutBlock
namespace Go.Proofs.Ytpkhmhfgnpnpfaa
set_option linter.unusedSimpArgs false
set_option linter.unusedVariables false
open Go.RowKit
attribute [local go_sem] objAt_alloc objAt_alloc_at objAt_drew objAt_drewN objAt_setCell comesTo_value comesTo_enter

/-- What a slice of numbers leads to, wherever it lies. -/
def IntsIn (w : World) (a : Option Addr) (l : List Int) : Prop :=
  ∀ (k : Nat) (x : Int), l[k]? = some x → ∃ b off : Nat, a = some ⟨b, off, none⟩ ∧ b < w.heap.size ∧ w.cell? ⟨b, off + k, none⟩ = some (.int .i64 x)
/-- No block of S is the slice's. -/
def Clear (a : Option Addr) (S : Nat → Prop) : Prop := ∀ x : Addr, a = some x → ¬ S x.block
theorem IntsIn.frm {w w' : World} {S : Nat → Prop} {a : Option Addr} {l : List Int} (h : IntsIn w a l) (hf : Frm S w w') (hc : Clear a S) : IntsIn w' a l := fun k x hx => by
  obtain ⟨b, off, rfl, h2, h3⟩ := h k x hx
  exact ⟨b, off, rfl, Nat.lt_of_lt_of_le h2 hf.size, (hf.cell (p := ⟨b, off + k, none⟩) h2 (hc ⟨b, off, none⟩ rfl)).trans h3⟩
theorem IntsIn.below {w w' : World} {a : Option Addr} {l : List Int} (h : IntsIn w a l) (hb : Below w.heap.size w w') : IntsIn w' a l := h.frm (Frm.of_below (S := None) hb) (fun _ _ => id)
theorem row_ints {w : World} {B : Nat} {e : TypeId} {v : Value} {l : List Int} (h : w.ownsRow B e 1 v l.length (goInts l)) : ∃ a c, v = .slice a l.length c ∧ IntsIn w a l ∧ ∀ x, a = some x → v.ownBlock = some x.block := by
  rcases h.2 with ⟨rfl, h0⟩ | ⟨g, cap, cur, rfl, h1, h2, _⟩
  · refine ⟨none, 0, by rw [h0], fun k x hk => ?_, by simp⟩
    rw [List.eq_nil_of_length_eq_zero h0] at hk
    simp at hk
  · refine ⟨some ⟨g, 0, none⟩, cap, rfl, fun k x hk => ⟨g, 0, rfl, (Array.getElem?_eq_some_iff.1 h2).1, ?_⟩, by intro x hx; simp at hx; subst hx; rfl⟩
    have hlt := (List.getElem?_eq_some_iff.1 hk).1
    rw [Nat.zero_add, h.cellAt k (by omega)]
    simp [goInts, hk]

/-- Two heads made one, in memory. -/
theorem join_store {w : World} {u : Nat} {F : Nat → Prop} {c : Cls} (h : UfAt w u F c) {a b : Int} (ha : isHead c a) (hb : isHead c b) (hab : a ≠ b) :
    ∃ r n cp, w.cell? ⟨u, 0, none⟩ = some (.slice (some ⟨r, 0, none⟩) n cp) ∧ (n : Int) = c.n ∧ F r ∧ (∀ k, w.frozen? ⟨r, k, none⟩ = false) ∧ (∀ k, k < n → ∃ v, w.cell? ⟨r, k, none⟩ = some v) ∧
      UfAt (w.setCell ⟨r, (max a b - 1).toNat, none⟩ (.int .i64 (min a b))) u F (mergeC c a b) ∧ Frm F w (w.setCell ⟨r, (max a b - 1).toNat, none⟩ (.int .i64 (min a b))) := by
  obtain ⟨uv, up, h1, rfl, h3, h4, h5⟩ := h
  obtain ⟨aa, cp, huv, hc, hk⟩ := h1.reads
  obtain ⟨a1, a2, a3⟩ := ha
  obtain ⟨b1, b2, b3⟩ := hb
  change a ≤ up.length at a2
  change b ≤ up.length at b2
  obtain ⟨r, rfl, _⟩ := hk 0 (by omega)
  have hr : F r := h4 r (by rw [huv]; rfl)
  have hrow := h1.row
  rw [huv] at hrow
  have hru : r ≠ u := by
    have := h1.apart
    rw [huv] at this
    simpa [Value.ownBlock] using this
  obtain ⟨pa, rfl⟩ : ∃ p : Nat, a = p := ⟨a.toNat, by omega⟩
  obtain ⟨pb, rfl⟩ : ∃ p : Nat, b = p := ⟨b.toNat, by omega⟩
  rw [clsOf_f (by omega) (by omega)] at a3 b3
  have root : ∀ p : Nat, 1 ≤ p → p ≤ up.length → headOf up p = p → up.getD (p - 1) 0 = p := fun p q1 q2 q3 => by
    have := (head_root h1.good q1 q2).2.2
    rwa [q3] at this
  have ra := root pa (by omega) (by omega) (by omega)
  have rb := root pb (by omega) (by omega) (by omega)
  refine ⟨r, up.length, cp, hc, rfl, hr, fun k => hrow.frozenAt k, fun k hk' => ?_, ?_, (Frm.refl F w).setCell (.inl hr) _⟩
  · obtain ⟨r', e, h6⟩ := hk k hk'
    simp at e; subst e
    exact ⟨_, h6⟩
  · obtain ⟨lo, hlo⟩ : ∃ lo, min pa pb = lo := ⟨_, rfl⟩
    obtain ⟨hi, hhi⟩ : ∃ hi, max pa pb = hi := ⟨_, rfl⟩
    have e1 : (max (pa : Int) pb - 1).toNat = hi - 1 := by omega
    have e2 : min (pa : Int) pb = (lo : Int) := by omega
    rw [e1, e2]
    have rl : up.getD (lo - 1) 0 = lo := by
      rcases (show lo = pa ∨ lo = pb by omega) with e | e <;> rw [e] <;> assumption
    have rh : up.getD (hi - 1) 0 = hi := by
      rcases (show hi = pa ∨ hi = pb by omega) with e | e <;> rw [e] <;> assumption
    refine ⟨uv, up.set (hi - 1) lo, ⟨?_, ?_, h1.apart, good_set h1.good (by omega) (by omega) (by omega), by rw [List.length_set]; exact h1.small⟩, ?_, h3, h4, fun j hj => Nat.lt_of_lt_of_le (h5 j hj) (by simp [World.setCell])⟩
    · rw [Below.heap_setCell _ _ _ _ (by simpa using Ne.symm hru)]
      exact h1.cell
    · have := (hrow.stored (hi - 1) (.int .i64 lo)).1
      rw [huv, List.length_set]
      simpa [goNats, List.map_set] using this
    · exact clsOf_set h1.good (by omega) (by omega) (by omega) rl rh (by omega) (by omega)

theorem joinC_snoc (l0 : Int) (l : List Int) (x : Int) : ∀ c, joinC c l0 (l ++ [x]) = mergeC (joinC c l0 l) ((joinC c l0 l).f l0) ((joinC c l0 l).f x) := by
  induction l with
  | nil => intro c; rfl
  | cons y l ih => intro c; exact ih _
theorem joinL_head (c : Cls) (l : List Int) : joinL c l = joinC c (l.headD 0) l := by cases l <;> rfl

/-- What Join does: of the number that it tells nothing is said. -/
def JoinPost (w : World) (u : Nat) (F : Nat → Prop) (c : Cls) (e : Ending) (w' : World) : Prop := (∃ n, e = .returned (.tuple #[.int .i64 n, .int .i64 0])) ∧ UfAt w' u F c ∧ Frm F w w'
set_option maxHeartbeats 2000000 in
set_option maxRecDepth 100000 in
theorem join_calls (u : Nat) (F : Nat → Prop) (c : Cls) (a : Option Addr) (n cp : Nat) (l : List Int) (w : World) (h : UfAt w u F c) (hn : l.length = n) (hm : n ≤ 1099511627776) (hl : IntsIn w a l) (hc : Clear a F) (hin : allIn c l) :
    Calls Try.prog 43 #[.pointer (some ⟨u, 0, none⟩), .slice a n cp] w (JoinPost w u F (joinL c l)) := by
  have HOK := hide h.ok.1
  have HU := hide h
  have HL := hide hl
  have HC := hide hc
  have HIN := hide hin
  clear h hl hc hin
  go_enter Try.func43, Try.ntmps43
  go_wp2_with fail
  go_loop [17] (fun i => ∃ k : Nat, k ≤ n ∧ i = .int .i64 k) (fun i => n - (intOf i).toNat)
  case atStart => exact ⟨0, by omega, rfl⟩
  case round =>
    obtain ⟨k, hk, rfl⟩ := hrel
    by_cases hlt : k < n
    · obtain ⟨x, hx⟩ : ∃ x, l[k]? = some x := ⟨l[k]'(by omega), List.getElem?_eq_getElem (by omega)⟩
      obtain ⟨b, off, rfl, hb0, g1⟩ := HL.out k x hx
      have his := is_calls x HU.out
      have e1 : decide (1 ≤ x ∧ x ≤ (c.n : Int)) = true := decide_eq_true (HIN.out x (List.mem_of_getElem? hx))
      rw [e1] at his
      have HIS := hide his
      clear his e1 hx
      go_wp2_with (go_at_call 48; refine HIS.out.mono ?_; rintro e w1 ⟨rfl, rfl⟩)
      go_round
      case rel => exact ⟨k + 1, by omega, by go_num⟩
      case measure => simp [intOf]; omega
    · have hkn : k = n := by omega
      subst hkn
      have hbase : UfAt w u F (joinC c (l.headD 0) (l.take 0)) := HU.out
      have HBASE := hide hbase
      clear hbase hlt
      go_wp2_with fail
      go_loopw [8, 28] (fun nv i wr => ∃ (j : Nat) (m : Int), j ≤ k ∧ i = .int .i64 j ∧ nv = .int .i64 m ∧ Hid (UfAt wr u F (joinC c (l.headD 0) (l.take j))) ∧ Hid (Frm F w wr)) (fun _ i _ => k - (intOf i).toNat)
      case atStart => exact ⟨0, 0, by omega, rfl, rfl, HBASE, hide (Frm.refl _ _)⟩
      case round =>
        obtain ⟨j, m, hj, rfl, rfl, hu, hf⟩ := hrel
        clear HBASE
        by_cases hlt : j < k
        · obtain ⟨x, hx⟩ : ∃ x, l[j]? = some x := ⟨l[j]'(by omega), List.getElem?_eq_getElem (by omega)⟩
          obtain ⟨x0, hx0⟩ : ∃ x0, l[0]? = some x0 := ⟨l[0]'(by omega), List.getElem?_eq_getElem (by omega)⟩
          have hL := HL.out.frm hf.out HC.out
          obtain ⟨b, off, rfl, hb0, g1⟩ := hL j x hx
          obtain ⟨b', off', e, _, g0⟩ := hL 0 x0 hx0
          simp only [Option.some.injEq, Addr.mk.injEq, and_true] at e
          obtain ⟨rfl, rfl⟩ := e
          rw [Nat.add_zero] at g0
          have hd0 : l.headD 0 = x0 := by
            cases l with
            | nil => simp at hx0
            | cons y r => simpa using hx0
          have htk : l.take (j + 1) = l.take j ++ [x] := by
            obtain ⟨q1, q2⟩ := List.getElem?_eq_some_iff.1 hx
            rw [List.take_succ_eq_append_getElem q1, q2]
          have hx0in := HIN.out x0 (List.mem_of_getElem? hx0)
          have hxin := HIN.out x (List.mem_of_getElem? hx)
          have hsn : joinC c (l.headD 0) (l.take (j + 1)) = mergeC (joinC c (l.headD 0) (l.take j)) ((joinC c (l.headD 0) (l.take j)).f x0) ((joinC c (l.headD 0) (l.take j)).f x) := by rw [htk, joinC_snoc, hd0]
          have hcn := joinC_n (l.headD 0) (l.take j) c
          obtain ⟨c1, hc1⟩ : ∃ c1, joinC c (l.headD 0) (l.take j) = c1 := ⟨_, rfl⟩
          rw [hc1] at hu hsn hcn
          have hok := hu.out.ok.1
          have ha : isHead c1 (c1.f x0) := isHead_f hok hx0in.1 (by rw [hcn]; exact hx0in.2)
          have hb : isHead c1 (c1.f x) := isHead_f hok hxin.1 (by rw [hcn]; exact hxin.2)
          have HSN := hide hsn
          have HA := hide ha
          have HB := hide hb
          have hA := HA.out.2.1
          have hB := HB.out.2.1
          have hA1 := HA.out.1
          have hB1 := HB.out.1
          have hs1 := hu.out.ok.2
          have HH0 := hide (head_calls x0 hu.out)
          have HH1 := hide (head_calls x hu.out)
          clear hx hx0 hd0 htk hsn hx0in hxin ha hb hok hcn hc1
          obtain ⟨ya, hya⟩ : ∃ y, c1.f x0 = y := ⟨_, rfl⟩
          obtain ⟨yb, hyb⟩ : ∃ y, c1.f x = y := ⟨_, rfl⟩
          rw [hya] at HSN HA hA hA1 HH0
          rw [hyb] at HSN HB hB hB1 HH1
          clear hya hyb
          go_wp2_with (go_at_call 44; refine Hid.out ?_)
          refine hide ?_
          refine HH0.out.mono ?_
          rintro e w1 ⟨rfl, rfl⟩
          by_cases hab : ya = yb
          · subst hab
            rw [mergeC_same] at HSN
            go_wp2_with (go_at_call 44; refine Hid.out ?_)
            refine hide ?_
            refine HH1.out.mono ?_
            rintro e w1 ⟨rfl, rfl⟩
            go_wp2_with fail
            exact ⟨⟨j + 1, m, by omega, by go_num, rfl, by rw [HSN.out]; exact hu, hf⟩, by simp [intOf]; omega⟩
          · obtain ⟨r, n0, cp0, s1, s2, s3, s4, s5, s6, s7⟩ := join_store hu.out HA.out HB.out hab
            have hne : (ya != yb) = true := by simpa using hab
            have hlt0 : (max ya yb - 1).toNat < n0 := by omega
            obtain ⟨v5, s5⟩ := s5 _ hlt0
            have s4 := s4 (max ya yb - 1).toNat
            have hi1 : 0 ≤ max ya yb - 1 := by omega
            have hi2 : max ya yb - 1 < (n0 : Int) := by omega
            have HS6 := hide s6
            have HS7 := hide s7
            clear s6 s7
            rcases Int.lt_or_gt_of_ne hab with hlt2 | hlt2
            · rw [show (max ya yb - 1).toNat = yb.toNat - 1 by omega] at s4 s5 HS6 HS7 hlt0
              rw [show min ya yb = ya by omega] at HS6 HS7
              clear hab
              go_wp2_with (go_at_call 44; refine Hid.out ?_)
              refine hide ?_
              refine HH1.out.mono ?_
              rintro e w1 ⟨rfl, rfl⟩
              go_wp2_with fail
              exact ⟨⟨j + 1, _, by omega, by go_num, rfl, hide (by rw [HSN.out]; exact HS6.out), hide (hf.out.trans HS7.out fun _ => .inl)⟩, by simp [intOf]; omega⟩
            · rw [show (max ya yb - 1).toNat = ya.toNat - 1 by omega] at s4 s5 HS6 HS7 hlt0
              rw [show min ya yb = yb by omega] at HS6 HS7
              clear hab
              go_wp2_with (go_at_call 44; refine Hid.out ?_)
              refine hide ?_
              refine HH1.out.mono ?_
              rintro e w1 ⟨rfl, rfl⟩
              go_wp2_with fail
              exact ⟨⟨j + 1, _, by omega, by go_num, rfl, hide (by rw [HSN.out]; exact HS6.out), hide (hf.out.trans HS7.out fun _ => .inl)⟩, by simp [intOf]; omega⟩
        · have hjk : j = k := by omega
          subst hjk
          have HE : Hid (joinC c (l.headD 0) (l.take j) = joinL c l) := hide (by rw [← hn, List.take_length, ← joinL_head])
          rw [HE.out] at hu
          go_wp2_with fail
          go_ret2
          exact ⟨⟨m, rfl⟩, hu.out, hf.out⟩
end Go.Proofs.Ytpkhmhfgnpnpfaa
