/- slices.Grow, Concat of links. -/
import Derived.Test.YtpkhmhfgnpnpfaaSl2
import Derived.Shelf.Spec.SlicesGrow
namespace Go.Proofs.Ytpkhmhfgnpnpfaa
set_option linter.unusedSimpArgs false
set_option linter.unusedVariables false
open Go.RowKit
attribute [local go_sem] objAt_alloc objAt_alloc_at objAt_drew objAt_drewN objAt_setCell comesTo_value comesTo_enter

theorem grow_row {P : Program} {ρ : Shelf.Ren} (L : Lays8.n4 P ρ) (e : TypeId) (he : ρ.t 25 = e) (i0 : TypeInfo) (z : Value) (k : Nat) (hi : P.info? e = some i0) (hz : i0.zero = some z) (hk : i0.size = k) (hzk : z.cells.size = k) (h0 : 0 < k) (n : Nat) (hn : n ≤ 100000) (hby : i0.bytes ≤ 1000) (w : World) :
    Calls P (ρ.f 4) #[.slice none 0 0, .int .i64 n] w fun x w' => ∃ v, x = .returned v ∧ w'.ownsRow w.heap.size e k v 0 [] ∧ Below w.heap.size w w' := by
  by_cases hn0 : n = 0
  · subst hn0
    exact (Any8.slices_Grow_room L none 0 0 0 w (by omega) (by omega) (by omega) (by omega)).mono fun x w' ⟨h1, h2⟩ => ⟨_, h1, by rw [h2]; exact ⟨World.ownsRow_nil _ _ _ _, Below.refl _ _⟩⟩
  · subst he
    refine (Any8.slices_Grow_grow L i0 z hi hz (by omega) none 0 0 n [] w (by omega) (by omega) ?_ (by omega) (by simp) (fun _ => rfl) (by simp)).mono fun x w' ⟨h1, h2⟩ => ⟨_, h1, ?_⟩
    · have : (0 + n) * i0.bytes ≤ 100000 * 1000 := by rw [Nat.zero_add]; exact Nat.mul_le_mul hn hby
      omega
    · rw [h2]
      have hge : 0 + n ≤ grownCap w (0 + n) 0 (ρ.t 25) := grownCap_ge w _ _ _
      have hle : grownCap w (0 + n) 0 (ρ.t 25) ≤ maxLen := grownCap_le_maxLen w (0 + n) 0 (ρ.t 25) (by unfold maxLen; omega)
      generalize grownCap w (0 + n) 0 (ρ.t 25) = G at *
      refine ⟨⟨by simp, .inr ⟨w.heap.size, G, _, rfl, Nat.le_refl _, heap_alloc_new w.drew _, Nat.zero_le _, hle, ?_, by simp⟩⟩, ((Below.refl _ _).drew).alloc (Nat.le_refl _) _⟩
      simp [Builtin.zeroCells, hzk]
      rw [← Nat.add_mul]
      congr 1
      omega
theorem growLinks_calls (n : Nat) (hn : n ≤ 100000) (w : World) :
    Calls Try.prog 115 #[.slice none 0 0, .int .i64 n] w fun x w' => ∃ v, x = .returned v ∧ w'.ownsRow w.heap.size 30 3 v 0 [] ∧ Below w.heap.size w w' := by
  obtain ⟨j0, hj, hy0, hy1, hy2⟩ := info_parts linkInfo
  exact grow_row Proofs.Try.growLinks 30 rfl j0 _ 3 hj hy0 hy1 rfl (by decide) n hn (by rw [hy2]; omega) w

theorem LinksArg.cells {w : World} {a : Option Addr} {n c : Nat} {l : List PLink} (h : LinksArg w a n c l) : CellsIn w a (l.flatMap lcells) := h.2.2.2.cells
set_option maxHeartbeats 2000000 in
set_option maxRecDepth 100000 in
/-- slices.Concat of two. -/
theorem concatLinks_calls (p : Nat) (a1 a2 : Option Addr) (n1 c1 n2 c2 : Nat) (l1 l2 : List PLink) (w : World) (hp : p < w.heap.size) (h0 : w.cell? ⟨p, 0, none⟩ = some (.slice a1 n1 c1)) (h1 : w.cell? ⟨p, 1, none⟩ = some (.slice a2 n2 c2))
    (ha : LinksArg w a1 n1 c1 l1) (hb : LinksArg w a2 n2 c2 l2) (hn1 : n1 ≤ 1000) (hn2 : n2 ≤ 1000) :
    Calls Try.prog 89 #[.slice (some ⟨p, 0, none⟩) 2 2] w (LinksPost w (l1 ++ l2)) := by
  obtain ⟨j0, hj, hy0, hy1, hy2⟩ := info_parts linkInfo
  have HA := hide ha
  have HB := hide hb
  have hl1 := ha.1
  have hl2 := hb.1
  have HC0 : Hid (∀ W, Below w.heap.size w W → W.cell? ⟨p, 0, none⟩ = some (.slice a1 n1 c1) ∧ W.cell? ⟨p, 1, none⟩ = some (.slice a2 n2 c2)) := hide fun W hW => ⟨(hW.cell (p := ⟨p, 0, none⟩) hp).trans h0, (hW.cell (p := ⟨p, 1, none⟩) hp).trans h1⟩
  clear ha hb
  go_enter Try.func89, Try.ntmps89
  go_wp2_with fail
  go_loop [3, 11] (fun s i => (i = .int .i64 0 ∧ s = .int .i64 0) ∨ (i = .int .i64 1 ∧ s = .int .i64 n1) ∨ (i = .int .i64 2 ∧ s = .int .i64 ((n1 + n2 : Nat) : Int))) (fun _ i => 2 - (intOf i).toNat)
  case atStart => exact .inl ⟨rfl, rfl⟩
  case round =>
    rcases hrel with ⟨rfl, rfl⟩ | ⟨rfl, rfl⟩ | ⟨rfl, rfl⟩
    · go_wp2_with fail
      exact ⟨.inr (.inl ⟨by go_num, by go_num⟩), by simp [intOf]⟩
    · go_wp2_with fail
      exact ⟨.inr (.inr ⟨by go_num, by go_num⟩), by simp [intOf]⟩
    · have HG := hide (growLinks_calls (n1 + n2) (by omega) w)
      clear h0 h1
      go_wp2_with fail
      refine HG.out.mono ?_
      rintro e w1 ⟨v1, rfl, hv1, hb1⟩
      have HV1 := hide hv1
      have HB1 := hide hb1
      clear hv1 hb1
      go_wp2_with fail
      go_loopw [6, 27] (fun v i wr => Hid (Below w.heap.size w wr) ∧ ((i = .int .i64 0 ∧ Hid (wr.ownsRow w.heap.size 30 3 v 0 [])) ∨ (i = .int .i64 1 ∧ Hid (wr.ownsRow w.heap.size 30 3 v n1 (l1.flatMap lcells))) ∨ (i = .int .i64 2 ∧ Hid (wr.ownsRow w.heap.size 30 3 v (n1 + n2) (l1.flatMap lcells ++ l2.flatMap lcells))))) (fun _ i _ => 2 - (intOf i).toNat)
      case atStart => exact ⟨HB1, .inl ⟨rfl, HV1⟩⟩
      case round =>
        clear HG HB1 HV1
        obtain ⟨hbel, hrel⟩ := hrel
        obtain ⟨g0, g1⟩ := HC0.out _ hbel.out
        have hsz := hbel.out.size
        rcases hrel with ⟨rfl, hown⟩ | ⟨rfl, hown⟩ | ⟨rfl, hown⟩
        · have HNX := hide (HA.out.below hbel.out)
          go_wp2_with (at_builtin; refine wpList_append_cells rfl (.tmp 31) (.tmp 32) _ 30 rfl w.heap.size j0 _ 3 24 Try.underlying22 hj hy0 hy1 hy2 rfl (by decide) _ 0 [] rfl hown.out a1 n1 c1 (l1.flatMap lcells) rfl (by rw [flat_length lcells 3 lcells_len, hl1]) HNX.out.2.2.1 HNX.out.cells (lcells_all l1) (by unfold maxLen; omega) (by omega) hsz ?_; intro v2 w2 hown2 hgrow2; have HO2 := hide hown2; have HG2 := hide hgrow2; clear hown2 hgrow2)
          have hf : Frm (fun j => w.heap.size ≤ j) wr w2 := (Frm.refl _ _).grown HG2.out fun q hq => .inl ((hown.out.lt q hq).1)
          have HB2 := hide (hbel.out.trans (hf.below hsz fun j hj => hj))
          clear hf
          exact ⟨⟨HB2, .inr (.inl ⟨by go_num, by simpa using HO2⟩)⟩, by simp [intOf]⟩
        · have HNX := hide (HB.out.below hbel.out)
          go_wp2_with (at_builtin; refine wpList_append_cells rfl (.tmp 31) (.tmp 32) _ 30 rfl w.heap.size j0 _ 3 24 Try.underlying22 hj hy0 hy1 hy2 rfl (by decide) _ n1 (l1.flatMap lcells) rfl hown.out a2 n2 c2 (l2.flatMap lcells) rfl (by rw [flat_length lcells 3 lcells_len, hl2]) HNX.out.2.2.1 HNX.out.cells (lcells_all l2) (by unfold maxLen; omega) (by omega) hsz ?_; intro v2 w2 hown2 hgrow2; have HO2 := hide hown2; have HG2 := hide hgrow2; clear hown2 hgrow2)
          have hf : Frm (fun j => w.heap.size ≤ j) wr w2 := (Frm.refl _ _).grown HG2.out fun q hq => .inl ((hown.out.lt q hq).1)
          have HB2 := hide (hbel.out.trans (hf.below hsz fun j hj => hj))
          clear hf
          exact ⟨⟨HB2, .inr (.inr ⟨by go_num, HO2⟩)⟩, by simp [intOf]⟩
        · go_wp2_with fail
          go_ret
          exact ⟨_, rfl, by simpa [hl1, hl2] using hown.out, hbel.out⟩
end Go.Proofs.Ytpkhmhfgnpnpfaa
