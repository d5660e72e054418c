/- Package link: a Graph in memory; joined. -/
import Derived.Test.YtpkhmhfgnpnpfaaSl3
namespace Go.Proofs.Ytpkhmhfgnpnpfaa
set_option linter.unusedSimpArgs false
set_option linter.unusedVariables false
open Go.RowKit
attribute [local go_sem] objAt_alloc objAt_alloc_at objAt_drew objAt_drewN objAt_setCell comesTo_value comesTo_enter

/-- What a graph that a walk makes of links is made of: its classes, and that nothing old has turned. -/
def UfNew (w : World) (c : Cls) (e : Ending) (w' : World) : Prop := ∃ u F, e = .returned (.pointer (some ⟨u, 0, none⟩)) ∧ UfAt w' u F c ∧ (∀ j, F j → w.heap.size ≤ j) ∧ Below w.heap.size w w'

theorem rowsAt_get {w : World} {B : Nat} {v : Value} {L : List (List Int)} (h : RowsAt w B v L) : ∃ a c, v = .slice a L.length c ∧ ∀ k l, L[k]? = some l → ∃ r ra rc, a = some ⟨r, 0, none⟩ ∧ r < w.heap.size ∧ w.cell? ⟨r, k, none⟩ = some (.slice ra l.length rc) ∧ IntsIn w ra l ∧ ∀ x, ra = some x → B ≤ x.block := by
  obtain ⟨vs, h1, h2, _⟩ := h
  have hlen := own_len h1
  rcases h1.2 with ⟨rfl, h0⟩ | ⟨g, cap, cur, rfl, g1, g2, _⟩
  · refine ⟨none, 0, by rw [h0], fun k l hk => ?_⟩
    rw [List.eq_nil_of_length_eq_zero h0] at hk
    simp at hk
  · refine ⟨some ⟨g, 0, none⟩, cap, rfl, fun k l hk => ?_⟩
    have hlt := (List.getElem?_eq_some_iff.1 hk).1
    obtain ⟨u, hu⟩ : ∃ u, vs[k]? = some u := ⟨vs[k]'(by omega), List.getElem?_eq_getElem (by omega)⟩
    have hr := h2 k u l hu hk
    obtain ⟨ra, rc, rfl, q1, q2⟩ := row_ints hr
    exact ⟨g, ra, rc, rfl, (Array.getElem?_eq_some_iff.1 g2).1, by rw [h1.cellAt k (by omega)]; exact hu, q1, fun x hx => (hr.lt _ (q2 x hx)).1⟩
theorem withC_snoc (c : Cls) (l : List PLink) (x : PLink) : withC c (l ++ [x]) = if x.kind = 1 then mergeC (withC c l) ((withC c l).f x.src) ((withC c l).f x.dst) else withC c l := by
  rw [withC_append]; rfl
theorem foldl_snoc {α β : Type} (f : α → β → α) (a : α) (l : List β) (x : β) : (l ++ [x]).foldl f a = f (l.foldl f a) x := by simp
theorem take_snoc {α : Type} {l : List α} {k : Nat} {x : α} (h : l[k]? = some x) : l.take (k + 1) = l.take k ++ [x] := by
  obtain ⟨q1, q2⟩ := List.getElem?_eq_some_iff.1 h
  rw [List.take_succ_eq_append_getElem q1, q2]

set_option maxHeartbeats 4000000 in
set_option maxRecDepth 100000 in
theorem joined_walk (g u0 : Nat) (F0 : Nat → Prop) (c : Cls) (a : Option Addr) (n cp : Nat) (l : List PLink) (w : World) (hg : w.cell? ⟨g, 0, none⟩ = some (.pointer (some ⟨u0, 0, none⟩))) (hu : UfAt w u0 F0 c) (hl : LinksArg w a n cp l) (hin : ∀ x ∈ l, linkIn c x) :
    Calls Try.prog 88 #[.pointer (some ⟨g, 0, none⟩), .slice a n cp] w (UfNew w (withC c l)) := by
  have hok := hu.ok.1
  have hsm := hu.ok.2
  have hgs : g < w.heap.size := World.block_lt_of_cell? w _ hg
  have HOK := hide hok
  have HU := hide hu
  have HL := hide hl
  have HIN := hide hin
  have hll := hl.1
  have hlm := hl.2.1
  obtain ⟨m, hm⟩ : ∃ m, (classesC c).length = m := ⟨_, rfl⟩
  have hmm : m ≤ 1000 := by
    rw [← hm, classesC, List.length_map]
    have := List.length_filter_le (fun h => decide (c.f h = h)) (nums c.n)
    rw [nums_length] at this
    exact Nat.le_trans this hsm
  have HM := hide hm
  obtain ⟨k0, hk0⟩ : ∃ k0, c.n = k0 := ⟨_, rfl⟩
  have HLEN := hide (len_calls hu)
  rw [hk0] at HLEN hsm
  have HNEW := hide (fun W => ufnew_calls k0 hsm W)
  have HK0 := hide hk0
  clear hu hl hin hok hm hk0
  go_enter Try.func88, Try.ntmps88
  go_wp2_with (go_at_call 52; refine HLEN.out.mono ?_; rintro e w1 ⟨rfl, rfl⟩)
  go_wp2_with (go_at_call 42; refine Hid.out ?_)
  refine hide ?_
  refine (HNEW.out _).mono ?_
  rintro e w1 ⟨u1, F1, rfl, hu1, hF1, hb1⟩
  have HU1 := hide hu1
  have HF1 := hide hF1
  have HF1b : Hid (∀ j, F1 j → j < w1.heap.size) := hide (by obtain ⟨uv, up, _, _, _, _, h⟩ := hu1; exact h)
  have HB1 := hide hb1
  have HCL := hide (classes_calls (HU.out.below hb1))
  have hg1 := (hb1.cell (p := ⟨g, 0, none⟩) hgs).trans hg
  clear hu1 hF1 hb1 hg HLEN HNEW
  go_wp2_with (go_at_call 85; refine Hid.out ?_)
  refine hide ?_
  refine HCL.out.mono ?_
  rintro e w2 ⟨v2, rfl, hv2, hb2⟩
  obtain ⟨ra, rc, rfl, _⟩ := rowsAt_get hv2
  have HV2 := hide hv2
  have HB2 := hide hb2
  have HSTART : Hid (UfAt w2 u1 F1 (((classesC c).take 0).foldl joinL (freshC c.n))) := hide (by rw [HK0.out]; exact HU1.out.below hb2)
  rw [HM.out] at HV2 ⊢
  have HR2 : Hid (RowsAt w2 w1.heap.size (.slice ra m rc) (classesC c)) := HV2
  clear hv2 hb2 HCL HU1 hg1
  go_wp2_with fail
  go_loopw [8, 26] (fun _ i wr => ∃ k : Nat, k ≤ m ∧ i = .int .i64 k ∧ Hid (UfAt wr u1 F1 (((classesC c).take k).foldl joinL (freshC c.n))) ∧ Hid (Frm F1 w2 wr)) (fun _ i _ => m - (intOf i).toNat)
  case atStart => exact ⟨0, by omega, rfl, HSTART, hide (Frm.refl _ _)⟩
  case round =>
    obtain ⟨k, hk, rfl, hu, hf⟩ := hrel
    clear HSTART
    by_cases hlt : k < m
    · obtain ⟨x, hx⟩ : ∃ x, (classesC c)[k]? = some x := ⟨(classesC c)[k]'(by rw [HM.out]; exact hlt), List.getElem?_eq_getElem (by rw [HM.out]; exact hlt)⟩
      have hR := HR2.out.frm hf.out (fun j hj => .inl (HF1b.out j hj))
      obtain ⟨ra', rc', e, hget⟩ := rowsAt_get hR
      obtain ⟨r, xa, xc, e2, hr, hcx, hix, hbx⟩ := hget k x hx
      simp only [Value.slice.injEq] at e
      obtain ⟨rfl, -, rfl⟩ := e
      subst e2
      have htk := take_snoc hx
      have hall : allIn (((classesC c).take k).foldl joinL (freshC c.n)) x := by
        intro i hi
        have hnn : (((classesC c).take k).foldl joinL (freshC c.n)).n = c.n := by
          have : ∀ (L : List (List Int)) (d : Cls), (L.foldl joinL d).n = d.n := by
            intro L
            induction L with
            | nil => intro d; rfl
            | cons y L ih => intro d; rw [List.foldl_cons, ih, joinL_n]
          rw [this]; rfl
        rw [hnn]
        have hmem := List.mem_of_getElem? hx
        unfold classesC at hmem
        obtain ⟨h, _, rfl⟩ := List.mem_map.1 hmem
        have := (mem_classC HOK.out).1 hi
        exact (HOK.out.pos_iff i).1 (by rw [this.2]; exact this.1)
      have hxl : x.length ≤ 1000 := by
        have hmem := List.mem_of_getElem? hx
        unfold classesC at hmem
        obtain ⟨h, _, rfl⟩ := List.mem_map.1 hmem
        unfold classC
        split
        · simp
        · have := List.length_filter_le (fun j => decide (c.f j = c.f h)) (nums c.n)
          rw [nums_length] at this
          have := HK0.out
          omega
      have HJ := hide (join_calls u1 F1 _ xa x.length xc x wr hu.out rfl (by omega) hix (fun y hy hF => by have := hbx y hy; have := HF1b.out _ hF; omega) hall)
      have HNX : Hid (((classesC c).take (k + 1)).foldl joinL (freshC c.n) = joinL (((classesC c).take k).foldl joinL (freshC c.n)) x) := hide (by rw [htk, foldl_snoc])
      clear hall hxl htk hx hR hget hix hbx
      obtain ⟨xn, hxn⟩ : ∃ xn, x.length = xn := ⟨_, rfl⟩
      rw [hxn] at hcx HJ
      clear hxn
      go_wp2_with (go_at_call 43; refine HJ.out.mono ?_; rintro e w3 ⟨⟨jn, rfl⟩, hj1, hj2⟩; have HJ1 := hide hj1; have HJ2 := hide hj2; clear hj1 hj2)
      exact ⟨⟨k + 1, by omega, by go_num, by rw [HNX.out]; exact HJ1, hide (hf.out.trans HJ2.out fun _ => .inl)⟩, by simp [intOf]; omega⟩
    · have hkm : k = m := by omega
      subst hkm
      have HSTART : Hid (UfAt wr u1 F1 (withC c (l.take 0))) := hide (by
        have := hu.out
        rw [List.take_of_length_le (by rw [HM.out]; exact Nat.le_refl _), joined_same HOK.out] at this
        exact this)
      have HB3 : Hid (Below w.heap.size w wr) := hide (by
        have h1 := HB1.out.trans (HB2.out.mono HB1.out.size)
        exact h1.trans (hf.out.below h1.size fun j hj => HF1.out j hj))
      have HBZ : Hid (∀ j, F1 j → j < wr.heap.size) := hide fun j hj => by have := HF1b.out j hj; have := HB2.out.size; have := hf.out.size; omega
      clear hu hf HR2 HV2 HB1 HB2 HF1b HM hmm
      obtain ⟨wo, rfl⟩ : ∃ wo : World, wo = wr := ⟨_, rfl⟩
      go_wp2_with fail
      go_loopw [10, 36] (fun _ i wr => ∃ j : Nat, j ≤ n ∧ i = .int .i64 j ∧ Hid (UfAt wr u1 F1 (withC c (l.take j))) ∧ Hid (Frm F1 wo wr)) (fun _ i _ => n - (intOf i).toNat)
      case atStart => exact ⟨0, by omega, rfl, HSTART, hide (Frm.refl _ _)⟩
      case round =>
        clear HSTART
        obtain ⟨j, hj, rfl, hu, hf⟩ := hrel
        have HBW : Hid (Below w.heap.size w wr) := hide (HB3.out.trans (hf.out.below HB3.out.size fun j hj => HF1.out j hj))
        by_cases hjn : j < n
        · obtain ⟨⟨xk, xs, xd⟩, hx⟩ : ∃ x, l[j]? = some x := ⟨l[j]'(by omega), List.getElem?_eq_getElem (by omega)⟩
          obtain ⟨b, off, rfl, hb0, g1, g2, g3⟩ := (HL.out.2.2.2.below HBW.out) j _ hx
          simp only at g1 g2 g3
          have htk := take_snoc hx
          have hlin := HIN.out _ (List.mem_of_getElem? hx)
          by_cases hk1 : xk = 1
          · subst hk1
            have HNX : Hid (withC c (l.take (j + 1)) = mergeC (withC c (l.take j)) ((withC c (l.take j)).f xs) ((withC c (l.take j)).f xd)) := hide (by rw [htk, withC_snoc, if_pos rfl])
            have hu2 : UfAt ((wr.alloc (.cells #[.int .i64 1, .int .i64 xs, .int .i64 xd] 30)).alloc (.cells #[.int .i64 xs, .int .i64 xd] 3)) u1 F1 (withC c (l.take j)) := hu.out.below (((Below.refl _ _).alloc (Nat.le_refl _) _).alloc (by simp) _)
            have HJ := hide (join_calls u1 F1 _ (some ⟨wr.heap.size + 1, 0, none⟩) 2 2 [xs, xd] _ hu2 rfl (by omega) (by
              intro k x hk
              refine ⟨wr.heap.size + 1, 0, rfl, by simp, ?_⟩
              match k, hk with
              | 0, hk => simp at hk; subst hk; simp
              | 1, hk => simp at hk; subst hk; simp) (fun y hy hF => by
                simp only [Option.some.injEq] at hy
                subst hy
                have := HBZ.out _ hF
                have := hf.out.size
                simp at *
                omega) (by
                intro i hi
                rw [withC_n]
                simp at hi
                rcases hi with rfl | rfl
                · exact hlin.1
                · exact hlin.2))
            rw [joinL_two] at HJ
            clear hu2 htk hlin hx
            go_wp2_with (go_at_call 43; refine HJ.out.mono ?_; rintro e w3 ⟨⟨jn, rfl⟩, hj1, hj2⟩; have HJ1 := hide hj1; have HJ2 := hide hj2; clear hj1 hj2)
            have HFF : Hid (Frm F1 wo w3) := hide (hf.out.trans ((((Frm.refl F1 wr).alloc _).alloc _).trans HJ2.out fun _ => .inl) fun _ => .inl)
            exact ⟨⟨j + 1, by omega, by go_num, by rw [HNX.out]; exact HJ1, HFF⟩, by simp [intOf]; omega⟩
          · have HNX : Hid (withC c (l.take (j + 1)) = withC c (l.take j)) := hide (by rw [htk, withC_snoc, if_neg hk1])
            have e1 : (xk == 1) = false := by simpa using hk1
            have HU2 : Hid (UfAt (wr.alloc (.cells #[.int .i64 xk, .int .i64 xs, .int .i64 xd] 30)) u1 F1 (withC c (l.take j))) := hide (hu.out.below ((Below.refl _ _).alloc (Nat.le_refl _) _))
            have HFF : Hid (Frm F1 wo (wr.alloc (.cells #[.int .i64 xk, .int .i64 xs, .int .i64 xd] 30))) := hide (hf.out.alloc _)
            clear htk hlin hx hk1
            go_wp2_with fail
            exact ⟨⟨j + 1, by omega, by go_num, by rw [HNX.out]; exact HU2, HFF⟩, by simp [intOf]; omega⟩
        · have hjj : j = n := by omega
          subst hjj
          have HE : Hid (UfAt wr u1 F1 (withC c l)) := hide (by
            have := hu.out
            rwa [List.take_of_length_le (by omega)] at this)
          go_wp2_with fail
          go_ret
          exact ⟨u1, F1, rfl, HE.out, HF1.out, HBW.out⟩
end Go.Proofs.Ytpkhmhfgnpnpfaa
