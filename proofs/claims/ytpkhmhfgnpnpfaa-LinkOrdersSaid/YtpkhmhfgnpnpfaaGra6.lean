/- Package link: a Graph in memory; New, circle. -/
import Derived.Test.YtpkhmhfgnpnpfaaGra5
namespace Go.Proofs.Ytpkhmhfgnpnpfaa
set_option linter.unusedSimpArgs false
set_option linter.unusedVariables false
open Go.RowKit
attribute [local go_sem] objAt_alloc objAt_alloc_at objAt_drew objAt_drewN objAt_setCell comesTo_value comesTo_enter

/-- What a graph is made of: its block g, its Uf u with the blocks Fu, its slice of links lv. -/
structure GraParts (w : World) (g u : Nat) (lv : Value) (Fu : Nat → Prop) (G : Gra) : Prop where
  cell : w.heap[g]? = some (.cells #[.pointer (some ⟨u, 0, none⟩), lv] 36 (0, 0))
  uf : UfAt w u Fu G.c
  row : w.ownsRow 0 30 3 lv G.ls.length (G.ls.flatMap lcells)
  gu : ¬ Fu g
  lg : lv.ownBlock ≠ some g
  lu : ∀ b, lv.ownBlock = some b → ¬ Fu b
  ok : OkG G
/-- Block g is a graph that holds G; its blocks are among F. -/
def GraAt (w : World) (g : Nat) (F : Nat → Prop) (G : Gra) : Prop :=
  ∃ u lv Fu, GraParts w g u lv Fu G ∧ F g ∧ (∀ j, Fu j → F j) ∧ (∀ b, lv.ownBlock = some b → F b) ∧ ∀ j, F j → j < w.heap.size
def GraPost (w : World) (g : Nat) (F : Nat → Prop) (G : Gra) (w' : World) : Prop := ∃ F', GraAt w' g F' G ∧ Frm F w w' ∧ ∀ j, F' j → F j ∨ w.heap.size ≤ j
section
variable {w w' : World} {g u : Nat} {lv : Value} {Fu F S : Nat → Prop} {G : Gra}
theorem GraParts.lt (h : GraParts w g u lv Fu G) : g < w.heap.size := (Array.getElem?_eq_some_iff.1 h.cell).1
theorem GraParts.frm (h : GraParts w g u lv Fu G) (hf : Frm S w w') (h1 : ¬ S g) (h2 : ∀ j, Fu j → ¬ S j) (h3 : ∀ b, lv.ownBlock = some b → ¬ S b) : GraParts w' g u lv Fu G :=
  ⟨(hf.block g h.lt h1).trans h.cell, h.uf.frm hf h2, row_frm h.row hf h3, h.gu, h.lg, h.lu, h.ok⟩
theorem GraAt.frm (h : GraAt w g F G) (hf : Frm S w w') (hs : ∀ j, F j → ¬ S j) : GraAt w' g F G := by
  obtain ⟨u, lv, Fu, h1, h2, h3, h4, h5⟩ := h
  exact ⟨u, lv, Fu, h1.frm hf (hs g h2) (fun j hj => hs j (h3 j hj)) (fun b hb => hs b (h4 b hb)), h2, h3, h4, fun j hj => Nat.lt_of_lt_of_le (h5 j hj) hf.size⟩
theorem GraAt.below (h : GraAt w g F G) (hb : Below w.heap.size w w') : GraAt w' g F G := h.frm (Frm.of_below (S := None) hb) (fun _ _ => id)
theorem GraAt.ok (h : GraAt w g F G) : OkG G := by obtain ⟨u, lv, Fu, h1, _⟩ := h; exact h1.ok
theorem GraAt.lt (h : GraAt w g F G) : ∀ j, F j → j < w.heap.size := by obtain ⟨u, lv, Fu, _, _, _, _, h5⟩ := h; exact h5
theorem GraAt.mem (h : GraAt w g F G) : F g := by obtain ⟨u, lv, Fu, _, h2, _⟩ := h; exact h2
theorem GraPost.same (h : GraAt w g F G) (hb : Below w.heap.size w w') : GraPost w g F G w' := ⟨F, h.below hb, Frm.of_below hb, fun _ => .inl⟩
/-- What a walk reads of a graph. -/
theorem GraParts.reads (h : GraParts w g u lv Fu G) : ∃ (a : Option Addr) (cp : Nat), lv = .slice a G.ls.length cp ∧ w.cell? ⟨g, 0, none⟩ = some (.pointer (some ⟨u, 0, none⟩)) ∧ w.cell? ⟨g, 1, none⟩ = some (.slice a G.ls.length cp) ∧ LinksArg w a G.ls.length cp G.ls := by
  obtain ⟨a, cp, rfl, h2, _, h4⟩ := row_links h.row
  refine ⟨a, cp, rfl, by simp [World.cell?, h.cell], by simp [World.cell?, h.cell], rfl, ?_, h4, h2⟩
  have := h.ok.few
  omega
end

theorem okG_new {n : Nat} (hn : n ≤ 1000) : OkG ⟨freshC n, []⟩ := ⟨freshC_ok n, hn, by simp, by simp, by simp⟩
set_option maxHeartbeats 1000000 in
theorem gnew_calls (n : Nat) (hn : n ≤ 1000) (w : World) :
    Calls Try.prog 13 #[.int .i64 n] w fun e w' => ∃ g F, e = .returned (.tuple #[.pointer (some ⟨g, 0, none⟩), .int .i64 0]) ∧ GraAt w' g F ⟨freshC n, []⟩ ∧ (∀ j, F j → w.heap.size ≤ j) ∧ Below w.heap.size w w' := by
  have HG := hide (ufnew_calls n hn w)
  go_enter Try.func13, Try.ntmps13
  go_wp2_with (go_at_call 42; refine Hid.out ?_)
  refine hide ?_
  refine HG.out.mono ?_
  rintro e w1 ⟨u, Fu, rfl, hu, hF, hb⟩
  have HX := hide (And.intro hu (And.intro hF hb))
  clear hu hF hb HG
  go_wp2_with fail
  go_ret2
  obtain ⟨hu, hF, hb⟩ := HX.out
  have hlt : ∀ j, Fu j → j < w1.heap.size := by obtain ⟨_, _, _, _, _, _, h⟩ := hu; exact h
  refine ⟨w1.heap.size, fun j => Fu j ∨ j = w1.heap.size, rfl, ⟨u, .slice none 0 0, Fu, ⟨heap_alloc_new w1 _, hu.below ((Below.refl _ _).alloc (Nat.le_refl _) _), World.ownsRow_nil _ _ _ _, fun h => by have := hlt _ h; omega, by simp [Value.ownBlock], by simp [Value.ownBlock], okG_new hn⟩, .inr rfl, fun j => .inl, by simp [Value.ownBlock], fun j hj => ?_⟩, fun j hj => ?_, hb.alloc hb.size _⟩
  · rcases hj with hj | rfl
    · have := hlt j hj; simp; omega
    · simp
  · rcases hj with hj | rfl
    · exact hF j hj
    · exact hb.size
theorem gnew_bad (n : Int) (hn : n < 0 ∨ 1000 < n) (w : World) :
    Calls Try.prog 13 #[.int .i64 n] w fun e w' => e = .returned (.tuple #[.pointer none, .int .i64 1]) ∧ Below w.heap.size w w' := by
  have HG := hide (ufnew_bad n hn w)
  go_enter Try.func13, Try.ntmps13
  go_wp2_with (go_at_call 42; refine HG.out.mono ?_; rintro e w1 ⟨rfl, hb⟩; have HB := hide hb; clear hb)
  go_ret2
  exact ⟨rfl, HB.out⟩

theorem rows_len {w : World} {B : Nat} {v : Value} {L : List (List Int)} (h : RowsAt w B v L) : ∃ a c, v = .slice a L.length c := by
  obtain ⟨a, c, h1, _⟩ := rowsAt_get h
  exact ⟨a, c, h1⟩

set_option maxHeartbeats 2000000 in
set_option maxRecDepth 100000 in
theorem circle_calls (g : Nat) (F : Nat → Prop) (G : Gra) (a : Option Addr) (n cp : Nat) (l : List PLink) (w : World) (h : GraAt w g F G) (hl : LinksArg w a n cp l) (hfew : n ≤ 1000) (hin : ∀ x ∈ l, linkIn G.c x) :
    Calls Try.prog 56 #[.pointer (some ⟨g, 0, none⟩), .slice a n cp] w fun e w' => e = .returned (.bool (decide (circleG G l))) ∧ Below w.heap.size w w' := by
  obtain ⟨u, lv, Fu, hp, _⟩ := h
  obtain ⟨la, lc, hlv, hc0, hc1, hla⟩ := hp.reads
  have hgs := hp.lt
  have hfewG := hp.ok.few
  have HJ := hide (joined_walk g u Fu G.c a n cp l w hc0 hp.uf hl hin)
  have HL := hide hl
  have HLA := hide hla
  obtain ⟨m, hm⟩ : ∃ m, G.ls.length = m := ⟨_, rfl⟩
  rw [hm] at hc1 hfewG HLA
  have hln := hl.1
  clear hp hl hla hlv
  go_enter Try.func56, Try.ntmps56
  go_wp2_with (go_at_call 88; refine Hid.out ?_)
  refine hide ?_
  refine HJ.out.mono ?_
  rintro e w1 ⟨u1, F1, rfl, hu1, hF1, hb1⟩
  have hc1' := (hb1.cell (p := ⟨g, 1, none⟩) hgs).trans hc1
  have hbal : Below w1.heap.size w1 (w1.alloc (.cells #[.slice la m lc, .slice a n cp] 22)) := (Below.refl _ _).alloc (Nat.le_refl _) _
  have HCC := hide (concatLinks_calls w1.heap.size la a m lc n cp G.ls l (w1.alloc (.cells #[.slice la m lc, .slice a n cp] 22)) (by simp) (by simp) (by simp) ((HLA.out.below hb1).below hbal) ((HL.out.below hb1).below hbal) (by omega) hfew)
  have HU1 := hide (hu1.below hbal)
  have HB1 := hide (hb1.trans (hbal.mono hb1.size))
  clear hc1 hc0 hu1 hF1 hb1 hbal HJ HL HLA
  go_wp2_with (go_at_call 89; refine Hid.out ?_)
  refine hide ?_
  refine HCC.out.mono ?_
  rintro e w2 ⟨v2, rfl, hv2, hb2⟩
  obtain ⟨ca, cc, rfl, hci, _, hcn⟩ := row_links hv2
  obtain ⟨k, hk⟩ : ∃ k, (G.ls ++ l).length = k := ⟨_, rfl⟩
  have hk2 : k ≤ 2000 := by rw [← hk, List.length_append]; omega
  have HOR := hide (order_calls u1 F1 (withC G.c l) ca k cc (G.ls ++ l) w2 (HU1.out.below hb2) ⟨hk, by omega, by rw [← hk]; exact hcn, hci⟩ (by omega))
  have HU2 := hide (HU1.out.below hb2)
  have HB2 := hide (HB1.out.trans (hb2.mono HB1.out.size))
  rw [hk]
  clear hv2 hb2 hci hcn hk HCC HU1
  go_wp2_with (go_at_call 49; refine Hid.out ?_)
  refine hide ?_
  refine HOR.out.mono ?_
  rintro e w3 ⟨v3, rfl, hv3, hb3⟩
  obtain ⟨oa, oc, rfl⟩ := rows_len hv3
  have HCL := hide (classes_calls (HU2.out.below hb3))
  have HB3 := hide (HB2.out.trans (hb3.mono HB2.out.size))
  obtain ⟨n1, hn1⟩ : ∃ n1, ((orderC (withC G.c l) (G.ls ++ l)).map (classC (withC G.c l))).length = n1 := ⟨_, rfl⟩
  rw [hn1]
  clear hv3 hb3 HOR HU2
  go_wp2_with (go_at_call 85; refine Hid.out ?_)
  refine hide ?_
  refine HCL.out.mono ?_
  rintro e w4 ⟨v4, rfl, hv4, hb4⟩
  obtain ⟨pa, pc, rfl⟩ := rows_len hv4
  obtain ⟨n2, hn2⟩ : ∃ n2, (classesC (withC G.c l)).length = n2 := ⟨_, rfl⟩
  have HE : Hid (decide (circleG G l) = ((n1 : Int) != (n2 : Int))) := hide (by
    rw [List.length_map] at hn1
    rw [classesC, List.length_map] at hn2
    have hiff : circleG G l ↔ n1 ≠ n2 := by rw [← hn1, ← hn2]; exact Iff.rfl
    by_cases e : n1 = n2
    · rw [decide_eq_false (fun h => hiff.1 h e)]
      subst e; simp
    · have : ¬ (n1 : Int) = n2 := by omega
      rw [decide_eq_true (hiff.2 e)]
      simp [this])
  have HB4 := hide (HB3.out.trans (hb4.mono HB3.out.size))
  rw [hn2]
  clear hv4 hb4 HCL hn1 hn2
  go_wp2_with fail
  go_ret
  exact ⟨by rw [HE.out]; rfl, HB4.out⟩
end Go.Proofs.Ytpkhmhfgnpnpfaa
