/- Package uf: Classes. -/
import Derived.Test.YtpkhmhfgnpnpfaaUf5
namespace Go.Proofs.Ytpkhmhfgnpnpfaa
set_option linter.unusedSimpArgs false
set_option linter.unusedVariables false
open Go.RowKit
attribute [local go_sem] objAt_alloc objAt_alloc_at objAt_drew objAt_drewN objAt_setCell comesTo_value comesTo_enter

def headsTo (c : Cls) (k : Nat) : List Int := (nums k).filter fun h => decide (c.f h = h)
theorem headsTo_succ (c : Cls) (k : Nat) : headsTo c (k + 1) = if c.f ((k + 1 : Nat) : Int) = ((k + 1 : Nat) : Int) then headsTo c k ++ [((k + 1 : Nat) : Int)] else headsTo c k := by
  unfold headsTo
  rw [nums_succ, List.filter_append]
  by_cases h : c.f ((k + 1 : Nat) : Int) = ((k + 1 : Nat) : Int)
  · rw [if_pos h, List.filter_cons_of_pos (by simpa using h), List.filter_nil]
  · rw [if_neg h, List.filter_cons_of_neg (by simpa using h), List.filter_nil, List.append_nil]
theorem headsTo_length (c : Cls) (k : Nat) : (headsTo c k).length ≤ k := by
  have := List.length_filter_le (fun j => decide (c.f j = j)) (nums k)
  rwa [nums_length] at this
theorem intsInfo : (Try.prog.info? 31).map (fun i => (i.zero, i.size, i.bytes)) = some (some (.slice none 0 0), 1, 24) := by kernel_rfl

/-- What a call makes that answers new rows. -/
def RowsPost (w : World) (L : List (List Int)) (e : Ending) (w' : World) : Prop := ∃ v, e = .returned v ∧ RowsAt w' w.heap.size v L ∧ Below w.heap.size w w'

set_option maxHeartbeats 2000000 in
set_option maxRecDepth 100000 in
theorem classes_calls {u : Nat} {F : Nat → Prop} {c : Cls} {w : World} (h : UfAt w u F c) :
    Calls Try.prog 85 #[.pointer (some ⟨u, 0, none⟩)] w (RowsPost w (classesC c)) := by
  obtain ⟨i0, hinf, hz0, hz1, hz2⟩ := info_parts intsInfo
  obtain ⟨hok, hsm⟩ := h.ok
  have HU := hide h
  have HSUCC := hide (headsTo_succ c)
  have HLEN := hide (headsTo_length c)
  obtain ⟨n, hn⟩ : ∃ n, c.n = n := ⟨_, rfl⟩
  have hall : classesC c = (headsTo c n).map (classC c) := by rw [← hn]; rfl
  rw [hall]
  rw [hn] at hsm
  have HN := hide hn
  clear h hok hall hn
  have HIS : Hid (∀ k : Nat, ∀ W, Below w.heap.size w W → Calls Try.prog 48 #[.pointer (some ⟨u, 0, none⟩), .int .i64 ((k + 1 : Nat) : Int)] W fun e w' => e = .returned (.bool (decide (k < n))) ∧ W = w') := hide fun k W hW => by
    have := is_calls ((k + 1 : Nat) : Int) (HU.out.below hW)
    rw [HN.out] at this
    have e : decide (1 ≤ ((k + 1 : Nat) : Int) ∧ ((k + 1 : Nat) : Int) ≤ (n : Int)) = decide (k < n) := by rw [decide_eq_decide]; omega
    rwa [e] at this
  have hown0 : RowsAt w w.heap.size (.slice none 0 0) ((headsTo c 0).map (classC c)) := rowsAt_nil _ _
  have HOWN0 := hide hown0
  clear hown0
  go_enter Try.func85, Try.ntmps85
  go_wp2_with fail
  go_loopw [3, 4] (fun v j wr => ∃ k : Nat, k ≤ n ∧ j = .int .i64 ((k + 1 : Nat) : Int) ∧ Hid (RowsAt wr w.heap.size v ((headsTo c k).map (classC c))) ∧ Hid (Below w.heap.size w wr)) (fun _ j _ => n + 1 - (intOf j).toNat)
  case atStart => exact ⟨0, by omega, rfl, HOWN0, hide (Below.refl _ _)⟩
  case round =>
    obtain ⟨k, hk, rfl, hrows, hb⟩ := hrel
    by_cases hlt : k < n
    · have hIS := HIS.out k wr hb.out
      rw [decide_eq_true hlt] at hIS
      have HI := hide hIS
      have HH := hide (head_calls ((k + 1 : Nat) : Int) (HU.out.below hb.out))
      have HCL := hide (class_calls ((k + 1 : Nat) : Int) (HU.out.below hb.out))
      have hsz := hb.out.size
      have hpl := HLEN.out k
      clear hIS
      by_cases he : c.f ((k + 1 : Nat) : Int) = ((k + 1 : Nat) : Int)
      · have HS : Hid (headsTo c (k + 1) = headsTo c k ++ [((k + 1 : Nat) : Int)]) := hide (by rw [HSUCC.out k, if_pos he])
        rw [he] at HH
        clear he
        go_wp2_with (go_at_call 48; refine HI.out.mono ?_; rintro e w1 ⟨rfl, rfl⟩)
        go_wp2_with (go_at_call 44; refine HH.out.mono ?_; rintro e w1 ⟨rfl, rfl⟩)
        go_wp2_with (go_at_call 18; refine Hid.out ?_)
        refine hide ?_
        refine HCL.out.mono ?_
        rintro e w1 ⟨cv, rfl, hcv, hb1⟩
        obtain ⟨ca, cc, rfl, _⟩ := row_ints hcv
        obtain ⟨cn, hcn⟩ : ∃ cn, (classC c ((k + 1 : Nat) : Int)).length = cn := ⟨_, rfl⟩
        rw [hcn] at hcv ⊢
        obtain ⟨vs, r1, r2, r3⟩ := hrows.out
        have hl1 : ((headsTo c k).map (classC c)).length ≤ k := by rw [List.length_map]; exact hpl
        have HR1 := hide r1
        have HR2 := hide r2
        have HR3 := hide r3
        have HCV : Hid (w1.ownsRow wr.heap.size 3 1 (.slice ca cn cc) (classC c ((k + 1 : Nat) : Int)).length (goInts (classC c ((k + 1 : Nat) : Int)))) := hide (by rw [hcn]; exact hcv)
        have HB1 := hide hb1
        have hs1 := hb1.size
        have hrow1 := row_below r1 hb1
        clear r1 r2 r3 hcv hb1 hrows hcn
        generalize hLL : ((headsTo c k).map (classC c)) = LL at *
        go_wp2_with (at_builtin; refine wpList_append_own _ rfl (.tmp 15) (.tmp 19) _ rfl w.heap.size 31 i0 _ 1 24 Try.underlying38 hinf hz0 hz1 hz2 rfl (by decide) u3 LL.length vs rfl (hrow1.alloc _) ⟨w1.heap.size, 0, none⟩ 1 1 [.slice ca cn cc] rfl rfl (World.news_of_block (heap_alloc_new w1 _)) (by intro x hx; simp at hx; subst hx; rfl) (by unfold maxLen; omega) (by omega) (by simp; omega) ?_; intro v2 w2 hown2 hgrow2 _; have HO2 := hide hown2; have HG2 := hide hgrow2; clear hown2 hgrow2)
        have hf : Frm (fun j => u3.ownBlock = some j) w1 w2 := ((Frm.refl _ _).alloc _).grown HG2.out fun q hq => .inl hq
        have HB2 := hide ((hb.out.trans (HB1.out.mono hb.out.size)).trans (hf.below (by omega) fun j hj => (hrow1.lt j hj).1))
        have HNEW := hide (RowsAt.push hb.out.size HR2.out HR3.out HR1.out HCV.out HB1.out hf HO2.out)
        clear hf
        exact ⟨⟨k + 1, by omega, by go_num, by rw [HS.out, List.map_append, hLL]; exact HNEW, HB2⟩, by simp [intOf]; omega⟩
      · have HS : Hid (headsTo c (k + 1) = headsTo c k) := hide (by rw [HSUCC.out k, if_neg he])
        have he2 : (c.f ((k + 1 : Nat) : Int) == ((k + 1 : Nat) : Int)) = false := by simpa using he
        obtain ⟨y, hy⟩ : ∃ y, c.f ((k + 1 : Nat) : Int) = y := ⟨_, rfl⟩
        rw [hy] at HH he2
        clear he hy
        go_wp2_with (first | (go_at_call 48; refine HI.out.mono ?_; rintro e w1 ⟨rfl, rfl⟩) | (go_at_call 44; refine HH.out.mono ?_; rintro e w1 ⟨rfl, rfl⟩))
        exact ⟨⟨k + 1, by omega, by go_num, by rw [HS.out]; exact hrows, hb⟩, by simp [intOf]; omega⟩
    · have hIS := HIS.out k wr hb.out
      rw [decide_eq_false hlt] at hIS
      have HI := hide hIS
      have hkn : k = n := by omega
      subst hkn
      clear hIS
      go_wp2_with (go_at_call 48; refine HI.out.mono ?_; rintro e w1 ⟨rfl, rfl⟩)
      go_ret
      exact ⟨_, rfl, hrows.out, hb.out⟩
end Go.Proofs.Ytpkhmhfgnpnpfaa
