/- LinkNear: the walk. -/
import Derived.Test.YtpkhmhfgnpnpfaaAlive18
import Derived.Test.YtpkhmhfgnpnpfaaOpen18
import Derived.Test.YtpkhmhfgnpnpfaaGraF
import Derived.Deep.CutRange
import Derived.Deep.CutBlock
import Derived.Deep.DeepCutAuto
namespace Go.Proofs.Ytpkhmhfgnpnpfaa
set_option linter.unusedSimpArgs false
set_option linter.unusedVariables false
open Go.RowKit
attribute [local go_sem] objAt_alloc objAt_alloc_at objAt_drew objAt_drewN objAt_setCell comesTo_value comesTo_enter

theorem nearC_length (c : Cls) (ls : List PLink) (a : Bool) (i : Int) : (nearC c ls a i).length ≤ c.n := by
  unfold nearC
  split
  · simp
  · exact Nat.le_trans (List.length_filter_le _ _) (by rw [nums_length]; exact Nat.le_refl _)
theorem classC_length (c : Cls) (i : Int) : (classC c i).length ≤ c.n := by
  unfold classC
  split
  · simp
  · exact Nat.le_trans (List.length_filter_le _ _) (by rw [nums_length]; exact Nat.le_refl _)
theorem near_same {G : Gra} (h : OkG G) (hf : FullG G) {i j : Int} (hj : j ∈ nearC G.c G.ls true i) : sameC G.c [i, j] = false :=
  decide_eq_false fun hs => near_apart h hf hj (hs j (by simp)).2
theorem near_at_rise {c : Cls} {ls : List PLink} {a : Bool} {i x y : Int} {k : Nat} (hx : (nearC c ls a i)[k]? = some x) (hy : (nearC c ls a i)[k + 1]? = some y) : ¬ y ≤ x := by
  obtain ⟨q1, q2⟩ := List.getElem?_eq_some_iff.1 hx
  obtain ⟨q3, q4⟩ := List.getElem?_eq_some_iff.1 hy
  have := List.pairwise_iff_getElem.1 (nearC_rise c ls a i) k (k + 1) q1 q3 (by omega)
  rw [q2, q4] at this
  omega
theorem mem_take_succ {l : List Int} {k : Nat} {x y : Int} (hx : l[k]? = some x) : (y ∈ l.take (k + 1)) ↔ y ∈ l.take k ∨ x = y := by
  rw [take_snoc hx, List.mem_append, List.mem_singleton]
  exact or_congr Iff.rfl eq_comm

theorem addG_n (G : Gra) (l : List PLink) : (addG G l).c.n = G.c.n := by
  unfold addG
  split
  · exact withC_n _ _
  · rfl

set_option maxHeartbeats 8000000 in
set_option maxRecDepth 100000 in
theorem linkNear_walk (a0 : Int) (a1 : Option Addr) (len1 cap1 : Nat) (l1 : List PLink) (w : World) (hr1 : LinksRaw w a1 len1 cap1 l1) :
    Calls Try.prog 3 #[.int .i64 a0, .slice a1 len1 cap1] w fun e w' => e = .returned (.bool true) ∧ Below w.heap.size w w' := by
  have hm1 : len1 ≤ 9223372036854775807 := by have := hr1.2.1; unfold maxLen at this; omega
  by_cases hguard : 1 ≤ a0 ∧ a0 ≤ 20 ∧ len1 ≤ 40
  case neg =>
    have HAL := hide (alive18_calls w)
    clear hr1
    by_cases g1 : a0 < 1
    · go_enter Try.func3, Try.ntmps3
      go_wp2_with (go_at_call 12; refine HAL.out.mono ?_; rintro e w2 ⟨rfl, hb⟩; have HB := hide hb; clear hb)
      go_ret
      exact ⟨rfl, HB.out⟩
    · by_cases g2 : (20 : Int) < a0
      · go_enter Try.func3, Try.ntmps3
        go_wp2_with (go_at_call 12; refine HAL.out.mono ?_; rintro e w2 ⟨rfl, hb⟩; have HB := hide hb; clear hb)
        go_ret
        exact ⟨rfl, HB.out⟩
      · have g3 : (40 : Int) < (len1 : Int) := by omega
        go_enter Try.func3, Try.ntmps3
        go_wp2_with (go_at_call 12; refine HAL.out.mono ?_; rintro e w2 ⟨rfl, hb⟩; have HB := hide hb; clear hb)
        go_ret
        exact ⟨rfl, HB.out⟩
  case pos =>
    obtain ⟨g1, g2, g3⟩ := hguard
    obtain ⟨n, rfl⟩ : ∃ n : Nat, a0 = n := ⟨a0.toNat, by omega⟩
    have e1 : decide ((n : Int) < 1) = false := decide_eq_false (by omega)
    have e2 : decide ((20 : Int) < (n : Int)) = false := decide_eq_false (by omega)
    have e3 : decide ((40 : Int) < (len1 : Int)) = false := decide_eq_false (by omega)
    have HA1 := hide (hr1.arg (by omega))
    have hln1 := hr1.1
    have HNEW := hide (gr_new (w0 := w) n (by omega) w (Below.refl _ _))
    clear hr1
    go_enter Try.func3, Try.ntmps3
    go_wp2_with (go_at_call 13; refine Hid.out ?_)
    refine hide ?_
    refine HNEW.out.mono ?_
    rintro e w1 ⟨g, rfl, hg⟩
    have HG := hide hg
    have HFU := hide (full_new n)
    have HNN : Hid ((⟨freshC n, []⟩ : Gra).c.n = n) := hide rfl
    clear hg HNEW
    go_wp2_with fail
    go_loopw [7] (fun i wr => ∃ (k : Nat) (G : Gra), k ≤ len1 ∧ i = .int .i64 k ∧ Hid (Gras w g G wr) ∧ Hid (FullG G) ∧ Hid (G.c.n = n)) (fun i _ => len1 - (intOf i).toNat)
    case atStart => exact ⟨0, _, by omega, rfl, HG, HFU, HNN⟩
    case round =>
      clear HG HFU HNN
      obtain ⟨k, G, hk, rfl, hg, hfu, hnn⟩ := hrel
      by_cases hlt : k < len1
      · obtain ⟨x, hx⟩ : ∃ x, l1[k]? = some x := ⟨l1[k]'(by omega), List.getElem?_eq_getElem (by omega)⟩
        obtain ⟨b, off, rfl, hb0, q1, q2, q3⟩ := (HA1.out.below hg.out.below).2.2.2 k _ hx
        have HADD := hide (gr_add1 hg.out x)
        have HFN := hide (full_add hfu.out [x])
        have HNX : Hid ((addG G [x]).c.n = n) := hide ((addG_n G [x]).trans hnn.out)
        obtain ⟨xk, xs, xd⟩ := x
        simp only at q1 q2 q3 HADD
        clear hx
        go_wp2_with (go_at_call 14; refine HADD.out.mono ?_; rintro e w3 ⟨rfl, hg3⟩; have HG3 := hide hg3; clear hg3)
        exact ⟨⟨k + 1, _, by omega, by go_num, HG3, HFN, HNX⟩, by simp [intOf]; omega⟩
      · have hkn : k = len1 := by omega
        subst hkn
        have HOK := hide hg.out.ok
        clear HA1
        go_wp2_with fail
        go_loopw [8] (fun iv wr => ∃ i : Nat, 1 ≤ i ∧ i ≤ n + 1 ∧ iv = .int .i64 i ∧ Hid (Gras w g G wr)) (fun iv _ => n + 1 - (intOf iv).toNat)
        case atStart => exact ⟨1, by omega, by omega, rfl, hg⟩
        case round =>
          clear hg
          obtain ⟨i, hi1, hi2, rfl, hg⟩ := hrel
          by_cases hin : i ≤ n
          · go_wp2_with (go_at_call 15; refine Hid.out ?_)
            refine hide ?_
            refine (gr_ahead (i : Int) hg.out).mono ?_
            rintro e wa ⟨aa, ac, rfl, hia, hba⟩
            have HIA := hide hia
            have HGA := hide (hg.out.step hba)
            obtain ⟨m, hm⟩ : ∃ m, (nearC G.c G.ls true (i : Int)).length = m := ⟨_, rfl⟩
            have hm20 : m ≤ 20 := by
              have h1 := nearC_length G.c G.ls true (i : Int)
              have h2 := hnn.out
              omega
            have HM := hide hm
            rw [hm]
            clear hia hba hm hg
            go_wp2_with fail
            go_loopw [10] (fun kv wr => ∃ k : Nat, k ≤ m ∧ kv = .int .i64 k ∧ Hid (Below wa.heap.size wa wr)) (fun kv _ => m - (intOf kv).toNat)
            case atStart => exact ⟨0, by omega, rfl, hide (Below.refl _ _)⟩
            case round =>
              obtain ⟨k, hk2, rfl, hbk⟩ := hrel
              by_cases hkm : k < m
              · obtain ⟨x, hx⟩ : ∃ x, (nearC G.c G.ls true (i : Int))[k]? = some x := ⟨(nearC G.c G.ls true (i : Int))[k]'(by have := HM.out; omega), List.getElem?_eq_getElem _⟩
                obtain ⟨b9, o9, rfl, hb9l, q9⟩ := (HIA.out.below hbk.out) k x hx
                have hxm := List.mem_of_getElem? hx
                have HMB : Hid ((i : Int) ∈ nearC G.c G.ls false x) := hide (by
                  rcases near_back HOK.out hxm with h | h
                  · exact h
                  · exact absurd ⟨by omega, by have := hnn.out; omega⟩ h)
                have HSA : Hid (sameC G.c [(i : Int), x] = false) := hide (near_same HOK.out hfu.out hxm)
                have HCS : Hid (∀ y ∈ classC G.c x, y ∈ nearC G.c G.ls true (i : Int)) := hide fun y hy => near_class HOK.out hxm hy
                have HPR : Hid (∀ p xp, k = p + 1 → (nearC G.c G.ls true (i : Int))[p]? = some xp → ¬ x ≤ xp) := hide fun p xp hp hxp => by
                  subst hp
                  exact near_at_rise hxp hx
                have HX := hide hx
                clear hx hxm
                go_wp2_with (go_at_call 16; refine Hid.out ?_)
                refine hide ?_
                refine (gr_behind x (HGA.out.step hbk.out)).mono ?_
                rintro e wb ⟨ba, bc, rfl, hib, hbb⟩
                have HIB := hide hib
                have HBB := hide (hbk.out.trans (hbb.mono hbk.out.size))
                obtain ⟨mb, hmb⟩ : ∃ m, (nearC G.c G.ls false x).length = m := ⟨_, rfl⟩
                have hmb20 : mb ≤ 20 := by
                  have h1 := nearC_length G.c G.ls false x
                  have h2 := hnn.out
                  omega
                have HMBL := hide hmb
                rw [hmb]
                clear hib hbb hmb q9
                go_wp2_with fail
                go_loop [12, 13] (fun tv jv => ∃ j : Nat, j ≤ mb ∧ jv = .int .i64 j ∧ tv = .bool (decide ((i : Int) ∈ (nearC G.c G.ls false x).take j))) (fun _ jv => mb - (intOf jv).toNat)
                case atStart => exact ⟨0, by omega, rfl, by simp⟩
                case round =>
                  obtain ⟨j, hj, rfl, htv⟩ := hrel
                  by_cases hjm : j < mb
                  · obtain ⟨y, hy⟩ : ∃ y, (nearC G.c G.ls false x)[j]? = some y := ⟨(nearC G.c G.ls false x)[j]'(by have := HMBL.out; omega), List.getElem?_eq_getElem _⟩
                    obtain ⟨b8, o8, rfl, hb8l, q8⟩ := HIB.out j y hy
                    have hms := mem_take_succ (y := (i : Int)) hy
                    obtain ⟨bt, hbt⟩ : ∃ b, decide ((i : Int) ∈ (nearC G.c G.ls false x).take j) = b := ⟨_, rfl⟩
                    rw [hbt] at htv
                    subst htv
                    have HNT : Hid (decide ((i : Int) ∈ (nearC G.c G.ls false x).take (j + 1)) = (bt || decide (y = (i : Int)))) := hide (by
                      rw [← hbt]
                      by_cases q1 : (i : Int) ∈ (nearC G.c G.ls false x).take j <;> by_cases q2 : y = (i : Int) <;> simp [hms, q1, q2])
                    clear hy hms hbt
                    cases bt
                    · by_cases hyi : y = (i : Int)
                      · subst hyi
                        go_wp2_with fail
                        exact ⟨⟨j + 1, by omega, by go_num, by rw [HNT.out]; simp⟩, by simp [intOf]; omega⟩
                      · have e5 : (y == (i : Int)) = false := by simpa using hyi
                        go_wp2_with fail
                        exact ⟨⟨j + 1, by omega, by go_num, by rw [HNT.out]; simp [hyi]⟩, by simp [intOf]; omega⟩
                    · go_wp2_with fail
                      exact ⟨⟨j + 1, by omega, by go_num, by rw [HNT.out]; simp⟩, by simp [intOf]; omega⟩
                  · have hjm' : j = mb := by omega
                    subst hjm'
                    have htt : decide ((i : Int) ∈ (nearC G.c G.ls false x).take j) = true := by
                      rw [List.take_of_length_le (by have := HMBL.out; omega)]
                      exact decide_eq_true HMB.out
                    rw [htt] at htv
                    subst htv
                    obtain ⟨u, hgl, hgc, Fu, huf⟩ := gr_uf (HGA.out.step HBB.out)
                    have HUF := hide huf
                    obtain ⟨b7, o7, e7, hb9l', q7⟩ := (HIA.out.below HBB.out) k x HX.out
                    simp only [Option.some.injEq, Addr.mk.injEq, and_true] at e7
                    obtain ⟨rfl, rfl⟩ := e7
                    have HSM : Hid (∀ (V : World) (q : Nat), V.heap[q]? = some (.cells #[.int .i64 (i : Int), .int .i64 x] 3 (0, 0)) → Below wb.heap.size wb V → Calls Try.prog 17 #[.pointer (some ⟨u, 0, none⟩), .slice (some ⟨q, 0, none⟩) 2 2] V fun e w' => e = .returned (.bool false) ∧ Below V.heap.size V w') := hide fun V q hq hV => by
                      have := same_calls u Fu G.c (some ⟨q, 0, none⟩) 2 2 [(i : Int), x] V (HUF.out.below hV) rfl (by decide) (by
                        intro k x hk
                        refine ⟨q, 0, rfl, (Array.getElem?_eq_some_iff.1 hq).1, ?_⟩
                        match k, hk with
                        | 0, hk => simp at hk; subst hk; simp [World.cell?, hq]
                        | 1, hk => simp at hk; subst hk; simp [World.cell?, hq])
                      rwa [HSA.out] at this
                    clear huf htt
                    have HU0 : Hid (∀ W, New wb W → W.cell? ⟨g, 0, none⟩ = some (.pointer (some ⟨u, 0, none⟩)) ∧ W.cell? ⟨b9, o9 + k, none⟩ = some (.int .i64 x)) := hide fun W hW => ⟨(Below.cell hW (p := ⟨g, 0, none⟩) hgl).trans hgc, (Below.cell hW (p := ⟨b9, o9 + k, none⟩) hb9l').trans q7⟩
                    go_wp2_with fail
                    clear q7 hgc
                    by_cases hk0 : k = 0
                    · subst hk0
                      have HF : Hid (∀ W, New wb W → W.cell? ⟨g, 0, none⟩ = some (.pointer (some ⟨u, 0, none⟩)) ∧ W.cell? ⟨b9, o9, none⟩ = some (.int .i64 x)) := HU0
                      have hm0 : 0 < m := by omega
                      refine region_by (fun a b => a = b) way_eq 31 12 (fun W => New wb W) (by kernel_rfl) (by kernel_rfl) (fun _ _ d _ _ h => by cases d <;> exact h) (fun x y h hx => h ▸ hx) (Below.refl _ _).drew (fun KT hKT => ?_)
                      simp only [List.take_succ_cons, List.take_zero]
                      refine Lex.want (v := ?_) (by rfl) (fun W hW => ?hd1) ?_
                      case hd1 =>
                        have hh := HF.out W hW
                        clear hW
                        go_split_ands
                        go_simp
                        first | rfl | exact way_new.refl _ | exact way_grow.refl _ | (refine ⟨?_, way_new.refl _⟩; rfl) | (refine ⟨?_, way_grow.refl _⟩; rfl)
                      try simp only [Act.put, List.setIfInBounds_toArray, List.set_cons_zero, List.set_cons_succ, List.getElem_toArray, List.getElem_cons_zero, List.getElem_cons_succ]
                      refine Lex.want (v := ?_) (by rfl) (fun W hW => ?hd2) ?_
                      case hd2 =>
                        have hh := HF.out W hW
                        clear hW
                        go_split_ands
                        go_simp
                        first | rfl | exact way_new.refl _ | exact way_grow.refl _ | (refine ⟨?_, way_new.refl _⟩; rfl) | (refine ⟨?_, way_grow.refl _⟩; rfl)
                      try simp only [Act.put, List.setIfInBounds_toArray, List.set_cons_zero, List.set_cons_succ, List.getElem_toArray, List.getElem_cons_zero, List.getElem_cons_succ]
                      refine Lex.want (v := ?_) (by rfl) (fun W hW => ?hd3) ?_
                      case hd3 =>
                        have hh := HF.out W hW
                        clear hW
                        go_split_ands
                        go_simp
                        first | rfl | exact way_new.refl _ | exact way_grow.refl _ | (refine ⟨?_, way_new.refl _⟩; rfl) | (refine ⟨?_, way_grow.refl _⟩; rfl)
                      try simp only [Act.put, List.setIfInBounds_toArray, List.set_cons_zero, List.set_cons_succ, List.getElem_toArray, List.getElem_cons_zero, List.getElem_cons_succ]
                      refine Lex.want (v := ?_) (by rfl) (fun W hW => ?hd4) ?_
                      case hd4 =>
                        have hh := HF.out W hW
                        clear hW
                        go_split_ands
                        go_simp
                        first | rfl | exact way_new.refl _ | exact way_grow.refl _ | (refine ⟨?_, way_new.refl _⟩; rfl) | (refine ⟨?_, way_grow.refl _⟩; rfl)
                      try simp only [Act.put, List.setIfInBounds_toArray, List.set_cons_zero, List.set_cons_succ, List.getElem_toArray, List.getElem_cons_zero, List.getElem_cons_succ]
                      refine Lex.want (v := ?_) (by rfl) (fun W hW => ?hd5) ?_
                      case hd5 =>
                        have hh := HF.out W hW
                        clear hW
                        go_split_ands
                        go_simp
                        first | rfl | exact way_new.refl _ | exact way_grow.refl _ | (refine ⟨?_, way_new.refl _⟩; rfl) | (refine ⟨?_, way_grow.refl _⟩; rfl)
                      try simp only [Act.put, List.setIfInBounds_toArray, List.set_cons_zero, List.set_cons_succ, List.getElem_toArray, List.getElem_cons_zero, List.getElem_cons_succ]
                      refine Lex.want (v := ?_) (by rfl) (fun W hW => ?hd6) ?_
                      case hd6 =>
                        have hh := HF.out W hW
                        clear hW
                        go_split_ands
                        go_simp
                        first | rfl | exact way_new.refl _ | exact way_grow.refl _ | (refine ⟨?_, way_new.refl _⟩; rfl) | (refine ⟨?_, way_grow.refl _⟩; rfl)
                      try simp only [Act.put, List.setIfInBounds_toArray, List.set_cons_zero, List.set_cons_succ, List.getElem_toArray, List.getElem_cons_zero, List.getElem_cons_succ]
                      refine Lex.want (v := ?_) (by rfl) (fun W hW => ?hd7) ?_
                      case hd7 =>
                        have hh := HF.out W hW
                        clear hW
                        go_split_ands
                        go_simp
                        first | rfl | exact way_new.refl _ | exact way_grow.refl _ | (refine ⟨?_, way_new.refl _⟩; rfl) | (refine ⟨?_, way_grow.refl _⟩; rfl)
                      try simp only [Act.put, List.setIfInBounds_toArray, List.set_cons_zero, List.set_cons_succ, List.getElem_toArray, List.getElem_cons_zero, List.getElem_cons_succ]
                      refine Lex.want (v := ?_) (by rfl) (fun W hW => ?hd8) ?_
                      case hd8 =>
                        have hh := HF.out W hW
                        clear hW
                        go_split_ands
                        go_simp
                        first | rfl | exact way_new.refl _ | exact way_grow.refl _ | (refine ⟨?_, way_new.refl _⟩; rfl) | (refine ⟨?_, way_grow.refl _⟩; rfl)
                      try simp only [Act.put, List.setIfInBounds_toArray, List.set_cons_zero, List.set_cons_succ, List.getElem_toArray, List.getElem_cons_zero, List.getElem_cons_succ]
                      refine Lex.want (v := ?_) (by rfl) (fun W hW => ?hd9) ?_
                      case hd9 =>
                        have hh := HF.out W hW
                        clear hW
                        go_split_ands
                        go_simp
                        first | rfl | exact way_new.refl _ | exact way_grow.refl _ | (refine ⟨?_, way_new.refl _⟩; rfl) | (refine ⟨?_, way_grow.refl _⟩; rfl)
                      try simp only [Act.put, List.setIfInBounds_toArray, List.set_cons_zero, List.set_cons_succ, List.getElem_toArray, List.getElem_cons_zero, List.getElem_cons_succ]
                      refine Lex.want (v := ?_) (by rfl) (fun W hW => ?hd10) ?_
                      case hd10 =>
                        have hh := HF.out W hW
                        clear hW
                        go_split_ands
                        go_simp
                        first | rfl | exact way_new.refl _ | exact way_grow.refl _ | (refine ⟨?_, way_new.refl _⟩; rfl) | (refine ⟨?_, way_grow.refl _⟩; rfl)
                      try simp only [Act.put, List.setIfInBounds_toArray, List.set_cons_zero, List.set_cons_succ, List.getElem_toArray, List.getElem_cons_zero, List.getElem_cons_succ]
                      refine Lex.want (v := ?_) (by rfl) (fun W hW => ?hd11) ?_
                      case hd11 =>
                        have hh := HF.out W hW
                        clear hW
                        go_split_ands
                        go_simp
                        first | rfl | exact way_new.refl _ | exact way_grow.refl _ | (refine ⟨?_, way_new.refl _⟩; rfl) | (refine ⟨?_, way_grow.refl _⟩; rfl)
                      try simp only [Act.put, List.setIfInBounds_toArray, List.set_cons_zero, List.set_cons_succ, List.getElem_toArray, List.getElem_cons_zero, List.getElem_cons_succ]
                      refine Lex.want (v := ?_) (by rfl) (fun W hW => ?hd12) ?_
                      case hd12 =>
                        have hh := HF.out W hW
                        clear hW
                        go_split_ands
                        go_simp
                        first | rfl | exact way_new.refl _ | exact way_grow.refl _ | (refine ⟨?_, way_new.refl _⟩; rfl) | (refine ⟨?_, way_grow.refl _⟩; rfl)
                      try simp only [Act.put, List.setIfInBounds_toArray, List.set_cons_zero, List.set_cons_succ, List.getElem_toArray, List.getElem_cons_zero, List.getElem_cons_succ]
                      refine Lex.nil (hKT.out _ ?_)
                      clear hKT KT
                      refine Reg.only 12 rfl (by decide) (by kernel_rfl) (fun W hW hT K hK => ?_)
                      subst hW
                      go_simp
                      refine hK.out _ _ ((Below.alloc hT (Nat.le_trans (Nat.le_refl _) hT.size) _)) (fun _ => ?_)
                      clear hK K
                      try simp only [Act.put, List.setIfInBounds_toArray, List.set_cons_zero, List.set_cons_succ, List.getElem_toArray, List.getElem_cons_zero, List.getElem_cons_succ]
                      refine Reg.only 13 rfl (by decide) (by kernel_rfl) (fun W hW hT2 K hK => ?_)
                      subst hW
                      have hSM := hide (HSM.out (wb.alloc (.cells #[.int .i64 (i : Int), .int .i64 x] 3)).drew wb.heap.size (heap_alloc_new wb _) hT2)
                      go_simp
                      refine hSM.out.mono ?_
                      rintro e w9 ⟨rfl, hb9⟩
                      refine hK.out _ _ ((Below.trans hT2 (Below.mono hb9 (by have := hT2.size; exact this)))) (fun _ => ?_)
                      clear hK K
                      try simp only [Act.put, List.setIfInBounds_toArray, List.set_cons_zero, List.set_cons_succ, List.getElem_toArray, List.getElem_cons_zero, List.getElem_cons_succ]
                      refine Reg.seg 14 17 way_eq (by kernel_rfl) (fun _ _ d _ _ h => by cases d <;> exact h) (fun KT hKT => ?_)
                      simp only [List.take_succ_cons, List.take_zero, List.drop_succ_cons, List.drop_zero]
                      refine Lex.want (v := ?_) (by rfl) (fun W hW => ?hd13) ?_
                      case hd13 =>
                        have hh := HF.out W hW
                        clear hW
                        go_split_ands
                        go_simp
                        first | rfl | exact way_new.refl _ | exact way_grow.refl _ | (refine ⟨?_, way_new.refl _⟩; rfl) | (refine ⟨?_, way_grow.refl _⟩; rfl)
                      try simp only [Act.put, List.setIfInBounds_toArray, List.set_cons_zero, List.set_cons_succ, List.getElem_toArray, List.getElem_cons_zero, List.getElem_cons_succ]
                      refine Lex.want (v := ?_) (by rfl) (fun W hW => ?hd14) ?_
                      case hd14 =>
                        have hh := HF.out W hW
                        clear hW
                        go_split_ands
                        go_simp
                        first | rfl | exact way_new.refl _ | exact way_grow.refl _ | (refine ⟨?_, way_new.refl _⟩; rfl) | (refine ⟨?_, way_grow.refl _⟩; rfl)
                      try simp only [Act.put, List.setIfInBounds_toArray, List.set_cons_zero, List.set_cons_succ, List.getElem_toArray, List.getElem_cons_zero, List.getElem_cons_succ]
                      refine Lex.want (v := ?_) (by rfl) (fun W hW => ?hd15) ?_
                      case hd15 =>
                        have hh := HF.out W hW
                        clear hW
                        go_split_ands
                        go_simp
                        first | rfl | exact way_new.refl _ | exact way_grow.refl _ | (refine ⟨?_, way_new.refl _⟩; rfl) | (refine ⟨?_, way_grow.refl _⟩; rfl)
                      try simp only [Act.put, List.setIfInBounds_toArray, List.set_cons_zero, List.set_cons_succ, List.getElem_toArray, List.getElem_cons_zero, List.getElem_cons_succ]
                      refine Lex.want (v := ?_) (by rfl) (fun W hW => ?hd16) ?_
                      case hd16 =>
                        have hh := HF.out W hW
                        clear hW
                        go_split_ands
                        go_simp
                        first | rfl | exact way_new.refl _ | exact way_grow.refl _ | (refine ⟨?_, way_new.refl _⟩; rfl) | (refine ⟨?_, way_grow.refl _⟩; rfl)
                      try simp only [Act.put, List.setIfInBounds_toArray, List.set_cons_zero, List.set_cons_succ, List.getElem_toArray, List.getElem_cons_zero, List.getElem_cons_succ]
                      refine Lex.want (v := ?_) (by rfl) (fun W hW => ?hd17) ?_
                      case hd17 =>
                        have hh := HF.out W hW
                        clear hW
                        go_split_ands
                        go_simp
                        first | rfl | exact way_new.refl _ | exact way_grow.refl _ | (refine ⟨?_, way_new.refl _⟩; rfl) | (refine ⟨?_, way_grow.refl _⟩; rfl)
                      try simp only [Act.put, List.setIfInBounds_toArray, List.set_cons_zero, List.set_cons_succ, List.getElem_toArray, List.getElem_cons_zero, List.getElem_cons_succ]
                      refine Lex.skip (by rfl) ?_
                      try simp only [Act.put, List.setIfInBounds_toArray, List.set_cons_zero, List.set_cons_succ, List.getElem_toArray, List.getElem_cons_zero, List.getElem_cons_succ]
                      refine Lex.skip (by rfl) ?_
                      try simp only [Act.put, List.setIfInBounds_toArray, List.set_cons_zero, List.set_cons_succ, List.getElem_toArray, List.getElem_cons_zero, List.getElem_cons_succ]
                      refine Lex.skip (by rfl) ?_
                      try simp only [Act.put, List.setIfInBounds_toArray, List.set_cons_zero, List.set_cons_succ, List.getElem_toArray, List.getElem_cons_zero, List.getElem_cons_succ]
                      refine Lex.skip (by rfl) ?_
                      try simp only [Act.put, List.setIfInBounds_toArray, List.set_cons_zero, List.set_cons_succ, List.getElem_toArray, List.getElem_cons_zero, List.getElem_cons_succ]
                      refine Lex.skip (by rfl) ?_
                      try simp only [Act.put, List.setIfInBounds_toArray, List.set_cons_zero, List.set_cons_succ, List.getElem_toArray, List.getElem_cons_zero, List.getElem_cons_succ]
                      refine Lex.skip (by rfl) ?_
                      try simp only [Act.put, List.setIfInBounds_toArray, List.set_cons_zero, List.set_cons_succ, List.getElem_toArray, List.getElem_cons_zero, List.getElem_cons_succ]
                      refine Lex.skip (by rfl) ?_
                      try simp only [Act.put, List.setIfInBounds_toArray, List.set_cons_zero, List.set_cons_succ, List.getElem_toArray, List.getElem_cons_zero, List.getElem_cons_succ]
                      refine Lex.skip (by rfl) ?_
                      try simp only [Act.put, List.setIfInBounds_toArray, List.set_cons_zero, List.set_cons_succ, List.getElem_toArray, List.getElem_cons_zero, List.getElem_cons_succ]
                      refine Lex.skip (by rfl) ?_
                      try simp only [Act.put, List.setIfInBounds_toArray, List.set_cons_zero, List.set_cons_succ, List.getElem_toArray, List.getElem_cons_zero, List.getElem_cons_succ]
                      refine Lex.skip (by rfl) ?_
                      try simp only [Act.put, List.setIfInBounds_toArray, List.set_cons_zero, List.set_cons_succ, List.getElem_toArray, List.getElem_cons_zero, List.getElem_cons_succ]
                      refine Lex.want (v := ?_) (by rfl) (fun W hW => ?hd18) ?_
                      case hd18 =>
                        have hh := HF.out W hW
                        clear hW
                        go_split_ands
                        go_simp
                        first | rfl | exact way_new.refl _ | exact way_grow.refl _ | (refine ⟨?_, way_new.refl _⟩; rfl) | (refine ⟨?_, way_grow.refl _⟩; rfl)
                      try simp only [Act.put, List.setIfInBounds_toArray, List.set_cons_zero, List.set_cons_succ, List.getElem_toArray, List.getElem_cons_zero, List.getElem_cons_succ]
                      refine Lex.want (v := ?_) (by rfl) (fun W hW => ?hd19) ?_
                      case hd19 =>
                        have hh := HF.out W hW
                        clear hW
                        go_split_ands
                        go_simp
                        first | rfl | exact way_new.refl _ | exact way_grow.refl _ | (refine ⟨?_, way_new.refl _⟩; rfl) | (refine ⟨?_, way_grow.refl _⟩; rfl)
                      try simp only [Act.put, List.setIfInBounds_toArray, List.set_cons_zero, List.set_cons_succ, List.getElem_toArray, List.getElem_cons_zero, List.getElem_cons_succ]
                      refine Lex.nil (hKT.out _ ?_)
                      clear hKT KT
                      refine Reg.done (by kernel_rfl) (fun W hW hWT => ⟨by kernel_rfl, ?_⟩)
                      simp only [List.drop_succ_cons, List.drop_zero]
                      subst hW
                      have HBW := hide (show Below wb.heap.size wb w9 from hWT)
                      clear HF HSM hT hT2 hSM hb9 hWT
                      have HF : Hid (∀ W, w9.drew = W → W.cell? ⟨g, 0, none⟩ = some (.pointer (some ⟨u, 0, none⟩)) ∧ W.cell? ⟨b9, o9, none⟩ = some (.int .i64 x)) := hide fun W hW => hW ▸ HU0.out w9.drew (Below.drew HBW.out)
                      have HCLS := hide (class_calls x (HUF.out.below (Below.drew HBW.out)))
                      go_wp2_with fail
                      refine region_by (fun a b => a = b) way_eq 8 8 (fun W => w9.drew = W) (by kernel_rfl) (by kernel_rfl) (fun _ _ d _ _ h => by cases d <;> exact h) (fun x y h hx => h ▸ hx) rfl (fun KT hKT => ?_)
                      simp only [List.take_succ_cons, List.take_zero]
                      refine Lex.want (v := ?_) (by rfl) (fun W hW => ?hd20) ?_
                      case hd20 =>
                        have hh := HF.out W hW
                        clear hW
                        go_split_ands
                        go_simp
                        first | rfl | exact way_new.refl _ | exact way_grow.refl _ | (refine ⟨?_, way_new.refl _⟩; rfl) | (refine ⟨?_, way_grow.refl _⟩; rfl)
                      try simp only [Act.put, List.setIfInBounds_toArray, List.set_cons_zero, List.set_cons_succ, List.getElem_toArray, List.getElem_cons_zero, List.getElem_cons_succ]
                      refine Lex.want (v := ?_) (by rfl) (fun W hW => ?hd21) ?_
                      case hd21 =>
                        have hh := HF.out W hW
                        clear hW
                        go_split_ands
                        go_simp
                        first | rfl | exact way_new.refl _ | exact way_grow.refl _ | (refine ⟨?_, way_new.refl _⟩; rfl) | (refine ⟨?_, way_grow.refl _⟩; rfl)
                      try simp only [Act.put, List.setIfInBounds_toArray, List.set_cons_zero, List.set_cons_succ, List.getElem_toArray, List.getElem_cons_zero, List.getElem_cons_succ]
                      refine Lex.want (v := ?_) (by rfl) (fun W hW => ?hd22) ?_
                      case hd22 =>
                        have hh := HF.out W hW
                        clear hW
                        go_split_ands
                        go_simp
                        first | rfl | exact way_new.refl _ | exact way_grow.refl _ | (refine ⟨?_, way_new.refl _⟩; rfl) | (refine ⟨?_, way_grow.refl _⟩; rfl)
                      try simp only [Act.put, List.setIfInBounds_toArray, List.set_cons_zero, List.set_cons_succ, List.getElem_toArray, List.getElem_cons_zero, List.getElem_cons_succ]
                      refine Lex.want (v := ?_) (by rfl) (fun W hW => ?hd23) ?_
                      case hd23 =>
                        have hh := HF.out W hW
                        clear hW
                        go_split_ands
                        go_simp
                        first | rfl | exact way_new.refl _ | exact way_grow.refl _ | (refine ⟨?_, way_new.refl _⟩; rfl) | (refine ⟨?_, way_grow.refl _⟩; rfl)
                      try simp only [Act.put, List.setIfInBounds_toArray, List.set_cons_zero, List.set_cons_succ, List.getElem_toArray, List.getElem_cons_zero, List.getElem_cons_succ]
                      refine Lex.want (v := ?_) (by rfl) (fun W hW => ?hd24) ?_
                      case hd24 =>
                        have hh := HF.out W hW
                        clear hW
                        go_split_ands
                        go_simp
                        first | rfl | exact way_new.refl _ | exact way_grow.refl _ | (refine ⟨?_, way_new.refl _⟩; rfl) | (refine ⟨?_, way_grow.refl _⟩; rfl)
                      try simp only [Act.put, List.setIfInBounds_toArray, List.set_cons_zero, List.set_cons_succ, List.getElem_toArray, List.getElem_cons_zero, List.getElem_cons_succ]
                      refine Lex.want (v := ?_) (by rfl) (fun W hW => ?hd25) ?_
                      case hd25 =>
                        have hh := HF.out W hW
                        clear hW
                        go_split_ands
                        go_simp
                        first | rfl | exact way_new.refl _ | exact way_grow.refl _ | (refine ⟨?_, way_new.refl _⟩; rfl) | (refine ⟨?_, way_grow.refl _⟩; rfl)
                      try simp only [Act.put, List.setIfInBounds_toArray, List.set_cons_zero, List.set_cons_succ, List.getElem_toArray, List.getElem_cons_zero, List.getElem_cons_succ]
                      refine Lex.want (v := ?_) (by rfl) (fun W hW => ?hd26) ?_
                      case hd26 =>
                        have hh := HF.out W hW
                        clear hW
                        go_split_ands
                        go_simp
                        first | rfl | exact way_new.refl _ | exact way_grow.refl _ | (refine ⟨?_, way_new.refl _⟩; rfl) | (refine ⟨?_, way_grow.refl _⟩; rfl)
                      try simp only [Act.put, List.setIfInBounds_toArray, List.set_cons_zero, List.set_cons_succ, List.getElem_toArray, List.getElem_cons_zero, List.getElem_cons_succ]
                      refine Lex.want (v := ?_) (by rfl) (fun W hW => ?hd27) ?_
                      case hd27 =>
                        have hh := HF.out W hW
                        clear hW
                        go_split_ands
                        go_simp
                        first | rfl | exact way_new.refl _ | exact way_grow.refl _ | (refine ⟨?_, way_new.refl _⟩; rfl) | (refine ⟨?_, way_grow.refl _⟩; rfl)
                      try simp only [Act.put, List.setIfInBounds_toArray, List.set_cons_zero, List.set_cons_succ, List.getElem_toArray, List.getElem_cons_zero, List.getElem_cons_succ]
                      refine Lex.nil (hKT.out _ ?_)
                      clear hKT KT
                      refine Reg.done (by kernel_rfl) (fun W hW hWT => ⟨by kernel_rfl, ?_⟩)
                      simp only [List.drop_succ_cons, List.drop_zero]
                      subst hW
                      clear HF hWT
                      go_wp2_with (go_at_call 18; refine Hid.out ?_)
                      refine hide ?_
                      refine HCLS.out.mono ?_
                      rintro e wc ⟨cv, rfl, hcv, hbc⟩
                      obtain ⟨ca, cc, rfl, hci, _⟩ := row_ints hcv
                      have HCI := hide hci
                      have hbwc : Below wa.heap.size wa wc := HBB.out.trans ((Below.trans (Below.drew HBW.out) (hbc.mono (by have := HBW.out.size; exact this))).mono HBB.out.size)
                      have HBC := hide hbwc
                      obtain ⟨cn, hcn⟩ : ∃ cn, (classC G.c x).length = cn := ⟨_, rfl⟩
                      have hcn20 : cn ≤ 20 := by
                        have h1 := classC_length G.c x
                        have h2 := hnn.out
                        omega
                      have HCN := hide hcn
                      rw [hcn]
                      clear hcv hci hbc hbwc hcn HCLS HUF HU0 HBW HBB
                      go_wp2_with fail
                      go_loopw [15] (fun jv wr => ∃ j2 : Nat, j2 ≤ cn ∧ jv = .int .i64 j2 ∧ Hid (Below wc.heap.size wc wr)) (fun jv _ => cn - (intOf jv).toNat)
                      case atStart => exact ⟨0, by omega, rfl, hide (Below.refl _ _)⟩
                      case round =>
                        obtain ⟨j2, hj2, rfl, hbj⟩ := hrel
                        by_cases hjc : j2 < cn
                        · obtain ⟨y, hy⟩ : ∃ y, (classC G.c x)[j2]? = some y := ⟨(classC G.c x)[j2]'(by have := HCN.out; omega), List.getElem?_eq_getElem _⟩
                          have HYM : Hid (y ∈ nearC G.c G.ls true (i : Int)) := hide (HCS.out y (List.mem_of_getElem? hy))
                          have HY := hide hy
                          clear hy
                          go_wp2_with fail
                          go_loopw [16, 17] (fun iv qv wr => ∃ q : Nat, q ≤ m ∧ qv = .int .i64 q ∧ iv = .bool (decide (y ∈ (nearC G.c G.ls true (i : Int)).take q)) ∧ Hid (Below wc.heap.size wc wr)) (fun _ qv _ => m - (intOf qv).toNat)
                          case atStart => exact ⟨0, by omega, rfl, by simp, hbj⟩
                          case round =>
                            clear hbj
                            obtain ⟨q, hq, rfl, hiv, hbj⟩ := hrel
                            by_cases hqm : q < m
                            · obtain ⟨z, hz⟩ : ∃ z, (nearC G.c G.ls true (i : Int))[q]? = some z := ⟨(nearC G.c G.ls true (i : Int))[q]'(by have := HM.out; omega), List.getElem?_eq_getElem _⟩
                              obtain ⟨b5, o5, e5, hb5l, q5⟩ := (HIA.out.below (HBC.out.trans (hbj.out.mono HBC.out.size))) q z hz
                              simp only [Option.some.injEq, Addr.mk.injEq, and_true] at e5
                              obtain ⟨rfl, rfl⟩ := e5
                              obtain ⟨b4, o4, rfl, hb4l, q4⟩ := (HCI.out.below hbj.out) j2 y HY.out
                              have hms := mem_take_succ (y := y) hz
                              obtain ⟨bt, hbt⟩ : ∃ b, decide (y ∈ (nearC G.c G.ls true (i : Int)).take q) = b := ⟨_, rfl⟩
                              rw [hbt] at hiv
                              subst hiv
                              have HNT : Hid (decide (y ∈ (nearC G.c G.ls true (i : Int)).take (q + 1)) = (bt || decide (z = y))) := hide (by
                                rw [← hbt]
                                by_cases q1 : y ∈ (nearC G.c G.ls true (i : Int)).take q <;> by_cases q2 : z = y <;> simp [hms, q1, q2])
                              have HF : Hid (∀ W, wr.drew = W → W.cell? ⟨b9, o9 + q, none⟩ = some (.int .i64 z) ∧ W.cell? ⟨b4, o4 + j2, none⟩ = some (.int .i64 y)) := hide fun W hW => hW ▸ ⟨q5, q4⟩
                              have HBN := hide (Below.drew hbj.out)
                              clear hz hms hbt q5 q4
                              cases bt
                              · by_cases hzy : z = y
                                · subst hzy
                                  go_wp2_with fail
                                  refine region_by (fun a b => a = b) way_eq 13 13 (fun W => wr.drew = W) (by kernel_rfl) (by kernel_rfl) (fun _ _ d _ _ h => by cases d <;> exact h) (fun x y h hx => h ▸ hx) rfl (fun KT hKT => ?_)
                                  simp only [List.take_succ_cons, List.take_zero]
                                  refine Lex.want (v := ?_) (by rfl) (fun W hW => ?hd28) ?_
                                  case hd28 =>
                                    have hh := HF.out W hW
                                    clear hW
                                    go_split_ands
                                    go_simp
                                    first | rfl | exact way_new.refl _ | exact way_grow.refl _ | (refine ⟨?_, way_new.refl _⟩; rfl) | (refine ⟨?_, way_grow.refl _⟩; rfl)
                                  try simp only [Act.put, List.setIfInBounds_toArray, List.set_cons_zero, List.set_cons_succ, List.getElem_toArray, List.getElem_cons_zero, List.getElem_cons_succ]
                                  refine Lex.want (v := ?_) (by rfl) (fun W hW => ?hd29) ?_
                                  case hd29 =>
                                    have hh := HF.out W hW
                                    clear hW
                                    go_split_ands
                                    go_simp
                                    first | rfl | exact way_new.refl _ | exact way_grow.refl _ | (refine ⟨?_, way_new.refl _⟩; rfl) | (refine ⟨?_, way_grow.refl _⟩; rfl)
                                  try simp only [Act.put, List.setIfInBounds_toArray, List.set_cons_zero, List.set_cons_succ, List.getElem_toArray, List.getElem_cons_zero, List.getElem_cons_succ]
                                  refine Lex.want (v := ?_) (by rfl) (fun W hW => ?hd30) ?_
                                  case hd30 =>
                                    have hh := HF.out W hW
                                    clear hW
                                    go_split_ands
                                    go_simp
                                    first | rfl | exact way_new.refl _ | exact way_grow.refl _ | (refine ⟨?_, way_new.refl _⟩; rfl) | (refine ⟨?_, way_grow.refl _⟩; rfl)
                                  try simp only [Act.put, List.setIfInBounds_toArray, List.set_cons_zero, List.set_cons_succ, List.getElem_toArray, List.getElem_cons_zero, List.getElem_cons_succ]
                                  refine Lex.want (v := ?_) (by rfl) (fun W hW => ?hd31) ?_
                                  case hd31 =>
                                    have hh := HF.out W hW
                                    clear hW
                                    go_split_ands
                                    go_simp
                                    first | rfl | exact way_new.refl _ | exact way_grow.refl _ | (refine ⟨?_, way_new.refl _⟩; rfl) | (refine ⟨?_, way_grow.refl _⟩; rfl)
                                  try simp only [Act.put, List.setIfInBounds_toArray, List.set_cons_zero, List.set_cons_succ, List.getElem_toArray, List.getElem_cons_zero, List.getElem_cons_succ]
                                  refine Lex.want (v := ?_) (by rfl) (fun W hW => ?hd32) ?_
                                  case hd32 =>
                                    have hh := HF.out W hW
                                    clear hW
                                    go_split_ands
                                    go_simp
                                    first | rfl | exact way_new.refl _ | exact way_grow.refl _ | (refine ⟨?_, way_new.refl _⟩; rfl) | (refine ⟨?_, way_grow.refl _⟩; rfl)
                                  try simp only [Act.put, List.setIfInBounds_toArray, List.set_cons_zero, List.set_cons_succ, List.getElem_toArray, List.getElem_cons_zero, List.getElem_cons_succ]
                                  refine Lex.want (v := ?_) (by rfl) (fun W hW => ?hd33) ?_
                                  case hd33 =>
                                    have hh := HF.out W hW
                                    clear hW
                                    go_split_ands
                                    go_simp
                                    first | rfl | exact way_new.refl _ | exact way_grow.refl _ | (refine ⟨?_, way_new.refl _⟩; rfl) | (refine ⟨?_, way_grow.refl _⟩; rfl)
                                  try simp only [Act.put, List.setIfInBounds_toArray, List.set_cons_zero, List.set_cons_succ, List.getElem_toArray, List.getElem_cons_zero, List.getElem_cons_succ]
                                  refine Lex.want (v := ?_) (by rfl) (fun W hW => ?hd34) ?_
                                  case hd34 =>
                                    have hh := HF.out W hW
                                    clear hW
                                    go_split_ands
                                    go_simp
                                    first | rfl | exact way_new.refl _ | exact way_grow.refl _ | (refine ⟨?_, way_new.refl _⟩; rfl) | (refine ⟨?_, way_grow.refl _⟩; rfl)
                                  try simp only [Act.put, List.setIfInBounds_toArray, List.set_cons_zero, List.set_cons_succ, List.getElem_toArray, List.getElem_cons_zero, List.getElem_cons_succ]
                                  refine Lex.want (v := ?_) (by rfl) (fun W hW => ?hd35) ?_
                                  case hd35 =>
                                    have hh := HF.out W hW
                                    clear hW
                                    go_split_ands
                                    go_simp
                                    first | rfl | exact way_new.refl _ | exact way_grow.refl _ | (refine ⟨?_, way_new.refl _⟩; rfl) | (refine ⟨?_, way_grow.refl _⟩; rfl)
                                  try simp only [Act.put, List.setIfInBounds_toArray, List.set_cons_zero, List.set_cons_succ, List.getElem_toArray, List.getElem_cons_zero, List.getElem_cons_succ]
                                  refine Lex.want (v := ?_) (by rfl) (fun W hW => ?hd36) ?_
                                  case hd36 =>
                                    have hh := HF.out W hW
                                    clear hW
                                    go_split_ands
                                    go_simp
                                    first | rfl | exact way_new.refl _ | exact way_grow.refl _ | (refine ⟨?_, way_new.refl _⟩; rfl) | (refine ⟨?_, way_grow.refl _⟩; rfl)
                                  try simp only [Act.put, List.setIfInBounds_toArray, List.set_cons_zero, List.set_cons_succ, List.getElem_toArray, List.getElem_cons_zero, List.getElem_cons_succ]
                                  refine Lex.want (v := ?_) (by rfl) (fun W hW => ?hd37) ?_
                                  case hd37 =>
                                    have hh := HF.out W hW
                                    clear hW
                                    go_split_ands
                                    go_simp
                                    first | rfl | exact way_new.refl _ | exact way_grow.refl _ | (refine ⟨?_, way_new.refl _⟩; rfl) | (refine ⟨?_, way_grow.refl _⟩; rfl)
                                  try simp only [Act.put, List.setIfInBounds_toArray, List.set_cons_zero, List.set_cons_succ, List.getElem_toArray, List.getElem_cons_zero, List.getElem_cons_succ]
                                  refine Lex.want (v := ?_) (by rfl) (fun W hW => ?hd38) ?_
                                  case hd38 =>
                                    have hh := HF.out W hW
                                    clear hW
                                    go_split_ands
                                    go_simp
                                    first | rfl | exact way_new.refl _ | exact way_grow.refl _ | (refine ⟨?_, way_new.refl _⟩; rfl) | (refine ⟨?_, way_grow.refl _⟩; rfl)
                                  try simp only [Act.put, List.setIfInBounds_toArray, List.set_cons_zero, List.set_cons_succ, List.getElem_toArray, List.getElem_cons_zero, List.getElem_cons_succ]
                                  refine Lex.want (v := ?_) (by rfl) (fun W hW => ?hd39) ?_
                                  case hd39 =>
                                    have hh := HF.out W hW
                                    clear hW
                                    go_split_ands
                                    go_simp
                                    first | rfl | exact way_new.refl _ | exact way_grow.refl _ | (refine ⟨?_, way_new.refl _⟩; rfl) | (refine ⟨?_, way_grow.refl _⟩; rfl)
                                  try simp only [Act.put, List.setIfInBounds_toArray, List.set_cons_zero, List.set_cons_succ, List.getElem_toArray, List.getElem_cons_zero, List.getElem_cons_succ]
                                  refine Lex.want (v := ?_) (by rfl) (fun W hW => ?hd40) ?_
                                  case hd40 =>
                                    have hh := HF.out W hW
                                    clear hW
                                    go_split_ands
                                    go_simp
                                    first | rfl | exact way_new.refl _ | exact way_grow.refl _ | (refine ⟨?_, way_new.refl _⟩; rfl) | (refine ⟨?_, way_grow.refl _⟩; rfl)
                                  try simp only [Act.put, List.setIfInBounds_toArray, List.set_cons_zero, List.set_cons_succ, List.getElem_toArray, List.getElem_cons_zero, List.getElem_cons_succ]
                                  refine Lex.nil (hKT.out _ ?_)
                                  clear hKT KT
                                  refine Reg.done (by kernel_rfl) (fun W hW hWT => ⟨by kernel_rfl, ?_⟩)
                                  simp only [List.drop_succ_cons, List.drop_zero]
                                  subst hW
                                  clear HF hWT
                                  go_wp2_with fail
                                  exact ⟨⟨q + 1, by omega, by go_num, by rw [HNT.out]; simp, HBN⟩, by simp [intOf]; omega⟩
                                · have e6 : (z == y) = false := by simpa using hzy
                                  go_wp2_with fail
                                  refine region_by (fun a b => a = b) way_eq 13 13 (fun W => wr.drew = W) (by kernel_rfl) (by kernel_rfl) (fun _ _ d _ _ h => by cases d <;> exact h) (fun x y h hx => h ▸ hx) rfl (fun KT hKT => ?_)
                                  simp only [List.take_succ_cons, List.take_zero]
                                  refine Lex.want (v := ?_) (by rfl) (fun W hW => ?hd41) ?_
                                  case hd41 =>
                                    have hh := HF.out W hW
                                    clear hW
                                    go_split_ands
                                    go_simp
                                    first | rfl | exact way_new.refl _ | exact way_grow.refl _ | (refine ⟨?_, way_new.refl _⟩; rfl) | (refine ⟨?_, way_grow.refl _⟩; rfl)
                                  try simp only [Act.put, List.setIfInBounds_toArray, List.set_cons_zero, List.set_cons_succ, List.getElem_toArray, List.getElem_cons_zero, List.getElem_cons_succ]
                                  refine Lex.want (v := ?_) (by rfl) (fun W hW => ?hd42) ?_
                                  case hd42 =>
                                    have hh := HF.out W hW
                                    clear hW
                                    go_split_ands
                                    go_simp
                                    first | rfl | exact way_new.refl _ | exact way_grow.refl _ | (refine ⟨?_, way_new.refl _⟩; rfl) | (refine ⟨?_, way_grow.refl _⟩; rfl)
                                  try simp only [Act.put, List.setIfInBounds_toArray, List.set_cons_zero, List.set_cons_succ, List.getElem_toArray, List.getElem_cons_zero, List.getElem_cons_succ]
                                  refine Lex.want (v := ?_) (by rfl) (fun W hW => ?hd43) ?_
                                  case hd43 =>
                                    have hh := HF.out W hW
                                    clear hW
                                    go_split_ands
                                    go_simp
                                    first | rfl | exact way_new.refl _ | exact way_grow.refl _ | (refine ⟨?_, way_new.refl _⟩; rfl) | (refine ⟨?_, way_grow.refl _⟩; rfl)
                                  try simp only [Act.put, List.setIfInBounds_toArray, List.set_cons_zero, List.set_cons_succ, List.getElem_toArray, List.getElem_cons_zero, List.getElem_cons_succ]
                                  refine Lex.want (v := ?_) (by rfl) (fun W hW => ?hd44) ?_
                                  case hd44 =>
                                    have hh := HF.out W hW
                                    clear hW
                                    go_split_ands
                                    go_simp
                                    first | rfl | exact way_new.refl _ | exact way_grow.refl _ | (refine ⟨?_, way_new.refl _⟩; rfl) | (refine ⟨?_, way_grow.refl _⟩; rfl)
                                  try simp only [Act.put, List.setIfInBounds_toArray, List.set_cons_zero, List.set_cons_succ, List.getElem_toArray, List.getElem_cons_zero, List.getElem_cons_succ]
                                  refine Lex.want (v := ?_) (by rfl) (fun W hW => ?hd45) ?_
                                  case hd45 =>
                                    have hh := HF.out W hW
                                    clear hW
                                    go_split_ands
                                    go_simp
                                    first | rfl | exact way_new.refl _ | exact way_grow.refl _ | (refine ⟨?_, way_new.refl _⟩; rfl) | (refine ⟨?_, way_grow.refl _⟩; rfl)
                                  try simp only [Act.put, List.setIfInBounds_toArray, List.set_cons_zero, List.set_cons_succ, List.getElem_toArray, List.getElem_cons_zero, List.getElem_cons_succ]
                                  refine Lex.want (v := ?_) (by rfl) (fun W hW => ?hd46) ?_
                                  case hd46 =>
                                    have hh := HF.out W hW
                                    clear hW
                                    go_split_ands
                                    go_simp
                                    first | rfl | exact way_new.refl _ | exact way_grow.refl _ | (refine ⟨?_, way_new.refl _⟩; rfl) | (refine ⟨?_, way_grow.refl _⟩; rfl)
                                  try simp only [Act.put, List.setIfInBounds_toArray, List.set_cons_zero, List.set_cons_succ, List.getElem_toArray, List.getElem_cons_zero, List.getElem_cons_succ]
                                  refine Lex.want (v := ?_) (by rfl) (fun W hW => ?hd47) ?_
                                  case hd47 =>
                                    have hh := HF.out W hW
                                    clear hW
                                    go_split_ands
                                    go_simp
                                    first | rfl | exact way_new.refl _ | exact way_grow.refl _ | (refine ⟨?_, way_new.refl _⟩; rfl) | (refine ⟨?_, way_grow.refl _⟩; rfl)
                                  try simp only [Act.put, List.setIfInBounds_toArray, List.set_cons_zero, List.set_cons_succ, List.getElem_toArray, List.getElem_cons_zero, List.getElem_cons_succ]
                                  refine Lex.want (v := ?_) (by rfl) (fun W hW => ?hd48) ?_
                                  case hd48 =>
                                    have hh := HF.out W hW
                                    clear hW
                                    go_split_ands
                                    go_simp
                                    first | rfl | exact way_new.refl _ | exact way_grow.refl _ | (refine ⟨?_, way_new.refl _⟩; rfl) | (refine ⟨?_, way_grow.refl _⟩; rfl)
                                  try simp only [Act.put, List.setIfInBounds_toArray, List.set_cons_zero, List.set_cons_succ, List.getElem_toArray, List.getElem_cons_zero, List.getElem_cons_succ]
                                  refine Lex.want (v := ?_) (by rfl) (fun W hW => ?hd49) ?_
                                  case hd49 =>
                                    have hh := HF.out W hW
                                    clear hW
                                    go_split_ands
                                    go_simp
                                    first | rfl | exact way_new.refl _ | exact way_grow.refl _ | (refine ⟨?_, way_new.refl _⟩; rfl) | (refine ⟨?_, way_grow.refl _⟩; rfl)
                                  try simp only [Act.put, List.setIfInBounds_toArray, List.set_cons_zero, List.set_cons_succ, List.getElem_toArray, List.getElem_cons_zero, List.getElem_cons_succ]
                                  refine Lex.want (v := ?_) (by rfl) (fun W hW => ?hd50) ?_
                                  case hd50 =>
                                    have hh := HF.out W hW
                                    clear hW
                                    go_split_ands
                                    go_simp
                                    first | rfl | exact way_new.refl _ | exact way_grow.refl _ | (refine ⟨?_, way_new.refl _⟩; rfl) | (refine ⟨?_, way_grow.refl _⟩; rfl)
                                  try simp only [Act.put, List.setIfInBounds_toArray, List.set_cons_zero, List.set_cons_succ, List.getElem_toArray, List.getElem_cons_zero, List.getElem_cons_succ]
                                  refine Lex.want (v := ?_) (by rfl) (fun W hW => ?hd51) ?_
                                  case hd51 =>
                                    have hh := HF.out W hW
                                    clear hW
                                    go_split_ands
                                    go_simp
                                    first | rfl | exact way_new.refl _ | exact way_grow.refl _ | (refine ⟨?_, way_new.refl _⟩; rfl) | (refine ⟨?_, way_grow.refl _⟩; rfl)
                                  try simp only [Act.put, List.setIfInBounds_toArray, List.set_cons_zero, List.set_cons_succ, List.getElem_toArray, List.getElem_cons_zero, List.getElem_cons_succ]
                                  refine Lex.want (v := ?_) (by rfl) (fun W hW => ?hd52) ?_
                                  case hd52 =>
                                    have hh := HF.out W hW
                                    clear hW
                                    go_split_ands
                                    go_simp
                                    first | rfl | exact way_new.refl _ | exact way_grow.refl _ | (refine ⟨?_, way_new.refl _⟩; rfl) | (refine ⟨?_, way_grow.refl _⟩; rfl)
                                  try simp only [Act.put, List.setIfInBounds_toArray, List.set_cons_zero, List.set_cons_succ, List.getElem_toArray, List.getElem_cons_zero, List.getElem_cons_succ]
                                  refine Lex.want (v := ?_) (by rfl) (fun W hW => ?hd53) ?_
                                  case hd53 =>
                                    have hh := HF.out W hW
                                    clear hW
                                    go_split_ands
                                    go_simp
                                    first | rfl | exact way_new.refl _ | exact way_grow.refl _ | (refine ⟨?_, way_new.refl _⟩; rfl) | (refine ⟨?_, way_grow.refl _⟩; rfl)
                                  try simp only [Act.put, List.setIfInBounds_toArray, List.set_cons_zero, List.set_cons_succ, List.getElem_toArray, List.getElem_cons_zero, List.getElem_cons_succ]
                                  refine Lex.nil (hKT.out _ ?_)
                                  clear hKT KT
                                  refine Reg.done (by kernel_rfl) (fun W hW hWT => ⟨by kernel_rfl, ?_⟩)
                                  simp only [List.drop_succ_cons, List.drop_zero]
                                  subst hW
                                  clear HF hWT
                                  go_wp2_with fail
                                  exact ⟨⟨q + 1, by omega, by go_num, by rw [HNT.out]; simp [hzy], HBN⟩, by simp [intOf]; omega⟩
                              · go_wp2_with fail
                                refine region_by (fun a b => a = b) way_eq 13 13 (fun W => wr.drew = W) (by kernel_rfl) (by kernel_rfl) (fun _ _ d _ _ h => by cases d <;> exact h) (fun x y h hx => h ▸ hx) rfl (fun KT hKT => ?_)
                                simp only [List.take_succ_cons, List.take_zero]
                                refine Lex.want (v := ?_) (by rfl) (fun W hW => ?hd54) ?_
                                case hd54 =>
                                  have hh := HF.out W hW
                                  clear hW
                                  go_split_ands
                                  go_simp
                                  first | rfl | exact way_new.refl _ | exact way_grow.refl _ | (refine ⟨?_, way_new.refl _⟩; rfl) | (refine ⟨?_, way_grow.refl _⟩; rfl)
                                try simp only [Act.put, List.setIfInBounds_toArray, List.set_cons_zero, List.set_cons_succ, List.getElem_toArray, List.getElem_cons_zero, List.getElem_cons_succ]
                                refine Lex.want (v := ?_) (by rfl) (fun W hW => ?hd55) ?_
                                case hd55 =>
                                  have hh := HF.out W hW
                                  clear hW
                                  go_split_ands
                                  go_simp
                                  first | rfl | exact way_new.refl _ | exact way_grow.refl _ | (refine ⟨?_, way_new.refl _⟩; rfl) | (refine ⟨?_, way_grow.refl _⟩; rfl)
                                try simp only [Act.put, List.setIfInBounds_toArray, List.set_cons_zero, List.set_cons_succ, List.getElem_toArray, List.getElem_cons_zero, List.getElem_cons_succ]
                                refine Lex.skip (by rfl) ?_
                                try simp only [Act.put, List.setIfInBounds_toArray, List.set_cons_zero, List.set_cons_succ, List.getElem_toArray, List.getElem_cons_zero, List.getElem_cons_succ]
                                refine Lex.skip (by rfl) ?_
                                try simp only [Act.put, List.setIfInBounds_toArray, List.set_cons_zero, List.set_cons_succ, List.getElem_toArray, List.getElem_cons_zero, List.getElem_cons_succ]
                                refine Lex.skip (by rfl) ?_
                                try simp only [Act.put, List.setIfInBounds_toArray, List.set_cons_zero, List.set_cons_succ, List.getElem_toArray, List.getElem_cons_zero, List.getElem_cons_succ]
                                refine Lex.skip (by rfl) ?_
                                try simp only [Act.put, List.setIfInBounds_toArray, List.set_cons_zero, List.set_cons_succ, List.getElem_toArray, List.getElem_cons_zero, List.getElem_cons_succ]
                                refine Lex.skip (by rfl) ?_
                                try simp only [Act.put, List.setIfInBounds_toArray, List.set_cons_zero, List.set_cons_succ, List.getElem_toArray, List.getElem_cons_zero, List.getElem_cons_succ]
                                refine Lex.skip (by rfl) ?_
                                try simp only [Act.put, List.setIfInBounds_toArray, List.set_cons_zero, List.set_cons_succ, List.getElem_toArray, List.getElem_cons_zero, List.getElem_cons_succ]
                                refine Lex.skip (by rfl) ?_
                                try simp only [Act.put, List.setIfInBounds_toArray, List.set_cons_zero, List.set_cons_succ, List.getElem_toArray, List.getElem_cons_zero, List.getElem_cons_succ]
                                refine Lex.skip (by rfl) ?_
                                try simp only [Act.put, List.setIfInBounds_toArray, List.set_cons_zero, List.set_cons_succ, List.getElem_toArray, List.getElem_cons_zero, List.getElem_cons_succ]
                                refine Lex.skip (by rfl) ?_
                                try simp only [Act.put, List.setIfInBounds_toArray, List.set_cons_zero, List.set_cons_succ, List.getElem_toArray, List.getElem_cons_zero, List.getElem_cons_succ]
                                refine Lex.want (v := ?_) (by rfl) (fun W hW => ?hd56) ?_
                                case hd56 =>
                                  have hh := HF.out W hW
                                  clear hW
                                  go_split_ands
                                  go_simp
                                  first | rfl | exact way_new.refl _ | exact way_grow.refl _ | (refine ⟨?_, way_new.refl _⟩; rfl) | (refine ⟨?_, way_grow.refl _⟩; rfl)
                                try simp only [Act.put, List.setIfInBounds_toArray, List.set_cons_zero, List.set_cons_succ, List.getElem_toArray, List.getElem_cons_zero, List.getElem_cons_succ]
                                refine Lex.want (v := ?_) (by rfl) (fun W hW => ?hd57) ?_
                                case hd57 =>
                                  have hh := HF.out W hW
                                  clear hW
                                  go_split_ands
                                  go_simp
                                  first | rfl | exact way_new.refl _ | exact way_grow.refl _ | (refine ⟨?_, way_new.refl _⟩; rfl) | (refine ⟨?_, way_grow.refl _⟩; rfl)
                                try simp only [Act.put, List.setIfInBounds_toArray, List.set_cons_zero, List.set_cons_succ, List.getElem_toArray, List.getElem_cons_zero, List.getElem_cons_succ]
                                refine Lex.nil (hKT.out _ ?_)
                                clear hKT KT
                                refine Reg.done (by kernel_rfl) (fun W hW hWT => ⟨by kernel_rfl, ?_⟩)
                                simp only [List.drop_succ_cons, List.drop_zero]
                                subst hW
                                clear HF hWT
                                go_wp2_with fail
                                exact ⟨⟨q + 1, by omega, by go_num, by rw [HNT.out]; simp, HBN⟩, by simp [intOf]; omega⟩
                            · have hqm' : q = m := by omega
                              subst hqm'
                              have htt : decide (y ∈ (nearC G.c G.ls true (i : Int)).take q) = true := by
                                rw [List.take_of_length_le (by have := HM.out; omega)]
                                exact decide_eq_true HYM.out
                              rw [htt] at hiv
                              subst hiv
                              clear htt
                              go_wp2_with fail
                              exact ⟨⟨j2 + 1, by omega, by go_num, hbj⟩, by simp [intOf]; omega⟩
                        · have hjc' : j2 = cn := by omega
                          subst hjc'
                          have HBX := hide (HBC.out.trans (hbj.out.mono HBC.out.size))
                          clear HCI HCN
                          go_wp2_with fail
                          exact ⟨⟨0 + 1, by omega, by go_num, HBX⟩, by simp [intOf]; omega⟩
                    · obtain ⟨p, rfl⟩ : ∃ p, k = p + 1 := ⟨k - 1, by omega⟩
                      obtain ⟨xp, hxp⟩ : ∃ xp, (nearC G.c G.ls true (i : Int))[p]? = some xp := ⟨(nearC G.c G.ls true (i : Int))[p]'(by have := HM.out; omega), List.getElem?_eq_getElem _⟩
                      obtain ⟨b6, o6, e6, hb6l, q6⟩ := (HIA.out.below HBB.out) p xp hxp
                      simp only [Option.some.injEq, Addr.mk.injEq, and_true] at e6
                      obtain ⟨rfl, rfl⟩ := e6
                      have hp1 : (0 : Int) ≤ (p : Int) + 1 := by omega
                      have hp2 : (p : Int) + 1 < (m : Int) := by omega
                      have hp3 : (p : Int) < (m : Int) := by omega
                      have hp4 : IntKind.i64.wrap (p : Int) = (p : Int) := by rw [IntKind.wrap_i64]; omega
                      have hp5 : (0 : Int) ≤ (p : Int) := by omega
                      have hle : decide (x ≤ xp) = false := decide_eq_false (by have := HPR.out p xp rfl hxp; omega)
                      have HF : Hid (∀ W, New wb W → W.cell? ⟨g, 0, none⟩ = some (.pointer (some ⟨u, 0, none⟩)) ∧ W.cell? ⟨b9, o9 + (p + 1), none⟩ = some (.int .i64 x) ∧ W.cell? ⟨b9, o9 + p, none⟩ = some (.int .i64 xp)) := hide fun W hW => ⟨(HU0.out W hW).1, (HU0.out W hW).2, (Below.cell hW (p := ⟨b9, o9 + p, none⟩) hb9l').trans q6⟩
                      clear hxp q6
                      refine region_by (fun a b => a = b) way_eq 31 12 (fun W => New wb W) (by kernel_rfl) (by kernel_rfl) (fun _ _ d _ _ h => by cases d <;> exact h) (fun x y h hx => h ▸ hx) (Below.refl _ _).drew (fun KT hKT => ?_)
                      simp only [List.take_succ_cons, List.take_zero]
                      refine Lex.want (v := ?_) (by rfl) (fun W hW => ?hd58) ?_
                      case hd58 =>
                        have hh := HF.out W hW
                        clear hW
                        go_split_ands
                        go_simp
                        first | rfl | exact way_new.refl _ | exact way_grow.refl _ | (refine ⟨?_, way_new.refl _⟩; rfl) | (refine ⟨?_, way_grow.refl _⟩; rfl)
                      try simp only [Act.put, List.setIfInBounds_toArray, List.set_cons_zero, List.set_cons_succ, List.getElem_toArray, List.getElem_cons_zero, List.getElem_cons_succ]
                      refine Lex.want (v := ?_) (by rfl) (fun W hW => ?hd59) ?_
                      case hd59 =>
                        have hh := HF.out W hW
                        clear hW
                        go_split_ands
                        go_simp
                        first | rfl | exact way_new.refl _ | exact way_grow.refl _ | (refine ⟨?_, way_new.refl _⟩; rfl) | (refine ⟨?_, way_grow.refl _⟩; rfl)
                      try simp only [Act.put, List.setIfInBounds_toArray, List.set_cons_zero, List.set_cons_succ, List.getElem_toArray, List.getElem_cons_zero, List.getElem_cons_succ]
                      refine Lex.want (v := ?_) (by rfl) (fun W hW => ?hd60) ?_
                      case hd60 =>
                        have hh := HF.out W hW
                        clear hW
                        go_split_ands
                        go_simp
                        first | rfl | exact way_new.refl _ | exact way_grow.refl _ | (refine ⟨?_, way_new.refl _⟩; rfl) | (refine ⟨?_, way_grow.refl _⟩; rfl)
                      try simp only [Act.put, List.setIfInBounds_toArray, List.set_cons_zero, List.set_cons_succ, List.getElem_toArray, List.getElem_cons_zero, List.getElem_cons_succ]
                      refine Lex.want (v := ?_) (by rfl) (fun W hW => ?hd61) ?_
                      case hd61 =>
                        have hh := HF.out W hW
                        clear hW
                        go_split_ands
                        go_simp
                        first | rfl | exact way_new.refl _ | exact way_grow.refl _ | (refine ⟨?_, way_new.refl _⟩; rfl) | (refine ⟨?_, way_grow.refl _⟩; rfl)
                      try simp only [Act.put, List.setIfInBounds_toArray, List.set_cons_zero, List.set_cons_succ, List.getElem_toArray, List.getElem_cons_zero, List.getElem_cons_succ]
                      refine Lex.want (v := ?_) (by rfl) (fun W hW => ?hd62) ?_
                      case hd62 =>
                        have hh := HF.out W hW
                        clear hW
                        go_split_ands
                        go_simp
                        first | rfl | exact way_new.refl _ | exact way_grow.refl _ | (refine ⟨?_, way_new.refl _⟩; rfl) | (refine ⟨?_, way_grow.refl _⟩; rfl)
                      try simp only [Act.put, List.setIfInBounds_toArray, List.set_cons_zero, List.set_cons_succ, List.getElem_toArray, List.getElem_cons_zero, List.getElem_cons_succ]
                      refine Lex.want (v := ?_) (by rfl) (fun W hW => ?hd63) ?_
                      case hd63 =>
                        have hh := HF.out W hW
                        clear hW
                        go_split_ands
                        go_simp
                        first | rfl | exact way_new.refl _ | exact way_grow.refl _ | (refine ⟨?_, way_new.refl _⟩; rfl) | (refine ⟨?_, way_grow.refl _⟩; rfl)
                      try simp only [Act.put, List.setIfInBounds_toArray, List.set_cons_zero, List.set_cons_succ, List.getElem_toArray, List.getElem_cons_zero, List.getElem_cons_succ]
                      refine Lex.want (v := ?_) (by rfl) (fun W hW => ?hd64) ?_
                      case hd64 =>
                        have hh := HF.out W hW
                        clear hW
                        go_split_ands
                        go_simp
                        first | rfl | exact way_new.refl _ | exact way_grow.refl _ | (refine ⟨?_, way_new.refl _⟩; rfl) | (refine ⟨?_, way_grow.refl _⟩; rfl)
                      try simp only [Act.put, List.setIfInBounds_toArray, List.set_cons_zero, List.set_cons_succ, List.getElem_toArray, List.getElem_cons_zero, List.getElem_cons_succ]
                      refine Lex.want (v := ?_) (by rfl) (fun W hW => ?hd65) ?_
                      case hd65 =>
                        have hh := HF.out W hW
                        clear hW
                        go_split_ands
                        go_simp
                        first | rfl | exact way_new.refl _ | exact way_grow.refl _ | (refine ⟨?_, way_new.refl _⟩; rfl) | (refine ⟨?_, way_grow.refl _⟩; rfl)
                      try simp only [Act.put, List.setIfInBounds_toArray, List.set_cons_zero, List.set_cons_succ, List.getElem_toArray, List.getElem_cons_zero, List.getElem_cons_succ]
                      refine Lex.want (v := ?_) (by rfl) (fun W hW => ?hd66) ?_
                      case hd66 =>
                        have hh := HF.out W hW
                        clear hW
                        go_split_ands
                        go_simp
                        first | rfl | exact way_new.refl _ | exact way_grow.refl _ | (refine ⟨?_, way_new.refl _⟩; rfl) | (refine ⟨?_, way_grow.refl _⟩; rfl)
                      try simp only [Act.put, List.setIfInBounds_toArray, List.set_cons_zero, List.set_cons_succ, List.getElem_toArray, List.getElem_cons_zero, List.getElem_cons_succ]
                      refine Lex.want (v := ?_) (by rfl) (fun W hW => ?hd67) ?_
                      case hd67 =>
                        have hh := HF.out W hW
                        clear hW
                        go_split_ands
                        go_simp
                        first | rfl | exact way_new.refl _ | exact way_grow.refl _ | (refine ⟨?_, way_new.refl _⟩; rfl) | (refine ⟨?_, way_grow.refl _⟩; rfl)
                      try simp only [Act.put, List.setIfInBounds_toArray, List.set_cons_zero, List.set_cons_succ, List.getElem_toArray, List.getElem_cons_zero, List.getElem_cons_succ]
                      refine Lex.want (v := ?_) (by rfl) (fun W hW => ?hd68) ?_
                      case hd68 =>
                        have hh := HF.out W hW
                        clear hW
                        go_split_ands
                        go_simp
                        first | rfl | exact way_new.refl _ | exact way_grow.refl _ | (refine ⟨?_, way_new.refl _⟩; rfl) | (refine ⟨?_, way_grow.refl _⟩; rfl)
                      try simp only [Act.put, List.setIfInBounds_toArray, List.set_cons_zero, List.set_cons_succ, List.getElem_toArray, List.getElem_cons_zero, List.getElem_cons_succ]
                      refine Lex.want (v := ?_) (by rfl) (fun W hW => ?hd69) ?_
                      case hd69 =>
                        have hh := HF.out W hW
                        clear hW
                        go_split_ands
                        go_simp
                        first | rfl | exact way_new.refl _ | exact way_grow.refl _ | (refine ⟨?_, way_new.refl _⟩; rfl) | (refine ⟨?_, way_grow.refl _⟩; rfl)
                      try simp only [Act.put, List.setIfInBounds_toArray, List.set_cons_zero, List.set_cons_succ, List.getElem_toArray, List.getElem_cons_zero, List.getElem_cons_succ]
                      refine Lex.nil (hKT.out _ ?_)
                      clear hKT KT
                      refine Reg.only 12 rfl (by decide) (by kernel_rfl) (fun W hW hT K hK => ?_)
                      subst hW
                      go_simp
                      refine hK.out _ _ ((Below.alloc hT (Nat.le_trans (Nat.le_refl _) hT.size) _)) (fun _ => ?_)
                      clear hK K
                      try simp only [Act.put, List.setIfInBounds_toArray, List.set_cons_zero, List.set_cons_succ, List.getElem_toArray, List.getElem_cons_zero, List.getElem_cons_succ]
                      refine Reg.only 13 rfl (by decide) (by kernel_rfl) (fun W hW hT2 K hK => ?_)
                      subst hW
                      have hSM := hide (HSM.out (wb.alloc (.cells #[.int .i64 (i : Int), .int .i64 x] 3)).drew wb.heap.size (heap_alloc_new wb _) hT2)
                      go_simp
                      refine hSM.out.mono ?_
                      rintro e w9 ⟨rfl, hb9⟩
                      refine hK.out _ _ ((Below.trans hT2 (Below.mono hb9 (by have := hT2.size; exact this)))) (fun _ => ?_)
                      clear hK K
                      try simp only [Act.put, List.setIfInBounds_toArray, List.set_cons_zero, List.set_cons_succ, List.getElem_toArray, List.getElem_cons_zero, List.getElem_cons_succ]
                      refine Reg.seg 14 17 way_eq (by kernel_rfl) (fun _ _ d _ _ h => by cases d <;> exact h) (fun KT hKT => ?_)
                      simp only [List.take_succ_cons, List.take_zero, List.drop_succ_cons, List.drop_zero]
                      refine Lex.want (v := ?_) (by rfl) (fun W hW => ?hd70) ?_
                      case hd70 =>
                        have hh := HF.out W hW
                        clear hW
                        go_split_ands
                        go_simp
                        first | rfl | exact way_new.refl _ | exact way_grow.refl _ | (refine ⟨?_, way_new.refl _⟩; rfl) | (refine ⟨?_, way_grow.refl _⟩; rfl)
                      try simp only [Act.put, List.setIfInBounds_toArray, List.set_cons_zero, List.set_cons_succ, List.getElem_toArray, List.getElem_cons_zero, List.getElem_cons_succ]
                      refine Lex.want (v := ?_) (by rfl) (fun W hW => ?hd71) ?_
                      case hd71 =>
                        have hh := HF.out W hW
                        clear hW
                        go_split_ands
                        go_simp
                        first | rfl | exact way_new.refl _ | exact way_grow.refl _ | (refine ⟨?_, way_new.refl _⟩; rfl) | (refine ⟨?_, way_grow.refl _⟩; rfl)
                      try simp only [Act.put, List.setIfInBounds_toArray, List.set_cons_zero, List.set_cons_succ, List.getElem_toArray, List.getElem_cons_zero, List.getElem_cons_succ]
                      refine Lex.want (v := ?_) (by rfl) (fun W hW => ?hd72) ?_
                      case hd72 =>
                        have hh := HF.out W hW
                        clear hW
                        go_split_ands
                        go_simp
                        first | rfl | exact way_new.refl _ | exact way_grow.refl _ | (refine ⟨?_, way_new.refl _⟩; rfl) | (refine ⟨?_, way_grow.refl _⟩; rfl)
                      try simp only [Act.put, List.setIfInBounds_toArray, List.set_cons_zero, List.set_cons_succ, List.getElem_toArray, List.getElem_cons_zero, List.getElem_cons_succ]
                      refine Lex.want (v := ?_) (by rfl) (fun W hW => ?hd73) ?_
                      case hd73 =>
                        have hh := HF.out W hW
                        clear hW
                        go_split_ands
                        go_simp
                        first | rfl | exact way_new.refl _ | exact way_grow.refl _ | (refine ⟨?_, way_new.refl _⟩; rfl) | (refine ⟨?_, way_grow.refl _⟩; rfl)
                      try simp only [Act.put, List.setIfInBounds_toArray, List.set_cons_zero, List.set_cons_succ, List.getElem_toArray, List.getElem_cons_zero, List.getElem_cons_succ]
                      refine Lex.want (v := ?_) (by rfl) (fun W hW => ?hd74) ?_
                      case hd74 =>
                        have hh := HF.out W hW
                        clear hW
                        go_split_ands
                        go_simp
                        first | rfl | exact way_new.refl _ | exact way_grow.refl _ | (refine ⟨?_, way_new.refl _⟩; rfl) | (refine ⟨?_, way_grow.refl _⟩; rfl)
                      try simp only [Act.put, List.setIfInBounds_toArray, List.set_cons_zero, List.set_cons_succ, List.getElem_toArray, List.getElem_cons_zero, List.getElem_cons_succ]
                      refine Lex.want (v := ?_) (by rfl) (fun W hW => ?hd75) ?_
                      case hd75 =>
                        have hh := HF.out W hW
                        clear hW
                        go_split_ands
                        go_simp
                        first | rfl | exact way_new.refl _ | exact way_grow.refl _ | (refine ⟨?_, way_new.refl _⟩; rfl) | (refine ⟨?_, way_grow.refl _⟩; rfl)
                      try simp only [Act.put, List.setIfInBounds_toArray, List.set_cons_zero, List.set_cons_succ, List.getElem_toArray, List.getElem_cons_zero, List.getElem_cons_succ]
                      refine Lex.want (v := ?_) (by rfl) (fun W hW => ?hd76) ?_
                      case hd76 =>
                        have hh := HF.out W hW
                        clear hW
                        go_split_ands
                        go_simp
                        first | rfl | exact way_new.refl _ | exact way_grow.refl _ | (refine ⟨?_, way_new.refl _⟩; rfl) | (refine ⟨?_, way_grow.refl _⟩; rfl)
                      try simp only [Act.put, List.setIfInBounds_toArray, List.set_cons_zero, List.set_cons_succ, List.getElem_toArray, List.getElem_cons_zero, List.getElem_cons_succ]
                      refine Lex.want (v := ?_) (by rfl) (fun W hW => ?hd77) ?_
                      case hd77 =>
                        have hh := HF.out W hW
                        clear hW
                        go_split_ands
                        go_simp
                        first | rfl | exact way_new.refl _ | exact way_grow.refl _ | (refine ⟨?_, way_new.refl _⟩; rfl) | (refine ⟨?_, way_grow.refl _⟩; rfl)
                      try simp only [Act.put, List.setIfInBounds_toArray, List.set_cons_zero, List.set_cons_succ, List.getElem_toArray, List.getElem_cons_zero, List.getElem_cons_succ]
                      refine Lex.want (v := ?_) (by rfl) (fun W hW => ?hd78) ?_
                      case hd78 =>
                        have hh := HF.out W hW
                        clear hW
                        go_split_ands
                        go_simp
                        first | rfl | exact way_new.refl _ | exact way_grow.refl _ | (refine ⟨?_, way_new.refl _⟩; rfl) | (refine ⟨?_, way_grow.refl _⟩; rfl)
                      try simp only [Act.put, List.setIfInBounds_toArray, List.set_cons_zero, List.set_cons_succ, List.getElem_toArray, List.getElem_cons_zero, List.getElem_cons_succ]
                      refine Lex.want (v := ?_) (by rfl) (fun W hW => ?hd79) ?_
                      case hd79 =>
                        have hh := HF.out W hW
                        clear hW
                        go_split_ands
                        go_simp
                        first | rfl | exact way_new.refl _ | exact way_grow.refl _ | (refine ⟨?_, way_new.refl _⟩; rfl) | (refine ⟨?_, way_grow.refl _⟩; rfl)
                      try simp only [Act.put, List.setIfInBounds_toArray, List.set_cons_zero, List.set_cons_succ, List.getElem_toArray, List.getElem_cons_zero, List.getElem_cons_succ]
                      refine Lex.want (v := ?_) (by rfl) (fun W hW => ?hd80) ?_
                      case hd80 =>
                        have hh := HF.out W hW
                        clear hW
                        go_split_ands
                        go_simp
                        first | rfl | exact way_new.refl _ | exact way_grow.refl _ | (refine ⟨?_, way_new.refl _⟩; rfl) | (refine ⟨?_, way_grow.refl _⟩; rfl)
                      try simp only [Act.put, List.setIfInBounds_toArray, List.set_cons_zero, List.set_cons_succ, List.getElem_toArray, List.getElem_cons_zero, List.getElem_cons_succ]
                      refine Lex.want (v := ?_) (by rfl) (fun W hW => ?hd81) ?_
                      case hd81 =>
                        have hh := HF.out W hW
                        clear hW
                        go_split_ands
                        go_simp
                        first | rfl | exact way_new.refl _ | exact way_grow.refl _ | (refine ⟨?_, way_new.refl _⟩; rfl) | (refine ⟨?_, way_grow.refl _⟩; rfl)
                      try simp only [Act.put, List.setIfInBounds_toArray, List.set_cons_zero, List.set_cons_succ, List.getElem_toArray, List.getElem_cons_zero, List.getElem_cons_succ]
                      refine Lex.want (v := ?_) (by rfl) (fun W hW => ?hd82) ?_
                      case hd82 =>
                        have hh := HF.out W hW
                        clear hW
                        go_split_ands
                        go_simp
                        first | rfl | exact way_new.refl _ | exact way_grow.refl _ | (refine ⟨?_, way_new.refl _⟩; rfl) | (refine ⟨?_, way_grow.refl _⟩; rfl)
                      try simp only [Act.put, List.setIfInBounds_toArray, List.set_cons_zero, List.set_cons_succ, List.getElem_toArray, List.getElem_cons_zero, List.getElem_cons_succ]
                      refine Lex.want (v := ?_) (by rfl) (fun W hW => ?hd83) ?_
                      case hd83 =>
                        have hh := HF.out W hW
                        clear hW
                        go_split_ands
                        go_simp
                        first | rfl | exact way_new.refl _ | exact way_grow.refl _ | (refine ⟨?_, way_new.refl _⟩; rfl) | (refine ⟨?_, way_grow.refl _⟩; rfl)
                      try simp only [Act.put, List.setIfInBounds_toArray, List.set_cons_zero, List.set_cons_succ, List.getElem_toArray, List.getElem_cons_zero, List.getElem_cons_succ]
                      refine Lex.want (v := ?_) (by rfl) (fun W hW => ?hd84) ?_
                      case hd84 =>
                        have hh := HF.out W hW
                        clear hW
                        go_split_ands
                        go_simp
                        first | rfl | exact way_new.refl _ | exact way_grow.refl _ | (refine ⟨?_, way_new.refl _⟩; rfl) | (refine ⟨?_, way_grow.refl _⟩; rfl)
                      try simp only [Act.put, List.setIfInBounds_toArray, List.set_cons_zero, List.set_cons_succ, List.getElem_toArray, List.getElem_cons_zero, List.getElem_cons_succ]
                      refine Lex.want (v := ?_) (by rfl) (fun W hW => ?hd85) ?_
                      case hd85 =>
                        have hh := HF.out W hW
                        clear hW
                        go_split_ands
                        go_simp
                        first | rfl | exact way_new.refl _ | exact way_grow.refl _ | (refine ⟨?_, way_new.refl _⟩; rfl) | (refine ⟨?_, way_grow.refl _⟩; rfl)
                      try simp only [Act.put, List.setIfInBounds_toArray, List.set_cons_zero, List.set_cons_succ, List.getElem_toArray, List.getElem_cons_zero, List.getElem_cons_succ]
                      refine Lex.want (v := ?_) (by rfl) (fun W hW => ?hd86) ?_
                      case hd86 =>
                        have hh := HF.out W hW
                        clear hW
                        go_split_ands
                        go_simp
                        first | rfl | exact way_new.refl _ | exact way_grow.refl _ | (refine ⟨?_, way_new.refl _⟩; rfl) | (refine ⟨?_, way_grow.refl _⟩; rfl)
                      try simp only [Act.put, List.setIfInBounds_toArray, List.set_cons_zero, List.set_cons_succ, List.getElem_toArray, List.getElem_cons_zero, List.getElem_cons_succ]
                      refine Lex.nil (hKT.out _ ?_)
                      clear hKT KT
                      refine Reg.done (by kernel_rfl) (fun W hW hWT => ⟨by kernel_rfl, ?_⟩)
                      simp only [List.drop_succ_cons, List.drop_zero]
                      subst hW
                      have HBW := hide (show Below wb.heap.size wb w9 from hWT)
                      clear HF HSM hT hT2 hSM hb9 hWT
                      have HF : Hid (∀ W, w9.drew = W → W.cell? ⟨g, 0, none⟩ = some (.pointer (some ⟨u, 0, none⟩)) ∧ W.cell? ⟨b9, o9 + (p + 1), none⟩ = some (.int .i64 x)) := hide fun W hW => hW ▸ HU0.out w9.drew (Below.drew HBW.out)
                      have HCLS := hide (class_calls x (HUF.out.below (Below.drew HBW.out)))
                      go_wp2_with fail
                      refine region_by (fun a b => a = b) way_eq 8 8 (fun W => w9.drew = W) (by kernel_rfl) (by kernel_rfl) (fun _ _ d _ _ h => by cases d <;> exact h) (fun x y h hx => h ▸ hx) rfl (fun KT hKT => ?_)
                      simp only [List.take_succ_cons, List.take_zero]
                      refine Lex.want (v := ?_) (by rfl) (fun W hW => ?hd87) ?_
                      case hd87 =>
                        have hh := HF.out W hW
                        clear hW
                        go_split_ands
                        go_simp
                        first | rfl | exact way_new.refl _ | exact way_grow.refl _ | (refine ⟨?_, way_new.refl _⟩; rfl) | (refine ⟨?_, way_grow.refl _⟩; rfl)
                      try simp only [Act.put, List.setIfInBounds_toArray, List.set_cons_zero, List.set_cons_succ, List.getElem_toArray, List.getElem_cons_zero, List.getElem_cons_succ]
                      refine Lex.want (v := ?_) (by rfl) (fun W hW => ?hd88) ?_
                      case hd88 =>
                        have hh := HF.out W hW
                        clear hW
                        go_split_ands
                        go_simp
                        first | rfl | exact way_new.refl _ | exact way_grow.refl _ | (refine ⟨?_, way_new.refl _⟩; rfl) | (refine ⟨?_, way_grow.refl _⟩; rfl)
                      try simp only [Act.put, List.setIfInBounds_toArray, List.set_cons_zero, List.set_cons_succ, List.getElem_toArray, List.getElem_cons_zero, List.getElem_cons_succ]
                      refine Lex.want (v := ?_) (by rfl) (fun W hW => ?hd89) ?_
                      case hd89 =>
                        have hh := HF.out W hW
                        clear hW
                        go_split_ands
                        go_simp
                        first | rfl | exact way_new.refl _ | exact way_grow.refl _ | (refine ⟨?_, way_new.refl _⟩; rfl) | (refine ⟨?_, way_grow.refl _⟩; rfl)
                      try simp only [Act.put, List.setIfInBounds_toArray, List.set_cons_zero, List.set_cons_succ, List.getElem_toArray, List.getElem_cons_zero, List.getElem_cons_succ]
                      refine Lex.want (v := ?_) (by rfl) (fun W hW => ?hd90) ?_
                      case hd90 =>
                        have hh := HF.out W hW
                        clear hW
                        go_split_ands
                        go_simp
                        first | rfl | exact way_new.refl _ | exact way_grow.refl _ | (refine ⟨?_, way_new.refl _⟩; rfl) | (refine ⟨?_, way_grow.refl _⟩; rfl)
                      try simp only [Act.put, List.setIfInBounds_toArray, List.set_cons_zero, List.set_cons_succ, List.getElem_toArray, List.getElem_cons_zero, List.getElem_cons_succ]
                      refine Lex.want (v := ?_) (by rfl) (fun W hW => ?hd91) ?_
                      case hd91 =>
                        have hh := HF.out W hW
                        clear hW
                        go_split_ands
                        go_simp
                        first | rfl | exact way_new.refl _ | exact way_grow.refl _ | (refine ⟨?_, way_new.refl _⟩; rfl) | (refine ⟨?_, way_grow.refl _⟩; rfl)
                      try simp only [Act.put, List.setIfInBounds_toArray, List.set_cons_zero, List.set_cons_succ, List.getElem_toArray, List.getElem_cons_zero, List.getElem_cons_succ]
                      refine Lex.want (v := ?_) (by rfl) (fun W hW => ?hd92) ?_
                      case hd92 =>
                        have hh := HF.out W hW
                        clear hW
                        go_split_ands
                        go_simp
                        first | rfl | exact way_new.refl _ | exact way_grow.refl _ | (refine ⟨?_, way_new.refl _⟩; rfl) | (refine ⟨?_, way_grow.refl _⟩; rfl)
                      try simp only [Act.put, List.setIfInBounds_toArray, List.set_cons_zero, List.set_cons_succ, List.getElem_toArray, List.getElem_cons_zero, List.getElem_cons_succ]
                      refine Lex.want (v := ?_) (by rfl) (fun W hW => ?hd93) ?_
                      case hd93 =>
                        have hh := HF.out W hW
                        clear hW
                        go_split_ands
                        go_simp
                        first | rfl | exact way_new.refl _ | exact way_grow.refl _ | (refine ⟨?_, way_new.refl _⟩; rfl) | (refine ⟨?_, way_grow.refl _⟩; rfl)
                      try simp only [Act.put, List.setIfInBounds_toArray, List.set_cons_zero, List.set_cons_succ, List.getElem_toArray, List.getElem_cons_zero, List.getElem_cons_succ]
                      refine Lex.want (v := ?_) (by rfl) (fun W hW => ?hd94) ?_
                      case hd94 =>
                        have hh := HF.out W hW
                        clear hW
                        go_split_ands
                        go_simp
                        first | rfl | exact way_new.refl _ | exact way_grow.refl _ | (refine ⟨?_, way_new.refl _⟩; rfl) | (refine ⟨?_, way_grow.refl _⟩; rfl)
                      try simp only [Act.put, List.setIfInBounds_toArray, List.set_cons_zero, List.set_cons_succ, List.getElem_toArray, List.getElem_cons_zero, List.getElem_cons_succ]
                      refine Lex.nil (hKT.out _ ?_)
                      clear hKT KT
                      refine Reg.done (by kernel_rfl) (fun W hW hWT => ⟨by kernel_rfl, ?_⟩)
                      simp only [List.drop_succ_cons, List.drop_zero]
                      subst hW
                      clear HF hWT
                      go_wp2_with (go_at_call 18; refine Hid.out ?_)
                      refine hide ?_
                      refine HCLS.out.mono ?_
                      rintro e wc ⟨cv, rfl, hcv, hbc⟩
                      obtain ⟨ca, cc, rfl, hci, _⟩ := row_ints hcv
                      have HCI := hide hci
                      have hbwc : Below wa.heap.size wa wc := HBB.out.trans ((Below.trans (Below.drew HBW.out) (hbc.mono (by have := HBW.out.size; exact this))).mono HBB.out.size)
                      have HBC := hide hbwc
                      obtain ⟨cn, hcn⟩ : ∃ cn, (classC G.c x).length = cn := ⟨_, rfl⟩
                      have hcn20 : cn ≤ 20 := by
                        have h1 := classC_length G.c x
                        have h2 := hnn.out
                        omega
                      have HCN := hide hcn
                      rw [hcn]
                      clear hcv hci hbc hbwc hcn HCLS HUF HU0 HBW HBB
                      go_wp2_with fail
                      go_loopw [15] (fun jv wr => ∃ j2 : Nat, j2 ≤ cn ∧ jv = .int .i64 j2 ∧ Hid (Below wc.heap.size wc wr)) (fun jv _ => cn - (intOf jv).toNat)
                      case atStart => exact ⟨0, by omega, rfl, hide (Below.refl _ _)⟩
                      case round =>
                        obtain ⟨j2, hj2, rfl, hbj⟩ := hrel
                        by_cases hjc : j2 < cn
                        · obtain ⟨y, hy⟩ : ∃ y, (classC G.c x)[j2]? = some y := ⟨(classC G.c x)[j2]'(by have := HCN.out; omega), List.getElem?_eq_getElem _⟩
                          have HYM : Hid (y ∈ nearC G.c G.ls true (i : Int)) := hide (HCS.out y (List.mem_of_getElem? hy))
                          have HY := hide hy
                          clear hy
                          go_wp2_with fail
                          go_loopw [16, 17] (fun iv qv wr => ∃ q : Nat, q ≤ m ∧ qv = .int .i64 q ∧ iv = .bool (decide (y ∈ (nearC G.c G.ls true (i : Int)).take q)) ∧ Hid (Below wc.heap.size wc wr)) (fun _ qv _ => m - (intOf qv).toNat)
                          case atStart => exact ⟨0, by omega, rfl, by simp, hbj⟩
                          case round =>
                            clear hbj
                            obtain ⟨q, hq, rfl, hiv, hbj⟩ := hrel
                            by_cases hqm : q < m
                            · obtain ⟨z, hz⟩ : ∃ z, (nearC G.c G.ls true (i : Int))[q]? = some z := ⟨(nearC G.c G.ls true (i : Int))[q]'(by have := HM.out; omega), List.getElem?_eq_getElem _⟩
                              obtain ⟨b5, o5, e5, hb5l, q5⟩ := (HIA.out.below (HBC.out.trans (hbj.out.mono HBC.out.size))) q z hz
                              simp only [Option.some.injEq, Addr.mk.injEq, and_true] at e5
                              obtain ⟨rfl, rfl⟩ := e5
                              obtain ⟨b4, o4, rfl, hb4l, q4⟩ := (HCI.out.below hbj.out) j2 y HY.out
                              have hms := mem_take_succ (y := y) hz
                              obtain ⟨bt, hbt⟩ : ∃ b, decide (y ∈ (nearC G.c G.ls true (i : Int)).take q) = b := ⟨_, rfl⟩
                              rw [hbt] at hiv
                              subst hiv
                              have HNT : Hid (decide (y ∈ (nearC G.c G.ls true (i : Int)).take (q + 1)) = (bt || decide (z = y))) := hide (by
                                rw [← hbt]
                                by_cases q1 : y ∈ (nearC G.c G.ls true (i : Int)).take q <;> by_cases q2 : z = y <;> simp [hms, q1, q2])
                              have HF : Hid (∀ W, wr.drew = W → W.cell? ⟨b9, o9 + q, none⟩ = some (.int .i64 z) ∧ W.cell? ⟨b4, o4 + j2, none⟩ = some (.int .i64 y)) := hide fun W hW => hW ▸ ⟨q5, q4⟩
                              have HBN := hide (Below.drew hbj.out)
                              clear hz hms hbt q5 q4
                              cases bt
                              · by_cases hzy : z = y
                                · subst hzy
                                  go_wp2_with fail
                                  refine region_by (fun a b => a = b) way_eq 13 13 (fun W => wr.drew = W) (by kernel_rfl) (by kernel_rfl) (fun _ _ d _ _ h => by cases d <;> exact h) (fun x y h hx => h ▸ hx) rfl (fun KT hKT => ?_)
                                  simp only [List.take_succ_cons, List.take_zero]
                                  refine Lex.want (v := ?_) (by rfl) (fun W hW => ?hd95) ?_
                                  case hd95 =>
                                    have hh := HF.out W hW
                                    clear hW
                                    go_split_ands
                                    go_simp
                                    first | rfl | exact way_new.refl _ | exact way_grow.refl _ | (refine ⟨?_, way_new.refl _⟩; rfl) | (refine ⟨?_, way_grow.refl _⟩; rfl)
                                  try simp only [Act.put, List.setIfInBounds_toArray, List.set_cons_zero, List.set_cons_succ, List.getElem_toArray, List.getElem_cons_zero, List.getElem_cons_succ]
                                  refine Lex.want (v := ?_) (by rfl) (fun W hW => ?hd96) ?_
                                  case hd96 =>
                                    have hh := HF.out W hW
                                    clear hW
                                    go_split_ands
                                    go_simp
                                    first | rfl | exact way_new.refl _ | exact way_grow.refl _ | (refine ⟨?_, way_new.refl _⟩; rfl) | (refine ⟨?_, way_grow.refl _⟩; rfl)
                                  try simp only [Act.put, List.setIfInBounds_toArray, List.set_cons_zero, List.set_cons_succ, List.getElem_toArray, List.getElem_cons_zero, List.getElem_cons_succ]
                                  refine Lex.want (v := ?_) (by rfl) (fun W hW => ?hd97) ?_
                                  case hd97 =>
                                    have hh := HF.out W hW
                                    clear hW
                                    go_split_ands
                                    go_simp
                                    first | rfl | exact way_new.refl _ | exact way_grow.refl _ | (refine ⟨?_, way_new.refl _⟩; rfl) | (refine ⟨?_, way_grow.refl _⟩; rfl)
                                  try simp only [Act.put, List.setIfInBounds_toArray, List.set_cons_zero, List.set_cons_succ, List.getElem_toArray, List.getElem_cons_zero, List.getElem_cons_succ]
                                  refine Lex.want (v := ?_) (by rfl) (fun W hW => ?hd98) ?_
                                  case hd98 =>
                                    have hh := HF.out W hW
                                    clear hW
                                    go_split_ands
                                    go_simp
                                    first | rfl | exact way_new.refl _ | exact way_grow.refl _ | (refine ⟨?_, way_new.refl _⟩; rfl) | (refine ⟨?_, way_grow.refl _⟩; rfl)
                                  try simp only [Act.put, List.setIfInBounds_toArray, List.set_cons_zero, List.set_cons_succ, List.getElem_toArray, List.getElem_cons_zero, List.getElem_cons_succ]
                                  refine Lex.want (v := ?_) (by rfl) (fun W hW => ?hd99) ?_
                                  case hd99 =>
                                    have hh := HF.out W hW
                                    clear hW
                                    go_split_ands
                                    go_simp
                                    first | rfl | exact way_new.refl _ | exact way_grow.refl _ | (refine ⟨?_, way_new.refl _⟩; rfl) | (refine ⟨?_, way_grow.refl _⟩; rfl)
                                  try simp only [Act.put, List.setIfInBounds_toArray, List.set_cons_zero, List.set_cons_succ, List.getElem_toArray, List.getElem_cons_zero, List.getElem_cons_succ]
                                  refine Lex.want (v := ?_) (by rfl) (fun W hW => ?hd100) ?_
                                  case hd100 =>
                                    have hh := HF.out W hW
                                    clear hW
                                    go_split_ands
                                    go_simp
                                    first | rfl | exact way_new.refl _ | exact way_grow.refl _ | (refine ⟨?_, way_new.refl _⟩; rfl) | (refine ⟨?_, way_grow.refl _⟩; rfl)
                                  try simp only [Act.put, List.setIfInBounds_toArray, List.set_cons_zero, List.set_cons_succ, List.getElem_toArray, List.getElem_cons_zero, List.getElem_cons_succ]
                                  refine Lex.want (v := ?_) (by rfl) (fun W hW => ?hd101) ?_
                                  case hd101 =>
                                    have hh := HF.out W hW
                                    clear hW
                                    go_split_ands
                                    go_simp
                                    first | rfl | exact way_new.refl _ | exact way_grow.refl _ | (refine ⟨?_, way_new.refl _⟩; rfl) | (refine ⟨?_, way_grow.refl _⟩; rfl)
                                  try simp only [Act.put, List.setIfInBounds_toArray, List.set_cons_zero, List.set_cons_succ, List.getElem_toArray, List.getElem_cons_zero, List.getElem_cons_succ]
                                  refine Lex.want (v := ?_) (by rfl) (fun W hW => ?hd102) ?_
                                  case hd102 =>
                                    have hh := HF.out W hW
                                    clear hW
                                    go_split_ands
                                    go_simp
                                    first | rfl | exact way_new.refl _ | exact way_grow.refl _ | (refine ⟨?_, way_new.refl _⟩; rfl) | (refine ⟨?_, way_grow.refl _⟩; rfl)
                                  try simp only [Act.put, List.setIfInBounds_toArray, List.set_cons_zero, List.set_cons_succ, List.getElem_toArray, List.getElem_cons_zero, List.getElem_cons_succ]
                                  refine Lex.want (v := ?_) (by rfl) (fun W hW => ?hd103) ?_
                                  case hd103 =>
                                    have hh := HF.out W hW
                                    clear hW
                                    go_split_ands
                                    go_simp
                                    first | rfl | exact way_new.refl _ | exact way_grow.refl _ | (refine ⟨?_, way_new.refl _⟩; rfl) | (refine ⟨?_, way_grow.refl _⟩; rfl)
                                  try simp only [Act.put, List.setIfInBounds_toArray, List.set_cons_zero, List.set_cons_succ, List.getElem_toArray, List.getElem_cons_zero, List.getElem_cons_succ]
                                  refine Lex.want (v := ?_) (by rfl) (fun W hW => ?hd104) ?_
                                  case hd104 =>
                                    have hh := HF.out W hW
                                    clear hW
                                    go_split_ands
                                    go_simp
                                    first | rfl | exact way_new.refl _ | exact way_grow.refl _ | (refine ⟨?_, way_new.refl _⟩; rfl) | (refine ⟨?_, way_grow.refl _⟩; rfl)
                                  try simp only [Act.put, List.setIfInBounds_toArray, List.set_cons_zero, List.set_cons_succ, List.getElem_toArray, List.getElem_cons_zero, List.getElem_cons_succ]
                                  refine Lex.want (v := ?_) (by rfl) (fun W hW => ?hd105) ?_
                                  case hd105 =>
                                    have hh := HF.out W hW
                                    clear hW
                                    go_split_ands
                                    go_simp
                                    first | rfl | exact way_new.refl _ | exact way_grow.refl _ | (refine ⟨?_, way_new.refl _⟩; rfl) | (refine ⟨?_, way_grow.refl _⟩; rfl)
                                  try simp only [Act.put, List.setIfInBounds_toArray, List.set_cons_zero, List.set_cons_succ, List.getElem_toArray, List.getElem_cons_zero, List.getElem_cons_succ]
                                  refine Lex.want (v := ?_) (by rfl) (fun W hW => ?hd106) ?_
                                  case hd106 =>
                                    have hh := HF.out W hW
                                    clear hW
                                    go_split_ands
                                    go_simp
                                    first | rfl | exact way_new.refl _ | exact way_grow.refl _ | (refine ⟨?_, way_new.refl _⟩; rfl) | (refine ⟨?_, way_grow.refl _⟩; rfl)
                                  try simp only [Act.put, List.setIfInBounds_toArray, List.set_cons_zero, List.set_cons_succ, List.getElem_toArray, List.getElem_cons_zero, List.getElem_cons_succ]
                                  refine Lex.want (v := ?_) (by rfl) (fun W hW => ?hd107) ?_
                                  case hd107 =>
                                    have hh := HF.out W hW
                                    clear hW
                                    go_split_ands
                                    go_simp
                                    first | rfl | exact way_new.refl _ | exact way_grow.refl _ | (refine ⟨?_, way_new.refl _⟩; rfl) | (refine ⟨?_, way_grow.refl _⟩; rfl)
                                  try simp only [Act.put, List.setIfInBounds_toArray, List.set_cons_zero, List.set_cons_succ, List.getElem_toArray, List.getElem_cons_zero, List.getElem_cons_succ]
                                  refine Lex.nil (hKT.out _ ?_)
                                  clear hKT KT
                                  refine Reg.done (by kernel_rfl) (fun W hW hWT => ⟨by kernel_rfl, ?_⟩)
                                  simp only [List.drop_succ_cons, List.drop_zero]
                                  subst hW
                                  clear HF hWT
                                  go_wp2_with fail
                                  exact ⟨⟨q + 1, by omega, by go_num, by rw [HNT.out]; simp, HBN⟩, by simp [intOf]; omega⟩
                                · have e6 : (z == y) = false := by simpa using hzy
                                  go_wp2_with fail
                                  refine region_by (fun a b => a = b) way_eq 13 13 (fun W => wr.drew = W) (by kernel_rfl) (by kernel_rfl) (fun _ _ d _ _ h => by cases d <;> exact h) (fun x y h hx => h ▸ hx) rfl (fun KT hKT => ?_)
                                  simp only [List.take_succ_cons, List.take_zero]
                                  refine Lex.want (v := ?_) (by rfl) (fun W hW => ?hd108) ?_
                                  case hd108 =>
                                    have hh := HF.out W hW
                                    clear hW
                                    go_split_ands
                                    go_simp
                                    first | rfl | exact way_new.refl _ | exact way_grow.refl _ | (refine ⟨?_, way_new.refl _⟩; rfl) | (refine ⟨?_, way_grow.refl _⟩; rfl)
                                  try simp only [Act.put, List.setIfInBounds_toArray, List.set_cons_zero, List.set_cons_succ, List.getElem_toArray, List.getElem_cons_zero, List.getElem_cons_succ]
                                  refine Lex.want (v := ?_) (by rfl) (fun W hW => ?hd109) ?_
                                  case hd109 =>
                                    have hh := HF.out W hW
                                    clear hW
                                    go_split_ands
                                    go_simp
                                    first | rfl | exact way_new.refl _ | exact way_grow.refl _ | (refine ⟨?_, way_new.refl _⟩; rfl) | (refine ⟨?_, way_grow.refl _⟩; rfl)
                                  try simp only [Act.put, List.setIfInBounds_toArray, List.set_cons_zero, List.set_cons_succ, List.getElem_toArray, List.getElem_cons_zero, List.getElem_cons_succ]
                                  refine Lex.want (v := ?_) (by rfl) (fun W hW => ?hd110) ?_
                                  case hd110 =>
                                    have hh := HF.out W hW
                                    clear hW
                                    go_split_ands
                                    go_simp
                                    first | rfl | exact way_new.refl _ | exact way_grow.refl _ | (refine ⟨?_, way_new.refl _⟩; rfl) | (refine ⟨?_, way_grow.refl _⟩; rfl)
                                  try simp only [Act.put, List.setIfInBounds_toArray, List.set_cons_zero, List.set_cons_succ, List.getElem_toArray, List.getElem_cons_zero, List.getElem_cons_succ]
                                  refine Lex.want (v := ?_) (by rfl) (fun W hW => ?hd111) ?_
                                  case hd111 =>
                                    have hh := HF.out W hW
                                    clear hW
                                    go_split_ands
                                    go_simp
                                    first | rfl | exact way_new.refl _ | exact way_grow.refl _ | (refine ⟨?_, way_new.refl _⟩; rfl) | (refine ⟨?_, way_grow.refl _⟩; rfl)
                                  try simp only [Act.put, List.setIfInBounds_toArray, List.set_cons_zero, List.set_cons_succ, List.getElem_toArray, List.getElem_cons_zero, List.getElem_cons_succ]
                                  refine Lex.want (v := ?_) (by rfl) (fun W hW => ?hd112) ?_
                                  case hd112 =>
                                    have hh := HF.out W hW
                                    clear hW
                                    go_split_ands
                                    go_simp
                                    first | rfl | exact way_new.refl _ | exact way_grow.refl _ | (refine ⟨?_, way_new.refl _⟩; rfl) | (refine ⟨?_, way_grow.refl _⟩; rfl)
                                  try simp only [Act.put, List.setIfInBounds_toArray, List.set_cons_zero, List.set_cons_succ, List.getElem_toArray, List.getElem_cons_zero, List.getElem_cons_succ]
                                  refine Lex.want (v := ?_) (by rfl) (fun W hW => ?hd113) ?_
                                  case hd113 =>
                                    have hh := HF.out W hW
                                    clear hW
                                    go_split_ands
                                    go_simp
                                    first | rfl | exact way_new.refl _ | exact way_grow.refl _ | (refine ⟨?_, way_new.refl _⟩; rfl) | (refine ⟨?_, way_grow.refl _⟩; rfl)
                                  try simp only [Act.put, List.setIfInBounds_toArray, List.set_cons_zero, List.set_cons_succ, List.getElem_toArray, List.getElem_cons_zero, List.getElem_cons_succ]
                                  refine Lex.want (v := ?_) (by rfl) (fun W hW => ?hd114) ?_
                                  case hd114 =>
                                    have hh := HF.out W hW
                                    clear hW
                                    go_split_ands
                                    go_simp
                                    first | rfl | exact way_new.refl _ | exact way_grow.refl _ | (refine ⟨?_, way_new.refl _⟩; rfl) | (refine ⟨?_, way_grow.refl _⟩; rfl)
                                  try simp only [Act.put, List.setIfInBounds_toArray, List.set_cons_zero, List.set_cons_succ, List.getElem_toArray, List.getElem_cons_zero, List.getElem_cons_succ]
                                  refine Lex.want (v := ?_) (by rfl) (fun W hW => ?hd115) ?_
                                  case hd115 =>
                                    have hh := HF.out W hW
                                    clear hW
                                    go_split_ands
                                    go_simp
                                    first | rfl | exact way_new.refl _ | exact way_grow.refl _ | (refine ⟨?_, way_new.refl _⟩; rfl) | (refine ⟨?_, way_grow.refl _⟩; rfl)
                                  try simp only [Act.put, List.setIfInBounds_toArray, List.set_cons_zero, List.set_cons_succ, List.getElem_toArray, List.getElem_cons_zero, List.getElem_cons_succ]
                                  refine Lex.want (v := ?_) (by rfl) (fun W hW => ?hd116) ?_
                                  case hd116 =>
                                    have hh := HF.out W hW
                                    clear hW
                                    go_split_ands
                                    go_simp
                                    first | rfl | exact way_new.refl _ | exact way_grow.refl _ | (refine ⟨?_, way_new.refl _⟩; rfl) | (refine ⟨?_, way_grow.refl _⟩; rfl)
                                  try simp only [Act.put, List.setIfInBounds_toArray, List.set_cons_zero, List.set_cons_succ, List.getElem_toArray, List.getElem_cons_zero, List.getElem_cons_succ]
                                  refine Lex.want (v := ?_) (by rfl) (fun W hW => ?hd117) ?_
                                  case hd117 =>
                                    have hh := HF.out W hW
                                    clear hW
                                    go_split_ands
                                    go_simp
                                    first | rfl | exact way_new.refl _ | exact way_grow.refl _ | (refine ⟨?_, way_new.refl _⟩; rfl) | (refine ⟨?_, way_grow.refl _⟩; rfl)
                                  try simp only [Act.put, List.setIfInBounds_toArray, List.set_cons_zero, List.set_cons_succ, List.getElem_toArray, List.getElem_cons_zero, List.getElem_cons_succ]
                                  refine Lex.want (v := ?_) (by rfl) (fun W hW => ?hd118) ?_
                                  case hd118 =>
                                    have hh := HF.out W hW
                                    clear hW
                                    go_split_ands
                                    go_simp
                                    first | rfl | exact way_new.refl _ | exact way_grow.refl _ | (refine ⟨?_, way_new.refl _⟩; rfl) | (refine ⟨?_, way_grow.refl _⟩; rfl)
                                  try simp only [Act.put, List.setIfInBounds_toArray, List.set_cons_zero, List.set_cons_succ, List.getElem_toArray, List.getElem_cons_zero, List.getElem_cons_succ]
                                  refine Lex.want (v := ?_) (by rfl) (fun W hW => ?hd119) ?_
                                  case hd119 =>
                                    have hh := HF.out W hW
                                    clear hW
                                    go_split_ands
                                    go_simp
                                    first | rfl | exact way_new.refl _ | exact way_grow.refl _ | (refine ⟨?_, way_new.refl _⟩; rfl) | (refine ⟨?_, way_grow.refl _⟩; rfl)
                                  try simp only [Act.put, List.setIfInBounds_toArray, List.set_cons_zero, List.set_cons_succ, List.getElem_toArray, List.getElem_cons_zero, List.getElem_cons_succ]
                                  refine Lex.want (v := ?_) (by rfl) (fun W hW => ?hd120) ?_
                                  case hd120 =>
                                    have hh := HF.out W hW
                                    clear hW
                                    go_split_ands
                                    go_simp
                                    first | rfl | exact way_new.refl _ | exact way_grow.refl _ | (refine ⟨?_, way_new.refl _⟩; rfl) | (refine ⟨?_, way_grow.refl _⟩; rfl)
                                  try simp only [Act.put, List.setIfInBounds_toArray, List.set_cons_zero, List.set_cons_succ, List.getElem_toArray, List.getElem_cons_zero, List.getElem_cons_succ]
                                  refine Lex.nil (hKT.out _ ?_)
                                  clear hKT KT
                                  refine Reg.done (by kernel_rfl) (fun W hW hWT => ⟨by kernel_rfl, ?_⟩)
                                  simp only [List.drop_succ_cons, List.drop_zero]
                                  subst hW
                                  clear HF hWT
                                  go_wp2_with fail
                                  exact ⟨⟨q + 1, by omega, by go_num, by rw [HNT.out]; simp [hzy], HBN⟩, by simp [intOf]; omega⟩
                              · go_wp2_with fail
                                refine region_by (fun a b => a = b) way_eq 13 13 (fun W => wr.drew = W) (by kernel_rfl) (by kernel_rfl) (fun _ _ d _ _ h => by cases d <;> exact h) (fun x y h hx => h ▸ hx) rfl (fun KT hKT => ?_)
                                simp only [List.take_succ_cons, List.take_zero]
                                refine Lex.want (v := ?_) (by rfl) (fun W hW => ?hd121) ?_
                                case hd121 =>
                                  have hh := HF.out W hW
                                  clear hW
                                  go_split_ands
                                  go_simp
                                  first | rfl | exact way_new.refl _ | exact way_grow.refl _ | (refine ⟨?_, way_new.refl _⟩; rfl) | (refine ⟨?_, way_grow.refl _⟩; rfl)
                                try simp only [Act.put, List.setIfInBounds_toArray, List.set_cons_zero, List.set_cons_succ, List.getElem_toArray, List.getElem_cons_zero, List.getElem_cons_succ]
                                refine Lex.want (v := ?_) (by rfl) (fun W hW => ?hd122) ?_
                                case hd122 =>
                                  have hh := HF.out W hW
                                  clear hW
                                  go_split_ands
                                  go_simp
                                  first | rfl | exact way_new.refl _ | exact way_grow.refl _ | (refine ⟨?_, way_new.refl _⟩; rfl) | (refine ⟨?_, way_grow.refl _⟩; rfl)
                                try simp only [Act.put, List.setIfInBounds_toArray, List.set_cons_zero, List.set_cons_succ, List.getElem_toArray, List.getElem_cons_zero, List.getElem_cons_succ]
                                refine Lex.skip (by rfl) ?_
                                try simp only [Act.put, List.setIfInBounds_toArray, List.set_cons_zero, List.set_cons_succ, List.getElem_toArray, List.getElem_cons_zero, List.getElem_cons_succ]
                                refine Lex.skip (by rfl) ?_
                                try simp only [Act.put, List.setIfInBounds_toArray, List.set_cons_zero, List.set_cons_succ, List.getElem_toArray, List.getElem_cons_zero, List.getElem_cons_succ]
                                refine Lex.skip (by rfl) ?_
                                try simp only [Act.put, List.setIfInBounds_toArray, List.set_cons_zero, List.set_cons_succ, List.getElem_toArray, List.getElem_cons_zero, List.getElem_cons_succ]
                                refine Lex.skip (by rfl) ?_
                                try simp only [Act.put, List.setIfInBounds_toArray, List.set_cons_zero, List.set_cons_succ, List.getElem_toArray, List.getElem_cons_zero, List.getElem_cons_succ]
                                refine Lex.skip (by rfl) ?_
                                try simp only [Act.put, List.setIfInBounds_toArray, List.set_cons_zero, List.set_cons_succ, List.getElem_toArray, List.getElem_cons_zero, List.getElem_cons_succ]
                                refine Lex.skip (by rfl) ?_
                                try simp only [Act.put, List.setIfInBounds_toArray, List.set_cons_zero, List.set_cons_succ, List.getElem_toArray, List.getElem_cons_zero, List.getElem_cons_succ]
                                refine Lex.skip (by rfl) ?_
                                try simp only [Act.put, List.setIfInBounds_toArray, List.set_cons_zero, List.set_cons_succ, List.getElem_toArray, List.getElem_cons_zero, List.getElem_cons_succ]
                                refine Lex.skip (by rfl) ?_
                                try simp only [Act.put, List.setIfInBounds_toArray, List.set_cons_zero, List.set_cons_succ, List.getElem_toArray, List.getElem_cons_zero, List.getElem_cons_succ]
                                refine Lex.skip (by rfl) ?_
                                try simp only [Act.put, List.setIfInBounds_toArray, List.set_cons_zero, List.set_cons_succ, List.getElem_toArray, List.getElem_cons_zero, List.getElem_cons_succ]
                                refine Lex.want (v := ?_) (by rfl) (fun W hW => ?hd123) ?_
                                case hd123 =>
                                  have hh := HF.out W hW
                                  clear hW
                                  go_split_ands
                                  go_simp
                                  first | rfl | exact way_new.refl _ | exact way_grow.refl _ | (refine ⟨?_, way_new.refl _⟩; rfl) | (refine ⟨?_, way_grow.refl _⟩; rfl)
                                try simp only [Act.put, List.setIfInBounds_toArray, List.set_cons_zero, List.set_cons_succ, List.getElem_toArray, List.getElem_cons_zero, List.getElem_cons_succ]
                                refine Lex.want (v := ?_) (by rfl) (fun W hW => ?hd124) ?_
                                case hd124 =>
                                  have hh := HF.out W hW
                                  clear hW
                                  go_split_ands
                                  go_simp
                                  first | rfl | exact way_new.refl _ | exact way_grow.refl _ | (refine ⟨?_, way_new.refl _⟩; rfl) | (refine ⟨?_, way_grow.refl _⟩; rfl)
                                try simp only [Act.put, List.setIfInBounds_toArray, List.set_cons_zero, List.set_cons_succ, List.getElem_toArray, List.getElem_cons_zero, List.getElem_cons_succ]
                                refine Lex.nil (hKT.out _ ?_)
                                clear hKT KT
                                refine Reg.done (by kernel_rfl) (fun W hW hWT => ⟨by kernel_rfl, ?_⟩)
                                simp only [List.drop_succ_cons, List.drop_zero]
                                subst hW
                                clear HF hWT
                                go_wp2_with fail
                                exact ⟨⟨q + 1, by omega, by go_num, by rw [HNT.out]; simp, HBN⟩, by simp [intOf]; omega⟩
                            · have hqm' : q = m := by omega
                              subst hqm'
                              have htt : decide (y ∈ (nearC G.c G.ls true (i : Int)).take q) = true := by
                                rw [List.take_of_length_le (by have := HM.out; omega)]
                                exact decide_eq_true HYM.out
                              rw [htt] at hiv
                              subst hiv
                              clear htt
                              go_wp2_with fail
                              exact ⟨⟨j2 + 1, by omega, by go_num, hbj⟩, by simp [intOf]; omega⟩
                        · have hjc' : j2 = cn := by omega
                          subst hjc'
                          have HBX := hide (HBC.out.trans (hbj.out.mono HBC.out.size))
                          clear HCI HCN
                          go_wp2_with fail
                          exact ⟨⟨p + 1 + 1, by omega, by go_num, HBX⟩, by simp [intOf]; omega⟩
              · have hkm' : k = m := by omega
                subst hkm'
                have HGR := hide (HGA.out.step hbk.out)
                clear HIA HGA HM
                go_wp2_with fail
                exact ⟨⟨i + 1, by omega, by omega, by go_num, HGR⟩, by simp [intOf]; omega⟩
          · have hin' : i = n + 1 := by omega
            subst hin'
            have HAL := hide (alive18_calls wr)
            go_wp2_with (go_at_call 12; refine HAL.out.mono ?_; rintro e w2 ⟨rfl, hb⟩; have HB := hide hb; clear hb)
            go_ret
            exact ⟨rfl, hg.out.below.trans (HB.out.mono hg.out.below.size)⟩
end Go.Proofs.Ytpkhmhfgnpnpfaa
