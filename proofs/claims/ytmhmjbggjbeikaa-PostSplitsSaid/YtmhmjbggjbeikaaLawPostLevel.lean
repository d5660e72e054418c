/- PostLevel: the walk. -/
import Derived.Test.YtmhmjbggjbeikaaLawPostMoves
namespace Go.Proofs.Ytmhmjbggjbeikaa
set_option linter.unusedSimpArgs false
set_option linter.unusedVariables false
open Go.RowKit
attribute [local go_sem] objAt_alloc objAt_alloc_at objAt_drew objAt_drewN objAt_setCell comesTo_value comesTo_enter

def pcells (p : PPost) : List Value := [.string p.k.1, .string p.k.2, .int .i64 p.sub, .int .i64 p.by_]
theorem pcells_len (p : PPost) : (pcells p).length = 4 := rfl
theorem pcells_one (p : PPost) : ∀ u ∈ pcells p, u.oneCell' = true := by
  intro u hu
  simp [pcells] at hu
  rcases hu with rfl | rfl | rfl | rfl <;> rfl
instance : Inhabited PPost := ⟨⟨(ByteArray.empty, ByteArray.empty), 0, 0⟩⟩
/-- A row of postings that the call made, read. -/
theorem posts_own {w : World} {B : Nat} {v : Value} {l : List PPost} (h : w.ownsRow B 51 4 v l.length (l.flatMap pcells)) : ∃ A c, v = .slice A l.length c ∧ PostsAt w A l := by
  have hc := fun g (hg : v.ownBlock = some g) => h.cells hg
  rcases h.2 with ⟨rfl, h0⟩ | ⟨g, cap, cur, rfl, hb, hg, _⟩
  · exact ⟨none, 0, by rw [h0], fun i x hx => by
      rw [List.eq_nil_of_length_eq_zero h0] at hx
      simp at hx⟩
  · refine ⟨some ⟨g, 0, none⟩, cap, rfl, fun i x hx => ?_⟩
    obtain ⟨hi, rfl⟩ := List.getElem?_eq_some_iff.1 hx
    have hk : l.toArray[i]! = l[i] := by rw [getElem!_pos l.toArray i (by simpa using hi)]; simp
    have cell : ∀ j u, j < 4 → (pcells l[i])[j]? = some u → w.cell? ⟨g, i * 4 + j, none⟩ = some u := fun j u hj hu => by
      have := hc g rfl (i * 4 + j) u (by
        rw [flat_get pcells 4 pcells_len l (i * 4 + j) (by omega), show (i * 4 + j) / 4 = i by omega, show (i * 4 + j) % 4 = j by omega, hk]
        exact hu)
      rwa [Addr.add_lit, Nat.zero_add] at this
    refine ⟨g, 0, rfl, (Array.getElem?_eq_some_iff.1 hg).1, ?_, ?_, ?_, ?_⟩
    · simpa using cell 0 _ (by decide) rfl
    · simpa using cell 1 _ (by decide) rfl
    · simpa using cell 2 _ (by decide) rfl
    · simpa using cell 3 _ (by decide) rfl
theorem postInfo : (Try.prog.info? 51).map (fun i => (i.zero, i.size, i.bytes)) = some (some (.agg #[.string ByteArray.empty, .string ByteArray.empty, .int .i64 0, .int .i64 0]), 4, 48) := by kernel_rfl

/-! ### plain -/
def two_ (by_ off : Int) : List PPost := [⟨(tA, tX), 0, -by_⟩, ⟨(tB, tX), 0, by_ + off⟩]
def three_ (by_ off : Int) : List PPost := [⟨(tA, tX), 0, -by_⟩, ⟨(tB, tX), 0, by_ + off⟩, ⟨(tB, tX), 0, -off⟩]
theorem level_plain (n by_ off : Int) (h0 : 0 ≤ n) (h1 : n ≤ 1099511627776) (h2 : 0 ≤ by_) (h3 : by_ ≤ n) (h4 : off ≠ 0) (h5 : off ≤ 1099511627776) (h6 : -1099511627776 ≤ off) :
    issueErr led0 (tA, tX) n = 0 ∧ lookErr (issueLed led0 (tA, tX) n) (two_ by_ off) = 1 ∧ lookErr (issueLed led0 (tA, tX) n) (three_ by_ off) = 0 ∧ posPart (issueLed led0 (tA, tX) n).m (tA, tX) 0 = n := by
  obtain ⟨i1, i2, i3, i4, i5, i6⟩ := issue_first (tA, tX) n h0 h1
  generalize issueLed led0 (tA, tX) n = L1 at *
  have ea : posPart L1.m (tA, tX) 0 = n := by rw [i2, if_pos ⟨rfl, rfl⟩]
  have eb : posPart L1.m (tB, tX) 0 = 0 := by
    rw [i2, if_neg]
    rintro ⟨h, _⟩
    exact tAB (congrArg Prod.fst h)
  have hbl : ∀ k, isBlk L1.blk k = false := fun k => by rw [i5]; rfl
  have hba : ¬ tB = tA := fun e => tAB e.symm
  refine ⟨i1, look_uneven (by simp [two_]) (a := tX) (by simp [sumOf, two_]; omega), ?_, ea⟩
  have hok : ∀ p ∈ three_ by_ off, okPost p := fun p hp => by
    simp only [three_, List.mem_cons, List.not_mem_nil, or_false] at hp
    rcases hp with rfl | rfl | rfl <;> (unfold okPost isPart within; simp only; omega)
  rw [look_of (by simp [three_]) hok (fun a => by
    unfold sumOf three_
    by_cases h : tX = a
    · simp [h]; omega
    · simp [h])]
  rw [firstErr_zero]
  have nA : (numsOf PPost.part PPost.by_ (three_ by_ off) ((tA, tX), 0)).sum = -by_ := by
    have : numsOf PPost.part PPost.by_ (three_ by_ off) ((tA, tX), 0) = [-by_] := by simp [numsOf, three_, PPost.part, hba]
    rw [this]; simp
  have nB : (numsOf PPost.part PPost.by_ (three_ by_ off) ((tB, tX), 0)).sum = by_ := by
    have : numsOf PPost.part PPost.by_ (three_ by_ off) ((tB, tX), 0) = [by_ + off, -off] := by simp [numsOf, three_, PPost.part, tAB]
    rw [this]; simp; omega
  intro z hz
  obtain ⟨p, hp, rfl⟩ := nets_mem hz
  simp only [three_, List.mem_cons, List.not_mem_nil, or_false] at hp
  have cA : netErrOf L1 (netAt (three_ by_ off) ((tA, tX), 0)) = 0 := by
    rw [netAt_sum nA (by unfold fits; omega)]
    show netErr (posPart L1.m (tA, tX) 0) 0 (-by_) false (isBlk L1.blk (tA, tX)) = 0
    rw [netErr_plain _ _ _ _ (by rw [hbl]; simp), ea, if_neg (by omega), if_neg (by omega)]
  have cB : netErrOf L1 (netAt (three_ by_ off) ((tB, tX), 0)) = 0 := by
    rw [netAt_sum nB (by unfold fits; omega)]
    show netErr (posPart L1.m (tB, tX) 0) 0 by_ false (isBlk L1.blk (tB, tX)) = 0
    rw [netErr_plain _ _ _ _ (by rintro ⟨_, h, _⟩; omega), eb, if_neg (by omega), if_neg (by omega)]
  rcases hp with rfl | rfl | rfl
  · exact cA
  · exact cB
  · exact cB

set_option maxHeartbeats 4000000 in
set_option maxRecDepth 100000 in
theorem postLevel_odd (n by_ off : Int) (w : World) (h : n < 0 ∨ 1099511627776 < n ∨ by_ < 0 ∨ n < by_ ∨ off = 0 ∨ 1099511627776 < off ∨ off < -1099511627776) :
    Calls Try.prog 7 #[.int .i64 n, .int .i64 by_, .int .i64 off] w (MovesPost w) := by
  have HAL := hide (alive11_post (Below.refl w.heap.size w))
  by_cases h1 : n < 0
  case' neg => by_cases h2 : n > 1099511627776
  case' neg => by_cases h3 : by_ < 0
  case' neg => by_cases h4 : by_ > n
  case' neg => by_cases h5 : off = 0
  case' neg => by_cases h6 : off > 1099511627776
  case' neg => have h7 : off < -1099511627776 := (by omega)
  all_goals
    clear h
    try subst h5
    try (have h5' : (off == 0) = false := (by simpa using h5))
    go_enter Try.func7, Try.ntmps7
    go_wp2_with (go_at_call 23; refine HAL.out.mono ?_; rintro e w1 ⟨rfl, hb1⟩; have HB1 := hide hb1; clear hb1)
    go_ret
    exact ⟨rfl, HB1.out⟩

set_option maxHeartbeats 8000000 in
set_option maxRecDepth 100000 in
theorem postLevel_main (n by_ off : Int) (w : World) (h0 : 0 ≤ n) (h1 : n ≤ 1099511627776) (h2 : 0 ≤ by_) (h3 : by_ ≤ n) (h4 : off ≠ 0) (h5 : off ≤ 1099511627776) (h6 : -1099511627776 ≤ off) :
    Calls Try.prog 7 #[.int .i64 n, .int .i64 by_, .int .i64 off] w (MovesPost w) := by
  obtain ⟨p1, p2, p3, p4⟩ := level_plain n by_ off h0 h1 h2 h3 h4 h5 h6
  have HNEW := hide (ls_new w)
  have HISS : Hid (∀ g p W, Leds w g p led0 (fun _ => False) W → Calls Try.prog 25 #[.pointer (some ⟨g, 0, none⟩), .agg #[.string { data := #[65] }, .string { data := #[88] }], .int .i64 n] W fun e w' => e = .returned (.int .i64 0) ∧ Leds w g p (issueLed led0 (tA, tX) n) (fun _ => False) w') := hide fun g p W h =>
    (ls_issue tA tX n h (short1 _) (short1 _) (fun _ => by show _ ≤ (0 : Int) + n; omega) (fun _ => by show (0 : Int) + n ≤ _; omega)).mono fun e w' ⟨h1, h2, _⟩ => ⟨by rw [h1, p1], h2⟩
  have HT1 : Hid (∀ g p b c S W, Leds w g p (issueLed led0 (tA, tX) n) S W → W.heap[b]? = some (.cells #[.string { data := #[65] }, .string { data := #[88] }, .int .i64 0, .int .i64 (-by_), .string { data := #[66] }, .string { data := #[88] }, .int .i64 0, .int .i64 (by_ + off)] 51 (0, 0)) →
      Calls Try.prog 27 #[.pointer (some ⟨g, 0, none⟩), .slice (some ⟨b, 0, none⟩) 2 c] W fun e w' => e = .returned (.int .i64 1) ∧ Below W.heap.size W w') := hide fun g p b c S W h hb => by
    have := ls_try (some ⟨b, 0, none⟩) 2 c (two_ by_ off) rfl (by decide) (posts_two (w := W) (p := ⟨(tA, tX), 0, -by_⟩) (q := ⟨(tB, tX), 0, by_ + off⟩) hb) h
    rwa [p2] at this
  have HT2 : Hid (∀ g p A c S W, Leds w g p (issueLed led0 (tA, tX) n) S W → PostsAt W A (three_ by_ off) →
      Calls Try.prog 27 #[.pointer (some ⟨g, 0, none⟩), .slice A 3 c] W fun e w' => e = .returned (.int .i64 0) ∧ Below W.heap.size W w') := hide fun g p A c S W h hb => by
    have := ls_try A 3 c (three_ by_ off) rfl (by decide) hb h
    rwa [p3] at this
  have HPART : Hid (∀ g p S W, Leds w g p (issueLed led0 (tA, tX) n) S W → Calls Try.prog 19 #[.pointer (some ⟨p, 0, none⟩), .agg #[.string { data := #[65] }, .string { data := #[88] }], .int .i64 0] W fun e w' => e = .returned (.int .i64 n) ∧ Below W.heap.size W w') := hide fun g p S W h => by
    have := ls_part tA tX 0 h
    rwa [p4] at this
  have h5' : (off == 0) = false := by simpa using h4
  have hadd : IntKind.i64.wrap (by_ + off) = by_ + off := by rw [IntKind.wrap_i64]; omega
  have hle : ¬ by_ > n := by omega
  obtain ⟨j0, hj, hy0, hy1, hy2⟩ := info_parts postInfo
  clear p1 p2 p3 p4 h4
  generalize issueLed led0 (tA, tX) n = L1 at *
  go_enter Try.func7, Try.ntmps7
  go_wp2_with (first
    | (go_at_call 24; refine HNEW.out.mono ?_; rintro e w1 ⟨g, p, rfl, h9⟩; have HL1 := hide h9; clear h9)
    | (go_at_call 25; ((with_reducible refine (HISS.out _ _ _ HL1.out).mono ?_)); rintro e w2 ⟨rfl, h9⟩; have HL2 := hide h9; clear h9)
    | (go_at_call 26; refine (move_calls _ _ _ _ _ (by omega) (by omega)).mono ?_; rintro e w' ⟨rfl, rfl⟩)
    | (go_at_call 23; refine (alive11_calls _).mono ?_; rintro e w3 ⟨rfl, hb3⟩; have HL3 := hide ((HL2.out.keep ((Below.refl _ _).alloc (Nat.le_refl _) _) (fun j => j = w2.heap.size) (fun j hj => .inr ⟨by omega, by simp; omega⟩)).step hb3); have hk3 := (hb3.block w2.heap.size (by simp)).trans (heap_alloc_new w2 _); clear hb3)
    | (go_at_call 27; ((with_reducible refine (HT1.out _ _ _ _ _ _ HL3.out hk3).mono ?_)); rintro e w4 ⟨rfl, hb4⟩; have HL4 := hide (HL3.out.step hb4); have hk4 := (hb4.block w2.heap.size (Array.getElem?_eq_some_iff.1 hk3).1).trans hk3; clear hb4)
    | (at_builtin; refine Hid.out ?_))
  refine hide ?_
  have hk5 : (w4.alloc (.cells #[.string { data := #[66] }, .string { data := #[88] }, .int .i64 0, .int .i64 (-off)] 51)).heap[w2.heap.size]? = _ := (Below.heap_alloc w4 _ _ (Array.getElem?_eq_some_iff.1 hk4).1).trans hk4
  have hown5 : (w4.alloc (.cells #[.string { data := #[66] }, .string { data := #[88] }, .int .i64 0, .int .i64 (-off)] 51)).ownsRow 0 51 4 (.slice (some ⟨w2.heap.size, 0, none⟩) 2 2) 2 ((two_ by_ off).flatMap pcells) := ⟨rfl, .inr ⟨w2.heap.size, 2, _, rfl, Nat.zero_le _, hk5, Nat.le_refl _, by unfold maxLen; omega, rfl, rfl⟩⟩
  refine BigFrame.wpList_want rfl (fun K hK => ?_)
  refine wp_append_own _ (.tmp 69) (.tmp 74) _ rfl 0 51 j0 _ 4 48 Try.underlying48 hj hy0 hy1 hy2 (by rfl) (by decide) (.slice (some ⟨w2.heap.size, 0, none⟩) 2 2) 2 ((two_ by_ off).flatMap pcells) (by rfl) hown5 ⟨w4.heap.size, 0, none⟩ 1 1 (pcells ⟨(tB, tX), 0, -off⟩) (by rfl) rfl (World.news_of_block (heap_alloc_new w4 _)) (pcells_one _) (by unfold maxLen; omega) (by omega) (Nat.zero_le _) ?_
  intro v2 w6 hown6 hgrow6 _
  obtain ⟨A, cp, rfl, hposts⟩ := posts_own (l := three_ by_ off) hown6
  have HL6 := hide ((HL4.out.alloc (.cells #[.string { data := #[66] }, .string { data := #[88] }, .int .i64 0, .int .i64 (-off)] 51)).frm ((Frm.refl (fun j => j = w2.heap.size) _).grown hgrow6 (fun k hk => .inl (by simpa [Value.ownBlock] using hk.symm))) (fun j hj => by rw [hj]; exact HL2.out.below.size))
  have HPS := hide hposts
  clear hposts hown6 hgrow6 hown5 hk5
  have hl3 : (three_ by_ off).length = 3 := rfl
  refine hK _ _ ?_
  clear hK K
  go_wp2_with (first
    | (go_at_call 27; ((with_reducible refine (HT2.out _ _ _ _ _ _ HL6.out HPS.out).mono ?_)); rintro e w7 ⟨rfl, hb7⟩; have HL7 := hide (HL6.out.step hb7); have hc7 := HL7.out.cell.1; clear hb7)
    | (go_at_call 19; ((with_reducible refine (HPART.out _ _ _ _ HL7.out).mono ?_)); rintro e w8 ⟨rfl, hb8⟩; have HL8 := hide (HL7.out.step hb8); clear hb8))
  go_ret
  exact ⟨rfl, HL8.out.below⟩

/-- PostLevel returns true, whatever it is called with. -/
theorem postLevel_walk (n by_ off : Int) (w : World) (_h1 : (Lit.int .i64 n).wf = true) (_h2 : (Lit.int .i64 by_).wf = true) (_h3 : (Lit.int .i64 off).wf = true) :
    Calls Try.prog 7 #[.int .i64 n, .int .i64 by_, .int .i64 off] w fun e w' => e = .returned (.bool true) ∧ Below w.heap.size w w' := by
  by_cases h : n < 0 ∨ 1099511627776 < n ∨ by_ < 0 ∨ n < by_ ∨ off = 0 ∨ 1099511627776 < off ∨ off < -1099511627776
  · exact postLevel_odd n by_ off w h
  · simp only [not_or] at h
    obtain ⟨c1, c2, c3, c4, c5, c6, c7⟩ := h
    exact postLevel_main n by_ off w (by omega) (by omega) (by omega) (by omega) c5 (by omega) (by omega)
end Go.Proofs.Ytmhmjbggjbeikaa
