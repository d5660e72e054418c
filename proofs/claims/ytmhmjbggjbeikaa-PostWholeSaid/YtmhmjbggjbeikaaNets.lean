/- Chapter 11: what postings do to each part that they name, in order. -/
import Derived.Test.YtmhmjbggjbeikaaEven
import Derived.Test.YtmhmjbggjbeikaaNets1
namespace Go.Proofs.Ytmhmjbggjbeikaa
set_option linter.unusedSimpArgs false
set_option linter.unusedVariables false
open Go.RowKit
attribute [local go_sem] objAt_alloc objAt_alloc_at objAt_drew objAt_drewN objAt_setCell comesTo_value comesTo_enter

theorem run_zeroInts2 (w : World) : (zeroValue 82).run Try.prog w = .ok (egrp grp0) w := run_zeroInts w

def PPost.part (p : PPost) : PKey := (p.k, p.sub)
def byPart (l : List PPost) : List (PKey × List Int) := groups PPost.part PPost.by_ l
/-- What is done to a part. -/
def netAt (l : List PPost) (q : PKey) : PNet := ⟨q.1, q.2, accAdd (numsOf PPost.part PPost.by_ l q), !decide (fits (numsOf PPost.part PPost.by_ l q).sum)⟩
def sortP (l : List PKey) : List PKey := l.mergeSort fun x y => !Proofs.ltOf cmpPart y x
def partsB (l : List PPost) : List PKey := sortP ((byPart l).map (·.1))
def netsB (l : List PPost) : List PNet := (partsB l).map (netAt l)

theorem sortP_perm (l : List PKey) : (sortP l).Perm l := List.mergeSort_perm l _
theorem sortP_sorted (l : List PKey) : (sortP l).Pairwise (fun a b => Proofs.ltOf cmpPart b a = false) := by
  have h := List.pairwise_mergeSort (le := fun x y => !Proofs.ltOf cmpPart y x) (fun a b c h1 h2 => by
    simp only [Bool.not_eq_true'] at *
    exact cmpPart_cmp.swo.ntrans c b a h2 h1) (fun a b => by
    simp only [Bool.or_eq_true, Bool.not_eq_true']
    by_cases h1 : Proofs.ltOf cmpPart b a = true
    · right
      cases h2 : Proofs.ltOf cmpPart a b with
      | false => rfl
      | true =>
        have h3 := cmpPart_cmp.swo.trans a b a h2 h1
        rw [cmpPart_cmp.swo.irrefl] at h3
        cases h3
    · left; simpa using h1) l
  exact h.imp (fun {a b} h => by simpa using h)

theorem nets_sorted {l : List PPost} {out : List PNet} {qs : List PKey} (ho : out = qs.map (netAt l)) (hq : qs.Perm ((byPart l).map (·.1))) {out' : List PNet} (hp : out'.Perm out) (hs : out'.Pairwise (fun a b => Proofs.ltOf cmpNet b a = false)) : out' = netsB l := by
  have hkey : ∀ q : PKey, (netAt l q).key = q := fun q => rfl
  have h1 : out' = (out'.map PNet.key).map (netAt l) := by
    have : ∀ x ∈ out', netAt l x.key = x := fun x hx => by
      have := hp.mem_iff.1 hx
      rw [ho] at this
      obtain ⟨q, _, rfl⟩ := List.mem_map.1 this
      rfl
    rw [List.map_map]
    conv => lhs; rw [← List.map_id out']
    exact List.map_congr_left fun x hx => (this x hx).symm
  have h2 : (out'.map PNet.key).Perm ((byPart l).map (·.1)) := by
    refine (hp.map PNet.key).trans ?_
    rw [ho, List.map_map]
    have : (PNet.key ∘ netAt l) = id := funext hkey
    rw [this, List.map_id]
    exact hq
  have h3 : out'.map PNet.key = partsB l := sorted_unique cmpPart_cmp _ _ (h2.trans (sortP_perm _).symm) (by
    rw [List.pairwise_map]
    exact hs) (sortP_sorted _)
  rw [h1, h3]
  rfl

theorem ncells_len (x : PNet) : (ncells x).length = 5 := rfl
/-- slices.SortFunc of nets. -/
theorem sortNets_calls (base : Nat) (v : Value) (l : List PNet) (w : World) (hown : w.ownsRow base 94 5 v l.length (l.flatMap ncells)) (hsz : l.length < 4611686018427387904) :
    Calls Try.prog 78 #[v, .func (.func 79) #[] #[]] w fun r w' => r = .returned (.tuple #[]) ∧ ∃ l' : List PNet, l'.Perm l ∧ l'.Pairwise (fun a b => Proofs.ltOf cmpNet b a = false) ∧ w'.ownsRow base 94 5 v l'.length (l'.flatMap ncells) ∧ Frm (fun j => v.ownBlock = some j) w w' :=
  sort_row Proofs.Try.sortNet 5 (fun w => by kernel_rfl) (fun w => by kernel_rfl) ncells ncells_len (fun x v hv => by simp [ncells] at hv; rcases hv with rfl | rfl | rfl | rfl | rfl <;> rfl) cmpNet cmpNet_swo 79
    (enters_of Try.func79 (by kernel_rfl) rfl)
    (fun x y W => nets1_calls x y W) base 94 v l w hown hsz

/-- What the rounds of the first loop keep. -/
def NetsRel (w : World) (l : List PPost) (k : Nat) (wr : World) : Prop :=
  ∃ L, GrpsAt epart 3 (w.heap.size + 1) wr w.heap.size L ∧ (L.map fun p => (p.1, p.2.2)) = byPart (l.take k) ∧ (∀ p ∈ L, p.2.2.length ≤ k ∧ ∀ x ∈ p.2.2, within x) ∧ Below w.heap.size w wr
theorem nets_step {w wr w1 w2 : World} {l : List PPost} {k : Nat} {q : PPost} {L : List (PKey × Grp)} {v : Value} (hq : l[k]? = some q) (hg : GrpsAt epart 3 (w.heap.size + 1) wr w.heap.size L)
    (hL : (L.map fun p => (p.1, p.2.2)) = byPart (l.take k)) (hb : ∀ p ∈ L, p.2.2.length ≤ k ∧ ∀ x ∈ p.2.2, within x) (hbel : Below w.heap.size w wr) (hw : within q.by_)
    (hf : Frm (fun j => ((look L q.part).getD grp0).1.ownBlock = some j ∨ j = w.heap.size) wr w1) (hnb : ∀ c e f, w1.heap[w.heap.size]? ≠ some (.cells c e f)) (ho : w1.ownsRow (w.heap.size + 1) 3 1 v (((look L q.part).getD grp0).2 ++ [q.by_]).length (goInts (((look L q.part).getD grp0).2 ++ [q.by_])))
    (hv : v.ownBlock = ((look L q.part).getD grp0).1.ownBlock ∨ ∃ g, v.ownBlock = some g ∧ wr.heap.size ≤ g) (hm : MapB epart egrp w2 w.heap.size (put L q.part (v, ((look L q.part).getD grp0).2 ++ [q.by_]))) (hf2 : Frm (fun j => j = w.heap.size) w1 w2) : NetsRel w l (k + 1) w2 := by
  refine ⟨_, hg.put_gen hf hnb ho hv hm hf2, ?_, fun p hp => ?_, ?_⟩
  · obtain ⟨hk, rfl⟩ := List.getElem?_eq_some_iff.1 hq
    rw [List.take_succ_eq_append_getElem hk]
    unfold byPart at hL ⊢
    rw [groups_snoc, ← hL, put_map (fun g : Grp => g.2), look_map (fun g : Grp => g.2)]
    congr 1
    cases look L l[k].part <;> rfl
  · rcases mem_put hg.1.apart hp with rfl | ⟨hp, _⟩
    · cases hl : look L q.part with
      | none => simp [grp0]; exact hw
      | some u =>
        have := hb _ (look_some hl)
        refine ⟨by simp; exact this.1, fun x hx => ?_⟩
        simp at hx
        rcases hx with hx | rfl
        · exact this.2 x hx
        · exact hw
    · exact ⟨Nat.le_succ_of_le (hb p hp).1, (hb p hp).2⟩
  · have h2 : Frm (fun j => ((look L q.part).getD grp0).1.ownBlock = some j ∨ j = w.heap.size) wr w2 := hf.trans hf2 (fun j hj => .inl (.inr hj))
    exact hbel.trans (h2.below hbel.size fun j hj => by
      rcases hj with hj | hj
      · have := ((hg.row q.part).lt j hj).1; omega
      · omega)

/-- What the rounds of the second loop keep. -/
def Nets2 (w wo : World) (l : List PPost) (L : List (PKey × Grp)) (v : Value) (wr : World) : Prop :=
  ∃ left qs, IterB epart egrp wr wo.heap.size w.heap.size L left ∧ GrpsAt epart 3 (w.heap.size + 1) wr w.heap.size L ∧ (qs ++ left.map (·.1)).Perm (L.map (·.1)) ∧
    wr.ownsRow w.heap.size 94 5 v (qs.map (netAt l)).length ((qs.map (netAt l)).flatMap ncells) ∧ Below w.heap.size w wr
theorem netInfo : (Try.prog.info? 94).map (fun i => (i.zero, i.size, i.bytes)) = some (some (.agg #[.string ByteArray.empty, .string ByteArray.empty, .int .i64 0, .int .i64 0, .bool false]), 5, 56) := by kernel_rfl
def NetsPost (w : World) (l : List PPost) (e : Ending) (w' : World) : Prop := ∃ v, e = .returned v ∧ w'.ownsRow w.heap.size 94 5 v (netsB l).length ((netsB l).flatMap ncells) ∧ Below w.heap.size w w'

set_option maxHeartbeats 4000000 in
set_option maxRecDepth 100000 in
theorem nets_calls (a : Option Addr) (n c : Nat) (l : List PPost) (w : World) (hn : l.length = n) (hm : n ≤ 1099511627776) (h : PostsAt w a l) (hw : ∀ p ∈ l, within p.by_) :
    Calls Try.prog 61 #[.slice a n c] w (NetsPost w l) := by
  have hmk := @run_makeMap Try.prog
  obtain ⟨i0, hi, hz0, hz1, hz2⟩ := info_parts intInfo
  obtain ⟨j0, hj, hy0, hy1, hy2⟩ := info_parts netInfo
  have HP := hide h
  have HWI := hide hw
  have HN := hide hn
  clear h hw hn
  go_enter Try.func61, Try.ntmps61
  go_wp2_with fail
  go_loopw [15] (fun i wr => ∃ k : Nat, k ≤ n ∧ i = .int .i64 k ∧ NetsRel w l k wr) (fun i _ => n - (intOf i).toNat)
  case atStart => exact ⟨0, by omega, rfl, [], GrpsAt.made w, rfl, by simp, (Below.refl _ _).alloc (Nat.le_refl _) _⟩
  case round =>
    obtain ⟨k, hk, rfl, L, hg, hL, hlen, hbel⟩ := hrel
    have HG := hide hg
    have HL := hide hL
    have HLEN := hide hlen
    have HB := hide hbel
    clear hg hL hlen hbel
    by_cases hlt : k < n
    · obtain ⟨q, hq⟩ : ∃ q, l[k]? = some q := ⟨l[k]'(by have := HN.out; omega), List.getElem?_eq_getElem (by have := HN.out; omega)⟩
      obtain ⟨b, off, rfl, hb0, g1, g2, g3, g4⟩ := (HP.out.keep HB.out) k q hq
      have HSTEP := hide (fun (w1 w2 : World) (v : Value) => nets_step (w1 := w1) (w2 := w2) (v := v) hq HG.out HL.out HLEN.out HB.out (HWI.out q (List.mem_of_getElem? hq)))
      have hrow := HG.out.row q.part
      have hrlen : ((look L q.part).getD grp0).2.length ≤ 1099511627776 := by
        cases hl : look L q.part with
        | none => simp [grp0]
        | some u => have := (HLEN.out _ (look_some hl)).1; simp only [Option.getD_some]; simp only at this; omega
      obtain ⟨st, ent, hent⟩ := HG.out.1.entry_all (P := Try.prog) (t := 130) partT Try.underlying130 grp0 run_zeroInts2 q.part
      have hnm : ((look L q.part).getD grp0).1.ownBlock ≠ some w.heap.size := row_not hrow HG.out.1.notCells
      have hol := fun g hg => (hrow.lt g hg).2
      have hmb : w.heap.size < wr.heap.size := HG.out.1.lt
      clear hq
      obtain ⟨⟨q1, q2⟩, q3, q4⟩ := q
      simp only [PPost.part, epart, egrp, goInt] at *
      generalize ((look L ((q1, q2), q3)).getD grp0).1 = v0 at *
      generalize ((look L ((q1, q2), q3)).getD grp0).2 = xs at *
      have HROW := hide hrow
      have HENT := hide hent
      have HNM := hide hnm
      have HOL := hide hol
      clear hrow hent hnm hol
      have m1 : w.heap.size < wr.heap.size + 1 := by omega
      have m2 : w.heap.size < wr.heap.size + 1 + 1 := by omega
      have hrunE : ∀ W : World, objAt W w.heap.size = objAt wr w.heap.size → (Instr.mapEntry 130 (.map (some w.heap.size)) (.agg #[.string q1, .string q2, .int .i64 q3])).run Try.prog W = .ok (.tuple #[v0, .int .i64 st]) (ent W) := fun W hW => (HENT.out W hW).1
      go_wp2_with (at_builtin; refine Hid.out ?_)
      refine hide ?_
      clear hrunE
      have hf0 : Frm None wr (((wr.alloc (.cells #[.string q1, .string q2, .int .i64 q3, .int .i64 q4] 51)).alloc (.cells #[.string q1, .string q2, .int .i64 q3] 92)).alloc (.cells #[.int .i64 q4] 3)) := (((Frm.refl _ _).alloc _).alloc _).alloc _
      have hnew : (((wr.alloc (.cells #[.string q1, .string q2, .int .i64 q3, .int .i64 q4] 51)).alloc (.cells #[.string q1, .string q2, .int .i64 q3] 92)).alloc (.cells #[.int .i64 q4] 3)).heap[wr.heap.size + 1 + 1]? = some (.cells #[.int .i64 q4] 3 (0, 0)) := by
        have := heap_alloc_new ((wr.alloc (.cells #[.string q1, .string q2, .int .i64 q3, .int .i64 q4] 51)).alloc (.cells #[.string q1, .string q2, .int .i64 q3] 92)) (.cells #[.int .i64 q4] 3)
        simpa using this
      have hsz0 : (((wr.alloc (.cells #[.string q1, .string q2, .int .i64 q3, .int .i64 q4] 51)).alloc (.cells #[.string q1, .string q2, .int .i64 q3] 92)).alloc (.cells #[.int .i64 q4] 3)).heap.size = wr.heap.size + 3 := by simp
      generalize ((wr.alloc (.cells #[.string q1, .string q2, .int .i64 q3, .int .i64 q4] 51)).alloc (.cells #[.string q1, .string q2, .int .i64 q3] 92)).alloc (.cells #[.int .i64 q4] 3) = w0 at *
      obtain ⟨_, he1, he2, he3, he4⟩ := HENT.out w0 (hf0.block w.heap.size hmb id)
      generalize ent w0 = w1 at *
      have hf1 : Frm (fun j => j = w.heap.size) wr w1 := (hf0.mono (fun j hj => hj.elim)).trans he3 (fun j hj => .inl hj)
      have hro1 := row_frm HROW.out hf1 (fun g hg e => HNM.out (by rw [hg, e]))
      have hnew1 : w1.heap[wr.heap.size + 1 + 1]? = some (.cells #[.int .i64 q4] 3 (0, 0)) := (he3.block _ (by omega) (by omega)).trans hnew
      obtain ⟨upd, hupd⟩ := he1.entryStore_all (P := Try.prog) (t := 130) epart_inj _ st he2
      have HUPD := hide hupd
      have HE1 := hide he1
      clear hupd he1 he2
      refine wpList_append_lies _ rfl (.tmp 26) (.tmp 29) _ rfl (w.heap.size + 1) 3 i0 _ 1 8 Try.underlying82 hi hz0 hz1 hz2 (by rfl) (by decide) v0 xs.length (goInts xs) (by rfl) hro1 ⟨wr.heap.size + 1 + 1, 0, none⟩ 1 1 [.int .i64 q4] (by rfl) (by rfl) (World.news_of_block hnew1) (goInts_one [q4]) (by decide) (by unfold maxLen; omega) (by omega) (by omega) (wr.heap.size + 3) (by omega) ?_
      intro g cap w2 hown2 hgrow2 hloc2 hlt2
      have hf2 : Frm (fun j => v0.ownBlock = some j) w1 w2 := (Frm.refl _ _).grown hgrow2 (fun j hj => .inl hj)
      have hob : objAt w2 w.heap.size = objAt w1 w.heap.size := hf2.block _ (by omega) HNM.out
      obtain ⟨hu1, hu2, hu3, hu4⟩ := HUPD.out (.slice (some ⟨g, 0, none⟩) (xs.length + 1) cap) w2 hob
      have hst := HSTEP.out w2 (upd (.slice (some ⟨g, 0, none⟩) (xs.length + 1) cap) w2) (.slice (some ⟨g, 0, none⟩) (xs.length + 1) cap) ((hf1.mono (fun j hj => .inl (.inr hj))).trans hf2 (fun j hj => .inl (.inl hj))) (by
        rw [show w2.heap[w.heap.size]? = w1.heap[w.heap.size]? from hob]
        exact HE1.out.notCells) (by simpa [goInts] using hown2) (by
        rcases hloc2 with e | e
        · exact .inl e.symm
        · exact .inr ⟨g, rfl, by rw [e]; omega⟩) (by
        have := hu2 (.slice (some ⟨g, 0, none⟩) (xs.length + 1) cap, xs ++ [q4]) rfl
        rwa [put_put] at this) hu3
      have HST := hide hst
      simp only [goInt] at hu1
      clear hst hu2 hu3 hu4 hob hf2 hown2 hgrow2 hloc2 hf1 hro1 hnew1 hnew hf0 HE1 HUPD he3 HSTEP HROW HENT
      go_wp2_with fail
      exact ⟨⟨k + 1, by omega, by go_num, HST.out⟩, by simp [intOf]; omega⟩
    · have hkn : k = n := by omega
      subst hkn
      have hfull : byPart (l.take k) = byPart l := by rw [List.take_of_length_le (by have := HN.out; omega)]
      have HL2 : Hid ((L.map fun p => (p.1, p.2.2)) = byPart l) := HL.out.trans hfull
      have hrange := (HG.out.1.range (P := Try.prog) (t := 130) Try.underlying130).1
      have HIT := hide (HG.out.1.range (P := Try.prog) (t := 130) Try.underlying130).2
      have HG1 : Hid (GrpsAt epart 3 (w.heap.size + 1) (wr.alloc (.mapIter (some w.heap.size) (clockOf wr w.heap.size) #[] (clockOf wr w.heap.size))) w.heap.size L) := hide (HG.out.below ((Below.refl _ _).alloc (Nat.le_refl _) _))
      have HLL : Hid (L.length ≤ k) := hide (by
        have h1 := congrArg List.length HL2.out
        rw [List.length_map] at h1
        rw [h1]
        exact Nat.le_trans (groups_length _ _ l) (Nat.le_of_eq HN.out))
      clear hfull HL
      go_wp2_with fail
      obtain ⟨wo, rfl⟩ : ∃ wo : World, wo = wr := ⟨_, rfl⟩
      go_loopw [7] (fun v wr => Nets2 w wo l L v wr) (fun _ wr => wr.rangeLeft w.heap.size wo.heap.size)
      case atStart => exact ⟨L, [], HIT.out, HG1.out, by simp, World.ownsRow_nil _ _ _ _, HB.out.alloc HB.out.size _⟩
      case round =>
        obtain ⟨left, qs, hit, hg, hperm, hown, hbel⟩ := hrel
        have HPM := hide hperm
        have HOWN := hide hown
        clear hperm hown
        rcases hit.next (P := Try.prog) 0 with ⟨rfl, hnext⟩ | ⟨pr, left', w1, hl, hmem, hnext, hit1, hf1, hs1, hentry⟩
        · have hnext' : ∀ ty, (Instr.next (.pointer (some ⟨wo.heap.size, 0, none⟩)) false ty).run Try.prog wr = .ok (.tuple #[.bool false]) wr := fun _ => hnext
          clear hnext
          have hq : qs.Perm ((byPart l).map (·.1)) := by
            have := HPM.out
            rw [← HL2.out, List.map_map]
            simp only [List.map_nil, List.append_nil] at this
            exact this
          have hlen : (qs.map (netAt l)).length ≤ k := by
            have h1 := HPM.out.length_eq
            simp only [List.map_nil, List.append_nil, List.length_map] at h1
            rw [List.length_map, h1]
            exact HLL.out
          have HS := hide (sortNets_calls w.heap.size u7 (qs.map (netAt l)) wr HOWN.out (by omega))
          have HQ := hide hq
          clear hq hlen
          go_wp2_with (go_at_call 78; refine HS.out.mono ?_; rintro e w' ⟨rfl, l', hl1, hl2, hown', hf'⟩)
          have hfin := nets_sorted rfl HQ.out hl1 hl2
          rw [hfin] at hown'
          go_ret
          exact ⟨u7, rfl, hown', hbel.trans (hf'.below hbel.size fun j hj => (HOWN.out.lt j hj).1)⟩
        · obtain ⟨⟨⟨k1, k2⟩, k3⟩, v, xs⟩ := pr
          have hnext' : ∀ ty, (Instr.next (.pointer (some ⟨wo.heap.size, 0, none⟩)) false ty).run Try.prog wr = .ok (.tuple #[.bool true, .agg #[.string k1, .string k2, .int .i64 k3], v]) w1 := fun _ => hnext
          have hentry' : (Instr.entry (.pointer (some ⟨wo.heap.size, 0, none⟩))).run Try.prog w1 = .ok (.tuple #[.agg #[.string k1, .string k2, .int .i64 k3], v]) w1 := hentry
          clear hnext hentry
          have hxs := (HLEN.out _ hmem).2
          have hxl := (HLEN.out _ hmem).1
          have hg1 : GrpsAt epart 3 (w.heap.size + 1) w1 w.heap.size L := hg.frm hf1 (fun e => hit.ne e.symm) (fun p hp g hgb e => row_not (hg.2.1 p hp) hit.noCells (by rw [hgb, e]))
          have hrow1 := hg1.2.1 _ hmem
          simp only at hrow1 hxs hxl
          have hown1 := row_frm HOWN.out hf1 (fun g hgb e => row_not HOWN.out hit.noCells (by rw [hgb, e]))
          have hnums : xs = numsOf PPost.part PPost.by_ l ((k1, k2), k3) := by
            have h1 : (((k1, k2), k3), xs) ∈ byPart l := by
              rw [← HL2.out]
              exact List.mem_map.2 ⟨_, hmem, rfl⟩
            exact (groups_mem _ _ h1).1
          obtain ⟨A, c2, rfl, hcells⟩ := grp_slice hrow1
          have hb1 : Below w.heap.size w w1 := hbel.trans (hf1.below hbel.size fun j hj => by have := HB.out.size; omega)
          have hwl : w.heap.size ≤ w1.heap.size := hb1.size
          have HA : Hid (Calls Try.prog 41 #[.pointer (some ⟨w1.heap.size + 1, 0, none⟩), .slice A xs.length c2] ((w1.alloc (.cells #[.string k1, .string k2, .int .i64 k3] 92)).alloc (.cells #[.bool false] 84)) fun e w' =>
              e = .returned (.int .i64 (accAdd xs)) ∧ w'.cell? ⟨w1.heap.size + 1, 0, none⟩ = some (.bool (!decide (fits xs.sum))) ∧ w'.cell? ⟨w1.heap.size, 0, none⟩ = some (.string k1) ∧ w'.cell? ⟨w1.heap.size, 1, none⟩ = some (.string k2) ∧ w'.cell? ⟨w1.heap.size, 2, none⟩ = some (.int .i64 k3) ∧ w'.heap.size = w1.heap.size + 2 ∧ Hid (Frm None w1 w')) := by
            refine hide ((accAdd_calls (w1.heap.size + 1) A c2 w1.heap.size false xs _ (by simp) (by simp) (fun hn => ?_) (fun x hx => ?_) (by omega)).mono ?_)
            · obtain ⟨g, e1, e2, e3, e4, _⟩ := hcells 0 hn
              refine ⟨g, 0, e1, e3, fun i hi => ?_⟩
              obtain ⟨g', e1', _, e3', _, e5'⟩ := hcells i hi
              obtain rfl : g' = g := by rw [e1] at e1'; simpa using e1'.symm
              rw [Nat.zero_add]
              exact ((((Below.refl w1.heap.size w1).alloc (Nat.le_refl _) _).alloc (by simp) _).cell (p := ⟨g', i, none⟩) e3').trans e5'
            · have := hxs x hx
              unfold within at this
              unfold isI64
              omega
            · rintro e w' ⟨rfl, rfl⟩
              refine ⟨rfl, ?_, ?_, ?_, ?_, ?_, hide (accWorld_frm (((Frm.refl _ _).alloc _).alloc _) (by simp))⟩
              all_goals
                unfold accWorld
                by_cases hft : fits xs.sum
                · rw [if_pos hft]; simp [hft]
                · rw [if_neg hft]; (try rw [decide_eq_false hft]); first | go_simp | simp [World.setCell]
          have hmeas : left'.length < left.length := by rw [hl.length_eq]; simp
          have HM : Hid (∀ (v' : Value) (w5 w6 : World), Frm None w1 w5 → w6.ownsRow w.heap.size 94 5 v' ((qs.map (netAt l)).length + 1) ((qs.map (netAt l)).flatMap ncells ++ [.string k1, .string k2, .int .i64 k3, .int .i64 (accAdd xs), .bool (!decide (fits xs.sum))]) → w5.grownBy w6 u7.ownBlock →
              Nets2 w wo l L v' w6 ∧ w6.rangeLeft w.heap.size wo.heap.size < wr.rangeLeft w.heap.size wo.heap.size) := hide fun v' w5 w6 hf5 ho6 hg6 => by
            have hf6 : Frm (fun j => u7.ownBlock = some j) w1 w6 := (hf5.mono (fun j hj => hj.elim)).grown hg6 (fun j hj => .inl hj)
            have hit2 := hit1.frm hf6 (row_not hown1 hg1.1.notCells) (row_not hown1 hit1.noCells)
            have hg2 := hg1.frm hf6 (row_not hown1 hg1.1.notCells) (fun p hp g hgb e => row_types (hg1.2.1 p hp) hown1 (by decide) hgb e)
            refine ⟨⟨left', qs ++ [((k1, k2), k3)], hit2, hg2, ?_, ?_, hb1.trans (hf6.below hwl fun j hj => (hown1.lt j hj).1)⟩, by rw [hit.count, hit2.count]; exact hmeas⟩
            · refine List.Perm.trans ?_ HPM.out
              rw [List.append_assoc]
              exact List.Perm.append_left _ (by have h9 := (hl.map (fun p : PKey × Grp => p.1)).symm; exact h9)
            · have hna : netAt l ((k1, k2), k3) = ⟨(k1, k2), k3, accAdd xs, !decide (fits xs.sum)⟩ := by
                unfold netAt
                rw [← hnums]
              rw [List.map_append, List.flatMap_append]
              simp only [List.map_cons, List.map_nil, List.flatMap_cons, List.flatMap_nil, List.append_nil, hna, ncells]
              simpa using ho6
          have hol : (qs.map (netAt l)).length ≤ 1099511627776 := by
            have h1 := HPM.out.length_eq
            rw [List.length_append, List.length_map, List.length_map] at h1
            rw [List.length_map]
            have := HLL.out
            omega
          have HO1 := hide hown1
          clear hit hg hbel hl hmem hit1 hf1 hs1 hxs hg1 hrow1 hcells hb1 hmeas HPM hxl HL2 hown1 HOWN hnums
          generalize hxn : xs.length = nx at *
          have HXN := hide hxn
          clear hxn
          generalize accAdd xs = r at *
          generalize (!decide (fits xs.sum)) = ov at *
          go_wp2_with (first
            | (go_at_call 41; refine HA.out.mono ?_; rintro e w5 ⟨rfl, hc1, hc2, hc3, hc4, hsz5, HF5⟩)
            | (at_builtin; refine Hid.out ?_))
          refine hide ?_
          have hro5 := row_frm HO1.out (HF5.out.alloc (.cells #[.string k1, .string k2, .int .i64 k3, .int .i64 r, .bool ov] 94)) (fun _ _ => id)
          have hsz6 : (w5.alloc (.cells #[.string k1, .string k2, .int .i64 k3, .int .i64 r, .bool ov] 94)).heap.size = w1.heap.size + 3 := by simp [hsz5]
          refine wpList_append_own _ rfl (.tmp 43) (.tmp 49) _ rfl w.heap.size 94 j0 _ 5 56 Try.underlying87 hj hy0 hy1 hy2 (by rfl) (by decide) u7 (qs.map (netAt l)).length ((qs.map (netAt l)).flatMap ncells) (by rfl) hro5 ⟨w1.heap.size + 2, 0, none⟩ 1 1 [.string k1, .string k2, .int .i64 k3, .int .i64 r, .bool ov] (by first | rfl | (show Act.eval _ _ = _; simp [Act.eval])) rfl (by rw [← hsz5]; exact World.news_of_block (heap_alloc_new w5 _)) (by intro u hu; simp at hu; rcases hu with rfl | rfl | rfl | rfl | rfl <;> rfl) (by unfold maxLen; omega) (by omega) (by omega) ?_
          intro v2 w6 hown6 hgrow6 _
          have HEND := hide (HM.out v2 _ w6 (HF5.out.alloc _) hown6 hgrow6)
          clear hown6 hgrow6 hro5
          go_wp2_with fail
          exact HEND.out
end Go.Proofs.Ytmhmjbggjbeikaa
