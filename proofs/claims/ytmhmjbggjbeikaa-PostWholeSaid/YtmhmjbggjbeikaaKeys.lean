/- (*Pos).Keys. -/
import Derived.Test.YtmhmjbggjbeikaaStrs
import Derived.Test.YtmhmjbggjbeikaaPos2
import Derived.Test.YtmhmjbggjbeikaaShelf
namespace Go.Proofs.Ytmhmjbggjbeikaa
set_option linter.unusedSimpArgs false
set_option linter.unusedVariables false
open Go.RowKit Go.Sort
attribute [local go_sem] objAt_alloc objAt_alloc_at objAt_drew objAt_setCell

def kcells (k : Key) : List Value := [.string k.1, .string k.2]
theorem kcells_len (k : Key) : (kcells k).length = 2 := rfl
/-- Is a key one of those that are asked for? -/
def selKey (al : List ByteArray) (k : Key) : Bool := al.isEmpty || hasStr al k.2
/-- Keys in their order. -/
def sortK (l : List Key) : List Key := l.mergeSort fun x y => !Proofs.ltOf cmpKey y x
def posKeys (m : List (Key × Three)) (al : List ByteArray) : List Key := sortK ((m.map (·.1)).filter (selKey al))

theorem sortK_perm (l : List Key) : (sortK l).Perm l := List.mergeSort_perm l _
theorem sortK_sorted (l : List Key) : (sortK l).Pairwise (fun a b => Proofs.ltOf cmpKey b a = false) := by
  have h := List.pairwise_mergeSort (le := fun x y => !Proofs.ltOf cmpKey y x) (fun a b c h1 h2 => by
    simp only [Bool.not_eq_true'] at *
    exact cmpKey_cmp.swo.ntrans c b a h2 h1) (fun a b => by
    simp only [Bool.or_eq_true, Bool.not_eq_true']
    by_cases h1 : Proofs.ltOf cmpKey b a = true
    · right
      cases h2 : Proofs.ltOf cmpKey a b with
      | false => rfl
      | true =>
        have h3 := cmpKey_cmp.swo.trans a b a h2 h1
        rw [cmpKey_cmp.swo.irrefl] at h3
        cases h3
    · left; simpa using h1) l
  exact h.imp (fun {a b} h => by simpa using h)
theorem sortK_eq {l l' : List Key} (hp : l'.Perm l) (hs : l'.Pairwise (fun a b => Proofs.ltOf cmpKey b a = false)) : l' = sortK l :=
  sorted_unique cmpKey_cmp l' (sortK l) (hp.trans (sortK_perm l).symm) hs (sortK_sorted l)
theorem posKeys_mem {m : List (Key × Three)} {al : List ByteArray} {k : Key} : k ∈ posKeys m al ↔ (∃ x, (k, x) ∈ m) ∧ selKey al k = true := by
  unfold posKeys
  rw [(sortK_perm _).mem_iff, List.mem_filter, List.mem_map]
  constructor
  · rintro ⟨⟨p, hp, rfl⟩, h⟩; exact ⟨⟨p.2, hp⟩, h⟩
  · rintro ⟨⟨x, hx⟩, h⟩; exact ⟨⟨(k, x), hx, rfl⟩, h⟩
theorem posKeys_rising {m : List (Key × Three)} (h : Apart m) (al : List ByteArray) : (posKeys m al).Pairwise (fun a b => cmpKey a b < 0) :=
  rising_of_sorted cmpKey_cmp (sortK_sorted _) ((sortK_perm _).nodup_iff.2 (List.Nodup.sublist List.filter_sublist h))
theorem posKeys_length (m : List (Key × Three)) (al : List ByteArray) : (posKeys m al).length ≤ m.length := by
  unfold posKeys
  rw [(sortK_perm _).length_eq]
  exact Nat.le_trans (List.length_filter_le _ _) (by simp)

theorem own_ne {w : World} {base : Nat} {e : TypeId} {size n : Nat} {v : Value} {xs : List Value} (h : w.ownsRow base e size v n xs) {r : Nat} (hr : ∀ c e f, w.heap[r]? ≠ some (.cells c e f)) : v.ownBlock ≠ some r := by
  rcases h.2 with ⟨rfl, _⟩ | ⟨g, cap, cur, rfl, _, hh, _⟩
  · simp [Value.ownBlock]
  · intro he
    have : g = r := by simpa [Value.ownBlock] using he
    subst this
    exact hr _ _ _ hh

theorem new_cells (W : World) (cs : List Value) (t : TypeId) (n : Nat) (hn : n = W.heap.size) : ∀ j u, cs[j]? = some u → (W.alloc (.cells cs.toArray t)).cell? ((⟨n, 0, none⟩ : Addr).add j) = some u := by
  intro j u hu
  subst hn
  rw [Addr.add_lit, World.cell?_alloc_new]
  simpa using hu

theorem own_frm {w w' : World} {S : Nat → Prop} {base : Nat} {e : TypeId} {size n : Nat} {v : Value} {xs : List Value} (h : w.ownsRow base e size v n xs) (hf : Frm S w w') (hn : ∀ g, v.ownBlock = some g → ¬ S g) : w'.ownsRow base e size v n xs := by
  refine ⟨h.1, ?_⟩
  rcases h.2 with h2 | ⟨g, cap, cur, hv, hg, hh, r⟩
  · exact .inl h2
  · exact .inr ⟨g, cap, cur, hv, hg, (hf.block g (Array.getElem?_eq_some_iff.1 hh).1 (hn g (by rw [hv]; rfl))).trans hh, r⟩

theorem IterB.left_eq {κ ν : Type} {ek : κ → Value} {ev : ν → Value} {w : World} {r b : Nat} {l left : List (κ × ν)} (h : IterB ek ev w r b l left) : w.rangeLeft b r = left.length := by
  obtain ⟨es, clock, since, seen, c0, hb, _, _, _, _, hr, _, _, _, hl, _⟩ := h
  simp only [World.rangeLeft, hb, hr]
  have := congrArg List.length hl
  simpa using this
theorem IterB.notCells {κ ν : Type} {ek : κ → Value} {ev : ν → Value} {w : World} {r b : Nat} {l left : List (κ × ν)} (h : IterB ek ev w r b l left) : (∀ c e f, w.heap[r]? ≠ some (.cells c e f)) ∧ (∀ c e f, w.heap[b]? ≠ some (.cells c e f)) := by
  obtain ⟨es, clock, since, seen, c0, hb, _, _, _, _, hr, _⟩ := h
  exact ⟨fun c e f => by rw [hr]; simp, fun c e f => by rw [hb]; simp⟩

theorem run_range_fn {w : World} {b : Nat} {m : List (Key × Three)} (h : MapB ekey eval3 w b m) :
    ∀ W : World, objAt W b = objAt w b → (Instr.range 72 (.map (some b))).run Try.prog W = .ok (.pointer (some ⟨W.heap.size, 0, none⟩)) (W.alloc (.mapIter (some b) (clockOf w b) #[] (clockOf w b))) := fun W hW => by
  have h2 := ((h.keep (w' := W) hW).range (P := Try.prog) (t := 72) (kt := 24) (et := 76) Try.underlying72).1
  have h3 : clockOf W b = clockOf w b := by
    have h4 : W.heap[b]? = w.heap[b]? := hW
    simp only [clockOf, h4]
  rw [h3] at h2
  exact h2

theorem keyInfo : (Try.prog.info? 24).map (fun i => (i.zero, i.size, i.bytes)) = some (some (.agg #[.string ByteArray.empty, .string ByteArray.empty]), 2, 32) := by kernel_rfl

/-- slices.SortFunc of keys, by pos.Before. -/
theorem sortKeys_calls (base : Nat) (v : Value) (l : List Key) (w : World) (hown : w.ownsRow base 24 2 v l.length (l.flatMap kcells)) (hsz : l.length < 4611686018427387904) :
    Calls Try.prog 38 #[v, .func (.func 39) #[] #[]] w fun r w' => r = .returned (.tuple #[]) ∧ w'.ownsRow base 24 2 v (sortK l).length ((sortK l).flatMap kcells) ∧ Frm (fun j => v.ownBlock = some j) w w' := by
  have h := sort_row Proofs.Try.sortKey 2 (fun w => by kernel_rfl) (fun w => by kernel_rfl) kcells kcells_len (fun x v hv => by simp [kcells] at hv; rcases hv with rfl | rfl <;> rfl) cmpKey cmpKey_cmp.swo 39
    (enters_of Try.func39 (by kernel_rfl) rfl)
    (fun x y W => (before_calls x y W).mono fun e w' ⟨he, o1, o2, o3, hw⟩ => ⟨he, 1, #[o1, o2, o3], by rw [hw, alloc_eq_grow, alloc_eq_grow, alloc_eq_grow, grow_grow, grow_grow]; rfl⟩)
    base 24 v l w hown hsz
  refine h.mono fun r w' ⟨h1, l', h2, h3, h4, h5⟩ => ⟨h1, ?_, h5⟩
  rw [← sortK_eq h2 h3]
  exact h4

/-- What the round of Keys keeps. -/
def KeysRel (B r b : Nat) (m : List (Key × Three)) (al : List ByteArray) (w : World) (v : Value) (wr : World) : Prop :=
  ∃ (left : List (Key × Three)) (out : List Key), IterB ekey eval3 wr r b m left ∧ wr.ownsRow B 24 2 v out.length (out.flatMap kcells) ∧
    (out ++ (left.map (·.1)).filter (selKey al)).Perm ((m.map (·.1)).filter (selKey al)) ∧ Below B w wr

set_option maxHeartbeats 2000000 in
set_option maxRecDepth 100000 in
theorem keys_walk (p b : Nat) (m : List (Key × Three)) (A : Option Addr) (c : Nat) (al : List ByteArray) (w : World) (hp : w.cell? ⟨p, 0, none⟩ = some (.map (some b))) (hpl : p < w.heap.size) (hbl : b < w.heap.size)
    (hmap : MapB ekey eval3 w b m) (hm : m.length ≤ 1099511627776) (hal : StrsAt w w.heap.size A al) (hn : al.length ≤ 4611686018427387904) :
    Calls Try.prog 18 #[.pointer (some ⟨p, 0, none⟩), .slice A al.length c] w fun e w' => ∃ v, e = .returned v ∧ w'.ownsRow w.heap.size 24 2 v (posKeys m al).length ((posKeys m al).flatMap kcells) ∧ Below w.heap.size w w' := by
  have hrange := run_range_fn hmap
  obtain ⟨i0, hi, hz0, hz1, hz2⟩ := info_parts keyInfo
  have HR := (hmap.range (P := Try.prog) Try.underlying72).2
  have HI0 := hide HR
  have HM := hide hm
  have HAL := hide hal
  clear HR hm hal
  obtain ⟨n, HN⟩ : ∃ n, Hid (al.length = n) := ⟨_, rfl⟩
  rw [HN.out] at hn ⊢
  go_enter Try.func18, Try.ntmps18
  go_wp2_with fail
  go_loopw [5] (fun v wr => KeysRel w.heap.size w.heap.size b m al w v wr) (fun _ wr => wr.rangeLeft b w.heap.size)
  case atStart =>
    exact ⟨m, [], HI0.out, World.ownsRow_nil _ _ _ _, by simp, (Below.refl _ _).alloc (Nat.le_refl _) _⟩
  case round =>
    obtain ⟨left, out, hit, hown, hperm, hbel⟩ := hrel
    have HP := hide hperm
    clear hperm
    rcases hit.next (P := Try.prog) 0 with ⟨rfl, hnext⟩ | ⟨pr, left', w1, hl, hmem, hnext, hit1, hf1, hs1, hentry⟩
    · have hnext' : ∀ ty, (Instr.next (.pointer (some ⟨w.heap.size, 0, none⟩)) false ty).run Try.prog wr = .ok (.tuple #[.bool false]) wr := fun _ => hnext
      clear hnext
      have hlen : out.length ≤ m.length := by
        have := HP.out.length_eq
        simp only [List.map_nil, List.filter_nil, List.append_nil] at this
        rw [this]
        exact Nat.le_trans (List.length_filter_le _ _) (by simp)
      have hfin : sortK out = posKeys m al := by
        have hp := HP.out
        simp only [List.map_nil, List.filter_nil, List.append_nil] at hp
        exact sortK_eq ((sortK_perm out).trans hp) (sortK_sorted out)
      have HS := hide (sortKeys_calls w.heap.size u5 out wr hown (by have := HM.out; omega))
      rw [hfin] at HS
      clear hfin HP hlen
      go_wp2_with (go_at_call 38; refine HS.out.mono ?_; rintro e w' ⟨rfl, hown', hf'⟩)
      go_ret
      exact ⟨u5, rfl, hown', hbel.trans (hf'.below (Nat.le_trans (Nat.le_refl _) hbel.size) fun j hj => (hown.lt j hj).1)⟩
    · have hnext' : ∀ ty, (Instr.next (.pointer (some ⟨w.heap.size, 0, none⟩)) false ty).run Try.prog wr = .ok (.tuple #[.bool true, ekey pr.1, eval3 pr.2]) w1 := fun _ => hnext
      clear hnext
      obtain ⟨⟨k1, k2⟩, x⟩ := pr
      simp only [ekey, eval3] at hnext' hentry
      -- what stays in the new world
      have hbw1 : Below w.heap.size w w1 := hbel.trans (hf1.below hbel.size fun j hj => by omega)
      have hown1 : w1.ownsRow w.heap.size 24 2 u5 out.length (out.flatMap kcells) := own_frm hown hf1 fun g hg e => own_ne hown hit.notCells.1 (by rw [hg, e])
      have hmeas : left'.length < left.length := by rw [hl.length_eq]; simp
      have HMS := hide hmeas
      have hperm' : (out ++ ((if selKey al (k1, k2) = true then [(k1, k2)] else []) ++ (left'.map (·.1)).filter (selKey al))).Perm ((m.map (·.1)).filter (selKey al)) := by
        refine List.Perm.trans (List.Perm.append_left _ ?_) HP.out
        refine List.Perm.trans ?_ ((hl.map (·.1)).filter (selKey al)).symm
        rw [List.map_cons]
        by_cases hs : selKey al (k1, k2) = true
        · rw [if_pos hs, List.filter_cons_of_pos hs]; rfl
        · rw [if_neg hs, List.filter_cons_of_neg hs]; rfl
      have HP' := hide hperm'
      have HL0 := hide hit.left_eq
      have HL1 := hide hit1.left_eq
      have hlt1 : w.heap.size < w1.heap.size := by rw [hs1]; exact hit.lt
      have HIT1 := hide hit1
      have hb0 : ∀ g, u5.ownBlock = some g → w.heap.size ≤ g := fun g hg => (hown.lt g hg).1
      have hne0 : u5.ownBlock ≠ some w.heap.size := own_ne hown1 hit1.notCells.1
      have hneb : u5.ownBlock ≠ some b := own_ne hown1 hit1.notCells.2
      have HBW1 := hide hbw1
      have HOWN1 := hide hown1
      clear hl hmem hit1 hf1 hperm' HP hmeas hit hown hbel hs1 hbw1 hown1
      -- the end of a round in which the key is taken
      have HEND : ∀ (o1 o2 : Obj) (v' : Value) (w2 : World), Hid (w2.ownsRow w.heap.size 24 2 v' (out.length + 1) (out.flatMap kcells ++ [.string k1, .string k2]) → ((w1.alloc o1).alloc o2).grownBy w2 u5.ownBlock → selKey al (k1, k2) = true →
          KeysRel w.heap.size w.heap.size b m al w v' w2 ∧ w2.rangeLeft b w.heap.size < wr.rangeLeft b w.heap.size) := fun o1 o2 v' w2 => hide fun ho hg hs => by
        have hf : Frm (fun j => u5.ownBlock = some j) w1 w2 := (((Frm.refl _ _).alloc o1).alloc o2).grown hg fun k hk => .inl hk
        have hit2 : IterB ekey eval3 w2 w.heap.size b m left' := HIT1.out.frm hf (by simpa using hneb) (by simpa using hne0)
        refine ⟨⟨left', out ++ [(k1, k2)], hit2, by simpa [kcells] using ho, ?_, HBW1.out.trans (hf.below (by omega) fun j hj => hb0 j hj)⟩, by rw [HL0.out, hit2.left_eq]; exact HMS.out⟩
        have := HP'.out
        rw [if_pos hs] at this
        simpa using this
      have HEND2 : ∀ (o1 : Obj), Hid (selKey al (k1, k2) = false →
          KeysRel w.heap.size w.heap.size b m al w u5 (w1.alloc o1) ∧ (w1.alloc o1).rangeLeft b w.heap.size < wr.rangeLeft b w.heap.size) := fun o1 => hide fun hs => by
        have hf : Frm None w1 (w1.alloc o1) := (Frm.refl _ _).alloc o1
        have hit2 : IterB ekey eval3 (w1.alloc o1) w.heap.size b m left' := HIT1.out.frm hf id id
        refine ⟨⟨left', out, hit2, own_frm HOWN1.out hf (fun _ _ => id), ?_, HBW1.out.alloc (by omega) o1⟩, by rw [HL0.out, hit2.left_eq]; exact HMS.out⟩
        have := HP'.out
        rw [hs] at this
        simpa using this
      have hsm : out.length ≤ 1099511627776 := by
        have h1 := HP'.out.length_eq
        rw [List.length_append] at h1
        have h2 := List.length_filter_le (selKey al) (m.map (·.1))
        rw [List.length_map] at h2
        have := HM.out
        omega
      clear HP' HM HL0 HL1 HMS HI0 hmap
      by_cases h0 : n = 0
      · have hc0 : ((n : Int) == 0) = true := by subst h0; rfl
        have hsel : selKey al (k1, k2) = true := by
          have : al = [] := List.eq_nil_of_length_eq_zero (HN.out.trans h0)
          subst this; rfl
        have HSEL := hide hsel
        clear h0 hsel
        go_wp2_with (first | (at_builtin; refine wpList_append_own _ rfl (.tmp 27) (.tmp 29) _ rfl w.heap.size 24 i0 _ 2 32 Try.underlying35 hi hz0 hz1 hz2 rfl (by decide) u5 out.length (out.flatMap kcells) rfl ((HOWN1.out.alloc _).alloc _) ⟨w1.heap.size + 1, 0, none⟩ 1 1 [.string k1, .string k2] rfl rfl (new_cells _ _ _ _ (by simp)) (by intro u hu; simp at hu; rcases hu with rfl | rfl <;> rfl) (by unfold maxLen; omega) (by omega) (by simp; omega) ?_; intro v2 w2 hown2 hgrow2 _; have HO2 := hide hown2; have HG2 := hide hgrow2; clear hown2 hgrow2))
        go_roundw
        case rel => exact ((HEND _ _ _ _).out HO2.out HG2.out HSEL.out).1
        case measure => exact ((HEND _ _ _ _).out HO2.out HG2.out HSEL.out).2
      · have hc0 : ((n : Int) == 0) = false := by simpa using h0
        have hc1 : ¬ (n : Int) = 0 := by omega
        have hcon : ∀ W, Below w.heap.size w W → Calls Try.prog 37 #[.slice A n c, .string k2] W fun e w' => e = .returned (.bool (hasStr al k2)) ∧ W = w' := fun W hW => by
          have := contains_str A c al k2 W w.heap.size (HAL.out.below hW (Nat.le_refl _)) (by rw [HN.out]; exact hn)
          rwa [HN.out] at this
        have hb1 : ∀ o, Below w.heap.size w (w1.alloc o) := fun o => HBW1.out.alloc (by omega) o
        have hne : al.isEmpty = false := by
          cases al with
          | nil => exact absurd (HN.out.symm) h0
          | cons _ _ => rfl
        have hs : selKey al (k1, k2) = hasStr al k2 := by unfold selKey; rw [hne]; rfl
        cases hh : hasStr al k2 with
        | true =>
          have HSEL : Hid (selKey al (k1, k2) = true) := hs.trans hh
          have HC := hide (hcon _ (hb1 (.cells #[.string k1, .string k2] 24)))
          rw [hh] at HC
          clear h0 hcon hb1 hne hs hh
          go_wp2_with (first | (go_at_call 37; refine HC.out.mono ?_; rintro e w' ⟨rfl, rfl⟩) | (at_builtin; refine wpList_append_own _ rfl (.tmp 27) (.tmp 29) _ rfl w.heap.size 24 i0 _ 2 32 Try.underlying35 hi hz0 hz1 hz2 rfl (by decide) u5 out.length (out.flatMap kcells) rfl ((HOWN1.out.alloc _).alloc _) ⟨w1.heap.size + 1, 0, none⟩ 1 1 [.string k1, .string k2] rfl rfl (new_cells _ _ _ _ (by simp)) (by intro u hu; simp at hu; rcases hu with rfl | rfl <;> rfl) (by unfold maxLen; omega) (by omega) (by simp; omega) ?_; intro v2 w2 hown2 hgrow2 _; have HO2 := hide hown2; have HG2 := hide hgrow2; clear hown2 hgrow2))
          go_roundw
          case rel => exact ((HEND _ _ _ _).out HO2.out HG2.out HSEL.out).1
          case measure => exact ((HEND _ _ _ _).out HO2.out HG2.out HSEL.out).2
        | false =>
          have HSEL : Hid (selKey al (k1, k2) = false) := hs.trans hh
          have HC := hide (hcon _ (hb1 (.cells #[.string k1, .string k2] 24)))
          rw [hh] at HC
          clear h0 hcon hb1 hne hs hh
          go_wp2_with (go_at_call 37; refine HC.out.mono ?_; rintro e w' ⟨rfl, rfl⟩)
          go_roundw
          case rel => exact ((HEND2 _).out HSEL.out).1
          case measure => exact ((HEND2 _).out HSEL.out).2
theorem run_range_nil {P : Program} {t kt et : TypeId} (ht : P.underlying t = some (.map kt et)) (W : World) : (Instr.range t (.map none)).run P W = .ok (.pointer (some ⟨W.heap.size, 0, none⟩)) (W.alloc (.mapIter none 0 #[] 0)) := by
  simp [Instr.range, run_underlying ht]
theorem run_next_nil {P : Program} (W : World) (r : Nat) (h : objAt W r = some (.mapIter none 0 #[] 0)) (ty : TypeId) : (Instr.next (.pointer (some ⟨r, 0, none⟩)) false ty).run P W = .ok (.tuple #[.bool false]) W := by
  have h' : W.heap[r]? = some (.mapIter none 0 #[] 0) := h
  simp [Instr.next, getObj, Sem.run, h', Result.andThen]

set_option maxHeartbeats 1000000 in
theorem keys_none (p : Nat) (A : Option Addr) (n c : Nat) (w : World) (hp : w.cell? ⟨p, 0, none⟩ = some (.map none)) (hpl : p < w.heap.size) :
    Calls Try.prog 18 #[.pointer (some ⟨p, 0, none⟩), .slice A n c] w fun e w' => e = .returned (.slice none 0 0) ∧ Below w.heap.size w w' := by
  have hrange := run_range_nil (P := Try.prog) Try.underlying72
  have hnext := run_next_nil (P := Try.prog)
  have HS := hide (sortKeys_calls 0 (.slice none 0 0) [] (w.alloc (.mapIter none 0 #[] 0)) (World.ownsRow_nil _ _ _ _) (by simp))
  have hsz : w.heap.size < (w.alloc (.mapIter none 0 #[] 0)).heap.size := by simp
  go_enter Try.func18, Try.ntmps18
  go_wp2_with fail
  go_loopw [5] (fun v wr => v = .slice none 0 0 ∧ wr = w.alloc (.mapIter none 0 #[] 0)) (fun _ _ => 0)
  case atStart => exact ⟨rfl, rfl⟩
  case round =>
    obtain ⟨rfl, rfl⟩ := hrel
    go_wp2_with (go_at_call 38; refine HS.out.mono ?_; rintro e w' ⟨rfl, hown', hf'⟩)
    go_ret
    exact ⟨rfl, ((Below.refl _ _).alloc (Nat.le_refl _) _).trans (hf'.below (by simp) fun j hj => by simp [Value.ownBlock] at hj)⟩

set_option maxHeartbeats 1000000 in
theorem keys_nilptr (A : Option Addr) (n c : Nat) (w : World) :
    Calls Try.prog 18 #[.pointer none, .slice A n c] w fun e w' => e = .returned (.slice none 0 0) ∧ w = w' := by
  go_enter Try.func18, Try.ntmps18
  go_wp2
  go_ret
  exact ⟨rfl, rfl⟩

/-- (*Pos).Keys. -/
theorem keys_calls (p : Nat) (F : Nat → Prop) (m : List (Key × Three)) (A : Option Addr) (c : Nat) (al : List ByteArray) (w : World) (h : PosAt w p F m) (hm : m.length ≤ 1099511627776) (hal : StrsAt w w.heap.size A al) (hn : al.length ≤ 4611686018427387904) :
    Calls Try.prog 18 #[.pointer (some ⟨p, 0, none⟩), .slice A al.length c] w fun e w' => ∃ v, e = .returned v ∧ w'.ownsRow w.heap.size 24 2 v (posKeys m al).length ((posKeys m al).flatMap kcells) ∧ Below w.heap.size w w' := by
  obtain ⟨hF, hlt, hg, hcase⟩ := h
  rcases hcase with ⟨h5, rfl⟩ | ⟨b, hbp, hb2, hb3, hb4⟩
  · exact (keys_none p A al.length c w (cell_of_obj h5).1 (hlt p hF)).mono fun e w' ⟨h1, h2⟩ => ⟨_, h1, by
      have e0 : posKeys [] al = [] := by simp [posKeys, sortK]
      rw [e0]
      exact World.ownsRow_nil _ _ _ _, h2⟩
  · exact keys_walk p b m A c al w (cell_of_obj hb3).1 (hlt p hF) (hlt b hb2) hb4 hm hal hn

end Go.Proofs.Ytmhmjbggjbeikaa
