/- (*Pos).Whole, Total. -/
import Derived.Test.YtmhmjbggjbeikaaAcc
import Derived.Test.YtmhmjbggjbeikaaKeys
import Derived.Test.YtmhmjbggjbeikaaGet
namespace Go.Proofs.Ytmhmjbggjbeikaa
open Go.RowKit
attribute [local go_sem] objAt_alloc objAt_alloc_at objAt_drew objAt_drewN objAt_setCell

def list3 (x : Three) : List Int := [x.1, x.2.1, x.2.2]
def posWhole (m : List (Key × Three)) (k : Key) : Int := accAdd (list3 (posGet m k))
def posTotal (m : List (Key × Three)) (a : ByteArray) : Int := accAdd ((posKeys m [a]).flatMap fun k => list3 (posGet m k))

theorem good_list3 {x : Three} (h : Good3 x) : ∀ v ∈ list3 x, isI64 v := by
  intro v hv
  simp only [list3, List.mem_cons, List.not_mem_nil, or_false] at hv
  obtain ⟨⟨a1, a2⟩, ⟨b1, b2⟩, ⟨c1, c2⟩⟩ := h
  unfold isI64
  rcases hv with rfl | rfl | rfl <;> omega

theorem accWorld_below {w W : World} {B ap : Nat} {xs : List Int} (h : Below B w W) (hap : B ≤ ap) : Below B w (accWorld W ap xs) := by
  unfold accWorld
  split
  · exact h
  · exact h.setCell (p := ⟨ap, 0, none⟩) hap _

set_option maxHeartbeats 1000000 in
theorem whole_walk (p b : Nat) (mv : Value) (k1 k2 : ByteArray) (x : Three) (w : World) (hp : w.cell? ⟨p, 0, none⟩ = some mv) (hpl : p < w.heap.size) (hbl : b < w.heap.size)
    (hlook : ∀ W : World, objAt W b = objAt w b → (Instr.lookup 72 mv (.agg #[.string k1, .string k2]) false).run Try.prog W = .ok (eval3 x) W) (hx : Good3 x) :
    Calls Try.prog 22 #[.pointer (some ⟨p, 0, none⟩), .agg #[.string k1, .string k2]] w fun e w' => e = .returned (.int .i64 (accAdd (list3 x))) ∧ Below w.heap.size w w' := by
  have p1 : p < w.heap.size + 1 := by omega
  have p2 : p < w.heap.size + 1 + 1 := by omega
  have b1 : b < w.heap.size + 1 := by omega
  have b2 : b < w.heap.size + 1 + 1 := by omega
  have hX := hide (good_list3 hx)
  obtain ⟨x, y, z⟩ := x
  simp only [eval3] at hlook
  have HA : ∀ (W : World) (g ap c : Nat), W.cell? ⟨ap, 0, none⟩ = some (.bool false) → W.frozen? ⟨ap, 0, none⟩ = false → W.cell? ⟨g, 0, none⟩ = some (.int .i64 x) → W.cell? ⟨g, 1, none⟩ = some (.int .i64 y) → W.cell? ⟨g, 2, none⟩ = some (.int .i64 z) →
      Calls Try.prog 41 #[.pointer (some ⟨ap, 0, none⟩), .slice (some ⟨g, 0, none⟩) 3 c] W fun e w' => e = .returned (.int .i64 (accAdd (list3 (x, y, z)))) ∧ w' = accWorld W ap (list3 (x, y, z)) := fun W g ap c h1 h2 h3 h4 h5 =>
    accAdd_calls ap (some ⟨g, 0, none⟩) c (g + 1) false (list3 (x, y, z)) W h1 h2 (fun _ => ⟨g, 0, rfl, by omega, fun i hi => by
      have : i = 0 ∨ i = 1 ∨ i = 2 := by simp [list3] at hi; omega
      rcases this with rfl | rfl | rfl
      · exact h3
      · exact h4
      · exact h5⟩) hX.out (by simp [list3])
  have HA := hide HA
  clear hx
  go_enter Try.func22, Try.ntmps22
  go_wp2_with fail
  go_region
  all_goals go_wp2_with (go_at_call 41; go_must (refine (HA.out _ _ _ _ (by go_simp) (by go_simp) (by go_simp) (by go_simp) (by go_simp)).mono ?_); rintro e w' ⟨rfl, rfl⟩)
  go_ret
  exact ⟨rfl, accWorld_below ((((Below.refl _ _).alloc (Nat.le_refl _) _).alloc (by simp) _).alloc (by simp; omega) _).drew (by omega)⟩

/-- (*Pos).Whole. -/
theorem whole_calls (p : Nat) (F : Nat → Prop) (m : List (Key × Three)) (k : Key) (w : World) (h : PosAt w p F m) :
    Calls Try.prog 22 #[.pointer (some ⟨p, 0, none⟩), ekey k] w fun e w' => e = .returned (.int .i64 (posWhole m k)) ∧ Below w.heap.size w w' := by
  obtain ⟨mv, b, hb, hpl, hcell, hlook⟩ := h.lookup k
  exact whole_walk p b mv k.1 k.2 (posGet m k) w hcell hpl hb hlook (good_get h.2.2.1 k)

set_option maxHeartbeats 400000 in
theorem whole_nil (k : Key) (w : World) :
    Calls Try.prog 22 #[.pointer none, ekey k] w fun e w' => e = .returned (.int .i64 0) ∧ Below w.heap.size w w' := by
  unfold ekey
  go_enter Try.func22, Try.ntmps22
  go_wp2
  go_ret
  exact ⟨rfl, (Below.refl _ _).alloc (Nat.le_refl _) _⟩

/-- A row of keys that the call made, read. -/
theorem own_keys {w : World} {base : Nat} {v : Value} {ks : List Key} (h : w.ownsRow base 24 2 v ks.length (ks.flatMap kcells)) :
    ∃ A c, v = .slice A ks.length c ∧ (∀ i, i < ks.length → ∃ g, A = some ⟨g, 0, none⟩ ∧ base ≤ g ∧ g < w.heap.size ∧ v.ownBlock = some g) := by
  rcases h.2 with ⟨rfl, h0⟩ | ⟨g, cap, cur, rfl, hb, hg, _⟩
  · exact ⟨none, 0, by rw [h0], fun i hi => by omega⟩
  · exact ⟨some ⟨g, 0, none⟩, cap, rfl, fun i _ => ⟨g, rfl, hb, (Array.getElem?_eq_some_iff.1 hg).1, rfl⟩⟩
theorem own_key_cells {w : World} {base g : Nat} {v : Value} {ks : List Key} (h : w.ownsRow base 24 2 v ks.length (ks.flatMap kcells)) (hg : v.ownBlock = some g) {i : Nat} (hi : i < ks.length) :
    w.cell? ⟨g, i * 2, none⟩ = some (.string ks[i].1) ∧ w.cell? ⟨g, i * 2 + 1, none⟩ = some (.string ks[i].2) := by
  have hk : ks.toArray[i]! = ks[i] := by rw [getElem!_pos ks.toArray i (by simpa using hi)]; simp
  constructor
  · have := h.cells hg (i * 2) (.string ks[i].1) (by
      rw [flat_get kcells 2 kcells_len ks (i * 2) (by omega), show i * 2 / 2 = i by omega, show i * 2 % 2 = 0 by omega, hk]; rfl)
    rwa [Addr.add_lit, Nat.zero_add] at this
  · have := h.cells hg (i * 2 + 1) (.string ks[i].2) (by
      rw [flat_get kcells 2 kcells_len ks (i * 2 + 1) (by omega), show (i * 2 + 1) / 2 = i by omega, show (i * 2 + 1) % 2 = 1 by omega, hk]; rfl)
    rwa [Addr.add_lit, Nat.zero_add] at this
theorem own_types {w : World} {base base' : Nat} {e e' : TypeId} {s s' n n' : Nat} {v v' : Value} {xs xs' : List Value} (h : w.ownsRow base e s v n xs) (h' : w.ownsRow base' e' s' v' n' xs') (hne : e ≠ e') {g : Nat} (hg : v.ownBlock = some g) : v'.ownBlock ≠ some g := by
  intro hg'
  rcases h.2 with ⟨rfl, _⟩ | ⟨b, cap, cur, rfl, _, hb, _⟩
  · simp [Value.ownBlock] at hg
  · rcases h'.2 with ⟨rfl, _⟩ | ⟨b', cap', cur', rfl, _, hb', _⟩
    · simp [Value.ownBlock] at hg'
    · simp [Value.ownBlock] at hg hg'
      subst hg; subst hg'
      rw [hb] at hb'
      simp at hb'
      exact hne hb'.2
def ints (xs : List Int) : List Value := xs.map (.int .i64)
theorem own_ints {w : World} {base : Nat} {v : Value} {xs : List Int} (h : w.ownsRow base 3 1 v xs.length (ints xs)) : ∃ A c, v = .slice A xs.length c ∧ IntsAt w w.heap.size A xs := by
  have hc := fun g (hg : v.ownBlock = some g) => h.cells hg
  rcases h.2 with ⟨rfl, h0⟩ | ⟨g, cap, cur, rfl, hb, hg, _⟩
  · exact ⟨none, 0, by rw [h0], fun hn => by omega⟩
  · refine ⟨some ⟨g, 0, none⟩, cap, rfl, fun _ => ⟨g, 0, rfl, (Array.getElem?_eq_some_iff.1 hg).1, fun i hi => ?_⟩⟩
    have := hc g rfl i (.int .i64 (xs.getD i 0)) (by
      simp [ints, List.getD_eq_getElem?_getD, List.getElem?_eq_getElem hi])
    rwa [Addr.add_lit] at this
theorem intInfo : (Try.prog.info? 3).map (fun i => (i.zero, i.size, i.bytes)) = some (some (.int .i64 0), 1, 8) := by kernel_rfl

/-- What the round of Total keeps. -/
def TotalRel (w : World) (m : List (Key × Three)) (ks : List Key) (vk va : Value) (k : Nat) (wr : World) : Prop :=
  ∃ xs : List Int, wr.ownsRow w.heap.size 3 1 va xs.length (ints xs) ∧ xs = (ks.take k).flatMap (fun k => list3 (posGet m k)) ∧ xs.length = 3 * k ∧
    wr.ownsRow w.heap.size 24 2 vk ks.length (ks.flatMap kcells) ∧ Below w.heap.size w wr
def TotalPost (w : World) (r : Int) (e : Ending) (w' : World) : Prop := e = .returned (.int .i64 r) ∧ Below w.heap.size w w'

theorem total_step {w wr w1 w2 : World} {m : List (Key × Three)} {ks : List Key} {vk va va' : Value} {k : Nat} {xs : List Int} {x y z : Int} (hk : k < ks.length)
    (hxs : xs = (ks.take k).flatMap (fun k => list3 (posGet m k))) (hlen : xs.length = 3 * k) (hkeys : wr.ownsRow w.heap.size 24 2 vk ks.length (ks.flatMap kcells)) (hall : wr.ownsRow w.heap.size 3 1 va xs.length (ints xs))
    (hb : Below w.heap.size w wr) (hf : Frm None wr w1) (hx : posGet m ks[k] = (x, y, z)) (ho : w2.ownsRow w.heap.size 3 1 va' (xs.length + 3) (ints xs ++ [.int .i64 x, .int .i64 y, .int .i64 z])) (hg : w1.grownBy w2 va.ownBlock) :
    TotalRel w m ks vk va' (k + 1) w2 := by
  have h1 : Frm (fun j => va.ownBlock = some j) wr w2 := (hf.mono (S' := fun j => va.ownBlock = some j) (fun j hj => hj.elim)).grown hg (fun j hj => .inl hj)
  refine ⟨xs ++ [x, y, z], by simpa [ints] using ho, ?_, by simp [hlen]; omega, own_frm hkeys h1 (fun g hg2 hg1 => own_types hall hkeys (by decide) hg1 hg2), hb.trans (h1.below hb.size fun j hj => (hall.lt j hj).1)⟩
  rw [List.take_succ_eq_append_getElem hk, List.flatMap_append, ← hxs]
  simp [hx, list3]

set_option maxHeartbeats 2000000 in
set_option maxRecDepth 100000 in
theorem total_walk (p b : Nat) (mv : Value) (F : Nat → Prop) (m : List (Key × Three)) (a : ByteArray) (w : World) (hpos : PosAt w p F m) (hm : m.length ≤ 1099511627776) (hpl : p < w.heap.size) (hbl : b < w.heap.size)
    (hp : w.cell? ⟨p, 0, none⟩ = some mv) (hlook : ∀ k : Key, ∀ W : World, objAt W b = objAt w b → (Instr.lookup 72 mv (ekey k) false).run Try.prog W = .ok (eval3 (posGet m k)) W) :
    Calls Try.prog 21 #[.pointer (some ⟨p, 0, none⟩), .string a] w (TotalPost w (posTotal m a)) := by
  obtain ⟨i0, hi, hz0, hz1, hz2⟩ := info_parts intInfo
  have HLK := hide hlook
  have HG := hide (good_get hpos.2.2.1)
  have hks : (posKeys m [a]).length ≤ 1099511627776 := Nat.le_trans (posKeys_length m [a]) hm
  have HKC : Hid (Calls Try.prog 18 #[.pointer (some ⟨p, 0, none⟩), .slice (some ⟨w.heap.size, 0, none⟩) 1 1] (w.alloc (.cells #[.string a] 9)) fun e w' => ∃ v, e = .returned v ∧ w'.ownsRow w.heap.size 24 2 v (posKeys m [a]).length ((posKeys m [a]).flatMap kcells) ∧ Below w.heap.size w w') := by
    have h1 : PosAt (w.alloc (.cells #[.string a] 9)) p F m := hpos.below ((Below.refl _ _).alloc (Nat.le_refl _) _)
    have := keys_calls p F m (some ⟨w.heap.size, 0, none⟩) 1 [a] _ h1 hm (fun _ => ⟨w.heap.size, 0, rfl, by simp, fun i hi => by
      have : i = 0 := by simp at hi; omega
      subst this
      simp⟩) (by simp)
    refine this.mono fun e w' ⟨v, h2, h3, h4⟩ => ⟨v, h2, ?_, ((Below.refl _ _).alloc (Nat.le_refl _) _).trans (h4.mono (by simp))⟩
    refine ⟨h3.1, h3.2.imp id ?_⟩
    rintro ⟨g, cap, cur, hv, hg, r⟩
    exact ⟨g, cap, cur, hv, Nat.le_trans (by simp) hg, r⟩
  have hfin : ∀ (xs : List Int), xs = ((posKeys m [a]).take (posKeys m [a]).length).flatMap (fun k => list3 (posGet m k)) → accAdd xs = posTotal m a := fun xs hx => by
    rw [hx, List.take_length]; rfl
  have HFIN := hide hfin
  have hgood : ∀ (k : Nat) (xs : List Int), xs = ((posKeys m [a]).take k).flatMap (fun k => list3 (posGet m k)) → ∀ v ∈ xs, isI64 v := fun k xs hx v hv => by
    rw [hx, List.mem_flatMap] at hv
    obtain ⟨q, _, hq⟩ := hv
    exact good_list3 (HG.out q) v hq
  have HGOOD := hide hgood
  clear hlook hfin hgood hpos hm
  generalize posTotal m a = total at HFIN ⊢
  generalize posKeys m [a] = ks at *
  go_enter Try.func21, Try.ntmps21
  go_wp2_with (go_at_call 18; refine HKC.out.mono ?_; rintro e w' ⟨vk, rfl, hkown, hkb⟩; obtain ⟨A, cap, rfl, hAA⟩ := own_keys hkown; have HKO := hide hkown; have HKB := hide hkb; have HAA := hide hAA; clear hkown hkb hAA; generalize hnn : ks.length = n at *; have HN := hide hnn; clear hnn)
  obtain ⟨wo, rfl⟩ : ∃ wo : World, wo = w' := ⟨_, rfl⟩
  have HKO' : Hid (wo.ownsRow w.heap.size 24 2 (.slice A n cap) ks.length (ks.flatMap kcells)) := by have := HKO.out; rw [← HN.out] at this ⊢; exact this
  go_loopw [5, 15] (fun va i wr => ∃ k : Nat, k ≤ n ∧ i = .int .i64 k ∧ TotalRel w m ks (.slice A n cap) va k wr) (fun _ i _ => n - (intOf i).toNat)
  case atStart => exact ⟨0, Nat.zero_le _, rfl, [], World.ownsRow_nil _ _ _ _, by simp, rfl, HKO'.out, HKB.out⟩
  case round =>
    obtain ⟨k, hk, rfl, hrel⟩ := hrel
    obtain ⟨xs, hall, hxs, hlen, hkeys, hbel⟩ := hrel
    by_cases hlt : k < n
    · have hlt' : k < ks.length := by rw [HN.out]; exact hlt
      obtain ⟨g, rfl, hg1, hg2, hg3⟩ := HAA.out k hlt
      have hcells := own_key_cells hkeys hg3 hlt'
      have hc1 := hcells.1
      have hc2 := hcells.2
      have hgd := HG.out ks[k]
      have hlook := HLK.out ks[k]
      have hob : objAt wr b = objAt w b := hbel.block b hbl
      have hlook' : ∀ W : World, objAt W b = objAt wr b → (Instr.lookup 72 mv (.agg #[.string ks[k].1, .string ks[k].2]) false).run Try.prog W = .ok (eval3 (posGet m ks[k])) W := fun W hW => hlook W (hW.trans hob)
      have hst := fun (w1 w2 : World) (va' : Value) (x y z : Int) => total_step (m := m) (w1 := w1) (w2 := w2) (va' := va') (x := x) (y := y) (z := z) hlt' hxs hlen hkeys hall hbel
      have HST := hide hst
      have hpc : wr.cell? ⟨p, 0, none⟩ = some mv := (hbel.cell (p := ⟨p, 0, none⟩) hpl).trans hp
      have hp0 : p < wr.heap.size := by have := hbel.size; omega
      have hb0 : b < wr.heap.size := by have := hbel.size; omega
      have hg0 : g < wr.heap.size := by have := hkeys.lt g hg3; omega
      have hwl := hbel.size
      have hbound : xs.length ≤ 3298534883328 := by rw [hlen]; have := HN.out; omega
      have HALL := hide hall
      clear hst hcells hlook hob hxs hkeys hbel hall hlen hg3
      generalize ks[k] = kk at *
      clear hlt'
      obtain ⟨k1, k2⟩ := kk
      generalize hq : posGet m (k1, k2) = q at *
      obtain ⟨x, y, z⟩ := q
      have HQ := hide hq
      simp only [eval3] at hlook'
      clear hq hgd
      have p1 : p < wr.heap.size + 1 := by omega
      have p2 : p < wr.heap.size + 1 + 1 := by omega
      have b1 : b < wr.heap.size + 1 := by omega
      have b2 : b < wr.heap.size + 1 + 1 := by omega
      go_wp2_with fail
      go_region
      all_goals go_wp2_with (at_builtin; refine wpList_append_own _ rfl (.tmp 25) (.tmp 26) _ rfl w.heap.size 3 i0 _ 1 8 Try.underlying82 hi hz0 hz1 hz2 rfl (by decide) u5 xs.length (ints xs) rfl ((HALL.out.alloc _).alloc _) ⟨wr.heap.size + 1, 0, none⟩ 3 3 [.int .i64 x, .int .i64 y, .int .i64 z] rfl rfl (new_cells (wr.alloc _) _ _ _ (by simp)) (by intro u hu; simp at hu; rcases hu with rfl | rfl | rfl <;> rfl) (by unfold maxLen; omega) (by omega) (by simp; omega) ?_; intro v2 w2 hown2 hgrow2 _; have HO2 := hide hown2; have HG2 := hide hgrow2; clear hown2 hgrow2)
      go_roundw
      case rel => exact ⟨k + 1, by omega, by go_num, HST.out _ w2 v2 x y z ((((Frm.refl None wr).alloc _).alloc _).drew) rfl HO2.out HG2.out⟩
      case measure => simp [intOf]; omega
    · have hkn : k = n := by omega
      subst hkn
      have HF := hide (HFIN.out xs hxs)
      have HGD := hide (HGOOD.out k xs hxs)
      have hbound : xs.length ≤ 3298534883328 := by rw [hlen]; omega
      have HBEL := hide hbel
      obtain ⟨A2, c2, rfl, hia⟩ := own_ints hall
      have hwl := hbel.size
      have HIA := hide hia
      have hcon : ∀ W : World, W.cell? ⟨wr.heap.size, 0, none⟩ = some (.bool false) → W.frozen? ⟨wr.heap.size, 0, none⟩ = false → Below wr.heap.size wr W → Calls Try.prog 41 #[.pointer (some ⟨wr.heap.size, 0, none⟩), .slice A2 xs.length c2] W fun e w' => e = .returned (.int .i64 (accAdd xs)) ∧ w' = accWorld W wr.heap.size xs := fun W h1 h2 h3 =>
        accAdd_calls wr.heap.size A2 c2 wr.heap.size false xs W h1 h2 (fun hn => by
          obtain ⟨g, off, e1, e2, e3⟩ := HIA.out hn
          exact ⟨g, off, e1, e2, fun i hi => (h3.cell (p := ⟨g, off + i, none⟩) e2).trans (e3 i hi)⟩) HGD.out (by omega)
      have HC := hide hcon
      clear hxs hlen hkeys hbel hall hia hcon hbound
      generalize accAdd xs = r at *
      generalize xs.length = nx at *
      go_wp2_with (go_at_call 41; go_must (refine (HC.out _ (by go_simp) (by go_simp) ((Below.refl _ _).alloc (Nat.le_refl _) _)).mono ?_); rintro e w' ⟨rfl, rfl⟩)
      go_ret
      exact ⟨ret_i HF.out, accWorld_below (HBEL.out.alloc hwl _) hwl⟩

/-- (*Pos).Total. -/
theorem total_calls (p : Nat) (F : Nat → Prop) (m : List (Key × Three)) (a : ByteArray) (w : World) (h : PosAt w p F m) (hm : m.length ≤ 1099511627776) :
    Calls Try.prog 21 #[.pointer (some ⟨p, 0, none⟩), .string a] w fun e w' => e = .returned (.int .i64 (posTotal m a)) ∧ Below w.heap.size w w' := by
  have h0 := h
  obtain ⟨hF, hlt, hg, hcase⟩ := h
  rcases hcase with ⟨h5, rfl⟩ | ⟨b, hbp, hb2, hb3, hb4⟩
  · exact total_walk p p (.map none) F [] a w h0 hm (hlt p hF) (hlt p hF) (cell_of_obj h5).1 (fun k W _ => pos_look_nil k W)
  · exact total_walk p b (.map (some b)) F m a w h0 hm (hlt p hF) (hlt b hb2) (cell_of_obj hb3).1 (fun k => pos_look hb4 k)
end Go.Proofs.Ytmhmjbggjbeikaa
