/- Chapter 11: wrong, look, Try. -/
import Derived.Test.YtmhmjbggjbeikaaNets
import Derived.Test.YtmhmjbggjbeikaaPost3
import Derived.Test.YtmhmjbggjbeikaaLed5
namespace Go.Proofs.Ytmhmjbggjbeikaa
set_option linter.unusedSimpArgs false
set_option linter.unusedVariables false
open Go.RowKit
attribute [local go_sem] objAt_alloc objAt_alloc_at objAt_drew objAt_drewN objAt_setCell comesTo_value comesTo_enter

/-! ### plain -/
def netErrOf (L : Led) (n : PNet) : Int := netErr (posPart L.m n.k n.sub) n.sub n.by_ n.over (isBlk L.blk n.k)
def firstErr (L : Led) : List PNet → Int
  | [] => 0
  | n :: r => if netErrOf L n = 0 then firstErr L r else netErrOf L n
def lookErr (L : Led) (l : List PPost) : Int :=
  if 600 < l.length then 2 else if (∃ p ∈ l, ¬ okPost p) ∨ evenB l = false then 1 else firstErr L (netsB l)
theorem firstErr_drop (L : Led) {l : List PNet} {k : Nat} {x : PNet} (h : l[k]? = some x) : firstErr L (l.drop k) = if netErrOf L x = 0 then firstErr L (l.drop (k + 1)) else netErrOf L x := by
  obtain ⟨hk, rfl⟩ := List.getElem?_eq_some_iff.1 h
  rw [List.drop_eq_getElem_cons hk, firstErr]
theorem accAdd_within (xs : List Int) : within (accAdd xs) := by
  unfold accAdd
  split
  · rename_i h; exact h
  · split <;> (unfold within; omega)
theorem nets_within {l : List PPost} {x : PNet} (h : x ∈ netsB l) : within x.by_ := by
  obtain ⟨q, _, rfl⟩ := List.mem_map.1 h
  exact accAdd_within _
theorem posPart_ok {m : List (Key × Three)} (h : GoodPos m) (k : Key) (sub : Int) : 0 ≤ posPart m k sub ∧ posPart m k sub ≤ 1152921504606846976 := by
  have hg := good_get h k
  obtain ⟨⟨a1, a2⟩, ⟨b1, b2⟩, ⟨c1, c2⟩⟩ := hg
  unfold posPart part3
  split
  · split
    · omega
    · split <;> omega
  · omega
theorem netsB_length (l : List PPost) : (netsB l).length ≤ l.length := by
  unfold netsB partsB
  rw [List.length_map, (sortP_perm _).length_eq, List.length_map]
  exact groups_length _ _ l

/-! ### the walks -/
/-- (*Ledger).wrong. -/
theorem wrong_calls (g p : Nat) (F : Nat → Prop) (L : Led) (x : PNet) (w : World) (h : LedAt w g p F L) (hx : within x.by_) :
    Calls Try.prog 62 #[.pointer (some ⟨g, 0, none⟩), .agg #[.string x.k.1, .string x.k.2, .int .i64 x.sub, .int .i64 x.by_, .bool x.over]] w fun e w' => e = .returned (.int .i64 (netErrOf L x)) ∧ Below w.heap.size w w' := by
  have h' := h
  obtain ⟨Fp, im, bm, h1, h2, h3, h4, h5, h6, h7, h8, h9, h10⟩ := h
  obtain ⟨c0, _⟩ := led_cells h1
  have hv := posPart_ok h2.2.2.1 x.k x.sub
  exact wrong_walk g p x.k.1 x.k.2 x.sub x.by_ _ x.over _ w (h9 g h5) c0 hv.1 hv.2 hx.1 hx.2 (fun W hW => part_calls p Fp L.m x.k x.sub W (h2.below hW)) (fun W hW => blocked_calls g p F L x.k.1 x.k.2 W (h'.below hW))

/-- A row of nets that the call made, read. -/
def NetsIn (A : Option Addr) (l : List PNet) (B : Nat) (w : World) : Prop :=
  ∀ (i : Nat) (x : PNet), l[i]? = some x → ∃ g, A = some ⟨g, 0, none⟩ ∧ B ≤ g ∧ g < w.heap.size ∧ w.cell? ⟨g, i * 5, none⟩ = some (.string x.k.1) ∧ w.cell? ⟨g, i * 5 + 1, none⟩ = some (.string x.k.2) ∧ w.cell? ⟨g, i * 5 + 2, none⟩ = some (.int .i64 x.sub) ∧ w.cell? ⟨g, i * 5 + 3, none⟩ = some (.int .i64 x.by_) ∧ w.cell? ⟨g, i * 5 + 4, none⟩ = some (.bool x.over)
theorem netsIn_own {w : World} {B : Nat} {v : Value} {l : List PNet} (h : w.ownsRow B 94 5 v l.length (l.flatMap ncells)) : ∃ A c, v = .slice A l.length c ∧ NetsIn A l B w := by
  have hc := fun g (hg : v.ownBlock = some g) => h.cells hg
  rcases h.2 with ⟨rfl, h0⟩ | ⟨g, cap, cur, rfl, hb, hg, _⟩
  · exact ⟨none, 0, by rw [h0], fun i x hx => by
      rw [List.eq_nil_of_length_eq_zero h0] at hx
      simp at hx⟩
  · refine ⟨some ⟨g, 0, none⟩, cap, rfl, fun i x hx => ?_⟩
    obtain ⟨hi, rfl⟩ := List.getElem?_eq_some_iff.1 hx
    have hk : l.toArray[i]! = l[i] := by rw [getElem!_pos l.toArray i (by simpa using hi)]; simp
    have cell : ∀ j u, j < 5 → (ncells l[i])[j]? = some u → w.cell? ⟨g, i * 5 + j, none⟩ = some u := fun j u hj hu => by
      have := hc g rfl (i * 5 + j) u (by
        rw [flat_get ncells 5 ncells_len l (i * 5 + j) (by omega), show (i * 5 + j) / 5 = i by omega, show (i * 5 + j) % 5 = j by omega, hk]
        exact hu)
      rwa [Addr.add_lit, Nat.zero_add] at this
    exact ⟨g, rfl, hb, (Array.getElem?_eq_some_iff.1 hg).1, by simpa using cell 0 _ (by decide) rfl, cell 1 _ (by decide) rfl, cell 2 _ (by decide) rfl, cell 3 _ (by decide) rfl, cell 4 _ (by decide) rfl⟩
theorem NetsIn.keep {A : Option Addr} {l : List PNet} {B : Nat} {w W : World} (h : NetsIn A l B w) (hb : ∀ g, A = some ⟨g, 0, none⟩ → g < w.heap.size → W.heap[g]? = w.heap[g]? ∧ g < W.heap.size) : NetsIn A l B W := fun i x hx => by
  obtain ⟨g, h1, h2, h3, h4, h5, h6, h7, h8⟩ := h i x hx
  obtain ⟨e1, e2⟩ := hb g h1 h3
  have e : ∀ o, W.cell? ⟨g, o, none⟩ = w.cell? ⟨g, o, none⟩ := fun o => World.cell?_of_block (a := ⟨g, o, none⟩) e1
  exact ⟨g, h1, h2, e2, (e _).trans h4, (e _).trans h5, (e _).trans h6, (e _).trans h7, (e _).trans h8⟩
theorem NetsIn.below {A : Option Addr} {l : List PNet} {B : Nat} {w W : World} (h : NetsIn A l B w) (hb : Below w.heap.size w W) : NetsIn A l B W := h.keep fun g _ hg => ⟨hb.block g hg, Nat.lt_of_lt_of_le hg hb.size⟩

def LookPost (w : World) (L : Led) (l : List PPost) (e : Ending) (w' : World) : Prop :=
  ∃ v, e = .returned (.tuple #[v, .int .i64 (lookErr L l)]) ∧ (lookErr L l = 0 → ∃ A c, v = .slice A (netsB l).length c ∧ NetsIn A (netsB l) w.heap.size w') ∧ (lookErr L l ≠ 0 → v = .slice none 0 0) ∧ Below w.heap.size w w'

set_option maxHeartbeats 4000000 in
set_option maxRecDepth 100000 in
theorem look_calls (g p : Nat) (F : Nat → Prop) (L : Led) (a : Option Addr) (n c : Nat) (l : List PPost) (w : World) (hn : l.length = n) (hm : n ≤ 1099511627776) (h : LedAt w g p F L) (hp : PostsAt w a l) :
    Calls Try.prog 45 #[.pointer (some ⟨g, 0, none⟩), .slice a n c] w (LookPost w L l) := by
  have hgl : g < w.heap.size ∧ w.cell? ⟨g, 0, none⟩ = some (.pointer (some ⟨p, 0, none⟩)) := by
    obtain ⟨Fp, im, bm, h1, h2, h3, h4, h5, h6, h7, h8, h9, h10⟩ := h
    exact ⟨h9 g h5, (led_cells h1).1⟩
  obtain ⟨hg, h0⟩ := hgl
  have HL := hide h
  have HP := hide hp
  have HN := hide hn
  clear h hp hn
  by_cases hlong : 600 < n
  · have HE : Hid (lookErr L l = 2) := hide (by unfold lookErr; rw [if_pos (by rw [HN.out]; exact hlong)])
    go_enter Try.func45, Try.ntmps45
    go_wp2_with (go_at_call 42; refine (none_no g p _ h0).mono ?_; rintro e w' ⟨rfl, rfl⟩)
    go_ret2
    exact ⟨.slice none 0 0, by rw [HE.out]; rfl, fun e => by rw [HE.out] at e; omega, fun _ => rfl, Below.refl _ _⟩
  · have HCF := hide (containsBad_calls a n c l w HN.out hm HP.out)
    by_cases hbad : ∃ p ∈ l, ¬ okPost p
    · have HE : Hid (lookErr L l = 1) := hide (by unfold lookErr; rw [if_neg (by rw [HN.out]; exact hlong), if_pos (.inl hbad)])
      have hcf := HCF.out
      rw [decide_eq_true hbad] at hcf
      have HCF2 := hide hcf
      clear hcf HCF hbad
      go_enter Try.func45, Try.ntmps45
      go_wp2_with (first
        | (go_at_call 42; refine (none_no g p _ h0).mono ?_; rintro e w' ⟨rfl, rfl⟩)
        | (go_at_call 57; refine HCF2.out.mono ?_; rintro e w1 ⟨rfl, hb1⟩; have HB1 := hide hb1; clear hb1))
      go_ret2
      exact ⟨.slice none 0 0, by rw [HE.out]; rfl, fun e => by rw [HE.out] at e; omega, fun _ => rfl, HB1.out⟩
    · have hall : ∀ p ∈ l, okPost p := fun p hp => Classical.byContradiction fun hn => hbad ⟨p, hp, hn⟩
      have hcf := HCF.out
      rw [decide_eq_false hbad] at hcf
      have HCF2 := hide hcf
      have HEV : Hid (∀ W, Below w.heap.size w W → Calls Try.prog 60 #[.slice a n c] W fun e w' => e = .returned (.bool (evenB l)) ∧ Below W.heap.size W w') := hide fun W hW => even_calls a n c l W HN.out hm (HP.out.keep hW) (fun p hp => (hall p hp).2)
      have HNT : Hid (∀ W, Below w.heap.size w W → Calls Try.prog 61 #[.slice a n c] W (NetsPost W l)) := hide fun W hW => nets_calls a n c l W HN.out hm (HP.out.keep hW) (fun p hp => (hall p hp).2)
      have HBAD := hide hbad
      clear hcf HCF hbad hall
      cases hev : evenB l with
      | false =>
        have HE : Hid (lookErr L l = 1) := hide (by unfold lookErr; rw [if_neg (by rw [HN.out]; exact hlong), if_pos (.inr hev)])
        simp only [hev] at HEV
        clear hev HNT
        go_enter Try.func45, Try.ntmps45
        go_wp2_with (first
          | (go_at_call 42; refine (none_no g p _ h0).mono ?_; rintro e w' ⟨rfl, rfl⟩)
          | (go_at_call 57; refine HCF2.out.mono ?_; rintro e w1 ⟨rfl, hb1⟩; have HB1 := hide hb1; clear hb1)
          | (go_at_call 60; refine (HEV.out _ HB1.out).mono ?_; rintro e w2 ⟨rfl, hb2⟩; have HB2 := hide (HB1.out.trans (hb2.mono HB1.out.size)); clear hb2))
        go_ret2
        exact ⟨.slice none 0 0, by rw [HE.out]; rfl, fun e => by rw [HE.out] at e; omega, fun _ => rfl, HB2.out⟩
      | true =>
        have HE : Hid (lookErr L l = firstErr L (netsB l)) := hide (by
          unfold lookErr; rw [if_neg (by rw [HN.out]; exact hlong), if_neg]
          rintro (h | h)
          · exact HBAD.out h
          · rw [hev] at h; cases h)
        simp only [hev] at HEV
        clear hev
        go_enter Try.func45, Try.ntmps45
        go_wp2_with (first
          | (go_at_call 42; refine (none_no g p _ h0).mono ?_; rintro e w' ⟨rfl, rfl⟩)
          | (go_at_call 57; refine HCF2.out.mono ?_; rintro e w1 ⟨rfl, hb1⟩; have HB1 := hide hb1; clear hb1)
          | (go_at_call 60; refine (HEV.out _ HB1.out).mono ?_; rintro e w2 ⟨rfl, hb2⟩; have HB2 := hide (HB1.out.trans (hb2.mono HB1.out.size)); clear hb2)
          | (go_at_call 61; refine (HNT.out _ HB2.out).mono ?_; rintro e w3 ⟨v3, rfl, ho3, hb3⟩; obtain ⟨A, cap, rfl, hin⟩ := netsIn_own ho3; have HB3 := hide (HB2.out.trans (hb3.mono HB2.out.size)); have HIN := hide hin; clear hb3 ho3 hin; generalize hnn : (netsB l).length = m at *; have HM := hide hnn; clear hnn; have hml : m ≤ n := (by rw [← HM.out, ← HN.out]; exact netsB_length l)))
        go_loopw [29] (fun i wr => ∃ k : Nat, k ≤ m ∧ i = .int .i64 k ∧ Hid (firstErr L (netsB l) = firstErr L ((netsB l).drop k)) ∧ Hid (Below w3.heap.size w3 wr)) (fun i _ => m - (intOf i).toNat)
        case atStart => exact ⟨0, by omega, rfl, rfl, Below.refl _ _⟩
        case round =>
          obtain ⟨k, hk, rfl, hfe, hbr⟩ := hrel
          have HBW := hide (HB3.out.trans (hbr.out.mono HB3.out.size))
          by_cases hlt : k < m
          · obtain ⟨x, hx⟩ : ∃ x, (netsB l)[k]? = some x := ⟨(netsB l)[k]'(by have := HM.out; omega), List.getElem?_eq_getElem (by have := HM.out; omega)⟩
            obtain ⟨gb, hA, _, hgb, d1, d2, d3, d4, d5⟩ := (HIN.out.below hbr.out) k x hx
            have HWR := hide (fun W hW => wrong_calls g p F L x W (HL.out.below hW) (nets_within (List.mem_of_getElem? hx)))
            have HFD := hide (firstErr_drop L hx)
            clear hx
            obtain ⟨⟨x1, x2⟩, x3, x4, x5⟩ := x
            subst hA
            have HB9 : Hid (Below w.heap.size w (wr.alloc (.cells #[.string x1, .string x2, .int .i64 x3, .int .i64 x4, .bool x5] 94))) := hide (HBW.out.alloc HBW.out.size _)
            have HB8 : Hid (∀ W, Below (wr.heap.size + 1) (wr.alloc (.cells #[.string x1, .string x2, .int .i64 x3, .int .i64 x4, .bool x5] 94)) W → Below w3.heap.size w3 W) := hide fun W hW => (hbr.out.alloc hbr.out.size _).trans (hW.mono (by have := hbr.out.size; omega))
            have hs9 : wr.heap.size + 1 = (wr.alloc (.cells #[.string x1, .string x2, .int .i64 x3, .int .i64 x4, .bool x5] 94)).heap.size := by simp
            have HS9 := hide hs9
            clear hs9
            by_cases hz : netErrOf L ⟨(x1, x2), x3, x4, x5⟩ = 0
            · have hwr := HWR.out
              have hfd := HFD.out
              rw [if_pos hz] at hfd
              rw [hz] at hwr
              have HN2 : Hid (firstErr L (netsB l) = firstErr L ((netsB l).drop (k + 1))) := hfe.out.trans hfd
              have HWR2 := hide hwr
              clear hz hwr hfd HWR HFD
              go_wp2_with (go_at_call 62; refine (HWR2.out _ HB9.out).mono ?_; rintro e w5 ⟨rfl, hb5⟩; have HB5 := hide hb5; clear hb5)
              exact ⟨⟨k + 1, by omega, by go_num, HN2, hide (HB8.out _ (by rw [HS9.out]; exact HB5.out))⟩, by simp [intOf]; omega⟩
            · have hfd := HFD.out
              rw [if_neg hz] at hfd
              have HN2 : Hid (lookErr L l = netErrOf L ⟨(x1, x2), x3, x4, x5⟩) := hide (HE.out.trans (hfe.out.trans hfd))
              have hz2 : (netErrOf L ⟨(x1, x2), x3, x4, x5⟩ != 0) = true := by simpa using hz
              have HZ := hide hz
              clear hz hfd HFD
              generalize netErrOf L ⟨(x1, x2), x3, x4, x5⟩ = r at *
              go_wp2_with (go_at_call 62; refine (HWR.out _ HB9.out).mono ?_; rintro e w5 ⟨rfl, hb5⟩; have HB5 := hide hb5; clear hb5)
              go_ret2
              exact ⟨.slice none 0 0, by rw [HN2.out]; rfl, fun e => absurd (HN2.out.symm.trans e) HZ.out, fun _ => rfl, HB3.out.trans ((HB8.out _ (by rw [HS9.out]; exact HB5.out)).mono HB3.out.size)⟩
          · have hkm : k = m := by omega
            subst hkm
            have HZ : Hid (lookErr L l = 0) := hide (by
              rw [HE.out, hfe.out, List.drop_eq_nil_of_le (by have := HM.out; omega)]
              rfl)
            go_wp2_with fail
            go_ret2
            exact ⟨.slice A k cap, by rw [HZ.out]; rfl, fun _ => ⟨A, cap, by rw [HM.out], fun i x hx => by
              obtain ⟨gb, h1, h2, h3⟩ := (HIN.out.below hbr.out) i x hx
              exact ⟨gb, h1, Nat.le_trans HB2.out.size h2, h3⟩⟩, fun e => absurd HZ.out e, HBW.out⟩
end Go.Proofs.Ytmhmjbggjbeikaa
