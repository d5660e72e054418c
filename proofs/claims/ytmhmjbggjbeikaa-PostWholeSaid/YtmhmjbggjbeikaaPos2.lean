/- Positions: the contract of Add. -/
import Derived.Test.YtmhmjbggjbeikaaPos1
namespace Go.Proofs.Ytmhmjbggjbeikaa
open Go.RowKit

theorem run_zero3 (w : World) : (zeroValue 76).run Try.prog w = .ok (eval3 (0, 0, 0)) w := by kernel_rfl

/-- What a look-up among positions comes to, in every world in which the map's block is as it is. -/
theorem pos_look {w : World} {b : Nat} {m : List (Key × Three)} (h : MapB ekey eval3 w b m) (k : Key) :
    ∀ W : World, objAt W b = objAt w b → (Instr.lookup 72 (.map (some b)) (ekey k) false).run Try.prog W = .ok (eval3 (posGet m k)) W := fun W hW => by
  have := (h.keep hW).lookup (P := Try.prog) keyT Try.underlying72 (run_zero3 W) false k
  rw [this]
  unfold posGet
  cases look m k <;> rfl

theorem pos_look_nil (k : Key) : ∀ W : World, (Instr.lookup 72 (.map none) (ekey k) false).run Try.prog W = .ok (eval3 (0, 0, 0)) W := fun W =>
  nil_lookup (P := Try.prog) keyT Try.underlying72 (run_zero3 W) false k

theorem good_put {m : List (Key × Three)} (h : GoodPos m) {k : Key} {v : Three} (hv : Good3 v) (h0 : v ≠ (0, 0, 0)) : GoodPos (put m k v) := by
  intro p hp
  induction m with
  | nil => simp [put] at hp; subst hp; exact ⟨hv, h0⟩
  | cons q r ih =>
    unfold put at hp
    split at hp
    · rcases List.mem_cons.1 hp with rfl | hp
      · exact ⟨hv, h0⟩
      · exact h p (List.mem_cons_of_mem _ hp)
    · rcases List.mem_cons.1 hp with rfl | hp
      · exact h _ List.mem_cons_self
      · exact ih (fun p hp => h p (List.mem_cons_of_mem _ hp)) hp
theorem good_del {m : List (Key × Three)} (h : GoodPos m) (k : Key) : GoodPos (del m k) := fun p hp => h p (List.mem_filter.1 hp).1
theorem good_set3 {x : Three} (h : Good3 x) {sub v : Int} (hv : okPart v) : Good3 (set3 x sub v) := by
  unfold set3
  split
  · exact ⟨hv, h.2⟩
  · split
    · exact ⟨h.1, hv, h.2.2⟩
    · exact ⟨h.1, h.2.1, hv⟩

theorem cell_of_obj {w : World} {p : Nat} {v : Value} {t : TypeId} (h : w.heap[p]? = some (.cells #[v] t (0, 0))) : w.cell? ⟨p, 0, none⟩ = some v ∧ w.frozen? ⟨p, 0, none⟩ = false := by
  constructor <;> simp [World.cell?, World.frozen?, h]

/-- A Pos stays what it is where its blocks do. -/
theorem PosAt.frm {w w' : World} {p : Nat} {F S : Nat → Prop} {m : List (Key × Three)} (h : PosAt w p F m) (hf : Frm S w w') (hs : ∀ j, F j → ¬ S j) : PosAt w' p F m := by
  obtain ⟨h1, h2, h3, h4⟩ := h
  refine ⟨h1, fun k hk => Nat.lt_of_lt_of_le (h2 k hk) hf.size, h3, ?_⟩
  rcases h4 with ⟨h5, h6⟩ | ⟨b, hb1, hb2, hb3, hb4⟩
  · exact .inl ⟨(hf.block p (h2 p h1) (hs p h1)).trans h5, h6⟩
  · exact .inr ⟨b, hb1, hb2, (hf.block p (h2 p h1) (hs p h1)).trans hb3, hb4.frm hf (hs b hb2)⟩
theorem PosAt.below {w w' : World} {p : Nat} {F : Nat → Prop} {m : List (Key × Three)} (h : PosAt w p F m) (hb : Below w.heap.size w w') : PosAt w' p F m :=
  h.frm (Frm.of_below (S := None) hb) (fun _ _ => id)

/-- (*Pos).Add. -/
theorem add_calls (p : Nat) (F : Nat → Prop) (m : List (Key × Three)) (k : Key) (sub by_ : Int) (w : World) (h : PosAt w p F m) :
    Calls Try.prog 16 #[.pointer (some ⟨p, 0, none⟩), ekey k, .int .i64 sub, .int .i64 by_] w fun e w' =>
      e = .returned (.int .i64 (addErr m k sub by_)) ∧ ∃ F', PosAt w' p F' (addMap m k sub by_) ∧ Frm F w w' ∧ ∀ j, F' j → F j ∨ w.heap.size ≤ j := by
  have hsame : ∀ w' : World, addErr m k sub by_ ≠ 0 → Below w.heap.size w w' → ∃ F', PosAt w' p F' (addMap m k sub by_) ∧ Frm F w w' ∧ ∀ j, F' j → F j ∨ w.heap.size ≤ j := fun w' he hb => by
    unfold addMap
    rw [if_pos he]
    exact ⟨F, h.below hb, Frm.of_below hb, fun _ => .inl⟩
  by_cases ha : isPart sub ∧ within by_
  · obtain ⟨ha1, ha2⟩ := ha
    have he : addErr m k sub by_ = if part3 (posGet m k) sub + by_ < 0 then 30 else if part3 (posGet m k) sub + by_ > 1152921504606846976 then 12 else 0 := by
      unfold addErr
      rw [if_neg (by simp [ha1, ha2])]
    have hgood := good_get h.2.2.1 k
    obtain ⟨hF, hlt, hg, hcase⟩ := h
    have hpl := hlt p hF
    -- what the look-up comes to, and the cell
    obtain ⟨mv, b, hb, hcell, hlook⟩ : ∃ mv b, b < w.heap.size ∧ w.heap[p]? = some (.cells #[mv] 74 (0, 0)) ∧ ∀ W : World, objAt W b = objAt w b → (Instr.lookup 72 mv (ekey k) false).run Try.prog W = .ok (eval3 (posGet m k)) W := by
      rcases hcase with ⟨h5, rfl⟩ | ⟨b, _, hb2, hb3, hb4⟩
      · exact ⟨.map none, p, hpl, h5, fun W _ => pos_look_nil k W⟩
      · exact ⟨.map (some b), b, hlt b hb2, hb3, pos_look hb4 k⟩
    by_cases h1 : part3 (posGet m k) sub + by_ < 0
    · rw [if_pos h1] at he
      rw [he]
      exact (add_low p b mv k.1 k.2 _ _ _ sub by_ w (cell_of_obj hcell).1 hpl hb hlook hgood.1 hgood.2.1 hgood.2.2 ha1 ha2 h1).mono fun e w' ⟨h2, h3⟩ => ⟨h2, hsame w' (by rw [he]; decide) h3⟩
    · rw [if_neg h1] at he
      by_cases h2 : part3 (posGet m k) sub + by_ > 1152921504606846976
      · rw [if_pos h2] at he
        rw [he]
        exact (add_over p b mv k.1 k.2 _ _ _ sub by_ w (cell_of_obj hcell).1 hpl hb hlook hgood.1 hgood.2.1 hgood.2.2 ha1 ha2 h2).mono fun e w' ⟨h2, h3⟩ => ⟨h2, hsame w' (by rw [he]; decide) h3⟩
      · rw [if_neg h2] at he
        rw [he]
        have hm : addMap m k sub by_ = if set3 (posGet m k) sub (part3 (posGet m k) sub + by_) = (0, 0, 0) then del m k else put m k (set3 (posGet m k) sub (part3 (posGet m k) sub + by_)) := by
          unfold addMap
          rw [if_neg (by rw [he]; decide)]
        have hset := good_set3 (sub := sub) hgood (v := part3 (posGet m k) sub + by_) ⟨by omega, by omega⟩
        rcases hcase with ⟨h5, rfl⟩ | ⟨b, hbp, hb2, hb3, hb4⟩
        · -- no map yet
          have hpg : posGet [] k = (0, 0, 0) := rfl
          rw [hpg] at h1 h2 hm hset
          have c := cell_of_obj h5
          have hmk : ∀ W : World, objAt W (w.heap.size + 1 + 1) = some (.map #[] 0) → MapB ekey eval3 W (w.heap.size + 1 + 1) [] := fun W hW => ⟨#[], 0, hW, by simp, by simp, by simp, apart_nil⟩
          -- the frame of the new world
          have fin : ∀ (upd : World → World) (m' : List (Key × Three)) (o1 o2 : Obj), (∀ W, objAt W (w.heap.size + 1 + 1) = some (.map #[] 0) → MapB ekey eval3 (upd W) (w.heap.size + 1 + 1) m' ∧ Frm (fun x => x = w.heap.size + 1 + 1) W (upd W)) → GoodPos m' →
              ∃ F', PosAt (upd ((((w.setCell ⟨p, 0, none⟩ (.map (some (w.heap.size + 1 + 1)))).alloc o1).alloc o2).alloc (.map #[] 0)).drew.drew) p F' m' ∧ Frm F w (upd ((((w.setCell ⟨p, 0, none⟩ (.map (some (w.heap.size + 1 + 1)))).alloc o1).alloc o2).alloc (.map #[] 0)).drew.drew) ∧ ∀ j, F' j → F j ∨ w.heap.size ≤ j := by
            intro upd m' o1 o2 hu hgm
            have f0 : Frm F w ((((w.setCell ⟨p, 0, none⟩ (.map (some (w.heap.size + 1 + 1)))).alloc o1).alloc o2).alloc (.map #[] 0)).drew.drew := ((((((Frm.refl F w).setCell (p := ⟨p, 0, none⟩) (.inl hF) _).alloc o1).alloc o2).alloc _).drew).drew
            have e0 : objAt ((((w.setCell ⟨p, 0, none⟩ (.map (some (w.heap.size + 1 + 1)))).alloc o1).alloc o2).alloc (.map #[] 0)).drew.drew (w.heap.size + 1 + 1) = some (.map #[] 0) := by
              rw [objAt_drew, objAt_drew, objAt_alloc_at _ _ _ (by simp)]
            have e1 : objAt ((((w.setCell ⟨p, 0, none⟩ (.map (some (w.heap.size + 1 + 1)))).alloc o1).alloc o2).alloc (.map #[] 0)).drew.drew p = some (.cells #[.map (some (w.heap.size + 1 + 1))] 74 (0, 0)) := by
              rw [objAt_drew, objAt_drew, objAt_alloc _ _ _ (by simp; omega), objAt_alloc _ _ _ (by simp; omega), objAt_alloc _ _ _ (by simp; omega)]
              simp [objAt, World.setCell, Array.getElem?_modify, h5]
            have s0 : ((((w.setCell ⟨p, 0, none⟩ (.map (some (w.heap.size + 1 + 1)))).alloc o1).alloc o2).alloc (.map #[] 0)).drew.drew.heap.size = w.heap.size + 3 := by simp
            revert f0 e0 e1 s0
            generalize ((((w.setCell ⟨p, 0, none⟩ (.map (some (w.heap.size + 1 + 1)))).alloc o1).alloc o2).alloc (.map #[] 0)).drew.drew = W0
            intro f0 e0 e1 s0
            obtain ⟨u1, u2⟩ := hu W0 e0
            have f1 := f0.trans u2 (fun j hj => .inr (by omega))
            refine ⟨fun j => F j ∨ j = w.heap.size + 1 + 1, ⟨.inl hF, fun j hj => ?_, hgm, .inr ⟨w.heap.size + 1 + 1, by omega, .inr rfl, (u2.block p (by omega) (by omega)).trans e1, u1⟩⟩, f1, fun j hj => hj.imp id (fun e => by omega)⟩
            have := u2.size
            rcases hj with hj | hj
            · have := hlt j hj; omega
            · omega
          by_cases h0 : set3 (0, 0, 0) sub (part3 (0, 0, 0) sub + by_) = (0, 0, 0)
          · rw [if_pos h0] at hm
            have hD := (hmk ((((w.alloc (.map #[] 0)).alloc (.map #[] 0)).alloc (.map #[] 0))) (by rw [objAt_alloc_at _ _ _ (by simp)])).delete_fn (P := Try.prog) keyT Try.underlying72 k 0 24
            obtain ⟨upd, hupd⟩ := hD
            have hu : ∀ W, objAt W (w.heap.size + 1 + 1) = some (.map #[] 0) → _ := fun W hW => hupd W (by rw [hW, objAt_alloc_at _ _ _ (by simp)])
            refine (add_zero_none p k.1 k.2 sub by_ w upd c.1 c.2 hpl (pos_look_nil k) (fun W hW => (hu W hW).1) ha1 ha2 h0).mono fun e w' ⟨h6, o1, o2, h7⟩ => ⟨h6, ?_⟩
            rw [h7, hm]
            exact fin upd (del [] k) o1 o2 (fun W hW => ⟨(hu W hW).2.1, (hu W hW).2.2.1⟩) (good_del hg k)
          · rw [if_neg h0] at hm
            have hD := (hmk ((((w.alloc (.map #[] 0)).alloc (.map #[] 0)).alloc (.map #[] 0))) (by rw [objAt_alloc_at _ _ _ (by simp)])).update_fn (P := Try.prog) keyT Try.underlying72 k (set3 (0, 0, 0) sub (part3 (0, 0, 0) sub + by_))
            obtain ⟨upd, hupd⟩ := hD
            have hu : ∀ W, objAt W (w.heap.size + 1 + 1) = some (.map #[] 0) → _ := fun W hW => hupd W (by rw [hW, objAt_alloc_at _ _ _ (by simp)])
            refine (add_none p k.1 k.2 sub by_ w upd c.1 c.2 hpl (pos_look_nil k) (fun W hW => (hu W hW).1) ha1 ha2 (by omega) (by omega) h0).mono fun e w' ⟨h6, o1, o2, h7⟩ => ⟨h6, ?_⟩
            rw [h7, hm]
            exact fin upd _ o1 o2 (fun W hW => ⟨(hu W hW).2.1, (hu W hW).2.2.1⟩) (good_put hg hset h0)
        · have c := cell_of_obj hb3
          have hbl := hlt b hb2
          have hlo : 0 ≤ part3 (posGet m k) sub + by_ := by omega
          have hhi : part3 (posGet m k) sub + by_ ≤ 1152921504606846976 := by omega
          have fin : ∀ (upd : World → World) (m' : List (Key × Three)) (o1 o2 : Obj), (∀ W, objAt W b = objAt w b → MapB ekey eval3 (upd W) b m' ∧ Frm (fun x => x = b) W (upd W)) → GoodPos m' →
              ∃ F', PosAt (upd ((w.alloc o1).alloc o2).drew.drew) p F' m' ∧ Frm F w (upd ((w.alloc o1).alloc o2).drew.drew) ∧ ∀ j, F' j → F j ∨ w.heap.size ≤ j := by
            intro upd m' o1 o2 hu hgm
            have f0 : Frm F w ((w.alloc o1).alloc o2).drew.drew := ((((Frm.refl F w).alloc o1).alloc o2).drew).drew
            have e0 : ∀ j, j < w.heap.size → objAt ((w.alloc o1).alloc o2).drew.drew j = objAt w j := fun j hj => by
              rw [objAt_drew, objAt_drew, objAt_alloc _ _ _ (by simp; omega), objAt_alloc _ _ _ hj]
            revert f0 e0
            generalize ((w.alloc o1).alloc o2).drew.drew = W0
            intro f0 e0
            obtain ⟨u1, u2⟩ := hu W0 (e0 b hbl)
            have hsz := f0.size
            have f1 := f0.trans u2 (fun j hj => .inl (by subst hj; exact hb2))
            refine ⟨F, ⟨hF, fun j hj => ?_, hgm, .inr ⟨b, hbp, hb2, (u2.block p (by omega) (fun e => hbp e.symm)).trans ((e0 p hpl).trans hb3), u1⟩⟩, f1, fun j hj => .inl hj⟩
            have := f1.size
            have := hlt j hj
            omega
          by_cases h0 : set3 (posGet m k) sub (part3 (posGet m k) sub + by_) = (0, 0, 0)
          · rw [if_pos h0] at hm
            obtain ⟨upd, hu⟩ := hb4.delete_fn (P := Try.prog) keyT Try.underlying72 k 0 24
            refine (add_zero_some p b k.1 k.2 _ _ _ sub by_ w upd c.1 hpl hbl (pos_look hb4 k) (fun W hW => (hu W hW).1) hgood.1 hgood.2.1 hgood.2.2 ha1 ha2 h0).mono fun e w' ⟨h6, o1, o2, h7⟩ => ⟨h6, ?_⟩
            rw [h7, hm]
            exact fin upd _ o1 o2 (fun W hW => ⟨(hu W hW).2.1, (hu W hW).2.2.1⟩) (good_del hg k)
          · rw [if_neg h0] at hm
            obtain ⟨upd, hu⟩ := hb4.update_fn (P := Try.prog) keyT Try.underlying72 k (set3 (posGet m k) sub (part3 (posGet m k) sub + by_))
            refine (add_some p b k.1 k.2 _ _ _ sub by_ w upd c.1 hpl hbl (pos_look hb4 k) (fun W hW => (hu W hW).1) hgood.1 hgood.2.1 hgood.2.2 ha1 ha2 hlo hhi h0).mono fun e w' ⟨h6, o1, o2, h7⟩ => ⟨h6, ?_⟩
            rw [h7, hm]
            exact fin upd _ o1 o2 (fun W hW => ⟨(hu W hW).2.1, (hu W hW).2.2.1⟩) (good_put hg hset h0)
  · have he : addErr m k sub by_ = 1 := by unfold addErr; rw [if_pos ha]
    rw [he]
    exact (add_refuse p k sub by_ w ha).mono fun e w' ⟨h1, h2⟩ => ⟨h1, hsame w' (by rw [he]; decide) h2⟩

end Go.Proofs.Ytmhmjbggjbeikaa
