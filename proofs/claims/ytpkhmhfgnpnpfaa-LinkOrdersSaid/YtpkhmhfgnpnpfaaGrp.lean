/- A map whose values are rows of the call's own ('m[k] = append(m[k], x)'); 'm[k] = ..' in two steps (mapEntry, entryStore). No program in sight. -/
import Derived.Test.YtpkhmhfgnpnpfaaCore
import Derived.WideKeyEntry
import Derived.Maps.AppendAt
namespace Go.Proofs.Ytpkhmhfgnpnpfaa
set_option linter.unusedSimpArgs false
set_option linter.unusedVariables false
open Go.RowKit
open Go.ChangeMaps (setBlock heap_setBlock_same heap_setBlock_other)

/-! ### rows of the call's own -/
theorem row_frm {w w' : World} {S : Nat → Prop} {base : Nat} {e : TypeId} {size n : Nat} {v : Value} {xs : List Value} (h : w.ownsRow base e size v n xs) (hf : Frm S w w') (hn : ∀ g, v.ownBlock = some g → ¬ S g) : w'.ownsRow base e size v n xs := by
  refine ⟨h.1, ?_⟩
  rcases h.2 with h2 | ⟨g, cap, cur, hv, hg, hh, r⟩
  · exact .inl h2
  · exact .inr ⟨g, cap, cur, hv, hg, (hf.block g (Array.getElem?_eq_some_iff.1 hh).1 (hn g (by rw [hv]; rfl))).trans hh, r⟩
theorem row_below {w w' : World} {base : Nat} {e : TypeId} {size n : Nat} {v : Value} {xs : List Value} (h : w.ownsRow base e size v n xs) (hb : Below w.heap.size w w') : w'.ownsRow base e size v n xs :=
  row_frm h (Frm.of_below (S := None) hb) (fun _ _ => id)
theorem row_not {w : World} {base : Nat} {e : TypeId} {size n : Nat} {v : Value} {xs : List Value} (h : w.ownsRow base e size v n xs) {r : Nat} (hr : ∀ c e f, w.heap[r]? ≠ some (.cells c e f)) : v.ownBlock ≠ some r := by
  rcases h.2 with ⟨rfl, _⟩ | ⟨g, cap, cur, rfl, _, hh, _⟩
  · simp [Value.ownBlock]
  · intro he
    have : g = r := by simpa [Value.ownBlock] using he
    subst this
    exact hr _ _ _ hh
theorem row_types {w : World} {base base' : Nat} {e e' : TypeId} {s s' n n' : Nat} {v v' : Value} {xs xs' : List Value} (h : w.ownsRow base e s v n xs) (h' : w.ownsRow base' e' s' v' n' xs') (hne : e ≠ e') {g : Nat} (hg : v.ownBlock = some g) : v'.ownBlock ≠ some g := by
  intro hg'
  rcases h.2 with ⟨rfl, _⟩ | ⟨b, cap, cur, rfl, _, hb, _⟩
  · simp [Value.ownBlock] at hg
  · rcases h'.2 with ⟨rfl, _⟩ | ⟨b', cap', cur', rfl, _, hb', _⟩
    · simp [Value.ownBlock] at hg'
    · simp [Value.ownBlock] at hg hg'
      subst hg; subst hg'
      rw [hb] at hb'
      simp at hb'
      exact hne hb'.2
theorem row_base {w : World} {base base' : Nat} {e : TypeId} {size n : Nat} {v : Value} {xs : List Value} (h : w.ownsRow base e size v n xs) (hb : ∀ g, v.ownBlock = some g → base' ≤ g) : w.ownsRow base' e size v n xs := by
  refine ⟨h.1, ?_⟩
  rcases h.2 with h2 | ⟨g, cap, cur, hv, hg, r⟩
  · exact .inl h2
  · exact .inr ⟨g, cap, cur, hv, hb g (by rw [hv]; rfl), r⟩
theorem MapB.notCells {κ ν : Type} {ek : κ → Value} {ev : ν → Value} {w : World} {b : Nat} {l : List (κ × ν)} (h : MapB ek ev w b l) : ∀ c e f, w.heap[b]? ≠ some (.cells c e f) := by
  obtain ⟨es, clock, hb, _⟩ := h
  intro c e f; rw [hb]; simp
theorem IterB.noCells {κ ν : Type} {ek : κ → Value} {ev : ν → Value} {w : World} {r b : Nat} {l left : List (κ × ν)} (h : IterB ek ev w r b l left) : ∀ c e f, w.heap[r]? ≠ some (.cells c e f) := by
  obtain ⟨es, clock, since, seen, c0, hb, _, _, _, _, hr, _⟩ := h
  intro c e f; rw [hr]; simp
theorem IterB.count {κ ν : Type} {ek : κ → Value} {ev : ν → Value} {w : World} {r b : Nat} {l left : List (κ × ν)} (h : IterB ek ev w r b l left) : w.rangeLeft b r = left.length := by
  obtain ⟨es, clock, since, seen, c0, hb, _, _, _, _, hr, _, _, _, hl, _⟩ := h
  simp only [World.rangeLeft, hb, hr]
  have := congrArg List.length hl
  simpa using this
theorem IterB.sub {κ ν : Type} {ek : κ → Value} {ev : ν → Value} {w : World} {r b : Nat} {l left : List (κ × ν)} (h : IterB ek ev w r b l left) : left.Sublist l := by
  obtain ⟨es, clock, since, seen, c0, _, _, _, _, _, _, _, _, _, _, hs⟩ := h
  exact hs

def goInts (xs : List Int) : List Value := xs.map (.int .i64)
theorem goInts_one (xs : List Int) : ∀ u ∈ goInts xs, u.oneCell' = true := by
  intro u hu
  obtain ⟨x, _, rfl⟩ := List.mem_map.1 hu
  rfl

/-! ### association lists, more -/
section
variable {κ ν : Type} [DecidableEq κ]
theorem mem_put {l : List (κ × ν)} (h : Apart l) {k : κ} {v : ν} {q : κ × ν} (hq : q ∈ put l k v) : q = (k, v) ∨ (q ∈ l ∧ q.1 ≠ k) := by
  induction l with
  | nil => simp [put] at hq; exact .inl hq
  | cons p r ih =>
    obtain ⟨h1, h2⟩ := List.nodup_cons.1 h
    unfold put at hq
    by_cases e : p.1 = k
    · rw [if_pos e] at hq
      rcases List.mem_cons.1 hq with hq | hq
      · exact .inl hq
      · refine .inr ⟨List.mem_cons_of_mem _ hq, fun e2 => h1 (List.mem_map.2 ⟨q, hq, e2.trans e.symm⟩)⟩
    · rw [if_neg e] at hq
      rcases List.mem_cons.1 hq with hq | hq
      · subst hq; exact .inr ⟨List.mem_cons_self, e⟩
      · rcases ih h2 hq with h3 | ⟨h3, h4⟩
        · exact .inl h3
        · exact .inr ⟨List.mem_cons_of_mem _ h3, h4⟩
theorem put_same {l : List (κ × ν)} {k : κ} {v : ν} (h : look l k = some v) : put l k v = l := by
  induction l with
  | nil => cases h
  | cons p r ih =>
    unfold look at h
    unfold put
    by_cases e : p.1 = k
    · rw [if_pos e] at h ⊢
      cases h
      rw [← e]
    · rw [if_neg e] at h ⊢
      rw [ih h]
theorem put_put (l : List (κ × ν)) (k : κ) (v v' : ν) : put (put l k v) k v' = put l k v' := by
  induction l with
  | nil => simp [put]
  | cons p r ih =>
    by_cases e : p.1 = k
    · simp [e, put]
    · simp only [put, if_neg e]
      rw [ih]
theorem put_map {ν' : Type} (f : ν → ν') (l : List (κ × ν)) (k : κ) (v : ν) : (put l k v).map (fun p => (p.1, f p.2)) = put (l.map fun p => (p.1, f p.2)) k (f v) := by
  induction l with
  | nil => rfl
  | cons p r ih =>
    unfold put
    by_cases e : p.1 = k
    · simp [e]
    · simp [e, ih]
theorem look_map {ν' : Type} (f : ν → ν') (l : List (κ × ν)) (k : κ) : look (l.map fun p => (p.1, f p.2)) k = (look l k).map f := by
  induction l with
  | nil => rfl
  | cons p r ih =>
    simp only [List.map_cons, look]
    by_cases e : p.1 = k
    · rw [if_pos e, if_pos e]; rfl
    · rw [if_neg e, if_neg e, ih]
end

/-! ### 'm[k] = v' in two steps -/
section
variable {κ ν : Type} {ek : κ → Value} {ev : ν → Value} {P : Program} {kt et t : TypeId} {w w' : World} {b : Nat} {l : List (κ × ν)}

/-- The entry at key k bears the stamp st. -/
def StampB (ek : κ → Value) (w : World) (b : Nat) (k : κ) (st : Nat) : Prop :=
  ∃ (es : Array MapEntry) (clock j : Nat) (e : MapEntry), w.heap[b]? = some (.map es clock) ∧ es[j]? = some e ∧ e.key = ek k ∧ e.born = st

theorem MapB.entry_all [DecidableEq κ] (h : MapB ek ev w b l) (K : KeyT P kt ek) (ht : P.underlying t = some (.map kt et)) (z : ν) (hz : ∀ u : World, (zeroValue et).run P u = .ok (ev z) u) (k : κ) :
    ∃ (st : Nat) (ent : World → World), ∀ W, objAt W b = objAt w b → (Instr.mapEntry t (.map (some b)) (ek k)).run P W = .ok (.tuple #[ev ((look l k).getD z), goInt st]) (ent W) ∧ MapB ek ev (ent W) b (put l k ((look l k).getD z)) ∧ StampB ek (ent W) b k st ∧ Frm (fun x => x = b) W (ent W) ∧ (ent W).heap.size = W.heap.size := by
  obtain ⟨es, clock, hb, hm, hc, hn, ha⟩ := h
  rcases K.find w k es.toList (map_keys hm) with ⟨h1, h2⟩ | ⟨j, e, h1, h2, h3, _⟩
  · have hab : ∀ p ∈ l, p.1 ≠ k := fun p hp e => by
      obtain ⟨i, hi⟩ := List.getElem?_of_mem hp
      obtain ⟨e', he', hk, _⟩ := map_get' hm i p hi
      exact h2 e' (List.mem_of_getElem? he') (by rw [hk, e])
    have hl : look l k = none := look_none.2 hab
    rw [hl]
    refine ⟨clock, fun W => setBlock W b (.map (es.push ⟨ek k, ev z, clock⟩) (clock + 1)), fun W hW => ?_⟩
    have hbW : W.heap[b]? = some (.map es clock) := Eq.trans hW hb
    refine ⟨?_, ⟨_, _, heap_setBlock_same hbW _, ?_, ?_, ?_, put_apart ha k _⟩, ⟨_, _, es.size, ⟨ek k, ev z, clock⟩, heap_setBlock_same hbW _, by simp, rfl, rfl⟩, (Frm.refl (fun x => x = b) W).setBlock_map hbW (.inl rfl) _, by simp [setBlock]⟩
    · rcases K.find W k es.toList (map_keys hm) with ⟨h1', _⟩ | ⟨j, e, _, h2', h3', _⟩
      · simp [Instr.mapEntry, run_underlying ht, MapKept.run_getObj_map hbW, K.check W false k, h1', hz, MapKept.run_setObj_map _ hbW, Result.andThen, setBlock]
      · exact absurd h3' (h2 e (List.mem_of_getElem? h2'))
    · simp only [Option.getD_none]
      rw [put_absent hab]
      simp [hm]
    · intro x hx
      simp only [Array.toList_push, List.mem_append, List.mem_singleton] at hx
      rcases hx with hx | rfl
      · have := hc x hx; omega
      · exact Nat.lt_succ_self _
    · simp only [Array.toList_push, List.map_append, List.map_cons, List.map_nil]
      refine List.nodup_append.2 ⟨hn, by simp, fun x hx y hy => ?_⟩
      simp at hy
      subst hy
      obtain ⟨e', he', rfl⟩ := List.mem_map.1 hx
      have := hc e' he'
      omega
  · obtain ⟨p, hp, hk, hv⟩ := map_get hm j e h2
    have hpk : p.1 = k := K.inj (hk.symm.trans h3)
    subst hpk
    have hj : es[j]? = some e := by simpa using h2
    have hsame : es.modify j (fun e => { e with key := ek p.1 }) = es := by
      apply Array.ext'
      rw [Array.toList_modify, ChangeMaps.modify_eq_set _ _ _ _ h2]
      have : ({ e with key := ek p.1 } : MapEntry) = e := by rw [← h3]
      rw [this]
      exact WideElems.set_self _ _ _ h2
    have hl : look l p.1 = some p.2 := look_at ha hp
    rw [hl]
    refine ⟨e.born, fun W => setBlock W b (.map es clock), fun W hW => ?_⟩
    have hbW : W.heap[b]? = some (.map es clock) := Eq.trans hW hb
    refine ⟨?_, ?_, ⟨_, _, j, e, heap_setBlock_same hbW _, hj, h3, rfl⟩, (Frm.refl (fun x => x = b) W).setBlock_map hbW (.inl rfl) _, by simp [setBlock]⟩
    · rcases K.find W p.1 es.toList (map_keys hm) with ⟨_, h2'⟩ | ⟨j', e', h1', h2', h3', h4'⟩
      · exact absurd h3 (h2' e (List.mem_of_getElem? h2))
      · obtain ⟨p', hp', hk', hv'⟩ := map_get hm j' e' h2'
        have e1 : p' = p := by
          have h5 := look_at ha hp'
          have h6 : p'.1 = p.1 := K.inj (hk'.symm.trans h3')
          rw [h6, hl] at h5
          exact Prod.ext h6 (Option.some.inj h5).symm
        subst e1
        have e2 : j' = j := by
          have hnd := ha
          unfold Apart at hnd
          have hj1 := (List.getElem?_eq_some_iff.1 hp').1
          have hj2 := (List.getElem?_eq_some_iff.1 hp).1
          have g1 := (List.getElem?_eq_some_iff.1 hp').2
          have g2 := (List.getElem?_eq_some_iff.1 hp).2
          have hpw := List.pairwise_iff_getElem.1 hnd
          rcases Nat.lt_trichotomy j' j with hlt | heq | hgt
          · exact (hpw j' j (by simpa using hj1) (by simpa using hj2) hlt (by rw [List.getElem_map, List.getElem_map, g1, g2])).elim
          · exact heq
          · exact (hpw j j' (by simpa using hj2) (by simpa using hj1) hgt (by rw [List.getElem_map, List.getElem_map, g1, g2])).elim
        subst e2
        obtain rfl : e' = e := by rw [h2] at h2'; exact (Option.some.inj h2').symm
        simp [Instr.mapEntry, run_underlying ht, MapKept.run_getObj_map hbW, K.check W false p'.1, h1', hj, h3, K.stays W, hsame, MapKept.run_setObj_map _ hbW, Result.andThen, setBlock, hv]
    · simp only [Option.getD_some]
      rw [put_same hl]
      exact ⟨_, _, heap_setBlock_same hbW _, hm, hc, hn, ha⟩

theorem MapB.entryStore_all [DecidableEq κ] (h : MapB ek ev w b l) (hinj : ∀ {x y : κ}, ek x = ek y → x = y) (k : κ) (st : Nat) (hs : StampB ek w b k st) :
    ∃ upd : Value → World → World, ∀ (v1 : Value) (W : World), objAt W b = objAt w b → (Instr.entryStore t (.map (some b)) (goInt st) v1).run P W = .ok () (upd v1 W) ∧ (∀ v, ev v = v1 → MapB ek ev (upd v1 W) b (put l k v)) ∧ Frm (fun x => x = b) W (upd v1 W) ∧ (upd v1 W).heap.size = W.heap.size := by
  obtain ⟨es, clock, hb, hm, hc, hn, ha⟩ := h
  obtain ⟨es', clock', j, e, hb', hj, hek, hst⟩ := hs
  obtain ⟨rfl, rfl⟩ : es = es' ∧ clock = clock' := by
    rw [hb] at hb'
    simpa using hb'
  have h2 : es.toList[j]? = some e := by simpa using hj
  obtain ⟨p, hp, hk, hv⟩ := map_get hm j e h2
  have hpk : p.1 = k := hinj (hk.symm.trans hek)
  subst hpk
  have hidx : es.findIdx? (fun e' => ((e'.born : Nat) : Int) == ((st : Nat) : Int)) = some j := by
    rw [WideElems.findIdx_arr, ← hst]
    exact WideElems.findIdx_born hn h2
  refine ⟨fun v1 W => setBlock W b (.map (es.modify j fun e' => { e' with val := v1 }) clock), fun v1 W hW => ?_⟩
  have hbW : W.heap[b]? = some (.map es clock) := Eq.trans hW hb
  have hlist : (es.modify j (fun e' => { e' with val := v1 })).toList = es.toList.set j { e with val := v1 } := by
    rw [Array.toList_modify, ChangeMaps.modify_eq_set _ _ _ _ h2]
  refine ⟨?_, fun v hve => ⟨_, _, heap_setBlock_same hbW _, ?_, ?_, ?_, put_apart ha _ v⟩, (Frm.refl (fun x => x = b) W).setBlock_map hbW (.inl rfl) _, by simp [setBlock]⟩
  · simp [Instr.entryStore, MapKept.run_getObj_map hbW, asInt, asIntOf, goInt, hidx, MapKept.run_setObj_map _ hbW, Result.andThen, setBlock]
  · rw [hlist, List.map_set, hm, put_present ha hp, List.map_set, ← hve]
    congr 1
    rw [hek]
  · rw [hlist]
    intro x hx
    rcases List.mem_or_eq_of_mem_set hx with hx | rfl
    · exact hc x hx
    · exact hc e (List.mem_of_getElem? h2)
  · rw [hlist, List.map_set]
    have : (es.toList.map (·.born)).set j e.born = es.toList.map (·.born) := by
      apply List.ext_getElem?
      intro i
      rw [List.getElem?_set]
      split
      · rename_i hij
        subst hij
        simp [h2, hj]
        exact (Array.getElem?_eq_some_iff.1 hj).1
      · rfl
    show ((es.toList.map (·.born)).set j e.born).Nodup
    rw [this]
    exact hn

/-- 'm[k] = v' for whatever v, in every world in which the block is as it is. -/
theorem MapB.update_all [DecidableEq κ] (h : MapB ek ev w b l) (K : KeyT P kt ek) (ht : P.underlying t = some (.map kt et)) (k : κ) (v : ν) (W : World) (hW : objAt W b = objAt w b) :
    (Instr.mapUpdate t (.map (some b)) (ek k) (ev v)).run P W = .ok () (ranTo ((Instr.mapUpdate t (.map (some b)) (ek k) (ev v)).run P W)) ∧
      MapB ek ev (ranTo ((Instr.mapUpdate t (.map (some b)) (ek k) (ev v)).run P W)) b (put l k v) ∧ Frm (fun x => x = b) W (ranTo ((Instr.mapUpdate t (.map (some b)) (ek k) (ev v)).run P W)) ∧
      (ranTo ((Instr.mapUpdate t (.map (some b)) (ek k) (ev v)).run P W)).heap.size = W.heap.size := by
  obtain ⟨w', h1, h2, h3, h4, _⟩ := (h.keep hW).update K ht k v
  rw [h1]
  exact ⟨rfl, h2, h3, h4⟩
end

/-! ### groups -/
/-- A slice, and the numbers that it holds. -/
abbrev Grp := Value × List Int
def egrp (p : Grp) : Value := p.1
def grp0 : Grp := (.slice none 0 0, [])
section
variable {κ : Type} {ek : κ → Value} {E : TypeId} {B b : Nat} {w w' : World} {L : List (κ × Grp)}

/-- Block b is a map of slices that hold numbers; the slices' blocks are not below B, and no two keys' slices lie in one. -/
def GrpsAt (ek : κ → Value) (E : TypeId) (B : Nat) (w : World) (b : Nat) (L : List (κ × Grp)) : Prop :=
  MapB ek egrp w b L ∧ (∀ p ∈ L, w.ownsRow B E 1 p.2.1 p.2.2.length (goInts p.2.2)) ∧ ∀ p ∈ L, ∀ q ∈ L, p.1 ≠ q.1 → ∀ g, p.2.1.ownBlock = some g → q.2.1.ownBlock ≠ some g

theorem GrpsAt.frm {S : Nat → Prop} (h : GrpsAt ek E B w b L) (hf : Frm S w w') (hb : ¬ S b) (hg : ∀ p ∈ L, ∀ g, p.2.1.ownBlock = some g → ¬ S g) : GrpsAt ek E B w' b L :=
  ⟨h.1.frm hf hb, fun p hp => row_frm (h.2.1 p hp) hf (hg p hp), h.2.2⟩
theorem GrpsAt.below (h : GrpsAt ek E B w b L) (hb : Below w.heap.size w w') : GrpsAt ek E B w' b L := h.frm (Frm.of_below (S := None) hb) id (fun _ _ _ _ => id)
theorem GrpsAt.made (w : World) : GrpsAt ek E B (w.alloc (.map #[] 0)) w.heap.size ([] : List (κ × Grp)) := ⟨MapB.made w, by simp, by simp⟩
theorem GrpsAt.row [DecidableEq κ] (h : GrpsAt ek E B w b L) (k : κ) : w.ownsRow B E 1 ((look L k).getD grp0).1 ((look L k).getD grp0).2.length (goInts ((look L k).getD grp0).2) := by
  cases hl : look L k with
  | none => exact World.ownsRow_nil _ _ _ _
  | some v => exact h.2.1 _ (look_some hl)

/-- What has been done since the look-up touched the key's own row, the map, and new blocks alone. -/
theorem GrpsAt.put_gen [DecidableEq κ] {w1 w2 : World} {k : κ} {v : Value} {xs : List Int} (h : GrpsAt ek E B w b L) (hf : Frm (fun j => ((look L k).getD grp0).1.ownBlock = some j ∨ j = b) w w1) (hnb : ∀ c e f, w1.heap[b]? ≠ some (.cells c e f)) (ho : w1.ownsRow B E 1 v xs.length (goInts xs))
    (hv : v.ownBlock = ((look L k).getD grp0).1.ownBlock ∨ ∃ g, v.ownBlock = some g ∧ w.heap.size ≤ g) (hm : MapB ek egrp w2 b (put L k (v, xs))) (hf2 : Frm (fun j => j = b) w1 w2) : GrpsAt ek E B w2 b (Proofs.Ytpkhmhfgnpnpfaa.put L k (v, xs)) := by
  obtain ⟨h1, h2, h3⟩ := h
  have old : ∀ q ∈ L, q.1 ≠ k → ∀ g, q.2.1.ownBlock = some g → ((look L k).getD grp0).1.ownBlock ≠ some g := fun q hq hk g hg => by
    cases hl : look L k with
    | none => simp [grp0, Value.ownBlock]
    | some u => exact fun e => h3 _ (look_some hl) q hq (fun e2 => hk e2.symm) g e hg
  refine ⟨hm, fun q hq => ?_, fun p hp q hq hne g hg => ?_⟩
  · rcases mem_put h1.apart hq with rfl | ⟨hq, hk⟩
    · exact row_frm ho hf2 (fun g hg e => row_not ho hnb (by rw [hg, e]))
    · have hr := row_frm (h2 q hq) hf (fun g hg e => e.elim (old q hq hk g hg) (fun e => row_not (h2 q hq) h1.notCells (by rw [hg, e])))
      exact row_frm hr hf2 (fun g hg e => row_not hr hnb (by rw [hg, e]))
  · rcases mem_put h1.apart hp with rfl | ⟨hp, hk⟩
    · rcases mem_put h1.apart hq with rfl | ⟨hq, hk'⟩
      · exact absurd rfl hne
      · rcases hv with hv | ⟨g', hv, hlt⟩
        · rw [hv] at hg
          exact fun e => old q hq hk' g e hg
        · have hgg : g = g' := by simpa [hv] using hg.symm
          subst hgg
          exact fun e => by have := ((h2 q hq).lt g e).2; omega
    · rcases mem_put h1.apart hq with rfl | ⟨hq, hk'⟩
      · rcases hv with hv | ⟨g', hv, hlt⟩
        · show v.ownBlock ≠ _
          rw [hv]
          exact old p hp hk g hg
        · show v.ownBlock ≠ _
          rw [hv]
          intro e
          have hgg : g' = g := by simpa using e
          subst hgg
          have := ((h2 p hp).lt g' hg).2; omega
      · exact h3 p hp q hq hne g hg
/-- .. and the map at last. -/
theorem GrpsAt.put [DecidableEq κ] {w1 w2 : World} {k : κ} {v : Value} {xs : List Int} (h : GrpsAt ek E B w b L) (hf : Frm (fun j => ((look L k).getD grp0).1.ownBlock = some j) w w1) (ho : w1.ownsRow B E 1 v xs.length (goInts xs))
    (hv : v.ownBlock = ((look L k).getD grp0).1.ownBlock ∨ ∃ g, v.ownBlock = some g ∧ w.heap.size ≤ g) (hm : MapB ek egrp w2 b (Proofs.Ytpkhmhfgnpnpfaa.put L k (v, xs))) (hf2 : Frm (fun j => j = b) w1 w2) : GrpsAt ek E B w2 b (Proofs.Ytpkhmhfgnpnpfaa.put L k (v, xs)) := by
  refine h.put_gen (hf.mono fun j hj => .inl (.inl hj)) ?_ ho hv hm hf2
  have h0 : ((look L k).getD grp0).1.ownBlock ≠ some b := row_not (h.row k) h.1.notCells
  rw [hf.block b h.1.lt h0]
  exact h.1.notCells
end

/-- A slice of numbers, read. -/
theorem grp_slice {E : TypeId} {w : World} {B : Nat} {v : Value} {xs : List Int} (h : w.ownsRow B E 1 v xs.length (goInts xs)) :
    ∃ A c, v = .slice A xs.length c ∧ ∀ i, i < xs.length → ∃ g, A = some ⟨g, 0, none⟩ ∧ B ≤ g ∧ g < w.heap.size ∧ v.ownBlock = some g ∧ w.cell? ⟨g, i, none⟩ = some (.int .i64 (xs.getD i 0)) := by
  have hc := fun g (hg : v.ownBlock = some g) => h.cells hg
  rcases h.2 with ⟨rfl, h0⟩ | ⟨g, cap, cur, rfl, hb, hg, _⟩
  · exact ⟨none, 0, by rw [h0], fun i hn => by omega⟩
  · refine ⟨some ⟨g, 0, none⟩, cap, rfl, fun i hi => ⟨g, rfl, hb, (Array.getElem?_eq_some_iff.1 hg).1, rfl, ?_⟩⟩
    have := hc g rfl i (.int .i64 (xs.getD i 0)) (by
      simp [goInts, List.getD_eq_getElem?_getD, List.getElem?_eq_getElem hi])
    rwa [Addr.add_lit, Nat.zero_add] at this

/-! ### grouping, plainly -/
/-- The numbers of a key, in their order; the keys in the order in which they came. -/
def groups {α κ : Type} [DecidableEq κ] (key : α → κ) (num : α → Int) (l : List α) : List (κ × List Int) :=
  l.foldl (fun G x => put G (key x) ((look G (key x)).getD [] ++ [num x])) []
def numsOf {α κ : Type} [DecidableEq κ] (key : α → κ) (num : α → Int) (l : List α) (k : κ) : List Int := (l.filter fun x => decide (key x = k)).map num
theorem snoc_ind {α : Type} {C : List α → Prop} (h0 : C []) (h1 : ∀ l x, C l → C (l ++ [x])) (l : List α) : C l := by
  have : ∀ n (l : List α), l.length = n → C l := by
    intro n
    induction n with
    | zero => intro l hl; rw [List.eq_nil_of_length_eq_zero hl]; exact h0
    | succ n ih =>
      intro l hl
      have hne : l ≠ [] := by intro e; subst e; simp at hl
      rw [← List.dropLast_concat_getLast hne]
      exact h1 _ _ (ih _ (by simp [hl]))
  exact this _ l rfl
section
variable {α κ : Type} [DecidableEq κ] (key : α → κ) (num : α → Int)
theorem groups_snoc (l : List α) (x : α) : groups key num (l ++ [x]) = put (groups key num l) (key x) ((look (groups key num l) (key x)).getD [] ++ [num x]) := by
  simp [groups, List.foldl_append]
theorem groups_apart (l : List α) : Apart (groups key num l) := by
  refine snoc_ind (C := fun l => Apart (groups key num l)) apart_nil (fun l x ih => ?_) l
  rw [groups_snoc]; exact put_apart ih _ _
theorem groups_look (l : List α) (k : κ) : look (groups key num l) k = if ∃ x ∈ l, key x = k then some (numsOf key num l k) else none := by
  refine snoc_ind (C := fun l => look (groups key num l) k = if ∃ x ∈ l, key x = k then some (numsOf key num l k) else none) (by simp [groups, look]) (fun l x ih => ?_) l
  · rw [groups_snoc, look_put]
    by_cases e : key x = k
    · subst e
      rw [if_pos rfl, if_pos ⟨x, by simp, rfl⟩, ih]
      by_cases h : ∃ y ∈ l, key y = key x
      · rw [if_pos h]; simp [numsOf]
      · rw [if_neg h]
        have : numsOf key num l (key x) = [] := by
          unfold numsOf
          rw [List.filter_eq_nil_iff.2 (fun y hy => by
            simp only [decide_eq_true_eq]; exact fun e => h ⟨y, hy, e⟩)]
          rfl
        simp [numsOf] at this ⊢
        exact this
    · rw [if_neg e, ih]
      have hn : numsOf key num (l ++ [x]) k = numsOf key num l k := by simp [numsOf, e]
      rw [hn]
      by_cases h : ∃ y ∈ l, key y = k
      · rw [if_pos h, if_pos (by obtain ⟨y, h1, h2⟩ := h; exact ⟨y, by simp [h1], h2⟩)]
      · rw [if_neg h, if_neg (by
          rintro ⟨y, hy, h2⟩
          rcases List.mem_append.1 hy with hy | hy
          · exact h ⟨y, hy, h2⟩
          · simp at hy; subst hy; exact e h2)]
theorem groups_length (l : List α) : (groups key num l).length ≤ l.length := by
  refine snoc_ind (C := fun l => (groups key num l).length ≤ l.length) (by simp [groups]) (fun l x ih => ?_) l
  · rw [groups_snoc]
    have := put_length (groups key num l) (key x) ((look (groups key num l) (key x)).getD [] ++ [num x])
    simp; omega
theorem groups_mem {l : List α} {k : κ} {xs : List Int} (h : (k, xs) ∈ groups key num l) : xs = numsOf key num l k ∧ ∃ x ∈ l, key x = k := by
  have h1 := look_of_mem (groups_apart key num l) h
  rw [groups_look] at h1
  split at h1
  · rename_i h2
    exact ⟨(Option.some.inj h1).symm, h2⟩
  · cases h1
theorem groups_has {l : List α} {x : α} (h : x ∈ l) : (key x, numsOf key num l (key x)) ∈ groups key num l := by
  refine look_some ?_
  rw [groups_look, if_pos ⟨x, h, rfl⟩]
end
end Go.Proofs.Ytpkhmhfgnpnpfaa
