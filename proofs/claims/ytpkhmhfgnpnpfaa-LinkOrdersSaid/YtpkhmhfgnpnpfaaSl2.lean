/- slices.Sort of numbers; appends of what a slice leads to; slices.Clone, Grow, Concat of links. -/
import Derived.Test.YtpkhmhfgnpnpfaaSl1
import Derived.Test.YtpkhmhfgnpnpfaaSort
import Derived.Test.YtpkhmhfgnpnpfaaShelf
import Derived.Lib.OwnBridge
import Derived.Lib.LazyBuf
namespace Go.Proofs.Ytpkhmhfgnpnpfaa
set_option linter.unusedSimpArgs false
set_option linter.unusedVariables false
open Go.RowKit
attribute [local go_sem] objAt_alloc objAt_alloc_at objAt_drew objAt_drewN objAt_setCell comesTo_value comesTo_enter

/-! ### slices.Sort -/
def sortI (l : List Int) : List Int := l.mergeSort fun x y => decide (x ≤ y)
theorem sortI_perm (l : List Int) : (sortI l).Perm l := List.mergeSort_perm l _
theorem sortI_sorted (l : List Int) : (sortI l).Pairwise (· ≤ ·) := by
  have := List.pairwise_mergeSort (le := fun (x y : Int) => decide (x ≤ y)) (fun a b c h1 h2 => by simp at *; omega) (fun a b => by simp; omega) l
  exact this.imp fun h => by simpa using h
/-- Numbers of a list without twins, sorted: whatever rises and has the same members. -/
theorem sortI_rise {l r : List Int} (hn : l.Nodup) (hr : r.Pairwise (· < ·)) (h : ∀ x, x ∈ l ↔ x ∈ r) : sortI l = r := by
  refine rise_eq ?_ hr fun x => (sortI_perm l).mem_iff.trans (h x)
  have h1 := sortI_sorted l
  have h2 : (sortI l).Nodup := (sortI_perm l).nodup_iff.2 hn
  exact (h1.and h2).imp fun ⟨a, b⟩ => by omega
theorem sortInts_calls (base : Nat) (v : Value) (l : List Int) (w : World) (hown : w.ownsRow base 3 1 v l.length (goInts l)) (hsz : l.length < 4611686018427387904) :
    Calls Try.prog 81 #[v] w fun e w' => e = .returned (.tuple #[]) ∧ w'.ownsRow base 3 1 v (sortI l).length (goInts (sortI l)) ∧ Frm (fun j => v.ownBlock = some j) w w' := by
  have hlen : (sortI l).length = l.length := (sortI_perm l).length_eq
  rw [hlen]
  by_cases hv : v = .slice none 0 0
  · subst hv
    have h0 : l = [] := by
      rcases hown.2 with ⟨_, h⟩ | ⟨g, cap, cur, e, _⟩
      · exact List.eq_nil_of_length_eq_zero h
      · cases e
    subst h0
    exact (Any.slices_Sort_int_none Proofs.Try.sortInts none 0 w).mono fun e w' ⟨h1, h2⟩ => by
      subst h2
      exact ⟨h1, by simpa [sortI] using hown, Frm.refl _ _⟩
  · obtain ⟨g, cap, rfl, h1, h2, h3, h4, h5, h6⟩ := Lib.holds_of_ownsRow (enc := Value.int .i64) hown hv
    refine (Any.slices_Sort_int Proofs.Try.sortInts g 0 cap l w h6 h2 hsz).mono fun e w' ⟨q1, q, os, q2⟩ => ⟨q1, ?_⟩
    have hp := Lib.ownsRow_putRow (q := q) (ys := sortI l) (zs := l) (enc := Value.int .i64) hown hlen (Nat.le_refl _)
    rw [List.take_of_length_le (by rw [hlen]; exact Nat.le_refl _)] at hp
    have hsize : (Sort.putRow (Value.int .i64) (Sort.ahead w q) g 0 (sortI l).toArray).heap.size = w.heap.size := by simp [Sort.putRow, Sort.mapBlock, Sort.ahead]
    have hgr : Frm None (Sort.putRow (Value.int .i64) (Sort.ahead w q) g 0 (sortI l).toArray) w' := ⟨by rw [q2]; rfl, by rw [q2]; rfl, by rw [q2]; rfl, by rw [q2]; simp [Go.Sort.grow], fun k hk _ => by rw [q2]; exact Go.Sort.heap_grow_old _ _ hk⟩
    refine ⟨row_frm hp hgr (fun _ _ => id), ?_⟩
    refine Frm.trans (b := Sort.putRow (Value.int .i64) (Sort.ahead w q) g 0 (sortI l).toArray) ⟨rfl, rfl, rfl, Nat.le_of_eq hsize.symm, fun k hk hn => ?_⟩ hgr (fun j hj => hj.elim)
    have : g ≠ k := fun e => hn (by simp [Value.ownBlock, e])
    simp [Sort.putRow, Sort.mapBlock, Sort.ahead, Array.getElem?_modify, this]

/-! ### spread appends -/
def CellsIn (w : World) (a : Option Addr) (xs : List Value) : Prop := ∀ (j : Nat) (u : Value), xs[j]? = some u → ∃ b off, a = some ⟨b, off, none⟩ ∧ w.cell? ⟨b, off + j, none⟩ = some u
theorem append_cells {P : Program} {w : World} {o : Oper} {a : Act} {K : Act → World → Prop} {Q : Exit → Act → World → Prop} (s x : Operand) (ts te : TypeId)
    (ho : o.op = .call { callee := .builtin .append, args := #[s, x], argTypes := #[ts, ts] })
    (base : Nat) (j0 : TypeInfo) (z : Value) (size bytes : Nat) (ht : P.underlying ts = some (.slice te)) (hi : P.info? te = some j0) (hz : j0.zero = some z) (hsize : j0.size = size) (hby : j0.bytes = bytes) (hzs : z.cells.size = size) (hsz : 0 < size)
    (v : Value) (n : Nat) (xs : List Value) (hs : a.eval s = v) (hown : w.ownsRow base te size v n xs)
    (ad : Option Addr) (m c : Nat) (news : List Value) (hx : a.eval x = .slice ad m c) (hl : news.length = m * size) (hnone : ad = none → m = 0 ∧ c = 0) (hn : CellsIn w ad news) (h1 : ∀ u ∈ news, u.oneCell' = true)
    (h63 : n + m ≤ maxLen) (hbytes : (n + m) * bytes ≤ 140737488355328) (hbase : base ≤ w.heap.size)
    (h : ∀ v' w', w'.ownsRow base te size v' (n + m) (xs ++ news) → w.grownBy w' v.ownBlock → K (a.put o.dst v') w') : o.wp P a w K Q := by
  cases ad with
  | none =>
    obtain ⟨rfl, rfl⟩ := hnone rfl
    obtain rfl : news = [] := List.eq_nil_of_length_eq_zero (by omega)
    have hrun := run_append_owned_none (P := P) (w := w) base ts o.type te j0 size ht hi v n _ hown
    unfold Oper.wp execOp
    simp only [ho, resolve, invoke, builtin, Sem.run_bind, Sem.run_pure, Result.andThen_ok, List.map_toArray, List.map_cons, List.map_nil, hs, hx, hrun]
    exact h v w (by simpa using hown) (World.grownBy.refl _ _)
  | some y =>
    refine wp_append_own w s x ts ho base te j0 z size bytes ht hi hz hsize hby hzs hsz v n xs hs hown y m c news hx hl (fun j u hj => ?_) h1 h63 hbytes hbase fun v' w' h1 h2 _ => h v' w' h1 h2
    obtain ⟨b, off, e, hc⟩ := hn j u hj
    obtain rfl : y = ⟨b, off, none⟩ := by simpa using e
    rw [Addr.add_lit]
    exact hc
theorem wpList_append_cells {P : Program} {w : World} {ops : Array Oper} {rest : List Oper} {o : Oper} {a : Act} {Q : Exit → Act → World → Prop} (hgd : o.guard = none) (s x : Operand) (ts te : TypeId)
    (ho : o.op = .call { callee := .builtin .append, args := #[s, x], argTypes := #[ts, ts] })
    (base : Nat) (j0 : TypeInfo) (z : Value) (size bytes : Nat) (ht : P.underlying ts = some (.slice te)) (hi : P.info? te = some j0) (hz : j0.zero = some z) (hsize : j0.size = size) (hby : j0.bytes = bytes) (hzs : z.cells.size = size) (hsz : 0 < size)
    (v : Value) (n : Nat) (xs : List Value) (hs : a.eval s = v) (hown : w.ownsRow base te size v n xs)
    (ad : Option Addr) (m c : Nat) (news : List Value) (hx : a.eval x = .slice ad m c) (hl : news.length = m * size) (hnone : ad = none → m = 0 ∧ c = 0) (hn : CellsIn w ad news) (h1 : ∀ u ∈ news, u.oneCell' = true)
    (h63 : n + m ≤ maxLen) (hbytes : (n + m) * bytes ≤ 140737488355328) (hbase : base ≤ w.heap.size)
    (h : ∀ v' w', w'.ownsRow base te size v' (n + m) (xs ++ news) → w.grownBy w' v.ownBlock → wpList P ops Q rest (a.put o.dst v') w') : wpList P ops Q (o :: rest) a w :=
  wpList_plain hgd fun _ hK => append_cells s x ts te ho base j0 z size bytes ht hi hz hsize hby hzs hsz v n xs hs hown ad m c news hx hl hnone hn h1 h63 hbytes hbase fun v' w' h2 h3 => hK _ _ (h v' w' h2 h3)
theorem IntsIn.cells {w : World} {a : Option Addr} {l : List Int} (h : IntsIn w a l) : CellsIn w a (goInts l) := fun j u hj => by
  obtain ⟨x, hx, rfl⟩ : ∃ x, l[j]? = some x ∧ .int .i64 x = u := by simpa [goInts] using hj
  obtain ⟨b, off, h1, _, h3⟩ := h j x hx
  exact ⟨b, off, h1, h3⟩
def lcells (x : PLink) : List Value := [.int .i64 x.kind, .int .i64 x.src, .int .i64 x.dst]
theorem lcells_len (x : PLink) : (lcells x).length = 3 := rfl
theorem lcells_all (l : List PLink) : ∀ u ∈ l.flatMap lcells, u.oneCell' = true := by
  intro u hu
  obtain ⟨p, _, hp⟩ := List.mem_flatMap.1 hu
  simp [lcells] at hp
  rcases hp with rfl | rfl | rfl <;> rfl
theorem LinksIn.cells {w : World} {a : Option Addr} {l : List PLink} (h : LinksIn w a l) : CellsIn w a (l.flatMap lcells) := fun j u hj => by
  have hlen : j < l.length * 3 := by
    have h1 := (List.getElem?_eq_some_iff.1 hj).1
    rwa [flat_length lcells 3 lcells_len] at h1
  have hk : j / 3 < l.length := by omega
  obtain ⟨p, hp⟩ : ∃ p, l[j / 3]? = some p := ⟨l[j / 3], List.getElem?_eq_getElem hk⟩
  rw [flat_get lcells 3 lcells_len l j hlen] at hj
  have hpk : l.toArray[j / 3]! = p := by
    rw [getElem!_pos l.toArray (j / 3) (by simpa using hk)]
    obtain ⟨_, rfl⟩ := List.getElem?_eq_some_iff.1 hp
    simp
  rw [hpk] at hj
  obtain ⟨b, off, e, _, c0, c1, c2⟩ := h (j / 3) p hp
  refine ⟨b, off, e, ?_⟩
  have hm : j % 3 < 3 := Nat.mod_lt _ (by decide)
  have hjj : j = j / 3 * 3 + j % 3 := by omega
  generalize j / 3 = k at *
  generalize j % 3 = r at *
  subst hjj
  match r, hm with
  | 0, _ => simp [lcells] at hj; subst hj; simpa using c0
  | 1, _ => simp [lcells] at hj; subst hj; simpa [Nat.add_assoc] using c1
  | 2, _ => simp [lcells] at hj; subst hj; simpa [Nat.add_assoc] using c2
/-- What a row of links of the call's own leads to. -/
theorem row_links {w : World} {B : Nat} {e : TypeId} {v : Value} {l : List PLink} (h : w.ownsRow B e 3 v l.length (l.flatMap lcells)) : ∃ a c, v = .slice a l.length c ∧ LinksIn w a l ∧ (∀ x, a = some x → v.ownBlock = some x.block) ∧ (a = none → l.length = 0 ∧ c = 0) := by
  rcases h.2 with ⟨rfl, h0⟩ | ⟨g, cap, cur, rfl, h1, h2, _⟩
  · refine ⟨none, 0, by rw [h0], fun k x hk => ?_, by simp, fun _ => ⟨h0, rfl⟩⟩
    rw [List.eq_nil_of_length_eq_zero h0] at hk
    simp at hk
  · refine ⟨some ⟨g, 0, none⟩, cap, rfl, fun k x hk => ?_, by intro x hx; simp at hx; subst hx; rfl, by simp⟩
    have hlt := (List.getElem?_eq_some_iff.1 hk).1
    have hget : ∀ r, r < 3 → w.cell? ⟨g, k * 3 + r, none⟩ = (lcells x)[r]? := fun r hr => by
      rw [h.cellAt (k * 3 + r) (by omega), flat_get lcells 3 lcells_len l (k * 3 + r) (by omega)]
      have hd : (k * 3 + r) / 3 = k := by omega
      have hm : (k * 3 + r) % 3 = r := by omega
      rw [hd, hm, getElem!_pos l.toArray k (by simpa using hlt)]
      obtain ⟨_, rfl⟩ := List.getElem?_eq_some_iff.1 hk
      simp
    refine ⟨g, 0, rfl, (Array.getElem?_eq_some_iff.1 h2).1, ?_, ?_, ?_⟩
    · rw [Nat.zero_add]; exact hget 0 (by decide)
    · rw [Nat.zero_add]; exact hget 1 (by decide)
    · rw [Nat.zero_add]; exact hget 2 (by decide)
theorem linkInfo : (Try.prog.info? 30).map (fun i => (i.zero, i.size, i.bytes)) = some (some (.agg #[.int .i64 0, .int .i64 0, .int .i64 0]), 3, 24) := by kernel_rfl

/-- A slice of links as an argument. -/
def LinksArg (w : World) (a : Option Addr) (n c : Nat) (l : List PLink) : Prop := l.length = n ∧ n ≤ 1099511627776 ∧ (a = none → n = 0 ∧ c = 0) ∧ LinksIn w a l
theorem LinksArg.below {w w' : World} {a : Option Addr} {n c : Nat} {l : List PLink} (h : LinksArg w a n c l) (hb : Below w.heap.size w w') : LinksArg w' a n c l := ⟨h.1, h.2.1, h.2.2.1, h.2.2.2.below hb⟩
def LinksPost (w : World) (l : List PLink) (e : Ending) (w' : World) : Prop := ∃ v, e = .returned v ∧ w'.ownsRow w.heap.size 30 3 v l.length (l.flatMap lcells) ∧ Below w.heap.size w w'

set_option maxHeartbeats 1000000 in
set_option maxRecDepth 100000 in
theorem cloneLinks_calls (a : Option Addr) (n c : Nat) (l : List PLink) (w : World) (h : LinksArg w a n c l) (hfew : n ≤ 1000) :
    Calls Try.prog 50 #[.slice a n c] w (LinksPost w l) := by
  obtain ⟨hn, hm, hnil, hl⟩ := h
  obtain ⟨j0, hj, hy0, hy1, hy2⟩ := info_parts linkInfo
  have q22 : ∀ (w : World) (a : Option Addr) (n c n' c' : Nat), (binOp .eql 22 (.slice a n c) (.slice none n' c')).run Try.prog w = .ok (.bool a.isNone) w := fun w a n c n' c' => Lib.run_eql_slice_nil w _ _ a n c n' c' Try.underlying22
  have HL := hide hl
  cases a with
  | none =>
    obtain ⟨rfl, rfl⟩ := hnil rfl
    obtain rfl : l = [] := List.eq_nil_of_length_eq_zero hn
    go_enter Try.func50, Try.ntmps50
    go_wp2
    go_ret
    exact ⟨_, rfl, World.ownsRow_nil _ _ _ _, Below.refl _ _⟩
  | some x =>
    clear hnil hl
    go_enter Try.func50, Try.ntmps50
    go_wp2_with (at_builtin; refine wpList_append_cells rfl (.tmp 5) (.tmp 6) _ 30 rfl w.heap.size j0 _ 3 24 Try.underlying22 hj hy0 hy1 hy2 rfl (by decide) (.slice (some ⟨w.heap.size, 0, none⟩) 0 0) 0 [] rfl (World.ownsRow_made w #[] 0 (Nat.le_refl _) (by decide) rfl) (some x) n c (l.flatMap lcells) rfl (by rw [flat_length lcells 3 lcells_len, hn]) (by simp) ((HL.out.below ((Below.refl _ _).alloc (Nat.le_refl _) _)).cells) (lcells_all l) (by unfold maxLen; omega) (by omega) (by simp) ?_; intro v2 w2 hown2 hgrow2; have HO2 := hide hown2; have HG2 := hide hgrow2; clear hown2 hgrow2)
    go_ret
    have hf : Frm None w w2 := Frm.mono (((Frm.refl (fun j => w.heap.size ≤ j) w).alloc _).grown HG2.out fun q hq => .inl (by simp [Value.ownBlock] at hq; omega)) (fun j hj => .inr hj)
    exact ⟨_, rfl, by simpa [hn] using HO2.out, hf.below (Nat.le_refl _) fun j hj => hj.elim⟩
end Go.Proofs.Ytpkhmhfgnpnpfaa
