/- Regions that draw their order and hold reads, quiet calls, and operations that make or write memory: rules by which they are walked one operation at a time. No program in sight. -/
import Derived.Test.YtpkhmhfgnpnpfaaCls
import Derived.Deep.RegionHeld
import Derived.Sort.Grow
namespace Go.Proofs.Ytpkhmhfgnpnpfaa
open Go.RowKit

section
variable {P : Program} {ops : Array Oper} {md : Region.Mode} {R : World → World → Prop} {Q : Exit → Act → World → Prop}

/-- A way for worlds to turn: from each to itself, and on. -/
structure Way (R : World → World → Prop) : Prop where
  refl : ∀ w, R w w
  trans : ∀ {a b c : World}, R a b → R b c → R a c

/-- What one operation has come to: the value v, and a turn of R. -/
def comesTo (P : Program) (R : World → World → Prop) (w : World) (v : Value) : Result Next → Prop
  | .ok (.value u) w' => u = v ∧ R w w'
  | .ok .skip w' => v = undef ∧ R w w'
  | .ok (.enter f args) w' => Calls P f args w' fun e w'' => e = .returned v ∧ R w w''
  | _ => False
theorem comesTo_value {w w' : World} {v u : Value} : comesTo P R w v (.ok (.value u) w') = (u = v ∧ R w w') := rfl
theorem comesTo_enter {w w' : World} {v : Value} {f : FuncId} {args : Array Value} : comesTo P R w v (.ok (.enter f args) w') = Calls P f args w' fun e w'' => e = .returned v ∧ R w w'' := rfl

/-- In state a operation o yields v and turns the world by R, wherever T holds. -/
def Det (P : Program) (ops : Array Oper) (R : World → World → Prop) (T : World → Prop) (o : Oper) (v : Value) (a : Act) : Prop :=
  (Region.wanted o (yielded ops a.tmps) = true ∧ ∀ w, T w → comesTo P R w v ((execOp a.eval o).run P w)) ∨ (Region.wanted o (yielded ops a.tmps) = false ∧ v = undef)
/-- Two states in which o does the same. -/
def Alike (ops : Array Oper) (o : Oper) (a a' : Act) : Prop := execOp a'.eval o = execOp a.eval o ∧ Region.wanted o (yielded ops a'.tmps) = Region.wanted o (yielded ops a.tmps)

theorem Det.alike {T : World → Prop} {o : Oper} {v : Value} {a a' : Act} (h : Det P ops R T o v a) (hs : Alike ops o a a') : Det P ops R T o v a' := by
  unfold Det
  rw [hs.1, hs.2]
  exact h
theorem Det.less {T T' : World → Prop} {o : Oper} {v : Value} {a : Act} (h : Det P ops R T o v a) (hs : ∀ w, T' w → T w) : Det P ops R T' o v a :=
  h.imp (fun ⟨h1, h2⟩ => ⟨h1, fun w hw => h2 w (hs w hw)⟩) id

theorem Det.run {T : World → Prop} {i : Nat} {o : Oper} {v : Value} {a : Act} (hi : ops[i]? = some o) (h : Det P ops R T o v a) {K : Act → World → Prop} {w : World} (hw : T w) (hR : R w w) (hK : ∀ w', R w w' → K (a.put o.dst v) w') : wpOp P ops Q i K a w := by
  unfold wpOp
  simp only [hi]
  rcases h with ⟨h1, h2⟩ | ⟨h1, rfl⟩
  · have h3 := h2 w hw
    simp only [h1, if_true, Oper.wp]
    refine .inl ?_
    generalize (execOp a.eval o).run P w = r at h3 ⊢
    cases r with
    | halt x w' => exact h3.elim
    | ok n w' =>
      cases n <;> first | exact (h3 : False).elim | simp only [Oper.upon]
      case value u => obtain ⟨rfl, h4⟩ := h3; exact hK _ h4
      case skip => obtain ⟨rfl, h4⟩ := h3; exact hK _ h4
      case enter f args => exact Calls.mono h3 fun e w'' ⟨he, h4⟩ => by subst he; exact hK _ h4
  · simp only [h1, Bool.false_eq_true, if_false]
    exact hK _ hR

/-- What stands in oi's temporary makes no odds to an operation that is apart from it, nor that one to what oi looks at. -/
theorem wpOp_alike {j : Nat} {oi oj : Oper} {v : Value} (hj : ops[j]? = some oj) (hap : oi.apart ops oj = true) (hsi : ∀ cs b, oi.op ≠ .select cs b) (hsj : ∀ cs b, oj.op ≠ .select cs b)
    (hQ : ∀ c a w, Q (.panic c) (a.put oi.dst v) w → Q (.panic c) a w) {K : Act → World → Prop} {a : Act} {w : World} (h : wpOp P ops Q j K (a.put oi.dst v) w) :
    wpOp P ops Q j (fun a' w' => Alike ops oi a a' ∧ K (a'.put oi.dst v) w') a w := by
  obtain ⟨h1, h2, h3⟩ := Oper.apart_spec hap
  have keep : ∀ u, Alike ops oi a (a.put oj.dst u) := fun u => ⟨execOp_put oi hsi a oj.dst u h3, wanted_put oi a oj.dst u h3⟩
  have keep' : ∀ d u, Alike ops oi a (({ a with defers := d :: a.defers } : Act).put oj.dst u) := fun d u => ⟨execOp_put oi hsi { a with defers := d :: a.defers } oj.dst u h3, wanted_put oi { a with defers := d :: a.defers } oj.dst u h3⟩
  unfold wpOp at h ⊢
  simp only [hj] at h ⊢
  rw [wanted_put oj a oi.dst v h1] at h
  cases hw : Region.wanted oj (yielded ops a.tmps) with
  | false =>
    simp only [hw, Bool.false_eq_true, if_false] at h ⊢
    exact ⟨keep _, by rw [← Act.put_comm a v undef h2]; exact h⟩
  | true =>
    simp only [hw, if_true] at h ⊢
    rcases h with h | ⟨ha, hl⟩
    · refine .inl ?_
      unfold Oper.wp at h ⊢
      rw [execOp_put oj hsj a oi.dst v h1] at h
      generalize (execOp a.eval oj).run P w = r at h ⊢
      cases r with
      | halt x w' =>
        cases x <;> simp only [Oper.upon] at h ⊢
        case panic u => exact hQ _ _ _ h
      | ok n w' =>
        cases n <;> simp only [Oper.upon] at h ⊢
        case value u => exact ⟨keep u, by rw [← Act.put_comm a v u h2]; exact h⟩
        case skip => exact ⟨keep _, by rw [← Act.put_comm a v undef h2]; exact h⟩
        case defer d => exact ⟨keep' d _, by rw [← Act.put_comm _ v undef h2, ← Act.put_defers]; exact h⟩
        case enter f args =>
          refine Calls.mono h fun e w'' he => ?_
          cases e with
          | returned u => exact ⟨keep u, by rw [← Act.put_comm a v u h2]; exact he⟩
          | panicked c => exact hQ _ _ _ he
          | outgrown => exact he
        case row row args => exact Rows.mono h fun u w'' he => ⟨keep u, by rw [← Act.put_comm a v u h2]; exact he⟩
    · exact .inr ⟨by unfold Oper.asks at ha ⊢; rwa [execOp_put oj hsj a oi.dst v h1] at ha, hl⟩

/-- The first n operations, whichever comes up, f of them left; T holds meanwhile; behind them L. -/
def walkR (P : Program) (md : Region.Mode) (ops : Array Oper) (R : World → World → Prop) (Q : Exit → Act → World → Prop) (n : Nat) (L : Array Bool → Act → World → Prop) : Nat → Array Bool → Act → (World → Prop) → World → Prop
  | 0, listed, a, _, w => (∀ j, j ∈ Region.ready md ops listed → n ≤ j) ∧ ∀ W, R w W → L listed a W
  | f + 1, listed, a, T, w => (Region.ready md ops listed).length ≠ 0 ∧ ∀ j, j ∈ Region.ready md ops listed → j < n ∧ ∀ W, R w W →
      wpOp P ops Q j (fun a' w' => ∃ T' : World → Prop, (∀ x, T' x → T x) ∧ (∀ x y, R x y → T' x → T' y) ∧ T' w' ∧ walkR P md ops R Q n L f (listed.setIfInBounds j true) a' T' w') a W

variable {n : Nat} {L : Array Bool → Act → World → Prop}
theorem walkR_on (hR : Way R) : ∀ (f : Nat) (listed : Array Bool) (a : Act) (T : World → Prop) (w w' : World), R w w' → walkR P md ops R Q n L f listed a T w → walkR P md ops R Q n L f listed a T w'
  | 0, _, _, _, _, _, hw, h => ⟨h.1, fun W hW => h.2 W (hR.trans hw hW)⟩
  | _ + 1, _, _, _, _, _, hw, h => ⟨h.1, fun j hj => ⟨(h.2 j hj).1, fun W hW => (h.2 j hj).2 W (hR.trans hw hW)⟩⟩

theorem walkR_any {g : Nat} (hL : ∀ listed a w, L listed a w → wpAny P md ops Q g listed a w) (hR : Way R) : ∀ (f : Nat) (listed : Array Bool) (a : Act) (T : World → Prop) (w : World), walkR P md ops R Q n L f listed a T w → wpAny P md ops Q (f + g) listed a w := by
  intro f
  induction f with
  | zero => intro listed a T w h; rw [Nat.zero_add]; exact hL _ _ _ (h.2 w (hR.refl w))
  | succ f ih =>
    intro listed a T w h
    rw [Nat.add_right_comm]
    exact ⟨fun h0 => absurd (by rw [h0]; rfl) h.1, fun i hi => wpOp_mono (fun a' w' ⟨T', _, _, _, h'⟩ => ih _ a' T' w' h') ((h.2 i hi).2 w (hR.refl w))⟩

/-- The static side: no select; where there is a tail it waits for the head. -/
def headB (md : Region.Mode) (ops : Array Oper) (n : Nat) : Bool := Region.noSelect ops && (decide (n = ops.size) || decide (n < ops.size) && Region.sinkB md ops n && Region.chainB md ops n)

theorem head_first {i : Nat} {listed : Array Bool} (hB : headB md ops n = true) (inv : HeadInv md ops n listed) (hin : i < n) (hun : listed.getD i true = false) : ∀ j, j ∈ Region.ready md ops listed → j < n := by
  intro j hj
  unfold headB at hB
  simp only [Bool.and_eq_true, Bool.or_eq_true, decide_eq_true_eq] at hB
  rcases hB.2 with h | ⟨⟨h1, h2⟩, h3⟩
  · obtain ⟨_, oj, hoj, _⟩ := mem_ready.1 hj
    have := (Array.getElem?_eq_some_iff.1 hoj).1
    omega
  · exact Nat.lt_of_not_le fun h => tail_waits h2 h3 h1 inv _ i rfl hin hun j h hj

theorem walkR_first {i : Nat} {oi : Oper} {v : Value} (hR : Way R) (hB : headB md ops n = true) (hi : ops[i]? = some oi) (hin : i < n) (hQ : ∀ c a w, Q (.panic c) (a.put oi.dst v) w → Q (.panic c) a w) :
    ∀ (f : Nat) (listed : Array Bool) (a : Act) (T : World → Prop) (w : World), HeadInv md ops n listed →
      (∀ j oj, ops[j]? = some oj → j ≠ i → listed.getD j true = false → (∀ e ∈ oj.after, Region.binds md e = true → e.on ≠ i) → oi.apart ops oj = true) →
      i ∈ Region.ready md ops listed → (∀ x y, R x y → T x → T y) → T w → Det P ops R T oi v a →
      walkR P md ops R Q n L f (listed.setIfInBounds i true) (a.put oi.dst v) T w → walkR P md ops R Q n L (f + 1) listed a T w := by
  have hsel := Region.noSelect_spec (ops := ops) (by unfold headB at hB; simp only [Bool.and_eq_true] at hB; exact hB.1)
  intro f
  induction f with
  | zero =>
    intro listed a T w inv _ hr hT hw hd H
    have hun := (mem_ready.1 hr).1
    refine ⟨fun h => (by rw [List.eq_nil_of_length_eq_zero h] at hr; cases hr), fun j hj => ⟨head_first hB inv hin hun j hj, fun W hW => ?_⟩⟩
    by_cases hji : j = i
    · subst hji
      exact hd.run hi (hT _ _ hW hw) (hR.refl W) fun w' hw' => ⟨T, fun _ h => h, hT, hT _ _ (hR.trans hW hw') hw, walkR_on hR _ _ _ _ _ _ (hR.trans hW hw') H⟩
    · have h1 := H.1 j (ready_mono hj hji)
      have h2 := head_first hB inv hin hun j hj
      omega
  | succ f ih =>
    intro listed a T w inv hfree hr hT hw hd H
    have hun := (mem_ready.1 hr).1
    refine ⟨fun h => (by rw [List.eq_nil_of_length_eq_zero h] at hr; cases hr), fun j hj => ⟨head_first hB inv hin hun j hj, fun W hW => ?_⟩⟩
    by_cases hji : j = i
    · subst hji
      exact hd.run hi (hT _ _ hW hw) (hR.refl W) fun w' hw' => ⟨T, fun _ h => h, hT, hT _ _ (hR.trans hW hw') hw, walkR_on hR _ _ _ _ _ _ (hR.trans hW hw') H⟩
    · obtain ⟨hjun, oj, hoj, hall⟩ := mem_ready.1 hj
      have hnot : ∀ e ∈ oj.after, Region.binds md e = true → e.on ≠ i := fun e he hb heq => by
        have h1 := hall e he hb
        rw [heq, getD_both hun] at h1
        cases h1
      have h2 := wpOp_alike hoj (hfree j oj hoj hji hjun hnot) (fun cs b => hsel i oi cs b hi) (fun cs b => hsel j oj cs b hoj) hQ ((H.2 j (ready_mono hj hji)).2 W hW)
      refine wpOp_mono (fun a' w' ⟨hal, T', t1, t2, t3, h3⟩ => ⟨T', t1, t2, t3, ih (listed.setIfInBounds j true) a' T' w' (inv.set hj (head_first hB inv hin hun j hj)) (fun k ok hk hki hu hno => ?_) (ready_mono hr (Ne.symm hji)) t2 t3 ((hd.alike hal).less t1) ?_⟩) h2
      · refine hfree k ok hk hki ?_ hno
        by_cases hjk : j = k
        · subst hjk; exact hjun
        · rwa [getD_set_ne true hjk] at hu
      · rw [Array.setIfInBounds_comm _ _ hji]
        exact h3

/-! ### the rules, as a walk uses them -/
/-- The state of a walk through a region. -/
def Reg (P : Program) (ops : Array Oper) (R : World → World → Prop) (Q : Exit → Act → World → Prop) (n : Nat) (L : Array Bool → Act → World → Prop) (f : Nat) (listed : Array Bool) (a : Act) (T : World → Prop) (w : World) : Prop :=
  HeadInv .any ops n listed → (∀ x y, R x y → T x → T y) → T w → walkR P .any ops R Q n L f listed a T w

/-- Operation i, which may come up, yields v wherever T holds: it is taken first. -/
theorem Reg.take {f : Nat} {listed : Array Bool} {a : Act} {T : World → Prop} {w : World} (i : Nat) {oi : Oper} (v : Value) (hR : Way R) (hB : headB .any ops n = true) (hi : ops[i]? = some oi) (hin : i < n)
    (hf : Region.free .any ops listed i = true) (hr : (Region.ready .any ops listed).contains i = true) (hQ : ∀ c a w, Q (.panic c) (a.put oi.dst v) w → Q (.panic c) a w) (hd : Det P ops R T oi v a)
    (h : Reg P ops R Q n L f (listed.setIfInBounds i true) (a.put oi.dst v) T w) : Reg P ops R Q n L (f + 1) listed a T w := fun inv hT hw =>
  walkR_first hR hB hi hin hQ f listed a T w inv (Region.free_spec hi hf) (by simpa using hr) hT hw hd (h (inv.set (by simpa using hr) hin) hT hw)

/-- Operation i alone may come up: it is carried out, from whatever world R leads to; T is to be shown anew. -/
theorem Reg.only {f : Nat} {listed : Array Bool} {a : Act} {T : World → Prop} {w : World} (i : Nat) {oi : Oper} (hi : ops[i]? = some oi) (hin : i < n) (hr : Region.ready .any ops listed = [i])
    (h : ∀ W, R w W → T W → ∀ K : Act → World → Prop, Hid (∀ a' w', T w' → (T w' → Reg P ops R Q n L f (listed.setIfInBounds i true) a' T w') → K a' w') → if Region.wanted oi (yielded ops a.tmps) = true then Oper.wp P oi a W K Q else K (a.put oi.dst undef) W) :
    Reg P ops R Q n L (f + 1) listed a T w := fun inv hT hw => by
  refine ⟨by rw [hr]; simp, fun j hj => ?_⟩
  rw [hr] at hj
  obtain rfl : j = i := by simpa using hj
  refine ⟨hin, fun W hW => wpOp_step hi fun K hK => h W hW (hT _ _ hW hw) K <| show Hid _ from fun a' w' t1 t2 => hK a' w' ⟨T, fun _ h => h, hT, t1, t2 t1 (inv.set (by rw [hr]; simp) hin) hT t1⟩⟩

/-- T may be made narrower. -/
theorem Reg.narrow {f : Nat} {listed : Array Bool} {a : Act} {T T' : World → Prop} {w : World} (h1 : ∀ x, T' x → T x) (h2 : ∀ x y, R x y → T' x → T' y) (h3 : T' w) (h : Reg P ops R Q n L f listed a T' w) : Reg P ops R Q n L f listed a T w := fun inv _ _ => by
  have h0 := h inv h2 h3
  cases f with
  | zero => exact h0
  | succ f => exact ⟨h0.1, fun j hj => ⟨(h0.2 j hj).1, fun W hW => wpOp_mono (fun a' w' ⟨T1, t1, t2, t3, t4⟩ => ⟨T1, fun x hx => h1 x (t1 x hx), t2, t3, t4⟩) ((h0.2 j hj).2 W hW)⟩⟩

/-- The head is done. -/
theorem Reg.done {listed : Array Bool} {a : Act} {T : World → Prop} {w : World} (hr : ((Region.ready .any ops listed).all fun j => decide (n ≤ j)) = true) (h : ∀ W, R w W → T W → L listed a W) : Reg P ops R Q n L 0 listed a T w := fun _ hT hw =>
  ⟨fun j hj => by simpa using List.all_eq_true.1 hr j hj, fun W hW => h W hW (hT _ _ hW hw)⟩
end

section
variable {P : Program} {R : World → World → Prop} {Q : Exit → Act → World → Prop} {id : Nat} {a : Act} {w : World} {l : List Oper}
/-- The whole region by the rules. -/
theorem region_rules (R : World → World → Prop) (T : World → Prop) (hR : Way R) (hm : P.follows .mixedOrders = true) (hT : ∀ x y, R x y → T x → T y) (hw : T w.drew)
    (h : Reg P l.toArray R Q l.length (fun _ a' W => Q .normal a' W) l.length (Array.replicate l.length false) a T w.drew) : (Code.region id l.toArray true).wp P Q a w := by
  refine wp_region_any hm ?_
  have h1 := h ⟨by simp, fun j oj _ hl => (by rw [getD_replicate_false] at hl; cases hl), fun t _ ht => getD_in (by simpa using ht) (getD_replicate_false _ _)⟩ hT hw
  have h2 := walkR_any (P := P) (g := 0) (L := fun listed a' W => Region.ready .any l.toArray listed = [] ∧ Q .normal a' W) (n := l.length) (fun _ _ _ h => h) hR l.length (Array.replicate l.length false) a T w.drew ?_
  · simpa using h2
  · have conv : ∀ (f : Nat) (listed : Array Bool) (a : Act) (T : World → Prop) (w : World), walkR P .any l.toArray R Q l.length (fun _ a' W => Q .normal a' W) f listed a T w → walkR P .any l.toArray R Q l.length (fun listed a' W => Region.ready .any l.toArray listed = [] ∧ Q .normal a' W) f listed a T w := by
      intro f
      induction f with
      | zero =>
        intro listed a T w h
        refine ⟨h.1, fun W hW => ⟨?_, h.2 W hW⟩⟩
        refine List.eq_nil_iff_forall_not_mem.2 fun j hj => ?_
        have h3 := h.1 j hj
        obtain ⟨_, oj, hoj, _⟩ := mem_ready.1 hj
        have := (Array.getElem?_eq_some_iff.1 hoj).1
        simp at this
        omega
      | succ f ih =>
        intro listed a T w h
        exact ⟨h.1, fun j hj => ⟨(h.2 j hj).1, fun W hW => wpOp_mono (fun a' w' ⟨T', t1, t2, t3, t4⟩ => ⟨T', t1, t2, t3, ih _ a' T' w' t4⟩) ((h.2 j hj).2 W hW)⟩⟩
    exact conv _ _ _ _ _ h1

/-- A head by the rules; the tail, which has one order alone and waits for the head, as plain code. -/
theorem region_rules_tail (R : World → World → Prop) (n : Nat) (T : World → Prop) (hR : Way R) (hm : P.follows .mixedOrders = true) (hn : n ≤ l.length) (hT : ∀ x y, R x y → T x → T y) (hw : T w.drew)
    (h : Reg P l.toArray R Q n (fun listed a' W => Region.seqB .any l.toArray (l.length - n) n listed = true ∧ wpList P l.toArray Q (l.drop n) a' W) n (Array.replicate l.length false) a T w.drew) : (Code.region id l.toArray true).wp P Q a w := by
  refine wp_region_any hm ?_
  have hdl : (l.drop n).length = l.length - n := by simp
  have h1 := h ⟨by simp, fun j oj _ hl => (by rw [getD_replicate_false] at hl; cases hl), fun t _ ht => getD_in (by simpa using ht) (getD_replicate_false _ _)⟩ hT hw
  have h2 := walkR_any (g := l.length - n) (Q := Q) (fun listed a' W hL => by
    have := wpAny_of_seq (md := .any) (Q' := Q) (l.drop n) n listed a' W (fun j => by simp [List.getElem?_drop]) (by rw [hdl]; exact hL.1) hL.2
    rwa [hdl] at this) hR _ _ _ _ _ h1
  rw [show n + (l.length - n) = l.length by omega] at h2
  simpa using h2
end

/-! ### many operations taken in the order of the text -/
section
variable {P : Program} {ops : Array Oper} {R : World → World → Prop} {Q : Exit → Act → World → Prop} {n : Nat} {L : Array Bool → Act → World → Prop} {T : World → Prop}

/-- These operations, in this order, each determined wherever T holds; behind them K. -/
def Lex (P : Program) (ops : Array Oper) (R : World → World → Prop) (T : World → Prop) (K : Act → Prop) : List Oper → Act → Prop
  | [], a => K a
  | o :: rest, a => ∃ v, Det P ops R T o v a ∧ Lex P ops R T K rest (a.put o.dst v)
theorem Lex.nil {K : Act → Prop} {a : Act} (h : K a) : Lex P ops R T K [] a := h
theorem Lex.want {K : Act → Prop} {a : Act} {o : Oper} {rest : List Oper} (hw : Region.wanted o (yielded ops a.tmps) = true) (v : Value) (h1 : ∀ w, T w → comesTo P R w v ((execOp a.eval o).run P w)) (h2 : Lex P ops R T K rest (a.put o.dst v)) : Lex P ops R T K (o :: rest) a :=
  ⟨v, .inl ⟨hw, h1⟩, h2⟩
theorem Lex.skip {K : Act → Prop} {a : Act} {o : Oper} {rest : List Oper} (hw : Region.wanted o (yielded ops a.tmps) = false) (h2 : Lex P ops R T K rest (a.put o.dst undef)) : Lex P ops R T K (o :: rest) a :=
  ⟨undef, .inr ⟨hw, rfl⟩, h2⟩

def mark : Nat → Nat → Array Bool → Array Bool
  | 0, _, listed => listed
  | f + 1, k, listed => mark f (k + 1) (listed.setIfInBounds k true)
/-- m operations from number k on may come up in the order of the text, and each may be taken first. -/
def lexB (ops : Array Oper) : Nat → Nat → Array Bool → Bool
  | 0, _, _ => true
  | f + 1, k, listed => (Region.ready .any ops listed).contains k && Region.free .any ops listed k && lexB ops f (k + 1) (listed.setIfInBounds k true)

theorem Reg.lex (hR : Way R) (hB : headB .any ops n = true) (hQ : ∀ c a d v w, Q (.panic c) (a.put d v) w → Q (.panic c) a w) {f : Nat} {w : World} : ∀ (l : List Oper) (k : Nat) (listed : Array Bool) (a : Act), (∀ j, j < l.length → l[j]? = ops[k + j]?) →
    k + l.length ≤ n → lexB ops l.length k listed = true → Lex P ops R T (fun a' => Reg P ops R Q n L f (mark l.length k listed) a' T w) l a → Reg P ops R Q n L (f + l.length) listed a T w := by
  intro l
  induction l with
  | nil => intro k listed a _ _ _ h; exact h
  | cons o l ih =>
    intro k listed a hl hk hb h
    obtain ⟨v, hd, h⟩ := h
    simp only [List.length_cons, lexB, Bool.and_eq_true] at hb
    have h0 : ops[k]? = some o := by simpa using (hl 0 (by simp)).symm
    simp only [List.length_cons] at hk
    rw [List.length_cons, ← Nat.add_assoc]
    exact Reg.take k v hR hB h0 (by omega) hb.1.2 hb.1.1 (fun c a w => hQ c a _ v w) hd (ih (k + 1) _ _ (fun j hj => by have := hl (j + 1) (by simp; omega); simpa [Nat.add_assoc, Nat.add_comm 1 j] using this) (by omega) hb.2 h)
end

section
variable {P : Program} {Q : Exit → Act → World → Prop} {id : Nat} {a : Act} {w : World} {l : List Oper}
/-- The static side of a walk: m operations in the order of the text, of a head of n. -/
def staticB (l : List Oper) (n m : Nat) : Bool := decide (m ≤ n) && decide (n ≤ l.length) && headB .any l.toArray n && lexB l.toArray m 0 (Array.replicate l.length false)

/-- A region: m operations in the order of the text; then, of a head of n, the others as they come up ('Reg.only', 'Reg.take'); then the tail as plain code. -/
theorem region_by (R : World → World → Prop) (hR : Way R) (n m : Nat) (T : World → Prop) (hm : P.follows .mixedOrders = true) (hs : staticB l n m = true) (hQ : ∀ c a d v w, Q (.panic c) (a.put d v) w → Q (.panic c) a w)
    (hT : ∀ x y, R x y → T x → T y) (hw : T w.drew)
    (h : ∀ K : Act → Prop, Hid (∀ a', Reg P l.toArray R Q n (fun listed a' W => Region.seqB .any l.toArray (l.length - n) n listed = true ∧ wpList P l.toArray Q (l.drop n) a' W) (n - m) (mark m 0 (Array.replicate l.length false)) a' T w.drew → K a') → Lex P l.toArray R T K (l.take m) a) :
    (Code.region id l.toArray true).wp P Q a w := by
  simp only [staticB, Bool.and_eq_true, decide_eq_true_eq] at hs
  obtain ⟨⟨⟨h1, h2⟩, h3⟩, h4⟩ := hs
  refine region_rules_tail R n T hR hm h2 hT hw ?_
  have hlen : (l.take m).length = m := by simp; omega
  have := Reg.lex (L := fun listed a' W => Region.seqB .any l.toArray (l.length - n) n listed = true ∧ wpList P l.toArray Q (l.drop n) a' W) (f := n - m) (w := w.drew) (T := T) hR h3 hQ (l.take m) 0 (Array.replicate l.length false) a (fun j hj => by
    have hj' : j < m := by rw [hlen] at hj; exact hj
    simp [hj']) (by rw [hlen]; omega) (by rw [hlen]; exact h4) (by rw [hlen]; exact h _ fun _ h => h)
  rwa [hlen, show n - m + m = n by omega] at this
end

/-- More operations in the order of the text, on the way. -/
def segB (l : List Oper) (n k m : Nat) (listed : Array Bool) : Bool := headB .any l.toArray n && decide (k + m ≤ n) && decide (n ≤ l.length) && lexB l.toArray m k listed
theorem Reg.seg {P : Program} {R : World → World → Prop} {Q : Exit → Act → World → Prop} {L : Array Bool → Act → World → Prop} {T : World → Prop} {l : List Oper} {n f : Nat} {listed : Array Bool} {a : Act} {w : World} (k m : Nat) (hR : Way R) (hs : segB l n k m listed = true)
    (hQ : ∀ c a d v w, Q (.panic c) (a.put d v) w → Q (.panic c) a w)
    (h : ∀ K : Act → Prop, Hid (∀ a', Reg P l.toArray R Q n L f (mark m k listed) a' T w → K a') → Lex P l.toArray R T K ((l.drop k).take m) a) : Reg P l.toArray R Q n L (f + m) listed a T w := by
  simp only [segB, Bool.and_eq_true, decide_eq_true_eq] at hs
  obtain ⟨⟨⟨h1, h2⟩, h3⟩, h4⟩ := hs
  have hlen : ((l.drop k).take m).length = m := by simp; omega
  have := Reg.lex (L := L) (f := f) (w := w) (T := T) hR h1 hQ ((l.drop k).take m) k listed a (fun j hj => by
    have hj' : j < m := by rw [hlen] at hj; exact hj
    simp [hj', List.getElem?_drop]) (by rw [hlen]; exact h2) (by rw [hlen]; exact h4) (by rw [hlen]; exact h _ fun _ h => h)
  rwa [hlen] at this

theorem way_eq : Way (fun a b : World => a = b) := ⟨fun _ => rfl, fun h k => h.trans k⟩
/-- Only new blocks. -/
def New (a b : World) : Prop := Below a.heap.size a b
theorem way_new : Way New := ⟨fun w => Below.refl _ w, fun {a b c} h k => by
  unfold New at h k ⊢
  exact h.trans (k.mono h.size)⟩

/-- New blocks, and draws. -/
def GrowW (a b : World) : Prop := ∃ (q : Nat) (os : Array Obj), b = Sort.grow (a.drewN q) os
theorem growW_below {a b : World} (h : GrowW a b) : Below a.heap.size a b := by
  obtain ⟨q, os, rfl⟩ := h
  refine ⟨rfl, rfl, rfl, by simp [Sort.grow, World.drewN], fun k hk => ?_⟩
  simp [Sort.grow, World.drewN, Array.getElem?_append, hk]
theorem growW_drew (a : World) : GrowW a a.drew := ⟨1, #[], by simp [Sort.grow]; rfl⟩
theorem growW_alloc (a : World) (o : Obj) : GrowW a (a.alloc o) := ⟨0, #[o], by rw [Sort.alloc_eq_grow]; rfl⟩
theorem way_grow : Way GrowW := ⟨fun w => ⟨0, #[], by simp [Sort.grow]; rfl⟩, fun {a b c} ⟨q, os, h⟩ ⟨q', os', h'⟩ => ⟨q + q', os ++ os', by
  subst h; subst h'
  simp [Sort.grow, World.drewN, Nat.add_assoc, Array.append_assoc]⟩⟩
theorem calls_same_way {P : Program} {R : World → World → Prop} (hR : Way R) {f : FuncId} {args : Array Value} {W : World} {v : Value} (h : Calls P f args W fun e w' => e = .returned v ∧ W = w') : Calls P f args W fun e w' => e = .returned v ∧ R W w' :=
  h.mono fun _ _ ⟨he, hw⟩ => ⟨he, hw ▸ hR.refl W⟩
end Go.Proofs.Ytpkhmhfgnpnpfaa
