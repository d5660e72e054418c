/- Chapter 11: what a transaction does to a part; which of two stands ahead. -/
import Derived.Test.YtmhmjbggjbeikaaPost2
import Derived.Test.YtmhmjbggjbeikaaLed1
import Derived.Test.YtmhmjbggjbeikaaRgn
namespace Go.Proofs.Ytmhmjbggjbeikaa
set_option linter.unusedSimpArgs false
set_option linter.unusedVariables false
open Go.RowKit
attribute [local go_sem] objAt_alloc objAt_alloc_at objAt_drew objAt_drewN objAt_setCell comesTo_value comesTo_enter

/-- A part of a position: its key, and which. -/
abbrev PKey := Key × Int
def epart (x : PKey) : Value := .agg #[.string x.1.1, .string x.1.2, .int .i64 x.2]
structure PNet where
  k : Key
  sub : Int
  by_ : Int
  over : Bool
instance : Inhabited PNet := ⟨⟨(ByteArray.empty, ByteArray.empty), 0, 0, false⟩⟩
def ncells (x : PNet) : List Value := [.string x.k.1, .string x.k.2, .int .i64 x.sub, .int .i64 x.by_, .bool x.over]
def enet (x : PNet) : Value := .agg (ncells x).toArray
def PNet.key (x : PNet) : PKey := (x.k, x.sub)
def cmpPart (x y : PKey) : Int := firstOf [cmpKey x.1 y.1, cmpI x.2 y.2]
theorem cmpPart_cmp : IsCmp cmpPart := cmpKey_cmp.lex cmpI_cmp
def cmpNet (x y : PNet) : Int := cmpPart x.key y.key
theorem cmpNet_swo : Sort.SWO (Proofs.ltOf cmpNet) where
  irrefl x := cmpPart_cmp.swo.irrefl x.key
  trans x y z := cmpPart_cmp.swo.trans x.key y.key z.key
  ntrans x y z := cmpPart_cmp.swo.ntrans x.key y.key z.key

theorem epart_inj {x y : PKey} (h : epart x = epart y) : x = y := by
  unfold epart at h
  simp at h
  exact Prod.ext (Prod.ext h.1 h.2.1) h.2.2
theorem part_equalIn (d : Nat) (x y : PKey) (w : World) : (Op.equalIn (d + 3) 92 (epart x) (epart y)).run Try.prog w = .ok (decide (x = y)) w := by
  obtain ⟨⟨x1, x2⟩, x3⟩ := x
  obtain ⟨⟨y1, y2⟩, y3⟩ := y
  simp only [epart]
  simp [go_sem, toList_inj]
  by_cases h1 : x1 = y1 <;> by_cases h2 : x2 = y2 <;> by_cases h3 : x3 = y3 <;> simp [h1, h2, h3]
theorem part_equal (x y : PKey) (w : World) : (Op.equal 92 (epart x) (epart y)).run Try.prog w = .ok (decide (x = y)) w := part_equalIn 9997 x y w
theorem part_checkN (n : Nat) (w : World) (em : Bool) (x : PKey) : (Instr.checkKey em (n + 3) 92 (epart x)).run Try.prog w = .ok () w := by
  have hi : ∀ (n : Nat) (s : Int), (Instr.checkKey em (n + 1) 3 (.int .i64 s)).run Try.prog w = .ok () w := fun n s => by
    rw [Instr.checkKey]
    simp [run_underlying Try.underlying3]
  have hk := fun (k : Key) => key_checkN n w em k
  rw [Instr.checkKey]
  simp [run_underlying Try.underlying92, epart, go_sem, hi]
  have h1 := hk x.1
  simp only [ekey] at h1
  rw [h1]
  simp only [Result.andThen]
  have h2 := hi (n + 1) x.2
  rw [show n + 1 + 1 = n + 2 from rfl] at h2
  rw [h2]
theorem part_checkM (m : Nat) (hm : 3 ≤ m) (w : World) (em : Bool) (x : PKey) : (Instr.checkKey em m 92 (epart x)).run Try.prog w = .ok () w := by
  obtain ⟨n, rfl⟩ : ∃ n, m = n + 3 := ⟨m - 3, by omega⟩
  exact part_checkN n w em x
theorem part_check (w : World) (em : Bool) (x : PKey) : (Instr.checkKey em 10000 92 (epart x)).run Try.prog w = .ok () w := part_checkM 10000 (by decide) w em x
theorem partT : KeyT Try.prog 92 epart :=
  KeyT.of_equal Try.underlying92 (fun _ _ => rfl) part_equal epart_inj part_check (fun x => by simp [epart, Instr.sameBits, bytes_beq_self])

set_option maxHeartbeats 1000000 in
set_option maxRecDepth 100000 in
theorem nets1_calls (x y : PNet) (w : World) : Calls Try.prog 79 #[enet x, enet y] w fun e w' => e = .returned (.int .i64 (cmpNet x y)) ∧ GrowW w w' := by
  obtain ⟨⟨x1, x2⟩, x3, x4, x5⟩ := x
  obtain ⟨⟨y1, y2⟩, y3, y4, y5⟩ := y
  have h1 := fun W => before_calls (x1, x2) (y1, y2) W
  have h2 := fun W => compare_int x3 y3 W
  unfold cmpNet cmpPart enet ncells PNet.key
  simp only [ekey] at *
  generalize cmpKey (x1, x2) (y1, y2) = a at h1 ⊢
  generalize cmpI x3 y3 = b at h2 ⊢
  have H1 : Hid (∀ W, Calls Try.prog 39 #[.agg #[.string x1, .string x2], .agg #[.string y1, .string y2]] W fun e w' => e = .returned (.int .i64 a) ∧ GrowW W w') := hide fun W => (h1 W).mono fun e w' ⟨he, o1, o2, o3, hw⟩ => ⟨he, by
    rw [hw]
    exact way_grow.trans (way_grow.trans (way_grow.trans (growW_alloc _ o1) (growW_alloc _ o2)) (growW_alloc _ o3)) (growW_drew _)⟩
  have H2 := hide h2
  clear h1 h2
  go_enter Try.func79, Try.ntmps79
  go_wp2_with fail
  have hg0 : GrowW w ((w.alloc (.cells #[.string x1, .string x2, .int .i64 x3, .int .i64 x4, .bool x5] 94)).alloc (.cells #[.string y1, .string y2, .int .i64 y3, .int .i64 y4, .bool y5] 94)) := way_grow.trans (growW_alloc _ _) (growW_alloc _ _)
  have hc0 : ((w.alloc (.cells #[.string x1, .string x2, .int .i64 x3, .int .i64 x4, .bool x5] 94)).alloc (.cells #[.string y1, .string y2, .int .i64 y3, .int .i64 y4, .bool y5] 94)).heap[w.heap.size]? = some (.cells #[.string x1, .string x2, .int .i64 x3, .int .i64 x4, .bool x5] 94 (0, 0)) := (Below.heap_alloc _ _ _ (by simp)).trans (heap_alloc_new w _)
  have hc1 : ((w.alloc (.cells #[.string x1, .string x2, .int .i64 x3, .int .i64 x4, .bool x5] 94)).alloc (.cells #[.string y1, .string y2, .int .i64 y3, .int .i64 y4, .bool y5] 94)).heap[w.heap.size + 1]? = some (.cells #[.string y1, .string y2, .int .i64 y3, .int .i64 y4, .bool y5] 94 (0, 0)) := by
    have := heap_alloc_new (w.alloc (.cells #[.string x1, .string x2, .int .i64 x3, .int .i64 x4, .bool x5] 94)) (.cells #[.string y1, .string y2, .int .i64 y3, .int .i64 y4, .bool y5] 94)
    simpa using this
  have hs0 : w.heap.size + 1 < ((w.alloc (.cells #[.string x1, .string x2, .int .i64 x3, .int .i64 x4, .bool x5] 94)).alloc (.cells #[.string y1, .string y2, .int .i64 y3, .int .i64 y4, .bool y5] 94)).heap.size := by simp
  generalize (w.alloc (.cells #[.string x1, .string x2, .int .i64 x3, .int .i64 x4, .bool x5] 94)).alloc (.cells #[.string y1, .string y2, .int .i64 y3, .int .i64 y4, .bool y5] 94) = w0 at *
  have HF : Hid (∀ W, GrowW w0 W → W.cell? ⟨w.heap.size, 0, none⟩ = some (.string x1) ∧ W.cell? ⟨w.heap.size, 1, none⟩ = some (.string x2) ∧ W.cell? ⟨w.heap.size, 2, none⟩ = some (.int .i64 x3) ∧
      W.cell? ⟨w.heap.size + 1, 0, none⟩ = some (.string y1) ∧ W.cell? ⟨w.heap.size + 1, 1, none⟩ = some (.string y2) ∧ W.cell? ⟨w.heap.size + 1, 2, none⟩ = some (.int .i64 y3)) := hide fun W hW => by
    have hb := growW_below hW
    have e0 := (hb.block w.heap.size (by omega)).trans hc0
    have e1 := (hb.block (w.heap.size + 1) (by omega)).trans hc1
    exact ⟨by simp [World.cell?, e0], by simp [World.cell?, e0], by simp [World.cell?, e0], by simp [World.cell?, e1], by simp [World.cell?, e1], by simp [World.cell?, e1]⟩
  have HG0 := hide hg0
  clear hg0 hc0 hc1 hs0
  refine region_by GrowW way_grow 14 14 (fun W => GrowW w0 W) (by kernel_rfl) (by kernel_rfl) (fun _ _ d _ _ h => by cases d <;> exact h) (fun x y h hx => way_grow.trans hx h) (growW_drew _) (fun KT hKT => ?_)
  simp only [List.take_succ_cons, List.take_zero]
  refine Lex.want (v := ?_) (by rfl) (fun W hW => ?hd1) ?_
  case hd1 =>
    have hh := HF.out W hW
    clear hW
    go_split_ands
    go_simp
    first | rfl | exact way_new.refl _ | exact way_grow.refl _ | (refine ⟨?_, way_new.refl _⟩; rfl) | (refine ⟨?_, way_grow.refl _⟩; rfl)
  try simp only [Act.put, List.setIfInBounds_toArray, List.set_cons_zero, List.set_cons_succ, List.getElem_toArray, List.getElem_cons_zero, List.getElem_cons_succ]
  refine Lex.want (v := ?_) (by rfl) (fun W hW => ?hd2) ?_
  case hd2 =>
    have hh := HF.out W hW
    clear hW
    go_split_ands
    go_simp
    first | rfl | exact way_new.refl _ | exact way_grow.refl _ | (refine ⟨?_, way_new.refl _⟩; rfl) | (refine ⟨?_, way_grow.refl _⟩; rfl)
  try simp only [Act.put, List.setIfInBounds_toArray, List.set_cons_zero, List.set_cons_succ, List.getElem_toArray, List.getElem_cons_zero, List.getElem_cons_succ]
  refine Lex.want (v := ?_) (by rfl) (fun W hW => ?hd3) ?_
  case hd3 =>
    have hh := HF.out W hW
    clear hW
    go_split_ands
    go_simp
    first | rfl | exact way_new.refl _ | exact way_grow.refl _ | (refine ⟨?_, way_new.refl _⟩; rfl) | (refine ⟨?_, way_grow.refl _⟩; rfl)
  try simp only [Act.put, List.setIfInBounds_toArray, List.set_cons_zero, List.set_cons_succ, List.getElem_toArray, List.getElem_cons_zero, List.getElem_cons_succ]
  refine Lex.want (v := ?_) (by rfl) (fun W hW => ?hd4) ?_
  case hd4 =>
    have hh := HF.out W hW
    clear hW
    go_split_ands
    go_simp
    first | rfl | exact way_new.refl _ | exact way_grow.refl _ | (refine ⟨?_, way_new.refl _⟩; rfl) | (refine ⟨?_, way_grow.refl _⟩; rfl)
  try simp only [Act.put, List.setIfInBounds_toArray, List.set_cons_zero, List.set_cons_succ, List.getElem_toArray, List.getElem_cons_zero, List.getElem_cons_succ]
  refine Lex.want (v := ?_) (by rfl) (fun W hW => ?hd5) ?_
  case hd5 =>
    have hh := HF.out W hW
    clear hW
    go_split_ands
    go_simp
    first | rfl | exact way_new.refl _ | exact way_grow.refl _ | (refine ⟨?_, way_new.refl _⟩; rfl) | (refine ⟨?_, way_grow.refl _⟩; rfl)
  try simp only [Act.put, List.setIfInBounds_toArray, List.set_cons_zero, List.set_cons_succ, List.getElem_toArray, List.getElem_cons_zero, List.getElem_cons_succ]
  refine Lex.want (v := ?_) (by rfl) (fun W hW => ?hd6) ?_
  case hd6 =>
    have hh := HF.out W hW
    clear hW
    go_split_ands
    go_simp
    first | rfl | exact way_new.refl _ | exact way_grow.refl _ | (refine ⟨?_, way_new.refl _⟩; rfl) | (refine ⟨?_, way_grow.refl _⟩; rfl)
  try simp only [Act.put, List.setIfInBounds_toArray, List.set_cons_zero, List.set_cons_succ, List.getElem_toArray, List.getElem_cons_zero, List.getElem_cons_succ]
  refine Lex.want (v := ?_) (by rfl) (fun W hW => ?hd7) ?_
  case hd7 =>
    have hcc := hide (H1.out W)
    go_simp
    exact hcc
  try simp only [Act.put, List.setIfInBounds_toArray, List.set_cons_zero, List.set_cons_succ, List.getElem_toArray, List.getElem_cons_zero, List.getElem_cons_succ]
  refine Lex.want (v := ?_) (by rfl) (fun W hW => ?hd8) ?_
  case hd8 =>
    have hh := HF.out W hW
    clear hW
    go_split_ands
    go_simp
    first | rfl | exact way_new.refl _ | exact way_grow.refl _ | (refine ⟨?_, way_new.refl _⟩; rfl) | (refine ⟨?_, way_grow.refl _⟩; rfl)
  try simp only [Act.put, List.setIfInBounds_toArray, List.set_cons_zero, List.set_cons_succ, List.getElem_toArray, List.getElem_cons_zero, List.getElem_cons_succ]
  refine Lex.want (v := ?_) (by rfl) (fun W hW => ?hd9) ?_
  case hd9 =>
    have hh := HF.out W hW
    clear hW
    go_split_ands
    go_simp
    first | rfl | exact way_new.refl _ | exact way_grow.refl _ | (refine ⟨?_, way_new.refl _⟩; rfl) | (refine ⟨?_, way_grow.refl _⟩; rfl)
  try simp only [Act.put, List.setIfInBounds_toArray, List.set_cons_zero, List.set_cons_succ, List.getElem_toArray, List.getElem_cons_zero, List.getElem_cons_succ]
  refine Lex.want (v := ?_) (by rfl) (fun W hW => ?hd10) ?_
  case hd10 =>
    have hh := HF.out W hW
    clear hW
    go_split_ands
    go_simp
    first | rfl | exact way_new.refl _ | exact way_grow.refl _ | (refine ⟨?_, way_new.refl _⟩; rfl) | (refine ⟨?_, way_grow.refl _⟩; rfl)
  try simp only [Act.put, List.setIfInBounds_toArray, List.set_cons_zero, List.set_cons_succ, List.getElem_toArray, List.getElem_cons_zero, List.getElem_cons_succ]
  refine Lex.want (v := ?_) (by rfl) (fun W hW => ?hd11) ?_
  case hd11 =>
    have hh := HF.out W hW
    clear hW
    go_split_ands
    go_simp
    first | rfl | exact way_new.refl _ | exact way_grow.refl _ | (refine ⟨?_, way_new.refl _⟩; rfl) | (refine ⟨?_, way_grow.refl _⟩; rfl)
  try simp only [Act.put, List.setIfInBounds_toArray, List.set_cons_zero, List.set_cons_succ, List.getElem_toArray, List.getElem_cons_zero, List.getElem_cons_succ]
  refine Lex.want (v := ?_) (by rfl) (fun W hW => ?hd12) ?_
  case hd12 =>
    have hh := HF.out W hW
    clear hW
    go_split_ands
    go_simp
    first | rfl | exact way_new.refl _ | exact way_grow.refl _ | (refine ⟨?_, way_new.refl _⟩; rfl) | (refine ⟨?_, way_grow.refl _⟩; rfl)
  try simp only [Act.put, List.setIfInBounds_toArray, List.set_cons_zero, List.set_cons_succ, List.getElem_toArray, List.getElem_cons_zero, List.getElem_cons_succ]
  refine Lex.want (v := ?_) (by rfl) (fun W hW => ?hd13) ?_
  case hd13 =>
    have hh := HF.out W hW
    clear hW
    go_split_ands
    go_simp
    first | rfl | exact way_new.refl _ | exact way_grow.refl _ | (refine ⟨?_, way_new.refl _⟩; rfl) | (refine ⟨?_, way_grow.refl _⟩; rfl)
  try simp only [Act.put, List.setIfInBounds_toArray, List.set_cons_zero, List.set_cons_succ, List.getElem_toArray, List.getElem_cons_zero, List.getElem_cons_succ]
  refine Lex.want (v := ?_) (by rfl) (fun W hW => ?hd14) ?_
  case hd14 =>
    have hcc := hide (calls_same_way way_grow (H2.out W))
    go_simp
    exact hcc
  try simp only [Act.put, List.setIfInBounds_toArray, List.set_cons_zero, List.set_cons_succ, List.getElem_toArray, List.getElem_cons_zero, List.getElem_cons_succ]
  refine Lex.nil (hKT.out _ ?_)
  clear hKT KT
  refine Reg.done (by kernel_rfl) (fun W _ hW => ⟨by kernel_rfl, ?_⟩)
  simp only [List.drop_succ_cons, List.drop_zero]
  have HW := hide (way_grow.trans HG0.out hW)
  clear hW
  go_wp2_with (go_at_call 52; refine (cmpOr2 _ _ a b _ (by go_simp) (by go_simp)).mono ?_; rintro e w' ⟨rfl, rfl⟩)
  go_ret
  exact ⟨rfl, way_grow.trans HW.out (growW_alloc _ _)⟩
end Go.Proofs.Ytmhmjbggjbeikaa
