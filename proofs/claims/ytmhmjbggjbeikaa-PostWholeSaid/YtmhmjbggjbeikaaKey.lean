/- The type api.Key as a map's key; the three parts of a position. -/
import Derived.Test.YtmhmjbggjbeikaaRows
import Derived.Test.YtmhmjbggjbeikaaCore
namespace Go.Proofs.Ytmhmjbggjbeikaa
open Go.RowKit

/-- A key: an account's name, an asset's. -/
abbrev Key := ByteArray × ByteArray
def ekey (k : Key) : Value := .agg #[.string k.1, .string k.2]
/-- A position's parts. -/
abbrev Three := Int × Int × Int
def eval3 (x : Three) : Value := .agg #[.int .i64 x.1, .int .i64 x.2.1, .int .i64 x.2.2]

theorem ekey_inj {x y : Key} (h : ekey x = ekey y) : x = y := by
  unfold ekey at h
  simp at h
  exact Prod.ext h.1 h.2

theorem toList_inj {a b : ByteArray} : a.toList = b.toList ↔ a = b := by
  constructor
  · intro e
    rw [ByteArray.toList_eq, ByteArray.toList_eq] at e
    obtain ⟨⟨x⟩⟩ := a
    obtain ⟨⟨y⟩⟩ := b
    simp only at e
    rw [e]
  · rintro rfl; rfl

theorem key_equalIn (d : Nat) (x y : Key) (w : World) : (Op.equalIn (d + 2) 24 (ekey x) (ekey y)).run Try.prog w = .ok (decide (x = y)) w := by
  simp only [ekey]
  simp [go_sem, toList_inj]
  obtain ⟨x1, x2⟩ := x
  obtain ⟨y1, y2⟩ := y
  by_cases h1 : x1 = y1 <;> by_cases h2 : x2 = y2 <;> simp [h1, h2]

theorem key_equal (x y : Key) (w : World) : (Op.equal 24 (ekey x) (ekey y)).run Try.prog w = .ok (decide (x = y)) w :=
  key_equalIn 9998 x y w

theorem key_checkN (n : Nat) (w : World) (em : Bool) (x : Key) : (Instr.checkKey em (n + 2) 24 (ekey x)).run Try.prog w = .ok () w := by
  have hs : ∀ s, (Instr.checkKey em (n + 1) 9 (.string s)).run Try.prog w = .ok () w := fun s => by
    rw [Instr.checkKey]
    simp [run_underlying Try.underlying9]
  rw [Instr.checkKey]
  simp [run_underlying Try.underlying24, ekey, go_sem, hs]
theorem key_check (w : World) (em : Bool) (x : Key) : (Instr.checkKey em 10000 24 (ekey x)).run Try.prog w = .ok () w := key_checkN 9998 w em x

theorem bytes_beq_self (a : ByteArray) : (a == a) = true := by rw [beq_toListBytes]; simp

theorem keyT : KeyT Try.prog 24 ekey :=
  KeyT.of_equal Try.underlying24 (fun _ _ => rfl) key_equal ekey_inj key_check (fun x => by simp [ekey, Instr.sameBits, bytes_beq_self])
theorem arr3_equalIn (d : Nat) (x y : Three) (w : World) : (Op.equalIn (d + 2) 76 (eval3 x) (eval3 y)).run Try.prog w = .ok (decide (x = y)) w := by
  obtain ⟨x1, x2, x3⟩ := x
  obtain ⟨y1, y2, y3⟩ := y
  simp only [eval3]
  obtain ⟨i, hi⟩ := info_of_underlying Try.underlying3
  have hc : Try.prog.cellsOf 3 = 1 := by kernel_rfl
  have hk : Try.prog.plainKey 3 = true := by kernel_rfl
  have hp : ∀ (xs : Array Value) (off : Nat) (v : Value) w, xs[off]? = some v → (part 3 xs off).run Try.prog w = .ok v w := fun xs off v w h => run_part_plain w hk h
  rw [run_equalIn_array w (d + 1) _ _ Try.underlying76 hi, hc]
  have h1 : ∀ (a b : Int) w, (Op.equalIn (d + 1) 3 (.int .i64 a) (.int .i64 b)).run Try.prog w = .ok (a == b) w := fun a b w => run_equalIn_int w d 3 .i64 .i64 a b Try.underlying3
  have p0 : ∀ (a b c : Int) w, (part 3 #[.int .i64 a, .int .i64 b, .int .i64 c] 0).run Try.prog w = .ok (.int .i64 a) w := fun a b c w => hp _ 0 _ w rfl
  have p1 : ∀ (a b c : Int) w, (part 3 #[.int .i64 a, .int .i64 b, .int .i64 c] 1).run Try.prog w = .ok (.int .i64 b) w := fun a b c w => hp _ 1 _ w rfl
  have p2 : ∀ (a b c : Int) w, (part 3 #[.int .i64 a, .int .i64 b, .int .i64 c] 2).run Try.prog w = .ok (.int .i64 c) w := fun a b c w => hp _ 2 _ w rfl
  simp [List.range, List.range.loop, Op.eqItems, h1, p0, p1, p2]
  by_cases h1 : x1 = y1 <;> by_cases h2 : x2 = y2 <;> by_cases h3 : x3 = y3 <;> simp [h1, h2, h3]
theorem arr3_eq (x y : Three) (h : x = y) (W : World) : (Op.equalIn 10000 76 (eval3 x) (eval3 y)).run Try.prog W = .ok true W := by
  rw [arr3_equalIn 9998, decide_eq_true h]
theorem arr3_ne (x y : Three) (h : x ≠ y) (W : World) : (Op.equalIn 10000 76 (eval3 x) (eval3 y)).run Try.prog W = .ok false W := by
  rw [arr3_equalIn 9998, decide_eq_false h]

end Go.Proofs.Ytmhmjbggjbeikaa
