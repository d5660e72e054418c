/- Plain laws for PostTotals: whatever is applied and issued, of each asset there is what was issued; how many keys there may be. No program in sight. -/
import Derived.Test.YtmhmjbggjbeikaaLaw11
import Derived.Test.YtmhmjbggjbeikaaBlock
import Derived.Test.YtmhmjbggjbeikaaLight11
namespace Go.Proofs.Ytmhmjbggjbeikaa
open Go.RowKit

structure EvenLed (L : Led) : Prop where
  good : GoodPos L.m
  apart : Apart L.m
  sum : ∀ a, sumA L.m a = issOf L.iss a
  top : ∀ a, issOf L.iss a ≤ 1152921504606846976

theorem issOf_put2 (l : List (ByteArray × Int)) (a a' : ByteArray) (n : Int) : issOf (put l a n) a' = if a = a' then n else issOf l a' := by
  unfold issOf
  rw [look_put]
  split <;> rfl
theorem EvenLed.nonneg {L : Led} (h : EvenLed L) (a : ByteArray) : 0 ≤ issOf L.iss a := by
  rw [← h.sum a]
  exact sumA_nonneg h.good a
theorem EvenLed.total {L : Led} (h : EvenLed L) (a : ByteArray) : posTotal L.m a = issOf L.iss a := by
  have h1 := h.sum a
  have h2 := h.top a
  have h3 := h.nonneg a
  rw [posTotal_eq h.apart (by omega) (by omega), h1]
theorem even_led0 : EvenLed led0 := ⟨fun p hp => (by cases hp), apart_nil, fun a => rfl, fun a => by
  show (0 : Int) ≤ _
  omega⟩
theorem issue_zero {L : Led} {k : Key} {by_ : Int} (h : issueErr L k by_ = 0) : issOf L.iss k.2 + by_ ≤ 1152921504606846976 ∧ addErr L.m k 0 by_ = 0 := by
  unfold issueErr at h
  split at h
  · omega
  split at h
  · omega
  split at h
  · omega
  · exact ⟨by omega, h⟩
theorem even_issue {L : Led} (h : EvenLed L) (k : Key) (by_ : Int) : EvenLed (issueLed L k by_) := by
  unfold issueLed
  by_cases he : issueErr L k by_ = 0
  · rw [if_neg (not_not_intro he)]
    obtain ⟨h1, h2⟩ := issue_zero he
    refine ⟨good_add h.good _ _ _, apart_add h.apart _ _ _, fun a => ?_, fun a => ?_⟩
    · show sumA (addMap L.m k 0 by_) a = issOf (put L.iss k.2 (issOf L.iss k.2 + by_)) a
      rw [sumA_add h.apart _ _ _ h2, issOf_put2, h.sum a]
      by_cases e : k.2 = a
      · subst e; simp
      · simp [e]
    · show issOf (put L.iss k.2 (issOf L.iss k.2 + by_)) a ≤ _
      rw [issOf_put2]
      split
      · exact h1
      · exact h.top a
  · rw [if_pos he]
    exact h
theorem even_apply {L : Led} (h : EvenLed L) (l : List PPost) : EvenLed (applyLed L l) := by
  by_cases he : lookErr L l = 0
  · obtain ⟨h1, h2, _, h4, h5, _⟩ := apply_does he h.good h.apart
    exact ⟨h1, h2, fun a => by rw [h4, h5]; exact h.sum a, fun a => by rw [h5]; exact h.top a⟩
  · unfold applyLed
    rw [if_pos he]
    exact h
theorem even_block {L : Led} (h : EvenLed L) (k : Key) (on : Bool) : EvenLed (blockLed L k on) := ⟨h.good, h.apart, h.sum, h.top⟩

theorem issue_len (L : Led) (k : Key) (by_ : Int) : (issueLed L k by_).m.length ≤ L.m.length + 1 := by
  unfold issueLed
  split
  · omega
  · exact addMap_length _ _ _ _
theorem fold_len : ∀ (ns : List PNet) (m : List (Key × Three)), (ns.foldl addNet m).length ≤ m.length + ns.length
  | [], m => by simp
  | x :: ns, m => by
    have h1 := fold_len ns (addNet m x)
    have h2 : (addNet m x).length ≤ m.length + 1 := addMap_length _ _ _ _
    rw [List.foldl_cons, List.length_cons]
    omega
theorem nets_len (l : List PPost) : (netsB l).length ≤ l.length := by
  have h1 := congrArg List.length (nets_keys l)
  rw [List.length_map] at h1
  rw [h1]
  unfold partsB
  rw [(sortP_perm _).length_eq, List.length_map]
  exact groups_length _ _ l
theorem apply_len (L : Led) (l : List PPost) : (applyLed L l).m.length ≤ L.m.length + l.length := by
  unfold applyLed
  split
  · omega
  · have := fold_len (netsB l) L.m
    have := nets_len l
    show ((netsB l).foldl addNet L.m).length ≤ _
    omega
/-- What the numbers of postings of the first steps come to. -/
theorem lens_next {l : List POp11} {k : Nat} {o : POp11} (ho : l[k]? = some o) : ((lens l).take (k + 1)).sum = ((lens l).take k).sum + (o.len : Int) := by
  have hk' : (lens l)[k]? = some (o.len : Int) := by simp [lens, ho]
  obtain ⟨q1, q2⟩ := List.getElem?_eq_some_iff.1 hk'
  rw [List.take_succ_eq_append_getElem q1, List.sum_append, q2]
  simp
theorem lens_part (l : List POp11) (k : Nat) : 0 ≤ ((lens l).take k).sum ∧ ((lens l).take k).sum ≤ (lens l).sum := by
  have hn : ∀ x ∈ lens l, 0 ≤ x := fun x hx => by
    obtain ⟨o, _, rfl⟩ := List.mem_map.1 hx
    exact Int.natCast_nonneg _
  have h1 : 0 ≤ ((lens l).take k).sum := sum_nonneg _ (fun x hx => hn x (List.mem_of_mem_take hx))
  have h2 : 0 ≤ ((lens l).drop k).sum := sum_nonneg _ (fun x hx => hn x (List.mem_of_mem_drop hx))
  have h3 : (lens l).sum = ((lens l).take k).sum + ((lens l).drop k).sum := by rw [← List.sum_append, List.take_append_drop]
  exact ⟨h1, by omega⟩
end Go.Proofs.Ytmhmjbggjbeikaa
