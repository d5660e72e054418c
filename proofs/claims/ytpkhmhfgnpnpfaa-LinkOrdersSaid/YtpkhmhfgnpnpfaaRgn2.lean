/- More of the calculus for regions whose order is drawn: two operations that alone may come up. No program in sight. -/
import Derived.Test.YtpkhmhfgnpnpfaaRgn
namespace Go.Proofs.Ytpkhmhfgnpnpfaa
open Go.RowKit
section
variable {P : Program} {ops : Array Oper} {md : Region.Mode} {R : World → World → Prop} {Q : Exit → Act → World → Prop} {n : Nat} {L : Array Bool → Act → World → Prop}
/-- Operations i and j alone may come up: either is carried out first. -/
theorem Reg.two {f : Nat} {listed : Array Bool} {a : Act} {T : World → Prop} {w : World} (i j : Nat) {oi oj : Oper} (hi : ops[i]? = some oi) (hj : ops[j]? = some oj) (hin : i < n) (hjn : j < n) (hr : Region.ready .any ops listed = [i, j])
    (h1 : ∀ W, R w W → T W → ∀ K : Act → World → Prop, Hid (∀ a' w', T w' → (T w' → Reg P ops R Q n L f (listed.setIfInBounds i true) a' T w') → K a' w') → if Region.wanted oi (yielded ops a.tmps) = true then Oper.wp P oi a W K Q else K (a.put oi.dst undef) W)
    (h2 : ∀ W, R w W → T W → ∀ K : Act → World → Prop, Hid (∀ a' w', T w' → (T w' → Reg P ops R Q n L f (listed.setIfInBounds j true) a' T w') → K a' w') → if Region.wanted oj (yielded ops a.tmps) = true then Oper.wp P oj a W K Q else K (a.put oj.dst undef) W) :
    Reg P ops R Q n L (f + 1) listed a T w := fun inv hT hw => by
  refine ⟨by rw [hr]; simp, fun x hx => ?_⟩
  rw [hr] at hx
  have hx2 : x = i ∨ x = j := by simpa using hx
  rcases hx2 with rfl | rfl
  · exact ⟨hin, fun W hW => wpOp_step hi fun K hK => h1 W hW (hT _ _ hW hw) K <| show Hid _ from fun a' w' t1 t2 => hK a' w' ⟨T, fun _ h => h, hT, t1, t2 t1 (inv.set (by rw [hr]; simp) hin) hT t1⟩⟩
  · exact ⟨hjn, fun W hW => wpOp_step hj fun K hK => h2 W hW (hT _ _ hW hw) K <| show Hid _ from fun a' w' t1 t2 => hK a' w' ⟨T, fun _ h => h, hT, t1, t2 t1 (inv.set (by rw [hr]; simp) hjn) hT t1⟩⟩
end
end Go.Proofs.Ytpkhmhfgnpnpfaa
