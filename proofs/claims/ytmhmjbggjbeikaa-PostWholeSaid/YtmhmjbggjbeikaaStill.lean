/- A region that draws its order, whose last operations come in one forced order: its head only reads. -/
import Derived.StillTailTactics
import Derived.WalkKit
namespace Go.Proofs.Ytmhmjbggjbeikaa
open Go.RowKit
theorem region_still_tail {P : Program} {id : Nat} {Q : Exit → Act → World → Prop} {a : Act} {w : World} {l : List Oper} (n : Nat) (hm : P.follows .mixedOrders = true) (hB : Region.lexTailB .any l.toArray n = true)
    (h : ∀ K : Act → Prop, (∀ a', wpList P l.toArray Q (l.drop n) a' w.drew → K a') → wpStill P l.toArray w.drew K (l.take n) a) : (Code.region id l.toArray true).wp P Q a w :=
  wp_region_still_tail n hm hB (h _ fun _ h => h)
end Go.Proofs.Ytmhmjbggjbeikaa
