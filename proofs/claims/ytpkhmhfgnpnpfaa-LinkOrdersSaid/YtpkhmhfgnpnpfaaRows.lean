/-
  No cell of these rows narrows 'for every input' (looked for: loops, veiled, ifaces, maps, wideKeys, modest, calm, conditions, laid).
  DERIVED. THE GIVEN ROWS OF THIS SEAT. 9 by the template 'for every input the law returns true; each argument reads behind the call as it read before'; 0 by the template 'total and deterministic' (their statements: YtpkhmhfgnpnpfaaTotals.lean).
  GIVEN WITH THE SEED: the statements are not yours to turn. If you find one false, say at which input.
  Laid BY PROGRAM, IN A SANDBOX (cutbox-rows.mjs): the forced cells as the released guide's own fill.sh prints them over the translation 1b5fb24453307dbd… (all of the seat's roots in one cut). By AI agents, Wed Nov 11 2026. No macro, syntax, notation, axiom, sorry.
-/
import Derived.Test.YtpkhmhfgnpnpfaaChecked
import GoSem.Claim
import GoSem.ClaimJoined
import GoSem.ClaimMapViews
import Derived.JoinedTies
import Derived.KernelRfl
namespace Go.Proofs.Ytpkhmhfgnpnpfaa
/- THE CELL 'sum', in the pinned program and in every row, IS THE sha256 OF THE DUMP (.gsa) THAT YtpkhmhfgnpnpfaaProg.lean LOADS. Nothing in Lean hashes anything: it is a label: what it is worth is what the hold of that sum in a sandbox is worth. -/
noncomputable def Try.pinned : Pinned := { name := "ytpkhmhfgnpnpfaa", sum := "1b5fb24453307dbd752ccf3f2ae808d7014ecc1872a8923182a65a14a036bd38", checked := Try.checked }
namespace Rows
def none {H : Type} : Left H := { results := [], args := [] }

/-- 'complinelaw18.LinkNear': WHATEVER THE INPUT: true; the input reads as it did. -/
def linkNearSpec : ChangeSpec := { name := "linkNear", fn := fun _ => fun
  | [d1, d2] => { results := [.lit (.bool true)], args := [d1, d2] }
  | _ => none }
def linkNearRow : OpenClaim := { program := "ytpkhmhfgnpnpfaa", sum := "1b5fb24453307dbd752ccf3f2ae808d7014ecc1872a8923182a65a14a036bd38", func := "compline/complinelaw18.LinkNear", spec := "linkNear", unfollowed := true, recurses := true, plainKeys := false, apart := false }
def LinkNearSaid : Prop := linkNearRow.holds Try.pinned (OpenSpec.ofChange linkNearSpec)

/-- ITS FALSE NEIGHBOUR: 'it returns false'. Refute it at one input. -/
def linkNearWrong : ChangeSpec := { name := "linkNear", fn := fun _ => fun
  | [d1, d2] => { results := [.lit (.bool false)], args := [d1, d2] }
  | _ => none }
def LinkNearWrongFalsely : Prop := linkNearRow.holds Try.pinned (OpenSpec.ofChange linkNearWrong)

/-- 'complinelaw18.LinkOrders': WHATEVER THE INPUT: true; the input reads as it did. -/
def linkOrdersSpec : ChangeSpec := { name := "linkOrders", fn := fun _ => fun
  | [d1, d2] => { results := [.lit (.bool true)], args := [d1, d2] }
  | _ => none }
def linkOrdersRow : OpenClaim := { program := "ytpkhmhfgnpnpfaa", sum := "1b5fb24453307dbd752ccf3f2ae808d7014ecc1872a8923182a65a14a036bd38", func := "compline/complinelaw18.LinkOrders", spec := "linkOrders", unfollowed := true, recurses := true, plainKeys := false, apart := false }
def LinkOrdersSaid : Prop := linkOrdersRow.holds Try.pinned (OpenSpec.ofChange linkOrdersSpec)

/-- ITS FALSE NEIGHBOUR: 'it returns false'. Refute it at one input. -/
def linkOrdersWrong : ChangeSpec := { name := "linkOrders", fn := fun _ => fun
  | [d1, d2] => { results := [.lit (.bool false)], args := [d1, d2] }
  | _ => none }
def LinkOrdersWrongFalsely : Prop := linkOrdersRow.holds Try.pinned (OpenSpec.ofChange linkOrdersWrong)

/-- 'complinelaw18.LinkTries': WHATEVER THE INPUT: true; the input reads as it did. -/
def linkTriesSpec : ChangeSpec := { name := "linkTries", fn := fun _ => fun
  | [d1, d2, d3] => { results := [.lit (.bool true)], args := [d1, d2, d3] }
  | _ => none }
def linkTriesRow : OpenClaim := { program := "ytpkhmhfgnpnpfaa", sum := "1b5fb24453307dbd752ccf3f2ae808d7014ecc1872a8923182a65a14a036bd38", func := "compline/complinelaw18.LinkTries", spec := "linkTries", unfollowed := true, recurses := true, plainKeys := false, apart := false }
def LinkTriesSaid : Prop := linkTriesRow.holds Try.pinned (OpenSpec.ofChange linkTriesSpec)

/-- ITS FALSE NEIGHBOUR: 'it returns false'. Refute it at one input. -/
def linkTriesWrong : ChangeSpec := { name := "linkTries", fn := fun _ => fun
  | [d1, d2, d3] => { results := [.lit (.bool false)], args := [d1, d2, d3] }
  | _ => none }
def LinkTriesWrongFalsely : Prop := linkTriesRow.holds Try.pinned (OpenSpec.ofChange linkTriesWrong)

/-- 'complinelaw18.LinkNone': WHATEVER THE INPUT: true; the input reads as it did. -/
def linkNoneSpec : ChangeSpec := { name := "linkNone", fn := fun _ => fun
  | [d1, d2] => { results := [.lit (.bool true)], args := [d1, d2] }
  | _ => none }
def linkNoneRow : OpenClaim := { program := "ytpkhmhfgnpnpfaa", sum := "1b5fb24453307dbd752ccf3f2ae808d7014ecc1872a8923182a65a14a036bd38", func := "compline/complinelaw18.LinkNone", spec := "linkNone", unfollowed := true, recurses := true, plainKeys := false, apart := false }
def LinkNoneSaid : Prop := linkNoneRow.holds Try.pinned (OpenSpec.ofChange linkNoneSpec)

/-- ITS FALSE NEIGHBOUR: 'it returns false'. Refute it at one input. -/
def linkNoneWrong : ChangeSpec := { name := "linkNone", fn := fun _ => fun
  | [d1, d2] => { results := [.lit (.bool false)], args := [d1, d2] }
  | _ => none }
def LinkNoneWrongFalsely : Prop := linkNoneRow.holds Try.pinned (OpenSpec.ofChange linkNoneWrong)

/-- 'complinelaw21.CreditApart': WHATEVER THE INPUT: true; the input reads as it did. -/
def creditApartSpec : ChangeSpec := { name := "creditApart", fn := fun _ => fun
  | [d] => { results := [.lit (.bool true)], args := [d] }
  | _ => none }
def creditApartRow : OpenClaim := { program := "ytpkhmhfgnpnpfaa", sum := "1b5fb24453307dbd752ccf3f2ae808d7014ecc1872a8923182a65a14a036bd38", func := "compline/complinelaw21.CreditApart", spec := "creditApart", inPlace := ["math/bits.Add64"], unfollowed := true, recurses := true, plainKeys := false, apart := false }
def CreditApartSaid : Prop := creditApartRow.holds Try.pinned (OpenSpec.ofChange creditApartSpec)

/-- ITS FALSE NEIGHBOUR: 'it returns false'. Refute it at one input. -/
def creditApartWrong : ChangeSpec := { name := "creditApart", fn := fun _ => fun
  | [d] => { results := [.lit (.bool false)], args := [d] }
  | _ => none }
def CreditApartWrongFalsely : Prop := creditApartRow.holds Try.pinned (OpenSpec.ofChange creditApartWrong)

/-- 'complinelaw21.CreditNone': WHATEVER THE INPUT: true; the input reads as it did. -/
def creditNoneSpec : ChangeSpec := { name := "creditNone", fn := fun _ => fun
  | [d] => { results := [.lit (.bool true)], args := [d] }
  | _ => none }
def creditNoneRow : OpenClaim := { program := "ytpkhmhfgnpnpfaa", sum := "1b5fb24453307dbd752ccf3f2ae808d7014ecc1872a8923182a65a14a036bd38", func := "compline/complinelaw21.CreditNone", spec := "creditNone", inPlace := ["math/bits.Add64"], unfollowed := true, recurses := true, plainKeys := false, apart := false }
def CreditNoneSaid : Prop := creditNoneRow.holds Try.pinned (OpenSpec.ofChange creditNoneSpec)

/-- ITS FALSE NEIGHBOUR: 'it returns false'. Refute it at one input. -/
def creditNoneWrong : ChangeSpec := { name := "creditNone", fn := fun _ => fun
  | [d] => { results := [.lit (.bool false)], args := [d] }
  | _ => none }
def CreditNoneWrongFalsely : Prop := creditNoneRow.holds Try.pinned (OpenSpec.ofChange creditNoneWrong)

/-- 'complinelaw21.CreditAdds': WHATEVER THE INPUT: true; the input reads as it did. -/
def creditAddsSpec : ChangeSpec := { name := "creditAdds", fn := fun _ => fun
  | [d] => { results := [.lit (.bool true)], args := [d] }
  | _ => none }
def creditAddsRow : OpenClaim := { program := "ytpkhmhfgnpnpfaa", sum := "1b5fb24453307dbd752ccf3f2ae808d7014ecc1872a8923182a65a14a036bd38", func := "compline/complinelaw21.CreditAdds", spec := "creditAdds", inPlace := ["math/bits.Add64"], unfollowed := true, recurses := true, plainKeys := false, apart := false }
def CreditAddsSaid : Prop := creditAddsRow.holds Try.pinned (OpenSpec.ofChange creditAddsSpec)

/-- ITS FALSE NEIGHBOUR: 'it returns false'. Refute it at one input. -/
def creditAddsWrong : ChangeSpec := { name := "creditAdds", fn := fun _ => fun
  | [d] => { results := [.lit (.bool false)], args := [d] }
  | _ => none }
def CreditAddsWrongFalsely : Prop := creditAddsRow.holds Try.pinned (OpenSpec.ofChange creditAddsWrong)

/-- 'complinelaw19.SeqOrders': WHATEVER THE INPUT: true; the input reads as it did. -/
def seqOrdersSpec : ChangeSpec := { name := "seqOrders", fn := fun _ => fun
  | [d1, d2, d3, d4] => { results := [.lit (.bool true)], args := [d1, d2, d3, d4] }
  | _ => none }
def seqOrdersRow : OpenClaim := { program := "ytpkhmhfgnpnpfaa", sum := "1b5fb24453307dbd752ccf3f2ae808d7014ecc1872a8923182a65a14a036bd38", func := "compline/complinelaw19.SeqOrders", spec := "seqOrders", unfollowed := true, recurses := true, plainKeys := false, apart := false }
def SeqOrdersSaid : Prop := seqOrdersRow.holds Try.pinned (OpenSpec.ofChange seqOrdersSpec)

/-- ITS FALSE NEIGHBOUR: 'it returns false'. Refute it at one input. -/
def seqOrdersWrong : ChangeSpec := { name := "seqOrders", fn := fun _ => fun
  | [d1, d2, d3, d4] => { results := [.lit (.bool false)], args := [d1, d2, d3, d4] }
  | _ => none }
def SeqOrdersWrongFalsely : Prop := seqOrdersRow.holds Try.pinned (OpenSpec.ofChange seqOrdersWrong)

/-- 'complinelaw19.SeqParts': WHATEVER THE INPUT: true; the input reads as it did. -/
def seqPartsSpec : ChangeSpec := { name := "seqParts", fn := fun _ => fun
  | [d1, d2, d3] => { results := [.lit (.bool true)], args := [d1, d2, d3] }
  | _ => none }
def seqPartsRow : OpenClaim := { program := "ytpkhmhfgnpnpfaa", sum := "1b5fb24453307dbd752ccf3f2ae808d7014ecc1872a8923182a65a14a036bd38", func := "compline/complinelaw19.SeqParts", spec := "seqParts", unfollowed := true, recurses := true, plainKeys := false, apart := false }
def SeqPartsSaid : Prop := seqPartsRow.holds Try.pinned (OpenSpec.ofChange seqPartsSpec)

/-- ITS FALSE NEIGHBOUR: 'it returns false'. Refute it at one input. -/
def seqPartsWrong : ChangeSpec := { name := "seqParts", fn := fun _ => fun
  | [d1, d2, d3] => { results := [.lit (.bool false)], args := [d1, d2, d3] }
  | _ => none }
def SeqPartsWrongFalsely : Prop := seqPartsRow.holds Try.pinned (OpenSpec.ofChange seqPartsWrong)

/- THE SECOND FORM. 'bulk': how many values and letters a reading holds, each counted each time it is reached (what is shared counts as often as it is met; a slice's spare places count too). A statement '..UptoSaid' is the law's where the arguments, and the package variables that the reading takes, are together of bulk at most 1048576: NARROWER than '..Said'. Prove '..Said' where nothing that the law and all that it calls make is longer than what came in: it says more and counts as full. Else prove '..UptoSaid'. A law counts once. -/
mutual
def uptoBulk {H : Type} : DataW H → Nat
  | .lit (.string bytes) => bytes.length + 1
  | .lit _ => 1
  | .nil => 1
  | .ptr d => uptoBulk d + 1
  | .slice elems spare => uptoBulkAll elems + uptoBulkAll spare + 1
  | .agg parts => uptoBulkAll parts + 1
  | .iface _ d => uptoBulk d + 1
  | .map entries => uptoBulkEntries entries + 1
  | .held _ => 1
def uptoBulkAll {H : Type} : List (DataW H) → Nat
  | [] => 0
  | d :: r => uptoBulk d + uptoBulkAll r
def uptoBulkEntries {H : Type} : List (Lit × DataW H) → Nat
  | [] => 0
  | x :: r => uptoBulkEntry x + uptoBulkEntries r
def uptoBulkEntry {H : Type} : Lit × DataW H → Nat
  | (.string bytes, d) => bytes.length + uptoBulk d + 1
  | (_, d) => uptoBulk d + 1
 end
def uptoSmall : (H : Type) → List (DataW H) → Bool := fun _ ds => decide (uptoBulkAll ds ≤ 1048576)
def OpenSpec.upto (s : _root_.Go.ChangeSpec) : _root_.Go.OpenSpec := { _root_.Go.OpenSpec.ofChange s with cond := some uptoSmall }

/-- 'complinelaw18.LinkNear', WHERE WHAT IT READS IS OF BULK AT MOST 1048576: true; the input reads as it did. -/
def linkNearUptoRow : OpenClaim := { program := "ytpkhmhfgnpnpfaa", sum := "1b5fb24453307dbd752ccf3f2ae808d7014ecc1872a8923182a65a14a036bd38", func := "compline/complinelaw18.LinkNear", spec := "linkNear", unfollowed := true, recurses := true, plainKeys := false, apart := false, narrowed := true }
def LinkNearUptoSaid : Prop := linkNearUptoRow.holds Try.pinned (OpenSpec.upto linkNearSpec)

/-- 'complinelaw18.LinkOrders', WHERE WHAT IT READS IS OF BULK AT MOST 1048576: true; the input reads as it did. -/
def linkOrdersUptoRow : OpenClaim := { program := "ytpkhmhfgnpnpfaa", sum := "1b5fb24453307dbd752ccf3f2ae808d7014ecc1872a8923182a65a14a036bd38", func := "compline/complinelaw18.LinkOrders", spec := "linkOrders", unfollowed := true, recurses := true, plainKeys := false, apart := false, narrowed := true }
def LinkOrdersUptoSaid : Prop := linkOrdersUptoRow.holds Try.pinned (OpenSpec.upto linkOrdersSpec)

/-- 'complinelaw18.LinkTries', WHERE WHAT IT READS IS OF BULK AT MOST 1048576: true; the input reads as it did. -/
def linkTriesUptoRow : OpenClaim := { program := "ytpkhmhfgnpnpfaa", sum := "1b5fb24453307dbd752ccf3f2ae808d7014ecc1872a8923182a65a14a036bd38", func := "compline/complinelaw18.LinkTries", spec := "linkTries", unfollowed := true, recurses := true, plainKeys := false, apart := false, narrowed := true }
def LinkTriesUptoSaid : Prop := linkTriesUptoRow.holds Try.pinned (OpenSpec.upto linkTriesSpec)

/-- 'complinelaw18.LinkNone', WHERE WHAT IT READS IS OF BULK AT MOST 1048576: true; the input reads as it did. -/
def linkNoneUptoRow : OpenClaim := { program := "ytpkhmhfgnpnpfaa", sum := "1b5fb24453307dbd752ccf3f2ae808d7014ecc1872a8923182a65a14a036bd38", func := "compline/complinelaw18.LinkNone", spec := "linkNone", unfollowed := true, recurses := true, plainKeys := false, apart := false, narrowed := true }
def LinkNoneUptoSaid : Prop := linkNoneUptoRow.holds Try.pinned (OpenSpec.upto linkNoneSpec)

/-- 'complinelaw21.CreditApart', WHERE WHAT IT READS IS OF BULK AT MOST 1048576: true; the input reads as it did. -/
def creditApartUptoRow : OpenClaim := { program := "ytpkhmhfgnpnpfaa", sum := "1b5fb24453307dbd752ccf3f2ae808d7014ecc1872a8923182a65a14a036bd38", func := "compline/complinelaw21.CreditApart", spec := "creditApart", inPlace := ["math/bits.Add64"], unfollowed := true, recurses := true, plainKeys := false, apart := false, narrowed := true }
def CreditApartUptoSaid : Prop := creditApartUptoRow.holds Try.pinned (OpenSpec.upto creditApartSpec)

/-- 'complinelaw21.CreditNone', WHERE WHAT IT READS IS OF BULK AT MOST 1048576: true; the input reads as it did. -/
def creditNoneUptoRow : OpenClaim := { program := "ytpkhmhfgnpnpfaa", sum := "1b5fb24453307dbd752ccf3f2ae808d7014ecc1872a8923182a65a14a036bd38", func := "compline/complinelaw21.CreditNone", spec := "creditNone", inPlace := ["math/bits.Add64"], unfollowed := true, recurses := true, plainKeys := false, apart := false, narrowed := true }
def CreditNoneUptoSaid : Prop := creditNoneUptoRow.holds Try.pinned (OpenSpec.upto creditNoneSpec)

/-- 'complinelaw21.CreditAdds', WHERE WHAT IT READS IS OF BULK AT MOST 1048576: true; the input reads as it did. -/
def creditAddsUptoRow : OpenClaim := { program := "ytpkhmhfgnpnpfaa", sum := "1b5fb24453307dbd752ccf3f2ae808d7014ecc1872a8923182a65a14a036bd38", func := "compline/complinelaw21.CreditAdds", spec := "creditAdds", inPlace := ["math/bits.Add64"], unfollowed := true, recurses := true, plainKeys := false, apart := false, narrowed := true }
def CreditAddsUptoSaid : Prop := creditAddsUptoRow.holds Try.pinned (OpenSpec.upto creditAddsSpec)

/-- 'complinelaw19.SeqOrders', WHERE WHAT IT READS IS OF BULK AT MOST 1048576: true; the input reads as it did. -/
def seqOrdersUptoRow : OpenClaim := { program := "ytpkhmhfgnpnpfaa", sum := "1b5fb24453307dbd752ccf3f2ae808d7014ecc1872a8923182a65a14a036bd38", func := "compline/complinelaw19.SeqOrders", spec := "seqOrders", unfollowed := true, recurses := true, plainKeys := false, apart := false, narrowed := true }
def SeqOrdersUptoSaid : Prop := seqOrdersUptoRow.holds Try.pinned (OpenSpec.upto seqOrdersSpec)

/-- 'complinelaw19.SeqParts', WHERE WHAT IT READS IS OF BULK AT MOST 1048576: true; the input reads as it did. -/
def seqPartsUptoRow : OpenClaim := { program := "ytpkhmhfgnpnpfaa", sum := "1b5fb24453307dbd752ccf3f2ae808d7014ecc1872a8923182a65a14a036bd38", func := "compline/complinelaw19.SeqParts", spec := "seqParts", unfollowed := true, recurses := true, plainKeys := false, apart := false, narrowed := true }
def SeqPartsUptoSaid : Prop := seqPartsUptoRow.holds Try.pinned (OpenSpec.upto seqPartsSpec)

end Rows
end Go.Proofs.Ytpkhmhfgnpnpfaa
