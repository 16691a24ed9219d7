/-
  No cell of these rows narrows 'for every input' (looked for: loops, veiled, ifaces, maps, wideKeys, modest, calm, conditions, laid).
  DERIVED. THE GIVEN ROWS OF THIS SEAT. 3 by the template 'for every input the law returns true; each argument reads behind the call as it read before'; 0 by the template 'total and deterministic' (their statements: YmwhbcTotals.lean).
  GIVEN WITH THE SEED: the statements are not yours to turn. If you find one false, say at which input.
  Laid BY PROGRAM, IN A SANDBOX (cutbox-rows.mjs): the forced cells as the released guide's own fill.sh prints them over the translation 2b1ebc414804b5ba… (all of the seat's roots in one cut). By AI agents, Wed Nov 11 2026. No macro, syntax, notation, axiom, sorry.
-/
import Derived.Test.YmwhbcChecked
import GoSem.Claim
import GoSem.ClaimJoined
import GoSem.ClaimMapViews
import Derived.JoinedTies
import Derived.KernelRfl
namespace Go.Proofs.Ymwhbc
/- THE CELL 'sum', in the pinned program and in every row, IS THE sha256 OF THE DUMP (.gsa) THAT YmwhbcProg.lean LOADS. Nothing in Lean hashes anything: it is a label: what it is worth is what the hold of that sum in a sandbox is worth. -/
noncomputable def Ybcv.pinned : Pinned := { name := "ymwhbc", sum := "2b1ebc414804b5baa40b64d96b8e79e217f2326974a571486e13e546ebdd58cf", checked := Ybcv.checked }
namespace Rows
def none {H : Type} : Left H := { results := [], args := [] }

/-- 'levenshtein.LawS930020QAAWhole': WHATEVER THE INPUT: true; the input reads as it did. -/
def lawS930020QAAWholeSpec : ChangeSpec := { name := "lawS930020QAAWhole", fn := fun _ => fun
  | [d1, d2, d3, d4] => { results := [.lit (.bool true)], args := [d1, d2, d3, d4] }
  | _ => none }
def lawS930020QAAWholeRow : OpenClaim := { program := "ymwhbc", sum := "2b1ebc414804b5baa40b64d96b8e79e217f2326974a571486e13e546ebdd58cf", func := "example.com/own/levenshtein.LawS930020QAAWhole", spec := "lawS930020QAAWhole", apart := false }
def LawS930020QAAWholeSaid : Prop := lawS930020QAAWholeRow.holds Ybcv.pinned (OpenSpec.ofChange lawS930020QAAWholeSpec)

/-- ITS FALSE NEIGHBOUR: 'it returns false'. Refute it at one input. -/
def lawS930020QAAWholeWrong : ChangeSpec := { name := "lawS930020QAAWhole", fn := fun _ => fun
  | [d1, d2, d3, d4] => { results := [.lit (.bool false)], args := [d1, d2, d3, d4] }
  | _ => none }
def LawS930020QAAWholeWrongFalsely : Prop := lawS930020QAAWholeRow.holds Ybcv.pinned (OpenSpec.ofChange lawS930020QAAWholeWrong)

/-- 'levenshtein.LawS930020QACWhole': WHATEVER THE INPUT: true; the input reads as it did. -/
def lawS930020QACWholeSpec : ChangeSpec := { name := "lawS930020QACWhole", fn := fun _ => fun
  | [d1, d2] => { results := [.lit (.bool true)], args := [d1, d2] }
  | _ => none }
def lawS930020QACWholeRow : OpenClaim := { program := "ymwhbc", sum := "2b1ebc414804b5baa40b64d96b8e79e217f2326974a571486e13e546ebdd58cf", func := "example.com/own/levenshtein.LawS930020QACWhole", spec := "lawS930020QACWhole", apart := false }
def LawS930020QACWholeSaid : Prop := lawS930020QACWholeRow.holds Ybcv.pinned (OpenSpec.ofChange lawS930020QACWholeSpec)

/-- ITS FALSE NEIGHBOUR: 'it returns false'. Refute it at one input. -/
def lawS930020QACWholeWrong : ChangeSpec := { name := "lawS930020QACWhole", fn := fun _ => fun
  | [d1, d2] => { results := [.lit (.bool false)], args := [d1, d2] }
  | _ => none }
def LawS930020QACWholeWrongFalsely : Prop := lawS930020QACWholeRow.holds Ybcv.pinned (OpenSpec.ofChange lawS930020QACWholeWrong)

/-- 'levenshtein.LawS930020QABWhole': WHATEVER THE INPUT: true; the input reads as it did. -/
def lawS930020QABWholeSpec : ChangeSpec := { name := "lawS930020QABWhole", fn := fun _ => fun
  | [d1, d2] => { results := [.lit (.bool true)], args := [d1, d2] }
  | _ => none }
def lawS930020QABWholeRow : OpenClaim := { program := "ymwhbc", sum := "2b1ebc414804b5baa40b64d96b8e79e217f2326974a571486e13e546ebdd58cf", func := "example.com/own/levenshtein.LawS930020QABWhole", spec := "lawS930020QABWhole", apart := false }
def LawS930020QABWholeSaid : Prop := lawS930020QABWholeRow.holds Ybcv.pinned (OpenSpec.ofChange lawS930020QABWholeSpec)

/-- ITS FALSE NEIGHBOUR: 'it returns false'. Refute it at one input. -/
def lawS930020QABWholeWrong : ChangeSpec := { name := "lawS930020QABWhole", fn := fun _ => fun
  | [d1, d2] => { results := [.lit (.bool false)], args := [d1, d2] }
  | _ => none }
def LawS930020QABWholeWrongFalsely : Prop := lawS930020QABWholeRow.holds Ybcv.pinned (OpenSpec.ofChange lawS930020QABWholeWrong)

end Rows
end Go.Proofs.Ymwhbc
