/-
  No cell of these rows narrows 'for every input' (looked for: loops, veiled, ifaces, maps, wideKeys, modest, calm, conditions, laid).
  DERIVED. THE GIVEN ROWS OF THIS SEAT. 3 by the template 'for every input the law returns true; each argument reads behind the call as it read before'; 0 by the template 'total and deterministic' (their statements: YmwhaqTotals.lean).
  GIVEN WITH THE SEED: the statements are not yours to turn. If you find one false, say at which input.
  Laid BY PROGRAM, IN A SANDBOX (cutbox-rows.mjs): the forced cells as the released guide's own fill.sh prints them over the translation 23a15773b8cba3d2… (all of the seat's roots in one cut). By AI agents, Wed Nov 11 2026. No macro, syntax, notation, axiom, sorry.
-/
import Derived.Test.YmwhaqChecked
import GoSem.Claim
import GoSem.ClaimJoined
import GoSem.ClaimMapViews
import Derived.JoinedTies
import Derived.KernelRfl
namespace Go.Proofs.Ymwhaq
/- THE CELL 'sum', in the pinned program and in every row, IS THE sha256 OF THE DUMP (.gsa) THAT YmwhaqProg.lean LOADS. Nothing in Lean hashes anything: it is a label: what it is worth is what the hold of that sum in a sandbox is worth. -/
noncomputable def Yaqv.pinned : Pinned := { name := "ymwhaq", sum := "23a15773b8cba3d2d492fef925cf3e97a2777c03610bc20ff04ec6ece60892ae", checked := Yaqv.checked }
namespace Rows
def none {H : Type} : Left H := { results := [], args := [] }

/-- 'bitset.LawS930007QAAWhole': WHATEVER THE INPUT: true; the input reads as it did. -/
def lawS930007QAAWholeSpec : ChangeSpec := { name := "lawS930007QAAWhole", fn := fun _ => fun
  | [d1, d2, d3] => { results := [.lit (.bool true)], args := [d1, d2, d3] }
  | _ => none }
def lawS930007QAAWholeRow : OpenClaim := { program := "ymwhaq", sum := "23a15773b8cba3d2d492fef925cf3e97a2777c03610bc20ff04ec6ece60892ae", func := "example.com/own/bitset.LawS930007QAAWhole", spec := "lawS930007QAAWhole", apart := false }
def LawS930007QAAWholeSaid : Prop := lawS930007QAAWholeRow.holds Yaqv.pinned (OpenSpec.ofChange lawS930007QAAWholeSpec)

/-- ITS FALSE NEIGHBOUR: 'it returns false'. Refute it at one input. -/
def lawS930007QAAWholeWrong : ChangeSpec := { name := "lawS930007QAAWhole", fn := fun _ => fun
  | [d1, d2, d3] => { results := [.lit (.bool false)], args := [d1, d2, d3] }
  | _ => none }
def LawS930007QAAWholeWrongFalsely : Prop := lawS930007QAAWholeRow.holds Yaqv.pinned (OpenSpec.ofChange lawS930007QAAWholeWrong)

/-- 'bitset.LawS930007QABWhole': WHATEVER THE INPUT: true; the input reads as it did. -/
def lawS930007QABWholeSpec : ChangeSpec := { name := "lawS930007QABWhole", fn := fun _ => fun
  | [d1, d2, d3] => { results := [.lit (.bool true)], args := [d1, d2, d3] }
  | _ => none }
def lawS930007QABWholeRow : OpenClaim := { program := "ymwhaq", sum := "23a15773b8cba3d2d492fef925cf3e97a2777c03610bc20ff04ec6ece60892ae", func := "example.com/own/bitset.LawS930007QABWhole", spec := "lawS930007QABWhole", apart := false }
def LawS930007QABWholeSaid : Prop := lawS930007QABWholeRow.holds Yaqv.pinned (OpenSpec.ofChange lawS930007QABWholeSpec)

/-- ITS FALSE NEIGHBOUR: 'it returns false'. Refute it at one input. -/
def lawS930007QABWholeWrong : ChangeSpec := { name := "lawS930007QABWhole", fn := fun _ => fun
  | [d1, d2, d3] => { results := [.lit (.bool false)], args := [d1, d2, d3] }
  | _ => none }
def LawS930007QABWholeWrongFalsely : Prop := lawS930007QABWholeRow.holds Yaqv.pinned (OpenSpec.ofChange lawS930007QABWholeWrong)

/-- 'bitset.LawS930007QACWhole': WHATEVER THE INPUT: true; the input reads as it did. -/
def lawS930007QACWholeSpec : ChangeSpec := { name := "lawS930007QACWhole", fn := fun _ => fun
  | [d] => { results := [.lit (.bool true)], args := [d] }
  | _ => none }
def lawS930007QACWholeRow : OpenClaim := { program := "ymwhaq", sum := "23a15773b8cba3d2d492fef925cf3e97a2777c03610bc20ff04ec6ece60892ae", func := "example.com/own/bitset.LawS930007QACWhole", spec := "lawS930007QACWhole", apart := false }
def LawS930007QACWholeSaid : Prop := lawS930007QACWholeRow.holds Yaqv.pinned (OpenSpec.ofChange lawS930007QACWholeSpec)

/-- ITS FALSE NEIGHBOUR: 'it returns false'. Refute it at one input. -/
def lawS930007QACWholeWrong : ChangeSpec := { name := "lawS930007QACWhole", fn := fun _ => fun
  | [d] => { results := [.lit (.bool false)], args := [d] }
  | _ => none }
def LawS930007QACWholeWrongFalsely : Prop := lawS930007QACWholeRow.holds Yaqv.pinned (OpenSpec.ofChange lawS930007QACWholeWrong)

end Rows
end Go.Proofs.Ymwhaq
