/-
  No cell of these rows narrows 'for every input' (looked for: loops, veiled, ifaces, maps, wideKeys, modest, calm, conditions, laid).
  DERIVED. THE GIVEN ROWS OF THIS SEAT. 8 by the template 'for every input the law returns true; each argument reads behind the call as it read before'; 0 by the template 'total and deterministic' (their statements: YmbrchTotals.lean).
  GIVEN WITH THE SEED: the statements are not yours to turn. If you find one false, say at which input.
  Laid BY PROGRAM, IN A SANDBOX (cutbox-rows.mjs): the forced cells as the released guide's own fill.sh prints them over the translation 569bf7cbd34c91f7… (all of the seat's roots in one cut). By AI agents, Wed Nov 11 2026. No macro, syntax, notation, axiom, sorry.
-/
import Derived.Test.YmbrchChecked
import GoSem.Claim
import GoSem.ClaimJoined
import GoSem.ClaimMapViews
import Derived.JoinedTies
import Derived.KernelRfl
namespace Go.Proofs.Ymbrch
/- THE CELL 'sum', in the pinned program and in every row, IS THE sha256 OF THE DUMP (.gsa) THAT YmbrchProg.lean LOADS. Nothing in Lean hashes anything: it is a label: what it is worth is what the hold of that sum in a sandbox is worth. -/
noncomputable def Ychm.pinned : Pinned := { name := "ymbrch", sum := "569bf7cbd34c91f7767afa745902799819008d50ec1c9a46d0f29d9357967bfa", checked := Ychm.checked }
namespace Rows
def none {H : Type} : Left H := { results := [], args := [] }

/-- 'huff.LawS930022JExact': WHATEVER THE INPUT: true; the input reads as it did. -/
def lawS930022JExactSpec : ChangeSpec := { name := "lawS930022JExact", fn := fun _ => fun
  | [d1, d2, d3, d4, d5] => { results := [.lit (.bool true)], args := [d1, d2, d3, d4, d5] }
  | _ => none }
def lawS930022JExactRow : OpenClaim := { program := "ymbrch", sum := "569bf7cbd34c91f7767afa745902799819008d50ec1c9a46d0f29d9357967bfa", func := "example.com/own/huff.LawS930022JExact", spec := "lawS930022JExact", apart := false }
def LawS930022JExactSaid : Prop := lawS930022JExactRow.holds Ychm.pinned (OpenSpec.ofChange lawS930022JExactSpec)

/-- ITS FALSE NEIGHBOUR: 'it returns false'. Refute it at one input. -/
def lawS930022JExactWrong : ChangeSpec := { name := "lawS930022JExact", fn := fun _ => fun
  | [d1, d2, d3, d4, d5] => { results := [.lit (.bool false)], args := [d1, d2, d3, d4, d5] }
  | _ => none }
def LawS930022JExactWrongFalsely : Prop := lawS930022JExactRow.holds Ychm.pinned (OpenSpec.ofChange lawS930022JExactWrong)

/-- 'huff.LawS930022JRefuses': WHATEVER THE INPUT: true; the input reads as it did. -/
def lawS930022JRefusesSpec : ChangeSpec := { name := "lawS930022JRefuses", fn := fun _ => fun
  | [d1, d2, d3, d4, d5] => { results := [.lit (.bool true)], args := [d1, d2, d3, d4, d5] }
  | _ => none }
def lawS930022JRefusesRow : OpenClaim := { program := "ymbrch", sum := "569bf7cbd34c91f7767afa745902799819008d50ec1c9a46d0f29d9357967bfa", func := "example.com/own/huff.LawS930022JRefuses", spec := "lawS930022JRefuses", apart := false }
def LawS930022JRefusesSaid : Prop := lawS930022JRefusesRow.holds Ychm.pinned (OpenSpec.ofChange lawS930022JRefusesSpec)

/-- ITS FALSE NEIGHBOUR: 'it returns false'. Refute it at one input. -/
def lawS930022JRefusesWrong : ChangeSpec := { name := "lawS930022JRefuses", fn := fun _ => fun
  | [d1, d2, d3, d4, d5] => { results := [.lit (.bool false)], args := [d1, d2, d3, d4, d5] }
  | _ => none }
def LawS930022JRefusesWrongFalsely : Prop := lawS930022JRefusesRow.holds Ychm.pinned (OpenSpec.ofChange lawS930022JRefusesWrong)

/-- 'huff.LawS930022JJoins': WHATEVER THE INPUT: true; the input reads as it did. -/
def lawS930022JJoinsSpec : ChangeSpec := { name := "lawS930022JJoins", fn := fun _ => fun
  | [d] => { results := [.lit (.bool true)], args := [d] }
  | _ => none }
def lawS930022JJoinsRow : OpenClaim := { program := "ymbrch", sum := "569bf7cbd34c91f7767afa745902799819008d50ec1c9a46d0f29d9357967bfa", func := "example.com/own/huff.LawS930022JJoins", spec := "lawS930022JJoins", apart := false }
def LawS930022JJoinsSaid : Prop := lawS930022JJoinsRow.holds Ychm.pinned (OpenSpec.ofChange lawS930022JJoinsSpec)

/-- ITS FALSE NEIGHBOUR: 'it returns false'. Refute it at one input. -/
def lawS930022JJoinsWrong : ChangeSpec := { name := "lawS930022JJoins", fn := fun _ => fun
  | [d] => { results := [.lit (.bool false)], args := [d] }
  | _ => none }
def LawS930022JJoinsWrongFalsely : Prop := lawS930022JJoinsRow.holds Ychm.pinned (OpenSpec.ofChange lawS930022JJoinsWrong)

/-- 'huff.LawS930022KExact': WHATEVER THE INPUT: true; the input reads as it did. -/
def lawS930022KExactSpec : ChangeSpec := { name := "lawS930022KExact", fn := fun _ => fun
  | [d1, d2, d3, d4, d5] => { results := [.lit (.bool true)], args := [d1, d2, d3, d4, d5] }
  | _ => none }
def lawS930022KExactRow : OpenClaim := { program := "ymbrch", sum := "569bf7cbd34c91f7767afa745902799819008d50ec1c9a46d0f29d9357967bfa", func := "example.com/own/huff.LawS930022KExact", spec := "lawS930022KExact", apart := false }
def LawS930022KExactSaid : Prop := lawS930022KExactRow.holds Ychm.pinned (OpenSpec.ofChange lawS930022KExactSpec)

/-- ITS FALSE NEIGHBOUR: 'it returns false'. Refute it at one input. -/
def lawS930022KExactWrong : ChangeSpec := { name := "lawS930022KExact", fn := fun _ => fun
  | [d1, d2, d3, d4, d5] => { results := [.lit (.bool false)], args := [d1, d2, d3, d4, d5] }
  | _ => none }
def LawS930022KExactWrongFalsely : Prop := lawS930022KExactRow.holds Ychm.pinned (OpenSpec.ofChange lawS930022KExactWrong)

/-- 'huff.LawS930022KRoundTrip': WHATEVER THE INPUT: true; the input reads as it did. -/
def lawS930022KRoundTripSpec : ChangeSpec := { name := "lawS930022KRoundTrip", fn := fun _ => fun
  | [d1, d2, d3, d4] => { results := [.lit (.bool true)], args := [d1, d2, d3, d4] }
  | _ => none }
def lawS930022KRoundTripRow : OpenClaim := { program := "ymbrch", sum := "569bf7cbd34c91f7767afa745902799819008d50ec1c9a46d0f29d9357967bfa", func := "example.com/own/huff.LawS930022KRoundTrip", spec := "lawS930022KRoundTrip", apart := false }
def LawS930022KRoundTripSaid : Prop := lawS930022KRoundTripRow.holds Ychm.pinned (OpenSpec.ofChange lawS930022KRoundTripSpec)

/-- ITS FALSE NEIGHBOUR: 'it returns false'. Refute it at one input. -/
def lawS930022KRoundTripWrong : ChangeSpec := { name := "lawS930022KRoundTrip", fn := fun _ => fun
  | [d1, d2, d3, d4] => { results := [.lit (.bool false)], args := [d1, d2, d3, d4] }
  | _ => none }
def LawS930022KRoundTripWrongFalsely : Prop := lawS930022KRoundTripRow.holds Ychm.pinned (OpenSpec.ofChange lawS930022KRoundTripWrong)

/-- 'huff.LawS930022LExact': WHATEVER THE INPUT: true; the input reads as it did. -/
def lawS930022LExactSpec : ChangeSpec := { name := "lawS930022LExact", fn := fun _ => fun
  | [d] => { results := [.lit (.bool true)], args := [d] }
  | _ => none }
def lawS930022LExactRow : OpenClaim := { program := "ymbrch", sum := "569bf7cbd34c91f7767afa745902799819008d50ec1c9a46d0f29d9357967bfa", func := "example.com/own/huff.LawS930022LExact", spec := "lawS930022LExact", apart := false }
def LawS930022LExactSaid : Prop := lawS930022LExactRow.holds Ychm.pinned (OpenSpec.ofChange lawS930022LExactSpec)

/-- ITS FALSE NEIGHBOUR: 'it returns false'. Refute it at one input. -/
def lawS930022LExactWrong : ChangeSpec := { name := "lawS930022LExact", fn := fun _ => fun
  | [d] => { results := [.lit (.bool false)], args := [d] }
  | _ => none }
def LawS930022LExactWrongFalsely : Prop := lawS930022LExactRow.holds Ychm.pinned (OpenSpec.ofChange lawS930022LExactWrong)

/-- 'huff.LawS930022LBoundary': WHATEVER THE INPUT: true; the input reads as it did. -/
def lawS930022LBoundarySpec : ChangeSpec := { name := "lawS930022LBoundary", fn := fun _ => fun
  | [d] => { results := [.lit (.bool true)], args := [d] }
  | _ => none }
def lawS930022LBoundaryRow : OpenClaim := { program := "ymbrch", sum := "569bf7cbd34c91f7767afa745902799819008d50ec1c9a46d0f29d9357967bfa", func := "example.com/own/huff.LawS930022LBoundary", spec := "lawS930022LBoundary", apart := false }
def LawS930022LBoundarySaid : Prop := lawS930022LBoundaryRow.holds Ychm.pinned (OpenSpec.ofChange lawS930022LBoundarySpec)

/-- ITS FALSE NEIGHBOUR: 'it returns false'. Refute it at one input. -/
def lawS930022LBoundaryWrong : ChangeSpec := { name := "lawS930022LBoundary", fn := fun _ => fun
  | [d] => { results := [.lit (.bool false)], args := [d] }
  | _ => none }
def LawS930022LBoundaryWrongFalsely : Prop := lawS930022LBoundaryRow.holds Ychm.pinned (OpenSpec.ofChange lawS930022LBoundaryWrong)

/-- 'huff.LawS930022LConcat': WHATEVER THE INPUT: true; the input reads as it did. -/
def lawS930022LConcatSpec : ChangeSpec := { name := "lawS930022LConcat", fn := fun _ => fun
  | [d1, d2] => { results := [.lit (.bool true)], args := [d1, d2] }
  | _ => none }
def lawS930022LConcatRow : OpenClaim := { program := "ymbrch", sum := "569bf7cbd34c91f7767afa745902799819008d50ec1c9a46d0f29d9357967bfa", func := "example.com/own/huff.LawS930022LConcat", spec := "lawS930022LConcat", apart := false }
def LawS930022LConcatSaid : Prop := lawS930022LConcatRow.holds Ychm.pinned (OpenSpec.ofChange lawS930022LConcatSpec)

/-- ITS FALSE NEIGHBOUR: 'it returns false'. Refute it at one input. -/
def lawS930022LConcatWrong : ChangeSpec := { name := "lawS930022LConcat", fn := fun _ => fun
  | [d1, d2] => { results := [.lit (.bool false)], args := [d1, d2] }
  | _ => none }
def LawS930022LConcatWrongFalsely : Prop := lawS930022LConcatRow.holds Ychm.pinned (OpenSpec.ofChange lawS930022LConcatWrong)

end Rows
end Go.Proofs.Ymbrch
