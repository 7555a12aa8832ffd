/-
  No cell of these rows narrows 'for every input' (looked for: loops, veiled, ifaces, maps, wideKeys, modest, calm, conditions, laid).
  DERIVED. THE GIVEN ROWS OF THIS SEAT. 12 by the template 'for every input the law returns true; each argument reads behind the call as it read before'; 0 by the template 'total and deterministic' (their statements: YmbrcfTotals.lean).
  GIVEN WITH THE SEED: the statements are not yours to turn. If you find one false, say at which input.
  Laid BY PROGRAM, IN A SANDBOX (cutbox-rows.mjs): the forced cells as the released guide's own fill.sh prints them over the translation b7023bba5e05b148… (all of the seat's roots in one cut). By AI agents, Wed Nov 11 2026. No macro, syntax, notation, axiom, sorry.
-/
import Derived.Test.YmbrcfChecked
import GoSem.Claim
import GoSem.ClaimJoined
import GoSem.ClaimMapViews
import Derived.JoinedTies
import Derived.KernelRfl
namespace Go.Proofs.Ymbrcf
/- THE CELL 'sum', in the pinned program and in every row, IS THE sha256 OF THE DUMP (.gsa) THAT YmbrcfProg.lean LOADS. Nothing in Lean hashes anything: it is a label: what it is worth is what the hold of that sum in a sandbox is worth. -/
noncomputable def Ycfm.pinned : Pinned := { name := "ymbrcf", sum := "b7023bba5e05b1483a3c20c5d4596a728da591d9a00d76ca1eaaf866b03fa3a1", checked := Ycfm.checked }
namespace Rows
def none {H : Type} : Left H := { results := [], args := [] }

/-- 'huff.LawS930022AExact': WHATEVER THE INPUT: true; the input reads as it did. -/
def lawS930022AExactSpec : ChangeSpec := { name := "lawS930022AExact", fn := fun _ => fun
  | [d1, d2] => { results := [.lit (.bool true)], args := [d1, d2] }
  | _ => none }
def lawS930022AExactRow : OpenClaim := { program := "ymbrcf", sum := "b7023bba5e05b1483a3c20c5d4596a728da591d9a00d76ca1eaaf866b03fa3a1", func := "example.com/own/huff.LawS930022AExact", spec := "lawS930022AExact", apart := false }
def LawS930022AExactSaid : Prop := lawS930022AExactRow.holds Ycfm.pinned (OpenSpec.ofChange lawS930022AExactSpec)

/-- ITS FALSE NEIGHBOUR: 'it returns false'. Refute it at one input. -/
def lawS930022AExactWrong : ChangeSpec := { name := "lawS930022AExact", fn := fun _ => fun
  | [d1, d2] => { results := [.lit (.bool false)], args := [d1, d2] }
  | _ => none }
def LawS930022AExactWrongFalsely : Prop := lawS930022AExactRow.holds Ycfm.pinned (OpenSpec.ofChange lawS930022AExactWrong)

/-- 'huff.LawS930022ASpells': WHATEVER THE INPUT: true; the input reads as it did. -/
def lawS930022ASpellsSpec : ChangeSpec := { name := "lawS930022ASpells", fn := fun _ => fun
  | [d] => { results := [.lit (.bool true)], args := [d] }
  | _ => none }
def lawS930022ASpellsRow : OpenClaim := { program := "ymbrcf", sum := "b7023bba5e05b1483a3c20c5d4596a728da591d9a00d76ca1eaaf866b03fa3a1", func := "example.com/own/huff.LawS930022ASpells", spec := "lawS930022ASpells", apart := false }
def LawS930022ASpellsSaid : Prop := lawS930022ASpellsRow.holds Ycfm.pinned (OpenSpec.ofChange lawS930022ASpellsSpec)

/-- ITS FALSE NEIGHBOUR: 'it returns false'. Refute it at one input. -/
def lawS930022ASpellsWrong : ChangeSpec := { name := "lawS930022ASpells", fn := fun _ => fun
  | [d] => { results := [.lit (.bool false)], args := [d] }
  | _ => none }
def LawS930022ASpellsWrongFalsely : Prop := lawS930022ASpellsRow.holds Ycfm.pinned (OpenSpec.ofChange lawS930022ASpellsWrong)

/-- 'huff.LawS930022ARoundTrip': WHATEVER THE INPUT: true; the input reads as it did. -/
def lawS930022ARoundTripSpec : ChangeSpec := { name := "lawS930022ARoundTrip", fn := fun _ => fun
  | [d1, d2] => { results := [.lit (.bool true)], args := [d1, d2] }
  | _ => none }
def lawS930022ARoundTripRow : OpenClaim := { program := "ymbrcf", sum := "b7023bba5e05b1483a3c20c5d4596a728da591d9a00d76ca1eaaf866b03fa3a1", func := "example.com/own/huff.LawS930022ARoundTrip", spec := "lawS930022ARoundTrip", apart := false }
def LawS930022ARoundTripSaid : Prop := lawS930022ARoundTripRow.holds Ycfm.pinned (OpenSpec.ofChange lawS930022ARoundTripSpec)

/-- ITS FALSE NEIGHBOUR: 'it returns false'. Refute it at one input. -/
def lawS930022ARoundTripWrong : ChangeSpec := { name := "lawS930022ARoundTrip", fn := fun _ => fun
  | [d1, d2] => { results := [.lit (.bool false)], args := [d1, d2] }
  | _ => none }
def LawS930022ARoundTripWrongFalsely : Prop := lawS930022ARoundTripRow.holds Ycfm.pinned (OpenSpec.ofChange lawS930022ARoundTripWrong)

/-- 'huff.LawS930022BExact': WHATEVER THE INPUT: true; the input reads as it did. -/
def lawS930022BExactSpec : ChangeSpec := { name := "lawS930022BExact", fn := fun _ => fun
  | [d] => { results := [.lit (.bool true)], args := [d] }
  | _ => none }
def lawS930022BExactRow : OpenClaim := { program := "ymbrcf", sum := "b7023bba5e05b1483a3c20c5d4596a728da591d9a00d76ca1eaaf866b03fa3a1", func := "example.com/own/huff.LawS930022BExact", spec := "lawS930022BExact", apart := false }
def LawS930022BExactSaid : Prop := lawS930022BExactRow.holds Ycfm.pinned (OpenSpec.ofChange lawS930022BExactSpec)

/-- ITS FALSE NEIGHBOUR: 'it returns false'. Refute it at one input. -/
def lawS930022BExactWrong : ChangeSpec := { name := "lawS930022BExact", fn := fun _ => fun
  | [d] => { results := [.lit (.bool false)], args := [d] }
  | _ => none }
def LawS930022BExactWrongFalsely : Prop := lawS930022BExactRow.holds Ycfm.pinned (OpenSpec.ofChange lawS930022BExactWrong)

/-- 'huff.LawS930022BShaped': WHATEVER THE INPUT: true; the input reads as it did. -/
def lawS930022BShapedSpec : ChangeSpec := { name := "lawS930022BShaped", fn := fun _ => fun
  | [d] => { results := [.lit (.bool true)], args := [d] }
  | _ => none }
def lawS930022BShapedRow : OpenClaim := { program := "ymbrcf", sum := "b7023bba5e05b1483a3c20c5d4596a728da591d9a00d76ca1eaaf866b03fa3a1", func := "example.com/own/huff.LawS930022BShaped", spec := "lawS930022BShaped", apart := false }
def LawS930022BShapedSaid : Prop := lawS930022BShapedRow.holds Ycfm.pinned (OpenSpec.ofChange lawS930022BShapedSpec)

/-- ITS FALSE NEIGHBOUR: 'it returns false'. Refute it at one input. -/
def lawS930022BShapedWrong : ChangeSpec := { name := "lawS930022BShaped", fn := fun _ => fun
  | [d] => { results := [.lit (.bool false)], args := [d] }
  | _ => none }
def LawS930022BShapedWrongFalsely : Prop := lawS930022BShapedRow.holds Ycfm.pinned (OpenSpec.ofChange lawS930022BShapedWrong)

/-- 'huff.LawS930022BPrefixFree': WHATEVER THE INPUT: true; the input reads as it did. -/
def lawS930022BPrefixFreeSpec : ChangeSpec := { name := "lawS930022BPrefixFree", fn := fun _ => fun
  | [d] => { results := [.lit (.bool true)], args := [d] }
  | _ => none }
def lawS930022BPrefixFreeRow : OpenClaim := { program := "ymbrcf", sum := "b7023bba5e05b1483a3c20c5d4596a728da591d9a00d76ca1eaaf866b03fa3a1", func := "example.com/own/huff.LawS930022BPrefixFree", spec := "lawS930022BPrefixFree", apart := false }
def LawS930022BPrefixFreeSaid : Prop := lawS930022BPrefixFreeRow.holds Ycfm.pinned (OpenSpec.ofChange lawS930022BPrefixFreeSpec)

/-- ITS FALSE NEIGHBOUR: 'it returns false'. Refute it at one input. -/
def lawS930022BPrefixFreeWrong : ChangeSpec := { name := "lawS930022BPrefixFree", fn := fun _ => fun
  | [d] => { results := [.lit (.bool false)], args := [d] }
  | _ => none }
def LawS930022BPrefixFreeWrongFalsely : Prop := lawS930022BPrefixFreeRow.holds Ycfm.pinned (OpenSpec.ofChange lawS930022BPrefixFreeWrong)

/-- 'huff.LawS930022CExact': WHATEVER THE INPUT: true; the input reads as it did. -/
def lawS930022CExactSpec : ChangeSpec := { name := "lawS930022CExact", fn := fun _ => fun
  | [d1, d2] => { results := [.lit (.bool true)], args := [d1, d2] }
  | _ => none }
def lawS930022CExactRow : OpenClaim := { program := "ymbrcf", sum := "b7023bba5e05b1483a3c20c5d4596a728da591d9a00d76ca1eaaf866b03fa3a1", func := "example.com/own/huff.LawS930022CExact", spec := "lawS930022CExact", apart := false }
def LawS930022CExactSaid : Prop := lawS930022CExactRow.holds Ycfm.pinned (OpenSpec.ofChange lawS930022CExactSpec)

/-- ITS FALSE NEIGHBOUR: 'it returns false'. Refute it at one input. -/
def lawS930022CExactWrong : ChangeSpec := { name := "lawS930022CExact", fn := fun _ => fun
  | [d1, d2] => { results := [.lit (.bool false)], args := [d1, d2] }
  | _ => none }
def LawS930022CExactWrongFalsely : Prop := lawS930022CExactRow.holds Ycfm.pinned (OpenSpec.ofChange lawS930022CExactWrong)

/-- 'huff.LawS930022CComplete': WHATEVER THE INPUT: true; the input reads as it did. -/
def lawS930022CCompleteSpec : ChangeSpec := { name := "lawS930022CComplete", fn := fun _ => fun
  | [d1, d2, d3] => { results := [.lit (.bool true)], args := [d1, d2, d3] }
  | _ => none }
def lawS930022CCompleteRow : OpenClaim := { program := "ymbrcf", sum := "b7023bba5e05b1483a3c20c5d4596a728da591d9a00d76ca1eaaf866b03fa3a1", func := "example.com/own/huff.LawS930022CComplete", spec := "lawS930022CComplete", apart := false }
def LawS930022CCompleteSaid : Prop := lawS930022CCompleteRow.holds Ycfm.pinned (OpenSpec.ofChange lawS930022CCompleteSpec)

/-- ITS FALSE NEIGHBOUR: 'it returns false'. Refute it at one input. -/
def lawS930022CCompleteWrong : ChangeSpec := { name := "lawS930022CComplete", fn := fun _ => fun
  | [d1, d2, d3] => { results := [.lit (.bool false)], args := [d1, d2, d3] }
  | _ => none }
def LawS930022CCompleteWrongFalsely : Prop := lawS930022CCompleteRow.holds Ycfm.pinned (OpenSpec.ofChange lawS930022CCompleteWrong)

/-- 'huff.LawS930022DAccept': WHATEVER THE INPUT: true; the input reads as it did. -/
def lawS930022DAcceptSpec : ChangeSpec := { name := "lawS930022DAccept", fn := fun _ => fun
  | [d] => { results := [.lit (.bool true)], args := [d] }
  | _ => none }
def lawS930022DAcceptRow : OpenClaim := { program := "ymbrcf", sum := "b7023bba5e05b1483a3c20c5d4596a728da591d9a00d76ca1eaaf866b03fa3a1", func := "example.com/own/huff.LawS930022DAccept", spec := "lawS930022DAccept", apart := false }
def LawS930022DAcceptSaid : Prop := lawS930022DAcceptRow.holds Ycfm.pinned (OpenSpec.ofChange lawS930022DAcceptSpec)

/-- ITS FALSE NEIGHBOUR: 'it returns false'. Refute it at one input. -/
def lawS930022DAcceptWrong : ChangeSpec := { name := "lawS930022DAccept", fn := fun _ => fun
  | [d] => { results := [.lit (.bool false)], args := [d] }
  | _ => none }
def LawS930022DAcceptWrongFalsely : Prop := lawS930022DAcceptRow.holds Ycfm.pinned (OpenSpec.ofChange lawS930022DAcceptWrong)

/-- 'huff.LawS930022DExact': WHATEVER THE INPUT: true; the input reads as it did. -/
def lawS930022DExactSpec : ChangeSpec := { name := "lawS930022DExact", fn := fun _ => fun
  | [d] => { results := [.lit (.bool true)], args := [d] }
  | _ => none }
def lawS930022DExactRow : OpenClaim := { program := "ymbrcf", sum := "b7023bba5e05b1483a3c20c5d4596a728da591d9a00d76ca1eaaf866b03fa3a1", func := "example.com/own/huff.LawS930022DExact", spec := "lawS930022DExact", apart := false }
def LawS930022DExactSaid : Prop := lawS930022DExactRow.holds Ycfm.pinned (OpenSpec.ofChange lawS930022DExactSpec)

/-- ITS FALSE NEIGHBOUR: 'it returns false'. Refute it at one input. -/
def lawS930022DExactWrong : ChangeSpec := { name := "lawS930022DExact", fn := fun _ => fun
  | [d] => { results := [.lit (.bool false)], args := [d] }
  | _ => none }
def LawS930022DExactWrongFalsely : Prop := lawS930022DExactRow.holds Ycfm.pinned (OpenSpec.ofChange lawS930022DExactWrong)

/-- 'huff.LawS930022DTiles': WHATEVER THE INPUT: true; the input reads as it did. -/
def lawS930022DTilesSpec : ChangeSpec := { name := "lawS930022DTiles", fn := fun _ => fun
  | [d] => { results := [.lit (.bool true)], args := [d] }
  | _ => none }
def lawS930022DTilesRow : OpenClaim := { program := "ymbrcf", sum := "b7023bba5e05b1483a3c20c5d4596a728da591d9a00d76ca1eaaf866b03fa3a1", func := "example.com/own/huff.LawS930022DTiles", spec := "lawS930022DTiles", apart := false }
def LawS930022DTilesSaid : Prop := lawS930022DTilesRow.holds Ycfm.pinned (OpenSpec.ofChange lawS930022DTilesSpec)

/-- ITS FALSE NEIGHBOUR: 'it returns false'. Refute it at one input. -/
def lawS930022DTilesWrong : ChangeSpec := { name := "lawS930022DTiles", fn := fun _ => fun
  | [d] => { results := [.lit (.bool false)], args := [d] }
  | _ => none }
def LawS930022DTilesWrongFalsely : Prop := lawS930022DTilesRow.holds Ycfm.pinned (OpenSpec.ofChange lawS930022DTilesWrong)

/-- 'huff.LawS930022EExact': WHATEVER THE INPUT: true; the input reads as it did. -/
def lawS930022EExactSpec : ChangeSpec := { name := "lawS930022EExact", fn := fun _ => fun
  | [d1, d2, d3, d4, d5] => { results := [.lit (.bool true)], args := [d1, d2, d3, d4, d5] }
  | _ => none }
def lawS930022EExactRow : OpenClaim := { program := "ymbrcf", sum := "b7023bba5e05b1483a3c20c5d4596a728da591d9a00d76ca1eaaf866b03fa3a1", func := "example.com/own/huff.LawS930022EExact", spec := "lawS930022EExact", apart := false }
def LawS930022EExactSaid : Prop := lawS930022EExactRow.holds Ycfm.pinned (OpenSpec.ofChange lawS930022EExactSpec)

/-- ITS FALSE NEIGHBOUR: 'it returns false'. Refute it at one input. -/
def lawS930022EExactWrong : ChangeSpec := { name := "lawS930022EExact", fn := fun _ => fun
  | [d1, d2, d3, d4, d5] => { results := [.lit (.bool false)], args := [d1, d2, d3, d4, d5] }
  | _ => none }
def LawS930022EExactWrongFalsely : Prop := lawS930022EExactRow.holds Ycfm.pinned (OpenSpec.ofChange lawS930022EExactWrong)

end Rows
end Go.Proofs.Ymbrcf
