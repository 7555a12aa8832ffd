/-
  No cell of these rows narrows 'for every input' (looked for: loops, veiled, ifaces, maps, wideKeys, modest, calm, conditions, laid).
  DERIVED. THE GIVEN ROWS OF THIS SEAT. 12 by the template 'for every input the law returns true; each argument reads behind the call as it read before'; 0 by the template 'total and deterministic' (their statements: YmbrcgTotals.lean).
  GIVEN WITH THE SEED: the statements are not yours to turn. If you find one false, say at which input.
  Laid BY PROGRAM, IN A SANDBOX (cutbox-rows.mjs): the forced cells as the released guide's own fill.sh prints them over the translation dccbcca012a74e2b… (all of the seat's roots in one cut). By AI agents, Wed Nov 11 2026. No macro, syntax, notation, axiom, sorry.
-/
import Derived.Test.YmbrcgChecked
import GoSem.Claim
import GoSem.ClaimJoined
import GoSem.ClaimMapViews
import Derived.JoinedTies
import Derived.KernelRfl
namespace Go.Proofs.Ymbrcg
/- THE CELL 'sum', in the pinned program and in every row, IS THE sha256 OF THE DUMP (.gsa) THAT YmbrcgProg.lean LOADS. Nothing in Lean hashes anything: it is a label: what it is worth is what the hold of that sum in a sandbox is worth. -/
noncomputable def Ycgm.pinned : Pinned := { name := "ymbrcg", sum := "dccbcca012a74e2b3ae338c97165f066b5fa1914c1789f4d212d23e942eea8d5", checked := Ycgm.checked }
namespace Rows
def none {H : Type} : Left H := { results := [], args := [] }

/-- 'huff.LawS930022ERoundTrip': WHATEVER THE INPUT: true; the input reads as it did. -/
def lawS930022ERoundTripSpec : ChangeSpec := { name := "lawS930022ERoundTrip", fn := fun _ => fun
  | [d1, d2] => { results := [.lit (.bool true)], args := [d1, d2] }
  | _ => none }
def lawS930022ERoundTripRow : OpenClaim := { program := "ymbrcg", sum := "dccbcca012a74e2b3ae338c97165f066b5fa1914c1789f4d212d23e942eea8d5", func := "example.com/own/huff.LawS930022ERoundTrip", spec := "lawS930022ERoundTrip", apart := false }
def LawS930022ERoundTripSaid : Prop := lawS930022ERoundTripRow.holds Ycgm.pinned (OpenSpec.ofChange lawS930022ERoundTripSpec)

/-- ITS FALSE NEIGHBOUR: 'it returns false'. Refute it at one input. -/
def lawS930022ERoundTripWrong : ChangeSpec := { name := "lawS930022ERoundTrip", fn := fun _ => fun
  | [d1, d2] => { results := [.lit (.bool false)], args := [d1, d2] }
  | _ => none }
def LawS930022ERoundTripWrongFalsely : Prop := lawS930022ERoundTripRow.holds Ycgm.pinned (OpenSpec.ofChange lawS930022ERoundTripWrong)

/-- 'huff.LawS930022FExact': WHATEVER THE INPUT: true; the input reads as it did. -/
def lawS930022FExactSpec : ChangeSpec := { name := "lawS930022FExact", fn := fun _ => fun
  | [d1, d2, d3] => { results := [.lit (.bool true)], args := [d1, d2, d3] }
  | _ => none }
def lawS930022FExactRow : OpenClaim := { program := "ymbrcg", sum := "dccbcca012a74e2b3ae338c97165f066b5fa1914c1789f4d212d23e942eea8d5", func := "example.com/own/huff.LawS930022FExact", spec := "lawS930022FExact", apart := false }
def LawS930022FExactSaid : Prop := lawS930022FExactRow.holds Ycgm.pinned (OpenSpec.ofChange lawS930022FExactSpec)

/-- ITS FALSE NEIGHBOUR: 'it returns false'. Refute it at one input. -/
def lawS930022FExactWrong : ChangeSpec := { name := "lawS930022FExact", fn := fun _ => fun
  | [d1, d2, d3] => { results := [.lit (.bool false)], args := [d1, d2, d3] }
  | _ => none }
def LawS930022FExactWrongFalsely : Prop := lawS930022FExactRow.holds Ycgm.pinned (OpenSpec.ofChange lawS930022FExactWrong)

/-- 'huff.LawS930022FPacked': WHATEVER THE INPUT: true; the input reads as it did. -/
def lawS930022FPackedSpec : ChangeSpec := { name := "lawS930022FPacked", fn := fun _ => fun
  | [d1, d2] => { results := [.lit (.bool true)], args := [d1, d2] }
  | _ => none }
def lawS930022FPackedRow : OpenClaim := { program := "ymbrcg", sum := "dccbcca012a74e2b3ae338c97165f066b5fa1914c1789f4d212d23e942eea8d5", func := "example.com/own/huff.LawS930022FPacked", spec := "lawS930022FPacked", apart := false }
def LawS930022FPackedSaid : Prop := lawS930022FPackedRow.holds Ycgm.pinned (OpenSpec.ofChange lawS930022FPackedSpec)

/-- ITS FALSE NEIGHBOUR: 'it returns false'. Refute it at one input. -/
def lawS930022FPackedWrong : ChangeSpec := { name := "lawS930022FPacked", fn := fun _ => fun
  | [d1, d2] => { results := [.lit (.bool false)], args := [d1, d2] }
  | _ => none }
def LawS930022FPackedWrongFalsely : Prop := lawS930022FPackedRow.holds Ycgm.pinned (OpenSpec.ofChange lawS930022FPackedWrong)

/-- 'huff.LawS930022GSum': WHATEVER THE INPUT: true; the input reads as it did. -/
def lawS930022GSumSpec : ChangeSpec := { name := "lawS930022GSum", fn := fun _ => fun
  | [d] => { results := [.lit (.bool true)], args := [d] }
  | _ => none }
def lawS930022GSumRow : OpenClaim := { program := "ymbrcg", sum := "dccbcca012a74e2b3ae338c97165f066b5fa1914c1789f4d212d23e942eea8d5", func := "example.com/own/huff.LawS930022GSum", spec := "lawS930022GSum", apart := false }
def LawS930022GSumSaid : Prop := lawS930022GSumRow.holds Ycgm.pinned (OpenSpec.ofChange lawS930022GSumSpec)

/-- ITS FALSE NEIGHBOUR: 'it returns false'. Refute it at one input. -/
def lawS930022GSumWrong : ChangeSpec := { name := "lawS930022GSum", fn := fun _ => fun
  | [d] => { results := [.lit (.bool false)], args := [d] }
  | _ => none }
def LawS930022GSumWrongFalsely : Prop := lawS930022GSumRow.holds Ycgm.pinned (OpenSpec.ofChange lawS930022GSumWrong)

/-- 'huff.LawS930022GChange': WHATEVER THE INPUT: true; the input reads as it did. -/
def lawS930022GChangeSpec : ChangeSpec := { name := "lawS930022GChange", fn := fun _ => fun
  | [d1, d2, d3] => { results := [.lit (.bool true)], args := [d1, d2, d3] }
  | _ => none }
def lawS930022GChangeRow : OpenClaim := { program := "ymbrcg", sum := "dccbcca012a74e2b3ae338c97165f066b5fa1914c1789f4d212d23e942eea8d5", func := "example.com/own/huff.LawS930022GChange", spec := "lawS930022GChange", apart := false }
def LawS930022GChangeSaid : Prop := lawS930022GChangeRow.holds Ycgm.pinned (OpenSpec.ofChange lawS930022GChangeSpec)

/-- ITS FALSE NEIGHBOUR: 'it returns false'. Refute it at one input. -/
def lawS930022GChangeWrong : ChangeSpec := { name := "lawS930022GChange", fn := fun _ => fun
  | [d1, d2, d3] => { results := [.lit (.bool false)], args := [d1, d2, d3] }
  | _ => none }
def LawS930022GChangeWrongFalsely : Prop := lawS930022GChangeRow.holds Ycgm.pinned (OpenSpec.ofChange lawS930022GChangeWrong)

/-- 'huff.LawS930022GFree': WHATEVER THE INPUT: true; the input reads as it did. -/
def lawS930022GFreeSpec : ChangeSpec := { name := "lawS930022GFree", fn := fun _ => fun
  | [d] => { results := [.lit (.bool true)], args := [d] }
  | _ => none }
def lawS930022GFreeRow : OpenClaim := { program := "ymbrcg", sum := "dccbcca012a74e2b3ae338c97165f066b5fa1914c1789f4d212d23e942eea8d5", func := "example.com/own/huff.LawS930022GFree", spec := "lawS930022GFree", apart := false }
def LawS930022GFreeSaid : Prop := lawS930022GFreeRow.holds Ycgm.pinned (OpenSpec.ofChange lawS930022GFreeSpec)

/-- ITS FALSE NEIGHBOUR: 'it returns false'. Refute it at one input. -/
def lawS930022GFreeWrong : ChangeSpec := { name := "lawS930022GFree", fn := fun _ => fun
  | [d] => { results := [.lit (.bool false)], args := [d] }
  | _ => none }
def LawS930022GFreeWrongFalsely : Prop := lawS930022GFreeRow.holds Ycgm.pinned (OpenSpec.ofChange lawS930022GFreeWrong)

/-- 'huff.LawS930022HExact': WHATEVER THE INPUT: true; the input reads as it did. -/
def lawS930022HExactSpec : ChangeSpec := { name := "lawS930022HExact", fn := fun _ => fun
  | [d1, d2, d3, d4] => { results := [.lit (.bool true)], args := [d1, d2, d3, d4] }
  | _ => none }
def lawS930022HExactRow : OpenClaim := { program := "ymbrcg", sum := "dccbcca012a74e2b3ae338c97165f066b5fa1914c1789f4d212d23e942eea8d5", func := "example.com/own/huff.LawS930022HExact", spec := "lawS930022HExact", apart := false }
def LawS930022HExactSaid : Prop := lawS930022HExactRow.holds Ycgm.pinned (OpenSpec.ofChange lawS930022HExactSpec)

/-- ITS FALSE NEIGHBOUR: 'it returns false'. Refute it at one input. -/
def lawS930022HExactWrong : ChangeSpec := { name := "lawS930022HExact", fn := fun _ => fun
  | [d1, d2, d3, d4] => { results := [.lit (.bool false)], args := [d1, d2, d3, d4] }
  | _ => none }
def LawS930022HExactWrongFalsely : Prop := lawS930022HExactRow.holds Ycgm.pinned (OpenSpec.ofChange lawS930022HExactWrong)

/-- 'huff.LawS930022HRejects': WHATEVER THE INPUT: true; the input reads as it did. -/
def lawS930022HRejectsSpec : ChangeSpec := { name := "lawS930022HRejects", fn := fun _ => fun
  | [d1, d2, d3, d4, d5, d6] => { results := [.lit (.bool true)], args := [d1, d2, d3, d4, d5, d6] }
  | _ => none }
def lawS930022HRejectsRow : OpenClaim := { program := "ymbrcg", sum := "dccbcca012a74e2b3ae338c97165f066b5fa1914c1789f4d212d23e942eea8d5", func := "example.com/own/huff.LawS930022HRejects", spec := "lawS930022HRejects", apart := false }
def LawS930022HRejectsSaid : Prop := lawS930022HRejectsRow.holds Ycgm.pinned (OpenSpec.ofChange lawS930022HRejectsSpec)

/-- ITS FALSE NEIGHBOUR: 'it returns false'. Refute it at one input. -/
def lawS930022HRejectsWrong : ChangeSpec := { name := "lawS930022HRejects", fn := fun _ => fun
  | [d1, d2, d3, d4, d5, d6] => { results := [.lit (.bool false)], args := [d1, d2, d3, d4, d5, d6] }
  | _ => none }
def LawS930022HRejectsWrongFalsely : Prop := lawS930022HRejectsRow.holds Ycgm.pinned (OpenSpec.ofChange lawS930022HRejectsWrong)

/-- 'huff.LawS930022HRoundTrip': WHATEVER THE INPUT: true; the input reads as it did. -/
def lawS930022HRoundTripSpec : ChangeSpec := { name := "lawS930022HRoundTrip", fn := fun _ => fun
  | [d1, d2] => { results := [.lit (.bool true)], args := [d1, d2] }
  | _ => none }
def lawS930022HRoundTripRow : OpenClaim := { program := "ymbrcg", sum := "dccbcca012a74e2b3ae338c97165f066b5fa1914c1789f4d212d23e942eea8d5", func := "example.com/own/huff.LawS930022HRoundTrip", spec := "lawS930022HRoundTrip", apart := false }
def LawS930022HRoundTripSaid : Prop := lawS930022HRoundTripRow.holds Ycgm.pinned (OpenSpec.ofChange lawS930022HRoundTripSpec)

/-- ITS FALSE NEIGHBOUR: 'it returns false'. Refute it at one input. -/
def lawS930022HRoundTripWrong : ChangeSpec := { name := "lawS930022HRoundTrip", fn := fun _ => fun
  | [d1, d2] => { results := [.lit (.bool false)], args := [d1, d2] }
  | _ => none }
def LawS930022HRoundTripWrongFalsely : Prop := lawS930022HRoundTripRow.holds Ycgm.pinned (OpenSpec.ofChange lawS930022HRoundTripWrong)

/-- 'huff.LawS930022IText': WHATEVER THE INPUT: true; the input reads as it did. -/
def lawS930022ITextSpec : ChangeSpec := { name := "lawS930022IText", fn := fun _ => fun
  | [d] => { results := [.lit (.bool true)], args := [d] }
  | _ => none }
def lawS930022ITextRow : OpenClaim := { program := "ymbrcg", sum := "dccbcca012a74e2b3ae338c97165f066b5fa1914c1789f4d212d23e942eea8d5", func := "example.com/own/huff.LawS930022IText", spec := "lawS930022IText", apart := false }
def LawS930022ITextSaid : Prop := lawS930022ITextRow.holds Ycgm.pinned (OpenSpec.ofChange lawS930022ITextSpec)

/-- ITS FALSE NEIGHBOUR: 'it returns false'. Refute it at one input. -/
def lawS930022ITextWrong : ChangeSpec := { name := "lawS930022IText", fn := fun _ => fun
  | [d] => { results := [.lit (.bool false)], args := [d] }
  | _ => none }
def LawS930022ITextWrongFalsely : Prop := lawS930022ITextRow.holds Ycgm.pinned (OpenSpec.ofChange lawS930022ITextWrong)

/-- 'huff.LawS930022IDigits': WHATEVER THE INPUT: true; the input reads as it did. -/
def lawS930022IDigitsSpec : ChangeSpec := { name := "lawS930022IDigits", fn := fun _ => fun
  | [d1, d2, d3] => { results := [.lit (.bool true)], args := [d1, d2, d3] }
  | _ => none }
def lawS930022IDigitsRow : OpenClaim := { program := "ymbrcg", sum := "dccbcca012a74e2b3ae338c97165f066b5fa1914c1789f4d212d23e942eea8d5", func := "example.com/own/huff.LawS930022IDigits", spec := "lawS930022IDigits", apart := false }
def LawS930022IDigitsSaid : Prop := lawS930022IDigitsRow.holds Ycgm.pinned (OpenSpec.ofChange lawS930022IDigitsSpec)

/-- ITS FALSE NEIGHBOUR: 'it returns false'. Refute it at one input. -/
def lawS930022IDigitsWrong : ChangeSpec := { name := "lawS930022IDigits", fn := fun _ => fun
  | [d1, d2, d3] => { results := [.lit (.bool false)], args := [d1, d2, d3] }
  | _ => none }
def LawS930022IDigitsWrongFalsely : Prop := lawS930022IDigitsRow.holds Ycgm.pinned (OpenSpec.ofChange lawS930022IDigitsWrong)

/-- 'huff.LawS930022INumber': WHATEVER THE INPUT: true; the input reads as it did. -/
def lawS930022INumberSpec : ChangeSpec := { name := "lawS930022INumber", fn := fun _ => fun
  | [d1, d2] => { results := [.lit (.bool true)], args := [d1, d2] }
  | _ => none }
def lawS930022INumberRow : OpenClaim := { program := "ymbrcg", sum := "dccbcca012a74e2b3ae338c97165f066b5fa1914c1789f4d212d23e942eea8d5", func := "example.com/own/huff.LawS930022INumber", spec := "lawS930022INumber", apart := false }
def LawS930022INumberSaid : Prop := lawS930022INumberRow.holds Ycgm.pinned (OpenSpec.ofChange lawS930022INumberSpec)

/-- ITS FALSE NEIGHBOUR: 'it returns false'. Refute it at one input. -/
def lawS930022INumberWrong : ChangeSpec := { name := "lawS930022INumber", fn := fun _ => fun
  | [d1, d2] => { results := [.lit (.bool false)], args := [d1, d2] }
  | _ => none }
def LawS930022INumberWrongFalsely : Prop := lawS930022INumberRow.holds Ycgm.pinned (OpenSpec.ofChange lawS930022INumberWrong)

end Rows
end Go.Proofs.Ymbrcg
