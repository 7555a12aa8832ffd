/- The text of a code, as a list of characters. No Go in sight. -/
import Derived.Below
namespace Go.Proofs.Ymbrcg
set_option linter.unusedVariables false
set_option linter.unusedSimpArgs false

/-- The text of a code. -/
def fmtV (B : Int) (n : Nat) : List Int := (List.range n).map fun i => 48 + B / 2 ^ (n - 1 - i) % 2
theorem fmtV_length (B : Int) (n : Nat) : (fmtV B n).length = n := by simp [fmtV]
def fmtTo (B : Int) (n k : Nat) : List Int := ((List.range k).map fun i => 48 + B / 2 ^ (n - 1 - i) % 2)
theorem fmtTo_snoc (B : Int) (n k : Nat) : fmtTo B n k ++ [48 + B / 2 ^ (n - 1 - k) % 2] = fmtTo B n (k + 1) := by
  simp [fmtTo, List.range_succ]
theorem fmtTo_length (B : Int) (n k : Nat) : (fmtTo B n k).length = k := by simp [fmtTo]

end Go.Proofs.Ymbrcg
