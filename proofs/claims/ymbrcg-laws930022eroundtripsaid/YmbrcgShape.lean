/- Lengths built to satisfy Kraft's inequality: plain. -/
import Derived.Test.YmbrcgCanon
namespace Go.Proofs.Ymbrcg
open Go.RowKit
set_option linter.unusedVariables false
set_option linter.unusedSimpArgs false

/-- What the helpers that build lengths hold: the first k lengths, Kraft's sum of which leaves L. -/
def Shp (pre : List Int) (L : Int) : Prop := Lens pre ∧ ksum pre = 32768 - L
theorem Shp.nil : Shp [] 32768 := ⟨fun x hx => by simp at hx, rfl⟩
theorem Shp.zero {pre : List Int} {L : Int} (h : Shp pre L) : Shp (pre ++ [0]) L := by
  refine ⟨fun x hx => ?_, ?_⟩
  · rcases List.mem_append.1 hx with h' | h'
    · exact h.1 x h'
    · rw [List.mem_singleton] at h'; omega
  · rw [ksum_append, ksum_single, wt_zero 0 (by omega), h.2]; omega
theorem Shp.add {pre : List Int} {L : Int} (h : Shp pre L) (l : Int) (h0 : 0 < l) (h1 : l ≤ 15) : Shp (pre ++ [l]) (L - wt l) := by
  refine ⟨fun x hx => ?_, ?_⟩
  · rcases List.mem_append.1 hx with h' | h'
    · exact h.1 x h'
    · rw [List.mem_singleton] at h'; omega
  · rw [ksum_append, ksum_single, h.2]; omega
theorem Shp.fits {pre : List Int} {L : Int} (h : Shp pre L) (hL : 0 ≤ L) : fits pre = true := (fits_iff pre).2 ⟨fun x hx => (h.1 x hx).2, by rw [h.2]; omega⟩
theorem build_skip' (pre : List Int) (n k : Nat) (hk : k < n) : pre ++ List.replicate (n - k) (0 : Int) = (pre ++ [(0 : Int)]) ++ List.replicate (n - (k + 1)) 0 := by
  rw [show n - k = (n - (k + 1)) + 1 from by omega, List.replicate_succ, List.append_assoc]; rfl

end Go.Proofs.Ymbrcg
