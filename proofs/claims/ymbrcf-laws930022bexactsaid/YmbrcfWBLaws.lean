/- huff.LawS930022BExact and LawS930022BShaped, walked. -/
import Derived.Test.YmbrcfWB2
namespace Go.Proofs.Ymbrcf
open Go.RowKit
set_option linter.unusedVariables false
set_option linter.unusedSimpArgs false

set_option maxHeartbeats 400000 in
theorem bexact_any (a : Option Addr) (c : Nat) (xs : List Int) (w : World) (h : Sees .u8 w a xs) (hr : ∀ x ∈ xs, 0 ≤ x ∧ x ≤ 255) :
    Calls Ycfm.prog 6 #[.slice a xs.length c] w fun e w' => e = .returned (.bool true) ∧ Below w.heap.size w w' := by
  have hm := h.1
  have HS := hid h
  have HR := hid hr
  by_cases hbig : 1024 < xs.length
  · have hbig' : (1024 : Int) < (xs.length : Int) := by omega
    clear h hr
    go_enter Ycfm.func6, Ycfm.ntmps6
    go_wp2
    go_ret
    exact ⟨rfl, Below.refl _ _⟩
  · have hbig' : (xs.length : Int) ≤ 1024 := by omega
    have h5 : xs.length ≤ 100000 := by omega
    by_cases hf : fits xs = true
    · have HF := hid hf
      have HL := hid (lens_of hr hf)
      have HK := hid ((fits_iff xs).1 hf).2
      clear h hr hf
      go_enter Ycfm.func6, Ycfm.ntmps6
      go_wp2_with (first
        | (go_at_call 17; refine (assign_yes a c _ xs _ rfl HS HR HF h5).mono ?_; rintro e w1 ⟨g, rfl, hg1, hr1, hb1⟩)
        | (go_at_call 18; refine (bfits_any a c _ xs _ rfl (HS.out.below hb1 (Nat.le_refl _)) HR h5).mono ?_; rintro e w2 ⟨rfl, hw2⟩; replace hw2 := hw2.symm; subst hw2; rw [HF.out])
        | (go_at_call 19; refine (bagrees_any a c _ xs g _ rfl (HS.out.below hb1 (Nat.le_refl _)) HL HK hr1).mono ?_; rintro e w3 ⟨rfl, hb3⟩))
      go_ret
      exact ⟨rfl, hb1.trans (hb3.mono hb1.size)⟩
    · have hf' : fits xs = false := by simpa using hf
      have HF := hid hf'
      have hnil := fun wx => Lib.run_eql_slice_nil (P := Ycfm.prog) wx 34 26 none 0 0 0 0 Ycfm.underlying34
      clear h hr hf hf'
      go_enter Ycfm.func6, Ycfm.ntmps6
      go_wp2_with (first
        | (go_at_call 17; refine (assign_no a c _ xs _ rfl HS HR HF).mono ?_; rintro e w1 ⟨rfl, hw1⟩; replace hw1 := hw1.symm; subst hw1)
        | (go_at_call 18; refine (bfits_any a c _ xs _ rfl HS HR h5).mono ?_; rintro e w2 ⟨rfl, hw2⟩; replace hw2 := hw2.symm; subst hw2; rw [HF.out]))
      go_ret
      exact ⟨rfl, Below.refl _ _⟩

set_option maxHeartbeats 400000 in
theorem bshaped_any (a : Option Addr) (c : Nat) (xs : List Int) (w : World) (h : Sees .u8 w a xs) (hr : ∀ x ∈ xs, 0 ≤ x ∧ x ≤ 255) :
    Calls Ycfm.prog 7 #[.slice a xs.length c] w fun e w' => e = .returned (.bool true) ∧ Below w.heap.size w w' := by
  have hm := h.1
  have HS := hid h
  have HR := hid hr
  clear h hr
  by_cases hbig : 1024 < xs.length
  · have hbig' : (1024 : Int) < (xs.length : Int) := by omega
    go_enter Ycfm.func7, Ycfm.ntmps7
    go_wp2
    go_ret
    exact ⟨rfl, Below.refl _ _⟩
  · have hbig' : (xs.length : Int) ≤ 1024 := by omega
    have h5 : xs.length ≤ 100000 := by omega
    go_enter Ycfm.func7, Ycfm.ntmps7
    go_wp2_with fail
    refine (bshape_any a c xs _ HS HR h5).mono ?_
    rintro e w1 ⟨g, ys, rfl, hg1, hyl, hlen, hfit, hr1, hb1⟩
    have HN := hid hyl.symm
    have HSY := hid (Sees.row hr1 (by omega))
    have HRY := hid hlen.range
    have HF := hid hfit
    have HL := hid hlen
    have HK := hid ((fits_iff ys).1 hfit).2
    have h6 : ys.length ≤ 100000 := by omega
    clear hyl hlen hfit hr1
    go_wp2_with fail
    refine (assign_yes _ _ _ ys _ HN HSY HRY HF h6).mono ?_
    rintro e w2 ⟨g2, rfl, hg2, hr2, hb2⟩
    go_wp2_with fail
    refine (bagrees_any _ _ _ ys g2 _ HN (HSY.out.below hb2 (Nat.le_refl _)) HL HK hr2).mono ?_
    rintro e w3 ⟨rfl, hb3⟩
    go_wp2
    go_ret
    exact ⟨rfl, (hb1.trans (hb2.mono hb1.size)).trans (hb3.mono (Nat.le_trans hb1.size hb2.size))⟩
end Go.Proofs.Ymbrcf
