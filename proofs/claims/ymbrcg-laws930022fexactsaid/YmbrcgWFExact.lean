/- huff.LawS930022FExact, walked. -/
import Derived.Test.YmbrcgAt
namespace Go.Proofs.Ymbrcg
open Go.RowKit
set_option linter.unusedVariables false
set_option linter.unusedSimpArgs false

theorem double_top (x : Int) (m : Nat) (h0 : 0 ≤ x) (h1 : x ≤ 255) (hm : m ≤ 7) : ((x / 2 ^ (7 - m)) % 2 == 1) = decide (128 ≤ (x * 2 ^ m) % 256) := by
  rw [Bool.eq_iff_iff, beq_iff_eq, decide_eq_true_iff]
  rcases (show m = 0 ∨ m = 1 ∨ m = 2 ∨ m = 3 ∨ m = 4 ∨ m = 5 ∨ m = 6 ∨ m = 7 by omega) with h | h | h | h | h | h | h | h <;> subst h <;> simp only [Nat.reduceSub, Int.reducePow] <;> omega

set_option maxHeartbeats 400000 in
theorem fexact_any (a : Option Addr) (c : Nat) (ds : List Int) (N i : Int) (w : World) (h : Sees .u8 w a ds) (hr : ∀ x ∈ ds, 0 ≤ x ∧ x ≤ 255) (hi : i ≤ 9223372036854775807) :
    Calls Ycgm.prog 4 #[.slice a ds.length c, .int .i64 N, .int .i64 i] w fun e w' => e = .returned (.bool true) ∧ Below w.heap.size w w' := by
  have hm := h.1
  have HS := hid (fun o => h.alloc o)
  by_cases h0 : i < 0
  · have HV : Hid (atV ds N i = (false, false)) := by refine hid ?_; rw [atV, if_neg (by omega)]
    have HR := hid hr
    clear h hr
    go_enter Ycgm.func4, Ycgm.ntmps4
    go_wp2_with (go_at_call 19; refine (at_n a _ c ds N i _ rfl (HS.out _) HR hi false false HV).mono ?_; rintro e w1 ⟨rfl, hb1⟩)
    go_ret
    exact ⟨rfl, ((Below.refl _ _).alloc (Nat.le_refl _) _).trans (hb1.mono (by simp))⟩
  · obtain ⟨j, rfl⟩ := Int.eq_ofNat_of_zero_le (show 0 ≤ i by omega)
    by_cases h1 : N ≤ (j : Int)
    · have HV : Hid (atV ds N j = (false, false)) := by refine hid ?_; rw [atV, if_neg (by omega)]
      have HR := hid hr
      clear h hr
      go_enter Ycgm.func4, Ycgm.ntmps4
      go_wp2_with (go_at_call 19; refine (at_n a _ c ds N j _ rfl (HS.out _) HR hi false false HV).mono ?_; rintro e w1 ⟨rfl, hb1⟩)
      go_ret
      exact ⟨rfl, ((Below.refl _ _).alloc (Nat.le_refl _) _).trans (hb1.mono (by simp))⟩
    · by_cases h2 : (ds.length : Int) ≤ (j : Int) / 8
      · have HV : Hid (atV ds N j = (false, false)) := by refine hid ?_; rw [atV, if_neg (by omega)]
        have HR := hid hr
        clear h hr
        go_enter Ycgm.func4, Ycgm.ntmps4
        go_wp2_with (go_at_call 19; refine (at_n a _ c ds N j _ rfl (HS.out _) HR hi false false HV).mono ?_; rintro e w1 ⟨rfl, hb1⟩)
        go_ret
        exact ⟨rfl, ((Below.refl _ _).alloc (Nat.le_refl _) _).trans (hb1.mono (by simp))⟩
      · have hj : j / 8 < ds.length := by omega
        have hx := hr _ (List.getElem_mem hj)
        obtain ⟨b, off, ha, hbs, hcell⟩ := h.2 (j / 8) hj
        have HV : Hid (atV ds N j = ((ds[j / 8] / 2 ^ (7 - j % 8)) % 2 == 1, true)) := by
          refine hid ?_
          rw [atV, if_pos (by omega), bitD, Int.toNat_natCast, getD_get _ _ hj]
        rw [double_top ds[j / 8] (j % 8) hx.1 hx.2 (by omega)] at HV
        have HR := hid hr
        clear h hr
        subst ha
        generalize hX : ds[j / 8] = X at hx HV
        have hcell' : w.cell? ⟨b, off + j / 8, none⟩ = some (.int .u8 X) := by rw [hcell, getD_get _ _ hj, hX]
        clear hX hcell
        go_enter Ycgm.func4, Ycgm.ntmps4
        go_wp2_with (go_at_call 19; refine (at_n _ _ c ds N j _ rfl (HS.out _) HR hi _ true HV).mono ?_; rintro e w1 ⟨rfl, hb1⟩; have hcl := (hb1.cell (p := ⟨b, off + j / 8, none⟩) (by simp; omega)).trans ((World.cell?_alloc_past _ _ _ (show b < w.heap.size from hbs)).trans hcell'))
        go_loop [10, 11] (fun v k => ∃ (m : Nat) (Y : Int), m ≤ j % 8 ∧ k = .int .i64 m ∧ v = .int .u8 Y ∧ 0 ≤ Y ∧ Y ≤ 255 ∧ Hid (Y = (X * 2 ^ m) % 256)) (fun _ k => j % 8 - (intOf k).toNat)
        case atStart => exact ⟨0, X, Nat.zero_le _, rfl, rfl, hx.1, hx.2, hid (by simp; omega)⟩
        case round =>
          obtain ⟨m, Y, hm8, rfl, rfl, hY0, hY1, HY⟩ := hrel
          by_cases hlt : m < j % 8
          · have hlt' : (m : Int) < (j : Int) % 8 := by omega
            go_wp2
            go_round
            case rel =>
              refine ⟨m + 1, Y * 2 % 256, by omega, by go_num, ?_, by omega, by omega, hid ?_⟩
              · first | rfl | rw [IntKind.wrap_u8]
              · rw [HY.out, Int.pow_succ, ← Int.mul_assoc]; omega
            case measure => simp [intOf]; omega
          · have hlt' : ¬ (m : Int) < (j : Int) % 8 := by omega
            have hmj : m = j % 8 := by omega
            have HYY : Hid ((X * 2 ^ (j % 8)) % 256 = Y) := by refine hid ?_; rw [HY.out, hmj]
            clear hmj
            go_wp2
            go_ret
            refine ⟨ret_bool ?_, ((Below.refl _ _).alloc (Nat.le_refl _) _).trans (hb1.mono (by simp))⟩
            rw [HYY.out]; simp
end Go.Proofs.Ymbrcg
