/- huff.zzs930022ewindow, walked. -/
import Derived.Test.YmbrcfDec
namespace Go.Proofs.Ymbrcf
open Go.RowKit
set_option linter.unusedVariables false
set_option linter.unusedSimpArgs false
def winK (f : Nat → Bool) (A k : Nat) : Int := V f (min k A) * 2 ^ (k - A)
theorem winK_in (f : Nat → Bool) (A k : Nat) (h : k < A) : winK f A (k + 1) = winK f A k * 2 + (if f k then 1 else 0) := by
  unfold winK
  rw [show min (k + 1) A = k + 1 from by omega, show min k A = k from by omega, show k + 1 - A = 0 from by omega, show k - A = 0 from by omega, V]
  simp; omega
theorem winK_out (f : Nat → Bool) (A k : Nat) (h : ¬ k < A) : winK f A (k + 1) = winK f A k * 2 := by
  unfold winK
  rw [show min (k + 1) A = A from by omega, show min k A = A from by omega, show k + 1 - A = (k - A) + 1 from by omega, Int.pow_succ, Int.mul_assoc]
theorem winK_15 (f : Nat → Bool) (A : Nat) (h : A ≤ 15) : winK f A 15 = winW f A := by
  unfold winK winW
  rw [show min 15 A = A from by omega]
theorem winK_bd (f : Nat → Bool) (A k : Nat) (h : k ≤ 15) : 0 ≤ winK f A k ∧ winK f A k ≤ 32768 := by
  have h0 := V_nonneg f (min k A)
  have h1 := V_lt f (min k A)
  have h2 := pow_pos' (k - A)
  have h3 := pow_le_32768 k h
  have h4 : (2 : Int) ^ (min k A) * 2 ^ (k - A) = 2 ^ k := by rw [← Int.pow_add]; congr 1; omega
  unfold winK
  constructor
  · exact Int.mul_nonneg h0 (Int.le_of_lt h2)
  · have := Int.mul_le_mul_of_nonneg_right (Int.le_of_lt h1) (Int.le_of_lt h2)
    omega
set_option maxHeartbeats 800000 in
theorem ewindow_any (a : Option Addr) (n c : Nat) (ds : List Int) (p : Nat) (en : Int) (A : Nat) (w : World) (hn : n = ds.length) (hs : Sees .u8 w a ds) (hr : ∀ x ∈ ds, 0 ≤ x ∧ x ≤ 255) (hp1 : (p : Int) ≤ 8 * (ds.length : Int)) (he : en ≤ 8 * (ds.length : Int)) (hd : ds.length ≤ 1000000) (hA : A = (min 15 (en - p)).toNat) :
    Calls Ycfm.prog 35 #[.slice a n c, .int .i64 p, .int .i64 en] w fun e w' => e = .returned (.int .i64 (winW (strm ds p) A)) ∧ w' = w := by
  subst hn
  have HS := hid hs
  have HR := hid hr
  have HA15 : Hid (A ≤ 15) := hid (by omega)
  have HAK : Hid (∀ k : Nat, k < 15 → (k < A ↔ (p : Int) + (k : Int) < en)) := hid (fun k hk => by omega)
  have HF : Hid (∀ l : Nat, strm ds p l = bitD ds (p + l)) := hid (fun l => by unfold strm; rw [show ((p : Int) + (l : Int)).toNat = p + l from by omega])
  generalize strm ds p = f at HF
  clear hs hr hA
  go_enter Ycfm.func35, Ycfm.ntmps35
  go_wp2
  go_loop [7, 8] (fun v i => ∃ (k : Nat) (W : Int), k ≤ 15 ∧ i = .int .i64 k ∧ v = .int .i64 W ∧ 0 ≤ W ∧ W ≤ 32768 ∧ Hid (W = winK f A k)) (fun _ i => 15 - (intOf i).toNat)
  case atStart => exact ⟨0, 0, Nat.zero_le _, rfl, rfl, by omega, by omega, hid (by simp [winK, V])⟩
  case round =>
    obtain ⟨k, W, hk, rfl, rfl, hW0, hW1, HWK⟩ := hrel
    by_cases hlt : k < 15
    · have hlt' : (k : Int) < 15 := by omega
      have hbd := winK_bd f A (k + 1) (by omega)
      by_cases hin : (p : Int) + (k : Int) < en
      · have hkA : k < A := (HAK.out k hlt).2 hin
        have hj : (p + k) / 8 < ds.length := by omega
        obtain ⟨b, off, rfl, hbs, hcell⟩ := HS.out.2 _ hj
        have hx8 := HR.out _ (List.getElem_mem hj)
        rw [getD_get _ _ hj] at hcell
        have hfk : f k = (ds[(p + k) / 8] / 2 ^ (7 - (p + k) % 8) % 2 == 1) := by
          rw [HF.out k, bitD, getD_get _ _ hj]
        have hws := winK_in f A k hkA
        rw [hfk, ← HWK.out] at hws
        obtain ⟨X, hX⟩ : ∃ X, ds[(p + k) / 8] = X := ⟨_, rfl⟩
        rw [hX] at hcell hws hx8
        obtain ⟨r, hr'⟩ : ∃ r, 7 - (p + k) % 8 = r := ⟨_, rfl⟩
        have hsub : 7 - ((p : Int) + (k : Int)) % 8 = (r : Int) := by omega
        rw [hr'] at hws
        have hdb := div_pow_bd X r hx8.1
        have hA := and1_u8 (X / 2 ^ r) hdb.1 (by omega)
        have hq : (X / 2 ^ r) % 2 = if (X / 2 ^ r) % 2 == 1 then (1 : Int) else 0 := by
          by_cases h : (X / 2 ^ r) % 2 = 1
          · simp [h]
          · have : (X / 2 ^ r) % 2 = 0 := by omega
            simp [this]
        rw [← hq] at hws
        have HWS := hid hws
        rw [hws] at hbd
        clear hfk hX hws hq
        go_wp2
        go_round
        case rel => exact ⟨k + 1, W * 2 + (X / 2 ^ r) % 2, by omega, by go_num, by go_num, hbd.1, hbd.2, hid HWS.out.symm⟩
        case measure => simp [intOf]; omega
      · have hkA : ¬ k < A := fun h => hin ((HAK.out k hlt).1 h)
        have hws := winK_out f A k hkA
        rw [← HWK.out] at hws
        rw [hws] at hbd
        have HWS := hid hws
        clear hws
        go_wp2
        go_round
        case rel => exact ⟨k + 1, W * 2, by omega, by go_num, by go_num, hbd.1, hbd.2, hid HWS.out.symm⟩
        case measure => simp [intOf]; omega
    · have hlt' : ¬ (k : Int) < 15 := by omega
      have hk15 : k = 15 := by omega
      have HFIN : Hid (W = winW f A) := hid (by rw [HWK.out, hk15, winK_15 f A HA15])
      clear hk15
      go_wp2
      go_ret
      exact ⟨ret_int HFIN.out, rfl⟩
end Go.Proofs.Ymbrcf
