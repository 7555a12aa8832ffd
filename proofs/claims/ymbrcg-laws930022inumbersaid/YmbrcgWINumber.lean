/- huff.LawS930022INumber, walked. -/
import Derived.Test.YmbrcgDigits
import Derived.Test.YmbrcgAt
namespace Go.Proofs.Ymbrcg
open Go.RowKit
set_option linter.unusedVariables false
set_option linter.unusedSimpArgs false

theorem mask_u32 (v : Int) (n : Nat) (h0 : 0 ≤ v) (h1 : v < 4294967296) (hp : (2 : Int) ^ n ≤ 131072) : bits .and .u32 v (2 ^ n - 1) = v % 2 ^ n := by
  have hpos := pow_pos' n
  rw [u32_and v (2 ^ n - 1) h0 h1 (by omega) (by omega)]
  obtain ⟨m, rfl⟩ := Int.eq_ofNat_of_zero_le h0
  have e : ((2 : Int) ^ n - 1).toNat = 2 ^ n - 1 := by
    have : ((2 : Int) ^ n) = ((2 ^ n : Nat) : Int) := by simp
    rw [this]; omega
  rw [e, Int.toNat_natCast, Nat.and_two_pow_sub_one_eq_mod]
  simp
theorem pow2_17 (k : Nat) (h : k ≤ 17) : (2 : Int) ^ k ≤ 131072 := by
  have : (2 : Nat) ^ k ≤ 2 ^ 17 := Nat.pow_le_pow_right (by omega) h
  have h2 : ((2 ^ k : Nat) : Int) ≤ ((2 ^ 17 : Nat) : Int) := Int.ofNat_le.2 this
  rw [Int.natCast_pow] at h2
  exact Int.le_trans h2 (by decide)
theorem eq_fmtV (V : Int) (n : Nat) (ws : List Int) (hl : ws.length = n) (h : ∀ j, j < n → ws[j]?.getD 0 = 48 + V / 2 ^ (n - 1 - j) % 2) : ws = fmtV V n := by
  apply List.ext_getElem
  · rw [hl, fmtV_length]
  · intro i h1 h2
    have := h i (by omega)
    rw [getD_get _ _ h1] at this
    rw [this]
    simp [fmtV]

set_option maxHeartbeats 800000 in
theorem inumber_any (v x : Int) (w : World) (hv : 0 ≤ v ∧ v ≤ 4294967295) (hx : 0 ≤ x ∧ x ≤ 255) :
    Calls Ycgm.prog 14 #[.int .u32 v, .int .u8 x] w fun e w' => e = .returned (.bool true) ∧ Below w.heap.size w w' := by
  obtain ⟨n, hn⟩ : ∃ n : Nat, 17 - x % 18 = (n : Int) := ⟨(17 - x % 18).toNat, by omega⟩
  have hn17 : n ≤ 17 := by omega
  have hp := pow2_17 n hn17
  have hp0 := pow_pos' n
  have hmask := mask_u32 v n hv.1 (by omega) hp
  have hB0 : 0 ≤ v % 2 ^ n := Int.emod_nonneg _ (by omega)
  have hB1 : v % 2 ^ n < 2 ^ n := Int.emod_lt_of_pos _ hp0
  go_enter Ycgm.func14, Ycgm.ntmps14
  go_wp2_with (at_make; refine wpList_makeRow _ rfl _ _ 22 rfl 5 (.int .u8 0) 1 1 Ycgm.underlying22 (by kernel_rfl) _ _ _ _ n rfl rfl (by omega) (by omega) (by omega) (by unfold maxLen; omega) ?_; intro w1 hrow1 hg1; rw [made_int] at hrow1)
  clear hmask
  generalize v % 2 ^ n = V at hB0 hB1
  have hb1 : Below w.heap.size w w1 := below_of_grown hg1 (Nat.le_refl _) (by simp)
  clear hg1
  go_loopw [7, 8] (fun r i wr => ∃ (k : Nat) (R : Int) (ws : List Int), k ≤ n ∧ i = .int .i64 ((n : Int) - 1 - k) ∧ r = .int .u32 R ∧ 0 ≤ R ∧ R ≤ 4294967295 ∧ Hid (R = V / 2 ^ k) ∧ Hid (ws.length = n) ∧ Hid (∀ j, n - k ≤ j → j < n → ws[j]?.getD 0 = 48 + V / 2 ^ (n - 1 - j) % 2) ∧ RowV wr w.heap.size 5 (ints .u8 ws) ∧ Below w.heap.size w wr) (fun _ i _ => ((intOf i) + 1).toNat)
  case atStart =>
    exact ⟨0, V, List.replicate n 0, Nat.zero_le _, by simp, rfl, hB0, by omega, hid (by simp), hid (by simp), hid (by intro j h1 h2; omega), hrow1, hb1⟩
  case round =>
    obtain ⟨k, R, ws, hk, rfl, rfl, hR0, hR1, HR, HWL, HW, hrow, hb⟩ := hrel
    by_cases hlt : k < n
    · have hge : (0 : Int) ≤ (n : Int) - 1 - k := by omega
      obtain ⟨q, hq⟩ : ∃ q : Nat, q + 1 + k = n := ⟨n - 1 - k, by omega⟩
      have hqe : ((n : Int) - 1 - k) = (q : Int) := by omega
      have hqn : q < n := by omega
      have hqn' : (q : Int) < (n : Int) := by omega
      have hold := hrow.int (i := q) (by rw [HWL.out]; omega)
      have hfz := hrow.frozen q
      generalize ws[q]?.getD 0 = oldv at hold
      have NX : Hid (∀ j, n - (k + 1) ≤ j → j < n → (ws.set q (48 + R % 2))[j]?.getD 0 = 48 + V / 2 ^ (n - 1 - j) % 2) := by
        refine hid ?_
        intro j h1 h2
        by_cases e : q = j
        · subst e
          rw [List.getElem?_set_self (by rw [HWL.out]; omega), show n - 1 - q = k from by omega, ← HR.out]
          rfl
        · rw [List.getElem?_set_ne e]
          exact HW.out j (by omega) h2
      have NR : Hid (R / 2 = V / 2 ^ (k + 1)) := hid (by rw [HR.out, Int.pow_succ, Int.ediv_ediv_of_nonneg (Int.le_of_lt (pow_pos' k))])
      have HM : Hid ((q : Int) - 1 = (n : Int) - 1 - ((k + 1 : Nat) : Int)) := hid (by omega)
      rw [hqe]
      clear hqe hq
      have hq0 : (0 : Int) ≤ (q : Int) := by omega
      go_wp2
      go_roundw
      case rel => exact ⟨k + 1, R / 2, _, by omega, by rw [← HM.out], rfl, by omega, by omega, NR, hid (by rw [List.length_set]; exact HWL.out), NX, hrow.setInt q _, hb.setCell (Nat.le_refl _) _⟩
      case measure => simp [intOf]; try omega
    · have hge : ¬ (0 : Int) ≤ (n : Int) - 1 - k := by omega
      have hkn : k = n := by omega
      have hws : ws = fmtV V n := eq_fmtV V n ws HWL (fun j hj => HW.out j (by omega) hj)
      rw [hws] at hrow
      have hcv := run_convert_bytes_arg (P := Ycgm.prog) wr 22 5 Ycgm.underlying22 Ycgm.underlying5 w.heap.size 0 n n (fmtV V n) (fmtV_length V n) (fun i hi => by rw [Nat.zero_add]; exact hrow.int (by rw [fmtV_length]; exact hi)) 9 Ycgm.underlying9
      generalize hS : strOfNums (fmtV V n) = s at hcv
      have hsz : s.size = n := by rw [← hS, strOfNums_size, fmtV_length]
      have HSZ : Hid (s.size ≤ 9223372036854775807) := hid (by omega)
      clear hkn hws HW HR HWL
      by_cases h15 : 15 < n
      · have HV : Hid (parseV (strL s) = (0, 0, false)) := hid (by rw [parseV, if_neg (by rw [strL_length]; omega)])
        have h15' : (15 : Int) < (n : Int) := by omega
        clear hS hsz
        go_wp2_with (go_at_call 26; refine (parse_any s _ HSZ).mono ?_; rintro e w2 ⟨rfl, hb2⟩; rw [HV.out])
        go_ret
        exact ⟨rfl, (hb.trans (hb2.mono hb.size)).alloc (Nat.le_trans hb.size hb2.size) _⟩
      · have HV : Hid (parseV (strL s) = (V, (n : Int), true)) := hid (by rw [← hS]; exact parse_format V n hB0 hB1 (by omega))
        have h15' : ¬ (15 : Int) < (n : Int) := by omega
        clear hS hsz
        go_wp2_with (go_at_call 26; refine (parse_any s _ HSZ).mono ?_; rintro e w2 ⟨rfl, hb2⟩; rw [HV.out])
        go_ret
        exact ⟨rfl, (hb.trans (hb2.mono hb.size)).alloc (Nat.le_trans hb.size hb2.size) _⟩
end Go.Proofs.Ymbrcg
