/- huff.LawS930022AExact, walked. -/
import Derived.Test.YmbrcfDigits
namespace Go.Proofs.Ymbrcf
open Go.RowKit
set_option linter.unusedVariables false
set_option linter.unusedSimpArgs false

theorem format_any (B : Int) (n : Nat) (w : World) (hn : n ≤ 15) (hB : 0 ≤ B ∧ B < 4294967296) :
    Calls Ycfm.prog 15 #[.agg #[.int .u32 B, .int .u8 n]] w fun e w' => ∃ s ok, e = .returned (.tuple #[.string s, .bool ok]) ∧ Hid (ok = decide (B / 2 ^ n = 0)) ∧ Hid (s = if B / 2 ^ n = 0 then strOfNums (fmtV B n) else ⟨#[]⟩) ∧ Below w.heap.size w w' := by
  by_cases hz : B / 2 ^ n = 0
  · refine (format_yes B n w hn hB hz).mono ?_
    rintro e w' ⟨s, rfl, hs, hb⟩
    exact ⟨s, true, rfl, hid (by simp [hz]), hid (by rw [if_pos hz]; exact hs), hb⟩
  · refine (format_no B n w (.inr hz) (by omega) hB).mono ?_
    rintro e w' ⟨rfl, hb⟩
    exact ⟨_, false, rfl, hid (by simp [hz]), hid (by rw [if_neg hz]), hb⟩
theorem strOfNums_get (xs : List Int) (k : Nat) (h : k < (strOfNums xs).size) (hr : ∀ x ∈ xs, 0 ≤ x ∧ x ≤ 255) : (((strOfNums xs)[k]).toNat : Int) = xs[k]?.getD 0 := by
  have h2 := strL_get (strOfNums xs) k h
  have h3 : k < xs.length := by rw [strOfNums_size] at h; exact h
  rw [← h2]
  simp only [strL_nums xs hr]
  simp [h3]
theorem fmtV_get (B : Int) (n k : Nat) (h : k < n) : (fmtV B n)[k]?.getD 0 = 48 + B / 2 ^ (n - 1 - k) % 2 := by simp [fmtV, h]

set_option maxHeartbeats 800000 in
theorem aexact_any (B : Int) (m : Int) (w : World) (hB : 0 ≤ B ∧ B ≤ 4294967295) (hm : 0 ≤ m ∧ m ≤ 255) :
    Calls Ycfm.prog 3 #[.int .u32 B, .int .u8 m] w fun e w' => e = .returned (.bool true) ∧ Below w.heap.size w w' := by
  obtain ⟨n, rfl⟩ := Int.eq_ofNat_of_zero_le hm.1
  by_cases h15 : 15 < n
  · have h15' : (15 : Int) < (n : Int) := by omega
    go_enter Ycfm.func3, Ycfm.ntmps3
    go_wp2_with (go_at_call 15; refine (format_no B n _ (.inl h15) (by omega) ⟨hB.1, by omega⟩).mono ?_; rintro e w1 ⟨rfl, hb1⟩)
    go_ret
    exact ⟨rfl, hb1⟩
  · have h15' : ¬ (15 : Int) < (n : Int) := by omega
    have hn : n ≤ 15 := by omega
    go_enter Ycfm.func3, Ycfm.ntmps3
    go_wp2_with (go_at_call 15; refine (format_any B n _ hn ⟨hB.1, by omega⟩).mono ?_; rintro e w1 ⟨s, ok, rfl, HOK, HS, hb1⟩)
    have hb1' := hb1.size
    go_loopw [7, 9] (fun r i wr => ∃ (k : Nat) (R : Int) (ws : List Int), k ≤ n ∧ i = .int .i64 ((n : Int) - 1 - k) ∧ r = .int .u32 R ∧ 0 ≤ R ∧ R ≤ 4294967295 ∧ Hid (R = B / 2 ^ k) ∧ Hid (ws.length = 15) ∧ Hid (∀ j, n - k ≤ j → j < n → ws[j]?.getD 0 = 48 + B / 2 ^ (n - 1 - j) % 2) ∧ RowV wr w1.heap.size 27 (ints .u8 ws) ∧ Below w.heap.size w wr) (fun _ i _ => ((intOf i) + 1).toNat)
    case atStart =>
      refine ⟨0, B, List.replicate 15 0, Nat.zero_le _, by simp, rfl, hB.1, hB.2, hid (by simp), hid (by simp), hid (by intro j h1 h2; omega), RowV.fresh _ _ (ints .u8 (List.replicate 15 0)) _ rfl, hb1.alloc hb1' _⟩
    case round =>
      obtain ⟨k, R, ws, hk, rfl, rfl, hR0, hR1, HR, HWL, HW, hrow, hb⟩ := hrel
      by_cases hlt : k < n
      · have hge : (0 : Int) ≤ (n : Int) - 1 - k := by omega
        have hold := hrow.int (i := n - 1 - k) (by rw [HWL.out]; omega)
        have hfz := hrow.frozen (n - 1 - k)
        generalize ws[n - 1 - k]?.getD 0 = oldv at hold
        have NX : ∀ v : Int, v = 48 + R % 2 → Hid (∀ j, n - (k + 1) ≤ j → j < n → (ws.set (n - 1 - k) v)[j]?.getD 0 = 48 + B / 2 ^ (n - 1 - j) % 2) := by
          intro v hv
          refine hid ?_
          intro j h1 h2
          by_cases e : n - 1 - k = j
          · subst e
            rw [List.getElem?_set_self (by rw [HWL.out]; omega), show n - 1 - (n - 1 - k) = k from by omega, ← HR.out]
            simpa using hv
          · rw [List.getElem?_set_ne e]
            exact HW.out j (by omega) h2
        have NR : Hid (R / 2 = B / 2 ^ (k + 1)) := hid (by rw [HR.out, Int.pow_succ, Int.ediv_ediv_of_nonneg (Int.le_of_lt (pow_pos' k))])
        have NXH := hid NX
        clear NX
        by_cases h1 : R % 2 = 1
        · have h1' : (R % 2 == 1) = true := by simpa using h1
          go_wp2
          go_roundw
          case rel => exact ⟨k + 1, R / 2, _, by omega, by go_num, rfl, by omega, by omega, NR, hid (by rw [List.length_set]; exact HWL.out), NXH.out 49 (by omega), hrow.setInt _ _, hb.setCell hb1' _⟩
          case measure => simp [intOf]; omega
        · have h1' : (R % 2 == 1) = false := by simpa using h1
          go_wp2
          go_roundw
          case rel => exact ⟨k + 1, R / 2, _, by omega, by go_num, rfl, by omega, by omega, NR, hid (by rw [List.length_set]; exact HWL.out), NXH.out 48 (by omega), hrow.setInt _ _, hb.setCell hb1' _⟩
          case measure => simp [intOf]; omega
      · have hge : ¬ (0 : Int) ≤ (n : Int) - 1 - k := by omega
        have hkn : k = n := by omega
        subst hkn
        by_cases hz : B / 2 ^ k = 0
        · obtain rfl : ok = true := by rw [HOK.out]; simp [hz]
          have hR : R = 0 := by rw [HR.out]; exact hz
          have hs : s = strOfNums (fmtV B k) := by rw [HS.out, if_pos hz]
          have hsz : s.size = k := by rw [hs, strOfNums_size, fmtV_length]
          have HSG : Hid (∀ j (h : j < s.size), (s[j].toNat : Int) = ws[j]?.getD 0) := by
            refine hid ?_
            subst hs
            intro j h
            have hj : j < k := by omega
            rw [strOfNums_get _ j h (fmtV_range B k), fmtV_get B k j hj, HW.out j (by omega) hj]
          clear hs HS hz HW HR HOK
          subst hR
          have hsz' : ((s.size : Int) == (k : Int)) = true := by simp [hsz]
          go_wp2
          go_loopw [10] (fun i wq => ∃ (j : Nat), j ≤ k ∧ i = .int .i64 j ∧ RowV wq w1.heap.size 27 (ints .u8 ws) ∧ Below w.heap.size w wq) (fun i _ => k - (intOf i).toNat)
          case atStart => exact ⟨0, Nat.zero_le _, rfl, hrow, hb⟩
          case round =>
            obtain ⟨j, hj, rfl, hrq, hbq⟩ := hrel
            by_cases hjk : j < k
            · have hjs : j < s.size := by omega
              have hjs' : (j : Int) < (s.size : Int) := by omega
              have hj0 : (0 : Int) ≤ (j : Int) := by omega
              have hj15 : (j : Int) < 15 := by omega
              have hcj : wr.cell? ⟨w1.heap.size, j, none⟩ = some (.int .u8 (s[j].toNat : Int)) := by rw [HSG.out j hjs]; exact hrq.int (by rw [HWL.out]; omega)
              go_wp2
              go_quiet (fail)
              go_wp2
              go_roundw
              case rel => exact ⟨j + 1, by omega, by go_num, hrq.drewN _, below_drewN' hbq _⟩
              case measure => simp [intOf]; omega
            · have hjs' : ¬ (j : Int) < (s.size : Int) := by omega
              go_wp2
              go_ret
              exact ⟨rfl, hbq⟩
        · obtain rfl : ok = false := by rw [HOK.out]; simp [hz]
          have hR : (R == 0) = false := by rw [HR.out]; simpa using hz
          have hs : s = ⟨#[]⟩ := by rw [HS.out, if_neg hz]
          subst hs
          clear HS hz
          go_wp2
          go_ret
          exact ⟨rfl, hb⟩
end Go.Proofs.Ymbrcf
