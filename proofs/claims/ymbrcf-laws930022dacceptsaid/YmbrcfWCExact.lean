/- huff.zzs930022cwant and huff.LawS930022CExact, walked. -/
import Derived.Test.YmbrcfSlack
namespace Go.Proofs.Ymbrcf
open Go.RowKit
set_option linter.unusedVariables false
set_option linter.unusedSimpArgs false

theorem ksum_drop (xs : List Int) (k : Nat) (h : k < xs.length) : ksum (xs.drop k) = wt xs[k] + ksum (xs.drop (k + 1)) := by rw [List.drop_eq_getElem_cons h, ksum]
theorem all15_drop (xs : List Int) (k : Nat) (h : k < xs.length) : all15 (xs.drop k) = (decide (xs[k] ≤ 15) && all15 (xs.drop (k + 1))) := by rw [List.drop_eq_getElem_cons h, all15]
theorem slackV_yes (xs : List Int) (h : all15 xs = true) (h' : ksum xs ≤ 32768) : slackV xs = (32768 - ksum xs, true) := by
  rw [slackV, if_pos]; simp [fits, h, h']
theorem slackV_no (xs : List Int) (h : all15 xs = false ∨ 32768 < ksum xs) : slackV xs = (0, false) := by
  rw [slackV, if_neg]
  rcases h with h | h
  · simp [fits, h]
  · simp [fits]; omega

set_option maxHeartbeats 800000 in
theorem cwant_any (a : Option Addr) (c : Nat) (xs : List Int) (w : World) (h : Sees .u8 w a xs) (hr : ∀ x ∈ xs, 0 ≤ x ∧ x ≤ 255) (h4 : xs.length ≤ 100000) :
    Calls Ycfm.prog 21 #[.slice a xs.length c] w fun e w' => e = .returned (.tuple #[.int .i64 (slackV xs).1, .bool (slackV xs).2]) ∧ w' = w := by
  obtain ⟨hm, hc⟩ := h
  have HC := hid hc
  have HR := hid hr
  clear hc hr
  generalize hV : slackV xs = V
  have HV := hid hV
  clear hV
  go_enter Ycfm.func21, Ycfm.ntmps21
  go_wp2
  go_loop [4, 5, 6] (fun s t i => ∃ (k : Nat) (S : Int) (T : Bool), k ≤ xs.length ∧ i = .int .i64 k ∧ s = .int .i64 S ∧ t = .bool T ∧ 0 ≤ S ∧ S ≤ 16384 * k ∧ Hid (S + ksum (xs.drop k) = ksum xs) ∧ Hid ((T || !all15 (xs.drop k)) = !all15 xs)) (fun _ _ i => xs.length - (intOf i).toNat)
  case atStart => exact ⟨0, 0, false, Nat.zero_le _, rfl, rfl, rfl, by omega, by omega, hid (by simp), hid (by simp)⟩
  case round =>
    obtain ⟨k, S, T, hk, rfl, rfl, rfl, hS0, hS1, HS, HT⟩ := hrel
    by_cases hlt : k < xs.length
    · obtain ⟨b, off, rfl, hbs, hcell⟩ := HC.out k hlt
      have hx := HR.out _ (List.getElem_mem hlt)
      have HD := hid (ksum_drop xs k hlt)
      have HA := hid (all15_drop xs k hlt)
      have hwb := wt_bd xs[k]
      by_cases h15 : 15 < xs[k]
      · have HW := hid (wt_zero xs[k] (by omega))
        go_wp2
        go_round
        case rel =>
          refine ⟨k + 1, S, true, by omega, by go_num, rfl, rfl, by omega, by omega, hid ?_, hid ?_⟩
          · have := HS.out; rw [HD.out, HW.out] at this; omega
          · have := HT.out; rw [HA.out, decide_eq_false (by omega)] at this; simp at this; simp [this]
        case measure => simp [intOf]; omega
      · have HA2 : Hid ((T || !all15 (xs.drop (k + 1))) = !all15 xs) := by
          have := HT.out; rw [HA.out, decide_eq_true (by omega), Bool.true_and] at this; exact this
        by_cases h0 : xs[k] = 0
        · have HW := hid (wt_zero xs[k] (by omega))
          have h0' : (xs[k] == 0) = true := by simpa using h0
          go_wp2
          go_round
          case rel =>
            refine ⟨k + 1, S, T, by omega, by go_num, rfl, rfl, by omega, by omega, hid ?_, HA2⟩
            have := HS.out; rw [HD.out, HW.out] at this; omega
          case measure => simp [intOf]; omega
        · have hpos : 0 < xs[k] := by omega
          have h0' : (xs[k] == 0) = false := by simpa using h0
          have HW := hid (wt_shl xs[k] hpos (by omega))
          clear h0
          go_wp2
          go_loop [8, 9] (fun p q => ∃ (j W : Nat), j ≤ 15 ∧ xs[k] ≤ j ∧ q = .int .i64 j ∧ p = .int .i64 W ∧ W ≤ 16384 ∧ Hid (W = 2 ^ (j - xs[k].toNat))) (fun _ q => 15 - (intOf q).toNat)
          case atStart =>
            refine ⟨xs[k].toNat, 1, by omega, by omega, ?_, rfl, by omega, hid (by rw [Nat.sub_self])⟩
            rw [show ((xs[k].toNat : Nat) : Int) = xs[k] from by omega]
          case round =>
            obtain ⟨j, W, hj, hxj, rfl, rfl, hW, HWj⟩ := hrel
            by_cases hj15 : j < 15
            · have hj' : (j : Int) < 15 := by omega
              have HWW : Hid (W * 2 = 2 ^ (j + 1 - xs[k].toNat)) := by
                refine hid ?_
                rw [HWj.out, show j + 1 - xs[k].toNat = (j - xs[k].toNat) + 1 from by omega, Nat.pow_succ]
              have hW2 : W * 2 ≤ 16384 := by
                rw [HWW.out]
                exact Nat.le_trans (Nat.pow_le_pow_right (by omega) (show j + 1 - xs[k].toNat ≤ 14 by omega)) (by decide)
              go_wp2
              go_round
              case rel => exact ⟨j + 1, W * 2, by omega, by omega, by go_num, by go_num, hW2, HWW⟩
              case measure => simp [intOf]; omega
            · have hj' : ¬ (j : Int) < 15 := by omega
              have hWt : (W : Int) = wt xs[k] := by
                rw [HW.out, HWj.out, show (15 - xs[k]).toNat = j - xs[k].toNat from by omega]; simp
              have HWT := hid hWt
              clear hWt
              go_wp2
              go_round
              case rel =>
                refine ⟨k + 1, S + W, T, by omega, by go_num, by go_num, rfl, by omega, by omega, hid ?_, HA2⟩
                have := HS.out; rw [HD.out] at this; rw [HWT.out]; omega
              case measure => simp [intOf]; omega
    · have e1 : S = ksum xs := by have := HS.out; rw [List.drop_of_length_le (by omega)] at this; simpa [ksum] using this
      have e2 : T = !all15 xs := by have := HT.out; rw [List.drop_of_length_le (by omega)] at this; simpa [all15] using this
      have E1 := hid e1
      clear e1
      cases T with
      | true =>
        have HN : Hid (slackV xs = (0, false)) := slackV_no xs (.inl (by simpa using e2.symm))
        clear e2
        go_wp2
        go_ret2
        refine ⟨ret_ib ?_ ?_, rfl⟩ <;> rw [← HV.out, HN.out]
      | false =>
        have e3 : all15 xs = true := by simpa using e2.symm
        clear e2
        have E3 := hid e3
        clear e3
        by_cases hS : 32768 < S
        · have HN : Hid (slackV xs = (0, false)) := slackV_no xs (.inr (by rw [← E1.out]; exact hS))
          go_wp2
          go_ret2
          refine ⟨ret_ib ?_ ?_, rfl⟩ <;> rw [← HV.out, HN.out]
        · have HN : Hid (slackV xs = (32768 - ksum xs, true)) := slackV_yes xs E3.out (by rw [← E1.out]; omega)
          go_wp2
          go_ret2
          refine ⟨ret_ib ?_ ?_, rfl⟩ <;> rw [← HV.out, HN.out]
          rw [E1.out]

set_option maxHeartbeats 800000 in
theorem cexact_any (a : Option Addr) (c : Nat) (xs : List Int) (base : Int) (w : World) (h : Sees .u8 w a xs) (hr : ∀ x ∈ xs, 0 ≤ x ∧ x ≤ 255) (hbase : 0 ≤ base ∧ base ≤ 255) :
    Calls Ycfm.prog 9 #[.slice a xs.length c, .int .u8 base] w fun e w' => e = .returned (.bool true) ∧ Below w.heap.size w w' := by
  obtain ⟨hm, hc⟩ := h
  have HC := hid hc
  have HR := hid hr
  clear hc hr
  by_cases hbig : 4096 < xs.length
  · have hbig' : (4096 : Int) < (xs.length : Int) := by omega
    go_enter Ycfm.func9, Ycfm.ntmps9
    go_wp2
    go_ret
    exact ⟨rfl, Below.refl _ _⟩
  · have hbig' : (xs.length : Int) ≤ 4096 := by omega
    go_enter Ycfm.func9, Ycfm.ntmps9
    go_wp2_with (at_make; refine wpList_makeRow _ rfl _ _ 33 rfl 5 (.int .u8 0) 1 1 Ycfm.underlying33 (by kernel_rfl) _ _ _ _ xs.length rfl rfl rfl rfl (by omega) (by unfold maxLen; omega) ?_; intro w1 hrow1 hg1; rw [made_int] at hrow1)
    have hb1 : Below w.heap.size w w1 := below_of_grown hg1 (Nat.le_refl _) (by simp)
    clear hg1
    go_loopw [6] (fun i wr => ∃ (k : Nat) (ys : List Int), k ≤ xs.length ∧ i = .int .i64 k ∧ ys.length = xs.length ∧ Hid (∀ y ∈ ys, 0 ≤ y ∧ y ≤ 255) ∧ RowV wr w.heap.size 5 (ints .u8 ys) ∧ Below w.heap.size w wr) (fun i _ => xs.length - (intOf i).toNat)
    case atStart => exact ⟨0, List.replicate xs.length 0, Nat.zero_le _, rfl, by simp, hid (by intro y hy; rw [List.mem_replicate] at hy; omega), hrow1, hb1⟩
    case round =>
      obtain ⟨k, ys, hk, rfl, hyl, HY, hrow, hb⟩ := hrel
      have HYL := hid hyl
      clear hyl
      by_cases hlt : k < xs.length
      · obtain ⟨b, off, rfl, hbs, hcell⟩ := HC.out k hlt
        have hx := HR.out _ (List.getElem_mem hlt)
        have hcell2 : wr.cell? ⟨b, off + k, none⟩ = some (.int .u8 (xs[k]?.getD 0)) := (hb.cell hbs).trans hcell
        have hold := hrow.int (i := k) (by rw [HYL.out]; exact hlt)
        have hfz := hrow.frozen k
        generalize ys[k]?.getD 0 = oldv at hold
        clear hcell
        by_cases h0 : xs[k] = 0
        · have h0' : (xs[k] == 0) = true := by simpa using h0
          go_wp2
          go_roundw
          case rel => exact ⟨k + 1, ys, by omega, by go_num, HYL.out, HY, hrow, hb⟩
          case measure => simp [intOf]; omega
        · have h0' : (xs[k] == 0) = false := by simpa using h0
          clear h0
          go_wp2
          go_roundw
          case rel =>
            refine ⟨k + 1, _, by omega, by go_num, ?_, hid ?_, hrow.setInt k _, hb.setCell (Nat.le_refl _) _⟩
            · rw [List.length_set]; exact HYL.out
            · intro y hy
              rcases List.mem_or_eq_of_mem_set hy with h' | h'
              · exact HY.out y h'
              · subst h'; omega
          case measure => simp [intOf]; omega
      · have HS : Sees .u8 wr (some ⟨w.heap.size, 0, none⟩) ys := Sees.row hrow (by rw [HYL.out]; omega)
        have HSS := hid HS
        have hyle : ys.length ≤ 100000 := by rw [HYL.out]; omega
        have HYE := hid HYL.out.symm
        clear HS
        go_wp2_with (first
          | (go_at_call 21; rw [HYE.out]; refine (cwant_any _ _ ys _ HSS HY hyle).mono ?_; rintro e w' ⟨rfl, rfl⟩)
          | (go_at_call 22; refine (slack_any _ _ ys _ HSS HY).mono ?_; rintro e w' ⟨rfl, rfl⟩))
        go_ret
        exact ⟨rfl, hb⟩
end Go.Proofs.Ymbrcf
