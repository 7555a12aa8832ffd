/- The helpers of the laws B, walked: zzs930022bfits, bcode, bagrees, bshape. -/
import Derived.Test.YmbrcfCanon
namespace Go.Proofs.Ymbrcf
open Go.RowKit
set_option linter.unusedVariables false
set_option linter.unusedSimpArgs false

theorem ksum_drop' (xs : List Int) (k : Nat) (h : k < xs.length) : ksum (xs.drop k) = wt xs[k] + ksum (xs.drop (k + 1)) := by rw [List.drop_eq_getElem_cons h, ksum]
theorem all15_drop' (xs : List Int) (k : Nat) (h : k < xs.length) : all15 (xs.drop k) = (decide (xs[k] ≤ 15) && all15 (xs.drop (k + 1))) := by rw [List.drop_eq_getElem_cons h, all15]

set_option maxHeartbeats 400000 in
theorem bfits_any (a : Option Addr) (c n : Nat) (xs : List Int) (w : World) (hn : n = xs.length) (h : Sees .u8 w a xs) (hr : ∀ x ∈ xs, 0 ≤ x ∧ x ≤ 255) (h4 : xs.length ≤ 100000) :
    Calls Ycfm.prog 18 #[.slice a n c] w fun e w' => e = .returned (.bool (fits xs)) ∧ w' = w := by
  subst hn
  obtain ⟨hm, hc⟩ := h
  have HC := hid hc
  have HR := hid hr
  clear hc hr
  generalize hV : fits xs = V
  have HV := hid hV
  clear hV
  go_enter Ycfm.func18, Ycfm.ntmps18
  go_wp2
  go_loop [3, 8] (fun s i => ∃ (k : Nat) (S : Int), k ≤ xs.length ∧ i = .int .i64 k ∧ s = .int .i64 S ∧ 0 ≤ S ∧ S ≤ 16384 * k ∧ Hid (S + ksum (xs.drop k) = ksum xs) ∧ Hid (all15 (xs.drop k) = all15 xs)) (fun _ i => xs.length - (intOf i).toNat)
  case atStart => exact ⟨0, 0, Nat.zero_le _, rfl, rfl, by omega, by omega, hid (by simp), hid (by simp)⟩
  case round =>
    obtain ⟨k, S, hk, rfl, rfl, hS0, hS1, HS, HT⟩ := hrel
    by_cases hlt : k < xs.length
    · obtain ⟨b, off, rfl, hbs, hcell⟩ := HC.out k hlt
      have hx := HR.out _ (List.getElem_mem hlt)
      have HD := hid (ksum_drop' xs k hlt)
      have HA := hid (all15_drop' xs k hlt)
      have hwb := wt_bd xs[k]
      by_cases h15 : 15 < xs[k]
      · have HF : Hid (V = false) := by
          refine hid ?_
          rw [← HV.out, fits, ← HT.out, HA.out, decide_eq_false (by omega)]; rfl
        go_wp2
        go_ret
        exact ⟨ret_bool (by rw [HF.out]), rfl⟩
      · have HA2 : Hid (all15 (xs.drop (k + 1)) = all15 xs) := by
          refine hid ?_
          rw [← HT.out, HA.out, decide_eq_true (by omega), Bool.true_and]
        by_cases h0 : 0 < xs[k]
        · have hw := wt_shl xs[k] h0 (by omega)
          have HW := hid hw
          have hws : wrap64 (2 ^ (15 - xs[k]).toNat) = wt xs[k] := by rw [← hw]; exact IntWalk.wrap64_in _ ⟨by omega, by omega⟩
          clear hw
          go_wp2
          go_round
          case rel =>
            refine ⟨k + 1, S + wt xs[k], by omega, by go_num, ?_, by omega, by omega, hid ?_, HA2⟩
            · first | rfl | (congr 1; rw [HW.out])
            · have := HS.out; rw [HD.out] at this; omega
          case measure => simp [intOf]; omega
        · have HW := hid (wt_zero xs[k] (by omega))
          go_wp2
          go_round
          case rel =>
            refine ⟨k + 1, S, by omega, by go_num, rfl, by omega, by omega, hid ?_, HA2⟩
            have := HS.out; rw [HD.out, HW.out] at this; omega
          case measure => simp [intOf]; omega
    · have e1 : S = ksum xs := by have := HS.out; rw [List.drop_of_length_le (by omega)] at this; simpa [ksum] using this
      have e2 : all15 xs = true := by rw [← HT.out, List.drop_of_length_le (by omega)]; rfl
      have HF : Hid (V = decide (S ≤ 32768)) := by
        refine hid ?_
        rw [← HV.out, fits, e2, e1, Bool.true_and]
      clear e1 e2
      go_wp2
      go_ret
      exact ⟨ret_bool (by rw [HF.out]), rfl⟩

set_option maxHeartbeats 800000 in
theorem bcode_any (a : Option Addr) (c n : Nat) (xs : List Int) (i : Nat) (w : World) (hn : n = xs.length) (h : Sees .u8 w a xs) (hl : Lens xs) (hk : ksum xs ≤ 32768) (hi : i < xs.length) (h0 : 0 < xs[i]) :
    Calls Ycfm.prog 31 #[.slice a n c, .int .i64 i] w fun e w' => e = .returned (.int .u32 (codeB xs xs[i] i)) ∧ w' = w := by
  subst hn
  obtain ⟨hm, hc⟩ := h
  have hx := hl _ (List.getElem_mem hi)
  have hsum := sumB_pos xs hl xs[i] h0 i
  have hpos := codeB_pos xs hl hk xs[i] h0 hx.2 i
  have hend := pos_end xs hl hk i hi
  have hcl := codeB_lt xs hl hk i hi h0
  have hwi := wt_shl xs[i] h0 hx.2
  have hwp := wt_ge1 xs[i] h0 hx.2
  obtain ⟨b, off, rfl, hbs, hcelli⟩ := hc i hi
  rw [getD_get _ _ hi] at hcelli
  have hgen : ∀ k, k < xs.length → w.cell? ⟨b, off + k, none⟩ = some (.int .u8 (xs[k]?.getD 0)) := by
    intro k hk
    obtain ⟨b', off', e, _, hcell⟩ := hc k hk
    simp only [Option.some.injEq, Addr.mk.injEq, and_true] at e
    obtain ⟨rfl, rfl⟩ := e
    exact hcell
  have HC := hid hgen
  have HL := hid hl
  clear hc hgen hl
  generalize hL : xs[i] = L at hx hsum hpos hend hcl hwi hwp hcelli h0
  clear hL
  generalize codeB xs L i = CB at hpos hcl
  generalize posI xs L i = PI at hsum hpos hend
  have HSUM := hid hsum
  have HPOS := hid hpos
  have HWI := hid hwi
  clear hsum hpos hwi
  have hi' : (i : Int) < (xs.length : Int) := by omega
  go_enter Ycfm.func31, Ycfm.ntmps31
  go_wp2
  go_loop [6, 15] (fun t j => ∃ (k : Nat) (T : Int), k ≤ xs.length ∧ j = .int .i64 k ∧ t = .int .u32 T ∧ 0 ≤ T ∧ T ≤ PI ∧ Hid (T + sumB wt L i k (xs.drop k) = PI)) (fun _ j => xs.length - (intOf j).toNat)
  case atStart => exact ⟨0, 0, Nat.zero_le _, rfl, rfl, by omega, by have := sumB_nonneg wt (fun x => (wt_bd x).1) L i xs 0; rw [HSUM.out] at this; exact this, hid (by simpa using HSUM.out)⟩
  case round =>
    obtain ⟨k, T, hk2, rfl, rfl, hT0, hT1, HT⟩ := hrel
    by_cases hlt : k < xs.length
    · have hcell := HC.out k hlt
      rw [getD_get _ _ hlt] at hcell
      have hxk := HL.out _ (List.getElem_mem hlt)
      have HD := hid (sumB_drop wt L i k xs hlt)
      have hsn := sumB_nonneg wt (fun x => (wt_bd x).1) L i (xs.drop (k + 1)) (k + 1)
      generalize hX : xs[k] = X at hcell hxk HD
      clear hX
      have key : ∀ v : Int, (if 0 < X ∧ (X < L ∨ (X = L ∧ k < i)) then wt X else 0) = v → Hid (T + v + sumB wt L i (k + 1) (xs.drop (k + 1)) = PI) := by
        intro v hv
        refine hid ?_
        have := HT.out
        rw [HD.out, hv] at this
        omega
      have KEY := hid key
      clear key
      by_cases hb : 0 < X ∧ (X < L ∨ (X = L ∧ k < i))
      · have K1 := KEY.out (wt X) (if_pos hb)
        have hw := wt_shl X hb.1 hxk.2
        have hwb := wt_bd X
        have HW := hid hw
        have hT2 : T + wt X ≤ PI := by have := K1.out; omega
        rw [hw] at hT2 hwb
        clear hw
        obtain ⟨hb0, hb1⟩ := hb
        by_cases hXL : X < L
        · clear hb1
          go_wp2
          go_round
          case rel => exact ⟨k + 1, T + wt X, by omega, by go_num, by rw [HW.out], by rw [HW.out]; omega, by rw [HW.out]; omega, K1⟩
          case measure => simp [intOf]; omega
        · obtain ⟨hXe, hki⟩ := hb1.resolve_left hXL
          subst hXe
          have hki' : (k : Int) < (i : Int) := by omega
          clear hb1
          go_wp2
          go_round
          case rel => exact ⟨k + 1, T + wt X, by omega, by go_num, by rw [HW.out], by rw [HW.out]; omega, by rw [HW.out]; omega, K1⟩
          case measure => simp [intOf]; omega
      · have K1 := KEY.out 0 (if_neg hb)
        have K2 : Hid (T + sumB wt L i (k + 1) (xs.drop (k + 1)) = PI) := hid (by have := K1.out; omega)
        by_cases hX0 : 0 < X
        · have hXL : ¬ X < L := by omega
          by_cases hXe : X = L
          · have hki : ¬ k < i := by omega
            have hki' : ¬ (k : Int) < (i : Int) := by omega
            subst hXe
            clear hb
            go_wp2
            go_round
            case rel => exact ⟨k + 1, T, by omega, by go_num, rfl, hT0, hT1, K2⟩
            case measure => simp [intOf]; omega
          · have hXe' : (X == L) = false := by simpa using hXe
            clear hb
            go_wp2
            go_round
            case rel => exact ⟨k + 1, T, by omega, by go_num, rfl, hT0, hT1, K2⟩
            case measure => simp [intOf]; omega
        · clear hb
          go_wp2
          go_round
          case rel => exact ⟨k + 1, T, by omega, by go_num, rfl, hT0, hT1, K2⟩
          case measure => simp [intOf]; omega
    · have e : T = PI := by have := HT.out; rw [List.drop_of_length_le (by omega), sumB] at this; omega
      have hdiv : T / 2 ^ (15 - L).toNat = CB := by
        rw [e, ← HPOS.out, HWI.out, Int.mul_ediv_cancel]
        rw [← HWI.out]; omega
      have HDV := hid hdiv
      clear e hdiv
      go_wp2
      go_ret
      exact ⟨ret_int (by rw [HDV.out]), rfl⟩
end Go.Proofs.Ymbrcf
