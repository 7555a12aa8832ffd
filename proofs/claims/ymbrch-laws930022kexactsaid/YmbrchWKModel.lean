/- huff.zzs930022kmodel, walked. -/
import Derived.Test.YmbrchDecOne
import Derived.Deep.DeepCutAuto
namespace Go.Proofs.Ymbrch
open Go.RowKit
set_option linter.unusedVariables false
set_option linter.unusedSimpArgs false

theorem mask_test (x r : Nat) (hx : x < 256) (hr : r < 8) : (bits .and .u8 (x : Int) (128 / 2 ^ r) != 0) = ((x : Int) / 2 ^ (7 - r) % 2 == 1) := by
  have h : ∀ (x : Fin 256) (r : Fin 8), (bits .and .u8 (x.val : Int) (128 / 2 ^ r.val) != 0) = ((x.val : Int) / 2 ^ (7 - r.val) % 2 == 1) := by decide +kernel
  exact h ⟨x, hx⟩ ⟨r, hr⟩
theorem win_step (f : Nat → Bool) (k : Nat) (hk : k < 15) : winW f (k + 1) = winW f k + (if f k then 2 ^ (14 - k) else 0) := by
  rw [winW, winW, V, show 15 - k = (14 - k) + 1 from by omega, show 15 - (k + 1) = 14 - k from by omega, Int.pow_succ, Int.add_mul]
  have h1 : 2 * V f k * 2 ^ (14 - k) = V f k * (2 ^ (14 - k) * 2) := by rw [Int.mul_comm 2 (V f k), Int.mul_assoc, Int.mul_comm 2]
  rw [h1]
  split <;> simp

set_option maxRecDepth 8000 in
set_option maxHeartbeats 1600000 in
theorem kmodel_any (xs ds : List Int) (al : Option Addr) (nl cl : Nat) (a : Option Addr) (n c : Nat) (N pos : Int) (w : World)
    (hl : Lens xs) (hk : ksum xs ≤ 32768) (hnl : nl = xs.length) (hsl : Sees .u8 w al xs) (hx : xs.length ≤ 1024)
    (hn : n = ds.length) (hs : Sees .u8 w a ds) (hr : ∀ x ∈ ds, 0 ≤ x ∧ x ≤ 255) (hd : ds.length ≤ 1024) (hN : -9223372036854775808 ≤ N ∧ N ≤ 9223372036854775807) (hp : -9223372036854775808 ≤ pos ∧ pos ≤ 9223372036854775807) :
    Calls Ychm.prog 17 #[.slice al nl cl, .slice a n c, .int .i64 N, .int .i64 pos] w fun e w' => DecAns xs ds N pos e ∧ w' = w := by
  subst hnl
  subst hn
  have HL := hid hl
  have HK := hid hk
  have HSL := hid hsl
  have HS := hid hs
  have HR := hid hr
  obtain ⟨M, hM⟩ : ∃ M, min N (8 * (ds.length : Int)) = M := ⟨_, rfl⟩
  obtain ⟨A, hA⟩ : ∃ A, availD ds N pos = A := ⟨_, rfl⟩
  obtain ⟨f, hf⟩ : ∃ f, strm ds pos = f := ⟨_, rfl⟩
  have HA15 : Hid (A ≤ 15) := hid (by rw [← hA]; exact avail_le _ _ _)
  have HRM : Hid (0 < A → 0 ≤ pos ∧ pos + (A : Nat) ≤ N ∧ pos + (A : Nat) ≤ 8 * (ds.length : Int)) := hid (by rw [← hA]; exact fun h => avail_room ds N pos h)
  have HAM : Hid ((A : Int) = if 0 ≤ pos ∧ pos < M then min 15 (M - pos) else 0) := hid (by
    rw [← hA, ← hM, availD]
    split <;> split <;> omega)
  have HF : Hid (∀ l : Nat, f l = bitD ds (pos + l).toNat) := hid (by rw [← hf]; exact fun l => rfl)
  have HANS : Hid (∀ e, DecAns xs ds N pos e ↔ ((∃ i, ∃ h : i < xs.length, Match xs (winW f A) A i ∧ e = .returned (.tuple #[.int .i64 i, .int .i64 (pos + xs[i]), .int .i64 0])) ∨ ((∀ i, ¬ Match xs (winW f A) A i) ∧ e = .returned (.tuple #[.int .i64 0, .int .i64 pos, .int .i64 (if A < 15 then 1 else 2)])))) := hid (fun e => by unfold DecAns; rw [hA, hf])
  have HW := hid (win_bd f A HA15)
  have HM := hid hM
  clear hl hk hsl hs hr hA hf hM
  go_enter Ychm.func17, Ychm.ntmps17
  go_upto_if 25 with fail
  go_cut [11] (fun s11 wx => s11 = .int .i64 M ∧ wx = w)
  case first =>
    by_cases h1 : N < 8 * (ds.length : Int)
    · have hM : M = N := by have := HM.out; omega
      go_wp2_with fail
      go_meet
      exact ⟨by rw [hM], rfl⟩
    · have hM : M = 8 * (ds.length : Int) := by have := HM.out; omega
      go_wp2_with fail
      go_meet
      exact ⟨by rw [hM], rfl⟩
  case rest =>
  obtain ⟨rfl, hwc⟩ := hcut
  replace hwc := hwc.symm
  subst hwc
  have hMb : M ≤ 8 * (ds.length : Int) ∧ -9223372036854775808 ≤ M := by have := HM.out; omega
  go_upto_region 5 with fail
  go_cut [33] (fun s33 wx => s33 = .bool (decide (0 ≤ pos ∧ pos < M)) ∧ wx = w)
  case first =>
    by_cases h1 : 0 ≤ pos
    · go_wp2_with fail
      go_meet
      exact ⟨by simp [h1], rfl⟩
    · go_wp2_with fail
      go_meet
      exact ⟨by simp; omega, rfl⟩
  case rest =>
  obtain ⟨rfl, hwc⟩ := hcut
  replace hwc := hwc.symm
  subst hwc
  go_upto_if 33 with fail
  go_cut [12] (fun s12 wx => s12 = .int .i64 (A : Int) ∧ wx = w)
  case first =>
    by_cases h1 : 0 ≤ pos
    · by_cases h2 : pos < M
      · by_cases h3 : 15 < M - pos
        · have hA : (A : Int) = 15 := by rw [HAM.out, if_pos ⟨h1, h2⟩]; omega
          go_wp2_with fail
          go_meet
          exact ⟨by rw [hA], rfl⟩
        · have hA : (A : Int) = M - pos := by rw [HAM.out, if_pos ⟨h1, h2⟩]; omega
          go_wp2_with fail
          go_meet
          exact ⟨by rw [hA], rfl⟩
      · have hA : (A : Int) = 0 := by rw [HAM.out, if_neg (by omega)]
        go_wp2_with fail
        go_meet
        exact ⟨by rw [hA], rfl⟩
    · have hA : (A : Int) = 0 := by rw [HAM.out, if_neg (by omega)]
      go_wp2_with fail
      go_meet
      exact ⟨by rw [hA], rfl⟩
  case rest =>
  obtain ⟨rfl, hwc⟩ := hcut
  replace hwc := hwc.symm
  subst hwc
  clear HAM HM hMb
  go_wp2
  go_loop [13, 14] (fun v i => ∃ (k : Nat) (W : Int), k ≤ A ∧ i = .int .i64 k ∧ v = .int .i64 W ∧ 0 ≤ W ∧ W < 32768 ∧ Hid (W = winW f k)) (fun _ i => A - (intOf i).toNat)
  case atStart => exact ⟨0, 0, Nat.zero_le _, rfl, rfl, by omega, by omega, hid (by simp [winW, V])⟩
  case round =>
    obtain ⟨k, W, hk, rfl, rfl, hW0, hW1, HWK⟩ := hrel
    have hA15 := HA15.out
    by_cases hlt : k < A
    · obtain ⟨hp0, hpN, hpD⟩ := HRM.out (by omega)
      obtain ⟨p, rfl⟩ : ∃ p : Nat, pos = (p : Int) := ⟨pos.toNat, by omega⟩
      have hj : (p + k) / 8 < ds.length := by omega
      obtain ⟨b, off, rfl, hbs, hcell⟩ := HS.out.2 _ hj
      have hx8 := HR.out _ (List.getElem_mem hj)
      rw [getD_get _ _ hj] at hcell
      have hfk : f k = (ds[(p + k) / 8] / 2 ^ (7 - (p + k) % 8) % 2 == 1) := by
        rw [HF.out k, show ((p : Int) + (k : Int)).toNat = p + k from by omega, bitD, getD_get _ _ hj]
      obtain ⟨x, hx'⟩ : ∃ x : Nat, ds[(p + k) / 8] = (x : Int) := ⟨ds[(p + k) / 8].toNat, by omega⟩
      rw [hx'] at hcell hfk hx8
      have hmt := mask_test x ((p + k) % 8) (by omega) (by omega)
      rw [← hfk] at hmt
      have hws := win_step f k (by omega)
      have hbd := win_bd f (k + 1) (by omega)
      have hpw := pow_le_32768 (14 - k) (by omega)
      have hpp := pow_pos' (14 - k)
      clear hfk hx'
      obtain ⟨B, hB⟩ : ∃ B, f k = B := ⟨_, rfl⟩
      rw [hB] at hmt hws
      rw [← HWK.out] at hws
      rw [hws] at hbd
      have HWS := hid hws
      clear hws hB
      have hk14 : (k : Int) ≤ 14 := by omega
      cases B with
      | true =>
        simp only [if_true] at hbd HWS
        go_wp2
        go_round
        case rel => exact ⟨k + 1, W + 2 ^ (14 - k), by omega, by go_num, by go_num, by omega, by omega, hid HWS.out.symm⟩
        case measure => simp [intOf]; omega
      | false =>
        simp only [Bool.false_eq_true, if_false] at hbd HWS
        go_wp2
        go_round
        case rel => exact ⟨k + 1, W, by omega, by go_num, rfl, by omega, by omega, hid (by rw [HWS.out]; omega)⟩
        case measure => simp [intOf]; omega
    · have hkA : k = A := by omega
      subst hkA
      clear hlt HF HR HS
      have HWW := HWK
      go_wp2
      go_loop [16, 17] (fun v i => ∃ (l : Nat), 1 ≤ l ∧ l ≤ k + 1 ∧ i = .int .i64 l ∧ v = .int .i64 (kl xs (l : Int)) ∧ Hid (kl xs (l : Int) ≤ W)) (fun _ i => k + 1 - (intOf i).toNat)
      case atStart =>
        refine ⟨1, by omega, by omega, rfl, ?_, hid ?_⟩
        · rw [show ((1 : Nat) : Int) = 1 from rfl, kl_one xs HL]
        · rw [show ((1 : Nat) : Int) = 1 from rfl, kl_one xs HL]; exact hW0
      case round =>
        obtain ⟨l, hl1, hlk, rfl, rfl, HKL⟩ := hrel
        by_cases hle : l ≤ k
        · have hle' : (l : Int) ≤ (k : Int) := by omega
          have hl15 : (l : Int) ≤ 15 := by omega
          have hwl : wt (l : Int) = 2 ^ (15 - l) := by rw [wt_shl _ (by omega) (by omega), show (15 - (l : Int)).toNat = 15 - l from by omega]
          have HWL := hid hwl
          have hpw := pow_le_32768 (15 - l) (by omega)
          have hpp := pow_pos' (15 - l)
          have hk0 := kl_nonneg xs (l : Int)
          have hkW := HKL.out
          obtain ⟨K, hK⟩ : ∃ K, kl xs (l : Int) = K := ⟨_, rfl⟩
          rw [hK] at hk0 hkW ⊢
          have HKK := hid hK
          clear hK hwl
          go_wp2
          go_loop [16, 19] (fun v i => ∃ (s : Nat) (S : Int), s ≤ xs.length ∧ i = .int .i64 s ∧ v = .int .i64 S ∧ 0 ≤ S ∧ S ≤ W ∧ Hid (S = K + ((xs.take s).count (l : Int) : Nat) * wt (l : Int))) (fun _ i => xs.length - (intOf i).toNat)
          case atStart => exact ⟨0, K, Nat.zero_le _, rfl, rfl, hk0, hkW, hid (by simp)⟩
          case round =>
            obtain ⟨s, S, hs, rfl, rfl, hS0, hS1, HSS⟩ := hrel
            by_cases hlt : s < xs.length
            · obtain ⟨b, off, rfl, hbs, hcell⟩ := HSL.out.2 s hlt
              rw [getD_get _ _ hlt] at hcell
              have hy := HL.out _ (List.getElem_mem hlt)
              have HST : Hid (((xs.take (s + 1)).count (l : Int) : Nat) = (xs.take s).count (l : Int) + if xs[s] = (l : Int) then 1 else 0) := hid (by
                rw [List.take_succ_eq_append_getElem hlt, List.count_append, List.count_singleton]; simp)
              have HPO : Hid (xs[s] = (l : Int) → posI xs xs[s] s = S) := hid (fun e => by rw [e, posI, HKK.out, HSS.out])
              obtain ⟨X, hX⟩ : ∃ X, xs[s] = X := ⟨_, rfl⟩
              rw [hX] at hcell hy HST
              have HX := hid hX
              clear hX
              by_cases hxl : X = (l : Int)
              · subst hxl
                rw [if_pos rfl] at HST
                by_cases hhit : W < S + 2 ^ (15 - l)
                · have HMA : Hid (Match xs (winW f k) k s) := hid ⟨hlt, by rw [HX.out]; omega, by rw [HX.out]; exact hle', by rw [HPO.out HX.out, ← HWW.out]; exact hS1, by rw [HPO.out HX.out, HX.out, HWL.out, ← HWW.out]; exact hhit⟩
                  have hpl := HRM.out (by omega)
                  go_wp2
                  go_ret3
                  refine ⟨(HANS.out _).2 (.inl ⟨s, hlt, HMA.out, ?_⟩), rfl⟩
                  rw [HX.out]; rfl
                · go_wp2
                  go_round
                  case rel =>
                    refine ⟨s + 1, S + 2 ^ (15 - l), by omega, by go_num, by go_num, by omega, by omega, hid ?_⟩
                    rw [HST.out, HSS.out, HWL.out]; push_cast; rw [Int.add_mul]; omega
                  case measure => simp [intOf]; omega
              · rw [if_neg hxl] at HST
                have hxb : (X == (l : Int)) = false := by simpa using hxl
                go_wp2
                go_round
                case rel => exact ⟨s + 1, S, by omega, by go_num, rfl, hS0, hS1, hid (by rw [HST.out, HSS.out]; simp)⟩
                case measure => simp [intOf]; omega
            · have HKN : Hid (S = kl xs (((l + 1 : Nat)) : Int)) := hid (by
                rw [show (((l + 1 : Nat)) : Int) = (l : Int) + 1 from by omega, kl_succ, HSS.out, HKK.out, List.take_of_length_le (by omega)])
              go_wp2
              go_round
              case rel => exact ⟨l + 1, by omega, by omega, by go_num, by rw [HKN.out], hid (by rw [← HKN.out]; exact hS1)⟩
              case measure => simp [intOf]; omega
        · have HNM : Hid (∀ i, ¬ Match xs (winW f k) k i) := hid (fun i => no_match (by rw [← HWW.out, show (k : Int) + 1 = (l : Int) from by omega]; exact HKL.out) i)
          have hle' : ¬ (l : Int) ≤ (k : Int) := by omega
          generalize kl xs (l : Int) = K
          by_cases h15 : k < 15
          · have h15' : (k : Int) < 15 := by omega
            go_wp2
            go_ret3
            refine ⟨(HANS.out _).2 (.inr ⟨HNM.out, ?_⟩), rfl⟩
            rw [if_pos h15]; rfl
          · have h15' : ¬ (k : Int) < 15 := by omega
            go_wp2
            go_ret3
            refine ⟨(HANS.out _).2 (.inr ⟨HNM.out, ?_⟩), rfl⟩
            rw [if_neg h15]; rfl
end Go.Proofs.Ymbrch
