/- huff.zzs930022imodel and huff.LawS930022IText, walked. -/
import Derived.Test.YmbrcgParse
namespace Go.Proofs.Ymbrcg
open Go.RowKit
set_option linter.unusedVariables false
set_option linter.unusedSimpArgs false

def alld : List Int → Bool
  | [] => true
  | x :: xs => (decide (x = 48) || decide (x = 49)) && alld xs
def val : List Int → Int
  | [] => 0
  | x :: xs => (x - 48) * 2 ^ xs.length + val xs
theorem parseGo_eq : ∀ (xs : List Int) (b l : Int), parseGo b l xs = if alld xs = true then (b * 2 ^ xs.length + val xs, l + xs.length, true) else (0, 0, false)
  | [], b, l => by simp [parseGo, alld, val]
  | x :: xs, b, l => by
    rw [parseGo]
    by_cases h : x = 48 ∨ x = 49
    · rw [if_pos h, parseGo_eq xs, alld]
      have e : (decide (x = 48) || decide (x = 49)) = true := by simpa using h
      rw [e, Bool.true_and]
      by_cases h2 : alld xs = true
      · rw [if_pos h2, if_pos h2, val, List.length_cons, Int.pow_succ, Int.add_mul]
        congr 1
        · rw [Int.mul_assoc, Int.mul_comm 2]; omega
        · congr 1; simp; omega
      · rw [if_neg h2, if_neg h2]
    · rw [if_neg h, alld]
      have e : (decide (x = 48) || decide (x = 49)) = false := by simpa using h
      rw [e, Bool.false_and, if_neg (by decide)]
theorem alld_drop (xs : List Int) (k : Nat) (h : k < xs.length) : alld (xs.drop k) = ((decide (xs[k] = 48) || decide (xs[k] = 49)) && alld (xs.drop (k + 1))) := by rw [List.drop_eq_getElem_cons h, alld]
theorem val_drop (xs : List Int) (k : Nat) (h : k < xs.length) : val (xs.drop k) = (xs[k] - 48) * 2 ^ (xs.length - (k + 1)) + val (xs.drop (k + 1)) := by rw [List.drop_eq_getElem_cons h, val, List.length_drop]
theorem alld_back : ∀ (xs : List Int) (k : Nat), alld (xs.drop k) = false → alld xs = false
  | xs, 0, h => by simpa using h
  | [], k + 1, h => by simp [alld] at h
  | x :: xs, k + 1, h => by
    rw [List.drop_succ_cons] at h
    rw [alld, alld_back xs k h, Bool.and_false]

set_option maxHeartbeats 800000 in
theorem imodel_any (s : ByteArray) (w : World) (hs : s.size ≤ 9223372036854775807) :
    Calls Ycgm.prog 25 #[.string s] w fun e w' => e = .returned (.tuple #[.agg #[.int .u32 (parseV (strL s)).1, .int .u8 (parseV (strL s)).2.1], .bool (parseV (strL s)).2.2]) ∧ Below w.heap.size w w' := by
  have HSL := hid (strL_length s)
  have hfr := RowV.fresh w 36 [.int .u32 0, .int .u8 0] _ rfl
  by_cases h15 : 15 < s.size
  · have h15' : (15 : Int) < (s.size : Int) := by omega
    have HV : Hid (parseV (strL s) = (0, 0, false)) := by refine hid ?_; rw [parseV, if_neg (by rw [HSL.out]; omega)]
    generalize parseV (strL s) = V at HV
    go_enter Ycgm.func25, Ycgm.ntmps25
    go_wp2
    refine ret_row_tmp (by exact Ycgm.results25) _ _ [.int .u32 0, .int .u8 0] _ rfl hfr Ycgm.underlying36 rfl (by kernel_rfl) rfl ⟨ret_code ?_ ?_ ?_, (Below.refl _ _).alloc (Nat.le_refl _) _⟩ <;> rw [HV.out]
  · have h15' : ¬ (15 : Int) < (s.size : Int) := by omega
    have HV : Hid (parseV (strL s) = if alld (strL s) = true then (val (strL s), (s.size : Int), true) else (0, 0, false)) := by
      refine hid ?_; rw [parseV, if_pos (by rw [HSL.out]; omega), parseGo_eq, HSL.out]; simp
    generalize parseV (strL s) = V at HV
    generalize hX : strL s = xs at HSL HV
    have HX := hid hX
    clear hX
    go_enter Ycgm.func25, Ycgm.ntmps25
    go_wp2
    go_loop [5, 6, 7] (fun p q i => ∃ (k : Nat) (S W : Int), k ≤ s.size ∧ i = .int .i64 ((s.size : Int) - 1 - k) ∧ p = .int .u32 S ∧ q = .int .u32 W ∧ 0 ≤ S ∧ S < W ∧ W ≤ 32768 ∧ Hid (W = 2 ^ k) ∧ Hid (S = val (xs.drop (s.size - k))) ∧ Hid (alld (xs.drop (s.size - k)) = true)) (fun _ _ i => ((intOf i) + 1).toNat)
    case atStart =>
      refine ⟨0, 0, 1, Nat.zero_le _, by simp, rfl, rfl, by omega, by omega, by omega, hid (by simp), hid ?_, hid ?_⟩ <;> rw [List.drop_of_length_le (by rw [HSL.out]; omega)] <;> rfl
    case round =>
      obtain ⟨k, S, W, hk, rfl, rfl, rfl, hS0, hS1, hW, HW, HS, HA⟩ := hrel
      by_cases hlt : k < s.size
      · have hge : (0 : Int) ≤ (s.size : Int) - 1 - k := by omega
        obtain ⟨j, hj⟩ : ∃ j : Nat, j + 1 + k = s.size := ⟨s.size - 1 - k, by omega⟩
        have hje : ((s.size : Int) - 1 - k) = (j : Int) := by omega
        have hjs : j < s.size := by omega
        have hjl : j < xs.length := by rw [HSL.out]; exact hjs
        have HD := hid (val_drop xs j hjl)
        have HAD := hid (alld_drop xs j hjl)
        have hg : xs[j] = (s[j].toNat : Int) := by
          have := strL_get s j hjs
          rw [← this]
          simp only [HX.out]
        have e1 : s.size - (k + 1) = j := by omega
        have e2 : s.size - k = j + 1 := by omega
        have E1 := hid e1
        have E2 := hid e2
        have E3 : Hid (xs.length - (j + 1) = k) := hid (by rw [HSL.out]; omega)
        have HG := hid hg
        have hW2 : k + 1 ≤ 15 → W * 2 ≤ 32768 := by
          intro h
          have := pow2_le (k + 1) h
          rw [Int.pow_succ, ← HW.out] at this
          exact this
        have hW3 := hW2 (by omega)
        clear e1 e2 hg hge hW2
        rw [hje]
        have hj0 : (0 : Int) ≤ (j : Int) := by omega
        have hjs' : (j : Int) < (s.size : Int) := by omega
        have HM : Hid ((j : Int) - 1 = (s.size : Int) - 1 - ((k + 1 : Nat) : Int)) := hid (by omega)
        clear hje
        by_cases h48 : (s[j].toNat : Int) = 48
        · go_wp2
          go_round
          case rel =>
            refine ⟨k + 1, S, W * 2, by omega, by rw [← HM.out], rfl, rfl, by omega, by omega, by omega, hid (by rw [Int.pow_succ, HW.out]), hid ?_, hid ?_⟩
            · rw [E1.out, HD.out, HG.out, h48, ← E2.out, ← HS.out]; try omega
            · rw [E1.out, HAD.out, HG.out, h48, ← E2.out, HA.out]; try rfl
          case measure => simp [intOf]; try omega
        · by_cases h49 : (s[j].toNat : Int) = 49
          · go_wp2
            go_round
            case rel =>
              refine ⟨k + 1, S + W, W * 2, by omega, by rw [← HM.out], rfl, rfl, by omega, by omega, by omega, hid (by rw [Int.pow_succ, HW.out]), hid ?_, hid ?_⟩
              · rw [E1.out, HD.out, HG.out, h49, E3.out, ← E2.out, ← HS.out, ← HW.out]; omega
              · rw [E1.out, HAD.out, HG.out, h49, ← E2.out, HA.out]; try rfl
            case measure => simp [intOf]; try omega
          · have HN : Hid (V = (0, 0, false)) := by
              refine hid ?_
              have : alld xs = false := by
                refine alld_back xs j ?_
                rw [HAD.out, HG.out]
                simp [h48, h49]
              rw [HV.out, this]; rfl
            have n48 : ((s[j].toNat : Int) == 48) = false := by simpa using h48
            have n49 : ((s[j].toNat : Int) == 49) = false := by simpa using h49
            go_wp2
            refine ret_row_tmp (by exact Ycgm.results25) _ _ [.int .u32 0, .int .u8 0] _ rfl hfr Ycgm.underlying36 rfl (by kernel_rfl) rfl ⟨ret_code ?_ ?_ ?_, (Below.refl _ _).alloc (Nat.le_refl _) _⟩ <;> rw [HN.out]
      · have hge : ¬ (0 : Int) ≤ (s.size : Int) - 1 - k := by omega
        have hks : k = s.size := by omega
        have HN : Hid (V = (S, (s.size : Int), true)) := by
          refine hid ?_
          have h1 := HA.out
          have h2 := HS.out
          rw [show s.size - k = 0 from by omega, List.drop_zero] at h1 h2
          rw [HV.out, if_pos h1, h2]
        clear hks
        go_wp2
        refine ret_row_tmp (by exact Ycgm.results25) _ _ [.int .u32 S, .int .u8 s.size] _ rfl (RowV.fresh w _ [.int .u32 S, .int .u8 s.size] _ rfl) Ycgm.underlying36 rfl (by kernel_rfl) rfl ⟨ret_code ?_ ?_ ?_, (Below.refl _ _).alloc (Nat.le_refl _) _⟩ <;> rw [HN.out]

set_option maxHeartbeats 400000 in
theorem itext_any (s : ByteArray) (w : World) (hs : s.size ≤ 9223372036854775807) :
    Calls Ycgm.prog 12 #[.string s] w fun e w' => e = .returned (.bool true) ∧ Below w.heap.size w w' := by
  generalize hV : parseV (strL s) = V
  have HV := hid hV
  clear hV
  go_enter Ycgm.func12, Ycgm.ntmps12
  go_wp2_with (first
    | (go_at_call 25; refine (imodel_any s _ hs).mono ?_; rintro e w1 ⟨rfl, hb1⟩; rw [HV.out])
    | (go_at_call 26; refine (parse_any s _ hs).mono ?_; rintro e w2 ⟨rfl, hb2⟩; rw [HV.out]; have hcA : RowV w2 w1.heap.size 36 [.int .u32 V.1, .int .u8 V.2.1] := (RowV.fresh w1 _ [.int .u32 V.1, .int .u8 V.2.1] _ rfl).below hb2 (by simp); have x0 : w2.cell? ⟨w1.heap.size, 0, none⟩ = some (.int .u32 V.1) := hcA.cell rfl; have x1 : w2.cell? ⟨w1.heap.size, 1, none⟩ = some (.int .u8 V.2.1) := hcA.cell rfl; have hltA := hcA.lt))
  go_ret
  have hs1 := hb1.size
  have hs2 := hb2.size
  exact ⟨rfl, ((hb1.alloc hs1 _).trans (hb2.mono (by simp; omega))).alloc (by simp at hs2; omega) _⟩
end Go.Proofs.Ymbrcg
