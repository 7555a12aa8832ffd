/- huff.LawS930022GSum, walked. -/
import Derived.Test.YmbrcgFirst
import Derived.Test.YmbrcgOpens
namespace Go.Proofs.Ymbrcg
open Go.RowKit
set_option linter.unusedVariables false
set_option linter.unusedSimpArgs false

/-- The sum of count[j] * 2^(l-j) over 1 ≤ j < k, modulo 2^32. -/
def gs (cs : List Int) (l : Nat) : Nat → Int
  | 0 => 0
  | 1 => 0
  | k + 2 => (gs cs l (k + 1) + cs[k + 1]?.getD 0 * 2 ^ (l - (k + 1))) % 4294967296
theorem gs_double (cs : List Int) (l : Nat) : ∀ k, k ≤ l + 1 → gs cs (l + 1) k = (2 * gs cs l k) % 4294967296
  | 0, _ => by simp [gs]
  | 1, _ => by simp [gs]
  | k + 2, h => by
    rw [gs, gs, gs_double cs l (k + 1) (by omega), show l + 1 - (k + 1) = (l - (k + 1)) + 1 from by omega, Int.pow_succ]
    generalize gs cs l (k + 1) = A
    rw [← Int.mul_assoc]
    generalize cs[k + 1]?.getD 0 * 2 ^ (l - (k + 1)) = B
    omega
theorem gs_bd (cs : List Int) (l : Nat) : ∀ k, 0 ≤ gs cs l k ∧ gs cs l k < 4294967296
  | 0 => by simp [gs]
  | 1 => by simp [gs]
  | k + 2 => by rw [gs]; omega
theorem gs_fcv (cs : List Int) : ∀ l, gs cs l l = fcv cs l
  | 0 => rfl
  | 1 => rfl
  | l + 2 => by
    rw [gs, fcv, gs_double cs (l + 1) (l + 1) (by omega), gs_fcv cs (l + 1), show l + 2 - (l + 1) = 1 from by omega]
    generalize fcv cs (l + 1) = A
    generalize cs[l + 1]?.getD 0 = B
    omega
theorem gs_step (cs : List Int) (l k : Nat) (h : 1 ≤ k) : gs cs l (k + 1) = (gs cs l k + cs[k]?.getD 0 * 2 ^ (l - k)) % 4294967296 := by
  match k, h with
  | k + 1, _ => rw [gs]
theorem shl_mod (A x p : Int) : (A + x % 4294967296 * p % 4294967296) % 4294967296 = (A + x * p) % 4294967296 := by
  have : x % 4294967296 * p % 4294967296 = x * p % 4294967296 := by rw [Int.mul_emod, Int.emod_emod, ← Int.mul_emod]
  rw [this]; omega

set_option maxHeartbeats 400000 in
theorem gsum_any (cs : List Int) (w : World) (hl : cs.length = 16) :
    Calls Ycgm.prog 6 #[.agg (ints .i64 cs).toArray] w fun e w' => e = .returned (.bool true) ∧ Below w.heap.size w w' := by
  have HL := hid hl
  have HFL := hid (firsts_length cs)
  clear hl
  go_enter Ycgm.func6, Ycgm.ntmps6
  go_wp2_with (first
    | refine wpList_loadRow rfl 27 _ rfl _ rfl _ _ _ (RowV.fresh w _ (ints .i64 cs) _ rfl) Ycgm.underlying27 rfl (by simp only [List.length_map, HL.out]; kernel_rfl) ?_
    | (go_at_call 20; refine (first_any cs _ HL).mono ?_; rintro e w1 ⟨rfl, hb1⟩)
    | (refine wpList_storeRow rfl 29 _ _ rfl _ (ints .u32 (firsts cs)) rfl rfl _ (ints .u32 (List.replicate 16 0)) (RowV.fresh _ _ (ints .u32 (List.replicate 16 0)) _ rfl) (by simp only [List.length_map, HFL.out]; kernel_rfl) (by simp [HFL.out]) (ints_one _ _) ?_; intro w2 hr2 hg2))
  have hc1 : RowV w1 w.heap.size 27 (ints .i64 cs) := (RowV.fresh w _ (ints .i64 cs) _ rfl).below hb1 (by simp)
  have hc2 : RowV w2 w.heap.size 27 (ints .i64 cs) := (hc1.alloc _).grown hg2 (by have := hb1.size; simp at this; simp; omega)
  have hb2 : Below w.heap.size w w2 := by
    have hs := hb1.size
    simp at hs
    exact ((((Below.refl _ _).alloc (Nat.le_refl _) _).trans (hb1.mono (by simp))).alloc (by omega) _).grown hg2 (by simp; omega) (by intro k h; cases h; omega)
  clear hg2 hb1 hc1
  go_loop [4] (fun i => ∃ (l : Nat), l ≤ 16 ∧ i = .int .i64 l) (fun i => 16 - (intOf i).toNat)
  case atStart => exact ⟨0, by omega, rfl⟩
  case round =>
    obtain ⟨l, hl, rfl⟩ := hrel
    by_cases hlt : l < 16
    · have hlt' : (l : Int) ≤ 15 := by omega
      go_wp2
      go_loop [5, 6] (fun v i => ∃ (k : Nat), 1 ≤ k ∧ (k ≤ l ∨ k = 1) ∧ i = .int .i64 k ∧ v = .int .u32 (gs cs l k)) (fun _ i => 16 - (intOf i).toNat)
      case atStart => exact ⟨1, by omega, by omega, rfl, rfl⟩
      case round =>
        obtain ⟨k, hk1, hk, rfl, rfl⟩ := hrel
        have hbd := gs_bd cs l k
        by_cases hkl : k < l
        · have hkl' : (k : Int) < (l : Int) := by omega
          have c1 : w2.cell? ⟨w.heap.size, k, none⟩ = some (.int .i64 (cs[k]?.getD 0)) := hc2.int (by rw [HL.out]; omega)
          have HST := hid (gs_step cs l k hk1)
          generalize gs cs l k = A at hbd HST
          go_wp2
          go_round
          case rel => exact ⟨k + 1, by omega, by omega, by go_num, by rw [HST.out, shl_mod]⟩
          case measure => simp [intOf]; omega
        · have hkl' : ¬ (k : Int) < (l : Int) := by omega
          have c1 : w2.cell? ⟨w1.heap.size, l, none⟩ = some (.int .u32 ((firsts cs)[l]?.getD 0)) := hr2.int (by rw [HFL.out]; omega)
          rw [firsts_get cs l hlt] at c1
          have hg : gs cs l k = fcv cs l := by
            rcases hk with hk | hk
            · have : k = l := by omega
              subst this; exact gs_fcv cs k
            · subst hk
              match l, hkl with
              | 0, _ => rfl
              | 1, _ => rfl
              | l + 2, h => omega
          rw [hg]
          go_wp2
          go_round
          case rel => exact ⟨l + 1, by omega, by go_num⟩
          case measure => simp [intOf]; omega
    · have hlt' : ¬ (l : Int) ≤ 15 := by omega
      go_wp2
      go_ret
      exact ⟨rfl, hb2⟩
end Go.Proofs.Ymbrcg
