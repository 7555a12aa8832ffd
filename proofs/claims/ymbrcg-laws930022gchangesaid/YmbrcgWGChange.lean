/- huff.LawS930022GChange, walked. -/
import Derived.Test.YmbrcgWGSum
namespace Go.Proofs.Ymbrcg
open Go.RowKit
set_option linter.unusedVariables false
set_option linter.unusedSimpArgs false

theorem fcv_change (cs : List Int) (k : Nat) (v d : Int) (hk : k < cs.length) (hv : v % 4294967296 = (cs[k]?.getD 0 + d) % 4294967296) :
    ∀ l, fcv (cs.set k v) l = if 1 ≤ k ∧ k < l then (fcv cs l + d * 2 ^ (l - k)) % 4294967296 else fcv cs l
  | 0 => by rw [if_neg (by omega)]; rfl
  | 1 => by rw [if_neg (by omega)]; rfl
  | l + 2 => by
    rw [fcv, fcv, fcv_change cs k v d hk hv (l + 1)]
    by_cases h1 : k = l + 1
    · subst h1
      rw [if_neg (by omega), if_pos (by omega), List.getElem?_set_self hk, show l + 2 - (l + 1) = 1 from by omega]
      simp only [Option.getD_some]
      generalize fcv cs (l + 1) = F
      generalize cs[l + 1]?.getD 0 = c at hv
      omega
    · rw [List.getElem?_set_ne h1]
      by_cases h2 : 1 ≤ k ∧ k < l + 1
      · rw [if_pos h2, if_pos (by omega), show l + 2 - k = (l + 1 - k) + 1 from by omega, Int.pow_succ, ← Int.mul_assoc]
        generalize d * 2 ^ (l + 1 - k) = D
        generalize fcv cs (l + 1) = F
        generalize cs[l + 1]?.getD 0 = c
        omega
      · rw [if_neg h2, if_neg (by omega)]

set_option maxHeartbeats 800000 in
theorem gchange_any (cs : List Int) (at_ d : Int) (w : World) (hl : cs.length = 16) (hat : 0 ≤ at_ ∧ at_ ≤ 255) :
    Calls Ycgm.prog 7 #[.agg (ints .i64 cs).toArray, .int .u8 at_, .int .i64 d] w fun e w' => e = .returned (.bool true) ∧ Below w.heap.size w w' := by
  obtain ⟨k, hk⟩ : ∃ k : Nat, at_ % 16 = (k : Int) := ⟨(at_ % 16).toNat, by omega⟩
  have hk16 : k < 16 := by omega
  have hk16' : (k : Int) < 16 := by omega
  have HCH := hid (fcv_change cs k (wrap64 (cs[k]?.getD 0 + d)) d (by omega) (by unfold wrap64; omega))
  have HL := hid hl
  have HFL := hid (firsts_length cs)
  have HFL2 := hid (firsts_length (cs.set k (wrap64 (cs[k]?.getD 0 + d))))
  have HL2 : Hid ((cs.set k (wrap64 (cs[k]?.getD 0 + d))).length = 16) := hid (by rw [List.length_set]; exact hl)
  clear hl
  generalize hv : cs[k]?.getD 0 = c at HCH HFL2 HL2
  have HV := hid hv
  clear hv
  generalize hcs2 : cs.set k (wrap64 (c + d)) = cs2 at HCH HFL2 HL2
  have HCS2 := hid hcs2
  clear hcs2
  have h0 := RowV.fresh w 27 (ints .i64 cs) _ rfl
  go_enter Ycgm.func7, Ycgm.ntmps7
  go_wp2_with (first
    | refine wpList_loadRow rfl 27 (.tmp 3) rfl _ rfl _ (ints .i64 cs) _ hc3 Ycgm.underlying27 rfl (by simp only [List.length_map, HL.out]; kernel_rfl) ?_
    | refine wpList_loadRow rfl 27 (.tmp 3) rfl _ rfl _ (ints .i64 cs) _ h0 Ycgm.underlying27 rfl (by simp only [List.length_map, HL.out]; kernel_rfl) ?_
    | (refine wpList_storeRow rfl 27 (.tmp 8) _ rfl _ (ints .i64 cs) rfl rfl _ (ints .i64 (List.replicate 16 0)) (RowV.fresh _ _ (ints .i64 (List.replicate 16 0)) _ (by simp)) (by simp only [List.length_map, HL.out]; kernel_rfl) (by simp [HL.out]) (ints_one _ _) ?_; intro w2 hr2 hg2; have hc2 : RowV w2 w.heap.size 27 (ints .i64 cs) := (h0.alloc _).grown hg2 (by simp); have ck : w2.cell? ⟨w.heap.size + 1, k, none⟩ = some (.int .i64 c) := (by rw [← HV.out]; exact hr2.int (by rw [HL.out]; exact hk16)); have fk := hr2.frozen k; have hc3 := hc2.other ⟨w.heap.size + 1, k, none⟩ (.int .i64 (wrap64 (c + d))) (by simp)))
  have hr3 := hr2.setInt k (wrap64 (c + d))
  rw [HCS2.out] at hr3
  have hb3 : Below w.heap.size w (w2.setCell ⟨w.heap.size + 1, k, none⟩ (.int .i64 (wrap64 (c + d)))) :=
    ((((Below.refl _ _).alloc (Nat.le_refl _) _).alloc (by simp) _).grown hg2 (by simp; omega) (by intro j h; cases h; omega)).setCell (by simp) _
  have hs2 : w2.heap.size ≥ w.heap.size + 2 := by have := hg2.size; simp at this; omega
  generalize hw3 : w2.setCell ⟨w.heap.size + 1, k, none⟩ (.int .i64 (wrap64 (c + d))) = w3 at hr3 hc3 hb3
  have hs3 : w3.heap.size = w2.heap.size := by rw [← hw3]; simp
  have HW3 := hid hw3
  clear hw3
  refine (first_any cs _ HL).mono ?_
  rintro e w4 ⟨rfl, hb4⟩
  have hr4 := hr3.below hb4 (by omega)
  have hb4' : Below w.heap.size w w4 := hb3.trans (hb4.mono hb3.size)
  have hs4 : w.heap.size + 2 ≤ w4.heap.size := by have := hb4.size; omega
  clear hb4 hr3 hc3 hb3 hr2 hg2 hc2 ck fk
  go_wp2_with (first
    | (refine wpList_storeRow rfl 29 (.tmp 9) _ rfl _ (ints .u32 (firsts cs)) rfl rfl _ (ints .u32 (List.replicate 16 0)) (RowV.fresh _ _ (ints .u32 (List.replicate 16 0)) _ rfl) (by simp only [List.length_map, HFL.out]; kernel_rfl) (by simp [HFL.out]) (ints_one _ _) ?_; intro w5 hr5 hg5; have hc5 : RowV w5 (w.heap.size + 1) 27 (ints .i64 cs2) := (hr4.alloc _).grown hg5 (by simp; omega))
    | refine wpList_loadRow rfl 27 (.tmp 8) rfl _ rfl _ (ints .i64 cs2) _ hc5 Ycgm.underlying27 rfl (by simp only [List.length_map, HL2.out]; kernel_rfl) ?_)
  have hb5 : Below w.heap.size w w5 := (hb4'.alloc (by omega) _).grown hg5 (by simp; omega) (by intro j h; cases h; omega)
  have hs5 : w4.heap.size + 1 ≤ w5.heap.size := by have := hg5.size; simp at this; omega
  clear hg5 hc5 hr4 hb4'
  refine (first_any cs2 _ HL2).mono ?_
  rintro e w6 ⟨rfl, hb6⟩
  have hr6 := hr5.below hb6 (by omega)
  have hb6' : Below w.heap.size w w6 := hb5.trans (hb6.mono hb5.size)
  have hs6 : w5.heap.size ≤ w6.heap.size := hb6.size
  clear hb6 hr5 hb5
  go_wp2_with (refine wpList_storeRow rfl 29 (.tmp 10) _ rfl _ (ints .u32 (firsts cs2)) rfl rfl _ (ints .u32 (List.replicate 16 0)) (RowV.fresh _ _ (ints .u32 (List.replicate 16 0)) _ rfl) (by simp only [List.length_map, HFL2.out]; kernel_rfl) (by simp [HFL2.out]) (ints_one _ _) ?_; intro w7 hr7 hg7)
  have hb7 : Below w.heap.size w w7 := (hb6'.alloc (by omega) _).grown hg7 (by simp; omega) (by intro j h; cases h; omega)
  have hq7 := (hr6.alloc _).grown hg7 (by simp; omega)
  clear hg7 hr6 hb6'
  go_loop [11] (fun i => ∃ (l : Nat), l ≤ 16 ∧ i = .int .i64 l) (fun i => 16 - (intOf i).toNat)
  case atStart => exact ⟨0, by omega, rfl⟩
  case round =>
    obtain ⟨l, hl, rfl⟩ := hrel
    by_cases hlt : l < 16
    · have hlt' : (l : Int) ≤ 15 := by omega
      have c1 : w7.cell? ⟨w4.heap.size, l, none⟩ = some (.int .u32 ((firsts cs)[l]?.getD 0)) := hq7.int (by rw [HFL.out]; exact hlt)
      have c2 : w7.cell? ⟨w6.heap.size, l, none⟩ = some (.int .u32 ((firsts cs2)[l]?.getD 0)) := hr7.int (by rw [HFL2.out]; exact hlt)
      rw [firsts_get _ l hlt] at c1
      rw [firsts_get _ l hlt, HCH.out l] at c2
      have hfb := fcv_bd cs l
      generalize fcv cs l = F at c1 c2 hfb
      by_cases hk1 : 1 ≤ k
      · by_cases hkl : k < l
        · rw [if_pos ⟨hk1, hkl⟩, ← shl_mod] at c2
          have hk1' : (1 : Int) ≤ (k : Int) := by omega
          have hkl' : (k : Int) < (l : Int) := by omega
          go_wp2
          go_round
          case rel => exact ⟨l + 1, by omega, by go_num⟩
          case measure => simp [intOf]; omega
        · rw [if_neg (by omega)] at c2
          have hk1' : (1 : Int) ≤ (k : Int) := by omega
          have hkl' : ¬ (k : Int) < (l : Int) := by omega
          go_wp2
          go_round
          case rel => exact ⟨l + 1, by omega, by go_num⟩
          case measure => simp [intOf]; omega
      · rw [if_neg (by omega)] at c2
        have hk1' : ¬ (1 : Int) ≤ (k : Int) := by omega
        go_wp2
        go_round
        case rel => exact ⟨l + 1, by omega, by go_num⟩
        case measure => simp [intOf]; omega
    · have hlt' : ¬ (l : Int) ≤ 15 := by omega
      go_wp2
      go_ret
      exact ⟨rfl, hb7⟩
end Go.Proofs.Ymbrcg
