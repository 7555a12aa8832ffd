/- huff.LawS930022LBoundary, walked. -/
import Derived.Test.YmbrchOcc
namespace Go.Proofs.Ymbrch
open Go.RowKit
set_option linter.unusedVariables false
set_option linter.unusedSimpArgs false

def Four (pre : List Int) : Prop := ∀ y ∈ pre, y = 14 ∨ y = 15 ∨ y = 16 ∨ y = 255
theorem Four.snoc {pre : List Int} (h : Four pre) {v : Int} (hv : v = 14 ∨ v = 15 ∨ v = 16 ∨ v = 255) : Four (pre ++ [v]) := by
  intro y hy
  rcases List.mem_append.1 hy with h' | h'
  · exact h y h'
  · rw [List.mem_singleton] at h'; subst h'; exact hv
theorem Four.none {pre : List Int} (h : Four pre) (j : Nat) (hj : j < 14) : pre.count (j : Int) = 0 := by
  rw [List.count_eq_zero]
  intro hm
  have := h _ hm
  omega
theorem Four.bound {pre : List Int} (h : Four pre) : ∀ x ∈ pre, 0 ≤ x ∧ x ≤ 255 := fun x hx => by
  have := h x hx; omega

set_option maxHeartbeats 800000 in
theorem lboundary_any (a : Option Addr) (c : Nat) (xs : List Int) (w : World) (h : Sees .u8 w a xs) (hr : ∀ x ∈ xs, 0 ≤ x ∧ x ≤ 255) :
    Calls Ychm.prog 9 #[.slice a xs.length c] w fun e w' => e = .returned (.bool true) ∧ Below w.heap.size w w' := by
  obtain ⟨hm, hc⟩ := h
  have HC := hid hc
  have HR := hid hr
  clear hc hr
  by_cases hbig : 1024 < xs.length
  · have hbig' : (1024 : Int) < (xs.length : Int) := by omega
    go_enter Ychm.func9, Ychm.ntmps9
    go_wp2
    go_ret
    exact ⟨rfl, Below.refl _ _⟩
  · have hbig' : (xs.length : Int) ≤ 1024 := by omega
    go_enter Ychm.func9, Ychm.ntmps9
    go_wp2_with (at_make; refine wpList_makeRow _ rfl _ _ 22 rfl 5 (.int .u8 0) 1 1 Ychm.underlying22 (by kernel_rfl) _ _ _ _ xs.length rfl rfl rfl rfl (by omega) (by unfold maxLen; omega) ?_; intro w1 hrow1 hg1; rw [made_int] at hrow1)
    have hb1 : Below w.heap.size w w1 := below_of_grown hg1 (Nat.le_refl _) (by simp)
    clear hg1
    go_loopw [4, 5, 6] (fun p q i wr => ∃ (k : Nat) (pre : List Int), k ≤ xs.length ∧ i = .int .i64 k ∧ pre.length = k ∧ p = .int .i64 (pre.count 14 : Nat) ∧ q = .int .i64 (pre.count 15 : Nat) ∧ Four pre ∧ RowV wr w.heap.size 5 (ints .u8 (pre ++ List.replicate (xs.length - k) 0)) ∧ Below w.heap.size w wr) (fun _ _ i _ => xs.length - (intOf i).toNat)
    case atStart => exact ⟨0, [], Nat.zero_le _, rfl, rfl, rfl, rfl, by simp [Four], hrow1, hb1⟩
    case round =>
      obtain ⟨k, pre, hk, rfl, hpl, rfl, rfl, hf, hrow, hb⟩ := hrel
      have hc14 : pre.count 14 ≤ pre.length := List.count_le_length ..
      have hc15 : pre.count 15 ≤ pre.length := List.count_le_length ..
      rw [hpl] at hc14 hc15
      have HP := hid hpl
      clear hpl
      by_cases hlt : k < xs.length
      · obtain ⟨b, off, rfl, hbs, hcell⟩ := HC.out k hlt
        have hx := HR.out _ (List.getElem_mem hlt)
        have hcell2 : wr.cell? ⟨b, off + k, none⟩ = some (.int .u8 (xs[k]?.getD 0)) := (hb.cell hbs).trans hcell
        have hold := hrow.int (i := k) (by rw [build_length pre _ k HP hk]; exact hlt)
        have hfz := hrow.frozen k
        generalize (pre ++ List.replicate (xs.length - k) 0)[k]?.getD 0 = oldv at hold
        clear hcell
        have fin : ∀ v : Int, RowV (wr.setCell ⟨w.heap.size, k, none⟩ (.int .u8 v)) w.heap.size 5 (ints .u8 ((pre ++ [v]) ++ List.replicate (xs.length - (k + 1)) 0)) := fun v => by
          rw [← build_set pre _ k v HP hlt]; exact hrow.setInt k v
        have FIN := hid fin
        clear fin
        go_wp2
        · go_roundw
          case rel => exact ⟨k + 1, pre ++ [14], by omega, by go_num, by rw [List.length_append, HP.out]; rfl, by simp [List.count_append], by simp [List.count_append], hf.snoc (by omega), FIN.out 14, hb.setCell (Nat.le_refl _) _⟩
          case measure => simp [intOf]; omega
        · go_roundw
          case rel => exact ⟨k + 1, pre ++ [15], by omega, by go_num, by rw [List.length_append, HP.out]; rfl, by simp [List.count_append], by simp [List.count_append], hf.snoc (by omega), FIN.out 15, hb.setCell (Nat.le_refl _) _⟩
          case measure => simp [intOf]; omega
        · go_roundw
          case rel => exact ⟨k + 1, pre ++ [16], by omega, by go_num, by rw [List.length_append, HP.out]; rfl, by simp [List.count_append], by simp [List.count_append], hf.snoc (by omega), FIN.out 16, hb.setCell (Nat.le_refl _) _⟩
          case measure => simp [intOf]; omega
        · go_roundw
          case rel => exact ⟨k + 1, pre ++ [255], by omega, by go_num, by rw [List.length_append, HP.out]; rfl, by simp [List.count_append], by simp [List.count_append], hf.snoc (by omega), FIN.out 255, hb.setCell (Nat.le_refl _) _⟩
          case measure => simp [intOf]; omega
      · have hkl : k = xs.length := by omega
        rw [build_full pre _ _ hlt] at hrow
        have hlen : xs.length = pre.length := by rw [HP.out]; omega
        have HS : Sees .u8 wr (some ⟨w.heap.size, 0, none⟩) pre := Sees.row hrow (by omega)
        have HL : Hid ((cntFrom cnt0 pre).length = 16) := cntFrom_length pre cnt0
        have c14 := cnt_get pre hf.bound 14 (by omega)
        have c15 := cnt_get pre hf.bound 15 (by omega)
        have hcg : ∀ j, j < 14 → (cntFrom cnt0 pre)[j]?.getD 0 = 0 := fun j hj => by
          rw [cnt_get pre hf.bound j (by omega), hf.none j hj]; rfl
        generalize hcs : cntFrom cnt0 pre = cs at HL c14 c15 hcg
        have HCS := hid hcs
        have C14 := hid c14
        have C15 := hid c15
        have HCG := hid hcg
        have HSS := hid HS
        have HLEN := hid hlen
        clear hcs c14 c15 hcg HS hkl hlen
        go_wp2_with (first
          | (go_at_call 18; rw [HLEN.out]; refine (count_any _ _ pre _ HSS hf.bound).mono ?_; rintro e w2 ⟨rfl, hb2⟩; rw [HCS.out])
          | (refine wpList_storeRow rfl 40 _ _ rfl _ (ints .i64 cs) rfl rfl _ (ints .i64 cnt0) (RowV.fresh _ _ (ints .i64 cnt0) _ rfl) (by simp only [List.length_map, HL.out]; kernel_rfl) (by simp [HL.out, cnt0]) (ints_one _ _) ?_; intro w3 hr3 hg3))
        have hb3 : Below w.heap.size w w3 := ((hb.trans (hb2.mono hb.size)).alloc (by have := hb.size; have := hb2.size; omega) _).grown hg3 (by simp; have := hb.size; have := hb2.size; omega) (by intro k h; cases h; have := hb.size; have := hb2.size; omega)
        clear hg3 hb2 hrow hb HSS
        go_loopw [8] (fun i wr => ∃ (j : Nat), j ≤ 14 ∧ i = .int .i64 j ∧ wr = w3) (fun i _ => 14 - (intOf i).toNat)
        case atStart => exact ⟨0, by omega, rfl, rfl⟩
        case round =>
          obtain ⟨j, hj, rfl, rfl⟩ := hrel
          by_cases hlt2 : j < 14
          · have hcell : wr.cell? ⟨w2.heap.size, j, none⟩ = some (.int .i64 (cs[j]?.getD 0)) := hr3.int (by rw [HL.out]; omega)
            rw [HCG.out j hlt2] at hcell
            have h14 : (j : Int) < 14 := by omega
            go_wp2
            go_roundw
            case rel => exact ⟨j + 1, by omega, by go_num, by first | rfl | trivial⟩
            case measure => simp [intOf]; omega
          · have hc1 : wr.cell? ⟨w2.heap.size, 14, none⟩ = some (.int .i64 (cs[14]?.getD 0)) := hr3.int (by rw [HL.out]; omega)
            have hc2 : wr.cell? ⟨w2.heap.size, 15, none⟩ = some (.int .i64 (cs[15]?.getD 0)) := hr3.int (by rw [HL.out]; omega)
            rw [C14.out] at hc1
            rw [C15.out] at hc2
            go_wp2
            go_ret
            exact ⟨rfl, hb3⟩
end Go.Proofs.Ymbrch
