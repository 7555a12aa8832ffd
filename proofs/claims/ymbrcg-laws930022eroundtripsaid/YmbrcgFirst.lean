/- huff.FirstCodes, walked. -/
import Derived.Test.YmbrcgRows
import Derived.Test.YmbrcgBase
import Derived.RegionTactic
namespace Go.Proofs.Ymbrcg
open Go.RowKit
set_option linter.unusedVariables false
set_option linter.unusedSimpArgs false

/-- Entry l of FirstCodes. -/
def fcv (cs : List Int) : Nat → Int
  | 0 => 0
  | 1 => 0
  | l + 2 => (fcv cs (l + 1) + cs[l + 1]?.getD 0) * 2 % 4294967296
def firstsTo (cs : List Int) (l : Nat) : List Int := (List.range 16).map fun j => if j ≤ l then fcv cs j else 0
def firsts (cs : List Int) : List Int := (List.range 16).map (fcv cs)
theorem fcv_bd (cs : List Int) : ∀ l, 0 ≤ fcv cs l ∧ fcv cs l < 4294967296
  | 0 => by simp [fcv]
  | 1 => by simp [fcv]
  | l + 2 => by rw [fcv]; omega
theorem firstsTo_length (cs : List Int) (l : Nat) : (firstsTo cs l).length = 16 := by simp [firstsTo]
theorem firsts_length (cs : List Int) : (firsts cs).length = 16 := by simp [firsts]
theorem firsts_get (cs : List Int) (l : Nat) (h : l < 16) : (firsts cs)[l]?.getD 0 = fcv cs l := by simp [firsts, h]
theorem firstsTo_get (cs : List Int) (l j : Nat) (hl : j < 16) (hj : j ≤ l) : (firstsTo cs l)[j]?.getD 0 = fcv cs j := by simp [firstsTo, hl, hj]
theorem firstsTo_set (cs : List Int) (l : Nat) (h : l < 15) : (firstsTo cs l).set (l + 1) (fcv cs (l + 1)) = firstsTo cs (l + 1) := by
  apply List.ext_getElem
  · simp [firstsTo]
  · intro i h1 h2
    simp [firstsTo, List.getElem_set]
    by_cases e : l + 1 = i
    · subst e; simp
    · by_cases e2 : i ≤ l
      · rw [if_neg e, if_pos e2, if_pos (by omega)]
      · rw [if_neg e, if_neg e2, if_neg (by omega)]
theorem firstsTo_full (cs : List Int) : firstsTo cs 15 = firsts cs := by
  apply List.ext_getElem
  · simp [firstsTo, firsts]
  · intro i h1 h2
    simp [firstsTo] at h1
    simp [firstsTo, firsts]
    omega
theorem firstsTo_one (cs : List Int) : firstsTo cs 1 = List.replicate 16 0 := by
  apply List.ext_getElem
  · simp [firstsTo]
  · intro i h1 h2
    simp [firstsTo] at h1
    simp only [firstsTo, List.getElem_map, List.getElem_range, List.getElem_replicate]
    match i with
    | 0 => rfl
    | 1 => rfl
    | i + 2 => rw [if_neg (by omega)]
theorem fcv_step (cs : List Int) (l : Nat) (h : 1 ≤ l) : fcv cs (l + 1) = (fcv cs l + cs[l]?.getD 0) * 2 % 4294967296 := by
  match l, h with
  | l + 1, _ => rw [fcv]

set_option maxHeartbeats 400000 in
theorem first_any (cs : List Int) (w : World) (hl : cs.length = 16) :
    Calls Ycgm.prog 20 #[.agg (ints .i64 cs).toArray] w fun e w' => e = .returned (.agg (ints .u32 (firsts cs)).toArray) ∧ Below w.heap.size w w' := by
  have HL := hid hl
  clear hl
  go_enter Ycgm.func20, Ycgm.ntmps20
  go_wp2
  go_loopw [4] (fun i wr => ∃ (k : Nat), 1 ≤ k ∧ k ≤ 15 ∧ i = .int .i64 k ∧ RowV wr (w.heap.size + 1 + 1) 29 (ints .u32 (firstsTo cs k)) ∧ RowV wr (w.heap.size + 1) 29 (ints .u32 (List.replicate 16 0)) ∧ RowV wr w.heap.size 27 (ints .i64 cs) ∧ Below w.heap.size w wr) (fun i _ => 15 - (intOf i).toNat)
  case atStart =>
    refine ⟨1, by omega, by omega, rfl, ?_, ?_, ?_, ?_⟩
    · rw [firstsTo_one]; exact RowV.fresh _ _ (ints .u32 (List.replicate 16 0)) _ (by simp)
    · exact (RowV.fresh _ _ (ints .u32 (List.replicate 16 0)) _ (by simp)).alloc _
    · exact ((RowV.fresh _ _ (ints .i64 cs) _ rfl).alloc _).alloc _
    · exact (((Below.refl _ _).alloc (Nat.le_refl _) _).alloc (by simp) _).alloc (by simp; omega) _
  case round =>
    obtain ⟨k, hk1, hk15, rfl, hf, h0, hcn, hb⟩ := hrel
    by_cases hlt : k < 15
    · have hlt' : (k : Int) < 15 := by omega
      have hk1' : (1 : Int) ≤ (k : Int) := by omega
      have c1 : wr.cell? ⟨w.heap.size + 1 + 1, k, none⟩ = some (.int .u32 (fcv cs k)) := by
        have := hf.int (i := k) (by rw [firstsTo_length]; omega)
        rw [firstsTo_get cs k k (by omega) (Nat.le_refl _)] at this; exact this
      have c2 : wr.cell? ⟨w.heap.size, k, none⟩ = some (.int .i64 (cs[k]?.getD 0)) := hcn.int (by rw [HL.out]; omega)
      have c3 := hf.int (i := k + 1) (by rw [firstsTo_length]; omega)
      generalize (firstsTo cs k)[k + 1]?.getD 0 = oldv at c3
      have f3 := hf.frozen (k + 1)
      have hbd := fcv_bd cs k
      have HST := hid (fcv_step cs k hk1)
      generalize hA : fcv cs k = A at c1 hbd HST
      generalize hB : cs[k]?.getD 0 = B at c2 HST
      clear hA hB
      go_wp2
      go_region
      all_goals go_wp2
      go_roundw
      case rel =>
        refine ⟨k + 1, by omega, by omega, by go_num, ?_, (h0.other _ _ (by simp)).drew, (hcn.other _ _ (by simp; omega)).drew, (hb.setCell (by simp; omega) _).drew⟩
        rw [← firstsTo_set cs k hlt, HST.out, show (A + B) % 4294967296 * 2 % 4294967296 = (A + B) * 2 % 4294967296 from by omega]
        exact (hf.setInt (k + 1) _).drew
      case measure => simp [intOf]; omega
    · have hlt' : ¬ (k : Int) < 15 := by omega
      have hk : k = 15 := by omega
      subst hk
      rw [firstsTo_full] at hf
      have HF := hid (firsts_length cs)
      go_wp2_with (first
        | refine wpList_loadRow rfl 29 _ rfl _ rfl _ _ _ hf Ycgm.underlying29 rfl (by simp only [List.length_map, HF.out]; kernel_rfl) ?_
        | (refine wpList_storeRow rfl 29 _ _ rfl _ _ rfl rfl _ _ h0 (by simp only [List.length_map, HF.out]; kernel_rfl) (by simp [HF.out]) (ints_one _ _) ?_; intro w1 hr1 hg1))
      refine ret_row (by exact Ycgm.results20) _ _ _ _ rfl hr1 Ycgm.underlying29 rfl (by simp only [List.length_map, HF.out]; kernel_rfl) rfl ⟨rfl, hb.grown hg1 hb.size (by intro k h; cases h; omega)⟩
end Go.Proofs.Ymbrcg
