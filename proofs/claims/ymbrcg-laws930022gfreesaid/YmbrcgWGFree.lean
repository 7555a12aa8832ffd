/- huff.LawS930022GFree, walked. -/
import Derived.Test.YmbrcgWGSum
namespace Go.Proofs.Ymbrcg
open Go.RowKit
set_option linter.unusedVariables false
set_option linter.unusedSimpArgs false

theorem fcv_set (cs : List Int) (k : Nat) (v : Int) : ∀ j, j ≤ k → fcv (cs.set k v) j = fcv cs j
  | 0, _ => rfl
  | 1, _ => rfl
  | j + 2, h => by rw [fcv, fcv, fcv_set cs k v (j + 1) (by omega), List.getElem?_set_ne (by omega)]
theorem pow2_bd (k : Nat) (h : k ≤ 16) : (2 : Int) ^ k ≤ 65536 := by
  have : (2 : Nat) ^ k ≤ 2 ^ 16 := Nat.pow_le_pow_right (by omega) h
  have h2 : ((2 ^ k : Nat) : Int) ≤ ((2 ^ 16 : Nat) : Int) := Int.ofNat_le.2 this
  rw [Int.natCast_pow] at h2
  exact Int.le_trans h2 (by decide)
theorem pow2_pos (k : Nat) : (0 : Int) < 2 ^ k := Int.pow_pos (by decide)
/-- What the first loop holds ahead of round k: A nodes are free at depth k - 1. -/
def GInv (k : Nat) (A : Int) (cs fs : List Int) : Prop :=
  cs.length = 16 ∧ fs.length = 16 ∧ 0 ≤ A ∧ 2 * A ≤ 2 ^ k ∧ fcv cs k = 2 ^ k - 2 * A ∧
  ∀ j, 1 ≤ j → j < k → fs[j]?.getD 0 = 2 ^ j - fcv cs j ∧ 0 ≤ fs[j]?.getD 0 ∧ 0 ≤ cs[j]?.getD 0 ∧ cs[j]?.getD 0 ≤ fs[j]?.getD 0
theorem GInv.step {k : Nat} {A : Int} {cs fs : List Int} (h : GInv k A cs fs) (hk1 : 1 ≤ k) (hk : k ≤ 15) (c : Int) (hc0 : 0 ≤ c) (hc1 : c ≤ A * 2) : GInv (k + 1) (A * 2 - c) (cs.set k c) (fs.set k (A * 2)) := by
  obtain ⟨h1, h2, h3, h4, h5, h6⟩ := h
  have hp := pow2_bd k (by omega)
  have hp0 := pow2_pos k
  refine ⟨by simpa using h1, by simpa using h2, by omega, by rw [Int.pow_succ]; omega, ?_, ?_⟩
  · rw [fcv_step _ k hk1, fcv_set cs k c k (Nat.le_refl _), List.getElem?_set_self (by omega), h5, Int.pow_succ]
    simp only [Option.getD_some]
    omega
  · intro j hj1 hj2
    by_cases e : k = j
    · subst e
      rw [List.getElem?_set_self (by omega), List.getElem?_set_self (by omega), fcv_set cs k c k (Nat.le_refl _), h5]
      simp only [Option.getD_some]
      omega
    · rw [List.getElem?_set_ne e, List.getElem?_set_ne e, fcv_set cs k c j (by omega)]
      exact h6 j hj1 (by omega)

set_option maxHeartbeats 1000000 in
theorem gfree_any (rs : List Int) (w : World) (hl : rs.length = 16) (hr : ∀ x ∈ rs, 0 ≤ x ∧ x ≤ 65535) :
    Calls Ycgm.prog 8 #[.agg (ints .u16 rs).toArray] w fun e w' => e = .returned (.bool true) ∧ Below w.heap.size w w' := by
  have HL := hid hl
  have HR : Hid (∀ j, j < 16 → 0 ≤ rs[j]?.getD 0 ∧ rs[j]?.getD 0 ≤ 65535) := by
    refine hid ?_
    intro j hj
    rw [getD_get _ _ (by omega)]
    exact hr _ (List.getElem_mem _)
  clear hl hr
  have h0 := RowV.fresh w 53 (ints .u16 rs) _ rfl
  have hr0 := HR.out 0 (by omega)
  have c00 : rs[0]? = some (rs[0]?.getD 0) := by rw [List.getElem?_eq_getElem (by rw [HL.out]; omega)]; rfl
  generalize rs[0]?.getD 0 = R0 at c00 hr0
  have c01 : rs.head? = some R0 := by rw [List.head?_eq_getElem?]; exact c00
  go_enter Ycgm.func8, Ycgm.ntmps8
  go_wp2
  go_loopw [5, 6] (fun v i wr => ∃ (k : Nat) (A : Int) (cs fs : List Int), 1 ≤ k ∧ k ≤ 16 ∧ i = .int .i64 k ∧ v = .int .i64 A ∧ 0 ≤ A ∧ A ≤ 32768 ∧ Hid (GInv k A cs fs) ∧ RowV wr w.heap.size 53 (ints .u16 rs) ∧ RowV wr (w.heap.size + 1) 27 (ints .i64 cs) ∧ RowV wr (w.heap.size + 1 + 1) 27 (ints .i64 fs) ∧ Below w.heap.size w wr) (fun _ i _ => 16 - (intOf i).toNat)
  case atStart =>
    refine ⟨1, 1, R0 :: List.replicate 15 0, List.replicate 16 0, by omega, by omega, rfl, rfl, by omega, by omega, hid ?_, ?_, ?_, ?_, ?_⟩
    · exact ⟨by simp, by simp, by omega, by decide, by simp [fcv], by intro j h1 h2; omega⟩
    · exact (h0.alloc _).alloc _
    · exact (RowV.fresh _ _ (ints .i64 (R0 :: List.replicate 15 0)) _ (by simp)).alloc _
    · exact RowV.fresh _ _ (ints .i64 (List.replicate 16 0)) _ (by simp)
    · exact (((Below.refl _ _).alloc (Nat.le_refl _) _).alloc (by simp) _).alloc (by simp; omega) _
  case round =>
    obtain ⟨k, A, cs, fs, hk1, hk16, rfl, rfl, hA0, hA1, HG, hrr, hrc, hrf, hb⟩ := hrel
    by_cases hlt : k < 16
    · have hlt' : (k : Int) ≤ 15 := by omega
      have cr : wr.cell? ⟨w.heap.size, k, none⟩ = some (.int .u16 (rs[k]?.getD 0)) := hrr.int (by rw [HL.out]; exact hlt)
      have hrk := HR.out k hlt
      generalize rs[k]?.getD 0 = r at cr hrk
      have cc := hrc.int (i := k) (by rw [HG.out.1]; exact hlt)
      have fc := hrc.frozen k
      generalize cs[k]?.getD 0 = oc at cc
      have cf := hrf.int (i := k) (by rw [HG.out.2.1]; exact hlt)
      have ff := hrf.frozen k
      generalize fs[k]?.getD 0 = of at cf
      have hm0 := Int.emod_nonneg r (show A * 2 + 1 ≠ 0 by omega)
      have hm1 := Int.emod_lt_of_pos r (show 0 < A * 2 + 1 by omega)
      have HG2 := hid (HG.out.step hk1 (by omega) (r % (A * 2 + 1)) hm0 (by omega))
      have hA2 : A * 2 - r % (A * 2 + 1) ≤ 32768 := by
        have h4 := HG2.out.2.2.2.1
        have := pow2_bd (k + 1) (by omega)
        omega
      go_wp2
      go_roundw
      case rel =>
        refine ⟨k + 1, A * 2 - r % (A * 2 + 1), _, _, by omega, by omega, by go_num, rfl, by omega, hA2, HG2, ?_, ?_, ?_, ?_⟩
        · exact (hrr.other _ _ (by simp; omega)).other _ _ (by simp)
        · exact (hrc.other _ _ (by simp)).setInt k _
        · exact (hrf.setInt k _).other _ _ (by simp)
        · exact (hb.setCell (by simp; omega) _).setCell (by simp) _
      case measure => simp [intOf]; omega
    · have hlt' : ¬ (k : Int) ≤ 15 := by omega
      have hk : k = 16 := by omega
      have HCL := hid HG.out.1
      have HFSL := hid HG.out.2.1
      have HFL := hid (firsts_length cs)
      subst hk
      have hs := hb.size
      have hlt3 := hrf.lt
      go_wp2_with (first
        | refine wpList_loadRow rfl 27 (.tmp 3) rfl _ rfl _ (ints .i64 cs) _ hrc Ycgm.underlying27 rfl (by simp only [List.length_map, HCL.out]; kernel_rfl) ?_
        | (go_at_call 20; refine (first_any cs _ HCL).mono ?_; rintro e w1 ⟨rfl, hb1⟩; have hs1 := hb1.size)
        | (refine wpList_storeRow rfl 29 (.tmp 7) _ rfl _ (ints .u32 (firsts cs)) rfl rfl _ (ints .u32 (List.replicate 16 0)) (RowV.fresh _ _ (ints .u32 (List.replicate 16 0)) _ rfl) (by simp only [List.length_map, HFL.out]; kernel_rfl) (by simp [HFL.out]) (ints_one _ _) ?_; intro w2 hr2 hg2; have d0 : w2.cell? ⟨w1.heap.size, 0, none⟩ = some (.int .u32 0) := (by have := hr2.int (i := 0) (by rw [HFL.out]; omega); rw [firsts_get cs 0 (by omega)] at this; exact this)))
      have hc2 : RowV w2 (w.heap.size + 1) 27 (ints .i64 cs) := ((hrc.below hb1 (by omega)).alloc _).grown hg2 (by simp; omega)
      have hf2 : RowV w2 (w.heap.size + 1 + 1) 27 (ints .i64 fs) := ((hrf.below hb1 (by omega)).alloc _).grown hg2 (by simp; omega)
      have hb2 : Below w.heap.size w w2 := ((hb.trans (hb1.mono hs)).alloc (by omega) _).grown hg2 (by simp; omega) (by intro j h; cases h; omega)
      clear hg2 hb1 hrr hrc hrf hb
      go_loopw [8] (fun i wq => ∃ (l : Nat), 1 ≤ l ∧ l ≤ 16 ∧ i = .int .i64 l ∧ RowV wq (w.heap.size + 1) 27 (ints .i64 cs) ∧ RowV wq (w.heap.size + 1 + 1) 27 (ints .i64 fs) ∧ RowV wq w1.heap.size 29 (ints .u32 (firsts cs)) ∧ Below w.heap.size w wq) (fun i _ => 16 - (intOf i).toNat)
      case atStart => exact ⟨1, by omega, by omega, rfl, hc2, hf2, hr2, hb2⟩
      case round =>
        obtain ⟨l, hl1, hl, rfl, hcq, hfq, hrq, hbq⟩ := hrel
        by_cases hlt2 : l < 16
        · have hlt2' : (l : Int) ≤ 15 := by omega
          have hlt3' : (l : Int) < 16 := by omega
          have hl0' : (0 : Int) ≤ (l : Int) := by omega
          have c1 : wr.cell? ⟨w1.heap.size, l, none⟩ = some (.int .u32 ((firsts cs)[l]?.getD 0)) := hrq.int (by rw [HFL.out]; exact hlt2)
          rw [firsts_get cs l hlt2] at c1
          have c2 : wr.cell? ⟨w.heap.size + 1, l, none⟩ = some (.int .i64 (cs[l]?.getD 0)) := hcq.int (by rw [HCL.out]; exact hlt2)
          have c3 : wr.cell? ⟨w.heap.size + 1 + 1, l, none⟩ = some (.int .i64 (fs[l]?.getD 0)) := hfq.int (by rw [HFSL.out]; exact hlt2)
          have hI := HG.out.2.2.2.2.2 l hl1 (by omega)
          have hfb := fcv_bd cs l
          have hpb := pow2_bd l (by omega)
          have hpp := pow2_pos l
          generalize fcv cs l = F at c1 hI hfb
          generalize cs[l]?.getD 0 = C at c2 hI
          generalize fs[l]?.getD 0 = D at c3 hI
          obtain ⟨e1, e2, e3, e4⟩ := hI
          obtain rfl : F = 2 ^ l - D := by omega
          clear e1
          go_wp2
          go_quiet (fail)
          go_wp2
          go_quiet (fail)
          go_wp2
          go_roundw
          case rel => exact ⟨l + 1, by omega, by omega, by go_num, hcq.drewN _, hfq.drewN _, hrq.drewN _, below_drewN' hbq _⟩
          case measure => simp [intOf]; omega
        · have hlt2' : ¬ (l : Int) ≤ 15 := by omega
          go_wp2
          go_ret
          exact ⟨rfl, hbq⟩
end Go.Proofs.Ymbrcg
