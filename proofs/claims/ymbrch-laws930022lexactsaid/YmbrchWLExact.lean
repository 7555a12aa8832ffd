/- huff.LawS930022LExact, walked. -/
import Derived.Test.YmbrchOcc
namespace Go.Proofs.Ymbrch
open Go.RowKit
set_option linter.unusedVariables false
set_option linter.unusedSimpArgs false

set_option maxHeartbeats 400000 in
theorem lexact_any (a : Option Addr) (c : Nat) (xs : List Int) (w : World) (h : Sees .u8 w a xs) (hr : ∀ x ∈ xs, 0 ≤ x ∧ x ≤ 255) :
    Calls Ychm.prog 8 #[.slice a xs.length c] w fun e w' => e = .returned (.bool true) ∧ Below w.heap.size w w' := by
  have hm := h.1
  have HR := hid hr
  have HS := hid h
  have hl := cntFrom_length xs cnt0
  have HL : Hid ((cntFrom cnt0 xs).length = 16) := hl
  clear hr h hl
  generalize hcs : cntFrom cnt0 xs = cs at HL
  have HC := hid hcs
  clear hcs
  go_enter Ychm.func8, Ychm.ntmps8
  go_wp2_with (first
    | (go_at_call 18; refine (count_any a c xs _ HS HR).mono ?_; rintro e w1 ⟨rfl, hb1⟩; rw [HC.out])
    | (refine wpList_storeRow rfl 40 _ _ rfl _ (ints .i64 cs) rfl rfl _ (ints .i64 cnt0) (RowV.fresh _ _ (ints .i64 cnt0) _ rfl) (by simp only [List.length_map, HL.out]; kernel_rfl) (by simp [HL.out, cnt0]) (ints_one _ _) ?_; intro w2 hr2 hg2))
  have hb2 : Below w.heap.size w w2 := (hb1.alloc hb1.size _).grown hg2 (by simp; have := hb1.size; omega) (by intro k h; cases h; exact hb1.size)
  have hsz : w.heap.size ≤ w1.heap.size := hb1.size
  clear hg2 hb1
  go_loopw [4] (fun i wr => ∃ (k : Nat), k ≤ 16 ∧ i = .int .i64 k ∧ RowV wr w1.heap.size 40 (ints .i64 cs) ∧ Below w.heap.size w wr) (fun i _ => 16 - (intOf i).toNat)
  case atStart => exact ⟨0, by omega, rfl, hr2, hb2⟩
  case round =>
    obtain ⟨k, hk, rfl, hrow, hb⟩ := hrel
    by_cases hlt : k < 16
    · have hcell : wr.cell? ⟨w1.heap.size, k, none⟩ = some (.int .i64 (cs[k]?.getD 0)) := hrow.int (by rw [HL.out]; exact hlt)
      have hv : cs[k]?.getD 0 = (xs.count (k : Int) : Nat) := by rw [← HC.out]; exact cnt_get xs HR k hlt
      rw [hv] at hcell
      have hlt' : (k : Int) < 16 := by omega
      have hk0 : (0 : Int) ≤ (k : Int) := by omega
      have HSr := hid (HS.out.below hb (Nat.le_refl _))
      clear hv
      go_wp2
      go_quiet ((go_at_call 19; exact Calls.quiet_of_same (occurs_any a c xs _ _ (HSr.out.drewN _) HR)))
      go_wp2
      go_roundw
      case rel => exact ⟨k + 1, by omega, by go_num, hrow, below_drewN' hb _⟩
      case measure => simp [intOf]; omega
    · go_wp2
      go_ret
      exact ⟨rfl, hb⟩
end Go.Proofs.Ymbrch
