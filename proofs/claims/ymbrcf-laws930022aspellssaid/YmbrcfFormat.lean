/- huff.FormatCode, walked. -/
import Derived.Test.YmbrcfRows
import Derived.Test.YmbrcfAt
import Derived.Laws.BytesArg
namespace Go.Proofs.Ymbrcf
open Go.RowKit
set_option linter.unusedVariables false
set_option linter.unusedSimpArgs false

/-- The text of a code. -/
def fmtV (B : Int) (n : Nat) : List Int := (List.range n).map fun i => 48 + B / 2 ^ (n - 1 - i) % 2
theorem fmtV_length (B : Int) (n : Nat) : (fmtV B n).length = n := by simp [fmtV]
def fmtTo (B : Int) (n k : Nat) : List Int := ((List.range k).map fun i => 48 + B / 2 ^ (n - 1 - i) % 2)
theorem fmtTo_snoc (B : Int) (n k : Nat) : fmtTo B n k ++ [48 + B / 2 ^ (n - 1 - k) % 2] = fmtTo B n (k + 1) := by
  simp [fmtTo, List.range_succ]
theorem fmtTo_length (B : Int) (n k : Nat) : (fmtTo B n k).length = k := by simp [fmtTo]

set_option maxHeartbeats 400000 in
theorem format_no (B : Int) (n : Nat) (w : World) (h : 15 < n ∨ B / 2 ^ n ≠ 0) (hn : n ≤ 255) (hB : 0 ≤ B ∧ B < 4294967296) :
    Calls Ycfm.prog 15 #[.agg #[.int .u32 B, .int .u8 n]] w fun e w' => e = .returned (.tuple #[.string ⟨#[]⟩, .bool false]) ∧ Below w.heap.size w w' := by
  by_cases h15 : 15 < n
  · have h15' : (15 : Int) < (n : Int) := by omega
    clear h
    go_enter Ycfm.func15, Ycfm.ntmps15
    go_wp2
    go_ret2
    exact ⟨rfl, (Below.refl _ _).alloc (Nat.le_refl _) _⟩
  · have h15' : ¬ (15 : Int) < (n : Int) := by omega
    have h2 : (B / 2 ^ n == 0) = false := by simpa using h.resolve_left h15
    clear h
    go_enter Ycfm.func15, Ycfm.ntmps15
    go_wp2
    go_ret2
    exact ⟨rfl, (Below.refl _ _).alloc (Nat.le_refl _) _⟩

set_option maxHeartbeats 800000 in
theorem format_yes (B : Int) (n : Nat) (w : World) (hn : n ≤ 15) (hB : 0 ≤ B ∧ B < 4294967296) (hz : B / 2 ^ n = 0) :
    Calls Ycfm.prog 15 #[.agg #[.int .u32 B, .int .u8 n]] w fun e w' => ∃ s, e = .returned (.tuple #[.string s, .bool true]) ∧ s = strOfNums (fmtV B n) ∧ Below w.heap.size w w' := by
  have hn' : ¬ (15 : Int) < (n : Int) := by omega
  have h2 : (B / 2 ^ n == 0) = true := by simpa using hz
  clear hz
  go_enter Ycfm.func15, Ycfm.ntmps15
  go_wp2_with (at_make; refine wpList_makeRow _ rfl _ _ 33 rfl 5 (.int .u8 0) 1 1 Ycfm.underlying33 (by kernel_rfl) _ _ _ _ n rfl rfl rfl rfl (by omega) (by unfold maxLen; omega) ?_; intro w1 hrow1 hg1; rw [made_int] at hrow1)
  have hbx : RowV w1 w.heap.size 26 [.int .u32 B, .int .u8 n] := (RowV.fresh w _ [.int .u32 B, .int .u8 n] _ rfl).grown hg1 (by simp)
  have hb1 : Below w.heap.size w w1 := ((Below.refl _ _).alloc (Nat.le_refl _) _).grown hg1 (by simp) (by simp)
  simp only [World.size_alloc] at hrow1
  clear hg1
  go_loopw [23] (fun i wr => ∃ (k : Nat), k ≤ n ∧ i = .int .i64 k ∧ RowV wr (w.heap.size + 1) 5 (ints .u8 (fmtTo B n k ++ List.replicate (n - k) 0)) ∧ RowV wr w.heap.size 26 [.int .u32 B, .int .u8 n] ∧ Below w.heap.size w wr) (fun i _ => n - (intOf i).toNat)
  case atStart => exact ⟨0, Nat.zero_le _, rfl, hrow1, hbx, hb1⟩
  case round =>
    obtain ⟨k, hk, rfl, hrow, hbx, hb⟩ := hrel
    have c0 : wr.cell? ⟨w.heap.size, 0, none⟩ = some (.int .u32 B) := hbx.cell rfl
    have c1 : wr.cell? ⟨w.heap.size, 1, none⟩ = some (.int .u8 n) := hbx.cell rfl
    by_cases hlt : k < n
    · have hlt' : (k : Int) < (n : Int) := by omega
      have hold := hrow.int (i := k) (by rw [build_length _ _ k (fmtTo_length B n k) hk]; exact hlt)
      have hfz := hrow.frozen k
      generalize (fmtTo B n k ++ List.replicate (n - k) 0)[k]?.getD 0 = oldv at hold
      have hbd := div_pow_bd B (n - 1 - k) hB.1
      have hA := and1_u32 (B / 2 ^ (n - 1 - k)) hbd.1 (by omega)
      have FIN : Hid (RowV (wr.setCell ⟨w.heap.size + 1, k, none⟩ (.int .u8 (48 + B / 2 ^ (n - 1 - k) % 2))) (w.heap.size + 1) 5 (ints .u8 (fmtTo B n (k + 1) ++ List.replicate (n - (k + 1)) 0))) := by
        refine hid ?_
        rw [← fmtTo_snoc, ← build_set _ _ k _ (fmtTo_length B n k) hlt]; exact hrow.setInt k _
      go_wp2
      go_roundw
      case rel => exact ⟨k + 1, by omega, by go_num, FIN.out, hbx.other _ _ (by simp), hb.setCell (by simp) _⟩
      case measure => simp [intOf]; omega
    · have hlt' : ¬ (k : Int) < (n : Int) := by omega
      rw [build_full _ _ _ hlt] at hrow
      have hkn : k = n := by omega
      subst hkn
      have hcv := run_convert_bytes_arg (P := Ycfm.prog) wr 33 5 Ycfm.underlying33 Ycfm.underlying5 (w.heap.size + 1) 0 k k (fmtTo B k k) (fmtTo_length B k k) (fun i hi => by rw [Nat.zero_add]; exact hrow.int (by rw [fmtTo_length]; exact hi)) 9 Ycfm.underlying9
      go_wp2
      go_ret2
      exact ⟨_, rfl, rfl, hb⟩
end Go.Proofs.Ymbrcf
