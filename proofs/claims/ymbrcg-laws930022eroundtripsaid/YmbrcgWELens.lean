/- huff.zzs930022elens, walked. -/
import Derived.Test.YmbrcgShape
namespace Go.Proofs.Ymbrcg
open Go.RowKit
set_option linter.unusedVariables false
set_option linter.unusedSimpArgs false

set_option maxHeartbeats 800000 in
theorem elens_any (a : Option Addr) (c : Nat) (xs : List Int) (w : World) (h : Sees .u8 w a xs) (hr : ∀ x ∈ xs, 0 ≤ x ∧ x ≤ 255) (h4 : xs.length ≤ 100000) :
    Calls Ycgm.prog 15 #[.slice a xs.length c] w fun e w' => ∃ g ys, e = .returned (.slice (some ⟨g, 0, none⟩) xs.length xs.length) ∧ w.heap.size ≤ g ∧ ys.length = xs.length ∧ Lens ys ∧ fits ys = true ∧ RowV w' g 5 (ints .u8 ys) ∧ Below w.heap.size w w' := by
  obtain ⟨hm, hc⟩ := h
  have HC := hid hc
  have HR := hid hr
  clear hc hr
  go_enter Ycgm.func15, Ycgm.ntmps15
  go_wp2_with (at_make; refine wpList_makeRow _ rfl _ _ 22 rfl 5 (.int .u8 0) 1 1 Ycgm.underlying22 (by kernel_rfl) _ _ _ _ xs.length rfl rfl rfl rfl (by omega) (by unfold maxLen; omega) ?_; intro w1 hrow1 hg1; rw [made_int] at hrow1)
  have hb1 : Below w.heap.size w w1 := below_of_grown hg1 (Nat.le_refl _) (by simp)
  clear hg1
  go_loopw [4, 5] (fun l i wr => ∃ (k : Nat) (L : Int) (pre : List Int), k ≤ xs.length ∧ i = .int .i64 k ∧ l = .int .i64 L ∧ 0 ≤ L ∧ L ≤ 32768 ∧ Hid (pre.length = k) ∧ Hid (Shp pre L) ∧ RowV wr w.heap.size 5 (ints .u8 (pre ++ List.replicate (xs.length - k) 0)) ∧ Below w.heap.size w wr) (fun _ i _ => xs.length - (intOf i).toNat)
  case atStart => exact ⟨0, 32768, [], Nat.zero_le _, rfl, rfl, by omega, by omega, hid rfl, hid Shp.nil, hrow1, hb1⟩
  case round =>
    obtain ⟨k, L, pre, hk, rfl, rfl, hL0, hL1, HP, HSH, hrow, hb⟩ := hrel
    by_cases hlt : k < xs.length
    · obtain ⟨b, off, rfl, hbs, hcell⟩ := HC.out k hlt
      have hx := HR.out _ (List.getElem_mem hlt)
      have hcell2 : wr.cell? ⟨b, off + k, none⟩ = some (.int .u8 (xs[k]?.getD 0)) := (hb.cell hbs).trans hcell
      rw [getD_get _ _ hlt] at hcell2
      generalize hX : xs[k] = X at hcell2 hx
      clear hcell hX
      have hold := hrow.int (i := k) (by rw [build_length pre _ k HP hk]; exact hlt)
      have hfz := hrow.frozen k
      generalize (pre ++ List.replicate (xs.length - k) 0)[k]?.getD 0 = oldv at hold
      have HSK : Hid (RowV wr w.heap.size 5 (ints .u8 ((pre ++ [0]) ++ List.replicate (xs.length - (k + 1)) 0))) := hid (by rw [← build_skip' _ _ _ hlt]; exact hrow)
      have HST : Hid (∀ v : Int, RowV (wr.setCell ⟨w.heap.size, k, none⟩ (.int .u8 v)) w.heap.size 5 (ints .u8 ((pre ++ [v]) ++ List.replicate (xs.length - (k + 1)) 0))) := hid (fun v => by
        rw [← build_set pre _ k v HP hlt]; exact hrow.setInt k v)
      have HP2 : Hid (∀ v : Int, (pre ++ [v]).length = k + 1) := hid (fun v => by rw [List.length_append, HP.out]; rfl)
      by_cases hz : X % 16 = 0
      · have hz' : (X % 16 == 0) = true := by simpa using hz
        clear hz
        go_wp2
        go_roundw
        case rel => exact ⟨k + 1, L, pre ++ [0], by omega, by go_num, rfl, hL0, hL1, hid (HP2.out 0), hid HSH.out.zero, HSK.out, hb⟩
        case measure => simp [intOf]; omega
      · have hz' : (X % 16 == 0) = false := by simpa using hz
        obtain ⟨m, hm⟩ : ∃ m : Nat, X % 16 = (m : Int) := ⟨(X % 16).toNat, by omega⟩
        have hm1 : 1 ≤ m := by omega
        have hm15 : m ≤ 15 := by omega
        have hm0 : ((m : Int) == 0) = false := by simp; omega
        rw [hm] at hz'
        have hw : wt (m : Int) = 32768 / 2 ^ m := by rw [wt_pos (m : Int) (by omega) (by omega), Int.toNat_natCast]
        have hwb := wt_bd (m : Int)
        have hwg := wt_ge1 (m : Int) (by omega) (by omega)
        have HW := hid hw
        rw [hw] at hwb hwg
        clear hw hz
        by_cases hfit : (32768 : Int) / 2 ^ m ≤ L
        · go_wp2
          go_roundw
          case rel =>
            refine ⟨k + 1, L - 32768 / 2 ^ m, pre ++ [(m : Int)], by omega, by go_num, by go_num, by omega, by omega, hid (HP2.out m), hid ?_, HST.out m, hb.setCell (Nat.le_refl _) _⟩
            have := HSH.out.add (m : Int) (by omega) (by omega)
            rw [HW.out] at this
            exact this
          case measure => simp [intOf]; omega
        · go_wp2
          go_roundw
          case rel => exact ⟨k + 1, L, pre ++ [0], by omega, by go_num, rfl, hL0, hL1, hid (HP2.out 0), hid HSH.out.zero, HSK.out, hb⟩
          case measure => simp [intOf]; omega
    · rw [build_full pre _ _ hlt] at hrow
      have hpl : pre.length = xs.length := by rw [HP.out]; omega
      have HPL := hid hpl
      clear hpl
      go_wp2
      go_ret
      exact ⟨_, pre, rfl, Nat.le_refl _, HPL.out, HSH.out.1, HSH.out.fits hL0, hrow, hb⟩
end Go.Proofs.Ymbrcg
