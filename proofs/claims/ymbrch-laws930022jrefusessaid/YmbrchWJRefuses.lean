/- huff.LawS930022JRefuses, walked. -/
import Derived.Test.YmbrchAppend
import Derived.Laws.CopyOwn
namespace Go.Proofs.Ymbrch
open Go.RowKit
set_option linter.unusedVariables false
set_option linter.unusedSimpArgs false

theorem splice_all (zs xs : List Value) (h : zs.length = xs.length) : splice zs 0 xs = xs := by
  simp [splice, h]
theorem ints_mem_one (k : IntKind) (xs : List Int) : ∀ v ∈ ints k xs, v.oneCell' = true := by
  intro v hv
  simp at hv
  obtain ⟨_, _, rfl⟩ := hv
  rfl
theorem src_cells {w : World} {a : Option Addr} {k : IntKind} {xs : List Int} (h : Sees k w a xs) (h0 : 0 < (ints k xs).length) : ∃ ad, a = some ad ∧ ∀ j v, (ints k xs)[j]? = some v → w.cell? (ad.add j) = some v := by
  obtain ⟨b, off, rfl, _, _⟩ := h.2 0 (by simpa using h0)
  refine ⟨_, rfl, fun j v hv => ?_⟩
  have hj : j < xs.length := by
    rcases Nat.lt_or_ge j xs.length with h | h
    · exact h
    · rw [List.getElem?_eq_none (by simpa using h)] at hv; simp at hv
  obtain ⟨b', off', e, _, hc⟩ := h.2 j hj
  simp only [Option.some.injEq, Addr.mk.injEq, and_true] at e
  obtain ⟨rfl, rfl⟩ := e
  rw [Addr.add_lit, hc, ← hv, ints_get k xs j hj]
  simp [hj]
theorem tmod16_bd (n : Int) : -15 ≤ n.tmod 16 ∧ n.tmod 16 ≤ 15 := by
  have h1 := Int.tmod_lt_of_pos n (show (0 : Int) < 16 by decide)
  have h2 := Int.lt_tmod_of_pos n (show (0 : Int) < 16 by decide)
  omega
theorem min_len (xs : List Int) : (ints .u8 xs).length = Nat.min xs.length xs.length := by rw [List.length_map]; exact (Nat.min_self _).symm

set_option maxRecDepth 8000 in
set_option maxHeartbeats 1600000 in
theorem jrefuses_long_far (a : Option Addr) (c : Nat) (xs : List Int) (n : Int) (B L : Int) (w : World) (h : Sees .u8 w a xs) (hr : ∀ x ∈ xs, 0 ≤ x ∧ x ≤ 255) (hn : -9223372036854775808 ≤ n ∧ n ≤ 9223372036854775807) (hB : 0 ≤ B ∧ B < 4294967296) (hL : 0 ≤ L ∧ L ≤ 255) (hbig : xs.length ≤ 1024) (hl : 15 < L) :
    Calls Ychm.prog 4 #[.slice a xs.length c, .int .i64 n, .bool false, .int .u32 B, .int .u8 L] w fun e w' => e = .returned (.bool true) ∧ Below w.heap.size w w' := by
  have hm := h.1
  have HS := hid h
  have HR := hid hr
  clear h hr
  have hbig' : (xs.length : Int) ≤ 1024 := by omega
  go_enter Ychm.func4, Ychm.ntmps4
  go_wp2_with (first
    | (at_make; refine wpList_makeRow _ rfl _ _ 22 rfl 5 (.int .u8 0) 1 1 Ychm.underlying22 (by kernel_rfl) _ _ _ _ xs.length rfl rfl rfl rfl (by omega) (by unfold maxLen; omega) ?_; intro w1 hrow1 hg1; rw [made_int] at hrow1)
    | (refine wpList_copy_splice rfl _ _ 22 22 rfl 5 Ychm.underlying22 (by kernel_rfl) (some ⟨w.heap.size, 0, none⟩) a xs.length xs.length xs.length c rfl rfl w.heap.size 0 (ints .u8 (List.replicate xs.length 0)) 5 hrow1 (ints .u8 xs) (min_len xs) (fun h0 => ⟨rfl, src_cells (HS.out.below (below_of_grown hg1 (Nat.le_refl _) (by simp)) (Nat.le_refl _)) h0⟩) (by simp) (ints_mem_one _ _) w.heap.size w (below_of_grown hg1 (Nat.le_refl _) (by simp)) (Nat.le_refl _) ?_; intro w2 hrow2 hb2)
    | (go_at_call 11
       have HR2 : Hid (RowV w2 w.heap.size 5 (ints .u8 xs)) := by rw [splice_all _ _ (by simp)] at hrow2; exact hrow2
       refine (append_long w2.heap.size (.slice (some ⟨w.heap.size, 0, none⟩) xs.length xs.length) n B (L) _ (RowV.fresh w2 _ [.slice (some ⟨w.heap.size, 0, none⟩) xs.length xs.length, .int .i64 n] _ rfl) hl).mono ?_; rintro e w3 ⟨rfl, hb3⟩
       have hs2 := HR2.out.lt
       have hs3 := hb3.size
       simp only [World.size_alloc] at hs3
       have HB3 : Hid (Below w.heap.size w w3) := hid ((hb2.alloc hb2.size _).trans (hb3.mono (by simp; omega)))
       have HRB : Hid (RowV w3 w2.heap.size 25 [.slice (some ⟨w.heap.size, 0, none⟩) xs.length xs.length, .int .i64 n]) := hid ((RowV.fresh w2 _ [.slice (some ⟨w.heap.size, 0, none⟩) xs.length xs.length, .int .i64 n] _ rfl).below hb3 (by simp))
       have HRX : Hid (RowV w3 w.heap.size 5 (ints .u8 xs)) := hid ((HR2.out.alloc _).below hb3 (by simp; omega))
       have b0 := HRB.out.cell (i := 0) rfl
       have b1 := HRB.out.cell (i := 1) rfl
       have HS3 := hid (HS.out.below HB3.out (Nat.le_refl _))
       clear hb3 hb2 hrow1 hrow2 hg1 HR2 HRB))
  have HW0 : Hid (w2.heap.size < w3.heap.size) := hid hs3
  have HB0 := hid b0
  clear b0 b1 hs3
  go_loopw [18] (fun i wr => ∃ (k : Nat), k ≤ xs.length ∧ i = .int .i64 k ∧ Below w3.heap.size w3 wr) (fun i _ => xs.length - (intOf i).toNat)
  case atStart => exact ⟨0, Nat.zero_le _, rfl, Below.refl _ _⟩
  case round =>
    obtain ⟨k, hk, rfl, hb⟩ := hrel
    by_cases hlt : k < xs.length
    · obtain ⟨b, off, rfl, hbs, hcell⟩ := HS3.out.2 k hlt
      have hcell2 := (hb.cell hbs).trans hcell
      have hx := (HRX.out.below hb HRX.out.lt).int hlt
      have b0 := (hb.cell HW0.out).trans HB0.out
      rw [getD_get _ _ hlt] at hcell2 hx
      generalize xs[k] = X at hcell2 hx
      clear hcell
      go_wp2
      go_quiet (fail)
      go_wp2
      go_roundw
      case rel => exact ⟨k + 1, by omega, by go_num, below_drewN' hb _⟩
      case measure => simp [intOf]; omega
    · go_wp2
      go_ret
      exact ⟨rfl, HB3.out.trans (hb.mono HB3.out.size)⟩

set_option maxRecDepth 8000 in
set_option maxHeartbeats 1600000 in
theorem jrefuses_neg_far (a : Option Addr) (c : Nat) (xs : List Int) (n : Int) (B L : Int) (w : World) (h : Sees .u8 w a xs) (hr : ∀ x ∈ xs, 0 ≤ x ∧ x ≤ 255) (hn : -9223372036854775808 ≤ n ∧ n ≤ 9223372036854775807) (hB : 0 ≤ B ∧ B < 4294967296) (hL : 0 ≤ L ∧ L ≤ 255) (hbig : xs.length ≤ 1024) (hl : L ≤ 15) (hM : n < 0) :
    Calls Ychm.prog 4 #[.slice a xs.length c, .int .i64 n, .bool false, .int .u32 B, .int .u8 L] w fun e w' => e = .returned (.bool true) ∧ Below w.heap.size w w' := by
  have hm := h.1
  have HS := hid h
  have HR := hid hr
  clear h hr
  have hbig' : (xs.length : Int) ≤ 1024 := by omega
  go_enter Ychm.func4, Ychm.ntmps4
  go_wp2_with (first
    | (at_make; refine wpList_makeRow _ rfl _ _ 22 rfl 5 (.int .u8 0) 1 1 Ychm.underlying22 (by kernel_rfl) _ _ _ _ xs.length rfl rfl rfl rfl (by omega) (by unfold maxLen; omega) ?_; intro w1 hrow1 hg1; rw [made_int] at hrow1)
    | (refine wpList_copy_splice rfl _ _ 22 22 rfl 5 Ychm.underlying22 (by kernel_rfl) (some ⟨w.heap.size, 0, none⟩) a xs.length xs.length xs.length c rfl rfl w.heap.size 0 (ints .u8 (List.replicate xs.length 0)) 5 hrow1 (ints .u8 xs) (min_len xs) (fun h0 => ⟨rfl, src_cells (HS.out.below (below_of_grown hg1 (Nat.le_refl _) (by simp)) (Nat.le_refl _)) h0⟩) (by simp) (ints_mem_one _ _) w.heap.size w (below_of_grown hg1 (Nat.le_refl _) (by simp)) (Nat.le_refl _) ?_; intro w2 hrow2 hb2)
    | (go_at_call 11
       have HR2 : Hid (RowV w2 w.heap.size 5 (ints .u8 xs)) := by rw [splice_all _ _ (by simp)] at hrow2; exact hrow2
       refine (append_neg w2.heap.size (.slice (some ⟨w.heap.size, 0, none⟩) xs.length xs.length) n B (L) _ (RowV.fresh w2 _ [.slice (some ⟨w.heap.size, 0, none⟩) xs.length xs.length, .int .i64 n] _ rfl) (by omega) (by omega)).mono ?_; rintro e w3 ⟨rfl, hb3⟩
       have hs2 := HR2.out.lt
       have hs3 := hb3.size
       simp only [World.size_alloc] at hs3
       have HB3 : Hid (Below w.heap.size w w3) := hid ((hb2.alloc hb2.size _).trans (hb3.mono (by simp; omega)))
       have HRB : Hid (RowV w3 w2.heap.size 25 [.slice (some ⟨w.heap.size, 0, none⟩) xs.length xs.length, .int .i64 n]) := hid ((RowV.fresh w2 _ [.slice (some ⟨w.heap.size, 0, none⟩) xs.length xs.length, .int .i64 n] _ rfl).below hb3 (by simp))
       have HRX : Hid (RowV w3 w.heap.size 5 (ints .u8 xs)) := hid ((HR2.out.alloc _).below hb3 (by simp; omega))
       have b0 := HRB.out.cell (i := 0) rfl
       have b1 := HRB.out.cell (i := 1) rfl
       have HS3 := hid (HS.out.below HB3.out (Nat.le_refl _))
       clear hb3 hb2 hrow1 hrow2 hg1 HR2 HRB))
  have HW0 : Hid (w2.heap.size < w3.heap.size) := hid hs3
  have HB0 := hid b0
  clear b0 b1 hs3
  go_loopw [18] (fun i wr => ∃ (k : Nat), k ≤ xs.length ∧ i = .int .i64 k ∧ Below w3.heap.size w3 wr) (fun i _ => xs.length - (intOf i).toNat)
  case atStart => exact ⟨0, Nat.zero_le _, rfl, Below.refl _ _⟩
  case round =>
    obtain ⟨k, hk, rfl, hb⟩ := hrel
    by_cases hlt : k < xs.length
    · obtain ⟨b, off, rfl, hbs, hcell⟩ := HS3.out.2 k hlt
      have hcell2 := (hb.cell hbs).trans hcell
      have hx := (HRX.out.below hb HRX.out.lt).int hlt
      have b0 := (hb.cell HW0.out).trans HB0.out
      rw [getD_get _ _ hlt] at hcell2 hx
      generalize xs[k] = X at hcell2 hx
      clear hcell
      go_wp2
      go_quiet (fail)
      go_wp2
      go_roundw
      case rel => exact ⟨k + 1, by omega, by go_num, below_drewN' hb _⟩
      case measure => simp [intOf]; omega
    · go_wp2
      go_ret
      exact ⟨rfl, HB3.out.trans (hb.mono HB3.out.size)⟩

set_option maxRecDepth 8000 in
set_option maxHeartbeats 1600000 in
theorem jrefuses_odd_far (a : Option Addr) (c : Nat) (xs : List Int) (n : Int) (B L : Int) (w : World) (h : Sees .u8 w a xs) (hr : ∀ x ∈ xs, 0 ≤ x ∧ x ≤ 255) (hn : -9223372036854775808 ≤ n ∧ n ≤ 9223372036854775807) (hB : 0 ≤ B ∧ B < 4294967296) (hL : 0 ≤ L ∧ L ≤ 255) (hbig : xs.length ≤ 1024) (N : Nat) (l : Nat) (hN : N ≤ 9223372036854775807) (hl15 : l ≤ 15) (hx : xs.length ≠ (N + 7) / 8) :
    Calls Ychm.prog 4 #[.slice a xs.length c, .int .i64 (N : Int), .bool false, .int .u32 B, .int .u8 (l : Int)] w fun e w' => e = .returned (.bool true) ∧ Below w.heap.size w w' := by
  have hm := h.1
  have HS := hid h
  have HR := hid hr
  clear h hr
  have hbig' : (xs.length : Int) ≤ 1024 := by omega
  have hpart : 8 * (xs.length : Int) < (N : Int) ∨ 8 ≤ 8 * (xs.length : Int) - (N : Int) := by omega
  rcases hpart with hp1 | hp2
  · go_enter Ychm.func4, Ychm.ntmps4
    go_wp2_with (first
      | (at_make; refine wpList_makeRow _ rfl _ _ 22 rfl 5 (.int .u8 0) 1 1 Ychm.underlying22 (by kernel_rfl) _ _ _ _ xs.length rfl rfl rfl rfl (by omega) (by unfold maxLen; omega) ?_; intro w1 hrow1 hg1; rw [made_int] at hrow1)
      | (refine wpList_copy_splice rfl _ _ 22 22 rfl 5 Ychm.underlying22 (by kernel_rfl) (some ⟨w.heap.size, 0, none⟩) a xs.length xs.length xs.length c rfl rfl w.heap.size 0 (ints .u8 (List.replicate xs.length 0)) 5 hrow1 (ints .u8 xs) (min_len xs) (fun h0 => ⟨rfl, src_cells (HS.out.below (below_of_grown hg1 (Nat.le_refl _) (by simp)) (Nat.le_refl _)) h0⟩) (by simp) (ints_mem_one _ _) w.heap.size w (below_of_grown hg1 (Nat.le_refl _) (by simp)) (Nat.le_refl _) ?_; intro w2 hrow2 hb2)
      | (go_at_call 11
         have HR2 : Hid (RowV w2 w.heap.size 5 (ints .u8 xs)) := by rw [splice_all _ _ (by simp)] at hrow2; exact hrow2
         refine (append_odd w2.heap.size (some ⟨w.heap.size, 0, none⟩) xs.length xs.length N B (l : Int) _ (RowV.fresh w2 _ [.slice (some ⟨w.heap.size, 0, none⟩) xs.length xs.length, .int .i64 N] _ rfl) (by omega) (by omega) hx (by omega)).mono ?_; rintro e w3 ⟨rfl, hb3⟩
         have hs2 := HR2.out.lt
         have hs3 := hb3.size
         simp only [World.size_alloc] at hs3
         have HB3 : Hid (Below w.heap.size w w3) := hid ((hb2.alloc hb2.size _).trans (hb3.mono (by simp; omega)))
         have HRB : Hid (RowV w3 w2.heap.size 25 [.slice (some ⟨w.heap.size, 0, none⟩) xs.length xs.length, .int .i64 (N : Int)]) := hid ((RowV.fresh w2 _ [.slice (some ⟨w.heap.size, 0, none⟩) xs.length xs.length, .int .i64 (N : Int)] _ rfl).below hb3 (by simp))
         have HRX : Hid (RowV w3 w.heap.size 5 (ints .u8 xs)) := hid ((HR2.out.alloc _).below hb3 (by simp; omega))
         have b0 := HRB.out.cell (i := 0) rfl
         have b1 := HRB.out.cell (i := 1) rfl
         have HS3 := hid (HS.out.below HB3.out (Nat.le_refl _))
         clear hb3 hb2 hrow1 hrow2 hg1 HR2 HRB))
    have HW0 : Hid (w2.heap.size < w3.heap.size) := hid hs3
    have HB0 := hid b0
    clear b0 b1 hs3
    go_loopw [18] (fun i wr => ∃ (k : Nat), k ≤ xs.length ∧ i = .int .i64 k ∧ Below w3.heap.size w3 wr) (fun i _ => xs.length - (intOf i).toNat)
    case atStart => exact ⟨0, Nat.zero_le _, rfl, Below.refl _ _⟩
    case round =>
      obtain ⟨k, hk, rfl, hb⟩ := hrel
      by_cases hlt : k < xs.length
      · obtain ⟨b, off, rfl, hbs, hcell⟩ := HS3.out.2 k hlt
        have hcell2 := (hb.cell hbs).trans hcell
        have hx := (HRX.out.below hb HRX.out.lt).int hlt
        have b0 := (hb.cell HW0.out).trans HB0.out
        rw [getD_get _ _ hlt] at hcell2 hx
        generalize xs[k] = X at hcell2 hx
        clear hcell
        go_wp2
        go_quiet (fail)
        go_wp2
        go_roundw
        case rel => exact ⟨k + 1, by omega, by go_num, below_drewN' hb _⟩
        case measure => simp [intOf]; omega
      · go_wp2
        go_ret
        exact ⟨rfl, HB3.out.trans (hb.mono HB3.out.size)⟩
  · by_cases hp1 : 8 * (xs.length : Int) < (N : Int)
    · omega
    · go_enter Ychm.func4, Ychm.ntmps4
      go_wp2_with (first
        | (at_make; refine wpList_makeRow _ rfl _ _ 22 rfl 5 (.int .u8 0) 1 1 Ychm.underlying22 (by kernel_rfl) _ _ _ _ xs.length rfl rfl rfl rfl (by omega) (by unfold maxLen; omega) ?_; intro w1 hrow1 hg1; rw [made_int] at hrow1)
        | (refine wpList_copy_splice rfl _ _ 22 22 rfl 5 Ychm.underlying22 (by kernel_rfl) (some ⟨w.heap.size, 0, none⟩) a xs.length xs.length xs.length c rfl rfl w.heap.size 0 (ints .u8 (List.replicate xs.length 0)) 5 hrow1 (ints .u8 xs) (min_len xs) (fun h0 => ⟨rfl, src_cells (HS.out.below (below_of_grown hg1 (Nat.le_refl _) (by simp)) (Nat.le_refl _)) h0⟩) (by simp) (ints_mem_one _ _) w.heap.size w (below_of_grown hg1 (Nat.le_refl _) (by simp)) (Nat.le_refl _) ?_; intro w2 hrow2 hb2)
        | (go_at_call 11
           have HR2 : Hid (RowV w2 w.heap.size 5 (ints .u8 xs)) := by rw [splice_all _ _ (by simp)] at hrow2; exact hrow2
           refine (append_odd w2.heap.size (some ⟨w.heap.size, 0, none⟩) xs.length xs.length N B (l : Int) _ (RowV.fresh w2 _ [.slice (some ⟨w.heap.size, 0, none⟩) xs.length xs.length, .int .i64 N] _ rfl) (by omega) (by omega) hx (by omega)).mono ?_; rintro e w3 ⟨rfl, hb3⟩
           have hs2 := HR2.out.lt
           have hs3 := hb3.size
           simp only [World.size_alloc] at hs3
           have HB3 : Hid (Below w.heap.size w w3) := hid ((hb2.alloc hb2.size _).trans (hb3.mono (by simp; omega)))
           have HRB : Hid (RowV w3 w2.heap.size 25 [.slice (some ⟨w.heap.size, 0, none⟩) xs.length xs.length, .int .i64 (N : Int)]) := hid ((RowV.fresh w2 _ [.slice (some ⟨w.heap.size, 0, none⟩) xs.length xs.length, .int .i64 (N : Int)] _ rfl).below hb3 (by simp))
           have HRX : Hid (RowV w3 w.heap.size 5 (ints .u8 xs)) := hid ((HR2.out.alloc _).below hb3 (by simp; omega))
           have b0 := HRB.out.cell (i := 0) rfl
           have b1 := HRB.out.cell (i := 1) rfl
           have HS3 := hid (HS.out.below HB3.out (Nat.le_refl _))
           clear hb3 hb2 hrow1 hrow2 hg1 HR2 HRB))
      have HW0 : Hid (w2.heap.size < w3.heap.size) := hid hs3
      have HB0 := hid b0
      clear b0 b1 hs3
      go_loopw [18] (fun i wr => ∃ (k : Nat), k ≤ xs.length ∧ i = .int .i64 k ∧ Below w3.heap.size w3 wr) (fun i _ => xs.length - (intOf i).toNat)
      case atStart => exact ⟨0, Nat.zero_le _, rfl, Below.refl _ _⟩
      case round =>
        obtain ⟨k, hk, rfl, hb⟩ := hrel
        by_cases hlt : k < xs.length
        · obtain ⟨b, off, rfl, hbs, hcell⟩ := HS3.out.2 k hlt
          have hcell2 := (hb.cell hbs).trans hcell
          have hx := (HRX.out.below hb HRX.out.lt).int hlt
          have b0 := (hb.cell HW0.out).trans HB0.out
          rw [getD_get _ _ hlt] at hcell2 hx
          generalize xs[k] = X at hcell2 hx
          clear hcell
          go_wp2
          go_quiet (fail)
          go_wp2
          go_roundw
          case rel => exact ⟨k + 1, by omega, by go_num, below_drewN' hb _⟩
          case measure => simp [intOf]; omega
        · go_wp2
          go_ret
          exact ⟨rfl, HB3.out.trans (hb.mono HB3.out.size)⟩

set_option maxRecDepth 8000 in
set_option maxHeartbeats 1600000 in
theorem jrefuses_yes_far (a : Option Addr) (c : Nat) (xs : List Int) (n : Int) (B L : Int) (w : World) (h : Sees .u8 w a xs) (hr : ∀ x ∈ xs, 0 ≤ x ∧ x ≤ 255) (hn : -9223372036854775808 ≤ n ∧ n ≤ 9223372036854775807) (hB : 0 ≤ B ∧ B < 4294967296) (hL : 0 ≤ L ∧ L ≤ 255) (hbig : xs.length ≤ 1024) (N : Nat) (l : Nat) (hN : N ≤ 9223372036854775807) (hl15 : l ≤ 15) (hx : xs.length = (N + 7) / 8) :
    Calls Ychm.prog 4 #[.slice a xs.length c, .int .i64 (N : Int), .bool false, .int .u32 B, .int .u8 (l : Int)] w fun e w' => e = .returned (.bool true) ∧ Below w.heap.size w w' := by
  have hm := h.1
  have HS := hid h
  have HR := hid hr
  clear h hr
  have hbig' : (xs.length : Int) ≤ 1024 := by omega
  have HX := hid hx
  have hp1 : (N : Int) ≤ 8 * (xs.length : Int) := by omega
  have hp2 : 8 * (xs.length : Int) - (N : Int) < 8 := by omega
  have hN6 : N ≤ 1000000 := by omega
  clear hx
  go_enter Ychm.func4, Ychm.ntmps4
  go_wp2_with (first
    | (at_make; refine wpList_makeRow _ rfl _ _ 22 rfl 5 (.int .u8 0) 1 1 Ychm.underlying22 (by kernel_rfl) _ _ _ _ xs.length rfl rfl rfl rfl (by omega) (by unfold maxLen; omega) ?_; intro w1 hrow1 hg1; rw [made_int] at hrow1)
    | (refine wpList_copy_splice rfl _ _ 22 22 rfl 5 Ychm.underlying22 (by kernel_rfl) (some ⟨w.heap.size, 0, none⟩) a xs.length xs.length xs.length c rfl rfl w.heap.size 0 (ints .u8 (List.replicate xs.length 0)) 5 hrow1 (ints .u8 xs) (min_len xs) (fun h0 => ⟨rfl, src_cells (HS.out.below (below_of_grown hg1 (Nat.le_refl _) (by simp)) (Nat.le_refl _)) h0⟩) (by simp) (ints_mem_one _ _) w.heap.size w (below_of_grown hg1 (Nat.le_refl _) (by simp)) (Nat.le_refl _) ?_; intro w2 hrow2 hb2)
    | (go_at_call 11
       have HR2 : Hid (RowV w2 w.heap.size 5 (ints .u8 xs)) := by rw [splice_all _ _ (by simp)] at hrow2; exact hrow2
       refine (append_yes w.heap.size w2.heap.size (.slice (some ⟨w.heap.size, 0, none⟩) xs.length xs.length) xs N B l _ ⟨RowV.fresh w2 _ [.slice (some ⟨w.heap.size, 0, none⟩) xs.length xs.length, .int .i64 N] _ rfl, (OwnI.ofRow HR2.out (Nat.le_refl _) (by omega)).alloc _, by simp [Value.ownBlock]; have := HR2.out.lt; omega, HR.out, HX.out⟩ hB hl15 hN6 (by simp; have := HR2.out.lt; omega) w.heap.size (Nat.le_refl _) (by have := HR2.out.lt; omega)).mono ?_; rintro e w3 ⟨rfl, v', ds', hbv, hbits, hnil, hb3⟩
       have hs2 := HR2.out.lt
       have b1 := hbv.1.cell (i := 1) rfl
       have HB3 : Hid (Below w.heap.size w w3) := hid ((hb2.alloc hb2.size _).trans hb3)
       clear hb3 hb2 hrow1 hrow2 hg1 HR2 hbv hbits hnil))
  go_ret
  exact ⟨ret_bool (by simp), HB3.out⟩

set_option maxRecDepth 8000 in
set_option maxHeartbeats 1600000 in
theorem jrefuses_long_near (a : Option Addr) (c : Nat) (xs : List Int) (n : Int) (B L : Int) (w : World) (h : Sees .u8 w a xs) (hr : ∀ x ∈ xs, 0 ≤ x ∧ x ≤ 255) (hn : -9223372036854775808 ≤ n ∧ n ≤ 9223372036854775807) (hB : 0 ≤ B ∧ B < 4294967296) (hL : 0 ≤ L ∧ L ≤ 255) (hbig : xs.length ≤ 1024) (hl : 15 < 12 + L % 8) :
    Calls Ychm.prog 4 #[.slice a xs.length c, .int .i64 n, .bool true, .int .u32 B, .int .u8 L] w fun e w' => e = .returned (.bool true) ∧ Below w.heap.size w w' := by
  have hm := h.1
  have HS := hid h
  have HR := hid hr
  clear h hr
  have hbig' : (xs.length : Int) ≤ 1024 := by omega
  have ht := tmod16_bd n
  have hw : wrap64 (8 * (xs.length : Int) + n.tmod 16) = 8 * (xs.length : Int) + n.tmod 16 := IntWalk.wrap64_in _ ⟨by omega, by omega⟩
  go_enter Ychm.func4, Ychm.ntmps4
  go_wp2_with (first
    | (at_make; refine wpList_makeRow _ rfl _ _ 22 rfl 5 (.int .u8 0) 1 1 Ychm.underlying22 (by kernel_rfl) _ _ _ _ xs.length rfl rfl rfl rfl (by omega) (by unfold maxLen; omega) ?_; intro w1 hrow1 hg1; rw [made_int] at hrow1)
    | (refine wpList_copy_splice rfl _ _ 22 22 rfl 5 Ychm.underlying22 (by kernel_rfl) (some ⟨w.heap.size, 0, none⟩) a xs.length xs.length xs.length c rfl rfl w.heap.size 0 (ints .u8 (List.replicate xs.length 0)) 5 hrow1 (ints .u8 xs) (min_len xs) (fun h0 => ⟨rfl, src_cells (HS.out.below (below_of_grown hg1 (Nat.le_refl _) (by simp)) (Nat.le_refl _)) h0⟩) (by simp) (ints_mem_one _ _) w.heap.size w (below_of_grown hg1 (Nat.le_refl _) (by simp)) (Nat.le_refl _) ?_; intro w2 hrow2 hb2)
    | (go_at_call 11
       have HR2 : Hid (RowV w2 w.heap.size 5 (ints .u8 xs)) := by rw [splice_all _ _ (by simp)] at hrow2; exact hrow2
       refine (append_long w2.heap.size (.slice (some ⟨w.heap.size, 0, none⟩) xs.length xs.length) (8 * (xs.length : Int) + n.tmod 16) B (12 + L % 8) _ (RowV.fresh w2 _ [.slice (some ⟨w.heap.size, 0, none⟩) xs.length xs.length, .int .i64 (8 * (xs.length : Int) + n.tmod 16)] _ rfl) hl).mono ?_; rintro e w3 ⟨rfl, hb3⟩
       have hs2 := HR2.out.lt
       have hs3 := hb3.size
       simp only [World.size_alloc] at hs3
       have HB3 : Hid (Below w.heap.size w w3) := hid ((hb2.alloc hb2.size _).trans (hb3.mono (by simp; omega)))
       have HRB : Hid (RowV w3 w2.heap.size 25 [.slice (some ⟨w.heap.size, 0, none⟩) xs.length xs.length, .int .i64 (8 * (xs.length : Int) + n.tmod 16)]) := hid ((RowV.fresh w2 _ [.slice (some ⟨w.heap.size, 0, none⟩) xs.length xs.length, .int .i64 (8 * (xs.length : Int) + n.tmod 16)] _ rfl).below hb3 (by simp))
       have HRX : Hid (RowV w3 w.heap.size 5 (ints .u8 xs)) := hid ((HR2.out.alloc _).below hb3 (by simp; omega))
       have b0 := HRB.out.cell (i := 0) rfl
       have b1 := HRB.out.cell (i := 1) rfl
       have HS3 := hid (HS.out.below HB3.out (Nat.le_refl _))
       clear hb3 hb2 hrow1 hrow2 hg1 HR2 HRB))
  have HW0 : Hid (w2.heap.size < w3.heap.size) := hid hs3
  have HB0 := hid b0
  clear b0 b1 hs3
  go_loopw [18] (fun i wr => ∃ (k : Nat), k ≤ xs.length ∧ i = .int .i64 k ∧ Below w3.heap.size w3 wr) (fun i _ => xs.length - (intOf i).toNat)
  case atStart => exact ⟨0, Nat.zero_le _, rfl, Below.refl _ _⟩
  case round =>
    obtain ⟨k, hk, rfl, hb⟩ := hrel
    by_cases hlt : k < xs.length
    · obtain ⟨b, off, rfl, hbs, hcell⟩ := HS3.out.2 k hlt
      have hcell2 := (hb.cell hbs).trans hcell
      have hx := (HRX.out.below hb HRX.out.lt).int hlt
      have b0 := (hb.cell HW0.out).trans HB0.out
      rw [getD_get _ _ hlt] at hcell2 hx
      generalize xs[k] = X at hcell2 hx
      clear hcell
      go_wp2
      go_quiet (fail)
      go_wp2
      go_roundw
      case rel => exact ⟨k + 1, by omega, by go_num, below_drewN' hb _⟩
      case measure => simp [intOf]; omega
    · go_wp2
      go_ret
      exact ⟨rfl, HB3.out.trans (hb.mono HB3.out.size)⟩

set_option maxRecDepth 8000 in
set_option maxHeartbeats 1600000 in
theorem jrefuses_neg_near (a : Option Addr) (c : Nat) (xs : List Int) (n : Int) (B L : Int) (w : World) (h : Sees .u8 w a xs) (hr : ∀ x ∈ xs, 0 ≤ x ∧ x ≤ 255) (hn : -9223372036854775808 ≤ n ∧ n ≤ 9223372036854775807) (hB : 0 ≤ B ∧ B < 4294967296) (hL : 0 ≤ L ∧ L ≤ 255) (hbig : xs.length ≤ 1024) (hl : 12 + L % 8 ≤ 15) (hM : 8 * (xs.length : Int) + n.tmod 16 < 0) :
    Calls Ychm.prog 4 #[.slice a xs.length c, .int .i64 n, .bool true, .int .u32 B, .int .u8 L] w fun e w' => e = .returned (.bool true) ∧ Below w.heap.size w w' := by
  have hm := h.1
  have HS := hid h
  have HR := hid hr
  clear h hr
  have hbig' : (xs.length : Int) ≤ 1024 := by omega
  have ht := tmod16_bd n
  have hw : wrap64 (8 * (xs.length : Int) + n.tmod 16) = 8 * (xs.length : Int) + n.tmod 16 := IntWalk.wrap64_in _ ⟨by omega, by omega⟩
  go_enter Ychm.func4, Ychm.ntmps4
  go_wp2_with (first
    | (at_make; refine wpList_makeRow _ rfl _ _ 22 rfl 5 (.int .u8 0) 1 1 Ychm.underlying22 (by kernel_rfl) _ _ _ _ xs.length rfl rfl rfl rfl (by omega) (by unfold maxLen; omega) ?_; intro w1 hrow1 hg1; rw [made_int] at hrow1)
    | (refine wpList_copy_splice rfl _ _ 22 22 rfl 5 Ychm.underlying22 (by kernel_rfl) (some ⟨w.heap.size, 0, none⟩) a xs.length xs.length xs.length c rfl rfl w.heap.size 0 (ints .u8 (List.replicate xs.length 0)) 5 hrow1 (ints .u8 xs) (min_len xs) (fun h0 => ⟨rfl, src_cells (HS.out.below (below_of_grown hg1 (Nat.le_refl _) (by simp)) (Nat.le_refl _)) h0⟩) (by simp) (ints_mem_one _ _) w.heap.size w (below_of_grown hg1 (Nat.le_refl _) (by simp)) (Nat.le_refl _) ?_; intro w2 hrow2 hb2)
    | (go_at_call 11
       have HR2 : Hid (RowV w2 w.heap.size 5 (ints .u8 xs)) := by rw [splice_all _ _ (by simp)] at hrow2; exact hrow2
       refine (append_neg w2.heap.size (.slice (some ⟨w.heap.size, 0, none⟩) xs.length xs.length) (8 * (xs.length : Int) + n.tmod 16) B (12 + L % 8) _ (RowV.fresh w2 _ [.slice (some ⟨w.heap.size, 0, none⟩) xs.length xs.length, .int .i64 (8 * (xs.length : Int) + n.tmod 16)] _ rfl) (by omega) (by omega)).mono ?_; rintro e w3 ⟨rfl, hb3⟩
       have hs2 := HR2.out.lt
       have hs3 := hb3.size
       simp only [World.size_alloc] at hs3
       have HB3 : Hid (Below w.heap.size w w3) := hid ((hb2.alloc hb2.size _).trans (hb3.mono (by simp; omega)))
       have HRB : Hid (RowV w3 w2.heap.size 25 [.slice (some ⟨w.heap.size, 0, none⟩) xs.length xs.length, .int .i64 (8 * (xs.length : Int) + n.tmod 16)]) := hid ((RowV.fresh w2 _ [.slice (some ⟨w.heap.size, 0, none⟩) xs.length xs.length, .int .i64 (8 * (xs.length : Int) + n.tmod 16)] _ rfl).below hb3 (by simp))
       have HRX : Hid (RowV w3 w.heap.size 5 (ints .u8 xs)) := hid ((HR2.out.alloc _).below hb3 (by simp; omega))
       have b0 := HRB.out.cell (i := 0) rfl
       have b1 := HRB.out.cell (i := 1) rfl
       have HS3 := hid (HS.out.below HB3.out (Nat.le_refl _))
       clear hb3 hb2 hrow1 hrow2 hg1 HR2 HRB))
  have HW0 : Hid (w2.heap.size < w3.heap.size) := hid hs3
  have HB0 := hid b0
  clear b0 b1 hs3
  go_loopw [18] (fun i wr => ∃ (k : Nat), k ≤ xs.length ∧ i = .int .i64 k ∧ Below w3.heap.size w3 wr) (fun i _ => xs.length - (intOf i).toNat)
  case atStart => exact ⟨0, Nat.zero_le _, rfl, Below.refl _ _⟩
  case round =>
    obtain ⟨k, hk, rfl, hb⟩ := hrel
    by_cases hlt : k < xs.length
    · obtain ⟨b, off, rfl, hbs, hcell⟩ := HS3.out.2 k hlt
      have hcell2 := (hb.cell hbs).trans hcell
      have hx := (HRX.out.below hb HRX.out.lt).int hlt
      have b0 := (hb.cell HW0.out).trans HB0.out
      rw [getD_get _ _ hlt] at hcell2 hx
      generalize xs[k] = X at hcell2 hx
      clear hcell
      go_wp2
      go_quiet (fail)
      go_wp2
      go_roundw
      case rel => exact ⟨k + 1, by omega, by go_num, below_drewN' hb _⟩
      case measure => simp [intOf]; omega
    · go_wp2
      go_ret
      exact ⟨rfl, HB3.out.trans (hb.mono HB3.out.size)⟩

set_option maxRecDepth 8000 in
set_option maxHeartbeats 1600000 in
theorem jrefuses_odd_near (a : Option Addr) (c : Nat) (xs : List Int) (n : Int) (B L : Int) (w : World) (h : Sees .u8 w a xs) (hr : ∀ x ∈ xs, 0 ≤ x ∧ x ≤ 255) (hn : -9223372036854775808 ≤ n ∧ n ≤ 9223372036854775807) (hB : 0 ≤ B ∧ B < 4294967296) (hL : 0 ≤ L ∧ L ≤ 255) (hbig : xs.length ≤ 1024) (N : Nat) (l : Nat) (hl : 12 + L % 8 = (l : Int)) (hl15 : l ≤ 15) (hM : 8 * (xs.length : Int) + n.tmod 16 = (N : Int)) (hx : xs.length ≠ (N + 7) / 8) :
    Calls Ychm.prog 4 #[.slice a xs.length c, .int .i64 n, .bool true, .int .u32 B, .int .u8 L] w fun e w' => e = .returned (.bool true) ∧ Below w.heap.size w w' := by
  have hm := h.1
  have HS := hid h
  have HR := hid hr
  clear h hr
  have hbig' : (xs.length : Int) ≤ 1024 := by omega
  have ht := tmod16_bd n
  have hw : wrap64 (8 * (xs.length : Int) + n.tmod 16) = (N : Int) := by rw [← hM]; exact IntWalk.wrap64_in _ ⟨by omega, by omega⟩
  have hNb : (N : Int) ≤ 8 * (xs.length : Int) + 15 := by omega
  have hpart : 8 * (xs.length : Int) < (N : Int) ∨ 8 ≤ 8 * (xs.length : Int) - (N : Int) := by omega
  rcases hpart with hp1 | hp2
  · go_enter Ychm.func4, Ychm.ntmps4
    go_wp2_with (first
      | (at_make; refine wpList_makeRow _ rfl _ _ 22 rfl 5 (.int .u8 0) 1 1 Ychm.underlying22 (by kernel_rfl) _ _ _ _ xs.length rfl rfl rfl rfl (by omega) (by unfold maxLen; omega) ?_; intro w1 hrow1 hg1; rw [made_int] at hrow1)
      | (refine wpList_copy_splice rfl _ _ 22 22 rfl 5 Ychm.underlying22 (by kernel_rfl) (some ⟨w.heap.size, 0, none⟩) a xs.length xs.length xs.length c rfl rfl w.heap.size 0 (ints .u8 (List.replicate xs.length 0)) 5 hrow1 (ints .u8 xs) (min_len xs) (fun h0 => ⟨rfl, src_cells (HS.out.below (below_of_grown hg1 (Nat.le_refl _) (by simp)) (Nat.le_refl _)) h0⟩) (by simp) (ints_mem_one _ _) w.heap.size w (below_of_grown hg1 (Nat.le_refl _) (by simp)) (Nat.le_refl _) ?_; intro w2 hrow2 hb2)
      | (go_at_call 11
         have HR2 : Hid (RowV w2 w.heap.size 5 (ints .u8 xs)) := by rw [splice_all _ _ (by simp)] at hrow2; exact hrow2
         refine (append_odd w2.heap.size (some ⟨w.heap.size, 0, none⟩) xs.length xs.length N B (l : Int) _ (RowV.fresh w2 _ [.slice (some ⟨w.heap.size, 0, none⟩) xs.length xs.length, .int .i64 N] _ rfl) (by omega) (by omega) hx (by omega)).mono ?_; rintro e w3 ⟨rfl, hb3⟩
         have hs2 := HR2.out.lt
         have hs3 := hb3.size
         simp only [World.size_alloc] at hs3
         have HB3 : Hid (Below w.heap.size w w3) := hid ((hb2.alloc hb2.size _).trans (hb3.mono (by simp; omega)))
         have HRB : Hid (RowV w3 w2.heap.size 25 [.slice (some ⟨w.heap.size, 0, none⟩) xs.length xs.length, .int .i64 (N : Int)]) := hid ((RowV.fresh w2 _ [.slice (some ⟨w.heap.size, 0, none⟩) xs.length xs.length, .int .i64 (N : Int)] _ rfl).below hb3 (by simp))
         have HRX : Hid (RowV w3 w.heap.size 5 (ints .u8 xs)) := hid ((HR2.out.alloc _).below hb3 (by simp; omega))
         have b0 := HRB.out.cell (i := 0) rfl
         have b1 := HRB.out.cell (i := 1) rfl
         have HS3 := hid (HS.out.below HB3.out (Nat.le_refl _))
         clear hb3 hb2 hrow1 hrow2 hg1 HR2 HRB))
    have HW0 : Hid (w2.heap.size < w3.heap.size) := hid hs3
    have HB0 := hid b0
    clear b0 b1 hs3
    go_loopw [18] (fun i wr => ∃ (k : Nat), k ≤ xs.length ∧ i = .int .i64 k ∧ Below w3.heap.size w3 wr) (fun i _ => xs.length - (intOf i).toNat)
    case atStart => exact ⟨0, Nat.zero_le _, rfl, Below.refl _ _⟩
    case round =>
      obtain ⟨k, hk, rfl, hb⟩ := hrel
      by_cases hlt : k < xs.length
      · obtain ⟨b, off, rfl, hbs, hcell⟩ := HS3.out.2 k hlt
        have hcell2 := (hb.cell hbs).trans hcell
        have hx := (HRX.out.below hb HRX.out.lt).int hlt
        have b0 := (hb.cell HW0.out).trans HB0.out
        rw [getD_get _ _ hlt] at hcell2 hx
        generalize xs[k] = X at hcell2 hx
        clear hcell
        go_wp2
        go_quiet (fail)
        go_wp2
        go_roundw
        case rel => exact ⟨k + 1, by omega, by go_num, below_drewN' hb _⟩
        case measure => simp [intOf]; omega
      · go_wp2
        go_ret
        exact ⟨rfl, HB3.out.trans (hb.mono HB3.out.size)⟩
  · by_cases hp1 : 8 * (xs.length : Int) < (N : Int)
    · omega
    · go_enter Ychm.func4, Ychm.ntmps4
      go_wp2_with (first
        | (at_make; refine wpList_makeRow _ rfl _ _ 22 rfl 5 (.int .u8 0) 1 1 Ychm.underlying22 (by kernel_rfl) _ _ _ _ xs.length rfl rfl rfl rfl (by omega) (by unfold maxLen; omega) ?_; intro w1 hrow1 hg1; rw [made_int] at hrow1)
        | (refine wpList_copy_splice rfl _ _ 22 22 rfl 5 Ychm.underlying22 (by kernel_rfl) (some ⟨w.heap.size, 0, none⟩) a xs.length xs.length xs.length c rfl rfl w.heap.size 0 (ints .u8 (List.replicate xs.length 0)) 5 hrow1 (ints .u8 xs) (min_len xs) (fun h0 => ⟨rfl, src_cells (HS.out.below (below_of_grown hg1 (Nat.le_refl _) (by simp)) (Nat.le_refl _)) h0⟩) (by simp) (ints_mem_one _ _) w.heap.size w (below_of_grown hg1 (Nat.le_refl _) (by simp)) (Nat.le_refl _) ?_; intro w2 hrow2 hb2)
        | (go_at_call 11
           have HR2 : Hid (RowV w2 w.heap.size 5 (ints .u8 xs)) := by rw [splice_all _ _ (by simp)] at hrow2; exact hrow2
           refine (append_odd w2.heap.size (some ⟨w.heap.size, 0, none⟩) xs.length xs.length N B (l : Int) _ (RowV.fresh w2 _ [.slice (some ⟨w.heap.size, 0, none⟩) xs.length xs.length, .int .i64 N] _ rfl) (by omega) (by omega) hx (by omega)).mono ?_; rintro e w3 ⟨rfl, hb3⟩
           have hs2 := HR2.out.lt
           have hs3 := hb3.size
           simp only [World.size_alloc] at hs3
           have HB3 : Hid (Below w.heap.size w w3) := hid ((hb2.alloc hb2.size _).trans (hb3.mono (by simp; omega)))
           have HRB : Hid (RowV w3 w2.heap.size 25 [.slice (some ⟨w.heap.size, 0, none⟩) xs.length xs.length, .int .i64 (N : Int)]) := hid ((RowV.fresh w2 _ [.slice (some ⟨w.heap.size, 0, none⟩) xs.length xs.length, .int .i64 (N : Int)] _ rfl).below hb3 (by simp))
           have HRX : Hid (RowV w3 w.heap.size 5 (ints .u8 xs)) := hid ((HR2.out.alloc _).below hb3 (by simp; omega))
           have b0 := HRB.out.cell (i := 0) rfl
           have b1 := HRB.out.cell (i := 1) rfl
           have HS3 := hid (HS.out.below HB3.out (Nat.le_refl _))
           clear hb3 hb2 hrow1 hrow2 hg1 HR2 HRB))
      have HW0 : Hid (w2.heap.size < w3.heap.size) := hid hs3
      have HB0 := hid b0
      clear b0 b1 hs3
      go_loopw [18] (fun i wr => ∃ (k : Nat), k ≤ xs.length ∧ i = .int .i64 k ∧ Below w3.heap.size w3 wr) (fun i _ => xs.length - (intOf i).toNat)
      case atStart => exact ⟨0, Nat.zero_le _, rfl, Below.refl _ _⟩
      case round =>
        obtain ⟨k, hk, rfl, hb⟩ := hrel
        by_cases hlt : k < xs.length
        · obtain ⟨b, off, rfl, hbs, hcell⟩ := HS3.out.2 k hlt
          have hcell2 := (hb.cell hbs).trans hcell
          have hx := (HRX.out.below hb HRX.out.lt).int hlt
          have b0 := (hb.cell HW0.out).trans HB0.out
          rw [getD_get _ _ hlt] at hcell2 hx
          generalize xs[k] = X at hcell2 hx
          clear hcell
          go_wp2
          go_quiet (fail)
          go_wp2
          go_roundw
          case rel => exact ⟨k + 1, by omega, by go_num, below_drewN' hb _⟩
          case measure => simp [intOf]; omega
        · go_wp2
          go_ret
          exact ⟨rfl, HB3.out.trans (hb.mono HB3.out.size)⟩

set_option maxRecDepth 8000 in
set_option maxHeartbeats 1600000 in
theorem jrefuses_yes_near (a : Option Addr) (c : Nat) (xs : List Int) (n : Int) (B L : Int) (w : World) (h : Sees .u8 w a xs) (hr : ∀ x ∈ xs, 0 ≤ x ∧ x ≤ 255) (hn : -9223372036854775808 ≤ n ∧ n ≤ 9223372036854775807) (hB : 0 ≤ B ∧ B < 4294967296) (hL : 0 ≤ L ∧ L ≤ 255) (hbig : xs.length ≤ 1024) (N : Nat) (l : Nat) (hl : 12 + L % 8 = (l : Int)) (hl15 : l ≤ 15) (hM : 8 * (xs.length : Int) + n.tmod 16 = (N : Int)) (hx : xs.length = (N + 7) / 8) :
    Calls Ychm.prog 4 #[.slice a xs.length c, .int .i64 n, .bool true, .int .u32 B, .int .u8 L] w fun e w' => e = .returned (.bool true) ∧ Below w.heap.size w w' := by
  have hm := h.1
  have HS := hid h
  have HR := hid hr
  clear h hr
  have hbig' : (xs.length : Int) ≤ 1024 := by omega
  have ht := tmod16_bd n
  have hw : wrap64 (8 * (xs.length : Int) + n.tmod 16) = (N : Int) := by rw [← hM]; exact IntWalk.wrap64_in _ ⟨by omega, by omega⟩
  have hNb : (N : Int) ≤ 8 * (xs.length : Int) + 15 := by omega
  have HX := hid hx
  have hp1 : (N : Int) ≤ 8 * (xs.length : Int) := by omega
  have hp2 : 8 * (xs.length : Int) - (N : Int) < 8 := by omega
  have hN6 : N ≤ 1000000 := by omega
  clear hx
  go_enter Ychm.func4, Ychm.ntmps4
  go_wp2_with (first
    | (at_make; refine wpList_makeRow _ rfl _ _ 22 rfl 5 (.int .u8 0) 1 1 Ychm.underlying22 (by kernel_rfl) _ _ _ _ xs.length rfl rfl rfl rfl (by omega) (by unfold maxLen; omega) ?_; intro w1 hrow1 hg1; rw [made_int] at hrow1)
    | (refine wpList_copy_splice rfl _ _ 22 22 rfl 5 Ychm.underlying22 (by kernel_rfl) (some ⟨w.heap.size, 0, none⟩) a xs.length xs.length xs.length c rfl rfl w.heap.size 0 (ints .u8 (List.replicate xs.length 0)) 5 hrow1 (ints .u8 xs) (min_len xs) (fun h0 => ⟨rfl, src_cells (HS.out.below (below_of_grown hg1 (Nat.le_refl _) (by simp)) (Nat.le_refl _)) h0⟩) (by simp) (ints_mem_one _ _) w.heap.size w (below_of_grown hg1 (Nat.le_refl _) (by simp)) (Nat.le_refl _) ?_; intro w2 hrow2 hb2)
    | (go_at_call 11
       have HR2 : Hid (RowV w2 w.heap.size 5 (ints .u8 xs)) := by rw [splice_all _ _ (by simp)] at hrow2; exact hrow2
       refine (append_yes w.heap.size w2.heap.size (.slice (some ⟨w.heap.size, 0, none⟩) xs.length xs.length) xs N B l _ ⟨RowV.fresh w2 _ [.slice (some ⟨w.heap.size, 0, none⟩) xs.length xs.length, .int .i64 N] _ rfl, (OwnI.ofRow HR2.out (Nat.le_refl _) (by omega)).alloc _, by simp [Value.ownBlock]; have := HR2.out.lt; omega, HR.out, HX.out⟩ hB hl15 hN6 (by simp; have := HR2.out.lt; omega) w.heap.size (Nat.le_refl _) (by have := HR2.out.lt; omega)).mono ?_; rintro e w3 ⟨rfl, v', ds', hbv, hbits, hnil, hb3⟩
       have hs2 := HR2.out.lt
       have b1 := hbv.1.cell (i := 1) rfl
       have HB3 : Hid (Below w.heap.size w w3) := hid ((hb2.alloc hb2.size _).trans hb3)
       clear hb3 hb2 hrow1 hrow2 hg1 HR2 hbv hbits hnil))
  go_ret
  exact ⟨ret_bool (by simp), HB3.out⟩

theorem jrefuses_any (a : Option Addr) (c : Nat) (xs : List Int) (n : Int) (near : Bool) (B L : Int) (w : World) (h : Sees .u8 w a xs) (hr : ∀ x ∈ xs, 0 ≤ x ∧ x ≤ 255) (hn : -9223372036854775808 ≤ n ∧ n ≤ 9223372036854775807) (hB : 0 ≤ B ∧ B < 4294967296) (hL : 0 ≤ L ∧ L ≤ 255) :
    Calls Ychm.prog 4 #[.slice a xs.length c, .int .i64 n, .bool near, .int .u32 B, .int .u8 L] w fun e w' => e = .returned (.bool true) ∧ Below w.heap.size w w' := by
  by_cases hbig : 1024 < xs.length
  · have hm := h.1
    have hbig' : (1024 : Int) < (xs.length : Int) := by omega
    clear h hr
    go_enter Ychm.func4, Ychm.ntmps4
    go_wp2
    go_ret
    exact ⟨rfl, Below.refl _ _⟩
  · have hb : xs.length ≤ 1024 := by omega
    cases near with
    | true =>
      have ht := tmod16_bd n
      by_cases hl : 15 < 12 + L % 8
      · exact jrefuses_long_near a c xs n B L w h hr hn hB hL hb hl
      · by_cases hM : 8 * (xs.length : Int) + n.tmod 16 < 0
        · exact jrefuses_neg_near a c xs n B L w h hr hn hB hL hb (by omega) hM
        · obtain ⟨N, hN⟩ : ∃ N : Nat, 8 * (xs.length : Int) + n.tmod 16 = (N : Int) := ⟨(8 * (xs.length : Int) + n.tmod 16).toNat, by omega⟩
          obtain ⟨l, hl'⟩ : ∃ l : Nat, 12 + L % 8 = (l : Int) := ⟨(12 + L % 8).toNat, by omega⟩
          by_cases hx : xs.length = (N + 7) / 8
          · exact jrefuses_yes_near a c xs n B L w h hr hn hB hL hb N l hl' (by omega) hN hx
          · exact jrefuses_odd_near a c xs n B L w h hr hn hB hL hb N l hl' (by omega) hN hx
    | false =>
      by_cases hl : 15 < L
      · exact jrefuses_long_far a c xs n B L w h hr hn hB hL hb hl
      · by_cases hM : n < 0
        · exact jrefuses_neg_far a c xs n B L w h hr hn hB hL hb (by omega) hM
        · obtain ⟨N, rfl⟩ : ∃ N : Nat, n = (N : Int) := ⟨n.toNat, by omega⟩
          obtain ⟨l, rfl⟩ : ∃ l : Nat, L = (l : Int) := ⟨L.toNat, by omega⟩
          by_cases hx : xs.length = (N + 7) / 8
          · exact jrefuses_yes_far a c xs N B l w h hr hn hB hL hb N l (by omega) (by omega) hx
          · exact jrefuses_odd_far a c xs N B l w h hr hn hB hL hb N l (by omega) (by omega) hx
end Go.Proofs.Ymbrch
