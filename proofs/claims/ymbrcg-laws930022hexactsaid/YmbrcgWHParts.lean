/- huff.zzs930022hcodes, hsymbols, hholds, walked. -/
import Derived.Test.YmbrcgEncode
import Derived.Test.YmbrcgOwnB
import Derived.Deep.DeepCutAuto
namespace Go.Proofs.Ymbrcg
open Go.RowKit
set_option linter.unusedVariables false
set_option linter.unusedSimpArgs false
def RangeC (cds : List (Int × Int)) : Prop := ∀ c ∈ cds, (0 ≤ c.1 ∧ c.1 < 4294967296) ∧ 0 ≤ c.2 ∧ c.2 ≤ 255
theorem RangeC.set {cds : List (Int × Int)} (h : RangeC cds) (k : Nat) (c : Int × Int) (hc : (0 ≤ c.1 ∧ c.1 < 4294967296) ∧ 0 ≤ c.2 ∧ c.2 ≤ 255) : RangeC (cds.set k c) := by
  intro x hx
  rcases List.mem_or_eq_of_mem_set hx with h' | h'
  · exact h x h'
  · rw [h']; exact hc
theorem RangeC.zeros (n : Nat) : RangeC (List.replicate n (0, 0)) := by
  intro x hx
  rw [(List.mem_replicate.1 hx).2]; simp
set_option maxHeartbeats 1600000 in
theorem hcodes_any (ab : Option Addr) (cb : Nat) (bs : List Int) (a : Option Addr) (c : Nat) (xs : List Int) (tame : Bool) (w : World) (hb0 : Sees .u32 w ab bs) (hbr : ∀ x ∈ bs, 0 ≤ x ∧ x < 4294967296) (h : Sees .u8 w a xs) (hr : ∀ x ∈ xs, 0 ≤ x ∧ x ≤ 255) (h4 : xs.length ≤ 100000) :
    Calls Ycgm.prog 21 #[.slice ab bs.length cb, .slice a xs.length c, .bool tame] w fun e w' => ∃ g cds, e = .returned (.slice (some ⟨g, 0, none⟩) xs.length xs.length) ∧ w.heap.size ≤ g ∧ cds.length = xs.length ∧ RangeC cds ∧ RowV w' g 36 (flat cds) ∧ Below w.heap.size w w' := by
  have hm := hb0.1
  have HB := hid hb0
  have HBR := hid hbr
  have HS := hid h
  have HR := hid hr
  clear hb0 hbr h hr
  go_enter Ycgm.func21, Ycgm.ntmps21
  go_wp2_with (at_make; refine wpList_makeRow _ rfl _ _ 26 rfl 36 (.agg #[.int .u32 0, .int .u8 0]) 2 8 Ycgm.underlying26 (by kernel_rfl) _ _ _ _ xs.length rfl rfl rfl rfl (by omega) (by unfold maxLen; omega) ?_; intro w1 hrow1 hg1; rw [flat_rep] at hrow1)
  have hb1 : Below w.heap.size w w1 := below_of_grown hg1 (Nat.le_refl _) (by simp)
  clear hg1
  go_loopw [17] (fun i wr => ∃ (k : Nat) (cds : List (Int × Int)), k ≤ xs.length ∧ i = .int .i64 k ∧ cds.length = xs.length ∧ Hid (RangeC cds) ∧ RowV wr w.heap.size 36 (flat cds) ∧ Below w.heap.size w wr) (fun i _ => xs.length - (intOf i).toNat)
  case atStart => exact ⟨0, _, Nat.zero_le _, rfl, by simp, hid (RangeC.zeros _), hrow1, hb1⟩
  case round =>
    obtain ⟨k, cds, hk, rfl, hcl, HRC, hrow, hb⟩ := hrel
    by_cases hlt : k < xs.length
    · have hlt' : (k : Int) < (xs.length : Int) := by omega
      obtain ⟨b, off, rfl, hbs, hcell⟩ := HS.out.2 k hlt
      have hx := HR.out _ (List.getElem_mem hlt)
      replace hcell := (hb.cell hbs).trans hcell
      rw [getD_get _ _ hlt] at hcell
      generalize xs[k] = X at hcell hx
      have hkc : k < cds.length := by omega
      have o0 := hrow.cell (flat_get0 cds k hkc)
      have o1 := hrow.cell (flat_get1 cds k hkc)
      have f0 := hrow.frozen (k * 2)
      have f1 := hrow.frozen (k * 2 + 1)
      generalize cds[k] = old at o0 o1
      go_upto_if 23 with fail
      go_cut [10] (fun s10 wx => ∃ L : Int, (0 ≤ L ∧ L ≤ 255) ∧ s10 = .int .u8 L ∧ wx = wr)
      case first =>
        cases tame
        · go_wp2_with fail
          go_meet
          exact ⟨X, hx, rfl, rfl⟩
        · go_wp2_with fail
          go_meet
          refine ⟨1 + X % 17, by omega, ?_, rfl⟩
          go_num
      case rest =>
      obtain ⟨L, hL, rfl, hwc⟩ := hcut
      replace hwc := hwc.symm
      subst hwc
      go_upto_if 32 with fail
      go_cut [11] (fun s11 wx => ∃ B : Int, (0 ≤ B ∧ B < 4294967296) ∧ s11 = .int .u32 B ∧ wx = wr)
      case first =>
        by_cases hbl : k < bs.length
        · have hbl' : (k : Int) < (bs.length : Int) := by omega
          obtain ⟨b2, off2, rfl, hbs2, hcell2⟩ := HB.out.2 k hbl
          have hx2 := HBR.out _ (List.getElem_mem hbl)
          replace hcell2 := (hb.cell hbs2).trans hcell2
          rw [getD_get _ _ hbl] at hcell2
          generalize bs[k] = Y at hcell2 hx2
          go_wp2_with fail
          go_meet
          exact ⟨Y, hx2, rfl, rfl⟩
        · have hbl' : ¬ (k : Int) < (bs.length : Int) := by omega
          go_wp2_with fail
          go_meet
          refine ⟨(k : Int), by omega, ?_, rfl⟩
          go_num
      case rest =>
      obtain ⟨B, hB, rfl, hwc⟩ := hcut
      replace hwc := hwc.symm
      subst hwc
      have HRC2 := hid (HRC.out.set k (B, L) ⟨hB, hL⟩)
      have HROW2 : Hid (RowV ((wr.setCell ⟨w.heap.size, k * 2, none⟩ (.int .u32 B)).setCell ⟨w.heap.size, k * 2 + 1, none⟩ (.int .u8 L)) w.heap.size 36 (flat (cds.set k (B, L)))) := hid (by rw [← flat_set cds k (B, L) hkc]; exact (hrow.set _ _).set _ _)
      go_wp2
      go_roundw
      case rel => exact ⟨k + 1, cds.set k (B, L), by omega, by go_num, by rw [List.length_set]; exact hcl, HRC2, HROW2.out, (hb.setCell (Nat.le_refl _) _).setCell (Nat.le_refl _) _⟩
      case measure => simp [intOf]; omega
    · have hlt' : ¬ (k : Int) < (xs.length : Int) := by omega
      go_wp2
      go_ret
      first
        | exact ⟨_, cds, rfl, Nat.le_refl _, hcl, HRC.out, hrow, hb⟩
        | exact ⟨_, rfl, Nat.le_refl _, cds, hcl, HRC.out, hrow, hb⟩
set_option maxHeartbeats 1600000 in
theorem hsymbols_any (a : Option Addr) (c : Nat) (xs : List Int) (n : Nat) (tame : Bool) (w : World) (h : Sees .i64 w a xs) (hr : ∀ x ∈ xs, -9223372036854775808 ≤ x ∧ x ≤ 9223372036854775807) (h4 : xs.length ≤ 100000) (hn : n ≤ 100000) :
    Calls Ycgm.prog 22 #[.slice a xs.length c, .int .i64 n, .bool tame] w fun e w' => ∃ g ss, e = .returned (.slice (some ⟨g, 0, none⟩) xs.length xs.length) ∧ w.heap.size ≤ g ∧ ss.length = xs.length ∧ (∀ x ∈ ss, -9223372036854775808 ≤ x ∧ x ≤ 9223372036854775807) ∧ RowV w' g 3 (ints .i64 ss) ∧ Below w.heap.size w w' := by
  have HS := hid h
  have HR := hid hr
  clear h hr
  go_enter Ycgm.func22, Ycgm.ntmps22
  go_wp2_with (at_make; refine wpList_makeRow _ rfl _ _ 25 rfl 3 (.int .i64 0) 1 8 Ycgm.underlying25 (by kernel_rfl) _ _ _ _ xs.length rfl rfl rfl rfl (by omega) (by unfold maxLen; omega) ?_; intro w1 hrow1 hg1; rw [made_int] at hrow1)
  have hb1 : Below w.heap.size w w1 := below_of_grown hg1 (Nat.le_refl _) (by simp)
  clear hg1
  go_loopw [16] (fun i wr => ∃ (k : Nat) (ss : List Int), k ≤ xs.length ∧ i = .int .i64 k ∧ ss.length = xs.length ∧ Hid (∀ x ∈ ss, -9223372036854775808 ≤ x ∧ x ≤ 9223372036854775807) ∧ RowV wr w.heap.size 3 (ints .i64 ss) ∧ Below w.heap.size w wr) (fun i _ => xs.length - (intOf i).toNat)
  case atStart => exact ⟨0, _, Nat.zero_le _, rfl, by simp, hid (fun x hx => by rw [(List.mem_replicate.1 hx).2]; omega), hrow1, hb1⟩
  case round =>
    obtain ⟨k, ss, hk, rfl, hsl, HRS, hrow, hb⟩ := hrel
    by_cases hlt : k < xs.length
    · have hlt' : (k : Int) < (xs.length : Int) := by omega
      obtain ⟨b, off, rfl, hbs, hcell⟩ := HS.out.2 k hlt
      have hx := HR.out _ (List.getElem_mem hlt)
      replace hcell := (hb.cell hbs).trans hcell
      rw [getD_get _ _ hlt] at hcell
      generalize xs[k] = X at hcell hx
      have hkc : k < ss.length := by omega
      have o0 := hrow.int hkc
      have f0 := hrow.frozen k
      generalize ss[k]?.getD 0 = old at o0
      go_upto_region 6 with fail
      go_cut [26] (fun s26 wx => s26 = .bool (tame && decide (0 < (n : Int))) ∧ wx = wr)
      case first =>
        cases tame
        · go_wp2_with fail
          go_meet
          exact ⟨by simp, rfl⟩
        · by_cases hn0 : 0 < (n : Int)
          · go_wp2_with fail
            go_meet
            exact ⟨by simp [hn0], rfl⟩
          · go_wp2_with fail
            go_meet
            exact ⟨by simp [hn0], rfl⟩
      case rest =>
      obtain ⟨rfl, hwc⟩ := hcut
      replace hwc := hwc.symm
      subst hwc
      go_upto_if 26 with fail
      go_cut [10] (fun s10 wx => ∃ s : Int, (-9223372036854775808 ≤ s ∧ s ≤ 9223372036854775807) ∧ s10 = .int .i64 s ∧ wx = wr)
      case first =>
        by_cases hq : (tame && decide (0 < (n : Int))) = true
        · have hn0 : 0 < (n : Int) := by
            rw [Bool.and_eq_true] at hq; simpa using hq.2
          rw [hq]
          go_wp2_with fail
          go_meet
          refine ⟨_, ?_, rfl, rfl⟩
          generalize (IntKind.u64.wrap X).tmod (n : Int) = TT
          unfold wrap64
          omega
        · have hq' : (tame && decide (0 < (n : Int))) = false := by simpa using hq
          rw [hq']
          go_wp2_with fail
          go_meet
          exact ⟨X, hx, rfl, rfl⟩
      case rest =>
      obtain ⟨s, hs, rfl, hwc⟩ := hcut
      replace hwc := hwc.symm
      subst hwc
      have HRS2 : Hid (∀ x ∈ ss.set k s, -9223372036854775808 ≤ x ∧ x ≤ 9223372036854775807) := hid (fun x hx => by
        rcases List.mem_or_eq_of_mem_set hx with h' | h'
        · exact HRS.out x h'
        · rw [h']; exact hs)
      go_wp2
      go_roundw
      case rel => exact ⟨k + 1, ss.set k s, by omega, by go_num, by rw [List.length_set]; exact hsl, HRS2, hrow.setInt k s, hb.setCell (Nat.le_refl _) _⟩
      case measure => simp [intOf]; omega
    · have hlt' : ¬ (k : Int) < (xs.length : Int) := by omega
      go_wp2
      go_ret
      first
        | exact ⟨_, ss, rfl, Nat.le_refl _, hsl, HRS.out, hrow, hb⟩
        | exact ⟨_, rfl, Nat.le_refl _, ss, hsl, HRS.out, hrow, hb⟩
set_option maxHeartbeats 1600000 in
theorem hholds_yes (a : Option Addr) (n c : Nat) (ds : List Int) (N : Int) (aq : Option Addr) (nq cq : Nat) (bs : List Bool) (w : World) (hn : n = ds.length) (hs : Sees .u8 w a ds) (hr : ∀ x ∈ ds, 0 ≤ x ∧ x ≤ 255) (hnq : nq = bs.length) (hq : SeesQ w aq bs) (hN : N = (bs.length : Nat)) (hh : Holds ds bs) (hl : bs.length ≤ 100000) :
    Calls Ycgm.prog 24 #[.agg #[.slice a n c, .int .i64 N], .slice aq nq cq] w fun e w' => e = .returned (.bool true) ∧ Below w.heap.size w w' := by
  subst hn
  subst hnq
  subst hN
  have HS := hid hs
  have HR := hid hr
  have HQ := hid hq
  have HH := hid hh.2
  have hdl := hh.1
  have hdl' : ((ds.length : Int) != ((bs.length : Int) + 7) / 8) = false := by rw [bne_eq_false_iff_eq]; omega
  have hd1 : ds.length ≤ 100000 := by omega
  have hd2 : bs.length ≤ 8 * ds.length := by omega
  clear hs hr hq hh hdl
  go_enter Ycgm.func24, Ycgm.ntmps24
  go_wp2
  go_loopw [5] (fun j wr => ∃ (p : Nat), p ≤ 8 * ds.length ∧ j = .int .i64 p ∧ RowV wr w.heap.size 41 [.slice a ds.length c, .int .i64 ((bs.length : Nat) : Int)] ∧ Below w.heap.size w wr) (fun j _ => 8 * ds.length - (intOf j).toNat)
  case atStart => exact ⟨0, Nat.zero_le _, rfl, RowV.fresh w _ [.slice a ds.length c, .int .i64 ((bs.length : Nat) : Int)] _ rfl, (Below.refl _ _).alloc (Nat.le_refl _) _⟩
  case round =>
    obtain ⟨p, hp, rfl, hrow, hb⟩ := hrel
    have q0 := hrow.cell (i := 0) rfl
    by_cases hpl : p < 8 * ds.length
    · have hpl' : (p : Int) < 8 * (ds.length : Int) := by omega
      have hj : p / 8 < ds.length := by omega
      obtain ⟨b, off, rfl, hbs, hcell⟩ := HS.out.2 _ hj
      replace hcell := (hb.cell hbs).trans hcell
      rw [getD_get _ _ hj] at hcell
      have hx8 := HR.out _ (List.getElem_mem hj)
      have hbit := HH.out p
      rw [bitD, getD_get _ _ hj] at hbit
      generalize ds[p / 8] = X at hcell hx8 hbit
      obtain ⟨r, hr'⟩ : ∃ r, 7 - p % 8 = r := ⟨_, rfl⟩
      have hsub : 7 - (p : Int) % 8 = (r : Int) := by omega
      rw [hr'] at hbit
      have hdb := div_pow_bd X r hx8.1
      have hA := and1_u8 (X / 2 ^ r) hdb.1 (by omega)
      clear hr'
      by_cases hin : p < bs.length
      · have hin' : (p : Int) < (bs.length : Int) := by omega
        obtain ⟨b2, rfl, hbs2, hcell2⟩ := HQ.out p hin
        replace hcell2 := (hb.cell hbs2).trans hcell2
        generalize bs[p]?.getD false = Y at hbit hcell2
        cases Y
        · go_wp2
          go_roundw
          case rel => exact ⟨p + 1, by omega, by go_num, hrow, hb⟩
          case measure => simp [intOf]; omega
        · go_wp2
          go_roundw
          case rel => exact ⟨p + 1, by omega, by go_num, hrow, hb⟩
          case measure => simp [intOf]; omega
      · have hin' : ¬ (p : Int) < (bs.length : Int) := by omega
        rw [List.getElem?_eq_none (by omega), Option.getD_none] at hbit
        go_wp2
        go_roundw
        case rel => exact ⟨p + 1, by omega, by go_num, hrow, hb⟩
        case measure => simp [intOf]; omega
    · have hpl' : ¬ (p : Int) < 8 * (ds.length : Int) := by omega
      go_wp2
      go_ret
      exact ⟨rfl, hb⟩
end Go.Proofs.Ymbrcg
