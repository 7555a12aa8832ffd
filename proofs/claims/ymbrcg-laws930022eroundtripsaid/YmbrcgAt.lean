/- (huff.Bits).At, walked; single bits of bytes. -/
import Derived.Test.YmbrcgRows
import Derived.Test.YmbrcgBase
namespace Go.Proofs.Ymbrcg
open Go.RowKit
set_option linter.unusedVariables false
set_option linter.unusedSimpArgs false

theorem and1_u8 (x : Int) (h0 : 0 ≤ x) (h1 : x < 256) : bits .and .u8 x 1 = x % 2 := by
  rw [u8_and x 1 h0 h1 (by omega) (by omega), show (1 : Int).toNat = 1 from rfl, Nat.and_one_is_mod]; omega
theorem and1_u32 (x : Int) (h0 : 0 ≤ x) (h1 : x < 4294967296) : bits .and .u32 x 1 = x % 2 := by
  rw [u32_and x 1 h0 h1 (by omega) (by omega), show (1 : Int).toNat = 1 from rfl, Nat.and_one_is_mod]; omega
theorem pow_pos' (m : Nat) : (0 : Int) < 2 ^ m := Int.pow_pos (by decide)
theorem div_pow_bd (x : Int) (m : Nat) (h0 : 0 ≤ x) : 0 ≤ x / 2 ^ m ∧ x / 2 ^ m ≤ x :=
  ⟨Int.ediv_nonneg h0 (Int.le_of_lt (pow_pos' m)), Int.ediv_le_self _ h0⟩
/-- Bit j of a row of bytes, the first of each byte most significant. -/
def bitD (ds : List Int) (j : Nat) : Bool := (ds[j / 8]?.getD 0 / 2 ^ (7 - j % 8)) % 2 == 1
def atV (ds : List Int) (N i : Int) : Bool × Bool := if 0 ≤ i ∧ i < N ∧ i / 8 < (ds.length : Int) then (bitD ds i.toNat, true) else (false, false)
theorem ret_bb {p q r s : Bool} (h : p = r) (h' : q = s) : Ending.returned (.tuple #[.bool p, .bool q]) = .returned (.tuple #[.bool r, .bool s]) := by rw [h, h']

set_option maxHeartbeats 400000 in
theorem at_any (a : Option Addr) (n c : Nat) (ds : List Int) (N i : Int) (w : World) (hn : n = ds.length) (h : Sees .u8 w a ds) (hr : ∀ x ∈ ds, 0 ≤ x ∧ x ≤ 255) (hi : i ≤ 9223372036854775807) :
    Calls Ycgm.prog 19 #[.agg #[.slice a n c, .int .i64 N], .int .i64 i] w fun e w' => e = .returned (.tuple #[.bool (atV ds N i).1, .bool (atV ds N i).2]) ∧ Below w.heap.size w w' := by
  subst hn
  obtain ⟨hm, hc⟩ := h
  by_cases h0 : i < 0
  · have HV : Hid (atV ds N i = (false, false)) := by refine hid ?_; rw [atV, if_neg (by omega)]
    generalize atV ds N i = V at HV
    clear hc hr
    go_enter Ycgm.func19, Ycgm.ntmps19
    go_wp2
    go_ret2
    exact ⟨ret_bb (by rw [HV.out]) (by rw [HV.out]), (Below.refl _ _).alloc (Nat.le_refl _) _⟩
  · obtain ⟨j, rfl⟩ := Int.eq_ofNat_of_zero_le (show 0 ≤ i by omega)
    by_cases h1 : N ≤ (j : Int)
    · have HV : Hid (atV ds N j = (false, false)) := by refine hid ?_; rw [atV, if_neg (by omega)]
      generalize atV ds N j = V at HV
      clear hc hr
      go_enter Ycgm.func19, Ycgm.ntmps19
      go_wp2
      go_ret2
      exact ⟨ret_bb (by rw [HV.out]) (by rw [HV.out]), (Below.refl _ _).alloc (Nat.le_refl _) _⟩
    · by_cases h2 : (ds.length : Int) ≤ (j : Int) / 8
      · have HV : Hid (atV ds N j = (false, false)) := by refine hid ?_; rw [atV, if_neg (by omega)]
        generalize atV ds N j = V at HV
        clear hc hr
        go_enter Ycgm.func19, Ycgm.ntmps19
        go_wp2
        go_ret2
        exact ⟨ret_bb (by rw [HV.out]) (by rw [HV.out]), (Below.refl _ _).alloc (Nat.le_refl _) _⟩
      · have hj : j / 8 < ds.length := by omega
        obtain ⟨b, off, rfl, hbs, hcell⟩ := hc (j / 8) hj
        have hx := hr _ (List.getElem_mem hj)
        clear hc hr
        have hcell2 : (w.alloc (.cells #[.slice (some ⟨b, off, none⟩) ds.length c, .int .i64 N] 41)).cell? ⟨b, off + j / 8, none⟩ = some (.int .u8 (ds[j / 8]?.getD 0)) := by
          rw [World.cell?_alloc_past _ _ _ (show b < w.heap.size from hbs)]; exact hcell
        have hbb := div_pow_bd ds[j / 8] (7 - j % 8) hx.1
        have hA := and1_u8 (ds[j / 8] / 2 ^ (7 - j % 8)) hbb.1 (by omega)
        have HV : Hid (atV ds N j = ((ds[j / 8] / 2 ^ (7 - j % 8)) % 2 == 1, true)) := by
          refine hid ?_
          rw [atV, if_pos (by omega), bitD, Int.toNat_natCast, getD_get _ _ hj]
        generalize atV ds N j = V at HV
        go_enter Ycgm.func19, Ycgm.ntmps19
        go_wp2
        go_ret2
        exact ⟨ret_bb (by rw [HV.out]) (by rw [HV.out]), (Below.refl _ _).alloc (Nat.le_refl _) _⟩
theorem at_n (a : Option Addr) (n c : Nat) (ds : List Int) (N i : Int) (w : World) (hn : n = ds.length) (h : Sees .u8 w a ds) (hr : ∀ x ∈ ds, 0 ≤ x ∧ x ≤ 255) (hi : i ≤ 9223372036854775807) (p q : Bool) (hv : atV ds N i = (p, q)) :
    Calls Ycgm.prog 19 #[.agg #[.slice a n c, .int .i64 N], .int .i64 i] w fun e w' => e = .returned (.tuple #[.bool p, .bool q]) ∧ Below w.heap.size w w' := by
  have := at_any a n c ds N i w hn h hr hi
  rw [hv] at this
  exact this
end Go.Proofs.Ymbrcg
