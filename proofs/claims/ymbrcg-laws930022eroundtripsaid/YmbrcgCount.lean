/- huff.CountLengths, walked. -/
import Derived.Test.YmbrcgRows
import Derived.Test.YmbrcgBase
namespace Go.Proofs.Ymbrcg
open Go.RowKit
set_option linter.unusedVariables false
set_option linter.unusedSimpArgs false

def bump (cs : List Int) (x : Int) : List Int := if x ≤ 15 then cs.set x.toNat (cs[x.toNat]?.getD 0 + 1) else cs
def cntFrom : List Int → List Int → List Int
  | cs, [] => cs
  | cs, x :: xs => cntFrom (bump cs x) xs
def cnt0 : List Int := List.replicate 16 0
theorem bump_length (cs : List Int) (x : Int) : (bump cs x).length = cs.length := by unfold bump; split <;> simp
theorem cntFrom_length (xs : List Int) : ∀ cs, (cntFrom cs xs).length = cs.length := by
  induction xs with
  | nil => intro cs; rfl
  | cons x xs ih => intro cs; rw [cntFrom, ih, bump_length]
theorem cntFrom_drop (cs xs : List Int) (k : Nat) (h : k < xs.length) : cntFrom cs (xs.drop k) = cntFrom (bump cs xs[k]) (xs.drop (k + 1)) := by
  rw [List.drop_eq_getElem_cons h, cntFrom]
theorem bump_bound (cs : List Int) (x : Int) (k : Nat) (hx : 0 ≤ x) (h : ∀ j, j < 16 → 0 ≤ cs[j]?.getD 0 ∧ cs[j]?.getD 0 ≤ (k : Int)) (hl : cs.length = 16) : ∀ j, j < 16 → 0 ≤ (bump cs x)[j]?.getD 0 ∧ (bump cs x)[j]?.getD 0 ≤ ((k + 1 : Nat) : Int) := by
  intro j hj
  have := h j hj
  unfold bump
  split
  · by_cases e : x.toNat = j
    · subst e; rw [List.getElem?_set_self (by omega)]; simp; omega
    · rw [List.getElem?_set_ne e]; omega
  · omega

set_option maxHeartbeats 400000 in
theorem count_any (a : Option Addr) (c : Nat) (xs : List Int) (w : World) (h : Sees .u8 w a xs) (hr : ∀ x ∈ xs, 0 ≤ x ∧ x ≤ 255) :
    Calls Ycgm.prog 28 #[.slice a xs.length c] w fun e w' => e = .returned (.agg (ints .i64 (cntFrom cnt0 xs)).toArray) ∧ Below w.heap.size w w' := by
  obtain ⟨hm, hc⟩ := h
  go_enter Ycgm.func28, Ycgm.ntmps28
  go_wp2
  go_loopw [8] (fun i wr => ∃ (k : Nat) (cs : List Int), k ≤ xs.length ∧ i = .int .i64 k ∧ cs.length = 16 ∧ cntFrom cs (xs.drop k) = cntFrom cnt0 xs ∧ RowV wr (w.heap.size + 1) 27 (ints .i64 cs) ∧ RowV wr (w.heap.size) 27 (ints .i64 cnt0) ∧ Below w.heap.size w wr ∧ ∀ j, j < 16 → 0 ≤ cs[j]?.getD 0 ∧ cs[j]?.getD 0 ≤ (k : Int)) (fun i _ => xs.length - (intOf i).toNat)
  case atStart =>
    refine ⟨0, cnt0, Nat.zero_le _, rfl, rfl, rfl, ?_, ?_, ?_, ?_⟩
    · exact RowV.fresh _ _ (ints .i64 cnt0) _ (by simp)
    · exact (RowV.fresh w _ (ints .i64 cnt0) _ rfl).alloc _
    · exact ((Below.refl _ _).alloc (Nat.le_refl _) _).alloc (by simp) _
    · intro j hj
      rw [cnt0, List.getElem?_replicate_of_lt hj]; simp
  case round =>
    obtain ⟨k, cs, hk, rfl, hcs, hcnt, hrow, hrow0, hb, hbd⟩ := hrel
    by_cases hlt : k < xs.length
    · obtain ⟨b, off, rfl, hbs, hcell⟩ := hc k hlt
      have hx := hr _ (List.getElem_mem hlt)
      have hcell2 : wr.cell? ⟨b, off + k, none⟩ = some (.int .u8 (xs[k]?.getD 0)) := (hb.cell hbs).trans hcell
      have hcc : xs[k] ≤ 15 → wr.cell? ⟨w.heap.size + 1, xs[k].toNat, none⟩ = some (.int .i64 (cs[xs[k].toNat]?.getD 0)) := fun h15 => hrow.int (by omega)
      have hfz := hrow.frozen xs[k].toNat
      have hbb : xs[k] ≤ 15 → 0 ≤ cs[xs[k].toNat]?.getD 0 ∧ cs[xs[k].toNat]?.getD 0 ≤ (k : Int) := fun h15 => hbd _ (by omega)
      have HB : Hid (∀ j, j < 16 → 0 ≤ (bump cs xs[k])[j]?.getD 0 ∧ (bump cs xs[k])[j]?.getD 0 ≤ ((k + 1 : Nat) : Int)) := bump_bound cs xs[k] k hx.1 hbd hcs
      have HC : Hid (cntFrom cs (xs.drop k) = cntFrom cnt0 xs) := hcnt
      have HL : Hid (cs.length = 16) := hcs
      clear hc hr hcnt hbd hcs hcell
      by_cases h15 : xs[k] ≤ 15
      · have e : bump cs xs[k] = cs.set xs[k].toNat (cs[xs[k].toNat]?.getD 0 + 1) := by unfold bump; rw [if_pos h15]
        have E := (show Hid _ from e); clear e
        have hcc' := hcc h15
        have hbb' := hbb h15
        clear hcc hbb
        go_wp2
        go_roundw
        case rel =>
          refine ⟨k + 1, bump cs xs[k], by omega, by go_num, by rw [bump_length]; exact HL, by rw [← cntFrom_drop _ _ _ hlt]; exact HC.out, ?_, hrow0.other _ _ (by simp), hb.setCell (by simp) _, HB.out⟩
          rw [E.out]
          exact hrow.setInt _ _
        case measure => simp [intOf]; omega
      · have e : bump cs xs[k] = cs := by unfold bump; rw [if_neg h15]
        have E := (show Hid _ from e); clear e
        clear hcc hbb
        go_wp2
        go_roundw
        case rel =>
          exact ⟨k + 1, bump cs xs[k], by omega, by go_num, by rw [bump_length]; exact HL, by rw [← cntFrom_drop _ _ _ hlt]; exact HC.out, by rw [E.out]; exact hrow, hrow0, hb, HB.out⟩
        case measure => simp [intOf]; omega
    · have HC : Hid (cs = cntFrom cnt0 xs) := by
        rw [List.drop_of_length_le (by omega)] at hcnt
        exact hcnt
      have HL : Hid (cs.length = 16) := hcs
      clear hc hr hcnt hbd hcs
      go_wp2_with (first
        | refine wpList_loadRow rfl 27 _ rfl _ rfl _ _ _ hrow Ycgm.underlying27 rfl (by simp only [List.length_map, HL.out]; kernel_rfl) ?_
        | (refine wpList_storeRow rfl 27 _ _ rfl _ _ rfl rfl _ _ hrow0 (by simp only [List.length_map, HL.out]; kernel_rfl) (by simp [HL.out, cnt0]) (ints_one _ _) ?_; intro w1 hr1 hg1))
      refine ret_row (by exact Ycgm.results28) _ _ _ _ rfl hr1 Ycgm.underlying27 rfl (by simp only [List.length_map, HL.out]; kernel_rfl) rfl ⟨?_, hb.grown hg1 hb.size (by intro k h; cases h; exact Nat.le_refl _)⟩
      rw [HC.out]
end Go.Proofs.Ymbrcg
