/- huff.LawS930022ASpells, walked. -/
import Derived.Test.YmbrcfWAExact
import Derived.Test.YmbrcfOpens
namespace Go.Proofs.Ymbrcf
open Go.RowKit
set_option linter.unusedVariables false
set_option linter.unusedSimpArgs false

def b2i (b : Bool) : Int := if b then 1 else 0
theorem b2i_bd (b : Bool) : 0 ≤ b2i b ∧ b2i b ≤ 1 := by cases b <;> decide
/-- The number that the first k bits spell. -/
def vbTo (bs : List Bool) : Nat → Int
  | 0 => 0
  | k + 1 => vbTo bs k * 2 + b2i (bs[k]?.getD false)
theorem vbTo_bd (bs : List Bool) : ∀ k, 0 ≤ vbTo bs k ∧ vbTo bs k < 2 ^ k
  | 0 => by simp [vbTo]
  | k + 1 => by
    have := vbTo_bd bs k
    have := b2i_bd (bs[k]?.getD false)
    rw [vbTo, Int.pow_succ]
    omega
theorem vbTo_bit (bs : List Bool) : ∀ k i, i < k → vbTo bs k / 2 ^ (k - 1 - i) % 2 = b2i (bs[i]?.getD false)
  | 0, i, h => by omega
  | k + 1, i, h => by
    have hb := b2i_bd (bs[k]?.getD false)
    rw [vbTo]
    by_cases e : i = k
    · subst e
      rw [show i + 1 - 1 - i = 0 from by omega]
      simp only [Int.pow_zero, Int.ediv_one]
      omega
    · rw [show k + 1 - 1 - i = (k - 1 - i) + 1 from by omega, Int.pow_succ, Int.mul_comm (2 ^ (k - 1 - i)) 2, ← Int.ediv_ediv_of_nonneg (show (0 : Int) ≤ 2 by decide),
        show (vbTo bs k * 2 + b2i (bs[k]?.getD false)) / 2 = vbTo bs k from by omega]
      exact vbTo_bit bs k i (by omega)

set_option maxHeartbeats 1000000 in
theorem aspells_any (a : Option Addr) (c : Nat) (bs : List Bool) (w : World) (h : SeesB w a bs) :
    Calls Ycfm.prog 4 #[.slice a bs.length c] w fun e w' => e = .returned (.bool true) ∧ Below w.heap.size w w' := by
  obtain ⟨hm, hc⟩ := h
  have HC := hid hc
  clear hc
  by_cases h15 : 15 < bs.length
  · have h15' : (15 : Int) < (bs.length : Int) := by omega
    go_enter Ycfm.func4, Ycfm.ntmps4
    go_wp2
    go_loopw [5] (fun i wr => ∃ (k : Nat), k ≤ 15 ∧ i = .int .i64 k ∧ RowV wr w.heap.size 26 [.int .u32 (vbTo bs k), .int .u8 k] ∧ Below w.heap.size w wr) (fun i _ => 15 - (intOf i).toNat)
    case atStart => exact ⟨0, Nat.zero_le _, rfl, RowV.fresh w _ [.int .u32 0, .int .u8 0] _ rfl, (Below.refl _ _).alloc (Nat.le_refl _) _⟩
    case round =>
      obtain ⟨k, hk, rfl, hrow, hb⟩ := hrel
      have c0 : wr.cell? ⟨w.heap.size, 0, none⟩ = some (.int .u32 (vbTo bs k)) := hrow.cell rfl
      have c1 : wr.cell? ⟨w.heap.size, 1, none⟩ = some (.int .u8 k) := hrow.cell rfl
      have f0 := hrow.frozen 0
      have f1 := hrow.frozen 1
      have hvb := vbTo_bd bs k
      have hpl := pow2_le k (by omega)
      by_cases hlt : k < 15
      · have hlt' : (k : Int) < 15 := by omega
        obtain ⟨b, off, rfl, hbs, hcell⟩ := HC.out k (by omega)
        have hcell2 : wr.cell? ⟨b, off + k, none⟩ = some (.bool (bs[k]?.getD false)) := (hb.cell hbs).trans hcell
        have HV : Hid (vbTo bs (k + 1) = vbTo bs k * 2 + b2i (bs[k]?.getD false)) := hid rfl
        generalize bs[k]?.getD false = q at hcell2 HV
        generalize vbTo bs k = v at HV c0 hvb hrow
        clear hcell
        cases q with
        | false =>
          go_wp2
          go_roundw
          case rel =>
            refine ⟨k + 1, by omega, by go_num, ?_, (hb.setCell (Nat.le_refl _) _).setCell (Nat.le_refl _) _⟩
            rw [HV.out, show v * 2 + b2i false = v * 2 from by simp [b2i]]
            exact (hrow.set 0 (.int .u32 (v * 2))).set 1 _
          case measure => simp [intOf]; omega
        | true =>
          go_wp2
          go_roundw
          case rel =>
            refine ⟨k + 1, by omega, by go_num, ?_, ?_⟩
            · rw [HV.out, show v * 2 + b2i true = v * 2 + 1 from by simp [b2i]]
              exact ((hrow.set 0 (.int .u32 (v * 2))).set 0 (.int .u32 (v * 2 + 1))).set 1 _
            · exact ((hb.setCell (Nat.le_refl _) _).setCell (Nat.le_refl _) _).setCell (Nat.le_refl _) _
          case measure => simp [intOf]; omega
      · have hlt' : ¬ (k : Int) < 15 := by omega
        have hkM : k = 15 := by omega
        have hn : k ≤ 15 := by omega
        have HB := hid (vbTo_bit bs k)
        have HK := hid hkM
        generalize vbTo bs k = v at c0 hvb hrow HB
        clear hkM
        go_wp2_with fail
        refine (format_yes v k _ hn ⟨hvb.1, by omega⟩ (Int.ediv_eq_zero_of_lt hvb.1 hvb.2)).mono ?_
        rintro e w1 ⟨s, rfl, hs, hb1⟩
        have hsz : s.size = k := by rw [hs, strOfNums_size, fmtV_length]
        have HSG : Hid (∀ j (h : j < s.size), (s[j].toNat : Int) = 48 + b2i (bs[j]?.getD false)) := by
          refine hid ?_
          subst hs
          intro j h
          have hj : j < k := by omega
          rw [strOfNums_get _ j h (fmtV_range v k), fmtV_get v k j hj, HB.out j hj]
        have hb1' : Below w.heap.size w w1 := hb.trans (hb1.mono hb.size)
        have hsz' : ((s.size : Int) == 15) = true := by simp [hsz]; omega
        clear hs hb1 hrow c0 c1 f0 f1
        go_wp2
        go_loop [8] (fun i => ∃ (j : Nat), j ≤ k ∧ i = .int .i64 j) (fun i => k - (intOf i).toNat)
        case atStart => exact ⟨0, Nat.zero_le _, rfl⟩
        case round =>
          obtain ⟨j, hj, rfl⟩ := hrel
          by_cases hjk : j < k
          · have hjs : j < s.size := by omega
            have hjs' : (j : Int) < (s.size : Int) := by omega
            have hjk' : (j : Int) < 15 := by omega
            obtain ⟨b, off, rfl, hbs, hcell⟩ := HC.out j (by omega)
            have hcell2 : w1.cell? ⟨b, off + j, none⟩ = some (.bool (bs[j]?.getD false)) := (hb1'.cell hbs).trans hcell
            have hsg := HSG.out j hjs
            generalize bs[j]?.getD false = q at hcell2 hsg
            clear hcell
            cases q with
            | false =>
              have hs48 : (s[j].toNat : Int) = 48 := by rw [hsg]; rfl
              clear hsg
              go_wp2
              go_round
              case rel => exact ⟨j + 1, by omega, by go_num⟩
              case measure => simp [intOf]; omega
            | true =>
              have hs49 : (s[j].toNat : Int) = 49 := by rw [hsg]; rfl
              clear hsg
              go_wp2
              go_round
              case rel => exact ⟨j + 1, by omega, by go_num⟩
              case measure => simp [intOf]; omega
          · have hjk' : ¬ (j : Int) < 15 := by omega
            go_wp2
            go_ret
            exact ⟨rfl, hb1'⟩
  · have h15' : ¬ (15 : Int) < (bs.length : Int) := by omega
    go_enter Ycfm.func4, Ycfm.ntmps4
    go_wp2
    go_loopw [5] (fun i wr => ∃ (k : Nat), k ≤ bs.length ∧ i = .int .i64 k ∧ RowV wr w.heap.size 26 [.int .u32 (vbTo bs k), .int .u8 k] ∧ Below w.heap.size w wr) (fun i _ => bs.length - (intOf i).toNat)
    case atStart => exact ⟨0, Nat.zero_le _, rfl, RowV.fresh w _ [.int .u32 0, .int .u8 0] _ rfl, (Below.refl _ _).alloc (Nat.le_refl _) _⟩
    case round =>
      obtain ⟨k, hk, rfl, hrow, hb⟩ := hrel
      have c0 : wr.cell? ⟨w.heap.size, 0, none⟩ = some (.int .u32 (vbTo bs k)) := hrow.cell rfl
      have c1 : wr.cell? ⟨w.heap.size, 1, none⟩ = some (.int .u8 k) := hrow.cell rfl
      have f0 := hrow.frozen 0
      have f1 := hrow.frozen 1
      have hvb := vbTo_bd bs k
      have hpl := pow2_le k (by omega)
      by_cases hlt : k < bs.length
      · have hlt' : (k : Int) < (bs.length : Int) := by omega
        obtain ⟨b, off, rfl, hbs, hcell⟩ := HC.out k (by omega)
        have hcell2 : wr.cell? ⟨b, off + k, none⟩ = some (.bool (bs[k]?.getD false)) := (hb.cell hbs).trans hcell
        have HV : Hid (vbTo bs (k + 1) = vbTo bs k * 2 + b2i (bs[k]?.getD false)) := hid rfl
        generalize bs[k]?.getD false = q at hcell2 HV
        generalize vbTo bs k = v at HV c0 hvb hrow
        clear hcell
        cases q with
        | false =>
          go_wp2
          go_roundw
          case rel =>
            refine ⟨k + 1, by omega, by go_num, ?_, (hb.setCell (Nat.le_refl _) _).setCell (Nat.le_refl _) _⟩
            rw [HV.out, show v * 2 + b2i false = v * 2 from by simp [b2i]]
            exact (hrow.set 0 (.int .u32 (v * 2))).set 1 _
          case measure => simp [intOf]; omega
        | true =>
          go_wp2
          go_roundw
          case rel =>
            refine ⟨k + 1, by omega, by go_num, ?_, ?_⟩
            · rw [HV.out, show v * 2 + b2i true = v * 2 + 1 from by simp [b2i]]
              exact ((hrow.set 0 (.int .u32 (v * 2))).set 0 (.int .u32 (v * 2 + 1))).set 1 _
            · exact ((hb.setCell (Nat.le_refl _) _).setCell (Nat.le_refl _) _).setCell (Nat.le_refl _) _
          case measure => simp [intOf]; omega
      · have hlt' : ¬ (k : Int) < (bs.length : Int) := by omega
        have hkM : k = bs.length := by omega
        have hn : k ≤ 15 := by omega
        have HB := hid (vbTo_bit bs k)
        have HK := hid hkM
        generalize vbTo bs k = v at c0 hvb hrow HB
        clear hkM
        go_wp2_with fail
        refine (format_yes v k _ hn ⟨hvb.1, by omega⟩ (Int.ediv_eq_zero_of_lt hvb.1 hvb.2)).mono ?_
        rintro e w1 ⟨s, rfl, hs, hb1⟩
        have hsz : s.size = k := by rw [hs, strOfNums_size, fmtV_length]
        have HSG : Hid (∀ j (h : j < s.size), (s[j].toNat : Int) = 48 + b2i (bs[j]?.getD false)) := by
          refine hid ?_
          subst hs
          intro j h
          have hj : j < k := by omega
          rw [strOfNums_get _ j h (fmtV_range v k), fmtV_get v k j hj, HB.out j hj]
        have hb1' : Below w.heap.size w w1 := hb.trans (hb1.mono hb.size)
        have hsz' : ((s.size : Int) == (bs.length : Int)) = true := by simp [hsz]; omega
        clear hs hb1 hrow c0 c1 f0 f1
        go_wp2
        go_loop [8] (fun i => ∃ (j : Nat), j ≤ k ∧ i = .int .i64 j) (fun i => k - (intOf i).toNat)
        case atStart => exact ⟨0, Nat.zero_le _, rfl⟩
        case round =>
          obtain ⟨j, hj, rfl⟩ := hrel
          by_cases hjk : j < k
          · have hjs : j < s.size := by omega
            have hjs' : (j : Int) < (s.size : Int) := by omega
            have hjk' : (j : Int) < (bs.length : Int) := by omega
            obtain ⟨b, off, rfl, hbs, hcell⟩ := HC.out j (by omega)
            have hcell2 : w1.cell? ⟨b, off + j, none⟩ = some (.bool (bs[j]?.getD false)) := (hb1'.cell hbs).trans hcell
            have hsg := HSG.out j hjs
            generalize bs[j]?.getD false = q at hcell2 hsg
            clear hcell
            cases q with
            | false =>
              have hs48 : (s[j].toNat : Int) = 48 := by rw [hsg]; rfl
              clear hsg
              go_wp2
              go_round
              case rel => exact ⟨j + 1, by omega, by go_num⟩
              case measure => simp [intOf]; omega
            | true =>
              have hs49 : (s[j].toNat : Int) = 49 := by rw [hsg]; rfl
              clear hsg
              go_wp2
              go_round
              case rel => exact ⟨j + 1, by omega, by go_num⟩
              case measure => simp [intOf]; omega
          · have hjk' : ¬ (j : Int) < (bs.length : Int) := by omega
            go_wp2
            go_ret
            exact ⟨rfl, hb1'⟩
end Go.Proofs.Ymbrcf
