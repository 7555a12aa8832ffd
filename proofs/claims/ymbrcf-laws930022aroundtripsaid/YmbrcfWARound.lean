/- huff.LawS930022ARoundTrip, walked. -/
import Derived.Test.YmbrcfDigits
namespace Go.Proofs.Ymbrcf
open Go.RowKit
set_option linter.unusedVariables false
set_option linter.unusedSimpArgs false

set_option maxHeartbeats 400000 in
theorem around_any (raw n : Int) (w : World) (hr : 0 ≤ raw ∧ raw ≤ 4294967295) (hn : 0 ≤ n ∧ n ≤ 255) :
    Calls Ycfm.prog 5 #[.int .u32 raw, .int .u8 n] w fun e w' => e = .returned (.bool true) ∧ Below w.heap.size w w' := by
  obtain ⟨l, hl⟩ : ∃ l : Nat, n % 16 = (l : Int) := ⟨(n % 16).toNat, by omega⟩
  have hl15 : l ≤ 15 := by omega
  have hp := pow2_le l hl15
  have hp0 := pow_pos' l
  have hB0 : 0 ≤ raw % 2 ^ l := Int.emod_nonneg _ (by omega)
  have hB1 : raw % 2 ^ l < 2 ^ l := Int.emod_lt_of_pos _ hp0
  go_enter Ycfm.func5, Ycfm.ntmps5
  go_wp2_with fail
  refine (format_yes (raw % 2 ^ l) l _ hl15 ⟨hB0, by omega⟩ (Int.ediv_eq_zero_of_lt hB0 hB1)).mono ?_
  rintro e w1 ⟨s, rfl, hs, hb1⟩
  have hsz : s.size = l := by rw [hs, strOfNums_size, fmtV_length]
  have HSZ : Hid (s.size ≤ 9223372036854775807) := hid (by omega)
  have HV : Hid (parseV (strL s) = (raw % 2 ^ l, (l : Int), true)) := hid (by rw [hs]; exact parse_format _ l hB0 hB1 hl15)
  have hr1 : RowV w1 w.heap.size 26 [.int .u32 (raw % 2 ^ l), .int .u8 l] := (RowV.fresh w _ [.int .u32 (raw % 2 ^ l), .int .u8 l] _ rfl).below hb1 (by simp)
  have hlt : w.heap.size < w1.heap.size := hr1.lt
  clear hs hsz
  go_wp2_with fail
  refine (parse_any s _ HSZ).mono ?_
  rintro e w2 ⟨rfl, hb2⟩
  rw [HV.out]
  have hr2 := hr1.below hb2 hlt
  have c0 : w2.cell? ⟨w.heap.size, 0, none⟩ = some (.int .u32 (raw % 2 ^ l)) := hr2.cell rfl
  have c1 : w2.cell? ⟨w.heap.size, 1, none⟩ = some (.int .u8 l) := hr2.cell rfl
  have hlt2 : w.heap.size < w2.heap.size := hr2.lt
  go_wp2
  go_ret
  exact ⟨rfl, (((Below.refl _ _).alloc (Nat.le_refl _) _).trans ((hb1.mono (by simp)).trans (hb2.mono (by omega)))).alloc (by omega) _⟩
end Go.Proofs.Ymbrcf
