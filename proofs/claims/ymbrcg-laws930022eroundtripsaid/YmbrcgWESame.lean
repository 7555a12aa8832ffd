/- huff.zzs930022esame, walked. -/
import Derived.Test.YmbrcgAt
import Derived.BigQuiet
namespace Go.Proofs.Ymbrcg
open Go.RowKit
set_option linter.unusedVariables false
set_option linter.unusedSimpArgs false
set_option maxHeartbeats 800000 in
theorem esame_yes (a b : Option Addr) (ca cb na nb : Nat) (xs : List Int) (w : World) (hna : na = xs.length) (hnb : nb = xs.length) (ha : Sees .i64 w a xs) (hb : Sees .i64 w b xs) :
    Calls Ycgm.prog 18 #[.slice a na ca, .slice b nb cb] w fun e w' => e = .returned (.bool true) ∧ Below w.heap.size w w' := by
  subst hna
  subst hnb
  obtain ⟨hm, hca⟩ := ha
  obtain ⟨_, hcb⟩ := hb
  have HA := hid hca
  have HB := hid hcb
  clear hca hcb
  go_enter Ycgm.func18, Ycgm.ntmps18
  go_wp2
  go_loopw [5] (fun i wr => ∃ (k : Nat), k ≤ xs.length ∧ i = .int .i64 k ∧ Below w.heap.size w wr) (fun i _ => xs.length - (intOf i).toNat)
  case atStart => exact ⟨0, Nat.zero_le _, rfl, Below.refl _ _⟩
  case round =>
    obtain ⟨k, hk, rfl, hbw⟩ := hrel
    by_cases hlt : k < xs.length
    · have hlt' : (k : Int) < (xs.length : Int) := by omega
      obtain ⟨g, off, rfl, hg, c1⟩ := HA.out k hlt
      obtain ⟨g2, off2, rfl, hg2, c2⟩ := HB.out k hlt
      replace c1 := (hbw.cell hg).trans c1
      replace c2 := (hbw.cell hg2).trans c2
      go_wp2
      go_quiet (fail)
      go_wp2
      go_roundw
      case rel => exact ⟨k + 1, by omega, by go_num, by first | exact hbw | exact hbw.drew | exact below_drewN' hbw _⟩
      case measure => simp [intOf]; omega
    · have hlt' : ¬ (k : Int) < (xs.length : Int) := by omega
      go_wp2
      go_ret
      exact ⟨rfl, hbw⟩
end Go.Proofs.Ymbrcg
