/- huff.Slack, walked. -/
import Derived.Test.YmbrcgRows
import Derived.Test.YmbrcgBase
import Derived.Test.YmbrcgKraft
namespace Go.Proofs.Ymbrcg
open Go.RowKit
set_option linter.unusedVariables false
set_option linter.unusedSimpArgs false

set_option maxHeartbeats 400000 in
theorem slack_any (a : Option Addr) (c : Nat) (xs : List Int) (w : World) (h : Sees .u8 w a xs) (hr : ∀ x ∈ xs, 0 ≤ x ∧ x ≤ 255) :
    Calls Ycgm.prog 32 #[.slice a xs.length c] w fun e w' => e = .returned (.tuple #[.int .i64 (slackV xs).1, .bool (slackV xs).2]) ∧ w' = w := by
  obtain ⟨hm, hc⟩ := h
  have HC := hid hc
  have HR := hid hr
  clear hc hr
  generalize hV : slackV xs = V
  have HV := hid hV
  clear hV
  go_enter Ycgm.func32, Ycgm.ntmps32
  go_wp2
  go_loop [4, 10] (fun l i => ∃ (k : Nat) (L : Int), k ≤ xs.length ∧ i = .int .i64 k ∧ l = .int .i64 L ∧ 0 ≤ L ∧ L ≤ 32768 ∧ Hid (slackGo L (xs.drop k) = slackV xs)) (fun _ i => xs.length - (intOf i).toNat)
  case atStart => exact ⟨0, 32768, Nat.zero_le _, rfl, rfl, by omega, by omega, slackV_eq xs⟩
  case round =>
    obtain ⟨k, L, hk, rfl, rfl, hL0, hL1, HS⟩ := hrel
    by_cases hlt : k < xs.length
    · obtain ⟨b, off, rfl, hbs, hcell⟩ := HC.out k hlt
      have hx := HR.out _ (List.getElem_mem hlt)
      have HD := hid (slackGo_drop L xs k hlt)
      by_cases h15 : 15 < xs[k]
      · go_wp2
        go_ret2
        refine ⟨ret_ib ?_ ?_, rfl⟩ <;> rw [← HV.out, ← HS.out, HD.out, if_pos (by omega)]
      · by_cases h0 : 0 < xs[k]
        · have hw : 0 ≤ (32768 : Int) / 2 ^ xs[k].toNat := by rw [← wt_pos _ h0 (by omega)]; exact (wt_bd _).1
          by_cases hl : L < 32768 / 2 ^ xs[k].toNat
          · go_wp2
            go_ret2
            refine ⟨ret_ib ?_ ?_, rfl⟩ <;> rw [← HV.out, ← HS.out, HD.out, if_neg (by omega), if_pos (by omega), if_pos (by omega)]
          · go_wp2
            go_round
            case rel => exact ⟨k + 1, L - 32768 / 2 ^ xs[k].toNat, by omega, by go_num, by go_num, by omega, by omega, hid (by rw [← HS.out, HD.out, if_neg (by omega), if_pos (by omega), if_neg (by omega)])⟩
            case measure => simp [intOf]; omega
        · go_wp2
          go_round
          case rel => exact ⟨k + 1, L, by omega, by go_num, rfl, by omega, by omega, hid (by rw [← HS.out, HD.out, if_neg (by omega), if_neg (by omega)])⟩
          case measure => simp [intOf]; omega
    · go_wp2
      go_ret2
      have e : slackGo L (xs.drop k) = (L, true) := by rw [List.drop_of_length_le (by omega)]; rfl
      refine ⟨ret_ib ?_ ?_, rfl⟩ <;> rw [← HV.out, ← HS.out, e]
theorem slack_n (a : Option Addr) (c n : Nat) (xs : List Int) (w : World) (hn : n = xs.length) (h : Sees .u8 w a xs) (hr : ∀ x ∈ xs, 0 ≤ x ∧ x ≤ 255) (p : Int) (q : Bool) (hv : slackV xs = (p, q)) :
    Calls Ycgm.prog 32 #[.slice a n c] w fun e w' => e = .returned (.tuple #[.int .i64 p, .bool q]) ∧ w' = w := by
  subst hn
  have := slack_any a c xs w h hr
  rw [hv] at this
  exact this
end Go.Proofs.Ymbrcg
