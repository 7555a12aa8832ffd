/- huff.zzs930022loccurs, walked; what CountLengths counts. -/
import Derived.Test.YmbrchCount
namespace Go.Proofs.Ymbrch
open Go.RowKit
set_option linter.unusedVariables false
set_option linter.unusedSimpArgs false

theorem count_drop (xs : List Int) (v : Int) (k : Nat) (h : k < xs.length) : (xs.drop k).count v = (if xs[k] = v then 1 else 0) + (xs.drop (k + 1)).count v := by
  rw [List.drop_eq_getElem_cons h, List.count_cons]
  simp only [beq_iff_eq]
  omega
theorem bump_get (cs : List Int) (x : Int) (j : Nat) (hj : j < 16) (hx : 0 ≤ x) (hl : cs.length = 16) : (bump cs x)[j]?.getD 0 = cs[j]?.getD 0 + if x = (j : Int) then 1 else 0 := by
  unfold bump
  split
  · by_cases e : x.toNat = j
    · subst e
      rw [List.getElem?_set_self (by omega), if_pos (by omega)]
      simp
    · rw [List.getElem?_set_ne e, if_neg (by omega)]
      omega
  · rw [if_neg (by omega)]
    omega
theorem cntFrom_get (j : Nat) (hj : j < 16) : ∀ (xs cs : List Int), cs.length = 16 → (∀ x ∈ xs, 0 ≤ x ∧ x ≤ 255) → (cntFrom cs xs)[j]?.getD 0 = cs[j]?.getD 0 + (xs.count (j : Int) : Nat) := by
  intro xs
  induction xs with
  | nil => intro cs _ _; simp [cntFrom]
  | cons x xs ih =>
    intro cs hl hr
    rw [cntFrom, ih _ (by rw [bump_length]; exact hl) (fun y hy => hr y (List.mem_cons_of_mem _ hy)), bump_get cs x j hj (hr x (List.mem_cons_self ..)).1 hl, List.count_cons]
    simp only [beq_iff_eq]
    split <;> simp <;> omega
theorem cnt_get (xs : List Int) (hr : ∀ x ∈ xs, 0 ≤ x ∧ x ≤ 255) (j : Nat) (hj : j < 16) : (cntFrom cnt0 xs)[j]?.getD 0 = (xs.count (j : Int) : Nat) := by
  rw [cntFrom_get j hj xs cnt0 rfl hr, cnt0, List.getElem?_replicate_of_lt hj]; simp

set_option maxHeartbeats 400000 in
theorem occurs_any (a : Option Addr) (c : Nat) (xs : List Int) (v : Int) (w : World) (h : Sees .u8 w a xs) (hr : ∀ x ∈ xs, 0 ≤ x ∧ x ≤ 255) :
    Calls Ychm.prog 19 #[.slice a xs.length c, .int .i64 v] w fun e w' => e = .returned (.int .i64 (xs.count v : Nat)) ∧ w' = w := by
  obtain ⟨hm, hc⟩ := h
  go_enter Ychm.func19, Ychm.ntmps19
  go_wp2
  go_loop [5, 6] (fun n i => ∃ (k m : Nat), k ≤ xs.length ∧ i = .int .i64 k ∧ n = .int .i64 m ∧ m ≤ k ∧ m + (xs.drop k).count v = xs.count v) (fun _ i => xs.length - (intOf i).toNat)
  case atStart => exact ⟨0, 0, Nat.zero_le _, rfl, rfl, Nat.le_refl _, by simp⟩
  case round =>
    obtain ⟨k, m, hk, rfl, rfl, hmk, hcnt⟩ := hrel
    by_cases hlt : k < xs.length
    · obtain ⟨b, off, rfl, hbs, hcell⟩ := hc k hlt
      have hx := hr _ (List.getElem_mem hlt)
      rw [count_drop _ _ _ hlt] at hcnt
      have HC := (show Hid _ from hcnt)
      clear hc hr hcnt
      by_cases hv : xs[k] = v
      · have hv' : (xs[k] == v) = true := by simpa using hv
        have HV := (show Hid _ from hv); clear hv
        go_wp2
        go_round
        case rel => exact ⟨k + 1, m + 1, by omega, by go_num, by go_num, by omega, by have := HC.out; rw [if_pos HV.out] at this; omega⟩
        case measure => simp [intOf]; omega
      · have hv' : (xs[k] == v) = false := by simpa using hv
        have HV := (show Hid _ from hv); clear hv
        go_wp2
        go_round
        case rel => exact ⟨k + 1, m, by omega, by go_num, by go_num, by omega, by have := HC.out; rw [if_neg HV.out] at this; omega⟩
        case measure => simp [intOf]; omega
    · have HC : Hid (m = xs.count v) := by
        rw [List.drop_of_length_le (by omega)] at hcnt
        exact hid (by simpa using hcnt)
      clear hcnt hc hr
      go_wp2
      go_ret
      exact ⟨ret_int (by rw [HC.out]), rfl⟩
end Go.Proofs.Ymbrch
