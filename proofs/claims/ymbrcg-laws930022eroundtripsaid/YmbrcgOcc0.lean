/- What CountLengths counts. -/
import Derived.Test.YmbrcgCount
namespace Go.Proofs.Ymbrcg
open Go.RowKit
set_option linter.unusedVariables false
set_option linter.unusedSimpArgs false

theorem count_drop (xs : List Int) (v : Int) (k : Nat) (h : k < xs.length) : (xs.drop k).count v = (if xs[k] = v then 1 else 0) + (xs.drop (k + 1)).count v := by
  rw [List.drop_eq_getElem_cons h, List.count_cons]
  simp only [beq_iff_eq]
  omega
theorem bump_get (cs : List Int) (x : Int) (j : Nat) (hj : j < 16) (hx : 0 ≤ x) (hl : cs.length = 16) : (bump cs x)[j]?.getD 0 = cs[j]?.getD 0 + if x = (j : Int) then 1 else 0 := by
  unfold bump
  split
  · by_cases e : x.toNat = j
    · subst e
      rw [List.getElem?_set_self (by omega), if_pos (by omega)]
      simp
    · rw [List.getElem?_set_ne e, if_neg (by omega)]
      omega
  · rw [if_neg (by omega)]
    omega
theorem cntFrom_get (j : Nat) (hj : j < 16) : ∀ (xs cs : List Int), cs.length = 16 → (∀ x ∈ xs, 0 ≤ x ∧ x ≤ 255) → (cntFrom cs xs)[j]?.getD 0 = cs[j]?.getD 0 + (xs.count (j : Int) : Nat) := by
  intro xs
  induction xs with
  | nil => intro cs _ _; simp [cntFrom]
  | cons x xs ih =>
    intro cs hl hr
    rw [cntFrom, ih _ (by rw [bump_length]; exact hl) (fun y hy => hr y (List.mem_cons_of_mem _ hy)), bump_get cs x j hj (hr x (List.mem_cons_self ..)).1 hl, List.count_cons]
    simp only [beq_iff_eq]
    split <;> simp <;> omega
theorem cnt_get (xs : List Int) (hr : ∀ x ∈ xs, 0 ≤ x ∧ x ≤ 255) (j : Nat) (hj : j < 16) : (cntFrom cnt0 xs)[j]?.getD 0 = (xs.count (j : Int) : Nat) := by
  rw [cntFrom_get j hj xs cnt0 rfl hr, cnt0, List.getElem?_replicate_of_lt hj]; simp

end Go.Proofs.Ymbrcg
