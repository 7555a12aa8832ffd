/- Plain arithmetic of code lengths: Kraft's sum. No Go in sight. -/
import Derived.Below
namespace Go.Proofs.Ymbrcg
set_option linter.unusedVariables false
set_option linter.unusedSimpArgs false

/-- The share of a length in the code space. -/
def wt (l : Int) : Int := if 0 < l ∧ l ≤ 15 then 32768 / 2 ^ l.toNat else 0
def ksum : List Int → Int
  | [] => 0
  | x :: xs => wt x + ksum xs
def all15 : List Int → Bool
  | [] => true
  | x :: xs => decide (x ≤ 15) && all15 xs
def fits (xs : List Int) : Bool := all15 xs && decide (ksum xs ≤ 32768)

theorem cases15 (l : Int) (h0 : 0 < l) (h1 : l ≤ 15) : l = 1 ∨ l = 2 ∨ l = 3 ∨ l = 4 ∨ l = 5 ∨ l = 6 ∨ l = 7 ∨ l = 8 ∨ l = 9 ∨ l = 10 ∨ l = 11 ∨ l = 12 ∨ l = 13 ∨ l = 14 ∨ l = 15 := by omega
theorem wt_pos (l : Int) (h0 : 0 < l) (h1 : l ≤ 15) : wt l = 32768 / 2 ^ l.toNat := by unfold wt; rw [if_pos ⟨h0, h1⟩]
theorem wt_zero (l : Int) (h : ¬ (0 < l ∧ l ≤ 15)) : wt l = 0 := by unfold wt; rw [if_neg h]
theorem wt_bd (l : Int) : 0 ≤ wt l ∧ wt l ≤ 16384 := by
  by_cases h : 0 < l ∧ l ≤ 15
  · rcases cases15 l h.1 h.2 with h | h | h | h | h | h | h | h | h | h | h | h | h | h | h <;> subst h <;> decide
  · rw [wt_zero l h]; omega
theorem wt_ge1 (l : Int) (h0 : 0 < l) (h1 : l ≤ 15) : 1 ≤ wt l := by
  rcases cases15 l h0 h1 with h | h | h | h | h | h | h | h | h | h | h | h | h | h | h <;> subst h <;> decide
theorem wt_shl (l : Int) (h0 : 0 < l) (h1 : l ≤ 15) : wt l = 2 ^ (15 - l).toNat := by
  rcases cases15 l h0 h1 with h | h | h | h | h | h | h | h | h | h | h | h | h | h | h <;> subst h <;> decide
theorem div_shl (l : Int) (h0 : 0 ≤ l) (h1 : l ≤ 15) : (32768 : Int) / 2 ^ l.toNat = 2 ^ (15 - l).toNat := by
  rcases (show l = 0 ∨ 0 < l by omega) with h | h
  · subst h; decide
  · rw [← wt_pos l h h1, wt_shl l h h1]
theorem ksum_nonneg : ∀ xs : List Int, 0 ≤ ksum xs
  | [] => by simp [ksum]
  | x :: xs => by have := ksum_nonneg xs; have := wt_bd x; unfold ksum; omega
theorem ksum_le : ∀ xs : List Int, ksum xs ≤ 16384 * (xs.length : Int)
  | [] => by simp [ksum]
  | x :: xs => by have := ksum_le xs; have := wt_bd x; unfold ksum; simp only [List.length_cons]; omega
theorem ksum_append : ∀ xs ys : List Int, ksum (xs ++ ys) = ksum xs + ksum ys
  | [], ys => by simp [ksum]
  | x :: xs, ys => by rw [List.cons_append, ksum, ksum, ksum_append xs ys]; omega
theorem ksum_single (x : Int) : ksum [x] = wt x := by simp [ksum]
theorem ksum_replicate (n : Nat) : ksum (List.replicate n 0) = 0 := by
  induction n with
  | zero => rfl
  | succ n ih => rw [List.replicate_succ, ksum, ih]; rfl
theorem all15_append : ∀ xs ys : List Int, all15 (xs ++ ys) = (all15 xs && all15 ys)
  | [], ys => by simp [all15]
  | x :: xs, ys => by rw [List.cons_append, all15, all15, all15_append xs ys, Bool.and_assoc]
theorem all15_iff : ∀ xs : List Int, all15 xs = true ↔ ∀ x ∈ xs, x ≤ 15
  | [] => by simp [all15]
  | x :: xs => by simp [all15, all15_iff xs]
theorem fits_iff (xs : List Int) : fits xs = true ↔ (∀ x ∈ xs, x ≤ 15) ∧ ksum xs ≤ 32768 := by simp [fits, all15_iff]
theorem ksum_set : ∀ (xs : List Int) (k : Nat) (v : Int) (h : k < xs.length), ksum (xs.set k v) = ksum xs - wt xs[k] + wt v
  | x :: xs, 0, v, h => by simp [ksum]; omega
  | x :: xs, k + 1, v, h => by
    have := ksum_set xs k v (by simpa using h)
    simp only [List.set_cons_succ, ksum, List.getElem_cons_succ, this]; omega
theorem wt_le_ksum : ∀ (xs : List Int) (k : Nat) (h : k < xs.length), wt xs[k] ≤ ksum xs
  | x :: xs, 0, h => by have := ksum_nonneg xs; simp [ksum]; omega
  | x :: xs, k + 1, h => by
    have := wt_le_ksum xs k (by simpa using h)
    have := (wt_bd x).1
    simp only [ksum, List.getElem_cons_succ]; omega

/-- What the loop of Slack does. -/
def slackGo : Int → List Int → Int × Bool
  | L, [] => (L, true)
  | L, x :: xs => if 15 < x then (0, false) else if 0 < x then (if L < 32768 / 2 ^ x.toNat then (0, false) else slackGo (L - 32768 / 2 ^ x.toNat) xs) else slackGo L xs
def slackV (xs : List Int) : Int × Bool := if fits xs then (32768 - ksum xs, true) else (0, false)
theorem slackGo_eq : ∀ (xs : List Int) (L : Int), 0 ≤ L → slackGo L xs = if all15 xs = true ∧ ksum xs ≤ L then (L - ksum xs, true) else (0, false)
  | [], L, hL => by simp [slackGo, all15, ksum, hL]
  | x :: xs, L, hL => by
    rw [slackGo]
    by_cases h15 : 15 < x
    · rw [if_pos h15, if_neg]
      simp [all15]; omega
    · rw [if_neg h15]
      by_cases h0 : 0 < x
      · rw [if_pos h0, ← wt_pos x h0 (by omega)]
        have hk := ksum_nonneg xs
        by_cases hl : L < wt x
        · rw [if_pos hl, if_neg]
          intro h
          have := h.2
          rw [ksum] at this
          omega
        · rw [if_neg hl, slackGo_eq xs (L - wt x) (by omega)]
          have e1 : all15 (x :: xs) = all15 xs := by simp [all15]; omega
          rw [e1, ksum]
          by_cases hc : all15 xs = true ∧ ksum xs ≤ L - wt x
          · rw [if_pos hc, if_pos ⟨hc.1, by omega⟩]; congr 1; omega
          · rw [if_neg hc, if_neg (fun h => hc ⟨h.1, by omega⟩)]
      · rw [if_neg h0, slackGo_eq xs L hL]
        have e1 : all15 (x :: xs) = all15 xs := by simp [all15]; omega
        rw [e1, ksum, wt_zero x (by omega), Int.zero_add]
theorem slackV_eq (xs : List Int) : slackGo 32768 xs = slackV xs := by
  rw [slackGo_eq xs 32768 (by decide), slackV]
  by_cases h : fits xs = true
  · rw [if_pos h, if_pos (by simpa [fits] using h)]
  · rw [if_neg h, if_neg (by simpa [fits] using h)]
theorem slackGo_drop (L : Int) (xs : List Int) (k : Nat) (h : k < xs.length) : slackGo L (xs.drop k) = if 15 < xs[k] then (0, false) else if 0 < xs[k] then (if L < 32768 / 2 ^ xs[k].toNat then (0, false) else slackGo (L - 32768 / 2 ^ xs[k].toNat) (xs.drop (k + 1))) else slackGo L (xs.drop (k + 1)) := by
  rw [List.drop_eq_getElem_cons h, slackGo]
end Go.Proofs.Ymbrcg
