/- Plain facts on binary digits: what FormatCode writes, ParseCode reads. No Go in sight but the two functions' own plain twins. -/
import Derived.Test.YmbrcgFmt
import Derived.Test.YmbrcgParse
namespace Go.Proofs.Ymbrcg
set_option linter.unusedVariables false
set_option linter.unusedSimpArgs false

theorem imod_pow_succ (B : Int) (h : 0 ≤ B) (n : Nat) : B % 2 ^ (n + 1) = B % 2 ^ n + 2 ^ n * (B / 2 ^ n % 2) := by
  obtain ⟨b, rfl⟩ := Int.eq_ofNat_of_zero_le h
  have := Nat.mod_pow_succ (x := b) (b := 2) (k := n)
  have h2 : ((b % 2 ^ (n + 1) : Nat) : Int) = ((b % 2 ^ n + 2 ^ n * (b / 2 ^ n % 2) : Nat) : Int) := by rw [this]
  simpa using h2
theorem fmtV_cons (B : Int) (n : Nat) : fmtV B (n + 1) = (48 + B / 2 ^ n % 2) :: fmtV B n := by
  unfold fmtV
  rw [List.range_succ_eq_map, List.map_cons, List.map_map]
  congr 1
  apply List.map_congr_left
  intro i hi
  simp only [Function.comp]
  rw [show n + 1 - 1 - (i + 1) = n - 1 - i from by omega]
theorem parse_fmt (B : Int) (h : 0 ≤ B) : ∀ (n : Nat) (b l : Int), parseGo b l (fmtV B n) = (b * 2 ^ n + B % 2 ^ n, l + n, true)
  | 0, b, l => by simp [fmtV, parseGo]
  | n + 1, b, l => by
    have hd : B / 2 ^ n % 2 = 0 ∨ B / 2 ^ n % 2 = 1 := by omega
    rw [fmtV_cons, parseGo, if_pos (by omega), parse_fmt B h n, imod_pow_succ B h n, Int.pow_succ]
    have e : (b * 2 + (48 + B / 2 ^ n % 2 - 48)) * 2 ^ n + B % 2 ^ n = b * (2 ^ n * 2) + (B % 2 ^ n + 2 ^ n * (B / 2 ^ n % 2)) := by
      generalize B / 2 ^ n % 2 = q
      generalize B % 2 ^ n = r
      rw [show (48 + q - 48) = q from by omega, Int.add_mul, Int.mul_assoc, Int.mul_comm 2, Int.mul_comm q]
      omega
    rw [e]
    congr 2
    simp; omega
theorem fmtV_range (B : Int) (n : Nat) : ∀ x ∈ fmtV B n, 0 ≤ x ∧ x ≤ 255 := by
  intro x hx
  obtain ⟨i, _, rfl⟩ := List.mem_map.1 hx
  omega
theorem parse_format (B : Int) (n : Nat) (h0 : 0 ≤ B) (h1 : B < 2 ^ n) (hn : n ≤ 15) : parseV (strL (Go.strOfNums (fmtV B n))) = (B, (n : Int), true) := by
  rw [strL_nums _ (fmtV_range B n), parseV, if_pos (by rw [fmtV_length]; exact hn), parse_fmt B h0, Int.emod_eq_of_lt h0 h1]
  simp
theorem strOfNums_get (xs : List Int) (k : Nat) (h : k < (Go.strOfNums xs).size) (hr : ∀ x ∈ xs, 0 ≤ x ∧ x ≤ 255) : (((Go.strOfNums xs)[k]).toNat : Int) = xs[k]?.getD 0 := by
  have h2 := strL_get (Go.strOfNums xs) k h
  have h3 : k < xs.length := by rw [Go.strOfNums_size] at h; exact h
  rw [← h2]
  simp only [strL_nums xs hr]
  simp [h3]
theorem fmtV_get (B : Int) (n k : Nat) (h : k < n) : (fmtV B n)[k]?.getD 0 = 48 + B / 2 ^ (n - 1 - k) % 2 := by simp [fmtV, h]

end Go.Proofs.Ymbrcg
