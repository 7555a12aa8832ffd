/- Single bits of bytes: set, cleared, added. -/
import Derived.Test.YmbrcgAt
namespace Go.Proofs.Ymbrcg
set_option linter.unusedVariables false
set_option linter.unusedSimpArgs false

theorem fin_or : ∀ (x : Fin 256) (k q : Fin 8), ((x.val ||| 2 ^ k.val) / 2 ^ q.val % 2 == 1) = (decide (q = k) || (x.val / 2 ^ q.val % 2 == 1)) := by decide +kernel
theorem fin_or_lt : ∀ (x : Fin 256) (k : Fin 8), (x.val ||| 2 ^ k.val) ≤ 255 := by decide +kernel
theorem fin_not : ∀ (x : Fin 256) (k q : Fin 8), ((x.val &&& (255 - 2 ^ k.val)) / 2 ^ q.val % 2 == 1) = (!decide (q = k) && (x.val / 2 ^ q.val % 2 == 1)) := by decide +kernel
theorem fin_not_lt : ∀ (x : Fin 256) (k : Fin 8), (x.val &&& (255 - 2 ^ k.val)) ≤ 255 := by decide +kernel
theorem fin_add : ∀ (x : Fin 256) (k q : Fin 8), (x.val / 2 ^ k.val % 2 == 1) = false → ((x.val + 2 ^ k.val) / 2 ^ q.val % 2 == 1) = (decide (q = k) || (x.val / 2 ^ q.val % 2 == 1)) := by decide +kernel
theorem fin_add_lt : ∀ (x : Fin 256) (k : Fin 8), (x.val / 2 ^ k.val % 2 == 1) = false → x.val + 2 ^ k.val ≤ 255 := by decide +kernel

/-- Bit q (0: most significant) of a byte. -/
def bitB (x : Int) (q : Nat) : Bool := (x / 2 ^ (7 - q)) % 2 == 1
theorem bitD_eq (ds : List Int) (j : Nat) : bitD ds j = bitB (ds[j / 8]?.getD 0) (j % 8) := rfl
theorem bitB_nat (x q : Nat) : bitB (x : Int) q = (x / 2 ^ (7 - q) % 2 == 1) := by
  unfold bitB
  rw [Bool.eq_iff_iff, beq_iff_eq, beq_iff_eq]
  have : ((x : Int) / 2 ^ (7 - q) % 2) = ((x / 2 ^ (7 - q) % 2 : Nat) : Int) := by simp
  rw [this]
  omega
theorem mask_eq (p : Nat) (h : p ≤ 7) : (128 : Int) / 2 ^ p = ((2 ^ (7 - p) : Nat) : Int) := by
  rcases (show p = 0 ∨ p = 1 ∨ p = 2 ∨ p = 3 ∨ p = 4 ∨ p = 5 ∨ p = 6 ∨ p = 7 by omega) with h | h | h | h | h | h | h | h <;> subst h <;> decide
theorem mask_lt (p : Nat) : (2 : Nat) ^ (7 - p) ≤ 128 := Nat.le_trans (Nat.pow_le_pow_right (by omega) (show 7 - p ≤ 7 by omega)) (by decide)
theorem or_bit (x : Int) (p : Nat) (h0 : 0 ≤ x) (h1 : x ≤ 255) (hp : p ≤ 7) : (0 ≤ bits .or .u8 x (128 / 2 ^ p) ∧ bits .or .u8 x (128 / 2 ^ p) ≤ 255) ∧ ∀ q, q ≤ 7 → bitB (bits .or .u8 x (128 / 2 ^ p)) q = (decide (q = p) || bitB x q) := by
  obtain ⟨n, rfl⟩ := Int.eq_ofNat_of_zero_le h0
  have hm := mask_lt p
  rw [mask_eq p hp, u8_or_nat n (2 ^ (7 - p)) (by omega) (by omega)]
  have hn : n < 256 := by omega
  have hl := fin_or_lt ⟨n, hn⟩ ⟨7 - p, by omega⟩
  refine ⟨⟨by omega, by simp only at hl; omega⟩, fun q hq => ?_⟩
  rw [bitB_nat, bitB_nat, fin_or ⟨n, hn⟩ ⟨7 - p, by omega⟩ ⟨7 - q, by omega⟩]
  congr 1
  rw [decide_eq_decide]
  simp only [Fin.mk.injEq]
  omega
theorem not_bit (x : Int) (p : Nat) (h0 : 0 ≤ x) (h1 : x ≤ 255) (hp : p ≤ 7) : (0 ≤ bits .andNot .u8 x (128 / 2 ^ p) ∧ bits .andNot .u8 x (128 / 2 ^ p) ≤ 255) ∧ ∀ q, q ≤ 7 → bitB (bits .andNot .u8 x (128 / 2 ^ p)) q = (!decide (q = p) && bitB x q) := by
  obtain ⟨n, rfl⟩ := Int.eq_ofNat_of_zero_le h0
  have hm := mask_lt p
  rw [mask_eq p hp, u8_andNot_nat n (2 ^ (7 - p)) (by omega) (by omega)]
  have hn : n < 256 := by omega
  have hl := fin_not_lt ⟨n, hn⟩ ⟨7 - p, by omega⟩
  refine ⟨⟨by omega, by simp only at hl; omega⟩, fun q hq => ?_⟩
  rw [bitB_nat, bitB_nat, fin_not ⟨n, hn⟩ ⟨7 - p, by omega⟩ ⟨7 - q, by omega⟩]
  congr 2
  rw [decide_eq_decide]
  simp only [Fin.mk.injEq]
  omega
theorem add_bit (x : Int) (p : Nat) (h0 : 0 ≤ x) (h1 : x ≤ 255) (hp : p ≤ 7) (hz : bitB x p = false) : (0 ≤ x + 128 / 2 ^ p ∧ x + 128 / 2 ^ p ≤ 255) ∧ ∀ q, q ≤ 7 → bitB (x + 128 / 2 ^ p) q = (decide (q = p) || bitB x q) := by
  obtain ⟨n, rfl⟩ := Int.eq_ofNat_of_zero_le h0
  have hm := mask_lt p
  rw [mask_eq p hp, ← Int.natCast_add]
  have hn : n < 256 := by omega
  rw [bitB_nat] at hz
  have hl := fin_add_lt ⟨n, hn⟩ ⟨7 - p, by omega⟩ hz
  refine ⟨⟨Int.natCast_nonneg _, by simp only at hl; exact Int.ofNat_le.2 hl⟩, fun q hq => ?_⟩
  rw [bitB_nat, bitB_nat, fin_add ⟨n, hn⟩ ⟨7 - p, by omega⟩ ⟨7 - q, by omega⟩ hz]
  congr 1
  rw [decide_eq_decide]
  simp only [Fin.mk.injEq]
  omega
/-- The bits of a row behind a store of one byte. -/
theorem bitD_set (ds : List Int) (i : Nat) (y : Int) (j : Nat) (h : i / 8 < ds.length) : bitD (ds.set (i / 8) y) j = if j / 8 = i / 8 then bitB y (j % 8) else bitD ds j := by
  rw [bitD_eq]
  by_cases e : j / 8 = i / 8
  · rw [if_pos e, e, List.getElem?_set_self h]; rfl
  · rw [if_neg e, List.getElem?_set_ne (by omega), ← bitD_eq]
theorem bitD_set_true (ds : List Int) (i : Nat) (y : Int) (h : i / 8 < ds.length) (hy : ∀ q, q ≤ 7 → bitB y q = (decide (q = i % 8) || bitB (ds[i / 8]?.getD 0) q)) (j : Nat) : bitD (ds.set (i / 8) y) j = (decide (j = i) || bitD ds j) := by
  rw [bitD_set ds i y j h]
  by_cases e : j / 8 = i / 8
  · rw [if_pos e, hy _ (by omega), bitD_eq ds j, e]
    congr 1
    rw [decide_eq_decide]; omega
  · rw [if_neg e, decide_eq_false (by omega), Bool.false_or]
theorem bitD_set_false (ds : List Int) (i : Nat) (y : Int) (h : i / 8 < ds.length) (hy : ∀ q, q ≤ 7 → bitB y q = (!decide (q = i % 8) && bitB (ds[i / 8]?.getD 0) q)) (j : Nat) : bitD (ds.set (i / 8) y) j = (!decide (j = i) && bitD ds j) := by
  rw [bitD_set ds i y j h]
  by_cases e : j / 8 = i / 8
  · rw [if_pos e, hy _ (by omega), bitD_eq ds j, e]
    congr 2
    rw [decide_eq_decide]; omega
  · rw [if_neg e, decide_eq_false (by omega), Bool.not_false, Bool.true_and]
theorem bitD_zeros (n j : Nat) : bitD (List.replicate n 0) j = false := by
  rw [bitD_eq]
  have : (List.replicate n (0 : Int))[j / 8]?.getD 0 = 0 := by
    by_cases h : j / 8 < n
    · rw [List.getElem?_replicate_of_lt h]; rfl
    · rw [List.getElem?_eq_none (by simp; omega)]; rfl
  rw [this]
  simp [bitB]
theorem bitD_append (ds es : List Int) (j : Nat) (h : j / 8 < ds.length) : bitD (ds ++ es) j = bitD ds j := by
  rw [bitD_eq, bitD_eq, List.getElem?_append_left h]
theorem bitD_past (ds : List Int) (j : Nat) (h : ds.length ≤ j / 8) : bitD ds j = false := by
  rw [bitD_eq, List.getElem?_eq_none h]; simp [bitB]
theorem range_set (ds : List Int) (i : Nat) (y : Int) (h : ∀ x ∈ ds, 0 ≤ x ∧ x ≤ 255) (hy : 0 ≤ y ∧ y ≤ 255) : ∀ x ∈ ds.set i y, 0 ≤ x ∧ x ≤ 255 := by
  intro x hx
  rcases List.mem_or_eq_of_mem_set hx with h' | h'
  · exact h x h'
  · subst h'; exact hy
theorem range_get (ds : List Int) (h : ∀ x ∈ ds, 0 ≤ x ∧ x ≤ 255) (i : Nat) : 0 ≤ ds[i]?.getD 0 ∧ ds[i]?.getD 0 ≤ 255 := by
  by_cases hi : i < ds.length
  · rw [getD_get _ _ hi]; exact h _ (List.getElem_mem hi)
  · rw [List.getElem?_eq_none (by omega)]; simp
end Go.Proofs.Ymbrcg
