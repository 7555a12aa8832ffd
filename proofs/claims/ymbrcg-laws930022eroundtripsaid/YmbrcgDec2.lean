/- More on decoding: a code's own bits; streams cut short. Plain. -/
import Derived.Test.YmbrcgDec
namespace Go.Proofs.Ymbrcg
set_option linter.unusedVariables false
set_option linter.unusedSimpArgs false

theorem match_iff {xs : List Int} (h : Lens xs) (hk : ksum xs ≤ 32768) (f : Nat → Bool) (A i : Nat) (hA : A ≤ 15) :
    Match xs (winW f A) A i ↔ ∃ hi : i < xs.length, 0 < xs[i] ∧ xs[i] ≤ (A : Int) ∧ V f xs[i].toNat = codeB xs xs[i] i := by
  have key : ∀ hi : i < xs.length, 0 < xs[i] → xs[i] ≤ (A : Int) → ((posI xs xs[i] i ≤ winW f A ∧ winW f A < posI xs xs[i] i + wt xs[i]) ↔ V f xs[i].toNat = codeB xs xs[i] i) := by
    intro hi h0 h1
    have hx := h _ (List.getElem_mem hi)
    have hp := codeB_pos xs h hk xs[i] h0 hx.2 i
    have hw := wt_shl xs[i] h0 hx.2
    rw [show (15 - xs[i]).toNat = 15 - xs[i].toNat from by omega] at hw
    have hd := win_div f A xs[i].toNat hA (by omega)
    have hpp := pow_pos' (15 - xs[i].toNat)
    rw [← hp, hw]
    generalize codeB xs xs[i] i = C
    rw [← hd]
    have hm := Int.mul_ediv_add_emod (winW f A) (2 ^ (15 - xs[i].toNat))
    have hr0 := Int.emod_nonneg (winW f A) (show (2 : Int) ^ (15 - xs[i].toNat) ≠ 0 by omega)
    have hr1 := Int.emod_lt_of_pos (winW f A) hpp
    constructor
    · rintro ⟨h2, h3⟩
      have e1 : C ≤ winW f A / 2 ^ (15 - xs[i].toNat) := (Int.le_ediv_iff_mul_le hpp).2 h2
      have e2 : winW f A / 2 ^ (15 - xs[i].toNat) < C + 1 := (Int.ediv_lt_iff_lt_mul hpp).2 (by rw [Int.add_mul]; omega)
      omega
    · intro e
      have hcm := Int.mul_comm C (2 ^ (15 - xs[i].toNat))
      rw [e] at hm
      omega
  constructor
  · rintro ⟨hi, h0, h1, h2⟩
    exact ⟨hi, h0, h1, (key hi h0 h1).1 h2⟩
  · rintro ⟨hi, h0, h1, h2⟩
    exact ⟨hi, h0, h1, (key hi h0 h1).2 h2⟩
theorem match_mono {xs : List Int} (h : Lens xs) (hk : ksum xs ≤ 32768) (f : Nat → Bool) (A A' i : Nat) (hA : A ≤ 15) (hAA : A' ≤ A) (hm : Match xs (winW f A') A' i) : Match xs (winW f A) A i := by
  obtain ⟨hi, h0, h1, h2⟩ := (match_iff h hk f A' i (by omega)).1 hm
  exact (match_iff h hk f A i hA).2 ⟨hi, h0, by omega, h2⟩
/-- A number below 2^l is spelt by its l bits. -/
theorem V_of_bits (f : Nat → Bool) : ∀ (l : Nat) (B : Int), 0 ≤ B → B < 2 ^ l → (∀ k, k < l → f k = ((B / 2 ^ (l - 1 - k)) % 2 == 1)) → V f l = B
  | 0, B, h0, h1, _ => by simp [V] at *; omega
  | l + 1, B, h0, h1, hb => by
    have hl := hb l (by omega)
    rw [show l + 1 - 1 - l = 0 from by omega, Int.pow_zero, Int.ediv_one] at hl
    rw [Int.pow_succ] at h1
    have ih := V_of_bits f l (B / 2) (by omega) (by omega) (fun k hk => by
      rw [hb k (by omega), Int.ediv_ediv_of_nonneg (by omega), show l + 1 - 1 - k = (l - 1 - k) + 1 from by omega, Int.pow_succ, Int.mul_comm])
    rw [V, ih, hl]
    by_cases h2 : B % 2 = 1
    · rw [h2]; simp; omega
    · have h3 : B % 2 = 0 := by omega
      rw [h3]; simp; omega
/-- The code of a used symbol, spelt at the head of the stream, matches. -/
theorem match_code {xs : List Int} (h : Lens xs) (hk : ksum xs ≤ 32768) (f : Nat → Bool) (A i : Nat) (hA : A ≤ 15) (hi : i < xs.length) (h0 : 0 < xs[i]) (h1 : xs[i] ≤ (A : Int))
    (hb : ∀ k, k < xs[i].toNat → f k = ((codeB xs xs[i] i / 2 ^ (xs[i].toNat - 1 - k)) % 2 == 1)) : Match xs (winW f A) A i := by
  have hc := codeB_lt xs h hk i hi h0
  exact (match_iff h hk f A i hA).2 ⟨hi, h0, h1, V_of_bits f _ _ hc.1 hc.2 hb⟩
/-- .. and cut by at least one bit nothing matches. -/
theorem match_cut {xs : List Int} (h : Lens xs) (hk : ksum xs ≤ 32768) (f : Nat → Bool) (A A' i : Nat) (hA : A ≤ 15) (hm : Match xs (winW f A) A i) (hi : i < xs.length) (hAA : (A' : Int) < xs[i]) (j : Nat) : ¬ Match xs (winW f A') A' j := by
  intro hj
  have h1 : xs[i] ≤ (A : Int) := by
    obtain ⟨_, _, h1, _⟩ := hm
    exact h1
  have hjm := match_mono h hk f A A' j hA (by omega) hj
  obtain rfl := match_unique h hm hjm
  obtain ⟨_, _, h2, _⟩ := hj
  omega
end Go.Proofs.Ymbrcg
