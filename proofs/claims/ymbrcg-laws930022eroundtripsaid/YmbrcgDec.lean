/- Decoding one symbol by the canonical code: plain. -/
import Derived.Test.YmbrcgTile
import Derived.Test.YmbrcgAt
namespace Go.Proofs.Ymbrcg
set_option linter.unusedVariables false
set_option linter.unusedSimpArgs false

/-- The number spelt by the first l bits of f. -/
def V (f : Nat → Bool) : Nat → Int
  | 0 => 0
  | l + 1 => 2 * V f l + (if f l then 1 else 0)
theorem V_nonneg (f : Nat → Bool) : ∀ l, 0 ≤ V f l
  | 0 => by simp [V]
  | l + 1 => by have := V_nonneg f l; rw [V]; split <;> omega
theorem V_lt (f : Nat → Bool) : ∀ l, V f l < 2 ^ l
  | 0 => by simp [V]
  | l + 1 => by have := V_lt f l; rw [V, Int.pow_succ]; split <;> omega
theorem V_half (f : Nat → Bool) (l : Nat) : V f (l + 1) / 2 = V f l := by rw [V]; split <;> omega
theorem V_split (f : Nat → Bool) (l : Nat) : ∀ d : Nat, V f (l + d) / 2 ^ d = V f l
  | 0 => by simp
  | d + 1 => by
    rw [show l + (d + 1) = (l + d) + 1 from rfl, Int.pow_succ, Int.mul_comm (2 ^ d) 2, ← Int.ediv_ediv_of_nonneg (by omega), V_half, V_split f l d]
/-- The window: A bits, then zeros, 15 in all. -/
def winW (f : Nat → Bool) (A : Nat) : Int := V f A * 2 ^ (15 - A)
theorem win_div (f : Nat → Bool) (A l : Nat) (hA : A ≤ 15) (hl : l ≤ A) : winW f A / 2 ^ (15 - l) = V f l := by
  obtain ⟨d, rfl⟩ : ∃ d, A = l + d := ⟨A - l, by omega⟩
  rw [winW, show 15 - l = d + (15 - (l + d)) from by omega, Int.pow_add, Int.mul_ediv_mul_of_pos_left _ _ (pow_pos' _), V_split]
theorem win_bd (f : Nat → Bool) (A : Nat) (hA : A ≤ 15) : 0 ≤ winW f A ∧ winW f A < 32768 := by
  have h1 := V_nonneg f A
  have h2 := V_lt f A
  have hp := pow_pos' (15 - A)
  refine ⟨Int.mul_nonneg h1 (by omega), ?_⟩
  have : V f A * 2 ^ (15 - A) < 2 ^ A * 2 ^ (15 - A) := Int.mul_lt_mul_of_pos_right h2 hp
  rw [← Int.pow_add, show A + (15 - A) = 15 from by omega] at this
  exact this
/-- Symbol i is spelt at the head of the window, of whose bits A are there. -/
def Match (xs : List Int) (W : Int) (A : Nat) (i : Nat) : Prop := ∃ h : i < xs.length, 0 < xs[i] ∧ xs[i] ≤ (A : Int) ∧ posI xs xs[i] i ≤ W ∧ W < posI xs xs[i] i + wt xs[i]
theorem match_unique {xs : List Int} (h : Lens xs) {W : Int} {A i j : Nat} (hi : Match xs W A i) (hj : Match xs W A j) : i = j := by
  obtain ⟨li, i0, i1, i2, i3⟩ := hi
  obtain ⟨lj, j0, j1, j2, j3⟩ := hj
  rcases Int.lt_trichotomy xs[i] xs[j] with hlt | heq | hgt
  · have := pos_before xs h i j li lj i0 (.inl hlt); omega
  · rcases Nat.lt_trichotomy i j with h' | h' | h'
    · have := pos_before xs h i j li lj i0 (.inr ⟨heq, h'⟩); omega
    · exact h'
    · have := pos_before xs h j i lj li j0 (.inr ⟨heq.symm, h'⟩); omega
  · have := pos_before xs h j i lj li j0 (.inl hgt); omega
theorem pos_kl (xs : List Int) (i : Nat) (hi : i < xs.length) : posI xs xs[i] i + wt xs[i] ≤ kl xs (xs[i] + 1) := by
  have c := count_take_lt xs i hi
  have hw := wt_bd xs[i]
  rw [kl_succ, posI]
  have : (((xs.take i).count xs[i] : Nat) : Int) * wt xs[i] + wt xs[i] ≤ ((xs.count xs[i] : Nat) : Int) * wt xs[i] := by
    have h1 : (((xs.take i).count xs[i] : Nat) : Int) * wt xs[i] + wt xs[i] = ((((xs.take i).count xs[i] : Nat) : Int) + 1) * wt xs[i] := by rw [Int.add_mul]; omega
    rw [h1]
    exact Int.mul_le_mul_of_nonneg_right (by omega) hw.1
  omega
theorem no_match {xs : List Int} {W : Int} {A : Nat} (hk : kl xs ((A : Int) + 1) ≤ W) (i : Nat) : ¬ Match xs W A i := by
  rintro ⟨hi, i0, i1, i2, i3⟩
  have h1 := pos_kl xs i hi
  have h2 := kl_mono' xs (xs[i] + 1) ((A : Int) + 1) (by omega)
  omega
/-- One length's step: the code is at least the first; it is among the codes of that length exactly if the window lies below what all codes up to that length take. -/
theorem dec_low (xs : List Int) (h : Lens xs) (hk : ksum xs ≤ 32768) (f : Nat → Bool) (A l : Nat) (hA : A ≤ 15) (h1 : 1 ≤ l) (hl : l ≤ A) (hw : kl xs l ≤ winW f A) : fc xs l ≤ V f l := by
  rw [← win_div f A l hA hl]
  refine (Int.le_ediv_iff_mul_le (pow_pos' _)).2 ?_
  rw [fc_kl xs h hk l h1 (by omega)]; exact hw
theorem dec_hit (xs : List Int) (h : Lens xs) (hk : ksum xs ≤ 32768) (f : Nat → Bool) (A l : Nat) (hA : A ≤ 15) (h1 : 1 ≤ l) (hl : l ≤ A) : V f l < fc xs l + (xs.count (l : Int) : Nat) ↔ winW f A < kl xs ((l : Int) + 1) := by
  rw [← win_div f A l hA hl, Int.ediv_lt_iff_lt_mul (pow_pos' _), fc_cnt xs h hk l h1 (by omega)]
theorem dec_sym (xs : List Int) (h : Lens xs) (hk : ksum xs ≤ 32768) (f : Nat → Bool) (A l : Nat) (hA : A ≤ 15) (h1 : 1 ≤ l) (hl : l ≤ A) (hw : kl xs l ≤ winW f A) (hh : V f l < fc xs l + (xs.count (l : Int) : Nat)) :
    ∃ i, ∃ hi : i < xs.length, xs[i] = (l : Int) ∧ (rankI xs xs[i] i : Int) = (bsN xs l : Nat) + (V f l - fc xs l) ∧ Match xs (winW f A) A i := by
  have hlow := dec_low xs h hk f A l hA h1 hl hw
  obtain ⟨i, hi, e, hc⟩ := occ_nth (l : Int) xs (V f l - fc xs l).toNat (by omega)
  have hcI : (((xs.take i).count (l : Int) : Nat) : Int) = V f l - fc xs l := by omega
  have hws : wt (l : Int) = 2 ^ (15 - l) := by rw [wt_shl _ (by omega) (by omega), show (15 - (l : Int)).toNat = 15 - l from by omega]
  have hp := pow_pos' (15 - l)
  have hpos : posI xs (l : Int) i = V f l * 2 ^ (15 - l) := by
    rw [posI, hcI, hws, ← fc_kl xs h hk l h1 (by omega), Int.sub_mul]; omega
  have hd := win_div f A l hA hl
  have hm := Int.mul_ediv_add_emod (winW f A) (2 ^ (15 - l))
  rw [hd] at hm
  have hr0 := Int.emod_nonneg (winW f A) (show (2 : Int) ^ (15 - l) ≠ 0 by omega)
  have hr1 := Int.emod_lt_of_pos (winW f A) hp
  have hcm := Int.mul_comm (V f l) (2 ^ (15 - l))
  refine ⟨i, hi, e, ?_, hi, by omega, by omega, ?_, ?_⟩
  · rw [e, rankI]; push_cast; omega
  · rw [e, hpos]; omega
  · rw [e, hpos, hws]; omega
/-- How many bits are there from pos on, at most 15. -/
def availD (ds : List Int) (N pos : Int) : Nat := if 0 ≤ pos then (min 15 (min N (8 * (ds.length : Int)) - pos)).toNat else 0
theorem avail_le (ds : List Int) (N pos : Int) : availD ds N pos ≤ 15 := by unfold availD; split <;> omega
/-- The bits from pos on. -/
def strm (ds : List Int) (pos : Int) (l : Nat) : Bool := bitD ds (pos + l).toNat
theorem at_in (ds : List Int) (N pos : Int) (l : Nat) (hl : l < availD ds N pos) : atV ds N (pos + l) = (strm ds pos l, true) := by
  unfold availD at hl
  split at hl
  · rw [atV, if_pos (by omega)]; rfl
  · omega
theorem at_out (ds : List Int) (N pos : Int) (hl : availD ds N pos < 15) : atV ds N (pos + (availD ds N pos : Nat)) = (false, false) := by
  unfold availD at hl ⊢
  split
  · rename_i h; rw [if_pos h] at hl; rw [atV, if_neg (by omega)]
  · rw [atV, if_neg (by omega)]
theorem avail_room (ds : List Int) (N pos : Int) (h : 0 < availD ds N pos) : 0 ≤ pos ∧ pos + (availD ds N pos : Nat) ≤ N ∧ pos + (availD ds N pos : Nat) ≤ 8 * (ds.length : Int) := by
  unfold availD at h ⊢
  split
  · rename_i h'; rw [if_pos h'] at h; omega
  · rename_i h'; rw [if_neg h'] at h; omega
end Go.Proofs.Ymbrcg
