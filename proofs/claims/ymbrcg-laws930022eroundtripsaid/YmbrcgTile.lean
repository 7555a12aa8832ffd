/- The order of a table tiles the code space: plain. -/
import Derived.Test.YmbrcgSort
namespace Go.Proofs.Ymbrcg
set_option linter.unusedVariables false
set_option linter.unusedSimpArgs false

theorem occ_nth (l : Int) : ∀ (xs : List Int) (c : Nat), c < xs.count l → ∃ i, ∃ h : i < xs.length, xs[i] = l ∧ (xs.take i).count l = c
  | [], c, h => by simp at h
  | x :: xs, c, h => by
    rw [count_cons'] at h
    by_cases e : x = l
    · rw [if_pos e] at h
      cases c with
      | zero => exact ⟨0, by simp, by simpa using e, by simp⟩
      | succ c =>
        obtain ⟨i, hi, h1, h2⟩ := occ_nth l xs c (by omega)
        refine ⟨i + 1, by simpa using hi, by simpa using h1, ?_⟩
        rw [List.take_succ_cons, count_cons', if_pos e, h2]; omega
    · rw [if_neg e] at h
      obtain ⟨i, hi, h1, h2⟩ := occ_nth l xs c (by omega)
      refine ⟨i + 1, by simpa using hi, by simpa using h1, ?_⟩
      rw [List.take_succ_cons, count_cons', if_neg e, h2]; omega
theorem level_of (xs : List Int) (k : Nat) : ∀ m : Nat, k < bsN xs ((m : Int) + 1) → ∃ l : Nat, 1 ≤ l ∧ l ≤ m ∧ bsN xs (l : Int) ≤ k ∧ k < bsN xs ((l : Int) + 1)
  | 0, h => by rw [show ((0 : Nat) : Int) + 1 = 1 from rfl, bsN_one] at h; omega
  | m + 1, h => by
    by_cases h' : k < bsN xs ((m : Int) + 1)
    · obtain ⟨l, h1, h2, h3⟩ := level_of xs k m h'
      exact ⟨l, h1, by omega, h3⟩
    · exact ⟨m + 1, by omega, by omega, by push_cast; omega, h⟩
/-- Every place of the order is some used symbol's. -/
theorem rank_surj (xs : List Int) (k : Nat) (h : k < bsN xs 16) : ∃ i, ∃ h : i < xs.length, 0 < xs[i] ∧ rankI xs xs[i] i = k := by
  obtain ⟨l, h1, h2, h3, h4⟩ := level_of xs k 15 h
  rw [bsN_succ _ (by omega)] at h4
  obtain ⟨i, hi, e, hc⟩ := occ_nth (l : Int) xs (k - bsN xs (l : Int)) (by omega)
  refine ⟨i, hi, by omega, ?_⟩
  rw [e, rankI, hc]
  omega
theorem kl_same (xs : List Int) (l : Int) (hl : 0 < l) : ∀ d : Nat, bsN xs (l + d) = bsN xs l → kl xs (l + d) = kl xs l
  | 0, _ => by simp
  | d + 1, h => by
    have e : l + ((d + 1 : Nat) : Int) = (l + d) + 1 := by push_cast; omega
    rw [e] at h ⊢
    have hm := bsN_mono xs l hl d
    rw [bsN_succ _ (by omega)] at h
    rw [kl_succ, kl_same xs l hl d (by omega), show xs.count (l + d) = 0 from by omega]
    simp
theorem kl_same' (xs : List Int) (l m : Int) (hl : 0 < l) (hm : l ≤ m) (h : bsN xs m = bsN xs l) : kl xs m = kl xs l := by
  have := kl_same xs l hl (m - l).toNat
  rw [show l + ((m - l).toNat : Int) = m from by omega] at this
  exact this h
theorem tile_end (xs : List Int) (i : Nat) (hi : i < xs.length) (m : Int) (h0 : 0 < xs[i]) (hm : xs[i] + 1 ≤ m) (hr : rankI xs xs[i] i + 1 = bsN xs m) : posI xs xs[i] i + wt xs[i] = kl xs m := by
  have c := count_take_lt xs i hi
  have hb := bsN_mono' xs (xs[i] + 1) m (by omega) hm
  have hs := bsN_succ xs[i] h0 xs
  unfold rankI at hr
  rw [kl_same' xs (xs[i] + 1) m (by omega) hm (by omega), kl_succ, posI]
  have : ((xs.count xs[i] : Nat) : Int) = ((xs.take i).count xs[i] : Nat) + 1 := by omega
  rw [this, Int.add_mul]; omega
theorem tile_next (xs : List Int) (h : Lens xs) (i j : Nat) (hi : i < xs.length) (hj : j < xs.length) (h0 : 0 < xs[i]) (h1 : 0 < xs[j]) (hr : rankI xs xs[j] j = rankI xs xs[i] i + 1) : posI xs xs[i] i + wt xs[i] = posI xs xs[j] j := by
  have ci := count_take_lt xs i hi
  have cj := count_take_lt xs j hj
  rcases Int.lt_trichotomy xs[i] xs[j] with hlt | heq | hgt
  · have m := bsN_mono' xs (xs[i] + 1) xs[j] (by omega) (by omega)
    rw [bsN_succ _ h0] at m
    have hz : (xs.take j).count xs[j] = 0 := by unfold rankI at hr; omega
    rw [tile_end xs i hi xs[j] h0 (by omega) (by unfold rankI at hr ⊢; omega), posI, hz]
    simp
  · unfold rankI at hr
    rw [← heq] at hr ⊢
    unfold posI
    rw [show (xs.take j).count xs[i] = (xs.take i).count xs[i] + 1 from by omega]
    push_cast
    rw [Int.add_mul]; omega
  · have m := bsN_mono' xs (xs[j] + 1) xs[i] (by omega) (by omega)
    rw [bsN_succ _ h1] at m
    unfold rankI at hr
    omega
theorem tile_last (xs : List Int) (h : Lens xs) (i : Nat) (hi : i < xs.length) (h0 : 0 < xs[i]) (hr : rankI xs xs[i] i + 1 = bsN xs 16) : posI xs xs[i] i + wt xs[i] = ksum xs := by
  have hx := h _ (List.getElem_mem hi)
  rw [tile_end xs i hi 16 h0 (by omega) hr, kl_all xs h]
theorem tile_first (xs : List Int) (h : Lens xs) (i : Nat) (hi : i < xs.length) (h0 : 0 < xs[i]) (hr : rankI xs xs[i] i = 0) : posI xs xs[i] i = 0 := by
  unfold rankI at hr
  rw [posI, show (xs.take i).count xs[i] = 0 from by omega, kl_same' xs 1 xs[i] (by omega) (by omega) (by rw [bsN_one]; omega), kl_one xs h]
  simp
theorem tile_none (xs : List Int) (h : Lens xs) (hr : bsN xs 16 = 0) : ksum xs = 0 := by
  rw [← kl_all xs h, kl_same' xs 1 16 (by omega) (by omega) (by rw [bsN_one, hr]), kl_one xs h]
end Go.Proofs.Ymbrcg
