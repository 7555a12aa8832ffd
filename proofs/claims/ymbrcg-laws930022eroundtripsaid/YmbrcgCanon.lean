/- Plain laws of the canonical code: no Go in sight but the plain twins of the functions that were walked. -/
import Derived.Test.YmbrcgAssign
import Derived.Test.YmbrcgOcc0
namespace Go.Proofs.Ymbrcg
set_option linter.unusedVariables false
set_option linter.unusedSimpArgs false

/-- Lengths that the code can have. -/
def Lens (xs : List Int) : Prop := (∀ x ∈ xs, 0 ≤ x ∧ x ≤ 15)
theorem Lens.tail {x : Int} {xs : List Int} (h : Lens (x :: xs)) : Lens xs := fun y hy => h y (List.mem_cons_of_mem _ hy)
theorem Lens.range {xs : List Int} (h : Lens xs) : ∀ x ∈ xs, 0 ≤ x ∧ x ≤ 255 := fun x hx => by have := h x hx; omega
theorem lens_of {xs : List Int} (h : ∀ x ∈ xs, 0 ≤ x ∧ x ≤ 255) (hf : fits xs = true) : Lens xs := fun x hx => ⟨(h x hx).1, ((fits_iff xs).1 hf).1 x hx⟩

/-- How many used symbols have a length below l; their share of the code space. -/
def bsN (xs : List Int) (l : Int) : Nat := (xs.filter fun x => decide (0 < x) && decide (x < l)).length
def kl (xs : List Int) (l : Int) : Int := ksum (xs.filter fun x => decide (x < l))
theorem bsN_cons (x : Int) (xs : List Int) (l : Int) : bsN (x :: xs) l = (if 0 < x ∧ x < l then 1 else 0) + bsN xs l := by
  unfold bsN
  by_cases h : 0 < x ∧ x < l
  · rw [List.filter_cons_of_pos (by simpa using h), List.length_cons, if_pos h]; omega
  · rw [List.filter_cons_of_neg (by simpa using h), if_neg h]; omega
theorem kl_cons (x : Int) (xs : List Int) (l : Int) : kl (x :: xs) l = (if x < l then wt x else 0) + kl xs l := by
  unfold kl
  by_cases h : x < l
  · rw [List.filter_cons_of_pos (by simpa using h), ksum, if_pos h]
  · rw [List.filter_cons_of_neg (by simpa using h), if_neg h]; omega
theorem kl_nonneg (xs : List Int) (l : Int) : 0 ≤ kl xs l := ksum_nonneg _
theorem count_cons' (x : Int) (xs : List Int) (l : Int) : (x :: xs).count l = (if x = l then 1 else 0) + xs.count l := by
  rw [List.count_cons]; simp only [beq_iff_eq]; omega
theorem bsN_succ (l : Int) (hl : 0 < l) : ∀ xs : List Int, bsN xs (l + 1) = bsN xs l + xs.count l
  | [] => rfl
  | x :: xs => by
    rw [bsN_cons, bsN_cons, bsN_succ l hl xs, count_cons']
    by_cases h1 : x = l
    · subst h1; rw [if_pos (by omega), if_neg (by omega), if_pos rfl]; omega
    · by_cases h2 : 0 < x ∧ x < l
      · rw [if_pos (by omega), if_pos h2, if_neg h1]; omega
      · rw [if_neg (by omega), if_neg h2, if_neg h1]; omega
theorem kl_succ (l : Int) : ∀ xs : List Int, kl xs (l + 1) = kl xs l + (xs.count l : Nat) * wt l
  | [] => by simp [kl, ksum]
  | x :: xs => by
    rw [kl_cons, kl_cons, kl_succ l xs, count_cons']
    by_cases h1 : x = l
    · subst h1; rw [if_pos (by omega), if_neg (by omega), if_pos rfl]
      simp only [Int.natCast_add, Int.add_mul]; simp; omega
    · by_cases h2 : x < l
      · rw [if_pos (by omega), if_pos h2, if_neg h1]; simp; omega
      · rw [if_neg (by omega), if_neg h2, if_neg h1]; simp
theorem kl_one : ∀ xs : List Int, Lens xs → kl xs 1 = 0
  | [], _ => rfl
  | x :: xs, h => by
    have := h x (List.mem_cons_self ..)
    rw [kl_cons, kl_one xs h.tail]
    by_cases h1 : x < 1
    · rw [if_pos h1, wt_zero x (by omega)]; rfl
    · rw [if_neg h1]; rfl
theorem bsN_one : ∀ xs : List Int, bsN xs 1 = 0
  | [] => rfl
  | x :: xs => by rw [bsN_cons, bsN_one xs, if_neg (by omega)]
theorem kl_all : ∀ xs : List Int, Lens xs → kl xs 16 = ksum xs
  | [], _ => rfl
  | x :: xs, h => by
    have := h x (List.mem_cons_self ..)
    rw [kl_cons, kl_all xs h.tail, if_pos (by omega), ksum]
theorem kl_mono (xs : List Int) (l : Int) : ∀ d : Nat, kl xs l ≤ kl xs (l + d)
  | 0 => by simp
  | d + 1 => by
    have h1 := kl_mono xs l d
    have h2 := kl_succ (l + d) xs
    have h3 := (wt_bd (l + d)).1
    have h4 : 0 ≤ ((xs.count (l + d) : Nat) : Int) * wt (l + d) := Int.mul_nonneg (by omega) h3
    rw [show l + ((d + 1 : Nat) : Int) = l + d + 1 from by omega]
    omega
theorem kl_mono' (xs : List Int) (l m : Int) (h : l ≤ m) : kl xs l ≤ kl xs m := by
  obtain ⟨d, hd⟩ := Int.eq_ofNat_of_zero_le (show 0 ≤ m - l by omega)
  rw [show m = l + d from by omega]; exact kl_mono xs l d
theorem bsN_mono (xs : List Int) (l : Int) (hl : 0 < l) : ∀ d : Nat, bsN xs l ≤ bsN xs (l + d)
  | 0 => by simp
  | d + 1 => by
    have h1 := bsN_mono xs l hl d
    have h2 := bsN_succ (l + d) (by omega) xs
    rw [show l + ((d + 1 : Nat) : Int) = l + d + 1 from by omega]
    omega
theorem bsN_mono' (xs : List Int) (l m : Int) (hl : 0 < l) (h : l ≤ m) : bsN xs l ≤ bsN xs m := by
  obtain ⟨d, hd⟩ := Int.eq_ofNat_of_zero_le (show 0 ≤ m - l by omega)
  rw [show m = l + d from by omega]; exact bsN_mono xs l hl d

/-- The least code of length l, in units of the code space: FirstCodes tells it. -/
def fc (xs : List Int) (l : Nat) : Int := fcv (cntFrom cnt0 xs) l
theorem fc_kl (xs : List Int) (h : Lens xs) (hk : ksum xs ≤ 32768) : ∀ l : Nat, 1 ≤ l → l ≤ 15 → fc xs l * 2 ^ (15 - l) = kl xs l
  | 0, h1, _ => by omega
  | 1, _, _ => by
    have e : kl xs ((1 : Nat) : Int) = 0 := kl_one xs h
    rw [e]; simp [fc, fcv]
  | l + 2, _, h2 => by
    have ih := fc_kl xs h hk (l + 1) (by omega) (by omega)
    have hs := kl_succ ((l + 1 : Nat) : Int) xs
    have hle : kl xs (((l + 1 : Nat) : Int) + 1) ≤ 32768 := Int.le_trans (kl_mono' xs _ 16 (by omega)) (by rw [kl_all xs h]; exact hk)
    have hw := wt_shl ((l + 1 : Nat) : Int) (by omega) (by omega)
    rw [show (15 - ((l + 1 : Nat) : Int)).toNat = 15 - (l + 1) from by omega] at hw
    have hc := cnt_get xs h.range (l + 1) (by omega)
    have hp : (0 : Int) < 2 ^ (15 - (l + 1)) := Int.pow_pos (by decide)
    have hf : fc xs (l + 2) = (fc xs (l + 1) + (xs.count ((l + 1 : Nat) : Int) : Nat)) * 2 % 4294967296 := by
      show fcv _ (l + 2) = _
      rw [fcv, hc]; rfl
    rw [hw] at hs
    have hsum : (fc xs (l + 1) + (xs.count ((l + 1 : Nat) : Int) : Nat)) * 2 ^ (15 - (l + 1)) = kl xs (((l + 1 : Nat) : Int) + 1) := by
      rw [Int.add_mul, ih, hs]
    have hb0 := (fcv_bd (cntFrom cnt0 xs) (l + 1)).1
    have hb : fc xs (l + 1) + (xs.count ((l + 1 : Nat) : Int) : Nat) ≤ 32768 := by
      refine Int.le_trans ?_ hle
      rw [← hsum]
      have : 0 ≤ fc xs (l + 1) + (xs.count ((l + 1 : Nat) : Int) : Nat) := by have : 0 ≤ fc xs (l + 1) := hb0; omega
      have h := Int.mul_le_mul_of_nonneg_left (show (1 : Int) ≤ 2 ^ (15 - (l + 1)) by omega) this
      rwa [Int.mul_one] at h
    have hnn : 0 ≤ fc xs (l + 1) + (xs.count ((l + 1 : Nat) : Int) : Nat) := by have : 0 ≤ fc xs (l + 1) := hb0; omega
    rw [hf, Int.emod_eq_of_lt (by omega) (by omega)]
    rw [show ((l + 2 : Nat) : Int) = ((l + 1 : Nat) : Int) + 1 from by omega, ← hsum, show 15 - (l + 1) = (15 - (l + 2)) + 1 from by omega, Int.pow_succ, Int.mul_assoc, Int.mul_comm 2]
theorem fc_nonneg (xs : List Int) (l : Nat) : 0 ≤ fc xs l := (fcv_bd _ l).1
theorem fc_cnt (xs : List Int) (h : Lens xs) (hk : ksum xs ≤ 32768) (l : Nat) (h1 : 1 ≤ l) (h2 : l ≤ 15) : (fc xs l + (xs.count (l : Int) : Nat)) * 2 ^ (15 - l) = kl xs ((l : Int) + 1) := by
  have hw := wt_shl (l : Int) (by omega) (by omega)
  rw [show (15 - (l : Int)).toNat = 15 - l from by omega] at hw
  rw [Int.add_mul, fc_kl xs h hk l h1 h2, kl_succ, hw]
theorem fc_cnt_le (xs : List Int) (h : Lens xs) (hk : ksum xs ≤ 32768) (l : Nat) (h1 : 1 ≤ l) (h2 : l ≤ 15) : fc xs l + (xs.count (l : Int) : Nat) ≤ 2 ^ l := by
  have e := fc_cnt xs h hk l h1 h2
  have hle : kl xs ((l : Int) + 1) ≤ 32768 := Int.le_trans (kl_mono' xs _ 16 (by omega)) (by rw [kl_all xs h]; exact hk)
  have hp : (0 : Int) < 2 ^ (15 - l) := Int.pow_pos (by decide)
  have e2 : (2 : Int) ^ l * 2 ^ (15 - l) = 32768 := by
    rw [← Int.pow_add, show l + (15 - l) = 15 from by omega]; decide
  refine Int.le_of_mul_le_mul_right ?_ hp
  rw [e, e2]; exact hle
theorem pow_le_32768 (l : Nat) (h : l ≤ 15) : (2 : Int) ^ l ≤ 32768 := by
  have : (2 : Nat) ^ l ≤ 2 ^ 15 := Nat.pow_le_pow_right (by omega) h
  have h2 : ((2 ^ l : Nat) : Int) ≤ ((2 ^ 15 : Nat) : Int) := Int.ofNat_le.2 this
  rw [Int.natCast_pow] at h2
  exact Int.le_trans h2 (by decide)

/-- Assign, symbol by symbol. -/
theorem asgGo_get : ∀ (xs nx : List Int), Lens xs → nx.length = 16 → (∀ l : Nat, 1 ≤ l → l ≤ 15 → 0 ≤ nx[l]?.getD 0 ∧ nx[l]?.getD 0 + (xs.count (l : Int) : Nat) < 4294967296) →
    ∀ i (hi : i < xs.length), (asgGo nx xs)[i]? = some (if 0 < xs[i] then (nx[xs[i].toNat]?.getD 0 + ((xs.take i).count xs[i] : Nat), xs[i]) else (0, 0))
  | [], nx, _, _, _, i, hi => by simp at hi
  | x :: xs, nx, h, hl, hn, i, hi => by
    have hx := h x (List.mem_cons_self ..)
    rw [asgGo]
    by_cases h0 : 0 < x
    · rw [if_pos h0]
      match i with
      | 0 => simp [h0]
      | i + 1 =>
        have hi' : i < xs.length := by simpa using hi
        rw [List.getElem?_cons_succ, asgGo_get xs _ h.tail (by simpa using hl) ?_ i hi']
        · simp only [List.getElem_cons_succ, List.take_succ_cons]
          congr 1
          by_cases h1 : 0 < xs[i]
          · rw [if_pos h1, if_pos h1, count_cons']
            have hxi := h.tail _ (List.getElem_mem hi')
            by_cases e : x = xs[i]
            · rw [if_pos e, ← e, List.getElem?_set_self (by omega)]
              have := hn x.toNat (by omega) (by omega)
              rw [show ((x.toNat : Nat) : Int) = x from by omega, count_cons', if_pos rfl] at this
              simp only [Option.getD_some]
              congr 1
              omega
            · rw [if_neg e, List.getElem?_set_ne (by omega)]
              congr 1
              omega
          · rw [if_neg h1, if_neg h1]
        · intro l hl1 hl2
          have := hn l hl1 hl2
          rw [count_cons'] at this
          by_cases e : x.toNat = l
          · subst e
            rw [List.getElem?_set_self (by omega)]
            rw [if_pos (by omega)] at this
            simp only [Option.getD_some]
            omega
          · rw [List.getElem?_set_ne e]
            rw [if_neg (by omega)] at this
            omega
    · rw [if_neg h0]
      match i with
      | 0 => simp [h0]
      | i + 1 =>
        have hi' : i < xs.length := by simpa using hi
        rw [List.getElem?_cons_succ, asgGo_get xs _ h.tail hl ?_ i hi']
        · simp only [List.getElem_cons_succ, List.take_succ_cons]
          congr 1
          by_cases h1 : 0 < xs[i]
          · rw [if_pos h1, if_pos h1, count_cons', if_neg (by omega)]
            congr 1
            omega
          · rw [if_neg h1, if_neg h1]
        · intro l hl1 hl2
          have := hn l hl1 hl2
          rw [count_cons', if_neg (by omega)] at this
          omega
/-- The code of symbol i, of length x; where its interval of the code space begins. -/
def codeB (xs : List Int) (x : Int) (i : Nat) : Int := fc xs x.toNat + ((xs.take i).count x : Nat)
def posI (xs : List Int) (x : Int) (i : Nat) : Int := kl xs x + ((xs.take i).count x : Nat) * wt x
theorem assignV_get (xs : List Int) (h : Lens xs) (hk : ksum xs ≤ 32768) (i : Nat) (hi : i < xs.length) : (assignV xs)[i]? = some (if 0 < xs[i] then (codeB xs xs[i] i, xs[i]) else (0, 0)) := by
  have hx := h _ (List.getElem_mem hi)
  rw [assignV, asgGo_get xs _ h (firsts_length _) ?_ i hi]
  · congr 1
    by_cases h0 : 0 < xs[i]
    · rw [if_pos h0, if_pos h0, firsts_get _ _ (by omega)]; rfl
    · rw [if_neg h0, if_neg h0]
  · intro l h1 h2
    rw [firsts_get _ _ (by omega)]
    have a := fc_cnt_le xs h hk l h1 h2
    have b := pow_le_32768 l h2
    have c := fc_nonneg xs l
    unfold fc at a c
    omega
theorem assignV_length (xs : List Int) : (assignV xs).length = xs.length := asgGo_length _ _
theorem count_take_lt (xs : List Int) (i : Nat) (hi : i < xs.length) : (xs.take i).count xs[i] + 1 ≤ xs.count xs[i] := by
  have h : xs.count xs[i] = (xs.take i).count xs[i] + (xs.drop i).count xs[i] := by
    rw [← List.count_append, List.take_append_drop]
  rw [h, List.drop_eq_getElem_cons hi, count_cons', if_pos rfl]
  omega
theorem count_take_mono (xs : List Int) (l : Int) (i j : Nat) (h : i ≤ j) : (xs.take i).count l ≤ (xs.take j).count l := by
  have : xs.take i = (xs.take j).take i := by rw [List.take_take, Nat.min_eq_left h]
  rw [this]
  conv => rhs; rw [← List.take_append_drop i (xs.take j), List.count_append]
  omega
theorem count_take_step (xs : List Int) (i j : Nat) (hi : i < xs.length) (h : i < j) : (xs.take i).count xs[i] + 1 ≤ (xs.take j).count xs[i] := by
  refine Nat.le_trans ?_ (count_take_mono xs xs[i] (i + 1) j h)
  rw [List.take_succ_eq_append_getElem hi, List.count_append, List.count_singleton_self]
  omega
theorem codeB_pos (xs : List Int) (h : Lens xs) (hk : ksum xs ≤ 32768) (x : Int) (h0 : 0 < x) (h1 : x ≤ 15) (i : Nat) : codeB xs x i * wt x = posI xs x i := by
  have e := fc_kl xs h hk x.toNat (by omega) (by omega)
  have hw := wt_shl x h0 h1
  rw [show (15 - x).toNat = 15 - x.toNat from by omega] at hw
  rw [show ((x.toNat : Nat) : Int) = x from by omega, ← hw] at e
  rw [codeB, posI, Int.add_mul, e]
theorem codeB_lt (xs : List Int) (h : Lens xs) (hk : ksum xs ≤ 32768) (i : Nat) (hi : i < xs.length) (h0 : 0 < xs[i]) : 0 ≤ codeB xs xs[i] i ∧ codeB xs xs[i] i < 2 ^ xs[i].toNat := by
  have hx := h _ (List.getElem_mem hi)
  have a := fc_cnt_le xs h hk xs[i].toNat (by omega) (by omega)
  have b := fc_nonneg xs xs[i].toNat
  rw [show ((xs[i].toNat : Nat) : Int) = xs[i] from by omega] at a
  have c := count_take_lt xs i hi
  unfold codeB
  omega
/-- Whoever comes earlier, by length and then by number, lies wholly before. -/
theorem pos_before (xs : List Int) (h : Lens xs) (i j : Nat) (hi : i < xs.length) (hj : j < xs.length) (h0 : 0 < xs[i]) (hb : xs[i] < xs[j] ∨ (xs[i] = xs[j] ∧ i < j)) : posI xs xs[i] i + wt xs[i] ≤ posI xs xs[j] j := by
  have hw := (wt_bd xs[i]).1
  unfold posI
  rcases hb with hb | ⟨he, hij⟩
  · have h1 := kl_mono' xs (xs[i] + 1) xs[j] (by omega)
    rw [kl_succ] at h1
    have c := count_take_lt xs i hi
    have h2 : (((xs.take i).count xs[i] : Nat) : Int) * wt xs[i] + wt xs[i] ≤ ((xs.count xs[i] : Nat) : Int) * wt xs[i] := by
      have := Int.mul_le_mul_of_nonneg_right (show (((xs.take i).count xs[i] : Nat) : Int) + 1 ≤ ((xs.count xs[i] : Nat) : Int) by omega) hw
      rw [Int.add_mul, Int.one_mul] at this
      exact this
    have h3 : 0 ≤ (((xs.take j).count xs[j] : Nat) : Int) * wt xs[j] := Int.mul_nonneg (by omega) (wt_bd _).1
    omega
  · rw [← he]
    have c := count_take_step xs i j hi hij
    have := Int.mul_le_mul_of_nonneg_right (show (((xs.take i).count xs[i] : Nat) : Int) + 1 ≤ (((xs.take j).count xs[i] : Nat) : Int) by omega) hw
    rw [Int.add_mul, Int.one_mul] at this
    omega
theorem pos_end (xs : List Int) (h : Lens xs) (hk : ksum xs ≤ 32768) (i : Nat) (hi : i < xs.length) : posI xs xs[i] i + wt xs[i] ≤ 32768 := by
  have hx := h _ (List.getElem_mem hi)
  have hw := (wt_bd xs[i]).1
  have h1 := kl_mono' xs (xs[i] + 1) 16 (by omega)
  rw [kl_succ, kl_all xs h] at h1
  have c := count_take_lt xs i hi
  have := Int.mul_le_mul_of_nonneg_right (show (((xs.take i).count xs[i] : Nat) : Int) + 1 ≤ ((xs.count xs[i] : Nat) : Int) by omega) hw
  rw [Int.add_mul, Int.one_mul] at this
  unfold posI
  omega
/-- A sum over all symbols that come before (length l, number i). -/
def sumB (f : Int → Int) (l : Int) (i : Nat) : Nat → List Int → Int
  | _, [] => 0
  | j, m :: ms => (if 0 < m ∧ (m < l ∨ (m = l ∧ j < i)) then f m else 0) + sumB f l i (j + 1) ms
theorem sumB_wt (l : Int) (i : Nat) (hl : 0 < l) : ∀ (ms : List Int) (j : Nat), Lens ms → sumB wt l i j ms = kl ms l + ((ms.take (i - j)).count l : Nat) * wt l
  | [], j, _ => by simp [sumB, kl, ksum]
  | m :: ms, j, h => by
    have hm := h m (List.mem_cons_self ..)
    rw [sumB, sumB_wt l i hl ms (j + 1) h.tail, kl_cons]
    by_cases h1 : m < l
    · rw [if_pos h1]
      by_cases hji : j < i
      · rw [show i - j = (i - (j + 1)) + 1 from by omega, List.take_succ_cons, count_cons', if_neg (show ¬ m = l by omega)]
        by_cases h0 : 0 < m
        · rw [if_pos ⟨h0, .inl h1⟩]; simp; omega
        · rw [if_neg (by omega), wt_zero m (by omega)]; simp
      · rw [show i - j = 0 from by omega, show i - (j + 1) = 0 from by omega]
        by_cases h0 : 0 < m
        · rw [if_pos ⟨h0, .inl h1⟩]; simp; try omega
        · rw [if_neg (by omega), wt_zero m (by omega)]; simp
    · rw [if_neg h1]
      by_cases hji : j < i
      · rw [show i - j = (i - (j + 1)) + 1 from by omega, List.take_succ_cons, count_cons']
        by_cases e : m = l
        · rw [if_pos (by omega), if_pos e, e]
          simp only [Int.natCast_add, Int.add_mul]; simp; omega
        · rw [if_neg (by omega), if_neg e]; simp
      · rw [show i - j = 0 from by omega, show i - (j + 1) = 0 from by omega, if_neg (by omega)]; simp
theorem sumB_pos (xs : List Int) (h : Lens xs) (l : Int) (hl : 0 < l) (i : Nat) : sumB wt l i 0 xs = posI xs l i := by
  rw [sumB_wt l i hl xs 0 h]; rfl
theorem sumB_nonneg (f : Int → Int) (hf : ∀ x, 0 ≤ f x) (l : Int) (i : Nat) : ∀ (ms : List Int) (j : Nat), 0 ≤ sumB f l i j ms
  | [], _ => by simp [sumB]
  | m :: ms, j => by
    have := sumB_nonneg f hf l i ms (j + 1)
    have := hf m
    rw [sumB]; split <;> omega
theorem sumB_drop (f : Int → Int) (l : Int) (i k : Nat) (xs : List Int) (h : k < xs.length) : sumB f l i k (xs.drop k) = (if 0 < xs[k] ∧ (xs[k] < l ∨ (xs[k] = l ∧ k < i)) then f xs[k] else 0) + sumB f l i (k + 1) (xs.drop (k + 1)) := by
  rw [List.drop_eq_getElem_cons h, sumB]
end Go.Proofs.Ymbrcg
