/- huff.zzs930022estarts, walked. -/
import Derived.Test.YmbrcfTile
namespace Go.Proofs.Ymbrcf
open Go.RowKit
set_option linter.unusedVariables false
set_option linter.unusedSimpArgs false
/-- Where the symbols begin: those of lengths below l, and the first s of length l, are laid. -/
def StUp (xs S : List Int) (l : Int) (s : Nat) : Prop := S.length = xs.length ∧ ∀ i (h : i < xs.length), 0 < xs[i] → (xs[i] < l ∨ (xs[i] = l ∧ i < s)) → S[i]?.getD 0 = posI xs xs[i] i
theorem StUp.next {xs S : List Int} {l : Int} (h : StUp xs S l xs.length) : StUp xs S (l + 1) 0 := by
  refine ⟨h.1, fun i hi h0 hc => h.2 i hi h0 ?_⟩
  omega
theorem StUp.skip {xs S : List Int} {l : Int} {s : Nat} (hs : s < xs.length) (hne : xs[s] ≠ l) (h : StUp xs S l s) : StUp xs S l (s + 1) := by
  refine ⟨h.1, fun i hi h0 hc => h.2 i hi h0 ?_⟩
  rcases hc with hc | ⟨hc, hlt⟩
  · exact .inl hc
  · by_cases e : i = s
    · subst e; exact absurd hc hne
    · exact .inr ⟨hc, by omega⟩
theorem StUp.put {xs S : List Int} {l : Int} {s : Nat} (hs : s < xs.length) (he : xs[s] = l) (h : StUp xs S l s) : StUp xs (S.set s (posI xs l s)) l (s + 1) := by
  refine ⟨by rw [List.length_set]; exact h.1, fun i hi h0 hc => ?_⟩
  by_cases e : i = s
  · subst e
    rw [List.getElem?_set_self (by rw [h.1]; exact hi), Option.getD_some, he]
  · rw [List.getElem?_set_ne (by omega)]
    refine h.2 i hi h0 ?_
    omega
theorem pos_next (xs : List Int) (l : Int) (s : Nat) (hs : s < xs.length) (he : xs[s] = l) : posI xs l (s + 1) = posI xs l s + wt l := by
  unfold posI
  rw [List.take_succ_eq_append_getElem hs, List.count_append, he, List.count_singleton_self, Int.natCast_add, Int.add_mul]
  omega
theorem pos_skip (xs : List Int) (l : Int) (s : Nat) (hs : s < xs.length) (he : xs[s] ≠ l) : posI xs l (s + 1) = posI xs l s := by
  unfold posI
  rw [List.take_succ_eq_append_getElem hs, List.count_append, List.count_singleton]
  simp [he]
theorem pos_full (xs : List Int) (l : Int) : posI xs l xs.length = kl xs (l + 1) := by
  unfold posI
  rw [List.take_of_length_le (Nat.le_refl _), kl_succ]
theorem pos_zero (xs : List Int) (l : Int) : posI xs l 0 = kl xs l := by
  unfold posI; simp
theorem pos_bd (xs : List Int) (h : Lens xs) (hk : ksum xs ≤ 32768) (l : Int) (hl : l ≤ 15) (s : Nat) : 0 ≤ posI xs l s ∧ posI xs l s ≤ 32768 := by
  have hw := (wt_bd l).1
  have h1 : (xs.take s).count l ≤ xs.count l := List.Sublist.count_le l (List.take_sublist s xs)
  have h2 : ((xs.take s).count l : Int) * wt l ≤ (xs.count l : Int) * wt l := Int.mul_le_mul_of_nonneg_right (by omega) hw
  have h3 : 0 ≤ ((xs.take s).count l : Int) * wt l := Int.mul_nonneg (by omega) hw
  have h4 := kl_nonneg xs l
  have h5 := kl_succ l xs
  have h6 := kl_mono' xs (l + 1) 16 (by omega)
  rw [kl_all xs h] at h6
  unfold posI
  omega
set_option maxHeartbeats 800000 in
theorem estarts_any (a : Option Addr) (n c : Nat) (xs : List Int) (w : World) (hn : n = xs.length) (h : Sees .u8 w a xs) (hl : Lens xs) (hk : ksum xs ≤ 32768) (h4 : xs.length ≤ 100000) :
    Calls Ycfm.prog 34 #[.slice a n c] w fun e w' => ∃ g S, e = .returned (.slice (some ⟨g, 0, none⟩) n n) ∧ w.heap.size ≤ g ∧ S.length = xs.length ∧ (∀ i (h : i < xs.length), 0 < xs[i] → S[i]?.getD 0 = posI xs xs[i] i) ∧ RowV w' g 3 (ints .i64 S) ∧ Below w.heap.size w w' := by
  subst hn
  obtain ⟨hm, hc⟩ := h
  have HC := hid hc
  have HL := hid hl
  have HK := hid hk
  clear hc hl hk
  go_enter Ycfm.func34, Ycfm.ntmps34
  go_wp2_with (at_make; refine wpList_makeRow _ rfl _ _ 46 rfl 3 (.int .i64 0) 1 8 Ycfm.underlying46 (by kernel_rfl) _ _ _ _ xs.length rfl rfl rfl rfl (by omega) (by unfold maxLen; omega) ?_; intro w1 hrow1 hg1; rw [made_int] at hrow1)
  have hb1 : Below w.heap.size w w1 := below_of_grown hg1 (Nat.le_refl _) (by simp)
  clear hg1
  go_loopw [4, 5] (fun t l wr => ∃ (m : Nat) (A : Int) (S : List Int), 1 ≤ m ∧ m ≤ 16 ∧ l = .int .i64 m ∧ t = .int .i64 A ∧ Hid (A = kl xs m) ∧ Hid (StUp xs S m 0) ∧ RowV wr w.heap.size 3 (ints .i64 S) ∧ Below w.heap.size w wr) (fun _ l _ => 16 - (intOf l).toNat)
  case atStart => exact ⟨1, 0, _, by omega, by omega, rfl, rfl, hid (kl_one xs HL).symm, hid ⟨by simp, fun i hi h0 hc => by omega⟩, hrow1, hb1⟩
  case round =>
    obtain ⟨m, A, S, hm1, hm16, rfl, rfl, HAE, HST, hrow, hb⟩ := hrel
    by_cases hm15 : m ≤ 15
    · have hm15' : (m : Int) ≤ 15 := by omega
      have hw : wt (m : Int) = 32768 / 2 ^ m := by rw [wt_pos (m : Int) (by omega) (by omega), Int.toNat_natCast]
      have hwb := wt_bd (m : Int)
      have HW := hid hw
      rw [hw] at hwb
      clear hw
      go_wp2
      go_loopw [4, 6] (fun t sv wr => ∃ (s : Nat) (A : Int) (S : List Int), s ≤ xs.length ∧ sv = .int .i64 s ∧ t = .int .i64 A ∧ Hid (A = posI xs m s) ∧ Hid (StUp xs S m s) ∧ RowV wr w.heap.size 3 (ints .i64 S) ∧ Below w.heap.size w wr) (fun _ s _ => xs.length - (intOf s).toNat)
      case atStart => exact ⟨0, A, S, Nat.zero_le _, rfl, rfl, hid (by rw [pos_zero]; exact HAE.out), HST, hrow, hb⟩
      case round =>
        obtain ⟨s, B, S2, hs, rfl, rfl, HBE, HS2, hrow2, hb2⟩ := hrel
        by_cases hlt : s < xs.length
        · have hlt' : (s : Int) < (xs.length : Int) := by omega
          obtain ⟨b, off, rfl, hbs, hcell⟩ := HC.out s hlt
          have hcell2 : wr.cell? ⟨b, off + s, none⟩ = some (.int .u8 (xs[s]?.getD 0)) := (hb2.cell hbs).trans hcell
          rw [getD_get _ _ hlt] at hcell2
          have hxr := HL.out _ (List.getElem_mem hlt)
          have hpb := pos_bd xs HL HK m (by omega) s
          rw [← HBE.out] at hpb
          have hsl : s < S2.length := by rw [HS2.out.1]; exact hlt
          have hold := hrow2.int hsl
          have hfz := hrow2.frozen s
          generalize S2[s]?.getD 0 = oldv at hold
          have hSl : S2.length = xs.length := HS2.out.1
          by_cases he : xs[s] = (m : Int)
          · have HP : Hid (StUp xs (S2.set s B) m (s + 1)) := hid (by rw [HBE.out]; exact HS2.out.put hlt he)
            have HN : Hid (B + 32768 / 2 ^ m = posI xs m (s + 1)) := hid (by rw [pos_next xs _ s hlt he, HW.out, HBE.out])
            rw [he] at hcell2
            clear hcell he hSl
            go_wp2
            go_roundw
            case rel => exact ⟨s + 1, B + 32768 / 2 ^ m, S2.set s B, by omega, by go_num, by go_num, HN, HP, hrow2.setInt s B, hb2.setCell (Nat.le_refl _) _⟩
            case measure => simp [intOf]; omega
          · have HP : Hid (StUp xs S2 m (s + 1)) := hid (HS2.out.skip hlt he)
            have HN : Hid (B = posI xs m (s + 1)) := hid (by rw [pos_skip xs _ s hlt he, HBE.out])
            generalize xs[s] = X at hcell2 he hxr
            have he' : (X == (m : Int)) = false := by simpa using he
            clear hcell hSl
            go_wp2
            go_roundw
            case rel => exact ⟨s + 1, B, S2, by omega, by go_num, rfl, HN, HP, hrow2, hb2⟩
            case measure => simp [intOf]; omega
        · have hlt' : ¬ (s : Int) < (xs.length : Int) := by omega
          have hse : s = xs.length := by omega
          have HN : Hid (B = kl xs ((m + 1 : Nat) : Int)) := hid (by rw [HBE.out, hse, pos_full]; rfl)
          have HP : Hid (StUp xs S2 ((m + 1 : Nat) : Int) 0) := hid (by have := HS2.out; rw [hse] at this; exact this.next)
          clear hse
          go_wp2
          go_roundw
          case rel => exact ⟨m + 1, B, S2, by omega, by omega, by go_num, rfl, HN, HP, hrow2, hb2⟩
          case measure => simp [intOf]; omega
    · have hm15' : ¬ (m : Int) ≤ 15 := by omega
      go_wp2
      go_ret
      refine ⟨w.heap.size, rfl, Nat.le_refl _, S, HST.out.1, fun i hi h0 => HST.out.2 i hi h0 ?_, hrow, hb⟩
      have := (HL.out _ (List.getElem_mem hi)).2
      omega
end Go.Proofs.Ymbrcf
