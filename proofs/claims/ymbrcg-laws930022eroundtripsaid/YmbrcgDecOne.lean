/- (huff.Table).DecodeOne, walked. -/
import Derived.Test.YmbrcgDec
import Derived.Test.YmbrcgTab
namespace Go.Proofs.Ymbrcg
open Go.RowKit
set_option linter.unusedVariables false
set_option linter.unusedSimpArgs false

/-- What DecodeOne answers. -/
def DecAns (xs ds : List Int) (N pos : Int) (e : Ending) : Prop :=
  (∃ i, ∃ h : i < xs.length, Match xs (winW (strm ds pos) (availD ds N pos)) (availD ds N pos) i ∧ e = .returned (.tuple #[.int .i64 i, .int .i64 (pos + xs[i]), .int .i64 0])) ∨
  ((∀ i, ¬ Match xs (winW (strm ds pos) (availD ds N pos)) (availD ds N pos) i) ∧ e = .returned (.tuple #[.int .i64 0, .int .i64 pos, .int .i64 (if availD ds N pos < 15 then 1 else 2)]))
theorem bsN_le (xs : List Int) (l : Int) : bsN xs l ≤ xs.length := List.length_filter_le _ _

set_option maxRecDepth 8000 in
set_option maxHeartbeats 1600000 in
theorem decone_any (xs ds : List Int) (ac : Option Addr) (nc cc go : Nat) (ord : List Int) (a : Option Addr) (n c : Nat) (N pos : Int) (w : World)
    (hl : Lens xs) (hk : ksum xs ≤ 32768) (hx : xs.length ≤ 100000) (ho : Ordered xs ord) (hro : RowV w go 3 (ints .i64 ord))
    (hn : n = ds.length) (hs : Sees .u8 w a ds) (hr : ∀ x ∈ ds, 0 ≤ x ∧ x ≤ 255) (hN : N ≤ 9223372036854775807) (hp : -9223372036854775808 ≤ pos ∧ pos ≤ 9223372036854775807) :
    Calls Ycgm.prog 30 #[.agg (tabCells (.slice ac nc cc) (cntFrom cnt0 xs) (firsts (cntFrom cnt0 xs)) (.slice (some ⟨go, 0, none⟩) ord.length ord.length)).toArray, .agg #[.slice a n c, .int .i64 N], .int .i64 pos] w fun e w' => DecAns xs ds N pos e ∧ Below w.heap.size w w' := by
  have HL := hid hl
  have HK := hid hk
  have HO := hid ho
  have HRO := hid hro
  have HNN := hid hn
  have HS := hid hs
  have HR := hid hr
  have HCL : Hid ((cntFrom cnt0 xs).length = 16) := cntFrom_length xs cnt0
  have HFL := hid (firsts_length (cntFrom cnt0 xs))
  have hob : ord.length ≤ 100000 := by rw [ho.1]; exact Nat.le_trans (bsN_le _ _) hx
  have hol := hro.lt
  -- the table's cells
  have HT1 : Hid (∀ l : Nat, 1 ≤ l → l ≤ 15 → (tabCells (.slice ac nc cc) (cntFrom cnt0 xs) (firsts (cntFrom cnt0 xs)) (.slice (some ⟨go, 0, none⟩) ord.length ord.length))[1 + l]? = some (.int .i64 ((xs.count (l : Int) : Nat) : Int))) := by
    refine hid ?_
    intro l h1 h2
    rw [tab_cnt _ _ _ _ HCL l (by omega), cnt_get xs HL.out.range l (by omega)]
  have HT2 : Hid (∀ l : Nat, 1 ≤ l → l ≤ 15 → (tabCells (.slice ac nc cc) (cntFrom cnt0 xs) (firsts (cntFrom cnt0 xs)) (.slice (some ⟨go, 0, none⟩) ord.length ord.length))[17 + l]? = some (.int .u32 (fc xs l))) := by
    refine hid ?_
    intro l h1 h2
    rw [tab_fst _ _ _ _ HCL HFL l (by omega), firsts_get _ _ (by omega)]
    rfl
  have HT3 := hid (tab_ord (.slice ac nc cc) (.slice (some ⟨go, 0, none⟩) ord.length ord.length) (cntFrom cnt0 xs) (firsts (cntFrom cnt0 xs)) HCL HFL)
  generalize tabCells (.slice ac nc cc) (cntFrom cnt0 xs) (firsts (cntFrom cnt0 xs)) (.slice (some ⟨go, 0, none⟩) ord.length ord.length) = T at HT1 HT2 HT3
  obtain ⟨A, hA⟩ : ∃ A, availD ds N pos = A := ⟨_, rfl⟩
  obtain ⟨f, hf⟩ : ∃ f, strm ds pos = f := ⟨_, rfl⟩
  have HA15 : Hid (A ≤ 15) := hid (by rw [← hA]; exact avail_le _ _ _)
  have HIN : Hid (∀ l, l < A → atV ds N (pos + (l : Nat)) = (f l, true)) := hid (by rw [← hA, ← hf]; exact fun l h => at_in ds N pos l h)
  have HOUT : Hid (A < 15 → atV ds N (pos + (A : Nat)) = (false, false)) := hid (by rw [← hA]; exact at_out ds N pos)
  have HRM : Hid (0 < A → 0 ≤ pos ∧ pos + (A : Nat) ≤ N) := hid (by rw [← hA]; exact fun h => ⟨(avail_room ds N pos h).1, (avail_room ds N pos h).2.1⟩)
  have HANS : Hid (∀ e, DecAns xs ds N pos e ↔ ((∃ i, ∃ h : i < xs.length, Match xs (winW f A) A i ∧ e = .returned (.tuple #[.int .i64 i, .int .i64 (pos + xs[i]), .int .i64 0])) ∨ ((∀ i, ¬ Match xs (winW f A) A i) ∧ e = .returned (.tuple #[.int .i64 0, .int .i64 pos, .int .i64 (if A < 15 then 1 else 2)])))) := hid (fun e => by unfold DecAns; rw [hA, hf])
  have HW := hid (win_bd f A HA15)
  clear hl hk ho hro hn hs hr hA hf
  go_enter Ycgm.func30, Ycgm.ntmps30
  go_wp2
  go_loopw [9, 10, 11] (fun cv bv lv wr => ∃ (l : Nat), 1 ≤ l ∧ l ≤ 16 ∧ l ≤ A + 1 ∧ lv = .int .i64 l ∧ cv = .int .i64 (V f (l - 1)) ∧ bv = .int .i64 (bsN xs (l : Int) : Nat) ∧ Hid (kl xs (l : Int) ≤ winW f A) ∧ RowV wr w.heap.size 31 T ∧ RowV wr (w.heap.size + 1) 41 [.slice a n c, .int .i64 N] ∧ Below w.heap.size w wr) (fun _ _ lv _ => 16 - (intOf lv).toNat)
  case atStart =>
    refine ⟨1, by omega, by omega, by omega, rfl, rfl, ?_, hid ?_, ?_, ?_, ?_⟩
    · rw [show ((1 : Nat) : Int) = 1 from rfl, bsN_one]; rfl
    · rw [show ((1 : Nat) : Int) = 1 from rfl, kl_one xs HL]; exact HW.out.1
    · exact (RowV.fresh w _ T _ rfl).alloc _
    · exact RowV.fresh _ _ [.slice a n c, .int .i64 N] _ (by simp)
    · exact ((Below.refl _ _).alloc (Nat.le_refl _) _).alloc (by simp) _
  case round =>
    obtain ⟨l, hl1, hl16, hlA, rfl, rfl, rfl, HKL, hrt, hrb, hb⟩ := hrel
    have hws := hb.size
    have b0 := hrb.cell (i := 0) rfl
    have b1 := hrb.cell (i := 1) rfl
    by_cases hl15 : l ≤ 15
    · have hl15' : (l : Int) ≤ 15 := by omega
      have HSW : Hid (Sees .u8 wr a ds) := hid (HS.out.below hb (Nat.le_refl _))
      by_cases hin : l - 1 < A
      · have hpa := HRM.out (by omega)
        have HV : Hid (atV ds N (pos + (l : Int) - 1) = (f (l - 1), true)) := hid (by
          have := HIN.out (l - 1) hin
          rw [show pos + (((l - 1 : Nat)) : Int) = pos + (l : Int) - 1 from by omega] at this
          exact this)
        have hc0 := V_nonneg f (l - 1)
        have hc1 := V_lt f (l - 1)
        have hc2 := pow_le_32768 (l - 1) (by omega)
        have HT1L := HT1.out l hl1 hl15
        have HT2L := HT2.out l hl1 hl15
        obtain ⟨C, hC⟩ : ∃ C, V f (l - 1) = C := ⟨_, rfl⟩
        rw [hC] at hc0 hc1 ⊢
        have HC := hid hC
        obtain ⟨B, hB⟩ : ∃ B, f (l - 1) = B := ⟨_, rfl⟩
        rw [hB] at HV
        have HB := hid hB
        clear hC hB
        cases B
        · have HVL : Hid (V f l = C * 2) := hid (by
            rw [show l = (l - 1) + 1 from by omega, V, HC.out, HB.out]; simp; omega)
          have hlow := dec_low xs HL HK f A l HA15 hl1 (by omega) HKL
          have hhit := dec_hit xs HL HK f A l HA15 hl1 (by omega)
          have hsym := dec_sym xs HL HK f A l HA15 hl1 (by omega) HKL
          rw [HVL.out] at hlow hhit hsym
          have HHIT := hid hhit
          have HSYM := hid hsym
          clear hhit hsym
          have hfb := (fcv_bd (cntFrom cnt0 xs) l)
          rw [show fcv (cntFrom cnt0 xs) l = fc xs l from rfl] at hfb
          have hkc : xs.count (l : Int) ≤ xs.length := List.count_le_length
          have hbn := bsN_le xs (l : Int)
          have HBS := hid (bsN_succ (l : Int) (by omega) xs)
          generalize fc xs l = F at HT2L hlow HHIT HSYM hfb
          generalize xs.count (l : Int) = K at HT1L HHIT HSYM hkc HBS
          generalize bsN xs (l : Int) = BS at HSYM hbn HBS
          obtain ⟨o, ho⟩ : ∃ o : Nat, C * 2 - F = (o : Int) := ⟨(C * 2 - F).toNat, by omega⟩
          have HOI := hid ho
          by_cases hh : o < K
          · obtain ⟨i, hi, hxi, hrk, hma⟩ := HSYM.out (by have := HOI.out; omega)
            have hoi := HO.out.2 i hi (by omega)
            have hrk2 : rankI xs xs[i] i = BS + o := by have := HOI.out; omega
            rw [hrk2] at hoi
            have hlo : BS + o < ord.length := by
              rcases Nat.lt_or_ge (BS + o) ord.length with h | h
              · exact h
              · rw [List.getElem?_eq_none h] at hoi; simp at hoi
            have HOC : Hid (∀ wx, Below wr.heap.size wr wx → wx.cell? ⟨go, BS + o, none⟩ = some (.int .i64 (i : Int))) := hid (fun wx hbx => (hbx.cell (by show go < wr.heap.size; omega)).trans ((hb.cell hol).trans (by rw [HRO.out.int hlo, hoi]; rfl)))
            have HXI := hid hxi
            have HMA := hid hma
            clear hrk hrk2 hoi hxi hma
            go_wp2_with (go_at_call 19; refine (at_n a n c ds N (pos + (l : Int) - 1) _ HNN HSW HR (by omega) false true HV).mono ?_; rintro e w1 ⟨rfl, hb1⟩; have u1 := (hrt.below hb1 hrt.lt).cell HT1L; have u2 := (hrt.below hb1 hrt.lt).cell HT2L; have u3 := (hrt.below hb1 hrt.lt).cell HT3.out; have u4 := HOC.out w1 hb1)
            go_ret3
            refine ⟨(HANS.out _).2 (.inl ⟨i, hi, HMA.out, ?_⟩), hb.trans (hb1.mono hws)⟩
            rw [HXI.out]; rfl
          · have HKN : Hid (kl xs (((l + 1 : Nat)) : Int) ≤ winW f A) := hid (by
              have h1 : ¬ (C * 2 < F + (K : Int)) := by have := HOI.out; omega
              have h2 : ¬ winW f A < kl xs ((l : Int) + 1) := fun h => h1 (HHIT.out.2 h)
              rw [show (((l + 1 : Nat)) : Int) = (l : Int) + 1 from by omega]
              exact Int.not_lt.1 h2)
            have HBN : Hid (bsN xs (((l + 1 : Nat)) : Int) = BS + K) := hid (by rw [show (((l + 1 : Nat)) : Int) = (l : Int) + 1 from by omega]; exact HBS.out)
            go_wp2_with (go_at_call 19; refine (at_n a n c ds N (pos + (l : Int) - 1) _ HNN HSW HR (by omega) false true HV).mono ?_; rintro e w1 ⟨rfl, hb1⟩; have u1 := (hrt.below hb1 hrt.lt).cell HT1L; have u2 := (hrt.below hb1 hrt.lt).cell HT2L)
            go_roundw
            case rel =>
              refine ⟨l + 1, by omega, by omega, by omega, by go_num, ?_, ?_, HKN, hrt.below hb1 hrt.lt, hrb.below hb1 hrb.lt, hb.trans (hb1.mono hws)⟩
              · rw [Nat.add_sub_cancel, HVL.out]
              · rw [HBN.out]; go_num
            case measure => simp [intOf]; omega
        · have HVL : Hid (V f l = C * 2 + 1) := hid (by
            rw [show l = (l - 1) + 1 from by omega, V, HC.out, HB.out]; simp; omega)
          have hlow := dec_low xs HL HK f A l HA15 hl1 (by omega) HKL
          have hhit := dec_hit xs HL HK f A l HA15 hl1 (by omega)
          have hsym := dec_sym xs HL HK f A l HA15 hl1 (by omega) HKL
          rw [HVL.out] at hlow hhit hsym
          have HHIT := hid hhit
          have HSYM := hid hsym
          clear hhit hsym
          have hfb := (fcv_bd (cntFrom cnt0 xs) l)
          rw [show fcv (cntFrom cnt0 xs) l = fc xs l from rfl] at hfb
          have hkc : xs.count (l : Int) ≤ xs.length := List.count_le_length
          have hbn := bsN_le xs (l : Int)
          have HBS := hid (bsN_succ (l : Int) (by omega) xs)
          generalize fc xs l = F at HT2L hlow HHIT HSYM hfb
          generalize xs.count (l : Int) = K at HT1L HHIT HSYM hkc HBS
          generalize bsN xs (l : Int) = BS at HSYM hbn HBS
          obtain ⟨o, ho⟩ : ∃ o : Nat, C * 2 + 1 - F = (o : Int) := ⟨(C * 2 + 1 - F).toNat, by omega⟩
          have HOI := hid ho
          by_cases hh : o < K
          · obtain ⟨i, hi, hxi, hrk, hma⟩ := HSYM.out (by have := HOI.out; omega)
            have hoi := HO.out.2 i hi (by omega)
            have hrk2 : rankI xs xs[i] i = BS + o := by have := HOI.out; omega
            rw [hrk2] at hoi
            have hlo : BS + o < ord.length := by
              rcases Nat.lt_or_ge (BS + o) ord.length with h | h
              · exact h
              · rw [List.getElem?_eq_none h] at hoi; simp at hoi
            have HOC : Hid (∀ wx, Below wr.heap.size wr wx → wx.cell? ⟨go, BS + o, none⟩ = some (.int .i64 (i : Int))) := hid (fun wx hbx => (hbx.cell (by show go < wr.heap.size; omega)).trans ((hb.cell hol).trans (by rw [HRO.out.int hlo, hoi]; rfl)))
            have HXI := hid hxi
            have HMA := hid hma
            clear hrk hrk2 hoi hxi hma
            go_wp2_with (go_at_call 19; refine (at_n a n c ds N (pos + (l : Int) - 1) _ HNN HSW HR (by omega) true true HV).mono ?_; rintro e w1 ⟨rfl, hb1⟩; have u1 := (hrt.below hb1 hrt.lt).cell HT1L; have u2 := (hrt.below hb1 hrt.lt).cell HT2L; have u3 := (hrt.below hb1 hrt.lt).cell HT3.out; have u4 := HOC.out w1 hb1)
            go_ret3
            refine ⟨(HANS.out _).2 (.inl ⟨i, hi, HMA.out, ?_⟩), hb.trans (hb1.mono hws)⟩
            rw [HXI.out]; rfl
          · have HKN : Hid (kl xs (((l + 1 : Nat)) : Int) ≤ winW f A) := hid (by
              have h1 : ¬ (C * 2 + 1 < F + (K : Int)) := by have := HOI.out; omega
              have h2 : ¬ winW f A < kl xs ((l : Int) + 1) := fun h => h1 (HHIT.out.2 h)
              rw [show (((l + 1 : Nat)) : Int) = (l : Int) + 1 from by omega]
              exact Int.not_lt.1 h2)
            have HBN : Hid (bsN xs (((l + 1 : Nat)) : Int) = BS + K) := hid (by rw [show (((l + 1 : Nat)) : Int) = (l : Int) + 1 from by omega]; exact HBS.out)
            go_wp2_with (go_at_call 19; refine (at_n a n c ds N (pos + (l : Int) - 1) _ HNN HSW HR (by omega) true true HV).mono ?_; rintro e w1 ⟨rfl, hb1⟩; have u1 := (hrt.below hb1 hrt.lt).cell HT1L; have u2 := (hrt.below hb1 hrt.lt).cell HT2L)
            go_roundw
            case rel =>
              refine ⟨l + 1, by omega, by omega, by omega, by go_num, ?_, ?_, HKN, hrt.below hb1 hrt.lt, hrb.below hb1 hrb.lt, hb.trans (hb1.mono hws)⟩
              · rw [Nat.add_sub_cancel, HVL.out]
              · rw [HBN.out]; go_num
            case measure => simp [intOf]; omega
      · have hlA' : l = A + 1 := by omega
        have hA15 : A < 15 := by omega
        have HVO : Hid (atV ds N (pos + (l : Int) - 1) = (false, false)) := hid (by
          have := HOUT.out hA15
          rw [show pos + (A : Int) = pos + (l : Int) - 1 from by omega] at this
          exact this)
        have HNM : Hid (∀ i, ¬ Match xs (winW f A) A i) := hid (fun i => no_match (by rw [show (A : Int) + 1 = (l : Int) from by omega]; exact HKL.out) i)
        have hrm := HRM.out
        clear hlA'
        by_cases hov : pos + (l : Int) ≤ 9223372036854775807
        · go_wp2_with (go_at_call 19; refine (at_n a n c ds N (pos + (l : Int) - 1) _ HNN HSW HR (by omega) false false HVO).mono ?_; rintro e w1 ⟨rfl, hb1⟩)
          go_ret3
          refine ⟨(HANS.out _).2 (.inr ⟨HNM.out, ?_⟩), hb.trans (hb1.mono hws)⟩
          rw [if_pos hA15]; rfl
        · have hE : wrap64 (wrap64 (pos + (l : Int)) - 1) = pos + (l : Int) - 1 := by
            rw [show pos + (l : Int) = 9223372036854775808 from by omega]; decide +kernel
          have hE2 : pos + (l : Int) - 1 ≤ 9223372036854775807 := by omega
          clear hov
          go_wp2_with (go_at_call 19; refine (at_n a n c ds N (pos + (l : Int) - 1) _ HNN HSW HR hE2 false false HVO).mono ?_; rintro e w1 ⟨rfl, hb1⟩)
          go_ret3
          refine ⟨(HANS.out _).2 (.inr ⟨HNM.out, ?_⟩), hb.trans (hb1.mono hws)⟩
          rw [if_pos hA15]; rfl
    · have hA15 : ¬ A < 15 := by omega
      have HNM : Hid (∀ i, ¬ Match xs (winW f A) A i) := hid (fun i => no_match (by have := HA15.out; rw [show (A : Int) + 1 = (l : Int) from by omega]; exact HKL.out) i)
      have hl15' : ¬ (l : Int) ≤ 15 := by omega
      go_wp2
      go_ret3
      refine ⟨(HANS.out _).2 (.inr ⟨HNM.out, ?_⟩), hb⟩
      rw [if_neg hA15]; rfl
end Go.Proofs.Ymbrcg
