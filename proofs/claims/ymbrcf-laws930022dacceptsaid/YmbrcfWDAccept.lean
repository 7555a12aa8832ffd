/- huff.LawS930022DAccept, walked. -/
import Derived.Test.YmbrcfTab
import Derived.Test.YmbrcfWCExact
namespace Go.Proofs.Ymbrcf
open Go.RowKit
set_option linter.unusedVariables false
set_option linter.unusedSimpArgs false

set_option maxRecDepth 8000 in
set_option maxHeartbeats 1600000 in
theorem daccept_any (a : Option Addr) (c : Nat) (xs : List Int) (w : World) (h : Sees .u8 w a xs) (hr : ∀ x ∈ xs, 0 ≤ x ∧ x ≤ 255) :
    Calls Ycfm.prog 11 #[.slice a xs.length c] w fun e w' => e = .returned (.bool true) ∧ Below w.heap.size w w' := by
  have hm := h.1
  have HS := hid h
  have HR := hid hr
  have hnil := fun wx => Lib.run_eql_slice_nil (P := Ycfm.prog) wx 34 26 none 0 0 0 0 Ycfm.underlying34
  have hnil2 := fun wx => Lib.run_eql_slice_nil (P := Ycfm.prog) wx 46 3 none 0 0 0 0 Ycfm.underlying46
  clear h hr
  by_cases hbig : 1024 < xs.length
  · have hbig' : (1024 : Int) < (xs.length : Int) := by omega
    go_enter Ycfm.func11, Ycfm.ntmps11
    go_wp2
    go_ret
    exact ⟨rfl, Below.refl _ _⟩
  · have hbig' : (xs.length : Int) ≤ 1024 := by omega
    have h5 : xs.length ≤ 100000 := by omega
    go_enter Ycfm.func11, Ycfm.ntmps11
    go_wp2
    go_loop [3, 4, 5] (fun t s i => ∃ (k : Nat) (S : Int) (T : Bool), k ≤ xs.length ∧ i = .int .i64 k ∧ s = .int .i64 S ∧ t = .bool T ∧ 0 ≤ S ∧ S ≤ 16384 * k ∧ Hid (S + ksum (xs.drop k) = ksum xs) ∧ Hid ((T && all15 (xs.drop k)) = all15 xs)) (fun _ _ i => xs.length - (intOf i).toNat)
    case atStart => exact ⟨0, 0, true, Nat.zero_le _, rfl, rfl, rfl, by omega, by omega, hid (by simp), hid (by simp)⟩
    case round =>
      obtain ⟨k, S, T, hk, rfl, rfl, rfl, hS0, hS1, HSU, HT⟩ := hrel
      by_cases hlt : k < xs.length
      · obtain ⟨b, off, rfl, hbs, hcell⟩ := HS.out.2 k hlt
        have hx := HR.out _ (List.getElem_mem hlt)
        have HD := hid (ksum_drop xs k hlt)
        have HA := hid (all15_drop xs k hlt)
        have hwb := wt_bd xs[k]
        by_cases h15 : 15 < xs[k]
        · have HW := hid (wt_zero xs[k] (by omega))
          go_wp2
          go_round
          case rel =>
            refine ⟨k + 1, S, false, by omega, by go_num, rfl, rfl, by omega, by omega, hid ?_, hid ?_⟩
            · have := HSU.out; rw [HD.out, HW.out] at this; omega
            · have := HT.out; rw [HA.out, decide_eq_false (by omega)] at this; simp at this; simp [this]
          case measure => simp [intOf]; omega
        · have HA2 : Hid ((T && all15 (xs.drop (k + 1))) = all15 xs) := by
            have := HT.out; rw [HA.out, decide_eq_true (by omega), Bool.true_and] at this; exact this
          by_cases h0 : 0 < xs[k]
          · have hw := wt_shl xs[k] h0 (by omega)
            have HW := hid hw
            have hws : wrap64 (2 ^ (15 - xs[k]).toNat) = wt xs[k] := by rw [← hw]; exact IntWalk.wrap64_in _ ⟨by omega, by omega⟩
            clear hw
            go_wp2
            go_round
            case rel =>
              refine ⟨k + 1, S + wt xs[k], T, by omega, by go_num, ?_, rfl, by omega, by omega, hid ?_, HA2⟩
              · first | rfl | (congr 1; rw [HW.out])
              · have := HSU.out; rw [HD.out] at this; omega
            case measure => simp [intOf]; omega
          · have HW := hid (wt_zero xs[k] (by omega))
            go_wp2
            go_round
            case rel =>
              refine ⟨k + 1, S, T, by omega, by go_num, rfl, rfl, by omega, by omega, hid ?_, HA2⟩
              have := HSU.out; rw [HD.out, HW.out] at this; omega
            case measure => simp [intOf]; omega
      · have HSS : Hid (S = ksum xs) := hid (by have := HSU.out; rw [List.drop_eq_nil_of_le (by omega)] at this; simpa [ksum] using this)
        have HTT : Hid (T = all15 xs) := hid (by have := HT.out; rw [List.drop_eq_nil_of_le (by omega)] at this; simpa [all15] using this)
        clear HSU HT
        by_cases hf : fits xs = true
        · have HF := hid hf
          have hT : T = true := by rw [HTT.out]; exact (all15_iff xs).2 ((fits_iff xs).1 hf).1
          have hS : S ≤ 32768 := by rw [HSS.out]; exact ((fits_iff xs).1 hf).2
          have HL := hid (lens_of HR hf)
          have HK := hid ((fits_iff xs).1 hf).2
          have HCL : Hid ((cntFrom cnt0 xs).length = 16) := cntFrom_length xs cnt0
          have HFL := hid (firsts_length (cntFrom cnt0 xs))
          generalize hcn : cntFrom cnt0 xs = cn at HCL HFL
          have HCN := hid hcn
          subst hT
          clear hf HSS HTT hcn
          go_wp2_with (first
            | (go_at_call 23; refine (newtable_yes a c _ xs _ rfl HS HR HF h5).mono ?_; rintro e w1 ⟨gc, go, _, ord, rfl, hgc, hgo, rfl, hord, hrc, hro, hb1⟩; rw [HCN.out])
            | (refine wpList_storeRow rfl 48 _ _ rfl _ (tabCells (.slice (some ⟨gc, 0, none⟩) xs.length xs.length) cn (firsts cn) (.slice (some ⟨go, 0, none⟩) ord.length ord.length)) rfl rfl _ (tabCells (.slice none 0 0) (List.replicate 16 0) (List.replicate 16 0) (.slice none 0 0)) (RowV.fresh _ _ (tabCells (.slice none 0 0) (List.replicate 16 0) (List.replicate 16 0) (.slice none 0 0)) _ rfl) (by rw [tabCells_length _ _ _ _ HCL HFL]; kernel_rfl) (by rw [tabCells_length _ _ _ _ HCL HFL]; rfl) (tab_one _ _ _ _ _ _ _ _) ?_; intro w2 hr2 hg2; have t0 := hr2.cell (tab_get0 _ _ _ _)))
          have hs1 := hb1.size
          have hs2 := hg2.size
          simp only [World.size_alloc] at hs2
          have HB2 : Hid (Below w.heap.size w w2) := hid ((hb1.alloc hs1 _).grown hg2 (by simp; omega) (by intro k h; cases h; omega))
          have HRC : Hid (RowV w2 gc 26 (flat (assignV xs))) := hid ((hrc.alloc _).grown hg2 (by simp; have := hrc.lt; omega))
          have HC : Hid (∀ wx, Below w2.heap.size w2 wx → wx.cell? ⟨w1.heap.size, 0, none⟩ = some (.slice (some ⟨gc, 0, none⟩) xs.length xs.length) ∧ ∀ k (hk : k < xs.length), wx.cell? ⟨gc, k * 2, none⟩ = some (.int .u32 (if 0 < xs[k] then codeB xs xs[k] k else 0)) ∧ wx.cell? ⟨gc, k * 2 + 1, none⟩ = some (.int .u8 xs[k])) := by
            refine hid ?_
            intro wx hbx
            refine ⟨(hbx.cell (by show w1.heap.size < w2.heap.size; omega)).trans t0, fun k hk => ?_⟩
            have := code_row HRC.out HL HK k hk
            exact ⟨(hbx.cell HRC.out.lt).trans this.1, (hbx.cell HRC.out.lt).trans this.2⟩
          have HS2 : Hid (Sees .u8 w2 a xs) := hid (HS.out.below HB2.out (Nat.le_refl _))
          have hgl := HRC.out.lt
          clear hg2 hb1 hrc hro hr2 t0 HRC hord
          go_loopw [10] (fun i wr => ∃ (k : Nat), k ≤ xs.length ∧ i = .int .i64 k ∧ Below w2.heap.size w2 wr) (fun i _ => xs.length - (intOf i).toNat)
          case atStart => exact ⟨0, Nat.zero_le _, rfl, Below.refl _ _⟩
          case round =>
            obtain ⟨k, hk, rfl, hb⟩ := hrel
            have hws := hb.size
            by_cases hlt : k < xs.length
            · obtain ⟨t0, tc⟩ := HC.out wr hb
              obtain ⟨l1, l2⟩ := tc k hlt
              have hy := HL.out _ (List.getElem_mem hlt)
              obtain ⟨b, off, rfl, hbs, hcell⟩ := HS2.out.2 k hlt
              have l0 : ∀ o, (wr.alloc o).cell? ⟨b, off + k, none⟩ = some (.int .u8 xs[k]) := fun o => ((hb.alloc hws o).cell hbs).trans (by rw [hcell, getD_get _ _ hlt])
              have HL0 := hid l0
              have hcb : 0 < xs[k] → 0 ≤ codeB xs xs[k] k ∧ codeB xs xs[k] k < 2 ^ xs[k].toNat := fun h0 => codeB_lt xs HL HK k hlt h0
              obtain ⟨B, hB⟩ : ∃ B, (if 0 < xs[k] then codeB xs xs[k] k else 0) = B := ⟨_, rfl⟩
              have hBd : 0 ≤ B ∧ B < 2 ^ xs[k].toNat := by
                by_cases h0 : 0 < xs[k]
                · rw [if_pos h0] at hB; rw [← hB]; exact hcb h0
                · rw [if_neg h0] at hB; rw [← hB, show xs[k] = 0 from by omega]; decide
              rw [hB] at l1
              clear hB hcb tc hcell l0
              obtain ⟨m, hm'⟩ : ∃ m : Nat, xs[k] = (m : Int) := ⟨xs[k].toNat, by omega⟩
              rw [hm'] at hy l2 hBd HL0
              rw [Int.toNat_natCast] at hBd
              clear hm'
              have l0 := HL0.out (.cells #[.int .u32 B, .int .u8 m] 26)
              have hpw := pow_le_32768 m (by omega)
              have hwr : IntKind.u32.wrap ((2 : Int) ^ m) = 2 ^ m := by rw [IntKind.wrap_u32]; omega
              have hdcb : decide ((2 : Int) ^ m ≤ B) = false := by simp; omega
              have hne : gc ≠ wr.heap.size := by omega
              have hne2 : w1.heap.size ≠ wr.heap.size := by omega
              go_wp2
              go_quiet (fail)
              go_wp2
              go_roundw
              case rel => exact ⟨k + 1, by omega, by go_num, below_drewN' (hb.alloc hws _) _⟩
              case measure => simp [intOf]; omega
            · go_wp2
              go_ret
              exact ⟨rfl, HB2.out.trans (hb.mono HB2.out.size)⟩
        · have hf' : fits xs = false := by simpa using hf
          have HF := hid hf'
          have HZ : Hid ((T && decide (S ≤ 32768)) = false) := hid (by rw [HTT.out, HSS.out]; exact hf')
          clear hf hf' HSS HTT
          by_cases hS : 32768 < S
          · clear HZ
            go_wp2_with (first
              | (go_at_call 23; refine (newtable_no a c _ xs _ rfl HS HR HF).mono ?_; rintro e w1 ⟨rfl, hb1⟩)
              | (refine wpList_storeRow rfl 48 _ _ rfl _ (tabCells (.slice none 0 0) (List.replicate 16 0) (List.replicate 16 0) (.slice none 0 0)) rfl rfl _ (tabCells (.slice none 0 0) (List.replicate 16 0) (List.replicate 16 0) (.slice none 0 0)) (RowV.fresh _ _ (tabCells (.slice none 0 0) (List.replicate 16 0) (List.replicate 16 0) (.slice none 0 0)) _ rfl) (by kernel_rfl) rfl (tab_one _ _ _ _ _ _ _ _) ?_; intro w2 hr2 hg2; have t0 : w2.cell? ⟨w1.heap.size, 0, none⟩ = some (.slice none 0 0) := hr2.cell (tab_get0 _ _ _ _); have t33 : w2.cell? ⟨w1.heap.size, 33, none⟩ = some (.slice none 0 0) := hr2.cell rfl))
            have hs1 := hb1.size
            have HB2 : Hid (Below w.heap.size w w2) := hid ((hb1.alloc hs1 _).grown hg2 (by simp; omega) (by intro k h; cases h; omega))
            have HR2 := hid hr2
            clear hg2 hb1 hr2
            go_loop [9] (fun i => ∃ (l : Nat), l ≤ 16 ∧ i = .int .i64 l) (fun i => 16 - (intOf i).toNat)
            case atStart => exact ⟨0, by omega, rfl⟩
            case round =>
              obtain ⟨l, hl, rfl⟩ := hrel
              by_cases hl16 : l < 16
              · have hl15 : (l : Int) ≤ 15 := by omega
                have c1 : w2.cell? ⟨w1.heap.size, 1 + l, none⟩ = some (.int .i64 0) := by
                  rw [HR2.out.cell (tab_cnt _ _ _ _ rfl l hl16), rep_get]
                have c2 : w2.cell? ⟨w1.heap.size, 17 + l, none⟩ = some (.int .u32 0) := by
                  rw [HR2.out.cell (tab_fst _ _ _ _ rfl rfl l hl16), rep_get]
                go_wp2
                go_round
                case rel => exact ⟨l + 1, by omega, by go_num⟩
                case measure => simp [intOf]; omega
              · have hl15 : ¬ (l : Int) ≤ 15 := by omega
                go_wp2
                go_ret
                exact ⟨rfl, HB2.out⟩
          · have hT : T = false := by
              cases T with
              | false => rfl
              | true => have := HZ.out; simp at this; omega
            subst hT
            clear HZ
            go_wp2_with (first
              | (go_at_call 23; refine (newtable_no a c _ xs _ rfl HS HR HF).mono ?_; rintro e w1 ⟨rfl, hb1⟩)
              | (refine wpList_storeRow rfl 48 _ _ rfl _ (tabCells (.slice none 0 0) (List.replicate 16 0) (List.replicate 16 0) (.slice none 0 0)) rfl rfl _ (tabCells (.slice none 0 0) (List.replicate 16 0) (List.replicate 16 0) (.slice none 0 0)) (RowV.fresh _ _ (tabCells (.slice none 0 0) (List.replicate 16 0) (List.replicate 16 0) (.slice none 0 0)) _ rfl) (by kernel_rfl) rfl (tab_one _ _ _ _ _ _ _ _) ?_; intro w2 hr2 hg2; have t0 : w2.cell? ⟨w1.heap.size, 0, none⟩ = some (.slice none 0 0) := hr2.cell (tab_get0 _ _ _ _); have t33 : w2.cell? ⟨w1.heap.size, 33, none⟩ = some (.slice none 0 0) := hr2.cell rfl))
            have hs1 := hb1.size
            have HB2 : Hid (Below w.heap.size w w2) := hid ((hb1.alloc hs1 _).grown hg2 (by simp; omega) (by intro k h; cases h; omega))
            have HR2 := hid hr2
            clear hg2 hb1 hr2
            go_loop [9] (fun i => ∃ (l : Nat), l ≤ 16 ∧ i = .int .i64 l) (fun i => 16 - (intOf i).toNat)
            case atStart => exact ⟨0, by omega, rfl⟩
            case round =>
              obtain ⟨l, hl, rfl⟩ := hrel
              by_cases hl16 : l < 16
              · have hl15 : (l : Int) ≤ 15 := by omega
                have c1 : w2.cell? ⟨w1.heap.size, 1 + l, none⟩ = some (.int .i64 0) := by
                  rw [HR2.out.cell (tab_cnt _ _ _ _ rfl l hl16), rep_get]
                have c2 : w2.cell? ⟨w1.heap.size, 17 + l, none⟩ = some (.int .u32 0) := by
                  rw [HR2.out.cell (tab_fst _ _ _ _ rfl rfl l hl16), rep_get]
                go_wp2
                go_round
                case rel => exact ⟨l + 1, by omega, by go_num⟩
                case measure => simp [intOf]; omega
              · have hl15 : ¬ (l : Int) ≤ 15 := by omega
                go_wp2
                go_ret
                exact ⟨rfl, HB2.out⟩
end Go.Proofs.Ymbrcf
