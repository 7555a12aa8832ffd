/- huff.LawS930022DTiles, walked. -/
import Derived.Test.YmbrcfTab
import Derived.Test.YmbrcfTile
import Derived.Test.YmbrcfWDFit
namespace Go.Proofs.Ymbrcf
open Go.RowKit
set_option linter.unusedVariables false
set_option linter.unusedSimpArgs false

set_option maxRecDepth 8000 in
set_option maxHeartbeats 1600000 in
theorem dtiles_any (a : Option Addr) (c : Nat) (xs : List Int) (w : World) (h : Sees .u8 w a xs) (hr : ∀ x ∈ xs, 0 ≤ x ∧ x ≤ 255) :
    Calls Ycfm.prog 13 #[.slice a xs.length c] w fun e w' => e = .returned (.bool true) ∧ Below w.heap.size w w' := by
  have hm := h.1
  have HS := hid h
  have HR := hid hr
  clear h hr
  by_cases hbig : 1024 < xs.length
  · have hbig' : (1024 : Int) < (xs.length : Int) := by omega
    go_enter Ycfm.func13, Ycfm.ntmps13
    go_wp2
    go_ret
    exact ⟨rfl, Below.refl _ _⟩
  · have hbig' : (xs.length : Int) ≤ 1024 := by omega
    have h5 : xs.length ≤ 100000 := by omega
    go_enter Ycfm.func13, Ycfm.ntmps13
    go_wp2_with fail
    refine (dfit_any a c xs _ HS HR h5).mono ?_
    rintro e w1 ⟨g1, ys, rfl, hg1, hyl, hlen, hfit, hr1, hb1⟩
    have HN := hid hyl.symm
    have HSY := hid (Sees.row hr1 (by omega))
    have HRY := hid hlen.range
    have HF := hid hfit
    have HL := hid hlen
    have HK := hid ((fits_iff ys).1 hfit).2
    have h6 : ys.length ≤ 100000 := by omega
    have HCL : Hid ((cntFrom cnt0 ys).length = 16) := cntFrom_length ys cnt0
    have HFL := hid (firsts_length (cntFrom cnt0 ys))
    generalize hcn : cntFrom cnt0 ys = cn at HCL HFL
    have HCN := hid hcn
    have HSV : Hid (slackV ys = (32768 - ksum ys, true)) := hid (by rw [slackV, hfit]; rfl)
    clear hyl hlen hfit hcn
    go_wp2_with (first
      | (go_at_call 23; refine (newtable_yes _ _ _ ys _ HN HSY HRY HF h6).mono ?_; rintro e w2 ⟨gc, go, _, ord, rfl, hgc, hgo, rfl, hord, hrc, hro, hb2⟩; rw [HCN.out])
      | (refine wpList_storeRow rfl 48 _ _ rfl _ (tabCells (.slice (some ⟨gc, 0, none⟩) xs.length xs.length) cn (firsts cn) (.slice (some ⟨go, 0, none⟩) ord.length ord.length)) rfl rfl _ (tabCells (.slice none 0 0) (List.replicate 16 0) (List.replicate 16 0) (.slice none 0 0)) (RowV.fresh _ _ (tabCells (.slice none 0 0) (List.replicate 16 0) (List.replicate 16 0) (.slice none 0 0)) _ rfl) (by rw [tabCells_length _ _ _ _ HCL HFL]; kernel_rfl) (by rw [tabCells_length _ _ _ _ HCL HFL]; rfl) (tab_one _ _ _ _ _ _ _ _) ?_; intro w3 hr3 hg3; have t0 := hr3.cell (tab_get0 _ _ _ _); have t33 := hr3.cell (tab_ord _ _ _ _ HCL HFL)))
    have hs1 := hb1.size
    have hs2 := hb2.size
    have hs3 := hg3.size
    simp only [World.size_alloc] at hs3
    have hrcl := hrc.lt
    have hrol := hro.lt
    have hr1l := hr1.lt
    have HB3 : Hid (Below w.heap.size w w3) := hid (((hb1.trans (hb2.mono hs1)).alloc (by omega) _).grown hg3 (by simp; omega) (by intro k h; cases h; omega))
    have HRC : Hid (RowV w3 gc 26 (flat (assignV ys))) := hid ((hrc.alloc _).grown hg3 (by simp; omega))
    have HRO : Hid (RowV w3 go 3 (ints .i64 ord)) := hid ((hro.alloc _).grown hg3 (by simp; omega))
    have HRY3 : Hid (RowV w3 g1 5 (ints .u8 ys)) := hid (((hr1.below hb2 hr1l).alloc _).grown hg3 (by simp; omega))
    have HT0 := hid t0
    have HT33 := hid t33
    have HO := hid hord
    have hob : ord.length ≤ 100000 := by rw [hord.1]; exact Nat.le_trans (List.length_filter_le _ _) (by omega)
    have hgl : gc < w3.heap.size := by omega
    have hgo3 : go < w3.heap.size := by omega
    have hgt : w2.heap.size < w3.heap.size := by omega
    clear hg3 hb1 hb2 hrc hro hr3 t0 t33 hord hr1
    go_loopw [6, 7] (fun p i wr => ∃ (k : Nat) (P : Int), k ≤ ord.length ∧ i = .int .i64 k ∧ p = .int .u32 P ∧ 0 ≤ P ∧ P ≤ 32768 ∧ Hid (∀ i (h : i < ys.length), 0 < ys[i] → rankI ys ys[i] i = k → posI ys ys[i] i = P) ∧ Hid (k = ord.length → P = ksum ys) ∧ Below w3.heap.size w3 wr) (fun _ i _ => ord.length - (intOf i).toNat)
    case atStart =>
      refine ⟨0, 0, Nat.zero_le _, rfl, rfl, by omega, by omega, hid (fun i h h0 hr => tile_first ys HL i h h0 hr), hid (fun e => ?_), Below.refl _ _⟩
      exact (tile_none ys HL (by rw [← HO.out.1]; exact e.symm)).symm
    case round =>
      obtain ⟨k, P, hk, rfl, rfl, hP0, hP1, HP, HE, hb⟩ := hrel
      have hws := hb.size
      have t0 := (hb.cell hgt).trans HT0.out
      have t33 := (hb.cell hgt).trans HT33.out
      by_cases hlt : k < ord.length
      · obtain ⟨i, hi, h0, hrk⟩ := rank_surj ys k (by rw [← HO.out.1]; exact hlt)
        have hoi := HO.out.2 i hi h0
        rw [hrk] at hoi
        have o1 : wr.cell? ⟨go, k, none⟩ = some (.int .i64 (i : Int)) := (hb.cell hgo3).trans (by rw [HRO.out.int hlt, hoi]; rfl)
        have hcc := code_row HRC.out HL HK i hi
        rw [if_pos h0] at hcc
        have c0 := (hb.cell hgl).trans hcc.1
        have c1 := (hb.cell hgl).trans hcc.2
        have hpos := HP.out i hi h0 hrk
        have hy := HL.out _ (List.getElem_mem hi)
        have hcp := codeB_pos ys HL HK ys[i] h0 hy.2 i
        have hcl := codeB_lt ys HL HK i hi h0
        have hend := pos_end ys HL HK i hi
        have hws1 := wt_shl ys[i] h0 hy.2
        have hwb := wt_bd ys[i]
        have HNX : Hid (∀ j (h : j < ys.length), 0 < ys[j] → rankI ys ys[j] j = k + 1 → posI ys ys[j] j = P + wt ys[i]) := hid (fun j h h1 hr => by
          rw [← hpos]; exact (tile_next ys HL i j hi h h0 h1 (by rw [hr, hrk])).symm)
        have HEN : Hid (k + 1 = ord.length → P + wt ys[i] = ksum ys) := hid (fun e => by
          rw [← hpos]; exact tile_last ys HL i hi h0 (by rw [hrk, ← HO.out.1]; exact e))
        have hix : i < xs.length := by rw [HN.out]; exact hi
        rw [hpos] at hcp hend
        rw [hws1] at hcp hend hwb HNX HEN
        generalize codeB ys ys[i] i = CB at c0 hcp hcl
        obtain ⟨m, hm'⟩ : ∃ m : Nat, ys[i] = (m : Int) := ⟨ys[i].toNat, by omega⟩
        rw [hm'] at h0 hy c1 hcp hend hcl hwb HNX HEN
        rw [Int.toNat_natCast] at hcl
        rw [show (15 - (m : Int)).toNat = 15 - m from by omega] at hcp hend hwb HNX HEN
        have hm15 : m ≤ 15 := by omega
        have hz : ((m : Int) == 0) = false := by simp; omega
        have HCP := hid hcp
        clear hcc hpos hws1 hoi hm' hcp
        have hw1 : (CB * 2 ^ (15 - m) % 4294967296 != P) = false := by rw [HCP.out]; simp; omega
        go_wp2
        go_roundw
        case rel => exact ⟨k + 1, P + 2 ^ (15 - m), by omega, by go_num, rfl, by omega, by omega, HNX, HEN, hb.alloc hws _⟩
        case measure => simp [intOf]; omega
      · have HPK : Hid (P = ksum ys) := hid (HE.out (by omega))
        have HSW : Hid (Sees .u8 wr (some ⟨g1, 0, none⟩) ys) := hid ((Sees.row HRY3.out (by omega)).below hb (Nat.le_refl _))
        have hks : (32768 - ksum ys) = 32768 - P := by rw [HPK.out]
        rw [hks] at HSV
        clear hks
        go_wp2_with (go_at_call 22; refine (slack_n _ _ _ ys _ HN HSW HRY _ true HSV).mono ?_; rintro e w4 ⟨rfl, hw4⟩; replace hw4 := hw4.symm; subst hw4)
        go_ret
        refine ⟨ret_bool ?_, HB3.out.trans (hb.mono HB3.out.size)⟩
        simp
        omega
end Go.Proofs.Ymbrcf
