/- huff.LawS930022EExact, walked. -/
import Derived.Test.YmbrcfWEModel
import Derived.Test.YmbrcfWELens
import Derived.Test.YmbrcfWESame
import Derived.Lib.SliceRun
namespace Go.Proofs.Ymbrcf
open Go.RowKit
set_option linter.unusedVariables false
set_option linter.unusedSimpArgs false

set_option maxRecDepth 8000 in
set_option maxHeartbeats 1600000 in
theorem eexact_any (a : Option Addr) (c : Nat) (xs : List Int) (ad : Option Addr) (cd : Nat) (ds : List Int) (fr : Bool) (N md : Int) (w : World) (h : Sees .u8 w a xs) (hr : ∀ x ∈ xs, 0 ≤ x ∧ x ≤ 255) (hd : Sees .u8 w ad ds) (hdr : ∀ x ∈ ds, 0 ≤ x ∧ x ≤ 255)
    (hN : -9223372036854775808 ≤ N ∧ N ≤ 9223372036854775807) (hmd : 0 ≤ md ∧ md ≤ 255) :
    Calls Ycfm.prog 14 #[.slice a xs.length c, .slice ad ds.length cd, .bool fr, .int .i64 N, .int .u8 md] w fun e w' => e = .returned (.bool true) ∧ Below w.heap.size w w' := by
  have hm := h.1
  have hm2 := hd.1
  have HS := hid h
  have HR := hid hr
  have HSD := hid hd
  have HRD := hid hdr
  clear h hr hd hdr
  by_cases hbig : 1024 < xs.length
  · have hbig' : (1024 : Int) < (xs.length : Int) := by omega
    go_enter Ycfm.func14, Ycfm.ntmps14
    go_wp2
    go_ret
    exact ⟨rfl, Below.refl _ _⟩
  · by_cases hbig2 : 1024 < ds.length
    · have hbig' : (xs.length : Int) ≤ 1024 := by omega
      have hbig2' : (1024 : Int) < (ds.length : Int) := by omega
      go_enter Ycfm.func14, Ycfm.ntmps14
      go_wp2
      go_ret
      exact ⟨rfl, Below.refl _ _⟩
    · have hbig' : (xs.length : Int) ≤ 1024 := by omega
      have hbig2' : (ds.length : Int) ≤ 1024 := by omega
      have h5 : xs.length ≤ 100000 := by omega
      go_enter Ycfm.func14, Ycfm.ntmps14
      go_upto_if 27 with fail
      go_cut [3] (fun s3 wx => ∃ N' : Int, (-9223372036854775808 ≤ N' ∧ N' ≤ 9223372036854775807) ∧ s3 = .int .i64 N' ∧ wx = w)
      case first =>
        cases fr
        · go_wp2_with fail
          go_meet
          refine ⟨8 * (ds.length : Int) - md % 8, by omega, ?_, rfl⟩
          go_num
        · go_wp2_with fail
          go_meet
          exact ⟨N, hN, rfl, rfl⟩
      case rest =>
      obtain ⟨N', hN', rfl, hwc⟩ := hcut
      replace hwc := hwc.symm
      subst hwc
      clear hN hmd
      go_wp2_with fail
      refine (elens_any a c xs _ HS HR h5).mono ?_
      rintro e w1 ⟨g1, ys, rfl, hg1, hyl, hlen, hfit, hr1, hb1⟩
      have HN := hid hyl.symm
      have HSY := hid (Sees.row hr1 (by omega))
      have HRY := hid hlen.range
      have HF := hid hfit
      have HL := hid hlen
      have HK := hid ((fits_iff ys).1 hfit).2
      have h6 : ys.length ≤ 100000 := by omega
      have h7 : ys.length ≤ 1024 := by omega
      have HCL : Hid ((cntFrom cnt0 ys).length = 16) := cntFrom_length ys cnt0
      have HFL := hid (firsts_length (cntFrom cnt0 ys))
      generalize hcn : cntFrom cnt0 ys = cn at HCL HFL
      have HCN := hid hcn
      clear hyl hlen hfit hcn
      go_upto_region 11 with (first
        | (go_at_call 23; refine (newtable_yes _ _ _ ys _ HN HSY HRY HF h6).mono ?_; rintro e w2 ⟨gc, go, _, ord, rfl, hgc, hgo, rfl, hord, hrc, hro, hb2⟩; rw [HCN.out])
        | (refine wpList_storeRow rfl 48 _ _ rfl _ (tabCells (.slice (some ⟨gc, 0, none⟩) xs.length xs.length) cn (firsts cn) (.slice (some ⟨go, 0, none⟩) ord.length ord.length)) rfl rfl _ (tabCells (.slice none 0 0) (List.replicate 16 0) (List.replicate 16 0) (.slice none 0 0)) (RowV.fresh _ _ (tabCells (.slice none 0 0) (List.replicate 16 0) (List.replicate 16 0) (.slice none 0 0)) _ rfl) (by rw [tabCells_length _ _ _ _ HCL HFL]; kernel_rfl) (by rw [tabCells_length _ _ _ _ HCL HFL]; rfl) (tab_one _ _ _ _ _ _ _ _) ?_; intro w3 hr3 hg3
           have hs1 := hb1.size
           have hs2 := hb2.size
           have hs3 := hg3.size
           simp only [World.size_alloc] at hs3
           have HB3 : Hid (Below w.heap.size w w3) := hid (((hb1.trans (hb2.mono hs1)).alloc (by omega) _).grown hg3 (by simp; omega) (by intro k h; cases h; omega))
           have HRO : Hid (RowV w3 go 3 (ints .i64 ord)) := hid ((hro.alloc _).grown hg3 (by simp; have := hro.lt; omega))
           have HSY3 : Hid (Sees .u8 w3 (some ⟨g1, 0, none⟩) ys) := hid (Sees.row (((hr1.below hb2 hr1.lt).alloc _).grown hg3 (by simp; have := hr1.lt; omega)) (by omega))
           have HSD3 : Hid (Sees .u8 w3 ad ds) := hid (HSD.out.below HB3.out (Nat.le_refl _))
           have HO := hid hord
           have HR3 := hid hr3
           clear hg3 hb1 hb2 hrc hro hr3 hord hr1)
        | (refine wpList_loadRow rfl 48 _ rfl _ rfl _ _ _ HR3.out Ycfm.underlying48 rfl (by rw [tabCells_length _ _ _ _ HCL HFL]; kernel_rfl) ?_)
        | (go_at_call 26
           have hdc := decode_any ys ds (some ⟨gc, 0, none⟩) xs.length xs.length go ord ad ds.length cd N' w3 HL HK h6 HO HRO rfl HSD3 HRD (by omega) hN'.2
           rw [HCN.out] at hdc
           refine hdc.mono ?_
           rintro e w4 ⟨out, st, v1, rfl, hdr1, how1, hol1, hb4⟩
           clear hdc)
        | (go_at_call 27
           refine (emodel_any ys ds (some ⟨g1, 0, none⟩) xs.length xs.length ad ds.length cd N' w4 HL HK HN (HSY3.out.below hb4 (Nat.le_refl _)) h7 rfl (HSD3.out.below hb4 (Nat.le_refl _)) HRD (by omega) hN').mono ?_
           rintro e w5 ⟨out2, st2, v2, rfl, hdr2, how2, hol2, hb5⟩
           obtain ⟨rfl, rfl⟩ := DecR.det HL.out hdr1 hdr2
           clear hdr1 hdr2))
      have HB5 : Hid (Below w.heap.size w w5) := hid ((HB3.out.trans (hb4.mono HB3.out.size)).trans (hb5.mono (Nat.le_trans HB3.out.size hb4.size)))
      have how1' := how1.below hb5
      have hbt : out.length ≤ 8192 := by omega
      clear how1 hb4 hb5
      have hnil := fun (wx : World) (ax : Option Addr) (lx cx : Nat) => Lib.run_eql_slice_nil (P := Ycfm.prog) wx 46 3 ax lx cx 0 0 Ycfm.underlying46
      rcases how1' with ⟨rfl, ho1⟩ | ⟨g, cap, rfl, hne, hoi⟩
      · rcases how2 with ⟨rfl, ho2⟩ | ⟨g', cap', rfl, hne', hoi'⟩
        · subst ho1
          go_wp2_with (go_at_call 28; refine (esame_yes none none 0 0 0 0 [] _ rfl rfl ⟨by simp, fun i hi => by simp at hi⟩ ⟨by simp, fun i hi => by simp at hi⟩).mono ?_; rintro e w6 ⟨rfl, hb6⟩)
          go_ret
          exact ⟨rfl, HB5.out.trans (hb6.mono HB5.out.size)⟩
        · exact absurd ho1 hne'
      · rcases how2 with ⟨rfl, ho2⟩ | ⟨g', cap', rfl, hne', hoi'⟩
        · exact absurd ho2 hne
        · have HSA := hid (hoi.sees (by omega))
          have HSB := hid (hoi'.sees (by omega))
          go_wp2_with (go_at_call 28; refine (esame_yes _ _ _ _ _ _ out _ rfl rfl HSA HSB).mono ?_; rintro e w6 ⟨rfl, hb6⟩)
          go_ret
          exact ⟨rfl, HB5.out.trans (hb6.mono HB5.out.size)⟩
end Go.Proofs.Ymbrcf
