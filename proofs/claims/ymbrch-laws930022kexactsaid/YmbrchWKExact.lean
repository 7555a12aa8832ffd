/- huff.LawS930022KExact, walked. -/
import Derived.Test.YmbrchWKModel
import Derived.Test.YmbrchWKLens
namespace Go.Proofs.Ymbrch
open Go.RowKit
set_option linter.unusedVariables false
set_option linter.unusedSimpArgs false

theorem dec_form {xs ds : List Int} {N pos : Int} {e : Ending} (h : DecAns xs ds N pos e) : ∃ s q t : Int, e = .returned (.tuple #[.int .i64 s, .int .i64 q, .int .i64 t]) := by
  rcases h with ⟨i, hi, _, rfl⟩ | ⟨_, rfl⟩
  · exact ⟨_, _, _, rfl⟩
  · exact ⟨_, _, _, rfl⟩
theorem dec_unique {xs ds : List Int} (hl : Lens xs) {N pos : Int} {e e' : Ending} (h : DecAns xs ds N pos e) (h' : DecAns xs ds N pos e') : e' = e := by
  rcases h with ⟨i, hi, m, rfl⟩ | ⟨m, rfl⟩
  · rcases h' with ⟨j, hj, m', rfl⟩ | ⟨m', rfl⟩
    · obtain rfl := match_unique hl m m'; rfl
    · exact absurd m (m' i)
  · rcases h' with ⟨j, hj, m', rfl⟩ | ⟨m', rfl⟩
    · exact absurd m' (m j)
    · rfl

set_option maxRecDepth 8000 in
set_option maxHeartbeats 1600000 in
theorem kexact_any (a : Option Addr) (c : Nat) (xs : List Int) (ad : Option Addr) (cd : Nat) (ds : List Int) (N pos md : Int) (w : World) (h : Sees .u8 w a xs) (hr : ∀ x ∈ xs, 0 ≤ x ∧ x ≤ 255) (hd : Sees .u8 w ad ds) (hdr : ∀ x ∈ ds, 0 ≤ x ∧ x ≤ 255)
    (hN : -9223372036854775808 ≤ N ∧ N ≤ 9223372036854775807) (hp : -9223372036854775808 ≤ pos ∧ pos ≤ 9223372036854775807) (hmd : 0 ≤ md ∧ md ≤ 255) :
    Calls Ychm.prog 6 #[.slice a xs.length c, .slice ad ds.length cd, .int .i64 N, .int .i64 pos, .int .u8 md] w fun e w' => e = .returned (.bool true) ∧ Below w.heap.size w w' := by
  have hm := h.1
  have hm2 := hd.1
  have HS := hid h
  have HR := hid hr
  have HSD := hid hd
  have HRD := hid hdr
  clear h hr hd hdr
  by_cases hbig : 1024 < xs.length
  · have hbig' : (1024 : Int) < (xs.length : Int) := by omega
    go_enter Ychm.func6, Ychm.ntmps6
    go_wp2
    go_ret
    exact ⟨rfl, Below.refl _ _⟩
  · by_cases hbig2 : 1024 < ds.length
    · have hbig' : (xs.length : Int) ≤ 1024 := by omega
      have hbig2' : (1024 : Int) < (ds.length : Int) := by omega
      go_enter Ychm.func6, Ychm.ntmps6
      go_wp2
      go_ret
      exact ⟨rfl, Below.refl _ _⟩
    · have hbig' : (xs.length : Int) ≤ 1024 := by omega
      have hbig2' : (ds.length : Int) ≤ 1024 := by omega
      have h5 : xs.length ≤ 100000 := by omega
      go_enter Ychm.func6, Ychm.ntmps6
      go_upto_if 30 with fail
      go_cut [2] (fun s2 wx => ∃ N' : Int, (-9223372036854775808 ≤ N' ∧ N' ≤ 9223372036854775807) ∧ s2 = .int .i64 N' ∧ wx = w)
      case first =>
        by_cases hq : (bits .and .u8 md 1 != 0) = true
        · go_wp2_with fail
          go_meet
          exact ⟨8 * (ds.length : Int), by omega, rfl, rfl⟩
        · have hq' : (bits .and .u8 md 1 != 0) = false := by simpa using hq
          clear hq
          go_wp2_with fail
          go_meet
          exact ⟨N, hN, rfl, rfl⟩
      case rest =>
      obtain ⟨N', hN', rfl, hwc⟩ := hcut
      replace hwc := hwc.symm
      subst hwc
      go_upto_if 36 with fail
      go_cut [3] (fun s3 wx => ∃ P' : Int, (-9223372036854775808 ≤ P' ∧ P' ≤ 9223372036854775807) ∧ s3 = .int .i64 P' ∧ wx = w)
      case first =>
        by_cases hq : (bits .and .u8 md 2 != 0) = true
        · go_wp2_with fail
          go_meet
          refine ⟨_, ?_, rfl, rfl⟩
          generalize (IntKind.u64.wrap pos).tmod (8 * (ds.length : Int) + 1) = T
          unfold wrap64
          omega
        · have hq' : (bits .and .u8 md 2 != 0) = false := by simpa using hq
          clear hq
          go_wp2_with fail
          go_meet
          exact ⟨pos, hp, rfl, rfl⟩
      case rest =>
      obtain ⟨P', hP', rfl, hwc⟩ := hcut
      replace hwc := hwc.symm
      subst hwc
      clear hN hp
      go_wp2_with fail
      refine (klens_any a c xs _ HS HR h5).mono ?_
      rintro e w1 ⟨g1, ys, rfl, hg1, hyl, hlen, hfit, hr1, hb1⟩
      have HN := hid hyl.symm
      have HSY := hid (Sees.row hr1 (by omega))
      have HRY := hid hlen.range
      have HF := hid hfit
      have HL := hid hlen
      have HK := hid ((fits_iff ys).1 hfit).2
      have h6 : ys.length ≤ 100000 := by omega
      have h7 : ys.length ≤ 1024 := by omega
      have HCL : Hid ((cntFrom cnt0 ys).length = 16) := cntFrom_length ys cnt0
      have HFL := hid (firsts_length (cntFrom cnt0 ys))
      generalize hcn : cntFrom cnt0 ys = cn at HCL HFL
      have HCN := hid hcn
      clear hyl hlen hfit hcn
      go_wp2_with (first
        | (go_at_call 15; refine (newtable_yes _ _ _ ys _ HN HSY HRY HF h6).mono ?_; rintro e w2 ⟨gc, go, _, ord, rfl, hgc, hgo, rfl, hord, hrc, hro, hb2⟩; rw [HCN.out])
        | (refine wpList_storeRow rfl 44 _ _ rfl _ (tabCells (.slice (some ⟨gc, 0, none⟩) xs.length xs.length) cn (firsts cn) (.slice (some ⟨go, 0, none⟩) ord.length ord.length)) rfl rfl _ (tabCells (.slice none 0 0) (List.replicate 16 0) (List.replicate 16 0) (.slice none 0 0)) (RowV.fresh _ _ (tabCells (.slice none 0 0) (List.replicate 16 0) (List.replicate 16 0) (.slice none 0 0)) _ rfl) (by rw [tabCells_length _ _ _ _ HCL HFL]; kernel_rfl) (by rw [tabCells_length _ _ _ _ HCL HFL]; rfl) (tab_one _ _ _ _ _ _ _ _) ?_; intro w3 hr3 hg3
           have hs1 := hb1.size
           have hs2 := hb2.size
           have hs3 := hg3.size
           simp only [World.size_alloc] at hs3
           have HB3 : Hid (Below w.heap.size w w3) := hid (((hb1.trans (hb2.mono hs1)).alloc (by omega) _).grown hg3 (by simp; omega) (by intro k h; cases h; omega))
           have HRO : Hid (RowV w3 go 3 (ints .i64 ord)) := hid ((hro.alloc _).grown hg3 (by simp; have := hro.lt; omega))
           have HSY3 : Hid (Sees .u8 w3 (some ⟨g1, 0, none⟩) ys) := hid (Sees.row (((hr1.below hb2 hr1.lt).alloc _).grown hg3 (by simp; have := hr1.lt; omega)) (by omega))
           have HSD3 : Hid (Sees .u8 w3 ad ds) := hid (HSD.out.below HB3.out (Nat.le_refl _))
           have HO := hid hord
           have HR3 := hid hr3
           clear hg3 hb1 hb2 hrc hro hr3 hord hr1)
        | (refine wpList_loadRow rfl 44 _ rfl _ rfl _ _ _ HR3.out Ychm.underlying44 rfl (by rw [tabCells_length _ _ _ _ HCL HFL]; kernel_rfl) ?_)
        | (go_at_call 16
           have hdc := decone_any ys ds (some ⟨gc, 0, none⟩) xs.length xs.length go ord ad ds.length cd N' P' w3 HL HK h6 HO HRO rfl HSD3 HRD hN'.2 hP'
           rw [HCN.out] at hdc
           refine hdc.mono ?_; rintro e w4 ⟨hans, hb4⟩
           have HANS := hid hans
           obtain ⟨s, q, t, rfl⟩ := dec_form hans
           clear hans hdc)
        | (go_at_call 17
           refine (kmodel_any ys ds (some ⟨g1, 0, none⟩) xs.length xs.length ad ds.length cd N' P' _ HL HK HN (HSY3.out.below hb4 (Nat.le_refl _)) h7 rfl (HSD3.out.below hb4 (Nat.le_refl _)) HRD (by omega) hN' hP').mono ?_
           rintro e w5 ⟨hans, hw5⟩
           replace hw5 := hw5.symm
           subst hw5
           obtain rfl := dec_unique HL.out HANS.out hans
           clear hans))
      go_ret
      exact ⟨ret_bool (by simp), HB3.out.trans (hb4.mono HB3.out.size)⟩
end Go.Proofs.Ymbrch
