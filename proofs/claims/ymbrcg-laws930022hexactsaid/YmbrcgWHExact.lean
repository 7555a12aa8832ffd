/- huff.LawS930022HExact, walked. -/
import Derived.Test.YmbrcgWHParts
import Derived.Lib.SliceRun
namespace Go.Proofs.Ymbrcg
open Go.RowKit
set_option linter.unusedVariables false
set_option linter.unusedSimpArgs false
theorem allgood_snoc (cds : List (Int × Int)) (ss : List Int) (s : Int) : AllGood cds (ss ++ [s]) ↔ AllGood cds ss ∧ Good cds s := by
  unfold AllGood
  constructor
  · exact fun h => ⟨fun x hx => h x (by simp [hx]), h s (by simp)⟩
  · rintro ⟨h1, h2⟩ x hx
    rcases List.mem_append.1 hx with h | h
    · exact h1 x h
    · rw [List.mem_singleton] at h; rw [h]; exact h2
theorem bitsOf_take (B : Int) (l j : Nat) (hl : l ≤ 15) (hj : j < l) : (bitsOf (B, (l : Int))).take (j + 1) = (bitsOf (B, (l : Int))).take j ++ [(B / 2 ^ (l - 1 - j) % 2 == 1)] := by
  have h15 : ¬ (15 : Int) < ((B, (l : Int)) : Int × Int).2 := by simp; omega
  have hlen : (bitsOf (B, (l : Int))).length = l := by rw [bitsOf_length _ h15]; simp
  have hg := bitsOf_get (B, (l : Int)) h15 j (by simpa using hj)
  rw [List.take_succ_eq_append_getElem (by omega)]
  rw [List.getElem?_eq_getElem (by omega), Option.some.injEq] at hg
  rw [hg]
  simp [cbit]
set_option maxRecDepth 8000 in
set_option maxHeartbeats 3200000 in
theorem hexact_any (ab : Option Addr) (cb : Nat) (bs : List Int) (a : Option Addr) (c : Nat) (xs : List Int) (ar : Option Addr) (cr : Nat) (rs : List Int) (wild : Bool) (w : World)
    (hb0 : Sees .u32 w ab bs) (hbr : ∀ x ∈ bs, 0 ≤ x ∧ x < 4294967296) (h : Sees .u8 w a xs) (hr : ∀ x ∈ xs, 0 ≤ x ∧ x ≤ 255) (hra : Sees .i64 w ar rs) (hrr : ∀ x ∈ rs, -9223372036854775808 ≤ x ∧ x ≤ 9223372036854775807) :
    Calls Ycgm.prog 9 #[.slice ab bs.length cb, .slice a xs.length c, .slice ar rs.length cr, .bool wild] w fun e w' => e = .returned (.bool true) ∧ Below w.heap.size w w' := by
  have hm := h.1
  have hm2 := hra.1
  have HB := hid hb0
  have HBR := hid hbr
  have HS := hid h
  have HR := hid hr
  have HA := hid hra
  have HAR := hid hrr
  clear hb0 hbr h hr hra hrr
  by_cases hbig : 1024 < xs.length
  · have hbig' : (1024 : Int) < (xs.length : Int) := by omega
    go_enter Ycgm.func9, Ycgm.ntmps9
    go_wp2
    go_ret
    exact ⟨rfl, Below.refl _ _⟩
  · by_cases hbig2 : 1024 < rs.length
    · have hbig' : (xs.length : Int) ≤ 1024 := by omega
      have hbig2' : (1024 : Int) < (rs.length : Int) := by omega
      go_enter Ycgm.func9, Ycgm.ntmps9
      go_wp2
      go_ret
      exact ⟨rfl, Below.refl _ _⟩
    · have hbig' : (xs.length : Int) ≤ 1024 := by omega
      have hbig2' : (rs.length : Int) ≤ 1024 := by omega
      go_enter Ycgm.func9, Ycgm.ntmps9
      go_upto_region 5 with (first
        | (go_at_call 21; refine (hcodes_any ab cb bs a c xs _ _ HB HBR HS HR (by omega)).mono ?_; rintro e w1 ⟨g1, cds, rfl, hg1, hcl, hcr, hrc, hb1⟩)
        | (go_at_call 22; refine (hsymbols_any ar cr rs xs.length _ _ (HA.out.below hb1 (Nat.le_refl _)) HAR (by omega) (by omega)).mono ?_; rintro e w2 ⟨g2, ss, rfl, hg2, hsl, hsr, hrs, hb2⟩))
      have HCR := hid hcr
      have HSR := hid hsr
      have HRC := hid (hrc.below hb2 hrc.lt)
      have HRS := hid hrs
      have hs1 := hb1.size
      have hs2 := hb2.size
      have HBW : Hid (Below w.heap.size w w2) := hid (hb1.trans (hb2.mono hs1))
      have hl1 := HRC.out.lt
      have hl2 := hrs.lt
      clear hcr hsr hrc hrs hb1 hb2 HB HBR HS HR HA HAR
      go_wp2
      go_loopw [11, 12, 41] (fun gv wv iv wr => ∃ (k : Nat) (gd : Bool) (v : Value), v = wv ∧ k ≤ rs.length ∧ iv = .int .i64 k ∧ gv = .bool gd ∧ Hid (gd = true ↔ AllGood cds (ss.take k)) ∧ Hid (OwnB wr w2.heap.size 4 v (encB cds (ss.take k))) ∧ Below w2.heap.size w2 wr) (fun _ _ iv _ => rs.length - (intOf iv).toNat)
      case atStart =>
        exact ⟨0, true, _, rfl, Nat.zero_le _, rfl, rfl, hid (by simp [AllGood]), hid (OwnB.nil _ _ _), Below.refl _ _⟩
      case round =>
        obtain ⟨k, gd, v, rfl, hk, rfl, rfl, HG, HO, hb⟩ := hrel
        have hws := hb.size
        by_cases hlt : k < rs.length
        · have hlt' : (k : Int) < (rs.length : Int) := by omega
          have hks : k < ss.length := by omega
          have hcell := (HRS.out.below hb hl2).int hks
          rw [getD_get _ _ hks] at hcell
          have hsr := HSR.out _ (List.getElem_mem hks)
          have HTK : Hid (ss.take (k + 1) = ss.take k ++ [ss[k]]) := hid (List.take_succ_eq_append_getElem hks)
          have HEN : Hid (encB cds (ss.take (k + 1)) = encB cds (ss.take k) ++ symC cds ss[k]) := hid (by rw [HTK.out, encB_snoc])
          have HGN : Hid (AllGood cds (ss.take (k + 1)) ↔ AllGood cds (ss.take k) ∧ Good cds ss[k]) := hid (by rw [HTK.out, allgood_snoc])
          have hel := encB_le cds (ss.take k)
          have htl : (ss.take k).length ≤ 1024 := by rw [List.length_take]; omega
          generalize ss[k] = s at hcell HTK HEN HGN hsr
          by_cases hs0 : s < 0
          · have HE2 : Hid (encB cds (ss.take (k + 1)) = encB cds (ss.take k)) := hid (by rw [HEN.out, symC, if_neg (by omega), List.append_nil])
            have HG2 : Hid (false = true ↔ AllGood cds (ss.take (k + 1))) := hid ⟨fun h => by simp at h, fun h => by have := (HGN.out.1 h).2.1; omega⟩
            go_wp2
            go_roundw
            case rel => exact ⟨k + 1, false, v, rfl, by omega, by go_num, rfl, HG2, hid (by rw [HE2.out]; exact HO.out), hb⟩
            case measure => simp [intOf]; omega
          · obtain ⟨n, rfl⟩ : ∃ n : Nat, s = (n : Int) := ⟨s.toNat, by omega⟩
            by_cases hn : n < cds.length
            · have hn' : ¬ (xs.length : Int) ≤ (n : Int) := by omega
              have hn'' : (n : Int) < (xs.length : Int) := by omega
              have HRW := hid (HRC.out.below hb hl1)
              have c0 : wr.cell? ⟨g1, n * 2, none⟩ = some (.int .u32 cds[n].1) := HRW.out.cell (flat_get0 cds n hn)
              have c1 : wr.cell? ⟨g1, n * 2 + 1, none⟩ = some (.int .u8 cds[n].2) := HRW.out.cell (flat_get1 cds n hn)
              have HC0 : Hid (∀ wx, Below w2.heap.size w2 wx → wx.cell? ⟨g1, n * 2, none⟩ = some (.int .u32 cds[n].1)) := hid (fun wx hbx => (HRC.out.below hbx hl1).cell (flat_get0 cds n hn))
              have hcr := HCR.out _ (List.getElem_mem hn)
              have HGI : Hid (Good cds (n : Int) ↔ cds[n].2 ≠ 0) := hid (by
                unfold Good
                rw [Int.toNat_natCast, List.getElem?_eq_getElem hn, Option.getD_some]
                exact ⟨fun h => h.2.2, fun h => ⟨by omega, by omega, h⟩⟩)
              have HSY : Hid (symC cds (n : Int) = bitsOf cds[n]) := hid (by
                unfold symC
                rw [if_pos (by omega), Int.toNat_natCast, List.getElem?_eq_getElem hn, Option.getD_some])
              generalize cds[n] = cc at c0 c1 hcr HGI HSY HC0
              obtain ⟨B, L⟩ := cc
              simp only at c0 c1 hcr HGI HC0
              obtain ⟨l, rfl⟩ : ∃ l : Nat, L = (l : Int) := ⟨L.toNat, by omega⟩
              go_upto_if 60 with fail
              go_cut [11] (fun s11 wx => s11 = .bool (gd && decide (l ≠ 0)) ∧ wx = wr)
              case first =>
                by_cases hl0 : l = 0
                · subst hl0
                  go_wp2_with fail
                  go_meet
                  exact ⟨by simp, rfl⟩
                · have hl0' : ((l : Int) == 0) = false := by simp; omega
                  go_wp2_with fail
                  go_meet
                  exact ⟨by simp [hl0], rfl⟩
              case rest =>
              obtain ⟨rfl, hwc⟩ := hcut
              replace hwc := hwc.symm
              subst hwc
              have HG2 : Hid ((gd && decide (l ≠ 0)) = true ↔ AllGood cds (ss.take (k + 1))) := hid (by
                rw [Bool.and_eq_true, HGN.out, HGI.out, HG.out]
                simp)
              generalize (gd && decide (l ≠ 0)) = gd2 at HG2
              by_cases hl15 : 15 < l
              · have hl15' : (15 : Int) < (l : Int) := by omega
                have HE2 : Hid (encB cds (ss.take (k + 1)) = encB cds (ss.take k)) := hid (by rw [HEN.out, HSY.out, bitsOf, if_pos (by simp; omega), List.append_nil])
                go_wp2
                go_roundw
                case rel => exact ⟨k + 1, gd2, v, rfl, by omega, by go_num, rfl, HG2, hid (by rw [HE2.out]; exact HO.out), hb⟩
                case measure => simp [intOf]; omega
              · have hl15' : ¬ (15 : Int) < (l : Int) := by omega
                have HE2 : Hid (encB cds (ss.take (k + 1)) = encB cds (ss.take k) ++ (bitsOf (B, (l : Int))).take l) := hid (by
                  rw [HEN.out, HSY.out, show (bitsOf (B, (l : Int))).take l = bitsOf (B, (l : Int)) from List.take_of_length_le (by rw [bitsOf_length _ (by simp; omega)]; simp)])
                go_wp2
                go_loopw [12, 16] (fun wv jv wr => ∃ (j : Nat) (v : Value), v = wv ∧ j ≤ l ∧ jv = .int .i64 j ∧ Hid (OwnB wr w2.heap.size 4 v (encB cds (ss.take k) ++ (bitsOf (B, (l : Int))).take j)) ∧ Below w2.heap.size w2 wr) (fun _ jv _ => l - (intOf jv).toNat)
                case atStart => exact ⟨0, _, rfl, Nat.zero_le _, rfl, hid (by simpa using HO.out), hb⟩
                case round =>
                  obtain ⟨j, v2, rfl, hj, rfl, HO2, hb2⟩ := hrel
                  have hws2 := hb2.size
                  by_cases hjl : j < l
                  · have hjl' : (j : Int) < (l : Int) := by omega
                    obtain ⟨ee, hee⟩ : ∃ ee : Nat, ee + j + 1 = l := ⟨l - 1 - j, by omega⟩
                    have hsub : (l : Int) - 1 - (j : Int) = (ee : Int) := by omega
                    have hee15 : ee ≤ 15 := by omega
                    have hbd := div_pow_bd B ee hcr.1.1
                    have hA := and1_u32 (B / 2 ^ ee) hbd.1 (by omega)
                    have HTT := hid (bitsOf_take B l j (by omega) hjl)
                    rw [show l - 1 - j = ee from by omega] at HTT
                    have y0 := HC0.out _ hb2
                    have hbl : (encB cds (ss.take k) ++ (bitsOf (B, (l : Int))).take j).length ≤ 100000 := by
                      rw [List.length_append, List.length_take]; omega
                    have HOB := hid HO2.out.lt
                    go_wp2_with (at_builtin; refine wpList_appendB _ rfl _ _ 47 rfl w2.heap.size 4 1 Ycgm.underlying47 (by kernel_rfl) v2 _ rfl (HO2.out.alloc _) _ (B / 2 ^ ee % 2 == 1) rfl (cell_fresh _ _ _ _ (by simp)) (by omega) (by omega) (by simp; omega) ?_; intro g cap w3 hOB hgr hgg)
                    go_roundw
                    case rel =>
                      refine ⟨j + 1, _, rfl, by omega, by go_num, hid ?_, (hb2.alloc (by omega) _).grown hgr (by simp; omega) (by intro q hq; have := HOB.out _ hq; omega)⟩
                      rw [HTT.out, ← List.append_assoc]
                      rw [List.length_append, List.length_take] at hOB
                      exact hOB
                    case measure => simp [intOf]; omega
                  · have hjl' : ¬ (j : Int) < (l : Int) := by omega
                    have hje : j = l := by omega
                    subst hje
                    go_wp2
                    go_roundw
                    case rel => exact ⟨k + 1, gd2, v2, rfl, by omega, by go_num, rfl, HG2, hid (by rw [HE2.out]; exact HO2.out), hb2⟩
                    case measure => simp [intOf]; omega
            · have hn' : (xs.length : Int) ≤ (n : Int) := by omega
              have HE2 : Hid (encB cds (ss.take (k + 1)) = encB cds (ss.take k)) := hid (by rw [HEN.out, symC, if_neg (by omega), List.append_nil])
              have HG2 : Hid (false = true ↔ AllGood cds (ss.take (k + 1))) := hid ⟨fun h => by simp at h, fun h => by have := (HGN.out.1 h).2.2.1; omega⟩
              go_wp2
              go_roundw
              case rel => exact ⟨k + 1, false, v, rfl, by omega, by go_num, rfl, HG2, hid (by rw [HE2.out]; exact HO.out), hb⟩
              case measure => simp [intOf]; omega
        · have hlt' : ¬ (k : Int) < (rs.length : Int) := by omega
          have HTA : Hid (ss.take k = ss) := hid (List.take_of_length_le (by omega))
          rw [HTA.out] at HG HO
          obtain ⟨aq, cq, rfl, hq⟩ := HO.out.form
          have HQ := hid hq
          have hle := encB_le cds ss
          have HRW := hid (HRC.out.below hb hl1)
          have HRW2 := hid (HRS.out.below hb hl2)
          have hnil := fun (wx : World) (ax : Option Addr) (lx cx : Nat) => Lib.run_eql_slice_nil (P := Ycgm.prog) wx 22 5 ax lx cx 0 0 Ycgm.underlying22
          have hll : (encB cds ss).length ≤ 15360 := by omega
          clear hq HO
          by_cases hAG : AllGood cds ss
          · have hgd : gd = true := HG.out.2 hAG
            subst hgd
            go_upto_region 23 with (first
              | (refine wpList_storeRow rfl 31 _ _ rfl _ (tabCells (.slice (some ⟨g1, 0, none⟩) xs.length xs.length) (List.replicate 16 0) (List.replicate 16 0) (.slice none 0 0)) rfl rfl _ (tabCells (.slice none 0 0) (List.replicate 16 0) (List.replicate 16 0) (.slice none 0 0)) (RowV.fresh _ _ (tabCells (.slice none 0 0) (List.replicate 16 0) (List.replicate 16 0) (.slice none 0 0)) _ rfl) (by kernel_rfl) (by kernel_rfl) (tab_one _ _ _ _ _ _ _ _) ?_; intro w3 hr3 hg3
                 have hs3 := hg3.size
                 simp only [World.size_alloc] at hs3
                 have HB3 : Hid (Below wr.heap.size wr w3) := hid (((Below.refl _ _).alloc (Nat.le_refl _) _).grown hg3 (by simp) (by intro k h; cases h; omega))
                 have HR3 := hid hr3
                 clear hg3 hr3)
              | (refine wpList_loadRow rfl 31 _ rfl _ rfl _ _ _ HR3.out Ycgm.underlying31 rfl (by kernel_rfl) ?_)
              | (go_at_call 23
                 refine (encode_yes cds (tabCells (.slice (some ⟨g1, 0, none⟩) xs.length xs.length) (List.replicate 16 0) (List.replicate 16 0) (.slice none 0 0)) g1 xs.length (some ⟨g2, 0, none⟩) rs.length rs.length ss w3 ?_ ?_ ?_ ?_ ?_ ?_ ?_ hAG).mono ?_
                 · rw [hcl]; rfl
                 · exact HRW.out.below HB3.out HRW.out.lt
                 · exact HCR.out
                 · omega
                 · exact hsl.symm
                 · exact Sees.row (HRW2.out.below HB3.out HRW2.out.lt) (by omega)
                 · omega
                 rintro e w4 ⟨av, cv, ds, rfl, hse, hni, hh, hdr, hb4⟩))
            have HSE := hid hse
            have HH := hid hh
            have HDR := hid hdr
            have HDL := hid hh.1
            have hs4 := hb4.size
            have HQ4 := hid ((HQ.out.below HB3.out).below (hb4.mono (Nat.le_refl _)))
            have HBZ : Hid (Below w.heap.size w w4) := hid ((((HBW.out.trans (hb.mono (by omega)))).trans (HB3.out.mono (by omega))).trans (hb4.mono (by omega)))
            clear hse hh hdr hb4
            by_cases hz : (encB cds ss).length = 0
            · have hd0 : ds = [] := by
                have := HDL.out
                exact List.length_eq_zero_iff.1 (by omega)
              have ha0 := hni.2 hd0
              subst ha0
              subst hd0
              rw [hz]
              go_wp2
              go_ret
              exact ⟨by simp, HBZ.out.alloc (by omega) _⟩
            · have hz' : (((encB cds ss).length : Int) == 0) = false := by simp; simpa using hz
              go_wp2_with (go_at_call 24; refine (hholds_yes av ds.length cv ds _ aq _ cq (encB cds ss) _ rfl (HSE.out.alloc _) HDR rfl (HQ4.out.below ((Below.refl _ _).alloc (Nat.le_refl _) _)) rfl HH (by omega)).mono ?_; rintro e w5 ⟨rfl, hb5⟩)
              go_ret
              exact ⟨rfl, (HBZ.out.alloc (by omega) _).trans (hb5.mono (by simp; omega))⟩
          · have hgd : gd = false := by
              cases gd
              · rfl
              · exact absurd (HG.out.1 rfl) hAG
            subst hgd
            go_upto_region 23 with (first
              | (refine wpList_storeRow rfl 31 _ _ rfl _ (tabCells (.slice (some ⟨g1, 0, none⟩) xs.length xs.length) (List.replicate 16 0) (List.replicate 16 0) (.slice none 0 0)) rfl rfl _ (tabCells (.slice none 0 0) (List.replicate 16 0) (List.replicate 16 0) (.slice none 0 0)) (RowV.fresh _ _ (tabCells (.slice none 0 0) (List.replicate 16 0) (List.replicate 16 0) (.slice none 0 0)) _ rfl) (by kernel_rfl) (by kernel_rfl) (tab_one _ _ _ _ _ _ _ _) ?_; intro w3 hr3 hg3
                 have hs3 := hg3.size
                 simp only [World.size_alloc] at hs3
                 have HB3 : Hid (Below wr.heap.size wr w3) := hid (((Below.refl _ _).alloc (Nat.le_refl _) _).grown hg3 (by simp) (by intro k h; cases h; omega))
                 have HR3 := hid hr3
                 clear hg3 hr3)
              | (refine wpList_loadRow rfl 31 _ rfl _ rfl _ _ _ HR3.out Ycgm.underlying31 rfl (by kernel_rfl) ?_)
              | (go_at_call 23
                 refine (encode_no cds (tabCells (.slice (some ⟨g1, 0, none⟩) xs.length xs.length) (List.replicate 16 0) (List.replicate 16 0) (.slice none 0 0)) g1 xs.length (some ⟨g2, 0, none⟩) rs.length rs.length ss w3 ?_ ?_ ?_ ?_ ?_ ?_ ?_ hAG).mono ?_
                 · rw [hcl]; rfl
                 · exact HRW.out.below HB3.out HRW.out.lt
                 · exact HCR.out
                 · omega
                 · exact hsl.symm
                 · exact Sees.row (HRW2.out.below HB3.out HRW2.out.lt) (by omega)
                 · omega
                 rintro e w4 ⟨rfl, hb4⟩))
            have hs4 := hb4.size
            have HBZ : Hid (Below w.heap.size w w4) := hid ((((HBW.out.trans (hb.mono (by omega)))).trans (HB3.out.mono (by omega))).trans (hb4.mono (by omega)))
            go_wp2
            go_ret
            exact ⟨by simp, HBZ.out.alloc (by omega) _⟩
end Go.Proofs.Ymbrcg
