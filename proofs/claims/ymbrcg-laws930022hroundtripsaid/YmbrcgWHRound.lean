/- huff.LawS930022HRoundTrip, walked. -/
import Derived.Test.YmbrcgEncode
import Derived.Test.YmbrcgShape
import Derived.Deep.DeepCutAuto
namespace Go.Proofs.Ymbrcg
open Go.RowKit
set_option linter.unusedVariables false
set_option linter.unusedSimpArgs false
theorem Used.snoc {pre : List Int} {u : Int} (h : Used pre u) (x : Int) : Used (pre ++ [x]) u := by
  obtain ⟨h0, h1, h2⟩ := h
  refine ⟨h0, by rw [List.length_append]; simp; omega, ?_⟩
  rw [List.getElem?_append_left (by omega)]; exact h2
theorem Used.last (pre : List Int) (x : Int) (h : 0 < x) : Used (pre ++ [x]) (pre.length : Int) := by
  refine ⟨by omega, by rw [List.length_append]; simp; omega, ?_⟩
  rw [Int.toNat_natCast, List.getElem?_append_right (Nat.le_refl _), Nat.sub_self]; simpa using h
theorem used_all_snoc {pre us : List Int} (h : ∀ u ∈ us, Used pre u) (x : Int) : ∀ u ∈ us, Used (pre ++ [x]) u := fun u hu => (h u hu).snoc x
theorem used_all_put {pre us : List Int} {k : Nat} (hk : pre.length = k) (h : ∀ u ∈ us, Used pre u) (x : Int) (hx : 0 < x) : ∀ u ∈ us ++ [(k : Int)], Used (pre ++ [x]) u := by
  intro u hu
  rcases List.mem_append.1 hu with h' | h'
  · exact (h u h').snoc x
  · rw [List.mem_singleton] at h'; rw [h', ← hk]; exact Used.last pre x hx
theorem assign_range {ys : List Int} (hl : Lens ys) (hk : ksum ys ≤ 32768) : ∀ c ∈ assignV ys, (0 ≤ c.1 ∧ c.1 < 4294967296) ∧ 0 ≤ c.2 ∧ c.2 ≤ 255 := by
  intro c hc
  obtain ⟨i, hi, rfl⟩ := List.mem_iff_getElem.1 hc
  have hi' : i < ys.length := by rw [assignV_length] at hi; exact hi
  have hav := assignV_get ys hl hk i hi'
  rw [List.getElem?_eq_getElem hi, Option.some.injEq] at hav
  have hy := hl _ (List.getElem_mem hi')
  rw [hav]
  by_cases h0 : 0 < ys[i]
  · rw [if_pos h0]
    have h1 := codeB_lt ys hl hk i hi' h0
    have h2 := pow_le_32768 ys[i].toNat (by omega)
    exact ⟨⟨h1.1, by show codeB ys ys[i] i < _; omega⟩, by show 0 ≤ ys[i]; omega, by show ys[i] ≤ 255; omega⟩
  · rw [if_neg h0]; simp
theorem used_allgood {ys : List Int} (hl : Lens ys) (hk : ksum ys ≤ 32768) {ss : List Int} (h : ∀ s ∈ ss, Used ys s) : AllGood (assignV ys) ss := fun s hs => used_good hl hk (h s hs)
theorem enc_step {ys : List Int} (hl : Lens ys) (hk : ksum ys ≤ 32768) {ss : List Int} {s : Int} (h : Used ys s) : ((encB (assignV ys) (ss ++ [s])).length : Int) = ((encB (assignV ys) ss).length : Int) + ys[s.toNat]?.getD 0 := by
  have := used_len hl h
  rw [encB_snoc, List.length_append, used_symlen hl hk h]; omega
theorem pick_ix (X : Int) (n : Nat) (h : 0 < n) (hn : n ≤ 1000000) : ∃ q : Nat, q < n ∧ wrap64 ((IntKind.u64.wrap X).tmod (n : Int)) = (q : Int) := by
  have h0 : 0 ≤ IntKind.u64.wrap X := by
    unfold IntKind.wrap
    first | omega | (simp; omega) | exact Int.emod_nonneg _ (by decide)
  rw [Int.tmod_eq_emod_of_nonneg h0]
  have h1 := Int.emod_nonneg (IntKind.u64.wrap X) (show (n : Int) ≠ 0 by omega)
  have h2 := Int.emod_lt_of_pos (IntKind.u64.wrap X) (show (0 : Int) < (n : Int) by omega)
  generalize IntKind.u64.wrap X % (n : Int) = Y at h1 h2
  refine ⟨Y.toNat, by omega, ?_⟩
  unfold wrap64
  omega
set_option maxRecDepth 8000 in
set_option maxHeartbeats 3200000 in
theorem hround_any (a : Option Addr) (c : Nat) (xs : List Int) (ar : Option Addr) (cr : Nat) (rs : List Int) (w : World)
    (h : Sees .u8 w a xs) (hr : ∀ x ∈ xs, 0 ≤ x ∧ x ≤ 255) (hra : Sees .i64 w ar rs) (hrr : ∀ x ∈ rs, -9223372036854775808 ≤ x ∧ x ≤ 9223372036854775807) :
    Calls Ycgm.prog 11 #[.slice a xs.length c, .slice ar rs.length cr] w fun e w' => e = .returned (.bool true) ∧ Below w.heap.size w w' := by
  have hm := h.1
  have hm2 := hra.1
  have HS := hid h
  have HR := hid hr
  have HA := hid hra
  have HAR := hid hrr
  clear h hr hra hrr
  by_cases hbig : 1024 < xs.length
  · have hbig' : (1024 : Int) < (xs.length : Int) := by omega
    go_enter Ycgm.func11, Ycgm.ntmps11
    go_wp2
    go_ret
    exact ⟨rfl, Below.refl _ _⟩
  · by_cases hbig2 : 1024 < rs.length
    · have hbig' : (xs.length : Int) ≤ 1024 := by omega
      have hbig2' : (1024 : Int) < (rs.length : Int) := by omega
      go_enter Ycgm.func11, Ycgm.ntmps11
      go_wp2
      go_ret
      exact ⟨rfl, Below.refl _ _⟩
    · have hbig' : (xs.length : Int) ≤ 1024 := by omega
      have hbig2' : (rs.length : Int) ≤ 1024 := by omega
      go_enter Ycgm.func11, Ycgm.ntmps11
      go_wp2_with (at_make; refine wpList_makeRow _ rfl _ _ 22 rfl 5 (.int .u8 0) 1 1 Ycgm.underlying22 (by kernel_rfl) _ _ _ _ xs.length rfl rfl rfl rfl (by omega) (by unfold maxLen; omega) ?_; intro w1 hrow1 hg1; rw [made_int] at hrow1)
      have hb1 : Below w.heap.size w w1 := below_of_grown hg1 (Nat.le_refl _) (by simp)
      clear hg1
      go_loopw [6, 7, 37] (fun uv lv iv wr => ∃ (k : Nat) (L : Int) (pre us : List Int) (v : Value), v = uv ∧ k ≤ xs.length ∧ iv = .int .i64 k ∧ lv = .int .i64 L ∧ 0 ≤ L ∧ L ≤ 32768 ∧ us.length ≤ k ∧ Hid (pre.length = k) ∧ Hid (Shp pre L) ∧ Hid (∀ u ∈ us, Used pre u) ∧ Hid (OwnN wr (w.heap.size + 1) 3 .i64 v us) ∧ RowV wr w.heap.size 5 (ints .u8 (pre ++ List.replicate (xs.length - k) 0)) ∧ Below w.heap.size w wr) (fun _ _ iv _ => xs.length - (intOf iv).toNat)
      case atStart => exact ⟨0, 32768, [], [], _, rfl, Nat.zero_le _, rfl, rfl, by omega, by omega, by simp, hid rfl, hid Shp.nil, hid (by simp), hid (OwnN.nil _ _ _ _), hrow1, hb1⟩
      case round =>
        obtain ⟨k, L, pre, us, v, rfl, hk, rfl, rfl, hL0, hL1, hul, HP, HSH, HU, HO, hrow, hb⟩ := hrel
        have hws := hb.size
        have hrl := hrow.lt
        by_cases hlt : k < xs.length
        · have hlt' : (k : Int) < (xs.length : Int) := by omega
          obtain ⟨b, off, rfl, hbs, hcell⟩ := HS.out.2 k hlt
          have hx := HR.out _ (List.getElem_mem hlt)
          replace hcell := (hb.cell hbs).trans hcell
          rw [getD_get _ _ hlt] at hcell
          generalize xs[k] = X at hcell hx
          have hold := hrow.int (i := k) (by rw [build_length pre _ k HP hk]; exact hlt)
          have hfz := hrow.frozen k
          generalize (pre ++ List.replicate (xs.length - k) 0)[k]?.getD 0 = oldv at hold
          have HSK : Hid (RowV wr w.heap.size 5 (ints .u8 ((pre ++ [0]) ++ List.replicate (xs.length - (k + 1)) 0))) := hid (by rw [← build_skip' _ _ _ hlt]; exact hrow)
          have HST : Hid (∀ v : Int, RowV (wr.setCell ⟨w.heap.size, k, none⟩ (.int .u8 v)) w.heap.size 5 (ints .u8 ((pre ++ [v]) ++ List.replicate (xs.length - (k + 1)) 0))) := hid (fun v => by
            rw [← build_set pre _ k v HP hlt]; exact hrow.setInt k v)
          have HP2 : Hid (∀ v : Int, (pre ++ [v]).length = k + 1) := hid (fun v => by rw [List.length_append, HP.out]; rfl)
          have HOB := hid (owns_lt HO.out)
          by_cases hz : X % 16 = 0
          · have hz' : (X % 16 == 0) = true := by simpa using hz
            clear hz
            go_wp2
            go_roundw
            case rel => exact ⟨k + 1, L, pre ++ [0], us, v, rfl, by omega, by go_num, rfl, hL0, hL1, by omega, hid (HP2.out 0), hid HSH.out.zero, hid (used_all_snoc HU.out 0), HO, HSK.out, hb⟩
            case measure => simp [intOf]; omega
          · have hz' : (X % 16 == 0) = false := by simpa using hz
            have hlo : 0 < X % 16 := by omega
            go_wp2
            go_loop [10] (fun l => ∃ m : Nat, 1 ≤ m ∧ m ≤ 16 ∧ l = .int .i64 m) (fun l => 16 - (intOf l).toNat)
            case atStart =>
              refine ⟨(X % 16).toNat, by omega, by omega, ?_⟩
              rw [show (((X % 16).toNat : Nat) : Int) = X % 16 from by omega]
            case round =>
              obtain ⟨m, hm1, hm16, rfl⟩ := hrel
              by_cases hm15 : m ≤ 15
              · have hm15' : (m : Int) ≤ 15 := by omega
                have hw := wt_shl (m : Int) (by omega) (by omega)
                have hpw : (2 : Int) ^ (15 - (m : Int)).toNat = 2 ^ (15 - m) := by rw [show (15 - (m : Int)).toNat = 15 - m from by omega]
                rw [hpw] at hw
                have hwb := wt_bd (m : Int)
                have hwg := wt_ge1 (m : Int) (by omega) (by omega)
                have HW := hid hw
                rw [hw] at hwb hwg
                clear hw
                by_cases hfit : L < 2 ^ (15 - m)
                · go_wp2
                  go_round
                  case rel => exact ⟨m + 1, by omega, by omega, by go_num⟩
                  case measure => simp [intOf]; omega
                · go_wp2_with (at_builtin; refine wpList_appendI _ rfl _ _ 25 rfl (w.heap.size + 1) 3 .i64 8 Ycgm.underlying25 (by kernel_rfl) v us rfl ((HO.out.other _ _ (by simp)).alloc _).owns _ (k : Int) rfl (cell_fresh _ _ _ _ (by simp)) (by omega) (by omega) (by simp; omega) ?_; intro g cap w3 hOI hgr hgg)
                  go_roundw
                  case rel =>
                    refine ⟨k + 1, L - 2 ^ (15 - m), pre ++ [(m : Int)], us ++ [(k : Int)], _, rfl, by omega, by go_num, by go_num, by omega, by omega, by simp; omega, hid (HP2.out m), hid ?_, hid (used_all_put HP.out HU.out m (by omega)), hid (.inr ⟨g, cap, by simp, by simp, hOI⟩), ((HST.out m).alloc _).grown hgr (fun e => by have := HOB.out _ e.symm; omega), ((hb.setCell (Nat.le_refl _) _).alloc (by simp; omega) _).grown hgr (by simp; omega) (by intro q hq; have := HOB.out _ hq; omega)⟩
                    have := HSH.out.add (m : Int) (by omega) (by omega)
                    rw [HW.out] at this
                    exact this
                  case measure => simp [intOf]; omega
              · have hm15' : ¬ (m : Int) ≤ 15 := by omega
                go_wp2
                go_roundw
                case rel => exact ⟨k + 1, L, pre ++ [0], us, v, rfl, by omega, by go_num, rfl, hL0, hL1, by omega, hid (HP2.out 0), hid HSH.out.zero, hid (used_all_snoc HU.out 0), HO, HSK.out, hb⟩
                case measure => simp [intOf]; omega
        · have hlt' : ¬ (k : Int) < (xs.length : Int) := by omega
          rw [build_full pre _ _ hlt] at hrow
          have hpl : pre.length = xs.length := by rw [HP.out]; omega
          obtain ⟨ys, hys⟩ : ∃ ys, pre = ys := ⟨_, rfl⟩
          rw [hys] at hrow hpl HU HSH
          have HL : Hid (Lens ys) := hid HSH.out.1
          have HF : Hid (fits ys = true) := hid (HSH.out.fits hL0)
          have HK := hid ((fits_iff ys).1 HF.out).2
          have HRY := hid HL.out.range
          have HROW := hid hrow
          have HB := hid hb
          have hsl : us.length ≤ 1024 := by omega
          clear hys HP hm hk HSH hrow1 hb1
          obtain ⟨av, cv, rfl, hsu, hnu⟩ := HO.out.form (by omega)
          have HSU := hid hsu
          obtain ⟨wA, hwA⟩ : ∃ wA, wr = wA := ⟨_, rfl⟩
          rw [hwA] at HB HSU HROW hrl ⊢
          have hsA : w.heap.size ≤ wA.heap.size := by rw [← hwA]; exact hws
          have HAA := hid (HA.out.below HB.out (Nat.le_refl _))
          clear HO hsu hwA hb hrow hws
          go_upto_if 79 with fail
          go_cut [11, 12] (fun s11 s12 wx => ∃ (ss : List Int) (vs : Value), vs = s11 ∧ s12 = .int .i64 ((encB (assignV ys) ss).length : Nat) ∧ ss.length ≤ 1024 ∧ Hid (∀ s ∈ ss, Used ys s) ∧ Hid (OwnN wx wA.heap.size 3 .i64 vs ss) ∧ Below wA.heap.size wA wx)
          case first =>
            by_cases hu0 : us.length = 0
            · have hu1 : ¬ (0 : Int) < (us.length : Int) := by omega
              clear hu0
              go_wp2_with fail
              go_meet
              exact ⟨[], _, rfl, rfl, by simp, hid (by simp), hid (OwnN.nil _ _ _ _), Below.refl _ _⟩
            · have hu1 : (0 : Int) < (us.length : Int) := by omega
              go_wp2_with fail
              go_loopw [11, 12, 82] (fun sv tv iv wx => ∃ (k : Nat) (ss : List Int) (vs : Value) (N : Nat), vs = sv ∧ k ≤ rs.length ∧ iv = .int .i64 k ∧ tv = .int .i64 N ∧ Hid (N = (encB (assignV ys) ss).length) ∧ ss.length = k ∧ N ≤ 15 * k ∧ Hid (∀ s ∈ ss, Used ys s) ∧ Hid (OwnN wx wA.heap.size 3 .i64 vs ss) ∧ Below wA.heap.size wA wx) (fun _ _ iv _ => rs.length - (intOf iv).toNat)
              case atStart => exact ⟨0, [], _, 0, rfl, Nat.zero_le _, rfl, rfl, hid rfl, rfl, by omega, hid (by simp), hid (OwnN.nil _ _ _ _), Below.refl _ _⟩
              case round =>
                obtain ⟨k, ss, vs, N, rfl, hk, rfl, rfl, HN, hsk, hNk, HUS, HO, hb⟩ := hrel
                have hws := hb.size
                have HOB := hid (owns_lt HO.out)
                by_cases hlt : k < rs.length
                · have hlt' : (k : Int) < (rs.length : Int) := by omega
                  obtain ⟨b, off, rfl, hbs, hcell⟩ := HAA.out.2 k hlt
                  have hx := HAR.out _ (List.getElem_mem hlt)
                  replace hcell := (hb.cell hbs).trans hcell
                  rw [getD_get _ _ hlt] at hcell
                  generalize rs[k] = X at hcell hx
                  obtain ⟨q, hqn, hq⟩ := pick_ix X us.length (by omega) (by omega)
                  obtain ⟨b2, off2, rfl, hbs2, hcell2⟩ := HSU.out.2 q hqn
                  replace hcell2 := (hb.cell hbs2).trans hcell2
                  rw [getD_get _ _ hqn] at hcell2
                  have hus := HU.out _ (List.getElem_mem hqn)
                  generalize us[q] = s at hcell2 hus
                  have hus' := hus
                  obtain ⟨hs0, hs1, hs2⟩ := hus'
                  have HUSD := hid hus
                  obtain ⟨n, rfl⟩ : ∃ n : Nat, s = (n : Int) := ⟨s.toNat, by omega⟩
                  have hn : n < ys.length := by omega
                  have hn' : (n : Int) < (xs.length : Int) := by omega
                  have HES : Hid (((encB (assignV ys) (ss ++ [(n : Int)])).length : Int) = ((encB (assignV ys) ss).length : Int) + ys[n]?.getD 0) := hid (by have := enc_step (ss := ss) HL.out HK.out hus; rw [Int.toNat_natCast] at this; exact this)
                  have HUS2 : Hid (∀ x ∈ ss ++ [(n : Int)], Used ys x) := hid (fun x hx => by
                    rcases List.mem_append.1 hx with h' | h'
                    · exact HUS.out x h'
                    · rw [List.mem_singleton] at h'; rw [h']; exact HUSD.out)
                  have HLC : Hid (∀ wx, Below wA.heap.size wA wx → wx.cell? ⟨w.heap.size, n, none⟩ = some (.int .u8 (ys[n]?.getD 0))) := hid (fun wx hbx => (HROW.out.below hbx HROW.out.lt).int hn)
                  have hyn := used_len HL.out hus
                  rw [Int.toNat_natCast] at hyn
                  clear hs2 hus
                  rw [← HN.out] at HES
                  generalize ys[n]?.getD 0 = Y at HLC HES hyn
                  go_wp2_with (at_builtin; refine wpList_appendI _ rfl _ _ 25 rfl wA.heap.size 3 .i64 8 Ycgm.underlying25 (by kernel_rfl) vs ss rfl (HO.out.alloc _).owns _ (n : Int) rfl (cell_fresh _ _ _ _ (by simp)) (by omega) (by omega) (by simp; omega) ?_; intro g cap w3 hOI hgr hgg; have hb3 : Below wA.heap.size wA w3 := (hb.alloc (by omega) _).grown hgr (by simp; omega) (by intro z hz; have := HOB.out _ hz; omega); have y3 := HLC.out w3 hb3)
                  go_roundw
                  case rel =>
                    refine ⟨k + 1, ss ++ [(n : Int)], _, (encB (assignV ys) (ss ++ [(n : Int)])).length, rfl, by omega, by go_num, ?_, hid rfl, by simp; omega, ?_, HUS2, hid (.inr ⟨g, cap, by simp [hsk], by simp, hOI⟩), hb3⟩
                    · rw [HES.out]
                    · have := HES.out; omega
                  case measure => simp [intOf]; omega
                · have hlt' : ¬ (k : Int) < (rs.length : Int) := by omega
                  go_wp2_with fail
                  go_meet
                  exact ⟨ss, _, rfl, by rw [HN.out], by omega, HUS, HO, hb⟩
          case rest =>
          obtain ⟨ss, vs, rfl, rfl, hsl2, HUS, HO, hb⟩ := hcut
          obtain ⟨aS, cS, rfl, hss, hnS⟩ := HO.out.form (by omega)
          have HSS := hid hss
          have hsB := hb.size
          have HSY : Hid (Sees .u8 wc (some ⟨w.heap.size, 0, none⟩) ys) := hid (Sees.row (HROW.out.below hb HROW.out.lt) (by omega))
          have HBC : Hid (Below w.heap.size w wc) := hid (HB.out.trans (hb.mono hsA))
          have HCL : Hid ((cntFrom cnt0 ys).length = 16) := cntFrom_length ys cnt0
          have HFL := hid (firsts_length (cntFrom cnt0 ys))
          generalize hcn : cntFrom cnt0 ys = cn at HCL HFL
          have HCN := hid hcn
          have HN : Hid (xs.length = ys.length) := hid hpl.symm
          have h6 : ys.length ≤ 100000 := by omega
          have hle := encB_le (assignV ys) ss
          have HAG := hid (used_allgood HL.out HK.out HUS.out)
          have HRG := hid (assign_range HL.out HK.out)
          have HDA := fun ds hh => dec_all HL.out HK.out ds ss HUS.out hh
          have HDALL := hid HDA
          have HALN : Hid ((assignV ys).length = xs.length) := hid (by rw [assignV_length, hpl])
          obtain ⟨N, hNN⟩ : ∃ N, (encB (assignV ys) ss).length = N := ⟨_, rfl⟩
          have HNN := hid hNN
          rw [hNN] at hle ⊢
          clear HO hss hcn hb HDA hNN HB hnS HAR HA HAA HSU HS HR HU
          go_upto_region 32 with (first
            | (go_at_call 16; refine (newtable_yes _ _ _ ys _ HN HSY HRY HF h6).mono ?_; rintro e w2 ⟨gc, go, _, ord, rfl, hgc, hgo, rfl, hord, hrc, hro, hb2⟩; rw [HCN.out])
            | (refine wpList_storeRow rfl 31 _ _ rfl _ (tabCells (.slice (some ⟨gc, 0, none⟩) xs.length xs.length) cn (firsts cn) (.slice (some ⟨go, 0, none⟩) ord.length ord.length)) rfl rfl _ (tabCells (.slice none 0 0) (List.replicate 16 0) (List.replicate 16 0) (.slice none 0 0)) (RowV.fresh _ _ (tabCells (.slice none 0 0) (List.replicate 16 0) (List.replicate 16 0) (.slice none 0 0)) _ rfl) (by rw [tabCells_length _ _ _ _ HCL HFL]; kernel_rfl) (by rw [tabCells_length _ _ _ _ HCL HFL]; rfl) (tab_one _ _ _ _ _ _ _ _) ?_; intro w3 hr3 hg3
               have hs2 := hb2.size
               have hs3 := hg3.size
               simp only [World.size_alloc] at hs3
               have HB3 : Hid (Below wc.heap.size wc w3) := hid ((hb2.alloc (by omega) _).grown hg3 (by simp; omega) (by intro k h; cases h; omega))
               have HRO : Hid (RowV w3 go 3 (ints .i64 ord)) := hid ((hro.alloc _).grown hg3 (by simp; have := hro.lt; omega))
               have HRC : Hid (RowV w3 gc 36 (flat (assignV ys))) := hid ((hrc.alloc _).grown hg3 (by simp; have := hrc.lt; omega))
               have HSS3 : Hid (Sees .i64 w3 aS ss) := hid (HSS.out.below HB3.out (Nat.le_refl _))
               have HO := hid hord
               have HR3 := hid hr3
               clear hg3 hb2 hrc hro hr3 hord)
            | (refine wpList_loadRow rfl 31 _ rfl _ rfl _ _ _ HR3.out Ycgm.underlying31 rfl (by rw [tabCells_length _ _ _ _ HCL HFL]; kernel_rfl) ?_)
            | (go_at_call 23
               refine (encode_yes (assignV ys) (tabCells (.slice (some ⟨gc, 0, none⟩) xs.length xs.length) cn (firsts cn) (.slice (some ⟨go, 0, none⟩) ord.length ord.length)) gc xs.length aS ss.length cS ss w3 ?_ ?_ ?_ ?_ ?_ ?_ ?_ ?_).mono ?_
               · rw [HALN.out]; exact tab_get0 _ _ _ _
               · exact HRC.out
               · exact HRG.out
               · rw [HALN.out]; omega
               · rfl
               · exact HSS3.out
               · exact hsl2
               · exact HAG.out
               rintro e w4 ⟨av4, cv4, ds, rfl, hse, hni, hh, hdr, hb4⟩
               rw [HNN.out]))
          have hdl : ds.length = (N + 7) / 8 := by rw [hh.1, HNN.out]
          have HDEC := hid (HDALL.out ds hh)
          rw [HNN.out] at HDEC
          have HDR := hid hdr
          have hs4 := hb4.size
          obtain ⟨w5, hw5⟩ : ∃ w5, w4.alloc (.cells #[.slice av4 ds.length cv4, .int .i64 (N : Int)] 41) = w5 := ⟨_, rfl⟩
          have hb5 : Below w3.heap.size w3 w5 := by rw [← hw5]; exact hb4.alloc hs4 _
          have HSE : Hid (Sees .u8 w5 av4 ds) := hid (by rw [← hw5]; exact hse.alloc _)
          have hrb : RowV w5 w4.heap.size 41 [.slice av4 ds.length cv4, .int .i64 (N : Int)] := by rw [← hw5]; exact RowV.fresh w4 _ [.slice av4 ds.length cv4, .int .i64 (N : Int)] _ rfl
          rw [hw5]
          have q0 := hrb.cell (i := 0) rfl
          have q1 := hrb.cell (i := 1) rfl
          have HR5 := hid (HR3.out.below hb5 HR3.out.lt)
          have HRO5 := hid (HRO.out.below hb5 HRO.out.lt)
          have HSS5 := hid (HSS3.out.below hb5 (Nat.le_refl _))
          have hs5 := hb5.size
          have hdl2 : ds.length ≤ 2000 := by omega
          have HBZ : Hid (Below w.heap.size w w5) := hid ((HBC.out.trans (HB3.out.mono (by omega))).trans (hb5.mono (by omega)))
          clear hdl hh hdr hb4 hse hw5 hni
          go_upto_region 35 with (first
            | (refine wpList_loadRow rfl 31 _ rfl _ rfl _ _ _ HR5.out Ycgm.underlying31 rfl (by rw [tabCells_length _ _ _ _ HCL HFL]; kernel_rfl) ?_)
            | (go_at_call 17
               have hdc := decode_any ys ds (some ⟨gc, 0, none⟩) xs.length xs.length go ord av4 ds.length cv4 (N : Int) w5 HL HK h6 HO HRO5 rfl HSE HDR (by omega) (by omega)
               rw [HCN.out] at hdc
               refine hdc.mono ?_
               rintro e w6 ⟨out, st, vb, rfl, hdr6, how6, hol6, hb6⟩
               obtain ⟨rfl, rfl⟩ := DecR.det HL.out HDEC.out hdr6
               obtain ⟨ab, cb, rfl, hsb, _⟩ := how6.form (by omega)
               clear hdc hdr6 how6))
          have HSB := hid hsb
          have HSS6 := hid (HSS5.out.below hb6 (Nat.le_refl _))
          have HBY : Hid (Below w.heap.size w w6) := hid (HBZ.out.trans (hb6.mono HBZ.out.size))
          clear hsb hb6 q0 q1 hrb
          go_wp2
          go_loop [146] (fun iv => ∃ (k : Nat), k ≤ ss.length ∧ iv = .int .i64 k) (fun iv => ss.length - (intOf iv).toNat)
          case atStart => exact ⟨0, Nat.zero_le _, rfl⟩
          case round =>
            obtain ⟨k, hk, rfl⟩ := hrel
            by_cases hlt2 : k < ss.length
            · have hlt2' : (k : Int) < (ss.length : Int) := by omega
              obtain ⟨b7, off7, rfl, hbs7, hcell7⟩ := HSS6.out.2 k hlt2
              obtain ⟨b8, off8, rfl, hbs8, hcell8⟩ := HSB.out.2 k hlt2
              go_wp2
              go_round
              case rel => exact ⟨k + 1, by omega, by go_num⟩
              case measure => simp [intOf]; omega
            · have hlt2' : ¬ (k : Int) < (ss.length : Int) := by omega
              go_wp2
              go_ret
              exact ⟨rfl, HBY.out⟩
end Go.Proofs.Ymbrcg
