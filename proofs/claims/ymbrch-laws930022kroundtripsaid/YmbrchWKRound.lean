/- huff.LawS930022KRoundTrip, walked. -/
import Derived.Test.YmbrchDecOne
import Derived.Test.YmbrchDec2
import Derived.Test.YmbrchWKLens
import Derived.Test.YmbrchBitP
import Derived.Deep.DeepCutAuto
namespace Go.Proofs.Ymbrch
open Go.RowKit
set_option linter.unusedVariables false
set_option linter.unusedSimpArgs false

theorem cyc_all (ys : List Int) (L a0 : Nat) (hL : L = ys.length) (ha : a0 < L) (h : ∀ j, j < L → ys[(a0 + j) % L]?.getD 0 = 0) (i : Nat) (hi : i < ys.length) : ys[i] = 0 := by
  have h1 := h ((i + L - a0) % L) (Nat.mod_lt _ (by omega))
  have h2 : (a0 + (i + L - a0) % L) % L = i := by
    rw [Nat.add_mod_mod, show a0 + (i + L - a0) = i + L from by omega, Nat.add_mod_right, Nat.mod_eq_of_lt (by omega)]
  rw [h2, getD_get _ _ hi] at h1
  exact h1
theorem dec_hit_ans {xs ds : List Int} (hl : Lens xs) {N pos : Int} {e : Ending} (h : DecAns xs ds N pos e) (i : Nat) (hi : i < xs.length) (hm : Match xs (winW (strm ds pos) (availD ds N pos)) (availD ds N pos) i) :
    e = .returned (.tuple #[.int .i64 i, .int .i64 (pos + xs[i]), .int .i64 0]) := by
  rcases h with ⟨j, hj, m, rfl⟩ | ⟨m, rfl⟩
  · obtain rfl := match_unique hl hm m; rfl
  · exact absurd hm (m i)
theorem dec_miss_ans {xs ds : List Int} {N pos : Int} {e : Ending} (h : DecAns xs ds N pos e) (hm : ∀ i, ¬ Match xs (winW (strm ds pos) (availD ds N pos)) (availD ds N pos) i) :
    e = .returned (.tuple #[.int .i64 0, .int .i64 pos, .int .i64 (if availD ds N pos < 15 then 1 else 2)]) := by
  rcases h with ⟨j, hj, m, rfl⟩ | ⟨m, rfl⟩
  · exact absurd m (hm j)
  · rfl

set_option maxRecDepth 10000 in
set_option maxHeartbeats 2400000 in
theorem kround_any (a : Option Addr) (c : Nat) (xs : List Int) (pk ld fl : Int) (w : World) (h : Sees .u8 w a xs) (hr : ∀ x ∈ xs, 0 ≤ x ∧ x ≤ 255) (hpk : 0 ≤ pk ∧ pk ≤ 18446744073709551615) (hld : 0 ≤ ld ∧ ld ≤ 255) (hfl : 0 ≤ fl ∧ fl ≤ 255) :
    Calls Ychm.prog 7 #[.slice a xs.length c, .int .u64 pk, .int .u8 ld, .int .u8 fl] w fun e w' => e = .returned (.bool true) ∧ Below w.heap.size w w' := by
  have hm := h.1
  have HS := hid h
  have HR := hid hr
  clear h hr
  by_cases hbig : 1024 < xs.length
  · have hbig' : (1024 : Int) < (xs.length : Int) := by omega
    go_enter Ychm.func7, Ychm.ntmps7
    go_wp2
    go_ret
    exact ⟨rfl, Below.refl _ _⟩
  · have hbig' : (xs.length : Int) ≤ 1024 := by omega
    have h5 : xs.length ≤ 100000 := by omega
    obtain ⟨ps, hps⟩ : ∃ ps : Nat, ld % 64 = (ps : Int) := ⟨(ld % 64).toNat, by omega⟩
    have hps63 : ps ≤ 63 := by omega
    go_enter Ychm.func7, Ychm.ntmps7
    go_wp2_with fail
    refine (klens_any a c xs _ HS HR h5).mono ?_
    rintro e w1 ⟨g1, ys, rfl, hg1, hyl, hlen, hfit, hr1, hb1⟩
    have HN := hid hyl.symm
    have HSY := hid (Sees.row hr1 (by omega))
    have HRY := hid hlen.range
    have HF := hid hfit
    have HL := hid hlen
    have HK := hid ((fits_iff ys).1 hfit).2
    have h6 : ys.length ≤ 100000 := by omega
    have HCL : Hid ((cntFrom cnt0 ys).length = 16) := cntFrom_length ys cnt0
    have HFL := hid (firsts_length (cntFrom cnt0 ys))
    generalize hcn : cntFrom cnt0 ys = cn at HCL HFL
    have HCN := hid hcn
    clear hyl hlen hfit hcn
    go_wp2_with (first
      | (go_at_call 15; refine (newtable_yes _ _ _ ys _ HN HSY HRY HF h6).mono ?_; rintro e w2 ⟨gc, go, _, ord, rfl, hgc, hgo, rfl, hord, hrc, hro, hb2⟩; rw [HCN.out])
      | (refine wpList_storeRow rfl 44 _ _ rfl _ (tabCells (.slice (some ⟨gc, 0, none⟩) xs.length xs.length) cn (firsts cn) (.slice (some ⟨go, 0, none⟩) ord.length ord.length)) rfl rfl _ (tabCells (.slice none 0 0) (List.replicate 16 0) (List.replicate 16 0) (.slice none 0 0)) (RowV.fresh _ _ (tabCells (.slice none 0 0) (List.replicate 16 0) (List.replicate 16 0) (.slice none 0 0)) _ rfl) (by rw [tabCells_length _ _ _ _ HCL HFL]; kernel_rfl) (by rw [tabCells_length _ _ _ _ HCL HFL]; rfl) (tab_one _ _ _ _ _ _ _ _) ?_; intro w3 hr3 hg3)
      | (at_make; refine wpList_makeRow _ rfl _ _ 22 rfl 5 (.int .u8 0) 1 1 Ychm.underlying22 (by kernel_rfl) _ _ _ _ 10 rfl rfl rfl rfl (by omega) (by unfold maxLen; omega) ?_; intro w4 hrow4 hg4; rw [made_int] at hrow4))
    have hs1 := hb1.size
    have hs2 := hb2.size
    have hs3 := hg3.size
    have hs4 := hg4.size
    simp only [World.size_alloc] at hs3
    have hrcl := hrc.lt
    have hrol := hro.lt
    have hr1l := hr1.lt
    have HB3 : Hid (Below w.heap.size w w3) := hid (((hb1.trans (hb2.mono hs1)).alloc (by omega) _).grown hg3 (by simp; omega) (by intro k h; cases h; omega))
    have HRC : Hid (RowV w3 gc 28 (flat (assignV ys))) := hid ((hrc.alloc _).grown hg3 (by simp; omega))
    have HRO : Hid (RowV w3 go 3 (ints .i64 ord)) := hid ((hro.alloc _).grown hg3 (by simp; omega))
    have HRY3 : Hid (RowV w3 g1 5 (ints .u8 ys)) := hid (((hr1.below hb2 hr1l).alloc _).grown hg3 (by simp; omega))
    have HT3 : Hid (RowV w3 w2.heap.size 44 (tabCells (.slice (some ⟨gc, 0, none⟩) xs.length xs.length) cn (firsts cn) (.slice (some ⟨go, 0, none⟩) ord.length ord.length))) := hid hr3
    have HO := hid hord
    have hob : ord.length ≤ 100000 := by rw [hord.1]; exact Nat.le_trans (List.length_filter_le _ _) (by omega)
    have hb4 : Below w3.heap.size w3 w4 := below_of_grown hg4 (Nat.le_refl _) (by simp)
    clear hg3 hg4 hb1 hb2 hrc hro hr3 hord hr1
    go_loopw [13] (fun i wr => ∃ (k : Nat) (D : List Int), k ≤ 10 ∧ i = .int .i64 k ∧ Hid (D.length = 10) ∧ Hid (∀ x ∈ D, 0 ≤ x ∧ x ≤ 255) ∧ RowV wr w3.heap.size 5 (ints .u8 D) ∧ Below w3.heap.size w3 wr) (fun i _ => 10 - (intOf i).toNat)
    case atStart =>
      refine ⟨0, List.replicate 10 0, by omega, rfl, hid rfl, hid ?_, hrow4, hb4⟩
      intro x hx
      have := List.eq_of_mem_replicate hx
      omega
    case round =>
      clear hrow4 hb4
      obtain ⟨k, D, hk, rfl, HDL, HDR, hrd, hb⟩ := hrel
      by_cases hk10 : k < 10
      · have hk10' : (k : Int) < 10 := by omega
        have hold := hrd.int (i := k) (by rw [HDL.out]; exact hk10)
        have hfz := hrd.frozen k
        generalize D[k]?.getD 0 = od at hold
        go_wp2
        go_roundw
        case rel => exact ⟨k + 1, D.set k fl, by omega, by go_num, hid (by rw [List.length_set]; exact HDL.out), hid (range_set D k fl HDR hfl), hrd.setInt k fl, hb.setCell (Nat.le_refl _) _⟩
        case measure => simp [intOf]; omega
      · have hk10' : ¬ (k : Int) < 10 := by omega
        have hws := hb.size
        have HRD := hid hrd
        have HBW := hid hb
        clear hrd hb
        go_upto_if 60 with fail
        go_cut [15] (fun s15 wx => wx = wr ∧ ((s15 = .int .i64 (-1) ∧ Hid (∀ i (h : i < ys.length), ys[i] = 0)) ∨ ∃ s, ∃ h : s < ys.length, s15 = .int .i64 s ∧ 0 < ys[s]))
        case first =>
          by_cases h0 : 0 < (xs.length : Int)
          · obtain ⟨a0, ha0⟩ : ∃ a0 : Nat, pk.tmod (xs.length : Int) = (a0 : Int) := ⟨(pk.tmod (xs.length : Int)).toNat, by have := Int.tmod_nonneg (xs.length : Int) hpk.1; omega⟩
            have ha1 : (a0 : Int) < (xs.length : Int) := by rw [← ha0]; exact Int.tmod_lt_of_pos _ h0
            go_wp2_with fail
            go_loop [15, 16, 17] (fun sv av kv => ∃ (q b : Nat), q ≤ xs.length ∧ kv = .int .i64 q ∧ av = .int .i64 b ∧ b < xs.length ∧ Hid (b = (a0 + q) % xs.length) ∧ ((sv = .int .i64 (-1) ∧ Hid (∀ j, j < q → ys[(a0 + j) % xs.length]?.getD 0 = 0)) ∨ ∃ s, ∃ h : s < ys.length, sv = .int .i64 s ∧ 0 < ys[s])) (fun _ _ kv => xs.length - (intOf kv).toNat)
            case atStart => exact ⟨0, a0, Nat.zero_le _, rfl, rfl, by omega, hid (by rw [Nat.add_zero, Nat.mod_eq_of_lt (by omega)]), .inl ⟨rfl, hid (fun j h => by omega)⟩⟩
            case round =>
              obtain ⟨q, b, hq, rfl, rfl, hbl, HB, hsv⟩ := hrel
              rcases hsv with ⟨rfl, HZ⟩ | ⟨s, hs, rfl, hspos⟩
              · by_cases hql : q < xs.length
                · have hby : b < ys.length := by rw [← HN.out]; exact hbl
                  have hcell : wr.cell? ⟨g1, b, none⟩ = some (.int .u8 ys[b]) := by rw [(HRY3.out.below HBW.out HRY3.out.lt).int hby, getD_get _ _ hby]
                  have hy := HL.out _ (List.getElem_mem hby)
                  have HNX : Hid (∀ v : Nat, v = (if b + 1 = xs.length then 0 else b + 1) → v = (a0 + (q + 1)) % xs.length) := hid (fun v hv => by
                    rw [hv, show a0 + (q + 1) = (a0 + q) + 1 from by omega, Nat.add_mod, ← HB.out]
                    by_cases h1 : xs.length = 1
                    · rw [h1, if_pos (by omega)]; simp [Nat.mod_one]
                    · rw [Nat.mod_eq_of_lt (show 1 < xs.length by omega)]
                      by_cases h2 : b + 1 = xs.length
                      · rw [if_pos h2, h2, Nat.mod_self]
                      · rw [if_neg h2, Nat.mod_eq_of_lt (by omega)])
                  have HZ2 : Hid (ys[b] = 0 → ∀ j, j < q + 1 → ys[(a0 + j) % xs.length]?.getD 0 = 0) := hid (fun e j hj => by
                    by_cases h1 : j < q
                    · exact HZ.out j h1
                    · rw [show j = q from by omega, ← HB.out, getD_get _ _ hby, e])
                  have HSP : Hid (0 < ys[b] → ∃ s, ∃ h : s < ys.length, s = b ∧ 0 < ys[s]) := hid (fun h => ⟨b, hby, rfl, h⟩)
                  generalize ys[b] = X at hcell hy HZ2 HSP
                  by_cases hend : b + 1 = xs.length
                  · have hend' : ((b : Int) + 1 == (xs.length : Int)) = true := by simp; omega
                    by_cases hX : 0 < X
                    · obtain ⟨s, hs, hsb, hsp⟩ := HSP.out hX
                      subst hsb
                      go_wp2
                      go_round
                      case rel => exact ⟨q + 1, 0, by omega, by go_num, rfl, by omega, hid (HNX.out 0 (by rw [if_pos hend])), .inr ⟨s, hs, rfl, hsp⟩⟩
                      case measure => simp [intOf]; omega
                    · have hX0 : X = 0 := by omega
                      go_wp2
                      go_round
                      case rel => exact ⟨q + 1, 0, by omega, by go_num, rfl, by omega, hid (HNX.out 0 (by rw [if_pos hend])), .inl ⟨rfl, hid (HZ2.out hX0)⟩⟩
                      case measure => simp [intOf]; omega
                  · have hend' : ((b : Int) + 1 == (xs.length : Int)) = false := by simp; omega
                    by_cases hX : 0 < X
                    · obtain ⟨s, hs, hsb, hsp⟩ := HSP.out hX
                      subst hsb
                      go_wp2
                      go_round
                      case rel => exact ⟨q + 1, s + 1, by omega, by go_num, by go_num, by omega, hid (HNX.out (s + 1) (by rw [if_neg hend])), .inr ⟨s, hs, rfl, hsp⟩⟩
                      case measure => simp [intOf]; omega
                    · have hX0 : X = 0 := by omega
                      go_wp2
                      go_round
                      case rel => exact ⟨q + 1, b + 1, by omega, by go_num, by go_num, by omega, hid (HNX.out (b + 1) (by rw [if_neg hend])), .inl ⟨rfl, hid (HZ2.out hX0)⟩⟩
                      case measure => simp [intOf]; omega
                · have HZA : Hid (∀ i (h : i < ys.length), ys[i] = 0) := hid (fun i h => cyc_all ys xs.length a0 HN.out (by omega) (fun j hj => HZ.out j (by omega)) i h)
                  go_wp2_with fail
                  go_meet
                  exact ⟨rfl, .inl ⟨rfl, HZA⟩⟩
              · by_cases hql : q < xs.length
                · go_wp2_with fail
                  go_meet
                  exact ⟨rfl, .inr ⟨s, hs, rfl, hspos⟩⟩
                · go_wp2_with fail
                  go_meet
                  exact ⟨rfl, .inr ⟨s, hs, rfl, hspos⟩⟩
          · have HZ : Hid (∀ i (h : i < ys.length), ys[i] = 0) := hid (fun i h => by have := HN.out; omega)
            go_wp2_with fail
            go_meet
            exact ⟨rfl, .inl ⟨rfl, HZ⟩⟩
        case rest =>
        obtain ⟨hwc, hsym⟩ := hcut
        replace hwc := hwc.symm
        subst hwc
        have HT4 := hid (HT3.out.below HBW.out HT3.out.lt)
        have HRO4 := hid (HRO.out.below HBW.out HRO.out.lt)
        rcases hsym with ⟨rfl, HZ⟩ | ⟨s, hs, rfl, hspos⟩
        · have HNM : Hid (∀ N pos i, ¬ Match ys (winW (strm D pos) (availD D N pos)) (availD D N pos) i) := hid (fun N pos i hmm => by
            obtain ⟨hi, h0, _⟩ := hmm
            have := HZ.out i hi
            omega)
          have HAV : Hid (availD D 80 (ps : Int) = 15) := hid (by unfold availD; rw [if_pos (by omega), HDL.out]; omega)
          have HRDs := hid (Sees.row HRD.out (by rw [HDL.out]; omega))
          go_wp2_with (first
            | (refine wpList_loadRow rfl 44 _ rfl _ rfl _ _ _ HT4.out Ychm.underlying44 rfl (by rw [tabCells_length _ _ _ _ HCL HFL]; kernel_rfl) ?_)
            | (go_at_call 16
               have hdc := decone_any ys D (some ⟨gc, 0, none⟩) xs.length xs.length go ord (some ⟨w3.heap.size, 0, none⟩) 10 10 80 (ps : Int) wr HL HK h6 HO HRO4 HDL.out.symm HRDs HDR (by omega) (by omega)
               rw [HCN.out] at hdc
               refine hdc.mono ?_; rintro e w5 ⟨hans, hb5⟩
               have he := dec_miss_ans hans (HNM.out 80 ps)
               rw [HAV.out, if_neg (by omega)] at he
               subst he
               clear hans hdc))
          go_ret
          exact ⟨ret_bool (by simp), (HB3.out.trans (HBW.out.mono HB3.out.size)).trans (hb5.mono (by have := HB3.out.size; omega))⟩
        · have hcc := code_row (HRC.out.below HBW.out HRC.out.lt) HL HK s hs
          rw [if_pos hspos] at hcc
          obtain ⟨c0, c1⟩ := hcc
          have hyc : wr.cell? ⟨g1, s, none⟩ = some (.int .u8 ys[s]) := by rw [(HRY3.out.below HBW.out HRY3.out.lt).int hs, getD_get _ _ hs]
          have hyc2 : ∀ o, (wr.alloc o).cell? ⟨g1, s, none⟩ = some (.int .u8 ys[s]) := fun o => by rw [World.cell?_alloc_past _ _ _ (show g1 < wr.heap.size by have := HRY3.out.lt; omega)]; exact hyc
          have t0 := HT4.out.cell (tab_get0 _ _ _ _)
          have hy := HL.out _ (List.getElem_mem hs)
          have hcl := codeB_lt ys HL HK s hs hspos
          have HMC : Hid (∀ (f : Nat → Bool) (A : Nat), A ≤ 15 → ys[s] ≤ (A : Int) → (∀ k, k < ys[s].toNat → f k = ((codeB ys ys[s] s / 2 ^ (ys[s].toNat - 1 - k)) % 2 == 1)) → Match ys (winW f A) A s) := hid (fun f A h1 h2 h3 => match_code HL HK f A s h1 hs hspos h2 h3)
          have HMX : Hid (∀ (f : Nat → Bool) (A A' : Nat), A ≤ 15 → Match ys (winW f A) A s → (A' : Int) < ys[s] → ∀ j, ¬ Match ys (winW f A') A' j) := hid (fun f A A' h1 h2 h3 j => match_cut HL HK f A A' s h1 h2 hs h3 j)
          have HYS := hid (rfl : ys[s] = ys[s])
          obtain ⟨m, hm'⟩ : ∃ m : Nat, ys[s] = (m : Int) := ⟨ys[s].toNat, by omega⟩
          have HM' := hid hm'
          obtain ⟨CB, hCB⟩ : ∃ CB, codeB ys ys[s] s = CB := ⟨_, rfl⟩
          rw [hCB] at c0 hcl HMC
          rw [hm'] at c1 hyc hyc2 hy hcl HMC HMX hspos
          rw [Int.toNat_natCast] at hcl HMC
          have hpw := pow_le_32768 m (by omega)
          have l1 := hyc2 (.cells #[.int .u32 CB, .int .u8 (m : Int)] 28)
          clear hm' hCB hyc2 HYS
          have hsx : (s : Int) < (xs.length : Int) := by have := HN.out; omega
          go_wp2
          obtain ⟨G, hG⟩ : ∃ G, wr.heap.size = G := ⟨_, rfl⟩
          have hd0 := HRD.out.lt
          have hGw : w3.heap.size < G := by omega
          have HBA : Hid (Below w3.heap.size w3 (wr.alloc (.cells #[.int .u32 CB, .int .u8 (m : Int)] 28))) := hid (HBW.out.alloc hws _)
          have HGB : Hid (RowV (wr.alloc (.cells #[.int .u32 CB, .int .u8 (m : Int)] 28)) G 28 [.int .u32 CB, .int .u8 (m : Int)]) := hid (RowV.fresh wr _ [.int .u32 CB, .int .u8 (m : Int)] _ hG.symm)
          have HDA : Hid (RowV (wr.alloc (.cells #[.int .u32 CB, .int .u8 (m : Int)] 28)) w3.heap.size 5 (ints .u8 D)) := hid (HRD.out.alloc _)
          rw [hG]
          go_loopw [23] (fun kv wq => ∃ (q : Nat) (E : List Int), q ≤ m ∧ kv = .int .i64 q ∧ Hid (E.length = 10) ∧ Hid (∀ x ∈ E, 0 ≤ x ∧ x ≤ 255) ∧ Hid (∀ j, j < q → bitD E (ps + j) = (CB / 2 ^ (m - 1 - j) % 2 == 1)) ∧ RowV wq w3.heap.size 5 (ints .u8 E) ∧ RowV wq G 28 [.int .u32 CB, .int .u8 (m : Int)] ∧ Below w3.heap.size w3 wq) (fun kv _ => m - (intOf kv).toNat)
          case atStart => exact ⟨0, D, Nat.zero_le _, rfl, HDL, HDR, hid (fun j h => by omega), HDA.out, HGB.out, HBA.out⟩
          case round =>
            clear hG l1 c0 c1 hyc t0 HGB HDA HBA HT4 HRO4 HRD HBW hd0
            obtain ⟨q, E, hq, rfl, HEL, HER, HEB, hre, hrg, hb⟩ := hrel
            have hws2 := hb.size
            have q0 := hrg.cell (i := 0) rfl
            have q1 := hrg.cell (i := 1) rfl
            by_cases hqm : q < m
            · have hqm' : (q : Int) < (m : Int) := by omega
              have hj : (ps + q) / 8 < E.length := by rw [HEL.out]; omega
              have hcell := hre.int hj
              have hfz := hre.frozen ((ps + q) / 8)
              have hxr := range_get E HER ((ps + q) / 8)
              have ho := or_bit (E[(ps + q) / 8]?.getD 0) ((ps + q) % 8) hxr.1 hxr.2 (by omega)
              have hno := not_bit (E[(ps + q) / 8]?.getD 0) ((ps + q) % 8) hxr.1 hxr.2 (by omega)
              have HOT := hid (bitD_set_true E (ps + q) _ hj ho.2)
              have HOF := hid (bitD_set_false E (ps + q) _ hj hno.2)
              have HOR := hid (range_set E ((ps + q) / 8) _ HER ho.1)
              have HNR := hid (range_set E ((ps + q) / 8) _ HER hno.1)
              have hcd := div_pow_bd CB (m - 1 - q) hcl.1
              have hA := and1_u32 (CB / 2 ^ (m - 1 - q)) hcd.1 (by omega)
              generalize E[(ps + q) / 8]?.getD 0 = X at hcell HOT HOF HOR HNR hxr
              clear ho hno
              have hne : w3.heap.size ≠ G := by omega
              by_cases hbit : CB / 2 ^ (m - 1 - q) % 2 = 1
              · have hbit' : (CB / 2 ^ (m - 1 - q) % 2 == 1) = true := by simpa using hbit
                have HBT := hid hbit'
                clear hbit
                go_wp2
                go_roundw
                case rel =>
                  refine ⟨q + 1, _, by omega, by go_num, hid (by rw [List.length_set]; exact HEL.out), HOR, hid ?_, hre.setInt _ _, hrg.other _ _ (by simp; omega), hb.setCell (Nat.le_refl _) _⟩
                  intro j hj
                  rw [HOT.out (ps + j)]
                  by_cases e : j = q
                  · rw [e, HBT.out]; simp
                  · rw [decide_eq_false (by omega), Bool.false_or, HEB.out j (by omega)]
                case measure => simp [intOf]; omega
              · have hbit' : (CB / 2 ^ (m - 1 - q) % 2 == 1) = false := by simpa using hbit
                have HBT := hid hbit'
                clear hbit
                go_wp2
                go_roundw
                case rel =>
                  refine ⟨q + 1, _, by omega, by go_num, hid (by rw [List.length_set]; exact HEL.out), HNR, hid ?_, hre.setInt _ _, hrg.other _ _ (by simp; omega), hb.setCell (Nat.le_refl _) _⟩
                  intro j hj
                  rw [HOF.out (ps + j)]
                  by_cases e : j = q
                  · rw [e, HBT.out]; simp
                  · rw [decide_eq_false (by omega), Bool.not_false, Bool.true_and, HEB.out j (by omega)]
                case measure => simp [intOf]; omega
            · have hqe : q = m := by omega
              subst hqe
              have hqm' : ¬ (q : Int) < (q : Int) := by omega
              have HA1 : Hid (availD E ((ps : Int) + (q : Int)) (ps : Int) = q) := hid (by unfold availD; rw [if_pos (by omega), HEL.out]; omega)
              have HA2 : Hid (availD E ((ps : Int) + (q : Int) - 1) (ps : Int) = q - 1) := hid (by unfold availD; rw [if_pos (by omega), HEL.out]; omega)
              have HMM : Hid (Match ys (winW (strm E (ps : Int)) q) q s) := hid (HMC.out _ q (by omega) (Int.le_refl _) (fun k hk => by
                rw [strm, show ((ps : Int) + (k : Int)).toNat = ps + k from by omega]; exact HEB.out k hk))
              have HNO : Hid (∀ j, ¬ Match ys (winW (strm E (ps : Int)) (q - 1)) (q - 1) j) := hid (HMX.out _ q (q - 1) (by omega) HMM.out (by omega))
              have HT5 := hid (HT3.out.below hb HT3.out.lt)
              have HRO5 := hid (HRO.out.below hb HRO.out.lt)
              have HES := hid (Sees.row hre (by rw [HEL.out]; omega))
              go_upto_region 42 with (first
                | (refine wpList_loadRow rfl 44 _ rfl _ rfl _ _ _ HT5.out Ychm.underlying44 rfl (by rw [tabCells_length _ _ _ _ HCL HFL]; kernel_rfl) ?_)
                | (go_at_call 16
                   have hdc := decone_any ys E (some ⟨gc, 0, none⟩) xs.length xs.length go ord (some ⟨w3.heap.size, 0, none⟩) 10 10 ((ps : Int) + (q : Int)) (ps : Int) wr HL HK h6 HO HRO5 HEL.out.symm HES HER (by omega) (by omega)
                   rw [HCN.out] at hdc
                   refine hdc.mono ?_; rintro e w5 ⟨hans, hb5⟩
                   have he := dec_hit_ans HL.out hans s hs (by rw [HA1.out]; exact HMM.out)
                   rw [HM'.out] at he
                   subst he
                   have HT6 := hid (HT5.out.below hb5 HT5.out.lt)
                   clear hans hdc))
              clear HT5
              go_wp2_with (first
                | (refine wpList_loadRow rfl 44 _ rfl _ rfl _ _ _ HT6.out Ychm.underlying44 rfl (by rw [tabCells_length _ _ _ _ HCL HFL]; kernel_rfl) ?_)
                | (go_at_call 16
                   have hdc := decone_any ys E (some ⟨gc, 0, none⟩) xs.length xs.length go ord (some ⟨w3.heap.size, 0, none⟩) 10 10 ((ps : Int) + (q : Int) - 1) (ps : Int) w5 HL HK h6 HO (HRO5.out.below hb5 HRO5.out.lt) HEL.out.symm (HES.out.below hb5 (Nat.le_refl _)) HER (by omega) (by omega)
                   rw [HCN.out] at hdc
                   refine hdc.mono ?_; rintro e w6 ⟨hans, hb6⟩
                   have he := dec_miss_ans hans (by rw [HA2.out]; exact HNO.out)
                   rw [HA2.out, if_pos (by omega)] at he
                   subst he
                   clear hans hdc))
              go_ret
              have z1 := HB3.out.size
              have z2 := hb5.size
              exact ⟨ret_bool (by simp), ((HB3.out.trans (hb.mono z1)).trans (hb5.mono (by omega))).trans (hb6.mono (by omega))⟩
end Go.Proofs.Ymbrch
