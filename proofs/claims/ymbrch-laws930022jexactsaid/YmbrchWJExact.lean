/- huff.zzs930022jbit and huff.LawS930022JExact, walked. -/
import Derived.Test.YmbrchAppend
namespace Go.Proofs.Ymbrch
open Go.RowKit
set_option linter.unusedVariables false
set_option linter.unusedSimpArgs false

theorem owns_sees {w : World} {base : Nat} {e : TypeId} {k : IntKind} {v : Value} {ds : List Int} (h : w.ownsRow base e 1 v ds.length (ints k ds)) (hm : ds.length ≤ 9223372036854775807) : ∃ a c, v = .slice a ds.length c ∧ Sees k w a ds := by
  by_cases h0 : 0 < ds.length
  · obtain ⟨g, cap, rfl, hO⟩ := owns_form h h0
    exact ⟨_, _, rfl, hO.sees hm⟩
  · obtain ⟨a, c, rfl⟩ := owns_lenform h
    exact ⟨a, c, rfl, hm, fun i hi => by omega⟩

set_option maxHeartbeats 400000 in
theorem jbit_any (a : Option Addr) (n c : Nat) (ds : List Int) (p : Nat) (w : World) (hn : n = ds.length) (h : Sees .u8 w a ds) (hr : ∀ x ∈ ds, 0 ≤ x ∧ x ≤ 255) (hp : p / 8 < ds.length) :
    Calls Ychm.prog 12 #[.slice a n c, .int .i64 p] w fun e w' => e = .returned (.bool (bitD ds p)) ∧ w' = w := by
  subst hn
  have hm := h.1
  obtain ⟨b, off, rfl, hbs, hcell⟩ := h.2 (p / 8) hp
  have hx := hr _ (List.getElem_mem hp)
  rw [getD_get _ _ hp] at hcell
  have hbb := div_pow_bd ds[p / 8] (7 - p % 8) hx.1
  have hA := and1_u8 (ds[p / 8] / 2 ^ (7 - p % 8)) hbb.1 (by omega)
  have HV : Hid (bitD ds p = ((ds[p / 8] / 2 ^ (7 - p % 8)) % 2 == 1)) := hid (by rw [bitD, getD_get _ _ hp])
  generalize bitD ds p = V at HV
  have hp' : (p : Int) / 8 < (ds.length : Int) := by omega
  clear h hr
  go_enter Ychm.func12, Ychm.ntmps12
  go_wp2
  go_ret
  exact ⟨ret_bool (by rw [HV.out]), rfl⟩

theorem jbit_n (a : Option Addr) (n c : Nat) (ds : List Int) (p : Nat) (w : World) (hn : n = ds.length) (h : Sees .u8 w a ds) (hr : ∀ x ∈ ds, 0 ≤ x ∧ x ≤ 255) (hp : p / 8 < ds.length) (q : Bool) (hq : bitD ds p = q) :
    Calls Ychm.prog 12 #[.slice a n c, .int .i64 p] w fun e w' => e = .returned (.bool q) ∧ Below w.heap.size w w' := by
  subst hq
  refine (jbit_any a n c ds p w hn h hr hp).mono ?_
  rintro e w' ⟨rfl, rfl⟩
  exact ⟨rfl, Below.refl _ _⟩

set_option maxRecDepth 8000 in
set_option maxHeartbeats 2000000 in
theorem jexact_any (a : Option Addr) (c : Nat) (xs : List Int) (drop spare B len : Int) (w : World) (h : Sees .u8 w a xs) (hr : ∀ x ∈ xs, 0 ≤ x ∧ x ≤ 255) (hdr : 0 ≤ drop ∧ drop ≤ 255) (hsp : 0 ≤ spare ∧ spare ≤ 255) (hB : 0 ≤ B ∧ B ≤ 4294967295) (hle : 0 ≤ len ∧ len ≤ 255) :
    Calls Ychm.prog 3 #[.slice a xs.length c, .int .u8 drop, .int .u8 spare, .int .u32 B, .int .u8 len] w fun e w' => e = .returned (.bool true) ∧ Below w.heap.size w w' := by
  have hm := h.1
  have HS := hid h
  have HR := hid hr
  clear h hr
  by_cases hbig : 1024 < xs.length
  · have hbig' : (1024 : Int) < (xs.length : Int) := by omega
    go_enter Ychm.func3, Ychm.ntmps3
    go_wp2
    go_ret
    exact ⟨rfl, Below.refl _ _⟩
  · have hbig' : (xs.length : Int) ≤ 1024 := by omega
    obtain ⟨l, hl⟩ : ∃ l : Nat, len % 16 = (l : Int) := ⟨(len % 16).toNat, by omega⟩
    have hl15 : l ≤ 15 := by omega
    obtain ⟨sp, hs⟩ : ∃ sp : Nat, spare % 4 = (sp : Int) := ⟨(spare % 4).toNat, by omega⟩
    have hs3 : sp ≤ 3 := by omega
    obtain ⟨N, hN⟩ : ∃ N : Nat, (N : Int) = if 0 < 8 * (xs.length : Int) then 8 * (xs.length : Int) - drop % 8 else 8 * (xs.length : Int) := ⟨(if 0 < 8 * (xs.length : Int) then 8 * (xs.length : Int) - drop % 8 else 8 * (xs.length : Int)).toNat, by split <;> omega⟩
    have hN7 : xs.length = (N + 7) / 8 := by split at hN <;> omega
    have hNb : N ≤ 8192 := by omega
    have HN7 := hid hN7
    obtain ⟨m, hmm⟩ : ∃ m : Nat, m = xs.length + sp := ⟨_, rfl⟩
    have hmm' : (xs.length : Int) + (sp : Int) = (m : Int) := by omega
    have hmb : m ≤ 1027 := by omega
    have hlm : xs.length ≤ m := by omega
    have HMM := hid hmm
    clear hmm hN7
    obtain ⟨full, hfull⟩ : ∃ full : List Int, full = xs ++ List.replicate sp 255 := ⟨_, rfl⟩
    have HFL : Hid (full.length = m) := hid (by rw [hfull, HMM.out]; simp)
    have HFT : Hid (full.take xs.length = xs) := hid (by rw [hfull]; simp)
    have HFG1 : Hid (∀ k (hk : k < xs.length) (hk2 : k < full.length), full[k] = xs[k]) := hid (by intro k hk hk2; simp only [hfull]; rw [List.getElem_append_left hk])
    have HFG2 : Hid (∀ k (hk : ¬ k < xs.length) (hk2 : k < full.length), full[k] = 255) := hid (by intro k hk hk2; simp only [hfull]; rw [List.getElem_append_right (by omega)]; simp)
    clear hfull
    by_cases hpos : 0 < 8 * (xs.length : Int)
    · rw [if_pos hpos] at hN
      have hN' := hN.symm
      have hNx : (N : Int) ≤ 8 * (xs.length : Int) := by omega
      clear hN
      go_enter Ychm.func3, Ychm.ntmps3
      go_wp2_with (at_make; refine wpList_makeRow _ rfl _ _ 22 rfl 5 (.int .u8 0) 1 1 Ychm.underlying22 (by kernel_rfl) _ _ _ _ m rfl rfl (by omega) (by omega) (by omega) (by unfold maxLen; omega) ?_; intro w1 hrow1 hg1; rw [made_int] at hrow1)
      have hb1 : Below w.heap.size w w1 := below_of_grown hg1 (Nat.le_refl _) (by simp)
      clear hg1
      go_loopw [14] (fun i wr => ∃ (k : Nat), k ≤ m ∧ i = .int .i64 k ∧ RowV wr w.heap.size 5 (ints .u8 (full.take k ++ List.replicate (m - k) 0)) ∧ Below w.heap.size w wr) (fun i _ => m - (intOf i).toNat)
      case atStart => exact ⟨0, Nat.zero_le _, rfl, hrow1, hb1⟩
      case round =>
        obtain ⟨k, hk, rfl, hrow, hb⟩ := hrel
        have HTL : Hid ((full.take k).length = k) := hid (by rw [List.length_take, HFL.out]; omega)
        by_cases hlt : k < m
        · have hlt' : (k : Int) < (m : Int) := by omega
          have hkf : k < full.length := by rw [HFL.out]; exact hlt
          have hold := hrow.int (i := k) (by rw [build_length _ _ k HTL hk]; exact hlt)
          have hfz := hrow.frozen k
          generalize (full.take k ++ List.replicate (m - k) 0)[k]?.getD 0 = oldv at hold
          have FIN : Hid (RowV (wr.setCell ⟨w.heap.size, k, none⟩ (.int .u8 full[k])) w.heap.size 5 (ints .u8 (full.take (k + 1) ++ List.replicate (m - (k + 1)) 0))) := hid (by
            rw [List.take_succ_eq_append_getElem hkf, ← build_set _ _ k _ HTL hlt]; exact hrow.setInt k _)
          by_cases hkx : k < xs.length
          · have hkx' : (k : Int) < (xs.length : Int) := by omega
            obtain ⟨b, off, rfl, hbs, hcell⟩ := HS.out.2 k hkx
            have hcell2 : wr.cell? ⟨b, off + k, none⟩ = some (.int .u8 (xs[k]?.getD 0)) := (hb.cell hbs).trans hcell
            rw [getD_get _ _ hkx] at hcell2
            have hx := HR.out _ (List.getElem_mem hkx)
            rw [HFG1.out k hkx hkf] at FIN
            generalize xs[k] = X at hcell2 hx FIN
            clear hcell
            go_wp2
            go_roundw
            case rel => exact ⟨k + 1, by omega, by go_num, FIN.out, hb.setCell (Nat.le_refl _) _⟩
            case measure => simp [intOf]; omega
          · have hkx' : ¬ (k : Int) < (xs.length : Int) := by omega
            rw [HFG2.out k hkx hkf] at FIN
            go_wp2
            go_roundw
            case rel => exact ⟨k + 1, by omega, by go_num, FIN.out, hb.setCell (Nat.le_refl _) _⟩
            case measure => simp [intOf]; omega
        · have hlt' : ¬ (k : Int) < (m : Int) := by omega
          rw [build_full _ _ _ hlt, List.take_of_length_le (by rw [HFL.out]; omega)] at hrow
          have hws := hb.size
          have hrl := hrow.lt
          have hlm' : (xs.length : Int) ≤ (m : Int) := by omega
          have hl8 : IntKind.u8.wrap (l : Int) = (l : Int) := by rw [IntKind.wrap_u8]; omega
          go_wp2_with fail
          have hBV : BitsV (wr.alloc (.cells #[.slice (some ⟨w.heap.size, 0, none⟩) xs.length m, .int .i64 (N : Int)] 25)) w.heap.size wr.heap.size (.slice (some ⟨w.heap.size, 0, none⟩) xs.length m) xs N := by
            refine ⟨RowV.fresh wr _ [.slice (some ⟨w.heap.size, 0, none⟩) xs.length m, .int .i64 (N : Int)] _ rfl, ⟨by simp, .inr ⟨w.heap.size, m, (ints .u8 full).toArray, rfl, Nat.le_refl _, hrow.alloc _, hlm, by unfold maxLen; omega, by simp [HFL.out], ?_⟩⟩, ?_, HR, HN7⟩
            · rw [Nat.mul_one, List.toList_toArray, ← List.map_take, HFT.out]
            · simp [Value.ownBlock]; omega
          refine (append_yes w.heap.size wr.heap.size _ xs N B l _ hBV ⟨hB.1, by omega⟩ hl15 (by omega) (by simp; omega) w.heap.size (Nat.le_refl _) hws).mono ?_
          rintro e w2 ⟨rfl, v', D, ⟨hrb, hob, _, hrg2, hdl2⟩, hbits, _, hb2⟩
          obtain ⟨a2, c2, rfl, hs2⟩ := owns_sees hob (by omega)
          have hbw : Below w.heap.size w w2 := (hb.alloc hws _).trans hb2
          have HSX := hid (HS.out.below hbw (Nat.le_refl _))
          have HS2 := hid hs2
          have HR2 := hid hrg2
          have HBITS := hid hbits
          have q0 : w2.cell? ⟨wr.heap.size, 0, none⟩ = some (.slice a2 D.length c2) := hrb.cell rfl
          have q1 : w2.cell? ⟨wr.heap.size, 1, none⟩ = some (.int .i64 ((N + l : Nat) : Int)) := hrb.cell rfl
          obtain ⟨G, hG⟩ : ∃ G, wr.heap.size = G := ⟨_, rfl⟩
          have hD1 : (D.length : Int) * 8 ≤ (N : Int) + (l : Int) + 7 := by omega
          have hD2 : (N : Int) + (l : Int) + 7 < (D.length : Int) * 8 + 8 := by omega
          have hD3 : ((D.length : Int) != ((N : Int) + (l : Int) + 7) / 8) = false := by rw [bne_eq_false_iff_eq]; omega
          rw [hG] at q0 q1 ⊢
          have hGl : G < w2.heap.size := by rw [← hG]; exact hrb.lt
          clear hrb hob hrg2 hdl2 hbits hb2 hs2 hBV hrow hb hws hrl hG HFL HFT HFG1 HFG2 HTL HS
          go_wp2
          go_loopw [16] (fun i wq => ∃ (p : Nat), p ≤ 8 * D.length ∧ i = .int .i64 p ∧ Below w2.heap.size w2 wq) (fun i _ => 8 * D.length - (intOf i).toNat)
          case atStart => exact ⟨0, Nat.zero_le _, rfl, Below.refl _ _⟩
          case round =>
            obtain ⟨p, hp, rfl, hbq⟩ := hrel
            have z0 : wr.cell? ⟨G, 0, none⟩ = some (.slice a2 D.length c2) := (hbq.cell hGl).trans q0
            replace HSX := hid (HSX.out.below hbq (Nat.le_refl _))
            replace HS2 := hid (HS2.out.below hbq (Nat.le_refl _))
            clear q0 q1
            by_cases hpl : p < 8 * D.length
            · have hpl' : (p : Int) < 8 * (D.length : Int) := by omega
              have hp8 : p / 8 < D.length := by omega
              have HBP := hid (HBITS.out p)
              by_cases hin : N ≤ p ∧ p < N + l
              · have h1 : (N : Int) ≤ (p : Int) := by omega
                have h2 : (p : Int) < (N : Int) + (l : Int) := by omega
                obtain ⟨ee, hee⟩ : ∃ ee : Nat, ee + p + 1 = N + l := ⟨N + l - 1 - p, by omega⟩
                have hsub : (N : Int) + (l : Int) - 1 - (p : Int) = (ee : Int) := by omega
                have hee15 : ee ≤ 15 := by omega
                have hbd := div_pow_bd B ee hB.1
                have hA := and1_u32 (B / 2 ^ ee) hbd.1 (by omega)
                have HBP2 : Hid (bitD D p = (B / 2 ^ ee % 2 == 1)) := hid (by rw [HBP.out, if_pos hin, cbit, show N + l - 1 - p = ee from by omega])
                clear hee hin
                go_wp2_with (go_at_call 12; refine (jbit_n a2 _ c2 D p _ rfl HS2 HR2 hp8 _ HBP2).mono ?_; rintro e w4 ⟨rfl, hb4⟩)
                go_roundw
                case rel => exact ⟨p + 1, by omega, by go_num, hbq.trans (hb4.mono hbq.size)⟩
                case measure => simp [intOf]; try omega
              · have HBP2 : Hid (bitD D p = bitD xs p) := hid (by rw [HBP.out, if_neg hin])
                have hgd : decide ((N : Int) ≤ (p : Int)) = true → ¬ (p : Int) < (N : Int) + (l : Int) := by intro h; simp at h; omega
                by_cases h1 : (N : Int) ≤ (p : Int)
                · have h2 : ¬ (p : Int) < (N : Int) + (l : Int) := by omega
                  clear hgd hin
                  by_cases h3 : p < 8 * xs.length
                  · have h3' : (p : Int) < 8 * (xs.length : Int) := by omega
                    have hpx : p / 8 < xs.length := by omega
                    go_wp2_with fail
                    refine (jbit_n a _ c xs p _ rfl HSX HR hpx _ rfl).mono ?_
                    rintro e w3 ⟨rfl, hb3⟩
                    have z1 : w3.cell? ⟨G, 0, none⟩ = some (.slice a2 D.length c2) := (hb3.cell (show G < wr.heap.size from Nat.lt_of_lt_of_le hGl hbq.size)).trans z0
                    go_wp2_with fail
                    refine (jbit_n a2 _ c2 D p _ rfl (HS2.out.below hb3 (Nat.le_refl _)) HR2 hp8 _ HBP2).mono ?_
                    rintro e w4 ⟨rfl, hb4⟩
                    go_wp2
                    go_roundw
                    case rel => exact ⟨p + 1, by omega, by go_num, (hbq.trans (hb3.mono hbq.size)).trans (hb4.mono (Nat.le_trans hbq.size hb3.size))⟩
                    case measure => simp [intOf]; try omega
                  · have h3' : ¬ (p : Int) < 8 * (xs.length : Int) := by omega
                    have HBP3 : Hid (bitD D p = false) := hid (by rw [HBP2.out, bitD_past _ _ (by omega)])
                    go_wp2_with (go_at_call 12; refine (jbit_n a2 _ c2 D p _ rfl HS2 HR2 hp8 false HBP3).mono ?_; rintro e w4 ⟨rfl, hb4⟩)
                    go_roundw
                    case rel => exact ⟨p + 1, by omega, by go_num, hbq.trans (hb4.mono hbq.size)⟩
                    case measure => simp [intOf]; try omega
                · have h3' : (p : Int) < 8 * (xs.length : Int) := by omega
                  have hpx : p / 8 < xs.length := by omega
                  clear hgd hin
                  go_wp2_with fail
                  refine (jbit_n a _ c xs p _ rfl HSX HR hpx _ rfl).mono ?_
                  rintro e w3 ⟨rfl, hb3⟩
                  have z1 : w3.cell? ⟨G, 0, none⟩ = some (.slice a2 D.length c2) := (hb3.cell (show G < wr.heap.size from Nat.lt_of_lt_of_le hGl hbq.size)).trans z0
                  go_wp2_with fail
                  refine (jbit_n a2 _ c2 D p _ rfl (HS2.out.below hb3 (Nat.le_refl _)) HR2 hp8 _ HBP2).mono ?_
                  rintro e w4 ⟨rfl, hb4⟩
                  go_wp2
                  go_roundw
                  case rel => exact ⟨p + 1, by omega, by go_num, (hbq.trans (hb3.mono hbq.size)).trans (hb4.mono (Nat.le_trans hbq.size hb3.size))⟩
                  case measure => simp [intOf]; try omega
            · have hpl' : ¬ (p : Int) < 8 * (D.length : Int) := by omega
              go_wp2
              go_ret
              exact ⟨rfl, hbw.trans (hbq.mono hbw.size)⟩
    · rw [if_neg hpos] at hN
      have hNx : (N : Int) ≤ 8 * (xs.length : Int) := by omega
      have hN' := hN.symm
      clear hN
      go_enter Ychm.func3, Ychm.ntmps3
      go_wp2_with (at_make; refine wpList_makeRow _ rfl _ _ 22 rfl 5 (.int .u8 0) 1 1 Ychm.underlying22 (by kernel_rfl) _ _ _ _ m rfl rfl (by omega) (by omega) (by omega) (by unfold maxLen; omega) ?_; intro w1 hrow1 hg1; rw [made_int] at hrow1)
      have hb1 : Below w.heap.size w w1 := below_of_grown hg1 (Nat.le_refl _) (by simp)
      clear hg1
      go_loopw [14] (fun i wr => ∃ (k : Nat), k ≤ m ∧ i = .int .i64 k ∧ RowV wr w.heap.size 5 (ints .u8 (full.take k ++ List.replicate (m - k) 0)) ∧ Below w.heap.size w wr) (fun i _ => m - (intOf i).toNat)
      case atStart => exact ⟨0, Nat.zero_le _, rfl, hrow1, hb1⟩
      case round =>
        obtain ⟨k, hk, rfl, hrow, hb⟩ := hrel
        have HTL : Hid ((full.take k).length = k) := hid (by rw [List.length_take, HFL.out]; omega)
        by_cases hlt : k < m
        · have hlt' : (k : Int) < (m : Int) := by omega
          have hkf : k < full.length := by rw [HFL.out]; exact hlt
          have hold := hrow.int (i := k) (by rw [build_length _ _ k HTL hk]; exact hlt)
          have hfz := hrow.frozen k
          generalize (full.take k ++ List.replicate (m - k) 0)[k]?.getD 0 = oldv at hold
          have FIN : Hid (RowV (wr.setCell ⟨w.heap.size, k, none⟩ (.int .u8 full[k])) w.heap.size 5 (ints .u8 (full.take (k + 1) ++ List.replicate (m - (k + 1)) 0))) := hid (by
            rw [List.take_succ_eq_append_getElem hkf, ← build_set _ _ k _ HTL hlt]; exact hrow.setInt k _)
          by_cases hkx : k < xs.length
          · exact absurd hkx (by omega)
          · have hkx' : ¬ (k : Int) < (xs.length : Int) := by omega
            rw [HFG2.out k hkx hkf] at FIN
            go_wp2
            go_roundw
            case rel => exact ⟨k + 1, by omega, by go_num, FIN.out, hb.setCell (Nat.le_refl _) _⟩
            case measure => simp [intOf]; omega
        · have hlt' : ¬ (k : Int) < (m : Int) := by omega
          rw [build_full _ _ _ hlt, List.take_of_length_le (by rw [HFL.out]; omega)] at hrow
          have hws := hb.size
          have hrl := hrow.lt
          have hlm' : (xs.length : Int) ≤ (m : Int) := by omega
          have hl8 : IntKind.u8.wrap (l : Int) = (l : Int) := by rw [IntKind.wrap_u8]; omega
          go_wp2_with fail
          have hBV : BitsV (wr.alloc (.cells #[.slice (some ⟨w.heap.size, 0, none⟩) xs.length m, .int .i64 (N : Int)] 25)) w.heap.size wr.heap.size (.slice (some ⟨w.heap.size, 0, none⟩) xs.length m) xs N := by
            refine ⟨RowV.fresh wr _ [.slice (some ⟨w.heap.size, 0, none⟩) xs.length m, .int .i64 (N : Int)] _ rfl, ⟨by simp, .inr ⟨w.heap.size, m, (ints .u8 full).toArray, rfl, Nat.le_refl _, hrow.alloc _, hlm, by unfold maxLen; omega, by simp [HFL.out], ?_⟩⟩, ?_, HR, HN7⟩
            · rw [Nat.mul_one, List.toList_toArray, ← List.map_take, HFT.out]
            · simp [Value.ownBlock]; omega
          refine (append_yes w.heap.size wr.heap.size _ xs N B l _ hBV ⟨hB.1, by omega⟩ hl15 (by omega) (by simp; omega) w.heap.size (Nat.le_refl _) hws).mono ?_
          rintro e w2 ⟨rfl, v', D, ⟨hrb, hob, _, hrg2, hdl2⟩, hbits, _, hb2⟩
          obtain ⟨a2, c2, rfl, hs2⟩ := owns_sees hob (by omega)
          have hbw : Below w.heap.size w w2 := (hb.alloc hws _).trans hb2
          have HSX := hid (HS.out.below hbw (Nat.le_refl _))
          have HS2 := hid hs2
          have HR2 := hid hrg2
          have HBITS := hid hbits
          have q0 : w2.cell? ⟨wr.heap.size, 0, none⟩ = some (.slice a2 D.length c2) := hrb.cell rfl
          have q1 : w2.cell? ⟨wr.heap.size, 1, none⟩ = some (.int .i64 ((N + l : Nat) : Int)) := hrb.cell rfl
          obtain ⟨G, hG⟩ : ∃ G, wr.heap.size = G := ⟨_, rfl⟩
          have hD1 : (D.length : Int) * 8 ≤ (N : Int) + (l : Int) + 7 := by omega
          have hD2 : (N : Int) + (l : Int) + 7 < (D.length : Int) * 8 + 8 := by omega
          have hD3 : ((D.length : Int) != ((N : Int) + (l : Int) + 7) / 8) = false := by rw [bne_eq_false_iff_eq]; omega
          rw [hG] at q0 q1 ⊢
          have hGl : G < w2.heap.size := by rw [← hG]; exact hrb.lt
          clear hrb hob hrg2 hdl2 hbits hb2 hs2 hBV hrow hb hws hrl hG HFL HFT HFG1 HFG2 HTL HS
          go_wp2
          go_loopw [16] (fun i wq => ∃ (p : Nat), p ≤ 8 * D.length ∧ i = .int .i64 p ∧ Below w2.heap.size w2 wq) (fun i _ => 8 * D.length - (intOf i).toNat)
          case atStart => exact ⟨0, Nat.zero_le _, rfl, Below.refl _ _⟩
          case round =>
            obtain ⟨p, hp, rfl, hbq⟩ := hrel
            have z0 : wr.cell? ⟨G, 0, none⟩ = some (.slice a2 D.length c2) := (hbq.cell hGl).trans q0
            replace HSX := hid (HSX.out.below hbq (Nat.le_refl _))
            replace HS2 := hid (HS2.out.below hbq (Nat.le_refl _))
            clear q0 q1
            by_cases hpl : p < 8 * D.length
            · have hpl' : (p : Int) < 8 * (D.length : Int) := by omega
              have hp8 : p / 8 < D.length := by omega
              have HBP := hid (HBITS.out p)
              by_cases hin : N ≤ p ∧ p < N + l
              · have h1 : (N : Int) ≤ (p : Int) := by omega
                have h2 : (p : Int) < (N : Int) + (l : Int) := by omega
                obtain ⟨ee, hee⟩ : ∃ ee : Nat, ee + p + 1 = N + l := ⟨N + l - 1 - p, by omega⟩
                have hsub : (N : Int) + (l : Int) - 1 - (p : Int) = (ee : Int) := by omega
                have hee15 : ee ≤ 15 := by omega
                have hbd := div_pow_bd B ee hB.1
                have hA := and1_u32 (B / 2 ^ ee) hbd.1 (by omega)
                have HBP2 : Hid (bitD D p = (B / 2 ^ ee % 2 == 1)) := hid (by rw [HBP.out, if_pos hin, cbit, show N + l - 1 - p = ee from by omega])
                clear hee hin
                go_wp2_with (go_at_call 12; refine (jbit_n a2 _ c2 D p _ rfl HS2 HR2 hp8 _ HBP2).mono ?_; rintro e w4 ⟨rfl, hb4⟩)
                go_roundw
                case rel => exact ⟨p + 1, by omega, by go_num, hbq.trans (hb4.mono hbq.size)⟩
                case measure => simp [intOf]; try omega
              · have HBP2 : Hid (bitD D p = bitD xs p) := hid (by rw [HBP.out, if_neg hin])
                have hgd : decide ((N : Int) ≤ (p : Int)) = true → ¬ (p : Int) < (N : Int) + (l : Int) := by intro h; simp at h; omega
                by_cases h1 : (N : Int) ≤ (p : Int)
                · have h2 : ¬ (p : Int) < (N : Int) + (l : Int) := by omega
                  clear hgd hin
                  by_cases h3 : p < 8 * xs.length
                  · exact absurd h3 (by omega)
                  · have h3' : ¬ (p : Int) < 8 * (xs.length : Int) := by omega
                    have HBP3 : Hid (bitD D p = false) := hid (by rw [HBP2.out, bitD_past _ _ (by omega)])
                    go_wp2_with (go_at_call 12; refine (jbit_n a2 _ c2 D p _ rfl HS2 HR2 hp8 false HBP3).mono ?_; rintro e w4 ⟨rfl, hb4⟩)
                    go_roundw
                    case rel => exact ⟨p + 1, by omega, by go_num, hbq.trans (hb4.mono hbq.size)⟩
                    case measure => simp [intOf]; try omega
                · exact absurd (show (N : Int) ≤ (p : Int) by omega) h1
            · have hpl' : ¬ (p : Int) < 8 * (D.length : Int) := by omega
              go_wp2
              go_ret
              exact ⟨rfl, hbw.trans (hbq.mono hbw.size)⟩
end Go.Proofs.Ymbrch
