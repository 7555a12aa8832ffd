/- huff.LawS930022FPacked, walked. -/
import Derived.Test.YmbrcgBitP
import Derived.Test.YmbrcgOpens
import Derived.RegionTactic
namespace Go.Proofs.Ymbrcg
open Go.RowKit
set_option linter.unusedVariables false
set_option linter.unusedSimpArgs false

def wts : List Int := [128, 64, 32, 16, 8, 4, 2, 1]
theorem wts_get (p : Nat) (h : p < 8) : wts[p]?.getD 0 = 128 / 2 ^ p := by
  rcases (show p = 0 ∨ p = 1 ∨ p = 2 ∨ p = 3 ∨ p = 4 ∨ p = 5 ∨ p = 6 ∨ p = 7 by omega) with h | h | h | h | h | h | h | h <;> subst h <;> decide
theorem wts_bd (p : Nat) (h : p < 8) : (1 : Int) ≤ 128 / 2 ^ p ∧ (128 : Int) / 2 ^ p ≤ 128 := by
  rcases (show p = 0 ∨ p = 1 ∨ p = 2 ∨ p = 3 ∨ p = 4 ∨ p = 5 ∨ p = 6 ∨ p = 7 by omega) with h | h | h | h | h | h | h | h <;> subst h <;> decide

set_option maxRecDepth 8000 in
set_option maxHeartbeats 2000000 in
theorem fpacked_any (a : Option Addr) (c : Nat) (bs : List Bool) (extra : Int) (w : World) (h : SeesB w a bs) (hex : 0 ≤ extra ∧ extra ≤ 255) :
    Calls Ycgm.prog 5 #[.slice a bs.length c, .int .u8 extra] w fun e w' => e = .returned (.bool true) ∧ Below w.heap.size w w' := by
  obtain ⟨hm, hc⟩ := h
  have HC := hid hc
  clear hc
  by_cases hbig : 1024 < bs.length
  · have hbig' : (1024 : Int) < (bs.length : Int) := by omega
    go_enter Ycgm.func5, Ycgm.ntmps5
    go_wp2
    go_ret
    exact ⟨rfl, Below.refl _ _⟩
  · have hbig' : (bs.length : Int) ≤ 1024 := by omega
    obtain ⟨nb, hnb⟩ : ∃ nb : Nat, nb = (bs.length + 7) / 8 := ⟨_, rfl⟩
    have hnb' : ((bs.length : Int) + 7) / 8 = (nb : Int) := by omega
    have hnbl : nb ≤ 128 := by omega
    have hnb8 : 8 * nb < bs.length + 8 ∧ bs.length ≤ 8 * nb := by omega
    clear hnb
    go_enter Ycgm.func5, Ycgm.ntmps5
    go_wp2_with (at_make; refine wpList_makeRow _ rfl _ _ 22 rfl 5 (.int .u8 0) 1 1 Ycgm.underlying22 (by kernel_rfl) _ _ _ _ nb rfl rfl (by omega) (by omega) (by omega) (by unfold maxLen; omega) ?_; intro w1 hrow1 hg1; rw [made_int] at hrow1)
    have hw1 : RowV w1 w.heap.size 48 (ints .u8 wts) := (RowV.fresh w 48 (ints .u8 wts) _ rfl).grown hg1 (by simp)
    have hb1 : Below w.heap.size w w1 := ((Below.refl _ _).alloc (Nat.le_refl _) _).grown hg1 (by simp) (by simp)
    simp only [World.size_alloc] at hrow1
    clear hg1
    go_loopw [7] (fun i wr => ∃ (k : Nat) (ds : List Int), k ≤ bs.length ∧ i = .int .i64 k ∧ Hid (ds.length = nb) ∧ Hid (∀ x ∈ ds, 0 ≤ x ∧ x ≤ 255) ∧ Hid (∀ j, bitD ds j = (decide (j < k) && bs[j]?.getD false)) ∧ RowV wr (w.heap.size + 1) 5 (ints .u8 ds) ∧ RowV wr w.heap.size 48 (ints .u8 wts) ∧ Below w.heap.size w wr) (fun i _ => bs.length - (intOf i).toNat)
    case atStart =>
      refine ⟨0, List.replicate nb 0, Nat.zero_le _, rfl, hid (by simp), hid ?_, hid ?_, hrow1, hw1, hb1⟩
      · intro x hx; rw [List.mem_replicate] at hx; omega
      · intro j; rw [bitD_zeros]; simp
    case round =>
      obtain ⟨k, ds, hk, rfl, HDL, HDR, HDB, hrow, hrw, hb⟩ := hrel
      by_cases hlt : k < bs.length
      · obtain ⟨b, off, rfl, hbs, hcell⟩ := HC.out k hlt
        have hcell2 : wr.cell? ⟨b, off + k, none⟩ = some (.bool (bs[k]?.getD false)) := (hb.cell hbs).trans hcell
        have hk8 : k / 8 < ds.length := by rw [HDL.out]; omega
        have hd := hrow.int hk8
        have hfd := hrow.frozen (k / 8)
        have hw8 := hrw.int (i := k % 8) (by show k % 8 < 8; omega)
        rw [wts_get _ (by omega)] at hw8
        have hwb := wts_bd (k % 8) (by omega)
        have hxr := range_get ds HDR (k / 8)
        have HBK : Hid (bitB (ds[k / 8]?.getD 0) (k % 8) = false) := hid (by rw [← bitD_eq, HDB.out k]; simp)
        have HAB := hid (add_bit _ (k % 8) hxr.1 hxr.2 (by omega) HBK)
        have hsum := HAB.out.1
        have HQ : Hid (∀ q, bs[k]?.getD false = q → ∀ j, (decide (j < k + 1) && bs[j]?.getD false) = ((decide (j = k) && q) || (decide (j < k) && bs[j]?.getD false))) := hid (by
          intro q hq j
          by_cases e : j = k
          · subst e; rw [hq]; simp
          · have : decide (j < k + 1) = decide (j < k) := by rw [decide_eq_decide]; omega
            rw [this, decide_eq_false e]; simp)
        have HST := hid (fun j => bitD_set_true ds k _ hk8 HAB.out.2 j)
        generalize ds[k / 8]?.getD 0 = X at hd hxr hsum HST HAB HBK
        generalize (128 : Int) / 2 ^ (k % 8) = M at hw8 hwb hsum HST HAB
        generalize hqe : bs[k]?.getD false = q at hcell2
        have HQ2 := hid (HQ.out q hqe)
        clear hcell hqe
        have hk0 : (0 : Int) ≤ (k : Int) := by omega
        have hk8' : (k : Int) / 8 < (nb : Int) := by omega
        have hkm : (k : Int) % 8 < 8 := by omega
        have hwr : IntKind.u8.wrap (X + M) = X + M := by rw [IntKind.wrap_u8]; omega
        cases q with
        | false =>
          go_wp2
          go_roundw
          case rel =>
            refine ⟨k + 1, ds, by omega, by go_num, HDL, HDR, hid ?_, hrow, hrw, hb⟩
            intro j
            rw [HQ2.out j, HDB.out j]; simp
          case measure => simp [intOf]; omega
        | true =>
          go_wp2
          go_region
          all_goals go_wp2
          go_roundw
          case rel =>
            refine ⟨k + 1, ds.set (k / 8) (X + M), by omega, by go_num, hid (by rw [List.length_set]; exact HDL.out), hid (range_set ds _ _ HDR hsum), hid ?_, (hrow.setInt _ _).drew, (hrw.other _ _ (by simp)).drew, (hb.setCell (by simp) _).drew⟩
            intro j
            rw [HST.out j, HQ2.out j, HDB.out j]; simp
          case measure => simp [intOf]; omega
      · have hkn : k = bs.length := by omega
        have HB2 : Hid (∀ j, bitD ds j = (decide (j < bs.length) && bs[j]?.getD false)) := hid (by intro j; rw [HDB.out j, hkn])
        clear HDB hkn
        obtain ⟨N, hN⟩ : ∃ N : Nat, (N : Int) = (bs.length : Int) + extra := ⟨((bs.length : Int) + extra).toNat, by omega⟩
        have hN' := hN.symm
        have hNb : bs.length ≤ N ∧ N ≤ bs.length + 255 := by omega
        clear hN
        have hws := hb.size
        have hrl := hrow.lt
        go_wp2
        have hbx := RowV.fresh wr 41 [.slice (some ⟨w.heap.size + 1, 0, none⟩) nb nb, .int .i64 (N : Int)] _ rfl
        have hds := hrow.alloc (.cells #[.slice (some ⟨w.heap.size + 1, 0, none⟩) nb nb, .int .i64 (N : Int)] 41)
        have hb3 := hb.alloc hws (.cells #[.slice (some ⟨w.heap.size + 1, 0, none⟩) nb nb, .int .i64 (N : Int)] 41)
        obtain ⟨G, hG⟩ : ∃ G, wr.heap.size = G := ⟨_, rfl⟩
        rw [hG] at hbx ⊢
        obtain ⟨w3, hw3⟩ : ∃ w3, wr.alloc (.cells #[.slice (some ⟨w.heap.size + 1, 0, none⟩) nb nb, .int .i64 (N : Int)] 41) = w3 := ⟨_, rfl⟩
        have hbx3 : RowV w3 G 41 [.slice (some ⟨w.heap.size + 1, 0, none⟩) nb nb, .int .i64 (N : Int)] := by rw [← hw3]; exact hbx
        rw [hw3] at hds hb3 ⊢
        have HSD := hid (Sees.row hds (by rw [HDL.out]; omega))
        have hGl := hbx3.lt
        clear hrow hrw hb hws hrl hG hbx hw3
        go_loopw [10] (fun i wq => ∃ (t : Nat), t ≤ N + 10 ∧ i = .int .i64 ((t : Int) - 1) ∧ Below w3.heap.size w3 wq) (fun i _ => N + 10 - ((intOf i) + 1).toNat)
        case atStart => exact ⟨0, by omega, rfl, Below.refl _ _⟩
        case round =>
          obtain ⟨t, ht, rfl, hbq⟩ := hrel
          have x0 : wr.cell? ⟨G, 0, none⟩ = some (.slice (some ⟨w.heap.size + 1, 0, none⟩) nb nb) := (hbq.cell hGl).trans (hbx3.cell rfl)
          have x1 : wr.cell? ⟨G, 1, none⟩ = some (.int .i64 (N : Int)) := (hbq.cell hGl).trans (hbx3.cell rfl)
          have HSQ := hid (HSD.out.below hbq (Nat.le_refl _))
          have HNB := hid HDL.out.symm
          have hwq := hbq.size
          by_cases htl : t < N + 10
          · match t, htl with
            | 0, _ =>
              have HV : Hid (atV ds (N : Int) (-1) = (false, false)) := hid (by rw [atV, if_neg (by omega)])
              go_wp2_with (go_at_call 19; refine (at_n _ _ _ ds _ _ _ HNB HSQ HDR (by omega) false false HV).mono ?_; rintro e w4 ⟨rfl, hb4⟩)
              go_roundw
              case rel => exact ⟨1, by omega, by go_num, hbq.trans (hb4.mono hwq)⟩
              case measure => simp [intOf]; try omega
            | j + 1, htl =>
              rw [show (((j + 1 : Nat) : Int) - 1) = (j : Int) from by omega]
              have hjlt : (j : Int) < (N : Int) + 9 := by omega
              by_cases hjL : j < bs.length
              · obtain ⟨b, off, rfl, hbs, hcell⟩ := HC.out j hjL
                have hcell2 : wr.cell? ⟨b, off + j, none⟩ = some (.bool (bs[j]?.getD false)) := (hbq.cell (Nat.lt_of_lt_of_le hbs hb3.size)).trans ((hb3.cell hbs).trans hcell)
                have hjL' : (j : Int) < (bs.length : Int) := by omega
                have hjN : (j : Int) < (N : Int) := by omega
                have hj8 : (j : Int) < 8 * (nb : Int) := by omega
                have HV : Hid (atV ds (N : Int) (j : Int) = (bs[j]?.getD false, true)) := hid (by
                  rw [atV, if_pos (by rw [HDL.out]; omega), Int.toNat_natCast, HB2.out j]; simp [hjL])
                generalize bs[j]?.getD false = q at hcell2 HV
                clear hcell
                go_wp2_with (go_at_call 19; refine (at_n _ _ _ ds _ _ _ HNB HSQ HDR (by omega) q true HV).mono ?_; rintro e w4 ⟨rfl, hb4⟩)
                go_roundw
                case rel => exact ⟨j + 2, by omega, by go_num, hbq.trans (hb4.mono hwq)⟩
                case measure => simp [intOf]; try omega
              · have hjL' : ¬ (j : Int) < (bs.length : Int) := by omega
                by_cases hjN : j < N
                · have hjN' : (j : Int) < (N : Int) := by omega
                  by_cases hj8 : j < 8 * nb
                  · have hj8' : (j : Int) < 8 * (nb : Int) := by omega
                    have HV : Hid (atV ds (N : Int) (j : Int) = (false, true)) := hid (by
                      rw [atV, if_pos (by rw [HDL.out]; omega), Int.toNat_natCast, HB2.out j]; simp [hjL])
                    go_wp2_with (go_at_call 19; refine (at_n _ _ _ ds _ _ _ HNB HSQ HDR (by omega) false true HV).mono ?_; rintro e w4 ⟨rfl, hb4⟩)
                    go_roundw
                    case rel => exact ⟨j + 2, by omega, by go_num, hbq.trans (hb4.mono hwq)⟩
                    case measure => simp [intOf]; try omega
                  · have hj8' : ¬ (j : Int) < 8 * (nb : Int) := by omega
                    have HV : Hid (atV ds (N : Int) (j : Int) = (false, false)) := hid (by
                      rw [atV, if_neg (by rw [HDL.out]; omega)])
                    go_wp2_with (go_at_call 19; refine (at_n _ _ _ ds _ _ _ HNB HSQ HDR (by omega) false false HV).mono ?_; rintro e w4 ⟨rfl, hb4⟩)
                    go_roundw
                    case rel => exact ⟨j + 2, by omega, by go_num, hbq.trans (hb4.mono hwq)⟩
                    case measure => simp [intOf]; try omega
                · have hjN' : ¬ (j : Int) < (N : Int) := by omega
                  have HV : Hid (atV ds (N : Int) (j : Int) = (false, false)) := hid (by
                    rw [atV, if_neg (by omega)])
                  go_wp2_with (go_at_call 19; refine (at_n _ _ _ ds _ _ _ HNB HSQ HDR (by omega) false false HV).mono ?_; rintro e w4 ⟨rfl, hb4⟩)
                  go_roundw
                  case rel => exact ⟨j + 2, by omega, by go_num, hbq.trans (hb4.mono hwq)⟩
                  case measure => simp [intOf]; try omega
          · have htl' : ¬ ((t : Int) - 1) < (N : Int) + 9 := by omega
            go_wp2
            go_ret
            exact ⟨rfl, hb3.trans (hbq.mono hb3.size)⟩
end Go.Proofs.Ymbrcg
