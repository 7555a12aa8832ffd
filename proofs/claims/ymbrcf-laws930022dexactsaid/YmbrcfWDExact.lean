/- huff.LawS930022DExact, walked. -/
import Derived.Test.YmbrcfTab
import Derived.Test.YmbrcfTile
import Derived.Test.YmbrcfWDFit
import Derived.Test.YmbrcfAt
namespace Go.Proofs.Ymbrcf
open Go.RowKit
set_option linter.unusedVariables false
set_option linter.unusedSimpArgs false

/-- The share of length m among codes of length l. -/
def shr (l : Nat) (m : Int) : Int := 2 ^ (l - m.toNat)
theorem shr_pos (l : Nat) (m : Int) : 0 < shr l m := pow_pos' _
theorem sumB_scale (l : Nat) (hl : l ≤ 15) (i : Nat) : ∀ (ms : List Int) (j : Nat), Lens ms → sumB (shr l) (l : Int) i j ms * 2 ^ (15 - l) = sumB wt (l : Int) i j ms
  | [], j, _ => by simp [sumB]
  | m :: ms, j, h => by
    have hm := h m (List.mem_cons_self ..)
    rw [sumB, sumB, Int.add_mul, sumB_scale l hl i ms (j + 1) h.tail]
    split
    · rename_i hc
      have : shr l m * 2 ^ (15 - l) = wt m := by
        rw [wt_shl m hc.1 hm.2, shr, ← Int.pow_add]
        congr 1
        omega
      rw [this]
    · simp
theorem sumB_code (xs : List Int) (h : Lens xs) (hk : ksum xs ≤ 32768) (l : Nat) (h0 : 1 ≤ l) (hl : l ≤ 15) (i : Nat) : sumB (shr l) (l : Int) i 0 xs = codeB xs (l : Int) i := by
  have h1 := sumB_scale l hl i xs 0 h
  rw [sumB_pos xs h (l : Int) (by omega) i, ← codeB_pos xs h hk (l : Int) (by omega) (by omega) i, wt_shl (l : Int) (by omega) (by omega), show (15 - (l : Int)).toNat = 15 - l from by omega] at h1
  exact Int.eq_of_mul_eq_mul_right (by have := pow_pos' (15 - l); omega) h1
theorem sumB_one (l : Int) (i : Nat) (hl : 0 < l) : ∀ (ms : List Int) (j : Nat), Lens ms → sumB (fun _ => 1) l i j ms = ((bsN ms l + (ms.take (i - j)).count l : Nat) : Int)
  | [], j, _ => by simp [sumB, bsN]
  | m :: ms, j, h => by
    have hm := h m (List.mem_cons_self ..)
    rw [sumB, sumB_one l i hl ms (j + 1) h.tail, bsN_cons]
    by_cases h1 : m < l
    · by_cases hji : j < i
      · rw [show i - j = (i - (j + 1)) + 1 from by omega, List.take_succ_cons, count_cons', if_neg (show ¬ m = l by omega)]
        by_cases h0 : 0 < m
        · rw [if_pos ⟨h0, .inl h1⟩, if_pos ⟨h0, h1⟩]; push_cast; omega
        · rw [if_neg (by omega), if_neg (by omega)]; push_cast; omega
      · rw [show i - j = 0 from by omega, show i - (j + 1) = 0 from by omega, List.take_zero, List.take_zero]
        by_cases h0 : 0 < m
        · rw [if_pos ⟨h0, .inl h1⟩, if_pos ⟨h0, h1⟩]; push_cast; omega
        · rw [if_neg (by omega), if_neg (by omega)]; push_cast; omega
    · rw [if_neg (show ¬ (0 < m ∧ m < l) by omega)]
      by_cases hji : j < i
      · rw [show i - j = (i - (j + 1)) + 1 from by omega, List.take_succ_cons, count_cons']
        by_cases e : m = l
        · rw [if_pos (by omega), if_pos e]; push_cast; omega
        · rw [if_neg (by omega), if_neg e]; push_cast; omega
      · rw [show i - j = 0 from by omega, show i - (j + 1) = 0 from by omega, List.take_zero, List.take_zero, if_neg (by omega)]; push_cast; omega
theorem sumB_rank (xs : List Int) (h : Lens xs) (l : Int) (hl : 0 < l) (i : Nat) : sumB (fun _ => 1) l i 0 xs = (rankI xs l i : Nat) := by
  rw [sumB_one l i hl xs 0 h]; rfl
theorem bsN_drop (xs : List Int) (k : Nat) (h : k < xs.length) (hl : Lens xs) : bsN (xs.drop k) 16 = (if 0 < xs[k] then 1 else 0) + bsN (xs.drop (k + 1)) 16 := by
  have hx := hl _ (List.getElem_mem h)
  rw [List.drop_eq_getElem_cons h, bsN_cons]
  by_cases h0 : 0 < xs[k]
  · rw [if_pos h0, if_pos ⟨h0, by omega⟩]
  · rw [if_neg h0, if_neg (by omega)]
theorem count_drop' (xs : List Int) (l : Int) (k : Nat) (h : k < xs.length) : (xs.drop k).count l = (if xs[k] = l then 1 else 0) + (xs.drop (k + 1)).count l := by
  rw [List.drop_eq_getElem_cons h, count_cons']
theorem sumB_zero (f : Int → Int) : ∀ (ms : List Int) (j : Nat), Lens ms → sumB f 0 0 j ms = 0
  | [], j, _ => rfl
  | m :: ms, j, h => by
    have hm := h m (List.mem_cons_self ..)
    rw [sumB, if_neg (by omega), sumB_zero f ms (j + 1) h.tail]; rfl
/-- What the table says of length l, by sums. -/
theorem least_eq (xs : List Int) (h : Lens xs) (hk : ksum xs ≤ 32768) (l : Nat) (hl : l ≤ 15) : sumB (shr l) (l : Int) 0 0 xs = fc xs l := by
  by_cases h0 : l = 0
  · subst h0
    rw [show ((0 : Nat) : Int) = 0 from rfl, sumB_zero _ xs 0 h]; rfl
  · rw [sumB_code xs h hk l (by omega) hl 0, codeB]; simp

set_option maxRecDepth 10000 in
set_option maxHeartbeats 2400000 in
theorem dexact_any (a : Option Addr) (c : Nat) (xs : List Int) (w : World) (h : Sees .u8 w a xs) (hr : ∀ x ∈ xs, 0 ≤ x ∧ x ≤ 255) :
    Calls Ycfm.prog 12 #[.slice a xs.length c] w fun e w' => e = .returned (.bool true) ∧ Below w.heap.size w w' := by
  have hm := h.1
  have HS := hid h
  have HR := hid hr
  clear h hr
  by_cases hbig : 512 < xs.length
  · have hbig' : (512 : Int) < (xs.length : Int) := by omega
    go_enter Ycfm.func12, Ycfm.ntmps12
    go_wp2
    go_ret
    exact ⟨rfl, Below.refl _ _⟩
  · have hbig' : (xs.length : Int) ≤ 512 := by omega
    have h5 : xs.length ≤ 100000 := by omega
    go_enter Ycfm.func12, Ycfm.ntmps12
    go_wp2_with fail
    refine (dfit_any a c xs _ HS HR h5).mono ?_
    rintro e w1 ⟨g1, ys, rfl, hg1, hyl, hlen, hfit, hr1, hb1⟩
    have HN := hid hyl.symm
    have HSY := hid (Sees.row hr1 (by omega))
    have HRY := hid hlen.range
    have HF := hid hfit
    have HL := hid hlen
    have HK := hid ((fits_iff ys).1 hfit).2
    have h6 : ys.length ≤ 100000 := by omega
    have HCL : Hid ((cntFrom cnt0 ys).length = 16) := cntFrom_length ys cnt0
    have HFL := hid (firsts_length (cntFrom cnt0 ys))
    generalize hcn : cntFrom cnt0 ys = cn at HCL HFL
    have HCN := hid hcn
    have HSV : Hid (slackV ys = (32768 - ksum ys, true)) := hid (by rw [slackV, hfit]; rfl)
    clear hyl hlen hfit hcn
    go_wp2_with (first
      | (go_at_call 23; refine (newtable_yes _ _ _ ys _ HN HSY HRY HF h6).mono ?_; rintro e w2 ⟨gc, go, _, ord, rfl, hgc, hgo, rfl, hord, hrc, hro, hb2⟩; rw [HCN.out])
      | (refine wpList_storeRow rfl 48 _ _ rfl _ (tabCells (.slice (some ⟨gc, 0, none⟩) xs.length xs.length) cn (firsts cn) (.slice (some ⟨go, 0, none⟩) ord.length ord.length)) rfl rfl _ (tabCells (.slice none 0 0) (List.replicate 16 0) (List.replicate 16 0) (.slice none 0 0)) (RowV.fresh _ _ (tabCells (.slice none 0 0) (List.replicate 16 0) (List.replicate 16 0) (.slice none 0 0)) _ rfl) (by rw [tabCells_length _ _ _ _ HCL HFL]; kernel_rfl) (by rw [tabCells_length _ _ _ _ HCL HFL]; rfl) (tab_one _ _ _ _ _ _ _ _) ?_; intro w3 hr3 hg3; have t0 := hr3.cell (tab_get0 _ _ _ _); have t33 := hr3.cell (tab_ord _ _ _ _ HCL HFL)))
    have hs1 := hb1.size
    have hs2 := hb2.size
    have hs3 := hg3.size
    simp only [World.size_alloc] at hs3
    have hrcl := hrc.lt
    have hrol := hro.lt
    have hr1l := hr1.lt
    have HB3 : Hid (Below w.heap.size w w3) := hid (((hb1.trans (hb2.mono hs1)).alloc (by omega) _).grown hg3 (by simp; omega) (by intro k h; cases h; omega))
    have HRC : Hid (RowV w3 gc 26 (flat (assignV ys))) := hid ((hrc.alloc _).grown hg3 (by simp; omega))
    have HRO : Hid (RowV w3 go 3 (ints .i64 ord)) := hid ((hro.alloc _).grown hg3 (by simp; omega))
    have HRY3 : Hid (RowV w3 g1 5 (ints .u8 ys)) := hid (((hr1.below hb2 hr1l).alloc _).grown hg3 (by simp; omega))
    have HT0 := hid t0
    have HT33 := hid t33
    have HO := hid hord
    have HT1 : Hid (∀ l : Nat, l ≤ 15 → w3.cell? ⟨w2.heap.size, 1 + l, none⟩ = some (.int .i64 ((ys.count (l : Int) : Nat) : Int))) := hid (fun l hl => by
      rw [hr3.cell (tab_cnt _ _ _ _ HCL l (by omega)), ← HCN.out, cnt_get ys HL.out.range l (by omega)])
    have HT2 : Hid (∀ l : Nat, l ≤ 15 → w3.cell? ⟨w2.heap.size, 17 + l, none⟩ = some (.int .u32 (fc ys l))) := hid (fun l hl => by
      rw [hr3.cell (tab_fst _ _ _ _ HCL HFL l (by omega)), firsts_get _ _ (by omega), ← HCN.out]; rfl)
    have hob : ord.length ≤ 100000 := by rw [hord.1]; exact Nat.le_trans (List.length_filter_le _ _) (by omega)
    have hgl : gc < w3.heap.size := by omega
    have hgo3 : go < w3.heap.size := by omega
    have hg1l : g1 < w3.heap.size := by omega
    have hgt : w2.heap.size < w3.heap.size := by omega
    clear hg3 hb1 hb2 hrc hro hr3 t0 t33 hord hr1
    go_loop [6] (fun i => ∃ (l : Nat), l ≤ 16 ∧ i = .int .u8 l) (fun i => 16 - (intOf i).toNat)
    case atStart => exact ⟨0, by omega, rfl⟩
    case round =>
      obtain ⟨l, hl, rfl⟩ := hrel
      by_cases hl15 : l ≤ 15
      · have hl15' : (l : Int) ≤ 15 := by omega
        have HLE := hid (least_eq ys HL HK l hl15)
        have hfb := fcv_bd (cntFrom cnt0 ys) l
        rw [show fcv (cntFrom cnt0 ys) l = fc ys l from rfl] at hfb
        have c1 := HT1.out l hl15
        have c2 := HT2.out l hl15
        have hcl : ys.count (l : Int) ≤ ys.length := List.count_le_length
        obtain ⟨F, hF⟩ : ∃ F, fc ys l = F := ⟨_, rfl⟩
        obtain ⟨C, hC⟩ : ∃ C, ys.count (l : Int) = C := ⟨_, rfl⟩
        rw [hF] at HLE hfb c2
        rw [hC] at c1 hcl
        have HCC := hid hC
        clear hF hC
        go_wp2
        go_loop [7, 8, 9] (fun nv sv jv => ∃ (k n : Nat) (S : Int), k ≤ xs.length ∧ jv = .int .i64 k ∧ nv = .int .i64 n ∧ sv = .int .u32 S ∧ n ≤ k ∧ 0 ≤ S ∧ S ≤ F ∧ Hid (n + (ys.drop k).count (l : Int) = C) ∧ Hid (S + sumB (shr l) (l : Int) 0 k (ys.drop k) = F)) (fun _ _ jv => xs.length - (intOf jv).toNat)
        case atStart => exact ⟨0, 0, 0, Nat.zero_le _, rfl, rfl, rfl, by omega, by omega, by omega, hid (by simpa using HCC.out), hid (by simpa using HLE.out)⟩
        case round =>
          obtain ⟨k, n, S, hk, rfl, rfl, rfl, hn, hS0, hS1, HNN, HSS⟩ := hrel
          by_cases hlt : k < xs.length
          · have hky : k < ys.length := by rw [← HN.out]; exact hlt
            have hy := HL.out _ (List.getElem_mem hky)
            have hcell := HRY3.out.int hky
            rw [getD_get _ _ hky] at hcell
            have HD1 := hid (count_drop' ys (l : Int) k hky)
            have hd2 := sumB_drop (shr l) (l : Int) 0 k ys hky
            have hnn := sumB_nonneg (shr l) (fun x => Int.le_of_lt (shr_pos l x)) (l : Int) 0 (ys.drop (k + 1)) (k + 1)
            have hss := HSS.out
            obtain ⟨x, hx'⟩ : ∃ x : Nat, ys[k] = (x : Int) := ⟨ys[k].toNat, by omega⟩
            rw [hx'] at hcell HD1 hd2 hy
            rw [hd2] at hss
            obtain ⟨R, hR⟩ : ∃ R, sumB (shr l) (l : Int) 0 (k + 1) (ys.drop (k + 1)) = R := ⟨_, rfl⟩
            rw [hR] at hnn hss
            have HRR := hid hR
            clear hR hd2
            by_cases hxl : x = l
            · subst hxl
              have hxe : ((x : Int) == (x : Int)) = true := by simp
              rw [if_pos rfl] at HD1
              rw [if_neg (by omega)] at hss
              by_cases hx0 : 0 < (x : Int)
              · go_wp2
                go_round
                case rel => exact ⟨k + 1, n + 1, S, by omega, by go_num, by go_num, rfl, by omega, hS0, hS1, hid (by have h1 := HNN.out; have h2 := HD1.out; omega), hid (by rw [HRR.out]; omega)⟩
                case measure => simp [intOf]; omega
              · go_wp2
                go_round
                case rel => exact ⟨k + 1, n + 1, S, by omega, by go_num, by go_num, rfl, by omega, hS0, hS1, hid (by have h1 := HNN.out; have h2 := HD1.out; omega), hid (by rw [HRR.out]; omega)⟩
                case measure => simp [intOf]; omega
            · have hxe : ((x : Int) == (l : Int)) = false := by simp; omega
              rw [if_neg (by omega)] at HD1
              have HN2 : Hid (n + (ys.drop (k + 1)).count (l : Int) = C) := hid (by have h1 := HNN.out; have h2 := HD1.out; omega)
              by_cases hin : 0 < x ∧ x < l
              · have hi1 : (0 : Int) < (x : Int) := by omega
                have hi2 : (x : Int) < (l : Int) := by omega
                rw [if_pos ⟨hi1, .inl hi2⟩, shr, Int.toNat_natCast] at hss
                have hpp := pow_pos' (l - x)
                have hpw := pow_le_32768 (l - x) (by omega)
                have hsub : ((l : Int) - (x : Int)).toNat = l - x := by omega
                go_wp2
                go_round
                case rel => exact ⟨k + 1, n, S + 2 ^ (l - x), by omega, by go_num, rfl, by go_num, by omega, by omega, by omega, HN2, hid (by rw [HRR.out]; omega)⟩
                case measure => simp [intOf]; omega
              · rw [if_neg (by omega)] at hss
                by_cases hx0 : 0 < (x : Int)
                · have hi2 : ¬ (x : Int) < (l : Int) := by omega
                  go_wp2
                  go_round
                  case rel => exact ⟨k + 1, n, S, by omega, by go_num, rfl, rfl, by omega, hS0, hS1, HN2, hid (by rw [HRR.out]; omega)⟩
                  case measure => simp [intOf]; omega
                · go_wp2
                  go_round
                  case rel => exact ⟨k + 1, n, S, by omega, by go_num, rfl, rfl, by omega, hS0, hS1, HN2, hid (by rw [HRR.out]; omega)⟩
                  case measure => simp [intOf]; omega
          · have hkx : ys.drop k = [] := List.drop_eq_nil_of_le (by rw [← HN.out]; omega)
            have hn' := HNN.out
            have hs' := HSS.out
            rw [hkx] at hn' hs'
            simp only [List.count_nil, Nat.add_zero, sumB, Int.add_zero] at hn' hs'
            subst hn' hs'
            clear HNN HSS hkx
            go_wp2
            go_round
            case rel => exact ⟨l + 1, by omega, by go_num⟩
            case measure => simp [intOf]; omega
      · clear HT1 HT2
        have HT0w : Hid (∀ wx, Below w3.heap.size w3 wx → wx.cell? ⟨w2.heap.size, 0, none⟩ = some (.slice (some ⟨gc, 0, none⟩) xs.length xs.length) ∧ wx.cell? ⟨w2.heap.size, 33, none⟩ = some (.slice (some ⟨go, 0, none⟩) ord.length ord.length)) := hid (fun wx hbx => ⟨(hbx.cell hgt).trans HT0.out, (hbx.cell hgt).trans HT33.out⟩)
        have HCW : Hid (∀ wx, Below w3.heap.size w3 wx → ∀ k (hk : k < ys.length), wx.cell? ⟨g1, k, none⟩ = some (.int .u8 ys[k])) := hid (fun wx hbx k hk => (hbx.cell hg1l).trans (by rw [HRY3.out.int hk, getD_get _ _ hk]))
        have hl15' : ¬ (l : Int) ≤ 15 := by omega
        go_wp2
        go_loopw [11, 12] (fun uv iv wr => ∃ (i u : Nat), i ≤ xs.length ∧ iv = .int .i64 i ∧ uv = .int .i64 u ∧ u ≤ i ∧ Hid (u + bsN (ys.drop i) 16 = ord.length) ∧ Below w3.heap.size w3 wr) (fun _ iv _ => xs.length - (intOf iv).toNat)
        case atStart => exact ⟨0, 0, Nat.zero_le _, rfl, rfl, by omega, hid (by rw [HO.out.1]; simp), Below.refl _ _⟩
        case round =>
          obtain ⟨i, u, hi, rfl, rfl, hu, HU, hb⟩ := hrel
          have hws := hb.size
          obtain ⟨t0, t33⟩ := HT0w.out wr hb
          by_cases hlt : i < xs.length
          · have hiy : i < ys.length := by rw [← HN.out]; exact hlt
            have hy := HL.out _ (List.getElem_mem hiy)
            have l0 := HCW.out wr hb i hiy
            have hcc := code_row HRC.out HL HK i hiy
            have c0 := (hb.cell hgl).trans hcc.1
            have c1 := (hb.cell hgl).trans hcc.2
            have HUD := hid (bsN_drop ys i hiy HL)
            clear hcc
            by_cases h0 : 0 < ys[i]
            · rw [if_pos h0] at c0 HUD
              have hoi := HO.out.2 i hiy h0
              have hrl := rank_lt ys HL i hiy h0
              rw [← HO.out.1] at hrl
              have hcl := codeB_lt ys HL HK i hiy h0
              have HRK := hid (sumB_rank ys HL ys[i] h0 i)
              obtain ⟨m, hm'⟩ : ∃ m : Nat, ys[i] = (m : Int) := ⟨ys[i].toNat, by omega⟩
              rw [hm'] at h0 hy l0 c0 c1 hoi hrl hcl HRK
              have HBT := hid (sumB_code ys HL HK m (by omega) (by omega) i)
              rw [Int.toNat_natCast] at hcl
              have hpw := pow_le_32768 m (by omega)
              have hz : ((m : Int) == 0) = false := by simp; omega
              obtain ⟨CB, hCB⟩ : ∃ CB, codeB ys (m : Int) i = CB := ⟨_, rfl⟩
              obtain ⟨RK, hRK⟩ : ∃ RK, rankI ys (m : Int) i = RK := ⟨_, rfl⟩
              rw [hCB] at c0 hcl HBT
              rw [hRK] at hoi hrl HRK
              have o1 : ∀ wx, Below w3.heap.size w3 wx → wx.cell? ⟨go, RK, none⟩ = some (.int .i64 (i : Int)) := fun wx hbx => (hbx.cell hgo3).trans (by rw [HRO.out.int hrl, hoi]; rfl)
              have HO1 := hid o1
              clear hm' hCB hRK hoi o1
              go_wp2
              have HB1 : Hid (Below w3.heap.size w3 (wr.alloc (.cells #[.int .u32 CB, .int .u8 (m : Int)] 26))) := hid (hb.alloc hws _)
              obtain ⟨k0, k33⟩ := HT0w.out _ HB1.out
              have ko := HO1.out _ HB1.out
              have hm15 : m ≤ 15 := by omega
              go_loop [15, 16, 17] (fun rv sv jv => ∃ (k R : Nat) (S : Int), k ≤ xs.length ∧ jv = .int .i64 k ∧ rv = .int .i64 R ∧ sv = .int .u32 S ∧ R ≤ k ∧ 0 ≤ S ∧ S ≤ CB ∧ Hid ((R : Int) + sumB (fun _ => 1) (m : Int) i k (ys.drop k) = (RK : Nat)) ∧ Hid (S + sumB (shr m) (m : Int) i k (ys.drop k) = CB)) (fun _ _ jv => xs.length - (intOf jv).toNat)
              case atStart => exact ⟨0, 0, 0, Nat.zero_le _, rfl, rfl, rfl, by omega, by omega, by omega, hid (by simpa using HRK.out), hid (by simpa using HBT.out)⟩
              case round =>
                obtain ⟨k, R, S, hk, rfl, rfl, rfl, hR, hS0, hS1, HRR, HSS⟩ := hrel
                by_cases hlt : k < xs.length
                · have hky : k < ys.length := by rw [← HN.out]; exact hlt
                  have hyk := HL.out _ (List.getElem_mem hky)
                  have lk := HCW.out _ HB1.out k hky
                  have hr1 := sumB_drop (fun _ => 1) (m : Int) i k ys hky
                  have hd2 := sumB_drop (shr m) (m : Int) i k ys hky
                  have hnn := sumB_nonneg (shr m) (fun x => Int.le_of_lt (shr_pos m x)) (m : Int) i (ys.drop (k + 1)) (k + 1)
                  have hss := HSS.out
                  obtain ⟨x, hx'⟩ : ∃ x : Nat, ys[k] = (x : Int) := ⟨ys[k].toNat, by omega⟩
                  rw [hx'] at lk hr1 hd2 hyk
                  rw [hd2] at hss
                  obtain ⟨Q, hQ⟩ : ∃ Q, sumB (shr m) (m : Int) i (k + 1) (ys.drop (k + 1)) = Q := ⟨_, rfl⟩
                  rw [hQ] at hnn hss
                  have HQQ := hid hQ
                  clear hQ hd2 hx'
                  by_cases hx0 : 0 < (x : Int)
                  · by_cases hxm : (x : Int) < (m : Int)
                    · rw [if_pos ⟨hx0, .inl hxm⟩] at hr1 hss
                      rw [shr, Int.toNat_natCast] at hss
                      have HR1 := hid hr1
                      have hpp := pow_pos' (m - x)
                      have hpw2 := pow_le_32768 (m - x) (by omega)
                      clear hr1
                      go_wp2
                      go_round
                      case rel => exact ⟨k + 1, R + 1, S + 2 ^ (m - x), by omega, by go_num, by go_num, by go_num, by omega, by omega, by omega, hid (by have := HRR.out; rw [HR1.out] at this; push_cast; omega), hid (by rw [HQQ.out]; omega)⟩
                      case measure => simp [intOf]; omega
                    · by_cases hxe : x = m
                      · subst hxe
                        have hxb : ((x : Int) == (x : Int)) = true := by simp
                        by_cases hki : k < i
                        · have hki' : (k : Int) < (i : Int) := by omega
                          rw [if_pos ⟨hx0, .inr ⟨rfl, hki⟩⟩] at hr1 hss
                          rw [shr, Int.toNat_natCast, Nat.sub_self] at hss
                          have HR1 := hid hr1
                          clear hr1
                          go_wp2
                          go_round
                          case rel => exact ⟨k + 1, R + 1, S + 1, by omega, by go_num, by go_num, by go_num, by omega, by omega, by omega, hid (by have := HRR.out; rw [HR1.out] at this; push_cast; omega), hid (by rw [HQQ.out]; omega)⟩
                          case measure => simp [intOf]; omega
                        · have hki' : ¬ (k : Int) < (i : Int) := by omega
                          rw [if_neg (by omega)] at hr1 hss
                          have HR1 := hid hr1
                          clear hr1
                          go_wp2
                          go_round
                          case rel => exact ⟨k + 1, R, S, by omega, by go_num, rfl, rfl, by omega, hS0, hS1, hid (by have := HRR.out; rw [HR1.out] at this; omega), hid (by rw [HQQ.out]; omega)⟩
                          case measure => simp [intOf]; omega
                      · have hxb : ((x : Int) == (m : Int)) = false := by simp; omega
                        rw [if_neg (by omega)] at hr1 hss
                        have HR1 := hid hr1
                        clear hr1
                        go_wp2
                        go_round
                        case rel => exact ⟨k + 1, R, S, by omega, by go_num, rfl, rfl, by omega, hS0, hS1, hid (by have := HRR.out; rw [HR1.out] at this; omega), hid (by rw [HQQ.out]; omega)⟩
                        case measure => simp [intOf]; omega
                  · rw [if_neg (by omega)] at hr1 hss
                    have HR1 := hid hr1
                    clear hr1
                    go_wp2
                    go_round
                    case rel => exact ⟨k + 1, R, S, by omega, by go_num, rfl, rfl, by omega, hS0, hS1, hid (by have := HRR.out; rw [HR1.out] at this; omega), hid (by rw [HQQ.out]; omega)⟩
                    case measure => simp [intOf]; omega
                · have hkx : ys.drop k = [] := List.drop_eq_nil_of_le (by rw [← HN.out]; omega)
                  have hr' := HRR.out
                  have hs' := HSS.out
                  rw [hkx] at hr' hs'
                  simp only [sumB, Int.add_zero] at hr' hs'
                  have hr2 : R = RK := by omega
                  subst hr2 hs'
                  have hrl' : ¬ (ord.length : Int) ≤ (R : Int) := by omega
                  clear HRR HSS hkx hr'
                  go_wp2
                  go_roundw
                  case rel => exact ⟨i + 1, u + 1, by omega, by go_num, by go_num, by omega, hid (by have h1 := HU.out; rw [HUD.out] at h1; omega), HB1.out⟩
                  case measure => simp [intOf]; omega
            · have hz : ys[i] = 0 := by omega
              rw [if_neg h0] at c0 HUD
              rw [hz] at l0 c1
              clear hz h0 hy
              go_wp2
              go_roundw
              case rel => exact ⟨i + 1, u, by omega, by go_num, rfl, by omega, hid (by have h1 := HU.out; rw [HUD.out] at h1; omega), hb.alloc hws _⟩
              case measure => simp [intOf]; omega
          · have hkx : ys.drop i = [] := List.drop_eq_nil_of_le (by rw [← HN.out]; omega)
            have hu' := HU.out
            rw [hkx] at hu'
            simp only [bsN, List.filter_nil, List.length_nil, Nat.add_zero] at hu'
            have HU' := hid hu'
            clear hu' HU hkx
            go_wp2
            go_ret
            refine ⟨ret_bool ?_, HB3.out.trans (hb.mono HB3.out.size)⟩
            have := HU'.out
            simp; omega
end Go.Proofs.Ymbrcf
