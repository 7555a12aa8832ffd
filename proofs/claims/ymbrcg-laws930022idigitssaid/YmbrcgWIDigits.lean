/- huff.LawS930022IDigits, walked. -/
import Derived.Test.YmbrcgWIText
import Derived.Test.YmbrcgDigits
import Derived.Test.YmbrcgAt
import Derived.Test.YmbrcgOpens
namespace Go.Proofs.Ymbrcg
open Go.RowKit
set_option linter.unusedVariables false
set_option linter.unusedSimpArgs false

/-- All of it binary digits. -/
def Digs (ys : List Int) : Prop := ∀ y ∈ ys, y = 48 ∨ y = 49
theorem Digs.alld : ∀ {ys : List Int}, Digs ys → alld ys = true
  | [], _ => rfl
  | y :: ys, h => by
    have h1 := h y (List.mem_cons_self ..)
    have h2 := Digs.alld (ys := ys) (fun z hz => h z (List.mem_cons_of_mem _ hz))
    rw [Go.Proofs.Ymbrcg.alld, h2, Bool.and_true]
    simpa using h1
theorem alld_set_bad : ∀ (ys : List Int) (q : Nat) (b : Int), q < ys.length → b ≠ 48 → b ≠ 49 → alld (ys.set q b) = false
  | y :: ys, 0, b, _, h1, h2 => by rw [List.set_cons_zero, alld]; simp [h1, h2]
  | y :: ys, q + 1, b, h, h1, h2 => by rw [List.set_cons_succ, alld, alld_set_bad ys q b (by simpa using h) h1 h2, Bool.and_false]
theorem Digs.set {ys : List Int} (h : Digs ys) (q : Nat) (b : Int) (hb : b = 48 ∨ b = 49) : Digs (ys.set q b) := by
  intro y hy
  rcases List.mem_or_eq_of_mem_set hy with h' | h'
  · exact h y h'
  · subst h'; exact hb
theorem Digs.range {ys : List Int} (h : Digs ys) : ∀ y ∈ ys, 0 ≤ y ∧ y ≤ 255 := fun y hy => by have := h y hy; omega
theorem val_bd : ∀ {ys : List Int}, Digs ys → 0 ≤ val ys ∧ val ys < 2 ^ ys.length
  | [], _ => by simp [val]
  | y :: ys, h => by
    have h1 := h y (List.mem_cons_self ..)
    have h2 := val_bd (ys := ys) (fun z hz => h z (List.mem_cons_of_mem _ hz))
    have hp := pow_pos' ys.length
    rw [val, List.length_cons, Int.pow_succ]
    rcases h1 with h1 | h1 <;> subst h1 <;> omega
theorem val_bit : ∀ {ys : List Int}, Digs ys → ∀ j, j < ys.length → val ys / 2 ^ (ys.length - 1 - j) % 2 = ys[j]?.getD 0 - 48
  | [], _, j, hj => by simp at hj
  | y :: ys, h, j, hj => by
    have h1 := h y (List.mem_cons_self ..)
    have ht : Digs ys := fun z hz => h z (List.mem_cons_of_mem _ hz)
    have h2 := val_bd ht
    have hp := pow_pos' ys.length
    rw [val, List.length_cons]
    match j with
    | 0 =>
      rw [show ys.length + 1 - 1 - 0 = ys.length from by omega, Int.add_comm, Int.add_mul_ediv_right _ _ (by omega), Int.ediv_eq_zero_of_lt h2.1 h2.2]
      simp
      omega
    | j + 1 =>
      have hj' : j < ys.length := by simpa using hj
      have ih := val_bit ht j hj'
      rw [show ys.length + 1 - 1 - (j + 1) = ys.length - 1 - j from by omega]
      obtain ⟨d, hd⟩ : ∃ d, ys.length = (ys.length - 1 - j) + (d + 1) := ⟨j, by omega⟩
      have hp2 := pow_pos' (ys.length - 1 - j)
      have e : (y - 48) * 2 ^ ys.length + val ys = val ys + ((y - 48) * 2 ^ d * 2) * 2 ^ (ys.length - 1 - j) := by
        conv => lhs; rw [hd]
        rw [Int.pow_add, Int.pow_succ, Int.add_comm]
        congr 1
        rw [Int.mul_comm (2 ^ (ys.length - 1 - j)), ← Int.mul_assoc, ← Int.mul_assoc]
      rw [e, Int.add_mul_ediv_right _ _ (by omega), List.getElem?_cons_succ, ← ih]
      omega
theorem parseV_yes {ys : List Int} (h : Digs ys) (hn : ys.length ≤ 15) : parseV (strL (strOfNums ys)) = (val ys, (ys.length : Int), true) := by
  rw [strL_nums _ h.range, parseV, if_pos hn, parseGo_eq, if_pos h.alld]; simp
theorem parseV_no {ys : List Int} (hr : ∀ y ∈ ys, 0 ≤ y ∧ y ≤ 255) (h : 15 < ys.length ∨ alld ys = false) : parseV (strL (strOfNums ys)) = (0, 0, false) := by
  rw [strL_nums _ hr, parseV]
  by_cases hn : ys.length ≤ 15
  · rw [if_pos hn, parseGo_eq, if_neg]
    rw [h.resolve_left (by omega)]
    decide
  · rw [if_neg hn]

set_option maxHeartbeats 2000000 in
theorem idigits_any (a : Option Addr) (c : Nat) (bs : List Bool) (pos ch : Int) (w : World) (h : SeesB w a bs) (hpos : 0 ≤ pos ∧ pos ≤ 255) (hch : 0 ≤ ch ∧ ch ≤ 255) :
    Calls Ycgm.prog 13 #[.slice a bs.length c, .int .u8 pos, .int .u8 ch] w fun e w' => e = .returned (.bool true) ∧ Below w.heap.size w w' := by
  obtain ⟨hm, hc⟩ := h
  have HC := hid hc
  clear hc
  by_cases hbig : 1024 < bs.length
  · have hbig' : (1024 : Int) < (bs.length : Int) := by omega
    go_enter Ycgm.func13, Ycgm.ntmps13
    go_wp2
    go_ret
    exact ⟨rfl, Below.refl _ _⟩
  · have hbig' : (bs.length : Int) ≤ 1024 := by omega
    go_enter Ycgm.func13, Ycgm.ntmps13
    go_wp2_with (at_make; refine wpList_makeRow _ rfl _ _ 22 rfl 5 (.int .u8 0) 1 1 Ycgm.underlying22 (by kernel_rfl) _ _ _ _ bs.length rfl rfl rfl rfl (by omega) (by unfold maxLen; omega) ?_; intro w1 hrow1 hg1; rw [made_int] at hrow1)
    have hb1 : Below w.heap.size w w1 := below_of_grown hg1 (Nat.le_refl _) (by simp)
    clear hg1
    go_loopw [9] (fun i wr => ∃ (k : Nat) (pre : List Int), k ≤ bs.length ∧ i = .int .i64 k ∧ Hid (pre.length = k) ∧ Hid (Digs pre) ∧ RowV wr w.heap.size 5 (ints .u8 (pre ++ List.replicate (bs.length - k) 0)) ∧ Below w.heap.size w wr) (fun i _ => bs.length - (intOf i).toNat)
    case atStart => exact ⟨0, [], Nat.zero_le _, rfl, hid rfl, hid (by simp [Digs]), hrow1, hb1⟩
    case round =>
      obtain ⟨k, pre, hk, rfl, HP, HDG, hrow, hb⟩ := hrel
      by_cases hlt : k < bs.length
      · obtain ⟨b, off, rfl, hbs, hcell⟩ := HC.out k hlt
        have hbne : b ≠ w.heap.size := by omega
        have hcell2 : wr.cell? ⟨b, off + k, none⟩ = some (.bool (bs[k]?.getD false)) := (hb.cell hbs).trans hcell
        have hcell3 : (wr.setCell ⟨w.heap.size, k, none⟩ (.int .u8 48)).cell? ⟨b, off + k, none⟩ = some (.bool (bs[k]?.getD false)) := by
          rw [World.cell?_setCell_other _ _ _ _ (by simp <;> omega)]; exact hcell2
        have hold := hrow.int (i := k) (by rw [build_length pre _ k HP hk]; exact hlt)
        have hfz := hrow.frozen k
        have hold2 : (wr.setCell ⟨w.heap.size, k, none⟩ (.int .u8 48)).cell? ⟨w.heap.size, k, none⟩ = some (.int .u8 48) := (hrow.setInt k 48).cell (by rw [ints_get _ _ _ (by rw [List.length_set, build_length pre _ k HP hk]; exact hlt)]; simp)
        generalize (pre ++ List.replicate (bs.length - k) 0)[k]?.getD 0 = oldv at hold
        generalize bs[k]?.getD false = q at hcell2 hcell3
        clear hcell
        have fin : ∀ v : Int, RowV (wr.setCell ⟨w.heap.size, k, none⟩ (.int .u8 v)) w.heap.size 5 (ints .u8 ((pre ++ [v]) ++ List.replicate (bs.length - (k + 1)) 0)) := fun v => by
          rw [← build_set pre _ k v HP hlt]; exact hrow.setInt k v
        have fin2 : RowV ((wr.setCell ⟨w.heap.size, k, none⟩ (.int .u8 48)).setCell ⟨w.heap.size, k, none⟩ (.int .u8 49)) w.heap.size 5 (ints .u8 ((pre ++ [49]) ++ List.replicate (bs.length - (k + 1)) 0)) := by
          have e := (hrow.setInt k 48).setInt k 49
          rw [List.set_set, build_set pre _ k 49 HP hlt] at e
          exact e
        have FIN := hid fin
        have FIN2 := hid fin2
        have HP2 : ∀ v : Int, Hid ((pre ++ [v]).length = k + 1) := fun v => hid (by rw [List.length_append, HP.out]; rfl)
        have HD2 : ∀ v : Int, v = 48 ∨ v = 49 → Hid (Digs (pre ++ [v])) := fun v hv => hid (by
          intro y hy
          rcases List.mem_append.1 hy with h' | h'
          · exact HDG.out y h'
          · rw [List.mem_singleton] at h'; subst h'; exact hv)
        have HHP2 := hid HP2
        have HHD2 := hid HD2
        clear fin fin2 HP2 HD2
        cases q with
        | false =>
          go_wp2
          go_roundw
          case rel => exact ⟨k + 1, pre ++ [48], by omega, by go_num, HHP2.out 48, HHD2.out 48 (by omega), FIN.out 48, hb.setCell (Nat.le_refl _) _⟩
          case measure => simp [intOf]; omega
        | true =>
          go_wp2
          go_roundw
          case rel => exact ⟨k + 1, pre ++ [49], by omega, by go_num, HHP2.out 49, HHD2.out 49 (by omega), FIN2.out, (hb.setCell (Nat.le_refl _) _).setCell (Nat.le_refl _) _⟩
          case measure => simp [intOf]; omega
      · rw [build_full pre _ _ hlt] at hrow
        have hlen : pre.length = bs.length := by rw [HP.out]; omega
        have HLEN := hid hlen
        clear HP hlen
        obtain ⟨n, hn⟩ : ∃ n, n = bs.length := ⟨_, rfl⟩
        obtain ⟨q, hq⟩ : ∃ q : Nat, pos % ((bs.length : Int) + 1) = (q : Int) := ⟨(pos % ((bs.length : Int) + 1)).toNat, by have := Int.emod_nonneg pos (show (bs.length : Int) + 1 ≠ 0 by omega); omega⟩
        have hqn : q ≤ bs.length := by have := Int.emod_lt_of_pos pos (show (0 : Int) < (bs.length : Int) + 1 by omega); omega
        have hbv : 0 ≤ (47 + ch) % 256 ∧ (47 + ch) % 256 ≤ 255 := by omega
        clear hn
        by_cases hqlt : q < bs.length
        · have hqlt' : (q : Int) < (bs.length : Int) := by omega
          have hold := hrow.int (i := q) (by rw [HLEN.out]; exact hqlt)
          have hfz := hrow.frozen q
          generalize pre[q]?.getD 0 = oldv at hold
          have hrS := hrow.setInt q ((47 + ch) % 256)
          have hbS := hb.setCell (p := ⟨w.heap.size, q, none⟩) (Nat.le_refl _) (.int .u8 ((47 + ch) % 256))
          have HLS : Hid ((pre.set q ((47 + ch) % 256)).length = bs.length) := hid (by rw [List.length_set]; exact HLEN.out)
          have HDS : (47 + ch) % 256 = 48 ∨ (47 + ch) % 256 = 49 → Digs (pre.set q ((47 + ch) % 256)) := fun hh => HDG.out.set q _ hh
          have HDB : (47 + ch) % 256 ≠ 48 → (47 + ch) % 256 ≠ 49 → alld (pre.set q ((47 + ch) % 256)) = false := fun h1 h2 => alld_set_bad pre q _ (by rw [HLEN.out]; exact hqlt) h1 h2
          have HRG : ∀ y ∈ pre.set q ((47 + ch) % 256), 0 ≤ y ∧ y ≤ 255 := by
            intro y hy
            rcases List.mem_or_eq_of_mem_set hy with h' | h'
            · exact HDG.out.range y h'
            · omega
          generalize pre.set q ((47 + ch) % 256) = zs at hrS HLS HDS HDB HRG
          generalize hB : (47 + ch) % 256 = B at hrS hbS hbv HDS HDB
          have HDSH := hid HDS
          have HDBH := hid HDB
          have HRGH := hid HRG
          clear HDS HDB HRG
          by_cases hd : B = 48 ∨ B = 49
          · have HDD : Hid (Digs zs) := hid (HDSH.out hd)
            have hd1 : (B != 48 && B != 49) = false := by rcases hd with h | h <;> simp [h]
            by_cases h15 : 15 < bs.length
            · have h15' : ¬ (bs.length : Int) ≤ 15 := by omega
              rcases hd with hd | hd
              · subst hd
                obtain rfl : ch = 1 := by omega
                clear hB
                have hzl : zs.length = bs.length := HLS.out
                have hcv := run_convert_bytes_arg (P := Ycgm.prog) (wr.setCell ⟨w.heap.size, q, none⟩ (.int .u8 48)) 22 5 Ycgm.underlying22 Ycgm.underlying5 w.heap.size 0 bs.length bs.length zs hzl (fun i hi => by rw [Nat.zero_add]; exact hrS.int (by rw [hzl]; exact hi)) 9 Ycgm.underlying9
                have HV : Hid (parseV (strL (strOfNums zs)) = (0, 0, false)) := hid (parseV_no HRGH.out (.inl (by rw [HLS.out]; exact h15)))
                have hsz : (strOfNums zs).size = bs.length := by rw [strOfNums_size]; exact hzl
                generalize strOfNums zs = s at hcv HV hsz
                have HSZ : Hid (s.size ≤ 9223372036854775807) := hid (by omega)
                clear hsz hzl
                go_wp2_with (go_at_call 26; refine (parse_any s _ HSZ).mono ?_; rintro e w2 ⟨rfl, hb2⟩; rw [HV.out])
                go_ret
                exact ⟨rfl, (hbS.trans (hb2.mono hbS.size)).alloc (Nat.le_trans hbS.size hb2.size) _⟩
              · subst hd
                obtain rfl : ch = 2 := by omega
                clear hB
                have hzl : zs.length = bs.length := HLS.out
                have hcv := run_convert_bytes_arg (P := Ycgm.prog) (wr.setCell ⟨w.heap.size, q, none⟩ (.int .u8 49)) 22 5 Ycgm.underlying22 Ycgm.underlying5 w.heap.size 0 bs.length bs.length zs hzl (fun i hi => by rw [Nat.zero_add]; exact hrS.int (by rw [hzl]; exact hi)) 9 Ycgm.underlying9
                have HV : Hid (parseV (strL (strOfNums zs)) = (0, 0, false)) := hid (parseV_no HRGH.out (.inl (by rw [HLS.out]; exact h15)))
                have hsz : (strOfNums zs).size = bs.length := by rw [strOfNums_size]; exact hzl
                generalize strOfNums zs = s at hcv HV hsz
                have HSZ : Hid (s.size ≤ 9223372036854775807) := hid (by omega)
                clear hsz hzl
                go_wp2_with (go_at_call 26; refine (parse_any s _ HSZ).mono ?_; rintro e w2 ⟨rfl, hb2⟩; rw [HV.out])
                go_ret
                exact ⟨rfl, (hbS.trans (hb2.mono hbS.size)).alloc (Nat.le_trans hbS.size hb2.size) _⟩
            · have h15' : (bs.length : Int) ≤ 15 := by omega
              rcases hd with hd | hd
              · subst hd
                obtain rfl : ch = 1 := by omega
                clear hB
                have hzl : zs.length = bs.length := HLS.out
                have hrZ : RowV (wr.setCell ⟨w.heap.size, q, none⟩ (.int .u8 48)) w.heap.size 5 (ints .u8 zs) := hrS
                have hbZ : Below w.heap.size w (wr.setCell ⟨w.heap.size, q, none⟩ (.int .u8 48)) := hbS
                have hcv := run_convert_bytes_arg (P := Ycgm.prog) (wr.setCell ⟨w.heap.size, q, none⟩ (.int .u8 48)) 22 5 Ycgm.underlying22 Ycgm.underlying5 w.heap.size 0 bs.length bs.length zs hzl (fun i hi => by rw [Nat.zero_add]; exact hrZ.int (by rw [hzl]; exact hi)) 9 Ycgm.underlying9
                have HV : Hid (parseV (strL (strOfNums zs)) = (val zs, (bs.length : Int), true)) := hid (by rw [parseV_yes HDD.out (by rw [hzl]; omega), hzl])
                have HDZ : Hid (Digs zs) := hid HDD.out
                have hsz : (strOfNums zs).size = bs.length := by rw [strOfNums_size]; exact hzl
                have hvb := val_bd HDD.out
                have hvt := val_bit HDD.out
                rw [hzl] at hvb hvt
                have HVT := hid hvt
                generalize strOfNums zs = s at hcv HV hsz
                generalize hval : val zs = X at HV hvb HVT
                have hpl := pow2_le bs.length (by omega)
                have hz0 : (X / 2 ^ bs.length == 0) = true := by simpa using Int.ediv_eq_zero_of_lt hvb.1 hvb.2
                have HSZ : Hid (s.size ≤ 9223372036854775807) := hid (by omega)
                have HZL := hid hzl
                clear hsz hzl hval hvt
                go_wp2_with (go_at_call 26; refine (parse_any s _ HSZ).mono ?_; rintro e w2 ⟨rfl, hb2⟩; rw [HV.out]; have hs2 := hb2.size; have hs1 := hbZ.size)
                have hr2 := (hrZ.below hb2 hrZ.lt).alloc (.cells #[.int .u32 X, .int .u8 (bs.length : Int)] 36)
                have hx2 := RowV.fresh w2 36 [.int .u32 X, .int .u8 (bs.length : Int)] _ rfl
                have hbf : Below w.heap.size w (w2.alloc (.cells #[.int .u32 X, .int .u8 (bs.length : Int)] 36)) := (hbZ.trans (hb2.mono hs1)).alloc (Nat.le_trans hs1 hs2) _
                generalize hw3 : w2.alloc (.cells #[.int .u32 X, .int .u8 (bs.length : Int)] 36) = w3 at hr2 hx2 hbf
                clear hw3
                go_loop [15] (fun i => ∃ (j : Nat), j ≤ bs.length ∧ i = .int .i64 j) (fun i => bs.length - (intOf i).toNat)
                case atStart => exact ⟨0, Nat.zero_le _, rfl⟩
                case round =>
                  obtain ⟨j, hj, rfl⟩ := hrel
                  have x0 : w3.cell? ⟨w2.heap.size, 0, none⟩ = some (.int .u32 X) := hx2.cell rfl
                  by_cases hjn : j < bs.length
                  · have hjn' : (j : Int) < (bs.length : Int) := by omega
                    have hjz : j < (zs).length := by rw [HZL.out]; exact hjn
                    have y0 : w3.cell? ⟨w.heap.size, j, none⟩ = some (.int .u8 ((zs)[j]?.getD 0)) := hr2.int hjz
                    have hdj := HDZ.out _ (List.getElem_mem hjz)
                    rw [← getD_get _ _ hjz] at hdj
                    have hvj := HVT.out j hjn
                    have hdb := div_pow_bd X (bs.length - 1 - j) hvb.1
                    have hA := and1_u32 (X / 2 ^ (bs.length - 1 - j)) hdb.1 (by omega)
                    generalize (zs)[j]?.getD 0 = y at y0 hdj hvj
                    rcases hdj with hdj | hdj
                    · subst hdj
                      rw [hvj] at hA
                      clear hvj
                      go_wp2
                      go_round
                      case rel => exact ⟨j + 1, by omega, by go_num⟩
                      case measure => simp [intOf]; omega
                    · subst hdj
                      rw [hvj] at hA
                      clear hvj
                      go_wp2
                      go_round
                      case rel => exact ⟨j + 1, by omega, by go_num⟩
                      case measure => simp [intOf]; omega
                  · have hjn' : ¬ (j : Int) < (bs.length : Int) := by omega
                    go_wp2
                    go_ret
                    exact ⟨rfl, hbf⟩
              · subst hd
                obtain rfl : ch = 2 := by omega
                clear hB
                have hzl : zs.length = bs.length := HLS.out
                have hrZ : RowV (wr.setCell ⟨w.heap.size, q, none⟩ (.int .u8 49)) w.heap.size 5 (ints .u8 zs) := hrS
                have hbZ : Below w.heap.size w (wr.setCell ⟨w.heap.size, q, none⟩ (.int .u8 49)) := hbS
                have hcv := run_convert_bytes_arg (P := Ycgm.prog) (wr.setCell ⟨w.heap.size, q, none⟩ (.int .u8 49)) 22 5 Ycgm.underlying22 Ycgm.underlying5 w.heap.size 0 bs.length bs.length zs hzl (fun i hi => by rw [Nat.zero_add]; exact hrZ.int (by rw [hzl]; exact hi)) 9 Ycgm.underlying9
                have HV : Hid (parseV (strL (strOfNums zs)) = (val zs, (bs.length : Int), true)) := hid (by rw [parseV_yes HDD.out (by rw [hzl]; omega), hzl])
                have HDZ : Hid (Digs zs) := hid HDD.out
                have hsz : (strOfNums zs).size = bs.length := by rw [strOfNums_size]; exact hzl
                have hvb := val_bd HDD.out
                have hvt := val_bit HDD.out
                rw [hzl] at hvb hvt
                have HVT := hid hvt
                generalize strOfNums zs = s at hcv HV hsz
                generalize hval : val zs = X at HV hvb HVT
                have hpl := pow2_le bs.length (by omega)
                have hz0 : (X / 2 ^ bs.length == 0) = true := by simpa using Int.ediv_eq_zero_of_lt hvb.1 hvb.2
                have HSZ : Hid (s.size ≤ 9223372036854775807) := hid (by omega)
                have HZL := hid hzl
                clear hsz hzl hval hvt
                go_wp2_with (go_at_call 26; refine (parse_any s _ HSZ).mono ?_; rintro e w2 ⟨rfl, hb2⟩; rw [HV.out]; have hs2 := hb2.size; have hs1 := hbZ.size)
                have hr2 := (hrZ.below hb2 hrZ.lt).alloc (.cells #[.int .u32 X, .int .u8 (bs.length : Int)] 36)
                have hx2 := RowV.fresh w2 36 [.int .u32 X, .int .u8 (bs.length : Int)] _ rfl
                have hbf : Below w.heap.size w (w2.alloc (.cells #[.int .u32 X, .int .u8 (bs.length : Int)] 36)) := (hbZ.trans (hb2.mono hs1)).alloc (Nat.le_trans hs1 hs2) _
                generalize hw3 : w2.alloc (.cells #[.int .u32 X, .int .u8 (bs.length : Int)] 36) = w3 at hr2 hx2 hbf
                clear hw3
                go_loop [15] (fun i => ∃ (j : Nat), j ≤ bs.length ∧ i = .int .i64 j) (fun i => bs.length - (intOf i).toNat)
                case atStart => exact ⟨0, Nat.zero_le _, rfl⟩
                case round =>
                  obtain ⟨j, hj, rfl⟩ := hrel
                  have x0 : w3.cell? ⟨w2.heap.size, 0, none⟩ = some (.int .u32 X) := hx2.cell rfl
                  by_cases hjn : j < bs.length
                  · have hjn' : (j : Int) < (bs.length : Int) := by omega
                    have hjz : j < (zs).length := by rw [HZL.out]; exact hjn
                    have y0 : w3.cell? ⟨w.heap.size, j, none⟩ = some (.int .u8 ((zs)[j]?.getD 0)) := hr2.int hjz
                    have hdj := HDZ.out _ (List.getElem_mem hjz)
                    rw [← getD_get _ _ hjz] at hdj
                    have hvj := HVT.out j hjn
                    have hdb := div_pow_bd X (bs.length - 1 - j) hvb.1
                    have hA := and1_u32 (X / 2 ^ (bs.length - 1 - j)) hdb.1 (by omega)
                    generalize (zs)[j]?.getD 0 = y at y0 hdj hvj
                    rcases hdj with hdj | hdj
                    · subst hdj
                      rw [hvj] at hA
                      clear hvj
                      go_wp2
                      go_round
                      case rel => exact ⟨j + 1, by omega, by go_num⟩
                      case measure => simp [intOf]; omega
                    · subst hdj
                      rw [hvj] at hA
                      clear hvj
                      go_wp2
                      go_round
                      case rel => exact ⟨j + 1, by omega, by go_num⟩
                      case measure => simp [intOf]; omega
                  · have hjn' : ¬ (j : Int) < (bs.length : Int) := by omega
                    go_wp2
                    go_ret
                    exact ⟨rfl, hbf⟩
          · have hd48 : ¬ B = 48 := by omega
            have hd49 : ¬ B = 49 := by omega
            have n48 : (B != 48) = true := by simpa using hd48
            have n49 : (B != 49) = true := by simpa using hd49
            by_cases h15 : 15 < bs.length
            · have h15' : ¬ (bs.length : Int) ≤ 15 := by omega
              have hzl : zs.length = bs.length := HLS.out
              have hcv := run_convert_bytes_arg (P := Ycgm.prog) (wr.setCell ⟨w.heap.size, q, none⟩ (.int .u8 B)) 22 5 Ycgm.underlying22 Ycgm.underlying5 w.heap.size 0 bs.length bs.length zs hzl (fun i hi => by rw [Nat.zero_add]; exact hrS.int (by rw [hzl]; exact hi)) 9 Ycgm.underlying9
              have HV : Hid (parseV (strL (strOfNums zs)) = (0, 0, false)) := hid (parseV_no HRGH.out (.inr (HDBH.out hd48 hd49)))
              have hsz : (strOfNums zs).size = bs.length := by rw [strOfNums_size]; exact hzl
              generalize strOfNums zs = s at hcv HV hsz
              have HSZ : Hid (s.size ≤ 9223372036854775807) := hid (by omega)
              clear hsz hzl
              go_wp2_with (go_at_call 26; refine (parse_any s _ HSZ).mono ?_; rintro e w2 ⟨rfl, hb2⟩; rw [HV.out])
              go_ret
              exact ⟨rfl, (hbS.trans (hb2.mono hbS.size)).alloc (Nat.le_trans hbS.size hb2.size) _⟩
            · have h15' : (bs.length : Int) ≤ 15 := by omega
              have hzl : zs.length = bs.length := HLS.out
              have hcv := run_convert_bytes_arg (P := Ycgm.prog) (wr.setCell ⟨w.heap.size, q, none⟩ (.int .u8 B)) 22 5 Ycgm.underlying22 Ycgm.underlying5 w.heap.size 0 bs.length bs.length zs hzl (fun i hi => by rw [Nat.zero_add]; exact hrS.int (by rw [hzl]; exact hi)) 9 Ycgm.underlying9
              have HV : Hid (parseV (strL (strOfNums zs)) = (0, 0, false)) := hid (parseV_no HRGH.out (.inr (HDBH.out hd48 hd49)))
              have hsz : (strOfNums zs).size = bs.length := by rw [strOfNums_size]; exact hzl
              generalize strOfNums zs = s at hcv HV hsz
              have HSZ : Hid (s.size ≤ 9223372036854775807) := hid (by omega)
              clear hsz hzl
              go_wp2_with (go_at_call 26; refine (parse_any s _ HSZ).mono ?_; rintro e w2 ⟨rfl, hb2⟩; rw [HV.out])
              go_ret
              exact ⟨rfl, (hbS.trans (hb2.mono hbS.size)).alloc (Nat.le_trans hbS.size hb2.size) _⟩
        · have hqlt' : ¬ (q : Int) < (bs.length : Int) := by omega
          by_cases h15 : 15 < bs.length
          · have h15' : ¬ (bs.length : Int) ≤ 15 := by omega
            have hzl : pre.length = bs.length := HLEN.out
            have hcv := run_convert_bytes_arg (P := Ycgm.prog) (wr) 22 5 Ycgm.underlying22 Ycgm.underlying5 w.heap.size 0 bs.length bs.length pre hzl (fun i hi => by rw [Nat.zero_add]; exact hrow.int (by rw [hzl]; exact hi)) 9 Ycgm.underlying9
            have HV : Hid (parseV (strL (strOfNums pre)) = (0, 0, false)) := hid (parseV_no HDG.out.range (.inl (by rw [HLEN.out]; exact h15)))
            have hsz : (strOfNums pre).size = bs.length := by rw [strOfNums_size]; exact hzl
            generalize strOfNums pre = s at hcv HV hsz
            have HSZ : Hid (s.size ≤ 9223372036854775807) := hid (by omega)
            clear hsz hzl
            go_wp2_with (go_at_call 26; refine (parse_any s _ HSZ).mono ?_; rintro e w2 ⟨rfl, hb2⟩; rw [HV.out])
            go_ret
            exact ⟨rfl, (hb.trans (hb2.mono hb.size)).alloc (Nat.le_trans hb.size hb2.size) _⟩
          · have h15' : (bs.length : Int) ≤ 15 := by omega
            have hzl : pre.length = bs.length := HLEN.out
            have hrZ : RowV (wr) w.heap.size 5 (ints .u8 pre) := hrow
            have hbZ : Below w.heap.size w (wr) := hb
            have hcv := run_convert_bytes_arg (P := Ycgm.prog) (wr) 22 5 Ycgm.underlying22 Ycgm.underlying5 w.heap.size 0 bs.length bs.length pre hzl (fun i hi => by rw [Nat.zero_add]; exact hrZ.int (by rw [hzl]; exact hi)) 9 Ycgm.underlying9
            have HV : Hid (parseV (strL (strOfNums pre)) = (val pre, (bs.length : Int), true)) := hid (by rw [parseV_yes HDG.out (by rw [hzl]; omega), hzl])
            have HDZ : Hid (Digs pre) := hid HDG.out
            have hsz : (strOfNums pre).size = bs.length := by rw [strOfNums_size]; exact hzl
            have hvb := val_bd HDG.out
            have hvt := val_bit HDG.out
            rw [hzl] at hvb hvt
            have HVT := hid hvt
            generalize strOfNums pre = s at hcv HV hsz
            generalize hval : val pre = X at HV hvb HVT
            have hpl := pow2_le bs.length (by omega)
            have hz0 : (X / 2 ^ bs.length == 0) = true := by simpa using Int.ediv_eq_zero_of_lt hvb.1 hvb.2
            have HSZ : Hid (s.size ≤ 9223372036854775807) := hid (by omega)
            have HZL := hid hzl
            clear hsz hzl hval hvt
            go_wp2_with (go_at_call 26; refine (parse_any s _ HSZ).mono ?_; rintro e w2 ⟨rfl, hb2⟩; rw [HV.out]; have hs2 := hb2.size; have hs1 := hbZ.size)
            have hr2 := (hrZ.below hb2 hrZ.lt).alloc (.cells #[.int .u32 X, .int .u8 (bs.length : Int)] 36)
            have hx2 := RowV.fresh w2 36 [.int .u32 X, .int .u8 (bs.length : Int)] _ rfl
            have hbf : Below w.heap.size w (w2.alloc (.cells #[.int .u32 X, .int .u8 (bs.length : Int)] 36)) := (hbZ.trans (hb2.mono hs1)).alloc (Nat.le_trans hs1 hs2) _
            generalize hw3 : w2.alloc (.cells #[.int .u32 X, .int .u8 (bs.length : Int)] 36) = w3 at hr2 hx2 hbf
            clear hw3
            go_loop [15] (fun i => ∃ (j : Nat), j ≤ bs.length ∧ i = .int .i64 j) (fun i => bs.length - (intOf i).toNat)
            case atStart => exact ⟨0, Nat.zero_le _, rfl⟩
            case round =>
              obtain ⟨j, hj, rfl⟩ := hrel
              have x0 : w3.cell? ⟨w2.heap.size, 0, none⟩ = some (.int .u32 X) := hx2.cell rfl
              by_cases hjn : j < bs.length
              · have hjn' : (j : Int) < (bs.length : Int) := by omega
                have hjz : j < (pre).length := by rw [HZL.out]; exact hjn
                have y0 : w3.cell? ⟨w.heap.size, j, none⟩ = some (.int .u8 ((pre)[j]?.getD 0)) := hr2.int hjz
                have hdj := HDZ.out _ (List.getElem_mem hjz)
                rw [← getD_get _ _ hjz] at hdj
                have hvj := HVT.out j hjn
                have hdb := div_pow_bd X (bs.length - 1 - j) hvb.1
                have hA := and1_u32 (X / 2 ^ (bs.length - 1 - j)) hdb.1 (by omega)
                generalize (pre)[j]?.getD 0 = y at y0 hdj hvj
                rcases hdj with hdj | hdj
                · subst hdj
                  rw [hvj] at hA
                  clear hvj
                  go_wp2
                  go_round
                  case rel => exact ⟨j + 1, by omega, by go_num⟩
                  case measure => simp [intOf]; omega
                · subst hdj
                  rw [hvj] at hA
                  clear hvj
                  go_wp2
                  go_round
                  case rel => exact ⟨j + 1, by omega, by go_num⟩
                  case measure => simp [intOf]; omega
              · have hjn' : ¬ (j : Int) < (bs.length : Int) := by omega
                go_wp2
                go_ret
                exact ⟨rfl, hbf⟩
end Go.Proofs.Ymbrcg
