/- huff.Assign, walked. -/
import Derived.Test.YmbrcgSlack
import Derived.Test.YmbrcgCount
import Derived.Test.YmbrcgFirst
namespace Go.Proofs.Ymbrcg
open Go.RowKit
set_option linter.unusedVariables false
set_option linter.unusedSimpArgs false

/-- The cells of a row of codes. -/
def flat : List (Int × Int) → List Value
  | [] => []
  | c :: cs => .int .u32 c.1 :: .int .u8 c.2 :: flat cs
theorem flat_length : ∀ cs : List (Int × Int), (flat cs).length = cs.length * 2
  | [] => rfl
  | c :: cs => by simp [flat, flat_length cs]; omega
theorem flat_append : ∀ cs ds : List (Int × Int), flat (cs ++ ds) = flat cs ++ flat ds
  | [], ds => rfl
  | c :: cs, ds => by simp [flat, flat_append cs ds]
theorem flat_get0 : ∀ (cs : List (Int × Int)) (k : Nat) (h : k < cs.length), (flat cs)[k * 2]? = some (.int .u32 cs[k].1)
  | c :: cs, 0, _ => rfl
  | c :: cs, k + 1, h => by
    rw [show (k + 1) * 2 = k * 2 + 1 + 1 from by omega, flat, List.getElem?_cons_succ, List.getElem?_cons_succ]
    simpa using flat_get0 cs k (by simpa using h)
theorem flat_get1 : ∀ (cs : List (Int × Int)) (k : Nat) (h : k < cs.length), (flat cs)[k * 2 + 1]? = some (.int .u8 cs[k].2)
  | c :: cs, 0, _ => rfl
  | c :: cs, k + 1, h => by
    rw [show (k + 1) * 2 + 1 = k * 2 + 1 + 1 + 1 from by omega, flat, List.getElem?_cons_succ, List.getElem?_cons_succ]
    simpa using flat_get1 cs k (by simpa using h)
theorem flat_set : ∀ (cs : List (Int × Int)) (k : Nat) (c : Int × Int), k < cs.length → ((flat cs).set (k * 2) (.int .u32 c.1)).set (k * 2 + 1) (.int .u8 c.2) = flat (cs.set k c)
  | d :: cs, 0, c, _ => by simp [flat]
  | d :: cs, k + 1, c, h => by
    rw [show (k + 1) * 2 = k * 2 + 1 + 1 from by omega, flat, List.set_cons_succ, List.set_cons_succ, List.set_cons_succ, List.set_cons_succ, flat_set cs k c (by simpa using h)]
    rfl
theorem flat_rep (n : Nat) : (madeCells (Value.agg #[.int .u32 0, .int .u8 0]).cells (n * 2)).toList = flat (List.replicate n (0, 0)) := by
  apply List.ext_getElem?
  intro i
  by_cases h : i < n * 2
  · have hm : i % 2 = 0 ∨ i % 2 = 1 := by omega
    rcases hm with hm | hm
    · obtain ⟨k, rfl⟩ : ∃ k, i = k * 2 := ⟨i / 2, by omega⟩
      rw [flat_get0 _ k (by simp; omega)]
      simp [madeCells, Value.cells, h, hm]
    · obtain ⟨k, rfl⟩ : ∃ k, i = k * 2 + 1 := ⟨i / 2, by omega⟩
      rw [flat_get1 _ k (by simp; omega)]
      simp [madeCells, Value.cells, h, hm]
  · rw [List.getElem?_eq_none (by simp [madeCells]; omega), List.getElem?_eq_none (by rw [flat_length]; simp; omega)]
theorem buildC_set (pre : List (Int × Int)) (n k : Nat) (v : Int × Int) (h : pre.length = k) (hk : k < n) : (pre ++ List.replicate (n - k) (0, 0)).set k v = (pre ++ [v]) ++ List.replicate (n - (k + 1)) (0, 0) := by
  rw [List.set_append_right _ _ (by omega), show n - k = (n - (k + 1)) + 1 from by omega, List.replicate_succ, h, Nat.sub_self, List.set_cons_zero, List.append_assoc]
  rfl
theorem buildC_skip (pre : List (Int × Int)) (n k : Nat) (hk : k < n) : pre ++ List.replicate (n - k) (0, 0) = (pre ++ [((0 : Int), (0 : Int))]) ++ List.replicate (n - (k + 1)) (0, 0) := by
  rw [show n - k = (n - (k + 1)) + 1 from by omega, List.replicate_succ, List.append_assoc]; rfl

/-- What the loop of Assign does. -/
def asgGo (nx : List Int) : List Int → List (Int × Int)
  | [] => []
  | x :: xs => if 0 < x then (nx[x.toNat]?.getD 0, x) :: asgGo (nx.set x.toNat ((nx[x.toNat]?.getD 0 + 1) % 4294967296)) xs else (0, 0) :: asgGo nx xs
def assignV (xs : List Int) : List (Int × Int) := asgGo (firsts (cntFrom cnt0 xs)) xs
theorem asgGo_length : ∀ (xs nx : List Int), (asgGo nx xs).length = xs.length
  | [], nx => rfl
  | x :: xs, nx => by rw [asgGo]; split <;> simp [asgGo_length xs]
theorem asgGo_drop (nx xs : List Int) (k : Nat) (h : k < xs.length) : asgGo nx (xs.drop k) = if 0 < xs[k] then (nx[xs[k].toNat]?.getD 0, xs[k]) :: asgGo (nx.set xs[k].toNat ((nx[xs[k].toNat]?.getD 0 + 1) % 4294967296)) (xs.drop (k + 1)) else (0, 0) :: asgGo nx (xs.drop (k + 1)) := by
  rw [List.drop_eq_getElem_cons h, asgGo]

set_option maxHeartbeats 400000 in
theorem assign_no (a : Option Addr) (c n : Nat) (xs : List Int) (w : World) (hn : n = xs.length) (h : Sees .u8 w a xs) (hr : ∀ x ∈ xs, 0 ≤ x ∧ x ≤ 255) (hf : fits xs = false) :
    Calls Ycgm.prog 27 #[.slice a n c] w fun e w' => e = .returned (.tuple #[.slice none 0 0, .bool false]) ∧ w' = w := by
  have HV : Hid (slackV xs = (0, false)) := hid (by rw [slackV, hf]; rfl)
  have HR := hid hr
  have HS := hid h
  have HN := hid hn
  clear h hr hn hf
  go_enter Ycgm.func27, Ycgm.ntmps27
  go_wp2_with (go_at_call 32; refine (slack_n a c n xs _ HN HS HR 0 false HV).mono ?_; rintro e w1 ⟨rfl, rfl⟩)
  go_ret2
  exact ⟨rfl, rfl⟩

set_option maxHeartbeats 800000 in
theorem assign_yes (a : Option Addr) (c n : Nat) (xs : List Int) (w : World) (hn : n = xs.length) (h : Sees .u8 w a xs) (hr : ∀ x ∈ xs, 0 ≤ x ∧ x ≤ 255) (hf : fits xs = true) (hm : xs.length ≤ 100000) :
    Calls Ycgm.prog 27 #[.slice a n c] w fun e w' => ∃ g, e = .returned (.tuple #[.slice (some ⟨g, 0, none⟩) n n, .bool true]) ∧ w.heap.size ≤ g ∧ RowV w' g 36 (flat (assignV xs)) ∧ Below w.heap.size w w' := by
  subst hn
  have HV : Hid (slackV xs = (32768 - ksum xs, true)) := hid (by rw [slackV, hf]; rfl)
  have HR15 := hid ((fits_iff xs).1 hf).1
  have HR := hid hr
  have HS := hid h
  have HCL : Hid ((cntFrom cnt0 xs).length = 16) := cntFrom_length xs cnt0
  have HFL := hid (firsts_length (cntFrom cnt0 xs))
  have HAV : Hid (assignV xs = asgGo (firsts (cntFrom cnt0 xs)) xs) := hid rfl
  generalize hcn : cntFrom cnt0 xs = cn at HCL HFL HAV
  have HCN := hid hcn
  clear hcn h hr hf
  go_enter Ycgm.func27, Ycgm.ntmps27
  go_wp2_with (first
    | (go_at_call 32; refine (slack_n a c _ xs _ rfl HS HR _ true HV).mono ?_; rintro e w1 ⟨rfl, hw1⟩; replace hw1 := hw1.symm; subst hw1)
    | (go_at_call 28; refine (count_any a c xs _ HS HR).mono ?_; rintro e w2 ⟨rfl, hb2⟩; rw [HCN.out])
    | (go_at_call 20; refine (first_any cn _ HCL).mono ?_; rintro e w3 ⟨rfl, hb3⟩)
    | (refine wpList_storeRow rfl 29 _ _ rfl _ (ints .u32 (firsts cn)) rfl rfl _ (ints .u32 (List.replicate 16 0)) (RowV.fresh _ _ (ints .u32 (List.replicate 16 0)) _ rfl) (by simp only [List.length_map, HFL.out]; kernel_rfl) (by simp [HFL.out]) (ints_one _ _) ?_; intro w4 hr4 hg4)
    | (at_make; refine wpList_makeRow _ rfl _ _ 26 rfl 36 (.agg #[.int .u32 0, .int .u8 0]) 2 8 Ycgm.underlying26 (by kernel_rfl) _ _ _ _ xs.length rfl rfl rfl rfl (by omega) (by unfold maxLen; omega) ?_; intro w5 hrow5 hg5; rw [flat_rep] at hrow5))
  have hs2 := hb2.size
  have hs3 := hb3.size
  have hs4 := hg4.size
  have hs5 := hg5.size
  simp only [World.size_alloc] at hs4
  have hb4 : Below w.heap.size w w4 := ((hb2.trans (hb3.mono hs2)).alloc (by omega) _).grown hg4 (by simp; omega) (by intro k h; cases h; omega)
  have hb5 : Below w.heap.size w w5 := hb4.grown hg5 (by omega) (by simp)
  have hr5 := hr4.grown hg5 (by simp)
  clear hg4 hg5 hb2 hb3 hr4 hb4
  go_loopw [25] (fun i wr => ∃ (k : Nat) (nx : List Int) (pre : List (Int × Int)), k ≤ xs.length ∧ i = .int .i64 k ∧ Hid (nx.length = 16) ∧ Hid (∀ j : Nat, 0 ≤ nx[j]?.getD 0 ∧ nx[j]?.getD 0 < 4294967296) ∧ Hid (pre.length = k) ∧ Hid (pre ++ asgGo nx (xs.drop k) = assignV xs) ∧ RowV wr w3.heap.size 29 (ints .u32 nx) ∧ RowV wr w4.heap.size 36 (flat (pre ++ List.replicate (xs.length - k) (0, 0))) ∧ Below w.heap.size w wr) (fun i _ => xs.length - (intOf i).toNat)
  case atStart =>
    refine ⟨0, firsts cn, [], Nat.zero_le _, rfl, HFL, hid ?_, hid rfl, hid (by rw [HAV.out]; rfl), hr5, hrow5, hb5⟩
    intro j
    by_cases hj : j < 16
    · rw [firsts_get _ _ hj]; exact fcv_bd _ _
    · rw [List.getElem?_eq_none (by rw [HFL.out]; omega)]; simp
  case round =>
    obtain ⟨k, nx, pre, hk, rfl, HNL, HNB, HPL, HPA, hrn, hrc, hb⟩ := hrel
    by_cases hlt : k < xs.length
    · obtain ⟨b, off, rfl, hbs, hcell⟩ := HS.out.2 k hlt
      have hx := HR.out _ (List.getElem_mem hlt)
      have hx15 := HR15.out _ (List.getElem_mem hlt)
      have hcell2 : wr.cell? ⟨b, off + k, none⟩ = some (.int .u8 (xs[k]?.getD 0)) := (hb.cell hbs).trans hcell
      have HD := hid (asgGo_drop nx xs k hlt)
      rw [getD_get _ _ hlt] at hcell2
      generalize hX : xs[k] = X at HD hx hx15 hcell2
      clear hcell hX
      by_cases h0 : 0 < X
      · have hxn : X.toNat < 16 := by omega
        have cn0 : wr.cell? ⟨w3.heap.size, X.toNat, none⟩ = some (.int .u32 (nx[X.toNat]?.getD 0)) := hrn.int (by rw [HNL.out]; exact hxn)
        have fn0 := hrn.frozen X.toNat
        have hnb := HNB.out X.toNat
        have hkl : k < (pre ++ List.replicate (xs.length - k) ((0 : Int), (0 : Int))).length := by rw [List.length_append, HPL.out, List.length_replicate]; omega
        have cc0 := hrc.cell (flat_get0 _ k hkl)
        have cc1 := hrc.cell (flat_get1 _ k hkl)
        have fc0 := hrc.frozen (k * 2)
        have fc1 := hrc.frozen (k * 2 + 1)
        generalize ((pre ++ List.replicate (xs.length - k) ((0 : Int), (0 : Int)))[k]).1 = o0 at cc0
        generalize ((pre ++ List.replicate (xs.length - k) ((0 : Int), (0 : Int)))[k]).2 = o1 at cc1
        have hne : w3.heap.size ≠ w4.heap.size := by omega
        rw [if_pos h0] at HD
        generalize nx[X.toNat]?.getD 0 = V at HD cn0 hnb
        obtain ⟨m, hm'⟩ : ∃ m : Nat, X = (m : Int) := ⟨X.toNat, by omega⟩
        subst hm'
        rw [Int.toNat_natCast] at HD cn0 fn0 hxn
        have hNB2 : Hid (∀ j : Nat, 0 ≤ (nx.set m ((V + 1) % 4294967296))[j]?.getD 0 ∧ (nx.set m ((V + 1) % 4294967296))[j]?.getD 0 < 4294967296) := by
          refine hid ?_
          intro j
          by_cases e : m = j
          · subst e
            rw [List.getElem?_set_self (by rw [HNL.out]; exact hxn)]
            simp only [Option.getD_some]
            omega
          · rw [List.getElem?_set_ne e]; exact HNB.out j
        have HFS := hid (flat_set _ k (V, (m : Int)) hkl)
        rw [buildC_set pre _ k _ HPL hlt] at HFS
        have HPA2 : Hid ((pre ++ [(V, (m : Int))]) ++ asgGo (nx.set m ((V + 1) % 4294967296)) (xs.drop (k + 1)) = assignV xs) := by
          refine hid ?_
          rw [← HPA.out, HD.out, List.append_assoc]; rfl
        clear hkl
        go_wp2
        go_roundw
        case rel =>
          refine ⟨k + 1, _, _, by omega, by go_num, hid ?_, hNB2, hid ?_, HPA2, ?_, ?_, ?_⟩
          · rw [List.length_set]; exact HNL.out
          · rw [List.length_append, HPL.out]; rfl
          · exact ((hrn.other _ _ (by simp; omega)).other _ _ (by simp; omega)).setInt m _
          · rw [← HFS.out]
            exact ((hrc.set (k * 2) _).set (k * 2 + 1) _).other _ _ (by simp; omega)
          · exact ((hb.setCell (by simp; omega) _).setCell (by simp; omega) _).setCell (by simp; omega) _
        case measure => simp [intOf]; omega
      · rw [if_neg h0] at HD
        go_wp2
        go_roundw
        case rel =>
          refine ⟨k + 1, nx, pre ++ [(0, 0)], by omega, by go_num, HNL, HNB, hid ?_, hid ?_, hrn, ?_, hb⟩
          · rw [List.length_append, HPL.out]; rfl
          · rw [← HPA.out, HD.out, List.append_assoc]; rfl
          · rw [← buildC_skip _ _ _ hlt]; exact hrc
        case measure => simp [intOf]; omega
    · have HF : Hid (pre ++ List.replicate (xs.length - k) ((0 : Int), (0 : Int)) = assignV xs) := by
        refine hid ?_
        rw [← HPA.out, List.drop_of_length_le (by omega), show xs.length - k = 0 from by omega]; rfl
      go_wp2
      go_ret2
      exact ⟨_, rfl, by omega, by rw [← HF.out]; exact hrc, hb⟩
end Go.Proofs.Ymbrcg
