/- huff.SortSymbols, walked. -/
import Derived.Test.YmbrcgCanon
namespace Go.Proofs.Ymbrcg
open Go.RowKit
set_option linter.unusedVariables false
set_option linter.unusedSimpArgs false

/-- How many symbols come before symbol i, of length x. -/
def rankI (xs : List Int) (x : Int) (i : Nat) : Nat := bsN xs x + (xs.take i).count x
/-- The order of a table: symbol i stands at its rank. -/
def Ordered (xs ord : List Int) : Prop := ord.length = bsN xs 16 ∧ ∀ i (h : i < xs.length), 0 < xs[i] → ord[rankI xs xs[i] i]? = some (i : Int)
theorem rank_lt (xs : List Int) (h : Lens xs) (i : Nat) (hi : i < xs.length) (h0 : 0 < xs[i]) : rankI xs xs[i] i < bsN xs 16 := by
  have hx := h _ (List.getElem_mem hi)
  have c := count_take_lt xs i hi
  have m := bsN_mono' xs (xs[i] + 1) 16 (by omega) (by omega)
  rw [bsN_succ _ h0] at m
  unfold rankI
  omega
theorem rank_ne (xs : List Int) (h : Lens xs) (i j : Nat) (hi : i < xs.length) (hj : j < xs.length) (h0 : 0 < xs[i]) (h1 : 0 < xs[j]) (hij : i < j) : rankI xs xs[i] i ≠ rankI xs xs[j] j := by
  have ci := count_take_lt xs i hi
  have cj := count_take_lt xs j hj
  unfold rankI
  rcases Int.lt_trichotomy xs[i] xs[j] with hlt | heq | hgt
  · have m := bsN_mono' xs (xs[i] + 1) xs[j] (by omega) (by omega)
    rw [bsN_succ _ h0] at m
    omega
  · have c := count_take_step xs i j hi hij
    rw [← heq]
    omega
  · have m := bsN_mono' xs (xs[j] + 1) xs[i] (by omega) (by omega)
    rw [bsN_succ _ h1] at m
    omega

set_option maxRecDepth 8000 in
set_option maxHeartbeats 1000000 in
theorem sort_any (a : Option Addr) (c n : Nat) (xs : List Int) (w : World) (hn : n = xs.length) (h : Sees .u8 w a xs) (hl : Lens xs) (hm : xs.length ≤ 100000) :
    Calls Ycgm.prog 29 #[.slice a n c] w fun e w' => ∃ g m ord, e = .returned (.slice (some ⟨g, 0, none⟩) m m) ∧ w.heap.size ≤ g ∧ m = ord.length ∧ Ordered xs ord ∧ RowV w' g 3 (ints .i64 ord) ∧ Below w.heap.size w w' := by
  subst hn
  have HL := hid hl
  have HR := hid hl.range
  have HS := hid h
  have HCL : Hid ((cntFrom cnt0 xs).length = 16) := cntFrom_length xs cnt0
  have HCG : Hid (∀ j : Nat, j < 16 → (cntFrom cnt0 xs)[j]?.getD 0 = (xs.count (j : Int) : Nat)) := hid (fun j hj => cnt_get xs hl.range j hj)
  generalize hcn : cntFrom cnt0 xs = cn at HCL HCG
  have HCN := hid hcn
  clear hcn h hl
  go_enter Ycgm.func29, Ycgm.ntmps29
  go_wp2_with (first
    | (go_at_call 28; refine (count_any a c xs _ HS HR).mono ?_; rintro e w1 ⟨rfl, hb1⟩; rw [HCN.out])
    | (refine wpList_storeRow rfl 27 _ _ rfl _ (ints .i64 cn) rfl rfl _ (ints .i64 cnt0) (RowV.fresh _ _ (ints .i64 cnt0) _ rfl) (by simp only [List.length_map, HCL.out]; kernel_rfl) (by simp [HCL.out, cnt0]) (ints_one _ _) ?_; intro w2 hr2 hg2))
  have hs1 := hb1.size
  have hs2 := hg2.size
  simp only [World.size_alloc] at hs2
  have hb2 : Below w.heap.size w w2 := (hb1.alloc hs1 _).grown hg2 (by simp; omega) (by intro k h; cases h; omega)
  clear hg2 hb1
  go_loopw [5, 6] (fun t i wr => ∃ (l : Nat) (pl : List Int), 1 ≤ l ∧ l ≤ 16 ∧ i = .int .i64 l ∧ t = .int .i64 (bsN xs l : Nat) ∧ Hid (pl.length = 16) ∧ Hid (∀ j : Nat, 1 ≤ j → j < l → pl[j]?.getD 0 = (bsN xs (j : Int) : Nat)) ∧ RowV wr w1.heap.size 27 (ints .i64 cn) ∧ RowV wr w2.heap.size 27 (ints .i64 pl) ∧ Below w.heap.size w wr) (fun _ i _ => 16 - (intOf i).toNat)
  case atStart =>
    refine ⟨1, cnt0, by omega, by omega, rfl, ?_, hid rfl, hid (by intro j h1 h2; omega), hr2.alloc _, RowV.fresh _ _ (ints .i64 cnt0) _ rfl, hb2.alloc (by omega) _⟩
    rw [show ((1 : Nat) : Int) = 1 from rfl, bsN_one]; rfl
  case round =>
    obtain ⟨l, pl, hl1, hl16, rfl, rfl, HPL, HPG, hrc, hrp, hb⟩ := hrel
    have hbn : bsN xs (l : Int) ≤ xs.length := List.length_filter_le _ _
    by_cases hlt : l < 16
    · have hlt' : (l : Int) ≤ 15 := by omega
      have cc : wr.cell? ⟨w1.heap.size, l, none⟩ = some (.int .i64 (cn[l]?.getD 0)) := hrc.int (by rw [HCL.out]; exact hlt)
      rw [HCG.out l hlt] at cc
      have cp := hrp.int (i := l) (by rw [HPL.out]; exact hlt)
      have fp := hrp.frozen l
      generalize pl[l]?.getD 0 = oldv at cp
      have HBS := hid (bsN_succ (l : Int) (by omega) xs)
      have hcl : xs.count (l : Int) ≤ xs.length := List.count_le_length ..
      have hne : w1.heap.size ≠ w2.heap.size := by omega
      have HP2 : Hid (∀ j : Nat, 1 ≤ j → j < l + 1 → (pl.set l ((bsN xs (l : Int) : Nat) : Int))[j]?.getD 0 = (bsN xs (j : Int) : Nat)) := by
        refine hid ?_
        intro j h1 h2
        by_cases e : l = j
        · subst e; rw [List.getElem?_set_self (by rw [HPL.out]; exact hlt)]; rfl
        · rw [List.getElem?_set_ne e]; exact HPG.out j h1 (by omega)
      go_wp2
      go_roundw
      case rel =>
        refine ⟨l + 1, _, by omega, by omega, by go_num, ?_, hid (by rw [List.length_set]; exact HPL.out), HP2, hrc.other _ _ (by simp; omega), hrp.setInt l _, hb.setCell (by simp; omega) _⟩
        rw [show ((l + 1 : Nat) : Int) = (l : Int) + 1 from by omega, HBS.out]; simp
      case measure => simp [intOf]; omega
    · have hl : l = 16 := by omega
      subst hl
      have hws := hb.size
      have hpl2 := hrp.lt
      generalize hT : bsN xs ((16 : Nat) : Int) = T at hbn
      have HT := hid hT
      clear hT
      go_wp2_with (at_make; refine wpList_makeRow _ rfl _ _ 25 rfl 3 (.int .i64 0) 1 8 Ycgm.underlying25 (by kernel_rfl) _ _ _ _ T rfl rfl rfl rfl (by omega) (by unfold maxLen; omega) ?_; intro w3 hrow3 hg3; rw [made_int] at hrow3)
      have hp3 := hrp.grown hg3 (by simp)
      have hb3 : Below w.heap.size w w3 := hb.grown hg3 hws (by simp)
      obtain ⟨G, hG⟩ : ∃ G, wr.heap.size = G := ⟨_, rfl⟩
      have hGw : w2.heap.size < G ∧ w.heap.size ≤ G := by omega
      rw [hG] at hrow3 ⊢
      clear hg3 hrp hb hrc hG hws hpl2
      go_loopw [28] (fun i wq => ∃ (k : Nat) (pl2 ord : List Int), k ≤ xs.length ∧ i = .int .i64 k ∧ Hid (pl2.length = 16) ∧ Hid (∀ j : Nat, 1 ≤ j → j < 16 → pl2[j]?.getD 0 = ((bsN xs (j : Int) + (xs.take k).count (j : Int) : Nat) : Int)) ∧ Hid (ord.length = T) ∧ Hid (∀ i (h : i < xs.length), i < k → 0 < xs[i] → ord[rankI xs xs[i] i]? = some (i : Int)) ∧ RowV wq w2.heap.size 27 (ints .i64 pl2) ∧ RowV wq G 3 (ints .i64 ord) ∧ Below w.heap.size w wq) (fun i _ => xs.length - (intOf i).toNat)
      case atStart =>
        refine ⟨0, pl, List.replicate T 0, Nat.zero_le _, rfl, HPL, hid ?_, hid (by simp), hid (by intro i h h1; omega), hp3, hrow3, hb3⟩
        intro j h1 h2
        rw [HPG.out j h1 h2]; simp
      case round =>
        clear hp3 hrow3 hb3
        obtain ⟨k, pl2, ord, hk, rfl, HPL2, HPG2, HOL, HOR, hrp, hro, hb⟩ := hrel
        by_cases hlt2 : k < xs.length
        · obtain ⟨b, off, rfl, hbs, hcell⟩ := HS.out.2 k hlt2
          have hcell2 : wr.cell? ⟨b, off + k, none⟩ = some (.int .u8 (xs[k]?.getD 0)) := (hb.cell hbs).trans hcell
          rw [getD_get _ _ hlt2] at hcell2
          have hx := HL.out _ (List.getElem_mem hlt2)
          have hrk : 0 < xs[k] → rankI xs xs[k] k < T := fun h0 => by rw [← HT.out]; exact rank_lt xs HL k hlt2 h0
          have HSK : Hid (∀ j : Nat, ((xs.take (k + 1)).count (j : Int) : Nat) = (xs.take k).count (j : Int) + if xs[k] = (j : Int) then 1 else 0) := hid (fun j => by
            rw [List.take_succ_eq_append_getElem hlt2, List.count_append, List.count_singleton]; simp)
          have HNE : Hid (∀ i (h : i < xs.length), i < k → 0 < xs[i] → 0 < xs[k] → rankI xs xs[i] i ≠ rankI xs xs[k] k) := hid (fun i h h1 h2 h3 => rank_ne xs HL i k h hlt2 h2 h3 h1)
          obtain ⟨m, hm'⟩ : ∃ m : Nat, xs[k] = (m : Int) := ⟨xs[k].toNat, by omega⟩
          have HX := hid hm'
          rw [hm'] at hcell2 hx hrk HSK HNE
          clear hcell hm'
          by_cases h0 : 0 < (m : Int)
          · have hm16 : m < 16 := by omega
            have hrk' := hrk h0
            have cp : wr.cell? ⟨w2.heap.size, m, none⟩ = some (.int .i64 (pl2[m]?.getD 0)) := hrp.int (by rw [HPL2.out]; exact hm16)
            rw [HPG2.out m (by omega) hm16] at cp
            have hrr : bsN xs (m : Int) + (xs.take k).count (m : Int) = rankI xs (m : Int) k := rfl
            rw [hrr] at cp
            have fp := hrp.frozen m
            have HPM : Hid (pl2[m]?.getD 0 = ((rankI xs (m : Int) k : Nat) : Int)) := hid (HPG2.out m (by omega) hm16)
            generalize hrki : rankI xs (m : Int) k = r at cp hrk' HPM HNE
            have HRK := hid hrki
            have co := hro.int (i := r) (by rw [HOL.out]; exact hrk')
            have fo := hro.frozen r
            generalize ord[r]?.getD 0 = oldo at co
            have hne : w2.heap.size ≠ G := by omega
            have hr' : (r : Int) < (T : Int) := by omega
            clear hrki hrr hrk
            go_wp2
            go_roundw
            case rel =>
              refine ⟨k + 1, _, _, by omega, by go_num, hid (by rw [List.length_set]; exact HPL2.out), hid ?_, hid (by rw [List.length_set]; exact HOL.out), hid ?_, (hrp.other _ _ (by simp; omega)).setInt m _, (hro.setInt r _).other _ _ (by simp; omega), (hb.setCell (by simp; omega) _).setCell (by simp; omega) _⟩
              · intro j h1 h2
                by_cases e : m = j
                · subst e
                  rw [List.getElem?_set_self (by rw [HPL2.out]; exact hm16), HSK.out m, if_pos rfl]
                  have := HRK.out
                  unfold rankI at this
                  simp only [Option.getD_some]
                  omega
                · rw [List.getElem?_set_ne e, HPG2.out j h1 h2, HSK.out j, if_neg (by omega)]; simp
              · intro i h h1 h2
                by_cases e : i = k
                · subst e
                  rw [show rankI xs xs[i] i = r from by rw [HX.out]; exact HRK.out, List.getElem?_set_self (by rw [HOL.out]; exact hrk')]
                · have hik : i < k := by omega
                  rw [List.getElem?_set_ne (HNE.out i h hik h2 h0).symm]
                  exact HOR.out i h hik h2
            case measure => simp [intOf]; omega
          · have hm0 : m = 0 := by omega
            subst hm0
            clear hrk HNE
            go_wp2
            go_roundw
            case rel =>
              refine ⟨k + 1, pl2, ord, by omega, by go_num, HPL2, hid ?_, HOL, hid ?_, hrp, hro, hb⟩
              · intro j h1 h2
                rw [HPG2.out j h1 h2, HSK.out j, if_neg (by omega)]; simp
              · intro i h h1 h2
                by_cases e : i = k
                · subst e; have := HX.out; omega
                · exact HOR.out i h (by omega) h2
            case measure => simp [intOf]; omega
        · go_wp2
          go_ret
          refine ⟨G, T, ord, rfl, hGw.2, HOL.out.symm, ⟨by rw [HOL.out, ← HT.out]; rfl, fun i h h2 => HOR.out i h (by omega) h2⟩, hro, hb⟩
end Go.Proofs.Ymbrcg
