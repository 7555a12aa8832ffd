/- huff.LawS930022CComplete, walked. -/
import Derived.Test.YmbrcfSlack
import Derived.Test.YmbrcfOwn
namespace Go.Proofs.Ymbrcf
open Go.RowKit
set_option linter.unusedVariables false
set_option linter.unusedSimpArgs false

/-- The leaf depths of a full tree. -/
def Full (xs : List Int) : Prop := (∀ x ∈ xs, 1 ≤ x ∧ x ≤ 15) ∧ ksum xs = 32768
theorem wt_half (d : Int) (h0 : 0 < d) (h1 : d < 15) : wt d = wt (d + 1) + wt (d + 1) := by
  rcases cases15 d h0 (by omega) with h | h | h | h | h | h | h | h | h | h | h | h | h | h | h <;> subst h <;> first | decide | omega
theorem Full.two : Full [1, 1] := ⟨by intro x hx; simp at hx; omega, by decide⟩
theorem Full.split {xs : List Int} (h : Full xs) (k : Nat) (hk : k < xs.length) (h15 : xs[k] < 15) : Full (xs.set k (xs[k] + 1) ++ [xs[k] + 1]) := by
  have hx := h.1 _ (List.getElem_mem hk)
  refine ⟨?_, ?_⟩
  · intro x hm
    rcases List.mem_append.1 hm with h' | h'
    · rcases List.mem_or_eq_of_mem_set h' with h2 | h2
      · exact h.1 x h2
      · omega
    · simp at h'; omega
  · rw [ksum_append, ksum_set _ _ _ hk, ksum_single, h.2, wt_half _ (by omega) h15]; omega
theorem Full.slack {xs : List Int} (h : Full xs) : slackV xs = (0, true) := by
  rw [slackV, if_pos ((fits_iff xs).2 ⟨fun x hx => (h.1 x hx).2, by rw [h.2]; decide⟩), h.2]; rfl
theorem Full.less {xs : List Int} (h : Full xs) (k : Nat) (hk : k < xs.length) : slackV (xs.set k 0) = (wt xs[k], true) := by
  have e : ksum (xs.set k 0) = 32768 - wt xs[k] := by rw [ksum_set _ _ _ hk, h.2, wt_zero 0 (by omega)]; omega
  have := wt_bd xs[k]
  rw [slackV, if_pos, e]
  · congr 1; omega
  · refine (fits_iff _).2 ⟨fun x hx => ?_, by rw [e]; omega⟩
    rcases List.mem_or_eq_of_mem_set hx with h2 | h2
    · exact (h.1 x h2).2
    · omega
theorem Full.over {xs : List Int} (h : Full xs) (y : Int) (h0 : 0 < y) (h1 : y ≤ 15) : slackV (xs ++ [y]) = (0, false) := by
  rw [slackV, if_neg]
  intro hf
  have := ((fits_iff _).1 hf).2
  rw [ksum_append, ksum_single, h.2] at this
  have := wt_ge1 y h0 h1
  omega
theorem Full.range {xs : List Int} (h : Full xs) : ∀ x ∈ xs, 0 ≤ x ∧ x ≤ 255 := fun x hx => by have := h.1 x hx; omega
theorem Full.range_set {xs : List Int} (h : Full xs) (k : Nat) : ∀ x ∈ xs.set k 0, 0 ≤ x ∧ x ≤ 255 := fun x hx => by
  rcases List.mem_or_eq_of_mem_set hx with h2 | h2
  · exact h.range x h2
  · omega
theorem set_back (xs : List Int) (k : Nat) (h : k < xs.length) : (xs.set k 0).set k xs[k] = xs := by
  rw [List.set_set, List.set_getElem_self]

set_option maxHeartbeats 1000000 in
theorem ccomplete_any (a : Option Addr) (c : Nat) (xs : List Int) (pick extra : Int) (w : World) (h : Sees .u8 w a xs) (hr : ∀ x ∈ xs, 0 ≤ x ∧ x ≤ 255) (hp : 0 ≤ pick ∧ pick ≤ 255) (he : 0 ≤ extra ∧ extra ≤ 255) :
    Calls Ycfm.prog 10 #[.slice a xs.length c, .int .u8 pick, .int .u8 extra] w fun e w' => e = .returned (.bool true) ∧ Below w.heap.size w w' := by
  obtain ⟨hm, hc⟩ := h
  have HC := hid hc
  have HR := hid hr
  clear hc hr
  by_cases hbig : 1024 < xs.length
  · have hbig' : (1024 : Int) < (xs.length : Int) := by omega
    go_enter Ycfm.func10, Ycfm.ntmps10
    go_wp2
    go_ret
    exact ⟨rfl, Below.refl _ _⟩
  · have hbig' : (xs.length : Int) ≤ 1024 := by omega
    go_enter Ycfm.func10, Ycfm.ntmps10
    go_wp2
    go_loopw [7, 8] (fun v i wr => ∃ (k g cap n : Nat) (ys : List Int), k ≤ xs.length ∧ i = .int .i64 k ∧ v = .slice (some ⟨g, 0, none⟩) n cap ∧ Hid (n = ys.length) ∧ 2 ≤ n ∧ n ≤ 2 + k ∧ OwnI wr w.heap.size g 5 .u8 cap ys ∧ Full ys ∧ Below w.heap.size w wr) (fun _ i _ => xs.length - (intOf i).toNat)
    case atStart =>
      refine ⟨0, w.heap.size, 2, 2, [1, 1], Nat.zero_le _, rfl, rfl, hid rfl, by omega, by omega, ?_, Full.two, (Below.refl _ _).alloc (Nat.le_refl _) _⟩
      exact OwnI.ofRow (RowV.fresh w 5 (ints .u8 [1, 1]) _ rfl) (Nat.le_refl _) (by simp)
    case round =>
      obtain ⟨k, g, cap, n, ys, hk, rfl, rfl, HN, hn2, hnk, hown, hfull, hb⟩ := hrel
      have hg := hown.at
      by_cases hlt : k < xs.length
      · obtain ⟨b, off, rfl, hbs, hcell⟩ := HC.out k hlt
        have hx := HR.out _ (List.getElem_mem hlt)
        have hcell2 : wr.cell? ⟨b, off + k, none⟩ = some (.int .u8 (xs[k]?.getD 0)) := (hb.cell hbs).trans hcell
        clear hcell
        obtain ⟨q, hq⟩ : ∃ q : Nat, (q : Int) = xs[k] % (n : Int) := ⟨(xs[k] % (n : Int)).toNat, by have := Int.emod_nonneg xs[k] (show (n : Int) ≠ 0 by omega); omega⟩
        have hqn : q < n := by have := Int.emod_lt_of_pos xs[k] (show (0 : Int) < n by omega); omega
        have hqy : q < ys.length := by rw [← HN.out]; exact hqn
        have hcq := hown.int hqy
        have hfz := hown.frozen q
        rw [getD_get _ _ hqy] at hcq
        have hd := hfull.1 _ (List.getElem_mem hqy)
        have hq' := hq.symm
        have FS := hid (hfull.split q hqy)
        have OS := hid (hown.set q (ys[q] + 1))
        generalize hdd : ys[q] = d at hcq hd FS OS
        clear hq hdd
        have hqq : xs[k] % (n : Int) < n := by omega
        by_cases h15 : d < 15
        · have F1 := hid (FS.out h15)
          have hln : (ys.set q (d + 1)).length = n := by rw [List.length_set, HN.out]
          have HLN := hid hln
          clear hln
          go_wp2_with (at_builtin; refine wpList_appendI _ rfl _ _ 33 rfl w.heap.size 5 .u8 1 Ycfm.underlying33 (by kernel_rfl) _ (ys.set q (d + 1)) (by rw [HLN.out]; rfl) (OS.out.alloc _) _ (d + 1) rfl (cell_fresh _ _ _ _ (by simp)) (by rw [HLN.out]; omega) (by rw [HLN.out]; omega) (by simp; have := hb.size; omega) ?_; intro g' cap' w1 hown1 hgr hg1; rw [HLN.out])
          go_roundw
          case rel =>
            refine ⟨k + 1, g', cap', n + 1, _, by omega, by go_num, rfl, hid ?_, by omega, by omega, hown1, F1.out, ?_⟩
            · rw [List.length_append, HLN.out]; rfl
            · refine ((hb.setCell hg.1 _).alloc (by simp; have := hb.size; omega) _).grown hgr (by simp; have := hb.size; omega) ?_
              intro j hj; simp [Value.ownBlock] at hj; omega
          case measure => simp [intOf]; omega
        · go_wp2
          go_roundw
          case rel => exact ⟨k + 1, g, cap, n, ys, by omega, by go_num, rfl, HN, by omega, by omega, hown, hfull, hb⟩
          case measure => simp [intOf]; omega
      · have HS := hid (hown.sees (by rw [← HN.out]; omega))
        obtain ⟨q, hq⟩ : ∃ q : Nat, (q : Int) = pick % (n : Int) := ⟨(pick % (n : Int)).toNat, by have := Int.emod_nonneg pick (show (n : Int) ≠ 0 by omega); omega⟩
        have hqn : q < n := by have := Int.emod_lt_of_pos pick (show (0 : Int) < n by omega); omega
        have hqy : q < ys.length := by rw [← HN.out]; exact hqn
        have hcq := hown.int hqy
        have hfz := hown.frozen q
        rw [getD_get _ _ hqy] at hcq
        have hd := hfull.1 _ (List.getElem_mem hqy)
        have hq' := hq.symm
        have OS := hid (hown.set q 0)
        have SL := hid (hfull.less q hqy)
        have SB := hid (set_back ys q hqy)
        have SW := hid (wt_shl ys[q] (by omega) hd.2)
        have hwb := wt_bd ys[q]
        have OB : Hid (OwnI ((wr.setCell ⟨g, q, none⟩ (.int .u8 0)).setCell ⟨g, q, none⟩ (.int .u8 ys[q])) w.heap.size g 5 .u8 cap ys) := by
          have := OS.out.set q ys[q]; rw [SB.out] at this; exact this
        generalize hdd : ys[q] = d at hcq hd SL SB SW OB hwb
        have hqq : pick % (n : Int) < n := by omega
        clear hq hdd
        have hl0 : (ys.set q 0).length = n := by rw [List.length_set, HN.out]
        have HL0 := hid hl0
        have HS0 := hid (OS.out.sees (by rw [HL0.out]; omega))
        have HN' := hid HN.out.symm
        clear hl0
        have he1 : 1 + extra % 15 ≤ 15 ∧ 1 ≤ 1 + extra % 15 := by omega
        have HO := hid (hfull.over (1 + extra % 15) (by omega) (by omega))
        have hy2 : ∀ x ∈ ys ++ [1 + extra % 15], 0 ≤ x ∧ x ≤ 255 := by
          intro x hx
          rcases List.mem_append.1 hx with h' | h'
          · exact hfull.range x h'
          · simp at h'; omega
        have HY2 := hid hy2
        clear hy2
        have hln : (ys ++ [1 + extra % 15]).length = n + 1 := by rw [List.length_append, ← HN.out]; rfl
        have HLN := hid hln
        clear hln
        go_wp2_with fail
        refine (slack_n _ _ n ys _ HN HS hfull.range 0 true hfull.slack).mono ?_
        rintro e w' ⟨rfl, rfl⟩
        go_wp2_with fail
        refine (slack_n _ _ n (ys.set q 0) _ HL0.out.symm HS0 (hfull.range_set q) (wt d) true SL).mono ?_
        rintro e w2 ⟨rfl, hw2⟩
        subst hw2
        have hsw : wrap64 (2 ^ (15 - d).toNat) = wt d := by rw [← SW.out]; exact IntWalk.wrap64_in _ ⟨by omega, by omega⟩
        go_wp2_with (at_builtin; refine wpList_appendI _ rfl _ _ 33 rfl w.heap.size 5 .u8 1 Ycfm.underlying33 (by kernel_rfl) _ ys (by rw [HN'.out]; rfl) (OB.out.alloc _) _ (1 + extra % 15) rfl (cell_fresh _ _ _ _ (by simp)) (by rw [HN'.out]; omega) (by rw [HN'.out]; omega) (by simp; have := hb.size; omega) ?_; intro g' cap' w1 hown1 hgr hg1; rw [HN'.out])
        refine (slack_n _ _ (n + 1) (ys ++ [1 + extra % 15]) _ HLN.out.symm (hown1.sees (by rw [HLN.out]; omega)) HY2 0 false HO).mono ?_
        rintro e w3 ⟨rfl, hw3⟩
        subst hw3
        go_wp2
        go_ret
        refine ⟨rfl, ?_⟩
        refine (((hb.setCell hg.1 _).setCell hg.1 _).alloc (by simp; have := hb.size; omega) _).grown hgr (by simp; have := hb.size; omega) ?_
        intro j hj; simp [Value.ownBlock] at hj; omega
end Go.Proofs.Ymbrcf
