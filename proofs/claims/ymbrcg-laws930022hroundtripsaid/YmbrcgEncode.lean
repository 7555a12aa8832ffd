/- (huff.Table).Encode, walked. -/
import Derived.Test.YmbrcgEnc
namespace Go.Proofs.Ymbrcg
open Go.RowKit
set_option linter.unusedVariables false
set_option linter.unusedSimpArgs false
/-- Nil exactly if there is nothing in it. -/
def NilIff (v : Value) (ds : List Int) : Prop := (v = .slice none 0 0 ∧ ds = []) ∨ ds ≠ []
theorem NilIff.step {w : World} {base gb N N' : Nat} {v v' : Value} {ds ds' : List Int} {w' : World} (h : NilIff v ds) (h0 : BitsV w base gb v ds N) (h1 : BitsV w' base gb v' ds' N') (hn : N ≤ N') (hv : v' = v ∨ ds' ≠ []) : NilIff v' ds' := by
  rcases hv with rfl | hv
  · rcases h with ⟨h, rfl⟩ | h
    · by_cases e : ds' = []
      · exact .inl ⟨h, e⟩
      · exact .inr e
    · refine .inr ?_
      have l0 := h0.2.2.2.2
      have l1 := h1.2.2.2.2
      have : 0 < ds.length := List.length_pos_iff.2 h
      intro e
      rw [e] at l1
      simp at l1
      omega
  · exact .inr hv
theorem NilIff.own {w : World} {base gb N : Nat} {v : Value} {ds : List Int} (h : NilIff v ds) (h0 : BitsV w base gb v ds N) : OwnN w base 5 .u8 v ds := by
  rcases h with ⟨rfl, rfl⟩ | h
  · exact .inl ⟨rfl, rfl⟩
  · obtain ⟨g, cap, e, ho⟩ := owns_form h0.2.1 (List.length_pos_iff.2 h)
    exact .inr ⟨g, cap, e, h, ho⟩
theorem BitsV.below {w w' : World} {base gb N : Nat} {v : Value} {ds : List Int} (h : BitsV w base gb v ds N) (hb : Below w.heap.size w w') : BitsV w' base gb v ds N :=
  ⟨h.1.below hb h.1.lt, World.ownsRow.kept h.2.1 (grown_of_below hb) (by cases v.ownBlock <;> simp), h.2.2.1, h.2.2.2.1, h.2.2.2.2⟩
def AllGood (cds : List (Int × Int)) (ss : List Int) : Prop := ∀ s ∈ ss, Good cds s
theorem OwnN.other {w : World} {base : Nat} {e : TypeId} {k : IntKind} {v : Value} {xs : List Int} (h : OwnN w base e k v xs) (a : Addr) (u : Value) (hne : a.block < base) : OwnN (w.setCell a u) base e k v xs := by
  rcases h with ⟨rfl, rfl⟩ | ⟨g, cap, rfl, h0, h⟩
  · exact .inl ⟨rfl, rfl⟩
  · exact .inr ⟨g, cap, rfl, h0, h.other a u (by have := h.at.1; omega)⟩
set_option maxRecDepth 8000 in
set_option maxHeartbeats 2000000 in
theorem encode_any (cds : List (Int × Int)) (T : List Value) (gc cc : Nat) (aS : Option Addr) (ns cs : Nat) (ss : List Int) (w : World)
    (hT : T[0]? = some (.slice (some ⟨gc, 0, none⟩) cds.length cc)) (hrc : RowV w gc 36 (flat cds)) (hcr : ∀ c ∈ cds, (0 ≤ c.1 ∧ c.1 < 4294967296) ∧ 0 ≤ c.2 ∧ c.2 ≤ 255) (hcl : cds.length ≤ 100000)
    (hns : ns = ss.length) (hs : Sees .i64 w aS ss) (hsl : ss.length ≤ 1024) :
    Calls Ycgm.prog 23 #[.agg T.toArray, .slice aS ns cs] w fun e w' =>
      ((AllGood cds ss ∧ ∃ v ds, e = .returned (.tuple #[.agg #[v, .int .i64 ((encB cds ss).length : Nat)], .bool true]) ∧ OwnN w' w.heap.size 5 .u8 v ds ∧ Holds ds (encB cds ss) ∧ (∀ x ∈ ds, 0 ≤ x ∧ x ≤ 255)) ∨
       ((¬ AllGood cds ss) ∧ e = .returned (.tuple #[.agg #[.slice none 0 0, .int .i64 0], .bool false]))) ∧ Below w.heap.size w w' := by
  subst hns
  have HT := hid hT
  have HRC := hid hrc
  have HCR := hid hcr
  have HS := hid hs
  have hgc := hrc.lt
  clear hT hrc hcr hs
  go_enter Ycgm.func23, Ycgm.ntmps23
  go_wp2
  go_loopw [11] (fun iv wr => ∃ (k : Nat) (v : Value) (ds : List Int), k ≤ ss.length ∧ iv = .int .i64 k ∧ Hid (BitsV wr (w.heap.size + 3) (w.heap.size + 2) v ds (encB cds (ss.take k)).length) ∧ Hid (Holds ds (encB cds (ss.take k))) ∧ Hid (NilIff v ds) ∧ Hid (AllGood cds (ss.take k)) ∧ RowV wr w.heap.size 31 T ∧ RowV wr (w.heap.size + 1) 41 [.slice none 0 0, .int .i64 0] ∧ Below w.heap.size w wr) (fun iv _ => ss.length - (intOf iv).toNat)
  case atStart =>
    refine ⟨0, .slice none 0 0, [], Nat.zero_le _, rfl, hid ⟨?_, (OwnN.nil _ _ _ _).owns, by simp [Value.ownBlock], by simp, by simp [encB]⟩, hid ⟨by simp [encB], fun j => by rw [bitD_past _ _ (by simp)]; simp [encB]⟩, hid (.inl ⟨rfl, rfl⟩), hid (fun s hs => by simp at hs), ?_, ?_, ?_⟩
    · exact RowV.fresh _ _ [.slice none 0 0, .int .i64 0] _ (by simp)
    · exact ((RowV.fresh w _ T _ rfl).alloc _).alloc _
    · exact (RowV.fresh _ _ [.slice none 0 0, .int .i64 0] _ (by simp)).alloc _
    · exact (((Below.refl _ _).alloc (Nat.le_refl _) _).alloc (by simp) _).alloc (by simp; omega) _
  case round =>
    obtain ⟨k, v, ds, hk, rfl, HBV, HH, HNI, HGD, hrt, hr4, hb⟩ := hrel
    have hws := hb.size
    have t0 := hrt.cell HT.out
    have hbl : w.heap.size + 2 < wr.heap.size := HBV.out.1.lt
    have HR4 := hid hr4
    by_cases hlt : k < ss.length
    · have hlt' : (k : Int) < (ss.length : Int) := by omega
      obtain ⟨b, off, rfl, hbs, hcell⟩ := HS.out.2 k hlt
      replace hcell := (hb.cell hbs).trans hcell
      rw [getD_get _ _ hlt] at hcell
      have HTK : Hid (ss.take (k + 1) = ss.take k ++ [ss[k]]) := hid (List.take_succ_eq_append_getElem hlt)
      have HBAD : Hid (¬ Good cds ss[k] → ¬ AllGood cds ss) := hid (fun h h' => h (h' _ (List.getElem_mem hlt)))
      have HGN : Hid (Good cds ss[k] → AllGood cds (ss.take (k + 1))) := hid (fun h s hs => by
        rw [HTK.out] at hs
        rcases List.mem_append.1 hs with h' | h'
        · exact HGD.out s h'
        · rw [List.mem_singleton] at h'; rw [h']; exact h)
      have HEN : Hid (encB cds (ss.take (k + 1)) = encB cds (ss.take k) ++ symC cds ss[k]) := hid (by rw [HTK.out, encB_snoc])
      have hel := encB_le cds (ss.take k)
      have htl : (ss.take k).length ≤ 1024 := by rw [List.length_take]; omega
      generalize ss[k] = s at hcell HTK HBAD HGN HEN
      have f0 := hr4.frozen 0
      have f1 := hr4.frozen 1
      have r0 := hr4.cell (i := 0) rfl
      have r1 := hr4.cell (i := 1) rfl
      by_cases hs0 : s < 0
      · have HNG := hid (HBAD.out (fun h => by have := h.1; omega))
        go_wp2
        refine ret_row_tmp (by exact Ycgm.results23) _ _ [.slice none 0 0, .int .i64 0] _ rfl ((HR4.out.set 0 (.slice none 0 0)).set 1 (.int .i64 0)) Ycgm.underlying41 rfl (by kernel_rfl) rfl ⟨.inr ⟨HNG.out, rfl⟩, (hb.setCell (by simp) _).setCell (by simp) _⟩
      · obtain ⟨n, rfl⟩ : ∃ n : Nat, s = (n : Int) := ⟨s.toNat, by omega⟩
        by_cases hn : n < cds.length
        · have hn' : ¬ (cds.length : Int) ≤ (n : Int) := by omega
          have c0 : wr.cell? ⟨gc, n * 2, none⟩ = some (.int .u32 cds[n].1) := (HRC.out.below hb hgc).cell (flat_get0 cds n hn)
          have c1 : wr.cell? ⟨gc, n * 2 + 1, none⟩ = some (.int .u8 cds[n].2) := (HRC.out.below hb hgc).cell (flat_get1 cds n hn)
          have hcr := HCR.out _ (List.getElem_mem hn)
          have HGI : Hid (Good cds (n : Int) ↔ cds[n].2 ≠ 0) := hid (by
            unfold Good
            rw [Int.toNat_natCast, List.getElem?_eq_getElem hn, Option.getD_some]
            exact ⟨fun h => h.2.2, fun h => ⟨by omega, by omega, h⟩⟩)
          have HSY : Hid (symC cds (n : Int) = bitsOf cds[n]) := hid (by
            unfold symC
            rw [if_pos (by omega), Int.toNat_natCast, List.getElem?_eq_getElem hn, Option.getD_some])
          generalize cds[n] = c at c0 c1 hcr HGI HSY
          obtain ⟨B, L⟩ := c
          simp only at c0 c1 hcr HGI
          obtain ⟨l, rfl⟩ : ∃ l : Nat, L = (l : Int) := ⟨L.toNat, by omega⟩
          by_cases hl0 : l = 0
          · have HNG := hid (HBAD.out (fun h => HGI.out.1 h (by omega)))
            subst hl0
            go_wp2
            refine ret_row_tmp (by exact Ycgm.results23) _ _ [.slice none 0 0, .int .i64 0] _ rfl ((HR4.out.set 0 (.slice none 0 0)).set 1 (.int .i64 0)) Ycgm.underlying41 rfl (by kernel_rfl) rfl ⟨.inr ⟨HNG.out, rfl⟩, (hb.setCell (by simp) _).setCell (by simp) _⟩
          · have hl0' : ((l : Int) == 0) = false := by simp; omega
            have HG2 := hid (HGN.out (HGI.out.2 (by omega)))
            by_cases hl15 : 15 < l
            · have HE2 : Hid (encB cds (ss.take (k + 1)) = encB cds (ss.take k)) := hid (by rw [HEN.out, HSY.out, bitsOf, if_pos (by simp; omega), List.append_nil])
              go_wp2_with (go_at_call 31; refine (append_long _ _ _ _ _ _ HBV.out.1 (by omega)).mono ?_; rintro e w2 ⟨rfl, hb2⟩)
              go_roundw
              case rel => exact ⟨k + 1, v, ds, by omega, by go_num, hid (by rw [HE2.out]; exact HBV.out.below hb2), hid (by rw [HE2.out]; exact HH.out), HNI, HG2, hrt.below hb2 hrt.lt, HR4.out.below hb2 HR4.out.lt, hb.trans (hb2.mono hws)⟩
              case measure => simp [intOf]; omega
            · have HE2 : Hid (encB cds (ss.take (k + 1)) = encB cds (ss.take k) ++ bitsOf (B, (l : Int))) := hid (by rw [HEN.out, HSY.out])
              have HEL : Hid ((encB cds (ss.take (k + 1))).length = (encB cds (ss.take k)).length + l) := hid (by rw [HE2.out, List.length_append, bitsOf_length _ (by simp; omega), Int.toNat_natCast])
              go_wp2_with (go_at_call 31; refine (append_yes (w.heap.size + 3) (w.heap.size + 2) v ds _ B l _ HBV.out hcr.1 (by omega) (by omega) (by omega) (w.heap.size + 2) (by omega) (by omega)).mono ?_; rintro e w2 ⟨rfl, v', ds', hbv, hbits, hnv, hb2⟩)
              have HB2 := hid hb2
              have HBI := hid hbits
              have HBV2 := hid hbv
              have HNV := hid hnv
              clear hb2 hbits hbv hnv
              go_roundw
              case rel =>
                refine ⟨k + 1, v', ds', by omega, by go_num, hid (by rw [HEL.out]; exact HBV2.out), hid ?_, hid (HNI.out.step HBV.out HBV2.out (by omega) HNV.out), HG2, hrt.below HB2.out (by omega), HR4.out.below HB2.out (by omega), hb.trans (HB2.out.mono (by omega))⟩
                rw [HE2.out]
                exact holds_step ds ds' _ (B, (l : Int)) (by simp; omega) HH.out HBV2.out.2.2.2.2 HBI.out
              case measure => simp [intOf]; omega
        · have hn' : (cds.length : Int) ≤ (n : Int) := by omega
          have HNG := hid (HBAD.out (fun h => by have := h.2.1; omega))
          go_wp2
          refine ret_row_tmp (by exact Ycgm.results23) _ _ [.slice none 0 0, .int .i64 0] _ rfl ((HR4.out.set 0 (.slice none 0 0)).set 1 (.int .i64 0)) Ycgm.underlying41 rfl (by kernel_rfl) rfl ⟨.inr ⟨HNG.out, rfl⟩, (hb.setCell (by simp) _).setCell (by simp) _⟩
    · have hlt' : ¬ (k : Int) < (ss.length : Int) := by omega
      have HTA : Hid (ss.take k = ss) := hid (List.take_of_length_le (by omega))
      obtain ⟨av, cv, rfl⟩ := owns_lenform HBV.out.2.1
      have q0 := HBV.out.1.cell (i := 0) rfl
      have q1 := HBV.out.1.cell (i := 1) rfl
      have f0 := hr4.frozen 0
      have f1 := hr4.frozen 1
      have r0 := hr4.cell (i := 0) rfl
      have r1 := hr4.cell (i := 1) rfl
      rw [HTA.out] at HBV HH HGD q1
      have HOW := hid (HNI.out.own HBV.out)
      have HOB := hid (owns_lt HOW.out)
      go_wp2
      refine ret_row_tmp (by exact Ycgm.results23) _ _ [.slice av ds.length cv, .int .i64 ((encB cds ss).length : Nat)] _ rfl ((HR4.out.set 0 (.slice av ds.length cv)).set 1 (.int .i64 ((encB cds ss).length : Nat))) Ycgm.underlying41 rfl (by kernel_rfl) rfl ⟨.inl ⟨HGD.out, _, rfl, ds, ?_, HH.out, HBV.out.2.2.2.1⟩, (hb.setCell (by simp) _).setCell (by simp) _⟩
      refine OwnN.rebase ?_ (show w.heap.size ≤ w.heap.size + 3 by omega)
      exact (HOW.out.other _ _ (by simp)).other _ _ (by simp)
theorem encode_yes (cds : List (Int × Int)) (T : List Value) (gc cc : Nat) (aS : Option Addr) (ns cs : Nat) (ss : List Int) (w : World)
    (hT : T[0]? = some (.slice (some ⟨gc, 0, none⟩) cds.length cc)) (hrc : RowV w gc 36 (flat cds)) (hcr : ∀ c ∈ cds, (0 ≤ c.1 ∧ c.1 < 4294967296) ∧ 0 ≤ c.2 ∧ c.2 ≤ 255) (hcl : cds.length ≤ 100000)
    (hns : ns = ss.length) (hs : Sees .i64 w aS ss) (hsl : ss.length ≤ 1024) (hg : AllGood cds ss) :
    Calls Ycgm.prog 23 #[.agg T.toArray, .slice aS ns cs] w fun e w' => ∃ (av : Option Addr) (cv : Nat) (ds : List Int), e = .returned (.tuple #[.agg #[.slice av ds.length cv, .int .i64 ((encB cds ss).length : Nat)], .bool true]) ∧ Sees .u8 w' av ds ∧ (av = none ↔ ds = []) ∧ Holds ds (encB cds ss) ∧ (∀ x ∈ ds, 0 ≤ x ∧ x ≤ 255) ∧ Below w.heap.size w w' := by
  refine (encode_any cds T gc cc aS ns cs ss w hT hrc hcr hcl hns hs hsl).mono ?_
  rintro e w' ⟨⟨_, v, ds, he, ho, hh, hr⟩ | ⟨hn, _⟩, hb⟩
  · have hl := encB_le cds ss
    obtain ⟨av, cv, rfl, hse, hni⟩ := ho.form (by rw [hh.1]; omega)
    exact ⟨av, cv, ds, he, hse, hni, hh, hr, hb⟩
  · exact absurd hg hn
theorem encode_no (cds : List (Int × Int)) (T : List Value) (gc cc : Nat) (aS : Option Addr) (ns cs : Nat) (ss : List Int) (w : World)
    (hT : T[0]? = some (.slice (some ⟨gc, 0, none⟩) cds.length cc)) (hrc : RowV w gc 36 (flat cds)) (hcr : ∀ c ∈ cds, (0 ≤ c.1 ∧ c.1 < 4294967296) ∧ 0 ≤ c.2 ∧ c.2 ≤ 255) (hcl : cds.length ≤ 100000)
    (hns : ns = ss.length) (hs : Sees .i64 w aS ss) (hsl : ss.length ≤ 1024) (hg : ¬ AllGood cds ss) :
    Calls Ycgm.prog 23 #[.agg T.toArray, .slice aS ns cs] w fun e w' => e = .returned (.tuple #[.agg #[.slice none 0 0, .int .i64 0], .bool false]) ∧ Below w.heap.size w w' := by
  refine (encode_any cds T gc cc aS ns cs ss w hT hrc hcr hcl hns hs hsl).mono ?_
  rintro e w' ⟨⟨hy, _⟩ | ⟨_, he⟩, hb⟩
  · exact absurd hy hg
  · exact ⟨he, hb⟩
end Go.Proofs.Ymbrcg
