/- huff.NewTable, walked. -/
import Derived.Test.YmbrcgSort
import Derived.Test.YmbrcgAssign
import Derived.Deep.RegionHeld3
import Derived.Deep.MidRow
import Derived.Laws.Tables
namespace Go.Proofs.Ymbrcg
open Go.RowKit
set_option linter.unusedVariables false
set_option linter.unusedSimpArgs false

/-- The 34 cells of a Table. -/
def tabCells (vc : Value) (cn fs : List Int) (vo : Value) : List Value := vc :: (ints .i64 cn ++ (ints .u32 fs ++ [vo]))
theorem list16 {xs : List Int} (h : xs.length = 16) : ∃ a b c d e f g h i j k l m n o p, xs = [a, b, c, d, e, f, g, h, i, j, k, l, m, n, o, p] := by
  rcases xs with _ | ⟨a, _ | ⟨b, _ | ⟨c, _ | ⟨d, _ | ⟨e, _ | ⟨f, _ | ⟨g, _ | ⟨h', _ | ⟨i, _ | ⟨j, _ | ⟨k, _ | ⟨l, _ | ⟨m, _ | ⟨n, _ | ⟨o, _ | ⟨p, _ | ⟨q, xs⟩⟩⟩⟩⟩⟩⟩⟩⟩⟩⟩⟩⟩⟩⟩⟩⟩ <;> simp at h
  exact ⟨a, b, c, d, e, f, g, h', i, j, k, l, m, n, o, p, rfl⟩
theorem tabCells_length (vc vo : Value) (cn fs : List Int) (h1 : cn.length = 16) (h2 : fs.length = 16) : (tabCells vc cn fs vo).length = 34 := by
  simp [tabCells, h1, h2]
theorem tab_one (a b : Option Addr) (n c m d : Nat) (cn fs : List Int) : (tabCells (.slice a n c) cn fs (.slice b m d)).toArray.all (·.oneCell') = true := by
  rw [Array.all_eq_true_iff_forall_mem]
  intro v hv
  simp [tabCells] at hv
  rcases hv with rfl | ⟨_, _, rfl⟩ | ⟨_, _, rfl⟩ | rfl <;> rfl
theorem tab_built (a b : Option Addr) (n c m d : Nat) (cn fs : List Int) (h1 : cn.length = 16) (h2 : fs.length = 16) :
    Ycgm.prog.built 31 [(0, .slice a n c), (1, .agg (ints .i64 cn).toArray), (2, .agg (ints .u32 fs).toArray), (3, .slice b m d)] = some (tabCells (.slice a n c) cn fs (.slice b m d)).toArray := by
  obtain ⟨_, _, _, _, _, _, _, _, _, _, _, _, _, _, _, _, rfl⟩ := list16 h1
  obtain ⟨_, _, _, _, _, _, _, _, _, _, _, _, _, _, _, _, rfl⟩ := list16 h2
  kernel_rfl
theorem wpList_buildTo {P : Program} {ops : Array Oper} {rest : List Oper} {o : Oper} {a : Act} {w : World} {Q : Exit → Act → World → Prop} (hg : o.guard = none) (t : TypeId) (parts : Array (Nat × Operand)) (ho : o.op = .build t parts)
    (vs : List Value) (hb : P.built t (parts.map fun (i, x) => (i, a.eval x)).toList = some vs.toArray) (h : wpList P ops Q rest (a.put o.dst (.agg vs.toArray)) w) : wpList P ops Q (o :: rest) a w :=
  wpList_build hg t parts ho (by rw [hb]; rfl) (by rw [hb]; exact h)
theorem yieldsIf_build {P : Program} {ops : Array Oper} {S : World → Prop} {o : Oper} {a : Act} (hw : Region.wanted o (yielded ops a.tmps) = true) (t : TypeId) (parts : Array (Nat × Operand)) (ho : o.op = .build t parts)
    (vs : List Value) (hb : P.built t (parts.map fun (i, x) => (i, a.eval x)).toList = some vs.toArray) : YieldsIf P ops S o (.agg vs.toArray) a :=
  Or.inl ⟨hw, fun w _ => by unfold execOp; simp only [ho, Sem.run_bind, run_build w t _ _ hb, Result.andThen_ok]; rfl⟩
theorem RowV.range {w : World} {g : Nat} {e : TypeId} {vs : List Value} (h : RowV w g e vs) : w.rangeAt g 0 vs := fun j v hv => by rw [Nat.zero_add]; exact h.cell hv

set_option maxHeartbeats 800000 in
theorem newtable_yes (a : Option Addr) (c n : Nat) (xs : List Int) (w : World) (hn : n = xs.length) (h : Sees .u8 w a xs) (hr : ∀ x ∈ xs, 0 ≤ x ∧ x ≤ 255) (hf : fits xs = true) (hm : xs.length ≤ 100000) :
    Calls Ycgm.prog 16 #[.slice a n c] w fun e w' => ∃ gc go m ord, e = .returned (.tuple #[.agg (tabCells (.slice (some ⟨gc, 0, none⟩) n n) (cntFrom cnt0 xs) (firsts (cntFrom cnt0 xs)) (.slice (some ⟨go, 0, none⟩) m m)).toArray, .bool true]) ∧
      w.heap.size ≤ gc ∧ w.heap.size ≤ go ∧ m = ord.length ∧ Ordered xs ord ∧ RowV w' gc 36 (flat (assignV xs)) ∧ RowV w' go 3 (ints .i64 ord) ∧ Below w.heap.size w w' := by
  subst hn
  have HR := hid hr
  have HF := hid hf
  have HS := hid h
  have HL := hid (lens_of hr hf)
  have HM := hid hm
  have HCL : Hid ((cntFrom cnt0 xs).length = 16) := cntFrom_length xs cnt0
  have HFL := hid (firsts_length (cntFrom cnt0 xs))
  have HA := hid (rfl : assignV xs = assignV xs)
  generalize hcn : cntFrom cnt0 xs = cn at HCL HFL ⊢
  have HCN := hid hcn
  clear hcn h hr hf hm
  go_enter Ycgm.func16, Ycgm.ntmps16
  go_wp2_with (first
    | (go_at_call 27; refine (assign_yes a c _ xs _ rfl (HS.out.alloc _) HR HF HM).mono ?_; rintro e w1 ⟨gc, rfl, hgc, hrc, hb1⟩)
    | (go_at_call 28; refine (count_any a c xs _ ((HS.out.alloc _).below hb1 (Nat.le_refl _)) HR).mono ?_; rintro e w2 ⟨rfl, hb2⟩; rw [HCN.out])
    | (refine wpList_storeRow rfl 27 _ _ rfl _ (ints .i64 cn) rfl rfl _ (ints .i64 (List.replicate 16 0)) (RowV.fresh _ _ (ints .i64 (List.replicate 16 0)) _ rfl) (by simp only [List.length_map, HCL.out]; kernel_rfl) (by simp [HCL.out]) (ints_one _ _) ?_; intro w4 hr4 hg4))
  have hs1 := hb1.size
  have hs2 := hb2.size
  have hs4 := hg4.size
  simp only [World.size_alloc] at hs1 hs4 hgc
  have HB1 : Hid (Below w.heap.size w w1) := hid (((Below.refl _ _).alloc (Nat.le_refl _) _).trans (hb1.mono (by simp)))
  have HB4 : Hid (Below w.heap.size w w4) := hid (((HB1.out.trans (hb2.mono (by omega))).alloc (by omega) _).grown hg4 (by simp; omega) (by intro k h; cases h; omega))
  have HB14 : Hid (Below w1.heap.size w1 w4) := hid ((hb2.alloc hs2 _).grown hg4 (by simp; omega) (by intro k h; cases h; omega))
  obtain ⟨old, HT, HOL⟩ : ∃ old : List Value, Hid (RowV w4 w.heap.size 31 old) ∧ Hid (old.length = 34) :=
    ⟨_, hid ((((RowV.fresh w _ _ _ rfl).below hb1 (by simp)).below HB14.out (by omega))), hid rfl⟩
  have HRC : Hid (RowV w4 gc 36 (flat (assignV xs))) := hid (hrc.below HB14.out hrc.lt)
  have HS4 : Hid (Sees .u8 w4 a xs) := hid (HS.out.below HB4.out (Nat.le_refl _))
  have hgc4 := HRC.out.lt
  clear hb1 hb2 hg4 HB1 HB14 hrc HA HS
  refine wp_region_held_drew (S := fun w' => RowV w' w2.heap.size 27 (ints .i64 cn)) (by kernel_rfl) hr4.drew (fun hH => ?_)
  refine wpAnyH_take (i := 0) (v := .slice (some ⟨gc, 0, none⟩) xs.length xs.length) rfl (by kernel_rfl) (by kernel_rfl) (by kernel_rfl) (fun _ _ _ h => h) (Or.inl ⟨by rfl, fun w _ => by rfl⟩) hH ?_
  simp only [Act.put, List.setIfInBounds_toArray, List.set_cons_zero, List.set_cons_succ]
  refine wpAnyH_take (i := 4) (v := .slice a xs.length c) rfl (by kernel_rfl) (by kernel_rfl) (by kernel_rfl) (fun _ _ _ h => h) (Or.inl ⟨by rfl, fun w _ => by rfl⟩) hH ?_
  simp only [Act.put, List.setIfInBounds_toArray, List.set_cons_zero, List.set_cons_succ]
  refine wpAnyH_take (i := 1) (v := .agg (ints .i64 cn).toArray) rfl (by kernel_rfl) (by kernel_rfl) (by kernel_rfl) (fun _ _ _ h => h) (yieldsIf_load_mid (by rfl) _ _ rfl _ _ rfl _ _ (fun w h => h.range) Ycgm.underlying27 rfl (by simp only [List.length_map, HCL.out]; kernel_rfl)) hH ?_
  simp only [Act.put, List.setIfInBounds_toArray, List.set_cons_zero, List.set_cons_succ]
  refine wpAnyH_take (i := 2) (v := .agg (ints .i64 cn).toArray) rfl (by kernel_rfl) (by kernel_rfl) (by kernel_rfl) (fun _ _ _ h => h) (yieldsIf_load_mid (by rfl) _ _ rfl _ _ rfl _ _ (fun w h => h.range) Ycgm.underlying27 rfl (by simp only [List.length_map, HCL.out]; kernel_rfl)) hH ?_
  simp only [Act.put, List.setIfInBounds_toArray, List.set_cons_zero, List.set_cons_succ]
  refine wpAnyH_ready (rs := [3]) (by kernel_rfl) (by simp) (AllReadyH.cons rfl (fun K hK => ?_) AllReadyH.nil)
  rw [if_pos (by rfl)]
  go_simp
  refine (first_any cn _ HCL).mono ?_
  rintro e w5 ⟨rfl, hb5⟩
  have HB5 : Hid (Below w4.heap.size w4 w5) := hid ⟨hb5.os, hb5.tape, hb5.output, hb5.size, hb5.block⟩
  clear hb5
  refine hK.out _ _ (hr4.below HB5.out hr4.lt) (fun hH2 => ?_)
  clear hK K hH
  refine wpAnyH_ready (rs := [5]) (by kernel_rfl) (by simp) (AllReadyH.cons rfl (fun K hK => ?_) AllReadyH.nil)
  rw [if_pos (by rfl)]
  go_simp
  have hs5 := HB5.out.size
  refine (sort_any a c _ xs _ rfl (HS4.out.below HB5.out (Nat.le_refl _)) HL HM).mono ?_
  rintro e w6 ⟨go, m, ord, rfl, hgo, hm, hord, hro, hb6⟩
  have hs6 := hb6.size
  refine hK.out _ _ (hH2.below hb6 hH2.lt) (fun hH3 => ?_)
  clear hK K
  refine wpAnyH_take (i := 6) (oi := { dst := some 23, op := .build 31 #[(0, .tmp 17), (1, .tmp 18), (2, .tmp 20), (3, .tmp 22)], type := 31, pos := "huff.go:130", after := #[⟨0, .data⟩, ⟨1, .data⟩, ⟨3, .data⟩, ⟨5, .data⟩], guard := none }) (v := .agg (tabCells (.slice (some ⟨gc, 0, none⟩) xs.length xs.length) cn (firsts cn) (.slice (some ⟨go, 0, none⟩) m m)).toArray) rfl (by kernel_rfl) (by kernel_rfl) (by kernel_rfl) (fun _ _ _ h => h) ?_ hH3 ?_
  · refine yieldsIf_build (by rfl) 31 #[(0, .tmp 17), (1, .tmp 18), (2, .tmp 20), (3, .tmp 22)] rfl _ ?_
    simp only [List.map_toArray, List.map_cons, List.map_nil]
    exact tab_built (some ⟨gc, 0, none⟩) (some ⟨go, 0, none⟩) xs.length xs.length m m cn (firsts cn) HCL HFL
  simp only [Act.put, List.setIfInBounds_toArray, List.set_cons_zero, List.set_cons_succ]
  have HT6 : Hid (RowV w6 w.heap.size 31 old) := hid ((HT.out.below HB5.out (by have := HB4.out.size; omega)).below hb6 (by have := HB4.out.size; omega))
  refine wpAnyH_ready (rs := [7]) (by kernel_rfl) (by simp) (AllReadyH.cons (o := { dst := none, op := .store 31 (.tmp 2) (.tmp 23), type := 0, pos := "huff.go:130", after := #[⟨6, .data⟩, ⟨5, .chain⟩, ⟨0, .phase⟩, ⟨1, .phase⟩, ⟨2, .phase⟩, ⟨3, .phase⟩, ⟨4, .phase⟩, ⟨5, .phase⟩, ⟨6, .phase⟩], guard := none }) rfl (fun K hK => ?_) AllReadyH.nil)
  rw [if_pos (by rfl)]
  refine wp_store_row 31 _ _ rfl w.heap.size (tabCells (.slice (some ⟨gc, 0, none⟩) xs.length xs.length) cn (firsts cn) (.slice (some ⟨go, 0, none⟩) m m)).toArray rfl rfl 31 old.toArray HT6.out ?_ ?_ (tab_one _ _ _ _ _ _ _ _) ?_
  · rw [List.size_toArray, tabCells_length _ _ _ _ HCL HFL]; kernel_rfl
  · rw [List.size_toArray, List.size_toArray, tabCells_length _ _ _ _ HCL HFL]; exact HOL.out
  have HN : Hid (RowV (w6.setRow w.heap.size (tabCells (.slice (some ⟨gc, 0, none⟩) xs.length xs.length) cn (firsts cn) (.slice (some ⟨go, 0, none⟩) m m)).toArray) w.heap.size 31 (tabCells (.slice (some ⟨gc, 0, none⟩) xs.length xs.length) cn (firsts cn) (.slice (some ⟨go, 0, none⟩) m m))) := hid (setRow_heap _ _ _ _ _ _ HT6.out)
  have HO : Hid (∀ k, k ≠ w.heap.size → (w6.setRow w.heap.size (tabCells (.slice (some ⟨gc, 0, none⟩) xs.length xs.length) cn (firsts cn) (.slice (some ⟨go, 0, none⟩) m m)).toArray).heap[k]? = w6.heap[k]?) := hid (fun k hk => setRow_other _ _ _ _ hk)
  have HG : Hid (w6.grownBy (w6.setRow w.heap.size (tabCells (.slice (some ⟨gc, 0, none⟩) xs.length xs.length) cn (firsts cn) (.slice (some ⟨go, 0, none⟩) m m)).toArray) (some w.heap.size)) := hid ⟨rfl, rfl, rfl, by simp [World.setRow], fun k _ hk => HO.out k (fun e => hk (by simp [e]))⟩
  generalize w6.setRow w.heap.size (tabCells (.slice (some ⟨gc, 0, none⟩) xs.length xs.length) cn (firsts cn) (.slice (some ⟨go, 0, none⟩) m m)).toArray = w7 at HN HO HG ⊢
  have hB4 := HB4.out.size
  refine hK.out _ _ (hH3.grown HG.out (by simp; omega)) (fun hH4 => ?_)
  clear hK K
  simp only [Act.put, List.setIfInBounds_toArray, List.set_cons_zero, List.set_cons_succ]
  refine wpAnyH_take (i := 8) (oi := { dst := some 3, op := .assign (.const (.bool true)), type := 4, pos := "huff.go:130", after := #[⟨7, .chain⟩, ⟨0, .phase⟩, ⟨1, .phase⟩, ⟨2, .phase⟩, ⟨3, .phase⟩, ⟨4, .phase⟩, ⟨5, .phase⟩, ⟨6, .phase⟩, ⟨7, .phase⟩], guard := none }) (v := .bool true) rfl (by kernel_rfl) (by kernel_rfl) (by kernel_rfl) (fun _ _ _ h => h) (Or.inl ⟨by rfl, fun w _ => by rfl⟩) hH4 ?_
  simp only [Act.put, List.setIfInBounds_toArray, List.set_cons_zero, List.set_cons_succ]
  refine wpAnyH_done (by kernel_rfl) ?_ _
  have HRC7 : Hid (RowV w7 gc 36 (flat (assignV xs))) := hid (((HRC.out.below HB5.out hgc4).below hb6 (by omega)).grown HG.out (by simp; omega))
  have HRO7 : Hid (RowV w7 go 3 (ints .i64 ord)) := hid (hro.grown HG.out (by simp; omega))
  have HB7 : Hid (Below w.heap.size w w7) := hid (((HB4.out.trans (HB5.out.mono (by omega))).trans (hb6.mono (by omega))).grown HG.out (by omega) (by intro k h; cases h; omega))
  go_wp2
  refine ret_row_tmp rfl w.heap.size 31 _ _ rfl HN.out Ycgm.underlying31 rfl (by rw [tabCells_length _ _ _ _ HCL HFL]; kernel_rfl) rfl ?_
  exact ⟨gc, go, _, ord, rfl, by omega, by omega, hm, hord, HRC7.out, HRO7.out, HB7.out⟩

set_option maxHeartbeats 400000 in
theorem newtable_no (a : Option Addr) (c n : Nat) (xs : List Int) (w : World) (hn : n = xs.length) (h : Sees .u8 w a xs) (hr : ∀ x ∈ xs, 0 ≤ x ∧ x ≤ 255) (hf : fits xs = false) :
    Calls Ycgm.prog 16 #[.slice a n c] w fun e w' => e = .returned (.tuple #[.agg (tabCells (.slice none 0 0) (List.replicate 16 0) (List.replicate 16 0) (.slice none 0 0)).toArray, .bool false]) ∧ Below w.heap.size w w' := by
  have HR := hid hr
  have HF := hid hf
  have HS := hid h
  have HN := hid hn
  clear h hr hf hn
  go_enter Ycgm.func16, Ycgm.ntmps16
  go_wp2_with (first
    | (go_at_call 27; refine (assign_no a c n xs _ HN (HS.out.alloc _) HR HF).mono ?_; rintro e w1 ⟨rfl, hw1⟩
       have HT : Hid (RowV w1 w.heap.size 31 (tabCells (.slice none 0 0) (List.replicate 16 0) (List.replicate 16 0) (.slice none 0 0))) := by rw [hw1]; exact hid (RowV.fresh w _ _ _ rfl)
       have HB : Hid (Below w.heap.size w w1) := by rw [hw1]; exact hid ((Below.refl _ _).alloc (Nat.le_refl _) _)
       clear hw1)
    | (refine wpList_buildTo rfl 31 #[] rfl (tabCells (.slice none 0 0) (List.replicate 16 0) (List.replicate 16 0) (.slice none 0 0)) (by kernel_rfl) ?_)
    | (refine wpList_storeRow rfl 31 _ _ rfl _ (tabCells (.slice none 0 0) (List.replicate 16 0) (List.replicate 16 0) (.slice none 0 0)) rfl rfl _ _ HT.out (by kernel_rfl) rfl (tab_one _ _ _ _ _ _ _ _) ?_; intro w4 hr4 hg4))
  refine ret_row_tmp rfl w.heap.size 31 _ _ rfl hr4 Ycgm.underlying31 rfl (by kernel_rfl) rfl ?_
  exact ⟨rfl, HB.out.grown hg4 HB.out.size (by intro k h; cases h; exact Nat.le_refl _)⟩
end Go.Proofs.Ymbrcg
