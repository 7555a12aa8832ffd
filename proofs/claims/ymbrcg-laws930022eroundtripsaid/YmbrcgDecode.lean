/- (huff.Table).Decode, walked. -/
import Derived.Test.YmbrcgDecOne
import Derived.Test.YmbrcgOwn
namespace Go.Proofs.Ymbrcg
open Go.RowKit
set_option linter.unusedVariables false
set_option linter.unusedSimpArgs false
/-- Symbol i is what stands at bit pos. -/
def HitAt (xs ds : List Int) (N pos : Int) (i : Nat) : Prop := Match xs (winW (strm ds pos) (availD ds N pos)) (availD ds N pos) i
/-- Decoding from bit pos on, acc decoded so far, answers out and st. -/
inductive DecR (xs ds : List Int) (N : Int) : Int → List Int → List Int → Int → Prop
  | done (pos : Int) (acc : List Int) : N ≤ pos → DecR xs ds N pos acc acc 0
  | miss (pos : Int) (acc : List Int) : pos < N → (∀ i, ¬ HitAt xs ds N pos i) → DecR xs ds N pos acc [] (if availD ds N pos < 15 then 1 else 2)
  | hit (pos : Int) (acc : List Int) (i : Nat) (h : i < xs.length) (out : List Int) (st : Int) : pos < N → HitAt xs ds N pos i → DecR xs ds N (pos + xs[i]) (acc ++ [(i : Int)]) out st → DecR xs ds N pos acc out st
theorem DecR.det {xs ds : List Int} {N pos : Int} {acc o1 o2 : List Int} {s1 s2 : Int} (hl : Lens xs) (h1 : DecR xs ds N pos acc o1 s1) (h2 : DecR xs ds N pos acc o2 s2) : o1 = o2 ∧ s1 = s2 := by
  induction h1 with
  | done pos acc h =>
    cases h2 with
    | done => exact ⟨rfl, rfl⟩
    | miss _ _ h' => omega
    | hit _ _ _ _ _ _ h' => omega
  | miss pos acc h hm =>
    cases h2 with
    | done _ _ h' => omega
    | miss => exact ⟨rfl, rfl⟩
    | hit _ _ i _ _ _ _ hh => exact absurd hh (hm i)
  | hit pos acc i hi out st h hh _ ih =>
    cases h2 with
    | done _ _ h' => omega
    | miss _ _ _ hm => exact absurd hh (hm i)
    | hit _ _ j hj _ _ _ hh' hd =>
      have e : j = i := match_unique hl hh' hh
      subst e
      exact ih hd
theorem hit_room {xs ds : List Int} {N pos : Int} {i : Nat} (hi : i < xs.length) (h : HitAt xs ds N pos i) : 0 < xs[i] ∧ 0 ≤ pos ∧ pos + xs[i] ≤ N ∧ pos + xs[i] ≤ 8 * (ds.length : Int) := by
  obtain ⟨_, h0, h1, _⟩ := h
  have := avail_room ds N pos (by omega)
  omega
theorem ans_hit {xs ds : List Int} {N pos : Int} {e : Ending} {i : Nat} (hl : Lens xs) (hi : i < xs.length) (h : HitAt xs ds N pos i) (ha : DecAns xs ds N pos e) : e = .returned (.tuple #[.int .i64 i, .int .i64 (pos + xs[i]), .int .i64 0]) := by
  rcases ha with ⟨j, hj, hm, rfl⟩ | ⟨hn, _⟩
  · have e : j = i := match_unique hl hm h
    subst e; rfl
  · exact absurd h (hn i)
theorem ans_miss {xs ds : List Int} {N pos : Int} {e : Ending} (h : ∀ i, ¬ HitAt xs ds N pos i) (ha : DecAns xs ds N pos e) : e = .returned (.tuple #[.int .i64 0, .int .i64 pos, .int .i64 (if availD ds N pos < 15 then 1 else 2)]) := by
  rcases ha with ⟨j, hj, hm, rfl⟩ | ⟨_, he⟩
  · exact absurd hm (h j)
  · exact he
theorem OwnN.rebase {w : World} {base base' : Nat} {e : TypeId} {k : IntKind} {v : Value} {xs : List Int} (h : OwnN w base e k v xs) (hb : base' ≤ base) : OwnN w base' e k v xs := by
  rcases h with ⟨rfl, rfl⟩ | ⟨g, cap, rfl, h0, h⟩
  · exact .inl ⟨rfl, rfl⟩
  · exact .inr ⟨g, cap, rfl, h0, h.rebase (Nat.le_trans hb h.at.1)⟩
theorem owns_lt {w : World} {base : Nat} {e : TypeId} {k : IntKind} {v : Value} {xs : List Int} (h : OwnN w base e k v xs) : ∀ g, v.ownBlock = some g → base ≤ g ∧ g < w.heap.size := h.owns.lt
set_option maxRecDepth 8000 in
set_option maxHeartbeats 1600000 in
theorem decode_any (xs ds : List Int) (ac : Option Addr) (nc cc go : Nat) (ord : List Int) (a : Option Addr) (n c : Nat) (N : Int) (w : World)
    (hl : Lens xs) (hk : ksum xs ≤ 32768) (hx : xs.length ≤ 100000) (ho : Ordered xs ord) (hro : RowV w go 3 (ints .i64 ord))
    (hn : n = ds.length) (hs : Sees .u8 w a ds) (hr : ∀ x ∈ ds, 0 ≤ x ∧ x ≤ 255) (hd : ds.length ≤ 1000000) (hN : N ≤ 9223372036854775807) :
    Calls Ycgm.prog 17 #[.agg (tabCells (.slice ac nc cc) (cntFrom cnt0 xs) (firsts (cntFrom cnt0 xs)) (.slice (some ⟨go, 0, none⟩) ord.length ord.length)).toArray, .agg #[.slice a n c, .int .i64 N]] w fun e w' =>
      ∃ (out : List Int) (st : Int) (v : Value), e = .returned (.tuple #[v, .int .i64 st]) ∧ DecR xs ds N 0 [] out st ∧ OwnN w' w.heap.size 3 .i64 v out ∧ out.length ≤ 8 * ds.length ∧ Below w.heap.size w w' := by
  have HL := hid hl
  have HK := hid hk
  have HO := hid ho
  have HRO := hid hro
  have HNN := hid hn
  have HS := hid hs
  have HR := hid hr
  have HCL : Hid ((cntFrom cnt0 xs).length = 16) := cntFrom_length xs cnt0
  have HFL := hid (firsts_length (cntFrom cnt0 xs))
  have HX := hid hx
  clear hl hk ho hn hs hr hx
  generalize hcn : cntFrom cnt0 xs = cn at HCL HFL
  have HCN := hid hcn
  have hol := hro.lt
  clear hcn hro
  go_enter Ycgm.func17, Ycgm.ntmps17
  go_wp2
  go_loopw [6, 7] (fun ov pv wr => ∃ (v : Value) (pos : Int) (acc : List Int), v = ov ∧ 0 ≤ pos ∧ pos ≤ 8 * (ds.length : Int) ∧ (acc.length : Int) ≤ pos ∧ pv = .int .i64 pos ∧ Hid (OwnN wr (w.heap.size + 2) 3 .i64 v acc) ∧ Hid (∀ out st, DecR xs ds N pos acc out st → DecR xs ds N 0 [] out st) ∧ Hid (RowV wr w.heap.size 31 (tabCells (.slice ac nc cc) cn (firsts cn) (.slice (some ⟨go, 0, none⟩) ord.length ord.length))) ∧ RowV wr (w.heap.size + 1) 41 [.slice a n c, .int .i64 N] ∧ Below w.heap.size w wr) (fun _ pv _ => (8 * (ds.length : Int) - intOf pv).toNat)
  case atStart =>
    refine ⟨_, 0, [], rfl, by omega, by omega, by simp, rfl, hid (OwnN.nil _ _ _ _), hid (fun _ _ h => h), hid ?_, ?_, ?_⟩
    · exact (RowV.fresh w _ (tabCells (.slice ac nc cc) cn (firsts cn) (.slice (some ⟨go, 0, none⟩) ord.length ord.length)) _ rfl).alloc _
    · exact RowV.fresh _ _ [.slice a n c, .int .i64 N] _ (by simp)
    · exact ((Below.refl _ _).alloc (Nat.le_refl _) _).alloc (by simp) _
  case round =>
    obtain ⟨v, pos, acc, rfl, hp0, hp1, hap, rfl, HOW, HREL, HRT, hrb, hb⟩ := hrel
    have hws := hb.size
    have b1 := hrb.cell (i := 1) rfl
    have b0 := hrb.cell (i := 0) rfl
    have hbl := hrb.lt
    have HOB := hid (owns_lt HOW.out)
    have HSW : Hid (Sees .u8 wr a ds) := hid (HS.out.below hb (Nat.le_refl _))
    have HROW : Hid (RowV wr go 3 (ints .i64 ord)) := hid (HRO.out.below hb hol)
    by_cases hlt : pos < N
    · by_cases hm : ∃ i, HitAt xs ds N pos i
      · obtain ⟨i, hm⟩ := hm
        have hi : i < xs.length := hm.1
        have hrm := hit_room hi hm
        have HM := hid hm
        have HREL2 : Hid (∀ out st, DecR xs ds N (pos + xs[i]) (acc ++ [(i : Int)]) out st → DecR xs ds N 0 [] out st) := hid (fun out st h => HREL.out out st (.hit pos acc i hi out st hlt hm h))
        obtain ⟨q, hq⟩ : ∃ q, pos + xs[i]'hi = q := ⟨_, rfl⟩
        have HQ := hid hq
        rw [hq] at hrm HREL2
        have hxl := HX.out
        clear hm
        go_wp2_with (first
          | (refine wpList_loadRow rfl 31 _ rfl _ rfl _ _ _ HRT.out Ycgm.underlying31 rfl (by rw [tabCells_length _ _ _ _ HCL HFL]; kernel_rfl) ?_)
          | (go_at_call 30
             have hdc := decone_any xs ds ac nc cc go ord a n c N pos wr HL HK HX HO HROW HNN HSW HR hN (by omega)
             rw [HCN.out] at hdc
             refine hdc.mono ?_
             rintro e w1 ⟨hans, hb1⟩
             have he := ans_hit HL hi HM hans
             rw [HQ.out] at he
             subst he
             clear hans hdc)
          | (at_builtin; refine wpList_appendI _ rfl _ _ 25 rfl (w.heap.size + 2) 3 .i64 8 Ycgm.underlying25 (by kernel_rfl) v acc rfl ((HOW.out.below hb1).alloc _).owns _ (i : Int) rfl (cell_fresh _ _ _ _ (by simp)) (by omega) (by omega) (by have := hb1.size; simp; omega) ?_; intro g cap w2 hOI hgr hgg))
        go_roundw
        case rel =>
          have hs1 := hb1.size
          refine ⟨_, q, acc ++ [(i : Int)], rfl, by omega, by omega, by simp; omega, rfl, hid (.inr ⟨g, cap, by simp, by simp, hOI⟩), HREL2, hid ?_, ?_, ?_⟩
          · exact ((HRT.out.below hb1 (by omega)).alloc _).grown hgr (fun e => by have := HOB.out _ e.symm; omega)
          · exact ((hrb.below hb1 hbl).alloc _).grown hgr (fun e => by have := HOB.out _ e.symm; omega)
          · exact ((hb.trans (hb1.mono hws)).alloc (by omega) _).grown hgr (by simp; omega) (by intro k h; have := HOB.out _ h; omega)
        case measure => simp [intOf]; omega
      · have hm' : ∀ i, ¬ HitAt xs ds N pos i := fun i h => hm ⟨i, h⟩
        have HM := hid hm'
        have HFIN := hid (HREL.out [] _ (.miss pos acc hlt hm'))
        obtain ⟨st, hst⟩ : ∃ st : Int, (if availD ds N pos < 15 then (1 : Int) else 2) = st := ⟨_, rfl⟩
        have hne : (st != 0) = true := by rw [← hst]; split <;> rfl
        rw [hst] at HFIN
        have HST := hid hst
        clear hm hm' hst
        go_wp2_with (first
          | (refine wpList_loadRow rfl 31 _ rfl _ rfl _ _ _ HRT.out Ycgm.underlying31 rfl (by rw [tabCells_length _ _ _ _ HCL HFL]; kernel_rfl) ?_)
          | (go_at_call 30
             have hdc := decone_any xs ds ac nc cc go ord a n c N pos wr HL HK HX HO HROW HNN HSW HR hN (by omega)
             rw [HCN.out] at hdc
             refine hdc.mono ?_
             rintro e w1 ⟨hans, hb1⟩
             have he := ans_miss HM hans
             rw [HST.out] at he
             subst he
             clear hans hdc))
        go_ret2
        exact ⟨[], st, _, rfl, HFIN.out, OwnN.nil _ _ _ _, by simp, hb.trans (hb1.mono hws)⟩
    · have HFIN := hid (HREL.out acc 0 (.done pos acc (by omega)))
      go_wp2
      go_ret2
      exact ⟨acc, 0, _, rfl, HFIN.out, OwnN.rebase HOW.out (by omega), by omega, hb⟩
end Go.Proofs.Ymbrcg
