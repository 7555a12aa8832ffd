/- (*huff.Bits).Append, walked. -/
import Derived.Test.YmbrcgBitP
import Derived.Test.YmbrcgOwn
import Derived.RegionTactic
namespace Go.Proofs.Ymbrcg
open Go.RowKit
set_option linter.unusedVariables false
set_option linter.unusedSimpArgs false
/-- How many bytes N bits need. -/
theorem need_eq (N : Nat) : N / 8 + (N % 8 + 7) / 8 = (N + 7) / 8 := by omega
set_option maxHeartbeats 800000 in
theorem append_long (gb : Nat) (v : Value) (N B L : Int) (w : World) (hrow : RowV w gb 41 [v, .int .i64 N]) (hL : 15 < L) :
    Calls Ycgm.prog 31 #[.pointer (some ⟨gb, 0, none⟩), .agg #[.int .u32 B, .int .u8 L]] w fun e w' => e = .returned (.bool false) ∧ Below w.heap.size w w' := by
  have hd : decide (15 < L) = true := by simpa using hL
  go_enter Ycgm.func31, Ycgm.ntmps31
  go_wp2
  go_quiet (fail)
  go_wp2
  go_ret
  exact ⟨rfl, below_drewN' ((Below.refl _ _).alloc (Nat.le_refl _) _) _⟩
set_option maxHeartbeats 800000 in
theorem append_neg (gb : Nat) (v : Value) (N B L : Int) (w : World) (hrow : RowV w gb 41 [v, .int .i64 N]) (hL : L ≤ 15) (hN : N < 0) :
    Calls Ycgm.prog 31 #[.pointer (some ⟨gb, 0, none⟩), .agg #[.int .u32 B, .int .u8 L]] w fun e w' => e = .returned (.bool false) ∧ Below w.heap.size w w' := by
  have hd : decide (15 < L) = false := by simp; omega
  have hd2 : decide (N < 0) = true := by simp; omega
  have hg := hrow.lt
  have c1 : (w.alloc (.cells #[.int .u32 B, .int .u8 L] 36)).cell? ⟨gb, 1, none⟩ = some (.int .i64 N) := (hrow.alloc _).cell rfl
  have c1' : w.cell? ⟨gb, 1, none⟩ = some (.int .i64 N) := hrow.cell rfl
  go_enter Ycgm.func31, Ycgm.ntmps31
  go_wp2
  go_quiet (fail)
  go_wp2
  go_ret
  exact ⟨rfl, below_drewN' ((Below.refl _ _).alloc (Nat.le_refl _) _) _⟩
set_option maxHeartbeats 800000 in
theorem append_odd (gb : Nat) (a : Option Addr) (n c : Nat) (N : Nat) (B L : Int) (w : World) (hrow : RowV w gb 41 [.slice a n c, .int .i64 N]) (hL : L ≤ 15) (hN : N ≤ 9223372036854775807) (hn : n ≠ (N + 7) / 8) (hn2 : n ≤ 9223372036854775807) :
    Calls Ycgm.prog 31 #[.pointer (some ⟨gb, 0, none⟩), .agg #[.int .u32 B, .int .u8 L]] w fun e w' => e = .returned (.bool false) ∧ Below w.heap.size w w' := by
  have hd : decide (15 < L) = false := by simp; omega
  have hd2 : decide ((N : Int) < 0) = false := by simp
  have hg := hrow.lt
  have c1' : w.cell? ⟨gb, 1, none⟩ = some (.int .i64 N) := hrow.cell rfl
  have c0' : w.cell? ⟨gb, 0, none⟩ = some (.slice a n c) := hrow.cell rfl
  go_enter Ycgm.func31, Ycgm.ntmps31
  go_wp2
  go_quiet (fail)
  go_wp2
  go_ret
  exact ⟨rfl, below_drewN' ((Below.refl _ _).alloc (Nat.le_refl _) _) _⟩
/-- Bit e of a code. -/
def cbit (B : Int) (e : Nat) : Bool := B / 2 ^ e % 2 == 1
/-- A Bits that the call may write: its variable at block gb, its bytes ds in memory from block base on (nil if there are none yet). -/
def BitsV (w : World) (base gb : Nat) (v : Value) (ds : List Int) (N : Nat) : Prop :=
  RowV w gb 41 [v, .int .i64 N] ∧ w.ownsRow base 5 1 v ds.length (ints .u8 ds) ∧ v.ownBlock ≠ some gb ∧ (∀ x ∈ ds, 0 ≤ x ∧ x ≤ 255) ∧ ds.length = (N + 7) / 8
theorem owns_form {w : World} {base : Nat} {e : TypeId} {k : IntKind} {v : Value} {ds : List Int} (h : w.ownsRow base e 1 v ds.length (ints k ds)) (hne : 0 < ds.length) : ∃ g cap, v = .slice (some ⟨g, 0, none⟩) ds.length cap ∧ OwnI w base g e k cap ds := by
  rcases h.2 with ⟨rfl, h0⟩ | ⟨g, cap, cur, rfl, _⟩
  · omega
  · exact ⟨g, cap, rfl, h⟩
theorem owns_lenform {w : World} {base : Nat} {e : TypeId} {v : Value} {n : Nat} {vs : List Value} (h : w.ownsRow base e 1 v n vs) : ∃ a c, v = .slice a n c := by
  rcases h.2 with ⟨rfl, rfl⟩ | ⟨g, cap, cur, rfl, _⟩
  · exact ⟨_, _, rfl⟩
  · exact ⟨_, _, rfl⟩
theorem owns_block {w : World} {base : Nat} {e : TypeId} {v : Value} {n : Nat} {vs : List Value} (h : w.ownsRow base e 1 v n vs) : ∀ k, v.ownBlock = some k → base ≤ k ∧ k < w.heap.size := h.lt
theorem bitD_snoc (ds : List Int) (j : Nat) : bitD (ds ++ [0]) j = bitD ds j := by
  by_cases h : j / 8 < ds.length
  · exact bitD_append ds [0] j h
  · rw [bitD_past ds j (by omega), bitD_eq]
    by_cases e : j / 8 = ds.length
    · rw [e, List.getElem?_append_right (Nat.le_refl _), Nat.sub_self]; simp [bitB]
    · rw [List.getElem?_eq_none (by simp; omega)]; simp [bitB]
theorem step_true (ds D D' : List Int) (B : Int) (N l t : Nat) (ht : t < l) (h : ∀ j, bitD D j = if N ≤ j ∧ j < N + t then cbit B (N + l - 1 - j) else bitD ds j) (h' : ∀ j, bitD D' j = (decide (j = N + t) || bitD D j)) (hb : cbit B (l - 1 - t) = true) :
    ∀ j, bitD D' j = if N ≤ j ∧ j < N + (t + 1) then cbit B (N + l - 1 - j) else bitD ds j := by
  intro j
  rw [h' j, h j]
  by_cases e : j = N + t
  · subst e
    rw [decide_eq_true rfl, Bool.true_or, if_pos (by omega), show N + l - 1 - (N + t) = l - 1 - t from by omega, hb]
  · rw [decide_eq_false e, Bool.false_or]
    by_cases e2 : N ≤ j ∧ j < N + t
    · rw [if_pos e2, if_pos (by omega)]
    · rw [if_neg e2, if_neg (by omega)]
theorem step_false (ds D D' : List Int) (B : Int) (N l t : Nat) (ht : t < l) (h : ∀ j, bitD D j = if N ≤ j ∧ j < N + t then cbit B (N + l - 1 - j) else bitD ds j) (h' : ∀ j, bitD D' j = (!decide (j = N + t) && bitD D j)) (hb : cbit B (l - 1 - t) = false) :
    ∀ j, bitD D' j = if N ≤ j ∧ j < N + (t + 1) then cbit B (N + l - 1 - j) else bitD ds j := by
  intro j
  rw [h' j, h j]
  by_cases e : j = N + t
  · subst e
    rw [decide_eq_true rfl, Bool.not_true, Bool.false_and, if_pos (by omega), show N + l - 1 - (N + t) = l - 1 - t from by omega, hb]
  · rw [decide_eq_false e, Bool.not_false, Bool.true_and]
    by_cases e2 : N ≤ j ∧ j < N + t
    · rw [if_pos e2, if_pos (by omega)]
    · rw [if_neg e2, if_neg (by omega)]
set_option maxRecDepth 8000 in
set_option maxHeartbeats 2000000 in
theorem append_yes (base gb : Nat) (v : Value) (ds : List Int) (N : Nat) (B : Int) (l : Nat) (w : World) (h : BitsV w base gb v ds N) (hB : 0 ≤ B ∧ B < 4294967296) (hl : l ≤ 15) (hN : N ≤ 1000000) (hbase : base ≤ w.heap.size) (Z : Nat) (hZ : Z ≤ base) (hZg : Z ≤ gb) :
    Calls Ycgm.prog 31 #[.pointer (some ⟨gb, 0, none⟩), .agg #[.int .u32 B, .int .u8 l]] w fun e w' => e = .returned (.bool true) ∧ ∃ v' ds', BitsV w' base gb v' ds' (N + l) ∧ (∀ j, bitD ds' j = if N ≤ j ∧ j < N + l then cbit B (N + l - 1 - j) else bitD ds j) ∧ (v' = v ∨ ds' ≠ []) ∧ Below Z w w' := by
  obtain ⟨hrow, hown, hne, hrg, hdl⟩ := h
  obtain ⟨a0, c0, hv⟩ := owns_lenform hown
  have hd : decide (15 < (l : Int)) = false := by simp; omega
  have hd2 : decide ((N : Int) < 0) = false := by simp
  have hg := hrow.lt
  have c1' : w.cell? ⟨gb, 1, none⟩ = some (.int .i64 N) := hrow.cell rfl
  have c0' : w.cell? ⟨gb, 0, none⟩ = some (.slice a0 ds.length c0) := by rw [← hv]; exact hrow.cell rfl
  have hdl' : ((ds.length : Int) != (N : Int) / 8 + ((N : Int) % 8 + 7) / 8) = false := by
    rw [bne_eq_false_iff_eq]; omega
  have hw0 : Below Z w (w.alloc (.cells #[.int .u32 B, .int .u8 (l : Int)] 36)) := (Below.refl _ _).alloc (by omega) _
  have HBX := hid (RowV.fresh w 36 [.int .u32 B, .int .u8 (l : Int)] _ rfl)
  have HROW := hid (hrow.alloc (.cells #[.int .u32 B, .int .u8 (l : Int)] 36))
  have HOWN := hid (World.ownsRow.alloc hown (.cells #[.int .u32 B, .int .u8 (l : Int)] 36))
  have HNE := hid hne
  have HRG := hid hrg
  have HDL := hid hdl
  have HOB := hid (owns_block hown)
  have hsz : w.heap.size < (w.alloc (.cells #[.int .u32 B, .int .u8 (l : Int)] 36)).heap.size := by simp
  clear hrow hown hne hrg hdl hv
  go_enter Ycgm.func31, Ycgm.ntmps31
  go_wp2
  go_quiet (fail)
  clear c0' c1' hdl' hd hd2
  go_wp2
  go_loopw [5] (fun i wr => ∃ (t : Nat) (vt : Value) (D : List Int), t ≤ l ∧ i = .int .u8 ((l - t : Nat) : Int) ∧ RowV wr gb 41 [vt, .int .i64 ((N + t : Nat) : Int)] ∧ Hid (wr.ownsRow base 5 1 vt D.length (ints .u8 D)) ∧ Hid (vt.ownBlock ≠ some gb) ∧ Hid (vt.ownBlock ≠ some w.heap.size) ∧ Hid (∀ x ∈ D, 0 ≤ x ∧ x ≤ 255) ∧ Hid (D.length = (N + t + 7) / 8) ∧ Hid (∀ j, bitD D j = if N ≤ j ∧ j < N + t then cbit B (N + l - 1 - j) else bitD ds j) ∧ Hid (vt = v ∨ D ≠ []) ∧ RowV wr w.heap.size 36 [.int .u32 B, .int .u8 (l : Int)] ∧ Below Z w wr) (fun i _ => (intOf i).toNat)
  case atStart =>
    refine ⟨0, v, ds, Nat.zero_le _, rfl, HROW.out.drewN _, HOWN, HNE, hid ?_, HRG, HDL, hid ?_, hid (.inl rfl), HBX.out.drewN _, below_drewN' hw0 _⟩
    · intro e; have := (HOB.out _ e).2; omega
    · intro j; rw [if_neg (by omega)]
  case round =>
    obtain ⟨t, vt, D, ht, rfl, hrow, HOW, HN1, HN2, HDR, HDLn, HBT, HVN, hbx, hb⟩ := hrel
    have hws := hb.size
    have g1 : wr.cell? ⟨gb, 1, none⟩ = some (.int .i64 ((N + t : Nat) : Int)) := hrow.cell rfl
    have g0 : wr.cell? ⟨gb, 0, none⟩ = some vt := hrow.cell rfl
    have fg0 := hrow.frozen 0
    have fg1 := hrow.frozen 1
    have x0 : wr.cell? ⟨w.heap.size, 0, none⟩ = some (.int .u32 B) := hbx.cell rfl
    have hxl := hbx.lt
    have hgl := hrow.lt
    have hgx : gb ≠ w.heap.size := by omega
    by_cases hlt : t < l
    · have hpos : (0 : Int) < ((l - t : Nat) : Int) := by omega
      obtain ⟨M, hM⟩ : ∃ M, M = N + t := ⟨_, rfl⟩
      have hMb : M ≤ 1000015 := by omega
      have hbd := div_pow_bd B (l - t - 1) hB.1
      have hA := and1_u32 (B / 2 ^ (l - t - 1)) hbd.1 (by omega)
      have HCB : Hid (cbit B (l - 1 - t) = ((B / 2 ^ (l - t - 1)) % 2 == 1)) := hid (by rw [cbit, show l - 1 - t = l - t - 1 from by omega])
      rw [← hM] at hrow g1
      have HM := hid hM
      have HDLM : Hid (D.length = (M + 7) / 8) := hid (by rw [HM.out]; exact HDLn.out)
      have hp7 : M % 8 ≤ 7 := by omega
      generalize hR : B / 2 ^ (l - t - 1) = R at hA HCB hbd
      have HRR := hid hR
      have hM0 : (0 : Int) ≤ (M : Int) := by omega
      clear hM
      by_cases hm8 : M % 8 = 0
      · have hm8' : ((M : Int) % 8 == 0) = true := by simp; omega
        have HDM : Hid (M / 8 = D.length) := hid (by rw [HDLM.out]; omega)
        have hDb : D.length ≤ 200000 := by rw [HDLM.out]; omega
        have hOB := owns_block HOW.out
        have HOBH := hid hOB
        clear hOB
        have HOR := hid (or_bit 0 (M % 8) (by omega) (by omega) hp7)
        have HNO := hid (not_bit 0 (M % 8) (by omega) (by omega) hp7)
        have hDp : M / 8 < (D ++ [0]).length := by rw [HDM.out]; simp
        have hX0 : (D ++ [0])[M / 8]?.getD 0 = 0 := by rw [HDM.out]; simp
        have HST := hid (fun j => bitD_set_true (D ++ [0]) M _ hDp (by rw [hX0]; exact HOR.out.2) j)
        have HSF := hid (fun j => bitD_set_false (D ++ [0]) M _ hDp (by rw [hX0]; exact HNO.out.2) j)
        have hyo := HOR.out.1
        have hyn := HNO.out.1
        have HDR2 : ∀ x ∈ D ++ [0], 0 ≤ x ∧ x ≤ 255 := by
          intro x hx
          rcases List.mem_append.1 hx with h' | h'
          · exact HDR.out x h'
          · simp at h'; omega
        have HBT2 : ∀ j, bitD (D ++ [0]) j = if N ≤ j ∧ j < N + t then cbit B (N + l - 1 - j) else bitD ds j := fun j => by rw [bitD_snoc]; exact HBT.out j
        have HDR2H := hid HDR2
        have HBT2H := hid HBT2
        clear HDR2 HBT2 hX0 hDp
        have hDn : (M : Int) / 8 < (D.length : Int) + 1 := by have := HDM.out; omega
        by_cases hq : R % 2 = 1
        · have hq' : (R % 2 == 1) = true := by simpa using hq
          go_wp2_with (at_builtin; refine wpList_appendI _ rfl _ _ 22 rfl base 5 .u8 1 Ycgm.underlying22 (by kernel_rfl) vt D rfl (World.ownsRow.alloc HOW.out _) _ 0 rfl (cell_fresh _ _ _ _ (by simp)) (by omega) (by omega) (by simp; omega) ?_; intro g cap w1 hOI hgr hgg; have r1 : RowV w1 gb 41 [vt, .int .i64 (M : Int)] := (hrow.alloc _).grown hgr (fun e => HN1.out e.symm); have b1 : RowV w1 w.heap.size 36 [.int .u32 B, .int .u8 (l : Int)] := (hbx.alloc _).grown hgr (fun e => HN2.out e.symm); have e1 : w1.cell? ⟨gb, 1, none⟩ = some (.int .i64 (M : Int)) := r1.cell rfl; have e0 : w1.cell? ⟨gb, 0, none⟩ = some vt := r1.cell rfl; have k0 := r1.frozen 0; have k1 := r1.frozen 1; have y0 : w1.cell? ⟨w.heap.size, 0, none⟩ = some (.int .u32 B) := b1.cell rfl; have hne1 : g ≠ gb := (by rcases hgg with hgg | hgg; exact (fun e => HN1.out (by rw [hgg, e])); simp at hgg; omega); have hne2 : g ≠ w.heap.size := (by rcases hgg with hgg | hgg; exact (fun e => HN2.out (by rw [hgg, e])); simp at hgg; omega); have hgb := hOI.at; have d0 : w1.cell? ⟨g, M / 8, none⟩ = some (.int .u8 0) := (by rw [HDM.out, hOI.int (i := D.length) (by simp)]; simp); have fd0 := hOI.frozen (M / 8); clear g0 g1 x0 fg0 fg1)
          have HNA : Hid ((Value.slice (some ⟨g, 0, none⟩) (D.length + 1) cap).ownBlock ≠ some gb) := hid (by simpa [Value.ownBlock] using hne1)
          have HNB : Hid ((Value.slice (some ⟨g, 0, none⟩) (D.length + 1) cap).ownBlock ≠ some w.heap.size) := hid (by simpa [Value.ownBlock] using hne2)
          go_region
          all_goals go_wp2
          go_roundw
          case rel =>
            refine ⟨t + 1, _, (D ++ [0]).set (M / 8) (bits .or .u8 0 (128 / 2 ^ (M % 8))), by omega, ?_, ?_, hid ?_, HNA, HNB, hid (range_set _ _ _ HDR2H hyo), hid ?_, hid ?_, hid (.inr ?_), ?_, ?_⟩
            · rw [show ((l - (t + 1) : Nat) : Int) = ((l - t : Nat) : Int) - 1 from by omega]
            · rw [show ((N + (t + 1) : Nat) : Int) = (M : Int) + 1 from by have := HM.out; omega]
              exact (((r1.set 0 _).other _ _ (by simp; omega)).set 1 _).drew
            · have h1 := (((hOI.other ⟨gb, 0, none⟩ (.slice (some ⟨g, 0, none⟩) (D.length + 1) cap) (by simp; omega)).set (M / 8) (bits .or .u8 0 (128 / 2 ^ (M % 8)))).other ⟨gb, 1, none⟩ (.int .i64 ((M : Int) + 1)) (by simp; omega)).drew
              unfold OwnI at h1
              simp only [List.length_set, List.length_append, List.length_singleton] at h1 ⊢
              rw [show (128 : Int) / 2 ^ (M % 8) = 128 from by rw [hm8]; decide] at h1 ⊢
              exact h1
            · rw [List.length_set]; have := HM.out; have := HDLM.out; simp; omega
            · exact step_true ds (D ++ [0]) _ B N l t hlt HBT2H (by intro j; rw [HST.out j, HM.out]) (by rw [HCB.out]; exact hq')
            · intro e
              have h1 := congrArg List.length e
              rw [List.length_set] at h1
              have h2 : ([] : List Int).length = 0 := rfl
              rw [List.length_append, List.length_singleton] at h1; omega
            · exact (((b1.other _ _ (by simp; omega)).other _ _ (by simp; omega)).other _ _ (by simp; omega)).drew
            · exact ((((hb.alloc (by omega) _).grown hgr (by simp; omega) (by intro k h; have := (HOBH.out k h).1; omega)).setCell (by simp; omega) _).setCell (by simp; omega) _ |>.setCell (by simp; omega) _).drew
          case measure => simp [intOf]; try omega
        · have hq' : (R % 2 == 1) = false := by simpa using hq
          go_wp2_with (at_builtin; refine wpList_appendI _ rfl _ _ 22 rfl base 5 .u8 1 Ycgm.underlying22 (by kernel_rfl) vt D rfl (World.ownsRow.alloc HOW.out _) _ 0 rfl (cell_fresh _ _ _ _ (by simp)) (by omega) (by omega) (by simp; omega) ?_; intro g cap w1 hOI hgr hgg; have r1 : RowV w1 gb 41 [vt, .int .i64 (M : Int)] := (hrow.alloc _).grown hgr (fun e => HN1.out e.symm); have b1 : RowV w1 w.heap.size 36 [.int .u32 B, .int .u8 (l : Int)] := (hbx.alloc _).grown hgr (fun e => HN2.out e.symm); have e1 : w1.cell? ⟨gb, 1, none⟩ = some (.int .i64 (M : Int)) := r1.cell rfl; have e0 : w1.cell? ⟨gb, 0, none⟩ = some vt := r1.cell rfl; have k0 := r1.frozen 0; have k1 := r1.frozen 1; have y0 : w1.cell? ⟨w.heap.size, 0, none⟩ = some (.int .u32 B) := b1.cell rfl; have hne1 : g ≠ gb := (by rcases hgg with hgg | hgg; exact (fun e => HN1.out (by rw [hgg, e])); simp at hgg; omega); have hne2 : g ≠ w.heap.size := (by rcases hgg with hgg | hgg; exact (fun e => HN2.out (by rw [hgg, e])); simp at hgg; omega); have hgb := hOI.at; have d0 : w1.cell? ⟨g, M / 8, none⟩ = some (.int .u8 0) := (by rw [HDM.out, hOI.int (i := D.length) (by simp)]; simp); have fd0 := hOI.frozen (M / 8); clear g0 g1 x0 fg0 fg1)
          have HNA : Hid ((Value.slice (some ⟨g, 0, none⟩) (D.length + 1) cap).ownBlock ≠ some gb) := hid (by simpa [Value.ownBlock] using hne1)
          have HNB : Hid ((Value.slice (some ⟨g, 0, none⟩) (D.length + 1) cap).ownBlock ≠ some w.heap.size) := hid (by simpa [Value.ownBlock] using hne2)
          go_region
          all_goals go_wp2
          go_roundw
          case rel =>
            refine ⟨t + 1, _, (D ++ [0]).set (M / 8) (bits .andNot .u8 0 (128 / 2 ^ (M % 8))), by omega, ?_, ?_, hid ?_, HNA, HNB, hid (range_set _ _ _ HDR2H hyn), hid ?_, hid ?_, hid (.inr ?_), ?_, ?_⟩
            · rw [show ((l - (t + 1) : Nat) : Int) = ((l - t : Nat) : Int) - 1 from by omega]
            · rw [show ((N + (t + 1) : Nat) : Int) = (M : Int) + 1 from by have := HM.out; omega]
              exact (((r1.set 0 _).other _ _ (by simp; omega)).set 1 _).drew
            · have h1 := (((hOI.other ⟨gb, 0, none⟩ (.slice (some ⟨g, 0, none⟩) (D.length + 1) cap) (by simp; omega)).set (M / 8) (bits .andNot .u8 0 (128 / 2 ^ (M % 8)))).other ⟨gb, 1, none⟩ (.int .i64 ((M : Int) + 1)) (by simp; omega)).drew
              unfold OwnI at h1
              simp only [List.length_set, List.length_append, List.length_singleton] at h1 ⊢
              rw [show (128 : Int) / 2 ^ (M % 8) = 128 from by rw [hm8]; decide] at h1 ⊢
              exact h1
            · rw [List.length_set]; have := HM.out; have := HDLM.out; simp; omega
            · exact step_false ds (D ++ [0]) _ B N l t hlt HBT2H (by intro j; rw [HSF.out j, HM.out]) (by rw [HCB.out]; exact hq')
            · intro e
              have h1 := congrArg List.length e
              rw [List.length_set] at h1
              have h2 : ([] : List Int).length = 0 := rfl
              rw [List.length_append, List.length_singleton] at h1; omega
            · exact (((b1.other _ _ (by simp; omega)).other _ _ (by simp; omega)).other _ _ (by simp; omega)).drew
            · exact ((((hb.alloc (by omega) _).grown hgr (by simp; omega) (by intro k h; have := (HOBH.out k h).1; omega)).setCell (by simp; omega) _).setCell (by simp; omega) _ |>.setCell (by simp; omega) _).drew
          case measure => simp [intOf]; try omega
      · have hm8' : ((M : Int) % 8 == 0) = false := by simp; omega
        have hDp : M / 8 < D.length := by rw [HDLM.out]; omega
        obtain ⟨g, cap, hvt, hOI⟩ := owns_form HOW.out (by omega)
        subst hvt
        have hg0 := hOI.at
        have hne1 : g ≠ gb := fun e => HN1.out (by rw [e]; rfl)
        have hne2 : g ≠ w.heap.size := fun e => HN2.out (by rw [e]; rfl)
        have d0 := hOI.int hDp
        have fd0 := hOI.frozen (M / 8)
        have hxr := range_get D HDR (M / 8)
        have HOR := hid (or_bit _ (M % 8) hxr.1 hxr.2 hp7)
        have HNO := hid (not_bit _ (M % 8) hxr.1 hxr.2 hp7)
        have HST := hid (fun j => bitD_set_true D M _ hDp HOR.out.2 j)
        have HSF := hid (fun j => bitD_set_false D M _ hDp HNO.out.2 j)
        have hyo := HOR.out.1
        have hyn := HNO.out.1
        generalize D[M / 8]?.getD 0 = X at d0 hxr HOR HNO HST HSF hyo hyn
        have hDn : (M : Int) / 8 < (D.length : Int) := by omega
        have HNA := HN1
        have HNB := HN2
        by_cases hq : R % 2 = 1
        · have hq' : (R % 2 == 1) = true := by simpa using hq
          go_wp2
          go_region
          all_goals go_wp2
          go_roundw
          case rel =>
            refine ⟨t + 1, _, (D).set (M / 8) (bits .or .u8 X (128 / 2 ^ (M % 8))), by omega, ?_, ?_, hid ?_, HNA, HNB, hid (range_set _ _ _ HDR hyo), hid ?_, hid ?_, hid (.inr ?_), ?_, ?_⟩
            · rw [show ((l - (t + 1) : Nat) : Int) = ((l - t : Nat) : Int) - 1 from by omega]
            · rw [show ((N + (t + 1) : Nat) : Int) = (M : Int) + 1 from by have := HM.out; omega]
              exact ((hrow.other _ _ (by simp; omega)).set 1 _).drew
            · have h1 := ((hOI.set (M / 8) (bits .or .u8 X (128 / 2 ^ (M % 8)))).other ⟨gb, 1, none⟩ (.int .i64 ((M : Int) + 1)) (by simp; omega)).drew
              unfold OwnI at h1
              simp only [List.length_set, List.length_append, List.length_singleton] at h1 ⊢
              exact h1
            · rw [List.length_set]; have := HM.out; have := HDLM.out; omega
            · exact step_true ds (D) _ B N l t hlt HBT (by intro j; rw [HST.out j, HM.out]) (by rw [HCB.out]; exact hq')
            · intro e
              have h1 := congrArg List.length e
              rw [List.length_set] at h1
              have h2 : ([] : List Int).length = 0 := rfl
              omega
            · exact ((hbx.other _ _ (by simp; omega)).other _ _ (by simp; omega)).drew
            · exact ((hb.setCell (by simp; omega) _).setCell (by simp; omega) _).drew
          case measure => simp [intOf]; try omega
        · have hq' : (R % 2 == 1) = false := by simpa using hq
          go_wp2
          go_region
          all_goals go_wp2
          go_roundw
          case rel =>
            refine ⟨t + 1, _, (D).set (M / 8) (bits .andNot .u8 X (128 / 2 ^ (M % 8))), by omega, ?_, ?_, hid ?_, HNA, HNB, hid (range_set _ _ _ HDR hyn), hid ?_, hid ?_, hid (.inr ?_), ?_, ?_⟩
            · rw [show ((l - (t + 1) : Nat) : Int) = ((l - t : Nat) : Int) - 1 from by omega]
            · rw [show ((N + (t + 1) : Nat) : Int) = (M : Int) + 1 from by have := HM.out; omega]
              exact ((hrow.other _ _ (by simp; omega)).set 1 _).drew
            · have h1 := ((hOI.set (M / 8) (bits .andNot .u8 X (128 / 2 ^ (M % 8)))).other ⟨gb, 1, none⟩ (.int .i64 ((M : Int) + 1)) (by simp; omega)).drew
              unfold OwnI at h1
              simp only [List.length_set, List.length_append, List.length_singleton] at h1 ⊢
              exact h1
            · rw [List.length_set]; have := HM.out; have := HDLM.out; omega
            · exact step_false ds (D) _ B N l t hlt HBT (by intro j; rw [HSF.out j, HM.out]) (by rw [HCB.out]; exact hq')
            · intro e
              have h1 := congrArg List.length e
              rw [List.length_set] at h1
              have h2 : ([] : List Int).length = 0 := rfl
              omega
            · exact ((hbx.other _ _ (by simp; omega)).other _ _ (by simp; omega)).drew
            · exact ((hb.setCell (by simp; omega) _).setCell (by simp; omega) _).drew
          case measure => simp [intOf]; try omega
    · have htl : t = l := by omega
      subst htl
      have hz : ¬ (0 : Int) < ((t - t : Nat) : Int) := by omega
      go_wp2
      go_ret
      exact ⟨rfl, vt, D, ⟨hrow, HOW.out, HN1.out, HDR.out, HDLn.out⟩, HBT.out, HVN.out, hb⟩
end Go.Proofs.Ymbrcg
