/- huff.LawS930022JJoins, walked. -/
import Derived.Test.YmbrchAppend
import Derived.Test.YmbrchOpenC
import Derived.Deep.RegionWith
import Derived.Deep.DeepCutAuto
namespace Go.Proofs.Ymbrch
open Go.RowKit
set_option linter.unusedVariables false
set_option linter.unusedSimpArgs false
def cdL (cs : List (Int × Int)) (k : Nat) : Nat := ((cs[k]?.getD (0, 0)).2 % 16).toNat
def cdB (cs : List (Int × Int)) (k : Nat) : Int := (cs[k]?.getD (0, 0)).1
def cdP (cs : List (Int × Int)) : Nat → Nat | 0 => 0 | k + 1 => cdP cs k + cdL cs k
theorem cdL_le (cs : List (Int × Int)) (k : Nat) : cdL cs k ≤ 15 := by unfold cdL; omega
theorem cdP_le (cs : List (Int × Int)) (k : Nat) : cdP cs k ≤ 15 * k := by
  induction k with
  | zero => simp [cdP]
  | succ k ih => have := cdL_le cs k; simp only [cdP]; omega
theorem cdP_mono (cs : List (Int × Int)) {i k : Nat} (h : i ≤ k) : cdP cs i ≤ cdP cs k := by
  induction k with
  | zero => rw [Nat.le_zero.1 h]; exact Nat.le_refl _
  | succ k ih =>
    by_cases e : i = k + 1
    · rw [e]; exact Nat.le_refl _
    · have := ih (by omega); simp only [cdP]; omega
/-- The first k codes stand in ds one after another. -/
def Joined (cs : List (Int × Int)) (k : Nat) (ds : List Int) : Prop := ∀ i, i < k → ∀ j, j < cdL cs i → bitD ds (cdP cs i + j) = cbit (cdB cs i) (cdL cs i - 1 - j)
theorem joined_step (cs : List (Int × Int)) (k : Nat) (ds ds' : List Int) (h : Joined cs k ds)
    (hb : ∀ j, bitD ds' j = if cdP cs k ≤ j ∧ j < cdP cs k + cdL cs k then cbit (cdB cs k) (cdP cs k + cdL cs k - 1 - j) else bitD ds j) : Joined cs (k + 1) ds' := by
  intro i hi j hj
  rw [hb]
  by_cases e : i = k
  · subst e
    rw [if_pos (by omega), show cdP cs i + cdL cs i - 1 - (cdP cs i + j) = cdL cs i - 1 - j from by omega]
  · have h1 : cdP cs (i + 1) ≤ cdP cs k := cdP_mono cs (by omega)
    simp only [cdP] at h1
    rw [if_neg (by omega)]
    exact h i (by omega) j hj
theorem owns_sees' {w : World} {base : Nat} {e : TypeId} {k : IntKind} {v : Value} {ds : List Int} (h : w.ownsRow base e 1 v ds.length (ints k ds)) (hm : ds.length ≤ 9223372036854775807) : ∃ a c, v = .slice a ds.length c ∧ Sees k w a ds := by
  rcases h.2 with ⟨rfl, h0⟩ | ⟨g, cap, cur, rfl, _⟩
  · exact ⟨none, 0, by rw [h0], ⟨hm, fun i hi => by omega⟩⟩
  · exact ⟨_, _, rfl, OwnI.sees h hm⟩
theorem rem_u8 (x : Int) (h : 0 ≤ x ∧ x ≤ 255) : x % 16 = (((x % 16).toNat : Nat) : Int) := by omega
set_option maxRecDepth 8000 in
set_option maxHeartbeats 2000000 in
theorem jjoins_any (a : Option Addr) (c : Nat) (cs : List (Int × Int)) (w : World) (hs : SeesC w a cs) (hr : ∀ x ∈ cs, (0 ≤ x.1 ∧ x.1 < 4294967296) ∧ 0 ≤ x.2 ∧ x.2 ≤ 255) :
    Calls Ychm.prog 5 #[.slice a cs.length c] w fun e w' => e = .returned (.bool true) ∧ Below w.heap.size w w' := by
  by_cases hbig : 512 < cs.length
  · have hbig' : (512 : Int) < (cs.length : Int) := by omega
    go_enter Ychm.func5, Ychm.ntmps5
    go_wp2
    go_ret
    exact ⟨rfl, Below.refl _ _⟩
  · have hbig' : ¬ (512 : Int) < (cs.length : Int) := by omega
    have HS := hid hs
    have HR := hid hr
    clear hs hr
    go_enter Ychm.func5, Ychm.ntmps5
    go_wp2
    go_loopw [4] (fun i wr => ∃ (k : Nat) (v : Value) (ds : List Int), k ≤ cs.length ∧ i = .int .i64 k ∧ Hid (BitsV wr w.heap.size w.heap.size v ds (cdP cs k)) ∧ Hid (Joined cs k ds) ∧ Below w.heap.size w wr) (fun i _ => cs.length - (intOf i).toNat)
    case atStart =>
      refine ⟨0, .slice none 0 0, [], Nat.zero_le _, rfl, hid ⟨RowV.fresh w _ [.slice none 0 0, .int .i64 0] _ rfl, (OwnN.nil _ _ _ _).owns, by simp [Value.ownBlock], by simp, by simp [cdP]⟩, hid (fun i hi => by omega), (Below.refl _ _).alloc (Nat.le_refl _) _⟩
    case round =>
      obtain ⟨k, v, ds, hk, rfl, HBV, HJ, hb⟩ := hrel
      have hws := hb.size
      by_cases hlt : k < cs.length
      · have hlt' : (k : Int) < (cs.length : Int) := by omega
        obtain ⟨b, off, rfl, hbl, x0, x1⟩ := (HS.out.below hb (Nat.le_refl _)).2 k hlt
        have hrk := HR.out (cs[k]?.getD (0, 0)) (by rw [List.getElem?_eq_getElem hlt]; exact List.getElem_mem hlt)
        have hP := cdP_le cs k
        have hL := cdL_le cs k
        have hLe : (cs[k]?.getD (0, 0)).2 % 16 = (cdL cs k : Int) := by unfold cdL; omega
        have hBe : (cs[k]?.getD (0, 0)).1 = cdB cs k := rfl
        rw [hBe] at x0 hrk
        obtain ⟨B, hB⟩ : ∃ B, cdB cs k = B := ⟨_, rfl⟩
        obtain ⟨l, hl⟩ : ∃ l, cdL cs k = l := ⟨_, rfl⟩
        have HJS := hid (joined_step cs k ds)
        have HPS : Hid (cdP cs (k + 1) = cdP cs k + cdL cs k) := hid rfl
        rw [hB] at x0 hrk HJS
        rw [hl] at hLe hL HJS HPS
        have HBB := hid hB
        have HLL := hid hl
        have hxl := hrk.2
        generalize (cs[k]?.getD (0, 0)).2 = X at x1 hLe hrk hxl
        have hLt : X.tmod 16 = (l : Int) := by rw [Int.tmod_eq_emod_of_nonneg hxl.1]; exact hLe
        clear hB hl hBe
        go_upto_region 7 with fail
        go_cut [35] (fun s35 wx => s35 = .bool false ∧ ∃ (v' : Value) (ds' : List Int), Hid (BitsV wx w.heap.size w.heap.size v' ds' (cdP cs (k + 1))) ∧ Hid (Joined cs (k + 1) ds') ∧ Below w.heap.size w wx)
        case first =>
          go_region_with (go_at_call 11
                          refine (append_yes w.heap.size w.heap.size v ds (cdP cs k) B l _ ?_ ?_ ?_ ?_ ?_ w.heap.size ?_ ?_).mono ?_
                          · exact HBV.out
                          · exact hrk.1
                          · exact hL
                          · omega
                          · exact hws
                          · exact Nat.le_refl _
                          · exact Nat.le_refl _
                          rintro e w2 ⟨rfl, v', ds', hbv, hbits, _, hb2⟩)
          all_goals (
            go_wp2_with fail
            go_meet
            exact ⟨rfl, v', ds', hid (by rw [HPS.out]; exact hbv), hid (HJS.out ds' HJ.out hbits), hb.drew.trans hb2⟩)
        case rest =>
        obtain ⟨rfl, v', ds', HBV2, HJ2, hb2⟩ := hcut
        go_wp2
        go_roundw
        case rel => exact ⟨k + 1, v', ds', by omega, by go_num, HBV2, HJ2, hb2⟩
        case measure => simp [intOf]; omega
      · have hlt' : ¬ (k : Int) < (cs.length : Int) := by omega
        obtain ⟨hrb, hob, _, hrg, hdl⟩ := HBV.out
        have hP := cdP_le cs k
        have HPM : Hid (∀ i, i < k → cdP cs i + cdL cs i ≤ cdP cs k) := hid (fun i hi => cdP_mono cs (show i + 1 ≤ k from hi))
        obtain ⟨a2, c2, rfl, hs2⟩ := owns_sees' hob (by omega)
        obtain ⟨P, hPe⟩ : ∃ P, cdP cs k = P := ⟨_, rfl⟩
        rw [hPe] at hrb hdl HPM hP
        have hke : k = cs.length := by omega
        have HPE : Hid (cdP cs cs.length = P) := hid (by rw [← hke]; exact hPe)
        rw [hke] at HPM HJ hP
        have hdl8 : (ds.length : Int) = ((P : Int) + 7) / 8 := by omega
        have HSX := hid (HS.out.below hb (Nat.le_refl _))
        have HS2 := hid hs2
        have HRG := hid hrg
        have q0 : wr.cell? ⟨w.heap.size, 0, none⟩ = some (.slice a2 ds.length c2) := hrb.cell rfl
        have q1 : wr.cell? ⟨w.heap.size, 1, none⟩ = some (.int .i64 (P : Int)) := hrb.cell rfl
        obtain ⟨G, hG⟩ : ∃ G, w.heap.size = G := ⟨_, rfl⟩
        have hGl : G < wr.heap.size := by rw [← hG]; exact hrb.lt
        have HBW := hid hb
        rw [hG] at q0 q1 ⊢
        obtain ⟨w2, hw2⟩ : ∃ w2, wr = w2 := ⟨_, rfl⟩
        rw [hw2] at q0 q1 HSX HS2 HBW hGl ⊢
        clear hrb hob hrg hdl hs2 hb hws HS HBV hPe hke hw2 hk hlt
        go_wp2
        clear hlt'
        go_loopw [5, 6] (fun pv i wq => ∃ (k : Nat), k ≤ cs.length ∧ i = .int .i64 k ∧ pv = .int .i64 (cdP cs k : Nat) ∧ Below w2.heap.size w2 wq) (fun _ i _ => cs.length - (intOf i).toNat)
        case atStart => exact ⟨0, Nat.zero_le _, rfl, rfl, Below.refl _ _⟩
        case round =>
          obtain ⟨k, hk, rfl, rfl, hb⟩ := hrel
          have hws := hb.size
          by_cases hlt : k < cs.length
          · have hlt' : (k : Int) < (cs.length : Int) := by omega
            obtain ⟨b, off, rfl, hbl2, y0, y1⟩ := HSX.out.2 k hlt
            have x1 := (hb.cell (show b < w2.heap.size from hbl2)).trans y1
            have hrk := HR.out (cs[k]?.getD (0, 0)) (by rw [List.getElem?_eq_getElem hlt]; exact List.getElem_mem hlt)
            have hL := cdL_le cs k
            have hLe : (cs[k]?.getD (0, 0)).2 % 16 = (cdL cs k : Int) := by unfold cdL; omega
            have hBe : (cs[k]?.getD (0, 0)).1 = cdB cs k := rfl
            rw [hBe] at y0 hrk
            obtain ⟨B, hB⟩ : ∃ B, cdB cs k = B := ⟨_, rfl⟩
            obtain ⟨l, hl⟩ : ∃ l, cdL cs k = l := ⟨_, rfl⟩
            have HJK := hid (HJ.out k hlt)
            have HPS : Hid (cdP cs (k + 1) = cdP cs k + cdL cs k) := hid rfl
            have hPK := HPM.out k hlt
            rw [hB] at y0 hrk HJK
            rw [hl] at hLe hL HJK HPS hPK
            have hxl := hrk.2
            generalize (cs[k]?.getD (0, 0)).2 = X at y1 x1 hLe hrk hxl
            have hLt : X.tmod 16 = (l : Int) := by rw [Int.tmod_eq_emod_of_nonneg hxl.1]; exact hLe
            clear hB hl hBe
            obtain ⟨Pk, hPk⟩ : ∃ Pk, cdP cs k = Pk := ⟨_, rfl⟩
            rw [hPk] at HJK HPS hPK ⊢
            clear hPk
            go_wp2
            go_loopw [5, 8] (fun pv jv wq => ∃ (j : Nat), j ≤ l ∧ jv = .int .i64 j ∧ pv = .int .i64 (Pk + j : Nat) ∧ Below w2.heap.size w2 wq) (fun _ j _ => l - (intOf j).toNat)
            case atStart => exact ⟨0, Nat.zero_le _, rfl, rfl, hb⟩
            case round =>
              obtain ⟨j, hj, rfl, rfl, hbj⟩ := hrel
              have hwj := hbj.size
              by_cases hjl : j < l
              · have hjl' : (j : Int) < (l : Int) := by omega
                obtain ⟨ee, hee⟩ : ∃ ee : Nat, ee + j + 1 = l := ⟨l - 1 - j, by omega⟩
                have hsub : (l : Int) - 1 - (j : Int) = (ee : Int) := by omega
                have hee15 : ee ≤ 15 := by omega
                have hbd := div_pow_bd B ee hrk.1.1
                have hA := and1_u32 (B / 2 ^ ee) hbd.1 (by omega)
                have z0 : wr.cell? ⟨G, 0, none⟩ = some (.slice a2 ds.length c2) := (hbj.cell hGl).trans q0
                have z1 : wr.cell? ⟨G, 1, none⟩ = some (.int .i64 (P : Int)) := (hbj.cell hGl).trans q1
                have HAT : Hid (atV ds P ((Pk + j : Nat) : Int) = ((B / 2 ^ ee % 2 == 1), true)) := hid (by
                  rw [atV, if_pos (by omega), Int.toNat_natCast, HJK.out j hjl, cbit, show l - 1 - j = ee from by omega])
                have HSW := hid (HS2.out.below hbj (Nat.le_refl _))
                have HX0 : Hid (∀ wx, Below wr.heap.size wr wx → wx.cell? ⟨b, off + k * 2, none⟩ = some (.int .u32 B)) := hid (fun wx hbx => by
                  have h1 : Below w2.heap.size w2 wx := hbj.trans (hbx.mono hwj)
                  exact (h1.cell hbl2).trans y0)
                go_wp2_with (go_at_call 13; refine (at_n a2 _ c2 ds P _ _ rfl HSW HRG (by omega) _ _ HAT).mono ?_; rintro e w3 ⟨rfl, hb3⟩; have u0 := HX0.out w3 hb3)
                go_roundw
                case rel => exact ⟨j + 1, by omega, by go_num, by go_num, hbj.trans (hb3.mono hwj)⟩
                case measure => simp [intOf]; omega
              · have hjl' : ¬ (j : Int) < (l : Int) := by omega
                go_wp2
                go_roundw
                case rel => exact ⟨k + 1, by omega, by go_num, by rw [HPS.out]; go_num, hbj⟩
                case measure => simp [intOf]; omega
          · have hlt' : ¬ (k : Int) < (cs.length : Int) := by omega
            have hkl : k = cs.length := by omega
            have hPP : cdP cs k = P := by rw [hkl]; exact HPE.out
            rw [hPP]
            have z0 : wr.cell? ⟨G, 0, none⟩ = some (.slice a2 ds.length c2) := (hb.cell hGl).trans q0
            have z1 : wr.cell? ⟨G, 1, none⟩ = some (.int .i64 (P : Int)) := (hb.cell hGl).trans q1
            have HAT : Hid (atV ds P (P : Int) = (false, false)) := hid (by rw [atV, if_neg (by omega)])
            have HSW := hid (HS2.out.below hb (Nat.le_refl _))
            go_wp2_with (go_at_call 13; refine (at_n a2 _ c2 ds P _ _ rfl HSW HRG (by omega) _ _ HAT).mono ?_; rintro e w3 ⟨rfl, hb3⟩; have u0 : w3.cell? ⟨G, 0, none⟩ = some (.slice a2 ds.length c2) := (hb3.cell (show G < wr.heap.size by omega)).trans z0; have u1 : w3.cell? ⟨G, 1, none⟩ = some (.int .i64 (P : Int)) := (hb3.cell (show G < wr.heap.size by omega)).trans z1)
            go_ret
            exact ⟨ret_bool (by simp), (HBW.out.trans (hb.mono HBW.out.size)).trans (hb3.mono (Nat.le_trans HBW.out.size hws))⟩
end Go.Proofs.Ymbrch
