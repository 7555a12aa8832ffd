/- huff.zzs930022emodel, walked. -/
import Derived.Test.YmbrcfDecode
import Derived.Test.YmbrcfWEStarts
import Derived.Test.YmbrcfWEWin
import Derived.Deep.DeepCutAuto
namespace Go.Proofs.Ymbrcf
open Go.RowKit
set_option linter.unusedVariables false
set_option linter.unusedSimpArgs false
set_option maxRecDepth 8000 in
set_option maxHeartbeats 1600000 in
theorem emodel_any (xs ds : List Int) (al : Option Addr) (nl cl : Nat) (a : Option Addr) (n c : Nat) (N : Int) (w : World)
    (hl : Lens xs) (hk : ksum xs ≤ 32768) (hnl : nl = xs.length) (hsl : Sees .u8 w al xs) (hx : xs.length ≤ 1024)
    (hn : n = ds.length) (hs : Sees .u8 w a ds) (hr : ∀ x ∈ ds, 0 ≤ x ∧ x ≤ 255) (hd : ds.length ≤ 1024) (hN : -9223372036854775808 ≤ N ∧ N ≤ 9223372036854775807) :
    Calls Ycfm.prog 27 #[.slice al nl cl, .slice a n c, .int .i64 N] w fun e w' =>
      ∃ (out : List Int) (st : Int) (v : Value), e = .returned (.tuple #[v, .int .i64 st]) ∧ DecR xs ds N 0 [] out st ∧ OwnN w' w.heap.size 3 .i64 v out ∧ out.length ≤ 8 * ds.length ∧ Below w.heap.size w w' := by
  subst hnl
  subst hn
  have HL := hid hl
  have HK := hid hk
  have HSL := hid hsl
  have HS := hid hs
  have HR := hid hr
  obtain ⟨M, hM⟩ : ∃ M, min N (8 * (ds.length : Int)) = M := ⟨_, rfl⟩
  have HM := hid hM
  clear hl hk hsl hs hr hM
  go_enter Ycfm.func27, Ycfm.ntmps27
  go_upto_region 2 with (go_at_call 34; refine (estarts_any al _ cl xs _ rfl HSL HL HK (by omega)).mono ?_; rintro e w1 ⟨gS, S, rfl, hgS, hSl, hSv, hrS, hb1⟩)
  have hgS1 := hrS.lt
  have HSV := hid hSv
  have HRS := hid hrS
  have HB1 := hid hb1
  have hs1 := hb1.size
  clear hSv hrS hb1
  go_upto_if 23 with fail
  go_cut [9] (fun s9 wx => s9 = .int .i64 M ∧ wx = w1)
  case first =>
    by_cases h1 : N < 8 * (ds.length : Int)
    · have hM : M = N := by have := HM.out; omega
      go_wp2_with fail
      go_meet
      exact ⟨by rw [hM], rfl⟩
    · have hM : M = 8 * (ds.length : Int) := by have := HM.out; omega
      go_wp2_with fail
      go_meet
      exact ⟨by rw [hM], rfl⟩
  case rest =>
  obtain ⟨rfl, hwc⟩ := hcut
  replace hwc := hwc.symm
  subst hwc
  have hMb : M ≤ 8 * (ds.length : Int) ∧ -9223372036854775808 ≤ M ∧ M ≤ N := by have := HM.out; omega
  go_wp2
  go_loopw [10, 11] (fun ov pv wr => ∃ (v : Value) (p : Nat) (acc : List Int), v = ov ∧ (p : Int) ≤ 8 * (ds.length : Int) ∧ acc.length ≤ p ∧ pv = .int .i64 p ∧ Hid (OwnN wr w1.heap.size 3 .i64 v acc) ∧ Hid (∀ out st, DecR xs ds N p acc out st → DecR xs ds N 0 [] out st) ∧ Below w1.heap.size w1 wr) (fun _ pv _ => (8 * (ds.length : Int) - intOf pv).toNat)
  case atStart =>
    exact ⟨_, 0, [], rfl, by omega, by simp, rfl, hid (OwnN.nil _ _ _ _), hid (fun _ _ h => h), Below.refl _ _⟩
  case round =>
    obtain ⟨v, p, acc, rfl, hp1, hap, rfl, HOW, HREL, hb⟩ := hrel
    have hws := hb.size
    have HOB := hid (owns_lt HOW.out)
    have HBW : Hid (Below w.heap.size w wr) := hid (HB1.out.trans (hb.mono hs1))
    have HSW : Hid (Sees .u8 wr a ds) := hid (HS.out.below HBW.out (Nat.le_refl _))
    have HSLW : Hid (Sees .u8 wr al xs) := hid (HSL.out.below HBW.out (Nat.le_refl _))
    have HRSW : Hid (RowV wr gS 3 (ints .i64 S)) := hid (HRS.out.below hb hgS1)
    by_cases hlt : (p : Int) < N
    · have hM0 : 0 ≤ M := by have := HM.out; omega
      obtain ⟨A, hA⟩ : ∃ A, availD ds N p = A := ⟨_, rfl⟩
      have hAM : A = (min 15 (M - p)).toNat := by rw [← hA, availD, if_pos (by omega), ← HM.out]
      have HHIT : Hid (∀ i, HitAt xs ds N p i ↔ Match xs (winW (strm ds p) A) A i) := hid (fun i => by unfold HitAt; rw [hA])
      have HMISS : Hid (∀ st, st = (if A < 15 then (1 : Int) else 2) → (∀ i, ¬ HitAt xs ds N p i) → DecR xs ds N 0 [] [] st) := hid (fun st hst h => by
        rw [hst, ← hA]; exact HREL.out [] _ (.miss p acc hlt h))
      have hwin := win_bd (strm ds p) A (by omega)
      have HWC := hid (ewindow_any a ds.length c ds p M A wr rfl HSW HR hp1 hMb.1 (by omega) hAM)
      generalize winW (strm ds p) A = W at HHIT hwin HWC
      clear hA
      go_wp2_with (go_at_call 35; refine HWC.out.mono ?_; rintro e w2 ⟨rfl, hw2⟩; replace hw2 := hw2.symm; subst hw2)
      go_loop [13, 14] (fun fv sv => ∃ (s : Nat) (F : Int), s ≤ xs.length ∧ sv = .int .i64 s ∧ fv = .int .i64 F ∧ Hid ((F = -1 ∧ ∀ i, i < s → ¬ Match xs W A i) ∨ ∃ i : Nat, i < s ∧ F = (i : Int) ∧ Match xs W A i)) (fun _ s => xs.length - (intOf s).toNat)
      case atStart => exact ⟨0, -1, Nat.zero_le _, rfl, rfl, hid (.inl ⟨rfl, fun i hi => by omega⟩)⟩
      case round =>
        obtain ⟨s, F, hs, rfl, rfl, HF⟩ := hrel
        by_cases hsl : s < xs.length
        · have hsl' : (s : Int) < (xs.length : Int) := by omega
          obtain ⟨b, off, rfl, hbs, hcell⟩ := HSLW.out.2 s hsl
          rw [getD_get _ _ hsl] at hcell
          have hxr := HL.out _ (List.getElem_mem hsl)
          have hSs : s < S.length := by omega
          have hsc := HRSW.out.int hSs
          have HMI : Hid (Match xs W A s ↔ 0 < xs[s] ∧ xs[s] ≤ (A : Int) ∧ posI xs xs[s] s ≤ W ∧ W < posI xs xs[s] s + wt xs[s]) := hid ⟨fun h => ⟨h.2.1, h.2.2.1, h.2.2.2.1, h.2.2.2.2⟩, fun h => ⟨hsl, h⟩⟩
          have HSKIP : Hid (¬ Match xs W A s → (F = -1 ∧ ∀ i, i < s + 1 → ¬ Match xs W A i) ∨ ∃ i : Nat, i < s + 1 ∧ F = (i : Int) ∧ Match xs W A i) := hid (fun hno => by
            rcases HF.out with ⟨h1, h2⟩ | ⟨i, h1, h2, h3⟩
            · refine .inl ⟨h1, fun i hi => ?_⟩
              by_cases e : i = s
              · rw [e]; exact hno
              · exact h2 i (by omega)
            · exact .inr ⟨i, by omega, h2, h3⟩)
          have HSX := hid (HSV.out s hsl)
          have HWT : Hid (0 < xs[s] → wt xs[s] = 32768 / 2 ^ xs[s].toNat) := hid (fun h => wt_pos _ h hxr.2)
          have HPB := hid (pos_bd xs HL HK xs[s] hxr.2 s)
          generalize posI xs xs[s] s = Z at HMI HSX HPB
          generalize xs[s] = X at hcell hxr HMI HSX HWT
          obtain ⟨x, rfl⟩ : ∃ x : Nat, X = (x : Int) := ⟨X.toNat, by omega⟩
          by_cases h0 : 0 < (x : Int)
          · have hwt := HWT.out h0
            have hwb := wt_bd (x : Int)
            rw [Int.toNat_natCast] at hwt
            rw [hwt] at HMI hwb
            rw [HSX.out h0] at hsc
            have hzb := HPB.out
            by_cases h1 : (x : Int) ≤ M - p
            · have h1' : (x : Int) ≤ (A : Int) := by omega
              by_cases h2 : Z ≤ W
              · by_cases h3 : W < Z + 32768 / 2 ^ x
                · have HYES := HMI.out.2 ⟨h0, h1', h2, h3⟩
                  have HYESH := hid HYES
                  clear HYES
                  go_wp2
                  go_round
                  case rel => exact ⟨s + 1, s, by omega, by go_num, by go_num, hid (.inr ⟨s, by omega, rfl, HYESH.out⟩)⟩
                  case measure => simp [intOf]; omega
                · have HNO := hid (HSKIP.out (fun h => h3 (HMI.out.1 h).2.2.2))
                  go_wp2
                  go_round
                  case rel => exact ⟨s + 1, F, by omega, by go_num, rfl, HNO⟩
                  case measure => simp [intOf]; omega
              · have HNO := hid (HSKIP.out (fun h => h2 (HMI.out.1 h).2.2.1))
                go_wp2
                go_round
                case rel => exact ⟨s + 1, F, by omega, by go_num, rfl, HNO⟩
                case measure => simp [intOf]; omega
            · have HNO := hid (HSKIP.out (fun h => by have := (HMI.out.1 h).2.1; omega))
              go_wp2
              go_round
              case rel => exact ⟨s + 1, F, by omega, by go_num, rfl, HNO⟩
              case measure => simp [intOf]; omega
          · have HNO := hid (HSKIP.out (fun h => h0 (HMI.out.1 h).1))
            have hx0 : x = 0 := by omega
            subst hx0
            go_wp2
            go_round
            case rel => exact ⟨s + 1, F, by omega, by go_num, rfl, HNO⟩
            case measure => simp [intOf]; omega
        · have hsl' : ¬ (s : Int) < (xs.length : Int) := by omega
          rcases HF.out with ⟨rfl, hno⟩ | ⟨i, his, rfl, hma⟩
          · have HNO : Hid (∀ i, ¬ HitAt xs ds N p i) := hid (fun i h => by
              have h' := (HHIT.out i).1 h
              exact hno i (by have := h'.1; omega) h')
            clear hno
            by_cases h15 : M - p < 15
            · have HFIN := hid (HMISS.out 1 (by rw [if_pos (by omega)]) HNO.out)
              go_wp2
              go_ret2
              exact ⟨[], 1, _, rfl, HFIN.out, OwnN.nil _ _ _ _, by simp, HBW.out⟩
            · have HFIN := hid (HMISS.out 2 (by rw [if_neg (by omega)]) HNO.out)
              go_wp2
              go_ret2
              exact ⟨[], 2, _, rfl, HFIN.out, OwnN.nil _ _ _ _, by simp, HBW.out⟩
          · have hhit := (HHIT.out i).2 hma
            have hi : i < xs.length := hma.1
            have hrm := hit_room hi hhit
            have HREL2 := hid (fun out st h => HREL.out out st (.hit p acc i hi out st hlt hhit h))
            obtain ⟨b, off, rfl, hbs, hcell⟩ := HSL.out.2 i hi
            rw [getD_get _ _ hi] at hcell
            have hxr := HL.out _ (List.getElem_mem hi)
            generalize xs[i]'hi = X at hcell hrm HREL2 hxr
            obtain ⟨x, rfl⟩ : ∃ x : Nat, X = (x : Int) := ⟨X.toNat, by omega⟩
            have HCL : Hid (∀ wx, Below w.heap.size w wx → wx.cell? ⟨b, off + i, none⟩ = some (.int .u8 (x : Int))) := hid (fun wx hbx => (hbx.cell hbs).trans hcell)
            clear hma hhit his
            go_wp2_with (at_builtin; refine wpList_appendI _ rfl _ _ 46 rfl w1.heap.size 3 .i64 8 Ycfm.underlying46 (by kernel_rfl) v acc rfl (HOW.out.alloc _).owns _ (i : Int) rfl (cell_fresh _ _ _ _ (by simp)) (by omega) (by omega) (by simp; omega) ?_; intro g cap w3 hOI hgr hgg; have hcell3 : w3.cell? ⟨b, off + i, none⟩ = some (.int .u8 (x : Int)) := HCL.out w3 ((HBW.out.alloc (by omega) _).grown hgr (by simp; omega) (by intro k h; have := HOB.out _ h; omega)))
            go_roundw
            case rel =>
              refine ⟨_, p + x, acc ++ [(i : Int)], rfl, by omega, by simp; omega, by go_num, hid (.inr ⟨g, cap, by simp, by simp, hOI⟩), hid HREL2.out, ?_⟩
              exact (hb.alloc (by omega) _).grown hgr (by simp; omega) (by intro k h; have := HOB.out _ h; omega)
            case measure => simp [intOf]; omega
    · have HFIN := hid (HREL.out acc 0 (.done p acc (by omega)))
      go_wp2
      go_ret2
      exact ⟨acc, 0, _, rfl, HFIN.out, OwnN.rebase HOW.out (by omega), by omega, HBW.out⟩
end Go.Proofs.Ymbrcf
