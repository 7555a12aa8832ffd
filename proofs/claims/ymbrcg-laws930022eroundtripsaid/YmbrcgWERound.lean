/- huff.LawS930022ERoundTrip, walked. -/
import Derived.Test.YmbrcgEnc
import Derived.Test.YmbrcgWELens
import Derived.Test.YmbrcgWESame
import Derived.Deep.DeepCutAuto
import Derived.Lib.SliceRun
namespace Go.Proofs.Ymbrcg
open Go.RowKit
set_option linter.unusedVariables false
set_option linter.unusedSimpArgs false
theorem used_last1 (pre : List Int) (x : Int) (h : 0 < x) : Used (pre ++ [x]) (pre.length : Int) := by
  refine ⟨by omega, by rw [List.length_append]; simp; omega, ?_⟩
  rw [Int.toNat_natCast, List.getElem?_append_right (Nat.le_refl _), Nat.sub_self]; simpa using h
theorem ksum_zeros : ∀ ys : List Int, (∀ x ∈ ys, x = 0) → ksum ys = 0
  | [], _ => rfl
  | y :: ys, h => by
    rw [ksum, ksum_zeros ys (fun x hx => h x (by simp [hx])), h y (by simp), wt_zero 0 (by omega)]; rfl
theorem lens_one {ys : List Int} (h : Lens ys) : Lens (ys ++ [1]) := by
  intro x hx
  rcases List.mem_append.1 hx with h' | h'
  · exact h x h'
  · rw [List.mem_singleton] at h'; omega
theorem fits_one {ys : List Int} (h : Lens ys) (h0 : ∀ x ∈ ys, x = 0) : fits (ys ++ [1]) = true := by
  refine (fits_iff _).2 ⟨fun x hx => (lens_one h x hx).2, ?_⟩
  rw [ksum_append, ksum_zeros ys h0, ksum_single]; decide
theorem sees_prefix {k : IntKind} {w : World} {a : Option Addr} {xs : List Int} {x : Int} (h : Sees k w a (xs ++ [x])) : Sees k w a xs := by
  refine ⟨by have := h.1; rw [List.length_append] at this; simp at this; omega, fun i hi => ?_⟩
  obtain ⟨b, off, h1, h2, h3⟩ := h.2 i (by rw [List.length_append]; omega)
  rw [List.getElem?_append_left hi] at h3
  exact ⟨b, off, h1, h2, h3⟩
/-- Two slices of the call's own that do not share a block. -/
def Apart (v u : Value) : Prop := v.ownBlock = none ∨ v.ownBlock ≠ u.ownBlock
theorem Apart.symm {v u : Value} (h : Apart v u) : Apart u v := by
  unfold Apart at *
  rcases h with h | h
  · rw [h]; cases hu : u.ownBlock with
    | none => exact .inl rfl
    | some g => exact .inr (by simp)
  · exact .inr (Ne.symm h)
theorem Apart.new {v u : Value} {g n c s : Nat} (h : Apart v u) (hg : u.ownBlock = some g ∨ g = s) (hv : ∀ k, v.ownBlock = some k → k < s) : Apart v (.slice (some ⟨g, 0, none⟩) n c) := by
  unfold Apart at *
  by_cases e : v.ownBlock = none
  · exact .inl e
  · refine .inr ?_
    show v.ownBlock ≠ some g
    rcases hg with hg | hg
    · rcases h with h | h
      · exact absurd h e
      · rw [← hg]; exact h
    · intro e2; have := hv g e2; omega
theorem bitsOf_take' (B : Int) (l j : Nat) (hl : l ≤ 15) (hj : j < l) : (bitsOf (B, (l : Int))).take (j + 1) = (bitsOf (B, (l : Int))).take j ++ [(B / 2 ^ (l - 1 - j) % 2 == 1)] := by
  have h15 : ¬ (15 : Int) < ((B, (l : Int)) : Int × Int).2 := by simp; omega
  have hlen : (bitsOf (B, (l : Int))).length = l := by rw [bitsOf_length _ h15]; simp
  have hg := bitsOf_get (B, (l : Int)) h15 j (by simpa using hj)
  rw [List.take_succ_eq_append_getElem (by omega)]
  rw [List.getElem?_eq_getElem (by omega), Option.some.injEq] at hg
  rw [hg]
  simp [cbit]
theorem OwnN.otherB {w : World} {base : Nat} {e : TypeId} {k : IntKind} {v : Value} {xs : List Int} (h : OwnN w base e k v xs) (a : Addr) (u : Value) (hne : v.ownBlock ≠ some a.block) : OwnN (w.setCell a u) base e k v xs := by
  rcases h with ⟨rfl, rfl⟩ | ⟨g, cap, rfl, h0, h⟩
  · exact .inl ⟨rfl, rfl⟩
  · exact .inr ⟨g, cap, rfl, h0, h.other a u (fun e => hne (by rw [← e]; rfl))⟩
theorem or_bit2 (x : Int) (p : Nat) (h0 : 0 ≤ x) (h1 : x ≤ 255) (hp : p ≤ 7) : (0 ≤ bits .or .u8 x (2 ^ (7 - p) % 256) ∧ bits .or .u8 x (2 ^ (7 - p) % 256) ≤ 255) ∧ ∀ q, q ≤ 7 → bitB (bits .or .u8 x (2 ^ (7 - p) % 256)) q = (decide (q = p) || bitB x q) := by
  have h := or_bit x p h0 h1 hp
  have e : (2 : Int) ^ (7 - p) % 256 = 128 / 2 ^ p := by
    rcases (show p = 0 ∨ p = 1 ∨ p = 2 ∨ p = 3 ∨ p = 4 ∨ p = 5 ∨ p = 6 ∨ p = 7 by omega) with h | h | h | h | h | h | h | h <;> subst h <;> decide
  rw [e]; exact h
theorem bit_push {D D' : List Int} {E F F' : List Bool} {b : Bool} {M : Nat} (hT : F' = F ++ [b]) (hL : (E ++ F).length = M) (h : ∀ j, bitD D j = (E ++ F)[j]?.getD false) (hb : ∀ j, bitD D' j = ((decide (j = M) && b) || bitD D j)) : ∀ j, bitD D' j = (E ++ F')[j]?.getD false := by
  rw [hT, ← List.append_assoc]
  exact holds_bit D D' (E ++ F) b h (by rw [hL]; exact hb)
theorem OwnN.form2 {w : World} {base : Nat} {e : TypeId} {k : IntKind} {v : Value} {xs : List Int} (h : OwnN w base e k v xs) : ∃ a cap, v = .slice a xs.length cap ∧ OwnN w base e k (.slice a xs.length cap) xs ∧ (xs = [] → a = none ∧ cap = 0) ∧ (xs ≠ [] → ∃ g, a = some ⟨g, 0, none⟩ ∧ OwnI w base g e k cap xs) := by
  rcases h with ⟨rfl, rfl⟩ | ⟨g, cap, rfl, h0, h⟩
  · exact ⟨none, 0, rfl, .inl ⟨rfl, rfl⟩, fun _ => ⟨rfl, rfl⟩, fun h => absurd rfl h⟩
  · exact ⟨_, cap, rfl, .inr ⟨g, cap, rfl, h0, h⟩, fun e => absurd e h0, fun _ => ⟨g, rfl, h⟩⟩
set_option maxRecDepth 8000 in
set_option maxHeartbeats 3200000 in
theorem eround_any (a : Option Addr) (c : Nat) (xs : List Int) (ap : Option Addr) (cp : Nat) (ps : List Int) (w : World)
    (h : Sees .u8 w a xs) (hr : ∀ x ∈ xs, 0 ≤ x ∧ x ≤ 255) (hra : Sees .u16 w ap ps) (hrr : ∀ x ∈ ps, 0 ≤ x ∧ x ≤ 65535) :
    Calls Ycgm.prog 3 #[.slice a xs.length c, .slice ap ps.length cp] w fun e w' => e = .returned (.bool true) ∧ Below w.heap.size w w' := by
  have hm := h.1
  have hm2 := hra.1
  have HS := hid h
  have HR := hid hr
  have HA := hid hra
  have HAR := hid hrr
  clear h hr hra hrr
  by_cases hbig : 1024 < xs.length
  · have hbig' : (1024 : Int) < (xs.length : Int) := by omega
    go_enter Ycgm.func3, Ycgm.ntmps3
    go_wp2
    go_ret
    exact ⟨rfl, Below.refl _ _⟩
  · by_cases hbig2 : 1024 < ps.length
    · have hbig' : (xs.length : Int) ≤ 1024 := by omega
      have hbig2' : (1024 : Int) < (ps.length : Int) := by omega
      go_enter Ycgm.func3, Ycgm.ntmps3
      go_wp2
      go_ret
      exact ⟨rfl, Below.refl _ _⟩
    · have hbig' : (xs.length : Int) ≤ 1024 := by omega
      have hbig2' : (ps.length : Int) ≤ 1024 := by omega
      go_enter Ycgm.func3, Ycgm.ntmps3
      go_upto_region 4 with (go_at_call 15; refine (elens_any a c xs _ HS HR (by omega)).mono ?_; rintro e w1 ⟨g1, ys, rfl, hg1, hyl, hlen, hfit, hr1, hb1⟩)
      have HL := hid hlen
      have HF := hid hfit
      have HB1 := hid hb1
      have hs1 := hb1.size
      have HR1 := hid hr1
      have hl1 := hr1.lt
      rw [← hyl]
      have hyb : (ys.length : Int) ≤ 1024 := by omega
      clear hlen hfit hb1 hr1 hbig' hbig hm HS HR hyl
      go_wp2
      go_loopw [6, 7] (fun uv iv wr => ∃ (k : Nat) (us : List Int) (v : Value), v = uv ∧ k ≤ ys.length ∧ iv = .int .i64 k ∧ us.length ≤ k ∧ Hid (∀ u ∈ us, Used ys u) ∧ Hid (us = [] → ∀ x ∈ ys.take k, x = 0) ∧ Hid (OwnN wr w1.heap.size 3 .i64 v us) ∧ Below w1.heap.size w1 wr) (fun _ iv _ => ys.length - (intOf iv).toNat)
      case atStart => exact ⟨0, [], _, rfl, Nat.zero_le _, rfl, by simp, hid (by simp), hid (by simp), hid (OwnN.nil _ _ _ _), Below.refl _ _⟩
      case round =>
        obtain ⟨k, us, v, rfl, hk, rfl, hul, HU, HZ, HO, hb⟩ := hrel
        have hws := hb.size
        have HOB := hid (owns_lt HO.out)
        by_cases hlt : k < ys.length
        · have hlt' : (k : Int) < (ys.length : Int) := by omega
          have hcell := (HR1.out.below hb hl1).int hlt
          rw [getD_get _ _ hlt] at hcell
          have hx := HL.out _ (List.getElem_mem hlt)
          have HTK : Hid (ys.take (k + 1) = ys.take k ++ [ys[k]]) := hid (List.take_succ_eq_append_getElem hlt)
          by_cases hz : 0 < ys[k]
          · have HU2 : Hid (∀ u ∈ us ++ [(k : Int)], Used ys u) := hid (fun u hu => by
              rcases List.mem_append.1 hu with h' | h'
              · exact HU.out u h'
              · rw [List.mem_singleton] at h'
                rw [h']
                exact ⟨by omega, hlt', by rw [Int.toNat_natCast, getD_get _ _ hlt]; exact hz⟩)
            generalize ys[k] = X at hcell hx hz
            go_wp2_with (at_builtin; refine wpList_appendI _ rfl _ _ 25 rfl w1.heap.size 3 .i64 8 Ycgm.underlying25 (by kernel_rfl) v us rfl (HO.out.alloc _).owns _ (k : Int) rfl (cell_fresh _ _ _ _ (by simp)) (by omega) (by omega) (by simp; omega) ?_; intro g cap w3 hOI hgr hgg)
            go_roundw
            case rel =>
              exact ⟨k + 1, us ++ [(k : Int)], _, rfl, by omega, by go_num, by simp; omega, HU2, hid (by simp), hid (.inr ⟨g, cap, by simp, by simp, hOI⟩), (hb.alloc (by omega) _).grown hgr (by simp; omega) (by intro q hq; have := HOB.out _ hq; omega)⟩
            case measure => simp [intOf]; omega
          · have HZ2 : Hid (us = [] → ∀ x ∈ ys.take (k + 1), x = 0) := hid (fun e x hx' => by
              rw [HTK.out] at hx'
              rcases List.mem_append.1 hx' with h' | h'
              · exact HZ.out e x h'
              · rw [List.mem_singleton] at h'; omega)
            generalize ys[k] = X at hcell hx hz HTK
            go_wp2
            go_roundw
            case rel => exact ⟨k + 1, us, v, rfl, by omega, by go_num, by omega, HU, HZ2, HO, hb⟩
            case measure => simp [intOf]; omega
        · have hlt' : ¬ (k : Int) < (ys.length : Int) := by omega
          have HTA : Hid (ys.take k = ys) := hid (List.take_of_length_le (by omega))
          rw [HTA.out] at HZ
          have hul2 : us.length ≤ 1024 := by omega
          clear hk hul HTA
          obtain ⟨av, cv, rfl, _, hemp, hnem⟩ := HO.out.form2
          have HEMP := hid hemp
          have HNEM := hid hnem
          have HBR := hid hb
          obtain ⟨wA, hwA⟩ : ∃ wA, wr = wA := ⟨_, rfl⟩
          rw [hwA] at HBR HNEM hws ⊢
          clear HO hemp hnem hb hwA HOB
          go_upto_if 49 with fail
          go_cut [5, 6] (fun s5 s6 wx => ∃ (zs ut : List Int) (g5 c5 g6 c6 : Nat), s5 = .slice (some ⟨g5, 0, none⟩) zs.length c5 ∧ s6 = .slice (some ⟨g6, 0, none⟩) ut.length c6 ∧ zs.length ≤ 1025 ∧ 0 < ut.length ∧ ut.length ≤ 1024 ∧ Hid (Lens zs) ∧ Hid (fits zs = true) ∧ Hid (∀ u ∈ ut, Used zs u) ∧ Hid (Sees .u8 wx (some ⟨g5, 0, none⟩) zs) ∧ Hid (Sees .i64 wx (some ⟨g6, 0, none⟩) ut) ∧ Below w.heap.size w wx)
          case first =>
            by_cases hu0 : us = []
            · obtain ⟨rfl, rfl⟩ := HEMP.out hu0
              subst hu0
              have HRA := hid (HR1.out.below HBR.out hl1)
              go_wp2_with (first
                | (at_builtin; refine wpList_appendI _ rfl _ _ 25 rfl w1.heap.size 3 .i64 8 Ycgm.underlying25 (by kernel_rfl) (.slice none 0 0) [] rfl (OwnN.nil _ _ _ _).owns _ (ys.length : Int) rfl (cell_fresh _ _ _ _ (by simp)) (by simp) (by simp) (by simp; omega) ?_; intro gU capU w3 hOU hgr3 hgg3; have hs3 := hgr3.size; simp only [World.size_alloc] at hs3; have hgU : gU = wA.heap.size + 1 := (by rcases hgg3 with h | h; simp [Value.ownBlock] at h; simpa using h); have HRA3 := hid ((HRA.out.alloc _).grown hgr3 (by simp [Value.ownBlock])))
                | (at_builtin; refine wpList_appendI _ rfl _ _ 22 rfl w.heap.size 5 .u8 1 Ycgm.underlying22 (by kernel_rfl) (.slice (some ⟨g1, 0, none⟩) ys.length ys.length) ys rfl (OwnI.ofRow (HRA3.out.alloc _) hg1 (by omega)) _ 1 rfl (cell_fresh _ _ _ _ (by simp)) (by omega) (by omega) (by simp; omega) ?_; intro gY capY w5 hOY hgr5 hgg5))
              go_meet
              refine ⟨ys ++ [1], [(ys.length : Int)], gY, capY, gU, capU, by simp, by simp, by simp; omega, by simp, by simp, hid (lens_one HL.out), hid (fits_one HL.out (by simpa using HZ.out)), hid ?_, hid (hOY.sees (by simp; omega)), hid ?_, ?_⟩
              · intro u hu
                rw [List.mem_singleton] at hu
                rw [hu]
                exact used_last1 ys 1 (by omega)
              · refine OwnI.sees (base := w1.heap.size) (cap := capU) (e := 3) ?_ (by simp)
                exact (OwnI.alloc hOU _).grown hgr5 (by show some gU ≠ some g1; intro e; injection e with e; omega)
              · exact (((HB1.out.trans (HBR.out.mono hs1)).alloc (by omega) _).grown hgr3 (by simp; omega) (by simp [Value.ownBlock]) |>.alloc (by omega) _).grown hgr5 (by simp; omega) (by intro z hz; have hz' : some g1 = some z := hz; simp at hz'; omega)
            · obtain ⟨gU, rfl, hOU⟩ := HNEM.out hu0
              have hu1 : ((us.length : Int) == 0) = false := by
                have := List.length_pos_iff.2 hu0
                simp; exact hu0
              have hu2 : 0 < us.length := List.length_pos_iff.2 hu0
              have HOU := hid hOU
              clear hOU
              go_wp2_with fail
              go_meet
              exact ⟨ys, us, g1, ys.length, gU, cv, rfl, rfl, by omega, hu2, hul2, HL, HF, HU, hid (Sees.row (HR1.out.below HBR.out hl1) (by omega)), hid (HOU.out.sees (by omega)), HB1.out.trans (HBR.out.mono hs1)⟩
          case rest =>
          obtain ⟨zs, ut, g5, c5, g6, c6, rfl, rfl, hzl, hut0, hut1, HLZ, HFZ, HUZ, HSZ, HSU, hbc⟩ := hcut
          have HBC := hid hbc
          have hsc := hbc.size
          have HKZ := hid ((fits_iff zs).1 HFZ.out).2
          have HRY := hid HLZ.out.range
          have h6 : zs.length ≤ 100000 := by omega
          have HCL : Hid ((cntFrom cnt0 zs).length = 16) := cntFrom_length zs cnt0
          have HFL := hid (firsts_length (cntFrom cnt0 zs))
          generalize hcn : cntFrom cnt0 zs = cn at HCL HFL
          have HCN := hid hcn
          have HAC := hid (HA.out.below hbc (Nat.le_refl _))
          clear hcn hbc HL HF HR1 HEMP HNEM HBR HU HZ HB1 HA
          go_upto_region 16 with (first
            | (go_at_call 16; refine (newtable_yes _ _ _ zs _ rfl HSZ HRY HFZ h6).mono ?_; rintro e w2 ⟨gc, go, _, ord, rfl, hgc, hgo, rfl, hord, hrc, hro, hb2⟩; rw [HCN.out])
            | (refine wpList_storeRow rfl 31 _ _ rfl _ (tabCells (.slice (some ⟨gc, 0, none⟩) zs.length zs.length) cn (firsts cn) (.slice (some ⟨go, 0, none⟩) ord.length ord.length)) rfl rfl _ (tabCells (.slice none 0 0) (List.replicate 16 0) (List.replicate 16 0) (.slice none 0 0)) (RowV.fresh _ _ (tabCells (.slice none 0 0) (List.replicate 16 0) (List.replicate 16 0) (.slice none 0 0)) _ rfl) (by rw [tabCells_length _ _ _ _ HCL HFL]; kernel_rfl) (by rw [tabCells_length _ _ _ _ HCL HFL]; rfl) (tab_one _ _ _ _ _ _ _ _) ?_; intro w3 hr3 hg3
               have hs2 := hb2.size
               have hs3 := hg3.size
               simp only [World.size_alloc] at hs3
               have HB3 : Hid (Below wc.heap.size wc w3) := hid ((hb2.alloc (by omega) _).grown hg3 (by simp; omega) (by intro k h; cases h; omega))
               have HRO : Hid (RowV w3 go 3 (ints .i64 ord)) := hid ((hro.alloc _).grown hg3 (by simp; have := hro.lt; omega))
               have HRC : Hid (RowV w3 gc 36 (flat (assignV zs))) := hid ((hrc.alloc _).grown hg3 (by simp; have := hrc.lt; omega))
               have HO := hid hord
               have HR3 := hid hr3
               clear hg3 hb2 hrc hro hr3 hord))
          have HSU3 := hid (HSU.out.below HB3.out (Nat.le_refl _))
          have HSP3 := hid (HAC.out.below HB3.out (Nat.le_refl _))
          have HBT : Hid (Below w.heap.size w w3) := hid (HBC.out.trans (HB3.out.mono hsc))
          have hsT := HBT.out.size
          obtain ⟨gT, hgT⟩ : ∃ gT, w2.heap.size = gT := ⟨_, rfl⟩
          rw [hgT] at HR3 ⊢
          have hlT := HR3.out.lt
          have hlC := HRC.out.lt
          clear HSU HAC HSZ HBC HB3
          go_wp2
          go_loopw [10, 11, 12, 13, 14] (fun dv wv nv lv iv wr => ∃ (k N : Nat) (La : Int) (vd vw : Value) (ds ws : List Int), vd = dv ∧ vw = wv ∧ k ≤ ps.length ∧ iv = .int .i64 k ∧ nv = .int .i64 N ∧ lv = .int .i64 La ∧ N ≤ 15 * k ∧ Hid (ws.length = k) ∧ Hid (N = (encB (assignV zs) ws).length) ∧ Hid (Holds ds (encB (assignV zs) ws)) ∧ Hid (∀ x ∈ ds, 0 ≤ x ∧ x ≤ 255) ∧ Hid (∀ s ∈ ws, Used zs s) ∧ Hid ((ws = [] ∧ La = 0) ∨ ∃ ini s, ws = ini ++ [s] ∧ La = zs[s.toNat]?.getD 0) ∧ Hid (OwnN wr w3.heap.size 5 .u8 vd ds) ∧ Hid (OwnN wr w3.heap.size 3 .i64 vw ws) ∧ Hid (Apart vd vw) ∧ Below w3.heap.size w3 wr) (fun _ _ _ _ iv _ => ps.length - (intOf iv).toNat)
          case atStart => exact ⟨0, 0, 0, _, _, [], [], rfl, rfl, Nat.zero_le _, rfl, rfl, rfl, by omega, hid rfl, hid rfl, hid ⟨by simp [encB], fun j => by rw [bitD_past _ _ (by simp)]; simp [encB]⟩, hid (by simp), hid (by simp), hid (.inl ⟨rfl, rfl⟩), hid (OwnN.nil _ _ _ _), hid (OwnN.nil _ _ _ _), hid (.inl rfl), Below.refl _ _⟩
          case round =>
            obtain ⟨k, N, La, vd, vw, ds, ws, rfl, rfl, hk, rfl, rfl, rfl, hNk, HWL, HNE, HH, HDR, HUW, HLA, HOD, HOW, HAP, hb⟩ := hrel
            have hws := hb.size
            have HOBD := hid (owns_lt HOD.out)
            have HOBW := hid (owns_lt HOW.out)
            have hwl : ws.length ≤ 1024 := by rw [HWL.out]; omega
            by_cases hlt : k < ps.length
            · have hlt' : (k : Int) < (ps.length : Int) := by omega
              obtain ⟨b, off, rfl, hbs, hcell⟩ := HSP3.out.2 k hlt
              have hx := HAR.out _ (List.getElem_mem hlt)
              replace hcell := (hb.cell hbs).trans hcell
              rw [getD_get _ _ hlt] at hcell
              generalize ps[k] = P at hcell hx
              obtain ⟨P', rfl⟩ : ∃ P' : Nat, P = (P' : Int) := ⟨P.toNat, by omega⟩
              obtain ⟨q, hq⟩ : ∃ q : Nat, P' % ut.length = q := ⟨_, rfl⟩
              have hqn : q < ut.length := by rw [← hq]; exact Nat.mod_lt _ hut0
              have hq1 : (P' : Int).tmod (ut.length : Int) = (q : Int) := by rw [← hq]; rfl
              have hq2 : (P' : Int) % (ut.length : Int) = (q : Int) := by rw [← hq]; rfl
              obtain ⟨b2, off2, hbo, hbs2, hcell2⟩ := HSU3.out.2 q hqn
              obtain ⟨rfl, rfl⟩ : g6 = b2 ∧ 0 = off2 := by simpa using hbo
              rw [Nat.zero_add] at hcell2
              replace hcell2 := (hb.cell hbs2).trans hcell2
              rw [getD_get _ _ hqn] at hcell2
              have hus := HUZ.out _ (List.getElem_mem hqn)
              generalize ut[q] = s at hcell2 hus
              have hul := used_len HLZ.out hus
              have HSYM := hid (used_sym HLZ.out HKZ.out hus)
              have HUS := hid hus
              obtain ⟨hs0, hs1', _⟩ := hus
              obtain ⟨n, rfl⟩ : ∃ n : Nat, s = (n : Int) := ⟨s.toNat, by omega⟩
              have hn : n < zs.length := by omega
              have hn' : (n : Int) < (zs.length : Int) := by omega
              rw [Int.toNat_natCast, getD_get _ _ hn] at hul HSYM
              have HCR : Hid (∀ wx, Below w3.heap.size w3 wx → wx.cell? ⟨gc, n * 2, none⟩ = some (.int .u32 (codeB zs zs[n] n)) ∧ wx.cell? ⟨gc, n * 2 + 1, none⟩ = some (.int .u8 zs[n]) ∧ wx.cell? ⟨gT, 0, none⟩ = some (.slice (some ⟨gc, 0, none⟩) zs.length zs.length)) := hid (fun wx hbx => by
                have h1 := code_row (HRC.out.below hbx hlC) HLZ.out HKZ.out n hn
                rw [if_pos hul.1] at h1
                exact ⟨h1.1, h1.2, (HR3.out.below hbx hlT).cell (tab_get0 _ _ _ _)⟩)
              have hcb := codeB_lt zs HLZ.out HKZ.out n hn hul.1
              have HLN : Hid (zs[n]?.getD 0 = zs[n]) := hid (getD_get _ _ hn)
              generalize zs[n] = L at hul HSYM HCR hcb HLN
              generalize codeB zs L n = B at HSYM HCR hcb
              obtain ⟨l, rfl⟩ : ∃ l : Nat, L = (l : Int) := ⟨L.toNat, by omega⟩
              rw [Int.toNat_natCast] at hcb
              have hp15 := pow_le_32768 l (by omega)
              have HENC : Hid (encB (assignV zs) (ws ++ [(n : Int)]) = encB (assignV zs) ws ++ bitsOf (B, (l : Int))) := hid (by rw [encB_snoc, HSYM.out])
              have HBSL : Hid ((bitsOf (B, (l : Int))).length = l) := hid (by rw [bitsOf_length _ (by simp; omega)]; simp)
              go_wp2_with (at_builtin; refine wpList_appendI _ rfl _ _ 25 rfl w3.heap.size 3 .i64 8 Ycgm.underlying25 (by kernel_rfl) vw ws rfl (HOW.out.alloc _).owns _ (n : Int) rfl (cell_fresh _ _ _ _ (by simp)) (by omega) (by omega) (by simp; omega) ?_; intro gw capw w4 hOIW hgrw hggw; have hb4 : Below w3.heap.size w3 w4 := (hb.alloc (by omega) _).grown hgrw (by simp; omega) (by intro z hz; have := HOBW.out _ hz; omega); obtain ⟨e0, e1, e2⟩ := HCR.out w4 hb4)
              have hs4 := hgrw.size
              simp only [World.size_alloc] at hs4
              have hOW4 := hOIW.at
              have HOW5 : Hid (OwnN (w4.alloc (.cells #[.int .u32 B, .int .u8 (l : Int)] 36)) w3.heap.size 3 .i64 (.slice (some ⟨gw, 0, none⟩) (ws.length + 1) capw) (ws ++ [(n : Int)])) := hid (.inr ⟨gw, capw, by simp, by simp, OwnI.alloc hOIW _⟩)
              have HOD5 : Hid (OwnN (w4.alloc (.cells #[.int .u32 B, .int .u8 (l : Int)] 36)) w3.heap.size 5 .u8 vd ds) := hid (((HOD.out.alloc _).grown hgrw HAP.out).alloc _)
              have HAP5 : Hid (Apart vd (.slice (some ⟨gw, 0, none⟩) (ws.length + 1) capw)) := hid (HAP.out.new hggw (fun z hz => by have := HOBD.out z hz; simp; omega))
              have HNX : Hid (vd.ownBlock ≠ some w4.heap.size) := hid (fun e => by have := HOBD.out _ e; omega)
              have HBX := hid (RowV.fresh w4 36 [.int .u32 B, .int .u8 (l : Int)] _ rfl)
              have HB5 : Hid (Below w3.heap.size w3 (w4.alloc (.cells #[.int .u32 B, .int .u8 (l : Int)] 36))) := hid (hb4.alloc (by omega) _)
              obtain ⟨gX, hgX⟩ : ∃ gX, w4.heap.size = gX := ⟨_, rfl⟩
              obtain ⟨vW, hvW⟩ : ∃ vW, Value.slice (some ⟨gw, 0, none⟩) (ws.length + 1) capw = vW := ⟨_, rfl⟩
              have hgX3 : w3.heap.size ≤ gX := by omega
              rw [hgX] at HNX HBX ⊢
              rw [hvW] at HOW5 HAP5 ⊢
              have HVW := hid hvW
              generalize w4.alloc (.cells #[.int .u32 B, .int .u8 (l : Int)] 36) = w5 at HOW5 HOD5 HBX HB5
              clear hOIW hgrw hggw hb4 e0 e1 e2 hcell hcell2 HOW HOD HAP hb hvW hgX hOW4 HOBW HOBD hs4
              go_loopw [10, 12, 17] (fun dv nv kv wx => ∃ (t M : Nat) (vd : Value) (ds : List Int), vd = dv ∧ t ≤ l ∧ Hid (M = N + t) ∧ M ≤ 20000 ∧ kv = .int .i64 ((l : Int) - 1 - t) ∧ nv = .int .i64 M ∧ Hid (ds.length = (M + 7) / 8) ∧ Hid (∀ j, bitD ds j = (encB (assignV zs) ws ++ (bitsOf (B, (l : Int))).take t)[j]?.getD false) ∧ Hid (∀ x ∈ ds, 0 ≤ x ∧ x ≤ 255) ∧ Hid (OwnN wx w3.heap.size 5 .u8 vd ds) ∧ Hid (OwnN wx w3.heap.size 3 .i64 vW (ws ++ [(n : Int)])) ∧ Hid (Apart vd vW) ∧ Hid (vd.ownBlock ≠ some gX) ∧ RowV wx gX 36 [.int .u32 B, .int .u8 (l : Int)] ∧ Below w3.heap.size w3 wx) (fun _ _ kv _ => (intOf kv + 1).toNat)
              case atStart =>
                refine ⟨0, N, _, ds, rfl, Nat.zero_le _, hid rfl, by omega, by simp, rfl, hid (by rw [HH.out.1, ← HNE.out]), hid (by simpa using HH.out.2), HDR, HOD5, HOW5, HAP5, HNX, HBX.out, HB5.out⟩
              case round =>
                obtain ⟨t, M, vd, ds, rfl, ht, HM, hMb, rfl, rfl, HDL, HBT, HDR, HOD, HOW, HAP, HNX, hbx, hb⟩ := hrel
                have hws2 := hb.size
                have x0 := hbx.cell (i := 0) rfl
                have hxl := hbx.lt
                by_cases htl : t < l
                · obtain ⟨ee, hee⟩ : ∃ ee : Nat, ee + t + 1 = l := ⟨l - 1 - t, by omega⟩
                  have hsub : (l : Int) - 1 - (t : Int) = (ee : Int) := by omega
                  have hbd := div_pow_bd B ee hcb.1
                  have hA := and1_u32 (B / 2 ^ ee) hbd.1 (by omega)
                  have HTT := hid (bitsOf_take' B l t (by omega) htl)
                  rw [show l - 1 - t = ee from by omega] at HTT
                  rw [hsub]
                  have hee15 : ee ≤ 15 := by omega
                  have HOBD := hid (owns_lt HOD.out)
                  have HBLN : Hid ((encB (assignV zs) ws ++ (bitsOf (B, (l : Int))).take t).length = M) := hid (by
                    rw [List.length_append, List.length_take, HBSL.out, ← HNE.out, HM.out]; omega)
                  have HKV : Hid ((ee : Int) - 1 = (l : Int) - 1 - ((t + 1 : Nat) : Int)) := hid (by omega)
                  have HM2 : Hid (M + 1 = N + (t + 1)) := hid (by rw [HM.out]; omega)
                  have hMb2 : M + 1 ≤ 20000 := by have := HM.out; omega
                  generalize hR : B / 2 ^ ee = R at hA HTT hbd
                  have hdb2 : ds.length ≤ 3000 := by rw [HDL.out]; omega
                  have HOBW2 := hid (owns_lt HOW.out)
                  by_cases hm8 : M % 8 = 0
                  · have hm8' : ((M : Int) % 8 == 0) = true := by simp; omega
                    have HDM : Hid (M / 8 = ds.length) := hid (by rw [HDL.out]; omega)
                    have hDp : M / 8 < (ds ++ [0]).length := by rw [HDM.out]; simp
                    have hX0 : (ds ++ [0])[M / 8]?.getD 0 = 0 := by rw [HDM.out]; simp
                    have hmk : (2 : Int) ^ (7 - M % 8) % 256 = 128 := by rw [hm8]; decide
                    have HOR := hid (or_bit2 0 (M % 8) (by omega) (by omega) (by omega))
                    rw [hmk] at HOR
                    clear hmk
                    have HST := hid (fun j => bitD_set_true (ds ++ [0]) M _ hDp (by rw [hX0]; exact HOR.out.2) j)
                    have hyo := HOR.out.1
                    have HDR2 : Hid (∀ x ∈ ds ++ [0], 0 ≤ x ∧ x ≤ 255) := hid (fun x hx => by
                      rcases List.mem_append.1 hx with h' | h'
                      · exact HDR.out x h'
                      · rw [List.mem_singleton] at h'; omega)
                    have hDn : (M : Int) / 8 < (ds.length : Int) + 1 := by have := HDM.out; omega
                    clear hX0 hDp
                    by_cases hq : R % 2 = 1
                    · have hq' : (R % 2 == 1) = true := by simpa using hq
                      go_wp2_with (at_builtin; refine wpList_appendI _ rfl _ _ 22 rfl w3.heap.size 5 .u8 1 Ycgm.underlying22 (by kernel_rfl) vd ds rfl (HOD.out.alloc _).owns _ 0 rfl (cell_fresh _ _ _ _ (by simp)) (by omega) (by omega) (by simp; omega) ?_; intro g cap w6 hOI hgr hgg; have hs6 := hgr.size; simp only [World.size_alloc] at hs6; have r6 : RowV w6 gX 36 [.int .u32 B, .int .u8 (l : Int)] := (hbx.alloc _).grown hgr (fun e => HNX.out e.symm); have x6 := r6.cell (i := 0) rfl; have hne1 : g ≠ gX := (by rcases hgg with hgg | hgg; exact (fun e => HNX.out (by rw [hgg, e])); simp at hgg; omega); have hg6 := hOI.at; have d6 : w6.cell? ⟨g, M / 8, none⟩ = some (.int .u8 0) := (by rw [HDM.out, hOI.int (i := ds.length) (by simp)]; simp); have fd6 := hOI.frozen (M / 8); have HOW6 := hid ((HOW.out.alloc _).grown hgr HAP.out.symm); have HAP6 : Hid (Apart vW (.slice (some ⟨g, 0, none⟩) (ds.length + 1) cap)) := hid (HAP.out.symm.new hgg (fun z hz => by have := HOBW2.out z hz; simp; omega)); have HB6 : Hid (Below w3.heap.size w3 w6) := hid ((hb.alloc (by omega) _).grown hgr (by simp; omega) (by intro z hz; have := HOBD.out _ hz; omega)); clear x0)
                      go_roundw
                      case rel =>
                        refine ⟨t + 1, M + 1, _, (ds ++ [0]).set (M / 8) (bits .or .u8 0 128), rfl, by omega, HM2, hMb2, by rw [HKV.out], by go_num, hid ?_, hid (bit_push HTT.out HBLN.out HBT.out (fun j => by rw [hq', HST.out j, bitD_snoc]; simp)), hid (range_set _ _ _ HDR2.out hyo), hid (.inr ⟨g, cap, by simp, ?_, hOI.set _ _⟩), hid (HOW6.out.otherB _ _ ?_), hid HAP6.out.symm, hid ?_, r6.other _ _ (by simp; omega), HB6.out.setCell (by simp; omega) _⟩
                        · rw [List.length_set, List.length_append, List.length_singleton, HDL.out]; omega
                        · intro e; have := congrArg List.length e; rw [List.length_set, List.length_append] at this; simp at this
                        · rcases HAP6.out with h' | h'
                          · rw [h']; simp
                          · exact h'
                        · show some g ≠ some gX
                          intro e; injection e with e; exact hne1 e
                      case measure => simp [intOf] <;> omega
                    · have hq' : (R % 2 == 1) = false := by simpa using hq
                      go_wp2_with (at_builtin; refine wpList_appendI _ rfl _ _ 22 rfl w3.heap.size 5 .u8 1 Ycgm.underlying22 (by kernel_rfl) vd ds rfl (HOD.out.alloc _).owns _ 0 rfl (cell_fresh _ _ _ _ (by simp)) (by omega) (by omega) (by simp; omega) ?_; intro g cap w6 hOI hgr hgg; have hs6 := hgr.size; simp only [World.size_alloc] at hs6; have r6 : RowV w6 gX 36 [.int .u32 B, .int .u8 (l : Int)] := (hbx.alloc _).grown hgr (fun e => HNX.out e.symm); have x6 := r6.cell (i := 0) rfl; have hne1 : g ≠ gX := (by rcases hgg with hgg | hgg; exact (fun e => HNX.out (by rw [hgg, e])); simp at hgg; omega); have hg6 := hOI.at; have d6 : w6.cell? ⟨g, M / 8, none⟩ = some (.int .u8 0) := (by rw [HDM.out, hOI.int (i := ds.length) (by simp)]; simp); have fd6 := hOI.frozen (M / 8); have HOW6 := hid ((HOW.out.alloc _).grown hgr HAP.out.symm); have HAP6 : Hid (Apart vW (.slice (some ⟨g, 0, none⟩) (ds.length + 1) cap)) := hid (HAP.out.symm.new hgg (fun z hz => by have := HOBW2.out z hz; simp; omega)); have HB6 : Hid (Below w3.heap.size w3 w6) := hid ((hb.alloc (by omega) _).grown hgr (by simp; omega) (by intro z hz; have := HOBD.out _ hz; omega)); clear x0)
                      go_roundw
                      case rel =>
                        refine ⟨t + 1, M + 1, _, ds ++ [0], rfl, by omega, HM2, hMb2, by rw [HKV.out], by go_num, hid ?_, hid (bit_push HTT.out HBLN.out HBT.out (fun j => by rw [hq', bitD_snoc]; simp)), HDR2, hid (.inr ⟨g, cap, by simp, by simp, hOI⟩), HOW6, hid HAP6.out.symm, hid ?_, r6, HB6.out⟩
                        · rw [List.length_append, List.length_singleton, HDL.out]; omega
                        · show some g ≠ some gX
                          intro e; injection e with e; exact hne1 e
                      case measure => simp [intOf] <;> omega
                  · have hm8' : ((M : Int) % 8 == 0) = false := by simp; omega
                    have hDp : M / 8 < ds.length := by rw [HDL.out]; omega
                    obtain ⟨av, cv, rfl, _, _, hnem⟩ := HOD.out.form2
                    obtain ⟨g, rfl, hOI⟩ := hnem (by intro e; rw [e] at hDp; simp at hDp)
                    have hg0 := hOI.at
                    have hne1 : g ≠ gX := fun e => HNX.out (by rw [e]; rfl)
                    have d0 := hOI.int hDp
                    have fd0 := hOI.frozen (M / 8)
                    have hxr := range_get ds HDR (M / 8)
                    have HOR := hid (or_bit2 _ (M % 8) hxr.1 hxr.2 (by omega))
                    have HST := hid (fun j => bitD_set_true ds M _ hDp HOR.out.2 j)
                    have hyo := HOR.out.1
                    generalize ds[M / 8]?.getD 0 = X at d0 hxr HOR HST hyo
                    have hDn : (M : Int) / 8 < (ds.length : Int) := by omega
                    have HLEN2 : Hid (ds.length = (M + 1 + 7) / 8) := hid (by rw [HDL.out]; omega)
                    by_cases hq : R % 2 = 1
                    · have hq' : (R % 2 == 1) = true := by simpa using hq
                      go_wp2
                      go_roundw
                      case rel =>
                        refine ⟨t + 1, M + 1, _, ds.set (M / 8) (bits .or .u8 X (2 ^ (7 - M % 8) % 256)), rfl, by omega, HM2, hMb2, by rw [HKV.out], by go_num, hid (by rw [List.length_set]; exact HLEN2.out), hid (bit_push HTT.out HBLN.out HBT.out (fun j => by rw [hq', HST.out j]; simp)), hid (range_set _ _ _ HDR.out hyo), hid (.inr ⟨g, cv, by simp, ?_, hOI.set _ _⟩), hid (HOW.out.otherB _ _ ?_), HAP, HNX, hbx.other _ _ (by simp; omega), hb.setCell (by simp; omega) _⟩
                        · intro e; have := congrArg List.length e; rw [List.length_set] at this; simp at this; rw [this] at hDp; simp at hDp
                        · rcases HAP.out.symm with h' | h'
                          · rw [h']; simp
                          · exact h'
                      case measure => simp [intOf] <;> omega
                    · have hq' : (R % 2 == 1) = false := by simpa using hq
                      go_wp2
                      go_roundw
                      case rel => exact ⟨t + 1, M + 1, _, ds, rfl, by omega, HM2, hMb2, by rw [HKV.out], by go_num, HLEN2, hid (bit_push HTT.out HBLN.out HBT.out (fun j => by rw [hq']; simp)), HDR, HOD, HOW, HAP, HNX, hbx, hb⟩
                      case measure => simp [intOf] <;> omega
                · have htl2 : t = l := by omega
                  have hsub : (l : Int) - 1 - (t : Int) = -1 := by omega
                  rw [hsub]
                  have HT2 : Hid ((bitsOf (B, (l : Int))).take t = bitsOf (B, (l : Int))) := hid (List.take_of_length_le (by rw [HBSL.out]; omega))
                  have HN2 : Hid (M = (encB (assignV zs) (ws ++ [(n : Int)])).length) := hid (by rw [HENC.out, List.length_append, HBSL.out, ← HNE.out, HM.out, htl2])
                  rw [HT2.out, ← HENC.out] at HBT
                  have HH2 : Hid (Holds ds (encB (assignV zs) (ws ++ [(n : Int)]))) := hid ⟨by rw [HDL.out, HN2.out], HBT.out⟩
                  have HWL2 : Hid ((ws ++ [(n : Int)]).length = k + 1) := hid (by rw [List.length_append, HWL.out]; rfl)
                  have HUW2 : Hid (∀ s ∈ ws ++ [(n : Int)], Used zs s) := hid (fun x hx => by
                    rcases List.mem_append.1 hx with h' | h'
                    · exact HUW.out x h'
                    · rw [List.mem_singleton] at h'; rw [h']; exact HUS.out)
                  have HLA2 : Hid ((ws ++ [(n : Int)] = [] ∧ (l : Int) = 0) ∨ ∃ ini s, ws ++ [(n : Int)] = ini ++ [s] ∧ (l : Int) = zs[s.toNat]?.getD 0) := hid (.inr ⟨ws, (n : Int), rfl, by rw [Int.toNat_natCast, HLN.out]⟩)
                  have hMk : M ≤ 15 * (k + 1) := by have := HM.out; omega
                  clear htl2
                  go_wp2
                  go_roundw
                  case rel => exact ⟨k + 1, M, (l : Int), vd, vW, ds, ws ++ [(n : Int)], rfl, rfl, by omega, by go_num, rfl, rfl, hMk, HWL2, HN2, HH2, HDR, HUW2, HLA2, HOD, HOW, HAP, hb⟩
                  case measure => simp [intOf]; omega
            · have hlt' : ¬ (k : Int) < (ps.length : Int) := by omega
              obtain ⟨ad, cd, rfl, hsd, _⟩ := HOD.out.form (by rw [HH.out.1, ← HNE.out]; omega)
              obtain ⟨aw, cw, rfl, hsw, hnw⟩ := HOW.out.form (by omega)
              have HSD := hid hsd
              have HSW := hid hsw
              have HRT := hid (HR3.out.below hb hlT)
              have HROW := hid (HRO.out.below hb HRO.out.lt)
              have HBE : Hid (Below w.heap.size w wr) := hid (HBT.out.trans (hb.mono hsT))
              have hdl : ds.length ≤ 3000 := by rw [HH.out.1, ← HNE.out]; omega
              have HDEC : Hid (DecR zs ds (N : Int) 0 [] ws 0) := hid (by rw [HNE.out]; exact dec_all HLZ.out HKZ.out ds ws HUW.out HH.out)
              have hNb : N ≤ 20000 := by omega
              have hsE := HBE.out.size
              clear hsd hsw hb HR3 HRO HOD HAP HOBD HOBW
              go_upto_region 36 with (first
                | (refine wpList_loadRow rfl 31 _ rfl _ rfl _ _ _ HRT.out Ycgm.underlying31 rfl (by rw [tabCells_length _ _ _ _ HCL HFL]; kernel_rfl) ?_)
                | (go_at_call 17
                   have hdc := decode_any zs ds (some ⟨gc, 0, none⟩) zs.length zs.length go ord ad ds.length cd (N : Int) wr HLZ HKZ h6 HO HROW rfl HSD HDR (by omega) (by omega)
                   rw [HCN.out] at hdc
                   refine hdc.mono ?_
                   rintro e w6 ⟨out, st, vg, rfl, hdr6, how6, hol6, hb6⟩
                   obtain ⟨rfl, rfl⟩ := DecR.det HLZ.out HDEC.out hdr6
                   obtain ⟨ag, cg, rfl, _, hemp6, _⟩ := how6.form2
                   have hsg : Sees .i64 w6 ag ws := (by obtain ⟨_, _, he, h2, _⟩ := how6.form (by omega); injection he with h3 h4 h5; rw [h3]; exact h2)
                   clear hdc hdr6))
              have HSG := hid hsg
              have HEMP6 := hid hemp6
              have HB6 := hid hb6
              have hs6 := hb6.size
              clear hsg hemp6 hb6 how6
              go_upto_region 38 with (go_at_call 18; refine (esame_yes _ _ _ _ _ _ ws _ rfl rfl HSG (HSW.out.below HB6.out (Nat.le_refl _))).mono ?_; rintro e w7 ⟨rfl, hb7⟩)
              have hs7 := hb7.size
              have HB7 : Hid (Below wr.heap.size wr w7) := hid (HB6.out.trans (hb7.mono hs6))
              have HBF : Hid (Below w.heap.size w w7) := hid (HBE.out.trans (HB7.out.mono hsE))
              clear hb7
              have hnil := fun (wx : World) (ax : Option Addr) (lx cx : Nat) => Lib.run_eql_slice_nil (P := Ycgm.prog) wx 25 3 ax lx cx 0 0 Ycgm.underlying25
              by_cases hw0 : ws = []
              · obtain ⟨rfl, rfl⟩ := HEMP6.out hw0
                subst hw0
                go_wp2
                go_ret
                exact ⟨by simp, HBF.out⟩
              · obtain ⟨ini, s, hwe, hla⟩ : ∃ ini s, ws = ini ++ [s] ∧ La = zs[s.toNat]?.getD 0 := by
                  rcases HLA.out with h | h
                  · exact absurd h.1 hw0
                  · exact h
                have hwl2 : ws.length = ini.length + 1 := by rw [hwe]; simp
                obtain ⟨gW, rfl, hcap⟩ : ∃ gW, aw = some ⟨gW, 0, none⟩ ∧ ws.length ≤ cw := by
                  rcases HOW.out with ⟨_, e⟩ | ⟨g, cap, he, _, hoi⟩
                  · exact absurd e hw0
                  · injection he with h1 h2 h3
                    refine ⟨g, h1, ?_⟩
                    rcases hoi.2 with ⟨h', _⟩ | ⟨g', cap', cur, h', _, _, r2, _⟩
                    · simp at h'
                    · injection h' with _ _ h4
                      rw [h3, h4]; exact r2
                have HSI : Hid (Sees .i64 w7 (some ⟨gW, 0, none⟩) ini) := hid (sees_prefix (x := s) (by rw [← hwe]; exact HSW.out.below HB7.out (Nat.le_refl _)))
                have HRT7 := hid (HRT.out.below HB7.out HRT.out.lt)
                have HROW7 := hid (HROW.out.below HB7.out HROW.out.lt)
                have HSD7 := hid (HSD.out.below HB7.out (Nat.le_refl _))
                have HU2 : Hid (∀ x ∈ ini ++ [s], Used zs x) := hid (by rw [← hwe]; exact HUW.out)
                have HH2 : Hid (Holds ds (encB (assignV zs) (ini ++ [s]))) := hid (by rw [← hwe]; exact HH.out)
                have HN2 : Hid (((N : Nat) : Int) - 1 = ((encB (assignV zs) (ini ++ [s])).length : Nat) - 1) := hid (by rw [← hwe, ← HNE.out])
                have hini : ini.length ≤ 1024 := by omega
                have hcap2 : (ini.length : Int) + 1 ≤ (cw : Int) := by omega
                have HLAE := hid hla
                rw [hwl2]
                clear hw0 hwe hla hwl2 hcap HLA HWL HSW HSG HUW HH HNE HOW HEMP6 HB6 HB7 HRT HROW HSD hnw hlt hlt' hk hNk
                by_cases hL1 : La = 1
                · have HDC : Hid (DecR zs ds ((N : Int) - 1) 0 [] ini 0) := hid (dec_cut1 HLZ.out HKZ.out ds ini s HU2.out HH2.out (by rw [← HLAE.out]; exact hL1) _ HN2.out)
                  subst hL1
                  go_upto_region 41 with (first
                    | (refine wpList_loadRow rfl 31 _ rfl _ rfl _ _ _ HRT7.out Ycgm.underlying31 rfl (by rw [tabCells_length _ _ _ _ HCL HFL]; kernel_rfl) ?_)
                    | (go_at_call 17
                       have hdc := decode_any zs ds (some ⟨gc, 0, none⟩) zs.length zs.length go ord ad ds.length cd ((N : Int) - 1) w7 HLZ HKZ h6 HO HROW7 rfl HSD7 HDR (by omega) (by omega)
                       rw [HCN.out] at hdc
                       refine hdc.mono ?_
                       rintro e w8 ⟨out, st, vg, rfl, hdr8, how8, hol8, hb8⟩
                       obtain ⟨rfl, rfl⟩ := DecR.det HLZ.out HDC.out hdr8
                       clear hdc hdr8))
                  obtain ⟨ac, cc, rfl, hsc2, _⟩ := how8.form (by omega)
                  have HSC2 := hid hsc2
                  have hs8 := hb8.size
                  have HSI8 := hid (HSI.out.below hb8 (Nat.le_refl _))
                  have HBG : Hid (Below w.heap.size w w8) := hid (HBF.out.trans (hb8.mono HBF.out.size))
                  clear how8 hsc2 hb8
                  go_wp2_with (go_at_call 18; refine (esame_yes _ _ _ _ _ _ ini _ rfl rfl HSC2 HSI8).mono ?_; rintro e w9 ⟨rfl, hb9⟩)
                  go_ret
                  exact ⟨by simp, HBG.out.trans (hb9.mono HBG.out.size)⟩
                · have HDC : Hid (DecR zs ds ((N : Int) - 1) 0 [] [] 1) := hid (dec_cut2 HLZ.out HKZ.out ds ini s HU2.out HH2.out (by rw [← HLAE.out]; exact hL1) _ HN2.out)
                  have hL1' : (La == 1) = false := by simpa using hL1
                  go_upto_region 41 with (first
                    | (refine wpList_loadRow rfl 31 _ rfl _ rfl _ _ _ HRT7.out Ycgm.underlying31 rfl (by rw [tabCells_length _ _ _ _ HCL HFL]; kernel_rfl) ?_)
                    | (go_at_call 17
                       have hdc := decode_any zs ds (some ⟨gc, 0, none⟩) zs.length zs.length go ord ad ds.length cd ((N : Int) - 1) w7 HLZ HKZ h6 HO HROW7 rfl HSD7 HDR (by omega) (by omega)
                       rw [HCN.out] at hdc
                       refine hdc.mono ?_
                       rintro e w8 ⟨out, st, vg, rfl, hdr8, how8, hol8, hb8⟩
                       obtain ⟨rfl, rfl⟩ := DecR.det HLZ.out HDC.out hdr8
                       clear hdc hdr8))
                  obtain ⟨ac, cc, rfl, _, hemp8, _⟩ := how8.form2
                  obtain ⟨rfl, rfl⟩ := hemp8 rfl
                  have HBG : Hid (Below w.heap.size w w8) := hid (HBF.out.trans (hb8.mono HBF.out.size))
                  clear how8 hb8 hemp8
                  go_wp2
                  go_ret
                  exact ⟨by simp, HBG.out⟩
end Go.Proofs.Ymbrcg
