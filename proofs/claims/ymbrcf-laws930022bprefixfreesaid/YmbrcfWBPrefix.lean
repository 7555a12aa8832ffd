/- huff.LawS930022BPrefixFree, walked. -/
import Derived.Test.YmbrcfWB2
namespace Go.Proofs.Ymbrcf
open Go.RowKit
set_option linter.unusedVariables false
set_option linter.unusedSimpArgs false

theorem wt_split (x y : Int) (h0 : 0 < x) (h1 : x ≤ y) (h2 : y ≤ 15) : wt x = 2 ^ (y - x).toNat * wt y := by
  rw [wt_shl x h0 (by omega), wt_shl y (by omega) h2, ← Int.pow_add]
  congr 1
  omega
theorem prefix_lt (xs : List Int) (h : Lens xs) (hk : ksum xs ≤ 32768) (i j : Nat) (hi : i < xs.length) (hj : j < xs.length) (h0 : 0 < xs[i]) (hb : xs[i] < xs[j] ∨ (xs[i] = xs[j] ∧ i < j)) :
    codeB xs xs[i] i < codeB xs xs[j] j / 2 ^ (xs[j] - xs[i]).toNat := by
  have hxi := h _ (List.getElem_mem hi)
  have hxj := h _ (List.getElem_mem hj)
  have hp := pos_before xs h i j hi hj h0 hb
  rw [← codeB_pos xs h hk xs[i] h0 hxi.2 i, ← codeB_pos xs h hk xs[j] (by omega) hxj.2 j] at hp
  have hw := wt_split xs[i] xs[j] h0 (by omega) hxj.2
  have hwj := wt_ge1 xs[j] (by omega) hxj.2
  have hpp : (0 : Int) < 2 ^ (xs[j] - xs[i]).toNat := Int.pow_pos (by decide)
  have e : (codeB xs xs[i] i + 1) * 2 ^ (xs[j] - xs[i]).toNat ≤ codeB xs xs[j] j := by
    refine Int.le_of_mul_le_mul_right (a := wt xs[j]) ?_ (by omega)
    rw [Int.mul_assoc, ← hw, Int.add_mul, Int.one_mul]
    exact hp
  have := (Int.le_ediv_iff_mul_le hpp).2 e
  omega

set_option maxRecDepth 8000 in
set_option maxHeartbeats 2000000 in
theorem bprefix_any (a : Option Addr) (c : Nat) (xs : List Int) (w : World) (h : Sees .u8 w a xs) (hr : ∀ x ∈ xs, 0 ≤ x ∧ x ≤ 255) :
    Calls Ycfm.prog 8 #[.slice a xs.length c] w fun e w' => e = .returned (.bool true) ∧ Below w.heap.size w w' := by
  have hm := h.1
  have HS := hid h
  have HR := hid hr
  clear h hr
  by_cases hbig : 1024 < xs.length
  · have hbig' : (1024 : Int) < (xs.length : Int) := by omega
    go_enter Ycfm.func8, Ycfm.ntmps8
    go_wp2
    go_ret
    exact ⟨rfl, Below.refl _ _⟩
  · have hbig' : (xs.length : Int) ≤ 1024 := by omega
    have h5 : xs.length ≤ 100000 := by omega
    go_enter Ycfm.func8, Ycfm.ntmps8
    go_wp2_with fail
    refine (bshape_any a c xs _ HS HR h5).mono ?_
    rintro e w1 ⟨g, ys, rfl, hg1, hyl, hlen, hfit, hr1, hb1⟩
    have HN := hid hyl.symm
    have HSY := hid (Sees.row hr1 (by omega))
    have HRY := hid hlen.range
    have HF := hid hfit
    have HL := hid hlen
    have HK := hid ((fits_iff ys).1 hfit).2
    have h6 : ys.length ≤ 100000 := by omega
    clear hyl hlen hfit
    go_wp2_with fail
    refine (assign_yes _ _ _ ys _ HN HSY HRY HF h6).mono ?_
    rintro e w2 ⟨g2, rfl, hg2, hr2, hb2⟩
    have hry2 := hr1.below hb2 hr1.lt
    have hgl := hry2.lt
    have hg2l := hr2.lt
    have hbw : Below w.heap.size w w2 := hb1.trans (hb2.mono hb1.size)
    -- what the two rows hold, in every later world
    have HC : Hid (∀ wx, Below w2.heap.size w2 wx → ∀ k (hk : k < ys.length), wx.cell? ⟨g, k, none⟩ = some (.int .u8 ys[k]) ∧ wx.cell? ⟨g2, k * 2, none⟩ = some (.int .u32 (if 0 < ys[k] then codeB ys ys[k] k else 0)) ∧ wx.cell? ⟨g2, k * 2 + 1, none⟩ = some (.int .u8 ys[k])) := by
      refine hid ?_
      intro wx hbx k hk
      have hal : k < (assignV ys).length := by rw [assignV_length]; exact hk
      have hav := assignV_get ys HL HK k hk
      rw [List.getElem?_eq_getElem hal, Option.some.injEq] at hav
      have hy := HL.out _ (List.getElem_mem hk)
      refine ⟨(hbx.cell hgl).trans (by rw [hry2.int hk, getD_get _ _ hk]), (hbx.cell hg2l).trans ?_, (hbx.cell hg2l).trans ?_⟩
      · rw [hr2.cell (flat_get0 _ k hal), hav]
        by_cases h0 : 0 < ys[k]
        · rw [if_pos h0, if_pos h0]
        · rw [if_neg h0, if_neg h0]
      · rw [hr2.cell (flat_get1 _ k hal), hav]
        by_cases h0 : 0 < ys[k]
        · rw [if_pos h0]
        · rw [if_neg h0]
          have : ys[k] = 0 := by omega
          rw [this]
    clear hr1 hr2 hry2 hb1 hb2
    go_wp2
    go_loopw [31] (fun i wr => ∃ (k : Nat), k ≤ xs.length ∧ i = .int .i64 k ∧ Below w2.heap.size w2 wr) (fun i _ => xs.length - (intOf i).toNat)
    case atStart => exact ⟨0, Nat.zero_le _, rfl, Below.refl _ _⟩
    case round =>
      obtain ⟨k, hk, rfl, hb⟩ := hrel
      have hws := hb.size
      by_cases hlt : k < xs.length
      · have hky : k < ys.length := by rw [← HN.out]; exact hlt
        have hy := HL.out _ (List.getElem_mem hky)
        obtain ⟨l0, l1, l2⟩ := HC.out wr hb k hky
        have HC2 : Hid (∀ o, (wr.alloc o).cell? ⟨g, k, none⟩ = some (.int .u8 ys[k])) := hid (fun o => (HC.out (wr.alloc o) (hb.alloc hws o) k hky).1)
        have hcb : 0 < ys[k] → 0 ≤ codeB ys ys[k] k ∧ codeB ys ys[k] k < 2 ^ ys[k].toNat := fun h0 => codeB_lt ys HL HK k hky h0
        have HPF : Hid (∀ j (hj : j < ys.length), 0 < ys[k] → ys[k] < ys[j] ∨ (ys[k] = ys[j] ∧ k < j) → codeB ys ys[k] k < codeB ys ys[j] j / 2 ^ (ys[j] - ys[k]).toNat) := hid (fun j hj h0 hb => prefix_lt ys HL HK k j hky hj h0 hb)
        obtain ⟨m, hm'⟩ : ∃ m : Nat, ys[k] = (m : Int) := ⟨ys[k].toNat, by omega⟩
        rw [hm'] at hy l0 l1 l2 hcb HPF HC2
        have hpw := pow_le_32768 m (by omega)
        by_cases h0 : 0 < (m : Int)
        · rw [if_pos h0] at l1
          have hcb' := hcb h0
          rw [Int.toNat_natCast] at hcb'
          generalize codeB ys (m : Int) k = CB at l1 hcb' HPF
          clear hcb hm'
          have l0' := HC2.out (.cells #[.int .u32 CB, .int .u8 m] 26)
          have hm15 : (m : Int) ≤ 15 := hy.2
          have hmz : ((m : Int) == 0) = false := by simp; omega
          have hwr : IntKind.u32.wrap ((2 : Int) ^ m) = 2 ^ m := by rw [IntKind.wrap_u32]; omega
          have hd15 : decide ((15 : Int) < (m : Int)) = false := by simp; omega
          have hdcb : decide ((2 : Int) ^ m ≤ CB) = false := by simp; omega
          go_wp2
          go_quiet (fail)
          go_wp2
          obtain ⟨G, hG⟩ : ∃ G, wr.heap.size = G := ⟨_, rfl⟩
          have hGw : w2.heap.size ≤ G := by omega
          rw [hG]
          go_loopw [61] (fun i wq => ∃ (j : Nat), j ≤ xs.length ∧ i = .int .i64 j ∧ Below w2.heap.size w2 wq ∧ RowV wq G 26 [.int .u32 CB, .int .u8 m]) (fun i _ => xs.length - (intOf i).toNat)
          case atStart => exact ⟨0, Nat.zero_le _, rfl, below_drewN' (hb.alloc hws _) _, (RowV.fresh _ _ [.int .u32 CB, .int .u8 m] _ hG.symm).drewN _⟩
          case round =>
            clear hG l0 l1 l2 l0' HC2 hb hws
            obtain ⟨j, hj, rfl, hbq, hrq⟩ := hrel
            have hwq := hbq.size
            have q0 : wr.cell? ⟨G, 0, none⟩ = some (.int .u32 CB) := hrq.cell rfl
            have q1 : wr.cell? ⟨G, 1, none⟩ = some (.int .u8 m) := hrq.cell rfl
            have hGl := hrq.lt
            by_cases hjl : j < xs.length
            · have hjy : j < ys.length := by rw [← HN.out]; exact hjl
              have hyj := HL.out _ (List.getElem_mem hjy)
              obtain ⟨r0, r1, r2⟩ := HC.out wr hbq j hjy
              have hpf := HPF.out j hjy h0
              have hcbj : 0 < ys[j] → 0 ≤ codeB ys ys[j] j ∧ codeB ys ys[j] j < 2 ^ ys[j].toNat := fun h0 => codeB_lt ys HL HK j hjy h0
              obtain ⟨q, hq'⟩ : ∃ q : Nat, ys[j] = (q : Int) := ⟨ys[j].toNat, by omega⟩
              rw [hq'] at hyj r0 r1 r2 hpf hcbj
              clear r0 hq'
              by_cases hbf : m < q ∨ (m = q ∧ k < j)
              · have hq0 : 0 < (q : Int) := by omega
                rw [if_pos hq0] at r1
                have hpf' := hpf (by omega)
                have hcbj' := hcbj hq0
                rw [show ((q : Int) - (m : Int)).toNat = q - m from by omega] at hpf'
                generalize codeB ys (q : Int) j = CJ at r1 hpf' hcbj'
                clear hpf hcbj
                by_cases hmq : m < q
                · have hmq' : (m : Int) < (q : Int) := by omega
                  clear hbf
                  go_wp2
                  go_roundw
                  case rel => exact ⟨j + 1, by omega, by go_num, hbq.alloc hwq _, hrq.alloc _⟩
                  case measure => simp [intOf]; omega
                · obtain ⟨rfl, hkj⟩ := hbf.resolve_left hmq
                  have hkj' : (k : Int) < (j : Int) := by omega
                  clear hbf
                  rw [Nat.sub_self, Int.pow_zero, Int.ediv_one] at hpf'
                  go_wp2
                  go_roundw
                  case rel => exact ⟨j + 1, by omega, by go_num, hbq.alloc hwq _, hrq.alloc _⟩
                  case measure => simp [intOf]; omega
              · have hmq' : ¬ (m : Int) < (q : Int) := by omega
                generalize (if 0 < (q : Int) then codeB ys (q : Int) j else 0) = CJ at r1
                clear hpf hcbj
                by_cases hme : m = q
                · subst hme
                  have hkj' : ¬ (k : Int) < (j : Int) := by omega
                  clear hbf
                  go_wp2
                  go_roundw
                  case rel => exact ⟨j + 1, by omega, by go_num, hbq.alloc hwq _, hrq.alloc _⟩
                  case measure => simp [intOf]; omega
                · have hme' : ((m : Int) == (q : Int)) = false := by simp; omega
                  clear hbf
                  go_wp2
                  go_roundw
                  case rel => exact ⟨j + 1, by omega, by go_num, hbq.alloc hwq _, hrq.alloc _⟩
                  case measure => simp [intOf]; omega
            · have hjl' : ¬ (j : Int) < (xs.length : Int) := by omega
              clear hwr hdcb hd15 hmz hcb' q0 q1 hpw hm15 h0 HPF hrq
              go_wp2
              go_roundw
              case rel => exact ⟨k + 1, by omega, by go_num, hbq⟩
              case measure => simp [intOf]; omega
        · have hm0 : m = 0 := by omega
          subst hm0
          rw [if_neg h0] at l1
          clear hcb HPF hm'
          have l0' : (wr.alloc (.cells #[.int .u32 0, .int .u8 0] 26)).cell? ⟨g, k, none⟩ = some (.int .u8 0) := HC2.out _
          have l2' : wr.cell? ⟨g2, k * 2 + 1, none⟩ = some (.int .u8 0) := l2
          clear l2 l0 HC2
          have hw1 : IntKind.u32.wrap ((2 : Int) ^ 0) = 1 := by rw [IntKind.wrap_u32]; decide
          go_wp2
          go_quiet (fail)
          go_wp2
          go_roundw
          case rel => exact ⟨k + 1, by omega, by go_num, below_drewN' (hb.alloc hws _) _⟩
          case measure => simp [intOf]; omega
      · go_wp2
        go_ret
        exact ⟨rfl, hbw.trans (hb.mono hbw.size)⟩
end Go.Proofs.Ymbrcf
