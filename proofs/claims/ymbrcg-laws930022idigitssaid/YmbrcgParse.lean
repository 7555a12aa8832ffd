/- huff.ParseCode, walked. -/
import Derived.Test.YmbrcgRows
import Derived.Test.YmbrcgBase
import Derived.RegionTactic
import Derived.Laws.BytesArg
namespace Go.Proofs.Ymbrcg
open Go.RowKit
set_option linter.unusedVariables false
set_option linter.unusedSimpArgs false

/-- A string's bytes as numbers. -/
def strL (s : ByteArray) : List Int := s.data.toList.map fun b => (b.toNat : Int)
theorem strL_length (s : ByteArray) : (strL s).length = s.size := by simp [strL]
theorem strL_get (s : ByteArray) (k : Nat) (h : k < s.size) : (strL s)[k]'(by rw [strL_length]; exact h) = (s[k].toNat : Int) := by
  simp [strL]; rfl
theorem strL_range (s : ByteArray) : ∀ x ∈ strL s, 0 ≤ x ∧ x ≤ 255 := by
  intro x hx
  obtain ⟨b, _, rfl⟩ := List.mem_map.1 hx
  have := b.toNat_lt
  omega
theorem strL_nums (xs : List Int) (h : ∀ x ∈ xs, 0 ≤ x ∧ x ≤ 255) : strL (strOfNums xs) = xs := by
  unfold strL
  rw [strOfNums_data, List.map_map]
  conv => rhs; rw [← List.map_id xs]
  apply List.map_congr_left
  intro x hx
  have := h x hx
  simp [Nat.mod_eq_of_lt (show x.toNat < 256 by omega)]
  omega
def parseGo : Int → Int → List Int → Int × Int × Bool
  | b, l, [] => (b, l, true)
  | b, l, x :: xs => if x = 48 ∨ x = 49 then parseGo (b * 2 + (x - 48)) (l + 1) xs else (0, 0, false)
def parseV (xs : List Int) : Int × Int × Bool := if xs.length ≤ 15 then parseGo 0 0 xs else (0, 0, false)
theorem parseGo_drop (b l : Int) (xs : List Int) (k : Nat) (h : k < xs.length) : parseGo b l (xs.drop k) = if xs[k] = 48 ∨ xs[k] = 49 then parseGo (b * 2 + (xs[k] - 48)) (l + 1) (xs.drop (k + 1)) else (0, 0, false) := by
  rw [List.drop_eq_getElem_cons h, parseGo]
theorem pow2_le (k : Nat) (h : k ≤ 15) : (2 : Int) ^ k ≤ 32768 := by
  have : (2 : Nat) ^ k ≤ 2 ^ 15 := Nat.pow_le_pow_right (by omega) h
  have h2 : ((2 ^ k : Nat) : Int) ≤ ((2 ^ 15 : Nat) : Int) := Int.ofNat_le.2 this
  rw [Int.natCast_pow] at h2
  exact Int.le_trans h2 (by decide)
theorem ret_code {a b : Int} {c d : Int} {p q : Bool} (h1 : a = b) (h2 : c = d) (h3 : p = q) : Ending.returned (.tuple #[.agg #[.int .u32 a, .int .u8 c], .bool p]) = .returned (.tuple #[.agg #[.int .u32 b, .int .u8 d], .bool q]) := by rw [h1, h2, h3]

set_option maxHeartbeats 800000 in
theorem parse_any (s : ByteArray) (w : World) (hs : s.size ≤ 9223372036854775807) :
    Calls Ycgm.prog 26 #[.string s] w fun e w' => e = .returned (.tuple #[.agg #[.int .u32 (parseV (strL s)).1, .int .u8 (parseV (strL s)).2.1], .bool (parseV (strL s)).2.2]) ∧ Below w.heap.size w w' := by
  have HSL := hid (strL_length s)
  by_cases h15 : 15 < s.size
  · have h15' : (15 : Int) < (s.size : Int) := by omega
    have HV : Hid (parseV (strL s) = (0, 0, false)) := by refine hid ?_; rw [parseV, if_neg (by rw [HSL.out]; omega)]
    generalize parseV (strL s) = V at HV
    go_enter Ycgm.func26, Ycgm.ntmps26
    go_wp2
    refine ret_row_tmp (by exact Ycgm.results26) _ _ [.int .u32 0, .int .u8 0] _ rfl (RowV.fresh _ _ _ _ rfl) Ycgm.underlying36 rfl (by kernel_rfl) rfl ⟨ret_code ?_ ?_ ?_, (Below.refl _ _).alloc (Nat.le_refl _) _⟩ <;> rw [HV.out]
  · have h15' : ¬ (15 : Int) < (s.size : Int) := by omega
    have HV : Hid (parseV (strL s) = parseGo 0 0 (strL s)) := by refine hid ?_; rw [parseV, if_pos (by rw [HSL.out]; omega)]
    generalize parseV (strL s) = V at HV
    go_enter Ycgm.func26, Ycgm.ntmps26
    go_wp2
    go_loopw [5] (fun i wr => ∃ (k : Nat) (b : Int), k ≤ s.size ∧ i = .int .i64 k ∧ 0 ≤ b ∧ b < 2 ^ k ∧ RowV wr (w.heap.size + 1) 36 [.int .u32 b, .int .u8 k] ∧ RowV wr w.heap.size 36 [.int .u32 0, .int .u8 0] ∧ Hid (parseGo b k ((strL s).drop k) = V) ∧ Below w.heap.size w wr) (fun i _ => s.size - (intOf i).toNat)
    case atStart =>
      refine ⟨0, 0, Nat.zero_le _, rfl, by omega, by decide, RowV.fresh _ _ [.int .u32 0, .int .u8 0] _ (by simp), (RowV.fresh w _ [.int .u32 0, .int .u8 0] _ rfl).alloc _, hid HV.out.symm, ((Below.refl _ _).alloc (Nat.le_refl _) _).alloc (by simp) _⟩
    case round =>
      obtain ⟨k, b, hk, rfl, hb0, hb1, hrow, hrow0, HP, hb⟩ := hrel
      have c0 : wr.cell? ⟨w.heap.size + 1, 0, none⟩ = some (.int .u32 b) := hrow.cell rfl
      have c1 : wr.cell? ⟨w.heap.size + 1, 1, none⟩ = some (.int .u8 k) := hrow.cell rfl
      have f0 := hrow.frozen 0
      have f1 := hrow.frozen 1
      have d0 : wr.cell? ⟨w.heap.size, 0, none⟩ = some (.int .u32 0) := hrow0.cell rfl
      have d1 : wr.cell? ⟨w.heap.size, 1, none⟩ = some (.int .u8 0) := hrow0.cell rfl
      have g0 := hrow0.frozen 0
      have g1 := hrow0.frozen 1
      by_cases hlt : k < s.size
      · have hkl : k < (strL s).length := by rw [HSL.out]; exact hlt
        have HD := hid (parseGo_drop b k (strL s) k hkl)
        have hg := strL_get s k hlt
        have hxr := strL_range s _ (List.getElem_mem hkl)
        have hp2 := pow2_le k (by omega)
        generalize hX : (strL s)[k] = X at HD hg hxr
        have HX := hid hg.symm
        clear hg hX
        by_cases h48 : (s[k].toNat : Int) = 48
        · have h48' : ((s[k].toNat : Int) == 48) = true := by simpa using h48
          have HX48 : Hid (X = 48) := hid (by rw [← HX.out]; exact h48)
          go_wp2
          go_region
          all_goals go_wp2
          go_roundw
          case rel =>
            refine ⟨k + 1, b * 2, by omega, by go_num, by omega, by rw [Int.pow_succ]; omega, ?_, (((hrow0.other _ _ (by simp)).other _ _ (by simp)).drew), hid ?_, ((hb.setCell (by simp) _).setCell (by simp) _).drew⟩
            · exact ((hrow.set 0 _).set 1 _).drew
            · rw [← HP.out, HD.out, HX48.out, if_pos (by omega)]; simp
          case measure => simp [intOf]; omega
        · by_cases h49 : (s[k].toNat : Int) = 49
          · have h48' : ((s[k].toNat : Int) == 48) = false := by simpa using h48
            have h49' : ((s[k].toNat : Int) == 49) = true := by simpa using h49
            have HX49 : Hid (X = 49) := hid (by rw [← HX.out]; exact h49)
            go_wp2
            go_region
            all_goals go_wp2
            go_roundw
            case rel =>
              refine ⟨k + 1, b * 2 + 1, by omega, by go_num, by omega, by rw [Int.pow_succ]; omega, ?_, (((hrow0.other _ _ (by simp)).other _ _ (by simp)).drew), hid ?_, ((hb.setCell (by simp) _).setCell (by simp) _).drew⟩
              · exact ((hrow.set 0 _).set 1 _).drew
              · rw [← HP.out, HD.out, HX49.out, if_pos (by omega)]; simp
            case measure => simp [intOf]; omega
          · have h48' : ((s[k].toNat : Int) == 48) = false := by simpa using h48
            have h49' : ((s[k].toNat : Int) == 49) = false := by simpa using h49
            have HXN : Hid (¬ (X = 48 ∨ X = 49)) := hid (by rw [← HX.out]; omega)
            have n48 : ((s[k].toNat : Int) != 48) = true := by simpa using h48
            have n49 : ((s[k].toNat : Int) != 49) = true := by simpa using h49
            have HF : Hid (V = (0, 0, false)) := hid (by rw [← HP.out, HD.out, if_neg HXN.out])
            go_wp2
            refine ret_row_tmp (by exact Ycgm.results26) _ _ [.int .u32 0, .int .u8 0] _ rfl ((hrow0.set 0 (.int .u32 0)).set 1 (.int .u8 0)) Ycgm.underlying36 rfl (by kernel_rfl) rfl ⟨ret_code ?_ ?_ ?_, (hb.setCell (Nat.le_refl _) _).setCell (Nat.le_refl _) _⟩ <;> rw [HF.out]
      · have hks : k = s.size := by omega
        have HF : Hid (V = (b, (k : Int), true)) := hid (by rw [← HP.out, List.drop_of_length_le (by rw [HSL.out]; omega), parseGo])
        clear hks
        go_wp2
        refine ret_row_tmp (by exact Ycgm.results26) _ _ [.int .u32 b, .int .u8 k] _ rfl ((hrow0.set 0 (.int .u32 b)).set 1 (.int .u8 k)) Ycgm.underlying36 rfl (by kernel_rfl) rfl ⟨ret_code ?_ ?_ ?_, (hb.setCell (Nat.le_refl _) _).setCell (Nat.le_refl _) _⟩ <;> rw [HF.out]
end Go.Proofs.Ymbrcg
