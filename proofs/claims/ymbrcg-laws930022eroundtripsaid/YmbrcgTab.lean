/- A Table's cells, and what the codes' row holds. -/
import Derived.Test.YmbrcgNewTable
import Derived.Test.YmbrcgCanon
namespace Go.Proofs.Ymbrcg
open Go.RowKit
set_option linter.unusedVariables false
set_option linter.unusedSimpArgs false

theorem tab_get0 (vc vo : Value) (cn fs : List Int) : (tabCells vc cn fs vo)[0]? = some vc := rfl
theorem tab_cnt (vc vo : Value) (cn fs : List Int) (h1 : cn.length = 16) (l : Nat) (hl : l < 16) : (tabCells vc cn fs vo)[1 + l]? = some (.int .i64 (cn[l]?.getD 0)) := by
  rw [tabCells, Nat.add_comm, List.getElem?_cons_succ, List.getElem?_append_left (by simp [h1]; exact hl)]
  simp [h1, hl]
theorem tab_fst (vc vo : Value) (cn fs : List Int) (h1 : cn.length = 16) (h2 : fs.length = 16) (l : Nat) (hl : l < 16) : (tabCells vc cn fs vo)[17 + l]? = some (.int .u32 (fs[l]?.getD 0)) := by
  rw [tabCells, show 17 + l = 16 + l + 1 from by omega, List.getElem?_cons_succ, List.getElem?_append_right (by simp [h1]), List.getElem?_append_left (by simp [h1, h2]; exact hl)]
  simp [h1, h2, hl]
theorem tab_ord (vc vo : Value) (cn fs : List Int) (h1 : cn.length = 16) (h2 : fs.length = 16) : (tabCells vc cn fs vo)[33]? = some vo := by
  rw [tabCells, List.getElem?_cons_succ, List.getElem?_append_right (by simp [h1]), List.getElem?_append_right (by simp [h1, h2])]
  simp [h1, h2]
theorem rep_get (n l : Nat) : (List.replicate n (0 : Int))[l]?.getD 0 = 0 := by rw [List.getElem?_replicate]; split <;> rfl
theorem code_row {w : World} {g : Nat} {ys : List Int} (hrow : RowV w g 36 (flat (assignV ys))) (HL : Lens ys) (HK : ksum ys ≤ 32768) (k : Nat) (hk : k < ys.length) :
    w.cell? ⟨g, k * 2, none⟩ = some (.int .u32 (if 0 < ys[k] then codeB ys ys[k] k else 0)) ∧ w.cell? ⟨g, k * 2 + 1, none⟩ = some (.int .u8 ys[k]) := by
  have hal : k < (assignV ys).length := by rw [assignV_length]; exact hk
  have hav := assignV_get ys HL HK k hk
  rw [List.getElem?_eq_getElem hal, Option.some.injEq] at hav
  have hy := HL _ (List.getElem_mem hk)
  refine ⟨?_, ?_⟩
  · rw [hrow.cell (flat_get0 _ k hal), hav]
    by_cases h0 : 0 < ys[k]
    · rw [if_pos h0, if_pos h0]
    · rw [if_neg h0, if_neg h0]
  · rw [hrow.cell (flat_get1 _ k hal), hav]
    by_cases h0 : 0 < ys[k]
    · rw [if_pos h0]
    · rw [if_neg h0]
      have : ys[k] = 0 := by omega
      rw [this]
end Go.Proofs.Ymbrcg
