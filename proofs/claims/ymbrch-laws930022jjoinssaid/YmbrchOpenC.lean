/- From the row's reading of an argument to what a walk takes: a slice of codes (structs of a uint32 and a byte). -/
import Derived.Test.YmbrchBase
import Derived.Deep.Slices
namespace Go.Proofs.Ymbrch
open Go.RowKit Go.Deep Go.ChangeShapes Go.WideShapes
set_option linter.unusedVariables false
set_option linter.unusedSimpArgs false
/-- What a slice of codes that is only read shows. -/
def SeesC (w : World) (a : Option Addr) (cs : List (Int × Int)) : Prop :=
  cs.length ≤ 9223372036854775807 ∧ (∀ i, i < cs.length → ∃ b off, a = some ⟨b, off, none⟩ ∧ b < w.heap.size ∧ w.cell? ⟨b, off + i * 2, none⟩ = some (.int .u32 (cs[i]?.getD (0, 0)).1) ∧ w.cell? ⟨b, off + i * 2 + 1, none⟩ = some (.int .u8 (cs[i]?.getD (0, 0)).2))
theorem SeesC.below {w w' : World} {a : Option Addr} {xs : List (Int × Int)} (h : SeesC w a xs) {B : Nat} (hb : Below B w w') (hB : w.heap.size ≤ B) : SeesC w' a xs := by
  refine ⟨h.1, fun i hi => ?_⟩
  obtain ⟨b, off, h1, h2, h3, h4⟩ := h.2 i hi
  exact ⟨b, off, h1, Nat.lt_of_lt_of_le h2 hb.size, (hb.cell (by show b < B; omega)).trans h3, (hb.cell (by show b < B; omega)).trans h4⟩
section
variable {H : Type} {enc : TypeId × Value → H} {P : Program} {w : World} {base : Nat} {spare : Nat → Bool} {held : Bool}
theorem open_cs {t e t0 t1 : TypeId} {fs : Array Field} {a : Option Addr} {len cap : Nat} {d : DataW H} {p : List MemPlace} (ht : P.underlying t = some (.slice e)) (he : P.underlying e = some (.struct fs)) (hc : P.cellsOf e = 2)
    (hf0 : ∃ f, fs[0]? = some f ∧ f.offset = 0 ∧ f.type = t0) (hf1 : ∃ f, fs[1]? = some f ∧ f.offset = 1 ∧ f.type = t1) (hfs : fs.size = 2) (h0 : P.underlying t0 = some (.int .u32)) (h1 : P.underlying t1 = some (.int .u8)) (c0 : P.cellsOf t0 = 1) (c1 : P.cellsOf t1 = 1)
    (h : DataW.Trod enc P w base (fun _ => true) held t (.slice a len cap) d p) : ∃ cs : List (Int × Int), cs.length = len ∧ SeesC w a cs ∧ ∀ x ∈ cs, (Lit.int .u32 x.1).wf = true ∧ (Lit.int .u8 x.2).wf = true := by
  obtain ⟨fuel, hf⟩ := h
  rcases open_slice ht hf with ⟨hcs, _⟩ | ⟨x, l, c, m, n, D, Pl, hcs, hb, hl, hm, hmm, _, hx⟩
  · simp [Value.cells] at hcs
    obtain ⟨rfl, rfl, rfl⟩ := hcs
    exact ⟨[], rfl, ⟨by simp, fun i hi => by simp at hi⟩, by simp⟩
  · simp [Value.cells] at hcs
    obtain ⟨rfl, rfl, rfl⟩ := hcs
    simp only [if_true] at hmm
    subst hmm
    unfold maxLen at hm
    obtain ⟨f0, hf0, ho0, rfl⟩ := hf0
    obtain ⟨f1, hf1, ho1, rfl⟩ := hf1
    have each : ∀ i, i < len → ∃ q : Int × Int, (w.cell? (x.add (i * 2)) = some (.int .u32 q.1) ∧ w.cell? ((x.add (i * 2)).add 1) = some (.int .u8 q.2)) ∧ (Lit.int .u32 q.1).wf = true ∧ (Lit.int .u8 q.2).wf = true := by
      intro i hi
      obtain ⟨cs', g1, g2⟩ := hx i (by omega)
      rw [hc] at g1
      obtain ⟨_, hlen, hcell⟩ := World.cells?_some g1
      obtain ⟨ys, n', _, _, _, hyl, hel⟩ := DataW.trod_struct he g2
      have e0 := hel 0 f0 hf0
      have e1 := hel 1 f1 hf1
      rw [ho0, c0, List.getElem?_eq_getElem (by omega)] at e0
      rw [ho1, c1, List.getElem?_eq_getElem (by omega)] at e1
      obtain ⟨q0, u0, _, w0⟩ := DataW.trod_int h0 e0
      obtain ⟨q1, u1, _, w1⟩ := DataW.trod_int h1 e1
      have k0 := hcell 0 (by omega)
      have k1 := hcell 1 (by omega)
      match cs', hlen with
      | [v0, v1], _ =>
        simp at u0 u1
        subst u0 u1
        refine ⟨(q0, q1), ⟨?_, ?_⟩, w0, w1⟩
        · simpa [Addr.add] using k0
        · simpa using k1
    obtain ⟨Q, hQ⟩ := choose_lt (α := Int × Int) (p := fun i q => (w.cell? (x.add (i * 2)) = some (.int .u32 q.1) ∧ w.cell? ((x.add (i * 2)).add 1) = some (.int .u8 q.2)) ∧ (Lit.int .u32 q.1).wf = true ∧ (Lit.int .u8 q.2).wf = true) each
    refine ⟨(List.range len).map Q, by simp, ⟨by simp; omega, fun i hi => ?_⟩, ?_⟩
    · simp at hi
      obtain ⟨⟨h1, h2⟩, _⟩ := hQ i hi
      obtain ⟨b, off, spot⟩ := x
      have hspot : spot = none := by simpa [Addr.add] using World.cell?_spot (hQ 0 (by omega)).1.1
      subst hspot
      rw [Addr.add_lit] at h1 h2
      rw [Addr.add_lit] at h2
      refine ⟨b, off, rfl, block_lt_of_cell h1, ?_, ?_⟩
      · rw [h1]; simp [hi]
      · rw [h2]; simp [hi]
    · intro q hq
      simp at hq
      obtain ⟨i, hi, rfl⟩ := hq
      exact (hQ i hi).2
end
end Go.Proofs.Ymbrch
