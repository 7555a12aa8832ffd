/- From the row's reading of an argument to what a walk takes: arrays of integers, slices of bools. No program in sight. -/
import Derived.Test.YmbrcgBase
import Derived.Deep.Slices
namespace Go.Proofs.Ymbrcg
open Go.RowKit Go.Deep Go.ChangeShapes Go.WideShapes
set_option linter.unusedVariables false
set_option linter.unusedSimpArgs false

section
variable {H : Type} {enc : TypeId × Value → H} {P : Program} {w : World} {base : Nat} {spare : Nat → Bool} {held : Bool}
/-- An array of integers by value. -/
theorem open_arr {r : Reach} {b0 n : Nat} {t e : TypeId} {k : IntKind} {v : Value} {d : DataW H} {p : List MemPlace} (ht : P.underlying t = some (.array n e)) (he : P.underlying e = some (.int k)) (hc : P.cellsOf e = 1) (hC : P.cellsOf t = n)
    (hv : Value.okWide P w r b0 t v) (h : DataW.Trod enc P w base spare held t v d p) : ∃ xs : List Int, xs.length = n ∧ v = .agg (ints k xs).toArray ∧ ∀ x ∈ xs, (Lit.int k x).wf = true := by
  simp only [Value.okWide, ht] at hv
  obtain ⟨cs, rfl, hsz, _⟩ := hv
  obtain ⟨fuel, hf⟩ := h
  obtain ⟨ys, m, _, _, hlen, hyl, hel⟩ := DataW.trod_array ht hf
  have hcs : cs.size = n := by rw [hsz, hC]
  have each : ∀ i (hi : i < n), ∃ a, cs[i]'(by omega) = .int k a ∧ (Lit.int k a).wf = true := by
    intro i hi
    have h1 := hel i hi
    rw [hc, Nat.mul_one, List.getElem?_eq_getElem (by omega)] at h1
    obtain ⟨a, e1, _, wa⟩ := DataW.trod_int he h1
    refine ⟨a, ?_, wa⟩
    simp only [Value.cells] at e1
    rw [List.drop_eq_getElem_cons (by simp; omega)] at e1
    simpa using e1
  refine ⟨cs.toList.map (fun v => match v with | .int _ a => a | _ => 0), by simp [hcs], ?_, ?_⟩
  · congr 1
    apply Array.ext
    · simp
    · intro i h1 h2
      obtain ⟨a, ha, _⟩ := each i (by omega)
      simp [ha]
  · intro x hx
    obtain ⟨v, hv, rfl⟩ := List.mem_map.1 hx
    obtain ⟨i, hi, rfl⟩ := List.mem_iff_getElem.1 hv
    obtain ⟨a, ha, hw⟩ := each i (by simpa [hcs] using hi)
    simp [ha, hw]

/-- What a slice of bools that is only read shows. -/
def SeesB (w : World) (a : Option Addr) (bs : List Bool) : Prop :=
  bs.length ≤ 9223372036854775807 ∧ (∀ i, i < bs.length → ∃ b off, a = some ⟨b, off, none⟩ ∧ b < w.heap.size ∧ w.cell? ⟨b, off + i, none⟩ = some (.bool (bs[i]?.getD false)))
theorem SeesB.below {w w' : World} {a : Option Addr} {xs : List Bool} (h : SeesB w a xs) {B : Nat} (hb : Below B w w') (hB : w.heap.size ≤ B) : SeesB w' a xs := by
  refine ⟨h.1, fun i hi => ?_⟩
  obtain ⟨b, off, h1, h2, h3⟩ := h.2 i hi
  exact ⟨b, off, h1, Nat.lt_of_lt_of_le h2 hb.size, (hb.cell (by show b < B; omega)).trans h3⟩
theorem SeesB.alloc {w : World} {a : Option Addr} {xs : List Bool} (h : SeesB w a xs) (o : Obj) : SeesB (w.alloc o) a xs := h.below ((Below.refl _ _).alloc (Nat.le_refl _) o) (Nat.le_refl _)
theorem open_bs {t e : TypeId} {a : Option Addr} {len cap : Nat} {d : DataW H} {p : List MemPlace} (ht : P.underlying t = some (.slice e)) (he : P.underlying e = some .bool) (hc : P.cellsOf e = 1)
    (h : DataW.Trod enc P w base (fun _ => true) held t (.slice a len cap) d p) : ∃ bs : List Bool, bs.length = len ∧ SeesB w a bs := by
  obtain ⟨fuel, hf⟩ := h
  rcases open_slice1 ht hc hf with ⟨hcs, _⟩ | ⟨x, l, c, m, n, V, D, Pl, hcs, hb, hl, hm, hmm, _, hx⟩
  · simp [Value.cells] at hcs
    obtain ⟨rfl, rfl, rfl⟩ := hcs
    exact ⟨[], rfl, by simp, fun i hi => by simp at hi⟩
  · simp [Value.cells] at hcs
    obtain ⟨rfl, rfl, rfl⟩ := hcs
    simp only [if_true] at hmm
    subst hmm
    unfold maxLen at hm
    refine ⟨(List.range len).map (fun i => match V i with | .bool q => q | _ => false), by simp, by simp; omega, fun i hi => ?_⟩
    simp at hi
    obtain ⟨h1, h2⟩ := hx i (by omega)
    obtain ⟨b, off, spot⟩ := x
    have hspot : spot = none := by simpa [Addr.add] using World.cell?_spot (hx 0 (by omega)).1
    subst hspot
    rw [Addr.add_lit] at h1
    refine ⟨b, off, rfl, block_lt_of_cell h1, ?_⟩
    obtain ⟨q, e1, _⟩ := DataW.trod_bool he h2
    simp at e1
    rw [h1, e1]
    simp [hi, e1]
end
end Go.Proofs.Ymbrcg
