/- Slices of bools that the call itself makes and grows. No program in sight. -/
import Derived.Test.YmbrcgOwn
namespace Go.Proofs.Ymbrcg
open Go.RowKit
set_option linter.unusedVariables false
set_option linter.unusedSimpArgs false
abbrev bools (bs : List Bool) : List Value := bs.map Value.bool
/-- A nil slice, or one of the call's own, of bools. -/
def OwnB (w : World) (base : Nat) (e : TypeId) (v : Value) (bs : List Bool) : Prop := w.ownsRow base e 1 v bs.length (bools bs)
theorem OwnB.nil (w : World) (base : Nat) (e : TypeId) : OwnB w base e (.slice none 0 0) [] := World.ownsRow_nil _ _ _ _
theorem OwnB.alloc {w : World} {base : Nat} {e : TypeId} {v : Value} {bs : List Bool} (h : OwnB w base e v bs) (o : Obj) : OwnB (w.alloc o) base e v bs := World.ownsRow.alloc h o
theorem OwnB.below {w w' : World} {base : Nat} {e : TypeId} {v : Value} {bs : List Bool} (h : OwnB w base e v bs) (hb : Below w.heap.size w w') : OwnB w' base e v bs :=
  World.ownsRow.kept h (grown_of_below hb) (by cases v.ownBlock <;> simp)
theorem OwnB.lt {w : World} {base : Nat} {e : TypeId} {v : Value} {bs : List Bool} (h : OwnB w base e v bs) : ∀ g, v.ownBlock = some g → base ≤ g ∧ g < w.heap.size := World.ownsRow.lt h
/-- What it shows to a reader. -/
def SeesQ (w : World) (a : Option Addr) (bs : List Bool) : Prop :=
  ∀ i, i < bs.length → ∃ b, a = some ⟨b, 0, none⟩ ∧ b < w.heap.size ∧ w.cell? ⟨b, i, none⟩ = some (.bool (bs[i]?.getD false))
theorem SeesQ.below {w w' : World} {a : Option Addr} {bs : List Bool} (h : SeesQ w a bs) (hb : Below w.heap.size w w') : SeesQ w' a bs := by
  intro i hi
  obtain ⟨b, h1, h2, h3⟩ := h i hi
  exact ⟨b, h1, Nat.lt_of_lt_of_le h2 hb.size, (hb.cell h2).trans h3⟩
theorem OwnB.form {w : World} {base : Nat} {e : TypeId} {v : Value} {bs : List Bool} (h : OwnB w base e v bs) : ∃ a c, v = .slice a bs.length c ∧ SeesQ w a bs := by
  have hl := h.lt
  rcases h.2 with ⟨rfl, h0⟩ | ⟨g, cap, cur, rfl, h1⟩
  · refine ⟨none, 0, by rw [h0], fun i hi => by omega⟩
  · refine ⟨_, cap, rfl, fun i hi => ⟨g, rfl, (hl g rfl).2, ?_⟩⟩
    rw [World.ownsRow.cellAt h i (by omega)]
    simp [hi]
section
variable {P : Program}
/-- 'append(s, x)' of one bool; s nil or the call's own. -/
theorem wpList_appendB (w : World) {ops : Array Oper} {rest : List Oper} {o : Oper} {a : Act} {Q : Exit → Act → World → Prop} (hgd : o.guard = none) (s x : Operand) (t : TypeId)
    (ho : o.op = .call { callee := .builtin .append, args := #[s, x], argTypes := #[t, t] })
    (base : Nat) (e : TypeId) (bytes : Nat) (ht : P.underlying t = some (.slice e)) (h2 : (P.info? e).map (fun i => (i.zero, i.size, i.bytes)) = some (some (.bool false), 1, bytes))
    (v : Value) (bs : List Bool) (hs : a.eval s = v) (hown : OwnB w base e v bs)
    (g2 : Nat) (u : Bool) (hx : a.eval x = .slice (some ⟨g2, 0, none⟩) 1 1) (hu : w.cell? ⟨g2, 0, none⟩ = some (.bool u))
    (h63 : bs.length + 1 ≤ 9223372036854775807) (hbytes : (bs.length + 1) * bytes ≤ 140737488355328) (hbase : base ≤ w.heap.size)
    (h : ∀ g cap w', OwnB w' base e (.slice (some ⟨g, 0, none⟩) (bs.length + 1) cap) (bs ++ [u]) → w.grownBy w' v.ownBlock → (v.ownBlock = some g ∨ g = w.heap.size) → wpList P ops Q rest (a.put o.dst (.slice (some ⟨g, 0, none⟩) (bs.length + 1) cap)) w') : wpList P ops Q (o :: rest) a w := by
  obtain ⟨i, hi, hz, hsz, hb⟩ := info_parts h2
  refine wpList_append_lies w hgd s x t ho base e i (.bool false) 1 bytes ht hi hz hsz hb rfl (by omega) v bs.length (bools bs) hs hown ⟨g2, 0, none⟩ 1 1 [.bool u] hx rfl ?_ ?_ (by omega) (by unfold maxLen; omega) hbytes hbase w.heap.size rfl ?_
  · intro j y hj
    match j, hj with
    | 0, hj => simp at hj; subst hj; exact hu
    | j + 1, hj => simp at hj
  · intro y hy; simp at hy; subst hy; rfl
  · intro g cap w' h1 h3 h4 _
    refine h g cap w' ?_ h3 h4
    unfold OwnB
    rw [List.length_append, show bools (bs ++ [u]) = bools bs ++ [.bool u] from List.map_append]
    exact h1
end
end Go.Proofs.Ymbrcg
