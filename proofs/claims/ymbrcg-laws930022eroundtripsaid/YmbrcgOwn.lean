/- Slices that the call itself makes and grows: of integers (one cell each). No program in sight. -/
import Derived.Test.YmbrcgBase
import Derived.Deep.AppendLies
namespace Go.Proofs.Ymbrcg
open Go.RowKit
set_option linter.unusedVariables false
set_option linter.unusedSimpArgs false

/-- The slice at the head of block g, of capacity cap, holds xs; the block is one of the call's own (from base on). -/
def OwnI (w : World) (base g : Nat) (e : TypeId) (k : IntKind) (cap : Nat) (xs : List Int) : Prop :=
  w.ownsRow base e 1 (.slice (some ⟨g, 0, none⟩) xs.length cap) xs.length (ints k xs)
section
variable {w w' : World} {base g : Nat} {e : TypeId} {k : IntKind} {cap : Nat} {xs : List Int}
theorem OwnI.int (h : OwnI w base g e k cap xs) {i : Nat} (hi : i < xs.length) : w.cell? ⟨g, i, none⟩ = some (.int k (xs[i]?.getD 0)) := by
  rw [World.ownsRow.cellAt h i (by omega), ints_get k xs i hi]; simp [hi]
theorem OwnI.frozen (h : OwnI w base g e k cap xs) (i : Nat) : w.frozen? ⟨g, i, none⟩ = false := World.ownsRow.frozenAt h i
theorem OwnI.at (h : OwnI w base g e k cap xs) : base ≤ g ∧ g < w.heap.size := World.ownsRow.lt h g rfl
theorem OwnI.set (h : OwnI w base g e k cap xs) (i : Nat) (v : Int) : OwnI (w.setCell ⟨g, i, none⟩ (.int k v)) base g e k cap (xs.set i v) := by
  have := (World.ownsRow.stored h i (.int k v)).1
  rw [ints_set] at this
  unfold OwnI
  rw [List.length_set]
  exact this
theorem OwnI.alloc (h : OwnI w base g e k cap xs) (o : Obj) : OwnI (w.alloc o) base g e k cap xs := World.ownsRow.alloc h o
theorem OwnI.drew (h : OwnI w base g e k cap xs) : OwnI w.drew base g e k cap xs := h
theorem OwnI.grown (h : OwnI w base g e k cap xs) {row : Option Nat} (hg : w.grownBy w' row) (hne : some g ≠ row) : OwnI w' base g e k cap xs := World.ownsRow.kept h hg (.inr (by simpa [Value.ownBlock] using hne))
theorem OwnI.below (h : OwnI w base g e k cap xs) (hb : Below w.heap.size w w') : OwnI w' base g e k cap xs := h.grown (grown_of_below hb) (by simp)
theorem OwnI.other (h : OwnI w base g e k cap xs) (a : Addr) (v : Value) (hne : g ≠ a.block) : OwnI (w.setCell a v) base g e k cap xs :=
  h.grown (row := some a.block) ⟨rfl, rfl, rfl, by simp, fun j _ hj => Go.heap_setCell_other w a j v (fun e => hj (by rw [e]))⟩ (by simpa using hne)
theorem OwnI.sees (h : OwnI w base g e k cap xs) (hm : xs.length ≤ 9223372036854775807) : Sees k w (some ⟨g, 0, none⟩) xs :=
  ⟨hm, fun i hi => ⟨g, 0, rfl, h.at.2, by rw [Nat.zero_add]; exact h.int hi⟩⟩
theorem OwnI.ofRow (h : RowV w g e (ints k xs)) (hb : base ≤ g) (hm : xs.length ≤ 9223372036854775807) : OwnI w base g e k xs.length xs :=
  ⟨by simp, .inr ⟨g, xs.length, (ints k xs).toArray, rfl, hb, h, Nat.le_refl _, by unfold maxLen; omega, by simp, by rw [List.take_of_length_le (by simp)]⟩⟩
theorem OwnI.rebase (h : OwnI w base g e k cap xs) {base' : Nat} (hb : base' ≤ g) : OwnI w base' g e k cap xs := by
  refine ⟨h.1, ?_⟩
  rcases h.2 with ⟨h', _⟩ | ⟨g', cap', cur, h', r1, r2⟩
  · simp at h'
  · refine .inr ⟨g', cap', cur, h', ?_, r2⟩
    simp only [Value.slice.injEq, Option.some.injEq, Addr.mk.injEq, and_true, true_and] at h'
    omega
end
/-- A nil slice, or one of the call's own. Nil exactly if there is nothing in it. -/
def OwnN (w : World) (base : Nat) (e : TypeId) (k : IntKind) (v : Value) (xs : List Int) : Prop :=
  (v = .slice none 0 0 ∧ xs = []) ∨ ∃ g cap, v = .slice (some ⟨g, 0, none⟩) xs.length cap ∧ xs ≠ [] ∧ OwnI w base g e k cap xs
theorem OwnN.nil (w : World) (base : Nat) (e : TypeId) (k : IntKind) : OwnN w base e k (.slice none 0 0) [] := .inl ⟨rfl, rfl⟩
theorem OwnN.owns {w : World} {base : Nat} {e : TypeId} {k : IntKind} {v : Value} {xs : List Int} (h : OwnN w base e k v xs) : w.ownsRow base e 1 v xs.length (ints k xs) := by
  rcases h with ⟨rfl, rfl⟩ | ⟨g, cap, rfl, _, h⟩
  · exact World.ownsRow_nil _ _ _ _
  · exact h
theorem OwnN.grown {w w' : World} {base : Nat} {e : TypeId} {k : IntKind} {v : Value} {xs : List Int} (h : OwnN w base e k v xs) {row : Option Nat} (hg : w.grownBy w' row) (hne : v.ownBlock = none ∨ v.ownBlock ≠ row) : OwnN w' base e k v xs := by
  rcases h with ⟨rfl, rfl⟩ | ⟨g, cap, rfl, h0, h⟩
  · exact .inl ⟨rfl, rfl⟩
  · exact .inr ⟨g, cap, rfl, h0, World.ownsRow.kept h hg hne⟩
theorem OwnN.below {w w' : World} {base : Nat} {e : TypeId} {k : IntKind} {v : Value} {xs : List Int} (h : OwnN w base e k v xs) (hb : Below w.heap.size w w') : OwnN w' base e k v xs :=
  h.grown (grown_of_below hb) (by cases v.ownBlock <;> simp)
theorem OwnN.alloc {w : World} {base : Nat} {e : TypeId} {k : IntKind} {v : Value} {xs : List Int} (h : OwnN w base e k v xs) (o : Obj) : OwnN (w.alloc o) base e k v xs :=
  h.grown (World.grownBy_alloc w o none) (by cases v.ownBlock <;> simp)
/-- What a nil slice or one of the call's own shows to a reader. -/
theorem OwnN.form {w : World} {base : Nat} {e : TypeId} {k : IntKind} {v : Value} {xs : List Int} (h : OwnN w base e k v xs) (hm : xs.length ≤ 9223372036854775807) :
    ∃ a cap, v = .slice a xs.length cap ∧ Sees k w a xs ∧ (a = none ↔ xs = []) := by
  rcases h with ⟨rfl, rfl⟩ | ⟨g, cap, rfl, h0, h⟩
  · exact ⟨none, 0, rfl, ⟨by simp, fun i hi => by simp at hi⟩, by simp⟩
  · exact ⟨_, cap, rfl, h.sees hm, by simp [h0]⟩

section
variable {P : Program}
/-- 'append(s, x)' of one integer; s nil or the call's own. -/
theorem wpList_appendI (w : World) {ops : Array Oper} {rest : List Oper} {o : Oper} {a : Act} {Q : Exit → Act → World → Prop} (hgd : o.guard = none) (s x : Operand) (t : TypeId)
    (ho : o.op = .call { callee := .builtin .append, args := #[s, x], argTypes := #[t, t] })
    (base : Nat) (e : TypeId) (k : IntKind) (bytes : Nat) (ht : P.underlying t = some (.slice e)) (h2 : (P.info? e).map (fun i => (i.zero, i.size, i.bytes)) = some (some (.int k 0), 1, bytes))
    (v : Value) (xs : List Int) (hs : a.eval s = v) (hown : w.ownsRow base e 1 v xs.length (ints k xs))
    (g2 : Nat) (u : Int) (hx : a.eval x = .slice (some ⟨g2, 0, none⟩) 1 1) (hu : w.cell? ⟨g2, 0, none⟩ = some (.int k u))
    (h63 : xs.length + 1 ≤ 9223372036854775807) (hbytes : (xs.length + 1) * bytes ≤ 140737488355328) (hbase : base ≤ w.heap.size)
    (h : ∀ g cap w', OwnI w' base g e k cap (xs ++ [u]) → w.grownBy w' v.ownBlock → (v.ownBlock = some g ∨ g = w.heap.size) → wpList P ops Q rest (a.put o.dst (.slice (some ⟨g, 0, none⟩) (xs.length + 1) cap)) w') : wpList P ops Q (o :: rest) a w := by
  obtain ⟨i, hi, hz, hsz, hb⟩ := info_parts h2
  refine wpList_append_lies w hgd s x t ho base e i (.int k 0) 1 bytes ht hi hz hsz hb rfl (by omega) v xs.length (ints k xs) hs hown ⟨g2, 0, none⟩ 1 1 [.int k u] hx rfl ?_ ?_ (by omega) (by unfold maxLen; omega) hbytes hbase w.heap.size rfl ?_
  · intro j y hj
    match j, hj with
    | 0, hj => simp at hj; subst hj; exact hu
    | j + 1, hj => simp at hj
  · intro y hy; simp at hy; subst hy; rfl
  · intro g cap w' h1 h3 h4 _
    refine h g cap w' ?_ h3 h4
    unfold OwnI
    rw [List.length_append, show ints k (xs ++ [u]) = ints k xs ++ [.int k u] from List.map_append]
    exact h1
end
end Go.Proofs.Ymbrcg
