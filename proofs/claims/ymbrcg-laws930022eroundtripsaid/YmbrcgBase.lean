/- The base of this seat's walks: a block of memory known whole; what a slice that is only read shows. No program in sight. -/
import Derived.WalkKit
import Derived.WalkSpells
import Derived.WalkLawsBesides
import Derived.ProofKit
import Derived.OpenShut
import Derived.Deep.Draws
import Derived.Deep.QuietTactic
import Derived.BigQuiet
import Derived.Handy
namespace Go.Proofs.Ymbrcg
open Go.RowKit
set_option linter.unusedVariables false
set_option linter.unusedSimpArgs false

/-- Block g is a row of cells of element type e, the values vs, none of them frozen. -/
def RowV (w : World) (g : Nat) (e : TypeId) (vs : List Value) : Prop := w.heap[g]? = some (.cells vs.toArray e (0, 0))

theorem RowV.lt {w : World} {g : Nat} {e : TypeId} {vs : List Value} (h : RowV w g e vs) : g < w.heap.size := (Array.getElem?_eq_some_iff.1 h).1
theorem RowV.cell {w : World} {g : Nat} {e : TypeId} {vs : List Value} (h : RowV w g e vs) {i : Nat} {v : Value} (hv : vs[i]? = some v) : w.cell? ⟨g, i, none⟩ = some v := by
  rw [cell_of_row w g i _ e (0, 0) h]; simpa using hv
theorem RowV.frozen {w : World} {g : Nat} {e : TypeId} {vs : List Value} (h : RowV w g e vs) (i : Nat) : w.frozen? ⟨g, i, none⟩ = false := frozen_of_row w g i _ e h
theorem RowV.set {w : World} {g : Nat} {e : TypeId} {vs : List Value} (h : RowV w g e vs) (i : Nat) (v : Value) : RowV (w.setCell ⟨g, i, none⟩ v) g e (vs.set i v) := by
  unfold RowV; rw [Go.heap_setCell_same w g i _ e v h]; simp
theorem RowV.other {w : World} {g : Nat} {e : TypeId} {vs : List Value} (h : RowV w g e vs) (a : Addr) (v : Value) (hne : g ≠ a.block) : RowV (w.setCell a v) g e vs := by
  unfold RowV; rw [Go.heap_setCell_other w a g v hne]; exact h
theorem RowV.drew {w : World} {g : Nat} {e : TypeId} {vs : List Value} (h : RowV w g e vs) : RowV w.drew g e vs := h
theorem RowV.alloc {w : World} {g : Nat} {e : TypeId} {vs : List Value} (h : RowV w g e vs) (o : Obj) : RowV (w.alloc o) g e vs := by
  unfold RowV; rw [Go.heap_alloc_old w o h.lt]; exact h
theorem RowV.fresh (w : World) (e : TypeId) (vs : List Value) (n : Nat) (hn : n = w.heap.size) : RowV (w.alloc (.cells vs.toArray e)) n e vs := by
  subst hn; exact Go.heap_alloc_new w _
theorem RowV.below {w w' : World} {g : Nat} {e : TypeId} {vs : List Value} (h : RowV w g e vs) {B : Nat} (hb : Below B w w') (hg : g < B) : RowV w' g e vs := by
  unfold RowV; rw [hb.block g hg]; exact h
theorem RowV.grown {w w' : World} {g : Nat} {e : TypeId} {vs : List Value} (h : RowV w g e vs) {row : Option Nat} (hg : w.grownBy w' row) (hne : some g ≠ row) : RowV w' g e vs := by
  unfold RowV; rw [hg.block g h.lt hne]; exact h

/-- Integers as a row. -/
abbrev ints (k : IntKind) (xs : List Int) : List Value := xs.map (Value.int k)
theorem ints_get (k : IntKind) (xs : List Int) (i : Nat) (h : i < xs.length) : (ints k xs)[i]? = some (.int k xs[i]) := by simp [h]
theorem ints_set (k : IntKind) (xs : List Int) (i : Nat) (v : Int) : (ints k xs).set i (.int k v) = ints k (xs.set i v) := by simp
theorem ints_one (k : IntKind) (xs : List Int) : (ints k xs).toArray.all (·.oneCell') = true := by
  rw [Array.all_eq_true_iff_forall_mem]
  intro v hv
  simp at hv
  obtain ⟨_, _, rfl⟩ := hv
  rfl
theorem RowV.int {w : World} {g : Nat} {e : TypeId} {k : IntKind} {xs : List Int} (h : RowV w g e (ints k xs)) {i : Nat} (hi : i < xs.length) : w.cell? ⟨g, i, none⟩ = some (.int k (xs[i]?.getD 0)) := by
  refine h.cell ?_
  rw [ints_get k xs i hi]; simp [hi]
theorem RowV.setInt {w : World} {g : Nat} {e : TypeId} {k : IntKind} {xs : List Int} (h : RowV w g e (ints k xs)) (i : Nat) (v : Int) : RowV (w.setCell ⟨g, i, none⟩ (.int k v)) g e (ints k (xs.set i v)) := by
  rw [← ints_set]; exact h.set i _

/-- What a slice of integers that is only read shows: its length's bound, its cells, wherever they lie. -/
def Sees (k : IntKind) (w : World) (a : Option Addr) (xs : List Int) : Prop :=
  xs.length ≤ 9223372036854775807 ∧ (∀ i, i < xs.length → ∃ b off, a = some ⟨b, off, none⟩ ∧ b < w.heap.size ∧ w.cell? ⟨b, off + i, none⟩ = some (.int k (xs[i]?.getD 0)))
theorem Sees.below {k : IntKind} {w w' : World} {a : Option Addr} {xs : List Int} (h : Sees k w a xs) {B : Nat} (hb : Below B w w') (hB : w.heap.size ≤ B) : Sees k w' a xs := by
  refine ⟨h.1, fun i hi => ?_⟩
  obtain ⟨b, off, h1, h2, h3⟩ := h.2 i hi
  exact ⟨b, off, h1, Nat.lt_of_lt_of_le h2 hb.size, (hb.cell (by show b < B; omega)).trans h3⟩
/-- A row of the call's own, seen as a slice. -/
theorem Sees.row {k : IntKind} {w : World} {g : Nat} {e : TypeId} {xs : List Int} (h : RowV w g e (ints k xs)) (hm : xs.length ≤ 9223372036854775807) : Sees k w (some ⟨g, 0, none⟩) xs :=
  ⟨hm, fun i hi => ⟨g, 0, rfl, h.lt, by rw [Nat.zero_add]; exact h.int hi⟩⟩

theorem Sees.alloc {k : IntKind} {w : World} {a : Option Addr} {xs : List Int} (h : Sees k w a xs) (o : Obj) : Sees k (w.alloc o) a xs := h.below ((Below.refl _ _).alloc (Nat.le_refl _) o) (Nat.le_refl _)
theorem Sees.drewN {k : IntKind} {w : World} {a : Option Addr} {xs : List Int} (h : Sees k w a xs) (n : Nat) : Sees k (w.drewN n) a xs := h
theorem RowV.drewN {w : World} {g : Nat} {e : TypeId} {vs : List Value} (h : RowV w g e vs) (n : Nat) : RowV (w.drewN n) g e vs := h
theorem below_drewN' {B : Nat} {a w : World} (h : Below B a w) (n : Nat) : Below B a (w.drewN n) := ⟨h.os, h.tape, h.output, h.size, h.block⟩
/-- From what the row's step tells of a slice of integers to what a walk takes. -/
theorem sees_of {k : IntKind} {w : World} {a : Option Addr} {len cap : Nat} {zs : List Int} (h : (a = none ∧ len = 0 ∧ cap = 0 ∧ zs = []) ∨
    ∃ x, a = some x ∧ len ≤ cap ∧ cap ≤ maxLen ∧ zs.length = cap ∧ (∀ i, i < zs.length → w.cell? (x.add i) = some (.int k (zs.getD i 0))) ∧ ∀ n ∈ zs, (Lit.int k n).wf = true) :
    ∃ xs : List Int, xs.length = len ∧ Sees k w a xs ∧ ∀ n ∈ xs, (Lit.int k n).wf = true := by
  rcases h with ⟨rfl, rfl, rfl, rfl⟩ | ⟨x, rfl, h1, h2, h3, h4, h5⟩
  · exact ⟨[], rfl, ⟨by simp, fun i hi => by simp at hi⟩, by simp⟩
  · have hl : (zs.take len).length = len := by rw [List.length_take]; omega
    unfold maxLen at h2
    refine ⟨zs.take len, hl, ⟨by omega, fun i hi => ?_⟩, fun n hn => h5 n (List.mem_of_mem_take hn)⟩
    have hc := h4 i (by omega)
    obtain ⟨b, off, spot⟩ := x
    have hspot : spot = none := by simpa [Addr.add] using World.cell?_spot (h4 0 (by omega))
    subst hspot
    rw [Addr.add_lit] at hc
    refine ⟨b, off, rfl, block_lt_of_cell hc, ?_⟩
    rw [hc, List.getElem?_take_of_lt (by omega)]
    rfl

section
variable {P : Program}
/-- A whole block (an array's or a struct's) is loaded. -/
theorem wpList_loadRow {ops : Array Oper} {rest : List Oper} {o : Oper} {a : Act} {w : World} {Q : Exit → Act → World → Prop} (hgd : o.guard = none) (ty : TypeId) (x : Operand) (ho : o.op = .load ty x)
    (g : Nat) (hx : a.eval x = .pointer (some ⟨g, 0, none⟩)) (e : TypeId) (vs : List Value) (d : TypeDesc) (hg : RowV w g e vs)
    (hu : P.underlying ty = some d) (hd : (match d with | .struct _ | .array _ _ => true | _ => false) = true) (hi : (P.info? ty).map (·.size) = some vs.length)
    (h : wpList P ops Q rest (a.put o.dst (.agg vs.toArray)) w) : wpList P ops Q (o :: rest) a w :=
  wpList_load_row hgd ty x ho g hx e vs.toArray (0, 0) d hg hu hd (by simpa using hi) h
/-- A whole block is stored. -/
theorem wpList_storeRow {ops : Array Oper} {rest : List Oper} {o : Oper} {a : Act} {w : World} {Q : Exit → Act → World → Prop} (hgd : o.guard = none) (ty : TypeId) (x y : Operand) (ho : o.op = .store ty x y)
    (g : Nat) (vs : List Value) (hx : a.eval x = .pointer (some ⟨g, 0, none⟩)) (hy : a.eval y = .agg vs.toArray)
    (e : TypeId) (old : List Value) (hg : RowV w g e old) (hi : (P.info? ty).map (·.size) = some vs.length)
    (hold : old.length = vs.length) (h1 : vs.toArray.all (·.oneCell') = true)
    (h : ∀ w', RowV w' g e vs → w.grownBy w' (some g) → wpList P ops Q rest (a.put o.dst undef) w') : wpList P ops Q (o :: rest) a w :=
  wpList_store_row hgd ty x y ho g vs.toArray hx hy e old.toArray hg (by simpa using hi) (by simpa using hold) h1
    (h _ (setRow_heap w g _ _ e _ hg) ⟨rfl, rfl, rfl, by simp [World.setRow], fun k _ hk => setRow_other w g k _ (fun e => hk (by simp [e]))⟩)
/-- A function whose one result lies in a variable: it is the block's content. -/
theorem ret_row {fn : Func} {p : Tmp} {ty : TypeId} {R : Ending → World → Prop} {a : Act} {w : World} (h : fn.results = #[.cell p ty]) (g : Nat) (e : TypeId) (vs : List Value) (d : TypeDesc)
    (hp : a.tmps.getD p undef = .pointer (some ⟨g, 0, none⟩)) (hg : RowV w g e vs)
    (hu : P.underlying ty = some d) (hd : (match d with | .struct _ | .array _ _ => true | _ => false) = true) (hi : (P.info? ty).map (·.size) = some vs.length)
    (hdf : a.defers = []) (hR : R (.returned (.agg vs.toArray)) w) : bodyPost P fn R .ret a w :=
  bodyPost_ret (results_cell_row h a.tmps w g e vs.toArray (0, 0) d hp hg hu hd (by simpa using hi)) hdf hR
/-- .. and a second result in a slot. -/
theorem ret_row_tmp {fn : Func} {p u : Tmp} {ty : TypeId} {R : Ending → World → Prop} {a : Act} {w : World} (h : fn.results = #[.cell p ty, .tmp u]) (g : Nat) (e : TypeId) (vs : List Value) (d : TypeDesc)
    (hp : a.tmps.getD p undef = .pointer (some ⟨g, 0, none⟩)) (hg : RowV w g e vs)
    (hu : P.underlying ty = some d) (hd : (match d with | .struct _ | .array _ _ => true | _ => false) = true) (hi : (P.info? ty).map (·.size) = some vs.length)
    (hdf : a.defers = []) (hR : R (.returned (.tuple #[.agg vs.toArray, a.tmps.getD u undef])) w) : bodyPost P fn R .ret a w := by
  refine bodyPost_ret (v := .tuple #[.agg vs.toArray, a.tmps.getD u undef]) ?_ hdf hR
  rw [results_cell_tmp h, hp]
  simp [asAddr, run_loadVar_row w g e ty vs.toArray (0, 0) d hg hu hd (by simpa using hi)]
/-- 'make([]T, n)': a new row of n zero elements, at its head the slice. -/
theorem wpList_makeRow (w : World) {ops : Array Oper} {rest : List Oper} {o : Oper} {a : Act} {Q : Exit → Act → World → Prop}
    (hg : o.guard = none) (l c : Operand) (t : TypeId) (hop : o.op = Op.makeSlice t l c)
    (e : TypeId) (z : Value) (size bytes : Nat) (h1 : P.underlying t = some (.slice e)) (h2 : (P.info? e).map (fun i => (i.zero, i.size, i.bytes)) = some (some z, size, bytes))
    (kl kc : IntKind) (L C : Int) (n : Nat) (hl : a.eval l = .int kl L) (hc : a.eval c = .int kc C) (hL : L = (n : Int)) (hC : C = (n : Int)) (b2 : bytes * n ≤ 281474976710656) (b3 : n ≤ maxLen)
    (hK : ∀ w', RowV w' w.heap.size e (madeCells z.cells (n * size)).toList → w.grownBy w' none → wpList P ops Q rest (a.put o.dst (.slice (some ⟨w.heap.size, 0, none⟩) n n)) w') :
    wpList P ops Q (o :: rest) a w := by
  obtain ⟨i, hi, hz, hs, hb⟩ := info_parts h2
  refine wpList_make_full w hg l c t hop w.heap.size e i z size h1 hi hz hs kl kc L C n hl hc hL hC (by rw [hb]; exact b2) b3 (Nat.le_refl _) fun w' hown hgr => ?_
  refine hK w' ?_ hgr
  rcases hown.2 with ⟨h', _⟩ | ⟨g', cap', cur, h', _, hgg, _, _, hsz, htake⟩
  · simp at h'
  · simp only [Value.slice.injEq, Option.some.injEq, Addr.mk.injEq, and_true, true_and] at h'
    obtain ⟨rfl, rfl⟩ := h'
    unfold RowV
    rw [hgg, ← htake, List.take_of_length_le (by simp [hsz])]
theorem made_int (k : IntKind) (n : Nat) : (madeCells (Value.int k 0).cells (n * 1)).toList = ints k (List.replicate n 0) := by
  apply List.ext_getElem
  · simp [madeCells]
  · intro i h1 h2
    simp [madeCells, Value.cells, Nat.mod_one]
end
theorem build_set (pre : List Int) (n k : Nat) (v : Int) (h : pre.length = k) (hk : k < n) : (pre ++ List.replicate (n - k) 0).set k v = (pre ++ [v]) ++ List.replicate (n - (k + 1)) 0 := by
  rw [List.set_append_right _ _ (by omega), show n - k = (n - (k + 1)) + 1 from by omega, List.replicate_succ, h, Nat.sub_self, List.set_cons_zero, List.append_assoc]
  rfl
theorem build_length (pre : List Int) (n k : Nat) (h : pre.length = k) (hk : k ≤ n) : (pre ++ List.replicate (n - k) (0 : Int)).length = n := by
  rw [List.length_append, List.length_replicate]; omega
theorem build_full (pre : List Int) (n k : Nat) (h : ¬ k < n) : pre ++ List.replicate (n - k) (0 : Int) = pre := by
  rw [show n - k = 0 from by omega]; simp
theorem below_of_grown {w w' : World} {row : Option Nat} {B : Nat} (hg : w.grownBy w' row) (hB : B ≤ w.heap.size) (hr : ∀ k, row = some k → B ≤ k) : Below B w w' := (Below.refl B w).grown hg hB hr
theorem grown_of_below {w w' : World} (h : Below w.heap.size w w') : w.grownBy w' none := ⟨h.os, h.tape, h.output, h.size, fun k hk _ => h.block k hk⟩
theorem cell_fresh (w : World) (v : Value) (e : TypeId) (n : Nat) (hn : n = w.heap.size) : (w.alloc (.cells #[v] e)).cell? ⟨n, 0, none⟩ = some v :=
  (RowV.fresh w e [v] n hn).cell rfl
theorem hid {p : Prop} (h : p) : Hid p := h
theorem ret_int {k : IntKind} {a b : Int} (h : a = b) : Ending.returned (.int k a) = .returned (.int k b) := by rw [h]
theorem ret_bool {a b : Bool} (h : a = b) : Ending.returned (.bool a) = .returned (.bool b) := by rw [h]
theorem ret_ib {k : IntKind} {a b : Int} {p q : Bool} (h : a = b) (h' : p = q) : Ending.returned (.tuple #[.int k a, .bool p]) = .returned (.tuple #[.int k b, .bool q]) := by rw [h, h']
theorem ret_eq {v u : Value} (h : v = u) : Ending.returned v = .returned u := by rw [h]
theorem getD_get (xs : List Int) (k : Nat) (h : k < xs.length) : xs[k]?.getD 0 = xs[k] := by simp [h]
end Go.Proofs.Ymbrcg
