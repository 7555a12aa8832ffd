/- The law 'JJoins' of huff: the row's step, after the given shell's own way; the walk comes out of the texts that are imported. -/
import Derived.Test.YmbrchRows
import Derived.WalkKit
import Derived.ProofKit
import Derived.OpenShut
import Derived.ShutString
import Derived.ChangeOld
import Derived.Below
import Derived.Test.YmbrchWJJoins

namespace Go.Proofs.Ymbrch.lawS930022JJoins
open Go.ChangeShapes Go.WideShapes Go.ChangeAt Go.RowKit
open Go.ChangeMaps (open_string shut_string)
set_option linter.unusedVariables false
set_option linter.unusedSimpArgs false

theorem own : ownKnob Ychm.prog.godebug = none := by kernel_rfl
theorem laidOut : laidOutB Ychm.prog = true := by kernel_rfl

/-- What the walk is told of a slice of integers that came in. -/
def IsRow (k : IntKind) (w : World) (a : Option Addr) (len cap : Nat) (zs : List Int) : Prop :=
  (a = none ∧ len = 0 ∧ cap = 0 ∧ zs = []) ∨
  ∃ x, a = some x ∧ len ≤ cap ∧ cap ≤ maxLen ∧ zs.length = cap ∧ (∀ i, i < zs.length → w.cell? (x.add i) = some (.int k (zs.getD i 0))) ∧ ∀ n ∈ zs, (Lit.int k n).wf = true

theorem walk (a0 : Option Addr) (cap0 : Nat) (c0 : List (Int × Int)) (w : World) (w0 : SeesC w a0 c0) (y0 : ∀ x ∈ c0, (Lit.int .u32 x.1).wf = true ∧ (Lit.int .u8 x.2).wf = true) :
    Calls Ychm.prog 5 #[.slice a0 c0.length cap0] w fun e w' => e = .returned (.bool true) ∧ Below w.heap.size w w' := by
  exact jjoins_any a0 cap0 c0 w w0 (fun x hx => ⟨by have := bounds_u32 (y0 x hx).1; omega, bounds_u8 (y0 x hx).2⟩)

set_option maxRecDepth 100000 in
theorem lifted (os : Os) (started : os.Started) (H : Type) (enc : TypeId × Value → H) :
    ReturnsInHanded {} Ychm.checked os 5 .any (Rows.lawS930022JJoinsSpec.pre6 enc Ychm.prog Ychm.f5 Rows.lawS930022JJoinsRow.domain false) (Rows.lawS930022JJoinsSpec.post enc Ychm.prog Ychm.f5 false true false false) := by
  refine returnsInHanded_of_change (C := Ychm.checked) own started (by kernel_rfl) Ychm.func5
    (ChangeSpec.witness6 (enc := enc) (C := Ychm.checked) false ⟨#[], #[.slice none 0 0], []⟩ 8 (by kernel_rfl) (by kernel_rfl) (by kernel_rfl) (by kernel_rfl)) ?_
  intro W base args ds gs before hval0 hW hcnd _
  have hval : ∀ (j : Nat) t v, Ychm.f5.params[j]? = some t → args[j]? = some v → Value.okWide Ychm.prog W .any base t v := hval0
  have hW' := hW
  obtain ⟨p, q, hA0, hV, rfl, hfz, hnd⟩ := hW
  have hA : DataW.TrodAll enc Ychm.prog W 0 (fun _ => true) true Ychm.f5.params.toList args.toList ds p := hA0
  rw [Ychm.params5] at hA hval
  obtain ⟨v0, vs0, d0, ds0, p0, q0, hargs, rfl, rfl, h0, r0⟩ := trodAll_cons hA
  obtain ⟨rfl, rfl, rfl⟩ := trodAll_nil r0
  obtain rfl : args = #[v0] := by cases args; simp_all
  obtain ⟨rfl, rfl⟩ := trodVars_none hV
  obtain ⟨a0, len0, cap0, rfl⟩ := okWide_slice Ychm.underlying33 (hval 0 33 v0 rfl rfl)
  have k0 := h0
  have lt0 : ∀ x ∈ p0, x.block < W.heap.size := by obtain ⟨m, hm⟩ := k0; exact DataW.trod_lt m _ _ _ hm
  obtain ⟨c0, rfl, w0, y0⟩ := open_cs (t0 := 23) (t1 := 5) Ychm.underlying33 Ychm.underlying34 (by kernel_rfl) ⟨_, rfl, rfl, rfl⟩ ⟨_, rfl, rfl, rfl⟩ rfl Ychm.underlying23 Ychm.underlying5 (by kernel_rfl) (by kernel_rfl) h0
  clear hA0 hval0
  refine (walk a0 cap0 c0 W w0 y0).mono fun e W' ⟨he, bel⟩ => ?_
  subst he
  exact ⟨_, rfl, _, _, _, [], _, [], hW', trodAll_mk1 (shut_bool Ychm.underlying4 _), (trodAll_cons_mk (Below.trod laidOut (by kernel_rfl) (of_decide_eq_true (by kernel_rfl)) k0 bel lt0) trodAll_mk0), rfl, bel.frame _, fun h => by cases h⟩

theorem over : Rows.lawS930022JJoinsRow.holds Ychm.pinned (OpenSpec.ofChange Rows.lawS930022JJoinsSpec) :=
  OpenClaim.holds_of_wide 5 Ychm.f5 rfl rfl rfl rfl rfl rfl rfl ⟨rfl, rfl, rfl, rfl, rfl⟩ rfl rfl rfl rfl rfl (by kernel_rfl) Ychm.func5 (by kernel_rfl)
    (of_decide_eq_true (by kernel_rfl)) (by unfold Func.isWrapper; first | (rw [if_pos (by decide +kernel)]; kernel_rfl) | (rw [if_neg (by decide +kernel)]; exact ⟨rfl, rfl⟩))
    (fun os started H enc _ => lifted os started H enc)

theorem proved : Rows.LawS930022JJoinsSaid := over
#print axioms proved
end Go.Proofs.Ymbrch.lawS930022JJoins
