/- The bits of a sequence of symbols, and that they decode: plain. -/
import Derived.Test.YmbrcgAppend
import Derived.Test.YmbrcgDecode
import Derived.Test.YmbrcgDec2
namespace Go.Proofs.Ymbrcg
open Go.RowKit
set_option linter.unusedVariables false
set_option linter.unusedSimpArgs false
/-- The bits that Append adds for a code. -/
def bitsOf (c : Int × Int) : List Bool := if 15 < c.2 then [] else (List.range c.2.toNat).map (fun j => cbit c.1 (c.2.toNat - 1 - j))
/-- .. for a symbol; nothing if it is out of range. -/
def symC (cds : List (Int × Int)) (s : Int) : List Bool := if 0 ≤ s ∧ s < (cds.length : Int) then bitsOf (cds[s.toNat]?.getD (0, 0)) else []
def encB (cds : List (Int × Int)) (ss : List Int) : List Bool := ss.flatMap (symC cds)
/-- A symbol that has a code. -/
def Good (cds : List (Int × Int)) (s : Int) : Prop := 0 ≤ s ∧ s < (cds.length : Int) ∧ (cds[s.toNat]?.getD (0, 0)).2 ≠ 0
/-- The bytes hold these bits, and zeros behind them. -/
def Holds (ds : List Int) (bs : List Bool) : Prop := ds.length = (bs.length + 7) / 8 ∧ ∀ j, bitD ds j = bs[j]?.getD false
theorem bitsOf_le (c : Int × Int) : (bitsOf c).length ≤ 15 := by
  unfold bitsOf
  split
  · simp
  · simp; omega
theorem symC_le (cds : List (Int × Int)) (s : Int) : (symC cds s).length ≤ 15 := by
  unfold symC
  split
  · exact bitsOf_le _
  · simp
theorem encB_snoc (cds : List (Int × Int)) (ss : List Int) (s : Int) : encB cds (ss ++ [s]) = encB cds ss ++ symC cds s := by
  unfold encB; rw [List.flatMap_append]; simp
theorem encB_append (cds : List (Int × Int)) (ss ts : List Int) : encB cds (ss ++ ts) = encB cds ss ++ encB cds ts := by
  unfold encB; rw [List.flatMap_append]
theorem encB_cons (cds : List (Int × Int)) (s : Int) (ts : List Int) : encB cds (s :: ts) = symC cds s ++ encB cds ts := by
  unfold encB; rw [List.flatMap_cons]
theorem encB_le (cds : List (Int × Int)) : ∀ ss : List Int, (encB cds ss).length ≤ 15 * ss.length
  | [] => by simp [encB]
  | s :: ss => by
    have := encB_le cds ss
    have := symC_le cds s
    rw [encB_cons, List.length_append, List.length_cons]; omega
theorem bitsOf_short (c : Int × Int) (h : ¬ 15 < c.2) : bitsOf c = (List.range c.2.toNat).map (fun j => cbit c.1 (c.2.toNat - 1 - j)) := by unfold bitsOf; rw [if_neg h]
theorem bitsOf_length (c : Int × Int) (h : ¬ 15 < c.2) : (bitsOf c).length = c.2.toNat := by rw [bitsOf_short c h]; simp
theorem bitsOf_get (c : Int × Int) (h : ¬ 15 < c.2) (j : Nat) (hj : j < c.2.toNat) : (bitsOf c)[j]? = some (cbit c.1 (c.2.toNat - 1 - j)) := by rw [bitsOf_short c h]; simp [hj]
/-- One more code: what Append says. -/
theorem holds_step (ds ds' : List Int) (bs : List Bool) (c : Int × Int) (h15 : ¬ 15 < c.2) (h : Holds ds bs) (hl : ds'.length = (bs.length + c.2.toNat + 7) / 8)
    (hb : ∀ j, bitD ds' j = if bs.length ≤ j ∧ j < bs.length + c.2.toNat then cbit c.1 (bs.length + c.2.toNat - 1 - j) else bitD ds j) : Holds ds' (bs ++ bitsOf c) := by
  refine ⟨by rw [hl, List.length_append, bitsOf_length c h15], fun j => ?_⟩
  rw [hb j]
  by_cases h1 : bs.length ≤ j
  · rw [List.getElem?_append_right h1]
    by_cases h2 : j < bs.length + c.2.toNat
    · rw [if_pos ⟨h1, h2⟩, bitsOf_get c h15 _ (by omega), Option.getD_some, show c.2.toNat - 1 - (j - bs.length) = bs.length + c.2.toNat - 1 - j from by omega]
    · rw [if_neg (by omega), h.2 j, List.getElem?_eq_none (by omega), List.getElem?_eq_none (by rw [bitsOf_length c h15]; omega)]
  · rw [if_neg (by omega), h.2 j, List.getElem?_append_left (by omega)]
/-- One more bit. -/
theorem holds_bit (D D' : List Int) (bs : List Bool) (b : Bool) (h : ∀ j, bitD D j = bs[j]?.getD false) (hb : ∀ j, bitD D' j = ((decide (j = bs.length) && b) || bitD D j)) : ∀ j, bitD D' j = (bs ++ [b])[j]?.getD false := by
  intro j
  rw [hb j, h j]
  by_cases h1 : j < bs.length
  · rw [List.getElem?_append_left h1, decide_eq_false (by omega)]; simp
  · rw [List.getElem?_append_right (by omega), List.getElem?_eq_none (show bs.length ≤ j by omega)]
    by_cases h2 : j = bs.length
    · subst h2; simp
    · rw [List.getElem?_eq_none (by simp; omega), decide_eq_false h2]; simp
/-- A used symbol. -/
def Used (ys : List Int) (s : Int) : Prop := 0 ≤ s ∧ s < (ys.length : Int) ∧ 0 < ys[s.toNat]?.getD 0
theorem used_code {ys : List Int} (hl : Lens ys) (hk : ksum ys ≤ 32768) {s : Int} (h : Used ys s) : (assignV ys)[s.toNat]?.getD (0, 0) = (codeB ys (ys[s.toNat]?.getD 0) s.toNat, ys[s.toNat]?.getD 0) := by
  obtain ⟨h0, h1, h2⟩ := h
  have hi : s.toNat < ys.length := by omega
  rw [getD_get _ _ hi] at h2 ⊢
  rw [assignV_get ys hl hk _ hi, if_pos h2, Option.getD_some]
theorem used_good {ys : List Int} (hl : Lens ys) (hk : ksum ys ≤ 32768) {s : Int} (h : Used ys s) : Good (assignV ys) s := by
  refine ⟨h.1, by rw [assignV_length]; exact h.2.1, ?_⟩
  rw [used_code hl hk h]
  have := h.2.2
  show ys[s.toNat]?.getD 0 ≠ 0
  omega
theorem used_len {ys : List Int} (hl : Lens ys) {s : Int} (h : Used ys s) : 0 < ys[s.toNat]?.getD 0 ∧ ys[s.toNat]?.getD 0 ≤ 15 := by
  have hi : s.toNat < ys.length := by have := h.1; have := h.2.1; omega
  refine ⟨h.2.2, ?_⟩
  rw [getD_get _ _ hi]
  exact (hl _ (List.getElem_mem hi)).2
theorem used_sym {ys : List Int} (hl : Lens ys) (hk : ksum ys ≤ 32768) {s : Int} (h : Used ys s) : symC (assignV ys) s = bitsOf (codeB ys (ys[s.toNat]?.getD 0) s.toNat, ys[s.toNat]?.getD 0) := by
  unfold symC
  rw [if_pos ⟨h.1, by rw [assignV_length]; exact h.2.1⟩, used_code hl hk h]
theorem used_symlen {ys : List Int} (hl : Lens ys) (hk : ksum ys ≤ 32768) {s : Int} (h : Used ys s) : (symC (assignV ys) s).length = (ys[s.toNat]?.getD 0).toNat := by
  rw [used_sym hl hk h, bitsOf_length _ (by have := used_len hl h; simp; omega)]
/-- A code that stands at pos is hit. -/
theorem hit_sym {ys : List Int} (hl : Lens ys) (hk : ksum ys ≤ 32768) {s : Int} (h : Used ys s) (ds : List Int) (N : Int) (pre post : List Bool)
    (hb : ∀ j, j < (pre ++ symC (assignV ys) s ++ post).length → bitD ds j = (pre ++ symC (assignV ys) s ++ post)[j]?.getD false) (hd : (pre ++ symC (assignV ys) s ++ post).length ≤ 8 * ds.length)
    (hN : (pre.length : Int) + ys[s.toNat]?.getD 0 ≤ N) : HitAt ys ds N pre.length s.toNat := by
  have hi : s.toNat < ys.length := by have := h.1; have := h.2.1; omega
  have hL := used_len hl h
  have hsl := used_symlen hl hk h
  have hss := used_sym hl hk h
  rw [getD_get _ _ hi] at hL hsl hss hN
  rw [List.length_append, List.length_append, hsl] at hd
  refine match_code hl hk _ _ _ (avail_le _ _ _) hi hL.1 ?_ ?_
  · unfold availD; rw [if_pos (by omega)]; omega
  · intro k hkk
    unfold strm
    rw [show ((pre.length : Int) + (k : Int)).toNat = pre.length + k from by omega, hb _ (by rw [List.length_append, List.length_append, hsl]; omega)]
    rw [List.getElem?_append_left (by rw [List.length_append, hsl]; omega), List.getElem?_append_right (by omega), show pre.length + k - pre.length = k from by omega, hss, bitsOf_get _ (by simp; omega) k (by simpa using hkk)]
    rfl
theorem dec_run {ys : List Int} (hl : Lens ys) (hk : ksum ys ≤ 32768) (ds : List Int) (N : Int) (bs : List Bool) (hb : ∀ j, j < bs.length → bitD ds j = bs[j]?.getD false) (hd : bs.length ≤ 8 * ds.length) (out : List Int) (st : Int) :
    ∀ (post pre : List Int) (tail : List Bool), (∀ s ∈ post, Used ys s) → bs = encB (assignV ys) (pre ++ post) ++ tail → ((encB (assignV ys) (pre ++ post)).length : Int) ≤ N →
      DecR ys ds N ((encB (assignV ys) (pre ++ post)).length : Nat) (pre ++ post) out st → DecR ys ds N ((encB (assignV ys) pre).length : Nat) pre out st
  | [], pre, tail, _, _, _, h => by simpa using h
  | s :: post, pre, tail, hu, hbs, hN, h => by
    have hs : Used ys s := hu s (by simp)
    have hsl := used_symlen hl hk hs
    have hL := used_len hl hs
    have hi : s.toNat < ys.length := by have := hs.1; have := hs.2.1; omega
    have e1 : pre ++ s :: post = (pre ++ [s]) ++ post := by simp
    have e2 : encB (assignV ys) (pre ++ s :: post) = encB (assignV ys) pre ++ symC (assignV ys) s ++ encB (assignV ys) post := by rw [encB_append, encB_cons, List.append_assoc]
    have hlen : (encB (assignV ys) (pre ++ s :: post)).length = (encB (assignV ys) pre).length + (ys[s.toNat]?.getD 0).toNat + (encB (assignV ys) post).length := by rw [e2, List.length_append, List.length_append, hsl]
    have hit : HitAt ys ds N (encB (assignV ys) pre).length s.toNat := by
      have e3 : bs = encB (assignV ys) pre ++ symC (assignV ys) s ++ (encB (assignV ys) post ++ tail) := by rw [hbs, e2, List.append_assoc]
      refine hit_sym hl hk hs ds N _ (encB (assignV ys) post ++ tail) ?_ ?_ ?_
      · rw [← e3]; exact hb
      · rw [← e3]; exact hd
      · omega
    refine .hit _ _ s.toNat hi _ _ (by omega) hit ?_
    have e4 : ((encB (assignV ys) pre).length : Int) + ys[s.toNat] = ((encB (assignV ys) (pre ++ [s])).length : Nat) := by
      rw [encB_snoc, List.length_append, hsl, getD_get _ _ hi]
      rw [getD_get _ _ hi] at hL
      omega
    rw [e4, show ((s.toNat : Nat) : Int) = s from by have := hs.1; omega]
    refine dec_run hl hk ds N bs hb hd out st post (pre ++ [s]) tail (fun x hx => hu x (by simp [hx])) (by rw [← e1]; exact hbs) (by rw [← e1]; exact hN) (by rw [← e1]; exact h)
/-- The bits of used symbols decode to them. -/
theorem dec_all {ys : List Int} (hl : Lens ys) (hk : ksum ys ≤ 32768) (ds : List Int) (ws : List Int) (hu : ∀ s ∈ ws, Used ys s) (hh : Holds ds (encB (assignV ys) ws)) : DecR ys ds ((encB (assignV ys) ws).length : Nat) 0 [] ws 0 :=
  dec_run hl hk ds _ _ (fun j _ => hh.2 j) (by rw [hh.1]; omega) ws 0 ws [] [] hu (by simp) (by simp) (by simpa using .done _ _ (Int.le_refl _))
/-- .. cut by one bit, the last code being one bit: all but the last. -/
theorem dec_cut1 {ys : List Int} (hl : Lens ys) (hk : ksum ys ≤ 32768) (ds : List Int) (ws : List Int) (s : Int) (hu : ∀ x ∈ ws ++ [s], Used ys x) (hh : Holds ds (encB (assignV ys) (ws ++ [s]))) (h1 : ys[s.toNat]?.getD 0 = 1) (N : Int) (hN : N = ((encB (assignV ys) (ws ++ [s])).length : Nat) - 1) : DecR ys ds N 0 [] ws 0 := by
  have hsl := used_symlen hl hk (hu s (by simp))
  have e : N = ((encB (assignV ys) ws).length : Nat) := by rw [hN, encB_snoc, List.length_append, hsl, h1]; simp
  exact dec_run hl hk ds _ _ (fun j _ => hh.2 j) (by rw [hh.1]; omega) ws 0 ws [] (symC (assignV ys) s) (fun x hx => hu x (by simp [hx])) (by simp [encB_snoc]) (by simp [e]) (by simpa using .done _ _ (by omega))
/-- .. or else too short. -/
theorem dec_cut2 {ys : List Int} (hl : Lens ys) (hk : ksum ys ≤ 32768) (ds : List Int) (ws : List Int) (s : Int) (hu : ∀ x ∈ ws ++ [s], Used ys x) (hh : Holds ds (encB (assignV ys) (ws ++ [s]))) (h1 : ys[s.toNat]?.getD 0 ≠ 1) (N : Int) (hN : N = ((encB (assignV ys) (ws ++ [s])).length : Nat) - 1) : DecR ys ds N 0 [] [] 1 := by
  have hs := hu s (by simp)
  have hsl := used_symlen hl hk hs
  have hL := used_len hl hs
  have hi : s.toNat < ys.length := by have := hs.1; have := hs.2.1; omega
  have hlen : (encB (assignV ys) (ws ++ [s])).length = (encB (assignV ys) ws).length + (ys[s.toNat]?.getD 0).toNat := by rw [encB_snoc, List.length_append, hsl]
  have hd : (encB (assignV ys) (ws ++ [s])).length ≤ 8 * ds.length := by rw [hh.1]; omega
  have hav : availD ds N ((encB (assignV ys) ws).length : Nat) = (ys[s.toNat]?.getD 0).toNat - 1 := by
    unfold availD; rw [if_pos (by omega)]; omega
  have hhit : HitAt ys ds (N + 1) (encB (assignV ys) ws).length s.toNat := by
    have e : encB (assignV ys) (ws ++ [s]) = encB (assignV ys) ws ++ symC (assignV ys) s ++ [] := by rw [encB_snoc, List.append_nil]
    refine hit_sym hl hk hs ds _ _ [] ?_ ?_ (by omega)
    · rw [← e]; exact fun j _ => hh.2 j
    · rw [← e]; exact hd
  have hmiss : DecR ys ds N ((encB (assignV ys) ws).length : Nat) ws [] 1 := by
    have h2 := DecR.miss (xs := ys) (ds := ds) (N := N) ((encB (assignV ys) ws).length : Nat) ws (by omega) (fun i => by
      unfold HitAt
      rw [hav]
      exact match_cut hl hk _ _ _ _ (avail_le _ _ _) hhit hi (by rw [getD_get _ _ hi] at hL ⊢; omega) i)
    rw [hav, if_pos (by omega)] at h2
    exact h2
  exact dec_run hl hk ds _ _ (fun j _ => hh.2 j) hd [] 1 ws [] (symC (assignV ys) s) (fun x hx => hu x (by simp [hx])) (by simp [encB_snoc]) (by simp; omega) (by simpa using hmiss)
end Go.Proofs.Ymbrcg
