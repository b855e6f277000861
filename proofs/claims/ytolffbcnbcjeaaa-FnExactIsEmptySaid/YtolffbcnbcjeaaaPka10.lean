/- The row of the law that IsEmpty answers as the reference does: whatever the arguments, it answers true, and what it is told reads as it did. -/
import Derived.Test.YtolffbcnbcjeaaaPka9
import Derived.Test.YtolffbcnbcjeaaaRows
import Derived.WalkKit
import Derived.ProofKit
import Derived.OpenShut
set_option linter.unusedVariables false
set_option linter.unusedSimpArgs false
open Nat renaming reduceAdd → ν1, reduceLeDiff → ν2, reduceLT → ν3, reduceMul → ν4, reduceSub → ν5
open Int renaming reduceToNat → ι1, reduceSub → ι2, reduceAdd → ι3, reduceNeg → ι4
open Array renaming toList → ι5
open Ne renaming symm → ν6
open List renaming forall_mem_cons → ν7
namespace Go.Proofs.Ytolffbcnbcjeaaa
open Go Go.Sep Go.Pt
attribute [local irreducible] CallT
theorem next_spec (a : Au) (fa : GoodF a) : Pu Try.prog 31 [aAu a] (Ls (nextG a)) :=
  ⟨fun H => CallT.fin (next_live a fa fun x G D hx hn => lii_val hx hn)⟩
def nN (l : List Int) : List Nat := l.map Int.toNat
theorem nN_len (l : List Int) : (nN l).length = l.length := by simp [nN]
theorem nN_lt {l : List Int} {n : Nat} (h : ∀ x ∈ l, 0 ≤ x ∧ x < n) : ∀ v ∈ nN l, v < n := by
  intro v hv
  obtain ⟨x, hx, rfl⟩ := List.mem_map.1 hv
  have := h x hx; omega
theorem nI_of {l : List Int} {n : Nat} (h : ∀ x ∈ l, 0 ≤ x ∧ x < n) : nI (nN l) = l := nI_nN fun x hx => (h x hx).1
def gA (a : Au) : List (List Nat) := (nextG a).map nN
theorem gI_of {g : List (List Int)} {n : Nat} (h : ∀ l ∈ g, ∀ x ∈ l, 0 ≤ x ∧ x < n) : gI (g.map nN) = g := by
  unfold gI
  rw [List.map_map]
  conv => rhs; rw [← List.map_id g]
  apply List.map_congr_left
  intro l hl
  exact nI_of (h l hl)
theorem gA_len (a : Au) : (gA a).length = a.states.toNat := by simp [gA, nextG_len]
theorem nextG_bd {a : Au} (fa : GoodF a) : ∀ l ∈ nextG a, (∀ x ∈ l, 0 ≤ x ∧ x < a.states.toNat) ∧ l.length ≤ 2400 := by
  intro l hl
  obtain ⟨s, _, rfl⟩ := List.mem_map.1 hl
  have hed := fa.ed
  refine ⟨fun x hx => ?_, ?_⟩
  · rw [sc_mem] at hx
    simp only [outN, List.mem_map, List.mem_filter] at hx
    obtain ⟨e, ⟨he, _⟩, rfl⟩ := hx
    have := edIn_iff.1 (fa.ei e (List.mem_of_mem_take he))
    omega
  · have := sc_len (outN a a.edges.length s)
    have := outN_len a a.edges.length s
    omega
theorem sumN_le {f : Nat → Nat} {b : Nat} (h : ∀ v, f v ≤ b) (n : Nat) : sumN f n ≤ n * b := by
  induction n with
  | zero => simp [sumN]
  | succ n ih => rw [sumN_succ, Nat.add_mul]; have := h n; omega
theorem GrB_of {g : List (List Nat)} {b : Nat} (h1 : ∀ l ∈ g, ∀ x ∈ l, x < g.length) (h2 : ∀ l ∈ g, l.length ≤ b) (hn : g.length ≤ 100000) (hb : g.length * b ≤ 500000) : GrB g := by
  refine ⟨h1, hn, ?_⟩
  rw [prT_sum]
  refine Nat.le_trans (sumN_le (b := b) (fun v => ?_) _) hb
  by_cases hv : v < g.length
  · refine h2 _ ?_
    simp [rwF, List.getD, hv]
  · rw [rwF_out (by omega)]; simp
theorem gA_B {a : Au} (fa : GoodF a) : GrB (gA a) := by
  have hst := fa.st
  have hl := gA_len a
  refine GrB_of (b := 2400) (fun l hl2 x hx => ?_) (fun l hl2 => ?_) (by omega) (by rw [hl]; exact Nat.le_trans (Nat.mul_le_mul_right 2400 (show a.states.toNat ≤ 96 by omega)) (by decide))
  · obtain ⟨r, hr, rfl⟩ := List.mem_map.1 hl2
    rw [hl]
    exact nN_lt (nextG_bd fa r hr).1 x hx
  · obtain ⟨r, hr, rfl⟩ := List.mem_map.1 hl2
    rw [nN_len]; exact (nextG_bd fa r hr).2
theorem gA_I {a : Au} (fa : GoodF a) : gI (gA a) = nextG a := gI_of fun l hl => (nextG_bd fa l hl).1
theorem rising_in {l : List Int} {n : Int} (h : rising l n = true) : ∀ x ∈ l, 0 ≤ x ∧ x < n := by
  intro x hx
  obtain ⟨i, hi, rfl⟩ := List.mem_iff_getElem.1 hx
  have := rising_at h i hi
  rw [getD_lt hi] at this
  omega
structure AutoN (a : Au) : Prop where
  f : GoodF a
  fr : ∀ x ∈ a.first, 0 ≤ x ∧ x < a.states.toNat
  go : ∀ l ∈ a.goals, ∀ x ∈ l, 0 ≤ x ∧ x < a.states.toNat
theorem autoN {a : Au} (h : goodA a = true) : AutoN a := by
  have f := good_facts h
  have hst := f.st
  rw [goodA_def] at h
  simp only [goalsOk, Bool.and_eq_true, decide_eq_true_eq, List.all_eq_true] at h
  obtain ⟨h1, h2, h3, ⟨h4, h5⟩, h6⟩ := h
  refine ⟨f, fun x hx => ?_, fun l hl x hx => ?_⟩
  · have := rising_in h2 x hx; omega
  · have := rising_in (h5 l hl) x hx; omega
def goN (gs : List (List Int)) : List (List Nat) := gs.map nN
theorem AutoN.gob {a : Au} (h : AutoN a) : GoB (goN a.goals) (gA a).length ∧ (∀ l ∈ goN a.goals, l.length ≤ 96) ∧ ((goN a.goals).length + 1) * ((gA a).length + 96 + 2) ≤ 800000 := by
  have hgl := h.f.gl
  have hst := h.f.st
  have hl := gA_len a
  have e : (goN a.goals).length = a.goals.length := by simp [goN]
  have h96 : ∀ l ∈ goN a.goals, l.length ≤ 96 := by
    intro l hl2
    obtain ⟨r, hr, rfl⟩ := List.mem_map.1 hl2
    rw [nN_len]; exact (h.f.gi r hr).2
  refine ⟨⟨fun l hl2 x hx => ?_, by omega, fun l hl2 => by have := h96 l hl2; omega⟩, h96, ?_⟩
  · obtain ⟨r, hr, rfl⟩ := List.mem_map.1 hl2
    rw [hl]; exact nN_lt (h.go r hr) x hx
  · rw [e, hl]
    exact Nat.le_trans (Nat.mul_le_mul (show a.goals.length + 1 ≤ 7 by omega) (show a.states.toNat + 96 + 2 ≤ 194 by omega)) (by decide)
noncomputable def fairA (a : Au) : Bool := laB (rwF (gA a)) (gA a).length (nN a.first) (goN a.goals)
theorem lasso_A {a : Au} (h : AutoN a) : Pu Try.prog 24 [Ls (nextG a), Is a.first, Ls a.goals] (lassoV (rwF (gA a)) (gA a).length (nN a.first) (goN a.goals)) := by
  obtain ⟨h1, h2, h3⟩ := h.gob
  have hl := gA_len a
  have hf := h.f.fi
  have := l11Lasso_spec (gA a) (gA_B h.f) (nN a.first) (by rw [hl]; exact nN_lt h.fr) (by rw [nN_len]; omega) (goN a.goals) 96 h1 h2 h3
  rwa [gA_I h.f, nI_of h.fr, goN, gI_of h.go] at this
theorem meeting_A {a : Au} (h : AutoN a) : Pu Try.prog 30 [Ls (nextG a), Is a.first, Ls a.goals] (I (meetF (rwF (gA a)) (gA a).length (nN a.first) (goN a.goals))) := by
  obtain ⟨h1, h2, h3⟩ := h.gob
  have hl := gA_len a
  have hf := h.f.fi
  have := meeting_spec (gA a) (gA_B h.f) (nN a.first) (by rw [hl]; exact nN_lt h.fr) (by rw [nN_len]; omega) (goN a.goals) h1
  rwa [gA_I h.f, nI_of h.fr, goN, gI_of h.go] at this
noncomputable def ieR (a : Au) : Bool × Bool := if goodA a then (!fairA a, true) else (false, false)
theorem IsEmpty_ref (a : Au) (sa : smAu a) : Pu Try.prog 7 [aAu a] (.tup [B (ieR a).1, B (ieR a).2]) := by
  refine Pu.of fun H => ?_
  refine W7_ok ?_; simp (maxSteps := 1000000) (disch := first | assumption | (apply ν6; assumption)) only [W7, vz, vu, vv, eqS, eF_, ↓c1_, ↓c2_, tabs, reduceCtorEq, ι5, ↓reduceIte, ν1, ν2, ν3, ν4, ν5, ι1, ι2, ι3, ι4]
  intro r hr
  have hle := Heap.le_set (b := [I a.states, Is a.first, Es a.edges, Ls a.goals]) hr
  have gr : (H.set r [I a.states, Is a.first, Es a.edges, Ls a.goals]) r = some [I a.states, Is a.first, Es a.edges, Ls a.goals] := Heap.set_same _ _ _
  generalize H.set r [I a.states, Is a.first, Es a.edges, Ls a.goals] = G at hle gr ⊢
  (try simp (maxSteps := 1000000) (disch := first | assumption | (apply ν6; assumption)) only [vz, vu, vv, eqS, eF_, ↓c1_, ↓c2_, tabs, reduceCtorEq, ι5, ↓reduceIte, ν1, ν2, ν3, ν4, ν5, ι1, ι2, ι3, ι4, load_at gr])
  refine Pu.use (GoodAuto_spec a sa) ?_
  cases ga : goodA a
  · (try simp (maxSteps := 1000000) (disch := first | assumption | (apply ν6; assumption)) only [vz, vu, vv, eqS, eF_, ↓c1_, ↓c2_, tabs, reduceCtorEq, ι5, ↓reduceIte, ν1, ν2, ν3, ν4, ν5, ι1, ι2, ι3, ι4])
    exact ⟨by simp [ieR, ga], hle⟩
  · have hN := autoN ga
    (try simp (maxSteps := 1000000) (disch := first | assumption | (apply ν6; assumption)) only [vz, vu, vv, eqS, eF_, ↓c1_, ↓c2_, tabs, reduceCtorEq, ι5, ↓reduceIte, ν1, ν2, ν3, ν4, ν5, ι1, ι2, ι3, ι4, load_at gr])
    refine Pu.use (l12Graph_spec a hN.f) ?_
    (try simp (maxSteps := 1000000) (disch := first | assumption | (apply ν6; assumption)) only [vz, vu, vv, eqS, eF_, ↓c1_, ↓c2_, tabs, reduceCtorEq, ι5, ↓reduceIte, ν1, ν2, ν3, ν4, ν5, ι1, ι2, ι3, ι4, load_at gr])
    refine Pu.use (lasso_A hN) ?_
    unfold lassoV
    (try simp (maxSteps := 1000000) (disch := first | assumption | (apply ν6; assumption)) only [vz, vu, vv, eqS, eF_, ↓c1_, ↓c2_, tabs, reduceCtorEq, ι5, ↓reduceIte, ν1, ν2, ν3, ν4, ν5, ι1, ι2, ι3, ι4])
    exact ⟨by simp [ieR, ga, fairA], hle⟩
theorem IsEmpty_impl (a : Au) (sa : smAu a) : Pu Try.prog 9 [aAu a] (.tup [B (ieR a).1, B (ieR a).2]) := by
  refine Pu.of fun H => ?_
  refine W9_ok ?_; simp (maxSteps := 1000000) (disch := first | assumption | (apply ν6; assumption)) only [W9, vz, vu, vv, eqS, eF_, ↓c1_, ↓c2_, tabs, reduceCtorEq, ι5, ↓reduceIte, ν1, ν2, ν3, ν4, ν5, ι1, ι2, ι3, ι4]
  intro r hr
  have hle := Heap.le_set (b := [I a.states, Is a.first, Es a.edges, Ls a.goals]) hr
  have gr : (H.set r [I a.states, Is a.first, Es a.edges, Ls a.goals]) r = some [I a.states, Is a.first, Es a.edges, Ls a.goals] := Heap.set_same _ _ _
  generalize H.set r [I a.states, Is a.first, Es a.edges, Ls a.goals] = G at hle gr ⊢
  (try simp (maxSteps := 1000000) (disch := first | assumption | (apply ν6; assumption)) only [vz, vu, vv, eqS, eF_, ↓c1_, ↓c2_, tabs, reduceCtorEq, ι5, ↓reduceIte, ν1, ν2, ν3, ν4, ν5, ι1, ι2, ι3, ι4, load_at gr])
  refine Pu.use (GoodAuto_impl a sa) ?_
  cases ga : goodA a
  · (try simp (maxSteps := 1000000) (disch := first | assumption | (apply ν6; assumption)) only [vz, vu, vv, eqS, eF_, ↓c1_, ↓c2_, tabs, reduceCtorEq, ι5, ↓reduceIte, ν1, ν2, ν3, ν4, ν5, ι1, ι2, ι3, ι4])
    exact ⟨by simp [ieR, ga], hle⟩
  · have hN := autoN ga
    (try simp (maxSteps := 1000000) (disch := first | assumption | (apply ν6; assumption)) only [vz, vu, vv, eqS, eF_, ↓c1_, ↓c2_, tabs, reduceCtorEq, ι5, ↓reduceIte, ν1, ν2, ν3, ν4, ν5, ι1, ι2, ι3, ι4, load_at gr])
    refine Pu.use (next_spec a hN.f) ?_
    (try simp (maxSteps := 1000000) (disch := first | assumption | (apply ν6; assumption)) only [vz, vu, vv, eqS, eF_, ↓c1_, ↓c2_, tabs, reduceCtorEq, ι5, ↓reduceIte, ν1, ν2, ν3, ν4, ν5, ι1, ι2, ι3, ι4, load_at gr])
    refine Pu.use (meeting_A hN) ?_
    (try simp (maxSteps := 1000000) (disch := first | assumption | (apply ν6; assumption)) only [vz, vu, vv, eqS, eF_, ↓c1_, ↓c2_, tabs, reduceCtorEq, ι5, ↓reduceIte, ν1, ν2, ν3, ν4, ν5, ι1, ι2, ι3, ι4])
    exact ⟨by simp [ieR, ga, fairA, laB], hle⟩
theorem FnExactIsEmpty_true {a : Au} (oa : okAu a) : Pu Try.prog 3 [aAu a] (B true) := by
  refine Pu.of fun H => ?_
  refine W3_ok ?_; simp (maxSteps := 1000000) (disch := first | assumption | (apply ν6; assumption)) only [W3, vz, vu, vv, eqS, eF_, ↓c1_, ↓c2_, tabs, reduceCtorEq, ι5, ↓reduceIte, ν1, ν2, ν3, ν4, ν5, ι1, ι2, ι3, ι4]
  intro r hr
  have st := (St.nil H).cell hr [I a.states, Is a.first, Es a.edges, Ls a.goals]
  generalize H.set r [I a.states, Is a.first, Es a.edges, Ls a.goals] = G at st ⊢
  clear hr
  (try simp (maxSteps := 1000000) (disch := first | assumption | (apply ν6; assumption)) only [vz, vu, vv, eqS, eF_, ↓c1_, ↓c2_, tabs, reduceCtorEq, ι5, ↓reduceIte, ν1, ν2, ν3, ν4, ν5, ι1, ι2, ι3, ι4, load_at (st.get 0 rfl)])
  refine Pu.use (szAuto_spec a 1048576 (by omega) (by omega) oa) ?_
  (try simp (maxSteps := 1000000) (disch := first | assumption | (apply ν6; assumption)) only [vz, vu, vv, eqS, eF_, ↓c1_, ↓c2_, tabs, reduceCtorEq, ι5, ↓reduceIte, ν1, ν2, ν3, ν4, ν5, ι1, ι2, ι3, ι4, load_at (st.get 0 rfl)])
  refine ⟨fun _ => st.le, fun h1 => ?_⟩
  have e2 : (totAu a : Int) ≤ 1048576 := by
    unfold szR at h1
    split at h1 <;> omega
  have sa := smAu_of e2
  refine Pu.use (toAuto_spec a sa) ?_
  refine Pu.use (IsEmpty_ref a sa) ?_
  have hI := IsEmpty_impl a sa
  generalize (ieR a).1 = o at hI ⊢
  generalize (ieR a).2 = ok at hI ⊢
  (try simp (maxSteps := 1000000) (disch := first | assumption | (apply ν6; assumption)) only [vz, vu, vv, eqS, eF_, ↓c1_, ↓c2_, tabs, reduceCtorEq, ι5, ↓reduceIte, ν1, ν2, ν3, ν4, ν5, ι1, ι2, ι3, ι4, load_at (st.get 0 rfl)])
  refine toAuto_live a sa fun va G1 Da la na => ?_
  replace st := st.push (auT a va Da) na la
  obtain ⟨a1, a2, a3, rfl⟩ := aAu_cells la
  clear la na
  (try simp (maxSteps := 1000000) (disch := first | assumption | (apply ν6; assumption)) only [vz, vu, vv, eqS, eF_, ↓c1_, ↓c2_, tabs, reduceCtorEq, ι5, ↓reduceIte, ν1, ν2, ν3, ν4, ν5, ι1, ι2, ι3, ι4])
  intro x hx
  replace st := st.cell hx [I a.states, .sl a1 1 0 a.first.length, .sl a2 3 0 a.edges.length, .sl a3 1 0 a.goals.length]
  (try simp (maxSteps := 1000000) (disch := first | assumption | (apply ν6; assumption)) only [vz, vu, vv, eqS, eF_, ↓c1_, ↓c2_, tabs, reduceCtorEq, ι5, ↓reduceIte, ν1, ν2, ν3, ν4, ν5, ι1, ι2, ι3, ι4, load_at (st.get 0 rfl)])
  generalize G1.set x [I a.states, .sl a1 1 0 a.first.length, .sl a2 3 0 a.edges.length, .sl a3 1 0 a.goals.length] = G2 at st ⊢
  obtain ⟨Gw, hwk, _⟩ := LAu.wk (st.get 1 rfl) (st.ndT 1 rfl) (fun v => .tup [v]) (fun h => .tup (.cons h .nil))
  refine Pu.thaw hI (.tup2 (.bool _) (.bool _)) hwk ?_
  clear hwk
  (try simp (maxSteps := 1000000) (disch := first | assumption | (apply ν6; assumption)) only [vz, vu, vv, eqS, eF_, ↓c1_, ↓c2_, tabs, reduceCtorEq, ι5, ↓reduceIte, ν1, ν2, ν3, ν4, ν5, ι1, ι2, ι3, ι4, load_at (st.get 0 rfl), load_at (st.get 2 rfl)])
  refine Pu.use (toAuto_spec a sa) ?_
  (try simp (maxSteps := 1000000) (disch := first | assumption | (apply ν6; assumption)) only [vz, vu, vv, eqS, eF_, ↓c1_, ↓c2_, tabs, reduceCtorEq, ι5, ↓reduceIte, ν1, ν2, ν3, ν4, ν5, ι1, ι2, ι3, ι4, load_at (st.get 0 rfl)])
  refine LAu.eq (st.get 1 rfl) (st.ndT 1 rfl) sa ?_
  (try simp (maxSteps := 1000000) (disch := first | assumption | (apply ν6; assumption)) only [vz, vu, vv, eqS, eF_, ↓c1_, ↓c2_, tabs, reduceCtorEq, ι5, ↓reduceIte, ν1, ν2, ν3, ν4, ν5, ι1, ι2, ι3, ι4])
  exact st.le
end Go.Proofs.Ytolffbcnbcjeaaa
namespace Go.Proofs.Ytolffbcnbcjeaaa.isEmpty
open Go Go.Sep Go.ChangeShapes Go.WideShapes Go.ChangeAt Go.RowKit
theorem own : ownKnob Try.prog.godebug = none := by kernel_rfl
theorem told (avs : List AV) (h : ArgsT Try.prog [26] avs) : CallT Try.prog 3 avs (fun _ => none) (fun v _ => v = .p (.bool true)) := by
  obtain ⟨a, b, rfl, h1, h⟩ := args_cons h
  cases args_nil h
  obtain ⟨x1, hx1, rfl⟩ := arg_auto h1
  exact (FnExactIsEmpty_true hx1).use rfl
set_option maxRecDepth 100000 in
theorem lifted (os : Os) (started : os.Started) (H : Type) (enc : TypeId × Value → H) :
    ReturnsInHanded {} Try.checked os 3 .any (Rows.fnExactIsEmptySpec.pre6 enc Try.prog Try.f3 Rows.fnExactIsEmptyRow.domain false) (Rows.fnExactIsEmptySpec.post enc Try.prog Try.f3 false true false false) := by
  refine returnsInHanded_of_change (C := Try.checked) own started (by kernel_rfl) Try.func3
    (ChangeSpec.witness6 (enc := enc) (C := Try.checked) false ⟨#[], #[.agg #[.int .i64 0, .slice none 0 0, .slice none 0 0, .slice none 0 0]], []⟩ 12 (by kernel_rfl) (by kernel_rfl) (by kernel_rfl) (by kernel_rfl)) ?_
  intro W base args ds gs before hval hW _ _
  refine row_of_true (n := 12) (tb := 4) (by kernel_rfl) rfl (by kernel_rfl) (by kernel_rfl) ?_ ?_ ?_ hval hW
  · have : (Try.f3.params.toList.all fun t => Try.prog.readableRec t && decide (t < Try.prog.types.size) && plainB Try.prog 12 t) = true := by kernel_rfl
    intro t ht
    have := List.all_eq_true.1 this t ht
    rw [Bool.and_eq_true, Bool.and_eq_true, decide_eq_true_eq] at this
    exact ⟨this.1.1, this.1.2, this.2⟩
  · intro ds hd
    rw [Try.params3] at hd
    match ds, hd with
    | [a], _ => rfl
  · rw [Try.params3]
    exact told
theorem over : Rows.fnExactIsEmptyRow.holds Try.pinned (OpenSpec.ofChange Rows.fnExactIsEmptySpec) :=
  OpenClaim.holds_of_wide 3 Try.f3 rfl rfl rfl rfl rfl rfl rfl ⟨rfl, rfl, rfl, rfl, rfl⟩ rfl rfl rfl rfl rfl (by kernel_rfl) Try.func3 (by kernel_rfl)
    (of_decide_eq_true (by kernel_rfl)) (by unfold Func.isWrapper; first | (rw [if_pos (by decide +kernel)]; kernel_rfl) | (rw [if_neg (by decide +kernel)]; exact ⟨rfl, rfl⟩))
    (fun os started H enc _ => lifted os started H enc)
theorem proved : Rows.FnExactIsEmptySaid :=
  over
#print axioms proved
end Go.Proofs.Ytolffbcnbcjeaaa.isEmpty
