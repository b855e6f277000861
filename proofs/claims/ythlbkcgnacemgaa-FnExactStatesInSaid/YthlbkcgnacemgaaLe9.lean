/- The laws on the number of classes and the class of a state. -/
import Derived.Test.YthlbkcgnacemgaaLe8
namespace Go.Proofs.Ythlbkcgnacemgaa
open Go Go.Sep Go.Pt
set_option linter.unusedSimpArgs false
set_option linter.unusedVariables false
attribute [local irreducible] CallT

theorem runS_step {of : List Int} {c : Int} (h : runS 0 of = some c) {i : Nat} {k : Int} (hi : i < of.length) (hk : runS 0 (of.take i) = some k) :
    (0 ≤ of.getD i default ∧ of.getD i default ≤ k) ∧ ∃ k', (of.getD i default = k → k' = k + 1) ∧ (of.getD i default ≠ k → k' = k) ∧ runS 0 (of.take (i + 1)) = some k' := by
  have hb : ¬ (of.getD i default < 0 ∨ k < of.getD i default) := fun hb => by rw [runS_none hi hk hb] at h; cases h
  refine ⟨by omega, if of.getD i default = k then k + 1 else k, fun h => if_pos h, fun h => if_neg h, ?_⟩
  rw [take_succ_snoc hi, runS_snoc, hk]; simp only [Option.bind_some, if_neg hb]

theorem Max_spec (of : List Int) (c : Int) (h : runS 0 of = some c) (hl : of.length ≤ 1048576) (h1 : 1 ≤ of.length) : Pu Try.prog 55 [Is of] (I (c - 1)) := by
  refine Pu.of fun H => ?_
  have s0 := runS_step h (i := 0) (k := 0) (by omega) (by simp [runS])
  have hx0 : of.getD 0 default = 0 := by omega
  obtain ⟨_, k0, hk0, _, hr0⟩ := s0
  rw [hk0 hx0] at hr0
  refine W55_ok ?_; simp (maxSteps := 1000000) (disch := (first | assumption | (apply Ne.symm; assumption))) only [W55, vw0, vw1, vw2, vw3, vw4, vu0, vu1, ↓condV_t, ↓condV_f, allocV, splice, partV, buildV, eqFieldsV, eqS, tabs, TK.agg, reduceCtorEq, Array.toList, List.map_cons, List.map_nil, ↓reduceIte, List.length_map, Nat.reduceAdd, Nat.reduceLeDiff, Nat.reduceLT, Nat.reduceMul, Nat.reduceSub, Option.bind_some, Option.map_some, bndV, numV, eI, eU, e8, eB, AV.isCell, Int.reduceToNat, Int.reduceSub, Int.reduceAdd, Int.reduceNeg]
  refine ⟨fun h2 => by omega, fun h2 => ⟨by omega, by omega, ?_⟩⟩
  refine L55_0_rule ((1 : Nat), (1 : Int)) (fun s => I (s.2 - 1)) (fun s => I s.1) (fun _ => H) (fun s => 1 ≤ s.1 ∧ s.1 ≤ of.length ∧ runS 0 (of.take s.1) = some s.2) (fun s => of.length - s.1) ⟨⟨by simp, by simp only; omega, hr0⟩, ?_, .refl _, Heap.le_refl _⟩ ?_
  · rw [wk_int, hx0]; rfl
  rintro ⟨i, k⟩ ⟨hi1, hi, hk⟩
  dsimp only at hi1 hi hk
  (try simp (maxSteps := 1000000) (disch := (first | assumption | (apply Ne.symm; assumption))) only [vw0, vw1, vw2, vw3, vw4, vu0, vu1, ↓condV_t, ↓condV_f, allocV, splice, partV, buildV, eqFieldsV, eqS, tabs, TK.agg, reduceCtorEq, Array.toList, List.map_cons, List.map_nil, ↓reduceIte, List.length_map, Nat.reduceAdd, Nat.reduceLeDiff, Nat.reduceLT, Nat.reduceMul, Nat.reduceSub, Option.bind_some, Option.map_some, bndV, numV, eI, eU, e8, eB, AV.isCell, Int.reduceToNat, Int.reduceSub, Int.reduceAdd, Int.reduceNeg, B55_0])
  refine ⟨fun h3 => ⟨by omega, h3, ?_⟩, fun h3 => ?_⟩
  · obtain ⟨hs, k', e1, e2, hs2⟩ := runS_step h (i := i) (by omega) hk
    refine ⟨(i + 1, k'), ⟨by simp only; omega, by simp only; omega, hs2⟩, by simp only; omega, ?_, ?_⟩
    · rw [wk_int]
      simp only
      by_cases hx : of.getD i default = k
      · rw [e1 hx]; split <;> omega
      · rw [e2 hx]; split <;> omega
    · rw [wk_int, i64_id (by omega) (by omega)]; simp
  · have : i = of.length := by omega
    subst this
    rw [List.take_length, h] at hk
    cases hk; rfl

theorem classes_spec (of : List Int) (c : Int) (h : runS 0 of = some c) (hl : of.length ≤ 1048576) (h1 : 1 ≤ of.length) : Pu Try.prog 42 [aS of] (I c) := by
  refine Pu.of fun H => ?_
  have hr := runS_rng _ _ _ (Int.le_refl 0) h
  have e : IntKind.i64.wrap (c - 1 + 1) = c := by rw [i64_id (by omega) (by omega)]; omega
  refine W42_ok ?_; simp (maxSteps := 1000000) (disch := (first | assumption | (apply Ne.symm; assumption))) only [W42, vw0, vw1, vw2, vw3, vw4, vu0, vu1, ↓condV_t, ↓condV_f, allocV, splice, partV, buildV, eqFieldsV, eqS, tabs, TK.agg, reduceCtorEq, Array.toList, List.map_cons, List.map_nil, ↓reduceIte, List.length_map, Nat.reduceAdd, Nat.reduceLeDiff, Nat.reduceLT, Nat.reduceMul, Nat.reduceSub, Option.bind_some, Option.map_some, bndV, numV, eI, eU, e8, eB, AV.isCell, Int.reduceToNat, Int.reduceSub, Int.reduceAdd, Int.reduceNeg]
  intro r hr
  refine Pu.use (Max_spec of c h hl h1) ?_
  (try simp (maxSteps := 1000000) (disch := (first | assumption | (apply Ne.symm; assumption))) only [vw0, vw1, vw2, vw3, vw4, vu0, vu1, ↓condV_t, ↓condV_f, allocV, splice, partV, buildV, eqFieldsV, eqS, tabs, TK.agg, reduceCtorEq, Array.toList, List.map_cons, List.map_nil, ↓reduceIte, List.length_map, Nat.reduceAdd, Nat.reduceLeDiff, Nat.reduceLT, Nat.reduceMul, Nat.reduceSub, Option.bind_some, Option.map_some, bndV, numV, eI, eU, e8, eB, AV.isCell, Int.reduceToNat, Int.reduceSub, Int.reduceAdd, Int.reduceNeg, e])
  exact Heap.le_set hr

theorem l15Many_spec (of : List Int) (c : Int) (h : runS 0 of = some c) (hl : of.length ≤ 1048576) : Pu Try.prog 41 [aS of] (I c) := by
  refine Pu.of fun H => ?_
  refine W41_ok ?_; simp (maxSteps := 1000000) (disch := (first | assumption | (apply Ne.symm; assumption))) only [W41, vw0, vw1, vw2, vw3, vw4, vu0, vu1, ↓condV_t, ↓condV_f, allocV, splice, partV, buildV, eqFieldsV, eqS, tabs, TK.agg, reduceCtorEq, Array.toList, List.map_cons, List.map_nil, ↓reduceIte, List.length_map, Nat.reduceAdd, Nat.reduceLeDiff, Nat.reduceLT, Nat.reduceMul, Nat.reduceSub, Option.bind_some, Option.map_some, bndV, numV, eI, eU, e8, eB, AV.isCell, Int.reduceToNat, Int.reduceSub, Int.reduceAdd, Int.reduceNeg]
  intro r hr
  refine L41_0_rule ((0 : Nat), (0 : Int)) (fun s => I s.2) (fun s => I s.1) (fun _ => H.set r [Is of]) (fun s => s.1 ≤ of.length ∧ runS 0 (of.take s.1) = some s.2) (fun s => of.length - s.1) ⟨⟨by simp, by simp [runS]⟩, .refl _, .refl _, Heap.le_refl _⟩ ?_
  rintro ⟨i, k⟩ ⟨hi, hk⟩
  dsimp only at hi hk
  have hkr := runS_rng _ _ _ (Int.le_refl 0) hk
  have hkl : (of.take i).length ≤ 1048576 := by rw [List.length_take]; omega
  (try simp (maxSteps := 1000000) (disch := (first | assumption | (apply Ne.symm; assumption))) only [vw0, vw1, vw2, vw3, vw4, vu0, vu1, ↓condV_t, ↓condV_f, allocV, splice, partV, buildV, eqFieldsV, eqS, tabs, TK.agg, reduceCtorEq, Array.toList, List.map_cons, List.map_nil, ↓reduceIte, List.length_map, Nat.reduceAdd, Nat.reduceLeDiff, Nat.reduceLT, Nat.reduceMul, Nat.reduceSub, Option.bind_some, Option.map_some, bndV, numV, eI, eU, e8, eB, AV.isCell, Int.reduceToNat, Int.reduceSub, Int.reduceAdd, Int.reduceNeg, B41_0])
  refine ⟨fun h3 => ⟨by omega, h3, ?_⟩, fun h3 => ?_⟩
  · obtain ⟨hs, k', e1, e2, hs2⟩ := runS_step h (i := i) (by omega) hk
    refine ⟨fun h4 => ⟨(i + 1, k'), ⟨by simp only; omega, hs2⟩, by simp only; omega, ?_, ?_⟩, fun h4 => ⟨(i + 1, k'), ⟨by simp only; omega, hs2⟩, by simp only; omega, ?_, ?_⟩⟩
    · rw [wk_int, i64_id (by omega) (by omega)]; simp only; rw [e1 (by omega)]; omega
    · rw [wk_int, i64_id (by omega) (by omega)]; simp
    · rw [wk_int]; simp only; rw [e2 (by omega)]
    · rw [wk_int, i64_id (by omega) (by omega)]; simp
  · have : i = of.length := by omega
    subst this
    rw [List.take_length, h] at hk
    cases hk
    exact ⟨rfl, Heap.le_set hr⟩

theorem good_run {p : Pg} {of : List Int} (h : goodSt p of = true) : smallP p = true ∧ (of.length : Int) = statesP p ∧ ∃ c, runS 0 of = some c := by
  simp only [goodSt, Bool.and_eq_true, decide_eq_true_eq, Option.isSome_iff_exists] at h
  exact ⟨h.1, h.2.1, h.2.2⟩
def nClasses (p : Pg) (of : List Int) : Int := if goodSt p of then (runS 0 of).getD 0 else 0

theorem ClassesIn_impl (p : Pg) (of : List Int) (hp : vPg p) (hl : of.length ≤ 1048576) : Pu Try.prog 18 [aPg p, aS of] (.tup [I (nClasses p of), B (goodSt p of)]) := by
  refine Pu.of fun H => ?_
  refine W18_ok ?_; simp (maxSteps := 1000000) (disch := (first | assumption | (apply Ne.symm; assumption))) only [W18, vw0, vw1, vw2, vw3, vw4, vu0, vu1, ↓condV_t, ↓condV_f, allocV, splice, partV, buildV, eqFieldsV, eqS, tabs, TK.agg, reduceCtorEq, Array.toList, List.map_cons, List.map_nil, ↓reduceIte, List.length_map, Nat.reduceAdd, Nat.reduceLeDiff, Nat.reduceLT, Nat.reduceMul, Nat.reduceSub, Option.bind_some, Option.map_some, bndV, numV, eI, eU, e8, eB, AV.isCell, Int.reduceToNat, Int.reduceSub, Int.reduceAdd, Int.reduceNeg]
  intro r hr r3 n3 hr3
  have nn3 : r ≠ r3 := Ne.symm n3
  have hle := Heap.le_setN (b := [Is of]) (Heap.le_set (b := [I p.wide, I p.vars, Ns p.start, Cms p.cmds]) hr) hr3
  (try simp (maxSteps := 1000000) (disch := (first | assumption | (apply Ne.symm; assumption))) only [vw0, vw1, vw2, vw3, vw4, vu0, vu1, ↓condV_t, ↓condV_f, allocV, splice, partV, buildV, eqFieldsV, eqS, tabs, TK.agg, reduceCtorEq, Array.toList, List.map_cons, List.map_nil, ↓reduceIte, List.length_map, Nat.reduceAdd, Nat.reduceLeDiff, Nat.reduceLT, Nat.reduceMul, Nat.reduceSub, Option.bind_some, Option.map_some, bndV, numV, eI, eU, e8, eB, AV.isCell, Int.reduceToNat, Int.reduceSub, Int.reduceAdd, Int.reduceNeg])
  refine Pu.use (GoodSight_impl p of hp hl) ?_
  cases h : goodSt p of
  · (try simp (maxSteps := 1000000) (disch := (first | assumption | (apply Ne.symm; assumption))) only [vw0, vw1, vw2, vw3, vw4, vu0, vu1, ↓condV_t, ↓condV_f, allocV, splice, partV, buildV, eqFieldsV, eqS, tabs, TK.agg, reduceCtorEq, Array.toList, List.map_cons, List.map_nil, ↓reduceIte, List.length_map, Nat.reduceAdd, Nat.reduceLeDiff, Nat.reduceLT, Nat.reduceMul, Nat.reduceSub, Option.bind_some, Option.map_some, bndV, numV, eI, eU, e8, eB, AV.isCell, Int.reduceToNat, Int.reduceSub, Int.reduceAdd, Int.reduceNeg])
    exact ⟨by simp only [nClasses, h, Bool.false_eq_true, if_false], hle⟩
  · obtain ⟨hs, hlen, c, hc⟩ := good_run h
    have := states_rng hs
    (try simp (maxSteps := 1000000) (disch := (first | assumption | (apply Ne.symm; assumption))) only [vw0, vw1, vw2, vw3, vw4, vu0, vu1, ↓condV_t, ↓condV_f, allocV, splice, partV, buildV, eqFieldsV, eqS, tabs, TK.agg, reduceCtorEq, Array.toList, List.map_cons, List.map_nil, ↓reduceIte, List.length_map, Nat.reduceAdd, Nat.reduceLeDiff, Nat.reduceLT, Nat.reduceMul, Nat.reduceSub, Option.bind_some, Option.map_some, bndV, numV, eI, eU, e8, eB, AV.isCell, Int.reduceToNat, Int.reduceSub, Int.reduceAdd, Int.reduceNeg])
    refine Pu.use (classes_spec of c hc hl (by omega)) ?_
    (try simp (maxSteps := 1000000) (disch := (first | assumption | (apply Ne.symm; assumption))) only [vw0, vw1, vw2, vw3, vw4, vu0, vu1, ↓condV_t, ↓condV_f, allocV, splice, partV, buildV, eqFieldsV, eqS, tabs, TK.agg, reduceCtorEq, Array.toList, List.map_cons, List.map_nil, ↓reduceIte, List.length_map, Nat.reduceAdd, Nat.reduceLeDiff, Nat.reduceLT, Nat.reduceMul, Nat.reduceSub, Option.bind_some, Option.map_some, bndV, numV, eI, eU, e8, eB, AV.isCell, Int.reduceToNat, Int.reduceSub, Int.reduceAdd, Int.reduceNeg])
    exact ⟨by simp only [nClasses, h, if_true, hc, Option.getD_some], hle⟩
theorem ClassesIn_spec (p : Pg) (of : List Int) (hp : vPg p) (hl : of.length ≤ 1048576) : Pu Try.prog 17 [aPg p, aS of] (.tup [I (nClasses p of), B (goodSt p of)]) := by
  refine Pu.of fun H => ?_
  refine W17_ok ?_; simp (maxSteps := 1000000) (disch := (first | assumption | (apply Ne.symm; assumption))) only [W17, vw0, vw1, vw2, vw3, vw4, vu0, vu1, ↓condV_t, ↓condV_f, allocV, splice, partV, buildV, eqFieldsV, eqS, tabs, TK.agg, reduceCtorEq, Array.toList, List.map_cons, List.map_nil, ↓reduceIte, List.length_map, Nat.reduceAdd, Nat.reduceLeDiff, Nat.reduceLT, Nat.reduceMul, Nat.reduceSub, Option.bind_some, Option.map_some, bndV, numV, eI, eU, e8, eB, AV.isCell, Int.reduceToNat, Int.reduceSub, Int.reduceAdd, Int.reduceNeg]
  intro r hr r3 n3 hr3
  have nn3 : r ≠ r3 := Ne.symm n3
  have hle := Heap.le_setN (b := [Is of]) (Heap.le_set (b := [I p.wide, I p.vars, Ns p.start, Cms p.cmds]) hr) hr3
  (try simp (maxSteps := 1000000) (disch := (first | assumption | (apply Ne.symm; assumption))) only [vw0, vw1, vw2, vw3, vw4, vu0, vu1, ↓condV_t, ↓condV_f, allocV, splice, partV, buildV, eqFieldsV, eqS, tabs, TK.agg, reduceCtorEq, Array.toList, List.map_cons, List.map_nil, ↓reduceIte, List.length_map, Nat.reduceAdd, Nat.reduceLeDiff, Nat.reduceLT, Nat.reduceMul, Nat.reduceSub, Option.bind_some, Option.map_some, bndV, numV, eI, eU, e8, eB, AV.isCell, Int.reduceToNat, Int.reduceSub, Int.reduceAdd, Int.reduceNeg])
  refine Pu.use (GoodSight_spec p of hp hl) ?_
  cases h : goodSt p of
  · (try simp (maxSteps := 1000000) (disch := (first | assumption | (apply Ne.symm; assumption))) only [vw0, vw1, vw2, vw3, vw4, vu0, vu1, ↓condV_t, ↓condV_f, allocV, splice, partV, buildV, eqFieldsV, eqS, tabs, TK.agg, reduceCtorEq, Array.toList, List.map_cons, List.map_nil, ↓reduceIte, List.length_map, Nat.reduceAdd, Nat.reduceLeDiff, Nat.reduceLT, Nat.reduceMul, Nat.reduceSub, Option.bind_some, Option.map_some, bndV, numV, eI, eU, e8, eB, AV.isCell, Int.reduceToNat, Int.reduceSub, Int.reduceAdd, Int.reduceNeg])
    exact ⟨by simp only [nClasses, h, Bool.false_eq_true, if_false], hle⟩
  · obtain ⟨hs, hlen, c, hc⟩ := good_run h
    (try simp (maxSteps := 1000000) (disch := (first | assumption | (apply Ne.symm; assumption))) only [vw0, vw1, vw2, vw3, vw4, vu0, vu1, ↓condV_t, ↓condV_f, allocV, splice, partV, buildV, eqFieldsV, eqS, tabs, TK.agg, reduceCtorEq, Array.toList, List.map_cons, List.map_nil, ↓reduceIte, List.length_map, Nat.reduceAdd, Nat.reduceLeDiff, Nat.reduceLT, Nat.reduceMul, Nat.reduceSub, Option.bind_some, Option.map_some, bndV, numV, eI, eU, e8, eB, AV.isCell, Int.reduceToNat, Int.reduceSub, Int.reduceAdd, Int.reduceNeg])
    refine Pu.use (l15Many_spec of c hc hl) ?_
    (try simp (maxSteps := 1000000) (disch := (first | assumption | (apply Ne.symm; assumption))) only [vw0, vw1, vw2, vw3, vw4, vu0, vu1, ↓condV_t, ↓condV_f, allocV, splice, partV, buildV, eqFieldsV, eqS, tabs, TK.agg, reduceCtorEq, Array.toList, List.map_cons, List.map_nil, ↓reduceIte, List.length_map, Nat.reduceAdd, Nat.reduceLeDiff, Nat.reduceLT, Nat.reduceMul, Nat.reduceSub, Option.bind_some, Option.map_some, bndV, numV, eI, eU, e8, eB, AV.isCell, Int.reduceToNat, Int.reduceSub, Int.reduceAdd, Int.reduceNeg])
    exact ⟨by simp only [nClasses, h, if_true, hc, Option.getD_some], hle⟩

def okNo (p : Pg) (of : List Int) (no : Int) : Bool := goodSt p of && (decide (0 ≤ no) && decide (no < statesP p))
def classAt (p : Pg) (of : List Int) (no : Int) : Int := if okNo p of no then of.getD no.toNat default else 0

theorem isNo_spec (p : Pg) (no : Int) (hp : vPg p) : Pu Try.prog 40 [aPg p, I no] (B (smallP p && (decide (0 ≤ no) && decide (no < statesP p)))) := by
  refine Pu.of fun H => ?_
  refine W40_ok ?_; simp (maxSteps := 1000000) (disch := (first | assumption | (apply Ne.symm; assumption))) only [W40, vw0, vw1, vw2, vw3, vw4, vu0, vu1, ↓condV_t, ↓condV_f, allocV, splice, partV, buildV, eqFieldsV, eqS, tabs, TK.agg, reduceCtorEq, Array.toList, List.map_cons, List.map_nil, ↓reduceIte, List.length_map, Nat.reduceAdd, Nat.reduceLeDiff, Nat.reduceLT, Nat.reduceMul, Nat.reduceSub, Option.bind_some, Option.map_some, bndV, numV, eI, eU, e8, eB, AV.isCell, Int.reduceToNat, Int.reduceSub, Int.reduceAdd, Int.reduceNeg]
  intro r hr
  refine Pu.use (isSmall_spec p hp) ?_
  cases h : smallP p
  · (try simp (maxSteps := 1000000) (disch := (first | assumption | (apply Ne.symm; assumption))) only [vw0, vw1, vw2, vw3, vw4, vu0, vu1, ↓condV_t, ↓condV_f, allocV, splice, partV, buildV, eqFieldsV, eqS, tabs, TK.agg, reduceCtorEq, Array.toList, List.map_cons, List.map_nil, ↓reduceIte, List.length_map, Nat.reduceAdd, Nat.reduceLeDiff, Nat.reduceLT, Nat.reduceMul, Nat.reduceSub, Option.bind_some, Option.map_some, bndV, numV, eI, eU, e8, eB, AV.isCell, Int.reduceToNat, Int.reduceSub, Int.reduceAdd, Int.reduceNeg])
    exact Heap.le_set hr
  · (try simp (maxSteps := 1000000) (disch := (first | assumption | (apply Ne.symm; assumption))) only [vw0, vw1, vw2, vw3, vw4, vu0, vu1, ↓condV_t, ↓condV_f, allocV, splice, partV, buildV, eqFieldsV, eqS, tabs, TK.agg, reduceCtorEq, Array.toList, List.map_cons, List.map_nil, ↓reduceIte, List.length_map, Nat.reduceAdd, Nat.reduceLeDiff, Nat.reduceLT, Nat.reduceMul, Nat.reduceSub, Option.bind_some, Option.map_some, bndV, numV, eI, eU, e8, eB, AV.isCell, Int.reduceToNat, Int.reduceSub, Int.reduceAdd, Int.reduceNeg])
    refine ⟨fun h1 => ?_, fun h1 => ⟨?_, Heap.le_set hr⟩⟩
    · refine Pu.use (states_spec p h) ?_
      (try simp (maxSteps := 1000000) (disch := (first | assumption | (apply Ne.symm; assumption))) only [vw0, vw1, vw2, vw3, vw4, vu0, vu1, ↓condV_t, ↓condV_f, allocV, splice, partV, buildV, eqFieldsV, eqS, tabs, TK.agg, reduceCtorEq, Array.toList, List.map_cons, List.map_nil, ↓reduceIte, List.length_map, Nat.reduceAdd, Nat.reduceLeDiff, Nat.reduceLT, Nat.reduceMul, Nat.reduceSub, Option.bind_some, Option.map_some, bndV, numV, eI, eU, e8, eB, AV.isCell, Int.reduceToNat, Int.reduceSub, Int.reduceAdd, Int.reduceNeg])
      exact ⟨by simp [h1], Heap.le_set hr⟩
    · simp [h1]

theorem ClassOf_impl (p : Pg) (of : List Int) (no : Int) (hp : vPg p) (hl : of.length ≤ 1048576) : Pu Try.prog 16 [aPg p, aS of, I no] (.tup [I (classAt p of no), B (okNo p of no)]) := by
  refine Pu.of fun H => ?_
  refine W16_ok ?_; simp (maxSteps := 1000000) (disch := (first | assumption | (apply Ne.symm; assumption))) only [W16, vw0, vw1, vw2, vw3, vw4, vu0, vu1, ↓condV_t, ↓condV_f, allocV, splice, partV, buildV, eqFieldsV, eqS, tabs, TK.agg, reduceCtorEq, Array.toList, List.map_cons, List.map_nil, ↓reduceIte, List.length_map, Nat.reduceAdd, Nat.reduceLeDiff, Nat.reduceLT, Nat.reduceMul, Nat.reduceSub, Option.bind_some, Option.map_some, bndV, numV, eI, eU, e8, eB, AV.isCell, Int.reduceToNat, Int.reduceSub, Int.reduceAdd, Int.reduceNeg]
  intro r hr r3 n3 hr3
  have nn3 : r ≠ r3 := Ne.symm n3
  have hle := Heap.le_setN (b := [Is of]) (Heap.le_set (b := [I p.wide, I p.vars, Ns p.start, Cms p.cmds]) hr) hr3
  (try simp (maxSteps := 1000000) (disch := (first | assumption | (apply Ne.symm; assumption))) only [vw0, vw1, vw2, vw3, vw4, vu0, vu1, ↓condV_t, ↓condV_f, allocV, splice, partV, buildV, eqFieldsV, eqS, tabs, TK.agg, reduceCtorEq, Array.toList, List.map_cons, List.map_nil, ↓reduceIte, List.length_map, Nat.reduceAdd, Nat.reduceLeDiff, Nat.reduceLT, Nat.reduceMul, Nat.reduceSub, Option.bind_some, Option.map_some, bndV, numV, eI, eU, e8, eB, AV.isCell, Int.reduceToNat, Int.reduceSub, Int.reduceAdd, Int.reduceNeg])
  refine Pu.use (GoodSight_impl p of hp hl) ?_
  cases h : goodSt p of
  · have hk : okNo p of no = false := by simp only [okNo, h, Bool.false_and]
    (try simp (maxSteps := 1000000) (disch := (first | assumption | (apply Ne.symm; assumption))) only [vw0, vw1, vw2, vw3, vw4, vu0, vu1, ↓condV_t, ↓condV_f, allocV, splice, partV, buildV, eqFieldsV, eqS, tabs, TK.agg, reduceCtorEq, Array.toList, List.map_cons, List.map_nil, ↓reduceIte, List.length_map, Nat.reduceAdd, Nat.reduceLeDiff, Nat.reduceLT, Nat.reduceMul, Nat.reduceSub, Option.bind_some, Option.map_some, bndV, numV, eI, eU, e8, eB, AV.isCell, Int.reduceToNat, Int.reduceSub, Int.reduceAdd, Int.reduceNeg])
    exact ⟨by simp only [classAt, hk, Bool.false_eq_true, if_false], hle⟩
  · obtain ⟨hs, hlen, c, hc⟩ := good_run h
    (try simp (maxSteps := 1000000) (disch := (first | assumption | (apply Ne.symm; assumption))) only [vw0, vw1, vw2, vw3, vw4, vu0, vu1, ↓condV_t, ↓condV_f, allocV, splice, partV, buildV, eqFieldsV, eqS, tabs, TK.agg, reduceCtorEq, Array.toList, List.map_cons, List.map_nil, ↓reduceIte, List.length_map, Nat.reduceAdd, Nat.reduceLeDiff, Nat.reduceLT, Nat.reduceMul, Nat.reduceSub, Option.bind_some, Option.map_some, bndV, numV, eI, eU, e8, eB, AV.isCell, Int.reduceToNat, Int.reduceSub, Int.reduceAdd, Int.reduceNeg])
    refine Pu.use (isNo_spec p no hp) ?_
    rw [hs, Bool.true_and]
    cases hn : (decide (0 ≤ no) && decide (no < statesP p))
    · have hk : okNo p of no = false := by simp only [okNo, hn, Bool.and_false]
      (try simp (maxSteps := 1000000) (disch := (first | assumption | (apply Ne.symm; assumption))) only [vw0, vw1, vw2, vw3, vw4, vu0, vu1, ↓condV_t, ↓condV_f, allocV, splice, partV, buildV, eqFieldsV, eqS, tabs, TK.agg, reduceCtorEq, Array.toList, List.map_cons, List.map_nil, ↓reduceIte, List.length_map, Nat.reduceAdd, Nat.reduceLeDiff, Nat.reduceLT, Nat.reduceMul, Nat.reduceSub, Option.bind_some, Option.map_some, bndV, numV, eI, eU, e8, eB, AV.isCell, Int.reduceToNat, Int.reduceSub, Int.reduceAdd, Int.reduceNeg])
      exact ⟨by simp only [classAt, hk, Bool.false_eq_true, if_false], hle⟩
    · have hk : okNo p of no = true := by simp only [okNo, h, hn, Bool.and_self]
      simp only [Bool.and_eq_true, decide_eq_true_eq] at hn
      (try simp (maxSteps := 1000000) (disch := (first | assumption | (apply Ne.symm; assumption))) only [vw0, vw1, vw2, vw3, vw4, vu0, vu1, ↓condV_t, ↓condV_f, allocV, splice, partV, buildV, eqFieldsV, eqS, tabs, TK.agg, reduceCtorEq, Array.toList, List.map_cons, List.map_nil, ↓reduceIte, List.length_map, Nat.reduceAdd, Nat.reduceLeDiff, Nat.reduceLT, Nat.reduceMul, Nat.reduceSub, Option.bind_some, Option.map_some, bndV, numV, eI, eU, e8, eB, AV.isCell, Int.reduceToNat, Int.reduceSub, Int.reduceAdd, Int.reduceNeg])
      refine ⟨by omega, by omega, ?_, hle⟩
      simp only [classAt, hk, if_true]

theorem ClassOf_spec (p : Pg) (of : List Int) (no : Int) (hp : vPg p) (hl : of.length ≤ 1048576) : Pu Try.prog 15 [aPg p, aS of, I no] (.tup [I (classAt p of no), B (okNo p of no)]) := by
  refine Pu.of fun H => ?_
  have e : IntKind.i64.wrap ((of.length : Int) - 1) = of.length - 1 := i64_id (by omega) (by omega)
  refine W15_ok ?_; simp (maxSteps := 1000000) (disch := (first | assumption | (apply Ne.symm; assumption))) only [W15, vw0, vw1, vw2, vw3, vw4, vu0, vu1, ↓condV_t, ↓condV_f, allocV, splice, partV, buildV, eqFieldsV, eqS, tabs, TK.agg, reduceCtorEq, Array.toList, List.map_cons, List.map_nil, ↓reduceIte, List.length_map, Nat.reduceAdd, Nat.reduceLeDiff, Nat.reduceLT, Nat.reduceMul, Nat.reduceSub, Option.bind_some, Option.map_some, bndV, numV, eI, eU, e8, eB, AV.isCell, Int.reduceToNat, Int.reduceSub, Int.reduceAdd, Int.reduceNeg]
  intro r hr r3 n3 hr3
  have nn3 : r ≠ r3 := Ne.symm n3
  have hle := Heap.le_setN (b := [Is of]) (Heap.le_set (b := [I p.wide, I p.vars, Ns p.start, Cms p.cmds]) hr) hr3
  (try simp (maxSteps := 1000000) (disch := (first | assumption | (apply Ne.symm; assumption))) only [vw0, vw1, vw2, vw3, vw4, vu0, vu1, ↓condV_t, ↓condV_f, allocV, splice, partV, buildV, eqFieldsV, eqS, tabs, TK.agg, reduceCtorEq, Array.toList, List.map_cons, List.map_nil, ↓reduceIte, List.length_map, Nat.reduceAdd, Nat.reduceLeDiff, Nat.reduceLT, Nat.reduceMul, Nat.reduceSub, Option.bind_some, Option.map_some, bndV, numV, eI, eU, e8, eB, AV.isCell, Int.reduceToNat, Int.reduceSub, Int.reduceAdd, Int.reduceNeg])
  refine Pu.use (GoodSight_spec p of hp hl) ?_
  cases h : goodSt p of
  · have hk : okNo p of no = false := by simp only [okNo, h, Bool.false_and]
    (try simp (maxSteps := 1000000) (disch := (first | assumption | (apply Ne.symm; assumption))) only [vw0, vw1, vw2, vw3, vw4, vu0, vu1, ↓condV_t, ↓condV_f, allocV, splice, partV, buildV, eqFieldsV, eqS, tabs, TK.agg, reduceCtorEq, Array.toList, List.map_cons, List.map_nil, ↓reduceIte, List.length_map, Nat.reduceAdd, Nat.reduceLeDiff, Nat.reduceLT, Nat.reduceMul, Nat.reduceSub, Option.bind_some, Option.map_some, bndV, numV, eI, eU, e8, eB, AV.isCell, Int.reduceToNat, Int.reduceSub, Int.reduceAdd, Int.reduceNeg])
    exact ⟨by simp only [classAt, hk, Bool.false_eq_true, if_false], hle⟩
  · obtain ⟨hs, hlen, c, hc⟩ := good_run h
    (try simp (maxSteps := 1000000) (disch := (first | assumption | (apply Ne.symm; assumption))) only [vw0, vw1, vw2, vw3, vw4, vu0, vu1, ↓condV_t, ↓condV_f, allocV, splice, partV, buildV, eqFieldsV, eqS, tabs, TK.agg, reduceCtorEq, Array.toList, List.map_cons, List.map_nil, ↓reduceIte, List.length_map, Nat.reduceAdd, Nat.reduceLeDiff, Nat.reduceLT, Nat.reduceMul, Nat.reduceSub, Option.bind_some, Option.map_some, bndV, numV, eI, eU, e8, eB, AV.isCell, Int.reduceToNat, Int.reduceSub, Int.reduceAdd, Int.reduceNeg, e])
    refine Pu.use (l1In_B ..) ?_
    cases hn : inB no 0 (of.length - 1)
    · have hk : okNo p of no = false := by
        rw [Bool.eq_false_iff]; intro hh
        simp only [okNo, Bool.and_eq_true, decide_eq_true_eq] at hh
        rw [inB_iff.2 (by omega)] at hn; cases hn
      (try simp (maxSteps := 1000000) (disch := (first | assumption | (apply Ne.symm; assumption))) only [vw0, vw1, vw2, vw3, vw4, vu0, vu1, ↓condV_t, ↓condV_f, allocV, splice, partV, buildV, eqFieldsV, eqS, tabs, TK.agg, reduceCtorEq, Array.toList, List.map_cons, List.map_nil, ↓reduceIte, List.length_map, Nat.reduceAdd, Nat.reduceLeDiff, Nat.reduceLT, Nat.reduceMul, Nat.reduceSub, Option.bind_some, Option.map_some, bndV, numV, eI, eU, e8, eB, AV.isCell, Int.reduceToNat, Int.reduceSub, Int.reduceAdd, Int.reduceNeg])
      exact ⟨by simp only [classAt, hk, Bool.false_eq_true, if_false], hle⟩
    · rw [inB_iff] at hn
      have hk : okNo p of no = true := by
        simp only [okNo, h, Bool.true_and, Bool.and_eq_true, decide_eq_true_eq]; omega
      (try simp (maxSteps := 1000000) (disch := (first | assumption | (apply Ne.symm; assumption))) only [vw0, vw1, vw2, vw3, vw4, vu0, vu1, ↓condV_t, ↓condV_f, allocV, splice, partV, buildV, eqFieldsV, eqS, tabs, TK.agg, reduceCtorEq, Array.toList, List.map_cons, List.map_nil, ↓reduceIte, List.length_map, Nat.reduceAdd, Nat.reduceLeDiff, Nat.reduceLT, Nat.reduceMul, Nat.reduceSub, Option.bind_some, Option.map_some, bndV, numV, eI, eU, e8, eB, AV.isCell, Int.reduceToNat, Int.reduceSub, Int.reduceAdd, Int.reduceNeg])
      refine ⟨by omega, by omega, ?_, hle⟩
      simp only [classAt, hk, if_true]
end Go.Proofs.Ythlbkcgnacemgaa
