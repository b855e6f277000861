/- Specs: good automata. -/
import Derived.Test.YtfbaijpanbjmpaaMa1
namespace Go.Proofs.Ytfbaijpanbjmpaa
open Go Go.Sep Go.Pt
set_option linter.unusedSimpArgs false
set_option linter.unusedVariables false
attribute [local irreducible] CallT

theorem riseAt_iff {l : List Int} {n : Int} {i : Nat} : riseAt l n i = true ↔ 0 ≤ l.getD i default ∧ l.getD i default < n ∧ (i = 0 ∨ l.getD (i - 1) default < l.getD i default) := by
  simp only [riseAt, Bool.and_eq_true, Bool.or_eq_true, decide_eq_true_eq, and_assoc]
theorem rise_not {l : List Int} {n : Int} {i : Nat} (h : ¬ (0 ≤ l.getD i default ∧ l.getD i default < n ∧ (i = 0 ∨ l.getD (i - 1) default < l.getD i default))) : riseAt l n i = false := by
  rw [Bool.eq_false_iff]; exact fun hh => h (riseAt_iff.1 hh)
theorem isIncreasing_spec (l : List Int) (n : Int) (hl : l.length ≤ 1048576) : Pu Try.prog 81 [Is l, I n] (B (rising l n)) := by
  refine Pu.of fun H => ?_
  refine W81_ok ?_; simp (maxSteps := 1000000) (disch := (first | assumption | (apply Ne.symm; assumption))) only [W81, vw0, vw1, vw2, vw3, vw4, vu0, vu1, ↓condV_t, ↓condV_f, cap_nil, allocV, splice, partV, buildV, eqFieldsV, eqS, tabs, TK.agg, reduceCtorEq, Array.toList, List.map_cons, List.map_nil, ↓reduceIte, List.length_map, Nat.reduceAdd, Nat.reduceLeDiff, Nat.reduceLT, Nat.reduceMul, Nat.reduceSub, Option.bind_some, Option.map_some, bndV, numV, eI, eU, e8, eB, AV.isCell, Int.reduceToNat, Int.reduceSub, Int.reduceAdd, Int.reduceNeg]
  refine L81_0_rule (0 : Nat) (fun i => I i) (fun _ => H) (fun i => i ≤ l.length ∧ (List.range i).all (riseAt l n) = true) (fun i => l.length - i) ⟨⟨by omega, rfl⟩, .refl _, Heap.le_refl _⟩ ?_
  rintro i ⟨hi, ha⟩
  have ra : ∀ j, j < l.length → riseAt l n j = false → rising l n = false := fun j hj h => range_all_false hj h
  have e1 : 0 < (i : Int) → IntKind.i64.wrap ((i : Int) - 1) = i - 1 := fun _ => i64_id (by omega) (by omega)
  have e2 : ((i : Int) - 1).toNat = i - 1 := by omega
  have nx : riseAt l n i = true → (List.range (i + 1)).all (riseAt l n) = true := fun h => by rw [range_all_succ, ha, h]; rfl
  (try simp (maxSteps := 1000000) (disch := (first | assumption | (apply Ne.symm; assumption))) only [vw0, vw1, vw2, vw3, vw4, vu0, vu1, ↓condV_t, ↓condV_f, cap_nil, allocV, splice, partV, buildV, eqFieldsV, eqS, tabs, TK.agg, reduceCtorEq, Array.toList, List.map_cons, List.map_nil, ↓reduceIte, List.length_map, Nat.reduceAdd, Nat.reduceLeDiff, Nat.reduceLT, Nat.reduceMul, Nat.reduceSub, Option.bind_some, Option.map_some, bndV, numV, eI, eU, e8, eB, AV.isCell, Int.reduceToNat, Int.reduceSub, Int.reduceAdd, Int.reduceNeg, B81_0])
  refine ⟨fun h1 => ⟨by omega, h1, fun h2 => ?_, fun h2 => ⟨fun h3 => ?_, fun h3 => ⟨fun h4 => ?_, fun h4 => ?_⟩⟩⟩, fun h1 => ?_⟩
  · rw [ra i (by omega) (rise_not (by omega))]
  · rw [ra i (by omega) (rise_not (by omega))]
  · rw [e1 h4, e2]
    refine ⟨by omega, by omega, fun h5 => ?_, fun h5 => ⟨i + 1, ⟨by omega, nx ?_⟩, by omega, ?_⟩⟩
    · rw [ra i (by omega) (rise_not (by omega))]
    · exact riseAt_iff.2 (by omega)
    · rw [wk_int, i64_id (by omega) (by omega)]; simp
  · refine ⟨i + 1, ⟨by omega, nx ?_⟩, by omega, ?_⟩
    · exact riseAt_iff.2 (by omega)
    · rw [wk_int, i64_id (by omega) (by omega)]; simp
  · have : i = l.length := by omega
    subst this
    rw [rising, ha]
theorem l1Rising_spec (l : List Int) (n : Int) (hl : l.length ≤ 1048576) : Pu Try.prog 105 [Is l, I 0, I (n - 1)] (B (rising l n)) := by
  refine Pu.of fun H => ?_
  refine W105_ok ?_; simp (maxSteps := 1000000) (disch := (first | assumption | (apply Ne.symm; assumption))) only [W105, vw0, vw1, vw2, vw3, vw4, vu0, vu1, ↓condV_t, ↓condV_f, cap_nil, allocV, splice, partV, buildV, eqFieldsV, eqS, tabs, TK.agg, reduceCtorEq, Array.toList, List.map_cons, List.map_nil, ↓reduceIte, List.length_map, Nat.reduceAdd, Nat.reduceLeDiff, Nat.reduceLT, Nat.reduceMul, Nat.reduceSub, Option.bind_some, Option.map_some, bndV, numV, eI, eU, e8, eB, AV.isCell, Int.reduceToNat, Int.reduceSub, Int.reduceAdd, Int.reduceNeg]
  refine L105_0_rule (0 : Nat) (fun i => I i) (fun _ => H) (fun i => i ≤ l.length ∧ (List.range i).all (riseAt l n) = true) (fun i => l.length - i) ⟨⟨by omega, rfl⟩, .refl _, Heap.le_refl _⟩ ?_
  rintro i ⟨hi, ha⟩
  have ra : ∀ j, j < l.length → riseAt l n j = false → rising l n = false := fun j hj h => range_all_false hj h
  have e1 : 0 < (i : Int) → IntKind.i64.wrap ((i : Int) - 1) = i - 1 := fun _ => i64_id (by omega) (by omega)
  have e2 : ((i : Int) - 1).toNat = i - 1 := by omega
  have nx : riseAt l n i = true → (List.range (i + 1)).all (riseAt l n) = true := fun h => by rw [range_all_succ, ha, h]; rfl
  (try simp (maxSteps := 1000000) (disch := (first | assumption | (apply Ne.symm; assumption))) only [vw0, vw1, vw2, vw3, vw4, vu0, vu1, ↓condV_t, ↓condV_f, cap_nil, allocV, splice, partV, buildV, eqFieldsV, eqS, tabs, TK.agg, reduceCtorEq, Array.toList, List.map_cons, List.map_nil, ↓reduceIte, List.length_map, Nat.reduceAdd, Nat.reduceLeDiff, Nat.reduceLT, Nat.reduceMul, Nat.reduceSub, Option.bind_some, Option.map_some, bndV, numV, eI, eU, e8, eB, AV.isCell, Int.reduceToNat, Int.reduceSub, Int.reduceAdd, Int.reduceNeg, B105_0])
  refine ⟨fun h1 => ⟨by omega, h1, ?_⟩, fun h1 => ?_⟩
  · refine Pu.use (l1In_spec (l.getD i default) 0 (n - 1)) ?_
    cases h2 : (decide (0 ≤ l.getD i default) && decide (l.getD i default ≤ n - 1))
    · (try simp (maxSteps := 1000000) (disch := (first | assumption | (apply Ne.symm; assumption))) only [vw0, vw1, vw2, vw3, vw4, vu0, vu1, ↓condV_t, ↓condV_f, cap_nil, allocV, splice, partV, buildV, eqFieldsV, eqS, tabs, TK.agg, reduceCtorEq, Array.toList, List.map_cons, List.map_nil, ↓reduceIte, List.length_map, Nat.reduceAdd, Nat.reduceLeDiff, Nat.reduceLT, Nat.reduceMul, Nat.reduceSub, Option.bind_some, Option.map_some, bndV, numV, eI, eU, e8, eB, AV.isCell, Int.reduceToNat, Int.reduceSub, Int.reduceAdd, Int.reduceNeg])
      simp only [Bool.and_eq_false_iff, decide_eq_false_iff_not] at h2
      rw [ra i (by omega) (rise_not (by omega))]
    simp only [Bool.and_eq_true, decide_eq_true_eq] at h2
    (try simp (maxSteps := 1000000) (disch := (first | assumption | (apply Ne.symm; assumption))) only [vw0, vw1, vw2, vw3, vw4, vu0, vu1, ↓condV_t, ↓condV_f, cap_nil, allocV, splice, partV, buildV, eqFieldsV, eqS, tabs, TK.agg, reduceCtorEq, Array.toList, List.map_cons, List.map_nil, ↓reduceIte, List.length_map, Nat.reduceAdd, Nat.reduceLeDiff, Nat.reduceLT, Nat.reduceMul, Nat.reduceSub, Option.bind_some, Option.map_some, bndV, numV, eI, eU, e8, eB, AV.isCell, Int.reduceToNat, Int.reduceSub, Int.reduceAdd, Int.reduceNeg])
    refine ⟨fun h4 => ?_, fun h4 => ?_⟩
    · rw [e1 h4, e2]
      refine ⟨by omega, by omega, fun h5 => ?_, fun h5 => ⟨i + 1, ⟨by omega, nx ?_⟩, by omega, ?_⟩⟩
      · rw [ra i (by omega) (rise_not (by omega))]
      · exact riseAt_iff.2 (by omega)
      · rw [wk_int, i64_id (by omega) (by omega)]; simp
    · refine ⟨i + 1, ⟨by omega, nx ?_⟩, by omega, ?_⟩
      · exact riseAt_iff.2 (by omega)
      · rw [wk_int, i64_id (by omega) (by omega)]; simp
  · have : i = l.length := by omega
    subst this
    rw [rising, ha]
theorem Compare_spec (a b : Int) : Pu Try.prog 109 [I a, I b] (I (if a < b then -1 else if a = b then 0 else 1)) := by
  have nan : ∀ c : Int, Pu Try.prog 121 [I c] (B false) := fun c => by
    refine Pu.of fun H => ?_
    refine W121_ok ?_; simp (maxSteps := 1000000) (disch := (first | assumption | (apply Ne.symm; assumption))) only [W121, vw0, vw1, vw2, vw3, vw4, vu0, vu1, ↓condV_t, ↓condV_f, cap_nil, allocV, splice, partV, buildV, eqFieldsV, eqS, tabs, TK.agg, reduceCtorEq, Array.toList, List.map_cons, List.map_nil, ↓reduceIte, List.length_map, Nat.reduceAdd, Nat.reduceLeDiff, Nat.reduceLT, Nat.reduceMul, Nat.reduceSub, Option.bind_some, Option.map_some, bndV, numV, eI, eU, e8, eB, AV.isCell, Int.reduceToNat, Int.reduceSub, Int.reduceAdd, Int.reduceNeg]
  refine Pu.of fun H => ?_
  refine W109_ok ?_; simp (maxSteps := 1000000) (disch := (first | assumption | (apply Ne.symm; assumption))) only [W109, vw0, vw1, vw2, vw3, vw4, vu0, vu1, ↓condV_t, ↓condV_f, cap_nil, allocV, splice, partV, buildV, eqFieldsV, eqS, tabs, TK.agg, reduceCtorEq, Array.toList, List.map_cons, List.map_nil, ↓reduceIte, List.length_map, Nat.reduceAdd, Nat.reduceLeDiff, Nat.reduceLT, Nat.reduceMul, Nat.reduceSub, Option.bind_some, Option.map_some, bndV, numV, eI, eU, e8, eB, AV.isCell, Int.reduceToNat, Int.reduceSub, Int.reduceAdd, Int.reduceNeg]
  refine Pu.use (nan a) ?_
  (try simp (maxSteps := 1000000) (disch := (first | assumption | (apply Ne.symm; assumption))) only [vw0, vw1, vw2, vw3, vw4, vu0, vu1, ↓condV_t, ↓condV_f, cap_nil, allocV, splice, partV, buildV, eqFieldsV, eqS, tabs, TK.agg, reduceCtorEq, Array.toList, List.map_cons, List.map_nil, ↓reduceIte, List.length_map, Nat.reduceAdd, Nat.reduceLeDiff, Nat.reduceLT, Nat.reduceMul, Nat.reduceSub, Option.bind_some, Option.map_some, bndV, numV, eI, eU, e8, eB, AV.isCell, Int.reduceToNat, Int.reduceSub, Int.reduceAdd, Int.reduceNeg])
  refine Pu.use (nan b) ?_
  (try simp (maxSteps := 1000000) (disch := (first | assumption | (apply Ne.symm; assumption))) only [vw0, vw1, vw2, vw3, vw4, vu0, vu1, ↓condV_t, ↓condV_f, cap_nil, allocV, splice, partV, buildV, eqFieldsV, eqS, tabs, TK.agg, reduceCtorEq, Array.toList, List.map_cons, List.map_nil, ↓reduceIte, List.length_map, Nat.reduceAdd, Nat.reduceLeDiff, Nat.reduceLT, Nat.reduceMul, Nat.reduceSub, Option.bind_some, Option.map_some, bndV, numV, eI, eU, e8, eB, AV.isCell, Int.reduceToNat, Int.reduceSub, Int.reduceAdd, Int.reduceNeg])
  refine ⟨fun h => by rw [if_pos h], fun h => ⟨fun h2 => by rw [if_neg h, if_neg (by omega)], fun h2 => by rw [if_neg h, if_pos (by omega)]⟩⟩
theorem Or3_spec (a b c : Int) : Pu Try.prog 108 [Is [a, b, c]] (I (if a ≠ 0 then a else if b ≠ 0 then b else c)) := by
  refine Pu.of fun H => ?_
  refine W108_ok ?_; simp (maxSteps := 1000000) (disch := (first | assumption | (apply Ne.symm; assumption))) only [W108, vw0, vw1, vw2, vw3, vw4, vu0, vu1, ↓condV_t, ↓condV_f, cap_nil, allocV, splice, partV, buildV, eqFieldsV, eqS, tabs, TK.agg, reduceCtorEq, Array.toList, List.map_cons, List.map_nil, ↓reduceIte, List.length_map, Nat.reduceAdd, Nat.reduceLeDiff, Nat.reduceLT, Nat.reduceMul, Nat.reduceSub, Option.bind_some, Option.map_some, bndV, numV, eI, eU, e8, eB, AV.isCell, Int.reduceToNat, Int.reduceSub, Int.reduceAdd, Int.reduceNeg]
  refine L108_0_rule (0 : Nat) (fun i => I i) (fun _ => H) (fun i => i ≤ 3 ∧ ∀ j, j < i → [a, b, c].getD j 0 = 0) (fun i => 3 - i) ⟨⟨by omega, by intros; omega⟩, .refl _, Heap.le_refl _⟩ ?_
  rintro i ⟨hi, ha⟩
  (try simp (maxSteps := 1000000) (disch := (first | assumption | (apply Ne.symm; assumption))) only [vw0, vw1, vw2, vw3, vw4, vu0, vu1, ↓condV_t, ↓condV_f, cap_nil, allocV, splice, partV, buildV, eqFieldsV, eqS, tabs, TK.agg, reduceCtorEq, Array.toList, List.map_cons, List.map_nil, ↓reduceIte, List.length_map, Nat.reduceAdd, Nat.reduceLeDiff, Nat.reduceLT, Nat.reduceMul, Nat.reduceSub, Option.bind_some, Option.map_some, bndV, numV, eI, eU, e8, eB, AV.isCell, Int.reduceToNat, Int.reduceSub, Int.reduceAdd, Int.reduceNeg, B108_0])
  have e3 : ∀ j, [a, b, c].getD j default = [a, b, c].getD j 0 := fun _ => rfl
  rw [e3]
  refine ⟨fun h1 => ⟨by omega, h1, fun h2 => ?_, fun h2 => ⟨i + 1, ⟨by omega, fun j hj => ?_⟩, by omega, ?_⟩⟩, fun h1 => ?_⟩
  · refine congrArg (fun n : Int => I n) ?_
    have a0 := ha 0
    have a1 := ha 1
    obtain rfl | rfl | rfl : i = 0 ∨ i = 1 ∨ i = 2 := by omega
    · rw [if_pos (by simpa using h2)]; rfl
    · rw [if_neg (by simpa using a0 (by omega)), if_pos (by simpa using h2)]; rfl
    · rw [if_neg (by simpa using a0 (by omega)), if_neg (by simpa using a1 (by omega))]; rfl
  · rcases Nat.lt_succ_iff_lt_or_eq.1 hj with h | rfl
    · exact ha j h
    · exact h2
  · rw [wk_int, i64_id (by omega) (by omega)]; simp
  · have a0 := ha 0 (by omega)
    have a1 := ha 1 (by omega)
    have a2 := ha 2 (by omega)
    rw [if_neg (by simpa using a0), if_neg (by simpa using a1)]
    exact congrArg (fun n : Int => I n) a2.symm
theorem compareEdges_spec (a b : Ed) : Pu Try.prog 83 [aE a, aE b] (I (if edLt a b then -1 else if edLt b a then 1 else 0)) := by
  refine Pu.of fun H => ?_
  refine W83_ok ?_; simp (maxSteps := 1000000) (disch := (first | assumption | (apply Ne.symm; assumption))) only [W83, vw0, vw1, vw2, vw3, vw4, vu0, vu1, ↓condV_t, ↓condV_f, cap_nil, allocV, splice, partV, buildV, eqFieldsV, eqS, tabs, TK.agg, reduceCtorEq, Array.toList, List.map_cons, List.map_nil, ↓reduceIte, List.length_map, Nat.reduceAdd, Nat.reduceLeDiff, Nat.reduceLT, Nat.reduceMul, Nat.reduceSub, Option.bind_some, Option.map_some, bndV, numV, eI, eU, e8, eB, AV.isCell, Int.reduceToNat, Int.reduceSub, Int.reduceAdd, Int.reduceNeg]
  intro r hr r2 n2 hr2
  have nn2 : r ≠ r2 := Ne.symm n2
  have hle := Heap.le_setN (b := [I b.src, I b.lt, I b.dst]) (Heap.le_set (b := [I a.src, I a.lt, I a.dst]) hr) hr2
  (try simp (maxSteps := 1000000) (disch := (first | assumption | (apply Ne.symm; assumption))) only [vw0, vw1, vw2, vw3, vw4, vu0, vu1, ↓condV_t, ↓condV_f, cap_nil, allocV, splice, partV, buildV, eqFieldsV, eqS, tabs, TK.agg, reduceCtorEq, Array.toList, List.map_cons, List.map_nil, ↓reduceIte, List.length_map, Nat.reduceAdd, Nat.reduceLeDiff, Nat.reduceLT, Nat.reduceMul, Nat.reduceSub, Option.bind_some, Option.map_some, bndV, numV, eI, eU, e8, eB, AV.isCell, Int.reduceToNat, Int.reduceSub, Int.reduceAdd, Int.reduceNeg])
  refine Pu.use (Compare_spec a.src b.src) ?_
  (try simp (maxSteps := 1000000) (disch := (first | assumption | (apply Ne.symm; assumption))) only [vw0, vw1, vw2, vw3, vw4, vu0, vu1, ↓condV_t, ↓condV_f, cap_nil, allocV, splice, partV, buildV, eqFieldsV, eqS, tabs, TK.agg, reduceCtorEq, Array.toList, List.map_cons, List.map_nil, ↓reduceIte, List.length_map, Nat.reduceAdd, Nat.reduceLeDiff, Nat.reduceLT, Nat.reduceMul, Nat.reduceSub, Option.bind_some, Option.map_some, bndV, numV, eI, eU, e8, eB, AV.isCell, Int.reduceToNat, Int.reduceSub, Int.reduceAdd, Int.reduceNeg])
  refine Pu.use (Compare_spec a.lt b.lt) ?_
  (try simp (maxSteps := 1000000) (disch := (first | assumption | (apply Ne.symm; assumption))) only [vw0, vw1, vw2, vw3, vw4, vu0, vu1, ↓condV_t, ↓condV_f, cap_nil, allocV, splice, partV, buildV, eqFieldsV, eqS, tabs, TK.agg, reduceCtorEq, Array.toList, List.map_cons, List.map_nil, ↓reduceIte, List.length_map, Nat.reduceAdd, Nat.reduceLeDiff, Nat.reduceLT, Nat.reduceMul, Nat.reduceSub, Option.bind_some, Option.map_some, bndV, numV, eI, eU, e8, eB, AV.isCell, Int.reduceToNat, Int.reduceSub, Int.reduceAdd, Int.reduceNeg])
  refine Pu.use (Compare_spec a.dst b.dst) ?_
  refine lit3 tab_22 rfl tab_3 ⟨rfl, rfl⟩ ?_
  refine Pu.use (Or3_spec _ _ _) ?_
  refine ⟨?_, hle⟩
  refine congrArg (fun n : Int => I n) ?_
  have c1 : ∀ x y : Int, (if x < y then (-1 : Int) else if x = y then 0 else 1) ≠ 0 ↔ x ≠ y := fun x y => by
    constructor
    · intro h e; subst e; simp at h
    · intro h; split <;> first | decide | (rw [if_neg h]; decide)
  have key : ∀ x y : Int, (if x < y then (-1 : Int) else if x = y then 0 else 1) = (if decide (x < y) = true then -1 else if decide (y < x) = true then 1 else 0) := fun x y => by
    simp only [decide_eq_true_eq]
    rcases Int.lt_trichotomy x y with h | h | h
    · rw [if_pos h, if_pos h]
    · subst h; simp
    · rw [if_neg (by omega), if_neg (by omega), if_neg (by omega), if_pos h]
  unfold edLt
  by_cases h1 : a.src = b.src
  · rw [if_neg (by rw [c1]; exact not_not_intro h1), if_pos h1, if_pos h1.symm]
    by_cases h2 : a.lt = b.lt
    · rw [if_neg (by rw [c1]; exact not_not_intro h2), if_pos h2, if_pos h2.symm]
      exact key _ _
    · rw [if_pos (by rw [c1]; exact h2)]
      have := key a.lt b.lt
      simpa only [if_neg h2, if_neg (Ne.symm h2)] using this
  · rw [if_pos (by rw [c1]; exact h1)]
    have := key a.src b.src
    simpa only [if_neg h1, if_neg (Ne.symm h1)] using this
theorem l12Less_spec (a b : Ed) : Pu Try.prog 79 [aE a, aE b] (B (edLt a b)) := by
  refine Pu.of fun H => ?_
  refine W79_ok ?_; simp (maxSteps := 1000000) (disch := (first | assumption | (apply Ne.symm; assumption))) only [W79, vw0, vw1, vw2, vw3, vw4, vu0, vu1, ↓condV_t, ↓condV_f, cap_nil, allocV, splice, partV, buildV, eqFieldsV, eqS, tabs, TK.agg, reduceCtorEq, Array.toList, List.map_cons, List.map_nil, ↓reduceIte, List.length_map, Nat.reduceAdd, Nat.reduceLeDiff, Nat.reduceLT, Nat.reduceMul, Nat.reduceSub, Option.bind_some, Option.map_some, bndV, numV, eI, eU, e8, eB, AV.isCell, Int.reduceToNat, Int.reduceSub, Int.reduceAdd, Int.reduceNeg]
  intro r hr r2 n2 hr2
  have nn2 : r ≠ r2 := Ne.symm n2
  have hle := Heap.le_setN (b := [I b.src, I b.lt, I b.dst]) (Heap.le_set (b := [I a.src, I a.lt, I a.dst]) hr) hr2
  (try simp (maxSteps := 1000000) (disch := (first | assumption | (apply Ne.symm; assumption))) only [vw0, vw1, vw2, vw3, vw4, vu0, vu1, ↓condV_t, ↓condV_f, cap_nil, allocV, splice, partV, buildV, eqFieldsV, eqS, tabs, TK.agg, reduceCtorEq, Array.toList, List.map_cons, List.map_nil, ↓reduceIte, List.length_map, Nat.reduceAdd, Nat.reduceLeDiff, Nat.reduceLT, Nat.reduceMul, Nat.reduceSub, Option.bind_some, Option.map_some, bndV, numV, eI, eU, e8, eB, AV.isCell, Int.reduceToNat, Int.reduceSub, Int.reduceAdd, Int.reduceNeg])
  unfold edLt
  exact ⟨fun h => ⟨by rw [if_neg h], hle⟩, fun h => ⟨fun h2 => ⟨by rw [if_pos h, if_neg h2], hle⟩, fun h2 => ⟨by rw [if_pos h, if_pos h2], hle⟩⟩⟩
theorem areGoals1_at (l : List Int) (n : Int) (r : Nat) {H : Heap} (hr : H r = some [I n]) (hl : l.length ≤ 1048576) : PuAt Try.prog 107 [Is l, .ptr r 0] H (B (!rising l n)) := by
  intro K hK
  refine W107_ok ?_; simp (maxSteps := 1000000) (disch := (first | assumption | (apply Ne.symm; assumption))) only [W107, vw0, vw1, vw2, vw3, vw4, vu0, vu1, ↓condV_t, ↓condV_f, cap_nil, allocV, splice, partV, buildV, eqFieldsV, eqS, tabs, TK.agg, reduceCtorEq, Array.toList, List.map_cons, List.map_nil, ↓reduceIte, List.length_map, Nat.reduceAdd, Nat.reduceLeDiff, Nat.reduceLT, Nat.reduceMul, Nat.reduceSub, Option.bind_some, Option.map_some, bndV, numV, eI, eU, e8, eB, AV.isCell, Int.reduceToNat, Int.reduceSub, Int.reduceAdd, Int.reduceNeg, load_at hr]
  refine Pu.use (isIncreasing_spec l n hl) ?_
  (try simp (maxSteps := 1000000) (disch := (first | assumption | (apply Ne.symm; assumption))) only [vw0, vw1, vw2, vw3, vw4, vu0, vu1, ↓condV_t, ↓condV_f, cap_nil, allocV, splice, partV, buildV, eqFieldsV, eqS, tabs, TK.agg, reduceCtorEq, Array.toList, List.map_cons, List.map_nil, ↓reduceIte, List.length_map, Nat.reduceAdd, Nat.reduceLeDiff, Nat.reduceLT, Nat.reduceMul, Nat.reduceSub, Option.bind_some, Option.map_some, bndV, numV, eI, eU, e8, eB, AV.isCell, Int.reduceToNat, Int.reduceSub, Int.reduceAdd, Int.reduceNeg])
  simpa using hK

theorem IndexFuncL_at (xs : List (List Int)) (g : Nat) (caps : List AV) (p : List Int → Bool) {H : Heap} (hl : xs.length ≤ 1000000000) (hp : ∀ x ∈ xs, PuAt Try.prog g (Is x :: caps) H (B (p x))) :
    PuAt Try.prog 120 [Ls xs, .fn g caps] H (I (if xs.any p then (xs.findIdx p : Int) else -1)) := by
  intro K hK
  refine CallT.fin ?_
  refine W120_ok ?_; simp (maxSteps := 1000000) (disch := (first | assumption | (apply Ne.symm; assumption))) only [W120, vw0, vw1, vw2, vw3, vw4, vu0, vu1, ↓condV_t, ↓condV_f, cap_nil, allocV, splice, partV, buildV, eqFieldsV, eqS, tabs, TK.agg, reduceCtorEq, Array.toList, List.map_cons, List.map_nil, ↓reduceIte, List.length_map, Nat.reduceAdd, Nat.reduceLeDiff, Nat.reduceLT, Nat.reduceMul, Nat.reduceSub, Option.bind_some, Option.map_some, bndV, numV, eI, eU, e8, eB, AV.isCell, Int.reduceToNat, Int.reduceSub, Int.reduceAdd, Int.reduceNeg]
  refine L120_0_rule (0 : Nat) (fun i => I i) (fun _ => H) (fun i => i ≤ xs.length ∧ ∀ j (hj : j < xs.length), j < i → p xs[j] = false) (fun i => xs.length - i) ⟨⟨by omega, by intros; omega⟩, .refl _, Heap.le_refl _⟩ ?_
  rintro i ⟨hi1, ha⟩
  (try simp (maxSteps := 1000000) (disch := (first | assumption | (apply Ne.symm; assumption))) only [vw0, vw1, vw2, vw3, vw4, vu0, vu1, ↓condV_t, ↓condV_f, cap_nil, allocV, splice, partV, buildV, eqFieldsV, eqS, tabs, TK.agg, reduceCtorEq, Array.toList, List.map_cons, List.map_nil, ↓reduceIte, List.length_map, Nat.reduceAdd, Nat.reduceLeDiff, Nat.reduceLT, Nat.reduceMul, Nat.reduceSub, Option.bind_some, Option.map_some, bndV, numV, eI, eU, e8, eB, AV.isCell, Int.reduceToNat, Int.reduceSub, Int.reduceAdd, Int.reduceNeg, B120_0])
  refine ⟨fun h => ⟨by omega, h, ?_⟩, fun h => ?_⟩
  · have hlt : i < xs.length := by omega
    rw [getD_lt hlt]
    refine PuAt.use (hp _ (List.getElem_mem hlt)) ?_
    (try simp (maxSteps := 1000000) (disch := (first | assumption | (apply Ne.symm; assumption))) only [vw0, vw1, vw2, vw3, vw4, vu0, vu1, ↓condV_t, ↓condV_f, cap_nil, allocV, splice, partV, buildV, eqFieldsV, eqS, tabs, TK.agg, reduceCtorEq, Array.toList, List.map_cons, List.map_nil, ↓reduceIte, List.length_map, Nat.reduceAdd, Nat.reduceLeDiff, Nat.reduceLT, Nat.reduceMul, Nat.reduceSub, Option.bind_some, Option.map_some, bndV, numV, eI, eU, e8, eB, AV.isCell, Int.reduceToNat, Int.reduceSub, Int.reduceAdd, Int.reduceNeg])
    refine ⟨fun h1 => ?_, fun h1 => ⟨i + 1, ⟨by omega, fun j hj hji => ?_⟩, by omega, ?_⟩⟩
    · have h2 : xs.any p = true := List.any_eq_true.2 ⟨xs[i], List.getElem_mem hlt, h1⟩
      have h3 : xs.findIdx p = i := by
        rw [List.findIdx_eq hlt]; exact ⟨h1, fun j hj => ha j (by omega) hj⟩
      rw [h2, h3] at hK; exact wkK.keep (by simpa using hK)
    · rcases Nat.lt_succ_iff_lt_or_eq.1 hji with h2 | rfl
      · exact ha j hj h2
      · exact h1
    · rw [wk_int, i64_id (by omega) (by omega)]; simp
  · have hi : i = xs.length := by omega
    have h2 : xs.any p = false := by
      rw [List.any_eq_false]
      intro x hx
      obtain ⟨j, hj, rfl⟩ := List.mem_iff_getElem.1 hx
      rw [ha j hj (by omega)]; simp
    rw [h2] at hK; exact wkK.keep (by simpa using hK)
theorem ContainsFuncL_at (xs : List (List Int)) (g : Nat) (caps : List AV) (p : List Int → Bool) {H : Heap} (hl : xs.length ≤ 1000000000) (hp : ∀ x ∈ xs, PuAt Try.prog g (Is x :: caps) H (B (p x))) :
    PuAt Try.prog 106 [Ls xs, .fn g caps] H (B (xs.any p)) := by
  intro K hK
  refine W106_ok ?_; simp (maxSteps := 1000000) (disch := (first | assumption | (apply Ne.symm; assumption))) only [W106, vw0, vw1, vw2, vw3, vw4, vu0, vu1, ↓condV_t, ↓condV_f, cap_nil, allocV, splice, partV, buildV, eqFieldsV, eqS, tabs, TK.agg, reduceCtorEq, Array.toList, List.map_cons, List.map_nil, ↓reduceIte, List.length_map, Nat.reduceAdd, Nat.reduceLeDiff, Nat.reduceLT, Nat.reduceMul, Nat.reduceSub, Option.bind_some, Option.map_some, bndV, numV, eI, eU, e8, eB, AV.isCell, Int.reduceToNat, Int.reduceSub, Int.reduceAdd, Int.reduceNeg]
  refine PuAt.use (IndexFuncL_at xs g caps p hl hp) ?_
  (try simp (maxSteps := 1000000) (disch := (first | assumption | (apply Ne.symm; assumption))) only [vw0, vw1, vw2, vw3, vw4, vu0, vu1, ↓condV_t, ↓condV_f, cap_nil, allocV, splice, partV, buildV, eqFieldsV, eqS, tabs, TK.agg, reduceCtorEq, Array.toList, List.map_cons, List.map_nil, ↓reduceIte, List.length_map, Nat.reduceAdd, Nat.reduceLeDiff, Nat.reduceLT, Nat.reduceMul, Nat.reduceSub, Option.bind_some, Option.map_some, bndV, numV, eI, eU, e8, eB, AV.isCell, Int.reduceToNat, Int.reduceSub, Int.reduceAdd, Int.reduceNeg])
  cases h : xs.any p <;> simp [h] at hK ⊢ <;> exact hK

def goalsOk (n : Int) (gs : List (List Int)) : Bool := decide (gs.length ≤ 6) && gs.all (fun g => rising g n)
theorem not_any_not {α : Type} {p : α → Bool} {l : List α} : (!l.any fun x => !p x) = l.all p := by
  induction l with
  | nil => rfl
  | cons a l ih => simp only [List.any_cons, List.all_cons, Bool.not_or, Bool.not_not, ih]
theorem areGoals_spec (gs : List (List Int)) (n : Int) (hs : smLs gs) : Pu Try.prog 82 [Ls gs, I n] (B (goalsOk n gs)) := by
  refine Pu.of fun H => ?_
  refine W82_ok ?_; simp (maxSteps := 1000000) (disch := (first | assumption | (apply Ne.symm; assumption))) only [W82, vw0, vw1, vw2, vw3, vw4, vu0, vu1, ↓condV_t, ↓condV_f, cap_nil, allocV, splice, partV, buildV, eqFieldsV, eqS, tabs, TK.agg, reduceCtorEq, Array.toList, List.map_cons, List.map_nil, ↓reduceIte, List.length_map, Nat.reduceAdd, Nat.reduceLeDiff, Nat.reduceLT, Nat.reduceMul, Nat.reduceSub, Option.bind_some, Option.map_some, bndV, numV, eI, eU, e8, eB, AV.isCell, Int.reduceToNat, Int.reduceSub, Int.reduceAdd, Int.reduceNeg]
  intro r hr
  refine ⟨fun h => ?_, fun h => ⟨by rw [goalsOk, decide_eq_false (by omega)]; rfl, Heap.le_set hr⟩⟩
  refine PuAt.use (ContainsFuncL_at gs _ _ (fun g => !rising g n) (by have := hs.1; omega) fun g hg => areGoals1_at g n r (Heap.set_same _ _ _) (hs.2 g hg)) ?_
  (try simp (maxSteps := 1000000) (disch := (first | assumption | (apply Ne.symm; assumption))) only [vw0, vw1, vw2, vw3, vw4, vu0, vu1, ↓condV_t, ↓condV_f, cap_nil, allocV, splice, partV, buildV, eqFieldsV, eqS, tabs, TK.agg, reduceCtorEq, Array.toList, List.map_cons, List.map_nil, ↓reduceIte, List.length_map, Nat.reduceAdd, Nat.reduceLeDiff, Nat.reduceLT, Nat.reduceMul, Nat.reduceSub, Option.bind_some, Option.map_some, bndV, numV, eI, eU, e8, eB, AV.isCell, Int.reduceToNat, Int.reduceSub, Int.reduceAdd, Int.reduceNeg])
  refine ⟨?_, Heap.le_set hr⟩
  rw [goalsOk, decide_eq_true (by omega), Bool.true_and, ← not_any_not]
theorem l11Points_spec (l : List Int) (n : Int) (hl : l.length ≤ 1048576) (hn : 1 ≤ n ∧ n ≤ 96) : Pu Try.prog 77 [Is l, I n] (B (rising l n)) := by
  refine Pu.of fun H => ?_
  have e : IntKind.i64.wrap (n - 1) = n - 1 := i64_id (by omega) (by omega)
  refine W77_ok ?_; simp (maxSteps := 1000000) (disch := (first | assumption | (apply Ne.symm; assumption))) only [W77, vw0, vw1, vw2, vw3, vw4, vu0, vu1, ↓condV_t, ↓condV_f, cap_nil, allocV, splice, partV, buildV, eqFieldsV, eqS, tabs, TK.agg, reduceCtorEq, Array.toList, List.map_cons, List.map_nil, ↓reduceIte, List.length_map, Nat.reduceAdd, Nat.reduceLeDiff, Nat.reduceLT, Nat.reduceMul, Nat.reduceSub, Option.bind_some, Option.map_some, bndV, numV, eI, eU, e8, eB, AV.isCell, Int.reduceToNat, Int.reduceSub, Int.reduceAdd, Int.reduceNeg, e]
  exact Pu.use (l1Rising_spec l n hl) ⟨rfl, Heap.le_refl _⟩
theorem l11Goals_spec (gs : List (List Int)) (n : Int) (hs : smLs gs) (hn : 1 ≤ n ∧ n ≤ 96) : Pu Try.prog 78 [Ls gs, I n] (B (goalsOk n gs)) := by
  have hl := hs.1
  refine Pu.of fun H => ?_
  refine W78_ok ?_; simp (maxSteps := 1000000) (disch := (first | assumption | (apply Ne.symm; assumption))) only [W78, vw0, vw1, vw2, vw3, vw4, vu0, vu1, ↓condV_t, ↓condV_f, cap_nil, allocV, splice, partV, buildV, eqFieldsV, eqS, tabs, TK.agg, reduceCtorEq, Array.toList, List.map_cons, List.map_nil, ↓reduceIte, List.length_map, Nat.reduceAdd, Nat.reduceLeDiff, Nat.reduceLT, Nat.reduceMul, Nat.reduceSub, Option.bind_some, Option.map_some, bndV, numV, eI, eU, e8, eB, AV.isCell, Int.reduceToNat, Int.reduceSub, Int.reduceAdd, Int.reduceNeg]
  refine ⟨fun h => by rw [goalsOk, decide_eq_false (by omega)]; rfl, fun h => ?_⟩
  have hd : goalsOk n gs = gs.all (fun g => rising g n) := by rw [goalsOk, decide_eq_true (by omega), Bool.true_and]
  refine L78_0_rule (0 : Nat) (fun i => I i) (fun _ => H) (fun i => i ≤ gs.length ∧ (gs.take i).all (fun g => rising g n) = true) (fun i => gs.length - i) ⟨⟨by omega, rfl⟩, .refl _, Heap.le_refl _⟩ ?_
  rintro i ⟨hi, ha⟩
  (try simp (maxSteps := 1000000) (disch := (first | assumption | (apply Ne.symm; assumption))) only [vw0, vw1, vw2, vw3, vw4, vu0, vu1, ↓condV_t, ↓condV_f, cap_nil, allocV, splice, partV, buildV, eqFieldsV, eqS, tabs, TK.agg, reduceCtorEq, Array.toList, List.map_cons, List.map_nil, ↓reduceIte, List.length_map, Nat.reduceAdd, Nat.reduceLeDiff, Nat.reduceLT, Nat.reduceMul, Nat.reduceSub, Option.bind_some, Option.map_some, bndV, numV, eI, eU, e8, eB, AV.isCell, Int.reduceToNat, Int.reduceSub, Int.reduceAdd, Int.reduceNeg, B78_0])
  refine ⟨fun h1 => ⟨by omega, h1, ?_⟩, fun h1 => ?_⟩
  · have hlt : i < gs.length := by omega
    have hm : gs.getD i default ∈ gs := getD_all (p := fun x => x ∈ gs) (fun _ h => h) hlt
    refine Pu.use (l11Points_spec (gs.getD i default) n (hs.2 _ hm) hn) ?_
    cases hr : rising (gs.getD i default) n
    · (try simp (maxSteps := 1000000) (disch := (first | assumption | (apply Ne.symm; assumption))) only [vw0, vw1, vw2, vw3, vw4, vu0, vu1, ↓condV_t, ↓condV_f, cap_nil, allocV, splice, partV, buildV, eqFieldsV, eqS, tabs, TK.agg, reduceCtorEq, Array.toList, List.map_cons, List.map_nil, ↓reduceIte, List.length_map, Nat.reduceAdd, Nat.reduceLeDiff, Nat.reduceLT, Nat.reduceMul, Nat.reduceSub, Option.bind_some, Option.map_some, bndV, numV, eI, eU, e8, eB, AV.isCell, Int.reduceToNat, Int.reduceSub, Int.reduceAdd, Int.reduceNeg])
      rw [hd]
      exact congrArg (fun b : Bool => B b) (List.all_eq_false.2 ⟨_, hm, by rw [hr]; simp⟩).symm
    · (try simp (maxSteps := 1000000) (disch := (first | assumption | (apply Ne.symm; assumption))) only [vw0, vw1, vw2, vw3, vw4, vu0, vu1, ↓condV_t, ↓condV_f, cap_nil, allocV, splice, partV, buildV, eqFieldsV, eqS, tabs, TK.agg, reduceCtorEq, Array.toList, List.map_cons, List.map_nil, ↓reduceIte, List.length_map, Nat.reduceAdd, Nat.reduceLeDiff, Nat.reduceLT, Nat.reduceMul, Nat.reduceSub, Option.bind_some, Option.map_some, bndV, numV, eI, eU, e8, eB, AV.isCell, Int.reduceToNat, Int.reduceSub, Int.reduceAdd, Int.reduceNeg])
      refine ⟨i + 1, ⟨by omega, ?_⟩, by omega, ?_⟩
      · rw [take_all_succ hlt, ha, Bool.true_and, ← getD_lt (d := default) hlt]; exact hr
      · rw [wk_int, i64_id (by omega) (by omega)]; simp
  · have : i = gs.length := by omega
    subst this
    rw [List.take_length] at ha
    rw [hd, ha]

theorem edIn_iff {n : Int} {e : Ed} : edIn n e = true ↔ (0 ≤ e.src ∧ e.src < n) ∧ (0 ≤ e.dst ∧ e.dst < n) ∧ (0 ≤ e.lt ∧ e.lt < 8) := by
  simp only [edIn, Bool.and_eq_true, decide_eq_true_eq]
theorem edAt_iff {n : Int} {es : List Ed} {i : Nat} : edAt n es i = true ↔ edIn n (es.getD i default) = true ∧ (i = 0 ∨ edLt (es.getD (i - 1) default) (es.getD i default) = true) := by
  simp only [edAt, Bool.and_eq_true, Bool.or_eq_true, decide_eq_true_eq]
theorem edAt_not {n : Int} {es : List Ed} {i : Nat} (h : ¬ (edIn n (es.getD i default) = true ∧ (i = 0 ∨ edLt (es.getD (i - 1) default) (es.getD i default) = true))) : edAt n es i = false := by
  rw [Bool.eq_false_iff]; exact fun hh => h (edAt_iff.1 hh)
theorem goodA_def (a : Au) : goodA a = ((decide (1 ≤ a.states) && decide (a.states ≤ 96)) && (rising a.first a.states && (decide (a.edges.length ≤ 2400) && (goalsOk a.states a.goals && edsOk a.states a.edges)))) := rfl

theorem GoodAuto_impl (a : Au) (hs : smAu a) : Pu Try.prog 42 [aAu a] (B (goodA a)) := by
  refine Pu.of fun H => ?_
  have gd := goodA_def a
  refine W42_ok ?_; simp (maxSteps := 1000000) (disch := (first | assumption | (apply Ne.symm; assumption))) only [W42, vw0, vw1, vw2, vw3, vw4, vu0, vu1, ↓condV_t, ↓condV_f, cap_nil, allocV, splice, partV, buildV, eqFieldsV, eqS, tabs, TK.agg, reduceCtorEq, Array.toList, List.map_cons, List.map_nil, ↓reduceIte, List.length_map, Nat.reduceAdd, Nat.reduceLeDiff, Nat.reduceLT, Nat.reduceMul, Nat.reduceSub, Option.bind_some, Option.map_some, bndV, numV, eI, eU, e8, eB, AV.isCell, Int.reduceToNat, Int.reduceSub, Int.reduceAdd, Int.reduceNeg]
  intro r hr
  have hle := Heap.le_set (b := [I a.states, Is a.first, Es a.edges, Ls a.goals]) hr
  have bad : goodA a = false → AV.p (.bool false) = B (goodA a) ∧ Heap.le H (H.set r [I a.states, Is a.first, Es a.edges, Ls a.goals]) := fun h => ⟨by rw [h], hle⟩
  refine ⟨fun h1 => bad (by rw [gd, decide_eq_false (by omega)]; rfl), fun h1 => ⟨fun h2 => bad (by rw [gd, decide_eq_false (by omega : ¬ a.states ≤ 96), Bool.and_false]; rfl), fun h2 => ?_⟩⟩
  rw [decide_eq_true (by omega : 1 ≤ a.states), decide_eq_true (by omega : a.states ≤ 96), Bool.true_and, Bool.true_and] at gd
  refine Pu.use (isIncreasing_spec a.first a.states hs.1) ?_
  cases h3 : rising a.first a.states
  · (try simp (maxSteps := 1000000) (disch := (first | assumption | (apply Ne.symm; assumption))) only [vw0, vw1, vw2, vw3, vw4, vu0, vu1, ↓condV_t, ↓condV_f, cap_nil, allocV, splice, partV, buildV, eqFieldsV, eqS, tabs, TK.agg, reduceCtorEq, Array.toList, List.map_cons, List.map_nil, ↓reduceIte, List.length_map, Nat.reduceAdd, Nat.reduceLeDiff, Nat.reduceLT, Nat.reduceMul, Nat.reduceSub, Option.bind_some, Option.map_some, bndV, numV, eI, eU, e8, eB, AV.isCell, Int.reduceToNat, Int.reduceSub, Int.reduceAdd, Int.reduceNeg])
    exact bad (by rw [gd, h3]; rfl)
  rw [h3, Bool.true_and] at gd
  (try simp (maxSteps := 1000000) (disch := (first | assumption | (apply Ne.symm; assumption))) only [vw0, vw1, vw2, vw3, vw4, vu0, vu1, ↓condV_t, ↓condV_f, cap_nil, allocV, splice, partV, buildV, eqFieldsV, eqS, tabs, TK.agg, reduceCtorEq, Array.toList, List.map_cons, List.map_nil, ↓reduceIte, List.length_map, Nat.reduceAdd, Nat.reduceLeDiff, Nat.reduceLT, Nat.reduceMul, Nat.reduceSub, Option.bind_some, Option.map_some, bndV, numV, eI, eU, e8, eB, AV.isCell, Int.reduceToNat, Int.reduceSub, Int.reduceAdd, Int.reduceNeg])
  refine ⟨fun h4 => bad (by rw [gd, decide_eq_false (by omega)]; rfl), fun h4 => ?_⟩
  rw [decide_eq_true (by omega : a.edges.length ≤ 2400), Bool.true_and] at gd
  refine Pu.use (areGoals_spec a.goals a.states hs.2.2) ?_
  cases h5 : goalsOk a.states a.goals
  · (try simp (maxSteps := 1000000) (disch := (first | assumption | (apply Ne.symm; assumption))) only [vw0, vw1, vw2, vw3, vw4, vu0, vu1, ↓condV_t, ↓condV_f, cap_nil, allocV, splice, partV, buildV, eqFieldsV, eqS, tabs, TK.agg, reduceCtorEq, Array.toList, List.map_cons, List.map_nil, ↓reduceIte, List.length_map, Nat.reduceAdd, Nat.reduceLeDiff, Nat.reduceLT, Nat.reduceMul, Nat.reduceSub, Option.bind_some, Option.map_some, bndV, numV, eI, eU, e8, eB, AV.isCell, Int.reduceToNat, Int.reduceSub, Int.reduceAdd, Int.reduceNeg])
    exact bad (by rw [gd, h5]; rfl)
  rw [h5, Bool.true_and] at gd
  (try simp (maxSteps := 1000000) (disch := (first | assumption | (apply Ne.symm; assumption))) only [vw0, vw1, vw2, vw3, vw4, vu0, vu1, ↓condV_t, ↓condV_f, cap_nil, allocV, splice, partV, buildV, eqFieldsV, eqS, tabs, TK.agg, reduceCtorEq, Array.toList, List.map_cons, List.map_nil, ↓reduceIte, List.length_map, Nat.reduceAdd, Nat.reduceLeDiff, Nat.reduceLT, Nat.reduceMul, Nat.reduceSub, Option.bind_some, Option.map_some, bndV, numV, eI, eU, e8, eB, AV.isCell, Int.reduceToNat, Int.reduceSub, Int.reduceAdd, Int.reduceNeg])
  have hG : (H.set r [I a.states, Is a.first, Es a.edges, Ls a.goals]) r = some [I a.states, Is a.first, Es a.edges, Ls a.goals] := Heap.set_same _ _ _
  generalize H.set r [I a.states, Is a.first, Es a.edges, Ls a.goals] = G at hle bad hG ⊢
  refine L42_0_rule (0 : Nat) (fun i => I i) (fun _ => G) (fun i => i ≤ a.edges.length ∧ (List.range i).all (edAt a.states a.edges) = true) (fun i => a.edges.length - i) ⟨⟨by omega, rfl⟩, .refl _, Heap.le_refl _⟩ ?_
  rintro i ⟨hi, ha⟩
  (try simp (maxSteps := 1000000) (disch := (first | assumption | (apply Ne.symm; assumption))) only [vw0, vw1, vw2, vw3, vw4, vu0, vu1, ↓condV_t, ↓condV_f, cap_nil, allocV, splice, partV, buildV, eqFieldsV, eqS, tabs, TK.agg, reduceCtorEq, Array.toList, List.map_cons, List.map_nil, ↓reduceIte, List.length_map, Nat.reduceAdd, Nat.reduceLeDiff, Nat.reduceLT, Nat.reduceMul, Nat.reduceSub, Option.bind_some, Option.map_some, bndV, numV, eI, eU, e8, eB, AV.isCell, Int.reduceToNat, Int.reduceSub, Int.reduceAdd, Int.reduceNeg, B42_0])
  refine ⟨fun h6 => ⟨by omega, h6, fun r4 hr4 => ?_⟩, fun h6 => ?_⟩
  · have hlt : i < a.edges.length := by omega
    have nr : r ≠ r4 := fun e => by rw [e, hr4] at hG; cases hG
    have nr' : r4 ≠ r := Ne.symm nr
    have ra : edAt a.states a.edges i = false → AV.p (.bool false) = B (goodA a) ∧ Heap.le H (G.set r4 [I (a.edges.getD i default).src, I (a.edges.getD i default).lt, I (a.edges.getD i default).dst]) := fun h => ⟨by rw [gd, edsOk, range_all_false hlt h], Heap.le_trans hle (Heap.le_set hr4)⟩
    have e1 : 0 < (i : Int) → IntKind.i64.wrap ((i : Int) - 1) = i - 1 := fun _ => i64_id (by omega) (by omega)
    have e2 : ((i : Int) - 1).toNat = i - 1 := by omega
    have nx : edAt a.states a.edges i = true → (List.range (i + 1)).all (edAt a.states a.edges) = true := fun h => by rw [range_all_succ, ha, h]; rfl
    have hne : ¬ (edIn a.states (a.edges.getD i default) = true) → edAt a.states a.edges i = false := fun h => edAt_not fun hh => h hh.1
    rw [edIn_iff] at hne
    (try simp (maxSteps := 1000000) (disch := (first | assumption | (apply Ne.symm; assumption))) only [vw0, vw1, vw2, vw3, vw4, vu0, vu1, ↓condV_t, ↓condV_f, cap_nil, allocV, splice, partV, buildV, eqFieldsV, eqS, tabs, TK.agg, reduceCtorEq, Array.toList, List.map_cons, List.map_nil, ↓reduceIte, List.length_map, Nat.reduceAdd, Nat.reduceLeDiff, Nat.reduceLT, Nat.reduceMul, Nat.reduceSub, Option.bind_some, Option.map_some, bndV, numV, eI, eU, e8, eB, AV.isCell, Int.reduceToNat, Int.reduceSub, Int.reduceAdd, Int.reduceNeg, load_at hG])
    refine ⟨fun g => ra (hne (by omega)), fun g1 => ⟨fun g => ra (hne (by omega)), fun g2 => ⟨fun g => ra (hne (by omega)), fun g3 => ⟨fun g => ra (hne (by omega)), fun g4 => ⟨fun g => ra (hne (by omega)), fun g5 => ⟨fun g => ra (hne (by omega)), fun g6 => ⟨fun g7 => ?_, fun g7 => ?_⟩⟩⟩⟩⟩⟩⟩
    · rw [e1 g7, e2]
      refine ⟨by omega, by omega, ?_⟩
      refine Pu.use (compareEdges_spec (a.edges.getD (i - 1) default) (a.edges.getD i default)) ?_
      cases h8 : edLt (a.edges.getD (i - 1) default) (a.edges.getD i default)
      · have e3 : (if false = true then (-1 : Int) else if edLt (a.edges.getD i default) (a.edges.getD (i - 1) default) = true then 1 else 0) ≥ 0 := by
          rw [if_neg (by decide)]; split <;> decide
        (try simp (maxSteps := 1000000) (disch := (first | assumption | (apply Ne.symm; assumption))) only [vw0, vw1, vw2, vw3, vw4, vu0, vu1, ↓condV_t, ↓condV_f, cap_nil, allocV, splice, partV, buildV, eqFieldsV, eqS, tabs, TK.agg, reduceCtorEq, Array.toList, List.map_cons, List.map_nil, ↓reduceIte, List.length_map, Nat.reduceAdd, Nat.reduceLeDiff, Nat.reduceLT, Nat.reduceMul, Nat.reduceSub, Option.bind_some, Option.map_some, bndV, numV, eI, eU, e8, eB, AV.isCell, Int.reduceToNat, Int.reduceSub, Int.reduceAdd, Int.reduceNeg])
        refine ⟨fun _ => ra (edAt_not fun hh => ?_), fun h9 => absurd e3 (by simpa using h9)⟩
        rcases hh.2 with h | h
        · omega
        · rw [h8] at h; cases h
      · (try simp (maxSteps := 1000000) (disch := (first | assumption | (apply Ne.symm; assumption))) only [vw0, vw1, vw2, vw3, vw4, vu0, vu1, ↓condV_t, ↓condV_f, cap_nil, allocV, splice, partV, buildV, eqFieldsV, eqS, tabs, TK.agg, reduceCtorEq, Array.toList, List.map_cons, List.map_nil, ↓reduceIte, List.length_map, Nat.reduceAdd, Nat.reduceLeDiff, Nat.reduceLT, Nat.reduceMul, Nat.reduceSub, Option.bind_some, Option.map_some, bndV, numV, eI, eU, e8, eB, AV.isCell, Int.reduceToNat, Int.reduceSub, Int.reduceAdd, Int.reduceNeg])
        refine ⟨fun h => absurd h (by decide), fun _ => ⟨i + 1, ⟨by omega, nx (edAt_iff.2 ⟨edIn_iff.2 (by omega), .inr h8⟩)⟩, by omega, ?_, Heap.le_set hr4⟩⟩
        rw [wk_int, i64_id (by omega) (by omega)]; simp
    · refine ⟨i + 1, ⟨by omega, nx (edAt_iff.2 ⟨edIn_iff.2 (by omega), .inl (by omega)⟩)⟩, by omega, ?_, Heap.le_set hr4⟩
      rw [wk_int, i64_id (by omega) (by omega)]; simp
  · have : i = a.edges.length := by omega
    subst this
    exact ⟨by rw [gd, edsOk, ha], hle⟩

theorem GoodAuto_spec (a : Au) (hs : smAu a) : Pu Try.prog 35 [aAu a] (B (goodA a)) := by
  refine Pu.of fun H => ?_
  have gd := goodA_def a
  refine W35_ok ?_; simp (maxSteps := 1000000) (disch := (first | assumption | (apply Ne.symm; assumption))) only [W35, vw0, vw1, vw2, vw3, vw4, vu0, vu1, ↓condV_t, ↓condV_f, cap_nil, allocV, splice, partV, buildV, eqFieldsV, eqS, tabs, TK.agg, reduceCtorEq, Array.toList, List.map_cons, List.map_nil, ↓reduceIte, List.length_map, Nat.reduceAdd, Nat.reduceLeDiff, Nat.reduceLT, Nat.reduceMul, Nat.reduceSub, Option.bind_some, Option.map_some, bndV, numV, eI, eU, e8, eB, AV.isCell, Int.reduceToNat, Int.reduceSub, Int.reduceAdd, Int.reduceNeg]
  intro r hr
  have hle := Heap.le_set (b := [I a.states, Is a.first, Es a.edges, Ls a.goals]) hr
  have bad : goodA a = false → AV.p (.bool false) = B (goodA a) ∧ Heap.le H (H.set r [I a.states, Is a.first, Es a.edges, Ls a.goals]) := fun h => ⟨by rw [h], hle⟩
  refine Pu.use (l1In_spec a.states 1 96) ?_
  cases h1 : (decide (1 ≤ a.states) && decide (a.states ≤ 96))
  · (try simp (maxSteps := 1000000) (disch := (first | assumption | (apply Ne.symm; assumption))) only [vw0, vw1, vw2, vw3, vw4, vu0, vu1, ↓condV_t, ↓condV_f, cap_nil, allocV, splice, partV, buildV, eqFieldsV, eqS, tabs, TK.agg, reduceCtorEq, Array.toList, List.map_cons, List.map_nil, ↓reduceIte, List.length_map, Nat.reduceAdd, Nat.reduceLeDiff, Nat.reduceLT, Nat.reduceMul, Nat.reduceSub, Option.bind_some, Option.map_some, bndV, numV, eI, eU, e8, eB, AV.isCell, Int.reduceToNat, Int.reduceSub, Int.reduceAdd, Int.reduceNeg])
    exact bad (by rw [gd, h1]; rfl)
  rw [h1, Bool.true_and] at gd
  simp only [Bool.and_eq_true, decide_eq_true_eq] at h1
  (try simp (maxSteps := 1000000) (disch := (first | assumption | (apply Ne.symm; assumption))) only [vw0, vw1, vw2, vw3, vw4, vu0, vu1, ↓condV_t, ↓condV_f, cap_nil, allocV, splice, partV, buildV, eqFieldsV, eqS, tabs, TK.agg, reduceCtorEq, Array.toList, List.map_cons, List.map_nil, ↓reduceIte, List.length_map, Nat.reduceAdd, Nat.reduceLeDiff, Nat.reduceLT, Nat.reduceMul, Nat.reduceSub, Option.bind_some, Option.map_some, bndV, numV, eI, eU, e8, eB, AV.isCell, Int.reduceToNat, Int.reduceSub, Int.reduceAdd, Int.reduceNeg])
  refine Pu.use (l11Points_spec a.first a.states hs.1 h1) ?_
  cases h3 : rising a.first a.states
  · (try simp (maxSteps := 1000000) (disch := (first | assumption | (apply Ne.symm; assumption))) only [vw0, vw1, vw2, vw3, vw4, vu0, vu1, ↓condV_t, ↓condV_f, cap_nil, allocV, splice, partV, buildV, eqFieldsV, eqS, tabs, TK.agg, reduceCtorEq, Array.toList, List.map_cons, List.map_nil, ↓reduceIte, List.length_map, Nat.reduceAdd, Nat.reduceLeDiff, Nat.reduceLT, Nat.reduceMul, Nat.reduceSub, Option.bind_some, Option.map_some, bndV, numV, eI, eU, e8, eB, AV.isCell, Int.reduceToNat, Int.reduceSub, Int.reduceAdd, Int.reduceNeg])
    exact bad (by rw [gd, h3]; rfl)
  rw [h3, Bool.true_and] at gd
  (try simp (maxSteps := 1000000) (disch := (first | assumption | (apply Ne.symm; assumption))) only [vw0, vw1, vw2, vw3, vw4, vu0, vu1, ↓condV_t, ↓condV_f, cap_nil, allocV, splice, partV, buildV, eqFieldsV, eqS, tabs, TK.agg, reduceCtorEq, Array.toList, List.map_cons, List.map_nil, ↓reduceIte, List.length_map, Nat.reduceAdd, Nat.reduceLeDiff, Nat.reduceLT, Nat.reduceMul, Nat.reduceSub, Option.bind_some, Option.map_some, bndV, numV, eI, eU, e8, eB, AV.isCell, Int.reduceToNat, Int.reduceSub, Int.reduceAdd, Int.reduceNeg])
  refine ⟨fun h4 => bad (by rw [gd, decide_eq_false (by omega)]; rfl), fun h4 => ?_⟩
  rw [decide_eq_true (by omega : a.edges.length ≤ 2400), Bool.true_and] at gd
  refine Pu.use (l11Goals_spec a.goals a.states hs.2.2 h1) ?_
  cases h5 : goalsOk a.states a.goals
  · (try simp (maxSteps := 1000000) (disch := (first | assumption | (apply Ne.symm; assumption))) only [vw0, vw1, vw2, vw3, vw4, vu0, vu1, ↓condV_t, ↓condV_f, cap_nil, allocV, splice, partV, buildV, eqFieldsV, eqS, tabs, TK.agg, reduceCtorEq, Array.toList, List.map_cons, List.map_nil, ↓reduceIte, List.length_map, Nat.reduceAdd, Nat.reduceLeDiff, Nat.reduceLT, Nat.reduceMul, Nat.reduceSub, Option.bind_some, Option.map_some, bndV, numV, eI, eU, e8, eB, AV.isCell, Int.reduceToNat, Int.reduceSub, Int.reduceAdd, Int.reduceNeg])
    exact bad (by rw [gd, h5]; rfl)
  rw [h5, Bool.true_and] at gd
  (try simp (maxSteps := 1000000) (disch := (first | assumption | (apply Ne.symm; assumption))) only [vw0, vw1, vw2, vw3, vw4, vu0, vu1, ↓condV_t, ↓condV_f, cap_nil, allocV, splice, partV, buildV, eqFieldsV, eqS, tabs, TK.agg, reduceCtorEq, Array.toList, List.map_cons, List.map_nil, ↓reduceIte, List.length_map, Nat.reduceAdd, Nat.reduceLeDiff, Nat.reduceLT, Nat.reduceMul, Nat.reduceSub, Option.bind_some, Option.map_some, bndV, numV, eI, eU, e8, eB, AV.isCell, Int.reduceToNat, Int.reduceSub, Int.reduceAdd, Int.reduceNeg])
  have hG : (H.set r [I a.states, Is a.first, Es a.edges, Ls a.goals]) r = some [I a.states, Is a.first, Es a.edges, Ls a.goals] := Heap.set_same _ _ _
  generalize H.set r [I a.states, Is a.first, Es a.edges, Ls a.goals] = G at hle bad hG ⊢
  have e0 : IntKind.i64.wrap (a.states - 1) = a.states - 1 := i64_id (by omega) (by omega)
  refine L35_0_rule (0 : Nat) (fun i => I i) (fun _ => G) (fun i => i ≤ a.edges.length ∧ (List.range i).all (edAt a.states a.edges) = true) (fun i => a.edges.length - i) ⟨⟨by omega, rfl⟩, .refl _, Heap.le_refl _⟩ ?_
  rintro i ⟨hi, ha⟩
  (try simp (maxSteps := 1000000) (disch := (first | assumption | (apply Ne.symm; assumption))) only [vw0, vw1, vw2, vw3, vw4, vu0, vu1, ↓condV_t, ↓condV_f, cap_nil, allocV, splice, partV, buildV, eqFieldsV, eqS, tabs, TK.agg, reduceCtorEq, Array.toList, List.map_cons, List.map_nil, ↓reduceIte, List.length_map, Nat.reduceAdd, Nat.reduceLeDiff, Nat.reduceLT, Nat.reduceMul, Nat.reduceSub, Option.bind_some, Option.map_some, bndV, numV, eI, eU, e8, eB, AV.isCell, Int.reduceToNat, Int.reduceSub, Int.reduceAdd, Int.reduceNeg, B35_0])
  refine ⟨fun h6 => ⟨by omega, h6, fun r4 hr4 => ?_⟩, fun h6 => ?_⟩
  · have hlt : i < a.edges.length := by omega
    have nr : r ≠ r4 := fun e => by rw [e, hr4] at hG; cases hG
    have nr' : r4 ≠ r := Ne.symm nr
    have ra : edAt a.states a.edges i = false → AV.p (.bool false) = B (goodA a) ∧ Heap.le H (G.set r4 [I (a.edges.getD i default).src, I (a.edges.getD i default).lt, I (a.edges.getD i default).dst]) := fun h => ⟨by rw [gd, edsOk, range_all_false hlt h], Heap.le_trans hle (Heap.le_set hr4)⟩
    have e1 : 0 < (i : Int) → IntKind.i64.wrap ((i : Int) - 1) = i - 1 := fun _ => i64_id (by omega) (by omega)
    have e2 : ((i : Int) - 1).toNat = i - 1 := by omega
    have nx : edAt a.states a.edges i = true → (List.range (i + 1)).all (edAt a.states a.edges) = true := fun h => by rw [range_all_succ, ha, h]; rfl
    have hne : ¬ (edIn a.states (a.edges.getD i default) = true) → edAt a.states a.edges i = false := fun h => edAt_not fun hh => h hh.1
    rw [edIn_iff] at hne
    (try simp (maxSteps := 1000000) (disch := (first | assumption | (apply Ne.symm; assumption))) only [vw0, vw1, vw2, vw3, vw4, vu0, vu1, ↓condV_t, ↓condV_f, cap_nil, allocV, splice, partV, buildV, eqFieldsV, eqS, tabs, TK.agg, reduceCtorEq, Array.toList, List.map_cons, List.map_nil, ↓reduceIte, List.length_map, Nat.reduceAdd, Nat.reduceLeDiff, Nat.reduceLT, Nat.reduceMul, Nat.reduceSub, Option.bind_some, Option.map_some, bndV, numV, eI, eU, e8, eB, AV.isCell, Int.reduceToNat, Int.reduceSub, Int.reduceAdd, Int.reduceNeg, load_at hG, e0])
    refine Pu.use (l1In_spec (a.edges.getD i default).src 0 (a.states - 1)) ?_
    cases g1 : (decide (0 ≤ (a.edges.getD i default).src) && decide ((a.edges.getD i default).src ≤ a.states - 1))
    · simp only [Bool.and_eq_false_iff, decide_eq_false_iff_not] at g1
      (try simp (maxSteps := 1000000) (disch := (first | assumption | (apply Ne.symm; assumption))) only [vw0, vw1, vw2, vw3, vw4, vu0, vu1, ↓condV_t, ↓condV_f, cap_nil, allocV, splice, partV, buildV, eqFieldsV, eqS, tabs, TK.agg, reduceCtorEq, Array.toList, List.map_cons, List.map_nil, ↓reduceIte, List.length_map, Nat.reduceAdd, Nat.reduceLeDiff, Nat.reduceLT, Nat.reduceMul, Nat.reduceSub, Option.bind_some, Option.map_some, bndV, numV, eI, eU, e8, eB, AV.isCell, Int.reduceToNat, Int.reduceSub, Int.reduceAdd, Int.reduceNeg])
      exact ra (hne (by omega))
    simp only [Bool.and_eq_true, decide_eq_true_eq] at g1
    (try simp (maxSteps := 1000000) (disch := (first | assumption | (apply Ne.symm; assumption))) only [vw0, vw1, vw2, vw3, vw4, vu0, vu1, ↓condV_t, ↓condV_f, cap_nil, allocV, splice, partV, buildV, eqFieldsV, eqS, tabs, TK.agg, reduceCtorEq, Array.toList, List.map_cons, List.map_nil, ↓reduceIte, List.length_map, Nat.reduceAdd, Nat.reduceLeDiff, Nat.reduceLT, Nat.reduceMul, Nat.reduceSub, Option.bind_some, Option.map_some, bndV, numV, eI, eU, e8, eB, AV.isCell, Int.reduceToNat, Int.reduceSub, Int.reduceAdd, Int.reduceNeg])
    refine Pu.use (l1In_spec (a.edges.getD i default).lt 0 7) ?_
    cases g2 : (decide (0 ≤ (a.edges.getD i default).lt) && decide ((a.edges.getD i default).lt ≤ 7))
    · simp only [Bool.and_eq_false_iff, decide_eq_false_iff_not] at g2
      (try simp (maxSteps := 1000000) (disch := (first | assumption | (apply Ne.symm; assumption))) only [vw0, vw1, vw2, vw3, vw4, vu0, vu1, ↓condV_t, ↓condV_f, cap_nil, allocV, splice, partV, buildV, eqFieldsV, eqS, tabs, TK.agg, reduceCtorEq, Array.toList, List.map_cons, List.map_nil, ↓reduceIte, List.length_map, Nat.reduceAdd, Nat.reduceLeDiff, Nat.reduceLT, Nat.reduceMul, Nat.reduceSub, Option.bind_some, Option.map_some, bndV, numV, eI, eU, e8, eB, AV.isCell, Int.reduceToNat, Int.reduceSub, Int.reduceAdd, Int.reduceNeg])
      exact ra (hne (by omega))
    simp only [Bool.and_eq_true, decide_eq_true_eq] at g2
    (try simp (maxSteps := 1000000) (disch := (first | assumption | (apply Ne.symm; assumption))) only [vw0, vw1, vw2, vw3, vw4, vu0, vu1, ↓condV_t, ↓condV_f, cap_nil, allocV, splice, partV, buildV, eqFieldsV, eqS, tabs, TK.agg, reduceCtorEq, Array.toList, List.map_cons, List.map_nil, ↓reduceIte, List.length_map, Nat.reduceAdd, Nat.reduceLeDiff, Nat.reduceLT, Nat.reduceMul, Nat.reduceSub, Option.bind_some, Option.map_some, bndV, numV, eI, eU, e8, eB, AV.isCell, Int.reduceToNat, Int.reduceSub, Int.reduceAdd, Int.reduceNeg, load_at hG, e0])
    refine Pu.use (l1In_spec (a.edges.getD i default).dst 0 (a.states - 1)) ?_
    cases g3 : (decide (0 ≤ (a.edges.getD i default).dst) && decide ((a.edges.getD i default).dst ≤ a.states - 1))
    · simp only [Bool.and_eq_false_iff, decide_eq_false_iff_not] at g3
      (try simp (maxSteps := 1000000) (disch := (first | assumption | (apply Ne.symm; assumption))) only [vw0, vw1, vw2, vw3, vw4, vu0, vu1, ↓condV_t, ↓condV_f, cap_nil, allocV, splice, partV, buildV, eqFieldsV, eqS, tabs, TK.agg, reduceCtorEq, Array.toList, List.map_cons, List.map_nil, ↓reduceIte, List.length_map, Nat.reduceAdd, Nat.reduceLeDiff, Nat.reduceLT, Nat.reduceMul, Nat.reduceSub, Option.bind_some, Option.map_some, bndV, numV, eI, eU, e8, eB, AV.isCell, Int.reduceToNat, Int.reduceSub, Int.reduceAdd, Int.reduceNeg])
      exact ra (hne (by omega))
    simp only [Bool.and_eq_true, decide_eq_true_eq] at g3
    (try simp (maxSteps := 1000000) (disch := (first | assumption | (apply Ne.symm; assumption))) only [vw0, vw1, vw2, vw3, vw4, vu0, vu1, ↓condV_t, ↓condV_f, cap_nil, allocV, splice, partV, buildV, eqFieldsV, eqS, tabs, TK.agg, reduceCtorEq, Array.toList, List.map_cons, List.map_nil, ↓reduceIte, List.length_map, Nat.reduceAdd, Nat.reduceLeDiff, Nat.reduceLT, Nat.reduceMul, Nat.reduceSub, Option.bind_some, Option.map_some, bndV, numV, eI, eU, e8, eB, AV.isCell, Int.reduceToNat, Int.reduceSub, Int.reduceAdd, Int.reduceNeg, load_at hG])
    refine ⟨fun g7 => ?_, fun g7 => ?_⟩
    · rw [e1 g7, e2]
      refine ⟨by omega, by omega, ?_⟩
      refine Pu.use (l12Less_spec (a.edges.getD (i - 1) default) (a.edges.getD i default)) ?_
      cases h8 : edLt (a.edges.getD (i - 1) default) (a.edges.getD i default)
      · (try simp (maxSteps := 1000000) (disch := (first | assumption | (apply Ne.symm; assumption))) only [vw0, vw1, vw2, vw3, vw4, vu0, vu1, ↓condV_t, ↓condV_f, cap_nil, allocV, splice, partV, buildV, eqFieldsV, eqS, tabs, TK.agg, reduceCtorEq, Array.toList, List.map_cons, List.map_nil, ↓reduceIte, List.length_map, Nat.reduceAdd, Nat.reduceLeDiff, Nat.reduceLT, Nat.reduceMul, Nat.reduceSub, Option.bind_some, Option.map_some, bndV, numV, eI, eU, e8, eB, AV.isCell, Int.reduceToNat, Int.reduceSub, Int.reduceAdd, Int.reduceNeg])
        refine ra (edAt_not fun hh => ?_)
        rcases hh.2 with h | h
        · omega
        · rw [h8] at h; cases h
      · (try simp (maxSteps := 1000000) (disch := (first | assumption | (apply Ne.symm; assumption))) only [vw0, vw1, vw2, vw3, vw4, vu0, vu1, ↓condV_t, ↓condV_f, cap_nil, allocV, splice, partV, buildV, eqFieldsV, eqS, tabs, TK.agg, reduceCtorEq, Array.toList, List.map_cons, List.map_nil, ↓reduceIte, List.length_map, Nat.reduceAdd, Nat.reduceLeDiff, Nat.reduceLT, Nat.reduceMul, Nat.reduceSub, Option.bind_some, Option.map_some, bndV, numV, eI, eU, e8, eB, AV.isCell, Int.reduceToNat, Int.reduceSub, Int.reduceAdd, Int.reduceNeg])
        refine ⟨i + 1, ⟨by omega, nx (edAt_iff.2 ⟨edIn_iff.2 (by omega), .inr h8⟩)⟩, by omega, ?_, Heap.le_set hr4⟩
        rw [wk_int, i64_id (by omega) (by omega)]; simp
    · refine ⟨i + 1, ⟨by omega, nx (edAt_iff.2 ⟨edIn_iff.2 (by omega), .inl (by omega)⟩)⟩, by omega, ?_, Heap.le_set hr4⟩
      rw [wk_int, i64_id (by omega) (by omega)]; simp
  · have : i = a.edges.length := by omega
    subst this
    exact ⟨by rw [gd, edsOk, ha], hle⟩
end Go.Proofs.Ytfbaijpanbjmpaa
