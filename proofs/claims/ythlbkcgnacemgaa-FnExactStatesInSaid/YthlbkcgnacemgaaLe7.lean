/- Specs: programs, and classes of their states. -/
import Derived.Test.YthlbkcgnacemgaaLe6
namespace Go.Proofs.Ythlbkcgnacemgaa
open Go Go.Sep Go.Pt
set_option linter.unusedSimpArgs false
set_option linter.unusedVariables false
attribute [local irreducible] CallT

theorem GoodProgram1_at (p : Pg) (c : Cm) (r : Nat) {H : Heap} (hr : H r = some [I p.wide, I p.vars, Ns p.start, Cms p.cmds]) (hc : vCm c) : PuAt Try.prog 65 [aCm c, .ptr r 0] H (B (!goodCm p.wide p.vars c)) := by
  intro K hK
  refine CallT.fin ?_
  refine W65_ok ?_; simp (maxSteps := 1000000) (disch := (first | assumption | (apply Ne.symm; assumption))) only [W65, vw0, vw1, vw2, vw3, vw4, vu0, vu1, ↓condV_t, ↓condV_f, allocV, splice, partV, buildV, eqFieldsV, eqS, tabs, TK.agg, reduceCtorEq, Array.toList, List.map_cons, List.map_nil, ↓reduceIte, List.length_map, Nat.reduceAdd, Nat.reduceLeDiff, Nat.reduceLT, Nat.reduceMul, Nat.reduceSub, Option.bind_some, Option.map_some, bndV, numV, eI, eU, e8, eB, AV.isCell, Int.reduceToNat, Int.reduceSub, Int.reduceAdd, Int.reduceNeg]
  intro r2 hr2
  have n2 : r ≠ r2 := by rintro rfl; rw [hr] at hr2; cases hr2
  (try simp (maxSteps := 1000000) (disch := (first | assumption | (apply Ne.symm; assumption))) only [vw0, vw1, vw2, vw3, vw4, vu0, vu1, ↓condV_t, ↓condV_f, allocV, splice, partV, buildV, eqFieldsV, eqS, tabs, TK.agg, reduceCtorEq, Array.toList, List.map_cons, List.map_nil, ↓reduceIte, List.length_map, Nat.reduceAdd, Nat.reduceLeDiff, Nat.reduceLT, Nat.reduceMul, Nat.reduceSub, Option.bind_some, Option.map_some, bndV, numV, eI, eU, e8, eB, AV.isCell, Int.reduceToNat, Int.reduceSub, Int.reduceAdd, Int.reduceNeg, load_at hr])
  refine Pu.use (isCommand_spec p c hc) ?_
  (try simp (maxSteps := 1000000) (disch := (first | assumption | (apply Ne.symm; assumption))) only [vw0, vw1, vw2, vw3, vw4, vu0, vu1, ↓condV_t, ↓condV_f, allocV, splice, partV, buildV, eqFieldsV, eqS, tabs, TK.agg, reduceCtorEq, Array.toList, List.map_cons, List.map_nil, ↓reduceIte, List.length_map, Nat.reduceAdd, Nat.reduceLeDiff, Nat.reduceLT, Nat.reduceMul, Nat.reduceSub, Option.bind_some, Option.map_some, bndV, numV, eI, eU, e8, eB, AV.isCell, Int.reduceToNat, Int.reduceSub, Int.reduceAdd, Int.reduceNeg])
  exact fin_le (Heap.le_set hr2) hK

theorem goodP_f {p : Pg} (h : ¬ (kind p.wide p.vars p.start = 2 ∧ 1 ≤ p.cmds.length ∧ p.cmds.length ≤ 6)) : B false = B (goodP p) := by
  have : goodP p = false := by
    rw [Bool.eq_false_iff]; intro h2
    simp only [goodP, Bool.and_eq_true, decide_eq_true_eq] at h2
    exact h ⟨h2.1.1, h2.1.2⟩
  rw [this]
theorem goodP_e {p : Pg} (h : kind p.wide p.vars p.start = 2 ∧ 1 ≤ p.cmds.length ∧ p.cmds.length ≤ 6) : goodP p = p.cmds.all (goodCm p.wide p.vars) := by
  simp only [goodP, h.1, h.2.1, h.2.2, decide_true, Bool.and_self, Bool.true_and]

theorem GoodProgram_impl (p : Pg) (hp : vPg p) : Pu Try.prog 52 [aPg p] (B (goodP p)) := by
  refine Pu.of fun H => ?_
  refine W52_ok ?_; simp (maxSteps := 1000000) (disch := (first | assumption | (apply Ne.symm; assumption))) only [W52, vw0, vw1, vw2, vw3, vw4, vu0, vu1, ↓condV_t, ↓condV_f, allocV, splice, partV, buildV, eqFieldsV, eqS, tabs, TK.agg, reduceCtorEq, Array.toList, List.map_cons, List.map_nil, ↓reduceIte, List.length_map, Nat.reduceAdd, Nat.reduceLeDiff, Nat.reduceLT, Nat.reduceMul, Nat.reduceSub, Option.bind_some, Option.map_some, bndV, numV, eI, eU, e8, eB, AV.isCell, Int.reduceToNat, Int.reduceSub, Int.reduceAdd, Int.reduceNeg]
  intro r hr
  have hle : Heap.le H (H.set r [I p.wide, I p.vars, Ns p.start, Cms p.cmds]) := Heap.le_set hr
  have hcl := hp.2.1
  refine Pu.use (isWide_spec _) ?_
  cases hw : inB p.wide 1 64
  · (try simp (maxSteps := 1000000) (disch := (first | assumption | (apply Ne.symm; assumption))) only [vw0, vw1, vw2, vw3, vw4, vu0, vu1, ↓condV_t, ↓condV_f, allocV, splice, partV, buildV, eqFieldsV, eqS, tabs, TK.agg, reduceCtorEq, Array.toList, List.map_cons, List.map_nil, ↓reduceIte, List.length_map, Nat.reduceAdd, Nat.reduceLeDiff, Nat.reduceLT, Nat.reduceMul, Nat.reduceSub, Option.bind_some, Option.map_some, bndV, numV, eI, eU, e8, eB, AV.isCell, Int.reduceToNat, Int.reduceSub, Int.reduceAdd, Int.reduceNeg])
    exact ⟨goodP_f (fun h => by rw [inB_iff.2 (kind2_frame h.1).1] at hw; cases hw), hle⟩
  (try simp (maxSteps := 1000000) (disch := (first | assumption | (apply Ne.symm; assumption))) only [vw0, vw1, vw2, vw3, vw4, vu0, vu1, ↓condV_t, ↓condV_f, allocV, splice, partV, buildV, eqFieldsV, eqS, tabs, TK.agg, reduceCtorEq, Array.toList, List.map_cons, List.map_nil, ↓reduceIte, List.length_map, Nat.reduceAdd, Nat.reduceLeDiff, Nat.reduceLT, Nat.reduceMul, Nat.reduceSub, Option.bind_some, Option.map_some, bndV, numV, eI, eU, e8, eB, AV.isCell, Int.reduceToNat, Int.reduceSub, Int.reduceAdd, Int.reduceNeg])
  refine Pu.use (isVars_spec _) ?_
  cases hv : inB p.vars 1 4
  · (try simp (maxSteps := 1000000) (disch := (first | assumption | (apply Ne.symm; assumption))) only [vw0, vw1, vw2, vw3, vw4, vu0, vu1, ↓condV_t, ↓condV_f, allocV, splice, partV, buildV, eqFieldsV, eqS, tabs, TK.agg, reduceCtorEq, Array.toList, List.map_cons, List.map_nil, ↓reduceIte, List.length_map, Nat.reduceAdd, Nat.reduceLeDiff, Nat.reduceLT, Nat.reduceMul, Nat.reduceSub, Option.bind_some, Option.map_some, bndV, numV, eI, eU, e8, eB, AV.isCell, Int.reduceToNat, Int.reduceSub, Int.reduceAdd, Int.reduceNeg])
    exact ⟨goodP_f (fun h => by rw [inB_iff.2 (kind2_frame h.1).2] at hv; cases hv), hle⟩
  (try simp (maxSteps := 1000000) (disch := (first | assumption | (apply Ne.symm; assumption))) only [vw0, vw1, vw2, vw3, vw4, vu0, vu1, ↓condV_t, ↓condV_f, allocV, splice, partV, buildV, eqFieldsV, eqS, tabs, TK.agg, reduceCtorEq, Array.toList, List.map_cons, List.map_nil, ↓reduceIte, List.length_map, Nat.reduceAdd, Nat.reduceLeDiff, Nat.reduceLT, Nat.reduceMul, Nat.reduceSub, Option.bind_some, Option.map_some, bndV, numV, eI, eU, e8, eB, AV.isCell, Int.reduceToNat, Int.reduceSub, Int.reduceAdd, Int.reduceNeg])
  refine Pu.use (isCondition_spec p p.start hp.1) ?_
  (try simp (maxSteps := 1000000) (disch := (first | assumption | (apply Ne.symm; assumption))) only [vw0, vw1, vw2, vw3, vw4, vu0, vu1, ↓condV_t, ↓condV_f, allocV, splice, partV, buildV, eqFieldsV, eqS, tabs, TK.agg, reduceCtorEq, Array.toList, List.map_cons, List.map_nil, ↓reduceIte, List.length_map, Nat.reduceAdd, Nat.reduceLeDiff, Nat.reduceLT, Nat.reduceMul, Nat.reduceSub, Option.bind_some, Option.map_some, bndV, numV, eI, eU, e8, eB, AV.isCell, Int.reduceToNat, Int.reduceSub, Int.reduceAdd, Int.reduceNeg])
  refine ⟨fun h => ⟨goodP_f (fun hh => h hh.1), hle⟩, fun h => ⟨fun h1 => ⟨goodP_f (fun hh => by omega), hle⟩, fun h1 => ⟨fun h2 => ⟨goodP_f (fun hh => by omega), hle⟩, fun h2 => ?_⟩⟩⟩
  refine PuAt.use (ContainsFuncC_at p.cmds _ _ (fun c => !goodCm p.wide p.vars c) (by omega) fun c hm => GoodProgram1_at p c r (Heap.set_same _ _ _) (hp.2.2 c hm)) ?_
  (try simp (maxSteps := 1000000) (disch := (first | assumption | (apply Ne.symm; assumption))) only [vw0, vw1, vw2, vw3, vw4, vu0, vu1, ↓condV_t, ↓condV_f, allocV, splice, partV, buildV, eqFieldsV, eqS, tabs, TK.agg, reduceCtorEq, Array.toList, List.map_cons, List.map_nil, ↓reduceIte, List.length_map, Nat.reduceAdd, Nat.reduceLeDiff, Nat.reduceLT, Nat.reduceMul, Nat.reduceSub, Option.bind_some, Option.map_some, bndV, numV, eI, eU, e8, eB, AV.isCell, Int.reduceToNat, Int.reduceSub, Int.reduceAdd, Int.reduceNeg])
  refine ⟨?_, hle⟩
  rw [goodP_e ⟨h, by omega, by omega⟩, List.all_eq_not_any_not]

theorem GoodProgram_spec (p : Pg) (hp : vPg p) : Pu Try.prog 49 [aPg p] (B (goodP p)) := by
  refine Pu.of fun H => ?_
  refine W49_ok ?_; simp (maxSteps := 1000000) (disch := (first | assumption | (apply Ne.symm; assumption))) only [W49, vw0, vw1, vw2, vw3, vw4, vu0, vu1, ↓condV_t, ↓condV_f, allocV, splice, partV, buildV, eqFieldsV, eqS, tabs, TK.agg, reduceCtorEq, Array.toList, List.map_cons, List.map_nil, ↓reduceIte, List.length_map, Nat.reduceAdd, Nat.reduceLeDiff, Nat.reduceLT, Nat.reduceMul, Nat.reduceSub, Option.bind_some, Option.map_some, bndV, numV, eI, eU, e8, eB, AV.isCell, Int.reduceToNat, Int.reduceSub, Int.reduceAdd, Int.reduceNeg]
  intro r hr
  have hle : Heap.le H (H.set r [I p.wide, I p.vars, Ns p.start, Cms p.cmds]) := Heap.le_set hr
  have hcl := hp.2.1
  refine Pu.use (l7Asks_spec p p.start hp.1) ?_
  by_cases h : kind p.wide p.vars p.start = 2
  rotate_left
  · rw [decide_eq_false h]
    (try simp (maxSteps := 1000000) (disch := (first | assumption | (apply Ne.symm; assumption))) only [vw0, vw1, vw2, vw3, vw4, vu0, vu1, ↓condV_t, ↓condV_f, allocV, splice, partV, buildV, eqFieldsV, eqS, tabs, TK.agg, reduceCtorEq, Array.toList, List.map_cons, List.map_nil, ↓reduceIte, List.length_map, Nat.reduceAdd, Nat.reduceLeDiff, Nat.reduceLT, Nat.reduceMul, Nat.reduceSub, Option.bind_some, Option.map_some, bndV, numV, eI, eU, e8, eB, AV.isCell, Int.reduceToNat, Int.reduceSub, Int.reduceAdd, Int.reduceNeg])
    exact ⟨goodP_f fun hh => h hh.1, hle⟩
  rw [decide_eq_true h]
  (try simp (maxSteps := 1000000) (disch := (first | assumption | (apply Ne.symm; assumption))) only [vw0, vw1, vw2, vw3, vw4, vu0, vu1, ↓condV_t, ↓condV_f, allocV, splice, partV, buildV, eqFieldsV, eqS, tabs, TK.agg, reduceCtorEq, Array.toList, List.map_cons, List.map_nil, ↓reduceIte, List.length_map, Nat.reduceAdd, Nat.reduceLeDiff, Nat.reduceLT, Nat.reduceMul, Nat.reduceSub, Option.bind_some, Option.map_some, bndV, numV, eI, eU, e8, eB, AV.isCell, Int.reduceToNat, Int.reduceSub, Int.reduceAdd, Int.reduceNeg])
  refine Pu.use (l1In_B p.cmds.length 1 6) ?_
  cases h1 : inB p.cmds.length 1 6
  · (try simp (maxSteps := 1000000) (disch := (first | assumption | (apply Ne.symm; assumption))) only [vw0, vw1, vw2, vw3, vw4, vu0, vu1, ↓condV_t, ↓condV_f, allocV, splice, partV, buildV, eqFieldsV, eqS, tabs, TK.agg, reduceCtorEq, Array.toList, List.map_cons, List.map_nil, ↓reduceIte, List.length_map, Nat.reduceAdd, Nat.reduceLeDiff, Nat.reduceLT, Nat.reduceMul, Nat.reduceSub, Option.bind_some, Option.map_some, bndV, numV, eI, eU, e8, eB, AV.isCell, Int.reduceToNat, Int.reduceSub, Int.reduceAdd, Int.reduceNeg])
    exact ⟨goodP_f (fun hh => by rw [inB_iff.2 (by omega)] at h1; cases h1), hle⟩
  rw [inB_iff] at h1
  (try simp (maxSteps := 1000000) (disch := (first | assumption | (apply Ne.symm; assumption))) only [vw0, vw1, vw2, vw3, vw4, vu0, vu1, ↓condV_t, ↓condV_f, allocV, splice, partV, buildV, eqFieldsV, eqS, tabs, TK.agg, reduceCtorEq, Array.toList, List.map_cons, List.map_nil, ↓reduceIte, List.length_map, Nat.reduceAdd, Nat.reduceLeDiff, Nat.reduceLT, Nat.reduceMul, Nat.reduceSub, Option.bind_some, Option.map_some, bndV, numV, eI, eU, e8, eB, AV.isCell, Int.reduceToNat, Int.reduceSub, Int.reduceAdd, Int.reduceNeg])
  have hg : kind p.wide p.vars p.start = 2 ∧ 1 ≤ p.cmds.length ∧ p.cmds.length ≤ 6 := ⟨h, by omega, by omega⟩
  refine L49_0_rule (0 : Nat) (fun i => I i) (fun _ => H.set r [I p.wide, I p.vars, Ns p.start, Cms p.cmds]) (fun i => i ≤ p.cmds.length ∧ (p.cmds.take i).all (goodCm p.wide p.vars) = true) (fun i => p.cmds.length - i) ⟨⟨by omega, by simp⟩, .refl _, Heap.le_refl _⟩ ?_
  rintro i ⟨hi, ha⟩
  (try simp (maxSteps := 1000000) (disch := (first | assumption | (apply Ne.symm; assumption))) only [vw0, vw1, vw2, vw3, vw4, vu0, vu1, ↓condV_t, ↓condV_f, allocV, splice, partV, buildV, eqFieldsV, eqS, tabs, TK.agg, reduceCtorEq, Array.toList, List.map_cons, List.map_nil, ↓reduceIte, List.length_map, Nat.reduceAdd, Nat.reduceLeDiff, Nat.reduceLT, Nat.reduceMul, Nat.reduceSub, Option.bind_some, Option.map_some, bndV, numV, eI, eU, e8, eB, AV.isCell, Int.reduceToNat, Int.reduceSub, Int.reduceAdd, Int.reduceNeg, B49_0])
  refine ⟨fun h2 => ⟨by omega, h2, ?_⟩, fun h2 => ?_⟩
  · have hlt : i < p.cmds.length := by omega
    have hm : p.cmds.getD i default ∈ p.cmds := getD_all (p := fun x => x ∈ p.cmds) (fun _ h => h) hlt
    intro r4 n4 hr4
    have nn4 : r ≠ r4 := Ne.symm n4
    (try simp (maxSteps := 1000000) (disch := (first | assumption | (apply Ne.symm; assumption))) only [vw0, vw1, vw2, vw3, vw4, vu0, vu1, ↓condV_t, ↓condV_f, allocV, splice, partV, buildV, eqFieldsV, eqS, tabs, TK.agg, reduceCtorEq, Array.toList, List.map_cons, List.map_nil, ↓reduceIte, List.length_map, Nat.reduceAdd, Nat.reduceLeDiff, Nat.reduceLT, Nat.reduceMul, Nat.reduceSub, Option.bind_some, Option.map_some, bndV, numV, eI, eU, e8, eB, AV.isCell, Int.reduceToNat, Int.reduceSub, Int.reduceAdd, Int.reduceNeg])
    refine Pu.use (l7Command_spec p _ (hp.2.2 _ hm)) ?_
    cases hc : goodCm p.wide p.vars (p.cmds.getD i default)
    · (try simp (maxSteps := 1000000) (disch := (first | assumption | (apply Ne.symm; assumption))) only [vw0, vw1, vw2, vw3, vw4, vu0, vu1, ↓condV_t, ↓condV_f, allocV, splice, partV, buildV, eqFieldsV, eqS, tabs, TK.agg, reduceCtorEq, Array.toList, List.map_cons, List.map_nil, ↓reduceIte, List.length_map, Nat.reduceAdd, Nat.reduceLeDiff, Nat.reduceLT, Nat.reduceMul, Nat.reduceSub, Option.bind_some, Option.map_some, bndV, numV, eI, eU, e8, eB, AV.isCell, Int.reduceToNat, Int.reduceSub, Int.reduceAdd, Int.reduceNeg])
      refine ⟨?_, Heap.le_setN hle hr4⟩
      have : (p.cmds.all (goodCm p.wide p.vars)) = false := by rw [List.all_eq_false]; exact ⟨_, hm, by rw [hc]; simp⟩
      rw [goodP_e hg, this]
    · (try simp (maxSteps := 1000000) (disch := (first | assumption | (apply Ne.symm; assumption))) only [vw0, vw1, vw2, vw3, vw4, vu0, vu1, ↓condV_t, ↓condV_f, allocV, splice, partV, buildV, eqFieldsV, eqS, tabs, TK.agg, reduceCtorEq, Array.toList, List.map_cons, List.map_nil, ↓reduceIte, List.length_map, Nat.reduceAdd, Nat.reduceLeDiff, Nat.reduceLT, Nat.reduceMul, Nat.reduceSub, Option.bind_some, Option.map_some, bndV, numV, eI, eU, e8, eB, AV.isCell, Int.reduceToNat, Int.reduceSub, Int.reduceAdd, Int.reduceNeg])
      refine ⟨i + 1, ⟨by omega, ?_⟩, by omega, ?_, Heap.le_set (by simp [Heap.set_none, n4, hr4])⟩
      · rw [take_all_succ hlt, ha, ← getD_lt (d := default) hlt, hc]; rfl
      · rw [wk_int, i64_id (by omega) (by omega)]; simp
  · have : i = p.cmds.length := by omega
    subst this
    rw [List.take_length] at ha
    exact ⟨by rw [goodP_e hg, ha], hle⟩

theorem isSmall_spec (p : Pg) (hp : vPg p) : Pu Try.prog 35 [aPg p] (B (smallP p)) := by
  refine Pu.of fun H => ?_
  refine W35_ok ?_; simp (maxSteps := 1000000) (disch := (first | assumption | (apply Ne.symm; assumption))) only [W35, vw0, vw1, vw2, vw3, vw4, vu0, vu1, ↓condV_t, ↓condV_f, allocV, splice, partV, buildV, eqFieldsV, eqS, tabs, TK.agg, reduceCtorEq, Array.toList, List.map_cons, List.map_nil, ↓reduceIte, List.length_map, Nat.reduceAdd, Nat.reduceLeDiff, Nat.reduceLT, Nat.reduceMul, Nat.reduceSub, Option.bind_some, Option.map_some, bndV, numV, eI, eU, e8, eB, AV.isCell, Int.reduceToNat, Int.reduceSub, Int.reduceAdd, Int.reduceNeg]
  intro r hr
  refine Pu.use (GoodProgram_impl p hp) ?_
  cases h : goodP p
  · (try simp (maxSteps := 1000000) (disch := (first | assumption | (apply Ne.symm; assumption))) only [vw0, vw1, vw2, vw3, vw4, vu0, vu1, ↓condV_t, ↓condV_f, allocV, splice, partV, buildV, eqFieldsV, eqS, tabs, TK.agg, reduceCtorEq, Array.toList, List.map_cons, List.map_nil, ↓reduceIte, List.length_map, Nat.reduceAdd, Nat.reduceLeDiff, Nat.reduceLT, Nat.reduceMul, Nat.reduceSub, Option.bind_some, Option.map_some, bndV, numV, eI, eU, e8, eB, AV.isCell, Int.reduceToNat, Int.reduceSub, Int.reduceAdd, Int.reduceNeg])
    exact ⟨by simp only [smallP, h, Bool.false_and], Heap.le_set hr⟩
  · have hr2 := goodP_rng h
    have := mul_rng hr2.1 hr2.2
    have e : IntKind.i64.wrap (p.wide * p.vars) = p.wide * p.vars := i64_id (by omega) (by omega)
    (try simp (maxSteps := 1000000) (disch := (first | assumption | (apply Ne.symm; assumption))) only [vw0, vw1, vw2, vw3, vw4, vu0, vu1, ↓condV_t, ↓condV_f, allocV, splice, partV, buildV, eqFieldsV, eqS, tabs, TK.agg, reduceCtorEq, Array.toList, List.map_cons, List.map_nil, ↓reduceIte, List.length_map, Nat.reduceAdd, Nat.reduceLeDiff, Nat.reduceLT, Nat.reduceMul, Nat.reduceSub, Option.bind_some, Option.map_some, bndV, numV, eI, eU, e8, eB, AV.isCell, Int.reduceToNat, Int.reduceSub, Int.reduceAdd, Int.reduceNeg, e])
    exact ⟨by simp only [smallP, h, Bool.true_and], Heap.le_set hr⟩
theorem l7Small_spec (p : Pg) (hp : vPg p) : Pu Try.prog 29 [aPg p] (B (smallP p)) := by
  refine Pu.of fun H => ?_
  refine W29_ok ?_; simp (maxSteps := 1000000) (disch := (first | assumption | (apply Ne.symm; assumption))) only [W29, vw0, vw1, vw2, vw3, vw4, vu0, vu1, ↓condV_t, ↓condV_f, allocV, splice, partV, buildV, eqFieldsV, eqS, tabs, TK.agg, reduceCtorEq, Array.toList, List.map_cons, List.map_nil, ↓reduceIte, List.length_map, Nat.reduceAdd, Nat.reduceLeDiff, Nat.reduceLT, Nat.reduceMul, Nat.reduceSub, Option.bind_some, Option.map_some, bndV, numV, eI, eU, e8, eB, AV.isCell, Int.reduceToNat, Int.reduceSub, Int.reduceAdd, Int.reduceNeg]
  intro r hr
  refine Pu.use (GoodProgram_spec p hp) ?_
  cases h : goodP p
  · (try simp (maxSteps := 1000000) (disch := (first | assumption | (apply Ne.symm; assumption))) only [vw0, vw1, vw2, vw3, vw4, vu0, vu1, ↓condV_t, ↓condV_f, allocV, splice, partV, buildV, eqFieldsV, eqS, tabs, TK.agg, reduceCtorEq, Array.toList, List.map_cons, List.map_nil, ↓reduceIte, List.length_map, Nat.reduceAdd, Nat.reduceLeDiff, Nat.reduceLT, Nat.reduceMul, Nat.reduceSub, Option.bind_some, Option.map_some, bndV, numV, eI, eU, e8, eB, AV.isCell, Int.reduceToNat, Int.reduceSub, Int.reduceAdd, Int.reduceNeg])
    exact ⟨by simp only [smallP, h, Bool.false_and], Heap.le_set hr⟩
  · have hr2 := goodP_rng h
    have := mul_rng hr2.1 hr2.2
    have e : IntKind.i64.wrap (p.wide * p.vars) = p.wide * p.vars := i64_id (by omega) (by omega)
    (try simp (maxSteps := 1000000) (disch := (first | assumption | (apply Ne.symm; assumption))) only [vw0, vw1, vw2, vw3, vw4, vu0, vu1, ↓condV_t, ↓condV_f, allocV, splice, partV, buildV, eqFieldsV, eqS, tabs, TK.agg, reduceCtorEq, Array.toList, List.map_cons, List.map_nil, ↓reduceIte, List.length_map, Nat.reduceAdd, Nat.reduceLeDiff, Nat.reduceLT, Nat.reduceMul, Nat.reduceSub, Option.bind_some, Option.map_some, bndV, numV, eI, eU, e8, eB, AV.isCell, Int.reduceToNat, Int.reduceSub, Int.reduceAdd, Int.reduceNeg, e])
    exact ⟨by simp only [smallP, h, Bool.true_and], Heap.le_set hr⟩

theorem small_rng {p : Pg} (h : smallP p = true) : goodP p = true ∧ 1 ≤ p.wide * p.vars ∧ p.wide * p.vars ≤ 5 := by
  simp only [smallP, Bool.and_eq_true, decide_eq_true_eq] at h
  have hr := goodP_rng h.1
  exact ⟨h.1, (mul_rng hr.1 hr.2).1, h.2⟩
theorem pow_rng {n : Nat} (h : n ≤ 5) : (1 : Int) ≤ 2 ^ n ∧ (2 : Int) ^ n ≤ 32 := by
  obtain rfl | rfl | rfl | rfl | rfl | rfl : n = 0 ∨ n = 1 ∨ n = 2 ∨ n = 3 ∨ n = 4 ∨ n = 5 := by omega
  all_goals decide
theorem states_rng {p : Pg} (h : smallP p = true) : 1 ≤ statesP p ∧ statesP p ≤ 32 := by
  have := small_rng h
  exact pow_rng (by omega)
theorem states_spec (p : Pg) (h : smallP p = true) : Pu Try.prog 37 [aPg p] (I (statesP p)) := by
  refine Pu.of fun H => ?_
  have hs := small_rng h
  have e : IntKind.i64.wrap (p.wide * p.vars) = p.wide * p.vars := i64_id (by omega) (by omega)
  refine W37_ok ?_; simp (maxSteps := 1000000) (disch := (first | assumption | (apply Ne.symm; assumption))) only [W37, vw0, vw1, vw2, vw3, vw4, vu0, vu1, ↓condV_t, ↓condV_f, allocV, splice, partV, buildV, eqFieldsV, eqS, tabs, TK.agg, reduceCtorEq, Array.toList, List.map_cons, List.map_nil, ↓reduceIte, List.length_map, Nat.reduceAdd, Nat.reduceLeDiff, Nat.reduceLT, Nat.reduceMul, Nat.reduceSub, Option.bind_some, Option.map_some, bndV, numV, eI, eU, e8, eB, AV.isCell, Int.reduceToNat, Int.reduceSub, Int.reduceAdd, Int.reduceNeg, e]
  intro r hr
  refine ⟨by omega, ?_, Heap.le_set hr⟩
  have e2 : min (p.wide * p.vars).toNat IntKind.i64.bits = (p.wide * p.vars).toNat := by
    have : IntKind.i64.bits = 64 := rfl
    omega
  have := states_rng h
  unfold statesP at *
  rw [e2, Int.one_mul, i64_id (by omega) (by omega)]
theorem l7Many_spec (p : Pg) (h : smallP p = true) : Pu Try.prog 30 [aPg p] (I (statesP p)) := by
  refine Pu.of fun H => ?_
  have hs := small_rng h
  have e : IntKind.i64.wrap (p.wide * p.vars) = p.wide * p.vars := i64_id (by omega) (by omega)
  have eu : IntKind.u64.wrap (p.wide * p.vars) = p.wide * p.vars := by rw [IntKind.wrap_u64]; omega
  refine W30_ok ?_; simp (maxSteps := 1000000) (disch := (first | assumption | (apply Ne.symm; assumption))) only [W30, vw0, vw1, vw2, vw3, vw4, vu0, vu1, ↓condV_t, ↓condV_f, allocV, splice, partV, buildV, eqFieldsV, eqS, tabs, TK.agg, reduceCtorEq, Array.toList, List.map_cons, List.map_nil, ↓reduceIte, List.length_map, Nat.reduceAdd, Nat.reduceLeDiff, Nat.reduceLT, Nat.reduceMul, Nat.reduceSub, Option.bind_some, Option.map_some, bndV, numV, eI, eU, e8, eB, AV.isCell, Int.reduceToNat, Int.reduceSub, Int.reduceAdd, Int.reduceNeg, e, eu]
  intro r hr
  refine ⟨by omega, ?_, Heap.le_set hr⟩
  have e2 : min (p.wide * p.vars).toNat IntKind.i64.bits = (p.wide * p.vars).toNat := by
    have : IntKind.i64.bits = 64 := rfl
    omega
  have := states_rng h
  unfold statesP at *
  rw [e2, Int.one_mul, i64_id (by omega) (by omega)]

/-! ### Classes -/
theorem isSight_spec (of : List Int) (n : Int) (hl : of.length ≤ 1048576) : Pu Try.prog 36 [aS of, I n] (B ((runS 0 of).isSome && decide ((of.length : Int) = n))) := by
  refine Pu.of fun H => ?_
  refine W36_ok ?_; simp (maxSteps := 1000000) (disch := (first | assumption | (apply Ne.symm; assumption))) only [W36, vw0, vw1, vw2, vw3, vw4, vu0, vu1, ↓condV_t, ↓condV_f, allocV, splice, partV, buildV, eqFieldsV, eqS, tabs, TK.agg, reduceCtorEq, Array.toList, List.map_cons, List.map_nil, ↓reduceIte, List.length_map, Nat.reduceAdd, Nat.reduceLeDiff, Nat.reduceLT, Nat.reduceMul, Nat.reduceSub, Option.bind_some, Option.map_some, bndV, numV, eI, eU, e8, eB, AV.isCell, Int.reduceToNat, Int.reduceSub, Int.reduceAdd, Int.reduceNeg]
  intro r hr
  have hle : Heap.le H (H.set r [Is of]) := Heap.le_set hr
  refine L36_0_rule ((0 : Nat), (0 : Int)) (fun s => I s.2) (fun s => I s.1) (fun _ => H.set r [Is of]) (fun s => s.1 ≤ of.length ∧ runS 0 (of.take s.1) = some s.2) (fun s => of.length - s.1) ⟨⟨by simp, by simp [runS]⟩, .refl _, .refl _, Heap.le_refl _⟩ ?_
  rintro ⟨i, k⟩ ⟨hi, hrun⟩
  dsimp only at hi hrun
  have hk := runS_rng _ _ _ (Int.le_refl 0) hrun
  have hkl : (of.take i).length ≤ 1048576 := by rw [List.length_take]; omega
  (try simp (maxSteps := 1000000) (disch := (first | assumption | (apply Ne.symm; assumption))) only [vw0, vw1, vw2, vw3, vw4, vu0, vu1, ↓condV_t, ↓condV_f, allocV, splice, partV, buildV, eqFieldsV, eqS, tabs, TK.agg, reduceCtorEq, Array.toList, List.map_cons, List.map_nil, ↓reduceIte, List.length_map, Nat.reduceAdd, Nat.reduceLeDiff, Nat.reduceLT, Nat.reduceMul, Nat.reduceSub, Option.bind_some, Option.map_some, bndV, numV, eI, eU, e8, eB, AV.isCell, Int.reduceToNat, Int.reduceSub, Int.reduceAdd, Int.reduceNeg, B36_0])
  refine ⟨fun h => ⟨by omega, h, ?_⟩, fun h => ?_⟩
  · have hlt : i < of.length := by omega
    have hbad : (of.getD i default < 0 ∨ k < of.getD i default) → B false = B ((runS 0 of).isSome && decide ((of.length : Int) = n)) := fun h => by rw [runS_none hlt hrun h]; rfl
    have hsucc : ¬ (of.getD i default < 0 ∨ k < of.getD i default) → runS 0 (of.take (i + 1)) = some (if of.getD i default = k then k + 1 else k) := fun h => by
      rw [take_succ_snoc hlt, runS_snoc, hrun]; simp only [Option.bind_some, if_neg h]
    refine ⟨fun h1 => ⟨hbad (.inl h1), hle⟩, fun h1 => ⟨fun h2 => ⟨hbad (.inr h2), hle⟩, fun h2 => ⟨fun h3 => ?_, fun h3 => ?_⟩⟩⟩
    · refine ⟨(i + 1, k + 1), ⟨by simp only; omega, by rw [hsucc (by omega), if_pos h3]⟩, by simp only; omega, ?_, ?_⟩
      · rw [wk_int, i64_id (by omega) (by omega)]
      · rw [wk_int, i64_id (by omega) (by omega)]; simp
    · refine ⟨(i + 1, k), ⟨by simp only; omega, by rw [hsucc (by omega), if_neg h3]⟩, by simp only; omega, .refl _, ?_⟩
      rw [wk_int, i64_id (by omega) (by omega)]; simp
  · have : i = of.length := by omega
    subst this
    rw [List.take_length] at hrun
    exact ⟨by rw [hrun]; simp, hle⟩

theorem goodSt_f {p : Pg} {of : List Int} (h : smallP p = false) : goodSt p of = false := by simp only [goodSt, h, Bool.false_and]

theorem GoodSight_impl (p : Pg) (of : List Int) (hp : vPg p) (hl : of.length ≤ 1048576) : Pu Try.prog 12 [aPg p, aS of] (B (goodSt p of)) := by
  refine Pu.of fun H => ?_
  refine W12_ok ?_; simp (maxSteps := 1000000) (disch := (first | assumption | (apply Ne.symm; assumption))) only [W12, vw0, vw1, vw2, vw3, vw4, vu0, vu1, ↓condV_t, ↓condV_f, allocV, splice, partV, buildV, eqFieldsV, eqS, tabs, TK.agg, reduceCtorEq, Array.toList, List.map_cons, List.map_nil, ↓reduceIte, List.length_map, Nat.reduceAdd, Nat.reduceLeDiff, Nat.reduceLT, Nat.reduceMul, Nat.reduceSub, Option.bind_some, Option.map_some, bndV, numV, eI, eU, e8, eB, AV.isCell, Int.reduceToNat, Int.reduceSub, Int.reduceAdd, Int.reduceNeg]
  intro r hr r3 n3 hr3
  have nn3 : r ≠ r3 := Ne.symm n3
  have hle := Heap.le_setN (b := [Is of]) (Heap.le_set (b := [I p.wide, I p.vars, Ns p.start, Cms p.cmds]) hr) hr3
  (try simp (maxSteps := 1000000) (disch := (first | assumption | (apply Ne.symm; assumption))) only [vw0, vw1, vw2, vw3, vw4, vu0, vu1, ↓condV_t, ↓condV_f, allocV, splice, partV, buildV, eqFieldsV, eqS, tabs, TK.agg, reduceCtorEq, Array.toList, List.map_cons, List.map_nil, ↓reduceIte, List.length_map, Nat.reduceAdd, Nat.reduceLeDiff, Nat.reduceLT, Nat.reduceMul, Nat.reduceSub, Option.bind_some, Option.map_some, bndV, numV, eI, eU, e8, eB, AV.isCell, Int.reduceToNat, Int.reduceSub, Int.reduceAdd, Int.reduceNeg])
  refine Pu.use (isSmall_spec p hp) ?_
  cases h : smallP p
  · (try simp (maxSteps := 1000000) (disch := (first | assumption | (apply Ne.symm; assumption))) only [vw0, vw1, vw2, vw3, vw4, vu0, vu1, ↓condV_t, ↓condV_f, allocV, splice, partV, buildV, eqFieldsV, eqS, tabs, TK.agg, reduceCtorEq, Array.toList, List.map_cons, List.map_nil, ↓reduceIte, List.length_map, Nat.reduceAdd, Nat.reduceLeDiff, Nat.reduceLT, Nat.reduceMul, Nat.reduceSub, Option.bind_some, Option.map_some, bndV, numV, eI, eU, e8, eB, AV.isCell, Int.reduceToNat, Int.reduceSub, Int.reduceAdd, Int.reduceNeg])
    exact ⟨by rw [goodSt_f h], hle⟩
  · (try simp (maxSteps := 1000000) (disch := (first | assumption | (apply Ne.symm; assumption))) only [vw0, vw1, vw2, vw3, vw4, vu0, vu1, ↓condV_t, ↓condV_f, allocV, splice, partV, buildV, eqFieldsV, eqS, tabs, TK.agg, reduceCtorEq, Array.toList, List.map_cons, List.map_nil, ↓reduceIte, List.length_map, Nat.reduceAdd, Nat.reduceLeDiff, Nat.reduceLT, Nat.reduceMul, Nat.reduceSub, Option.bind_some, Option.map_some, bndV, numV, eI, eU, e8, eB, AV.isCell, Int.reduceToNat, Int.reduceSub, Int.reduceAdd, Int.reduceNeg])
    refine Pu.use (states_spec p h) ?_
    (try simp (maxSteps := 1000000) (disch := (first | assumption | (apply Ne.symm; assumption))) only [vw0, vw1, vw2, vw3, vw4, vu0, vu1, ↓condV_t, ↓condV_f, allocV, splice, partV, buildV, eqFieldsV, eqS, tabs, TK.agg, reduceCtorEq, Array.toList, List.map_cons, List.map_nil, ↓reduceIte, List.length_map, Nat.reduceAdd, Nat.reduceLeDiff, Nat.reduceLT, Nat.reduceMul, Nat.reduceSub, Option.bind_some, Option.map_some, bndV, numV, eI, eU, e8, eB, AV.isCell, Int.reduceToNat, Int.reduceSub, Int.reduceAdd, Int.reduceNeg])
    refine Pu.use (isSight_spec of _ hl) ⟨?_, hle⟩
    simp only [goodSt, h, Bool.true_and, Bool.and_comm]

theorem GoodSight_spec (p : Pg) (of : List Int) (hp : vPg p) (hl : of.length ≤ 1048576) : Pu Try.prog 9 [aPg p, aS of] (B (goodSt p of)) := by
  refine Pu.of fun H => ?_
  refine W9_ok ?_; simp (maxSteps := 1000000) (disch := (first | assumption | (apply Ne.symm; assumption))) only [W9, vw0, vw1, vw2, vw3, vw4, vu0, vu1, ↓condV_t, ↓condV_f, allocV, splice, partV, buildV, eqFieldsV, eqS, tabs, TK.agg, reduceCtorEq, Array.toList, List.map_cons, List.map_nil, ↓reduceIte, List.length_map, Nat.reduceAdd, Nat.reduceLeDiff, Nat.reduceLT, Nat.reduceMul, Nat.reduceSub, Option.bind_some, Option.map_some, bndV, numV, eI, eU, e8, eB, AV.isCell, Int.reduceToNat, Int.reduceSub, Int.reduceAdd, Int.reduceNeg]
  intro r hr r3 n3 hr3
  have nn3 : r ≠ r3 := Ne.symm n3
  have hle := Heap.le_setN (b := [Is of]) (Heap.le_set (b := [I p.wide, I p.vars, Ns p.start, Cms p.cmds]) hr) hr3
  (try simp (maxSteps := 1000000) (disch := (first | assumption | (apply Ne.symm; assumption))) only [vw0, vw1, vw2, vw3, vw4, vu0, vu1, ↓condV_t, ↓condV_f, allocV, splice, partV, buildV, eqFieldsV, eqS, tabs, TK.agg, reduceCtorEq, Array.toList, List.map_cons, List.map_nil, ↓reduceIte, List.length_map, Nat.reduceAdd, Nat.reduceLeDiff, Nat.reduceLT, Nat.reduceMul, Nat.reduceSub, Option.bind_some, Option.map_some, bndV, numV, eI, eU, e8, eB, AV.isCell, Int.reduceToNat, Int.reduceSub, Int.reduceAdd, Int.reduceNeg])
  refine Pu.use (l7Small_spec p hp) ?_
  cases h : smallP p
  · (try simp (maxSteps := 1000000) (disch := (first | assumption | (apply Ne.symm; assumption))) only [vw0, vw1, vw2, vw3, vw4, vu0, vu1, ↓condV_t, ↓condV_f, allocV, splice, partV, buildV, eqFieldsV, eqS, tabs, TK.agg, reduceCtorEq, Array.toList, List.map_cons, List.map_nil, ↓reduceIte, List.length_map, Nat.reduceAdd, Nat.reduceLeDiff, Nat.reduceLT, Nat.reduceMul, Nat.reduceSub, Option.bind_some, Option.map_some, bndV, numV, eI, eU, e8, eB, AV.isCell, Int.reduceToNat, Int.reduceSub, Int.reduceAdd, Int.reduceNeg])
    exact ⟨by rw [goodSt_f h], hle⟩
  (try simp (maxSteps := 1000000) (disch := (first | assumption | (apply Ne.symm; assumption))) only [vw0, vw1, vw2, vw3, vw4, vu0, vu1, ↓condV_t, ↓condV_f, allocV, splice, partV, buildV, eqFieldsV, eqS, tabs, TK.agg, reduceCtorEq, Array.toList, List.map_cons, List.map_nil, ↓reduceIte, List.length_map, Nat.reduceAdd, Nat.reduceLeDiff, Nat.reduceLT, Nat.reduceMul, Nat.reduceSub, Option.bind_some, Option.map_some, bndV, numV, eI, eU, e8, eB, AV.isCell, Int.reduceToNat, Int.reduceSub, Int.reduceAdd, Int.reduceNeg])
  refine Pu.use (l7Many_spec p h) ?_
  (try simp (maxSteps := 1000000) (disch := (first | assumption | (apply Ne.symm; assumption))) only [vw0, vw1, vw2, vw3, vw4, vu0, vu1, ↓condV_t, ↓condV_f, allocV, splice, partV, buildV, eqFieldsV, eqS, tabs, TK.agg, reduceCtorEq, Array.toList, List.map_cons, List.map_nil, ↓reduceIte, List.length_map, Nat.reduceAdd, Nat.reduceLeDiff, Nat.reduceLT, Nat.reduceMul, Nat.reduceSub, Option.bind_some, Option.map_some, bndV, numV, eI, eU, e8, eB, AV.isCell, Int.reduceToNat, Int.reduceSub, Int.reduceAdd, Int.reduceNeg])
  refine ⟨fun h2 => ⟨?_, hle⟩, fun h2 => ?_⟩
  · have : ¬ (of.length : Int) = statesP p := by omega
    simp only [goodSt, this, decide_false, Bool.false_and, Bool.and_false]
  have hlen : (of.length : Int) = statesP p := by omega
  have hgs : goodSt p of = (runS 0 of).isSome := by simp only [goodSt, h, hlen, decide_true, Bool.true_and]
  rw [hgs]
  refine L9_0_rule ((0 : Nat), (0 : Int)) (fun s => I s.2) (fun s => I s.1) (fun _ => (H.set r [I p.wide, I p.vars, Ns p.start, Cms p.cmds]).set r3 [Is of]) (fun s => s.1 ≤ of.length ∧ runS 0 (of.take s.1) = some s.2) (fun s => of.length - s.1) ⟨⟨by simp, by simp [runS]⟩, .refl _, .refl _, Heap.le_refl _⟩ ?_
  rintro ⟨i, k⟩ ⟨hi, hrun⟩
  dsimp only at hi hrun
  have hk := runS_rng _ _ _ (Int.le_refl 0) hrun
  have hkl : (of.take i).length ≤ 1048576 := by rw [List.length_take]; omega
  (try simp (maxSteps := 1000000) (disch := (first | assumption | (apply Ne.symm; assumption))) only [vw0, vw1, vw2, vw3, vw4, vu0, vu1, ↓condV_t, ↓condV_f, allocV, splice, partV, buildV, eqFieldsV, eqS, tabs, TK.agg, reduceCtorEq, Array.toList, List.map_cons, List.map_nil, ↓reduceIte, List.length_map, Nat.reduceAdd, Nat.reduceLeDiff, Nat.reduceLT, Nat.reduceMul, Nat.reduceSub, Option.bind_some, Option.map_some, bndV, numV, eI, eU, e8, eB, AV.isCell, Int.reduceToNat, Int.reduceSub, Int.reduceAdd, Int.reduceNeg, B9_0])
  refine ⟨fun h => ⟨by omega, h, ?_⟩, fun h => ?_⟩
  · have hlt : i < of.length := by omega
    have hbad : (of.getD i default < 0 ∨ k < of.getD i default) → B false = B ((runS 0 of).isSome) := fun h => by rw [runS_none hlt hrun h]; rfl
    have hsucc : ¬ (of.getD i default < 0 ∨ k < of.getD i default) → runS 0 (of.take (i + 1)) = some (if of.getD i default = k then k + 1 else k) := fun h => by
      rw [take_succ_snoc hlt, runS_snoc, hrun]; simp only [Option.bind_some, if_neg h]
    refine Pu.use (l1In_B ..) ?_
    cases hin : inB (of.getD i default) 0 k
    · (try simp (maxSteps := 1000000) (disch := (first | assumption | (apply Ne.symm; assumption))) only [vw0, vw1, vw2, vw3, vw4, vu0, vu1, ↓condV_t, ↓condV_f, allocV, splice, partV, buildV, eqFieldsV, eqS, tabs, TK.agg, reduceCtorEq, Array.toList, List.map_cons, List.map_nil, ↓reduceIte, List.length_map, Nat.reduceAdd, Nat.reduceLeDiff, Nat.reduceLT, Nat.reduceMul, Nat.reduceSub, Option.bind_some, Option.map_some, bndV, numV, eI, eU, e8, eB, AV.isCell, Int.reduceToNat, Int.reduceSub, Int.reduceAdd, Int.reduceNeg])
      refine ⟨hbad ?_, hle⟩
      have : ¬ (0 ≤ of.getD i default ∧ of.getD i default ≤ k) := fun hh => by rw [inB_iff.2 hh] at hin; cases hin
      omega
    · rw [inB_iff] at hin
      (try simp (maxSteps := 1000000) (disch := (first | assumption | (apply Ne.symm; assumption))) only [vw0, vw1, vw2, vw3, vw4, vu0, vu1, ↓condV_t, ↓condV_f, allocV, splice, partV, buildV, eqFieldsV, eqS, tabs, TK.agg, reduceCtorEq, Array.toList, List.map_cons, List.map_nil, ↓reduceIte, List.length_map, Nat.reduceAdd, Nat.reduceLeDiff, Nat.reduceLT, Nat.reduceMul, Nat.reduceSub, Option.bind_some, Option.map_some, bndV, numV, eI, eU, e8, eB, AV.isCell, Int.reduceToNat, Int.reduceSub, Int.reduceAdd, Int.reduceNeg])
      refine ⟨fun h3 => ?_, fun h3 => ?_⟩
      · refine ⟨(i + 1, k + 1), ⟨by simp only; omega, by rw [hsucc (by omega), if_pos h3]⟩, by simp only; omega, ?_, ?_⟩
        · rw [wk_int, i64_id (by omega) (by omega)]
        · rw [wk_int, i64_id (by omega) (by omega)]; simp
      · refine ⟨(i + 1, k), ⟨by simp only; omega, by rw [hsucc (by omega), if_neg h3]⟩, by simp only; omega, .refl _, ?_⟩
        rw [wk_int, i64_id (by omega) (by omega)]; simp
  · have : i = of.length := by omega
    subst this
    rw [List.take_length] at hrun
    exact ⟨by rw [hrun]; rfl, hle⟩
end Go.Proofs.Ythlbkcgnacemgaa
