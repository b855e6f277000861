/- Specs: OneGoal, by the program and by the reference. -/
import Derived.Test.YtfbaijpanbjmpaaMb1
namespace Go.Proofs.Ytfbaijpanbjmpaa
open Go Go.Sep Go.Pt
set_option linter.unusedSimpArgs false
set_option linter.unusedVariables false
attribute [local irreducible] CallT

theorem tmod_nat (a b : Nat) (h : 0 < b) : Int.tmod (a : Int) (b : Int) = (a : Int) % b := by
  rw [Int.tmod_eq_emod_of_nonneg (by omega)]
theorem onTo_bound {a : Au} {j : Nat} (e : Ed) (hj : j < a.goals.length) : 0 ≤ onTo a j e ∧ onTo a j e < a.goals.length := by
  unfold onTo
  split
  · exact ⟨Int.emod_nonneg _ (by omega), Int.emod_lt_of_pos _ (by omega)⟩
  · omega
theorem One_impl (a : Au) (sa : smAu a) {H : Heap} {K : AV → Heap → Prop} (h : ∀ v G D, LAu (onR a).1 v G D → New H G D → K (.tup [v, B (onR a).2]) G) : CallT Try.prog 17 [aAu a] H K := by
  refine CallT.fin ?_
  refine lend3 (St.nil H) W17_hb fun z1 z2 z3 G st => ?_
  refine lend3 st W17_hb fun y1 y2 y3 G st => ?_
  refine W17_ok ?_; simp (maxSteps := 1000000) (disch := (first | assumption | (apply Ne.symm; assumption))) only [W17, vw0, vw1, vw2, vw3, vw4, vu0, vu1, ↓condV_t, ↓condV_f, cap_nil, allocV, splice, partV, buildV, eqFieldsV, eqS, tabs, TK.agg, reduceCtorEq, Array.toList, List.map_cons, List.map_nil, ↓reduceIte, List.length_map, Nat.reduceAdd, Nat.reduceLeDiff, Nat.reduceLT, Nat.reduceMul, Nat.reduceSub, Option.bind_some, Option.map_some, bndV, numV, eI, eU, e8, eB, AV.isCell, Int.reduceToNat, Int.reduceSub, Int.reduceAdd, Int.reduceNeg]
  intro r hr r2 nr2 hr2
  replace st := (st.cell hr [I a.states, Is a.first, Es a.edges, Ls a.goals]).cell (r := r2) (by rw [Heap.set_other nr2]; exact hr2) [I 0, .p .nil, .p .nil, .p .nil]
  generalize (G.set r [I a.states, Is a.first, Es a.edges, Ls a.goals]).set r2 [I 0, .p .nil, .p .nil, .p .nil] = G at st ⊢
  clear hr hr2 nr2
  (try simp (maxSteps := 1000000) (disch := (first | assumption | (apply Ne.symm; assumption))) only [vw0, vw1, vw2, vw3, vw4, vu0, vu1, ↓condV_t, ↓condV_f, cap_nil, allocV, splice, partV, buildV, eqFieldsV, eqS, tabs, TK.agg, reduceCtorEq, Array.toList, List.map_cons, List.map_nil, ↓reduceIte, List.length_map, Nat.reduceAdd, Nat.reduceLeDiff, Nat.reduceLT, Nat.reduceMul, Nat.reduceSub, Option.bind_some, Option.map_some, bndV, numV, eI, eU, e8, eB, AV.isCell, Int.reduceToNat, Int.reduceSub, Int.reduceAdd, Int.reduceNeg, load_at (st.get 1 rfl)])
  refine Pu.use (GoodAuto_impl a sa) ?_
  cases ga : goodA a
  · (try simp (maxSteps := 1000000) (disch := (first | assumption | (apply Ne.symm; assumption))) only [vw0, vw1, vw2, vw3, vw4, vu0, vu1, ↓condV_t, ↓condV_f, cap_nil, allocV, splice, partV, buildV, eqFieldsV, eqS, tabs, TK.agg, reduceCtorEq, Array.toList, List.map_cons, List.map_nil, ↓reduceIte, List.length_map, Nat.reduceAdd, Nat.reduceLeDiff, Nat.reduceLT, Nat.reduceMul, Nat.reduceSub, Option.bind_some, Option.map_some, bndV, numV, eI, eU, e8, eB, AV.isCell, Int.reduceToNat, Int.reduceSub, Int.reduceAdd, Int.reduceNeg, store_at (st.get 0 rfl)])
    have er : onR a = (zeroA, false) := by simp only [onR, ga, Bool.false_eq_true, if_false]
    rw [er] at h
    exact zero_st (st.put 0 rfl [I 0, .p .nil, .p .nil, .p .nil]) 2 3 4 rfl rfl rfl (by decide) (by decide) (by decide) h
  have fa := good_facts ga
  have hst := fa.st
  have hed := fa.ed
  have hfi := fa.fi
  have hgl := fa.gl
  have hmul := mul_bd (a := a.goals.length) (A := 6) (b := a.states) (B := 96) (by omega) (by omega)
  have es : IntKind.i64.wrap (a.goals.length * a.states) = a.goals.length * a.states := i64_id (by omega) (by omega)
  (try simp (maxSteps := 1000000) (disch := (first | assumption | (apply Ne.symm; assumption))) only [vw0, vw1, vw2, vw3, vw4, vu0, vu1, ↓condV_t, ↓condV_f, cap_nil, allocV, splice, partV, buildV, eqFieldsV, eqS, tabs, TK.agg, reduceCtorEq, Array.toList, List.map_cons, List.map_nil, ↓reduceIte, List.length_map, Nat.reduceAdd, Nat.reduceLeDiff, Nat.reduceLT, Nat.reduceMul, Nat.reduceSub, Option.bind_some, Option.map_some, bndV, numV, eI, eU, e8, eB, AV.isCell, Int.reduceToNat, Int.reduceSub, Int.reduceAdd, Int.reduceNeg, load_at (st.get 1 rfl), es])
  refine ⟨fun h2 => ?_, fun h2 => ⟨by omega, by omega, ?_⟩⟩
  · have er : onR a = (onZ a, true) := by simp only [onR, ga, if_true, if_pos (show a.goals.length < 2 by omega)]
    rw [er] at h
    refine copyAuto_live a fa fun v G1 D lv nv => ?_
    obtain ⟨q1, q2, q3, D1, D2, D3, rfl, st⟩ := au_split (st.push (auT a v D) nv lv)
    clear lv nv
    (try simp (maxSteps := 1000000) (disch := (first | assumption | (apply Ne.symm; assumption))) only [vw0, vw1, vw2, vw3, vw4, vu0, vu1, ↓condV_t, ↓condV_f, cap_nil, allocV, splice, partV, buildV, eqFieldsV, eqS, tabs, TK.agg, reduceCtorEq, Array.toList, List.map_cons, List.map_nil, ↓reduceIte, List.length_map, Nat.reduceAdd, Nat.reduceLeDiff, Nat.reduceLT, Nat.reduceMul, Nat.reduceSub, Option.bind_some, Option.map_some, bndV, numV, eI, eU, e8, eB, AV.isCell, Int.reduceToNat, Int.reduceSub, Int.reduceAdd, Int.reduceNeg])
    intro r5 hr5
    replace st := st.cell hr5 [I a.states, .sl q1 1 0 a.first.length, .sl q2 3 0 a.edges.length, .sl q3 1 0 a.goals.length]
    generalize G1.set r5 [I a.states, .sl q1 1 0 a.first.length, .sl q2 3 0 a.edges.length, .sl q3 1 0 a.goals.length] = G2 at st ⊢
    (try simp (maxSteps := 1000000) (disch := (first | assumption | (apply Ne.symm; assumption))) only [vw0, vw1, vw2, vw3, vw4, vu0, vu1, ↓condV_t, ↓condV_f, cap_nil, allocV, splice, partV, buildV, eqFieldsV, eqS, tabs, TK.agg, reduceCtorEq, Array.toList, List.map_cons, List.map_nil, ↓reduceIte, List.length_map, Nat.reduceAdd, Nat.reduceLeDiff, Nat.reduceLT, Nat.reduceMul, Nat.reduceSub, Option.bind_some, Option.map_some, bndV, numV, eI, eU, e8, eB, AV.isCell, Int.reduceToNat, Int.reduceSub, Int.reduceAdd, Int.reduceNeg, load_at (st.get 5 rfl)])
    refine Pu.use (goalOf_spec a 0 (by omega) (by omega)) ?_
    have hg0 := goalAt_sm fa 0
    refine CloneI_row (goalAt a 0) (by have := hg0.2; simp only [Int.natCast_zero] at this; omega) fun qn hqn => ?_
    replace st := st.cell hqn (cP fI (goalAt a 0))
    generalize G2.set qn (cP fI (goalAt a 0)) = G3 at st ⊢
    refine lit_live1 fun ql hql => ?_
    replace st := rg_lit (st.cell hql [rowP qn (goalAt a 0)])
    generalize G3.set ql [.sl qn 1 0 (goalAt a 0).length] = G4 at st ⊢
    (try simp (maxSteps := 1000000) (disch := (first | assumption | (apply Ne.symm; assumption))) only [vw0, vw1, vw2, vw3, vw4, vu0, vu1, ↓condV_t, ↓condV_f, cap_nil, allocV, splice, partV, buildV, eqFieldsV, eqS, tabs, TK.agg, reduceCtorEq, Array.toList, List.map_cons, List.map_nil, ↓reduceIte, List.length_map, Nat.reduceAdd, Nat.reduceLeDiff, Nat.reduceLT, Nat.reduceMul, Nat.reduceSub, Option.bind_some, Option.map_some, bndV, numV, eI, eU, e8, eB, AV.isCell, Int.reduceToNat, Int.reduceSub, Int.reduceAdd, Int.reduceNeg, store_at (st.get 1 rfl)])
    replace st := st.put 1 rfl [I a.states, .sl q1 1 0 a.first.length, .sl q2 3 0 a.edges.length, .sl ql 1 0 1]
    generalize G4.set r5 [I a.states, .sl q1 1 0 a.first.length, .sl q2 3 0 a.edges.length, .sl ql 1 0 1] = G5 at st ⊢
    (try simp (maxSteps := 1000000) (disch := (first | assumption | (apply Ne.symm; assumption))) only [vw0, vw1, vw2, vw3, vw4, vu0, vu1, ↓condV_t, ↓condV_f, cap_nil, allocV, splice, partV, buildV, eqFieldsV, eqS, tabs, TK.agg, reduceCtorEq, Array.toList, List.map_cons, List.map_nil, ↓reduceIte, List.length_map, Nat.reduceAdd, Nat.reduceLeDiff, Nat.reduceLT, Nat.reduceMul, Nat.reduceSub, Option.bind_some, Option.map_some, bndV, numV, eI, eU, e8, eB, AV.isCell, Int.reduceToNat, Int.reduceSub, Int.reduceAdd, Int.reduceNeg, load_at (st.get 1 rfl), store_at (st.get 5 rfl)])
    replace st := st.put 5 rfl [I a.states, .sl q1 1 0 a.first.length, .sl q2 3 0 a.edges.length, .sl ql 1 0 1]
    obtain ⟨x', y', w', hw, hl, hn⟩ := rz_auto a.states st 2 3 0 rfl rfl rfl (by decide) (by decide) (by decide)
    exact ⟨_, _, .val (v' := .tup [.agg [I a.states, x', y', w'], B true]) (wk_tup ⟨hw, .refl _, trivial⟩), h _ _ _ hl hn⟩
  · refine CloneI_row a.first (by omega) fun q1 hq1 => ?_
    replace st := st.cell hq1 (cP fI a.first)
    generalize G.set q1 (cP fI a.first) = G1 at st ⊢
    (try simp (maxSteps := 1000000) (disch := (first | assumption | (apply Ne.symm; assumption))) only [vw0, vw1, vw2, vw3, vw4, vu0, vu1, ↓condV_t, ↓condV_f, cap_nil, allocV, splice, partV, buildV, eqFieldsV, eqS, tabs, TK.agg, reduceCtorEq, Array.toList, List.map_cons, List.map_nil, ↓reduceIte, List.length_map, Nat.reduceAdd, Nat.reduceLeDiff, Nat.reduceLT, Nat.reduceMul, Nat.reduceSub, Option.bind_some, Option.map_some, bndV, numV, eI, eU, e8, eB, AV.isCell, Int.reduceToNat, Int.reduceSub, Int.reduceAdd, Int.reduceNeg, load_at (st.get 2 rfl)])
    have hg0 := getD_all (p := fun x => smI x ∧ x.length ≤ 96) (d := default) fa.gi (show 0 < a.goals.length by omega)
    refine CloneI_row (a.goals.getD 0 default) (by omega) fun qn hqn => ?_
    replace st := st.cell hqn (cP fI (a.goals.getD 0 default))
    generalize G1.set qn (cP fI (a.goals.getD 0 default)) = G2 at st ⊢
    (try simp (maxSteps := 1000000) (disch := (first | assumption | (apply Ne.symm; assumption))) only [vw0, vw1, vw2, vw3, vw4, vu0, vu1, ↓condV_t, ↓condV_f, cap_nil, allocV, splice, partV, buildV, eqFieldsV, eqS, tabs, TK.agg, reduceCtorEq, Array.toList, List.map_cons, List.map_nil, ↓reduceIte, List.length_map, Nat.reduceAdd, Nat.reduceLeDiff, Nat.reduceLT, Nat.reduceMul, Nat.reduceSub, Option.bind_some, Option.map_some, bndV, numV, eI, eU, e8, eB, AV.isCell, Int.reduceToNat, Int.reduceSub, Int.reduceAdd, Int.reduceNeg, load_at (st.get 3 rfl)])
    refine lit_live1 fun ql hql => ?_
    replace st := rg_lit (st.cell hql [rowP qn (a.goals.getD 0 default)])
    generalize G2.set ql [.sl qn 1 0 (a.goals.getD 0 default).length] = G3 at st ⊢
    (try simp (maxSteps := 1000000) (disch := (first | assumption | (apply Ne.symm; assumption))) only [vw0, vw1, vw2, vw3, vw4, vu0, vu1, ↓condV_t, ↓condV_f, cap_nil, allocV, splice, partV, buildV, eqFieldsV, eqS, tabs, TK.agg, reduceCtorEq, Array.toList, List.map_cons, List.map_nil, ↓reduceIte, List.length_map, Nat.reduceAdd, Nat.reduceLeDiff, Nat.reduceLT, Nat.reduceMul, Nat.reduceSub, Option.bind_some, Option.map_some, bndV, numV, eI, eU, e8, eB, AV.isCell, Int.reduceToNat, Int.reduceSub, Int.reduceAdd, Int.reduceNeg, load_at (st.get 3 rfl)])
    intro r6 hr6
    replace st := st.cell hr6 [I (a.goals.length * a.states), rowP q1 a.first, .p .nil, .sl ql 1 0 1]
    (try simp (maxSteps := 1000000) (disch := (first | assumption | (apply Ne.symm; assumption))) only [vw0, vw1, vw2, vw3, vw4, vu0, vu1, ↓condV_t, ↓condV_f, cap_nil, allocV, splice, partV, buildV, eqFieldsV, eqS, tabs, TK.agg, reduceCtorEq, Array.toList, List.map_cons, List.map_nil, ↓reduceIte, List.length_map, Nat.reduceAdd, Nat.reduceLeDiff, Nat.reduceLT, Nat.reduceMul, Nat.reduceSub, Option.bind_some, Option.map_some, bndV, numV, eI, eU, e8, eB, AV.isCell, Int.reduceToNat, Int.reduceSub, Int.reduceAdd, Int.reduceNeg, load_at (st.get 4 rfl)])
    generalize G3.set r6 [I (a.goals.length * a.states), rowP q1 a.first, .p .nil, .sl ql 1 0 1] = G4 at st ⊢
    have hlen : ∀ j i, j < a.goals.length → i ≤ a.edges.length → (onP a j i).length + 1 ≤ 1000000 := fun j i hj hi => by
      rw [onP_len a j i hi]
      have : j * a.edges.length ≤ 6 * 2400 := Nat.mul_le_mul (by omega) (by omega)
      omega
    have hg4 : goalAt a 0 = a.goals.getD 0 default := goalAt0 (by omega)
    refine L17_0_rule ((0 : Nat), (.p .nil : AV), [y2], G4) (fun s => I s.1) (fun s => s.2.2.2)
      (fun s => s.1 ≤ a.goals.length ∧ St H [cellT r6 [I (a.goals.length * a.states), rowP q1 a.first, s.2.1, .sl ql 1 0 1], rgT 0 (.sl ql 1 0 1) [a.goals.getD 0 default] [ql, qn], cellT q1 (cP fI a.first), cellT r2 [I 0, .p .nil, .p .nil, .p .nil], cellT r [I a.states, Is a.first, Es a.edges, Ls a.goals], riT y1 (.p .nil) [] [y1], reT y2 s.2.1 (onF a s.1) s.2.2.1, rgT y3 (.p .nil) [] [y3], riT z1 (.p .nil) [] [z1], reT z2 (.p .nil) [] [z2], rgT z3 (.p .nil) [] [z3]] s.2.2.2) (fun s => a.goals.length - s.1)
      ⟨⟨by simp, st⟩, .refl _, Heap.le_refl _⟩ ?_
    clear st
    rintro ⟨j, x, D, G⟩ ⟨hj, st⟩
    dsimp only at hj st
    (try simp (maxSteps := 1000000) (disch := (first | assumption | (apply Ne.symm; assumption))) only [vw0, vw1, vw2, vw3, vw4, vu0, vu1, ↓condV_t, ↓condV_f, cap_nil, allocV, splice, partV, buildV, eqFieldsV, eqS, tabs, TK.agg, reduceCtorEq, Array.toList, List.map_cons, List.map_nil, ↓reduceIte, List.length_map, Nat.reduceAdd, Nat.reduceLeDiff, Nat.reduceLT, Nat.reduceMul, Nat.reduceSub, Option.bind_some, Option.map_some, bndV, numV, eI, eU, e8, eB, AV.isCell, Int.reduceToNat, Int.reduceSub, Int.reduceAdd, Int.reduceNeg, B17_0])
    refine ⟨fun h1 => ⟨by omega, h1, ?_⟩, fun h1 => ?_⟩
    · have hltj : j < a.goals.length := by omega
      have hgj := getD_all (p := fun x => smI x ∧ x.length ≤ 96) (d := default) fa.gi hltj
      (try simp (maxSteps := 1000000) (disch := (first | assumption | (apply Ne.symm; assumption))) only [vw0, vw1, vw2, vw3, vw4, vu0, vu1, ↓condV_t, ↓condV_f, cap_nil, allocV, splice, partV, buildV, eqFieldsV, eqS, tabs, TK.agg, reduceCtorEq, Array.toList, List.map_cons, List.map_nil, ↓reduceIte, List.length_map, Nat.reduceAdd, Nat.reduceLeDiff, Nat.reduceLT, Nat.reduceMul, Nat.reduceSub, Option.bind_some, Option.map_some, bndV, numV, eI, eU, e8, eB, AV.isCell, Int.reduceToNat, Int.reduceSub, Int.reduceAdd, Int.reduceNeg, load_at (st.get 4 rfl)])
      refine L17_1_rule ((0 : Nat), x, D, G) (fun s => I s.1) (fun s => s.2.2.2)
        (fun s => s.1 ≤ a.edges.length ∧ St H [cellT r6 [I (a.goals.length * a.states), rowP q1 a.first, s.2.1, .sl ql 1 0 1], rgT 0 (.sl ql 1 0 1) [a.goals.getD 0 default] [ql, qn], cellT q1 (cP fI a.first), cellT r2 [I 0, .p .nil, .p .nil, .p .nil], cellT r [I a.states, Is a.first, Es a.edges, Ls a.goals], riT y1 (.p .nil) [] [y1], reT y2 s.2.1 (onP a j s.1) s.2.2.1, rgT y3 (.p .nil) [] [y3], riT z1 (.p .nil) [] [z1], reT z2 (.p .nil) [] [z2], rgT z3 (.p .nil) [] [z3]] s.2.2.2) (fun s => a.edges.length - s.1)
        ⟨⟨by simp, by simp only [onP_zero]; exact st⟩, .refl _, Heap.le_refl _⟩ ?_
      clear st x D
      rintro ⟨i, x, D, G⟩ ⟨hi, st⟩
      dsimp only at hi st
      (try simp (maxSteps := 1000000) (disch := (first | assumption | (apply Ne.symm; assumption))) only [vw0, vw1, vw2, vw3, vw4, vu0, vu1, ↓condV_t, ↓condV_f, cap_nil, allocV, splice, partV, buildV, eqFieldsV, eqS, tabs, TK.agg, reduceCtorEq, Array.toList, List.map_cons, List.map_nil, ↓reduceIte, List.length_map, Nat.reduceAdd, Nat.reduceLeDiff, Nat.reduceLT, Nat.reduceMul, Nat.reduceSub, Option.bind_some, Option.map_some, bndV, numV, eI, eU, e8, eB, AV.isCell, Int.reduceToNat, Int.reduceSub, Int.reduceAdd, Int.reduceNeg, B17_1])
      refine ⟨fun h5 => ⟨by omega, h5, ?_⟩, fun h5 => ?_⟩
      · have hlti : i < a.edges.length := by omega
        have hm : a.edges.getD i default ∈ a.edges := getD_all (p := fun x => x ∈ a.edges) (fun _ h => h) hlti
        have hei := edIn_iff.1 (fa.ei _ hm)
        have hsucc := onP_succ a j hlti
        have hlp := hlen j i hltj hi
        generalize a.edges.getD i default = e at hei hsucc ⊢
        intro r8 hr8
        replace st := st.cell hr8 [I e.src, I e.lt, I e.dst]
        generalize G.set r8 [I e.src, I e.lt, I e.dst] = G5 at st ⊢
        (try simp (maxSteps := 1000000) (disch := (first | assumption | (apply Ne.symm; assumption))) only [vw0, vw1, vw2, vw3, vw4, vu0, vu1, ↓condV_t, ↓condV_f, cap_nil, allocV, splice, partV, buildV, eqFieldsV, eqS, tabs, TK.agg, reduceCtorEq, Array.toList, List.map_cons, List.map_nil, ↓reduceIte, List.length_map, Nat.reduceAdd, Nat.reduceLeDiff, Nat.reduceLT, Nat.reduceMul, Nat.reduceSub, Option.bind_some, Option.map_some, bndV, numV, eI, eU, e8, eB, AV.isCell, Int.reduceToNat, Int.reduceSub, Int.reduceAdd, Int.reduceNeg, load_at (st.get 0 rfl)])
        refine Pu.use (ContainsI_spec (a.goals.getD j default) e.src (by have := hgj.1.1; omega)) ?_
        have hto := onTo_bound (a := a) e hltj
        have m1 := mul_bd (a := j) (A := 6) (b := a.states) (B := 96) (by omega) (by omega)
        have m2 := mul_bd (a := onTo a j e) (A := 6) (b := a.states) (B := 96) (by omega) (by omega)
        have e1 : IntKind.i64.wrap (j * a.states) = j * a.states := i64_id (by omega) (by omega)
        have e2 : IntKind.i64.wrap (onTo a j e * a.states) = onTo a j e * a.states := i64_id (by omega) (by omega)
        have e3 : IntKind.i64.wrap (e.src + j * a.states) = e.src + j * a.states := i64_id (by omega) (by omega)
        have e4 : IntKind.i64.wrap (e.dst + onTo a j e * a.states) = e.dst + onTo a j e * a.states := i64_id (by omega) (by omega)
        have e5 : IntKind.i64.wrap ((j : Int) + 1) = j + 1 := i64_id (by omega) (by omega)
        have key : ∀ (N1 N2 : AV → Heap → Prop) (v : Int), v = onTo a j e → (∀ x' D' G', St H [cellT r6 [I (a.goals.length * a.states), rowP q1 a.first, x', .sl ql 1 0 1], rgT 0 (.sl ql 1 0 1) [a.goals.getD 0 default] [ql, qn], cellT q1 (cP fI a.first), cellT r2 [I 0, .p .nil, .p .nil, .p .nil], cellT r [I a.states, Is a.first, Es a.edges, Ls a.goals], riT y1 (.p .nil) [] [y1], reT y2 x' (onP a j (i + 1)) D', rgT y3 (.p .nil) [] [y3], riT z1 (.p .nil) [] [z1], reT z2 (.p .nil) [] [z2], rgT z3 (.p .nil) [] [z3]] G' → N2 (I ((i + 1 : Nat) : Int)) G') →
            J17_2 (wkK K) N1 N2 (.ptr r 0) (.ptr r2 0) (I a.goals.length) (.ptr r6 0) (I j) (Is (a.goals.getD j default)) (.ptr r8 0) (I v) (Ls a.goals) (I a.goals.length) (I j) (Es a.edges) (I a.edges.length) (I i) G5 := by
          rintro N1 N2 _ rfl hN
          (try simp (maxSteps := 1000000) (disch := (first | assumption | (apply Ne.symm; assumption))) only [vw0, vw1, vw2, vw3, vw4, vu0, vu1, ↓condV_t, ↓condV_f, cap_nil, allocV, splice, partV, buildV, eqFieldsV, eqS, tabs, TK.agg, reduceCtorEq, Array.toList, List.map_cons, List.map_nil, ↓reduceIte, List.length_map, Nat.reduceAdd, Nat.reduceLeDiff, Nat.reduceLT, Nat.reduceMul, Nat.reduceSub, Option.bind_some, Option.map_some, bndV, numV, eI, eU, e8, eB, AV.isCell, Int.reduceToNat, Int.reduceSub, Int.reduceAdd, Int.reduceNeg, J17_2, load_at (st.get 0 rfl), load_at (st.get 1 rfl), load_at (st.get 5 rfl), e1, e2, e3, e4])
          refine lit_edge (x := onE a j e) ?_
          refine rz_appE st 7 rfl (by simp only [List.length_cons, List.length_nil]; omega) fun q' G' hq' st => ?_
          rw [← hsucc] at st ⊢
          (try simp (maxSteps := 1000000) (disch := (first | assumption | (apply Ne.symm; assumption))) only [vw0, vw1, vw2, vw3, vw4, vu0, vu1, ↓condV_t, ↓condV_f, cap_nil, allocV, splice, partV, buildV, eqFieldsV, eqS, tabs, TK.agg, reduceCtorEq, Array.toList, List.map_cons, List.map_nil, ↓reduceIte, List.length_map, Nat.reduceAdd, Nat.reduceLeDiff, Nat.reduceLT, Nat.reduceMul, Nat.reduceSub, Option.bind_some, Option.map_some, bndV, numV, eI, eU, e8, eB, AV.isCell, Int.reduceToNat, Int.reduceSub, Int.reduceAdd, Int.reduceNeg, store_at (st.get 1 rfl)])
          have := hN _ _ _ (st.put 1 rfl [I (a.goals.length * a.states), rowP q1 a.first, rowE q' (onP a j (i + 1)), .sl ql 1 0 1]).drop
          have e6 : IntKind.i64.wrap ((i : Int) + 1) = ((i + 1 : Nat) : Int) := by rw [i64_id (by omega) (by omega)]; simp
          rw [e6]
          exact this
        by_cases hc : e.src ∈ a.goals.getD j default
        · rw [decide_eq_true hc]
          (try simp (maxSteps := 1000000) (disch := (first | assumption | (apply Ne.symm; assumption))) only [vw0, vw1, vw2, vw3, vw4, vu0, vu1, ↓condV_t, ↓condV_f, cap_nil, allocV, splice, partV, buildV, eqFieldsV, eqS, tabs, TK.agg, reduceCtorEq, Array.toList, List.map_cons, List.map_nil, ↓reduceIte, List.length_map, Nat.reduceAdd, Nat.reduceLeDiff, Nat.reduceLT, Nat.reduceMul, Nat.reduceSub, Option.bind_some, Option.map_some, bndV, numV, eI, eU, e8, eB, AV.isCell, Int.reduceToNat, Int.reduceSub, Int.reduceAdd, Int.reduceNeg, e5])
          refine ⟨by omega, key _ _ _ ?_ fun x' D' G' st => ⟨(i + 1, x', D', G'), ⟨by simp only; omega, st⟩, by simp only; omega, .refl _, Heap.le_refl _⟩⟩
          rw [onTo, if_pos hc, Int.tmod_eq_emod_of_nonneg (by omega)]; simp
        · rw [decide_eq_false hc]
          (try simp (maxSteps := 1000000) (disch := (first | assumption | (apply Ne.symm; assumption))) only [vw0, vw1, vw2, vw3, vw4, vu0, vu1, ↓condV_t, ↓condV_f, cap_nil, allocV, splice, partV, buildV, eqFieldsV, eqS, tabs, TK.agg, reduceCtorEq, Array.toList, List.map_cons, List.map_nil, ↓reduceIte, List.length_map, Nat.reduceAdd, Nat.reduceLeDiff, Nat.reduceLT, Nat.reduceMul, Nat.reduceSub, Option.bind_some, Option.map_some, bndV, numV, eI, eU, e8, eB, AV.isCell, Int.reduceToNat, Int.reduceSub, Int.reduceAdd, Int.reduceNeg])
          refine key _ _ _ ?_ fun x' D' G' st => ⟨(i + 1, x', D', G'), ⟨by simp only; omega, st⟩, by simp only; omega, .refl _, Heap.le_refl _⟩
          rw [onTo, if_neg hc]
      · have : i = a.edges.length := by omega
        subst this
        rw [onP_all] at st
        refine ⟨(j + 1, x, D, G), ⟨by simp only; omega, st⟩, by simp only; omega, ?_, Heap.le_refl _⟩
        rw [wk_int, i64_id (by omega) (by omega)]; simp
    · have : j = a.goals.length := by omega
      subst this
      obtain ⟨u1, u2, u3, hw, st⟩ := rz_au (a.goals.length * a.states) ((((owned_i st 2 rfl).pick 2 rfl).pick 6 rfl).pick 3 rfl)
      (try simp (maxSteps := 1000000) (disch := (first | assumption | (apply Ne.symm; assumption))) only [vw0, vw1, vw2, vw3, vw4, vu0, vu1, ↓condV_t, ↓condV_f, cap_nil, allocV, splice, partV, buildV, eqFieldsV, eqS, tabs, TK.agg, reduceCtorEq, Array.toList, List.map_cons, List.map_nil, ↓reduceIte, List.length_map, Nat.reduceAdd, Nat.reduceLeDiff, Nat.reduceLT, Nat.reduceMul, Nat.reduceSub, Option.bind_some, Option.map_some, bndV, numV, eI, eU, e8, eB, AV.isCell, Int.reduceToNat, Int.reduceSub, Int.reduceAdd, Int.reduceNeg, load_at (st.get 1 rfl)])
      refine CallT.args (args' := [.agg [I (a.goals.length * a.states), .sl u1 1 0 a.first.length, .sl u2 3 0 (onF a a.goals.length).length, .sl u3 1 0 1]]) ?_ ⟨hw, trivial⟩
      refine checkedAuto_live (o := onT a) (st.get 0 rfl) (st.ndT 0 rfl) (onT_sm fa) (fun hgo => ?_) (fun hgo => ?_)
      · have er : onR a = (onT a, true) := by simp only [onR, ga, hgo, if_true, if_neg (show ¬ a.goals.length < 2 by omega)]
        rw [er] at h
        (try simp (maxSteps := 1000000) (disch := (first | assumption | (apply Ne.symm; assumption))) only [vw0, vw1, vw2, vw3, vw4, vu0, vu1, ↓condV_t, ↓condV_f, cap_nil, allocV, splice, partV, buildV, eqFieldsV, eqS, tabs, TK.agg, reduceCtorEq, Array.toList, List.map_cons, List.map_nil, ↓reduceIte, List.length_map, Nat.reduceAdd, Nat.reduceLeDiff, Nat.reduceLT, Nat.reduceMul, Nat.reduceSub, Option.bind_some, Option.map_some, bndV, numV, eI, eU, e8, eB, AV.isCell, Int.reduceToNat, Int.reduceSub, Int.reduceAdd, Int.reduceNeg, store_at (st.get 2 rfl)])
        obtain ⟨hl, hn⟩ := au_new (st.put 2 rfl [I (a.goals.length * a.states), .sl u1 1 0 a.first.length, .sl u2 3 0 (onF a a.goals.length).length, .sl u3 1 0 1]) 0 rfl
        exact wkK.keep (h _ _ _ hl hn)
      · have er : onR a = (zeroA, false) := by simp only [onR, ga, hgo, if_true, Bool.false_eq_true, if_false, if_neg (show ¬ a.goals.length < 2 by omega)]
        rw [er] at h
        (try simp (maxSteps := 1000000) (disch := (first | assumption | (apply Ne.symm; assumption))) only [vw0, vw1, vw2, vw3, vw4, vu0, vu1, ↓condV_t, ↓condV_f, cap_nil, allocV, splice, partV, buildV, eqFieldsV, eqS, tabs, TK.agg, reduceCtorEq, Array.toList, List.map_cons, List.map_nil, ↓reduceIte, List.length_map, Nat.reduceAdd, Nat.reduceLeDiff, Nat.reduceLT, Nat.reduceMul, Nat.reduceSub, Option.bind_some, Option.map_some, bndV, numV, eI, eU, e8, eB, AV.isCell, Int.reduceToNat, Int.reduceSub, Int.reduceAdd, Int.reduceNeg, store_at (st.get 2 rfl)])
        exact zero_st (st.put 2 rfl [I 0, .p .nil, .p .nil, .p .nil]) 6 7 8 rfl rfl rfl (by decide) (by decide) (by decide) h
theorem l12All_row (n : Nat) (hn : n ≤ 10000) {H : Heap} {K : AV → Heap → Prop} (h : ∀ q, H q = none → K (rowP q (below n)) (H.set q (cP fI (below n)))) : CallT Try.prog 58 [I n] H K := by
  refine CallT.fin ?_
  refine CallT.ghost W58_hb fun q0 hq0 => ?_
  refine W58_ok ?_; simp (maxSteps := 1000000) (disch := (first | assumption | (apply Ne.symm; assumption))) only [W58, vw0, vw1, vw2, vw3, vw4, vu0, vu1, ↓condV_t, ↓condV_f, cap_nil, allocV, splice, partV, buildV, eqFieldsV, eqS, tabs, TK.agg, reduceCtorEq, Array.toList, List.map_cons, List.map_nil, ↓reduceIte, List.length_map, Nat.reduceAdd, Nat.reduceLeDiff, Nat.reduceLT, Nat.reduceMul, Nat.reduceSub, Option.bind_some, Option.map_some, bndV, numV, eI, eU, e8, eB, AV.isCell, Int.reduceToNat, Int.reduceSub, Int.reduceAdd, Int.reduceNeg]
  refine L58_0_rule ((0 : Nat), q0) (fun s => rowP s.2 (below s.1)) (fun s => I s.1) (fun s => H.set s.2 (cP fI (below s.1))) (fun s => s.1 ≤ n ∧ H s.2 = none) (fun s => n - s.1) ⟨⟨by simp, hq0⟩, .nilo _ _ _, .refl _, Heap.le_refl _⟩ ?_
  rintro ⟨i, q⟩ ⟨hi, hq⟩
  dsimp only at hi hq
  have hml := below_len i
  (try simp (maxSteps := 1000000) (disch := (first | assumption | (apply Ne.symm; assumption))) only [vw0, vw1, vw2, vw3, vw4, vu0, vu1, ↓condV_t, ↓condV_f, cap_nil, allocV, splice, partV, buildV, eqFieldsV, eqS, tabs, TK.agg, reduceCtorEq, Array.toList, List.map_cons, List.map_nil, ↓reduceIte, List.length_map, Nat.reduceAdd, Nat.reduceLeDiff, Nat.reduceLT, Nat.reduceMul, Nat.reduceSub, Option.bind_some, Option.map_some, bndV, numV, eI, eU, e8, eB, AV.isCell, Int.reduceToNat, Int.reduceSub, Int.reduceAdd, Int.reduceNeg, B58_0])
  refine ⟨fun h1 => ?_, fun h1 => ?_⟩
  · refine push_topI hq (by omega) fun q' hq' => ?_
    rw [← below_succ]
    (try simp (maxSteps := 1000000) (disch := (first | assumption | (apply Ne.symm; assumption))) only [vw0, vw1, vw2, vw3, vw4, vu0, vu1, ↓condV_t, ↓condV_f, cap_nil, allocV, splice, partV, buildV, eqFieldsV, eqS, tabs, TK.agg, reduceCtorEq, Array.toList, List.map_cons, List.map_nil, ↓reduceIte, List.length_map, Nat.reduceAdd, Nat.reduceLeDiff, Nat.reduceLT, Nat.reduceMul, Nat.reduceSub, Option.bind_some, Option.map_some, bndV, numV, eI, eU, e8, eB, AV.isCell, Int.reduceToNat, Int.reduceSub, Int.reduceAdd, Int.reduceNeg])
    refine ⟨(i + 1, q'), ⟨by simp only; omega, hq'⟩, by simp only; omega, .refl _, ?_, Heap.le_refl _⟩
    rw [wk_int, i64_id (by omega) (by omega)]; simp
  · have : i = n := by omega
    subst this
    exact wkK.keep (h q hq)
theorem One_ref (a : Au) (sa : smAu a) {H : Heap} {K : AV → Heap → Prop} (h : ∀ v G D, LAu (onR a).1 v G D → New H G D → K (.tup [v, B (onR a).2]) G) : CallT Try.prog 16 [aAu a] H K := by
  refine CallT.fin ?_
  refine lend3 (St.nil H) W16_hb fun z1 z2 z3 G st => ?_
  refine lend3 st W16_hb fun y1 y2 y3 G st => ?_
  refine W16_ok ?_; simp (maxSteps := 1000000) (disch := (first | assumption | (apply Ne.symm; assumption))) only [W16, vw0, vw1, vw2, vw3, vw4, vu0, vu1, ↓condV_t, ↓condV_f, cap_nil, allocV, splice, partV, buildV, eqFieldsV, eqS, tabs, TK.agg, reduceCtorEq, Array.toList, List.map_cons, List.map_nil, ↓reduceIte, List.length_map, Nat.reduceAdd, Nat.reduceLeDiff, Nat.reduceLT, Nat.reduceMul, Nat.reduceSub, Option.bind_some, Option.map_some, bndV, numV, eI, eU, e8, eB, AV.isCell, Int.reduceToNat, Int.reduceSub, Int.reduceAdd, Int.reduceNeg]
  intro r hr r2 nr2 hr2
  replace st := (st.cell hr [I a.states, Is a.first, Es a.edges, Ls a.goals]).cell (r := r2) (by rw [Heap.set_other nr2]; exact hr2) [I 0, .p .nil, .p .nil, .p .nil]
  generalize (G.set r [I a.states, Is a.first, Es a.edges, Ls a.goals]).set r2 [I 0, .p .nil, .p .nil, .p .nil] = G at st ⊢
  clear hr hr2 nr2
  (try simp (maxSteps := 1000000) (disch := (first | assumption | (apply Ne.symm; assumption))) only [vw0, vw1, vw2, vw3, vw4, vu0, vu1, ↓condV_t, ↓condV_f, cap_nil, allocV, splice, partV, buildV, eqFieldsV, eqS, tabs, TK.agg, reduceCtorEq, Array.toList, List.map_cons, List.map_nil, ↓reduceIte, List.length_map, Nat.reduceAdd, Nat.reduceLeDiff, Nat.reduceLT, Nat.reduceMul, Nat.reduceSub, Option.bind_some, Option.map_some, bndV, numV, eI, eU, e8, eB, AV.isCell, Int.reduceToNat, Int.reduceSub, Int.reduceAdd, Int.reduceNeg, load_at (st.get 1 rfl)])
  refine Pu.use (GoodAuto_spec a sa) ?_
  cases ga : goodA a
  · (try simp (maxSteps := 1000000) (disch := (first | assumption | (apply Ne.symm; assumption))) only [vw0, vw1, vw2, vw3, vw4, vu0, vu1, ↓condV_t, ↓condV_f, cap_nil, allocV, splice, partV, buildV, eqFieldsV, eqS, tabs, TK.agg, reduceCtorEq, Array.toList, List.map_cons, List.map_nil, ↓reduceIte, List.length_map, Nat.reduceAdd, Nat.reduceLeDiff, Nat.reduceLT, Nat.reduceMul, Nat.reduceSub, Option.bind_some, Option.map_some, bndV, numV, eI, eU, e8, eB, AV.isCell, Int.reduceToNat, Int.reduceSub, Int.reduceAdd, Int.reduceNeg, store_at (st.get 0 rfl)])
    have er : onR a = (zeroA, false) := by simp only [onR, ga, Bool.false_eq_true, if_false]
    rw [er] at h
    exact zero_st (st.put 0 rfl [I 0, .p .nil, .p .nil, .p .nil]) 2 3 4 rfl rfl rfl (by decide) (by decide) (by decide) h
  have fa := good_facts ga
  have hst := fa.st
  have hed := fa.ed
  have hfi := fa.fi
  have hgl := fa.gl
  have hmul := mul_bd (a := a.goals.length) (A := 6) (b := a.states) (B := 96) (by omega) (by omega)
  have es : IntKind.i64.wrap (a.states * a.goals.length) = a.goals.length * a.states := by rw [Int.mul_comm]; exact i64_id (by omega) (by omega)
  (try simp (maxSteps := 1000000) (disch := (first | assumption | (apply Ne.symm; assumption))) only [vw0, vw1, vw2, vw3, vw4, vu0, vu1, ↓condV_t, ↓condV_f, cap_nil, allocV, splice, partV, buildV, eqFieldsV, eqS, tabs, TK.agg, reduceCtorEq, Array.toList, List.map_cons, List.map_nil, ↓reduceIte, List.length_map, Nat.reduceAdd, Nat.reduceLeDiff, Nat.reduceLT, Nat.reduceMul, Nat.reduceSub, Option.bind_some, Option.map_some, bndV, numV, eI, eU, e8, eB, AV.isCell, Int.reduceToNat, Int.reduceSub, Int.reduceAdd, Int.reduceNeg, load_at (st.get 1 rfl)])
  refine l12Own_live a fa fun v G1 D lv nv => ?_
  obtain ⟨q1, q2, q3, D1, D2, D3, rfl, st⟩ := au_split (st.push (auT a v D) nv lv)
  clear lv nv
  (try simp (maxSteps := 1000000) (disch := (first | assumption | (apply Ne.symm; assumption))) only [vw0, vw1, vw2, vw3, vw4, vu0, vu1, ↓condV_t, ↓condV_f, cap_nil, allocV, splice, partV, buildV, eqFieldsV, eqS, tabs, TK.agg, reduceCtorEq, Array.toList, List.map_cons, List.map_nil, ↓reduceIte, List.length_map, Nat.reduceAdd, Nat.reduceLeDiff, Nat.reduceLT, Nat.reduceMul, Nat.reduceSub, Option.bind_some, Option.map_some, bndV, numV, eI, eU, e8, eB, AV.isCell, Int.reduceToNat, Int.reduceSub, Int.reduceAdd, Int.reduceNeg])
  intro r5 hr5
  replace st := st.cell hr5 [I a.states, .sl q1 1 0 a.first.length, .sl q2 3 0 a.edges.length, .sl q3 1 0 a.goals.length]
  generalize G1.set r5 [I a.states, .sl q1 1 0 a.first.length, .sl q2 3 0 a.edges.length, .sl q3 1 0 a.goals.length] = G2 at st ⊢
  have hg0 := goalAt_sm fa 0
  simp only [Int.natCast_zero] at hg0
  refine ⟨fun h0 => ?_, fun h0 => ?_⟩
  · have er : onR a = (onZ a, true) := by simp only [onR, ga, if_true, if_pos (show a.goals.length < 2 by omega)]
    rw [er] at h
    have eg : goalAt a 0 = below a.states.toNat := by unfold goalAt; rw [if_neg (by omega)]
    have en : (a.states : Int) = (a.states.toNat : Nat) := by omega
    (try simp (maxSteps := 1000000) (disch := (first | assumption | (apply Ne.symm; assumption))) only [vw0, vw1, vw2, vw3, vw4, vu0, vu1, ↓condV_t, ↓condV_f, cap_nil, allocV, splice, partV, buildV, eqFieldsV, eqS, tabs, TK.agg, reduceCtorEq, Array.toList, List.map_cons, List.map_nil, ↓reduceIte, List.length_map, Nat.reduceAdd, Nat.reduceLeDiff, Nat.reduceLT, Nat.reduceMul, Nat.reduceSub, Option.bind_some, Option.map_some, bndV, numV, eI, eU, e8, eB, AV.isCell, Int.reduceToNat, Int.reduceSub, Int.reduceAdd, Int.reduceNeg, load_at (st.get 5 rfl)])
    rw [show (I a.states : AV) = I (a.states.toNat : Nat) by rw [← en]]
    refine l12All_row a.states.toNat (by omega) fun qn hqn => ?_
    rw [← eg]
    replace st := st.cell hqn (cP fI (goalAt a 0))
    generalize G2.set qn (cP fI (goalAt a 0)) = G3 at st ⊢
    refine lit_live1 fun ql hql => ?_
    replace st := rg_lit (st.cell hql [rowP qn (goalAt a 0)])
    generalize G3.set ql [.sl qn 1 0 (goalAt a 0).length] = G4 at st ⊢
    (try simp (maxSteps := 1000000) (disch := (first | assumption | (apply Ne.symm; assumption))) only [vw0, vw1, vw2, vw3, vw4, vu0, vu1, ↓condV_t, ↓condV_f, cap_nil, allocV, splice, partV, buildV, eqFieldsV, eqS, tabs, TK.agg, reduceCtorEq, Array.toList, List.map_cons, List.map_nil, ↓reduceIte, List.length_map, Nat.reduceAdd, Nat.reduceLeDiff, Nat.reduceLT, Nat.reduceMul, Nat.reduceSub, Option.bind_some, Option.map_some, bndV, numV, eI, eU, e8, eB, AV.isCell, Int.reduceToNat, Int.reduceSub, Int.reduceAdd, Int.reduceNeg, store_at (st.get 1 rfl)])
    replace st := st.put 1 rfl [I a.states, .sl q1 1 0 a.first.length, .sl q2 3 0 a.edges.length, .sl ql 1 0 1]
    generalize G4.set r5 [I a.states, .sl q1 1 0 a.first.length, .sl q2 3 0 a.edges.length, .sl ql 1 0 1] = G5 at st ⊢
    (try simp (maxSteps := 1000000) (disch := (first | assumption | (apply Ne.symm; assumption))) only [vw0, vw1, vw2, vw3, vw4, vu0, vu1, ↓condV_t, ↓condV_f, cap_nil, allocV, splice, partV, buildV, eqFieldsV, eqS, tabs, TK.agg, reduceCtorEq, Array.toList, List.map_cons, List.map_nil, ↓reduceIte, List.length_map, Nat.reduceAdd, Nat.reduceLeDiff, Nat.reduceLT, Nat.reduceMul, Nat.reduceSub, Option.bind_some, Option.map_some, bndV, numV, eI, eU, e8, eB, AV.isCell, Int.reduceToNat, Int.reduceSub, Int.reduceAdd, Int.reduceNeg, J16_3])
    refine ⟨fun _ => ?_, fun h2 => by omega⟩
    (try simp (maxSteps := 1000000) (disch := (first | assumption | (apply Ne.symm; assumption))) only [vw0, vw1, vw2, vw3, vw4, vu0, vu1, ↓condV_t, ↓condV_f, cap_nil, allocV, splice, partV, buildV, eqFieldsV, eqS, tabs, TK.agg, reduceCtorEq, Array.toList, List.map_cons, List.map_nil, ↓reduceIte, List.length_map, Nat.reduceAdd, Nat.reduceLeDiff, Nat.reduceLT, Nat.reduceMul, Nat.reduceSub, Option.bind_some, Option.map_some, bndV, numV, eI, eU, e8, eB, AV.isCell, Int.reduceToNat, Int.reduceSub, Int.reduceAdd, Int.reduceNeg, load_at (st.get 1 rfl), store_at (st.get 5 rfl)])
    replace st := st.put 5 rfl [I a.states, .sl q1 1 0 a.first.length, .sl q2 3 0 a.edges.length, .sl ql 1 0 1]
    obtain ⟨x', y', w', hw, hl, hn⟩ := rz_auto a.states st 2 3 0 rfl rfl rfl (by decide) (by decide) (by decide)
    exact ⟨_, _, .val (v' := .tup [.agg [I a.states, x', y', w'], B true]) (wk_tup ⟨hw, .refl _, trivial⟩), h _ _ _ hl hn⟩
  (try simp (maxSteps := 1000000) (disch := (first | assumption | (apply Ne.symm; assumption))) only [vw0, vw1, vw2, vw3, vw4, vu0, vu1, ↓condV_t, ↓condV_f, cap_nil, allocV, splice, partV, buildV, eqFieldsV, eqS, tabs, TK.agg, reduceCtorEq, Array.toList, List.map_cons, List.map_nil, ↓reduceIte, List.length_map, Nat.reduceAdd, Nat.reduceLeDiff, Nat.reduceLT, Nat.reduceMul, Nat.reduceSub, Option.bind_some, Option.map_some, bndV, numV, eI, eU, e8, eB, AV.isCell, Int.reduceToNat, Int.reduceSub, Int.reduceAdd, Int.reduceNeg, J16_3])
  refine ⟨fun h2 => ?_, fun h2 => ?_⟩
  · have er : onR a = (onZ a, true) := by simp only [onR, ga, if_true, if_pos (show a.goals.length < 2 by omega)]
    rw [er] at h
    have eg : a.goals = [goalAt a 0] := by
      have h1 : a.goals.length = 1 := by omega
      obtain ⟨g, hg⟩ := List.length_eq_one_iff.1 h1
      unfold goalAt
      rw [if_pos (by omega), hg]; rfl
    (try simp (maxSteps := 1000000) (disch := (first | assumption | (apply Ne.symm; assumption))) only [vw0, vw1, vw2, vw3, vw4, vu0, vu1, ↓condV_t, ↓condV_f, cap_nil, allocV, splice, partV, buildV, eqFieldsV, eqS, tabs, TK.agg, reduceCtorEq, Array.toList, List.map_cons, List.map_nil, ↓reduceIte, List.length_map, Nat.reduceAdd, Nat.reduceLeDiff, Nat.reduceLT, Nat.reduceMul, Nat.reduceSub, Option.bind_some, Option.map_some, bndV, numV, eI, eU, e8, eB, AV.isCell, Int.reduceToNat, Int.reduceSub, Int.reduceAdd, Int.reduceNeg, load_at (st.get 0 rfl), store_at (st.get 4 rfl)])
    replace st := st.put 4 rfl [I a.states, .sl q1 1 0 a.first.length, .sl q2 3 0 a.edges.length, .sl q3 1 0 a.goals.length]
    obtain ⟨x', y', w', hw, hl, hn⟩ := rz_auto a.states st 1 2 3 rfl rfl rfl (by decide) (by decide) (by decide)
    rw [show (⟨a.states, a.first, a.edges, a.goals⟩ : Au) = onZ a by rw [onZ, ← eg]] at hl
    exact ⟨_, _, .val (v' := .tup [.agg [I a.states, x', y', w'], B true]) (wk_tup ⟨hw, .refl _, trivial⟩), h _ _ _ hl hn⟩
  · (try simp (maxSteps := 1000000) (disch := (first | assumption | (apply Ne.symm; assumption))) only [vw0, vw1, vw2, vw3, vw4, vu0, vu1, ↓condV_t, ↓condV_f, cap_nil, allocV, splice, partV, buildV, eqFieldsV, eqS, tabs, TK.agg, reduceCtorEq, Array.toList, List.map_cons, List.map_nil, ↓reduceIte, List.length_map, Nat.reduceAdd, Nat.reduceLeDiff, Nat.reduceLT, Nat.reduceMul, Nat.reduceSub, Option.bind_some, Option.map_some, bndV, numV, eI, eU, e8, eB, AV.isCell, Int.reduceToNat, Int.reduceSub, Int.reduceAdd, Int.reduceNeg, load_at (st.get 5 rfl), es])
    refine ⟨by omega, by omega, ?_⟩
    refine l1Own_row a.first (by omega) fun q1' hq1' => ?_
    replace st := st.cell hq1' (cP fI a.first)
    generalize G2.set q1' (cP fI a.first) = G1 at st ⊢
    (try simp (maxSteps := 1000000) (disch := (first | assumption | (apply Ne.symm; assumption))) only [vw0, vw1, vw2, vw3, vw4, vu0, vu1, ↓condV_t, ↓condV_f, cap_nil, allocV, splice, partV, buildV, eqFieldsV, eqS, tabs, TK.agg, reduceCtorEq, Array.toList, List.map_cons, List.map_nil, ↓reduceIte, List.length_map, Nat.reduceAdd, Nat.reduceLeDiff, Nat.reduceLT, Nat.reduceMul, Nat.reduceSub, Option.bind_some, Option.map_some, bndV, numV, eI, eU, e8, eB, AV.isCell, Int.reduceToNat, Int.reduceSub, Int.reduceAdd, Int.reduceNeg, load_at (st.get 6 rfl)])
    have hg0 := getD_all (p := fun x => smI x ∧ x.length ≤ 96) (d := default) fa.gi (show 0 < a.goals.length by omega)
    refine l1Own_row (a.goals.getD 0 default) (by omega) fun qn hqn => ?_
    replace st := st.cell hqn (cP fI (a.goals.getD 0 default))
    generalize G1.set qn (cP fI (a.goals.getD 0 default)) = G2 at st ⊢
    (try simp (maxSteps := 1000000) (disch := (first | assumption | (apply Ne.symm; assumption))) only [vw0, vw1, vw2, vw3, vw4, vu0, vu1, ↓condV_t, ↓condV_f, cap_nil, allocV, splice, partV, buildV, eqFieldsV, eqS, tabs, TK.agg, reduceCtorEq, Array.toList, List.map_cons, List.map_nil, ↓reduceIte, List.length_map, Nat.reduceAdd, Nat.reduceLeDiff, Nat.reduceLT, Nat.reduceMul, Nat.reduceSub, Option.bind_some, Option.map_some, bndV, numV, eI, eU, e8, eB, AV.isCell, Int.reduceToNat, Int.reduceSub, Int.reduceAdd, Int.reduceNeg, load_at (st.get 7 rfl)])
    refine lit_live1 fun ql hql => ?_
    replace st := rg_lit (st.cell hql [rowP qn (a.goals.getD 0 default)])
    generalize G2.set ql [.sl qn 1 0 (a.goals.getD 0 default).length] = G3 at st ⊢
    (try simp (maxSteps := 1000000) (disch := (first | assumption | (apply Ne.symm; assumption))) only [vw0, vw1, vw2, vw3, vw4, vu0, vu1, ↓condV_t, ↓condV_f, cap_nil, allocV, splice, partV, buildV, eqFieldsV, eqS, tabs, TK.agg, reduceCtorEq, Array.toList, List.map_cons, List.map_nil, ↓reduceIte, List.length_map, Nat.reduceAdd, Nat.reduceLeDiff, Nat.reduceLT, Nat.reduceMul, Nat.reduceSub, Option.bind_some, Option.map_some, bndV, numV, eI, eU, e8, eB, AV.isCell, Int.reduceToNat, Int.reduceSub, Int.reduceAdd, Int.reduceNeg, load_at (st.get 7 rfl), store_at (st.get 2 rfl)])
    replace st := (st.put 2 rfl [I (a.goals.length * a.states), rowP q1' a.first, .p .nil, .sl ql 1 0 1]).pick 2 rfl
    replace st := ((st.erase 3).erase 3).erase 3
    generalize G3.set r5 [I (a.goals.length * a.states), rowP q1' a.first, .p .nil, .sl ql 1 0 1] = G4 at st ⊢
    have hlen : ∀ j i, j < a.goals.length → i ≤ a.edges.length → (onP a j i).length + 1 ≤ 1000000 := fun j i hj hi => by
      rw [onP_len a j i hi]
      have : j * a.edges.length ≤ 6 * 2400 := Nat.mul_le_mul (by omega) (by omega)
      omega
    have hg4 : goalAt a 0 = a.goals.getD 0 default := goalAt0 (by omega)
    refine L16_0_rule ((0 : Nat), (.p .nil : AV), [y2], G4) (fun s => I s.1) (fun s => s.2.2.2)
      (fun s => s.1 ≤ a.goals.length ∧ St H [cellT r5 [I (a.goals.length * a.states), rowP q1' a.first, s.2.1, .sl ql 1 0 1], rgT 0 (.sl ql 1 0 1) [a.goals.getD 0 default] [ql, qn], cellT q1' (cP fI a.first), cellT r2 [I 0, .p .nil, .p .nil, .p .nil], cellT r [I a.states, Is a.first, Es a.edges, Ls a.goals], riT y1 (.p .nil) [] [y1], reT y2 s.2.1 (onF a s.1) s.2.2.1, rgT y3 (.p .nil) [] [y3], riT z1 (.p .nil) [] [z1], reT z2 (.p .nil) [] [z2], rgT z3 (.p .nil) [] [z3]] s.2.2.2) (fun s => a.goals.length - s.1)
      ⟨⟨by simp, st⟩, .refl _, Heap.le_refl _⟩ ?_
    clear st
    rintro ⟨j, x, D, G⟩ ⟨hj, st⟩
    dsimp only at hj st
    (try simp (maxSteps := 1000000) (disch := (first | assumption | (apply Ne.symm; assumption))) only [vw0, vw1, vw2, vw3, vw4, vu0, vu1, ↓condV_t, ↓condV_f, cap_nil, allocV, splice, partV, buildV, eqFieldsV, eqS, tabs, TK.agg, reduceCtorEq, Array.toList, List.map_cons, List.map_nil, ↓reduceIte, List.length_map, Nat.reduceAdd, Nat.reduceLeDiff, Nat.reduceLT, Nat.reduceMul, Nat.reduceSub, Option.bind_some, Option.map_some, bndV, numV, eI, eU, e8, eB, AV.isCell, Int.reduceToNat, Int.reduceSub, Int.reduceAdd, Int.reduceNeg, B16_0])
    refine ⟨fun h1 => ?_, fun h1 => ?_⟩
    · have hltj : j < a.goals.length := by omega
      have hgj := getD_all (p := fun x => smI x ∧ x.length ≤ 96) (d := default) fa.gi hltj
      (try simp (maxSteps := 1000000) (disch := (first | assumption | (apply Ne.symm; assumption))) only [vw0, vw1, vw2, vw3, vw4, vu0, vu1, ↓condV_t, ↓condV_f, cap_nil, allocV, splice, partV, buildV, eqFieldsV, eqS, tabs, TK.agg, reduceCtorEq, Array.toList, List.map_cons, List.map_nil, ↓reduceIte, List.length_map, Nat.reduceAdd, Nat.reduceLeDiff, Nat.reduceLT, Nat.reduceMul, Nat.reduceSub, Option.bind_some, Option.map_some, bndV, numV, eI, eU, e8, eB, AV.isCell, Int.reduceToNat, Int.reduceSub, Int.reduceAdd, Int.reduceNeg, load_at (st.get 4 rfl)])
      refine L16_1_rule ((0 : Nat), x, D, G) (fun s => I s.1) (fun s => s.2.2.2)
        (fun s => s.1 ≤ a.edges.length ∧ St H [cellT r5 [I (a.goals.length * a.states), rowP q1' a.first, s.2.1, .sl ql 1 0 1], rgT 0 (.sl ql 1 0 1) [a.goals.getD 0 default] [ql, qn], cellT q1' (cP fI a.first), cellT r2 [I 0, .p .nil, .p .nil, .p .nil], cellT r [I a.states, Is a.first, Es a.edges, Ls a.goals], riT y1 (.p .nil) [] [y1], reT y2 s.2.1 (onP a j s.1) s.2.2.1, rgT y3 (.p .nil) [] [y3], riT z1 (.p .nil) [] [z1], reT z2 (.p .nil) [] [z2], rgT z3 (.p .nil) [] [z3]] s.2.2.2) (fun s => a.edges.length - s.1)
        ⟨⟨by simp, by simp only [onP_zero]; exact st⟩, .refl _, Heap.le_refl _⟩ ?_
      clear st x D
      rintro ⟨i, x, D, G⟩ ⟨hi, st⟩
      dsimp only at hi st
      (try simp (maxSteps := 1000000) (disch := (first | assumption | (apply Ne.symm; assumption))) only [vw0, vw1, vw2, vw3, vw4, vu0, vu1, ↓condV_t, ↓condV_f, cap_nil, allocV, splice, partV, buildV, eqFieldsV, eqS, tabs, TK.agg, reduceCtorEq, Array.toList, List.map_cons, List.map_nil, ↓reduceIte, List.length_map, Nat.reduceAdd, Nat.reduceLeDiff, Nat.reduceLT, Nat.reduceMul, Nat.reduceSub, Option.bind_some, Option.map_some, bndV, numV, eI, eU, e8, eB, AV.isCell, Int.reduceToNat, Int.reduceSub, Int.reduceAdd, Int.reduceNeg, B16_1])
      refine ⟨fun h5 => ⟨by omega, h5, ?_⟩, fun h5 => ?_⟩
      · have hlti : i < a.edges.length := by omega
        have hm : a.edges.getD i default ∈ a.edges := getD_all (p := fun x => x ∈ a.edges) (fun _ h => h) hlti
        have hei := edIn_iff.1 (fa.ei _ hm)
        have hsucc := onP_succ a j hlti
        have hlp := hlen j i hltj hi
        generalize a.edges.getD i default = e at hei hsucc ⊢
        intro r8 hr8
        replace st := st.cell hr8 [I e.src, I e.lt, I e.dst]
        generalize G.set r8 [I e.src, I e.lt, I e.dst] = G5 at st ⊢
        (try simp (maxSteps := 1000000) (disch := (first | assumption | (apply Ne.symm; assumption))) only [vw0, vw1, vw2, vw3, vw4, vu0, vu1, ↓condV_t, ↓condV_f, cap_nil, allocV, splice, partV, buildV, eqFieldsV, eqS, tabs, TK.agg, reduceCtorEq, Array.toList, List.map_cons, List.map_nil, ↓reduceIte, List.length_map, Nat.reduceAdd, Nat.reduceLeDiff, Nat.reduceLT, Nat.reduceMul, Nat.reduceSub, Option.bind_some, Option.map_some, bndV, numV, eI, eU, e8, eB, AV.isCell, Int.reduceToNat, Int.reduceSub, Int.reduceAdd, Int.reduceNeg, load_at (st.get 0 rfl), load_at (st.get 5 rfl)])
        refine ⟨by omega, h1, ?_⟩
        refine Pu.use (l1Has_spec (a.goals.getD j default) e.src (by have := hgj.1.1; omega)) ?_
        have hto := onTo_bound (a := a) e hltj
        have m1 := mul_bd (a := j) (A := 6) (b := a.states) (B := 96) (by omega) (by omega)
        have m2 := mul_bd (a := onTo a j e) (A := 6) (b := a.states) (B := 96) (by omega) (by omega)
        have e1 : IntKind.i64.wrap (a.states * j) = j * a.states := by rw [Int.mul_comm]; exact i64_id (by omega) (by omega)
        have e2 : IntKind.i64.wrap (a.states * onTo a j e) = onTo a j e * a.states := by rw [Int.mul_comm]; exact i64_id (by omega) (by omega)
        have e3 : IntKind.i64.wrap (e.src + j * a.states) = e.src + j * a.states := i64_id (by omega) (by omega)
        have e4 : IntKind.i64.wrap (e.dst + onTo a j e * a.states) = e.dst + onTo a j e * a.states := i64_id (by omega) (by omega)
        have e5 : IntKind.i64.wrap ((j : Int) + 1) = j + 1 := i64_id (by omega) (by omega)
        have key : ∀ (N1 N2 : AV → Heap → Prop) (v : Int), v = onTo a j e → (∀ x' D' G', St H [cellT r5 [I (a.goals.length * a.states), rowP q1' a.first, x', .sl ql 1 0 1], rgT 0 (.sl ql 1 0 1) [a.goals.getD 0 default] [ql, qn], cellT q1' (cP fI a.first), cellT r2 [I 0, .p .nil, .p .nil, .p .nil], cellT r [I a.states, Is a.first, Es a.edges, Ls a.goals], riT y1 (.p .nil) [] [y1], reT y2 x' (onP a j (i + 1)) D', rgT y3 (.p .nil) [] [y3], riT z1 (.p .nil) [] [z1], reT z2 (.p .nil) [] [z2], rgT z3 (.p .nil) [] [z3]] G' → N2 (I ((i + 1 : Nat) : Int)) G') →
            J16_2 (wkK K) N1 N2 (.ptr r 0) (.ptr r2 0) (I a.goals.length) (.ptr r5 0) (I j) (.ptr r8 0) (I v) (Es a.edges) (I a.edges.length) (I i) G5 := by
          rintro N1 N2 _ rfl hN
          (try simp (maxSteps := 1000000) (disch := (first | assumption | (apply Ne.symm; assumption))) only [vw0, vw1, vw2, vw3, vw4, vu0, vu1, ↓condV_t, ↓condV_f, cap_nil, allocV, splice, partV, buildV, eqFieldsV, eqS, tabs, TK.agg, reduceCtorEq, Array.toList, List.map_cons, List.map_nil, ↓reduceIte, List.length_map, Nat.reduceAdd, Nat.reduceLeDiff, Nat.reduceLT, Nat.reduceMul, Nat.reduceSub, Option.bind_some, Option.map_some, bndV, numV, eI, eU, e8, eB, AV.isCell, Int.reduceToNat, Int.reduceSub, Int.reduceAdd, Int.reduceNeg, J16_2, load_at (st.get 0 rfl), load_at (st.get 1 rfl), load_at (st.get 5 rfl), e1, e2, e3, e4])
          refine lit_edge (x := onE a j e) ?_
          refine rz_appE st 7 rfl (by simp only [List.length_cons, List.length_nil]; omega) fun q' G' hq' st => ?_
          rw [← hsucc] at st ⊢
          (try simp (maxSteps := 1000000) (disch := (first | assumption | (apply Ne.symm; assumption))) only [vw0, vw1, vw2, vw3, vw4, vu0, vu1, ↓condV_t, ↓condV_f, cap_nil, allocV, splice, partV, buildV, eqFieldsV, eqS, tabs, TK.agg, reduceCtorEq, Array.toList, List.map_cons, List.map_nil, ↓reduceIte, List.length_map, Nat.reduceAdd, Nat.reduceLeDiff, Nat.reduceLT, Nat.reduceMul, Nat.reduceSub, Option.bind_some, Option.map_some, bndV, numV, eI, eU, e8, eB, AV.isCell, Int.reduceToNat, Int.reduceSub, Int.reduceAdd, Int.reduceNeg, store_at (st.get 1 rfl)])
          have := hN _ _ _ (st.put 1 rfl [I (a.goals.length * a.states), rowP q1' a.first, rowE q' (onP a j (i + 1)), .sl ql 1 0 1]).drop
          have e6 : IntKind.i64.wrap ((i : Int) + 1) = ((i + 1 : Nat) : Int) := by rw [i64_id (by omega) (by omega)]; simp
          rw [e6]
          exact this
        by_cases hc : e.src ∈ a.goals.getD j default
        · rw [decide_eq_true hc]
          (try simp (maxSteps := 1000000) (disch := (first | assumption | (apply Ne.symm; assumption))) only [vw0, vw1, vw2, vw3, vw4, vu0, vu1, ↓condV_t, ↓condV_f, cap_nil, allocV, splice, partV, buildV, eqFieldsV, eqS, tabs, TK.agg, reduceCtorEq, Array.toList, List.map_cons, List.map_nil, ↓reduceIte, List.length_map, Nat.reduceAdd, Nat.reduceLeDiff, Nat.reduceLT, Nat.reduceMul, Nat.reduceSub, Option.bind_some, Option.map_some, bndV, numV, eI, eU, e8, eB, AV.isCell, Int.reduceToNat, Int.reduceSub, Int.reduceAdd, Int.reduceNeg, e5])
          refine ⟨by omega, key _ _ _ ?_ fun x' D' G' st => ⟨(i + 1, x', D', G'), ⟨by simp only; omega, st⟩, by simp only; omega, .refl _, Heap.le_refl _⟩⟩
          rw [onTo, if_pos hc, Int.tmod_eq_emod_of_nonneg (by omega)]; simp
        · rw [decide_eq_false hc]
          (try simp (maxSteps := 1000000) (disch := (first | assumption | (apply Ne.symm; assumption))) only [vw0, vw1, vw2, vw3, vw4, vu0, vu1, ↓condV_t, ↓condV_f, cap_nil, allocV, splice, partV, buildV, eqFieldsV, eqS, tabs, TK.agg, reduceCtorEq, Array.toList, List.map_cons, List.map_nil, ↓reduceIte, List.length_map, Nat.reduceAdd, Nat.reduceLeDiff, Nat.reduceLT, Nat.reduceMul, Nat.reduceSub, Option.bind_some, Option.map_some, bndV, numV, eI, eU, e8, eB, AV.isCell, Int.reduceToNat, Int.reduceSub, Int.reduceAdd, Int.reduceNeg])
          refine key _ _ _ ?_ fun x' D' G' st => ⟨(i + 1, x', D', G'), ⟨by simp only; omega, st⟩, by simp only; omega, .refl _, Heap.le_refl _⟩
          rw [onTo, if_neg hc]
      · have : i = a.edges.length := by omega
        subst this
        rw [onP_all] at st
        refine ⟨(j + 1, x, D, G), ⟨by simp only; omega, st⟩, by simp only; omega, ?_, Heap.le_refl _⟩
        rw [wk_int, i64_id (by omega) (by omega)]; simp
    · have : j = a.goals.length := by omega
      subst this
      obtain ⟨u1, u2, u3, hw, st⟩ := rz_au (a.goals.length * a.states) ((((owned_i st 2 rfl).pick 2 rfl).pick 6 rfl).pick 3 rfl)
      (try simp (maxSteps := 1000000) (disch := (first | assumption | (apply Ne.symm; assumption))) only [vw0, vw1, vw2, vw3, vw4, vu0, vu1, ↓condV_t, ↓condV_f, cap_nil, allocV, splice, partV, buildV, eqFieldsV, eqS, tabs, TK.agg, reduceCtorEq, Array.toList, List.map_cons, List.map_nil, ↓reduceIte, List.length_map, Nat.reduceAdd, Nat.reduceLeDiff, Nat.reduceLT, Nat.reduceMul, Nat.reduceSub, Option.bind_some, Option.map_some, bndV, numV, eI, eU, e8, eB, AV.isCell, Int.reduceToNat, Int.reduceSub, Int.reduceAdd, Int.reduceNeg, load_at (st.get 1 rfl)])
      refine CallT.args (args' := [.agg [I (a.goals.length * a.states), .sl u1 1 0 a.first.length, .sl u2 3 0 (onF a a.goals.length).length, .sl u3 1 0 1]]) ?_ ⟨hw, trivial⟩
      refine l12Made_live (o := onT a) (st.get 0 rfl) (st.ndT 0 rfl) (onT_sm fa) (fun hgo => ?_) (fun hgo => ?_)
      · have er : onR a = (onT a, true) := by simp only [onR, ga, hgo, if_true, if_neg (show ¬ a.goals.length < 2 by omega)]
        rw [er] at h
        (try simp (maxSteps := 1000000) (disch := (first | assumption | (apply Ne.symm; assumption))) only [vw0, vw1, vw2, vw3, vw4, vu0, vu1, ↓condV_t, ↓condV_f, cap_nil, allocV, splice, partV, buildV, eqFieldsV, eqS, tabs, TK.agg, reduceCtorEq, Array.toList, List.map_cons, List.map_nil, ↓reduceIte, List.length_map, Nat.reduceAdd, Nat.reduceLeDiff, Nat.reduceLT, Nat.reduceMul, Nat.reduceSub, Option.bind_some, Option.map_some, bndV, numV, eI, eU, e8, eB, AV.isCell, Int.reduceToNat, Int.reduceSub, Int.reduceAdd, Int.reduceNeg, store_at (st.get 2 rfl)])
        obtain ⟨hl, hn⟩ := au_new (st.put 2 rfl [I (a.goals.length * a.states), .sl u1 1 0 a.first.length, .sl u2 3 0 (onF a a.goals.length).length, .sl u3 1 0 1]) 0 rfl
        exact wkK.keep (h _ _ _ hl hn)
      · have er : onR a = (zeroA, false) := by simp only [onR, ga, hgo, if_true, Bool.false_eq_true, if_false, if_neg (show ¬ a.goals.length < 2 by omega)]
        rw [er] at h
        (try simp (maxSteps := 1000000) (disch := (first | assumption | (apply Ne.symm; assumption))) only [vw0, vw1, vw2, vw3, vw4, vu0, vu1, ↓condV_t, ↓condV_f, cap_nil, allocV, splice, partV, buildV, eqFieldsV, eqS, tabs, TK.agg, reduceCtorEq, Array.toList, List.map_cons, List.map_nil, ↓reduceIte, List.length_map, Nat.reduceAdd, Nat.reduceLeDiff, Nat.reduceLT, Nat.reduceMul, Nat.reduceSub, Option.bind_some, Option.map_some, bndV, numV, eI, eU, e8, eB, AV.isCell, Int.reduceToNat, Int.reduceSub, Int.reduceAdd, Int.reduceNeg, store_at (st.get 2 rfl)])
        exact zero_st (st.put 2 rfl [I 0, .p .nil, .p .nil, .p .nil]) 6 7 8 rfl rfl rfl (by decide) (by decide) (by decide) h
