/- Specs: the states of a class. -/
import Derived.Test.YthlbkcgnacemgaaLt5
import Derived.Test.YthlbkcgnacemgaaLe9
namespace Go.Proofs.Ythlbkcgnacemgaa
open Go Go.Sep Go.Pt
set_option linter.unusedSimpArgs false
set_option linter.unusedVariables false
attribute [local irreducible] CallT

theorem push_int {q : Nat} {xs : List Int} {b : Int} {G : Heap} {K : AV → Heap → Prop} (hq : G q = some (cP fI xs)) (hl : xs.length ≤ 100000000)
    (h : ∀ q', G q' = none → q' ≠ q → K (rowP q' (xs ++ [b])) ((G.del q).set q' (cP fI (xs ++ [b])))) :
    buildSliceV tab 26 1 [(0, I b)] G (wkK fun v H1 => appendV tab 26 26 (rowP q xs) v H1 (wkK K)) := by
  refine lit1 tab_26 rfl tab_3 ⟨rfl, rfl⟩ ?_
  refine app_row (f := fI) (ys := [b]) tab_26 rfl tab_3 rfl (by decide) hq (by simp; omega) fun q' hq' => h q' hq' fun e => by rw [e, hq] at hq'; cases hq'

def inCl (of : List Int) (c : Int) (n : Nat) : List Int := ((List.range n).filter fun i => decide (of.getD i default = c)).map fun (i : Nat) => (i : Int)
theorem inCl_t {of : List Int} {c : Int} {n : Nat} (h : of.getD n default = c) : inCl of c (n + 1) = inCl of c n ++ [(n : Int)] := by
  have e : [n].filter (fun i => decide (of.getD i default = c)) = [n] := by rw [List.filter_cons_of_pos (by exact decide_eq_true h)]; rfl
  simp only [inCl, List.range_succ, List.filter_append, List.map_append, e]; rfl
theorem inCl_f {of : List Int} {c : Int} {n : Nat} (h : ¬ of.getD n default = c) : inCl of c (n + 1) = inCl of c n := by
  have e : [n].filter (fun i => decide (of.getD i default = c)) = [] := by rw [List.filter_cons_of_neg (by simpa using h)]; rfl
  simp only [inCl, List.range_succ, List.filter_append, List.map_append, e, List.append_nil, List.map_nil]
theorem inCl_len (of : List Int) (c : Int) (n : Nat) : (inCl of c n).length ≤ n := by
  simp only [inCl, List.length_map]
  have := List.length_filter_le (fun i => decide (of.getD i default = c)) (List.range n)
  simpa using this

theorem statesIn_spec (of : List Int) (c : Int) (hl : of.length ≤ 1048576) {H : Heap} {K : AV → Heap → Prop} (h : ∀ q, H q = none → K (rowP q (inCl of c of.length)) (H.set q (cP fI (inCl of c of.length)))) : CallT Try.prog 45 [aS of, I c] H K := by
  refine CallT.fin ?_
  refine W45_ok ?_; simp (maxSteps := 1000000) (disch := (first | assumption | (apply Ne.symm; assumption))) only [W45, vw0, vw1, vw2, vw3, vw4, vu0, vu1, ↓condV_t, ↓condV_f, allocV, splice, partV, buildV, eqFieldsV, eqS, tabs, TK.agg, reduceCtorEq, Array.toList, List.map_cons, List.map_nil, ↓reduceIte, List.length_map, Nat.reduceAdd, Nat.reduceLeDiff, Nat.reduceLT, Nat.reduceMul, Nat.reduceSub, Option.bind_some, Option.map_some, bndV, numV, eI, eU, e8, eB, AV.isCell, Int.reduceToNat, Int.reduceSub, Int.reduceAdd, Int.reduceNeg, buildSliceV, zerosA, List.replicate_zero, List.flatten_nil]
  intro r hr q0 hq0r hq0
  refine wkK.keep ?_
  have hne : r ≠ q0 := Ne.symm hq0r
  (try simp (maxSteps := 1000000) (disch := (first | assumption | (apply Ne.symm; assumption))) only [vw0, vw1, vw2, vw3, vw4, vu0, vu1, ↓condV_t, ↓condV_f, allocV, splice, partV, buildV, eqFieldsV, eqS, tabs, TK.agg, reduceCtorEq, Array.toList, List.map_cons, List.map_nil, ↓reduceIte, List.length_map, Nat.reduceAdd, Nat.reduceLeDiff, Nat.reduceLT, Nat.reduceMul, Nat.reduceSub, Option.bind_some, Option.map_some, bndV, numV, eI, eU, e8, eB, AV.isCell, Int.reduceToNat, Int.reduceSub, Int.reduceAdd, Int.reduceNeg])
  refine L45_0_rule ((0 : Nat), q0) (fun s => rowP s.2 (inCl of c s.1)) (fun s => I s.1) (fun s => (H.set r [Is of]).set s.2 (cP fI (inCl of c s.1)))
    (fun s => s.1 ≤ of.length ∧ H s.2 = none ∧ s.2 ≠ r) (fun s => of.length - s.1) ⟨⟨by simp, hq0, hq0r⟩, .refl _, .refl _, Heap.le_refl _⟩ ?_
  rintro ⟨i, q⟩ ⟨hi, hq, hqr⟩
  dsimp only at hi hq hqr
  have hil := inCl_len of c i
  (try simp (maxSteps := 1000000) (disch := (first | assumption | (apply Ne.symm; assumption))) only [vw0, vw1, vw2, vw3, vw4, vu0, vu1, ↓condV_t, ↓condV_f, allocV, splice, partV, buildV, eqFieldsV, eqS, tabs, TK.agg, reduceCtorEq, Array.toList, List.map_cons, List.map_nil, ↓reduceIte, List.length_map, Nat.reduceAdd, Nat.reduceLeDiff, Nat.reduceLT, Nat.reduceMul, Nat.reduceSub, Option.bind_some, Option.map_some, bndV, numV, eI, eU, e8, eB, AV.isCell, Int.reduceToNat, Int.reduceSub, Int.reduceAdd, Int.reduceNeg, B45_0])
  refine ⟨fun h1 => ⟨by omega, h1, fun h2 => ?_, fun h2 => ?_⟩, fun h1 => ?_⟩
  · refine push_int (q := q) (xs := inCl of c i) (b := i) (Heap.set_same _ _ _) (by omega) fun q' hq' hne' => ?_
    simp only [Heap.set_none] at hq'
    obtain ⟨p1, p2, p3⟩ := hq'
    (try simp (maxSteps := 1000000) (disch := (first | assumption | (apply Ne.symm; assumption))) only [vw0, vw1, vw2, vw3, vw4, vu0, vu1, ↓condV_t, ↓condV_f, allocV, splice, partV, buildV, eqFieldsV, eqS, tabs, TK.agg, reduceCtorEq, Array.toList, List.map_cons, List.map_nil, ↓reduceIte, List.length_map, Nat.reduceAdd, Nat.reduceLeDiff, Nat.reduceLT, Nat.reduceMul, Nat.reduceSub, Option.bind_some, Option.map_some, bndV, numV, eI, eU, e8, eB, AV.isCell, Int.reduceToNat, Int.reduceSub, Int.reduceAdd, Int.reduceNeg])
    refine ⟨(i + 1, q'), ⟨by simp only; omega, p3, p2⟩, by simp only; omega, ?_, ?_, ?_⟩
    · simp only [inCl_t h2]; exact .refl _
    · rw [wk_int, i64_id (by omega) (by omega)]; simp
    · simp only [inCl_t h2]
      generalize cP fI (inCl of c i ++ [(i : Int)]) = z
      (intro y b hy; simp only [Heap.set, Heap.del] at hy ⊢; (repeat' split at hy) <;> (repeat' split) <;> simp_all [cells])
  · refine ⟨(i + 1, q), ⟨by simp only; omega, hq, hqr⟩, by simp only; omega, ?_, ?_, ?_⟩
    · simp only [inCl_f h2]; exact .refl _
    · rw [wk_int, i64_id (by omega) (by omega)]; simp
    · simp only [inCl_f h2]; exact Heap.le_refl _
  · have : i = of.length := by omega
    subst this
    refine fin_le (H := H.set q (cP fI (inCl of c of.length))) ?_ (h q hq)
    generalize cP fI (inCl of c of.length) = z
    (intro y b hy; simp only [Heap.set, Heap.del] at hy ⊢; (repeat' split at hy) <;> (repeat' split) <;> simp_all [cells])

theorem l15In_spec (of : List Int) (c : Int) (hl : of.length ≤ 1048576) : Pu Try.prog 43 [aS of, I c] (Is (inCl of c of.length)) := by
  refine ⟨fun H => CallT.fin ?_⟩
  refine CallT.ghost W43_hb fun q0 hq0 => ?_
  refine W43_ok ?_; simp (maxSteps := 1000000) (disch := (first | assumption | (apply Ne.symm; assumption))) only [W43, vw0, vw1, vw2, vw3, vw4, vu0, vu1, ↓condV_t, ↓condV_f, allocV, splice, partV, buildV, eqFieldsV, eqS, tabs, TK.agg, reduceCtorEq, Array.toList, List.map_cons, List.map_nil, ↓reduceIte, List.length_map, Nat.reduceAdd, Nat.reduceLeDiff, Nat.reduceLT, Nat.reduceMul, Nat.reduceSub, Option.bind_some, Option.map_some, bndV, numV, eI, eU, e8, eB, AV.isCell, Int.reduceToNat, Int.reduceSub, Int.reduceAdd, Int.reduceNeg]
  intro r hr1 hr
  refine L43_0_rule ((0 : Nat), q0) (fun s => rowP s.2 (inCl of c s.1)) (fun s => I s.1) (fun s => (H.set r [Is of]).set s.2 (cP fI (inCl of c s.1)))
    (fun s => s.1 ≤ of.length ∧ H s.2 = none ∧ s.2 ≠ r) (fun s => of.length - s.1) ⟨⟨by simp, hq0, Ne.symm hr1⟩, .nilo _ _ _, .refl _, ?_⟩ ?_
  · simp only [inCl, List.range_zero, List.filter_nil, List.map_nil, cP]
    (intro y b hy; simp only [Heap.set, Heap.del] at hy ⊢; (repeat' split at hy) <;> (repeat' split) <;> simp_all [cells])
  rintro ⟨i, q⟩ ⟨hi, hq, hqr⟩
  dsimp only at hi hq hqr
  have hil := inCl_len of c i
  (try simp (maxSteps := 1000000) (disch := (first | assumption | (apply Ne.symm; assumption))) only [vw0, vw1, vw2, vw3, vw4, vu0, vu1, ↓condV_t, ↓condV_f, allocV, splice, partV, buildV, eqFieldsV, eqS, tabs, TK.agg, reduceCtorEq, Array.toList, List.map_cons, List.map_nil, ↓reduceIte, List.length_map, Nat.reduceAdd, Nat.reduceLeDiff, Nat.reduceLT, Nat.reduceMul, Nat.reduceSub, Option.bind_some, Option.map_some, bndV, numV, eI, eU, e8, eB, AV.isCell, Int.reduceToNat, Int.reduceSub, Int.reduceAdd, Int.reduceNeg, B43_0])
  refine ⟨fun h1 => ⟨by omega, h1, fun h2 => ?_, fun h2 => ?_⟩, fun h1 => ?_⟩
  · refine push_int (q := q) (xs := inCl of c i) (b := i) (Heap.set_same _ _ _) (by omega) fun q' hq' hne' => ?_
    simp only [Heap.set_none] at hq'
    obtain ⟨p1, p2, p3⟩ := hq'
    (try simp (maxSteps := 1000000) (disch := (first | assumption | (apply Ne.symm; assumption))) only [vw0, vw1, vw2, vw3, vw4, vu0, vu1, ↓condV_t, ↓condV_f, allocV, splice, partV, buildV, eqFieldsV, eqS, tabs, TK.agg, reduceCtorEq, Array.toList, List.map_cons, List.map_nil, ↓reduceIte, List.length_map, Nat.reduceAdd, Nat.reduceLeDiff, Nat.reduceLT, Nat.reduceMul, Nat.reduceSub, Option.bind_some, Option.map_some, bndV, numV, eI, eU, e8, eB, AV.isCell, Int.reduceToNat, Int.reduceSub, Int.reduceAdd, Int.reduceNeg])
    refine ⟨(i + 1, q'), ⟨by simp only; omega, p3, p2⟩, by simp only; omega, ?_, ?_, ?_⟩
    · simp only [inCl_t h2]; exact .refl _
    · rw [wk_int, i64_id (by omega) (by omega)]; simp
    · simp only [inCl_t h2]
      generalize cP fI (inCl of c i ++ [(i : Int)]) = z
      (intro y b hy; simp only [Heap.set, Heap.del] at hy ⊢; (repeat' split at hy) <;> (repeat' split) <;> simp_all [cells])
  · refine ⟨(i + 1, q), ⟨by simp only; omega, hq, hqr⟩, by simp only; omega, ?_, ?_, ?_⟩
    · simp only [inCl_f h2]; exact .refl _
    · rw [wk_int, i64_id (by omega) (by omega)]; simp
    · simp only [inCl_f h2]; exact Heap.le_refl _
  · have : i = of.length := by omega
    subst this
    have := fin_own (sz := 1) (es := (inCl of c of.length).map eI) (q := q) (H := H) (H' := (H.set r [Is of]).set q (cP fI (inCl of c of.length))) (K := fun r H' => r = Is (inCl of c of.length) ∧ H' = H) (by omega) (szI _) hq (by
      have e : cells ((inCl of c of.length).map eI) = cP fI (inCl of c of.length) := cells_P fI _
      rw [e]
      generalize cP fI (inCl of c of.length) = z
      (intro y b hy; simp only [Heap.set, Heap.del] at hy ⊢; (repeat' split at hy) <;> (repeat' split) <;> simp_all [cells])) ⟨rfl, rfl⟩
    simpa only [Go.Sep.own, List.length_map] using this

def okCl (p : Pg) (of : List Int) (c : Int) : Bool := goodSt p of && (decide (0 ≤ c) && decide (c < nClasses p of))
def stIn (p : Pg) (of : List Int) (c : Int) : List Int := if okCl p of c then inCl of c of.length else []

theorem isClass_spec (p : Pg) (of : List Int) (c : Int) (hp : vPg p) (hl : of.length ≤ 1048576) : Pu Try.prog 44 [aPg p, aS of, I c] (B (okCl p of c)) := by
  refine Pu.of fun H => ?_
  refine W44_ok ?_; simp (maxSteps := 1000000) (disch := (first | assumption | (apply Ne.symm; assumption))) only [W44, vw0, vw1, vw2, vw3, vw4, vu0, vu1, ↓condV_t, ↓condV_f, allocV, splice, partV, buildV, eqFieldsV, eqS, tabs, TK.agg, reduceCtorEq, Array.toList, List.map_cons, List.map_nil, ↓reduceIte, List.length_map, Nat.reduceAdd, Nat.reduceLeDiff, Nat.reduceLT, Nat.reduceMul, Nat.reduceSub, Option.bind_some, Option.map_some, bndV, numV, eI, eU, e8, eB, AV.isCell, Int.reduceToNat, Int.reduceSub, Int.reduceAdd, Int.reduceNeg]
  intro r hr r3 n3 hr3
  have nn3 : r ≠ r3 := Ne.symm n3
  have hle := Heap.le_setN (b := [Is of]) (Heap.le_set (b := [I p.wide, I p.vars, Ns p.start, Cms p.cmds]) hr) hr3
  (try simp (maxSteps := 1000000) (disch := (first | assumption | (apply Ne.symm; assumption))) only [vw0, vw1, vw2, vw3, vw4, vu0, vu1, ↓condV_t, ↓condV_f, allocV, splice, partV, buildV, eqFieldsV, eqS, tabs, TK.agg, reduceCtorEq, Array.toList, List.map_cons, List.map_nil, ↓reduceIte, List.length_map, Nat.reduceAdd, Nat.reduceLeDiff, Nat.reduceLT, Nat.reduceMul, Nat.reduceSub, Option.bind_some, Option.map_some, bndV, numV, eI, eU, e8, eB, AV.isCell, Int.reduceToNat, Int.reduceSub, Int.reduceAdd, Int.reduceNeg])
  refine Pu.use (GoodSight_impl p of hp hl) ?_
  cases h : goodSt p of
  · (try simp (maxSteps := 1000000) (disch := (first | assumption | (apply Ne.symm; assumption))) only [vw0, vw1, vw2, vw3, vw4, vu0, vu1, ↓condV_t, ↓condV_f, allocV, splice, partV, buildV, eqFieldsV, eqS, tabs, TK.agg, reduceCtorEq, Array.toList, List.map_cons, List.map_nil, ↓reduceIte, List.length_map, Nat.reduceAdd, Nat.reduceLeDiff, Nat.reduceLT, Nat.reduceMul, Nat.reduceSub, Option.bind_some, Option.map_some, bndV, numV, eI, eU, e8, eB, AV.isCell, Int.reduceToNat, Int.reduceSub, Int.reduceAdd, Int.reduceNeg])
    exact ⟨by simp only [okCl, h, Bool.false_and], hle⟩
  · obtain ⟨hs, hlen, k, hk⟩ := good_run h
    have := states_rng hs
    have hnc : nClasses p of = k := by simp only [nClasses, h, if_true, hk, Option.getD_some]
    (try simp (maxSteps := 1000000) (disch := (first | assumption | (apply Ne.symm; assumption))) only [vw0, vw1, vw2, vw3, vw4, vu0, vu1, ↓condV_t, ↓condV_f, allocV, splice, partV, buildV, eqFieldsV, eqS, tabs, TK.agg, reduceCtorEq, Array.toList, List.map_cons, List.map_nil, ↓reduceIte, List.length_map, Nat.reduceAdd, Nat.reduceLeDiff, Nat.reduceLT, Nat.reduceMul, Nat.reduceSub, Option.bind_some, Option.map_some, bndV, numV, eI, eU, e8, eB, AV.isCell, Int.reduceToNat, Int.reduceSub, Int.reduceAdd, Int.reduceNeg])
    refine ⟨fun h1 => ?_, fun h1 => ⟨?_, hle⟩⟩
    · refine Pu.use (classes_spec of k hk hl (by omega)) ?_
      (try simp (maxSteps := 1000000) (disch := (first | assumption | (apply Ne.symm; assumption))) only [vw0, vw1, vw2, vw3, vw4, vu0, vu1, ↓condV_t, ↓condV_f, allocV, splice, partV, buildV, eqFieldsV, eqS, tabs, TK.agg, reduceCtorEq, Array.toList, List.map_cons, List.map_nil, ↓reduceIte, List.length_map, Nat.reduceAdd, Nat.reduceLeDiff, Nat.reduceLT, Nat.reduceMul, Nat.reduceSub, Option.bind_some, Option.map_some, bndV, numV, eI, eU, e8, eB, AV.isCell, Int.reduceToNat, Int.reduceSub, Int.reduceAdd, Int.reduceNeg])
      exact ⟨by simp [okCl, h, h1, hnc], hle⟩
    · simp [okCl, h1]

theorem StatesIn_impl (p : Pg) (of : List Int) (c : Int) (hp : vPg p) (hl : of.length ≤ 1048576) {H : Heap} {K : AV → Heap → Prop}
    (hb : okCl p of c = false → K (.tup [.p .nil, B false]) H)
    (hg : okCl p of c = true → ∀ q, H q = none → K (.tup [rowP q (inCl of c of.length), B true]) (H.set q (cP fI (inCl of c of.length)))) : CallT Try.prog 20 [aPg p, aS of, I c] H K := by
  refine CallT.fin ?_
  refine W20_ok ?_; simp (maxSteps := 1000000) (disch := (first | assumption | (apply Ne.symm; assumption))) only [W20, vw0, vw1, vw2, vw3, vw4, vu0, vu1, ↓condV_t, ↓condV_f, allocV, splice, partV, buildV, eqFieldsV, eqS, tabs, TK.agg, reduceCtorEq, Array.toList, List.map_cons, List.map_nil, ↓reduceIte, List.length_map, Nat.reduceAdd, Nat.reduceLeDiff, Nat.reduceLT, Nat.reduceMul, Nat.reduceSub, Option.bind_some, Option.map_some, bndV, numV, eI, eU, e8, eB, AV.isCell, Int.reduceToNat, Int.reduceSub, Int.reduceAdd, Int.reduceNeg]
  intro r hr r3 n3 hr3
  have nn3 : r ≠ r3 := Ne.symm n3
  have hle := Heap.le_setN (b := [Is of]) (Heap.le_set (b := [I p.wide, I p.vars, Ns p.start, Cms p.cmds]) hr) hr3
  (try simp (maxSteps := 1000000) (disch := (first | assumption | (apply Ne.symm; assumption))) only [vw0, vw1, vw2, vw3, vw4, vu0, vu1, ↓condV_t, ↓condV_f, allocV, splice, partV, buildV, eqFieldsV, eqS, tabs, TK.agg, reduceCtorEq, Array.toList, List.map_cons, List.map_nil, ↓reduceIte, List.length_map, Nat.reduceAdd, Nat.reduceLeDiff, Nat.reduceLT, Nat.reduceMul, Nat.reduceSub, Option.bind_some, Option.map_some, bndV, numV, eI, eU, e8, eB, AV.isCell, Int.reduceToNat, Int.reduceSub, Int.reduceAdd, Int.reduceNeg])
  refine Pu.use (isClass_spec p of c hp hl) ?_
  cases h : okCl p of c
  · (try simp (maxSteps := 1000000) (disch := (first | assumption | (apply Ne.symm; assumption))) only [vw0, vw1, vw2, vw3, vw4, vu0, vu1, ↓condV_t, ↓condV_f, allocV, splice, partV, buildV, eqFieldsV, eqS, tabs, TK.agg, reduceCtorEq, Array.toList, List.map_cons, List.map_nil, ↓reduceIte, List.length_map, Nat.reduceAdd, Nat.reduceLeDiff, Nat.reduceLT, Nat.reduceMul, Nat.reduceSub, Option.bind_some, Option.map_some, bndV, numV, eI, eU, e8, eB, AV.isCell, Int.reduceToNat, Int.reduceSub, Int.reduceAdd, Int.reduceNeg])
    exact fin_le hle (hb h)
  · (try simp (maxSteps := 1000000) (disch := (first | assumption | (apply Ne.symm; assumption))) only [vw0, vw1, vw2, vw3, vw4, vu0, vu1, ↓condV_t, ↓condV_f, allocV, splice, partV, buildV, eqFieldsV, eqS, tabs, TK.agg, reduceCtorEq, Array.toList, List.map_cons, List.map_nil, ↓reduceIte, List.length_map, Nat.reduceAdd, Nat.reduceLeDiff, Nat.reduceLT, Nat.reduceMul, Nat.reduceSub, Option.bind_some, Option.map_some, bndV, numV, eI, eU, e8, eB, AV.isCell, Int.reduceToNat, Int.reduceSub, Int.reduceAdd, Int.reduceNeg])
    refine statesIn_spec of c hl fun q hq => ?_
    simp only [Heap.set_none] at hq
    obtain ⟨q1, q2, q3⟩ := hq
    (try simp (maxSteps := 1000000) (disch := (first | assumption | (apply Ne.symm; assumption))) only [vw0, vw1, vw2, vw3, vw4, vu0, vu1, ↓condV_t, ↓condV_f, allocV, splice, partV, buildV, eqFieldsV, eqS, tabs, TK.agg, reduceCtorEq, Array.toList, List.map_cons, List.map_nil, ↓reduceIte, List.length_map, Nat.reduceAdd, Nat.reduceLeDiff, Nat.reduceLT, Nat.reduceMul, Nat.reduceSub, Option.bind_some, Option.map_some, bndV, numV, eI, eU, e8, eB, AV.isCell, Int.reduceToNat, Int.reduceSub, Int.reduceAdd, Int.reduceNeg])
    refine fin_le ?_ (hg h q q3)
    generalize cP fI (inCl of c of.length) = z
    (intro y b hy; simp only [Heap.set, Heap.del] at hy ⊢; (repeat' split at hy) <;> (repeat' split) <;> simp_all [cells])

theorem StatesIn_spec (p : Pg) (of : List Int) (c : Int) (hp : vPg p) (hl : of.length ≤ 1048576) : Pu Try.prog 19 [aPg p, aS of, I c] (.tup [Is (stIn p of c), B (okCl p of c)]) := by
  refine ⟨fun H => CallT.fin ?_⟩
  refine W19_ok ?_; simp (maxSteps := 1000000) (disch := (first | assumption | (apply Ne.symm; assumption))) only [W19, vw0, vw1, vw2, vw3, vw4, vu0, vu1, ↓condV_t, ↓condV_f, allocV, splice, partV, buildV, eqFieldsV, eqS, tabs, TK.agg, reduceCtorEq, Array.toList, List.map_cons, List.map_nil, ↓reduceIte, List.length_map, Nat.reduceAdd, Nat.reduceLeDiff, Nat.reduceLT, Nat.reduceMul, Nat.reduceSub, Option.bind_some, Option.map_some, bndV, numV, eI, eU, e8, eB, AV.isCell, Int.reduceToNat, Int.reduceSub, Int.reduceAdd, Int.reduceNeg]
  intro r hr r3 n3 hr3
  have nn3 : r ≠ r3 := Ne.symm n3
  have hle := Heap.le_setN (b := [Is of]) (Heap.le_set (b := [I p.wide, I p.vars, Ns p.start, Cms p.cmds]) hr) hr3
  have bad : okCl p of c = false → wkK (fun r H' => r = .tup [Is (stIn p of c), B (okCl p of c)] ∧ H' = H) (.tup [.p .nil, B false]) ((H.set r [I p.wide, I p.vars, Ns p.start, Cms p.cmds]).set r3 [Is of]) := fun h =>
    ⟨_, H, .trans (.val (v' := .tup [Is [], B false]) (wk_tup ⟨.nil, .refl _, trivial⟩)) (.forget hle), by simp only [stIn, h, Bool.false_eq_true, if_false], rfl⟩
  (try simp (maxSteps := 1000000) (disch := (first | assumption | (apply Ne.symm; assumption))) only [vw0, vw1, vw2, vw3, vw4, vu0, vu1, ↓condV_t, ↓condV_f, allocV, splice, partV, buildV, eqFieldsV, eqS, tabs, TK.agg, reduceCtorEq, Array.toList, List.map_cons, List.map_nil, ↓reduceIte, List.length_map, Nat.reduceAdd, Nat.reduceLeDiff, Nat.reduceLT, Nat.reduceMul, Nat.reduceSub, Option.bind_some, Option.map_some, bndV, numV, eI, eU, e8, eB, AV.isCell, Int.reduceToNat, Int.reduceSub, Int.reduceAdd, Int.reduceNeg])
  refine Pu.use (GoodSight_spec p of hp hl) ?_
  cases h : goodSt p of
  · (try simp (maxSteps := 1000000) (disch := (first | assumption | (apply Ne.symm; assumption))) only [vw0, vw1, vw2, vw3, vw4, vu0, vu1, ↓condV_t, ↓condV_f, allocV, splice, partV, buildV, eqFieldsV, eqS, tabs, TK.agg, reduceCtorEq, Array.toList, List.map_cons, List.map_nil, ↓reduceIte, List.length_map, Nat.reduceAdd, Nat.reduceLeDiff, Nat.reduceLT, Nat.reduceMul, Nat.reduceSub, Option.bind_some, Option.map_some, bndV, numV, eI, eU, e8, eB, AV.isCell, Int.reduceToNat, Int.reduceSub, Int.reduceAdd, Int.reduceNeg])
    exact bad (by simp only [okCl, h, Bool.false_and])
  obtain ⟨hs, hlen, k, hk⟩ := good_run h
  have hkr := runS_rng _ _ _ (Int.le_refl 0) hk
  have hnc : nClasses p of = k := by simp only [nClasses, h, if_true, hk, Option.getD_some]
  (try simp (maxSteps := 1000000) (disch := (first | assumption | (apply Ne.symm; assumption))) only [vw0, vw1, vw2, vw3, vw4, vu0, vu1, ↓condV_t, ↓condV_f, allocV, splice, partV, buildV, eqFieldsV, eqS, tabs, TK.agg, reduceCtorEq, Array.toList, List.map_cons, List.map_nil, ↓reduceIte, List.length_map, Nat.reduceAdd, Nat.reduceLeDiff, Nat.reduceLT, Nat.reduceMul, Nat.reduceSub, Option.bind_some, Option.map_some, bndV, numV, eI, eU, e8, eB, AV.isCell, Int.reduceToNat, Int.reduceSub, Int.reduceAdd, Int.reduceNeg])
  refine Pu.use (l15Many_spec of k hk hl) ?_
  have e : IntKind.i64.wrap (k - 1) = k - 1 := i64_id (by omega) (by omega)
  (try simp (maxSteps := 1000000) (disch := (first | assumption | (apply Ne.symm; assumption))) only [vw0, vw1, vw2, vw3, vw4, vu0, vu1, ↓condV_t, ↓condV_f, allocV, splice, partV, buildV, eqFieldsV, eqS, tabs, TK.agg, reduceCtorEq, Array.toList, List.map_cons, List.map_nil, ↓reduceIte, List.length_map, Nat.reduceAdd, Nat.reduceLeDiff, Nat.reduceLT, Nat.reduceMul, Nat.reduceSub, Option.bind_some, Option.map_some, bndV, numV, eI, eU, e8, eB, AV.isCell, Int.reduceToNat, Int.reduceSub, Int.reduceAdd, Int.reduceNeg, e])
  refine Pu.use (l1In_B ..) ?_
  cases hin : inB c 0 (k - 1)
  · (try simp (maxSteps := 1000000) (disch := (first | assumption | (apply Ne.symm; assumption))) only [vw0, vw1, vw2, vw3, vw4, vu0, vu1, ↓condV_t, ↓condV_f, allocV, splice, partV, buildV, eqFieldsV, eqS, tabs, TK.agg, reduceCtorEq, Array.toList, List.map_cons, List.map_nil, ↓reduceIte, List.length_map, Nat.reduceAdd, Nat.reduceLeDiff, Nat.reduceLT, Nat.reduceMul, Nat.reduceSub, Option.bind_some, Option.map_some, bndV, numV, eI, eU, e8, eB, AV.isCell, Int.reduceToNat, Int.reduceSub, Int.reduceAdd, Int.reduceNeg])
    refine bad ?_
    rw [Bool.eq_false_iff]; intro hh
    simp only [okCl, Bool.and_eq_true, decide_eq_true_eq] at hh
    rw [inB_iff.2 (by omega)] at hin; cases hin
  · rw [inB_iff] at hin
    have hok : okCl p of c = true := by simp only [okCl, h, Bool.true_and, Bool.and_eq_true, decide_eq_true_eq]; omega
    (try simp (maxSteps := 1000000) (disch := (first | assumption | (apply Ne.symm; assumption))) only [vw0, vw1, vw2, vw3, vw4, vu0, vu1, ↓condV_t, ↓condV_f, allocV, splice, partV, buildV, eqFieldsV, eqS, tabs, TK.agg, reduceCtorEq, Array.toList, List.map_cons, List.map_nil, ↓reduceIte, List.length_map, Nat.reduceAdd, Nat.reduceLeDiff, Nat.reduceLT, Nat.reduceMul, Nat.reduceSub, Option.bind_some, Option.map_some, bndV, numV, eI, eU, e8, eB, AV.isCell, Int.reduceToNat, Int.reduceSub, Int.reduceAdd, Int.reduceNeg])
    refine Pu.use (l15In_spec of c hl) ?_
    (try simp (maxSteps := 1000000) (disch := (first | assumption | (apply Ne.symm; assumption))) only [vw0, vw1, vw2, vw3, vw4, vu0, vu1, ↓condV_t, ↓condV_f, allocV, splice, partV, buildV, eqFieldsV, eqS, tabs, TK.agg, reduceCtorEq, Array.toList, List.map_cons, List.map_nil, ↓reduceIte, List.length_map, Nat.reduceAdd, Nat.reduceLeDiff, Nat.reduceLT, Nat.reduceMul, Nat.reduceSub, Option.bind_some, Option.map_some, bndV, numV, eI, eU, e8, eB, AV.isCell, Int.reduceToNat, Int.reduceSub, Int.reduceAdd, Int.reduceNeg])
    exact fin_le hle ⟨by simp only [stIn, hok, if_true], rfl⟩

theorem or_empty (G : Heap) (n : Nat) : G.or (shH n fun _ => none) = G := by
  funext r
  cases h : G r with
  | none => simp [Heap.or, shH, h]
  | some b => simp [Heap.or, h]
theorem or_one {G : Heap} {n q : Nat} {cs : List AV} (hG : ∀ q, n ≤ q → G q = none) (hc : ∀ c ∈ cs, shC n c = c) : G.or (shH n (Heap.set (fun _ => none) q cs)) = G.set (q + n) cs := by
  funext r
  by_cases e : r = q + n
  · subst e
    rw [Heap.set_same]
    simp only [Heap.or, shH, hG (q + n) (by omega), show n ≤ q + n by omega, if_true, Nat.add_sub_cancel, Heap.set_same, Option.map_some]
    congr 1
    exact (List.map_congr_left hc).trans (List.map_id _)
  · rw [Heap.set_other e]
    simp only [Heap.or]
    cases hg : G r with
    | some b => rfl
    | none =>
      simp only [shH]
      split
      · rw [Heap.set_other (by omega)]; rfl
      · rfl

/-- The same, called with what is live. -/
theorem StatesIn_thaw (p : Pg) (of : List Int) (c : Int) (hp : vPg p) (hl : of.length ≤ 1048576) {args : List AV} {G G1 : Heap} {K : AV → Heap → Prop} (hw : Wk (.tup args) G (.tup [aPg p, aS of, I c]) G1)
    (hb : okCl p of c = false → K (.tup [.p .nil, B false]) G)
    (hg : okCl p of c = true → ∀ q, G q = none → K (.tup [rowP q (inCl of c of.length), B true]) (G.set q (cP fI (inCl of c of.length)))) : CallT Try.prog 20 args G K := by
  refine CallT.thawX (Q' := fun r H' => (okCl p of c = false ∧ r = .tup [.p .nil, B false] ∧ H' = fun _ => none) ∨ (okCl p of c = true ∧ ∃ q, r = .tup [rowP q (inCl of c of.length), B true] ∧ H' = Heap.set (fun _ => none) q (cP fI (inCl of c of.length)))) ?_ ?_ hw ?_
  · exact StatesIn_impl p of c hp hl (fun h => .inl ⟨h, rfl, rfl⟩) fun h q _ => .inr ⟨h, q, rfl, rfl⟩
  · have gb : ∀ b, Gd1 (B b) := fun b => .inr ⟨.p (.bool b), fun _ => rfl⟩
    rintro r H' (⟨_, rfl, rfl⟩ | ⟨_, q, rfl, rfl⟩)
    · refine ⟨.inl ⟨_, rfl, fun v hv => ?_⟩, fun q cs h => by cases h⟩
      rcases List.mem_cons.1 hv with rfl | hv
      · exact .inr ⟨.p .nil, fun _ => rfl⟩
      · rw [List.mem_singleton] at hv; rw [hv]; exact gb _
    · refine ⟨.inl ⟨_, rfl, fun v hv => ?_⟩, fun q' cs h v hv => ?_⟩
      · rcases List.mem_cons.1 hv with rfl | hv
        · exact .inr ⟨.inl ⟨_, _, _, _, rfl⟩, fun _ => rfl⟩
        · rw [List.mem_singleton] at hv; rw [hv]; exact gb _
      · by_cases e : q' = q
        · subst e
          rw [Heap.set_same] at h; cases h
          obtain ⟨x, _, rfl⟩ := List.mem_map.1 hv
          exact .p (.int _ _)
        · rw [Heap.set_other e] at h; cases h
  · rintro r H' n (⟨h, rfl, rfl⟩ | ⟨h, q, rfl, rfl⟩) hn
    · rw [or_empty]; exact hb h
    · rw [or_one hn (fun v hv => by obtain ⟨x, _, rfl⟩ := List.mem_map.1 hv; rfl)]
      exact hg h (q + n) (hn _ (by omega))
end Go.Proofs.Ythlbkcgnacemgaa
