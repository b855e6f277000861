/- Specs: terms put in the place of variables, by the reference. -/
import Derived.Test.YtlcnoflmlonikaaLm1
namespace Go.Proofs.Ytlcnoflmlonikaa
open Go Go.Sep Go.Pt
set_option linter.unusedSimpArgs false
set_option linter.unusedVariables false
attribute [local irreducible] CallT

abbrev optN (o : Option (List Nd)) : AV := .tup [Ns (o.getD []), B o.isSome]

theorem PutAll_spec (w v : Int) (t : List Nd) (bs : List (List Nd)) (ht : vT t) (hbl : bs.length ≤ 1048576) (hb : ∀ b ∈ bs, vT b) : Pu Try.prog 40 [I w, I v, Ns t, NNs bs] (optN (putAll w v t bs)) := by
  refine ⟨fun H => CallT.fin ?_⟩
  refine CallT.ghost W40_hb fun q0 hq0 => ?_
  have hle := Heap.le_set (b := []) hq0
  have bad : ¬ (gt w v t = true ∧ (bs.length : Int) = v ∧ (∀ b ∈ bs, kind w v b = 1)) → wkK (fun r H' => r = optN (putAll w v t bs) ∧ H' = H) (.tup [.p .nil, B false]) (H.set q0 []) := fun h =>
    ⟨_, H, .trans (.val (v' := .tup [Ns [], B false]) (wk_tup ⟨.nil, .refl _, trivial⟩)) (.forget hle), by rw [putAll_none h]; rfl, rfl⟩
  refine W40_ok ?_; simp (maxSteps := 1000000) (disch := (first | assumption | (apply Ne.symm; assumption))) only [W40, vw0, vw1, vw2, vw3, vw4, vu0, vu1, ↓condV_t, ↓condV_f, cap_nil, allocV, splice, partV, buildV, eqFieldsV, eqS, tabs, TK.agg, reduceCtorEq, Array.toList, List.map_cons, List.map_nil, ↓reduceIte, List.length_map, Nat.reduceAdd, Nat.reduceLeDiff, Nat.reduceLT, Nat.reduceMul, Nat.reduceSub, Option.bind_some, Option.map_some, bndV, numV, eI, eU, e8, eB, AV.isCell, Int.reduceToNat, Int.reduceSub, Int.reduceAdd, Int.reduceNeg]
  refine Pu.use (GoodTerm_ref w v t ht) ?_
  cases h : gt w v t
  · (try simp (maxSteps := 1000000) (disch := (first | assumption | (apply Ne.symm; assumption))) only [vw0, vw1, vw2, vw3, vw4, vu0, vu1, ↓condV_t, ↓condV_f, cap_nil, allocV, splice, partV, buildV, eqFieldsV, eqS, tabs, TK.agg, reduceCtorEq, Array.toList, List.map_cons, List.map_nil, ↓reduceIte, List.length_map, Nat.reduceAdd, Nat.reduceLeDiff, Nat.reduceLT, Nat.reduceMul, Nat.reduceSub, Option.bind_some, Option.map_some, bndV, numV, eI, eU, e8, eB, AV.isCell, Int.reduceToNat, Int.reduceSub, Int.reduceAdd, Int.reduceNeg])
    exact bad (by rw [h]; simp)
  (try simp (maxSteps := 1000000) (disch := (first | assumption | (apply Ne.symm; assumption))) only [vw0, vw1, vw2, vw3, vw4, vu0, vu1, ↓condV_t, ↓condV_f, cap_nil, allocV, splice, partV, buildV, eqFieldsV, eqS, tabs, TK.agg, reduceCtorEq, Array.toList, List.map_cons, List.map_nil, ↓reduceIte, List.length_map, Nat.reduceAdd, Nat.reduceLeDiff, Nat.reduceLT, Nat.reduceMul, Nat.reduceSub, Option.bind_some, Option.map_some, bndV, numV, eI, eU, e8, eB, AV.isCell, Int.reduceToNat, Int.reduceSub, Int.reduceAdd, Int.reduceNeg])
  refine ⟨fun h2 => bad (fun hh => h2 hh.2.1), fun h2 => ?_⟩
  refine L40_0_rule (0 : Nat) (fun i => I i) (fun _ => H.set q0 []) (fun i => i ≤ bs.length ∧ ∀ j (hj : j < bs.length), j < i → kind w v bs[j] = 1) (fun i => bs.length - i) ⟨⟨by omega, by intros; omega⟩, .refl _, Heap.le_refl _⟩ ?_
  rintro i ⟨hi, ha⟩
  (try simp (maxSteps := 1000000) (disch := (first | assumption | (apply Ne.symm; assumption))) only [vw0, vw1, vw2, vw3, vw4, vu0, vu1, ↓condV_t, ↓condV_f, cap_nil, allocV, splice, partV, buildV, eqFieldsV, eqS, tabs, TK.agg, reduceCtorEq, Array.toList, List.map_cons, List.map_nil, ↓reduceIte, List.length_map, Nat.reduceAdd, Nat.reduceLeDiff, Nat.reduceLT, Nat.reduceMul, Nat.reduceSub, Option.bind_some, Option.map_some, bndV, numV, eI, eU, e8, eB, AV.isCell, Int.reduceToNat, Int.reduceSub, Int.reduceAdd, Int.reduceNeg, B40_0])
  refine ⟨fun h5 => ⟨by omega, h5, ?_⟩, fun h5 => ?_⟩
  · have hlt : i < bs.length := by omega
    have hm : bs.getD i default ∈ bs := getD_all (p := fun x => x ∈ bs) (fun _ h => h) hlt
    refine Pu.use (l2Kind_spec w v (bs.getD i default) (hb _ hm).1 (hb _ hm).2) ?_
    (try simp (maxSteps := 1000000) (disch := (first | assumption | (apply Ne.symm; assumption))) only [vw0, vw1, vw2, vw3, vw4, vu0, vu1, ↓condV_t, ↓condV_f, cap_nil, allocV, splice, partV, buildV, eqFieldsV, eqS, tabs, TK.agg, reduceCtorEq, Array.toList, List.map_cons, List.map_nil, ↓reduceIte, List.length_map, Nat.reduceAdd, Nat.reduceLeDiff, Nat.reduceLT, Nat.reduceMul, Nat.reduceSub, Option.bind_some, Option.map_some, bndV, numV, eI, eU, e8, eB, AV.isCell, Int.reduceToNat, Int.reduceSub, Int.reduceAdd, Int.reduceNeg])
    refine ⟨fun h6 => bad (fun hh => h6 (hh.2.2 _ hm)), fun h6 => ⟨i + 1, ⟨by omega, fun j hj hji => ?_⟩, by omega, ?_⟩⟩
    · rcases Nat.lt_succ_iff_lt_or_eq.1 hji with h2 | rfl
      · exact ha j hj h2
      · rwa [getD_lt hlt] at h6
    · rw [wk_int, i64_id (by omega) (by omega)]; simp
  have hi2 : i = bs.length := by omega
  subst hi2
  have hall : ∀ b ∈ bs, kind w v b = 1 := by
    intro b hm
    obtain ⟨j, hj, rfl⟩ := List.mem_iff_getElem.1 hm
    exact ha j hj hj
  clear ha hi h5
  have hput := putAll_e (bs := bs) ⟨h, h2, hall⟩
  have hb48 : ∀ b ∈ bs, b.length ≤ 48 := fun b hm => (kind_len (hall b hm) (by decide)).2
  have htl := gt_len h
  refine L40_1_rule ((0 : Nat), q0) (fun s => rowN s.2 (subst bs (t.take s.1))) (fun s => I s.1) (fun s => H.set s.2 (cN (subst bs (t.take s.1))))
    (fun s => s.1 ≤ t.length ∧ H s.2 = none) (fun s => t.length - s.1) ⟨⟨by simp, hq0⟩, .nilo _ _ _, .refl _, ?_⟩ ?_
  · simp [subst, cells, Heap.le_refl]
  rintro ⟨i, q⟩ ⟨hi, hq⟩
  dsimp only at hi hq
  (try simp (maxSteps := 1000000) (disch := (first | assumption | (apply Ne.symm; assumption))) only [vw0, vw1, vw2, vw3, vw4, vu0, vu1, ↓condV_t, ↓condV_f, cap_nil, allocV, splice, partV, buildV, eqFieldsV, eqS, tabs, TK.agg, reduceCtorEq, Array.toList, List.map_cons, List.map_nil, ↓reduceIte, List.length_map, Nat.reduceAdd, Nat.reduceLeDiff, Nat.reduceLT, Nat.reduceMul, Nat.reduceSub, Option.bind_some, Option.map_some, bndV, numV, eI, eU, e8, eB, AV.isCell, Int.reduceToNat, Int.reduceSub, Int.reduceAdd, Int.reduceNeg, B40_1])
  refine ⟨fun h5 => ⟨by omega, h5, ?_⟩, fun h5 => ?_⟩
  · have hlt : i < t.length := by omega
    have hm : t.getD i default ∈ t := getD_all (p := fun x => x ∈ t) (fun _ h => h) hlt
    have hleaf := gt_leaf h hm
    have hokx := ht.2 _ hm
    have hsucc : subst bs (t.take (i + 1)) = subst bs (t.take i) ++ subst1 bs (t.getD i default) := by rw [take_succ_snoc hlt, subst_snoc]
    have hsl : (subst bs (t.take i)).length ≤ 48 * i := by
      have := subst_len hb48 (t.take i); rw [List.length_take, Nat.min_eq_left hi] at this; exact this
    generalize t.getD i default = x at hleaf hokx hsucc ⊢
    intro r9 n9q hr9
    (try simp (maxSteps := 1000000) (disch := (first | assumption | (apply Ne.symm; assumption))) only [vw0, vw1, vw2, vw3, vw4, vu0, vu1, ↓condV_t, ↓condV_f, cap_nil, allocV, splice, partV, buildV, eqFieldsV, eqS, tabs, TK.agg, reduceCtorEq, Array.toList, List.map_cons, List.map_nil, ↓reduceIte, List.length_map, Nat.reduceAdd, Nat.reduceLeDiff, Nat.reduceLT, Nat.reduceMul, Nat.reduceSub, Option.bind_some, Option.map_some, bndV, numV, eI, eU, e8, eB, AV.isCell, Int.reduceToNat, Int.reduceSub, Int.reduceAdd, Int.reduceNeg])
    have hqG : ∀ z, ((H.set q (cN (subst bs (t.take i)))).set r9 z) q = some (cN (subst bs (t.take i))) := fun z => by rw [Heap.set_other (Ne.symm n9q), Heap.set_same]
    have fin : ∀ q', ¬q' = r9 → ¬q' = q → H q' = none → ∃ s' : Nat × Nat, (s'.1 ≤ t.length ∧ H s'.2 = none) ∧ t.length - s'.1 < t.length - i ∧ AV.wk (rowN q' (subst bs (t.take i) ++ subst1 bs x)) (rowN s'.2 (subst bs (t.take s'.1))) ∧ AV.wk (I (IntKind.i64.wrap (i + 1))) (I s'.1) ∧
        Heap.le (H.set s'.2 (cN (subst bs (t.take s'.1)))) ((((H.set q (cN (subst bs (t.take i)))).set r9 [I x.op, U x.n]).del q).set q' (cN (subst bs (t.take i) ++ subst1 bs x))) := by
      intro q' p1 p2 p5
      refine ⟨(i + 1, q'), ⟨by simp only; omega, p5⟩, by simp only; omega, ?_, ?_, ?_⟩
      · simp only [hsucc]; exact .refl _
      · rw [wk_int, i64_id (by omega) (by omega)]; simp
      · simp only [hsucc]
        generalize cN (subst bs (t.take i) ++ subst1 bs x) = z
        (intro y b hy; simp only [Heap.set, Heap.del] at hy ⊢; (repeat' split at hy) <;> (repeat' split) <;> simp_all [cells])
    refine ⟨fun h6 => ?_, fun h6 => ?_⟩
    · have hn : x.n < v := by
        have := hleaf
        simp only [leafOk, h6, show ¬ (2 : Int) = 1 by decide, if_true, if_false, decide_eq_true_eq] at this
        exact this
      unfold okN at hokx
      have h1 : subst1 bs x = bs.getD x.n.toNat default := by simp only [subst1, h6, if_true]; rfl
      have hlen : (subst1 bs x).length ≤ 48 := by rw [h1]; exact getD_all (p := fun (b : List Nd) => b.length ≤ 48) hb48 (by omega)
      refine ⟨by omega, by omega, ?_⟩
      rw [← h1]
      refine app_nodes (q := q) (xs := subst bs (t.take i)) (ys := subst1 bs x) (hqG _) (by omega) fun q' hq' hne => ?_
      simp only [Heap.set_none] at hq'
      obtain ⟨p1, p2, p5⟩ := hq'
      (try simp (maxSteps := 1000000) (disch := (first | assumption | (apply Ne.symm; assumption))) only [vw0, vw1, vw2, vw3, vw4, vu0, vu1, ↓condV_t, ↓condV_f, cap_nil, allocV, splice, partV, buildV, eqFieldsV, eqS, tabs, TK.agg, reduceCtorEq, Array.toList, List.map_cons, List.map_nil, ↓reduceIte, List.length_map, Nat.reduceAdd, Nat.reduceLeDiff, Nat.reduceLT, Nat.reduceMul, Nat.reduceSub, Option.bind_some, Option.map_some, bndV, numV, eI, eU, e8, eB, AV.isCell, Int.reduceToNat, Int.reduceSub, Int.reduceAdd, Int.reduceNeg])
      exact fin q' p1 p2 p5
    · have h1 : subst1 bs x = [x] := by simp only [subst1, h6, if_false]
      rw [h1] at fin
      refine push_node (q := q) (xs := subst bs (t.take i)) (x := x) (hqG _) (by omega) fun q' hq' hne => ?_
      simp only [Heap.set_none] at hq'
      obtain ⟨p1, p2, p5⟩ := hq'
      (try simp (maxSteps := 1000000) (disch := (first | assumption | (apply Ne.symm; assumption))) only [vw0, vw1, vw2, vw3, vw4, vu0, vu1, ↓condV_t, ↓condV_f, cap_nil, allocV, splice, partV, buildV, eqFieldsV, eqS, tabs, TK.agg, reduceCtorEq, Array.toList, List.map_cons, List.map_nil, ↓reduceIte, List.length_map, Nat.reduceAdd, Nat.reduceLeDiff, Nat.reduceLT, Nat.reduceMul, Nat.reduceSub, Option.bind_some, Option.map_some, bndV, numV, eI, eU, e8, eB, AV.isCell, Int.reduceToNat, Int.reduceSub, Int.reduceAdd, Int.reduceNeg])
      exact fin q' p1 p2 p5
  · have : i = t.length := by omega
    subst this
    rw [List.take_length]
    have hsl := subst_len hb48 t
    have hv : vT (subst bs t) := ⟨by omega, okN_subst (fun b hm => (hb b hm).2) ht.2⟩
    refine l2Made_row w v (subst bs t) hv (Heap.set_same _ _ _) (fun hg => ?_) (fun hg => ?_)
    · rw [hg] at hput
      (try simp (maxSteps := 1000000) (disch := (first | assumption | (apply Ne.symm; assumption))) only [vw0, vw1, vw2, vw3, vw4, vu0, vu1, ↓condV_t, ↓condV_f, cap_nil, allocV, splice, partV, buildV, eqFieldsV, eqS, tabs, TK.agg, reduceCtorEq, Array.toList, List.map_cons, List.map_nil, ↓reduceIte, List.length_map, Nat.reduceAdd, Nat.reduceLeDiff, Nat.reduceLT, Nat.reduceMul, Nat.reduceSub, Option.bind_some, Option.map_some, bndV, numV, eI, eU, e8, eB, AV.isCell, Int.reduceToNat, Int.reduceSub, Int.reduceAdd, Int.reduceNeg])
      exact ⟨_, H, .trans (.val (v' := .tup [Ns [], B false]) (wk_tup ⟨.nil, .refl _, trivial⟩)) (.forget (Heap.le_set hq)), by rw [hput]; rfl, rfl⟩
    · rw [hg] at hput
      (try simp (maxSteps := 1000000) (disch := (first | assumption | (apply Ne.symm; assumption))) only [vw0, vw1, vw2, vw3, vw4, vu0, vu1, ↓condV_t, ↓condV_f, cap_nil, allocV, splice, partV, buildV, eqFieldsV, eqS, tabs, TK.agg, reduceCtorEq, Array.toList, List.map_cons, List.map_nil, ↓reduceIte, List.length_map, Nat.reduceAdd, Nat.reduceLeDiff, Nat.reduceLT, Nat.reduceMul, Nat.reduceSub, Option.bind_some, Option.map_some, bndV, numV, eI, eU, e8, eB, AV.isCell, Int.reduceToNat, Int.reduceSub, Int.reduceAdd, Int.reduceNeg])
      exact ⟨_, _, .trans (fin_nodes (Heap.set_same _ _ _)) (.forget (by rw [Heap.del_set hq]; exact Heap.le_refl _)), by rw [hput]; rfl, rfl⟩
end Go.Proofs.Ytlcnoflmlonikaa
