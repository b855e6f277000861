/- Specs: rows of nodes laid one behind the other. -/
import Derived.Test.YtlcnoflmlonikaaLm3
namespace Go.Proofs.Ytlcnoflmlonikaa
open Go Go.Sep Go.Pt
set_option linter.unusedSimpArgs false
set_option linter.unusedVariables false
attribute [local irreducible] CallT

theorem app_nodesX {q : Nat} {xs ys : List Nd} {ex : List AV} {G : Heap} {K : AV → Heap → Prop} (hq : G q = some (cN xs ++ ex)) (hl : xs.length + ys.length ≤ 1000000000)
    (h : ∀ q', G q' = none → q' ≠ q → K (rowN q' (xs ++ ys)) ((G.del q).set q' (cN (xs ++ ys)))) : appendV tab 28 28 (rowN q xs) (Ns ys) G (wkK K) := by
  have hlen : (cN xs).length = xs.length * 2 := cells_map_len (sz := 2) (fun _ => rfl) xs
  simp only [appendV, tab_28, tab_48, srcV, baseV, hq]
  refine ⟨szN ys, trivial, by rw [List.length_append, hlen]; omega, by simp only [List.length_map]; omega, by simp only [List.length_map]; omega, cells_cell _, fun q' hq' => wkK.keep ?_⟩
  have hne : q' ≠ q := fun e => by rw [e, hq] at hq'; cases hq'
  have := h q' hq' hne
  have e : List.take (xs.length * 2) (List.drop 0 (cN xs ++ ex)) = cN xs := by rw [List.drop_zero, ← hlen, List.take_left]
  rw [e, List.length_map]
  simp only [rowN, cN, List.map_append, cells_app, List.length_append] at this ⊢
  exact this
/-- The source may be a row, too. -/
theorem app_nodesL {q s : Nat} {xs ys : List Nd} {G : Heap} {K : AV → Heap → Prop} (hq : G q = some (cN xs)) (hs : G s = some (cN ys)) (hl : xs.length + ys.length ≤ 1000000000)
    (h : ∀ q', G q' = none → q' ≠ q → K (rowN q' (xs ++ ys)) ((G.del q).set q' (cN (xs ++ ys)))) : appendV tab 28 28 (rowN q xs) (rowN s ys) G (wkK K) := by
  have hlen : (cN xs).length = xs.length * 2 := cells_map_len (sz := 2) (fun _ => rfl) xs
  have hlen2 : (cN ys).length = ys.length * 2 := cells_map_len (sz := 2) (fun _ => rfl) ys
  simp only [appendV, tab_28, tab_48, srcV, baseV, hq, hs]
  have e : List.take (xs.length * 2) (List.drop 0 (cN xs)) = cN xs := by rw [List.drop_zero, ← hlen, List.take_length]
  have e2 : List.take (ys.length * 2) (List.drop 0 (cN ys)) = cN ys := by rw [List.drop_zero, ← hlen2, List.take_length]
  refine ⟨trivial, by omega, trivial, by omega, by omega, by omega, by rw [e2]; exact cells_cell _, fun q' hq' => wkK.keep ?_⟩
  have hne : q' ≠ q := fun e => by rw [e, hq] at hq'; cases hq'
  have := h q' hq' hne
  rw [e, e2]
  simpa only [rowN, cN, List.map_append, cells_app, List.length_append] using this

/-- The same where the row lies on top of a heap. -/
theorem app_top {q : Nat} {xs ys : List Nd} {G : Heap} {K : AV → Heap → Prop} (hq : G q = none) (hl : xs.length + ys.length ≤ 1000000) (h : ∀ q', G q' = none → K (rowN q' (xs ++ ys)) (G.set q' (cN (xs ++ ys)))) :
    appendV tab 28 28 (rowN q xs) (Ns ys) (G.set q (cN xs)) (wkK K) :=
  app_nodes (Heap.set_same _ _ _) hl fun q' hq' hne => by
    rw [Heap.del_set hq]
    rw [Heap.set_none] at hq'
    exact h q' hq'.2
theorem push_top {q : Nat} {xs : List Nd} {x : Nd} {G : Heap} {K : AV → Heap → Prop} (hq : G q = none) (hl : xs.length ≤ 100000) (h : ∀ q', G q' = none → K (rowN q' (xs ++ [x])) (G.set q' (cN (xs ++ [x])))) :
    buildSliceV tab 28 1 [(0, aN x)] (G.set q (cN xs)) (wkK fun v H1 => appendV tab 28 28 (rowN q xs) v H1 (wkK K)) :=
  push_node (Heap.set_same _ _ _) hl fun q' hq' hne => by
    rw [Heap.del_set hq]
    rw [Heap.set_none] at hq'
    exact h q' hq'.2
/-- An empty row, live. -/
theorem lit0N {G : Heap} {K : AV → Heap → Prop} (h : ∀ q, G q = none → K (rowN q []) (G.set q (cN []))) : buildSliceV tab 28 0 [] G (wkK K) := by
  simp only [buildSliceV, tab_28, tab_48]
  refine ⟨by omega, ?_⟩
  simp only [fillV, zerosA, List.replicate_zero, List.flatten_nil]
  exact fun r hr => wkK.keep (h r hr)
/-- A new row of one node, live. -/
theorem newN (x : Nd) : buildN tab 28 1 [(0, .agg [I x.op, U x.n])] = some (fun r => .sl r 2 0 1, [I x.op, U x.n]) := by
  simp only [buildN, tab_28, tab_48, ifN, fillV, zerosA, AV.cells, splice]
  rfl

theorem Grow_nil (n : Nat) (hn : n ≤ 1000000000) {H : Heap} {K : AV → Heap → Prop} (hz : n = 0 → K (.p .nil) H) (hp : 0 < n → ∀ q, H q = none → K (.sl q 2 0 0) (H.set q (zerosA n [I 0, U 0]))) : CallT Try.prog 50 [.p .nil, I n] H K := by
  refine CallT.fin ?_
  have e1 : IntKind.i64.wrap (n : Int) = n := i64_id (by omega) (by omega)
  have e0 : IntKind.i64.wrap 0 = 0 := rfl
  refine W50_ok ?_; simp (maxSteps := 1000000) (disch := (first | assumption | (apply Ne.symm; assumption))) only [W50, vw0, vw1, vw2, vw3, vw4, vu0, vu1, ↓condV_t, ↓condV_f, cap_nil, allocV, splice, partV, buildV, eqFieldsV, eqS, tabs, TK.agg, reduceCtorEq, Array.toList, List.map_cons, List.map_nil, ↓reduceIte, List.length_map, Nat.reduceAdd, Nat.reduceLeDiff, Nat.reduceLT, Nat.reduceMul, Nat.reduceSub, Option.bind_some, Option.map_some, bndV, numV, eI, eU, e8, eB, AV.isCell, Int.reduceToNat, Int.reduceSub, Int.reduceAdd, Int.reduceNeg, capV, e0, Int.sub_zero, e1]
  refine ⟨fun h1 => by omega, fun _ => ⟨fun h2 => ?_, fun h2 => wkK.keep (hz (by omega))⟩⟩
  simp only [appendV, tab_28, tab_3, tab_48]
  refine ⟨h2, by omega, by omega, fun q hq => wkK.keep ?_⟩
  (try simp (maxSteps := 1000000) (disch := (first | assumption | (apply Ne.symm; assumption))) only [vw0, vw1, vw2, vw3, vw4, vu0, vu1, ↓condV_t, ↓condV_f, cap_nil, allocV, splice, partV, buildV, eqFieldsV, eqS, tabs, TK.agg, reduceCtorEq, Array.toList, List.map_cons, List.map_nil, ↓reduceIte, List.length_map, Nat.reduceAdd, Nat.reduceLeDiff, Nat.reduceLT, Nat.reduceMul, Nat.reduceSub, Option.bind_some, Option.map_some, bndV, numV, eI, eU, e8, eB, AV.isCell, Int.reduceToNat, Int.reduceSub, Int.reduceAdd, Int.reduceNeg, sliceV])
  exact ⟨by omega, by omega, by omega, by omega, wkK.keep (hp (by omega) q hq)⟩
theorem Concat_spec (bs : List (List Nd)) (hl : bs.flatten.length ≤ 1000000) (hl2 : bs.length ≤ 1000000) {H : Heap} {K : AV → Heap → Prop} (h : ∀ q, H q = none → K (rowN q bs.flatten) (H.set q (cN bs.flatten))) : CallT Try.prog 35 [NNs bs] H K := by
  refine CallT.fin ?_
  refine CallT.ghost W35_hb fun q0 hq0 => ?_
  refine W35_ok ?_; simp (maxSteps := 1000000) (disch := (first | assumption | (apply Ne.symm; assumption))) only [W35, vw0, vw1, vw2, vw3, vw4, vu0, vu1, ↓condV_t, ↓condV_f, cap_nil, allocV, splice, partV, buildV, eqFieldsV, eqS, tabs, TK.agg, reduceCtorEq, Array.toList, List.map_cons, List.map_nil, ↓reduceIte, List.length_map, Nat.reduceAdd, Nat.reduceLeDiff, Nat.reduceLT, Nat.reduceMul, Nat.reduceSub, Option.bind_some, Option.map_some, bndV, numV, eI, eU, e8, eB, AV.isCell, Int.reduceToNat, Int.reduceSub, Int.reduceAdd, Int.reduceNeg]
  have hsum : ∀ i, ((bs.take i).flatten).length ≤ bs.flatten.length := fun i => by
    have := congrArg (fun l : List (List Nd) => l.flatten.length) (List.take_append_drop i bs)
    simp only [List.flatten_append, List.length_append] at this
    omega
  refine L35_0_rule (0 : Nat) (fun i => I ((bs.take i).flatten.length : Nat)) (fun i => I i) (fun _ => H.set q0 []) (fun i => i ≤ bs.length) (fun i => bs.length - i) ⟨by omega, .refl _, .refl _, Heap.le_refl _⟩ ?_
  intro i hi
  have hs1 := hsum i
  have hs2 := hsum (i + 1)
  (try simp (maxSteps := 1000000) (disch := (first | assumption | (apply Ne.symm; assumption))) only [vw0, vw1, vw2, vw3, vw4, vu0, vu1, ↓condV_t, ↓condV_f, cap_nil, allocV, splice, partV, buildV, eqFieldsV, eqS, tabs, TK.agg, reduceCtorEq, Array.toList, List.map_cons, List.map_nil, ↓reduceIte, List.length_map, Nat.reduceAdd, Nat.reduceLeDiff, Nat.reduceLT, Nat.reduceMul, Nat.reduceSub, Option.bind_some, Option.map_some, bndV, numV, eI, eU, e8, eB, AV.isCell, Int.reduceToNat, Int.reduceSub, Int.reduceAdd, Int.reduceNeg, B35_0])
  refine ⟨fun h1 => ⟨by omega, h1, fun h2 => ?_, fun h2 => ⟨i + 1, by omega, by omega, ?_, ?_⟩⟩, fun h1 => ?_⟩
  · have e : (bs.take (i + 1)).flatten.length = (bs.take i).flatten.length + (bs.getD i default).length := by
      rw [take_succ_snoc (by omega : i < bs.length), List.flatten_append, List.length_append]; simp
    rw [i64_id (by omega) (by omega)] at h2
    omega
  · have e : (bs.take (i + 1)).flatten.length = (bs.take i).flatten.length + (bs.getD i default).length := by
      rw [take_succ_snoc (by omega : i < bs.length), List.flatten_append, List.length_append]; simp
    rw [wk_int, i64_id (by omega) (by omega)]; omega
  · rw [wk_int, i64_id (by omega) (by omega)]; simp
  have hi2 : i = bs.length := by omega
  subst hi2
  rw [List.take_length]
  have loop : ∀ (x : AV) (G : Heap), (∃ q ex, H q = none ∧ AV.wk x (.sl q 2 0 0) ∧ Heap.le (H.set q ex) G) → L35_1 (wkK K) x (NNs bs) (I bs.length) (I 0) G := by
    rintro x G ⟨q0, ex0, hq0, hx, hle⟩
    refine L35_1_rule ((0 : Nat), q0, ex0) (fun s => rowN s.2.1 (bs.take s.1).flatten) (fun s => I s.1) (fun s => H.set s.2.1 (cN (bs.take s.1).flatten ++ s.2.2))
      (fun s => s.1 ≤ bs.length ∧ H s.2.1 = none) (fun s => bs.length - s.1) ⟨⟨by simp, hq0⟩, hx, .refl _, by simpa [cells] using hle⟩ ?_
    rintro ⟨i, q, ex⟩ ⟨hi, hq⟩
    dsimp only at hi hq
    have hs1 := hsum i
    have hs2 := hsum (i + 1)
    (try simp (maxSteps := 1000000) (disch := (first | assumption | (apply Ne.symm; assumption))) only [vw0, vw1, vw2, vw3, vw4, vu0, vu1, ↓condV_t, ↓condV_f, cap_nil, allocV, splice, partV, buildV, eqFieldsV, eqS, tabs, TK.agg, reduceCtorEq, Array.toList, List.map_cons, List.map_nil, ↓reduceIte, List.length_map, Nat.reduceAdd, Nat.reduceLeDiff, Nat.reduceLT, Nat.reduceMul, Nat.reduceSub, Option.bind_some, Option.map_some, bndV, numV, eI, eU, e8, eB, AV.isCell, Int.reduceToNat, Int.reduceSub, Int.reduceAdd, Int.reduceNeg, B35_1])
    refine ⟨fun h1 => ⟨by omega, h1, ?_⟩, fun h1 => ?_⟩
    · have e : (bs.take (i + 1)).flatten = (bs.take i).flatten ++ bs.getD i default := by
        rw [take_succ_snoc (by omega : i < bs.length), List.flatten_append]; simp
      have e2 := congrArg List.length e
      rw [List.length_append] at e2
      refine app_nodesX (Heap.set_same _ _ _) (by omega) fun q' hq' hne => ?_
      rw [Heap.set_none] at hq'
      rw [← e]
      refine ⟨(i + 1, q', []), ⟨by simp only; omega, hq'.2⟩, by simp only; omega, .refl _, ?_, ?_⟩
      · rw [wk_int, i64_id (by omega) (by omega)]; simp
      · simp only [List.append_nil]
        generalize cN (bs.take (i + 1)).flatten = z
        have := hq'.2
        (intro y b hy; simp only [Heap.set, Heap.del] at hy ⊢; (repeat' split at hy) <;> (repeat' split) <;> simp_all [cells])
    · have hi2 : i = bs.length := by omega
      subst hi2
      rw [List.take_length]
      refine ⟨_, _, .cell (cs' := cN bs.flatten) (Heap.set_same _ _ _) (by rw [List.length_append]; omega) fun j a a' h1 h2 => ?_, ?_⟩
      · rw [List.getElem?_append_left (List.getElem?_eq_some_iff.1 h2).1, h2] at h1
        cases h1; exact .refl _
      · rw [Heap.set_set]; exact h q hq
  refine Grow_nil _ (by omega) (fun h0 => ?_) (fun h0 q hq => ?_)
  · exact loop _ _ ⟨q0, [], hq0, .nilo _ _ _, Heap.le_refl _⟩
  · rw [Heap.set_none] at hq
    refine loop _ _ ⟨q, zerosA bs.flatten.length [I 0, U 0], hq.2, .refl _, ?_⟩
    generalize zerosA bs.flatten.length [I 0, U 0] = z
    have := hq.2
    (intro y b hy; simp only [Heap.set, Heap.del] at hy ⊢; (repeat' split at hy) <;> (repeat' split) <;> simp_all [cells])
end Go.Proofs.Ytlcnoflmlonikaa
