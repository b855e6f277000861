/- Rules and specs for rows of nodes. -/
import Derived.Test.YtlcnoflmlonikaaLt5
import Derived.Test.YtlcnoflmlonikaaPt3
import Derived.Test.YtlcnoflmlonikaaLe6
namespace Go.Proofs.Ytlcnoflmlonikaa
open Go Go.Sep Go.Pt
set_option linter.unusedSimpArgs false
set_option linter.unusedVariables false
attribute [local irreducible] CallT

abbrev rowN (q : Nat) (xs : List Nd) : AV := .sl q 2 0 xs.length
abbrev cN (xs : List Nd) : List AV := cells (xs.map eN)
theorem szN (xs : List Nd) : Sized 2 (xs.map eN) := sized_map (f := eN) (fun _ => rfl) xs
theorem frz_rowN {q : Nat} {xs : List Nd} : FrzR q 2 (xs.map eN) (rowN q xs) (Ns xs) := by
  have : FrzR q 2 (xs.map eN) (.sl q 2 0 (xs.map eN).length) (.p (.sl (xs.map eN))) := .here
  rwa [List.length_map] at this

theorem lit_node {x : Nd} {H : Heap} {K : AV → Heap → Prop} (h : K (Ns [x]) H) : buildSliceV tab 28 1 [(0, aN x)] H (wkK K) := by
  simp only [buildSliceV, tab_28, tab_48]
  refine ⟨by omega, ?_⟩
  simp only [fillV, zerosA, List.replicate_succ, List.replicate_zero, List.flatten_cons, List.flatten_nil, List.append_nil, AV.cells, splice]
  simp only [List.length_cons, List.length_nil, Nat.reduceAdd, Nat.zero_mul, Nat.zero_add, Nat.le_refl, and_self, if_true, List.take_zero, List.nil_append, List.drop_succ_cons, List.drop_zero, List.append_nil]
  intro r hr
  refine ⟨_, _, Wk.trans (Wk.frz (r := r) (sz := 2) (es := [eN x]) (v := .sl r 2 0 1) (v' := .p (.sl [eN x])) (by omega) ?_ (by simp) .here) (.forget ?_), h⟩
  · rw [Heap.set_same]; rfl
  · rw [Heap.del_set hr]; exact Heap.le_refl _

theorem app_nodes {q : Nat} {xs ys : List Nd} {G : Heap} {K : AV → Heap → Prop} (hq : G q = some (cN xs)) (hl : xs.length + ys.length ≤ 1000000)
    (h : ∀ q', G q' = none → q' ≠ q → K (rowN q' (xs ++ ys)) ((G.del q).set q' (cN (xs ++ ys)))) : appendV tab 28 28 (rowN q xs) (Ns ys) G (wkK K) := by
  have := app_own (x := Ns ys) (r := q) (es := xs.map eN) (fs := ys.map eN) (H := G) (K := K) tab_28 rfl tab_48 tab_28 rfl (sz := 2) rfl (bz := 16) rfl (.inl rfl) hq (szN xs) (szN ys)
    (by simp only [List.length_map]; omega) (by simp only [List.length_map]; omega) fun r' hr' => by
      have hne : r' ≠ q := by rintro rfl; rw [hq] at hr'; cases hr'
      have := h r' hr' hne
      simpa only [Go.Sep.own, cN, rowN, List.length_map, List.map_append, List.length_append] using this
  simpa only [Go.Sep.own, List.length_map] using this
theorem push_node {q : Nat} {xs : List Nd} {x : Nd} {G : Heap} {K : AV → Heap → Prop} (hq : G q = some (cN xs)) (hl : xs.length ≤ 100000)
    (h : ∀ q', G q' = none → q' ≠ q → K (rowN q' (xs ++ [x])) ((G.del q).set q' (cN (xs ++ [x])))) :
    buildSliceV tab 28 1 [(0, aN x)] G (wkK fun v H1 => appendV tab 28 28 (rowN q xs) v H1 (wkK K)) :=
  lit_node (app_nodes hq (by simp; omega) h)

/-- A row of nodes told by value in a pair. -/
theorem fin_nodes {q : Nat} {xs : List Nd} {G : Heap} (hq : G q = some (cN xs)) {w : AV} : Wk (.tup [rowN q xs, w]) G (.tup [Ns xs, w]) (G.del q) :=
  Wk.frz (r := q) (sz := 2) (es := xs.map eN) (by omega) hq (szN xs) (.tup (.cons frz_rowN (.cons (.same _) .nil)))

theorem GoodTerm_row (w v : Int) (t : List Nd) (hl : t.length ≤ 1048576) (ht : ∀ x ∈ t, okN x) {q : Nat} {G : Heap} (hq : G q = some (cN t)) {K : AV → Heap → Prop} (h : K (B (gtI w v t)) G) : CallT Try.prog 49 [I w, I v, rowN q t] G K :=
  Pu.thaw (GoodTerm_spec w v t hl ht) (.bool _) (Wk.frz (r := q) (sz := 2) (es := t.map eN) (v' := .tup [I w, I v, Ns t]) (by omega) hq (szN t) (.tup (.cons (.same _) (.cons (.same _) (.cons frz_rowN .nil))))) h
theorem eqN_row {q : Nat} {xs : List Nd} {G : Heap} (hq : G q = some (cN xs)) (hl : xs.length ≤ 1048576) {K : AV → Heap → Prop} (h : K (B true) G) : CallT Try.prog 12 [rowN q xs, Ns xs] G K :=
  Pu.thaw (eqNodeS_spec xs hl) (.bool _) (Wk.frz (r := q) (sz := 2) (es := xs.map eN) (v' := .tup [Ns xs, Ns xs]) (by omega) hq (szN xs) (.tup (.cons frz_rowN (.cons (.same _) .nil)))) h
theorem eqN_nil {G : Heap} {K : AV → Heap → Prop} (h : K (B true) G) : CallT Try.prog 12 [.p .nil, Ns []] G K :=
  CallT.args ((eqNodeS_spec [] (by simp)).use h) ⟨.nil, .refl _, trivial⟩

def markN (k : Int) (n : Nat) : List Nd := (List.range n).map fun (i : Nat) => ⟨k + 2 * (i : Int), k + 2 * (i : Int) + 1⟩
theorem markN_len (k : Int) (n : Nat) : (markN k n).length = n := by simp [markN]
theorem markN_succ (k : Int) (n : Nat) : markN k (n + 1) = markN k n ++ [⟨k + 2 * n, k + 2 * n + 1⟩] := by simp [markN, List.range_succ]

theorem markNodeS_row (xs : List Nd) (hl : xs.length ≤ 1048576) {k : Int} (h0 : 0 ≤ k) (h1 : k ≤ 1000000000) {q : Nat} {G : Heap} (hG : G q = some (cN xs)) {K : AV → Heap → Prop}
    (h : K (I (k + 2 * xs.length)) (G.set q (cN (markN k xs.length)))) : CallT Try.prog 15 [rowN q xs, I k] G K := by
  refine W15_ok ?_; simp (maxSteps := 1000000) (disch := (first | assumption | (apply Ne.symm; assumption))) only [W15, vw0, vw1, vw2, vw3, vw4, vu0, vu1, ↓condV_t, ↓condV_f, cap_nil, allocV, splice, partV, buildV, eqFieldsV, eqS, tabs, TK.agg, reduceCtorEq, Array.toList, List.map_cons, List.map_nil, ↓reduceIte, List.length_map, Nat.reduceAdd, Nat.reduceLeDiff, Nat.reduceLT, Nat.reduceMul, Nat.reduceSub, Option.bind_some, Option.map_some, bndV, numV, eI, eU, e8, eB, AV.isCell, Int.reduceToNat, Int.reduceSub, Int.reduceAdd, Int.reduceNeg]
  refine L15_0_rule (0 : Nat) (fun i => I (k + 2 * i)) (fun i => I i) (fun i => G.set q (cN (markN k i ++ xs.drop i))) (fun i => i ≤ xs.length) (fun i => xs.length - i) ⟨by omega, ?_, .refl _, ?_⟩ ?_
  · rw [wk_int]; simp
  · intro y b hy
    by_cases e : y = q
    · subst e; rw [Heap.set_same] at hy; rw [hG]; simpa [markN] using hy
    · rw [Heap.set_other e] at hy; exact hy
  intro i hi
  (try simp (maxSteps := 1000000) (disch := (first | assumption | (apply Ne.symm; assumption))) only [vw0, vw1, vw2, vw3, vw4, vu0, vu1, ↓condV_t, ↓condV_f, cap_nil, allocV, splice, partV, buildV, eqFieldsV, eqS, tabs, TK.agg, reduceCtorEq, Array.toList, List.map_cons, List.map_nil, ↓reduceIte, List.length_map, Nat.reduceAdd, Nat.reduceLeDiff, Nat.reduceLT, Nat.reduceMul, Nat.reduceSub, Option.bind_some, Option.map_some, bndV, numV, eI, eU, e8, eB, AV.isCell, Int.reduceToNat, Int.reduceSub, Int.reduceAdd, Int.reduceNeg, B15_0])
  refine ⟨fun h5 => ?_, fun h5 => ?_⟩
  · have hlt : i < xs.length := by omega
    have hdl : (cN (markN k i)).length = i * 2 := by rw [cells_map_len (sz := 2) (fun _ => rfl), markN_len]
    have e3 : cN (markN k i ++ xs.drop i) = cN (markN k i) ++ (I (xs.getD i default).op :: U (xs.getD i default).n :: cN (xs.drop (i + 1))) := by
      rw [drop_cons hlt, cN, List.map_append, cells_app]; rfl
    have e4 : cN (markN k (i + 1) ++ xs.drop (i + 1)) = cN (markN k i) ++ (I (k + 2 * i) :: U (k + 2 * i + 1) :: cN (xs.drop (i + 1))) := by
      rw [markN_succ, List.append_assoc, cN, List.map_append, cells_app]; rfl
    generalize cN (xs.drop (i + 1)) = c2 at e3 e4
    generalize xs.getD i default = a at e3
    rw [e3]
    generalize cN (markN k i) = cd at hdl e4
    have p1 : ∀ z, List.take (i * 2) (cd ++ (I a.op :: U a.n :: c2)) ++ [z] ++ List.drop (i * 2 + 1) (cd ++ (I a.op :: U a.n :: c2)) = cd ++ (z :: U a.n :: c2) := fun z => splice_at (c := [I a.op]) (c' := [z]) (post := U a.n :: c2) hdl.symm rfl rfl
    have p2 : ∀ z w, List.take (i * 2 + 1) (cd ++ (z :: U a.n :: c2)) ++ [w] ++ List.drop (i * 2 + 1 + 1) (cd ++ (z :: U a.n :: c2)) = cd ++ (z :: w :: c2) := fun z w => by
      have := splice_at (pre := cd ++ [z]) (c := [U a.n]) (c' := [w]) (post := c2) (off := i * 2 + 1) (n := 1) (by simp [hdl]) rfl rfl
      simpa using this
    have w1 : IntKind.i64.wrap (k + 2 * ↑i + 1) = k + 2 * i + 1 := i64_id (by omega) (by omega)
    have w2 : IntKind.u64.wrap (k + 2 * ↑i + 1) = k + 2 * i + 1 := by rw [IntKind.wrap_u64]; omega
    (try simp (maxSteps := 1000000) (disch := (first | assumption | (apply Ne.symm; assumption))) only [vw0, vw1, vw2, vw3, vw4, vu0, vu1, ↓condV_t, ↓condV_f, cap_nil, allocV, splice, partV, buildV, eqFieldsV, eqS, tabs, TK.agg, reduceCtorEq, Array.toList, List.map_cons, List.map_nil, ↓reduceIte, List.length_map, Nat.reduceAdd, Nat.reduceLeDiff, Nat.reduceLT, Nat.reduceMul, Nat.reduceSub, Option.bind_some, Option.map_some, bndV, numV, eI, eU, e8, eB, AV.isCell, Int.reduceToNat, Int.reduceSub, Int.reduceAdd, Int.reduceNeg, p1, p2, w1, w2])
    refine ⟨by omega, h5, by omega, by omega, h5, by simp only [List.length_take, List.length_drop, List.length_append, List.length_cons, hdl]; omega, i + 1, by omega, by omega, ?_, ?_, ?_⟩
    · rw [wk_int, i64_id (by omega) (by omega)]; omega
    · rw [wk_int, i64_id (by omega) (by omega)]; simp
    · rw [e4]; exact Heap.le_refl _
  · have : i = xs.length := by omega
    subst this
    simpa using h

theorem heldNodeS_spec (n : Nat) (hl : n ≤ 1048576) {k : Int} (h0 : 0 ≤ k) (h1 : k ≤ 1000000000) : Pu Try.prog 16 [Ns (markN k n), I k] (I (k + 2 * n)) := by
  refine Pu.of fun H => ?_
  have hml := markN_len k n
  refine W16_ok ?_; simp (maxSteps := 1000000) (disch := (first | assumption | (apply Ne.symm; assumption))) only [W16, vw0, vw1, vw2, vw3, vw4, vu0, vu1, ↓condV_t, ↓condV_f, cap_nil, allocV, splice, partV, buildV, eqFieldsV, eqS, tabs, TK.agg, reduceCtorEq, Array.toList, List.map_cons, List.map_nil, ↓reduceIte, List.length_map, Nat.reduceAdd, Nat.reduceLeDiff, Nat.reduceLT, Nat.reduceMul, Nat.reduceSub, Option.bind_some, Option.map_some, bndV, numV, eI, eU, e8, eB, AV.isCell, Int.reduceToNat, Int.reduceSub, Int.reduceAdd, Int.reduceNeg]
  refine L16_0_rule (0 : Nat) (fun i => I (k + 2 * i)) (fun i => I i) (fun _ => H) (fun i => i ≤ n) (fun i => n - i) ⟨by omega, ?_, .refl _, Heap.le_refl _⟩ ?_
  · rw [wk_int]; simp
  intro i hi
  (try simp (maxSteps := 1000000) (disch := (first | assumption | (apply Ne.symm; assumption))) only [vw0, vw1, vw2, vw3, vw4, vu0, vu1, ↓condV_t, ↓condV_f, cap_nil, allocV, splice, partV, buildV, eqFieldsV, eqS, tabs, TK.agg, reduceCtorEq, Array.toList, List.map_cons, List.map_nil, ↓reduceIte, List.length_map, Nat.reduceAdd, Nat.reduceLeDiff, Nat.reduceLT, Nat.reduceMul, Nat.reduceSub, Option.bind_some, Option.map_some, bndV, numV, eI, eU, e8, eB, AV.isCell, Int.reduceToNat, Int.reduceSub, Int.reduceAdd, Int.reduceNeg, B16_0, hml])
  refine ⟨fun h5 => ?_, fun h5 => ?_⟩
  · have hlt : i < n := by omega
    have e : (markN k n).getD i default = ⟨k + 2 * i, k + 2 * i + 1⟩ := by simp [markN, List.getD, hlt]
    have w1 : IntKind.i64.wrap (k + 2 * ↑i + 1) = k + 2 * i + 1 := i64_id (by omega) (by omega)
    have w2 : IntKind.u64.wrap (k + 2 * ↑i + 1) = k + 2 * i + 1 := by rw [IntKind.wrap_u64]; omega
    simp only [e, w1, w2]
    refine ⟨by omega, h5, fun h6 => absurd trivial h6, fun _ => ⟨by omega, h5, fun h6 => absurd trivial h6, fun _ => ⟨i + 1, by omega, by omega, ?_, ?_⟩⟩⟩
    · rw [wk_int, i64_id (by omega) (by omega)]; omega
    · rw [wk_int, i64_id (by omega) (by omega)]; simp
  · have : i = n := by omega
    subst this; rfl
theorem held_rowN {q n : Nat} {G : Heap} (hq : G q = some (cN (markN 1 n))) (hn : n ≤ 1048576) {K : AV → Heap → Prop} (h : K (I (1 + 2 * n)) G) : CallT Try.prog 16 [.sl q 2 0 n, I 1] G K := by
  refine Pu.thaw (heldNodeS_spec n hn (by omega) (by omega)) (.int _ _) (Wk.frz (r := q) (sz := 2) (es := (markN 1 n).map eN) (v' := .tup [Ns (markN 1 n), I 1]) (by omega) hq (szN _) (.tup (.cons ?_ (.cons (.same _) .nil)))) h
  have : FrzR q 2 ((markN 1 n).map eN) (.sl q 2 0 ((markN 1 n).map eN).length) (.p (.sl ((markN 1 n).map eN))) := .here
  rwa [List.length_map, markN_len] at this
theorem held_nilN {G : Heap} {K : AV → Heap → Prop} (h : K (I 1) G) : CallT Try.prog 16 [.p .nil, I 1] G K :=
  CallT.args ((heldNodeS_spec 0 (by omega) (k := 1) (by omega) (by omega)).use (by simpa using h)) ⟨.nil, .refl _, trivial⟩
theorem markN_nil {G : Heap} {K : AV → Heap → Prop} (h : K (I 1) G) : CallT Try.prog 15 [.p .nil, I 1] G K := by
  refine CallT.args (args' := [Ns [], I 1]) ?_ ⟨.nil, .refl _, trivial⟩
  refine W15_ok ?_; simp (maxSteps := 1000000) (disch := (first | assumption | (apply Ne.symm; assumption))) only [W15, vw0, vw1, vw2, vw3, vw4, vu0, vu1, ↓condV_t, ↓condV_f, cap_nil, allocV, splice, partV, buildV, eqFieldsV, eqS, tabs, TK.agg, reduceCtorEq, Array.toList, List.map_cons, List.map_nil, ↓reduceIte, List.length_map, Nat.reduceAdd, Nat.reduceLeDiff, Nat.reduceLT, Nat.reduceMul, Nat.reduceSub, Option.bind_some, Option.map_some, bndV, numV, eI, eU, e8, eB, AV.isCell, Int.reduceToNat, Int.reduceSub, Int.reduceAdd, Int.reduceNeg]
  refine L15_0_rule () (fun _ => I 1) (fun _ => I 0) (fun _ => G) (fun _ => True) (fun _ => 0) ⟨trivial, .refl _, .refl _, Heap.le_refl _⟩ ?_
  rintro ⟨⟩ _
  (try simp (maxSteps := 1000000) (disch := (first | assumption | (apply Ne.symm; assumption))) only [vw0, vw1, vw2, vw3, vw4, vu0, vu1, ↓condV_t, ↓condV_f, cap_nil, allocV, splice, partV, buildV, eqFieldsV, eqS, tabs, TK.agg, reduceCtorEq, Array.toList, List.map_cons, List.map_nil, ↓reduceIte, List.length_map, Nat.reduceAdd, Nat.reduceLeDiff, Nat.reduceLT, Nat.reduceMul, Nat.reduceSub, Option.bind_some, Option.map_some, bndV, numV, eI, eU, e8, eB, AV.isCell, Int.reduceToNat, Int.reduceSub, Int.reduceAdd, Int.reduceNeg, B15_0])
  first | exact h | simpa using h
end Go.Proofs.Ytlcnoflmlonikaa
