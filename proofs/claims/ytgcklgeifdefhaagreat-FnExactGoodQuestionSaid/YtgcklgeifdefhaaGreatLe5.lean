/- Specs: the kinds of terms, in the program and in the reference. -/
import Derived.Test.YtgcklgeifdefhaaGreatLe4
namespace Go.Proofs.YtgcklgeifdefhaaGreat
open Go Go.Sep Go.Pt
set_option linter.unusedSimpArgs false
set_option linter.unusedVariables false
attribute [local irreducible] CallT

theorem kindOf_spec (t : List Nd) (h1 : 1 ≤ t.length) (hl : t.length ≤ 1048576) : Pu Tryz.prog 140 [Ns t] (I (Pt.own (t.getD (t.length - 1) default).op)) := by
  refine Pu.of fun H => ?_
  have e : IntKind.i64.wrap ((t.length : Int) - 1) = ((t.length - 1 : Nat) : Int) := by rw [i64_id (by omega) (by omega)]; omega
  refine W140_ok ?_; simp (maxSteps := 1000000) (disch := (first | assumption | (apply Ne.symm; assumption))) only [W140, vw0, vw1, vw2, vw3, vw4, vu0, vu1, ↓condV_t, ↓condV_f, cap_nil, allocV, splice, partV, buildV, eqFieldsV, eqS, tabs, TK.agg, reduceCtorEq, Array.toList, List.map_cons, List.map_nil, ↓reduceIte, List.length_map, Nat.reduceAdd, Nat.reduceLeDiff, Nat.reduceLT, Nat.reduceMul, Nat.reduceSub, Option.bind_some, Option.map_some, bndV, numV, eI, eU, e8, eB, AV.isCell, Int.reduceToNat, Int.reduceSub, Int.reduceAdd, Int.reduceNeg, e]
  refine ⟨by omega, by omega, ?_⟩
  refine operandsOf_spec _ fun pp _ => ?_
  (try simp (maxSteps := 1000000) (disch := (first | assumption | (apply Ne.symm; assumption))) only [vw0, vw1, vw2, vw3, vw4, vu0, vu1, ↓condV_t, ↓condV_f, cap_nil, allocV, splice, partV, buildV, eqFieldsV, eqS, tabs, TK.agg, reduceCtorEq, Array.toList, List.map_cons, List.map_nil, ↓reduceIte, List.length_map, Nat.reduceAdd, Nat.reduceLeDiff, Nat.reduceLT, Nat.reduceMul, Nat.reduceSub, Option.bind_some, Option.map_some, bndV, numV, eI, eU, e8, eB, AV.isCell, Int.reduceToNat, Int.reduceSub, Int.reduceAdd, Int.reduceNeg])

theorem kind_gt {w v : Int} {t : List Nd} {k : Int} (hk : k ≠ 0) : decide (kind w v t = k) = (gtI w v t && decide (Pt.own (t.getD (t.length - 1) default).op = k)) := by
  cases hf : frame w v t
  · rw [kind_f hf]; simp [gtI, hf, Ne.symm hk]
  · rw [kind_eq hf k hk]
    simp only [gtI, hf, Bool.true_and]
    cases run w v [] t <;> rfl

theorem isTermOf_spec (w v : Int) (t : List Nd) (k : Int) (hk : k ≠ 0) (hl : t.length ≤ 1048576) (ht : ∀ x ∈ t, okN x) : Pu Tryz.prog 87 [I w, I v, Ns t, I k] (B (decide (kind w v t = k))) := by
  refine Pu.of fun H => ?_
  refine W87_ok ?_; simp (maxSteps := 1000000) (disch := (first | assumption | (apply Ne.symm; assumption))) only [W87, vw0, vw1, vw2, vw3, vw4, vu0, vu1, ↓condV_t, ↓condV_f, cap_nil, allocV, splice, partV, buildV, eqFieldsV, eqS, tabs, TK.agg, reduceCtorEq, Array.toList, List.map_cons, List.map_nil, ↓reduceIte, List.length_map, Nat.reduceAdd, Nat.reduceLeDiff, Nat.reduceLT, Nat.reduceMul, Nat.reduceSub, Option.bind_some, Option.map_some, bndV, numV, eI, eU, e8, eB, AV.isCell, Int.reduceToNat, Int.reduceSub, Int.reduceAdd, Int.reduceNeg]
  refine Pu.use (GoodTerm_spec w v t hl ht) ?_
  rw [kind_gt hk]
  cases h : gtI w v t
  · (try simp (maxSteps := 1000000) (disch := (first | assumption | (apply Ne.symm; assumption))) only [vw0, vw1, vw2, vw3, vw4, vu0, vu1, ↓condV_t, ↓condV_f, cap_nil, allocV, splice, partV, buildV, eqFieldsV, eqS, tabs, TK.agg, reduceCtorEq, Array.toList, List.map_cons, List.map_nil, ↓reduceIte, List.length_map, Nat.reduceAdd, Nat.reduceLeDiff, Nat.reduceLT, Nat.reduceMul, Nat.reduceSub, Option.bind_some, Option.map_some, bndV, numV, eI, eU, e8, eB, AV.isCell, Int.reduceToNat, Int.reduceSub, Int.reduceAdd, Int.reduceNeg])
  · (try simp (maxSteps := 1000000) (disch := (first | assumption | (apply Ne.symm; assumption))) only [vw0, vw1, vw2, vw3, vw4, vu0, vu1, ↓condV_t, ↓condV_f, cap_nil, allocV, splice, partV, buildV, eqFieldsV, eqS, tabs, TK.agg, reduceCtorEq, Array.toList, List.map_cons, List.map_nil, ↓reduceIte, List.length_map, Nat.reduceAdd, Nat.reduceLeDiff, Nat.reduceLT, Nat.reduceMul, Nat.reduceSub, Option.bind_some, Option.map_some, bndV, numV, eI, eU, e8, eB, AV.isCell, Int.reduceToNat, Int.reduceSub, Int.reduceAdd, Int.reduceNeg])
    have h1 : 1 ≤ t.length := by
      simp only [gtI, frame, Bool.and_eq_true, decide_eq_true_eq] at h
      omega
    refine Pu.use (kindOf_spec t h1 hl) ?_
    (try simp (maxSteps := 1000000) (disch := (first | assumption | (apply Ne.symm; assumption))) only [vw0, vw1, vw2, vw3, vw4, vu0, vu1, ↓condV_t, ↓condV_f, cap_nil, allocV, splice, partV, buildV, eqFieldsV, eqS, tabs, TK.agg, reduceCtorEq, Array.toList, List.map_cons, List.map_nil, ↓reduceIte, List.length_map, Nat.reduceAdd, Nat.reduceLeDiff, Nat.reduceLT, Nat.reduceMul, Nat.reduceSub, Option.bind_some, Option.map_some, bndV, numV, eI, eU, e8, eB, AV.isCell, Int.reduceToNat, Int.reduceSub, Int.reduceAdd, Int.reduceNeg])

theorem load_int {q k m : Nat} {xs : List Int} {G : Heap} {K : AV → Prop} (hq : G q = some (cP fI xs)) (hk : k < xs.length) (h : K (I (xs.getD k 0))) : loadV tab 3 (.ptr q (k * 1)) G K := by
  rw [load_at hq]
  simp only [tab_3, TK.agg]
  refine ⟨by simp; omega, ?_⟩
  have := read_row (f := fI) 0 hk
  simp only [Nat.mul_one, Bool.false_eq_true, if_false]
  rw [this]; exact h

theorem any_last {p : List Int} {m j : Nat} {k : Int} (hj : j < m) (hm : m ≤ p.length) (h : p.getD (p.length - 1 - j) 0 ≠ k) : ((p.drop (p.length - m)).any fun x => decide (x ≠ k)) = true := by
  rw [List.any_eq_true]
  have hlt : p.length - 1 - j < p.length := by omega
  refine ⟨p.getD (p.length - 1 - j) 0, ?_, by simpa using h⟩
  rw [getD_lt hlt, List.mem_iff_getElem]
  refine ⟨m - 1 - j, by simp; omega, ?_⟩
  rw [List.getElem_drop]
  congr 1; omega
theorem any_none {p : List Int} {m : Nat} {k : Int} (hm : m ≤ p.length) (h : ∀ j, j < m → p.getD (p.length - 1 - j) 0 = k) : ((p.drop (p.length - m)).any fun x => decide (x ≠ k)) = false := by
  rw [List.any_eq_false]
  intro x hx
  obtain ⟨i, hi, rfl⟩ := List.mem_iff_getElem.1 hx
  simp only [List.length_drop] at hi
  have h1 := h (m - 1 - i) (by omega)
  rw [getD_lt (by omega)] at h1
  rw [List.getElem_drop]
  have : p[p.length - m + i] = k := by
    rw [← h1]; congr 1; omega
  simp [this]

theorem kind_none {w v : Int} {t : List Nd} (h : run w v [] t = none) : kind w v t = 0 := by
  unfold kind
  split
  · rw [h]
  · rfl

theorem kind_some {w v : Int} {t : List Nd} {p : List Int} (hf : frame w v t = true) (h : run w v [] t = some p) : kind w v t = if p.length = 1 then p.getD 0 0 else 0 := by
  unfold kind
  rw [if_pos hf, h]
  match p with
  | [] => rfl
  | [k] => rfl
  | a :: b :: p => simp

theorem l2Kind_spec (w v : Int) (t : List Nd) (hl : t.length ≤ 1048576) (ht : ∀ x ∈ t, okN x) : Pu Tryz.prog 79 [I w, I v, Ns t] (I (kind w v t)) := by
  refine Pu.of fun H => ?_
  refine CallT.ghost W79_hb fun q0 hq0 => ?_
  have bad : frame w v t = false → I 0 = I (kind w v t) := fun h => by rw [kind_f h]
  refine W79_ok ?_; simp (maxSteps := 1000000) (disch := (first | assumption | (apply Ne.symm; assumption))) only [W79, vw0, vw1, vw2, vw3, vw4, vu0, vu1, ↓condV_t, ↓condV_f, cap_nil, allocV, splice, partV, buildV, eqFieldsV, eqS, tabs, TK.agg, reduceCtorEq, Array.toList, List.map_cons, List.map_nil, ↓reduceIte, List.length_map, Nat.reduceAdd, Nat.reduceLeDiff, Nat.reduceLT, Nat.reduceMul, Nat.reduceSub, Option.bind_some, Option.map_some, bndV, numV, eI, eU, e8, eB, AV.isCell, Int.reduceToNat, Int.reduceSub, Int.reduceAdd, Int.reduceNeg]
  refine Pu.use (l1Wide_spec w) ?_
  cases hw : inB w 1 64
  · (try simp (maxSteps := 1000000) (disch := (first | assumption | (apply Ne.symm; assumption))) only [vw0, vw1, vw2, vw3, vw4, vu0, vu1, ↓condV_t, ↓condV_f, cap_nil, allocV, splice, partV, buildV, eqFieldsV, eqS, tabs, TK.agg, reduceCtorEq, Array.toList, List.map_cons, List.map_nil, ↓reduceIte, List.length_map, Nat.reduceAdd, Nat.reduceLeDiff, Nat.reduceLT, Nat.reduceMul, Nat.reduceSub, Option.bind_some, Option.map_some, bndV, numV, eI, eU, e8, eB, AV.isCell, Int.reduceToNat, Int.reduceSub, Int.reduceAdd, Int.reduceNeg])
    exact ⟨bad (by simp only [frame, hw, Bool.false_and]), Heap.le_set hq0⟩
  (try simp (maxSteps := 1000000) (disch := (first | assumption | (apply Ne.symm; assumption))) only [vw0, vw1, vw2, vw3, vw4, vu0, vu1, ↓condV_t, ↓condV_f, cap_nil, allocV, splice, partV, buildV, eqFieldsV, eqS, tabs, TK.agg, reduceCtorEq, Array.toList, List.map_cons, List.map_nil, ↓reduceIte, List.length_map, Nat.reduceAdd, Nat.reduceLeDiff, Nat.reduceLT, Nat.reduceMul, Nat.reduceSub, Option.bind_some, Option.map_some, bndV, numV, eI, eU, e8, eB, AV.isCell, Int.reduceToNat, Int.reduceSub, Int.reduceAdd, Int.reduceNeg])
  refine Pu.use (l1In_B v 1 4) ?_
  cases hv : inB v 1 4
  · (try simp (maxSteps := 1000000) (disch := (first | assumption | (apply Ne.symm; assumption))) only [vw0, vw1, vw2, vw3, vw4, vu0, vu1, ↓condV_t, ↓condV_f, cap_nil, allocV, splice, partV, buildV, eqFieldsV, eqS, tabs, TK.agg, reduceCtorEq, Array.toList, List.map_cons, List.map_nil, ↓reduceIte, List.length_map, Nat.reduceAdd, Nat.reduceLeDiff, Nat.reduceLT, Nat.reduceMul, Nat.reduceSub, Option.bind_some, Option.map_some, bndV, numV, eI, eU, e8, eB, AV.isCell, Int.reduceToNat, Int.reduceSub, Int.reduceAdd, Int.reduceNeg])
    exact ⟨bad (by simp only [frame, hw, hv, Bool.false_and, Bool.and_false]), Heap.le_set hq0⟩
  (try simp (maxSteps := 1000000) (disch := (first | assumption | (apply Ne.symm; assumption))) only [vw0, vw1, vw2, vw3, vw4, vu0, vu1, ↓condV_t, ↓condV_f, cap_nil, allocV, splice, partV, buildV, eqFieldsV, eqS, tabs, TK.agg, reduceCtorEq, Array.toList, List.map_cons, List.map_nil, ↓reduceIte, List.length_map, Nat.reduceAdd, Nat.reduceLeDiff, Nat.reduceLT, Nat.reduceMul, Nat.reduceSub, Option.bind_some, Option.map_some, bndV, numV, eI, eU, e8, eB, AV.isCell, Int.reduceToNat, Int.reduceSub, Int.reduceAdd, Int.reduceNeg])
  refine Pu.use (l1In_B t.length 1 48) ?_
  cases h12 : inB t.length 1 48
  · (try simp (maxSteps := 1000000) (disch := (first | assumption | (apply Ne.symm; assumption))) only [vw0, vw1, vw2, vw3, vw4, vu0, vu1, ↓condV_t, ↓condV_f, cap_nil, allocV, splice, partV, buildV, eqFieldsV, eqS, tabs, TK.agg, reduceCtorEq, Array.toList, List.map_cons, List.map_nil, ↓reduceIte, List.length_map, Nat.reduceAdd, Nat.reduceLeDiff, Nat.reduceLT, Nat.reduceMul, Nat.reduceSub, Option.bind_some, Option.map_some, bndV, numV, eI, eU, e8, eB, AV.isCell, Int.reduceToNat, Int.reduceSub, Int.reduceAdd, Int.reduceNeg])
    have h12' : ¬ (1 ≤ (t.length : Int) ∧ (t.length : Int) ≤ 48) := fun h => by rw [inB_iff.2 h] at h12; cases h12
    refine ⟨bad ?_, Heap.le_set hq0⟩
    have : (decide (1 ≤ t.length) && decide (t.length ≤ 48)) = false := by
      rw [Bool.eq_false_iff]; intro h; simp only [Bool.and_eq_true, decide_eq_true_eq] at h; omega
    simp only [frame, this, Bool.and_false]
  have h12' := inB_iff.1 h12
  have hf : frame w v t = true := by
    have a1 : 1 ≤ t.length := by omega
    have a2 : t.length ≤ 48 := by omega
    simp only [frame, hw, hv, a1, a2, decide_true, Bool.and_true]
  rw [inB_iff] at hw hv
  (try simp (maxSteps := 1000000) (disch := (first | assumption | (apply Ne.symm; assumption))) only [vw0, vw1, vw2, vw3, vw4, vu0, vu1, ↓condV_t, ↓condV_f, cap_nil, allocV, splice, partV, buildV, eqFieldsV, eqS, tabs, TK.agg, reduceCtorEq, Array.toList, List.map_cons, List.map_nil, ↓reduceIte, List.length_map, Nat.reduceAdd, Nat.reduceLeDiff, Nat.reduceLT, Nat.reduceMul, Nat.reduceSub, Option.bind_some, Option.map_some, bndV, numV, eI, eU, e8, eB, AV.isCell, Int.reduceToNat, Int.reduceSub, Int.reduceAdd, Int.reduceNeg])
  refine L79_0_rule ((0 : Nat), q0, ([] : List Int)) (fun s => rowP s.2.1 s.2.2) (fun s => I s.1) (fun s => H.set s.2.1 (cP fI s.2.2)) (fun s => s.1 ≤ t.length ∧ run w v [] (t.take s.1) = some s.2.2 ∧ H s.2.1 = none ∧ s.2.2.length ≤ s.1) (fun s => t.length - s.1)
    ⟨⟨by simp, by simp [run], hq0, by simp⟩, .nilo _ _ _, .refl _, Heap.le_refl _⟩ ?_
  rintro ⟨i, q, p⟩ ⟨hi, hrun, hq, hpl⟩
  dsimp only at hi hrun hq hpl
  have hle : Heap.le H (H.set q (cP fI p)) := Heap.le_set hq
  (try simp (maxSteps := 1000000) (disch := (first | assumption | (apply Ne.symm; assumption))) only [vw0, vw1, vw2, vw3, vw4, vu0, vu1, ↓condV_t, ↓condV_f, cap_nil, allocV, splice, partV, buildV, eqFieldsV, eqS, tabs, TK.agg, reduceCtorEq, Array.toList, List.map_cons, List.map_nil, ↓reduceIte, List.length_map, Nat.reduceAdd, Nat.reduceLeDiff, Nat.reduceLT, Nat.reduceMul, Nat.reduceSub, Option.bind_some, Option.map_some, bndV, numV, eI, eU, e8, eB, AV.isCell, Int.reduceToNat, Int.reduceSub, Int.reduceAdd, Int.reduceNeg, B79_0])
  refine ⟨fun h => ⟨by omega, h, ?_⟩, fun h => ?_⟩
  · have hlt : i < t.length := by omega
    have hm : t.getD i default ∈ t := getD_all (p := fun x => x ∈ t) (fun _ h => h) hlt
    have hx := ht _ hm
    have hnone : Pt.step w v p (t.getD i default) = none → I 0 = I (kind w v t) := fun hs => by rw [kind_none (run_none w v hlt hrun hs)]
    have hsnoc : ∀ p', Pt.step w v p (t.getD i default) = some p' → run w v [] (t.take (i + 1)) = some p' := fun p' hs => by
      rw [take_succ_snoc hlt, run_snoc, hrun]; exact hs
    generalize t.getD i default = x at hx hnone hsnoc ⊢
    intro r9 n9 hr9
    (try simp (maxSteps := 1000000) (disch := (first | assumption | (apply Ne.symm; assumption))) only [vw0, vw1, vw2, vw3, vw4, vu0, vu1, ↓condV_t, ↓condV_f, cap_nil, allocV, splice, partV, buildV, eqFieldsV, eqS, tabs, TK.agg, reduceCtorEq, Array.toList, List.map_cons, List.map_nil, ↓reduceIte, List.length_map, Nat.reduceAdd, Nat.reduceLeDiff, Nat.reduceLT, Nat.reduceMul, Nat.reduceSub, Option.bind_some, Option.map_some, bndV, numV, eI, eU, e8, eB, AV.isCell, Int.reduceToNat, Int.reduceSub, Int.reduceAdd, Int.reduceNeg])
    have hle9 : Heap.le H ((H.set q (cP fI p)).set r9 [I x.op, U x.n]) := Heap.le_setN hle hr9
    refine l2Need_spec x.op fun pp hpp => ?_
    (try simp (maxSteps := 1000000) (disch := (first | assumption | (apply Ne.symm; assumption))) only [vw0, vw1, vw2, vw3, vw4, vu0, vu1, ↓condV_t, ↓condV_f, cap_nil, allocV, splice, partV, buildV, eqFieldsV, eqS, tabs, TK.agg, reduceCtorEq, Array.toList, List.map_cons, List.map_nil, ↓reduceIte, List.length_map, Nat.reduceAdd, Nat.reduceLeDiff, Nat.reduceLT, Nat.reduceMul, Nat.reduceSub, Option.bind_some, Option.map_some, bndV, numV, eI, eU, e8, eB, AV.isCell, Int.reduceToNat, Int.reduceSub, Int.reduceAdd, Int.reduceNeg])
    have hml := many_le x.op
    refine ⟨fun h0 => ⟨hnone (step_none (.inl h0)), hle9⟩, fun h0 => ?_⟩
    refine Pu.use (l2N_spec w v x hv hx) ?_
    cases hlf : leafOk w v x
    · (try simp (maxSteps := 1000000) (disch := (first | assumption | (apply Ne.symm; assumption))) only [vw0, vw1, vw2, vw3, vw4, vu0, vu1, ↓condV_t, ↓condV_f, cap_nil, allocV, splice, partV, buildV, eqFieldsV, eqS, tabs, TK.agg, reduceCtorEq, Array.toList, List.map_cons, List.map_nil, ↓reduceIte, List.length_map, Nat.reduceAdd, Nat.reduceLeDiff, Nat.reduceLT, Nat.reduceMul, Nat.reduceSub, Option.bind_some, Option.map_some, bndV, numV, eI, eU, e8, eB, AV.isCell, Int.reduceToNat, Int.reduceSub, Int.reduceAdd, Int.reduceNeg])
      exact ⟨hnone (step_none (.inr (.inl hlf))), hle9⟩
    (try simp (maxSteps := 1000000) (disch := (first | assumption | (apply Ne.symm; assumption))) only [vw0, vw1, vw2, vw3, vw4, vu0, vu1, ↓condV_t, ↓condV_f, cap_nil, allocV, splice, partV, buildV, eqFieldsV, eqS, tabs, TK.agg, reduceCtorEq, Array.toList, List.map_cons, List.map_nil, ↓reduceIte, List.length_map, Nat.reduceAdd, Nat.reduceLeDiff, Nat.reduceLT, Nat.reduceMul, Nat.reduceSub, Option.bind_some, Option.map_some, bndV, numV, eI, eU, e8, eB, AV.isCell, Int.reduceToNat, Int.reduceSub, Int.reduceAdd, Int.reduceNeg])
    refine ⟨fun h3 => ⟨hnone (step_none (.inr (.inr (by omega)))), hle9⟩, fun h3 => ?_⟩
    have hqG : ∀ z1, ((H.set q (cP fI p)).set r9 z1) q = some (cP fI p) := fun z1 => by rw [Heap.set_other (Ne.symm n9), Heap.set_same]
    refine L79_1_rule (0 : Nat) (fun j => .sl q 1 0 (p.length - j)) (fun j => I ((many x.op - j : Nat) : Int)) (fun _ => (H.set q (cP fI p)).set r9 [I x.op, U x.n]) (fun j => j ≤ many x.op ∧ ∀ j', j' < j → p.getD (p.length - 1 - j') 0 = pp) (fun j => many x.op - j)
      ⟨⟨by omega, fun _ h => by omega⟩, .refl _, .refl _, Heap.le_refl _⟩ ?_
    rintro j ⟨hj, hall⟩
    have e1 : j < many x.op → IntKind.i64.wrap (((p.length - j : Nat) : Int) - 1) = ((p.length - 1 - j : Nat) : Int) := fun hjm => by rw [i64_id (by omega) (by omega)]; omega
    (try simp (maxSteps := 1000000) (disch := (first | assumption | (apply Ne.symm; assumption))) only [vw0, vw1, vw2, vw3, vw4, vu0, vu1, ↓condV_t, ↓condV_f, cap_nil, allocV, splice, partV, buildV, eqFieldsV, eqS, tabs, TK.agg, reduceCtorEq, Array.toList, List.map_cons, List.map_nil, ↓reduceIte, List.length_map, Nat.reduceAdd, Nat.reduceLeDiff, Nat.reduceLT, Nat.reduceMul, Nat.reduceSub, Option.bind_some, Option.map_some, bndV, numV, eI, eU, e8, eB, AV.isCell, Int.reduceToNat, Int.reduceSub, Int.reduceAdd, Int.reduceNeg, B79_1])
    refine ⟨fun h5 => ?_, fun h5 => ?_⟩
    · have hjm : j < many x.op := by omega
      rw [e1 hjm]
      have hpp2 : pp = Pt.part x.op := by
        rcases hpp with h | h
        · omega
        · exact h
      refine ⟨by omega, by omega, ?_⟩
      simp only [Int.toNat_natCast]
      refine ⟨by omega, ?_⟩
      rw [show (List.take 1 (List.drop ((p.length - 1 - j) * 1) (cP fI p))).headD AV.any = I (p.getD (p.length - 1 - j) 0) by rw [Nat.mul_one]; exact read_row (f := fI) 0 (by omega)]
      (try simp (maxSteps := 1000000) (disch := (first | assumption | (apply Ne.symm; assumption))) only [vw0, vw1, vw2, vw3, vw4, vu0, vu1, ↓condV_t, ↓condV_f, cap_nil, allocV, splice, partV, buildV, eqFieldsV, eqS, tabs, TK.agg, reduceCtorEq, Array.toList, List.map_cons, List.map_nil, ↓reduceIte, List.length_map, Nat.reduceAdd, Nat.reduceLeDiff, Nat.reduceLT, Nat.reduceMul, Nat.reduceSub, Option.bind_some, Option.map_some, bndV, numV, eI, eU, e8, eB, AV.isCell, Int.reduceToNat, Int.reduceSub, Int.reduceAdd, Int.reduceNeg])
      refine ⟨fun hne => ?_, fun heq => ⟨by omega, by omega, by omega, j + 1, ⟨by omega, fun j' hj' => ?_⟩, by omega, ?_, ?_⟩⟩
      · refine ⟨hnone (step_any ?_), hle9⟩
        rw [← hpp2]; exact any_last hjm (by omega) hne
      · rcases Nat.lt_succ_iff_lt_or_eq.1 hj' with h6 | rfl
        · exact hall j' h6
        · exact heq
      · have e4 : ((p.length - 1 - j : Nat) : Int).toNat = p.length - (j + 1) := by omega
        first
          | (rw [show p.length - 1 - j = p.length - (j + 1) by omega]; exact .refl _)
          | (simp only [e4]; exact .refl _)
      · rw [wk_int, i64_id (by omega) (by omega)]; omega
    · have hjm : j = many x.op := by omega
      subst hjm
      have ha : ((p.drop (p.length - many x.op)).any fun k => decide (k ≠ Pt.part x.op)) = false := by
        refine any_none (by omega) fun j' hj' => ?_
        rcases hpp with h | h
        · omega
        · rw [← h]; exact hall j' hj'
      refine lit1 tab_46 rfl tab_3 ⟨rfl, rfl⟩ ?_
      refine app_prefix (f := fI) (xs := p) (ys := [Pt.own x.op]) tab_46 rfl tab_3 rfl (by decide) (hqG _) (by omega) (by simp; omega) fun q' hq' hne => ?_
      simp only [Heap.set_none] at hq'
      obtain ⟨p1, p2, p3⟩ := hq'
      (try simp (maxSteps := 1000000) (disch := (first | assumption | (apply Ne.symm; assumption))) only [vw0, vw1, vw2, vw3, vw4, vu0, vu1, ↓condV_t, ↓condV_f, cap_nil, allocV, splice, partV, buildV, eqFieldsV, eqS, tabs, TK.agg, reduceCtorEq, Array.toList, List.map_cons, List.map_nil, ↓reduceIte, List.length_map, Nat.reduceAdd, Nat.reduceLeDiff, Nat.reduceLT, Nat.reduceMul, Nat.reduceSub, Option.bind_some, Option.map_some, bndV, numV, eI, eU, e8, eB, AV.isCell, Int.reduceToNat, Int.reduceSub, Int.reduceAdd, Int.reduceNeg])
      refine ⟨(i + 1, q', p.take (p.length - many x.op) ++ [Pt.own x.op]), ⟨by simp only; omega, hsnoc _ (step_some h0 hlf (by omega) ha), p3, by simp; omega⟩, by simp only; omega, ?_, ?_, ?_⟩
      · simp only [List.length_append, List.length_cons, List.length_nil]; exact .refl _
      · rw [wk_int, i64_id (by omega) (by omega)]; simp
      · generalize cP fI (p.take (p.length - many x.op) ++ [Pt.own x.op]) = z
        (intro y b hy; simp only [Heap.set, Heap.del] at hy ⊢; (repeat' split at hy) <;> (repeat' split) <;> simp_all [cells])
  · have : i = t.length := by omega
    subst this
    rw [List.take_length] at hrun
    have hk := kind_some hf hrun
    refine ⟨fun h1 => ⟨?_, hle⟩, fun h1 => ?_⟩
    · rw [hk, if_neg (by omega)]
    · have h1' : p.length = 1 := by omega
      rw [hk, if_pos h1']
      exact ⟨by omega, by omega, by omega, read_row (f := fI) (xs := p) (k := 0) 0 (by omega), hle⟩
end Go.Proofs.YtgcklgeifdefhaaGreat
