/- Texts laid together: Le5 Le6 Le7 Le8a Lr1 Lt1 Lt2 Mt0 Pm1 Ma1. -/
import Derived.Test.YtgcklgeifdefhaaGreatLp6
/- Specs: the kinds of terms, in the program and in the reference. -/
namespace Go.Proofs.YtgcklgeifdefhaaGreat
open Go Go.Sep Go.Pt
set_option linter.unusedSimpArgs false
set_option linter.unusedVariables false
attribute [local irreducible] CallT

theorem kindOf_spec (t : List Nd) (h1 : 1 ≤ t.length) (hl : t.length ≤ 1048576) : Pu Tryz.prog 140 [Ns t] (I (Pt.own (t.getD (t.length - 1) default).op)) := by
  refine Pu.of fun H => ?_
  have e : IntKind.i64.wrap ((t.length : Int) - 1) = ((t.length - 1 : Nat) : Int) := by rw [i64_id (by omega) (by omega)]; omega
  refine W140_ok ?_; simp (maxSteps := 1000000) (disch := (first | assumption | (apply Ne.symm; assumption))) only [W140, vw0, vw1, vw2, vw3, vw4, vu0, vu1, ↓condV_t, ↓condV_f, cap_nil, allocV, splice, partV, buildV, eqFieldsV, eqS, tabs, TK.agg, reduceCtorEq, Array.toList, List.map_cons, List.map_nil, ↓reduceIte, List.length_map, Nat.reduceAdd, Nat.reduceLeDiff, Nat.reduceLT, Nat.reduceMul, Nat.reduceSub, Option.bind_some, Option.map_some, bndV, numV, eI, eU, e8, eB, AV.isCell, Int.reduceToNat, Int.reduceSub, Int.reduceAdd, Int.reduceNeg, e]
  refine ⟨by omega, by omega, ?_⟩
  refine operandsOf_spec _ fun pp _ => ?_
  (try simp (maxSteps := 1000000) (disch := (first | assumption | (apply Ne.symm; assumption))) only [vw0, vw1, vw2, vw3, vw4, vu0, vu1, ↓condV_t, ↓condV_f, cap_nil, allocV, splice, partV, buildV, eqFieldsV, eqS, tabs, TK.agg, reduceCtorEq, Array.toList, List.map_cons, List.map_nil, ↓reduceIte, List.length_map, Nat.reduceAdd, Nat.reduceLeDiff, Nat.reduceLT, Nat.reduceMul, Nat.reduceSub, Option.bind_some, Option.map_some, bndV, numV, eI, eU, e8, eB, AV.isCell, Int.reduceToNat, Int.reduceSub, Int.reduceAdd, Int.reduceNeg])

theorem kind_gt {w v : Int} {t : List Nd} {k : Int} (hk : k ≠ 0) : decide (kind w v t = k) = (gtI w v t && decide (Pt.own (t.getD (t.length - 1) default).op = k)) := by
  cases hf : frame w v t
  · rw [kind_f hf]; simp [gtI, hf, Ne.symm hk]
  · rw [kind_eq hf k hk]
    simp only [gtI, hf, Bool.true_and]
    cases run w v [] t <;> rfl

theorem isTermOf_spec (w v : Int) (t : List Nd) (k : Int) (hk : k ≠ 0) (hl : t.length ≤ 1048576) (ht : ∀ x ∈ t, okN x) : Pu Tryz.prog 87 [I w, I v, Ns t, I k] (B (decide (kind w v t = k))) := by
  refine Pu.of fun H => ?_
  refine W87_ok ?_; simp (maxSteps := 1000000) (disch := (first | assumption | (apply Ne.symm; assumption))) only [W87, vw0, vw1, vw2, vw3, vw4, vu0, vu1, ↓condV_t, ↓condV_f, cap_nil, allocV, splice, partV, buildV, eqFieldsV, eqS, tabs, TK.agg, reduceCtorEq, Array.toList, List.map_cons, List.map_nil, ↓reduceIte, List.length_map, Nat.reduceAdd, Nat.reduceLeDiff, Nat.reduceLT, Nat.reduceMul, Nat.reduceSub, Option.bind_some, Option.map_some, bndV, numV, eI, eU, e8, eB, AV.isCell, Int.reduceToNat, Int.reduceSub, Int.reduceAdd, Int.reduceNeg]
  refine Pu.use (GoodTerm_spec w v t hl ht) ?_
  rw [kind_gt hk]
  cases h : gtI w v t
  · (try simp (maxSteps := 1000000) (disch := (first | assumption | (apply Ne.symm; assumption))) only [vw0, vw1, vw2, vw3, vw4, vu0, vu1, ↓condV_t, ↓condV_f, cap_nil, allocV, splice, partV, buildV, eqFieldsV, eqS, tabs, TK.agg, reduceCtorEq, Array.toList, List.map_cons, List.map_nil, ↓reduceIte, List.length_map, Nat.reduceAdd, Nat.reduceLeDiff, Nat.reduceLT, Nat.reduceMul, Nat.reduceSub, Option.bind_some, Option.map_some, bndV, numV, eI, eU, e8, eB, AV.isCell, Int.reduceToNat, Int.reduceSub, Int.reduceAdd, Int.reduceNeg])
  · (try simp (maxSteps := 1000000) (disch := (first | assumption | (apply Ne.symm; assumption))) only [vw0, vw1, vw2, vw3, vw4, vu0, vu1, ↓condV_t, ↓condV_f, cap_nil, allocV, splice, partV, buildV, eqFieldsV, eqS, tabs, TK.agg, reduceCtorEq, Array.toList, List.map_cons, List.map_nil, ↓reduceIte, List.length_map, Nat.reduceAdd, Nat.reduceLeDiff, Nat.reduceLT, Nat.reduceMul, Nat.reduceSub, Option.bind_some, Option.map_some, bndV, numV, eI, eU, e8, eB, AV.isCell, Int.reduceToNat, Int.reduceSub, Int.reduceAdd, Int.reduceNeg])
    have h1 : 1 ≤ t.length := by
      simp only [gtI, frame, Bool.and_eq_true, decide_eq_true_eq] at h
      omega
    refine Pu.use (kindOf_spec t h1 hl) ?_
    (try simp (maxSteps := 1000000) (disch := (first | assumption | (apply Ne.symm; assumption))) only [vw0, vw1, vw2, vw3, vw4, vu0, vu1, ↓condV_t, ↓condV_f, cap_nil, allocV, splice, partV, buildV, eqFieldsV, eqS, tabs, TK.agg, reduceCtorEq, Array.toList, List.map_cons, List.map_nil, ↓reduceIte, List.length_map, Nat.reduceAdd, Nat.reduceLeDiff, Nat.reduceLT, Nat.reduceMul, Nat.reduceSub, Option.bind_some, Option.map_some, bndV, numV, eI, eU, e8, eB, AV.isCell, Int.reduceToNat, Int.reduceSub, Int.reduceAdd, Int.reduceNeg])

theorem load_int {q k m : Nat} {xs : List Int} {G : Heap} {K : AV → Prop} (hq : G q = some (cP fI xs)) (hk : k < xs.length) (h : K (I (xs.getD k 0))) : loadV tab 3 (.ptr q (k * 1)) G K := by
  rw [load_at hq]
  simp only [tab_3, TK.agg]
  refine ⟨by simp; omega, ?_⟩
  have := read_row (f := fI) 0 hk
  simp only [Nat.mul_one, Bool.false_eq_true, if_false]
  rw [this]; exact h

theorem any_last {p : List Int} {m j : Nat} {k : Int} (hj : j < m) (hm : m ≤ p.length) (h : p.getD (p.length - 1 - j) 0 ≠ k) : ((p.drop (p.length - m)).any fun x => decide (x ≠ k)) = true := by
  rw [List.any_eq_true]
  have hlt : p.length - 1 - j < p.length := by omega
  refine ⟨p.getD (p.length - 1 - j) 0, ?_, by simpa using h⟩
  rw [getD_lt hlt, List.mem_iff_getElem]
  refine ⟨m - 1 - j, by simp; omega, ?_⟩
  rw [List.getElem_drop]
  congr 1; omega
theorem any_none {p : List Int} {m : Nat} {k : Int} (hm : m ≤ p.length) (h : ∀ j, j < m → p.getD (p.length - 1 - j) 0 = k) : ((p.drop (p.length - m)).any fun x => decide (x ≠ k)) = false := by
  rw [List.any_eq_false]
  intro x hx
  obtain ⟨i, hi, rfl⟩ := List.mem_iff_getElem.1 hx
  simp only [List.length_drop] at hi
  have h1 := h (m - 1 - i) (by omega)
  rw [getD_lt (by omega)] at h1
  rw [List.getElem_drop]
  have : p[p.length - m + i] = k := by
    rw [← h1]; congr 1; omega
  simp [this]

theorem kind_none {w v : Int} {t : List Nd} (h : run w v [] t = none) : kind w v t = 0 := by
  unfold kind
  split
  · rw [h]
  · rfl

theorem kind_some {w v : Int} {t : List Nd} {p : List Int} (hf : frame w v t = true) (h : run w v [] t = some p) : kind w v t = if p.length = 1 then p.getD 0 0 else 0 := by
  unfold kind
  rw [if_pos hf, h]
  match p with
  | [] => rfl
  | [k] => rfl
  | a :: b :: p => simp

theorem l2Kind_spec (w v : Int) (t : List Nd) (hl : t.length ≤ 1048576) (ht : ∀ x ∈ t, okN x) : Pu Tryz.prog 79 [I w, I v, Ns t] (I (kind w v t)) := by
  refine Pu.of fun H => ?_
  refine CallT.ghost W79_hb fun q0 hq0 => ?_
  have bad : frame w v t = false → I 0 = I (kind w v t) := fun h => by rw [kind_f h]
  refine W79_ok ?_; simp (maxSteps := 1000000) (disch := (first | assumption | (apply Ne.symm; assumption))) only [W79, vw0, vw1, vw2, vw3, vw4, vu0, vu1, ↓condV_t, ↓condV_f, cap_nil, allocV, splice, partV, buildV, eqFieldsV, eqS, tabs, TK.agg, reduceCtorEq, Array.toList, List.map_cons, List.map_nil, ↓reduceIte, List.length_map, Nat.reduceAdd, Nat.reduceLeDiff, Nat.reduceLT, Nat.reduceMul, Nat.reduceSub, Option.bind_some, Option.map_some, bndV, numV, eI, eU, e8, eB, AV.isCell, Int.reduceToNat, Int.reduceSub, Int.reduceAdd, Int.reduceNeg]
  refine Pu.use (l1Wide_spec w) ?_
  cases hw : inB w 1 64
  · (try simp (maxSteps := 1000000) (disch := (first | assumption | (apply Ne.symm; assumption))) only [vw0, vw1, vw2, vw3, vw4, vu0, vu1, ↓condV_t, ↓condV_f, cap_nil, allocV, splice, partV, buildV, eqFieldsV, eqS, tabs, TK.agg, reduceCtorEq, Array.toList, List.map_cons, List.map_nil, ↓reduceIte, List.length_map, Nat.reduceAdd, Nat.reduceLeDiff, Nat.reduceLT, Nat.reduceMul, Nat.reduceSub, Option.bind_some, Option.map_some, bndV, numV, eI, eU, e8, eB, AV.isCell, Int.reduceToNat, Int.reduceSub, Int.reduceAdd, Int.reduceNeg])
    exact ⟨bad (by simp only [frame, hw, Bool.false_and]), Heap.le_set hq0⟩
  (try simp (maxSteps := 1000000) (disch := (first | assumption | (apply Ne.symm; assumption))) only [vw0, vw1, vw2, vw3, vw4, vu0, vu1, ↓condV_t, ↓condV_f, cap_nil, allocV, splice, partV, buildV, eqFieldsV, eqS, tabs, TK.agg, reduceCtorEq, Array.toList, List.map_cons, List.map_nil, ↓reduceIte, List.length_map, Nat.reduceAdd, Nat.reduceLeDiff, Nat.reduceLT, Nat.reduceMul, Nat.reduceSub, Option.bind_some, Option.map_some, bndV, numV, eI, eU, e8, eB, AV.isCell, Int.reduceToNat, Int.reduceSub, Int.reduceAdd, Int.reduceNeg])
  refine Pu.use (l1In_B v 1 4) ?_
  cases hv : inB v 1 4
  · (try simp (maxSteps := 1000000) (disch := (first | assumption | (apply Ne.symm; assumption))) only [vw0, vw1, vw2, vw3, vw4, vu0, vu1, ↓condV_t, ↓condV_f, cap_nil, allocV, splice, partV, buildV, eqFieldsV, eqS, tabs, TK.agg, reduceCtorEq, Array.toList, List.map_cons, List.map_nil, ↓reduceIte, List.length_map, Nat.reduceAdd, Nat.reduceLeDiff, Nat.reduceLT, Nat.reduceMul, Nat.reduceSub, Option.bind_some, Option.map_some, bndV, numV, eI, eU, e8, eB, AV.isCell, Int.reduceToNat, Int.reduceSub, Int.reduceAdd, Int.reduceNeg])
    exact ⟨bad (by simp only [frame, hw, hv, Bool.false_and, Bool.and_false]), Heap.le_set hq0⟩
  (try simp (maxSteps := 1000000) (disch := (first | assumption | (apply Ne.symm; assumption))) only [vw0, vw1, vw2, vw3, vw4, vu0, vu1, ↓condV_t, ↓condV_f, cap_nil, allocV, splice, partV, buildV, eqFieldsV, eqS, tabs, TK.agg, reduceCtorEq, Array.toList, List.map_cons, List.map_nil, ↓reduceIte, List.length_map, Nat.reduceAdd, Nat.reduceLeDiff, Nat.reduceLT, Nat.reduceMul, Nat.reduceSub, Option.bind_some, Option.map_some, bndV, numV, eI, eU, e8, eB, AV.isCell, Int.reduceToNat, Int.reduceSub, Int.reduceAdd, Int.reduceNeg])
  refine Pu.use (l1In_B t.length 1 48) ?_
  cases h12 : inB t.length 1 48
  · (try simp (maxSteps := 1000000) (disch := (first | assumption | (apply Ne.symm; assumption))) only [vw0, vw1, vw2, vw3, vw4, vu0, vu1, ↓condV_t, ↓condV_f, cap_nil, allocV, splice, partV, buildV, eqFieldsV, eqS, tabs, TK.agg, reduceCtorEq, Array.toList, List.map_cons, List.map_nil, ↓reduceIte, List.length_map, Nat.reduceAdd, Nat.reduceLeDiff, Nat.reduceLT, Nat.reduceMul, Nat.reduceSub, Option.bind_some, Option.map_some, bndV, numV, eI, eU, e8, eB, AV.isCell, Int.reduceToNat, Int.reduceSub, Int.reduceAdd, Int.reduceNeg])
    have h12' : ¬ (1 ≤ (t.length : Int) ∧ (t.length : Int) ≤ 48) := fun h => by rw [inB_iff.2 h] at h12; cases h12
    refine ⟨bad ?_, Heap.le_set hq0⟩
    have : (decide (1 ≤ t.length) && decide (t.length ≤ 48)) = false := by
      rw [Bool.eq_false_iff]; intro h; simp only [Bool.and_eq_true, decide_eq_true_eq] at h; omega
    simp only [frame, this, Bool.and_false]
  have h12' := inB_iff.1 h12
  have hf : frame w v t = true := by
    have a1 : 1 ≤ t.length := by omega
    have a2 : t.length ≤ 48 := by omega
    simp only [frame, hw, hv, a1, a2, decide_true, Bool.and_true]
  rw [inB_iff] at hw hv
  (try simp (maxSteps := 1000000) (disch := (first | assumption | (apply Ne.symm; assumption))) only [vw0, vw1, vw2, vw3, vw4, vu0, vu1, ↓condV_t, ↓condV_f, cap_nil, allocV, splice, partV, buildV, eqFieldsV, eqS, tabs, TK.agg, reduceCtorEq, Array.toList, List.map_cons, List.map_nil, ↓reduceIte, List.length_map, Nat.reduceAdd, Nat.reduceLeDiff, Nat.reduceLT, Nat.reduceMul, Nat.reduceSub, Option.bind_some, Option.map_some, bndV, numV, eI, eU, e8, eB, AV.isCell, Int.reduceToNat, Int.reduceSub, Int.reduceAdd, Int.reduceNeg])
  refine L79_0_rule ((0 : Nat), q0, ([] : List Int)) (fun s => rowP s.2.1 s.2.2) (fun s => I s.1) (fun s => H.set s.2.1 (cP fI s.2.2)) (fun s => s.1 ≤ t.length ∧ run w v [] (t.take s.1) = some s.2.2 ∧ H s.2.1 = none ∧ s.2.2.length ≤ s.1) (fun s => t.length - s.1)
    ⟨⟨by simp, by simp [run], hq0, by simp⟩, .nilo _ _ _, .refl _, Heap.le_refl _⟩ ?_
  rintro ⟨i, q, p⟩ ⟨hi, hrun, hq, hpl⟩
  dsimp only at hi hrun hq hpl
  have hle : Heap.le H (H.set q (cP fI p)) := Heap.le_set hq
  (try simp (maxSteps := 1000000) (disch := (first | assumption | (apply Ne.symm; assumption))) only [vw0, vw1, vw2, vw3, vw4, vu0, vu1, ↓condV_t, ↓condV_f, cap_nil, allocV, splice, partV, buildV, eqFieldsV, eqS, tabs, TK.agg, reduceCtorEq, Array.toList, List.map_cons, List.map_nil, ↓reduceIte, List.length_map, Nat.reduceAdd, Nat.reduceLeDiff, Nat.reduceLT, Nat.reduceMul, Nat.reduceSub, Option.bind_some, Option.map_some, bndV, numV, eI, eU, e8, eB, AV.isCell, Int.reduceToNat, Int.reduceSub, Int.reduceAdd, Int.reduceNeg, B79_0])
  refine ⟨fun h => ⟨by omega, h, ?_⟩, fun h => ?_⟩
  · have hlt : i < t.length := by omega
    have hm : t.getD i default ∈ t := getD_all (p := fun x => x ∈ t) (fun _ h => h) hlt
    have hx := ht _ hm
    have hnone : Pt.step w v p (t.getD i default) = none → I 0 = I (kind w v t) := fun hs => by rw [kind_none (run_none w v hlt hrun hs)]
    have hsnoc : ∀ p', Pt.step w v p (t.getD i default) = some p' → run w v [] (t.take (i + 1)) = some p' := fun p' hs => by
      rw [take_succ_snoc hlt, run_snoc, hrun]; exact hs
    generalize t.getD i default = x at hx hnone hsnoc ⊢
    intro r9 n9 hr9
    (try simp (maxSteps := 1000000) (disch := (first | assumption | (apply Ne.symm; assumption))) only [vw0, vw1, vw2, vw3, vw4, vu0, vu1, ↓condV_t, ↓condV_f, cap_nil, allocV, splice, partV, buildV, eqFieldsV, eqS, tabs, TK.agg, reduceCtorEq, Array.toList, List.map_cons, List.map_nil, ↓reduceIte, List.length_map, Nat.reduceAdd, Nat.reduceLeDiff, Nat.reduceLT, Nat.reduceMul, Nat.reduceSub, Option.bind_some, Option.map_some, bndV, numV, eI, eU, e8, eB, AV.isCell, Int.reduceToNat, Int.reduceSub, Int.reduceAdd, Int.reduceNeg])
    have hle9 : Heap.le H ((H.set q (cP fI p)).set r9 [I x.op, U x.n]) := Heap.le_setN hle hr9
    refine l2Need_spec x.op fun pp hpp => ?_
    (try simp (maxSteps := 1000000) (disch := (first | assumption | (apply Ne.symm; assumption))) only [vw0, vw1, vw2, vw3, vw4, vu0, vu1, ↓condV_t, ↓condV_f, cap_nil, allocV, splice, partV, buildV, eqFieldsV, eqS, tabs, TK.agg, reduceCtorEq, Array.toList, List.map_cons, List.map_nil, ↓reduceIte, List.length_map, Nat.reduceAdd, Nat.reduceLeDiff, Nat.reduceLT, Nat.reduceMul, Nat.reduceSub, Option.bind_some, Option.map_some, bndV, numV, eI, eU, e8, eB, AV.isCell, Int.reduceToNat, Int.reduceSub, Int.reduceAdd, Int.reduceNeg])
    have hml := many_le x.op
    refine ⟨fun h0 => ⟨hnone (step_none (.inl h0)), hle9⟩, fun h0 => ?_⟩
    refine Pu.use (l2N_spec w v x hv hx) ?_
    cases hlf : leafOk w v x
    · (try simp (maxSteps := 1000000) (disch := (first | assumption | (apply Ne.symm; assumption))) only [vw0, vw1, vw2, vw3, vw4, vu0, vu1, ↓condV_t, ↓condV_f, cap_nil, allocV, splice, partV, buildV, eqFieldsV, eqS, tabs, TK.agg, reduceCtorEq, Array.toList, List.map_cons, List.map_nil, ↓reduceIte, List.length_map, Nat.reduceAdd, Nat.reduceLeDiff, Nat.reduceLT, Nat.reduceMul, Nat.reduceSub, Option.bind_some, Option.map_some, bndV, numV, eI, eU, e8, eB, AV.isCell, Int.reduceToNat, Int.reduceSub, Int.reduceAdd, Int.reduceNeg])
      exact ⟨hnone (step_none (.inr (.inl hlf))), hle9⟩
    (try simp (maxSteps := 1000000) (disch := (first | assumption | (apply Ne.symm; assumption))) only [vw0, vw1, vw2, vw3, vw4, vu0, vu1, ↓condV_t, ↓condV_f, cap_nil, allocV, splice, partV, buildV, eqFieldsV, eqS, tabs, TK.agg, reduceCtorEq, Array.toList, List.map_cons, List.map_nil, ↓reduceIte, List.length_map, Nat.reduceAdd, Nat.reduceLeDiff, Nat.reduceLT, Nat.reduceMul, Nat.reduceSub, Option.bind_some, Option.map_some, bndV, numV, eI, eU, e8, eB, AV.isCell, Int.reduceToNat, Int.reduceSub, Int.reduceAdd, Int.reduceNeg])
    refine ⟨fun h3 => ⟨hnone (step_none (.inr (.inr (by omega)))), hle9⟩, fun h3 => ?_⟩
    have hqG : ∀ z1, ((H.set q (cP fI p)).set r9 z1) q = some (cP fI p) := fun z1 => by rw [Heap.set_other (Ne.symm n9), Heap.set_same]
    refine L79_1_rule (0 : Nat) (fun j => .sl q 1 0 (p.length - j)) (fun j => I ((many x.op - j : Nat) : Int)) (fun _ => (H.set q (cP fI p)).set r9 [I x.op, U x.n]) (fun j => j ≤ many x.op ∧ ∀ j', j' < j → p.getD (p.length - 1 - j') 0 = pp) (fun j => many x.op - j)
      ⟨⟨by omega, fun _ h => by omega⟩, .refl _, .refl _, Heap.le_refl _⟩ ?_
    rintro j ⟨hj, hall⟩
    have e1 : j < many x.op → IntKind.i64.wrap (((p.length - j : Nat) : Int) - 1) = ((p.length - 1 - j : Nat) : Int) := fun hjm => by rw [i64_id (by omega) (by omega)]; omega
    (try simp (maxSteps := 1000000) (disch := (first | assumption | (apply Ne.symm; assumption))) only [vw0, vw1, vw2, vw3, vw4, vu0, vu1, ↓condV_t, ↓condV_f, cap_nil, allocV, splice, partV, buildV, eqFieldsV, eqS, tabs, TK.agg, reduceCtorEq, Array.toList, List.map_cons, List.map_nil, ↓reduceIte, List.length_map, Nat.reduceAdd, Nat.reduceLeDiff, Nat.reduceLT, Nat.reduceMul, Nat.reduceSub, Option.bind_some, Option.map_some, bndV, numV, eI, eU, e8, eB, AV.isCell, Int.reduceToNat, Int.reduceSub, Int.reduceAdd, Int.reduceNeg, B79_1])
    refine ⟨fun h5 => ?_, fun h5 => ?_⟩
    · have hjm : j < many x.op := by omega
      rw [e1 hjm]
      have hpp2 : pp = Pt.part x.op := by
        rcases hpp with h | h
        · omega
        · exact h
      refine ⟨by omega, by omega, ?_⟩
      simp only [Int.toNat_natCast]
      refine ⟨by omega, ?_⟩
      rw [show (List.take 1 (List.drop ((p.length - 1 - j) * 1) (cP fI p))).headD AV.any = I (p.getD (p.length - 1 - j) 0) by rw [Nat.mul_one]; exact read_row (f := fI) 0 (by omega)]
      (try simp (maxSteps := 1000000) (disch := (first | assumption | (apply Ne.symm; assumption))) only [vw0, vw1, vw2, vw3, vw4, vu0, vu1, ↓condV_t, ↓condV_f, cap_nil, allocV, splice, partV, buildV, eqFieldsV, eqS, tabs, TK.agg, reduceCtorEq, Array.toList, List.map_cons, List.map_nil, ↓reduceIte, List.length_map, Nat.reduceAdd, Nat.reduceLeDiff, Nat.reduceLT, Nat.reduceMul, Nat.reduceSub, Option.bind_some, Option.map_some, bndV, numV, eI, eU, e8, eB, AV.isCell, Int.reduceToNat, Int.reduceSub, Int.reduceAdd, Int.reduceNeg])
      refine ⟨fun hne => ?_, fun heq => ⟨by omega, by omega, by omega, j + 1, ⟨by omega, fun j' hj' => ?_⟩, by omega, ?_, ?_⟩⟩
      · refine ⟨hnone (step_any ?_), hle9⟩
        rw [← hpp2]; exact any_last hjm (by omega) hne
      · rcases Nat.lt_succ_iff_lt_or_eq.1 hj' with h6 | rfl
        · exact hall j' h6
        · exact heq
      · have e4 : ((p.length - 1 - j : Nat) : Int).toNat = p.length - (j + 1) := by omega
        first
          | (rw [show p.length - 1 - j = p.length - (j + 1) by omega]; exact .refl _)
          | (simp only [e4]; exact .refl _)
      · rw [wk_int, i64_id (by omega) (by omega)]; omega
    · have hjm : j = many x.op := by omega
      subst hjm
      have ha : ((p.drop (p.length - many x.op)).any fun k => decide (k ≠ Pt.part x.op)) = false := by
        refine any_none (by omega) fun j' hj' => ?_
        rcases hpp with h | h
        · omega
        · rw [← h]; exact hall j' hj'
      refine lit1 tab_46 rfl tab_3 ⟨rfl, rfl⟩ ?_
      refine app_prefix (f := fI) (xs := p) (ys := [Pt.own x.op]) tab_46 rfl tab_3 rfl (by decide) (hqG _) (by omega) (by simp; omega) fun q' hq' hne => ?_
      simp only [Heap.set_none] at hq'
      obtain ⟨p1, p2, p3⟩ := hq'
      (try simp (maxSteps := 1000000) (disch := (first | assumption | (apply Ne.symm; assumption))) only [vw0, vw1, vw2, vw3, vw4, vu0, vu1, ↓condV_t, ↓condV_f, cap_nil, allocV, splice, partV, buildV, eqFieldsV, eqS, tabs, TK.agg, reduceCtorEq, Array.toList, List.map_cons, List.map_nil, ↓reduceIte, List.length_map, Nat.reduceAdd, Nat.reduceLeDiff, Nat.reduceLT, Nat.reduceMul, Nat.reduceSub, Option.bind_some, Option.map_some, bndV, numV, eI, eU, e8, eB, AV.isCell, Int.reduceToNat, Int.reduceSub, Int.reduceAdd, Int.reduceNeg])
      refine ⟨(i + 1, q', p.take (p.length - many x.op) ++ [Pt.own x.op]), ⟨by simp only; omega, hsnoc _ (step_some h0 hlf (by omega) ha), p3, by simp; omega⟩, by simp only; omega, ?_, ?_, ?_⟩
      · simp only [List.length_append, List.length_cons, List.length_nil]; exact .refl _
      · rw [wk_int, i64_id (by omega) (by omega)]; simp
      · generalize cP fI (p.take (p.length - many x.op) ++ [Pt.own x.op]) = z
        (intro y b hy; simp only [Heap.set, Heap.del] at hy ⊢; (repeat' split at hy) <;> (repeat' split) <;> simp_all [cells])
  · have : i = t.length := by omega
    subst this
    rw [List.take_length] at hrun
    have hk := kind_some hf hrun
    refine ⟨fun h1 => ⟨?_, hle⟩, fun h1 => ?_⟩
    · rw [hk, if_neg (by omega)]
    · have h1' : p.length = 1 := by omega
      rw [hk, if_pos h1']
      exact ⟨by omega, by omega, by omega, read_row (f := fI) (xs := p) (k := 0) 0 (by omega), hle⟩
end Go.Proofs.YtgcklgeifdefhaaGreat
/- Specs: commands and programs. -/
namespace Go.Proofs.YtgcklgeifdefhaaGreat
open Go Go.Sep Go.Pt
set_option linter.unusedSimpArgs false
set_option linter.unusedVariables false
attribute [local irreducible] CallT

def vT (t : List Nd) : Prop := t.length ≤ 1048576 ∧ ∀ x ∈ t, okN x
def vCh (c : Ch) : Prop := vT c.by_
def vCm (c : Cm) : Prop := vT c.when_ ∧ c.chs.length ≤ 1048576 ∧ ∀ x ∈ c.chs, vCh x
def vPg (p : Pg) : Prop := vT p.start ∧ p.cmds.length ≤ 1048576 ∧ ∀ c ∈ p.cmds, vCm c
theorem mul_rng {w v : Int} (hw : 1 ≤ w ∧ w ≤ 64) (hv : 1 ≤ v ∧ v ≤ 4) : 1 ≤ w * v ∧ w * v ≤ 256 := by
  obtain rfl | rfl | rfl | rfl : v = 1 ∨ v = 2 ∨ v = 3 ∨ v = 4 := by omega
  all_goals omega

theorem IndexFuncC_at (xs : List Cm) (g : Nat) (caps : List AV) (p : Cm → Bool) {H : Heap} (hl : xs.length ≤ 1000000000) (hp : ∀ x ∈ xs, PuAt Tryz.prog g (aCm x :: caps) H (B (p x))) :
    PuAt Tryz.prog 168 [Cms xs, .fn g caps] H (I (if xs.any p then (xs.findIdx p : Int) else -1)) := by
  intro K hK
  refine CallT.fin ?_
  refine W168_ok ?_; simp (maxSteps := 1000000) (disch := (first | assumption | (apply Ne.symm; assumption))) only [W168, vw0, vw1, vw2, vw3, vw4, vu0, vu1, ↓condV_t, ↓condV_f, cap_nil, allocV, splice, partV, buildV, eqFieldsV, eqS, tabs, TK.agg, reduceCtorEq, Array.toList, List.map_cons, List.map_nil, ↓reduceIte, List.length_map, Nat.reduceAdd, Nat.reduceLeDiff, Nat.reduceLT, Nat.reduceMul, Nat.reduceSub, Option.bind_some, Option.map_some, bndV, numV, eI, eU, e8, eB, AV.isCell, Int.reduceToNat, Int.reduceSub, Int.reduceAdd, Int.reduceNeg]
  refine L168_0_rule (0 : Nat) (fun i => I i) (fun _ => H) (fun i => i ≤ xs.length ∧ ∀ j (hj : j < xs.length), j < i → p xs[j] = false) (fun i => xs.length - i) ⟨⟨by omega, by intros; omega⟩, .refl _, Heap.le_refl _⟩ ?_
  rintro i ⟨hi1, ha⟩
  (try simp (maxSteps := 1000000) (disch := (first | assumption | (apply Ne.symm; assumption))) only [vw0, vw1, vw2, vw3, vw4, vu0, vu1, ↓condV_t, ↓condV_f, cap_nil, allocV, splice, partV, buildV, eqFieldsV, eqS, tabs, TK.agg, reduceCtorEq, Array.toList, List.map_cons, List.map_nil, ↓reduceIte, List.length_map, Nat.reduceAdd, Nat.reduceLeDiff, Nat.reduceLT, Nat.reduceMul, Nat.reduceSub, Option.bind_some, Option.map_some, bndV, numV, eI, eU, e8, eB, AV.isCell, Int.reduceToNat, Int.reduceSub, Int.reduceAdd, Int.reduceNeg, B168_0])
  refine ⟨fun h => ⟨by omega, h, ?_⟩, fun h => ?_⟩
  · have hlt : i < xs.length := by omega
    rw [getD_lt hlt]
    refine PuAt.use (hp _ (List.getElem_mem hlt)) ?_
    (try simp (maxSteps := 1000000) (disch := (first | assumption | (apply Ne.symm; assumption))) only [vw0, vw1, vw2, vw3, vw4, vu0, vu1, ↓condV_t, ↓condV_f, cap_nil, allocV, splice, partV, buildV, eqFieldsV, eqS, tabs, TK.agg, reduceCtorEq, Array.toList, List.map_cons, List.map_nil, ↓reduceIte, List.length_map, Nat.reduceAdd, Nat.reduceLeDiff, Nat.reduceLT, Nat.reduceMul, Nat.reduceSub, Option.bind_some, Option.map_some, bndV, numV, eI, eU, e8, eB, AV.isCell, Int.reduceToNat, Int.reduceSub, Int.reduceAdd, Int.reduceNeg])
    refine ⟨fun h1 => ?_, fun h1 => ⟨i + 1, ⟨by omega, fun j hj hji => ?_⟩, by omega, ?_⟩⟩
    · have h2 : xs.any p = true := List.any_eq_true.2 ⟨xs[i], List.getElem_mem hlt, h1⟩
      have h3 : xs.findIdx p = i := by
        rw [List.findIdx_eq hlt]; exact ⟨h1, fun j hj => ha j (by omega) hj⟩
      rw [h2, h3] at hK; exact wkK.keep (by simpa using hK)
    · rcases Nat.lt_succ_iff_lt_or_eq.1 hji with h2 | rfl
      · exact ha j hj h2
      · exact h1
    · rw [wk_int, i64_id (by omega) (by omega)]; simp
  · have hi : i = xs.length := by omega
    have h2 : xs.any p = false := by
      rw [List.any_eq_false]
      intro x hx
      obtain ⟨j, hj, rfl⟩ := List.mem_iff_getElem.1 hx
      rw [ha j hj (by omega)]; simp
    rw [h2] at hK; exact wkK.keep (by simpa using hK)

theorem ContainsFuncC_at (xs : List Cm) (g : Nat) (caps : List AV) (p : Cm → Bool) {H : Heap} (hl : xs.length ≤ 1000000000) (hp : ∀ x ∈ xs, PuAt Tryz.prog g (aCm x :: caps) H (B (p x))) :
    PuAt Tryz.prog 131 [Cms xs, .fn g caps] H (B (xs.any p)) := by
  intro K hK
  refine W131_ok ?_; simp (maxSteps := 1000000) (disch := (first | assumption | (apply Ne.symm; assumption))) only [W131, vw0, vw1, vw2, vw3, vw4, vu0, vu1, ↓condV_t, ↓condV_f, cap_nil, allocV, splice, partV, buildV, eqFieldsV, eqS, tabs, TK.agg, reduceCtorEq, Array.toList, List.map_cons, List.map_nil, ↓reduceIte, List.length_map, Nat.reduceAdd, Nat.reduceLeDiff, Nat.reduceLT, Nat.reduceMul, Nat.reduceSub, Option.bind_some, Option.map_some, bndV, numV, eI, eU, e8, eB, AV.isCell, Int.reduceToNat, Int.reduceSub, Int.reduceAdd, Int.reduceNeg]
  refine PuAt.use (IndexFuncC_at xs g caps p hl hp) ?_
  (try simp (maxSteps := 1000000) (disch := (first | assumption | (apply Ne.symm; assumption))) only [vw0, vw1, vw2, vw3, vw4, vu0, vu1, ↓condV_t, ↓condV_f, cap_nil, allocV, splice, partV, buildV, eqFieldsV, eqS, tabs, TK.agg, reduceCtorEq, Array.toList, List.map_cons, List.map_nil, ↓reduceIte, List.length_map, Nat.reduceAdd, Nat.reduceLeDiff, Nat.reduceLT, Nat.reduceMul, Nat.reduceSub, Option.bind_some, Option.map_some, bndV, numV, eI, eU, e8, eB, AV.isCell, Int.reduceToNat, Int.reduceSub, Int.reduceAdd, Int.reduceNeg])
  cases h : xs.any p <;> simp [h] at hK ⊢ <;> exact hK

theorem isCondition_spec (p : Pg) (t : List Nd) (ht : vT t) : Pu Tryz.prog 48 [aPg p, Ns t] (B (decide (kind p.wide p.vars t = 2))) := by
  refine Pu.of fun H => ?_
  refine W48_ok ?_; simp (maxSteps := 1000000) (disch := (first | assumption | (apply Ne.symm; assumption))) only [W48, vw0, vw1, vw2, vw3, vw4, vu0, vu1, ↓condV_t, ↓condV_f, cap_nil, allocV, splice, partV, buildV, eqFieldsV, eqS, tabs, TK.agg, reduceCtorEq, Array.toList, List.map_cons, List.map_nil, ↓reduceIte, List.length_map, Nat.reduceAdd, Nat.reduceLeDiff, Nat.reduceLT, Nat.reduceMul, Nat.reduceSub, Option.bind_some, Option.map_some, bndV, numV, eI, eU, e8, eB, AV.isCell, Int.reduceToNat, Int.reduceSub, Int.reduceAdd, Int.reduceNeg]
  intro r hr
  exact Pu.use (isTermOf_spec p.wide p.vars t 2 (by decide) ht.1 ht.2) ⟨rfl, Heap.le_set hr⟩
theorem l7Asks_spec (p : Pg) (t : List Nd) (ht : vT t) : Pu Tryz.prog 40 [aPg p, Ns t] (B (decide (kind p.wide p.vars t = 2))) := by
  refine Pu.of fun H => ?_
  refine W40_ok ?_; simp (maxSteps := 1000000) (disch := (first | assumption | (apply Ne.symm; assumption))) only [W40, vw0, vw1, vw2, vw3, vw4, vu0, vu1, ↓condV_t, ↓condV_f, cap_nil, allocV, splice, partV, buildV, eqFieldsV, eqS, tabs, TK.agg, reduceCtorEq, Array.toList, List.map_cons, List.map_nil, ↓reduceIte, List.length_map, Nat.reduceAdd, Nat.reduceLeDiff, Nat.reduceLT, Nat.reduceMul, Nat.reduceSub, Option.bind_some, Option.map_some, bndV, numV, eI, eU, e8, eB, AV.isCell, Int.reduceToNat, Int.reduceSub, Int.reduceAdd, Int.reduceNeg]
  intro r hr
  refine Pu.use (l2Kind_spec p.wide p.vars t ht.1 ht.2) ?_
  (try simp (maxSteps := 1000000) (disch := (first | assumption | (apply Ne.symm; assumption))) only [vw0, vw1, vw2, vw3, vw4, vu0, vu1, ↓condV_t, ↓condV_f, cap_nil, allocV, splice, partV, buildV, eqFieldsV, eqS, tabs, TK.agg, reduceCtorEq, Array.toList, List.map_cons, List.map_nil, ↓reduceIte, List.length_map, Nat.reduceAdd, Nat.reduceLeDiff, Nat.reduceLT, Nat.reduceMul, Nat.reduceSub, Option.bind_some, Option.map_some, bndV, numV, eI, eU, e8, eB, AV.isCell, Int.reduceToNat, Int.reduceSub, Int.reduceAdd, Int.reduceNeg])
  exact Heap.le_set hr

def chk (w v : Int) (c : Cm) (i : Nat) : Bool := goodCh w v (if i = 0 then none else some (c.chs.getD (i - 1) default).var) (c.chs.getD i default)
theorem goodCm_def (w v : Int) (c : Cm) : goodCm w v c = (decide (kind w v c.when_ = 2) && ((List.range c.chs.length).all (chk w v c))) := rfl
theorem goodCm_bad {w v : Int} {c : Cm} {i : Nat} (hi : i < c.chs.length) (h : chk w v c i = false) : B false = B (goodCm w v c) := by
  rw [goodCm_def, range_all_false hi h, Bool.and_false]
theorem chk_f {w v : Int} {c : Cm} {i : Nat} (h : ¬ ((0 ≤ (c.chs.getD i default).var ∧ (c.chs.getD i default).var ≤ v - 1) ∧ (0 < i → (c.chs.getD (i - 1) default).var < (c.chs.getD i default).var) ∧ kind w v (c.chs.getD i default).by_ = 1)) : chk w v c i = false := by
  rw [Bool.eq_false_iff]; intro h2
  apply h
  simp only [chk, goodCh, Bool.and_eq_true, inB_iff, decide_eq_true_eq] at h2
  refine ⟨h2.1.1, fun h0 => ?_, h2.2⟩
  have := h2.1.2
  rw [if_neg (by omega)] at this
  simpa using this
theorem chk_t {w v : Int} {c : Cm} {i : Nat} (h1 : 0 ≤ (c.chs.getD i default).var ∧ (c.chs.getD i default).var ≤ v - 1) (h2 : 0 < i → (c.chs.getD (i - 1) default).var < (c.chs.getD i default).var) (h3 : kind w v (c.chs.getD i default).by_ = 1) : chk w v c i = true := by
  simp only [chk, goodCh, Bool.and_eq_true, inB_iff, decide_eq_true_eq]
  refine ⟨⟨h1, ?_⟩, h3⟩
  split
  · rename_i p hp
    split at hp
    · cases hp
    · injection hp with hp; subst hp
      simpa using h2 (by omega)
  · rfl

theorem isCommand_spec (p : Pg) (c : Cm) (hc : vCm c) : Pu Tryz.prog 133 [aPg p, aCm c] (B (goodCm p.wide p.vars c)) := by
  refine Pu.of fun H => ?_
  refine W133_ok ?_; simp (maxSteps := 1000000) (disch := (first | assumption | (apply Ne.symm; assumption))) only [W133, vw0, vw1, vw2, vw3, vw4, vu0, vu1, ↓condV_t, ↓condV_f, cap_nil, allocV, splice, partV, buildV, eqFieldsV, eqS, tabs, TK.agg, reduceCtorEq, Array.toList, List.map_cons, List.map_nil, ↓reduceIte, List.length_map, Nat.reduceAdd, Nat.reduceLeDiff, Nat.reduceLT, Nat.reduceMul, Nat.reduceSub, Option.bind_some, Option.map_some, bndV, numV, eI, eU, e8, eB, AV.isCell, Int.reduceToNat, Int.reduceSub, Int.reduceAdd, Int.reduceNeg]
  intro r hr r3 n3 hr3
  have hle : Heap.le H ((H.set r [I p.wide, I p.vars, Ns p.start, Cms p.cmds]).set r3 [Ns c.when_, Chs c.chs]) := Heap.le_setN (Heap.le_set hr) hr3
  (try simp (maxSteps := 1000000) (disch := (first | assumption | (apply Ne.symm; assumption))) only [vw0, vw1, vw2, vw3, vw4, vu0, vu1, ↓condV_t, ↓condV_f, cap_nil, allocV, splice, partV, buildV, eqFieldsV, eqS, tabs, TK.agg, reduceCtorEq, Array.toList, List.map_cons, List.map_nil, ↓reduceIte, List.length_map, Nat.reduceAdd, Nat.reduceLeDiff, Nat.reduceLT, Nat.reduceMul, Nat.reduceSub, Option.bind_some, Option.map_some, bndV, numV, eI, eU, e8, eB, AV.isCell, Int.reduceToNat, Int.reduceSub, Int.reduceAdd, Int.reduceNeg])
  refine Pu.use (isCondition_spec p c.when_ hc.1) ?_
  (try simp (maxSteps := 1000000) (disch := (first | assumption | (apply Ne.symm; assumption))) only [vw0, vw1, vw2, vw3, vw4, vu0, vu1, ↓condV_t, ↓condV_f, cap_nil, allocV, splice, partV, buildV, eqFieldsV, eqS, tabs, TK.agg, reduceCtorEq, Array.toList, List.map_cons, List.map_nil, ↓reduceIte, List.length_map, Nat.reduceAdd, Nat.reduceLeDiff, Nat.reduceLT, Nat.reduceMul, Nat.reduceSub, Option.bind_some, Option.map_some, bndV, numV, eI, eU, e8, eB, AV.isCell, Int.reduceToNat, Int.reduceSub, Int.reduceAdd, Int.reduceNeg])
  refine ⟨fun h => ⟨by rw [goodCm_def, decide_eq_false h, Bool.false_and], hle⟩, fun h => ?_⟩
  refine L133_0_rule (0 : Nat) (fun i => I i) (fun _ => (H.set r [I p.wide, I p.vars, Ns p.start, Cms p.cmds]).set r3 [Ns c.when_, Chs c.chs]) (fun i => i ≤ c.chs.length ∧ (List.range i).all (chk p.wide p.vars c) = true) (fun i => c.chs.length - i) ⟨⟨by omega, by simp⟩, .refl _, Heap.le_refl _⟩ ?_
  rintro i ⟨hi, ha⟩
  have hcl := hc.2.1
  have e1 : 0 < i → IntKind.i64.wrap ((i : Int) - 1) = ((i - 1 : Nat) : Int) := fun h0 => by rw [i64_id (by omega) (by omega)]; omega
  (try simp (maxSteps := 1000000) (disch := (first | assumption | (apply Ne.symm; assumption))) only [vw0, vw1, vw2, vw3, vw4, vu0, vu1, ↓condV_t, ↓condV_f, cap_nil, allocV, splice, partV, buildV, eqFieldsV, eqS, tabs, TK.agg, reduceCtorEq, Array.toList, List.map_cons, List.map_nil, ↓reduceIte, List.length_map, Nat.reduceAdd, Nat.reduceLeDiff, Nat.reduceLT, Nat.reduceMul, Nat.reduceSub, Option.bind_some, Option.map_some, bndV, numV, eI, eU, e8, eB, AV.isCell, Int.reduceToNat, Int.reduceSub, Int.reduceAdd, Int.reduceNeg, B133_0])
  refine ⟨fun h2 => ⟨by omega, h2, ?_⟩, fun h2 => ?_⟩
  · have hlt : i < c.chs.length := by omega
    have hm : c.chs.getD i default ∈ c.chs := getD_all (p := fun x => x ∈ c.chs) (fun _ h => h) hlt
    have hv := hc.2.2 _ hm
    have hbad := fun h => goodCm_bad (w := p.wide) (v := p.vars) hlt (chk_f h)
    intro r6 n63 n6 hr6
    have hle6 := fun z => Heap.le_setN (b := z) hle hr6
    have nn6 : r ≠ r6 := Ne.symm n6
    have nn63 : r3 ≠ r6 := Ne.symm n63
    (try simp (maxSteps := 1000000) (disch := (first | assumption | (apply Ne.symm; assumption))) only [vw0, vw1, vw2, vw3, vw4, vu0, vu1, ↓condV_t, ↓condV_f, cap_nil, allocV, splice, partV, buildV, eqFieldsV, eqS, tabs, TK.agg, reduceCtorEq, Array.toList, List.map_cons, List.map_nil, ↓reduceIte, List.length_map, Nat.reduceAdd, Nat.reduceLeDiff, Nat.reduceLT, Nat.reduceMul, Nat.reduceSub, Option.bind_some, Option.map_some, bndV, numV, eI, eU, e8, eB, AV.isCell, Int.reduceToNat, Int.reduceSub, Int.reduceAdd, Int.reduceNeg])
    refine ⟨fun h3 => ⟨hbad (by omega), hle6 _⟩, fun h3 => ⟨fun h4 => ⟨hbad (by omega), hle6 _⟩, fun h4 => ?_⟩⟩
    have tail : (0 < i → (c.chs.getD (i - 1) default).var < (c.chs.getD i default).var) → ∀ G, Heap.le H G → Heap.le ((H.set r [I p.wide, I p.vars, Ns p.start, Cms p.cmds]).set r3 [Ns c.when_, Chs c.chs]) G →
        CallT Tryz.prog 87 [I p.wide, I p.vars, Ns (c.chs.getD i default).by_, I 1] G fun v53 H6 => unV UnOp.not v53 fun v54 => condV v54 (AV.p (PV.bool false) = B (goodCm p.wide p.vars c) ∧ H.le H6)
            (∃ s', (s' ≤ c.chs.length ∧ (List.range s').all (chk p.wide p.vars c) = true) ∧ c.chs.length - s' < c.chs.length - i ∧ (AV.p (PV.int IntKind.i64 (IntKind.i64.wrap (↑i + 1)))).wk (I (s' : Nat)) ∧
              ((H.set r [I p.wide, I p.vars, Ns p.start, Cms p.cmds]).set r3 [Ns c.when_, Chs c.chs]).le H6) := by
      intro hprev G hG hG2
      refine Pu.use (isTermOf_spec p.wide p.vars _ 1 (by decide) hv.1 hv.2) ?_
      (try simp (maxSteps := 1000000) (disch := (first | assumption | (apply Ne.symm; assumption))) only [vw0, vw1, vw2, vw3, vw4, vu0, vu1, ↓condV_t, ↓condV_f, cap_nil, allocV, splice, partV, buildV, eqFieldsV, eqS, tabs, TK.agg, reduceCtorEq, Array.toList, List.map_cons, List.map_nil, ↓reduceIte, List.length_map, Nat.reduceAdd, Nat.reduceLeDiff, Nat.reduceLT, Nat.reduceMul, Nat.reduceSub, Option.bind_some, Option.map_some, bndV, numV, eI, eU, e8, eB, AV.isCell, Int.reduceToNat, Int.reduceSub, Int.reduceAdd, Int.reduceNeg])
      refine ⟨fun h6 => ⟨hbad fun hh => h6 hh.2.2, hG⟩, fun h6 => ⟨i + 1, ⟨by omega, ?_⟩, by omega, ?_, hG2⟩⟩
      · rw [range_all_succ, ha, chk_t (by omega) hprev h6]; rfl
      · rw [wk_int, i64_id (by omega) (by omega)]; simp
    have hle7 : ∀ z, Heap.le ((H.set r [I p.wide, I p.vars, Ns p.start, Cms p.cmds]).set r3 [Ns c.when_, Chs c.chs]) (((H.set r [I p.wide, I p.vars, Ns p.start, Cms p.cmds]).set r3 [Ns c.when_, Chs c.chs]).set r6 z) := fun z => Heap.le_set (by simp [Heap.set_none, n63, n6, hr6])
    refine ⟨fun h0 => ?_, fun h0 => tail (fun h => by omega) _ (hle6 _) (hle7 _)⟩
    rw [e1 (by omega)]
    simp only [Int.toNat_natCast]
    exact ⟨by omega, by omega, fun h5 => ⟨hbad fun hh => by have := hh.2.1 (by omega); omega, hle6 _⟩, fun h5 => tail (fun _ => by omega) _ (hle6 _) (hle7 _)⟩
  · have : i = c.chs.length := by omega
    subst this
    exact ⟨by rw [goodCm_def, ha, decide_eq_true h]; rfl, hle⟩

theorem l7Command_spec (p : Pg) (c : Cm) (hc : vCm c) : Pu Tryz.prog 120 [aPg p, aCm c] (B (goodCm p.wide p.vars c)) := by
  refine Pu.of fun H => ?_
  refine W120_ok ?_; simp (maxSteps := 1000000) (disch := (first | assumption | (apply Ne.symm; assumption))) only [W120, vw0, vw1, vw2, vw3, vw4, vu0, vu1, ↓condV_t, ↓condV_f, cap_nil, allocV, splice, partV, buildV, eqFieldsV, eqS, tabs, TK.agg, reduceCtorEq, Array.toList, List.map_cons, List.map_nil, ↓reduceIte, List.length_map, Nat.reduceAdd, Nat.reduceLeDiff, Nat.reduceLT, Nat.reduceMul, Nat.reduceSub, Option.bind_some, Option.map_some, bndV, numV, eI, eU, e8, eB, AV.isCell, Int.reduceToNat, Int.reduceSub, Int.reduceAdd, Int.reduceNeg]
  intro r hr r3 n3 hr3
  have hle : Heap.le H ((H.set r [I p.wide, I p.vars, Ns p.start, Cms p.cmds]).set r3 [Ns c.when_, Chs c.chs]) := Heap.le_setN (Heap.le_set hr) hr3
  (try simp (maxSteps := 1000000) (disch := (first | assumption | (apply Ne.symm; assumption))) only [vw0, vw1, vw2, vw3, vw4, vu0, vu1, ↓condV_t, ↓condV_f, cap_nil, allocV, splice, partV, buildV, eqFieldsV, eqS, tabs, TK.agg, reduceCtorEq, Array.toList, List.map_cons, List.map_nil, ↓reduceIte, List.length_map, Nat.reduceAdd, Nat.reduceLeDiff, Nat.reduceLT, Nat.reduceMul, Nat.reduceSub, Option.bind_some, Option.map_some, bndV, numV, eI, eU, e8, eB, AV.isCell, Int.reduceToNat, Int.reduceSub, Int.reduceAdd, Int.reduceNeg])
  refine Pu.use (l7Asks_spec p c.when_ hc.1) ?_
  by_cases h : kind p.wide p.vars c.when_ = 2
  rotate_left
  · rw [decide_eq_false h]
    (try simp (maxSteps := 1000000) (disch := (first | assumption | (apply Ne.symm; assumption))) only [vw0, vw1, vw2, vw3, vw4, vu0, vu1, ↓condV_t, ↓condV_f, cap_nil, allocV, splice, partV, buildV, eqFieldsV, eqS, tabs, TK.agg, reduceCtorEq, Array.toList, List.map_cons, List.map_nil, ↓reduceIte, List.length_map, Nat.reduceAdd, Nat.reduceLeDiff, Nat.reduceLT, Nat.reduceMul, Nat.reduceSub, Option.bind_some, Option.map_some, bndV, numV, eI, eU, e8, eB, AV.isCell, Int.reduceToNat, Int.reduceSub, Int.reduceAdd, Int.reduceNeg])
    exact ⟨by rw [goodCm_def, decide_eq_false h, Bool.false_and], hle⟩
  have hfr := kind2_frame h
  rw [decide_eq_true h]
  have ev : IntKind.i64.wrap (p.vars - 1) = p.vars - 1 := i64_id (by omega) (by omega)
  (try simp (maxSteps := 1000000) (disch := (first | assumption | (apply Ne.symm; assumption))) only [vw0, vw1, vw2, vw3, vw4, vu0, vu1, ↓condV_t, ↓condV_f, cap_nil, allocV, splice, partV, buildV, eqFieldsV, eqS, tabs, TK.agg, reduceCtorEq, Array.toList, List.map_cons, List.map_nil, ↓reduceIte, List.length_map, Nat.reduceAdd, Nat.reduceLeDiff, Nat.reduceLT, Nat.reduceMul, Nat.reduceSub, Option.bind_some, Option.map_some, bndV, numV, eI, eU, e8, eB, AV.isCell, Int.reduceToNat, Int.reduceSub, Int.reduceAdd, Int.reduceNeg])
  refine ⟨fun h1 => ⟨?_, hle⟩, fun h1 => ?_⟩
  · cases hg : goodCm p.wide p.vars c
    · rfl
    · have := goodCm_len hg
      omega
  refine L120_0_rule (0 : Nat) (fun i => I i) (fun _ => (H.set r [I p.wide, I p.vars, Ns p.start, Cms p.cmds]).set r3 [Ns c.when_, Chs c.chs]) (fun i => i ≤ c.chs.length ∧ (List.range i).all (chk p.wide p.vars c) = true) (fun i => c.chs.length - i) ⟨⟨by omega, by simp⟩, .refl _, Heap.le_refl _⟩ ?_
  rintro i ⟨hi, ha⟩
  have hcl := hc.2.1
  have e1 : 0 < i → IntKind.i64.wrap ((i : Int) - 1) = ((i - 1 : Nat) : Int) := fun h0 => by rw [i64_id (by omega) (by omega)]; omega
  (try simp (maxSteps := 1000000) (disch := (first | assumption | (apply Ne.symm; assumption))) only [vw0, vw1, vw2, vw3, vw4, vu0, vu1, ↓condV_t, ↓condV_f, cap_nil, allocV, splice, partV, buildV, eqFieldsV, eqS, tabs, TK.agg, reduceCtorEq, Array.toList, List.map_cons, List.map_nil, ↓reduceIte, List.length_map, Nat.reduceAdd, Nat.reduceLeDiff, Nat.reduceLT, Nat.reduceMul, Nat.reduceSub, Option.bind_some, Option.map_some, bndV, numV, eI, eU, e8, eB, AV.isCell, Int.reduceToNat, Int.reduceSub, Int.reduceAdd, Int.reduceNeg, B120_0])
  refine ⟨fun h2 => ⟨by omega, h2, ?_⟩, fun h2 => ?_⟩
  · have hlt : i < c.chs.length := by omega
    have hm : c.chs.getD i default ∈ c.chs := getD_all (p := fun x => x ∈ c.chs) (fun _ h => h) hlt
    have hv := hc.2.2 _ hm
    have hbad := fun h => goodCm_bad (w := p.wide) (v := p.vars) hlt (chk_f h)
    intro r6 n63 n6 hr6
    have hle6 := fun z => Heap.le_setN (b := z) hle hr6
    have nn6 : r ≠ r6 := Ne.symm n6
    have nn63 : r3 ≠ r6 := Ne.symm n63
    have hle7 : ∀ z, Heap.le ((H.set r [I p.wide, I p.vars, Ns p.start, Cms p.cmds]).set r3 [Ns c.when_, Chs c.chs]) (((H.set r [I p.wide, I p.vars, Ns p.start, Cms p.cmds]).set r3 [Ns c.when_, Chs c.chs]).set r6 z) := fun z => Heap.le_set (by simp [Heap.set_none, n63, n6, hr6])
    (try simp (maxSteps := 1000000) (disch := (first | assumption | (apply Ne.symm; assumption))) only [vw0, vw1, vw2, vw3, vw4, vu0, vu1, ↓condV_t, ↓condV_f, cap_nil, allocV, splice, partV, buildV, eqFieldsV, eqS, tabs, TK.agg, reduceCtorEq, Array.toList, List.map_cons, List.map_nil, ↓reduceIte, List.length_map, Nat.reduceAdd, Nat.reduceLeDiff, Nat.reduceLT, Nat.reduceMul, Nat.reduceSub, Option.bind_some, Option.map_some, bndV, numV, eI, eU, e8, eB, AV.isCell, Int.reduceToNat, Int.reduceSub, Int.reduceAdd, Int.reduceNeg, ev])
    refine Pu.use (l1In_B ..) ?_
    cases hin : inB (c.chs.getD i default).var 0 (p.vars - 1)
    · (try simp (maxSteps := 1000000) (disch := (first | assumption | (apply Ne.symm; assumption))) only [vw0, vw1, vw2, vw3, vw4, vu0, vu1, ↓condV_t, ↓condV_f, cap_nil, allocV, splice, partV, buildV, eqFieldsV, eqS, tabs, TK.agg, reduceCtorEq, Array.toList, List.map_cons, List.map_nil, ↓reduceIte, List.length_map, Nat.reduceAdd, Nat.reduceLeDiff, Nat.reduceLT, Nat.reduceMul, Nat.reduceSub, Option.bind_some, Option.map_some, bndV, numV, eI, eU, e8, eB, AV.isCell, Int.reduceToNat, Int.reduceSub, Int.reduceAdd, Int.reduceNeg])
      exact ⟨hbad (fun hh => by rw [inB_iff.2 hh.1] at hin; cases hin), hle6 _⟩
    rw [inB_iff] at hin
    (try simp (maxSteps := 1000000) (disch := (first | assumption | (apply Ne.symm; assumption))) only [vw0, vw1, vw2, vw3, vw4, vu0, vu1, ↓condV_t, ↓condV_f, cap_nil, allocV, splice, partV, buildV, eqFieldsV, eqS, tabs, TK.agg, reduceCtorEq, Array.toList, List.map_cons, List.map_nil, ↓reduceIte, List.length_map, Nat.reduceAdd, Nat.reduceLeDiff, Nat.reduceLT, Nat.reduceMul, Nat.reduceSub, Option.bind_some, Option.map_some, bndV, numV, eI, eU, e8, eB, AV.isCell, Int.reduceToNat, Int.reduceSub, Int.reduceAdd, Int.reduceNeg])
    have tail : (0 < i → (c.chs.getD (i - 1) default).var < (c.chs.getD i default).var) → ∀ G, Heap.le H G → Heap.le ((H.set r [I p.wide, I p.vars, Ns p.start, Cms p.cmds]).set r3 [Ns c.when_, Chs c.chs]) G →
        CallT Tryz.prog 79 [I p.wide, I p.vars, Ns (c.chs.getD i default).by_] G fun v53 H6 => binV tab BinOp.neq 3 v53 (I 1) fun v54 => condV v54 (AV.p (PV.bool false) = B (goodCm p.wide p.vars c) ∧ H.le H6)
            (∃ s', (s' ≤ c.chs.length ∧ (List.range s').all (chk p.wide p.vars c) = true) ∧ c.chs.length - s' < c.chs.length - i ∧ (AV.p (PV.int IntKind.i64 (IntKind.i64.wrap (↑i + 1)))).wk (I (s' : Nat)) ∧
              ((H.set r [I p.wide, I p.vars, Ns p.start, Cms p.cmds]).set r3 [Ns c.when_, Chs c.chs]).le H6) := by
      intro hprev G hG hG2
      refine Pu.use (l2Kind_spec p.wide p.vars _ hv.1 hv.2) ?_
      (try simp (maxSteps := 1000000) (disch := (first | assumption | (apply Ne.symm; assumption))) only [vw0, vw1, vw2, vw3, vw4, vu0, vu1, ↓condV_t, ↓condV_f, cap_nil, allocV, splice, partV, buildV, eqFieldsV, eqS, tabs, TK.agg, reduceCtorEq, Array.toList, List.map_cons, List.map_nil, ↓reduceIte, List.length_map, Nat.reduceAdd, Nat.reduceLeDiff, Nat.reduceLT, Nat.reduceMul, Nat.reduceSub, Option.bind_some, Option.map_some, bndV, numV, eI, eU, e8, eB, AV.isCell, Int.reduceToNat, Int.reduceSub, Int.reduceAdd, Int.reduceNeg])
      refine ⟨fun h6 => ⟨hbad fun hh => h6 hh.2.2, hG⟩, fun h6 => ⟨i + 1, ⟨by omega, ?_⟩, by omega, ?_, hG2⟩⟩
      · rw [range_all_succ, ha, chk_t hin hprev h6]; rfl
      · rw [wk_int, i64_id (by omega) (by omega)]; simp
    refine ⟨fun h0 => ?_, fun h0 => tail (fun h => by omega) _ (hle6 _) (hle7 _)⟩
    rw [e1 (by omega)]
    simp only [Int.toNat_natCast]
    exact ⟨by omega, by omega, fun h5 => ⟨hbad fun hh => by have := hh.2.1 (by omega); omega, hle6 _⟩, fun h5 => tail (fun _ => by omega) _ (hle6 _) (hle7 _)⟩
  · have : i = c.chs.length := by omega
    subst this
    exact ⟨by rw [goodCm_def, ha, decide_eq_true h]; rfl, hle⟩
end Go.Proofs.YtgcklgeifdefhaaGreat
/- Specs: programs, and classes of their states. -/
namespace Go.Proofs.YtgcklgeifdefhaaGreat
open Go Go.Sep Go.Pt
set_option linter.unusedSimpArgs false
set_option linter.unusedVariables false
attribute [local irreducible] CallT

theorem GoodProgram1_at (p : Pg) (c : Cm) (r : Nat) {H : Heap} (hr : H r = some [I p.wide, I p.vars, Ns p.start, Cms p.cmds]) (hc : vCm c) : PuAt Tryz.prog 132 [aCm c, .ptr r 0] H (B (!goodCm p.wide p.vars c)) := by
  intro K hK
  refine CallT.fin ?_
  refine W132_ok ?_; simp (maxSteps := 1000000) (disch := (first | assumption | (apply Ne.symm; assumption))) only [W132, vw0, vw1, vw2, vw3, vw4, vu0, vu1, ↓condV_t, ↓condV_f, cap_nil, allocV, splice, partV, buildV, eqFieldsV, eqS, tabs, TK.agg, reduceCtorEq, Array.toList, List.map_cons, List.map_nil, ↓reduceIte, List.length_map, Nat.reduceAdd, Nat.reduceLeDiff, Nat.reduceLT, Nat.reduceMul, Nat.reduceSub, Option.bind_some, Option.map_some, bndV, numV, eI, eU, e8, eB, AV.isCell, Int.reduceToNat, Int.reduceSub, Int.reduceAdd, Int.reduceNeg]
  intro r2 hr2
  have n2 : r ≠ r2 := by rintro rfl; rw [hr] at hr2; cases hr2
  (try simp (maxSteps := 1000000) (disch := (first | assumption | (apply Ne.symm; assumption))) only [vw0, vw1, vw2, vw3, vw4, vu0, vu1, ↓condV_t, ↓condV_f, cap_nil, allocV, splice, partV, buildV, eqFieldsV, eqS, tabs, TK.agg, reduceCtorEq, Array.toList, List.map_cons, List.map_nil, ↓reduceIte, List.length_map, Nat.reduceAdd, Nat.reduceLeDiff, Nat.reduceLT, Nat.reduceMul, Nat.reduceSub, Option.bind_some, Option.map_some, bndV, numV, eI, eU, e8, eB, AV.isCell, Int.reduceToNat, Int.reduceSub, Int.reduceAdd, Int.reduceNeg, load_at hr])
  refine Pu.use (isCommand_spec p c hc) ?_
  (try simp (maxSteps := 1000000) (disch := (first | assumption | (apply Ne.symm; assumption))) only [vw0, vw1, vw2, vw3, vw4, vu0, vu1, ↓condV_t, ↓condV_f, cap_nil, allocV, splice, partV, buildV, eqFieldsV, eqS, tabs, TK.agg, reduceCtorEq, Array.toList, List.map_cons, List.map_nil, ↓reduceIte, List.length_map, Nat.reduceAdd, Nat.reduceLeDiff, Nat.reduceLT, Nat.reduceMul, Nat.reduceSub, Option.bind_some, Option.map_some, bndV, numV, eI, eU, e8, eB, AV.isCell, Int.reduceToNat, Int.reduceSub, Int.reduceAdd, Int.reduceNeg])
  exact fin_le (Heap.le_set hr2) hK

theorem goodP_f {p : Pg} (h : ¬ (kind p.wide p.vars p.start = 2 ∧ 1 ≤ p.cmds.length ∧ p.cmds.length ≤ 6)) : B false = B (goodP p) := by
  have : goodP p = false := by
    rw [Bool.eq_false_iff]; intro h2
    simp only [goodP, Bool.and_eq_true, decide_eq_true_eq] at h2
    exact h ⟨h2.1.1, h2.1.2⟩
  rw [this]
theorem goodP_e {p : Pg} (h : kind p.wide p.vars p.start = 2 ∧ 1 ≤ p.cmds.length ∧ p.cmds.length ≤ 6) : goodP p = p.cmds.all (goodCm p.wide p.vars) := by
  simp only [goodP, h.1, h.2.1, h.2.2, decide_true, Bool.and_self, Bool.true_and]

theorem GoodProgram_impl (p : Pg) (hp : vPg p) : Pu Tryz.prog 83 [aPg p] (B (goodP p)) := by
  refine Pu.of fun H => ?_
  refine W83_ok ?_; simp (maxSteps := 1000000) (disch := (first | assumption | (apply Ne.symm; assumption))) only [W83, vw0, vw1, vw2, vw3, vw4, vu0, vu1, ↓condV_t, ↓condV_f, cap_nil, allocV, splice, partV, buildV, eqFieldsV, eqS, tabs, TK.agg, reduceCtorEq, Array.toList, List.map_cons, List.map_nil, ↓reduceIte, List.length_map, Nat.reduceAdd, Nat.reduceLeDiff, Nat.reduceLT, Nat.reduceMul, Nat.reduceSub, Option.bind_some, Option.map_some, bndV, numV, eI, eU, e8, eB, AV.isCell, Int.reduceToNat, Int.reduceSub, Int.reduceAdd, Int.reduceNeg]
  intro r hr
  have hle : Heap.le H (H.set r [I p.wide, I p.vars, Ns p.start, Cms p.cmds]) := Heap.le_set hr
  have hcl := hp.2.1
  refine Pu.use (isWide_spec _) ?_
  cases hw : inB p.wide 1 64
  · (try simp (maxSteps := 1000000) (disch := (first | assumption | (apply Ne.symm; assumption))) only [vw0, vw1, vw2, vw3, vw4, vu0, vu1, ↓condV_t, ↓condV_f, cap_nil, allocV, splice, partV, buildV, eqFieldsV, eqS, tabs, TK.agg, reduceCtorEq, Array.toList, List.map_cons, List.map_nil, ↓reduceIte, List.length_map, Nat.reduceAdd, Nat.reduceLeDiff, Nat.reduceLT, Nat.reduceMul, Nat.reduceSub, Option.bind_some, Option.map_some, bndV, numV, eI, eU, e8, eB, AV.isCell, Int.reduceToNat, Int.reduceSub, Int.reduceAdd, Int.reduceNeg])
    exact ⟨goodP_f (fun h => by rw [inB_iff.2 (kind2_frame h.1).1] at hw; cases hw), hle⟩
  (try simp (maxSteps := 1000000) (disch := (first | assumption | (apply Ne.symm; assumption))) only [vw0, vw1, vw2, vw3, vw4, vu0, vu1, ↓condV_t, ↓condV_f, cap_nil, allocV, splice, partV, buildV, eqFieldsV, eqS, tabs, TK.agg, reduceCtorEq, Array.toList, List.map_cons, List.map_nil, ↓reduceIte, List.length_map, Nat.reduceAdd, Nat.reduceLeDiff, Nat.reduceLT, Nat.reduceMul, Nat.reduceSub, Option.bind_some, Option.map_some, bndV, numV, eI, eU, e8, eB, AV.isCell, Int.reduceToNat, Int.reduceSub, Int.reduceAdd, Int.reduceNeg])
  refine Pu.use (isVars_spec _) ?_
  cases hv : inB p.vars 1 4
  · (try simp (maxSteps := 1000000) (disch := (first | assumption | (apply Ne.symm; assumption))) only [vw0, vw1, vw2, vw3, vw4, vu0, vu1, ↓condV_t, ↓condV_f, cap_nil, allocV, splice, partV, buildV, eqFieldsV, eqS, tabs, TK.agg, reduceCtorEq, Array.toList, List.map_cons, List.map_nil, ↓reduceIte, List.length_map, Nat.reduceAdd, Nat.reduceLeDiff, Nat.reduceLT, Nat.reduceMul, Nat.reduceSub, Option.bind_some, Option.map_some, bndV, numV, eI, eU, e8, eB, AV.isCell, Int.reduceToNat, Int.reduceSub, Int.reduceAdd, Int.reduceNeg])
    exact ⟨goodP_f (fun h => by rw [inB_iff.2 (kind2_frame h.1).2] at hv; cases hv), hle⟩
  (try simp (maxSteps := 1000000) (disch := (first | assumption | (apply Ne.symm; assumption))) only [vw0, vw1, vw2, vw3, vw4, vu0, vu1, ↓condV_t, ↓condV_f, cap_nil, allocV, splice, partV, buildV, eqFieldsV, eqS, tabs, TK.agg, reduceCtorEq, Array.toList, List.map_cons, List.map_nil, ↓reduceIte, List.length_map, Nat.reduceAdd, Nat.reduceLeDiff, Nat.reduceLT, Nat.reduceMul, Nat.reduceSub, Option.bind_some, Option.map_some, bndV, numV, eI, eU, e8, eB, AV.isCell, Int.reduceToNat, Int.reduceSub, Int.reduceAdd, Int.reduceNeg])
  refine Pu.use (isCondition_spec p p.start hp.1) ?_
  (try simp (maxSteps := 1000000) (disch := (first | assumption | (apply Ne.symm; assumption))) only [vw0, vw1, vw2, vw3, vw4, vu0, vu1, ↓condV_t, ↓condV_f, cap_nil, allocV, splice, partV, buildV, eqFieldsV, eqS, tabs, TK.agg, reduceCtorEq, Array.toList, List.map_cons, List.map_nil, ↓reduceIte, List.length_map, Nat.reduceAdd, Nat.reduceLeDiff, Nat.reduceLT, Nat.reduceMul, Nat.reduceSub, Option.bind_some, Option.map_some, bndV, numV, eI, eU, e8, eB, AV.isCell, Int.reduceToNat, Int.reduceSub, Int.reduceAdd, Int.reduceNeg])
  refine ⟨fun h => ⟨goodP_f (fun hh => h hh.1), hle⟩, fun h => ⟨fun h1 => ⟨goodP_f (fun hh => by omega), hle⟩, fun h1 => ⟨fun h2 => ⟨goodP_f (fun hh => by omega), hle⟩, fun h2 => ?_⟩⟩⟩
  refine PuAt.use (ContainsFuncC_at p.cmds _ _ (fun c => !goodCm p.wide p.vars c) (by omega) fun c hm => GoodProgram1_at p c r (Heap.set_same _ _ _) (hp.2.2 c hm)) ?_
  (try simp (maxSteps := 1000000) (disch := (first | assumption | (apply Ne.symm; assumption))) only [vw0, vw1, vw2, vw3, vw4, vu0, vu1, ↓condV_t, ↓condV_f, cap_nil, allocV, splice, partV, buildV, eqFieldsV, eqS, tabs, TK.agg, reduceCtorEq, Array.toList, List.map_cons, List.map_nil, ↓reduceIte, List.length_map, Nat.reduceAdd, Nat.reduceLeDiff, Nat.reduceLT, Nat.reduceMul, Nat.reduceSub, Option.bind_some, Option.map_some, bndV, numV, eI, eU, e8, eB, AV.isCell, Int.reduceToNat, Int.reduceSub, Int.reduceAdd, Int.reduceNeg])
  refine ⟨?_, hle⟩
  rw [goodP_e ⟨h, by omega, by omega⟩, List.all_eq_not_any_not]

theorem GoodProgram_spec (p : Pg) (hp : vPg p) : Pu Tryz.prog 76 [aPg p] (B (goodP p)) := by
  refine Pu.of fun H => ?_
  refine W76_ok ?_; simp (maxSteps := 1000000) (disch := (first | assumption | (apply Ne.symm; assumption))) only [W76, vw0, vw1, vw2, vw3, vw4, vu0, vu1, ↓condV_t, ↓condV_f, cap_nil, allocV, splice, partV, buildV, eqFieldsV, eqS, tabs, TK.agg, reduceCtorEq, Array.toList, List.map_cons, List.map_nil, ↓reduceIte, List.length_map, Nat.reduceAdd, Nat.reduceLeDiff, Nat.reduceLT, Nat.reduceMul, Nat.reduceSub, Option.bind_some, Option.map_some, bndV, numV, eI, eU, e8, eB, AV.isCell, Int.reduceToNat, Int.reduceSub, Int.reduceAdd, Int.reduceNeg]
  intro r hr
  have hle : Heap.le H (H.set r [I p.wide, I p.vars, Ns p.start, Cms p.cmds]) := Heap.le_set hr
  have hcl := hp.2.1
  refine Pu.use (l7Asks_spec p p.start hp.1) ?_
  by_cases h : kind p.wide p.vars p.start = 2
  rotate_left
  · rw [decide_eq_false h]
    (try simp (maxSteps := 1000000) (disch := (first | assumption | (apply Ne.symm; assumption))) only [vw0, vw1, vw2, vw3, vw4, vu0, vu1, ↓condV_t, ↓condV_f, cap_nil, allocV, splice, partV, buildV, eqFieldsV, eqS, tabs, TK.agg, reduceCtorEq, Array.toList, List.map_cons, List.map_nil, ↓reduceIte, List.length_map, Nat.reduceAdd, Nat.reduceLeDiff, Nat.reduceLT, Nat.reduceMul, Nat.reduceSub, Option.bind_some, Option.map_some, bndV, numV, eI, eU, e8, eB, AV.isCell, Int.reduceToNat, Int.reduceSub, Int.reduceAdd, Int.reduceNeg])
    exact ⟨goodP_f fun hh => h hh.1, hle⟩
  rw [decide_eq_true h]
  (try simp (maxSteps := 1000000) (disch := (first | assumption | (apply Ne.symm; assumption))) only [vw0, vw1, vw2, vw3, vw4, vu0, vu1, ↓condV_t, ↓condV_f, cap_nil, allocV, splice, partV, buildV, eqFieldsV, eqS, tabs, TK.agg, reduceCtorEq, Array.toList, List.map_cons, List.map_nil, ↓reduceIte, List.length_map, Nat.reduceAdd, Nat.reduceLeDiff, Nat.reduceLT, Nat.reduceMul, Nat.reduceSub, Option.bind_some, Option.map_some, bndV, numV, eI, eU, e8, eB, AV.isCell, Int.reduceToNat, Int.reduceSub, Int.reduceAdd, Int.reduceNeg])
  refine Pu.use (l1In_B p.cmds.length 1 6) ?_
  cases h1 : inB p.cmds.length 1 6
  · (try simp (maxSteps := 1000000) (disch := (first | assumption | (apply Ne.symm; assumption))) only [vw0, vw1, vw2, vw3, vw4, vu0, vu1, ↓condV_t, ↓condV_f, cap_nil, allocV, splice, partV, buildV, eqFieldsV, eqS, tabs, TK.agg, reduceCtorEq, Array.toList, List.map_cons, List.map_nil, ↓reduceIte, List.length_map, Nat.reduceAdd, Nat.reduceLeDiff, Nat.reduceLT, Nat.reduceMul, Nat.reduceSub, Option.bind_some, Option.map_some, bndV, numV, eI, eU, e8, eB, AV.isCell, Int.reduceToNat, Int.reduceSub, Int.reduceAdd, Int.reduceNeg])
    exact ⟨goodP_f (fun hh => by rw [inB_iff.2 (by omega)] at h1; cases h1), hle⟩
  rw [inB_iff] at h1
  (try simp (maxSteps := 1000000) (disch := (first | assumption | (apply Ne.symm; assumption))) only [vw0, vw1, vw2, vw3, vw4, vu0, vu1, ↓condV_t, ↓condV_f, cap_nil, allocV, splice, partV, buildV, eqFieldsV, eqS, tabs, TK.agg, reduceCtorEq, Array.toList, List.map_cons, List.map_nil, ↓reduceIte, List.length_map, Nat.reduceAdd, Nat.reduceLeDiff, Nat.reduceLT, Nat.reduceMul, Nat.reduceSub, Option.bind_some, Option.map_some, bndV, numV, eI, eU, e8, eB, AV.isCell, Int.reduceToNat, Int.reduceSub, Int.reduceAdd, Int.reduceNeg])
  have hg : kind p.wide p.vars p.start = 2 ∧ 1 ≤ p.cmds.length ∧ p.cmds.length ≤ 6 := ⟨h, by omega, by omega⟩
  refine L76_0_rule (0 : Nat) (fun i => I i) (fun _ => H.set r [I p.wide, I p.vars, Ns p.start, Cms p.cmds]) (fun i => i ≤ p.cmds.length ∧ (p.cmds.take i).all (goodCm p.wide p.vars) = true) (fun i => p.cmds.length - i) ⟨⟨by omega, by simp⟩, .refl _, Heap.le_refl _⟩ ?_
  rintro i ⟨hi, ha⟩
  (try simp (maxSteps := 1000000) (disch := (first | assumption | (apply Ne.symm; assumption))) only [vw0, vw1, vw2, vw3, vw4, vu0, vu1, ↓condV_t, ↓condV_f, cap_nil, allocV, splice, partV, buildV, eqFieldsV, eqS, tabs, TK.agg, reduceCtorEq, Array.toList, List.map_cons, List.map_nil, ↓reduceIte, List.length_map, Nat.reduceAdd, Nat.reduceLeDiff, Nat.reduceLT, Nat.reduceMul, Nat.reduceSub, Option.bind_some, Option.map_some, bndV, numV, eI, eU, e8, eB, AV.isCell, Int.reduceToNat, Int.reduceSub, Int.reduceAdd, Int.reduceNeg, B76_0])
  refine ⟨fun h2 => ⟨by omega, h2, ?_⟩, fun h2 => ?_⟩
  · have hlt : i < p.cmds.length := by omega
    have hm : p.cmds.getD i default ∈ p.cmds := getD_all (p := fun x => x ∈ p.cmds) (fun _ h => h) hlt
    intro r4 n4 hr4
    have nn4 : r ≠ r4 := Ne.symm n4
    (try simp (maxSteps := 1000000) (disch := (first | assumption | (apply Ne.symm; assumption))) only [vw0, vw1, vw2, vw3, vw4, vu0, vu1, ↓condV_t, ↓condV_f, cap_nil, allocV, splice, partV, buildV, eqFieldsV, eqS, tabs, TK.agg, reduceCtorEq, Array.toList, List.map_cons, List.map_nil, ↓reduceIte, List.length_map, Nat.reduceAdd, Nat.reduceLeDiff, Nat.reduceLT, Nat.reduceMul, Nat.reduceSub, Option.bind_some, Option.map_some, bndV, numV, eI, eU, e8, eB, AV.isCell, Int.reduceToNat, Int.reduceSub, Int.reduceAdd, Int.reduceNeg])
    refine Pu.use (l7Command_spec p _ (hp.2.2 _ hm)) ?_
    cases hc : goodCm p.wide p.vars (p.cmds.getD i default)
    · (try simp (maxSteps := 1000000) (disch := (first | assumption | (apply Ne.symm; assumption))) only [vw0, vw1, vw2, vw3, vw4, vu0, vu1, ↓condV_t, ↓condV_f, cap_nil, allocV, splice, partV, buildV, eqFieldsV, eqS, tabs, TK.agg, reduceCtorEq, Array.toList, List.map_cons, List.map_nil, ↓reduceIte, List.length_map, Nat.reduceAdd, Nat.reduceLeDiff, Nat.reduceLT, Nat.reduceMul, Nat.reduceSub, Option.bind_some, Option.map_some, bndV, numV, eI, eU, e8, eB, AV.isCell, Int.reduceToNat, Int.reduceSub, Int.reduceAdd, Int.reduceNeg])
      refine ⟨?_, Heap.le_setN hle hr4⟩
      have : (p.cmds.all (goodCm p.wide p.vars)) = false := by rw [List.all_eq_false]; exact ⟨_, hm, by rw [hc]; simp⟩
      rw [goodP_e hg, this]
    · (try simp (maxSteps := 1000000) (disch := (first | assumption | (apply Ne.symm; assumption))) only [vw0, vw1, vw2, vw3, vw4, vu0, vu1, ↓condV_t, ↓condV_f, cap_nil, allocV, splice, partV, buildV, eqFieldsV, eqS, tabs, TK.agg, reduceCtorEq, Array.toList, List.map_cons, List.map_nil, ↓reduceIte, List.length_map, Nat.reduceAdd, Nat.reduceLeDiff, Nat.reduceLT, Nat.reduceMul, Nat.reduceSub, Option.bind_some, Option.map_some, bndV, numV, eI, eU, e8, eB, AV.isCell, Int.reduceToNat, Int.reduceSub, Int.reduceAdd, Int.reduceNeg])
      refine ⟨i + 1, ⟨by omega, ?_⟩, by omega, ?_, Heap.le_set (by simp [Heap.set_none, n4, hr4])⟩
      · rw [take_all_succ hlt, ha, ← getD_lt (d := default) hlt, hc]; rfl
      · rw [wk_int, i64_id (by omega) (by omega)]; simp
  · have : i = p.cmds.length := by omega
    subst this
    rw [List.take_length] at ha
    exact ⟨by rw [goodP_e hg, ha], hle⟩

theorem isSmall_spec (p : Pg) (hp : vPg p) : Pu Tryz.prog 44 [aPg p] (B (smallP p)) := by
  refine Pu.of fun H => ?_
  refine W44_ok ?_; simp (maxSteps := 1000000) (disch := (first | assumption | (apply Ne.symm; assumption))) only [W44, vw0, vw1, vw2, vw3, vw4, vu0, vu1, ↓condV_t, ↓condV_f, cap_nil, allocV, splice, partV, buildV, eqFieldsV, eqS, tabs, TK.agg, reduceCtorEq, Array.toList, List.map_cons, List.map_nil, ↓reduceIte, List.length_map, Nat.reduceAdd, Nat.reduceLeDiff, Nat.reduceLT, Nat.reduceMul, Nat.reduceSub, Option.bind_some, Option.map_some, bndV, numV, eI, eU, e8, eB, AV.isCell, Int.reduceToNat, Int.reduceSub, Int.reduceAdd, Int.reduceNeg]
  intro r hr
  refine Pu.use (GoodProgram_impl p hp) ?_
  cases h : goodP p
  · (try simp (maxSteps := 1000000) (disch := (first | assumption | (apply Ne.symm; assumption))) only [vw0, vw1, vw2, vw3, vw4, vu0, vu1, ↓condV_t, ↓condV_f, cap_nil, allocV, splice, partV, buildV, eqFieldsV, eqS, tabs, TK.agg, reduceCtorEq, Array.toList, List.map_cons, List.map_nil, ↓reduceIte, List.length_map, Nat.reduceAdd, Nat.reduceLeDiff, Nat.reduceLT, Nat.reduceMul, Nat.reduceSub, Option.bind_some, Option.map_some, bndV, numV, eI, eU, e8, eB, AV.isCell, Int.reduceToNat, Int.reduceSub, Int.reduceAdd, Int.reduceNeg])
    exact ⟨by simp only [smallP, h, Bool.false_and], Heap.le_set hr⟩
  · have hr2 := goodP_rng h
    have := mul_rng hr2.1 hr2.2
    have e : IntKind.i64.wrap (p.wide * p.vars) = p.wide * p.vars := i64_id (by omega) (by omega)
    (try simp (maxSteps := 1000000) (disch := (first | assumption | (apply Ne.symm; assumption))) only [vw0, vw1, vw2, vw3, vw4, vu0, vu1, ↓condV_t, ↓condV_f, cap_nil, allocV, splice, partV, buildV, eqFieldsV, eqS, tabs, TK.agg, reduceCtorEq, Array.toList, List.map_cons, List.map_nil, ↓reduceIte, List.length_map, Nat.reduceAdd, Nat.reduceLeDiff, Nat.reduceLT, Nat.reduceMul, Nat.reduceSub, Option.bind_some, Option.map_some, bndV, numV, eI, eU, e8, eB, AV.isCell, Int.reduceToNat, Int.reduceSub, Int.reduceAdd, Int.reduceNeg, e])
    exact ⟨by simp only [smallP, h, Bool.true_and], Heap.le_set hr⟩
theorem l7Small_spec (p : Pg) (hp : vPg p) : Pu Tryz.prog 38 [aPg p] (B (smallP p)) := by
  refine Pu.of fun H => ?_
  refine W38_ok ?_; simp (maxSteps := 1000000) (disch := (first | assumption | (apply Ne.symm; assumption))) only [W38, vw0, vw1, vw2, vw3, vw4, vu0, vu1, ↓condV_t, ↓condV_f, cap_nil, allocV, splice, partV, buildV, eqFieldsV, eqS, tabs, TK.agg, reduceCtorEq, Array.toList, List.map_cons, List.map_nil, ↓reduceIte, List.length_map, Nat.reduceAdd, Nat.reduceLeDiff, Nat.reduceLT, Nat.reduceMul, Nat.reduceSub, Option.bind_some, Option.map_some, bndV, numV, eI, eU, e8, eB, AV.isCell, Int.reduceToNat, Int.reduceSub, Int.reduceAdd, Int.reduceNeg]
  intro r hr
  refine Pu.use (GoodProgram_spec p hp) ?_
  cases h : goodP p
  · (try simp (maxSteps := 1000000) (disch := (first | assumption | (apply Ne.symm; assumption))) only [vw0, vw1, vw2, vw3, vw4, vu0, vu1, ↓condV_t, ↓condV_f, cap_nil, allocV, splice, partV, buildV, eqFieldsV, eqS, tabs, TK.agg, reduceCtorEq, Array.toList, List.map_cons, List.map_nil, ↓reduceIte, List.length_map, Nat.reduceAdd, Nat.reduceLeDiff, Nat.reduceLT, Nat.reduceMul, Nat.reduceSub, Option.bind_some, Option.map_some, bndV, numV, eI, eU, e8, eB, AV.isCell, Int.reduceToNat, Int.reduceSub, Int.reduceAdd, Int.reduceNeg])
    exact ⟨by simp only [smallP, h, Bool.false_and], Heap.le_set hr⟩
  · have hr2 := goodP_rng h
    have := mul_rng hr2.1 hr2.2
    have e : IntKind.i64.wrap (p.wide * p.vars) = p.wide * p.vars := i64_id (by omega) (by omega)
    (try simp (maxSteps := 1000000) (disch := (first | assumption | (apply Ne.symm; assumption))) only [vw0, vw1, vw2, vw3, vw4, vu0, vu1, ↓condV_t, ↓condV_f, cap_nil, allocV, splice, partV, buildV, eqFieldsV, eqS, tabs, TK.agg, reduceCtorEq, Array.toList, List.map_cons, List.map_nil, ↓reduceIte, List.length_map, Nat.reduceAdd, Nat.reduceLeDiff, Nat.reduceLT, Nat.reduceMul, Nat.reduceSub, Option.bind_some, Option.map_some, bndV, numV, eI, eU, e8, eB, AV.isCell, Int.reduceToNat, Int.reduceSub, Int.reduceAdd, Int.reduceNeg, e])
    exact ⟨by simp only [smallP, h, Bool.true_and], Heap.le_set hr⟩

theorem small_rng {p : Pg} (h : smallP p = true) : goodP p = true ∧ 1 ≤ p.wide * p.vars ∧ p.wide * p.vars ≤ 5 := by
  simp only [smallP, Bool.and_eq_true, decide_eq_true_eq] at h
  have hr := goodP_rng h.1
  exact ⟨h.1, (mul_rng hr.1 hr.2).1, h.2⟩
theorem pow_rng {n : Nat} (h : n ≤ 5) : (1 : Int) ≤ 2 ^ n ∧ (2 : Int) ^ n ≤ 32 := by
  obtain rfl | rfl | rfl | rfl | rfl | rfl : n = 0 ∨ n = 1 ∨ n = 2 ∨ n = 3 ∨ n = 4 ∨ n = 5 := by omega
  all_goals decide
theorem states_rng {p : Pg} (h : smallP p = true) : 1 ≤ statesP p ∧ statesP p ≤ 32 := by
  have := small_rng h
  exact pow_rng (by omega)
theorem states_spec (p : Pg) (h : smallP p = true) : Pu Tryz.prog 93 [aPg p] (I (statesP p)) := by
  refine Pu.of fun H => ?_
  have hs := small_rng h
  have e : IntKind.i64.wrap (p.wide * p.vars) = p.wide * p.vars := i64_id (by omega) (by omega)
  refine W93_ok ?_; simp (maxSteps := 1000000) (disch := (first | assumption | (apply Ne.symm; assumption))) only [W93, vw0, vw1, vw2, vw3, vw4, vu0, vu1, ↓condV_t, ↓condV_f, cap_nil, allocV, splice, partV, buildV, eqFieldsV, eqS, tabs, TK.agg, reduceCtorEq, Array.toList, List.map_cons, List.map_nil, ↓reduceIte, List.length_map, Nat.reduceAdd, Nat.reduceLeDiff, Nat.reduceLT, Nat.reduceMul, Nat.reduceSub, Option.bind_some, Option.map_some, bndV, numV, eI, eU, e8, eB, AV.isCell, Int.reduceToNat, Int.reduceSub, Int.reduceAdd, Int.reduceNeg, e]
  intro r hr
  refine ⟨by omega, ?_, Heap.le_set hr⟩
  have e2 : min (p.wide * p.vars).toNat IntKind.i64.bits = (p.wide * p.vars).toNat := by
    have : IntKind.i64.bits = 64 := rfl
    omega
  have := states_rng h
  unfold statesP at *
  rw [e2, Int.one_mul, i64_id (by omega) (by omega)]
theorem l7Many_spec (p : Pg) (h : smallP p = true) : Pu Tryz.prog 53 [aPg p] (I (statesP p)) := by
  refine Pu.of fun H => ?_
  have hs := small_rng h
  have e : IntKind.i64.wrap (p.wide * p.vars) = p.wide * p.vars := i64_id (by omega) (by omega)
  have eu : IntKind.u64.wrap (p.wide * p.vars) = p.wide * p.vars := by rw [IntKind.wrap_u64]; omega
  refine W53_ok ?_; simp (maxSteps := 1000000) (disch := (first | assumption | (apply Ne.symm; assumption))) only [W53, vw0, vw1, vw2, vw3, vw4, vu0, vu1, ↓condV_t, ↓condV_f, cap_nil, allocV, splice, partV, buildV, eqFieldsV, eqS, tabs, TK.agg, reduceCtorEq, Array.toList, List.map_cons, List.map_nil, ↓reduceIte, List.length_map, Nat.reduceAdd, Nat.reduceLeDiff, Nat.reduceLT, Nat.reduceMul, Nat.reduceSub, Option.bind_some, Option.map_some, bndV, numV, eI, eU, e8, eB, AV.isCell, Int.reduceToNat, Int.reduceSub, Int.reduceAdd, Int.reduceNeg, e, eu]
  intro r hr
  refine ⟨by omega, ?_, Heap.le_set hr⟩
  have e2 : min (p.wide * p.vars).toNat IntKind.i64.bits = (p.wide * p.vars).toNat := by
    have : IntKind.i64.bits = 64 := rfl
    omega
  have := states_rng h
  unfold statesP at *
  rw [e2, Int.one_mul, i64_id (by omega) (by omega)]

/-! ### Classes -/
theorem goodSt_f {p : Pg} {of : List Int} (h : smallP p = false) : goodSt p of = false := by simp only [goodSt, h, Bool.false_and]

end Go.Proofs.YtgcklgeifdefhaaGreat
/- Numbers and lengths of arguments. -/
namespace Go.Proofs.YtgcklgeifdefhaaGreat
open Go Go.Sep Go.Pt
set_option linter.unusedSimpArgs false
set_option linter.unusedVariables false
attribute [local irreducible] CallT

def nT (t : List Nd) : Prop := ∀ x ∈ t, okN x
def nCh (c : Ch) : Prop := nT c.by_
def nCm (c : Cm) : Prop := nT c.when_ ∧ ∀ x ∈ c.chs, nCh x
def nPg (p : Pg) : Prop := nT p.start ∧ ∀ c ∈ p.cmds, nCm c
theorem v_of {p : Pg} (h : smPg p) (hn : nPg p) : vPg p :=
  ⟨⟨h.1, hn.1⟩, h.2.1, fun c hc => ⟨⟨(h.2.2 c hc).1, (hn.2 c hc).1⟩, (h.2.2 c hc).2.1, fun x hx => ⟨(h.2.2 c hc).2.2 x hx, (hn.2 c hc).2 x hx⟩⟩⟩
theorem szR_nonneg {left : Int} {n : Nat} (h : ¬ szR left n < 0) : (n : Int) ≤ left ∧ szR left n = left - n := by
  unfold szR at *
  split at h
  · rename_i h2; exact ⟨h2, by rw [if_pos h2]⟩
  · omega

end Go.Proofs.YtgcklgeifdefhaaGreat
/- Arguments by value: nodes, programs, sights. -/
namespace Go.Proofs.YtgcklgeifdefhaaGreat
open Go Go.Sep Go.Pt Go.RowKit
set_option linter.unusedVariables false

theorem typed_node {x : List PV} (h : Typed Tryz.prog 160 x) : ∃ a, okN a ∧ x = eN a := by
  have h := typed_fields (ts := [3, 153]) (by kernel_rfl) h
  obtain ⟨a, b, rfl, h1, h⟩ := typedAll_cons h
  obtain ⟨b, c, rfl, h2, h⟩ := typedAll_cons h
  cases typedAll_nil h
  obtain ⟨n, _, rfl⟩ := typed_int (k := .i64) (by kernel_rfl) h1
  obtain ⟨m, hw, rfl⟩ := typed_int (k := .u64) (by kernel_rfl) h2
  refine ⟨⟨n, m⟩, ?_, rfl⟩
  simp only [Lit.wf, Bool.and_eq_true, decide_eq_true_eq] at hw
  have e1 : IntKind.u64.min = 0 := by decide
  have e2 : IntKind.u64.max = 18446744073709551615 := by decide
  rw [e1, e2] at hw
  unfold okN
  show 0 ≤ m ∧ m < 2 ^ 64
  omega
theorem typed_nodes {x : List PV} (h : Typed Tryz.prog 22 x) : ∃ t : List Nd, (ok t.length ∧ nT t) ∧ x = [.sl (t.map eN)] := by
  obtain ⟨es, rfl, hl, he⟩ := typed_slice (e := 160) (by kernel_rfl) h
  obtain ⟨t, h1, rfl, h3⟩ := rows_of (Q := okN) (e := eN) es fun y hy => typed_node (he y hy)
  exact ⟨t, ⟨by unfold ok; omega, h1⟩, rfl⟩
theorem typed_change {x : List PV} (h : Typed Tryz.prog 201 x) : ∃ a, (okCh a ∧ nCh a) ∧ x = eCh a := by
  have h := typed_fields (ts := [3, 22]) (by kernel_rfl) h
  obtain ⟨a, b, rfl, h1, h⟩ := typedAll_cons h
  obtain ⟨b, c, rfl, h2, h⟩ := typedAll_cons h
  cases typedAll_nil h
  obtain ⟨n, _, rfl⟩ := typed_int (k := .i64) (by kernel_rfl) h1
  obtain ⟨t, ht, rfl⟩ := typed_nodes h2
  exact ⟨⟨n, t⟩, ht, rfl⟩
theorem typed_changes {x : List PV} (h : Typed Tryz.prog 145 x) : ∃ t : List Ch, (okChs t ∧ ∀ c ∈ t, nCh c) ∧ x = [.sl (t.map eCh)] := by
  obtain ⟨es, rfl, hl, he⟩ := typed_slice (e := 201) (by kernel_rfl) h
  obtain ⟨t, h1, rfl, h3⟩ := rows_of (Q := fun a => okCh a ∧ nCh a) (e := eCh) es fun y hy => typed_change (he y hy)
  exact ⟨t, ⟨⟨by unfold ok; omega, fun c hc => (h1 c hc).1⟩, fun c hc => (h1 c hc).2⟩, rfl⟩
theorem typed_command {x : List PV} (h : Typed Tryz.prog 147 x) : ∃ a, (okCm a ∧ nCm a) ∧ x = eCm a := by
  have h := typed_fields (ts := [22, 145]) (by kernel_rfl) h
  obtain ⟨a, b, rfl, h1, h⟩ := typedAll_cons h
  obtain ⟨b, c, rfl, h2, h⟩ := typedAll_cons h
  cases typedAll_nil h
  obtain ⟨t, ht, rfl⟩ := typed_nodes h1
  obtain ⟨cs, hc, rfl⟩ := typed_changes h2
  exact ⟨⟨t, cs⟩, ⟨⟨ht.1, hc.1⟩, ⟨ht.2, hc.2⟩⟩, rfl⟩
theorem typed_commands {x : List PV} (h : Typed Tryz.prog 23 x) : ∃ t : List Cm, (okCms t ∧ ∀ c ∈ t, nCm c) ∧ x = [.sl (t.map eCm)] := by
  obtain ⟨es, rfl, hl, he⟩ := typed_slice (e := 147) (by kernel_rfl) h
  obtain ⟨t, h1, rfl, h3⟩ := rows_of (Q := fun a => okCm a ∧ nCm a) (e := eCm) es fun y hy => typed_command (he y hy)
  exact ⟨t, ⟨⟨by unfold ok; omega, fun c hc => (h1 c hc).1⟩, fun c hc => (h1 c hc).2⟩, rfl⟩
theorem typed_ints {x : List PV} (h : Typed Tryz.prog 46 x) : ∃ t : List Int, ok t.length ∧ x = [.sl (t.map eI)] := by
  obtain ⟨es, rfl, hl, he⟩ := typed_slice (e := 3) (by kernel_rfl) h
  obtain ⟨t, h1, rfl, h3⟩ := rows_of (Q := fun _ => True) (e := eI) es fun y hy => by
    obtain ⟨n, _, rfl⟩ := typed_int (k := .i64) (by kernel_rfl) (he y hy)
    exact ⟨n, trivial, rfl⟩
  exact ⟨t, by unfold ok; omega, rfl⟩
theorem arg_program {v : AV} (h : ArgT Tryz.prog 25 v) : ∃ p : Pg, okPg p ∧ nPg p ∧ v = aPg p := by
  obtain ⟨pvs, g, rfl⟩ := arg_struct (ts := [3, 3, 22, 23]) (by kernel_rfl) h
  clear h
  have h := g
  obtain ⟨a, b, rfl, h1, h⟩ := typedAll_cons h
  obtain ⟨b, c, rfl, h2, h⟩ := typedAll_cons h
  obtain ⟨c, d, rfl, h3, h⟩ := typedAll_cons h
  obtain ⟨d, e, rfl, h4, h⟩ := typedAll_cons h
  cases typedAll_nil h
  obtain ⟨n, _, rfl⟩ := typed_int (k := .i64) (by kernel_rfl) h1
  obtain ⟨m, _, rfl⟩ := typed_int (k := .i64) (by kernel_rfl) h2
  obtain ⟨t, ht, rfl⟩ := typed_nodes h3
  obtain ⟨cs, hc, rfl⟩ := typed_commands h4
  exact ⟨⟨n, m, t, cs⟩, ⟨ht.1, hc.1⟩, ⟨ht.2, hc.2⟩, rfl⟩
theorem arg_int {v : AV} (h : ArgT Tryz.prog 3 v) : ∃ n : Int, v = I n := by
  have hu : Tryz.prog.underlying 3 = some (.int .i64) := by kernel_rfl
  obtain ⟨p, g, rfl⟩ := arg_cell (fun fs h => by rw [hu] at h; cases h) h
  obtain ⟨n, _, e⟩ := typed_int (k := .i64) (by kernel_rfl) g
  injection e with e
  exact ⟨n, by rw [e]⟩
theorem arg_nodes {v : AV} (h : ArgT Tryz.prog 22 v) : ∃ t : List Nd, ok t.length ∧ nT t ∧ v = Ns t := by
  have hu := sliceIs_ok (P := Tryz.prog) (t := 22) (e := 160) (by kernel_rfl)
  obtain ⟨p, g, rfl⟩ := arg_cell (fun fs h => by rw [hu] at h; cases h) h
  obtain ⟨t, ht, e⟩ := typed_nodes g
  injection e with e
  exact ⟨t, ht.1, ht.2, by rw [e]⟩
end Go.Proofs.YtgcklgeifdefhaaGreat
/- Forests: rows that own rows. -/
namespace Go.Sep
open Go Go.RowKit
set_option linter.unusedVariables false

/-- How a thing of kind α lies in cells, in a heap, with the blocks it owns. -/
abbrev Lay (α : Type) := α → List AV → Heap → List Nat → Prop
/-- Plain cells. -/
def LPl {α : Type} (e : α → List PV) : Lay α := fun a cs _ D => cs = (e a).map .p ∧ D = []
/-- Things one behind the other. -/
def LL {α : Type} (L : Lay α) : List α → List AV → Heap → List Nat → Prop
  | [], cs, _, D => cs = [] ∧ D = []
  | a :: az, cs, G, D => ∃ c1 c2 D1 D2, cs = c1 ++ c2 ∧ D = D1 ++ D2 ∧ L a c1 G D1 ∧ LL L az c2 G D2
/-- A slice that owns its row. -/
def LRow {α : Type} (L : Lay α) (sz : Nat) : List α → AV → Heap → List Nat → Prop := fun xs x G D => ∃ q cs D', x = .sl q sz 0 xs.length ∧ G q = some cs ∧ LL L xs cs G D' ∧ D = q :: D'

/-- The lay looks at its own blocks alone. -/
def Lay.Local {α : Type} (L : Lay α) : Prop := ∀ a cs G G' D, L a cs G D → (∀ y ∈ D, ∀ b, G y = some b → G' y = some b) → L a cs G' D
/-- Of so many cells, by value e. -/
def Lay.Size {α : Type} (L : Lay α) (sz : Nat) : Prop := ∀ a cs G D, L a cs G D → cs.length = sz

theorem LPl.local {α : Type} (e : α → List PV) : Lay.Local (LPl e) := fun a cs G G' D h _ => h
theorem LPl.size {α : Type} {e : α → List PV} {sz : Nat} (h : ∀ a, (e a).length = sz) : Lay.Size (LPl e) sz := fun a cs G D hl => by rw [hl.1, List.length_map, h]
theorem LL.local {α : Type} {L : Lay α} (hL : L.Local) : ∀ {az : List α} {cs : List AV} {G G' : Heap} {D : List Nat}, LL L az cs G D → (∀ y ∈ D, ∀ b, G y = some b → G' y = some b) → LL L az cs G' D
  | [], cs, G, G', D, h, _ => h
  | a :: az, cs, G, G', D, ⟨c1, c2, D1, D2, e1, e2, h1, h2⟩, hf => by
    subst e2
    exact ⟨c1, c2, D1, D2, e1, rfl, hL _ _ _ _ _ h1 (fun y hy => hf y (List.mem_append_left _ hy)), LL.local hL h2 (fun y hy => hf y (List.mem_append_right _ hy))⟩
theorem LL.size {α : Type} {L : Lay α} {sz : Nat} (hL : L.Size sz) : ∀ {az : List α} {cs : List AV} {G : Heap} {D : List Nat}, LL L az cs G D → cs.length = az.length * sz
  | [], cs, G, D, h => by rw [h.1]; simp
  | a :: az, cs, G, D, ⟨c1, c2, D1, D2, e1, e2, h1, h2⟩ => by
    rw [e1, List.length_append, hL _ _ _ _ h1, LL.size hL h2, List.length_cons, Nat.add_mul, Nat.one_mul]; omega
theorem LRow.local {α : Type} {L : Lay α} {sz : Nat} (hL : L.Local) {xs : List α} {x : AV} {G G' : Heap} {D : List Nat} (h : LRow L sz xs x G D) (hf : ∀ y ∈ D, ∀ b, G y = some b → G' y = some b) : LRow L sz xs x G' D := by
  obtain ⟨q, cs, D', e1, e2, e3, e4⟩ := h
  subst e4
  exact ⟨q, cs, D', e1, hf q (by simp) _ e2, LL.local hL e3 (fun y hy => hf y (by simp [hy])), rfl⟩
/-- The lay's blocks are there. -/
def Lay.Has {α : Type} (L : Lay α) : Prop := ∀ a cs G D, L a cs G D → ∀ y ∈ D, G y ≠ none
theorem LPl.has {α : Type} (e : α → List PV) : Lay.Has (LPl e) := fun a cs G D h y hy => by rw [h.2] at hy; cases hy
theorem LL.has {α : Type} {L : Lay α} (hL : L.Has) : ∀ {az : List α} {cs : List AV} {G : Heap} {D : List Nat}, LL L az cs G D → ∀ y ∈ D, G y ≠ none
  | [], cs, G, D, h => fun y hy => by rw [h.2] at hy; cases hy
  | a :: az, cs, G, D, ⟨c1, c2, D1, D2, e1, e2, h1, h2⟩ => fun y hy => by
    rw [e2] at hy
    rcases List.mem_append.1 hy with hy | hy
    · exact hL _ _ _ _ h1 y hy
    · exact LL.has hL h2 y hy
theorem LRow.has {α : Type} {L : Lay α} {sz : Nat} (hL : L.Has) {xs : List α} {x : AV} {G : Heap} {D : List Nat} (h : LRow L sz xs x G D) : ∀ y ∈ D, G y ≠ none := by
  obtain ⟨q, cs, D', e1, e2, e3, e4⟩ := h
  intro y hy
  rw [e4] at hy
  rcases List.mem_cons.1 hy with rfl | hy
  · rw [e2]; simp
  · exact LL.has hL e3 y hy
theorem LL.plain {α : Type} {e : α → List PV} {G : Heap} : ∀ (xs : List α), LL (LPl e) xs (cells (xs.map e)) G []
  | [] => ⟨rfl, rfl⟩
  | x :: xs => ⟨(e x).map .p, cells (xs.map e), [], [], by simp [cells], rfl, ⟨rfl, rfl⟩, LL.plain xs⟩
theorem splice_at {pre c c' post : List AV} {off n : Nat} (ho : off = pre.length) (hn : n = c'.length) (hc : c.length = c'.length) : List.take off (pre ++ (c ++ post)) ++ c' ++ List.drop (off + n) (pre ++ (c ++ post)) = pre ++ (c' ++ post) := by
  subst ho; subst hn
  rw [List.take_left', List.append_assoc]
  · congr 2
    rw [List.drop_append, ← hc]
    simp
  · rfl
theorem LL.snoc {α : Type} {L : Lay α} {a : α} {c2 : List AV} {G : Heap} {D2 : List Nat} (h2 : L a c2 G D2) : ∀ {az : List α} {c1 : List AV} {D1 : List Nat}, LL L az c1 G D1 → LL L (az ++ [a]) (c1 ++ c2) G (D1 ++ D2)
  | [], c1, D1, h => by
    obtain ⟨rfl, rfl⟩ := h
    exact ⟨c2, [], D2, [], by simp, by simp, h2, rfl, rfl⟩
  | b :: az, c1, D1, ⟨d1, d2, E1, E2, e1, e2, h1, h3⟩ => by
    subst e1; subst e2
    exact ⟨d1, d2 ++ c2, E1, E2 ++ D2, by simp, by simp, h1, LL.snoc h2 h3⟩
/-- The thing at a place, and what lies around it. -/
theorem LL.split {α : Type} [Inhabited α] {L : Lay α} {sz : Nat} (hL : L.Size sz) : ∀ {az : List α} {cs : List AV} {G : Heap} {D : List Nat} {i : Nat}, LL L az cs G D → i < az.length →
    ∃ c1 c c2 D1 Di D2, cs = c1 ++ (c ++ c2) ∧ D = D1 ++ (Di ++ D2) ∧ c1.length = i * sz ∧ L (az.getD i default) c G Di ∧ LL L (az.take i) c1 G D1 ∧ LL L (az.drop (i + 1)) c2 G D2
  | a :: az, cs, G, D, 0, ⟨c1, c2, D1, D2, e1, e2, h1, h2⟩, _ => ⟨[], c1, c2, [], D1, D2, by simpa using e1, by simpa using e2, by simp, by simpa using h1, ⟨rfl, rfl⟩, by simpa using h2⟩
  | a :: az, cs, G, D, i + 1, ⟨c1, c2, D1, D2, e1, e2, h1, h2⟩, hi => by
    obtain ⟨d1, d, d2, E1, Ei, E2, f1, f2, f3, f4, f5, f6⟩ := LL.split hL h2 (i := i) (by simpa using hi)
    subst e1; subst e2; subst f1; subst f2
    refine ⟨c1 ++ d1, d, d2, D1 ++ E1, Ei, E2, by simp, by simp, ?_, by simpa using f4, ⟨c1, d1, D1, E1, rfl, rfl, h1, f5⟩, by simpa using f6⟩
    rw [List.length_append, hL _ _ _ _ h1, f3, Nat.add_mul, Nat.one_mul]; omega
theorem LL.join {α : Type} {L : Lay α} : ∀ {az bs : List α} {c1 c2 : List AV} {G : Heap} {D1 D2 : List Nat}, LL L az c1 G D1 → LL L bs c2 G D2 → LL L (az ++ bs) (c1 ++ c2) G (D1 ++ D2)
  | [], bs, c1, c2, G, D1, D2, h1, h2 => by
    obtain ⟨rfl, rfl⟩ := h1
    simpa using h2
  | a :: az, bs, c1, c2, G, D1, D2, ⟨d1, d2, E1, E2, e1, e2, h1, h3⟩, h2 => by
    subst e1; subst e2
    exact ⟨d1, d2 ++ c2, E1, E2 ++ D2, by simp, by simp, h1, LL.join h3 h2⟩

/-! ### Telling forests by value -/
/-- A thing in a block is told by value where it lies. -/
def Lay.Frz {α : Type} (L : Lay α) (e : α → List PV) : Prop := ∀ (a : α) (cs : List AV) (G : Heap) (D : List Nat) (v : AV) (s : Nat) (pre post : List AV), L a cs G D → D.Nodup → s ∉ D → G s = some (pre ++ (cs ++ post)) →
  ∃ G', Wk v G v G' ∧ G' s = some (pre ++ ((e a).map .p ++ post)) ∧ ∀ y, y ≠ s → y ∉ D → G' y = G y

theorem LPl.frz {α : Type} (e : α → List PV) : (LPl e).Frz e := by
  rintro a cs G D v s pre post ⟨rfl, rfl⟩ _ _ hs
  exact ⟨G, .refl _ _, hs, fun _ _ _ => rfl⟩
theorem LL.frz {α : Type} {L : Lay α} {e : α → List PV} (hl : L.Local) (hf : L.Frz e) : ∀ (az : List α) (cs : List AV) (G : Heap) (D : List Nat) (v : AV) (s : Nat) (pre post : List AV), LL L az cs G D → D.Nodup → s ∉ D → G s = some (pre ++ (cs ++ post)) →
    ∃ G', Wk v G v G' ∧ G' s = some (pre ++ ((az.map e).flatten.map .p ++ post)) ∧ ∀ y, y ≠ s → y ∉ D → G' y = G y
  | [], cs, G, D, v, s, pre, post, h, hD, hs, hG => by
    obtain ⟨rfl, rfl⟩ := h
    exact ⟨G, .refl _ _, by simpa using hG, fun _ _ _ => rfl⟩
  | a :: az, cs, G, D, v, s, pre, post, ⟨c1, c2, D1, D2, e1, e2, h1, h2⟩, hD, hs, hG => by
    subst e1; subst e2
    rw [List.nodup_append] at hD
    rw [List.mem_append, not_or] at hs
    obtain ⟨G1, w1, k1, f1⟩ := hf a c1 G D1 v s pre (c2 ++ post) h1 hD.1 hs.1 (by rw [hG]; simp)
    have h2' : LL L az c2 G1 D2 := LL.local hl h2 fun y hy b hb => by rw [f1 y (fun e => hs.2 (e ▸ hy)) (fun hy1 => hD.2.2 y hy1 y hy rfl)]; exact hb
    obtain ⟨G2, w2, k2, f2⟩ := LL.frz hl hf az c2 G1 D2 v s (pre ++ (e a).map .p) post h2' hD.2.1 hs.2 (by rw [k1]; simp)
    refine ⟨G2, .trans w1 w2, by rw [k2]; simp, fun y hy hyD => ?_⟩
    rw [List.mem_append, not_or] at hyD
    rw [f2 y hy hyD.2, f1 y hy hyD.1]
theorem FrzL.refl' {r sz : Nat} {es : List (List PV)} : ∀ vs, FrzL r sz es vs vs
  | [] => .nil
  | v :: vs => .cons (.same v) (FrzL.refl' vs)
theorem FrzL.at {r sz : Nat} {es : List (List PV)} {x x' : AV} (h : FrzR r sz es x x') (post : List AV) : ∀ pre, FrzL r sz es (pre ++ ([x] ++ post)) (pre ++ ([x'] ++ post))
  | [] => .cons h (FrzL.refl' post)
  | v :: pre => .cons (.same v) (FrzL.at h post pre)
/-- A slice that owns its row, in a cell of a block. -/
theorem LRow.frzIn {α : Type} {L : Lay α} {e : α → List PV} {sz : Nat} (hpos : 0 < sz) (he : ∀ a, (e a).length = sz) (hl : L.Local) (hf : L.Frz e) {xs : List α} {x : AV} {G : Heap} {D : List Nat} {v : AV} {s : Nat} {pre post : List AV} (h : LRow L sz xs x G D) (hD : D.Nodup) (hs : s ∉ D) (hG : G s = some (pre ++ ([x] ++ post))) :
    ∃ G', Wk v G v G' ∧ G' s = some (pre ++ ([.p (.sl (xs.map e))] ++ post)) ∧ ∀ y, y ≠ s → y ∉ D → G' y = G y := by
  obtain ⟨q, cs, D', rfl, hq, hll, rfl⟩ := h
  rw [List.nodup_cons] at hD
  rw [List.mem_cons, not_or] at hs
  obtain ⟨G1, w1, k1, f1⟩ := LL.frz hl hf xs cs G D' v q [] [] hll hD.2 hD.1 (by simpa using hq)
  have hG1 : G1 s = some (pre ++ ([.sl q sz 0 xs.length] ++ post)) := by rw [f1 s hs.1 hs.2]; exact hG
  have k1' : G1 q = some ((xs.map e).flatten.map .p) := by simpa using k1
  have hr : FrzR q sz (xs.map e) (.sl q sz 0 xs.length) (.p (.sl (xs.map e))) := by
    have : FrzR q sz (xs.map e) (.sl q sz 0 (xs.map e).length) (.p (.sl (xs.map e))) := .here
    rwa [List.length_map] at this
  refine ⟨(G1.del q).set s (pre ++ ([.p (.sl (xs.map e))] ++ post)), .trans w1 (Wk.frzAt hpos k1' (sized_map he xs) hG1 hs.1 (FrzL.at hr post pre) (.same v) (by simp)), Heap.set_same _ _ _, fun y hy hyD => ?_⟩
  rw [List.mem_cons, not_or] at hyD
  rw [Heap.set_other hy, Heap.del_other hyD.1, f1 y hyD.1 hyD.2]
/-- A slice that owns its row, in a value. -/
theorem LRow.frzV {α : Type} {L : Lay α} {e : α → List PV} {sz : Nat} (hpos : 0 < sz) (he : ∀ a, (e a).length = sz) (hl : L.Local) (hf : L.Frz e) {xs : List α} {x : AV} {G : Heap} {D : List Nat} {v v' : AV} (h : LRow L sz xs x G D) (hD : D.Nodup)
    (hv : ∀ q, x = .sl q sz 0 xs.length → FrzR q sz (xs.map e) x (.p (.sl (xs.map e))) → FrzR q sz (xs.map e) v v') :
    ∃ G', Wk v G v' G' ∧ ∀ y, y ∉ D → G' y = G y := by
  obtain ⟨q, cs, D', rfl, hq, hll, rfl⟩ := h
  rw [List.nodup_cons] at hD
  obtain ⟨G1, w1, k1, f1⟩ := LL.frz hl hf xs cs G D' v q [] [] hll hD.2 hD.1 (by simpa using hq)
  have k1' : G1 q = some ((xs.map e).flatten.map .p) := by simpa using k1
  have hr : FrzR q sz (xs.map e) (.sl q sz 0 xs.length) (.p (.sl (xs.map e))) := by
    have : FrzR q sz (xs.map e) (.sl q sz 0 (xs.map e).length) (.p (.sl (xs.map e))) := .here
    rwa [List.length_map] at this
  refine ⟨G1.del q, .trans w1 (Wk.frz hpos k1' (sized_map he xs) (hv q rfl hr)), fun y hyD => ?_⟩
  rw [List.mem_cons, not_or] at hyD
  rw [Heap.del_other hyD.1, f1 y hyD.1 hyD.2]
theorem or_empty (G : Heap) (n : Nat) : G.or (shH n fun _ => none) = G := by
  funext r
  cases h : G r with
  | none => simp [Heap.or, shH, h]
  | some b => simp [Heap.or, h]
theorem or_one {G : Heap} {n q : Nat} {cs : List AV} (hG : ∀ q, n ≤ q → G q = none) (hc : ∀ c ∈ cs, shC n c = c) : G.or (shH n (Heap.set (fun _ => none) q cs)) = G.set (q + n) cs := by
  funext r
  by_cases e : r = q + n
  · subst e
    rw [Heap.set_same]
    simp only [Heap.or, shH, hG (q + n) (by omega), show n ≤ q + n by omega, if_true, Nat.add_sub_cancel, Heap.set_same, Option.map_some]
    congr 1
    exact (List.map_congr_left hc).trans (List.map_id _)
  · rw [Heap.set_other e]
    simp only [Heap.or]
    cases hg : G r with
    | some b => rfl
    | none =>
      simp only [shH]
      split
      · rw [Heap.set_other (by omega)]; rfl
      · rfl


/-! ### Forests moved on -/
/-- Cells that may be moved. -/
def Lay.Gd {α : Type} (L : Lay α) : Prop := ∀ a cs G D, L a cs G D → (∀ c ∈ cs, GdC c) ∧ ∀ y ∈ D, ∀ bs, G y = some bs → ∀ c ∈ bs, GdC c
def Lay.Sh {α : Type} (L : Lay α) : Prop := ∀ a cs G D n G0, (∀ q, n ≤ q → G0 q = none) → L a cs G D → L a (cs.map (shC n)) (Heap.or G0 (shH n G)) (D.map (· + n))
theorem LPl.gd {α : Type} {e : α → List PV} (h : ∀ a, ∀ x ∈ e a, Plain (.p x)) : Lay.Gd (LPl e) := by
  rintro a cs G D ⟨rfl, rfl⟩
  refine ⟨fun c hc => ?_, fun y hy => by cases hy⟩
  obtain ⟨x, hx, rfl⟩ := List.mem_map.1 hc
  exact .p (h a x hx)
theorem LPl.sh {α : Type} (e : α → List PV) : Lay.Sh (LPl e) := by
  rintro a cs G D n G0 _ ⟨rfl, rfl⟩
  exact ⟨by rw [List.map_map]; rfl, rfl⟩
theorem LL.gd {α : Type} {L : Lay α} (hL : L.Gd) : ∀ {az : List α} {cs : List AV} {G : Heap} {D : List Nat}, LL L az cs G D → (∀ c ∈ cs, GdC c) ∧ ∀ y ∈ D, ∀ bs, G y = some bs → ∀ c ∈ bs, GdC c
  | [], _, _, _, ⟨e1, e2⟩ => by subst e1; subst e2; exact ⟨(fun c hc => by cases hc), (fun y hy => by cases hy)⟩
  | a :: az, _, _, _, ⟨c1, c2, D1, D2, e1, e2, h1, h2⟩ => by
    subst e1; subst e2
    obtain ⟨a1, a2⟩ := hL _ _ _ _ h1
    obtain ⟨b1, b2⟩ := LL.gd hL h2
    refine ⟨fun c hc => ?_, fun y hy => ?_⟩
    · rcases List.mem_append.1 hc with hc | hc
      · exact a1 c hc
      · exact b1 c hc
    · rcases List.mem_append.1 hy with hy | hy
      · exact a2 y hy
      · exact b2 y hy
theorem LL.sh {α : Type} {L : Lay α} (hL : L.Sh) {n : Nat} {G0 : Heap} (h0 : ∀ q, n ≤ q → G0 q = none) : ∀ {az : List α} {cs : List AV} {G : Heap} {D : List Nat}, LL L az cs G D → LL L az (cs.map (shC n)) (Heap.or G0 (shH n G)) (D.map (· + n))
  | [], _, _, _, ⟨e1, e2⟩ => by subst e1; subst e2; exact ⟨rfl, rfl⟩
  | a :: az, _, _, _, ⟨c1, c2, D1, D2, e1, e2, h1, h2⟩ => by
    subst e1; subst e2
    exact ⟨_, _, _, _, List.map_append, List.map_append, hL _ _ _ _ n G0 h0 h1, LL.sh hL h0 h2⟩
theorem or_sh {G0 G : Heap} {n q : Nat} (h0 : ∀ q, n ≤ q → G0 q = none) : (Heap.or G0 (shH n G)) (q + n) = (G q).map (List.map (shC n)) := by
  simp only [Heap.or, shH, h0 (q + n) (by omega), show n ≤ q + n by omega, if_true, Nat.add_sub_cancel]
theorem LRow.gd {α : Type} {L : Lay α} {sz : Nat} (hL : L.Gd) {xs : List α} {x : AV} {G : Heap} {D : List Nat} (h : LRow L sz xs x G D) : GdC x ∧ ∀ y ∈ D, ∀ bs, G y = some bs → ∀ c ∈ bs, GdC c := by
  obtain ⟨q, cs, D', rfl, hq, hll, rfl⟩ := h
  obtain ⟨h1, h2⟩ := LL.gd hL hll
  refine ⟨.inl ⟨_, _, _, _, rfl⟩, fun y hy bs hb => ?_⟩
  rcases List.mem_cons.1 hy with rfl | hy
  · rw [hq] at hb; cases hb; exact h1
  · exact h2 y hy bs hb
theorem LRow.sh {α : Type} {L : Lay α} {sz : Nat} (hL : L.Sh) {n : Nat} {G0 : Heap} (h0 : ∀ q, n ≤ q → G0 q = none) {xs : List α} {x : AV} {G : Heap} {D : List Nat} (h : LRow L sz xs x G D) : LRow L sz xs (shC n x) (Heap.or G0 (shH n G)) (D.map (· + n)) := by
  obtain ⟨q, cs, D', rfl, hq, hll, rfl⟩ := h
  exact ⟨q + n, cs.map (shC n), D'.map (· + n), rfl, by rw [or_sh h0, hq]; rfl, LL.sh hL h0 hll, rfl⟩
/-- A heap's blocks of a list alone. -/
def only (D : List Nat) (G : Heap) : Heap := fun y => if y ∈ D then G y else none
theorem only_le (D : List Nat) (G : Heap) : Heap.le (only D G) G := fun y b hb => by
  unfold only at hb; split at hb
  · exact hb
  · cases hb
theorem only_in {D : List Nat} {G : Heap} {y : Nat} (h : y ∈ D) : only D G y = G y := if_pos h
theorem only_out {D : List Nat} {G : Heap} {y : Nat} (h : y ∉ D) : only D G y = none := if_neg h
end Go.Sep
/- Programs that own their rows: copies of one's own. -/
namespace Go.Proofs.YtgcklgeifdefhaaGreat
open Go Go.Sep Go.Pt
set_option linter.unusedSimpArgs false
set_option linter.unusedVariables false
attribute [local irreducible] CallT

abbrev LN : List Nd → AV → Heap → List Nat → Prop := LRow (LPl eN) 2
abbrev LI : List Int → AV → Heap → List Nat → Prop := LRow (LPl eI) 1
def LCh : Lay Ch := fun c cs G D => ∃ x, cs = [I c.var, x] ∧ LN c.by_ x G D
def LCm : Lay Cm := fun c cs G D => ∃ x y D1 D2, cs = [x, y] ∧ D = D1 ++ D2 ∧ LN c.when_ x G D1 ∧ LRow LCh 2 c.chs y G D2

theorem LCh.local : Lay.Local LCh := by
  rintro c cs G G' D ⟨x, e, h⟩ hf
  exact ⟨x, e, LRow.local (LPl.local eN) h hf⟩
theorem LCh.size : Lay.Size LCh 2 := by
  rintro c cs G D ⟨x, rfl, h⟩; rfl
theorem LCh.has : Lay.Has LCh := by
  rintro c cs G D ⟨x, e, h⟩
  exact LRow.has (LPl.has eN) h
theorem LCh.frz : Lay.Frz LCh eCh := by
  rintro c cs G D v s pre post ⟨x, rfl, h⟩ hD hs hG
  obtain ⟨G', w, k, f⟩ := LRow.frzIn (e := eN) (sz := 2) (pre := pre ++ [I c.var]) (post := post) (v := v) (by omega) (fun _ => rfl) (LPl.local eN) (LPl.frz eN) h hD hs (by rw [hG]; simp)
  exact ⟨G', w, by rw [k]; simp, f⟩
theorem LCm.local : Lay.Local LCm := by
  rintro c cs G G' D ⟨x, y, D1, D2, e, rfl, h1, h2⟩ hf
  exact ⟨x, y, D1, D2, e, rfl, LRow.local (LPl.local eN) h1 (fun z hz => hf z (List.mem_append_left _ hz)), LRow.local LCh.local h2 (fun z hz => hf z (List.mem_append_right _ hz))⟩
theorem LCm.size : Lay.Size LCm 2 := by
  rintro c cs G D ⟨x, y, D1, D2, rfl, e, h1, h2⟩; rfl
theorem LCm.has : Lay.Has LCm := by
  rintro c cs G D ⟨x, y, D1, D2, e, rfl, h1, h2⟩ z hz
  rcases List.mem_append.1 hz with hz | hz
  · exact LRow.has (LPl.has eN) h1 z hz
  · exact LRow.has LCh.has h2 z hz
theorem LCm.frz : Lay.Frz LCm eCm := by
  rintro c cs G D v s pre post ⟨x, y, D1, D2, rfl, rfl, h1, h2⟩ hD hs hG
  rw [List.nodup_append] at hD
  rw [List.mem_append, not_or] at hs
  obtain ⟨G1, w1, k1, f1⟩ := LRow.frzIn (e := eN) (sz := 2) (pre := pre) (post := y :: post) (v := v) (by omega) (fun _ => rfl) (LPl.local eN) (LPl.frz eN) h1 hD.1 hs.1 (by rw [hG]; simp)
  have h2' : LRow LCh 2 c.chs y G1 D2 := LRow.local LCh.local h2 fun z hz b hb => by rw [f1 z (fun e => hs.2 (e ▸ hz)) (fun hz1 => hD.2.2 z hz1 z hz rfl)]; exact hb
  obtain ⟨G2, w2, k2, f2⟩ := LRow.frzIn (e := eCh) (sz := 2) (pre := pre ++ [Ns c.when_]) (post := post) (v := v) (by omega) (fun _ => rfl) LCh.local LCh.frz h2' hD.2.1 hs.2 (by rw [k1]; simp)
  refine ⟨G2, .trans w1 w2, by rw [k2]; simp, fun z hz hzD => ?_⟩
  rw [List.mem_append, not_or] at hzD
  rw [f2 z hz hzD.2, f1 z hz hzD.1]

/-- Blocks of one's own beside a heap. -/
structure New (H G : Heap) (D : List Nat) : Prop where
  nd : D.Nodup
  fr : ∀ y ∈ D, H y = none
  le : Heap.le H G
theorem New.trans {H G G' : Heap} {D D' : List Nat} (n : New H G D) (m : New G G' D') (hh : ∀ y ∈ D, G y ≠ none) : New H G' (D ++ D') := by
  refine ⟨List.nodup_append.2 ⟨n.nd, m.nd, fun a ha b hb e => hh a ha (by rw [e]; exact m.fr b hb)⟩, fun y hy => ?_, Heap.le_trans n.le m.le⟩
  rcases List.mem_append.1 hy with hy | hy
  · exact n.fr y hy
  · cases hh : H y with
    | none => rfl
    | some b => rw [← m.fr y hy, n.le y b hh]
theorem New.base {H H' G : Heap} {D : List Nat} (n : New H' G D) (hle : Heap.le H H') : New H G D :=
  ⟨n.nd, fun y hy => by
    cases hh : H y with
    | none => rfl
    | some b => rw [← n.fr y hy, hle y b hh], Heap.le_trans hle n.le⟩
theorem New.put {H G : Heap} {D : List Nat} (n : New H G D) {q : Nat} (hq : H q = none) (b : List AV) : New H (G.set q b) D := ⟨n.nd, n.fr, Heap.le_setN n.le hq⟩

theorem toNodeS_live (xs : List Nd) (hl : xs.length ≤ 1048576) {H : Heap} {K : AV → Heap → Prop} (h : ∀ x G D, LN xs x G D → New H G D → K x G) : CallT Tryz.prog 80 [Ns xs] H K := by
  refine W80_ok ?_; simp (maxSteps := 1000000) (disch := (first | assumption | (apply Ne.symm; assumption))) only [W80, vw0, vw1, vw2, vw3, vw4, vu0, vu1, ↓condV_t, ↓condV_f, cap_nil, allocV, splice, partV, buildV, eqFieldsV, eqS, tabs, TK.agg, reduceCtorEq, Array.toList, List.map_cons, List.map_nil, ↓reduceIte, List.length_map, Nat.reduceAdd, Nat.reduceLeDiff, Nat.reduceLT, Nat.reduceMul, Nat.reduceSub, Option.bind_some, Option.map_some, bndV, numV, eI, eU, e8, eB, AV.isCell, Int.reduceToNat, Int.reduceSub, Int.reduceAdd, Int.reduceNeg, makeSliceV]
  refine ⟨by omega, by omega, by omega, by omega, fun q hq => ?_⟩
  have z0 : rowZ eN [I 0, U 0] xs 0 = zerosA xs.length [I 0, U 0] := rowZ_zero
  rw [← z0]
  refine L80_0_rule (0 : Nat) (fun i => I i) (fun i => H.set q (rowZ eN [I 0, U 0] xs i)) (fun i => i ≤ xs.length) (fun i => xs.length - i) ⟨by omega, .refl _, Heap.le_refl _⟩ ?_
  intro i hi
  have hrl := rowZ_len (e := eN) (zero := [I 0, U 0]) (xs := xs) (i := i) (sz := 2) (fun _ => rfl) rfl hi
  (try simp (maxSteps := 1000000) (disch := (first | assumption | (apply Ne.symm; assumption))) only [vw0, vw1, vw2, vw3, vw4, vu0, vu1, ↓condV_t, ↓condV_f, cap_nil, allocV, splice, partV, buildV, eqFieldsV, eqS, tabs, TK.agg, reduceCtorEq, Array.toList, List.map_cons, List.map_nil, ↓reduceIte, List.length_map, Nat.reduceAdd, Nat.reduceLeDiff, Nat.reduceLT, Nat.reduceMul, Nat.reduceSub, Option.bind_some, Option.map_some, bndV, numV, eI, eU, e8, eB, AV.isCell, Int.reduceToNat, Int.reduceSub, Int.reduceAdd, Int.reduceNeg, B80_0])
  refine ⟨fun h => ⟨by omega, h, ?_⟩, fun h5 => ?_⟩
  · have hlt : i < xs.length := by omega
    have hput := rowZ_put (e := eN) (zero := [I 0, U 0]) (xs := xs) (i := i) (sz := 2) (fun _ => rfl) rfl hlt rfl rfl
    refine Pu.use (toNode_spec (xs.getD i default)) ?_
    (try simp (maxSteps := 1000000) (disch := (first | assumption | (apply Ne.symm; assumption))) only [vw0, vw1, vw2, vw3, vw4, vu0, vu1, ↓condV_t, ↓condV_f, cap_nil, allocV, splice, partV, buildV, eqFieldsV, eqS, tabs, TK.agg, reduceCtorEq, Array.toList, List.map_cons, List.map_nil, ↓reduceIte, List.length_map, Nat.reduceAdd, Nat.reduceLeDiff, Nat.reduceLT, Nat.reduceMul, Nat.reduceSub, Option.bind_some, Option.map_some, bndV, numV, eI, eU, e8, eB, AV.isCell, Int.reduceToNat, Int.reduceSub, Int.reduceAdd, Int.reduceNeg])
    refine ⟨by omega, h, by omega, i + 1, by omega, by omega, ?_, ?_⟩
    · rw [wk_int, i64_id (by omega) (by omega)]; simp
    · rw [← hput]; exact Heap.le_refl _
  · have : i = xs.length := by omega
    subst this
    refine h _ _ [q] ⟨q, _, [], rfl, Heap.set_same _ _ _, ?_, rfl⟩ ⟨by simp, by simpa using hq, Heap.le_set hq⟩
    rw [rowZ_end]; exact LL.plain xs

theorem LRow.sl {α : Type} {L : Lay α} {sz : Nat} {xs : List α} {x : AV} {G : Heap} {D : List Nat} (h : LRow L sz xs x G D) : ∃ q, x = .sl q sz 0 xs.length := by
  obtain ⟨q, cs, D', e1, e2, e3, e4⟩ := h; exact ⟨q, e1⟩
theorem ne_mem {D : List Nat} {y z : Nat} (hy : y ∈ D) (hz : z ∉ D) : y ≠ z := fun e => hz (e ▸ hy)
theorem ne_of_new {H G : Heap} {D : List Nat} (n : New H G D) {y : Nat} {b : List AV} (h : H y = some b) : y ∉ D := fun hy => by rw [n.fr y hy] at h; cases h

theorem toChange_live (c : Ch) (hc : smCh c) {H : Heap} {K : AV → Heap → Prop} (h : ∀ cs G D, LCh c cs G D → New H G D → K (.agg cs) G) : CallT Tryz.prog 184 [aCh c] H K := by
  refine W184_ok ?_; simp (maxSteps := 1000000) (disch := (first | assumption | (apply Ne.symm; assumption))) only [W184, vw0, vw1, vw2, vw3, vw4, vu0, vu1, ↓condV_t, ↓condV_f, cap_nil, allocV, splice, partV, buildV, eqFieldsV, eqS, tabs, TK.agg, reduceCtorEq, Array.toList, List.map_cons, List.map_nil, ↓reduceIte, List.length_map, Nat.reduceAdd, Nat.reduceLeDiff, Nat.reduceLT, Nat.reduceMul, Nat.reduceSub, Option.bind_some, Option.map_some, bndV, numV, eI, eU, e8, eB, AV.isCell, Int.reduceToNat, Int.reduceSub, Int.reduceAdd, Int.reduceNeg]
  intro r hr r2 n1 h2 r3 n2 n3 h3
  have nn1 : r ≠ r2 := Ne.symm n1
  (try simp (maxSteps := 1000000) (disch := (first | assumption | (apply Ne.symm; assumption))) only [vw0, vw1, vw2, vw3, vw4, vu0, vu1, ↓condV_t, ↓condV_f, cap_nil, allocV, splice, partV, buildV, eqFieldsV, eqS, tabs, TK.agg, reduceCtorEq, Array.toList, List.map_cons, List.map_nil, ↓reduceIte, List.length_map, Nat.reduceAdd, Nat.reduceLeDiff, Nat.reduceLT, Nat.reduceMul, Nat.reduceSub, Option.bind_some, Option.map_some, bndV, numV, eI, eU, e8, eB, AV.isCell, Int.reduceToNat, Int.reduceSub, Int.reduceAdd, Int.reduceNeg])
  refine toNodeS_live c.by_ hc fun x G D hx hn => ?_
  obtain ⟨q, rfl⟩ := LRow.sl hx
  have g3 := hn.le r3 _ (Heap.set_same _ _ _)
  have g2 := hn.le r2 [I 0, .p .nil] (by rw [Heap.set_other (Ne.symm n2), Heap.set_same])
  have m3 := ne_of_new hn (Heap.set_same _ _ _)
  have m2 := ne_of_new hn (y := r2) (b := [I 0, .p .nil]) (by rw [Heap.set_other (Ne.symm n2), Heap.set_same])
  have n2' : r2 ≠ r3 := Ne.symm n2
  (try simp (maxSteps := 1000000) (disch := (first | assumption | (apply Ne.symm; assumption))) only [vw0, vw1, vw2, vw3, vw4, vu0, vu1, ↓condV_t, ↓condV_f, cap_nil, allocV, splice, partV, buildV, eqFieldsV, eqS, tabs, TK.agg, reduceCtorEq, Array.toList, List.map_cons, List.map_nil, ↓reduceIte, List.length_map, Nat.reduceAdd, Nat.reduceLeDiff, Nat.reduceLT, Nat.reduceMul, Nat.reduceSub, Option.bind_some, Option.map_some, bndV, numV, eI, eU, e8, eB, AV.isCell, Int.reduceToNat, Int.reduceSub, Int.reduceAdd, Int.reduceNeg, store_at g3])
  (try simp (maxSteps := 1000000) (disch := (first | assumption | (apply Ne.symm; assumption))) only [vw0, vw1, vw2, vw3, vw4, vu0, vu1, ↓condV_t, ↓condV_f, cap_nil, allocV, splice, partV, buildV, eqFieldsV, eqS, tabs, TK.agg, reduceCtorEq, Array.toList, List.map_cons, List.map_nil, ↓reduceIte, List.length_map, Nat.reduceAdd, Nat.reduceLeDiff, Nat.reduceLT, Nat.reduceMul, Nat.reduceSub, Option.bind_some, Option.map_some, bndV, numV, eI, eU, e8, eB, AV.isCell, Int.reduceToNat, Int.reduceSub, Int.reduceAdd, Int.reduceNeg, store_at g2])
  refine h _ _ D ⟨_, rfl, LRow.local (LPl.local eN) hx fun y hy b hb => ?_⟩ ((((hn.base ?_).put h2 _).put h3 _))
  · rw [Heap.set_other (ne_mem hy m3), Heap.set_other (ne_mem hy m2)]; exact hb
  · exact Heap.le_setN (Heap.le_setN (Heap.le_set hr) h2) h3

theorem toChangeS_live (xs : List Ch) (hl : xs.length ≤ 1048576) (hs : ∀ x ∈ xs, smCh x) {H : Heap} {K : AV → Heap → Prop} (h : ∀ x G D, LRow LCh 2 xs x G D → New H G D → K x G) : CallT Tryz.prog 167 [Chs xs] H K := by
  refine W167_ok ?_; simp (maxSteps := 1000000) (disch := (first | assumption | (apply Ne.symm; assumption))) only [W167, vw0, vw1, vw2, vw3, vw4, vu0, vu1, ↓condV_t, ↓condV_f, cap_nil, allocV, splice, partV, buildV, eqFieldsV, eqS, tabs, TK.agg, reduceCtorEq, Array.toList, List.map_cons, List.map_nil, ↓reduceIte, List.length_map, Nat.reduceAdd, Nat.reduceLeDiff, Nat.reduceLT, Nat.reduceMul, Nat.reduceSub, Option.bind_some, Option.map_some, bndV, numV, eI, eU, e8, eB, AV.isCell, Int.reduceToNat, Int.reduceSub, Int.reduceAdd, Int.reduceNeg, makeSliceV]
  refine ⟨by omega, by omega, by omega, by omega, fun q hq => ?_⟩
  refine L167_0_rule ((0 : Nat), H.set q (zerosA xs.length [I 0, .p .nil]), ([] : List Nat)) (fun s => I s.1) (fun s => s.2.1)
    (fun s => s.1 ≤ xs.length ∧ New H s.2.1 (q :: s.2.2) ∧ ∃ done, s.2.1 q = some (done ++ zerosA (xs.length - s.1) [I 0, .p .nil]) ∧ LL LCh (xs.take s.1) done s.2.1 s.2.2) (fun s => xs.length - s.1)
    ⟨⟨by simp, ⟨by simp, by simpa using hq, Heap.le_set hq⟩, [], by simp [Heap.set_same], ⟨rfl, rfl⟩⟩, .refl _, Heap.le_refl _⟩ ?_
  rintro ⟨i, G, D⟩ ⟨hi, hn, done, hG, hll⟩
  dsimp only at hi hn hG hll
  (try simp (maxSteps := 1000000) (disch := (first | assumption | (apply Ne.symm; assumption))) only [vw0, vw1, vw2, vw3, vw4, vu0, vu1, ↓condV_t, ↓condV_f, cap_nil, allocV, splice, partV, buildV, eqFieldsV, eqS, tabs, TK.agg, reduceCtorEq, Array.toList, List.map_cons, List.map_nil, ↓reduceIte, List.length_map, Nat.reduceAdd, Nat.reduceLeDiff, Nat.reduceLT, Nat.reduceMul, Nat.reduceSub, Option.bind_some, Option.map_some, bndV, numV, eI, eU, e8, eB, AV.isCell, Int.reduceToNat, Int.reduceSub, Int.reduceAdd, Int.reduceNeg, B167_0])
  refine ⟨fun h => ⟨by omega, h, ?_⟩, fun h5 => ?_⟩
  · have hlt : i < xs.length := by omega
    have hm : xs.getD i default ∈ xs := getD_all (p := fun x => x ∈ xs) (fun _ h => h) hlt
    have hdl : done.length = i * 2 := by rw [LL.size LCh.size hll, List.length_take, Nat.min_eq_left hi]
    refine toChange_live (xs.getD i default) (hs _ hm) fun cs G1 D1 hc hn1 => ?_
    have hG1 := hn1.le q _ hG
    have hcl : cs.length = 2 := LCh.size _ _ _ _ hc
    have hqD1 : q ∉ D1 := ne_of_new hn1 hG
    have hcell : cs.all AV.isCell = true := by
      obtain ⟨x, rfl, hx⟩ := hc
      obtain ⟨qx, rfl⟩ := LRow.sl hx
      rfl
    have hz : zerosA (xs.length - i) [I 0, .p .nil] = [I 0, .p .nil] ++ zerosA (xs.length - (i + 1)) [I 0, .p .nil] := by
      obtain ⟨m, hm⟩ : ∃ m, xs.length - i = m + 1 := ⟨xs.length - i - 1, by omega⟩
      rw [hm, zerosA_succ, show xs.length - (i + 1) = m by omega]
    have hput := splice_at (pre := done) (c := [I 0, .p .nil]) (c' := cs) (post := zerosA (xs.length - (i + 1)) [I 0, .p .nil]) (off := i * 2) (n := 2) hdl.symm hcl.symm (by rw [hcl]; rfl)
    rw [hz] at hG1
    have hzl : (zerosA (xs.length - (i + 1)) [I 0, .p .nil]).length = (xs.length - (i + 1)) * 2 := zerosA_len _ _
    (try simp (maxSteps := 1000000) (disch := (first | assumption | (apply Ne.symm; assumption))) only [vw0, vw1, vw2, vw3, vw4, vu0, vu1, ↓condV_t, ↓condV_f, cap_nil, allocV, splice, partV, buildV, eqFieldsV, eqS, tabs, TK.agg, reduceCtorEq, Array.toList, List.map_cons, List.map_nil, ↓reduceIte, List.length_map, Nat.reduceAdd, Nat.reduceLeDiff, Nat.reduceLT, Nat.reduceMul, Nat.reduceSub, Option.bind_some, Option.map_some, bndV, numV, eI, eU, e8, eB, AV.isCell, Int.reduceToNat, Int.reduceSub, Int.reduceAdd, Int.reduceNeg, store_at hG1, hcl, hcell])
    refine ⟨by omega, h, by simp only [List.length_append, hdl, hzl, List.length_cons, List.length_nil]; omega, (i + 1, G1.set q (done ++ (cs ++ zerosA (xs.length - (i + 1)) [I 0, .p .nil])), D ++ D1), ⟨by simp only; omega, ?_, done ++ cs, ?_, ?_⟩, by simp only; omega, ?_, ?_⟩
    · have ht := hn.trans hn1 (fun y hy => by
        rcases List.mem_cons.1 hy with rfl | hy
        · rw [hG]; simp
        · exact LL.has LCh.has hll y hy)
      exact ht.put hq _
    · show (G1.set q _) q = _
      rw [Heap.set_same, List.append_assoc]
    · show LL LCh (xs.take (i + 1)) (done ++ cs) (G1.set q (done ++ (cs ++ zerosA (xs.length - (i + 1)) [I 0, .p .nil]))) (D ++ D1)
      rw [take_succ_snoc hlt]
      refine LL.snoc (LCh.local _ _ _ _ _ hc fun y hy b hb => by rw [Heap.set_other (ne_mem hy hqD1)]; exact hb) (LL.local LCh.local hll fun y hy b hb => ?_)
      rw [Heap.set_other (fun e => ?_)]
      · exact hn1.le y b hb
      · have := hn.nd; rw [List.nodup_cons] at this; exact this.1 (e ▸ hy)
    · rw [wk_int, i64_id (by omega) (by omega)]; simp
    · have e : List.take (i * 2) (done ++ ([I 0, .p .nil] ++ zerosA (xs.length - (i + 1)) [I 0, .p .nil])) ++ cs ++ List.drop (i * 2 + 2) (done ++ ([I 0, .p .nil] ++ zerosA (xs.length - (i + 1)) [I 0, .p .nil])) = done ++ (cs ++ zerosA (xs.length - (i + 1)) [I 0, .p .nil]) := hput
      simp only
      rw [← e]
      first | exact Heap.le_refl _ | simp only [List.cons_append, List.nil_append, le_refl_true]
  · have : i = xs.length := by omega
    subst this
    rw [List.take_length] at hll
    refine h _ _ (q :: D) ⟨q, done, D, rfl, ?_, hll, rfl⟩ hn
    rw [hG]; simp [zerosA]

theorem toCommand_live (c : Cm) (hc : smCm c) {H : Heap} {K : AV → Heap → Prop}
    (hC : ∀ (xs : List Ch), xs.length ≤ 1048576 → (∀ x ∈ xs, smCh x) → ∀ {H : Heap} {K : AV → Heap → Prop}, (∀ x G D, LRow LCh 2 xs x G D → New H G D → K x G) → CallT Tryz.prog 167 [Chs xs] H K)
    (h : ∀ cs G D, LCm c cs G D → New H G D → K (.agg cs) G) : CallT Tryz.prog 128 [aCm c] H K := by
  refine W128_ok ?_; simp (maxSteps := 1000000) (disch := (first | assumption | (apply Ne.symm; assumption))) only [W128, vw0, vw1, vw2, vw3, vw4, vu0, vu1, ↓condV_t, ↓condV_f, cap_nil, allocV, splice, partV, buildV, eqFieldsV, eqS, tabs, TK.agg, reduceCtorEq, Array.toList, List.map_cons, List.map_nil, ↓reduceIte, List.length_map, Nat.reduceAdd, Nat.reduceLeDiff, Nat.reduceLT, Nat.reduceMul, Nat.reduceSub, Option.bind_some, Option.map_some, bndV, numV, eI, eU, e8, eB, AV.isCell, Int.reduceToNat, Int.reduceSub, Int.reduceAdd, Int.reduceNeg]
  intro r hr r2 n1 h2 r3 n2 n3 h3
  have nn1 : r ≠ r2 := Ne.symm n1
  have n2' : r2 ≠ r3 := Ne.symm n2
  have n3' : r ≠ r3 := Ne.symm n3
  (try simp (maxSteps := 1000000) (disch := (first | assumption | (apply Ne.symm; assumption))) only [vw0, vw1, vw2, vw3, vw4, vu0, vu1, ↓condV_t, ↓condV_f, cap_nil, allocV, splice, partV, buildV, eqFieldsV, eqS, tabs, TK.agg, reduceCtorEq, Array.toList, List.map_cons, List.map_nil, ↓reduceIte, List.length_map, Nat.reduceAdd, Nat.reduceLeDiff, Nat.reduceLT, Nat.reduceMul, Nat.reduceSub, Option.bind_some, Option.map_some, bndV, numV, eI, eU, e8, eB, AV.isCell, Int.reduceToNat, Int.reduceSub, Int.reduceAdd, Int.reduceNeg])
  refine toNodeS_live c.when_ hc.1 fun x G D hx hn => ?_
  obtain ⟨q, rfl⟩ := LRow.sl hx
  have g3 := hn.le r3 _ (Heap.set_same _ _ _)
  have g2 := hn.le r2 [.p .nil, .p .nil] (by rw [Heap.set_other n2', Heap.set_same])
  have g1 := hn.le r [Ns c.when_, Chs c.chs] (by rw [Heap.set_other n3', Heap.set_other nn1, Heap.set_same])
  have m3 := ne_of_new hn (Heap.set_same _ _ _)
  have m2 := ne_of_new hn (y := r2) (b := [.p .nil, .p .nil]) (by rw [Heap.set_other n2', Heap.set_same])
  (try simp (maxSteps := 1000000) (disch := (first | assumption | (apply Ne.symm; assumption))) only [vw0, vw1, vw2, vw3, vw4, vu0, vu1, ↓condV_t, ↓condV_f, cap_nil, allocV, splice, partV, buildV, eqFieldsV, eqS, tabs, TK.agg, reduceCtorEq, Array.toList, List.map_cons, List.map_nil, ↓reduceIte, List.length_map, Nat.reduceAdd, Nat.reduceLeDiff, Nat.reduceLT, Nat.reduceMul, Nat.reduceSub, Option.bind_some, Option.map_some, bndV, numV, eI, eU, e8, eB, AV.isCell, Int.reduceToNat, Int.reduceSub, Int.reduceAdd, Int.reduceNeg, store_at g3, load_at g1])
  refine hC c.chs hc.2.1 hc.2.2 fun y G2 D2 hy hn2 => ?_
  obtain ⟨q2, rfl⟩ := LRow.sl hy
  have k3 := hn2.le r3 _ (Heap.set_same _ _ _)
  have k2 := hn2.le r2 [.p .nil, .p .nil] (by rw [Heap.set_other n2']; exact g2)
  have l3 := ne_of_new hn2 (Heap.set_same _ _ _)
  have l2 := ne_of_new hn2 (y := r2) (b := [.p .nil, .p .nil]) (by rw [Heap.set_other n2']; exact g2)
  (try simp (maxSteps := 1000000) (disch := (first | assumption | (apply Ne.symm; assumption))) only [vw0, vw1, vw2, vw3, vw4, vu0, vu1, ↓condV_t, ↓condV_f, cap_nil, allocV, splice, partV, buildV, eqFieldsV, eqS, tabs, TK.agg, reduceCtorEq, Array.toList, List.map_cons, List.map_nil, ↓reduceIte, List.length_map, Nat.reduceAdd, Nat.reduceLeDiff, Nat.reduceLT, Nat.reduceMul, Nat.reduceSub, Option.bind_some, Option.map_some, bndV, numV, eI, eU, e8, eB, AV.isCell, Int.reduceToNat, Int.reduceSub, Int.reduceAdd, Int.reduceNeg, store_at k3])
  (try simp (maxSteps := 1000000) (disch := (first | assumption | (apply Ne.symm; assumption))) only [vw0, vw1, vw2, vw3, vw4, vu0, vu1, ↓condV_t, ↓condV_f, cap_nil, allocV, splice, partV, buildV, eqFieldsV, eqS, tabs, TK.agg, reduceCtorEq, Array.toList, List.map_cons, List.map_nil, ↓reduceIte, List.length_map, Nat.reduceAdd, Nat.reduceLeDiff, Nat.reduceLT, Nat.reduceMul, Nat.reduceSub, Option.bind_some, Option.map_some, bndV, numV, eI, eU, e8, eB, AV.isCell, Int.reduceToNat, Int.reduceSub, Int.reduceAdd, Int.reduceNeg, store_at k2])
  have hx3 : LN c.when_ (.sl q 2 0 c.when_.length) (G.set r3 [.sl q 2 0 c.when_.length, .p .nil]) D := LRow.local (LPl.local eN) hx fun z hz b hb => by rw [Heap.set_other (ne_mem hz m3)]; exact hb
  have hn' := ((hn.base (Heap.le_setN (Heap.le_setN (Heap.le_set hr) h2) h3)).put h3 [.sl q 2 0 c.when_.length, .p .nil]).trans hn2 (LRow.has (LPl.has eN) hx3)
  refine h _ _ (D ++ D2) ⟨_, _, D, D2, rfl, rfl, LRow.local (LPl.local eN) hx3 fun z hz b hb => ?_, LRow.local LCh.local hy fun z hz b hb => ?_⟩ ((hn'.put h2 _).put h3 _)
  · rw [Heap.set_other (ne_mem hz m3), Heap.set_other (ne_mem hz m2)]; exact hn2.le z b hb
  · rw [Heap.set_other (ne_mem hz l3), Heap.set_other (ne_mem hz l2)]; exact hb

theorem toCommandS_live (xs : List Cm) (hl : xs.length ≤ 1048576) (hs : ∀ x ∈ xs, smCm x) {H : Heap} {K : AV → Heap → Prop} (h : ∀ x G D, LRow LCm 2 xs x G D → New H G D → K x G) : CallT Tryz.prog 81 [Cms xs] H K := by
  refine W81_ok ?_; simp (maxSteps := 1000000) (disch := (first | assumption | (apply Ne.symm; assumption))) only [W81, vw0, vw1, vw2, vw3, vw4, vu0, vu1, ↓condV_t, ↓condV_f, cap_nil, allocV, splice, partV, buildV, eqFieldsV, eqS, tabs, TK.agg, reduceCtorEq, Array.toList, List.map_cons, List.map_nil, ↓reduceIte, List.length_map, Nat.reduceAdd, Nat.reduceLeDiff, Nat.reduceLT, Nat.reduceMul, Nat.reduceSub, Option.bind_some, Option.map_some, bndV, numV, eI, eU, e8, eB, AV.isCell, Int.reduceToNat, Int.reduceSub, Int.reduceAdd, Int.reduceNeg, makeSliceV]
  refine ⟨by omega, by omega, by omega, by omega, fun q hq => ?_⟩
  refine L81_0_rule ((0 : Nat), H.set q (zerosA xs.length [.p .nil, .p .nil]), ([] : List Nat)) (fun s => I s.1) (fun s => s.2.1)
    (fun s => s.1 ≤ xs.length ∧ New H s.2.1 (q :: s.2.2) ∧ ∃ done, s.2.1 q = some (done ++ zerosA (xs.length - s.1) [.p .nil, .p .nil]) ∧ LL LCm (xs.take s.1) done s.2.1 s.2.2) (fun s => xs.length - s.1)
    ⟨⟨by simp, ⟨by simp, by simpa using hq, Heap.le_set hq⟩, [], by simp [Heap.set_same], ⟨rfl, rfl⟩⟩, .refl _, Heap.le_refl _⟩ ?_
  rintro ⟨i, G, D⟩ ⟨hi, hn, done, hG, hll⟩
  dsimp only at hi hn hG hll
  (try simp (maxSteps := 1000000) (disch := (first | assumption | (apply Ne.symm; assumption))) only [vw0, vw1, vw2, vw3, vw4, vu0, vu1, ↓condV_t, ↓condV_f, cap_nil, allocV, splice, partV, buildV, eqFieldsV, eqS, tabs, TK.agg, reduceCtorEq, Array.toList, List.map_cons, List.map_nil, ↓reduceIte, List.length_map, Nat.reduceAdd, Nat.reduceLeDiff, Nat.reduceLT, Nat.reduceMul, Nat.reduceSub, Option.bind_some, Option.map_some, bndV, numV, eI, eU, e8, eB, AV.isCell, Int.reduceToNat, Int.reduceSub, Int.reduceAdd, Int.reduceNeg, B81_0])
  refine ⟨fun h => ⟨by omega, h, ?_⟩, fun h5 => ?_⟩
  · have hlt : i < xs.length := by omega
    have hm : xs.getD i default ∈ xs := getD_all (p := fun x => x ∈ xs) (fun _ h => h) hlt
    have hdl : done.length = i * 2 := by rw [LL.size LCm.size hll, List.length_take, Nat.min_eq_left hi]
    refine toCommand_live (xs.getD i default) (hs _ hm) (fun ys h1 h2 {H K} h3 => toChangeS_live ys h1 h2 h3) fun cs G1 D1 hc hn1 => ?_
    have hG1 := hn1.le q _ hG
    have hcl : cs.length = 2 := LCm.size _ _ _ _ hc
    have hqD1 : q ∉ D1 := ne_of_new hn1 hG
    have hcell : cs.all AV.isCell = true := by
      obtain ⟨x, y, E1, E2, rfl, rfl, hx, hy⟩ := hc
      obtain ⟨qx, rfl⟩ := LRow.sl hx
      obtain ⟨qy, rfl⟩ := LRow.sl hy
      rfl
    have hz : zerosA (xs.length - i) [.p .nil, .p .nil] = [.p .nil, .p .nil] ++ zerosA (xs.length - (i + 1)) [.p .nil, .p .nil] := by
      obtain ⟨m, hm⟩ : ∃ m, xs.length - i = m + 1 := ⟨xs.length - i - 1, by omega⟩
      rw [hm, zerosA_succ, show xs.length - (i + 1) = m by omega]
    have hput := splice_at (pre := done) (c := [.p .nil, .p .nil]) (c' := cs) (post := zerosA (xs.length - (i + 1)) [.p .nil, .p .nil]) (off := i * 2) (n := 2) hdl.symm hcl.symm (by rw [hcl]; rfl)
    rw [hz] at hG1
    have hzl : (zerosA (xs.length - (i + 1)) [.p .nil, .p .nil]).length = (xs.length - (i + 1)) * 2 := zerosA_len _ _
    (try simp (maxSteps := 1000000) (disch := (first | assumption | (apply Ne.symm; assumption))) only [vw0, vw1, vw2, vw3, vw4, vu0, vu1, ↓condV_t, ↓condV_f, cap_nil, allocV, splice, partV, buildV, eqFieldsV, eqS, tabs, TK.agg, reduceCtorEq, Array.toList, List.map_cons, List.map_nil, ↓reduceIte, List.length_map, Nat.reduceAdd, Nat.reduceLeDiff, Nat.reduceLT, Nat.reduceMul, Nat.reduceSub, Option.bind_some, Option.map_some, bndV, numV, eI, eU, e8, eB, AV.isCell, Int.reduceToNat, Int.reduceSub, Int.reduceAdd, Int.reduceNeg, store_at hG1, hcl, hcell])
    refine ⟨by omega, h, by simp only [List.length_append, hdl, hzl, List.length_cons, List.length_nil]; omega, (i + 1, G1.set q (done ++ (cs ++ zerosA (xs.length - (i + 1)) [.p .nil, .p .nil])), D ++ D1), ⟨by simp only; omega, ?_, done ++ cs, ?_, ?_⟩, by simp only; omega, ?_, ?_⟩
    · have ht := hn.trans hn1 (fun y hy => by
        rcases List.mem_cons.1 hy with rfl | hy
        · rw [hG]; simp
        · exact LL.has LCm.has hll y hy)
      exact ht.put hq _
    · show (G1.set q _) q = _
      rw [Heap.set_same, List.append_assoc]
    · show LL LCm (xs.take (i + 1)) (done ++ cs) (G1.set q (done ++ (cs ++ zerosA (xs.length - (i + 1)) [.p .nil, .p .nil]))) (D ++ D1)
      rw [take_succ_snoc hlt]
      refine LL.snoc (LCm.local _ _ _ _ _ hc fun y hy b hb => by rw [Heap.set_other (ne_mem hy hqD1)]; exact hb) (LL.local LCm.local hll fun y hy b hb => ?_)
      rw [Heap.set_other (fun e => ?_)]
      · exact hn1.le y b hb
      · have := hn.nd; rw [List.nodup_cons] at this; exact this.1 (e ▸ hy)
    · rw [wk_int, i64_id (by omega) (by omega)]; simp
    · have e : List.take (i * 2) (done ++ ([.p .nil, .p .nil] ++ zerosA (xs.length - (i + 1)) [.p .nil, .p .nil])) ++ cs ++ List.drop (i * 2 + 2) (done ++ ([.p .nil, .p .nil] ++ zerosA (xs.length - (i + 1)) [.p .nil, .p .nil])) = done ++ (cs ++ zerosA (xs.length - (i + 1)) [.p .nil, .p .nil]) := hput
      simp only
      rw [← e]
      first | exact Heap.le_refl _ | simp only [List.cons_append, List.nil_append, le_refl_true]
  · have : i = xs.length := by omega
    subst this
    rw [List.take_length] at hll
    refine h _ _ (q :: D) ⟨q, done, D, rfl, ?_, hll, rfl⟩ hn
    rw [hG]; simp [zerosA]
end Go.Proofs.YtgcklgeifdefhaaGreat
/- Things that own blocks: a heap as a list of them. -/
namespace Go.Sep
open Go Go.RowKit Go.Proofs.YtgcklgeifdefhaaGreat
set_option linter.unusedVariables false

/-- A thing that owns blocks: where, and what holds of them. -/
structure Th where
  D : List Nat
  P : Heap → Prop
  loc : ∀ {G G' : Heap}, P G → (∀ y ∈ D, ∀ b, G y = some b → G' y = some b) → P G'
  has : ∀ {G : Heap}, P G → ∀ y ∈ D, G y ≠ none
def cellT (r : Nat) (b : List AV) : Th := ⟨[r], fun G => G r = some b, fun h f => f r (List.mem_singleton.2 rfl) b h, fun h y hy => by rw [List.mem_singleton.1 hy, h]; simp⟩
/-- A heap over H that holds the things Ts, each by itself. -/
structure St (H : Heap) (Ts : List Th) (G : Heap) : Prop where
  le : Heap.le H G
  nd : (Ts.flatMap Th.D).Nodup
  fr : ∀ t ∈ Ts, ∀ y ∈ t.D, H y = none
  ok : ∀ t ∈ Ts, t.P G
theorem St.nil (H : Heap) : St H [] H := ⟨Heap.le_refl _, List.nodup_nil, fun t ht => (by cases ht), fun t ht => (by cases ht)⟩
theorem St.get {H G : Heap} {Ts : List Th} {t : Th} (s : St H Ts G) (i : Nat) (h : Ts[i]? = some t) : t.P G := s.ok t (List.mem_of_getElem? h)
theorem St.ndT {H G : Heap} {Ts : List Th} {t : Th} (s : St H Ts G) (i : Nat) (h : Ts[i]? = some t) : t.D.Nodup := by
  obtain ⟨pre, post, e⟩ := List.append_of_mem (List.mem_of_getElem? h)
  have := s.nd
  rw [e, List.flatMap_append, List.flatMap_cons, List.nodup_append, List.nodup_append] at this
  exact this.2.1.1
theorem St.push {H G G' : Heap} {Ts : List Th} (s : St H Ts G) (t : Th) (hn : New G G' t.D) (hp : t.P G') : St H (t :: Ts) G' := by
  refine ⟨Heap.le_trans s.le hn.le, ?_, ?_, ?_⟩
  · rw [List.flatMap_cons, List.nodup_append]
    refine ⟨hn.nd, s.nd, fun a ha b hb e => ?_⟩
    obtain ⟨u, hu, hbu⟩ := List.mem_flatMap.1 hb
    exact u.has (s.ok u hu) b hbu (by rw [← e]; exact hn.fr a ha)
  · intro u hu y hy
    rcases List.mem_cons.1 hu with rfl | hu
    · cases hh : H y with
      | none => rfl
      | some b => rw [← hn.fr y hy, s.le y b hh]
    · exact s.fr u hu y hy
  · intro u hu
    rcases List.mem_cons.1 hu with rfl | hu
    · exact hp
    · exact u.loc (s.ok u hu) fun y _ b hb => hn.le y b hb
theorem New.cell {G : Heap} {r : Nat} {b : List AV} (hr : G r = none) : New G (G.set r b) [r] := ⟨by simp, by simpa using hr, Heap.le_set hr⟩
theorem St.cell {H G : Heap} {Ts : List Th} (s : St H Ts G) {r : Nat} (hr : G r = none) (b : List AV) : St H (cellT r b :: Ts) (G.set r b) := s.push (cellT r b) (New.cell hr) (Heap.set_same _ _ _)
theorem St.upd {H G G' : Heap} {Ts : List Th} {t : Th} (s : St H Ts G) (i : Nat) (h : Ts[i]? = some t) (t' : Th) (hD : t'.D = t.D) (hf : ∀ y, y ∉ t.D → G' y = G y) (hp : t'.P G') : St H (Ts.set i t') G' := by
  obtain ⟨hi, hti⟩ := List.getElem?_eq_some_iff.1 h
  have e : Ts = Ts.take i ++ t :: Ts.drop (i + 1) := by rw [← hti, List.getElem_cons_drop, List.take_append_drop]
  have e' : Ts.set i t' = Ts.take i ++ t' :: Ts.drop (i + 1) := by rw [List.set_eq_take_append_cons_drop, if_pos hi]
  generalize Ts.take i = pre at e e'
  generalize Ts.drop (i + 1) = post at e e'
  rw [e']
  subst e
  have hnd := s.nd
  rw [List.flatMap_append, List.flatMap_cons] at hnd
  have hdis : ∀ u ∈ pre ++ post, ∀ y ∈ u.D, y ∉ t.D := by
    intro u hu y hy hyt
    rw [List.nodup_append, List.nodup_append] at hnd
    rcases List.mem_append.1 hu with hu | hu
    · exact hnd.2.2 y (List.mem_flatMap.2 ⟨u, hu, hy⟩) y (List.mem_append_left _ hyt) rfl
    · exact hnd.2.1.2.2 y hyt y (List.mem_flatMap.2 ⟨u, hu, hy⟩) rfl
  refine ⟨fun y b hb => ?_, by rw [List.flatMap_append, List.flatMap_cons, hD]; exact hnd, fun u hu y hy => ?_, fun u hu => ?_⟩
  · rw [hf y (fun hy => by have := s.fr t (by simp) y hy; rw [this] at hb; cases hb)]; exact s.le y b hb
  · rcases List.mem_append.1 hu with hu | hu
    · exact s.fr u (List.mem_append_left _ hu) y hy
    · rcases List.mem_cons.1 hu with rfl | hu
      · exact s.fr t (by simp) y (hD ▸ hy)
      · exact s.fr u (by simp [hu]) y hy
  · have old : ∀ u ∈ pre ++ post, u.P G' := fun u hu => u.loc (s.ok u (by
      rcases List.mem_append.1 hu with hu | hu
      · exact List.mem_append_left _ hu
      · exact List.mem_append_right _ (List.mem_cons_of_mem _ hu))) fun y hy b hb => by rw [hf y (hdis u hu y hy)]; exact hb
    rcases List.mem_append.1 hu with hu | hu
    · exact old u (List.mem_append_left _ hu)
    · rcases List.mem_cons.1 hu with rfl | hu
      · exact hp
      · exact old u (List.mem_append_right _ hu)
theorem St.drop {H G : Heap} {t : Th} {Ts : List Th} (s : St H (t :: Ts) G) : St H Ts G := ⟨s.le, (by have := s.nd; rw [List.flatMap_cons, List.nodup_append] at this; exact this.2.1), fun u hu => s.fr u (List.mem_cons_of_mem _ hu), fun u hu => s.ok u (List.mem_cons_of_mem _ hu)⟩
theorem St.perm {H G : Heap} {Ts Us : List Th} (s : St H Ts G) (h : List.Perm Ts Us) : St H Us G :=
  ⟨s.le, (h.flatMap_right _).nodup s.nd, fun t ht => s.fr t (h.mem_iff.2 ht), fun t ht => s.ok t (h.mem_iff.2 ht)⟩
theorem St.disj {H G : Heap} {t u : Th} {Ts : List Th} (s : St H (t :: u :: Ts) G) : ∀ y ∈ t.D, y ∉ u.D := by
  have := s.nd
  rw [List.flatMap_cons, List.flatMap_cons, List.nodup_append] at this
  exact fun y hy hu => this.2.2 y hy y (List.mem_append_left _ hu) rfl
theorem Th.dis : ∀ {Ts : List Th} {t u : Th} {i j : Nat}, (Ts.flatMap Th.D).Nodup → Ts[i]? = some t → Ts[j]? = some u → i < j → ∀ y ∈ t.D, y ∉ u.D
  | [], _, _, _, _, _, hi, _, _ => by simp at hi
  | a :: Ts, t, u, 0, j + 1, nd, hi, hj, _ => by
    rw [List.flatMap_cons, List.nodup_append] at nd
    simp only [List.getElem?_cons_zero, Option.some.injEq] at hi
    subst hi
    exact fun y hy hu => nd.2.2 y hy y (List.mem_flatMap.2 ⟨u, List.mem_of_getElem? (by simpa using hj), hu⟩) rfl
  | a :: Ts, t, u, i + 1, j + 1, nd, hi, hj, h => by
    rw [List.flatMap_cons, List.nodup_append] at nd
    exact Th.dis nd.2.1 (by simpa using hi) (by simpa using hj) (by omega)
theorem St.disjI {H G : Heap} {t u : Th} {Ts : List Th} (s : St H Ts G) (i j : Nat) (hi : Ts[i]? = some t) (hj : Ts[j]? = some u) (hij : i ≠ j) : ∀ y ∈ t.D, y ∉ u.D := by
  rcases Nat.lt_or_gt_of_ne hij with h | h
  · exact Th.dis s.nd hi hj h
  · exact fun y hy hu => Th.dis s.nd hj hi h y hu hy
theorem St.fresh {H G : Heap} {Ts : List Th} {t : Th} (s : St H Ts G) (i : Nat) (h : Ts[i]? = some t) {q : Nat} (hq : G q = none) : q ∉ t.D := fun hm => t.has (s.get i h) q hm hq
theorem perm_pick {α : Type} : ∀ (Ts : List α) (i : Nat) (hi : i < Ts.length), List.Perm Ts (Ts[i] :: Ts.eraseIdx i)
  | a :: Ts, 0, _ => List.Perm.refl _
  | a :: Ts, i + 1, hi => ((perm_pick Ts i (by simpa using hi)).cons a).trans (List.Perm.swap _ _ _)
theorem perm_set {α : Type} : ∀ (Ts : List α) (i : Nat) (hi : i < Ts.length) (t : α), List.Perm (Ts.set i t) (t :: Ts.eraseIdx i)
  | a :: Ts, 0, _, _ => List.Perm.refl _
  | a :: Ts, i + 1, hi, t => ((perm_set Ts i (by simpa using hi) t).cons a).trans (List.Perm.swap _ _ _)
theorem sub_flat {α β : Type} {f : α → List β} {l m : List α} (h : List.Sublist l m) : List.Sublist (l.flatMap f) (m.flatMap f) := by
  induction h with
  | slnil => exact List.Sublist.refl _
  | cons a _ ih => rw [List.flatMap_cons]; exact ih.trans (List.sublist_append_right _ _)
  | cons_cons a _ ih => rw [List.flatMap_cons, List.flatMap_cons]; exact List.Sublist.append_left ih _
theorem St.pick {H G : Heap} {Ts : List Th} {t : Th} (s : St H Ts G) (i : Nat) (h : Ts[i]? = some t) : St H (t :: Ts.eraseIdx i) G := by
  obtain ⟨hi, rfl⟩ := List.getElem?_eq_some_iff.1 h
  exact s.perm (perm_pick Ts i hi)
/-- Some things turn into others. -/
theorem St.step {H G G' : Heap} {old rest : List Th} (s : St H (old ++ rest) G) (new : List Th) (hnd : (new.flatMap Th.D).Nodup) (hfr : ∀ t ∈ new, ∀ y ∈ t.D, (∃ u ∈ old, y ∈ u.D) ∨ G y = none)
    (hf : ∀ y b, G y = some b → (∀ u ∈ old, y ∉ u.D) → G' y = some b) (hp : ∀ t ∈ new, t.P G') : St H (new ++ rest) G' := by
  have hs := s.nd
  rw [List.flatMap_append, List.nodup_append] at hs
  have hdis : ∀ u ∈ rest, ∀ y ∈ u.D, ∀ t ∈ old, y ∉ t.D := fun u hu y hy t ht hyt => hs.2.2 y (List.mem_flatMap.2 ⟨t, ht, hyt⟩) y (List.mem_flatMap.2 ⟨u, hu, hy⟩) rfl
  refine ⟨fun y b hb => ?_, ?_, fun u hu y hy => ?_, fun u hu => ?_⟩
  · refine hf y b (s.le y b hb) fun u hu hy => ?_
    rw [s.fr u (List.mem_append_left _ hu) y hy] at hb; cases hb
  · rw [List.flatMap_append, List.nodup_append]
    refine ⟨hnd, hs.2.1, fun a ha b hb e => ?_⟩
    subst e
    obtain ⟨t, ht, hat⟩ := List.mem_flatMap.1 ha
    obtain ⟨u, hu, hau⟩ := List.mem_flatMap.1 hb
    rcases hfr t ht a hat with ⟨v, hv, hav⟩ | hn
    · exact hdis u hu a hau v hv hav
    · exact u.has (s.ok u (List.mem_append_right _ hu)) a hau hn
  · rcases List.mem_append.1 hu with hu | hu
    · rcases hfr u hu y hy with ⟨v, hv, hav⟩ | hn
      · exact s.fr v (List.mem_append_left _ hv) y hav
      · cases hh : H y with
        | none => rfl
        | some b => rw [← hn, s.le y b hh]
    · exact s.fr u (List.mem_append_right _ hu) y hy
  · rcases List.mem_append.1 hu with hu | hu
    · exact hp u hu
    · exact u.loc (s.ok u (List.mem_append_right _ hu)) fun y hy b hb => hf y b hb (hdis u hu y hy)
theorem St.repl {H G G' : Heap} {Ts : List Th} {t : Th} (s : St H Ts G) (i : Nat) (h : Ts[i]? = some t) (t' : Th) (hnd : t'.D.Nodup) (hfr : ∀ y ∈ t'.D, y ∈ t.D ∨ G y = none)
    (hf : ∀ y b, G y = some b → y ∉ t.D → G' y = some b) (hp : t'.P G') : St H (Ts.set i t') G' := by
  obtain ⟨hi, -⟩ := List.getElem?_eq_some_iff.1 h
  have := St.step (old := [t]) (s.pick i h) [t'] (by simpa using hnd) (fun u hu y hy => by
    rw [List.mem_singleton] at hu; subst hu
    rcases hfr y hy with h1 | h1
    · exact .inl ⟨t, by simp, h1⟩
    · exact .inr h1) (fun y b hb hy => hf y b hb (hy t (by simp))) (fun u hu => by rw [List.mem_singleton] at hu; subst hu; exact hp)
  exact this.perm (perm_set Ts i hi t').symm
/-- A block moved on with another content: an append. -/
theorem St.moved {H G : Heap} {Ts : List Th} {q q' : Nat} {b c : List AV} (s : St H Ts G) (i : Nat) (h : Ts[i]? = some (cellT q b)) (hq : G q' = none) : St H (Ts.set i (cellT q' c)) ((G.del q).set q' c) := by
  have hg : G q = some b := s.get i h
  refine s.repl i h (cellT q' c) (by simp [cellT]) (fun y hy => ?_) (fun y bb hb hy => ?_) (Heap.set_same _ _ _)
  · simp only [cellT, List.mem_singleton] at hy; subst hy; exact .inr hq
  · simp only [cellT, List.mem_singleton] at hy
    rw [Heap.set_other (fun e => by rw [e, hq] at hb; cases hb), Heap.del_other hy]; exact hb
/-- A block written over. -/
theorem St.put {H G : Heap} {Ts : List Th} {q : Nat} {b : List AV} (s : St H Ts G) (i : Nat) (h : Ts[i]? = some (cellT q b)) (c : List AV) : St H (Ts.set i (cellT q c)) (G.set q c) := by
  refine s.repl i h (cellT q c) (by simp [cellT]) (fun y hy => .inl hy) (fun y bb hb hy => ?_) (Heap.set_same _ _ _)
  simp only [cellT, List.mem_singleton] at hy
  rw [Heap.set_other hy]; exact hb
/-- Things forgotten. -/
theorem St.sub {H G : Heap} {Ts Us : List Th} (s : St H Ts G) (h : List.Sublist Us Ts) : St H Us G :=
  ⟨s.le, List.Nodup.sublist (sub_flat h) s.nd, fun t ht => s.fr t (h.subset ht), fun t ht => s.ok t (h.subset ht)⟩
theorem St.erase {H G : Heap} {Ts : List Th} (s : St H Ts G) (i : Nat) : St H (Ts.eraseIdx i) G := s.sub (List.eraseIdx_sublist Ts i)
/-- What is there at last. -/
theorem St.new {H G : Heap} {Ts : List Th} (s : St H Ts G) : New H G (Ts.flatMap Th.D) := ⟨s.nd, fun y hy => by
  obtain ⟨t, ht, hyt⟩ := List.mem_flatMap.1 hy
  exact s.fr t ht y hyt, s.le⟩
/-- Back to what was there before: fewer blocks. -/
theorem St.newH {H G : Heap} {Ts : List Th} (s : St H Ts G) {q : Nat} (hq : G q = none) : H q = none := by
  cases hh : H q with
  | none => rfl
  | some b => rw [s.le q b hh] at hq; cases hq
/-- Freezing a part: what is given up. -/
theorem St.wkNone {H G : Heap} {Ts : List Th} (s : St H Ts G) : ∀ y b, H y = some b → ∀ t ∈ Ts, y ∉ t.D := fun y b hb t ht hy => by rw [s.fr t ht y hy] at hb; cases hb
end Go.Sep
/- Plain facts on automata. -/
namespace Go.Pt
structure Ed where
  src : Int
  lt : Int
  dst : Int
deriving Inhabited
structure Au where
  states : Int
  first : List Int
  edges : List Ed
  goals : List (List Int)
deriving Inhabited

/-- Rising numbers below a bound. -/
def riseAt (l : List Int) (n : Int) (i : Nat) : Bool := (decide (0 ≤ l.getD i default) && decide (l.getD i default < n)) && (decide (i = 0) || decide (l.getD (i - 1) default < l.getD i default))
def rising (l : List Int) (n : Int) : Bool := (List.range l.length).all (riseAt l n)
/-- The edges' order. -/
def edLt (a b : Ed) : Bool := if a.src = b.src then (if a.lt = b.lt then decide (a.dst < b.dst) else decide (a.lt < b.lt)) else decide (a.src < b.src)
def edIn (n : Int) (e : Ed) : Bool := (decide (0 ≤ e.src) && decide (e.src < n)) && ((decide (0 ≤ e.dst) && decide (e.dst < n)) && (decide (0 ≤ e.lt) && decide (e.lt < 8)))
def edAt (n : Int) (es : List Ed) (i : Nat) : Bool := edIn n (es.getD i default) && (decide (i = 0) || edLt (es.getD (i - 1) default) (es.getD i default))
def edsOk (n : Int) (es : List Ed) : Bool := (List.range es.length).all (edAt n es)
def goodA (a : Au) : Bool := (decide (1 ≤ a.states) && decide (a.states ≤ 96)) && (rising a.first a.states && (decide (a.edges.length ≤ 2400) && ((decide (a.goals.length ≤ 6) && a.goals.all (fun g => rising g a.states)) && edsOk a.states a.edges)))
end Go.Pt
/- Specs: sizes, copies and comparisons of automata. -/
namespace Go.Proofs.YtgcklgeifdefhaaGreat
open Go Go.Sep Go.Pt
set_option linter.unusedSimpArgs false
set_option linter.unusedVariables false
attribute [local irreducible] CallT

abbrev eE (x : Ed) : List PV := [.int .i64 x.src, .int .i64 x.lt, .int .i64 x.dst]
abbrev aE (x : Ed) : AV := .agg [I x.src, I x.lt, I x.dst]
abbrev Es (xs : List Ed) : AV := .p (.sl (xs.map eE))
abbrev aAu (a : Au) : AV := .agg [I a.states, Is a.first, Es a.edges, Ls a.goals]
def okLs (cs : List (List Int)) : Prop := ok cs.length ∧ ∀ c ∈ cs, ok c.length
def okAu (a : Au) : Prop := ok a.first.length ∧ ok a.edges.length ∧ okLs a.goals
def totL (l : List Int) : Nat := l.length
def totLs (cs : List (List Int)) : Nat := cs.length + psum totL cs cs.length
def totAu (a : Au) : Nat := a.first.length + a.edges.length + totLs a.goals
def smLs (cs : List (List Int)) : Prop := cs.length ≤ 1048576 ∧ ∀ c ∈ cs, c.length ≤ 1048576
def smAu (a : Au) : Prop := a.first.length ≤ 1048576 ∧ a.edges.length ≤ 1048576 ∧ smLs a.goals
theorem smAu_of {a : Au} (h : (totAu a : Int) ≤ 1048576) : smAu a := by
  unfold totAu totLs at h
  refine ⟨by omega, by omega, by omega, fun c hc => ?_⟩
  have := psum_mem (f := totL) hc
  unfold totL at *
  omega

end Go.Proofs.YtgcklgeifdefhaaGreat
