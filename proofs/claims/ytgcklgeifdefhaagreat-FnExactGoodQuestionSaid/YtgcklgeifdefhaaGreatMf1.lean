/- Specs: good formulas, operands, tracked nodes. -/
import Derived.Test.YtgcklgeifdefhaaGreatMf0
import Derived.Test.YtgcklgeifdefhaaGreatMs1
namespace Go.Proofs.YtgcklgeifdefhaaGreat
open Go Go.Sep Go.Pt
set_option linter.unusedSimpArgs false
set_option linter.unusedVariables false
attribute [local irreducible] CallT

theorem need_impl.operandsOfSaid_spec (op : Int) : Pu Tryz.prog 134 [I op] (I (need op)) := by
  refine Pu.of fun H => ?_
  refine W134_ok ?_; simp (maxSteps := 1000000) (disch := (first | assumption | (apply Ne.symm; assumption))) only [W134, vw0, vw1, vw2, vw3, vw4, vu0, vu1, ↓condV_t, ↓condV_f, cap_nil, allocV, splice, partV, buildV, eqFieldsV, eqS, tabs, TK.agg, reduceCtorEq, Array.toList, List.map_cons, List.map_nil, ↓reduceIte, List.length_map, Nat.reduceAdd, Nat.reduceLeDiff, Nat.reduceLT, Nat.reduceMul, Nat.reduceSub, Option.bind_some, Option.map_some, bndV, numV, eI, eU, e8, eB, AV.isCell, Int.reduceToNat, Int.reduceSub, Int.reduceAdd, Int.reduceNeg, J134_0, J134_1]
  by_cases h1 : op = 1
  · subst h1; simp [need]
  by_cases h2 : op = 2
  · subst h2; simp [need]
  by_cases h3 : op = 3
  · subst h3; simp [need]
  by_cases h4 : op = 4
  · subst h4; simp [need]
  by_cases h5 : op = 5
  · subst h5; simp [need]
  by_cases h6 : op = 6
  · subst h6; simp [need]
  by_cases h7 : op = 7
  · subst h7; simp [need]
  by_cases h8 : op = 8
  · subst h8; simp [need]
  simp [need, h1, h2, h3, h4, h5, h6, h7, h8]
theorem need_spec.l10Need_spec (op : Int) : Pu Tryz.prog 121 [I op] (I (need op)) := by
  refine Pu.of fun H => ?_
  refine W121_ok ?_; simp (maxSteps := 1000000) (disch := (first | assumption | (apply Ne.symm; assumption))) only [W121, vw0, vw1, vw2, vw3, vw4, vu0, vu1, ↓condV_t, ↓condV_f, cap_nil, allocV, splice, partV, buildV, eqFieldsV, eqS, tabs, TK.agg, reduceCtorEq, Array.toList, List.map_cons, List.map_nil, ↓reduceIte, List.length_map, Nat.reduceAdd, Nat.reduceLeDiff, Nat.reduceLT, Nat.reduceMul, Nat.reduceSub, Option.bind_some, Option.map_some, bndV, numV, eI, eU, e8, eB, AV.isCell, Int.reduceToNat, Int.reduceSub, Int.reduceAdd, Int.reduceNeg, J121_0, J121_1]
  by_cases h1 : op = 1
  · subst h1; simp [need]
  by_cases h2 : op = 2
  · subst h2; simp [need]
  by_cases h3 : op = 3
  · subst h3; simp [need]
  by_cases h4 : op = 4
  · subst h4; simp [need]
  by_cases h5 : op = 5
  · subst h5; simp [need]
  by_cases h6 : op = 6
  · subst h6; simp [need]
  by_cases h7 : op = 7
  · subst h7; simp [need]
  by_cases h8 : op = 8
  · subst h8; simp [need]
  simp [need, h1, h2, h3, h4, h5, h6, h7, h8]
theorem isSaid_spec (x : Sd) : Pu Tryz.prog 135 [aD x] (B (sdOk x)) := by
  refine Pu.of fun H => ?_
  refine W135_ok ?_; simp (maxSteps := 1000000) (disch := (first | assumption | (apply Ne.symm; assumption))) only [W135, vw0, vw1, vw2, vw3, vw4, vu0, vu1, ↓condV_t, ↓condV_f, cap_nil, allocV, splice, partV, buildV, eqFieldsV, eqS, tabs, TK.agg, reduceCtorEq, Array.toList, List.map_cons, List.map_nil, ↓reduceIte, List.length_map, Nat.reduceAdd, Nat.reduceLeDiff, Nat.reduceLT, Nat.reduceMul, Nat.reduceSub, Option.bind_some, Option.map_some, bndV, numV, eI, eU, e8, eB, AV.isCell, Int.reduceToNat, Int.reduceSub, Int.reduceAdd, Int.reduceNeg]
  intro r hr
  have hle := Heap.le_set (b := [I x.op, I x.n]) hr
  refine ⟨fun h1 => ?_, fun h1 => ⟨fun h2 => ?_, fun h2 => ?_⟩⟩
  · rw [sdOk, if_pos h1]
    exact ⟨fun h3 => ⟨by rw [decide_eq_true h3, Bool.true_and], hle⟩, fun h3 => ⟨by rw [decide_eq_false h3, Bool.false_and], hle⟩⟩
  · rw [sdOk, if_neg h1, if_pos h2]
    exact ⟨fun h3 => ⟨by rw [decide_eq_true h3, Bool.true_or], hle⟩, fun h3 => ⟨by rw [decide_eq_false h3, Bool.false_or], hle⟩⟩
  · refine Pu.use (need_impl.operandsOfSaid_spec x.op) ?_
    rw [sdOk, if_neg h1, if_neg h2]
    (try simp (maxSteps := 1000000) (disch := (first | assumption | (apply Ne.symm; assumption))) only [vw0, vw1, vw2, vw3, vw4, vu0, vu1, ↓condV_t, ↓condV_f, cap_nil, allocV, splice, partV, buildV, eqFieldsV, eqS, tabs, TK.agg, reduceCtorEq, Array.toList, List.map_cons, List.map_nil, ↓reduceIte, List.length_map, Nat.reduceAdd, Nat.reduceLeDiff, Nat.reduceLT, Nat.reduceMul, Nat.reduceSub, Option.bind_some, Option.map_some, bndV, numV, eI, eU, e8, eB, AV.isCell, Int.reduceToNat, Int.reduceSub, Int.reduceAdd, Int.reduceNeg])
    exact ⟨fun h3 => ⟨by rw [decide_eq_true h3, Bool.true_and], hle⟩, fun h3 => ⟨by rw [decide_eq_false h3, Bool.false_and], hle⟩⟩
theorem l10N_spec (x : Sd) (h : 0 ≤ need x.op) : Pu Tryz.prog 122 [aD x] (B (sdOk x)) := by
  refine Pu.of fun H => ?_
  refine W122_ok ?_; simp (maxSteps := 1000000) (disch := (first | assumption | (apply Ne.symm; assumption))) only [W122, vw0, vw1, vw2, vw3, vw4, vu0, vu1, ↓condV_t, ↓condV_f, cap_nil, allocV, splice, partV, buildV, eqFieldsV, eqS, tabs, TK.agg, reduceCtorEq, Array.toList, List.map_cons, List.map_nil, ↓reduceIte, List.length_map, Nat.reduceAdd, Nat.reduceLeDiff, Nat.reduceLT, Nat.reduceMul, Nat.reduceSub, Option.bind_some, Option.map_some, bndV, numV, eI, eU, e8, eB, AV.isCell, Int.reduceToNat, Int.reduceSub, Int.reduceAdd, Int.reduceNeg]
  intro r hr
  have hle := Heap.le_set (b := [I x.op, I x.n]) hr
  refine ⟨fun h1 => ?_, fun h1 => ⟨fun h2 => ?_, fun h2 => ?_⟩⟩
  · rw [sdOk, if_pos h1]
    refine Pu.use (l1In_spec x.n 0 2) ⟨?_, hle⟩
    exact congrArg (fun b : Bool => B b) (by rw [Bool.eq_iff_iff]; simp only [Bool.and_eq_true, decide_eq_true_eq]; omega)
  · rw [sdOk, if_neg h1, if_pos h2]
    refine Pu.use (l1In_spec x.n 0 1) ⟨?_, hle⟩
    exact congrArg (fun b : Bool => B b) (by rw [Bool.eq_iff_iff]; simp only [Bool.and_eq_true, Bool.or_eq_true, decide_eq_true_eq]; omega)
  · rw [sdOk, if_neg h1, if_neg h2]
    have : 0 < need x.op := by
      rcases need_cases x.op with h3 | h3 | h3 | h3 <;> omega
    exact ⟨by rw [decide_eq_true this, Bool.true_and], hle⟩
theorem goodF_false {f : List Sd} {i : Nat} (hi : i < f.length) (h : sdAt f i = false) : goodF f = false := by
  rw [goodF, Bool.and_eq_false_iff, Bool.and_eq_false_iff]
  exact .inl (.inr (range_all_false hi h))
theorem vals_bd {f : List Sd} : ∀ i, (∀ j, j < i → sdAt f j = true) → 0 ≤ vals f i ∧ vals f i ≤ i := by
  intro i
  induction i with
  | zero => intro _; exact ⟨Int.le_refl _, Int.le_refl _⟩
  | succ i ih =>
    intro h
    have h1 := ih fun j hj => h j (by omega)
    have h2 := h i (by omega)
    simp only [sdAt, Bool.and_eq_true, decide_eq_true_eq] at h2
    have h3 := sdOk_need h2.1
    have h4 := h2.2
    simp only [vals]
    omega
theorem GoodSaid_impl (f : List Sd) (hl : f.length ≤ 1048576) : Pu Tryz.prog 84 [Ds f] (B (goodF f)) := by
  refine Pu.of fun H => ?_
  refine W84_ok ?_; simp (maxSteps := 1000000) (disch := (first | assumption | (apply Ne.symm; assumption))) only [W84, vw0, vw1, vw2, vw3, vw4, vu0, vu1, ↓condV_t, ↓condV_f, cap_nil, allocV, splice, partV, buildV, eqFieldsV, eqS, tabs, TK.agg, reduceCtorEq, Array.toList, List.map_cons, List.map_nil, ↓reduceIte, List.length_map, Nat.reduceAdd, Nat.reduceLeDiff, Nat.reduceLT, Nat.reduceMul, Nat.reduceSub, Option.bind_some, Option.map_some, bndV, numV, eI, eU, e8, eB, AV.isCell, Int.reduceToNat, Int.reduceSub, Int.reduceAdd, Int.reduceNeg]
  refine ⟨fun h1 => by rw [goodF, decide_eq_false (by omega)]; rfl, fun h1 => ⟨fun h2 => by rw [goodF, decide_eq_false (show ¬ f.length ≤ 16 by omega), Bool.and_false]; rfl, fun h2 => ?_⟩⟩
  refine L84_0_rule (0 : Nat) (fun i => I (vals f i)) (fun i => I i) (fun _ => H) (fun i => i ≤ f.length ∧ ∀ j, j < i → sdAt f j = true) (fun i => f.length - i) ⟨⟨by omega, by intros; omega⟩, .refl _, .refl _, Heap.le_refl _⟩ ?_
  rintro i ⟨hi, ha⟩
  have hv := vals_bd i ha
  (try simp (maxSteps := 1000000) (disch := (first | assumption | (apply Ne.symm; assumption))) only [vw0, vw1, vw2, vw3, vw4, vu0, vu1, ↓condV_t, ↓condV_f, cap_nil, allocV, splice, partV, buildV, eqFieldsV, eqS, tabs, TK.agg, reduceCtorEq, Array.toList, List.map_cons, List.map_nil, ↓reduceIte, List.length_map, Nat.reduceAdd, Nat.reduceLeDiff, Nat.reduceLT, Nat.reduceMul, Nat.reduceSub, Option.bind_some, Option.map_some, bndV, numV, eI, eU, e8, eB, AV.isCell, Int.reduceToNat, Int.reduceSub, Int.reduceAdd, Int.reduceNeg, B84_0])
  refine ⟨fun h3 => ⟨by omega, h3, ?_⟩, fun h3 => ?_⟩
  · have hlt : i < f.length := by omega
    have hat : sdAt f i = (sdOk (f.getD i default) && decide (need (f.getD i default).op ≤ vals f i)) := rfl
    have hvs : vals f (i + 1) = vals f i + (1 - need (f.getD i default).op) := rfl
    generalize f.getD i default = x at hat hvs ⊢
    intro r hr
    have hle := Heap.le_set (b := [I x.op, I x.n]) hr
    refine Pu.use (need_impl.operandsOfSaid_spec x.op) ?_
    (try simp (maxSteps := 1000000) (disch := (first | assumption | (apply Ne.symm; assumption))) only [vw0, vw1, vw2, vw3, vw4, vu0, vu1, ↓condV_t, ↓condV_f, cap_nil, allocV, splice, partV, buildV, eqFieldsV, eqS, tabs, TK.agg, reduceCtorEq, Array.toList, List.map_cons, List.map_nil, ↓reduceIte, List.length_map, Nat.reduceAdd, Nat.reduceLeDiff, Nat.reduceLT, Nat.reduceMul, Nat.reduceSub, Option.bind_some, Option.map_some, bndV, numV, eI, eU, e8, eB, AV.isCell, Int.reduceToNat, Int.reduceSub, Int.reduceAdd, Int.reduceNeg])
    refine Pu.use (isSaid_spec x) ?_
    cases hok : sdOk x
    · (try simp (maxSteps := 1000000) (disch := (first | assumption | (apply Ne.symm; assumption))) only [vw0, vw1, vw2, vw3, vw4, vu0, vu1, ↓condV_t, ↓condV_f, cap_nil, allocV, splice, partV, buildV, eqFieldsV, eqS, tabs, TK.agg, reduceCtorEq, Array.toList, List.map_cons, List.map_nil, ↓reduceIte, List.length_map, Nat.reduceAdd, Nat.reduceLeDiff, Nat.reduceLT, Nat.reduceMul, Nat.reduceSub, Option.bind_some, Option.map_some, bndV, numV, eI, eU, e8, eB, AV.isCell, Int.reduceToNat, Int.reduceSub, Int.reduceAdd, Int.reduceNeg])
      exact ⟨by rw [goodF_false hlt (by rw [hat, hok]; rfl)], hle⟩
    · have hnd := sdOk_need hok
      (try simp (maxSteps := 1000000) (disch := (first | assumption | (apply Ne.symm; assumption))) only [vw0, vw1, vw2, vw3, vw4, vu0, vu1, ↓condV_t, ↓condV_f, cap_nil, allocV, splice, partV, buildV, eqFieldsV, eqS, tabs, TK.agg, reduceCtorEq, Array.toList, List.map_cons, List.map_nil, ↓reduceIte, List.length_map, Nat.reduceAdd, Nat.reduceLeDiff, Nat.reduceLT, Nat.reduceMul, Nat.reduceSub, Option.bind_some, Option.map_some, bndV, numV, eI, eU, e8, eB, AV.isCell, Int.reduceToNat, Int.reduceSub, Int.reduceAdd, Int.reduceNeg])
      refine ⟨fun h4 => ⟨by rw [goodF_false hlt (by rw [hat, hok, Bool.true_and, decide_eq_false (by omega)])], hle⟩, fun h4 => ⟨i + 1, ⟨by omega, fun j hj => ?_⟩, by omega, ?_, ?_, hle⟩⟩
      · rcases Nat.lt_succ_iff_lt_or_eq.1 hj with h | rfl
        · exact ha j h
        · rw [hat, hok, Bool.true_and, decide_eq_true (by omega)]
      · rw [wk_int, i64_id (n := 1 - need x.op) (by omega) (by omega), i64_id (by omega) (by omega), hvs]
      · rw [wk_int, i64_id (by omega) (by omega)]; simp
  · have : i = f.length := by omega
    subst this
    refine congrArg (fun b : Bool => B b) ?_
    have hall : (List.range f.length).all (sdAt f) = true := List.all_eq_true.2 fun j hj => ha j (List.mem_range.1 hj)
    rw [goodF, hall, decide_eq_true (show 1 ≤ f.length by omega), decide_eq_true (show f.length ≤ 16 by omega)]; rfl
theorem GoodSaid_spec (f : List Sd) (hl : f.length ≤ 1048576) : Pu Tryz.prog 77 [Ds f] (B (goodF f)) := by
  refine Pu.of fun H => ?_
  refine W77_ok ?_; simp (maxSteps := 1000000) (disch := (first | assumption | (apply Ne.symm; assumption))) only [W77, vw0, vw1, vw2, vw3, vw4, vu0, vu1, ↓condV_t, ↓condV_f, cap_nil, allocV, splice, partV, buildV, eqFieldsV, eqS, tabs, TK.agg, reduceCtorEq, Array.toList, List.map_cons, List.map_nil, ↓reduceIte, List.length_map, Nat.reduceAdd, Nat.reduceLeDiff, Nat.reduceLT, Nat.reduceMul, Nat.reduceSub, Option.bind_some, Option.map_some, bndV, numV, eI, eU, e8, eB, AV.isCell, Int.reduceToNat, Int.reduceSub, Int.reduceAdd, Int.reduceNeg]
  refine Pu.use (l1In_spec f.length 1 16) ?_
  cases hin : (decide ((1 : Int) ≤ f.length) && decide ((f.length : Int) ≤ 16))
  · (try simp (maxSteps := 1000000) (disch := (first | assumption | (apply Ne.symm; assumption))) only [vw0, vw1, vw2, vw3, vw4, vu0, vu1, ↓condV_t, ↓condV_f, cap_nil, allocV, splice, partV, buildV, eqFieldsV, eqS, tabs, TK.agg, reduceCtorEq, Array.toList, List.map_cons, List.map_nil, ↓reduceIte, List.length_map, Nat.reduceAdd, Nat.reduceLeDiff, Nat.reduceLT, Nat.reduceMul, Nat.reduceSub, Option.bind_some, Option.map_some, bndV, numV, eI, eU, e8, eB, AV.isCell, Int.reduceToNat, Int.reduceSub, Int.reduceAdd, Int.reduceNeg])
    rw [Bool.and_eq_false_iff, decide_eq_false_iff_not, decide_eq_false_iff_not] at hin
    rcases hin with h | h
    · rw [goodF, decide_eq_false (by omega)]; rfl
    · rw [goodF, decide_eq_false (show ¬ f.length ≤ 16 by omega), Bool.and_false]; rfl
  rw [Bool.and_eq_true, decide_eq_true_eq, decide_eq_true_eq] at hin
  (try simp (maxSteps := 1000000) (disch := (first | assumption | (apply Ne.symm; assumption))) only [vw0, vw1, vw2, vw3, vw4, vu0, vu1, ↓condV_t, ↓condV_f, cap_nil, allocV, splice, partV, buildV, eqFieldsV, eqS, tabs, TK.agg, reduceCtorEq, Array.toList, List.map_cons, List.map_nil, ↓reduceIte, List.length_map, Nat.reduceAdd, Nat.reduceLeDiff, Nat.reduceLT, Nat.reduceMul, Nat.reduceSub, Option.bind_some, Option.map_some, bndV, numV, eI, eU, e8, eB, AV.isCell, Int.reduceToNat, Int.reduceSub, Int.reduceAdd, Int.reduceNeg])
  refine L77_0_rule (0 : Nat) (fun i => I (vals f i)) (fun i => I i) (fun _ => H) (fun i => i ≤ f.length ∧ ∀ j, j < i → sdAt f j = true) (fun i => f.length - i) ⟨⟨by omega, by intros; omega⟩, .refl _, .refl _, Heap.le_refl _⟩ ?_
  rintro i ⟨hi, ha⟩
  have hv := vals_bd i ha
  (try simp (maxSteps := 1000000) (disch := (first | assumption | (apply Ne.symm; assumption))) only [vw0, vw1, vw2, vw3, vw4, vu0, vu1, ↓condV_t, ↓condV_f, cap_nil, allocV, splice, partV, buildV, eqFieldsV, eqS, tabs, TK.agg, reduceCtorEq, Array.toList, List.map_cons, List.map_nil, ↓reduceIte, List.length_map, Nat.reduceAdd, Nat.reduceLeDiff, Nat.reduceLT, Nat.reduceMul, Nat.reduceSub, Option.bind_some, Option.map_some, bndV, numV, eI, eU, e8, eB, AV.isCell, Int.reduceToNat, Int.reduceSub, Int.reduceAdd, Int.reduceNeg, B77_0])
  refine ⟨fun h3 => ⟨by omega, h3, ?_⟩, fun h3 => ?_⟩
  · have hlt : i < f.length := by omega
    have hat : sdAt f i = (sdOk (f.getD i default) && decide (need (f.getD i default).op ≤ vals f i)) := rfl
    have hvs : vals f (i + 1) = vals f i + (1 - need (f.getD i default).op) := rfl
    generalize f.getD i default = x at hat hvs ⊢
    intro r hr
    have hle := Heap.le_set (b := [I x.op, I x.n]) hr
    refine Pu.use (need_spec.l10Need_spec x.op) ?_
    (try simp (maxSteps := 1000000) (disch := (first | assumption | (apply Ne.symm; assumption))) only [vw0, vw1, vw2, vw3, vw4, vu0, vu1, ↓condV_t, ↓condV_f, cap_nil, allocV, splice, partV, buildV, eqFieldsV, eqS, tabs, TK.agg, reduceCtorEq, Array.toList, List.map_cons, List.map_nil, ↓reduceIte, List.length_map, Nat.reduceAdd, Nat.reduceLeDiff, Nat.reduceLT, Nat.reduceMul, Nat.reduceSub, Option.bind_some, Option.map_some, bndV, numV, eI, eU, e8, eB, AV.isCell, Int.reduceToNat, Int.reduceSub, Int.reduceAdd, Int.reduceNeg])
    refine ⟨fun h0 => ⟨?_, hle⟩, fun h0 => ?_⟩
    · have : sdOk x = false := by
        cases hok : sdOk x
        · rfl
        · have := sdOk_need hok; omega
      rw [goodF_false hlt (by rw [hat, this]; rfl)]
    refine Pu.use (l10N_spec x (by omega)) ?_
    cases hok : sdOk x
    · (try simp (maxSteps := 1000000) (disch := (first | assumption | (apply Ne.symm; assumption))) only [vw0, vw1, vw2, vw3, vw4, vu0, vu1, ↓condV_t, ↓condV_f, cap_nil, allocV, splice, partV, buildV, eqFieldsV, eqS, tabs, TK.agg, reduceCtorEq, Array.toList, List.map_cons, List.map_nil, ↓reduceIte, List.length_map, Nat.reduceAdd, Nat.reduceLeDiff, Nat.reduceLT, Nat.reduceMul, Nat.reduceSub, Option.bind_some, Option.map_some, bndV, numV, eI, eU, e8, eB, AV.isCell, Int.reduceToNat, Int.reduceSub, Int.reduceAdd, Int.reduceNeg])
      exact ⟨by rw [goodF_false hlt (by rw [hat, hok]; rfl)], hle⟩
    · have hnd := sdOk_need hok
      (try simp (maxSteps := 1000000) (disch := (first | assumption | (apply Ne.symm; assumption))) only [vw0, vw1, vw2, vw3, vw4, vu0, vu1, ↓condV_t, ↓condV_f, cap_nil, allocV, splice, partV, buildV, eqFieldsV, eqS, tabs, TK.agg, reduceCtorEq, Array.toList, List.map_cons, List.map_nil, ↓reduceIte, List.length_map, Nat.reduceAdd, Nat.reduceLeDiff, Nat.reduceLT, Nat.reduceMul, Nat.reduceSub, Option.bind_some, Option.map_some, bndV, numV, eI, eU, e8, eB, AV.isCell, Int.reduceToNat, Int.reduceSub, Int.reduceAdd, Int.reduceNeg])
      refine ⟨fun h4 => ⟨by rw [goodF_false hlt (by rw [hat, hok, Bool.true_and, decide_eq_false (by omega)])], hle⟩, fun h4 => ⟨i + 1, ⟨by omega, fun j hj => ?_⟩, by omega, ?_, ?_, hle⟩⟩
      · rcases Nat.lt_succ_iff_lt_or_eq.1 hj with h | rfl
        · exact ha j h
        · rw [hat, hok, Bool.true_and, decide_eq_true (by omega)]
      · rw [wk_int, i64_id (n := 1 - need x.op) (by omega) (by omega), i64_id (by omega) (by omega), hvs]
      · rw [wk_int, i64_id (by omega) (by omega)]; simp
  · have : i = f.length := by omega
    subst this
    refine congrArg (fun b : Bool => B b) ?_
    have hall : (List.range f.length).all (sdAt f) = true := List.all_eq_true.2 fun j hj => ha j (List.mem_range.1 hj)
    rw [goodF, hall, decide_eq_true (show 1 ≤ f.length by omega), decide_eq_true (show f.length ≤ 16 by omega)]; rfl
end Go.Proofs.YtgcklgeifdefhaaGreat
