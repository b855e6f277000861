/- Texts laid together: Mf1 Mf2 Mf3 Lq2 Lr4 Qa0. -/
import Derived.Test.YtgcklgeifdefhaaGreatLp8
/- Specs: good formulas, operands, tracked nodes. -/
namespace Go.Proofs.YtgcklgeifdefhaaGreat
open Go Go.Sep Go.Pt
set_option linter.unusedSimpArgs false
set_option linter.unusedVariables false
attribute [local irreducible] CallT

theorem need_impl.operandsOfSaid_spec (op : Int) : Pu Tryz.prog 134 [I op] (I (need op)) := by
  refine Pu.of fun H => ?_
  refine W134_ok ?_; simp (maxSteps := 1000000) (disch := (first | assumption | (apply Ne.symm; assumption))) only [W134, vw0, vw1, vw2, vw3, vw4, vu0, vu1, ↓condV_t, ↓condV_f, cap_nil, allocV, splice, partV, buildV, eqFieldsV, eqS, tabs, TK.agg, reduceCtorEq, Array.toList, List.map_cons, List.map_nil, ↓reduceIte, List.length_map, Nat.reduceAdd, Nat.reduceLeDiff, Nat.reduceLT, Nat.reduceMul, Nat.reduceSub, Option.bind_some, Option.map_some, bndV, numV, eI, eU, e8, eB, AV.isCell, Int.reduceToNat, Int.reduceSub, Int.reduceAdd, Int.reduceNeg, J134_0, J134_1]
  by_cases h1 : op = 1
  · subst h1; simp [need]
  by_cases h2 : op = 2
  · subst h2; simp [need]
  by_cases h3 : op = 3
  · subst h3; simp [need]
  by_cases h4 : op = 4
  · subst h4; simp [need]
  by_cases h5 : op = 5
  · subst h5; simp [need]
  by_cases h6 : op = 6
  · subst h6; simp [need]
  by_cases h7 : op = 7
  · subst h7; simp [need]
  by_cases h8 : op = 8
  · subst h8; simp [need]
  simp [need, h1, h2, h3, h4, h5, h6, h7, h8]
theorem need_spec.l10Need_spec (op : Int) : Pu Tryz.prog 121 [I op] (I (need op)) := by
  refine Pu.of fun H => ?_
  refine W121_ok ?_; simp (maxSteps := 1000000) (disch := (first | assumption | (apply Ne.symm; assumption))) only [W121, vw0, vw1, vw2, vw3, vw4, vu0, vu1, ↓condV_t, ↓condV_f, cap_nil, allocV, splice, partV, buildV, eqFieldsV, eqS, tabs, TK.agg, reduceCtorEq, Array.toList, List.map_cons, List.map_nil, ↓reduceIte, List.length_map, Nat.reduceAdd, Nat.reduceLeDiff, Nat.reduceLT, Nat.reduceMul, Nat.reduceSub, Option.bind_some, Option.map_some, bndV, numV, eI, eU, e8, eB, AV.isCell, Int.reduceToNat, Int.reduceSub, Int.reduceAdd, Int.reduceNeg, J121_0, J121_1]
  by_cases h1 : op = 1
  · subst h1; simp [need]
  by_cases h2 : op = 2
  · subst h2; simp [need]
  by_cases h3 : op = 3
  · subst h3; simp [need]
  by_cases h4 : op = 4
  · subst h4; simp [need]
  by_cases h5 : op = 5
  · subst h5; simp [need]
  by_cases h6 : op = 6
  · subst h6; simp [need]
  by_cases h7 : op = 7
  · subst h7; simp [need]
  by_cases h8 : op = 8
  · subst h8; simp [need]
  simp [need, h1, h2, h3, h4, h5, h6, h7, h8]
theorem isSaid_spec (x : Sd) : Pu Tryz.prog 135 [aD x] (B (sdOk x)) := by
  refine Pu.of fun H => ?_
  refine W135_ok ?_; simp (maxSteps := 1000000) (disch := (first | assumption | (apply Ne.symm; assumption))) only [W135, vw0, vw1, vw2, vw3, vw4, vu0, vu1, ↓condV_t, ↓condV_f, cap_nil, allocV, splice, partV, buildV, eqFieldsV, eqS, tabs, TK.agg, reduceCtorEq, Array.toList, List.map_cons, List.map_nil, ↓reduceIte, List.length_map, Nat.reduceAdd, Nat.reduceLeDiff, Nat.reduceLT, Nat.reduceMul, Nat.reduceSub, Option.bind_some, Option.map_some, bndV, numV, eI, eU, e8, eB, AV.isCell, Int.reduceToNat, Int.reduceSub, Int.reduceAdd, Int.reduceNeg]
  intro r hr
  have hle := Heap.le_set (b := [I x.op, I x.n]) hr
  refine ⟨fun h1 => ?_, fun h1 => ⟨fun h2 => ?_, fun h2 => ?_⟩⟩
  · rw [sdOk, if_pos h1]
    exact ⟨fun h3 => ⟨by rw [decide_eq_true h3, Bool.true_and], hle⟩, fun h3 => ⟨by rw [decide_eq_false h3, Bool.false_and], hle⟩⟩
  · rw [sdOk, if_neg h1, if_pos h2]
    exact ⟨fun h3 => ⟨by rw [decide_eq_true h3, Bool.true_or], hle⟩, fun h3 => ⟨by rw [decide_eq_false h3, Bool.false_or], hle⟩⟩
  · refine Pu.use (need_impl.operandsOfSaid_spec x.op) ?_
    rw [sdOk, if_neg h1, if_neg h2]
    (try simp (maxSteps := 1000000) (disch := (first | assumption | (apply Ne.symm; assumption))) only [vw0, vw1, vw2, vw3, vw4, vu0, vu1, ↓condV_t, ↓condV_f, cap_nil, allocV, splice, partV, buildV, eqFieldsV, eqS, tabs, TK.agg, reduceCtorEq, Array.toList, List.map_cons, List.map_nil, ↓reduceIte, List.length_map, Nat.reduceAdd, Nat.reduceLeDiff, Nat.reduceLT, Nat.reduceMul, Nat.reduceSub, Option.bind_some, Option.map_some, bndV, numV, eI, eU, e8, eB, AV.isCell, Int.reduceToNat, Int.reduceSub, Int.reduceAdd, Int.reduceNeg])
    exact ⟨fun h3 => ⟨by rw [decide_eq_true h3, Bool.true_and], hle⟩, fun h3 => ⟨by rw [decide_eq_false h3, Bool.false_and], hle⟩⟩
theorem l10N_spec (x : Sd) (h : 0 ≤ need x.op) : Pu Tryz.prog 122 [aD x] (B (sdOk x)) := by
  refine Pu.of fun H => ?_
  refine W122_ok ?_; simp (maxSteps := 1000000) (disch := (first | assumption | (apply Ne.symm; assumption))) only [W122, vw0, vw1, vw2, vw3, vw4, vu0, vu1, ↓condV_t, ↓condV_f, cap_nil, allocV, splice, partV, buildV, eqFieldsV, eqS, tabs, TK.agg, reduceCtorEq, Array.toList, List.map_cons, List.map_nil, ↓reduceIte, List.length_map, Nat.reduceAdd, Nat.reduceLeDiff, Nat.reduceLT, Nat.reduceMul, Nat.reduceSub, Option.bind_some, Option.map_some, bndV, numV, eI, eU, e8, eB, AV.isCell, Int.reduceToNat, Int.reduceSub, Int.reduceAdd, Int.reduceNeg]
  intro r hr
  have hle := Heap.le_set (b := [I x.op, I x.n]) hr
  refine ⟨fun h1 => ?_, fun h1 => ⟨fun h2 => ?_, fun h2 => ?_⟩⟩
  · rw [sdOk, if_pos h1]
    refine Pu.use (l1In_spec x.n 0 2) ⟨?_, hle⟩
    exact congrArg (fun b : Bool => B b) (by rw [Bool.eq_iff_iff]; simp only [Bool.and_eq_true, decide_eq_true_eq]; omega)
  · rw [sdOk, if_neg h1, if_pos h2]
    refine Pu.use (l1In_spec x.n 0 1) ⟨?_, hle⟩
    exact congrArg (fun b : Bool => B b) (by rw [Bool.eq_iff_iff]; simp only [Bool.and_eq_true, Bool.or_eq_true, decide_eq_true_eq]; omega)
  · rw [sdOk, if_neg h1, if_neg h2]
    have : 0 < need x.op := by
      rcases need_cases x.op with h3 | h3 | h3 | h3 <;> omega
    exact ⟨by rw [decide_eq_true this, Bool.true_and], hle⟩
theorem goodF_false {f : List Sd} {i : Nat} (hi : i < f.length) (h : sdAt f i = false) : goodF f = false := by
  rw [goodF, Bool.and_eq_false_iff, Bool.and_eq_false_iff]
  exact .inl (.inr (range_all_false hi h))
theorem vals_bd {f : List Sd} : ∀ i, (∀ j, j < i → sdAt f j = true) → 0 ≤ vals f i ∧ vals f i ≤ i := by
  intro i
  induction i with
  | zero => intro _; exact ⟨Int.le_refl _, Int.le_refl _⟩
  | succ i ih =>
    intro h
    have h1 := ih fun j hj => h j (by omega)
    have h2 := h i (by omega)
    simp only [sdAt, Bool.and_eq_true, decide_eq_true_eq] at h2
    have h3 := sdOk_need h2.1
    have h4 := h2.2
    simp only [vals]
    omega
theorem GoodSaid_impl (f : List Sd) (hl : f.length ≤ 1048576) : Pu Tryz.prog 84 [Ds f] (B (goodF f)) := by
  refine Pu.of fun H => ?_
  refine W84_ok ?_; simp (maxSteps := 1000000) (disch := (first | assumption | (apply Ne.symm; assumption))) only [W84, vw0, vw1, vw2, vw3, vw4, vu0, vu1, ↓condV_t, ↓condV_f, cap_nil, allocV, splice, partV, buildV, eqFieldsV, eqS, tabs, TK.agg, reduceCtorEq, Array.toList, List.map_cons, List.map_nil, ↓reduceIte, List.length_map, Nat.reduceAdd, Nat.reduceLeDiff, Nat.reduceLT, Nat.reduceMul, Nat.reduceSub, Option.bind_some, Option.map_some, bndV, numV, eI, eU, e8, eB, AV.isCell, Int.reduceToNat, Int.reduceSub, Int.reduceAdd, Int.reduceNeg]
  refine ⟨fun h1 => by rw [goodF, decide_eq_false (by omega)]; rfl, fun h1 => ⟨fun h2 => by rw [goodF, decide_eq_false (show ¬ f.length ≤ 16 by omega), Bool.and_false]; rfl, fun h2 => ?_⟩⟩
  refine L84_0_rule (0 : Nat) (fun i => I (vals f i)) (fun i => I i) (fun _ => H) (fun i => i ≤ f.length ∧ ∀ j, j < i → sdAt f j = true) (fun i => f.length - i) ⟨⟨by omega, by intros; omega⟩, .refl _, .refl _, Heap.le_refl _⟩ ?_
  rintro i ⟨hi, ha⟩
  have hv := vals_bd i ha
  (try simp (maxSteps := 1000000) (disch := (first | assumption | (apply Ne.symm; assumption))) only [vw0, vw1, vw2, vw3, vw4, vu0, vu1, ↓condV_t, ↓condV_f, cap_nil, allocV, splice, partV, buildV, eqFieldsV, eqS, tabs, TK.agg, reduceCtorEq, Array.toList, List.map_cons, List.map_nil, ↓reduceIte, List.length_map, Nat.reduceAdd, Nat.reduceLeDiff, Nat.reduceLT, Nat.reduceMul, Nat.reduceSub, Option.bind_some, Option.map_some, bndV, numV, eI, eU, e8, eB, AV.isCell, Int.reduceToNat, Int.reduceSub, Int.reduceAdd, Int.reduceNeg, B84_0])
  refine ⟨fun h3 => ⟨by omega, h3, ?_⟩, fun h3 => ?_⟩
  · have hlt : i < f.length := by omega
    have hat : sdAt f i = (sdOk (f.getD i default) && decide (need (f.getD i default).op ≤ vals f i)) := rfl
    have hvs : vals f (i + 1) = vals f i + (1 - need (f.getD i default).op) := rfl
    generalize f.getD i default = x at hat hvs ⊢
    intro r hr
    have hle := Heap.le_set (b := [I x.op, I x.n]) hr
    refine Pu.use (need_impl.operandsOfSaid_spec x.op) ?_
    (try simp (maxSteps := 1000000) (disch := (first | assumption | (apply Ne.symm; assumption))) only [vw0, vw1, vw2, vw3, vw4, vu0, vu1, ↓condV_t, ↓condV_f, cap_nil, allocV, splice, partV, buildV, eqFieldsV, eqS, tabs, TK.agg, reduceCtorEq, Array.toList, List.map_cons, List.map_nil, ↓reduceIte, List.length_map, Nat.reduceAdd, Nat.reduceLeDiff, Nat.reduceLT, Nat.reduceMul, Nat.reduceSub, Option.bind_some, Option.map_some, bndV, numV, eI, eU, e8, eB, AV.isCell, Int.reduceToNat, Int.reduceSub, Int.reduceAdd, Int.reduceNeg])
    refine Pu.use (isSaid_spec x) ?_
    cases hok : sdOk x
    · (try simp (maxSteps := 1000000) (disch := (first | assumption | (apply Ne.symm; assumption))) only [vw0, vw1, vw2, vw3, vw4, vu0, vu1, ↓condV_t, ↓condV_f, cap_nil, allocV, splice, partV, buildV, eqFieldsV, eqS, tabs, TK.agg, reduceCtorEq, Array.toList, List.map_cons, List.map_nil, ↓reduceIte, List.length_map, Nat.reduceAdd, Nat.reduceLeDiff, Nat.reduceLT, Nat.reduceMul, Nat.reduceSub, Option.bind_some, Option.map_some, bndV, numV, eI, eU, e8, eB, AV.isCell, Int.reduceToNat, Int.reduceSub, Int.reduceAdd, Int.reduceNeg])
      exact ⟨by rw [goodF_false hlt (by rw [hat, hok]; rfl)], hle⟩
    · have hnd := sdOk_need hok
      (try simp (maxSteps := 1000000) (disch := (first | assumption | (apply Ne.symm; assumption))) only [vw0, vw1, vw2, vw3, vw4, vu0, vu1, ↓condV_t, ↓condV_f, cap_nil, allocV, splice, partV, buildV, eqFieldsV, eqS, tabs, TK.agg, reduceCtorEq, Array.toList, List.map_cons, List.map_nil, ↓reduceIte, List.length_map, Nat.reduceAdd, Nat.reduceLeDiff, Nat.reduceLT, Nat.reduceMul, Nat.reduceSub, Option.bind_some, Option.map_some, bndV, numV, eI, eU, e8, eB, AV.isCell, Int.reduceToNat, Int.reduceSub, Int.reduceAdd, Int.reduceNeg])
      refine ⟨fun h4 => ⟨by rw [goodF_false hlt (by rw [hat, hok, Bool.true_and, decide_eq_false (by omega)])], hle⟩, fun h4 => ⟨i + 1, ⟨by omega, fun j hj => ?_⟩, by omega, ?_, ?_, hle⟩⟩
      · rcases Nat.lt_succ_iff_lt_or_eq.1 hj with h | rfl
        · exact ha j h
        · rw [hat, hok, Bool.true_and, decide_eq_true (by omega)]
      · rw [wk_int, i64_id (n := 1 - need x.op) (by omega) (by omega), i64_id (by omega) (by omega), hvs]
      · rw [wk_int, i64_id (by omega) (by omega)]; simp
  · have : i = f.length := by omega
    subst this
    refine congrArg (fun b : Bool => B b) ?_
    have hall : (List.range f.length).all (sdAt f) = true := List.all_eq_true.2 fun j hj => ha j (List.mem_range.1 hj)
    rw [goodF, hall, decide_eq_true (show 1 ≤ f.length by omega), decide_eq_true (show f.length ≤ 16 by omega)]; rfl
theorem GoodSaid_spec (f : List Sd) (hl : f.length ≤ 1048576) : Pu Tryz.prog 77 [Ds f] (B (goodF f)) := by
  refine Pu.of fun H => ?_
  refine W77_ok ?_; simp (maxSteps := 1000000) (disch := (first | assumption | (apply Ne.symm; assumption))) only [W77, vw0, vw1, vw2, vw3, vw4, vu0, vu1, ↓condV_t, ↓condV_f, cap_nil, allocV, splice, partV, buildV, eqFieldsV, eqS, tabs, TK.agg, reduceCtorEq, Array.toList, List.map_cons, List.map_nil, ↓reduceIte, List.length_map, Nat.reduceAdd, Nat.reduceLeDiff, Nat.reduceLT, Nat.reduceMul, Nat.reduceSub, Option.bind_some, Option.map_some, bndV, numV, eI, eU, e8, eB, AV.isCell, Int.reduceToNat, Int.reduceSub, Int.reduceAdd, Int.reduceNeg]
  refine Pu.use (l1In_spec f.length 1 16) ?_
  cases hin : (decide ((1 : Int) ≤ f.length) && decide ((f.length : Int) ≤ 16))
  · (try simp (maxSteps := 1000000) (disch := (first | assumption | (apply Ne.symm; assumption))) only [vw0, vw1, vw2, vw3, vw4, vu0, vu1, ↓condV_t, ↓condV_f, cap_nil, allocV, splice, partV, buildV, eqFieldsV, eqS, tabs, TK.agg, reduceCtorEq, Array.toList, List.map_cons, List.map_nil, ↓reduceIte, List.length_map, Nat.reduceAdd, Nat.reduceLeDiff, Nat.reduceLT, Nat.reduceMul, Nat.reduceSub, Option.bind_some, Option.map_some, bndV, numV, eI, eU, e8, eB, AV.isCell, Int.reduceToNat, Int.reduceSub, Int.reduceAdd, Int.reduceNeg])
    rw [Bool.and_eq_false_iff, decide_eq_false_iff_not, decide_eq_false_iff_not] at hin
    rcases hin with h | h
    · rw [goodF, decide_eq_false (by omega)]; rfl
    · rw [goodF, decide_eq_false (show ¬ f.length ≤ 16 by omega), Bool.and_false]; rfl
  rw [Bool.and_eq_true, decide_eq_true_eq, decide_eq_true_eq] at hin
  (try simp (maxSteps := 1000000) (disch := (first | assumption | (apply Ne.symm; assumption))) only [vw0, vw1, vw2, vw3, vw4, vu0, vu1, ↓condV_t, ↓condV_f, cap_nil, allocV, splice, partV, buildV, eqFieldsV, eqS, tabs, TK.agg, reduceCtorEq, Array.toList, List.map_cons, List.map_nil, ↓reduceIte, List.length_map, Nat.reduceAdd, Nat.reduceLeDiff, Nat.reduceLT, Nat.reduceMul, Nat.reduceSub, Option.bind_some, Option.map_some, bndV, numV, eI, eU, e8, eB, AV.isCell, Int.reduceToNat, Int.reduceSub, Int.reduceAdd, Int.reduceNeg])
  refine L77_0_rule (0 : Nat) (fun i => I (vals f i)) (fun i => I i) (fun _ => H) (fun i => i ≤ f.length ∧ ∀ j, j < i → sdAt f j = true) (fun i => f.length - i) ⟨⟨by omega, by intros; omega⟩, .refl _, .refl _, Heap.le_refl _⟩ ?_
  rintro i ⟨hi, ha⟩
  have hv := vals_bd i ha
  (try simp (maxSteps := 1000000) (disch := (first | assumption | (apply Ne.symm; assumption))) only [vw0, vw1, vw2, vw3, vw4, vu0, vu1, ↓condV_t, ↓condV_f, cap_nil, allocV, splice, partV, buildV, eqFieldsV, eqS, tabs, TK.agg, reduceCtorEq, Array.toList, List.map_cons, List.map_nil, ↓reduceIte, List.length_map, Nat.reduceAdd, Nat.reduceLeDiff, Nat.reduceLT, Nat.reduceMul, Nat.reduceSub, Option.bind_some, Option.map_some, bndV, numV, eI, eU, e8, eB, AV.isCell, Int.reduceToNat, Int.reduceSub, Int.reduceAdd, Int.reduceNeg, B77_0])
  refine ⟨fun h3 => ⟨by omega, h3, ?_⟩, fun h3 => ?_⟩
  · have hlt : i < f.length := by omega
    have hat : sdAt f i = (sdOk (f.getD i default) && decide (need (f.getD i default).op ≤ vals f i)) := rfl
    have hvs : vals f (i + 1) = vals f i + (1 - need (f.getD i default).op) := rfl
    generalize f.getD i default = x at hat hvs ⊢
    intro r hr
    have hle := Heap.le_set (b := [I x.op, I x.n]) hr
    refine Pu.use (need_spec.l10Need_spec x.op) ?_
    (try simp (maxSteps := 1000000) (disch := (first | assumption | (apply Ne.symm; assumption))) only [vw0, vw1, vw2, vw3, vw4, vu0, vu1, ↓condV_t, ↓condV_f, cap_nil, allocV, splice, partV, buildV, eqFieldsV, eqS, tabs, TK.agg, reduceCtorEq, Array.toList, List.map_cons, List.map_nil, ↓reduceIte, List.length_map, Nat.reduceAdd, Nat.reduceLeDiff, Nat.reduceLT, Nat.reduceMul, Nat.reduceSub, Option.bind_some, Option.map_some, bndV, numV, eI, eU, e8, eB, AV.isCell, Int.reduceToNat, Int.reduceSub, Int.reduceAdd, Int.reduceNeg])
    refine ⟨fun h0 => ⟨?_, hle⟩, fun h0 => ?_⟩
    · have : sdOk x = false := by
        cases hok : sdOk x
        · rfl
        · have := sdOk_need hok; omega
      rw [goodF_false hlt (by rw [hat, this]; rfl)]
    refine Pu.use (l10N_spec x (by omega)) ?_
    cases hok : sdOk x
    · (try simp (maxSteps := 1000000) (disch := (first | assumption | (apply Ne.symm; assumption))) only [vw0, vw1, vw2, vw3, vw4, vu0, vu1, ↓condV_t, ↓condV_f, cap_nil, allocV, splice, partV, buildV, eqFieldsV, eqS, tabs, TK.agg, reduceCtorEq, Array.toList, List.map_cons, List.map_nil, ↓reduceIte, List.length_map, Nat.reduceAdd, Nat.reduceLeDiff, Nat.reduceLT, Nat.reduceMul, Nat.reduceSub, Option.bind_some, Option.map_some, bndV, numV, eI, eU, e8, eB, AV.isCell, Int.reduceToNat, Int.reduceSub, Int.reduceAdd, Int.reduceNeg])
      exact ⟨by rw [goodF_false hlt (by rw [hat, hok]; rfl)], hle⟩
    · have hnd := sdOk_need hok
      (try simp (maxSteps := 1000000) (disch := (first | assumption | (apply Ne.symm; assumption))) only [vw0, vw1, vw2, vw3, vw4, vu0, vu1, ↓condV_t, ↓condV_f, cap_nil, allocV, splice, partV, buildV, eqFieldsV, eqS, tabs, TK.agg, reduceCtorEq, Array.toList, List.map_cons, List.map_nil, ↓reduceIte, List.length_map, Nat.reduceAdd, Nat.reduceLeDiff, Nat.reduceLT, Nat.reduceMul, Nat.reduceSub, Option.bind_some, Option.map_some, bndV, numV, eI, eU, e8, eB, AV.isCell, Int.reduceToNat, Int.reduceSub, Int.reduceAdd, Int.reduceNeg])
      refine ⟨fun h4 => ⟨by rw [goodF_false hlt (by rw [hat, hok, Bool.true_and, decide_eq_false (by omega)])], hle⟩, fun h4 => ⟨i + 1, ⟨by omega, fun j hj => ?_⟩, by omega, ?_, ?_, hle⟩⟩
      · rcases Nat.lt_succ_iff_lt_or_eq.1 hj with h | rfl
        · exact ha j h
        · rw [hat, hok, Bool.true_and, decide_eq_true (by omega)]
      · rw [wk_int, i64_id (n := 1 - need x.op) (by omega) (by omega), i64_id (by omega) (by omega), hvs]
      · rw [wk_int, i64_id (by omega) (by omega)]; simp
  · have : i = f.length := by omega
    subst this
    refine congrArg (fun b : Bool => B b) ?_
    have hall : (List.range f.length).all (sdAt f) = true := List.all_eq_true.2 fun j hj => ha j (List.mem_range.1 hj)
    rw [goodF, hall, decide_eq_true (show 1 ≤ f.length by omega), decide_eq_true (show f.length ≤ 16 by omega)]; rfl
end Go.Proofs.YtgcklgeifdefhaaGreat
/- Specs: operands of nodes, tracked nodes. -/
namespace Go.Proofs.YtgcklgeifdefhaaGreat
open Go Go.Sep Go.Pt
set_option linter.unusedSimpArgs false
set_option linter.unusedVariables false
attribute [local irreducible] CallT

theorem lit0G {G : Heap} {K : AV → Heap → Prop} (h : ∀ q, G q = none → K (.sl q 1 0 0) (G.set q [])) : buildSliceV tab 60 0 [] G (wkK K) := by
  simp only [buildSliceV, tab_60, tab_46]
  refine ⟨by omega, ?_⟩
  simp only [fillV, zerosA, List.replicate_zero, List.flatten_nil]
  exact fun r hr => wkK.keep (h r hr)
theorem rg_new {H G : Heap} {Ts : List Th} {q : Nat} (s : St H Ts G) (hq : G q = none) : St H (rnG (.sl q 1 0 0) [] [q] :: Ts) (G.set q []) :=
  s.push (rnG (.sl q 1 0 0) [] [q]) (New.cell hq) (.inr ⟨q, [], [], rfl, Heap.set_same _ _ _, ⟨rfl, rfl⟩, rfl⟩)
/-- Rows of rows at last by value. -/
theorem fin_rows {H G : Heap} {Ts : List Th} {x : AV} {gs : List (List Int)} {D : List Nat} (s : St H Ts G) (i : Nat) (hi : Ts[i]? = some (rnG x gs D)) : wkK (fun r H' => r = Ls gs ∧ H' = H) x G := by
  have hr : RN LIc 1 x gs G D := s.get i hi
  rcases hr with ⟨rfl, rfl, rfl⟩ | hr
  · exact ⟨_, _, .trans (.val .nil) (.forget s.le), rfl, rfl⟩
  · obtain ⟨q, rfl⟩ := LRow.sl hr
    obtain ⟨G', w, f⟩ := LRow.frzV (e := eL) (sz := 1) (v := .sl q 1 0 gs.length) (v' := Ls gs) (by omega) (fun _ => rfl) LIc.local LIc.frz hr (s.ndT i hi) (fun q _ hr => hr)
    refine ⟨_, _, .trans w (.forget (H' := H) fun y b hb => ?_), rfl, rfl⟩
    rw [f y (fun hm => by have := s.fr _ (List.mem_of_getElem? hi) y hm; rw [this] at hb; cases hb)]
    exact s.le y b hb
/-- An answer that is a row of numbers of one's own. -/
def RowR (l : List Int) (r : AV) (G : Heap) (D : List Nat) : Prop := ∃ q, r = rowP q l ∧ G q = some (cP fI l) ∧ D = [q]
theorem RowR.res (l : List Int) : ResT (RowR l) := by
  refine ⟨?_, ?_, ?_⟩
  · rintro r G G' D ⟨q, rfl, hq, rfl⟩ hf
    exact ⟨q, rfl, hf q (by simp) _ hq, rfl⟩
  · rintro r G D ⟨q, rfl, hq, rfl⟩
    refine ⟨.inr ⟨.inr ⟨.inl ⟨_, _, _, _, rfl⟩, fun _ => rfl⟩, fun _ => rfl⟩, fun y hy bs hb c hc => ?_⟩
    rw [List.mem_singleton.1 hy, hq] at hb
    cases hb
    obtain ⟨x, _, rfl⟩ := List.mem_map.1 hc
    exact .p (.int _ _)
  · rintro r G D n G0 h0 ⟨q, rfl, hq, rfl⟩
    refine ⟨q + n, rfl, ?_, rfl⟩
    have hr := LRow.sh (LPl.sh eI) h0 (LI_mk' hq)
    obtain ⟨q', cs, D', e1, e2, e3, e4⟩ := hr
    obtain ⟨rfl, -⟩ := LL.plain' e3
    have e : q' = q + n := by
      have h1 : shC n (rowP q l) = .sl (q + n) 1 0 l.length := rfl
      rw [h1] at e1
      injection e1 with e1; exact e1.symm
    subst e
    have e5 : cells (l.map eI) = cP fI l := cells_P fI l
    rw [← e5]; exact e2
/-- A part of a live row copied. -/
theorem Clone_part {q off n : Nat} {l : List Int} {G : Heap} (hq : G q = some (cP fI l)) (hb : off + n ≤ l.length) (hl : l.length ≤ 100000) {K : AV → Heap → Prop} (h : ∀ qn G', RowR ((l.drop off).take n) (rowP qn ((l.drop off).take n)) G' [qn] → New G G' [qn] → K (rowP qn ((l.drop off).take n)) G') : CallT Tryz.prog 169 [.sl q 1 off n] G K := by
  refine thawR (R := RowR ((l.drop off).take n)) (RowR.res _) (args' := [Is ((l.drop off).take n)]) (G1 := G.del q) (fun {K} h => CloneI_row _ (by rw [List.length_take, List.length_drop]; omega) fun q hq => h _ _ [q] ⟨q, rfl, Heap.set_same _ _ _, rfl⟩ (New.cell hq)) ?_ ?_
  · refine Wk.frzS (es := l.map fI) (by rw [hq, List.map_map]; rfl) (.tup (.cons ?_ .nil))
    have := FrzS.part (r := q) (es := l.map fI) off n (by rw [List.length_map]; exact hb)
    have e : (((l.map fI).drop off).take n).map (fun v => [v]) = ((l.drop off).take n).map eI := by rw [← List.map_drop, ← List.map_take, List.map_map]; rfl
    rw [e] at this
    exact this
  · rintro r G' D ⟨qn, rfl, h1, rfl⟩ hn
    exact h qn G' ⟨qn, rfl, h1, rfl⟩ hn
def opsA (f : List Sd) (i : Nat) : List (List Int) := (List.range i).map (opsF f)
theorem opsA_succ (f : List Sd) (i : Nat) : opsA f (i + 1) = opsA f i ++ [opsF f i] := by simp [opsA, List.range_succ]
theorem opsA_len (f : List Sd) (i : Nat) : (opsA f i).length = i := by simp [opsA]
theorem opsA_get (f : List Sd) {n i : Nat} (h : i < n) : (opsA f n).getD i default = opsF f i := by simp [opsA, List.getD, h]
theorem roots_len {f : List Sd} (g : GoodFm f) (i : Nat) (hi : i ≤ f.length) : (roots f i).length = (vals f i).toNat ∧ vals f i ≤ 16 ∧ 0 ≤ vals f i := by
  have h := stk_len g i hi
  have h2 : vals f i ≤ i := (vals_bd i fun j hj => by
    have := g.ok j (by omega)
    rw [sdAt, this.1, decide_eq_true this.2]; rfl).2
  have := g.l1
  rw [roots, List.length_map, List.length_reverse]
  omega
theorem operandIndexes_spec (f : List Sd) (g : GoodFm f) : Pu Tryz.prog 136 [Ds f] (Ls (opsA f f.length)) := by
  have hl := g.l1
  refine ⟨fun H => CallT.fin ?_⟩
  refine W136_ok ?_; simp (maxSteps := 1000000) (disch := (first | assumption | (apply Ne.symm; assumption))) only [W136, vw0, vw1, vw2, vw3, vw4, vu0, vu1, ↓condV_t, ↓condV_f, cap_nil, allocV, splice, partV, buildV, eqFieldsV, eqS, tabs, TK.agg, reduceCtorEq, Array.toList, List.map_cons, List.map_nil, ↓reduceIte, List.length_map, Nat.reduceAdd, Nat.reduceLeDiff, Nat.reduceLT, Nat.reduceMul, Nat.reduceSub, Option.bind_some, Option.map_some, bndV, numV, eI, eU, e8, eB, AV.isCell, Int.reduceToNat, Int.reduceSub, Int.reduceAdd, Int.reduceNeg]
  refine lit0G fun q0 hq0 => ?_
  have st := rg_new (St.nil H) hq0
  generalize H.set q0 [] = G at st ⊢
  refine lit0I fun q1 hq1 => ?_
  replace st := st.cell hq1 (cP fI [])
  generalize G.set q1 (cP fI []) = G1 at st ⊢
  (try simp (maxSteps := 1000000) (disch := (first | assumption | (apply Ne.symm; assumption))) only [vw0, vw1, vw2, vw3, vw4, vu0, vu1, ↓condV_t, ↓condV_f, cap_nil, allocV, splice, partV, buildV, eqFieldsV, eqS, tabs, TK.agg, reduceCtorEq, Array.toList, List.map_cons, List.map_nil, ↓reduceIte, List.length_map, Nat.reduceAdd, Nat.reduceLeDiff, Nat.reduceLT, Nat.reduceMul, Nat.reduceSub, Option.bind_some, Option.map_some, bndV, numV, eI, eU, e8, eB, AV.isCell, Int.reduceToNat, Int.reduceSub, Int.reduceAdd, Int.reduceNeg])
  refine L136_0_rule ((0 : Nat), (.sl q0 1 0 0 : AV), [q0], q1, G1) (fun s => s.2.1) (fun s => rowP s.2.2.2.1 (roots f s.1)) (fun s => I s.1) (fun s => s.2.2.2.2)
    (fun s => s.1 ≤ f.length ∧ St H [cellT s.2.2.2.1 (cP fI (roots f s.1)), rnG s.2.1 (opsA f s.1) s.2.2.1] s.2.2.2.2) (fun s => f.length - s.1)
    ⟨⟨by simp, st⟩, .refl _, .refl _, .refl _, Heap.le_refl _⟩ ?_
  clear st
  rintro ⟨i, x, D, q, G⟩ ⟨hi, st⟩
  dsimp only at hi st
  (try simp (maxSteps := 1000000) (disch := (first | assumption | (apply Ne.symm; assumption))) only [vw0, vw1, vw2, vw3, vw4, vu0, vu1, ↓condV_t, ↓condV_f, cap_nil, allocV, splice, partV, buildV, eqFieldsV, eqS, tabs, TK.agg, reduceCtorEq, Array.toList, List.map_cons, List.map_nil, ↓reduceIte, List.length_map, Nat.reduceAdd, Nat.reduceLeDiff, Nat.reduceLT, Nat.reduceMul, Nat.reduceSub, Option.bind_some, Option.map_some, bndV, numV, eI, eU, e8, eB, AV.isCell, Int.reduceToNat, Int.reduceSub, Int.reduceAdd, Int.reduceNeg, B136_0])
  refine ⟨fun h1 => ⟨by omega, h1, ?_⟩, fun h1 => ?_⟩
  · have hlt : i < f.length := by omega
    obtain ⟨rr, e1, e2, e3⟩ := roots_succ g hlt
    have hok := g.ok i hlt
    have hnd := sdOk_need hok.1
    have hrl := roots_len g i hi
    have hlen : (roots f i).length = rr.length + (opsF f i).length := by rw [e1, List.length_append]
    have hsucc := opsA_succ f i
    generalize f.getD i default = y at e3 hok hnd ⊢
    intro r hr
    replace st := st.cell hr [I y.op, I y.n]
    generalize G.set r [I y.op, I y.n] = G2 at st ⊢
    (try simp (maxSteps := 1000000) (disch := (first | assumption | (apply Ne.symm; assumption))) only [vw0, vw1, vw2, vw3, vw4, vu0, vu1, ↓condV_t, ↓condV_f, cap_nil, allocV, splice, partV, buildV, eqFieldsV, eqS, tabs, TK.agg, reduceCtorEq, Array.toList, List.map_cons, List.map_nil, ↓reduceIte, List.length_map, Nat.reduceAdd, Nat.reduceLeDiff, Nat.reduceLT, Nat.reduceMul, Nat.reduceSub, Option.bind_some, Option.map_some, bndV, numV, eI, eU, e8, eB, AV.isCell, Int.reduceToNat, Int.reduceSub, Int.reduceAdd, Int.reduceNeg, load_at (st.get 0 rfl)])
    refine Pu.use (need_impl.operandsOfSaid_spec y.op) ?_
    have ew : IntKind.i64.wrap ((roots f i).length - need y.op) = (rr.length : Nat) := by rw [i64_id (by omega) (by omega)]; omega
    (try simp (maxSteps := 1000000) (disch := (first | assumption | (apply Ne.symm; assumption))) only [vw0, vw1, vw2, vw3, vw4, vu0, vu1, ↓condV_t, ↓condV_f, cap_nil, allocV, splice, partV, buildV, eqFieldsV, eqS, tabs, TK.agg, reduceCtorEq, Array.toList, List.map_cons, List.map_nil, ↓reduceIte, List.length_map, Nat.reduceAdd, Nat.reduceLeDiff, Nat.reduceLT, Nat.reduceMul, Nat.reduceSub, Option.bind_some, Option.map_some, bndV, numV, eI, eU, e8, eB, AV.isCell, Int.reduceToNat, Int.reduceSub, Int.reduceAdd, Int.reduceNeg, sliceV, ew])
    refine ⟨by omega, by omega, by omega, ?_⟩
    have en : ((roots f i).length - (rr.length : Int)).toNat = (opsF f i).length := by omega
    have ep : ((roots f i).drop (rr.length * 1)).take (opsF f i).length = opsF f i := by rw [e1, Nat.mul_one, List.drop_left, List.take_length]
    rw [en]
    refine Clone_part (st.get 1 rfl) (by omega) (by omega) fun qn G3 hrow hn => ?_
    rw [ep] at hrow ⊢
    obtain ⟨qn', e4, hqn, _⟩ := hrow
    injection e4 with e4; subst e4
    replace st := st.push (cellT qn (cP fI (opsF f i))) hn hqn
    refine lit_live1 fun ql hql => ?_
    replace st := st.cell hql [rowP qn (opsF f i)]
    generalize G3.set ql [.sl qn 1 0 (opsF f i).length] = G4 at st ⊢
    refine rn_pushL st 2 rfl (by rw [opsA_len]; omega) fun q' D' G5 hq' st => ?_
    rw [← hsucc] at st
    simp only [List.set_cons_succ, List.set_cons_zero] at st
    have hq5 := (st.get 1 rfl : G5 q = _)
    rw [e1, cI_app] at hq5
    refine ⟨by omega, by omega, by omega, ?_⟩
    refine lit1 tab_46 rfl tab_3 ⟨rfl, rfl⟩ ?_
    refine app_intsX (xs := rr) (ys := [(i : Int)]) hq5 (by simp only [List.length_singleton]; omega) fun q2 hq2 hne => ?_
    rw [← e2]
    refine ⟨(i + 1, .sl q' 1 0 ((opsA f i).length + 1), D', q2, _), ⟨by simp only; omega, (st.moved 1 rfl hq2 (c := cP fI (roots f (i + 1)))).drop⟩, by simp only; omega, .refl _, .refl _, ?_, Heap.le_refl _⟩
    rw [wk_int, i64_id (by omega) (by omega)]; simp
  · have : i = f.length := by omega
    subst this
    exact fin_rows st 1 rfl
theorem lit1r {G : Heap} {K : AV → Heap → Prop} {n : Int} (h : ∀ q, G q = none → K (rowP q [n]) (G.set q (cP fI [n]))) : buildSliceV tab 46 1 [(0, I n)] G (wkK K) := by
  simp only [buildSliceV, tab_46, tab_3]
  refine ⟨by omega, ?_⟩
  simp only [fillV, zerosA, List.replicate_succ, List.replicate_zero, List.flatten_cons, List.flatten_nil, List.append_nil, AV.cells, splice]
  simp only [List.length_cons, List.length_nil, Nat.reduceAdd, Nat.zero_mul, Nat.zero_add, Nat.le_refl, and_self, if_true, List.take_zero, List.nil_append, List.drop_succ_cons, List.drop_zero, List.append_nil]
  exact fun r hr => wkK.keep (h r hr)
def tr (f : List Sd) : List Int := sc (trL f f.length)
theorem tr_len (f : List Sd) : (tr f).length ≤ 2 * f.length + 1 := Nat.le_trans (sc_len _) (trL_len f f.length)
theorem tracked_row (f : List Sd) (g : GoodFm f) {H : Heap} {K : AV → Heap → Prop} (h : ∀ q G, RowR (tr f) (rowP q (tr f)) G [q] → New H G [q] → K (rowP q (tr f)) G) : CallT Tryz.prog 85 [Ds f] H K := by
  have hl := g.l1
  have hl0 := g.l0
  refine CallT.fin ?_
  have e0 : IntKind.i64.wrap ((f.length : Int) - 1) = f.length - 1 := i64_id (by omega) (by omega)
  refine W85_ok ?_; simp (maxSteps := 1000000) (disch := (first | assumption | (apply Ne.symm; assumption))) only [W85, vw0, vw1, vw2, vw3, vw4, vu0, vu1, ↓condV_t, ↓condV_f, cap_nil, allocV, splice, partV, buildV, eqFieldsV, eqS, tabs, TK.agg, reduceCtorEq, Array.toList, List.map_cons, List.map_nil, ↓reduceIte, List.length_map, Nat.reduceAdd, Nat.reduceLeDiff, Nat.reduceLT, Nat.reduceMul, Nat.reduceSub, Option.bind_some, Option.map_some, bndV, numV, eI, eU, e8, eB, AV.isCell, Int.reduceToNat, Int.reduceSub, Int.reduceAdd, Int.reduceNeg, e0]
  refine lit1r (n := (f.length : Int) - 1) fun q0 hq0 => ?_
  have st := (St.nil H).cell hq0 (cP fI (trL f 0))
  have ez : [(f.length : Int) - 1] = trL f 0 := by simp [trL]
  rw [ez]
  generalize H.set q0 (cP fI (trL f 0)) = G at st ⊢
  refine Pu.use (operandIndexes_spec f g) ?_
  (try simp (maxSteps := 1000000) (disch := (first | assumption | (apply Ne.symm; assumption))) only [vw0, vw1, vw2, vw3, vw4, vu0, vu1, ↓condV_t, ↓condV_f, cap_nil, allocV, splice, partV, buildV, eqFieldsV, eqS, tabs, TK.agg, reduceCtorEq, Array.toList, List.map_cons, List.map_nil, ↓reduceIte, List.length_map, Nat.reduceAdd, Nat.reduceLeDiff, Nat.reduceLT, Nat.reduceMul, Nat.reduceSub, Option.bind_some, Option.map_some, bndV, numV, eI, eU, e8, eB, AV.isCell, Int.reduceToNat, Int.reduceSub, Int.reduceAdd, Int.reduceNeg])
  refine L85_0_rule ((0 : Nat), q0, G) (fun s => rowP s.2.1 (trL f s.1)) (fun s => I s.1) (fun s => s.2.2)
    (fun s => s.1 ≤ f.length ∧ St H [cellT s.2.1 (cP fI (trL f s.1))] s.2.2) (fun s => f.length - s.1)
    ⟨⟨by simp, st⟩, .refl _, .refl _, Heap.le_refl _⟩ ?_
  clear st
  rintro ⟨i, q, G⟩ ⟨hi, st⟩
  dsimp only at hi st
  have htl := trL_len f i
  (try simp (maxSteps := 1000000) (disch := (first | assumption | (apply Ne.symm; assumption))) only [vw0, vw1, vw2, vw3, vw4, vu0, vu1, ↓condV_t, ↓condV_f, cap_nil, allocV, splice, partV, buildV, eqFieldsV, eqS, tabs, TK.agg, reduceCtorEq, Array.toList, List.map_cons, List.map_nil, ↓reduceIte, List.length_map, Nat.reduceAdd, Nat.reduceLeDiff, Nat.reduceLT, Nat.reduceMul, Nat.reduceSub, Option.bind_some, Option.map_some, bndV, numV, eI, eU, e8, eB, AV.isCell, Int.reduceToNat, Int.reduceSub, Int.reduceAdd, Int.reduceNeg, B85_0])
  refine ⟨fun h1 => ⟨by omega, h1, ?_⟩, fun h1 => ?_⟩
  · have hlt : i < f.length := by omega
    have hok := g.ok i hlt
    have hsucc := trL_succ f i
    have e5 : IntKind.i64.wrap ((i : Int) + 1) = ((i + 1 : Nat) : Int) := by rw [i64_id (by omega) (by omega)]; simp
    have hog := opsA_get f hlt
    have hol := opsA_len f f.length
    have hat : trAt f i = if (f.getD i default).op = 7 ∨ (f.getD i default).op = 8 then [(i : Int), (i : Int) - 1] else if (f.getD i default).op = 4 then [(i : Int) - 1] else [] := rfl
    have hop2 : (f.getD i default).op = 7 ∨ (f.getD i default).op = 8 → opsF f i = [(tst f (i - 1) : Int) - 1, (i : Int) - 1] := fun h => by
      have : need (f.getD i default).op = 2 := by rcases h with h | h <;> rw [h] <;> rfl
      rw [opsF, if_neg (by omega), if_neg (by omega)]
    have hop1 : (f.getD i default).op = 4 → opsF f i = [(i : Int) - 1] := fun h => by
      have : need (f.getD i default).op = 1 := by rw [h]; rfl
      rw [opsF, if_neg (by omega), if_pos this]
    generalize f.getD i default = y at hat hop1 hop2 hok ⊢
    intro r hr
    replace st := st.cell hr [I y.op, I y.n]
    generalize G.set r [I y.op, I y.n] = G2 at st ⊢
    (try simp (maxSteps := 1000000) (disch := (first | assumption | (apply Ne.symm; assumption))) only [vw0, vw1, vw2, vw3, vw4, vu0, vu1, ↓condV_t, ↓condV_f, cap_nil, allocV, splice, partV, buildV, eqFieldsV, eqS, tabs, TK.agg, reduceCtorEq, Array.toList, List.map_cons, List.map_nil, ↓reduceIte, List.length_map, Nat.reduceAdd, Nat.reduceLeDiff, Nat.reduceLT, Nat.reduceMul, Nat.reduceSub, Option.bind_some, Option.map_some, bndV, numV, eI, eU, e8, eB, AV.isCell, Int.reduceToNat, Int.reduceSub, Int.reduceAdd, Int.reduceNeg, load_at (st.get 0 rfl)])
    have key : ∀ b : Bool, (b = true ↔ (y.op = 7 ∨ y.op = 8)) → ∀ N : AV → AV → Heap → Prop, (∀ q' G', St H [cellT q' (cP fI (trL f (i + 1)))] G' → N (rowP q' (trL f (i + 1))) (I ((i + 1 : Nat) : Int)) G') →
        J85_1 (wkK K) N (rowP q (trL f i)) (Ls (opsA f f.length)) (I i) (Ds f) (I f.length) (I i) (I y.op) (B b) G2 := by
      intro b hb N hN
      (try simp (maxSteps := 1000000) (disch := (first | assumption | (apply Ne.symm; assumption))) only [vw0, vw1, vw2, vw3, vw4, vu0, vu1, ↓condV_t, ↓condV_f, cap_nil, allocV, splice, partV, buildV, eqFieldsV, eqS, tabs, TK.agg, reduceCtorEq, Array.toList, List.map_cons, List.map_nil, ↓reduceIte, List.length_map, Nat.reduceAdd, Nat.reduceLeDiff, Nat.reduceLT, Nat.reduceMul, Nat.reduceSub, Option.bind_some, Option.map_some, bndV, numV, eI, eU, e8, eB, AV.isCell, Int.reduceToNat, Int.reduceSub, Int.reduceAdd, Int.reduceNeg, J85_1, e5])
      have e6 : trL f i ++ trAt f i = trL f (i + 1) := hsucc.symm
      refine ⟨fun h2 => ?_, fun h2 => ⟨fun h4 => ?_, fun h4 => ?_⟩⟩
      · have h7 := hb.1 h2
        have ho := hop2 h7
        rw [hat, if_pos h7] at e6
        rw [hog, ho]
        refine ⟨by omega, by rw [hol]; omega, by omega, by simp, ?_⟩
        refine lit2 tab_46 rfl tab_3 ⟨rfl, rfl⟩ ?_
        refine st_appI (ys := [(i : Int), (i : Int) - 1]) st 1 rfl (by simp only [List.length_cons, List.length_nil]; omega) fun q' G' hq' st => ?_
        rw [e6] at st ⊢
        exact hN _ _ st.drop
      · have h7 : ¬ (y.op = 7 ∨ y.op = 8) := fun h => by rw [hb.2 h] at h2; cases h2
        rw [hat, if_neg h7, if_pos h4] at e6
        rw [hog, hop1 h4]
        refine ⟨by omega, by rw [hol]; omega, by omega, by simp, ?_⟩
        refine lit1 tab_46 rfl tab_3 ⟨rfl, rfl⟩ ?_
        refine st_appI (ys := [(i : Int) - 1]) st 1 rfl (by simp only [List.length_cons, List.length_nil]; omega) fun q' G' hq' st => ?_
        rw [e6] at st ⊢
        exact hN _ _ st.drop
      · have h7 : ¬ (y.op = 7 ∨ y.op = 8) := fun h => by rw [hb.2 h] at h2; cases h2
        rw [hat, if_neg h7, if_neg h4, List.append_nil] at e6
        rw [e6] at st ⊢
        exact hN _ _ st.drop
    refine ⟨fun h7 => key (decide (y.op = 7)) (by simp [h7]) _ fun q' G' st => ⟨(i + 1, q', G'), ⟨by simp only; omega, st⟩, by simp only; omega, .refl _, .refl _, Heap.le_refl _⟩, fun h7 => key (decide (y.op = 8)) (by simp [h7]) _ fun q' G' st => ⟨(i + 1, q', G'), ⟨by simp only; omega, st⟩, by simp only; omega, .refl _, .refl _, Heap.le_refl _⟩⟩
  · have : i = f.length := by omega
    subst this
    have hq : G q = some (cP fI (trL f f.length)) := st.get 0 rfl
    have hsl : (srt (trL f f.length)).length = (trL f f.length).length := List.length_mergeSort ..
    refine Sort_row hq (by omega) ?_
    replace st := st.put 0 rfl (cP fI (srt (trL f f.length)))
    have hq : (G.set q (cP fI (srt (trL f f.length)))) q = some (cP fI (srt (trL f f.length))) := Heap.set_same _ _ _
    generalize G.set q (cP fI (srt (trL f f.length))) = G2 at st hq ⊢
    rw [show rowP q (trL f f.length) = rowP q (srt (trL f f.length)) by simp only [rowP, hsl]]
    refine Compact_row hq (by omega) ?_
    replace st := st.put 0 rfl (cP fI (tr f))
    exact wkK.keep (h q _ ⟨q, rfl, st.get 0 rfl, rfl⟩ ⟨st.ndT 0 rfl, st.fr _ (List.mem_cons_self ..), st.le⟩)
end Go.Proofs.YtgcklgeifdefhaaGreat
/- Specs: tracked nodes by the reference; answers that are a row and a word. -/
namespace Go.Proofs.YtgcklgeifdefhaaGreat
open Go Go.Sep Go.Pt
set_option linter.unusedSimpArgs false
set_option linter.unusedVariables false
attribute [local irreducible] CallT

def trQ (f : List Sd) (i : Nat) : List Int := (((List.range i).map (trAt f)).flatten).foldl put [(f.length : Int) - 1]
theorem trQ_succ (f : List Sd) (i : Nat) : trQ f (i + 1) = (trAt f i).foldl put (trQ f i) := by simp [trQ, List.range_succ, List.foldl_append]
theorem trQ_lt (f : List Sd) (i : Nat) : (trQ f i).Pairwise (· < ·) := (foldl_put _ _ (by simp)).1
theorem foldl_putlen (xs : List Int) : ∀ l, (xs.foldl put l).length ≤ l.length + xs.length := by
  induction xs with
  | nil => intro l; simp
  | cons a xs ih => intro l; have := ih (put l a); have := put_len l a; rw [List.foldl_cons, List.length_cons]; omega
theorem trQ_len (f : List Sd) (i : Nat) : (trQ f i).length ≤ 2 * i + 1 := by
  have h1 := foldl_putlen (((List.range i).map (trAt f)).flatten) [(f.length : Int) - 1]
  have h2 := trL_len f i
  rw [trL, List.length_cons] at h2
  rw [List.length_singleton] at h1
  unfold trQ; omega
theorem trQ_all (f : List Sd) : trQ f f.length = tr f := by
  have h := foldl_put (((List.range f.length).map (trAt f)).flatten) [(f.length : Int) - 1] (by simp)
  refine rise_ext h.1 (sc_lt _) fun x => ?_
  unfold trQ tr
  rw [h.2, sc_mem, trL, List.mem_cons]
  simp
theorem l13Tracked_spec (f : List Sd) (g : GoodFm f) : Pu Tryz.prog 78 [Ds f] (Is (tr f)) := by
  have hl := g.l1
  have hl0 := g.l0
  refine Pu.of fun H => ?_
  have e0 : IntKind.i64.wrap ((f.length : Int) - 1) = f.length - 1 := i64_id (by omega) (by omega)
  refine W78_ok ?_; simp (maxSteps := 1000000) (disch := (first | assumption | (apply Ne.symm; assumption))) only [W78, vw0, vw1, vw2, vw3, vw4, vu0, vu1, ↓condV_t, ↓condV_f, cap_nil, allocV, splice, partV, buildV, eqFieldsV, eqS, tabs, TK.agg, reduceCtorEq, Array.toList, List.map_cons, List.map_nil, ↓reduceIte, List.length_map, Nat.reduceAdd, Nat.reduceLeDiff, Nat.reduceLT, Nat.reduceMul, Nat.reduceSub, Option.bind_some, Option.map_some, bndV, numV, eI, eU, e8, eB, AV.isCell, Int.reduceToNat, Int.reduceSub, Int.reduceAdd, Int.reduceNeg, e0]
  refine lit1 tab_46 rfl tab_3 ⟨rfl, rfl⟩ ?_
  (try simp (maxSteps := 1000000) (disch := (first | assumption | (apply Ne.symm; assumption))) only [vw0, vw1, vw2, vw3, vw4, vu0, vu1, ↓condV_t, ↓condV_f, cap_nil, allocV, splice, partV, buildV, eqFieldsV, eqS, tabs, TK.agg, reduceCtorEq, Array.toList, List.map_cons, List.map_nil, ↓reduceIte, List.length_map, Nat.reduceAdd, Nat.reduceLeDiff, Nat.reduceLT, Nat.reduceMul, Nat.reduceSub, Option.bind_some, Option.map_some, bndV, numV, eI, eU, e8, eB, AV.isCell, Int.reduceToNat, Int.reduceSub, Int.reduceAdd, Int.reduceNeg])
  refine L78_0_rule (0 : Nat) (fun i => Is (trQ f i)) (fun i => I i) (fun _ => H) (fun i => i ≤ f.length) (fun i => f.length - i) ⟨by omega, .refl _, .refl _, Heap.le_refl _⟩ ?_
  intro i hi
  have htl := trQ_len f i
  have hlt := trQ_lt f i
  (try simp (maxSteps := 1000000) (disch := (first | assumption | (apply Ne.symm; assumption))) only [vw0, vw1, vw2, vw3, vw4, vu0, vu1, ↓condV_t, ↓condV_f, cap_nil, allocV, splice, partV, buildV, eqFieldsV, eqS, tabs, TK.agg, reduceCtorEq, Array.toList, List.map_cons, List.map_nil, ↓reduceIte, List.length_map, Nat.reduceAdd, Nat.reduceLeDiff, Nat.reduceLT, Nat.reduceMul, Nat.reduceSub, Option.bind_some, Option.map_some, bndV, numV, eI, eU, e8, eB, AV.isCell, Int.reduceToNat, Int.reduceSub, Int.reduceAdd, Int.reduceNeg, B78_0])
  refine ⟨fun h1 => ⟨by omega, h1, ?_⟩, fun h1 => ?_⟩
  · have hlt : i < f.length := by omega
    have e5 : IntKind.i64.wrap ((i : Int) + 1) = ((i + 1 : Nat) : Int) := by rw [i64_id (by omega) (by omega)]; simp
    have e7 : IntKind.i64.wrap ((i : Int) - 1) = (i : Int) - 1 := i64_id (by omega) (by omega)
    have hsucc := trQ_succ f i
    have hat : trAt f i = if (f.getD i default).op = 7 ∨ (f.getD i default).op = 8 then [(i : Int), (i : Int) - 1] else if (f.getD i default).op = 4 then [(i : Int) - 1] else [] := rfl
    generalize f.getD i default = y at hat ⊢
    intro r hr
    have hle := Heap.le_set (b := [I y.op, I y.n]) hr
    generalize H.set r [I y.op, I y.n] = G at hle ⊢
    have key : ∀ b : Bool, (b = true ↔ (y.op = 7 ∨ y.op = 8)) → ∀ (K N), (∀ G', Heap.le G G' → N (Is (trQ f (i + 1))) (I ((i + 1 : Nat) : Int)) G') →
        J78_1 K N (Is (trQ f i)) (I i) (Ds f) (I f.length) (I i) (I y.op) (B b) G := by
      intro b hb K N hN
      (try simp (maxSteps := 1000000) (disch := (first | assumption | (apply Ne.symm; assumption))) only [vw0, vw1, vw2, vw3, vw4, vu0, vu1, ↓condV_t, ↓condV_f, cap_nil, allocV, splice, partV, buildV, eqFieldsV, eqS, tabs, TK.agg, reduceCtorEq, Array.toList, List.map_cons, List.map_nil, ↓reduceIte, List.length_map, Nat.reduceAdd, Nat.reduceLeDiff, Nat.reduceLT, Nat.reduceMul, Nat.reduceSub, Option.bind_some, Option.map_some, bndV, numV, eI, eU, e8, eB, AV.isCell, Int.reduceToNat, Int.reduceSub, Int.reduceAdd, Int.reduceNeg, J78_1, e5, e7])
      refine ⟨fun h2 => ?_, fun h2 => ⟨fun h4 => ?_, fun h4 => ?_⟩⟩
      · rw [hat, if_pos (hb.1 h2)] at hsucc
        refine Pu.use (l1Put_spec _ (i : Int) ‹_› (by omega)) ?_
        have hpl := put_len (trQ f i) (i : Int)
        refine Pu.use (l1Put_spec _ ((i : Int) - 1) (put_lt _ ‹_›) (by omega)) ?_
        rw [show put (put (trQ f i) i) (i - 1) = trQ f (i + 1) by rw [hsucc]; rfl]
        (try simp (maxSteps := 1000000) (disch := (first | assumption | (apply Ne.symm; assumption))) only [vw0, vw1, vw2, vw3, vw4, vu0, vu1, ↓condV_t, ↓condV_f, cap_nil, allocV, splice, partV, buildV, eqFieldsV, eqS, tabs, TK.agg, reduceCtorEq, Array.toList, List.map_cons, List.map_nil, ↓reduceIte, List.length_map, Nat.reduceAdd, Nat.reduceLeDiff, Nat.reduceLT, Nat.reduceMul, Nat.reduceSub, Option.bind_some, Option.map_some, bndV, numV, eI, eU, e8, eB, AV.isCell, Int.reduceToNat, Int.reduceSub, Int.reduceAdd, Int.reduceNeg, e5])
        exact hN G (Heap.le_refl _)
      · have h7 : ¬ (y.op = 7 ∨ y.op = 8) := fun h => by rw [hb.2 h] at h2; cases h2
        rw [hat, if_neg h7, if_pos h4] at hsucc
        refine Pu.use (l1Put_spec _ ((i : Int) - 1) ‹_› (by omega)) ?_
        rw [show put (trQ f i) (i - 1) = trQ f (i + 1) by rw [hsucc]; rfl]
        (try simp (maxSteps := 1000000) (disch := (first | assumption | (apply Ne.symm; assumption))) only [vw0, vw1, vw2, vw3, vw4, vu0, vu1, ↓condV_t, ↓condV_f, cap_nil, allocV, splice, partV, buildV, eqFieldsV, eqS, tabs, TK.agg, reduceCtorEq, Array.toList, List.map_cons, List.map_nil, ↓reduceIte, List.length_map, Nat.reduceAdd, Nat.reduceLeDiff, Nat.reduceLT, Nat.reduceMul, Nat.reduceSub, Option.bind_some, Option.map_some, bndV, numV, eI, eU, e8, eB, AV.isCell, Int.reduceToNat, Int.reduceSub, Int.reduceAdd, Int.reduceNeg, e5])
        exact hN G (Heap.le_refl _)
      · have h7 : ¬ (y.op = 7 ∨ y.op = 8) := fun h => by rw [hb.2 h] at h2; cases h2
        rw [hat, if_neg h7, if_neg h4] at hsucc
        rw [show trQ f i = trQ f (i + 1) by rw [hsucc]; rfl]
        exact hN G (Heap.le_refl _)
    refine ⟨fun h7 => key (decide (y.op = 7)) (by simp [h7]) _ _ fun G' hg => ⟨i + 1, by omega, by omega, .refl _, .refl _, Heap.le_trans hle hg⟩, fun h7 => key (decide (y.op = 8)) (by simp [h7]) _ _ fun G' hg => ⟨i + 1, by omega, by omega, .refl _, .refl _, Heap.le_trans hle hg⟩⟩
  · have : i = f.length := by omega
    subst this
    rw [trQ_all]
def goodT (f : List Sd) : Bool := goodF f && decide ((tr f).length ≤ 5)
theorem isTracked_spec (f : List Sd) (hl : f.length ≤ 1048576) : Pu Tryz.prog 45 [Ds f] (B (goodT f)) := by
  refine Pu.of fun H => ?_
  refine W45_ok ?_; simp (maxSteps := 1000000) (disch := (first | assumption | (apply Ne.symm; assumption))) only [W45, vw0, vw1, vw2, vw3, vw4, vu0, vu1, ↓condV_t, ↓condV_f, cap_nil, allocV, splice, partV, buildV, eqFieldsV, eqS, tabs, TK.agg, reduceCtorEq, Array.toList, List.map_cons, List.map_nil, ↓reduceIte, List.length_map, Nat.reduceAdd, Nat.reduceLeDiff, Nat.reduceLT, Nat.reduceMul, Nat.reduceSub, Option.bind_some, Option.map_some, bndV, numV, eI, eU, e8, eB, AV.isCell, Int.reduceToNat, Int.reduceSub, Int.reduceAdd, Int.reduceNeg]
  refine Pu.use (GoodSaid_impl f hl) ?_
  cases hg : goodF f
  · (try simp (maxSteps := 1000000) (disch := (first | assumption | (apply Ne.symm; assumption))) only [vw0, vw1, vw2, vw3, vw4, vu0, vu1, ↓condV_t, ↓condV_f, cap_nil, allocV, splice, partV, buildV, eqFieldsV, eqS, tabs, TK.agg, reduceCtorEq, Array.toList, List.map_cons, List.map_nil, ↓reduceIte, List.length_map, Nat.reduceAdd, Nat.reduceLeDiff, Nat.reduceLT, Nat.reduceMul, Nat.reduceSub, Option.bind_some, Option.map_some, bndV, numV, eI, eU, e8, eB, AV.isCell, Int.reduceToNat, Int.reduceSub, Int.reduceAdd, Int.reduceNeg])
    rw [goodT, hg]
    first | rfl | exact ⟨rfl, Heap.le_refl _⟩
  · (try simp (maxSteps := 1000000) (disch := (first | assumption | (apply Ne.symm; assumption))) only [vw0, vw1, vw2, vw3, vw4, vu0, vu1, ↓condV_t, ↓condV_f, cap_nil, allocV, splice, partV, buildV, eqFieldsV, eqS, tabs, TK.agg, reduceCtorEq, Array.toList, List.map_cons, List.map_nil, ↓reduceIte, List.length_map, Nat.reduceAdd, Nat.reduceLeDiff, Nat.reduceLT, Nat.reduceMul, Nat.reduceSub, Option.bind_some, Option.map_some, bndV, numV, eI, eU, e8, eB, AV.isCell, Int.reduceToNat, Int.reduceSub, Int.reduceAdd, Int.reduceNeg])
    refine tracked_row f (goodF_iff.1 hg) fun q G hr hn => ?_
    (try simp (maxSteps := 1000000) (disch := (first | assumption | (apply Ne.symm; assumption))) only [vw0, vw1, vw2, vw3, vw4, vu0, vu1, ↓condV_t, ↓condV_f, cap_nil, allocV, splice, partV, buildV, eqFieldsV, eqS, tabs, TK.agg, reduceCtorEq, Array.toList, List.map_cons, List.map_nil, ↓reduceIte, List.length_map, Nat.reduceAdd, Nat.reduceLeDiff, Nat.reduceLT, Nat.reduceMul, Nat.reduceSub, Option.bind_some, Option.map_some, bndV, numV, eI, eU, e8, eB, AV.isCell, Int.reduceToNat, Int.reduceSub, Int.reduceAdd, Int.reduceNeg])
    refine ⟨?_, hn.le⟩
    refine congrArg (fun b : Bool => B b) ?_
    rw [goodT, hg, Bool.true_and]
    rw [Bool.eq_iff_iff]; simp only [decide_eq_true_eq]; omega
theorem l13Good_spec (f : List Sd) (hl : f.length ≤ 1048576) : Pu Tryz.prog 39 [Ds f] (B (goodT f)) := by
  refine Pu.of fun H => ?_
  refine W39_ok ?_; simp (maxSteps := 1000000) (disch := (first | assumption | (apply Ne.symm; assumption))) only [W39, vw0, vw1, vw2, vw3, vw4, vu0, vu1, ↓condV_t, ↓condV_f, cap_nil, allocV, splice, partV, buildV, eqFieldsV, eqS, tabs, TK.agg, reduceCtorEq, Array.toList, List.map_cons, List.map_nil, ↓reduceIte, List.length_map, Nat.reduceAdd, Nat.reduceLeDiff, Nat.reduceLT, Nat.reduceMul, Nat.reduceSub, Option.bind_some, Option.map_some, bndV, numV, eI, eU, e8, eB, AV.isCell, Int.reduceToNat, Int.reduceSub, Int.reduceAdd, Int.reduceNeg]
  refine Pu.use (GoodSaid_spec f hl) ?_
  cases hg : goodF f
  · (try simp (maxSteps := 1000000) (disch := (first | assumption | (apply Ne.symm; assumption))) only [vw0, vw1, vw2, vw3, vw4, vu0, vu1, ↓condV_t, ↓condV_f, cap_nil, allocV, splice, partV, buildV, eqFieldsV, eqS, tabs, TK.agg, reduceCtorEq, Array.toList, List.map_cons, List.map_nil, ↓reduceIte, List.length_map, Nat.reduceAdd, Nat.reduceLeDiff, Nat.reduceLT, Nat.reduceMul, Nat.reduceSub, Option.bind_some, Option.map_some, bndV, numV, eI, eU, e8, eB, AV.isCell, Int.reduceToNat, Int.reduceSub, Int.reduceAdd, Int.reduceNeg])
    rw [goodT, hg]
    first | rfl | exact ⟨rfl, Heap.le_refl _⟩
  · (try simp (maxSteps := 1000000) (disch := (first | assumption | (apply Ne.symm; assumption))) only [vw0, vw1, vw2, vw3, vw4, vu0, vu1, ↓condV_t, ↓condV_f, cap_nil, allocV, splice, partV, buildV, eqFieldsV, eqS, tabs, TK.agg, reduceCtorEq, Array.toList, List.map_cons, List.map_nil, ↓reduceIte, List.length_map, Nat.reduceAdd, Nat.reduceLeDiff, Nat.reduceLT, Nat.reduceMul, Nat.reduceSub, Option.bind_some, Option.map_some, bndV, numV, eI, eU, e8, eB, AV.isCell, Int.reduceToNat, Int.reduceSub, Int.reduceAdd, Int.reduceNeg])
    refine Pu.use (l13Tracked_spec f (goodF_iff.1 hg)) ?_
    (try simp (maxSteps := 1000000) (disch := (first | assumption | (apply Ne.symm; assumption))) only [vw0, vw1, vw2, vw3, vw4, vu0, vu1, ↓condV_t, ↓condV_f, cap_nil, allocV, splice, partV, buildV, eqFieldsV, eqS, tabs, TK.agg, reduceCtorEq, Array.toList, List.map_cons, List.map_nil, ↓reduceIte, List.length_map, Nat.reduceAdd, Nat.reduceLeDiff, Nat.reduceLT, Nat.reduceMul, Nat.reduceSub, Option.bind_some, Option.map_some, bndV, numV, eI, eU, e8, eB, AV.isCell, Int.reduceToNat, Int.reduceSub, Int.reduceAdd, Int.reduceNeg])
    refine congrArg (fun b : Bool => B b) ?_
    rw [goodT, hg, Bool.true_and]
    rw [Bool.eq_iff_iff]; simp only [decide_eq_true_eq]; omega
theorem goodT_facts {f : List Sd} (h : goodT f = true) : GoodFm f ∧ (tr f).length ≤ 5 := by
  rw [goodT, Bool.and_eq_true, decide_eq_true_eq] at h
  exact ⟨goodF_iff.1 h.1, h.2⟩
theorem tracked_spec (f : List Sd) (g : GoodFm f) : Pu Tryz.prog 85 [Ds f] (Is (tr f)) := by
  refine ⟨fun H => CallT.fin (tracked_row f g fun q G hr hn => ?_)⟩
  obtain ⟨q', e, hq, _⟩ := hr
  injection e with e; subst e
  have hHq := hn.fr q (by simp)
  refine fin_int hHq fun y b hb => ?_
  by_cases e : y = q
  · subst e; rw [Heap.set_same] at hb; rw [hq]; exact hb
  · rw [Heap.set_other e] at hb; exact hn.le y b hb
/-- An answer that is a row of numbers of one's own, and a word. -/
def RowB (l : List Int) (ok : Bool) (r : AV) (G : Heap) (D : List Nat) : Prop := ∃ q, r = .tup [rowP q l, B ok] ∧ G q = some (cP fI l) ∧ D = [q]
theorem RowB.res (l : List Int) (ok : Bool) : ResT (RowB l ok) := by
  refine ⟨?_, ?_, ?_⟩
  · rintro r G G' D ⟨q, rfl, hq, rfl⟩ hf
    exact ⟨q, rfl, hf q (by simp) _ hq, rfl⟩
  · rintro r G D ⟨q, rfl, hq, rfl⟩
    refine ⟨.inl ⟨_, rfl, fun u hu => ?_⟩, fun y hy bs hb c hc => ?_⟩
    · rcases List.mem_cons.1 hu with rfl | hu
      · exact .inr ⟨.inl ⟨_, _, _, _, rfl⟩, fun _ => rfl⟩
      · rw [List.mem_singleton] at hu; rw [hu]; exact .inr ⟨.p (.bool ok), fun _ => rfl⟩
    · rw [List.mem_singleton.1 hy, hq] at hb
      cases hb
      obtain ⟨x, _, rfl⟩ := List.mem_map.1 hc
      exact .p (.int _ _)
  · rintro r G D n G0 h0 ⟨q, rfl, hq, rfl⟩
    obtain ⟨q', e, h1, _⟩ := (RowR.res l).sh h0 ⟨q, rfl, hq, rfl⟩
    have e2 : q' = q + n := by
      have h1 : sh2 n (rowP q l) = .sl (q + n) 1 0 l.length := rfl
      rw [h1] at e
      injection e with e; exact e.symm
    subst e2
    exact ⟨q + n, rfl, h1, rfl⟩
def trR (f : List Sd) : List Int × Bool := if goodT f then (tr f, true) else ([], false)
end Go.Proofs.YtgcklgeifdefhaaGreat
/- Questions: sizes, copies, comparisons; which are good; the law on good questions. -/
namespace Go.Proofs.YtgcklgeifdefhaaGreat
open Go Go.Sep Go.Pt
set_option linter.unusedSimpArgs false
set_option linter.unusedVariables false
attribute [local irreducible] CallT

structure Qn where
  prog : Pg
  asks : List (List Nd)
  say : List Sd
abbrev aQ (q : Qn) : AV := .agg [I q.prog.wide, I q.prog.vars, Ns q.prog.start, Cms q.prog.cmds, Nss q.asks, Ds q.say]
def okQ (q : Qn) : Prop := okPg q.prog ∧ okNss q.asks ∧ ok q.say.length
def nQ (q : Qn) : Prop := nPg q.prog ∧ nTs q.asks
def totQ (q : Qn) : Nat := totPg q.prog + totNss q.asks + q.say.length
def smQ (q : Qn) : Prop := smPg q.prog ∧ smNss q.asks ∧ q.say.length ≤ 1048576
theorem smQ_of_tot {q : Qn} (h : (totQ q : Int) ≤ 1048576) : smQ q := by
  have h0 : totQ q ≤ 1048576 := by omega
  unfold totQ at h0
  exact ⟨sm_of_tot (by omega), smNss_of_tot (by omega), by omega⟩
theorem szQuestion_spec (q : Qn) (left : Int) (h0 : 0 ≤ left) (h1 : left ≤ 1048576) (hl : okQ q) : Pu Tryz.prog 8 [aQ q, I left] (I (szR left (totQ q))) := by
  refine Pu.of fun H => ?_
  refine W8_ok ?_; simp (maxSteps := 1000000) (disch := (first | assumption | (apply Ne.symm; assumption))) only [W8, vw0, vw1, vw2, vw3, vw4, vu0, vu1, ↓condV_t, ↓condV_f, cap_nil, allocV, splice, partV, buildV, eqFieldsV, eqS, tabs, TK.agg, reduceCtorEq, Array.toList, List.map_cons, List.map_nil, ↓reduceIte, List.length_map, Nat.reduceAdd, Nat.reduceLeDiff, Nat.reduceLT, Nat.reduceMul, Nat.reduceSub, Option.bind_some, Option.map_some, bndV, numV, eI, eU, e8, eB, AV.isCell, Int.reduceToNat, Int.reduceSub, Int.reduceAdd, Int.reduceNeg]
  intro r hr
  refine Pu.use (szProgram_spec q.prog left h0 h1 hl.1) ?_
  (try simp (maxSteps := 1000000) (disch := (first | assumption | (apply Ne.symm; assumption))) only [vw0, vw1, vw2, vw3, vw4, vu0, vu1, ↓condV_t, ↓condV_f, cap_nil, allocV, splice, partV, buildV, eqFieldsV, eqS, tabs, TK.agg, reduceCtorEq, Array.toList, List.map_cons, List.map_nil, ↓reduceIte, List.length_map, Nat.reduceAdd, Nat.reduceLeDiff, Nat.reduceLT, Nat.reduceMul, Nat.reduceSub, Option.bind_some, Option.map_some, bndV, numV, eI, eU, e8, eB, AV.isCell, Int.reduceToNat, Int.reduceSub, Int.reduceAdd, Int.reduceNeg])
  refine ⟨fun h => ⟨?_, Heap.le_set hr⟩, fun h => ?_⟩
  · unfold szR at h
    rw [szR_neg]
    unfold totQ
    split at h <;> omega
  obtain ⟨t1, e1⟩ := szR_nonneg h
  rw [e1]
  refine Pu.use (szNodeSS_spec q.asks _ (by omega) (by omega) hl.2.1) ?_
  (try simp (maxSteps := 1000000) (disch := (first | assumption | (apply Ne.symm; assumption))) only [vw0, vw1, vw2, vw3, vw4, vu0, vu1, ↓condV_t, ↓condV_f, cap_nil, allocV, splice, partV, buildV, eqFieldsV, eqS, tabs, TK.agg, reduceCtorEq, Array.toList, List.map_cons, List.map_nil, ↓reduceIte, List.length_map, Nat.reduceAdd, Nat.reduceLeDiff, Nat.reduceLT, Nat.reduceMul, Nat.reduceSub, Option.bind_some, Option.map_some, bndV, numV, eI, eU, e8, eB, AV.isCell, Int.reduceToNat, Int.reduceSub, Int.reduceAdd, Int.reduceNeg])
  refine ⟨fun h => ⟨?_, Heap.le_set hr⟩, fun h => ?_⟩
  · unfold szR at h
    rw [szR_neg]
    unfold totQ
    split at h <;> omega
  obtain ⟨t2, e2⟩ := szR_nonneg h
  rw [e2]
  refine Pu.use (szSaidS_spec q.say _ (by omega) (by omega) hl.2.2) ?_
  (try simp (maxSteps := 1000000) (disch := (first | assumption | (apply Ne.symm; assumption))) only [vw0, vw1, vw2, vw3, vw4, vu0, vu1, ↓condV_t, ↓condV_f, cap_nil, allocV, splice, partV, buildV, eqFieldsV, eqS, tabs, TK.agg, reduceCtorEq, Array.toList, List.map_cons, List.map_nil, ↓reduceIte, List.length_map, Nat.reduceAdd, Nat.reduceLeDiff, Nat.reduceLT, Nat.reduceMul, Nat.reduceSub, Option.bind_some, Option.map_some, bndV, numV, eI, eU, e8, eB, AV.isCell, Int.reduceToNat, Int.reduceSub, Int.reduceAdd, Int.reduceNeg])
  refine ⟨fun h => ⟨?_, Heap.le_set hr⟩, fun h => ⟨?_, Heap.le_set hr⟩⟩
  · unfold szR at h
    rw [szR_neg]
    unfold totQ
    split at h <;> omega
  · obtain ⟨t3, e3⟩ := szR_nonneg h
    rw [e3, szR_pos (by unfold totQ; omega)]
    unfold totQ
    exact congrArg (fun n : Int => I n) (by omega)
theorem toQuestion_spec (q : Qn) (h : smQ q) : Pu Tryz.prog 10 [aQ q] (aQ q) := by
  refine Pu.of fun H => ?_
  refine W10_ok ?_; simp (maxSteps := 1000000) (disch := (first | assumption | (apply Ne.symm; assumption))) only [W10, vw0, vw1, vw2, vw3, vw4, vu0, vu1, ↓condV_t, ↓condV_f, cap_nil, allocV, splice, partV, buildV, eqFieldsV, eqS, tabs, TK.agg, reduceCtorEq, Array.toList, List.map_cons, List.map_nil, ↓reduceIte, List.length_map, Nat.reduceAdd, Nat.reduceLeDiff, Nat.reduceLT, Nat.reduceMul, Nat.reduceSub, Option.bind_some, Option.map_some, bndV, numV, eI, eU, e8, eB, AV.isCell, Int.reduceToNat, Int.reduceSub, Int.reduceAdd, Int.reduceNeg]
  intro r hr r1 n1 hr1 r2 n21 n2 hr2
  have nn1 : r ≠ r1 := Ne.symm n1
  have nn2 : r ≠ r2 := Ne.symm n2
  have nn21 : r1 ≠ r2 := Ne.symm n21
  (try simp (maxSteps := 1000000) (disch := (first | assumption | (apply Ne.symm; assumption))) only [vw0, vw1, vw2, vw3, vw4, vu0, vu1, ↓condV_t, ↓condV_f, cap_nil, allocV, splice, partV, buildV, eqFieldsV, eqS, tabs, TK.agg, reduceCtorEq, Array.toList, List.map_cons, List.map_nil, ↓reduceIte, List.length_map, Nat.reduceAdd, Nat.reduceLeDiff, Nat.reduceLT, Nat.reduceMul, Nat.reduceSub, Option.bind_some, Option.map_some, bndV, numV, eI, eU, e8, eB, AV.isCell, Int.reduceToNat, Int.reduceSub, Int.reduceAdd, Int.reduceNeg])
  refine Pu.use (toProgram_spec q.prog h.1) ?_
  (try simp (maxSteps := 1000000) (disch := (first | assumption | (apply Ne.symm; assumption))) only [vw0, vw1, vw2, vw3, vw4, vu0, vu1, ↓condV_t, ↓condV_f, cap_nil, allocV, splice, partV, buildV, eqFieldsV, eqS, tabs, TK.agg, reduceCtorEq, Array.toList, List.map_cons, List.map_nil, ↓reduceIte, List.length_map, Nat.reduceAdd, Nat.reduceLeDiff, Nat.reduceLT, Nat.reduceMul, Nat.reduceSub, Option.bind_some, Option.map_some, bndV, numV, eI, eU, e8, eB, AV.isCell, Int.reduceToNat, Int.reduceSub, Int.reduceAdd, Int.reduceNeg])
  refine Pu.use (toNodeSS_spec q.asks h.2.1) ?_
  (try simp (maxSteps := 1000000) (disch := (first | assumption | (apply Ne.symm; assumption))) only [vw0, vw1, vw2, vw3, vw4, vu0, vu1, ↓condV_t, ↓condV_f, cap_nil, allocV, splice, partV, buildV, eqFieldsV, eqS, tabs, TK.agg, reduceCtorEq, Array.toList, List.map_cons, List.map_nil, ↓reduceIte, List.length_map, Nat.reduceAdd, Nat.reduceLeDiff, Nat.reduceLT, Nat.reduceMul, Nat.reduceSub, Option.bind_some, Option.map_some, bndV, numV, eI, eU, e8, eB, AV.isCell, Int.reduceToNat, Int.reduceSub, Int.reduceAdd, Int.reduceNeg])
  refine Pu.use (toSaidS_spec q.say h.2.2) ?_
  (try simp (maxSteps := 1000000) (disch := (first | assumption | (apply Ne.symm; assumption))) only [vw0, vw1, vw2, vw3, vw4, vu0, vu1, ↓condV_t, ↓condV_f, cap_nil, allocV, splice, partV, buildV, eqFieldsV, eqS, tabs, TK.agg, reduceCtorEq, Array.toList, List.map_cons, List.map_nil, ↓reduceIte, List.length_map, Nat.reduceAdd, Nat.reduceLeDiff, Nat.reduceLT, Nat.reduceMul, Nat.reduceSub, Option.bind_some, Option.map_some, bndV, numV, eI, eU, e8, eB, AV.isCell, Int.reduceToNat, Int.reduceSub, Int.reduceAdd, Int.reduceNeg])
  (intro y b hy; simp only [Heap.set, Heap.del] at hy ⊢; (repeat' split at hy) <;> (repeat' split) <;> simp_all [cells])
theorem eqQuestion_spec (q : Qn) (h : smQ q) : Pu Tryz.prog 12 [aQ q, aQ q] (B true) := by
  refine Pu.of fun H => ?_
  refine W12_ok ?_; simp (maxSteps := 1000000) (disch := (first | assumption | (apply Ne.symm; assumption))) only [W12, vw0, vw1, vw2, vw3, vw4, vu0, vu1, ↓condV_t, ↓condV_f, cap_nil, allocV, splice, partV, buildV, eqFieldsV, eqS, tabs, TK.agg, reduceCtorEq, Array.toList, List.map_cons, List.map_nil, ↓reduceIte, List.length_map, Nat.reduceAdd, Nat.reduceLeDiff, Nat.reduceLT, Nat.reduceMul, Nat.reduceSub, Option.bind_some, Option.map_some, bndV, numV, eI, eU, e8, eB, AV.isCell, Int.reduceToNat, Int.reduceSub, Int.reduceAdd, Int.reduceNeg]
  intro r hr r2 n2 hr2
  have nn2 : r ≠ r2 := Ne.symm n2
  (try simp (maxSteps := 1000000) (disch := (first | assumption | (apply Ne.symm; assumption))) only [vw0, vw1, vw2, vw3, vw4, vu0, vu1, ↓condV_t, ↓condV_f, cap_nil, allocV, splice, partV, buildV, eqFieldsV, eqS, tabs, TK.agg, reduceCtorEq, Array.toList, List.map_cons, List.map_nil, ↓reduceIte, List.length_map, Nat.reduceAdd, Nat.reduceLeDiff, Nat.reduceLT, Nat.reduceMul, Nat.reduceSub, Option.bind_some, Option.map_some, bndV, numV, eI, eU, e8, eB, AV.isCell, Int.reduceToNat, Int.reduceSub, Int.reduceAdd, Int.reduceNeg])
  refine Pu.use (eqProgram_spec q.prog h.1) ?_
  (try simp (maxSteps := 1000000) (disch := (first | assumption | (apply Ne.symm; assumption))) only [vw0, vw1, vw2, vw3, vw4, vu0, vu1, ↓condV_t, ↓condV_f, cap_nil, allocV, splice, partV, buildV, eqFieldsV, eqS, tabs, TK.agg, reduceCtorEq, Array.toList, List.map_cons, List.map_nil, ↓reduceIte, List.length_map, Nat.reduceAdd, Nat.reduceLeDiff, Nat.reduceLT, Nat.reduceMul, Nat.reduceSub, Option.bind_some, Option.map_some, bndV, numV, eI, eU, e8, eB, AV.isCell, Int.reduceToNat, Int.reduceSub, Int.reduceAdd, Int.reduceNeg])
  refine Pu.use (eqNodeSS_spec q.asks h.2.1) ?_
  (try simp (maxSteps := 1000000) (disch := (first | assumption | (apply Ne.symm; assumption))) only [vw0, vw1, vw2, vw3, vw4, vu0, vu1, ↓condV_t, ↓condV_f, cap_nil, allocV, splice, partV, buildV, eqFieldsV, eqS, tabs, TK.agg, reduceCtorEq, Array.toList, List.map_cons, List.map_nil, ↓reduceIte, List.length_map, Nat.reduceAdd, Nat.reduceLeDiff, Nat.reduceLT, Nat.reduceMul, Nat.reduceSub, Option.bind_some, Option.map_some, bndV, numV, eI, eU, e8, eB, AV.isCell, Int.reduceToNat, Int.reduceSub, Int.reduceAdd, Int.reduceNeg])
  refine Pu.use (eqSaidS_spec q.say h.2.2) ?_
  (try simp (maxSteps := 1000000) (disch := (first | assumption | (apply Ne.symm; assumption))) only [vw0, vw1, vw2, vw3, vw4, vu0, vu1, ↓condV_t, ↓condV_f, cap_nil, allocV, splice, partV, buildV, eqFieldsV, eqS, tabs, TK.agg, reduceCtorEq, Array.toList, List.map_cons, List.map_nil, ↓reduceIte, List.length_map, Nat.reduceAdd, Nat.reduceLeDiff, Nat.reduceLT, Nat.reduceMul, Nat.reduceSub, Option.bind_some, Option.map_some, bndV, numV, eI, eU, e8, eB, AV.isCell, Int.reduceToNat, Int.reduceSub, Int.reduceAdd, Int.reduceNeg])
  exact Heap.le_setN (Heap.le_set hr) hr2
def goodQ (q : Qn) : Bool := smallP q.prog && (decide (q.asks.length = 3) && (goodT q.say && q.asks.all fun t => decide (kind q.prog.wide q.prog.vars t = 2)))
def vQ (q : Qn) : Prop := vPg q.prog ∧ (∀ t ∈ q.asks, vT t) ∧ q.asks.length ≤ 1048576 ∧ q.say.length ≤ 1048576
theorem vQ_of {q : Qn} (h : smQ q) (hn : nQ q) : vQ q := ⟨v_of h.1 hn.1, vT_of h.2.1 hn.2, h.2.1.1, h.2.2⟩

theorem GoodQuestion1_at (p : Pg) (t : List Nd) (ht : vT t) (r : Nat) {cs : List AV} {H : Heap} (hr : H r = some (I p.wide :: I p.vars :: Ns p.start :: Cms p.cmds :: cs)) : PuAt Tryz.prog 47 [Ns t, .ptr r 0] H (B (!decide (kind p.wide p.vars t = 2))) := by
  intro K hK
  refine W47_ok ?_; simp (maxSteps := 1000000) (disch := (first | assumption | (apply Ne.symm; assumption))) only [W47, vw0, vw1, vw2, vw3, vw4, vu0, vu1, ↓condV_t, ↓condV_f, cap_nil, allocV, splice, partV, buildV, eqFieldsV, eqS, tabs, TK.agg, reduceCtorEq, Array.toList, List.map_cons, List.map_nil, ↓reduceIte, List.length_map, Nat.reduceAdd, Nat.reduceLeDiff, Nat.reduceLT, Nat.reduceMul, Nat.reduceSub, Option.bind_some, Option.map_some, bndV, numV, eI, eU, e8, eB, AV.isCell, Int.reduceToNat, Int.reduceSub, Int.reduceAdd, Int.reduceNeg, load_at hr]
  refine Pu.use (isCondition_spec p t ht) ?_
  (try simp (maxSteps := 1000000) (disch := (first | assumption | (apply Ne.symm; assumption))) only [vw0, vw1, vw2, vw3, vw4, vu0, vu1, ↓condV_t, ↓condV_f, cap_nil, allocV, splice, partV, buildV, eqFieldsV, eqS, tabs, TK.agg, reduceCtorEq, Array.toList, List.map_cons, List.map_nil, ↓reduceIte, List.length_map, Nat.reduceAdd, Nat.reduceLeDiff, Nat.reduceLT, Nat.reduceMul, Nat.reduceSub, Option.bind_some, Option.map_some, bndV, numV, eI, eU, e8, eB, AV.isCell, Int.reduceToNat, Int.reduceSub, Int.reduceAdd, Int.reduceNeg])
  cases h : decide (kind p.wide p.vars t = 2) <;> simp_all
theorem GoodQuestion_impl (q : Qn) (h : vQ q) : Pu Tryz.prog 11 [aQ q] (B (goodQ q)) := by
  refine Pu.of fun H => ?_
  refine W11_ok ?_; simp (maxSteps := 1000000) (disch := (first | assumption | (apply Ne.symm; assumption))) only [W11, vw0, vw1, vw2, vw3, vw4, vu0, vu1, ↓condV_t, ↓condV_f, cap_nil, allocV, splice, partV, buildV, eqFieldsV, eqS, tabs, TK.agg, reduceCtorEq, Array.toList, List.map_cons, List.map_nil, ↓reduceIte, List.length_map, Nat.reduceAdd, Nat.reduceLeDiff, Nat.reduceLT, Nat.reduceMul, Nat.reduceSub, Option.bind_some, Option.map_some, bndV, numV, eI, eU, e8, eB, AV.isCell, Int.reduceToNat, Int.reduceSub, Int.reduceAdd, Int.reduceNeg]
  intro r hr
  refine Pu.use (isSmall_spec q.prog h.1) ?_
  have hle : ∀ z, Heap.le H (H.set r z) := fun z => Heap.le_set hr
  cases h1 : smallP q.prog
  · (try simp (maxSteps := 1000000) (disch := (first | assumption | (apply Ne.symm; assumption))) only [vw0, vw1, vw2, vw3, vw4, vu0, vu1, ↓condV_t, ↓condV_f, cap_nil, allocV, splice, partV, buildV, eqFieldsV, eqS, tabs, TK.agg, reduceCtorEq, Array.toList, List.map_cons, List.map_nil, ↓reduceIte, List.length_map, Nat.reduceAdd, Nat.reduceLeDiff, Nat.reduceLT, Nat.reduceMul, Nat.reduceSub, Option.bind_some, Option.map_some, bndV, numV, eI, eU, e8, eB, AV.isCell, Int.reduceToNat, Int.reduceSub, Int.reduceAdd, Int.reduceNeg])
    exact ⟨by simp only [goodQ, h1, Bool.false_and], hle _⟩
  (try simp (maxSteps := 1000000) (disch := (first | assumption | (apply Ne.symm; assumption))) only [vw0, vw1, vw2, vw3, vw4, vu0, vu1, ↓condV_t, ↓condV_f, cap_nil, allocV, splice, partV, buildV, eqFieldsV, eqS, tabs, TK.agg, reduceCtorEq, Array.toList, List.map_cons, List.map_nil, ↓reduceIte, List.length_map, Nat.reduceAdd, Nat.reduceLeDiff, Nat.reduceLT, Nat.reduceMul, Nat.reduceSub, Option.bind_some, Option.map_some, bndV, numV, eI, eU, e8, eB, AV.isCell, Int.reduceToNat, Int.reduceSub, Int.reduceAdd, Int.reduceNeg])
  refine ⟨fun h2 => ⟨?_, hle _⟩, fun h2 => ?_⟩
  · have : decide (q.asks.length = 3) = false := by simp; omega
    simp only [goodQ, this, Bool.false_and, Bool.and_false]
  have h2' : decide (q.asks.length = 3) = true := by simp; omega
  refine Pu.use (isTracked_spec q.say h.2.2.2) ?_
  cases h3 : goodT q.say
  · (try simp (maxSteps := 1000000) (disch := (first | assumption | (apply Ne.symm; assumption))) only [vw0, vw1, vw2, vw3, vw4, vu0, vu1, ↓condV_t, ↓condV_f, cap_nil, allocV, splice, partV, buildV, eqFieldsV, eqS, tabs, TK.agg, reduceCtorEq, Array.toList, List.map_cons, List.map_nil, ↓reduceIte, List.length_map, Nat.reduceAdd, Nat.reduceLeDiff, Nat.reduceLT, Nat.reduceMul, Nat.reduceSub, Option.bind_some, Option.map_some, bndV, numV, eI, eU, e8, eB, AV.isCell, Int.reduceToNat, Int.reduceSub, Int.reduceAdd, Int.reduceNeg])
    exact ⟨by simp only [goodQ, h3, Bool.false_and, Bool.and_false], hle _⟩
  (try simp (maxSteps := 1000000) (disch := (first | assumption | (apply Ne.symm; assumption))) only [vw0, vw1, vw2, vw3, vw4, vu0, vu1, ↓condV_t, ↓condV_f, cap_nil, allocV, splice, partV, buildV, eqFieldsV, eqS, tabs, TK.agg, reduceCtorEq, Array.toList, List.map_cons, List.map_nil, ↓reduceIte, List.length_map, Nat.reduceAdd, Nat.reduceLeDiff, Nat.reduceLT, Nat.reduceMul, Nat.reduceSub, Option.bind_some, Option.map_some, bndV, numV, eI, eU, e8, eB, AV.isCell, Int.reduceToNat, Int.reduceSub, Int.reduceAdd, Int.reduceNeg])
  refine PuAt.use (ContainsFuncNs_at q.asks _ _ (fun t => !decide (kind q.prog.wide q.prog.vars t = 2)) (by have := h.2.2.1; omega) fun t ht => GoodQuestion1_at q.prog t (h.2.1 t ht) r (Heap.set_same _ _ _)) ?_
  (try simp (maxSteps := 1000000) (disch := (first | assumption | (apply Ne.symm; assumption))) only [vw0, vw1, vw2, vw3, vw4, vu0, vu1, ↓condV_t, ↓condV_f, cap_nil, allocV, splice, partV, buildV, eqFieldsV, eqS, tabs, TK.agg, reduceCtorEq, Array.toList, List.map_cons, List.map_nil, ↓reduceIte, List.length_map, Nat.reduceAdd, Nat.reduceLeDiff, Nat.reduceLT, Nat.reduceMul, Nat.reduceSub, Option.bind_some, Option.map_some, bndV, numV, eI, eU, e8, eB, AV.isCell, Int.reduceToNat, Int.reduceSub, Int.reduceAdd, Int.reduceNeg])
  refine ⟨?_, hle _⟩
  simp only [goodQ, h1, h2', h3, Bool.true_and]
  congr 2
  rw [List.all_eq_not_any_not]
theorem allK_f {q : Qn} {i : Nat} (hi : i < q.asks.length) (h : kind q.prog.wide q.prog.vars (q.asks.getD i default) ≠ 2) : B false = B (goodQ q) := by
  have : (q.asks.all fun t => decide (kind q.prog.wide q.prog.vars t = 2)) = false := by
    rw [List.all_eq_false]
    exact ⟨_, getD_all (p := fun x => x ∈ q.asks) (fun _ h => h) hi, by simpa using h⟩
  simp only [goodQ, this, Bool.and_false]
theorem GoodQuestion_ref (q : Qn) (h : vQ q) : Pu Tryz.prog 9 [aQ q] (B (goodQ q)) := by
  refine Pu.of fun H => ?_
  refine W9_ok ?_; simp (maxSteps := 1000000) (disch := (first | assumption | (apply Ne.symm; assumption))) only [W9, vw0, vw1, vw2, vw3, vw4, vu0, vu1, ↓condV_t, ↓condV_f, cap_nil, allocV, splice, partV, buildV, eqFieldsV, eqS, tabs, TK.agg, reduceCtorEq, Array.toList, List.map_cons, List.map_nil, ↓reduceIte, List.length_map, Nat.reduceAdd, Nat.reduceLeDiff, Nat.reduceLT, Nat.reduceMul, Nat.reduceSub, Option.bind_some, Option.map_some, bndV, numV, eI, eU, e8, eB, AV.isCell, Int.reduceToNat, Int.reduceSub, Int.reduceAdd, Int.reduceNeg]
  intro r hr
  refine Pu.use (l7Small_spec q.prog h.1) ?_
  have hle : ∀ z, Heap.le H (H.set r z) := fun z => Heap.le_set hr
  cases h1 : smallP q.prog
  · (try simp (maxSteps := 1000000) (disch := (first | assumption | (apply Ne.symm; assumption))) only [vw0, vw1, vw2, vw3, vw4, vu0, vu1, ↓condV_t, ↓condV_f, cap_nil, allocV, splice, partV, buildV, eqFieldsV, eqS, tabs, TK.agg, reduceCtorEq, Array.toList, List.map_cons, List.map_nil, ↓reduceIte, List.length_map, Nat.reduceAdd, Nat.reduceLeDiff, Nat.reduceLT, Nat.reduceMul, Nat.reduceSub, Option.bind_some, Option.map_some, bndV, numV, eI, eU, e8, eB, AV.isCell, Int.reduceToNat, Int.reduceSub, Int.reduceAdd, Int.reduceNeg])
    exact ⟨by simp only [goodQ, h1, Bool.false_and], hle _⟩
  (try simp (maxSteps := 1000000) (disch := (first | assumption | (apply Ne.symm; assumption))) only [vw0, vw1, vw2, vw3, vw4, vu0, vu1, ↓condV_t, ↓condV_f, cap_nil, allocV, splice, partV, buildV, eqFieldsV, eqS, tabs, TK.agg, reduceCtorEq, Array.toList, List.map_cons, List.map_nil, ↓reduceIte, List.length_map, Nat.reduceAdd, Nat.reduceLeDiff, Nat.reduceLT, Nat.reduceMul, Nat.reduceSub, Option.bind_some, Option.map_some, bndV, numV, eI, eU, e8, eB, AV.isCell, Int.reduceToNat, Int.reduceSub, Int.reduceAdd, Int.reduceNeg])
  refine ⟨fun h2 => ⟨?_, hle _⟩, fun h2 => ?_⟩
  · have : decide (q.asks.length = 3) = false := by simp; omega
    simp only [goodQ, this, Bool.false_and, Bool.and_false]
  have h2' : decide (q.asks.length = 3) = true := by simp; omega
  refine Pu.use (l13Good_spec q.say h.2.2.2) ?_
  cases h3 : goodT q.say
  · (try simp (maxSteps := 1000000) (disch := (first | assumption | (apply Ne.symm; assumption))) only [vw0, vw1, vw2, vw3, vw4, vu0, vu1, ↓condV_t, ↓condV_f, cap_nil, allocV, splice, partV, buildV, eqFieldsV, eqS, tabs, TK.agg, reduceCtorEq, Array.toList, List.map_cons, List.map_nil, ↓reduceIte, List.length_map, Nat.reduceAdd, Nat.reduceLeDiff, Nat.reduceLT, Nat.reduceMul, Nat.reduceSub, Option.bind_some, Option.map_some, bndV, numV, eI, eU, e8, eB, AV.isCell, Int.reduceToNat, Int.reduceSub, Int.reduceAdd, Int.reduceNeg])
    exact ⟨by simp only [goodQ, h3, Bool.false_and, Bool.and_false], hle _⟩
  (try simp (maxSteps := 1000000) (disch := (first | assumption | (apply Ne.symm; assumption))) only [vw0, vw1, vw2, vw3, vw4, vu0, vu1, ↓condV_t, ↓condV_f, cap_nil, allocV, splice, partV, buildV, eqFieldsV, eqS, tabs, TK.agg, reduceCtorEq, Array.toList, List.map_cons, List.map_nil, ↓reduceIte, List.length_map, Nat.reduceAdd, Nat.reduceLeDiff, Nat.reduceLT, Nat.reduceMul, Nat.reduceSub, Option.bind_some, Option.map_some, bndV, numV, eI, eU, e8, eB, AV.isCell, Int.reduceToNat, Int.reduceSub, Int.reduceAdd, Int.reduceNeg])
  refine L9_0_rule (0 : Nat) (fun i => I i) (fun _ => H.set r [I q.prog.wide, I q.prog.vars, Ns q.prog.start, Cms q.prog.cmds, Nss q.asks, Ds q.say]) (fun i => i ≤ q.asks.length ∧ ∀ j, j < i → kind q.prog.wide q.prog.vars (q.asks.getD j default) = 2) (fun i => q.asks.length - i) ⟨⟨by omega, fun j hj => by omega⟩, .refl _, Heap.le_refl _⟩ ?_
  rintro i ⟨hi, ha⟩
  have hl := h.2.2.1
  (try simp (maxSteps := 1000000) (disch := (first | assumption | (apply Ne.symm; assumption))) only [vw0, vw1, vw2, vw3, vw4, vu0, vu1, ↓condV_t, ↓condV_f, cap_nil, allocV, splice, partV, buildV, eqFieldsV, eqS, tabs, TK.agg, reduceCtorEq, Array.toList, List.map_cons, List.map_nil, ↓reduceIte, List.length_map, Nat.reduceAdd, Nat.reduceLeDiff, Nat.reduceLT, Nat.reduceMul, Nat.reduceSub, Option.bind_some, Option.map_some, bndV, numV, eI, eU, e8, eB, AV.isCell, Int.reduceToNat, Int.reduceSub, Int.reduceAdd, Int.reduceNeg, B9_0])
  refine ⟨fun h4 => ⟨by omega, h4, ?_⟩, fun h4 => ?_⟩
  · have hlt : i < q.asks.length := by omega
    have hm : q.asks.getD i default ∈ q.asks := getD_all (p := fun x => x ∈ q.asks) (fun _ h => h) hlt
    refine Pu.use (l7Asks_spec q.prog _ (h.2.1 _ hm)) ?_
    (try simp (maxSteps := 1000000) (disch := (first | assumption | (apply Ne.symm; assumption))) only [vw0, vw1, vw2, vw3, vw4, vu0, vu1, ↓condV_t, ↓condV_f, cap_nil, allocV, splice, partV, buildV, eqFieldsV, eqS, tabs, TK.agg, reduceCtorEq, Array.toList, List.map_cons, List.map_nil, ↓reduceIte, List.length_map, Nat.reduceAdd, Nat.reduceLeDiff, Nat.reduceLT, Nat.reduceMul, Nat.reduceSub, Option.bind_some, Option.map_some, bndV, numV, eI, eU, e8, eB, AV.isCell, Int.reduceToNat, Int.reduceSub, Int.reduceAdd, Int.reduceNeg])
    refine ⟨fun h5 => ⟨allK_f hlt h5, hle _⟩, fun h5 => ⟨i + 1, ⟨by omega, fun j hj => ?_⟩, by omega, ?_⟩⟩
    · rcases Nat.lt_succ_iff_lt_or_eq.1 hj with h6 | rfl
      · exact ha j h6
      · exact h5
    · rw [wk_int, i64_id (by omega) (by omega)]; simp
  · refine ⟨?_, hle _⟩
    have : (q.asks.all fun t => decide (kind q.prog.wide q.prog.vars t = 2)) = true := by
      rw [List.all_eq_true]
      intro x hx
      obtain ⟨j, hj, rfl⟩ := List.mem_iff_getElem.1 hx
      have := ha j (by omega)
      rw [getD_lt hj] at this
      exact decide_eq_true this
    simp only [goodQ, h1, h2', h3, this, Bool.true_and]

theorem FnExactGoodQuestion_true {q : Qn} (hok : okQ q) (hn : nQ q) : Pu Tryz.prog 3 [aQ q] (B true) := by
  refine Pu.of fun H => ?_
  refine W3_ok ?_; simp (maxSteps := 1000000) (disch := (first | assumption | (apply Ne.symm; assumption))) only [W3, vw0, vw1, vw2, vw3, vw4, vu0, vu1, ↓condV_t, ↓condV_f, cap_nil, allocV, splice, partV, buildV, eqFieldsV, eqS, tabs, TK.agg, reduceCtorEq, Array.toList, List.map_cons, List.map_nil, ↓reduceIte, List.length_map, Nat.reduceAdd, Nat.reduceLeDiff, Nat.reduceLT, Nat.reduceMul, Nat.reduceSub, Option.bind_some, Option.map_some, bndV, numV, eI, eU, e8, eB, AV.isCell, Int.reduceToNat, Int.reduceSub, Int.reduceAdd, Int.reduceNeg]
  intro r hr
  have hle := Heap.le_set (b := [I q.prog.wide, I q.prog.vars, Ns q.prog.start, Cms q.prog.cmds, Nss q.asks, Ds q.say]) hr
  refine Pu.use (szQuestion_spec q 1048576 (by omega) (by omega) hok) ?_
  (try simp (maxSteps := 1000000) (disch := (first | assumption | (apply Ne.symm; assumption))) only [vw0, vw1, vw2, vw3, vw4, vu0, vu1, ↓condV_t, ↓condV_f, cap_nil, allocV, splice, partV, buildV, eqFieldsV, eqS, tabs, TK.agg, reduceCtorEq, Array.toList, List.map_cons, List.map_nil, ↓reduceIte, List.length_map, Nat.reduceAdd, Nat.reduceLeDiff, Nat.reduceLT, Nat.reduceMul, Nat.reduceSub, Option.bind_some, Option.map_some, bndV, numV, eI, eU, e8, eB, AV.isCell, Int.reduceToNat, Int.reduceSub, Int.reduceAdd, Int.reduceNeg])
  refine ⟨fun _ => hle, fun h1 => ?_⟩
  obtain ⟨t1, e1⟩ := szR_nonneg h1
  have hsm := smQ_of_tot t1
  have hv := vQ_of hsm hn
  refine Pu.use (toQuestion_spec q hsm) ?_
  (try simp (maxSteps := 1000000) (disch := (first | assumption | (apply Ne.symm; assumption))) only [vw0, vw1, vw2, vw3, vw4, vu0, vu1, ↓condV_t, ↓condV_f, cap_nil, allocV, splice, partV, buildV, eqFieldsV, eqS, tabs, TK.agg, reduceCtorEq, Array.toList, List.map_cons, List.map_nil, ↓reduceIte, List.length_map, Nat.reduceAdd, Nat.reduceLeDiff, Nat.reduceLT, Nat.reduceMul, Nat.reduceSub, Option.bind_some, Option.map_some, bndV, numV, eI, eU, e8, eB, AV.isCell, Int.reduceToNat, Int.reduceSub, Int.reduceAdd, Int.reduceNeg])
  refine Pu.use (GoodQuestion_ref q hv) ?_
  (try simp (maxSteps := 1000000) (disch := (first | assumption | (apply Ne.symm; assumption))) only [vw0, vw1, vw2, vw3, vw4, vu0, vu1, ↓condV_t, ↓condV_f, cap_nil, allocV, splice, partV, buildV, eqFieldsV, eqS, tabs, TK.agg, reduceCtorEq, Array.toList, List.map_cons, List.map_nil, ↓reduceIte, List.length_map, Nat.reduceAdd, Nat.reduceLeDiff, Nat.reduceLT, Nat.reduceMul, Nat.reduceSub, Option.bind_some, Option.map_some, bndV, numV, eI, eU, e8, eB, AV.isCell, Int.reduceToNat, Int.reduceSub, Int.reduceAdd, Int.reduceNeg])
  refine Pu.use (toQuestion_spec q hsm) ?_
  (try simp (maxSteps := 1000000) (disch := (first | assumption | (apply Ne.symm; assumption))) only [vw0, vw1, vw2, vw3, vw4, vu0, vu1, ↓condV_t, ↓condV_f, cap_nil, allocV, splice, partV, buildV, eqFieldsV, eqS, tabs, TK.agg, reduceCtorEq, Array.toList, List.map_cons, List.map_nil, ↓reduceIte, List.length_map, Nat.reduceAdd, Nat.reduceLeDiff, Nat.reduceLT, Nat.reduceMul, Nat.reduceSub, Option.bind_some, Option.map_some, bndV, numV, eI, eU, e8, eB, AV.isCell, Int.reduceToNat, Int.reduceSub, Int.reduceAdd, Int.reduceNeg])
  intro r7 n7 hr7
  have nn7 : r ≠ r7 := Ne.symm n7
  (try simp (maxSteps := 1000000) (disch := (first | assumption | (apply Ne.symm; assumption))) only [vw0, vw1, vw2, vw3, vw4, vu0, vu1, ↓condV_t, ↓condV_f, cap_nil, allocV, splice, partV, buildV, eqFieldsV, eqS, tabs, TK.agg, reduceCtorEq, Array.toList, List.map_cons, List.map_nil, ↓reduceIte, List.length_map, Nat.reduceAdd, Nat.reduceLeDiff, Nat.reduceLT, Nat.reduceMul, Nat.reduceSub, Option.bind_some, Option.map_some, bndV, numV, eI, eU, e8, eB, AV.isCell, Int.reduceToNat, Int.reduceSub, Int.reduceAdd, Int.reduceNeg])
  refine Pu.use (GoodQuestion_impl q hv) ?_
  cases hg : goodQ q
  all_goals
    (try simp (maxSteps := 1000000) (disch := (first | assumption | (apply Ne.symm; assumption))) only [vw0, vw1, vw2, vw3, vw4, vu0, vu1, ↓condV_t, ↓condV_f, cap_nil, allocV, splice, partV, buildV, eqFieldsV, eqS, tabs, TK.agg, reduceCtorEq, Array.toList, List.map_cons, List.map_nil, ↓reduceIte, List.length_map, Nat.reduceAdd, Nat.reduceLeDiff, Nat.reduceLT, Nat.reduceMul, Nat.reduceSub, Option.bind_some, Option.map_some, bndV, numV, eI, eU, e8, eB, AV.isCell, Int.reduceToNat, Int.reduceSub, Int.reduceAdd, Int.reduceNeg])
    refine Pu.use (toQuestion_spec q hsm) ?_
    (try simp (maxSteps := 1000000) (disch := (first | assumption | (apply Ne.symm; assumption))) only [vw0, vw1, vw2, vw3, vw4, vu0, vu1, ↓condV_t, ↓condV_f, cap_nil, allocV, splice, partV, buildV, eqFieldsV, eqS, tabs, TK.agg, reduceCtorEq, Array.toList, List.map_cons, List.map_nil, ↓reduceIte, List.length_map, Nat.reduceAdd, Nat.reduceLeDiff, Nat.reduceLT, Nat.reduceMul, Nat.reduceSub, Option.bind_some, Option.map_some, bndV, numV, eI, eU, e8, eB, AV.isCell, Int.reduceToNat, Int.reduceSub, Int.reduceAdd, Int.reduceNeg])
    refine Pu.use (eqQuestion_spec q hsm) ?_
    (try simp (maxSteps := 1000000) (disch := (first | assumption | (apply Ne.symm; assumption))) only [vw0, vw1, vw2, vw3, vw4, vu0, vu1, ↓condV_t, ↓condV_f, cap_nil, allocV, splice, partV, buildV, eqFieldsV, eqS, tabs, TK.agg, reduceCtorEq, Array.toList, List.map_cons, List.map_nil, ↓reduceIte, List.length_map, Nat.reduceAdd, Nat.reduceLeDiff, Nat.reduceLT, Nat.reduceMul, Nat.reduceSub, Option.bind_some, Option.map_some, bndV, numV, eI, eU, e8, eB, AV.isCell, Int.reduceToNat, Int.reduceSub, Int.reduceAdd, Int.reduceNeg])
    (repeat first | exact Heap.le_refl _ | refine Heap.le_setN ?_ (by assumption))
end Go.Proofs.YtgcklgeifdefhaaGreat
/- Arguments by value: rows of conditions, questions. -/
namespace Go.Proofs.YtgcklgeifdefhaaGreat
open Go Go.Sep Go.Pt Go.RowKit
set_option linter.unusedVariables false

theorem typed_nodess {x : List PV} (h : Typed Tryz.prog 26 x) : ∃ t : List (List Nd), (okNss t ∧ nTs t) ∧ x = [.sl (t.map eNN)] := by
  obtain ⟨es, rfl, hl, he⟩ := typed_slice (e := 22) (by kernel_rfl) h
  obtain ⟨t, h1, rfl, h3⟩ := rows_of (Q := fun a => ok a.length ∧ nT a) (e := eNN) es fun y hy => typed_nodes (he y hy)
  exact ⟨t, ⟨⟨by unfold ok; omega, fun c hc => (h1 c hc).1⟩, fun c hc => (h1 c hc).2⟩, rfl⟩
theorem arg_nodess {v : AV} (h : ArgT Tryz.prog 26 v) : ∃ t : List (List Nd), okNss t ∧ nTs t ∧ v = Nss t := by
  have hu := sliceIs_ok (P := Tryz.prog) (t := 26) (e := 22) (by kernel_rfl)
  obtain ⟨p, g, rfl⟩ := arg_cell (fun fs h => by rw [hu] at h; cases h) h
  obtain ⟨t, ht, e⟩ := typed_nodess g
  injection e with e
  exact ⟨t, ht.1, ht.2, by rw [e]⟩
theorem arg_question {v : AV} (h : ArgT Tryz.prog 29 v) : ∃ q : Qn, okQ q ∧ nQ q ∧ v = aQ q := by
  obtain ⟨pvs, g, rfl⟩ := arg_struct (ts := [25, 26, 27]) (by kernel_rfl) h
  clear h
  have h := g
  obtain ⟨pp, b, rfl, hp, h⟩ := typedAll_cons h
  obtain ⟨b, c, rfl, h5, h⟩ := typedAll_cons h
  obtain ⟨c, d, rfl, h6, h⟩ := typedAll_cons h
  cases typedAll_nil h
  have h := typed_fields (ts := [3, 3, 22, 23]) (by kernel_rfl) hp
  obtain ⟨a, b, rfl, h1, h⟩ := typedAll_cons h
  obtain ⟨b, c, rfl, h2, h⟩ := typedAll_cons h
  obtain ⟨c, d, rfl, h3, h⟩ := typedAll_cons h
  obtain ⟨d, e, rfl, h4, h⟩ := typedAll_cons h
  cases typedAll_nil h
  obtain ⟨n, _, rfl⟩ := typed_int (k := .i64) (by kernel_rfl) h1
  obtain ⟨m, _, rfl⟩ := typed_int (k := .i64) (by kernel_rfl) h2
  obtain ⟨t, ht, rfl⟩ := typed_nodes h3
  obtain ⟨cs, hc, rfl⟩ := typed_commands h4
  obtain ⟨ak, ha, rfl⟩ := typed_nodess h5
  obtain ⟨ss, hs, rfl⟩ := typed_saids h6
  exact ⟨⟨⟨n, m, t, cs⟩, ak, ss⟩, ⟨⟨ht.1, hc.1⟩, ha.1, hs⟩, ⟨⟨ht.2, hc.2⟩, ha.2⟩, rfl⟩
end Go.Proofs.YtgcklgeifdefhaaGreat
/- Plain facts: values of terms, by a pile and by their trees. -/
namespace Go.Pt

/-- The two's complement value of a word. -/
def sgn (w a : Nat) : Int := if a < 2 ^ (w - 1) then a else (a : Int) - 2 ^ w
/-- What an operator makes of two words. -/
def ap (w : Nat) (op : Int) (a b : Nat) : Nat :=
  if op = 3 then (a + b) % 2 ^ w
  else if op = 4 then (a + 2 ^ w - b) % 2 ^ w
  else if op = 5 then a * b % 2 ^ w
  else if op = 6 then (if b = 0 then 2 ^ w - 1 else a / b)
  else if op = 7 then (if b = 0 then a else a % b)
  else if op = 8 ∨ op = 17 then a &&& b
  else if op = 9 ∨ op = 18 then a ||| b
  else if op = 10 then a ^^^ b
  else if op = 11 then (if w ≤ b then 0 else a * 2 ^ b % 2 ^ w)
  else if op = 12 then (if w ≤ b then 0 else a / 2 ^ b)
  else if op = 14 then (if a = b then 1 else 0)
  else if op = 15 then (if a < b then 1 else 0)
  else if op = 16 then (if sgn w a < sgn w b then 1 else 0)
  else 0
def un (w : Nat) (op : Int) (a : Nat) : Nat := if op = 13 then 2 ^ w - 1 - a else 1 - a
def leafV (s : List Nat) (x : Nd) : Nat := if x.op = 2 then s.getD x.n.toNat 0 else x.n.toNat
/-- A value of a kind. -/
def okV (w : Nat) (k : Int) (a : Nat) : Prop := a < 2 ^ w ∧ (k ≠ 1 → a ≤ 1)

theorem many_cases (op : Int) : many op = 0 ∨ many op = 1 ∨ many op = 2 := by
  unfold many
  split
  · exact .inr (.inl rfl)
  · split
    · exact .inr (.inr rfl)
    · exact .inl rfl
theorem many1 {op : Int} (h : many op = 1) : op = 13 ∨ op = 19 := by
  unfold many at h
  split at h
  · assumption
  · split at h <;> omega
theorem many2 {op : Int} (h : many op = 2) : (3 ≤ op ∧ op ≤ 12) ∨ (14 ≤ op ∧ op ≤ 16) ∨ op = 17 ∨ op = 18 := by
  unfold many at h
  split at h
  · omega
  · split at h
    · assumption
    · omega
theorem many0 {op : Int} (h : many op = 0) (ho : own op ≠ 0) : op = 1 ∨ op = 2 ∨ op = 20 := by
  unfold many at h
  unfold own at ho
  split at h
  · omega
  · split at h
    · omega
    · split at ho
      · omega
      · split at ho <;> omega

theorem le_one_pow {w a : Nat} (hw : 1 ≤ w) (h : a ≤ 1) : a < 2 ^ w := by
  have : 2 ^ 1 ≤ 2 ^ w := Nat.pow_le_pow_right (by decide) hw
  omega

theorem un_ok {w : Nat} {op : Int} {a : Nat} (hw : 1 ≤ w) (h1 : many op = 1) (ha : okV w (part op) a) : okV w (own op) (un w op a) := by
  have hp := Nat.two_pow_pos w
  rcases many1 h1 with rfl | rfl
  · refine ⟨?_, fun h => absurd rfl h⟩
    unfold un; rw [if_pos rfl]; omega
  · have e : un w 19 a = 1 - a := rfl
    rw [e]
    exact ⟨le_one_pow hw (by omega), fun _ => by omega⟩

theorem div_lt' {a b m : Nat} (h : a < m) : a / b < m := Nat.lt_of_le_of_lt (Nat.div_le_self a b) h
theorem and_one {a b : Nat} (ha : a ≤ 1) (hb : b ≤ 1) : a &&& b ≤ 1 ∧ a ||| b ≤ 1 := by
  have h1 : a = 0 ∨ a = 1 := by omega
  have h2 : b = 0 ∨ b = 1 := by omega
  rcases h1 with rfl | rfl <;> rcases h2 with rfl | rfl <;> decide
theorem ite01 (p : Prop) [Decidable p] : (if p then 1 else 0 : Nat) ≤ 1 := by split <;> omega

theorem ap_ok {w : Nat} {op : Int} {a b : Nat} (hw : 1 ≤ w) (h2 : many op = 2) (ha : okV w (part op) a) (hb : okV w (part op) b) : okV w (own op) (ap w op a b) := by
  have hp := Nat.two_pow_pos w
  have md : ∀ x, x % 2 ^ w < 2 ^ w := fun x => Nat.mod_lt _ hp
  have k1 : own op = 1 → ap w op a b < 2 ^ w → okV w (own op) (ap w op a b) := fun h h3 => ⟨h3, fun h4 => absurd h h4⟩
  have k2 : ap w op a b ≤ 1 → okV w (own op) (ap w op a b) := fun h => ⟨le_one_pow hw h, fun _ => h⟩
  have ha1 := ha.1
  have hb1 := hb.1
  rcases many2 h2 with h | h | rfl | rfl
  · obtain rfl | rfl | rfl | rfl | rfl | rfl | rfl | rfl | rfl | rfl : op = 3 ∨ op = 4 ∨ op = 5 ∨ op = 6 ∨ op = 7 ∨ op = 8 ∨ op = 9 ∨ op = 10 ∨ op = 11 ∨ op = 12 := by omega
    · exact k1 rfl (md _)
    · exact k1 rfl (md _)
    · exact k1 rfl (md _)
    · refine k1 rfl ?_
      show (if b = 0 then 2 ^ w - 1 else a / b) < _
      split
      · omega
      · exact div_lt' ha1
    · refine k1 rfl ?_
      show (if b = 0 then a else a % b) < _
      split
      · exact ha1
      · exact Nat.lt_of_le_of_lt (Nat.mod_le _ _) ha1
    · exact k1 rfl (Nat.and_lt_two_pow a hb1)
    · exact k1 rfl (Nat.or_lt_two_pow ha1 hb1)
    · exact k1 rfl (Nat.xor_lt_two_pow ha1 hb1)
    · refine k1 rfl ?_
      show (if w ≤ b then 0 else a * 2 ^ b % 2 ^ w) < _
      split
      · exact hp
      · exact md _
    · refine k1 rfl ?_
      show (if w ≤ b then 0 else a / 2 ^ b) < _
      split
      · exact hp
      · exact div_lt' ha1
  · obtain rfl | rfl | rfl : op = 14 ∨ op = 15 ∨ op = 16 := by omega
    · exact k2 (ite01 _)
    · exact k2 (ite01 _)
    · exact k2 (ite01 _)
  · exact k2 (and_one (ha.2 (by decide)) (hb.2 (by decide))).1
  · exact k2 (and_one (ha.2 (by decide)) (hb.2 (by decide))).2

/-- The tree of node k: where it begins, its kind, its value. -/
inductive Tr (w : Nat) (t : List Nd) (s : List Nat) : Nat → Nat → Int → Nat → Prop
  | leaf (k : Nat) (hk : k < t.length) (h0 : many (t.getD k default).op = 0) (ho : own (t.getD k default).op ≠ 0) (hv : okV w (own (t.getD k default).op) (leafV s (t.getD k default))) :
      Tr w t s k k (own (t.getD k default).op) (leafV s (t.getD k default))
  | one (k f a : Nat) (hk : k + 1 < t.length) (h1 : many (t.getD (k + 1) default).op = 1) (h : Tr w t s k f (part (t.getD (k + 1) default).op) a) :
      Tr w t s (k + 1) f (own (t.getD (k + 1) default).op) (un w (t.getD (k + 1) default).op a)
  | two (k f g a b : Nat) (hk : k + 1 < t.length) (h2 : many (t.getD (k + 1) default).op = 2) (hb : Tr w t s k (f + 1) (part (t.getD (k + 1) default).op) b) (ha : Tr w t s f g (part (t.getD (k + 1) default).op) a) :
      Tr w t s (k + 1) g (own (t.getD (k + 1) default).op) (ap w (t.getD (k + 1) default).op a b)

theorem Tr.lt {w : Nat} {t : List Nd} {s : List Nat} {k f : Nat} {kd : Int} {a : Nat} (h : Tr w t s k f kd a) : k < t.length ∧ f ≤ k := by
  induction h with
  | leaf k hk => exact ⟨hk, Nat.le_refl _⟩
  | one k f a hk h1 h ih => exact ⟨hk, by omega⟩
  | two k f g a b hk h2 hb ha ihb iha => exact ⟨hk, by omega⟩
theorem Tr.okV {w : Nat} {t : List Nd} {s : List Nat} (hw : 1 ≤ w) {k f : Nat} {kd : Int} {a : Nat} (h : Tr w t s k f kd a) : okV w kd a := by
  induction h with
  | leaf k hk h0 ho hv => exact hv
  | one k f a hk h1 h ih => exact un_ok hw h1 ih
  | two k f g a b hk h2 hb ha ihb iha => exact ap_ok hw h2 iha ihb

inductive Stk (w : Nat) (t : List Nd) (s : List Nat) : Nat → List Int → List Nat → Prop
  | nil : Stk w t s 0 [] []
  | snoc (i : Nat) (p : List Int) (vs : List Nat) (k : Nat) (kd : Int) (a : Nat) (h : Stk w t s i p vs) (ht : Tr w t s k i kd a) : Stk w t s (k + 1) (p ++ [kd]) (vs ++ [a])

theorem Stk.len {w : Nat} {t : List Nd} {s : List Nat} {i : Nat} {p : List Int} {vs : List Nat} (h : Stk w t s i p vs) : vs.length = p.length := by
  induction h with
  | nil => rfl
  | snoc i p vs k kd a h ht ih => simp [ih]
theorem Stk.inv {w : Nat} {t : List Nd} {s : List Nat} {i : Nat} {p : List Int} {vs : List Nat} (h : Stk w t s i p vs) (hp : p ≠ []) : ∃ i0 p0 vs0 k kd a, i = k + 1 ∧ p = p0 ++ [kd] ∧ vs = vs0 ++ [a] ∧ Stk w t s i0 p0 vs0 ∧ Tr w t s k i0 kd a := by
  cases h with
  | nil => exact absurd rfl hp
  | snoc i0 p0 vs0 k kd a h ht => exact ⟨i0, p0, vs0, k, kd, a, rfl, rfl, rfl, h, ht⟩

theorem Stk.nil_inv {w : Nat} {t : List Nd} {s : List Nat} {i : Nat} {p : List Int} {vs : List Nat} (h : Stk w t s i p vs) (hp : p = []) : i = 0 ∧ vs = [] := by
  cases h with
  | nil => exact ⟨rfl, rfl⟩
  | snoc i0 p0 vs0 k kd a h ht => simp at hp

theorem Stk.bound {w : Nat} {t : List Nd} {s : List Nat} {i : Nat} {p : List Int} {vs : List Nat} (h : Stk w t s i p vs) : p.length ≤ i := by
  induction h with
  | nil => exact Nat.le_refl _
  | snoc i p vs k kd a h ht ih =>
    have := ht.lt
    simp only [List.length_append, List.length_cons, List.length_nil]; omega
theorem Stk.okV {w : Nat} {t : List Nd} {s : List Nat} (hw : 1 ≤ w) {i : Nat} {p : List Int} {vs : List Nat} (h : Stk w t s i p vs) : ∀ j, j < vs.length → Pt.okV w (p.getD j 0) (vs.getD j 0) := by
  induction h with
  | nil => intro j hj; simp at hj
  | snoc i p vs k kd a h ht ih =>
    intro j hj
    have hl := h.len
    by_cases e : j < vs.length
    · have := ih j e
      have e1 : (p ++ [kd]).getD j 0 = p.getD j 0 := by simp only [List.getD, List.getElem?_append_left (show j < p.length by omega)]
      have e2 : (vs ++ [a]).getD j 0 = vs.getD j 0 := by simp only [List.getD, List.getElem?_append_left e]
      rw [e1, e2]; exact this
    · have hj2 : j = vs.length := by simp at hj; omega
      subst hj2
      have e1 : (p ++ [kd]).getD vs.length 0 = kd := by simp [List.getD, hl]
      have e2 : (vs ++ [a]).getD vs.length 0 = a := by simp [List.getD]
      rw [e1, e2]; exact ht.okV hw

def stepV (w : Nat) (s vs : List Nat) (x : Nd) : List Nat :=
  if many x.op = 0 then vs ++ [leafV s x]
  else if many x.op = 1 then vs.take (vs.length - 1) ++ [un w x.op (vs.getD (vs.length - 1) 0)]
  else vs.take (vs.length - 2) ++ [ap w x.op (vs.getD (vs.length - 2) 0) (vs.getD (vs.length - 1) 0)]

theorem leaf_ok {w v : Nat} {s : List Nat} {x : Nd} (hw : 1 ≤ w) (hs : s.length = v) (hsw : ∀ a ∈ s, a < 2 ^ w) (hx : 0 ≤ x.n) (h0 : many x.op = 0) (ho : own x.op ≠ 0) (hl : leafOk w v x = true) : okV w (own x.op) (leafV s x) := by
  rcases many0 h0 ho with h | h | h
  · unfold leafOk at hl
    rw [if_pos h] at hl
    simp only [Bool.and_eq_true, decide_eq_true_eq, Int.toNat_natCast] at hl
    have e : leafV s x = x.n.toNat := by unfold leafV; rw [if_neg (by omega)]
    rw [e, h]
    refine ⟨?_, fun hh => absurd rfl hh⟩
    have h2 := hl.2
    have : ((2 ^ w : Nat) : Int) = (2 : Int) ^ w := by simp
    omega
  · unfold leafOk at hl
    rw [if_neg (by omega), if_pos h] at hl
    simp only [decide_eq_true_eq] at hl
    have e : leafV s x = s.getD x.n.toNat 0 := by unfold leafV; rw [if_pos h]
    rw [e, h]
    refine ⟨?_, fun hh => absurd rfl hh⟩
    have hlt : x.n.toNat < s.length := by omega
    have : s.getD x.n.toNat 0 = s[x.n.toNat] := by simp [List.getD, hlt]
    rw [this]; exact hsw _ (List.getElem_mem hlt)
  · unfold leafOk at hl
    rw [if_neg (by omega), if_neg (by omega), if_pos h] at hl
    simp only [decide_eq_true_eq] at hl
    have e : leafV s x = x.n.toNat := by unfold leafV; rw [if_neg (by omega)]
    rw [e]
    exact ⟨le_one_pow hw (by omega), fun _ => by omega⟩

theorem step_inv {w v : Int} {p p' : List Int} {x : Nd} (h : step w v p x = some p') : own x.op ≠ 0 ∧ leafOk w v x = true ∧ many x.op ≤ p.length ∧ (∀ k ∈ p.drop (p.length - many x.op), k = part x.op) ∧ p' = p.take (p.length - many x.op) ++ [own x.op] := by
  unfold step at h
  split at h
  · cases h
  · rename_i h1
    split at h
    · cases h
    · rename_i h2
      injection h with h
      refine ⟨fun e => h1 (.inl e), ?_, by omega, fun k hk => ?_, h.symm⟩
      · cases hh : leafOk w v x
        · exact absurd (.inr (.inl hh)) h1
        · rfl
      · cases hh : decide (k = part x.op)
        · exfalso; apply h2
          rw [List.any_eq_true]
          exact ⟨k, hk, by simpa using hh⟩
        · simpa using hh

theorem Stk.step {w v : Nat} {t : List Nd} {s : List Nat} {i : Nat} {p p' : List Int} {vs : List Nat} (hw : 1 ≤ w) (hs : s.length = v) (hsw : ∀ a ∈ s, a < 2 ^ w) (h : Stk w t s i p vs) (hi : i < t.length) (hx : 0 ≤ (t.getD i default).n)
    (hp : Pt.step w v p (t.getD i default) = some p') : Stk w t s (i + 1) p' (stepV w s vs (t.getD i default)) := by
  obtain ⟨ho, hl, hm, hk, rfl⟩ := step_inv hp
  have hlen := h.len
  rcases many_cases (t.getD i default).op with h0 | h1 | h2
  · have e : stepV w s vs (t.getD i default) = vs ++ [leafV s (t.getD i default)] := by unfold stepV; rw [if_pos h0]
    rw [e, h0, Nat.sub_zero, List.take_length]
    exact .snoc i p vs i _ _ h (.leaf i hi h0 ho (leaf_ok hw hs hsw hx h0 ho hl))
  · obtain ⟨i0, p0, vs0, k, kd, a, rfl, rfl, rfl, hst, htr⟩ := h.inv (by intro e; rw [e] at hm; simp only [List.length_nil] at hm; omega)
    have e : stepV w s (vs0 ++ [a]) (t.getD (k + 1) default) = vs0 ++ [un w (t.getD (k + 1) default).op a] := by
      unfold stepV; rw [if_neg (by omega), if_pos h1]; simp
    rw [e, h1]
    rw [h1] at hk
    have hkd : kd = part (t.getD (k + 1) default).op := hk kd (by simp)
    subst hkd
    simp only [List.length_append, List.length_cons, List.length_nil, Nat.zero_add, Nat.add_sub_cancel, List.take_left]
    exact .snoc i0 p0 vs0 (k + 1) _ _ hst (.one k i0 a hi h1 htr)
  · obtain ⟨i1, p1, vs1, k, kd, b, rfl, rfl, rfl, hst1, htr1⟩ := h.inv (by intro e; rw [e] at hm; simp only [List.length_nil] at hm; omega)
    obtain ⟨i0, p0, vs0, f, kd0, a, rfl, rfl, rfl, hst, htr⟩ := hst1.inv (by intro e; rw [e] at hm; simp only [List.length_nil, List.length_append, List.length_cons] at hm; omega)
    have e : stepV w s (vs0 ++ [a] ++ [b]) (t.getD (k + 1) default) = vs0 ++ [ap w (t.getD (k + 1) default).op a b] := by
      unfold stepV; rw [if_neg (by omega), if_neg (by omega)]
      simp [List.getD]
    rw [e, h2]
    rw [h2] at hk
    have hkd : kd = part (t.getD (k + 1) default).op := hk kd (by simp)
    have hkd0 : kd0 = part (t.getD (k + 1) default).op := hk kd0 (by simp)
    subst hkd; subst hkd0
    have e2 : (p0 ++ [part (t.getD (k + 1) default).op] ++ [part (t.getD (k + 1) default).op]).take ((p0 ++ [part (t.getD (k + 1) default).op] ++ [part (t.getD (k + 1) default).op]).length - 2) = p0 := by simp
    rw [e2]
    exact .snoc i0 p0 vs0 (k + 1) _ _ hst (.two k f i0 a b hi h2 htr1 htr)

/-- The pile after some nodes. -/
def pileV (w : Nat) (s : List Nat) (t : List Nd) (i : Nat) : List Nat := (t.take i).foldl (stepV w s) []
theorem pileV_succ {w : Nat} {s : List Nat} {t : List Nd} {i : Nat} (h : i < t.length) : pileV w s t (i + 1) = stepV w s (pileV w s t i) (t.getD i default) := by
  unfold pileV; rw [take_succ_snoc h, List.foldl_append]; rfl
def tval (w : Nat) (t : List Nd) (s : List Nat) : Nat := (pileV w s t t.length).getD 0 0

theorem Stk.run {w v : Nat} {t : List Nd} {s : List Nat} (hw : 1 ≤ w) (hs : s.length = v) (hsw : ∀ a ∈ s, a < 2 ^ w) (hx : ∀ x ∈ t, 0 ≤ x.n) : ∀ (i : Nat) (p : List Int), i ≤ t.length → run w v [] (t.take i) = some p → Stk w t s i p (pileV w s t i)
  | 0, p, _, h => by
    simp only [List.take_zero, Pt.run, Option.some.injEq] at h
    subst h; exact .nil
  | i + 1, p, hi, h => by
    have hlt : i < t.length := hi
    rw [take_succ_snoc hlt, run_snoc] at h
    cases hr : Pt.run w v [] (t.take i) with
    | none => rw [hr] at h; cases h
    | some p0 =>
      rw [hr] at h
      rw [pileV_succ hlt]
      refine Stk.step hw hs hsw (Stk.run hw hs hsw hx i p0 (by omega) hr) hlt ?_ h
      have : t.getD i default = t[i] := by simp [List.getD, hlt]
      rw [this]; exact hx _ (List.getElem_mem hlt)

theorem run_prefix {w v : Int} {t : List Nd} {p : List Int} (h : run w v [] t = some p) (i : Nat) : ∃ p', run w v [] (t.take i) = some p' := by
  have e : t = t.take i ++ t.drop i := (List.take_append_drop _ _).symm
  rw [e, run_app] at h
  cases hr : run w v [] (t.take i) with
  | none => rw [hr] at h; cases h
  | some p' => exact ⟨p', rfl⟩
theorem kind_run {w v : Int} {t : List Nd} {k : Int} (hk : k ≠ 0) (h : kind w v t = k) : frame w v t = true ∧ run w v [] t = some [k] := by
  unfold kind at h
  split at h
  · rename_i hf
    refine ⟨hf, ?_⟩
    split at h
    · rename_i k' hr; rw [hr, h]
    · exact absurd h.symm hk
  · exact absurd h.symm hk

/-- A good term is the tree of its last node. -/
theorem kind_tree {w v : Nat} {t : List Nd} {s : List Nat} {k : Int} (hs : s.length = v) (hsw : ∀ a ∈ s, a < 2 ^ w) (hx : ∀ x ∈ t, 0 ≤ x.n) (hk : k ≠ 0) (h : kind w v t = k) :
    1 ≤ w ∧ 1 ≤ t.length ∧ t.length ≤ 48 ∧ Tr w t s (t.length - 1) 0 k (tval w t s) ∧ (∀ i, i ≤ t.length → ∃ p, Stk w t s i p (pileV w s t i) ∧ (i < t.length → ∃ p', step w v p (t.getD i default) = some p')) ∧ (pileV w s t t.length).length = 1 := by
  obtain ⟨hf, hr⟩ := kind_run hk h
  simp only [frame, Bool.and_eq_true, inB_iff, decide_eq_true_eq] at hf
  have hw : 1 ≤ w := by omega
  have hall := Stk.run hw hs hsw hx (t := t)
  have hst := hall t.length [k] (Nat.le_refl _) (by rw [List.take_length]; exact hr)
  obtain ⟨i0, p0, vs0, k1, kd, a, e1, e2, e3, h1, h2⟩ := hst.inv (by simp)
  have hp0 : p0 = [] := by
    have := congrArg List.length e2
    simp at this; simpa using this
  subst hp0
  have hkd : kd = k := by simpa using e2.symm
  subst hkd
  obtain ⟨rfl, rfl⟩ := h1.nil_inv rfl
  refine ⟨hw, hf.2.1, hf.2.2, ?_, fun i hi => ?_, by rw [e3]; rfl⟩
  · have : tval w t s = a := by unfold tval; rw [e3]; rfl
    rw [this, show t.length - 1 = k1 by omega]; exact h2
  · obtain ⟨p, hp⟩ := run_prefix hr i
    refine ⟨p, hall i p hi hp, fun hlt => ?_⟩
    obtain ⟨p', hp'⟩ := run_prefix hr (i + 1)
    rw [take_succ_snoc hlt, run_snoc, hp] at hp'
    exact ⟨p', hp'⟩
theorem kind_var {w v : Nat} {t : List Nd} {k : Int} (hk : k ≠ 0) (h : kind w v t = k) : ∀ x ∈ t, x.op = 2 → x.n < v := by
  obtain ⟨hf, hr⟩ := kind_run hk h
  intro x hx h2
  obtain ⟨i, hi, rfl⟩ := List.mem_iff_getElem.1 hx
  obtain ⟨p, hp⟩ := run_prefix hr i
  obtain ⟨p', hp'⟩ := run_prefix hr (i + 1)
  rw [take_succ_snoc hi, run_snoc, hp] at hp'
  have e : t.getD i default = t[i] := by simp [List.getD, hi]
  rw [e] at hp'
  obtain ⟨_, hl, _⟩ := step_inv hp'
  unfold leafOk at hl
  rw [if_neg (by omega), if_pos h2] at hl
  exact of_decide_eq_true hl
end Go.Pt
