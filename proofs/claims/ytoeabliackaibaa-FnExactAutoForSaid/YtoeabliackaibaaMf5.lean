/- Specs: truth values at a position. -/
import Derived.Test.YtoeabliackaibaaMf4
namespace Go.Proofs.Ytoeabliackaibaa
open Go Go.Sep Go.Pt
set_option linter.unusedSimpArgs false
set_option linter.unusedVariables false
attribute [local irreducible] CallT

/-- A bit of a number. -/
def bitF (g : Int) (i : Nat) : Bool := decide (bitsI .and .i64 (Int.fdiv g (2 ^ (min i 64))) 1 = 1)
def saysF (t : List Int) (g node : Int) : Bool := if node ∈ t then bitF g (t.idxOf node) else false
/-- The first operand of a node with two. -/
def lft (f : List Sd) (i : Nat) : Nat := tst f (i - 1) - 1
def evV (f : List Sd) (t : List Int) (lt nx : Int) (out : List Bool) (i : Nat) : Bool :=
  if (f.getD i default).op = 1 then bitF lt (f.getD i default).n.toNat
  else if (f.getD i default).op = 2 then decide ((f.getD i default).n = 1)
  else if (f.getD i default).op = 3 then !out.getD (i - 1) default
  else if (f.getD i default).op = 4 then saysF t nx ((i : Int) - 1)
  else if (f.getD i default).op = 5 then out.getD (lft f i) default && out.getD (i - 1) default
  else if (f.getD i default).op = 6 then out.getD (lft f i) default || out.getD (i - 1) default
  else if (f.getD i default).op = 7 then out.getD (i - 1) default || (out.getD (lft f i) default && saysF t nx i)
  else out.getD (i - 1) default && (out.getD (lft f i) default || saysF t nx i)
def evL (f : List Sd) (t : List Int) (lt nx : Int) : Nat → List Bool
  | 0 => []
  | i + 1 => evL f t lt nx i ++ [evV f t lt nx (evL f t lt nx i) i]
theorem evL_len (f : List Sd) (t : List Int) (lt nx : Int) (i : Nat) : (evL f t lt nx i).length = i := by
  induction i with
  | zero => rfl
  | succ i ih => rw [evL, List.length_append, ih]; rfl
abbrev eBo (b : Bool) : List PV := [.bool b]
abbrev fB (b : Bool) : PV := .bool b
abbrev rnB (x : AV) (l : List Bool) (D : List Nat) : Th := rnT (LPl.local eBo) (LPl.has eBo) 1 x l D
theorem rnB_cases {x : AV} {l : List Bool} {G : Heap} {D : List Nat} (h : RN (LPl eBo) 1 x l G D) : (x = .p .nil ∧ l = [] ∧ D = []) ∨ ∃ q, x = rowP q l ∧ G q = some (cP fB l) ∧ D = [q] := by
  rcases h with h | ⟨q, cs, D', rfl, hq, hll, rfl⟩
  · exact .inl h
  · obtain ⟨rfl, rfl⟩ := LL.plain' hll
    refine .inr ⟨q, rfl, ?_, rfl⟩
    have e : cells (l.map eBo) = cP fB l := cells_P fB l
    rw [← e]; exact hq
theorem rn_appB {H G : Heap} {Ts : List Th} {x : AV} {xs ys : List Bool} {D : List Nat} (s : St H Ts G) (i : Nat) (hi : Ts[i]? = some (rnB x xs D)) (hl : xs.length + ys.length ≤ 1000000) {K : AV → Heap → Prop}
    (h : ∀ q' G', G q' = none → St H (Ts.set i (rnB (rowP q' (xs ++ ys)) (xs ++ ys) [q'])) G' → K (rowP q' (xs ++ ys)) G') : appendV tab 34 34 x (.p (.sl (ys.map eBo))) G (wkK K) :=
  RN.app (bz := 1) tab_34 rfl tab_4 tab_34 rfl rfl rfl (fun _ => rfl) s i hi rfl (by omega) (by omega) h
theorem lit0B {G : Heap} {K : AV → Heap → Prop} (h : ∀ q, G q = none → K (.sl q 1 0 0) (G.set q [])) : buildSliceV tab 34 0 [] G (wkK K) := by
  simp only [buildSliceV, tab_34, tab_4]
  refine ⟨by omega, ?_⟩
  simp only [fillV, zerosA, List.replicate_zero, List.flatten_nil]
  exact fun r hr => wkK.keep (h r hr)
theorem tr_mem0 {f : List Sd} : ∀ {i : Nat}, i < f.length → ∀ x ∈ trAt f i, x ∈ tr f := by
  intro i hi x hx
  rw [tr, sc_mem, trL, List.mem_cons, List.mem_flatten]
  exact .inr ⟨trAt f i, List.mem_map.2 ⟨i, List.mem_range.2 hi, rfl⟩, hx⟩
theorem assumes_spec (t : List Int) (g node : Int) (hl : t.length ≤ 1000) (hm : node ∈ t) : Pu Try.prog 102 [Is t, I g, I node] (B (saysF t g node)) := by
  refine Pu.of fun H => ?_
  refine W102_ok ?_; simp (maxSteps := 1000000) (disch := (first | assumption | (apply Ne.symm; assumption))) only [W102, vw0, vw1, vw2, vw3, vw4, vu0, vu1, ↓condV_t, ↓condV_f, cap_nil, allocV, splice, partV, buildV, eqFieldsV, eqS, tabs, TK.agg, reduceCtorEq, Array.toList, List.map_cons, List.map_nil, ↓reduceIte, List.length_map, Nat.reduceAdd, Nat.reduceLeDiff, Nat.reduceLT, Nat.reduceMul, Nat.reduceSub, Option.bind_some, Option.map_some, bndV, numV, eI, eU, e8, eB, AV.isCell, Int.reduceToNat, Int.reduceSub, Int.reduceAdd, Int.reduceNeg]
  refine Pu.use (IndexI_spec t node (by omega)) ?_
  rw [if_pos hm]
  (try simp (maxSteps := 1000000) (disch := (first | assumption | (apply Ne.symm; assumption))) only [vw0, vw1, vw2, vw3, vw4, vu0, vu1, ↓condV_t, ↓condV_f, cap_nil, allocV, splice, partV, buildV, eqFieldsV, eqS, tabs, TK.agg, reduceCtorEq, Array.toList, List.map_cons, List.map_nil, ↓reduceIte, List.length_map, Nat.reduceAdd, Nat.reduceLeDiff, Nat.reduceLT, Nat.reduceMul, Nat.reduceSub, Option.bind_some, Option.map_some, bndV, numV, eI, eU, e8, eB, AV.isCell, Int.reduceToNat, Int.reduceSub, Int.reduceAdd, Int.reduceNeg])
  refine ⟨by omega, ?_⟩
  rw [saysF, if_pos hm]; rfl
theorem l13Says_spec (t : List Int) (g node : Int) (hl : t.length ≤ 1000) : Pu Try.prog 98 [Is t, I g, I node] (B (saysF t g node)) := by
  refine Pu.of fun H => ?_
  refine W98_ok ?_; simp (maxSteps := 1000000) (disch := (first | assumption | (apply Ne.symm; assumption))) only [W98, vw0, vw1, vw2, vw3, vw4, vu0, vu1, ↓condV_t, ↓condV_f, cap_nil, allocV, splice, partV, buildV, eqFieldsV, eqS, tabs, TK.agg, reduceCtorEq, Array.toList, List.map_cons, List.map_nil, ↓reduceIte, List.length_map, Nat.reduceAdd, Nat.reduceLeDiff, Nat.reduceLT, Nat.reduceMul, Nat.reduceSub, Option.bind_some, Option.map_some, bndV, numV, eI, eU, e8, eB, AV.isCell, Int.reduceToNat, Int.reduceSub, Int.reduceAdd, Int.reduceNeg]
  refine L98_0_rule (0 : Nat) (fun i => I i) (fun _ => H) (fun i => i ≤ t.length ∧ ∀ j, j < i → t.getD j default ≠ node) (fun i => t.length - i) ⟨⟨by omega, by intros; omega⟩, .refl _, Heap.le_refl _⟩ ?_
  rintro i ⟨hi, ha⟩
  (try simp (maxSteps := 1000000) (disch := (first | assumption | (apply Ne.symm; assumption))) only [vw0, vw1, vw2, vw3, vw4, vu0, vu1, ↓condV_t, ↓condV_f, cap_nil, allocV, splice, partV, buildV, eqFieldsV, eqS, tabs, TK.agg, reduceCtorEq, Array.toList, List.map_cons, List.map_nil, ↓reduceIte, List.length_map, Nat.reduceAdd, Nat.reduceLeDiff, Nat.reduceLT, Nat.reduceMul, Nat.reduceSub, Option.bind_some, Option.map_some, bndV, numV, eI, eU, e8, eB, AV.isCell, Int.reduceToNat, Int.reduceSub, Int.reduceAdd, Int.reduceNeg, B98_0])
  refine ⟨fun h1 => ⟨by omega, h1, fun h2 => ?_, fun h2 => ⟨i + 1, ⟨by omega, fun j hj => ?_⟩, by omega, ?_⟩⟩, fun h1 => ?_⟩
  · have hlt : i < t.length := by omega
    have hm : node ∈ t := by rw [← h2]; exact getD_all (p := fun x => x ∈ t) (fun _ h => h) hlt
    have hix : t.idxOf node = i := by
      rw [List.idxOf, List.findIdx_eq hlt]
      refine ⟨by rw [← getD_lt (d := default) hlt, h2]; simp, fun j hj => ?_⟩
      have := ha j hj
      rw [getD_lt (by omega : j < t.length)] at this
      simpa using this
    have eu : IntKind.u64.wrap (i : Int) = i := by rw [IntKind.wrap_u64]; omega
    rw [eu]
    refine ⟨by omega, ?_⟩
    rw [saysF, if_pos hm, hix]; rfl
  · rcases Nat.lt_succ_iff_lt_or_eq.1 hj with h | rfl
    · exact ha j h
    · exact h2
  · rw [wk_int, i64_id (by omega) (by omega)]; simp
  · have hm : node ∉ t := by
      intro hm
      obtain ⟨j, hj, e⟩ := List.mem_iff_getElem.1 hm
      exact ha j (by omega) (by rw [getD_lt hj]; exact e)
    rw [saysF, if_neg hm]
def frJ (f : List Sd) (k j : Nat) : Nat := if j = 0 then k else if j = 1 then tst f (k - 1) else tst f (tst f (k - 1) - 1)
theorem l10From_spec (f : List Sd) (g : GoodFm f) : ∀ k, k < f.length → Pu Try.prog 99 [Ds f, I k] (I (tst f k)) := by
  intro k
  induction k using Nat.strongRecOn with
  | ind k ih =>
    intro hk
    have hl := g.l1
    have hok := g.ok k hk
    have hnd := sdOk_need hok.1
    refine Pu.of fun H => ?_
    refine W99_ok ?_; simp (maxSteps := 1000000) (disch := (first | assumption | (apply Ne.symm; assumption))) only [W99, vw0, vw1, vw2, vw3, vw4, vu0, vu1, ↓condV_t, ↓condV_f, cap_nil, allocV, splice, partV, buildV, eqFieldsV, eqS, tabs, TK.agg, reduceCtorEq, Array.toList, List.map_cons, List.map_nil, ↓reduceIte, List.length_map, Nat.reduceAdd, Nat.reduceLeDiff, Nat.reduceLT, Nat.reduceMul, Nat.reduceSub, Option.bind_some, Option.map_some, bndV, numV, eI, eU, e8, eB, AV.isCell, Int.reduceToNat, Int.reduceSub, Int.reduceAdd, Int.reduceNeg]
    refine ⟨by omega, by omega, ?_⟩
    refine Pu.use (need_spec.l10Need_spec (f.getD k default).op) ?_
    have t0 : need (f.getD k default).op = 0 → tst f k = k := fun h => tst0 h
    have t1 : need (f.getD k default).op = 1 → 1 ≤ k ∧ tst f k = tst f (k - 1) := fun h => tst1 g hk h
    have t2 : need (f.getD k default).op = 2 → 1 ≤ k ∧ 1 ≤ tst f (k - 1) ∧ tst f (k - 1) ≤ k - 1 ∧ tst f k = tst f (tst f (k - 1) - 1) := fun h => by
      obtain ⟨a, b, c, d, _⟩ := tst2 g hk h; exact ⟨a, b, c, d⟩
    generalize need (f.getD k default).op = m at hnd t0 t1 t2 ⊢
    refine L99_0_rule (0 : Nat) (fun j => I (frJ f k j)) (fun j => I (m - j)) (fun _ => H) (fun j => (j : Int) ≤ m) (fun j => m.toNat - j) ⟨by omega, .refl _, by rw [wk_int]; omega, Heap.le_refl _⟩ ?_
    intro j hj
    (try simp (maxSteps := 1000000) (disch := (first | assumption | (apply Ne.symm; assumption))) only [vw0, vw1, vw2, vw3, vw4, vu0, vu1, ↓condV_t, ↓condV_f, cap_nil, allocV, splice, partV, buildV, eqFieldsV, eqS, tabs, TK.agg, reduceCtorEq, Array.toList, List.map_cons, List.map_nil, ↓reduceIte, List.length_map, Nat.reduceAdd, Nat.reduceLeDiff, Nat.reduceLT, Nat.reduceMul, Nat.reduceSub, Option.bind_some, Option.map_some, bndV, numV, eI, eU, e8, eB, AV.isCell, Int.reduceToNat, Int.reduceSub, Int.reduceAdd, Int.reduceNeg, B99_0])
    refine ⟨fun h1 => ?_, fun h1 => ?_⟩
    · have e1 : IntKind.i64.wrap ((frJ f k j : Int) - 1) = ((frJ f k j - 1 : Nat) : Int) ∧ frJ f k j - 1 < k ∧ tst f (frJ f k j - 1) = frJ f k (j + 1) := by
        rcases (by omega : (j = 0 ∧ m = 1) ∨ (j = 0 ∧ m = 2) ∨ (j = 1 ∧ m = 2)) with ⟨rfl, hm⟩ | ⟨rfl, hm⟩ | ⟨rfl, hm⟩
        · have := t1 hm
          simp only [frJ, if_true]
          rw [i64_id (by omega) (by omega)]
          exact ⟨by omega, by omega, rfl⟩
        · have := t2 hm
          simp only [frJ, if_true]
          rw [i64_id (by omega) (by omega)]
          exact ⟨by omega, by omega, rfl⟩
        · have := t2 hm
          have h9 : frJ f k 1 = tst f (k - 1) := by simp [frJ]
          have h8 : frJ f k 2 = tst f (tst f (k - 1) - 1) := by simp [frJ]
          rw [h9, h8, i64_id (by omega) (by omega)]
          exact ⟨by omega, by omega, rfl⟩
      rw [e1.1]
      refine Pu.use (ih _ e1.2.1 (by omega)) ?_
      rw [e1.2.2]
      (try simp (maxSteps := 1000000) (disch := (first | assumption | (apply Ne.symm; assumption))) only [vw0, vw1, vw2, vw3, vw4, vu0, vu1, ↓condV_t, ↓condV_f, cap_nil, allocV, splice, partV, buildV, eqFieldsV, eqS, tabs, TK.agg, reduceCtorEq, Array.toList, List.map_cons, List.map_nil, ↓reduceIte, List.length_map, Nat.reduceAdd, Nat.reduceLeDiff, Nat.reduceLT, Nat.reduceMul, Nat.reduceSub, Option.bind_some, Option.map_some, bndV, numV, eI, eU, e8, eB, AV.isCell, Int.reduceToNat, Int.reduceSub, Int.reduceAdd, Int.reduceNeg])
      refine ⟨j + 1, by omega, by omega, .refl _, ?_⟩
      rw [wk_int, i64_id (by omega) (by omega)]; omega
    · refine congrArg (fun n : Int => I n) ?_
      rcases (by omega : (j = 0 ∧ m = 0) ∨ (j = 1 ∧ m = 1) ∨ (j = 2 ∧ m = 2)) with ⟨rfl, hm⟩ | ⟨rfl, hm⟩ | ⟨rfl, hm⟩
      · rw [t0 hm]; simp [frJ]
      · rw [(t1 hm).2]; simp [frJ]
      · rw [(t2 hm).2.2.2]; simp [frJ]
theorem mapB_rd {l : List Bool} {i : Nat} (h : i < l.length) : (List.take 1 (List.drop (i * 1) (cP fB l))).headD AV.any = B (l.getD i default) := by
  rw [Nat.mul_one, cP, ← List.map_drop, drop_cons h]; rfl
/-- What a node with operands reads. -/
structure Rd (f : List Sd) (out : List Bool) (i : Nat) : Prop where
  i1 : 1 ≤ i
  il : i - 1 < out.length
theorem evalNow_row (f : List Sd) (g : GoodFm f) (lt nx : Int) (hlt0 : 0 ≤ lt) {H : Heap} {K : AV → Heap → Prop} (h : ∀ q G, New H G [q] → G q = some (cP fB (evL f (tr f) lt nx f.length)) → K (rowP q (evL f (tr f) lt nx f.length)) G) : CallT Try.prog 56 [Ds f, I lt, I nx] H K := by
  have hl := g.l1
  have htl := tr_len f
  refine CallT.fin ?_
  refine W56_ok ?_; simp (maxSteps := 1000000) (disch := (first | assumption | (apply Ne.symm; assumption))) only [W56, vw0, vw1, vw2, vw3, vw4, vu0, vu1, ↓condV_t, ↓condV_f, cap_nil, allocV, splice, partV, buildV, eqFieldsV, eqS, tabs, TK.agg, reduceCtorEq, Array.toList, List.map_cons, List.map_nil, ↓reduceIte, List.length_map, Nat.reduceAdd, Nat.reduceLeDiff, Nat.reduceLT, Nat.reduceMul, Nat.reduceSub, Option.bind_some, Option.map_some, bndV, numV, eI, eU, e8, eB, AV.isCell, Int.reduceToNat, Int.reduceSub, Int.reduceAdd, Int.reduceNeg]
  refine lit0B fun q0 hq0 => ?_
  have st := (St.nil H).push (rnB (.sl q0 1 0 0) [] [q0]) (New.cell hq0 (b := [])) (.inr ⟨q0, [], [], rfl, Heap.set_same _ _ _, ⟨rfl, rfl⟩, rfl⟩)
  generalize H.set q0 [] = G at st ⊢
  refine Pu.use (operandIndexes_spec f g) ?_
  (try simp (maxSteps := 1000000) (disch := (first | assumption | (apply Ne.symm; assumption))) only [vw0, vw1, vw2, vw3, vw4, vu0, vu1, ↓condV_t, ↓condV_f, cap_nil, allocV, splice, partV, buildV, eqFieldsV, eqS, tabs, TK.agg, reduceCtorEq, Array.toList, List.map_cons, List.map_nil, ↓reduceIte, List.length_map, Nat.reduceAdd, Nat.reduceLeDiff, Nat.reduceLT, Nat.reduceMul, Nat.reduceSub, Option.bind_some, Option.map_some, bndV, numV, eI, eU, e8, eB, AV.isCell, Int.reduceToNat, Int.reduceSub, Int.reduceAdd, Int.reduceNeg])
  refine Pu.use (tracked_spec f g) ?_
  (try simp (maxSteps := 1000000) (disch := (first | assumption | (apply Ne.symm; assumption))) only [vw0, vw1, vw2, vw3, vw4, vu0, vu1, ↓condV_t, ↓condV_f, cap_nil, allocV, splice, partV, buildV, eqFieldsV, eqS, tabs, TK.agg, reduceCtorEq, Array.toList, List.map_cons, List.map_nil, ↓reduceIte, List.length_map, Nat.reduceAdd, Nat.reduceLeDiff, Nat.reduceLT, Nat.reduceMul, Nat.reduceSub, Option.bind_some, Option.map_some, bndV, numV, eI, eU, e8, eB, AV.isCell, Int.reduceToNat, Int.reduceSub, Int.reduceAdd, Int.reduceNeg])
  refine L56_0_rule ((0 : Nat), (.sl q0 1 0 0 : AV), [q0], G) (fun s => s.2.1) (fun s => I s.1) (fun s => s.2.2.2)
    (fun s => s.1 ≤ f.length ∧ (s.2.1 ≠ .p .nil) ∧ St H [rnB s.2.1 (evL f (tr f) lt nx s.1) s.2.2.1] s.2.2.2) (fun s => f.length - s.1)
    ⟨⟨by simp, by simp, st⟩, .refl _, .refl _, Heap.le_refl _⟩ ?_
  clear st
  rintro ⟨i, x, D, G⟩ ⟨hi, hx, st⟩
  dsimp only at hi st hx
  obtain ⟨q, rfl, hq, rfl⟩ : ∃ q, x = rowP q (evL f (tr f) lt nx i) ∧ G q = some (cP fB (evL f (tr f) lt nx i)) ∧ D = [q] := by
    rcases rnB_cases (st.get 0 rfl) with ⟨h, _⟩ | h
    · exact absurd h hx
    · exact h
  have hel := evL_len f (tr f) lt nx i
  (try simp (maxSteps := 1000000) (disch := (first | assumption | (apply Ne.symm; assumption))) only [vw0, vw1, vw2, vw3, vw4, vu0, vu1, ↓condV_t, ↓condV_f, cap_nil, allocV, splice, partV, buildV, eqFieldsV, eqS, tabs, TK.agg, reduceCtorEq, Array.toList, List.map_cons, List.map_nil, ↓reduceIte, List.length_map, Nat.reduceAdd, Nat.reduceLeDiff, Nat.reduceLT, Nat.reduceMul, Nat.reduceSub, Option.bind_some, Option.map_some, bndV, numV, eI, eU, e8, eB, AV.isCell, Int.reduceToNat, Int.reduceSub, Int.reduceAdd, Int.reduceNeg, B56_0])
  refine ⟨fun h1 => ⟨by omega, h1, ?_⟩, fun h1 => ?_⟩
  · have hlt : i < f.length := by omega
    have hok := g.ok i hlt
    have hev : evL f (tr f) lt nx (i + 1) = evL f (tr f) lt nx i ++ [evV f (tr f) lt nx (evL f (tr f) lt nx i) i] := rfl
    have hval := evV.eq_1 f (tr f) lt nx (evL f (tr f) lt nx i) i
    have hog := opsA_get f hlt
    have hol := opsA_len f f.length
    have e5 : IntKind.i64.wrap ((i : Int) + 1) = ((i + 1 : Nat) : Int) := by rw [i64_id (by omega) (by omega)]; simp
    have k1 : (f.getD i default).op = 3 ∨ (f.getD i default).op = 4 → 1 ≤ i ∧ opsF f i = [(i : Int) - 1] := fun h => by
      have hn : need (f.getD i default).op = 1 := by rcases h with h | h <;> rw [h] <;> rfl
      exact ⟨(tst1 g hlt hn).1, by rw [opsF, if_neg (by omega), if_pos hn]⟩
    have k2 : (f.getD i default).op = 5 ∨ (f.getD i default).op = 6 ∨ (f.getD i default).op = 7 ∨ (f.getD i default).op = 8 → 1 ≤ i ∧ lft f i < i ∧ opsF f i = [(lft f i : Int), (i : Int) - 1] := fun h => by
      have hn : need (f.getD i default).op = 2 := by rcases h with h | h | h | h <;> rw [h] <;> rfl
      obtain ⟨a, b, c, _⟩ := tst2 g hlt hn
      exact ⟨a, by unfold lft; omega, by rw [opsF, if_neg (by omega), if_neg (by omega), lft]; congr 1; omega⟩
    have m7 : (f.getD i default).op = 7 ∨ (f.getD i default).op = 8 → (i : Int) ∈ tr f := fun h => tr_mem0 hlt _ (by rw [trAt, if_pos h]; simp)
    have m4 : (f.getD i default).op = 4 → (i : Int) - 1 ∈ tr f := fun h => tr_mem0 hlt _ (by rw [trAt, if_neg (by omega), if_pos h]; simp)
    generalize hy : f.getD i default = y at hok hval k1 k2 m7 m4 ⊢
    generalize evL f (tr f) lt nx i = out at hq st hel hev hval ⊢
    generalize evV f (tr f) lt nx out i = b0 at hev hval
    intro r hr
    replace st := st.cell hr [I y.op, I y.n]
    have hq := Heap.le_set (b := [I y.op, I y.n]) hr _ _ hq
    generalize G.set r [I y.op, I y.n] = G2 at st hq ⊢
    (try simp (maxSteps := 1000000) (disch := (first | assumption | (apply Ne.symm; assumption))) only [vw0, vw1, vw2, vw3, vw4, vu0, vu1, ↓condV_t, ↓condV_f, cap_nil, allocV, splice, partV, buildV, eqFieldsV, eqS, tabs, TK.agg, reduceCtorEq, Array.toList, List.map_cons, List.map_nil, ↓reduceIte, List.length_map, Nat.reduceAdd, Nat.reduceLeDiff, Nat.reduceLT, Nat.reduceMul, Nat.reduceSub, Option.bind_some, Option.map_some, bndV, numV, eI, eU, e8, eB, AV.isCell, Int.reduceToNat, Int.reduceSub, Int.reduceAdd, Int.reduceNeg, load_at (st.get 0 rfl)])
    have key : ∀ b, b = b0 → ∀ N : AV → AV → Heap → Prop, (∀ q' G', St H [rnB (rowP q' (evL f (tr f) lt nx (i + 1))) (evL f (tr f) lt nx (i + 1)) [q']] G' → N (rowP q' (evL f (tr f) lt nx (i + 1))) (I ((i + 1 : Nat) : Int)) G') →
        J56_1 (wkK K) N (I lt) (I nx) (rowP q out) (Ls (opsA f f.length)) (Is (tr f)) (B b) (Ds f) (I f.length) (I i) G2 := by
      intro b hb N hN
      rw [← hb] at hev
      (try simp (maxSteps := 1000000) (disch := (first | assumption | (apply Ne.symm; assumption))) only [vw0, vw1, vw2, vw3, vw4, vu0, vu1, ↓condV_t, ↓condV_f, cap_nil, allocV, splice, partV, buildV, eqFieldsV, eqS, tabs, TK.agg, reduceCtorEq, Array.toList, List.map_cons, List.map_nil, ↓reduceIte, List.length_map, Nat.reduceAdd, Nat.reduceLeDiff, Nat.reduceLT, Nat.reduceMul, Nat.reduceSub, Option.bind_some, Option.map_some, bndV, numV, eI, eU, e8, eB, AV.isCell, Int.reduceToNat, Int.reduceSub, Int.reduceAdd, Int.reduceNeg, J56_1, e5])
      refine lit1 tab_34 rfl tab_4 ⟨rfl, rfl⟩ ?_
      refine rn_appB (ys := [b]) st 1 rfl (by simp only [List.length_singleton]; omega) fun q' G' hq' st => ?_
      rw [← hev] at st ⊢
      exact hN _ _ st.drop
    have done : ∀ b, b = b0 → J56_1 (wkK K) (fun w7 w20 H' => ∃ s' : Nat × AV × List Nat × Heap, (s'.1 ≤ f.length ∧ (s'.2.1 ≠ .p .nil) ∧ St H [rnB s'.2.1 (evL f (tr f) lt nx s'.1) s'.2.2.1] s'.2.2.2) ∧ f.length - s'.1 < f.length - i ∧ AV.wk w7 s'.2.1 ∧ AV.wk w20 (I s'.1) ∧ Heap.le s'.2.2.2 H') (I lt) (I nx) (rowP q out) (Ls (opsA f f.length)) (Is (tr f)) (B b) (Ds f) (I f.length) (I i) G2 :=
      fun b hb => key b hb _ fun q' G' st => ⟨(i + 1, rowP q' (evL f (tr f) lt nx (i + 1)), [q'], G'), ⟨by simp only; omega, by simp, st⟩, by simp only; omega, .refl _, .refl _, Heap.le_refl _⟩
    have en : 1 ≤ i → ((i : Int) - 1).toNat = i - 1 := fun _ => by omega
    have r1 : 1 ≤ i → (List.take 1 (List.drop ((i - 1) * 1) (cP fB out))).headD AV.any = B (out.getD (i - 1) default) := fun h => mapB_rd (by omega)
    have r2 : lft f i < i → (List.take 1 (List.drop (lft f i * 1) (cP fB out))).headD AV.any = B (out.getD (lft f i) default) := fun h => mapB_rd (by omega)
    have bd : ∀ k, k < i → k * 1 + 1 ≤ out.length := fun k h => by omega
    refine ⟨fun h1 => ?_, fun h1 => ⟨fun h3 => ?_, fun h3 => ⟨fun h4 => ?_, fun h4 => ⟨fun h5 => ?_, fun h5 => ⟨fun h6 => ?_, fun h6 => ⟨fun h7 => ?_, fun h7 => ⟨fun h8 => ?_, fun h8 => ?_⟩⟩⟩⟩⟩⟩⟩
    · rw [if_pos h1] at hval
      have hn := hok.1
      rw [sdOk, if_pos h1, Bool.and_eq_true, decide_eq_true_eq, decide_eq_true_eq] at hn
      exact ⟨hn.1, done _ hval.symm⟩
    · obtain ⟨i1, ho⟩ := k1 (.inl h3)
      rw [if_neg h1, if_neg (by omega), if_pos h3] at hval
      have b1 := bd (i - 1) (by omega)
      (try simp (maxSteps := 1000000) (disch := (first | assumption | (apply Ne.symm; assumption))) only [vw0, vw1, vw2, vw3, vw4, vu0, vu1, ↓condV_t, ↓condV_f, cap_nil, allocV, splice, partV, buildV, eqFieldsV, eqS, tabs, TK.agg, reduceCtorEq, Array.toList, List.map_cons, List.map_nil, ↓reduceIte, List.length_map, Nat.reduceAdd, Nat.reduceLeDiff, Nat.reduceLT, Nat.reduceMul, Nat.reduceSub, Option.bind_some, Option.map_some, bndV, numV, eI, eU, e8, eB, AV.isCell, Int.reduceToNat, Int.reduceSub, Int.reduceAdd, Int.reduceNeg, hog, ho, hol, List.getD_cons_zero, en i1, load_at hq, r1 i1])
      generalize out.getD (i - 1) default = ob at hval ⊢
      repeat' (with_reducible (first | apply And.intro | intro hh))
      all_goals first | omega | (refine done _ ?_; (first | exact hval.symm | (rw [hval]; (first | rfl | simp [*]))); done) | (refine done false ?_; (first | exact hval.symm | (rw [hval]; (first | rfl | simp [*]))); done) | (refine done true ?_; (first | exact hval.symm | (rw [hval]; (first | rfl | simp [*]))); done)
    · obtain ⟨i1, ho⟩ := k1 (.inr h4)
      rw [if_neg h1, if_neg (by omega), if_neg h3, if_pos h4] at hval
      (try simp (maxSteps := 1000000) (disch := (first | assumption | (apply Ne.symm; assumption))) only [vw0, vw1, vw2, vw3, vw4, vu0, vu1, ↓condV_t, ↓condV_f, cap_nil, allocV, splice, partV, buildV, eqFieldsV, eqS, tabs, TK.agg, reduceCtorEq, Array.toList, List.map_cons, List.map_nil, ↓reduceIte, List.length_map, Nat.reduceAdd, Nat.reduceLeDiff, Nat.reduceLT, Nat.reduceMul, Nat.reduceSub, Option.bind_some, Option.map_some, bndV, numV, eI, eU, e8, eB, AV.isCell, Int.reduceToNat, Int.reduceSub, Int.reduceAdd, Int.reduceNeg, hog, ho, hol, List.getD_cons_zero])
      repeat' (with_reducible (first | apply And.intro | intro hh))
      all_goals first | omega | (refine Pu.use (assumes_spec (tr f) nx ((i : Int) - 1) (by omega) (m4 h4)) ?_; exact done _ hval.symm)
    · obtain ⟨i1, i2, ho⟩ := k2 (.inl h5)
      rw [if_neg h1, if_neg (by omega), if_neg h3, if_neg h4, if_pos h5] at hval
      have b1 := bd (i - 1) (by omega)
      have b2 := bd (lft f i) i2
      (try simp (maxSteps := 1000000) (disch := (first | assumption | (apply Ne.symm; assumption))) only [vw0, vw1, vw2, vw3, vw4, vu0, vu1, ↓condV_t, ↓condV_f, cap_nil, allocV, splice, partV, buildV, eqFieldsV, eqS, tabs, TK.agg, reduceCtorEq, Array.toList, List.map_cons, List.map_nil, ↓reduceIte, List.length_map, Nat.reduceAdd, Nat.reduceLeDiff, Nat.reduceLT, Nat.reduceMul, Nat.reduceSub, Option.bind_some, Option.map_some, bndV, numV, eI, eU, e8, eB, AV.isCell, Int.reduceToNat, Int.reduceSub, Int.reduceAdd, Int.reduceNeg, hog, ho, hol, List.getD_cons_zero, List.getD_cons_succ, Int.toNat_natCast, en i1, load_at hq, r1 i1, r2 i2])
      generalize out.getD (i - 1) default = ob at hval ⊢
      generalize out.getD (lft f i) default = oa at hval ⊢
      repeat' (with_reducible (first | apply And.intro | intro hh))
      all_goals first | omega | (refine done _ ?_; (first | exact hval.symm | (rw [hval]; (first | rfl | simp [*]))); done) | (refine done false ?_; (first | exact hval.symm | (rw [hval]; (first | rfl | simp [*]))); done) | (refine done true ?_; (first | exact hval.symm | (rw [hval]; (first | rfl | simp [*]))); done)
    · obtain ⟨i1, i2, ho⟩ := k2 (.inr (.inl h6))
      rw [if_neg h1, if_neg (by omega), if_neg h3, if_neg h4, if_neg h5, if_pos h6] at hval
      have b1 := bd (i - 1) (by omega)
      have b2 := bd (lft f i) i2
      (try simp (maxSteps := 1000000) (disch := (first | assumption | (apply Ne.symm; assumption))) only [vw0, vw1, vw2, vw3, vw4, vu0, vu1, ↓condV_t, ↓condV_f, cap_nil, allocV, splice, partV, buildV, eqFieldsV, eqS, tabs, TK.agg, reduceCtorEq, Array.toList, List.map_cons, List.map_nil, ↓reduceIte, List.length_map, Nat.reduceAdd, Nat.reduceLeDiff, Nat.reduceLT, Nat.reduceMul, Nat.reduceSub, Option.bind_some, Option.map_some, bndV, numV, eI, eU, e8, eB, AV.isCell, Int.reduceToNat, Int.reduceSub, Int.reduceAdd, Int.reduceNeg, hog, ho, hol, List.getD_cons_zero, List.getD_cons_succ, Int.toNat_natCast, en i1, load_at hq, r1 i1, r2 i2])
      generalize out.getD (i - 1) default = ob at hval ⊢
      generalize out.getD (lft f i) default = oa at hval ⊢
      repeat' (with_reducible (first | apply And.intro | intro hh))
      all_goals first | omega | (refine done _ ?_; (first | exact hval.symm | (rw [hval]; (first | rfl | simp [*]))); done) | (refine done false ?_; (first | exact hval.symm | (rw [hval]; (first | rfl | simp [*]))); done) | (refine done true ?_; (first | exact hval.symm | (rw [hval]; (first | rfl | simp [*]))); done)
    · obtain ⟨i1, i2, ho⟩ := k2 (.inr (.inr (.inl h7)))
      rw [if_neg h1, if_neg (by omega), if_neg h3, if_neg h4, if_neg h5, if_neg h6, if_pos h7] at hval
      have b1 := bd (i - 1) (by omega)
      have b2 := bd (lft f i) i2
      (try simp (maxSteps := 1000000) (disch := (first | assumption | (apply Ne.symm; assumption))) only [vw0, vw1, vw2, vw3, vw4, vu0, vu1, ↓condV_t, ↓condV_f, cap_nil, allocV, splice, partV, buildV, eqFieldsV, eqS, tabs, TK.agg, reduceCtorEq, Array.toList, List.map_cons, List.map_nil, ↓reduceIte, List.length_map, Nat.reduceAdd, Nat.reduceLeDiff, Nat.reduceLT, Nat.reduceMul, Nat.reduceSub, Option.bind_some, Option.map_some, bndV, numV, eI, eU, e8, eB, AV.isCell, Int.reduceToNat, Int.reduceSub, Int.reduceAdd, Int.reduceNeg, hog, ho, hol, List.getD_cons_zero, List.getD_cons_succ, Int.toNat_natCast, en i1, load_at hq, r1 i1, r2 i2])
      generalize out.getD (i - 1) default = ob at hval ⊢
      generalize out.getD (lft f i) default = oa at hval ⊢
      repeat' (with_reducible (first | apply And.intro | intro hh))
      all_goals first | omega | (refine Pu.use (assumes_spec (tr f) nx i (by omega) (m7 (.inl h7))) ?_; refine done _ ?_; (first | exact hval.symm | (rw [hval]; (first | rfl | simp [*]))); done) | (refine done false ?_; (first | exact hval.symm | (rw [hval]; (first | rfl | simp [*]))); done) | (refine done true ?_; (first | exact hval.symm | (rw [hval]; (first | rfl | simp [*]))); done)
    · obtain ⟨i1, i2, ho⟩ := k2 (.inr (.inr (.inr h8)))
      rw [if_neg h1, if_neg (by omega), if_neg h3, if_neg h4, if_neg h5, if_neg h6, if_neg h7] at hval
      have b1 := bd (i - 1) (by omega)
      have b2 := bd (lft f i) i2
      (try simp (maxSteps := 1000000) (disch := (first | assumption | (apply Ne.symm; assumption))) only [vw0, vw1, vw2, vw3, vw4, vu0, vu1, ↓condV_t, ↓condV_f, cap_nil, allocV, splice, partV, buildV, eqFieldsV, eqS, tabs, TK.agg, reduceCtorEq, Array.toList, List.map_cons, List.map_nil, ↓reduceIte, List.length_map, Nat.reduceAdd, Nat.reduceLeDiff, Nat.reduceLT, Nat.reduceMul, Nat.reduceSub, Option.bind_some, Option.map_some, bndV, numV, eI, eU, e8, eB, AV.isCell, Int.reduceToNat, Int.reduceSub, Int.reduceAdd, Int.reduceNeg, hog, ho, hol, List.getD_cons_zero, List.getD_cons_succ, Int.toNat_natCast, en i1, load_at hq, r1 i1, r2 i2])
      generalize out.getD (i - 1) default = ob at hval ⊢
      generalize out.getD (lft f i) default = oa at hval ⊢
      repeat' (with_reducible (first | apply And.intro | intro hh))
      all_goals first | omega | (refine Pu.use (assumes_spec (tr f) nx i (by omega) (m7 (.inr h8))) ?_; refine done _ ?_; (first | exact hval.symm | (rw [hval]; (first | rfl | simp [*]))); done) | (refine done false ?_; (first | exact hval.symm | (rw [hval]; (first | rfl | simp [*]))); done) | (refine done true ?_; (first | exact hval.symm | (rw [hval]; (first | rfl | simp [*]))); done)
    · have h2 : y.op = 2 := by
        have hn := sdOk_need hok.1
        rcases need_cases y.op with h | h | h | h
        · omega
        · omega
        · omega
        · omega
      rw [if_neg h1, if_pos h2] at hval
      exact done _ hval.symm
  · have : i = f.length := by omega
    subst this
    exact wkK.keep (h q G ⟨st.ndT 0 rfl, st.fr _ (List.mem_cons_self ..), st.le⟩ hq)
theorem l13Now_row (f : List Sd) (g : GoodFm f) (t : List Int) (lt nx : Int) (htl : t.length ≤ 1000) (hlt0 : 0 ≤ lt) {H : Heap} {K : AV → Heap → Prop} (h : ∀ q G, New H G [q] → G q = some (cP fB (evL f t lt nx f.length)) → K (rowP q (evL f t lt nx f.length)) G) : CallT Try.prog 54 [Ds f, Is t, I lt, I nx] H K := by
  have hl := g.l1
  have hl0 := g.l0
  refine CallT.fin ?_
  refine W54_ok ?_; simp (maxSteps := 1000000) (disch := (first | assumption | (apply Ne.symm; assumption))) only [W54, vw0, vw1, vw2, vw3, vw4, vu0, vu1, ↓condV_t, ↓condV_f, cap_nil, allocV, splice, partV, buildV, eqFieldsV, eqS, tabs, TK.agg, reduceCtorEq, Array.toList, List.map_cons, List.map_nil, ↓reduceIte, List.length_map, Nat.reduceAdd, Nat.reduceLeDiff, Nat.reduceLT, Nat.reduceMul, Nat.reduceSub, Option.bind_some, Option.map_some, bndV, numV, eI, eU, e8, eB, AV.isCell, Int.reduceToNat, Int.reduceSub, Int.reduceAdd, Int.reduceNeg]
  have st := (St.nil H).push (rnB (.p .nil) [] []) (⟨List.nodup_nil, fun y hy => (by cases hy), Heap.le_refl _⟩ : New H H []) (.inl ⟨rfl, rfl, rfl⟩)
  refine L54_0_rule ((0 : Nat), (.p .nil : AV), ([] : List Nat), H) (fun s => s.2.1) (fun s => I s.1) (fun s => s.2.2.2)
    (fun s => s.1 ≤ f.length ∧ St H [rnB s.2.1 (evL f t lt nx s.1) s.2.2.1] s.2.2.2) (fun s => f.length - s.1)
    ⟨⟨by simp, st⟩, .refl _, .refl _, Heap.le_refl _⟩ ?_
  clear st
  rintro ⟨i, x, D, G⟩ ⟨hi, st⟩
  dsimp only at hi st
  have hel := evL_len f t lt nx i
  have hx : 1 ≤ i → ∃ q, x = rowP q (evL f t lt nx i) ∧ G q = some (cP fB (evL f t lt nx i)) ∧ D = [q] := fun h1 => by
    rcases rnB_cases (st.get 0 rfl) with ⟨_, h, _⟩ | h
    · rw [h] at hel; simp at hel; omega
    · exact h
  (try simp (maxSteps := 1000000) (disch := (first | assumption | (apply Ne.symm; assumption))) only [vw0, vw1, vw2, vw3, vw4, vu0, vu1, ↓condV_t, ↓condV_f, cap_nil, allocV, splice, partV, buildV, eqFieldsV, eqS, tabs, TK.agg, reduceCtorEq, Array.toList, List.map_cons, List.map_nil, ↓reduceIte, List.length_map, Nat.reduceAdd, Nat.reduceLeDiff, Nat.reduceLT, Nat.reduceMul, Nat.reduceSub, Option.bind_some, Option.map_some, bndV, numV, eI, eU, e8, eB, AV.isCell, Int.reduceToNat, Int.reduceSub, Int.reduceAdd, Int.reduceNeg, B54_0])
  refine ⟨fun h1 => ⟨by omega, h1, ?_⟩, fun h1 => ?_⟩
  · have hlt : i < f.length := by omega
    have hok := g.ok i hlt
    have hev : evL f t lt nx (i + 1) = evL f t lt nx i ++ [evV f t lt nx (evL f t lt nx i) i] := rfl
    have hval := evV.eq_1 f t lt nx (evL f t lt nx i) i
    have e5 : IntKind.i64.wrap ((i : Int) + 1) = ((i + 1 : Nat) : Int) := by rw [i64_id (by omega) (by omega)]; simp
    have e1 : IntKind.i64.wrap ((i : Int) - 1) = (i : Int) - 1 := i64_id (by omega) (by omega)
    have e2 : 1 ≤ i → IntKind.i64.wrap ((i : Int) - 1) = ((i - 1 : Nat) : Int) := fun h => by rw [e1]; omega
    have k1 : (f.getD i default).op = 3 ∨ (f.getD i default).op = 4 → 1 ≤ i := fun h => by
      have hn : need (f.getD i default).op = 1 := by rcases h with h | h <;> rw [h] <;> rfl
      exact (tst1 g hlt hn).1
    have k2 : (f.getD i default).op = 5 ∨ (f.getD i default).op = 6 ∨ (f.getD i default).op = 7 ∨ (f.getD i default).op = 8 → 1 ≤ i ∧ lft f i < i ∧ IntKind.i64.wrap ((tst f (i - 1) : Int) - 1) = (lft f i : Nat) := fun h => by
      have hn : need (f.getD i default).op = 2 := by rcases h with h | h | h | h <;> rw [h] <;> rfl
      obtain ⟨a, b, c, _⟩ := tst2 g hlt hn
      exact ⟨a, by unfold lft; omega, by unfold lft; rw [i64_id (by omega) (by omega)]; omega⟩
    have hfr : 1 ≤ i → Pu Try.prog 99 [Ds f, I ((i - 1 : Nat) : Int)] (I (tst f (i - 1))) := fun h => l10From_spec f g (i - 1) (by omega)
    generalize hy : f.getD i default = y at hok hval k1 k2 ⊢
    generalize evL f t lt nx i = out at st hel hev hval hx ⊢
    generalize evV f t lt nx out i = b0 at hev hval
    intro r hr
    replace st := st.cell hr [I y.op, I y.n]
    have hx := fun h1 => Exists.imp (fun q (h : x = rowP q out ∧ G q = some (cP fB out) ∧ D = [q]) => And.intro h.1 (Heap.le_set (b := [I y.op, I y.n]) hr _ _ h.2.1)) (hx h1)
    generalize G.set r [I y.op, I y.n] = G2 at st hx ⊢
    (try simp (maxSteps := 1000000) (disch := (first | assumption | (apply Ne.symm; assumption))) only [vw0, vw1, vw2, vw3, vw4, vu0, vu1, ↓condV_t, ↓condV_f, cap_nil, allocV, splice, partV, buildV, eqFieldsV, eqS, tabs, TK.agg, reduceCtorEq, Array.toList, List.map_cons, List.map_nil, ↓reduceIte, List.length_map, Nat.reduceAdd, Nat.reduceLeDiff, Nat.reduceLT, Nat.reduceMul, Nat.reduceSub, Option.bind_some, Option.map_some, bndV, numV, eI, eU, e8, eB, AV.isCell, Int.reduceToNat, Int.reduceSub, Int.reduceAdd, Int.reduceNeg, load_at (st.get 0 rfl)])
    have key : ∀ b, b = b0 → ∀ N : AV → AV → Heap → Prop, (∀ q' G', St H [rnB (rowP q' (evL f t lt nx (i + 1))) (evL f t lt nx (i + 1)) [q']] G' → N (rowP q' (evL f t lt nx (i + 1))) (I ((i + 1 : Nat) : Int)) G') →
        J54_1 (wkK K) N (Ds f) (Is t) (I lt) (I nx) x (B b) (Ds f) (I f.length) (I i) G2 := by
      intro b hb N hN
      rw [← hb] at hev
      (try simp (maxSteps := 1000000) (disch := (first | assumption | (apply Ne.symm; assumption))) only [vw0, vw1, vw2, vw3, vw4, vu0, vu1, ↓condV_t, ↓condV_f, cap_nil, allocV, splice, partV, buildV, eqFieldsV, eqS, tabs, TK.agg, reduceCtorEq, Array.toList, List.map_cons, List.map_nil, ↓reduceIte, List.length_map, Nat.reduceAdd, Nat.reduceLeDiff, Nat.reduceLT, Nat.reduceMul, Nat.reduceSub, Option.bind_some, Option.map_some, bndV, numV, eI, eU, e8, eB, AV.isCell, Int.reduceToNat, Int.reduceSub, Int.reduceAdd, Int.reduceNeg, J54_1, e5])
      refine lit1 tab_34 rfl tab_4 ⟨rfl, rfl⟩ ?_
      refine rn_appB (ys := [b]) st 1 rfl (by simp only [List.length_singleton]; omega) fun q' G' hq' st => ?_
      rw [← hev] at st ⊢
      exact hN _ _ st.drop
    have done : ∀ b, b = b0 → J54_1 (wkK K) (fun w7 w20 H' => ∃ s' : Nat × AV × List Nat × Heap, (s'.1 ≤ f.length ∧ St H [rnB s'.2.1 (evL f t lt nx s'.1) s'.2.2.1] s'.2.2.2) ∧ f.length - s'.1 < f.length - i ∧ AV.wk w7 s'.2.1 ∧ AV.wk w20 (I s'.1) ∧ Heap.le s'.2.2.2 H') (Ds f) (Is t) (I lt) (I nx) x (B b) (Ds f) (I f.length) (I i) G2 :=
      fun b hb => key b hb _ fun q' G' st => ⟨(i + 1, rowP q' (evL f t lt nx (i + 1)), [q'], G'), ⟨by simp only; omega, st⟩, by simp only; omega, .refl _, .refl _, Heap.le_refl _⟩
    have r1 : 1 ≤ i → (List.take 1 (List.drop ((i - 1) * 1) (cP fB out))).headD AV.any = B (out.getD (i - 1) default) := fun h => mapB_rd (by omega)
    have r2 : lft f i < i → (List.take 1 (List.drop (lft f i * 1) (cP fB out))).headD AV.any = B (out.getD (lft f i) default) := fun h => mapB_rd (by omega)
    have bd : ∀ k, k < i → k * 1 + 1 ≤ out.length := fun k h => by omega
    refine ⟨fun h1 => ?_, fun h1 => ⟨fun h2 => ?_, fun h2 => ⟨fun h3 => ?_, fun h3 => ⟨fun h4 => ?_, fun h4 => ⟨fun h5 => ?_, fun h5 => ⟨fun h6 => ?_, fun h6 => ⟨fun h7 => ?_, fun h7 => ⟨fun h8 => ?_, fun h8 => ?_⟩⟩⟩⟩⟩⟩⟩⟩
    · rw [if_pos h1] at hval
      have hn := hok.1
      rw [sdOk, if_pos h1, Bool.and_eq_true, decide_eq_true_eq, decide_eq_true_eq] at hn
      have eu : IntKind.u64.wrap y.n = y.n := by rw [IntKind.wrap_u64]; omega
      rw [eu]
      exact ⟨hn.1, done _ hval.symm⟩
    · rw [if_neg h1, if_pos h2] at hval
      exact done _ hval.symm
    · have i1 := k1 (.inl h3)
      obtain ⟨q, rfl, hq⟩ := hx i1
      rw [if_neg h1, if_neg h2, if_pos h3] at hval
      have b1 := bd (i - 1) (by omega)
      (try simp (maxSteps := 1000000) (disch := (first | assumption | (apply Ne.symm; assumption))) only [vw0, vw1, vw2, vw3, vw4, vu0, vu1, ↓condV_t, ↓condV_f, cap_nil, allocV, splice, partV, buildV, eqFieldsV, eqS, tabs, TK.agg, reduceCtorEq, Array.toList, List.map_cons, List.map_nil, ↓reduceIte, List.length_map, Nat.reduceAdd, Nat.reduceLeDiff, Nat.reduceLT, Nat.reduceMul, Nat.reduceSub, Option.bind_some, Option.map_some, bndV, numV, eI, eU, e8, eB, AV.isCell, Int.reduceToNat, Int.reduceSub, Int.reduceAdd, Int.reduceNeg, e2 i1, Int.toNat_natCast, load_at hq, r1 i1])
      generalize out.getD (i - 1) default = ob at hval ⊢
      repeat' (with_reducible (first | apply And.intro | intro hh))
      all_goals first | omega | (refine done _ ?_; (first | exact hval.symm | (rw [hval]; (first | rfl | simp [*]))); done) | (refine done false ?_; (first | exact hval.symm | (rw [hval]; (first | rfl | simp [*]))); done) | (refine done true ?_; (first | exact hval.symm | (rw [hval]; (first | rfl | simp [*]))); done)
    · have i1 := k1 (.inr h4)
      obtain ⟨q, rfl, hq⟩ := hx i1
      rw [if_neg h1, if_neg h2, if_neg h3, if_pos h4] at hval
      (try simp (maxSteps := 1000000) (disch := (first | assumption | (apply Ne.symm; assumption))) only [vw0, vw1, vw2, vw3, vw4, vu0, vu1, ↓condV_t, ↓condV_f, cap_nil, allocV, splice, partV, buildV, eqFieldsV, eqS, tabs, TK.agg, reduceCtorEq, Array.toList, List.map_cons, List.map_nil, ↓reduceIte, List.length_map, Nat.reduceAdd, Nat.reduceLeDiff, Nat.reduceLT, Nat.reduceMul, Nat.reduceSub, Option.bind_some, Option.map_some, bndV, numV, eI, eU, e8, eB, AV.isCell, Int.reduceToNat, Int.reduceSub, Int.reduceAdd, Int.reduceNeg, e1])
      refine Pu.use (l13Says_spec t nx ((i : Int) - 1) htl) ?_
      exact done _ hval.symm
    · obtain ⟨i1, i2, i3⟩ := k2 (.inl h5)
      obtain ⟨q, rfl, hq⟩ := hx i1
      rw [if_neg h1, if_neg h2, if_neg h3, if_neg h4, if_pos h5] at hval
      have b1 := bd (i - 1) (by omega)
      have b2 := bd (lft f i) i2
      (try simp (maxSteps := 1000000) (disch := (first | assumption | (apply Ne.symm; assumption))) only [vw0, vw1, vw2, vw3, vw4, vu0, vu1, ↓condV_t, ↓condV_f, cap_nil, allocV, splice, partV, buildV, eqFieldsV, eqS, tabs, TK.agg, reduceCtorEq, Array.toList, List.map_cons, List.map_nil, ↓reduceIte, List.length_map, Nat.reduceAdd, Nat.reduceLeDiff, Nat.reduceLT, Nat.reduceMul, Nat.reduceSub, Option.bind_some, Option.map_some, bndV, numV, eI, eU, e8, eB, AV.isCell, Int.reduceToNat, Int.reduceSub, Int.reduceAdd, Int.reduceNeg, e2 i1])
      refine Pu.use (hfr i1) ?_
      (try simp (maxSteps := 1000000) (disch := (first | assumption | (apply Ne.symm; assumption))) only [vw0, vw1, vw2, vw3, vw4, vu0, vu1, ↓condV_t, ↓condV_f, cap_nil, allocV, splice, partV, buildV, eqFieldsV, eqS, tabs, TK.agg, reduceCtorEq, Array.toList, List.map_cons, List.map_nil, ↓reduceIte, List.length_map, Nat.reduceAdd, Nat.reduceLeDiff, Nat.reduceLT, Nat.reduceMul, Nat.reduceSub, Option.bind_some, Option.map_some, bndV, numV, eI, eU, e8, eB, AV.isCell, Int.reduceToNat, Int.reduceSub, Int.reduceAdd, Int.reduceNeg, e2 i1, i3, Int.toNat_natCast, load_at hq, r1 i1, r2 i2])
      generalize out.getD (i - 1) default = ob at hval ⊢
      generalize out.getD (lft f i) default = oa at hval ⊢
      repeat' (with_reducible (first | apply And.intro | intro hh))
      all_goals first | omega | (refine done _ ?_; (first | exact hval.symm | (rw [hval]; (first | rfl | simp [*]))); done) | (refine done false ?_; (first | exact hval.symm | (rw [hval]; (first | rfl | simp [*]))); done) | (refine done true ?_; (first | exact hval.symm | (rw [hval]; (first | rfl | simp [*]))); done)
    · obtain ⟨i1, i2, i3⟩ := k2 (.inr (.inl h6))
      obtain ⟨q, rfl, hq⟩ := hx i1
      rw [if_neg h1, if_neg h2, if_neg h3, if_neg h4, if_neg h5, if_pos h6] at hval
      have b1 := bd (i - 1) (by omega)
      have b2 := bd (lft f i) i2
      (try simp (maxSteps := 1000000) (disch := (first | assumption | (apply Ne.symm; assumption))) only [vw0, vw1, vw2, vw3, vw4, vu0, vu1, ↓condV_t, ↓condV_f, cap_nil, allocV, splice, partV, buildV, eqFieldsV, eqS, tabs, TK.agg, reduceCtorEq, Array.toList, List.map_cons, List.map_nil, ↓reduceIte, List.length_map, Nat.reduceAdd, Nat.reduceLeDiff, Nat.reduceLT, Nat.reduceMul, Nat.reduceSub, Option.bind_some, Option.map_some, bndV, numV, eI, eU, e8, eB, AV.isCell, Int.reduceToNat, Int.reduceSub, Int.reduceAdd, Int.reduceNeg, e2 i1])
      refine Pu.use (hfr i1) ?_
      (try simp (maxSteps := 1000000) (disch := (first | assumption | (apply Ne.symm; assumption))) only [vw0, vw1, vw2, vw3, vw4, vu0, vu1, ↓condV_t, ↓condV_f, cap_nil, allocV, splice, partV, buildV, eqFieldsV, eqS, tabs, TK.agg, reduceCtorEq, Array.toList, List.map_cons, List.map_nil, ↓reduceIte, List.length_map, Nat.reduceAdd, Nat.reduceLeDiff, Nat.reduceLT, Nat.reduceMul, Nat.reduceSub, Option.bind_some, Option.map_some, bndV, numV, eI, eU, e8, eB, AV.isCell, Int.reduceToNat, Int.reduceSub, Int.reduceAdd, Int.reduceNeg, e2 i1, i3, Int.toNat_natCast, load_at hq, r1 i1, r2 i2])
      generalize out.getD (i - 1) default = ob at hval ⊢
      generalize out.getD (lft f i) default = oa at hval ⊢
      repeat' (with_reducible (first | apply And.intro | intro hh))
      all_goals first | omega | (refine done _ ?_; (first | exact hval.symm | (rw [hval]; (first | rfl | simp [*]))); done) | (refine done false ?_; (first | exact hval.symm | (rw [hval]; (first | rfl | simp [*]))); done) | (refine done true ?_; (first | exact hval.symm | (rw [hval]; (first | rfl | simp [*]))); done)
    · obtain ⟨i1, i2, i3⟩ := k2 (.inr (.inr (.inl h7)))
      obtain ⟨q, rfl, hq⟩ := hx i1
      rw [if_neg h1, if_neg h2, if_neg h3, if_neg h4, if_neg h5, if_neg h6, if_pos h7] at hval
      have b1 := bd (i - 1) (by omega)
      have b2 := bd (lft f i) i2
      (try simp (maxSteps := 1000000) (disch := (first | assumption | (apply Ne.symm; assumption))) only [vw0, vw1, vw2, vw3, vw4, vu0, vu1, ↓condV_t, ↓condV_f, cap_nil, allocV, splice, partV, buildV, eqFieldsV, eqS, tabs, TK.agg, reduceCtorEq, Array.toList, List.map_cons, List.map_nil, ↓reduceIte, List.length_map, Nat.reduceAdd, Nat.reduceLeDiff, Nat.reduceLT, Nat.reduceMul, Nat.reduceSub, Option.bind_some, Option.map_some, bndV, numV, eI, eU, e8, eB, AV.isCell, Int.reduceToNat, Int.reduceSub, Int.reduceAdd, Int.reduceNeg, e2 i1, Int.toNat_natCast, load_at hq, r1 i1])
      generalize out.getD (i - 1) default = ob at hval ⊢
      repeat' (with_reducible (first | apply And.intro | intro hh))
      all_goals first | omega | (refine done false ?_; (first | exact hval.symm | (rw [hval]; (first | rfl | simp [*]))); done) | (refine done true ?_; (first | exact hval.symm | (rw [hval]; (first | rfl | simp [*]))); done) | skip
      refine Pu.use (hfr i1) ?_
      (try simp (maxSteps := 1000000) (disch := (first | assumption | (apply Ne.symm; assumption))) only [vw0, vw1, vw2, vw3, vw4, vu0, vu1, ↓condV_t, ↓condV_f, cap_nil, allocV, splice, partV, buildV, eqFieldsV, eqS, tabs, TK.agg, reduceCtorEq, Array.toList, List.map_cons, List.map_nil, ↓reduceIte, List.length_map, Nat.reduceAdd, Nat.reduceLeDiff, Nat.reduceLT, Nat.reduceMul, Nat.reduceSub, Option.bind_some, Option.map_some, bndV, numV, eI, eU, e8, eB, AV.isCell, Int.reduceToNat, Int.reduceSub, Int.reduceAdd, Int.reduceNeg, i3, Int.toNat_natCast, load_at hq, r2 i2])
      generalize out.getD (lft f i) default = oa at hval ⊢
      repeat' (with_reducible (first | apply And.intro | intro hh))
      all_goals first | omega | (refine Pu.use (l13Says_spec t nx i htl) ?_; refine done _ ?_; (first | exact hval.symm | (rw [hval]; (first | rfl | simp [*]))); done) | (refine done false ?_; (first | exact hval.symm | (rw [hval]; (first | rfl | simp [*]))); done) | (refine done true ?_; (first | exact hval.symm | (rw [hval]; (first | rfl | simp [*]))); done)
    · obtain ⟨i1, i2, i3⟩ := k2 (.inr (.inr (.inr h8)))
      obtain ⟨q, rfl, hq⟩ := hx i1
      rw [if_neg h1, if_neg h2, if_neg h3, if_neg h4, if_neg h5, if_neg h6, if_neg h7] at hval
      have b1 := bd (i - 1) (by omega)
      have b2 := bd (lft f i) i2
      (try simp (maxSteps := 1000000) (disch := (first | assumption | (apply Ne.symm; assumption))) only [vw0, vw1, vw2, vw3, vw4, vu0, vu1, ↓condV_t, ↓condV_f, cap_nil, allocV, splice, partV, buildV, eqFieldsV, eqS, tabs, TK.agg, reduceCtorEq, Array.toList, List.map_cons, List.map_nil, ↓reduceIte, List.length_map, Nat.reduceAdd, Nat.reduceLeDiff, Nat.reduceLT, Nat.reduceMul, Nat.reduceSub, Option.bind_some, Option.map_some, bndV, numV, eI, eU, e8, eB, AV.isCell, Int.reduceToNat, Int.reduceSub, Int.reduceAdd, Int.reduceNeg, e2 i1, Int.toNat_natCast, load_at hq, r1 i1])
      generalize out.getD (i - 1) default = ob at hval ⊢
      repeat' (with_reducible (first | apply And.intro | intro hh))
      all_goals first | omega | (refine done false ?_; (first | exact hval.symm | (rw [hval]; (first | rfl | simp [*]))); done) | (refine done true ?_; (first | exact hval.symm | (rw [hval]; (first | rfl | simp [*]))); done) | skip
      refine Pu.use (hfr i1) ?_
      (try simp (maxSteps := 1000000) (disch := (first | assumption | (apply Ne.symm; assumption))) only [vw0, vw1, vw2, vw3, vw4, vu0, vu1, ↓condV_t, ↓condV_f, cap_nil, allocV, splice, partV, buildV, eqFieldsV, eqS, tabs, TK.agg, reduceCtorEq, Array.toList, List.map_cons, List.map_nil, ↓reduceIte, List.length_map, Nat.reduceAdd, Nat.reduceLeDiff, Nat.reduceLT, Nat.reduceMul, Nat.reduceSub, Option.bind_some, Option.map_some, bndV, numV, eI, eU, e8, eB, AV.isCell, Int.reduceToNat, Int.reduceSub, Int.reduceAdd, Int.reduceNeg, i3, Int.toNat_natCast, load_at hq, r2 i2])
      generalize out.getD (lft f i) default = oa at hval ⊢
      repeat' (with_reducible (first | apply And.intro | intro hh))
      all_goals first | omega | (refine Pu.use (l13Says_spec t nx i htl) ?_; refine done _ ?_; (first | exact hval.symm | (rw [hval]; (first | rfl | simp [*]))); done) | (refine done false ?_; (first | exact hval.symm | (rw [hval]; (first | rfl | simp [*]))); done) | (refine done true ?_; (first | exact hval.symm | (rw [hval]; (first | rfl | simp [*]))); done)
    · exfalso
      have hn := sdOk_need hok.1
      rcases need_cases y.op with h | h | h | h <;> omega
  · have : i = f.length := by omega
    subst this
    obtain ⟨q, rfl, hq, rfl⟩ := hx hl0
    exact wkK.keep (h q G ⟨st.ndT 0 rfl, st.fr _ (List.mem_cons_self ..), st.le⟩ hq)
end Go.Proofs.Ytoeabliackaibaa
