/- Specs: BothAutos, by the program (end); steps and pairs, by the reference. -/
import Derived.Test.YtfbaijpanbjmpaaMi1
import Derived.Test.YtfbaijpanbjmpaaMa8
namespace Go.Proofs.Ytfbaijpanbjmpaa
open Go Go.Sep Go.Pt
set_option linter.unusedSimpArgs false
set_option linter.unusedVariables false
attribute [local irreducible] CallT

theorem Both_impl (a b : Au) (sa : smAu a) (sb : smAu b) {H : Heap} {K : AV → Heap → Prop} (h : ∀ v G D, LAu (boR a b).1 v G D → New H G D → K (.tup [v, B (boR a b).2]) G) : CallT Try.prog 29 [aAu a, aAu b] H K := by
  refine CallT.fin ?_
  refine lend3 (St.nil H) W29_hb fun z1 z2 z3 G st => ?_
  refine W29_ok ?_; simp (maxSteps := 1000000) (disch := (first | assumption | (apply Ne.symm; assumption))) only [W29, vw0, vw1, vw2, vw3, vw4, vu0, vu1, ↓condV_t, ↓condV_f, cap_nil, allocV, splice, partV, buildV, eqFieldsV, eqS, tabs, TK.agg, reduceCtorEq, Array.toList, List.map_cons, List.map_nil, ↓reduceIte, List.length_map, Nat.reduceAdd, Nat.reduceLeDiff, Nat.reduceLT, Nat.reduceMul, Nat.reduceSub, Option.bind_some, Option.map_some, bndV, numV, eI, eU, e8, eB, AV.isCell, Int.reduceToNat, Int.reduceSub, Int.reduceAdd, Int.reduceNeg]
  intro r2 hr2 r3 n3 hr3 r4 n4 n4' hr4
  replace st := ((st.cell hr2 [I a.states, Is a.first, Es a.edges, Ls a.goals]).cell (r := r3) (by rw [Heap.set_other n3]; exact hr3) [I b.states, Is b.first, Es b.edges, Ls b.goals]).cell (r := r4) (by rw [Heap.set_other n4, Heap.set_other n4']; exact hr4) [I 0, .p .nil, .p .nil, .p .nil]
  generalize ((G.set r2 [I a.states, Is a.first, Es a.edges, Ls a.goals]).set r3 [I b.states, Is b.first, Es b.edges, Ls b.goals]).set r4 [I 0, .p .nil, .p .nil, .p .nil] = G1 at st ⊢
  clear hr2 hr3 n3 hr4 n4 n4'
  have bad : boR a b = (zeroA, false) → wkK K (.tup [zA, B false]) (G1.set r4 [I 0, .p .nil, .p .nil, .p .nil]) := fun er => by
    rw [er] at h
    exact zero_st (st.put 0 rfl [I 0, .p .nil, .p .nil, .p .nil]) 3 4 5 rfl rfl rfl (by decide) (by decide) (by decide) h
  (try simp (maxSteps := 1000000) (disch := (first | assumption | (apply Ne.symm; assumption))) only [vw0, vw1, vw2, vw3, vw4, vu0, vu1, ↓condV_t, ↓condV_f, cap_nil, allocV, splice, partV, buildV, eqFieldsV, eqS, tabs, TK.agg, reduceCtorEq, Array.toList, List.map_cons, List.map_nil, ↓reduceIte, List.length_map, Nat.reduceAdd, Nat.reduceLeDiff, Nat.reduceLT, Nat.reduceMul, Nat.reduceSub, Option.bind_some, Option.map_some, bndV, numV, eI, eU, e8, eB, AV.isCell, Int.reduceToNat, Int.reduceSub, Int.reduceAdd, Int.reduceNeg, load_at (st.get 2 rfl)])
  refine Pu.use (GoodAuto_impl a sa) ?_
  cases ga : goodA a
  · (try simp (maxSteps := 1000000) (disch := (first | assumption | (apply Ne.symm; assumption))) only [vw0, vw1, vw2, vw3, vw4, vu0, vu1, ↓condV_t, ↓condV_f, cap_nil, allocV, splice, partV, buildV, eqFieldsV, eqS, tabs, TK.agg, reduceCtorEq, Array.toList, List.map_cons, List.map_nil, ↓reduceIte, List.length_map, Nat.reduceAdd, Nat.reduceLeDiff, Nat.reduceLT, Nat.reduceMul, Nat.reduceSub, Option.bind_some, Option.map_some, bndV, numV, eI, eU, e8, eB, AV.isCell, Int.reduceToNat, Int.reduceSub, Int.reduceAdd, Int.reduceNeg, store_at (st.get 0 rfl)])
    exact bad (by simp [boR, ga])
  (try simp (maxSteps := 1000000) (disch := (first | assumption | (apply Ne.symm; assumption))) only [vw0, vw1, vw2, vw3, vw4, vu0, vu1, ↓condV_t, ↓condV_f, cap_nil, allocV, splice, partV, buildV, eqFieldsV, eqS, tabs, TK.agg, reduceCtorEq, Array.toList, List.map_cons, List.map_nil, ↓reduceIte, List.length_map, Nat.reduceAdd, Nat.reduceLeDiff, Nat.reduceLT, Nat.reduceMul, Nat.reduceSub, Option.bind_some, Option.map_some, bndV, numV, eI, eU, e8, eB, AV.isCell, Int.reduceToNat, Int.reduceSub, Int.reduceAdd, Int.reduceNeg, load_at (st.get 1 rfl)])
  refine Pu.use (GoodAuto_impl b sb) ?_
  cases gb : goodA b
  · (try simp (maxSteps := 1000000) (disch := (first | assumption | (apply Ne.symm; assumption))) only [vw0, vw1, vw2, vw3, vw4, vu0, vu1, ↓condV_t, ↓condV_f, cap_nil, allocV, splice, partV, buildV, eqFieldsV, eqS, tabs, TK.agg, reduceCtorEq, Array.toList, List.map_cons, List.map_nil, ↓reduceIte, List.length_map, Nat.reduceAdd, Nat.reduceLeDiff, Nat.reduceLT, Nat.reduceMul, Nat.reduceSub, Option.bind_some, Option.map_some, bndV, numV, eI, eU, e8, eB, AV.isCell, Int.reduceToNat, Int.reduceSub, Int.reduceAdd, Int.reduceNeg, store_at (st.get 0 rfl)])
    exact bad (by simp [boR, ga, gb])
  have fa := good_facts ga
  have fb := good_facts gb
  have hsa := fa.st
  have hsb := fb.st
  have hm := mul_bd (a := a.states) (A := 96) (b := b.states) (B := 96) (by omega) (by omega)
  have e0 : IntKind.i64.wrap (a.states * b.states) = a.states * b.states := i64_id (by omega) (by omega)
  (try simp (maxSteps := 1000000) (disch := (first | assumption | (apply Ne.symm; assumption))) only [vw0, vw1, vw2, vw3, vw4, vu0, vu1, ↓condV_t, ↓condV_f, cap_nil, allocV, splice, partV, buildV, eqFieldsV, eqS, tabs, TK.agg, reduceCtorEq, Array.toList, List.map_cons, List.map_nil, ↓reduceIte, List.length_map, Nat.reduceAdd, Nat.reduceLeDiff, Nat.reduceLT, Nat.reduceMul, Nat.reduceSub, Option.bind_some, Option.map_some, bndV, numV, eI, eU, e8, eB, AV.isCell, Int.reduceToNat, Int.reduceSub, Int.reduceAdd, Int.reduceNeg, load_at (st.get 2 rfl), load_at (st.get 1 rfl), e0, store_at (st.get 0 rfl)])
  refine ⟨fun h1 => bad (by simp [boR, ga, gb]; omega), fun h1 => ?_⟩
  have hN : a.states * b.states ≤ 96 := by omega
  have hsm := boT_sm ga gb hN
  have er : boR a b = if goodA (boT a b) then (boT a b, true) else (zeroA, false) := by simp [boR, ga, gb, hN]
  refine both_live ga gb hN fun v G2 D lv nv => ?_
  rw [er] at bad h
  generalize boT a b = o at h bad lv hsm
  replace st := st.push (auT o v D) nv lv
  refine checkedAuto_live (o := o) (st.get 0 rfl) (st.ndT 0 rfl) hsm (fun hg => ?_) (fun hg => ?_)
  · obtain ⟨o1, o2, o3, rfl⟩ := aAu_cells lv
    simp only [hg, if_true] at h
    (try simp (maxSteps := 1000000) (disch := (first | assumption | (apply Ne.symm; assumption))) only [vw0, vw1, vw2, vw3, vw4, vu0, vu1, ↓condV_t, ↓condV_f, cap_nil, allocV, splice, partV, buildV, eqFieldsV, eqS, tabs, TK.agg, reduceCtorEq, Array.toList, List.map_cons, List.map_nil, ↓reduceIte, List.length_map, Nat.reduceAdd, Nat.reduceLeDiff, Nat.reduceLT, Nat.reduceMul, Nat.reduceSub, Option.bind_some, Option.map_some, bndV, numV, eI, eU, e8, eB, AV.isCell, Int.reduceToNat, Int.reduceSub, Int.reduceAdd, Int.reduceNeg, store_at (st.get 1 rfl)])
    obtain ⟨hl, hn⟩ := au_new (st.put 1 rfl [I o.states, .sl o1 1 0 o.first.length, .sl o2 3 0 o.edges.length, .sl o3 1 0 o.goals.length]) 0 rfl
    exact wkK.keep (h _ _ _ hl hn)
  · simp only [hg, Bool.false_eq_true, if_false] at h
    (try simp (maxSteps := 1000000) (disch := (first | assumption | (apply Ne.symm; assumption))) only [vw0, vw1, vw2, vw3, vw4, vu0, vu1, ↓condV_t, ↓condV_f, cap_nil, allocV, splice, partV, buildV, eqFieldsV, eqS, tabs, TK.agg, reduceCtorEq, Array.toList, List.map_cons, List.map_nil, ↓reduceIte, List.length_map, Nat.reduceAdd, Nat.reduceLeDiff, Nat.reduceLT, Nat.reduceMul, Nat.reduceSub, Option.bind_some, Option.map_some, bndV, numV, eI, eU, e8, eB, AV.isCell, Int.reduceToNat, Int.reduceSub, Int.reduceAdd, Int.reduceNeg, store_at (st.get 1 rfl)])
    exact zero_st (st.put 1 rfl [I 0, .p .nil, .p .nil, .p .nil]) 4 5 6 rfl rfl rfl (by decide) (by decide) (by decide) h
theorem l11List_spec (bs : List Bool) (hl : bs.length ≤ 100000) : Pu Try.prog 99 [Bls bs] (Is (gw bs.length fun k => bs.getD k default)) := by
  refine ⟨fun H => CallT.fin ?_⟩
  refine CallT.ghost W99_hb fun q0 hq0 => ?_
  refine W99_ok ?_; simp (maxSteps := 1000000) (disch := (first | assumption | (apply Ne.symm; assumption))) only [W99, vw0, vw1, vw2, vw3, vw4, vu0, vu1, ↓condV_t, ↓condV_f, cap_nil, allocV, splice, partV, buildV, eqFieldsV, eqS, tabs, TK.agg, reduceCtorEq, Array.toList, List.map_cons, List.map_nil, ↓reduceIte, List.length_map, Nat.reduceAdd, Nat.reduceLeDiff, Nat.reduceLT, Nat.reduceMul, Nat.reduceSub, Option.bind_some, Option.map_some, bndV, numV, eI, eU, e8, eB, AV.isCell, Int.reduceToNat, Int.reduceSub, Int.reduceAdd, Int.reduceNeg]
  refine L99_0_rule ((0 : Nat), q0) (fun s => rowP s.2 (gw s.1 fun k => bs.getD k default)) (fun s => I s.1) (fun s => H.set s.2 (cP fI (gw s.1 fun k => bs.getD k default))) (fun s => s.1 ≤ bs.length ∧ H s.2 = none) (fun s => bs.length - s.1) ⟨⟨by simp, hq0⟩, .nilo _ _ _, .refl _, Heap.le_refl _⟩ ?_
  rintro ⟨i, q⟩ ⟨hi, hq⟩
  dsimp only at hi hq
  have hml := gw_len i fun k => bs.getD k default
  have hsucc := gw_succ i fun k => bs.getD k default
  (try simp (maxSteps := 1000000) (disch := (first | assumption | (apply Ne.symm; assumption))) only [vw0, vw1, vw2, vw3, vw4, vu0, vu1, ↓condV_t, ↓condV_f, cap_nil, allocV, splice, partV, buildV, eqFieldsV, eqS, tabs, TK.agg, reduceCtorEq, Array.toList, List.map_cons, List.map_nil, ↓reduceIte, List.length_map, Nat.reduceAdd, Nat.reduceLeDiff, Nat.reduceLT, Nat.reduceMul, Nat.reduceSub, Option.bind_some, Option.map_some, bndV, numV, eI, eU, e8, eB, AV.isCell, Int.reduceToNat, Int.reduceSub, Int.reduceAdd, Int.reduceNeg, B99_0])
  refine ⟨fun h1 => ⟨by omega, h1, ?_⟩, fun h1 => ?_⟩
  · have e5 : IntKind.i64.wrap ((i : Int) + 1) = ((i + 1 : Nat) : Int) := by rw [i64_id (by omega) (by omega)]; simp
    generalize bs.getD i default = c at hsucc ⊢
    (try simp (maxSteps := 1000000) (disch := (first | assumption | (apply Ne.symm; assumption))) only [vw0, vw1, vw2, vw3, vw4, vu0, vu1, ↓condV_t, ↓condV_f, cap_nil, allocV, splice, partV, buildV, eqFieldsV, eqS, tabs, TK.agg, reduceCtorEq, Array.toList, List.map_cons, List.map_nil, ↓reduceIte, List.length_map, Nat.reduceAdd, Nat.reduceLeDiff, Nat.reduceLT, Nat.reduceMul, Nat.reduceSub, Option.bind_some, Option.map_some, bndV, numV, eI, eU, e8, eB, AV.isCell, Int.reduceToNat, Int.reduceSub, Int.reduceAdd, Int.reduceNeg, e5])
    cases c
    · rw [if_neg (by decide)] at hsucc
      (try simp (maxSteps := 1000000) (disch := (first | assumption | (apply Ne.symm; assumption))) only [vw0, vw1, vw2, vw3, vw4, vu0, vu1, ↓condV_t, ↓condV_f, cap_nil, allocV, splice, partV, buildV, eqFieldsV, eqS, tabs, TK.agg, reduceCtorEq, Array.toList, List.map_cons, List.map_nil, ↓reduceIte, List.length_map, Nat.reduceAdd, Nat.reduceLeDiff, Nat.reduceLT, Nat.reduceMul, Nat.reduceSub, Option.bind_some, Option.map_some, bndV, numV, eI, eU, e8, eB, AV.isCell, Int.reduceToNat, Int.reduceSub, Int.reduceAdd, Int.reduceNeg, e5])
      exact ⟨(i + 1, q), ⟨by simp only; omega, hq⟩, by simp only; omega, by rw [hsucc]; exact .refl _, .refl _, by rw [hsucc]; exact Heap.le_refl _⟩
    · rw [if_pos rfl] at hsucc
      (try simp (maxSteps := 1000000) (disch := (first | assumption | (apply Ne.symm; assumption))) only [vw0, vw1, vw2, vw3, vw4, vu0, vu1, ↓condV_t, ↓condV_f, cap_nil, allocV, splice, partV, buildV, eqFieldsV, eqS, tabs, TK.agg, reduceCtorEq, Array.toList, List.map_cons, List.map_nil, ↓reduceIte, List.length_map, Nat.reduceAdd, Nat.reduceLeDiff, Nat.reduceLT, Nat.reduceMul, Nat.reduceSub, Option.bind_some, Option.map_some, bndV, numV, eI, eU, e8, eB, AV.isCell, Int.reduceToNat, Int.reduceSub, Int.reduceAdd, Int.reduceNeg, e5])
      refine push_topI hq (by omega) fun q' hq' => ?_
      rw [← hsucc]
      (try simp (maxSteps := 1000000) (disch := (first | assumption | (apply Ne.symm; assumption))) only [vw0, vw1, vw2, vw3, vw4, vu0, vu1, ↓condV_t, ↓condV_f, cap_nil, allocV, splice, partV, buildV, eqFieldsV, eqS, tabs, TK.agg, reduceCtorEq, Array.toList, List.map_cons, List.map_nil, ↓reduceIte, List.length_map, Nat.reduceAdd, Nat.reduceLeDiff, Nat.reduceLT, Nat.reduceMul, Nat.reduceSub, Option.bind_some, Option.map_some, bndV, numV, eI, eU, e8, eB, AV.isCell, Int.reduceToNat, Int.reduceSub, Int.reduceAdd, Int.reduceNeg, e5])
      exact ⟨(i + 1, q'), ⟨by simp only; omega, hq'⟩, by simp only; omega, .refl _, .refl _, Heap.le_refl _⟩
  · have : i = bs.length := by omega
    subst this
    exact fin_int hq (Heap.le_refl _)
theorem l12Pairs_row (us vs : List Int) (m : Int) (hu : smI us) (hv : smI vs) (hul : us.length ≤ 96) (hvl : vs.length ≤ 96) (hm : 0 ≤ m ∧ m ≤ 96) {H : Heap} {K : AV → Heap → Prop} (h : ∀ q, H q = none → K (rowP q (prs us vs m)) (H.set q (cP fI (prs us vs m)))) : CallT Try.prog 72 [Is us, Is vs, I m] H K := by
  refine CallT.fin ?_
  refine CallT.ghost W72_hb fun q0 hq0 => ?_
  refine W72_ok ?_; simp (maxSteps := 1000000) (disch := (first | assumption | (apply Ne.symm; assumption))) only [W72, vw0, vw1, vw2, vw3, vw4, vu0, vu1, ↓condV_t, ↓condV_f, cap_nil, allocV, splice, partV, buildV, eqFieldsV, eqS, tabs, TK.agg, reduceCtorEq, Array.toList, List.map_cons, List.map_nil, ↓reduceIte, List.length_map, Nat.reduceAdd, Nat.reduceLeDiff, Nat.reduceLT, Nat.reduceMul, Nat.reduceSub, Option.bind_some, Option.map_some, bndV, numV, eI, eU, e8, eB, AV.isCell, Int.reduceToNat, Int.reduceSub, Int.reduceAdd, Int.reduceNeg]
  refine L72_0_rule ((0 : Nat), q0) (fun s => rowP s.2 (prs (us.take s.1) vs m)) (fun s => I s.1) (fun s => H.set s.2 (cP fI (prs (us.take s.1) vs m))) (fun s => s.1 ≤ us.length ∧ H s.2 = none) (fun s => us.length - s.1) ⟨⟨by simp, hq0⟩, .nilo _ _ _, .refl _, by simpa [prs, cP] using Heap.le_refl _⟩ ?_
  rintro ⟨i, q⟩ ⟨hi, hq⟩
  dsimp only at hi hq
  have hpl := prs_len (us.take i) vs m
  rw [List.length_take, Nat.min_eq_left hi] at hpl
  have hml : i * vs.length ≤ 96 * 96 := Nat.mul_le_mul (by omega) (by omega)
  (try simp (maxSteps := 1000000) (disch := (first | assumption | (apply Ne.symm; assumption))) only [vw0, vw1, vw2, vw3, vw4, vu0, vu1, ↓condV_t, ↓condV_f, cap_nil, allocV, splice, partV, buildV, eqFieldsV, eqS, tabs, TK.agg, reduceCtorEq, Array.toList, List.map_cons, List.map_nil, ↓reduceIte, List.length_map, Nat.reduceAdd, Nat.reduceLeDiff, Nat.reduceLT, Nat.reduceMul, Nat.reduceSub, Option.bind_some, Option.map_some, bndV, numV, eI, eU, e8, eB, AV.isCell, Int.reduceToNat, Int.reduceSub, Int.reduceAdd, Int.reduceNeg, B72_0])
  refine ⟨fun h1 => ⟨by omega, h1, ?_⟩, fun h1 => ?_⟩
  · have hlti : i < us.length := by omega
    have hps := prs_succ us vs m hlti
    have hx := getD_all (p := fun x => 0 ≤ x ∧ x ≤ 100000) (d := default) hu.2 hlti
    generalize us.getD i default = e at hps hx ⊢
    refine L72_1_rule ((0 : Nat), q) (fun s => rowP s.2 (prs (us.take i) vs m ++ (vs.take s.1).map fun j => e * m + j)) (fun s => I s.1) (fun s => H.set s.2 (cP fI (prs (us.take i) vs m ++ (vs.take s.1).map fun j => e * m + j))) (fun s => s.1 ≤ vs.length ∧ H s.2 = none) (fun s => vs.length - s.1) ⟨⟨by simp, hq⟩, by simp; exact .refl _, .refl _, by simpa using Heap.le_refl _⟩ ?_
    clear hq
    rintro ⟨j, q⟩ ⟨hj, hq⟩
    dsimp only at hj hq
    (try simp (maxSteps := 1000000) (disch := (first | assumption | (apply Ne.symm; assumption))) only [vw0, vw1, vw2, vw3, vw4, vu0, vu1, ↓condV_t, ↓condV_f, cap_nil, allocV, splice, partV, buildV, eqFieldsV, eqS, tabs, TK.agg, reduceCtorEq, Array.toList, List.map_cons, List.map_nil, ↓reduceIte, List.length_map, Nat.reduceAdd, Nat.reduceLeDiff, Nat.reduceLT, Nat.reduceMul, Nat.reduceSub, Option.bind_some, Option.map_some, bndV, numV, eI, eU, e8, eB, AV.isCell, Int.reduceToNat, Int.reduceSub, Int.reduceAdd, Int.reduceNeg, B72_1])
    refine ⟨fun h2 => ⟨by omega, h2, ?_⟩, fun h2 => ?_⟩
    · have hltj : j < vs.length := by omega
      have hy := getD_all (p := fun x => 0 ≤ x ∧ x ≤ 100000) (d := default) hv.2 hltj
      have ht : (vs.take (j + 1)).map (fun j => e * m + j) = (vs.take j).map (fun j => e * m + j) ++ [e * m + vs.getD j default] := by
        rw [take_succ_snoc hltj, List.map_append]; rfl
      have hlt : ((vs.take j).map fun j => e * m + j).length ≤ 96 := by rw [List.length_map, List.length_take]; omega
      generalize vs.getD j default = f at hy ht ⊢
      have m1 := mul_bd (a := e) (A := 100000) (b := m) (B := 96) (by omega) (by omega)
      have e1 : IntKind.i64.wrap (e * m) = e * m := i64_id (by omega) (by omega)
      have e2 : IntKind.i64.wrap (e * m + f) = e * m + f := i64_id (by omega) (by omega)
      have e3 : IntKind.i64.wrap ((j : Int) + 1) = ((j + 1 : Nat) : Int) := by rw [i64_id (by omega) (by omega)]; simp
      (try simp (maxSteps := 1000000) (disch := (first | assumption | (apply Ne.symm; assumption))) only [vw0, vw1, vw2, vw3, vw4, vu0, vu1, ↓condV_t, ↓condV_f, cap_nil, allocV, splice, partV, buildV, eqFieldsV, eqS, tabs, TK.agg, reduceCtorEq, Array.toList, List.map_cons, List.map_nil, ↓reduceIte, List.length_map, Nat.reduceAdd, Nat.reduceLeDiff, Nat.reduceLT, Nat.reduceMul, Nat.reduceSub, Option.bind_some, Option.map_some, bndV, numV, eI, eU, e8, eB, AV.isCell, Int.reduceToNat, Int.reduceSub, Int.reduceAdd, Int.reduceNeg, e1, e2, e3])
      refine push_topI hq (by rw [List.length_append]; omega) fun q' hq' => ?_
      rw [List.append_assoc, ← ht]
      exact ⟨(j + 1, q'), ⟨by simp only; omega, hq'⟩, by simp only; omega, .refl _, .refl _, Heap.le_refl _⟩
    · have : j = vs.length := by omega
      subst this
      rw [List.take_length, ← hps]
      have e3 : IntKind.i64.wrap ((i : Int) + 1) = ((i + 1 : Nat) : Int) := by rw [i64_id (by omega) (by omega)]; simp
      (try simp (maxSteps := 1000000) (disch := (first | assumption | (apply Ne.symm; assumption))) only [vw0, vw1, vw2, vw3, vw4, vu0, vu1, ↓condV_t, ↓condV_f, cap_nil, allocV, splice, partV, buildV, eqFieldsV, eqS, tabs, TK.agg, reduceCtorEq, Array.toList, List.map_cons, List.map_nil, ↓reduceIte, List.length_map, Nat.reduceAdd, Nat.reduceLeDiff, Nat.reduceLT, Nat.reduceMul, Nat.reduceSub, Option.bind_some, Option.map_some, bndV, numV, eI, eU, e8, eB, AV.isCell, Int.reduceToNat, Int.reduceSub, Int.reduceAdd, Int.reduceNeg, e3])
      exact ⟨(i + 1, q), ⟨by simp only; omega, hq⟩, by simp only; omega, .refl _, .refl _, Heap.le_refl _⟩
  · have : i = us.length := by omega
    subst this
    rw [List.take_length]
    exact wkK.keep (h q hq)
theorem l12Pairs_spec (us vs : List Int) (m : Int) (hu : smI us) (hv : smI vs) (hul : us.length ≤ 96) (hvl : vs.length ≤ 96) (hm : 0 ≤ m ∧ m ≤ 96) : Pu Try.prog 72 [Is us, Is vs, I m] (Is (prs us vs m)) :=
  ⟨fun H => CallT.fin (l12Pairs_row us vs m hu hv hul hvl hm fun q hq => fin_int hq (Heap.le_refl _))⟩
def anyP {α : Type} (xs : List α) (p : α → Nat → Bool) (i n : Nat) : List Bool := (List.range n).map fun t => (xs.take i).any fun x => p x t
theorem anyP_len {α : Type} (xs : List α) (p : α → Nat → Bool) (i n : Nat) : (anyP xs p i n).length = n := by simp [anyP]
theorem anyP_succ {α : Type} [Inhabited α] (xs : List α) (p : α → Nat → Bool) {i n : Nat} (h : i < xs.length) : anyP xs p (i + 1) n = (List.range n).map fun t => p (xs.getD i default) t || (xs.take i).any fun x => p x t := by
  unfold anyP
  rw [take_succ_snoc h]
  congr 1
  funext t
  rw [List.any_append, Bool.or_comm]
  simp
theorem anyP_get {α : Type} (xs : List α) (p : α → Nat → Bool) (i : Nat) {n t : Nat} (h : t < n) : (anyP xs p i n).getD t default = (xs.take i).any fun x => p x t := by
  simp [anyP, List.getD, h]
theorem l11Marks_row (n : Nat) (l : List Int) (hn : n ≤ 100000) (hll : l.length ≤ 100000) (hl : ∀ x ∈ l, 0 ≤ x ∧ x < n) {H : Heap} {K : AV → Heap → Prop}
    (h : ∀ q G, New H G [q] → G q = some (cP fB (anyP l (fun x t => decide (x = (t : Int))) l.length n)) → K (.sl q 1 0 n) G) : CallT Try.prog 90 [I n, Is l] H K := by
  refine CallT.fin ?_
  refine W90_ok ?_; simp (maxSteps := 1000000) (disch := (first | assumption | (apply Ne.symm; assumption))) only [W90, vw0, vw1, vw2, vw3, vw4, vu0, vu1, ↓condV_t, ↓condV_f, cap_nil, allocV, splice, partV, buildV, eqFieldsV, eqS, tabs, TK.agg, reduceCtorEq, Array.toList, List.map_cons, List.map_nil, ↓reduceIte, List.length_map, Nat.reduceAdd, Nat.reduceLeDiff, Nat.reduceLT, Nat.reduceMul, Nat.reduceSub, Option.bind_some, Option.map_some, bndV, numV, eI, eU, e8, eB, AV.isCell, Int.reduceToNat, Int.reduceSub, Int.reduceAdd, Int.reduceNeg, makeSliceV]
  refine ⟨by omega, by omega, by omega, by omega, fun q hq => ?_⟩
  have st := (St.nil H).cell hq (zerosA n [B false])
  generalize H.set q (zerosA n [B false]) = G at st ⊢
  rw [cB_zero] at st
  refine L90_0_rule ((0 : Nat), G) (fun s => I s.1) (fun s => s.2) (fun s => s.1 ≤ l.length ∧ St H [cellT q (cP fB (anyP l (fun x t => decide (x = (t : Int))) s.1 n))] s.2) (fun s => l.length - s.1) ⟨⟨by simp, by simpa [anyP] using st⟩, .refl _, Heap.le_refl _⟩ ?_
  clear st
  rintro ⟨i, G⟩ ⟨hi, st⟩
  dsimp only at hi st
  (try simp (maxSteps := 1000000) (disch := (first | assumption | (apply Ne.symm; assumption))) only [vw0, vw1, vw2, vw3, vw4, vu0, vu1, ↓condV_t, ↓condV_f, cap_nil, allocV, splice, partV, buildV, eqFieldsV, eqS, tabs, TK.agg, reduceCtorEq, Array.toList, List.map_cons, List.map_nil, ↓reduceIte, List.length_map, Nat.reduceAdd, Nat.reduceLeDiff, Nat.reduceLT, Nat.reduceMul, Nat.reduceSub, Option.bind_some, Option.map_some, bndV, numV, eI, eU, e8, eB, AV.isCell, Int.reduceToNat, Int.reduceSub, Int.reduceAdd, Int.reduceNeg, B90_0])
  refine ⟨fun h1 => ⟨by omega, h1, ?_⟩, fun h1 => ?_⟩
  · have hlti : i < l.length := by omega
    have hx := getD_all (p := fun x => 0 ≤ x ∧ x < (n : Int)) (d := default) hl hlti
    have hsucc := anyP_succ l (fun x t => decide (x = (t : Int))) (n := n) hlti
    generalize l.getD i default = x at hx hsucc ⊢
    have hlen := anyP_len l (fun x t => decide (x = (t : Int))) i n
    have hset := cB_set (l := anyP l (fun x t => decide (x = (t : Int))) i n) (t := x.toNat) (by omega) true
    have hms : (anyP l (fun x t => decide (x = (t : Int))) i n).set x.toNat true = anyP l (fun x t => decide (x = (t : Int))) (i + 1) n := by
      rw [hsucc]
      unfold anyP
      rw [mapB_set]
      congr 1
      funext t
      congr 1
      rw [decide_eq_decide]
      omega
    rw [hms] at hset
    have e3 : IntKind.i64.wrap ((i : Int) + 1) = ((i + 1 : Nat) : Int) := by rw [i64_id (by omega) (by omega)]; simp
    (try simp (maxSteps := 1000000) (disch := (first | assumption | (apply Ne.symm; assumption))) only [vw0, vw1, vw2, vw3, vw4, vu0, vu1, ↓condV_t, ↓condV_f, cap_nil, allocV, splice, partV, buildV, eqFieldsV, eqS, tabs, TK.agg, reduceCtorEq, Array.toList, List.map_cons, List.map_nil, ↓reduceIte, List.length_map, Nat.reduceAdd, Nat.reduceLeDiff, Nat.reduceLT, Nat.reduceMul, Nat.reduceSub, Option.bind_some, Option.map_some, bndV, numV, eI, eU, e8, eB, AV.isCell, Int.reduceToNat, Int.reduceSub, Int.reduceAdd, Int.reduceNeg, store_at (st.get 0 rfl), hset, e3])
    exact ⟨hx.1, hx.2, by rw [hlen]; omega, (i + 1, G.set q (cP fB (anyP l (fun x t => decide (x = (t : Int))) (i + 1) n))), ⟨by simp only; omega, st.put 0 rfl (cP fB (anyP l (fun x t => decide (x = (t : Int))) (i + 1) n))⟩, by simp only; omega, .refl _, Heap.le_refl _⟩
  · have : i = l.length := by omega
    subst this
    exact wkK.keep (h q G (by simpa [cellT] using st.new) (st.get 0 rfl))
theorem l12Step_spec (a : Au) (sa : smAu a) (fa : GoodF a) (s l : Int) (hs : 0 ≤ s ∧ s < a.states) : Pu Try.prog 73 [aAu a, Is [s], I l] (Is (stp a.states a.edges s l)) := by
  refine ⟨fun H => CallT.fin ?_⟩
  have hst := fa.st
  have hed := fa.ed
  refine W73_ok ?_; simp (maxSteps := 1000000) (disch := (first | assumption | (apply Ne.symm; assumption))) only [W73, vw0, vw1, vw2, vw3, vw4, vu0, vu1, ↓condV_t, ↓condV_f, cap_nil, allocV, splice, partV, buildV, eqFieldsV, eqS, tabs, TK.agg, reduceCtorEq, Array.toList, List.map_cons, List.map_nil, ↓reduceIte, List.length_map, Nat.reduceAdd, Nat.reduceLeDiff, Nat.reduceLT, Nat.reduceMul, Nat.reduceSub, Option.bind_some, Option.map_some, bndV, numV, eI, eU, e8, eB, AV.isCell, Int.reduceToNat, Int.reduceSub, Int.reduceAdd, Int.reduceNeg]
  intro r hr
  have st := (St.nil H).cell hr [I a.states, Is a.first, Es a.edges, Ls a.goals]
  generalize H.set r [I a.states, Is a.first, Es a.edges, Ls a.goals] = G at st ⊢
  (try simp (maxSteps := 1000000) (disch := (first | assumption | (apply Ne.symm; assumption))) only [vw0, vw1, vw2, vw3, vw4, vu0, vu1, ↓condV_t, ↓condV_f, cap_nil, allocV, splice, partV, buildV, eqFieldsV, eqS, tabs, TK.agg, reduceCtorEq, Array.toList, List.map_cons, List.map_nil, ↓reduceIte, List.length_map, Nat.reduceAdd, Nat.reduceLeDiff, Nat.reduceLT, Nat.reduceMul, Nat.reduceSub, Option.bind_some, Option.map_some, bndV, numV, eI, eU, e8, eB, AV.isCell, Int.reduceToNat, Int.reduceSub, Int.reduceAdd, Int.reduceNeg, load_at (st.get 0 rfl), makeSliceV])
  refine ⟨by omega, by omega, by omega, by omega, fun q hq => ?_⟩
  replace st := st.cell hq (zerosA a.states.toNat [B false])
  generalize G.set q (zerosA a.states.toNat [B false]) = G1 at st ⊢
  rw [cB_zero] at st
  (try simp (maxSteps := 1000000) (disch := (first | assumption | (apply Ne.symm; assumption))) only [vw0, vw1, vw2, vw3, vw4, vu0, vu1, ↓condV_t, ↓condV_f, cap_nil, allocV, splice, partV, buildV, eqFieldsV, eqS, tabs, TK.agg, reduceCtorEq, Array.toList, List.map_cons, List.map_nil, ↓reduceIte, List.length_map, Nat.reduceAdd, Nat.reduceLeDiff, Nat.reduceLT, Nat.reduceMul, Nat.reduceSub, Option.bind_some, Option.map_some, bndV, numV, eI, eU, e8, eB, AV.isCell, Int.reduceToNat, Int.reduceSub, Int.reduceAdd, Int.reduceNeg, load_at (st.get 1 rfl)])
  obtain ⟨n, hn⟩ : ∃ n : Nat, a.states = n := ⟨a.states.toNat, by omega⟩
  rw [show (I a.states : AV) = I (n : Int) from congrArg (fun x : Int => I x) hn]
  refine l11Marks_row n [s] (by omega) (by simp) (fun x hx => by rw [List.mem_singleton] at hx; omega) fun qf G2 nf hf => ?_
  replace st := st.push (cellT qf _) nf hf
  (try simp (maxSteps := 1000000) (disch := (first | assumption | (apply Ne.symm; assumption))) only [vw0, vw1, vw2, vw3, vw4, vu0, vu1, ↓condV_t, ↓condV_f, cap_nil, allocV, splice, partV, buildV, eqFieldsV, eqS, tabs, TK.agg, reduceCtorEq, Array.toList, List.map_cons, List.map_nil, ↓reduceIte, List.length_map, Nat.reduceAdd, Nat.reduceLeDiff, Nat.reduceLT, Nat.reduceMul, Nat.reduceSub, Option.bind_some, Option.map_some, bndV, numV, eI, eU, e8, eB, AV.isCell, Int.reduceToNat, Int.reduceSub, Int.reduceAdd, Int.reduceNeg, load_at (st.get 2 rfl)])
  obtain ⟨p, hp⟩ : ∃ p : Ed → Nat → Bool, p = fun (e : Ed) (t : Nat) => decide (e.lt = l) && (decide (e.src = s) && decide (e.dst = (t : Int))) := ⟨_, rfl⟩
  obtain ⟨fr, hfr⟩ : ∃ fr, fr = anyP [s] (fun x t => decide (x = (t : Int))) [s].length n := ⟨_, rfl⟩
  rw [← hfr] at st
  have hn' : a.states.toNat = n := by omega
  rw [hn'] at st ⊢
  refine L73_0_rule ((0 : Nat), G2) (fun s => I s.1) (fun s => s.2) (fun s => s.1 ≤ a.edges.length ∧ St H [cellT qf (cP fB fr), cellT q (cP fB (anyP a.edges p s.1 n)), cellT r [I a.states, Is a.first, Es a.edges, Ls a.goals]] s.2) (fun s => a.edges.length - s.1) ⟨⟨by simp, by simpa [anyP] using st⟩, .refl _, Heap.le_refl _⟩ ?_
  clear st hf nf
  rintro ⟨i, G⟩ ⟨hi, st⟩
  dsimp only at hi st
  (try simp (maxSteps := 1000000) (disch := (first | assumption | (apply Ne.symm; assumption))) only [vw0, vw1, vw2, vw3, vw4, vu0, vu1, ↓condV_t, ↓condV_f, cap_nil, allocV, splice, partV, buildV, eqFieldsV, eqS, tabs, TK.agg, reduceCtorEq, Array.toList, List.map_cons, List.map_nil, ↓reduceIte, List.length_map, Nat.reduceAdd, Nat.reduceLeDiff, Nat.reduceLT, Nat.reduceMul, Nat.reduceSub, Option.bind_some, Option.map_some, bndV, numV, eI, eU, e8, eB, AV.isCell, Int.reduceToNat, Int.reduceSub, Int.reduceAdd, Int.reduceNeg, B73_0])
  refine ⟨fun h1 => ⟨by omega, h1, ?_⟩, fun h1 => ?_⟩
  · have hlti : i < a.edges.length := by omega
    have hei := edIn_iff.1 (fa.ei _ (getD_all (p := fun x => x ∈ a.edges) (d := default) (fun _ h => h) hlti))
    have hsucc := anyP_succ a.edges p (n := n) hlti
    generalize a.edges.getD i default = e at hei hsucc ⊢
    intro r10 hr10
    replace st := st.cell hr10 [I e.src, I e.lt, I e.dst]
    generalize G.set r10 [I e.src, I e.lt, I e.dst] = G3 at st ⊢
    clear hr10
    have hfl : fr.length = n := by rw [hfr]; exact anyP_len ..
    have hrd := mapB_rd (l := fr) (i := e.src.toNat) (by omega)
    have hfg : fr.getD e.src.toNat default = decide (s = e.src) := by
      rw [hfr, anyP_get _ _ _ (by omega)]
      have : ((e.src.toNat : Nat) : Int) = e.src := by omega
      simp [this]
    rw [hfg] at hrd
    have hlen := anyP_len a.edges p i n
    have hset := cB_set (l := anyP a.edges p i n) (t := e.dst.toNat) (by omega) true
    have hms : e.lt = l → s = e.src → (anyP a.edges p i n).set e.dst.toNat true = anyP a.edges p (i + 1) n := fun c1 c2 => by
      rw [hsucc]
      unfold anyP
      rw [mapB_set]
      congr 1
      funext t
      congr 1
      rw [hp]
      simp only [c1, c2, decide_true, Bool.true_and]
      rw [decide_eq_decide]
      omega
    have hno : ¬ (e.lt = l ∧ s = e.src) → anyP a.edges p (i + 1) n = anyP a.edges p i n := fun c => by
      rw [hsucc]
      unfold anyP
      congr 1
      funext t
      have : p e t = false := by
        rw [hp]
        by_cases c1 : e.lt = l
        · have : ¬ e.src = s := fun h => c ⟨c1, h.symm⟩
          simp [this]
        · simp [c1]
      rw [this, Bool.false_or]
    have e3 : IntKind.i64.wrap ((i : Int) + 1) = ((i + 1 : Nat) : Int) := by rw [i64_id (by omega) (by omega)]; simp
    (try simp (maxSteps := 1000000) (disch := (first | assumption | (apply Ne.symm; assumption))) only [vw0, vw1, vw2, vw3, vw4, vu0, vu1, ↓condV_t, ↓condV_f, cap_nil, allocV, splice, partV, buildV, eqFieldsV, eqS, tabs, TK.agg, reduceCtorEq, Array.toList, List.map_cons, List.map_nil, ↓reduceIte, List.length_map, Nat.reduceAdd, Nat.reduceLeDiff, Nat.reduceLT, Nat.reduceMul, Nat.reduceSub, Option.bind_some, Option.map_some, bndV, numV, eI, eU, e8, eB, AV.isCell, Int.reduceToNat, Int.reduceSub, Int.reduceAdd, Int.reduceNeg, load_at (st.get 0 rfl), load_at (st.get 1 rfl), store_at (st.get 2 rfl), hrd, hset, e3])
    have keep : ¬ (e.lt = l ∧ s = e.src) → ∃ s' : Nat × Heap, (s'.1 ≤ a.edges.length ∧ St H [cellT qf (cP fB fr), cellT q (cP fB (anyP a.edges p s'.1 n)), cellT r [I a.states, Is a.first, Es a.edges, Ls a.goals]] s'.2) ∧ a.edges.length - s'.1 < a.edges.length - i ∧ AV.wk (I ((i + 1 : Nat) : Int)) (I s'.1) ∧ Heap.le s'.2 G3 := fun c =>
      ⟨(i + 1, G3), ⟨by simp only; omega, by rw [hno c]; exact st.drop⟩, by simp only; omega, .refl _, Heap.le_refl _⟩
    refine ⟨fun c1 => ⟨hei.1.1, by omega, by omega, fun c2 => ⟨by omega, by omega, by omega, ?_⟩, fun c2 => keep fun c => c2 c.2⟩, fun c1 => keep fun c => c1 c.1⟩
    rw [hms c1 c2]
    exact ⟨(i + 1, G3.set q (cP fB (anyP a.edges p (i + 1) n))), ⟨by simp only; omega, (st.put 2 rfl (cP fB (anyP a.edges p (i + 1) n))).drop⟩, by simp only; omega, .refl _, Heap.le_refl _⟩
  · have : i = a.edges.length := by omega
    subst this
    have w : Wk (.tup [rowP q (anyP a.edges p a.edges.length n)]) G (.tup [Bls (anyP a.edges p a.edges.length n)]) (G.del q) := wkB (st.get 1 rfl) (fun v => .tup [v]) (fun h => .tup (.cons h .nil))
    rw [show (AV.tup [rowP q (anyP a.edges p a.edges.length n)]) = .tup [.sl q 1 0 n] from by rw [rowP, anyP_len]] at w
    refine CallT.pre ?_ w
    refine Pu.use (l11List_spec _ (by rw [anyP_len]; omega)) ?_
    have e9 : gw (anyP a.edges p a.edges.length n).length (fun k => (anyP a.edges p a.edges.length n).getD k default) = stp a.states a.edges s l := by
      rw [anyP_len]
      unfold gw stp below
      rw [List.filter_map, hn']
      congr 1
      apply List.filter_congr
      intro k hk
      rw [List.mem_range] at hk
      rw [anyP_get _ _ _ hk, List.take_length, hp]
      rfl
    rw [e9]
    refine ⟨_, _, .forget (H' := H) fun y b hb => ?_, rfl, rfl⟩
    have : y ≠ q := fun e => by
      have := st.fr _ (List.mem_of_getElem? (i := 1) rfl) q (by simp [cellT])
      rw [← e, hb] at this; cases this
    rw [Heap.del_other this]
    exact st.le y b hb
end Go.Proofs.Ytfbaijpanbjmpaa
