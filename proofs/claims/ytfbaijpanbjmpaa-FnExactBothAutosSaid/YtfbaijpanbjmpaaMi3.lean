/- Specs: BothAutos, by the reference; the law. -/
import Derived.Test.YtfbaijpanbjmpaaMi2
namespace Go.Proofs.Ytfbaijpanbjmpaa
open Go Go.Sep Go.Pt
set_option linter.unusedSimpArgs false
set_option linter.unusedVariables false
attribute [local irreducible] CallT

theorem below_sm {n : Nat} (h : n ≤ 96) : smI (below n) ∧ (below n).length ≤ 96 := by
  refine ⟨⟨by rw [below_len]; omega, fun x hx => ?_⟩, by rw [below_len]; exact h⟩
  have := below_mem.1 hx
  omega
theorem stp_sm {n : Int} (es : List Ed) (s l : Int) (h : 1 ≤ n ∧ n ≤ 96) : smI (stp n es s l) ∧ (stp n es s l).length ≤ 96 := by
  have h1 := stp_len n es s l
  refine ⟨⟨by omega, fun x hx => ?_⟩, by omega⟩
  have := (stp_mem.1 hx).1
  omega
abbrev uTs (u1 u2 u3 : Nat) : List Th := [riT u1 (.p .nil) [] [u1], reT u2 (.p .nil) [] [u2], rgT u3 (.p .nil) [] [u3]]
section
variable {a b : Au} {r2 r3 r4 r6 z1 z2 z3 u1 u2 u3 : Nat} {H : Heap} {K : AV → Heap → Prop} {l : List Int}
theorem ref_st4 (fa : GoodF a) (fb : GoodF b) {x y w : AV} {es : List Ed} {D1 D2 D3 : List Nat} {G : Heap} (o : Au) (ho : o = ⟨a.states * b.states, l, es, boGa a b a.goals.length ++ boGb a b b.goals.length⟩) (st : St H (bTs a b r2 r3 r4 r6 z1 z2 z3 x y w l es (boGa a b a.goals.length) D1 D2 D3 ++ uTs u1 u2 u3) G)
    (hsm : smAu o) (h : ∀ v G D, LAu (if goodA o then o else zeroA) v G D → New H G D → K (.tup [v, B (goodA o)]) G) :
    L28_4 (wkK K) (.ptr r2 0) (.ptr r3 0) (.ptr r4 0) (.ptr r6 0) (Ls b.goals) (I b.goals.length) (I 0) G := by
  have hgl := fb.gl
  have hsa := fa.st
  have hsb := fb.st
  have hga := boGa_len a b a.goals.length
  have hgla := fa.gl
  refine L28_4_rule ((0 : Nat), w, D3, G) (fun s => I s.1) (fun s => s.2.2.2) (fun s => s.1 ≤ b.goals.length ∧ St H (bTs a b r2 r3 r4 r6 z1 z2 z3 x y s.2.1 l es (boGa a b a.goals.length ++ boGb a b s.1) D1 D2 s.2.2.1 ++ uTs u1 u2 u3) s.2.2.2) (fun s => b.goals.length - s.1)
    ⟨⟨by simp, by simpa [boGb] using st⟩, .refl _, Heap.le_refl _⟩ ?_
  clear st w D3
  rintro ⟨k, w, D3, G⟩ ⟨hk, st⟩
  dsimp only at hk st
  have hgb := boGb_len a b k
  (try simp (maxSteps := 1000000) (disch := (first | assumption | (apply Ne.symm; assumption))) only [vw0, vw1, vw2, vw3, vw4, vu0, vu1, ↓condV_t, ↓condV_f, cap_nil, allocV, splice, partV, buildV, eqFieldsV, eqS, tabs, TK.agg, reduceCtorEq, Array.toList, List.map_cons, List.map_nil, ↓reduceIte, List.length_map, Nat.reduceAdd, Nat.reduceLeDiff, Nat.reduceLT, Nat.reduceMul, Nat.reduceSub, Option.bind_some, Option.map_some, bndV, numV, eI, eU, e8, eB, AV.isCell, Int.reduceToNat, Int.reduceSub, Int.reduceAdd, Int.reduceNeg, B28_4])
  refine ⟨fun h1 => ⟨by omega, h1, ?_⟩, fun h1 => ?_⟩
  · have hltk : k < b.goals.length := by omega
    have hgk := getD_all (p := fun x => smI x ∧ x.length ≤ 96) (d := default) fb.gi hltk
    have hsucc := boGb_succ a b hltk
    generalize b.goals.getD k default = gk at hgk hsucc ⊢
    obtain ⟨n, hn⟩ : ∃ n : Nat, a.states = n := ⟨a.states.toNat, by omega⟩
    have hn' : a.states.toNat = n := by omega
    have hbs := below_sm (n := n) (by omega)
    have e3 : IntKind.i64.wrap ((k : Int) + 1) = ((k + 1 : Nat) : Int) := by rw [i64_id (by omega) (by omega)]; simp
    have hall := l12All_spec n (by omega)
    rw [← hn] at hall
    (try simp (maxSteps := 1000000) (disch := (first | assumption | (apply Ne.symm; assumption))) only [vw0, vw1, vw2, vw3, vw4, vu0, vu1, ↓condV_t, ↓condV_f, cap_nil, allocV, splice, partV, buildV, eqFieldsV, eqS, tabs, TK.agg, reduceCtorEq, Array.toList, List.map_cons, List.map_nil, ↓reduceIte, List.length_map, Nat.reduceAdd, Nat.reduceLeDiff, Nat.reduceLT, Nat.reduceMul, Nat.reduceSub, Option.bind_some, Option.map_some, bndV, numV, eI, eU, e8, eB, AV.isCell, Int.reduceToNat, Int.reduceSub, Int.reduceAdd, Int.reduceNeg, load_at (st.get 0 rfl), load_at (st.get 2 rfl), load_at (st.get 3 rfl), e3])
    refine Pu.use hall ?_
    (try simp (maxSteps := 1000000) (disch := (first | assumption | (apply Ne.symm; assumption))) only [vw0, vw1, vw2, vw3, vw4, vu0, vu1, ↓condV_t, ↓condV_f, cap_nil, allocV, splice, partV, buildV, eqFieldsV, eqS, tabs, TK.agg, reduceCtorEq, Array.toList, List.map_cons, List.map_nil, ↓reduceIte, List.length_map, Nat.reduceAdd, Nat.reduceLeDiff, Nat.reduceLT, Nat.reduceMul, Nat.reduceSub, Option.bind_some, Option.map_some, bndV, numV, eI, eU, e8, eB, AV.isCell, Int.reduceToNat, Int.reduceSub, Int.reduceAdd, Int.reduceNeg, load_at (st.get 0 rfl), load_at (st.get 2 rfl), load_at (st.get 3 rfl), e3])
    refine l12Pairs_row (below n) gk b.states hbs.1 hgk.1 hbs.2 hgk.2 (by omega) fun qn hqn => ?_
    rw [hn'] at hsucc
    replace st := st.cell hqn (cP fI (prs (below n) gk b.states))
    generalize G.set qn (cP fI (prs (below n) gk b.states)) = G2 at st ⊢
    (try simp (maxSteps := 1000000) (disch := (first | assumption | (apply Ne.symm; assumption))) only [vw0, vw1, vw2, vw3, vw4, vu0, vu1, ↓condV_t, ↓condV_f, cap_nil, allocV, splice, partV, buildV, eqFieldsV, eqS, tabs, TK.agg, reduceCtorEq, Array.toList, List.map_cons, List.map_nil, ↓reduceIte, List.length_map, Nat.reduceAdd, Nat.reduceLeDiff, Nat.reduceLT, Nat.reduceMul, Nat.reduceSub, Option.bind_some, Option.map_some, bndV, numV, eI, eU, e8, eB, AV.isCell, Int.reduceToNat, Int.reduceSub, Int.reduceAdd, Int.reduceNeg, load_at (st.get 1 rfl)])
    refine lit_live1 fun ql hql => ?_
    replace st := st.cell hql [rowP qn (prs (below n) gk b.states)]
    generalize G2.set ql [.sl qn 1 0 (prs (below n) gk b.states).length] = G4 at st ⊢
    (try simp (maxSteps := 1000000) (disch := (first | assumption | (apply Ne.symm; assumption))) only [vw0, vw1, vw2, vw3, vw4, vu0, vu1, ↓condV_t, ↓condV_f, cap_nil, allocV, splice, partV, buildV, eqFieldsV, eqS, tabs, TK.agg, reduceCtorEq, Array.toList, List.map_cons, List.map_nil, ↓reduceIte, List.length_map, Nat.reduceAdd, Nat.reduceLeDiff, Nat.reduceLT, Nat.reduceMul, Nat.reduceSub, Option.bind_some, Option.map_some, bndV, numV, eI, eU, e8, eB, AV.isCell, Int.reduceToNat, Int.reduceSub, Int.reduceAdd, Int.reduceNeg, load_at (st.get 2 rfl)])
    refine rz_pushL st 6 rfl (by rw [List.length_append]; omega) fun q' D' G5 hq' st => ?_
    rw [List.append_assoc, ← hsucc] at st
    (try simp (maxSteps := 1000000) (disch := (first | assumption | (apply Ne.symm; assumption))) only [vw0, vw1, vw2, vw3, vw4, vu0, vu1, ↓condV_t, ↓condV_f, cap_nil, allocV, splice, partV, buildV, eqFieldsV, eqS, tabs, TK.agg, reduceCtorEq, Array.toList, List.map_cons, List.map_nil, ↓reduceIte, List.length_map, Nat.reduceAdd, Nat.reduceLeDiff, Nat.reduceLT, Nat.reduceMul, Nat.reduceSub, Option.bind_some, Option.map_some, bndV, numV, eI, eU, e8, eB, AV.isCell, Int.reduceToNat, Int.reduceSub, Int.reduceAdd, Int.reduceNeg, store_at (st.get 0 rfl)])
    exact ⟨(k + 1, _, D', _), ⟨by simp only; omega, st.put 0 rfl [I (a.states * b.states), x, y, .sl q' 1 0 ((boGa a b a.goals.length ++ boGb a b k).length + 1)]⟩, by simp only; omega, .refl _, by first | exact Heap.le_refl _ | (rw [List.length_append]; exact Heap.le_refl _)⟩
  · have : k = b.goals.length := by omega
    subst this
    obtain ⟨v1, v2, v3, hw, st⟩ := rz_au (a.states * b.states) (((st.pick 4 rfl).pick 5 rfl).pick 6 rfl)
    (try simp (maxSteps := 1000000) (disch := (first | assumption | (apply Ne.symm; assumption))) only [vw0, vw1, vw2, vw3, vw4, vu0, vu1, ↓condV_t, ↓condV_f, cap_nil, allocV, splice, partV, buildV, eqFieldsV, eqS, tabs, TK.agg, reduceCtorEq, Array.toList, List.map_cons, List.map_nil, ↓reduceIte, List.length_map, Nat.reduceAdd, Nat.reduceLeDiff, Nat.reduceLT, Nat.reduceMul, Nat.reduceSub, Option.bind_some, Option.map_some, bndV, numV, eI, eU, e8, eB, AV.isCell, Int.reduceToNat, Int.reduceSub, Int.reduceAdd, Int.reduceNeg, load_at (st.get 1 rfl)])
    rw [← ho] at st
    refine CallT.args (args' := [.agg [I (a.states * b.states), .sl v1 1 0 l.length, .sl v2 3 0 es.length, .sl v3 1 0 (boGa a b a.goals.length ++ boGb a b b.goals.length).length]]) ?_ ⟨hw, trivial⟩
    refine l12Made_live (o := o) (st.get 0 rfl) (st.ndT 0 rfl) hsm (fun hgo => ?_) (fun hgo => ?_)
    · rw [if_pos hgo, hgo] at h
      (try simp (maxSteps := 1000000) (disch := (first | assumption | (apply Ne.symm; assumption))) only [vw0, vw1, vw2, vw3, vw4, vu0, vu1, ↓condV_t, ↓condV_f, cap_nil, allocV, splice, partV, buildV, eqFieldsV, eqS, tabs, TK.agg, reduceCtorEq, Array.toList, List.map_cons, List.map_nil, ↓reduceIte, List.length_map, Nat.reduceAdd, Nat.reduceLeDiff, Nat.reduceLT, Nat.reduceMul, Nat.reduceSub, Option.bind_some, Option.map_some, bndV, numV, eI, eU, e8, eB, AV.isCell, Int.reduceToNat, Int.reduceSub, Int.reduceAdd, Int.reduceNeg, store_at (st.get 2 rfl)])
      obtain ⟨hl, hn⟩ := au_new (st.put 2 rfl [I (a.states * b.states), .sl v1 1 0 l.length, .sl v2 3 0 es.length, .sl v3 1 0 (boGa a b a.goals.length ++ boGb a b b.goals.length).length]) 0 rfl
      have := h _ _ _ hl hn
      simp only [List.length_append] at this ⊢
      exact wkK.keep this
    · rw [if_neg (by rw [hgo]; decide), hgo] at h
      (try simp (maxSteps := 1000000) (disch := (first | assumption | (apply Ne.symm; assumption))) only [vw0, vw1, vw2, vw3, vw4, vu0, vu1, ↓condV_t, ↓condV_f, cap_nil, allocV, splice, partV, buildV, eqFieldsV, eqS, tabs, TK.agg, reduceCtorEq, Array.toList, List.map_cons, List.map_nil, ↓reduceIte, List.length_map, Nat.reduceAdd, Nat.reduceLeDiff, Nat.reduceLT, Nat.reduceMul, Nat.reduceSub, Option.bind_some, Option.map_some, bndV, numV, eI, eU, e8, eB, AV.isCell, Int.reduceToNat, Int.reduceSub, Int.reduceAdd, Int.reduceNeg, store_at (st.get 2 rfl)])
      exact zero_st (st.put 2 rfl [I 0, .p .nil, .p .nil, .p .nil]) 5 6 7 rfl rfl rfl (by decide) (by decide) (by decide) h
theorem ref_st3 (fa : GoodF a) (fb : GoodF b) {x y w : AV} {es : List Ed} {D1 D2 D3 : List Nat} {G : Heap} (o : Au) (ho : o = ⟨a.states * b.states, l, es, boGa a b a.goals.length ++ boGb a b b.goals.length⟩) (st : St H (bTs a b r2 r3 r4 r6 z1 z2 z3 x y w l es [] D1 D2 D3 ++ uTs u1 u2 u3) G)
    (hsm : smAu o) (h : ∀ v G D, LAu (if goodA o then o else zeroA) v G D → New H G D → K (.tup [v, B (goodA o)]) G) :
    L28_3 (wkK K) (.ptr r2 0) (.ptr r3 0) (.ptr r4 0) (.ptr r6 0) (Ls a.goals) (I a.goals.length) (I 0) G := by
  have hgl := fa.gl
  have hsa := fa.st
  have hsb := fb.st
  refine L28_3_rule ((0 : Nat), w, D3, G) (fun s => I s.1) (fun s => s.2.2.2) (fun s => s.1 ≤ a.goals.length ∧ St H (bTs a b r2 r3 r4 r6 z1 z2 z3 x y s.2.1 l es (boGa a b s.1) D1 D2 s.2.2.1 ++ uTs u1 u2 u3) s.2.2.2) (fun s => a.goals.length - s.1)
    ⟨⟨by simp, by simpa [boGa] using st⟩, .refl _, Heap.le_refl _⟩ ?_
  clear st w D3
  rintro ⟨k, w, D3, G⟩ ⟨hk, st⟩
  dsimp only at hk st
  have hgb := boGa_len a b k
  (try simp (maxSteps := 1000000) (disch := (first | assumption | (apply Ne.symm; assumption))) only [vw0, vw1, vw2, vw3, vw4, vu0, vu1, ↓condV_t, ↓condV_f, cap_nil, allocV, splice, partV, buildV, eqFieldsV, eqS, tabs, TK.agg, reduceCtorEq, Array.toList, List.map_cons, List.map_nil, ↓reduceIte, List.length_map, Nat.reduceAdd, Nat.reduceLeDiff, Nat.reduceLT, Nat.reduceMul, Nat.reduceSub, Option.bind_some, Option.map_some, bndV, numV, eI, eU, e8, eB, AV.isCell, Int.reduceToNat, Int.reduceSub, Int.reduceAdd, Int.reduceNeg, B28_3])
  refine ⟨fun h1 => ⟨by omega, h1, ?_⟩, fun h1 => ?_⟩
  · have hltk : k < a.goals.length := by omega
    have hgk := getD_all (p := fun x => smI x ∧ x.length ≤ 96) (d := default) fa.gi hltk
    have hsucc := boGa_succ a b hltk
    generalize a.goals.getD k default = gk at hgk hsucc ⊢
    obtain ⟨n, hn⟩ : ∃ n : Nat, b.states = n := ⟨b.states.toNat, by omega⟩
    have hn' : b.states.toNat = n := by omega
    have hbs := below_sm (n := n) (by omega)
    have e3 : IntKind.i64.wrap ((k : Int) + 1) = ((k + 1 : Nat) : Int) := by rw [i64_id (by omega) (by omega)]; simp
    have hall := l12All_spec n (by omega)
    rw [← hn] at hall
    (try simp (maxSteps := 1000000) (disch := (first | assumption | (apply Ne.symm; assumption))) only [vw0, vw1, vw2, vw3, vw4, vu0, vu1, ↓condV_t, ↓condV_f, cap_nil, allocV, splice, partV, buildV, eqFieldsV, eqS, tabs, TK.agg, reduceCtorEq, Array.toList, List.map_cons, List.map_nil, ↓reduceIte, List.length_map, Nat.reduceAdd, Nat.reduceLeDiff, Nat.reduceLT, Nat.reduceMul, Nat.reduceSub, Option.bind_some, Option.map_some, bndV, numV, eI, eU, e8, eB, AV.isCell, Int.reduceToNat, Int.reduceSub, Int.reduceAdd, Int.reduceNeg, load_at (st.get 0 rfl), load_at (st.get 2 rfl), load_at (st.get 3 rfl), e3])
    refine Pu.use hall ?_
    (try simp (maxSteps := 1000000) (disch := (first | assumption | (apply Ne.symm; assumption))) only [vw0, vw1, vw2, vw3, vw4, vu0, vu1, ↓condV_t, ↓condV_f, cap_nil, allocV, splice, partV, buildV, eqFieldsV, eqS, tabs, TK.agg, reduceCtorEq, Array.toList, List.map_cons, List.map_nil, ↓reduceIte, List.length_map, Nat.reduceAdd, Nat.reduceLeDiff, Nat.reduceLT, Nat.reduceMul, Nat.reduceSub, Option.bind_some, Option.map_some, bndV, numV, eI, eU, e8, eB, AV.isCell, Int.reduceToNat, Int.reduceSub, Int.reduceAdd, Int.reduceNeg, load_at (st.get 0 rfl), load_at (st.get 2 rfl), load_at (st.get 3 rfl), e3])
    refine l12Pairs_row gk (below n) b.states hgk.1 hbs.1 hgk.2 hbs.2 (by omega) fun qn hqn => ?_
    rw [hn'] at hsucc
    replace st := st.cell hqn (cP fI (prs gk (below n) b.states))
    generalize G.set qn (cP fI (prs gk (below n) b.states)) = G2 at st ⊢
    (try simp (maxSteps := 1000000) (disch := (first | assumption | (apply Ne.symm; assumption))) only [vw0, vw1, vw2, vw3, vw4, vu0, vu1, ↓condV_t, ↓condV_f, cap_nil, allocV, splice, partV, buildV, eqFieldsV, eqS, tabs, TK.agg, reduceCtorEq, Array.toList, List.map_cons, List.map_nil, ↓reduceIte, List.length_map, Nat.reduceAdd, Nat.reduceLeDiff, Nat.reduceLT, Nat.reduceMul, Nat.reduceSub, Option.bind_some, Option.map_some, bndV, numV, eI, eU, e8, eB, AV.isCell, Int.reduceToNat, Int.reduceSub, Int.reduceAdd, Int.reduceNeg, load_at (st.get 1 rfl)])
    refine lit_live1 fun ql hql => ?_
    replace st := st.cell hql [rowP qn (prs gk (below n) b.states)]
    generalize G2.set ql [.sl qn 1 0 (prs gk (below n) b.states).length] = G4 at st ⊢
    (try simp (maxSteps := 1000000) (disch := (first | assumption | (apply Ne.symm; assumption))) only [vw0, vw1, vw2, vw3, vw4, vu0, vu1, ↓condV_t, ↓condV_f, cap_nil, allocV, splice, partV, buildV, eqFieldsV, eqS, tabs, TK.agg, reduceCtorEq, Array.toList, List.map_cons, List.map_nil, ↓reduceIte, List.length_map, Nat.reduceAdd, Nat.reduceLeDiff, Nat.reduceLT, Nat.reduceMul, Nat.reduceSub, Option.bind_some, Option.map_some, bndV, numV, eI, eU, e8, eB, AV.isCell, Int.reduceToNat, Int.reduceSub, Int.reduceAdd, Int.reduceNeg, load_at (st.get 2 rfl)])
    refine rz_pushL st 6 rfl (by omega) fun q' D' G5 hq' st => ?_
    rw [← hsucc] at st
    (try simp (maxSteps := 1000000) (disch := (first | assumption | (apply Ne.symm; assumption))) only [vw0, vw1, vw2, vw3, vw4, vu0, vu1, ↓condV_t, ↓condV_f, cap_nil, allocV, splice, partV, buildV, eqFieldsV, eqS, tabs, TK.agg, reduceCtorEq, Array.toList, List.map_cons, List.map_nil, ↓reduceIte, List.length_map, Nat.reduceAdd, Nat.reduceLeDiff, Nat.reduceLT, Nat.reduceMul, Nat.reduceSub, Option.bind_some, Option.map_some, bndV, numV, eI, eU, e8, eB, AV.isCell, Int.reduceToNat, Int.reduceSub, Int.reduceAdd, Int.reduceNeg, store_at (st.get 0 rfl)])
    exact ⟨(k + 1, _, D', _), ⟨by simp only; omega, st.put 0 rfl [I (a.states * b.states), x, y, .sl q' 1 0 ((boGa a b k).length + 1)]⟩, by simp only; omega, .refl _, Heap.le_refl _⟩
  · have : k = a.goals.length := by omega
    subst this
    (try simp (maxSteps := 1000000) (disch := (first | assumption | (apply Ne.symm; assumption))) only [vw0, vw1, vw2, vw3, vw4, vu0, vu1, ↓condV_t, ↓condV_f, cap_nil, allocV, splice, partV, buildV, eqFieldsV, eqS, tabs, TK.agg, reduceCtorEq, Array.toList, List.map_cons, List.map_nil, ↓reduceIte, List.length_map, Nat.reduceAdd, Nat.reduceLeDiff, Nat.reduceLT, Nat.reduceMul, Nat.reduceSub, Option.bind_some, Option.map_some, bndV, numV, eI, eU, e8, eB, AV.isCell, Int.reduceToNat, Int.reduceSub, Int.reduceAdd, Int.reduceNeg, load_at (st.get 2 rfl)])
    exact ref_st4 fa fb o ho st hsm h
theorem ref_st0 (sa : smAu a) (sb : smAu b) (fa : GoodF a) (fb : GoodF b) (hN : a.states * b.states ≤ 96) {x y w : AV} {D1 D2 D3 : List Nat} {G : Heap} (o : Au) (ho : o = ⟨a.states * b.states, l, sAll a b (a.states * b.states).toNat, boGa a b a.goals.length ++ boGb a b b.goals.length⟩) (st : St H (bTs a b r2 r3 r4 r6 z1 z2 z3 x y w l [] [] D1 D2 D3 ++ uTs u1 u2 u3) G)
    (hsm : smAu o) (h : ∀ v G D, LAu (if goodA o then o else zeroA) v G D → New H G D → K (.tup [v, B (goodA o)]) G) :
    L28_0 (wkK K) (.ptr r2 0) (.ptr r3 0) (.ptr r4 0) (.ptr r6 0) (I 0) G := by
  have hsa := fa.st
  have hsb := fb.st
  have hm0 := mul_bd (a := a.states) (A := 96) (b := b.states) (B := 96) (by omega) (by omega)
  have hm : a.states.toNat * b.states.toNat ≤ 96 := by
    have : ((a.states.toNat * b.states.toNat : Nat) : Int) = a.states * b.states := by rw [Int.natCast_mul, Int.toNat_of_nonneg (by omega), Int.toNat_of_nonneg (by omega)]
    omega
  refine L28_0_rule ((0 : Nat), y, D2, G) (fun s => I s.1) (fun s => s.2.2.2) (fun s => s.1 ≤ (a.states * b.states).toNat ∧ St H (bTs a b r2 r3 r4 r6 z1 z2 z3 x s.2.1 w l (sAll a b s.1) [] D1 s.2.2.1 D3 ++ uTs u1 u2 u3) s.2.2.2) (fun s => (a.states * b.states).toNat - s.1)
    ⟨⟨by simp, by simpa [sAll] using st⟩, .refl _, Heap.le_refl _⟩ ?_
  clear st y D2
  rintro ⟨k, y, D2, G⟩ ⟨hk, st⟩
  dsimp only at hk st
  (try simp (maxSteps := 1000000) (disch := (first | assumption | (apply Ne.symm; assumption))) only [vw0, vw1, vw2, vw3, vw4, vu0, vu1, ↓condV_t, ↓condV_f, cap_nil, allocV, splice, partV, buildV, eqFieldsV, eqS, tabs, TK.agg, reduceCtorEq, Array.toList, List.map_cons, List.map_nil, ↓reduceIte, List.length_map, Nat.reduceAdd, Nat.reduceLeDiff, Nat.reduceLT, Nat.reduceMul, Nat.reduceSub, Option.bind_some, Option.map_some, bndV, numV, eI, eU, e8, eB, AV.isCell, Int.reduceToNat, Int.reduceSub, Int.reduceAdd, Int.reduceNeg, B28_0, load_at (st.get 0 rfl)])
  refine ⟨fun h1 => ?_, fun h1 => ?_⟩
  · have hltk : k < (a.states * b.states).toNat := by omega
    have hkd : 0 ≤ (k : Int) / b.states ∧ (k : Int) / b.states < a.states := ⟨Int.ediv_nonneg (by omega) (by omega), Int.ediv_lt_of_lt_mul (by omega) (by omega)⟩
    have hkm : 0 ≤ (k : Int) % b.states ∧ (k : Int) % b.states < b.states := ⟨Int.emod_nonneg _ (by omega), Int.emod_lt_of_pos _ (by omega)⟩
    have hal := sAll_len a b k
    have hal2 : k * (8 * (a.states.toNat * b.states.toNat)) ≤ 96 * (8 * 96) := Nat.mul_le_mul (by omega) (by omega)
    refine L28_1_rule ((0 : Nat), y, D2, G) (fun s => I s.1) (fun s => s.2.2.2) (fun s => s.1 ≤ 8 ∧ St H (bTs a b r2 r3 r4 r6 z1 z2 z3 x s.2.1 w l (sAll a b k ++ sRow a b k s.1) [] D1 s.2.2.1 D3 ++ uTs u1 u2 u3) s.2.2.2) (fun s => 8 - s.1)
      ⟨⟨by simp, by simpa [sRow] using st⟩, .refl _, Heap.le_refl _⟩ ?_
    clear st y D2
    rintro ⟨c, y, D2, G⟩ ⟨hc, st⟩
    dsimp only at hc st
    have hrl := sRow_len a b k c
    have hrl2 : c * (a.states.toNat * b.states.toNat) ≤ 8 * 96 := Nat.mul_le_mul hc hm
    have hcl := sCell_len a b k c
    have e5 : IntKind.i64.wrap ((c : Int) + 1) = ((c + 1 : Nat) : Int) := by rw [i64_id (by omega) (by omega)]; simp
    have e6 : IntKind.i64.wrap ((k : Int) + 1) = ((k + 1 : Nat) : Int) := by rw [i64_id (by omega) (by omega)]; simp
    have eq1 : Int.tdiv (k : Int) b.states = (k : Int) / b.states := Int.tdiv_eq_ediv_of_nonneg (by omega)
    have eq2 : Int.tmod (k : Int) b.states = (k : Int) % b.states := Int.tmod_eq_emod_of_nonneg (by omega)
    have ew : IntKind.i64.wrap ((k : Int) / b.states) = (k : Int) / b.states := i64_id (by omega) (by omega)
    have ew2 : IntKind.i64.wrap ((k : Int) % b.states) = (k : Int) % b.states := i64_id (by omega) (by omega)
    (try simp (maxSteps := 1000000) (disch := (first | assumption | (apply Ne.symm; assumption))) only [vw0, vw1, vw2, vw3, vw4, vu0, vu1, ↓condV_t, ↓condV_f, cap_nil, allocV, splice, partV, buildV, eqFieldsV, eqS, tabs, TK.agg, reduceCtorEq, Array.toList, List.map_cons, List.map_nil, ↓reduceIte, List.length_map, Nat.reduceAdd, Nat.reduceLeDiff, Nat.reduceLT, Nat.reduceMul, Nat.reduceSub, Option.bind_some, Option.map_some, bndV, numV, eI, eU, e8, eB, AV.isCell, Int.reduceToNat, Int.reduceSub, Int.reduceAdd, Int.reduceNeg, B28_1, load_at (st.get 2 rfl), load_at (st.get 3 rfl), eq1, eq2, ew, ew2])
    refine ⟨fun h2 => ?_, fun h2 => ?_⟩
    · refine ⟨by omega, ?_⟩
      refine lit1 tab_22 rfl tab_3 ⟨rfl, rfl⟩ ?_
      (try simp (maxSteps := 1000000) (disch := (first | assumption | (apply Ne.symm; assumption))) only [vw0, vw1, vw2, vw3, vw4, vu0, vu1, ↓condV_t, ↓condV_f, cap_nil, allocV, splice, partV, buildV, eqFieldsV, eqS, tabs, TK.agg, reduceCtorEq, Array.toList, List.map_cons, List.map_nil, ↓reduceIte, List.length_map, Nat.reduceAdd, Nat.reduceLeDiff, Nat.reduceLT, Nat.reduceMul, Nat.reduceSub, Option.bind_some, Option.map_some, bndV, numV, eI, eU, e8, eB, AV.isCell, Int.reduceToNat, Int.reduceSub, Int.reduceAdd, Int.reduceNeg, load_at (st.get 3 rfl)])
      refine Pu.use (l12Step_spec a sa fa ((k : Int) / b.states) c hkd) ?_
      (try simp (maxSteps := 1000000) (disch := (first | assumption | (apply Ne.symm; assumption))) only [vw0, vw1, vw2, vw3, vw4, vu0, vu1, ↓condV_t, ↓condV_f, cap_nil, allocV, splice, partV, buildV, eqFieldsV, eqS, tabs, TK.agg, reduceCtorEq, Array.toList, List.map_cons, List.map_nil, ↓reduceIte, List.length_map, Nat.reduceAdd, Nat.reduceLeDiff, Nat.reduceLT, Nat.reduceMul, Nat.reduceSub, Option.bind_some, Option.map_some, bndV, numV, eI, eU, e8, eB, AV.isCell, Int.reduceToNat, Int.reduceSub, Int.reduceAdd, Int.reduceNeg, load_at (st.get 2 rfl), eq2, ew2])
      refine ⟨by omega, ?_⟩
      refine lit1 tab_22 rfl tab_3 ⟨rfl, rfl⟩ ?_
      (try simp (maxSteps := 1000000) (disch := (first | assumption | (apply Ne.symm; assumption))) only [vw0, vw1, vw2, vw3, vw4, vu0, vu1, ↓condV_t, ↓condV_f, cap_nil, allocV, splice, partV, buildV, eqFieldsV, eqS, tabs, TK.agg, reduceCtorEq, Array.toList, List.map_cons, List.map_nil, ↓reduceIte, List.length_map, Nat.reduceAdd, Nat.reduceLeDiff, Nat.reduceLT, Nat.reduceMul, Nat.reduceSub, Option.bind_some, Option.map_some, bndV, numV, eI, eU, e8, eB, AV.isCell, Int.reduceToNat, Int.reduceSub, Int.reduceAdd, Int.reduceNeg, load_at (st.get 2 rfl)])
      refine Pu.use (l12Step_spec b sb fb ((k : Int) % b.states) c hkm) ?_
      (try simp (maxSteps := 1000000) (disch := (first | assumption | (apply Ne.symm; assumption))) only [vw0, vw1, vw2, vw3, vw4, vu0, vu1, ↓condV_t, ↓condV_f, cap_nil, allocV, splice, partV, buildV, eqFieldsV, eqS, tabs, TK.agg, reduceCtorEq, Array.toList, List.map_cons, List.map_nil, ↓reduceIte, List.length_map, Nat.reduceAdd, Nat.reduceLeDiff, Nat.reduceLT, Nat.reduceMul, Nat.reduceSub, Option.bind_some, Option.map_some, bndV, numV, eI, eU, e8, eB, AV.isCell, Int.reduceToNat, Int.reduceSub, Int.reduceAdd, Int.reduceNeg, load_at (st.get 2 rfl)])
      refine Pu.use (l12Pairs_spec _ _ b.states (stp_sm _ _ _ hsa).1 (stp_sm _ _ _ hsb).1 (stp_sm _ _ _ hsa).2 (stp_sm _ _ _ hsb).2 (by omega)) ?_
      have hs := sRow_succ a b k c
      obtain ⟨cl, hcl2⟩ : ∃ cl, cl = sCell a b k c := ⟨_, rfl⟩
      rw [show prs (stp a.states a.edges ((k : Int) / b.states) c) (stp b.states b.edges ((k : Int) % b.states) c) b.states = cl from hcl2.symm]
      rw [← hcl2] at hcl hs
      (try simp (maxSteps := 1000000) (disch := (first | assumption | (apply Ne.symm; assumption))) only [vw0, vw1, vw2, vw3, vw4, vu0, vu1, ↓condV_t, ↓condV_f, cap_nil, allocV, splice, partV, buildV, eqFieldsV, eqS, tabs, TK.agg, reduceCtorEq, Array.toList, List.map_cons, List.map_nil, ↓reduceIte, List.length_map, Nat.reduceAdd, Nat.reduceLeDiff, Nat.reduceLT, Nat.reduceMul, Nat.reduceSub, Option.bind_some, Option.map_some, bndV, numV, eI, eU, e8, eB, AV.isCell, Int.reduceToNat, Int.reduceSub, Int.reduceAdd, Int.reduceNeg])
      refine L28_2_rule ((0 : Nat), y, D2, G) (fun s => I s.1) (fun s => s.2.2.2) (fun s => s.1 ≤ cl.length ∧ St H (bTs a b r2 r3 r4 r6 z1 z2 z3 x s.2.1 w l (sAll a b k ++ (sRow a b k c ++ (cl.take s.1).map fun t => ⟨k, c, t⟩)) [] D1 s.2.2.1 D3 ++ uTs u1 u2 u3) s.2.2.2) (fun s => cl.length - s.1)
        ⟨⟨by simp, by simpa using st⟩, .refl _, Heap.le_refl _⟩ ?_
      clear st y D2
      rintro ⟨j, y, D2, G⟩ ⟨hj, st⟩
      dsimp only at hj st
      (try simp (maxSteps := 1000000) (disch := (first | assumption | (apply Ne.symm; assumption))) only [vw0, vw1, vw2, vw3, vw4, vu0, vu1, ↓condV_t, ↓condV_f, cap_nil, allocV, splice, partV, buildV, eqFieldsV, eqS, tabs, TK.agg, reduceCtorEq, Array.toList, List.map_cons, List.map_nil, ↓reduceIte, List.length_map, Nat.reduceAdd, Nat.reduceLeDiff, Nat.reduceLT, Nat.reduceMul, Nat.reduceSub, Option.bind_some, Option.map_some, bndV, numV, eI, eU, e8, eB, AV.isCell, Int.reduceToNat, Int.reduceSub, Int.reduceAdd, Int.reduceNeg, B28_2, load_at (st.get 0 rfl)])
      refine ⟨fun h3 => ⟨by omega, h3, ?_⟩, fun h3 => ?_⟩
      · have hltj : j < cl.length := by omega
        have ht : (cl.take (j + 1)).map (fun t => (⟨k, c, t⟩ : Ed)) = (cl.take j).map (fun t => (⟨k, c, t⟩ : Ed)) ++ [⟨k, c, cl.getD j default⟩] := by
          rw [take_succ_snoc hltj, List.map_append]; rfl
        have hlt : ((cl.take j).map fun t => (⟨k, c, t⟩ : Ed)).length ≤ 96 := by rw [List.length_map, List.length_take]; omega
        generalize cl.getD j default = t at ht ⊢
        have e7 : IntKind.i64.wrap ((j : Int) + 1) = ((j + 1 : Nat) : Int) := by rw [i64_id (by omega) (by omega)]; simp
        refine lit_edge (x := ⟨k, c, t⟩) ?_
        (try simp (maxSteps := 1000000) (disch := (first | assumption | (apply Ne.symm; assumption))) only [vw0, vw1, vw2, vw3, vw4, vu0, vu1, ↓condV_t, ↓condV_f, cap_nil, allocV, splice, partV, buildV, eqFieldsV, eqS, tabs, TK.agg, reduceCtorEq, Array.toList, List.map_cons, List.map_nil, ↓reduceIte, List.length_map, Nat.reduceAdd, Nat.reduceLeDiff, Nat.reduceLT, Nat.reduceMul, Nat.reduceSub, Option.bind_some, Option.map_some, bndV, numV, eI, eU, e8, eB, AV.isCell, Int.reduceToNat, Int.reduceSub, Int.reduceAdd, Int.reduceNeg, load_at (st.get 0 rfl)])
        refine rz_appE9 (ys := [⟨k, c, t⟩]) st 5 rfl (by simp only [List.length_append, List.length_cons, List.length_nil]; omega) fun q' G' hq' st => ?_
        rw [List.append_assoc, List.append_assoc, ← ht] at st ⊢
        obtain ⟨es', hes⟩ : ∃ es', sAll a b k ++ (sRow a b k c ++ (cl.take (j + 1)).map fun t => (⟨k, c, t⟩ : Ed)) = es' := ⟨_, rfl⟩
        rw [hes] at st ⊢
        (try simp (maxSteps := 1000000) (disch := (first | assumption | (apply Ne.symm; assumption))) only [vw0, vw1, vw2, vw3, vw4, vu0, vu1, ↓condV_t, ↓condV_f, cap_nil, allocV, splice, partV, buildV, eqFieldsV, eqS, tabs, TK.agg, reduceCtorEq, Array.toList, List.map_cons, List.map_nil, ↓reduceIte, List.length_map, Nat.reduceAdd, Nat.reduceLeDiff, Nat.reduceLT, Nat.reduceMul, Nat.reduceSub, Option.bind_some, Option.map_some, bndV, numV, eI, eU, e8, eB, AV.isCell, Int.reduceToNat, Int.reduceSub, Int.reduceAdd, Int.reduceNeg, store_at (st.get 0 rfl), e7])
        replace st := st.put 0 rfl [I (a.states * b.states), x, rowE q' es', w]
        rw [← hes] at st
        exact ⟨(j + 1, _, [q'], _), ⟨by simp only; omega, st⟩, by simp only; omega, .refl _, by rw [hes]; exact Heap.le_refl _⟩
      · have : j = cl.length := by omega
        subst this
        rw [List.take_length, ← hs] at st
        (try simp (maxSteps := 1000000) (disch := (first | assumption | (apply Ne.symm; assumption))) only [vw0, vw1, vw2, vw3, vw4, vu0, vu1, ↓condV_t, ↓condV_f, cap_nil, allocV, splice, partV, buildV, eqFieldsV, eqS, tabs, TK.agg, reduceCtorEq, Array.toList, List.map_cons, List.map_nil, ↓reduceIte, List.length_map, Nat.reduceAdd, Nat.reduceLeDiff, Nat.reduceLT, Nat.reduceMul, Nat.reduceSub, Option.bind_some, Option.map_some, bndV, numV, eI, eU, e8, eB, AV.isCell, Int.reduceToNat, Int.reduceSub, Int.reduceAdd, Int.reduceNeg, e5])
        exact ⟨(c + 1, y, D2, G), ⟨by simp only; omega, st⟩, by simp only; omega, .refl _, Heap.le_refl _⟩
    · have : c = 8 := by omega
      subst this
      rw [← sAll_succ] at st
      (try simp (maxSteps := 1000000) (disch := (first | assumption | (apply Ne.symm; assumption))) only [vw0, vw1, vw2, vw3, vw4, vu0, vu1, ↓condV_t, ↓condV_f, cap_nil, allocV, splice, partV, buildV, eqFieldsV, eqS, tabs, TK.agg, reduceCtorEq, Array.toList, List.map_cons, List.map_nil, ↓reduceIte, List.length_map, Nat.reduceAdd, Nat.reduceLeDiff, Nat.reduceLT, Nat.reduceMul, Nat.reduceSub, Option.bind_some, Option.map_some, bndV, numV, eI, eU, e8, eB, AV.isCell, Int.reduceToNat, Int.reduceSub, Int.reduceAdd, Int.reduceNeg, e6])
      exact ⟨(k + 1, y, D2, G), ⟨by simp only; omega, st⟩, by simp only; omega, .refl _, Heap.le_refl _⟩
  · have : k = (a.states * b.states).toNat := by omega
    subst this
    (try simp (maxSteps := 1000000) (disch := (first | assumption | (apply Ne.symm; assumption))) only [vw0, vw1, vw2, vw3, vw4, vu0, vu1, ↓condV_t, ↓condV_f, cap_nil, allocV, splice, partV, buildV, eqFieldsV, eqS, tabs, TK.agg, reduceCtorEq, Array.toList, List.map_cons, List.map_nil, ↓reduceIte, List.length_map, Nat.reduceAdd, Nat.reduceLeDiff, Nat.reduceLT, Nat.reduceMul, Nat.reduceSub, Option.bind_some, Option.map_some, bndV, numV, eI, eU, e8, eB, AV.isCell, Int.reduceToNat, Int.reduceSub, Int.reduceAdd, Int.reduceNeg, load_at (st.get 3 rfl)])
    exact ref_st3 fa fb o ho st hsm h
end
theorem Both_ref (a b : Au) (sa : smAu a) (sb : smAu b) {H : Heap} {K : AV → Heap → Prop} (h : ∀ v G D, LAu (boR a b).1 v G D → New H G D → K (.tup [v, B (boR a b).2]) G) : CallT Try.prog 28 [aAu a, aAu b] H K := by
  refine CallT.fin ?_
  refine lend3 (St.nil H) W28_hb fun u1 u2 u3 G st => ?_
  refine lend3 st W28_hb fun z1 z2 z3 G st => ?_
  refine W28_ok ?_; simp (maxSteps := 1000000) (disch := (first | assumption | (apply Ne.symm; assumption))) only [W28, vw0, vw1, vw2, vw3, vw4, vu0, vu1, ↓condV_t, ↓condV_f, cap_nil, allocV, splice, partV, buildV, eqFieldsV, eqS, tabs, TK.agg, reduceCtorEq, Array.toList, List.map_cons, List.map_nil, ↓reduceIte, List.length_map, Nat.reduceAdd, Nat.reduceLeDiff, Nat.reduceLT, Nat.reduceMul, Nat.reduceSub, Option.bind_some, Option.map_some, bndV, numV, eI, eU, e8, eB, AV.isCell, Int.reduceToNat, Int.reduceSub, Int.reduceAdd, Int.reduceNeg]
  intro r2 hr2 r3 n3 hr3 r4 n4 n4' hr4
  replace st := ((st.cell hr2 [I a.states, Is a.first, Es a.edges, Ls a.goals]).cell (r := r3) (by rw [Heap.set_other n3]; exact hr3) [I b.states, Is b.first, Es b.edges, Ls b.goals]).cell (r := r4) (by rw [Heap.set_other n4, Heap.set_other n4']; exact hr4) [I 0, .p .nil, .p .nil, .p .nil]
  generalize ((G.set r2 [I a.states, Is a.first, Es a.edges, Ls a.goals]).set r3 [I b.states, Is b.first, Es b.edges, Ls b.goals]).set r4 [I 0, .p .nil, .p .nil, .p .nil] = G1 at st ⊢
  clear hr2 hr3 n3 hr4 n4 n4'
  have bad : boR a b = (zeroA, false) → wkK K (.tup [zA, B false]) (G1.set r4 [I 0, .p .nil, .p .nil, .p .nil]) := fun er => by
    rw [er] at h
    exact zero_st (st.put 0 rfl [I 0, .p .nil, .p .nil, .p .nil]) 3 4 5 rfl rfl rfl (by decide) (by decide) (by decide) h
  (try simp (maxSteps := 1000000) (disch := (first | assumption | (apply Ne.symm; assumption))) only [vw0, vw1, vw2, vw3, vw4, vu0, vu1, ↓condV_t, ↓condV_f, cap_nil, allocV, splice, partV, buildV, eqFieldsV, eqS, tabs, TK.agg, reduceCtorEq, Array.toList, List.map_cons, List.map_nil, ↓reduceIte, List.length_map, Nat.reduceAdd, Nat.reduceLeDiff, Nat.reduceLT, Nat.reduceMul, Nat.reduceSub, Option.bind_some, Option.map_some, bndV, numV, eI, eU, e8, eB, AV.isCell, Int.reduceToNat, Int.reduceSub, Int.reduceAdd, Int.reduceNeg, load_at (st.get 2 rfl)])
  refine Pu.use (GoodAuto_spec a sa) ?_
  cases ga : goodA a
  · (try simp (maxSteps := 1000000) (disch := (first | assumption | (apply Ne.symm; assumption))) only [vw0, vw1, vw2, vw3, vw4, vu0, vu1, ↓condV_t, ↓condV_f, cap_nil, allocV, splice, partV, buildV, eqFieldsV, eqS, tabs, TK.agg, reduceCtorEq, Array.toList, List.map_cons, List.map_nil, ↓reduceIte, List.length_map, Nat.reduceAdd, Nat.reduceLeDiff, Nat.reduceLT, Nat.reduceMul, Nat.reduceSub, Option.bind_some, Option.map_some, bndV, numV, eI, eU, e8, eB, AV.isCell, Int.reduceToNat, Int.reduceSub, Int.reduceAdd, Int.reduceNeg, store_at (st.get 0 rfl)])
    exact bad (by simp [boR, ga])
  (try simp (maxSteps := 1000000) (disch := (first | assumption | (apply Ne.symm; assumption))) only [vw0, vw1, vw2, vw3, vw4, vu0, vu1, ↓condV_t, ↓condV_f, cap_nil, allocV, splice, partV, buildV, eqFieldsV, eqS, tabs, TK.agg, reduceCtorEq, Array.toList, List.map_cons, List.map_nil, ↓reduceIte, List.length_map, Nat.reduceAdd, Nat.reduceLeDiff, Nat.reduceLT, Nat.reduceMul, Nat.reduceSub, Option.bind_some, Option.map_some, bndV, numV, eI, eU, e8, eB, AV.isCell, Int.reduceToNat, Int.reduceSub, Int.reduceAdd, Int.reduceNeg, load_at (st.get 1 rfl)])
  refine Pu.use (GoodAuto_spec b sb) ?_
  cases gb : goodA b
  · (try simp (maxSteps := 1000000) (disch := (first | assumption | (apply Ne.symm; assumption))) only [vw0, vw1, vw2, vw3, vw4, vu0, vu1, ↓condV_t, ↓condV_f, cap_nil, allocV, splice, partV, buildV, eqFieldsV, eqS, tabs, TK.agg, reduceCtorEq, Array.toList, List.map_cons, List.map_nil, ↓reduceIte, List.length_map, Nat.reduceAdd, Nat.reduceLeDiff, Nat.reduceLT, Nat.reduceMul, Nat.reduceSub, Option.bind_some, Option.map_some, bndV, numV, eI, eU, e8, eB, AV.isCell, Int.reduceToNat, Int.reduceSub, Int.reduceAdd, Int.reduceNeg, store_at (st.get 0 rfl)])
    exact bad (by simp [boR, ga, gb])
  have fa := good_facts ga
  have fb := good_facts gb
  have hsa := fa.st
  have hsb := fb.st
  have hm := mul_bd (a := a.states) (A := 96) (b := b.states) (B := 96) (by omega) (by omega)
  have e0 : IntKind.i64.wrap (a.states * b.states) = a.states * b.states := i64_id (by omega) (by omega)
  (try simp (maxSteps := 1000000) (disch := (first | assumption | (apply Ne.symm; assumption))) only [vw0, vw1, vw2, vw3, vw4, vu0, vu1, ↓condV_t, ↓condV_f, cap_nil, allocV, splice, partV, buildV, eqFieldsV, eqS, tabs, TK.agg, reduceCtorEq, Array.toList, List.map_cons, List.map_nil, ↓reduceIte, List.length_map, Nat.reduceAdd, Nat.reduceLeDiff, Nat.reduceLT, Nat.reduceMul, Nat.reduceSub, Option.bind_some, Option.map_some, bndV, numV, eI, eU, e8, eB, AV.isCell, Int.reduceToNat, Int.reduceSub, Int.reduceAdd, Int.reduceNeg, load_at (st.get 2 rfl), load_at (st.get 1 rfl), e0, store_at (st.get 0 rfl)])
  refine ⟨fun h1 => bad (by simp [boR, ga, gb]; omega), fun h1 => ?_⟩
  have hN : a.states * b.states ≤ 96 := by omega
  have hsm := boT_sm ga gb hN
  have er : boR a b = if goodA (boT a b) then (boT a b, true) else (zeroA, false) := by simp [boR, ga, gb, hN]
  refine l12Pairs_row a.first b.first b.states fa.fi.1 fb.fi.1 fa.fi.2 fb.fi.2 (by omega) fun q1 hq1 => ?_
  replace st := st.cell hq1 (cP fI (prs a.first b.first b.states))
  generalize G1.set q1 (cP fI (prs a.first b.first b.states)) = G2 at st ⊢
  (try simp (maxSteps := 1000000) (disch := (first | assumption | (apply Ne.symm; assumption))) only [vw0, vw1, vw2, vw3, vw4, vu0, vu1, ↓condV_t, ↓condV_f, cap_nil, allocV, splice, partV, buildV, eqFieldsV, eqS, tabs, TK.agg, reduceCtorEq, Array.toList, List.map_cons, List.map_nil, ↓reduceIte, List.length_map, Nat.reduceAdd, Nat.reduceLeDiff, Nat.reduceLT, Nat.reduceMul, Nat.reduceSub, Option.bind_some, Option.map_some, bndV, numV, eI, eU, e8, eB, AV.isCell, Int.reduceToNat, Int.reduceSub, Int.reduceAdd, Int.reduceNeg, load_at (st.get 3 rfl), load_at (st.get 2 rfl), e0])
  intro r6 hr6
  replace st := st.cell hr6 [I (a.states * b.states), rowP q1 (prs a.first b.first b.states), .p .nil, .p .nil]
  generalize G2.set r6 _ = G3 at st ⊢
  clear hr6
  have h' : ∀ v G D, LAu (if goodA (boT a b) then boT a b else zeroA) v G D → New H G D → K (.tup [v, B (goodA (boT a b))]) G := by
    rw [er] at h
    cases hgo : goodA (boT a b) <;> simp only [hgo, if_true, Bool.false_eq_true, if_false] at h ⊢ <;> exact h
  have st := ((owned_i st 1 rfl).erase 5).perm (Us := bTs a b r2 r3 r4 r6 0 z2 z3 (rowP q1 (prs a.first b.first b.states)) (.p .nil) (.p .nil) (prs a.first b.first b.states) [] [] [q1] [z2] [z3] ++ uTs u1 u2 u3)
    (((List.perm_append_comm (l₁ := [riT 0 (rowP q1 (prs a.first b.first b.states)) (prs a.first b.first b.states) [q1]]) (l₂ := [cellT r4 [I 0, .p .nil, .p .nil, .p .nil], cellT r3 [I b.states, Is b.first, Es b.edges, Ls b.goals], cellT r2 [I a.states, Is a.first, Es a.edges, Ls a.goals]])).append_right _).cons _)
  exact ref_st0 sa sb fa fb hN (boT a b) rfl st hsm h'
theorem boR_sm {a b : Au} (ha : smAu a) : smAu (boR a b).1 ∧ totAu (boR a b).1 ≤ 10000 := by
  unfold boR
  split
  · rename_i hg
    simp only [Bool.and_eq_true] at hg
    exact good_tot (good_facts hg.2.2.2)
  · exact zeroA_tot
theorem Both_pu (a b : Au) (sa : smAu a) (sb : smAu b) : Pu Try.prog 28 [aAu a, aAu b] (.tup [aAu (boR a b).1, B (boR a b).2]) := by
  refine ⟨fun H => CallT.fin (Both_ref a b sa sb fun v G D hl hn => ?_)⟩
  obtain ⟨G1, w1, f1⟩ := hl.wk hn.nd (fun v => .tup [v, B (boR a b).2]) (fun h => .tup (.cons h (.cons (.same _) .nil)))
  refine ⟨_, _, .trans w1 (.forget (H' := H) fun y bb hb => ?_), rfl, rfl⟩
  rw [f1 y (fun hm => by rw [hn.fr y hm] at hb; cases hb)]
  exact hn.le y bb hb
theorem FnExactBothAutos_true {a b : Au} (oa : okAu a) (ob : okAu b) : Pu Try.prog 7 [aAu a, aAu b] (B true) := by
  refine Pu.of fun H => ?_
  refine W7_ok ?_; simp (maxSteps := 1000000) (disch := (first | assumption | (apply Ne.symm; assumption))) only [W7, vw0, vw1, vw2, vw3, vw4, vu0, vu1, ↓condV_t, ↓condV_f, cap_nil, allocV, splice, partV, buildV, eqFieldsV, eqS, tabs, TK.agg, reduceCtorEq, Array.toList, List.map_cons, List.map_nil, ↓reduceIte, List.length_map, Nat.reduceAdd, Nat.reduceLeDiff, Nat.reduceLT, Nat.reduceMul, Nat.reduceSub, Option.bind_some, Option.map_some, bndV, numV, eI, eU, e8, eB, AV.isCell, Int.reduceToNat, Int.reduceSub, Int.reduceAdd, Int.reduceNeg]
  intro r hr s nsr hs
  have nrs : r ≠ s := Ne.symm nsr
  have st := ((St.nil H).cell hr [I a.states, Is a.first, Es a.edges, Ls a.goals]).cell (r := s) (by rw [Heap.set_other nsr]; exact hs) [I b.states, Is b.first, Es b.edges, Ls b.goals]
  (try simp (maxSteps := 1000000) (disch := (first | assumption | (apply Ne.symm; assumption))) only [vw0, vw1, vw2, vw3, vw4, vu0, vu1, ↓condV_t, ↓condV_f, cap_nil, allocV, splice, partV, buildV, eqFieldsV, eqS, tabs, TK.agg, reduceCtorEq, Array.toList, List.map_cons, List.map_nil, ↓reduceIte, List.length_map, Nat.reduceAdd, Nat.reduceLeDiff, Nat.reduceLT, Nat.reduceMul, Nat.reduceSub, Option.bind_some, Option.map_some, bndV, numV, eI, eU, e8, eB, AV.isCell, Int.reduceToNat, Int.reduceSub, Int.reduceAdd, Int.reduceNeg])
  refine Pu.use (szAuto_spec a 1048576 (by omega) (by omega) oa) ?_
  (try simp (maxSteps := 1000000) (disch := (first | assumption | (apply Ne.symm; assumption))) only [vw0, vw1, vw2, vw3, vw4, vu0, vu1, ↓condV_t, ↓condV_f, cap_nil, allocV, splice, partV, buildV, eqFieldsV, eqS, tabs, TK.agg, reduceCtorEq, Array.toList, List.map_cons, List.map_nil, ↓reduceIte, List.length_map, Nat.reduceAdd, Nat.reduceLeDiff, Nat.reduceLT, Nat.reduceMul, Nat.reduceSub, Option.bind_some, Option.map_some, bndV, numV, eI, eU, e8, eB, AV.isCell, Int.reduceToNat, Int.reduceSub, Int.reduceAdd, Int.reduceNeg])
  refine ⟨fun _ => st.le, fun h1 => ?_⟩
  have e1 : szR 1048576 (totAu a) = 1048576 - totAu a ∧ (totAu a : Int) ≤ 1048576 := by
    unfold szR at h1 ⊢
    split at h1
    · rename_i h; exact ⟨by rw [if_pos h], h⟩
    · omega
  rw [e1.1]
  have sa := smAu_of e1.2
  refine Pu.use (szAuto_spec b _ (by omega) (by omega) ob) ?_
  (try simp (maxSteps := 1000000) (disch := (first | assumption | (apply Ne.symm; assumption))) only [vw0, vw1, vw2, vw3, vw4, vu0, vu1, ↓condV_t, ↓condV_f, cap_nil, allocV, splice, partV, buildV, eqFieldsV, eqS, tabs, TK.agg, reduceCtorEq, Array.toList, List.map_cons, List.map_nil, ↓reduceIte, List.length_map, Nat.reduceAdd, Nat.reduceLeDiff, Nat.reduceLT, Nat.reduceMul, Nat.reduceSub, Option.bind_some, Option.map_some, bndV, numV, eI, eU, e8, eB, AV.isCell, Int.reduceToNat, Int.reduceSub, Int.reduceAdd, Int.reduceNeg])
  refine ⟨fun _ => st.le, fun h2 => ?_⟩
  have e2 : (totAu b : Int) ≤ 1048576 := by
    unfold szR at h2
    split at h2 <;> omega
  have sb := smAu_of e2
  refine Pu.use (toAuto_spec a sa) ?_
  (try simp (maxSteps := 1000000) (disch := (first | assumption | (apply Ne.symm; assumption))) only [vw0, vw1, vw2, vw3, vw4, vu0, vu1, ↓condV_t, ↓condV_f, cap_nil, allocV, splice, partV, buildV, eqFieldsV, eqS, tabs, TK.agg, reduceCtorEq, Array.toList, List.map_cons, List.map_nil, ↓reduceIte, List.length_map, Nat.reduceAdd, Nat.reduceLeDiff, Nat.reduceLT, Nat.reduceMul, Nat.reduceSub, Option.bind_some, Option.map_some, bndV, numV, eI, eU, e8, eB, AV.isCell, Int.reduceToNat, Int.reduceSub, Int.reduceAdd, Int.reduceNeg])
  refine Pu.use (toAuto_spec b sb) ?_
  refine Pu.use (Both_pu a b sa sb) ?_
  have hres := boR_sm (b := b) sa
  have hI : ∀ {H : Heap} {K : AV → Heap → Prop}, (∀ v G D, LAu (boR a b).1 v G D → New H G D → K (.tup [v, B (boR a b).2]) G) → CallT Try.prog 29 [aAu a, aAu b] H K := Both_impl a b sa sb
  generalize (boR a b).1 = o at hres hI
  generalize (boR a b).2 = ok at hI
  (try simp (maxSteps := 1000000) (disch := (first | assumption | (apply Ne.symm; assumption))) only [vw0, vw1, vw2, vw3, vw4, vu0, vu1, ↓condV_t, ↓condV_f, cap_nil, allocV, splice, partV, buildV, eqFieldsV, eqS, tabs, TK.agg, reduceCtorEq, Array.toList, List.map_cons, List.map_nil, ↓reduceIte, List.length_map, Nat.reduceAdd, Nat.reduceLeDiff, Nat.reduceLT, Nat.reduceMul, Nat.reduceSub, Option.bind_some, Option.map_some, bndV, numV, eI, eU, e8, eB, AV.isCell, Int.reduceToNat, Int.reduceSub, Int.reduceAdd, Int.reduceNeg])
  intro w hw1 hw2 hw
  replace st := st.cell (r := w) (by rw [Heap.set_other hw1, Heap.set_other hw2]; exact hw) [I o.states, Is o.first, Es o.edges, Ls o.goals]
  generalize ((H.set r [I a.states, Is a.first, Es a.edges, Ls a.goals]).set s [I b.states, Is b.first, Es b.edges, Ls b.goals]).set w [I o.states, Is o.first, Es o.edges, Ls o.goals] = G at st ⊢
  clear hw1 hw2 hw nsr nrs hr hs
  (try simp (maxSteps := 1000000) (disch := (first | assumption | (apply Ne.symm; assumption))) only [vw0, vw1, vw2, vw3, vw4, vu0, vu1, ↓condV_t, ↓condV_f, cap_nil, allocV, splice, partV, buildV, eqFieldsV, eqS, tabs, TK.agg, reduceCtorEq, Array.toList, List.map_cons, List.map_nil, ↓reduceIte, List.length_map, Nat.reduceAdd, Nat.reduceLeDiff, Nat.reduceLT, Nat.reduceMul, Nat.reduceSub, Option.bind_some, Option.map_some, bndV, numV, eI, eU, e8, eB, AV.isCell, Int.reduceToNat, Int.reduceSub, Int.reduceAdd, Int.reduceNeg, load_at (st.get 2 rfl)])
  refine toAuto_live a sa fun va G1 Da la na => ?_
  replace st := st.push (auT a va Da) na la
  obtain ⟨a1, a2, a3, rfl⟩ := aAu_cells la
  clear la na
  (try simp (maxSteps := 1000000) (disch := (first | assumption | (apply Ne.symm; assumption))) only [vw0, vw1, vw2, vw3, vw4, vu0, vu1, ↓condV_t, ↓condV_f, cap_nil, allocV, splice, partV, buildV, eqFieldsV, eqS, tabs, TK.agg, reduceCtorEq, Array.toList, List.map_cons, List.map_nil, ↓reduceIte, List.length_map, Nat.reduceAdd, Nat.reduceLeDiff, Nat.reduceLT, Nat.reduceMul, Nat.reduceSub, Option.bind_some, Option.map_some, bndV, numV, eI, eU, e8, eB, AV.isCell, Int.reduceToNat, Int.reduceSub, Int.reduceAdd, Int.reduceNeg])
  intro x hx
  replace st := st.cell hx [I a.states, .sl a1 1 0 a.first.length, .sl a2 3 0 a.edges.length, .sl a3 1 0 a.goals.length]
  (try simp (maxSteps := 1000000) (disch := (first | assumption | (apply Ne.symm; assumption))) only [vw0, vw1, vw2, vw3, vw4, vu0, vu1, ↓condV_t, ↓condV_f, cap_nil, allocV, splice, partV, buildV, eqFieldsV, eqS, tabs, TK.agg, reduceCtorEq, Array.toList, List.map_cons, List.map_nil, ↓reduceIte, List.length_map, Nat.reduceAdd, Nat.reduceLeDiff, Nat.reduceLT, Nat.reduceMul, Nat.reduceSub, Option.bind_some, Option.map_some, bndV, numV, eI, eU, e8, eB, AV.isCell, Int.reduceToNat, Int.reduceSub, Int.reduceAdd, Int.reduceNeg, load_at (st.get 3 rfl)])
  generalize G1.set x [I a.states, .sl a1 1 0 a.first.length, .sl a2 3 0 a.edges.length, .sl a3 1 0 a.goals.length] = G2 at st ⊢
  clear hx G1 G
  refine toAuto_live b sb fun vb G1 Db lb nb => ?_
  replace st := st.push (auT b vb Db) nb lb
  obtain ⟨b1, b2, b3, rfl⟩ := aAu_cells lb
  clear lb nb
  (try simp (maxSteps := 1000000) (disch := (first | assumption | (apply Ne.symm; assumption))) only [vw0, vw1, vw2, vw3, vw4, vu0, vu1, ↓condV_t, ↓condV_f, cap_nil, allocV, splice, partV, buildV, eqFieldsV, eqS, tabs, TK.agg, reduceCtorEq, Array.toList, List.map_cons, List.map_nil, ↓reduceIte, List.length_map, Nat.reduceAdd, Nat.reduceLeDiff, Nat.reduceLT, Nat.reduceMul, Nat.reduceSub, Option.bind_some, Option.map_some, bndV, numV, eI, eU, e8, eB, AV.isCell, Int.reduceToNat, Int.reduceSub, Int.reduceAdd, Int.reduceNeg])
  intro y hy
  replace st := st.cell hy [I b.states, .sl b1 1 0 b.first.length, .sl b2 3 0 b.edges.length, .sl b3 1 0 b.goals.length]
  (try simp (maxSteps := 1000000) (disch := (first | assumption | (apply Ne.symm; assumption))) only [vw0, vw1, vw2, vw3, vw4, vu0, vu1, ↓condV_t, ↓condV_f, cap_nil, allocV, splice, partV, buildV, eqFieldsV, eqS, tabs, TK.agg, reduceCtorEq, Array.toList, List.map_cons, List.map_nil, ↓reduceIte, List.length_map, Nat.reduceAdd, Nat.reduceLeDiff, Nat.reduceLT, Nat.reduceMul, Nat.reduceSub, Option.bind_some, Option.map_some, bndV, numV, eI, eU, e8, eB, AV.isCell, Int.reduceToNat, Int.reduceSub, Int.reduceAdd, Int.reduceNeg, load_at (st.get 2 rfl)])
  generalize G1.set y [I b.states, .sl b1 1 0 b.first.length, .sl b2 3 0 b.edges.length, .sl b3 1 0 b.goals.length] = G at st ⊢
  clear hy G1 G2
  obtain ⟨Gw, hwk⟩ := wk2 st 3 1 rfl rfl (by decide)
  refine thawAu hI hwk fun v G1 D lo no => ?_
  clear hwk Gw
  replace st := st.push (auT o v D) no lo
  obtain ⟨o1, o2, o3, rfl⟩ := aAu_cells lo
  clear lo no
  (try simp (maxSteps := 1000000) (disch := (first | assumption | (apply Ne.symm; assumption))) only [vw0, vw1, vw2, vw3, vw4, vu0, vu1, ↓condV_t, ↓condV_f, cap_nil, allocV, splice, partV, buildV, eqFieldsV, eqS, tabs, TK.agg, reduceCtorEq, Array.toList, List.map_cons, List.map_nil, ↓reduceIte, List.length_map, Nat.reduceAdd, Nat.reduceLeDiff, Nat.reduceLT, Nat.reduceMul, Nat.reduceSub, Option.bind_some, Option.map_some, bndV, numV, eI, eU, e8, eB, AV.isCell, Int.reduceToNat, Int.reduceSub, Int.reduceAdd, Int.reduceNeg])
  intro z hz
  replace st := st.cell hz [I o.states, .sl o1 1 0 o.first.length, .sl o2 3 0 o.edges.length, .sl o3 1 0 o.goals.length]
  (try simp (maxSteps := 1000000) (disch := (first | assumption | (apply Ne.symm; assumption))) only [vw0, vw1, vw2, vw3, vw4, vu0, vu1, ↓condV_t, ↓condV_f, cap_nil, allocV, splice, partV, buildV, eqFieldsV, eqS, tabs, TK.agg, reduceCtorEq, Array.toList, List.map_cons, List.map_nil, ↓reduceIte, List.length_map, Nat.reduceAdd, Nat.reduceLeDiff, Nat.reduceLT, Nat.reduceMul, Nat.reduceSub, Option.bind_some, Option.map_some, bndV, numV, eI, eU, e8, eB, AV.isCell, Int.reduceToNat, Int.reduceSub, Int.reduceAdd, Int.reduceNeg, load_at (st.get 6 rfl)])
  generalize G1.set z [I o.states, .sl o1 1 0 o.first.length, .sl o2 3 0 o.edges.length, .sl o3 1 0 o.goals.length] = G2 at st ⊢
  clear hz G1 G
  refine LAu.eq (st.get 1 rfl) (st.ndT 1 rfl) hres.1 ?_
  (try simp (maxSteps := 1000000) (disch := (first | assumption | (apply Ne.symm; assumption))) only [vw0, vw1, vw2, vw3, vw4, vu0, vu1, ↓condV_t, ↓condV_f, cap_nil, allocV, splice, partV, buildV, eqFieldsV, eqS, tabs, TK.agg, reduceCtorEq, Array.toList, List.map_cons, List.map_nil, ↓reduceIte, List.length_map, Nat.reduceAdd, Nat.reduceLeDiff, Nat.reduceLT, Nat.reduceMul, Nat.reduceSub, Option.bind_some, Option.map_some, bndV, numV, eI, eU, e8, eB, AV.isCell, Int.reduceToNat, Int.reduceSub, Int.reduceAdd, Int.reduceNeg, load_at (st.get 4 rfl), load_at (st.get 8 rfl)])
  refine Pu.use (toAuto_spec a sa) ?_
  (try simp (maxSteps := 1000000) (disch := (first | assumption | (apply Ne.symm; assumption))) only [vw0, vw1, vw2, vw3, vw4, vu0, vu1, ↓condV_t, ↓condV_f, cap_nil, allocV, splice, partV, buildV, eqFieldsV, eqS, tabs, TK.agg, reduceCtorEq, Array.toList, List.map_cons, List.map_nil, ↓reduceIte, List.length_map, Nat.reduceAdd, Nat.reduceLeDiff, Nat.reduceLT, Nat.reduceMul, Nat.reduceSub, Option.bind_some, Option.map_some, bndV, numV, eI, eU, e8, eB, AV.isCell, Int.reduceToNat, Int.reduceSub, Int.reduceAdd, Int.reduceNeg, load_at (st.get 4 rfl)])
  refine LAu.eq (st.get 5 rfl) (st.ndT 5 rfl) sa ?_
  (try simp (maxSteps := 1000000) (disch := (first | assumption | (apply Ne.symm; assumption))) only [vw0, vw1, vw2, vw3, vw4, vu0, vu1, ↓condV_t, ↓condV_f, cap_nil, allocV, splice, partV, buildV, eqFieldsV, eqS, tabs, TK.agg, reduceCtorEq, Array.toList, List.map_cons, List.map_nil, ↓reduceIte, List.length_map, Nat.reduceAdd, Nat.reduceLeDiff, Nat.reduceLT, Nat.reduceMul, Nat.reduceSub, Option.bind_some, Option.map_some, bndV, numV, eI, eU, e8, eB, AV.isCell, Int.reduceToNat, Int.reduceSub, Int.reduceAdd, Int.reduceNeg, load_at (st.get 2 rfl), load_at (st.get 7 rfl)])
  refine Pu.use (toAuto_spec b sb) ?_
  (try simp (maxSteps := 1000000) (disch := (first | assumption | (apply Ne.symm; assumption))) only [vw0, vw1, vw2, vw3, vw4, vu0, vu1, ↓condV_t, ↓condV_f, cap_nil, allocV, splice, partV, buildV, eqFieldsV, eqS, tabs, TK.agg, reduceCtorEq, Array.toList, List.map_cons, List.map_nil, ↓reduceIte, List.length_map, Nat.reduceAdd, Nat.reduceLeDiff, Nat.reduceLT, Nat.reduceMul, Nat.reduceSub, Option.bind_some, Option.map_some, bndV, numV, eI, eU, e8, eB, AV.isCell, Int.reduceToNat, Int.reduceSub, Int.reduceAdd, Int.reduceNeg, load_at (st.get 2 rfl)])
  refine LAu.eq (st.get 3 rfl) (st.ndT 3 rfl) sb ?_
  (try simp (maxSteps := 1000000) (disch := (first | assumption | (apply Ne.symm; assumption))) only [vw0, vw1, vw2, vw3, vw4, vu0, vu1, ↓condV_t, ↓condV_f, cap_nil, allocV, splice, partV, buildV, eqFieldsV, eqS, tabs, TK.agg, reduceCtorEq, Array.toList, List.map_cons, List.map_nil, ↓reduceIte, List.length_map, Nat.reduceAdd, Nat.reduceLeDiff, Nat.reduceLT, Nat.reduceMul, Nat.reduceSub, Option.bind_some, Option.map_some, bndV, numV, eI, eU, e8, eB, AV.isCell, Int.reduceToNat, Int.reduceSub, Int.reduceAdd, Int.reduceNeg, load_at (st.get 4 rfl)])
  refine markAuto_live a (by omega) (st.get 5 rfl) (st.ndT 5 rfl) (by omega) (by omega) fun G ha hf => ?_
  replace st := st.upd 5 rfl (auT (mkAu 1 a) _ Da) rfl hf ha
  clear ha hf
  have ma := totM_le a
  (try simp (maxSteps := 1000000) (disch := (first | assumption | (apply Ne.symm; assumption))) only [vw0, vw1, vw2, vw3, vw4, vu0, vu1, ↓condV_t, ↓condV_f, cap_nil, allocV, splice, partV, buildV, eqFieldsV, eqS, tabs, TK.agg, reduceCtorEq, Array.toList, List.map_cons, List.map_nil, ↓reduceIte, List.length_map, Nat.reduceAdd, Nat.reduceLeDiff, Nat.reduceLT, Nat.reduceMul, Nat.reduceSub, Option.bind_some, Option.map_some, bndV, numV, eI, eU, e8, eB, AV.isCell, Int.reduceToNat, Int.reduceSub, Int.reduceAdd, Int.reduceNeg, load_at (st.get 2 rfl)])
  refine markAuto_live b (by omega) (st.get 3 rfl) (st.ndT 3 rfl) (by omega) (by omega) fun G1 hb hf => ?_
  replace st := st.upd 3 rfl (auT (mkAu (1 + totM a) b) _ Db) rfl hf hb
  clear hb hf
  have mb := totM_le b
  (try simp (maxSteps := 1000000) (disch := (first | assumption | (apply Ne.symm; assumption))) only [vw0, vw1, vw2, vw3, vw4, vu0, vu1, ↓condV_t, ↓condV_f, cap_nil, allocV, splice, partV, buildV, eqFieldsV, eqS, tabs, TK.agg, reduceCtorEq, Array.toList, List.map_cons, List.map_nil, ↓reduceIte, List.length_map, Nat.reduceAdd, Nat.reduceLeDiff, Nat.reduceLT, Nat.reduceMul, Nat.reduceSub, Option.bind_some, Option.map_some, bndV, numV, eI, eU, e8, eB, AV.isCell, Int.reduceToNat, Int.reduceSub, Int.reduceAdd, Int.reduceNeg])
  refine ⟨fun h => by omega, fun _ => ?_⟩
  (try simp (maxSteps := 1000000) (disch := (first | assumption | (apply Ne.symm; assumption))) only [vw0, vw1, vw2, vw3, vw4, vu0, vu1, ↓condV_t, ↓condV_f, cap_nil, allocV, splice, partV, buildV, eqFieldsV, eqS, tabs, TK.agg, reduceCtorEq, Array.toList, List.map_cons, List.map_nil, ↓reduceIte, List.length_map, Nat.reduceAdd, Nat.reduceLeDiff, Nat.reduceLT, Nat.reduceMul, Nat.reduceSub, Option.bind_some, Option.map_some, bndV, numV, eI, eU, e8, eB, AV.isCell, Int.reduceToNat, Int.reduceSub, Int.reduceAdd, Int.reduceNeg, load_at (st.get 0 rfl), load_at (st.get 6 rfl)])
  refine LAu.eq (st.get 1 rfl) (st.ndT 1 rfl) hres.1 ?_
  (try simp (maxSteps := 1000000) (disch := (first | assumption | (apply Ne.symm; assumption))) only [vw0, vw1, vw2, vw3, vw4, vu0, vu1, ↓condV_t, ↓condV_f, cap_nil, allocV, splice, partV, buildV, eqFieldsV, eqS, tabs, TK.agg, reduceCtorEq, Array.toList, List.map_cons, List.map_nil, ↓reduceIte, List.length_map, Nat.reduceAdd, Nat.reduceLeDiff, Nat.reduceLT, Nat.reduceMul, Nat.reduceSub, Option.bind_some, Option.map_some, bndV, numV, eI, eU, e8, eB, AV.isCell, Int.reduceToNat, Int.reduceSub, Int.reduceAdd, Int.reduceNeg, load_at (st.get 0 rfl)])
  refine markAuto_live o (by omega) (st.get 1 rfl) (st.ndT 1 rfl) (by omega) (by omega) fun G2 ho hf => ?_
  replace st := st.upd 1 rfl (auT (mkAu 1 o) _ D) rfl hf ho
  clear ho hf
  (try simp (maxSteps := 1000000) (disch := (first | assumption | (apply Ne.symm; assumption))) only [vw0, vw1, vw2, vw3, vw4, vu0, vu1, ↓condV_t, ↓condV_f, cap_nil, allocV, splice, partV, buildV, eqFieldsV, eqS, tabs, TK.agg, reduceCtorEq, Array.toList, List.map_cons, List.map_nil, ↓reduceIte, List.length_map, Nat.reduceAdd, Nat.reduceLeDiff, Nat.reduceLT, Nat.reduceMul, Nat.reduceSub, Option.bind_some, Option.map_some, bndV, numV, eI, eU, e8, eB, AV.isCell, Int.reduceToNat, Int.reduceSub, Int.reduceAdd, Int.reduceNeg, load_at (st.get 0 rfl)])
  refine LAu.held (st.get 1 rfl) (st.ndT 1 rfl) (by omega) ?_
  have mo := totM_le o
  (try simp (maxSteps := 1000000) (disch := (first | assumption | (apply Ne.symm; assumption))) only [vw0, vw1, vw2, vw3, vw4, vu0, vu1, ↓condV_t, ↓condV_f, cap_nil, allocV, splice, partV, buildV, eqFieldsV, eqS, tabs, TK.agg, reduceCtorEq, Array.toList, List.map_cons, List.map_nil, ↓reduceIte, List.length_map, Nat.reduceAdd, Nat.reduceLeDiff, Nat.reduceLT, Nat.reduceMul, Nat.reduceSub, Option.bind_some, Option.map_some, bndV, numV, eI, eU, e8, eB, AV.isCell, Int.reduceToNat, Int.reduceSub, Int.reduceAdd, Int.reduceNeg])
  refine ⟨fun h => by omega, fun _ => ?_⟩
  (try simp (maxSteps := 1000000) (disch := (first | assumption | (apply Ne.symm; assumption))) only [vw0, vw1, vw2, vw3, vw4, vu0, vu1, ↓condV_t, ↓condV_f, cap_nil, allocV, splice, partV, buildV, eqFieldsV, eqS, tabs, TK.agg, reduceCtorEq, Array.toList, List.map_cons, List.map_nil, ↓reduceIte, List.length_map, Nat.reduceAdd, Nat.reduceLeDiff, Nat.reduceLT, Nat.reduceMul, Nat.reduceSub, Option.bind_some, Option.map_some, bndV, numV, eI, eU, e8, eB, AV.isCell, Int.reduceToNat, Int.reduceSub, Int.reduceAdd, Int.reduceNeg, load_at (st.get 8 rfl), load_at (st.get 7 rfl)])
  refine Pu.use (toAuto_spec a sa) ?_
  (try simp (maxSteps := 1000000) (disch := (first | assumption | (apply Ne.symm; assumption))) only [vw0, vw1, vw2, vw3, vw4, vu0, vu1, ↓condV_t, ↓condV_f, cap_nil, allocV, splice, partV, buildV, eqFieldsV, eqS, tabs, TK.agg, reduceCtorEq, Array.toList, List.map_cons, List.map_nil, ↓reduceIte, List.length_map, Nat.reduceAdd, Nat.reduceLeDiff, Nat.reduceLT, Nat.reduceMul, Nat.reduceSub, Option.bind_some, Option.map_some, bndV, numV, eI, eU, e8, eB, AV.isCell, Int.reduceToNat, Int.reduceSub, Int.reduceAdd, Int.reduceNeg, load_at (st.get 7 rfl)])
  refine Pu.use (toAuto_spec b sb) ?_
  refine hI fun v G3 E le ne => ?_
  replace st := st.push (auT o v E) ne le
  obtain ⟨u1, u2, u3, rfl⟩ := aAu_cells le
  clear le ne
  (try simp (maxSteps := 1000000) (disch := (first | assumption | (apply Ne.symm; assumption))) only [vw0, vw1, vw2, vw3, vw4, vu0, vu1, ↓condV_t, ↓condV_f, cap_nil, allocV, splice, partV, buildV, eqFieldsV, eqS, tabs, TK.agg, reduceCtorEq, Array.toList, List.map_cons, List.map_nil, ↓reduceIte, List.length_map, Nat.reduceAdd, Nat.reduceLeDiff, Nat.reduceLT, Nat.reduceMul, Nat.reduceSub, Option.bind_some, Option.map_some, bndV, numV, eI, eU, e8, eB, AV.isCell, Int.reduceToNat, Int.reduceSub, Int.reduceAdd, Int.reduceNeg])
  intro u hu
  replace st := st.cell hu [I o.states, .sl u1 1 0 o.first.length, .sl u2 3 0 o.edges.length, .sl u3 1 0 o.goals.length]
  (try simp (maxSteps := 1000000) (disch := (first | assumption | (apply Ne.symm; assumption))) only [vw0, vw1, vw2, vw3, vw4, vu0, vu1, ↓condV_t, ↓condV_f, cap_nil, allocV, splice, partV, buildV, eqFieldsV, eqS, tabs, TK.agg, reduceCtorEq, Array.toList, List.map_cons, List.map_nil, ↓reduceIte, List.length_map, Nat.reduceAdd, Nat.reduceLeDiff, Nat.reduceLT, Nat.reduceMul, Nat.reduceSub, Option.bind_some, Option.map_some, bndV, numV, eI, eU, e8, eB, AV.isCell, Int.reduceToNat, Int.reduceSub, Int.reduceAdd, Int.reduceNeg, load_at (st.get 8 rfl)])
  generalize G3.set u [I o.states, .sl u1 1 0 o.first.length, .sl u2 3 0 o.edges.length, .sl u3 1 0 o.goals.length] = G4 at st ⊢
  refine LAu.eq (st.get 1 rfl) (st.ndT 1 rfl) hres.1 ?_
  (try simp (maxSteps := 1000000) (disch := (first | assumption | (apply Ne.symm; assumption))) only [vw0, vw1, vw2, vw3, vw4, vu0, vu1, ↓condV_t, ↓condV_f, cap_nil, allocV, splice, partV, buildV, eqFieldsV, eqS, tabs, TK.agg, reduceCtorEq, Array.toList, List.map_cons, List.map_nil, ↓reduceIte, List.length_map, Nat.reduceAdd, Nat.reduceLeDiff, Nat.reduceLT, Nat.reduceMul, Nat.reduceSub, Option.bind_some, Option.map_some, bndV, numV, eI, eU, e8, eB, AV.isCell, Int.reduceToNat, Int.reduceSub, Int.reduceAdd, Int.reduceNeg, load_at (st.get 2 rfl)])
  refine LAu.held (st.get 3 rfl) (st.ndT 3 rfl) (by omega) ?_
  (try simp (maxSteps := 1000000) (disch := (first | assumption | (apply Ne.symm; assumption))) only [vw0, vw1, vw2, vw3, vw4, vu0, vu1, ↓condV_t, ↓condV_f, cap_nil, allocV, splice, partV, buildV, eqFieldsV, eqS, tabs, TK.agg, reduceCtorEq, Array.toList, List.map_cons, List.map_nil, ↓reduceIte, List.length_map, Nat.reduceAdd, Nat.reduceLeDiff, Nat.reduceLT, Nat.reduceMul, Nat.reduceSub, Option.bind_some, Option.map_some, bndV, numV, eI, eU, e8, eB, AV.isCell, Int.reduceToNat, Int.reduceSub, Int.reduceAdd, Int.reduceNeg])
  exact ⟨fun h => by omega, fun _ => st.le⟩
end Go.Proofs.Ytfbaijpanbjmpaa
