/- Specs: AutoFor, by the program. -/
import Derived.Test.YtoeabliackaibaaMh0
import Derived.Test.YtoeabliackaibaaMb1
import Derived.Test.YtoeabliackaibaaMs1
namespace Go.Proofs.Ytoeabliackaibaa
open Go Go.Sep Go.Pt
set_option linter.unusedSimpArgs false
set_option linter.unusedVariables false
attribute [local irreducible] CallT

theorem guessesWith_at (f : List Sd) (g : GoodFm f) (ht : (tr f).length ≤ 5) (fn : Nat) (caps : List AV) (p : Nat → Bool) {H : Heap} (hp : ∀ x G, x < nF f → Heap.le H G → PuAt Try.prog fn (I x :: caps) G (B (p x))) {K : AV → Heap → Prop}
    (h : ∀ q G, G q = some (cP fI (gw (nF f) p)) → New H G [q] → K (rowP q (gw (nF f) p)) G) : CallT Try.prog 135 [Ds f, .fn fn caps] H K := by
  have hb := nF_bd ht
  refine CallT.fin ?_
  refine W135_ok ?_; simp (maxSteps := 1000000) (disch := (first | assumption | (apply Ne.symm; assumption))) only [W135, vw0, vw1, vw2, vw3, vw4, vu0, vu1, ↓condV_t, ↓condV_f, cap_nil, allocV, splice, partV, buildV, eqFieldsV, eqS, tabs, TK.agg, reduceCtorEq, Array.toList, List.map_cons, List.map_nil, ↓reduceIte, List.length_map, Nat.reduceAdd, Nat.reduceLeDiff, Nat.reduceLT, Nat.reduceMul, Nat.reduceSub, Option.bind_some, Option.map_some, bndV, numV, eI, eU, e8, eB, AV.isCell, Int.reduceToNat, Int.reduceSub, Int.reduceAdd, Int.reduceNeg]
  refine lit0I fun q0 hq0 => ?_
  have st := (St.nil H).cell hq0 (cP fI [])
  generalize H.set q0 (cP fI []) = G at st ⊢
  refine Pu.use (guesses_spec f g ht) ?_
  rw [nF_int]
  refine L135_0_rule ((0 : Nat), q0, G) (fun s => rowP s.2.1 (gw s.1 p)) (fun s => I s.1) (fun s => s.2.2)
    (fun s => s.1 ≤ nF f ∧ St H [cellT s.2.1 (cP fI (gw s.1 p))] s.2.2) (fun s => nF f - s.1) ⟨⟨by simp, st⟩, .refl _, .refl _, Heap.le_refl _⟩ ?_
  clear st
  rintro ⟨i, q, G⟩ ⟨hi, st⟩
  dsimp only at hi st
  have e5 : IntKind.i64.wrap ((i : Int) + 1) = ((i + 1 : Nat) : Int) := by rw [i64_id (by omega) (by omega)]; simp
  (try simp (maxSteps := 1000000) (disch := (first | assumption | (apply Ne.symm; assumption))) only [vw0, vw1, vw2, vw3, vw4, vu0, vu1, ↓condV_t, ↓condV_f, cap_nil, allocV, splice, partV, buildV, eqFieldsV, eqS, tabs, TK.agg, reduceCtorEq, Array.toList, List.map_cons, List.map_nil, ↓reduceIte, List.length_map, Nat.reduceAdd, Nat.reduceLeDiff, Nat.reduceLT, Nat.reduceMul, Nat.reduceSub, Option.bind_some, Option.map_some, bndV, numV, eI, eU, e8, eB, AV.isCell, Int.reduceToNat, Int.reduceSub, Int.reduceAdd, Int.reduceNeg, B135_0])
  refine ⟨fun h1 => ?_, fun h1 => ?_⟩
  · have hlt : i < nF f := by omega
    refine PuAt.use (hp i G hlt st.le) ?_
    have hgl := gw_len i p
    have hsucc := gw_succ i p
    (try simp (maxSteps := 1000000) (disch := (first | assumption | (apply Ne.symm; assumption))) only [vw0, vw1, vw2, vw3, vw4, vu0, vu1, ↓condV_t, ↓condV_f, cap_nil, allocV, splice, partV, buildV, eqFieldsV, eqS, tabs, TK.agg, reduceCtorEq, Array.toList, List.map_cons, List.map_nil, ↓reduceIte, List.length_map, Nat.reduceAdd, Nat.reduceLeDiff, Nat.reduceLT, Nat.reduceMul, Nat.reduceSub, Option.bind_some, Option.map_some, bndV, numV, eI, eU, e8, eB, AV.isCell, Int.reduceToNat, Int.reduceSub, Int.reduceAdd, Int.reduceNeg, e5])
    refine ⟨fun h2 => ?_, fun h2 => ?_⟩
    · rw [if_pos h2] at hsucc
      refine lit1 tab_24 rfl tab_3 ⟨rfl, rfl⟩ ?_
      refine st_appI (ys := [(i : Int)]) st 0 rfl (by simp only [List.length_singleton]; omega) fun q' G' hq' st => ?_
      rw [← hsucc] at st ⊢
      exact ⟨(i + 1, q', G'), ⟨by simp only; omega, st⟩, by simp only; omega, .refl _, .refl _, Heap.le_refl _⟩
    · rw [if_neg (by rw [h2]; simp)] at hsucc
      refine ⟨(i + 1, q, G), ⟨by simp only; omega, by rw [hsucc]; exact st⟩, by simp only; omega, ?_, .refl _, Heap.le_refl _⟩
      rw [hsucc]; exact .refl _
  · have : i = nF f := by omega
    subst this
    exact wkK.keep (h q G (st.get 0 rfl) (by simpa [cellT] using st.new))
theorem tr_root {f : List Sd} : (f.length : Int) - 1 ∈ tr f := by rw [tr, sc_mem, trL]; simp
theorem rooted1_at {f : List Sd} (g : GoodFm f) {H : Heap} {r5 r2 r3 : Nat} (h5 : H r5 = some [Is (tr f)]) (h2 : H r2 = some [Ds f]) (h3 : H r3 = some [B true]) (x : Nat) :
    PuAt Try.prog 136 [I x, .ptr r5 0, .ptr r2 0, .ptr r3 0] H (B (rootP f x)) := by
  have hl := g.l1
  have htl := tr_len f
  intro K hK
  have e1 : IntKind.i64.wrap ((f.length : Int) - 1) = (f.length : Int) - 1 := i64_id (by omega) (by omega)
  refine W136_ok ?_; simp (maxSteps := 1000000) (disch := (first | assumption | (apply Ne.symm; assumption))) only [W136, vw0, vw1, vw2, vw3, vw4, vu0, vu1, ↓condV_t, ↓condV_f, cap_nil, allocV, splice, partV, buildV, eqFieldsV, eqS, tabs, TK.agg, reduceCtorEq, Array.toList, List.map_cons, List.map_nil, ↓reduceIte, List.length_map, Nat.reduceAdd, Nat.reduceLeDiff, Nat.reduceLT, Nat.reduceMul, Nat.reduceSub, Option.bind_some, Option.map_some, bndV, numV, eI, eU, e8, eB, AV.isCell, Int.reduceToNat, Int.reduceSub, Int.reduceAdd, Int.reduceNeg, load_at h5, load_at h2, load_at h3, e1]
  refine Pu.use (assumes_spec (tr f) x _ (by omega) tr_root) ?_
  (try simp (maxSteps := 1000000) (disch := (first | assumption | (apply Ne.symm; assumption))) only [vw0, vw1, vw2, vw3, vw4, vu0, vu1, ↓condV_t, ↓condV_f, cap_nil, allocV, splice, partV, buildV, eqFieldsV, eqS, tabs, TK.agg, reduceCtorEq, Array.toList, List.map_cons, List.map_nil, ↓reduceIte, List.length_map, Nat.reduceAdd, Nat.reduceLeDiff, Nat.reduceLT, Nat.reduceMul, Nat.reduceSub, Option.bind_some, Option.map_some, bndV, numV, eI, eU, e8, eB, AV.isCell, Int.reduceToNat, Int.reduceSub, Int.reduceAdd, Int.reduceNeg, load_at h5, load_at h2, load_at h3])
  simpa [rootP] using hK
theorem rooted_row (f : List Sd) (g : GoodFm f) (ht : (tr f).length ≤ 5) {H : Heap} {K : AV → Heap → Prop}
    (h : ∀ q G, G q = some (cP fI (gw (nF f) (rootP f))) → New H G [q] → K (rowP q (gw (nF f) (rootP f))) G) : CallT Try.prog 110 [Ds f, B true] H K := by
  refine W110_ok ?_; simp (maxSteps := 1000000) (disch := (first | assumption | (apply Ne.symm; assumption))) only [W110, vw0, vw1, vw2, vw3, vw4, vu0, vu1, ↓condV_t, ↓condV_f, cap_nil, allocV, splice, partV, buildV, eqFieldsV, eqS, tabs, TK.agg, reduceCtorEq, Array.toList, List.map_cons, List.map_nil, ↓reduceIte, List.length_map, Nat.reduceAdd, Nat.reduceLeDiff, Nat.reduceLT, Nat.reduceMul, Nat.reduceSub, Option.bind_some, Option.map_some, bndV, numV, eI, eU, e8, eB, AV.isCell, Int.reduceToNat, Int.reduceSub, Int.reduceAdd, Int.reduceNeg]
  intro r2 hr2 r3 n3 hr3
  have st := ((St.nil H).cell hr2 [Ds f]).cell (r := r3) (by rw [Heap.set_other n3]; exact hr3) [B true]
  generalize (H.set r2 [Ds f]).set r3 [B true] = G at st ⊢
  clear hr2 hr3 n3
  (try simp (maxSteps := 1000000) (disch := (first | assumption | (apply Ne.symm; assumption))) only [vw0, vw1, vw2, vw3, vw4, vu0, vu1, ↓condV_t, ↓condV_f, cap_nil, allocV, splice, partV, buildV, eqFieldsV, eqS, tabs, TK.agg, reduceCtorEq, Array.toList, List.map_cons, List.map_nil, ↓reduceIte, List.length_map, Nat.reduceAdd, Nat.reduceLeDiff, Nat.reduceLT, Nat.reduceMul, Nat.reduceSub, Option.bind_some, Option.map_some, bndV, numV, eI, eU, e8, eB, AV.isCell, Int.reduceToNat, Int.reduceSub, Int.reduceAdd, Int.reduceNeg, load_at (st.get 1 rfl)])
  refine Pu.use (tracked_spec f g) ?_
  (try simp (maxSteps := 1000000) (disch := (first | assumption | (apply Ne.symm; assumption))) only [vw0, vw1, vw2, vw3, vw4, vu0, vu1, ↓condV_t, ↓condV_f, cap_nil, allocV, splice, partV, buildV, eqFieldsV, eqS, tabs, TK.agg, reduceCtorEq, Array.toList, List.map_cons, List.map_nil, ↓reduceIte, List.length_map, Nat.reduceAdd, Nat.reduceLeDiff, Nat.reduceLT, Nat.reduceMul, Nat.reduceSub, Option.bind_some, Option.map_some, bndV, numV, eI, eU, e8, eB, AV.isCell, Int.reduceToNat, Int.reduceSub, Int.reduceAdd, Int.reduceNeg])
  intro r5 hr5
  replace st := st.cell hr5 [Is (tr f)]
  generalize G.set r5 [Is (tr f)] = G1 at st ⊢
  (try simp (maxSteps := 1000000) (disch := (first | assumption | (apply Ne.symm; assumption))) only [vw0, vw1, vw2, vw3, vw4, vu0, vu1, ↓condV_t, ↓condV_f, cap_nil, allocV, splice, partV, buildV, eqFieldsV, eqS, tabs, TK.agg, reduceCtorEq, Array.toList, List.map_cons, List.map_nil, ↓reduceIte, List.length_map, Nat.reduceAdd, Nat.reduceLeDiff, Nat.reduceLT, Nat.reduceMul, Nat.reduceSub, Option.bind_some, Option.map_some, bndV, numV, eI, eU, e8, eB, AV.isCell, Int.reduceToNat, Int.reduceSub, Int.reduceAdd, Int.reduceNeg, load_at (st.get 2 rfl)])
  refine guessesWith_at f g ht 136 _ (rootP f) (fun x G2 hx hle => rooted1_at g (hle _ _ (st.get 0 rfl)) (hle _ _ (st.get 2 rfl)) (hle _ _ (st.get 1 rfl)) x) fun q G2 hq hn => ?_
  have st2 := (st.push (cellT q _) hn hq).sub (Us := [cellT q (cP fI (gw (nF f) (rootP f)))]) (by simp)
  exact h q G2 hq (by simpa [cellT] using st2.new)
theorem goals1_at {f : List Sd} (g : GoodFm f) {i : Nat} (hi : i < f.length) (hop : isUR f i = true) {H : Heap} {r5 r6 r4 r7 : Nat} (h5 : H r5 = some [Is (tr f)]) (h6 : H r6 = some [I i]) (h4 : H r4 = some [Ls (opsA f f.length)]) (h7 : H r7 = some [I (f.getD i default).op, I (f.getD i default).n]) (x : Nat) :
    PuAt Try.prog 137 [I x, .ptr r5 0, .ptr r6 0, .ptr r4 0, .ptr r7 0] H (B (goalP f i x)) := by
  have hl := g.l1
  have htl := tr_len f
  have hop' : (f.getD i default).op = 7 ∨ (f.getD i default).op = 8 := by
    unfold isUR at hop
    rwa [Bool.or_eq_true, decide_eq_true_eq, decide_eq_true_eq] at hop
  have hn2 : need (f.getD i default).op = 2 := by rcases hop' with h | h <;> rw [h] <;> rfl
  obtain ⟨a, b, c, _⟩ := tst2 g hi hn2
  have hog := opsA_get f hi
  have hops : opsF f i = [(lft f i : Int), (i : Int) - 1] := by rw [opsF, if_neg (by omega), if_neg (by omega), lft]; congr 1; omega
  have hl2 : (opsF f i).length = 2 := by rw [hops]; rfl
  have hg1 : (opsF f i).getD 1 default = (i : Int) - 1 := by rw [hops]; rfl
  clear hops
  generalize opsF f i = ops at hog hl2 hg1
  have hol := opsA_len f f.length
  have m1 : (i : Int) ∈ tr f := tr_mem0 hi _ (by rw [trAt, if_pos hop']; simp)
  have m2 : (i : Int) - 1 ∈ tr f := tr_mem0 hi _ (by rw [trAt, if_pos hop']; simp)
  have hg : goalP f i x = ((decide ((f.getD i default).op = 7) && (!saysF (tr f) x i || saysF (tr f) x ((i : Int) - 1))) || (decide ((f.getD i default).op = 8) && (saysF (tr f) x i || !saysF (tr f) x ((i : Int) - 1)))) := rfl
  intro K hK
  rw [hg] at hK
  clear hg hn2
  generalize f.getD i default = y at h7 hop' hK
  refine W137_ok ?_; simp (maxSteps := 1000000) (disch := (first | assumption | (apply Ne.symm; assumption))) only [W137, vw0, vw1, vw2, vw3, vw4, vu0, vu1, ↓condV_t, ↓condV_f, cap_nil, allocV, splice, partV, buildV, eqFieldsV, eqS, tabs, TK.agg, reduceCtorEq, Array.toList, List.map_cons, List.map_nil, ↓reduceIte, List.length_map, Nat.reduceAdd, Nat.reduceLeDiff, Nat.reduceLT, Nat.reduceMul, Nat.reduceSub, Option.bind_some, Option.map_some, bndV, numV, eI, eU, e8, eB, AV.isCell, Int.reduceToNat, Int.reduceSub, Int.reduceAdd, Int.reduceNeg, load_at h5, load_at h6, load_at h4, load_at h7, hog, hg1]
  refine ⟨by omega, by omega, by omega, by omega, ?_⟩
  refine Pu.use (assumes_spec (tr f) x _ (by omega) m1) ?_
  (try simp (maxSteps := 1000000) (disch := (first | assumption | (apply Ne.symm; assumption))) only [vw0, vw1, vw2, vw3, vw4, vu0, vu1, ↓condV_t, ↓condV_f, cap_nil, allocV, splice, partV, buildV, eqFieldsV, eqS, tabs, TK.agg, reduceCtorEq, Array.toList, List.map_cons, List.map_nil, ↓reduceIte, List.length_map, Nat.reduceAdd, Nat.reduceLeDiff, Nat.reduceLT, Nat.reduceMul, Nat.reduceSub, Option.bind_some, Option.map_some, bndV, numV, eI, eU, e8, eB, AV.isCell, Int.reduceToNat, Int.reduceSub, Int.reduceAdd, Int.reduceNeg, load_at h5, load_at h6, load_at h4, load_at h7, hog, hg1])
  refine Pu.use (assumes_spec (tr f) x _ (by omega) m2) ?_
  generalize saysF (tr f) x i = own at hK ⊢
  generalize saysF (tr f) x ((i : Int) - 1) = sec at hK ⊢
  (try simp (maxSteps := 1000000) (disch := (first | assumption | (apply Ne.symm; assumption))) only [vw0, vw1, vw2, vw3, vw4, vu0, vu1, ↓condV_t, ↓condV_f, cap_nil, allocV, splice, partV, buildV, eqFieldsV, eqS, tabs, TK.agg, reduceCtorEq, Array.toList, List.map_cons, List.map_nil, ↓reduceIte, List.length_map, Nat.reduceAdd, Nat.reduceLeDiff, Nat.reduceLT, Nat.reduceMul, Nat.reduceSub, Option.bind_some, Option.map_some, bndV, numV, eI, eU, e8, eB, AV.isCell, Int.reduceToNat, Int.reduceSub, Int.reduceAdd, Int.reduceNeg, load_at h7])
  rcases hop' with h | h <;> rw [h] at hK ⊢ <;> cases own <;> cases sec <;> simpa using hK
theorem goalsOf_row (f : List Sd) (g : GoodFm f) (ht : (tr f).length ≤ 5) {H : Heap} {K : AV → Heap → Prop}
    (h : ∀ q G D, LII (goalsK f f.length) (.sl q 1 0 (goalsK f f.length).length) G D → New H G D → K (.sl q 1 0 (goalsK f f.length).length) G) : CallT Try.prog 111 [Ds f] H K := by
  have hl := g.l1
  refine CallT.fin ?_
  refine W111_ok ?_; simp (maxSteps := 1000000) (disch := (first | assumption | (apply Ne.symm; assumption))) only [W111, vw0, vw1, vw2, vw3, vw4, vu0, vu1, ↓condV_t, ↓condV_f, cap_nil, allocV, splice, partV, buildV, eqFieldsV, eqS, tabs, TK.agg, reduceCtorEq, Array.toList, List.map_cons, List.map_nil, ↓reduceIte, List.length_map, Nat.reduceAdd, Nat.reduceLeDiff, Nat.reduceLT, Nat.reduceMul, Nat.reduceSub, Option.bind_some, Option.map_some, bndV, numV, eI, eU, e8, eB, AV.isCell, Int.reduceToNat, Int.reduceSub, Int.reduceAdd, Int.reduceNeg]
  refine lit0G fun q0 hq0 => ?_
  have st := rg_new (St.nil H) hq0
  generalize H.set q0 [] = G at st ⊢
  refine Pu.use (operandIndexes_spec f g) ?_
  (try simp (maxSteps := 1000000) (disch := (first | assumption | (apply Ne.symm; assumption))) only [vw0, vw1, vw2, vw3, vw4, vu0, vu1, ↓condV_t, ↓condV_f, cap_nil, allocV, splice, partV, buildV, eqFieldsV, eqS, tabs, TK.agg, reduceCtorEq, Array.toList, List.map_cons, List.map_nil, ↓reduceIte, List.length_map, Nat.reduceAdd, Nat.reduceLeDiff, Nat.reduceLT, Nat.reduceMul, Nat.reduceSub, Option.bind_some, Option.map_some, bndV, numV, eI, eU, e8, eB, AV.isCell, Int.reduceToNat, Int.reduceSub, Int.reduceAdd, Int.reduceNeg])
  refine Pu.use (tracked_spec f g) ?_
  (try simp (maxSteps := 1000000) (disch := (first | assumption | (apply Ne.symm; assumption))) only [vw0, vw1, vw2, vw3, vw4, vu0, vu1, ↓condV_t, ↓condV_f, cap_nil, allocV, splice, partV, buildV, eqFieldsV, eqS, tabs, TK.agg, reduceCtorEq, Array.toList, List.map_cons, List.map_nil, ↓reduceIte, List.length_map, Nat.reduceAdd, Nat.reduceLeDiff, Nat.reduceLT, Nat.reduceMul, Nat.reduceSub, Option.bind_some, Option.map_some, bndV, numV, eI, eU, e8, eB, AV.isCell, Int.reduceToNat, Int.reduceSub, Int.reduceAdd, Int.reduceNeg])
  intro r4 hr4 r5 n5 hr5
  replace st := (st.cell hr4 [.p .nil]).cell (r := r5) (by rw [Heap.set_other n5]; exact hr5) [.p .nil]
  generalize (G.set r4 [.p .nil]).set r5 [.p .nil] = G0 at st ⊢
  clear hr4 hr5 n5
  (try simp (maxSteps := 1000000) (disch := (first | assumption | (apply Ne.symm; assumption))) only [vw0, vw1, vw2, vw3, vw4, vu0, vu1, ↓condV_t, ↓condV_f, cap_nil, allocV, splice, partV, buildV, eqFieldsV, eqS, tabs, TK.agg, reduceCtorEq, Array.toList, List.map_cons, List.map_nil, ↓reduceIte, List.length_map, Nat.reduceAdd, Nat.reduceLeDiff, Nat.reduceLT, Nat.reduceMul, Nat.reduceSub, Option.bind_some, Option.map_some, bndV, numV, eI, eU, e8, eB, AV.isCell, Int.reduceToNat, Int.reduceSub, Int.reduceAdd, Int.reduceNeg, store_at (st.get 1 rfl)])
  replace st := st.put 1 rfl [Ls (opsA f f.length)]
  generalize G0.set r4 [Ls (opsA f f.length)] = G0 at st ⊢
  (try simp (maxSteps := 1000000) (disch := (first | assumption | (apply Ne.symm; assumption))) only [vw0, vw1, vw2, vw3, vw4, vu0, vu1, ↓condV_t, ↓condV_f, cap_nil, allocV, splice, partV, buildV, eqFieldsV, eqS, tabs, TK.agg, reduceCtorEq, Array.toList, List.map_cons, List.map_nil, ↓reduceIte, List.length_map, Nat.reduceAdd, Nat.reduceLeDiff, Nat.reduceLT, Nat.reduceMul, Nat.reduceSub, Option.bind_some, Option.map_some, bndV, numV, eI, eU, e8, eB, AV.isCell, Int.reduceToNat, Int.reduceSub, Int.reduceAdd, Int.reduceNeg, store_at (st.get 0 rfl)])
  replace st := st.put 0 rfl [Is (tr f)]
  generalize G0.set r5 [Is (tr f)] = G1 at st ⊢
  refine L111_0_rule ((0 : Nat), (.sl q0 1 0 0 : AV), [q0], G1) (fun s => s.2.1) (fun s => I s.1) (fun s => s.2.2.2)
    (fun s => s.1 ≤ f.length ∧ (s.2.1 ≠ .p .nil) ∧ St H [cellT r5 [Is (tr f)], cellT r4 [Ls (opsA f f.length)], rnG s.2.1 (goalsK f s.1) s.2.2.1] s.2.2.2) (fun s => f.length - s.1)
    ⟨⟨by simp, by simp, st⟩, .refl _, .refl _, Heap.le_refl _⟩ ?_
  clear st
  rintro ⟨i, x, D, G⟩ ⟨hi, hx, st⟩
  dsimp only at hi st hx
  have e5 : IntKind.i64.wrap ((i : Int) + 1) = ((i + 1 : Nat) : Int) := by rw [i64_id (by omega) (by omega)]; simp
  (try simp (maxSteps := 1000000) (disch := (first | assumption | (apply Ne.symm; assumption))) only [vw0, vw1, vw2, vw3, vw4, vu0, vu1, ↓condV_t, ↓condV_f, cap_nil, allocV, splice, partV, buildV, eqFieldsV, eqS, tabs, TK.agg, reduceCtorEq, Array.toList, List.map_cons, List.map_nil, ↓reduceIte, List.length_map, Nat.reduceAdd, Nat.reduceLeDiff, Nat.reduceLT, Nat.reduceMul, Nat.reduceSub, Option.bind_some, Option.map_some, bndV, numV, eI, eU, e8, eB, AV.isCell, Int.reduceToNat, Int.reduceSub, Int.reduceAdd, Int.reduceNeg, B111_0])
  refine ⟨fun h1 => ⟨by omega, h1, ?_⟩, fun h1 => ?_⟩
  · have hlt : i < f.length := by omega
    have hsucc := goalsK_succ f i
    have hgl := goalsK_len f i
    intro r6 hr6 r7 n7 hr7
    replace st := (st.cell hr6 [I 0]).cell (r := r7) (by rw [Heap.set_other n7]; exact hr7) [I 0, I 0]
    generalize (G.set r6 [I 0]).set r7 [I 0, I 0] = G2 at st ⊢
    clear hr6 hr7 n7
    (try simp (maxSteps := 1000000) (disch := (first | assumption | (apply Ne.symm; assumption))) only [vw0, vw1, vw2, vw3, vw4, vu0, vu1, ↓condV_t, ↓condV_f, cap_nil, allocV, splice, partV, buildV, eqFieldsV, eqS, tabs, TK.agg, reduceCtorEq, Array.toList, List.map_cons, List.map_nil, ↓reduceIte, List.length_map, Nat.reduceAdd, Nat.reduceLeDiff, Nat.reduceLT, Nat.reduceMul, Nat.reduceSub, Option.bind_some, Option.map_some, bndV, numV, eI, eU, e8, eB, AV.isCell, Int.reduceToNat, Int.reduceSub, Int.reduceAdd, Int.reduceNeg, store_at (st.get 1 rfl)])
    replace st := st.put 1 rfl [I i]
    generalize G2.set r6 [I i] = G2 at st ⊢
    (try simp (maxSteps := 1000000) (disch := (first | assumption | (apply Ne.symm; assumption))) only [vw0, vw1, vw2, vw3, vw4, vu0, vu1, ↓condV_t, ↓condV_f, cap_nil, allocV, splice, partV, buildV, eqFieldsV, eqS, tabs, TK.agg, reduceCtorEq, Array.toList, List.map_cons, List.map_nil, ↓reduceIte, List.length_map, Nat.reduceAdd, Nat.reduceLeDiff, Nat.reduceLT, Nat.reduceMul, Nat.reduceSub, Option.bind_some, Option.map_some, bndV, numV, eI, eU, e8, eB, AV.isCell, Int.reduceToNat, Int.reduceSub, Int.reduceAdd, Int.reduceNeg, store_at (st.get 0 rfl)])
    replace st := st.put 0 rfl [I (f.getD i default).op, I (f.getD i default).n]
    generalize G2.set r7 [I (f.getD i default).op, I (f.getD i default).n] = G2 at st ⊢
    have key : ∀ N : AV → AV → Heap → Prop, isUR f i = true → (∀ q' D' G', St H [cellT r5 [Is (tr f)], cellT r4 [Ls (opsA f f.length)], rnG (.sl q' 1 0 ((goalsK f i).length + 1)) (goalsK f (i + 1)) D'] G' → N (.sl q' 1 0 ((goalsK f i).length + 1)) (I ((i + 1 : Nat) : Int)) G') →
        J111_1 (wkK K) N (Ds f) x (.ptr r4 0) (.ptr r5 0) (.ptr r6 0) (.ptr r7 0) (Ds f) (I f.length) (I i) G2 := by
      intro N hur hN
      rw [if_pos hur] at hsucc
      (try simp (maxSteps := 1000000) (disch := (first | assumption | (apply Ne.symm; assumption))) only [vw0, vw1, vw2, vw3, vw4, vu0, vu1, ↓condV_t, ↓condV_f, cap_nil, allocV, splice, partV, buildV, eqFieldsV, eqS, tabs, TK.agg, reduceCtorEq, Array.toList, List.map_cons, List.map_nil, ↓reduceIte, List.length_map, Nat.reduceAdd, Nat.reduceLeDiff, Nat.reduceLT, Nat.reduceMul, Nat.reduceSub, Option.bind_some, Option.map_some, bndV, numV, eI, eU, e8, eB, AV.isCell, Int.reduceToNat, Int.reduceSub, Int.reduceAdd, Int.reduceNeg, J111_1, e5])
      refine guessesWith_at f g ht 137 _ (goalP f i) (fun y G3 hy hle => goals1_at g hlt hur (hle _ _ (st.get 2 rfl)) (hle _ _ (st.get 1 rfl)) (hle _ _ (st.get 3 rfl)) (hle _ _ (st.get 0 rfl)) y) fun qn G3 hqn hn => ?_
      replace st := st.push (cellT qn _) hn hqn
      refine lit_live1 fun ql hql => ?_
      replace st := st.cell hql [rowP qn (gw (nF f) (goalP f i))]
      generalize G3.set ql [.sl qn 1 0 (gw (nF f) (goalP f i)).length] = G4 at st ⊢
      refine rn_pushL st 4 rfl (by omega) fun q' D' G5 hq' st => ?_
      rw [← hsucc] at st
      exact hN _ _ _ st.drop.drop
    have fin : isUR f i = true → J111_1 (wkK K) (fun w3 w15 H' => ∃ s' : Nat × AV × List Nat × Heap, (s'.1 ≤ f.length ∧ ¬ (s'.2.1 = .p .nil) ∧ St H [cellT r5 [Is (tr f)], cellT r4 [Ls (opsA f f.length)], rnG s'.2.1 (goalsK f s'.1) s'.2.2.1] s'.2.2.2) ∧ f.length - s'.1 < f.length - i ∧ AV.wk w3 s'.2.1 ∧ AV.wk w15 (I s'.1) ∧ Heap.le s'.2.2.2 H') (Ds f) x (.ptr r4 0) (.ptr r5 0) (.ptr r6 0) (.ptr r7 0) (Ds f) (I f.length) (I i) G2 :=
      fun hur => key _ hur fun q' D' G' st => ⟨(i + 1, _, D', G'), ⟨by simp only; omega, by simp, st⟩, by simp only; omega, .refl _, .refl _, Heap.le_refl _⟩
    (try simp (maxSteps := 1000000) (disch := (first | assumption | (apply Ne.symm; assumption))) only [vw0, vw1, vw2, vw3, vw4, vu0, vu1, ↓condV_t, ↓condV_f, cap_nil, allocV, splice, partV, buildV, eqFieldsV, eqS, tabs, TK.agg, reduceCtorEq, Array.toList, List.map_cons, List.map_nil, ↓reduceIte, List.length_map, Nat.reduceAdd, Nat.reduceLeDiff, Nat.reduceLT, Nat.reduceMul, Nat.reduceSub, Option.bind_some, Option.map_some, bndV, numV, eI, eU, e8, eB, AV.isCell, Int.reduceToNat, Int.reduceSub, Int.reduceAdd, Int.reduceNeg, load_at (st.get 0 rfl), e5])
    refine ⟨fun h7 => ⟨fun h8 => ?_, fun h8 => fin (by unfold isUR; rw [h8]; rfl)⟩, fun h7 => fin (by unfold isUR; rw [h7]; rfl)⟩
    rw [if_neg (by unfold isUR; rw [decide_eq_false h7, decide_eq_false h8]; decide)] at hsucc
    exact ⟨(i + 1, x, D, G2), ⟨by simp only; omega, hx, by rw [hsucc]; exact st.drop.drop⟩, by simp only; omega, .refl _, .refl _, Heap.le_refl _⟩
  · have : i = f.length := by omega
    subst this
    have hr : RN LIc 1 x (goalsK f f.length) G D := st.get 2 rfl
    rcases hr with ⟨h2, _⟩ | hr
    · exact absurd h2 hx
    · obtain ⟨q, rfl⟩ := LRow.sl hr
      have st2 := st.sub (Us := [rnG (.sl q 1 0 (goalsK f f.length).length) (goalsK f f.length) D]) (by simp)
      exact wkK.keep (h q G D hr (by simpa [rnT] using st2.new))
/-- A row of edges is sorted in place. -/
theorem rz_sortE {H G : Heap} {Ts : List Th} {z : Nat} {x : AV} {xs : List Ed} {D : List Nat} (s : St H Ts G) (i : Nat) (hi : Ts[i]? = some (reT z x xs D)) (hl : xs.length ≤ 1000000) {K : AV → Heap → Prop}
    (h : ∀ G', St H (Ts.set i (reT z x (srtE xs) D)) G' → K (.tup []) G') : CallT Try.prog 112 [x, .fn 113 []] G K := by
  have hrz : RZ (LPl eE) 3 z x xs G D := s.get i hi
  have he := srtE_len xs
  rcases hrz with ⟨rfl, rfl, rfl, hz⟩ | ⟨q, cs, D', rfl, hq, hll, rfl⟩
  · refine SF_nil (h G ?_)
    have : srtE [] = [] := List.eq_nil_of_length_eq_zero he
    rw [this]
    have e : Ts.set i (reT z (.p .nil) [] [z]) = Ts := by
      obtain ⟨h1, h2⟩ := List.getElem?_eq_some_iff.1 hi
      rw [← h2]; exact List.set_getElem_self h1
    rw [e]; exact s
  · obtain ⟨rfl, rfl⟩ := LL.plain' hll
    refine SF_row hq (by omega) (h _ ?_)
    refine s.upd i hi (reT z (.sl q 3 0 xs.length) (srtE xs) [q]) rfl (fun y hy => Heap.set_other (fun e => hy (by simp [rzT, e]))) (.inr ?_)
    refine ⟨q, _, [], by rw [he], Heap.set_same _ _ _, LL.plain _, rfl⟩
theorem autoFor_live (f : List Sd) (g : GoodFm f) (ht : (tr f).length ≤ 5) {H : Heap} {K : AV → Heap → Prop}
    (h : ∀ v G D, LAu (autoF f) v G D → New H G D → K v G) : CallT Try.prog 70 [Ds f, B true] H K := by
  have hb := nF_bd ht
  refine CallT.fin ?_
  refine CallT.ghost W70_hb fun z hz => ?_
  have st := lent (LPl.local eE) (LPl.has eE) 3 ((St.nil H).cell hz []) 0 rfl
  generalize H.set z [] = G at st ⊢
  refine W70_ok ?_; simp (maxSteps := 1000000) (disch := (first | assumption | (apply Ne.symm; assumption))) only [W70, vw0, vw1, vw2, vw3, vw4, vu0, vu1, ↓condV_t, ↓condV_f, cap_nil, allocV, splice, partV, buildV, eqFieldsV, eqS, tabs, TK.agg, reduceCtorEq, Array.toList, List.map_cons, List.map_nil, ↓reduceIte, List.length_map, Nat.reduceAdd, Nat.reduceLeDiff, Nat.reduceLT, Nat.reduceMul, Nat.reduceSub, Option.bind_some, Option.map_some, bndV, numV, eI, eU, e8, eB, AV.isCell, Int.reduceToNat, Int.reduceSub, Int.reduceAdd, Int.reduceNeg]
  intro r4 hr4
  replace st := st.cell hr4 [I 0, .p .nil, .p .nil, .p .nil]
  generalize G.set r4 [I 0, .p .nil, .p .nil, .p .nil] = G1 at st ⊢
  refine Pu.use (guesses_spec f g ht) ?_
  rw [nF_int]
  (try simp (maxSteps := 1000000) (disch := (first | assumption | (apply Ne.symm; assumption))) only [vw0, vw1, vw2, vw3, vw4, vu0, vu1, ↓condV_t, ↓condV_f, cap_nil, allocV, splice, partV, buildV, eqFieldsV, eqS, tabs, TK.agg, reduceCtorEq, Array.toList, List.map_cons, List.map_nil, ↓reduceIte, List.length_map, Nat.reduceAdd, Nat.reduceLeDiff, Nat.reduceLT, Nat.reduceMul, Nat.reduceSub, Option.bind_some, Option.map_some, bndV, numV, eI, eU, e8, eB, AV.isCell, Int.reduceToNat, Int.reduceSub, Int.reduceAdd, Int.reduceNeg])
  refine rooted_row f g ht fun q1 G2 hq1 hn1 => ?_
  replace st := st.push (cellT q1 _) hn1 hq1
  (try simp (maxSteps := 1000000) (disch := (first | assumption | (apply Ne.symm; assumption))) only [vw0, vw1, vw2, vw3, vw4, vu0, vu1, ↓condV_t, ↓condV_f, cap_nil, allocV, splice, partV, buildV, eqFieldsV, eqS, tabs, TK.agg, reduceCtorEq, Array.toList, List.map_cons, List.map_nil, ↓reduceIte, List.length_map, Nat.reduceAdd, Nat.reduceLeDiff, Nat.reduceLT, Nat.reduceMul, Nat.reduceSub, Option.bind_some, Option.map_some, bndV, numV, eI, eU, e8, eB, AV.isCell, Int.reduceToNat, Int.reduceSub, Int.reduceAdd, Int.reduceNeg])
  refine goalsOf_row f g ht fun q3 G3 D3 hl3 hn3 => ?_
  replace st := st.push (rgT 0 _ (goalsK f f.length) D3) hn3 (.inr hl3)
  (try simp (maxSteps := 1000000) (disch := (first | assumption | (apply Ne.symm; assumption))) only [vw0, vw1, vw2, vw3, vw4, vu0, vu1, ↓condV_t, ↓condV_f, cap_nil, allocV, splice, partV, buildV, eqFieldsV, eqS, tabs, TK.agg, reduceCtorEq, Array.toList, List.map_cons, List.map_nil, ↓reduceIte, List.length_map, Nat.reduceAdd, Nat.reduceLeDiff, Nat.reduceLT, Nat.reduceMul, Nat.reduceSub, Option.bind_some, Option.map_some, bndV, numV, eI, eU, e8, eB, AV.isCell, Int.reduceToNat, Int.reduceSub, Int.reduceAdd, Int.reduceNeg])
  intro r5 hr5
  replace st := st.cell hr5 [I (nF f), rowP q1 (gw (nF f) (rootP f)), .p .nil, .sl q3 1 0 (goalsK f f.length).length]
  generalize G3.set r5 _ = G4 at st ⊢
  clear hr4 hq1 hn1 hl3 hn3 hr5
  refine L70_0_rule ((0 : Nat), (.p .nil : AV), [z], G4) (fun s => I s.1) (fun s => s.2.2.2)
    (fun s => s.1 ≤ 8 ∧ St H [cellT r5 [I (nF f), rowP q1 (gw (nF f) (rootP f)), s.2.1, .sl q3 1 0 (goalsK f f.length).length], rgT 0 (.sl q3 1 0 (goalsK f f.length).length) (goalsK f f.length) D3, cellT q1 (cP fI (gw (nF f) (rootP f))), cellT r4 [I 0, .p .nil, .p .nil, .p .nil], reT z s.2.1 (eIs f s.1) s.2.2.1] s.2.2.2) (fun s => 8 - s.1)
    ⟨⟨by simp, st⟩, .refl _, Heap.le_refl _⟩ ?_
  clear st
  rintro ⟨l, x, D, G⟩ ⟨hl, st⟩
  dsimp only at hl st
  have hel := eIs_len f l
  have hlm : l * nF f ≤ 8 * 32 := Nat.mul_le_mul hl hb.2
  have e5 : IntKind.i64.wrap ((l : Int) + 1) = ((l + 1 : Nat) : Int) := by rw [i64_id (by omega) (by omega)]; simp
  (try simp (maxSteps := 1000000) (disch := (first | assumption | (apply Ne.symm; assumption))) only [vw0, vw1, vw2, vw3, vw4, vu0, vu1, ↓condV_t, ↓condV_f, cap_nil, allocV, splice, partV, buildV, eqFieldsV, eqS, tabs, TK.agg, reduceCtorEq, Array.toList, List.map_cons, List.map_nil, ↓reduceIte, List.length_map, Nat.reduceAdd, Nat.reduceLeDiff, Nat.reduceLT, Nat.reduceMul, Nat.reduceSub, Option.bind_some, Option.map_some, bndV, numV, eI, eU, e8, eB, AV.isCell, Int.reduceToNat, Int.reduceSub, Int.reduceAdd, Int.reduceNeg, B70_0, load_at (st.get 0 rfl)])
  refine ⟨fun h1 => ?_, fun h1 => ?_⟩
  · refine L70_1_rule ((0 : Nat), x, D, G) (fun s => I s.1) (fun s => s.2.2.2)
      (fun s => s.1 ≤ nF f ∧ St H [cellT r5 [I (nF f), rowP q1 (gw (nF f) (rootP f)), s.2.1, .sl q3 1 0 (goalsK f f.length).length], rgT 0 (.sl q3 1 0 (goalsK f f.length).length) (goalsK f f.length) D3, cellT q1 (cP fI (gw (nF f) (rootP f))), cellT r4 [I 0, .p .nil, .p .nil, .p .nil], reT z s.2.1 (eIs f l ++ eI0 f l s.1) s.2.2.1] s.2.2.2) (fun s => nF f - s.1)
      ⟨⟨by simp, by simpa [eI0] using st⟩, .refl _, Heap.le_refl _⟩ ?_
    clear st x D
    rintro ⟨n, x, D, G⟩ ⟨hn, st⟩
    dsimp only at hn st
    have e6 : IntKind.i64.wrap ((n : Int) + 1) = ((n + 1 : Nat) : Int) := by rw [i64_id (by omega) (by omega)]; simp
    (try simp (maxSteps := 1000000) (disch := (first | assumption | (apply Ne.symm; assumption))) only [vw0, vw1, vw2, vw3, vw4, vu0, vu1, ↓condV_t, ↓condV_f, cap_nil, allocV, splice, partV, buildV, eqFieldsV, eqS, tabs, TK.agg, reduceCtorEq, Array.toList, List.map_cons, List.map_nil, ↓reduceIte, List.length_map, Nat.reduceAdd, Nat.reduceLeDiff, Nat.reduceLT, Nat.reduceMul, Nat.reduceSub, Option.bind_some, Option.map_some, bndV, numV, eI, eU, e8, eB, AV.isCell, Int.reduceToNat, Int.reduceSub, Int.reduceAdd, Int.reduceNeg, B70_1, load_at (st.get 0 rfl)])
    refine ⟨fun h2 => ?_, fun h2 => ?_⟩
    · refine Pu.use (guessOf_spec f g l n (by omega)) ?_
      (try simp (maxSteps := 1000000) (disch := (first | assumption | (apply Ne.symm; assumption))) only [vw0, vw1, vw2, vw3, vw4, vu0, vu1, ↓condV_t, ↓condV_f, cap_nil, allocV, splice, partV, buildV, eqFieldsV, eqS, tabs, TK.agg, reduceCtorEq, Array.toList, List.map_cons, List.map_nil, ↓reduceIte, List.length_map, Nat.reduceAdd, Nat.reduceLeDiff, Nat.reduceLT, Nat.reduceMul, Nat.reduceSub, Option.bind_some, Option.map_some, bndV, numV, eI, eU, e8, eB, AV.isCell, Int.reduceToNat, Int.reduceSub, Int.reduceAdd, Int.reduceNeg, load_at (st.get 0 rfl)])
      refine lit_edge (x := edI f l n) ?_
      have hl0 := eI0_len f l n
      (try simp (maxSteps := 1000000) (disch := (first | assumption | (apply Ne.symm; assumption))) only [vw0, vw1, vw2, vw3, vw4, vu0, vu1, ↓condV_t, ↓condV_f, cap_nil, allocV, splice, partV, buildV, eqFieldsV, eqS, tabs, TK.agg, reduceCtorEq, Array.toList, List.map_cons, List.map_nil, ↓reduceIte, List.length_map, Nat.reduceAdd, Nat.reduceLeDiff, Nat.reduceLT, Nat.reduceMul, Nat.reduceSub, Option.bind_some, Option.map_some, bndV, numV, eI, eU, e8, eB, AV.isCell, Int.reduceToNat, Int.reduceSub, Int.reduceAdd, Int.reduceNeg, load_at (st.get 0 rfl)])
      refine rz_appE (ys := [edI f l n]) st 4 rfl (by simp only [List.length_cons, List.length_nil, List.length_append]; omega) fun q' G' hq' st => ?_
      rw [List.append_assoc, ← eI0_succ] at st ⊢
      obtain ⟨es', hes⟩ : ∃ es', eIs f l ++ eI0 f l (n + 1) = es' := ⟨_, rfl⟩
      rw [hes] at st ⊢
      (try simp (maxSteps := 1000000) (disch := (first | assumption | (apply Ne.symm; assumption))) only [vw0, vw1, vw2, vw3, vw4, vu0, vu1, ↓condV_t, ↓condV_f, cap_nil, allocV, splice, partV, buildV, eqFieldsV, eqS, tabs, TK.agg, reduceCtorEq, Array.toList, List.map_cons, List.map_nil, ↓reduceIte, List.length_map, Nat.reduceAdd, Nat.reduceLeDiff, Nat.reduceLT, Nat.reduceMul, Nat.reduceSub, Option.bind_some, Option.map_some, bndV, numV, eI, eU, e8, eB, AV.isCell, Int.reduceToNat, Int.reduceSub, Int.reduceAdd, Int.reduceNeg, store_at (st.get 0 rfl), e6])
      replace st := st.put 0 rfl [I (nF f), rowP q1 (gw (nF f) (rootP f)), rowE q' es', .sl q3 1 0 (goalsK f f.length).length]
      rw [← hes] at st
      exact ⟨(n + 1, _, [q'], _), ⟨by simp only; omega, st⟩, by simp only; omega, .refl _, by rw [hes]; exact Heap.le_refl _⟩
    · have : n = nF f := by omega
      subst this
      rw [← eIs_succ] at st
      (try simp (maxSteps := 1000000) (disch := (first | assumption | (apply Ne.symm; assumption))) only [vw0, vw1, vw2, vw3, vw4, vu0, vu1, ↓condV_t, ↓condV_f, cap_nil, allocV, splice, partV, buildV, eqFieldsV, eqS, tabs, TK.agg, reduceCtorEq, Array.toList, List.map_cons, List.map_nil, ↓reduceIte, List.length_map, Nat.reduceAdd, Nat.reduceLeDiff, Nat.reduceLT, Nat.reduceMul, Nat.reduceSub, Option.bind_some, Option.map_some, bndV, numV, eI, eU, e8, eB, AV.isCell, Int.reduceToNat, Int.reduceSub, Int.reduceAdd, Int.reduceNeg, e5])
      exact ⟨(l + 1, x, D, G), ⟨by simp only; omega, st⟩, by simp only; omega, .refl _, Heap.le_refl _⟩
  · have : l = 8 := by omega
    subst this
    refine rz_sortE st 4 rfl (by omega) fun G' st => ?_
    rw [srt_eIs ht] at st
    have hx := RZ.sl (st.get 4 rfl : RZ (LPl eE) 3 z x _ G' D)
    (try simp (maxSteps := 1000000) (disch := (first | assumption | (apply Ne.symm; assumption))) only [vw0, vw1, vw2, vw3, vw4, vu0, vu1, ↓condV_t, ↓condV_f, cap_nil, allocV, splice, partV, buildV, eqFieldsV, eqS, tabs, TK.agg, reduceCtorEq, Array.toList, List.map_cons, List.map_nil, ↓reduceIte, List.length_map, Nat.reduceAdd, Nat.reduceLeDiff, Nat.reduceLT, Nat.reduceMul, Nat.reduceSub, Option.bind_some, Option.map_some, bndV, numV, eI, eU, e8, eB, AV.isCell, Int.reduceToNat, Int.reduceSub, Int.reduceAdd, Int.reduceNeg, load_at (st.get 0 rfl), store_at (st.get 3 rfl)])
    replace st := st.put 3 rfl [I (nF f), rowP q1 (gw (nF f) (rootP f)), x, .sl q3 1 0 (goalsK f f.length).length]
    obtain ⟨x', y', w', hw, hl, hn⟩ := rz_auto (nF f) (owned_i st 2 rfl) 2 4 1 rfl rfl rfl (by decide) (by decide) (by decide)
    refine ⟨by rcases hx with rfl | ⟨q, rfl⟩ <;> rfl, ?_⟩
    exact ⟨_, _, .val hw, h _ _ _ hl hn⟩
end Go.Proofs.Ytoeabliackaibaa
