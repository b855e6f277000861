/- The law on tracked nodes. -/
import Derived.Test.YtoeabliackaibaaMf3
import Derived.Test.YtoeabliackaibaaLt4
namespace Go.Proofs.Ytoeabliackaibaa
open Go Go.Sep Go.Pt
set_option linter.unusedSimpArgs false
set_option linter.unusedVariables false
attribute [local irreducible] CallT

theorem eqI_live {q : Nat} {xs : List Int} {G : Heap} (hq : G q = some (cP fI xs)) (hl : xs.length ≤ 1048576) {K : AV → Heap → Prop} (h : K (B true) G) : CallT Try.prog 13 [rowP q xs, Is xs] G K :=
  Pu.thaw (eqIntS_spec xs hl) (.bool _) (Wk.frz (r := q) (sz := 1) (es := xs.map fun n => [fI n]) (v' := .tup [vP fI xs, Is xs]) (by omega) (by rw [flat_P]; exact hq) (szP _ _) (.tup (.cons frz_row (.cons (.same _) .nil)))) h
theorem held_live {q n : Nat} {G : Heap} (hq : G q = some (cP fI (marked 1 n))) (hn : n ≤ 1048576) {K : AV → Heap → Prop} (h : K (I (1 + n)) G) : CallT Try.prog 17 [.sl q 1 0 n, I 1] G K := by
  have e5 : cells ((marked 1 n).map eI) = cP fI (marked 1 n) := cells_P fI _
  rw [← e5] at hq
  refine Pu.thaw (heldIntS_spec n hn (by omega) (by omega)) (.int _ _) (Wk.frz (r := q) (sz := 1) (es := (marked 1 n).map eI) (v' := .tup [Is (marked 1 n), I 1]) (by omega) hq (szI _) (.tup (.cons ?_ (.cons (.same _) .nil)))) h
  have : FrzR q 1 ((marked 1 n).map eI) (.sl q 1 0 ((marked 1 n).map eI).length) (.p (.sl ((marked 1 n).map eI))) := .here
  rwa [List.length_map, marked_len] at this
theorem mark_live {q : Nat} {xs : List Int} {G : Heap} (hq : G q = some (cP fI xs)) (hl : xs.length ≤ 1048576) {K : AV → Heap → Prop} (h : K (I (1 + xs.length)) (G.set q (cP fI (marked 1 xs.length)))) : CallT Try.prog 16 [rowP q xs, I 1] G K := by
  have e5 : cells (xs.map eI) = cP fI xs := cells_P fI _
  have e6 : cells ((marked 1 xs.length).map eI) = cP fI (marked 1 xs.length) := cells_P fI _
  refine markIntS_live xs hl (by omega) (by omega) (by rw [e5]; exact hq) ?_
  rw [e6]; exact h
theorem trR_len (f : List Sd) : (trR f).1.length ≤ 1000 := by
  unfold trR
  split
  · rename_i h
    have := (goodT_facts h).2
    show (tr f).length ≤ 1000
    omega
  · exact Nat.zero_le _
theorem FnExactTrackedOf_true {f : List Sd} (ho : ok f.length) : Pu Try.prog 3 [Ds f] (B true) := by
  refine Pu.of fun H => ?_
  refine W3_ok ?_; simp (maxSteps := 1000000) (disch := (first | assumption | (apply Ne.symm; assumption))) only [W3, vw0, vw1, vw2, vw3, vw4, vu0, vu1, ↓condV_t, ↓condV_f, cap_nil, allocV, splice, partV, buildV, eqFieldsV, eqS, tabs, TK.agg, reduceCtorEq, Array.toList, List.map_cons, List.map_nil, ↓reduceIte, List.length_map, Nat.reduceAdd, Nat.reduceLeDiff, Nat.reduceLT, Nat.reduceMul, Nat.reduceSub, Option.bind_some, Option.map_some, bndV, numV, eI, eU, e8, eB, AV.isCell, Int.reduceToNat, Int.reduceSub, Int.reduceAdd, Int.reduceNeg]
  refine Pu.use (szSaidS_spec f 1048576 (by omega) (by omega) ho) ?_
  (try simp (maxSteps := 1000000) (disch := (first | assumption | (apply Ne.symm; assumption))) only [vw0, vw1, vw2, vw3, vw4, vu0, vu1, ↓condV_t, ↓condV_f, cap_nil, allocV, splice, partV, buildV, eqFieldsV, eqS, tabs, TK.agg, reduceCtorEq, Array.toList, List.map_cons, List.map_nil, ↓reduceIte, List.length_map, Nat.reduceAdd, Nat.reduceLeDiff, Nat.reduceLT, Nat.reduceMul, Nat.reduceSub, Option.bind_some, Option.map_some, bndV, numV, eI, eU, e8, eB, AV.isCell, Int.reduceToNat, Int.reduceSub, Int.reduceAdd, Int.reduceNeg])
  refine fun h1 => ?_
  have hl : f.length ≤ 1048576 := by
    unfold szR at h1
    split at h1 <;> omega
  refine Pu.use (toSaidS_spec f hl) ?_
  refine Pu.use (TrackedOf_ref f hl) ?_
  have hres := trR_len f
  have hI : ∀ {H : Heap} {K : AV → Heap → Prop}, (∀ r G D, RowB (trR f).1 (trR f).2 r G D → New H G D → K r G) → CallT Try.prog 12 [Ds f] H K := TrackedOf_impl f hl
  generalize (trR f).1 = o at hres hI
  generalize (trR f).2 = ok at hI
  (try simp (maxSteps := 1000000) (disch := (first | assumption | (apply Ne.symm; assumption))) only [vw0, vw1, vw2, vw3, vw4, vu0, vu1, ↓condV_t, ↓condV_f, cap_nil, allocV, splice, partV, buildV, eqFieldsV, eqS, tabs, TK.agg, reduceCtorEq, Array.toList, List.map_cons, List.map_nil, ↓reduceIte, List.length_map, Nat.reduceAdd, Nat.reduceLeDiff, Nat.reduceLT, Nat.reduceMul, Nat.reduceSub, Option.bind_some, Option.map_some, bndV, numV, eI, eU, e8, eB, AV.isCell, Int.reduceToNat, Int.reduceSub, Int.reduceAdd, Int.reduceNeg])
  refine toSaidS_live f hl fun va G Da la na => ?_
  obtain ⟨qx, rfl, hqx, rfl⟩ := LD_row la
  have st := (St.nil H).push (cellT qx (cD f)) na hqx
  clear la na hqx
  refine thawR (RowB.res o ok) hI (wkD (st.get 0 rfl) (fun v => .tup [v]) (fun h => .tup (.cons h .nil))) fun r G1 D hr hn => ?_
  obtain ⟨qg, rfl, hqg, rfl⟩ := hr
  replace st := st.push (cellT qg (cP fI o)) hn hqg
  clear hn hqg
  (try simp (maxSteps := 1000000) (disch := (first | assumption | (apply Ne.symm; assumption))) only [vw0, vw1, vw2, vw3, vw4, vu0, vu1, ↓condV_t, ↓condV_f, cap_nil, allocV, splice, partV, buildV, eqFieldsV, eqS, tabs, TK.agg, reduceCtorEq, Array.toList, List.map_cons, List.map_nil, ↓reduceIte, List.length_map, Nat.reduceAdd, Nat.reduceLeDiff, Nat.reduceLT, Nat.reduceMul, Nat.reduceSub, Option.bind_some, Option.map_some, bndV, numV, eI, eU, e8, eB, AV.isCell, Int.reduceToNat, Int.reduceSub, Int.reduceAdd, Int.reduceNeg])
  refine eqI_live (st.get 0 rfl) (by omega) ?_
  (try simp (maxSteps := 1000000) (disch := (first | assumption | (apply Ne.symm; assumption))) only [vw0, vw1, vw2, vw3, vw4, vu0, vu1, ↓condV_t, ↓condV_f, cap_nil, allocV, splice, partV, buildV, eqFieldsV, eqS, tabs, TK.agg, reduceCtorEq, Array.toList, List.map_cons, List.map_nil, ↓reduceIte, List.length_map, Nat.reduceAdd, Nat.reduceLeDiff, Nat.reduceLT, Nat.reduceMul, Nat.reduceSub, Option.bind_some, Option.map_some, bndV, numV, eI, eU, e8, eB, AV.isCell, Int.reduceToNat, Int.reduceSub, Int.reduceAdd, Int.reduceNeg])
  refine Pu.use (toSaidS_spec f hl) ?_
  refine eqD_row (st.get 1 rfl) hl ?_
  (try simp (maxSteps := 1000000) (disch := (first | assumption | (apply Ne.symm; assumption))) only [vw0, vw1, vw2, vw3, vw4, vu0, vu1, ↓condV_t, ↓condV_f, cap_nil, allocV, splice, partV, buildV, eqFieldsV, eqS, tabs, TK.agg, reduceCtorEq, Array.toList, List.map_cons, List.map_nil, ↓reduceIte, List.length_map, Nat.reduceAdd, Nat.reduceLeDiff, Nat.reduceLT, Nat.reduceMul, Nat.reduceSub, Option.bind_some, Option.map_some, bndV, numV, eI, eU, e8, eB, AV.isCell, Int.reduceToNat, Int.reduceSub, Int.reduceAdd, Int.reduceNeg])
  refine markSaidS_row f hl (by omega) (by omega) (st.get 1 rfl) ?_
  replace st := st.put 1 rfl (cD (markD 1 f.length))
  generalize G1.set qx (cD (markD 1 f.length)) = G2 at st ⊢
  (try simp (maxSteps := 1000000) (disch := (first | assumption | (apply Ne.symm; assumption))) only [vw0, vw1, vw2, vw3, vw4, vu0, vu1, ↓condV_t, ↓condV_f, cap_nil, allocV, splice, partV, buildV, eqFieldsV, eqS, tabs, TK.agg, reduceCtorEq, Array.toList, List.map_cons, List.map_nil, ↓reduceIte, List.length_map, Nat.reduceAdd, Nat.reduceLeDiff, Nat.reduceLT, Nat.reduceMul, Nat.reduceSub, Option.bind_some, Option.map_some, bndV, numV, eI, eU, e8, eB, AV.isCell, Int.reduceToNat, Int.reduceSub, Int.reduceAdd, Int.reduceNeg])
  refine ⟨fun h => by omega, fun _ => ?_⟩
  refine eqI_live (st.get 0 rfl) (by omega) ?_
  (try simp (maxSteps := 1000000) (disch := (first | assumption | (apply Ne.symm; assumption))) only [vw0, vw1, vw2, vw3, vw4, vu0, vu1, ↓condV_t, ↓condV_f, cap_nil, allocV, splice, partV, buildV, eqFieldsV, eqS, tabs, TK.agg, reduceCtorEq, Array.toList, List.map_cons, List.map_nil, ↓reduceIte, List.length_map, Nat.reduceAdd, Nat.reduceLeDiff, Nat.reduceLT, Nat.reduceMul, Nat.reduceSub, Option.bind_some, Option.map_some, bndV, numV, eI, eU, e8, eB, AV.isCell, Int.reduceToNat, Int.reduceSub, Int.reduceAdd, Int.reduceNeg])
  refine mark_live (st.get 0 rfl) (by omega) ?_
  replace st := st.put 0 rfl (cP fI (marked 1 o.length))
  generalize G2.set qg (cP fI (marked 1 o.length)) = G3 at st ⊢
  (try simp (maxSteps := 1000000) (disch := (first | assumption | (apply Ne.symm; assumption))) only [vw0, vw1, vw2, vw3, vw4, vu0, vu1, ↓condV_t, ↓condV_f, cap_nil, allocV, splice, partV, buildV, eqFieldsV, eqS, tabs, TK.agg, reduceCtorEq, Array.toList, List.map_cons, List.map_nil, ↓reduceIte, List.length_map, Nat.reduceAdd, Nat.reduceLeDiff, Nat.reduceLT, Nat.reduceMul, Nat.reduceSub, Option.bind_some, Option.map_some, bndV, numV, eI, eU, e8, eB, AV.isCell, Int.reduceToNat, Int.reduceSub, Int.reduceAdd, Int.reduceNeg])
  refine held_live (st.get 0 rfl) (by omega) ?_
  (try simp (maxSteps := 1000000) (disch := (first | assumption | (apply Ne.symm; assumption))) only [vw0, vw1, vw2, vw3, vw4, vu0, vu1, ↓condV_t, ↓condV_f, cap_nil, allocV, splice, partV, buildV, eqFieldsV, eqS, tabs, TK.agg, reduceCtorEq, Array.toList, List.map_cons, List.map_nil, ↓reduceIte, List.length_map, Nat.reduceAdd, Nat.reduceLeDiff, Nat.reduceLT, Nat.reduceMul, Nat.reduceSub, Option.bind_some, Option.map_some, bndV, numV, eI, eU, e8, eB, AV.isCell, Int.reduceToNat, Int.reduceSub, Int.reduceAdd, Int.reduceNeg])
  refine ⟨fun h => by omega, fun _ => ?_⟩
  refine Pu.use (toSaidS_spec f hl) ?_
  refine hI fun r G4 D hr hn => ?_
  obtain ⟨qh, rfl, hqh, rfl⟩ := hr
  replace st := st.push (cellT qh (cP fI o)) hn hqh
  (try simp (maxSteps := 1000000) (disch := (first | assumption | (apply Ne.symm; assumption))) only [vw0, vw1, vw2, vw3, vw4, vu0, vu1, ↓condV_t, ↓condV_f, cap_nil, allocV, splice, partV, buildV, eqFieldsV, eqS, tabs, TK.agg, reduceCtorEq, Array.toList, List.map_cons, List.map_nil, ↓reduceIte, List.length_map, Nat.reduceAdd, Nat.reduceLeDiff, Nat.reduceLT, Nat.reduceMul, Nat.reduceSub, Option.bind_some, Option.map_some, bndV, numV, eI, eU, e8, eB, AV.isCell, Int.reduceToNat, Int.reduceSub, Int.reduceAdd, Int.reduceNeg])
  refine eqI_live (st.get 0 rfl) (by omega) ?_
  (try simp (maxSteps := 1000000) (disch := (first | assumption | (apply Ne.symm; assumption))) only [vw0, vw1, vw2, vw3, vw4, vu0, vu1, ↓condV_t, ↓condV_f, cap_nil, allocV, splice, partV, buildV, eqFieldsV, eqS, tabs, TK.agg, reduceCtorEq, Array.toList, List.map_cons, List.map_nil, ↓reduceIte, List.length_map, Nat.reduceAdd, Nat.reduceLeDiff, Nat.reduceLT, Nat.reduceMul, Nat.reduceSub, Option.bind_some, Option.map_some, bndV, numV, eI, eU, e8, eB, AV.isCell, Int.reduceToNat, Int.reduceSub, Int.reduceAdd, Int.reduceNeg])
  refine held_live (st.get 1 rfl) (by omega) ?_
  (try simp (maxSteps := 1000000) (disch := (first | assumption | (apply Ne.symm; assumption))) only [vw0, vw1, vw2, vw3, vw4, vu0, vu1, ↓condV_t, ↓condV_f, cap_nil, allocV, splice, partV, buildV, eqFieldsV, eqS, tabs, TK.agg, reduceCtorEq, Array.toList, List.map_cons, List.map_nil, ↓reduceIte, List.length_map, Nat.reduceAdd, Nat.reduceLeDiff, Nat.reduceLT, Nat.reduceMul, Nat.reduceSub, Option.bind_some, Option.map_some, bndV, numV, eI, eU, e8, eB, AV.isCell, Int.reduceToNat, Int.reduceSub, Int.reduceAdd, Int.reduceNeg])
  exact ⟨fun h => by omega, fun _ => st.le⟩
end Go.Proofs.Ytoeabliackaibaa
