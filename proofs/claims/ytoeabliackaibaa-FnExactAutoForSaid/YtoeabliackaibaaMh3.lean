/- Specs: AutoFor, by the program (end) and by the reference. -/
import Derived.Test.YtoeabliackaibaaMh2
import Derived.Test.YtoeabliackaibaaMa8
namespace Go.Proofs.Ytoeabliackaibaa
open Go Go.Sep Go.Pt
set_option linter.unusedSimpArgs false
set_option linter.unusedVariables false
attribute [local irreducible] CallT

def afR (f : List Sd) : Au × Bool := if goodT f then (autoF f, true) else (zeroA, false)
theorem AutoFor_impl (f : List Sd) (hl : f.length ≤ 1048576) {H : Heap} {K : AV → Heap → Prop} (h : ∀ v G D, LAu (afR f).1 v G D → New H G D → K (.tup [v, B (afR f).2]) G) : CallT Try.prog 32 [Ds f] H K := by
  refine CallT.fin ?_
  refine lend3 (St.nil H) W32_hb fun z1 z2 z3 G st => ?_
  refine W32_ok ?_; simp (maxSteps := 1000000) (disch := (first | assumption | (apply Ne.symm; assumption))) only [W32, vw0, vw1, vw2, vw3, vw4, vu0, vu1, ↓condV_t, ↓condV_f, cap_nil, allocV, splice, partV, buildV, eqFieldsV, eqS, tabs, TK.agg, reduceCtorEq, Array.toList, List.map_cons, List.map_nil, ↓reduceIte, List.length_map, Nat.reduceAdd, Nat.reduceLeDiff, Nat.reduceLT, Nat.reduceMul, Nat.reduceSub, Option.bind_some, Option.map_some, bndV, numV, eI, eU, e8, eB, AV.isCell, Int.reduceToNat, Int.reduceSub, Int.reduceAdd, Int.reduceNeg]
  intro r hr
  replace st := st.cell hr [I 0, .p .nil, .p .nil, .p .nil]
  generalize G.set r [I 0, .p .nil, .p .nil, .p .nil] = G at st ⊢
  refine Pu.use (isTracked_spec f hl) ?_
  cases ht : goodT f
  · have er : afR f = (zeroA, false) := by simp [afR, ht]
    rw [er] at h
    (try simp (maxSteps := 1000000) (disch := (first | assumption | (apply Ne.symm; assumption))) only [vw0, vw1, vw2, vw3, vw4, vu0, vu1, ↓condV_t, ↓condV_f, cap_nil, allocV, splice, partV, buildV, eqFieldsV, eqS, tabs, TK.agg, reduceCtorEq, Array.toList, List.map_cons, List.map_nil, ↓reduceIte, List.length_map, Nat.reduceAdd, Nat.reduceLeDiff, Nat.reduceLT, Nat.reduceMul, Nat.reduceSub, Option.bind_some, Option.map_some, bndV, numV, eI, eU, e8, eB, AV.isCell, Int.reduceToNat, Int.reduceSub, Int.reduceAdd, Int.reduceNeg, store_at (st.get 0 rfl)])
    exact zero_st (st.put 0 rfl [I 0, .p .nil, .p .nil, .p .nil]) 1 2 3 rfl rfl rfl (by decide) (by decide) (by decide) h
  obtain ⟨g, h5⟩ := goodT_facts ht
  have er : afR f = (autoF f, true) := by simp [afR, ht]
  rw [er] at h
  (try simp (maxSteps := 1000000) (disch := (first | assumption | (apply Ne.symm; assumption))) only [vw0, vw1, vw2, vw3, vw4, vu0, vu1, ↓condV_t, ↓condV_f, cap_nil, allocV, splice, partV, buildV, eqFieldsV, eqS, tabs, TK.agg, reduceCtorEq, Array.toList, List.map_cons, List.map_nil, ↓reduceIte, List.length_map, Nat.reduceAdd, Nat.reduceLeDiff, Nat.reduceLT, Nat.reduceMul, Nat.reduceSub, Option.bind_some, Option.map_some, bndV, numV, eI, eU, e8, eB, AV.isCell, Int.reduceToNat, Int.reduceSub, Int.reduceAdd, Int.reduceNeg])
  refine autoFor_live f g h5 fun v G1 D lv nv => ?_
  have hsm := autoF_sm h5
  have hgo := autoF_good h5
  dsimp only at h
  generalize autoF f = a at h lv hsm hgo
  replace st := st.push (auT a v D) nv lv
  refine checkedAuto_live (o := a) (st.get 0 rfl) (st.ndT 0 rfl) hsm (fun _ => ?_) (fun hg => by rw [hgo] at hg; cases hg)
  obtain ⟨o1, o2, o3, rfl⟩ := aAu_cells lv
  (try simp (maxSteps := 1000000) (disch := (first | assumption | (apply Ne.symm; assumption))) only [vw0, vw1, vw2, vw3, vw4, vu0, vu1, ↓condV_t, ↓condV_f, cap_nil, allocV, splice, partV, buildV, eqFieldsV, eqS, tabs, TK.agg, reduceCtorEq, Array.toList, List.map_cons, List.map_nil, ↓reduceIte, List.length_map, Nat.reduceAdd, Nat.reduceLeDiff, Nat.reduceLT, Nat.reduceMul, Nat.reduceSub, Option.bind_some, Option.map_some, bndV, numV, eI, eU, e8, eB, AV.isCell, Int.reduceToNat, Int.reduceSub, Int.reduceAdd, Int.reduceNeg, store_at (st.get 1 rfl)])
  obtain ⟨hl, hn⟩ := au_new (st.put 1 rfl [I a.states, .sl o1 1 0 a.first.length, .sl o2 3 0 a.edges.length, .sl o3 1 0 a.goals.length]) 0 rfl
  exact wkK.keep (h _ _ _ hl hn)
theorem l13Goals_spec (f : List Sd) (g : GoodFm f) (ht : (tr f).length ≤ 5) : Pu Try.prog 108 [Ds f, Is (tr f)] (Ls (goalsK f f.length)) := by
  have hl := g.l1
  have hb := nF_bd ht
  refine ⟨fun H => CallT.fin ?_⟩
  refine W108_ok ?_; simp (maxSteps := 1000000) (disch := (first | assumption | (apply Ne.symm; assumption))) only [W108, vw0, vw1, vw2, vw3, vw4, vu0, vu1, ↓condV_t, ↓condV_f, cap_nil, allocV, splice, partV, buildV, eqFieldsV, eqS, tabs, TK.agg, reduceCtorEq, Array.toList, List.map_cons, List.map_nil, ↓reduceIte, List.length_map, Nat.reduceAdd, Nat.reduceLeDiff, Nat.reduceLT, Nat.reduceMul, Nat.reduceSub, Option.bind_some, Option.map_some, bndV, numV, eI, eU, e8, eB, AV.isCell, Int.reduceToNat, Int.reduceSub, Int.reduceAdd, Int.reduceNeg]
  have st := (St.nil H).push (rnG (.p .nil) [] []) (G' := H) ⟨by simp [rnT], fun y hy => by simp [rnT] at hy, Heap.le_refl _⟩ (.inl ⟨rfl, rfl, rfl⟩)
  refine L108_0_ruleG ((0 : Nat), (.p .nil : AV), ([] : List Nat), H) (fun s => s.2.1) (fun s => I s.1) (fun s => s.2.2.2)
    (fun s => s.1 ≤ f.length ∧ St H [rnG s.2.1 (goalsK f s.1) s.2.2.1] s.2.2.2) (fun s => f.length - s.1)
    ⟨⟨by simp, st⟩, .refl _, .refl _, Heap.le_refl _⟩ ?_
  clear st
  rintro ⟨i, x, D, G⟩ ⟨hi, st⟩ z hz
  dsimp only at hi st hz ⊢
  replace st := st.cell hz (cP fI [])
  change St H (cellT z (cP fI []) :: _) (G.set z []) at st
  generalize G.set z [] = G at st ⊢
  have e5 : IntKind.i64.wrap ((i : Int) + 1) = ((i + 1 : Nat) : Int) := by rw [i64_id (by omega) (by omega)]; simp
  have e6 : IntKind.i64.wrap ((i : Int) - 1) = (i : Int) - 1 := i64_id (by omega) (by omega)
  (try simp (maxSteps := 1000000) (disch := (first | assumption | (apply Ne.symm; assumption))) only [vw0, vw1, vw2, vw3, vw4, vu0, vu1, ↓condV_t, ↓condV_f, cap_nil, allocV, splice, partV, buildV, eqFieldsV, eqS, tabs, TK.agg, reduceCtorEq, Array.toList, List.map_cons, List.map_nil, ↓reduceIte, List.length_map, Nat.reduceAdd, Nat.reduceLeDiff, Nat.reduceLT, Nat.reduceMul, Nat.reduceSub, Option.bind_some, Option.map_some, bndV, numV, eI, eU, e8, eB, AV.isCell, Int.reduceToNat, Int.reduceSub, Int.reduceAdd, Int.reduceNeg, B108_0])
  refine ⟨fun h1 => ⟨by omega, h1, ?_⟩, fun h1 => ?_⟩
  · have hlt : i < f.length := by omega
    have hsucc := goalsK_succ f i
    have hgl := goalsK_len f i
    have hur : isUR f i = (decide ((f.getD i default).op = 7) || decide ((f.getD i default).op = 8)) := rfl
    have hgp : ∀ y, goalP f i y = ((decide ((f.getD i default).op = 7) && (!saysF (tr f) y i || saysF (tr f) y ((i : Int) - 1))) || (decide ((f.getD i default).op = 8) && (saysF (tr f) y i || !saysF (tr f) y ((i : Int) - 1)))) := fun y => rfl
    generalize f.getD i default = y at hur hgp ⊢
    intro r7 hr7
    replace st := st.cell hr7 [I y.op, I y.n]
    generalize G.set r7 [I y.op, I y.n] = G2 at st ⊢
    clear hr7
    have htl : (tr f).length ≤ 1000 := by omega
    have eu : IntKind.u64.wrap ((tr f).length : Int) = (tr f).length := by rw [IntKind.wrap_u64]; omega
    have hN := nF_int f
    have ew : IntKind.i64.wrap (1 * 2 ^ (min (tr f).length IntKind.i64.bits)) = (nF f : Int) := by
      rw [Nat.min_eq_left (by show (tr f).length ≤ 64; omega), Int.one_mul, hN, i64_id (by omega) (by omega)]
    have key : ∀ N : AV → AV → Heap → Prop, y.op = 7 ∨ y.op = 8 → (∀ q' D' G', St H [rnG (.sl q' 1 0 ((goalsK f i).length + 1)) (goalsK f (i + 1)) D'] G' → N (.sl q' 1 0 ((goalsK f i).length + 1)) (I ((i + 1 : Nat) : Int)) G') →
        L108_1 (wkK fun r H' => r = Ls (goalsK f f.length) ∧ H' = H) N (Is (tr f)) x (I i) (.ptr r7 0) (.p .nil) (I 0) (Ds f) (I f.length) (I i) G2 := by
      intro N hop hN
      rw [if_pos (by rw [hur, Bool.or_eq_true, decide_eq_true_eq, decide_eq_true_eq]; exact hop)] at hsucc
      generalize y.op = o at hop st hur hgp
      refine L108_1_rule ((0 : Nat), z, G2) (fun s => rowP s.2.1 (gw s.1 (goalP f i))) (fun s => I s.1) (fun s => s.2.2)
        (fun s => s.1 ≤ nF f ∧ St H [cellT r7 [I o, I y.n], cellT s.2.1 (cP fI (gw s.1 (goalP f i))), rnG x (goalsK f i) D] s.2.2) (fun s => nF f - s.1) ⟨⟨by simp, st⟩, .nilo _ _ _, .refl _, Heap.le_refl _⟩ ?_
      clear st
      rintro ⟨n, q, G⟩ ⟨hn, st⟩
      dsimp only at hn st
      have e7 : IntKind.i64.wrap ((n : Int) + 1) = ((n + 1 : Nat) : Int) := by rw [i64_id (by omega) (by omega)]; simp
      have hq := gw_succ n (goalP f i)
      have hql := gw_len n (goalP f i)
      rw [hgp n] at hq
      have yes : ∀ N2 : AV → AV → Heap → Prop, (∀ q' G', St H [cellT r7 [I o, I y.n], cellT q' (cP fI (gw n (goalP f i) ++ [(n : Int)])), rnG x (goalsK f i) D] G' → N2 (rowP q' (gw n (goalP f i) ++ [(n : Int)])) (I ((n + 1 : Nat) : Int)) G') →
          J108_2 (wkK fun r H' => r = Ls (goalsK f f.length) ∧ H' = H) N N2 (Is (tr f)) x (I i) (.ptr r7 0) (rowP q (gw n (goalP f i))) (I n) (Ds f) (I f.length) (I i) G := by
        intro N2 h2
        (try simp (maxSteps := 1000000) (disch := (first | assumption | (apply Ne.symm; assumption))) only [vw0, vw1, vw2, vw3, vw4, vu0, vu1, ↓condV_t, ↓condV_f, cap_nil, allocV, splice, partV, buildV, eqFieldsV, eqS, tabs, TK.agg, reduceCtorEq, Array.toList, List.map_cons, List.map_nil, ↓reduceIte, List.length_map, Nat.reduceAdd, Nat.reduceLeDiff, Nat.reduceLT, Nat.reduceMul, Nat.reduceSub, Option.bind_some, Option.map_some, bndV, numV, eI, eU, e8, eB, AV.isCell, Int.reduceToNat, Int.reduceSub, Int.reduceAdd, Int.reduceNeg, J108_2, e7])
        refine lit1 tab_24 rfl tab_3 ⟨rfl, rfl⟩ ?_
        exact st_appI (ys := [(n : Int)]) st 1 rfl (by simp only [List.length_singleton]; omega) fun q' G' hq' st => h2 _ _ st
      (try simp (maxSteps := 1000000) (disch := (first | assumption | (apply Ne.symm; assumption))) only [vw0, vw1, vw2, vw3, vw4, vu0, vu1, ↓condV_t, ↓condV_f, cap_nil, allocV, splice, partV, buildV, eqFieldsV, eqS, tabs, TK.agg, reduceCtorEq, Array.toList, List.map_cons, List.map_nil, ↓reduceIte, List.length_map, Nat.reduceAdd, Nat.reduceLeDiff, Nat.reduceLT, Nat.reduceMul, Nat.reduceSub, Option.bind_some, Option.map_some, bndV, numV, eI, eU, e8, eB, AV.isCell, Int.reduceToNat, Int.reduceSub, Int.reduceAdd, Int.reduceNeg, B108_1, eu, Int.toNat_natCast, ew])
      refine ⟨by omega, fun h2 => ?_, fun h2 => ?_⟩
      · refine Pu.use (l13Says_spec (tr f) n i htl) ?_
        (try simp (maxSteps := 1000000) (disch := (first | assumption | (apply Ne.symm; assumption))) only [vw0, vw1, vw2, vw3, vw4, vu0, vu1, ↓condV_t, ↓condV_f, cap_nil, allocV, splice, partV, buildV, eqFieldsV, eqS, tabs, TK.agg, reduceCtorEq, Array.toList, List.map_cons, List.map_nil, ↓reduceIte, List.length_map, Nat.reduceAdd, Nat.reduceLeDiff, Nat.reduceLT, Nat.reduceMul, Nat.reduceSub, Option.bind_some, Option.map_some, bndV, numV, eI, eU, e8, eB, AV.isCell, Int.reduceToNat, Int.reduceSub, Int.reduceAdd, Int.reduceNeg, e6])
        refine Pu.use (l13Says_spec (tr f) n ((i : Int) - 1) htl) ?_
        generalize saysF (tr f) n i = own at hq ⊢
        generalize saysF (tr f) n ((i : Int) - 1) = sec at hq ⊢
        have ok : gw (n + 1) (goalP f i) = gw n (goalP f i) ++ [(n : Int)] → ∀ (q' : Nat) (G' : Heap), St H [cellT r7 [I o, I y.n], cellT q' (cP fI (gw n (goalP f i) ++ [(n : Int)])), rnG x (goalsK f i) D] G' → ∃ s' : Nat × Nat × Heap, (s'.1 ≤ nF f ∧ St H [cellT r7 [I o, I y.n], cellT s'.2.1 (cP fI (gw s'.1 (goalP f i))), rnG x (goalsK f i) D] s'.2.2) ∧ nF f - s'.1 < nF f - n ∧ AV.wk (rowP q' (gw n (goalP f i) ++ [(n : Int)])) (rowP s'.2.1 (gw s'.1 (goalP f i))) ∧ AV.wk (I ((n + 1 : Nat) : Int)) (I s'.1) ∧ Heap.le s'.2.2 G' := fun e q' G' st => by
          rw [← e] at st ⊢
          exact ⟨(n + 1, q', G'), ⟨by simp only; omega, st⟩, by simp only; omega, .refl _, .refl _, Heap.le_refl _⟩
        have no : gw (n + 1) (goalP f i) = gw n (goalP f i) → ∃ s' : Nat × Nat × Heap, (s'.1 ≤ nF f ∧ St H [cellT r7 [I o, I y.n], cellT s'.2.1 (cP fI (gw s'.1 (goalP f i))), rnG x (goalsK f i) D] s'.2.2) ∧ nF f - s'.1 < nF f - n ∧ AV.wk (rowP q (gw n (goalP f i))) (rowP s'.2.1 (gw s'.1 (goalP f i))) ∧ AV.wk (I ((n + 1 : Nat) : Int)) (I s'.1) ∧ Heap.le s'.2.2 G := fun e =>
          ⟨(n + 1, q, G), ⟨by simp only; omega, by rw [e]; exact st⟩, by simp only; omega, by rw [e]; exact .refl _, .refl _, Heap.le_refl _⟩
        clear hur hgp
        have e78 : ((7 : Int) = 8) = False := by simp
        have e87 : ((8 : Int) = 7) = False := by simp
        rcases hop with rfl | rfl <;> cases own <;> cases sec <;> ((try simp (maxSteps := 1000000) (disch := (first | assumption | (apply Ne.symm; assumption))) only [vw0, vw1, vw2, vw3, vw4, vu0, vu1, ↓condV_t, ↓condV_f, cap_nil, allocV, splice, partV, buildV, eqFieldsV, eqS, tabs, TK.agg, reduceCtorEq, Array.toList, List.map_cons, List.map_nil, ↓reduceIte, List.length_map, Nat.reduceAdd, Nat.reduceLeDiff, Nat.reduceLT, Nat.reduceMul, Nat.reduceSub, Option.bind_some, Option.map_some, bndV, numV, eI, eU, e8, eB, AV.isCell, Int.reduceToNat, Int.reduceSub, Int.reduceAdd, Int.reduceNeg, e78, e87, load_at (st.get 0 rfl), J108_3, e7]))
        · exact yes _ (ok (hq.trans (if_pos rfl)))
        · exact yes _ (ok (hq.trans (if_pos rfl)))
        · exact no (hq.trans (if_neg (by decide)))
        · exact yes _ (ok (hq.trans (if_pos rfl)))
        · refine lit1 tab_24 rfl tab_3 ⟨rfl, rfl⟩ ?_
          exact st_appI (ys := [(n : Int)]) st 1 rfl (by simp only [List.length_singleton]; omega) fun q' G' hq' st => ok (hq.trans (if_pos rfl)) _ _ st
        · exact no (hq.trans (if_neg (by decide)))
        · exact yes _ (ok (hq.trans (if_pos rfl)))
        · exact yes _ (ok (hq.trans (if_pos rfl)))
      · have : n = nF f := by omega
        subst this
        clear yes
        (try simp (maxSteps := 1000000) (disch := (first | assumption | (apply Ne.symm; assumption))) only [vw0, vw1, vw2, vw3, vw4, vu0, vu1, ↓condV_t, ↓condV_f, cap_nil, allocV, splice, partV, buildV, eqFieldsV, eqS, tabs, TK.agg, reduceCtorEq, Array.toList, List.map_cons, List.map_nil, ↓reduceIte, List.length_map, Nat.reduceAdd, Nat.reduceLeDiff, Nat.reduceLT, Nat.reduceMul, Nat.reduceSub, Option.bind_some, Option.map_some, bndV, numV, eI, eU, e8, eB, AV.isCell, Int.reduceToNat, Int.reduceSub, Int.reduceAdd, Int.reduceNeg, e5])
        refine lit_live1 fun ql hql => ?_
        replace st := st.drop.cell hql [rowP q (gw (nF f) (goalP f i))]
        generalize G.set ql [.sl q 1 0 (gw (nF f) (goalP f i)).length] = G4 at st ⊢
        refine rn_pushL st 0 rfl (by omega) fun q' D' G5 hq' st => ?_
        rw [← hsucc] at st
        exact hN _ _ _ st
    have fin : y.op = 7 ∨ y.op = 8 → L108_1 (wkK fun r H' => r = Ls (goalsK f f.length) ∧ H' = H) (fun w5 w14 H' => ∃ s' : Nat × AV × List Nat × Heap, (s'.1 ≤ f.length ∧ St H [rnG s'.2.1 (goalsK f s'.1) s'.2.2.1] s'.2.2.2) ∧ f.length - s'.1 < f.length - i ∧ AV.wk w5 s'.2.1 ∧ AV.wk w14 (I s'.1) ∧ Heap.le s'.2.2.2 H') (Is (tr f)) x (I i) (.ptr r7 0) (.p .nil) (I 0) (Ds f) (I f.length) (I i) G2 :=
      fun hop => key _ hop fun q' D' G' st => ⟨(i + 1, _, D', G'), ⟨by simp only; omega, st⟩, by simp only; omega, .refl _, .refl _, Heap.le_refl _⟩
    (try simp (maxSteps := 1000000) (disch := (first | assumption | (apply Ne.symm; assumption))) only [vw0, vw1, vw2, vw3, vw4, vu0, vu1, ↓condV_t, ↓condV_f, cap_nil, allocV, splice, partV, buildV, eqFieldsV, eqS, tabs, TK.agg, reduceCtorEq, Array.toList, List.map_cons, List.map_nil, ↓reduceIte, List.length_map, Nat.reduceAdd, Nat.reduceLeDiff, Nat.reduceLT, Nat.reduceMul, Nat.reduceSub, Option.bind_some, Option.map_some, bndV, numV, eI, eU, e8, eB, AV.isCell, Int.reduceToNat, Int.reduceSub, Int.reduceAdd, Int.reduceNeg, load_at (st.get 0 rfl), e5])
    refine ⟨fun h7 => ⟨fun h8 => ?_, fun h8 => fin (.inr h8)⟩, fun h7 => fin (.inl h7)⟩
    rw [if_neg (by rw [hur, decide_eq_false h7, decide_eq_false h8]; decide)] at hsucc
    exact ⟨(i + 1, x, D, G2), ⟨by simp only; omega, by rw [hsucc]; exact st.drop.drop⟩, by simp only; omega, .refl _, .refl _, Heap.le_refl _⟩
  · have : i = f.length := by omega
    subst this
    exact fin_rows st 1 rfl
/-- Two rows of an automaton become values. -/
theorem fin_au {H G : Heap} {Ts : List Th} {z1 z2 : Nat} {x y : AV} {l : List Int} {es : List Ed} {gs : List (List Int)} {D1 D2 : List Nat} {n : Int} (s : St H Ts G) (i j : Nat) (hi : Ts[i]? = some (riT z1 x l D1)) (hj : Ts[j]? = some (reT z2 y es D2)) (hij : i ≠ j) :
    wkK (fun r H' => r = .agg [I n, Is l, Es es, Ls gs] ∧ H' = H) (.agg [I n, x, y, Ls gs]) G := by
  obtain ⟨x', hx, lx⟩ := (s.get i hi : RZ (LPl eI) 1 z1 x l G D1).row
  obtain ⟨y', hy, ly⟩ := (s.get j hj : RZ (LPl eE) 3 z2 y es G D2).row
  obtain ⟨q1, c1, E1, rfl, hq1, ll1, rfl⟩ := lx
  obtain ⟨q2, c2, E2, rfl, hq2, ll2, rfl⟩ := ly
  obtain ⟨rfl, rfl⟩ := LL.plain' ll1
  obtain ⟨rfl, rfl⟩ := LL.plain' ll2
  have hne : q2 ≠ q1 := fun e => s.disjI i j hi hj hij q1 (by simp [rzT]) (by simp [rzT, e])
  have f1 : FrzR q1 1 (l.map eI) (.agg [I n, .sl q1 1 0 l.length, .sl q2 3 0 es.length, Ls gs]) (.agg [I n, Is l, .sl q2 3 0 es.length, Ls gs]) := by
    have : FrzR q1 1 (l.map eI) (.sl q1 1 0 (l.map eI).length) (.p (.sl (l.map eI))) := .here
    rw [List.length_map] at this
    exact .agg (.cons (.same _) (.cons this (.cons (.same _) (.cons (.same _) .nil))))
  have f2 : FrzR q2 3 (es.map eE) (.agg [I n, Is l, .sl q2 3 0 es.length, Ls gs]) (.agg [I n, Is l, Es es, Ls gs]) := by
    have : FrzR q2 3 (es.map eE) (.sl q2 3 0 (es.map eE).length) (.p (.sl (es.map eE))) := .here
    rw [List.length_map] at this
    exact .agg (.cons (.same _) (.cons (.same _) (.cons this (.cons (.same _) .nil))))
  have w1 : Wk (.agg [I n, x, y, Ls gs]) G (.agg [I n, .sl q1 1 0 l.length, .sl q2 3 0 es.length, Ls gs]) G := .val (wk_agg ⟨.refl _, hx, hy, .refl _, trivial⟩)
  have w2 := Wk.frz (sz := 1) (by omega) hq1 (sized_map (f := eI) (fun _ => rfl) l) f1
  have w3 := Wk.frz (H := G.del q1) (sz := 3) (by omega) (by rw [Heap.del_other hne]; exact hq2) (szE es) f2
  refine ⟨_, _, .trans w1 (.trans w2 (.trans w3 (.forget (H' := H) fun y b hb => ?_))), rfl, rfl⟩
  have n1 : y ≠ q1 := fun e => by have := s.fr _ (List.mem_of_getElem? hi) q1 (by simp [rzT]); rw [← e, hb] at this; cases this
  have n2 : y ≠ q2 := fun e => by have := s.fr _ (List.mem_of_getElem? hj) q2 (by simp [rzT]); rw [← e, hb] at this; cases this
  rw [Heap.del_other n2, Heap.del_other n1]
  exact s.le y b hb
end Go.Proofs.Ytoeabliackaibaa
