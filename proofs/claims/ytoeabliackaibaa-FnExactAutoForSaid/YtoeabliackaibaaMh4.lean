/- Specs: AutoFor, by the reference; the law. -/
import Derived.Test.YtoeabliackaibaaMh3
import Derived.Test.YtoeabliackaibaaMf4
namespace Go.Proofs.Ytoeabliackaibaa
open Go Go.Sep Go.Pt
set_option linter.unusedSimpArgs false
set_option linter.unusedVariables false
attribute [local irreducible] CallT

theorem row0_len {f : List Sd} (h : (tr f).length ≤ 5) {g l n : Nat} (hg : g < nF f) (hl : l < 8) (hn : n ≤ nF f) : (all0 f g ++ (row0 f g l ++ cell0 f g l n)).length ≤ 32 * 256 + 512 := by
  have hb := nF_bd h
  have c0 : ∀ g l n, (cell0 f g l n).length ≤ n := fun g l n => by
    unfold cell0
    rw [List.length_map]
    have := List.length_filter_le (fun (k : Nat) => decide (guF f l k = g)) (List.range n)
    rwa [List.length_range] at this
  have r0 : ∀ g l, (row0 f g l).length ≤ l * 32 := fun g l => by
    induction l with
    | zero => simp [row0]
    | succ l ih => rw [row0_succ, List.length_append]; have := c0 g l (nF f); omega
  have a0 : ∀ g, (all0 f g).length ≤ g * 256 := fun g => by
    induction g with
    | zero => simp [all0]
    | succ g ih => rw [all0_succ, List.length_append]; have := r0 g 8; omega
  rw [List.length_append, List.length_append]
  have h1 := c0 g l n
  have h2 := r0 g l
  have h3 := a0 g
  omega
theorem l13Auto_spec (f : List Sd) (g : GoodFm f) (ht : (tr f).length ≤ 5) : Pu Try.prog 68 [Ds f, B false] (aAu (autoF f)) := by
  have hl := g.l1
  have hl0 := g.l0
  have hb := nF_bd ht
  have htl : (tr f).length ≤ 1000 := by omega
  have eu : IntKind.u64.wrap ((tr f).length : Int) = (tr f).length := by rw [IntKind.wrap_u64]; omega
  have hN := nF_int f
  have ew : IntKind.i64.wrap (1 * 2 ^ (min (tr f).length IntKind.i64.bits)) = (nF f : Int) := by
    rw [Nat.min_eq_left (by show (tr f).length ≤ 64; omega), Int.one_mul, hN, i64_id (by omega) (by omega)]
  have e1 : IntKind.i64.wrap ((f.length : Int) - 1) = (f.length : Int) - 1 := i64_id (by omega) (by omega)
  refine ⟨fun H => CallT.fin ?_⟩
  refine CallT.ghost W68_hb fun z1 hz1 => ?_
  refine CallT.ghost W68_hb fun z2 hz2 => ?_
  have st := lent (LPl.local eE) (LPl.has eE) 3 (lent (LPl.local eI) (LPl.has eI) 1 (((St.nil H).cell hz1 []).cell hz2 []) 1 rfl) 0 rfl
  generalize (H.set z1 []).set z2 [] = G at st ⊢
  clear hz1 hz2
  refine W68_ok ?_; simp (maxSteps := 1000000) (disch := (first | assumption | (apply Ne.symm; assumption))) only [W68, vw0, vw1, vw2, vw3, vw4, vu0, vu1, ↓condV_t, ↓condV_f, cap_nil, allocV, splice, partV, buildV, eqFieldsV, eqS, tabs, TK.agg, reduceCtorEq, Array.toList, List.map_cons, List.map_nil, ↓reduceIte, List.length_map, Nat.reduceAdd, Nat.reduceLeDiff, Nat.reduceLT, Nat.reduceMul, Nat.reduceSub, Option.bind_some, Option.map_some, bndV, numV, eI, eU, e8, eB, AV.isCell, Int.reduceToNat, Int.reduceSub, Int.reduceAdd, Int.reduceNeg]
  intro r4 hr4
  replace st := st.cell hr4 [I 0, .p .nil, .p .nil, .p .nil]
  generalize G.set r4 [I 0, .p .nil, .p .nil, .p .nil] = G1 at st ⊢
  refine Pu.use (l13Tracked_spec f g) ?_
  (try simp (maxSteps := 1000000) (disch := (first | assumption | (apply Ne.symm; assumption))) only [vw0, vw1, vw2, vw3, vw4, vu0, vu1, ↓condV_t, ↓condV_f, cap_nil, allocV, splice, partV, buildV, eqFieldsV, eqS, tabs, TK.agg, reduceCtorEq, Array.toList, List.map_cons, List.map_nil, ↓reduceIte, List.length_map, Nat.reduceAdd, Nat.reduceLeDiff, Nat.reduceLT, Nat.reduceMul, Nat.reduceSub, Option.bind_some, Option.map_some, bndV, numV, eI, eU, e8, eB, AV.isCell, Int.reduceToNat, Int.reduceSub, Int.reduceAdd, Int.reduceNeg, eu, Int.toNat_natCast, ew])
  refine ⟨by omega, ?_⟩
  refine Pu.use (l13Goals_spec f g ht) ?_
  (try simp (maxSteps := 1000000) (disch := (first | assumption | (apply Ne.symm; assumption))) only [vw0, vw1, vw2, vw3, vw4, vu0, vu1, ↓condV_t, ↓condV_f, cap_nil, allocV, splice, partV, buildV, eqFieldsV, eqS, tabs, TK.agg, reduceCtorEq, Array.toList, List.map_cons, List.map_nil, ↓reduceIte, List.length_map, Nat.reduceAdd, Nat.reduceLeDiff, Nat.reduceLT, Nat.reduceMul, Nat.reduceSub, Option.bind_some, Option.map_some, bndV, numV, eI, eU, e8, eB, AV.isCell, Int.reduceToNat, Int.reduceSub, Int.reduceAdd, Int.reduceNeg])
  intro r7 hr7
  replace st := st.cell hr7 [I (nF f), .p .nil, .p .nil, Ls (goalsK f f.length)]
  generalize G1.set r7 [I (nF f), .p .nil, .p .nil, Ls (goalsK f f.length)] = G2 at st ⊢
  clear hr4 hr7
  have st := st.perm (Us := [cellT r7 [I (nF f), .p .nil, .p .nil, Ls (goalsK f f.length)], cellT r4 [I 0, .p .nil, .p .nil, .p .nil], riT z1 (.p .nil) [] [z1], reT z2 (.p .nil) [] [z2]]) (((List.Perm.swap _ _ _).cons _).cons _)
  refine L68_0_rule ((0 : Nat), (.p .nil : AV), [z1], (.p .nil : AV), [z2], G2) (fun s => I s.1) (fun s => s.2.2.2.2.2)
    (fun s => s.1 ≤ nF f ∧ St H [cellT r7 [I (nF f), s.2.1, s.2.2.2.1, Ls (goalsK f f.length)], cellT r4 [I 0, .p .nil, .p .nil, .p .nil], riT z1 s.2.1 (gw s.1 (rootP f)) s.2.2.1, reT z2 s.2.2.2.1 (all0 f s.1) s.2.2.2.2.1] s.2.2.2.2.2) (fun s => nF f - s.1) ⟨⟨by simp, st⟩, .refl _, Heap.le_refl _⟩ ?_
  clear st
  rintro ⟨g0, x, D1, y, D2, G⟩ ⟨hg, st⟩
  dsimp only at hg st
  have e5 : IntKind.i64.wrap ((g0 : Int) + 1) = ((g0 + 1 : Nat) : Int) := by rw [i64_id (by omega) (by omega)]; simp
  (try simp (maxSteps := 1000000) (disch := (first | assumption | (apply Ne.symm; assumption))) only [vw0, vw1, vw2, vw3, vw4, vu0, vu1, ↓condV_t, ↓condV_f, cap_nil, allocV, splice, partV, buildV, eqFieldsV, eqS, tabs, TK.agg, reduceCtorEq, Array.toList, List.map_cons, List.map_nil, ↓reduceIte, List.length_map, Nat.reduceAdd, Nat.reduceLeDiff, Nat.reduceLT, Nat.reduceMul, Nat.reduceSub, Option.bind_some, Option.map_some, bndV, numV, eI, eU, e8, eB, AV.isCell, Int.reduceToNat, Int.reduceSub, Int.reduceAdd, Int.reduceNeg, B68_0, e1])
  refine ⟨fun h1 => ?_, fun h1 => ?_⟩
  · have hlt : g0 < nF f := by omega
    refine Pu.use (l13Says_spec (tr f) g0 ((f.length : Int) - 1) htl) ?_
    have hsucc := gw_succ g0 (rootP f)
    have hgl := gw_len g0 (rootP f)
    have hrp : rootP f g0 = saysF (tr f) g0 ((f.length : Int) - 1) := rfl
    rw [hrp] at hsucc
    have key : ∀ x D1 G, St H [cellT r7 [I (nF f), x, y, Ls (goalsK f f.length)], cellT r4 [I 0, .p .nil, .p .nil, .p .nil], riT z1 x (gw (g0 + 1) (rootP f)) D1, reT z2 y (all0 f g0) D2] G → ∀ K N1, (∀ y D2 G, St H [cellT r7 [I (nF f), x, y, Ls (goalsK f f.length)], cellT r4 [I 0, .p .nil, .p .nil, .p .nil], riT z1 x (gw (g0 + 1) (rootP f)) D1, reT z2 y (all0 f (g0 + 1)) D2] G → N1 (I ((g0 + 1 : Nat) : Int)) G) →
        L68_1 K N1 (Ds f) (B false) (.ptr r4 0) (Is (tr f)) (I (nF f)) (.ptr r7 0) (I g0) (I 0) G := by
      clear st hsucc
      intro x D1 G st K N1 hN1
      refine L68_1_rule ((0 : Nat), y, D2, G) (fun s => I s.1) (fun s => s.2.2.2)
        (fun s => s.1 ≤ 8 ∧ St H [cellT r7 [I (nF f), x, s.2.1, Ls (goalsK f f.length)], cellT r4 [I 0, .p .nil, .p .nil, .p .nil], riT z1 x (gw (g0 + 1) (rootP f)) D1, reT z2 s.2.1 (all0 f g0 ++ row0 f g0 s.1) s.2.2.1] s.2.2.2) (fun s => 8 - s.1) ⟨⟨by simp, by simpa [row0] using st⟩, .refl _, Heap.le_refl _⟩ ?_
      clear st y D2
      rintro ⟨l, y, D2, G⟩ ⟨hl8, st⟩
      dsimp only at hl8 st
      have e6 : IntKind.i64.wrap ((l : Int) + 1) = ((l + 1 : Nat) : Int) := by rw [i64_id (by omega) (by omega)]; simp
      (try simp (maxSteps := 1000000) (disch := (first | assumption | (apply Ne.symm; assumption))) only [vw0, vw1, vw2, vw3, vw4, vu0, vu1, ↓condV_t, ↓condV_f, cap_nil, allocV, splice, partV, buildV, eqFieldsV, eqS, tabs, TK.agg, reduceCtorEq, Array.toList, List.map_cons, List.map_nil, ↓reduceIte, List.length_map, Nat.reduceAdd, Nat.reduceLeDiff, Nat.reduceLT, Nat.reduceMul, Nat.reduceSub, Option.bind_some, Option.map_some, bndV, numV, eI, eU, e8, eB, AV.isCell, Int.reduceToNat, Int.reduceSub, Int.reduceAdd, Int.reduceNeg, B68_1])
      refine ⟨fun h2 => ?_, fun h2 => ?_⟩
      · refine L68_2_rule ((0 : Nat), y, D2, G) (fun s => I s.1) (fun s => s.2.2.2)
          (fun s => s.1 ≤ nF f ∧ St H [cellT r7 [I (nF f), x, s.2.1, Ls (goalsK f f.length)], cellT r4 [I 0, .p .nil, .p .nil, .p .nil], riT z1 x (gw (g0 + 1) (rootP f)) D1, reT z2 s.2.1 (all0 f g0 ++ (row0 f g0 l ++ cell0 f g0 l s.1)) s.2.2.1] s.2.2.2) (fun s => nF f - s.1) ⟨⟨by simp, by simpa [cell0] using st⟩, .refl _, Heap.le_refl _⟩ ?_
        clear st y D2
        rintro ⟨n, y, D2, G⟩ ⟨hn, st⟩
        dsimp only at hn st
        have e7 : IntKind.i64.wrap ((n : Int) + 1) = ((n + 1 : Nat) : Int) := by rw [i64_id (by omega) (by omega)]; simp
        (try simp (maxSteps := 1000000) (disch := (first | assumption | (apply Ne.symm; assumption))) only [vw0, vw1, vw2, vw3, vw4, vu0, vu1, ↓condV_t, ↓condV_f, cap_nil, allocV, splice, partV, buildV, eqFieldsV, eqS, tabs, TK.agg, reduceCtorEq, Array.toList, List.map_cons, List.map_nil, ↓reduceIte, List.length_map, Nat.reduceAdd, Nat.reduceLeDiff, Nat.reduceLT, Nat.reduceMul, Nat.reduceSub, Option.bind_some, Option.map_some, bndV, numV, eI, eU, e8, eB, AV.isCell, Int.reduceToNat, Int.reduceSub, Int.reduceAdd, Int.reduceNeg, B68_2])
        refine ⟨fun h3 => ?_, fun h3 => ?_⟩
        · refine Pu.use (l13Guess_spec f g l n (by omega)) ?_
          have hc := cell0_succ f g0 l n
          have hlen := row0_len ht hlt (l := l) (n := n) (by omega) hn
          (try simp (maxSteps := 1000000) (disch := (first | assumption | (apply Ne.symm; assumption))) only [vw0, vw1, vw2, vw3, vw4, vu0, vu1, ↓condV_t, ↓condV_f, cap_nil, allocV, splice, partV, buildV, eqFieldsV, eqS, tabs, TK.agg, reduceCtorEq, Array.toList, List.map_cons, List.map_nil, ↓reduceIte, List.length_map, Nat.reduceAdd, Nat.reduceLeDiff, Nat.reduceLT, Nat.reduceMul, Nat.reduceSub, Option.bind_some, Option.map_some, bndV, numV, eI, eU, e8, eB, AV.isCell, Int.reduceToNat, Int.reduceSub, Int.reduceAdd, Int.reduceNeg, load_at (st.get 0 rfl), e7])
          refine ⟨fun h4 => ?_, fun h4 => ?_⟩
          · rw [if_pos h4] at hc
            refine lit_edge (x := ⟨g0, l, n⟩) ?_
            refine rz_appE (ys := [⟨g0, l, n⟩]) st 3 rfl (by simp only [List.length_cons, List.length_nil]; omega) fun q' G' hq' st => ?_
            rw [List.append_assoc, List.append_assoc, ← hc] at st ⊢
            obtain ⟨es', hes⟩ : ∃ es', all0 f g0 ++ (row0 f g0 l ++ cell0 f g0 l (n + 1)) = es' := ⟨_, rfl⟩
            rw [hes] at st ⊢
            (try simp (maxSteps := 1000000) (disch := (first | assumption | (apply Ne.symm; assumption))) only [vw0, vw1, vw2, vw3, vw4, vu0, vu1, ↓condV_t, ↓condV_f, cap_nil, allocV, splice, partV, buildV, eqFieldsV, eqS, tabs, TK.agg, reduceCtorEq, Array.toList, List.map_cons, List.map_nil, ↓reduceIte, List.length_map, Nat.reduceAdd, Nat.reduceLeDiff, Nat.reduceLT, Nat.reduceMul, Nat.reduceSub, Option.bind_some, Option.map_some, bndV, numV, eI, eU, e8, eB, AV.isCell, Int.reduceToNat, Int.reduceSub, Int.reduceAdd, Int.reduceNeg, store_at (st.get 0 rfl), e7])
            replace st := st.put 0 rfl [I (nF f), x, rowE q' es', Ls (goalsK f f.length)]
            rw [← hes] at st
            exact ⟨(n + 1, _, [q'], _), ⟨by simp only; omega, st⟩, by simp only; omega, .refl _, by rw [hes]; exact Heap.le_refl _⟩
          · rw [if_neg h4] at hc
            exact ⟨(n + 1, y, D2, G), ⟨by simp only; omega, by rw [hc]; exact st⟩, by simp only; omega, .refl _, Heap.le_refl _⟩
        · have : n = nF f := by omega
          subst this
          rw [← row0_succ] at st
          (try simp (maxSteps := 1000000) (disch := (first | assumption | (apply Ne.symm; assumption))) only [vw0, vw1, vw2, vw3, vw4, vu0, vu1, ↓condV_t, ↓condV_f, cap_nil, allocV, splice, partV, buildV, eqFieldsV, eqS, tabs, TK.agg, reduceCtorEq, Array.toList, List.map_cons, List.map_nil, ↓reduceIte, List.length_map, Nat.reduceAdd, Nat.reduceLeDiff, Nat.reduceLT, Nat.reduceMul, Nat.reduceSub, Option.bind_some, Option.map_some, bndV, numV, eI, eU, e8, eB, AV.isCell, Int.reduceToNat, Int.reduceSub, Int.reduceAdd, Int.reduceNeg, e6])
          exact ⟨(l + 1, y, D2, G), ⟨by simp only; omega, st⟩, by simp only; omega, .refl _, Heap.le_refl _⟩
      · have : l = 8 := by omega
        subst this
        rw [← all0_succ] at st
        (try simp (maxSteps := 1000000) (disch := (first | assumption | (apply Ne.symm; assumption))) only [vw0, vw1, vw2, vw3, vw4, vu0, vu1, ↓condV_t, ↓condV_f, cap_nil, allocV, splice, partV, buildV, eqFieldsV, eqS, tabs, TK.agg, reduceCtorEq, Array.toList, List.map_cons, List.map_nil, ↓reduceIte, List.length_map, Nat.reduceAdd, Nat.reduceLeDiff, Nat.reduceLT, Nat.reduceMul, Nat.reduceSub, Option.bind_some, Option.map_some, bndV, numV, eI, eU, e8, eB, AV.isCell, Int.reduceToNat, Int.reduceSub, Int.reduceAdd, Int.reduceNeg, e5])
        exact hN1 _ _ _ st
    have fin : ∀ x D1 G, St H [cellT r7 [I (nF f), x, y, Ls (goalsK f f.length)], cellT r4 [I 0, .p .nil, .p .nil, .p .nil], riT z1 x (gw (g0 + 1) (rootP f)) D1, reT z2 y (all0 f g0) D2] G → ∀ K,
        L68_1 K (fun w8 H' => ∃ s : Nat × AV × List Nat × AV × List Nat × Heap, (s.1 ≤ nF f ∧ St H [cellT r7 [I (nF f), s.2.1, s.2.2.2.1, Ls (goalsK f f.length)], cellT r4 [I 0, .p .nil, .p .nil, .p .nil], riT z1 s.2.1 (gw s.1 (rootP f)) s.2.2.1, reT z2 s.2.2.2.1 (all0 f s.1) s.2.2.2.2.1] s.2.2.2.2.2) ∧ nF f - s.1 < nF f - g0 ∧ AV.wk w8 (I s.1) ∧ Heap.le s.2.2.2.2.2 H') (Ds f) (B false) (.ptr r4 0) (Is (tr f)) (I (nF f)) (.ptr r7 0) (I g0) (I 0) G :=
      fun x D1 G st K => key x D1 G st K _ fun y D2 G st => ⟨(g0 + 1, x, D1, y, D2, G), ⟨by simp only; omega, st⟩, by simp only; omega, .refl _, Heap.le_refl _⟩
    generalize saysF (tr f) g0 ((f.length : Int) - 1) = sy at hsucc ⊢
    cases sy
    · rw [if_neg (by decide)] at hsucc
      (try simp (maxSteps := 1000000) (disch := (first | assumption | (apply Ne.symm; assumption))) only [vw0, vw1, vw2, vw3, vw4, vu0, vu1, ↓condV_t, ↓condV_f, cap_nil, allocV, splice, partV, buildV, eqFieldsV, eqS, tabs, TK.agg, reduceCtorEq, Array.toList, List.map_cons, List.map_nil, ↓reduceIte, List.length_map, Nat.reduceAdd, Nat.reduceLeDiff, Nat.reduceLT, Nat.reduceMul, Nat.reduceSub, Option.bind_some, Option.map_some, bndV, numV, eI, eU, e8, eB, AV.isCell, Int.reduceToNat, Int.reduceSub, Int.reduceAdd, Int.reduceNeg])
      exact fin x D1 G (by rw [hsucc]; exact st) _
    · rw [if_pos rfl] at hsucc
      (try simp (maxSteps := 1000000) (disch := (first | assumption | (apply Ne.symm; assumption))) only [vw0, vw1, vw2, vw3, vw4, vu0, vu1, ↓condV_t, ↓condV_f, cap_nil, allocV, splice, partV, buildV, eqFieldsV, eqS, tabs, TK.agg, reduceCtorEq, Array.toList, List.map_cons, List.map_nil, ↓reduceIte, List.length_map, Nat.reduceAdd, Nat.reduceLeDiff, Nat.reduceLT, Nat.reduceMul, Nat.reduceSub, Option.bind_some, Option.map_some, bndV, numV, eI, eU, e8, eB, AV.isCell, Int.reduceToNat, Int.reduceSub, Int.reduceAdd, Int.reduceNeg, load_at (st.get 0 rfl)])
      refine lit1 tab_24 rfl tab_3 ⟨rfl, rfl⟩ ?_
      refine rz_appI (ys := [(g0 : Int)]) st 2 rfl (by simp only [List.length_singleton]; omega) fun q' G' hq' st => ?_
      rw [← hsucc] at st ⊢
      obtain ⟨l', hl'⟩ : ∃ l', gw (g0 + 1) (rootP f) = l' := ⟨_, rfl⟩
      rw [hl'] at st ⊢
      (try simp (maxSteps := 1000000) (disch := (first | assumption | (apply Ne.symm; assumption))) only [vw0, vw1, vw2, vw3, vw4, vu0, vu1, ↓condV_t, ↓condV_f, cap_nil, allocV, splice, partV, buildV, eqFieldsV, eqS, tabs, TK.agg, reduceCtorEq, Array.toList, List.map_cons, List.map_nil, ↓reduceIte, List.length_map, Nat.reduceAdd, Nat.reduceLeDiff, Nat.reduceLT, Nat.reduceMul, Nat.reduceSub, Option.bind_some, Option.map_some, bndV, numV, eI, eU, e8, eB, AV.isCell, Int.reduceToNat, Int.reduceSub, Int.reduceAdd, Int.reduceNeg, store_at (st.get 0 rfl)])
      replace st := st.put 0 rfl [I (nF f), rowP q' l', y, Ls (goalsK f f.length)]
      rw [← hl'] at st
      have := fin _ _ _ st
      rw [hl'] at this
      exact this _
  · have : g0 = nF f := by omega
    subst this
    have hx := RZ.sl (st.get 2 rfl : RZ (LPl eI) 1 z1 x _ G D1)
    have hy := RZ.sl (st.get 3 rfl : RZ (LPl eE) 3 z2 y _ G D2)
    (try simp (maxSteps := 1000000) (disch := (first | assumption | (apply Ne.symm; assumption))) only [vw0, vw1, vw2, vw3, vw4, vu0, vu1, ↓condV_t, ↓condV_f, cap_nil, allocV, splice, partV, buildV, eqFieldsV, eqS, tabs, TK.agg, reduceCtorEq, Array.toList, List.map_cons, List.map_nil, ↓reduceIte, List.length_map, Nat.reduceAdd, Nat.reduceLeDiff, Nat.reduceLT, Nat.reduceMul, Nat.reduceSub, Option.bind_some, Option.map_some, bndV, numV, eI, eU, e8, eB, AV.isCell, Int.reduceToNat, Int.reduceSub, Int.reduceAdd, Int.reduceNeg, load_at (st.get 0 rfl), store_at (st.get 1 rfl)])
    replace st := st.put 1 rfl [I (nF f), x, y, Ls (goalsK f f.length)]
    have := fin_au (gs := goalsK f f.length) (n := nF f) st 2 3 rfl rfl (by decide)
    refine ⟨?_, this⟩
    rcases hx with rfl | ⟨q, rfl⟩ <;> rcases hy with rfl | ⟨q, rfl⟩ <;> rfl
theorem AutoFor_pu (f : List Sd) (hl : f.length ≤ 1048576) : Pu Try.prog 31 [Ds f] (.tup [aAu (afR f).1, B (afR f).2]) := by
  refine ⟨fun H => CallT.fin ?_⟩
  refine W31_ok ?_; simp (maxSteps := 1000000) (disch := (first | assumption | (apply Ne.symm; assumption))) only [W31, vw0, vw1, vw2, vw3, vw4, vu0, vu1, ↓condV_t, ↓condV_f, cap_nil, allocV, splice, partV, buildV, eqFieldsV, eqS, tabs, TK.agg, reduceCtorEq, Array.toList, List.map_cons, List.map_nil, ↓reduceIte, List.length_map, Nat.reduceAdd, Nat.reduceLeDiff, Nat.reduceLT, Nat.reduceMul, Nat.reduceSub, Option.bind_some, Option.map_some, bndV, numV, eI, eU, e8, eB, AV.isCell, Int.reduceToNat, Int.reduceSub, Int.reduceAdd, Int.reduceNeg]
  intro r hr
  have hle := fun b => Heap.le_set (b := b) hr
  refine Pu.use (l13Good_spec f hl) ?_
  cases ht : goodT f
  · have er : afR f = (zeroA, false) := by simp [afR, ht]
    rw [er]
    (try simp (maxSteps := 1000000) (disch := (first | assumption | (apply Ne.symm; assumption))) only [vw0, vw1, vw2, vw3, vw4, vu0, vu1, ↓condV_t, ↓condV_f, cap_nil, allocV, splice, partV, buildV, eqFieldsV, eqS, tabs, TK.agg, reduceCtorEq, Array.toList, List.map_cons, List.map_nil, ↓reduceIte, List.length_map, Nat.reduceAdd, Nat.reduceLeDiff, Nat.reduceLT, Nat.reduceMul, Nat.reduceSub, Option.bind_some, Option.map_some, bndV, numV, eI, eU, e8, eB, AV.isCell, Int.reduceToNat, Int.reduceSub, Int.reduceAdd, Int.reduceNeg])
    refine ⟨_, _, .trans (.val (v' := .tup [aAu zeroA, B false]) (wk_tup ⟨wk_agg ⟨.refl _, .nil, .nil, .nil, trivial⟩, .refl _, trivial⟩)) (.forget (hle _)), rfl, rfl⟩
  obtain ⟨g, h5⟩ := goodT_facts ht
  have er : afR f = (autoF f, true) := by simp [afR, ht]
  rw [er]
  (try simp (maxSteps := 1000000) (disch := (first | assumption | (apply Ne.symm; assumption))) only [vw0, vw1, vw2, vw3, vw4, vu0, vu1, ↓condV_t, ↓condV_f, cap_nil, allocV, splice, partV, buildV, eqFieldsV, eqS, tabs, TK.agg, reduceCtorEq, Array.toList, List.map_cons, List.map_nil, ↓reduceIte, List.length_map, Nat.reduceAdd, Nat.reduceLeDiff, Nat.reduceLT, Nat.reduceMul, Nat.reduceSub, Option.bind_some, Option.map_some, bndV, numV, eI, eU, e8, eB, AV.isCell, Int.reduceToNat, Int.reduceSub, Int.reduceAdd, Int.reduceNeg])
  refine Pu.use (l13Auto_spec f g h5) ?_
  generalize autoF f = a
  (try simp (maxSteps := 1000000) (disch := (first | assumption | (apply Ne.symm; assumption))) only [vw0, vw1, vw2, vw3, vw4, vu0, vu1, ↓condV_t, ↓condV_f, cap_nil, allocV, splice, partV, buildV, eqFieldsV, eqS, tabs, TK.agg, reduceCtorEq, Array.toList, List.map_cons, List.map_nil, ↓reduceIte, List.length_map, Nat.reduceAdd, Nat.reduceLeDiff, Nat.reduceLT, Nat.reduceMul, Nat.reduceSub, Option.bind_some, Option.map_some, bndV, numV, eI, eU, e8, eB, AV.isCell, Int.reduceToNat, Int.reduceSub, Int.reduceAdd, Int.reduceNeg])
  exact ⟨_, _, .forget (hle _), rfl, rfl⟩
theorem afR_sm (f : List Sd) : smAu (afR f).1 ∧ totAu (afR f).1 ≤ 10000 := by
  unfold afR
  split
  · exact good_tot (good_facts (autoF_good (goodT_facts ‹_›).2))
  · exact zeroA_tot
theorem FnExactAutoFor_true {f : List Sd} (ho : ok f.length) : Pu Try.prog 7 [Ds f] (B true) := by
  refine Pu.of fun H => ?_
  refine W7_ok ?_; simp (maxSteps := 1000000) (disch := (first | assumption | (apply Ne.symm; assumption))) only [W7, vw0, vw1, vw2, vw3, vw4, vu0, vu1, ↓condV_t, ↓condV_f, cap_nil, allocV, splice, partV, buildV, eqFieldsV, eqS, tabs, TK.agg, reduceCtorEq, Array.toList, List.map_cons, List.map_nil, ↓reduceIte, List.length_map, Nat.reduceAdd, Nat.reduceLeDiff, Nat.reduceLT, Nat.reduceMul, Nat.reduceSub, Option.bind_some, Option.map_some, bndV, numV, eI, eU, e8, eB, AV.isCell, Int.reduceToNat, Int.reduceSub, Int.reduceAdd, Int.reduceNeg]
  refine Pu.use (szSaidS_spec f 1048576 (by omega) (by omega) ho) ?_
  (try simp (maxSteps := 1000000) (disch := (first | assumption | (apply Ne.symm; assumption))) only [vw0, vw1, vw2, vw3, vw4, vu0, vu1, ↓condV_t, ↓condV_f, cap_nil, allocV, splice, partV, buildV, eqFieldsV, eqS, tabs, TK.agg, reduceCtorEq, Array.toList, List.map_cons, List.map_nil, ↓reduceIte, List.length_map, Nat.reduceAdd, Nat.reduceLeDiff, Nat.reduceLT, Nat.reduceMul, Nat.reduceSub, Option.bind_some, Option.map_some, bndV, numV, eI, eU, e8, eB, AV.isCell, Int.reduceToNat, Int.reduceSub, Int.reduceAdd, Int.reduceNeg])
  refine fun h1 => ?_
  have hl : f.length ≤ 1048576 := by
    unfold szR at h1
    split at h1 <;> omega
  refine Pu.use (toSaidS_spec f hl) ?_
  refine Pu.use (AutoFor_pu f hl) ?_
  have hres := afR_sm f
  have hI : ∀ {H : Heap} {K : AV → Heap → Prop}, (∀ v G D, LAu (afR f).1 v G D → New H G D → K (.tup [v, B (afR f).2]) G) → CallT Try.prog 32 [Ds f] H K := AutoFor_impl f hl
  generalize (afR f).1 = o at hres hI
  generalize (afR f).2 = ok at hI
  (try simp (maxSteps := 1000000) (disch := (first | assumption | (apply Ne.symm; assumption))) only [vw0, vw1, vw2, vw3, vw4, vu0, vu1, ↓condV_t, ↓condV_f, cap_nil, allocV, splice, partV, buildV, eqFieldsV, eqS, tabs, TK.agg, reduceCtorEq, Array.toList, List.map_cons, List.map_nil, ↓reduceIte, List.length_map, Nat.reduceAdd, Nat.reduceLeDiff, Nat.reduceLT, Nat.reduceMul, Nat.reduceSub, Option.bind_some, Option.map_some, bndV, numV, eI, eU, e8, eB, AV.isCell, Int.reduceToNat, Int.reduceSub, Int.reduceAdd, Int.reduceNeg])
  intro w hw
  have st := (St.nil H).cell hw [I o.states, Is o.first, Es o.edges, Ls o.goals]
  generalize H.set w [I o.states, Is o.first, Es o.edges, Ls o.goals] = G at st ⊢
  clear hw
  refine toSaidS_live f hl fun va G1 Da la na => ?_
  obtain ⟨qx, rfl, hqx, rfl⟩ := LD_row la
  replace st := st.push (cellT qx (cD f)) na hqx
  clear la na hqx
  refine thawAu hI (wkD (st.get 0 rfl) (fun v => .tup [v]) (fun h => .tup (.cons h .nil))) fun v G1 D lo no => ?_
  replace st := st.push (auT o v D) no lo
  obtain ⟨o1, o2, o3, rfl⟩ := aAu_cells lo
  clear lo no
  (try simp (maxSteps := 1000000) (disch := (first | assumption | (apply Ne.symm; assumption))) only [vw0, vw1, vw2, vw3, vw4, vu0, vu1, ↓condV_t, ↓condV_f, cap_nil, allocV, splice, partV, buildV, eqFieldsV, eqS, tabs, TK.agg, reduceCtorEq, Array.toList, List.map_cons, List.map_nil, ↓reduceIte, List.length_map, Nat.reduceAdd, Nat.reduceLeDiff, Nat.reduceLT, Nat.reduceMul, Nat.reduceSub, Option.bind_some, Option.map_some, bndV, numV, eI, eU, e8, eB, AV.isCell, Int.reduceToNat, Int.reduceSub, Int.reduceAdd, Int.reduceNeg])
  intro z hz
  replace st := st.cell hz [I o.states, .sl o1 1 0 o.first.length, .sl o2 3 0 o.edges.length, .sl o3 1 0 o.goals.length]
  (try simp (maxSteps := 1000000) (disch := (first | assumption | (apply Ne.symm; assumption))) only [vw0, vw1, vw2, vw3, vw4, vu0, vu1, ↓condV_t, ↓condV_f, cap_nil, allocV, splice, partV, buildV, eqFieldsV, eqS, tabs, TK.agg, reduceCtorEq, Array.toList, List.map_cons, List.map_nil, ↓reduceIte, List.length_map, Nat.reduceAdd, Nat.reduceLeDiff, Nat.reduceLT, Nat.reduceMul, Nat.reduceSub, Option.bind_some, Option.map_some, bndV, numV, eI, eU, e8, eB, AV.isCell, Int.reduceToNat, Int.reduceSub, Int.reduceAdd, Int.reduceNeg, load_at (st.get 3 rfl)])
  generalize G1.set z [I o.states, .sl o1 1 0 o.first.length, .sl o2 3 0 o.edges.length, .sl o3 1 0 o.goals.length] = G2 at st ⊢
  refine LAu.eq (st.get 1 rfl) (st.ndT 1 rfl) hres.1 ?_
  (try simp (maxSteps := 1000000) (disch := (first | assumption | (apply Ne.symm; assumption))) only [vw0, vw1, vw2, vw3, vw4, vu0, vu1, ↓condV_t, ↓condV_f, cap_nil, allocV, splice, partV, buildV, eqFieldsV, eqS, tabs, TK.agg, reduceCtorEq, Array.toList, List.map_cons, List.map_nil, ↓reduceIte, List.length_map, Nat.reduceAdd, Nat.reduceLeDiff, Nat.reduceLT, Nat.reduceMul, Nat.reduceSub, Option.bind_some, Option.map_some, bndV, numV, eI, eU, e8, eB, AV.isCell, Int.reduceToNat, Int.reduceSub, Int.reduceAdd, Int.reduceNeg])
  refine Pu.use (toSaidS_spec f hl) ?_
  refine eqD_row (st.get 2 rfl) hl ?_
  (try simp (maxSteps := 1000000) (disch := (first | assumption | (apply Ne.symm; assumption))) only [vw0, vw1, vw2, vw3, vw4, vu0, vu1, ↓condV_t, ↓condV_f, cap_nil, allocV, splice, partV, buildV, eqFieldsV, eqS, tabs, TK.agg, reduceCtorEq, Array.toList, List.map_cons, List.map_nil, ↓reduceIte, List.length_map, Nat.reduceAdd, Nat.reduceLeDiff, Nat.reduceLT, Nat.reduceMul, Nat.reduceSub, Option.bind_some, Option.map_some, bndV, numV, eI, eU, e8, eB, AV.isCell, Int.reduceToNat, Int.reduceSub, Int.reduceAdd, Int.reduceNeg])
  refine markSaidS_row f hl (by omega) (by omega) (st.get 2 rfl) ?_
  replace st := st.put 2 rfl (cD (markD 1 f.length))
  generalize G2.set qx (cD (markD 1 f.length)) = G3 at st ⊢
  (try simp (maxSteps := 1000000) (disch := (first | assumption | (apply Ne.symm; assumption))) only [vw0, vw1, vw2, vw3, vw4, vu0, vu1, ↓condV_t, ↓condV_f, cap_nil, allocV, splice, partV, buildV, eqFieldsV, eqS, tabs, TK.agg, reduceCtorEq, Array.toList, List.map_cons, List.map_nil, ↓reduceIte, List.length_map, Nat.reduceAdd, Nat.reduceLeDiff, Nat.reduceLT, Nat.reduceMul, Nat.reduceSub, Option.bind_some, Option.map_some, bndV, numV, eI, eU, e8, eB, AV.isCell, Int.reduceToNat, Int.reduceSub, Int.reduceAdd, Int.reduceNeg])
  refine ⟨fun h => by omega, fun _ => ?_⟩
  (try simp (maxSteps := 1000000) (disch := (first | assumption | (apply Ne.symm; assumption))) only [vw0, vw1, vw2, vw3, vw4, vu0, vu1, ↓condV_t, ↓condV_f, cap_nil, allocV, splice, partV, buildV, eqFieldsV, eqS, tabs, TK.agg, reduceCtorEq, Array.toList, List.map_cons, List.map_nil, ↓reduceIte, List.length_map, Nat.reduceAdd, Nat.reduceLeDiff, Nat.reduceLT, Nat.reduceMul, Nat.reduceSub, Option.bind_some, Option.map_some, bndV, numV, eI, eU, e8, eB, AV.isCell, Int.reduceToNat, Int.reduceSub, Int.reduceAdd, Int.reduceNeg, load_at (st.get 0 rfl), load_at (st.get 3 rfl)])
  refine LAu.eq (st.get 1 rfl) (st.ndT 1 rfl) hres.1 ?_
  (try simp (maxSteps := 1000000) (disch := (first | assumption | (apply Ne.symm; assumption))) only [vw0, vw1, vw2, vw3, vw4, vu0, vu1, ↓condV_t, ↓condV_f, cap_nil, allocV, splice, partV, buildV, eqFieldsV, eqS, tabs, TK.agg, reduceCtorEq, Array.toList, List.map_cons, List.map_nil, ↓reduceIte, List.length_map, Nat.reduceAdd, Nat.reduceLeDiff, Nat.reduceLT, Nat.reduceMul, Nat.reduceSub, Option.bind_some, Option.map_some, bndV, numV, eI, eU, e8, eB, AV.isCell, Int.reduceToNat, Int.reduceSub, Int.reduceAdd, Int.reduceNeg, load_at (st.get 0 rfl)])
  refine markAuto_live o (by omega) (st.get 1 rfl) (st.ndT 1 rfl) (by omega) (by omega) fun G4 ho hf => ?_
  replace st := st.upd 1 rfl (auT (mkAu 1 o) _ D) rfl hf ho
  clear ho hf
  (try simp (maxSteps := 1000000) (disch := (first | assumption | (apply Ne.symm; assumption))) only [vw0, vw1, vw2, vw3, vw4, vu0, vu1, ↓condV_t, ↓condV_f, cap_nil, allocV, splice, partV, buildV, eqFieldsV, eqS, tabs, TK.agg, reduceCtorEq, Array.toList, List.map_cons, List.map_nil, ↓reduceIte, List.length_map, Nat.reduceAdd, Nat.reduceLeDiff, Nat.reduceLT, Nat.reduceMul, Nat.reduceSub, Option.bind_some, Option.map_some, bndV, numV, eI, eU, e8, eB, AV.isCell, Int.reduceToNat, Int.reduceSub, Int.reduceAdd, Int.reduceNeg, load_at (st.get 0 rfl)])
  refine LAu.held (st.get 1 rfl) (st.ndT 1 rfl) (by omega) ?_
  have mo := totM_le o
  (try simp (maxSteps := 1000000) (disch := (first | assumption | (apply Ne.symm; assumption))) only [vw0, vw1, vw2, vw3, vw4, vu0, vu1, ↓condV_t, ↓condV_f, cap_nil, allocV, splice, partV, buildV, eqFieldsV, eqS, tabs, TK.agg, reduceCtorEq, Array.toList, List.map_cons, List.map_nil, ↓reduceIte, List.length_map, Nat.reduceAdd, Nat.reduceLeDiff, Nat.reduceLT, Nat.reduceMul, Nat.reduceSub, Option.bind_some, Option.map_some, bndV, numV, eI, eU, e8, eB, AV.isCell, Int.reduceToNat, Int.reduceSub, Int.reduceAdd, Int.reduceNeg])
  refine ⟨fun h => by omega, fun _ => ?_⟩
  refine Pu.use (toSaidS_spec f hl) ?_
  refine hI fun v G5 E le ne => ?_
  replace st := st.push (auT o v E) ne le
  obtain ⟨u1, u2, u3, rfl⟩ := aAu_cells le
  clear le ne
  (try simp (maxSteps := 1000000) (disch := (first | assumption | (apply Ne.symm; assumption))) only [vw0, vw1, vw2, vw3, vw4, vu0, vu1, ↓condV_t, ↓condV_f, cap_nil, allocV, splice, partV, buildV, eqFieldsV, eqS, tabs, TK.agg, reduceCtorEq, Array.toList, List.map_cons, List.map_nil, ↓reduceIte, List.length_map, Nat.reduceAdd, Nat.reduceLeDiff, Nat.reduceLT, Nat.reduceMul, Nat.reduceSub, Option.bind_some, Option.map_some, bndV, numV, eI, eU, e8, eB, AV.isCell, Int.reduceToNat, Int.reduceSub, Int.reduceAdd, Int.reduceNeg])
  intro u hu
  replace st := st.cell hu [I o.states, .sl u1 1 0 o.first.length, .sl u2 3 0 o.edges.length, .sl u3 1 0 o.goals.length]
  (try simp (maxSteps := 1000000) (disch := (first | assumption | (apply Ne.symm; assumption))) only [vw0, vw1, vw2, vw3, vw4, vu0, vu1, ↓condV_t, ↓condV_f, cap_nil, allocV, splice, partV, buildV, eqFieldsV, eqS, tabs, TK.agg, reduceCtorEq, Array.toList, List.map_cons, List.map_nil, ↓reduceIte, List.length_map, Nat.reduceAdd, Nat.reduceLeDiff, Nat.reduceLT, Nat.reduceMul, Nat.reduceSub, Option.bind_some, Option.map_some, bndV, numV, eI, eU, e8, eB, AV.isCell, Int.reduceToNat, Int.reduceSub, Int.reduceAdd, Int.reduceNeg, load_at (st.get 5 rfl)])
  generalize G5.set u [I o.states, .sl u1 1 0 o.first.length, .sl u2 3 0 o.edges.length, .sl u3 1 0 o.goals.length] = G6 at st ⊢
  refine LAu.eq (st.get 1 rfl) (st.ndT 1 rfl) hres.1 ?_
  (try simp (maxSteps := 1000000) (disch := (first | assumption | (apply Ne.symm; assumption))) only [vw0, vw1, vw2, vw3, vw4, vu0, vu1, ↓condV_t, ↓condV_f, cap_nil, allocV, splice, partV, buildV, eqFieldsV, eqS, tabs, TK.agg, reduceCtorEq, Array.toList, List.map_cons, List.map_nil, ↓reduceIte, List.length_map, Nat.reduceAdd, Nat.reduceLeDiff, Nat.reduceLT, Nat.reduceMul, Nat.reduceSub, Option.bind_some, Option.map_some, bndV, numV, eI, eU, e8, eB, AV.isCell, Int.reduceToNat, Int.reduceSub, Int.reduceAdd, Int.reduceNeg, load_at (st.get 2 rfl)])
  refine LAu.held (st.get 3 rfl) (st.ndT 3 rfl) (by omega) ?_
  (try simp (maxSteps := 1000000) (disch := (first | assumption | (apply Ne.symm; assumption))) only [vw0, vw1, vw2, vw3, vw4, vu0, vu1, ↓condV_t, ↓condV_f, cap_nil, allocV, splice, partV, buildV, eqFieldsV, eqS, tabs, TK.agg, reduceCtorEq, Array.toList, List.map_cons, List.map_nil, ↓reduceIte, List.length_map, Nat.reduceAdd, Nat.reduceLeDiff, Nat.reduceLT, Nat.reduceMul, Nat.reduceSub, Option.bind_some, Option.map_some, bndV, numV, eI, eU, e8, eB, AV.isCell, Int.reduceToNat, Int.reduceSub, Int.reduceAdd, Int.reduceNeg])
  exact ⟨fun h => by omega, fun _ => st.le⟩
end Go.Proofs.Ytoeabliackaibaa
