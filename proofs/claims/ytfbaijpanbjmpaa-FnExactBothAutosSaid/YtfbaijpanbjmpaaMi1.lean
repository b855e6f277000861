/- Specs: the product of two automata, by the program. -/
import Derived.Test.YtfbaijpanbjmpaaMi0
import Derived.Test.YtfbaijpanbjmpaaMb1
namespace Go.Proofs.Ytfbaijpanbjmpaa
open Go Go.Sep Go.Pt
set_option linter.unusedSimpArgs false
set_option linter.unusedVariables false
attribute [local irreducible] CallT

def boGa (a b : Au) (n : Nat) : List (List Int) := (a.goals.take n).map fun g => prs g (below b.states.toNat) b.states
def boGb (a b : Au) (n : Nat) : List (List Int) := (b.goals.take n).map fun g => prs (below a.states.toNat) g b.states
def boT (a b : Au) : Au := ⟨a.states * b.states, prs a.first b.first b.states, sAll a b (a.states * b.states).toNat, boGa a b a.goals.length ++ boGb a b b.goals.length⟩
theorem boGa_succ (a b : Au) {n : Nat} (h : n < a.goals.length) : boGa a b (n + 1) = boGa a b n ++ [prs (a.goals.getD n default) (below b.states.toNat) b.states] := by
  unfold boGa; rw [take_succ_snoc h, List.map_append]; rfl
theorem boGb_succ (a b : Au) {n : Nat} (h : n < b.goals.length) : boGb a b (n + 1) = boGb a b n ++ [prs (below a.states.toNat) (b.goals.getD n default) b.states] := by
  unfold boGb; rw [take_succ_snoc h, List.map_append]; rfl
theorem boGa_len (a b : Au) (n : Nat) : (boGa a b n).length ≤ n := by unfold boGa; rw [List.length_map, List.length_take]; omega
theorem boGb_len (a b : Au) (n : Nat) : (boGb a b n).length ≤ n := by unfold boGb; rw [List.length_map, List.length_take]; omega
abbrev bTs (a b : Au) (r2 r3 r4 r5 z1 z2 z3 : Nat) (x y w : AV) (l : List Int) (es : List Ed) (gs : List (List Int)) (D1 D2 D3 : List Nat) : List Th :=
  [cellT r5 [I (a.states * b.states), x, y, w], cellT r4 [I 0, .p .nil, .p .nil, .p .nil], cellT r3 [I b.states, Is b.first, Es b.edges, Ls b.goals], cellT r2 [I a.states, Is a.first, Es a.edges, Ls a.goals], riT z1 x l D1, reT z2 y es D2, rgT z3 w gs D3]
theorem below_take (n : Nat) {i : Nat} (h : i ≤ n) : (below n).take i = below i := by
  unfold below
  rw [← List.map_take, List.take_range, Nat.min_eq_left h]
theorem below_get {n i : Nat} (h : i < n) : (below n).getD i default = (i : Int) := by
  unfold below; simp [List.getD, h]
theorem both_st7 {a b : Au} (fa : GoodF a) (fb : GoodF b) {r2 r3 r4 r5 z1 z2 z3 : Nat} {x y w : AV} {l : List Int} {es : List Ed} {gs : List (List Int)} {D1 D2 D3 : List Nat} {H G : Heap} {K : AV → Heap → Prop} (st : St H (bTs a b r2 r3 r4 r5 z1 z2 z3 x y w l es gs D1 D2 D3) G) (hgs : gs.length ≤ 10)
    (h : ∀ v G D, LAu ⟨a.states * b.states, l, es, gs ++ boGb a b b.goals.length⟩ v G D → New H G D → K v G) :
    L74_7 (wkK K) (.ptr r2 0) (.ptr r3 0) (.ptr r4 0) (.ptr r5 0) (Ls b.goals) (I b.goals.length) (I 0) G := by
  have hgl := fb.gl
  have hsa := fa.st
  have hsb := fb.st
  refine L74_7_rule ((0 : Nat), w, D3, G) (fun s => I s.1) (fun s => s.2.2.2) (fun s => s.1 ≤ b.goals.length ∧ St H (bTs a b r2 r3 r4 r5 z1 z2 z3 x y s.2.1 l es (gs ++ boGb a b s.1) D1 D2 s.2.2.1) s.2.2.2) (fun s => b.goals.length - s.1)
    ⟨⟨by simp, by simpa [boGb] using st⟩, .refl _, Heap.le_refl _⟩ ?_
  clear st w D3
  rintro ⟨k, w, D3, G⟩ ⟨hk, st⟩
  dsimp only at hk st
  have hgb := boGb_len a b k
  (try simp (maxSteps := 1000000) (disch := (first | assumption | (apply Ne.symm; assumption))) only [vw0, vw1, vw2, vw3, vw4, vu0, vu1, ↓condV_t, ↓condV_f, cap_nil, allocV, splice, partV, buildV, eqFieldsV, eqS, tabs, TK.agg, reduceCtorEq, Array.toList, List.map_cons, List.map_nil, ↓reduceIte, List.length_map, Nat.reduceAdd, Nat.reduceLeDiff, Nat.reduceLT, Nat.reduceMul, Nat.reduceSub, Option.bind_some, Option.map_some, bndV, numV, eI, eU, e8, eB, AV.isCell, Int.reduceToNat, Int.reduceSub, Int.reduceAdd, Int.reduceNeg, B74_7])
  refine ⟨fun h1 => ⟨by omega, h1, ?_⟩, fun h1 => ?_⟩
  · have hltk : k < b.goals.length := by omega
    have hgk := getD_all (p := fun x => smI x ∧ x.length ≤ 96) (d := default) fb.gi hltk
    have hsucc := boGb_succ a b hltk
    generalize b.goals.getD k default = gk at hgk hsucc ⊢
    refine lit0I fun q0 hq0 => ?_
    replace st := st.cell hq0 (cP fI [])
    generalize G.set q0 (cP fI []) = G1 at st ⊢
    (try simp (maxSteps := 1000000) (disch := (first | assumption | (apply Ne.symm; assumption))) only [vw0, vw1, vw2, vw3, vw4, vu0, vu1, ↓condV_t, ↓condV_f, cap_nil, allocV, splice, partV, buildV, eqFieldsV, eqS, tabs, TK.agg, reduceCtorEq, Array.toList, List.map_cons, List.map_nil, ↓reduceIte, List.length_map, Nat.reduceAdd, Nat.reduceLeDiff, Nat.reduceLT, Nat.reduceMul, Nat.reduceSub, Option.bind_some, Option.map_some, bndV, numV, eI, eU, e8, eB, AV.isCell, Int.reduceToNat, Int.reduceSub, Int.reduceAdd, Int.reduceNeg, load_at (st.get 4 rfl)])
    refine L74_8_rule ((0 : Nat), q0, G1) (fun s => rowP s.2.1 (prs (below s.1) gk b.states)) (fun s => I s.1) (fun s => s.2.2)
      (fun s => s.1 ≤ a.states.toNat ∧ St H (cellT s.2.1 (cP fI (prs (below s.1) gk b.states)) :: bTs a b r2 r3 r4 r5 z1 z2 z3 x y w l es (gs ++ boGb a b k) D1 D2 D3) s.2.2) (fun s => a.states.toNat - s.1)
      ⟨⟨by simp, by simpa [below, prs] using st⟩, by simp [below, prs]; exact .refl _, .refl _, Heap.le_refl _⟩ ?_
    clear st
    rintro ⟨i, q, G⟩ ⟨hi, st⟩
    dsimp only at hi st
    have hpl := prs_len (below i) gk b.states
    rw [below_len] at hpl
    have hml : i * gk.length ≤ 96 * 96 := Nat.mul_le_mul (by omega) hgk.2
    (try simp (maxSteps := 1000000) (disch := (first | assumption | (apply Ne.symm; assumption))) only [vw0, vw1, vw2, vw3, vw4, vu0, vu1, ↓condV_t, ↓condV_f, cap_nil, allocV, splice, partV, buildV, eqFieldsV, eqS, tabs, TK.agg, reduceCtorEq, Array.toList, List.map_cons, List.map_nil, ↓reduceIte, List.length_map, Nat.reduceAdd, Nat.reduceLeDiff, Nat.reduceLT, Nat.reduceMul, Nat.reduceSub, Option.bind_some, Option.map_some, bndV, numV, eI, eU, e8, eB, AV.isCell, Int.reduceToNat, Int.reduceSub, Int.reduceAdd, Int.reduceNeg, B74_8])
    refine ⟨fun h2 => ?_, fun h2 => ?_⟩
    · have hlti : i < a.states.toNat := by omega
      have hps : prs (below (i + 1)) gk b.states = prs (below i) gk b.states ++ gk.map fun j => (i : Int) * b.states + j := by
        have := prs_succ (below (i + 1)) gk b.states (i := i) (by rw [below_len]; omega)
        rw [below_take _ (Nat.le_succ i), below_get (Nat.lt_succ_self i)] at this
        rw [← this, List.take_of_length_le (by rw [below_len]; omega)]
      refine L74_9_rule ((0 : Nat), q, G) (fun s => rowP s.2.1 (prs (below i) gk b.states ++ (gk.take s.1).map fun j => (i : Int) * b.states + j)) (fun s => I s.1) (fun s => s.2.2)
        (fun s => s.1 ≤ gk.length ∧ St H (cellT s.2.1 (cP fI (prs (below i) gk b.states ++ (gk.take s.1).map fun j => (i : Int) * b.states + j)) :: bTs a b r2 r3 r4 r5 z1 z2 z3 x y w l es (gs ++ boGb a b k) D1 D2 D3) s.2.2) (fun s => gk.length - s.1)
        ⟨⟨by simp, by simpa using st⟩, by simp; exact .refl _, .refl _, Heap.le_refl _⟩ ?_
      clear st
      rintro ⟨j, q, G⟩ ⟨hj, st⟩
      dsimp only at hj st
      (try simp (maxSteps := 1000000) (disch := (first | assumption | (apply Ne.symm; assumption))) only [vw0, vw1, vw2, vw3, vw4, vu0, vu1, ↓condV_t, ↓condV_f, cap_nil, allocV, splice, partV, buildV, eqFieldsV, eqS, tabs, TK.agg, reduceCtorEq, Array.toList, List.map_cons, List.map_nil, ↓reduceIte, List.length_map, Nat.reduceAdd, Nat.reduceLeDiff, Nat.reduceLT, Nat.reduceMul, Nat.reduceSub, Option.bind_some, Option.map_some, bndV, numV, eI, eU, e8, eB, AV.isCell, Int.reduceToNat, Int.reduceSub, Int.reduceAdd, Int.reduceNeg, B74_9, load_at (st.get 3 rfl)])
      refine ⟨fun h3 => ⟨by omega, h3, ?_⟩, fun h3 => ?_⟩
      · have hltj : j < gk.length := by omega
        have hx := getD_all (p := fun x => 0 ≤ x ∧ x ≤ 100000) (d := default) hgk.1.2 hltj
        have ht : (gk.take (j + 1)).map (fun j => (i : Int) * b.states + j) = (gk.take j).map (fun j => (i : Int) * b.states + j) ++ [(i : Int) * b.states + gk.getD j default] := by
          rw [take_succ_snoc hltj, List.map_append]; rfl
        have hlt : ((gk.take j).map fun j => (i : Int) * b.states + j).length ≤ 96 := by rw [List.length_map, List.length_take]; omega
        generalize gk.getD j default = e at hx ht ⊢
        have m1 := mul_bd (a := i) (A := 96) (b := b.states) (B := 96) (by omega) (by omega)
        have e1 : IntKind.i64.wrap ((i : Int) * b.states) = (i : Int) * b.states := i64_id (by omega) (by omega)
        have e2 : IntKind.i64.wrap ((i : Int) * b.states + e) = (i : Int) * b.states + e := i64_id (by omega) (by omega)
        have e3 : IntKind.i64.wrap ((j : Int) + 1) = ((j + 1 : Nat) : Int) := by rw [i64_id (by omega) (by omega)]; simp
        (try simp (maxSteps := 1000000) (disch := (first | assumption | (apply Ne.symm; assumption))) only [vw0, vw1, vw2, vw3, vw4, vu0, vu1, ↓condV_t, ↓condV_f, cap_nil, allocV, splice, partV, buildV, eqFieldsV, eqS, tabs, TK.agg, reduceCtorEq, Array.toList, List.map_cons, List.map_nil, ↓reduceIte, List.length_map, Nat.reduceAdd, Nat.reduceLeDiff, Nat.reduceLT, Nat.reduceMul, Nat.reduceSub, Option.bind_some, Option.map_some, bndV, numV, eI, eU, e8, eB, AV.isCell, Int.reduceToNat, Int.reduceSub, Int.reduceAdd, Int.reduceNeg, e1, e2, e3])
        refine lit1 tab_22 rfl tab_3 ⟨rfl, rfl⟩ ?_
        refine st_appI (ys := [(i : Int) * b.states + e]) st 0 rfl (by rw [List.length_append]; simp only [List.length_singleton]; omega) fun q' G' hq' st => ?_
        rw [List.append_assoc, ← ht] at st ⊢
        exact ⟨(j + 1, q', G'), ⟨by simp only; omega, st⟩, by simp only; omega, .refl _, .refl _, Heap.le_refl _⟩
      · have : j = gk.length := by omega
        subst this
        rw [List.take_length, ← hps] at st ⊢
        have e3 : IntKind.i64.wrap ((i : Int) + 1) = ((i + 1 : Nat) : Int) := by rw [i64_id (by omega) (by omega)]; simp
        (try simp (maxSteps := 1000000) (disch := (first | assumption | (apply Ne.symm; assumption))) only [vw0, vw1, vw2, vw3, vw4, vu0, vu1, ↓condV_t, ↓condV_f, cap_nil, allocV, splice, partV, buildV, eqFieldsV, eqS, tabs, TK.agg, reduceCtorEq, Array.toList, List.map_cons, List.map_nil, ↓reduceIte, List.length_map, Nat.reduceAdd, Nat.reduceLeDiff, Nat.reduceLT, Nat.reduceMul, Nat.reduceSub, Option.bind_some, Option.map_some, bndV, numV, eI, eU, e8, eB, AV.isCell, Int.reduceToNat, Int.reduceSub, Int.reduceAdd, Int.reduceNeg, e3])
        exact ⟨(i + 1, q, G), ⟨by simp only; omega, st⟩, by simp only; omega, .refl _, .refl _, Heap.le_refl _⟩
    · have : i = a.states.toNat := by omega
      subst this
      have e3 : IntKind.i64.wrap ((k : Int) + 1) = ((k + 1 : Nat) : Int) := by rw [i64_id (by omega) (by omega)]; simp
      (try simp (maxSteps := 1000000) (disch := (first | assumption | (apply Ne.symm; assumption))) only [vw0, vw1, vw2, vw3, vw4, vu0, vu1, ↓condV_t, ↓condV_f, cap_nil, allocV, splice, partV, buildV, eqFieldsV, eqS, tabs, TK.agg, reduceCtorEq, Array.toList, List.map_cons, List.map_nil, ↓reduceIte, List.length_map, Nat.reduceAdd, Nat.reduceLeDiff, Nat.reduceLT, Nat.reduceMul, Nat.reduceSub, Option.bind_some, Option.map_some, bndV, numV, eI, eU, e8, eB, AV.isCell, Int.reduceToNat, Int.reduceSub, Int.reduceAdd, Int.reduceNeg, load_at (st.get 1 rfl), e3])
      refine lit_live1 fun ql hql => ?_
      replace st := st.cell hql [rowP q (prs (below a.states.toNat) gk b.states)]
      generalize G.set ql [.sl q 1 0 (prs (below a.states.toNat) gk b.states).length] = G4 at st ⊢
      (try simp (maxSteps := 1000000) (disch := (first | assumption | (apply Ne.symm; assumption))) only [vw0, vw1, vw2, vw3, vw4, vu0, vu1, ↓condV_t, ↓condV_f, cap_nil, allocV, splice, partV, buildV, eqFieldsV, eqS, tabs, TK.agg, reduceCtorEq, Array.toList, List.map_cons, List.map_nil, ↓reduceIte, List.length_map, Nat.reduceAdd, Nat.reduceLeDiff, Nat.reduceLT, Nat.reduceMul, Nat.reduceSub, Option.bind_some, Option.map_some, bndV, numV, eI, eU, e8, eB, AV.isCell, Int.reduceToNat, Int.reduceSub, Int.reduceAdd, Int.reduceNeg, load_at (st.get 2 rfl)])
      refine rz_pushL st 6 rfl (by rw [List.length_append]; omega) fun q' D' G5 hq' st => ?_
      rw [List.append_assoc, ← hsucc] at st
      (try simp (maxSteps := 1000000) (disch := (first | assumption | (apply Ne.symm; assumption))) only [vw0, vw1, vw2, vw3, vw4, vu0, vu1, ↓condV_t, ↓condV_f, cap_nil, allocV, splice, partV, buildV, eqFieldsV, eqS, tabs, TK.agg, reduceCtorEq, Array.toList, List.map_cons, List.map_nil, ↓reduceIte, List.length_map, Nat.reduceAdd, Nat.reduceLeDiff, Nat.reduceLT, Nat.reduceMul, Nat.reduceSub, Option.bind_some, Option.map_some, bndV, numV, eI, eU, e8, eB, AV.isCell, Int.reduceToNat, Int.reduceSub, Int.reduceAdd, Int.reduceNeg, store_at (st.get 0 rfl)])
      exact ⟨(k + 1, _, D', _), ⟨by simp only; omega, st.put 0 rfl [I (a.states * b.states), x, y, .sl q' 1 0 ((gs ++ boGb a b k).length + 1)]⟩, by simp only; omega, .refl _, by first | exact Heap.le_refl _ | (rw [List.length_append]; exact Heap.le_refl _)⟩
  · have : k = b.goals.length := by omega
    subst this
    have hx := RZ.sl (st.get 4 rfl : RZ (LPl eI) 1 z1 x l G D1)
    have hy := RZ.sl (st.get 5 rfl : RZ (LPl eE) 3 z2 y es G D2)
    have hw := RZ.sl (st.get 6 rfl : RZ LIc 1 z3 w _ G D3)
    (try simp (maxSteps := 1000000) (disch := (first | assumption | (apply Ne.symm; assumption))) only [vw0, vw1, vw2, vw3, vw4, vu0, vu1, ↓condV_t, ↓condV_f, cap_nil, allocV, splice, partV, buildV, eqFieldsV, eqS, tabs, TK.agg, reduceCtorEq, Array.toList, List.map_cons, List.map_nil, ↓reduceIte, List.length_map, Nat.reduceAdd, Nat.reduceLeDiff, Nat.reduceLT, Nat.reduceMul, Nat.reduceSub, Option.bind_some, Option.map_some, bndV, numV, eI, eU, e8, eB, AV.isCell, Int.reduceToNat, Int.reduceSub, Int.reduceAdd, Int.reduceNeg, load_at (st.get 0 rfl), store_at (st.get 1 rfl)])
    replace st := st.put 1 rfl [I (a.states * b.states), x, y, w]
    obtain ⟨x', y', w', hw', hl, hn⟩ := rz_auto (a.states * b.states) st 4 5 6 rfl rfl rfl (by decide) (by decide) (by decide)
    refine ⟨by rcases hx with rfl | ⟨q, rfl⟩ <;> rcases hy with rfl | ⟨q, rfl⟩ <;> rcases hw with rfl | ⟨q, rfl⟩ <;> rfl, ?_⟩
    exact ⟨_, _, .val hw', h _ _ _ hl hn⟩
theorem both_st4 {a b : Au} (fa : GoodF a) (fb : GoodF b) {r2 r3 r4 r5 z1 z2 z3 : Nat} {x y w : AV} {l : List Int} {es : List Ed} {D1 D2 D3 : List Nat} {H G : Heap} {K : AV → Heap → Prop} (st : St H (bTs a b r2 r3 r4 r5 z1 z2 z3 x y w l es [] D1 D2 D3) G)
    (h : ∀ v G D, LAu ⟨a.states * b.states, l, es, boGa a b a.goals.length ++ boGb a b b.goals.length⟩ v G D → New H G D → K v G) :
    L74_4 (wkK K) (.ptr r2 0) (.ptr r3 0) (.ptr r4 0) (.ptr r5 0) (Ls a.goals) (I a.goals.length) (I 0) G := by
  have hgl := fa.gl
  have hsa := fa.st
  have hsb := fb.st
  refine L74_4_rule ((0 : Nat), w, D3, G) (fun s => I s.1) (fun s => s.2.2.2) (fun s => s.1 ≤ a.goals.length ∧ St H (bTs a b r2 r3 r4 r5 z1 z2 z3 x y s.2.1 l es (boGa a b s.1) D1 D2 s.2.2.1) s.2.2.2) (fun s => a.goals.length - s.1)
    ⟨⟨by simp, by simpa [boGa] using st⟩, .refl _, Heap.le_refl _⟩ ?_
  clear st w D3
  rintro ⟨k, w, D3, G⟩ ⟨hk, st⟩
  dsimp only at hk st
  have hgb := boGa_len a b k
  (try simp (maxSteps := 1000000) (disch := (first | assumption | (apply Ne.symm; assumption))) only [vw0, vw1, vw2, vw3, vw4, vu0, vu1, ↓condV_t, ↓condV_f, cap_nil, allocV, splice, partV, buildV, eqFieldsV, eqS, tabs, TK.agg, reduceCtorEq, Array.toList, List.map_cons, List.map_nil, ↓reduceIte, List.length_map, Nat.reduceAdd, Nat.reduceLeDiff, Nat.reduceLT, Nat.reduceMul, Nat.reduceSub, Option.bind_some, Option.map_some, bndV, numV, eI, eU, e8, eB, AV.isCell, Int.reduceToNat, Int.reduceSub, Int.reduceAdd, Int.reduceNeg, B74_4])
  refine ⟨fun h1 => ⟨by omega, h1, ?_⟩, fun h1 => ?_⟩
  · have hltk : k < a.goals.length := by omega
    have hgk := getD_all (p := fun x => smI x ∧ x.length ≤ 96) (d := default) fa.gi hltk
    have hsucc := boGa_succ a b hltk
    generalize a.goals.getD k default = gk at hgk hsucc ⊢
    refine lit0I fun q0 hq0 => ?_
    replace st := st.cell hq0 (cP fI [])
    generalize G.set q0 (cP fI []) = G1 at st ⊢
    (try simp (maxSteps := 1000000) (disch := (first | assumption | (apply Ne.symm; assumption))) only [vw0, vw1, vw2, vw3, vw4, vu0, vu1, ↓condV_t, ↓condV_f, cap_nil, allocV, splice, partV, buildV, eqFieldsV, eqS, tabs, TK.agg, reduceCtorEq, Array.toList, List.map_cons, List.map_nil, ↓reduceIte, List.length_map, Nat.reduceAdd, Nat.reduceLeDiff, Nat.reduceLT, Nat.reduceMul, Nat.reduceSub, Option.bind_some, Option.map_some, bndV, numV, eI, eU, e8, eB, AV.isCell, Int.reduceToNat, Int.reduceSub, Int.reduceAdd, Int.reduceNeg])
    refine L74_5_rule ((0 : Nat), q0, G1) (fun s => rowP s.2.1 (prs (gk.take s.1) (below b.states.toNat) b.states)) (fun s => I s.1) (fun s => s.2.2)
      (fun s => s.1 ≤ gk.length ∧ St H (cellT s.2.1 (cP fI (prs (gk.take s.1) (below b.states.toNat) b.states)) :: bTs a b r2 r3 r4 r5 z1 z2 z3 x y w l es (boGa a b k) D1 D2 D3) s.2.2) (fun s => gk.length - s.1)
      ⟨⟨by simp, by simpa [prs] using st⟩, by simp [prs]; exact .refl _, .refl _, Heap.le_refl _⟩ ?_
    clear st
    rintro ⟨i, q, G⟩ ⟨hi, st⟩
    dsimp only at hi st
    have hpl := prs_len (gk.take i) (below b.states.toNat) b.states
    rw [below_len, List.length_take, Nat.min_eq_left hi] at hpl
    have hml : i * b.states.toNat ≤ 96 * 96 := Nat.mul_le_mul (by omega) (by omega)
    (try simp (maxSteps := 1000000) (disch := (first | assumption | (apply Ne.symm; assumption))) only [vw0, vw1, vw2, vw3, vw4, vu0, vu1, ↓condV_t, ↓condV_f, cap_nil, allocV, splice, partV, buildV, eqFieldsV, eqS, tabs, TK.agg, reduceCtorEq, Array.toList, List.map_cons, List.map_nil, ↓reduceIte, List.length_map, Nat.reduceAdd, Nat.reduceLeDiff, Nat.reduceLT, Nat.reduceMul, Nat.reduceSub, Option.bind_some, Option.map_some, bndV, numV, eI, eU, e8, eB, AV.isCell, Int.reduceToNat, Int.reduceSub, Int.reduceAdd, Int.reduceNeg, B74_5])
    refine ⟨fun h2 => ⟨by omega, h2, ?_⟩, fun h2 => ?_⟩
    · have hlti : i < gk.length := by omega
      have hps := prs_succ gk (below b.states.toNat) b.states hlti
      have hx := getD_all (p := fun x => 0 ≤ x ∧ x ≤ 100000) (d := default) hgk.1.2 hlti
      generalize gk.getD i default = e at hps hx ⊢
      (try simp (maxSteps := 1000000) (disch := (first | assumption | (apply Ne.symm; assumption))) only [vw0, vw1, vw2, vw3, vw4, vu0, vu1, ↓condV_t, ↓condV_f, cap_nil, allocV, splice, partV, buildV, eqFieldsV, eqS, tabs, TK.agg, reduceCtorEq, Array.toList, List.map_cons, List.map_nil, ↓reduceIte, List.length_map, Nat.reduceAdd, Nat.reduceLeDiff, Nat.reduceLT, Nat.reduceMul, Nat.reduceSub, Option.bind_some, Option.map_some, bndV, numV, eI, eU, e8, eB, AV.isCell, Int.reduceToNat, Int.reduceSub, Int.reduceAdd, Int.reduceNeg, load_at (st.get 3 rfl)])
      refine L74_6_rule ((0 : Nat), q, G) (fun s => rowP s.2.1 (prs (gk.take i) (below b.states.toNat) b.states ++ (below s.1).map fun j => e * b.states + j)) (fun s => I s.1) (fun s => s.2.2)
        (fun s => s.1 ≤ b.states.toNat ∧ St H (cellT s.2.1 (cP fI (prs (gk.take i) (below b.states.toNat) b.states ++ (below s.1).map fun j => e * b.states + j)) :: bTs a b r2 r3 r4 r5 z1 z2 z3 x y w l es (boGa a b k) D1 D2 D3) s.2.2) (fun s => b.states.toNat - s.1)
        ⟨⟨by simp, by simpa [below] using st⟩, by simp [below]; exact .refl _, .refl _, Heap.le_refl _⟩ ?_
      clear st
      rintro ⟨j, q, G⟩ ⟨hj, st⟩
      dsimp only at hj st
      (try simp (maxSteps := 1000000) (disch := (first | assumption | (apply Ne.symm; assumption))) only [vw0, vw1, vw2, vw3, vw4, vu0, vu1, ↓condV_t, ↓condV_f, cap_nil, allocV, splice, partV, buildV, eqFieldsV, eqS, tabs, TK.agg, reduceCtorEq, Array.toList, List.map_cons, List.map_nil, ↓reduceIte, List.length_map, Nat.reduceAdd, Nat.reduceLeDiff, Nat.reduceLT, Nat.reduceMul, Nat.reduceSub, Option.bind_some, Option.map_some, bndV, numV, eI, eU, e8, eB, AV.isCell, Int.reduceToNat, Int.reduceSub, Int.reduceAdd, Int.reduceNeg, B74_6, load_at (st.get 3 rfl)])
      refine ⟨fun h3 => ?_, fun h3 => ?_⟩
      · have ht : (below (j + 1)).map (fun j => e * b.states + j) = (below j).map (fun j => e * b.states + j) ++ [e * b.states + j] := by
          rw [below_succ, List.map_append]; rfl
        have hlt : ((below j).map fun j => e * b.states + j).length ≤ 96 := by rw [List.length_map, below_len]; omega
        have m1 := mul_bd (a := e) (A := 100000) (b := b.states) (B := 96) (by omega) (by omega)
        have e1 : IntKind.i64.wrap (e * b.states) = e * b.states := i64_id (by omega) (by omega)
        have e2 : IntKind.i64.wrap (e * b.states + j) = e * b.states + j := i64_id (by omega) (by omega)
        have e3 : IntKind.i64.wrap ((j : Int) + 1) = ((j + 1 : Nat) : Int) := by rw [i64_id (by omega) (by omega)]; simp
        (try simp (maxSteps := 1000000) (disch := (first | assumption | (apply Ne.symm; assumption))) only [vw0, vw1, vw2, vw3, vw4, vu0, vu1, ↓condV_t, ↓condV_f, cap_nil, allocV, splice, partV, buildV, eqFieldsV, eqS, tabs, TK.agg, reduceCtorEq, Array.toList, List.map_cons, List.map_nil, ↓reduceIte, List.length_map, Nat.reduceAdd, Nat.reduceLeDiff, Nat.reduceLT, Nat.reduceMul, Nat.reduceSub, Option.bind_some, Option.map_some, bndV, numV, eI, eU, e8, eB, AV.isCell, Int.reduceToNat, Int.reduceSub, Int.reduceAdd, Int.reduceNeg, e1, e2, e3])
        refine lit1 tab_22 rfl tab_3 ⟨rfl, rfl⟩ ?_
        refine st_appI (ys := [e * b.states + j]) st 0 rfl (by rw [List.length_append]; simp only [List.length_singleton]; omega) fun q' G' hq' st => ?_
        rw [List.append_assoc, ← ht] at st ⊢
        exact ⟨(j + 1, q', G'), ⟨by simp only; omega, st⟩, by simp only; omega, .refl _, .refl _, Heap.le_refl _⟩
      · have : j = b.states.toNat := by omega
        subst this
        rw [← hps] at st ⊢
        have e3 : IntKind.i64.wrap ((i : Int) + 1) = ((i + 1 : Nat) : Int) := by rw [i64_id (by omega) (by omega)]; simp
        (try simp (maxSteps := 1000000) (disch := (first | assumption | (apply Ne.symm; assumption))) only [vw0, vw1, vw2, vw3, vw4, vu0, vu1, ↓condV_t, ↓condV_f, cap_nil, allocV, splice, partV, buildV, eqFieldsV, eqS, tabs, TK.agg, reduceCtorEq, Array.toList, List.map_cons, List.map_nil, ↓reduceIte, List.length_map, Nat.reduceAdd, Nat.reduceLeDiff, Nat.reduceLT, Nat.reduceMul, Nat.reduceSub, Option.bind_some, Option.map_some, bndV, numV, eI, eU, e8, eB, AV.isCell, Int.reduceToNat, Int.reduceSub, Int.reduceAdd, Int.reduceNeg, e3])
        exact ⟨(i + 1, q, G), ⟨by simp only; omega, st⟩, by simp only; omega, .refl _, .refl _, Heap.le_refl _⟩
    · have : i = gk.length := by omega
      subst this
      rw [List.take_length] at st hpl ⊢
      have e3 : IntKind.i64.wrap ((k : Int) + 1) = ((k + 1 : Nat) : Int) := by rw [i64_id (by omega) (by omega)]; simp
      (try simp (maxSteps := 1000000) (disch := (first | assumption | (apply Ne.symm; assumption))) only [vw0, vw1, vw2, vw3, vw4, vu0, vu1, ↓condV_t, ↓condV_f, cap_nil, allocV, splice, partV, buildV, eqFieldsV, eqS, tabs, TK.agg, reduceCtorEq, Array.toList, List.map_cons, List.map_nil, ↓reduceIte, List.length_map, Nat.reduceAdd, Nat.reduceLeDiff, Nat.reduceLT, Nat.reduceMul, Nat.reduceSub, Option.bind_some, Option.map_some, bndV, numV, eI, eU, e8, eB, AV.isCell, Int.reduceToNat, Int.reduceSub, Int.reduceAdd, Int.reduceNeg, load_at (st.get 1 rfl), e3])
      refine lit_live1 fun ql hql => ?_
      replace st := st.cell hql [rowP q (prs gk (below b.states.toNat) b.states)]
      generalize G.set ql [.sl q 1 0 (prs gk (below b.states.toNat) b.states).length] = G4 at st ⊢
      (try simp (maxSteps := 1000000) (disch := (first | assumption | (apply Ne.symm; assumption))) only [vw0, vw1, vw2, vw3, vw4, vu0, vu1, ↓condV_t, ↓condV_f, cap_nil, allocV, splice, partV, buildV, eqFieldsV, eqS, tabs, TK.agg, reduceCtorEq, Array.toList, List.map_cons, List.map_nil, ↓reduceIte, List.length_map, Nat.reduceAdd, Nat.reduceLeDiff, Nat.reduceLT, Nat.reduceMul, Nat.reduceSub, Option.bind_some, Option.map_some, bndV, numV, eI, eU, e8, eB, AV.isCell, Int.reduceToNat, Int.reduceSub, Int.reduceAdd, Int.reduceNeg, load_at (st.get 2 rfl)])
      refine rz_pushL st 6 rfl (by omega) fun q' D' G5 hq' st => ?_
      rw [← hsucc] at st
      (try simp (maxSteps := 1000000) (disch := (first | assumption | (apply Ne.symm; assumption))) only [vw0, vw1, vw2, vw3, vw4, vu0, vu1, ↓condV_t, ↓condV_f, cap_nil, allocV, splice, partV, buildV, eqFieldsV, eqS, tabs, TK.agg, reduceCtorEq, Array.toList, List.map_cons, List.map_nil, ↓reduceIte, List.length_map, Nat.reduceAdd, Nat.reduceLeDiff, Nat.reduceLT, Nat.reduceMul, Nat.reduceSub, Option.bind_some, Option.map_some, bndV, numV, eI, eU, e8, eB, AV.isCell, Int.reduceToNat, Int.reduceSub, Int.reduceAdd, Int.reduceNeg, store_at (st.get 0 rfl)])
      exact ⟨(k + 1, _, D', _), ⟨by simp only; omega, st.put 0 rfl [I (a.states * b.states), x, y, .sl q' 1 0 ((boGa a b k).length + 1)]⟩, by simp only; omega, .refl _, Heap.le_refl _⟩
  · have : k = a.goals.length := by omega
    subst this
    (try simp (maxSteps := 1000000) (disch := (first | assumption | (apply Ne.symm; assumption))) only [vw0, vw1, vw2, vw3, vw4, vu0, vu1, ↓condV_t, ↓condV_f, cap_nil, allocV, splice, partV, buildV, eqFieldsV, eqS, tabs, TK.agg, reduceCtorEq, Array.toList, List.map_cons, List.map_nil, ↓reduceIte, List.length_map, Nat.reduceAdd, Nat.reduceLeDiff, Nat.reduceLT, Nat.reduceMul, Nat.reduceSub, Option.bind_some, Option.map_some, bndV, numV, eI, eU, e8, eB, AV.isCell, Int.reduceToNat, Int.reduceSub, Int.reduceAdd, Int.reduceNeg, load_at (st.get 2 rfl)])
    exact both_st7 fa fb st (by omega) h
theorem both_st2 {a b : Au} (ga : goodA a = true) (gb : goodA b = true) {r2 r3 r4 r5 z1 z2 z3 : Nat} {x y w : AV} {l : List Int} {D1 D2 D3 : List Nat} {H G : Heap} {K : AV → Heap → Prop} (st : St H (bTs a b r2 r3 r4 r5 z1 z2 z3 x y w l [] [] D1 D2 D3) G)
    (h : ∀ v G D, LAu ⟨a.states * b.states, l, sAll a b (a.states * b.states).toNat, boGa a b a.goals.length ++ boGb a b b.goals.length⟩ v G D → New H G D → K v G) :
    L74_2 (wkK K) (.ptr r2 0) (.ptr r3 0) (.ptr r4 0) (.ptr r5 0) (Es a.edges) (I a.edges.length) (I 0) G := by
  have fa := good_facts ga
  have fb := good_facts gb
  have hea := fa.ed
  have heb := fb.ed
  have hsa := fa.st
  have hsb := fb.st
  have hbl : ∀ i j, i ≤ 2400 → (bE b.states (a.edges.take i) b.edges ++ bRow b.states (a.edges.getD i default) (b.edges.take j)).length + 1 ≤ 1000000000 := fun i j hi => by
    have h1 := bE_len b.states (a.edges.take i) b.edges
    have h2 := bRow_len b.states (a.edges.getD i default) (b.edges.take j)
    rw [List.length_take] at h1 h2
    have h3 : min i a.edges.length * b.edges.length ≤ 2400 * 2400 := Nat.mul_le_mul (by omega) heb
    rw [List.length_append]
    omega
  refine L74_2_rule ((0 : Nat), y, D2, G) (fun s => I s.1) (fun s => s.2.2.2) (fun s => s.1 ≤ a.edges.length ∧ St H (bTs a b r2 r3 r4 r5 z1 z2 z3 x s.2.1 w l (bE b.states (a.edges.take s.1) b.edges) [] D1 s.2.2.1 D3) s.2.2.2) (fun s => a.edges.length - s.1)
    ⟨⟨by simp, by simpa [bE] using st⟩, .refl _, Heap.le_refl _⟩ ?_
  clear st y D2
  rintro ⟨i, y, D2, G⟩ ⟨hi, st⟩
  dsimp only at hi st
  (try simp (maxSteps := 1000000) (disch := (first | assumption | (apply Ne.symm; assumption))) only [vw0, vw1, vw2, vw3, vw4, vu0, vu1, ↓condV_t, ↓condV_f, cap_nil, allocV, splice, partV, buildV, eqFieldsV, eqS, tabs, TK.agg, reduceCtorEq, Array.toList, List.map_cons, List.map_nil, ↓reduceIte, List.length_map, Nat.reduceAdd, Nat.reduceLeDiff, Nat.reduceLT, Nat.reduceMul, Nat.reduceSub, Option.bind_some, Option.map_some, bndV, numV, eI, eU, e8, eB, AV.isCell, Int.reduceToNat, Int.reduceSub, Int.reduceAdd, Int.reduceNeg, B74_2])
  refine ⟨fun h1 => ⟨by omega, h1, ?_⟩, fun h1 => ?_⟩
  · have hlti : i < a.edges.length := by omega
    have hsucc := bE_succ b.states a.edges b.edges hlti
    have hie := edIn_iff.1 (fa.ei _ (getD_all (p := fun x => x ∈ a.edges) (d := default) (fun _ h => h) hlti))
    have hbl := fun j => hbl i j (by omega)
    generalize a.edges.getD i default = e at hsucc hie hbl ⊢
    intro r11 hr11
    replace st := st.cell hr11 [I e.src, I e.lt, I e.dst]
    generalize G.set r11 [I e.src, I e.lt, I e.dst] = G1 at st ⊢
    clear hr11
    (try simp (maxSteps := 1000000) (disch := (first | assumption | (apply Ne.symm; assumption))) only [vw0, vw1, vw2, vw3, vw4, vu0, vu1, ↓condV_t, ↓condV_f, cap_nil, allocV, splice, partV, buildV, eqFieldsV, eqS, tabs, TK.agg, reduceCtorEq, Array.toList, List.map_cons, List.map_nil, ↓reduceIte, List.length_map, Nat.reduceAdd, Nat.reduceLeDiff, Nat.reduceLT, Nat.reduceMul, Nat.reduceSub, Option.bind_some, Option.map_some, bndV, numV, eI, eU, e8, eB, AV.isCell, Int.reduceToNat, Int.reduceSub, Int.reduceAdd, Int.reduceNeg, load_at (st.get 3 rfl)])
    refine L74_3_rule ((0 : Nat), y, D2, G1) (fun s => I s.1) (fun s => s.2.2.2) (fun s => s.1 ≤ b.edges.length ∧ St H (cellT r11 [I e.src, I e.lt, I e.dst] :: bTs a b r2 r3 r4 r5 z1 z2 z3 x s.2.1 w l (bE b.states (a.edges.take i) b.edges ++ bRow b.states e (b.edges.take s.1)) [] D1 s.2.2.1 D3) s.2.2.2) (fun s => b.edges.length - s.1)
      ⟨⟨by simp, by simpa [bRow] using st⟩, .refl _, Heap.le_refl _⟩ ?_
    clear st y D2
    rintro ⟨j, y, D2, G⟩ ⟨hj, st⟩
    dsimp only at hj st
    (try simp (maxSteps := 1000000) (disch := (first | assumption | (apply Ne.symm; assumption))) only [vw0, vw1, vw2, vw3, vw4, vu0, vu1, ↓condV_t, ↓condV_f, cap_nil, allocV, splice, partV, buildV, eqFieldsV, eqS, tabs, TK.agg, reduceCtorEq, Array.toList, List.map_cons, List.map_nil, ↓reduceIte, List.length_map, Nat.reduceAdd, Nat.reduceLeDiff, Nat.reduceLT, Nat.reduceMul, Nat.reduceSub, Option.bind_some, Option.map_some, bndV, numV, eI, eU, e8, eB, AV.isCell, Int.reduceToNat, Int.reduceSub, Int.reduceAdd, Int.reduceNeg, B74_3])
    refine ⟨fun h2 => ⟨by omega, h2, ?_⟩, fun h2 => ?_⟩
    · have hltj : j < b.edges.length := by omega
      have hrow := bRow_succ b.states e b.edges hltj
      have hje := edIn_iff.1 (fb.ei _ (getD_all (p := fun x => x ∈ b.edges) (d := default) (fun _ h => h) hltj))
      have hbl := hbl j
      generalize b.edges.getD j default = f at hrow hje ⊢
      intro r13 hr13
      replace st := st.cell hr13 [I f.src, I f.lt, I f.dst]
      generalize G.set r13 [I f.src, I f.lt, I f.dst] = G2 at st ⊢
      clear hr13
      have m1 := mul_bd (a := e.src) (A := 96) (b := b.states) (B := 96) (by omega) (by omega)
      have m2 := mul_bd (a := e.dst) (A := 96) (b := b.states) (B := 96) (by omega) (by omega)
      have e1 : IntKind.i64.wrap (e.src * b.states) = e.src * b.states := i64_id (by omega) (by omega)
      have e2 : IntKind.i64.wrap (e.src * b.states + f.src) = e.src * b.states + f.src := i64_id (by omega) (by omega)
      have e3 : IntKind.i64.wrap (e.dst * b.states) = e.dst * b.states := i64_id (by omega) (by omega)
      have e4 : IntKind.i64.wrap (e.dst * b.states + f.dst) = e.dst * b.states + f.dst := i64_id (by omega) (by omega)
      have e5 : IntKind.i64.wrap ((j : Int) + 1) = ((j + 1 : Nat) : Int) := by rw [i64_id (by omega) (by omega)]; simp
      (try simp (maxSteps := 1000000) (disch := (first | assumption | (apply Ne.symm; assumption))) only [vw0, vw1, vw2, vw3, vw4, vu0, vu1, ↓condV_t, ↓condV_f, cap_nil, allocV, splice, partV, buildV, eqFieldsV, eqS, tabs, TK.agg, reduceCtorEq, Array.toList, List.map_cons, List.map_nil, ↓reduceIte, List.length_map, Nat.reduceAdd, Nat.reduceLeDiff, Nat.reduceLT, Nat.reduceMul, Nat.reduceSub, Option.bind_some, Option.map_some, bndV, numV, eI, eU, e8, eB, AV.isCell, Int.reduceToNat, Int.reduceSub, Int.reduceAdd, Int.reduceNeg, load_at (st.get 0 rfl), load_at (st.get 1 rfl), load_at (st.get 2 rfl), load_at (st.get 4 rfl), e1, e2, e3, e4, e5])
      refine ⟨fun h3 => ?_, fun h3 => ?_⟩
      · rw [if_pos h3] at hrow
        refine lit_edge (x := mkE b.states e f) ?_
        (try simp (maxSteps := 1000000) (disch := (first | assumption | (apply Ne.symm; assumption))) only [vw0, vw1, vw2, vw3, vw4, vu0, vu1, ↓condV_t, ↓condV_f, cap_nil, allocV, splice, partV, buildV, eqFieldsV, eqS, tabs, TK.agg, reduceCtorEq, Array.toList, List.map_cons, List.map_nil, ↓reduceIte, List.length_map, Nat.reduceAdd, Nat.reduceLeDiff, Nat.reduceLT, Nat.reduceMul, Nat.reduceSub, Option.bind_some, Option.map_some, bndV, numV, eI, eU, e8, eB, AV.isCell, Int.reduceToNat, Int.reduceSub, Int.reduceAdd, Int.reduceNeg, load_at (st.get 2 rfl)])
        refine rz_appE9 (ys := [mkE b.states e f]) st 7 rfl (by simp only [List.length_singleton]; omega) fun q' G' hq' st => ?_
        rw [List.append_assoc, ← hrow] at st ⊢
        obtain ⟨es', hes⟩ : ∃ es', bE b.states (a.edges.take i) b.edges ++ bRow b.states e (b.edges.take (j + 1)) = es' := ⟨_, rfl⟩
        rw [hes] at st ⊢
        (try simp (maxSteps := 1000000) (disch := (first | assumption | (apply Ne.symm; assumption))) only [vw0, vw1, vw2, vw3, vw4, vu0, vu1, ↓condV_t, ↓condV_f, cap_nil, allocV, splice, partV, buildV, eqFieldsV, eqS, tabs, TK.agg, reduceCtorEq, Array.toList, List.map_cons, List.map_nil, ↓reduceIte, List.length_map, Nat.reduceAdd, Nat.reduceLeDiff, Nat.reduceLT, Nat.reduceMul, Nat.reduceSub, Option.bind_some, Option.map_some, bndV, numV, eI, eU, e8, eB, AV.isCell, Int.reduceToNat, Int.reduceSub, Int.reduceAdd, Int.reduceNeg, store_at (st.get 2 rfl), e5])
        replace st := (st.put 2 rfl [I (a.states * b.states), x, rowE q' es', w]).drop
        rw [← hes] at st
        exact ⟨(j + 1, _, [q'], _), ⟨by simp only; omega, st⟩, by simp only; omega, .refl _, by rw [hes]; exact Heap.le_refl _⟩
      · rw [if_neg h3] at hrow
        exact ⟨(j + 1, y, D2, G2), ⟨by simp only; omega, by rw [hrow]; exact st.drop⟩, by simp only; omega, .refl _, Heap.le_refl _⟩
    · have : j = b.edges.length := by omega
      subst this
      rw [List.take_length, ← hsucc] at st
      have e5 : IntKind.i64.wrap ((i : Int) + 1) = ((i + 1 : Nat) : Int) := by rw [i64_id (by omega) (by omega)]; simp
      (try simp (maxSteps := 1000000) (disch := (first | assumption | (apply Ne.symm; assumption))) only [vw0, vw1, vw2, vw3, vw4, vu0, vu1, ↓condV_t, ↓condV_f, cap_nil, allocV, splice, partV, buildV, eqFieldsV, eqS, tabs, TK.agg, reduceCtorEq, Array.toList, List.map_cons, List.map_nil, ↓reduceIte, List.length_map, Nat.reduceAdd, Nat.reduceLeDiff, Nat.reduceLT, Nat.reduceMul, Nat.reduceSub, Option.bind_some, Option.map_some, bndV, numV, eI, eU, e8, eB, AV.isCell, Int.reduceToNat, Int.reduceSub, Int.reduceAdd, Int.reduceNeg, e5])
      exact ⟨(i + 1, y, D2, G), ⟨by simp only; omega, st.drop⟩, by simp only; omega, .refl _, Heap.le_refl _⟩
  · have : i = a.edges.length := by omega
    subst this
    rw [List.take_length] at st
    (try simp (maxSteps := 1000000) (disch := (first | assumption | (apply Ne.symm; assumption))) only [vw0, vw1, vw2, vw3, vw4, vu0, vu1, ↓condV_t, ↓condV_f, cap_nil, allocV, splice, partV, buildV, eqFieldsV, eqS, tabs, TK.agg, reduceCtorEq, Array.toList, List.map_cons, List.map_nil, ↓reduceIte, List.length_map, Nat.reduceAdd, Nat.reduceLeDiff, Nat.reduceLT, Nat.reduceMul, Nat.reduceSub, Option.bind_some, Option.map_some, bndV, numV, eI, eU, e8, eB, AV.isCell, Int.reduceToNat, Int.reduceSub, Int.reduceAdd, Int.reduceNeg, load_at (st.get 0 rfl)])
    have h1 := bE_len b.states a.edges b.edges
    have h3 : a.edges.length * b.edges.length ≤ 2400 * 2400 := Nat.mul_le_mul hea heb
    refine rz_sortE st 5 rfl (by omega) fun G' st => ?_
    rw [srt_bE ga gb] at st
    (try simp (maxSteps := 1000000) (disch := (first | assumption | (apply Ne.symm; assumption))) only [vw0, vw1, vw2, vw3, vw4, vu0, vu1, ↓condV_t, ↓condV_f, cap_nil, allocV, splice, partV, buildV, eqFieldsV, eqS, tabs, TK.agg, reduceCtorEq, Array.toList, List.map_cons, List.map_nil, ↓reduceIte, List.length_map, Nat.reduceAdd, Nat.reduceLeDiff, Nat.reduceLT, Nat.reduceMul, Nat.reduceSub, Option.bind_some, Option.map_some, bndV, numV, eI, eU, e8, eB, AV.isCell, Int.reduceToNat, Int.reduceSub, Int.reduceAdd, Int.reduceNeg, load_at (st.get 3 rfl)])
    exact both_st4 fa fb st h
theorem both_live {a b : Au} (ga : goodA a = true) (gb : goodA b = true) (hN : a.states * b.states ≤ 96) {H : Heap} {K : AV → Heap → Prop}
    (h : ∀ v G D, LAu (boT a b) v G D → New H G D → K v G) : CallT Try.prog 74 [aAu a, aAu b] H K := by
  have fa := good_facts ga
  have fb := good_facts gb
  have hsa := fa.st
  have hsb := fb.st
  have hfa := fa.fi
  have hfb := fb.fi
  refine CallT.fin ?_
  refine lend3 (St.nil H) W74_hb fun z1 z2 z3 G st => ?_
  have hm := mul_bd (a := a.states) (A := 96) (b := b.states) (B := 96) (by omega) (by omega)
  have e0 : IntKind.i64.wrap (a.states * b.states) = a.states * b.states := i64_id (by omega) (by omega)
  refine W74_ok ?_; simp (maxSteps := 1000000) (disch := (first | assumption | (apply Ne.symm; assumption))) only [W74, vw0, vw1, vw2, vw3, vw4, vu0, vu1, ↓condV_t, ↓condV_f, cap_nil, allocV, splice, partV, buildV, eqFieldsV, eqS, tabs, TK.agg, reduceCtorEq, Array.toList, List.map_cons, List.map_nil, ↓reduceIte, List.length_map, Nat.reduceAdd, Nat.reduceLeDiff, Nat.reduceLT, Nat.reduceMul, Nat.reduceSub, Option.bind_some, Option.map_some, bndV, numV, eI, eU, e8, eB, AV.isCell, Int.reduceToNat, Int.reduceSub, Int.reduceAdd, Int.reduceNeg, e0]
  intro r2 hr2 r3 n3 hr3 r4 n4 n4' hr4
  replace st := ((st.cell hr2 [I a.states, Is a.first, Es a.edges, Ls a.goals]).cell (r := r3) (by rw [Heap.set_other n3]; exact hr3) [I b.states, Is b.first, Es b.edges, Ls b.goals]).cell (r := r4) (by rw [Heap.set_other n4, Heap.set_other n4']; exact hr4) [I 0, .p .nil, .p .nil, .p .nil]
  have fr : ∀ r, r ≠ r4 → r ≠ r3 → r ≠ r2 → G r = none → (((G.set r2 [I a.states, Is a.first, Es a.edges, Ls a.goals]).set r3 [I b.states, Is b.first, Es b.edges, Ls b.goals]).set r4 [I 0, .p .nil, .p .nil, .p .nil]) r = none := fun r a b c d => by
    rw [Heap.set_other a, Heap.set_other b, Heap.set_other c]; exact d
  generalize ((G.set r2 [I a.states, Is a.first, Es a.edges, Ls a.goals]).set r3 [I b.states, Is b.first, Es b.edges, Ls b.goals]).set r4 [I 0, .p .nil, .p .nil, .p .nil] = G1 at st fr ⊢
  clear hr2 hr3 n3 hr4 n4 n4'
  (try simp (maxSteps := 1000000) (disch := (first | assumption | (apply Ne.symm; assumption))) only [vw0, vw1, vw2, vw3, vw4, vu0, vu1, ↓condV_t, ↓condV_f, cap_nil, allocV, splice, partV, buildV, eqFieldsV, eqS, tabs, TK.agg, reduceCtorEq, Array.toList, List.map_cons, List.map_nil, ↓reduceIte, List.length_map, Nat.reduceAdd, Nat.reduceLeDiff, Nat.reduceLT, Nat.reduceMul, Nat.reduceSub, Option.bind_some, Option.map_some, bndV, numV, eI, eU, e8, eB, AV.isCell, Int.reduceToNat, Int.reduceSub, Int.reduceAdd, Int.reduceNeg, load_at (st.get 2 rfl), load_at (st.get 1 rfl), e0])
  intro r5 m4 m3 m2 hr5
  replace st := st.cell (fr _ m4 m3 m2 hr5) [I (a.states * b.states), .p .nil, .p .nil, .p .nil]
  generalize G1.set r5 [I (a.states * b.states), .p .nil, .p .nil, .p .nil] = G2 at st ⊢
  clear hr5 m4 m3 m2 fr
  (try simp (maxSteps := 1000000) (disch := (first | assumption | (apply Ne.symm; assumption))) only [vw0, vw1, vw2, vw3, vw4, vu0, vu1, ↓condV_t, ↓condV_f, cap_nil, allocV, splice, partV, buildV, eqFieldsV, eqS, tabs, TK.agg, reduceCtorEq, Array.toList, List.map_cons, List.map_nil, ↓reduceIte, List.length_map, Nat.reduceAdd, Nat.reduceLeDiff, Nat.reduceLT, Nat.reduceMul, Nat.reduceSub, Option.bind_some, Option.map_some, bndV, numV, eI, eU, e8, eB, AV.isCell, Int.reduceToNat, Int.reduceSub, Int.reduceAdd, Int.reduceNeg, load_at (st.get 3 rfl)])
  refine L74_0_rule ((0 : Nat), (.p .nil : AV), [z1], G2) (fun s => I s.1) (fun s => s.2.2.2) (fun s => s.1 ≤ a.first.length ∧ St H (bTs a b r2 r3 r4 r5 z1 z2 z3 s.2.1 (.p .nil) (.p .nil) (prs (a.first.take s.1) b.first b.states) [] [] s.2.2.1 [z2] [z3]) s.2.2.2) (fun s => a.first.length - s.1)
    ⟨⟨by simp, by simpa [prs] using st⟩, .refl _, Heap.le_refl _⟩ ?_
  clear st
  rintro ⟨i, x, D1, G⟩ ⟨hi, st⟩
  dsimp only at hi st
  have hpl := prs_len (a.first.take i) b.first b.states
  rw [List.length_take, Nat.min_eq_left hi] at hpl
  have hml : i * b.first.length ≤ 96 * 96 := Nat.mul_le_mul (by omega) (by omega)
  (try simp (maxSteps := 1000000) (disch := (first | assumption | (apply Ne.symm; assumption))) only [vw0, vw1, vw2, vw3, vw4, vu0, vu1, ↓condV_t, ↓condV_f, cap_nil, allocV, splice, partV, buildV, eqFieldsV, eqS, tabs, TK.agg, reduceCtorEq, Array.toList, List.map_cons, List.map_nil, ↓reduceIte, List.length_map, Nat.reduceAdd, Nat.reduceLeDiff, Nat.reduceLT, Nat.reduceMul, Nat.reduceSub, Option.bind_some, Option.map_some, bndV, numV, eI, eU, e8, eB, AV.isCell, Int.reduceToNat, Int.reduceSub, Int.reduceAdd, Int.reduceNeg, B74_0])
  refine ⟨fun h1 => ⟨by omega, h1, ?_⟩, fun h1 => ?_⟩
  · have hlti : i < a.first.length := by omega
    have hps := prs_succ a.first b.first b.states hlti
    have hx := getD_all (p := fun x => 0 ≤ x ∧ x ≤ 100000) (d := default) hfa.1.2 hlti
    generalize a.first.getD i default = e at hps hx ⊢
    (try simp (maxSteps := 1000000) (disch := (first | assumption | (apply Ne.symm; assumption))) only [vw0, vw1, vw2, vw3, vw4, vu0, vu1, ↓condV_t, ↓condV_f, cap_nil, allocV, splice, partV, buildV, eqFieldsV, eqS, tabs, TK.agg, reduceCtorEq, Array.toList, List.map_cons, List.map_nil, ↓reduceIte, List.length_map, Nat.reduceAdd, Nat.reduceLeDiff, Nat.reduceLT, Nat.reduceMul, Nat.reduceSub, Option.bind_some, Option.map_some, bndV, numV, eI, eU, e8, eB, AV.isCell, Int.reduceToNat, Int.reduceSub, Int.reduceAdd, Int.reduceNeg, load_at (st.get 2 rfl)])
    refine L74_1_rule ((0 : Nat), x, D1, G) (fun s => I s.1) (fun s => s.2.2.2) (fun s => s.1 ≤ b.first.length ∧ St H (bTs a b r2 r3 r4 r5 z1 z2 z3 s.2.1 (.p .nil) (.p .nil) (prs (a.first.take i) b.first b.states ++ (b.first.take s.1).map fun j => e * b.states + j) [] [] s.2.2.1 [z2] [z3]) s.2.2.2) (fun s => b.first.length - s.1)
      ⟨⟨by simp, by simpa using st⟩, .refl _, Heap.le_refl _⟩ ?_
    clear st x D1
    rintro ⟨j, x, D1, G⟩ ⟨hj, st⟩
    dsimp only at hj st
    (try simp (maxSteps := 1000000) (disch := (first | assumption | (apply Ne.symm; assumption))) only [vw0, vw1, vw2, vw3, vw4, vu0, vu1, ↓condV_t, ↓condV_f, cap_nil, allocV, splice, partV, buildV, eqFieldsV, eqS, tabs, TK.agg, reduceCtorEq, Array.toList, List.map_cons, List.map_nil, ↓reduceIte, List.length_map, Nat.reduceAdd, Nat.reduceLeDiff, Nat.reduceLT, Nat.reduceMul, Nat.reduceSub, Option.bind_some, Option.map_some, bndV, numV, eI, eU, e8, eB, AV.isCell, Int.reduceToNat, Int.reduceSub, Int.reduceAdd, Int.reduceNeg, B74_1])
    refine ⟨fun h2 => ⟨by omega, h2, ?_⟩, fun h2 => ?_⟩
    · have hltj : j < b.first.length := by omega
      have hy := getD_all (p := fun x => 0 ≤ x ∧ x ≤ 100000) (d := default) hfb.1.2 hltj
      have ht : (b.first.take (j + 1)).map (fun j => e * b.states + j) = (b.first.take j).map (fun j => e * b.states + j) ++ [e * b.states + b.first.getD j default] := by
        rw [take_succ_snoc hltj, List.map_append]; rfl
      have hlt : ((b.first.take j).map fun j => e * b.states + j).length ≤ 96 := by rw [List.length_map, List.length_take]; omega
      generalize b.first.getD j default = f at hy ht ⊢
      have m1 := mul_bd (a := e) (A := 100000) (b := b.states) (B := 96) (by omega) (by omega)
      have e1 : IntKind.i64.wrap (e * b.states) = e * b.states := i64_id (by omega) (by omega)
      have e2 : IntKind.i64.wrap (e * b.states + f) = e * b.states + f := i64_id (by omega) (by omega)
      have e3 : IntKind.i64.wrap ((j : Int) + 1) = ((j + 1 : Nat) : Int) := by rw [i64_id (by omega) (by omega)]; simp
      (try simp (maxSteps := 1000000) (disch := (first | assumption | (apply Ne.symm; assumption))) only [vw0, vw1, vw2, vw3, vw4, vu0, vu1, ↓condV_t, ↓condV_f, cap_nil, allocV, splice, partV, buildV, eqFieldsV, eqS, tabs, TK.agg, reduceCtorEq, Array.toList, List.map_cons, List.map_nil, ↓reduceIte, List.length_map, Nat.reduceAdd, Nat.reduceLeDiff, Nat.reduceLT, Nat.reduceMul, Nat.reduceSub, Option.bind_some, Option.map_some, bndV, numV, eI, eU, e8, eB, AV.isCell, Int.reduceToNat, Int.reduceSub, Int.reduceAdd, Int.reduceNeg, load_at (st.get 0 rfl), load_at (st.get 2 rfl), e1, e2, e3])
      refine lit1 tab_22 rfl tab_3 ⟨rfl, rfl⟩ ?_
      (try simp (maxSteps := 1000000) (disch := (first | assumption | (apply Ne.symm; assumption))) only [vw0, vw1, vw2, vw3, vw4, vu0, vu1, ↓condV_t, ↓condV_f, cap_nil, allocV, splice, partV, buildV, eqFieldsV, eqS, tabs, TK.agg, reduceCtorEq, Array.toList, List.map_cons, List.map_nil, ↓reduceIte, List.length_map, Nat.reduceAdd, Nat.reduceLeDiff, Nat.reduceLT, Nat.reduceMul, Nat.reduceSub, Option.bind_some, Option.map_some, bndV, numV, eI, eU, e8, eB, AV.isCell, Int.reduceToNat, Int.reduceSub, Int.reduceAdd, Int.reduceNeg, load_at (st.get 0 rfl)])
      refine rz_appI (ys := [e * b.states + f]) st 4 rfl (by rw [List.length_append]; simp only [List.length_singleton]; omega) fun q' G' hq' st => ?_
      rw [List.append_assoc, ← ht] at st ⊢
      obtain ⟨l', hl'⟩ : ∃ l', prs (a.first.take i) b.first b.states ++ (b.first.take (j + 1)).map (fun j => e * b.states + j) = l' := ⟨_, rfl⟩
      rw [hl'] at st ⊢
      (try simp (maxSteps := 1000000) (disch := (first | assumption | (apply Ne.symm; assumption))) only [vw0, vw1, vw2, vw3, vw4, vu0, vu1, ↓condV_t, ↓condV_f, cap_nil, allocV, splice, partV, buildV, eqFieldsV, eqS, tabs, TK.agg, reduceCtorEq, Array.toList, List.map_cons, List.map_nil, ↓reduceIte, List.length_map, Nat.reduceAdd, Nat.reduceLeDiff, Nat.reduceLT, Nat.reduceMul, Nat.reduceSub, Option.bind_some, Option.map_some, bndV, numV, eI, eU, e8, eB, AV.isCell, Int.reduceToNat, Int.reduceSub, Int.reduceAdd, Int.reduceNeg, store_at (st.get 0 rfl), e3])
      replace st := st.put 0 rfl [I (a.states * b.states), rowP q' l', .p .nil, .p .nil]
      rw [← hl'] at st
      exact ⟨(j + 1, _, [q'], _), ⟨by simp only; omega, st⟩, by simp only; omega, .refl _, by rw [hl']; exact Heap.le_refl _⟩
    · have : j = b.first.length := by omega
      subst this
      rw [List.take_length, ← hps] at st
      have e3 : IntKind.i64.wrap ((i : Int) + 1) = ((i + 1 : Nat) : Int) := by rw [i64_id (by omega) (by omega)]; simp
      (try simp (maxSteps := 1000000) (disch := (first | assumption | (apply Ne.symm; assumption))) only [vw0, vw1, vw2, vw3, vw4, vu0, vu1, ↓condV_t, ↓condV_f, cap_nil, allocV, splice, partV, buildV, eqFieldsV, eqS, tabs, TK.agg, reduceCtorEq, Array.toList, List.map_cons, List.map_nil, ↓reduceIte, List.length_map, Nat.reduceAdd, Nat.reduceLeDiff, Nat.reduceLT, Nat.reduceMul, Nat.reduceSub, Option.bind_some, Option.map_some, bndV, numV, eI, eU, e8, eB, AV.isCell, Int.reduceToNat, Int.reduceSub, Int.reduceAdd, Int.reduceNeg, e3])
      exact ⟨(i + 1, x, D1, G), ⟨by simp only; omega, st⟩, by simp only; omega, .refl _, Heap.le_refl _⟩
  · have : i = a.first.length := by omega
    subst this
    rw [List.take_length] at st
    (try simp (maxSteps := 1000000) (disch := (first | assumption | (apply Ne.symm; assumption))) only [vw0, vw1, vw2, vw3, vw4, vu0, vu1, ↓condV_t, ↓condV_f, cap_nil, allocV, splice, partV, buildV, eqFieldsV, eqS, tabs, TK.agg, reduceCtorEq, Array.toList, List.map_cons, List.map_nil, ↓reduceIte, List.length_map, Nat.reduceAdd, Nat.reduceLeDiff, Nat.reduceLT, Nat.reduceMul, Nat.reduceSub, Option.bind_some, Option.map_some, bndV, numV, eI, eU, e8, eB, AV.isCell, Int.reduceToNat, Int.reduceSub, Int.reduceAdd, Int.reduceNeg, load_at (st.get 3 rfl)])
    exact both_st2 ga gb st h
def boR (a b : Au) : Au × Bool := if goodA a && (goodA b && (decide (a.states * b.states ≤ 96) && goodA (boT a b))) then (boT a b, true) else (zeroA, false)
theorem boT_sm {a b : Au} (ga : goodA a = true) (gb : goodA b = true) (hN : a.states * b.states ≤ 96) : smAu (boT a b) := by
  have fa := good_facts ga
  have fb := good_facts gb
  have hsa := fa.st
  have hsb := fb.st
  have hm : a.states.toNat * b.states.toNat ≤ 96 := by
    have : ((a.states.toNat * b.states.toNat : Nat) : Int) = a.states * b.states := by rw [Int.natCast_mul, Int.toNat_of_nonneg (by omega), Int.toNat_of_nonneg (by omega)]
    omega
  refine ⟨?_, ?_, ?_, fun c hc => ?_⟩
  · show (prs a.first b.first b.states).length ≤ _
    rw [prs_len]
    have : a.first.length * b.first.length ≤ 96 * 96 := Nat.mul_le_mul fa.fi.2 fb.fi.2
    omega
  · show (sAll a b (a.states * b.states).toNat).length ≤ _
    have h1 := sAll_len a b (a.states * b.states).toNat
    have : (a.states * b.states).toNat * (8 * (a.states.toNat * b.states.toNat)) ≤ 96 * (8 * 96) := Nat.mul_le_mul (by omega) (by omega)
    omega
  · show (boGa a b a.goals.length ++ boGb a b b.goals.length).length ≤ _
    have h1 := boGa_len a b a.goals.length
    have h2 := boGb_len a b b.goals.length
    have := fa.gl
    have := fb.gl
    rw [List.length_append]; omega
  · change c ∈ boGa a b a.goals.length ++ boGb a b b.goals.length at hc
    rcases List.mem_append.1 hc with hc | hc
    · obtain ⟨g, hg, rfl⟩ := List.mem_map.1 hc
      rw [prs_len, below_len]
      have := Nat.mul_le_mul (fa.gi g (List.mem_of_mem_take hg)).2 (show b.states.toNat ≤ 96 by omega)
      omega
    · obtain ⟨g, hg, rfl⟩ := List.mem_map.1 hc
      rw [prs_len, below_len]
      have := Nat.mul_le_mul (show a.states.toNat ≤ 96 by omega) (fb.gi g (List.mem_of_mem_take hg)).2
      omega
end Go.Proofs.Ytfbaijpanbjmpaa
