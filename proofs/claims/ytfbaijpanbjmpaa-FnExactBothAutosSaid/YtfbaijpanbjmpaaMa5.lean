/- Specs: rows of edges; automata that own their rows, checked. -/
import Derived.Test.YtfbaijpanbjmpaaMa4
namespace Go.Proofs.Ytfbaijpanbjmpaa
open Go Go.Sep Go.Pt
set_option linter.unusedSimpArgs false
set_option linter.unusedVariables false
attribute [local irreducible] CallT

abbrev rowE (q : Nat) (xs : List Ed) : AV := .sl q 3 0 xs.length
abbrev cE (xs : List Ed) : List AV := cells (xs.map eE)
theorem szE (xs : List Ed) : Sized 3 (xs.map eE) := sized_map (f := eE) (fun _ => rfl) xs
theorem lit_edge {x : Ed} {H : Heap} {K : AV → Heap → Prop} (h : K (Es [x]) H) : buildSliceV tab 28 1 [(0, aE x)] H (wkK K) := by
  simp only [buildSliceV, tab_28, tab_61]
  refine ⟨by omega, ?_⟩
  simp only [fillV, zerosA, List.replicate_succ, List.replicate_zero, List.flatten_cons, List.flatten_nil, List.append_nil, AV.cells, splice]
  simp only [List.length_cons, List.length_nil, Nat.reduceAdd, Nat.zero_mul, Nat.zero_add, Nat.le_refl, and_self, if_true, List.take_zero, List.nil_append, List.drop_succ_cons, List.drop_zero, List.append_nil]
  intro r hr
  refine ⟨_, _, Wk.trans (Wk.frz (r := r) (sz := 3) (es := [eE x]) (v := .sl r 3 0 1) (v' := .p (.sl [eE x])) (by omega) ?_ (by simp) .here) (.forget ?_), h⟩
  · rw [Heap.set_same]; rfl
  · rw [Heap.del_set hr]; exact Heap.le_refl _
theorem app_edges {q : Nat} {xs ys : List Ed} {G : Heap} {K : AV → Heap → Prop} (hq : G q = some (cE xs)) (hl : xs.length + ys.length ≤ 1000000)
    (h : ∀ q', G q' = none → q' ≠ q → K (rowE q' (xs ++ ys)) ((G.del q).set q' (cE (xs ++ ys)))) : appendV tab 28 28 (rowE q xs) (Es ys) G (wkK K) := by
  have := app_own (x := Es ys) (r := q) (es := xs.map eE) (fs := ys.map eE) (H := G) (K := K) tab_28 rfl tab_61 tab_28 rfl (sz := 3) rfl (bz := 24) rfl (.inl rfl) hq (szE xs) (szE ys)
    (by simp only [List.length_map]; omega) (by simp only [List.length_map]; omega) fun r' hr' => by
      have hne : r' ≠ q := by rintro rfl; rw [hq] at hr'; cases hr'
      have := h r' hr' hne
      simpa only [Go.Sep.own, cE, rowE, List.length_map, List.map_append, List.length_append] using this
  simpa only [Go.Sep.own, List.length_map] using this
theorem app_topE {q : Nat} {xs ys : List Ed} {G : Heap} {K : AV → Heap → Prop} (hq : G q = none) (hl : xs.length + ys.length ≤ 1000000) (h : ∀ q', G q' = none → K (rowE q' (xs ++ ys)) (G.set q' (cE (xs ++ ys)))) :
    appendV tab 28 28 (rowE q xs) (Es ys) (G.set q (cE xs)) (wkK K) :=
  app_edges (Heap.set_same _ _ _) hl fun q' hq' hne => by
    rw [Heap.del_set hq]
    rw [Heap.set_none] at hq'
    exact h q' hq'.2
theorem lit0E {G : Heap} {K : AV → Heap → Prop} (h : ∀ q, G q = none → K (rowE q []) (G.set q (cE []))) : buildSliceV tab 28 0 [] G (wkK K) := by
  simp only [buildSliceV, tab_28, tab_61]
  refine ⟨by omega, ?_⟩
  simp only [fillV, zerosA, List.replicate_zero, List.flatten_nil]
  exact fun r hr => wkK.keep (h r hr)
theorem LE_mk {xs : List Ed} {q : Nat} {G : Heap} (h : G q = some (cE xs)) : LE xs (rowE q xs) G [q] := ⟨q, _, [], rfl, h, LL.plain xs, rfl⟩
abbrev zA : AV := .agg [I 0, .p .nil, .p .nil, .p .nil]
theorem checkedAuto_live {o : Au} {v : AV} {G : Heap} {D : List Nat} {K : AV → Heap → Prop} (hl : LAu o v G D) (hD : D.Nodup) (hs : smAu o)
    (hg : goodA o = true → K (.tup [v, B true]) G) (hb : goodA o = false → K (.tup [zA, B false]) G) : CallT Try.prog 47 [v] G K := by
  refine CallT.fin ?_
  obtain ⟨x, y, z, D1, D2, D3, rfl, e, h1, h2, h3⟩ := id hl
  obtain ⟨q1, rfl⟩ := LRow.sl h1
  obtain ⟨q2, rfl⟩ := LRow.sl h2
  obtain ⟨q3, rfl⟩ := LRow.sl h3
  refine W47_ok ?_; simp (maxSteps := 1000000) (disch := (first | assumption | (apply Ne.symm; assumption))) only [W47, vw0, vw1, vw2, vw3, vw4, vu0, vu1, ↓condV_t, ↓condV_f, cap_nil, allocV, splice, partV, buildV, eqFieldsV, eqS, tabs, TK.agg, reduceCtorEq, Array.toList, List.map_cons, List.map_nil, ↓reduceIte, List.length_map, Nat.reduceAdd, Nat.reduceLeDiff, Nat.reduceLT, Nat.reduceMul, Nat.reduceSub, Option.bind_some, Option.map_some, bndV, numV, eI, eU, e8, eB, AV.isCell, Int.reduceToNat, Int.reduceSub, Int.reduceAdd, Int.reduceNeg]
  intro r hr r2 n2 hr2
  have nn2 : r ≠ r2 := Ne.symm n2
  have hle := Heap.le_setN (b := [I 0, .p .nil, .p .nil, .p .nil]) (Heap.le_set (b := [I o.states, .sl q1 1 0 o.first.length, .sl q2 3 0 o.edges.length, .sl q3 1 0 o.goals.length]) hr) hr2
  (try simp (maxSteps := 1000000) (disch := (first | assumption | (apply Ne.symm; assumption))) only [vw0, vw1, vw2, vw3, vw4, vu0, vu1, ↓condV_t, ↓condV_f, cap_nil, allocV, splice, partV, buildV, eqFieldsV, eqS, tabs, TK.agg, reduceCtorEq, Array.toList, List.map_cons, List.map_nil, ↓reduceIte, List.length_map, Nat.reduceAdd, Nat.reduceLeDiff, Nat.reduceLT, Nat.reduceMul, Nat.reduceSub, Option.bind_some, Option.map_some, bndV, numV, eI, eU, e8, eB, AV.isCell, Int.reduceToNat, Int.reduceSub, Int.reduceAdd, Int.reduceNeg])
  obtain ⟨G1, w1, _⟩ := (hl.local (fun y _ b hb => hle y b hb)).wk hD (fun v => .tup [v]) (fun h => .tup (.cons h .nil))
  refine Pu.thaw (GoodAuto_impl o hs) (.bool _) w1 ?_
  have le3 : ∀ b, Heap.le G (((G.set r [I o.states, .sl q1 1 0 o.first.length, .sl q2 3 0 o.edges.length, .sl q3 1 0 o.goals.length]).set r2 b)) := fun b => Heap.le_setN (Heap.le_set hr) hr2
  cases hgo : goodA o
  · (try simp (maxSteps := 1000000) (disch := (first | assumption | (apply Ne.symm; assumption))) only [vw0, vw1, vw2, vw3, vw4, vu0, vu1, ↓condV_t, ↓condV_f, cap_nil, allocV, splice, partV, buildV, eqFieldsV, eqS, tabs, TK.agg, reduceCtorEq, Array.toList, List.map_cons, List.map_nil, ↓reduceIte, List.length_map, Nat.reduceAdd, Nat.reduceLeDiff, Nat.reduceLT, Nat.reduceMul, Nat.reduceSub, Option.bind_some, Option.map_some, bndV, numV, eI, eU, e8, eB, AV.isCell, Int.reduceToNat, Int.reduceSub, Int.reduceAdd, Int.reduceNeg])
    exact fin_le (le3 _) (hb hgo)
  · (try simp (maxSteps := 1000000) (disch := (first | assumption | (apply Ne.symm; assumption))) only [vw0, vw1, vw2, vw3, vw4, vu0, vu1, ↓condV_t, ↓condV_f, cap_nil, allocV, splice, partV, buildV, eqFieldsV, eqS, tabs, TK.agg, reduceCtorEq, Array.toList, List.map_cons, List.map_nil, ↓reduceIte, List.length_map, Nat.reduceAdd, Nat.reduceLeDiff, Nat.reduceLT, Nat.reduceMul, Nat.reduceSub, Option.bind_some, Option.map_some, bndV, numV, eI, eU, e8, eB, AV.isCell, Int.reduceToNat, Int.reduceSub, Int.reduceAdd, Int.reduceNeg])
    exact fin_le (le3 _) (hg hgo)
theorem l12Made_live {o : Au} {v : AV} {G : Heap} {D : List Nat} {K : AV → Heap → Prop} (hl : LAu o v G D) (hD : D.Nodup) (hs : smAu o)
    (hg : goodA o = true → K (.tup [v, B true]) G) (hb : goodA o = false → K (.tup [zA, B false]) G) : CallT Try.prog 38 [v] G K := by
  refine CallT.fin ?_
  obtain ⟨x, y, z, D1, D2, D3, rfl, e, h1, h2, h3⟩ := id hl
  obtain ⟨q1, rfl⟩ := LRow.sl h1
  obtain ⟨q2, rfl⟩ := LRow.sl h2
  obtain ⟨q3, rfl⟩ := LRow.sl h3
  refine W38_ok ?_; simp (maxSteps := 1000000) (disch := (first | assumption | (apply Ne.symm; assumption))) only [W38, vw0, vw1, vw2, vw3, vw4, vu0, vu1, ↓condV_t, ↓condV_f, cap_nil, allocV, splice, partV, buildV, eqFieldsV, eqS, tabs, TK.agg, reduceCtorEq, Array.toList, List.map_cons, List.map_nil, ↓reduceIte, List.length_map, Nat.reduceAdd, Nat.reduceLeDiff, Nat.reduceLT, Nat.reduceMul, Nat.reduceSub, Option.bind_some, Option.map_some, bndV, numV, eI, eU, e8, eB, AV.isCell, Int.reduceToNat, Int.reduceSub, Int.reduceAdd, Int.reduceNeg]
  intro r hr r2 n2 hr2
  have nn2 : r ≠ r2 := Ne.symm n2
  have hle := Heap.le_setN (b := [I 0, .p .nil, .p .nil, .p .nil]) (Heap.le_set (b := [I o.states, .sl q1 1 0 o.first.length, .sl q2 3 0 o.edges.length, .sl q3 1 0 o.goals.length]) hr) hr2
  (try simp (maxSteps := 1000000) (disch := (first | assumption | (apply Ne.symm; assumption))) only [vw0, vw1, vw2, vw3, vw4, vu0, vu1, ↓condV_t, ↓condV_f, cap_nil, allocV, splice, partV, buildV, eqFieldsV, eqS, tabs, TK.agg, reduceCtorEq, Array.toList, List.map_cons, List.map_nil, ↓reduceIte, List.length_map, Nat.reduceAdd, Nat.reduceLeDiff, Nat.reduceLT, Nat.reduceMul, Nat.reduceSub, Option.bind_some, Option.map_some, bndV, numV, eI, eU, e8, eB, AV.isCell, Int.reduceToNat, Int.reduceSub, Int.reduceAdd, Int.reduceNeg])
  obtain ⟨G1, w1, _⟩ := (hl.local (fun y _ b hb => hle y b hb)).wk hD (fun v => .tup [v]) (fun h => .tup (.cons h .nil))
  refine Pu.thaw (GoodAuto_spec o hs) (.bool _) w1 ?_
  have le3 : ∀ b, Heap.le G (((G.set r [I o.states, .sl q1 1 0 o.first.length, .sl q2 3 0 o.edges.length, .sl q3 1 0 o.goals.length]).set r2 b)) := fun b => Heap.le_setN (Heap.le_set hr) hr2
  cases hgo : goodA o
  · (try simp (maxSteps := 1000000) (disch := (first | assumption | (apply Ne.symm; assumption))) only [vw0, vw1, vw2, vw3, vw4, vu0, vu1, ↓condV_t, ↓condV_f, cap_nil, allocV, splice, partV, buildV, eqFieldsV, eqS, tabs, TK.agg, reduceCtorEq, Array.toList, List.map_cons, List.map_nil, ↓reduceIte, List.length_map, Nat.reduceAdd, Nat.reduceLeDiff, Nat.reduceLT, Nat.reduceMul, Nat.reduceSub, Option.bind_some, Option.map_some, bndV, numV, eI, eU, e8, eB, AV.isCell, Int.reduceToNat, Int.reduceSub, Int.reduceAdd, Int.reduceNeg])
    exact fin_le (le3 _) (hb hgo)
  · (try simp (maxSteps := 1000000) (disch := (first | assumption | (apply Ne.symm; assumption))) only [vw0, vw1, vw2, vw3, vw4, vu0, vu1, ↓condV_t, ↓condV_f, cap_nil, allocV, splice, partV, buildV, eqFieldsV, eqS, tabs, TK.agg, reduceCtorEq, Array.toList, List.map_cons, List.map_nil, ↓reduceIte, List.length_map, Nat.reduceAdd, Nat.reduceLeDiff, Nat.reduceLT, Nat.reduceMul, Nat.reduceSub, Option.bind_some, Option.map_some, bndV, numV, eI, eU, e8, eB, AV.isCell, Int.reduceToNat, Int.reduceSub, Int.reduceAdd, Int.reduceNeg])
    exact fin_le (le3 _) (hg hgo)

/-- A row of rows that grows: nothing yet, or a row of one's own. -/
def GAt (x : AV) (gs : List (List Int)) (G : Heap) (D : List Nat) : Prop := ∃ cs D', LL LIc gs cs G D' ∧ ((x = .p .nil ∧ cs = [] ∧ D = []) ∨ ∃ q, x = .sl q 1 0 gs.length ∧ G q = some cs ∧ D = q :: D')
theorem GAt.nil (G : Heap) : GAt (.p .nil) [] G [] := ⟨[], [], ⟨rfl, rfl⟩, .inl ⟨rfl, rfl, rfl⟩⟩
theorem GAt.local {x : AV} {gs : List (List Int)} {G G' : Heap} {D : List Nat} (g : GAt x gs G D) (h : ∀ y ∈ D, ∀ b, G y = some b → G' y = some b) : GAt x gs G' D := by
  obtain ⟨cs, D', hl, h1⟩ := g
  rcases h1 with ⟨rfl, rfl, rfl⟩ | ⟨q, rfl, hq, rfl⟩
  · cases gs with
    | nil => obtain ⟨_, rfl⟩ := hl; exact ⟨[], [], ⟨rfl, rfl⟩, .inl ⟨rfl, rfl, rfl⟩⟩
    | cons a gs => obtain ⟨c1, c2, D1, D2, e, _, ⟨z, rfl, _⟩, _⟩ := hl; simp at e
  · exact ⟨cs, D', LL.local LIc.local hl (fun y hy b hb => h y (List.mem_cons_of_mem _ hy) b hb), .inr ⟨q, rfl, h q (List.mem_cons_self ..) _ hq, rfl⟩⟩
theorem GAt.push {x : AV} {gs : List (List Int)} {G : Heap} {D : List Nat} {l : List Int} {qn ql : Nat} {K : AV → Heap → Prop} (g : GAt x gs G D) (hD : D.Nodup) (hl : G qn = some (cP fI l)) (hn : qn ∉ D) (hql : G ql = some [rowP qn l]) (hlen : gs.length ≤ 1000)
    (h : ∀ q' G' D'', G q' = none → GAt (.sl q' 1 0 (gs.length + 1)) (gs ++ [l]) G' D'' → D''.Nodup → (∀ y ∈ D'', y ∈ D ∨ y = qn ∨ y = q') → (∀ y b, G y = some b → y ∉ D → G' y = some b) → K (.sl q' 1 0 (gs.length + 1)) G') :
    appendV tab 24 24 x (.sl ql 1 0 1) G (wkK K) := by
  obtain ⟨cs, D', hll, h1⟩ := g
  have hcl : cs.length = gs.length := by rw [LL.size LIc.size hll, Nat.mul_one]
  have hqnN : ∀ {q'}, G q' = none → q' ≠ qn := fun hq' e => by rw [e, hl] at hq'; cases hq'
  simp only [appendV, tab_24, tab_22, srcV, hql]
  rcases h1 with ⟨rfl, rfl, rfl⟩ | ⟨q, rfl, hq, rfl⟩
  · have hgs : gs = [] := List.eq_nil_of_length_eq_zero hcl.symm
    subst hgs
    obtain ⟨_, rfl⟩ := hll
    simp only [baseV]
    refine ⟨trivial, by simp, by omega, by omega, rfl, fun q' hq' => wkK.keep ?_⟩
    have hlL : LI l (rowP qn l) (G.set q' ([] ++ [rowP qn l])) [qn] := LI_mk' (by rw [Heap.set_other (Ne.symm (hqnN hq'))]; exact hl)
    refine h q' _ [q', qn] hq' ⟨[rowP qn l], [qn], ?_, .inr ⟨q', rfl, Heap.set_same _ _ _, rfl⟩⟩ (by simp [hqnN hq']) (fun y hy => by simp at hy; rcases hy with rfl | rfl <;> simp) (fun y b hb _ => by rw [Heap.set_other (fun e => by rw [e, hq'] at hb; cases hb)]; exact hb)
    exact ⟨[rowP qn l], [], [qn], [], rfl, by simp, ⟨_, rfl, hlL⟩, ⟨rfl, rfl⟩⟩
  · rw [List.mem_cons, not_or] at hn
    rw [List.nodup_cons] at hD
    simp only [baseV, hq]
    have e1 : List.take (gs.length * 1) (List.drop 0 cs) = cs := by rw [List.drop_zero, Nat.mul_one, ← hcl, List.take_length]
    have e2 : List.take (1 * 1) (List.drop 0 [rowP qn l]) = [rowP qn l] := rfl
    refine ⟨trivial, by simp, trivial, by omega, by omega, by omega, rfl, fun q' hq' => wkK.keep ?_⟩
    rw [e1, e2]
    have nq : q' ≠ q := fun e => by rw [e, hq] at hq'; cases hq'
    have old : ∀ y b, G y = some b → y ≠ q → ((G.del q).set q' (cs ++ [rowP qn l])) y = some b := fun y b hb hy => by
      rw [Heap.set_other (fun e => by rw [e, hq'] at hb; cases hb), Heap.del_other hy]; exact hb
    have hlL : LI l (rowP qn l) ((G.del q).set q' (cs ++ [rowP qn l])) [qn] := LI_mk' (old _ _ hl hn.1)
    have hnD : ∀ y ∈ D', y ≠ q := fun y hy e => hD.1 (e ▸ hy)
    refine h q' _ (q' :: (D' ++ [qn])) hq' ⟨cs ++ [rowP qn l], D' ++ [qn], LL.snoc ⟨_, rfl, hlL⟩ (LL.local LIc.local hll fun y hy b hb => old y b hb (hnD y hy)), .inr ⟨q', by simp, Heap.set_same _ _ _, rfl⟩⟩ ?_ ?_ ?_
    · have hq'D : q' ∉ D' := fun hm => LL.has LIc.has hll q' hm hq'
      rw [List.nodup_cons, List.nodup_append]
      refine ⟨by simp only [List.mem_append, List.mem_singleton, not_or]; exact ⟨hq'D, hqnN hq'⟩, hD.2, by simp, fun a ha b hb e => ?_⟩
      rw [List.mem_singleton] at hb
      exact hn.2 (by rw [← hb, ← e]; exact ha)
    · intro y hy
      simp only [List.mem_cons, List.mem_append, List.not_mem_nil, or_false] at hy ⊢
      rcases hy with rfl | hy | rfl
      · exact .inr (.inr rfl)
      · exact .inl (.inr hy)
      · exact .inr (.inl rfl)
    · intro y b hb hy
      rw [List.mem_cons, not_or] at hy
      exact old y b hb hy.1
end Go.Proofs.Ytfbaijpanbjmpaa
