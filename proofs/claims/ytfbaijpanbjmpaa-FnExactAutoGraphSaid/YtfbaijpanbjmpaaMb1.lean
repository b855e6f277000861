/- Specs: an automaton with one goal: what it is, by the program and by the reference. -/
import Derived.Test.YtfbaijpanbjmpaaMb0
import Derived.Test.YtfbaijpanbjmpaaMa6
namespace Go.Proofs.Ytfbaijpanbjmpaa
open Go Go.Sep Go.Pt
set_option linter.unusedSimpArgs false
set_option linter.unusedVariables false
attribute [local irreducible] CallT

theorem IndexI_spec (l : List Int) (x : Int) (hl : l.length ≤ 1048576) : Pu Try.prog 87 [Is l, I x] (I (if x ∈ l then (l.idxOf x : Int) else -1)) := by
  refine Pu.of fun H => ?_
  refine W87_ok ?_; simp (maxSteps := 1000000) (disch := (first | assumption | (apply Ne.symm; assumption))) only [W87, vw0, vw1, vw2, vw3, vw4, vu0, vu1, ↓condV_t, ↓condV_f, cap_nil, allocV, splice, partV, buildV, eqFieldsV, eqS, tabs, TK.agg, reduceCtorEq, Array.toList, List.map_cons, List.map_nil, ↓reduceIte, List.length_map, Nat.reduceAdd, Nat.reduceLeDiff, Nat.reduceLT, Nat.reduceMul, Nat.reduceSub, Option.bind_some, Option.map_some, bndV, numV, eI, eU, e8, eB, AV.isCell, Int.reduceToNat, Int.reduceSub, Int.reduceAdd, Int.reduceNeg]
  refine L87_0_rule (0 : Nat) (fun i => I i) (fun _ => H) (fun i => i ≤ l.length ∧ ∀ j, j < i → l.getD j default ≠ x) (fun i => l.length - i) ⟨⟨by omega, by intros; omega⟩, .refl _, Heap.le_refl _⟩ ?_
  rintro i ⟨hi, ha⟩
  (try simp (maxSteps := 1000000) (disch := (first | assumption | (apply Ne.symm; assumption))) only [vw0, vw1, vw2, vw3, vw4, vu0, vu1, ↓condV_t, ↓condV_f, cap_nil, allocV, splice, partV, buildV, eqFieldsV, eqS, tabs, TK.agg, reduceCtorEq, Array.toList, List.map_cons, List.map_nil, ↓reduceIte, List.length_map, Nat.reduceAdd, Nat.reduceLeDiff, Nat.reduceLT, Nat.reduceMul, Nat.reduceSub, Option.bind_some, Option.map_some, bndV, numV, eI, eU, e8, eB, AV.isCell, Int.reduceToNat, Int.reduceSub, Int.reduceAdd, Int.reduceNeg, B87_0])
  refine ⟨fun h1 => ⟨by omega, h1, fun h2 => ?_, fun h2 => ⟨i + 1, ⟨by omega, fun j hj => ?_⟩, by omega, ?_⟩⟩, fun h1 => ?_⟩
  · have hlt : i < l.length := by omega
    have hm : x ∈ l := by rw [h2]; exact getD_all (p := fun x => x ∈ l) (fun _ h => h) hlt
    rw [if_pos hm]
    refine congrArg (fun n : Int => I n) ?_
    have : l.idxOf x = i := by
      rw [List.idxOf, List.findIdx_eq hlt]
      refine ⟨by rw [← getD_lt (d := default) hlt, ← h2]; simp, fun j hj => ?_⟩
      have := ha j hj
      rw [getD_lt (by omega : j < l.length)] at this
      simpa using this
    omega
  · rcases Nat.lt_succ_iff_lt_or_eq.1 hj with h | rfl
    · exact ha j h
    · exact fun e => h2 e.symm
  · rw [wk_int, i64_id (by omega) (by omega)]; simp
  · have hm : x ∉ l := by
      intro hm
      obtain ⟨j, hj, e⟩ := List.mem_iff_getElem.1 hm
      exact ha j (by omega) (by rw [getD_lt hj]; exact e)
    rw [if_neg hm]
theorem ContainsI_spec (l : List Int) (x : Int) (hl : l.length ≤ 1048576) : Pu Try.prog 63 [Is l, I x] (B (decide (x ∈ l))) := by
  refine Pu.of fun H => ?_
  refine W63_ok ?_; simp (maxSteps := 1000000) (disch := (first | assumption | (apply Ne.symm; assumption))) only [W63, vw0, vw1, vw2, vw3, vw4, vu0, vu1, ↓condV_t, ↓condV_f, cap_nil, allocV, splice, partV, buildV, eqFieldsV, eqS, tabs, TK.agg, reduceCtorEq, Array.toList, List.map_cons, List.map_nil, ↓reduceIte, List.length_map, Nat.reduceAdd, Nat.reduceLeDiff, Nat.reduceLT, Nat.reduceMul, Nat.reduceSub, Option.bind_some, Option.map_some, bndV, numV, eI, eU, e8, eB, AV.isCell, Int.reduceToNat, Int.reduceSub, Int.reduceAdd, Int.reduceNeg]
  refine Pu.use (IndexI_spec l x hl) ?_
  (try simp (maxSteps := 1000000) (disch := (first | assumption | (apply Ne.symm; assumption))) only [vw0, vw1, vw2, vw3, vw4, vu0, vu1, ↓condV_t, ↓condV_f, cap_nil, allocV, splice, partV, buildV, eqFieldsV, eqS, tabs, TK.agg, reduceCtorEq, Array.toList, List.map_cons, List.map_nil, ↓reduceIte, List.length_map, Nat.reduceAdd, Nat.reduceLeDiff, Nat.reduceLT, Nat.reduceMul, Nat.reduceSub, Option.bind_some, Option.map_some, bndV, numV, eI, eU, e8, eB, AV.isCell, Int.reduceToNat, Int.reduceSub, Int.reduceAdd, Int.reduceNeg])
  refine congrArg (fun b : Bool => B b) ?_
  by_cases h : x ∈ l
  · simp [h]
  · simp [h]
theorem l1Has_spec (l : List Int) (x : Int) (hl : l.length ≤ 1048576) : Pu Try.prog 60 [Is l, I x] (B (decide (x ∈ l))) := by
  refine Pu.of fun H => ?_
  refine W60_ok ?_; simp (maxSteps := 1000000) (disch := (first | assumption | (apply Ne.symm; assumption))) only [W60, vw0, vw1, vw2, vw3, vw4, vu0, vu1, ↓condV_t, ↓condV_f, cap_nil, allocV, splice, partV, buildV, eqFieldsV, eqS, tabs, TK.agg, reduceCtorEq, Array.toList, List.map_cons, List.map_nil, ↓reduceIte, List.length_map, Nat.reduceAdd, Nat.reduceLeDiff, Nat.reduceLT, Nat.reduceMul, Nat.reduceSub, Option.bind_some, Option.map_some, bndV, numV, eI, eU, e8, eB, AV.isCell, Int.reduceToNat, Int.reduceSub, Int.reduceAdd, Int.reduceNeg]
  refine L60_0_rule (0 : Nat) (fun i => I i) (fun _ => H) (fun i => i ≤ l.length ∧ ∀ j, j < i → l.getD j default ≠ x) (fun i => l.length - i) ⟨⟨by omega, by intros; omega⟩, .refl _, Heap.le_refl _⟩ ?_
  rintro i ⟨hi, ha⟩
  (try simp (maxSteps := 1000000) (disch := (first | assumption | (apply Ne.symm; assumption))) only [vw0, vw1, vw2, vw3, vw4, vu0, vu1, ↓condV_t, ↓condV_f, cap_nil, allocV, splice, partV, buildV, eqFieldsV, eqS, tabs, TK.agg, reduceCtorEq, Array.toList, List.map_cons, List.map_nil, ↓reduceIte, List.length_map, Nat.reduceAdd, Nat.reduceLeDiff, Nat.reduceLT, Nat.reduceMul, Nat.reduceSub, Option.bind_some, Option.map_some, bndV, numV, eI, eU, e8, eB, AV.isCell, Int.reduceToNat, Int.reduceSub, Int.reduceAdd, Int.reduceNeg, B60_0])
  refine ⟨fun h1 => ⟨by omega, h1, fun h2 => ?_, fun h2 => ⟨i + 1, ⟨by omega, fun j hj => ?_⟩, by omega, ?_⟩⟩, fun h1 => ?_⟩
  · have hlt : i < l.length := by omega
    have hm : x ∈ l := by rw [← h2]; exact getD_all (p := fun x => x ∈ l) (fun _ h => h) hlt
    rw [decide_eq_true hm]
  · rcases Nat.lt_succ_iff_lt_or_eq.1 hj with h | rfl
    · exact ha j h
    · exact h2
  · rw [wk_int, i64_id (by omega) (by omega)]; simp
  · have hm : x ∉ l := by
      intro hm
      obtain ⟨j, hj, e⟩ := List.mem_iff_getElem.1 hm
      exact ha j (by omega) (by rw [getD_lt hj]; exact e)
    rw [decide_eq_false hm]

/-- Where an edge leads in the automaton of one goal, from copy j on. -/
def onTo (a : Au) (j : Nat) (e : Ed) : Int := if e.src ∈ a.goals.getD j default then ((j + 1 : Nat) : Int) % a.goals.length else j
def onE (a : Au) (j : Nat) (e : Ed) : Ed := ⟨e.src + j * a.states, e.lt, e.dst + onTo a j e * a.states⟩
def onF (a : Au) (j : Nat) : List Ed := ((List.range j).map fun j => a.edges.map (onE a j)).flatten
def onP (a : Au) (j i : Nat) : List Ed := onF a j ++ (a.edges.take i).map (onE a j)
theorem onP_zero (a : Au) (j : Nat) : onP a j 0 = onF a j := by simp [onP]
theorem onP_succ (a : Au) (j : Nat) {i : Nat} (h : i < a.edges.length) : onP a j (i + 1) = onP a j i ++ [onE a j (a.edges.getD i default)] := by
  rw [onP, take_succ_snoc h, List.map_append, ← List.append_assoc]; rfl
theorem onP_all (a : Au) (j : Nat) : onP a j a.edges.length = onF a (j + 1) := by
  rw [onP, List.take_length, onF, onF, List.range_succ, List.map_append, List.flatten_append]; simp
theorem onF_len (a : Au) (j : Nat) : (onF a j).length = j * a.edges.length := by
  induction j with
  | zero => simp [onF]
  | succ j ih =>
    rw [← onP_all, onP, List.length_append, ih, List.length_map, List.take_length, Nat.add_mul, Nat.one_mul]
theorem onP_len (a : Au) (j i : Nat) (hi : i ≤ a.edges.length) : (onP a j i).length = j * a.edges.length + i := by
  rw [onP, List.length_append, onF_len, List.length_map, List.length_take, Nat.min_eq_left hi]
def onT (a : Au) : Au := ⟨a.goals.length * a.states, a.first, onF a a.goals.length, [a.goals.getD 0 default]⟩
def onZ (a : Au) : Au := ⟨a.states, a.first, a.edges, [goalAt a 0]⟩
def onR (a : Au) : Au × Bool := if goodA a then (if a.goals.length < 2 then (onZ a, true) else if goodA (onT a) then (onT a, true) else (zeroA, false)) else (zeroA, false)
theorem goalAt0 {a : Au} (h : ¬ a.goals.length < 2) : goalAt a 0 = a.goals.getD 0 default := by
  unfold goalAt; rw [if_pos (by omega)]; rfl
theorem onT_sm {a : Au} (ha : GoodF a) : smAu (onT a) := by
  have h1 := ha.fi.2
  have h2 := ha.ed
  have h3 := ha.gl
  have hm : a.goals.length * a.edges.length ≤ 6 * 2400 := Nat.mul_le_mul (by omega) (by omega)
  refine ⟨by show a.first.length ≤ _; have := ha.fi.1.1; omega, by show (onF a _).length ≤ _; rw [onF_len]; omega, by simp [onT], fun c hc => ?_⟩
  simp only [onT, List.mem_singleton] at hc
  subst hc
  by_cases h0 : 0 < a.goals.length
  · have := getD_all (p := fun x => smI x ∧ x.length ≤ 96) (d := default) ha.gi h0
    have := this.1.1
    omega
  · have : a.goals = [] := List.eq_nil_of_length_eq_zero (by omega)
    rw [this]; exact Nat.zero_le _
/-- The zero automaton, in rows that were lent. -/
theorem zero_st {H G : Heap} {Ts : List Th} {z1 z2 z3 : Nat} (s : St H Ts G) (i j k : Nat) (hi : Ts[i]? = some (riT z1 (.p .nil) [] [z1])) (hj : Ts[j]? = some (reT z2 (.p .nil) [] [z2])) (hk : Ts[k]? = some (rgT z3 (.p .nil) [] [z3])) (hij : i ≠ j) (hik : i ≠ k) (hjk : j ≠ k) {K : AV → Heap → Prop}
    (h : ∀ v G D, LAu zeroA v G D → New H G D → K (.tup [v, B false]) G) : wkK K (.tup [zA, B false]) G := by
  obtain ⟨x', y', w', hw, hl, hn⟩ := rz_auto 0 s i j k hi hj hk hij hik hjk
  exact ⟨_, _, .val (v' := .tup [.agg [I 0, x', y', w'], B false]) (wk_tup ⟨hw, .refl _, trivial⟩), h _ _ _ hl hn⟩
theorem lend3 {H G : Heap} {Ts : List Th} (s : St H Ts G) {K : AV → Heap → Prop} {P : Program} {f : Nat} {args : List AV} (hb : HasBody P f) (h : ∀ z1 z2 z3 G, St H (riT z1 (.p .nil) [] [z1] :: reT z2 (.p .nil) [] [z2] :: rgT z3 (.p .nil) [] [z3] :: Ts) G → CallT P f args G K) : CallT P f args G K := by
  refine CallT.ghost hb fun z1 hz1 => ?_
  refine CallT.ghost hb fun z2 hz2 => ?_
  refine CallT.ghost hb fun z3 hz3 => ?_
  have s := ((s.cell hz1 []).cell hz2 []).cell hz3 []
  exact h _ _ _ _ (lent LIc.local LIc.has 1 (lent (LPl.local eE) (LPl.has eE) 3 (lent (LPl.local eI) (LPl.has eI) 1 s 0 rfl) 1 rfl) 2 rfl)
/-- Rows that make an automaton. -/
theorem rz_au {H G : Heap} {Ts : List Th} {z1 z2 z3 : Nat} {x y w : AV} {l : List Int} {es : List Ed} {gs : List (List Int)} {D1 D2 D3 : List Nat} (n : Int) (s : St H (rgT z3 w gs D3 :: reT z2 y es D2 :: riT z1 x l D1 :: Ts) G) :
    ∃ q1 q2 q3, AV.wk (.agg [I n, x, y, w]) (.agg [I n, .sl q1 1 0 l.length, .sl q2 3 0 es.length, .sl q3 1 0 gs.length]) ∧ St H (auT ⟨n, l, es, gs⟩ (.agg [I n, .sl q1 1 0 l.length, .sl q2 3 0 es.length, .sl q3 1 0 gs.length]) (D1 ++ (D2 ++ D3)) :: Ts) G := by
  obtain ⟨x', y', w', hw, hl, hn⟩ := rz_auto n s 2 1 0 rfl rfl rfl (by decide) (by decide) (by decide)
  obtain ⟨a, b, c, D1', D2', D3', e, hD, h1, h2, h3⟩ := id hl
  obtain ⟨q1, rfl⟩ := LRow.sl h1
  obtain ⟨q2, rfl⟩ := LRow.sl h2
  obtain ⟨q3, rfl⟩ := LRow.sl h3
  injection e with e
  simp only [List.cons.injEq, and_true, true_and] at e
  obtain ⟨rfl, rfl, rfl⟩ := e
  refine ⟨q1, q2, q3, hw, ?_⟩
  refine St.step (old := [rgT z3 w gs D3, reT z2 y es D2, riT z1 x l D1]) s [auT _ _ (D1 ++ (D2 ++ D3))] ?_ (fun t ht u hu => ?_) (fun y b hb _ => hb) (fun t ht => ?_)
  · simpa [auT] using hn.nd
  · rw [List.mem_singleton] at ht; subst ht
    simp only [auT, List.mem_append] at hu
    refine .inl ?_
    rcases hu with hu | hu | hu
    · exact ⟨_, List.mem_cons_of_mem _ (List.mem_cons_of_mem _ (List.mem_cons_self ..)), hu⟩
    · exact ⟨_, List.mem_cons_of_mem _ (List.mem_cons_self ..), hu⟩
    · exact ⟨_, List.mem_cons_self .., hu⟩
  · rw [List.mem_singleton] at ht; subst ht
    exact hl
theorem au_new {H G : Heap} {Ts : List Th} {a : Au} {v : AV} {D : List Nat} (s : St H Ts G) (i : Nat) (h : Ts[i]? = some (auT a v D)) : LAu a v G D ∧ New H G D :=
  ⟨s.get i h, s.ndT i h, s.fr _ (List.mem_of_getElem? h), s.le⟩

/-- Copies of automata, which own their rows. -/
theorem copyAuto_live (a : Au) (ha : GoodF a) {H : Heap} {K : AV → Heap → Prop} (h : ∀ v G D, LAu a v G D → New H G D → K v G) : CallT Try.prog 61 [aAu a] H K := by
  have hfi := ha.fi
  have hed := ha.ed
  have hgl := ha.gl
  refine CallT.fin ?_
  refine CallT.ghost W61_hb fun z hz => ?_
  have st := lent LIc.local LIc.has 1 ((St.nil H).cell hz []) 0 rfl
  generalize H.set z [] = H0 at st ⊢
  refine W61_ok ?_; simp (maxSteps := 1000000) (disch := (first | assumption | (apply Ne.symm; assumption))) only [W61, vw0, vw1, vw2, vw3, vw4, vu0, vu1, ↓condV_t, ↓condV_f, cap_nil, allocV, splice, partV, buildV, eqFieldsV, eqS, tabs, TK.agg, reduceCtorEq, Array.toList, List.map_cons, List.map_nil, ↓reduceIte, List.length_map, Nat.reduceAdd, Nat.reduceLeDiff, Nat.reduceLT, Nat.reduceMul, Nat.reduceSub, Option.bind_some, Option.map_some, bndV, numV, eI, eU, e8, eB, AV.isCell, Int.reduceToNat, Int.reduceSub, Int.reduceAdd, Int.reduceNeg]
  intro r hr r2 nr2 hr2
  replace st := (st.cell hr [I a.states, Is a.first, Es a.edges, Ls a.goals]).cell (r := r2) (by rw [Heap.set_other nr2]; exact hr2) [I 0, .p .nil, .p .nil, .p .nil]
  generalize (H0.set r [I a.states, Is a.first, Es a.edges, Ls a.goals]).set r2 [I 0, .p .nil, .p .nil, .p .nil] = G at st ⊢
  clear hr hr2 nr2
  (try simp (maxSteps := 1000000) (disch := (first | assumption | (apply Ne.symm; assumption))) only [vw0, vw1, vw2, vw3, vw4, vu0, vu1, ↓condV_t, ↓condV_f, cap_nil, allocV, splice, partV, buildV, eqFieldsV, eqS, tabs, TK.agg, reduceCtorEq, Array.toList, List.map_cons, List.map_nil, ↓reduceIte, List.length_map, Nat.reduceAdd, Nat.reduceLeDiff, Nat.reduceLT, Nat.reduceMul, Nat.reduceSub, Option.bind_some, Option.map_some, bndV, numV, eI, eU, e8, eB, AV.isCell, Int.reduceToNat, Int.reduceSub, Int.reduceAdd, Int.reduceNeg, load_at (st.get 1 rfl)])
  refine CloneI_row a.first (by omega) fun q1 hq1 => ?_
  replace st := st.cell hq1 (cP fI a.first)
  generalize G.set q1 (cP fI a.first) = G1 at st ⊢
  (try simp (maxSteps := 1000000) (disch := (first | assumption | (apply Ne.symm; assumption))) only [vw0, vw1, vw2, vw3, vw4, vu0, vu1, ↓condV_t, ↓condV_f, cap_nil, allocV, splice, partV, buildV, eqFieldsV, eqS, tabs, TK.agg, reduceCtorEq, Array.toList, List.map_cons, List.map_nil, ↓reduceIte, List.length_map, Nat.reduceAdd, Nat.reduceLeDiff, Nat.reduceLT, Nat.reduceMul, Nat.reduceSub, Option.bind_some, Option.map_some, bndV, numV, eI, eU, e8, eB, AV.isCell, Int.reduceToNat, Int.reduceSub, Int.reduceAdd, Int.reduceNeg, load_at (st.get 2 rfl)])
  refine CloneE_row a.edges (by omega) fun qe hqe => ?_
  replace st := st.cell hqe (cE a.edges)
  generalize G1.set qe (cE a.edges) = G2 at st ⊢
  (try simp (maxSteps := 1000000) (disch := (first | assumption | (apply Ne.symm; assumption))) only [vw0, vw1, vw2, vw3, vw4, vu0, vu1, ↓condV_t, ↓condV_f, cap_nil, allocV, splice, partV, buildV, eqFieldsV, eqS, tabs, TK.agg, reduceCtorEq, Array.toList, List.map_cons, List.map_nil, ↓reduceIte, List.length_map, Nat.reduceAdd, Nat.reduceLeDiff, Nat.reduceLT, Nat.reduceMul, Nat.reduceSub, Option.bind_some, Option.map_some, bndV, numV, eI, eU, e8, eB, AV.isCell, Int.reduceToNat, Int.reduceSub, Int.reduceAdd, Int.reduceNeg, load_at (st.get 3 rfl)])
  intro r3 hr3
  replace st := st.cell hr3 [I a.states, rowP q1 a.first, rowE qe a.edges, .p .nil]
  (try simp (maxSteps := 1000000) (disch := (first | assumption | (apply Ne.symm; assumption))) only [vw0, vw1, vw2, vw3, vw4, vu0, vu1, ↓condV_t, ↓condV_f, cap_nil, allocV, splice, partV, buildV, eqFieldsV, eqS, tabs, TK.agg, reduceCtorEq, Array.toList, List.map_cons, List.map_nil, ↓reduceIte, List.length_map, Nat.reduceAdd, Nat.reduceLeDiff, Nat.reduceLT, Nat.reduceMul, Nat.reduceSub, Option.bind_some, Option.map_some, bndV, numV, eI, eU, e8, eB, AV.isCell, Int.reduceToNat, Int.reduceSub, Int.reduceAdd, Int.reduceNeg, load_at (st.get 4 rfl)])
  generalize G2.set r3 [I a.states, rowP q1 a.first, rowE qe a.edges, .p .nil] = G3 at st ⊢
  refine L61_0_rule ((0 : Nat), (.p .nil : AV), [z], G3) (fun s => I s.1) (fun s => s.2.2.2)
    (fun s => s.1 ≤ a.goals.length ∧ St H [cellT r3 [I a.states, rowP q1 a.first, rowE qe a.edges, s.2.1], cellT qe (cE a.edges), cellT q1 (cP fI a.first), cellT r2 [I 0, .p .nil, .p .nil, .p .nil], cellT r [I a.states, Is a.first, Es a.edges, Ls a.goals], rgT z s.2.1 (a.goals.take s.1) s.2.2.1] s.2.2.2) (fun s => a.goals.length - s.1)
    ⟨⟨by simp, st⟩, .refl _, Heap.le_refl _⟩ ?_
  clear st
  rintro ⟨i, x, D, G⟩ ⟨hi, st⟩
  dsimp only at hi st
  (try simp (maxSteps := 1000000) (disch := (first | assumption | (apply Ne.symm; assumption))) only [vw0, vw1, vw2, vw3, vw4, vu0, vu1, ↓condV_t, ↓condV_f, cap_nil, allocV, splice, partV, buildV, eqFieldsV, eqS, tabs, TK.agg, reduceCtorEq, Array.toList, List.map_cons, List.map_nil, ↓reduceIte, List.length_map, Nat.reduceAdd, Nat.reduceLeDiff, Nat.reduceLT, Nat.reduceMul, Nat.reduceSub, Option.bind_some, Option.map_some, bndV, numV, eI, eU, e8, eB, AV.isCell, Int.reduceToNat, Int.reduceSub, Int.reduceAdd, Int.reduceNeg, B61_0])
  refine ⟨fun h1 => ⟨by omega, h1, ?_⟩, fun h1 => ?_⟩
  · have hlt : i < a.goals.length := by omega
    have hg := getD_all (p := fun x => smI x ∧ x.length ≤ 96) (d := default) ha.gi hlt
    (try simp (maxSteps := 1000000) (disch := (first | assumption | (apply Ne.symm; assumption))) only [vw0, vw1, vw2, vw3, vw4, vu0, vu1, ↓condV_t, ↓condV_f, cap_nil, allocV, splice, partV, buildV, eqFieldsV, eqS, tabs, TK.agg, reduceCtorEq, Array.toList, List.map_cons, List.map_nil, ↓reduceIte, List.length_map, Nat.reduceAdd, Nat.reduceLeDiff, Nat.reduceLT, Nat.reduceMul, Nat.reduceSub, Option.bind_some, Option.map_some, bndV, numV, eI, eU, e8, eB, AV.isCell, Int.reduceToNat, Int.reduceSub, Int.reduceAdd, Int.reduceNeg, load_at (st.get 0 rfl)])
    refine CloneI_row (a.goals.getD i default) (by omega) fun qn hqn => ?_
    replace st := st.cell hqn (cP fI (a.goals.getD i default))
    generalize G.set qn (cP fI (a.goals.getD i default)) = Gn at st ⊢
    (try simp (maxSteps := 1000000) (disch := (first | assumption | (apply Ne.symm; assumption))) only [vw0, vw1, vw2, vw3, vw4, vu0, vu1, ↓condV_t, ↓condV_f, cap_nil, allocV, splice, partV, buildV, eqFieldsV, eqS, tabs, TK.agg, reduceCtorEq, Array.toList, List.map_cons, List.map_nil, ↓reduceIte, List.length_map, Nat.reduceAdd, Nat.reduceLeDiff, Nat.reduceLT, Nat.reduceMul, Nat.reduceSub, Option.bind_some, Option.map_some, bndV, numV, eI, eU, e8, eB, AV.isCell, Int.reduceToNat, Int.reduceSub, Int.reduceAdd, Int.reduceNeg, load_at (st.get 1 rfl)])
    refine lit_live1 fun ql hql => ?_
    replace st := st.cell hql [rowP qn (a.goals.getD i default)]
    generalize Gn.set ql [.sl qn 1 0 (a.goals.getD i default).length] = Gl at st ⊢
    (try simp (maxSteps := 1000000) (disch := (first | assumption | (apply Ne.symm; assumption))) only [vw0, vw1, vw2, vw3, vw4, vu0, vu1, ↓condV_t, ↓condV_f, cap_nil, allocV, splice, partV, buildV, eqFieldsV, eqS, tabs, TK.agg, reduceCtorEq, Array.toList, List.map_cons, List.map_nil, ↓reduceIte, List.length_map, Nat.reduceAdd, Nat.reduceLeDiff, Nat.reduceLT, Nat.reduceMul, Nat.reduceSub, Option.bind_some, Option.map_some, bndV, numV, eI, eU, e8, eB, AV.isCell, Int.reduceToNat, Int.reduceSub, Int.reduceAdd, Int.reduceNeg, load_at (st.get 2 rfl)])
    refine rz_pushL st 5 rfl (by rw [List.length_take]; omega) fun q' D' G' hq' st => ?_
    rw [← take_succ_snoc hlt] at st
    have hln : (a.goals.take i).length + 1 = i + 1 := by rw [List.length_take, Nat.min_eq_left hi]
    rw [hln] at st ⊢
    (try simp (maxSteps := 1000000) (disch := (first | assumption | (apply Ne.symm; assumption))) only [vw0, vw1, vw2, vw3, vw4, vu0, vu1, ↓condV_t, ↓condV_f, cap_nil, allocV, splice, partV, buildV, eqFieldsV, eqS, tabs, TK.agg, reduceCtorEq, Array.toList, List.map_cons, List.map_nil, ↓reduceIte, List.length_map, Nat.reduceAdd, Nat.reduceLeDiff, Nat.reduceLT, Nat.reduceMul, Nat.reduceSub, Option.bind_some, Option.map_some, bndV, numV, eI, eU, e8, eB, AV.isCell, Int.reduceToNat, Int.reduceSub, Int.reduceAdd, Int.reduceNeg, store_at (st.get 0 rfl)])
    refine ⟨(i + 1, .sl q' 1 0 (i + 1), D', _), ⟨by simp only; omega, st.put 0 rfl [I a.states, rowP q1 a.first, rowE qe a.edges, .sl q' 1 0 (i + 1)]⟩, by simp only; omega, ?_, Heap.le_refl _⟩
    rw [wk_int, i64_id (by omega) (by omega)]; simp
  · have : i = a.goals.length := by omega
    subst this
    rw [List.take_length] at st
    rcases (st.get 5 rfl : RZ LIc 1 z x _ G D).sl with rfl | ⟨qx, rfl⟩
    · (try simp (maxSteps := 1000000) (disch := (first | assumption | (apply Ne.symm; assumption))) only [vw0, vw1, vw2, vw3, vw4, vu0, vu1, ↓condV_t, ↓condV_f, cap_nil, allocV, splice, partV, buildV, eqFieldsV, eqS, tabs, TK.agg, reduceCtorEq, Array.toList, List.map_cons, List.map_nil, ↓reduceIte, List.length_map, Nat.reduceAdd, Nat.reduceLeDiff, Nat.reduceLT, Nat.reduceMul, Nat.reduceSub, Option.bind_some, Option.map_some, bndV, numV, eI, eU, e8, eB, AV.isCell, Int.reduceToNat, Int.reduceSub, Int.reduceAdd, Int.reduceNeg, load_at (st.get 0 rfl), store_at (st.get 3 rfl)])
      replace st := owned_i (owned_e (st.put 3 rfl [I a.states, rowP q1 a.first, rowE qe a.edges, .p .nil]) 1 rfl) 2 rfl
      obtain ⟨x', y', w', hw, hl, hn⟩ := rz_auto a.states st 2 1 5 rfl rfl rfl (by decide) (by decide) (by decide)
      exact ⟨_, _, .val hw, h _ _ _ hl hn⟩
    · (try simp (maxSteps := 1000000) (disch := (first | assumption | (apply Ne.symm; assumption))) only [vw0, vw1, vw2, vw3, vw4, vu0, vu1, ↓condV_t, ↓condV_f, cap_nil, allocV, splice, partV, buildV, eqFieldsV, eqS, tabs, TK.agg, reduceCtorEq, Array.toList, List.map_cons, List.map_nil, ↓reduceIte, List.length_map, Nat.reduceAdd, Nat.reduceLeDiff, Nat.reduceLT, Nat.reduceMul, Nat.reduceSub, Option.bind_some, Option.map_some, bndV, numV, eI, eU, e8, eB, AV.isCell, Int.reduceToNat, Int.reduceSub, Int.reduceAdd, Int.reduceNeg, load_at (st.get 0 rfl), store_at (st.get 3 rfl)])
      replace st := owned_i (owned_e (st.put 3 rfl [I a.states, rowP q1 a.first, rowE qe a.edges, .sl qx 1 0 a.goals.length]) 1 rfl) 2 rfl
      obtain ⟨x', y', w', hw, hl, hn⟩ := rz_auto a.states st 2 1 5 rfl rfl rfl (by decide) (by decide) (by decide)
      exact ⟨_, _, .val hw, h _ _ _ hl hn⟩
theorem l12Own_live (a : Au) (ha : GoodF a) {H : Heap} {K : AV → Heap → Prop} (h : ∀ v G D, LAu a v G D → New H G D → K v G) : CallT Try.prog 57 [aAu a] H K := by
  have hfi := ha.fi
  have hed := ha.ed
  have hgl := ha.gl
  refine CallT.fin ?_
  refine CallT.ghost W57_hb fun z hz => ?_
  have st := lent LIc.local LIc.has 1 ((St.nil H).cell hz []) 0 rfl
  generalize H.set z [] = H0 at st ⊢
  refine W57_ok ?_; simp (maxSteps := 1000000) (disch := (first | assumption | (apply Ne.symm; assumption))) only [W57, vw0, vw1, vw2, vw3, vw4, vu0, vu1, ↓condV_t, ↓condV_f, cap_nil, allocV, splice, partV, buildV, eqFieldsV, eqS, tabs, TK.agg, reduceCtorEq, Array.toList, List.map_cons, List.map_nil, ↓reduceIte, List.length_map, Nat.reduceAdd, Nat.reduceLeDiff, Nat.reduceLT, Nat.reduceMul, Nat.reduceSub, Option.bind_some, Option.map_some, bndV, numV, eI, eU, e8, eB, AV.isCell, Int.reduceToNat, Int.reduceSub, Int.reduceAdd, Int.reduceNeg]
  intro r hr r2 nr2 hr2
  replace st := (st.cell hr [I a.states, Is a.first, Es a.edges, Ls a.goals]).cell (r := r2) (by rw [Heap.set_other nr2]; exact hr2) [I 0, .p .nil, .p .nil, .p .nil]
  generalize (H0.set r [I a.states, Is a.first, Es a.edges, Ls a.goals]).set r2 [I 0, .p .nil, .p .nil, .p .nil] = G at st ⊢
  clear hr hr2 nr2
  have n0 : buildN tab 28 0 [] = some (fun r => .sl r 3 0 0, []) := by
    simp only [buildN, tab_28, tab_61, ifN, fillV, zerosA]
    rfl
  (try simp (maxSteps := 1000000) (disch := (first | assumption | (apply Ne.symm; assumption))) only [vw0, vw1, vw2, vw3, vw4, vu0, vu1, ↓condV_t, ↓condV_f, cap_nil, allocV, splice, partV, buildV, eqFieldsV, eqS, tabs, TK.agg, reduceCtorEq, Array.toList, List.map_cons, List.map_nil, ↓reduceIte, List.length_map, Nat.reduceAdd, Nat.reduceLeDiff, Nat.reduceLT, Nat.reduceMul, Nat.reduceSub, Option.bind_some, Option.map_some, bndV, numV, eI, eU, e8, eB, AV.isCell, Int.reduceToNat, Int.reduceSub, Int.reduceAdd, Int.reduceNeg, load_at (st.get 1 rfl), n0, safeV_some, newV_some])
  refine l1Own_row a.first (by omega) fun q1 hq1 => ?_
  replace st := st.cell hq1 (cP fI a.first)
  generalize G.set q1 (cP fI a.first) = G1 at st ⊢
  (try simp (maxSteps := 1000000) (disch := (first | assumption | (apply Ne.symm; assumption))) only [vw0, vw1, vw2, vw3, vw4, vu0, vu1, ↓condV_t, ↓condV_f, cap_nil, allocV, splice, partV, buildV, eqFieldsV, eqS, tabs, TK.agg, reduceCtorEq, Array.toList, List.map_cons, List.map_nil, ↓reduceIte, List.length_map, Nat.reduceAdd, Nat.reduceLeDiff, Nat.reduceLT, Nat.reduceMul, Nat.reduceSub, Option.bind_some, Option.map_some, bndV, numV, eI, eU, e8, eB, AV.isCell, Int.reduceToNat, Int.reduceSub, Int.reduceAdd, Int.reduceNeg, load_at (st.get 2 rfl)])
  intro q0 hq0
  refine app_topE (xs := []) (ys := a.edges) hq0 (by simp; omega) fun qe hqe => ?_
  rw [List.nil_append]
  replace st := st.cell hqe (cE a.edges)
  generalize G1.set qe (cE a.edges) = G2 at st ⊢
  (try simp (maxSteps := 1000000) (disch := (first | assumption | (apply Ne.symm; assumption))) only [vw0, vw1, vw2, vw3, vw4, vu0, vu1, ↓condV_t, ↓condV_f, cap_nil, allocV, splice, partV, buildV, eqFieldsV, eqS, tabs, TK.agg, reduceCtorEq, Array.toList, List.map_cons, List.map_nil, ↓reduceIte, List.length_map, Nat.reduceAdd, Nat.reduceLeDiff, Nat.reduceLT, Nat.reduceMul, Nat.reduceSub, Option.bind_some, Option.map_some, bndV, numV, eI, eU, e8, eB, AV.isCell, Int.reduceToNat, Int.reduceSub, Int.reduceAdd, Int.reduceNeg, load_at (st.get 3 rfl)])
  intro r3 hr3
  replace st := st.cell hr3 [I a.states, rowP q1 a.first, rowE qe a.edges, .p .nil]
  (try simp (maxSteps := 1000000) (disch := (first | assumption | (apply Ne.symm; assumption))) only [vw0, vw1, vw2, vw3, vw4, vu0, vu1, ↓condV_t, ↓condV_f, cap_nil, allocV, splice, partV, buildV, eqFieldsV, eqS, tabs, TK.agg, reduceCtorEq, Array.toList, List.map_cons, List.map_nil, ↓reduceIte, List.length_map, Nat.reduceAdd, Nat.reduceLeDiff, Nat.reduceLT, Nat.reduceMul, Nat.reduceSub, Option.bind_some, Option.map_some, bndV, numV, eI, eU, e8, eB, AV.isCell, Int.reduceToNat, Int.reduceSub, Int.reduceAdd, Int.reduceNeg, load_at (st.get 4 rfl)])
  generalize G2.set r3 [I a.states, rowP q1 a.first, rowE qe a.edges, .p .nil] = G3 at st ⊢
  refine L57_0_rule ((0 : Nat), (.p .nil : AV), [z], G3) (fun s => I s.1) (fun s => s.2.2.2)
    (fun s => s.1 ≤ a.goals.length ∧ St H [cellT r3 [I a.states, rowP q1 a.first, rowE qe a.edges, s.2.1], cellT qe (cE a.edges), cellT q1 (cP fI a.first), cellT r2 [I 0, .p .nil, .p .nil, .p .nil], cellT r [I a.states, Is a.first, Es a.edges, Ls a.goals], rgT z s.2.1 (a.goals.take s.1) s.2.2.1] s.2.2.2) (fun s => a.goals.length - s.1)
    ⟨⟨by simp, st⟩, .refl _, Heap.le_refl _⟩ ?_
  clear st
  rintro ⟨i, x, D, G⟩ ⟨hi, st⟩
  dsimp only at hi st
  (try simp (maxSteps := 1000000) (disch := (first | assumption | (apply Ne.symm; assumption))) only [vw0, vw1, vw2, vw3, vw4, vu0, vu1, ↓condV_t, ↓condV_f, cap_nil, allocV, splice, partV, buildV, eqFieldsV, eqS, tabs, TK.agg, reduceCtorEq, Array.toList, List.map_cons, List.map_nil, ↓reduceIte, List.length_map, Nat.reduceAdd, Nat.reduceLeDiff, Nat.reduceLT, Nat.reduceMul, Nat.reduceSub, Option.bind_some, Option.map_some, bndV, numV, eI, eU, e8, eB, AV.isCell, Int.reduceToNat, Int.reduceSub, Int.reduceAdd, Int.reduceNeg, B57_0])
  refine ⟨fun h1 => ⟨by omega, h1, ?_⟩, fun h1 => ?_⟩
  · have hlt : i < a.goals.length := by omega
    have hg := getD_all (p := fun x => smI x ∧ x.length ≤ 96) (d := default) ha.gi hlt
    (try simp (maxSteps := 1000000) (disch := (first | assumption | (apply Ne.symm; assumption))) only [vw0, vw1, vw2, vw3, vw4, vu0, vu1, ↓condV_t, ↓condV_f, cap_nil, allocV, splice, partV, buildV, eqFieldsV, eqS, tabs, TK.agg, reduceCtorEq, Array.toList, List.map_cons, List.map_nil, ↓reduceIte, List.length_map, Nat.reduceAdd, Nat.reduceLeDiff, Nat.reduceLT, Nat.reduceMul, Nat.reduceSub, Option.bind_some, Option.map_some, bndV, numV, eI, eU, e8, eB, AV.isCell, Int.reduceToNat, Int.reduceSub, Int.reduceAdd, Int.reduceNeg, load_at (st.get 0 rfl)])
    refine l1Own_row (a.goals.getD i default) (by omega) fun qn hqn => ?_
    replace st := st.cell hqn (cP fI (a.goals.getD i default))
    generalize G.set qn (cP fI (a.goals.getD i default)) = Gn at st ⊢
    (try simp (maxSteps := 1000000) (disch := (first | assumption | (apply Ne.symm; assumption))) only [vw0, vw1, vw2, vw3, vw4, vu0, vu1, ↓condV_t, ↓condV_f, cap_nil, allocV, splice, partV, buildV, eqFieldsV, eqS, tabs, TK.agg, reduceCtorEq, Array.toList, List.map_cons, List.map_nil, ↓reduceIte, List.length_map, Nat.reduceAdd, Nat.reduceLeDiff, Nat.reduceLT, Nat.reduceMul, Nat.reduceSub, Option.bind_some, Option.map_some, bndV, numV, eI, eU, e8, eB, AV.isCell, Int.reduceToNat, Int.reduceSub, Int.reduceAdd, Int.reduceNeg, load_at (st.get 1 rfl)])
    refine lit_live1 fun ql hql => ?_
    replace st := st.cell hql [rowP qn (a.goals.getD i default)]
    generalize Gn.set ql [.sl qn 1 0 (a.goals.getD i default).length] = Gl at st ⊢
    (try simp (maxSteps := 1000000) (disch := (first | assumption | (apply Ne.symm; assumption))) only [vw0, vw1, vw2, vw3, vw4, vu0, vu1, ↓condV_t, ↓condV_f, cap_nil, allocV, splice, partV, buildV, eqFieldsV, eqS, tabs, TK.agg, reduceCtorEq, Array.toList, List.map_cons, List.map_nil, ↓reduceIte, List.length_map, Nat.reduceAdd, Nat.reduceLeDiff, Nat.reduceLT, Nat.reduceMul, Nat.reduceSub, Option.bind_some, Option.map_some, bndV, numV, eI, eU, e8, eB, AV.isCell, Int.reduceToNat, Int.reduceSub, Int.reduceAdd, Int.reduceNeg, load_at (st.get 2 rfl)])
    refine rz_pushL st 5 rfl (by rw [List.length_take]; omega) fun q' D' G' hq' st => ?_
    rw [← take_succ_snoc hlt] at st
    have hln : (a.goals.take i).length + 1 = i + 1 := by rw [List.length_take, Nat.min_eq_left hi]
    rw [hln] at st ⊢
    (try simp (maxSteps := 1000000) (disch := (first | assumption | (apply Ne.symm; assumption))) only [vw0, vw1, vw2, vw3, vw4, vu0, vu1, ↓condV_t, ↓condV_f, cap_nil, allocV, splice, partV, buildV, eqFieldsV, eqS, tabs, TK.agg, reduceCtorEq, Array.toList, List.map_cons, List.map_nil, ↓reduceIte, List.length_map, Nat.reduceAdd, Nat.reduceLeDiff, Nat.reduceLT, Nat.reduceMul, Nat.reduceSub, Option.bind_some, Option.map_some, bndV, numV, eI, eU, e8, eB, AV.isCell, Int.reduceToNat, Int.reduceSub, Int.reduceAdd, Int.reduceNeg, store_at (st.get 0 rfl)])
    refine ⟨(i + 1, .sl q' 1 0 (i + 1), D', _), ⟨by simp only; omega, st.put 0 rfl [I a.states, rowP q1 a.first, rowE qe a.edges, .sl q' 1 0 (i + 1)]⟩, by simp only; omega, ?_, Heap.le_refl _⟩
    rw [wk_int, i64_id (by omega) (by omega)]; simp
  · have : i = a.goals.length := by omega
    subst this
    rw [List.take_length] at st
    rcases (st.get 5 rfl : RZ LIc 1 z x _ G D).sl with rfl | ⟨qx, rfl⟩
    · (try simp (maxSteps := 1000000) (disch := (first | assumption | (apply Ne.symm; assumption))) only [vw0, vw1, vw2, vw3, vw4, vu0, vu1, ↓condV_t, ↓condV_f, cap_nil, allocV, splice, partV, buildV, eqFieldsV, eqS, tabs, TK.agg, reduceCtorEq, Array.toList, List.map_cons, List.map_nil, ↓reduceIte, List.length_map, Nat.reduceAdd, Nat.reduceLeDiff, Nat.reduceLT, Nat.reduceMul, Nat.reduceSub, Option.bind_some, Option.map_some, bndV, numV, eI, eU, e8, eB, AV.isCell, Int.reduceToNat, Int.reduceSub, Int.reduceAdd, Int.reduceNeg, load_at (st.get 0 rfl), store_at (st.get 3 rfl)])
      replace st := owned_i (owned_e (st.put 3 rfl [I a.states, rowP q1 a.first, rowE qe a.edges, .p .nil]) 1 rfl) 2 rfl
      obtain ⟨x', y', w', hw, hl, hn⟩ := rz_auto a.states st 2 1 5 rfl rfl rfl (by decide) (by decide) (by decide)
      exact ⟨_, _, .val hw, h _ _ _ hl hn⟩
    · (try simp (maxSteps := 1000000) (disch := (first | assumption | (apply Ne.symm; assumption))) only [vw0, vw1, vw2, vw3, vw4, vu0, vu1, ↓condV_t, ↓condV_f, cap_nil, allocV, splice, partV, buildV, eqFieldsV, eqS, tabs, TK.agg, reduceCtorEq, Array.toList, List.map_cons, List.map_nil, ↓reduceIte, List.length_map, Nat.reduceAdd, Nat.reduceLeDiff, Nat.reduceLT, Nat.reduceMul, Nat.reduceSub, Option.bind_some, Option.map_some, bndV, numV, eI, eU, e8, eB, AV.isCell, Int.reduceToNat, Int.reduceSub, Int.reduceAdd, Int.reduceNeg, load_at (st.get 0 rfl), store_at (st.get 3 rfl)])
      replace st := owned_i (owned_e (st.put 3 rfl [I a.states, rowP q1 a.first, rowE qe a.edges, .sl qx 1 0 a.goals.length]) 1 rfl) 2 rfl
      obtain ⟨x', y', w', hw, hl, hn⟩ := rz_auto a.states st 2 1 5 rfl rfl rfl (by decide) (by decide) (by decide)
      exact ⟨_, _, .val hw, h _ _ _ hl hn⟩
end Go.Proofs.Ytfbaijpanbjmpaa
