/- Specs: the graph of an automaton, by the program (next). -/
import Derived.Test.YtfbaijpanbjmpaaMg0
import Derived.Test.YtfbaijpanbjmpaaSs2
import Derived.Test.YtfbaijpanbjmpaaMb1
namespace Go.Proofs.Ytfbaijpanbjmpaa
open Go Go.Sep Go.Pt
set_option linter.unusedSimpArgs false
set_option linter.unusedVariables false
attribute [local irreducible] CallT

theorem rn_appI {H G : Heap} {Ts : List Th} {x : AV} {xs ys : List Int} {D : List Nat} (s : St H Ts G) (i : Nat) (hi : Ts[i]? = some (rnI x xs D)) (hl : xs.length + ys.length ≤ 1000000) {K : AV → Heap → Prop}
    (h : ∀ q' G', G q' = none → St H (Ts.set i (rnI (rowP q' (xs ++ ys)) (xs ++ ys) [q'])) G' → K (rowP q' (xs ++ ys)) G') : appendV tab 22 22 x (Is ys) G (wkK K) :=
  RN.app (bz := 8) tab_22 rfl tab_3 tab_22 rfl rfl rfl (fun _ => rfl) s i hi rfl (by omega) (by omega) h
theorem rnI_cases {x : AV} {l : List Int} {G : Heap} {D : List Nat} (h : RN (LPl eI) 1 x l G D) : (x = .p .nil ∧ l = [] ∧ D = []) ∨ ∃ q, x = rowP q l ∧ G q = some (cP fI l) ∧ D = [q] := by
  rcases h with h | ⟨q, cs, D', rfl, hq, hll, rfl⟩
  · exact .inl h
  · obtain ⟨rfl, rfl⟩ := LL.plain' hll
    refine .inr ⟨q, rfl, ?_, rfl⟩
    have e : cells (l.map eI) = cP fI l := cells_P fI l
    rw [← e]; exact hq
theorem rnI_mk {l : List Int} {G : Heap} {q : Nat} (h : G q = some (cP fI l)) : RN (LPl eI) 1 (rowP q l) l G [q] := .inr (LI_mk' h)
theorem rn_sort {H G : Heap} {Ts : List Th} {x : AV} {l : List Int} {D : List Nat} (s : St H Ts G) (i : Nat) (hi : Ts[i]? = some (rnI x l D)) (hl : l.length ≤ 1000000) {K : AV → Heap → Prop}
    (h : ∀ G', St H (Ts.set i (rnI x (srt l) D)) G' → K (.tup []) G') : CallT Try.prog 97 [x] G K := by
  have hsl : (srt l).length = l.length := List.length_mergeSort ..
  rcases rnI_cases (s.get i hi) with ⟨rfl, rfl, rfl⟩ | ⟨q, rfl, hq, rfl⟩
  · refine Sort_nil (h G ?_)
    exact s.repl i hi _ (by simp [rnT]) (fun y hy => .inl hy) (fun y b hb _ => hb) (.inl ⟨rfl, by simp [srt], rfl⟩)
  · refine Sort_row hq (by omega) (h _ ?_)
    refine s.repl i hi _ (by simp [rnT]) (fun y hy => .inl hy) (fun y b hb hy => ?_) ?_
    · simp only [rnT, List.mem_singleton] at hy
      rw [Heap.set_other hy]; exact hb
    · have := rnI_mk (l := srt l) (q := q) (G := G.set q (cP fI (srt l))) (Heap.set_same _ _ _)
      rw [rowP, hsl] at this
      exact this
theorem rn_compact {H G : Heap} {Ts : List Th} {x : AV} {l : List Int} {D : List Nat} (s : St H Ts G) (i : Nat) (hi : Ts[i]? = some (rnI x l D)) (hl : l.length ≤ 1000000) {K : AV → Heap → Prop}
    (h : ∀ x' G', (x' = .p .nil ∨ ∃ q, x' = .sl q 1 0 (Lib.compact l).length) → St H (Ts.set i (rnI x' (Lib.compact l) D)) G' → K x' G') : CallT Try.prog 98 [x] G K := by
  rcases rnI_cases (s.get i hi) with ⟨rfl, rfl, rfl⟩ | ⟨q, rfl, hq, rfl⟩
  · refine Compact_nil (h _ G (.inl rfl) ?_)
    exact s.repl i hi _ (by simp [rnT]) (fun y hy => .inl hy) (fun y b hb _ => hb) (.inl ⟨rfl, by simp [Lib.compact, Lib.compactUpTo], rfl⟩)
  · refine Compact_row hq (by omega) (h _ _ (.inr ⟨q, rfl⟩) ?_)
    refine s.repl i hi _ (by simp [rnT]) (fun y hy => .inl hy) (fun y b hb hy => ?_) (rnI_mk (Heap.set_same _ _ _))
    simp only [rnT, List.mem_singleton] at hy
    rw [Heap.set_other hy]; exact hb

/-- Where a state leads by the first edges. -/
def outN (a : Au) (k s : Nat) : List Int := ((a.edges.take k).filter fun e => decide (e.src = (s : Int))).map (·.dst)
def outR (a : Au) (k : Nat) : List (List Int) := (List.range a.states.toNat).map (outN a k)
theorem outR_len (a : Au) (k : Nat) : (outR a k).length = a.states.toNat := by simp [outR]
theorem outR_zero (a : Au) : outR a 0 = List.replicate a.states.toNat [] := by
  rw [outR]
  apply List.ext_getElem
  · simp
  · intro i h1 h2; simp [outN]
theorem outR_get (a : Au) (k : Nat) {s : Nat} (h : s < a.states.toNat) : (outR a k).getD s default = outN a k s := by simp [outR, List.getD, h]
theorem outN_len (a : Au) (k s : Nat) : (outN a k s).length ≤ a.edges.length := by
  rw [outN, List.length_map]
  exact Nat.le_trans (List.length_filter_le _ _) (by rw [List.length_take]; omega)
theorem outR_succ (a : Au) {k : Nat} (hk : k < a.edges.length) (h0 : 0 ≤ (a.edges.getD k default).src) (h1 : (a.edges.getD k default).src < a.states) :
    outR a (k + 1) = (outR a k).set (a.edges.getD k default).src.toNat (outN a k (a.edges.getD k default).src.toNat ++ [(a.edges.getD k default).dst]) := by
  have hs := take_succ_snoc hk
  generalize a.edges.getD k default = e at hs h0 h1 ⊢
  apply List.ext_getElem
  · simp [outR]
  · intro s h2 h3
    simp only [outR, List.getElem_map, List.getElem_range, List.getElem_set]
    simp only [outN, hs, List.filter_append, List.map_append]
    by_cases he : e.src.toNat = s
    · subst he
      rw [if_pos rfl]
      have : e.src = (e.src.toNat : Int) := by omega
      simp [← this]
    · rw [if_neg he]
      have : ¬ e.src = (s : Int) := by omega
      simp [this]
def nextR (a : Au) (i : Nat) : List (List Int) := (List.range a.states.toNat).map fun s => if s < i then sc (outN a a.edges.length s) else outN a a.edges.length s
def nextG (a : Au) : List (List Int) := (List.range a.states.toNat).map fun s => sc (outN a a.edges.length s)
theorem nextR_len (a : Au) (i : Nat) : (nextR a i).length = a.states.toNat := by simp [nextR]
theorem nextG_len (a : Au) : (nextG a).length = a.states.toNat := by simp [nextG]
theorem nextR_zero (a : Au) : nextR a 0 = outR a a.edges.length := by simp [nextR, outR]
theorem nextR_all (a : Au) : nextR a a.states.toNat = nextG a := by
  rw [nextR, nextG]
  apply List.map_congr_left
  intro s hs
  rw [if_pos (List.mem_range.1 hs)]
theorem nextR_get (a : Au) {i : Nat} (h : i < a.states.toNat) : (nextR a i).getD i default = outN a a.edges.length i := by simp [nextR, List.getD, h]
theorem nextR_succ (a : Au) {i : Nat} (h : i < a.states.toNat) : nextR a (i + 1) = (nextR a i).set i (sc (outN a a.edges.length i)) := by
  apply List.ext_getElem
  · simp [nextR]
  · intro s h2 h3
    simp only [nextR, List.getElem_map, List.getElem_range, List.getElem_set]
    by_cases he : i = s
    · subst he; simp
    · rw [if_neg he]
      by_cases hs : s < i
      · rw [if_pos hs, if_pos (by omega)]
      · rw [if_neg hs, if_neg (by omega)]
theorem next_live (a : Au) (fa : GoodF a) {H : Heap} {K : AV → Heap → Prop} (h : ∀ x G D, LII (nextG a) x G D → New H G D → K x G) : CallT Try.prog 71 [aAu a] H K := by
  have hst := fa.st
  have hed := fa.ed
  refine CallT.finish ?_
  have hz : ((a.states.toNat : Nat) : Int) = a.states := by omega
  refine W71_ok ?_; simp (maxSteps := 1000000) (disch := (first | assumption | (apply Ne.symm; assumption))) only [W71, vw0, vw1, vw2, vw3, vw4, vu0, vu1, ↓condV_t, ↓condV_f, cap_nil, allocV, splice, partV, buildV, eqFieldsV, eqS, tabs, TK.agg, reduceCtorEq, Array.toList, List.map_cons, List.map_nil, ↓reduceIte, List.length_map, Nat.reduceAdd, Nat.reduceLeDiff, Nat.reduceLT, Nat.reduceMul, Nat.reduceSub, Option.bind_some, Option.map_some, bndV, numV, eI, eU, e8, eB, AV.isCell, Int.reduceToNat, Int.reduceSub, Int.reduceAdd, Int.reduceNeg, makeSliceV]
  intro r hr
  refine ⟨by omega, by omega, by omega, by omega, fun q hq1 hq => ?_⟩
  have st := (St.nil H).cell hr [I a.states, Is a.first, Es a.edges, Ls a.goals]
  replace st := tab_new (n := a.states.toNat) st (q := q) (by rw [Heap.set_other hq1]; exact hq)
  rw [← outR_zero] at st
  generalize (H.set r [I a.states, Is a.first, Es a.edges, Ls a.goals]).set q (zerosA a.states.toNat [.p .nil]) = G1 at st ⊢
  (try simp (maxSteps := 1000000) (disch := (first | assumption | (apply Ne.symm; assumption))) only [vw0, vw1, vw2, vw3, vw4, vu0, vu1, ↓condV_t, ↓condV_f, cap_nil, allocV, splice, partV, buildV, eqFieldsV, eqS, tabs, TK.agg, reduceCtorEq, Array.toList, List.map_cons, List.map_nil, ↓reduceIte, List.length_map, Nat.reduceAdd, Nat.reduceLeDiff, Nat.reduceLT, Nat.reduceMul, Nat.reduceSub, Option.bind_some, Option.map_some, bndV, numV, eI, eU, e8, eB, AV.isCell, Int.reduceToNat, Int.reduceSub, Int.reduceAdd, Int.reduceNeg, load_at (st.get 1 rfl)])
  refine L71_0_rule ((0 : Nat), [q], G1) (fun s => I s.1) (fun s => s.2.2) (fun s => s.1 ≤ a.edges.length ∧ St H [tabT q (outR a s.1) s.2.1, cellT r [I a.states, Is a.first, Es a.edges, Ls a.goals]] s.2.2) (fun s => a.edges.length - s.1)
    ⟨⟨by simp, st⟩, .refl _, Heap.le_refl _⟩ ?_
  clear st
  rintro ⟨k, D, G⟩ ⟨hk, st⟩
  dsimp only at hk st
  (try simp (maxSteps := 1000000) (disch := (first | assumption | (apply Ne.symm; assumption))) only [vw0, vw1, vw2, vw3, vw4, vu0, vu1, ↓condV_t, ↓condV_f, cap_nil, allocV, splice, partV, buildV, eqFieldsV, eqS, tabs, TK.agg, reduceCtorEq, Array.toList, List.map_cons, List.map_nil, ↓reduceIte, List.length_map, Nat.reduceAdd, Nat.reduceLeDiff, Nat.reduceLT, Nat.reduceMul, Nat.reduceSub, Option.bind_some, Option.map_some, bndV, numV, eI, eU, e8, eB, AV.isCell, Int.reduceToNat, Int.reduceSub, Int.reduceAdd, Int.reduceNeg, B71_0])
  refine ⟨fun h1 => ⟨by omega, h1, ?_⟩, fun h1 => ?_⟩
  · have hlt : k < a.edges.length := by omega
    have hm : a.edges.getD k default ∈ a.edges := getD_all (p := fun x => x ∈ a.edges) (fun _ h => h) hlt
    have hei := edIn_iff.1 (fa.ei _ hm)
    have hsucc := outR_succ a hlt (by omega) (by omega)
    generalize a.edges.getD k default = e at hei hsucc ⊢
    intro r5 hr5
    replace st := st.cell hr5 [I e.src, I e.lt, I e.dst]
    generalize G.set r5 [I e.src, I e.lt, I e.dst] = G2 at st ⊢
    have hi : e.src.toNat < (outR a k).length := by rw [outR_len]; omega
    obtain ⟨pre, c, post, Di, Dr, hpl, hpp, st⟩ := tab_take st 1 rfl hi
    rw [outR_get a k (by omega)] at st
    rw [outR_len] at hpp
    simp only [List.eraseIdx_cons_succ, List.eraseIdx_cons_zero] at st
    have hG := (st.get 1 rfl : (holeT q pre c post _ _ Dr).P G2).1
    have hrd := tab_rd (c := c) (post := post) hpl
    have hb : e.src.toNat * 1 + 1 ≤ pre.length + (post.length + 1) := by omega
    have hsp : ∀ c', List.take (e.src.toNat * 1) (pre ++ (c :: post)) ++ [c'] ++ List.drop (e.src.toNat * 1 + 1) (pre ++ (c :: post)) = pre ++ (c' :: post) := fun c' => tab_sp hpl
    (try simp (maxSteps := 1000000) (disch := (first | assumption | (apply Ne.symm; assumption))) only [vw0, vw1, vw2, vw3, vw4, vu0, vu1, ↓condV_t, ↓condV_f, cap_nil, allocV, splice, partV, buildV, eqFieldsV, eqS, tabs, TK.agg, reduceCtorEq, Array.toList, List.map_cons, List.map_nil, ↓reduceIte, List.length_map, Nat.reduceAdd, Nat.reduceLeDiff, Nat.reduceLT, Nat.reduceMul, Nat.reduceSub, Option.bind_some, Option.map_some, bndV, numV, eI, eU, e8, eB, AV.isCell, Int.reduceToNat, Int.reduceSub, Int.reduceAdd, Int.reduceNeg, load_at (st.get 2 rfl)])
    refine ⟨by omega, by omega, ?_⟩
    (try simp (maxSteps := 1000000) (disch := (first | assumption | (apply Ne.symm; assumption))) only [vw0, vw1, vw2, vw3, vw4, vu0, vu1, ↓condV_t, ↓condV_f, cap_nil, allocV, splice, partV, buildV, eqFieldsV, eqS, tabs, TK.agg, reduceCtorEq, Array.toList, List.map_cons, List.map_nil, ↓reduceIte, List.length_map, Nat.reduceAdd, Nat.reduceLeDiff, Nat.reduceLT, Nat.reduceMul, Nat.reduceSub, Option.bind_some, Option.map_some, bndV, numV, eI, eU, e8, eB, AV.isCell, Int.reduceToNat, Int.reduceSub, Int.reduceAdd, Int.reduceNeg, load_at hG, hrd])
    refine ⟨hb, ?_⟩
    refine lit1 tab_22 rfl tab_3 ⟨rfl, rfl⟩ ?_
    (try simp (maxSteps := 1000000) (disch := (first | assumption | (apply Ne.symm; assumption))) only [vw0, vw1, vw2, vw3, vw4, vu0, vu1, ↓condV_t, ↓condV_f, cap_nil, allocV, splice, partV, buildV, eqFieldsV, eqS, tabs, TK.agg, reduceCtorEq, Array.toList, List.map_cons, List.map_nil, ↓reduceIte, List.length_map, Nat.reduceAdd, Nat.reduceLeDiff, Nat.reduceLT, Nat.reduceMul, Nat.reduceSub, Option.bind_some, Option.map_some, bndV, numV, eI, eU, e8, eB, AV.isCell, Int.reduceToNat, Int.reduceSub, Int.reduceAdd, Int.reduceNeg, load_at (st.get 2 rfl), load_at hG, hrd])
    refine ⟨hb, ?_⟩
    have hol := outN_len a k e.src.toNat
    refine rn_appI (ys := [e.dst]) st 0 rfl (by simp only [List.length_cons, List.length_nil]; omega) fun q' G' hq' st => ?_
    simp only [List.set_cons_zero] at st
    have hG := (st.get 1 rfl : (holeT q pre c post _ _ Dr).P G').1
    (try simp (maxSteps := 1000000) (disch := (first | assumption | (apply Ne.symm; assumption))) only [vw0, vw1, vw2, vw3, vw4, vu0, vu1, ↓condV_t, ↓condV_f, cap_nil, allocV, splice, partV, buildV, eqFieldsV, eqS, tabs, TK.agg, reduceCtorEq, Array.toList, List.map_cons, List.map_nil, ↓reduceIte, List.length_map, Nat.reduceAdd, Nat.reduceLeDiff, Nat.reduceLT, Nat.reduceMul, Nat.reduceSub, Option.bind_some, Option.map_some, bndV, numV, eI, eU, e8, eB, AV.isCell, Int.reduceToNat, Int.reduceSub, Int.reduceAdd, Int.reduceNeg, load_at (st.get 2 rfl), store_at hG])
    refine ⟨by omega, by omega, hb, ?_⟩
    obtain ⟨D', st⟩ := tab_put st hi
    rw [← hsucc] at st
    rw [hsp]
    simp only [rowP, List.length_append, List.length_singleton] at st
    refine ⟨(k + 1, D', _), ⟨by simp only; omega, st.erase 1⟩, by simp only; omega, ?_, Heap.le_refl _⟩
    rw [wk_int, i64_id (by omega) (by omega)]; simp
  · have : k = a.edges.length := by omega
    subst this
    rw [← nextR_zero] at st
    (try simp (maxSteps := 1000000) (disch := (first | assumption | (apply Ne.symm; assumption))) only [vw0, vw1, vw2, vw3, vw4, vu0, vu1, ↓condV_t, ↓condV_f, cap_nil, allocV, splice, partV, buildV, eqFieldsV, eqS, tabs, TK.agg, reduceCtorEq, Array.toList, List.map_cons, List.map_nil, ↓reduceIte, List.length_map, Nat.reduceAdd, Nat.reduceLeDiff, Nat.reduceLT, Nat.reduceMul, Nat.reduceSub, Option.bind_some, Option.map_some, bndV, numV, eI, eU, e8, eB, AV.isCell, Int.reduceToNat, Int.reduceSub, Int.reduceAdd, Int.reduceNeg])
    refine L71_1_rule ((0 : Nat), D, G) (fun s => I s.1) (fun s => s.2.2) (fun s => s.1 ≤ a.states.toNat ∧ St H [tabT q (nextR a s.1) s.2.1, cellT r [I a.states, Is a.first, Es a.edges, Ls a.goals]] s.2.2) (fun s => a.states.toNat - s.1)
      ⟨⟨by simp, st⟩, .refl _, Heap.le_refl _⟩ ?_
    clear st D
    rintro ⟨i, D, G⟩ ⟨hi, st⟩
    dsimp only at hi st
    (try simp (maxSteps := 1000000) (disch := (first | assumption | (apply Ne.symm; assumption))) only [vw0, vw1, vw2, vw3, vw4, vu0, vu1, ↓condV_t, ↓condV_f, cap_nil, allocV, splice, partV, buildV, eqFieldsV, eqS, tabs, TK.agg, reduceCtorEq, Array.toList, List.map_cons, List.map_nil, ↓reduceIte, List.length_map, Nat.reduceAdd, Nat.reduceLeDiff, Nat.reduceLT, Nat.reduceMul, Nat.reduceSub, Option.bind_some, Option.map_some, bndV, numV, eI, eU, e8, eB, AV.isCell, Int.reduceToNat, Int.reduceSub, Int.reduceAdd, Int.reduceNeg, B71_1])
    refine ⟨fun h1 => ?_, fun h1 => ?_⟩
    · have hlt : i < a.states.toNat := by omega
      have hsucc := nextR_succ a hlt
      have hol := outN_len a a.edges.length i
      obtain ⟨pre, c, post, Di, Dr, hpl, hpp, st⟩ := tab_take st 0 rfl (by rw [nextR_len]; exact hlt)
      rw [nextR_get a hlt] at st
      rw [nextR_len] at hpp
      simp only [List.eraseIdx_cons_zero] at st
      have hrd := tab_rd (c := c) (post := post) hpl
      have hb : i * 1 + 1 ≤ pre.length + (post.length + 1) := by omega
      have hsp : ∀ c', List.take (i * 1) (pre ++ (c :: post)) ++ [c'] ++ List.drop (i * 1 + 1) (pre ++ (c :: post)) = pre ++ (c' :: post) := fun c' => tab_sp hpl
      have hG := (st.get 1 rfl : (holeT q pre c post _ _ Dr).P G).1
      generalize outN a a.edges.length i = l at st hsucc hol
      (try simp (maxSteps := 1000000) (disch := (first | assumption | (apply Ne.symm; assumption))) only [vw0, vw1, vw2, vw3, vw4, vu0, vu1, ↓condV_t, ↓condV_f, cap_nil, allocV, splice, partV, buildV, eqFieldsV, eqS, tabs, TK.agg, reduceCtorEq, Array.toList, List.map_cons, List.map_nil, ↓reduceIte, List.length_map, Nat.reduceAdd, Nat.reduceLeDiff, Nat.reduceLT, Nat.reduceMul, Nat.reduceSub, Option.bind_some, Option.map_some, bndV, numV, eI, eU, e8, eB, AV.isCell, Int.reduceToNat, Int.reduceSub, Int.reduceAdd, Int.reduceNeg, load_at hG, hrd])
      refine ⟨by omega, h1, hb, ?_⟩
      refine rn_sort st 0 rfl (by omega) fun G2 st => ?_
      simp only [List.set_cons_zero] at st
      have hsl : (srt l).length = l.length := List.length_mergeSort ..
      have hG := (st.get 1 rfl : (holeT q pre c post _ _ Dr).P G2).1
      (try simp (maxSteps := 1000000) (disch := (first | assumption | (apply Ne.symm; assumption))) only [vw0, vw1, vw2, vw3, vw4, vu0, vu1, ↓condV_t, ↓condV_f, cap_nil, allocV, splice, partV, buildV, eqFieldsV, eqS, tabs, TK.agg, reduceCtorEq, Array.toList, List.map_cons, List.map_nil, ↓reduceIte, List.length_map, Nat.reduceAdd, Nat.reduceLeDiff, Nat.reduceLT, Nat.reduceMul, Nat.reduceSub, Option.bind_some, Option.map_some, bndV, numV, eI, eU, e8, eB, AV.isCell, Int.reduceToNat, Int.reduceSub, Int.reduceAdd, Int.reduceNeg, load_at hG, hrd])
      refine ⟨by omega, h1, hb, ?_⟩
      refine rn_compact st 0 rfl (by omega) fun x' G3 hx' st => ?_
      simp only [List.set_cons_zero] at st
      have hG := (st.get 1 rfl : (holeT q pre c post _ _ Dr).P G3).1
      obtain ⟨D', st⟩ := tab_put st (by rw [nextR_len]; exact hlt)
      have esc : Lib.compact (srt l) = sc l := rfl
      rw [esc, ← hsucc] at st
      rcases hx' with rfl | ⟨qx, rfl⟩
      · (try simp (maxSteps := 1000000) (disch := (first | assumption | (apply Ne.symm; assumption))) only [vw0, vw1, vw2, vw3, vw4, vu0, vu1, ↓condV_t, ↓condV_f, cap_nil, allocV, splice, partV, buildV, eqFieldsV, eqS, tabs, TK.agg, reduceCtorEq, Array.toList, List.map_cons, List.map_nil, ↓reduceIte, List.length_map, Nat.reduceAdd, Nat.reduceLeDiff, Nat.reduceLT, Nat.reduceMul, Nat.reduceSub, Option.bind_some, Option.map_some, bndV, numV, eI, eU, e8, eB, AV.isCell, Int.reduceToNat, Int.reduceSub, Int.reduceAdd, Int.reduceNeg, store_at hG])
        refine ⟨by omega, h1, hb, ?_⟩
        rw [hsp]
        refine ⟨(i + 1, D', _), ⟨by simp only; omega, st⟩, by simp only; omega, ?_, Heap.le_refl _⟩
        rw [wk_int, i64_id (by omega) (by omega)]; simp
      · (try simp (maxSteps := 1000000) (disch := (first | assumption | (apply Ne.symm; assumption))) only [vw0, vw1, vw2, vw3, vw4, vu0, vu1, ↓condV_t, ↓condV_f, cap_nil, allocV, splice, partV, buildV, eqFieldsV, eqS, tabs, TK.agg, reduceCtorEq, Array.toList, List.map_cons, List.map_nil, ↓reduceIte, List.length_map, Nat.reduceAdd, Nat.reduceLeDiff, Nat.reduceLT, Nat.reduceMul, Nat.reduceSub, Option.bind_some, Option.map_some, bndV, numV, eI, eU, e8, eB, AV.isCell, Int.reduceToNat, Int.reduceSub, Int.reduceAdd, Int.reduceNeg, store_at hG])
        refine ⟨by omega, h1, hb, ?_⟩
        rw [hsp]
        refine ⟨(i + 1, D', _), ⟨by simp only; omega, st⟩, by simp only; omega, ?_, Heap.le_refl _⟩
        rw [wk_int, i64_id (by omega) (by omega)]; simp
    · have : i = a.states.toNat := by omega
      subst this
      rw [nextR_all] at st
      have e : (nextG a).length = a.states.toNat := nextG_len a
      rw [← e]
      refine tab_whole (fun G D s => .done (h _ _ _ (s.get 0 rfl) ⟨s.ndT 0 rfl, s.fr _ (List.mem_cons_self ..), s.le⟩)) st
end Go.Proofs.Ytfbaijpanbjmpaa
