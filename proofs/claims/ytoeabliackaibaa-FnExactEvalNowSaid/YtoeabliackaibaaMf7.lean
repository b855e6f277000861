/- The law on truth values at a position. -/
import Derived.Test.YtoeabliackaibaaMf6
namespace Go.Proofs.Ytoeabliackaibaa
open Go Go.Sep Go.Pt
set_option linter.unusedSimpArgs false
set_option linter.unusedVariables false
attribute [local irreducible] CallT

abbrev Bls (xs : List Bool) : AV := .p (.sl (xs.map eBo))
theorem eqBoolS_spec (xs : List Bool) (hl : xs.length ≤ 1048576) : Pu Try.prog 20 [Bls xs, Bls xs] (B true) := by
  refine Pu.of fun H => ?_
  refine W20_ok ?_; simp (maxSteps := 1000000) (disch := (first | assumption | (apply Ne.symm; assumption))) only [W20, vw0, vw1, vw2, vw3, vw4, vu0, vu1, ↓condV_t, ↓condV_f, cap_nil, allocV, splice, partV, buildV, eqFieldsV, eqS, tabs, TK.agg, reduceCtorEq, Array.toList, List.map_cons, List.map_nil, ↓reduceIte, List.length_map, Nat.reduceAdd, Nat.reduceLeDiff, Nat.reduceLT, Nat.reduceMul, Nat.reduceSub, Option.bind_some, Option.map_some, bndV, numV, eI, eU, e8, eB, AV.isCell, Int.reduceToNat, Int.reduceSub, Int.reduceAdd, Int.reduceNeg]
  refine L20_0_rule (0 : Nat) (fun i => I i) (fun _ => H) (fun i => i ≤ xs.length) (fun i => xs.length - i) ⟨by omega, .refl _, Heap.le_refl _⟩ ?_
  intro i hi
  (try simp (maxSteps := 1000000) (disch := (first | assumption | (apply Ne.symm; assumption))) only [vw0, vw1, vw2, vw3, vw4, vu0, vu1, ↓condV_t, ↓condV_f, cap_nil, allocV, splice, partV, buildV, eqFieldsV, eqS, tabs, TK.agg, reduceCtorEq, Array.toList, List.map_cons, List.map_nil, ↓reduceIte, List.length_map, Nat.reduceAdd, Nat.reduceLeDiff, Nat.reduceLT, Nat.reduceMul, Nat.reduceSub, Option.bind_some, Option.map_some, bndV, numV, eI, eU, e8, eB, AV.isCell, Int.reduceToNat, Int.reduceSub, Int.reduceAdd, Int.reduceNeg, B20_0])
  intro h
  refine ⟨by omega, h, by omega, h, i + 1, by omega, by omega, ?_⟩
  rw [wk_int, i64_id (by omega) (by omega)]; simp
def markB (k : Int) (n : Nat) : List Bool := (List.range n).map fun (i : Nat) => decide ((k + i).tmod 3 = 0)
theorem markB_len (k : Int) (n : Nat) : (markB k n).length = n := by simp [markB]
theorem markB_succ (k : Int) (n : Nat) : markB k (n + 1) = markB k n ++ [decide ((k + n).tmod 3 = 0)] := by simp [markB, List.range_succ]
theorem markB_get (k : Int) {n i : Nat} (h : i < n) : (markB k n).getD i default = decide ((k + i).tmod 3 = 0) := by simp [markB, List.getD, h]
theorem cB_app (xs ys : List Bool) : cP fB (xs ++ ys) = cP fB xs ++ cP fB ys := by simp [cP]
theorem markBoolS_row (xs : List Bool) (hl : xs.length ≤ 1048576) {q : Nat} {G : Heap} (hG : G q = some (cP fB xs)) {K : AV → Heap → Prop}
    (h : K (I (1 + xs.length)) (G.set q (cP fB (markB 1 xs.length)))) : CallT Try.prog 21 [rowP q xs, I 1] G K := by
  refine W21_ok ?_; simp (maxSteps := 1000000) (disch := (first | assumption | (apply Ne.symm; assumption))) only [W21, vw0, vw1, vw2, vw3, vw4, vu0, vu1, ↓condV_t, ↓condV_f, cap_nil, allocV, splice, partV, buildV, eqFieldsV, eqS, tabs, TK.agg, reduceCtorEq, Array.toList, List.map_cons, List.map_nil, ↓reduceIte, List.length_map, Nat.reduceAdd, Nat.reduceLeDiff, Nat.reduceLT, Nat.reduceMul, Nat.reduceSub, Option.bind_some, Option.map_some, bndV, numV, eI, eU, e8, eB, AV.isCell, Int.reduceToNat, Int.reduceSub, Int.reduceAdd, Int.reduceNeg]
  refine L21_0_rule (0 : Nat) (fun i => I (1 + i)) (fun i => I i) (fun i => G.set q (cP fB (markB 1 i ++ xs.drop i))) (fun i => i ≤ xs.length) (fun i => xs.length - i) ⟨by omega, .refl _, .refl _, ?_⟩ ?_
  · intro y b hy
    by_cases e : y = q
    · subst e; rw [Heap.set_same] at hy; rw [hG]; simpa [markB] using hy
    · rw [Heap.set_other e] at hy; exact hy
  intro i hi
  (try simp (maxSteps := 1000000) (disch := (first | assumption | (apply Ne.symm; assumption))) only [vw0, vw1, vw2, vw3, vw4, vu0, vu1, ↓condV_t, ↓condV_f, cap_nil, allocV, splice, partV, buildV, eqFieldsV, eqS, tabs, TK.agg, reduceCtorEq, Array.toList, List.map_cons, List.map_nil, ↓reduceIte, List.length_map, Nat.reduceAdd, Nat.reduceLeDiff, Nat.reduceLT, Nat.reduceMul, Nat.reduceSub, Option.bind_some, Option.map_some, bndV, numV, eI, eU, e8, eB, AV.isCell, Int.reduceToNat, Int.reduceSub, Int.reduceAdd, Int.reduceNeg, B21_0])
  refine ⟨fun h5 => ?_, fun h5 => ?_⟩
  · have hlt : i < xs.length := by omega
    have hdl : (cP fB (markB 1 i)).length = i * 1 := by simp [cP, markB]
    have e3 : cP fB (markB 1 i ++ xs.drop i) = cP fB (markB 1 i) ++ (B (xs.getD i default) :: cP fB (xs.drop (i + 1))) := by
      rw [drop_cons hlt, cB_app]; rfl
    have e4 : ∀ b : Bool, b = decide ((1 + (i : Int)).tmod 3 = 0) → cP fB (markB 1 (i + 1) ++ xs.drop (i + 1)) = cP fB (markB 1 i) ++ (B b :: cP fB (xs.drop (i + 1))) := by
      rintro _ rfl
      rw [markB_succ, List.append_assoc, cB_app]; rfl
    have hdr : (cP fB (xs.drop (i + 1))).length = xs.length - (i + 1) := by simp [cP]
    generalize cP fB (xs.drop (i + 1)) = c2 at e3 e4 hdr
    generalize xs.getD i default = a at e3
    rw [e3]
    generalize cP fB (markB 1 i) = cd at hdl e4
    have p1 : ∀ z, List.take (i * 1) (cd ++ (B a :: c2)) ++ [z] ++ List.drop (i * 1 + 1) (cd ++ (B a :: c2)) = cd ++ (z :: c2) := fun z => splice_at (c := [B a]) (c' := [z]) hdl.symm rfl rfl
    (try simp (maxSteps := 1000000) (disch := (first | assumption | (apply Ne.symm; assumption))) only [vw0, vw1, vw2, vw3, vw4, vu0, vu1, ↓condV_t, ↓condV_f, cap_nil, allocV, splice, partV, buildV, eqFieldsV, eqS, tabs, TK.agg, reduceCtorEq, Array.toList, List.map_cons, List.map_nil, ↓reduceIte, List.length_map, Nat.reduceAdd, Nat.reduceLeDiff, Nat.reduceLT, Nat.reduceMul, Nat.reduceSub, Option.bind_some, Option.map_some, bndV, numV, eI, eU, e8, eB, AV.isCell, Int.reduceToNat, Int.reduceSub, Int.reduceAdd, Int.reduceNeg, p1])
    refine ⟨by omega, by omega, h5, by rw [markB_len, List.length_drop]; omega, i + 1, by omega, by omega, ?_, ?_, ?_⟩
    · rw [wk_int, i64_id (by omega) (by omega)]; omega
    · rw [wk_int, i64_id (by omega) (by omega)]; simp
    · rw [e4 _ rfl]; exact Heap.le_refl _
  · have : i = xs.length := by omega
    subst this
    simpa using h
theorem heldBoolS_spec (n : Nat) (hl : n ≤ 1048576) : Pu Try.prog 22 [Bls (markB 1 n), I 1] (I (1 + n)) := by
  have hml := markB_len 1 n
  refine Pu.of fun H => ?_
  refine W22_ok ?_; simp (maxSteps := 1000000) (disch := (first | assumption | (apply Ne.symm; assumption))) only [W22, vw0, vw1, vw2, vw3, vw4, vu0, vu1, ↓condV_t, ↓condV_f, cap_nil, allocV, splice, partV, buildV, eqFieldsV, eqS, tabs, TK.agg, reduceCtorEq, Array.toList, List.map_cons, List.map_nil, ↓reduceIte, List.length_map, Nat.reduceAdd, Nat.reduceLeDiff, Nat.reduceLT, Nat.reduceMul, Nat.reduceSub, Option.bind_some, Option.map_some, bndV, numV, eI, eU, e8, eB, AV.isCell, Int.reduceToNat, Int.reduceSub, Int.reduceAdd, Int.reduceNeg]
  refine L22_0_rule (0 : Nat) (fun i => I (1 + i)) (fun i => I i) (fun _ => H) (fun i => i ≤ n) (fun i => n - i) ⟨by omega, .refl _, .refl _, Heap.le_refl _⟩ ?_
  intro i hi
  (try simp (maxSteps := 1000000) (disch := (first | assumption | (apply Ne.symm; assumption))) only [vw0, vw1, vw2, vw3, vw4, vu0, vu1, ↓condV_t, ↓condV_f, cap_nil, allocV, splice, partV, buildV, eqFieldsV, eqS, tabs, TK.agg, reduceCtorEq, Array.toList, List.map_cons, List.map_nil, ↓reduceIte, List.length_map, Nat.reduceAdd, Nat.reduceLeDiff, Nat.reduceLT, Nat.reduceMul, Nat.reduceSub, Option.bind_some, Option.map_some, bndV, numV, eI, eU, e8, eB, AV.isCell, Int.reduceToNat, Int.reduceSub, Int.reduceAdd, Int.reduceNeg, B22_0, hml])
  refine ⟨fun h1 => ?_, fun h1 => ?_⟩
  · have hlt : i < n := by omega
    have hg := markB_get 1 hlt
    rw [hg]
    refine ⟨by omega, h1, by omega, fun h2 => ?_, fun h2 => ⟨i + 1, by omega, by omega, ?_, ?_⟩⟩
    · first | (exfalso; simp at h2; done) | simp at h2
    · rw [wk_int, i64_id (by omega) (by omega)]; omega
    · rw [wk_int, i64_id (by omega) (by omega)]; simp
  · have : i = n := by omega
    subst this
    rfl
theorem frz_rowB {q : Nat} {xs : List Bool} : FrzR q 1 (xs.map eBo) (rowP q xs) (Bls xs) := by
  have : FrzR q 1 (xs.map eBo) (.sl q 1 0 (xs.map eBo).length) (.p (.sl (xs.map eBo))) := .here
  rwa [List.length_map] at this
theorem wkB {q : Nat} {xs : List Bool} {G : Heap} (hq : G q = some (cP fB xs)) (C : AV → AV) (hC : ∀ {q sz es a a'}, FrzR q sz es a a' → FrzR q sz es (C a) (C a')) : Wk (C (rowP q xs)) G (C (Bls xs)) (G.del q) := by
  have e : cells (xs.map eBo) = cP fB xs := cells_P fB xs
  exact Wk.frz (r := q) (sz := 1) (es := xs.map eBo) (by omega) (by have h := hq; rw [← e] at h; exact h) (sized_map (f := eBo) (fun _ => rfl) xs) (hC frz_rowB)
theorem eqB_live {q : Nat} {xs : List Bool} {G : Heap} (hq : G q = some (cP fB xs)) (hl : xs.length ≤ 1048576) {K : AV → Heap → Prop} (h : K (B true) G) : CallT Try.prog 20 [rowP q xs, Bls xs] G K :=
  Pu.thaw (eqBoolS_spec xs hl) (.bool _) (wkB hq (fun v => .tup [v, Bls xs]) (fun h => .tup (.cons h (.cons (.same _) .nil)))) h
theorem heldB_live {q n : Nat} {G : Heap} (hq : G q = some (cP fB (markB 1 n))) (hn : n ≤ 1048576) {K : AV → Heap → Prop} (h : K (I (1 + n)) G) : CallT Try.prog 22 [.sl q 1 0 n, I 1] G K := by
  have := Pu.thaw (heldBoolS_spec n hn) (.int _ _) (wkB hq (fun v => .tup [v, I 1]) (fun h => .tup (.cons h (.cons (.same _) .nil)))) h
  rwa [rowP, markB_len] at this
/-- An answer that is a row of truth values of one's own, and a word. -/
def RowBB (l : List Bool) (ok : Bool) (r : AV) (G : Heap) (D : List Nat) : Prop := ∃ q, r = .tup [rowP q l, B ok] ∧ G q = some (cP fB l) ∧ D = [q]
theorem RowBB.res (l : List Bool) (ok : Bool) : ResT (RowBB l ok) := by
  refine ⟨?_, ?_, ?_⟩
  · rintro r G G' D ⟨q, rfl, hq, rfl⟩ hf
    exact ⟨q, rfl, hf q (by simp) _ hq, rfl⟩
  · rintro r G D ⟨q, rfl, hq, rfl⟩
    refine ⟨.inl ⟨_, rfl, fun u hu => ?_⟩, fun y hy bs hb c hc => ?_⟩
    · rcases List.mem_cons.1 hu with rfl | hu
      · exact .inr ⟨.inl ⟨_, _, _, _, rfl⟩, fun _ => rfl⟩
      · rw [List.mem_singleton] at hu; rw [hu]; exact .inr ⟨.p (.bool ok), fun _ => rfl⟩
    · rw [List.mem_singleton.1 hy, hq] at hb
      cases hb
      obtain ⟨x, _, rfl⟩ := List.mem_map.1 hc
      exact .p (.bool _)
  · rintro r G D n G0 h0 ⟨q, rfl, hq, rfl⟩
    refine ⟨q + n, rfl, ?_, rfl⟩
    have hl : LRow (LPl eBo) 1 l (rowP q l) G [q] := ⟨q, _, [], rfl, hq, by have := LL.plain (e := eBo) (G := G) l; rwa [show cells (l.map eBo) = cP fB l from cells_P fB l] at this, rfl⟩
    obtain ⟨q', cs, D', e1, e2, e3, e4⟩ := LRow.sh (LPl.sh eBo) h0 hl
    obtain ⟨rfl, -⟩ := LL.plain' e3
    have e : q' = q + n := by
      have h1 : shC n (rowP q l) = .sl (q + n) 1 0 l.length := rfl
      rw [h1] at e1
      injection e1 with e1; exact e1.symm
    subst e
    have e5 : cells (l.map eBo) = cP fB l := cells_P fB l
    rw [← e5]; exact e2
def enR (f : List Sd) (lt nx : Int) : List Bool × Bool := if askF f lt nx then (evL f (tr f) lt nx f.length, true) else ([], false)
theorem EvalNow_ref (f : List Sd) (hl : f.length ≤ 1048576) (lt nx : Int) : Pu Try.prog 18 [Ds f, I lt, I nx] (.tup [Bls (enR f lt nx).1, B (enR f lt nx).2]) := by
  refine ⟨fun H => CallT.fin ?_⟩
  refine W18_ok ?_; simp (maxSteps := 1000000) (disch := (first | assumption | (apply Ne.symm; assumption))) only [W18, vw0, vw1, vw2, vw3, vw4, vu0, vu1, ↓condV_t, ↓condV_f, cap_nil, allocV, splice, partV, buildV, eqFieldsV, eqS, tabs, TK.agg, reduceCtorEq, Array.toList, List.map_cons, List.map_nil, ↓reduceIte, List.length_map, Nat.reduceAdd, Nat.reduceLeDiff, Nat.reduceLT, Nat.reduceMul, Nat.reduceSub, Option.bind_some, Option.map_some, bndV, numV, eI, eU, e8, eB, AV.isCell, Int.reduceToNat, Int.reduceSub, Int.reduceAdd, Int.reduceNeg]
  refine Pu.use (l13Asked_spec f hl lt nx) ?_
  unfold enR
  cases ha : askF f lt nx
  · (try simp (maxSteps := 1000000) (disch := (first | assumption | (apply Ne.symm; assumption))) only [vw0, vw1, vw2, vw3, vw4, vu0, vu1, ↓condV_t, ↓condV_f, cap_nil, allocV, splice, partV, buildV, eqFieldsV, eqS, tabs, TK.agg, reduceCtorEq, Array.toList, List.map_cons, List.map_nil, ↓reduceIte, List.length_map, Nat.reduceAdd, Nat.reduceLeDiff, Nat.reduceLT, Nat.reduceMul, Nat.reduceSub, Option.bind_some, Option.map_some, bndV, numV, eI, eU, e8, eB, AV.isCell, Int.reduceToNat, Int.reduceSub, Int.reduceAdd, Int.reduceNeg])
    exact ⟨_, _, .val (v' := .tup [Bls [], B false]) (wk_tup ⟨.nil, .refl _, trivial⟩), rfl, rfl⟩
  obtain ⟨g, ht, h0⟩ := ask_facts ha
  (try simp (maxSteps := 1000000) (disch := (first | assumption | (apply Ne.symm; assumption))) only [vw0, vw1, vw2, vw3, vw4, vu0, vu1, ↓condV_t, ↓condV_f, cap_nil, allocV, splice, partV, buildV, eqFieldsV, eqS, tabs, TK.agg, reduceCtorEq, Array.toList, List.map_cons, List.map_nil, ↓reduceIte, List.length_map, Nat.reduceAdd, Nat.reduceLeDiff, Nat.reduceLT, Nat.reduceMul, Nat.reduceSub, Option.bind_some, Option.map_some, bndV, numV, eI, eU, e8, eB, AV.isCell, Int.reduceToNat, Int.reduceSub, Int.reduceAdd, Int.reduceNeg])
  refine Pu.use (l13Tracked_spec f g) ?_
  refine l13Now_row f g (tr f) lt nx (by omega) h0 fun q G hn hq => ?_
  (try simp (maxSteps := 1000000) (disch := (first | assumption | (apply Ne.symm; assumption))) only [vw0, vw1, vw2, vw3, vw4, vu0, vu1, ↓condV_t, ↓condV_f, cap_nil, allocV, splice, partV, buildV, eqFieldsV, eqS, tabs, TK.agg, reduceCtorEq, Array.toList, List.map_cons, List.map_nil, ↓reduceIte, List.length_map, Nat.reduceAdd, Nat.reduceLeDiff, Nat.reduceLT, Nat.reduceMul, Nat.reduceSub, Option.bind_some, Option.map_some, bndV, numV, eI, eU, e8, eB, AV.isCell, Int.reduceToNat, Int.reduceSub, Int.reduceAdd, Int.reduceNeg])
  refine ⟨_, _, .trans (wkB hq (fun v => .tup [v, B true]) (fun h => .tup (.cons h (.cons (.same _) .nil)))) (.forget (H' := H) fun y b hb => ?_), rfl, rfl⟩
  rw [Heap.del_other (fun e => by have := hn.fr q (by simp); rw [← e, hb] at this; cases this)]
  exact hn.le y b hb
theorem EvalNow_impl (f : List Sd) (hl : f.length ≤ 1048576) (lt nx : Int) {H : Heap} {K : AV → Heap → Prop} (h : ∀ r G D, RowBB (enR f lt nx).1 (enR f lt nx).2 r G D → New H G D → K r G) : CallT Try.prog 19 [Ds f, I lt, I nx] H K := by
  refine CallT.finish ?_
  refine W19_ok ?_; simp (maxSteps := 1000000) (disch := (first | assumption | (apply Ne.symm; assumption))) only [W19, vw0, vw1, vw2, vw3, vw4, vu0, vu1, ↓condV_t, ↓condV_f, cap_nil, allocV, splice, partV, buildV, eqFieldsV, eqS, tabs, TK.agg, reduceCtorEq, Array.toList, List.map_cons, List.map_nil, ↓reduceIte, List.length_map, Nat.reduceAdd, Nat.reduceLeDiff, Nat.reduceLT, Nat.reduceMul, Nat.reduceSub, Option.bind_some, Option.map_some, bndV, numV, eI, eU, e8, eB, AV.isCell, Int.reduceToNat, Int.reduceSub, Int.reduceAdd, Int.reduceNeg]
  refine Pu.use (isNow_spec f hl lt nx) ?_
  cases ha : askF f lt nx
  · have e : enR f lt nx = ([], false) := by simp [enR, ha]
    rw [e] at h
    (try simp (maxSteps := 1000000) (disch := (first | assumption | (apply Ne.symm; assumption))) only [vw0, vw1, vw2, vw3, vw4, vu0, vu1, ↓condV_t, ↓condV_f, cap_nil, allocV, splice, partV, buildV, eqFieldsV, eqS, tabs, TK.agg, reduceCtorEq, Array.toList, List.map_cons, List.map_nil, ↓reduceIte, List.length_map, Nat.reduceAdd, Nat.reduceLeDiff, Nat.reduceLT, Nat.reduceMul, Nat.reduceSub, Option.bind_some, Option.map_some, bndV, numV, eI, eU, e8, eB, AV.isCell, Int.reduceToNat, Int.reduceSub, Int.reduceAdd, Int.reduceNeg])
    refine .ghost fun z hz => .wk (.val (v' := .tup [.sl z 1 0 0, B false]) (wk_tup ⟨.nilo _ _ _, .refl _, trivial⟩)) (.done (h _ _ [z] ⟨z, rfl, Heap.set_same _ _ _, rfl⟩ (New.cell hz)))
  obtain ⟨g, ht, h0⟩ := ask_facts ha
  have e : enR f lt nx = (evL f (tr f) lt nx f.length, true) := by simp [enR, ha]
  rw [e] at h
  (try simp (maxSteps := 1000000) (disch := (first | assumption | (apply Ne.symm; assumption))) only [vw0, vw1, vw2, vw3, vw4, vu0, vu1, ↓condV_t, ↓condV_f, cap_nil, allocV, splice, partV, buildV, eqFieldsV, eqS, tabs, TK.agg, reduceCtorEq, Array.toList, List.map_cons, List.map_nil, ↓reduceIte, List.length_map, Nat.reduceAdd, Nat.reduceLeDiff, Nat.reduceLT, Nat.reduceMul, Nat.reduceSub, Option.bind_some, Option.map_some, bndV, numV, eI, eU, e8, eB, AV.isCell, Int.reduceToNat, Int.reduceSub, Int.reduceAdd, Int.reduceNeg])
  refine evalNow_row f g lt nx h0 fun q G hn hq => ?_
  (try simp (maxSteps := 1000000) (disch := (first | assumption | (apply Ne.symm; assumption))) only [vw0, vw1, vw2, vw3, vw4, vu0, vu1, ↓condV_t, ↓condV_f, cap_nil, allocV, splice, partV, buildV, eqFieldsV, eqS, tabs, TK.agg, reduceCtorEq, Array.toList, List.map_cons, List.map_nil, ↓reduceIte, List.length_map, Nat.reduceAdd, Nat.reduceLeDiff, Nat.reduceLT, Nat.reduceMul, Nat.reduceSub, Option.bind_some, Option.map_some, bndV, numV, eI, eU, e8, eB, AV.isCell, Int.reduceToNat, Int.reduceSub, Int.reduceAdd, Int.reduceNeg])
  exact .done (h _ _ [q] ⟨q, rfl, hq, rfl⟩ hn)
theorem enR_len (f : List Sd) (lt nx : Int) : (enR f lt nx).1.length ≤ 16 := by
  unfold enR
  split
  · rename_i h
    show (evL f (tr f) lt nx f.length).length ≤ 16
    rw [evL_len]; exact (ask_facts h).1.l1
  · exact Nat.zero_le _
theorem FnExactEvalNow_true {f : List Sd} {lt nx : Int} (ho : ok f.length) : Pu Try.prog 4 [Ds f, I lt, I nx] (B true) := by
  refine Pu.of fun H => ?_
  refine W4_ok ?_; simp (maxSteps := 1000000) (disch := (first | assumption | (apply Ne.symm; assumption))) only [W4, vw0, vw1, vw2, vw3, vw4, vu0, vu1, ↓condV_t, ↓condV_f, cap_nil, allocV, splice, partV, buildV, eqFieldsV, eqS, tabs, TK.agg, reduceCtorEq, Array.toList, List.map_cons, List.map_nil, ↓reduceIte, List.length_map, Nat.reduceAdd, Nat.reduceLeDiff, Nat.reduceLT, Nat.reduceMul, Nat.reduceSub, Option.bind_some, Option.map_some, bndV, numV, eI, eU, e8, eB, AV.isCell, Int.reduceToNat, Int.reduceSub, Int.reduceAdd, Int.reduceNeg]
  refine Pu.use (szSaidS_spec f 1048576 (by omega) (by omega) ho) ?_
  (try simp (maxSteps := 1000000) (disch := (first | assumption | (apply Ne.symm; assumption))) only [vw0, vw1, vw2, vw3, vw4, vu0, vu1, ↓condV_t, ↓condV_f, cap_nil, allocV, splice, partV, buildV, eqFieldsV, eqS, tabs, TK.agg, reduceCtorEq, Array.toList, List.map_cons, List.map_nil, ↓reduceIte, List.length_map, Nat.reduceAdd, Nat.reduceLeDiff, Nat.reduceLT, Nat.reduceMul, Nat.reduceSub, Option.bind_some, Option.map_some, bndV, numV, eI, eU, e8, eB, AV.isCell, Int.reduceToNat, Int.reduceSub, Int.reduceAdd, Int.reduceNeg])
  refine fun h1 => ?_
  have hl : f.length ≤ 1048576 := by
    unfold szR at h1
    split at h1 <;> omega
  refine Pu.use (toSaidS_spec f hl) ?_
  refine Pu.use (EvalNow_ref f hl lt nx) ?_
  have hres := enR_len f lt nx
  have hI : ∀ {H : Heap} {K : AV → Heap → Prop}, (∀ r G D, RowBB (enR f lt nx).1 (enR f lt nx).2 r G D → New H G D → K r G) → CallT Try.prog 19 [Ds f, I lt, I nx] H K := EvalNow_impl f hl lt nx
  generalize (enR f lt nx).1 = o at hres hI
  generalize (enR f lt nx).2 = ok at hI
  (try simp (maxSteps := 1000000) (disch := (first | assumption | (apply Ne.symm; assumption))) only [vw0, vw1, vw2, vw3, vw4, vu0, vu1, ↓condV_t, ↓condV_f, cap_nil, allocV, splice, partV, buildV, eqFieldsV, eqS, tabs, TK.agg, reduceCtorEq, Array.toList, List.map_cons, List.map_nil, ↓reduceIte, List.length_map, Nat.reduceAdd, Nat.reduceLeDiff, Nat.reduceLT, Nat.reduceMul, Nat.reduceSub, Option.bind_some, Option.map_some, bndV, numV, eI, eU, e8, eB, AV.isCell, Int.reduceToNat, Int.reduceSub, Int.reduceAdd, Int.reduceNeg])
  refine toSaidS_live f hl fun va G Da la na => ?_
  obtain ⟨qx, rfl, hqx, rfl⟩ := LD_row la
  have st := (St.nil H).push (cellT qx (cD f)) na hqx
  clear la na hqx
  refine thawR (RowBB.res o ok) hI (wkD (st.get 0 rfl) (fun v => .tup [v, I lt, I nx]) (fun h => .tup (.cons h (.cons (.same _) (.cons (.same _) .nil))))) fun r G1 D hr hn => ?_
  obtain ⟨qg, rfl, hqg, rfl⟩ := hr
  replace st := st.push (cellT qg (cP fB o)) hn hqg
  clear hn hqg
  (try simp (maxSteps := 1000000) (disch := (first | assumption | (apply Ne.symm; assumption))) only [vw0, vw1, vw2, vw3, vw4, vu0, vu1, ↓condV_t, ↓condV_f, cap_nil, allocV, splice, partV, buildV, eqFieldsV, eqS, tabs, TK.agg, reduceCtorEq, Array.toList, List.map_cons, List.map_nil, ↓reduceIte, List.length_map, Nat.reduceAdd, Nat.reduceLeDiff, Nat.reduceLT, Nat.reduceMul, Nat.reduceSub, Option.bind_some, Option.map_some, bndV, numV, eI, eU, e8, eB, AV.isCell, Int.reduceToNat, Int.reduceSub, Int.reduceAdd, Int.reduceNeg])
  refine eqB_live (st.get 0 rfl) (by omega) ?_
  (try simp (maxSteps := 1000000) (disch := (first | assumption | (apply Ne.symm; assumption))) only [vw0, vw1, vw2, vw3, vw4, vu0, vu1, ↓condV_t, ↓condV_f, cap_nil, allocV, splice, partV, buildV, eqFieldsV, eqS, tabs, TK.agg, reduceCtorEq, Array.toList, List.map_cons, List.map_nil, ↓reduceIte, List.length_map, Nat.reduceAdd, Nat.reduceLeDiff, Nat.reduceLT, Nat.reduceMul, Nat.reduceSub, Option.bind_some, Option.map_some, bndV, numV, eI, eU, e8, eB, AV.isCell, Int.reduceToNat, Int.reduceSub, Int.reduceAdd, Int.reduceNeg])
  refine Pu.use (toSaidS_spec f hl) ?_
  refine eqD_row (st.get 1 rfl) hl ?_
  (try simp (maxSteps := 1000000) (disch := (first | assumption | (apply Ne.symm; assumption))) only [vw0, vw1, vw2, vw3, vw4, vu0, vu1, ↓condV_t, ↓condV_f, cap_nil, allocV, splice, partV, buildV, eqFieldsV, eqS, tabs, TK.agg, reduceCtorEq, Array.toList, List.map_cons, List.map_nil, ↓reduceIte, List.length_map, Nat.reduceAdd, Nat.reduceLeDiff, Nat.reduceLT, Nat.reduceMul, Nat.reduceSub, Option.bind_some, Option.map_some, bndV, numV, eI, eU, e8, eB, AV.isCell, Int.reduceToNat, Int.reduceSub, Int.reduceAdd, Int.reduceNeg])
  refine markSaidS_row f hl (by omega) (by omega) (st.get 1 rfl) ?_
  replace st := st.put 1 rfl (cD (markD 1 f.length))
  generalize G1.set qx (cD (markD 1 f.length)) = G2 at st ⊢
  (try simp (maxSteps := 1000000) (disch := (first | assumption | (apply Ne.symm; assumption))) only [vw0, vw1, vw2, vw3, vw4, vu0, vu1, ↓condV_t, ↓condV_f, cap_nil, allocV, splice, partV, buildV, eqFieldsV, eqS, tabs, TK.agg, reduceCtorEq, Array.toList, List.map_cons, List.map_nil, ↓reduceIte, List.length_map, Nat.reduceAdd, Nat.reduceLeDiff, Nat.reduceLT, Nat.reduceMul, Nat.reduceSub, Option.bind_some, Option.map_some, bndV, numV, eI, eU, e8, eB, AV.isCell, Int.reduceToNat, Int.reduceSub, Int.reduceAdd, Int.reduceNeg])
  refine ⟨fun h => by omega, fun _ => ?_⟩
  refine eqB_live (st.get 0 rfl) (by omega) ?_
  (try simp (maxSteps := 1000000) (disch := (first | assumption | (apply Ne.symm; assumption))) only [vw0, vw1, vw2, vw3, vw4, vu0, vu1, ↓condV_t, ↓condV_f, cap_nil, allocV, splice, partV, buildV, eqFieldsV, eqS, tabs, TK.agg, reduceCtorEq, Array.toList, List.map_cons, List.map_nil, ↓reduceIte, List.length_map, Nat.reduceAdd, Nat.reduceLeDiff, Nat.reduceLT, Nat.reduceMul, Nat.reduceSub, Option.bind_some, Option.map_some, bndV, numV, eI, eU, e8, eB, AV.isCell, Int.reduceToNat, Int.reduceSub, Int.reduceAdd, Int.reduceNeg])
  refine markBoolS_row o (by omega) (st.get 0 rfl) ?_
  replace st := st.put 0 rfl (cP fB (markB 1 o.length))
  generalize G2.set qg (cP fB (markB 1 o.length)) = G3 at st ⊢
  (try simp (maxSteps := 1000000) (disch := (first | assumption | (apply Ne.symm; assumption))) only [vw0, vw1, vw2, vw3, vw4, vu0, vu1, ↓condV_t, ↓condV_f, cap_nil, allocV, splice, partV, buildV, eqFieldsV, eqS, tabs, TK.agg, reduceCtorEq, Array.toList, List.map_cons, List.map_nil, ↓reduceIte, List.length_map, Nat.reduceAdd, Nat.reduceLeDiff, Nat.reduceLT, Nat.reduceMul, Nat.reduceSub, Option.bind_some, Option.map_some, bndV, numV, eI, eU, e8, eB, AV.isCell, Int.reduceToNat, Int.reduceSub, Int.reduceAdd, Int.reduceNeg])
  refine heldB_live (st.get 0 rfl) (by omega) ?_
  (try simp (maxSteps := 1000000) (disch := (first | assumption | (apply Ne.symm; assumption))) only [vw0, vw1, vw2, vw3, vw4, vu0, vu1, ↓condV_t, ↓condV_f, cap_nil, allocV, splice, partV, buildV, eqFieldsV, eqS, tabs, TK.agg, reduceCtorEq, Array.toList, List.map_cons, List.map_nil, ↓reduceIte, List.length_map, Nat.reduceAdd, Nat.reduceLeDiff, Nat.reduceLT, Nat.reduceMul, Nat.reduceSub, Option.bind_some, Option.map_some, bndV, numV, eI, eU, e8, eB, AV.isCell, Int.reduceToNat, Int.reduceSub, Int.reduceAdd, Int.reduceNeg])
  refine ⟨fun h => by omega, fun _ => ?_⟩
  refine Pu.use (toSaidS_spec f hl) ?_
  refine hI fun r G4 D hr hn => ?_
  obtain ⟨qh, rfl, hqh, rfl⟩ := hr
  replace st := st.push (cellT qh (cP fB o)) hn hqh
  (try simp (maxSteps := 1000000) (disch := (first | assumption | (apply Ne.symm; assumption))) only [vw0, vw1, vw2, vw3, vw4, vu0, vu1, ↓condV_t, ↓condV_f, cap_nil, allocV, splice, partV, buildV, eqFieldsV, eqS, tabs, TK.agg, reduceCtorEq, Array.toList, List.map_cons, List.map_nil, ↓reduceIte, List.length_map, Nat.reduceAdd, Nat.reduceLeDiff, Nat.reduceLT, Nat.reduceMul, Nat.reduceSub, Option.bind_some, Option.map_some, bndV, numV, eI, eU, e8, eB, AV.isCell, Int.reduceToNat, Int.reduceSub, Int.reduceAdd, Int.reduceNeg])
  refine eqB_live (st.get 0 rfl) (by omega) ?_
  (try simp (maxSteps := 1000000) (disch := (first | assumption | (apply Ne.symm; assumption))) only [vw0, vw1, vw2, vw3, vw4, vu0, vu1, ↓condV_t, ↓condV_f, cap_nil, allocV, splice, partV, buildV, eqFieldsV, eqS, tabs, TK.agg, reduceCtorEq, Array.toList, List.map_cons, List.map_nil, ↓reduceIte, List.length_map, Nat.reduceAdd, Nat.reduceLeDiff, Nat.reduceLT, Nat.reduceMul, Nat.reduceSub, Option.bind_some, Option.map_some, bndV, numV, eI, eU, e8, eB, AV.isCell, Int.reduceToNat, Int.reduceSub, Int.reduceAdd, Int.reduceNeg])
  refine heldB_live (st.get 1 rfl) (by omega) ?_
  (try simp (maxSteps := 1000000) (disch := (first | assumption | (apply Ne.symm; assumption))) only [vw0, vw1, vw2, vw3, vw4, vu0, vu1, ↓condV_t, ↓condV_f, cap_nil, allocV, splice, partV, buildV, eqFieldsV, eqS, tabs, TK.agg, reduceCtorEq, Array.toList, List.map_cons, List.map_nil, ↓reduceIte, List.length_map, Nat.reduceAdd, Nat.reduceLeDiff, Nat.reduceLT, Nat.reduceMul, Nat.reduceSub, Option.bind_some, Option.map_some, bndV, numV, eI, eU, e8, eB, AV.isCell, Int.reduceToNat, Int.reduceSub, Int.reduceAdd, Int.reduceNeg])
  exact ⟨fun h => by omega, fun _ => st.le⟩
end Go.Proofs.Ytoeabliackaibaa
