/- Specs: rows of nodes of formulas: sizes, copies, comparisons, marks; answers of one's own. -/
import Derived.Test.YtgcklgeifdefhaaGreatMt0
import Derived.Test.YtgcklgeifdefhaaGreatMa2
import Derived.Test.YtgcklgeifdefhaaGreatMg0
import Derived.Test.YtgcklgeifdefhaaGreatPf1
namespace Go.Sep
open Go Go.RowKit Go.Proofs.YtgcklgeifdefhaaGreat
set_option linter.unusedVariables false

/-- Answers that may be moved on: what they are, in a heap, with the blocks they own. -/
structure ResT (R : AV → Heap → List Nat → Prop) : Prop where
  loc : ∀ {r G G' D}, R r G D → (∀ y ∈ D, ∀ b, G y = some b → G' y = some b) → R r G' D
  gd : ∀ {r G D}, R r G D → Gd2 r ∧ ∀ y ∈ D, ∀ bs, G y = some bs → ∀ c ∈ bs, GdC c
  sh : ∀ {r G D n G0}, (∀ q, n ≤ q → G0 q = none) → R r G D → R (sh2 n r) (Heap.or G0 (shH n G)) (D.map (· + n))
/-- A function whose answer is of its own, called with what is live. -/
theorem thawR {R : AV → Heap → List Nat → Prop} (hR : ResT R) {P : Program} {f : Nat} {args args' : List AV} {G G1 : Heap} {K : AV → Heap → Prop}
    (hf : ∀ {K : AV → Heap → Prop}, (∀ r G D, R r G D → New (fun _ => none) G D → K r G) → CallT P f args' (fun _ => none) K)
    (hw : Wk (.tup args) G (.tup args') G1) (h : ∀ r G' D, R r G' D → New G G' D → K r G') : CallT P f args G K := by
  refine CallT.thawX (Q' := fun r H' => ∃ D, R r H' D ∧ D.Nodup ∧ ∀ y, y ∉ D → H' y = none) ?_ ?_ hw ?_
  · refine CallT.fin (hf fun r G D hl hn => ⟨_, only D G, .forget (only_le D G), D, hR.loc hl fun y hy b hb => by rw [only_in hy]; exact hb, hn.nd, fun y hy => only_out hy⟩)
  · rintro r H' ⟨D, hl, _, hout⟩
    refine ⟨(hR.gd hl).1, fun q cs hq => ?_⟩
    by_cases hD : q ∈ D
    · exact (hR.gd hl).2 q hD cs hq
    · rw [hout q hD] at hq; cases hq
  · rintro r H' n ⟨D, hl, hnd, hout⟩ hn
    refine h _ _ (D.map (· + n)) (hR.sh hn hl) ⟨?_, fun y hy => ?_, fun y b hb => by simp only [Heap.or, hb]⟩
    · exact List.pairwise_map.2 (hnd.imp fun h e => h (Nat.add_right_cancel e))
    · obtain ⟨z, _, rfl⟩ := List.mem_map.1 hy
      exact hn _ (by omega)
end Go.Sep
namespace Go.Proofs.YtgcklgeifdefhaaGreat
open Go Go.Sep Go.Pt
set_option linter.unusedSimpArgs false
set_option linter.unusedVariables false
attribute [local irreducible] CallT

abbrev eD (x : Sd) : List PV := [.int .i64 x.op, .int .i64 x.n]
abbrev aD (x : Sd) : AV := .agg [I x.op, I x.n]
abbrev Ds (xs : List Sd) : AV := .p (.sl (xs.map eD))
abbrev rowD (q : Nat) (xs : List Sd) : AV := .sl q 2 0 xs.length
abbrev cD (xs : List Sd) : List AV := cells (xs.map eD)
abbrev LD : List Sd → AV → Heap → List Nat → Prop := LRow (LPl eD) 2
theorem szD (xs : List Sd) : Sized 2 (xs.map eD) := sized_map (f := eD) (fun _ => rfl) xs
def markD (k : Int) (n : Nat) : List Sd := (List.range n).map fun (i : Nat) => ⟨k + 2 * (i : Int), k + 2 * (i : Int) + 1⟩
theorem markD_len (k : Int) (n : Nat) : (markD k n).length = n := by simp [markD]
theorem markD_succ (k : Int) (n : Nat) : markD k (n + 1) = markD k n ++ [⟨k + 2 * n, k + 2 * n + 1⟩] := by simp [markD, List.range_succ]
theorem szSaidS_spec (t : List Sd) (left : Int) (h0 : 0 ≤ left) (h1 : left ≤ 1048576) (hl : ok t.length) : Pu Tryz.prog 37 [Ds t, I left] (I (szR left t.length)) := by
  refine Pu.of fun H => ?_
  unfold ok at hl
  have e : IntKind.i64.wrap (left - t.length) = left - t.length := i64_id (by omega) (by omega)
  refine W37_ok ?_; simp (maxSteps := 1000000) (disch := (first | assumption | (apply Ne.symm; assumption))) only [W37, vw0, vw1, vw2, vw3, vw4, vu0, vu1, ↓condV_t, ↓condV_f, cap_nil, allocV, splice, partV, buildV, eqFieldsV, eqS, tabs, TK.agg, reduceCtorEq, Array.toList, List.map_cons, List.map_nil, ↓reduceIte, List.length_map, Nat.reduceAdd, Nat.reduceLeDiff, Nat.reduceLT, Nat.reduceMul, Nat.reduceSub, Option.bind_some, Option.map_some, bndV, numV, eI, eU, e8, eB, AV.isCell, Int.reduceToNat, Int.reduceSub, Int.reduceAdd, Int.reduceNeg, e]
  refine ⟨fun h => by rw [szR_neg (by omega)], fun h => by rw [szR_pos (by omega)]⟩
theorem toSaid_spec (c : Sd) : Pu Tryz.prog 82 [aD c] (aD c) := by
  refine Pu.of fun H => ?_
  refine W82_ok ?_; simp (maxSteps := 1000000) (disch := (first | assumption | (apply Ne.symm; assumption))) only [W82, vw0, vw1, vw2, vw3, vw4, vu0, vu1, ↓condV_t, ↓condV_f, cap_nil, allocV, splice, partV, buildV, eqFieldsV, eqS, tabs, TK.agg, reduceCtorEq, Array.toList, List.map_cons, List.map_nil, ↓reduceIte, List.length_map, Nat.reduceAdd, Nat.reduceLeDiff, Nat.reduceLT, Nat.reduceMul, Nat.reduceSub, Option.bind_some, Option.map_some, bndV, numV, eI, eU, e8, eB, AV.isCell, Int.reduceToNat, Int.reduceSub, Int.reduceAdd, Int.reduceNeg]
  intro r hr r2 n1 h2 r3 n2 n3 h3
  (try simp (maxSteps := 1000000) (disch := (first | assumption | (apply Ne.symm; assumption))) only [vw0, vw1, vw2, vw3, vw4, vu0, vu1, ↓condV_t, ↓condV_f, cap_nil, allocV, splice, partV, buildV, eqFieldsV, eqS, tabs, TK.agg, reduceCtorEq, Array.toList, List.map_cons, List.map_nil, ↓reduceIte, List.length_map, Nat.reduceAdd, Nat.reduceLeDiff, Nat.reduceLT, Nat.reduceMul, Nat.reduceSub, Option.bind_some, Option.map_some, bndV, numV, eI, eU, e8, eB, AV.isCell, Int.reduceToNat, Int.reduceSub, Int.reduceAdd, Int.reduceNeg])
  (repeat first | exact Heap.le_refl _ | refine Heap.le_setN ?_ (by assumption))
theorem toSaidS_spec (xs : List Sd) (hl : xs.length ≤ 1048576) : Pu Tryz.prog 43 [Ds xs] (Ds xs) := by
  refine ⟨fun H => CallT.fin ?_⟩
  refine W43_ok ?_; simp (maxSteps := 1000000) (disch := (first | assumption | (apply Ne.symm; assumption))) only [W43, vw0, vw1, vw2, vw3, vw4, vu0, vu1, ↓condV_t, ↓condV_f, cap_nil, allocV, splice, partV, buildV, eqFieldsV, eqS, tabs, TK.agg, reduceCtorEq, Array.toList, List.map_cons, List.map_nil, ↓reduceIte, List.length_map, Nat.reduceAdd, Nat.reduceLeDiff, Nat.reduceLT, Nat.reduceMul, Nat.reduceSub, Option.bind_some, Option.map_some, bndV, numV, eI, eU, e8, eB, AV.isCell, Int.reduceToNat, Int.reduceSub, Int.reduceAdd, Int.reduceNeg, makeSliceV]
  refine ⟨by omega, by omega, by omega, by omega, fun q hq => ?_⟩
  have z0 : rowZ eD [I 0, I 0] xs 0 = zerosA xs.length [I 0, I 0] := rowZ_zero
  rw [← z0]
  refine L43_0_rule (0 : Nat) (fun i => I i) (fun i => H.set q (rowZ eD [I 0, I 0] xs i)) (fun i => i ≤ xs.length) (fun i => xs.length - i) ⟨by omega, .refl _, Heap.le_refl _⟩ ?_
  intro i hi
  have hrl := rowZ_len (e := eD) (zero := [I 0, I 0]) (xs := xs) (i := i) (sz := 2) (fun _ => rfl) rfl hi
  (try simp (maxSteps := 1000000) (disch := (first | assumption | (apply Ne.symm; assumption))) only [vw0, vw1, vw2, vw3, vw4, vu0, vu1, ↓condV_t, ↓condV_f, cap_nil, allocV, splice, partV, buildV, eqFieldsV, eqS, tabs, TK.agg, reduceCtorEq, Array.toList, List.map_cons, List.map_nil, ↓reduceIte, List.length_map, Nat.reduceAdd, Nat.reduceLeDiff, Nat.reduceLT, Nat.reduceMul, Nat.reduceSub, Option.bind_some, Option.map_some, bndV, numV, eI, eU, e8, eB, AV.isCell, Int.reduceToNat, Int.reduceSub, Int.reduceAdd, Int.reduceNeg, B43_0])
  refine ⟨fun h => ⟨by omega, h, ?_⟩, fun h => ?_⟩
  · have hlt : i < xs.length := by omega
    have hput := rowZ_put (e := eD) (zero := [I 0, I 0]) (xs := xs) (i := i) (sz := 2) (fun _ => rfl) rfl hlt rfl rfl
    refine Pu.use (toSaid_spec (xs.getD i default)) ?_
    (try simp (maxSteps := 1000000) (disch := (first | assumption | (apply Ne.symm; assumption))) only [vw0, vw1, vw2, vw3, vw4, vu0, vu1, ↓condV_t, ↓condV_f, cap_nil, allocV, splice, partV, buildV, eqFieldsV, eqS, tabs, TK.agg, reduceCtorEq, Array.toList, List.map_cons, List.map_nil, ↓reduceIte, List.length_map, Nat.reduceAdd, Nat.reduceLeDiff, Nat.reduceLT, Nat.reduceMul, Nat.reduceSub, Option.bind_some, Option.map_some, bndV, numV, eI, eU, e8, eB, AV.isCell, Int.reduceToNat, Int.reduceSub, Int.reduceAdd, Int.reduceNeg])
    refine ⟨by omega, h, by omega, i + 1, by omega, by omega, ?_, ?_⟩
    · rw [wk_int, i64_id (by omega) (by omega)]; simp
    · rw [← hput]; exact Heap.le_refl _
  · have : i = xs.length := by omega
    subst this
    have := fin_own (sz := 2) (es := xs.map eD) (q := q) (H := H) (H' := H.set q (rowZ eD [I 0, I 0] xs xs.length)) (K := fun r H' => r = Ds xs ∧ H' = H) (by omega) (sized_map (f := eD) (fun _ => rfl) xs) hq (by rw [rowZ_end]; exact Heap.le_refl _) ⟨rfl, rfl⟩
    simpa only [Go.Sep.own, List.length_map] using this
theorem eqSaid_spec (c : Sd) : Pu Tryz.prog 90 [aD c, aD c] (B true) := by
  refine Pu.of fun H => ?_
  refine W90_ok ?_; simp (maxSteps := 1000000) (disch := (first | assumption | (apply Ne.symm; assumption))) only [W90, vw0, vw1, vw2, vw3, vw4, vu0, vu1, ↓condV_t, ↓condV_f, cap_nil, allocV, splice, partV, buildV, eqFieldsV, eqS, tabs, TK.agg, reduceCtorEq, Array.toList, List.map_cons, List.map_nil, ↓reduceIte, List.length_map, Nat.reduceAdd, Nat.reduceLeDiff, Nat.reduceLT, Nat.reduceMul, Nat.reduceSub, Option.bind_some, Option.map_some, bndV, numV, eI, eU, e8, eB, AV.isCell, Int.reduceToNat, Int.reduceSub, Int.reduceAdd, Int.reduceNeg]
  intro r hr r2 n1 h2
  (try simp (maxSteps := 1000000) (disch := (first | assumption | (apply Ne.symm; assumption))) only [vw0, vw1, vw2, vw3, vw4, vu0, vu1, ↓condV_t, ↓condV_f, cap_nil, allocV, splice, partV, buildV, eqFieldsV, eqS, tabs, TK.agg, reduceCtorEq, Array.toList, List.map_cons, List.map_nil, ↓reduceIte, List.length_map, Nat.reduceAdd, Nat.reduceLeDiff, Nat.reduceLT, Nat.reduceMul, Nat.reduceSub, Option.bind_some, Option.map_some, bndV, numV, eI, eU, e8, eB, AV.isCell, Int.reduceToNat, Int.reduceSub, Int.reduceAdd, Int.reduceNeg])
  (repeat first | exact Heap.le_refl _ | refine Heap.le_setN ?_ (by assumption))
theorem eqSaidS_spec (xs : List Sd) (hl : xs.length ≤ 1048576) : Pu Tryz.prog 51 [Ds xs, Ds xs] (B true) := by
  refine Pu.of fun H => ?_
  refine W51_ok ?_; simp (maxSteps := 1000000) (disch := (first | assumption | (apply Ne.symm; assumption))) only [W51, vw0, vw1, vw2, vw3, vw4, vu0, vu1, ↓condV_t, ↓condV_f, cap_nil, allocV, splice, partV, buildV, eqFieldsV, eqS, tabs, TK.agg, reduceCtorEq, Array.toList, List.map_cons, List.map_nil, ↓reduceIte, List.length_map, Nat.reduceAdd, Nat.reduceLeDiff, Nat.reduceLT, Nat.reduceMul, Nat.reduceSub, Option.bind_some, Option.map_some, bndV, numV, eI, eU, e8, eB, AV.isCell, Int.reduceToNat, Int.reduceSub, Int.reduceAdd, Int.reduceNeg]
  refine L51_0_rule (0 : Nat) (fun i => I i) (fun _ => H) (fun i => i ≤ xs.length) (fun i => xs.length - i) ⟨by omega, .refl _, Heap.le_refl _⟩ ?_
  intro i hi
  (try simp (maxSteps := 1000000) (disch := (first | assumption | (apply Ne.symm; assumption))) only [vw0, vw1, vw2, vw3, vw4, vu0, vu1, ↓condV_t, ↓condV_f, cap_nil, allocV, splice, partV, buildV, eqFieldsV, eqS, tabs, TK.agg, reduceCtorEq, Array.toList, List.map_cons, List.map_nil, ↓reduceIte, List.length_map, Nat.reduceAdd, Nat.reduceLeDiff, Nat.reduceLT, Nat.reduceMul, Nat.reduceSub, Option.bind_some, Option.map_some, bndV, numV, eI, eU, e8, eB, AV.isCell, Int.reduceToNat, Int.reduceSub, Int.reduceAdd, Int.reduceNeg, B51_0])
  intro h
  have hlt : i < xs.length := by omega
  refine ⟨by omega, h, by omega, h, ?_⟩
  refine Pu.use (eqSaid_spec (xs.getD i default)) ?_
  (try simp (maxSteps := 1000000) (disch := (first | assumption | (apply Ne.symm; assumption))) only [vw0, vw1, vw2, vw3, vw4, vu0, vu1, ↓condV_t, ↓condV_f, cap_nil, allocV, splice, partV, buildV, eqFieldsV, eqS, tabs, TK.agg, reduceCtorEq, Array.toList, List.map_cons, List.map_nil, ↓reduceIte, List.length_map, Nat.reduceAdd, Nat.reduceLeDiff, Nat.reduceLT, Nat.reduceMul, Nat.reduceSub, Option.bind_some, Option.map_some, bndV, numV, eI, eU, e8, eB, AV.isCell, Int.reduceToNat, Int.reduceSub, Int.reduceAdd, Int.reduceNeg])
  refine ⟨i + 1, by omega, by omega, ?_⟩
  rw [wk_int, i64_id (by omega) (by omega)]; simp
theorem toSaidS_live (xs : List Sd) (hl : xs.length ≤ 1048576) {H : Heap} {K : AV → Heap → Prop} (h : ∀ x G D, LD xs x G D → New H G D → K x G) : CallT Tryz.prog 43 [Ds xs] H K := by
  refine W43_ok ?_; simp (maxSteps := 1000000) (disch := (first | assumption | (apply Ne.symm; assumption))) only [W43, vw0, vw1, vw2, vw3, vw4, vu0, vu1, ↓condV_t, ↓condV_f, cap_nil, allocV, splice, partV, buildV, eqFieldsV, eqS, tabs, TK.agg, reduceCtorEq, Array.toList, List.map_cons, List.map_nil, ↓reduceIte, List.length_map, Nat.reduceAdd, Nat.reduceLeDiff, Nat.reduceLT, Nat.reduceMul, Nat.reduceSub, Option.bind_some, Option.map_some, bndV, numV, eI, eU, e8, eB, AV.isCell, Int.reduceToNat, Int.reduceSub, Int.reduceAdd, Int.reduceNeg, makeSliceV]
  refine ⟨by omega, by omega, by omega, by omega, fun q hq => ?_⟩
  have z0 : rowZ eD [I 0, I 0] xs 0 = zerosA xs.length [I 0, I 0] := rowZ_zero
  rw [← z0]
  refine L43_0_rule (0 : Nat) (fun i => I i) (fun i => H.set q (rowZ eD [I 0, I 0] xs i)) (fun i => i ≤ xs.length) (fun i => xs.length - i) ⟨by omega, .refl _, Heap.le_refl _⟩ ?_
  intro i hi
  have hrl := rowZ_len (e := eD) (zero := [I 0, I 0]) (xs := xs) (i := i) (sz := 2) (fun _ => rfl) rfl hi
  (try simp (maxSteps := 1000000) (disch := (first | assumption | (apply Ne.symm; assumption))) only [vw0, vw1, vw2, vw3, vw4, vu0, vu1, ↓condV_t, ↓condV_f, cap_nil, allocV, splice, partV, buildV, eqFieldsV, eqS, tabs, TK.agg, reduceCtorEq, Array.toList, List.map_cons, List.map_nil, ↓reduceIte, List.length_map, Nat.reduceAdd, Nat.reduceLeDiff, Nat.reduceLT, Nat.reduceMul, Nat.reduceSub, Option.bind_some, Option.map_some, bndV, numV, eI, eU, e8, eB, AV.isCell, Int.reduceToNat, Int.reduceSub, Int.reduceAdd, Int.reduceNeg, B43_0])
  refine ⟨fun h => ⟨by omega, h, ?_⟩, fun h5 => ?_⟩
  · have hlt : i < xs.length := by omega
    have hput := rowZ_put (e := eD) (zero := [I 0, I 0]) (xs := xs) (i := i) (sz := 2) (fun _ => rfl) rfl hlt rfl rfl
    refine Pu.use (toSaid_spec (xs.getD i default)) ?_
    (try simp (maxSteps := 1000000) (disch := (first | assumption | (apply Ne.symm; assumption))) only [vw0, vw1, vw2, vw3, vw4, vu0, vu1, ↓condV_t, ↓condV_f, cap_nil, allocV, splice, partV, buildV, eqFieldsV, eqS, tabs, TK.agg, reduceCtorEq, Array.toList, List.map_cons, List.map_nil, ↓reduceIte, List.length_map, Nat.reduceAdd, Nat.reduceLeDiff, Nat.reduceLT, Nat.reduceMul, Nat.reduceSub, Option.bind_some, Option.map_some, bndV, numV, eI, eU, e8, eB, AV.isCell, Int.reduceToNat, Int.reduceSub, Int.reduceAdd, Int.reduceNeg])
    refine ⟨by omega, h, by omega, i + 1, by omega, by omega, ?_, ?_⟩
    · rw [wk_int, i64_id (by omega) (by omega)]; simp
    · rw [← hput]; exact Heap.le_refl _
  · have : i = xs.length := by omega
    subst this
    refine h _ _ [q] ⟨q, _, [], rfl, Heap.set_same _ _ _, ?_, rfl⟩ ⟨by simp, by simpa using hq, Heap.le_set hq⟩
    rw [rowZ_end]; exact LL.plain xs

theorem LD_row {xs : List Sd} {x : AV} {G : Heap} {D : List Nat} (h : LD xs x G D) : ∃ q, x = rowD q xs ∧ G q = some (cD xs) ∧ D = [q] := by
  obtain ⟨q, cs, D', rfl, hq, hll, rfl⟩ := h
  obtain ⟨rfl, rfl⟩ := LL.plain' hll
  exact ⟨q, rfl, hq, rfl⟩
theorem frz_rowD {q : Nat} {xs : List Sd} : FrzR q 2 (xs.map eD) (rowD q xs) (Ds xs) := by
  have : FrzR q 2 (xs.map eD) (.sl q 2 0 (xs.map eD).length) (.p (.sl (xs.map eD))) := .here
  rwa [List.length_map] at this
theorem wkD {q : Nat} {xs : List Sd} {G : Heap} (hq : G q = some (cD xs)) (C : AV → AV) (hC : ∀ {q sz es a a'}, FrzR q sz es a a' → FrzR q sz es (C a) (C a')) : Wk (C (rowD q xs)) G (C (Ds xs)) (G.del q) :=
  Wk.frz (r := q) (sz := 2) (es := xs.map eD) (by omega) hq (szD xs) (hC frz_rowD)
theorem eqD_row {q : Nat} {xs : List Sd} {G : Heap} (hq : G q = some (cD xs)) (hl : xs.length ≤ 1048576) {K : AV → Heap → Prop} (h : K (B true) G) : CallT Tryz.prog 51 [rowD q xs, Ds xs] G K :=
  Pu.thaw (eqSaidS_spec xs hl) (.bool _) (wkD hq (fun v => .tup [v, Ds xs]) (fun h => .tup (.cons h (.cons (.same _) .nil)))) h
end Go.Proofs.YtgcklgeifdefhaaGreat
