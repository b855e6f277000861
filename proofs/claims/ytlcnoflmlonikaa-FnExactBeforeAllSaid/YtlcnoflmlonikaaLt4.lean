/- Marks on programs that own their rows. -/
import Derived.Test.YtlcnoflmlonikaaLt3
namespace Go.Proofs.Ytlcnoflmlonikaa
open Go Go.Sep Go.Pt
set_option linter.unusedSimpArgs false
set_option linter.unusedVariables false
attribute [local irreducible] CallT

theorem drop_cons {α : Type} [Inhabited α] {xs : List α} {i : Nat} (h : i < xs.length) : xs.drop i = xs.getD i default :: xs.drop (i + 1) := by
  rw [List.drop_eq_getElem_cons h]; simp [List.getD, h]
/-- A row half of which is done. -/
structure Half {α : Type} (L : Lay α) (G0 : Heap) (q : Nat) (D : List Nat) (xs : List α) (i : Nat) (G : Heap) (done : List α) : Prop where
  ex : ∃ cd cr Dd Dr, G q = some (cd ++ cr) ∧ LL L done cd G Dd ∧ LL L (xs.drop i) cr G Dr ∧ D = Dd ++ Dr
  len : done.length = i
  fr : ∀ y, y ∉ q :: D → G y = G0 y

theorem LL_plain_D {α : Type} {e : α → List PV} {G : Heap} : ∀ {xs : List α} {cs : List AV} {D : List Nat}, LL (LPl e) xs cs G D → D = []
  | [], _, _, h => h.2
  | a :: bs, _, _, ⟨c1, c2, D1, D2, e1, e2, h1, h2⟩ => by rw [e2, h1.2, LL_plain_D h2]; rfl
theorem LL_plain_any {α : Type} {e : α → List PV} {G : Heap} (G' : Heap) {xs : List α} {cs : List AV} {D : List Nat} (h : LL (LPl e) xs cs G D) : LL (LPl e) xs cs G' D :=
  LL.local (LPl.local e) h fun y hy => by rw [LL_plain_D h] at hy; cases hy
theorem markNodeS_live (t : List Nd) (hl : t.length ≤ 1048576) {x : AV} {G : Heap} {D : List Nat} (hx : LN t x G D) (hD : D.Nodup) {k : Int} (h0 : 0 ≤ k) (hk : k ≤ 900000000) {K : AV → Heap → Prop}
    (h : ∀ k' t' G', LN t' x G' D → t'.length = t.length → (∀ y, y ∉ D → G' y = G y) → k ≤ k' → k' ≤ k + 2 * t.length → K (I k') G') : CallT Try.prog 15 [x, I k] G K := by
  obtain ⟨q, cs, D', rfl, hq, hll, rfl⟩ := hx
  refine W15_ok ?_; simp (maxSteps := 1000000) (disch := (first | assumption | (apply Ne.symm; assumption))) only [W15, vw0, vw1, vw2, vw3, vw4, vu0, vu1, ↓condV_t, ↓condV_f, cap_nil, allocV, splice, partV, buildV, eqFieldsV, eqS, tabs, TK.agg, reduceCtorEq, Array.toList, List.map_cons, List.map_nil, ↓reduceIte, List.length_map, Nat.reduceAdd, Nat.reduceLeDiff, Nat.reduceLT, Nat.reduceMul, Nat.reduceSub, Option.bind_some, Option.map_some, bndV, numV, eI, eU, e8, eB, AV.isCell, Int.reduceToNat, Int.reduceSub, Int.reduceAdd, Int.reduceNeg]
  refine L15_0_rule ((0 : Nat), G, ([] : List Nd)) (fun s => I (k + 2 * s.1)) (fun s => I s.1) (fun s => s.2.1) (fun s => s.1 ≤ t.length ∧ Half (LPl eN) G q D' t s.1 s.2.1 s.2.2) (fun s => t.length - s.1)
    ⟨⟨by simp, ⟨⟨[], cs, [], D', by simpa using hq, ⟨rfl, rfl⟩, by simpa using hll, rfl⟩, rfl, fun _ _ => rfl⟩⟩, ?_, .refl _, Heap.le_refl _⟩ ?_
  · rw [wk_int]; simp
  rintro ⟨i, G1, done⟩ ⟨hi, ⟨⟨cd, cr, Dd, Dr, e1, e2, e3, e4⟩, e5, e6⟩⟩
  dsimp only at hi e1 e2 e3 e4 e5 e6
  (try simp (maxSteps := 1000000) (disch := (first | assumption | (apply Ne.symm; assumption))) only [vw0, vw1, vw2, vw3, vw4, vu0, vu1, ↓condV_t, ↓condV_f, cap_nil, allocV, splice, partV, buildV, eqFieldsV, eqS, tabs, TK.agg, reduceCtorEq, Array.toList, List.map_cons, List.map_nil, ↓reduceIte, List.length_map, Nat.reduceAdd, Nat.reduceLeDiff, Nat.reduceLT, Nat.reduceMul, Nat.reduceSub, Option.bind_some, Option.map_some, bndV, numV, eI, eU, e8, eB, AV.isCell, Int.reduceToNat, Int.reduceSub, Int.reduceAdd, Int.reduceNeg, B15_0])
  refine ⟨fun h5 => ?_, fun h5 => ?_⟩
  · have hlt : i < t.length := by omega
    rw [drop_cons hlt] at e3
    obtain ⟨c, c2, Di, D2, rfl, rfl, ⟨rfl, rfl⟩, f2⟩ := e3
    have hdl : cd.length = i * 2 := by rw [LL.size (LPl.size (e := eN) (sz := 2) (fun _ => rfl)) e2, e5]
    generalize t.getD i default = a at e1
    have e1' : G1 q = some (cd ++ (I a.op :: U a.n :: c2)) := e1
    have p1 : ∀ z, List.take (i * 2) (cd ++ (I a.op :: U a.n :: c2)) ++ [z] ++ List.drop (i * 2 + 1) (cd ++ (I a.op :: U a.n :: c2)) = cd ++ (z :: U a.n :: c2) := fun z => splice_at (c := [I a.op]) (c' := [z]) (post := U a.n :: c2) hdl.symm rfl rfl
    have p2 : ∀ z w, List.take (i * 2 + 1) (cd ++ (z :: U a.n :: c2)) ++ [w] ++ List.drop (i * 2 + 1 + 1) (cd ++ (z :: U a.n :: c2)) = cd ++ (z :: w :: c2) := fun z w => by
      have := splice_at (pre := cd ++ [z]) (c := [U a.n]) (c' := [w]) (post := c2) (off := i * 2 + 1) (n := 1) (by simp [hdl]) rfl rfl
      simpa using this
    (try simp (maxSteps := 1000000) (disch := (first | assumption | (apply Ne.symm; assumption))) only [vw0, vw1, vw2, vw3, vw4, vu0, vu1, ↓condV_t, ↓condV_f, cap_nil, allocV, splice, partV, buildV, eqFieldsV, eqS, tabs, TK.agg, reduceCtorEq, Array.toList, List.map_cons, List.map_nil, ↓reduceIte, List.length_map, Nat.reduceAdd, Nat.reduceLeDiff, Nat.reduceLT, Nat.reduceMul, Nat.reduceSub, Option.bind_some, Option.map_some, bndV, numV, eI, eU, e8, eB, AV.isCell, Int.reduceToNat, Int.reduceSub, Int.reduceAdd, Int.reduceNeg, store_at e1'])
    rw [p1]
    refine ⟨by omega, h5, by omega, by omega, h5, by simp only [List.length_take, List.length_drop, List.length_append, List.length_cons, List.length_nil]; omega,
      (i + 1, G1.set q (cd ++ (I (k + 2 * i) :: U (IntKind.u64.wrap (IntKind.i64.wrap (k + 2 * ↑i + 1))) :: c2)), done ++ [⟨k + 2 * i, IntKind.u64.wrap (IntKind.i64.wrap (k + 2 * ↑i + 1))⟩]), ⟨by simp only; omega, ⟨⟨cd ++ [I (k + 2 * i), U (IntKind.u64.wrap (IntKind.i64.wrap (k + 2 * ↑i + 1)))], c2, Dd, D2, ?_, ?_, ?_, ?_⟩, by simp [e5], fun y hy => ?_⟩⟩, by simp only; omega, ?_, ?_, ?_⟩
    · show (G1.set q _) q = _
      rw [Heap.set_same]; simp
    · have := LL.snoc (L := LPl eN) (a := ⟨k + 2 * i, IntKind.u64.wrap (IntKind.i64.wrap (k + 2 * ↑i + 1))⟩) (G := G1.set q (cd ++ (I (k + 2 * i) :: U (IntKind.u64.wrap (IntKind.i64.wrap (k + 2 * ↑i + 1))) :: c2))) (D2 := []) ⟨rfl, rfl⟩ (LL_plain_any _ e2)
      simpa using this
    · exact LL_plain_any _ f2
    · simpa using e4
    · show (G1.set q _) y = _
      rw [List.mem_cons, not_or] at hy
      rw [Heap.set_other hy.1, e6 y (by simp [hy.1, hy.2])]
    · rw [wk_int, i64_id (n := k + 2 * i + 1) (by omega) (by omega), i64_id (by omega) (by omega)]; simp only; omega
    · rw [wk_int, i64_id (by omega) (by omega)]; simp
    · have := p2 (I (k + 2 * i)) (U (IntKind.u64.wrap (IntKind.i64.wrap (k + 2 * ↑i + 1))))
      simp only
      rw [this]; exact Heap.le_refl _
  · have : i = t.length := by omega
    subst this
    rw [List.drop_length] at e3
    obtain ⟨rfl, rfl⟩ := e3
    refine h _ done G1 ⟨q, cd, D', by rw [e5], by simpa using e1, by rw [e4]; simpa using e2, rfl⟩ e5 e6 (by omega) (by omega)

theorem LN_D {t : List Nd} {x : AV} {G : Heap} {D : List Nat} (h : LN t x G D) : ∃ q, D = [q] := by
  obtain ⟨q, cs, D', e1, e2, e3, e4⟩ := h
  exact ⟨q, by rw [e4, LL_plain_D e3]⟩
end Go.Proofs.Ytlcnoflmlonikaa
