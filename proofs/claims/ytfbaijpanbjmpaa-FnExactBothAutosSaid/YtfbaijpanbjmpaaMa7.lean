/- Specs: automata that own their rows: copies and exact marks. -/
import Derived.Test.YtfbaijpanbjmpaaMa5
namespace Go.Proofs.Ytfbaijpanbjmpaa
open Go Go.Sep Go.Pt
set_option linter.unusedSimpArgs false
set_option linter.unusedVariables false
attribute [local irreducible] CallT

def markE (k : Int) (n : Nat) : List Ed := (List.range n).map fun (i : Nat) => ⟨k + 3 * (i : Int), k + 3 * (i : Int) + 1, k + 3 * (i : Int) + 2⟩
theorem markE_len (k : Int) (n : Nat) : (markE k n).length = n := by simp [markE]
theorem markE_succ (k : Int) (n : Nat) : markE k (n + 1) = markE k n ++ [⟨k + 3 * n, k + 3 * n + 1, k + 3 * n + 2⟩] := by simp [markE, List.range_succ]
theorem markEdgeS_row (xs : List Ed) (hl : xs.length ≤ 1048576) {k : Int} (h0 : 0 ≤ k) (h1 : k ≤ 1000000000) {q : Nat} {G : Heap} (hG : G q = some (cE xs)) {K : AV → Heap → Prop}
    (h : K (I (k + 3 * xs.length)) (G.set q (cE (markE k xs.length)))) : CallT Try.prog 52 [rowE q xs, I k] G K := by
  refine W52_ok ?_; simp (maxSteps := 1000000) (disch := (first | assumption | (apply Ne.symm; assumption))) only [W52, vw0, vw1, vw2, vw3, vw4, vu0, vu1, ↓condV_t, ↓condV_f, cap_nil, allocV, splice, partV, buildV, eqFieldsV, eqS, tabs, TK.agg, reduceCtorEq, Array.toList, List.map_cons, List.map_nil, ↓reduceIte, List.length_map, Nat.reduceAdd, Nat.reduceLeDiff, Nat.reduceLT, Nat.reduceMul, Nat.reduceSub, Option.bind_some, Option.map_some, bndV, numV, eI, eU, e8, eB, AV.isCell, Int.reduceToNat, Int.reduceSub, Int.reduceAdd, Int.reduceNeg]
  refine L52_0_rule (0 : Nat) (fun i => I (k + 3 * i)) (fun i => I i) (fun i => G.set q (cE (markE k i ++ xs.drop i))) (fun i => i ≤ xs.length) (fun i => xs.length - i) ⟨by omega, ?_, .refl _, ?_⟩ ?_
  · rw [wk_int]; simp
  · intro y b hy
    by_cases e : y = q
    · subst e; rw [Heap.set_same] at hy; rw [hG]; simpa [markE] using hy
    · rw [Heap.set_other e] at hy; exact hy
  intro i hi
  (try simp (maxSteps := 1000000) (disch := (first | assumption | (apply Ne.symm; assumption))) only [vw0, vw1, vw2, vw3, vw4, vu0, vu1, ↓condV_t, ↓condV_f, cap_nil, allocV, splice, partV, buildV, eqFieldsV, eqS, tabs, TK.agg, reduceCtorEq, Array.toList, List.map_cons, List.map_nil, ↓reduceIte, List.length_map, Nat.reduceAdd, Nat.reduceLeDiff, Nat.reduceLT, Nat.reduceMul, Nat.reduceSub, Option.bind_some, Option.map_some, bndV, numV, eI, eU, e8, eB, AV.isCell, Int.reduceToNat, Int.reduceSub, Int.reduceAdd, Int.reduceNeg, B52_0])
  refine ⟨fun h5 => ?_, fun h5 => ?_⟩
  · have hlt : i < xs.length := by omega
    have hdl : (cE (markE k i)).length = i * 3 := by rw [cells_map_len (sz := 3) (fun _ => rfl), markE_len]
    have e3 : cE (markE k i ++ xs.drop i) = cE (markE k i) ++ (I (xs.getD i default).src :: I (xs.getD i default).lt :: I (xs.getD i default).dst :: cE (xs.drop (i + 1))) := by
      rw [drop_cons hlt, cE, List.map_append, cells_app]; rfl
    have e4 : cE (markE k (i + 1) ++ xs.drop (i + 1)) = cE (markE k i) ++ (I (k + 3 * i) :: I (k + 3 * i + 1) :: I (k + 3 * i + 2) :: cE (xs.drop (i + 1))) := by
      rw [markE_succ, List.append_assoc, cE, List.map_append, cells_app]; rfl
    generalize cE (xs.drop (i + 1)) = c2 at e3 e4
    generalize xs.getD i default = a at e3
    rw [e3]
    generalize cE (markE k i) = cd at hdl e4
    have p1 : ∀ z, List.take (i * 3) (cd ++ (I a.src :: I a.lt :: I a.dst :: c2)) ++ [z] ++ List.drop (i * 3 + 1) (cd ++ (I a.src :: I a.lt :: I a.dst :: c2)) = cd ++ (z :: I a.lt :: I a.dst :: c2) := fun z => splice_at (c := [I a.src]) (c' := [z]) (post := I a.lt :: I a.dst :: c2) hdl.symm rfl rfl
    have p2 : ∀ z w, List.take (i * 3 + 1) (cd ++ (z :: I a.lt :: I a.dst :: c2)) ++ [w] ++ List.drop (i * 3 + 1 + 1) (cd ++ (z :: I a.lt :: I a.dst :: c2)) = cd ++ (z :: w :: I a.dst :: c2) := fun z w => by
      have := splice_at (pre := cd ++ [z]) (c := [I a.lt]) (c' := [w]) (post := I a.dst :: c2) (off := i * 3 + 1) (n := 1) (by simp [hdl]) rfl rfl
      simpa using this
    have p3 : ∀ z w u, List.take (i * 3 + 2) (cd ++ (z :: w :: I a.dst :: c2)) ++ [u] ++ List.drop (i * 3 + 2 + 1) (cd ++ (z :: w :: I a.dst :: c2)) = cd ++ (z :: w :: u :: c2) := fun z w u => by
      have := splice_at (pre := cd ++ [z, w]) (c := [I a.dst]) (c' := [u]) (post := c2) (off := i * 3 + 2) (n := 1) (by simp [hdl]) rfl rfl
      simpa using this
    have w1 : IntKind.i64.wrap (k + 3 * ↑i + 1) = k + 3 * i + 1 := i64_id (by omega) (by omega)
    have w2 : IntKind.i64.wrap (k + 3 * ↑i + 1 + 1) = k + 3 * i + 2 := by rw [i64_id (by omega) (by omega)]; omega
    have w3 : IntKind.i64.wrap (k + 3 * ↑i + 2 + 1) = k + 3 * i + 3 := by rw [i64_id (by omega) (by omega)]; omega
    (try simp (maxSteps := 1000000) (disch := (first | assumption | (apply Ne.symm; assumption))) only [vw0, vw1, vw2, vw3, vw4, vu0, vu1, ↓condV_t, ↓condV_f, cap_nil, allocV, splice, partV, buildV, eqFieldsV, eqS, tabs, TK.agg, reduceCtorEq, Array.toList, List.map_cons, List.map_nil, ↓reduceIte, List.length_map, Nat.reduceAdd, Nat.reduceLeDiff, Nat.reduceLT, Nat.reduceMul, Nat.reduceSub, Option.bind_some, Option.map_some, bndV, numV, eI, eU, e8, eB, AV.isCell, Int.reduceToNat, Int.reduceSub, Int.reduceAdd, Int.reduceNeg, p1, p2, p3, w1, w2, w3])
    refine ⟨by omega, h5, by omega, by omega, h5, by simp only [List.length_take, List.length_drop, List.length_append, List.length_cons, hdl]; omega, by omega, h5, by simp only [List.length_take, List.length_drop, List.length_append, List.length_cons, hdl]; omega, i + 1, by omega, by omega, ?_, ?_, ?_⟩
    · rw [wk_int]; omega
    · rw [wk_int, i64_id (by omega) (by omega)]; simp
    · rw [e4]; exact Heap.le_refl _
  · have : i = xs.length := by omega
    subst this
    simpa using h
theorem heldEdgeS_spec (n : Nat) (hl : n ≤ 1048576) {k : Int} (h0 : 0 ≤ k) (h1 : k ≤ 1000000000) : Pu Try.prog 55 [Es (markE k n), I k] (I (k + 3 * n)) := by
  refine Pu.of fun H => ?_
  have hml := markE_len k n
  refine W55_ok ?_; simp (maxSteps := 1000000) (disch := (first | assumption | (apply Ne.symm; assumption))) only [W55, vw0, vw1, vw2, vw3, vw4, vu0, vu1, ↓condV_t, ↓condV_f, cap_nil, allocV, splice, partV, buildV, eqFieldsV, eqS, tabs, TK.agg, reduceCtorEq, Array.toList, List.map_cons, List.map_nil, ↓reduceIte, List.length_map, Nat.reduceAdd, Nat.reduceLeDiff, Nat.reduceLT, Nat.reduceMul, Nat.reduceSub, Option.bind_some, Option.map_some, bndV, numV, eI, eU, e8, eB, AV.isCell, Int.reduceToNat, Int.reduceSub, Int.reduceAdd, Int.reduceNeg]
  refine L55_0_rule (0 : Nat) (fun i => I (k + 3 * i)) (fun i => I i) (fun _ => H) (fun i => i ≤ n) (fun i => n - i) ⟨by omega, ?_, .refl _, Heap.le_refl _⟩ ?_
  · rw [wk_int]; simp
  intro i hi
  (try simp (maxSteps := 1000000) (disch := (first | assumption | (apply Ne.symm; assumption))) only [vw0, vw1, vw2, vw3, vw4, vu0, vu1, ↓condV_t, ↓condV_f, cap_nil, allocV, splice, partV, buildV, eqFieldsV, eqS, tabs, TK.agg, reduceCtorEq, Array.toList, List.map_cons, List.map_nil, ↓reduceIte, List.length_map, Nat.reduceAdd, Nat.reduceLeDiff, Nat.reduceLT, Nat.reduceMul, Nat.reduceSub, Option.bind_some, Option.map_some, bndV, numV, eI, eU, e8, eB, AV.isCell, Int.reduceToNat, Int.reduceSub, Int.reduceAdd, Int.reduceNeg, B55_0, hml])
  refine ⟨fun h5 => ?_, fun h5 => ?_⟩
  · have hlt : i < n := by omega
    have e : (markE k n).getD i default = ⟨k + 3 * i, k + 3 * i + 1, k + 3 * i + 2⟩ := by simp [markE, List.getD, hlt]
    have w1 : IntKind.i64.wrap (k + 3 * ↑i + 1) = k + 3 * i + 1 := i64_id (by omega) (by omega)
    have w2 : IntKind.i64.wrap (k + 3 * ↑i + 1 + 1) = k + 3 * i + 2 := by rw [i64_id (by omega) (by omega)]; omega
    have w3 : IntKind.i64.wrap (k + 3 * ↑i + 2 + 1) = k + 3 * i + 3 := by rw [i64_id (by omega) (by omega)]; omega
    simp only [e, w1, w2, w3]
    refine ⟨by omega, h5, fun h6 => absurd trivial h6, fun _ => ⟨by omega, h5, fun h6 => absurd trivial h6, fun _ => ⟨by omega, h5, fun h6 => absurd trivial h6, fun _ => ⟨i + 1, by omega, by omega, ?_, ?_⟩⟩⟩⟩
    · rw [wk_int]; omega
    · rw [wk_int, i64_id (by omega) (by omega)]; simp
  · have : i = n := by omega
    subst this; rfl

def mkL (k : Int) (gs : List (List Int)) (i : Nat) : List Int := marked (k + psum totL gs i) (gs.getD i default).length
def mkLs (k : Int) (gs : List (List Int)) (n : Nat) : List (List Int) := (List.range n).map (mkL k gs)
theorem mkLs_len (k : Int) (gs : List (List Int)) (n : Nat) : (mkLs k gs n).length = n := by simp [mkLs]
theorem mkLs_succ (k : Int) (gs : List (List Int)) (n : Nat) : mkLs k gs (n + 1) = mkLs k gs n ++ [mkL k gs n] := by simp [mkLs, List.range_succ]
theorem mkLs_get (k : Int) (gs : List (List Int)) {n i : Nat} (h : i < n) : (mkLs k gs n).getD i default = mkL k gs i := by simp [mkLs, List.getD, h]

theorem nd3c {q : Nat} {A C E : List Nat} (h : (q :: (A ++ (C ++ E))).Nodup) : (q ∉ A ∧ q ∉ C ∧ q ∉ E) ∧ (∀ y ∈ A, y ∉ C) ∧ (∀ y ∈ E, y ∉ C) ∧ A.Nodup ∧ C.Nodup ∧ E.Nodup := by
  rw [List.nodup_cons, List.nodup_append, List.nodup_append] at h
  simp only [List.mem_append, not_or] at h
  refine ⟨h.1, fun y hy hc => h.2.2.2 y hy y (.inl hc) rfl, fun y hy hc => h.2.2.1.2.2 y hc y hy rfl, h.2.1, h.2.2.1.1, h.2.2.1.2.1⟩
theorem markIntSS_live (xs : List (List Int)) (hl : totLs xs ≤ 1048576) {x : AV} {G : Heap} {D : List Nat} (hx : LII xs x G D) (hD : D.Nodup) {k : Int} (h0 : 0 ≤ k) (hk : k ≤ 800000000) {K : AV → Heap → Prop}
    (h : ∀ G', LII (mkLs k xs xs.length) x G' D → (∀ y, y ∉ D → G' y = G y) → K (I (k + psum totL xs xs.length)) G') : CallT Try.prog 53 [x, I k] G K := by
  obtain ⟨q, cs, D', rfl, hq, hll, rfl⟩ := hx
  have hlen : xs.length ≤ 1048576 := by unfold totLs at hl; omega
  refine W53_ok ?_; simp (maxSteps := 1000000) (disch := (first | assumption | (apply Ne.symm; assumption))) only [W53, vw0, vw1, vw2, vw3, vw4, vu0, vu1, ↓condV_t, ↓condV_f, cap_nil, allocV, splice, partV, buildV, eqFieldsV, eqS, tabs, TK.agg, reduceCtorEq, Array.toList, List.map_cons, List.map_nil, ↓reduceIte, List.length_map, Nat.reduceAdd, Nat.reduceLeDiff, Nat.reduceLT, Nat.reduceMul, Nat.reduceSub, Option.bind_some, Option.map_some, bndV, numV, eI, eU, e8, eB, AV.isCell, Int.reduceToNat, Int.reduceSub, Int.reduceAdd, Int.reduceNeg]
  refine L53_0_rule ((0 : Nat), G) (fun s => I (k + psum totL xs s.1)) (fun s => I s.1) (fun s => s.2) (fun s => s.1 ≤ xs.length ∧ Half LIc G q D' xs s.1 s.2 (mkLs k xs s.1)) (fun s => xs.length - s.1)
    ⟨⟨by simp, ⟨⟨[], cs, [], D', by simpa using hq, ⟨rfl, rfl⟩, by simpa using hll, rfl⟩, rfl, fun _ _ => rfl⟩⟩, ?_, .refl _, Heap.le_refl _⟩ ?_
  · rw [wk_int]; simp [psum]
  rintro ⟨i, G1⟩ ⟨hi, ⟨⟨cd, cr, Dd, Dr, e1, e2, e3, e4⟩, e5, e6⟩⟩
  dsimp only at hi e1 e2 e3 e4 e5 e6
  have hps := psum_le (f := totL) (xs := xs) i
  have htd : totLs xs = xs.length + psum totL xs xs.length := rfl
  (try simp (maxSteps := 1000000) (disch := (first | assumption | (apply Ne.symm; assumption))) only [vw0, vw1, vw2, vw3, vw4, vu0, vu1, ↓condV_t, ↓condV_f, cap_nil, allocV, splice, partV, buildV, eqFieldsV, eqS, tabs, TK.agg, reduceCtorEq, Array.toList, List.map_cons, List.map_nil, ↓reduceIte, List.length_map, Nat.reduceAdd, Nat.reduceLeDiff, Nat.reduceLT, Nat.reduceMul, Nat.reduceSub, Option.bind_some, Option.map_some, bndV, numV, eI, eU, e8, eB, AV.isCell, Int.reduceToNat, Int.reduceSub, Int.reduceAdd, Int.reduceNeg, B53_0])
  refine ⟨fun h5 => ?_, fun h5 => ?_⟩
  · have hlt : i < xs.length := by omega
    have hsucc := psum_succ (f := totL) hlt
    have hps2 := psum_le (f := totL) (xs := xs) (i + 1)
    have hlast := mkLs_succ k xs i
    rw [drop_cons hlt] at e3
    obtain ⟨c, c2, Di, D2, rfl, rfl, ⟨x, rfl, hx⟩, f2⟩ := e3
    have hdl : cd.length = i * 1 := by rw [LL.size LIc.size e2, e5]
    subst e4
    obtain ⟨⟨q1, q2, q3⟩, dA, dE, nA, nC, nE⟩ := nd3c hD
    have htl : totL (xs.getD i default) = (xs.getD i default).length := rfl
    have hmk : mkL k xs i = marked (k + psum totL xs i) (xs.getD i default).length := rfl
    generalize xs.getD i default = a at e1 hx hsucc htl hmk
    obtain ⟨qx, rfl, gx, rfl⟩ := LI_row hx
    have e1' : G1 q = some (cd ++ (rowP qx a :: c2)) := e1
    have rd : (List.take 1 (List.drop (i * 1) (cd ++ (rowP qx a :: c2)))).headD AV.any = rowP qx a := by
      rw [List.drop_append, hdl, List.drop_of_length_le (by omega)]; simp
    (try simp (maxSteps := 1000000) (disch := (first | assumption | (apply Ne.symm; assumption))) only [vw0, vw1, vw2, vw3, vw4, vu0, vu1, ↓condV_t, ↓condV_f, cap_nil, allocV, splice, partV, buildV, eqFieldsV, eqS, tabs, TK.agg, reduceCtorEq, Array.toList, List.map_cons, List.map_nil, ↓reduceIte, List.length_map, Nat.reduceAdd, Nat.reduceLeDiff, Nat.reduceLT, Nat.reduceMul, Nat.reduceSub, Option.bind_some, Option.map_some, bndV, numV, eI, eU, e8, eB, AV.isCell, Int.reduceToNat, Int.reduceSub, Int.reduceAdd, Int.reduceNeg, load_at e1', rd])
    refine ⟨by omega, h5, by omega, ?_⟩
    refine markIntS_live a (by omega) (by omega) (by omega) gx ?_
    have qqx : q ≠ qx := fun e => q2 (by rw [e]; exact List.mem_singleton.2 rfl)
    have hml := marked_len (k + psum totL xs i) a.length
    (try simp (maxSteps := 1000000) (disch := (first | assumption | (apply Ne.symm; assumption))) only [vw0, vw1, vw2, vw3, vw4, vu0, vu1, ↓condV_t, ↓condV_f, cap_nil, allocV, splice, partV, buildV, eqFieldsV, eqS, tabs, TK.agg, reduceCtorEq, Array.toList, List.map_cons, List.map_nil, ↓reduceIte, List.length_map, Nat.reduceAdd, Nat.reduceLeDiff, Nat.reduceLT, Nat.reduceMul, Nat.reduceSub, Option.bind_some, Option.map_some, bndV, numV, eI, eU, e8, eB, AV.isCell, Int.reduceToNat, Int.reduceSub, Int.reduceAdd, Int.reduceNeg])
    refine ⟨(i + 1, G1.set qx (cells ((marked (k + psum totL xs i) a.length).map eI))), ⟨by simp only; omega, ⟨⟨cd ++ [rowP qx a], c2, Dd ++ [qx], D2, ?_, ?_, ?_, by simp⟩, by simp only [mkLs_len], fun y hy => ?_⟩⟩, by simp only; omega, ?_, ?_, Heap.le_refl _⟩
    · show (G1.set qx _) q = _
      rw [Heap.set_other qqx, e1]; simp
    · show LL LIc (mkLs k xs (i + 1)) _ _ _
      rw [hlast, hmk]
      refine LL.snoc (L := LIc) (a := marked (k + psum totL xs i) a.length) ⟨rowP qx a, rfl, ?_⟩ (LL.local LIc.local e2 fun y hy b hb => ?_)
      · have := LI_mk (xs := marked (k + psum totL xs i) a.length) (q := qx) (G := G1.set qx (cells ((marked (k + psum totL xs i) a.length).map eI))) (Heap.set_same _ _ _)
        simpa only [rowP, hml] using this
      · show (G1.set qx _) y = _
        rw [Heap.set_other (fun e => dA y hy (by rw [e]; exact List.mem_singleton.2 rfl))]; exact hb
    · refine LL.local LIc.local f2 fun y hy b hb => ?_
      show (G1.set qx _) y = _
      rw [Heap.set_other (fun e => dE y hy (by rw [e]; exact List.mem_singleton.2 rfl))]; exact hb
    · show (G1.set qx _) y = _
      have hy' := hy
      simp only [List.mem_cons, List.mem_append, not_or, List.not_mem_nil, not_false_eq_true, and_true] at hy'
      rw [Heap.set_other (by first | exact hy'.2.2.1 | exact hy'.2.1.2 | exact hy'.2.2)]; exact e6 y hy
    · rw [wk_int]; simp only; omega
    · rw [wk_int, i64_id (by omega) (by omega)]; simp
  · have : i = xs.length := by omega
    subst this
    rw [List.drop_length] at e3
    obtain ⟨rfl, rfl⟩ := e3
    exact h G1 ⟨q, cd, D', by rw [e5], by simpa using e1, by rw [e4]; simpa using e2, rfl⟩ e6

theorem heldIntSS_spec (xs : List (List Int)) (hl : totLs xs ≤ 1048576) {k : Int} (h0 : 0 ≤ k) (hk : k ≤ 800000000) : Pu Try.prog 56 [Ls (mkLs k xs xs.length), I k] (I (k + psum totL xs xs.length)) := by
  have hlen : xs.length ≤ 1048576 := by unfold totLs at hl; omega
  have hml := mkLs_len k xs xs.length
  refine Pu.of fun H => ?_
  refine W56_ok ?_; simp (maxSteps := 1000000) (disch := (first | assumption | (apply Ne.symm; assumption))) only [W56, vw0, vw1, vw2, vw3, vw4, vu0, vu1, ↓condV_t, ↓condV_f, cap_nil, allocV, splice, partV, buildV, eqFieldsV, eqS, tabs, TK.agg, reduceCtorEq, Array.toList, List.map_cons, List.map_nil, ↓reduceIte, List.length_map, Nat.reduceAdd, Nat.reduceLeDiff, Nat.reduceLT, Nat.reduceMul, Nat.reduceSub, Option.bind_some, Option.map_some, bndV, numV, eI, eU, e8, eB, AV.isCell, Int.reduceToNat, Int.reduceSub, Int.reduceAdd, Int.reduceNeg]
  refine L56_0_rule (0 : Nat) (fun i => I (k + psum totL xs i)) (fun i => I i) (fun _ => H) (fun i => i ≤ xs.length) (fun i => xs.length - i) ⟨by omega, ?_, .refl _, Heap.le_refl _⟩ ?_
  · rw [wk_int]; simp [psum]
  intro i hi
  have hps := psum_le (f := totL) (xs := xs) i
  have htd : totLs xs = xs.length + psum totL xs xs.length := rfl
  (try simp (maxSteps := 1000000) (disch := (first | assumption | (apply Ne.symm; assumption))) only [vw0, vw1, vw2, vw3, vw4, vu0, vu1, ↓condV_t, ↓condV_f, cap_nil, allocV, splice, partV, buildV, eqFieldsV, eqS, tabs, TK.agg, reduceCtorEq, Array.toList, List.map_cons, List.map_nil, ↓reduceIte, List.length_map, Nat.reduceAdd, Nat.reduceLeDiff, Nat.reduceLT, Nat.reduceMul, Nat.reduceSub, Option.bind_some, Option.map_some, bndV, numV, eI, eU, e8, eB, AV.isCell, Int.reduceToNat, Int.reduceSub, Int.reduceAdd, Int.reduceNeg, B56_0, hml])
  refine ⟨fun h5 => ⟨by omega, h5, ?_⟩, fun h5 => ?_⟩
  · have hlt : i < xs.length := by omega
    have hsucc := psum_succ (f := totL) hlt
    have hps2 := psum_le (f := totL) (xs := xs) (i + 1)
    have htl : totL (xs.getD i default) = (xs.getD i default).length := rfl
    rw [mkLs_get k xs hlt]
    refine Pu.use (heldIntS_spec (xs.getD i default).length (by omega) (by omega) (by omega)) ?_
    (try simp (maxSteps := 1000000) (disch := (first | assumption | (apply Ne.symm; assumption))) only [vw0, vw1, vw2, vw3, vw4, vu0, vu1, ↓condV_t, ↓condV_f, cap_nil, allocV, splice, partV, buildV, eqFieldsV, eqS, tabs, TK.agg, reduceCtorEq, Array.toList, List.map_cons, List.map_nil, ↓reduceIte, List.length_map, Nat.reduceAdd, Nat.reduceLeDiff, Nat.reduceLT, Nat.reduceMul, Nat.reduceSub, Option.bind_some, Option.map_some, bndV, numV, eI, eU, e8, eB, AV.isCell, Int.reduceToNat, Int.reduceSub, Int.reduceAdd, Int.reduceNeg])
    refine ⟨fun h => by omega, fun _ => ⟨i + 1, by omega, by omega, ?_, ?_⟩⟩
    · rw [wk_int]; omega
    · rw [wk_int, i64_id (by omega) (by omega)]; simp
  · have : i = xs.length := by omega
    subst this; rfl

def mkAu (k : Int) (a : Au) : Au := ⟨a.states, marked k a.first.length, markE (k + a.first.length) a.edges.length, mkLs (k + a.first.length + 3 * a.edges.length) a.goals a.goals.length⟩
def totM (a : Au) : Int := a.first.length + 3 * a.edges.length + psum totL a.goals a.goals.length
theorem totM_le (a : Au) : 0 ≤ totM a ∧ totM a ≤ 3 * totAu a := by
  unfold totM totAu totLs; omega
theorem markAuto_live (a : Au) (hl : totAu a ≤ 1048576) {v : AV} {G : Heap} {D : List Nat} (hx : LAu a v G D) (hD : D.Nodup) {k : Int} (h0 : 0 ≤ k) (hk : k ≤ 600000000) {K : AV → Heap → Prop}
    (h : ∀ G', LAu (mkAu k a) v G' D → (∀ y, y ∉ D → G' y = G y) → K (I (k + totM a)) G') : CallT Try.prog 14 [v, I k] G K := by
  refine CallT.fin ?_
  obtain ⟨x, y, z, D1, D2, D3, rfl, rfl, h1, h2, h3⟩ := hx
  obtain ⟨n1, n2, n3, d12, d13, d23⟩ := nd3' hD
  obtain ⟨q1, rfl, g1, rfl⟩ := LI_row h1
  obtain ⟨q2, rfl, g2, rfl⟩ : ∃ q, y = rowE q a.edges ∧ G q = some (cE a.edges) ∧ D2 = [q] := by
    obtain ⟨q, cs, D', e1, e2, e3, e4⟩ := h2
    have key : ∀ (xs : List Ed) cs D', LL (LPl eE) xs cs G D' → cs = cE xs ∧ D' = [] := by
      intro xs
      induction xs with
      | nil => intro cs D' h; exact h
      | cons a bs ih =>
        rintro cs D' ⟨c1, c2, D1, D2, rfl, rfl, ⟨rfl, rfl⟩, h2⟩
        obtain ⟨rfl, rfl⟩ := ih _ _ h2
        exact ⟨by simp [cells], rfl⟩
    obtain ⟨rfl, rfl⟩ := key _ _ _ e3
    exact ⟨q, e1, e2, e4⟩
  obtain ⟨q3, rfl⟩ := LRow.sl h3
  have hta : totAu a = a.first.length + a.edges.length + totLs a.goals := rfl
  have ne : ∀ {y c}, G y = some c → ∀ {r}, G r = none → r ≠ y := fun h1 _ h2 e => by rw [e, h1] at h2; cases h2
  refine W14_ok ?_; simp (maxSteps := 1000000) (disch := (first | assumption | (apply Ne.symm; assumption))) only [W14, vw0, vw1, vw2, vw3, vw4, vu0, vu1, ↓condV_t, ↓condV_f, cap_nil, allocV, splice, partV, buildV, eqFieldsV, eqS, tabs, TK.agg, reduceCtorEq, Array.toList, List.map_cons, List.map_nil, ↓reduceIte, List.length_map, Nat.reduceAdd, Nat.reduceLeDiff, Nat.reduceLT, Nat.reduceMul, Nat.reduceSub, Option.bind_some, Option.map_some, bndV, numV, eI, eU, e8, eB, AV.isCell, Int.reduceToNat, Int.reduceSub, Int.reduceAdd, Int.reduceNeg]
  intro r hr
  have r1 := ne g1 hr
  have r2 := ne g2 hr
  have q12 : q1 ≠ q2 := fun e => d12 q1 (by simp) (by rw [e]; simp)
  have q21 := Ne.symm q12
  have rD3 : r ∉ D3 := fun hm => LRow.has LIc.has h3 r hm hr
  refine markIntS_live a.first (by omega) (by omega) (by omega) (by rw [Heap.set_other (Ne.symm r1)]; exact g1) ?_
  (try simp (maxSteps := 1000000) (disch := (first | assumption | (apply Ne.symm; assumption))) only [vw0, vw1, vw2, vw3, vw4, vu0, vu1, ↓condV_t, ↓condV_f, cap_nil, allocV, splice, partV, buildV, eqFieldsV, eqS, tabs, TK.agg, reduceCtorEq, Array.toList, List.map_cons, List.map_nil, ↓reduceIte, List.length_map, Nat.reduceAdd, Nat.reduceLeDiff, Nat.reduceLT, Nat.reduceMul, Nat.reduceSub, Option.bind_some, Option.map_some, bndV, numV, eI, eU, e8, eB, AV.isCell, Int.reduceToNat, Int.reduceSub, Int.reduceAdd, Int.reduceNeg])
  refine markEdgeS_row a.edges (by omega) (by omega) (by omega) (by rw [Heap.set_other q21, Heap.set_other (Ne.symm r2)]; exact g2) ?_
  (try simp (maxSteps := 1000000) (disch := (first | assumption | (apply Ne.symm; assumption))) only [vw0, vw1, vw2, vw3, vw4, vu0, vu1, ↓condV_t, ↓condV_f, cap_nil, allocV, splice, partV, buildV, eqFieldsV, eqS, tabs, TK.agg, reduceCtorEq, Array.toList, List.map_cons, List.map_nil, ↓reduceIte, List.length_map, Nat.reduceAdd, Nat.reduceLeDiff, Nat.reduceLT, Nat.reduceMul, Nat.reduceSub, Option.bind_some, Option.map_some, bndV, numV, eI, eU, e8, eB, AV.isCell, Int.reduceToNat, Int.reduceSub, Int.reduceAdd, Int.reduceNeg])
  refine markIntSS_live a.goals (by omega) (D := D3) (LRow.local LIc.local h3 fun y hy b hb => ?_) n3 (by omega) (by omega) fun G' hL hfr => ?_
  · rw [Heap.set_other (fun e => d23 q2 (by simp) (by rw [← e]; exact hy)), Heap.set_other (fun e => d13 q1 (by simp) (by rw [← e]; exact hy)), Heap.set_other (fun e => rD3 (by rw [← e]; exact hy))]; exact hb
  have f1 : G' q1 = some (cells ((marked k a.first.length).map eI)) := by
    rw [hfr q1 (d13 q1 (by simp)), Heap.set_other q12, Heap.set_same]
  have f2 : G' q2 = some (cE (markE (k + a.first.length) a.edges.length)) := by
    rw [hfr q2 (d23 q2 (by simp)), Heap.set_same]
  have hdel : ∀ {y}, y ≠ r → (G'.del r) y = G' y := fun h => Heap.del_other h
  have et : k + a.first.length + 3 * a.edges.length + psum totL a.goals a.goals.length = k + totM a := by unfold totM; omega
  rw [et]
  refine ⟨_, _, .forget (H' := G'.del r) (fun y b hb => ?_), h (G'.del r) ⟨_, _, _, [q1], [q2], D3, rfl, rfl, ?_, ?_, LRow.local LIc.local ?_ fun y hy b hb => by rw [hdel (fun e => rD3 (by rw [← e]; exact hy))]; exact hb⟩ fun y hy => ?_⟩
  · by_cases e : y = r
    · rw [e, Heap.del_same] at hb; cases hb
    · rwa [Heap.del_other e] at hb
  · have := LI_mk (xs := marked k a.first.length) (q := q1) (G := G'.del r) (by rw [hdel (Ne.symm r1)]; exact f1)
    rw [rowP, marked_len] at this
    exact this
  · have := LE_mk (xs := markE (k + a.first.length) a.edges.length) (q := q2) (G := G'.del r) (by rw [hdel (Ne.symm r2)]; exact f2)
    rw [rowE, markE_len] at this
    exact this
  · exact hL
  · simp only [List.mem_append, List.mem_singleton, not_or] at hy
    by_cases e : y = r
    · rw [e, Heap.del_same]; exact hr.symm
    · rw [Heap.del_other e, hfr y hy.2.2, Heap.set_other hy.2.1, Heap.set_other hy.1, Heap.set_other e]
theorem heldAuto_spec (a : Au) (hl : totAu a ≤ 1048576) {k : Int} (h0 : 0 ≤ k) (hk : k ≤ 600000000) : Pu Try.prog 15 [aAu (mkAu k a), I k] (I (k + totM a)) := by
  have hta : totAu a = a.first.length + a.edges.length + totLs a.goals := rfl
  refine Pu.of fun H => ?_
  refine W15_ok ?_; simp (maxSteps := 1000000) (disch := (first | assumption | (apply Ne.symm; assumption))) only [W15, vw0, vw1, vw2, vw3, vw4, vu0, vu1, ↓condV_t, ↓condV_f, cap_nil, allocV, splice, partV, buildV, eqFieldsV, eqS, tabs, TK.agg, reduceCtorEq, Array.toList, List.map_cons, List.map_nil, ↓reduceIte, List.length_map, Nat.reduceAdd, Nat.reduceLeDiff, Nat.reduceLT, Nat.reduceMul, Nat.reduceSub, Option.bind_some, Option.map_some, bndV, numV, eI, eU, e8, eB, AV.isCell, Int.reduceToNat, Int.reduceSub, Int.reduceAdd, Int.reduceNeg]
  intro r hr
  refine Pu.use (heldIntS_spec a.first.length (by omega) h0 (by omega)) ?_
  (try simp (maxSteps := 1000000) (disch := (first | assumption | (apply Ne.symm; assumption))) only [vw0, vw1, vw2, vw3, vw4, vu0, vu1, ↓condV_t, ↓condV_f, cap_nil, allocV, splice, partV, buildV, eqFieldsV, eqS, tabs, TK.agg, reduceCtorEq, Array.toList, List.map_cons, List.map_nil, ↓reduceIte, List.length_map, Nat.reduceAdd, Nat.reduceLeDiff, Nat.reduceLT, Nat.reduceMul, Nat.reduceSub, Option.bind_some, Option.map_some, bndV, numV, eI, eU, e8, eB, AV.isCell, Int.reduceToNat, Int.reduceSub, Int.reduceAdd, Int.reduceNeg])
  refine ⟨fun h => by omega, fun _ => ?_⟩
  refine Pu.use (heldEdgeS_spec a.edges.length (by omega) (by omega) (by omega)) ?_
  (try simp (maxSteps := 1000000) (disch := (first | assumption | (apply Ne.symm; assumption))) only [vw0, vw1, vw2, vw3, vw4, vu0, vu1, ↓condV_t, ↓condV_f, cap_nil, allocV, splice, partV, buildV, eqFieldsV, eqS, tabs, TK.agg, reduceCtorEq, Array.toList, List.map_cons, List.map_nil, ↓reduceIte, List.length_map, Nat.reduceAdd, Nat.reduceLeDiff, Nat.reduceLT, Nat.reduceMul, Nat.reduceSub, Option.bind_some, Option.map_some, bndV, numV, eI, eU, e8, eB, AV.isCell, Int.reduceToNat, Int.reduceSub, Int.reduceAdd, Int.reduceNeg])
  refine ⟨fun h => by omega, fun _ => ?_⟩
  refine Pu.use (heldIntSS_spec a.goals (by omega) (by omega) (by omega)) ?_
  (try simp (maxSteps := 1000000) (disch := (first | assumption | (apply Ne.symm; assumption))) only [vw0, vw1, vw2, vw3, vw4, vu0, vu1, ↓condV_t, ↓condV_f, cap_nil, allocV, splice, partV, buildV, eqFieldsV, eqS, tabs, TK.agg, reduceCtorEq, Array.toList, List.map_cons, List.map_nil, ↓reduceIte, List.length_map, Nat.reduceAdd, Nat.reduceLeDiff, Nat.reduceLT, Nat.reduceMul, Nat.reduceSub, Option.bind_some, Option.map_some, bndV, numV, eI, eU, e8, eB, AV.isCell, Int.reduceToNat, Int.reduceSub, Int.reduceAdd, Int.reduceNeg])
  refine ⟨fun h => by omega, fun _ => ⟨?_, Heap.le_set hr⟩⟩
  exact congrArg (fun n : Int => I n) (by unfold totM; omega)

theorem toAuto_live (a : Au) (ha : smAu a) {H : Heap} {K : AV → Heap → Prop} (h : ∀ v G D, LAu a v G D → New H G D → K v G) : CallT Try.prog 11 [aAu a] H K := by
  refine W11_ok ?_; simp (maxSteps := 1000000) (disch := (first | assumption | (apply Ne.symm; assumption))) only [W11, vw0, vw1, vw2, vw3, vw4, vu0, vu1, ↓condV_t, ↓condV_f, cap_nil, allocV, splice, partV, buildV, eqFieldsV, eqS, tabs, TK.agg, reduceCtorEq, Array.toList, List.map_cons, List.map_nil, ↓reduceIte, List.length_map, Nat.reduceAdd, Nat.reduceLeDiff, Nat.reduceLT, Nat.reduceMul, Nat.reduceSub, Option.bind_some, Option.map_some, bndV, numV, eI, eU, e8, eB, AV.isCell, Int.reduceToNat, Int.reduceSub, Int.reduceAdd, Int.reduceNeg]
  intro r hr r2 n1 h2 r3 n2 n3 h3
  have nn1 : r ≠ r2 := Ne.symm n1
  have n2' : r2 ≠ r3 := Ne.symm n2
  have n3' : r ≠ r3 := Ne.symm n3
  (try simp (maxSteps := 1000000) (disch := (first | assumption | (apply Ne.symm; assumption))) only [vw0, vw1, vw2, vw3, vw4, vu0, vu1, ↓condV_t, ↓condV_f, cap_nil, allocV, splice, partV, buildV, eqFieldsV, eqS, tabs, TK.agg, reduceCtorEq, Array.toList, List.map_cons, List.map_nil, ↓reduceIte, List.length_map, Nat.reduceAdd, Nat.reduceLeDiff, Nat.reduceLT, Nat.reduceMul, Nat.reduceSub, Option.bind_some, Option.map_some, bndV, numV, eI, eU, e8, eB, AV.isCell, Int.reduceToNat, Int.reduceSub, Int.reduceAdd, Int.reduceNeg])
  refine toIntS_live a.first ha.1 fun x G D hx hn => ?_
  obtain ⟨q, rfl⟩ := LRow.sl hx
  have g3 := hn.le r3 _ (Heap.set_same _ _ _)
  have g2 := hn.le r2 [I 0, .p .nil, .p .nil, .p .nil] (by rw [Heap.set_other n2', Heap.set_same])
  have g1 := hn.le r [I a.states, Is a.first, Es a.edges, Ls a.goals] (by rw [Heap.set_other n3', Heap.set_other nn1, Heap.set_same])
  have m3 := ne_of_new hn (Heap.set_same _ _ _)
  have m2 := ne_of_new hn (y := r2) (b := [I 0, .p .nil, .p .nil, .p .nil]) (by rw [Heap.set_other n2', Heap.set_same])
  have hn0 := hn.base (Heap.le_setN (Heap.le_setN (Heap.le_set hr) h2) h3)
  (try simp (maxSteps := 1000000) (disch := (first | assumption | (apply Ne.symm; assumption))) only [vw0, vw1, vw2, vw3, vw4, vu0, vu1, ↓condV_t, ↓condV_f, cap_nil, allocV, splice, partV, buildV, eqFieldsV, eqS, tabs, TK.agg, reduceCtorEq, Array.toList, List.map_cons, List.map_nil, ↓reduceIte, List.length_map, Nat.reduceAdd, Nat.reduceLeDiff, Nat.reduceLT, Nat.reduceMul, Nat.reduceSub, Option.bind_some, Option.map_some, bndV, numV, eI, eU, e8, eB, AV.isCell, Int.reduceToNat, Int.reduceSub, Int.reduceAdd, Int.reduceNeg, store_at g3, load_at g1])
  refine toEdgeS_live a.edges ha.2.1 fun y G2 D2 hy hn2 => ?_
  obtain ⟨q2, rfl⟩ := LRow.sl hy
  have k3 := hn2.le r3 _ (Heap.set_same _ _ _)
  have k2 := hn2.le r2 [I 0, .p .nil, .p .nil, .p .nil] (by rw [Heap.set_other n2']; exact g2)
  have k1 := hn2.le r [I a.states, Is a.first, Es a.edges, Ls a.goals] (by rw [Heap.set_other n3']; exact g1)
  have l3 := ne_of_new hn2 (Heap.set_same _ _ _)
  have l2 := ne_of_new hn2 (y := r2) (b := [I 0, .p .nil, .p .nil, .p .nil]) (by rw [Heap.set_other n2']; exact g2)
  have hx3 : LI a.first (.sl q 1 0 a.first.length) (G.set r3 [I a.states, .sl q 1 0 a.first.length, .p .nil, .p .nil]) D := LRow.local (LPl.local eI) hx fun z hz b hb => by rw [Heap.set_other (ne_mem hz m3)]; exact hb
  have hn' := (hn0.put h3 [I a.states, .sl q 1 0 a.first.length, .p .nil, .p .nil]).trans hn2 (LRow.has (LPl.has eI) hx3)
  have hx2 := LRow.local (LPl.local eI) hx3 (G' := G2) fun z hz b hb => hn2.le z b hb
  (try simp (maxSteps := 1000000) (disch := (first | assumption | (apply Ne.symm; assumption))) only [vw0, vw1, vw2, vw3, vw4, vu0, vu1, ↓condV_t, ↓condV_f, cap_nil, allocV, splice, partV, buildV, eqFieldsV, eqS, tabs, TK.agg, reduceCtorEq, Array.toList, List.map_cons, List.map_nil, ↓reduceIte, List.length_map, Nat.reduceAdd, Nat.reduceLeDiff, Nat.reduceLT, Nat.reduceMul, Nat.reduceSub, Option.bind_some, Option.map_some, bndV, numV, eI, eU, e8, eB, AV.isCell, Int.reduceToNat, Int.reduceSub, Int.reduceAdd, Int.reduceNeg, store_at k3, load_at k1])
  refine toIntSS_live a.goals ha.2.2 fun z G3 D3 hz hn3 => ?_
  obtain ⟨q3, rfl⟩ := LRow.sl hz
  have j3 := hn3.le r3 _ (Heap.set_same _ _ _)
  have j2 := hn3.le r2 [I 0, .p .nil, .p .nil, .p .nil] (by rw [Heap.set_other n2']; exact k2)
  have i3 := ne_of_new hn3 (Heap.set_same _ _ _)
  have i2 := ne_of_new hn3 (y := r2) (b := [I 0, .p .nil, .p .nil, .p .nil]) (by rw [Heap.set_other n2']; exact k2)
  have hx4 : LI a.first (.sl q 1 0 a.first.length) (G2.set r3 [I a.states, .sl q 1 0 a.first.length, .sl q2 3 0 a.edges.length, .p .nil]) D := LRow.local (LPl.local eI) hx2 fun z hz b hb => by rw [Heap.set_other (ne_mem hz m3)]; exact hb
  have hy4 : LE a.edges (.sl q2 3 0 a.edges.length) (G2.set r3 [I a.states, .sl q 1 0 a.first.length, .sl q2 3 0 a.edges.length, .p .nil]) D2 := LRow.local (LPl.local eE) hy fun z hz b hb => by rw [Heap.set_other (ne_mem hz l3)]; exact hb
  have hn'' := (hn'.put h3 [I a.states, .sl q 1 0 a.first.length, .sl q2 3 0 a.edges.length, .p .nil]).trans hn3 (fun z hz => by
    rcases List.mem_append.1 hz with hz | hz
    · exact LRow.has (LPl.has eI) hx4 z hz
    · exact LRow.has (LPl.has eE) hy4 z hz)
  have hx5 := LRow.local (LPl.local eI) hx4 (G' := G3) fun z hz b hb => hn3.le z b hb
  have hy5 := LRow.local (LPl.local eE) hy4 (G' := G3) fun z hz b hb => hn3.le z b hb
  rw [List.append_assoc] at hn''
  (try simp (maxSteps := 1000000) (disch := (first | assumption | (apply Ne.symm; assumption))) only [vw0, vw1, vw2, vw3, vw4, vu0, vu1, ↓condV_t, ↓condV_f, cap_nil, allocV, splice, partV, buildV, eqFieldsV, eqS, tabs, TK.agg, reduceCtorEq, Array.toList, List.map_cons, List.map_nil, ↓reduceIte, List.length_map, Nat.reduceAdd, Nat.reduceLeDiff, Nat.reduceLT, Nat.reduceMul, Nat.reduceSub, Option.bind_some, Option.map_some, bndV, numV, eI, eU, e8, eB, AV.isCell, Int.reduceToNat, Int.reduceSub, Int.reduceAdd, Int.reduceNeg, store_at j3])
  (try simp (maxSteps := 1000000) (disch := (first | assumption | (apply Ne.symm; assumption))) only [vw0, vw1, vw2, vw3, vw4, vu0, vu1, ↓condV_t, ↓condV_f, cap_nil, allocV, splice, partV, buildV, eqFieldsV, eqS, tabs, TK.agg, reduceCtorEq, Array.toList, List.map_cons, List.map_nil, ↓reduceIte, List.length_map, Nat.reduceAdd, Nat.reduceLeDiff, Nat.reduceLT, Nat.reduceMul, Nat.reduceSub, Option.bind_some, Option.map_some, bndV, numV, eI, eU, e8, eB, AV.isCell, Int.reduceToNat, Int.reduceSub, Int.reduceAdd, Int.reduceNeg, store_at j2])
  refine h _ _ (D ++ (D2 ++ D3)) ⟨_, _, _, D, D2, D3, rfl, rfl, LRow.local (LPl.local eI) hx5 fun z hz b hb => ?_, LRow.local (LPl.local eE) hy5 fun z hz b hb => ?_, LRow.local LIc.local hz fun z hz b hb => ?_⟩ ((hn''.put h2 _).put h3 _)
  · rw [Heap.set_other (ne_mem hz m3), Heap.set_other (ne_mem hz m2)]; exact hb
  · rw [Heap.set_other (ne_mem hz l3), Heap.set_other (ne_mem hz l2)]; exact hb
  · rw [Heap.set_other (ne_mem hz i3), Heap.set_other (ne_mem hz i2)]; exact hb
end Go.Proofs.Ytfbaijpanbjmpaa
