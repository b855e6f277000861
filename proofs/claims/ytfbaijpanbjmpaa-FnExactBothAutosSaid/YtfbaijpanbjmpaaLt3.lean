/- Programs that own their rows: copies told by value, and marks. -/
import Derived.Test.YtfbaijpanbjmpaaLt2
import Derived.Test.YtfbaijpanbjmpaaLb2
import Derived.Test.YtfbaijpanbjmpaaWA
namespace Go.Proofs.Ytfbaijpanbjmpaa
open Go Go.Sep Go.Pt
set_option linter.unusedSimpArgs false
set_option linter.unusedVariables false
attribute [local irreducible] CallT

def LPg (p : Pg) (v : AV) (G : Heap) (D : List Nat) : Prop := ∃ x y D1 D2, v = .agg [I p.wide, I p.vars, x, y] ∧ D = D1 ++ D2 ∧ LN p.start x G D1 ∧ LRow LCm 2 p.cmds y G D2
theorem LPg.local {p : Pg} {v : AV} {G G' : Heap} {D : List Nat} (h : LPg p v G D) (hf : ∀ y ∈ D, ∀ b, G y = some b → G' y = some b) : LPg p v G' D := by
  obtain ⟨x, y, D1, D2, e, rfl, h1, h2⟩ := h
  exact ⟨x, y, D1, D2, e, rfl, LRow.local (LPl.local eN) h1 (fun z hz => hf z (List.mem_append_left _ hz)), LRow.local LCm.local h2 (fun z hz => hf z (List.mem_append_right _ hz))⟩
theorem LPg.has {p : Pg} {v : AV} {G : Heap} {D : List Nat} (h : LPg p v G D) : ∀ y ∈ D, G y ≠ none := by
  obtain ⟨x, y, D1, D2, e, rfl, h1, h2⟩ := h
  intro z hz
  rcases List.mem_append.1 hz with hz | hz
  · exact LRow.has (LPl.has eN) h1 z hz
  · exact LRow.has LCm.has h2 z hz
theorem LPg.wk {p : Pg} {v : AV} {G : Heap} {D : List Nat} (h : LPg p v G D) (hD : D.Nodup) (C : AV → AV) (hC : ∀ {q sz es a a'}, FrzR q sz es a a' → FrzR q sz es (C a) (C a')) : ∃ G', Wk (C v) G (C (aPg p)) G' ∧ ∀ y, y ∉ D → G' y = G y := by
  obtain ⟨x, y, D1, D2, rfl, rfl, h1, h2⟩ := h
  rw [List.nodup_append] at hD
  obtain ⟨G1, w1, f1⟩ := LRow.frzV (e := eN) (sz := 2) (v := C (.agg [I p.wide, I p.vars, x, y])) (v' := C (.agg [I p.wide, I p.vars, Ns p.start, y])) (by omega) (fun _ => rfl) (LPl.local eN) (LPl.frz eN) h1 hD.1
    (fun q _ hr => hC (.agg (.cons (.same _) (.cons (.same _) (.cons hr (.cons (.same _) .nil))))))
  have h2' := LRow.local LCm.local h2 (G' := G1) fun z hz b hb => by rw [f1 z (fun hz1 => hD.2.2 z hz1 z hz rfl)]; exact hb
  obtain ⟨G2, w2, f2⟩ := LRow.frzV (e := eCm) (sz := 2) (v := C (.agg [I p.wide, I p.vars, Ns p.start, y])) (v' := C (aPg p)) (by omega) (fun _ => rfl) LCm.local LCm.frz h2' hD.2.1
    (fun q _ hr => hC (.agg (.cons (.same _) (.cons (.same _) (.cons (.same _) (.cons hr .nil))))))
  refine ⟨G2, .trans w1 w2, fun z hz => ?_⟩
  rw [List.mem_append, not_or] at hz
  rw [f2 z hz.2, f1 z hz.1]

def LSt (of : List Int) (v : AV) (G : Heap) (D : List Nat) : Prop := ∃ x, v = .agg [x] ∧ LI of x G D
theorem LI_row {xs : List Int} {x : AV} {G : Heap} {D : List Nat} (h : LI xs x G D) : ∃ q, x = rowP q xs ∧ G q = some (cells (xs.map eI)) ∧ D = [q] := by
  obtain ⟨q, cs, D', e1, e2, e3, e4⟩ := h
  have key : ∀ (xs : List Int) cs D', LL (LPl eI) xs cs G D' → cs = cells (xs.map eI) ∧ D' = [] := by
    intro xs
    induction xs with
    | nil => intro cs D' h; exact h
    | cons a bs ih =>
      rintro cs D' ⟨c1, c2, D1, D2, rfl, rfl, ⟨rfl, rfl⟩, h2⟩
      obtain ⟨rfl, rfl⟩ := ih _ _ h2
      exact ⟨by simp [cells], rfl⟩
  obtain ⟨rfl, rfl⟩ := key _ _ _ e3
  exact ⟨q, e1, e2, e4⟩
theorem LI_mk {xs : List Int} {q : Nat} {G : Heap} (h : G q = some (cells (xs.map eI))) : LI xs (rowP q xs) G [q] := ⟨q, _, [], rfl, h, LL.plain xs, rfl⟩
theorem LSt.local {of : List Int} {v : AV} {G G' : Heap} {D : List Nat} (h : LSt of v G D) (hf : ∀ y ∈ D, ∀ b, G y = some b → G' y = some b) : LSt of v G' D := by
  obtain ⟨x, e, h⟩ := h; exact ⟨x, e, LRow.local (LPl.local eI) h hf⟩
theorem LSt.has {of : List Int} {v : AV} {G : Heap} {D : List Nat} (h : LSt of v G D) : ∀ y ∈ D, G y ≠ none := by
  obtain ⟨x, e, h⟩ := h; exact LRow.has (LPl.has eI) h
theorem LSt.wk {of : List Int} {v : AV} {G : Heap} {D : List Nat} (h : LSt of v G D) (hD : D.Nodup) (C : AV → AV) (hC : ∀ {q sz es a a'}, FrzR q sz es a a' → FrzR q sz es (C a) (C a')) : ∃ G', Wk (C v) G (C (aS of)) G' ∧ ∀ y, y ∉ D → G' y = G y := by
  obtain ⟨x, rfl, h⟩ := h
  exact LRow.frzV (e := eI) (sz := 1) (v := C (.agg [x])) (v' := C (aS of)) (by omega) (fun _ => rfl) (LPl.local eI) (LPl.frz eI) h hD (fun q _ hr => hC (.agg (.cons hr .nil)))

/-! ### Marks -/
def marked (k : Int) (n : Nat) : List Int := (List.range n).map fun (j : Nat) => k + (j : Int)
theorem marked_len (k : Int) (n : Nat) : (marked k n).length = n := by simp [marked]

theorem markIntS_live (xs : List Int) (hl : xs.length ≤ 1048576) {k : Int} (h0 : 0 ≤ k) (h1 : k ≤ 1000000000) {q : Nat} {G : Heap} (hG : G q = some (cells (xs.map eI))) {K : AV → Heap → Prop}
    (h : K (I (k + xs.length)) (G.set q (cells ((marked k xs.length).map eI)))) : CallT Try.prog 51 [rowP q xs, I k] G K := by
  refine W51_ok ?_; simp (maxSteps := 1000000) (disch := (first | assumption | (apply Ne.symm; assumption))) only [W51, vw0, vw1, vw2, vw3, vw4, vu0, vu1, ↓condV_t, ↓condV_f, cap_nil, allocV, splice, partV, buildV, eqFieldsV, eqS, tabs, TK.agg, reduceCtorEq, Array.toList, List.map_cons, List.map_nil, ↓reduceIte, List.length_map, Nat.reduceAdd, Nat.reduceLeDiff, Nat.reduceLT, Nat.reduceMul, Nat.reduceSub, Option.bind_some, Option.map_some, bndV, numV, eI, eU, e8, eB, AV.isCell, Int.reduceToNat, Int.reduceSub, Int.reduceAdd, Int.reduceNeg]
  refine L51_0_rule (0 : Nat) (fun i => I (k + i)) (fun i => I i) (fun i => G.set q (cells ((marked k i ++ xs.drop i).map eI))) (fun i => i ≤ xs.length) (fun i => xs.length - i) ⟨by omega, ?_, .refl _, ?_⟩ ?_
  · rw [wk_int]; simp
  · intro y b hy
    by_cases e : y = q
    · subst e; rw [Heap.set_same] at hy; rw [hG]; simpa [marked] using hy
    · rw [Heap.set_other e] at hy; exact hy
  intro i hi
  have hcl : (cells ((marked k i ++ xs.drop i).map eI)).length = xs.length := by
    rw [cells_I, List.length_map, List.length_append, marked_len, List.length_drop]; omega
  (try simp (maxSteps := 1000000) (disch := (first | assumption | (apply Ne.symm; assumption))) only [vw0, vw1, vw2, vw3, vw4, vu0, vu1, ↓condV_t, ↓condV_f, cap_nil, allocV, splice, partV, buildV, eqFieldsV, eqS, tabs, TK.agg, reduceCtorEq, Array.toList, List.map_cons, List.map_nil, ↓reduceIte, List.length_map, Nat.reduceAdd, Nat.reduceLeDiff, Nat.reduceLT, Nat.reduceMul, Nat.reduceSub, Option.bind_some, Option.map_some, bndV, numV, eI, eU, e8, eB, AV.isCell, Int.reduceToNat, Int.reduceSub, Int.reduceAdd, Int.reduceNeg, B51_0, hcl])
  refine ⟨fun h5 => ?_, fun h5 => ?_⟩
  · have hlt : i < xs.length := by omega
    refine ⟨by omega, h5, by omega, i + 1, by omega, by omega, ?_, ?_, ?_⟩
    · rw [wk_int, i64_id (by omega) (by omega)]; omega
    · rw [wk_int, i64_id (by omega) (by omega)]; simp
    · have e1 : xs.drop i = xs.getD i 0 :: xs.drop (i + 1) := by rw [List.drop_eq_getElem_cons hlt]; simp [List.getD, hlt]
      have e2 : marked k (i + 1) = marked k i ++ [k + i] := by simp [marked, List.range_succ]
      have e3 : cells ((marked k i ++ xs.drop i).map eI) = cells ((marked k i).map eI) ++ ([I (xs.getD i 0)] ++ cells ((xs.drop (i + 1)).map eI)) := by rw [e1, List.map_append, cells_app]; rfl
      have e4 : cells ((marked k (i + 1) ++ xs.drop (i + 1)).map eI) = cells ((marked k i).map eI) ++ ([I (k + i)] ++ cells ((xs.drop (i + 1)).map eI)) := by rw [e2, List.append_assoc, List.map_append, cells_app]; rfl
      have e5 := splice_at (pre := cells ((marked k i).map eI)) (c := [I (xs.getD i 0)]) (c' := [I (k + i)]) (post := cells ((xs.drop (i + 1)).map eI)) (off := i * 1) (n := 1) (by rw [cells_I, List.length_map, marked_len, Nat.mul_one]) rfl rfl
      rw [← e3, ← e4] at e5
      rw [← e5]; exact Heap.le_refl _
  · have : i = xs.length := by omega
    subst this
    simpa using h

theorem heldIntS_spec (n : Nat) (hl : n ≤ 1048576) {k : Int} (h0 : 0 ≤ k) (h1 : k ≤ 1000000000) : Pu Try.prog 54 [Is (marked k n), I k] (I (k + n)) := by
  refine Pu.of fun H => ?_
  have hml := marked_len k n
  refine W54_ok ?_; simp (maxSteps := 1000000) (disch := (first | assumption | (apply Ne.symm; assumption))) only [W54, vw0, vw1, vw2, vw3, vw4, vu0, vu1, ↓condV_t, ↓condV_f, cap_nil, allocV, splice, partV, buildV, eqFieldsV, eqS, tabs, TK.agg, reduceCtorEq, Array.toList, List.map_cons, List.map_nil, ↓reduceIte, List.length_map, Nat.reduceAdd, Nat.reduceLeDiff, Nat.reduceLT, Nat.reduceMul, Nat.reduceSub, Option.bind_some, Option.map_some, bndV, numV, eI, eU, e8, eB, AV.isCell, Int.reduceToNat, Int.reduceSub, Int.reduceAdd, Int.reduceNeg]
  refine L54_0_rule (0 : Nat) (fun i => I (k + i)) (fun i => I i) (fun _ => H) (fun i => i ≤ n) (fun i => n - i) ⟨by omega, ?_, .refl _, Heap.le_refl _⟩ ?_
  · rw [wk_int]; simp
  intro i hi
  (try simp (maxSteps := 1000000) (disch := (first | assumption | (apply Ne.symm; assumption))) only [vw0, vw1, vw2, vw3, vw4, vu0, vu1, ↓condV_t, ↓condV_f, cap_nil, allocV, splice, partV, buildV, eqFieldsV, eqS, tabs, TK.agg, reduceCtorEq, Array.toList, List.map_cons, List.map_nil, ↓reduceIte, List.length_map, Nat.reduceAdd, Nat.reduceLeDiff, Nat.reduceLT, Nat.reduceMul, Nat.reduceSub, Option.bind_some, Option.map_some, bndV, numV, eI, eU, e8, eB, AV.isCell, Int.reduceToNat, Int.reduceSub, Int.reduceAdd, Int.reduceNeg, B54_0, hml])
  refine ⟨fun h5 => ?_, fun h5 => ?_⟩
  · have hlt : i < n := by omega
    have e : (marked k n).getD i default = k + i := by simp [marked, List.getD, hlt]
    rw [e]
    refine ⟨by omega, h5, fun h6 => absurd rfl h6, fun _ => ⟨i + 1, by omega, by omega, ?_, ?_⟩⟩
    · rw [wk_int, i64_id (by omega) (by omega)]; omega
    · rw [wk_int, i64_id (by omega) (by omega)]; simp
  · have : i = n := by omega
    subst this; rfl
end Go.Proofs.Ytfbaijpanbjmpaa
