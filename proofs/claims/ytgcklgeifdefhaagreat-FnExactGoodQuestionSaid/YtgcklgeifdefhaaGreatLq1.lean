/- Specs: rows of conditions: sizes, copies, comparisons; whether all are conditions. -/
import Derived.Test.YtgcklgeifdefhaaGreatLe8a
namespace Go.Proofs.YtgcklgeifdefhaaGreat
open Go Go.Sep Go.Pt
set_option linter.unusedSimpArgs false
set_option linter.unusedVariables false
attribute [local irreducible] CallT

abbrev eNN (t : List Nd) : List PV := [.sl (t.map eN)]
abbrev Nss (ts : List (List Nd)) : AV := .p (.sl (ts.map eNN))
def okNss (cs : List (List Nd)) : Prop := ok cs.length ∧ ∀ c ∈ cs, ok c.length
def totNL (l : List Nd) : Nat := l.length
def totNss (cs : List (List Nd)) : Nat := cs.length + psum totNL cs cs.length
def smNss (cs : List (List Nd)) : Prop := cs.length ≤ 1048576 ∧ ∀ c ∈ cs, c.length ≤ 1048576
theorem szNodeSS_spec (cs : List (List Nd)) (left : Int) (h0 : 0 ≤ left) (h1 : left ≤ 1048576) (hl : okNss cs) : Pu Tryz.prog 36 [Nss cs, I left] (I (szR left (totNss cs))) := by
  refine Pu.of fun H => ?_
  have hl1 := hl.1
  unfold ok at hl1
  have e : IntKind.i64.wrap (left - cs.length) = left - cs.length := i64_id (by omega) (by omega)
  refine W36_ok ?_; simp (maxSteps := 1000000) (disch := (first | assumption | (apply Ne.symm; assumption))) only [W36, vw0, vw1, vw2, vw3, vw4, vu0, vu1, ↓condV_t, ↓condV_f, cap_nil, allocV, splice, partV, buildV, eqFieldsV, eqS, tabs, TK.agg, reduceCtorEq, Array.toList, List.map_cons, List.map_nil, ↓reduceIte, List.length_map, Nat.reduceAdd, Nat.reduceLeDiff, Nat.reduceLT, Nat.reduceMul, Nat.reduceSub, Option.bind_some, Option.map_some, bndV, numV, eI, eU, e8, eB, AV.isCell, Int.reduceToNat, Int.reduceSub, Int.reduceAdd, Int.reduceNeg, e]
  refine ⟨fun h => by rw [szR_neg (by unfold totNss; omega)], fun h => ?_⟩
  refine L36_0_rule (0 : Nat) (fun i => I (left - cs.length - psum totNL cs i)) (fun i => I i) (fun _ => H) (fun i => i ≤ cs.length ∧ (cs.length : Int) + psum totNL cs i ≤ left) (fun i => cs.length - i) ⟨⟨by omega, by simp [psum]; omega⟩, ?_, .refl _, Heap.le_refl _⟩ ?_
  · rw [wk_int]; simp [psum]
  rintro i ⟨hi, hs⟩
  (try simp (maxSteps := 1000000) (disch := (first | assumption | (apply Ne.symm; assumption))) only [vw0, vw1, vw2, vw3, vw4, vu0, vu1, ↓condV_t, ↓condV_f, cap_nil, allocV, splice, partV, buildV, eqFieldsV, eqS, tabs, TK.agg, reduceCtorEq, Array.toList, List.map_cons, List.map_nil, ↓reduceIte, List.length_map, Nat.reduceAdd, Nat.reduceLeDiff, Nat.reduceLT, Nat.reduceMul, Nat.reduceSub, Option.bind_some, Option.map_some, bndV, numV, eI, eU, e8, eB, AV.isCell, Int.reduceToNat, Int.reduceSub, Int.reduceAdd, Int.reduceNeg, B36_0])
  refine ⟨fun h2 => ⟨by omega, h2, ?_⟩, fun h2 => ?_⟩
  · have hlt : i < cs.length := by omega
    have hm : cs.getD i default ∈ cs := getD_all (p := fun x => x ∈ cs) (fun _ h => h) hlt
    refine Pu.use (szNodeS_spec (cs.getD i default) _ (by omega) (by omega) (hl.2 _ hm)) ?_
    have hsucc := psum_succ (f := totNL) hlt
    have hle := psum_le (f := totNL) (xs := cs) (i + 1)
    have et : totNL (cs.getD i default) = (cs.getD i default).length := rfl
    rw [et] at hsucc
    (try simp (maxSteps := 1000000) (disch := (first | assumption | (apply Ne.symm; assumption))) only [vw0, vw1, vw2, vw3, vw4, vu0, vu1, ↓condV_t, ↓condV_f, cap_nil, allocV, splice, partV, buildV, eqFieldsV, eqS, tabs, TK.agg, reduceCtorEq, Array.toList, List.map_cons, List.map_nil, ↓reduceIte, List.length_map, Nat.reduceAdd, Nat.reduceLeDiff, Nat.reduceLT, Nat.reduceMul, Nat.reduceSub, Option.bind_some, Option.map_some, bndV, numV, eI, eU, e8, eB, AV.isCell, Int.reduceToNat, Int.reduceSub, Int.reduceAdd, Int.reduceNeg])
    refine ⟨fun h3 => ?_, fun h3 => ⟨i + 1, ⟨by omega, ?_⟩, by omega, ?_, ?_⟩⟩
    · rw [szR_neg]
      unfold szR at h3
      unfold totNss
      split at h3 <;> omega
    · unfold szR at h3
      split at h3 <;> omega
    · rw [wk_int]
      unfold szR at h3 ⊢
      split at h3
      · rename_i h4; rw [if_pos h4]; omega
      · omega
    · rw [wk_int, i64_id (by omega) (by omega)]; simp
  · have : i = cs.length := by omega
    subst this
    rw [szR_pos (by unfold totNss; omega)]
    unfold totNss
    exact congrArg (fun n : Int => I n) (by omega)
theorem toNodeSS_spec (xs : List (List Nd)) (hs : smNss xs) : Pu Tryz.prog 42 [Nss xs] (Nss xs) := by
  have hl := hs.1
  refine ⟨fun H => CallT.fin ?_⟩
  refine W42_ok ?_; simp (maxSteps := 1000000) (disch := (first | assumption | (apply Ne.symm; assumption))) only [W42, vw0, vw1, vw2, vw3, vw4, vu0, vu1, ↓condV_t, ↓condV_f, cap_nil, allocV, splice, partV, buildV, eqFieldsV, eqS, tabs, TK.agg, reduceCtorEq, Array.toList, List.map_cons, List.map_nil, ↓reduceIte, List.length_map, Nat.reduceAdd, Nat.reduceLeDiff, Nat.reduceLT, Nat.reduceMul, Nat.reduceSub, Option.bind_some, Option.map_some, bndV, numV, eI, eU, e8, eB, AV.isCell, Int.reduceToNat, Int.reduceSub, Int.reduceAdd, Int.reduceNeg, makeSliceV]
  refine ⟨by omega, by omega, by omega, by omega, fun q hq => ?_⟩
  have z0 : rowZ eNN [.p .nil] xs 0 = zerosA xs.length [.p .nil] := rowZ_zero
  rw [← z0]
  refine L42_0_rule (0 : Nat) (fun i => I i) (fun i => H.set q (rowZ eNN [.p .nil] xs i)) (fun i => i ≤ xs.length) (fun i => xs.length - i) ⟨by omega, .refl _, Heap.le_refl _⟩ ?_
  intro i hi
  have hrl := rowZ_len (e := eNN) (zero := [.p .nil]) (xs := xs) (i := i) (sz := 1) (fun _ => rfl) rfl hi
  (try simp (maxSteps := 1000000) (disch := (first | assumption | (apply Ne.symm; assumption))) only [vw0, vw1, vw2, vw3, vw4, vu0, vu1, ↓condV_t, ↓condV_f, cap_nil, allocV, splice, partV, buildV, eqFieldsV, eqS, tabs, TK.agg, reduceCtorEq, Array.toList, List.map_cons, List.map_nil, ↓reduceIte, List.length_map, Nat.reduceAdd, Nat.reduceLeDiff, Nat.reduceLT, Nat.reduceMul, Nat.reduceSub, Option.bind_some, Option.map_some, bndV, numV, eI, eU, e8, eB, AV.isCell, Int.reduceToNat, Int.reduceSub, Int.reduceAdd, Int.reduceNeg, B42_0])
  refine ⟨fun h => ⟨by omega, h, ?_⟩, fun h => ?_⟩
  · have hlt : i < xs.length := by omega
    have hput := rowZ_put (e := eNN) (zero := [.p .nil]) (xs := xs) (i := i) (sz := 1) (fun _ => rfl) rfl hlt rfl rfl
    have hm : xs.getD i default ∈ xs := getD_all (p := fun x => x ∈ xs) (fun _ h => h) hlt
    refine Pu.use (toNodeS_spec (xs.getD i default) (hs.2 _ hm)) ?_
    (try simp (maxSteps := 1000000) (disch := (first | assumption | (apply Ne.symm; assumption))) only [vw0, vw1, vw2, vw3, vw4, vu0, vu1, ↓condV_t, ↓condV_f, cap_nil, allocV, splice, partV, buildV, eqFieldsV, eqS, tabs, TK.agg, reduceCtorEq, Array.toList, List.map_cons, List.map_nil, ↓reduceIte, List.length_map, Nat.reduceAdd, Nat.reduceLeDiff, Nat.reduceLT, Nat.reduceMul, Nat.reduceSub, Option.bind_some, Option.map_some, bndV, numV, eI, eU, e8, eB, AV.isCell, Int.reduceToNat, Int.reduceSub, Int.reduceAdd, Int.reduceNeg])
    refine ⟨by omega, h, by omega, i + 1, by omega, by omega, ?_, ?_⟩
    · rw [wk_int, i64_id (by omega) (by omega)]; simp
    · rw [← hput]; exact Heap.le_refl _
  · have : i = xs.length := by omega
    subst this
    have := fin_own (sz := 1) (es := xs.map eNN) (q := q) (H := H) (H' := H.set q (rowZ eNN [.p .nil] xs xs.length)) (K := fun r H' => r = Nss xs ∧ H' = H) (by omega) (sized_map (f := eNN) (fun _ => rfl) xs) hq (by rw [rowZ_end]; exact Heap.le_refl _) ⟨rfl, rfl⟩
    simpa only [Go.Sep.own, List.length_map] using this
theorem eqNodeSS_spec (xs : List (List Nd)) (hs : smNss xs) : Pu Tryz.prog 50 [Nss xs, Nss xs] (B true) := by
  have hl := hs.1
  refine Pu.of fun H => ?_
  refine W50_ok ?_; simp (maxSteps := 1000000) (disch := (first | assumption | (apply Ne.symm; assumption))) only [W50, vw0, vw1, vw2, vw3, vw4, vu0, vu1, ↓condV_t, ↓condV_f, cap_nil, allocV, splice, partV, buildV, eqFieldsV, eqS, tabs, TK.agg, reduceCtorEq, Array.toList, List.map_cons, List.map_nil, ↓reduceIte, List.length_map, Nat.reduceAdd, Nat.reduceLeDiff, Nat.reduceLT, Nat.reduceMul, Nat.reduceSub, Option.bind_some, Option.map_some, bndV, numV, eI, eU, e8, eB, AV.isCell, Int.reduceToNat, Int.reduceSub, Int.reduceAdd, Int.reduceNeg]
  refine L50_0_rule (0 : Nat) (fun i => I i) (fun _ => H) (fun i => i ≤ xs.length) (fun i => xs.length - i) ⟨by omega, .refl _, Heap.le_refl _⟩ ?_
  intro i hi
  (try simp (maxSteps := 1000000) (disch := (first | assumption | (apply Ne.symm; assumption))) only [vw0, vw1, vw2, vw3, vw4, vu0, vu1, ↓condV_t, ↓condV_f, cap_nil, allocV, splice, partV, buildV, eqFieldsV, eqS, tabs, TK.agg, reduceCtorEq, Array.toList, List.map_cons, List.map_nil, ↓reduceIte, List.length_map, Nat.reduceAdd, Nat.reduceLeDiff, Nat.reduceLT, Nat.reduceMul, Nat.reduceSub, Option.bind_some, Option.map_some, bndV, numV, eI, eU, e8, eB, AV.isCell, Int.reduceToNat, Int.reduceSub, Int.reduceAdd, Int.reduceNeg, B50_0])
  intro h
  have hlt : i < xs.length := by omega
  have hm : xs.getD i default ∈ xs := getD_all (p := fun x => x ∈ xs) (fun _ h => h) hlt
  refine ⟨by omega, h, by omega, h, ?_⟩
  refine Pu.use (eqNodeS_spec (xs.getD i default) (hs.2 _ hm)) ?_
  (try simp (maxSteps := 1000000) (disch := (first | assumption | (apply Ne.symm; assumption))) only [vw0, vw1, vw2, vw3, vw4, vu0, vu1, ↓condV_t, ↓condV_f, cap_nil, allocV, splice, partV, buildV, eqFieldsV, eqS, tabs, TK.agg, reduceCtorEq, Array.toList, List.map_cons, List.map_nil, ↓reduceIte, List.length_map, Nat.reduceAdd, Nat.reduceLeDiff, Nat.reduceLT, Nat.reduceMul, Nat.reduceSub, Option.bind_some, Option.map_some, bndV, numV, eI, eU, e8, eB, AV.isCell, Int.reduceToNat, Int.reduceSub, Int.reduceAdd, Int.reduceNeg])
  refine ⟨i + 1, by omega, by omega, ?_⟩
  rw [wk_int, i64_id (by omega) (by omega)]; simp

theorem smNss_of_tot {cs : List (List Nd)} (h : (totNss cs : Int) ≤ 1048576) : smNss cs := by
  have h0 : totNss cs ≤ 1048576 := by omega
  unfold totNss at h0
  refine ⟨by omega, fun c hc => ?_⟩
  have h1 := psum_mem (f := totNL) hc
  have e1 : totNL c = c.length := rfl
  omega
def nTs (cs : List (List Nd)) : Prop := ∀ t ∈ cs, nT t
theorem vT_of {cs : List (List Nd)} (h : smNss cs) (hn : nTs cs) : ∀ t ∈ cs, vT t := fun t ht => ⟨h.2 t ht, hn t ht⟩

theorem IndexFuncNs_at (xs : List (List Nd)) (g : Nat) (caps : List AV) (p : List Nd → Bool) {H : Heap} (hl : xs.length ≤ 1000000000) (hp : ∀ x ∈ xs, PuAt Tryz.prog g (Ns x :: caps) H (B (p x))) :
    PuAt Tryz.prog 86 [Nss xs, .fn g caps] H (I (if xs.any p then (xs.findIdx p : Int) else -1)) := by
  intro K hK
  refine CallT.fin ?_
  refine W86_ok ?_; simp (maxSteps := 1000000) (disch := (first | assumption | (apply Ne.symm; assumption))) only [W86, vw0, vw1, vw2, vw3, vw4, vu0, vu1, ↓condV_t, ↓condV_f, cap_nil, allocV, splice, partV, buildV, eqFieldsV, eqS, tabs, TK.agg, reduceCtorEq, Array.toList, List.map_cons, List.map_nil, ↓reduceIte, List.length_map, Nat.reduceAdd, Nat.reduceLeDiff, Nat.reduceLT, Nat.reduceMul, Nat.reduceSub, Option.bind_some, Option.map_some, bndV, numV, eI, eU, e8, eB, AV.isCell, Int.reduceToNat, Int.reduceSub, Int.reduceAdd, Int.reduceNeg]
  refine L86_0_rule (0 : Nat) (fun i => I i) (fun _ => H) (fun i => i ≤ xs.length ∧ ∀ j (hj : j < xs.length), j < i → p xs[j] = false) (fun i => xs.length - i) ⟨⟨by omega, by intros; omega⟩, .refl _, Heap.le_refl _⟩ ?_
  rintro i ⟨hi1, ha⟩
  (try simp (maxSteps := 1000000) (disch := (first | assumption | (apply Ne.symm; assumption))) only [vw0, vw1, vw2, vw3, vw4, vu0, vu1, ↓condV_t, ↓condV_f, cap_nil, allocV, splice, partV, buildV, eqFieldsV, eqS, tabs, TK.agg, reduceCtorEq, Array.toList, List.map_cons, List.map_nil, ↓reduceIte, List.length_map, Nat.reduceAdd, Nat.reduceLeDiff, Nat.reduceLT, Nat.reduceMul, Nat.reduceSub, Option.bind_some, Option.map_some, bndV, numV, eI, eU, e8, eB, AV.isCell, Int.reduceToNat, Int.reduceSub, Int.reduceAdd, Int.reduceNeg, B86_0])
  refine ⟨fun h => ⟨by omega, h, ?_⟩, fun h => ?_⟩
  · have hlt : i < xs.length := by omega
    rw [getD_lt hlt]
    refine PuAt.use (hp _ (List.getElem_mem hlt)) ?_
    (try simp (maxSteps := 1000000) (disch := (first | assumption | (apply Ne.symm; assumption))) only [vw0, vw1, vw2, vw3, vw4, vu0, vu1, ↓condV_t, ↓condV_f, cap_nil, allocV, splice, partV, buildV, eqFieldsV, eqS, tabs, TK.agg, reduceCtorEq, Array.toList, List.map_cons, List.map_nil, ↓reduceIte, List.length_map, Nat.reduceAdd, Nat.reduceLeDiff, Nat.reduceLT, Nat.reduceMul, Nat.reduceSub, Option.bind_some, Option.map_some, bndV, numV, eI, eU, e8, eB, AV.isCell, Int.reduceToNat, Int.reduceSub, Int.reduceAdd, Int.reduceNeg])
    refine ⟨fun h1 => ?_, fun h1 => ⟨i + 1, ⟨by omega, fun j hj hji => ?_⟩, by omega, ?_⟩⟩
    · have h2 : xs.any p = true := List.any_eq_true.2 ⟨xs[i], List.getElem_mem hlt, h1⟩
      have h3 : xs.findIdx p = i := by
        rw [List.findIdx_eq hlt]; exact ⟨h1, fun j hj => ha j (by omega) hj⟩
      rw [h2, h3] at hK; exact wkK.keep (by simpa using hK)
    · rcases Nat.lt_succ_iff_lt_or_eq.1 hji with h2 | rfl
      · exact ha j hj h2
      · exact h1
    · rw [wk_int, i64_id (by omega) (by omega)]; simp
  · have hi : i = xs.length := by omega
    have h2 : xs.any p = false := by
      rw [List.any_eq_false]
      intro x hx
      obtain ⟨j, hj, rfl⟩ := List.mem_iff_getElem.1 hx
      rw [ha j hj (by omega)]; simp
    rw [h2] at hK; exact wkK.keep (by simpa using hK)

theorem ContainsFuncNs_at (xs : List (List Nd)) (g : Nat) (caps : List AV) (p : List Nd → Bool) {H : Heap} (hl : xs.length ≤ 1000000000) (hp : ∀ x ∈ xs, PuAt Tryz.prog g (Ns x :: caps) H (B (p x))) :
    PuAt Tryz.prog 46 [Nss xs, .fn g caps] H (B (xs.any p)) := by
  intro K hK
  refine W46_ok ?_; simp (maxSteps := 1000000) (disch := (first | assumption | (apply Ne.symm; assumption))) only [W46, vw0, vw1, vw2, vw3, vw4, vu0, vu1, ↓condV_t, ↓condV_f, cap_nil, allocV, splice, partV, buildV, eqFieldsV, eqS, tabs, TK.agg, reduceCtorEq, Array.toList, List.map_cons, List.map_nil, ↓reduceIte, List.length_map, Nat.reduceAdd, Nat.reduceLeDiff, Nat.reduceLT, Nat.reduceMul, Nat.reduceSub, Option.bind_some, Option.map_some, bndV, numV, eI, eU, e8, eB, AV.isCell, Int.reduceToNat, Int.reduceSub, Int.reduceAdd, Int.reduceNeg]
  refine PuAt.use (IndexFuncNs_at xs g caps p hl hp) ?_
  (try simp (maxSteps := 1000000) (disch := (first | assumption | (apply Ne.symm; assumption))) only [vw0, vw1, vw2, vw3, vw4, vu0, vu1, ↓condV_t, ↓condV_f, cap_nil, allocV, splice, partV, buildV, eqFieldsV, eqS, tabs, TK.agg, reduceCtorEq, Array.toList, List.map_cons, List.map_nil, ↓reduceIte, List.length_map, Nat.reduceAdd, Nat.reduceLeDiff, Nat.reduceLT, Nat.reduceMul, Nat.reduceSub, Option.bind_some, Option.map_some, bndV, numV, eI, eU, e8, eB, AV.isCell, Int.reduceToNat, Int.reduceSub, Int.reduceAdd, Int.reduceNeg])
  cases h : xs.any p <;> simp [h] at hK ⊢ <;> exact hK
end Go.Proofs.YtgcklgeifdefhaaGreat
