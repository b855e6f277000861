/- Specs: terms put in the place of variables. -/
import Derived.Test.YtlcnoflmlonikaaLm0
import Derived.Test.YtlcnoflmlonikaaLe7
namespace Go.Proofs.Ytlcnoflmlonikaa
open Go Go.Sep Go.Pt
set_option linter.unusedSimpArgs false
set_option linter.unusedVariables false
attribute [local irreducible] CallT

abbrev fNs (b : List Nd) : PV := .sl (b.map eN)
abbrev eNs (b : List Nd) : List PV := [.sl (b.map eN)]
abbrev NNs (bs : List (List Nd)) : AV := .p (.sl (bs.map eNs))

theorem IndexFuncN_at (xs : List (List Nd)) (g : Nat) (caps : List AV) (p : List Nd → Bool) {H : Heap} (hl : xs.length ≤ 1000000000) (hp : ∀ x ∈ xs, PuAt Try.prog g (Ns x :: caps) H (B (p x))) :
    PuAt Try.prog 75 [NNs xs, .fn g caps] H (I (if xs.any p then (xs.findIdx p : Int) else -1)) := by
  intro K hK
  refine CallT.fin ?_
  refine W75_ok ?_; simp (maxSteps := 1000000) (disch := (first | assumption | (apply Ne.symm; assumption))) only [W75, vw0, vw1, vw2, vw3, vw4, vu0, vu1, ↓condV_t, ↓condV_f, cap_nil, allocV, splice, partV, buildV, eqFieldsV, eqS, tabs, TK.agg, reduceCtorEq, Array.toList, List.map_cons, List.map_nil, ↓reduceIte, List.length_map, Nat.reduceAdd, Nat.reduceLeDiff, Nat.reduceLT, Nat.reduceMul, Nat.reduceSub, Option.bind_some, Option.map_some, bndV, numV, eI, eU, e8, eB, AV.isCell, Int.reduceToNat, Int.reduceSub, Int.reduceAdd, Int.reduceNeg]
  refine L75_0_rule (0 : Nat) (fun i => I i) (fun _ => H) (fun i => i ≤ xs.length ∧ ∀ j (hj : j < xs.length), j < i → p xs[j] = false) (fun i => xs.length - i) ⟨⟨by omega, by intros; omega⟩, .refl _, Heap.le_refl _⟩ ?_
  rintro i ⟨hi1, ha⟩
  (try simp (maxSteps := 1000000) (disch := (first | assumption | (apply Ne.symm; assumption))) only [vw0, vw1, vw2, vw3, vw4, vu0, vu1, ↓condV_t, ↓condV_f, cap_nil, allocV, splice, partV, buildV, eqFieldsV, eqS, tabs, TK.agg, reduceCtorEq, Array.toList, List.map_cons, List.map_nil, ↓reduceIte, List.length_map, Nat.reduceAdd, Nat.reduceLeDiff, Nat.reduceLT, Nat.reduceMul, Nat.reduceSub, Option.bind_some, Option.map_some, bndV, numV, eI, eU, e8, eB, AV.isCell, Int.reduceToNat, Int.reduceSub, Int.reduceAdd, Int.reduceNeg, B75_0])
  refine ⟨fun h => ⟨by omega, h, ?_⟩, fun h => ?_⟩
  · have hlt : i < xs.length := by omega
    rw [getD_lt hlt]
    refine PuAt.use (hp _ (List.getElem_mem hlt)) ?_
    (try simp (maxSteps := 1000000) (disch := (first | assumption | (apply Ne.symm; assumption))) only [vw0, vw1, vw2, vw3, vw4, vu0, vu1, ↓condV_t, ↓condV_f, cap_nil, allocV, splice, partV, buildV, eqFieldsV, eqS, tabs, TK.agg, reduceCtorEq, Array.toList, List.map_cons, List.map_nil, ↓reduceIte, List.length_map, Nat.reduceAdd, Nat.reduceLeDiff, Nat.reduceLT, Nat.reduceMul, Nat.reduceSub, Option.bind_some, Option.map_some, bndV, numV, eI, eU, e8, eB, AV.isCell, Int.reduceToNat, Int.reduceSub, Int.reduceAdd, Int.reduceNeg])
    refine ⟨fun h1 => ?_, fun h1 => ⟨i + 1, ⟨by omega, fun j hj hji => ?_⟩, by omega, ?_⟩⟩
    · have h2 : xs.any p = true := List.any_eq_true.2 ⟨xs[i], List.getElem_mem hlt, h1⟩
      have h3 : xs.findIdx p = i := by
        rw [List.findIdx_eq hlt]; exact ⟨h1, fun j hj => ha j (by omega) hj⟩
      rw [h2, h3] at hK; exact wkK.keep (by simpa using hK)
    · rcases Nat.lt_succ_iff_lt_or_eq.1 hji with h2 | rfl
      · exact ha j hj h2
      · exact h1
    · rw [wk_int, i64_id (by omega) (by omega)]; simp
  · have hi : i = xs.length := by omega
    have h2 : xs.any p = false := by
      rw [List.any_eq_false]
      intro x hx
      obtain ⟨j, hj, rfl⟩ := List.mem_iff_getElem.1 hx
      rw [ha j hj (by omega)]; simp
    rw [h2] at hK; exact wkK.keep (by simpa using hK)

theorem ContainsFuncN_at (xs : List (List Nd)) (g : Nat) (caps : List AV) (p : List Nd → Bool) {H : Heap} (hl : xs.length ≤ 1000000000) (hp : ∀ x ∈ xs, PuAt Try.prog g (Ns x :: caps) H (B (p x))) :
    PuAt Try.prog 61 [NNs xs, .fn g caps] H (B (xs.any p)) := by
  intro K hK
  refine W61_ok ?_; simp (maxSteps := 1000000) (disch := (first | assumption | (apply Ne.symm; assumption))) only [W61, vw0, vw1, vw2, vw3, vw4, vu0, vu1, ↓condV_t, ↓condV_f, cap_nil, allocV, splice, partV, buildV, eqFieldsV, eqS, tabs, TK.agg, reduceCtorEq, Array.toList, List.map_cons, List.map_nil, ↓reduceIte, List.length_map, Nat.reduceAdd, Nat.reduceLeDiff, Nat.reduceLT, Nat.reduceMul, Nat.reduceSub, Option.bind_some, Option.map_some, bndV, numV, eI, eU, e8, eB, AV.isCell, Int.reduceToNat, Int.reduceSub, Int.reduceAdd, Int.reduceNeg]
  refine PuAt.use (IndexFuncN_at xs g caps p hl hp) ?_
  (try simp (maxSteps := 1000000) (disch := (first | assumption | (apply Ne.symm; assumption))) only [vw0, vw1, vw2, vw3, vw4, vu0, vu1, ↓condV_t, ↓condV_f, cap_nil, allocV, splice, partV, buildV, eqFieldsV, eqS, tabs, TK.agg, reduceCtorEq, Array.toList, List.map_cons, List.map_nil, ↓reduceIte, List.length_map, Nat.reduceAdd, Nat.reduceLeDiff, Nat.reduceLT, Nat.reduceMul, Nat.reduceSub, Option.bind_some, Option.map_some, bndV, numV, eI, eU, e8, eB, AV.isCell, Int.reduceToNat, Int.reduceSub, Int.reduceAdd, Int.reduceNeg])
  cases h : xs.any p <;> simp [h] at hK ⊢ <;> exact hK

theorem PutAll1_at (w v : Int) (t : List Nd) (r1 r2 : Nat) {H : Heap} (h1 : H r1 = some [I w]) (h2 : H r2 = some [I v]) (ht : vT t) : PuAt Try.prog 62 [Ns t, .ptr r1 0, .ptr r2 0] H (B (!decide (kind w v t = 1))) := by
  intro K hK
  refine W62_ok ?_; simp (maxSteps := 1000000) (disch := (first | assumption | (apply Ne.symm; assumption))) only [W62, vw0, vw1, vw2, vw3, vw4, vu0, vu1, ↓condV_t, ↓condV_f, cap_nil, allocV, splice, partV, buildV, eqFieldsV, eqS, tabs, TK.agg, reduceCtorEq, Array.toList, List.map_cons, List.map_nil, ↓reduceIte, List.length_map, Nat.reduceAdd, Nat.reduceLeDiff, Nat.reduceLT, Nat.reduceMul, Nat.reduceSub, Option.bind_some, Option.map_some, bndV, numV, eI, eU, e8, eB, AV.isCell, Int.reduceToNat, Int.reduceSub, Int.reduceAdd, Int.reduceNeg, load_at h1, load_at h2]
  refine Pu.use (isTermOf_spec w v t 1 (by decide) ht.1 ht.2) ?_
  (try simp (maxSteps := 1000000) (disch := (first | assumption | (apply Ne.symm; assumption))) only [vw0, vw1, vw2, vw3, vw4, vu0, vu1, ↓condV_t, ↓condV_f, cap_nil, allocV, splice, partV, buildV, eqFieldsV, eqS, tabs, TK.agg, reduceCtorEq, Array.toList, List.map_cons, List.map_nil, ↓reduceIte, List.length_map, Nat.reduceAdd, Nat.reduceLeDiff, Nat.reduceLT, Nat.reduceMul, Nat.reduceSub, Option.bind_some, Option.map_some, bndV, numV, eI, eU, e8, eB, AV.isCell, Int.reduceToNat, Int.reduceSub, Int.reduceAdd, Int.reduceNeg])
  simpa using hK

theorem checkedTerm_row (w v : Int) (t : List Nd) (ht : vT t) {q : Nat} {H : Heap} (hq : H q = some (cN t)) {K : AV → Heap → Prop}
    (hb : gt w v t = false → K (.tup [.p .nil, B false]) H) (hg : gt w v t = true → K (.tup [rowN q t, B true]) H) : CallT Try.prog 34 [I w, I v, rowN q t] H K := by
  refine W34_ok ?_; simp (maxSteps := 1000000) (disch := (first | assumption | (apply Ne.symm; assumption))) only [W34, vw0, vw1, vw2, vw3, vw4, vu0, vu1, ↓condV_t, ↓condV_f, cap_nil, allocV, splice, partV, buildV, eqFieldsV, eqS, tabs, TK.agg, reduceCtorEq, Array.toList, List.map_cons, List.map_nil, ↓reduceIte, List.length_map, Nat.reduceAdd, Nat.reduceLeDiff, Nat.reduceLT, Nat.reduceMul, Nat.reduceSub, Option.bind_some, Option.map_some, bndV, numV, eI, eU, e8, eB, AV.isCell, Int.reduceToNat, Int.reduceSub, Int.reduceAdd, Int.reduceNeg]
  refine GoodTerm_row w v t ht.1 ht.2 hq ?_
  have e : gtI w v t = gt w v t := rfl
  rw [e]
  cases h : gt w v t
  · (try simp (maxSteps := 1000000) (disch := (first | assumption | (apply Ne.symm; assumption))) only [vw0, vw1, vw2, vw3, vw4, vu0, vu1, ↓condV_t, ↓condV_f, cap_nil, allocV, splice, partV, buildV, eqFieldsV, eqS, tabs, TK.agg, reduceCtorEq, Array.toList, List.map_cons, List.map_nil, ↓reduceIte, List.length_map, Nat.reduceAdd, Nat.reduceLeDiff, Nat.reduceLT, Nat.reduceMul, Nat.reduceSub, Option.bind_some, Option.map_some, bndV, numV, eI, eU, e8, eB, AV.isCell, Int.reduceToNat, Int.reduceSub, Int.reduceAdd, Int.reduceNeg])
    exact hb h
  · (try simp (maxSteps := 1000000) (disch := (first | assumption | (apply Ne.symm; assumption))) only [vw0, vw1, vw2, vw3, vw4, vu0, vu1, ↓condV_t, ↓condV_f, cap_nil, allocV, splice, partV, buildV, eqFieldsV, eqS, tabs, TK.agg, reduceCtorEq, Array.toList, List.map_cons, List.map_nil, ↓reduceIte, List.length_map, Nat.reduceAdd, Nat.reduceLeDiff, Nat.reduceLT, Nat.reduceMul, Nat.reduceSub, Option.bind_some, Option.map_some, bndV, numV, eI, eU, e8, eB, AV.isCell, Int.reduceToNat, Int.reduceSub, Int.reduceAdd, Int.reduceNeg])
    exact hg h

theorem okN_subst {bs : List (List Nd)} (hb : ∀ b ∈ bs, ∀ x ∈ b, okN x) {t : List Nd} (ht : ∀ x ∈ t, okN x) : ∀ x ∈ subst bs t, okN x := by
  intro x hx
  obtain ⟨y, hy, hx⟩ := List.mem_flatMap.1 hx
  unfold subst1 at hx
  split at hx
  · by_cases h : y.n.toNat < bs.length
    · simp only [List.getD, List.getElem?_eq_getElem h, Option.getD_some] at hx
      exact hb _ (List.getElem_mem h) x hx
    · simp [List.getD, h] at hx
  · rw [List.mem_singleton] at hx; subst hx; exact ht _ hy

theorem putAll_none {w v : Int} {t : List Nd} {bs : List (List Nd)} (h : ¬ (gt w v t = true ∧ (bs.length : Int) = v ∧ (∀ b ∈ bs, kind w v b = 1))) : putAll w v t bs = none := by
  unfold putAll
  rw [if_neg]
  intro h2
  simp only [Bool.and_eq_true, decide_eq_true_eq, List.all_eq_true] at h2
  exact h ⟨h2.1.1.1, h2.1.1.2, h2.1.2⟩
theorem putAll_e {w v : Int} {t : List Nd} {bs : List (List Nd)} (h : gt w v t = true ∧ (bs.length : Int) = v ∧ (∀ b ∈ bs, kind w v b = 1)) : putAll w v t bs = if gt w v (subst bs t) then some (subst bs t) else none := by
  unfold putAll
  have : bs.all (fun b => decide (kind w v b = 1)) = true := by
    rw [List.all_eq_true]; intro b hb; exact decide_eq_true (h.2.2 b hb)
  rw [h.1, decide_eq_true h.2.1, this]; rfl

theorem PutAll_impl (w v : Int) (t : List Nd) (bs : List (List Nd)) (ht : vT t) (hbl : bs.length ≤ 1048576) (hb : ∀ b ∈ bs, vT b) {H : Heap} {K : AV → Heap → Prop}
    (hn : putAll w v t bs = none → K (.tup [.p .nil, B false]) H)
    (hs : ∀ o, putAll w v t bs = some o → ∀ q, H q = none → K (.tup [rowN q o, B true]) (H.set q (cN o))) : CallT Try.prog 45 [I w, I v, Ns t, NNs bs] H K := by
  refine CallT.fin ?_
  refine W45_ok ?_; simp (maxSteps := 1000000) (disch := (first | assumption | (apply Ne.symm; assumption))) only [W45, vw0, vw1, vw2, vw3, vw4, vu0, vu1, ↓condV_t, ↓condV_f, cap_nil, allocV, splice, partV, buildV, eqFieldsV, eqS, tabs, TK.agg, reduceCtorEq, Array.toList, List.map_cons, List.map_nil, ↓reduceIte, List.length_map, Nat.reduceAdd, Nat.reduceLeDiff, Nat.reduceLT, Nat.reduceMul, Nat.reduceSub, Option.bind_some, Option.map_some, bndV, numV, eI, eU, e8, eB, AV.isCell, Int.reduceToNat, Int.reduceSub, Int.reduceAdd, Int.reduceNeg, buildSliceV, zerosA, List.replicate_zero, List.flatten_nil]
  intro r1 hr1 r2 n21 hr2
  have nn21 : r1 ≠ r2 := Ne.symm n21
  have hle := Heap.le_setN (b := [I v]) (Heap.le_set (b := [I w]) hr1) hr2
  have g1 : ((H.set r1 [I w]).set r2 [I v]) r1 = some [I w] := by rw [Heap.set_other nn21, Heap.set_same]
  have g2 : ((H.set r1 [I w]).set r2 [I v]) r2 = some [I v] := Heap.set_same _ _ _
  have bad : ¬ (gt w v t = true ∧ (bs.length : Int) = v ∧ (∀ b ∈ bs, kind w v b = 1)) → wkK K (.tup [.p .nil, B false]) ((H.set r1 [I w]).set r2 [I v]) := fun h => fin_le hle (hn (putAll_none h))
  (try simp (maxSteps := 1000000) (disch := (first | assumption | (apply Ne.symm; assumption))) only [vw0, vw1, vw2, vw3, vw4, vu0, vu1, ↓condV_t, ↓condV_f, cap_nil, allocV, splice, partV, buildV, eqFieldsV, eqS, tabs, TK.agg, reduceCtorEq, Array.toList, List.map_cons, List.map_nil, ↓reduceIte, List.length_map, Nat.reduceAdd, Nat.reduceLeDiff, Nat.reduceLT, Nat.reduceMul, Nat.reduceSub, Option.bind_some, Option.map_some, bndV, numV, eI, eU, e8, eB, AV.isCell, Int.reduceToNat, Int.reduceSub, Int.reduceAdd, Int.reduceNeg])
  refine Pu.use (GoodTerm_spec w v t ht.1 ht.2) ?_
  have e : gtI w v t = gt w v t := rfl
  rw [e]
  cases h : gt w v t
  · (try simp (maxSteps := 1000000) (disch := (first | assumption | (apply Ne.symm; assumption))) only [vw0, vw1, vw2, vw3, vw4, vu0, vu1, ↓condV_t, ↓condV_f, cap_nil, allocV, splice, partV, buildV, eqFieldsV, eqS, tabs, TK.agg, reduceCtorEq, Array.toList, List.map_cons, List.map_nil, ↓reduceIte, List.length_map, Nat.reduceAdd, Nat.reduceLeDiff, Nat.reduceLT, Nat.reduceMul, Nat.reduceSub, Option.bind_some, Option.map_some, bndV, numV, eI, eU, e8, eB, AV.isCell, Int.reduceToNat, Int.reduceSub, Int.reduceAdd, Int.reduceNeg])
    exact bad (by rw [h]; simp)
  (try simp (maxSteps := 1000000) (disch := (first | assumption | (apply Ne.symm; assumption))) only [vw0, vw1, vw2, vw3, vw4, vu0, vu1, ↓condV_t, ↓condV_f, cap_nil, allocV, splice, partV, buildV, eqFieldsV, eqS, tabs, TK.agg, reduceCtorEq, Array.toList, List.map_cons, List.map_nil, ↓reduceIte, List.length_map, Nat.reduceAdd, Nat.reduceLeDiff, Nat.reduceLT, Nat.reduceMul, Nat.reduceSub, Option.bind_some, Option.map_some, bndV, numV, eI, eU, e8, eB, AV.isCell, Int.reduceToNat, Int.reduceSub, Int.reduceAdd, Int.reduceNeg])
  refine ⟨fun h2 => bad (fun hh => h2 hh.2.1), fun h2 => ?_⟩
  refine PuAt.use (ContainsFuncN_at bs _ _ (fun b => !decide (kind w v b = 1)) (by omega) fun b hm => PutAll1_at w v b r1 r2 g1 g2 (hb b hm)) ?_
  cases ha : bs.any (fun b => !decide (kind w v b = 1))
  rotate_left
  · (try simp (maxSteps := 1000000) (disch := (first | assumption | (apply Ne.symm; assumption))) only [vw0, vw1, vw2, vw3, vw4, vu0, vu1, ↓condV_t, ↓condV_f, cap_nil, allocV, splice, partV, buildV, eqFieldsV, eqS, tabs, TK.agg, reduceCtorEq, Array.toList, List.map_cons, List.map_nil, ↓reduceIte, List.length_map, Nat.reduceAdd, Nat.reduceLeDiff, Nat.reduceLT, Nat.reduceMul, Nat.reduceSub, Option.bind_some, Option.map_some, bndV, numV, eI, eU, e8, eB, AV.isCell, Int.reduceToNat, Int.reduceSub, Int.reduceAdd, Int.reduceNeg])
    refine bad fun hh => ?_
    obtain ⟨b, hbm, hbk⟩ := List.any_eq_true.1 ha
    simp [hh.2.2 b hbm] at hbk
  have hall : ∀ b ∈ bs, kind w v b = 1 := by
    intro b hm
    rw [List.any_eq_false] at ha
    simpa using ha b hm
  have hput := putAll_e (bs := bs) ⟨h, h2, hall⟩
  have hb48 : ∀ b ∈ bs, b.length ≤ 48 := fun b hm => (kind_len (hall b hm) (by decide)).2
  have htl := gt_len h
  (try simp (maxSteps := 1000000) (disch := (first | assumption | (apply Ne.symm; assumption))) only [vw0, vw1, vw2, vw3, vw4, vu0, vu1, ↓condV_t, ↓condV_f, cap_nil, allocV, splice, partV, buildV, eqFieldsV, eqS, tabs, TK.agg, reduceCtorEq, Array.toList, List.map_cons, List.map_nil, ↓reduceIte, List.length_map, Nat.reduceAdd, Nat.reduceLeDiff, Nat.reduceLT, Nat.reduceMul, Nat.reduceSub, Option.bind_some, Option.map_some, bndV, numV, eI, eU, e8, eB, AV.isCell, Int.reduceToNat, Int.reduceSub, Int.reduceAdd, Int.reduceNeg])
  intro q0 n02 n01 hq0
  refine wkK.keep ?_
  have nn02 : r2 ≠ q0 := Ne.symm n02
  have nn01 : r1 ≠ q0 := Ne.symm n01
  refine L45_0_rule ((0 : Nat), q0) (fun s => rowN s.2 (subst bs (t.take s.1))) (fun s => I s.1) (fun s => ((H.set r1 [I w]).set r2 [I v]).set s.2 (cN (subst bs (t.take s.1))))
    (fun s => s.1 ≤ t.length ∧ H s.2 = none ∧ s.2 ≠ r1 ∧ s.2 ≠ r2) (fun s => t.length - s.1) ⟨⟨by simp, hq0, n01, n02⟩, ?_, .refl _, ?_⟩ ?_
  · simp [subst]; exact .refl _
  · simp [subst, cells, Heap.le_refl]
  rintro ⟨i, q⟩ ⟨hi, hq, hq1, hq2⟩
  dsimp only at hi hq hq1 hq2
  have nq1 : r1 ≠ q := Ne.symm hq1
  have nq2 : r2 ≠ q := Ne.symm hq2
  (try simp (maxSteps := 1000000) (disch := (first | assumption | (apply Ne.symm; assumption))) only [vw0, vw1, vw2, vw3, vw4, vu0, vu1, ↓condV_t, ↓condV_f, cap_nil, allocV, splice, partV, buildV, eqFieldsV, eqS, tabs, TK.agg, reduceCtorEq, Array.toList, List.map_cons, List.map_nil, ↓reduceIte, List.length_map, Nat.reduceAdd, Nat.reduceLeDiff, Nat.reduceLT, Nat.reduceMul, Nat.reduceSub, Option.bind_some, Option.map_some, bndV, numV, eI, eU, e8, eB, AV.isCell, Int.reduceToNat, Int.reduceSub, Int.reduceAdd, Int.reduceNeg, B45_0])
  refine ⟨fun h5 => ⟨by omega, h5, ?_⟩, fun h5 => ?_⟩
  · have hlt : i < t.length := by omega
    have hm : t.getD i default ∈ t := getD_all (p := fun x => x ∈ t) (fun _ h => h) hlt
    have hleaf := gt_leaf h hm
    have hokx := ht.2 _ hm
    have hsucc : subst bs (t.take (i + 1)) = subst bs (t.take i) ++ subst1 bs (t.getD i default) := by rw [take_succ_snoc hlt, subst_snoc]
    have hsl : (subst bs (t.take i)).length ≤ 48 * i := by
      have := subst_len hb48 (t.take i); rw [List.length_take, Nat.min_eq_left hi] at this; exact this
    generalize t.getD i default = x at hleaf hokx hsucc ⊢
    intro r9 n9q n92 n91 hr9
    (try simp (maxSteps := 1000000) (disch := (first | assumption | (apply Ne.symm; assumption))) only [vw0, vw1, vw2, vw3, vw4, vu0, vu1, ↓condV_t, ↓condV_f, cap_nil, allocV, splice, partV, buildV, eqFieldsV, eqS, tabs, TK.agg, reduceCtorEq, Array.toList, List.map_cons, List.map_nil, ↓reduceIte, List.length_map, Nat.reduceAdd, Nat.reduceLeDiff, Nat.reduceLT, Nat.reduceMul, Nat.reduceSub, Option.bind_some, Option.map_some, bndV, numV, eI, eU, e8, eB, AV.isCell, Int.reduceToNat, Int.reduceSub, Int.reduceAdd, Int.reduceNeg])
    have hqG : ∀ z, (((((H.set r1 [I w]).set r2 [I v]).set q (cN (subst bs (t.take i))))).set r9 z) q = some (cN (subst bs (t.take i))) := fun z => by rw [Heap.set_other (Ne.symm n9q), Heap.set_same]
    have fin : ∀ q', ¬q' = r9 → ¬q' = q → ¬q' = r2 → ¬q' = r1 → H q' = none → ∃ s' : Nat × Nat, (s'.1 ≤ t.length ∧ H s'.2 = none ∧ ¬s'.2 = r1 ∧ ¬s'.2 = r2) ∧ t.length - s'.1 < t.length - i ∧ AV.wk (rowN q' (subst bs (t.take i) ++ subst1 bs x)) (rowN s'.2 (subst bs (t.take s'.1))) ∧ AV.wk (I (IntKind.i64.wrap (i + 1))) (I s'.1) ∧
        Heap.le (((H.set r1 [I w]).set r2 [I v]).set s'.2 (cN (subst bs (t.take s'.1)))) (((((((H.set r1 [I w]).set r2 [I v]).set q (cN (subst bs (t.take i))))).set r9 [I x.op, U x.n]).del q).set q' (cN (subst bs (t.take i) ++ subst1 bs x))) := by
      intro q' p1 p2 p3 p4 p5
      refine ⟨(i + 1, q'), ⟨by simp only; omega, p5, p4, p3⟩, by simp only; omega, ?_, ?_, ?_⟩
      · simp only [hsucc]; exact .refl _
      · rw [wk_int, i64_id (by omega) (by omega)]; simp
      · simp only [hsucc]
        generalize cN (subst bs (t.take i) ++ subst1 bs x) = z
        (intro y b hy; simp only [Heap.set, Heap.del] at hy ⊢; (repeat' split at hy) <;> (repeat' split) <;> simp_all [cells])
    refine ⟨fun h6 => ?_, fun h6 => ?_⟩
    · have hn : x.n < v := by
        have := hleaf
        simp only [leafOk, h6, show ¬ (2 : Int) = 1 by decide, if_true, if_false, decide_eq_true_eq] at this
        exact this
      unfold okN at hokx
      have h1 : subst1 bs x = bs.getD x.n.toNat default := by simp only [subst1, h6, if_true]; rfl
      have hlen : (subst1 bs x).length ≤ 48 := by rw [h1]; exact getD_all (p := fun (b : List Nd) => b.length ≤ 48) hb48 (by omega)
      refine ⟨by omega, by omega, ?_⟩
      rw [← h1]
      refine app_nodes (q := q) (xs := subst bs (t.take i)) (ys := subst1 bs x) (hqG _) (by omega) fun q' hq' hne => ?_
      simp only [Heap.set_none] at hq'
      obtain ⟨p1, p2, p3, p4, p5⟩ := hq'
      (try simp (maxSteps := 1000000) (disch := (first | assumption | (apply Ne.symm; assumption))) only [vw0, vw1, vw2, vw3, vw4, vu0, vu1, ↓condV_t, ↓condV_f, cap_nil, allocV, splice, partV, buildV, eqFieldsV, eqS, tabs, TK.agg, reduceCtorEq, Array.toList, List.map_cons, List.map_nil, ↓reduceIte, List.length_map, Nat.reduceAdd, Nat.reduceLeDiff, Nat.reduceLT, Nat.reduceMul, Nat.reduceSub, Option.bind_some, Option.map_some, bndV, numV, eI, eU, e8, eB, AV.isCell, Int.reduceToNat, Int.reduceSub, Int.reduceAdd, Int.reduceNeg])
      exact fin q' p1 p2 p3 p4 p5
    · have h1 : subst1 bs x = [x] := by simp only [subst1, h6, if_false]
      rw [h1] at fin
      refine push_node (q := q) (xs := subst bs (t.take i)) (x := x) (hqG _) (by omega) fun q' hq' hne => ?_
      simp only [Heap.set_none] at hq'
      obtain ⟨p1, p2, p3, p4, p5⟩ := hq'
      (try simp (maxSteps := 1000000) (disch := (first | assumption | (apply Ne.symm; assumption))) only [vw0, vw1, vw2, vw3, vw4, vu0, vu1, ↓condV_t, ↓condV_f, cap_nil, allocV, splice, partV, buildV, eqFieldsV, eqS, tabs, TK.agg, reduceCtorEq, Array.toList, List.map_cons, List.map_nil, ↓reduceIte, List.length_map, Nat.reduceAdd, Nat.reduceLeDiff, Nat.reduceLT, Nat.reduceMul, Nat.reduceSub, Option.bind_some, Option.map_some, bndV, numV, eI, eU, e8, eB, AV.isCell, Int.reduceToNat, Int.reduceSub, Int.reduceAdd, Int.reduceNeg])
      exact fin q' p1 p2 p3 p4 p5
  · have : i = t.length := by omega
    subst this
    rw [List.take_length]
    have hsl := subst_len hb48 t
    have hv : vT (subst bs t) := ⟨by omega, okN_subst (fun b hm => (hb b hm).2) ht.2⟩
    refine checkedTerm_row w v (subst bs t) hv (Heap.set_same _ _ _) (fun hg => ?_) (fun hg => ?_)
    · rw [hg] at hput
      (try simp (maxSteps := 1000000) (disch := (first | assumption | (apply Ne.symm; assumption))) only [vw0, vw1, vw2, vw3, vw4, vu0, vu1, ↓condV_t, ↓condV_f, cap_nil, allocV, splice, partV, buildV, eqFieldsV, eqS, tabs, TK.agg, reduceCtorEq, Array.toList, List.map_cons, List.map_nil, ↓reduceIte, List.length_map, Nat.reduceAdd, Nat.reduceLeDiff, Nat.reduceLT, Nat.reduceMul, Nat.reduceSub, Option.bind_some, Option.map_some, bndV, numV, eI, eU, e8, eB, AV.isCell, Int.reduceToNat, Int.reduceSub, Int.reduceAdd, Int.reduceNeg])
      exact fin_le (Heap.le_setN hle hq) (hn hput)
    · rw [hg] at hput
      (try simp (maxSteps := 1000000) (disch := (first | assumption | (apply Ne.symm; assumption))) only [vw0, vw1, vw2, vw3, vw4, vu0, vu1, ↓condV_t, ↓condV_f, cap_nil, allocV, splice, partV, buildV, eqFieldsV, eqS, tabs, TK.agg, reduceCtorEq, Array.toList, List.map_cons, List.map_nil, ↓reduceIte, List.length_map, Nat.reduceAdd, Nat.reduceLeDiff, Nat.reduceLT, Nat.reduceMul, Nat.reduceSub, Option.bind_some, Option.map_some, bndV, numV, eI, eU, e8, eB, AV.isCell, Int.reduceToNat, Int.reduceSub, Int.reduceAdd, Int.reduceNeg])
      refine fin_le ?_ (hs _ hput q hq)
      generalize cN (subst bs t) = z
      (intro y b hy; simp only [Heap.set, Heap.del] at hy ⊢; (repeat' split at hy) <;> (repeat' split) <;> simp_all [cells])

theorem kind_pos (w v : Int) (t : List Nd) : decide (0 < kind w v t) = gt w v t := by
  cases hf : frame w v t
  · rw [kind_f hf]; simp [gt, hf]
  · cases hr : run w v [] t with
    | none => rw [kind_none hr]; simp [gt, hf, hr]
    | some p =>
      rw [kind_some hf hr]
      have ht : t ≠ [] := by intro e; subst e; simp [frame] at hf
      obtain ⟨q, e, ho⟩ := run_last ht hr
      simp only [gt, hf, hr, Bool.true_and]
      by_cases hl : p.length = 1
      · rw [if_pos hl]
        subst e
        have hq : q = [] := by
          cases q with
          | nil => rfl
          | cons a q => simp at hl
        subst hq
        have h := own_pos _ ho
        generalize Pt.own (t.getD (t.length - 1) default).op = z at h ⊢
        rcases h with h | h <;> subst h <;> rfl
      · rw [if_neg hl]; simp [hl]
theorem GoodTerm_ref (w v : Int) (t : List Nd) (ht : vT t) : Pu Try.prog 48 [I w, I v, Ns t] (B (gt w v t)) := by
  refine Pu.of fun H => ?_
  refine W48_ok ?_; simp (maxSteps := 1000000) (disch := (first | assumption | (apply Ne.symm; assumption))) only [W48, vw0, vw1, vw2, vw3, vw4, vu0, vu1, ↓condV_t, ↓condV_f, cap_nil, allocV, splice, partV, buildV, eqFieldsV, eqS, tabs, TK.agg, reduceCtorEq, Array.toList, List.map_cons, List.map_nil, ↓reduceIte, List.length_map, Nat.reduceAdd, Nat.reduceLeDiff, Nat.reduceLT, Nat.reduceMul, Nat.reduceSub, Option.bind_some, Option.map_some, bndV, numV, eI, eU, e8, eB, AV.isCell, Int.reduceToNat, Int.reduceSub, Int.reduceAdd, Int.reduceNeg]
  refine Pu.use (l2Kind_spec w v t ht.1 ht.2) ?_
  (try simp (maxSteps := 1000000) (disch := (first | assumption | (apply Ne.symm; assumption))) only [vw0, vw1, vw2, vw3, vw4, vu0, vu1, ↓condV_t, ↓condV_f, cap_nil, allocV, splice, partV, buildV, eqFieldsV, eqS, tabs, TK.agg, reduceCtorEq, Array.toList, List.map_cons, List.map_nil, ↓reduceIte, List.length_map, Nat.reduceAdd, Nat.reduceLeDiff, Nat.reduceLT, Nat.reduceMul, Nat.reduceSub, Option.bind_some, Option.map_some, bndV, numV, eI, eU, e8, eB, AV.isCell, Int.reduceToNat, Int.reduceSub, Int.reduceAdd, Int.reduceNeg])
  rw [kind_pos]
theorem l2Made_row (w v : Int) (t : List Nd) (ht : vT t) {q : Nat} {H : Heap} (hq : H q = some (cN t)) {K : AV → Heap → Prop}
    (hb : gt w v t = false → K (.tup [.p .nil, B false]) H) (hg : gt w v t = true → K (.tup [rowN q t, B true]) H) : CallT Try.prog 33 [I w, I v, rowN q t] H K := by
  refine W33_ok ?_; simp (maxSteps := 1000000) (disch := (first | assumption | (apply Ne.symm; assumption))) only [W33, vw0, vw1, vw2, vw3, vw4, vu0, vu1, ↓condV_t, ↓condV_f, cap_nil, allocV, splice, partV, buildV, eqFieldsV, eqS, tabs, TK.agg, reduceCtorEq, Array.toList, List.map_cons, List.map_nil, ↓reduceIte, List.length_map, Nat.reduceAdd, Nat.reduceLeDiff, Nat.reduceLT, Nat.reduceMul, Nat.reduceSub, Option.bind_some, Option.map_some, bndV, numV, eI, eU, e8, eB, AV.isCell, Int.reduceToNat, Int.reduceSub, Int.reduceAdd, Int.reduceNeg]
  refine Pu.thaw (GoodTerm_ref w v t ht) (.bool _) (Wk.frz (r := q) (sz := 2) (es := t.map eN) (v' := .tup [I w, I v, Ns t]) (by omega) hq (szN t) (.tup (.cons (.same _) (.cons (.same _) (.cons frz_rowN .nil))))) ?_
  cases h : gt w v t
  · (try simp (maxSteps := 1000000) (disch := (first | assumption | (apply Ne.symm; assumption))) only [vw0, vw1, vw2, vw3, vw4, vu0, vu1, ↓condV_t, ↓condV_f, cap_nil, allocV, splice, partV, buildV, eqFieldsV, eqS, tabs, TK.agg, reduceCtorEq, Array.toList, List.map_cons, List.map_nil, ↓reduceIte, List.length_map, Nat.reduceAdd, Nat.reduceLeDiff, Nat.reduceLT, Nat.reduceMul, Nat.reduceSub, Option.bind_some, Option.map_some, bndV, numV, eI, eU, e8, eB, AV.isCell, Int.reduceToNat, Int.reduceSub, Int.reduceAdd, Int.reduceNeg])
    exact hb h
  · (try simp (maxSteps := 1000000) (disch := (first | assumption | (apply Ne.symm; assumption))) only [vw0, vw1, vw2, vw3, vw4, vu0, vu1, ↓condV_t, ↓condV_f, cap_nil, allocV, splice, partV, buildV, eqFieldsV, eqS, tabs, TK.agg, reduceCtorEq, Array.toList, List.map_cons, List.map_nil, ↓reduceIte, List.length_map, Nat.reduceAdd, Nat.reduceLeDiff, Nat.reduceLT, Nat.reduceMul, Nat.reduceSub, Option.bind_some, Option.map_some, bndV, numV, eI, eU, e8, eB, AV.isCell, Int.reduceToNat, Int.reduceSub, Int.reduceAdd, Int.reduceNeg])
    exact hg h
end Go.Proofs.Ytlcnoflmlonikaa
