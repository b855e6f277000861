/- Specs: rows of numbers laid one behind the other, moved, copied. -/
import Derived.Test.YtfbaijpanbjmpaaMa3
import Derived.Test.YtfbaijpanbjmpaaMa2
namespace Go.Proofs.Ytfbaijpanbjmpaa
open Go Go.Sep Go.Pt
set_option linter.unusedSimpArgs false
set_option linter.unusedVariables false
attribute [local irreducible] CallT

abbrev fI (n : Int) : PV := .int .i64 n
theorem cI_len (xs : List Int) : (cP fI xs).length = xs.length := by simp [cP]
theorem cI_app (xs ys : List Int) : cP fI (xs ++ ys) = cP fI xs ++ cP fI ys := by simp [cP]
theorem app_intsX {q : Nat} {xs ys : List Int} {ex : List AV} {G : Heap} {K : AV → Heap → Prop} (hq : G q = some (cP fI xs ++ ex)) (hl : xs.length + ys.length ≤ 1000000000)
    (h : ∀ q', G q' = none → q' ≠ q → K (rowP q' (xs ++ ys)) ((G.del q).set q' (cP fI (xs ++ ys)))) : appendV tab 22 22 (rowP q xs) (Is ys) G (wkK K) := by
  have hlen := cI_len xs
  simp only [appendV, tab_22, tab_3, srcV, baseV, hq]
  have e2 : List.map AV.p (List.map eI ys).flatten = cP fI ys := flat_P fI ys
  refine ⟨szI ys, trivial, by rw [List.length_append, hlen]; omega, by simp only [List.length_map]; omega, by simp only [List.length_map]; omega, cells_cell _, fun q' hq' => wkK.keep ?_⟩
  have hne : q' ≠ q := fun e => by rw [e, hq] at hq'; cases hq'
  have := h q' hq' hne
  have e : List.take (xs.length * 1) (List.drop 0 (cP fI xs ++ ex)) = cP fI xs := by rw [List.drop_zero, Nat.mul_one, ← hlen, List.take_left]
  rw [e, e2, List.length_map]
  rw [cI_app] at this
  simpa only [rowP, List.length_append] using this
theorem app_topI {q : Nat} {xs ys : List Int} {G : Heap} {K : AV → Heap → Prop} (hq : G q = none) (hl : xs.length + ys.length ≤ 1000000) (h : ∀ q', G q' = none → K (rowP q' (xs ++ ys)) (G.set q' (cP fI (xs ++ ys)))) :
    appendV tab 22 22 (rowP q xs) (Is ys) (G.set q (cP fI xs)) (wkK K) :=
  app_intsX (ex := []) (by rw [Heap.set_same, List.append_nil]) (by omega) fun q' hq' hne => by
    rw [Heap.del_set hq]
    rw [Heap.set_none] at hq'
    exact h q' hq'.2
theorem push_topI {q : Nat} {xs : List Int} {b : Int} {G : Heap} {K : AV → Heap → Prop} (hq : G q = none) (hl : xs.length ≤ 100000) (h : ∀ q', G q' = none → K (rowP q' (xs ++ [b])) (G.set q' (cP fI (xs ++ [b])))) :
    buildSliceV tab 22 1 [(0, I b)] (G.set q (cP fI xs)) (wkK fun v H1 => appendV tab 22 22 (rowP q xs) v H1 (wkK K)) := by
  refine lit1 tab_22 rfl tab_3 ⟨rfl, rfl⟩ ?_
  exact app_topI (ys := [b]) hq (by simp; omega) h
theorem lit0I {G : Heap} {K : AV → Heap → Prop} (h : ∀ q, G q = none → K (rowP q ([] : List Int)) (G.set q (cP fI []))) : buildSliceV tab 22 0 [] G (wkK K) := by
  simp only [buildSliceV, tab_22, tab_3]
  refine ⟨by omega, ?_⟩
  simp only [fillV, zerosA, List.replicate_zero, List.flatten_nil]
  exact fun r hr => wkK.keep (h r hr)

theorem GrowI_nil (n : Nat) (hn : n ≤ 1000000000) {H : Heap} {K : AV → Heap → Prop} (hz : n = 0 → K (.p .nil) H) (hp : 0 < n → ∀ q, H q = none → K (.sl q 1 0 0) (H.set q (zerosA n [I 0]))) : CallT Try.prog 84 [.p .nil, I n] H K := by
  refine CallT.fin ?_
  have e1 : IntKind.i64.wrap (n : Int) = n := i64_id (by omega) (by omega)
  have e0 : IntKind.i64.wrap 0 = 0 := rfl
  refine W84_ok ?_; simp (maxSteps := 1000000) (disch := (first | assumption | (apply Ne.symm; assumption))) only [W84, vw0, vw1, vw2, vw3, vw4, vu0, vu1, ↓condV_t, ↓condV_f, cap_nil, allocV, splice, partV, buildV, eqFieldsV, eqS, tabs, TK.agg, reduceCtorEq, Array.toList, List.map_cons, List.map_nil, ↓reduceIte, List.length_map, Nat.reduceAdd, Nat.reduceLeDiff, Nat.reduceLT, Nat.reduceMul, Nat.reduceSub, Option.bind_some, Option.map_some, bndV, numV, eI, eU, e8, eB, AV.isCell, Int.reduceToNat, Int.reduceSub, Int.reduceAdd, Int.reduceNeg, capV, e0, Int.sub_zero, e1]
  refine ⟨fun h1 => by omega, fun _ => ⟨fun h2 => ?_, fun h2 => wkK.keep (hz (by omega))⟩⟩
  simp only [appendV, tab_22, tab_3]
  refine ⟨h2, by omega, by omega, fun q hq => wkK.keep ?_⟩
  (try simp (maxSteps := 1000000) (disch := (first | assumption | (apply Ne.symm; assumption))) only [vw0, vw1, vw2, vw3, vw4, vu0, vu1, ↓condV_t, ↓condV_f, cap_nil, allocV, splice, partV, buildV, eqFieldsV, eqS, tabs, TK.agg, reduceCtorEq, Array.toList, List.map_cons, List.map_nil, ↓reduceIte, List.length_map, Nat.reduceAdd, Nat.reduceLeDiff, Nat.reduceLT, Nat.reduceMul, Nat.reduceSub, Option.bind_some, Option.map_some, bndV, numV, eI, eU, e8, eB, AV.isCell, Int.reduceToNat, Int.reduceSub, Int.reduceAdd, Int.reduceNeg, sliceV])
  exact ⟨by omega, by omega, by omega, by omega, wkK.keep (hp (by omega) q hq)⟩
theorem ConcatI_spec (bs : List (List Int)) (hl : bs.flatten.length ≤ 1000000) (hl2 : bs.length ≤ 1000000) {H : Heap} {K : AV → Heap → Prop} (h : ∀ q, H q = none → K (rowP q bs.flatten) (H.set q (cP fI bs.flatten))) : CallT Try.prog 43 [Ls bs] H K := by
  refine CallT.fin ?_
  refine CallT.ghost W43_hb fun q0 hq0 => ?_
  refine W43_ok ?_; simp (maxSteps := 1000000) (disch := (first | assumption | (apply Ne.symm; assumption))) only [W43, vw0, vw1, vw2, vw3, vw4, vu0, vu1, ↓condV_t, ↓condV_f, cap_nil, allocV, splice, partV, buildV, eqFieldsV, eqS, tabs, TK.agg, reduceCtorEq, Array.toList, List.map_cons, List.map_nil, ↓reduceIte, List.length_map, Nat.reduceAdd, Nat.reduceLeDiff, Nat.reduceLT, Nat.reduceMul, Nat.reduceSub, Option.bind_some, Option.map_some, bndV, numV, eI, eU, e8, eB, AV.isCell, Int.reduceToNat, Int.reduceSub, Int.reduceAdd, Int.reduceNeg]
  have hsum : ∀ i, ((bs.take i).flatten).length ≤ bs.flatten.length := fun i => by
    have := congrArg (fun l : List (List Int) => l.flatten.length) (List.take_append_drop i bs)
    simp only [List.flatten_append, List.length_append] at this
    omega
  refine L43_0_rule (0 : Nat) (fun i => I ((bs.take i).flatten.length : Nat)) (fun i => I i) (fun _ => H.set q0 []) (fun i => i ≤ bs.length) (fun i => bs.length - i) ⟨by omega, .refl _, .refl _, Heap.le_refl _⟩ ?_
  intro i hi
  have hs1 := hsum i
  have hs2 := hsum (i + 1)
  (try simp (maxSteps := 1000000) (disch := (first | assumption | (apply Ne.symm; assumption))) only [vw0, vw1, vw2, vw3, vw4, vu0, vu1, ↓condV_t, ↓condV_f, cap_nil, allocV, splice, partV, buildV, eqFieldsV, eqS, tabs, TK.agg, reduceCtorEq, Array.toList, List.map_cons, List.map_nil, ↓reduceIte, List.length_map, Nat.reduceAdd, Nat.reduceLeDiff, Nat.reduceLT, Nat.reduceMul, Nat.reduceSub, Option.bind_some, Option.map_some, bndV, numV, eI, eU, e8, eB, AV.isCell, Int.reduceToNat, Int.reduceSub, Int.reduceAdd, Int.reduceNeg, B43_0])
  refine ⟨fun h1 => ⟨by omega, h1, fun h2 => ?_, fun h2 => ⟨i + 1, by omega, by omega, ?_, ?_⟩⟩, fun h1 => ?_⟩
  · have e : (bs.take (i + 1)).flatten.length = (bs.take i).flatten.length + (bs.getD i default).length := by
      rw [take_succ_snoc (by omega : i < bs.length), List.flatten_append, List.length_append]; simp
    rw [i64_id (by omega) (by omega)] at h2
    omega
  · have e : (bs.take (i + 1)).flatten.length = (bs.take i).flatten.length + (bs.getD i default).length := by
      rw [take_succ_snoc (by omega : i < bs.length), List.flatten_append, List.length_append]; simp
    rw [wk_int, i64_id (by omega) (by omega)]; omega
  · rw [wk_int, i64_id (by omega) (by omega)]; simp
  have hi2 : i = bs.length := by omega
  subst hi2
  rw [List.take_length]
  have loop : ∀ (x : AV) (G : Heap), (∃ q ex, H q = none ∧ AV.wk x (.sl q 1 0 0) ∧ Heap.le (H.set q ex) G) → L43_1 (wkK K) x (Ls bs) (I bs.length) (I 0) G := by
    rintro x G ⟨q0, ex0, hq0, hx, hle⟩
    refine L43_1_rule ((0 : Nat), q0, ex0) (fun s => rowP s.2.1 (bs.take s.1).flatten) (fun s => I s.1) (fun s => H.set s.2.1 (cP fI (bs.take s.1).flatten ++ s.2.2))
      (fun s => s.1 ≤ bs.length ∧ H s.2.1 = none) (fun s => bs.length - s.1) ⟨⟨by simp, hq0⟩, hx, .refl _, by simpa [cP] using hle⟩ ?_
    rintro ⟨i, q, ex⟩ ⟨hi, hq⟩
    dsimp only at hi hq
    have hs1 := hsum i
    have hs2 := hsum (i + 1)
    (try simp (maxSteps := 1000000) (disch := (first | assumption | (apply Ne.symm; assumption))) only [vw0, vw1, vw2, vw3, vw4, vu0, vu1, ↓condV_t, ↓condV_f, cap_nil, allocV, splice, partV, buildV, eqFieldsV, eqS, tabs, TK.agg, reduceCtorEq, Array.toList, List.map_cons, List.map_nil, ↓reduceIte, List.length_map, Nat.reduceAdd, Nat.reduceLeDiff, Nat.reduceLT, Nat.reduceMul, Nat.reduceSub, Option.bind_some, Option.map_some, bndV, numV, eI, eU, e8, eB, AV.isCell, Int.reduceToNat, Int.reduceSub, Int.reduceAdd, Int.reduceNeg, B43_1])
    refine ⟨fun h1 => ⟨by omega, h1, ?_⟩, fun h1 => ?_⟩
    · have e : (bs.take (i + 1)).flatten = (bs.take i).flatten ++ bs.getD i default := by
        rw [take_succ_snoc (by omega : i < bs.length), List.flatten_append]; simp
      have e2 := congrArg List.length e
      rw [List.length_append] at e2
      refine app_intsX (Heap.set_same _ _ _) (by omega) fun q' hq' hne => ?_
      rw [Heap.set_none] at hq'
      rw [← e]
      refine ⟨(i + 1, q', []), ⟨by simp only; omega, hq'.2⟩, by simp only; omega, .refl _, ?_, ?_⟩
      · rw [wk_int, i64_id (by omega) (by omega)]; simp
      · simp only [List.append_nil]
        generalize cP fI (bs.take (i + 1)).flatten = z
        have := hq'.2
        (intro y b hy; simp only [Heap.set, Heap.del] at hy ⊢; (repeat' split at hy) <;> (repeat' split) <;> simp_all [cells])
    · have hi2 : i = bs.length := by omega
      subst hi2
      rw [List.take_length]
      refine ⟨_, _, .cell (cs' := cP fI bs.flatten) (Heap.set_same _ _ _) (by rw [List.length_append]; omega) fun j a a' h1 h2 => ?_, ?_⟩
      · rw [List.getElem?_append_left (List.getElem?_eq_some_iff.1 h2).1, h2] at h1
        cases h1; exact .refl _
      · rw [Heap.set_set]; exact h q hq
  refine GrowI_nil _ (by omega) (fun h0 => ?_) (fun h0 q hq => ?_)
  · exact loop _ _ ⟨q0, [], hq0, .nilo _ _ _, Heap.le_refl _⟩
  · rw [Heap.set_none] at hq
    refine loop _ _ ⟨q, zerosA bs.flatten.length [I 0], hq.2, .refl _, ?_⟩
    generalize zerosA bs.flatten.length [I 0] = z
    have := hq.2
    (intro y b hy; simp only [Heap.set, Heap.del] at hy ⊢; (repeat' split at hy) <;> (repeat' split) <;> simp_all [cells])

def mv (l : List Int) (b : Int) : List Int := l.map (· + b)
def below (n : Nat) : List Int := (List.range n).map fun (i : Nat) => (i : Int)
theorem below_succ (n : Nat) : below (n + 1) = below n ++ [(n : Int)] := by simp [below, List.range_succ]
theorem below_len (n : Nat) : (below n).length = n := by simp [below]
/-- Numbers that are not great. -/
def smI (l : List Int) : Prop := l.length ≤ 10000 ∧ ∀ x ∈ l, 0 ≤ x ∧ x ≤ 100000

theorem fin_int {q : Nat} {xs : List Int} {H G : Heap} (hq : H q = none) (hG : Heap.le (H.set q (cP fI xs)) G) : wkK (fun r H' => r = Is xs ∧ H' = H) (rowP q xs) G := by
  have := fin_own (sz := 1) (es := xs.map eI) (q := q) (H := H) (H' := G) (K := fun r H' => r = Is xs ∧ H' = H) (by omega) (szI _) hq (by
    have e : cells (xs.map eI) = cP fI xs := cells_P fI xs
    rw [e]; exact hG) ⟨rfl, rfl⟩
  simpa only [Go.Sep.own, List.length_map] using this

theorem moved_spec (l : List Int) (b : Int) (hl : smI l) (hb : 0 ≤ b ∧ b ≤ 100000) : Pu Try.prog 44 [Is l, I b] (Is (mv l b)) := by
  have hl1 := hl.1
  refine ⟨fun H => CallT.fin ?_⟩
  refine W44_ok ?_; simp (maxSteps := 1000000) (disch := (first | assumption | (apply Ne.symm; assumption))) only [W44, vw0, vw1, vw2, vw3, vw4, vu0, vu1, ↓condV_t, ↓condV_f, cap_nil, allocV, splice, partV, buildV, eqFieldsV, eqS, tabs, TK.agg, reduceCtorEq, Array.toList, List.map_cons, List.map_nil, ↓reduceIte, List.length_map, Nat.reduceAdd, Nat.reduceLeDiff, Nat.reduceLT, Nat.reduceMul, Nat.reduceSub, Option.bind_some, Option.map_some, bndV, numV, eI, eU, e8, eB, AV.isCell, Int.reduceToNat, Int.reduceSub, Int.reduceAdd, Int.reduceNeg]
  refine lit0I fun q0 hq0 => ?_
  (try simp (maxSteps := 1000000) (disch := (first | assumption | (apply Ne.symm; assumption))) only [vw0, vw1, vw2, vw3, vw4, vu0, vu1, ↓condV_t, ↓condV_f, cap_nil, allocV, splice, partV, buildV, eqFieldsV, eqS, tabs, TK.agg, reduceCtorEq, Array.toList, List.map_cons, List.map_nil, ↓reduceIte, List.length_map, Nat.reduceAdd, Nat.reduceLeDiff, Nat.reduceLT, Nat.reduceMul, Nat.reduceSub, Option.bind_some, Option.map_some, bndV, numV, eI, eU, e8, eB, AV.isCell, Int.reduceToNat, Int.reduceSub, Int.reduceAdd, Int.reduceNeg])
  refine L44_0_rule ((0 : Nat), q0) (fun s => rowP s.2 (mv (l.take s.1) b)) (fun s => I s.1) (fun s => H.set s.2 (cP fI (mv (l.take s.1) b))) (fun s => s.1 ≤ l.length ∧ H s.2 = none) (fun s => l.length - s.1) ⟨⟨by simp, hq0⟩, .refl _, .refl _, Heap.le_refl _⟩ ?_
  rintro ⟨i, q⟩ ⟨hi, hq⟩
  dsimp only at hi hq
  have hml : (mv (l.take i) b).length = i := by simp [mv]; omega
  (try simp (maxSteps := 1000000) (disch := (first | assumption | (apply Ne.symm; assumption))) only [vw0, vw1, vw2, vw3, vw4, vu0, vu1, ↓condV_t, ↓condV_f, cap_nil, allocV, splice, partV, buildV, eqFieldsV, eqS, tabs, TK.agg, reduceCtorEq, Array.toList, List.map_cons, List.map_nil, ↓reduceIte, List.length_map, Nat.reduceAdd, Nat.reduceLeDiff, Nat.reduceLT, Nat.reduceMul, Nat.reduceSub, Option.bind_some, Option.map_some, bndV, numV, eI, eU, e8, eB, AV.isCell, Int.reduceToNat, Int.reduceSub, Int.reduceAdd, Int.reduceNeg, B44_0])
  refine ⟨fun h1 => ⟨by omega, h1, ?_⟩, fun h1 => ?_⟩
  · have hlt : i < l.length := by omega
    have hx := getD_all (p := fun x => 0 ≤ x ∧ x ≤ 100000) (d := default) hl.2 hlt
    have e : mv (l.take (i + 1)) b = mv (l.take i) b ++ [l.getD i default + b] := by rw [take_succ_snoc hlt]; simp [mv]
    rw [i64_id (n := l.getD i default + b) (by omega) (by omega)]
    refine push_topI hq (by omega) fun q' hq' => ?_
    rw [← e]
    (try simp (maxSteps := 1000000) (disch := (first | assumption | (apply Ne.symm; assumption))) only [vw0, vw1, vw2, vw3, vw4, vu0, vu1, ↓condV_t, ↓condV_f, cap_nil, allocV, splice, partV, buildV, eqFieldsV, eqS, tabs, TK.agg, reduceCtorEq, Array.toList, List.map_cons, List.map_nil, ↓reduceIte, List.length_map, Nat.reduceAdd, Nat.reduceLeDiff, Nat.reduceLT, Nat.reduceMul, Nat.reduceSub, Option.bind_some, Option.map_some, bndV, numV, eI, eU, e8, eB, AV.isCell, Int.reduceToNat, Int.reduceSub, Int.reduceAdd, Int.reduceNeg])
    refine ⟨(i + 1, q'), ⟨by simp only; omega, hq'⟩, by simp only; omega, .refl _, ?_, Heap.le_refl _⟩
    rw [wk_int, i64_id (by omega) (by omega)]; simp
  · have : i = l.length := by omega
    subst this
    rw [List.take_length]
    exact fin_int hq (Heap.le_refl _)
theorem allBelow_spec (n : Nat) (hn : n ≤ 10000) : Pu Try.prog 85 [I n] (Is (below n)) := by
  refine ⟨fun H => CallT.fin ?_⟩
  refine W85_ok ?_; simp (maxSteps := 1000000) (disch := (first | assumption | (apply Ne.symm; assumption))) only [W85, vw0, vw1, vw2, vw3, vw4, vu0, vu1, ↓condV_t, ↓condV_f, cap_nil, allocV, splice, partV, buildV, eqFieldsV, eqS, tabs, TK.agg, reduceCtorEq, Array.toList, List.map_cons, List.map_nil, ↓reduceIte, List.length_map, Nat.reduceAdd, Nat.reduceLeDiff, Nat.reduceLT, Nat.reduceMul, Nat.reduceSub, Option.bind_some, Option.map_some, bndV, numV, eI, eU, e8, eB, AV.isCell, Int.reduceToNat, Int.reduceSub, Int.reduceAdd, Int.reduceNeg]
  refine lit0I fun q0 hq0 => ?_
  refine L85_0_rule ((0 : Nat), q0) (fun s => rowP s.2 (below s.1)) (fun s => I s.1) (fun s => H.set s.2 (cP fI (below s.1))) (fun s => s.1 ≤ n ∧ H s.2 = none) (fun s => n - s.1) ⟨⟨by simp, hq0⟩, .refl _, .refl _, Heap.le_refl _⟩ ?_
  rintro ⟨i, q⟩ ⟨hi, hq⟩
  dsimp only at hi hq
  have hml := below_len i
  (try simp (maxSteps := 1000000) (disch := (first | assumption | (apply Ne.symm; assumption))) only [vw0, vw1, vw2, vw3, vw4, vu0, vu1, ↓condV_t, ↓condV_f, cap_nil, allocV, splice, partV, buildV, eqFieldsV, eqS, tabs, TK.agg, reduceCtorEq, Array.toList, List.map_cons, List.map_nil, ↓reduceIte, List.length_map, Nat.reduceAdd, Nat.reduceLeDiff, Nat.reduceLT, Nat.reduceMul, Nat.reduceSub, Option.bind_some, Option.map_some, bndV, numV, eI, eU, e8, eB, AV.isCell, Int.reduceToNat, Int.reduceSub, Int.reduceAdd, Int.reduceNeg, B85_0])
  refine ⟨fun h1 => ?_, fun h1 => ?_⟩
  · refine push_topI hq (by omega) fun q' hq' => ?_
    rw [← below_succ]
    (try simp (maxSteps := 1000000) (disch := (first | assumption | (apply Ne.symm; assumption))) only [vw0, vw1, vw2, vw3, vw4, vu0, vu1, ↓condV_t, ↓condV_f, cap_nil, allocV, splice, partV, buildV, eqFieldsV, eqS, tabs, TK.agg, reduceCtorEq, Array.toList, List.map_cons, List.map_nil, ↓reduceIte, List.length_map, Nat.reduceAdd, Nat.reduceLeDiff, Nat.reduceLT, Nat.reduceMul, Nat.reduceSub, Option.bind_some, Option.map_some, bndV, numV, eI, eU, e8, eB, AV.isCell, Int.reduceToNat, Int.reduceSub, Int.reduceAdd, Int.reduceNeg])
    refine ⟨(i + 1, q'), ⟨by simp only; omega, hq'⟩, by simp only; omega, .refl _, ?_, Heap.le_refl _⟩
    rw [wk_int, i64_id (by omega) (by omega)]; simp
  · have : i = n := by omega
    subst this
    exact fin_int hq (Heap.le_refl _)
theorem l12All_spec (n : Nat) (hn : n ≤ 10000) : Pu Try.prog 58 [I n] (Is (below n)) := by
  refine ⟨fun H => CallT.fin ?_⟩
  refine CallT.ghost W58_hb fun q0 hq0 => ?_
  refine W58_ok ?_; simp (maxSteps := 1000000) (disch := (first | assumption | (apply Ne.symm; assumption))) only [W58, vw0, vw1, vw2, vw3, vw4, vu0, vu1, ↓condV_t, ↓condV_f, cap_nil, allocV, splice, partV, buildV, eqFieldsV, eqS, tabs, TK.agg, reduceCtorEq, Array.toList, List.map_cons, List.map_nil, ↓reduceIte, List.length_map, Nat.reduceAdd, Nat.reduceLeDiff, Nat.reduceLT, Nat.reduceMul, Nat.reduceSub, Option.bind_some, Option.map_some, bndV, numV, eI, eU, e8, eB, AV.isCell, Int.reduceToNat, Int.reduceSub, Int.reduceAdd, Int.reduceNeg]
  refine L58_0_rule ((0 : Nat), q0) (fun s => rowP s.2 (below s.1)) (fun s => I s.1) (fun s => H.set s.2 (cP fI (below s.1))) (fun s => s.1 ≤ n ∧ H s.2 = none) (fun s => n - s.1) ⟨⟨by simp, hq0⟩, .nilo _ _ _, .refl _, Heap.le_refl _⟩ ?_
  rintro ⟨i, q⟩ ⟨hi, hq⟩
  dsimp only at hi hq
  have hml := below_len i
  (try simp (maxSteps := 1000000) (disch := (first | assumption | (apply Ne.symm; assumption))) only [vw0, vw1, vw2, vw3, vw4, vu0, vu1, ↓condV_t, ↓condV_f, cap_nil, allocV, splice, partV, buildV, eqFieldsV, eqS, tabs, TK.agg, reduceCtorEq, Array.toList, List.map_cons, List.map_nil, ↓reduceIte, List.length_map, Nat.reduceAdd, Nat.reduceLeDiff, Nat.reduceLT, Nat.reduceMul, Nat.reduceSub, Option.bind_some, Option.map_some, bndV, numV, eI, eU, e8, eB, AV.isCell, Int.reduceToNat, Int.reduceSub, Int.reduceAdd, Int.reduceNeg, B58_0])
  refine ⟨fun h1 => ?_, fun h1 => ?_⟩
  · refine push_topI hq (by omega) fun q' hq' => ?_
    rw [← below_succ]
    (try simp (maxSteps := 1000000) (disch := (first | assumption | (apply Ne.symm; assumption))) only [vw0, vw1, vw2, vw3, vw4, vu0, vu1, ↓condV_t, ↓condV_f, cap_nil, allocV, splice, partV, buildV, eqFieldsV, eqS, tabs, TK.agg, reduceCtorEq, Array.toList, List.map_cons, List.map_nil, ↓reduceIte, List.length_map, Nat.reduceAdd, Nat.reduceLeDiff, Nat.reduceLT, Nat.reduceMul, Nat.reduceSub, Option.bind_some, Option.map_some, bndV, numV, eI, eU, e8, eB, AV.isCell, Int.reduceToNat, Int.reduceSub, Int.reduceAdd, Int.reduceNeg])
    refine ⟨(i + 1, q'), ⟨by simp only; omega, hq'⟩, by simp only; omega, .refl _, ?_, Heap.le_refl _⟩
    rw [wk_int, i64_id (by omega) (by omega)]; simp
  · have : i = n := by omega
    subst this
    exact fin_int hq (Heap.le_refl _)
def goalAt (a : Au) (k : Int) : List Int := if k < a.goals.length then a.goals.getD k.toNat default else below a.states.toNat
theorem goalOf_spec (a : Au) (k : Int) (hk : 0 ≤ k) (hs : 0 ≤ a.states ∧ a.states ≤ 10000) : Pu Try.prog 46 [aAu a, I k] (Is (goalAt a k)) := by
  refine Pu.of fun H => ?_
  refine W46_ok ?_; simp (maxSteps := 1000000) (disch := (first | assumption | (apply Ne.symm; assumption))) only [W46, vw0, vw1, vw2, vw3, vw4, vu0, vu1, ↓condV_t, ↓condV_f, cap_nil, allocV, splice, partV, buildV, eqFieldsV, eqS, tabs, TK.agg, reduceCtorEq, Array.toList, List.map_cons, List.map_nil, ↓reduceIte, List.length_map, Nat.reduceAdd, Nat.reduceLeDiff, Nat.reduceLT, Nat.reduceMul, Nat.reduceSub, Option.bind_some, Option.map_some, bndV, numV, eI, eU, e8, eB, AV.isCell, Int.reduceToNat, Int.reduceSub, Int.reduceAdd, Int.reduceNeg]
  intro r hr
  refine ⟨fun h1 => ⟨by omega, h1, ?_⟩, fun h1 => ?_⟩
  · exact ⟨by simp only [goalAt, if_pos h1], Heap.le_set hr⟩
  · have e : (a.states : Int) = (a.states.toNat : Nat) := by omega
    rw [e]
    refine Pu.use (allBelow_spec a.states.toNat (by omega)) ⟨by simp only [goalAt, if_neg h1], Heap.le_set hr⟩
theorem l12Goal_spec (a : Au) (k : Int) (hk : 0 ≤ k) (hs : 0 ≤ a.states ∧ a.states ≤ 10000) : Pu Try.prog 37 [aAu a, I k] (Is (goalAt a k)) := by
  refine Pu.of fun H => ?_
  refine W37_ok ?_; simp (maxSteps := 1000000) (disch := (first | assumption | (apply Ne.symm; assumption))) only [W37, vw0, vw1, vw2, vw3, vw4, vu0, vu1, ↓condV_t, ↓condV_f, cap_nil, allocV, splice, partV, buildV, eqFieldsV, eqS, tabs, TK.agg, reduceCtorEq, Array.toList, List.map_cons, List.map_nil, ↓reduceIte, List.length_map, Nat.reduceAdd, Nat.reduceLeDiff, Nat.reduceLT, Nat.reduceMul, Nat.reduceSub, Option.bind_some, Option.map_some, bndV, numV, eI, eU, e8, eB, AV.isCell, Int.reduceToNat, Int.reduceSub, Int.reduceAdd, Int.reduceNeg]
  intro r hr
  refine ⟨fun h1 => ⟨by omega, h1, ?_⟩, fun h1 => ?_⟩
  · exact ⟨by simp only [goalAt, if_pos h1], Heap.le_set hr⟩
  · have e : (a.states : Int) = (a.states.toNat : Nat) := by omega
    rw [e]
    refine Pu.use (l12All_spec a.states.toNat (by omega)) ⟨by simp only [goalAt, if_neg h1], Heap.le_set hr⟩
theorem l1Own_row (l : List Int) (hl : l.length ≤ 100000) {H : Heap} {K : AV → Heap → Prop} (h : ∀ q, H q = none → K (rowP q l) (H.set q (cP fI l))) : CallT Try.prog 59 [Is l] H K := by
  refine CallT.fin ?_
  refine W59_ok ?_; simp (maxSteps := 1000000) (disch := (first | assumption | (apply Ne.symm; assumption))) only [W59, vw0, vw1, vw2, vw3, vw4, vu0, vu1, ↓condV_t, ↓condV_f, cap_nil, allocV, splice, partV, buildV, eqFieldsV, eqS, tabs, TK.agg, reduceCtorEq, Array.toList, List.map_cons, List.map_nil, ↓reduceIte, List.length_map, Nat.reduceAdd, Nat.reduceLeDiff, Nat.reduceLT, Nat.reduceMul, Nat.reduceSub, Option.bind_some, Option.map_some, bndV, numV, eI, eU, e8, eB, AV.isCell, Int.reduceToNat, Int.reduceSub, Int.reduceAdd, Int.reduceNeg]
  refine lit0I fun q0 hq0 => ?_
  refine app_topI (xs := []) (ys := l) hq0 (by simp; omega) fun q hq => ?_
  rw [List.nil_append]
  exact wkK.keep (h q hq)
theorem l12Behind_row (a b : List Int) (n : Int) (ha : smI a) (hb : smI b) (hn : 0 ≤ n ∧ n ≤ 100000) {H : Heap} {K : AV → Heap → Prop} (h : ∀ q, H q = none → K (rowP q (a ++ mv b n)) (H.set q (cP fI (a ++ mv b n)))) : CallT Try.prog 36 [Is a, Is b, I n] H K := by
  have hl1 := hb.1
  have hl2 := ha.1
  refine W36_ok ?_; simp (maxSteps := 1000000) (disch := (first | assumption | (apply Ne.symm; assumption))) only [W36, vw0, vw1, vw2, vw3, vw4, vu0, vu1, ↓condV_t, ↓condV_f, cap_nil, allocV, splice, partV, buildV, eqFieldsV, eqS, tabs, TK.agg, reduceCtorEq, Array.toList, List.map_cons, List.map_nil, ↓reduceIte, List.length_map, Nat.reduceAdd, Nat.reduceLeDiff, Nat.reduceLT, Nat.reduceMul, Nat.reduceSub, Option.bind_some, Option.map_some, bndV, numV, eI, eU, e8, eB, AV.isCell, Int.reduceToNat, Int.reduceSub, Int.reduceAdd, Int.reduceNeg]
  refine l1Own_row a (by omega) fun q0 hq0 => ?_
  (try simp (maxSteps := 1000000) (disch := (first | assumption | (apply Ne.symm; assumption))) only [vw0, vw1, vw2, vw3, vw4, vu0, vu1, ↓condV_t, ↓condV_f, cap_nil, allocV, splice, partV, buildV, eqFieldsV, eqS, tabs, TK.agg, reduceCtorEq, Array.toList, List.map_cons, List.map_nil, ↓reduceIte, List.length_map, Nat.reduceAdd, Nat.reduceLeDiff, Nat.reduceLT, Nat.reduceMul, Nat.reduceSub, Option.bind_some, Option.map_some, bndV, numV, eI, eU, e8, eB, AV.isCell, Int.reduceToNat, Int.reduceSub, Int.reduceAdd, Int.reduceNeg])
  refine L36_0_rule ((0 : Nat), q0) (fun s => rowP s.2 (a ++ mv (b.take s.1) n)) (fun s => I s.1) (fun s => H.set s.2 (cP fI (a ++ mv (b.take s.1) n))) (fun s => s.1 ≤ b.length ∧ H s.2 = none) (fun s => b.length - s.1) ⟨⟨by simp, hq0⟩, by simp [mv]; exact .refl _, .refl _, by simp [mv, Heap.le_refl]⟩ ?_
  rintro ⟨i, q⟩ ⟨hi, hq⟩
  dsimp only at hi hq
  have hml : (a ++ mv (b.take i) n).length = a.length + i := by simp [mv]; omega
  (try simp (maxSteps := 1000000) (disch := (first | assumption | (apply Ne.symm; assumption))) only [vw0, vw1, vw2, vw3, vw4, vu0, vu1, ↓condV_t, ↓condV_f, cap_nil, allocV, splice, partV, buildV, eqFieldsV, eqS, tabs, TK.agg, reduceCtorEq, Array.toList, List.map_cons, List.map_nil, ↓reduceIte, List.length_map, Nat.reduceAdd, Nat.reduceLeDiff, Nat.reduceLT, Nat.reduceMul, Nat.reduceSub, Option.bind_some, Option.map_some, bndV, numV, eI, eU, e8, eB, AV.isCell, Int.reduceToNat, Int.reduceSub, Int.reduceAdd, Int.reduceNeg, B36_0])
  refine ⟨fun h1 => ⟨by omega, h1, ?_⟩, fun h1 => ?_⟩
  · have hlt : i < b.length := by omega
    have hx := getD_all (p := fun x => 0 ≤ x ∧ x ≤ 100000) (d := default) hb.2 hlt
    have e : a ++ mv (b.take (i + 1)) n = a ++ mv (b.take i) n ++ [b.getD i default + n] := by rw [take_succ_snoc hlt]; simp [mv]
    rw [i64_id (n := b.getD i default + n) (by omega) (by omega)]
    refine push_topI hq (by omega) fun q' hq' => ?_
    rw [← e]
    (try simp (maxSteps := 1000000) (disch := (first | assumption | (apply Ne.symm; assumption))) only [vw0, vw1, vw2, vw3, vw4, vu0, vu1, ↓condV_t, ↓condV_f, cap_nil, allocV, splice, partV, buildV, eqFieldsV, eqS, tabs, TK.agg, reduceCtorEq, Array.toList, List.map_cons, List.map_nil, ↓reduceIte, List.length_map, Nat.reduceAdd, Nat.reduceLeDiff, Nat.reduceLT, Nat.reduceMul, Nat.reduceSub, Option.bind_some, Option.map_some, bndV, numV, eI, eU, e8, eB, AV.isCell, Int.reduceToNat, Int.reduceSub, Int.reduceAdd, Int.reduceNeg])
    refine ⟨(i + 1, q'), ⟨by simp only; omega, hq'⟩, by simp only; omega, .refl _, ?_, Heap.le_refl _⟩
    rw [wk_int, i64_id (by omega) (by omega)]; simp
  · have : i = b.length := by omega
    subst this
    rw [List.take_length]
    exact h q hq
end Go.Proofs.Ytfbaijpanbjmpaa
