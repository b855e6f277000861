/- Rows of numbers in a heap of things: appended to, sorted, made compact; numbers put into a rising row. -/
import Derived.Test.YtgcklgeifdefhaaGreatMg0
import Derived.Test.YtgcklgeifdefhaaGreatSs2
namespace Go.Proofs.YtgcklgeifdefhaaGreat
open Go Go.Sep Go.Pt
set_option linter.unusedSimpArgs false
set_option linter.unusedVariables false
attribute [local irreducible] CallT

theorem rn_appI {H G : Heap} {Ts : List Th} {x : AV} {xs ys : List Int} {D : List Nat} (s : St H Ts G) (i : Nat) (hi : Ts[i]? = some (rnI x xs D)) (hl : xs.length + ys.length ≤ 1000000) {K : AV → Heap → Prop}
    (h : ∀ q' G', G q' = none → St H (Ts.set i (rnI (rowP q' (xs ++ ys)) (xs ++ ys) [q'])) G' → K (rowP q' (xs ++ ys)) G') : appendV tab 46 46 x (Is ys) G (wkK K) :=
  RN.app (bz := 8) tab_46 rfl tab_3 tab_46 rfl rfl rfl (fun _ => rfl) s i hi rfl (by omega) (by omega) h
theorem rnI_cases {x : AV} {l : List Int} {G : Heap} {D : List Nat} (h : RN (LPl eI) 1 x l G D) : (x = .p .nil ∧ l = [] ∧ D = []) ∨ ∃ q, x = rowP q l ∧ G q = some (cP fI l) ∧ D = [q] := by
  rcases h with h | ⟨q, cs, D', rfl, hq, hll, rfl⟩
  · exact .inl h
  · obtain ⟨rfl, rfl⟩ := LL.plain' hll
    refine .inr ⟨q, rfl, ?_, rfl⟩
    have e : cells (l.map eI) = cP fI l := cells_P fI l
    rw [← e]; exact hq
theorem rnI_mk {l : List Int} {G : Heap} {q : Nat} (h : G q = some (cP fI l)) : RN (LPl eI) 1 (rowP q l) l G [q] := .inr (LI_mk' h)
theorem rn_sort {H G : Heap} {Ts : List Th} {x : AV} {l : List Int} {D : List Nat} (s : St H Ts G) (i : Nat) (hi : Ts[i]? = some (rnI x l D)) (hl : l.length ≤ 1000000) {K : AV → Heap → Prop}
    (h : ∀ G', St H (Ts.set i (rnI x (srt l) D)) G' → K (.tup []) G') : CallT Tryz.prog 137 [x] G K := by
  have hsl : (srt l).length = l.length := List.length_mergeSort ..
  rcases rnI_cases (s.get i hi) with ⟨rfl, rfl, rfl⟩ | ⟨q, rfl, hq, rfl⟩
  · refine Sort_nil (h G ?_)
    exact s.repl i hi _ (by simp [rnT]) (fun y hy => .inl hy) (fun y b hb _ => hb) (.inl ⟨rfl, by simp [srt], rfl⟩)
  · refine Sort_row hq (by omega) (h _ ?_)
    refine s.repl i hi _ (by simp [rnT]) (fun y hy => .inl hy) (fun y b hb hy => ?_) ?_
    · simp only [rnT, List.mem_singleton] at hy
      rw [Heap.set_other hy]; exact hb
    · have := rnI_mk (l := srt l) (q := q) (G := G.set q (cP fI (srt l))) (Heap.set_same _ _ _)
      rw [rowP, hsl] at this
      exact this
theorem rn_compact {H G : Heap} {Ts : List Th} {x : AV} {l : List Int} {D : List Nat} (s : St H Ts G) (i : Nat) (hi : Ts[i]? = some (rnI x l D)) (hl : l.length ≤ 1000000) {K : AV → Heap → Prop}
    (h : ∀ x' G', (x' = .p .nil ∨ ∃ q, x' = .sl q 1 0 (Lib.compact l).length) → St H (Ts.set i (rnI x' (Lib.compact l) D)) G' → K x' G') : CallT Tryz.prog 138 [x] G K := by
  rcases rnI_cases (s.get i hi) with ⟨rfl, rfl, rfl⟩ | ⟨q, rfl, hq, rfl⟩
  · refine Compact_nil (h _ G (.inl rfl) ?_)
    exact s.repl i hi _ (by simp [rnT]) (fun y hy => .inl hy) (fun y b hb _ => hb) (.inl ⟨rfl, by simp [Lib.compact, Lib.compactUpTo], rfl⟩)
  · refine Compact_row hq (by omega) (h _ _ (.inr ⟨q, rfl⟩) ?_)
    refine s.repl i hi _ (by simp [rnT]) (fun y hy => .inl hy) (fun y b hb hy => ?_) (rnI_mk (Heap.set_same _ _ _))
    simp only [rnT, List.mem_singleton] at hy
    rw [Heap.set_other hy]; exact hb

theorem tw_split {l : List Int} {n : Int} : ∀ {k : Nat}, k ≤ l.length → (∀ j, j < k → l.getD j default < n) → (k = l.length ∨ ¬ l.getD k default < n) → l.takeWhile (· < n) = l.take k ∧ l.dropWhile (· < n) = l.drop k := by
  induction l with
  | nil => intro k hk _ _; simp
  | cons a l ih =>
    intro k hk h1 h2
    cases k with
    | zero =>
      have : ¬ a < n := by
        rcases h2 with h2 | h2
        · simp at h2
        · simpa using h2
      simp [this]
    | succ k =>
      have h0 : a < n := by simpa using h1 0 (by omega)
      have := ih (k := k) (by simpa using hk) (fun j hj => by simpa using h1 (j + 1) (by omega)) (by
        rcases h2 with h2 | h2
        · left; simpa using h2
        · right; simpa using h2)
      simp [h0, this.1, this.2]
theorem l1Put_spec (l : List Int) (n : Int) (hs : l.Pairwise (· < ·)) (hl : l.length ≤ 100000) : Pu Tryz.prog 123 [Is l, I n] (Is (put l n)) := by
  refine ⟨fun H => CallT.fin ?_⟩
  refine W123_ok ?_; simp (maxSteps := 1000000) (disch := (first | assumption | (apply Ne.symm; assumption))) only [W123, vw0, vw1, vw2, vw3, vw4, vu0, vu1, ↓condV_t, ↓condV_f, cap_nil, allocV, splice, partV, buildV, eqFieldsV, eqS, tabs, TK.agg, reduceCtorEq, Array.toList, List.map_cons, List.map_nil, ↓reduceIte, List.length_map, Nat.reduceAdd, Nat.reduceLeDiff, Nat.reduceLT, Nat.reduceMul, Nat.reduceSub, Option.bind_some, Option.map_some, bndV, numV, eI, eU, e8, eB, AV.isCell, Int.reduceToNat, Int.reduceSub, Int.reduceAdd, Int.reduceNeg]
  refine L123_0_rule (0 : Nat) (fun i => I i) (fun _ => H) (fun k => k ≤ l.length ∧ ∀ j, j < k → l.getD j default < n) (fun k => l.length - k) ⟨⟨by omega, by intros; omega⟩, .refl _, Heap.le_refl _⟩ ?_
  rintro k ⟨hk, ha⟩
  have ins : ((k = l.length ∨ ¬ l.getD k default < n) ∧ n ∉ l) → J123_1 (wkK fun r H' => r = Is (put l n) ∧ H' = H) (Is l) (I n) (I k) H := by
    rintro ⟨h2, hn⟩
    have ht := tw_split hk ha h2
    (try simp (maxSteps := 1000000) (disch := (first | assumption | (apply Ne.symm; assumption))) only [vw0, vw1, vw2, vw3, vw4, vu0, vu1, ↓condV_t, ↓condV_f, cap_nil, allocV, splice, partV, buildV, eqFieldsV, eqS, tabs, TK.agg, reduceCtorEq, Array.toList, List.map_cons, List.map_nil, ↓reduceIte, List.length_map, Nat.reduceAdd, Nat.reduceLeDiff, Nat.reduceLT, Nat.reduceMul, Nat.reduceSub, Option.bind_some, Option.map_some, bndV, numV, eI, eU, e8, eB, AV.isCell, Int.reduceToNat, Int.reduceSub, Int.reduceAdd, Int.reduceNeg, J123_1])
    refine lit0I fun q0 hq0 => ?_
    (try simp (maxSteps := 1000000) (disch := (first | assumption | (apply Ne.symm; assumption))) only [vw0, vw1, vw2, vw3, vw4, vu0, vu1, ↓condV_t, ↓condV_f, cap_nil, allocV, splice, partV, buildV, eqFieldsV, eqS, tabs, TK.agg, reduceCtorEq, Array.toList, List.map_cons, List.map_nil, ↓reduceIte, List.length_map, Nat.reduceAdd, Nat.reduceLeDiff, Nat.reduceLT, Nat.reduceMul, Nat.reduceSub, Option.bind_some, Option.map_some, bndV, numV, eI, eU, e8, eB, AV.isCell, Int.reduceToNat, Int.reduceSub, Int.reduceAdd, Int.reduceNeg, sliceV])
    refine ⟨by omega, by omega, by omega, szI l, ?_⟩
    have hlt : (l.take k).length = k := by rw [List.length_take, Nat.min_eq_left hk]
    refine app_topI (xs := []) (ys := l.take k) hq0 (by simp only [List.length_nil, hlt]; omega) fun q1 hq1 => ?_
    rw [List.nil_append]
    refine push_topI hq1 (by omega) fun q2 hq2 => ?_
    (try simp (maxSteps := 1000000) (disch := (first | assumption | (apply Ne.symm; assumption))) only [vw0, vw1, vw2, vw3, vw4, vu0, vu1, ↓condV_t, ↓condV_f, cap_nil, allocV, splice, partV, buildV, eqFieldsV, eqS, tabs, TK.agg, reduceCtorEq, Array.toList, List.map_cons, List.map_nil, ↓reduceIte, List.length_map, Nat.reduceAdd, Nat.reduceLeDiff, Nat.reduceLT, Nat.reduceMul, Nat.reduceSub, Option.bind_some, Option.map_some, bndV, numV, eI, eU, e8, eB, AV.isCell, Int.reduceToNat, Int.reduceSub, Int.reduceAdd, Int.reduceNeg, sliceV])
    refine ⟨by omega, by omega, by omega, szI l, ?_⟩
    have e1 : List.take ((l.length : Int) - k).toNat (l.drop k) = l.drop k := List.take_of_length_le (by rw [List.length_drop]; omega)
    rw [e1]
    have e2 : l.take k ++ [n] ++ l.drop k = put l n := by rw [put, if_neg hn, ht.1, ht.2]; simp
    refine app_topI (xs := l.take k ++ [n]) (ys := l.drop k) hq2 (by simp only [List.length_append, hlt, List.length_drop, List.length_singleton]; omega) fun q3 hq3 => ?_
    rw [e2]
    exact fin_int hq3 (Heap.le_refl _)
  have here : (k = l.length ∨ ¬ l.getD k default < n) → J123_2 (wkK fun r H' => r = Is (put l n) ∧ H' = H) (Is l) (I n) (I k) H := by
    intro h2
    have ht := tw_split hk ha h2
    have ge : ∀ x ∈ l.drop k, n ≤ x := by rw [← ht.2]; exact drop_ge hs
    have lt : ∀ x ∈ l.take k, x < n := by rw [← ht.1]; exact take_lt
    (try simp (maxSteps := 1000000) (disch := (first | assumption | (apply Ne.symm; assumption))) only [vw0, vw1, vw2, vw3, vw4, vu0, vu1, ↓condV_t, ↓condV_f, cap_nil, allocV, splice, partV, buildV, eqFieldsV, eqS, tabs, TK.agg, reduceCtorEq, Array.toList, List.map_cons, List.map_nil, ↓reduceIte, List.length_map, Nat.reduceAdd, Nat.reduceLeDiff, Nat.reduceLT, Nat.reduceMul, Nat.reduceSub, Option.bind_some, Option.map_some, bndV, numV, eI, eU, e8, eB, AV.isCell, Int.reduceToNat, Int.reduceSub, Int.reduceAdd, Int.reduceNeg, J123_2])
    refine ⟨fun h3 => ⟨by omega, h3, fun h4 => ?_, fun h4 => ins ⟨h2, fun hm => ?_⟩⟩, fun h3 => ins ⟨h2, fun hm => ?_⟩⟩
    · have hkl : k < l.length := by omega
      have hm : n ∈ l := by rw [← h4]; exact getD_all (p := fun x => x ∈ l) (fun _ h => h) hkl
      exact wkK.keep ⟨by rw [put, if_pos hm], rfl⟩
    · have hkl : k < l.length := by omega
      rw [← List.take_append_drop k l] at hm
      rcases List.mem_append.1 hm with hm | hm
      · have := lt n hm; omega
      · rw [drop_cons hkl] at hm ge
        rcases List.mem_cons.1 hm with hm | hm
        · exact h4 hm.symm
        · have h5 := ge _ (List.mem_cons_self ..)
          have h6 : (l.drop k).Pairwise (· < ·) := List.Pairwise.sublist (List.drop_sublist k l) hs
          rw [drop_cons hkl, List.pairwise_cons] at h6
          have := h6.1 n hm
          omega
    · rw [← List.take_append_drop k l, List.drop_of_length_le (by omega), List.append_nil] at hm
      have := lt n hm; omega
  (try simp (maxSteps := 1000000) (disch := (first | assumption | (apply Ne.symm; assumption))) only [vw0, vw1, vw2, vw3, vw4, vu0, vu1, ↓condV_t, ↓condV_f, cap_nil, allocV, splice, partV, buildV, eqFieldsV, eqS, tabs, TK.agg, reduceCtorEq, Array.toList, List.map_cons, List.map_nil, ↓reduceIte, List.length_map, Nat.reduceAdd, Nat.reduceLeDiff, Nat.reduceLT, Nat.reduceMul, Nat.reduceSub, Option.bind_some, Option.map_some, bndV, numV, eI, eU, e8, eB, AV.isCell, Int.reduceToNat, Int.reduceSub, Int.reduceAdd, Int.reduceNeg, B123_0])
  refine ⟨fun h1 => ⟨by omega, h1, fun h2 => ⟨k + 1, ⟨by omega, fun j hj => ?_⟩, by omega, ?_⟩, fun h2 => here (.inr h2)⟩, fun h1 => here (.inl (by omega))⟩
  · rcases Nat.lt_succ_iff_lt_or_eq.1 hj with h | rfl
    · exact ha j h
    · exact h2
  · rw [wk_int, i64_id (by omega) (by omega)]; simp
abbrev rnG (x : AV) (gs : List (List Int)) (D : List Nat) : Th := rnT LIc.local LIc.has 1 x gs D
/-- A row of rows takes one more row, which lies in a list of its own. -/
theorem rn_pushL {H G : Heap} {Ts : List Th} {qn ql : Nat} {x : AV} {gs : List (List Int)} {l : List Int} {D : List Nat} (s : St H (cellT ql [rowP qn l] :: cellT qn (cP fI l) :: Ts) G) (i : Nat) (hi : Ts[i]? = some (rnG x gs D)) (hlen : gs.length ≤ 100000) {K : AV → Heap → Prop}
    (h : ∀ q' D' G', G q' = none → St H (Ts.set i (rnG (.sl q' 1 0 (gs.length + 1)) (gs ++ [l]) D')) G' → K (.sl q' 1 0 (gs.length + 1)) G') : appendV tab 60 60 x (.sl ql 1 0 1) G (wkK K) := by
  have s1 := (s.pick (i + 2) hi).perm (Us := [rnG x gs D, cellT ql [rowP qn l], cellT qn (cP fI l)] ++ Ts.eraseIdx i) (List.Perm.refl _)
  have hrz : RN LIc 1 x gs G D := s1.get 0 rfl
  have hql : G ql = some [rowP qn l] := s1.get 1 rfl
  have hqn : G qn = some (cP fI l) := s1.get 2 rfl
  have fin : ∀ q' D' G', G q' = none → LRow LIc 1 (gs ++ [l]) (.sl q' 1 0 (gs.length + 1)) G' D' → D'.Nodup → (∀ y ∈ D', y ∈ D ∨ y = qn ∨ y = q') → (∀ y b, G y = some b → y ∉ D → y ≠ ql → y ≠ qn → G' y = some b) → K (.sl q' 1 0 (gs.length + 1)) G' := by
    intro q' D' G' hq' hrow hnd hsub hfr
    refine h q' D' G' hq' ?_
    have s2 := s1.step [rnG (.sl q' 1 0 (gs.length + 1)) (gs ++ [l]) D'] (by simpa [rnT] using hnd) (fun t ht y hy => by
      rw [List.mem_singleton] at ht; subst ht
      rcases hsub y hy with h1 | h1 | h1
      · exact .inl ⟨rnG x gs D, by simp, h1⟩
      · exact .inl ⟨cellT qn (cP fI l), by simp, by rw [h1]; simp [cellT]⟩
      · exact .inr (by rw [h1]; exact hq')) (fun y b hb hy => hfr y b hb (hy (rnG x gs D) (by simp)) (fun e => hy (cellT ql [rowP qn l]) (by simp) (by rw [e]; simp [cellT])) (fun e => hy (cellT qn (cP fI l)) (by simp) (by rw [e]; simp [cellT]))) (fun t ht => by
      rw [List.mem_singleton] at ht; subst ht; exact .inr hrow)
    obtain ⟨hi', -⟩ := List.getElem?_eq_some_iff.1 hi
    exact s2.perm (perm_set Ts i hi' _).symm
  have nqn : ∀ {q'}, G q' = none → q' ≠ qn := fun hq' e => by rw [e, hqn] at hq'; cases hq'
  have nql : ∀ {q'}, G q' = none → q' ≠ ql := fun hq' e => by rw [e, hql] at hq'; cases hq'
  have dq : qn ∉ D := fun hm => (s1.disjI 0 2 rfl rfl (by decide)) qn hm (by simp [cellT])
  have nnl : qn ≠ ql := fun e => by
    have := (s1.disjI 1 2 rfl rfl (by decide)) ql (by simp [cellT])
    exact this (by simp [cellT, e])
  have nd := s1.ndT 0 rfl
  simp only [appendV, tab_60, tab_46, srcV, hql]
  rcases hrz with ⟨rfl, rfl, rfl⟩ | ⟨q, cs, D', rfl, hq, hll, rfl⟩
  · simp only [baseV]
    refine ⟨trivial, by simp, by omega, by omega, rfl, fun q' hq' => wkK.keep ?_⟩
    refine fin q' [q', qn] _ hq' ⟨q', [rowP qn l], [qn], rfl, Heap.set_same _ _ _, ⟨[rowP qn l], [], [qn], [], rfl, by simp, ⟨_, rfl, LI_mk' (by rw [Heap.set_other (Ne.symm (nqn hq'))]; exact hqn)⟩, ⟨rfl, rfl⟩⟩, rfl⟩ (by simp [nqn hq']) (fun y hy => ?_) (fun y b hb _ _ _ => Heap.le_set hq' y b hb)
    simp only [List.mem_cons, List.not_mem_nil, or_false] at hy
    rcases hy with rfl | rfl <;> simp
  · have hcl : cs.length = gs.length := by rw [LL.size LIc.size hll, Nat.mul_one]
    simp only [baseV, hq]
    have e1 : List.take (gs.length * 1) (List.drop 0 cs) = cs := by rw [List.drop_zero, Nat.mul_one, ← hcl, List.take_length]
    have e2 : List.take (1 * 1) (List.drop 0 [rowP qn l]) = [rowP qn l] := rfl
    refine ⟨trivial, by simp, trivial, by omega, by omega, by omega, rfl, fun q' hq' => wkK.keep ?_⟩
    rw [e1, e2]
    have nq : q' ≠ q := fun e => by rw [e, hq] at hq'; cases hq'
    have old : ∀ y b, G y = some b → y ≠ q → ((G.del q).set q' (cs ++ [rowP qn l])) y = some b := fun y b hb hy => by
      rw [Heap.set_other (fun e => by rw [e, hq'] at hb; cases hb), Heap.del_other hy]; exact hb
    simp only [rnT, List.nodup_cons] at nd
    simp only [List.mem_cons, not_or] at dq
    have hq'D : q' ∉ D' := fun hm => LL.has LIc.has hll q' hm hq'
    refine fin q' (q' :: (D' ++ [qn])) _ hq' ⟨q', cs ++ [rowP qn l], D' ++ [qn], by simp, Heap.set_same _ _ _, LL.snoc ⟨_, rfl, LI_mk' (old _ _ hqn dq.1)⟩ (LL.local LIc.local hll fun y hy b hb => old y b hb (fun e => nd.1 (e ▸ hy))), rfl⟩ ?_ (fun y hy => ?_) (fun y b hb hy h5 h6 => ?_)
    · rw [List.nodup_cons, List.nodup_append]
      refine ⟨by simp only [List.mem_append, List.mem_singleton, not_or]; exact ⟨hq'D, nqn hq'⟩, nd.2, by simp, fun a ha b hb e => ?_⟩
      rw [List.mem_singleton] at hb
      exact dq.2 (by rw [← hb, ← e]; exact ha)
    · simp only [List.mem_cons, List.mem_append, List.not_mem_nil, or_false] at hy ⊢
      rcases hy with rfl | hy | rfl
      · exact .inr (.inr rfl)
      · exact .inl (.inr hy)
      · exact .inr (.inl rfl)
    · rw [List.mem_cons, not_or] at hy
      exact old y b hb hy.1
end Go.Proofs.YtgcklgeifdefhaaGreat
