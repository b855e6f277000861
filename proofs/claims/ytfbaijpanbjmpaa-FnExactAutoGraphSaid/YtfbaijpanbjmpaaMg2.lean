/- Specs: the graph of an automaton, by the reference. -/
import Derived.Test.YtfbaijpanbjmpaaMg1
namespace Go.Proofs.Ytfbaijpanbjmpaa
open Go Go.Sep Go.Pt
set_option linter.unusedSimpArgs false
set_option linter.unusedVariables false
attribute [local irreducible] CallT

theorem tw_split {l : List Int} {n : Int} : ∀ {k : Nat}, k ≤ l.length → (∀ j, j < k → l.getD j default < n) → (k = l.length ∨ ¬ l.getD k default < n) → l.takeWhile (· < n) = l.take k ∧ l.dropWhile (· < n) = l.drop k := by
  induction l with
  | nil => intro k hk _ _; simp
  | cons a l ih =>
    intro k hk h1 h2
    cases k with
    | zero =>
      have : ¬ a < n := by
        rcases h2 with h2 | h2
        · simp at h2
        · simpa using h2
      simp [this]
    | succ k =>
      have h0 : a < n := by simpa using h1 0 (by omega)
      have := ih (k := k) (by simpa using hk) (fun j hj => by simpa using h1 (j + 1) (by omega)) (by
        rcases h2 with h2 | h2
        · left; simpa using h2
        · right; simpa using h2)
      simp [h0, this.1, this.2]
theorem l1Put_spec (l : List Int) (n : Int) (hs : l.Pairwise (· < ·)) (hl : l.length ≤ 100000) : Pu Try.prog 96 [Is l, I n] (Is (put l n)) := by
  refine ⟨fun H => CallT.fin ?_⟩
  refine W96_ok ?_; simp (maxSteps := 1000000) (disch := (first | assumption | (apply Ne.symm; assumption))) only [W96, vw0, vw1, vw2, vw3, vw4, vu0, vu1, ↓condV_t, ↓condV_f, cap_nil, allocV, splice, partV, buildV, eqFieldsV, eqS, tabs, TK.agg, reduceCtorEq, Array.toList, List.map_cons, List.map_nil, ↓reduceIte, List.length_map, Nat.reduceAdd, Nat.reduceLeDiff, Nat.reduceLT, Nat.reduceMul, Nat.reduceSub, Option.bind_some, Option.map_some, bndV, numV, eI, eU, e8, eB, AV.isCell, Int.reduceToNat, Int.reduceSub, Int.reduceAdd, Int.reduceNeg]
  refine L96_0_rule (0 : Nat) (fun i => I i) (fun _ => H) (fun k => k ≤ l.length ∧ ∀ j, j < k → l.getD j default < n) (fun k => l.length - k) ⟨⟨by omega, by intros; omega⟩, .refl _, Heap.le_refl _⟩ ?_
  rintro k ⟨hk, ha⟩
  have ins : ((k = l.length ∨ ¬ l.getD k default < n) ∧ n ∉ l) → J96_1 (wkK fun r H' => r = Is (put l n) ∧ H' = H) (Is l) (I n) (I k) H := by
    rintro ⟨h2, hn⟩
    have ht := tw_split hk ha h2
    (try simp (maxSteps := 1000000) (disch := (first | assumption | (apply Ne.symm; assumption))) only [vw0, vw1, vw2, vw3, vw4, vu0, vu1, ↓condV_t, ↓condV_f, cap_nil, allocV, splice, partV, buildV, eqFieldsV, eqS, tabs, TK.agg, reduceCtorEq, Array.toList, List.map_cons, List.map_nil, ↓reduceIte, List.length_map, Nat.reduceAdd, Nat.reduceLeDiff, Nat.reduceLT, Nat.reduceMul, Nat.reduceSub, Option.bind_some, Option.map_some, bndV, numV, eI, eU, e8, eB, AV.isCell, Int.reduceToNat, Int.reduceSub, Int.reduceAdd, Int.reduceNeg, J96_1])
    refine lit0I fun q0 hq0 => ?_
    (try simp (maxSteps := 1000000) (disch := (first | assumption | (apply Ne.symm; assumption))) only [vw0, vw1, vw2, vw3, vw4, vu0, vu1, ↓condV_t, ↓condV_f, cap_nil, allocV, splice, partV, buildV, eqFieldsV, eqS, tabs, TK.agg, reduceCtorEq, Array.toList, List.map_cons, List.map_nil, ↓reduceIte, List.length_map, Nat.reduceAdd, Nat.reduceLeDiff, Nat.reduceLT, Nat.reduceMul, Nat.reduceSub, Option.bind_some, Option.map_some, bndV, numV, eI, eU, e8, eB, AV.isCell, Int.reduceToNat, Int.reduceSub, Int.reduceAdd, Int.reduceNeg, sliceV])
    refine ⟨by omega, by omega, by omega, szI l, ?_⟩
    have hlt : (l.take k).length = k := by rw [List.length_take, Nat.min_eq_left hk]
    refine app_topI (xs := []) (ys := l.take k) hq0 (by simp only [List.length_nil, hlt]; omega) fun q1 hq1 => ?_
    rw [List.nil_append]
    refine push_topI hq1 (by omega) fun q2 hq2 => ?_
    (try simp (maxSteps := 1000000) (disch := (first | assumption | (apply Ne.symm; assumption))) only [vw0, vw1, vw2, vw3, vw4, vu0, vu1, ↓condV_t, ↓condV_f, cap_nil, allocV, splice, partV, buildV, eqFieldsV, eqS, tabs, TK.agg, reduceCtorEq, Array.toList, List.map_cons, List.map_nil, ↓reduceIte, List.length_map, Nat.reduceAdd, Nat.reduceLeDiff, Nat.reduceLT, Nat.reduceMul, Nat.reduceSub, Option.bind_some, Option.map_some, bndV, numV, eI, eU, e8, eB, AV.isCell, Int.reduceToNat, Int.reduceSub, Int.reduceAdd, Int.reduceNeg, sliceV])
    refine ⟨by omega, by omega, by omega, szI l, ?_⟩
    have e1 : List.take ((l.length : Int) - k).toNat (l.drop k) = l.drop k := List.take_of_length_le (by rw [List.length_drop]; omega)
    rw [e1]
    have e2 : l.take k ++ [n] ++ l.drop k = put l n := by rw [put, if_neg hn, ht.1, ht.2]; simp
    refine app_topI (xs := l.take k ++ [n]) (ys := l.drop k) hq2 (by simp only [List.length_append, hlt, List.length_drop, List.length_singleton]; omega) fun q3 hq3 => ?_
    rw [e2]
    exact fin_int hq3 (Heap.le_refl _)
  have here : (k = l.length ∨ ¬ l.getD k default < n) → J96_2 (wkK fun r H' => r = Is (put l n) ∧ H' = H) (Is l) (I n) (I k) H := by
    intro h2
    have ht := tw_split hk ha h2
    have ge : ∀ x ∈ l.drop k, n ≤ x := by rw [← ht.2]; exact drop_ge hs
    have lt : ∀ x ∈ l.take k, x < n := by rw [← ht.1]; exact take_lt
    (try simp (maxSteps := 1000000) (disch := (first | assumption | (apply Ne.symm; assumption))) only [vw0, vw1, vw2, vw3, vw4, vu0, vu1, ↓condV_t, ↓condV_f, cap_nil, allocV, splice, partV, buildV, eqFieldsV, eqS, tabs, TK.agg, reduceCtorEq, Array.toList, List.map_cons, List.map_nil, ↓reduceIte, List.length_map, Nat.reduceAdd, Nat.reduceLeDiff, Nat.reduceLT, Nat.reduceMul, Nat.reduceSub, Option.bind_some, Option.map_some, bndV, numV, eI, eU, e8, eB, AV.isCell, Int.reduceToNat, Int.reduceSub, Int.reduceAdd, Int.reduceNeg, J96_2])
    refine ⟨fun h3 => ⟨by omega, h3, fun h4 => ?_, fun h4 => ins ⟨h2, fun hm => ?_⟩⟩, fun h3 => ins ⟨h2, fun hm => ?_⟩⟩
    · have hkl : k < l.length := by omega
      have hm : n ∈ l := by rw [← h4]; exact getD_all (p := fun x => x ∈ l) (fun _ h => h) hkl
      exact wkK.keep ⟨by rw [put, if_pos hm], rfl⟩
    · have hkl : k < l.length := by omega
      rw [← List.take_append_drop k l] at hm
      rcases List.mem_append.1 hm with hm | hm
      · have := lt n hm; omega
      · rw [drop_cons hkl] at hm ge
        rcases List.mem_cons.1 hm with hm | hm
        · exact h4 hm.symm
        · have h5 := ge _ (List.mem_cons_self ..)
          have h6 : (l.drop k).Pairwise (· < ·) := List.Pairwise.sublist (List.drop_sublist k l) hs
          rw [drop_cons hkl, List.pairwise_cons] at h6
          have := h6.1 n hm
          omega
    · rw [← List.take_append_drop k l, List.drop_of_length_le (by omega), List.append_nil] at hm
      have := lt n hm; omega
  (try simp (maxSteps := 1000000) (disch := (first | assumption | (apply Ne.symm; assumption))) only [vw0, vw1, vw2, vw3, vw4, vu0, vu1, ↓condV_t, ↓condV_f, cap_nil, allocV, splice, partV, buildV, eqFieldsV, eqS, tabs, TK.agg, reduceCtorEq, Array.toList, List.map_cons, List.map_nil, ↓reduceIte, List.length_map, Nat.reduceAdd, Nat.reduceLeDiff, Nat.reduceLT, Nat.reduceMul, Nat.reduceSub, Option.bind_some, Option.map_some, bndV, numV, eI, eU, e8, eB, AV.isCell, Int.reduceToNat, Int.reduceSub, Int.reduceAdd, Int.reduceNeg, B96_0])
  refine ⟨fun h1 => ⟨by omega, h1, fun h2 => ⟨k + 1, ⟨by omega, fun j hj => ?_⟩, by omega, ?_⟩, fun h2 => here (.inr h2)⟩, fun h1 => here (.inl (by omega))⟩
  · rcases Nat.lt_succ_iff_lt_or_eq.1 hj with h | rfl
    · exact ha j h
    · exact h2
  · rw [wk_int, i64_id (by omega) (by omega)]; simp
/-- A row by value in a cell; nothing yet: nil. -/
def cellV (l : List Int) : PV := if l = [] then .nil else .sl (l.map eI)
def refN (a : Au) (k s : Nat) : List Int := (outN a k s).foldl put []
def refR (a : Au) (k : Nat) : List (List Int) := (List.range a.states.toNat).map (refN a k)
theorem refR_len (a : Au) (k : Nat) : (refR a k).length = a.states.toNat := by simp [refR]
theorem refR_zero (a : Au) : refR a 0 = List.replicate a.states.toNat [] := by
  rw [refR]
  apply List.ext_getElem
  · simp
  · intro i h1 h2; simp [refN, outN]
theorem refR_get (a : Au) (k : Nat) {s : Nat} (h : s < a.states.toNat) : (refR a k).getD s default = refN a k s := by simp [refR, List.getD, h]
theorem refN_lt (a : Au) (k s : Nat) : (refN a k s).Pairwise (· < ·) := (foldl_put _ [] List.Pairwise.nil).1
theorem foldl_len (xs : List Int) : ∀ l, (xs.foldl put l).length ≤ l.length + xs.length := by
  induction xs with
  | nil => intro l; simp
  | cons a xs ih => intro l; have := ih (put l a); have := put_len l a; rw [List.foldl_cons, List.length_cons]; omega
theorem refN_len (a : Au) (k s : Nat) : (refN a k s).length ≤ a.edges.length := by
  have := foldl_len (outN a k s) []
  have h2 := outN_len a k s
  rw [List.length_nil] at this
  unfold refN; omega
theorem refR_succ (a : Au) {k : Nat} (hk : k < a.edges.length) (h0 : 0 ≤ (a.edges.getD k default).src) (h1 : (a.edges.getD k default).src < a.states) :
    refR a (k + 1) = (refR a k).set (a.edges.getD k default).src.toNat (put (refN a k (a.edges.getD k default).src.toNat) (a.edges.getD k default).dst) := by
  have hs := take_succ_snoc hk
  generalize a.edges.getD k default = e at hs h0 h1 ⊢
  apply List.ext_getElem
  · simp [refR]
  · intro s h2 h3
    simp only [refR, List.getElem_map, List.getElem_range, List.getElem_set]
    simp only [refN, outN, hs, List.filter_append, List.map_append]
    by_cases he : e.src.toNat = s
    · subst he
      rw [if_pos rfl]
      have : e.src = (e.src.toNat : Int) := by omega
      simp [← this]
    · rw [if_neg he]
      have : ¬ e.src = (s : Int) := by omega
      simp [this]
theorem refR_all (a : Au) : refR a a.edges.length = nextG a := by
  rw [refR, nextG]
  apply List.map_congr_left
  intro s _
  rw [refN, puts_sc]
theorem put_ne (l : List Int) (n : Int) : put l n ≠ [] := by
  intro h
  have := (put_mem l n n).2 (.inl rfl)
  rw [h] at this; cases this
theorem map_rd {α : Type} [Inhabited α] {f : α → AV} {rows : List α} {i : Nat} (h : i < rows.length) : (List.take 1 (List.drop (i * 1) (rows.map f))).headD AV.any = f (rows.getD i default) := by
  rw [Nat.mul_one, ← List.map_drop, drop_cons h]; rfl
theorem map_sp {α : Type} {f : α → AV} {rows : List α} {i : Nat} {l : α} (h : i < rows.length) : List.take (i * 1) (rows.map f) ++ [f l] ++ List.drop (i * 1 + 1) (rows.map f) = (rows.set i l).map f := by
  rw [Nat.mul_one, List.set_eq_take_append_cons_drop, if_pos h, List.map_append, List.map_cons, List.map_take, List.map_drop]; simp
theorem cellV_wk (l : List Int) : AV.wk (.p (cellV l)) (Is l) := by
  unfold cellV
  split
  · rename_i h; subst h; exact .nil
  · exact .refl _
abbrev cG (rows : List (List Int)) : List AV := rows.map fun l => AV.p (cellV l)
/-- A table of rows by value, at last by value itself. -/
theorem fin_tab {q : Nat} {rows : List (List Int)} {H G : Heap} (hq : H q = none) (hG : G q = some (cG rows)) (hle : Heap.le H G) : wkK (fun r H' => r = Ls rows ∧ H' = H) (.sl q 1 0 rows.length) G := by
  have e : cells (rows.map eL) = rows.map fun l => AV.p (.sl (l.map eI)) := cells_P (fun l : List Int => PV.sl (l.map eI)) rows
  have w1 : Wk (.sl q 1 0 rows.length) G (.sl q 1 0 rows.length) (G.set q (cells (rows.map eL))) := .cell hG (by rw [e]; simp) fun i a a' h1 h2 => by
    rw [e] at h2
    rw [List.getElem?_map] at h1 h2
    cases hr : rows[i]? with
    | none => rw [hr] at h1; cases h1
    | some l =>
      rw [hr] at h1 h2
      cases h1; cases h2
      exact cellV_wk l
  have := fin_own (sz := 1) (es := rows.map eL) (q := q) (H := H) (H' := G.set q (cells (rows.map eL))) (K := fun r H' => r = Ls rows ∧ H' = H) (by omega) (sized_map (f := eL) (fun _ => rfl) rows) hq (Heap.set_le hle) ⟨rfl, rfl⟩
  obtain ⟨v', H', w2, h2⟩ := this
  simp only [Go.Sep.own, List.length_map] at w2
  exact ⟨v', H', .trans w1 w2, h2⟩
theorem l12Graph_spec (a : Au) (fa : GoodF a) : Pu Try.prog 70 [aAu a] (Ls (nextG a)) := by
  have hst := fa.st
  have hed := fa.ed
  refine ⟨fun H => CallT.fin ?_⟩
  have hz : ((a.states.toNat : Nat) : Int) = a.states := by omega
  refine W70_ok ?_; simp (maxSteps := 1000000) (disch := (first | assumption | (apply Ne.symm; assumption))) only [W70, vw0, vw1, vw2, vw3, vw4, vu0, vu1, ↓condV_t, ↓condV_f, cap_nil, allocV, splice, partV, buildV, eqFieldsV, eqS, tabs, TK.agg, reduceCtorEq, Array.toList, List.map_cons, List.map_nil, ↓reduceIte, List.length_map, Nat.reduceAdd, Nat.reduceLeDiff, Nat.reduceLT, Nat.reduceMul, Nat.reduceSub, Option.bind_some, Option.map_some, bndV, numV, eI, eU, e8, eB, AV.isCell, Int.reduceToNat, Int.reduceSub, Int.reduceAdd, Int.reduceNeg, makeSliceV]
  intro r hr
  refine ⟨by omega, by omega, by omega, by omega, fun q hq1 hq => ?_⟩
  have st := (St.nil H).cell hr [I a.states, Is a.first, Es a.edges, Ls a.goals]
  replace st := st.cell (r := q) (by rw [Heap.set_other hq1]; exact hq) (zerosA a.states.toNat [.p .nil])
  have ez : zerosA a.states.toNat [.p .nil] = cG (refR a 0) := by
    rw [refR_zero]
    apply List.ext_getElem
    · simp [zerosA_len]
    · intro i h1 h2
      have : ∀ (n i : Nat) (h : i < (zerosA n [AV.p .nil]).length), (zerosA n [AV.p .nil])[i] = .p .nil := by
        intro n
        induction n with
        | zero => intro i h; simp [zerosA] at h
        | succ n ih =>
          intro i h
          cases i with
          | zero => simp [zerosA_succ]
          | succ i => simp [zerosA_succ, ih]
      rw [this]; simp [cellV]
  rw [ez] at st ⊢
  generalize (H.set r [I a.states, Is a.first, Es a.edges, Ls a.goals]).set q (cG (refR a 0)) = G1 at st ⊢
  (try simp (maxSteps := 1000000) (disch := (first | assumption | (apply Ne.symm; assumption))) only [vw0, vw1, vw2, vw3, vw4, vu0, vu1, ↓condV_t, ↓condV_f, cap_nil, allocV, splice, partV, buildV, eqFieldsV, eqS, tabs, TK.agg, reduceCtorEq, Array.toList, List.map_cons, List.map_nil, ↓reduceIte, List.length_map, Nat.reduceAdd, Nat.reduceLeDiff, Nat.reduceLT, Nat.reduceMul, Nat.reduceSub, Option.bind_some, Option.map_some, bndV, numV, eI, eU, e8, eB, AV.isCell, Int.reduceToNat, Int.reduceSub, Int.reduceAdd, Int.reduceNeg, load_at (st.get 1 rfl)])
  refine L70_0_rule ((0 : Nat), G1) (fun s => I s.1) (fun s => s.2) (fun s => s.1 ≤ a.edges.length ∧ St H [cellT q (cG (refR a s.1)), cellT r [I a.states, Is a.first, Es a.edges, Ls a.goals]] s.2) (fun s => a.edges.length - s.1)
    ⟨⟨by simp, st⟩, .refl _, Heap.le_refl _⟩ ?_
  clear st
  rintro ⟨k, G⟩ ⟨hk, st⟩
  dsimp only at hk st
  (try simp (maxSteps := 1000000) (disch := (first | assumption | (apply Ne.symm; assumption))) only [vw0, vw1, vw2, vw3, vw4, vu0, vu1, ↓condV_t, ↓condV_f, cap_nil, allocV, splice, partV, buildV, eqFieldsV, eqS, tabs, TK.agg, reduceCtorEq, Array.toList, List.map_cons, List.map_nil, ↓reduceIte, List.length_map, Nat.reduceAdd, Nat.reduceLeDiff, Nat.reduceLT, Nat.reduceMul, Nat.reduceSub, Option.bind_some, Option.map_some, bndV, numV, eI, eU, e8, eB, AV.isCell, Int.reduceToNat, Int.reduceSub, Int.reduceAdd, Int.reduceNeg, B70_0])
  refine ⟨fun h1 => ⟨by omega, h1, ?_⟩, fun h1 => ?_⟩
  · have hlt : k < a.edges.length := by omega
    have hm : a.edges.getD k default ∈ a.edges := getD_all (p := fun x => x ∈ a.edges) (fun _ h => h) hlt
    have hei := edIn_iff.1 (fa.ei _ hm)
    have hsucc := refR_succ a hlt (by omega) (by omega)
    generalize a.edges.getD k default = e at hei hsucc ⊢
    intro r5 hr5
    replace st := st.cell hr5 [I e.src, I e.lt, I e.dst]
    generalize G.set r5 [I e.src, I e.lt, I e.dst] = G2 at st ⊢
    have hi : e.src.toNat < (refR a k).length := by rw [refR_len]; omega
    have hrd := map_rd (f := fun l => AV.p (cellV l)) hi
    rw [refR_get a k (by omega)] at hrd
    have hln : (refR a k).length = a.states.toNat := refR_len a k
    have hol := refN_len a k e.src.toNat
    have hsp : ∀ l', List.take (e.src.toNat * 1) (cG (refR a k)) ++ [AV.p (cellV l')] ++ List.drop (e.src.toNat * 1 + 1) (cG (refR a k)) = cG ((refR a k).set e.src.toNat l') := fun l' => map_sp hi
    (try simp (maxSteps := 1000000) (disch := (first | assumption | (apply Ne.symm; assumption))) only [vw0, vw1, vw2, vw3, vw4, vu0, vu1, ↓condV_t, ↓condV_f, cap_nil, allocV, splice, partV, buildV, eqFieldsV, eqS, tabs, TK.agg, reduceCtorEq, Array.toList, List.map_cons, List.map_nil, ↓reduceIte, List.length_map, Nat.reduceAdd, Nat.reduceLeDiff, Nat.reduceLT, Nat.reduceMul, Nat.reduceSub, Option.bind_some, Option.map_some, bndV, numV, eI, eU, e8, eB, AV.isCell, Int.reduceToNat, Int.reduceSub, Int.reduceAdd, Int.reduceNeg, load_at (st.get 0 rfl)])
    refine ⟨by omega, by omega, ?_⟩
    (try simp (maxSteps := 1000000) (disch := (first | assumption | (apply Ne.symm; assumption))) only [vw0, vw1, vw2, vw3, vw4, vu0, vu1, ↓condV_t, ↓condV_f, cap_nil, allocV, splice, partV, buildV, eqFieldsV, eqS, tabs, TK.agg, reduceCtorEq, Array.toList, List.map_cons, List.map_nil, ↓reduceIte, List.length_map, Nat.reduceAdd, Nat.reduceLeDiff, Nat.reduceLT, Nat.reduceMul, Nat.reduceSub, Option.bind_some, Option.map_some, bndV, numV, eI, eU, e8, eB, AV.isCell, Int.reduceToNat, Int.reduceSub, Int.reduceAdd, Int.reduceNeg, load_at (st.get 0 rfl), load_at (st.get 1 rfl), hrd, hln])
    refine ⟨by omega, ?_⟩
    refine CallT.args (args' := [Is (refN a k e.src.toNat), I e.dst]) ?_ ⟨cellV_wk _, .refl _, trivial⟩
    refine Pu.use (l1Put_spec _ e.dst (refN_lt a k _) (by omega)) ?_
    have ec : Is (put (refN a k e.src.toNat) e.dst) = .p (cellV (put (refN a k e.src.toNat) e.dst)) := by rw [cellV, if_neg (put_ne _ _)]
    rw [ec]
    generalize put (refN a k e.src.toNat) e.dst = l' at hsucc ⊢
    (try simp (maxSteps := 1000000) (disch := (first | assumption | (apply Ne.symm; assumption))) only [vw0, vw1, vw2, vw3, vw4, vu0, vu1, ↓condV_t, ↓condV_f, cap_nil, allocV, splice, partV, buildV, eqFieldsV, eqS, tabs, TK.agg, reduceCtorEq, Array.toList, List.map_cons, List.map_nil, ↓reduceIte, List.length_map, Nat.reduceAdd, Nat.reduceLeDiff, Nat.reduceLT, Nat.reduceMul, Nat.reduceSub, Option.bind_some, Option.map_some, bndV, numV, eI, eU, e8, eB, AV.isCell, Int.reduceToNat, Int.reduceSub, Int.reduceAdd, Int.reduceNeg, load_at (st.get 0 rfl), store_at (st.get 1 rfl), hln])
    refine ⟨by omega, by omega, by omega, ?_⟩
    rw [hsp, ← hsucc]
    refine ⟨(k + 1, _), ⟨by simp only; omega, (st.put 1 rfl (cG (refR a (k + 1)))).drop⟩, by simp only; omega, ?_, Heap.le_refl _⟩
    rw [wk_int, i64_id (by omega) (by omega)]; simp
  · have : k = a.edges.length := by omega
    subst this
    have hg : G q = some (cG (refR a a.edges.length)) := st.get 0 rfl
    have := fin_tab (H := H) hq hg st.le
    rw [refR_len] at this
    rw [refR_all] at this
    exact this
end Go.Proofs.Ytfbaijpanbjmpaa
