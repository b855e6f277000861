/- Specs: the program's least lasso. -/
import Derived.Test.YtjbdahlhphdalaaLa5
namespace Go.Proofs.Ytjbdahlhphdalaa
open Go Go.Sep
set_option linter.unusedSimpArgs false
set_option linter.unusedVariables false
attribute [local irreducible] CallT

theorem cells_I (xs : List Int) : cells (xs.map eI) = xs.map fun n => I n := by
  simp only [cells]
  induction xs with
  | nil => rfl
  | cons x xs ih => simp only [List.map_cons, List.flatten_cons, List.map_append, List.map_nil, List.cons_append, List.nil_append]; rw [ih]

theorem shift_eq {t i : Nat} (h : t ≠ 0) : t + i = t - 1 + (i + 1) := by omega
theorem get_I {xs : List Int} {i : Nat} (h : i < xs.length) : (List.take 1 (List.drop (i * 1) (xs.map fun n => I n))).headD AV.any = I (xs.getD i 0) := by
  rw [Nat.mul_one, ← List.map_drop, ← List.map_take]
  have : (xs.drop i).take 1 = [xs.getD i 0] := by
    rw [List.drop_eq_getElem_cons h]; simp only [List.take_succ_cons, List.take_zero, getD_lt h]
  rw [this]; rfl

/-- A part of a row behind another part of it. -/
theorem app_parts {tab : Tab} {t e : Nat} {d ed : TD} {q o n o' m : Nat} {cs : List AV} {H : Heap} {K : AV → Heap → Prop} (h1 : tab t = some d) (h2 : d.k = .slice e) (h3 : tab e = some ed) (h6 : ed.size = 1) (h7 : ed.bytes ≤ 16)
    (hr : H q = some cs) (hc : cs.all AV.isCell = true) (ho : o + n ≤ cs.length) (ho' : o' + m ≤ cs.length) (hl : n + m ≤ 1000000000)
    (h : ∀ r', H r' = none → K (.sl r' 1 0 (n + m)) ((H.del q).set r' ((cs.drop o).take n ++ (cs.drop o').take m))) : appendV tab t t (.sl q 1 o n) (.sl q 1 o' m) H (wkK K) := by
  simp only [appendV, h1, h2, h3, srcV, baseV, hr, h6]
  refine ⟨trivial, by omega, trivial, by omega, ?_, by omega, ?_, fun r' hr' => wkK.keep ?_⟩
  · exact Nat.le_trans (Nat.mul_le_mul hl h7) (by omega)
  · rw [List.all_eq_true] at hc ⊢
    intro x hx
    exact hc x (List.mem_of_mem_drop (List.mem_of_mem_take hx))
  · have := h r' hr'
    simpa only [Nat.mul_one] using this

theorem Wk.frz2 {q1 q2 : Nat} {es1 es2 : List (List PV)} {w : AV} {G : Heap} (h1 : G q1 = some (cells es1)) (h2 : G q2 = some (cells es2)) (hq : q1 ≠ q2) (s1 : Sized 1 es1) (s2 : Sized 1 es2) :
    Wk (.tup [.agg [own q1 1 es1, own q2 1 es2], w]) G (.tup [.agg [.p (.sl es1), .p (.sl es2)], w]) ((G.del q1).del q2) := by
  refine .trans (Wk.frz (r := q1) (sz := 1) (es := es1) (v' := .tup [.agg [.p (.sl es1), own q2 1 es2], w]) (by omega) h1 s1 ?_) (Wk.frz (r := q2) (sz := 1) (es := es2) (by omega) (by rw [Heap.del_other hq.symm]; exact h2) s2 ?_)
  · exact .tup (.cons (.agg (.cons .here (.cons (.same _) .nil))) (.cons (.same _) .nil))
  · exact .tup (.cons (.agg (.cons (.same _) (.cons .here .nil))) (.cons (.same _) .nil))

/-- What is asked may be told of less. -/
theorem CallT.fin {P : Program} {f : Nat} {args : List AV} {H : Heap} {K : AV → Heap → Prop} (h : CallT P f args H (wkK K)) : CallT P f args H K :=
  h.wk fun v H1 ⟨v', H2, hw, hk⟩ => ⟨v', H2, hw, hk⟩

theorem LeastLasso_impl (s l : List Int) (h1 : s.length ≤ 1000000000) (h2 : l.length ≤ 1000000000) {H : Heap} {K : AV → Heap → Prop}
    (hbad : good s l = false → K (.tup [.agg [Is [], Is []], B false]) H)
    (hgood : good s l = true → ∀ t p, IsLeast s l t p → K (.tup [.agg [Is (firstN s l 0 t), Is (firstN s l t p)], B true]) H) :
    CallT Try.prog 13 [.agg [Is s, Is l]] H K := by
  refine CallT.fin ?_
  refine W13_ok ?_; simp (disch := (first | assumption | (apply Ne.symm; assumption))) only [W13, condV_dec, condV_not, ↓condV_t, ↓condV_f, condV_b, condV_u, pickV_b, eqnil_sl, neqnil_sl, grdV_t, grdV_f, callF_fn, indexAddr_sl, indexAddr_own, allocV, splice, partV, buildV, bin_add, bin_sub, bin_mul, bin_and, bin_or, bin_xor, bin_andNot, bin_quo, bin_rem, bin_shl, bin_shr, bin_eql, bin_neq, bin_lss, bin_leq, bin_gtr, bin_geq, bin_bool, eqV_bool, bin_agg, eqV_agg, un_not, un_neg, un_xor, ext_tup, load_fp, load_same, load_ne, store_same, store_ne, box_agg, box_p, box_sl, box_ptr, box_fn, fill_nil, fill_p, fill_sl, fill_ptr, fill_fn, fill_esl, fill_agg, len_p, len_sl, len_esl, nc_ptr, nc_fp, nc_fn, nc_sl, nc_p, conv_int, mm_max, mm_min, fa_ptr, fa_fp, fd_agg, eqFieldsV, eqS, cells_agg, cells_p, cells_sl, cells_ptr, cells_fn, cells_nilp, cells_fp, tabs, TK.agg, Heap.set_same, Heap.set_ne, Heap.over2, Heap.over3, Heap.over4, Heap.set_set, Heap.set_none, and_imp', true_and, and_true, Bool.not_true, Bool.not_false, reduceCtorEq, true_implies, false_implies, implies_true, Option.some.injEq, forall_eq', Array.toList, List.map_cons, List.map_nil, List.append_nil, List.cons_append, List.nil_append, Bool.true_eq_false, Bool.false_eq_true, if_true, if_false, ite_true, ite_false, ↓reduceIte, List.length_cons, List.length_nil, List.length_map, List.length_append, Nat.reduceAdd, Nat.reduceLeDiff, Nat.reduceLT, Nat.reduceMul, Nat.reduceSub, Nat.le_refl, Nat.zero_le, Nat.zero_add, Nat.add_zero, Option.bind_some, Option.map_some, List.getElem?_cons_zero, List.getElem?_cons_succ, Option.isSome_some, Option.isSome_none, bndV, numV, sliceV_sl, sliceV_own, sliceV_nil, eI, eU, e8, eB, Int.toNat_natCast, List.getD_cons_succ, List.getD_cons_zero, List.set_cons_zero, List.set_cons_succ, List.take_succ_cons, List.take_zero, List.take_nil, List.drop_succ_cons, List.drop_zero, List.headD_cons, List.all_cons, List.all_nil, Bool.and_true, Bool.and_false, Bool.true_and, Bool.false_and, Bool.and_self, beq_self_eq_true, Bool.false_beq, Bool.true_beq, Bool.not_not, AV.isCell, decide_true, decide_false, le_refl_true, Int.reduceToNat, Int.reduceSub, Int.reduceAdd, Int.reduceNeg, Int.sub_zero, List.drop_zero, decide_eq_true_eq, decide_eq_false_iff_not, Bool.not_eq_true', Bool.not_eq_false', Bool.not_eq_true, Bool.not_eq_false, Nat.lt_irrefl, ne_eq, not_false_eq_true, not_true_eq_false]
  intro r hr r' hr1 hr'
  (try simp (disch := (first | assumption | (apply Ne.symm; assumption))) only [condV_dec, condV_not, ↓condV_t, ↓condV_f, condV_b, condV_u, pickV_b, eqnil_sl, neqnil_sl, grdV_t, grdV_f, callF_fn, indexAddr_sl, indexAddr_own, allocV, splice, partV, buildV, bin_add, bin_sub, bin_mul, bin_and, bin_or, bin_xor, bin_andNot, bin_quo, bin_rem, bin_shl, bin_shr, bin_eql, bin_neq, bin_lss, bin_leq, bin_gtr, bin_geq, bin_bool, eqV_bool, bin_agg, eqV_agg, un_not, un_neg, un_xor, ext_tup, load_fp, load_same, load_ne, store_same, store_ne, box_agg, box_p, box_sl, box_ptr, box_fn, fill_nil, fill_p, fill_sl, fill_ptr, fill_fn, fill_esl, fill_agg, len_p, len_sl, len_esl, nc_ptr, nc_fp, nc_fn, nc_sl, nc_p, conv_int, mm_max, mm_min, fa_ptr, fa_fp, fd_agg, eqFieldsV, eqS, cells_agg, cells_p, cells_sl, cells_ptr, cells_fn, cells_nilp, cells_fp, tabs, TK.agg, Heap.set_same, Heap.set_ne, Heap.over2, Heap.over3, Heap.over4, Heap.set_set, Heap.set_none, and_imp', true_and, and_true, Bool.not_true, Bool.not_false, reduceCtorEq, true_implies, false_implies, implies_true, Option.some.injEq, forall_eq', Array.toList, List.map_cons, List.map_nil, List.append_nil, List.cons_append, List.nil_append, Bool.true_eq_false, Bool.false_eq_true, if_true, if_false, ite_true, ite_false, ↓reduceIte, List.length_cons, List.length_nil, List.length_map, List.length_append, Nat.reduceAdd, Nat.reduceLeDiff, Nat.reduceLT, Nat.reduceMul, Nat.reduceSub, Nat.le_refl, Nat.zero_le, Nat.zero_add, Nat.add_zero, Option.bind_some, Option.map_some, List.getElem?_cons_zero, List.getElem?_cons_succ, Option.isSome_some, Option.isSome_none, bndV, numV, sliceV_sl, sliceV_own, sliceV_nil, eI, eU, e8, eB, Int.toNat_natCast, List.getD_cons_succ, List.getD_cons_zero, List.set_cons_zero, List.set_cons_succ, List.take_succ_cons, List.take_zero, List.take_nil, List.drop_succ_cons, List.drop_zero, List.headD_cons, List.all_cons, List.all_nil, Bool.and_true, Bool.and_false, Bool.true_and, Bool.false_and, Bool.and_self, beq_self_eq_true, Bool.false_beq, Bool.true_beq, Bool.not_not, AV.isCell, decide_true, decide_false, le_refl_true, Int.reduceToNat, Int.reduceSub, Int.reduceAdd, Int.reduceNeg, Int.sub_zero, List.drop_zero, decide_eq_true_eq, decide_eq_false_iff_not, Bool.not_eq_true', Bool.not_eq_false', Bool.not_eq_true, Bool.not_eq_false, Nat.lt_irrefl, ne_eq, not_false_eq_true, not_true_eq_false])
  refine Pu.use (GoodLasso_impl s l h1 h2) ?_
  cases hg : good s l
  · (try simp (disch := (first | assumption | (apply Ne.symm; assumption))) only [condV_dec, condV_not, ↓condV_t, ↓condV_f, condV_b, condV_u, pickV_b, eqnil_sl, neqnil_sl, grdV_t, grdV_f, callF_fn, indexAddr_sl, indexAddr_own, allocV, splice, partV, buildV, bin_add, bin_sub, bin_mul, bin_and, bin_or, bin_xor, bin_andNot, bin_quo, bin_rem, bin_shl, bin_shr, bin_eql, bin_neq, bin_lss, bin_leq, bin_gtr, bin_geq, bin_bool, eqV_bool, bin_agg, eqV_agg, un_not, un_neg, un_xor, ext_tup, load_fp, load_same, load_ne, store_same, store_ne, box_agg, box_p, box_sl, box_ptr, box_fn, fill_nil, fill_p, fill_sl, fill_ptr, fill_fn, fill_esl, fill_agg, len_p, len_sl, len_esl, nc_ptr, nc_fp, nc_fn, nc_sl, nc_p, conv_int, mm_max, mm_min, fa_ptr, fa_fp, fd_agg, eqFieldsV, eqS, cells_agg, cells_p, cells_sl, cells_ptr, cells_fn, cells_nilp, cells_fp, tabs, TK.agg, Heap.set_same, Heap.set_ne, Heap.over2, Heap.over3, Heap.over4, Heap.set_set, Heap.set_none, and_imp', true_and, and_true, Bool.not_true, Bool.not_false, reduceCtorEq, true_implies, false_implies, implies_true, Option.some.injEq, forall_eq', Array.toList, List.map_cons, List.map_nil, List.append_nil, List.cons_append, List.nil_append, Bool.true_eq_false, Bool.false_eq_true, if_true, if_false, ite_true, ite_false, ↓reduceIte, List.length_cons, List.length_nil, List.length_map, List.length_append, Nat.reduceAdd, Nat.reduceLeDiff, Nat.reduceLT, Nat.reduceMul, Nat.reduceSub, Nat.le_refl, Nat.zero_le, Nat.zero_add, Nat.add_zero, Option.bind_some, Option.map_some, List.getElem?_cons_zero, List.getElem?_cons_succ, Option.isSome_some, Option.isSome_none, bndV, numV, sliceV_sl, sliceV_own, sliceV_nil, eI, eU, e8, eB, Int.toNat_natCast, List.getD_cons_succ, List.getD_cons_zero, List.set_cons_zero, List.set_cons_succ, List.take_succ_cons, List.take_zero, List.take_nil, List.drop_succ_cons, List.drop_zero, List.headD_cons, List.all_cons, List.all_nil, Bool.and_true, Bool.and_false, Bool.true_and, Bool.false_and, Bool.and_self, beq_self_eq_true, Bool.false_beq, Bool.true_beq, Bool.not_not, AV.isCell, decide_true, decide_false, le_refl_true, Int.reduceToNat, Int.reduceSub, Int.reduceAdd, Int.reduceNeg, Int.sub_zero, List.drop_zero, decide_eq_true_eq, decide_eq_false_iff_not, Bool.not_eq_true', Bool.not_eq_false', Bool.not_eq_true, Bool.not_eq_false, Nat.lt_irrefl, ne_eq, not_false_eq_true, not_true_eq_false])
    refine ⟨_, H, .trans (.val (v' := .tup [.agg [Is [], Is []], B false]) ?_) (.forget (Heap.le_setN (Heap.le_set hr) hr')), hbad hg⟩
    exact wk_tup ⟨wk_agg ⟨.nil, .nil, trivial⟩, .refl _, trivial⟩
  (try simp (disch := (first | assumption | (apply Ne.symm; assumption))) only [condV_dec, condV_not, ↓condV_t, ↓condV_f, condV_b, condV_u, pickV_b, eqnil_sl, neqnil_sl, grdV_t, grdV_f, callF_fn, indexAddr_sl, indexAddr_own, allocV, splice, partV, buildV, bin_add, bin_sub, bin_mul, bin_and, bin_or, bin_xor, bin_andNot, bin_quo, bin_rem, bin_shl, bin_shr, bin_eql, bin_neq, bin_lss, bin_leq, bin_gtr, bin_geq, bin_bool, eqV_bool, bin_agg, eqV_agg, un_not, un_neg, un_xor, ext_tup, load_fp, load_same, load_ne, store_same, store_ne, box_agg, box_p, box_sl, box_ptr, box_fn, fill_nil, fill_p, fill_sl, fill_ptr, fill_fn, fill_esl, fill_agg, len_p, len_sl, len_esl, nc_ptr, nc_fp, nc_fn, nc_sl, nc_p, conv_int, mm_max, mm_min, fa_ptr, fa_fp, fd_agg, eqFieldsV, eqS, cells_agg, cells_p, cells_sl, cells_ptr, cells_fn, cells_nilp, cells_fp, tabs, TK.agg, Heap.set_same, Heap.set_ne, Heap.over2, Heap.over3, Heap.over4, Heap.set_set, Heap.set_none, and_imp', true_and, and_true, Bool.not_true, Bool.not_false, reduceCtorEq, true_implies, false_implies, implies_true, Option.some.injEq, forall_eq', Array.toList, List.map_cons, List.map_nil, List.append_nil, List.cons_append, List.nil_append, Bool.true_eq_false, Bool.false_eq_true, if_true, if_false, ite_true, ite_false, ↓reduceIte, List.length_cons, List.length_nil, List.length_map, List.length_append, Nat.reduceAdd, Nat.reduceLeDiff, Nat.reduceLT, Nat.reduceMul, Nat.reduceSub, Nat.le_refl, Nat.zero_le, Nat.zero_add, Nat.add_zero, Option.bind_some, Option.map_some, List.getElem?_cons_zero, List.getElem?_cons_succ, Option.isSome_some, Option.isSome_none, bndV, numV, sliceV_sl, sliceV_own, sliceV_nil, eI, eU, e8, eB, Int.toNat_natCast, List.getD_cons_succ, List.getD_cons_zero, List.set_cons_zero, List.set_cons_succ, List.take_succ_cons, List.take_zero, List.take_nil, List.drop_succ_cons, List.drop_zero, List.headD_cons, List.all_cons, List.all_nil, Bool.and_true, Bool.and_false, Bool.true_and, Bool.false_and, Bool.and_self, beq_self_eq_true, Bool.false_beq, Bool.true_beq, Bool.not_not, AV.isCell, decide_true, decide_false, le_refl_true, Int.reduceToNat, Int.reduceSub, Int.reduceAdd, Int.reduceNeg, Int.sub_zero, List.drop_zero, decide_eq_true_eq, decide_eq_false_iff_not, Bool.not_eq_true', Bool.not_eq_false', Bool.not_eq_true, Bool.not_eq_false, Nat.lt_irrefl, ne_eq, not_false_eq_true, not_true_eq_false])
  obtain ⟨g1, g2, g3, _, _⟩ := good_pos hg
  refine L13_0_rule (1 : Nat) (fun i => I i) (fun _ => (H.set r [Is s, Is l]).set r' [AV.p PV.nil, AV.p PV.nil]) (fun i => 1 ≤ i ∧ i ≤ l.length ∧ ∀ p', 1 ≤ p' → p' < i → ¬ (l.length % p' = 0 ∧ l.drop p' = l.take (l.length - p'))) (fun i => l.length - i)
    ⟨⟨by omega, g2, fun _ h3 h4 => by omega⟩, .refl _, Heap.le_refl _⟩ ?_
  rintro p ⟨hp1, hp2, hp⟩
  have hpw : IntKind.i64.wrap (↑p + 1) = ((p + 1 : Nat) : Int) := i64_id (by omega) (by omega)
  have hlp : IntKind.i64.wrap (↑l.length - ↑p) = ((l.length - p : Nat) : Int) := by rw [i64_id (by omega) (by omega)]; omega
  have hmod : (↑l.length : Int).tmod ↑p = ((l.length % p : Nat) : Int) := by rw [← Int.ofNat_tmod]
  (try simp (disch := (first | assumption | (apply Ne.symm; assumption))) only [condV_dec, condV_not, ↓condV_t, ↓condV_f, condV_b, condV_u, pickV_b, eqnil_sl, neqnil_sl, grdV_t, grdV_f, callF_fn, indexAddr_sl, indexAddr_own, allocV, splice, partV, buildV, bin_add, bin_sub, bin_mul, bin_and, bin_or, bin_xor, bin_andNot, bin_quo, bin_rem, bin_shl, bin_shr, bin_eql, bin_neq, bin_lss, bin_leq, bin_gtr, bin_geq, bin_bool, eqV_bool, bin_agg, eqV_agg, un_not, un_neg, un_xor, ext_tup, load_fp, load_same, load_ne, store_same, store_ne, box_agg, box_p, box_sl, box_ptr, box_fn, fill_nil, fill_p, fill_sl, fill_ptr, fill_fn, fill_esl, fill_agg, len_p, len_sl, len_esl, nc_ptr, nc_fp, nc_fn, nc_sl, nc_p, conv_int, mm_max, mm_min, fa_ptr, fa_fp, fd_agg, eqFieldsV, eqS, cells_agg, cells_p, cells_sl, cells_ptr, cells_fn, cells_nilp, cells_fp, tabs, TK.agg, Heap.set_same, Heap.set_ne, Heap.over2, Heap.over3, Heap.over4, Heap.set_set, Heap.set_none, and_imp', true_and, and_true, Bool.not_true, Bool.not_false, reduceCtorEq, true_implies, false_implies, implies_true, Option.some.injEq, forall_eq', Array.toList, List.map_cons, List.map_nil, List.append_nil, List.cons_append, List.nil_append, Bool.true_eq_false, Bool.false_eq_true, if_true, if_false, ite_true, ite_false, ↓reduceIte, List.length_cons, List.length_nil, List.length_map, List.length_append, Nat.reduceAdd, Nat.reduceLeDiff, Nat.reduceLT, Nat.reduceMul, Nat.reduceSub, Nat.le_refl, Nat.zero_le, Nat.zero_add, Nat.add_zero, Option.bind_some, Option.map_some, List.getElem?_cons_zero, List.getElem?_cons_succ, Option.isSome_some, Option.isSome_none, bndV, numV, sliceV_sl, sliceV_own, sliceV_nil, eI, eU, e8, eB, Int.toNat_natCast, List.getD_cons_succ, List.getD_cons_zero, List.set_cons_zero, List.set_cons_succ, List.take_succ_cons, List.take_zero, List.take_nil, List.drop_succ_cons, List.drop_zero, List.headD_cons, List.all_cons, List.all_nil, Bool.and_true, Bool.and_false, Bool.true_and, Bool.false_and, Bool.and_self, beq_self_eq_true, Bool.false_beq, Bool.true_beq, Bool.not_not, AV.isCell, decide_true, decide_false, le_refl_true, Int.reduceToNat, Int.reduceSub, Int.reduceAdd, Int.reduceNeg, Int.sub_zero, List.drop_zero, decide_eq_true_eq, decide_eq_false_iff_not, Bool.not_eq_true', Bool.not_eq_false', Bool.not_eq_true, Bool.not_eq_false, Nat.lt_irrefl, ne_eq, not_false_eq_true, not_true_eq_false, B13_0, hmod, hlp, hpw])
  clear hlp hpw hmod
  have hsz : ∀ e ∈ List.map eI l, e.length = 1 := szI l
  have next : ¬ (l.length % p = 0 ∧ l.drop p = l.take (l.length - p)) → ∃ s', (1 ≤ s' ∧ s' ≤ l.length ∧ ∀ p', 1 ≤ p' → p' < s' → ¬(l.length % p' = 0 ∧ List.drop p' l = List.take (l.length - p') l)) ∧
      l.length - s' < l.length - p ∧ (AV.p (PV.int IntKind.i64 ↑(p + 1))).wk (I ↑s') := by
    intro hn
    have hpl : p ≠ l.length := by
      rintro rfl
      exact hn ⟨Nat.mod_self _, by rw [List.drop_length]; simp⟩
    have hlt : p < l.length := Nat.lt_of_le_of_ne hp2 hpl
    refine ⟨p + 1, ⟨Nat.succ_pos p, hlt, fun p' h3 h4 => ?_⟩, Nat.sub_lt_sub_left hlt (Nat.lt_succ_self p), .refl _⟩
    rcases Nat.lt_succ_iff_lt_or_eq.1 h4 with h5 | rfl
    · exact hp p' h3 h5
    · exact hn
  refine ⟨by omega, fun h3 => next (fun h4 => h3 (by rw [h4.1]; rfl)), fun h3 => ⟨by omega, by omega, by omega, hsz, by omega, by omega, by omega, hsz, ?_⟩⟩
  have e1 : List.take (↑l.length - (p : Int)).toNat (List.drop p l) = l.drop p := List.take_of_length_le (by rw [List.length_drop]; omega)
  rw [e1]
  refine Pu.use (same_68 _ _ (by rw [List.length_drop]; omega) (by rw [List.length_take]; omega)) ?_
  by_cases heq : l.drop p = l.take (l.length - p)
  case neg =>
    simp only [heq, decide_false]
    (try simp (disch := (first | assumption | (apply Ne.symm; assumption))) only [condV_dec, condV_not, ↓condV_t, ↓condV_f, condV_b, condV_u, pickV_b, eqnil_sl, neqnil_sl, grdV_t, grdV_f, callF_fn, indexAddr_sl, indexAddr_own, allocV, splice, partV, buildV, bin_add, bin_sub, bin_mul, bin_and, bin_or, bin_xor, bin_andNot, bin_quo, bin_rem, bin_shl, bin_shr, bin_eql, bin_neq, bin_lss, bin_leq, bin_gtr, bin_geq, bin_bool, eqV_bool, bin_agg, eqV_agg, un_not, un_neg, un_xor, ext_tup, load_fp, load_same, load_ne, store_same, store_ne, box_agg, box_p, box_sl, box_ptr, box_fn, fill_nil, fill_p, fill_sl, fill_ptr, fill_fn, fill_esl, fill_agg, len_p, len_sl, len_esl, nc_ptr, nc_fp, nc_fn, nc_sl, nc_p, conv_int, mm_max, mm_min, fa_ptr, fa_fp, fd_agg, eqFieldsV, eqS, cells_agg, cells_p, cells_sl, cells_ptr, cells_fn, cells_nilp, cells_fp, tabs, TK.agg, Heap.set_same, Heap.set_ne, Heap.over2, Heap.over3, Heap.over4, Heap.set_set, Heap.set_none, and_imp', true_and, and_true, Bool.not_true, Bool.not_false, reduceCtorEq, true_implies, false_implies, implies_true, Option.some.injEq, forall_eq', Array.toList, List.map_cons, List.map_nil, List.append_nil, List.cons_append, List.nil_append, Bool.true_eq_false, Bool.false_eq_true, if_true, if_false, ite_true, ite_false, ↓reduceIte, List.length_cons, List.length_nil, List.length_map, List.length_append, Nat.reduceAdd, Nat.reduceLeDiff, Nat.reduceLT, Nat.reduceMul, Nat.reduceSub, Nat.le_refl, Nat.zero_le, Nat.zero_add, Nat.add_zero, Option.bind_some, Option.map_some, List.getElem?_cons_zero, List.getElem?_cons_succ, Option.isSome_some, Option.isSome_none, bndV, numV, sliceV_sl, sliceV_own, sliceV_nil, eI, eU, e8, eB, Int.toNat_natCast, List.getD_cons_succ, List.getD_cons_zero, List.set_cons_zero, List.set_cons_succ, List.take_succ_cons, List.take_zero, List.take_nil, List.drop_succ_cons, List.drop_zero, List.headD_cons, List.all_cons, List.all_nil, Bool.and_true, Bool.and_false, Bool.true_and, Bool.false_and, Bool.and_self, beq_self_eq_true, Bool.false_beq, Bool.true_beq, Bool.not_not, AV.isCell, decide_true, decide_false, le_refl_true, Int.reduceToNat, Int.reduceSub, Int.reduceAdd, Int.reduceNeg, Int.sub_zero, List.drop_zero, decide_eq_true_eq, decide_eq_false_iff_not, Bool.not_eq_true', Bool.not_eq_false', Bool.not_eq_true, Bool.not_eq_false, Nat.lt_irrefl, ne_eq, not_false_eq_true, not_true_eq_false])
    exact next (fun h4 => heq h4.2)
  simp only [heq, decide_true]
  (try simp (disch := (first | assumption | (apply Ne.symm; assumption))) only [condV_dec, condV_not, ↓condV_t, ↓condV_f, condV_b, condV_u, pickV_b, eqnil_sl, neqnil_sl, grdV_t, grdV_f, callF_fn, indexAddr_sl, indexAddr_own, allocV, splice, partV, buildV, bin_add, bin_sub, bin_mul, bin_and, bin_or, bin_xor, bin_andNot, bin_quo, bin_rem, bin_shl, bin_shr, bin_eql, bin_neq, bin_lss, bin_leq, bin_gtr, bin_geq, bin_bool, eqV_bool, bin_agg, eqV_agg, un_not, un_neg, un_xor, ext_tup, load_fp, load_same, load_ne, store_same, store_ne, box_agg, box_p, box_sl, box_ptr, box_fn, fill_nil, fill_p, fill_sl, fill_ptr, fill_fn, fill_esl, fill_agg, len_p, len_sl, len_esl, nc_ptr, nc_fp, nc_fn, nc_sl, nc_p, conv_int, mm_max, mm_min, fa_ptr, fa_fp, fd_agg, eqFieldsV, eqS, cells_agg, cells_p, cells_sl, cells_ptr, cells_fn, cells_nilp, cells_fp, tabs, TK.agg, Heap.set_same, Heap.set_ne, Heap.over2, Heap.over3, Heap.over4, Heap.set_set, Heap.set_none, and_imp', true_and, and_true, Bool.not_true, Bool.not_false, reduceCtorEq, true_implies, false_implies, implies_true, Option.some.injEq, forall_eq', Array.toList, List.map_cons, List.map_nil, List.append_nil, List.cons_append, List.nil_append, Bool.true_eq_false, Bool.false_eq_true, if_true, if_false, ite_true, ite_false, ↓reduceIte, List.length_cons, List.length_nil, List.length_map, List.length_append, Nat.reduceAdd, Nat.reduceLeDiff, Nat.reduceLT, Nat.reduceMul, Nat.reduceSub, Nat.le_refl, Nat.zero_le, Nat.zero_add, Nat.add_zero, Option.bind_some, Option.map_some, List.getElem?_cons_zero, List.getElem?_cons_succ, Option.isSome_some, Option.isSome_none, bndV, numV, sliceV_sl, sliceV_own, sliceV_nil, eI, eU, e8, eB, Int.toNat_natCast, List.getD_cons_succ, List.getD_cons_zero, List.set_cons_zero, List.set_cons_succ, List.take_succ_cons, List.take_zero, List.take_nil, List.drop_succ_cons, List.drop_zero, List.headD_cons, List.all_cons, List.all_nil, Bool.and_true, Bool.and_false, Bool.true_and, Bool.false_and, Bool.and_self, beq_self_eq_true, Bool.false_beq, Bool.true_beq, Bool.not_not, AV.isCell, decide_true, decide_false, le_refl_true, Int.reduceToNat, Int.reduceSub, Int.reduceAdd, Int.reduceNeg, Int.sub_zero, List.drop_zero, decide_eq_true_eq, decide_eq_false_iff_not, Bool.not_eq_true', Bool.not_eq_false', Bool.not_eq_true, Bool.not_eq_false, Nat.lt_irrefl, ne_eq, not_false_eq_true, not_true_eq_false])
  have hmodp : l.length % p = 0 := by omega
  -- the least period
  have hper := (loop_per (s := s) hp1 hp2 hmodp).1 heq
  have hmin : ∀ p', 1 ≤ p' → Per s l s.length p' → p ≤ p' := by
    intro p' h4 h5
    -- the least of all periods divides the loop's length
    have key : ∀ n p', p' ≤ n → 1 ≤ p' → Per s l s.length p' → p ≤ p' := by
      intro n
      induction n with
      | zero => intro p' h6 h7; omega
      | succ n ih =>
        intro p' h6 h7 h8
        by_cases hm : ∀ p2, 1 ≤ p2 → Per s l s.length p2 → p' ≤ p2
        · have hd := least_dvd h7 h8 hm
          have hle : p' ≤ l.length := hm l.length g2 (per_self s l)
          refine Nat.le_of_not_lt fun h9 => hp p' h7 h9 ⟨hd, (loop_per h7 hle hd).2 h8⟩
        · obtain ⟨p2, h9⟩ := Classical.not_forall.1 hm
          obtain ⟨h10, h11⟩ := Classical.not_imp.1 h9
          obtain ⟨h12, h13⟩ := Classical.not_imp.1 h11
          have := ih p2 (by omega) h10 h12
          omega
    exact key p' p' (Nat.le_refl _) h4 h5
  refine ⟨by omega, by omega, by omega, hsz, ?_⟩
  refine Clone_own s h1 fun q1 hq1 H1 hH1 => ?_
  simp only [Heap.set_none] at hq1
  obtain ⟨a1, a2, a3⟩ := hq1
  have l1 : H1 r = some [Is s, Is l] := hH1 _ _ (by simp [Heap.set, Ne.symm a2, Ne.symm a1, Ne.symm hr1])
  (try simp (disch := (first | assumption | (apply Ne.symm; assumption))) only [condV_dec, condV_not, ↓condV_t, ↓condV_f, condV_b, condV_u, pickV_b, eqnil_sl, neqnil_sl, grdV_t, grdV_f, callF_fn, indexAddr_sl, indexAddr_own, allocV, splice, partV, buildV, bin_add, bin_sub, bin_mul, bin_and, bin_or, bin_xor, bin_andNot, bin_quo, bin_rem, bin_shl, bin_shr, bin_eql, bin_neq, bin_lss, bin_leq, bin_gtr, bin_geq, bin_bool, eqV_bool, bin_agg, eqV_agg, un_not, un_neg, un_xor, ext_tup, load_fp, load_same, load_ne, store_same, store_ne, box_agg, box_p, box_sl, box_ptr, box_fn, fill_nil, fill_p, fill_sl, fill_ptr, fill_fn, fill_esl, fill_agg, len_p, len_sl, len_esl, nc_ptr, nc_fp, nc_fn, nc_sl, nc_p, conv_int, mm_max, mm_min, fa_ptr, fa_fp, fd_agg, eqFieldsV, eqS, cells_agg, cells_p, cells_sl, cells_ptr, cells_fn, cells_nilp, cells_fp, tabs, TK.agg, Heap.set_same, Heap.set_ne, Heap.over2, Heap.over3, Heap.over4, Heap.set_set, Heap.set_none, and_imp', true_and, and_true, Bool.not_true, Bool.not_false, reduceCtorEq, true_implies, false_implies, implies_true, Option.some.injEq, forall_eq', Array.toList, List.map_cons, List.map_nil, List.append_nil, List.cons_append, List.nil_append, Bool.true_eq_false, Bool.false_eq_true, if_true, if_false, ite_true, ite_false, ↓reduceIte, List.length_cons, List.length_nil, List.length_map, List.length_append, Nat.reduceAdd, Nat.reduceLeDiff, Nat.reduceLT, Nat.reduceMul, Nat.reduceSub, Nat.le_refl, Nat.zero_le, Nat.zero_add, Nat.add_zero, Option.bind_some, Option.map_some, List.getElem?_cons_zero, List.getElem?_cons_succ, Option.isSome_some, Option.isSome_none, bndV, numV, sliceV_sl, sliceV_own, sliceV_nil, eI, eU, e8, eB, Int.toNat_natCast, List.getD_cons_succ, List.getD_cons_zero, List.set_cons_zero, List.set_cons_succ, List.take_succ_cons, List.take_zero, List.take_nil, List.drop_succ_cons, List.drop_zero, List.headD_cons, List.all_cons, List.all_nil, Bool.and_true, Bool.and_false, Bool.true_and, Bool.false_and, Bool.and_self, beq_self_eq_true, Bool.false_beq, Bool.true_beq, Bool.not_not, AV.isCell, decide_true, decide_false, le_refl_true, Int.reduceToNat, Int.reduceSub, Int.reduceAdd, Int.reduceNeg, Int.sub_zero, List.drop_zero, decide_eq_true_eq, decide_eq_false_iff_not, Bool.not_eq_true', Bool.not_eq_false', Bool.not_eq_true, Bool.not_eq_false, Nat.lt_irrefl, ne_eq, not_false_eq_true, not_true_eq_false, load_at l1])
  refine Clone_own (l.take p) (by rw [List.length_take]; omega) fun q2 hq2 H2 hH2 => ?_
  have b0 : q2 ≠ q1 := by
    rintro rfl
    rw [hH1 q2 _ (Heap.set_same _ _ _)] at hq2; cases hq2
  have b1 : q2 ≠ r := by
    rintro rfl
    rw [l1] at hq2; cases hq2
  have b2 : q2 ≠ r' := by
    rintro rfl
    rw [hH1 q2 [AV.p PV.nil, AV.p PV.nil] (by simp [Heap.set, Ne.symm a1])] at hq2; cases hq2
  have b3 : H q2 = none := by
    cases hh : H q2 with
    | none => rfl
    | some b => rw [hH1 q2 b (by simp [Heap.set, b0, b1, b2, hh])] at hq2; cases hq2
  have hfl : l.take p = firstN s l s.length p := by
    apply List.ext_getElem (by simp [firstN_len]; omega)
    intro i h3 h4
    rw [firstN_len] at h4
    have : i < l.length := by omega
    simp [firstN, letAt, Nat.mod_eq_of_lt this, List.getD, this]
    intro h; omega
  rw [hfl] at hH2 ⊢
  refine L13_1_rule (s.length, q2) (fun x => .sl q1 1 0 x.1) (fun x => own x.2 1 ((firstN s l x.1 p).map eI))
    (fun x => (((H.set r [Is s, Is l]).set r' [AV.p PV.nil, AV.p PV.nil]).set q1 (s.map fun n => I n)).set x.2 (cells ((firstN s l x.1 p).map eI)))
    (fun x => x.1 ≤ s.length ∧ Per s l x.1 p ∧ x.2 ≠ q1 ∧ x.2 ≠ r ∧ x.2 ≠ r' ∧ H x.2 = none) (fun x => x.1) ⟨⟨Nat.le_refl _, hper, b0, b1, b2, b3⟩, wk_of (by simp), .refl _, ?_⟩ ?_
  · refine Heap.le_trans (Heap.set_le ?_) hH2
    rw [← cells_I]; exact hH1
  rintro ⟨t, q⟩ ⟨ht, hpt, c0, c1, c2, c3⟩
  dsimp only at ht hpt c0 c1 c2 c3
  have hs1 : t ≠ 0 → IntKind.i64.wrap (↑t - 1) = ((t - 1 : Nat) : Int) := fun h => by rw [i64_id (by omega) (by omega)]; omega
  have hp1' : IntKind.i64.wrap (↑p - 1) = ((p - 1 : Nat) : Int) := by rw [i64_id (by omega) (by omega)]; omega
  have c0' := Ne.symm c0
  -- the end
  have fin : (∀ t', t' ≤ s.length → Per s l t' p → t ≤ t') → wkK K (.tup [.agg [.sl q1 1 0 t, .sl q 1 0 p], .p (.bool true)])
      ((((H.set r [Is s, Is l]).set r' [AV.sl q1 1 0 t, .sl q 1 0 p]).set q1 (s.map fun n => I n)).set q (cells ((firstN s l t p).map eI))) := by
    intro hT
    have hL : IsLeast s l t p := ⟨hp1, ht, hpt, fun t' p' h4 h5 h6 => hmin p' h4 (h6.later h5), hT⟩
    have hft : (s.take t) = firstN s l 0 t := by
      apply List.ext_getElem (by simp [firstN_len]; omega)
      intro i h3 h4
      rw [firstN_len] at h4
      simp [firstN, letAt, show i < s.length by omega, List.getD]
    refine ⟨_, H, ?_, hgood hg t p hL⟩
    generalize hG : (((H.set r [Is s, Is l]).set r' [AV.sl q1 1 0 t, .sl q 1 0 p]).set q1 (s.map fun n => I n)).set q (cells ((firstN s l t p).map eI)) = G
    have g1' : G q1 = some (s.map fun n => I n) := by rw [← hG]; simp [Heap.set, c0']
    have g2' : G q = some (cells ((firstN s l t p).map eI)) := by rw [← hG]; simp [Heap.set]
    refine .trans (.cell (cs' := cells ((firstN s l 0 t).map eI)) g1' ?_ ?_) ?_
    · rw [cells_I, List.length_map, List.length_map, firstN_len]; exact ht
    · intro i a a' ha ha'
      rw [cells_I, ← hft] at ha'
      rw [List.map_take, List.getElem?_take] at ha'
      split at ha'
      · rw [ha] at ha'; cases ha'; exact .refl _
      · cases ha'
    · have := Wk.frz2 (q1 := q1) (q2 := q) (es1 := (firstN s l 0 t).map eI) (es2 := (firstN s l t p).map eI) (w := .p (.bool true)) (G := G.set q1 (cells ((firstN s l 0 t).map eI)))
        (Heap.set_same _ _ _) (by rw [Heap.set_other c0]; exact g2') (Ne.symm c0) (szI _) (szI _)
      simp only [own, List.length_map, firstN_len] at this
      refine .trans this (.forget ?_)
      rw [← hG]
      intro y b hy
      have y1 : y ≠ r := fun e => by rw [e, hr] at hy; cases hy
      have y2 : y ≠ r' := fun e => by rw [e, hr'] at hy; cases hy
      have y3 : y ≠ q1 := fun e => by rw [e, a3] at hy; cases hy
      have y4 : y ≠ q := fun e => by rw [e, c3] at hy; cases hy
      simp [Heap.set, Heap.del, y1, y2, y3, y4, hy]
  have hcell : ∀ xs : List Int, (cells (xs.map eI)).all AV.isCell = true := fun xs => cells_cell _
  by_cases ht0 : t = 0
  · subst ht0
    (try simp (disch := (first | assumption | (apply Ne.symm; assumption))) only [condV_dec, condV_not, ↓condV_t, ↓condV_f, condV_b, condV_u, pickV_b, eqnil_sl, neqnil_sl, grdV_t, grdV_f, callF_fn, indexAddr_sl, indexAddr_own, allocV, splice, partV, buildV, bin_add, bin_sub, bin_mul, bin_and, bin_or, bin_xor, bin_andNot, bin_quo, bin_rem, bin_shl, bin_shr, bin_eql, bin_neq, bin_lss, bin_leq, bin_gtr, bin_geq, bin_bool, eqV_bool, bin_agg, eqV_agg, un_not, un_neg, un_xor, ext_tup, load_fp, load_same, load_ne, store_same, store_ne, box_agg, box_p, box_sl, box_ptr, box_fn, fill_nil, fill_p, fill_sl, fill_ptr, fill_fn, fill_esl, fill_agg, len_p, len_sl, len_esl, nc_ptr, nc_fp, nc_fn, nc_sl, nc_p, conv_int, mm_max, mm_min, fa_ptr, fa_fp, fd_agg, eqFieldsV, eqS, cells_agg, cells_p, cells_sl, cells_ptr, cells_fn, cells_nilp, cells_fp, tabs, TK.agg, Heap.set_same, Heap.set_ne, Heap.over2, Heap.over3, Heap.over4, Heap.set_set, Heap.set_none, and_imp', true_and, and_true, Bool.not_true, Bool.not_false, reduceCtorEq, true_implies, false_implies, implies_true, Option.some.injEq, forall_eq', Array.toList, List.map_cons, List.map_nil, List.append_nil, List.cons_append, List.nil_append, Bool.true_eq_false, Bool.false_eq_true, if_true, if_false, ite_true, ite_false, ↓reduceIte, List.length_cons, List.length_nil, List.length_map, List.length_append, Nat.reduceAdd, Nat.reduceLeDiff, Nat.reduceLT, Nat.reduceMul, Nat.reduceSub, Nat.le_refl, Nat.zero_le, Nat.zero_add, Nat.add_zero, Option.bind_some, Option.map_some, List.getElem?_cons_zero, List.getElem?_cons_succ, Option.isSome_some, Option.isSome_none, bndV, numV, sliceV_sl, sliceV_own, sliceV_nil, eI, eU, e8, eB, Int.toNat_natCast, List.getD_cons_succ, List.getD_cons_zero, List.set_cons_zero, List.set_cons_succ, List.take_succ_cons, List.take_zero, List.take_nil, List.drop_succ_cons, List.drop_zero, List.headD_cons, List.all_cons, List.all_nil, Bool.and_true, Bool.and_false, Bool.true_and, Bool.false_and, Bool.and_self, beq_self_eq_true, Bool.false_beq, Bool.true_beq, Bool.not_not, AV.isCell, decide_true, decide_false, le_refl_true, Int.reduceToNat, Int.reduceSub, Int.reduceAdd, Int.reduceNeg, Int.sub_zero, List.drop_zero, decide_eq_true_eq, decide_eq_false_iff_not, Bool.not_eq_true', Bool.not_eq_false', Bool.not_eq_true, Bool.not_eq_false, Nat.lt_irrefl, ne_eq, not_false_eq_true, not_true_eq_false, B13_1, Int.ofNat_zero, Int.lt_irrefl, firstN_len])
    exact fin fun t' _ _ => Nat.zero_le _
  · have e1 := hs1 ht0
    have hpos : (0 : Int) < t := by omega
    (try simp (disch := (first | assumption | (apply Ne.symm; assumption))) only [condV_dec, condV_not, ↓condV_t, ↓condV_f, condV_b, condV_u, pickV_b, eqnil_sl, neqnil_sl, grdV_t, grdV_f, callF_fn, indexAddr_sl, indexAddr_own, allocV, splice, partV, buildV, bin_add, bin_sub, bin_mul, bin_and, bin_or, bin_xor, bin_andNot, bin_quo, bin_rem, bin_shl, bin_shr, bin_eql, bin_neq, bin_lss, bin_leq, bin_gtr, bin_geq, bin_bool, eqV_bool, bin_agg, eqV_agg, un_not, un_neg, un_xor, ext_tup, load_fp, load_same, load_ne, store_same, store_ne, box_agg, box_p, box_sl, box_ptr, box_fn, fill_nil, fill_p, fill_sl, fill_ptr, fill_fn, fill_esl, fill_agg, len_p, len_sl, len_esl, nc_ptr, nc_fp, nc_fn, nc_sl, nc_p, conv_int, mm_max, mm_min, fa_ptr, fa_fp, fd_agg, eqFieldsV, eqS, cells_agg, cells_p, cells_sl, cells_ptr, cells_fn, cells_nilp, cells_fp, tabs, TK.agg, Heap.set_same, Heap.set_ne, Heap.over2, Heap.over3, Heap.over4, Heap.set_set, Heap.set_none, and_imp', true_and, and_true, Bool.not_true, Bool.not_false, reduceCtorEq, true_implies, false_implies, implies_true, Option.some.injEq, forall_eq', Array.toList, List.map_cons, List.map_nil, List.append_nil, List.cons_append, List.nil_append, Bool.true_eq_false, Bool.false_eq_true, if_true, if_false, ite_true, ite_false, ↓reduceIte, List.length_cons, List.length_nil, List.length_map, List.length_append, Nat.reduceAdd, Nat.reduceLeDiff, Nat.reduceLT, Nat.reduceMul, Nat.reduceSub, Nat.le_refl, Nat.zero_le, Nat.zero_add, Nat.add_zero, Option.bind_some, Option.map_some, List.getElem?_cons_zero, List.getElem?_cons_succ, Option.isSome_some, Option.isSome_none, bndV, numV, sliceV_sl, sliceV_own, sliceV_nil, eI, eU, e8, eB, Int.toNat_natCast, List.getD_cons_succ, List.getD_cons_zero, List.set_cons_zero, List.set_cons_succ, List.take_succ_cons, List.take_zero, List.take_nil, List.drop_succ_cons, List.drop_zero, List.headD_cons, List.all_cons, List.all_nil, Bool.and_true, Bool.and_false, Bool.true_and, Bool.false_and, Bool.and_self, beq_self_eq_true, Bool.false_beq, Bool.true_beq, Bool.not_not, AV.isCell, decide_true, decide_false, le_refl_true, Int.reduceToNat, Int.reduceSub, Int.reduceAdd, Int.reduceNeg, Int.sub_zero, List.drop_zero, decide_eq_true_eq, decide_eq_false_iff_not, Bool.not_eq_true', Bool.not_eq_false', Bool.not_eq_true, Bool.not_eq_false, Nat.lt_irrefl, ne_eq, not_false_eq_true, not_true_eq_false, B13_1, firstN_len, e1, hp1', hpos, List.length_map])
    have k1 : (cells ((firstN s l t p).map eI)).length = p := by rw [cells_I, List.length_map, firstN_len]
    have k2 : s.getD (t - 1) 0 = letAt s l (t - 1) := by simp [letAt, show t - 1 < s.length by omega]
    have k3 : (firstN s l t p).getD (p - 1) 0 = letAt s l (t - 1 + p) := by rw [firstN_get (by omega)]; congr 1; omega
    rw [cells_I, get_I (by omega), get_I (by rw [firstN_len]; omega), k2, k3, ← cells_I]
    refine ⟨by omega, by omega, by omega, by omega, by omega, by rw [k1]; omega, ?_⟩
    (try simp (disch := (first | assumption | (apply Ne.symm; assumption))) only [condV_dec, condV_not, ↓condV_t, ↓condV_f, condV_b, condV_u, pickV_b, eqnil_sl, neqnil_sl, grdV_t, grdV_f, callF_fn, indexAddr_sl, indexAddr_own, allocV, splice, partV, buildV, bin_add, bin_sub, bin_mul, bin_and, bin_or, bin_xor, bin_andNot, bin_quo, bin_rem, bin_shl, bin_shr, bin_eql, bin_neq, bin_lss, bin_leq, bin_gtr, bin_geq, bin_bool, eqV_bool, bin_agg, eqV_agg, un_not, un_neg, un_xor, ext_tup, load_fp, load_same, load_ne, store_same, store_ne, box_agg, box_p, box_sl, box_ptr, box_fn, fill_nil, fill_p, fill_sl, fill_ptr, fill_fn, fill_esl, fill_agg, len_p, len_sl, len_esl, nc_ptr, nc_fp, nc_fn, nc_sl, nc_p, conv_int, mm_max, mm_min, fa_ptr, fa_fp, fd_agg, eqFieldsV, eqS, cells_agg, cells_p, cells_sl, cells_ptr, cells_fn, cells_nilp, cells_fp, tabs, TK.agg, Heap.set_same, Heap.set_ne, Heap.over2, Heap.over3, Heap.over4, Heap.set_set, Heap.set_none, and_imp', true_and, and_true, Bool.not_true, Bool.not_false, reduceCtorEq, true_implies, false_implies, implies_true, Option.some.injEq, forall_eq', Array.toList, List.map_cons, List.map_nil, List.append_nil, List.cons_append, List.nil_append, Bool.true_eq_false, Bool.false_eq_true, if_true, if_false, ite_true, ite_false, ↓reduceIte, List.length_cons, List.length_nil, List.length_map, List.length_append, Nat.reduceAdd, Nat.reduceLeDiff, Nat.reduceLT, Nat.reduceMul, Nat.reduceSub, Nat.le_refl, Nat.zero_le, Nat.zero_add, Nat.add_zero, Option.bind_some, Option.map_some, List.getElem?_cons_zero, List.getElem?_cons_succ, Option.isSome_some, Option.isSome_none, bndV, numV, sliceV_sl, sliceV_own, sliceV_nil, eI, eU, e8, eB, Int.toNat_natCast, List.getD_cons_succ, List.getD_cons_zero, List.set_cons_zero, List.set_cons_succ, List.take_succ_cons, List.take_zero, List.take_nil, List.drop_succ_cons, List.drop_zero, List.headD_cons, List.all_cons, List.all_nil, Bool.and_true, Bool.and_false, Bool.true_and, Bool.false_and, Bool.and_self, beq_self_eq_true, Bool.false_beq, Bool.true_beq, Bool.not_not, AV.isCell, decide_true, decide_false, le_refl_true, Int.reduceToNat, Int.reduceSub, Int.reduceAdd, Int.reduceNeg, Int.sub_zero, List.drop_zero, decide_eq_true_eq, decide_eq_false_iff_not, Bool.not_eq_true', Bool.not_eq_false', Bool.not_eq_true, Bool.not_eq_false, Nat.lt_irrefl, ne_eq, not_false_eq_true, not_true_eq_false])
    refine ⟨fun heq => ?_, fun hne => ?_⟩
    · refine ⟨by omega, by omega, by omega, by omega, by omega, by omega, by omega, by omega, by omega, ?_⟩
      have e2 : (↑p - ↑(p - 1) : Int).toNat = 1 := by omega
      rw [e2]
      refine app_parts (cs := cells ((firstN s l t p).map eI)) tab_24 rfl tab_3 rfl (by decide) (Heap.set_same _ _ _) (hcell _) (by rw [k1]; omega) (by rw [k1]; omega) (by omega) fun q' hq' => ?_
      simp only [Heap.set_none] at hq'
      obtain ⟨d1, d2, d3, d4, d5⟩ := hq'
      have e3 : List.take 1 (List.drop ((p - 1) * 1) (cells ((firstN s l t p).map eI))) ++ List.take (p - 1) (List.drop 0 (cells ((firstN s l t p).map eI))) = cells ((firstN s l (t - 1) p).map eI) := by
        rw [cells_I, cells_I, Nat.mul_one, List.drop_zero, ← List.map_drop, ← List.map_take, ← List.map_take, ← List.map_append]
        congr 1
        have f1 : List.take 1 (List.drop (p - 1) (firstN s l t p)) = [letAt s l (t - 1)] := by
          rw [List.drop_eq_getElem_cons (by rw [firstN_len]; omega)]
          simp only [List.take_succ_cons, List.take_zero, List.cons.injEq, and_true]
          rw [heq, ← k3, getD_lt (by rw [firstN_len]; omega)]
        have f2 : List.take (p - 1) (firstN s l t p) = firstN s l t (p - 1) := by
          simp only [firstN, ← List.map_take, List.take_range]
          rw [Nat.min_eq_left (by omega)]
        obtain ⟨p', rfl⟩ : ∃ p', p = p' + 1 := ⟨p - 1, by omega⟩
        rw [f1, f2]
        simp only [firstN, Nat.add_sub_cancel, List.range_succ_eq_map, List.map_cons, List.map_map, Nat.add_zero, List.cons_append, List.nil_append, List.cons.injEq, true_and]
        apply List.map_congr_left
        intro i _
        simp only [Function.comp]
        rw [shift_eq ht0]
      rw [e3]
      refine ⟨(t - 1, q'), ⟨by simp only; omega, ?_, d2, d4, d3, d5⟩, by simp only; omega, .refl _, ?_, ?_⟩
      · intro k hk
        by_cases hkt : k = t - 1
        · subst hkt; exact heq.symm
        · exact hpt k (by omega)
      · rw [show 1 + (p - 1) = ((firstN s l (t - 1) p).map eI).length by rw [List.length_map, firstN_len]; omega]; exact .refl _
      · (intro y b hy; simp only [Heap.set, Heap.del] at hy ⊢; (repeat' split at hy) <;> (repeat' split) <;> simp_all [cells])
    · refine fin fun t' h3 h4 => Nat.le_of_not_lt fun h5 => hne ?_
      exact (h4 (t - 1) (by omega)).symm
end Go.Proofs.Ytjbdahlhphdalaa
