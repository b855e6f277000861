/- Specs: the clauses of a circuit. -/
import Derived.Test.YtjbdahlhphdalaaLc3
import Derived.Test.YtjbdahlhphdalaaLc5
namespace Go.Proofs.Ytjbdahlhphdalaa
open Go Go.Sep Go.Pc
set_option linter.unusedSimpArgs false
set_option linter.unusedVariables false
attribute [local irreducible] CallT

theorem clausesOf_spec (g : Gt) (w : Int) (ha : 0 ≤ g.a ∧ g.a ≤ 1000000) (hb : 0 ≤ g.b ∧ g.b ≤ 1000000) (hw : 1 ≤ w ∧ w ≤ 1000000) : Pu Try.prog 81 [aG g, I w] (Ls (clausesG g w)) := by
  refine ⟨fun H => CallT.fin ?_⟩
  have e1 : IntKind.i64.wrap (g.a + 1) = g.a + 1 := i64_id (by omega) (by omega)
  have e2 : IntKind.i64.wrap (g.b + 1) = g.b + 1 := i64_id (by omega) (by omega)
  have e3 : IntKind.i64.wrap (0 - w) = -w := by rw [i64_id (by omega) (by omega)]; omega
  have e4 : IntKind.i64.wrap (0 - (g.a + 1)) = -(g.a + 1) := by rw [i64_id (by omega) (by omega)]; omega
  have e5 : IntKind.i64.wrap (0 - (g.b + 1)) = -(g.b + 1) := by rw [i64_id (by omega) (by omega)]; omega
  refine W81_ok ?_; simp (disch := (first | assumption | (apply Ne.symm; assumption))) only [W81, condV_dec, condV_not, ↓condV_t, ↓condV_f, condV_b, condV_u, pickV_b, eqnil_sl, neqnil_sl, grdV_t, grdV_f, callF_fn, indexAddr_sl, indexAddr_own, allocV, splice, partV, buildV, bin_add, bin_sub, bin_mul, bin_and, bin_or, bin_xor, bin_andNot, bin_quo, bin_rem, bin_shl, bin_shr, bin_eql, bin_neq, bin_lss, bin_leq, bin_gtr, bin_geq, bin_bool, eqV_bool, bin_agg, eqV_agg, un_not, un_neg, un_xor, ext_tup, load_fp, load_same, load_ne, store_same, store_ne, box_agg, box_p, box_sl, box_ptr, box_fn, fill_nil, fill_p, fill_sl, fill_ptr, fill_fn, fill_esl, fill_agg, len_p, len_sl, len_esl, nc_ptr, nc_fp, nc_fn, nc_sl, nc_p, conv_int, mm_max, mm_min, fa_ptr, fa_fp, fd_agg, eqFieldsV, eqS, cells_agg, cells_p, cells_sl, cells_ptr, cells_fn, cells_nilp, cells_fp, tabs, TK.agg, Heap.set_same, Heap.set_ne, Heap.over2, Heap.over3, Heap.over4, Heap.set_set, Heap.set_none, and_imp', true_and, and_true, Bool.not_true, Bool.not_false, reduceCtorEq, true_implies, false_implies, implies_true, Option.some.injEq, forall_eq', Array.toList, List.map_cons, List.map_nil, List.append_nil, List.cons_append, List.nil_append, Bool.true_eq_false, Bool.false_eq_true, if_true, if_false, ite_true, ite_false, ↓reduceIte, List.length_cons, List.length_nil, List.length_map, List.length_append, Nat.reduceAdd, Nat.reduceLeDiff, Nat.reduceLT, Nat.reduceMul, Nat.reduceSub, Nat.le_refl, Nat.zero_le, Nat.zero_add, Nat.add_zero, Option.bind_some, Option.map_some, List.getElem?_cons_zero, List.getElem?_cons_succ, Option.isSome_some, Option.isSome_none, bndV, numV, sliceV_sl, sliceV_own, sliceV_nil, eI, eU, e8, eB, Int.toNat_natCast, List.getD_cons_succ, List.getD_cons_zero, List.set_cons_zero, List.set_cons_succ, List.take_succ_cons, List.take_zero, List.take_nil, List.drop_succ_cons, List.drop_zero, List.headD_cons, List.all_cons, List.all_nil, Bool.and_true, Bool.and_false, Bool.true_and, Bool.false_and, Bool.and_self, beq_self_eq_true, Bool.false_beq, Bool.true_beq, Bool.not_not, AV.isCell, decide_true, decide_false, le_refl_true, Int.reduceToNat, Int.reduceSub, Int.reduceAdd, Int.reduceNeg, Int.sub_zero, List.drop_zero, decide_eq_true_eq, decide_eq_false_iff_not, Bool.not_eq_true', Bool.not_eq_false', Bool.not_eq_true, Bool.not_eq_false, Nat.lt_irrefl, ne_eq, not_false_eq_true, not_true_eq_false, e1, e2, e3, e4, e5]
  intro r hr
  have fin : ∀ v, v = Ls (clausesG g w) → wkK (fun r H' => r = Ls (clausesG g w) ∧ H' = H) v (H.set r [I g.k, I g.a, I g.b]) := fun v hv => fin_le (Heap.le_set hr) ⟨hv, rfl⟩
  refine ⟨fun k1 => ⟨fun a1 => ?_, fun a1 => ?_⟩, fun k1 => ⟨fun k2 => ?_, fun k2 => ⟨fun k3 => ?_, fun k3 => ⟨fun k4 => ?_, fun k4 => ?_⟩⟩⟩⟩
  all_goals
    repeat (first | refine lit1 tab_24 rfl tab_3 ⟨rfl, rfl⟩ ?_ | refine lit2 tab_24 rfl tab_3 ⟨rfl, rfl⟩ ?_ | refine lit3 tab_24 rfl tab_3 ⟨rfl, rfl⟩ ?_); (try simp (disch := (first | assumption | (apply Ne.symm; assumption))) only [condV_dec, condV_not, ↓condV_t, ↓condV_f, condV_b, condV_u, pickV_b, eqnil_sl, neqnil_sl, grdV_t, grdV_f, callF_fn, indexAddr_sl, indexAddr_own, allocV, splice, partV, buildV, bin_add, bin_sub, bin_mul, bin_and, bin_or, bin_xor, bin_andNot, bin_quo, bin_rem, bin_shl, bin_shr, bin_eql, bin_neq, bin_lss, bin_leq, bin_gtr, bin_geq, bin_bool, eqV_bool, bin_agg, eqV_agg, un_not, un_neg, un_xor, ext_tup, load_fp, load_same, load_ne, store_same, store_ne, box_agg, box_p, box_sl, box_ptr, box_fn, fill_nil, fill_p, fill_sl, fill_ptr, fill_fn, fill_esl, fill_agg, len_p, len_sl, len_esl, nc_ptr, nc_fp, nc_fn, nc_sl, nc_p, conv_int, mm_max, mm_min, fa_ptr, fa_fp, fd_agg, eqFieldsV, eqS, cells_agg, cells_p, cells_sl, cells_ptr, cells_fn, cells_nilp, cells_fp, tabs, TK.agg, Heap.set_same, Heap.set_ne, Heap.over2, Heap.over3, Heap.over4, Heap.set_set, Heap.set_none, and_imp', true_and, and_true, Bool.not_true, Bool.not_false, reduceCtorEq, true_implies, false_implies, implies_true, Option.some.injEq, forall_eq', Array.toList, List.map_cons, List.map_nil, List.append_nil, List.cons_append, List.nil_append, Bool.true_eq_false, Bool.false_eq_true, if_true, if_false, ite_true, ite_false, ↓reduceIte, List.length_cons, List.length_nil, List.length_map, List.length_append, Nat.reduceAdd, Nat.reduceLeDiff, Nat.reduceLT, Nat.reduceMul, Nat.reduceSub, Nat.le_refl, Nat.zero_le, Nat.zero_add, Nat.add_zero, Option.bind_some, Option.map_some, List.getElem?_cons_zero, List.getElem?_cons_succ, Option.isSome_some, Option.isSome_none, bndV, numV, sliceV_sl, sliceV_own, sliceV_nil, eI, eU, e8, eB, Int.toNat_natCast, List.getD_cons_succ, List.getD_cons_zero, List.set_cons_zero, List.set_cons_succ, List.take_succ_cons, List.take_zero, List.take_nil, List.drop_succ_cons, List.drop_zero, List.headD_cons, List.all_cons, List.all_nil, Bool.and_true, Bool.and_false, Bool.true_and, Bool.false_and, Bool.and_self, beq_self_eq_true, Bool.false_beq, Bool.true_beq, Bool.not_not, AV.isCell, decide_true, decide_false, le_refl_true, Int.reduceToNat, Int.reduceSub, Int.reduceAdd, Int.reduceNeg, Int.sub_zero, List.drop_zero, decide_eq_true_eq, decide_eq_false_iff_not, Bool.not_eq_true', Bool.not_eq_false', Bool.not_eq_true, Bool.not_eq_false, Nat.lt_irrefl, ne_eq, not_false_eq_true, not_true_eq_false, e1, e2, e3, e4, e5])
    first | refine lit1 tab_41 rfl tab_24 ⟨rfl, rfl⟩ ?_ | refine lit2 tab_41 rfl tab_24 ⟨rfl, rfl⟩ ?_ | refine lit3 tab_41 rfl tab_24 ⟨rfl, rfl⟩ ?_ | refine lit4 tab_41 rfl tab_24 ⟨rfl, rfl⟩ ?_
    refine fin _ ?_
  · simp only [clausesG, k1, a1, if_true]; rfl
  · simp only [clausesG, k1, a1, if_true, if_false]; rfl
  · simp only [clausesG, k1, k2, show ¬ (2 : Int) = 1 by decide, if_true, if_false]; rfl
  · simp only [clausesG, k1, k2, k3, show ¬ (3 : Int) = 1 by decide, show ¬ (3 : Int) = 2 by decide, if_true, if_false]; rfl
  · simp only [clausesG, k1, k2, k3, k4, show ¬ (4 : Int) = 1 by decide, show ¬ (4 : Int) = 2 by decide, show ¬ (4 : Int) = 3 by decide, if_true, if_false]; rfl
  · simp only [clausesG, k1, k2, k3, k4, if_false]; rfl

abbrev fL (l : List Int) : PV := .sl (l.map eI)

theorem gateCl_succ (ins : Nat) (gs : List Gt) (n : Nat) : gateCl ins gs (n + 1) = gateCl ins gs n ++ clausesG (gs.getD n default) ((ins + n + 1 : Nat) : Int) := by simp [gateCl, List.range_succ]
theorem outCl_succ (outs : List Int) (want : List Bool) (n : Nat) : outCl outs want (n + 1) = outCl outs want n ++ [[outLit outs want n]] := by simp [outCl, List.range_succ]
theorem clausesG_len (g : Gt) (w : Int) : (clausesG g w).length ≤ 4 ∧ ∀ l ∈ clausesG g w, l.length ≤ 3 := by
  unfold clausesG
  repeat' split
  all_goals simp
theorem gateCl_len (ins : Nat) (gs : List Gt) (n : Nat) : (gateCl ins gs n).length ≤ 4 * n ∧ ∀ l ∈ gateCl ins gs n, l.length ≤ 3 := by
  induction n with
  | zero => simp [gateCl]
  | succ n ih =>
    rw [gateCl_succ]
    have h := clausesG_len (gs.getD n default) ((ins + n + 1 : Nat) : Int)
    refine ⟨by rw [List.length_append]; omega, fun l hl => ?_⟩
    rcases List.mem_append.1 hl with hl | hl
    · exact ih.2 l hl
    · exact h.2 l hl
theorem outCl_len (outs : List Int) (want : List Bool) (n : Nat) : (outCl outs want n).length = n ∧ ∀ l ∈ outCl outs want n, l.length ≤ 3 := by
  refine ⟨by simp [outCl], fun l hl => ?_⟩
  obtain ⟨i, _, rfl⟩ := List.mem_map.1 hl
  simp

/-- The second loop: a clause for every output. -/
theorem cnf_out_lit (outs : List Int) (want : List Bool) {i : Nat} (hi : i < outs.length) (hw : 0 ≤ outs.getD i default) (hw2 : outs.getD i default ≤ 1000000) :
    (want.getD i default = true → IntKind.i64.wrap (outs.getD i default + 1) = outLit outs want i) ∧ (want.getD i default = false → IntKind.i64.wrap (IntKind.i64.wrap (0 - outs.getD i default) - 1) = outLit outs want i) := by
  have e : outs.getD i default = outs.getD i 0 := rfl
  have e2 : want.getD i default = want.getD i false := rfl
  rw [e] at hw hw2 ⊢
  rw [e2]
  refine ⟨fun h => ?_, fun h => ?_⟩
  · rw [i64_id (by omega) (by omega)]; simp only [outLit, h, if_true]
  · rw [i64_id (n := 0 - _) (by omega) (by omega), i64_id (by omega) (by omega)]
    simp only [outLit, h, Bool.false_eq_true, if_false]; omega
end Go.Proofs.Ytjbdahlhphdalaa
