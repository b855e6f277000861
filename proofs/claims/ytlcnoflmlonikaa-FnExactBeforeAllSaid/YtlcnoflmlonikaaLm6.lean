/- Specs: what a condition asks before a command, if that is enabled. -/
import Derived.Test.YtlcnoflmlonikaaLm5
namespace Go.Proofs.Ytlcnoflmlonikaa
open Go Go.Sep Go.Pt
set_option linter.unusedSimpArgs false
set_option linter.unusedVariables false
attribute [local irreducible] CallT

def ifT (c : Cm) (o : List Nd) : List Nd := c.when_ ++ ([⟨19, 0⟩] ++ (o ++ [⟨18, 0⟩]))
def gtO (w v : Int) (z : List Nd) : Option (List Nd) := if gt w v z then some z else none
def ifR (p : Pg) (c : Cm) (t : List Nd) : Option (List Nd) := (putAll p.wide p.vars t (putBy p c)).bind fun o => gtO p.wide p.vars (ifT c o)
theorem gtO_some {w v : Int} {z o : List Nd} (h : gtO w v z = some o) : gt w v z = true ∧ o = z := by
  unfold gtO at h; split at h
  · rename_i hg; cases h; exact ⟨hg, rfl⟩
  · cases h
theorem putAll_some {w v : Int} {t o : List Nd} {bs : List (List Nd)} (h : putAll w v t bs = some o) : gt w v o = true ∧ o = subst bs t := by
  unfold putAll at h
  split at h
  · rename_i hh; cases h
    simp only [Bool.and_eq_true] at hh
    exact ⟨hh.2, rfl⟩
  · cases h
theorem vT_lit {x : Nd} (h : okN x) : vT [x] := ⟨by simp, fun y hy => by rw [List.mem_singleton] at hy; rw [hy]; exact h⟩
theorem ifT_v {p : Pg} {c : Cm} {t o : List Nd} (hv : p.vars ≤ 4) (ht : vT t) (hc : vCm c) (hk : kind p.wide p.vars c.when_ = 2) (h : putAll p.wide p.vars t (putBy p c) = some o) : (ifT c o).length ≤ 98 ∧ vT (ifT c o) ∧ (c.when_.length ≤ 48 ∧ o.length ≤ 48) := by
  obtain ⟨h1, rfl⟩ := putAll_some h
  have h2 := (gt_len h1).2
  have h3 := (kind_len hk (by decide)).2
  have hl : (ifT c (subst (putBy p c) t)).length ≤ 98 := by simp only [ifT, List.length_append, List.length_cons, List.length_nil]; omega
  refine ⟨hl, ⟨by omega, fun x hx => ?_⟩, h3, h2⟩
  have lit : ∀ k, okN ⟨k, 0⟩ := fun k => by unfold okN; simp
  simp only [ifT, List.mem_append, List.mem_singleton] at hx
  rcases hx with hx | rfl | hx | rfl
  · exact hc.1.2 x hx
  · exact lit _
  · exact okN_subst (fun b hb => (putBy_vT hv hc b hb).2) ht.2 x hx
  · exact lit _

/-- Four rows of nodes, of which some lie in two rows of one's own. -/
theorem lit4N {G G' : Heap} {K : AV → Heap → Prop} {a b c d a1 b1 c1 d1 : AV} {w x y z us vs : List Nd} {q s : Nat} (hq : G q = some (cN us)) (hs : G s = some (cN vs)) (hqs : q ≠ s)
    (ca : a.cells = [a]) (cb : b.cells = [b]) (cc : c.cells = [c]) (cd : d.cells = [d])
    (h1 : FrzL q 2 (us.map eN) [a, b, c, d] [a1, b1, c1, d1]) (h2 : FrzL s 2 (vs.map eN) [a1, b1, c1, d1] [Ns w, Ns x, Ns y, Ns z]) (hle : Heap.le G' ((G.del q).del s)) (h : K (NNs [w, x, y, z]) G') :
    buildSliceV tab 67 4 [(0, a), (1, b), (2, c), (3, d)] G (wkK K) := by
  simp only [buildSliceV, tab_67, tab_28]
  refine ⟨by omega, ?_⟩
  simp only [fillV, zerosA, List.replicate_succ, List.replicate_zero, List.flatten_cons, List.flatten_nil, List.append_nil, ca, cb, cc, cd, splice]
  simp only [List.length_cons, List.length_nil, Nat.reduceAdd, Nat.zero_mul, Nat.zero_add, Nat.mul_one, Nat.reduceMul, Nat.reduceLeDiff, Nat.le_refl, and_self, if_true, List.take_zero, List.nil_append, List.cons_append, List.take_succ_cons, List.drop_succ_cons, List.drop_zero, List.drop_nil, List.append_nil]
  intro r hr
  have nq : r ≠ q := fun e => by rw [e, hq] at hr; cases hr
  have ns : r ≠ s := fun e => by rw [e, hs] at hr; cases hr
  have e1 : (G.set r [a, b, c, d]) q = some (cN us) := by rw [Heap.set_other (Ne.symm nq)]; exact hq
  have w1 := Wk.frzAt (v := .sl r 1 0 4) (v' := .sl r 1 0 4) (r := q) (s := r) (sz := 2) (by omega) e1 (szN us) (Heap.set_same _ _ _) nq h1 (.same _) rfl
  have e2 : ((((G.set r [a, b, c, d]).del q).set r [a1, b1, c1, d1])) s = some (cN vs) := by
    rw [Heap.set_other (Ne.symm ns), Heap.del_other (Ne.symm hqs), Heap.set_other (Ne.symm ns)]; exact hs
  have w2 := Wk.frzAt (v := .sl r 1 0 4) (v' := .sl r 1 0 4) (r := s) (s := r) (sz := 2) (by omega) e2 (szN vs) (Heap.set_same _ _ _) ns h2 (.same _) rfl
  refine ⟨_, _, .trans (.trans (.trans w1 w2) (Wk.frz (r := r) (sz := 1) (es := [w, x, y, z].map eNs) (v' := NNs [w, x, y, z]) (by omega) (by rw [Heap.set_same]; rfl) (fun e he => ?_) .here)) (.forget ?_), h⟩
  · obtain ⟨_, _, rfl⟩ := List.mem_map.1 he; rfl
  · refine Heap.le_trans hle ?_
    (intro y b hy; simp only [Heap.set, Heap.del] at hy ⊢; (repeat' split at hy) <;> (repeat' split) <;> simp_all [cells])

theorem beforeIf_impl (p : Pg) (k : Int) (t : List Nd) (hg : goodP p = true) (hp : vPg p) (ht : vT t) (hk : 0 ≤ k ∧ k < p.cmds.length) {H : Heap} {K : AV → Heap → Prop}
    (hn : ifR p (p.cmds.getD k.toNat default) t = none → K (.tup [.p .nil, B false]) H)
    (hs : ∀ o, ifR p (p.cmds.getD k.toNat default) t = some o → ∀ q, H q = none → K (.tup [rowN q o, B true]) (H.set q (cN o))) : CallT Try.prog 32 [aPg p, I k, Ns t] H K := by
  have hr := goodP_rng hg
  have hm : p.cmds.getD k.toNat default ∈ p.cmds := getD_all (p := fun x => x ∈ p.cmds) (fun _ h => h) (by omega)
  have hgc : goodCm p.wide p.vars (p.cmds.getD k.toNat default) = true := by
    simp only [goodP, Bool.and_eq_true, List.all_eq_true] at hg
    exact hg.2 _ hm
  have hk2 : kind p.wide p.vars (p.cmds.getD k.toNat default).when_ = 2 := by
    simp only [goodCm, Bool.and_eq_true, decide_eq_true_eq] at hgc
    exact hgc.1
  have hvc := hp.2.2 _ hm
  refine CallT.fin ?_
  refine W32_ok ?_; simp (maxSteps := 1000000) (disch := (first | assumption | (apply Ne.symm; assumption))) only [W32, vw0, vw1, vw2, vw3, vw4, vu0, vu1, ↓condV_t, ↓condV_f, cap_nil, allocV, splice, partV, buildV, eqFieldsV, eqS, tabs, TK.agg, reduceCtorEq, Array.toList, List.map_cons, List.map_nil, ↓reduceIte, List.length_map, Nat.reduceAdd, Nat.reduceLeDiff, Nat.reduceLT, Nat.reduceMul, Nat.reduceSub, Option.bind_some, Option.map_some, bndV, numV, eI, eU, e8, eB, AV.isCell, Int.reduceToNat, Int.reduceSub, Int.reduceAdd, Int.reduceNeg]
  intro r hr0
  refine beforeOne_impl p k t hg hp ht hk (fun h => ?_) (fun o h q hq => ?_)
  · (try simp (maxSteps := 1000000) (disch := (first | assumption | (apply Ne.symm; assumption))) only [vw0, vw1, vw2, vw3, vw4, vu0, vu1, ↓condV_t, ↓condV_f, cap_nil, allocV, splice, partV, buildV, eqFieldsV, eqS, tabs, TK.agg, reduceCtorEq, Array.toList, List.map_cons, List.map_nil, ↓reduceIte, List.length_map, Nat.reduceAdd, Nat.reduceLeDiff, Nat.reduceLT, Nat.reduceMul, Nat.reduceSub, Option.bind_some, Option.map_some, bndV, numV, eI, eU, e8, eB, AV.isCell, Int.reduceToNat, Int.reduceSub, Int.reduceAdd, Int.reduceNeg])
    exact fin_le (Heap.le_set hr0) (hn (by simp only [ifR, h, Option.bind_none]))
  have hz := ifT_v hr.2.2 ht hvc hk2 h
  rw [Heap.set_none] at hq
  have nqr := hq.1
  have nrq : r ≠ q := Ne.symm nqr
  (try simp (maxSteps := 1000000) (disch := (first | assumption | (apply Ne.symm; assumption))) only [vw0, vw1, vw2, vw3, vw4, vu0, vu1, ↓condV_t, ↓condV_f, cap_nil, allocV, splice, partV, buildV, eqFieldsV, eqS, tabs, TK.agg, reduceCtorEq, Array.toList, List.map_cons, List.map_nil, ↓reduceIte, List.length_map, Nat.reduceAdd, Nat.reduceLeDiff, Nat.reduceLT, Nat.reduceMul, Nat.reduceSub, Option.bind_some, Option.map_some, bndV, numV, eI, eU, e8, eB, AV.isCell, Int.reduceToNat, Int.reduceSub, Int.reduceAdd, Int.reduceNeg, newN ⟨18, 0⟩, safeV_some, newV_some])
  refine ⟨by omega, by omega, ?_⟩
  refine lit_node (x := ⟨19, 0⟩) ?_
  (try simp (maxSteps := 1000000) (disch := (first | assumption | (apply Ne.symm; assumption))) only [vw0, vw1, vw2, vw3, vw4, vu0, vu1, ↓condV_t, ↓condV_f, cap_nil, allocV, splice, partV, buildV, eqFieldsV, eqS, tabs, TK.agg, reduceCtorEq, Array.toList, List.map_cons, List.map_nil, ↓reduceIte, List.length_map, Nat.reduceAdd, Nat.reduceLeDiff, Nat.reduceLT, Nat.reduceMul, Nat.reduceSub, Option.bind_some, Option.map_some, bndV, numV, eI, eU, e8, eB, AV.isCell, Int.reduceToNat, Int.reduceSub, Int.reduceAdd, Int.reduceNeg])
  intro r3 n1 n2 hr3
  have nqr3 : q ≠ r3 := Ne.symm n1
  have nrr3 : r ≠ r3 := Ne.symm n2
  generalize p.cmds.getD k.toNat default = c at hn hs hz h hvc hk2
  refine lit4N (G' := H.set r [I p.wide, I p.vars, Ns p.start, Cms p.cmds]) (q := q) (s := r3) (us := o) (vs := [⟨18, 0⟩]) (w := c.when_) (x := [⟨19, 0⟩]) (y := o) (z := [⟨18, 0⟩]) (by rw [Heap.set_other nqr3, Heap.set_same]) (Heap.set_same _ _ _) nqr3 rfl rfl rfl rfl
    (.cons (.same _) (.cons (.same _) (.cons frz_rowN (.cons (.same _) .nil)))) (.cons (.same _) (.cons (.same _) (.cons (.same _) (.cons frz_rowN .nil)))) ?_ ?_
  · (intro y b hy; simp only [Heap.set, Heap.del] at hy ⊢; (repeat' split at hy) <;> (repeat' split) <;> simp_all [cells])
  have efl : [c.when_, [⟨19, 0⟩], o, [⟨18, 0⟩]].flatten = ifT c o := by simp [ifT]
  (try simp (maxSteps := 1000000) (disch := (first | assumption | (apply Ne.symm; assumption))) only [vw0, vw1, vw2, vw3, vw4, vu0, vu1, ↓condV_t, ↓condV_f, cap_nil, allocV, splice, partV, buildV, eqFieldsV, eqS, tabs, TK.agg, reduceCtorEq, Array.toList, List.map_cons, List.map_nil, ↓reduceIte, List.length_map, Nat.reduceAdd, Nat.reduceLeDiff, Nat.reduceLT, Nat.reduceMul, Nat.reduceSub, Option.bind_some, Option.map_some, bndV, numV, eI, eU, e8, eB, AV.isCell, Int.reduceToNat, Int.reduceSub, Int.reduceAdd, Int.reduceNeg])
  refine Concat_spec _ (by rw [efl]; omega) (by simp) fun q2 hq2 => ?_
  rw [efl]
  rw [Heap.set_none] at hq2
  have nq2r := hq2.1
  have nrq2 : r ≠ q2 := Ne.symm nq2r
  (try simp (maxSteps := 1000000) (disch := (first | assumption | (apply Ne.symm; assumption))) only [vw0, vw1, vw2, vw3, vw4, vu0, vu1, ↓condV_t, ↓condV_f, cap_nil, allocV, splice, partV, buildV, eqFieldsV, eqS, tabs, TK.agg, reduceCtorEq, Array.toList, List.map_cons, List.map_nil, ↓reduceIte, List.length_map, Nat.reduceAdd, Nat.reduceLeDiff, Nat.reduceLT, Nat.reduceMul, Nat.reduceSub, Option.bind_some, Option.map_some, bndV, numV, eI, eU, e8, eB, AV.isCell, Int.reduceToNat, Int.reduceSub, Int.reduceAdd, Int.reduceNeg])
  refine checkedTerm_row p.wide p.vars (ifT c o) hz.2.1 (Heap.set_same _ _ _) (fun hg2 => ?_) (fun hg2 => ?_)
  · (try simp (maxSteps := 1000000) (disch := (first | assumption | (apply Ne.symm; assumption))) only [vw0, vw1, vw2, vw3, vw4, vu0, vu1, ↓condV_t, ↓condV_f, cap_nil, allocV, splice, partV, buildV, eqFieldsV, eqS, tabs, TK.agg, reduceCtorEq, Array.toList, List.map_cons, List.map_nil, ↓reduceIte, List.length_map, Nat.reduceAdd, Nat.reduceLeDiff, Nat.reduceLT, Nat.reduceMul, Nat.reduceSub, Option.bind_some, Option.map_some, bndV, numV, eI, eU, e8, eB, AV.isCell, Int.reduceToNat, Int.reduceSub, Int.reduceAdd, Int.reduceNeg])
    refine fin_le ?_ (hn (by simp only [ifR, h, Option.bind_some, gtO, hg2]; rfl))
    have := hq2.2
    (intro y b hy; simp only [Heap.set, Heap.del] at hy ⊢; (repeat' split at hy) <;> (repeat' split) <;> simp_all [cells])
  · (try simp (maxSteps := 1000000) (disch := (first | assumption | (apply Ne.symm; assumption))) only [vw0, vw1, vw2, vw3, vw4, vu0, vu1, ↓condV_t, ↓condV_f, cap_nil, allocV, splice, partV, buildV, eqFieldsV, eqS, tabs, TK.agg, reduceCtorEq, Array.toList, List.map_cons, List.map_nil, ↓reduceIte, List.length_map, Nat.reduceAdd, Nat.reduceLeDiff, Nat.reduceLT, Nat.reduceMul, Nat.reduceSub, Option.bind_some, Option.map_some, bndV, numV, eI, eU, e8, eB, AV.isCell, Int.reduceToNat, Int.reduceSub, Int.reduceAdd, Int.reduceNeg])
    refine fin_le ?_ (hs _ (by simp only [ifR, h, Option.bind_some, gtO, hg2, if_true]) q2 hq2.2)
    generalize cN (ifT c o) = z
    have := hq2.2
    (intro y b hy; simp only [Heap.set, Heap.del] at hy ⊢; (repeat' split at hy) <;> (repeat' split) <;> simp_all [cells])

theorem l16If_spec (p : Pg) (k : Int) (t : List Nd) (hg : goodP p = true) (hp : vPg p) (ht : vT t) (hk : 0 ≤ k ∧ k < p.cmds.length) : Pu Try.prog 31 [aPg p, I k, Ns t] (optN (ifR p (p.cmds.getD k.toNat default) t)) := by
  have hr := goodP_rng hg
  have hm : p.cmds.getD k.toNat default ∈ p.cmds := getD_all (p := fun x => x ∈ p.cmds) (fun _ h => h) (by omega)
  have hgc : goodCm p.wide p.vars (p.cmds.getD k.toNat default) = true := by
    simp only [goodP, Bool.and_eq_true, List.all_eq_true] at hg
    exact hg.2 _ hm
  have hk2 : kind p.wide p.vars (p.cmds.getD k.toNat default).when_ = 2 := by
    simp only [goodCm, Bool.and_eq_true, decide_eq_true_eq] at hgc
    exact hgc.1
  have hvc := hp.2.2 _ hm
  refine ⟨fun H => CallT.fin ?_⟩
  have bad : ∀ {G : Heap}, Heap.le H G → ifR p (p.cmds.getD k.toNat default) t = none → wkK (fun r H' => r = optN (ifR p (p.cmds.getD k.toNat default) t) ∧ H' = H) (.tup [.p .nil, B false]) G := fun hle h =>
    ⟨_, H, .trans (.val (v' := .tup [Ns [], B false]) (wk_tup ⟨.nil, .refl _, trivial⟩)) (.forget hle), by rw [h]; rfl, rfl⟩
  refine W31_ok ?_; simp (maxSteps := 1000000) (disch := (first | assumption | (apply Ne.symm; assumption))) only [W31, vw0, vw1, vw2, vw3, vw4, vu0, vu1, ↓condV_t, ↓condV_f, cap_nil, allocV, splice, partV, buildV, eqFieldsV, eqS, tabs, TK.agg, reduceCtorEq, Array.toList, List.map_cons, List.map_nil, ↓reduceIte, List.length_map, Nat.reduceAdd, Nat.reduceLeDiff, Nat.reduceLT, Nat.reduceMul, Nat.reduceSub, Option.bind_some, Option.map_some, bndV, numV, eI, eU, e8, eB, AV.isCell, Int.reduceToNat, Int.reduceSub, Int.reduceAdd, Int.reduceNeg]
  intro r hr0
  refine Pu.use (l16One_spec p k t hg hp ht hk) ?_
  cases h : putAll p.wide p.vars t (putBy p (p.cmds.getD k.toNat default)) with
  | none =>
    (try simp (maxSteps := 1000000) (disch := (first | assumption | (apply Ne.symm; assumption))) only [vw0, vw1, vw2, vw3, vw4, vu0, vu1, ↓condV_t, ↓condV_f, cap_nil, allocV, splice, partV, buildV, eqFieldsV, eqS, tabs, TK.agg, reduceCtorEq, Array.toList, List.map_cons, List.map_nil, ↓reduceIte, List.length_map, Nat.reduceAdd, Nat.reduceLeDiff, Nat.reduceLT, Nat.reduceMul, Nat.reduceSub, Option.bind_some, Option.map_some, bndV, numV, eI, eU, e8, eB, AV.isCell, Int.reduceToNat, Int.reduceSub, Int.reduceAdd, Int.reduceNeg, Option.isSome_none])
    exact bad (Heap.le_set hr0) (by simp only [ifR, h, Option.bind_none])
  | some o =>
    have hz := ifT_v hr.2.2 ht hvc hk2 h
    (try simp (maxSteps := 1000000) (disch := (first | assumption | (apply Ne.symm; assumption))) only [vw0, vw1, vw2, vw3, vw4, vu0, vu1, ↓condV_t, ↓condV_f, cap_nil, allocV, splice, partV, buildV, eqFieldsV, eqS, tabs, TK.agg, reduceCtorEq, Array.toList, List.map_cons, List.map_nil, ↓reduceIte, List.length_map, Nat.reduceAdd, Nat.reduceLeDiff, Nat.reduceLT, Nat.reduceMul, Nat.reduceSub, Option.bind_some, Option.map_some, bndV, numV, eI, eU, e8, eB, AV.isCell, Int.reduceToNat, Int.reduceSub, Int.reduceAdd, Int.reduceNeg, Option.isSome_some, Option.getD_some])
    refine lit0N fun q1 hq1 => ?_
    rw [Heap.set_none] at hq1
    have d1 := Ne.symm hq1.1
    (try simp (maxSteps := 1000000) (disch := (first | assumption | (apply Ne.symm; assumption))) only [vw0, vw1, vw2, vw3, vw4, vu0, vu1, ↓condV_t, ↓condV_f, cap_nil, allocV, splice, partV, buildV, eqFieldsV, eqS, tabs, TK.agg, reduceCtorEq, Array.toList, List.map_cons, List.map_nil, ↓reduceIte, List.length_map, Nat.reduceAdd, Nat.reduceLeDiff, Nat.reduceLT, Nat.reduceMul, Nat.reduceSub, Option.bind_some, Option.map_some, bndV, numV, eI, eU, e8, eB, AV.isCell, Int.reduceToNat, Int.reduceSub, Int.reduceAdd, Int.reduceNeg])
    refine ⟨by omega, by omega, ?_⟩
    generalize p.cmds.getD k.toNat default = c at bad hz h hvc hk2 ⊢
    have key : ∀ {q}, (H.set r [I p.wide, I p.vars, Ns p.start, Cms p.cmds]) q = none → q ≠ r ∧ H q = none := fun h => by rwa [Heap.set_none] at h
    refine app_top (xs := []) (ys := c.when_) (by rw [Heap.set_none]; exact hq1) (by simp only [List.length_nil]; omega) fun q2 hq2 => ?_
    rw [List.nil_append]
    have d2 := Ne.symm (key hq2).1
    (try simp (maxSteps := 1000000) (disch := (first | assumption | (apply Ne.symm; assumption))) only [vw0, vw1, vw2, vw3, vw4, vu0, vu1, ↓condV_t, ↓condV_f, cap_nil, allocV, splice, partV, buildV, eqFieldsV, eqS, tabs, TK.agg, reduceCtorEq, Array.toList, List.map_cons, List.map_nil, ↓reduceIte, List.length_map, Nat.reduceAdd, Nat.reduceLeDiff, Nat.reduceLT, Nat.reduceMul, Nat.reduceSub, Option.bind_some, Option.map_some, bndV, numV, eI, eU, e8, eB, AV.isCell, Int.reduceToNat, Int.reduceSub, Int.reduceAdd, Int.reduceNeg])
    refine push_top (xs := c.when_) (x := ⟨19, 0⟩) hq2 (by omega) fun q3 hq3 => ?_
    have d3 := Ne.symm (key hq3).1
    refine app_top (xs := c.when_ ++ [⟨19, 0⟩]) (ys := o) hq3 (by simp only [List.length_append, List.length_cons, List.length_nil]; omega) fun q4 hq4 => ?_
    have d4 := Ne.symm (key hq4).1
    (try simp (maxSteps := 1000000) (disch := (first | assumption | (apply Ne.symm; assumption))) only [vw0, vw1, vw2, vw3, vw4, vu0, vu1, ↓condV_t, ↓condV_f, cap_nil, allocV, splice, partV, buildV, eqFieldsV, eqS, tabs, TK.agg, reduceCtorEq, Array.toList, List.map_cons, List.map_nil, ↓reduceIte, List.length_map, Nat.reduceAdd, Nat.reduceLeDiff, Nat.reduceLT, Nat.reduceMul, Nat.reduceSub, Option.bind_some, Option.map_some, bndV, numV, eI, eU, e8, eB, AV.isCell, Int.reduceToNat, Int.reduceSub, Int.reduceAdd, Int.reduceNeg])
    refine lit_node (x := ⟨18, 0⟩) ?_
    (try simp (maxSteps := 1000000) (disch := (first | assumption | (apply Ne.symm; assumption))) only [vw0, vw1, vw2, vw3, vw4, vu0, vu1, ↓condV_t, ↓condV_f, cap_nil, allocV, splice, partV, buildV, eqFieldsV, eqS, tabs, TK.agg, reduceCtorEq, Array.toList, List.map_cons, List.map_nil, ↓reduceIte, List.length_map, Nat.reduceAdd, Nat.reduceLeDiff, Nat.reduceLT, Nat.reduceMul, Nat.reduceSub, Option.bind_some, Option.map_some, bndV, numV, eI, eU, e8, eB, AV.isCell, Int.reduceToNat, Int.reduceSub, Int.reduceAdd, Int.reduceNeg])
    refine app_top (xs := c.when_ ++ [⟨19, 0⟩] ++ o) (ys := [⟨18, 0⟩]) hq4 (by simp only [List.length_append, List.length_cons, List.length_nil]; omega) fun q5 hq5 => ?_
    have d5 := Ne.symm (key hq5).1
    have efl : c.when_ ++ [⟨19, 0⟩] ++ o ++ [⟨18, 0⟩] = ifT c o := by simp [ifT]
    rw [efl]
    (try simp (maxSteps := 1000000) (disch := (first | assumption | (apply Ne.symm; assumption))) only [vw0, vw1, vw2, vw3, vw4, vu0, vu1, ↓condV_t, ↓condV_f, cap_nil, allocV, splice, partV, buildV, eqFieldsV, eqS, tabs, TK.agg, reduceCtorEq, Array.toList, List.map_cons, List.map_nil, ↓reduceIte, List.length_map, Nat.reduceAdd, Nat.reduceLeDiff, Nat.reduceLT, Nat.reduceMul, Nat.reduceSub, Option.bind_some, Option.map_some, bndV, numV, eI, eU, e8, eB, AV.isCell, Int.reduceToNat, Int.reduceSub, Int.reduceAdd, Int.reduceNeg])
    refine l2Made_row p.wide p.vars (ifT c o) hz.2.1 (Heap.set_same _ _ _) (fun hg2 => ?_) (fun hg2 => ?_)
    · (try simp (maxSteps := 1000000) (disch := (first | assumption | (apply Ne.symm; assumption))) only [vw0, vw1, vw2, vw3, vw4, vu0, vu1, ↓condV_t, ↓condV_f, cap_nil, allocV, splice, partV, buildV, eqFieldsV, eqS, tabs, TK.agg, reduceCtorEq, Array.toList, List.map_cons, List.map_nil, ↓reduceIte, List.length_map, Nat.reduceAdd, Nat.reduceLeDiff, Nat.reduceLT, Nat.reduceMul, Nat.reduceSub, Option.bind_some, Option.map_some, bndV, numV, eI, eU, e8, eB, AV.isCell, Int.reduceToNat, Int.reduceSub, Int.reduceAdd, Int.reduceNeg])
      refine bad ?_ (by simp only [ifR, h, Option.bind_some, gtO, hg2]; rfl)
      have := (key hq5).2
      (intro y b hy; simp only [Heap.set, Heap.del] at hy ⊢; (repeat' split at hy) <;> (repeat' split) <;> simp_all [cells])
    · (try simp (maxSteps := 1000000) (disch := (first | assumption | (apply Ne.symm; assumption))) only [vw0, vw1, vw2, vw3, vw4, vu0, vu1, ↓condV_t, ↓condV_f, cap_nil, allocV, splice, partV, buildV, eqFieldsV, eqS, tabs, TK.agg, reduceCtorEq, Array.toList, List.map_cons, List.map_nil, ↓reduceIte, List.length_map, Nat.reduceAdd, Nat.reduceLeDiff, Nat.reduceLT, Nat.reduceMul, Nat.reduceSub, Option.bind_some, Option.map_some, bndV, numV, eI, eU, e8, eB, AV.isCell, Int.reduceToNat, Int.reduceSub, Int.reduceAdd, Int.reduceNeg])
      have e : ifR p c t = some (ifT c o) := by simp only [ifR, h, Option.bind_some, gtO, hg2, if_true]
      rw [e]
      refine ⟨_, _, .trans (fin_nodes (Heap.set_same _ _ _)) (.forget (H' := H) ?_), rfl, rfl⟩
      rw [Heap.del_set hq5]
      exact Heap.le_set hr0
def resBI (p : Pg) (k : Int) (t : List Nd) : Option (List Nd) := if okBO p k t then ifR p (p.cmds.getD k.toNat default) t else none
theorem BeforeIf_impl (p : Pg) (k : Int) (t : List Nd) (hp : vPg p) (ht : vT t) {H : Heap} {K : AV → Heap → Prop}
    (hn : resBI p k t = none → K (.tup [.p .nil, B false]) H)
    (hs : ∀ o, resBI p k t = some o → ∀ q, H q = none → K (.tup [rowN q o, B true]) (H.set q (cN o))) : CallT Try.prog 18 [aPg p, I k, Ns t] H K := by
  refine CallT.fin ?_
  refine W18_ok ?_; simp (maxSteps := 1000000) (disch := (first | assumption | (apply Ne.symm; assumption))) only [W18, vw0, vw1, vw2, vw3, vw4, vu0, vu1, ↓condV_t, ↓condV_f, cap_nil, allocV, splice, partV, buildV, eqFieldsV, eqS, tabs, TK.agg, reduceCtorEq, Array.toList, List.map_cons, List.map_nil, ↓reduceIte, List.length_map, Nat.reduceAdd, Nat.reduceLeDiff, Nat.reduceLT, Nat.reduceMul, Nat.reduceSub, Option.bind_some, Option.map_some, bndV, numV, eI, eU, e8, eB, AV.isCell, Int.reduceToNat, Int.reduceSub, Int.reduceAdd, Int.reduceNeg]
  intro r hr
  refine Pu.use (isBefore_spec p k t hp ht) ?_
  cases h : okBO p k t
  · (try simp (maxSteps := 1000000) (disch := (first | assumption | (apply Ne.symm; assumption))) only [vw0, vw1, vw2, vw3, vw4, vu0, vu1, ↓condV_t, ↓condV_f, cap_nil, allocV, splice, partV, buildV, eqFieldsV, eqS, tabs, TK.agg, reduceCtorEq, Array.toList, List.map_cons, List.map_nil, ↓reduceIte, List.length_map, Nat.reduceAdd, Nat.reduceLeDiff, Nat.reduceLT, Nat.reduceMul, Nat.reduceSub, Option.bind_some, Option.map_some, bndV, numV, eI, eU, e8, eB, AV.isCell, Int.reduceToNat, Int.reduceSub, Int.reduceAdd, Int.reduceNeg])
    exact fin_le (Heap.le_set hr) (hn (by simp only [resBI, h, Bool.false_eq_true, if_false]))
  have hok := okBO_iff.1 h
  have e : resBI p k t = ifR p (p.cmds.getD k.toNat default) t := by simp only [resBI, h, if_true]
  (try simp (maxSteps := 1000000) (disch := (first | assumption | (apply Ne.symm; assumption))) only [vw0, vw1, vw2, vw3, vw4, vu0, vu1, ↓condV_t, ↓condV_f, cap_nil, allocV, splice, partV, buildV, eqFieldsV, eqS, tabs, TK.agg, reduceCtorEq, Array.toList, List.map_cons, List.map_nil, ↓reduceIte, List.length_map, Nat.reduceAdd, Nat.reduceLeDiff, Nat.reduceLT, Nat.reduceMul, Nat.reduceSub, Option.bind_some, Option.map_some, bndV, numV, eI, eU, e8, eB, AV.isCell, Int.reduceToNat, Int.reduceSub, Int.reduceAdd, Int.reduceNeg])
  refine beforeIf_impl p k t hok.1 hp ht hok.2.1 (fun h2 => ?_) (fun o h2 q hq => ?_)
  · (try simp (maxSteps := 1000000) (disch := (first | assumption | (apply Ne.symm; assumption))) only [vw0, vw1, vw2, vw3, vw4, vu0, vu1, ↓condV_t, ↓condV_f, cap_nil, allocV, splice, partV, buildV, eqFieldsV, eqS, tabs, TK.agg, reduceCtorEq, Array.toList, List.map_cons, List.map_nil, ↓reduceIte, List.length_map, Nat.reduceAdd, Nat.reduceLeDiff, Nat.reduceLT, Nat.reduceMul, Nat.reduceSub, Option.bind_some, Option.map_some, bndV, numV, eI, eU, e8, eB, AV.isCell, Int.reduceToNat, Int.reduceSub, Int.reduceAdd, Int.reduceNeg])
    exact fin_le (Heap.le_set hr) (hn (e.trans h2))
  · rw [Heap.set_none] at hq
    (try simp (maxSteps := 1000000) (disch := (first | assumption | (apply Ne.symm; assumption))) only [vw0, vw1, vw2, vw3, vw4, vu0, vu1, ↓condV_t, ↓condV_f, cap_nil, allocV, splice, partV, buildV, eqFieldsV, eqS, tabs, TK.agg, reduceCtorEq, Array.toList, List.map_cons, List.map_nil, ↓reduceIte, List.length_map, Nat.reduceAdd, Nat.reduceLeDiff, Nat.reduceLT, Nat.reduceMul, Nat.reduceSub, Option.bind_some, Option.map_some, bndV, numV, eI, eU, e8, eB, AV.isCell, Int.reduceToNat, Int.reduceSub, Int.reduceAdd, Int.reduceNeg])
    refine fin_le ?_ (hs o (e.trans h2) q hq.2)
    generalize cN o = z
    have := hq.1
    (intro y b hy; simp only [Heap.set, Heap.del] at hy ⊢; (repeat' split at hy) <;> (repeat' split) <;> simp_all [cells])

theorem BeforeIf_spec (p : Pg) (k : Int) (t : List Nd) (hp : vPg p) (ht : vT t) : Pu Try.prog 17 [aPg p, I k, Ns t] (optN (resBI p k t)) := by
  refine ⟨fun H => CallT.fin ?_⟩
  refine W17_ok ?_; simp (maxSteps := 1000000) (disch := (first | assumption | (apply Ne.symm; assumption))) only [W17, vw0, vw1, vw2, vw3, vw4, vu0, vu1, ↓condV_t, ↓condV_f, cap_nil, allocV, splice, partV, buildV, eqFieldsV, eqS, tabs, TK.agg, reduceCtorEq, Array.toList, List.map_cons, List.map_nil, ↓reduceIte, List.length_map, Nat.reduceAdd, Nat.reduceLeDiff, Nat.reduceLT, Nat.reduceMul, Nat.reduceSub, Option.bind_some, Option.map_some, bndV, numV, eI, eU, e8, eB, AV.isCell, Int.reduceToNat, Int.reduceSub, Int.reduceAdd, Int.reduceNeg]
  intro r hr
  refine Pu.use (l16Asked_spec p k t hp ht) ?_
  cases h : okBO p k t
  · (try simp (maxSteps := 1000000) (disch := (first | assumption | (apply Ne.symm; assumption))) only [vw0, vw1, vw2, vw3, vw4, vu0, vu1, ↓condV_t, ↓condV_f, cap_nil, allocV, splice, partV, buildV, eqFieldsV, eqS, tabs, TK.agg, reduceCtorEq, Array.toList, List.map_cons, List.map_nil, ↓reduceIte, List.length_map, Nat.reduceAdd, Nat.reduceLeDiff, Nat.reduceLT, Nat.reduceMul, Nat.reduceSub, Option.bind_some, Option.map_some, bndV, numV, eI, eU, e8, eB, AV.isCell, Int.reduceToNat, Int.reduceSub, Int.reduceAdd, Int.reduceNeg])
    exact ⟨_, H, .trans (.val (v' := .tup [Ns [], B false]) (wk_tup ⟨.nil, .refl _, trivial⟩)) (.forget (Heap.le_set hr)), by simp only [resBI, h, Bool.false_eq_true, if_false]; rfl, rfl⟩
  have hok := okBO_iff.1 h
  have e : resBI p k t = ifR p (p.cmds.getD k.toNat default) t := by simp only [resBI, h, if_true]
  (try simp (maxSteps := 1000000) (disch := (first | assumption | (apply Ne.symm; assumption))) only [vw0, vw1, vw2, vw3, vw4, vu0, vu1, ↓condV_t, ↓condV_f, cap_nil, allocV, splice, partV, buildV, eqFieldsV, eqS, tabs, TK.agg, reduceCtorEq, Array.toList, List.map_cons, List.map_nil, ↓reduceIte, List.length_map, Nat.reduceAdd, Nat.reduceLeDiff, Nat.reduceLT, Nat.reduceMul, Nat.reduceSub, Option.bind_some, Option.map_some, bndV, numV, eI, eU, e8, eB, AV.isCell, Int.reduceToNat, Int.reduceSub, Int.reduceAdd, Int.reduceNeg])
  refine Pu.use (l16If_spec p k t hok.1 hp ht hok.2.1) ?_
  (try simp (maxSteps := 1000000) (disch := (first | assumption | (apply Ne.symm; assumption))) only [vw0, vw1, vw2, vw3, vw4, vu0, vu1, ↓condV_t, ↓condV_f, cap_nil, allocV, splice, partV, buildV, eqFieldsV, eqS, tabs, TK.agg, reduceCtorEq, Array.toList, List.map_cons, List.map_nil, ↓reduceIte, List.length_map, Nat.reduceAdd, Nat.reduceLeDiff, Nat.reduceLT, Nat.reduceMul, Nat.reduceSub, Option.bind_some, Option.map_some, bndV, numV, eI, eU, e8, eB, AV.isCell, Int.reduceToNat, Int.reduceSub, Int.reduceAdd, Int.reduceNeg])
  exact fin_le (Heap.le_set hr) ⟨by rw [e], rfl⟩
end Go.Proofs.Ytlcnoflmlonikaa
