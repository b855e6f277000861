/- Specs: terms and their kinds. -/
import Derived.Test.YtgcklgeifdefhaaGreatLe3
import Derived.Test.YtgcklgeifdefhaaGreatLf1
namespace Go.Proofs.YtgcklgeifdefhaaGreat
open Go Go.Sep Go.Pt
set_option linter.unusedSimpArgs false
set_option linter.unusedVariables false
attribute [local irreducible] CallT

theorem GoodTerm1_at (x k : Int) {H : Heap} : PuAt Tryz.prog 174 [I x, .fp [.int .i64 k]] H (B (decide (x ≠ k))) := by
  intro K hK
  refine W174_ok ?_; simp (maxSteps := 1000000) (disch := (first | assumption | (apply Ne.symm; assumption))) only [W174, vw0, vw1, vw2, vw3, vw4, vu0, vu1, ↓condV_t, ↓condV_f, cap_nil, allocV, splice, partV, buildV, eqFieldsV, eqS, tabs, TK.agg, reduceCtorEq, Array.toList, List.map_cons, List.map_nil, ↓reduceIte, List.length_map, Nat.reduceAdd, Nat.reduceLeDiff, Nat.reduceLT, Nat.reduceMul, Nat.reduceSub, Option.bind_some, Option.map_some, bndV, numV, eI, eU, e8, eB, AV.isCell, Int.reduceToNat, Int.reduceSub, Int.reduceAdd, Int.reduceNeg, load_fp]
  simpa using hK

/-- Whether one of the last elements of a row of one's own is another one. -/
theorem Contains_row {q r m o : Nat} {p : List Int} {k : Int} {G : Heap} (hq : G q = some (cP fI p)) (hr : G r = some [I k]) (hqr : q ≠ r) (ho : o + m = p.length) {K : AV → Heap → Prop} (h : K (B ((p.drop o).any fun x => decide (x ≠ k))) G) (hl : p.length ≤ 1000) :
    CallT Tryz.prog 100 [.sl q 1 o m, .fn 174 [.ptr r 0]] G K := by
  refine CallT.thaw (args' := [Is (p.drop o), .fn 174 [.fp [.int .i64 k]]]) (v := B ((p.drop o).any fun x => decide (x ≠ k))) (H1 := (G.del q).del r) ?_ (.bool _) ?_ h
  · exact (ContainsFunc_at (p.drop o) _ _ (fun x => decide (x ≠ k)) (by simp; omega) fun x _ => GoodTerm1_at x k) _ rfl
  · refine .trans (Wk.frzS (r := q) (es := p.map fI) (v' := .tup [Is (p.drop o), .fn 174 [.ptr r 0]]) ?_ ?_) (Wk.frzS (r := r) (es := [.int .i64 k]) ?_ ?_)
    · rw [hq]; simp [cP]
    · have := FrzS.part (r := q) (es := p.map fI) o m (by simp; omega)
      have e : ((List.drop o (p.map fI)).take m).map (fun v => [v]) = (p.drop o).map eI := by
        rw [List.take_of_length_le (by simp; omega), ← List.map_drop, List.map_map]; rfl
      rw [e] at this
      exact .tup (.cons this (.cons (.same _) .nil))
    · rw [Heap.del_other hqr.symm]; exact hr
    · exact .tup (.cons (.same _) (.cons (.fn _ (.cons (.ptr 0) .nil)) .nil))

/-- Whether a term is good. -/
def gtI (w v : Int) (t : List Nd) : Bool := frame w v t && (match run w v [] t with
  | some p => decide (p.length = 1)
  | none => false)
theorem gtI_none {w v : Int} {t : List Nd} (h : run w v [] t = none) : gtI w v t = false := by simp [gtI, h]

theorem step_some {w v : Int} {p : List Int} {x : Nd} (h1 : Pt.own x.op ≠ 0) (h2 : leafOk w v x = true) (h3 : many x.op ≤ p.length) (h4 : ((p.drop (p.length - many x.op)).any fun k => decide (k ≠ Pt.part x.op)) = false) : Pt.step w v p x = some (p.take (p.length - many x.op) ++ [Pt.own x.op]) := by
  unfold Pt.step
  rw [if_neg (by rintro (h | h | h); exact h1 h; rw [h2] at h; cases h; omega), if_neg (by rw [h4]; simp)]
theorem step_none {w v : Int} {p : List Int} {x : Nd} (h : Pt.own x.op = 0 ∨ leafOk w v x = false ∨ p.length < many x.op) : Pt.step w v p x = none := by unfold Pt.step; rw [if_pos h]
theorem step_any {w v : Int} {p : List Int} {x : Nd} (h : ((p.drop (p.length - many x.op)).any fun k => decide (k ≠ Pt.part x.op)) = true) : Pt.step w v p x = none := by
  unfold Pt.step
  split
  · rfl
  · first | rfl | rw [if_pos h]
theorem many_le (op : Int) : many op ≤ 2 := by unfold many; split <;> (try split) <;> omega

theorem GoodTerm_spec (w v : Int) (t : List Nd) (hl : t.length ≤ 1048576) (ht : ∀ x ∈ t, okN x) : Pu Tryz.prog 139 [I w, I v, Ns t] (B (gtI w v t)) := by
  refine Pu.of fun H => ?_
  have bad : frame w v t = false → B false = B (gtI w v t) := fun h => by simp only [gtI, h, Bool.false_and]
  refine W139_ok ?_; simp (maxSteps := 1000000) (disch := (first | assumption | (apply Ne.symm; assumption))) only [W139, vw0, vw1, vw2, vw3, vw4, vu0, vu1, ↓condV_t, ↓condV_f, cap_nil, allocV, splice, partV, buildV, eqFieldsV, eqS, tabs, TK.agg, reduceCtorEq, Array.toList, List.map_cons, List.map_nil, ↓reduceIte, List.length_map, Nat.reduceAdd, Nat.reduceLeDiff, Nat.reduceLT, Nat.reduceMul, Nat.reduceSub, Option.bind_some, Option.map_some, bndV, numV, eI, eU, e8, eB, AV.isCell, Int.reduceToNat, Int.reduceSub, Int.reduceAdd, Int.reduceNeg, buildSliceV, zerosA, List.replicate_zero, List.flatten_nil]
  refine Pu.use (isWide_spec w) ?_
  cases hw : inB w 1 64
  · (try simp (maxSteps := 1000000) (disch := (first | assumption | (apply Ne.symm; assumption))) only [vw0, vw1, vw2, vw3, vw4, vu0, vu1, ↓condV_t, ↓condV_f, cap_nil, allocV, splice, partV, buildV, eqFieldsV, eqS, tabs, TK.agg, reduceCtorEq, Array.toList, List.map_cons, List.map_nil, ↓reduceIte, List.length_map, Nat.reduceAdd, Nat.reduceLeDiff, Nat.reduceLT, Nat.reduceMul, Nat.reduceSub, Option.bind_some, Option.map_some, bndV, numV, eI, eU, e8, eB, AV.isCell, Int.reduceToNat, Int.reduceSub, Int.reduceAdd, Int.reduceNeg])
    exact bad (by simp only [frame, hw, Bool.false_and])
  (try simp (maxSteps := 1000000) (disch := (first | assumption | (apply Ne.symm; assumption))) only [vw0, vw1, vw2, vw3, vw4, vu0, vu1, ↓condV_t, ↓condV_f, cap_nil, allocV, splice, partV, buildV, eqFieldsV, eqS, tabs, TK.agg, reduceCtorEq, Array.toList, List.map_cons, List.map_nil, ↓reduceIte, List.length_map, Nat.reduceAdd, Nat.reduceLeDiff, Nat.reduceLT, Nat.reduceMul, Nat.reduceSub, Option.bind_some, Option.map_some, bndV, numV, eI, eU, e8, eB, AV.isCell, Int.reduceToNat, Int.reduceSub, Int.reduceAdd, Int.reduceNeg])
  refine Pu.use (isVars_spec v) ?_
  cases hv : inB v 1 4
  · (try simp (maxSteps := 1000000) (disch := (first | assumption | (apply Ne.symm; assumption))) only [vw0, vw1, vw2, vw3, vw4, vu0, vu1, ↓condV_t, ↓condV_f, cap_nil, allocV, splice, partV, buildV, eqFieldsV, eqS, tabs, TK.agg, reduceCtorEq, Array.toList, List.map_cons, List.map_nil, ↓reduceIte, List.length_map, Nat.reduceAdd, Nat.reduceLeDiff, Nat.reduceLT, Nat.reduceMul, Nat.reduceSub, Option.bind_some, Option.map_some, bndV, numV, eI, eU, e8, eB, AV.isCell, Int.reduceToNat, Int.reduceSub, Int.reduceAdd, Int.reduceNeg])
    exact bad (by simp only [frame, hw, hv, Bool.false_and, Bool.and_false])
  (try simp (maxSteps := 1000000) (disch := (first | assumption | (apply Ne.symm; assumption))) only [vw0, vw1, vw2, vw3, vw4, vu0, vu1, ↓condV_t, ↓condV_f, cap_nil, allocV, splice, partV, buildV, eqFieldsV, eqS, tabs, TK.agg, reduceCtorEq, Array.toList, List.map_cons, List.map_nil, ↓reduceIte, List.length_map, Nat.reduceAdd, Nat.reduceLeDiff, Nat.reduceLT, Nat.reduceMul, Nat.reduceSub, Option.bind_some, Option.map_some, bndV, numV, eI, eU, e8, eB, AV.isCell, Int.reduceToNat, Int.reduceSub, Int.reduceAdd, Int.reduceNeg])
  refine ⟨fun h1 => ?_, fun h1 => ⟨fun h2 => ?_, fun h2 => ?_⟩⟩
  · have : ¬ 1 ≤ t.length := by omega
    exact bad (by simp only [frame, this, decide_false, Bool.false_and, Bool.and_false])
  · have : ¬ t.length ≤ 48 := by omega
    exact bad (by simp only [frame, this, decide_false, Bool.and_false])
  have hf : frame w v t = true := by
    have a1 : 1 ≤ t.length := by omega
    have a2 : t.length ≤ 48 := by omega
    simp only [frame, hw, hv, a1, a2, decide_true, Bool.and_true]
  rw [inB_iff] at hw hv
  intro q0 hq0
  refine wkK.keep ?_
  (try simp (maxSteps := 1000000) (disch := (first | assumption | (apply Ne.symm; assumption))) only [vw0, vw1, vw2, vw3, vw4, vu0, vu1, ↓condV_t, ↓condV_f, cap_nil, allocV, splice, partV, buildV, eqFieldsV, eqS, tabs, TK.agg, reduceCtorEq, Array.toList, List.map_cons, List.map_nil, ↓reduceIte, List.length_map, Nat.reduceAdd, Nat.reduceLeDiff, Nat.reduceLT, Nat.reduceMul, Nat.reduceSub, Option.bind_some, Option.map_some, bndV, numV, eI, eU, e8, eB, AV.isCell, Int.reduceToNat, Int.reduceSub, Int.reduceAdd, Int.reduceNeg])
  refine L139_0_rule ((0 : Nat), q0, ([] : List Int)) (fun s => rowP s.2.1 s.2.2) (fun s => I s.1) (fun s => H.set s.2.1 (cP fI s.2.2)) (fun s => s.1 ≤ t.length ∧ run w v [] (t.take s.1) = some s.2.2 ∧ H s.2.1 = none ∧ s.2.2.length ≤ s.1) (fun s => t.length - s.1)
    ⟨⟨by simp, by simp [run], hq0, by simp⟩, .refl _, .refl _, Heap.le_refl _⟩ ?_
  rintro ⟨i, q, p⟩ ⟨hi, hrun, hq, hpl⟩
  dsimp only at hi hrun hq hpl
  (try simp (maxSteps := 1000000) (disch := (first | assumption | (apply Ne.symm; assumption))) only [vw0, vw1, vw2, vw3, vw4, vu0, vu1, ↓condV_t, ↓condV_f, cap_nil, allocV, splice, partV, buildV, eqFieldsV, eqS, tabs, TK.agg, reduceCtorEq, Array.toList, List.map_cons, List.map_nil, ↓reduceIte, List.length_map, Nat.reduceAdd, Nat.reduceLeDiff, Nat.reduceLT, Nat.reduceMul, Nat.reduceSub, Option.bind_some, Option.map_some, bndV, numV, eI, eU, e8, eB, AV.isCell, Int.reduceToNat, Int.reduceSub, Int.reduceAdd, Int.reduceNeg, B139_0])
  refine ⟨fun h => ⟨by omega, h, ?_⟩, fun h => ?_⟩
  · have hlt : i < t.length := by omega
    have hm : t.getD i default ∈ t := getD_all (p := fun x => x ∈ t) (fun _ h => h) hlt
    have hx := ht _ hm
    have hnone := fun hs => run_none w v hlt hrun hs
    have hsnoc : ∀ p', Pt.step w v p (t.getD i default) = some p' → run w v [] (t.take (i + 1)) = some p' := fun p' hs => by
      rw [take_succ_snoc hlt, run_snoc, hrun]; exact hs
    generalize t.getD i default = x at hx hnone hsnoc ⊢
    intro r9 n9 hr9
    (try simp (maxSteps := 1000000) (disch := (first | assumption | (apply Ne.symm; assumption))) only [vw0, vw1, vw2, vw3, vw4, vu0, vu1, ↓condV_t, ↓condV_f, cap_nil, allocV, splice, partV, buildV, eqFieldsV, eqS, tabs, TK.agg, reduceCtorEq, Array.toList, List.map_cons, List.map_nil, ↓reduceIte, List.length_map, Nat.reduceAdd, Nat.reduceLeDiff, Nat.reduceLT, Nat.reduceMul, Nat.reduceSub, Option.bind_some, Option.map_some, bndV, numV, eI, eU, e8, eB, AV.isCell, Int.reduceToNat, Int.reduceSub, Int.reduceAdd, Int.reduceNeg])
    have hle9 : Heap.le H ((H.set q (cP fI p)).set r9 [I x.op, U x.n]) := Heap.le_setN (Heap.le_set hq) hr9
    refine operandsOf_spec x.op fun pp hpp => ?_
    (try simp (maxSteps := 1000000) (disch := (first | assumption | (apply Ne.symm; assumption))) only [vw0, vw1, vw2, vw3, vw4, vu0, vu1, ↓condV_t, ↓condV_f, cap_nil, allocV, splice, partV, buildV, eqFieldsV, eqS, tabs, TK.agg, reduceCtorEq, Array.toList, List.map_cons, List.map_nil, ↓reduceIte, List.length_map, Nat.reduceAdd, Nat.reduceLeDiff, Nat.reduceLT, Nat.reduceMul, Nat.reduceSub, Option.bind_some, Option.map_some, bndV, numV, eI, eU, e8, eB, AV.isCell, Int.reduceToNat, Int.reduceSub, Int.reduceAdd, Int.reduceNeg])
    intro r11 n119 n11q hr11
    have hml := many_le x.op
    have e : IntKind.i64.wrap (↑p.length - ↑(many x.op)) = (p.length : Int) - many x.op := i64_id (by omega) (by omega)
    have hle11 : Heap.le H (((H.set q (cP fI p)).set r9 [I x.op, U x.n]).set r11 [I pp]) := Heap.le_setN hle9 hr11
    have nn : r9 ≠ r11 := Ne.symm n119
    (try simp (maxSteps := 1000000) (disch := (first | assumption | (apply Ne.symm; assumption))) only [vw0, vw1, vw2, vw3, vw4, vu0, vu1, ↓condV_t, ↓condV_f, cap_nil, allocV, splice, partV, buildV, eqFieldsV, eqS, tabs, TK.agg, reduceCtorEq, Array.toList, List.map_cons, List.map_nil, ↓reduceIte, List.length_map, Nat.reduceAdd, Nat.reduceLeDiff, Nat.reduceLT, Nat.reduceMul, Nat.reduceSub, Option.bind_some, Option.map_some, bndV, numV, eI, eU, e8, eB, AV.isCell, Int.reduceToNat, Int.reduceSub, Int.reduceAdd, Int.reduceNeg, e])
    refine ⟨fun h0 => ⟨by rw [gtI_none (hnone (step_none (.inl h0)))], hle11⟩, fun h0 => ?_⟩
    refine Pu.use (isLeafRight_spec w v x hv hx) ?_
    cases hlf : leafOk w v x
    · (try simp (maxSteps := 1000000) (disch := (first | assumption | (apply Ne.symm; assumption))) only [vw0, vw1, vw2, vw3, vw4, vu0, vu1, ↓condV_t, ↓condV_f, cap_nil, allocV, splice, partV, buildV, eqFieldsV, eqS, tabs, TK.agg, reduceCtorEq, Array.toList, List.map_cons, List.map_nil, ↓reduceIte, List.length_map, Nat.reduceAdd, Nat.reduceLeDiff, Nat.reduceLT, Nat.reduceMul, Nat.reduceSub, Option.bind_some, Option.map_some, bndV, numV, eI, eU, e8, eB, AV.isCell, Int.reduceToNat, Int.reduceSub, Int.reduceAdd, Int.reduceNeg])
      exact ⟨by rw [gtI_none (hnone (step_none (.inr (.inl hlf))))], hle11⟩
    (try simp (maxSteps := 1000000) (disch := (first | assumption | (apply Ne.symm; assumption))) only [vw0, vw1, vw2, vw3, vw4, vu0, vu1, ↓condV_t, ↓condV_f, cap_nil, allocV, splice, partV, buildV, eqFieldsV, eqS, tabs, TK.agg, reduceCtorEq, Array.toList, List.map_cons, List.map_nil, ↓reduceIte, List.length_map, Nat.reduceAdd, Nat.reduceLeDiff, Nat.reduceLT, Nat.reduceMul, Nat.reduceSub, Option.bind_some, Option.map_some, bndV, numV, eI, eU, e8, eB, AV.isCell, Int.reduceToNat, Int.reduceSub, Int.reduceAdd, Int.reduceNeg])
    refine ⟨fun h3 => ⟨by rw [gtI_none (hnone (step_none (.inr (.inr (by omega)))))], hle11⟩, fun h3 => ⟨by omega, by omega, by omega, ?_⟩⟩
    have e2 : ((p.length : Int) - many x.op).toNat = p.length - many x.op := by omega
    have e3 : ((p.length : Int) - ((p.length : Int) - many x.op)).toNat = many x.op := by omega
    rw [e2, e3]
    have hqG : ∀ z1 z2, (((H.set q (cP fI p)).set r9 z1).set r11 z2) q = some (cP fI p) := fun z1 z2 => by rw [Heap.set_other (Ne.symm n11q), Heap.set_other (Ne.symm n9), Heap.set_same]
    refine Contains_row (p := p) (k := pp) (o := (p.length - many x.op) * 1) (m := many x.op) (hqG _ _) (Heap.set_same _ _ _) (Ne.symm n11q) (by omega) ?_ (by omega)
    have hany : ((p.drop ((p.length - many x.op) * 1)).any fun k => decide (k ≠ pp)) = ((p.drop (p.length - many x.op)).any fun k => decide (k ≠ Pt.part x.op)) := by
      rw [Nat.mul_one]
      rcases hpp with h0 | rfl
      · rw [h0, Nat.sub_zero, List.drop_length]; rfl
      · rfl
    rw [hany]
    cases ha : ((p.drop (p.length - many x.op)).any fun k => decide (k ≠ Pt.part x.op))
    · (try simp (maxSteps := 1000000) (disch := (first | assumption | (apply Ne.symm; assumption))) only [vw0, vw1, vw2, vw3, vw4, vu0, vu1, ↓condV_t, ↓condV_f, cap_nil, allocV, splice, partV, buildV, eqFieldsV, eqS, tabs, TK.agg, reduceCtorEq, Array.toList, List.map_cons, List.map_nil, ↓reduceIte, List.length_map, Nat.reduceAdd, Nat.reduceLeDiff, Nat.reduceLT, Nat.reduceMul, Nat.reduceSub, Option.bind_some, Option.map_some, bndV, numV, eI, eU, e8, eB, AV.isCell, Int.reduceToNat, Int.reduceSub, Int.reduceAdd, Int.reduceNeg])
      refine ⟨by omega, by omega, by omega, ?_⟩
      refine lit1 tab_46 rfl tab_3 ⟨rfl, rfl⟩ ?_
      try rw [show ((p.length : Int) - many x.op).toNat = p.length - many x.op by omega]
      refine app_prefix (f := fI) (xs := p) (ys := [Pt.own x.op]) tab_46 rfl tab_3 rfl (by decide) (hqG _ _) (by omega) (by simp; omega) fun q' hq' hne => ?_
      simp only [Heap.set_none] at hq'
      obtain ⟨p1, p2, p3, p4⟩ := hq'
      (try simp (maxSteps := 1000000) (disch := (first | assumption | (apply Ne.symm; assumption))) only [vw0, vw1, vw2, vw3, vw4, vu0, vu1, ↓condV_t, ↓condV_f, cap_nil, allocV, splice, partV, buildV, eqFieldsV, eqS, tabs, TK.agg, reduceCtorEq, Array.toList, List.map_cons, List.map_nil, ↓reduceIte, List.length_map, Nat.reduceAdd, Nat.reduceLeDiff, Nat.reduceLT, Nat.reduceMul, Nat.reduceSub, Option.bind_some, Option.map_some, bndV, numV, eI, eU, e8, eB, AV.isCell, Int.reduceToNat, Int.reduceSub, Int.reduceAdd, Int.reduceNeg])
      refine ⟨(i + 1, q', p.take (p.length - many x.op) ++ [Pt.own x.op]), ⟨by simp only; omega, hsnoc _ (step_some h0 hlf (by omega) ha), p4, by simp; omega⟩, by simp only; omega, ?_, ?_, ?_⟩
      · simp only [List.length_append, List.length_cons, List.length_nil]; exact .refl _
      · rw [wk_int, i64_id (by omega) (by omega)]; simp
      · generalize cP fI (p.take (p.length - many x.op) ++ [Pt.own x.op]) = z
        (intro y b hy; simp only [Heap.set, Heap.del] at hy ⊢; (repeat' split at hy) <;> (repeat' split) <;> simp_all [cells])
    · (try simp (maxSteps := 1000000) (disch := (first | assumption | (apply Ne.symm; assumption))) only [vw0, vw1, vw2, vw3, vw4, vu0, vu1, ↓condV_t, ↓condV_f, cap_nil, allocV, splice, partV, buildV, eqFieldsV, eqS, tabs, TK.agg, reduceCtorEq, Array.toList, List.map_cons, List.map_nil, ↓reduceIte, List.length_map, Nat.reduceAdd, Nat.reduceLeDiff, Nat.reduceLT, Nat.reduceMul, Nat.reduceSub, Option.bind_some, Option.map_some, bndV, numV, eI, eU, e8, eB, AV.isCell, Int.reduceToNat, Int.reduceSub, Int.reduceAdd, Int.reduceNeg])
      exact ⟨by rw [gtI_none (hnone (step_any ha))], hle11⟩
  · have : i = t.length := by omega
    subst this
    rw [List.take_length] at hrun
    have hle : Heap.le H (H.set q (cP fI p)) := Heap.le_set hq
    refine ⟨?_, hle⟩
    simp only [gtI, hf, hrun, Bool.true_and]
    congr 2
    apply decide_eq_decide.2; omega
end Go.Proofs.YtgcklgeifdefhaaGreat
