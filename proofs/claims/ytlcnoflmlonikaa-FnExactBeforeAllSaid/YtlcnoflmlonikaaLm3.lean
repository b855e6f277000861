/- Specs: what a condition asks before a command. -/
import Derived.Test.YtlcnoflmlonikaaLm2
namespace Go.Proofs.Ytlcnoflmlonikaa
open Go Go.Sep Go.Pt
set_option linter.unusedSimpArgs false
set_option linter.unusedVariables false
attribute [local irreducible] CallT

theorem goodCm_var {w v : Int} {c : Cm} (h : goodCm w v c = true) : ∀ x ∈ c.chs, 0 ≤ x.var ∧ x.var < v := by
  simp only [goodCm, Bool.and_eq_true, List.all_eq_true, List.mem_range] at h
  intro x hx
  obtain ⟨i, hi, rfl⟩ := List.mem_iff_getElem.1 hx
  have := h.2 i hi
  rw [getD_lt hi] at this
  simp only [goodCh, Bool.and_eq_true, inB_iff] at this
  omega
def putBy (p : Pg) (c : Cm) : List (List Nd) := byPut (byInit p.vars.toNat) c.chs
theorem byPut_all {P : List Nd → Prop} (chs : List Ch) : ∀ {bs : List (List Nd)}, (∀ b ∈ bs, P b) → (∀ c ∈ chs, P c.by_) → ∀ b ∈ byPut bs chs, P b := by
  induction chs with
  | nil => exact fun h _ => h
  | cons c cs ih =>
    intro bs hb hc
    refine ih (bs := bs.set c.var.toNat c.by_) (fun b hm => ?_) fun c hm => hc c (List.mem_cons_of_mem _ hm)
    rcases List.mem_or_eq_of_mem_set hm with h | rfl
    · exact hb b h
    · exact hc c (List.mem_cons_self ..)
theorem byInit_vT {n : Nat} (hn : n ≤ 1048576) : ∀ b ∈ byInit n, vT b := by
  intro b hb
  simp only [byInit, List.mem_map, List.mem_range] at hb
  obtain ⟨i, hi, rfl⟩ := hb
  exact ⟨by simp, fun x hx => by rw [List.mem_singleton] at hx; subst hx; unfold okN; simp only; omega⟩
theorem putBy_vT {p : Pg} {c : Cm} (hv : p.vars ≤ 4) (hc : vCm c) : ∀ b ∈ putBy p c, vT b := byPut_all _ (byInit_vT (by omega)) fun x hx => hc.2.2 x hx
theorem putBy_len (p : Pg) (c : Cm) : (putBy p c).length = p.vars.toNat := by rw [putBy, byPut_len, byInit_len]

theorem push_by {q : Nat} {bs : List (List Nd)} {b : List Nd} {G : Heap} {K : AV → Heap → Prop} (hq : G q = some (cP fNs bs)) (hl : bs.length ≤ 100000000)
    (h : ∀ q', G q' = none → q' ≠ q → K (rowP q' (bs ++ [b])) ((G.del q).set q' (cP fNs (bs ++ [b])))) :
    buildSliceV tab 67 1 [(0, Ns b)] G (wkK fun v H1 => appendV tab 67 67 (rowP q bs) v H1 (wkK K)) := by
  refine lit1 tab_67 rfl tab_28 ⟨rfl, rfl⟩ ?_
  refine app_row (f := fNs) (ys := [b]) tab_67 rfl tab_28 rfl (by decide) hq (by simp; omega) fun q' hq' => h q' hq' fun e => by rw [e, hq] at hq'; cases hq'

theorem cP_set {α : Type} {f : α → PV} {xs : List α} {i : Nat} {x : α} (hi : i < xs.length) : List.take i (cP f xs) ++ [AV.p (f x)] ++ List.drop (i + 1) (cP f xs) = cP f (xs.set i x) := by
  simp only [cP, ← List.map_take, ← List.map_drop]
  rw [List.set_eq_take_append_cons_drop, if_pos hi]
  simp

theorem beforeOne_impl (p : Pg) (k : Int) (t : List Nd) (hg : goodP p = true) (hp : vPg p) (ht : vT t) (hk : 0 ≤ k ∧ k < p.cmds.length) {H : Heap} {K : AV → Heap → Prop}
    (hn : putAll p.wide p.vars t (putBy p (p.cmds.getD k.toNat default)) = none → K (.tup [.p .nil, B false]) H)
    (hs : ∀ o, putAll p.wide p.vars t (putBy p (p.cmds.getD k.toNat default)) = some o → ∀ q, H q = none → K (.tup [rowN q o, B true]) (H.set q (cN o))) : CallT Try.prog 27 [aPg p, I k, Ns t] H K := by
  have hr := goodP_rng hg
  have hm : p.cmds.getD k.toNat default ∈ p.cmds := getD_all (p := fun x => x ∈ p.cmds) (fun _ h => h) (by omega)
  have hgc : goodCm p.wide p.vars (p.cmds.getD k.toNat default) = true := by
    simp only [goodP, Bool.and_eq_true, List.all_eq_true] at hg
    exact hg.2 _ hm
  have hvar := goodCm_var hgc
  have hvc := hp.2.2 _ hm
  have hcl := hvc.2.1
  refine CallT.fin ?_
  refine W27_ok ?_; simp (maxSteps := 1000000) (disch := (first | assumption | (apply Ne.symm; assumption))) only [W27, vw0, vw1, vw2, vw3, vw4, vu0, vu1, ↓condV_t, ↓condV_f, cap_nil, allocV, splice, partV, buildV, eqFieldsV, eqS, tabs, TK.agg, reduceCtorEq, Array.toList, List.map_cons, List.map_nil, ↓reduceIte, List.length_map, Nat.reduceAdd, Nat.reduceLeDiff, Nat.reduceLT, Nat.reduceMul, Nat.reduceSub, Option.bind_some, Option.map_some, bndV, numV, eI, eU, e8, eB, AV.isCell, Int.reduceToNat, Int.reduceSub, Int.reduceAdd, Int.reduceNeg, buildSliceV, zerosA, List.replicate_zero, List.flatten_nil]
  intro r hr0 q0 hq0r hq0
  refine wkK.keep ?_
  have hne : r ≠ q0 := Ne.symm hq0r
  (try simp (maxSteps := 1000000) (disch := (first | assumption | (apply Ne.symm; assumption))) only [vw0, vw1, vw2, vw3, vw4, vu0, vu1, ↓condV_t, ↓condV_f, cap_nil, allocV, splice, partV, buildV, eqFieldsV, eqS, tabs, TK.agg, reduceCtorEq, Array.toList, List.map_cons, List.map_nil, ↓reduceIte, List.length_map, Nat.reduceAdd, Nat.reduceLeDiff, Nat.reduceLT, Nat.reduceMul, Nat.reduceSub, Option.bind_some, Option.map_some, bndV, numV, eI, eU, e8, eB, AV.isCell, Int.reduceToNat, Int.reduceSub, Int.reduceAdd, Int.reduceNeg])
  refine L27_0_rule ((0 : Nat), q0) (fun s => rowP s.2 (byInit s.1)) (fun s => I s.1) (fun s => (H.set r [I p.wide, I p.vars, Ns p.start, Cms p.cmds]).set s.2 (cP fNs (byInit s.1)))
    (fun s => s.1 ≤ p.vars.toNat ∧ H s.2 = none ∧ s.2 ≠ r) (fun s => p.vars.toNat - s.1) ⟨⟨by simp, hq0, hq0r⟩, .refl _, .refl _, Heap.le_refl _⟩ ?_
  rintro ⟨i, q⟩ ⟨hi, hq, hqr⟩
  dsimp only at hi hq hqr
  have nqr : r ≠ q := Ne.symm hqr
  have w1 : IntKind.u64.wrap (i : Int) = i := by rw [IntKind.wrap_u64]; omega
  (try simp (maxSteps := 1000000) (disch := (first | assumption | (apply Ne.symm; assumption))) only [vw0, vw1, vw2, vw3, vw4, vu0, vu1, ↓condV_t, ↓condV_f, cap_nil, allocV, splice, partV, buildV, eqFieldsV, eqS, tabs, TK.agg, reduceCtorEq, Array.toList, List.map_cons, List.map_nil, ↓reduceIte, List.length_map, Nat.reduceAdd, Nat.reduceLeDiff, Nat.reduceLT, Nat.reduceMul, Nat.reduceSub, Option.bind_some, Option.map_some, bndV, numV, eI, eU, e8, eB, AV.isCell, Int.reduceToNat, Int.reduceSub, Int.reduceAdd, Int.reduceNeg, B27_0, w1])
  refine ⟨fun h1 => ?_, fun h1 => ?_⟩
  · refine lit_node (x := ⟨2, (i : Int)⟩) ?_
    refine push_by (q := q) (bs := byInit i) (b := [⟨2, (i : Int)⟩]) (Heap.set_same _ _ _) (by rw [byInit_len]; omega) fun q' hq' hne' => ?_
    simp only [Heap.set_none] at hq'
    obtain ⟨p1, p2, p3⟩ := hq'
    rw [← byInit_succ]
    (try simp (maxSteps := 1000000) (disch := (first | assumption | (apply Ne.symm; assumption))) only [vw0, vw1, vw2, vw3, vw4, vu0, vu1, ↓condV_t, ↓condV_f, cap_nil, allocV, splice, partV, buildV, eqFieldsV, eqS, tabs, TK.agg, reduceCtorEq, Array.toList, List.map_cons, List.map_nil, ↓reduceIte, List.length_map, Nat.reduceAdd, Nat.reduceLeDiff, Nat.reduceLT, Nat.reduceMul, Nat.reduceSub, Option.bind_some, Option.map_some, bndV, numV, eI, eU, e8, eB, AV.isCell, Int.reduceToNat, Int.reduceSub, Int.reduceAdd, Int.reduceNeg])
    refine ⟨(i + 1, q'), ⟨by simp only; omega, p3, p2⟩, by simp only; omega, ?_, ?_, ?_⟩
    · exact .refl _
    · rw [wk_int, i64_id (by omega) (by omega)]; simp
    · generalize cP fNs (byInit (i + 1)) = z
      (intro y b hy; simp only [Heap.set, Heap.del] at hy ⊢; (repeat' split at hy) <;> (repeat' split) <;> simp_all [cells])
  have hiv : i = p.vars.toNat := by omega
  subst hiv
  refine ⟨by omega, by omega, ?_⟩
  generalize hC : p.cmds.getD k.toNat default = c at hn hs hgc hvar hvc hcl ⊢
  refine L27_1_rule (0 : Nat) (fun i => I i) (fun i => (H.set r [I p.wide, I p.vars, Ns p.start, Cms p.cmds]).set q (cP fNs (byPut (byInit p.vars.toNat) (c.chs.take i)))) (fun i => i ≤ c.chs.length) (fun i => c.chs.length - i) ⟨by omega, .refl _, Heap.le_refl _⟩ ?_
  intro i hi
  have hlen : (byPut (byInit p.vars.toNat) (c.chs.take i)).length = p.vars.toNat := by rw [byPut_len, byInit_len]
  (try simp (maxSteps := 1000000) (disch := (first | assumption | (apply Ne.symm; assumption))) only [vw0, vw1, vw2, vw3, vw4, vu0, vu1, ↓condV_t, ↓condV_f, cap_nil, allocV, splice, partV, buildV, eqFieldsV, eqS, tabs, TK.agg, reduceCtorEq, Array.toList, List.map_cons, List.map_nil, ↓reduceIte, List.length_map, Nat.reduceAdd, Nat.reduceLeDiff, Nat.reduceLT, Nat.reduceMul, Nat.reduceSub, Option.bind_some, Option.map_some, bndV, numV, eI, eU, e8, eB, AV.isCell, Int.reduceToNat, Int.reduceSub, Int.reduceAdd, Int.reduceNeg, B27_1, hlen])
  refine ⟨fun h5 => ⟨by omega, h5, ?_⟩, fun h5 => ?_⟩
  · have hlt : i < c.chs.length := by omega
    have hmx : c.chs.getD i default ∈ c.chs := getD_all (p := fun x => x ∈ c.chs) (fun _ h => h) hlt
    have hx := hvar _ hmx
    have hsucc : byPut (byInit p.vars.toNat) (c.chs.take (i + 1)) = (byPut (byInit p.vars.toNat) (c.chs.take i)).set (c.chs.getD i default).var.toNat (c.chs.getD i default).by_ := by rw [take_succ_snoc hlt, byPut_snoc]
    generalize c.chs.getD i default = x at hx hsucc ⊢
    intro r9 n9q n9r hr9
    (try simp (maxSteps := 1000000) (disch := (first | assumption | (apply Ne.symm; assumption))) only [vw0, vw1, vw2, vw3, vw4, vu0, vu1, ↓condV_t, ↓condV_f, cap_nil, allocV, splice, partV, buildV, eqFieldsV, eqS, tabs, TK.agg, reduceCtorEq, Array.toList, List.map_cons, List.map_nil, ↓reduceIte, List.length_map, Nat.reduceAdd, Nat.reduceLeDiff, Nat.reduceLT, Nat.reduceMul, Nat.reduceSub, Option.bind_some, Option.map_some, bndV, numV, eI, eU, e8, eB, AV.isCell, Int.reduceToNat, Int.reduceSub, Int.reduceAdd, Int.reduceNeg])
    have e1 : List.take (x.var.toNat * 1) (cP fNs (byPut (byInit p.vars.toNat) (c.chs.take i))) ++ [AV.p (PV.sl (x.by_.map eN))] ++ List.drop (x.var.toNat * 1 + 1) (cP fNs (byPut (byInit p.vars.toNat) (c.chs.take i))) = cP fNs (byPut (byInit p.vars.toNat) (c.chs.take (i + 1))) := by
      rw [hsucc, Nat.mul_one]; exact cP_set (f := fNs) (by omega)
    refine ⟨hx.1, by rw [byInit_len]; omega, by omega, i + 1, by omega, by omega, ?_, ?_⟩
    · rw [wk_int, i64_id (by omega) (by omega)]; simp
    · rw [e1]
      generalize cP fNs (byPut (byInit p.vars.toNat) (c.chs.take (i + 1))) = z
      (intro y b hy; simp only [Heap.set, Heap.del] at hy ⊢; (repeat' split at hy) <;> (repeat' split) <;> simp_all [cells])
  · have : i = c.chs.length := by omega
    subst this
    rw [List.take_length]
    (try simp (maxSteps := 1000000) (disch := (first | assumption | (apply Ne.symm; assumption))) only [vw0, vw1, vw2, vw3, vw4, vu0, vu1, ↓condV_t, ↓condV_f, cap_nil, allocV, splice, partV, buildV, eqFieldsV, eqS, tabs, TK.agg, reduceCtorEq, Array.toList, List.map_cons, List.map_nil, ↓reduceIte, List.length_map, Nat.reduceAdd, Nat.reduceLeDiff, Nat.reduceLT, Nat.reduceMul, Nat.reduceSub, Option.bind_some, Option.map_some, bndV, numV, eI, eU, e8, eB, AV.isCell, Int.reduceToNat, Int.reduceSub, Int.reduceAdd, Int.reduceNeg])
    have el : rowP q (byInit p.vars.toNat) = rowP q (putBy p c) := by simp only [rowP, putBy_len, byInit_len]
    have hdel : (((H.set r [I p.wide, I p.vars, Ns p.start, Cms p.cmds]).set q (cP fNs (putBy p c))).del q) = H.set r [I p.wide, I p.vars, Ns p.start, Cms p.cmds] := Heap.del_set (by rw [Heap.set_other hqr]; exact hq)
    rw [el]
    have hw : Wk (.tup [I p.wide, I p.vars, Ns t, rowP q (putBy p c)]) ((H.set r [I p.wide, I p.vars, Ns p.start, Cms p.cmds]).set q (cP fNs (putBy p c))) (.tup [I p.wide, I p.vars, Ns t, NNs (putBy p c)]) (H.set r [I p.wide, I p.vars, Ns p.start, Cms p.cmds]) := by
      have := Wk.frz (r := q) (sz := 1) (es := (putBy p c).map fun b => [fNs b]) (H := (H.set r [I p.wide, I p.vars, Ns p.start, Cms p.cmds]).set q (cP fNs (putBy p c))) (v := .tup [I p.wide, I p.vars, Ns t, rowP q (putBy p c)]) (v' := .tup [I p.wide, I p.vars, Ns t, vP fNs (putBy p c)]) (by omega) (by rw [Heap.set_same, flat_P]) (szP _ _) (.tup (.cons (.same _) (.cons (.same _) (.cons (.same _) (.cons frz_row .nil)))))
      rwa [hdel] at this
    refine CallT.pre (PutAll_impl p.wide p.vars t (putBy p c) ht (by rw [putBy_len]; omega) (putBy_vT hr.2.2 hvc) (fun h => ?_) (fun o h q' hq' => ?_)) hw
    · (try simp (maxSteps := 1000000) (disch := (first | assumption | (apply Ne.symm; assumption))) only [vw0, vw1, vw2, vw3, vw4, vu0, vu1, ↓condV_t, ↓condV_f, cap_nil, allocV, splice, partV, buildV, eqFieldsV, eqS, tabs, TK.agg, reduceCtorEq, Array.toList, List.map_cons, List.map_nil, ↓reduceIte, List.length_map, Nat.reduceAdd, Nat.reduceLeDiff, Nat.reduceLT, Nat.reduceMul, Nat.reduceSub, Option.bind_some, Option.map_some, bndV, numV, eI, eU, e8, eB, AV.isCell, Int.reduceToNat, Int.reduceSub, Int.reduceAdd, Int.reduceNeg])
      exact fin_le (Heap.le_set hr0) (hn h)
    · rw [Heap.set_none] at hq'
      (try simp (maxSteps := 1000000) (disch := (first | assumption | (apply Ne.symm; assumption))) only [vw0, vw1, vw2, vw3, vw4, vu0, vu1, ↓condV_t, ↓condV_f, cap_nil, allocV, splice, partV, buildV, eqFieldsV, eqS, tabs, TK.agg, reduceCtorEq, Array.toList, List.map_cons, List.map_nil, ↓reduceIte, List.length_map, Nat.reduceAdd, Nat.reduceLeDiff, Nat.reduceLT, Nat.reduceMul, Nat.reduceSub, Option.bind_some, Option.map_some, bndV, numV, eI, eU, e8, eB, AV.isCell, Int.reduceToNat, Int.reduceSub, Int.reduceAdd, Int.reduceNeg])
      refine fin_le ?_ (hs o h q' hq'.2)
      generalize cN o = z
      (intro y b hy; simp only [Heap.set, Heap.del] at hy ⊢; (repeat' split at hy) <;> (repeat' split) <;> simp_all [cells])

theorem l16One_spec (p : Pg) (k : Int) (t : List Nd) (hg : goodP p = true) (hp : vPg p) (ht : vT t) (hk : 0 ≤ k ∧ k < p.cmds.length) : Pu Try.prog 23 [aPg p, I k, Ns t] (optN (putAll p.wide p.vars t (putBy p (p.cmds.getD k.toNat default)))) := by
  have hr := goodP_rng hg
  have hm : p.cmds.getD k.toNat default ∈ p.cmds := getD_all (p := fun x => x ∈ p.cmds) (fun _ h => h) (by omega)
  have hgc : goodCm p.wide p.vars (p.cmds.getD k.toNat default) = true := by
    simp only [goodP, Bool.and_eq_true, List.all_eq_true] at hg
    exact hg.2 _ hm
  have hvar := goodCm_var hgc
  have hvc := hp.2.2 _ hm
  have hcl := hvc.2.1
  refine ⟨fun H => CallT.fin ?_⟩
  refine CallT.ghost W23_hb fun q0 hq0 => ?_
  refine W23_ok ?_; simp (maxSteps := 1000000) (disch := (first | assumption | (apply Ne.symm; assumption))) only [W23, vw0, vw1, vw2, vw3, vw4, vu0, vu1, ↓condV_t, ↓condV_f, cap_nil, allocV, splice, partV, buildV, eqFieldsV, eqS, tabs, TK.agg, reduceCtorEq, Array.toList, List.map_cons, List.map_nil, ↓reduceIte, List.length_map, Nat.reduceAdd, Nat.reduceLeDiff, Nat.reduceLT, Nat.reduceMul, Nat.reduceSub, Option.bind_some, Option.map_some, bndV, numV, eI, eU, e8, eB, AV.isCell, Int.reduceToNat, Int.reduceSub, Int.reduceAdd, Int.reduceNeg]
  intro r hrq hr0
  refine L23_0_rule ((0 : Nat), q0) (fun s => rowP s.2 (byInit s.1)) (fun s => I s.1) (fun s => (H.set r [I p.wide, I p.vars, Ns p.start, Cms p.cmds]).set s.2 (cP fNs (byInit s.1)))
    (fun s => s.1 ≤ p.vars.toNat ∧ H s.2 = none ∧ s.2 ≠ r) (fun s => p.vars.toNat - s.1) ⟨⟨by simp, hq0, Ne.symm hrq⟩, .nilo _ _ _, .refl _, ?_⟩ ?_
  · simp only [byInit, List.range_zero, List.map_nil, cP]
    (intro y b hy; simp only [Heap.set, Heap.del] at hy ⊢; (repeat' split at hy) <;> (repeat' split) <;> simp_all [cells])
  rintro ⟨i, q⟩ ⟨hi, hq, hqr⟩
  dsimp only at hi hq hqr
  have nqr : r ≠ q := Ne.symm hqr
  have w1 : IntKind.u64.wrap (i : Int) = i := by rw [IntKind.wrap_u64]; omega
  (try simp (maxSteps := 1000000) (disch := (first | assumption | (apply Ne.symm; assumption))) only [vw0, vw1, vw2, vw3, vw4, vu0, vu1, ↓condV_t, ↓condV_f, cap_nil, allocV, splice, partV, buildV, eqFieldsV, eqS, tabs, TK.agg, reduceCtorEq, Array.toList, List.map_cons, List.map_nil, ↓reduceIte, List.length_map, Nat.reduceAdd, Nat.reduceLeDiff, Nat.reduceLT, Nat.reduceMul, Nat.reduceSub, Option.bind_some, Option.map_some, bndV, numV, eI, eU, e8, eB, AV.isCell, Int.reduceToNat, Int.reduceSub, Int.reduceAdd, Int.reduceNeg, B23_0, w1])
  refine ⟨fun h1 => ?_, fun h1 => ?_⟩
  · refine lit_node (x := ⟨2, (i : Int)⟩) ?_
    refine push_by (q := q) (bs := byInit i) (b := [⟨2, (i : Int)⟩]) (Heap.set_same _ _ _) (by rw [byInit_len]; omega) fun q' hq' hne' => ?_
    simp only [Heap.set_none] at hq'
    obtain ⟨p1, p2, p3⟩ := hq'
    rw [← byInit_succ]
    (try simp (maxSteps := 1000000) (disch := (first | assumption | (apply Ne.symm; assumption))) only [vw0, vw1, vw2, vw3, vw4, vu0, vu1, ↓condV_t, ↓condV_f, cap_nil, allocV, splice, partV, buildV, eqFieldsV, eqS, tabs, TK.agg, reduceCtorEq, Array.toList, List.map_cons, List.map_nil, ↓reduceIte, List.length_map, Nat.reduceAdd, Nat.reduceLeDiff, Nat.reduceLT, Nat.reduceMul, Nat.reduceSub, Option.bind_some, Option.map_some, bndV, numV, eI, eU, e8, eB, AV.isCell, Int.reduceToNat, Int.reduceSub, Int.reduceAdd, Int.reduceNeg])
    refine ⟨(i + 1, q'), ⟨by simp only; omega, p3, p2⟩, by simp only; omega, ?_, ?_, ?_⟩
    · exact .refl _
    · rw [wk_int, i64_id (by omega) (by omega)]; simp
    · generalize cP fNs (byInit (i + 1)) = z
      (intro y b hy; simp only [Heap.set, Heap.del] at hy ⊢; (repeat' split at hy) <;> (repeat' split) <;> simp_all [cells])
  have hiv : i = p.vars.toNat := by omega
  subst hiv
  refine ⟨by omega, by omega, ?_⟩
  generalize hC : p.cmds.getD k.toNat default = c at hgc hvar hvc hcl ⊢
  refine L23_1_rule (0 : Nat) (fun i => I i) (fun i => (H.set r [I p.wide, I p.vars, Ns p.start, Cms p.cmds]).set q (cP fNs (byPut (byInit p.vars.toNat) (c.chs.take i)))) (fun i => i ≤ c.chs.length) (fun i => c.chs.length - i) ⟨by omega, .refl _, Heap.le_refl _⟩ ?_
  intro i hi
  have hlen : (byPut (byInit p.vars.toNat) (c.chs.take i)).length = p.vars.toNat := by rw [byPut_len, byInit_len]
  (try simp (maxSteps := 1000000) (disch := (first | assumption | (apply Ne.symm; assumption))) only [vw0, vw1, vw2, vw3, vw4, vu0, vu1, ↓condV_t, ↓condV_f, cap_nil, allocV, splice, partV, buildV, eqFieldsV, eqS, tabs, TK.agg, reduceCtorEq, Array.toList, List.map_cons, List.map_nil, ↓reduceIte, List.length_map, Nat.reduceAdd, Nat.reduceLeDiff, Nat.reduceLT, Nat.reduceMul, Nat.reduceSub, Option.bind_some, Option.map_some, bndV, numV, eI, eU, e8, eB, AV.isCell, Int.reduceToNat, Int.reduceSub, Int.reduceAdd, Int.reduceNeg, B23_1, hlen])
  refine ⟨fun h5 => ⟨by omega, h5, ?_⟩, fun h5 => ?_⟩
  · have hlt : i < c.chs.length := by omega
    have hmx : c.chs.getD i default ∈ c.chs := getD_all (p := fun x => x ∈ c.chs) (fun _ h => h) hlt
    have hx := hvar _ hmx
    have hsucc : byPut (byInit p.vars.toNat) (c.chs.take (i + 1)) = (byPut (byInit p.vars.toNat) (c.chs.take i)).set (c.chs.getD i default).var.toNat (c.chs.getD i default).by_ := by rw [take_succ_snoc hlt, byPut_snoc]
    generalize c.chs.getD i default = x at hx hsucc ⊢
    intro r9 n9q n9r hr9
    (try simp (maxSteps := 1000000) (disch := (first | assumption | (apply Ne.symm; assumption))) only [vw0, vw1, vw2, vw3, vw4, vu0, vu1, ↓condV_t, ↓condV_f, cap_nil, allocV, splice, partV, buildV, eqFieldsV, eqS, tabs, TK.agg, reduceCtorEq, Array.toList, List.map_cons, List.map_nil, ↓reduceIte, List.length_map, Nat.reduceAdd, Nat.reduceLeDiff, Nat.reduceLT, Nat.reduceMul, Nat.reduceSub, Option.bind_some, Option.map_some, bndV, numV, eI, eU, e8, eB, AV.isCell, Int.reduceToNat, Int.reduceSub, Int.reduceAdd, Int.reduceNeg])
    have e1 : List.take (x.var.toNat * 1) (cP fNs (byPut (byInit p.vars.toNat) (c.chs.take i))) ++ [AV.p (PV.sl (x.by_.map eN))] ++ List.drop (x.var.toNat * 1 + 1) (cP fNs (byPut (byInit p.vars.toNat) (c.chs.take i))) = cP fNs (byPut (byInit p.vars.toNat) (c.chs.take (i + 1))) := by
      rw [hsucc, Nat.mul_one]; exact cP_set (f := fNs) (by omega)
    refine ⟨hx.1, by rw [byInit_len]; omega, by omega, i + 1, by omega, by omega, ?_, ?_⟩
    · rw [wk_int, i64_id (by omega) (by omega)]; simp
    · rw [e1]
      generalize cP fNs (byPut (byInit p.vars.toNat) (c.chs.take (i + 1))) = z
      (intro y b hy; simp only [Heap.set, Heap.del] at hy ⊢; (repeat' split at hy) <;> (repeat' split) <;> simp_all [cells])
  · have : i = c.chs.length := by omega
    subst this
    rw [List.take_length]
    (try simp (maxSteps := 1000000) (disch := (first | assumption | (apply Ne.symm; assumption))) only [vw0, vw1, vw2, vw3, vw4, vu0, vu1, ↓condV_t, ↓condV_f, cap_nil, allocV, splice, partV, buildV, eqFieldsV, eqS, tabs, TK.agg, reduceCtorEq, Array.toList, List.map_cons, List.map_nil, ↓reduceIte, List.length_map, Nat.reduceAdd, Nat.reduceLeDiff, Nat.reduceLT, Nat.reduceMul, Nat.reduceSub, Option.bind_some, Option.map_some, bndV, numV, eI, eU, e8, eB, AV.isCell, Int.reduceToNat, Int.reduceSub, Int.reduceAdd, Int.reduceNeg])
    have el : rowP q (byInit p.vars.toNat) = rowP q (putBy p c) := by simp only [rowP, putBy_len, byInit_len]
    have hdel : (((H.set r [I p.wide, I p.vars, Ns p.start, Cms p.cmds]).set q (cP fNs (putBy p c))).del q) = H.set r [I p.wide, I p.vars, Ns p.start, Cms p.cmds] := Heap.del_set (by rw [Heap.set_other hqr]; exact hq)
    rw [el]
    have hw : Wk (.tup [I p.wide, I p.vars, Ns t, rowP q (putBy p c)]) ((H.set r [I p.wide, I p.vars, Ns p.start, Cms p.cmds]).set q (cP fNs (putBy p c))) (.tup [I p.wide, I p.vars, Ns t, NNs (putBy p c)]) (H.set r [I p.wide, I p.vars, Ns p.start, Cms p.cmds]) := by
      have := Wk.frz (r := q) (sz := 1) (es := (putBy p c).map fun b => [fNs b]) (H := (H.set r [I p.wide, I p.vars, Ns p.start, Cms p.cmds]).set q (cP fNs (putBy p c))) (v := .tup [I p.wide, I p.vars, Ns t, rowP q (putBy p c)]) (v' := .tup [I p.wide, I p.vars, Ns t, vP fNs (putBy p c)]) (by omega) (by rw [Heap.set_same, flat_P]) (szP _ _) (.tup (.cons (.same _) (.cons (.same _) (.cons (.same _) (.cons frz_row .nil)))))
      rwa [hdel] at this
    refine CallT.pre (Pu.use (PutAll_spec p.wide p.vars t (putBy p c) ht (by rw [putBy_len]; omega) (putBy_vT hr.2.2 hvc)) ?_) hw
    (try simp (maxSteps := 1000000) (disch := (first | assumption | (apply Ne.symm; assumption))) only [vw0, vw1, vw2, vw3, vw4, vu0, vu1, ↓condV_t, ↓condV_f, cap_nil, allocV, splice, partV, buildV, eqFieldsV, eqS, tabs, TK.agg, reduceCtorEq, Array.toList, List.map_cons, List.map_nil, ↓reduceIte, List.length_map, Nat.reduceAdd, Nat.reduceLeDiff, Nat.reduceLT, Nat.reduceMul, Nat.reduceSub, Option.bind_some, Option.map_some, bndV, numV, eI, eU, e8, eB, AV.isCell, Int.reduceToNat, Int.reduceSub, Int.reduceAdd, Int.reduceNeg])
    exact fin_le (Heap.le_set hr0) ⟨rfl, rfl⟩

def okBO (p : Pg) (k : Int) (t : List Nd) : Bool := goodP p && (decide (0 ≤ k) && decide (k < p.cmds.length)) && decide (kind p.wide p.vars t = 2)
def resBO (p : Pg) (k : Int) (t : List Nd) : Option (List Nd) := if okBO p k t then putAll p.wide p.vars t (putBy p (p.cmds.getD k.toNat default)) else none
theorem isCommandNo_spec (p : Pg) (k : Int) (hl : p.cmds.length ≤ 1048576) : Pu Try.prog 43 [aPg p, I k] (B (decide (0 ≤ k) && decide (k < p.cmds.length))) := by
  refine Pu.of fun H => ?_
  refine W43_ok ?_; simp (maxSteps := 1000000) (disch := (first | assumption | (apply Ne.symm; assumption))) only [W43, vw0, vw1, vw2, vw3, vw4, vu0, vu1, ↓condV_t, ↓condV_f, cap_nil, allocV, splice, partV, buildV, eqFieldsV, eqS, tabs, TK.agg, reduceCtorEq, Array.toList, List.map_cons, List.map_nil, ↓reduceIte, List.length_map, Nat.reduceAdd, Nat.reduceLeDiff, Nat.reduceLT, Nat.reduceMul, Nat.reduceSub, Option.bind_some, Option.map_some, bndV, numV, eI, eU, e8, eB, AV.isCell, Int.reduceToNat, Int.reduceSub, Int.reduceAdd, Int.reduceNeg]
  intro r hr
  refine ⟨fun h1 => ⟨?_, Heap.le_set hr⟩, fun h1 => ⟨?_, Heap.le_set hr⟩⟩
  · simp [show 0 ≤ k from h1]
  · simp [show ¬ 0 ≤ k from h1]
theorem isBefore_spec (p : Pg) (k : Int) (t : List Nd) (hp : vPg p) (ht : vT t) : Pu Try.prog 26 [aPg p, I k, Ns t] (B (okBO p k t)) := by
  refine Pu.of fun H => ?_
  refine W26_ok ?_; simp (maxSteps := 1000000) (disch := (first | assumption | (apply Ne.symm; assumption))) only [W26, vw0, vw1, vw2, vw3, vw4, vu0, vu1, ↓condV_t, ↓condV_f, cap_nil, allocV, splice, partV, buildV, eqFieldsV, eqS, tabs, TK.agg, reduceCtorEq, Array.toList, List.map_cons, List.map_nil, ↓reduceIte, List.length_map, Nat.reduceAdd, Nat.reduceLeDiff, Nat.reduceLT, Nat.reduceMul, Nat.reduceSub, Option.bind_some, Option.map_some, bndV, numV, eI, eU, e8, eB, AV.isCell, Int.reduceToNat, Int.reduceSub, Int.reduceAdd, Int.reduceNeg]
  intro r hr
  refine Pu.use (GoodProgram_impl p hp) ?_
  cases h : goodP p
  · (try simp (maxSteps := 1000000) (disch := (first | assumption | (apply Ne.symm; assumption))) only [vw0, vw1, vw2, vw3, vw4, vu0, vu1, ↓condV_t, ↓condV_f, cap_nil, allocV, splice, partV, buildV, eqFieldsV, eqS, tabs, TK.agg, reduceCtorEq, Array.toList, List.map_cons, List.map_nil, ↓reduceIte, List.length_map, Nat.reduceAdd, Nat.reduceLeDiff, Nat.reduceLT, Nat.reduceMul, Nat.reduceSub, Option.bind_some, Option.map_some, bndV, numV, eI, eU, e8, eB, AV.isCell, Int.reduceToNat, Int.reduceSub, Int.reduceAdd, Int.reduceNeg])
    exact ⟨by simp only [okBO, h, Bool.false_and], Heap.le_set hr⟩
  (try simp (maxSteps := 1000000) (disch := (first | assumption | (apply Ne.symm; assumption))) only [vw0, vw1, vw2, vw3, vw4, vu0, vu1, ↓condV_t, ↓condV_f, cap_nil, allocV, splice, partV, buildV, eqFieldsV, eqS, tabs, TK.agg, reduceCtorEq, Array.toList, List.map_cons, List.map_nil, ↓reduceIte, List.length_map, Nat.reduceAdd, Nat.reduceLeDiff, Nat.reduceLT, Nat.reduceMul, Nat.reduceSub, Option.bind_some, Option.map_some, bndV, numV, eI, eU, e8, eB, AV.isCell, Int.reduceToNat, Int.reduceSub, Int.reduceAdd, Int.reduceNeg])
  refine Pu.use (isCommandNo_spec p k hp.2.1) ?_
  cases h1 : (decide (0 ≤ k) && decide (k < p.cmds.length))
  · (try simp (maxSteps := 1000000) (disch := (first | assumption | (apply Ne.symm; assumption))) only [vw0, vw1, vw2, vw3, vw4, vu0, vu1, ↓condV_t, ↓condV_f, cap_nil, allocV, splice, partV, buildV, eqFieldsV, eqS, tabs, TK.agg, reduceCtorEq, Array.toList, List.map_cons, List.map_nil, ↓reduceIte, List.length_map, Nat.reduceAdd, Nat.reduceLeDiff, Nat.reduceLT, Nat.reduceMul, Nat.reduceSub, Option.bind_some, Option.map_some, bndV, numV, eI, eU, e8, eB, AV.isCell, Int.reduceToNat, Int.reduceSub, Int.reduceAdd, Int.reduceNeg])
    exact ⟨by simp only [okBO, h, h1, Bool.true_and, Bool.false_and], Heap.le_set hr⟩
  (try simp (maxSteps := 1000000) (disch := (first | assumption | (apply Ne.symm; assumption))) only [vw0, vw1, vw2, vw3, vw4, vu0, vu1, ↓condV_t, ↓condV_f, cap_nil, allocV, splice, partV, buildV, eqFieldsV, eqS, tabs, TK.agg, reduceCtorEq, Array.toList, List.map_cons, List.map_nil, ↓reduceIte, List.length_map, Nat.reduceAdd, Nat.reduceLeDiff, Nat.reduceLT, Nat.reduceMul, Nat.reduceSub, Option.bind_some, Option.map_some, bndV, numV, eI, eU, e8, eB, AV.isCell, Int.reduceToNat, Int.reduceSub, Int.reduceAdd, Int.reduceNeg])
  refine Pu.use (isCondition_spec p t ht) ?_
  (try simp (maxSteps := 1000000) (disch := (first | assumption | (apply Ne.symm; assumption))) only [vw0, vw1, vw2, vw3, vw4, vu0, vu1, ↓condV_t, ↓condV_f, cap_nil, allocV, splice, partV, buildV, eqFieldsV, eqS, tabs, TK.agg, reduceCtorEq, Array.toList, List.map_cons, List.map_nil, ↓reduceIte, List.length_map, Nat.reduceAdd, Nat.reduceLeDiff, Nat.reduceLT, Nat.reduceMul, Nat.reduceSub, Option.bind_some, Option.map_some, bndV, numV, eI, eU, e8, eB, AV.isCell, Int.reduceToNat, Int.reduceSub, Int.reduceAdd, Int.reduceNeg])
  exact ⟨by simp only [okBO, h, h1, Bool.true_and], Heap.le_set hr⟩
theorem l16Asked_spec (p : Pg) (k : Int) (t : List Nd) (hp : vPg p) (ht : vT t) : Pu Try.prog 22 [aPg p, I k, Ns t] (B (okBO p k t)) := by
  have hl := hp.2.1
  refine Pu.of fun H => ?_
  refine W22_ok ?_; simp (maxSteps := 1000000) (disch := (first | assumption | (apply Ne.symm; assumption))) only [W22, vw0, vw1, vw2, vw3, vw4, vu0, vu1, ↓condV_t, ↓condV_f, cap_nil, allocV, splice, partV, buildV, eqFieldsV, eqS, tabs, TK.agg, reduceCtorEq, Array.toList, List.map_cons, List.map_nil, ↓reduceIte, List.length_map, Nat.reduceAdd, Nat.reduceLeDiff, Nat.reduceLT, Nat.reduceMul, Nat.reduceSub, Option.bind_some, Option.map_some, bndV, numV, eI, eU, e8, eB, AV.isCell, Int.reduceToNat, Int.reduceSub, Int.reduceAdd, Int.reduceNeg]
  intro r hr
  refine Pu.use (GoodProgram_spec p hp) ?_
  cases h : goodP p
  · (try simp (maxSteps := 1000000) (disch := (first | assumption | (apply Ne.symm; assumption))) only [vw0, vw1, vw2, vw3, vw4, vu0, vu1, ↓condV_t, ↓condV_f, cap_nil, allocV, splice, partV, buildV, eqFieldsV, eqS, tabs, TK.agg, reduceCtorEq, Array.toList, List.map_cons, List.map_nil, ↓reduceIte, List.length_map, Nat.reduceAdd, Nat.reduceLeDiff, Nat.reduceLT, Nat.reduceMul, Nat.reduceSub, Option.bind_some, Option.map_some, bndV, numV, eI, eU, e8, eB, AV.isCell, Int.reduceToNat, Int.reduceSub, Int.reduceAdd, Int.reduceNeg])
    exact ⟨by simp only [okBO, h, Bool.false_and], Heap.le_set hr⟩
  have e : IntKind.i64.wrap ((p.cmds.length : Int) - 1) = p.cmds.length - 1 := i64_id (by omega) (by omega)
  (try simp (maxSteps := 1000000) (disch := (first | assumption | (apply Ne.symm; assumption))) only [vw0, vw1, vw2, vw3, vw4, vu0, vu1, ↓condV_t, ↓condV_f, cap_nil, allocV, splice, partV, buildV, eqFieldsV, eqS, tabs, TK.agg, reduceCtorEq, Array.toList, List.map_cons, List.map_nil, ↓reduceIte, List.length_map, Nat.reduceAdd, Nat.reduceLeDiff, Nat.reduceLT, Nat.reduceMul, Nat.reduceSub, Option.bind_some, Option.map_some, bndV, numV, eI, eU, e8, eB, AV.isCell, Int.reduceToNat, Int.reduceSub, Int.reduceAdd, Int.reduceNeg, e])
  refine Pu.use (l1In_B ..) ?_
  cases h1 : (decide (0 ≤ k) && decide (k < p.cmds.length))
  · have h2 : inB k 0 (p.cmds.length - 1) = false := by
      rw [Bool.eq_false_iff]; intro hh; rw [inB_iff] at hh
      simp only [Bool.and_eq_false_iff, decide_eq_false_iff_not] at h1; omega
    rw [h2]
    (try simp (maxSteps := 1000000) (disch := (first | assumption | (apply Ne.symm; assumption))) only [vw0, vw1, vw2, vw3, vw4, vu0, vu1, ↓condV_t, ↓condV_f, cap_nil, allocV, splice, partV, buildV, eqFieldsV, eqS, tabs, TK.agg, reduceCtorEq, Array.toList, List.map_cons, List.map_nil, ↓reduceIte, List.length_map, Nat.reduceAdd, Nat.reduceLeDiff, Nat.reduceLT, Nat.reduceMul, Nat.reduceSub, Option.bind_some, Option.map_some, bndV, numV, eI, eU, e8, eB, AV.isCell, Int.reduceToNat, Int.reduceSub, Int.reduceAdd, Int.reduceNeg])
    exact ⟨by simp only [okBO, h, h1, Bool.true_and, Bool.false_and], Heap.le_set hr⟩
  have h2 : inB k 0 (p.cmds.length - 1) = true := by
    rw [inB_iff]; simp only [Bool.and_eq_true, decide_eq_true_eq] at h1; omega
  rw [h2]
  (try simp (maxSteps := 1000000) (disch := (first | assumption | (apply Ne.symm; assumption))) only [vw0, vw1, vw2, vw3, vw4, vu0, vu1, ↓condV_t, ↓condV_f, cap_nil, allocV, splice, partV, buildV, eqFieldsV, eqS, tabs, TK.agg, reduceCtorEq, Array.toList, List.map_cons, List.map_nil, ↓reduceIte, List.length_map, Nat.reduceAdd, Nat.reduceLeDiff, Nat.reduceLT, Nat.reduceMul, Nat.reduceSub, Option.bind_some, Option.map_some, bndV, numV, eI, eU, e8, eB, AV.isCell, Int.reduceToNat, Int.reduceSub, Int.reduceAdd, Int.reduceNeg])
  refine Pu.use (l7Asks_spec p t ht) ?_
  (try simp (maxSteps := 1000000) (disch := (first | assumption | (apply Ne.symm; assumption))) only [vw0, vw1, vw2, vw3, vw4, vu0, vu1, ↓condV_t, ↓condV_f, cap_nil, allocV, splice, partV, buildV, eqFieldsV, eqS, tabs, TK.agg, reduceCtorEq, Array.toList, List.map_cons, List.map_nil, ↓reduceIte, List.length_map, Nat.reduceAdd, Nat.reduceLeDiff, Nat.reduceLT, Nat.reduceMul, Nat.reduceSub, Option.bind_some, Option.map_some, bndV, numV, eI, eU, e8, eB, AV.isCell, Int.reduceToNat, Int.reduceSub, Int.reduceAdd, Int.reduceNeg])
  exact ⟨by simp only [okBO, h, h1, Bool.true_and], Heap.le_set hr⟩
theorem okBO_iff {p : Pg} {k : Int} {t : List Nd} : okBO p k t = true ↔ goodP p = true ∧ (0 ≤ k ∧ k < p.cmds.length) ∧ kind p.wide p.vars t = 2 := by
  simp only [okBO, Bool.and_eq_true, decide_eq_true_eq, and_assoc]

theorem BeforeOne_impl (p : Pg) (k : Int) (t : List Nd) (hp : vPg p) (ht : vT t) {H : Heap} {K : AV → Heap → Prop}
    (hn : resBO p k t = none → K (.tup [.p .nil, B false]) H)
    (hs : ∀ o, resBO p k t = some o → ∀ q, H q = none → K (.tup [rowN q o, B true]) (H.set q (cN o))) : CallT Try.prog 11 [aPg p, I k, Ns t] H K := by
  refine CallT.fin ?_
  refine W11_ok ?_; simp (maxSteps := 1000000) (disch := (first | assumption | (apply Ne.symm; assumption))) only [W11, vw0, vw1, vw2, vw3, vw4, vu0, vu1, ↓condV_t, ↓condV_f, cap_nil, allocV, splice, partV, buildV, eqFieldsV, eqS, tabs, TK.agg, reduceCtorEq, Array.toList, List.map_cons, List.map_nil, ↓reduceIte, List.length_map, Nat.reduceAdd, Nat.reduceLeDiff, Nat.reduceLT, Nat.reduceMul, Nat.reduceSub, Option.bind_some, Option.map_some, bndV, numV, eI, eU, e8, eB, AV.isCell, Int.reduceToNat, Int.reduceSub, Int.reduceAdd, Int.reduceNeg]
  intro r hr
  refine Pu.use (isBefore_spec p k t hp ht) ?_
  cases h : okBO p k t
  · (try simp (maxSteps := 1000000) (disch := (first | assumption | (apply Ne.symm; assumption))) only [vw0, vw1, vw2, vw3, vw4, vu0, vu1, ↓condV_t, ↓condV_f, cap_nil, allocV, splice, partV, buildV, eqFieldsV, eqS, tabs, TK.agg, reduceCtorEq, Array.toList, List.map_cons, List.map_nil, ↓reduceIte, List.length_map, Nat.reduceAdd, Nat.reduceLeDiff, Nat.reduceLT, Nat.reduceMul, Nat.reduceSub, Option.bind_some, Option.map_some, bndV, numV, eI, eU, e8, eB, AV.isCell, Int.reduceToNat, Int.reduceSub, Int.reduceAdd, Int.reduceNeg])
    exact fin_le (Heap.le_set hr) (hn (by simp only [resBO, h, Bool.false_eq_true, if_false]))
  have hok := okBO_iff.1 h
  have e : resBO p k t = putAll p.wide p.vars t (putBy p (p.cmds.getD k.toNat default)) := by simp only [resBO, h, if_true]
  (try simp (maxSteps := 1000000) (disch := (first | assumption | (apply Ne.symm; assumption))) only [vw0, vw1, vw2, vw3, vw4, vu0, vu1, ↓condV_t, ↓condV_f, cap_nil, allocV, splice, partV, buildV, eqFieldsV, eqS, tabs, TK.agg, reduceCtorEq, Array.toList, List.map_cons, List.map_nil, ↓reduceIte, List.length_map, Nat.reduceAdd, Nat.reduceLeDiff, Nat.reduceLT, Nat.reduceMul, Nat.reduceSub, Option.bind_some, Option.map_some, bndV, numV, eI, eU, e8, eB, AV.isCell, Int.reduceToNat, Int.reduceSub, Int.reduceAdd, Int.reduceNeg])
  refine beforeOne_impl p k t hok.1 hp ht hok.2.1 (fun h2 => ?_) (fun o h2 q hq => ?_)
  · (try simp (maxSteps := 1000000) (disch := (first | assumption | (apply Ne.symm; assumption))) only [vw0, vw1, vw2, vw3, vw4, vu0, vu1, ↓condV_t, ↓condV_f, cap_nil, allocV, splice, partV, buildV, eqFieldsV, eqS, tabs, TK.agg, reduceCtorEq, Array.toList, List.map_cons, List.map_nil, ↓reduceIte, List.length_map, Nat.reduceAdd, Nat.reduceLeDiff, Nat.reduceLT, Nat.reduceMul, Nat.reduceSub, Option.bind_some, Option.map_some, bndV, numV, eI, eU, e8, eB, AV.isCell, Int.reduceToNat, Int.reduceSub, Int.reduceAdd, Int.reduceNeg])
    exact fin_le (Heap.le_set hr) (hn (e.trans h2))
  · rw [Heap.set_none] at hq
    (try simp (maxSteps := 1000000) (disch := (first | assumption | (apply Ne.symm; assumption))) only [vw0, vw1, vw2, vw3, vw4, vu0, vu1, ↓condV_t, ↓condV_f, cap_nil, allocV, splice, partV, buildV, eqFieldsV, eqS, tabs, TK.agg, reduceCtorEq, Array.toList, List.map_cons, List.map_nil, ↓reduceIte, List.length_map, Nat.reduceAdd, Nat.reduceLeDiff, Nat.reduceLT, Nat.reduceMul, Nat.reduceSub, Option.bind_some, Option.map_some, bndV, numV, eI, eU, e8, eB, AV.isCell, Int.reduceToNat, Int.reduceSub, Int.reduceAdd, Int.reduceNeg])
    refine fin_le ?_ (hs o (e.trans h2) q hq.2)
    generalize cN o = z
    have := hq.1
    (intro y b hy; simp only [Heap.set, Heap.del] at hy ⊢; (repeat' split at hy) <;> (repeat' split) <;> simp_all [cells])

theorem BeforeOne_spec (p : Pg) (k : Int) (t : List Nd) (hp : vPg p) (ht : vT t) : Pu Try.prog 8 [aPg p, I k, Ns t] (optN (resBO p k t)) := by
  refine ⟨fun H => CallT.fin ?_⟩
  refine W8_ok ?_; simp (maxSteps := 1000000) (disch := (first | assumption | (apply Ne.symm; assumption))) only [W8, vw0, vw1, vw2, vw3, vw4, vu0, vu1, ↓condV_t, ↓condV_f, cap_nil, allocV, splice, partV, buildV, eqFieldsV, eqS, tabs, TK.agg, reduceCtorEq, Array.toList, List.map_cons, List.map_nil, ↓reduceIte, List.length_map, Nat.reduceAdd, Nat.reduceLeDiff, Nat.reduceLT, Nat.reduceMul, Nat.reduceSub, Option.bind_some, Option.map_some, bndV, numV, eI, eU, e8, eB, AV.isCell, Int.reduceToNat, Int.reduceSub, Int.reduceAdd, Int.reduceNeg]
  intro r hr
  refine Pu.use (l16Asked_spec p k t hp ht) ?_
  cases h : okBO p k t
  · (try simp (maxSteps := 1000000) (disch := (first | assumption | (apply Ne.symm; assumption))) only [vw0, vw1, vw2, vw3, vw4, vu0, vu1, ↓condV_t, ↓condV_f, cap_nil, allocV, splice, partV, buildV, eqFieldsV, eqS, tabs, TK.agg, reduceCtorEq, Array.toList, List.map_cons, List.map_nil, ↓reduceIte, List.length_map, Nat.reduceAdd, Nat.reduceLeDiff, Nat.reduceLT, Nat.reduceMul, Nat.reduceSub, Option.bind_some, Option.map_some, bndV, numV, eI, eU, e8, eB, AV.isCell, Int.reduceToNat, Int.reduceSub, Int.reduceAdd, Int.reduceNeg])
    exact ⟨_, H, .trans (.val (v' := .tup [Ns [], B false]) (wk_tup ⟨.nil, .refl _, trivial⟩)) (.forget (Heap.le_set hr)), by simp only [resBO, h, Bool.false_eq_true, if_false]; rfl, rfl⟩
  have hok := okBO_iff.1 h
  have e : resBO p k t = putAll p.wide p.vars t (putBy p (p.cmds.getD k.toNat default)) := by simp only [resBO, h, if_true]
  (try simp (maxSteps := 1000000) (disch := (first | assumption | (apply Ne.symm; assumption))) only [vw0, vw1, vw2, vw3, vw4, vu0, vu1, ↓condV_t, ↓condV_f, cap_nil, allocV, splice, partV, buildV, eqFieldsV, eqS, tabs, TK.agg, reduceCtorEq, Array.toList, List.map_cons, List.map_nil, ↓reduceIte, List.length_map, Nat.reduceAdd, Nat.reduceLeDiff, Nat.reduceLT, Nat.reduceMul, Nat.reduceSub, Option.bind_some, Option.map_some, bndV, numV, eI, eU, e8, eB, AV.isCell, Int.reduceToNat, Int.reduceSub, Int.reduceAdd, Int.reduceNeg])
  refine Pu.use (l16One_spec p k t hok.1 hp ht hok.2.1) ?_
  (try simp (maxSteps := 1000000) (disch := (first | assumption | (apply Ne.symm; assumption))) only [vw0, vw1, vw2, vw3, vw4, vu0, vu1, ↓condV_t, ↓condV_f, cap_nil, allocV, splice, partV, buildV, eqFieldsV, eqS, tabs, TK.agg, reduceCtorEq, Array.toList, List.map_cons, List.map_nil, ↓reduceIte, List.length_map, Nat.reduceAdd, Nat.reduceLeDiff, Nat.reduceLT, Nat.reduceMul, Nat.reduceSub, Option.bind_some, Option.map_some, bndV, numV, eI, eU, e8, eB, AV.isCell, Int.reduceToNat, Int.reduceSub, Int.reduceAdd, Int.reduceNeg])
  exact fin_le (Heap.le_set hr) ⟨by rw [e], rfl⟩
end Go.Proofs.Ytlcnoflmlonikaa
