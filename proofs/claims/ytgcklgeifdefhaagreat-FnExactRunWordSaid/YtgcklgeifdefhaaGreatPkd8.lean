/- Texts laid together: Le7 Le8a Lr1 Lt1 Lt2 Mt0 Pm1 Ma1 Lt3 Lt4 Ma2 Ma3 Ma4 Mg0 Pf1. -/
import Derived.Test.YtgcklgeifdefhaaGreatPkd7
set_option linter.unusedVariables false
set_option linter.unusedSimpArgs false
open Nat renaming reduceAdd → ν1, reduceLeDiff → ν2, reduceLT → ν3, reduceMul → ν4, reduceSub → ν5
open Int renaming reduceToNat → ι1, reduceSub → ι2, reduceAdd → ι3, reduceNeg → ι4
open Array renaming toList → ι5
open Ne renaming symm → ν6
open List renaming forall_mem_cons → ν7
namespace Go.Proofs.YtgcklgeifdefhaaGreat
open Go Go.Sep Go.Pt
attribute [local irreducible] CallT
theorem GoodProgram1_at (p : Pg) (c : Cm) (r : Nat) {H : Heap} (hr : H r = some [I p.wide, I p.vars, Ns p.start, Cms p.cmds]) (hc : vCm c) : PuAt Tryz.prog 132 [aCm c, .ptr r 0] H (B (!goodCm p.wide p.vars c)) := by
  intro K hK
  refine CallT.fin ?_
  refine W132_ok ?_; simp (maxSteps := 1000000) (disch := first | assumption | (apply ν6; assumption)) only [W132, vz, vu, vv, eqS, eF_, ↓c1_, ↓c2_, tabs, reduceCtorEq, ι5, ↓reduceIte, ν1, ν2, ν3, ν4, ν5, ι1, ι2, ι3, ι4]
  intro r2 hr2
  have n2 : r ≠ r2 := by rintro rfl; rw [hr] at hr2; cases hr2
  (try simp (maxSteps := 1000000) (disch := first | assumption | (apply ν6; assumption)) only [vz, vu, vv, eqS, eF_, ↓c1_, ↓c2_, tabs, reduceCtorEq, ι5, ↓reduceIte, ν1, ν2, ν3, ν4, ν5, ι1, ι2, ι3, ι4, load_at hr])
  refine Pu.use (isCommand_spec p c hc) ?_
  (try simp (maxSteps := 1000000) (disch := first | assumption | (apply ν6; assumption)) only [vz, vu, vv, eqS, eF_, ↓c1_, ↓c2_, tabs, reduceCtorEq, ι5, ↓reduceIte, ν1, ν2, ν3, ν4, ν5, ι1, ι2, ι3, ι4])
  exact fin_le (Heap.le_set hr2) hK
theorem goodP_f {p : Pg} (h : ¬ (kind p.wide p.vars p.start = 2 ∧ 1 ≤ p.cmds.length ∧ p.cmds.length ≤ 6)) : B false = B (goodP p) := by
  have : goodP p = false := by
    rw [Bool.eq_false_iff]; intro h2
    simp only [goodP, Bool.and_eq_true, decide_eq_true_eq] at h2
    exact h ⟨h2.1.1, h2.1.2⟩
  rw [this]
theorem goodP_e {p : Pg} (h : kind p.wide p.vars p.start = 2 ∧ 1 ≤ p.cmds.length ∧ p.cmds.length ≤ 6) : goodP p = p.cmds.all (goodCm p.wide p.vars) := by
  simp only [goodP, h.1, h.2.1, h.2.2, decide_true, Bool.and_self, Bool.true_and]
theorem GoodProgram_impl (p : Pg) (hp : vPg p) : Pu Tryz.prog 83 [aPg p] (B (goodP p)) := by
  refine Pu.of fun H => ?_
  refine W83_ok ?_; simp (maxSteps := 1000000) (disch := first | assumption | (apply ν6; assumption)) only [W83, vz, vu, vv, eqS, eF_, ↓c1_, ↓c2_, tabs, reduceCtorEq, ι5, ↓reduceIte, ν1, ν2, ν3, ν4, ν5, ι1, ι2, ι3, ι4]
  intro r hr
  have hle : Heap.le H (H.set r [I p.wide, I p.vars, Ns p.start, Cms p.cmds]) := Heap.le_set hr
  have hcl := hp.2.1
  refine Pu.use (isWide_spec _) ?_
  cases hw : inB p.wide 1 64
  · (try simp (maxSteps := 1000000) (disch := first | assumption | (apply ν6; assumption)) only [vz, vu, vv, eqS, eF_, ↓c1_, ↓c2_, tabs, reduceCtorEq, ι5, ↓reduceIte, ν1, ν2, ν3, ν4, ν5, ι1, ι2, ι3, ι4])
    exact ⟨goodP_f (fun h => by rw [inB_iff.2 (kind2_frame h.1).1] at hw; cases hw), hle⟩
  (try simp (maxSteps := 1000000) (disch := first | assumption | (apply ν6; assumption)) only [vz, vu, vv, eqS, eF_, ↓c1_, ↓c2_, tabs, reduceCtorEq, ι5, ↓reduceIte, ν1, ν2, ν3, ν4, ν5, ι1, ι2, ι3, ι4])
  refine Pu.use (isVars_spec _) ?_
  cases hv : inB p.vars 1 4
  · (try simp (maxSteps := 1000000) (disch := first | assumption | (apply ν6; assumption)) only [vz, vu, vv, eqS, eF_, ↓c1_, ↓c2_, tabs, reduceCtorEq, ι5, ↓reduceIte, ν1, ν2, ν3, ν4, ν5, ι1, ι2, ι3, ι4])
    exact ⟨goodP_f (fun h => by rw [inB_iff.2 (kind2_frame h.1).2] at hv; cases hv), hle⟩
  (try simp (maxSteps := 1000000) (disch := first | assumption | (apply ν6; assumption)) only [vz, vu, vv, eqS, eF_, ↓c1_, ↓c2_, tabs, reduceCtorEq, ι5, ↓reduceIte, ν1, ν2, ν3, ν4, ν5, ι1, ι2, ι3, ι4])
  refine Pu.use (isCondition_spec p p.start hp.1) ?_
  (try simp (maxSteps := 1000000) (disch := first | assumption | (apply ν6; assumption)) only [vz, vu, vv, eqS, eF_, ↓c1_, ↓c2_, tabs, reduceCtorEq, ι5, ↓reduceIte, ν1, ν2, ν3, ν4, ν5, ι1, ι2, ι3, ι4])
  refine ⟨fun h => ⟨goodP_f (fun hh => h hh.1), hle⟩, fun h => ⟨fun h1 => ⟨goodP_f (fun hh => by omega), hle⟩, fun h1 => ⟨fun h2 => ⟨goodP_f (fun hh => by omega), hle⟩, fun h2 => ?_⟩⟩⟩
  refine PuAt.use (ContainsFuncC_at p.cmds _ _ (fun c => !goodCm p.wide p.vars c) (by omega) fun c hm => GoodProgram1_at p c r (Heap.set_same _ _ _) (hp.2.2 c hm)) ?_
  (try simp (maxSteps := 1000000) (disch := first | assumption | (apply ν6; assumption)) only [vz, vu, vv, eqS, eF_, ↓c1_, ↓c2_, tabs, reduceCtorEq, ι5, ↓reduceIte, ν1, ν2, ν3, ν4, ν5, ι1, ι2, ι3, ι4])
  refine ⟨?_, hle⟩
  rw [goodP_e ⟨h, by omega, by omega⟩, List.all_eq_not_any_not]
theorem GoodProgram_spec (p : Pg) (hp : vPg p) : Pu Tryz.prog 76 [aPg p] (B (goodP p)) := by
  refine Pu.of fun H => ?_
  refine W76_ok ?_; simp (maxSteps := 1000000) (disch := first | assumption | (apply ν6; assumption)) only [W76, vz, vu, vv, eqS, eF_, ↓c1_, ↓c2_, tabs, reduceCtorEq, ι5, ↓reduceIte, ν1, ν2, ν3, ν4, ν5, ι1, ι2, ι3, ι4]
  intro r hr
  have hle : Heap.le H (H.set r [I p.wide, I p.vars, Ns p.start, Cms p.cmds]) := Heap.le_set hr
  have hcl := hp.2.1
  refine Pu.use (l7Asks_spec p p.start hp.1) ?_
  by_cases h : kind p.wide p.vars p.start = 2
  rotate_left
  · rw [decide_eq_false h]
    (try simp (maxSteps := 1000000) (disch := first | assumption | (apply ν6; assumption)) only [vz, vu, vv, eqS, eF_, ↓c1_, ↓c2_, tabs, reduceCtorEq, ι5, ↓reduceIte, ν1, ν2, ν3, ν4, ν5, ι1, ι2, ι3, ι4])
    exact ⟨goodP_f fun hh => h hh.1, hle⟩
  rw [decide_eq_true h]
  (try simp (maxSteps := 1000000) (disch := first | assumption | (apply ν6; assumption)) only [vz, vu, vv, eqS, eF_, ↓c1_, ↓c2_, tabs, reduceCtorEq, ι5, ↓reduceIte, ν1, ν2, ν3, ν4, ν5, ι1, ι2, ι3, ι4])
  refine Pu.use (l1In_B p.cmds.length 1 6) ?_
  cases h1 : inB p.cmds.length 1 6
  · (try simp (maxSteps := 1000000) (disch := first | assumption | (apply ν6; assumption)) only [vz, vu, vv, eqS, eF_, ↓c1_, ↓c2_, tabs, reduceCtorEq, ι5, ↓reduceIte, ν1, ν2, ν3, ν4, ν5, ι1, ι2, ι3, ι4])
    exact ⟨goodP_f (fun hh => by rw [inB_iff.2 (by omega)] at h1; cases h1), hle⟩
  rw [inB_iff] at h1
  (try simp (maxSteps := 1000000) (disch := first | assumption | (apply ν6; assumption)) only [vz, vu, vv, eqS, eF_, ↓c1_, ↓c2_, tabs, reduceCtorEq, ι5, ↓reduceIte, ν1, ν2, ν3, ν4, ν5, ι1, ι2, ι3, ι4])
  have hg : kind p.wide p.vars p.start = 2 ∧ 1 ≤ p.cmds.length ∧ p.cmds.length ≤ 6 := ⟨h, by omega, by omega⟩
  refine L76_0_rule (0 : Nat) (fun i => I i) (fun _ => H.set r [I p.wide, I p.vars, Ns p.start, Cms p.cmds]) (fun i => i ≤ p.cmds.length ∧ (p.cmds.take i).all (goodCm p.wide p.vars) = true) (fun i => p.cmds.length - i) ⟨⟨by omega, by simp⟩, .refl _, Heap.le_refl _⟩ ?_
  rintro i ⟨hi, ha⟩
  (try simp (maxSteps := 1000000) (disch := first | assumption | (apply ν6; assumption)) only [vz, vu, vv, eqS, eF_, ↓c1_, ↓c2_, tabs, reduceCtorEq, ι5, ↓reduceIte, ν1, ν2, ν3, ν4, ν5, ι1, ι2, ι3, ι4, B76_0])
  refine ⟨fun h2 => ⟨by omega, h2, ?_⟩, fun h2 => ?_⟩
  · have hlt : i < p.cmds.length := by omega
    have hm : p.cmds.getD i default ∈ p.cmds := getD_all (p := fun x => x ∈ p.cmds) (fun _ h => h) hlt
    intro r4 n4 hr4
    have nn4 : r ≠ r4 := Ne.symm n4
    (try simp (maxSteps := 1000000) (disch := first | assumption | (apply ν6; assumption)) only [vz, vu, vv, eqS, eF_, ↓c1_, ↓c2_, tabs, reduceCtorEq, ι5, ↓reduceIte, ν1, ν2, ν3, ν4, ν5, ι1, ι2, ι3, ι4])
    refine Pu.use (l7Command_spec p _ (hp.2.2 _ hm)) ?_
    cases hc : goodCm p.wide p.vars (p.cmds.getD i default)
    · (try simp (maxSteps := 1000000) (disch := first | assumption | (apply ν6; assumption)) only [vz, vu, vv, eqS, eF_, ↓c1_, ↓c2_, tabs, reduceCtorEq, ι5, ↓reduceIte, ν1, ν2, ν3, ν4, ν5, ι1, ι2, ι3, ι4])
      refine ⟨?_, Heap.le_setN hle hr4⟩
      have : (p.cmds.all (goodCm p.wide p.vars)) = false := by rw [List.all_eq_false]; exact ⟨_, hm, by rw [hc]; simp⟩
      rw [goodP_e hg, this]
    · (try simp (maxSteps := 1000000) (disch := first | assumption | (apply ν6; assumption)) only [vz, vu, vv, eqS, eF_, ↓c1_, ↓c2_, tabs, reduceCtorEq, ι5, ↓reduceIte, ν1, ν2, ν3, ν4, ν5, ι1, ι2, ι3, ι4])
      refine ⟨i + 1, ⟨by omega, ?_⟩, by omega, ?_, Heap.le_set (by simp [Heap.set_none, n4, hr4])⟩
      · rw [take_all_succ hlt, ha, ← getD_lt (d := default) hlt, hc]; rfl
      · rw [wk_int, i64_id (by omega) (by omega)]; simp
  · have : i = p.cmds.length := by omega
    subst this
    rw [List.take_length] at ha
    exact ⟨by rw [goodP_e hg, ha], hle⟩
theorem isSmall_spec (p : Pg) (hp : vPg p) : Pu Tryz.prog 44 [aPg p] (B (smallP p)) := by
  refine Pu.of fun H => ?_
  refine W44_ok ?_; simp (maxSteps := 1000000) (disch := first | assumption | (apply ν6; assumption)) only [W44, vz, vu, vv, eqS, eF_, ↓c1_, ↓c2_, tabs, reduceCtorEq, ι5, ↓reduceIte, ν1, ν2, ν3, ν4, ν5, ι1, ι2, ι3, ι4]
  intro r hr
  refine Pu.use (GoodProgram_impl p hp) ?_
  cases h : goodP p
  · (try simp (maxSteps := 1000000) (disch := first | assumption | (apply ν6; assumption)) only [vz, vu, vv, eqS, eF_, ↓c1_, ↓c2_, tabs, reduceCtorEq, ι5, ↓reduceIte, ν1, ν2, ν3, ν4, ν5, ι1, ι2, ι3, ι4])
    exact ⟨by simp only [smallP, h, Bool.false_and], Heap.le_set hr⟩
  · have hr2 := goodP_rng h
    have := mul_rng hr2.1 hr2.2
    have e : IntKind.i64.wrap (p.wide * p.vars) = p.wide * p.vars := i64_id (by omega) (by omega)
    (try simp (maxSteps := 1000000) (disch := first | assumption | (apply ν6; assumption)) only [vz, vu, vv, eqS, eF_, ↓c1_, ↓c2_, tabs, reduceCtorEq, ι5, ↓reduceIte, ν1, ν2, ν3, ν4, ν5, ι1, ι2, ι3, ι4, e])
    exact ⟨by simp only [smallP, h, Bool.true_and], Heap.le_set hr⟩
theorem l7Small_spec (p : Pg) (hp : vPg p) : Pu Tryz.prog 38 [aPg p] (B (smallP p)) := by
  refine Pu.of fun H => ?_
  refine W38_ok ?_; simp (maxSteps := 1000000) (disch := first | assumption | (apply ν6; assumption)) only [W38, vz, vu, vv, eqS, eF_, ↓c1_, ↓c2_, tabs, reduceCtorEq, ι5, ↓reduceIte, ν1, ν2, ν3, ν4, ν5, ι1, ι2, ι3, ι4]
  intro r hr
  refine Pu.use (GoodProgram_spec p hp) ?_
  cases h : goodP p
  · (try simp (maxSteps := 1000000) (disch := first | assumption | (apply ν6; assumption)) only [vz, vu, vv, eqS, eF_, ↓c1_, ↓c2_, tabs, reduceCtorEq, ι5, ↓reduceIte, ν1, ν2, ν3, ν4, ν5, ι1, ι2, ι3, ι4])
    exact ⟨by simp only [smallP, h, Bool.false_and], Heap.le_set hr⟩
  · have hr2 := goodP_rng h
    have := mul_rng hr2.1 hr2.2
    have e : IntKind.i64.wrap (p.wide * p.vars) = p.wide * p.vars := i64_id (by omega) (by omega)
    (try simp (maxSteps := 1000000) (disch := first | assumption | (apply ν6; assumption)) only [vz, vu, vv, eqS, eF_, ↓c1_, ↓c2_, tabs, reduceCtorEq, ι5, ↓reduceIte, ν1, ν2, ν3, ν4, ν5, ι1, ι2, ι3, ι4, e])
    exact ⟨by simp only [smallP, h, Bool.true_and], Heap.le_set hr⟩
theorem small_rng {p : Pg} (h : smallP p = true) : goodP p = true ∧ 1 ≤ p.wide * p.vars ∧ p.wide * p.vars ≤ 5 := by
  simp only [smallP, Bool.and_eq_true, decide_eq_true_eq] at h
  have hr := goodP_rng h.1
  exact ⟨h.1, (mul_rng hr.1 hr.2).1, h.2⟩
theorem pow_rng {n : Nat} (h : n ≤ 5) : (1 : Int) ≤ 2 ^ n ∧ (2 : Int) ^ n ≤ 32 := by
  obtain rfl | rfl | rfl | rfl | rfl | rfl : n = 0 ∨ n = 1 ∨ n = 2 ∨ n = 3 ∨ n = 4 ∨ n = 5 := by omega
  all_goals decide
theorem states_rng {p : Pg} (h : smallP p = true) : 1 ≤ statesP p ∧ statesP p ≤ 32 := by
  have := small_rng h
  exact pow_rng (by omega)
theorem states_spec (p : Pg) (h : smallP p = true) : Pu Tryz.prog 93 [aPg p] (I (statesP p)) := by
  refine Pu.of fun H => ?_
  have hs := small_rng h
  have e : IntKind.i64.wrap (p.wide * p.vars) = p.wide * p.vars := i64_id (by omega) (by omega)
  refine W93_ok ?_; simp (maxSteps := 1000000) (disch := first | assumption | (apply ν6; assumption)) only [W93, vz, vu, vv, eqS, eF_, ↓c1_, ↓c2_, tabs, reduceCtorEq, ι5, ↓reduceIte, ν1, ν2, ν3, ν4, ν5, ι1, ι2, ι3, ι4, e]
  intro r hr
  refine ⟨by omega, ?_, Heap.le_set hr⟩
  have e2 : min (p.wide * p.vars).toNat IntKind.i64.bits = (p.wide * p.vars).toNat := by
    have : IntKind.i64.bits = 64 := rfl
    omega
  have := states_rng h
  unfold statesP at *
  rw [e2, Int.one_mul, i64_id (by omega) (by omega)]
theorem l7Many_spec (p : Pg) (h : smallP p = true) : Pu Tryz.prog 53 [aPg p] (I (statesP p)) := by
  refine Pu.of fun H => ?_
  have hs := small_rng h
  have e : IntKind.i64.wrap (p.wide * p.vars) = p.wide * p.vars := i64_id (by omega) (by omega)
  have eu : IntKind.u64.wrap (p.wide * p.vars) = p.wide * p.vars := by rw [IntKind.wrap_u64]; omega
  refine W53_ok ?_; simp (maxSteps := 1000000) (disch := first | assumption | (apply ν6; assumption)) only [W53, vz, vu, vv, eqS, eF_, ↓c1_, ↓c2_, tabs, reduceCtorEq, ι5, ↓reduceIte, ν1, ν2, ν3, ν4, ν5, ι1, ι2, ι3, ι4, e, eu]
  intro r hr
  refine ⟨by omega, ?_, Heap.le_set hr⟩
  have e2 : min (p.wide * p.vars).toNat IntKind.i64.bits = (p.wide * p.vars).toNat := by
    have : IntKind.i64.bits = 64 := rfl
    omega
  have := states_rng h
  unfold statesP at *
  rw [e2, Int.one_mul, i64_id (by omega) (by omega)]
end Go.Proofs.YtgcklgeifdefhaaGreat
namespace Go.Proofs.YtgcklgeifdefhaaGreat
open Go Go.Sep Go.Pt
attribute [local irreducible] CallT
def nT (t : List Nd) : Prop := ∀ x ∈ t, okN x
def nCh (c : Ch) : Prop := nT c.by_
def nCm (c : Cm) : Prop := nT c.when_ ∧ ∀ x ∈ c.chs, nCh x
def nPg (p : Pg) : Prop := nT p.start ∧ ∀ c ∈ p.cmds, nCm c
theorem v_of {p : Pg} (h : smPg p) (hn : nPg p) : vPg p :=
  ⟨⟨h.1, hn.1⟩, h.2.1, fun c hc => ⟨⟨(h.2.2 c hc).1, (hn.2 c hc).1⟩, (h.2.2 c hc).2.1, fun x hx => ⟨(h.2.2 c hc).2.2 x hx, (hn.2 c hc).2 x hx⟩⟩⟩
theorem szR_nonneg {left : Int} {n : Nat} (h : ¬ szR left n < 0) : (n : Int) ≤ left ∧ szR left n = left - n := by
  unfold szR at *
  split at h
  · rename_i h2; exact ⟨h2, by rw [if_pos h2]⟩
  · omega
end Go.Proofs.YtgcklgeifdefhaaGreat
namespace Go.Proofs.YtgcklgeifdefhaaGreat
open Go Go.Sep Go.Pt Go.RowKit
theorem typed_node {x : List PV} (h : Typed Tryz.prog 160 x) : ∃ a, okN a ∧ x = eN a := by
  have h := typed_fields (ts := [3, 153]) (by kernel_rfl) h
  obtain ⟨a, b, rfl, h1, h⟩ := typedAll_cons h
  obtain ⟨b, c, rfl, h2, h⟩ := typedAll_cons h
  cases typedAll_nil h
  obtain ⟨n, _, rfl⟩ := typed_int (k := .i64) (by kernel_rfl) h1
  obtain ⟨m, hw, rfl⟩ := typed_int (k := .u64) (by kernel_rfl) h2
  refine ⟨⟨n, m⟩, ?_, rfl⟩
  simp only [Lit.wf, Bool.and_eq_true, decide_eq_true_eq] at hw
  have e1 : IntKind.u64.min = 0 := by decide
  have e2 : IntKind.u64.max = 18446744073709551615 := by decide
  rw [e1, e2] at hw
  unfold okN
  show 0 ≤ m ∧ m < 2 ^ 64
  omega
theorem typed_nodes {x : List PV} (h : Typed Tryz.prog 22 x) : ∃ t : List Nd, (ok t.length ∧ nT t) ∧ x = [.sl (t.map eN)] := by
  obtain ⟨es, rfl, hl, he⟩ := typed_slice (e := 160) (by kernel_rfl) h
  obtain ⟨t, h1, rfl, h3⟩ := rows_of (Q := okN) (e := eN) es fun y hy => typed_node (he y hy)
  exact ⟨t, ⟨by unfold ok; omega, h1⟩, rfl⟩
theorem typed_change {x : List PV} (h : Typed Tryz.prog 201 x) : ∃ a, (okCh a ∧ nCh a) ∧ x = eCh a := by
  have h := typed_fields (ts := [3, 22]) (by kernel_rfl) h
  obtain ⟨a, b, rfl, h1, h⟩ := typedAll_cons h
  obtain ⟨b, c, rfl, h2, h⟩ := typedAll_cons h
  cases typedAll_nil h
  obtain ⟨n, _, rfl⟩ := typed_int (k := .i64) (by kernel_rfl) h1
  obtain ⟨t, ht, rfl⟩ := typed_nodes h2
  exact ⟨⟨n, t⟩, ht, rfl⟩
theorem typed_changes {x : List PV} (h : Typed Tryz.prog 145 x) : ∃ t : List Ch, (okChs t ∧ ∀ c ∈ t, nCh c) ∧ x = [.sl (t.map eCh)] := by
  obtain ⟨es, rfl, hl, he⟩ := typed_slice (e := 201) (by kernel_rfl) h
  obtain ⟨t, h1, rfl, h3⟩ := rows_of (Q := fun a => okCh a ∧ nCh a) (e := eCh) es fun y hy => typed_change (he y hy)
  exact ⟨t, ⟨⟨by unfold ok; omega, fun c hc => (h1 c hc).1⟩, fun c hc => (h1 c hc).2⟩, rfl⟩
theorem typed_command {x : List PV} (h : Typed Tryz.prog 147 x) : ∃ a, (okCm a ∧ nCm a) ∧ x = eCm a := by
  have h := typed_fields (ts := [22, 145]) (by kernel_rfl) h
  obtain ⟨a, b, rfl, h1, h⟩ := typedAll_cons h
  obtain ⟨b, c, rfl, h2, h⟩ := typedAll_cons h
  cases typedAll_nil h
  obtain ⟨t, ht, rfl⟩ := typed_nodes h1
  obtain ⟨cs, hc, rfl⟩ := typed_changes h2
  exact ⟨⟨t, cs⟩, ⟨⟨ht.1, hc.1⟩, ⟨ht.2, hc.2⟩⟩, rfl⟩
theorem typed_commands {x : List PV} (h : Typed Tryz.prog 23 x) : ∃ t : List Cm, (okCms t ∧ ∀ c ∈ t, nCm c) ∧ x = [.sl (t.map eCm)] := by
  obtain ⟨es, rfl, hl, he⟩ := typed_slice (e := 147) (by kernel_rfl) h
  obtain ⟨t, h1, rfl, h3⟩ := rows_of (Q := fun a => okCm a ∧ nCm a) (e := eCm) es fun y hy => typed_command (he y hy)
  exact ⟨t, ⟨⟨by unfold ok; omega, fun c hc => (h1 c hc).1⟩, fun c hc => (h1 c hc).2⟩, rfl⟩
theorem typed_ints {x : List PV} (h : Typed Tryz.prog 46 x) : ∃ t : List Int, ok t.length ∧ x = [.sl (t.map eI)] := by
  obtain ⟨es, rfl, hl, he⟩ := typed_slice (e := 3) (by kernel_rfl) h
  obtain ⟨t, h1, rfl, h3⟩ := rows_of (Q := fun _ => True) (e := eI) es fun y hy => by
    obtain ⟨n, _, rfl⟩ := typed_int (k := .i64) (by kernel_rfl) (he y hy)
    exact ⟨n, trivial, rfl⟩
  exact ⟨t, by unfold ok; omega, rfl⟩
end Go.Proofs.YtgcklgeifdefhaaGreat
namespace Go.Sep
open Go Go.RowKit
abbrev Lay (α : Type) := α → List AV → Heap → List Nat → Prop
def LPl {α : Type} (e : α → List PV) : Lay α := fun a cs _ D => cs = (e a).map .p ∧ D = []
def LL {α : Type} (L : Lay α) : List α → List AV → Heap → List Nat → Prop
  | [], cs, _, D => cs = [] ∧ D = []
  | a :: az, cs, G, D => ∃ c1 c2 D1 D2, cs = c1 ++ c2 ∧ D = D1 ++ D2 ∧ L a c1 G D1 ∧ LL L az c2 G D2
def LRow {α : Type} (L : Lay α) (sz : Nat) : List α → AV → Heap → List Nat → Prop := fun xs x G D => ∃ q cs D', x = .sl q sz 0 xs.length ∧ G q = some cs ∧ LL L xs cs G D' ∧ D = q :: D'
def Lay.Local {α : Type} (L : Lay α) : Prop := ∀ a cs G G' D, L a cs G D → (∀ y ∈ D, ∀ b, G y = some b → G' y = some b) → L a cs G' D
def Lay.Size {α : Type} (L : Lay α) (sz : Nat) : Prop := ∀ a cs G D, L a cs G D → cs.length = sz
theorem LPl.local {α : Type} (e : α → List PV) : Lay.Local (LPl e) := fun a cs G G' D h _ => h
theorem LPl.size {α : Type} {e : α → List PV} {sz : Nat} (h : ∀ a, (e a).length = sz) : Lay.Size (LPl e) sz := fun a cs G D hl => by rw [hl.1, List.length_map, h]
theorem LL.local {α : Type} {L : Lay α} (hL : L.Local) : ∀ {az : List α} {cs : List AV} {G G' : Heap} {D : List Nat}, LL L az cs G D → (∀ y ∈ D, ∀ b, G y = some b → G' y = some b) → LL L az cs G' D
  | [], cs, G, G', D, h, _ => h
  | a :: az, cs, G, G', D, ⟨c1, c2, D1, D2, e1, e2, h1, h2⟩, hf => by
    subst e2
    exact ⟨c1, c2, D1, D2, e1, rfl, hL _ _ _ _ _ h1 (fun y hy => hf y (List.mem_append_left _ hy)), LL.local hL h2 (fun y hy => hf y (List.mem_append_right _ hy))⟩
theorem LL.size {α : Type} {L : Lay α} {sz : Nat} (hL : L.Size sz) : ∀ {az : List α} {cs : List AV} {G : Heap} {D : List Nat}, LL L az cs G D → cs.length = az.length * sz
  | [], cs, G, D, h => by rw [h.1]; simp
  | a :: az, cs, G, D, ⟨c1, c2, D1, D2, e1, e2, h1, h2⟩ => by
    rw [e1, List.length_append, hL _ _ _ _ h1, LL.size hL h2, List.length_cons, Nat.add_mul, Nat.one_mul]; omega
theorem LRow.local {α : Type} {L : Lay α} {sz : Nat} (hL : L.Local) {xs : List α} {x : AV} {G G' : Heap} {D : List Nat} (h : LRow L sz xs x G D) (hf : ∀ y ∈ D, ∀ b, G y = some b → G' y = some b) : LRow L sz xs x G' D := by
  obtain ⟨q, cs, D', e1, e2, e3, e4⟩ := h
  subst e4
  exact ⟨q, cs, D', e1, hf q (by simp) _ e2, LL.local hL e3 (fun y hy => hf y (by simp [hy])), rfl⟩
def Lay.Has {α : Type} (L : Lay α) : Prop := ∀ a cs G D, L a cs G D → ∀ y ∈ D, G y ≠ none
theorem LPl.has {α : Type} (e : α → List PV) : Lay.Has (LPl e) := fun a cs G D h y hy => by rw [h.2] at hy; cases hy
theorem LL.has {α : Type} {L : Lay α} (hL : L.Has) : ∀ {az : List α} {cs : List AV} {G : Heap} {D : List Nat}, LL L az cs G D → ∀ y ∈ D, G y ≠ none
  | [], cs, G, D, h => fun y hy => by rw [h.2] at hy; cases hy
  | a :: az, cs, G, D, ⟨c1, c2, D1, D2, e1, e2, h1, h2⟩ => fun y hy => by
    rw [e2] at hy
    rcases List.mem_append.1 hy with hy | hy
    · exact hL _ _ _ _ h1 y hy
    · exact LL.has hL h2 y hy
theorem LRow.has {α : Type} {L : Lay α} {sz : Nat} (hL : L.Has) {xs : List α} {x : AV} {G : Heap} {D : List Nat} (h : LRow L sz xs x G D) : ∀ y ∈ D, G y ≠ none := by
  obtain ⟨q, cs, D', e1, e2, e3, e4⟩ := h
  intro y hy
  rw [e4] at hy
  rcases List.mem_cons.1 hy with rfl | hy
  · rw [e2]; simp
  · exact LL.has hL e3 y hy
theorem LL.plain {α : Type} {e : α → List PV} {G : Heap} : ∀ (xs : List α), LL (LPl e) xs (cells (xs.map e)) G []
  | [] => ⟨rfl, rfl⟩
  | x :: xs => ⟨(e x).map .p, cells (xs.map e), [], [], by simp [cells], rfl, ⟨rfl, rfl⟩, LL.plain xs⟩
theorem splice_at {pre c c' post : List AV} {off n : Nat} (ho : off = pre.length) (hn : n = c'.length) (hc : c.length = c'.length) : List.take off (pre ++ (c ++ post)) ++ c' ++ List.drop (off + n) (pre ++ (c ++ post)) = pre ++ (c' ++ post) := by
  subst ho; subst hn
  rw [List.take_left', List.append_assoc]
  · congr 2
    rw [List.drop_append, ← hc]
    simp
  · rfl
theorem LL.snoc {α : Type} {L : Lay α} {a : α} {c2 : List AV} {G : Heap} {D2 : List Nat} (h2 : L a c2 G D2) : ∀ {az : List α} {c1 : List AV} {D1 : List Nat}, LL L az c1 G D1 → LL L (az ++ [a]) (c1 ++ c2) G (D1 ++ D2)
  | [], c1, D1, h => by
    obtain ⟨rfl, rfl⟩ := h
    exact ⟨c2, [], D2, [], by simp, by simp, h2, rfl, rfl⟩
  | b :: az, c1, D1, ⟨d1, d2, E1, E2, e1, e2, h1, h3⟩ => by
    subst e1; subst e2
    exact ⟨d1, d2 ++ c2, E1, E2 ++ D2, by simp, by simp, h1, LL.snoc h2 h3⟩
theorem LL.split {α : Type} [Inhabited α] {L : Lay α} {sz : Nat} (hL : L.Size sz) : ∀ {az : List α} {cs : List AV} {G : Heap} {D : List Nat} {i : Nat}, LL L az cs G D → i < az.length →
    ∃ c1 c c2 D1 Di D2, cs = c1 ++ (c ++ c2) ∧ D = D1 ++ (Di ++ D2) ∧ c1.length = i * sz ∧ L (az.getD i default) c G Di ∧ LL L (az.take i) c1 G D1 ∧ LL L (az.drop (i + 1)) c2 G D2
  | a :: az, cs, G, D, 0, ⟨c1, c2, D1, D2, e1, e2, h1, h2⟩, _ => ⟨[], c1, c2, [], D1, D2, by simpa using e1, by simpa using e2, by simp, by simpa using h1, ⟨rfl, rfl⟩, by simpa using h2⟩
  | a :: az, cs, G, D, i + 1, ⟨c1, c2, D1, D2, e1, e2, h1, h2⟩, hi => by
    obtain ⟨d1, d, d2, E1, Ei, E2, f1, f2, f3, f4, f5, f6⟩ := LL.split hL h2 (i := i) (by simpa using hi)
    subst e1; subst e2; subst f1; subst f2
    refine ⟨c1 ++ d1, d, d2, D1 ++ E1, Ei, E2, by simp, by simp, ?_, by simpa using f4, ⟨c1, d1, D1, E1, rfl, rfl, h1, f5⟩, by simpa using f6⟩
    rw [List.length_append, hL _ _ _ _ h1, f3, Nat.add_mul, Nat.one_mul]; omega
def Lay.Frz {α : Type} (L : Lay α) (e : α → List PV) : Prop := ∀ (a : α) (cs : List AV) (G : Heap) (D : List Nat) (v : AV) (s : Nat) (pre post : List AV), L a cs G D → D.Nodup → s ∉ D → G s = some (pre ++ (cs ++ post)) →
  ∃ G', Wk v G v G' ∧ G' s = some (pre ++ ((e a).map .p ++ post)) ∧ ∀ y, y ≠ s → y ∉ D → G' y = G y
theorem LPl.frz {α : Type} (e : α → List PV) : (LPl e).Frz e := by
  rintro a cs G D v s pre post ⟨rfl, rfl⟩ _ _ hs
  exact ⟨G, .refl _ _, hs, fun _ _ _ => rfl⟩
theorem LL.frz {α : Type} {L : Lay α} {e : α → List PV} (hl : L.Local) (hf : L.Frz e) : ∀ (az : List α) (cs : List AV) (G : Heap) (D : List Nat) (v : AV) (s : Nat) (pre post : List AV), LL L az cs G D → D.Nodup → s ∉ D → G s = some (pre ++ (cs ++ post)) →
    ∃ G', Wk v G v G' ∧ G' s = some (pre ++ ((az.map e).flatten.map .p ++ post)) ∧ ∀ y, y ≠ s → y ∉ D → G' y = G y
  | [], cs, G, D, v, s, pre, post, h, hD, hs, hG => by
    obtain ⟨rfl, rfl⟩ := h
    exact ⟨G, .refl _ _, by simpa using hG, fun _ _ _ => rfl⟩
  | a :: az, cs, G, D, v, s, pre, post, ⟨c1, c2, D1, D2, e1, e2, h1, h2⟩, hD, hs, hG => by
    subst e1; subst e2
    rw [List.nodup_append] at hD
    rw [List.mem_append, not_or] at hs
    obtain ⟨G1, w1, k1, f1⟩ := hf a c1 G D1 v s pre (c2 ++ post) h1 hD.1 hs.1 (by rw [hG]; simp)
    have h2' : LL L az c2 G1 D2 := LL.local hl h2 fun y hy b hb => by rw [f1 y (fun e => hs.2 (e ▸ hy)) (fun hy1 => hD.2.2 y hy1 y hy rfl)]; exact hb
    obtain ⟨G2, w2, k2, f2⟩ := LL.frz hl hf az c2 G1 D2 v s (pre ++ (e a).map .p) post h2' hD.2.1 hs.2 (by rw [k1]; simp)
    refine ⟨G2, .trans w1 w2, by rw [k2]; simp, fun y hy hyD => ?_⟩
    rw [List.mem_append, not_or] at hyD
    rw [f2 y hy hyD.2, f1 y hy hyD.1]
theorem FrzL.refl' {r sz : Nat} {es : List (List PV)} : ∀ vs, FrzL r sz es vs vs
  | [] => .nil
  | v :: vs => .cons (.same v) (FrzL.refl' vs)
theorem FrzL.at {r sz : Nat} {es : List (List PV)} {x x' : AV} (h : FrzR r sz es x x') (post : List AV) : ∀ pre, FrzL r sz es (pre ++ ([x] ++ post)) (pre ++ ([x'] ++ post))
  | [] => .cons h (FrzL.refl' post)
  | v :: pre => .cons (.same v) (FrzL.at h post pre)
theorem LRow.frzIn {α : Type} {L : Lay α} {e : α → List PV} {sz : Nat} (hpos : 0 < sz) (he : ∀ a, (e a).length = sz) (hl : L.Local) (hf : L.Frz e) {xs : List α} {x : AV} {G : Heap} {D : List Nat} {v : AV} {s : Nat} {pre post : List AV} (h : LRow L sz xs x G D) (hD : D.Nodup) (hs : s ∉ D) (hG : G s = some (pre ++ ([x] ++ post))) :
    ∃ G', Wk v G v G' ∧ G' s = some (pre ++ ([.p (.sl (xs.map e))] ++ post)) ∧ ∀ y, y ≠ s → y ∉ D → G' y = G y := by
  obtain ⟨q, cs, D', rfl, hq, hll, rfl⟩ := h
  rw [List.nodup_cons] at hD
  rw [List.mem_cons, not_or] at hs
  obtain ⟨G1, w1, k1, f1⟩ := LL.frz hl hf xs cs G D' v q [] [] hll hD.2 hD.1 (by simpa using hq)
  have hG1 : G1 s = some (pre ++ ([.sl q sz 0 xs.length] ++ post)) := by rw [f1 s hs.1 hs.2]; exact hG
  have k1' : G1 q = some ((xs.map e).flatten.map .p) := by simpa using k1
  have hr : FrzR q sz (xs.map e) (.sl q sz 0 xs.length) (.p (.sl (xs.map e))) := by
    have : FrzR q sz (xs.map e) (.sl q sz 0 (xs.map e).length) (.p (.sl (xs.map e))) := .here
    rwa [List.length_map] at this
  refine ⟨(G1.del q).set s (pre ++ ([.p (.sl (xs.map e))] ++ post)), .trans w1 (Wk.frzAt hpos k1' (sized_map he xs) hG1 hs.1 (FrzL.at hr post pre) (.same v) (by simp)), Heap.set_same _ _ _, fun y hy hyD => ?_⟩
  rw [List.mem_cons, not_or] at hyD
  rw [Heap.set_other hy, Heap.del_other hyD.1, f1 y hyD.1 hyD.2]
theorem LRow.frzV {α : Type} {L : Lay α} {e : α → List PV} {sz : Nat} (hpos : 0 < sz) (he : ∀ a, (e a).length = sz) (hl : L.Local) (hf : L.Frz e) {xs : List α} {x : AV} {G : Heap} {D : List Nat} {v v' : AV} (h : LRow L sz xs x G D) (hD : D.Nodup)
    (hv : ∀ q, x = .sl q sz 0 xs.length → FrzR q sz (xs.map e) x (.p (.sl (xs.map e))) → FrzR q sz (xs.map e) v v') :
    ∃ G', Wk v G v' G' ∧ ∀ y, y ∉ D → G' y = G y := by
  obtain ⟨q, cs, D', rfl, hq, hll, rfl⟩ := h
  rw [List.nodup_cons] at hD
  obtain ⟨G1, w1, k1, f1⟩ := LL.frz hl hf xs cs G D' v q [] [] hll hD.2 hD.1 (by simpa using hq)
  have k1' : G1 q = some ((xs.map e).flatten.map .p) := by simpa using k1
  have hr : FrzR q sz (xs.map e) (.sl q sz 0 xs.length) (.p (.sl (xs.map e))) := by
    have : FrzR q sz (xs.map e) (.sl q sz 0 (xs.map e).length) (.p (.sl (xs.map e))) := .here
    rwa [List.length_map] at this
  refine ⟨G1.del q, .trans w1 (Wk.frz hpos k1' (sized_map he xs) (hv q rfl hr)), fun y hyD => ?_⟩
  rw [List.mem_cons, not_or] at hyD
  rw [Heap.del_other hyD.1, f1 y hyD.1 hyD.2]
def Lay.Gd {α : Type} (L : Lay α) : Prop := ∀ a cs G D, L a cs G D → (∀ c ∈ cs, GdC c) ∧ ∀ y ∈ D, ∀ bs, G y = some bs → ∀ c ∈ bs, GdC c
def Lay.Sh {α : Type} (L : Lay α) : Prop := ∀ a cs G D n G0, (∀ q, n ≤ q → G0 q = none) → L a cs G D → L a (cs.map (shC n)) (Heap.or G0 (shH n G)) (D.map (· + n))
theorem LPl.gd {α : Type} {e : α → List PV} (h : ∀ a, ∀ x ∈ e a, Plain (.p x)) : Lay.Gd (LPl e) := by
  rintro a cs G D ⟨rfl, rfl⟩
  refine ⟨fun c hc => ?_, fun y hy => by cases hy⟩
  obtain ⟨x, hx, rfl⟩ := List.mem_map.1 hc
  exact .p (h a x hx)
theorem LPl.sh {α : Type} (e : α → List PV) : Lay.Sh (LPl e) := by
  rintro a cs G D n G0 _ ⟨rfl, rfl⟩
  exact ⟨by rw [List.map_map]; rfl, rfl⟩
theorem LL.gd {α : Type} {L : Lay α} (hL : L.Gd) : ∀ {az : List α} {cs : List AV} {G : Heap} {D : List Nat}, LL L az cs G D → (∀ c ∈ cs, GdC c) ∧ ∀ y ∈ D, ∀ bs, G y = some bs → ∀ c ∈ bs, GdC c
  | [], _, _, _, ⟨e1, e2⟩ => by subst e1; subst e2; exact ⟨(fun c hc => by cases hc), (fun y hy => by cases hy)⟩
  | a :: az, _, _, _, ⟨c1, c2, D1, D2, e1, e2, h1, h2⟩ => by
    subst e1; subst e2
    obtain ⟨a1, a2⟩ := hL _ _ _ _ h1
    obtain ⟨b1, b2⟩ := LL.gd hL h2
    refine ⟨fun c hc => ?_, fun y hy => ?_⟩
    · rcases List.mem_append.1 hc with hc | hc
      · exact a1 c hc
      · exact b1 c hc
    · rcases List.mem_append.1 hy with hy | hy
      · exact a2 y hy
      · exact b2 y hy
theorem LL.sh {α : Type} {L : Lay α} (hL : L.Sh) {n : Nat} {G0 : Heap} (h0 : ∀ q, n ≤ q → G0 q = none) : ∀ {az : List α} {cs : List AV} {G : Heap} {D : List Nat}, LL L az cs G D → LL L az (cs.map (shC n)) (Heap.or G0 (shH n G)) (D.map (· + n))
  | [], _, _, _, ⟨e1, e2⟩ => by subst e1; subst e2; exact ⟨rfl, rfl⟩
  | a :: az, _, _, _, ⟨c1, c2, D1, D2, e1, e2, h1, h2⟩ => by
    subst e1; subst e2
    exact ⟨_, _, _, _, List.map_append, List.map_append, hL _ _ _ _ n G0 h0 h1, LL.sh hL h0 h2⟩
theorem or_sh {G0 G : Heap} {n q : Nat} (h0 : ∀ q, n ≤ q → G0 q = none) : (Heap.or G0 (shH n G)) (q + n) = (G q).map (List.map (shC n)) := by
  simp only [Heap.or, shH, h0 (q + n) (by omega), show n ≤ q + n by omega, if_true, Nat.add_sub_cancel]
theorem LRow.gd {α : Type} {L : Lay α} {sz : Nat} (hL : L.Gd) {xs : List α} {x : AV} {G : Heap} {D : List Nat} (h : LRow L sz xs x G D) : GdC x ∧ ∀ y ∈ D, ∀ bs, G y = some bs → ∀ c ∈ bs, GdC c := by
  obtain ⟨q, cs, D', rfl, hq, hll, rfl⟩ := h
  obtain ⟨h1, h2⟩ := LL.gd hL hll
  refine ⟨.inl ⟨_, _, _, _, rfl⟩, fun y hy bs hb => ?_⟩
  rcases List.mem_cons.1 hy with rfl | hy
  · rw [hq] at hb; cases hb; exact h1
  · exact h2 y hy bs hb
theorem LRow.sh {α : Type} {L : Lay α} {sz : Nat} (hL : L.Sh) {n : Nat} {G0 : Heap} (h0 : ∀ q, n ≤ q → G0 q = none) {xs : List α} {x : AV} {G : Heap} {D : List Nat} (h : LRow L sz xs x G D) : LRow L sz xs (shC n x) (Heap.or G0 (shH n G)) (D.map (· + n)) := by
  obtain ⟨q, cs, D', rfl, hq, hll, rfl⟩ := h
  exact ⟨q + n, cs.map (shC n), D'.map (· + n), rfl, by rw [or_sh h0, hq]; rfl, LL.sh hL h0 hll, rfl⟩
def only (D : List Nat) (G : Heap) : Heap := fun y => if y ∈ D then G y else none
theorem only_le (D : List Nat) (G : Heap) : Heap.le (only D G) G := fun y b hb => by
  unfold only at hb; split at hb
  · exact hb
  · cases hb
theorem only_in {D : List Nat} {G : Heap} {y : Nat} (h : y ∈ D) : only D G y = G y := if_pos h
theorem only_out {D : List Nat} {G : Heap} {y : Nat} (h : y ∉ D) : only D G y = none := if_neg h
end Go.Sep
namespace Go.Proofs.YtgcklgeifdefhaaGreat
open Go Go.Sep Go.Pt
attribute [local irreducible] CallT
abbrev LN : List Nd → AV → Heap → List Nat → Prop := LRow (LPl eN) 2
abbrev LI : List Int → AV → Heap → List Nat → Prop := LRow (LPl eI) 1
def LCh : Lay Ch := fun c cs G D => ∃ x, cs = [I c.var, x] ∧ LN c.by_ x G D
def LCm : Lay Cm := fun c cs G D => ∃ x y D1 D2, cs = [x, y] ∧ D = D1 ++ D2 ∧ LN c.when_ x G D1 ∧ LRow LCh 2 c.chs y G D2
theorem LCh.local : Lay.Local LCh := by
  rintro c cs G G' D ⟨x, e, h⟩ hf
  exact ⟨x, e, LRow.local (LPl.local eN) h hf⟩
theorem LCh.size : Lay.Size LCh 2 := by
  rintro c cs G D ⟨x, rfl, h⟩; rfl
theorem LCh.has : Lay.Has LCh := by
  rintro c cs G D ⟨x, e, h⟩
  exact LRow.has (LPl.has eN) h
theorem LCh.frz : Lay.Frz LCh eCh := by
  rintro c cs G D v s pre post ⟨x, rfl, h⟩ hD hs hG
  obtain ⟨G', w, k, f⟩ := LRow.frzIn (e := eN) (sz := 2) (pre := pre ++ [I c.var]) (post := post) (v := v) (by omega) (fun _ => rfl) (LPl.local eN) (LPl.frz eN) h hD hs (by rw [hG]; simp)
  exact ⟨G', w, by rw [k]; simp, f⟩
theorem LCm.local : Lay.Local LCm := by
  rintro c cs G G' D ⟨x, y, D1, D2, e, rfl, h1, h2⟩ hf
  exact ⟨x, y, D1, D2, e, rfl, LRow.local (LPl.local eN) h1 (fun z hz => hf z (List.mem_append_left _ hz)), LRow.local LCh.local h2 (fun z hz => hf z (List.mem_append_right _ hz))⟩
theorem LCm.size : Lay.Size LCm 2 := by
  rintro c cs G D ⟨x, y, D1, D2, rfl, e, h1, h2⟩; rfl
theorem LCm.has : Lay.Has LCm := by
  rintro c cs G D ⟨x, y, D1, D2, e, rfl, h1, h2⟩ z hz
  rcases List.mem_append.1 hz with hz | hz
  · exact LRow.has (LPl.has eN) h1 z hz
  · exact LRow.has LCh.has h2 z hz
theorem LCm.frz : Lay.Frz LCm eCm := by
  rintro c cs G D v s pre post ⟨x, y, D1, D2, rfl, rfl, h1, h2⟩ hD hs hG
  rw [List.nodup_append] at hD
  rw [List.mem_append, not_or] at hs
  obtain ⟨G1, w1, k1, f1⟩ := LRow.frzIn (e := eN) (sz := 2) (pre := pre) (post := y :: post) (v := v) (by omega) (fun _ => rfl) (LPl.local eN) (LPl.frz eN) h1 hD.1 hs.1 (by rw [hG]; simp)
  have h2' : LRow LCh 2 c.chs y G1 D2 := LRow.local LCh.local h2 fun z hz b hb => by rw [f1 z (fun e => hs.2 (e ▸ hz)) (fun hz1 => hD.2.2 z hz1 z hz rfl)]; exact hb
  obtain ⟨G2, w2, k2, f2⟩ := LRow.frzIn (e := eCh) (sz := 2) (pre := pre ++ [Ns c.when_]) (post := post) (v := v) (by omega) (fun _ => rfl) LCh.local LCh.frz h2' hD.2.1 hs.2 (by rw [k1]; simp)
  refine ⟨G2, .trans w1 w2, by rw [k2]; simp, fun z hz hzD => ?_⟩
  rw [List.mem_append, not_or] at hzD
  rw [f2 z hz hzD.2, f1 z hz hzD.1]
structure New (H G : Heap) (D : List Nat) : Prop where
  nd : D.Nodup
  fr : ∀ y ∈ D, H y = none
  le : Heap.le H G
theorem New.trans {H G G' : Heap} {D D' : List Nat} (n : New H G D) (m : New G G' D') (hh : ∀ y ∈ D, G y ≠ none) : New H G' (D ++ D') := by
  refine ⟨List.nodup_append.2 ⟨n.nd, m.nd, fun a ha b hb e => hh a ha (by rw [e]; exact m.fr b hb)⟩, fun y hy => ?_, Heap.le_trans n.le m.le⟩
  rcases List.mem_append.1 hy with hy | hy
  · exact n.fr y hy
  · cases hh : H y with
    | none => rfl
    | some b => rw [← m.fr y hy, n.le y b hh]
theorem New.base {H H' G : Heap} {D : List Nat} (n : New H' G D) (hle : Heap.le H H') : New H G D :=
  ⟨n.nd, fun y hy => by
    cases hh : H y with
    | none => rfl
    | some b => rw [← n.fr y hy, hle y b hh], Heap.le_trans hle n.le⟩
theorem New.put {H G : Heap} {D : List Nat} (n : New H G D) {q : Nat} (hq : H q = none) (b : List AV) : New H (G.set q b) D := ⟨n.nd, n.fr, Heap.le_setN n.le hq⟩
theorem toNodeS_live (xs : List Nd) (hl : xs.length ≤ 1048576) {H : Heap} {K : AV → Heap → Prop} (h : ∀ x G D, LN xs x G D → New H G D → K x G) : CallT Tryz.prog 80 [Ns xs] H K := by
  refine W80_ok ?_; simp (maxSteps := 1000000) (disch := first | assumption | (apply ν6; assumption)) only [W80, vz, vu, vv, eqS, eF_, ↓c1_, ↓c2_, tabs, reduceCtorEq, ι5, ↓reduceIte, ν1, ν2, ν3, ν4, ν5, ι1, ι2, ι3, ι4, makeSliceV]
  refine ⟨by omega, by omega, by omega, by omega, fun q hq => ?_⟩
  have z0 : rowZ eN [I 0, U 0] xs 0 = zerosA xs.length [I 0, U 0] := rowZ_zero
  rw [← z0]
  refine L80_0_rule (0 : Nat) (fun i => I i) (fun i => H.set q (rowZ eN [I 0, U 0] xs i)) (fun i => i ≤ xs.length) (fun i => xs.length - i) ⟨by omega, .refl _, Heap.le_refl _⟩ ?_
  intro i hi
  have hrl := rowZ_len (e := eN) (zero := [I 0, U 0]) (xs := xs) (i := i) (sz := 2) (fun _ => rfl) rfl hi
  (try simp (maxSteps := 1000000) (disch := first | assumption | (apply ν6; assumption)) only [vz, vu, vv, eqS, eF_, ↓c1_, ↓c2_, tabs, reduceCtorEq, ι5, ↓reduceIte, ν1, ν2, ν3, ν4, ν5, ι1, ι2, ι3, ι4, B80_0])
  refine ⟨fun h => ⟨by omega, h, ?_⟩, fun h5 => ?_⟩
  · have hlt : i < xs.length := by omega
    have hput := rowZ_put (e := eN) (zero := [I 0, U 0]) (xs := xs) (i := i) (sz := 2) (fun _ => rfl) rfl hlt rfl rfl
    refine Pu.use (toNode_spec (xs.getD i default)) ?_
    (try simp (maxSteps := 1000000) (disch := first | assumption | (apply ν6; assumption)) only [vz, vu, vv, eqS, eF_, ↓c1_, ↓c2_, tabs, reduceCtorEq, ι5, ↓reduceIte, ν1, ν2, ν3, ν4, ν5, ι1, ι2, ι3, ι4])
    refine ⟨by omega, h, by omega, i + 1, by omega, by omega, ?_, ?_⟩
    · rw [wk_int, i64_id (by omega) (by omega)]; simp
    · rw [← hput]; exact Heap.le_refl _
  · have : i = xs.length := by omega
    subst this
    refine h _ _ [q] ⟨q, _, [], rfl, Heap.set_same _ _ _, ?_, rfl⟩ ⟨by simp, by simpa using hq, Heap.le_set hq⟩
    rw [rowZ_end]; exact LL.plain xs
theorem toIntS_live (xs : List Int) (hl : xs.length ≤ 1048576) {H : Heap} {K : AV → Heap → Prop} (h : ∀ x G D, LI xs x G D → New H G D → K x G) : CallT Tryz.prog 16 [Is xs] H K := by
  refine W16_ok ?_; simp (maxSteps := 1000000) (disch := first | assumption | (apply ν6; assumption)) only [W16, vz, vu, vv, eqS, eF_, ↓c1_, ↓c2_, tabs, reduceCtorEq, ι5, ↓reduceIte, ν1, ν2, ν3, ν4, ν5, ι1, ι2, ι3, ι4, makeSliceV]
  refine ⟨by omega, by omega, by omega, by omega, fun q hq => ?_⟩
  have z0 : rowZ eI [I 0] xs 0 = zerosA xs.length [I 0] := rowZ_zero
  rw [← z0]
  refine L16_0_rule (0 : Nat) (fun i => I i) (fun i => H.set q (rowZ eI [I 0] xs i)) (fun i => i ≤ xs.length) (fun i => xs.length - i) ⟨by omega, .refl _, Heap.le_refl _⟩ ?_
  intro i hi
  have hrl := rowZ_len (e := eI) (zero := [I 0]) (xs := xs) (i := i) (sz := 1) (fun _ => rfl) rfl hi
  (try simp (maxSteps := 1000000) (disch := first | assumption | (apply ν6; assumption)) only [vz, vu, vv, eqS, eF_, ↓c1_, ↓c2_, tabs, reduceCtorEq, ι5, ↓reduceIte, ν1, ν2, ν3, ν4, ν5, ι1, ι2, ι3, ι4, B16_0])
  refine ⟨fun h => ⟨by omega, h, ?_⟩, fun h5 => ?_⟩
  · have hlt : i < xs.length := by omega
    have hput := rowZ_put (e := eI) (zero := [I 0]) (xs := xs) (i := i) (sz := 1) (fun _ => rfl) rfl hlt rfl rfl
    (try simp (maxSteps := 1000000) (disch := first | assumption | (apply ν6; assumption)) only [vz, vu, vv, eqS, eF_, ↓c1_, ↓c2_, tabs, reduceCtorEq, ι5, ↓reduceIte, ν1, ν2, ν3, ν4, ν5, ι1, ι2, ι3, ι4])
    refine ⟨by omega, h, by omega, i + 1, by omega, by omega, ?_, ?_⟩
    · rw [wk_int, i64_id (by omega) (by omega)]; simp
    · rw [← hput]; exact Heap.le_refl _
  · have : i = xs.length := by omega
    subst this
    refine h _ _ [q] ⟨q, _, [], rfl, Heap.set_same _ _ _, ?_, rfl⟩ ⟨by simp, by simpa using hq, Heap.le_set hq⟩
    rw [rowZ_end]; exact LL.plain xs
theorem LRow.sl {α : Type} {L : Lay α} {sz : Nat} {xs : List α} {x : AV} {G : Heap} {D : List Nat} (h : LRow L sz xs x G D) : ∃ q, x = .sl q sz 0 xs.length := by
  obtain ⟨q, cs, D', e1, e2, e3, e4⟩ := h; exact ⟨q, e1⟩
theorem ne_mem {D : List Nat} {y z : Nat} (hy : y ∈ D) (hz : z ∉ D) : y ≠ z := fun e => hz (e ▸ hy)
theorem ne_of_new {H G : Heap} {D : List Nat} (n : New H G D) {y : Nat} {b : List AV} (h : H y = some b) : y ∉ D := fun hy => by rw [n.fr y hy] at h; cases h
theorem toChange_live (c : Ch) (hc : smCh c) {H : Heap} {K : AV → Heap → Prop} (h : ∀ cs G D, LCh c cs G D → New H G D → K (.agg cs) G) : CallT Tryz.prog 184 [aCh c] H K := by
  refine W184_ok ?_; simp (maxSteps := 1000000) (disch := first | assumption | (apply ν6; assumption)) only [W184, vz, vu, vv, eqS, eF_, ↓c1_, ↓c2_, tabs, reduceCtorEq, ι5, ↓reduceIte, ν1, ν2, ν3, ν4, ν5, ι1, ι2, ι3, ι4]
  intro r hr r2 n1 h2 r3 n2 n3 h3
  have nn1 : r ≠ r2 := Ne.symm n1
  (try simp (maxSteps := 1000000) (disch := first | assumption | (apply ν6; assumption)) only [vz, vu, vv, eqS, eF_, ↓c1_, ↓c2_, tabs, reduceCtorEq, ι5, ↓reduceIte, ν1, ν2, ν3, ν4, ν5, ι1, ι2, ι3, ι4])
  refine toNodeS_live c.by_ hc fun x G D hx hn => ?_
  obtain ⟨q, rfl⟩ := LRow.sl hx
  have g3 := hn.le r3 _ (Heap.set_same _ _ _)
  have g2 := hn.le r2 [I 0, .p .nil] (by rw [Heap.set_other (Ne.symm n2), Heap.set_same])
  have m3 := ne_of_new hn (Heap.set_same _ _ _)
  have m2 := ne_of_new hn (y := r2) (b := [I 0, .p .nil]) (by rw [Heap.set_other (Ne.symm n2), Heap.set_same])
  have n2' : r2 ≠ r3 := Ne.symm n2
  (try simp (maxSteps := 1000000) (disch := first | assumption | (apply ν6; assumption)) only [vz, vu, vv, eqS, eF_, ↓c1_, ↓c2_, tabs, reduceCtorEq, ι5, ↓reduceIte, ν1, ν2, ν3, ν4, ν5, ι1, ι2, ι3, ι4, store_at g3])
  (try simp (maxSteps := 1000000) (disch := first | assumption | (apply ν6; assumption)) only [vz, vu, vv, eqS, eF_, ↓c1_, ↓c2_, tabs, reduceCtorEq, ι5, ↓reduceIte, ν1, ν2, ν3, ν4, ν5, ι1, ι2, ι3, ι4, store_at g2])
  refine h _ _ D ⟨_, rfl, LRow.local (LPl.local eN) hx fun y hy b hb => ?_⟩ ((((hn.base ?_).put h2 _).put h3 _))
  · rw [Heap.set_other (ne_mem hy m3), Heap.set_other (ne_mem hy m2)]; exact hb
  · exact Heap.le_setN (Heap.le_setN (Heap.le_set hr) h2) h3
theorem toChangeS_live (xs : List Ch) (hl : xs.length ≤ 1048576) (hs : ∀ x ∈ xs, smCh x) {H : Heap} {K : AV → Heap → Prop} (h : ∀ x G D, LRow LCh 2 xs x G D → New H G D → K x G) : CallT Tryz.prog 167 [Chs xs] H K := by
  refine W167_ok ?_; simp (maxSteps := 1000000) (disch := first | assumption | (apply ν6; assumption)) only [W167, vz, vu, vv, eqS, eF_, ↓c1_, ↓c2_, tabs, reduceCtorEq, ι5, ↓reduceIte, ν1, ν2, ν3, ν4, ν5, ι1, ι2, ι3, ι4, makeSliceV]
  refine ⟨by omega, by omega, by omega, by omega, fun q hq => ?_⟩
  refine L167_0_rule ((0 : Nat), H.set q (zerosA xs.length [I 0, .p .nil]), ([] : List Nat)) (fun s => I s.1) (fun s => s.2.1)
    (fun s => s.1 ≤ xs.length ∧ New H s.2.1 (q :: s.2.2) ∧ ∃ done, s.2.1 q = some (done ++ zerosA (xs.length - s.1) [I 0, .p .nil]) ∧ LL LCh (xs.take s.1) done s.2.1 s.2.2) (fun s => xs.length - s.1)
    ⟨⟨by simp, ⟨by simp, by simpa using hq, Heap.le_set hq⟩, [], by simp [Heap.set_same], ⟨rfl, rfl⟩⟩, .refl _, Heap.le_refl _⟩ ?_
  rintro ⟨i, G, D⟩ ⟨hi, hn, done, hG, hll⟩
  dsimp only at hi hn hG hll
  (try simp (maxSteps := 1000000) (disch := first | assumption | (apply ν6; assumption)) only [vz, vu, vv, eqS, eF_, ↓c1_, ↓c2_, tabs, reduceCtorEq, ι5, ↓reduceIte, ν1, ν2, ν3, ν4, ν5, ι1, ι2, ι3, ι4, B167_0])
  refine ⟨fun h => ⟨by omega, h, ?_⟩, fun h5 => ?_⟩
  · have hlt : i < xs.length := by omega
    have hm : xs.getD i default ∈ xs := getD_all (p := fun x => x ∈ xs) (fun _ h => h) hlt
    have hdl : done.length = i * 2 := by rw [LL.size LCh.size hll, List.length_take, Nat.min_eq_left hi]
    refine toChange_live (xs.getD i default) (hs _ hm) fun cs G1 D1 hc hn1 => ?_
    have hG1 := hn1.le q _ hG
    have hcl : cs.length = 2 := LCh.size _ _ _ _ hc
    have hqD1 : q ∉ D1 := ne_of_new hn1 hG
    have hcell : cs.all AV.isCell = true := by
      obtain ⟨x, rfl, hx⟩ := hc
      obtain ⟨qx, rfl⟩ := LRow.sl hx
      rfl
    have hz : zerosA (xs.length - i) [I 0, .p .nil] = [I 0, .p .nil] ++ zerosA (xs.length - (i + 1)) [I 0, .p .nil] := by
      obtain ⟨m, hm⟩ : ∃ m, xs.length - i = m + 1 := ⟨xs.length - i - 1, by omega⟩
      rw [hm, zerosA_succ, show xs.length - (i + 1) = m by omega]
    have hput := splice_at (pre := done) (c := [I 0, .p .nil]) (c' := cs) (post := zerosA (xs.length - (i + 1)) [I 0, .p .nil]) (off := i * 2) (n := 2) hdl.symm hcl.symm (by rw [hcl]; rfl)
    rw [hz] at hG1
    have hzl : (zerosA (xs.length - (i + 1)) [I 0, .p .nil]).length = (xs.length - (i + 1)) * 2 := zerosA_len _ _
    (try simp (maxSteps := 1000000) (disch := first | assumption | (apply ν6; assumption)) only [vz, vu, vv, eqS, eF_, ↓c1_, ↓c2_, tabs, reduceCtorEq, ι5, ↓reduceIte, ν1, ν2, ν3, ν4, ν5, ι1, ι2, ι3, ι4, store_at hG1, hcl, hcell])
    refine ⟨by omega, h, by simp only [List.length_append, hdl, hzl, List.length_cons, List.length_nil]; omega, (i + 1, G1.set q (done ++ (cs ++ zerosA (xs.length - (i + 1)) [I 0, .p .nil])), D ++ D1), ⟨by simp only; omega, ?_, done ++ cs, ?_, ?_⟩, by simp only; omega, ?_, ?_⟩
    · have ht := hn.trans hn1 (fun y hy => by
        rcases List.mem_cons.1 hy with rfl | hy
        · rw [hG]; simp
        · exact LL.has LCh.has hll y hy)
      exact ht.put hq _
    · show (G1.set q _) q = _
      rw [Heap.set_same, List.append_assoc]
    · show LL LCh (xs.take (i + 1)) (done ++ cs) (G1.set q (done ++ (cs ++ zerosA (xs.length - (i + 1)) [I 0, .p .nil]))) (D ++ D1)
      rw [take_succ_snoc hlt]
      refine LL.snoc (LCh.local _ _ _ _ _ hc fun y hy b hb => by rw [Heap.set_other (ne_mem hy hqD1)]; exact hb) (LL.local LCh.local hll fun y hy b hb => ?_)
      rw [Heap.set_other (fun e => ?_)]
      · exact hn1.le y b hb
      · have := hn.nd; rw [List.nodup_cons] at this; exact this.1 (e ▸ hy)
    · rw [wk_int, i64_id (by omega) (by omega)]; simp
    · have e : List.take (i * 2) (done ++ ([I 0, .p .nil] ++ zerosA (xs.length - (i + 1)) [I 0, .p .nil])) ++ cs ++ List.drop (i * 2 + 2) (done ++ ([I 0, .p .nil] ++ zerosA (xs.length - (i + 1)) [I 0, .p .nil])) = done ++ (cs ++ zerosA (xs.length - (i + 1)) [I 0, .p .nil]) := hput
      simp only
      rw [← e]
      first | exact Heap.le_refl _ | simp only [List.cons_append, List.nil_append, le_refl_true]
  · have : i = xs.length := by omega
    subst this
    rw [List.take_length] at hll
    refine h _ _ (q :: D) ⟨q, done, D, rfl, ?_, hll, rfl⟩ hn
    rw [hG]; simp [zerosA]
theorem toCommand_live (c : Cm) (hc : smCm c) {H : Heap} {K : AV → Heap → Prop}
    (hC : ∀ (xs : List Ch), xs.length ≤ 1048576 → (∀ x ∈ xs, smCh x) → ∀ {H : Heap} {K : AV → Heap → Prop}, (∀ x G D, LRow LCh 2 xs x G D → New H G D → K x G) → CallT Tryz.prog 167 [Chs xs] H K)
    (h : ∀ cs G D, LCm c cs G D → New H G D → K (.agg cs) G) : CallT Tryz.prog 128 [aCm c] H K := by
  refine W128_ok ?_; simp (maxSteps := 1000000) (disch := first | assumption | (apply ν6; assumption)) only [W128, vz, vu, vv, eqS, eF_, ↓c1_, ↓c2_, tabs, reduceCtorEq, ι5, ↓reduceIte, ν1, ν2, ν3, ν4, ν5, ι1, ι2, ι3, ι4]
  intro r hr r2 n1 h2 r3 n2 n3 h3
  have nn1 : r ≠ r2 := Ne.symm n1
  have n2' : r2 ≠ r3 := Ne.symm n2
  have n3' : r ≠ r3 := Ne.symm n3
  (try simp (maxSteps := 1000000) (disch := first | assumption | (apply ν6; assumption)) only [vz, vu, vv, eqS, eF_, ↓c1_, ↓c2_, tabs, reduceCtorEq, ι5, ↓reduceIte, ν1, ν2, ν3, ν4, ν5, ι1, ι2, ι3, ι4])
  refine toNodeS_live c.when_ hc.1 fun x G D hx hn => ?_
  obtain ⟨q, rfl⟩ := LRow.sl hx
  have g3 := hn.le r3 _ (Heap.set_same _ _ _)
  have g2 := hn.le r2 [.p .nil, .p .nil] (by rw [Heap.set_other n2', Heap.set_same])
  have g1 := hn.le r [Ns c.when_, Chs c.chs] (by rw [Heap.set_other n3', Heap.set_other nn1, Heap.set_same])
  have m3 := ne_of_new hn (Heap.set_same _ _ _)
  have m2 := ne_of_new hn (y := r2) (b := [.p .nil, .p .nil]) (by rw [Heap.set_other n2', Heap.set_same])
  (try simp (maxSteps := 1000000) (disch := first | assumption | (apply ν6; assumption)) only [vz, vu, vv, eqS, eF_, ↓c1_, ↓c2_, tabs, reduceCtorEq, ι5, ↓reduceIte, ν1, ν2, ν3, ν4, ν5, ι1, ι2, ι3, ι4, store_at g3, load_at g1])
  refine hC c.chs hc.2.1 hc.2.2 fun y G2 D2 hy hn2 => ?_
  obtain ⟨q2, rfl⟩ := LRow.sl hy
  have k3 := hn2.le r3 _ (Heap.set_same _ _ _)
  have k2 := hn2.le r2 [.p .nil, .p .nil] (by rw [Heap.set_other n2']; exact g2)
  have l3 := ne_of_new hn2 (Heap.set_same _ _ _)
  have l2 := ne_of_new hn2 (y := r2) (b := [.p .nil, .p .nil]) (by rw [Heap.set_other n2']; exact g2)
  (try simp (maxSteps := 1000000) (disch := first | assumption | (apply ν6; assumption)) only [vz, vu, vv, eqS, eF_, ↓c1_, ↓c2_, tabs, reduceCtorEq, ι5, ↓reduceIte, ν1, ν2, ν3, ν4, ν5, ι1, ι2, ι3, ι4, store_at k3])
  (try simp (maxSteps := 1000000) (disch := first | assumption | (apply ν6; assumption)) only [vz, vu, vv, eqS, eF_, ↓c1_, ↓c2_, tabs, reduceCtorEq, ι5, ↓reduceIte, ν1, ν2, ν3, ν4, ν5, ι1, ι2, ι3, ι4, store_at k2])
  have hx3 : LN c.when_ (.sl q 2 0 c.when_.length) (G.set r3 [.sl q 2 0 c.when_.length, .p .nil]) D := LRow.local (LPl.local eN) hx fun z hz b hb => by rw [Heap.set_other (ne_mem hz m3)]; exact hb
  have hn' := ((hn.base (Heap.le_setN (Heap.le_setN (Heap.le_set hr) h2) h3)).put h3 [.sl q 2 0 c.when_.length, .p .nil]).trans hn2 (LRow.has (LPl.has eN) hx3)
  refine h _ _ (D ++ D2) ⟨_, _, D, D2, rfl, rfl, LRow.local (LPl.local eN) hx3 fun z hz b hb => ?_, LRow.local LCh.local hy fun z hz b hb => ?_⟩ ((hn'.put h2 _).put h3 _)
  · rw [Heap.set_other (ne_mem hz m3), Heap.set_other (ne_mem hz m2)]; exact hn2.le z b hb
  · rw [Heap.set_other (ne_mem hz l3), Heap.set_other (ne_mem hz l2)]; exact hb
theorem toCommandS_live (xs : List Cm) (hl : xs.length ≤ 1048576) (hs : ∀ x ∈ xs, smCm x) {H : Heap} {K : AV → Heap → Prop} (h : ∀ x G D, LRow LCm 2 xs x G D → New H G D → K x G) : CallT Tryz.prog 81 [Cms xs] H K := by
  refine W81_ok ?_; simp (maxSteps := 1000000) (disch := first | assumption | (apply ν6; assumption)) only [W81, vz, vu, vv, eqS, eF_, ↓c1_, ↓c2_, tabs, reduceCtorEq, ι5, ↓reduceIte, ν1, ν2, ν3, ν4, ν5, ι1, ι2, ι3, ι4, makeSliceV]
  refine ⟨by omega, by omega, by omega, by omega, fun q hq => ?_⟩
  refine L81_0_rule ((0 : Nat), H.set q (zerosA xs.length [.p .nil, .p .nil]), ([] : List Nat)) (fun s => I s.1) (fun s => s.2.1)
    (fun s => s.1 ≤ xs.length ∧ New H s.2.1 (q :: s.2.2) ∧ ∃ done, s.2.1 q = some (done ++ zerosA (xs.length - s.1) [.p .nil, .p .nil]) ∧ LL LCm (xs.take s.1) done s.2.1 s.2.2) (fun s => xs.length - s.1)
    ⟨⟨by simp, ⟨by simp, by simpa using hq, Heap.le_set hq⟩, [], by simp [Heap.set_same], ⟨rfl, rfl⟩⟩, .refl _, Heap.le_refl _⟩ ?_
  rintro ⟨i, G, D⟩ ⟨hi, hn, done, hG, hll⟩
  dsimp only at hi hn hG hll
  (try simp (maxSteps := 1000000) (disch := first | assumption | (apply ν6; assumption)) only [vz, vu, vv, eqS, eF_, ↓c1_, ↓c2_, tabs, reduceCtorEq, ι5, ↓reduceIte, ν1, ν2, ν3, ν4, ν5, ι1, ι2, ι3, ι4, B81_0])
  refine ⟨fun h => ⟨by omega, h, ?_⟩, fun h5 => ?_⟩
  · have hlt : i < xs.length := by omega
    have hm : xs.getD i default ∈ xs := getD_all (p := fun x => x ∈ xs) (fun _ h => h) hlt
    have hdl : done.length = i * 2 := by rw [LL.size LCm.size hll, List.length_take, Nat.min_eq_left hi]
    refine toCommand_live (xs.getD i default) (hs _ hm) (fun ys h1 h2 {H K} h3 => toChangeS_live ys h1 h2 h3) fun cs G1 D1 hc hn1 => ?_
    have hG1 := hn1.le q _ hG
    have hcl : cs.length = 2 := LCm.size _ _ _ _ hc
    have hqD1 : q ∉ D1 := ne_of_new hn1 hG
    have hcell : cs.all AV.isCell = true := by
      obtain ⟨x, y, E1, E2, rfl, rfl, hx, hy⟩ := hc
      obtain ⟨qx, rfl⟩ := LRow.sl hx
      obtain ⟨qy, rfl⟩ := LRow.sl hy
      rfl
    have hz : zerosA (xs.length - i) [.p .nil, .p .nil] = [.p .nil, .p .nil] ++ zerosA (xs.length - (i + 1)) [.p .nil, .p .nil] := by
      obtain ⟨m, hm⟩ : ∃ m, xs.length - i = m + 1 := ⟨xs.length - i - 1, by omega⟩
      rw [hm, zerosA_succ, show xs.length - (i + 1) = m by omega]
    have hput := splice_at (pre := done) (c := [.p .nil, .p .nil]) (c' := cs) (post := zerosA (xs.length - (i + 1)) [.p .nil, .p .nil]) (off := i * 2) (n := 2) hdl.symm hcl.symm (by rw [hcl]; rfl)
    rw [hz] at hG1
    have hzl : (zerosA (xs.length - (i + 1)) [.p .nil, .p .nil]).length = (xs.length - (i + 1)) * 2 := zerosA_len _ _
    (try simp (maxSteps := 1000000) (disch := first | assumption | (apply ν6; assumption)) only [vz, vu, vv, eqS, eF_, ↓c1_, ↓c2_, tabs, reduceCtorEq, ι5, ↓reduceIte, ν1, ν2, ν3, ν4, ν5, ι1, ι2, ι3, ι4, store_at hG1, hcl, hcell])
    refine ⟨by omega, h, by simp only [List.length_append, hdl, hzl, List.length_cons, List.length_nil]; omega, (i + 1, G1.set q (done ++ (cs ++ zerosA (xs.length - (i + 1)) [.p .nil, .p .nil])), D ++ D1), ⟨by simp only; omega, ?_, done ++ cs, ?_, ?_⟩, by simp only; omega, ?_, ?_⟩
    · have ht := hn.trans hn1 (fun y hy => by
        rcases List.mem_cons.1 hy with rfl | hy
        · rw [hG]; simp
        · exact LL.has LCm.has hll y hy)
      exact ht.put hq _
    · show (G1.set q _) q = _
      rw [Heap.set_same, List.append_assoc]
    · show LL LCm (xs.take (i + 1)) (done ++ cs) (G1.set q (done ++ (cs ++ zerosA (xs.length - (i + 1)) [.p .nil, .p .nil]))) (D ++ D1)
      rw [take_succ_snoc hlt]
      refine LL.snoc (LCm.local _ _ _ _ _ hc fun y hy b hb => by rw [Heap.set_other (ne_mem hy hqD1)]; exact hb) (LL.local LCm.local hll fun y hy b hb => ?_)
      rw [Heap.set_other (fun e => ?_)]
      · exact hn1.le y b hb
      · have := hn.nd; rw [List.nodup_cons] at this; exact this.1 (e ▸ hy)
    · rw [wk_int, i64_id (by omega) (by omega)]; simp
    · have e : List.take (i * 2) (done ++ ([.p .nil, .p .nil] ++ zerosA (xs.length - (i + 1)) [.p .nil, .p .nil])) ++ cs ++ List.drop (i * 2 + 2) (done ++ ([.p .nil, .p .nil] ++ zerosA (xs.length - (i + 1)) [.p .nil, .p .nil])) = done ++ (cs ++ zerosA (xs.length - (i + 1)) [.p .nil, .p .nil]) := hput
      simp only
      rw [← e]
      first | exact Heap.le_refl _ | simp only [List.cons_append, List.nil_append, le_refl_true]
  · have : i = xs.length := by omega
    subst this
    rw [List.take_length] at hll
    refine h _ _ (q :: D) ⟨q, done, D, rfl, ?_, hll, rfl⟩ hn
    rw [hG]; simp [zerosA]
end Go.Proofs.YtgcklgeifdefhaaGreat
namespace Go.Sep
open Go Go.RowKit Go.Proofs.YtgcklgeifdefhaaGreat
structure Th where
  D : List Nat
  P : Heap → Prop
  loc : ∀ {G G' : Heap}, P G → (∀ y ∈ D, ∀ b, G y = some b → G' y = some b) → P G'
  has : ∀ {G : Heap}, P G → ∀ y ∈ D, G y ≠ none
def cellT (r : Nat) (b : List AV) : Th := ⟨[r], fun G => G r = some b, fun h f => f r (List.mem_singleton.2 rfl) b h, fun h y hy => by rw [List.mem_singleton.1 hy, h]; simp⟩
structure St (H : Heap) (Ts : List Th) (G : Heap) : Prop where
  le : Heap.le H G
  nd : (Ts.flatMap Th.D).Nodup
  fr : ∀ t ∈ Ts, ∀ y ∈ t.D, H y = none
  ok : ∀ t ∈ Ts, t.P G
theorem St.nil (H : Heap) : St H [] H := ⟨Heap.le_refl _, List.nodup_nil, fun t ht => (by cases ht), fun t ht => (by cases ht)⟩
theorem St.get {H G : Heap} {Ts : List Th} {t : Th} (s : St H Ts G) (i : Nat) (h : Ts[i]? = some t) : t.P G := s.ok t (List.mem_of_getElem? h)
theorem St.ndT {H G : Heap} {Ts : List Th} {t : Th} (s : St H Ts G) (i : Nat) (h : Ts[i]? = some t) : t.D.Nodup := by
  obtain ⟨pre, post, e⟩ := List.append_of_mem (List.mem_of_getElem? h)
  have := s.nd
  rw [e, List.flatMap_append, List.flatMap_cons, List.nodup_append, List.nodup_append] at this
  exact this.2.1.1
theorem St.push {H G G' : Heap} {Ts : List Th} (s : St H Ts G) (t : Th) (hn : New G G' t.D) (hp : t.P G') : St H (t :: Ts) G' := by
  refine ⟨Heap.le_trans s.le hn.le, ?_, ?_, ?_⟩
  · rw [List.flatMap_cons, List.nodup_append]
    refine ⟨hn.nd, s.nd, fun a ha b hb e => ?_⟩
    obtain ⟨u, hu, hbu⟩ := List.mem_flatMap.1 hb
    exact u.has (s.ok u hu) b hbu (by rw [← e]; exact hn.fr a ha)
  · intro u hu y hy
    rcases List.mem_cons.1 hu with rfl | hu
    · cases hh : H y with
      | none => rfl
      | some b => rw [← hn.fr y hy, s.le y b hh]
    · exact s.fr u hu y hy
  · intro u hu
    rcases List.mem_cons.1 hu with rfl | hu
    · exact hp
    · exact u.loc (s.ok u hu) fun y _ b hb => hn.le y b hb
theorem New.cell {G : Heap} {r : Nat} {b : List AV} (hr : G r = none) : New G (G.set r b) [r] := ⟨by simp, by simpa using hr, Heap.le_set hr⟩
theorem St.cell {H G : Heap} {Ts : List Th} (s : St H Ts G) {r : Nat} (hr : G r = none) (b : List AV) : St H (cellT r b :: Ts) (G.set r b) := s.push (cellT r b) (New.cell hr) (Heap.set_same _ _ _)
theorem St.upd {H G G' : Heap} {Ts : List Th} {t : Th} (s : St H Ts G) (i : Nat) (h : Ts[i]? = some t) (t' : Th) (hD : t'.D = t.D) (hf : ∀ y, y ∉ t.D → G' y = G y) (hp : t'.P G') : St H (Ts.set i t') G' := by
  obtain ⟨hi, hti⟩ := List.getElem?_eq_some_iff.1 h
  have e : Ts = Ts.take i ++ t :: Ts.drop (i + 1) := by rw [← hti, List.getElem_cons_drop, List.take_append_drop]
  have e' : Ts.set i t' = Ts.take i ++ t' :: Ts.drop (i + 1) := by rw [List.set_eq_take_append_cons_drop, if_pos hi]
  generalize Ts.take i = pre at e e'
  generalize Ts.drop (i + 1) = post at e e'
  rw [e']
  subst e
  have hnd := s.nd
  rw [List.flatMap_append, List.flatMap_cons] at hnd
  have hdis : ∀ u ∈ pre ++ post, ∀ y ∈ u.D, y ∉ t.D := by
    intro u hu y hy hyt
    rw [List.nodup_append, List.nodup_append] at hnd
    rcases List.mem_append.1 hu with hu | hu
    · exact hnd.2.2 y (List.mem_flatMap.2 ⟨u, hu, hy⟩) y (List.mem_append_left _ hyt) rfl
    · exact hnd.2.1.2.2 y hyt y (List.mem_flatMap.2 ⟨u, hu, hy⟩) rfl
  refine ⟨fun y b hb => ?_, by rw [List.flatMap_append, List.flatMap_cons, hD]; exact hnd, fun u hu y hy => ?_, fun u hu => ?_⟩
  · rw [hf y (fun hy => by have := s.fr t (by simp) y hy; rw [this] at hb; cases hb)]; exact s.le y b hb
  · rcases List.mem_append.1 hu with hu | hu
    · exact s.fr u (List.mem_append_left _ hu) y hy
    · rcases List.mem_cons.1 hu with rfl | hu
      · exact s.fr t (by simp) y (hD ▸ hy)
      · exact s.fr u (by simp [hu]) y hy
  · have old : ∀ u ∈ pre ++ post, u.P G' := fun u hu => u.loc (s.ok u (by
      rcases List.mem_append.1 hu with hu | hu
      · exact List.mem_append_left _ hu
      · exact List.mem_append_right _ (List.mem_cons_of_mem _ hu))) fun y hy b hb => by rw [hf y (hdis u hu y hy)]; exact hb
    rcases List.mem_append.1 hu with hu | hu
    · exact old u (List.mem_append_left _ hu)
    · rcases List.mem_cons.1 hu with rfl | hu
      · exact hp
      · exact old u (List.mem_append_right _ hu)
theorem St.drop {H G : Heap} {t : Th} {Ts : List Th} (s : St H (t :: Ts) G) : St H Ts G := ⟨s.le, (by have := s.nd; rw [List.flatMap_cons, List.nodup_append] at this; exact this.2.1), fun u hu => s.fr u (List.mem_cons_of_mem _ hu), fun u hu => s.ok u (List.mem_cons_of_mem _ hu)⟩
theorem St.perm {H G : Heap} {Ts Us : List Th} (s : St H Ts G) (h : List.Perm Ts Us) : St H Us G :=
  ⟨s.le, (h.flatMap_right _).nodup s.nd, fun t ht => s.fr t (h.mem_iff.2 ht), fun t ht => s.ok t (h.mem_iff.2 ht)⟩
theorem St.disj {H G : Heap} {t u : Th} {Ts : List Th} (s : St H (t :: u :: Ts) G) : ∀ y ∈ t.D, y ∉ u.D := by
  have := s.nd
  rw [List.flatMap_cons, List.flatMap_cons, List.nodup_append] at this
  exact fun y hy hu => this.2.2 y hy y (List.mem_append_left _ hu) rfl
theorem Th.dis : ∀ {Ts : List Th} {t u : Th} {i j : Nat}, (Ts.flatMap Th.D).Nodup → Ts[i]? = some t → Ts[j]? = some u → i < j → ∀ y ∈ t.D, y ∉ u.D
  | [], _, _, _, _, _, hi, _, _ => by simp at hi
  | a :: Ts, t, u, 0, j + 1, nd, hi, hj, _ => by
    rw [List.flatMap_cons, List.nodup_append] at nd
    simp only [List.getElem?_cons_zero, Option.some.injEq] at hi
    subst hi
    exact fun y hy hu => nd.2.2 y hy y (List.mem_flatMap.2 ⟨u, List.mem_of_getElem? (by simpa using hj), hu⟩) rfl
  | a :: Ts, t, u, i + 1, j + 1, nd, hi, hj, h => by
    rw [List.flatMap_cons, List.nodup_append] at nd
    exact Th.dis nd.2.1 (by simpa using hi) (by simpa using hj) (by omega)
theorem St.disjI {H G : Heap} {t u : Th} {Ts : List Th} (s : St H Ts G) (i j : Nat) (hi : Ts[i]? = some t) (hj : Ts[j]? = some u) (hij : i ≠ j) : ∀ y ∈ t.D, y ∉ u.D := by
  rcases Nat.lt_or_gt_of_ne hij with h | h
  · exact Th.dis s.nd hi hj h
  · exact fun y hy hu => Th.dis s.nd hj hi h y hu hy
theorem St.fresh {H G : Heap} {Ts : List Th} {t : Th} (s : St H Ts G) (i : Nat) (h : Ts[i]? = some t) {q : Nat} (hq : G q = none) : q ∉ t.D := fun hm => t.has (s.get i h) q hm hq
theorem perm_pick {α : Type} : ∀ (Ts : List α) (i : Nat) (hi : i < Ts.length), List.Perm Ts (Ts[i] :: Ts.eraseIdx i)
  | a :: Ts, 0, _ => List.Perm.refl _
  | a :: Ts, i + 1, hi => ((perm_pick Ts i (by simpa using hi)).cons a).trans (List.Perm.swap _ _ _)
theorem perm_set {α : Type} : ∀ (Ts : List α) (i : Nat) (hi : i < Ts.length) (t : α), List.Perm (Ts.set i t) (t :: Ts.eraseIdx i)
  | a :: Ts, 0, _, _ => List.Perm.refl _
  | a :: Ts, i + 1, hi, t => ((perm_set Ts i (by simpa using hi) t).cons a).trans (List.Perm.swap _ _ _)
theorem sub_flat {α β : Type} {f : α → List β} {l m : List α} (h : List.Sublist l m) : List.Sublist (l.flatMap f) (m.flatMap f) := by
  induction h with
  | slnil => exact List.Sublist.refl _
  | cons a _ ih => rw [List.flatMap_cons]; exact ih.trans (List.sublist_append_right _ _)
  | cons_cons a _ ih => rw [List.flatMap_cons, List.flatMap_cons]; exact List.Sublist.append_left ih _
theorem St.pick {H G : Heap} {Ts : List Th} {t : Th} (s : St H Ts G) (i : Nat) (h : Ts[i]? = some t) : St H (t :: Ts.eraseIdx i) G := by
  obtain ⟨hi, rfl⟩ := List.getElem?_eq_some_iff.1 h
  exact s.perm (perm_pick Ts i hi)
theorem St.step {H G G' : Heap} {old rest : List Th} (s : St H (old ++ rest) G) (new : List Th) (hnd : (new.flatMap Th.D).Nodup) (hfr : ∀ t ∈ new, ∀ y ∈ t.D, (∃ u ∈ old, y ∈ u.D) ∨ G y = none)
    (hf : ∀ y b, G y = some b → (∀ u ∈ old, y ∉ u.D) → G' y = some b) (hp : ∀ t ∈ new, t.P G') : St H (new ++ rest) G' := by
  have hs := s.nd
  rw [List.flatMap_append, List.nodup_append] at hs
  have hdis : ∀ u ∈ rest, ∀ y ∈ u.D, ∀ t ∈ old, y ∉ t.D := fun u hu y hy t ht hyt => hs.2.2 y (List.mem_flatMap.2 ⟨t, ht, hyt⟩) y (List.mem_flatMap.2 ⟨u, hu, hy⟩) rfl
  refine ⟨fun y b hb => ?_, ?_, fun u hu y hy => ?_, fun u hu => ?_⟩
  · refine hf y b (s.le y b hb) fun u hu hy => ?_
    rw [s.fr u (List.mem_append_left _ hu) y hy] at hb; cases hb
  · rw [List.flatMap_append, List.nodup_append]
    refine ⟨hnd, hs.2.1, fun a ha b hb e => ?_⟩
    subst e
    obtain ⟨t, ht, hat⟩ := List.mem_flatMap.1 ha
    obtain ⟨u, hu, hau⟩ := List.mem_flatMap.1 hb
    rcases hfr t ht a hat with ⟨v, hv, hav⟩ | hn
    · exact hdis u hu a hau v hv hav
    · exact u.has (s.ok u (List.mem_append_right _ hu)) a hau hn
  · rcases List.mem_append.1 hu with hu | hu
    · rcases hfr u hu y hy with ⟨v, hv, hav⟩ | hn
      · exact s.fr v (List.mem_append_left _ hv) y hav
      · cases hh : H y with
        | none => rfl
        | some b => rw [← hn, s.le y b hh]
    · exact s.fr u (List.mem_append_right _ hu) y hy
  · rcases List.mem_append.1 hu with hu | hu
    · exact hp u hu
    · exact u.loc (s.ok u (List.mem_append_right _ hu)) fun y hy b hb => hf y b hb (hdis u hu y hy)
theorem St.repl {H G G' : Heap} {Ts : List Th} {t : Th} (s : St H Ts G) (i : Nat) (h : Ts[i]? = some t) (t' : Th) (hnd : t'.D.Nodup) (hfr : ∀ y ∈ t'.D, y ∈ t.D ∨ G y = none)
    (hf : ∀ y b, G y = some b → y ∉ t.D → G' y = some b) (hp : t'.P G') : St H (Ts.set i t') G' := by
  obtain ⟨hi, -⟩ := List.getElem?_eq_some_iff.1 h
  have := St.step (old := [t]) (s.pick i h) [t'] (by simpa using hnd) (fun u hu y hy => by
    rw [List.mem_singleton] at hu; subst hu
    rcases hfr y hy with h1 | h1
    · exact .inl ⟨t, by simp, h1⟩
    · exact .inr h1) (fun y b hb hy => hf y b hb (hy t (by simp))) (fun u hu => by rw [List.mem_singleton] at hu; subst hu; exact hp)
  exact this.perm (perm_set Ts i hi t').symm
theorem St.moved {H G : Heap} {Ts : List Th} {q q' : Nat} {b c : List AV} (s : St H Ts G) (i : Nat) (h : Ts[i]? = some (cellT q b)) (hq : G q' = none) : St H (Ts.set i (cellT q' c)) ((G.del q).set q' c) := by
  have hg : G q = some b := s.get i h
  refine s.repl i h (cellT q' c) (by simp [cellT]) (fun y hy => ?_) (fun y bb hb hy => ?_) (Heap.set_same _ _ _)
  · simp only [cellT, List.mem_singleton] at hy; subst hy; exact .inr hq
  · simp only [cellT, List.mem_singleton] at hy
    rw [Heap.set_other (fun e => by rw [e, hq] at hb; cases hb), Heap.del_other hy]; exact hb
theorem St.put {H G : Heap} {Ts : List Th} {q : Nat} {b : List AV} (s : St H Ts G) (i : Nat) (h : Ts[i]? = some (cellT q b)) (c : List AV) : St H (Ts.set i (cellT q c)) (G.set q c) := by
  refine s.repl i h (cellT q c) (by simp [cellT]) (fun y hy => .inl hy) (fun y bb hb hy => ?_) (Heap.set_same _ _ _)
  simp only [cellT, List.mem_singleton] at hy
  rw [Heap.set_other hy]; exact hb
theorem St.sub {H G : Heap} {Ts Us : List Th} (s : St H Ts G) (h : List.Sublist Us Ts) : St H Us G :=
  ⟨s.le, List.Nodup.sublist (sub_flat h) s.nd, fun t ht => s.fr t (h.subset ht), fun t ht => s.ok t (h.subset ht)⟩
theorem St.new {H G : Heap} {Ts : List Th} (s : St H Ts G) : New H G (Ts.flatMap Th.D) := ⟨s.nd, fun y hy => by
  obtain ⟨t, ht, hyt⟩ := List.mem_flatMap.1 hy
  exact s.fr t ht y hyt, s.le⟩
theorem St.wkNone {H G : Heap} {Ts : List Th} (s : St H Ts G) : ∀ y b, H y = some b → ∀ t ∈ Ts, y ∉ t.D := fun y b hb t ht hy => by rw [s.fr t ht y hy] at hb; cases hb
end Go.Sep
namespace Go.Pt
structure Ed where
  src : Int
  lt : Int
  dst : Int
deriving Inhabited
structure Au where
  states : Int
  first : List Int
  edges : List Ed
  goals : List (List Int)
deriving Inhabited
def riseAt (l : List Int) (n : Int) (i : Nat) : Bool := (decide (0 ≤ l.getD i default) && decide (l.getD i default < n)) && (decide (i = 0) || decide (l.getD (i - 1) default < l.getD i default))
def rising (l : List Int) (n : Int) : Bool := (List.range l.length).all (riseAt l n)
end Go.Pt
namespace Go.Proofs.YtgcklgeifdefhaaGreat
open Go Go.Sep Go.Pt
attribute [local irreducible] CallT
abbrev eE (x : Ed) : List PV := [.int .i64 x.src, .int .i64 x.lt, .int .i64 x.dst]
abbrev Es (xs : List Ed) : AV := .p (.sl (xs.map eE))
abbrev aAu (a : Au) : AV := .agg [I a.states, Is a.first, Es a.edges, Ls a.goals]
end Go.Proofs.YtgcklgeifdefhaaGreat
namespace Go.Proofs.YtgcklgeifdefhaaGreat
open Go Go.Sep Go.Pt
attribute [local irreducible] CallT
def LPg (p : Pg) (v : AV) (G : Heap) (D : List Nat) : Prop := ∃ x y D1 D2, v = .agg [I p.wide, I p.vars, x, y] ∧ D = D1 ++ D2 ∧ LN p.start x G D1 ∧ LRow LCm 2 p.cmds y G D2
theorem LPg.local {p : Pg} {v : AV} {G G' : Heap} {D : List Nat} (h : LPg p v G D) (hf : ∀ y ∈ D, ∀ b, G y = some b → G' y = some b) : LPg p v G' D := by
  obtain ⟨x, y, D1, D2, e, rfl, h1, h2⟩ := h
  exact ⟨x, y, D1, D2, e, rfl, LRow.local (LPl.local eN) h1 (fun z hz => hf z (List.mem_append_left _ hz)), LRow.local LCm.local h2 (fun z hz => hf z (List.mem_append_right _ hz))⟩
theorem LPg.has {p : Pg} {v : AV} {G : Heap} {D : List Nat} (h : LPg p v G D) : ∀ y ∈ D, G y ≠ none := by
  obtain ⟨x, y, D1, D2, e, rfl, h1, h2⟩ := h
  intro z hz
  rcases List.mem_append.1 hz with hz | hz
  · exact LRow.has (LPl.has eN) h1 z hz
  · exact LRow.has LCm.has h2 z hz
theorem LPg.wk {p : Pg} {v : AV} {G : Heap} {D : List Nat} (h : LPg p v G D) (hD : D.Nodup) (C : AV → AV) (hC : ∀ {q sz es a a'}, FrzR q sz es a a' → FrzR q sz es (C a) (C a')) : ∃ G', Wk (C v) G (C (aPg p)) G' ∧ ∀ y, y ∉ D → G' y = G y := by
  obtain ⟨x, y, D1, D2, rfl, rfl, h1, h2⟩ := h
  rw [List.nodup_append] at hD
  obtain ⟨G1, w1, f1⟩ := LRow.frzV (e := eN) (sz := 2) (v := C (.agg [I p.wide, I p.vars, x, y])) (v' := C (.agg [I p.wide, I p.vars, Ns p.start, y])) (by omega) (fun _ => rfl) (LPl.local eN) (LPl.frz eN) h1 hD.1
    (fun q _ hr => hC (.agg (.cons (.same _) (.cons (.same _) (.cons hr (.cons (.same _) .nil))))))
  have h2' := LRow.local LCm.local h2 (G' := G1) fun z hz b hb => by rw [f1 z (fun hz1 => hD.2.2 z hz1 z hz rfl)]; exact hb
  obtain ⟨G2, w2, f2⟩ := LRow.frzV (e := eCm) (sz := 2) (v := C (.agg [I p.wide, I p.vars, Ns p.start, y])) (v' := C (aPg p)) (by omega) (fun _ => rfl) LCm.local LCm.frz h2' hD.2.1
    (fun q _ hr => hC (.agg (.cons (.same _) (.cons (.same _) (.cons (.same _) (.cons hr .nil))))))
  refine ⟨G2, .trans w1 w2, fun z hz => ?_⟩
  rw [List.mem_append, not_or] at hz
  rw [f2 z hz.2, f1 z hz.1]
def LSt (of : List Int) (v : AV) (G : Heap) (D : List Nat) : Prop := ∃ x, v = .agg [x] ∧ LI of x G D
theorem LI_row {xs : List Int} {x : AV} {G : Heap} {D : List Nat} (h : LI xs x G D) : ∃ q, x = rowP q xs ∧ G q = some (cells (xs.map eI)) ∧ D = [q] := by
  obtain ⟨q, cs, D', e1, e2, e3, e4⟩ := h
  have key : ∀ (xs : List Int) cs D', LL (LPl eI) xs cs G D' → cs = cells (xs.map eI) ∧ D' = [] := by
    intro xs
    induction xs with
    | nil => intro cs D' h; exact h
    | cons a bs ih =>
      rintro cs D' ⟨c1, c2, D1, D2, rfl, rfl, ⟨rfl, rfl⟩, h2⟩
      obtain ⟨rfl, rfl⟩ := ih _ _ h2
      exact ⟨by simp [cells], rfl⟩
  obtain ⟨rfl, rfl⟩ := key _ _ _ e3
  exact ⟨q, e1, e2, e4⟩
theorem LI_mk {xs : List Int} {q : Nat} {G : Heap} (h : G q = some (cells (xs.map eI))) : LI xs (rowP q xs) G [q] := ⟨q, _, [], rfl, h, LL.plain xs, rfl⟩
theorem LSt.local {of : List Int} {v : AV} {G G' : Heap} {D : List Nat} (h : LSt of v G D) (hf : ∀ y ∈ D, ∀ b, G y = some b → G' y = some b) : LSt of v G' D := by
  obtain ⟨x, e, h⟩ := h; exact ⟨x, e, LRow.local (LPl.local eI) h hf⟩
theorem LSt.has {of : List Int} {v : AV} {G : Heap} {D : List Nat} (h : LSt of v G D) : ∀ y ∈ D, G y ≠ none := by
  obtain ⟨x, e, h⟩ := h; exact LRow.has (LPl.has eI) h
theorem LSt.wk {of : List Int} {v : AV} {G : Heap} {D : List Nat} (h : LSt of v G D) (hD : D.Nodup) (C : AV → AV) (hC : ∀ {q sz es a a'}, FrzR q sz es a a' → FrzR q sz es (C a) (C a')) : ∃ G', Wk (C v) G (C (aS of)) G' ∧ ∀ y, y ∉ D → G' y = G y := by
  obtain ⟨x, rfl, h⟩ := h
  exact LRow.frzV (e := eI) (sz := 1) (v := C (.agg [x])) (v' := C (aS of)) (by omega) (fun _ => rfl) (LPl.local eI) (LPl.frz eI) h hD (fun q _ hr => hC (.agg (.cons hr .nil)))
theorem toProgram_live (p : Pg) (hp : smPg p) {H : Heap} {K : AV → Heap → Prop} (h : ∀ v G D, LPg p v G D → New H G D → K v G) : CallT Tryz.prog 41 [aPg p] H K := by
  refine W41_ok ?_; simp (maxSteps := 1000000) (disch := first | assumption | (apply ν6; assumption)) only [W41, vz, vu, vv, eqS, eF_, ↓c1_, ↓c2_, tabs, reduceCtorEq, ι5, ↓reduceIte, ν1, ν2, ν3, ν4, ν5, ι1, ι2, ι3, ι4]
  intro r hr r2 n1 h2 r3 n2 n3 h3
  have nn1 : r ≠ r2 := Ne.symm n1
  have n2' : r2 ≠ r3 := Ne.symm n2
  have n3' : r ≠ r3 := Ne.symm n3
  (try simp (maxSteps := 1000000) (disch := first | assumption | (apply ν6; assumption)) only [vz, vu, vv, eqS, eF_, ↓c1_, ↓c2_, tabs, reduceCtorEq, ι5, ↓reduceIte, ν1, ν2, ν3, ν4, ν5, ι1, ι2, ι3, ι4])
  refine toNodeS_live p.start hp.1 fun x G D hx hn => ?_
  obtain ⟨q, rfl⟩ := LRow.sl hx
  have g3 := hn.le r3 _ (Heap.set_same _ _ _)
  have g2 := hn.le r2 [I 0, I 0, .p .nil, .p .nil] (by rw [Heap.set_other n2', Heap.set_same])
  have g1 := hn.le r [I p.wide, I p.vars, Ns p.start, Cms p.cmds] (by rw [Heap.set_other n3', Heap.set_other nn1, Heap.set_same])
  have m3 := ne_of_new hn (Heap.set_same _ _ _)
  (try simp (maxSteps := 1000000) (disch := first | assumption | (apply ν6; assumption)) only [vz, vu, vv, eqS, eF_, ↓c1_, ↓c2_, tabs, reduceCtorEq, ι5, ↓reduceIte, ν1, ν2, ν3, ν4, ν5, ι1, ι2, ι3, ι4, store_at g3, load_at g1])
  refine toCommandS_live p.cmds hp.2.1 hp.2.2 fun y G2 D2 hy hn2 => ?_
  obtain ⟨q2, rfl⟩ := LRow.sl hy
  have k3 := hn2.le r3 _ (Heap.set_same _ _ _)
  have k2 := hn2.le r2 [I 0, I 0, .p .nil, .p .nil] (by rw [Heap.set_other n2']; exact g2)
  have l3 := ne_of_new hn2 (Heap.set_same _ _ _)
  have l2 := ne_of_new hn2 (y := r2) (b := [I 0, I 0, .p .nil, .p .nil]) (by rw [Heap.set_other n2']; exact g2)
  have m2 := ne_of_new hn (y := r2) (b := [I 0, I 0, .p .nil, .p .nil]) (by rw [Heap.set_other n2', Heap.set_same])
  (try simp (maxSteps := 1000000) (disch := first | assumption | (apply ν6; assumption)) only [vz, vu, vv, eqS, eF_, ↓c1_, ↓c2_, tabs, reduceCtorEq, ι5, ↓reduceIte, ν1, ν2, ν3, ν4, ν5, ι1, ι2, ι3, ι4, store_at k3])
  (try simp (maxSteps := 1000000) (disch := first | assumption | (apply ν6; assumption)) only [vz, vu, vv, eqS, eF_, ↓c1_, ↓c2_, tabs, reduceCtorEq, ι5, ↓reduceIte, ν1, ν2, ν3, ν4, ν5, ι1, ι2, ι3, ι4, store_at k2])
  have hx3 : LN p.start (.sl q 2 0 p.start.length) (G.set r3 [I p.wide, I p.vars, .sl q 2 0 p.start.length, .p .nil]) D := LRow.local (LPl.local eN) hx fun z hz b hb => by rw [Heap.set_other (ne_mem hz m3)]; exact hb
  have hn' := ((hn.base (Heap.le_setN (Heap.le_setN (Heap.le_set hr) h2) h3)).put h3 [I p.wide, I p.vars, .sl q 2 0 p.start.length, .p .nil]).trans hn2 (LRow.has (LPl.has eN) hx3)
  refine h _ _ (D ++ D2) ⟨_, _, D, D2, rfl, rfl, LRow.local (LPl.local eN) hx3 fun z hz b hb => ?_, LRow.local LCm.local hy fun z hz b hb => ?_⟩ ((hn'.put h2 _).put h3 _)
  · rw [Heap.set_other (ne_mem hz m3), Heap.set_other (ne_mem hz m2)]; exact hn2.le z b hb
  · rw [Heap.set_other (ne_mem hz l3), Heap.set_other (ne_mem hz l2)]; exact hb
def marked (k : Int) (n : Nat) : List Int := (List.range n).map fun (j : Nat) => k + (j : Int)
theorem marked_len (k : Int) (n : Nat) : (marked k n).length = n := by simp [marked]
theorem markIntS_live (xs : List Int) (hl : xs.length ≤ 1048576) {k : Int} (h0 : 0 ≤ k) (h1 : k ≤ 1000000000) {q : Nat} {G : Heap} (hG : G q = some (cells (xs.map eI))) {K : AV → Heap → Prop}
    (h : K (I (k + xs.length)) (G.set q (cells ((marked k xs.length).map eI)))) : CallT Tryz.prog 23 [rowP q xs, I k] G K := by
  refine W23_ok ?_; simp (maxSteps := 1000000) (disch := first | assumption | (apply ν6; assumption)) only [W23, vz, vu, vv, eqS, eF_, ↓c1_, ↓c2_, tabs, reduceCtorEq, ι5, ↓reduceIte, ν1, ν2, ν3, ν4, ν5, ι1, ι2, ι3, ι4]
  refine L23_0_rule (0 : Nat) (fun i => I (k + i)) (fun i => I i) (fun i => G.set q (cells ((marked k i ++ xs.drop i).map eI))) (fun i => i ≤ xs.length) (fun i => xs.length - i) ⟨by omega, ?_, .refl _, ?_⟩ ?_
  · rw [wk_int]; simp
  · intro y b hy
    by_cases e : y = q
    · subst e; rw [Heap.set_same] at hy; rw [hG]; simpa [marked] using hy
    · rw [Heap.set_other e] at hy; exact hy
  intro i hi
  have hcl : (cells ((marked k i ++ xs.drop i).map eI)).length = xs.length := by
    rw [cells_I, List.length_map, List.length_append, marked_len, List.length_drop]; omega
  (try simp (maxSteps := 1000000) (disch := first | assumption | (apply ν6; assumption)) only [vz, vu, vv, eqS, eF_, ↓c1_, ↓c2_, tabs, reduceCtorEq, ι5, ↓reduceIte, ν1, ν2, ν3, ν4, ν5, ι1, ι2, ι3, ι4, B23_0, hcl])
  refine ⟨fun h5 => ?_, fun h5 => ?_⟩
  · have hlt : i < xs.length := by omega
    refine ⟨by omega, h5, by omega, i + 1, by omega, by omega, ?_, ?_, ?_⟩
    · rw [wk_int, i64_id (by omega) (by omega)]; omega
    · rw [wk_int, i64_id (by omega) (by omega)]; simp
    · have e1 : xs.drop i = xs.getD i 0 :: xs.drop (i + 1) := by rw [List.drop_eq_getElem_cons hlt]; simp [List.getD, hlt]
      have e2 : marked k (i + 1) = marked k i ++ [k + i] := by simp [marked, List.range_succ]
      have e3 : cells ((marked k i ++ xs.drop i).map eI) = cells ((marked k i).map eI) ++ ([I (xs.getD i 0)] ++ cells ((xs.drop (i + 1)).map eI)) := by rw [e1, List.map_append, cells_app]; rfl
      have e4 : cells ((marked k (i + 1) ++ xs.drop (i + 1)).map eI) = cells ((marked k i).map eI) ++ ([I (k + i)] ++ cells ((xs.drop (i + 1)).map eI)) := by rw [e2, List.append_assoc, List.map_append, cells_app]; rfl
      have e5 := splice_at (pre := cells ((marked k i).map eI)) (c := [I (xs.getD i 0)]) (c' := [I (k + i)]) (post := cells ((xs.drop (i + 1)).map eI)) (off := i * 1) (n := 1) (by rw [cells_I, List.length_map, marked_len, Nat.mul_one]) rfl rfl
      rw [← e3, ← e4] at e5
      rw [← e5]; exact Heap.le_refl _
  · have : i = xs.length := by omega
    subst this
    simpa using h
theorem heldIntS_spec (n : Nat) (hl : n ≤ 1048576) {k : Int} (h0 : 0 ≤ k) (h1 : k ≤ 1000000000) : Pu Tryz.prog 33 [Is (marked k n), I k] (I (k + n)) := by
  refine Pu.of fun H => ?_
  have hml := marked_len k n
  refine W33_ok ?_; simp (maxSteps := 1000000) (disch := first | assumption | (apply ν6; assumption)) only [W33, vz, vu, vv, eqS, eF_, ↓c1_, ↓c2_, tabs, reduceCtorEq, ι5, ↓reduceIte, ν1, ν2, ν3, ν4, ν5, ι1, ι2, ι3, ι4]
  refine L33_0_rule (0 : Nat) (fun i => I (k + i)) (fun i => I i) (fun _ => H) (fun i => i ≤ n) (fun i => n - i) ⟨by omega, ?_, .refl _, Heap.le_refl _⟩ ?_
  · rw [wk_int]; simp
  intro i hi
  (try simp (maxSteps := 1000000) (disch := first | assumption | (apply ν6; assumption)) only [vz, vu, vv, eqS, eF_, ↓c1_, ↓c2_, tabs, reduceCtorEq, ι5, ↓reduceIte, ν1, ν2, ν3, ν4, ν5, ι1, ι2, ι3, ι4, B33_0, hml])
  refine ⟨fun h5 => ?_, fun h5 => ?_⟩
  · have hlt : i < n := by omega
    have e : (marked k n).getD i default = k + i := by simp [marked, List.getD, hlt]
    rw [e]
    refine ⟨by omega, h5, fun h6 => absurd rfl h6, fun _ => ⟨i + 1, by omega, by omega, ?_, ?_⟩⟩
    · rw [wk_int, i64_id (by omega) (by omega)]; omega
    · rw [wk_int, i64_id (by omega) (by omega)]; simp
  · have : i = n := by omega
    subst this; rfl
end Go.Proofs.YtgcklgeifdefhaaGreat
namespace Go.Proofs.YtgcklgeifdefhaaGreat
open Go Go.Sep Go.Pt
attribute [local irreducible] CallT
theorem drop_cons {α : Type} [Inhabited α] {xs : List α} {i : Nat} (h : i < xs.length) : xs.drop i = xs.getD i default :: xs.drop (i + 1) := by
  rw [List.drop_eq_getElem_cons h]; simp [List.getD, h]
structure Half {α : Type} (L : Lay α) (G0 : Heap) (q : Nat) (D : List Nat) (xs : List α) (i : Nat) (G : Heap) (done : List α) : Prop where
  ex : ∃ cd cr Dd Dr, G q = some (cd ++ cr) ∧ LL L done cd G Dd ∧ LL L (xs.drop i) cr G Dr ∧ D = Dd ++ Dr
  len : done.length = i
  fr : ∀ y, y ∉ q :: D → G y = G0 y
theorem LL_plain_D {α : Type} {e : α → List PV} {G : Heap} : ∀ {xs : List α} {cs : List AV} {D : List Nat}, LL (LPl e) xs cs G D → D = []
  | [], _, _, h => h.2
  | a :: bs, _, _, ⟨c1, c2, D1, D2, e1, e2, h1, h2⟩ => by rw [e2, h1.2, LL_plain_D h2]; rfl
theorem LL_plain_any {α : Type} {e : α → List PV} {G : Heap} (G' : Heap) {xs : List α} {cs : List AV} {D : List Nat} (h : LL (LPl e) xs cs G D) : LL (LPl e) xs cs G' D :=
  LL.local (LPl.local e) h fun y hy => by rw [LL_plain_D h] at hy; cases hy
theorem markNodeS_live (t : List Nd) (hl : t.length ≤ 1048576) {x : AV} {G : Heap} {D : List Nat} (hx : LN t x G D) (hD : D.Nodup) {k : Int} (h0 : 0 ≤ k) (hk : k ≤ 900000000) {K : AV → Heap → Prop}
    (h : ∀ k' t' G', LN t' x G' D → t'.length = t.length → (∀ y, y ∉ D → G' y = G y) → k ≤ k' → k' ≤ k + 2 * t.length → K (I k') G') : CallT Tryz.prog 107 [x, I k] G K := by
  obtain ⟨q, cs, D', rfl, hq, hll, rfl⟩ := hx
  refine W107_ok ?_; simp (maxSteps := 1000000) (disch := first | assumption | (apply ν6; assumption)) only [W107, vz, vu, vv, eqS, eF_, ↓c1_, ↓c2_, tabs, reduceCtorEq, ι5, ↓reduceIte, ν1, ν2, ν3, ν4, ν5, ι1, ι2, ι3, ι4]
  refine L107_0_rule ((0 : Nat), G, ([] : List Nd)) (fun s => I (k + 2 * s.1)) (fun s => I s.1) (fun s => s.2.1) (fun s => s.1 ≤ t.length ∧ Half (LPl eN) G q D' t s.1 s.2.1 s.2.2) (fun s => t.length - s.1)
    ⟨⟨by simp, ⟨⟨[], cs, [], D', by simpa using hq, ⟨rfl, rfl⟩, by simpa using hll, rfl⟩, rfl, fun _ _ => rfl⟩⟩, ?_, .refl _, Heap.le_refl _⟩ ?_
  · rw [wk_int]; simp
  rintro ⟨i, G1, done⟩ ⟨hi, ⟨⟨cd, cr, Dd, Dr, e1, e2, e3, e4⟩, e5, e6⟩⟩
  dsimp only at hi e1 e2 e3 e4 e5 e6
  (try simp (maxSteps := 1000000) (disch := first | assumption | (apply ν6; assumption)) only [vz, vu, vv, eqS, eF_, ↓c1_, ↓c2_, tabs, reduceCtorEq, ι5, ↓reduceIte, ν1, ν2, ν3, ν4, ν5, ι1, ι2, ι3, ι4, B107_0])
  refine ⟨fun h5 => ?_, fun h5 => ?_⟩
  · have hlt : i < t.length := by omega
    rw [drop_cons hlt] at e3
    obtain ⟨c, c2, Di, D2, rfl, rfl, ⟨rfl, rfl⟩, f2⟩ := e3
    have hdl : cd.length = i * 2 := by rw [LL.size (LPl.size (e := eN) (sz := 2) (fun _ => rfl)) e2, e5]
    generalize t.getD i default = a at e1
    have e1' : G1 q = some (cd ++ (I a.op :: U a.n :: c2)) := e1
    have p1 : ∀ z, List.take (i * 2) (cd ++ (I a.op :: U a.n :: c2)) ++ [z] ++ List.drop (i * 2 + 1) (cd ++ (I a.op :: U a.n :: c2)) = cd ++ (z :: U a.n :: c2) := fun z => splice_at (c := [I a.op]) (c' := [z]) (post := U a.n :: c2) hdl.symm rfl rfl
    have p2 : ∀ z w, List.take (i * 2 + 1) (cd ++ (z :: U a.n :: c2)) ++ [w] ++ List.drop (i * 2 + 1 + 1) (cd ++ (z :: U a.n :: c2)) = cd ++ (z :: w :: c2) := fun z w => by
      have := splice_at (pre := cd ++ [z]) (c := [U a.n]) (c' := [w]) (post := c2) (off := i * 2 + 1) (n := 1) (by simp [hdl]) rfl rfl
      simpa using this
    (try simp (maxSteps := 1000000) (disch := first | assumption | (apply ν6; assumption)) only [vz, vu, vv, eqS, eF_, ↓c1_, ↓c2_, tabs, reduceCtorEq, ι5, ↓reduceIte, ν1, ν2, ν3, ν4, ν5, ι1, ι2, ι3, ι4, store_at e1'])
    rw [p1]
    refine ⟨by omega, h5, by omega, by omega, h5, by simp only [List.length_take, List.length_drop, List.length_append, List.length_cons, List.length_nil]; omega,
      (i + 1, G1.set q (cd ++ (I (k + 2 * i) :: U (IntKind.u64.wrap (IntKind.i64.wrap (k + 2 * ↑i + 1))) :: c2)), done ++ [⟨k + 2 * i, IntKind.u64.wrap (IntKind.i64.wrap (k + 2 * ↑i + 1))⟩]), ⟨by simp only; omega, ⟨⟨cd ++ [I (k + 2 * i), U (IntKind.u64.wrap (IntKind.i64.wrap (k + 2 * ↑i + 1)))], c2, Dd, D2, ?_, ?_, ?_, ?_⟩, by simp [e5], fun y hy => ?_⟩⟩, by simp only; omega, ?_, ?_, ?_⟩
    · show (G1.set q _) q = _
      rw [Heap.set_same]; simp
    · have := LL.snoc (L := LPl eN) (a := ⟨k + 2 * i, IntKind.u64.wrap (IntKind.i64.wrap (k + 2 * ↑i + 1))⟩) (G := G1.set q (cd ++ (I (k + 2 * i) :: U (IntKind.u64.wrap (IntKind.i64.wrap (k + 2 * ↑i + 1))) :: c2))) (D2 := []) ⟨rfl, rfl⟩ (LL_plain_any _ e2)
      simpa using this
    · exact LL_plain_any _ f2
    · simpa using e4
    · show (G1.set q _) y = _
      rw [List.mem_cons, not_or] at hy
      rw [Heap.set_other hy.1, e6 y (by simp [hy.1, hy.2])]
    · rw [wk_int, i64_id (n := k + 2 * i + 1) (by omega) (by omega), i64_id (by omega) (by omega)]; simp only; omega
    · rw [wk_int, i64_id (by omega) (by omega)]; simp
    · have := p2 (I (k + 2 * i)) (U (IntKind.u64.wrap (IntKind.i64.wrap (k + 2 * ↑i + 1))))
      simp only
      rw [this]; exact Heap.le_refl _
  · have : i = t.length := by omega
    subst this
    rw [List.drop_length] at e3
    obtain ⟨rfl, rfl⟩ := e3
    refine h _ done G1 ⟨q, cd, D', by rw [e5], by simpa using e1, by rw [e4]; simpa using e2, rfl⟩ e5 e6 (by omega) (by omega)
end Go.Proofs.YtgcklgeifdefhaaGreat
namespace Go.Proofs.YtgcklgeifdefhaaGreat
open Go Go.Sep Go.Pt
attribute [local irreducible] CallT
abbrev LE : List Ed → AV → Heap → List Nat → Prop := LRow (LPl eE) 3
def LIc : Lay (List Int) := fun l cs G D => ∃ x, cs = [x] ∧ LI l x G D
abbrev LII : List (List Int) → AV → Heap → List Nat → Prop := LRow LIc 1
theorem LIc.local : Lay.Local LIc := by
  rintro c cs G G' D ⟨x, e, h⟩ hf
  exact ⟨x, e, LRow.local (LPl.local eI) h hf⟩
theorem LIc.size : Lay.Size LIc 1 := by
  rintro c cs G D ⟨x, rfl, h⟩; rfl
theorem LIc.has : Lay.Has LIc := by
  rintro c cs G D ⟨x, e, h⟩
  exact LRow.has (LPl.has eI) h
theorem LIc.frz : Lay.Frz LIc eL := by
  rintro c cs G D v s pre post ⟨x, rfl, h⟩ hD hs hG
  obtain ⟨G', w, k, f⟩ := LRow.frzIn (e := eI) (sz := 1) (pre := pre) (post := post) (v := v) (by omega) (fun _ => rfl) (LPl.local eI) (LPl.frz eI) h hD hs (by rw [hG])
  exact ⟨G', w, by rw [k]; rfl, f⟩
def LAu (a : Au) (v : AV) (G : Heap) (D : List Nat) : Prop := ∃ x y z D1 D2 D3, v = .agg [I a.states, x, y, z] ∧ D = D1 ++ (D2 ++ D3) ∧ LI a.first x G D1 ∧ LE a.edges y G D2 ∧ LII a.goals z G D3
theorem LAu.local {a : Au} {v : AV} {G G' : Heap} {D : List Nat} (h : LAu a v G D) (hf : ∀ y ∈ D, ∀ b, G y = some b → G' y = some b) : LAu a v G' D := by
  obtain ⟨x, y, z, D1, D2, D3, e, rfl, h1, h2, h3⟩ := h
  exact ⟨x, y, z, D1, D2, D3, e, rfl, LRow.local (LPl.local eI) h1 (fun u hu => hf u (by simp [hu])), LRow.local (LPl.local eE) h2 (fun u hu => hf u (by simp [hu])), LRow.local LIc.local h3 (fun u hu => hf u (by simp [hu]))⟩
theorem LAu.has {a : Au} {v : AV} {G : Heap} {D : List Nat} (h : LAu a v G D) : ∀ y ∈ D, G y ≠ none := by
  obtain ⟨x, y, z, D1, D2, D3, e, rfl, h1, h2, h3⟩ := h
  intro u hu
  simp only [List.mem_append] at hu
  rcases hu with hu | hu | hu
  · exact LRow.has (LPl.has eI) h1 u hu
  · exact LRow.has (LPl.has eE) h2 u hu
  · exact LRow.has LIc.has h3 u hu
theorem nd3' {A B C : List Nat} (h : (A ++ (B ++ C)).Nodup) : A.Nodup ∧ B.Nodup ∧ C.Nodup ∧ (∀ y ∈ A, y ∉ B) ∧ (∀ y ∈ A, y ∉ C) ∧ (∀ y ∈ B, y ∉ C) := by
  rw [List.nodup_append, List.nodup_append] at h
  obtain ⟨h1, ⟨h2, h3, h4⟩, h5⟩ := h
  exact ⟨h1, h2, h3, fun y hy hb => h5 y hy y (List.mem_append_left _ hb) rfl, fun y hy hb => h5 y hy y (List.mem_append_right _ hb) rfl, fun y hy hb => h4 y hy y hb rfl⟩
theorem LAu.wk {a : Au} {v : AV} {G : Heap} {D : List Nat} (h : LAu a v G D) (hD : D.Nodup) (C : AV → AV) (hC : ∀ {q sz es a a'}, FrzR q sz es a a' → FrzR q sz es (C a) (C a')) : ∃ G', Wk (C v) G (C (aAu a)) G' ∧ ∀ y, y ∉ D → G' y = G y := by
  obtain ⟨x, y, z, D1, D2, D3, rfl, rfl, h1, h2, h3⟩ := h
  obtain ⟨n1, n2, n3, d12, d13, d23⟩ := nd3' hD
  obtain ⟨G1, w1, f1⟩ := LRow.frzV (e := eI) (sz := 1) (v := C (.agg [I a.states, x, y, z])) (v' := C (.agg [I a.states, Is a.first, y, z])) (by omega) (fun _ => rfl) (LPl.local eI) (LPl.frz eI) h1 n1
    (fun q _ hr => hC (.agg (.cons (.same _) (.cons hr (.cons (.same _) (.cons (.same _) .nil))))))
  have h2' := LRow.local (LPl.local eE) h2 (G' := G1) fun u hu b hb => by rw [f1 u (fun h => d12 u h hu)]; exact hb
  obtain ⟨G2, w2, f2⟩ := LRow.frzV (e := eE) (sz := 3) (v := C (.agg [I a.states, Is a.first, y, z])) (v' := C (.agg [I a.states, Is a.first, Es a.edges, z])) (by omega) (fun _ => rfl) (LPl.local eE) (LPl.frz eE) h2' n2
    (fun q _ hr => hC (.agg (.cons (.same _) (.cons (.same _) (.cons hr (.cons (.same _) .nil))))))
  have h3' := LRow.local LIc.local h3 (G' := G2) fun u hu b hb => by rw [f2 u (fun h => d23 u h hu), f1 u (fun h => d13 u h hu)]; exact hb
  obtain ⟨G3, w3, f3⟩ := LRow.frzV (e := eL) (sz := 1) (v := C (.agg [I a.states, Is a.first, Es a.edges, z])) (v' := C (aAu a)) (by omega) (fun _ => rfl) LIc.local LIc.frz h3' n3
    (fun q _ hr => hC (.agg (.cons (.same _) (.cons (.same _) (.cons (.same _) (.cons hr .nil))))))
  refine ⟨G3, .trans w1 (.trans w2 w3), fun u hu => ?_⟩
  simp only [List.mem_append, not_or] at hu
  rw [f3 u hu.2.2, f2 u hu.2.1, f1 u hu.1]
end Go.Proofs.YtgcklgeifdefhaaGreat
namespace Go.Proofs.YtgcklgeifdefhaaGreat
open Go Go.Sep Go.Pt
attribute [local irreducible] CallT
end Go.Proofs.YtgcklgeifdefhaaGreat
namespace Go.Proofs.YtgcklgeifdefhaaGreat
open Go Go.Sep Go.Pt
attribute [local irreducible] CallT
theorem cI_len (xs : List Int) : (cP fI xs).length = xs.length := by simp [cP]
theorem cI_app (xs ys : List Int) : cP fI (xs ++ ys) = cP fI xs ++ cP fI ys := by simp [cP]
theorem app_intsX {q : Nat} {xs ys : List Int} {ex : List AV} {G : Heap} {K : AV → Heap → Prop} (hq : G q = some (cP fI xs ++ ex)) (hl : xs.length + ys.length ≤ 1000000000)
    (h : ∀ q', G q' = none → q' ≠ q → K (rowP q' (xs ++ ys)) ((G.del q).set q' (cP fI (xs ++ ys)))) : appendV tab 46 46 (rowP q xs) (Is ys) G (wkK K) := by
  have hlen := cI_len xs
  simp only [appendV, tab_46, tab_3, srcV, baseV, hq]
  have e2 : List.map AV.p (List.map eI ys).flatten = cP fI ys := flat_P fI ys
  refine ⟨szI ys, trivial, by rw [List.length_append, hlen]; omega, by simp only [List.length_map]; omega, by simp only [List.length_map]; omega, cells_cell _, fun q' hq' => wkK.keep ?_⟩
  have hne : q' ≠ q := fun e => by rw [e, hq] at hq'; cases hq'
  have := h q' hq' hne
  have e : List.take (xs.length * 1) (List.drop 0 (cP fI xs ++ ex)) = cP fI xs := by rw [List.drop_zero, Nat.mul_one, ← hlen, List.take_left]
  rw [e, e2, List.length_map]
  rw [cI_app] at this
  simpa only [rowP, List.length_append] using this
theorem app_topI {q : Nat} {xs ys : List Int} {G : Heap} {K : AV → Heap → Prop} (hq : G q = none) (hl : xs.length + ys.length ≤ 1000000) (h : ∀ q', G q' = none → K (rowP q' (xs ++ ys)) (G.set q' (cP fI (xs ++ ys)))) :
    appendV tab 46 46 (rowP q xs) (Is ys) (G.set q (cP fI xs)) (wkK K) :=
  app_intsX (ex := []) (by rw [Heap.set_same, List.append_nil]) (by omega) fun q' hq' hne => by
    rw [Heap.del_set hq]
    rw [Heap.set_none] at hq'
    exact h q' hq'.2
theorem push_topI {q : Nat} {xs : List Int} {b : Int} {G : Heap} {K : AV → Heap → Prop} (hq : G q = none) (hl : xs.length ≤ 100000) (h : ∀ q', G q' = none → K (rowP q' (xs ++ [b])) (G.set q' (cP fI (xs ++ [b])))) :
    buildSliceV tab 46 1 [(0, I b)] (G.set q (cP fI xs)) (wkK fun v H1 => appendV tab 46 46 (rowP q xs) v H1 (wkK K)) := by
  refine lit1 tab_46 rfl tab_3 ⟨rfl, rfl⟩ ?_
  exact app_topI (ys := [b]) hq (by simp; omega) h
theorem lit0I {G : Heap} {K : AV → Heap → Prop} (h : ∀ q, G q = none → K (rowP q ([] : List Int)) (G.set q (cP fI []))) : buildSliceV tab 46 0 [] G (wkK K) := by
  simp only [buildSliceV, tab_46, tab_3]
  refine ⟨by omega, ?_⟩
  simp only [fillV, zerosA, List.replicate_zero, List.flatten_nil]
  exact fun r hr => wkK.keep (h r hr)
theorem GrowI_nil (n : Nat) (hn : n ≤ 1000000000) {H : Heap} {K : AV → Heap → Prop} (hz : n = 0 → K (.p .nil) H) (hp : 0 < n → ∀ q, H q = none → K (.sl q 1 0 0) (H.set q (zerosA n [I 0]))) : CallT Tryz.prog 151 [.p .nil, I n] H K := by
  refine CallT.fin ?_
  have e1 : IntKind.i64.wrap (n : Int) = n := i64_id (by omega) (by omega)
  have e0 : IntKind.i64.wrap 0 = 0 := rfl
  refine W151_ok ?_; simp (maxSteps := 1000000) (disch := first | assumption | (apply ν6; assumption)) only [W151, vz, vu, vv, eqS, eF_, ↓c1_, ↓c2_, tabs, reduceCtorEq, ι5, ↓reduceIte, ν1, ν2, ν3, ν4, ν5, ι1, ι2, ι3, ι4, capV, e0, Int.sub_zero, e1]
  refine ⟨fun h1 => by omega, fun _ => ⟨fun h2 => ?_, fun h2 => wkK.keep (hz (by omega))⟩⟩
  simp only [appendV, tab_46, tab_3]
  refine ⟨h2, by omega, by omega, fun q hq => wkK.keep ?_⟩
  (try simp (maxSteps := 1000000) (disch := first | assumption | (apply ν6; assumption)) only [vz, vu, vv, eqS, eF_, ↓c1_, ↓c2_, tabs, reduceCtorEq, ι5, ↓reduceIte, ν1, ν2, ν3, ν4, ν5, ι1, ι2, ι3, ι4, sliceV])
  exact ⟨by omega, by omega, by omega, by omega, wkK.keep (hp (by omega) q hq)⟩
theorem ConcatI_spec (bs : List (List Int)) (hl : bs.flatten.length ≤ 1000000) (hl2 : bs.length ≤ 1000000) {H : Heap} {K : AV → Heap → Prop} (h : ∀ q, H q = none → K (rowP q bs.flatten) (H.set q (cP fI bs.flatten))) : CallT Tryz.prog 101 [Ls bs] H K := by
  refine CallT.fin ?_
  refine CallT.ghost W101_hb fun q0 hq0 => ?_
  refine W101_ok ?_; simp (maxSteps := 1000000) (disch := first | assumption | (apply ν6; assumption)) only [W101, vz, vu, vv, eqS, eF_, ↓c1_, ↓c2_, tabs, reduceCtorEq, ι5, ↓reduceIte, ν1, ν2, ν3, ν4, ν5, ι1, ι2, ι3, ι4]
  have hsum : ∀ i, ((bs.take i).flatten).length ≤ bs.flatten.length := fun i => by
    have := congrArg (fun l : List (List Int) => l.flatten.length) (List.take_append_drop i bs)
    simp only [List.flatten_append, List.length_append] at this
    omega
  refine L101_0_rule (0 : Nat) (fun i => I ((bs.take i).flatten.length : Nat)) (fun i => I i) (fun _ => H.set q0 []) (fun i => i ≤ bs.length) (fun i => bs.length - i) ⟨by omega, .refl _, .refl _, Heap.le_refl _⟩ ?_
  intro i hi
  have hs1 := hsum i
  have hs2 := hsum (i + 1)
  (try simp (maxSteps := 1000000) (disch := first | assumption | (apply ν6; assumption)) only [vz, vu, vv, eqS, eF_, ↓c1_, ↓c2_, tabs, reduceCtorEq, ι5, ↓reduceIte, ν1, ν2, ν3, ν4, ν5, ι1, ι2, ι3, ι4, B101_0])
  refine ⟨fun h1 => ⟨by omega, h1, fun h2 => ?_, fun h2 => ⟨i + 1, by omega, by omega, ?_, ?_⟩⟩, fun h1 => ?_⟩
  · have e : (bs.take (i + 1)).flatten.length = (bs.take i).flatten.length + (bs.getD i default).length := by
      rw [take_succ_snoc (by omega : i < bs.length), List.flatten_append, List.length_append]; simp
    rw [i64_id (by omega) (by omega)] at h2
    omega
  · have e : (bs.take (i + 1)).flatten.length = (bs.take i).flatten.length + (bs.getD i default).length := by
      rw [take_succ_snoc (by omega : i < bs.length), List.flatten_append, List.length_append]; simp
    rw [wk_int, i64_id (by omega) (by omega)]; omega
  · rw [wk_int, i64_id (by omega) (by omega)]; simp
  have hi2 : i = bs.length := by omega
  subst hi2
  rw [List.take_length]
  have loop : ∀ (x : AV) (G : Heap), (∃ q ex, H q = none ∧ AV.wk x (.sl q 1 0 0) ∧ Heap.le (H.set q ex) G) → L101_1 (wkK K) x (Ls bs) (I bs.length) (I 0) G := by
    rintro x G ⟨q0, ex0, hq0, hx, hle⟩
    refine L101_1_rule ((0 : Nat), q0, ex0) (fun s => rowP s.2.1 (bs.take s.1).flatten) (fun s => I s.1) (fun s => H.set s.2.1 (cP fI (bs.take s.1).flatten ++ s.2.2))
      (fun s => s.1 ≤ bs.length ∧ H s.2.1 = none) (fun s => bs.length - s.1) ⟨⟨by simp, hq0⟩, hx, .refl _, by simpa [cP] using hle⟩ ?_
    rintro ⟨i, q, ex⟩ ⟨hi, hq⟩
    dsimp only at hi hq
    have hs1 := hsum i
    have hs2 := hsum (i + 1)
    (try simp (maxSteps := 1000000) (disch := first | assumption | (apply ν6; assumption)) only [vz, vu, vv, eqS, eF_, ↓c1_, ↓c2_, tabs, reduceCtorEq, ι5, ↓reduceIte, ν1, ν2, ν3, ν4, ν5, ι1, ι2, ι3, ι4, B101_1])
    refine ⟨fun h1 => ⟨by omega, h1, ?_⟩, fun h1 => ?_⟩
    · have e : (bs.take (i + 1)).flatten = (bs.take i).flatten ++ bs.getD i default := by
        rw [take_succ_snoc (by omega : i < bs.length), List.flatten_append]; simp
      have e2 := congrArg List.length e
      rw [List.length_append] at e2
      refine app_intsX (Heap.set_same _ _ _) (by omega) fun q' hq' hne => ?_
      rw [Heap.set_none] at hq'
      rw [← e]
      refine ⟨(i + 1, q', []), ⟨by simp only; omega, hq'.2⟩, by simp only; omega, .refl _, ?_, ?_⟩
      · rw [wk_int, i64_id (by omega) (by omega)]; simp
      · simp only [List.append_nil]
        generalize cP fI (bs.take (i + 1)).flatten = z
        have := hq'.2
        (intro y b hy; simp only [Heap.set, Heap.del] at hy ⊢; (repeat' split at hy) <;> (repeat' split) <;> simp_all [cells])
    · have hi2 : i = bs.length := by omega
      subst hi2
      rw [List.take_length]
      refine ⟨_, _, .cell (cs' := cP fI bs.flatten) (Heap.set_same _ _ _) (by rw [List.length_append]; omega) fun j a a' h1 h2 => ?_, ?_⟩
      · rw [List.getElem?_append_left (List.getElem?_eq_some_iff.1 h2).1, h2] at h1
        cases h1; exact .refl _
      · rw [Heap.set_set]; exact h q hq
  refine GrowI_nil _ (by omega) (fun h0 => ?_) (fun h0 q hq => ?_)
  · exact loop _ _ ⟨q0, [], hq0, .nilo _ _ _, Heap.le_refl _⟩
  · rw [Heap.set_none] at hq
    refine loop _ _ ⟨q, zerosA bs.flatten.length [I 0], hq.2, .refl _, ?_⟩
    generalize zerosA bs.flatten.length [I 0] = z
    have := hq.2
    (intro y b hy; simp only [Heap.set, Heap.del] at hy ⊢; (repeat' split at hy) <;> (repeat' split) <;> simp_all [cells])
def below (n : Nat) : List Int := (List.range n).map fun (i : Nat) => (i : Int)
theorem fin_int {q : Nat} {xs : List Int} {H G : Heap} (hq : H q = none) (hG : Heap.le (H.set q (cP fI xs)) G) : wkK (fun r H' => r = Is xs ∧ H' = H) (rowP q xs) G := by
  have := fin_own (sz := 1) (es := xs.map eI) (q := q) (H := H) (H' := G) (K := fun r H' => r = Is xs ∧ H' = H) (by omega) (szI _) hq (by
    have e : cells (xs.map eI) = cP fI xs := cells_P fI xs
    rw [e]; exact hG) ⟨rfl, rfl⟩
  simpa only [Go.Sep.own, List.length_map] using this
theorem LI_mk' {xs : List Int} {q : Nat} {G : Heap} (h : G q = some (cP fI xs)) : LI xs (rowP q xs) G [q] := LI_mk (by
  have e : cells (xs.map eI) = cP fI xs := cells_P fI xs
  rw [e]; exact h)
theorem lit_live1 {G : Heap} {K : AV → Heap → Prop} {q n : Nat} (h : ∀ ql, G ql = none → K (.sl ql 1 0 1) (G.set ql [.sl q 1 0 n])) : buildSliceV tab 60 1 [(0, .sl q 1 0 n)] G (wkK K) := by
  simp only [buildSliceV, tab_60, tab_46]
  refine ⟨by omega, ?_⟩
  simp only [fillV, zerosA, List.replicate_succ, List.replicate_zero, List.flatten_cons, List.flatten_nil, List.append_nil, AV.cells, splice]
  simp only [List.length_cons, List.length_nil, Nat.reduceAdd, Nat.zero_mul, Nat.zero_add, Nat.le_refl, and_self, if_true, List.take_zero, List.nil_append, List.drop_succ_cons, List.drop_zero, List.append_nil]
  exact fun r hr => wkK.keep (h r hr)
theorem CloneI_row (xs : List Int) (hl : xs.length ≤ 100000) {H : Heap} {K : AV → Heap → Prop} (h : ∀ q, H q = none → K (rowP q xs) (H.set q (cP fI xs))) : CallT Tryz.prog 169 [Is xs] H K := by
  refine CallT.fin ?_
  refine CallT.ghost W169_hb fun q0 hq0 => ?_
  refine W169_ok ?_; simp (maxSteps := 1000000) (disch := first | assumption | (apply ν6; assumption)) only [W169, vz, vu, vv, eqS, eF_, ↓c1_, ↓c2_, tabs, reduceCtorEq, ι5, ↓reduceIte, ν1, ν2, ν3, ν4, ν5, ι1, ι2, ι3, ι4]
  have main : buildSliceV tab 46 0 [] (H.set q0 []) (wkK fun v5 H1 => appendV tab 46 46 v5 (Is xs) H1 (wkK fun v7 H2 => wkK K v7 H2)) := by
    refine lit0I fun q1 hq1 => ?_
    refine app_topI (xs := []) (ys := xs) hq1 (by simp; omega) fun q2 hq2 => ?_
    rw [Heap.set_none] at hq2
    rw [List.nil_append]
    refine fin_le ?_ (h q2 hq2.2)
    generalize cP fI xs = z
    have := hq2.2
    have := hq2.1
    (intro y b hy; simp only [Heap.set, Heap.del] at hy ⊢; (repeat' split at hy) <;> (repeat' split) <;> simp_all [cells])
  refine ⟨fun h0 => ⟨?_, main⟩, fun _ => main⟩
  have hx : xs = [] := List.map_eq_nil_iff.1 h0
  subst hx
  exact ⟨_, _, .val (.nilo q0 1 0), h q0 hq0⟩
theorem IndexI_spec (l : List Int) (x : Int) (hl : l.length ≤ 1048576) : Pu Tryz.prog 152 [Is l, I x] (I (if x ∈ l then (l.idxOf x : Int) else -1)) := by
  refine Pu.of fun H => ?_
  refine W152_ok ?_; simp (maxSteps := 1000000) (disch := first | assumption | (apply ν6; assumption)) only [W152, vz, vu, vv, eqS, eF_, ↓c1_, ↓c2_, tabs, reduceCtorEq, ι5, ↓reduceIte, ν1, ν2, ν3, ν4, ν5, ι1, ι2, ι3, ι4]
  refine L152_0_rule (0 : Nat) (fun i => I i) (fun _ => H) (fun i => i ≤ l.length ∧ ∀ j, j < i → l.getD j default ≠ x) (fun i => l.length - i) ⟨⟨by omega, by intros; omega⟩, .refl _, Heap.le_refl _⟩ ?_
  rintro i ⟨hi, ha⟩
  (try simp (maxSteps := 1000000) (disch := first | assumption | (apply ν6; assumption)) only [vz, vu, vv, eqS, eF_, ↓c1_, ↓c2_, tabs, reduceCtorEq, ι5, ↓reduceIte, ν1, ν2, ν3, ν4, ν5, ι1, ι2, ι3, ι4, B152_0])
  refine ⟨fun h1 => ⟨by omega, h1, fun h2 => ?_, fun h2 => ⟨i + 1, ⟨by omega, fun j hj => ?_⟩, by omega, ?_⟩⟩, fun h1 => ?_⟩
  · have hlt : i < l.length := by omega
    have hm : x ∈ l := by rw [h2]; exact getD_all (p := fun x => x ∈ l) (fun _ h => h) hlt
    rw [if_pos hm]
    refine congrArg (fun n : Int => I n) ?_
    have : l.idxOf x = i := by
      rw [List.idxOf, List.findIdx_eq hlt]
      refine ⟨by rw [← getD_lt (d := default) hlt, ← h2]; simp, fun j hj => ?_⟩
      have := ha j hj
      rw [getD_lt (by omega : j < l.length)] at this
      simpa using this
    omega
  · rcases Nat.lt_succ_iff_lt_or_eq.1 hj with h | rfl
    · exact ha j h
    · exact fun e => h2 e.symm
  · rw [wk_int, i64_id (by omega) (by omega)]; simp
  · have hm : x ∉ l := by
      intro hm
      obtain ⟨j, hj, e⟩ := List.mem_iff_getElem.1 hm
      exact ha j (by omega) (by rw [getD_lt hj]; exact e)
    rw [if_neg hm]
theorem ContainsI_spec (l : List Int) (x : Int) (hl : l.length ≤ 1048576) : Pu Tryz.prog 104 [Is l, I x] (B (decide (x ∈ l))) := by
  refine Pu.of fun H => ?_
  refine W104_ok ?_; simp (maxSteps := 1000000) (disch := first | assumption | (apply ν6; assumption)) only [W104, vz, vu, vv, eqS, eF_, ↓c1_, ↓c2_, tabs, reduceCtorEq, ι5, ↓reduceIte, ν1, ν2, ν3, ν4, ν5, ι1, ι2, ι3, ι4]
  refine Pu.use (IndexI_spec l x hl) ?_
  (try simp (maxSteps := 1000000) (disch := first | assumption | (apply ν6; assumption)) only [vz, vu, vv, eqS, eF_, ↓c1_, ↓c2_, tabs, reduceCtorEq, ι5, ↓reduceIte, ν1, ν2, ν3, ν4, ν5, ι1, ι2, ι3, ι4])
  refine congrArg (fun b : Bool => B b) ?_
  by_cases h : x ∈ l
  · simp [h]
  · simp [h]
theorem l1Has_spec (l : List Int) (x : Int) (hl : l.length ≤ 1048576) : Pu Tryz.prog 98 [Is l, I x] (B (decide (x ∈ l))) := by
  refine Pu.of fun H => ?_
  refine W98_ok ?_; simp (maxSteps := 1000000) (disch := first | assumption | (apply ν6; assumption)) only [W98, vz, vu, vv, eqS, eF_, ↓c1_, ↓c2_, tabs, reduceCtorEq, ι5, ↓reduceIte, ν1, ν2, ν3, ν4, ν5, ι1, ι2, ι3, ι4]
  refine L98_0_rule (0 : Nat) (fun i => I i) (fun _ => H) (fun i => i ≤ l.length ∧ ∀ j, j < i → l.getD j default ≠ x) (fun i => l.length - i) ⟨⟨by omega, by intros; omega⟩, .refl _, Heap.le_refl _⟩ ?_
  rintro i ⟨hi, ha⟩
  (try simp (maxSteps := 1000000) (disch := first | assumption | (apply ν6; assumption)) only [vz, vu, vv, eqS, eF_, ↓c1_, ↓c2_, tabs, reduceCtorEq, ι5, ↓reduceIte, ν1, ν2, ν3, ν4, ν5, ι1, ι2, ι3, ι4, B98_0])
  refine ⟨fun h1 => ⟨by omega, h1, fun h2 => ?_, fun h2 => ⟨i + 1, ⟨by omega, fun j hj => ?_⟩, by omega, ?_⟩⟩, fun h1 => ?_⟩
  · have hlt : i < l.length := by omega
    have hm : x ∈ l := by rw [← h2]; exact getD_all (p := fun x => x ∈ l) (fun _ h => h) hlt
    rw [decide_eq_true hm]
  · rcases Nat.lt_succ_iff_lt_or_eq.1 hj with h | rfl
    · exact ha j h
    · exact h2
  · rw [wk_int, i64_id (by omega) (by omega)]; simp
  · have hm : x ∉ l := by
      intro hm
      obtain ⟨j, hj, e⟩ := List.mem_iff_getElem.1 hm
      exact ha j (by omega) (by rw [getD_lt hj]; exact e)
    rw [decide_eq_false hm]
end Go.Proofs.YtgcklgeifdefhaaGreat
namespace Go.Sep
open Go Go.RowKit
inductive FinK (K : AV → Heap → Prop) : AV → Heap → Prop where
  | done {v : AV} {H : Heap} (h : K v H) : FinK K v H
  | wk {v v' : AV} {H H' : Heap} (h : Wk v H v' H') (k : FinK K v' H') : FinK K v H
  | ghost {v : AV} {H : Heap} (k : ∀ z, H z = none → FinK K v (H.set z [])) : FinK K v H
def RN {α : Type} (L : Lay α) (sz : Nat) (x : AV) (xs : List α) (G : Heap) (D : List Nat) : Prop := (x = .p .nil ∧ xs = [] ∧ D = []) ∨ LRow L sz xs x G D
theorem RN.local {α : Type} {L : Lay α} {sz : Nat} (hL : L.Local) {x : AV} {xs : List α} {G G' : Heap} {D : List Nat} (h : RN L sz x xs G D) (hf : ∀ y ∈ D, ∀ b, G y = some b → G' y = some b) : RN L sz x xs G' D := by
  rcases h with h | h
  · exact .inl h
  · exact .inr (h.local hL hf)
theorem RN.has {α : Type} {L : Lay α} {sz : Nat} (hL : L.Has) {x : AV} {xs : List α} {G : Heap} {D : List Nat} (h : RN L sz x xs G D) : ∀ y ∈ D, G y ≠ none := by
  rcases h with ⟨h1, h2, rfl⟩ | h
  · intro y hy; cases hy
  · exact h.has hL
theorem RN.sl {α : Type} {L : Lay α} {sz : Nat} {x : AV} {xs : List α} {G : Heap} {D : List Nat} (h : RN L sz x xs G D) : x = .p .nil ∨ ∃ q, x = .sl q sz 0 xs.length := by
  rcases h with ⟨h1, _⟩ | ⟨q, cs, D', h1, _⟩
  · exact .inl h1
  · exact .inr ⟨q, h1⟩
def rnT {α : Type} {L : Lay α} (hL : L.Local) (hh : L.Has) (sz : Nat) (x : AV) (xs : List α) (D : List Nat) : Th := ⟨D, fun G => RN L sz x xs G D, fun h f => h.local hL f, fun h => h.has hh⟩
theorem LL.plain' {α : Type} {e : α → List PV} {G : Heap} : ∀ {xs : List α} {cs : List AV} {D : List Nat}, LL (LPl e) xs cs G D → cs = cells (xs.map e) ∧ D = []
  | [], _, _, ⟨h1, h2⟩ => ⟨h1, h2⟩
  | a :: xs, _, _, ⟨c1, c2, D1, D2, e1, e2, h1, h2⟩ => by
    obtain ⟨f1, f2⟩ := LL.plain' h2
    rw [e1, e2, h1.1, h1.2, f1, f2]
    exact ⟨by simp [cells], rfl⟩
theorem RN.app {tab : Tab} {t0 t1 e0 e1 sz : Nat} {d d1 ed : TD} {α : Type} {e : α → List PV} (h1 : tab t0 = some d) (h2 : d.k = .slice e0) (h3 : tab e0 = some ed) (h4 : tab t1 = some d1) (h5 : d1.k = .slice e1) (h6 : ed.size = sz) {bz : Nat} (h7 : ed.bytes = bz)
    (hsz : ∀ a, (e a).length = sz) {H G : Heap} {Ts : List Th} {x y : AV} {xs ys : List α} {D : List Nat} {hL : (LPl e).Local} {hh : (LPl e).Has} (s : St H Ts G) (i : Nat) (hi : Ts[i]? = some (rnT hL hh sz x xs D)) (hy : y = .p (.sl (ys.map e)))
    (hl : (xs.length + ys.length) * bz ≤ 140737488355328) (hl2 : xs.length + ys.length ≤ 9223372036854775807) {K : AV → Heap → Prop}
    (h : ∀ q' G', G q' = none → St H (Ts.set i (rnT hL hh sz (.sl q' sz 0 (xs ++ ys).length) (xs ++ ys) [q'])) G' → K (.sl q' sz 0 (xs ++ ys).length) G') : appendV tab t0 t1 x y G (wkK K) := by
  subst hy
  have hrz : RN (LPl e) sz x xs G D := s.get i hi
  rcases hrz with ⟨rfl, rfl, rfl⟩ | ⟨q, cs, D', rfl, hq, hll, rfl⟩
  · refine app_nil h1 h2 h3 h4 h5 h6 h7 (.inl rfl) (.inl rfl) (sized_map hsz ys) (by simpa using hl) (by simpa using hl2) fun q' hq' => ?_
    have := h q' _ hq' (s.repl i hi (rnT hL hh sz (.sl q' sz 0 ([] ++ ys).length) ([] ++ ys) [q']) (by simp [rnT]) (fun y hy => by
      simp only [rnT, List.mem_singleton] at hy; subst hy; exact .inr hq') (G' := G.set q' (cells (ys.map e))) (fun y b hb _ => Heap.le_set hq' y b hb) (.inr ⟨q', _, [], rfl, Heap.set_same _ _ _, LL.plain _, rfl⟩))
    simpa [Go.Sep.own] using this
  · obtain ⟨rfl, rfl⟩ := LL.plain' hll
    have := app_own (x := .p (.sl (ys.map e))) (r := q) (es := xs.map e) (fs := ys.map e) (H := G) (K := K) h1 h2 h3 h4 h5 h6 h7 (.inl rfl) hq (sized_map hsz xs) (sized_map hsz ys)
      (by simpa using hl) (by simpa using hl2) fun q' hq' => by
        have := h q' ((G.del q).set q' (cells ((xs ++ ys).map e))) hq' (s.repl i hi (rnT hL hh sz (.sl q' sz 0 (xs ++ ys).length) (xs ++ ys) [q']) (by simp [rnT]) (fun y hy => by
          simp only [rnT, List.mem_singleton] at hy; subst hy; exact .inr hq') (fun y b hb hy => by
            simp only [rnT, List.mem_singleton] at hy
            rw [Heap.set_other (fun e => by rw [e, hq'] at hb; cases hb), Heap.del_other hy]; exact hb) (.inr ⟨q', _, [], rfl, Heap.set_same _ _ _, LL.plain _, rfl⟩))
        simpa only [Go.Sep.own, List.length_map, List.map_append, List.length_append] using this
    simpa only [Go.Sep.own, List.length_map] using this
end Go.Sep
namespace Go.Proofs.YtgcklgeifdefhaaGreat
open Go Go.Sep Go.Pt
attribute [local irreducible] CallT
def LIn : Lay (List Int) := fun l cs G D => ∃ x, cs = [x] ∧ RN (LPl eI) 1 x l G D
theorem LIn.local : Lay.Local LIn := by
  rintro c cs G G' D ⟨x, e, h⟩ hf
  exact ⟨x, e, h.local (LPl.local eI) hf⟩
theorem LIn.has : Lay.Has LIn := by
  rintro c cs G D ⟨x, e, h⟩
  exact h.has (LPl.has eI)
theorem LIn.size : Lay.Size LIn 1 := by
  rintro c cs G D ⟨x, rfl, h⟩; rfl
theorem st_appI {H G : Heap} {Ts : List Th} {q : Nat} {xs ys : List Int} (s : St H Ts G) (i : Nat) (hi : Ts[i]? = some (cellT q (cP fI xs))) (hl : xs.length + ys.length ≤ 1000000000) {K : AV → Heap → Prop}
    (h : ∀ q' G', G q' = none → St H (Ts.set i (cellT q' (cP fI (xs ++ ys)))) G' → K (rowP q' (xs ++ ys)) G') : appendV tab 46 46 (rowP q xs) (Is ys) G (wkK K) := by
  have hq : G q = some (cP fI xs) := s.get i hi
  exact app_intsX (ex := []) (by rw [hq, List.append_nil]) hl fun q' hq' hne => h q' _ hq' (s.moved i hi hq')
end Go.Proofs.YtgcklgeifdefhaaGreat
namespace Go.Pt
structure Sd where
  op : Int
  n : Int
instance : Inhabited Sd := ⟨⟨0, 0⟩⟩
def need (op : Int) : Int := if op = 1 ∨ op = 2 then 0 else if op = 3 ∨ op = 4 then 1 else if op = 5 ∨ op = 6 ∨ op = 7 ∨ op = 8 then 2 else -1
def sdOk (x : Sd) : Bool := if x.op = 1 then decide (0 ≤ x.n) && decide (x.n < 3) else if x.op = 2 then decide (x.n = 0) || decide (x.n = 1) else decide (0 < need x.op) && decide (x.n = 0)
theorem need_cases (op : Int) : (need op = 0 ∧ (op = 1 ∨ op = 2)) ∨ (need op = 1 ∧ (op = 3 ∨ op = 4)) ∨ (need op = 2 ∧ (op = 5 ∨ op = 6 ∨ op = 7 ∨ op = 8)) ∨ need op = -1 := by
  unfold need
  by_cases h1 : op = 1 ∨ op = 2
  · rw [if_pos h1]; exact .inl ⟨rfl, h1⟩
  rw [if_neg h1]
  by_cases h2 : op = 3 ∨ op = 4
  · rw [if_pos h2]; exact .inr (.inl ⟨rfl, h2⟩)
  rw [if_neg h2]
  by_cases h3 : op = 5 ∨ op = 6 ∨ op = 7 ∨ op = 8
  · rw [if_pos h3]; exact .inr (.inr (.inl ⟨rfl, h3⟩))
  rw [if_neg h3]; exact .inr (.inr (.inr rfl))
theorem sdOk_need {x : Sd} (h : sdOk x = true) : 0 ≤ need x.op ∧ need x.op ≤ 2 := by
  unfold sdOk at h
  split at h
  · rename_i e; rw [e]; decide
  · split at h
    · rename_i e; rw [e]; decide
    · rw [Bool.and_eq_true, decide_eq_true_eq] at h
      rcases need_cases x.op with h1 | h1 | h1 | h1 <;> omega
def vals (f : List Sd) : Nat → Int
  | 0 => 0
  | i + 1 => vals f i + (1 - need (f.getD i default).op)
def sdAt (f : List Sd) (i : Nat) : Bool := sdOk (f.getD i default) && decide (need (f.getD i default).op ≤ vals f i)
def goodF (f : List Sd) : Bool := decide (1 ≤ f.length) && decide (f.length ≤ 16) && (List.range f.length).all (sdAt f) && decide (vals f f.length = 1)
def stk (f : List Sd) : Nat → List (Nat × Nat)
  | 0 => []
  | i + 1 =>
    if need (f.getD i default).op = 0 then (i, i) :: stk f i
    else if need (f.getD i default).op = 1 then (((stk f i).headD (0, 0)).1, i) :: (stk f i).tail
    else (((stk f i).tail.headD (0, 0)).1, i) :: (stk f i).tail.tail
def tst (f : List Sd) (k : Nat) : Nat := ((stk f (k + 1)).headD (0, 0)).1
def Cont : Nat → List (Nat × Nat) → Prop
  | i, [] => i = 0
  | i, (s, k) :: r => k + 1 = i ∧ s ≤ k ∧ Cont s r
structure GoodFm (f : List Sd) : Prop where
  l0 : 1 ≤ f.length
  l1 : f.length ≤ 16
  ok : ∀ i, i < f.length → sdOk (f.getD i default) = true ∧ need (f.getD i default).op ≤ vals f i
  one : vals f f.length = 1
theorem goodF_iff {f : List Sd} : goodF f = true ↔ GoodFm f := by
  unfold goodF
  simp only [Bool.and_eq_true, decide_eq_true_eq, List.all_eq_true, List.mem_range, sdAt]
  exact ⟨fun h => ⟨h.1.1.1, h.1.1.2, h.1.2, h.2⟩, fun h => ⟨⟨⟨h.l0, h.l1⟩, h.ok⟩, h.one⟩⟩
theorem stk_len {f : List Sd} (g : GoodFm f) : ∀ i, i ≤ f.length → ((stk f i).length : Int) = vals f i := by
  intro i
  induction i with
  | zero => intro _; rfl
  | succ i ih =>
    intro hi
    have h1 := ih (by omega)
    have h2 := g.ok i (by omega)
    have h3 := sdOk_need h2.1
    have h4 := h2.2
    simp only [stk, vals]
    split
    · rename_i e; rw [List.length_cons]; omega
    · split
      · rename_i e; rw [List.length_cons, List.length_tail]; omega
      · rw [List.length_cons, List.length_tail, List.length_tail]; omega
theorem stk_cont {f : List Sd} (g : GoodFm f) : ∀ i, i ≤ f.length → Cont i (stk f i) := by
  intro i
  induction i with
  | zero => intro _; rfl
  | succ i ih =>
    intro hi
    have h1 := ih (by omega)
    have h2 := g.ok i (by omega)
    have h3 := sdOk_need h2.1
    have h4 := h2.2
    have h5 := stk_len g i (by omega)
    simp only [stk]
    split
    · exact ⟨rfl, Nat.le_refl _, h1⟩
    · split
      · cases hs : stk f i with
        | nil => rw [hs] at h5; simp at h5; omega
        | cons a r =>
          obtain ⟨s, k⟩ := a
          rw [hs] at h1
          obtain ⟨c1, c2, c3⟩ := h1
          exact ⟨rfl, by simp only [List.headD_cons]; omega, by simpa using c3⟩
      · cases hs : stk f i with
        | nil => rw [hs] at h5; simp at h5; omega
        | cons a r =>
          obtain ⟨s, k⟩ := a
          rw [hs] at h1 h5
          obtain ⟨c1, c2, c3⟩ := h1
          cases r with
          | nil => simp at h5; omega
          | cons b r =>
            obtain ⟨s2, k2⟩ := b
            obtain ⟨d1, d2, d3⟩ := c3
            exact ⟨rfl, by simp only [List.tail_cons, List.headD_cons]; omega, by simpa using d3⟩
theorem stk_below {f : List Sd} (g : GoodFm f) : ∀ n i, i ≤ n → i ≤ f.length → ∀ s k r, stk f i = (s, k) :: r → stk f s = r := by
  intro n
  induction n with
  | zero => intro i hi _ s k r h; have : i = 0 := by omega
            subst this; cases h
  | succ n ih =>
    intro i hi hl s k r h
    cases i with
    | zero => cases h
    | succ i =>
      have h2 := g.ok i (by omega)
      have h3 := sdOk_need h2.1
      have h4 := h2.2
      have h5 := stk_len g i (by omega)
      have hc := stk_cont g i (by omega)
      simp only [stk] at h
      split at h
      · injection h with e1 e2
        injection e1 with e3 e4
        rw [← e3]; exact e2
      · split at h
        · cases hs : stk f i with
          | nil => rw [hs] at h5; simp at h5; omega
          | cons a r' =>
            obtain ⟨s', k'⟩ := a
            rw [hs] at h
            simp only [List.headD_cons, List.tail_cons] at h
            injection h with e1 e2
            injection e1 with e3 e4
            rw [← e3, ← e2]
            exact ih i (by omega) (by omega) s' k' r' hs
        · cases hs : stk f i with
          | nil => rw [hs] at h5; simp at h5; omega
          | cons a r' =>
            obtain ⟨s', k'⟩ := a
            have hb := ih i (by omega) (by omega) s' k' r' hs
            rw [hs] at h h5 hc
            cases r' with
            | nil => simp at h5; omega
            | cons b r'' =>
              obtain ⟨s2, k2⟩ := b
              simp only [List.headD_cons, List.tail_cons] at h
              injection h with e1 e2
              injection e1 with e3 e4
              obtain ⟨c1, c2, c3⟩ := hc
              rw [← e3, ← e2]
              exact ih s' (by omega) (by omega) s2 k2 r'' hb
theorem stk_top {f : List Sd} (g : GoodFm f) {k : Nat} (hk : k ≤ f.length) (h0 : 0 < k) : ∃ r, stk f k = (tst f (k - 1), k - 1) :: r ∧ tst f (k - 1) ≤ k - 1 ∧ stk f (tst f (k - 1)) = r := by
  have hc := stk_cont g k hk
  cases hs : stk f k with
  | nil => rw [hs] at hc; have : k = 0 := hc; omega
  | cons a r =>
    obtain ⟨s, j⟩ := a
    rw [hs] at hc
    obtain ⟨c1, c2, c3⟩ := hc
    have e : tst f (k - 1) = s := by
      unfold tst
      rw [show k - 1 + 1 = k by omega, hs]; rfl
    have hb := stk_below g k k (Nat.le_refl _) hk s j r hs
    refine ⟨r, ?_, ?_, ?_⟩
    · rw [e, show j = k - 1 by omega]
    · rw [e]; omega
    · rw [e]; exact hb
theorem tst1 {f : List Sd} (g : GoodFm f) {k : Nat} (hk : k < f.length) (h : need (f.getD k default).op = 1) : 1 ≤ k ∧ tst f k = tst f (k - 1) := by
  have h2 := g.ok k hk
  have h5 := stk_len g k (by omega)
  have h0 : 0 < k := by
    cases k with
    | zero => simp [stk] at h5; omega
    | succ k => omega
  obtain ⟨r, e, _, _⟩ := stk_top g (by omega : k ≤ f.length) h0
  refine ⟨h0, ?_⟩
  rw [tst, stk, if_neg (by omega), if_pos h, e]; rfl
theorem tst2 {f : List Sd} (g : GoodFm f) {k : Nat} (hk : k < f.length) (h : need (f.getD k default).op = 2) : 1 ≤ k ∧ 1 ≤ tst f (k - 1) ∧ tst f (k - 1) ≤ k - 1 ∧ tst f k = tst f (tst f (k - 1) - 1) ∧ ∃ r, stk f k = (tst f (k - 1), k - 1) :: (tst f (tst f (k - 1) - 1), tst f (k - 1) - 1) :: r := by
  have h2 := g.ok k hk
  have h5 := stk_len g k (by omega)
  have h0 : 0 < k := by
    cases k with
    | zero => simp [stk] at h5; omega
    | succ k => omega
  obtain ⟨r, e, e1, e2⟩ := stk_top g (by omega : k ≤ f.length) h0
  have h6 : 0 < tst f (k - 1) := by
    rcases Nat.eq_zero_or_pos (tst f (k - 1)) with hz | hz
    · rw [hz] at e2
      have : r = [] := e2.symm
      rw [e, this] at h5
      simp at h5; omega
    · exact hz
  obtain ⟨r2, f1, f2, f3⟩ := stk_top g (by omega : tst f (k - 1) ≤ f.length) h6
  rw [e2] at f1
  refine ⟨h0, h6, e1, ?_, r2, by rw [e, f1]⟩
  rw [tst, stk, if_neg (by omega), if_neg (by omega), e, f1]; rfl
def opsF (f : List Sd) (i : Nat) : List Int :=
  if need (f.getD i default).op = 0 then [] else if need (f.getD i default).op = 1 then [(i : Int) - 1] else [(tst f (i - 1) : Int) - 1, (i : Int) - 1]
def roots (f : List Sd) (i : Nat) : List Int := ((stk f i).reverse.map fun x => (x.2 : Int))
theorem roots_succ {f : List Sd} (g : GoodFm f) {i : Nat} (hi : i < f.length) : ∃ r, roots f i = r ++ opsF f i ∧ roots f (i + 1) = r ++ [(i : Int)] ∧ ((opsF f i).length : Int) = need (f.getD i default).op := by
  have h2 := g.ok i hi
  have h3 := sdOk_need h2.1
  rcases (by omega : need (f.getD i default).op = 0 ∨ need (f.getD i default).op = 1 ∨ need (f.getD i default).op = 2) with h | h | h
  · refine ⟨roots f i, ?_, ?_, ?_⟩
    · rw [opsF, if_pos h]; simp
    · rw [roots, stk, if_pos h]; simp [roots]
    · rw [opsF, if_pos h, h]; rfl
  · obtain ⟨r, e, _, _⟩ := stk_top g (by omega : i ≤ f.length) (tst1 g hi h).1
    have h0 := (tst1 g hi h).1
    refine ⟨r.reverse.map fun x => (x.2 : Int), ?_, ?_, ?_⟩
    · rw [opsF, if_neg (by omega), if_pos h, roots, e]
      simp only [List.reverse_cons, List.map_append, List.map_cons, List.map_nil]
      congr 2; omega
    · rw [roots, stk, if_neg (by omega), if_pos h, e]; simp
    · rw [opsF, if_neg (by omega), if_pos h, h]; rfl
  · obtain ⟨h0, h1, h4, _, r, e⟩ := tst2 g hi h
    refine ⟨r.reverse.map fun x => (x.2 : Int), ?_, ?_, ?_⟩
    · rw [opsF, if_neg (by omega), if_neg (by omega), roots, e]
      simp only [List.reverse_cons, List.map_append, List.map_cons, List.map_nil, List.append_assoc, List.cons_append, List.nil_append]
      congr 3
      · omega
      · congr 1; omega
    · rw [roots, stk, if_neg (by omega), if_neg (by omega), e]; simp
    · rw [opsF, if_neg (by omega), if_neg (by omega), h]; rfl
def trAt (f : List Sd) (i : Nat) : List Int := if (f.getD i default).op = 7 ∨ (f.getD i default).op = 8 then [(i : Int), (i : Int) - 1] else if (f.getD i default).op = 4 then [(i : Int) - 1] else []
def trL (f : List Sd) (i : Nat) : List Int := ((f.length : Int) - 1) :: ((List.range i).map (trAt f)).flatten
theorem trL_succ (f : List Sd) (i : Nat) : trL f (i + 1) = trL f i ++ trAt f i := by simp [trL, List.range_succ]
theorem trAt_len (f : List Sd) (i : Nat) : (trAt f i).length ≤ 2 := by
  unfold trAt; split
  · simp
  · split <;> simp
theorem trL_len (f : List Sd) (i : Nat) : (trL f i).length ≤ 2 * i + 1 := by
  induction i with
  | zero => simp [trL]
  | succ i ih => rw [trL_succ, List.length_append]; have := trAt_len f i; omega
end Go.Pt
