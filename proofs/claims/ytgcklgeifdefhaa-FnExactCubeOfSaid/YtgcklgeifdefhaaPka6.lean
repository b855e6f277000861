/- Texts laid together: Le7 Le8a Lr1 Lq1 Lr6 Qa0 Qa1 Qa2 Ps1 Qb0 Qa3 Pm1 Ma1 Ma3. -/
import Derived.Test.YtgcklgeifdefhaaPka5
import Derived.Lib.SlicesCompact
set_option linter.unusedVariables false
set_option linter.unusedSimpArgs false
/- Specs: programs, and classes of their states. -/
namespace Go.Proofs.Ytgcklgeifdefhaa
open Go Go.Sep Go.Pt
set_option linter.unusedSimpArgs false
set_option linter.unusedVariables false
attribute [local irreducible] CallT

theorem GoodProgram1_at (p : Pg) (c : Cm) (r : Nat) {H : Heap} (hr : H r = some [I p.wide, I p.vars, Ns p.start, Cms p.cmds]) (hc : vCm c) : PuAt Try.prog 82 [aCm c, .ptr r 0] H (B (!goodCm p.wide p.vars c)) := by
  intro K hK
  refine CallT.fin ?_
  refine W82_ok ?_; simp (maxSteps := 1000000) (disch := first | assumption | (apply Ne.symm; assumption)) only [W82, vz, vu, vv, eqS, eqFieldsV, ↓condV_t, ↓condV_f, tabs, reduceCtorEq, Array.toList, ↓reduceIte, Nat.reduceAdd, Nat.reduceLeDiff, Nat.reduceLT, Nat.reduceMul, Nat.reduceSub, Int.reduceToNat, Int.reduceSub, Int.reduceAdd, Int.reduceNeg]
  intro r2 hr2
  have n2 : r ≠ r2 := by rintro rfl; rw [hr] at hr2; cases hr2
  (try simp (maxSteps := 1000000) (disch := first | assumption | (apply Ne.symm; assumption)) only [vz, vu, vv, eqS, eqFieldsV, ↓condV_t, ↓condV_f, tabs, reduceCtorEq, Array.toList, ↓reduceIte, Nat.reduceAdd, Nat.reduceLeDiff, Nat.reduceLT, Nat.reduceMul, Nat.reduceSub, Int.reduceToNat, Int.reduceSub, Int.reduceAdd, Int.reduceNeg, load_at hr])
  refine Pu.use (isCommand_spec p c hc) ?_
  (try simp (maxSteps := 1000000) (disch := first | assumption | (apply Ne.symm; assumption)) only [vz, vu, vv, eqS, eqFieldsV, ↓condV_t, ↓condV_f, tabs, reduceCtorEq, Array.toList, ↓reduceIte, Nat.reduceAdd, Nat.reduceLeDiff, Nat.reduceLT, Nat.reduceMul, Nat.reduceSub, Int.reduceToNat, Int.reduceSub, Int.reduceAdd, Int.reduceNeg])
  exact fin_le (Heap.le_set hr2) hK

theorem goodP_f {p : Pg} (h : ¬ (kind p.wide p.vars p.start = 2 ∧ 1 ≤ p.cmds.length ∧ p.cmds.length ≤ 6)) : B false = B (goodP p) := by
  have : goodP p = false := by
    rw [Bool.eq_false_iff]; intro h2
    simp only [goodP, Bool.and_eq_true, decide_eq_true_eq] at h2
    exact h ⟨h2.1.1, h2.1.2⟩
  rw [this]
theorem goodP_e {p : Pg} (h : kind p.wide p.vars p.start = 2 ∧ 1 ≤ p.cmds.length ∧ p.cmds.length ≤ 6) : goodP p = p.cmds.all (goodCm p.wide p.vars) := by
  simp only [goodP, h.1, h.2.1, h.2.2, decide_true, Bool.and_self, Bool.true_and]

theorem GoodProgram_impl (p : Pg) (hp : vPg p) : Pu Try.prog 61 [aPg p] (B (goodP p)) := by
  refine Pu.of fun H => ?_
  refine W61_ok ?_; simp (maxSteps := 1000000) (disch := first | assumption | (apply Ne.symm; assumption)) only [W61, vz, vu, vv, eqS, eqFieldsV, ↓condV_t, ↓condV_f, tabs, reduceCtorEq, Array.toList, ↓reduceIte, Nat.reduceAdd, Nat.reduceLeDiff, Nat.reduceLT, Nat.reduceMul, Nat.reduceSub, Int.reduceToNat, Int.reduceSub, Int.reduceAdd, Int.reduceNeg]
  intro r hr
  have hle : Heap.le H (H.set r [I p.wide, I p.vars, Ns p.start, Cms p.cmds]) := Heap.le_set hr
  have hcl := hp.2.1
  refine Pu.use (isWide_spec _) ?_
  cases hw : inB p.wide 1 64
  · (try simp (maxSteps := 1000000) (disch := first | assumption | (apply Ne.symm; assumption)) only [vz, vu, vv, eqS, eqFieldsV, ↓condV_t, ↓condV_f, tabs, reduceCtorEq, Array.toList, ↓reduceIte, Nat.reduceAdd, Nat.reduceLeDiff, Nat.reduceLT, Nat.reduceMul, Nat.reduceSub, Int.reduceToNat, Int.reduceSub, Int.reduceAdd, Int.reduceNeg])
    exact ⟨goodP_f (fun h => by rw [inB_iff.2 (kind2_frame h.1).1] at hw; cases hw), hle⟩
  (try simp (maxSteps := 1000000) (disch := first | assumption | (apply Ne.symm; assumption)) only [vz, vu, vv, eqS, eqFieldsV, ↓condV_t, ↓condV_f, tabs, reduceCtorEq, Array.toList, ↓reduceIte, Nat.reduceAdd, Nat.reduceLeDiff, Nat.reduceLT, Nat.reduceMul, Nat.reduceSub, Int.reduceToNat, Int.reduceSub, Int.reduceAdd, Int.reduceNeg])
  refine Pu.use (isVars_spec _) ?_
  cases hv : inB p.vars 1 4
  · (try simp (maxSteps := 1000000) (disch := first | assumption | (apply Ne.symm; assumption)) only [vz, vu, vv, eqS, eqFieldsV, ↓condV_t, ↓condV_f, tabs, reduceCtorEq, Array.toList, ↓reduceIte, Nat.reduceAdd, Nat.reduceLeDiff, Nat.reduceLT, Nat.reduceMul, Nat.reduceSub, Int.reduceToNat, Int.reduceSub, Int.reduceAdd, Int.reduceNeg])
    exact ⟨goodP_f (fun h => by rw [inB_iff.2 (kind2_frame h.1).2] at hv; cases hv), hle⟩
  (try simp (maxSteps := 1000000) (disch := first | assumption | (apply Ne.symm; assumption)) only [vz, vu, vv, eqS, eqFieldsV, ↓condV_t, ↓condV_f, tabs, reduceCtorEq, Array.toList, ↓reduceIte, Nat.reduceAdd, Nat.reduceLeDiff, Nat.reduceLT, Nat.reduceMul, Nat.reduceSub, Int.reduceToNat, Int.reduceSub, Int.reduceAdd, Int.reduceNeg])
  refine Pu.use (isCondition_spec p p.start hp.1) ?_
  (try simp (maxSteps := 1000000) (disch := first | assumption | (apply Ne.symm; assumption)) only [vz, vu, vv, eqS, eqFieldsV, ↓condV_t, ↓condV_f, tabs, reduceCtorEq, Array.toList, ↓reduceIte, Nat.reduceAdd, Nat.reduceLeDiff, Nat.reduceLT, Nat.reduceMul, Nat.reduceSub, Int.reduceToNat, Int.reduceSub, Int.reduceAdd, Int.reduceNeg])
  refine ⟨fun h => ⟨goodP_f (fun hh => h hh.1), hle⟩, fun h => ⟨fun h1 => ⟨goodP_f (fun hh => by omega), hle⟩, fun h1 => ⟨fun h2 => ⟨goodP_f (fun hh => by omega), hle⟩, fun h2 => ?_⟩⟩⟩
  refine PuAt.use (ContainsFuncC_at p.cmds _ _ (fun c => !goodCm p.wide p.vars c) (by omega) fun c hm => GoodProgram1_at p c r (Heap.set_same _ _ _) (hp.2.2 c hm)) ?_
  (try simp (maxSteps := 1000000) (disch := first | assumption | (apply Ne.symm; assumption)) only [vz, vu, vv, eqS, eqFieldsV, ↓condV_t, ↓condV_f, tabs, reduceCtorEq, Array.toList, ↓reduceIte, Nat.reduceAdd, Nat.reduceLeDiff, Nat.reduceLT, Nat.reduceMul, Nat.reduceSub, Int.reduceToNat, Int.reduceSub, Int.reduceAdd, Int.reduceNeg])
  refine ⟨?_, hle⟩
  rw [goodP_e ⟨h, by omega, by omega⟩, List.all_eq_not_any_not]

theorem GoodProgram_spec (p : Pg) (hp : vPg p) : Pu Try.prog 54 [aPg p] (B (goodP p)) := by
  refine Pu.of fun H => ?_
  refine W54_ok ?_; simp (maxSteps := 1000000) (disch := first | assumption | (apply Ne.symm; assumption)) only [W54, vz, vu, vv, eqS, eqFieldsV, ↓condV_t, ↓condV_f, tabs, reduceCtorEq, Array.toList, ↓reduceIte, Nat.reduceAdd, Nat.reduceLeDiff, Nat.reduceLT, Nat.reduceMul, Nat.reduceSub, Int.reduceToNat, Int.reduceSub, Int.reduceAdd, Int.reduceNeg]
  intro r hr
  have hle : Heap.le H (H.set r [I p.wide, I p.vars, Ns p.start, Cms p.cmds]) := Heap.le_set hr
  have hcl := hp.2.1
  refine Pu.use (l7Asks_spec p p.start hp.1) ?_
  by_cases h : kind p.wide p.vars p.start = 2
  rotate_left
  · rw [decide_eq_false h]
    (try simp (maxSteps := 1000000) (disch := first | assumption | (apply Ne.symm; assumption)) only [vz, vu, vv, eqS, eqFieldsV, ↓condV_t, ↓condV_f, tabs, reduceCtorEq, Array.toList, ↓reduceIte, Nat.reduceAdd, Nat.reduceLeDiff, Nat.reduceLT, Nat.reduceMul, Nat.reduceSub, Int.reduceToNat, Int.reduceSub, Int.reduceAdd, Int.reduceNeg])
    exact ⟨goodP_f fun hh => h hh.1, hle⟩
  rw [decide_eq_true h]
  (try simp (maxSteps := 1000000) (disch := first | assumption | (apply Ne.symm; assumption)) only [vz, vu, vv, eqS, eqFieldsV, ↓condV_t, ↓condV_f, tabs, reduceCtorEq, Array.toList, ↓reduceIte, Nat.reduceAdd, Nat.reduceLeDiff, Nat.reduceLT, Nat.reduceMul, Nat.reduceSub, Int.reduceToNat, Int.reduceSub, Int.reduceAdd, Int.reduceNeg])
  refine Pu.use (l1In_B p.cmds.length 1 6) ?_
  cases h1 : inB p.cmds.length 1 6
  · (try simp (maxSteps := 1000000) (disch := first | assumption | (apply Ne.symm; assumption)) only [vz, vu, vv, eqS, eqFieldsV, ↓condV_t, ↓condV_f, tabs, reduceCtorEq, Array.toList, ↓reduceIte, Nat.reduceAdd, Nat.reduceLeDiff, Nat.reduceLT, Nat.reduceMul, Nat.reduceSub, Int.reduceToNat, Int.reduceSub, Int.reduceAdd, Int.reduceNeg])
    exact ⟨goodP_f (fun hh => by rw [inB_iff.2 (by omega)] at h1; cases h1), hle⟩
  rw [inB_iff] at h1
  (try simp (maxSteps := 1000000) (disch := first | assumption | (apply Ne.symm; assumption)) only [vz, vu, vv, eqS, eqFieldsV, ↓condV_t, ↓condV_f, tabs, reduceCtorEq, Array.toList, ↓reduceIte, Nat.reduceAdd, Nat.reduceLeDiff, Nat.reduceLT, Nat.reduceMul, Nat.reduceSub, Int.reduceToNat, Int.reduceSub, Int.reduceAdd, Int.reduceNeg])
  have hg : kind p.wide p.vars p.start = 2 ∧ 1 ≤ p.cmds.length ∧ p.cmds.length ≤ 6 := ⟨h, by omega, by omega⟩
  refine L54_0_rule (0 : Nat) (fun i => I i) (fun _ => H.set r [I p.wide, I p.vars, Ns p.start, Cms p.cmds]) (fun i => i ≤ p.cmds.length ∧ (p.cmds.take i).all (goodCm p.wide p.vars) = true) (fun i => p.cmds.length - i) ⟨⟨by omega, by simp⟩, .refl _, Heap.le_refl _⟩ ?_
  rintro i ⟨hi, ha⟩
  (try simp (maxSteps := 1000000) (disch := first | assumption | (apply Ne.symm; assumption)) only [vz, vu, vv, eqS, eqFieldsV, ↓condV_t, ↓condV_f, tabs, reduceCtorEq, Array.toList, ↓reduceIte, Nat.reduceAdd, Nat.reduceLeDiff, Nat.reduceLT, Nat.reduceMul, Nat.reduceSub, Int.reduceToNat, Int.reduceSub, Int.reduceAdd, Int.reduceNeg, B54_0])
  refine ⟨fun h2 => ⟨by omega, h2, ?_⟩, fun h2 => ?_⟩
  · have hlt : i < p.cmds.length := by omega
    have hm : p.cmds.getD i default ∈ p.cmds := getD_all (p := fun x => x ∈ p.cmds) (fun _ h => h) hlt
    intro r4 n4 hr4
    have nn4 : r ≠ r4 := Ne.symm n4
    (try simp (maxSteps := 1000000) (disch := first | assumption | (apply Ne.symm; assumption)) only [vz, vu, vv, eqS, eqFieldsV, ↓condV_t, ↓condV_f, tabs, reduceCtorEq, Array.toList, ↓reduceIte, Nat.reduceAdd, Nat.reduceLeDiff, Nat.reduceLT, Nat.reduceMul, Nat.reduceSub, Int.reduceToNat, Int.reduceSub, Int.reduceAdd, Int.reduceNeg])
    refine Pu.use (l7Command_spec p _ (hp.2.2 _ hm)) ?_
    cases hc : goodCm p.wide p.vars (p.cmds.getD i default)
    · (try simp (maxSteps := 1000000) (disch := first | assumption | (apply Ne.symm; assumption)) only [vz, vu, vv, eqS, eqFieldsV, ↓condV_t, ↓condV_f, tabs, reduceCtorEq, Array.toList, ↓reduceIte, Nat.reduceAdd, Nat.reduceLeDiff, Nat.reduceLT, Nat.reduceMul, Nat.reduceSub, Int.reduceToNat, Int.reduceSub, Int.reduceAdd, Int.reduceNeg])
      refine ⟨?_, Heap.le_setN hle hr4⟩
      have : (p.cmds.all (goodCm p.wide p.vars)) = false := by rw [List.all_eq_false]; exact ⟨_, hm, by rw [hc]; simp⟩
      rw [goodP_e hg, this]
    · (try simp (maxSteps := 1000000) (disch := first | assumption | (apply Ne.symm; assumption)) only [vz, vu, vv, eqS, eqFieldsV, ↓condV_t, ↓condV_f, tabs, reduceCtorEq, Array.toList, ↓reduceIte, Nat.reduceAdd, Nat.reduceLeDiff, Nat.reduceLT, Nat.reduceMul, Nat.reduceSub, Int.reduceToNat, Int.reduceSub, Int.reduceAdd, Int.reduceNeg])
      refine ⟨i + 1, ⟨by omega, ?_⟩, by omega, ?_, Heap.le_set (by simp [Heap.set_none, n4, hr4])⟩
      · rw [take_all_succ hlt, ha, ← getD_lt (d := default) hlt, hc]; rfl
      · rw [wk_int, i64_id (by omega) (by omega)]; simp
  · have : i = p.cmds.length := by omega
    subst this
    rw [List.take_length] at ha
    exact ⟨by rw [goodP_e hg, ha], hle⟩

theorem isSmall_spec (p : Pg) (hp : vPg p) : Pu Try.prog 43 [aPg p] (B (smallP p)) := by
  refine Pu.of fun H => ?_
  refine W43_ok ?_; simp (maxSteps := 1000000) (disch := first | assumption | (apply Ne.symm; assumption)) only [W43, vz, vu, vv, eqS, eqFieldsV, ↓condV_t, ↓condV_f, tabs, reduceCtorEq, Array.toList, ↓reduceIte, Nat.reduceAdd, Nat.reduceLeDiff, Nat.reduceLT, Nat.reduceMul, Nat.reduceSub, Int.reduceToNat, Int.reduceSub, Int.reduceAdd, Int.reduceNeg]
  intro r hr
  refine Pu.use (GoodProgram_impl p hp) ?_
  cases h : goodP p
  · (try simp (maxSteps := 1000000) (disch := first | assumption | (apply Ne.symm; assumption)) only [vz, vu, vv, eqS, eqFieldsV, ↓condV_t, ↓condV_f, tabs, reduceCtorEq, Array.toList, ↓reduceIte, Nat.reduceAdd, Nat.reduceLeDiff, Nat.reduceLT, Nat.reduceMul, Nat.reduceSub, Int.reduceToNat, Int.reduceSub, Int.reduceAdd, Int.reduceNeg])
    exact ⟨by simp only [smallP, h, Bool.false_and], Heap.le_set hr⟩
  · have hr2 := goodP_rng h
    have := mul_rng hr2.1 hr2.2
    have e : IntKind.i64.wrap (p.wide * p.vars) = p.wide * p.vars := i64_id (by omega) (by omega)
    (try simp (maxSteps := 1000000) (disch := first | assumption | (apply Ne.symm; assumption)) only [vz, vu, vv, eqS, eqFieldsV, ↓condV_t, ↓condV_f, tabs, reduceCtorEq, Array.toList, ↓reduceIte, Nat.reduceAdd, Nat.reduceLeDiff, Nat.reduceLT, Nat.reduceMul, Nat.reduceSub, Int.reduceToNat, Int.reduceSub, Int.reduceAdd, Int.reduceNeg, e])
    exact ⟨by simp only [smallP, h, Bool.true_and], Heap.le_set hr⟩
theorem l7Small_spec (p : Pg) (hp : vPg p) : Pu Try.prog 35 [aPg p] (B (smallP p)) := by
  refine Pu.of fun H => ?_
  refine W35_ok ?_; simp (maxSteps := 1000000) (disch := first | assumption | (apply Ne.symm; assumption)) only [W35, vz, vu, vv, eqS, eqFieldsV, ↓condV_t, ↓condV_f, tabs, reduceCtorEq, Array.toList, ↓reduceIte, Nat.reduceAdd, Nat.reduceLeDiff, Nat.reduceLT, Nat.reduceMul, Nat.reduceSub, Int.reduceToNat, Int.reduceSub, Int.reduceAdd, Int.reduceNeg]
  intro r hr
  refine Pu.use (GoodProgram_spec p hp) ?_
  cases h : goodP p
  · (try simp (maxSteps := 1000000) (disch := first | assumption | (apply Ne.symm; assumption)) only [vz, vu, vv, eqS, eqFieldsV, ↓condV_t, ↓condV_f, tabs, reduceCtorEq, Array.toList, ↓reduceIte, Nat.reduceAdd, Nat.reduceLeDiff, Nat.reduceLT, Nat.reduceMul, Nat.reduceSub, Int.reduceToNat, Int.reduceSub, Int.reduceAdd, Int.reduceNeg])
    exact ⟨by simp only [smallP, h, Bool.false_and], Heap.le_set hr⟩
  · have hr2 := goodP_rng h
    have := mul_rng hr2.1 hr2.2
    have e : IntKind.i64.wrap (p.wide * p.vars) = p.wide * p.vars := i64_id (by omega) (by omega)
    (try simp (maxSteps := 1000000) (disch := first | assumption | (apply Ne.symm; assumption)) only [vz, vu, vv, eqS, eqFieldsV, ↓condV_t, ↓condV_f, tabs, reduceCtorEq, Array.toList, ↓reduceIte, Nat.reduceAdd, Nat.reduceLeDiff, Nat.reduceLT, Nat.reduceMul, Nat.reduceSub, Int.reduceToNat, Int.reduceSub, Int.reduceAdd, Int.reduceNeg, e])
    exact ⟨by simp only [smallP, h, Bool.true_and], Heap.le_set hr⟩

theorem small_rng {p : Pg} (h : smallP p = true) : goodP p = true ∧ 1 ≤ p.wide * p.vars ∧ p.wide * p.vars ≤ 5 := by
  simp only [smallP, Bool.and_eq_true, decide_eq_true_eq] at h
  have hr := goodP_rng h.1
  exact ⟨h.1, (mul_rng hr.1 hr.2).1, h.2⟩
theorem pow_rng {n : Nat} (h : n ≤ 5) : (1 : Int) ≤ 2 ^ n ∧ (2 : Int) ^ n ≤ 32 := by
  obtain rfl | rfl | rfl | rfl | rfl | rfl : n = 0 ∨ n = 1 ∨ n = 2 ∨ n = 3 ∨ n = 4 ∨ n = 5 := by omega
  all_goals decide
theorem states_rng {p : Pg} (h : smallP p = true) : 1 ≤ statesP p ∧ statesP p ≤ 32 := by
  have := small_rng h
  exact pow_rng (by omega)
theorem states_spec (p : Pg) (h : smallP p = true) : Pu Try.prog 44 [aPg p] (I (statesP p)) := by
  refine Pu.of fun H => ?_
  have hs := small_rng h
  have e : IntKind.i64.wrap (p.wide * p.vars) = p.wide * p.vars := i64_id (by omega) (by omega)
  refine W44_ok ?_; simp (maxSteps := 1000000) (disch := first | assumption | (apply Ne.symm; assumption)) only [W44, vz, vu, vv, eqS, eqFieldsV, ↓condV_t, ↓condV_f, tabs, reduceCtorEq, Array.toList, ↓reduceIte, Nat.reduceAdd, Nat.reduceLeDiff, Nat.reduceLT, Nat.reduceMul, Nat.reduceSub, Int.reduceToNat, Int.reduceSub, Int.reduceAdd, Int.reduceNeg, e]
  intro r hr
  refine ⟨by omega, ?_, Heap.le_set hr⟩
  have e2 : min (p.wide * p.vars).toNat IntKind.i64.bits = (p.wide * p.vars).toNat := by
    have : IntKind.i64.bits = 64 := rfl
    omega
  have := states_rng h
  unfold statesP at *
  rw [e2, Int.one_mul, i64_id (by omega) (by omega)]
theorem l7Many_spec (p : Pg) (h : smallP p = true) : Pu Try.prog 37 [aPg p] (I (statesP p)) := by
  refine Pu.of fun H => ?_
  have hs := small_rng h
  have e : IntKind.i64.wrap (p.wide * p.vars) = p.wide * p.vars := i64_id (by omega) (by omega)
  have eu : IntKind.u64.wrap (p.wide * p.vars) = p.wide * p.vars := by rw [IntKind.wrap_u64]; omega
  refine W37_ok ?_; simp (maxSteps := 1000000) (disch := first | assumption | (apply Ne.symm; assumption)) only [W37, vz, vu, vv, eqS, eqFieldsV, ↓condV_t, ↓condV_f, tabs, reduceCtorEq, Array.toList, ↓reduceIte, Nat.reduceAdd, Nat.reduceLeDiff, Nat.reduceLT, Nat.reduceMul, Nat.reduceSub, Int.reduceToNat, Int.reduceSub, Int.reduceAdd, Int.reduceNeg, e, eu]
  intro r hr
  refine ⟨by omega, ?_, Heap.le_set hr⟩
  have e2 : min (p.wide * p.vars).toNat IntKind.i64.bits = (p.wide * p.vars).toNat := by
    have : IntKind.i64.bits = 64 := rfl
    omega
  have := states_rng h
  unfold statesP at *
  rw [e2, Int.one_mul, i64_id (by omega) (by omega)]

/-! ### Classes -/
end Go.Proofs.Ytgcklgeifdefhaa
/- Numbers and lengths of arguments. -/
namespace Go.Proofs.Ytgcklgeifdefhaa
open Go Go.Sep Go.Pt
set_option linter.unusedSimpArgs false
set_option linter.unusedVariables false
attribute [local irreducible] CallT

def nT (t : List Nd) : Prop := ∀ x ∈ t, okN x
def nCh (c : Ch) : Prop := nT c.by_
def nCm (c : Cm) : Prop := nT c.when_ ∧ ∀ x ∈ c.chs, nCh x
def nPg (p : Pg) : Prop := nT p.start ∧ ∀ c ∈ p.cmds, nCm c
theorem v_of {p : Pg} (h : smPg p) (hn : nPg p) : vPg p :=
  ⟨⟨h.1, hn.1⟩, h.2.1, fun c hc => ⟨⟨(h.2.2 c hc).1, (hn.2 c hc).1⟩, (h.2.2 c hc).2.1, fun x hx => ⟨(h.2.2 c hc).2.2 x hx, (hn.2 c hc).2 x hx⟩⟩⟩
theorem szR_nonneg {left : Int} {n : Nat} (h : ¬ szR left n < 0) : (n : Int) ≤ left ∧ szR left n = left - n := by
  unfold szR at *
  split at h
  · rename_i h2; exact ⟨h2, by rw [if_pos h2]⟩
  · omega

end Go.Proofs.Ytgcklgeifdefhaa
/- Arguments by value: nodes, programs, sights. -/
namespace Go.Proofs.Ytgcklgeifdefhaa
open Go Go.Sep Go.Pt Go.RowKit
set_option linter.unusedVariables false

theorem typed_node {x : List PV} (h : Typed Try.prog 76 x) : ∃ a, okN a ∧ x = eN a := by
  have h := typed_fields (ts := [3, 52]) (by kernel_rfl) h
  obtain ⟨a, b, rfl, h1, h⟩ := typedAll_cons h
  obtain ⟨b, c, rfl, h2, h⟩ := typedAll_cons h
  cases typedAll_nil h
  obtain ⟨n, _, rfl⟩ := typed_int (k := .i64) (by kernel_rfl) h1
  obtain ⟨m, hw, rfl⟩ := typed_int (k := .u64) (by kernel_rfl) h2
  refine ⟨⟨n, m⟩, ?_, rfl⟩
  simp only [Lit.wf, Bool.and_eq_true, decide_eq_true_eq] at hw
  have e1 : IntKind.u64.min = 0 := by decide
  have e2 : IntKind.u64.max = 18446744073709551615 := by decide
  rw [e1, e2] at hw
  unfold okN
  show 0 ≤ m ∧ m < 2 ^ 64
  omega
theorem typed_nodes {x : List PV} (h : Typed Try.prog 22 x) : ∃ t : List Nd, (ok t.length ∧ nT t) ∧ x = [.sl (t.map eN)] := by
  obtain ⟨es, rfl, hl, he⟩ := typed_slice (e := 76) (by kernel_rfl) h
  obtain ⟨t, h1, rfl, h3⟩ := rows_of (Q := okN) (e := eN) es fun y hy => typed_node (he y hy)
  exact ⟨t, ⟨by unfold ok; omega, h1⟩, rfl⟩
theorem typed_change {x : List PV} (h : Typed Try.prog 106 x) : ∃ a, (okCh a ∧ nCh a) ∧ x = eCh a := by
  have h := typed_fields (ts := [3, 22]) (by kernel_rfl) h
  obtain ⟨a, b, rfl, h1, h⟩ := typedAll_cons h
  obtain ⟨b, c, rfl, h2, h⟩ := typedAll_cons h
  cases typedAll_nil h
  obtain ⟨n, _, rfl⟩ := typed_int (k := .i64) (by kernel_rfl) h1
  obtain ⟨t, ht, rfl⟩ := typed_nodes h2
  exact ⟨⟨n, t⟩, ht, rfl⟩
theorem typed_changes {x : List PV} (h : Typed Try.prog 65 x) : ∃ t : List Ch, (okChs t ∧ ∀ c ∈ t, nCh c) ∧ x = [.sl (t.map eCh)] := by
  obtain ⟨es, rfl, hl, he⟩ := typed_slice (e := 106) (by kernel_rfl) h
  obtain ⟨t, h1, rfl, h3⟩ := rows_of (Q := fun a => okCh a ∧ nCh a) (e := eCh) es fun y hy => typed_change (he y hy)
  exact ⟨t, ⟨⟨by unfold ok; omega, fun c hc => (h1 c hc).1⟩, fun c hc => (h1 c hc).2⟩, rfl⟩
theorem typed_command {x : List PV} (h : Typed Try.prog 67 x) : ∃ a, (okCm a ∧ nCm a) ∧ x = eCm a := by
  have h := typed_fields (ts := [22, 65]) (by kernel_rfl) h
  obtain ⟨a, b, rfl, h1, h⟩ := typedAll_cons h
  obtain ⟨b, c, rfl, h2, h⟩ := typedAll_cons h
  cases typedAll_nil h
  obtain ⟨t, ht, rfl⟩ := typed_nodes h1
  obtain ⟨cs, hc, rfl⟩ := typed_changes h2
  exact ⟨⟨t, cs⟩, ⟨⟨ht.1, hc.1⟩, ⟨ht.2, hc.2⟩⟩, rfl⟩
theorem typed_commands {x : List PV} (h : Typed Try.prog 23 x) : ∃ t : List Cm, (okCms t ∧ ∀ c ∈ t, nCm c) ∧ x = [.sl (t.map eCm)] := by
  obtain ⟨es, rfl, hl, he⟩ := typed_slice (e := 67) (by kernel_rfl) h
  obtain ⟨t, h1, rfl, h3⟩ := rows_of (Q := fun a => okCm a ∧ nCm a) (e := eCm) es fun y hy => typed_command (he y hy)
  exact ⟨t, ⟨⟨by unfold ok; omega, fun c hc => (h1 c hc).1⟩, fun c hc => (h1 c hc).2⟩, rfl⟩
theorem arg_program {v : AV} (h : ArgT Try.prog 25 v) : ∃ p : Pg, okPg p ∧ nPg p ∧ v = aPg p := by
  obtain ⟨pvs, g, rfl⟩ := arg_struct (ts := [3, 3, 22, 23]) (by kernel_rfl) h
  clear h
  have h := g
  obtain ⟨a, b, rfl, h1, h⟩ := typedAll_cons h
  obtain ⟨b, c, rfl, h2, h⟩ := typedAll_cons h
  obtain ⟨c, d, rfl, h3, h⟩ := typedAll_cons h
  obtain ⟨d, e, rfl, h4, h⟩ := typedAll_cons h
  cases typedAll_nil h
  obtain ⟨n, _, rfl⟩ := typed_int (k := .i64) (by kernel_rfl) h1
  obtain ⟨m, _, rfl⟩ := typed_int (k := .i64) (by kernel_rfl) h2
  obtain ⟨t, ht, rfl⟩ := typed_nodes h3
  obtain ⟨cs, hc, rfl⟩ := typed_commands h4
  exact ⟨⟨n, m, t, cs⟩, ⟨ht.1, hc.1⟩, ⟨ht.2, hc.2⟩, rfl⟩
theorem arg_int {v : AV} (h : ArgT Try.prog 3 v) : ∃ n : Int, v = I n := by
  have hu : Try.prog.underlying 3 = some (.int .i64) := by kernel_rfl
  obtain ⟨p, g, rfl⟩ := arg_cell (fun fs h => by rw [hu] at h; cases h) h
  obtain ⟨n, _, e⟩ := typed_int (k := .i64) (by kernel_rfl) g
  injection e with e
  exact ⟨n, by rw [e]⟩
end Go.Proofs.Ytgcklgeifdefhaa
/- Specs: rows of conditions: sizes, copies, comparisons; whether all are conditions. -/
namespace Go.Proofs.Ytgcklgeifdefhaa
open Go Go.Sep Go.Pt
set_option linter.unusedSimpArgs false
set_option linter.unusedVariables false
attribute [local irreducible] CallT

abbrev eNN (t : List Nd) : List PV := [.sl (t.map eN)]
abbrev Nss (ts : List (List Nd)) : AV := .p (.sl (ts.map eNN))
def okNss (cs : List (List Nd)) : Prop := ok cs.length ∧ ∀ c ∈ cs, ok c.length
def totNL (l : List Nd) : Nat := l.length
def totNss (cs : List (List Nd)) : Nat := cs.length + psum totNL cs cs.length
def smNss (cs : List (List Nd)) : Prop := cs.length ≤ 1048576 ∧ ∀ c ∈ cs, c.length ≤ 1048576
theorem szNodeSS_spec (cs : List (List Nd)) (left : Int) (h0 : 0 ≤ left) (h1 : left ≤ 1048576) (hl : okNss cs) : Pu Try.prog 5 [Nss cs, I left] (I (szR left (totNss cs))) := by
  refine Pu.of fun H => ?_
  have hl1 := hl.1
  unfold ok at hl1
  have e : IntKind.i64.wrap (left - cs.length) = left - cs.length := i64_id (by omega) (by omega)
  refine W5_ok ?_; simp (maxSteps := 1000000) (disch := first | assumption | (apply Ne.symm; assumption)) only [W5, vz, vu, vv, eqS, eqFieldsV, ↓condV_t, ↓condV_f, tabs, reduceCtorEq, Array.toList, ↓reduceIte, Nat.reduceAdd, Nat.reduceLeDiff, Nat.reduceLT, Nat.reduceMul, Nat.reduceSub, Int.reduceToNat, Int.reduceSub, Int.reduceAdd, Int.reduceNeg, e]
  refine ⟨fun h => by rw [szR_neg (by unfold totNss; omega)], fun h => ?_⟩
  refine L5_0_rule (0 : Nat) (fun i => I (left - cs.length - psum totNL cs i)) (fun i => I i) (fun _ => H) (fun i => i ≤ cs.length ∧ (cs.length : Int) + psum totNL cs i ≤ left) (fun i => cs.length - i) ⟨⟨by omega, by simp [psum]; omega⟩, ?_, .refl _, Heap.le_refl _⟩ ?_
  · rw [wk_int]; simp [psum]
  rintro i ⟨hi, hs⟩
  (try simp (maxSteps := 1000000) (disch := first | assumption | (apply Ne.symm; assumption)) only [vz, vu, vv, eqS, eqFieldsV, ↓condV_t, ↓condV_f, tabs, reduceCtorEq, Array.toList, ↓reduceIte, Nat.reduceAdd, Nat.reduceLeDiff, Nat.reduceLT, Nat.reduceMul, Nat.reduceSub, Int.reduceToNat, Int.reduceSub, Int.reduceAdd, Int.reduceNeg, B5_0])
  refine ⟨fun h2 => ⟨by omega, h2, ?_⟩, fun h2 => ?_⟩
  · have hlt : i < cs.length := by omega
    have hm : cs.getD i default ∈ cs := getD_all (p := fun x => x ∈ cs) (fun _ h => h) hlt
    refine Pu.use (szNodeS_spec (cs.getD i default) _ (by omega) (by omega) (hl.2 _ hm)) ?_
    have hsucc := psum_succ (f := totNL) hlt
    have hle := psum_le (f := totNL) (xs := cs) (i + 1)
    have et : totNL (cs.getD i default) = (cs.getD i default).length := rfl
    rw [et] at hsucc
    (try simp (maxSteps := 1000000) (disch := first | assumption | (apply Ne.symm; assumption)) only [vz, vu, vv, eqS, eqFieldsV, ↓condV_t, ↓condV_f, tabs, reduceCtorEq, Array.toList, ↓reduceIte, Nat.reduceAdd, Nat.reduceLeDiff, Nat.reduceLT, Nat.reduceMul, Nat.reduceSub, Int.reduceToNat, Int.reduceSub, Int.reduceAdd, Int.reduceNeg])
    refine ⟨fun h3 => ?_, fun h3 => ⟨i + 1, ⟨by omega, ?_⟩, by omega, ?_, ?_⟩⟩
    · rw [szR_neg]
      unfold szR at h3
      unfold totNss
      split at h3 <;> omega
    · unfold szR at h3
      split at h3 <;> omega
    · rw [wk_int]
      unfold szR at h3 ⊢
      split at h3
      · rename_i h4; rw [if_pos h4]; omega
      · omega
    · rw [wk_int, i64_id (by omega) (by omega)]; simp
  · have : i = cs.length := by omega
    subst this
    rw [szR_pos (by unfold totNss; omega)]
    unfold totNss
    exact congrArg (fun n : Int => I n) (by omega)
theorem toNodeSS_spec (xs : List (List Nd)) (hs : smNss xs) : Pu Try.prog 8 [Nss xs] (Nss xs) := by
  have hl := hs.1
  refine ⟨fun H => CallT.fin ?_⟩
  refine W8_ok ?_; simp (maxSteps := 1000000) (disch := first | assumption | (apply Ne.symm; assumption)) only [W8, vz, vu, vv, eqS, eqFieldsV, ↓condV_t, ↓condV_f, tabs, reduceCtorEq, Array.toList, ↓reduceIte, Nat.reduceAdd, Nat.reduceLeDiff, Nat.reduceLT, Nat.reduceMul, Nat.reduceSub, Int.reduceToNat, Int.reduceSub, Int.reduceAdd, Int.reduceNeg, makeSliceV]
  refine ⟨by omega, by omega, by omega, by omega, fun q hq => ?_⟩
  have z0 : rowZ eNN [.p .nil] xs 0 = zerosA xs.length [.p .nil] := rowZ_zero
  rw [← z0]
  refine L8_0_rule (0 : Nat) (fun i => I i) (fun i => H.set q (rowZ eNN [.p .nil] xs i)) (fun i => i ≤ xs.length) (fun i => xs.length - i) ⟨by omega, .refl _, Heap.le_refl _⟩ ?_
  intro i hi
  have hrl := rowZ_len (e := eNN) (zero := [.p .nil]) (xs := xs) (i := i) (sz := 1) (fun _ => rfl) rfl hi
  (try simp (maxSteps := 1000000) (disch := first | assumption | (apply Ne.symm; assumption)) only [vz, vu, vv, eqS, eqFieldsV, ↓condV_t, ↓condV_f, tabs, reduceCtorEq, Array.toList, ↓reduceIte, Nat.reduceAdd, Nat.reduceLeDiff, Nat.reduceLT, Nat.reduceMul, Nat.reduceSub, Int.reduceToNat, Int.reduceSub, Int.reduceAdd, Int.reduceNeg, B8_0])
  refine ⟨fun h => ⟨by omega, h, ?_⟩, fun h => ?_⟩
  · have hlt : i < xs.length := by omega
    have hput := rowZ_put (e := eNN) (zero := [.p .nil]) (xs := xs) (i := i) (sz := 1) (fun _ => rfl) rfl hlt rfl rfl
    have hm : xs.getD i default ∈ xs := getD_all (p := fun x => x ∈ xs) (fun _ h => h) hlt
    refine Pu.use (toNodeS_spec (xs.getD i default) (hs.2 _ hm)) ?_
    (try simp (maxSteps := 1000000) (disch := first | assumption | (apply Ne.symm; assumption)) only [vz, vu, vv, eqS, eqFieldsV, ↓condV_t, ↓condV_f, tabs, reduceCtorEq, Array.toList, ↓reduceIte, Nat.reduceAdd, Nat.reduceLeDiff, Nat.reduceLT, Nat.reduceMul, Nat.reduceSub, Int.reduceToNat, Int.reduceSub, Int.reduceAdd, Int.reduceNeg])
    refine ⟨by omega, h, by omega, i + 1, by omega, by omega, ?_, ?_⟩
    · rw [wk_int, i64_id (by omega) (by omega)]; simp
    · rw [← hput]; exact Heap.le_refl _
  · have : i = xs.length := by omega
    subst this
    have := fin_own (sz := 1) (es := xs.map eNN) (q := q) (H := H) (H' := H.set q (rowZ eNN [.p .nil] xs xs.length)) (K := fun r H' => r = Nss xs ∧ H' = H) (by omega) (sized_map (f := eNN) (fun _ => rfl) xs) hq (by rw [rowZ_end]; exact Heap.le_refl _) ⟨rfl, rfl⟩
    simpa only [Go.Sep.own, List.length_map] using this
theorem eqNodeSS_spec (xs : List (List Nd)) (hs : smNss xs) : Pu Try.prog 12 [Nss xs, Nss xs] (B true) := by
  have hl := hs.1
  refine Pu.of fun H => ?_
  refine W12_ok ?_; simp (maxSteps := 1000000) (disch := first | assumption | (apply Ne.symm; assumption)) only [W12, vz, vu, vv, eqS, eqFieldsV, ↓condV_t, ↓condV_f, tabs, reduceCtorEq, Array.toList, ↓reduceIte, Nat.reduceAdd, Nat.reduceLeDiff, Nat.reduceLT, Nat.reduceMul, Nat.reduceSub, Int.reduceToNat, Int.reduceSub, Int.reduceAdd, Int.reduceNeg]
  refine L12_0_rule (0 : Nat) (fun i => I i) (fun _ => H) (fun i => i ≤ xs.length) (fun i => xs.length - i) ⟨by omega, .refl _, Heap.le_refl _⟩ ?_
  intro i hi
  (try simp (maxSteps := 1000000) (disch := first | assumption | (apply Ne.symm; assumption)) only [vz, vu, vv, eqS, eqFieldsV, ↓condV_t, ↓condV_f, tabs, reduceCtorEq, Array.toList, ↓reduceIte, Nat.reduceAdd, Nat.reduceLeDiff, Nat.reduceLT, Nat.reduceMul, Nat.reduceSub, Int.reduceToNat, Int.reduceSub, Int.reduceAdd, Int.reduceNeg, B12_0])
  intro h
  have hlt : i < xs.length := by omega
  have hm : xs.getD i default ∈ xs := getD_all (p := fun x => x ∈ xs) (fun _ h => h) hlt
  refine ⟨by omega, h, by omega, h, ?_⟩
  refine Pu.use (eqNodeS_spec (xs.getD i default) (hs.2 _ hm)) ?_
  (try simp (maxSteps := 1000000) (disch := first | assumption | (apply Ne.symm; assumption)) only [vz, vu, vv, eqS, eqFieldsV, ↓condV_t, ↓condV_f, tabs, reduceCtorEq, Array.toList, ↓reduceIte, Nat.reduceAdd, Nat.reduceLeDiff, Nat.reduceLT, Nat.reduceMul, Nat.reduceSub, Int.reduceToNat, Int.reduceSub, Int.reduceAdd, Int.reduceNeg])
  refine ⟨i + 1, by omega, by omega, ?_⟩
  rw [wk_int, i64_id (by omega) (by omega)]; simp

theorem smNss_of_tot {cs : List (List Nd)} (h : (totNss cs : Int) ≤ 1048576) : smNss cs := by
  have h0 : totNss cs ≤ 1048576 := by omega
  unfold totNss at h0
  refine ⟨by omega, fun c hc => ?_⟩
  have h1 := psum_mem (f := totNL) hc
  have e1 : totNL c = c.length := rfl
  omega
def nTs (cs : List (List Nd)) : Prop := ∀ t ∈ cs, nT t
theorem vT_of {cs : List (List Nd)} (h : smNss cs) (hn : nTs cs) : ∀ t ∈ cs, vT t := fun t ht => ⟨h.2 t ht, hn t ht⟩

theorem IndexFuncNs_at (xs : List (List Nd)) (g : Nat) (caps : List AV) (p : List Nd → Bool) {H : Heap} (hl : xs.length ≤ 1000000000) (hp : ∀ x ∈ xs, PuAt Try.prog g (Ns x :: caps) H (B (p x))) :
    PuAt Try.prog 62 [Nss xs, .fn g caps] H (I (if xs.any p then (xs.findIdx p : Int) else -1)) := by
  intro K hK
  refine CallT.fin ?_
  refine W62_ok ?_; simp (maxSteps := 1000000) (disch := first | assumption | (apply Ne.symm; assumption)) only [W62, vz, vu, vv, eqS, eqFieldsV, ↓condV_t, ↓condV_f, tabs, reduceCtorEq, Array.toList, ↓reduceIte, Nat.reduceAdd, Nat.reduceLeDiff, Nat.reduceLT, Nat.reduceMul, Nat.reduceSub, Int.reduceToNat, Int.reduceSub, Int.reduceAdd, Int.reduceNeg]
  refine L62_0_rule (0 : Nat) (fun i => I i) (fun _ => H) (fun i => i ≤ xs.length ∧ ∀ j (hj : j < xs.length), j < i → p xs[j] = false) (fun i => xs.length - i) ⟨⟨by omega, by intros; omega⟩, .refl _, Heap.le_refl _⟩ ?_
  rintro i ⟨hi1, ha⟩
  (try simp (maxSteps := 1000000) (disch := first | assumption | (apply Ne.symm; assumption)) only [vz, vu, vv, eqS, eqFieldsV, ↓condV_t, ↓condV_f, tabs, reduceCtorEq, Array.toList, ↓reduceIte, Nat.reduceAdd, Nat.reduceLeDiff, Nat.reduceLT, Nat.reduceMul, Nat.reduceSub, Int.reduceToNat, Int.reduceSub, Int.reduceAdd, Int.reduceNeg, B62_0])
  refine ⟨fun h => ⟨by omega, h, ?_⟩, fun h => ?_⟩
  · have hlt : i < xs.length := by omega
    rw [getD_lt hlt]
    refine PuAt.use (hp _ (List.getElem_mem hlt)) ?_
    (try simp (maxSteps := 1000000) (disch := first | assumption | (apply Ne.symm; assumption)) only [vz, vu, vv, eqS, eqFieldsV, ↓condV_t, ↓condV_f, tabs, reduceCtorEq, Array.toList, ↓reduceIte, Nat.reduceAdd, Nat.reduceLeDiff, Nat.reduceLT, Nat.reduceMul, Nat.reduceSub, Int.reduceToNat, Int.reduceSub, Int.reduceAdd, Int.reduceNeg])
    refine ⟨fun h1 => ?_, fun h1 => ⟨i + 1, ⟨by omega, fun j hj hji => ?_⟩, by omega, ?_⟩⟩
    · have h2 : xs.any p = true := List.any_eq_true.2 ⟨xs[i], List.getElem_mem hlt, h1⟩
      have h3 : xs.findIdx p = i := by
        rw [List.findIdx_eq hlt]; exact ⟨h1, fun j hj => ha j (by omega) hj⟩
      rw [h2, h3] at hK; exact wkK.keep (by simpa using hK)
    · rcases Nat.lt_succ_iff_lt_or_eq.1 hji with h2 | rfl
      · exact ha j hj h2
      · exact h1
    · rw [wk_int, i64_id (by omega) (by omega)]; simp
  · have hi : i = xs.length := by omega
    have h2 : xs.any p = false := by
      rw [List.any_eq_false]
      intro x hx
      obtain ⟨j, hj, rfl⟩ := List.mem_iff_getElem.1 hx
      rw [ha j hj (by omega)]; simp
    rw [h2] at hK; exact wkK.keep (by simpa using hK)

theorem ContainsFuncNs_at (xs : List (List Nd)) (g : Nat) (caps : List AV) (p : List Nd → Bool) {H : Heap} (hl : xs.length ≤ 1000000000) (hp : ∀ x ∈ xs, PuAt Try.prog g (Ns x :: caps) H (B (p x))) :
    PuAt Try.prog 45 [Nss xs, .fn g caps] H (B (xs.any p)) := by
  intro K hK
  refine W45_ok ?_; simp (maxSteps := 1000000) (disch := first | assumption | (apply Ne.symm; assumption)) only [W45, vz, vu, vv, eqS, eqFieldsV, ↓condV_t, ↓condV_f, tabs, reduceCtorEq, Array.toList, ↓reduceIte, Nat.reduceAdd, Nat.reduceLeDiff, Nat.reduceLT, Nat.reduceMul, Nat.reduceSub, Int.reduceToNat, Int.reduceSub, Int.reduceAdd, Int.reduceNeg]
  refine PuAt.use (IndexFuncNs_at xs g caps p hl hp) ?_
  (try simp (maxSteps := 1000000) (disch := first | assumption | (apply Ne.symm; assumption)) only [vz, vu, vv, eqS, eqFieldsV, ↓condV_t, ↓condV_f, tabs, reduceCtorEq, Array.toList, ↓reduceIte, Nat.reduceAdd, Nat.reduceLeDiff, Nat.reduceLT, Nat.reduceMul, Nat.reduceSub, Int.reduceToNat, Int.reduceSub, Int.reduceAdd, Int.reduceNeg])
  cases h : xs.any p <;> simp [h] at hK ⊢ <;> exact hK
end Go.Proofs.Ytgcklgeifdefhaa
/- Arguments by value: rows of conditions. -/
namespace Go.Proofs.Ytgcklgeifdefhaa
open Go Go.Sep Go.Pt Go.RowKit
set_option linter.unusedVariables false

theorem typed_nodess {x : List PV} (h : Typed Try.prog 26 x) : ∃ t : List (List Nd), (okNss t ∧ nTs t) ∧ x = [.sl (t.map eNN)] := by
  obtain ⟨es, rfl, hl, he⟩ := typed_slice (e := 22) (by kernel_rfl) h
  obtain ⟨t, h1, rfl, h3⟩ := rows_of (Q := fun a => ok a.length ∧ nT a) (e := eNN) es fun y hy => typed_nodes (he y hy)
  exact ⟨t, ⟨⟨by unfold ok; omega, fun c hc => (h1 c hc).1⟩, fun c hc => (h1 c hc).2⟩, rfl⟩
theorem arg_nodess {v : AV} (h : ArgT Try.prog 26 v) : ∃ t : List (List Nd), okNss t ∧ nTs t ∧ v = Nss t := by
  have hu := sliceIs_ok (P := Try.prog) (t := 26) (e := 22) (by kernel_rfl)
  obtain ⟨p, g, rfl⟩ := arg_cell (fun fs h => by rw [hu] at h; cases h) h
  obtain ⟨t, ht, e⟩ := typed_nodess g
  injection e with e
  exact ⟨t, ht.1, ht.2, by rw [e]⟩
end Go.Proofs.Ytgcklgeifdefhaa
/- Plain facts: values of terms, by a pile and by their trees. -/
namespace Go.Pt

/-- The two's complement value of a word. -/
def sgn (w a : Nat) : Int := if a < 2 ^ (w - 1) then a else (a : Int) - 2 ^ w
/-- What an operator makes of two words. -/
def ap (w : Nat) (op : Int) (a b : Nat) : Nat :=
  if op = 3 then (a + b) % 2 ^ w
  else if op = 4 then (a + 2 ^ w - b) % 2 ^ w
  else if op = 5 then a * b % 2 ^ w
  else if op = 6 then (if b = 0 then 2 ^ w - 1 else a / b)
  else if op = 7 then (if b = 0 then a else a % b)
  else if op = 8 ∨ op = 17 then a &&& b
  else if op = 9 ∨ op = 18 then a ||| b
  else if op = 10 then a ^^^ b
  else if op = 11 then (if w ≤ b then 0 else a * 2 ^ b % 2 ^ w)
  else if op = 12 then (if w ≤ b then 0 else a / 2 ^ b)
  else if op = 14 then (if a = b then 1 else 0)
  else if op = 15 then (if a < b then 1 else 0)
  else if op = 16 then (if sgn w a < sgn w b then 1 else 0)
  else 0
def un (w : Nat) (op : Int) (a : Nat) : Nat := if op = 13 then 2 ^ w - 1 - a else 1 - a
def leafV (s : List Nat) (x : Nd) : Nat := if x.op = 2 then s.getD x.n.toNat 0 else x.n.toNat
/-- A value of a kind. -/
def okV (w : Nat) (k : Int) (a : Nat) : Prop := a < 2 ^ w ∧ (k ≠ 1 → a ≤ 1)

theorem many_cases (op : Int) : many op = 0 ∨ many op = 1 ∨ many op = 2 := by
  unfold many
  split
  · exact .inr (.inl rfl)
  · split
    · exact .inr (.inr rfl)
    · exact .inl rfl
theorem many1 {op : Int} (h : many op = 1) : op = 13 ∨ op = 19 := by
  unfold many at h
  split at h
  · assumption
  · split at h <;> omega
theorem many2 {op : Int} (h : many op = 2) : (3 ≤ op ∧ op ≤ 12) ∨ (14 ≤ op ∧ op ≤ 16) ∨ op = 17 ∨ op = 18 := by
  unfold many at h
  split at h
  · omega
  · split at h
    · assumption
    · omega
theorem many0 {op : Int} (h : many op = 0) (ho : own op ≠ 0) : op = 1 ∨ op = 2 ∨ op = 20 := by
  unfold many at h
  unfold own at ho
  split at h
  · omega
  · split at h
    · omega
    · split at ho
      · omega
      · split at ho <;> omega

theorem le_one_pow {w a : Nat} (hw : 1 ≤ w) (h : a ≤ 1) : a < 2 ^ w := by
  have : 2 ^ 1 ≤ 2 ^ w := Nat.pow_le_pow_right (by decide) hw
  omega

theorem un_ok {w : Nat} {op : Int} {a : Nat} (hw : 1 ≤ w) (h1 : many op = 1) (ha : okV w (part op) a) : okV w (own op) (un w op a) := by
  have hp := Nat.two_pow_pos w
  rcases many1 h1 with rfl | rfl
  · refine ⟨?_, fun h => absurd rfl h⟩
    unfold un; rw [if_pos rfl]; omega
  · have e : un w 19 a = 1 - a := rfl
    rw [e]
    exact ⟨le_one_pow hw (by omega), fun _ => by omega⟩

theorem div_lt' {a b m : Nat} (h : a < m) : a / b < m := Nat.lt_of_le_of_lt (Nat.div_le_self a b) h
theorem and_one {a b : Nat} (ha : a ≤ 1) (hb : b ≤ 1) : a &&& b ≤ 1 ∧ a ||| b ≤ 1 := by
  have h1 : a = 0 ∨ a = 1 := by omega
  have h2 : b = 0 ∨ b = 1 := by omega
  rcases h1 with rfl | rfl <;> rcases h2 with rfl | rfl <;> decide
theorem ite01 (p : Prop) [Decidable p] : (if p then 1 else 0 : Nat) ≤ 1 := by split <;> omega

theorem ap_ok {w : Nat} {op : Int} {a b : Nat} (hw : 1 ≤ w) (h2 : many op = 2) (ha : okV w (part op) a) (hb : okV w (part op) b) : okV w (own op) (ap w op a b) := by
  have hp := Nat.two_pow_pos w
  have md : ∀ x, x % 2 ^ w < 2 ^ w := fun x => Nat.mod_lt _ hp
  have k1 : own op = 1 → ap w op a b < 2 ^ w → okV w (own op) (ap w op a b) := fun h h3 => ⟨h3, fun h4 => absurd h h4⟩
  have k2 : ap w op a b ≤ 1 → okV w (own op) (ap w op a b) := fun h => ⟨le_one_pow hw h, fun _ => h⟩
  have ha1 := ha.1
  have hb1 := hb.1
  rcases many2 h2 with h | h | rfl | rfl
  · obtain rfl | rfl | rfl | rfl | rfl | rfl | rfl | rfl | rfl | rfl : op = 3 ∨ op = 4 ∨ op = 5 ∨ op = 6 ∨ op = 7 ∨ op = 8 ∨ op = 9 ∨ op = 10 ∨ op = 11 ∨ op = 12 := by omega
    · exact k1 rfl (md _)
    · exact k1 rfl (md _)
    · exact k1 rfl (md _)
    · refine k1 rfl ?_
      show (if b = 0 then 2 ^ w - 1 else a / b) < _
      split
      · omega
      · exact div_lt' ha1
    · refine k1 rfl ?_
      show (if b = 0 then a else a % b) < _
      split
      · exact ha1
      · exact Nat.lt_of_le_of_lt (Nat.mod_le _ _) ha1
    · exact k1 rfl (Nat.and_lt_two_pow a hb1)
    · exact k1 rfl (Nat.or_lt_two_pow ha1 hb1)
    · exact k1 rfl (Nat.xor_lt_two_pow ha1 hb1)
    · refine k1 rfl ?_
      show (if w ≤ b then 0 else a * 2 ^ b % 2 ^ w) < _
      split
      · exact hp
      · exact md _
    · refine k1 rfl ?_
      show (if w ≤ b then 0 else a / 2 ^ b) < _
      split
      · exact hp
      · exact div_lt' ha1
  · obtain rfl | rfl | rfl : op = 14 ∨ op = 15 ∨ op = 16 := by omega
    · exact k2 (ite01 _)
    · exact k2 (ite01 _)
    · exact k2 (ite01 _)
  · exact k2 (and_one (ha.2 (by decide)) (hb.2 (by decide))).1
  · exact k2 (and_one (ha.2 (by decide)) (hb.2 (by decide))).2

/-- The tree of node k: where it begins, its kind, its value. -/
inductive Tr (w : Nat) (t : List Nd) (s : List Nat) : Nat → Nat → Int → Nat → Prop
  | leaf (k : Nat) (hk : k < t.length) (h0 : many (t.getD k default).op = 0) (ho : own (t.getD k default).op ≠ 0) (hv : okV w (own (t.getD k default).op) (leafV s (t.getD k default))) :
      Tr w t s k k (own (t.getD k default).op) (leafV s (t.getD k default))
  | one (k f a : Nat) (hk : k + 1 < t.length) (h1 : many (t.getD (k + 1) default).op = 1) (h : Tr w t s k f (part (t.getD (k + 1) default).op) a) :
      Tr w t s (k + 1) f (own (t.getD (k + 1) default).op) (un w (t.getD (k + 1) default).op a)
  | two (k f g a b : Nat) (hk : k + 1 < t.length) (h2 : many (t.getD (k + 1) default).op = 2) (hb : Tr w t s k (f + 1) (part (t.getD (k + 1) default).op) b) (ha : Tr w t s f g (part (t.getD (k + 1) default).op) a) :
      Tr w t s (k + 1) g (own (t.getD (k + 1) default).op) (ap w (t.getD (k + 1) default).op a b)

theorem Tr.lt {w : Nat} {t : List Nd} {s : List Nat} {k f : Nat} {kd : Int} {a : Nat} (h : Tr w t s k f kd a) : k < t.length ∧ f ≤ k := by
  induction h with
  | leaf k hk => exact ⟨hk, Nat.le_refl _⟩
  | one k f a hk h1 h ih => exact ⟨hk, by omega⟩
  | two k f g a b hk h2 hb ha ihb iha => exact ⟨hk, by omega⟩
theorem Tr.okV {w : Nat} {t : List Nd} {s : List Nat} (hw : 1 ≤ w) {k f : Nat} {kd : Int} {a : Nat} (h : Tr w t s k f kd a) : okV w kd a := by
  induction h with
  | leaf k hk h0 ho hv => exact hv
  | one k f a hk h1 h ih => exact un_ok hw h1 ih
  | two k f g a b hk h2 hb ha ihb iha => exact ap_ok hw h2 iha ihb

inductive Stk (w : Nat) (t : List Nd) (s : List Nat) : Nat → List Int → List Nat → Prop
  | nil : Stk w t s 0 [] []
  | snoc (i : Nat) (p : List Int) (vs : List Nat) (k : Nat) (kd : Int) (a : Nat) (h : Stk w t s i p vs) (ht : Tr w t s k i kd a) : Stk w t s (k + 1) (p ++ [kd]) (vs ++ [a])

theorem Stk.len {w : Nat} {t : List Nd} {s : List Nat} {i : Nat} {p : List Int} {vs : List Nat} (h : Stk w t s i p vs) : vs.length = p.length := by
  induction h with
  | nil => rfl
  | snoc i p vs k kd a h ht ih => simp [ih]
theorem Stk.inv {w : Nat} {t : List Nd} {s : List Nat} {i : Nat} {p : List Int} {vs : List Nat} (h : Stk w t s i p vs) (hp : p ≠ []) : ∃ i0 p0 vs0 k kd a, i = k + 1 ∧ p = p0 ++ [kd] ∧ vs = vs0 ++ [a] ∧ Stk w t s i0 p0 vs0 ∧ Tr w t s k i0 kd a := by
  cases h with
  | nil => exact absurd rfl hp
  | snoc i0 p0 vs0 k kd a h ht => exact ⟨i0, p0, vs0, k, kd, a, rfl, rfl, rfl, h, ht⟩

theorem Stk.nil_inv {w : Nat} {t : List Nd} {s : List Nat} {i : Nat} {p : List Int} {vs : List Nat} (h : Stk w t s i p vs) (hp : p = []) : i = 0 ∧ vs = [] := by
  cases h with
  | nil => exact ⟨rfl, rfl⟩
  | snoc i0 p0 vs0 k kd a h ht => simp at hp

theorem Stk.bound {w : Nat} {t : List Nd} {s : List Nat} {i : Nat} {p : List Int} {vs : List Nat} (h : Stk w t s i p vs) : p.length ≤ i := by
  induction h with
  | nil => exact Nat.le_refl _
  | snoc i p vs k kd a h ht ih =>
    have := ht.lt
    simp only [List.length_append, List.length_cons, List.length_nil]; omega
theorem Stk.okV {w : Nat} {t : List Nd} {s : List Nat} (hw : 1 ≤ w) {i : Nat} {p : List Int} {vs : List Nat} (h : Stk w t s i p vs) : ∀ j, j < vs.length → Pt.okV w (p.getD j 0) (vs.getD j 0) := by
  induction h with
  | nil => intro j hj; simp at hj
  | snoc i p vs k kd a h ht ih =>
    intro j hj
    have hl := h.len
    by_cases e : j < vs.length
    · have := ih j e
      have e1 : (p ++ [kd]).getD j 0 = p.getD j 0 := by simp only [List.getD, List.getElem?_append_left (show j < p.length by omega)]
      have e2 : (vs ++ [a]).getD j 0 = vs.getD j 0 := by simp only [List.getD, List.getElem?_append_left e]
      rw [e1, e2]; exact this
    · have hj2 : j = vs.length := by simp at hj; omega
      subst hj2
      have e1 : (p ++ [kd]).getD vs.length 0 = kd := by simp [List.getD, hl]
      have e2 : (vs ++ [a]).getD vs.length 0 = a := by simp [List.getD]
      rw [e1, e2]; exact ht.okV hw

def stepV (w : Nat) (s vs : List Nat) (x : Nd) : List Nat :=
  if many x.op = 0 then vs ++ [leafV s x]
  else if many x.op = 1 then vs.take (vs.length - 1) ++ [un w x.op (vs.getD (vs.length - 1) 0)]
  else vs.take (vs.length - 2) ++ [ap w x.op (vs.getD (vs.length - 2) 0) (vs.getD (vs.length - 1) 0)]

theorem leaf_ok {w v : Nat} {s : List Nat} {x : Nd} (hw : 1 ≤ w) (hs : s.length = v) (hsw : ∀ a ∈ s, a < 2 ^ w) (hx : 0 ≤ x.n) (h0 : many x.op = 0) (ho : own x.op ≠ 0) (hl : leafOk w v x = true) : okV w (own x.op) (leafV s x) := by
  rcases many0 h0 ho with h | h | h
  · unfold leafOk at hl
    rw [if_pos h] at hl
    simp only [Bool.and_eq_true, decide_eq_true_eq, Int.toNat_natCast] at hl
    have e : leafV s x = x.n.toNat := by unfold leafV; rw [if_neg (by omega)]
    rw [e, h]
    refine ⟨?_, fun hh => absurd rfl hh⟩
    have h2 := hl.2
    have : ((2 ^ w : Nat) : Int) = (2 : Int) ^ w := by simp
    omega
  · unfold leafOk at hl
    rw [if_neg (by omega), if_pos h] at hl
    simp only [decide_eq_true_eq] at hl
    have e : leafV s x = s.getD x.n.toNat 0 := by unfold leafV; rw [if_pos h]
    rw [e, h]
    refine ⟨?_, fun hh => absurd rfl hh⟩
    have hlt : x.n.toNat < s.length := by omega
    have : s.getD x.n.toNat 0 = s[x.n.toNat] := by simp [List.getD, hlt]
    rw [this]; exact hsw _ (List.getElem_mem hlt)
  · unfold leafOk at hl
    rw [if_neg (by omega), if_neg (by omega), if_pos h] at hl
    simp only [decide_eq_true_eq] at hl
    have e : leafV s x = x.n.toNat := by unfold leafV; rw [if_neg (by omega)]
    rw [e]
    exact ⟨le_one_pow hw (by omega), fun _ => by omega⟩

theorem step_inv {w v : Int} {p p' : List Int} {x : Nd} (h : step w v p x = some p') : own x.op ≠ 0 ∧ leafOk w v x = true ∧ many x.op ≤ p.length ∧ (∀ k ∈ p.drop (p.length - many x.op), k = part x.op) ∧ p' = p.take (p.length - many x.op) ++ [own x.op] := by
  unfold step at h
  split at h
  · cases h
  · rename_i h1
    split at h
    · cases h
    · rename_i h2
      injection h with h
      refine ⟨fun e => h1 (.inl e), ?_, by omega, fun k hk => ?_, h.symm⟩
      · cases hh : leafOk w v x
        · exact absurd (.inr (.inl hh)) h1
        · rfl
      · cases hh : decide (k = part x.op)
        · exfalso; apply h2
          rw [List.any_eq_true]
          exact ⟨k, hk, by simpa using hh⟩
        · simpa using hh

theorem Stk.step {w v : Nat} {t : List Nd} {s : List Nat} {i : Nat} {p p' : List Int} {vs : List Nat} (hw : 1 ≤ w) (hs : s.length = v) (hsw : ∀ a ∈ s, a < 2 ^ w) (h : Stk w t s i p vs) (hi : i < t.length) (hx : 0 ≤ (t.getD i default).n)
    (hp : Pt.step w v p (t.getD i default) = some p') : Stk w t s (i + 1) p' (stepV w s vs (t.getD i default)) := by
  obtain ⟨ho, hl, hm, hk, rfl⟩ := step_inv hp
  have hlen := h.len
  rcases many_cases (t.getD i default).op with h0 | h1 | h2
  · have e : stepV w s vs (t.getD i default) = vs ++ [leafV s (t.getD i default)] := by unfold stepV; rw [if_pos h0]
    rw [e, h0, Nat.sub_zero, List.take_length]
    exact .snoc i p vs i _ _ h (.leaf i hi h0 ho (leaf_ok hw hs hsw hx h0 ho hl))
  · obtain ⟨i0, p0, vs0, k, kd, a, rfl, rfl, rfl, hst, htr⟩ := h.inv (by intro e; rw [e] at hm; simp only [List.length_nil] at hm; omega)
    have e : stepV w s (vs0 ++ [a]) (t.getD (k + 1) default) = vs0 ++ [un w (t.getD (k + 1) default).op a] := by
      unfold stepV; rw [if_neg (by omega), if_pos h1]; simp
    rw [e, h1]
    rw [h1] at hk
    have hkd : kd = part (t.getD (k + 1) default).op := hk kd (by simp)
    subst hkd
    simp only [List.length_append, List.length_cons, List.length_nil, Nat.zero_add, Nat.add_sub_cancel, List.take_left]
    exact .snoc i0 p0 vs0 (k + 1) _ _ hst (.one k i0 a hi h1 htr)
  · obtain ⟨i1, p1, vs1, k, kd, b, rfl, rfl, rfl, hst1, htr1⟩ := h.inv (by intro e; rw [e] at hm; simp only [List.length_nil] at hm; omega)
    obtain ⟨i0, p0, vs0, f, kd0, a, rfl, rfl, rfl, hst, htr⟩ := hst1.inv (by intro e; rw [e] at hm; simp only [List.length_nil, List.length_append, List.length_cons] at hm; omega)
    have e : stepV w s (vs0 ++ [a] ++ [b]) (t.getD (k + 1) default) = vs0 ++ [ap w (t.getD (k + 1) default).op a b] := by
      unfold stepV; rw [if_neg (by omega), if_neg (by omega)]
      simp [List.getD]
    rw [e, h2]
    rw [h2] at hk
    have hkd : kd = part (t.getD (k + 1) default).op := hk kd (by simp)
    have hkd0 : kd0 = part (t.getD (k + 1) default).op := hk kd0 (by simp)
    subst hkd; subst hkd0
    have e2 : (p0 ++ [part (t.getD (k + 1) default).op] ++ [part (t.getD (k + 1) default).op]).take ((p0 ++ [part (t.getD (k + 1) default).op] ++ [part (t.getD (k + 1) default).op]).length - 2) = p0 := by simp
    rw [e2]
    exact .snoc i0 p0 vs0 (k + 1) _ _ hst (.two k f i0 a b hi h2 htr1 htr)

/-- The pile after some nodes. -/
def pileV (w : Nat) (s : List Nat) (t : List Nd) (i : Nat) : List Nat := (t.take i).foldl (stepV w s) []
theorem pileV_succ {w : Nat} {s : List Nat} {t : List Nd} {i : Nat} (h : i < t.length) : pileV w s t (i + 1) = stepV w s (pileV w s t i) (t.getD i default) := by
  unfold pileV; rw [take_succ_snoc h, List.foldl_append]; rfl
def tval (w : Nat) (t : List Nd) (s : List Nat) : Nat := (pileV w s t t.length).getD 0 0

theorem Stk.run {w v : Nat} {t : List Nd} {s : List Nat} (hw : 1 ≤ w) (hs : s.length = v) (hsw : ∀ a ∈ s, a < 2 ^ w) (hx : ∀ x ∈ t, 0 ≤ x.n) : ∀ (i : Nat) (p : List Int), i ≤ t.length → run w v [] (t.take i) = some p → Stk w t s i p (pileV w s t i)
  | 0, p, _, h => by
    simp only [List.take_zero, Pt.run, Option.some.injEq] at h
    subst h; exact .nil
  | i + 1, p, hi, h => by
    have hlt : i < t.length := hi
    rw [take_succ_snoc hlt, run_snoc] at h
    cases hr : Pt.run w v [] (t.take i) with
    | none => rw [hr] at h; cases h
    | some p0 =>
      rw [hr] at h
      rw [pileV_succ hlt]
      refine Stk.step hw hs hsw (Stk.run hw hs hsw hx i p0 (by omega) hr) hlt ?_ h
      have : t.getD i default = t[i] := by simp [List.getD, hlt]
      rw [this]; exact hx _ (List.getElem_mem hlt)

theorem run_prefix {w v : Int} {t : List Nd} {p : List Int} (h : run w v [] t = some p) (i : Nat) : ∃ p', run w v [] (t.take i) = some p' := by
  have e : t = t.take i ++ t.drop i := (List.take_append_drop _ _).symm
  rw [e, run_app] at h
  cases hr : run w v [] (t.take i) with
  | none => rw [hr] at h; cases h
  | some p' => exact ⟨p', rfl⟩
theorem kind_run {w v : Int} {t : List Nd} {k : Int} (hk : k ≠ 0) (h : kind w v t = k) : frame w v t = true ∧ run w v [] t = some [k] := by
  unfold kind at h
  split at h
  · rename_i hf
    refine ⟨hf, ?_⟩
    split at h
    · rename_i k' hr; rw [hr, h]
    · exact absurd h.symm hk
  · exact absurd h.symm hk

/-- A good term is the tree of its last node. -/
theorem kind_tree {w v : Nat} {t : List Nd} {s : List Nat} {k : Int} (hs : s.length = v) (hsw : ∀ a ∈ s, a < 2 ^ w) (hx : ∀ x ∈ t, 0 ≤ x.n) (hk : k ≠ 0) (h : kind w v t = k) :
    1 ≤ w ∧ 1 ≤ t.length ∧ t.length ≤ 48 ∧ Tr w t s (t.length - 1) 0 k (tval w t s) ∧ (∀ i, i ≤ t.length → ∃ p, Stk w t s i p (pileV w s t i) ∧ (i < t.length → ∃ p', step w v p (t.getD i default) = some p')) ∧ (pileV w s t t.length).length = 1 := by
  obtain ⟨hf, hr⟩ := kind_run hk h
  simp only [frame, Bool.and_eq_true, inB_iff, decide_eq_true_eq] at hf
  have hw : 1 ≤ w := by omega
  have hall := Stk.run hw hs hsw hx (t := t)
  have hst := hall t.length [k] (Nat.le_refl _) (by rw [List.take_length]; exact hr)
  obtain ⟨i0, p0, vs0, k1, kd, a, e1, e2, e3, h1, h2⟩ := hst.inv (by simp)
  have hp0 : p0 = [] := by
    have := congrArg List.length e2
    simp at this; simpa using this
  subst hp0
  have hkd : kd = k := by simpa using e2.symm
  subst hkd
  obtain ⟨rfl, rfl⟩ := h1.nil_inv rfl
  refine ⟨hw, hf.2.1, hf.2.2, ?_, fun i hi => ?_, by rw [e3]; rfl⟩
  · have : tval w t s = a := by unfold tval; rw [e3]; rfl
    rw [this, show t.length - 1 = k1 by omega]; exact h2
  · obtain ⟨p, hp⟩ := run_prefix hr i
    refine ⟨p, hall i p hi hp, fun hlt => ?_⟩
    obtain ⟨p', hp'⟩ := run_prefix hr (i + 1)
    rw [take_succ_snoc hlt, run_snoc, hp] at hp'
    exact ⟨p', hp'⟩
theorem kind_var {w v : Nat} {t : List Nd} {k : Int} (hk : k ≠ 0) (h : kind w v t = k) : ∀ x ∈ t, x.op = 2 → x.n < v := by
  obtain ⟨hf, hr⟩ := kind_run hk h
  intro x hx h2
  obtain ⟨i, hi, rfl⟩ := List.mem_iff_getElem.1 hx
  obtain ⟨p, hp⟩ := run_prefix hr i
  obtain ⟨p', hp'⟩ := run_prefix hr (i + 1)
  rw [take_succ_snoc hi, run_snoc, hp] at hp'
  have e : t.getD i default = t[i] := by simp [List.getD, hi]
  rw [e] at hp'
  obtain ⟨_, hl, _⟩ := step_inv hp'
  unfold leafOk at hl
  rw [if_neg (by omega), if_pos h2] at hl
  exact of_decide_eq_true hl
end Go.Pt
/- Specs: what operators make of small words, in the program and in the reference. -/
namespace Go.Proofs.Ytgcklgeifdefhaa
open Go Go.Sep Go.Pt
set_option linter.unusedSimpArgs false
set_option linter.unusedVariables false
attribute [local irreducible] CallT

/-- A small width. -/
def sw (w : Nat) : Prop := 1 ≤ w ∧ w ≤ 5
theorem pow5 {w : Nat} (h : sw w) : 2 ≤ 2 ^ w ∧ 2 ^ w ≤ 32 := by
  have a := Nat.pow_le_pow_right (n := 2) (by decide) h.1
  have b := Nat.pow_le_pow_right (n := 2) (by decide) h.2
  omega
theorem powI (w : Nat) : ((2 ^ w : Nat) : Int) = (2 : Int) ^ w := by simp
theorem mask_sw {w : Nat} (h : sw w) : Pu Try.prog 49 [I w] (U ((2 ^ w - 1 : Nat) : Int)) := by
  have h1 := h.1
  have h2 := h.2
  have := mask_spec (w : Int) (by omega) (by omega)
  have hp := pow5 h
  have e : (2 : Int) ^ (w : Int).toNat - 1 = ((2 ^ w - 1 : Nat) : Int) := by
    rw [Int.toNat_natCast, ← powI]; omega
  rw [e] at this; exact this
theorem inB_sw {w : Nat} (h : sw w) : inB (w : Int) 1 64 = true := by
  have h1 := h.1
  have h2 := h.2
  rw [inB_iff]; omega
theorem GoodW_impl {w a : Nat} (h : sw w) (ha : a < 2 ^ w) : Pu Try.prog 89 [I w, U a] (B true) := by
  have := GoodWord_impl (w : Int) a
  have e : (inB (w : Int) 1 64 && decide ((a : Int) < 2 ^ (w : Int).toNat)) = true := by
    rw [inB_sw h, Int.toNat_natCast, ← powI]
    have : (a : Int) < ((2 ^ w : Nat) : Int) := by omega
    rw [decide_eq_true this]; rfl
  rw [e] at this; exact this
theorem GoodW_ref {w a : Nat} (h : sw w) (ha : a < 2 ^ w) : Pu Try.prog 92 [I w, U a] (B true) := by
  have hp := pow5 h
  have := GoodWord_spec (w : Int) a (by omega)
  have e : (inB (w : Int) 1 64 && decide ((a : Int) < 2 ^ (w : Int).toNat)) = true := by
    rw [inB_sw h, Int.toNat_natCast, ← powI]
    have : (a : Int) < ((2 ^ w : Nat) : Int) := by omega
    rw [decide_eq_true this]; rfl
  rw [e] at this; exact this
theorem l1Cut_sw {w a : Nat} (h : sw w) (ha : a < 2 ^ 64) : Pu Try.prog 57 [I w, U a] (U ((a % 2 ^ w : Nat) : Int)) := l1Cut_spec w a (by have := h.2; omega) ha
theorem and_mask {x w : Nat} (hx : x < 2 ^ 64) (h : sw w) : bitsI .and .u64 (x : Int) ((2 ^ w - 1 : Nat) : Int) = ((x % 2 ^ w : Nat) : Int) := by
  have hp := pow5 h
  rw [(bitsU x (2 ^ w - 1) hx (by omega)).1, Nat.and_two_pow_sub_one_eq_mod]
theorem xorU (a b : Nat) (ha : a < 2 ^ 64) (hb : b < 2 ^ 64) : bitsI .xor .u64 (a : Int) (b : Int) = ((a ^^^ b : Nat) : Int) := by
  have e : ∀ x : Nat, x < 2 ^ 64 → (BitVec.ofInt IntKind.u64.bits (x : Int)).toNat = x := by
    intro x hx
    have : BitVec.ofInt IntKind.u64.bits (x : Int) = BitVec.ofNat 64 x := by
      apply BitVec.eq_of_toNat_eq; simp [IntKind.bits]
    rw [this]
    show (BitVec.ofNat 64 x).toNat = x
    rw [BitVec.toNat_ofNat, Nat.mod_eq_of_lt hx]
  simp only [bitsI]
  rw [BitVec.toNat_xor, e a ha, e b hb, IntKind.wrap_u64]
  have := Nat.xor_lt_two_pow ha hb
  omega
theorem wU {n : Nat} (h : n < 2 ^ 64) : IntKind.u64.wrap (n : Int) = n := by rw [IntKind.wrap_u64]; omega
theorem tdivN (a b : Nat) : Int.tdiv (a : Int) (b : Int) = ((a / b : Nat) : Int) := by
  rw [Int.tdiv_eq_ediv_of_nonneg (by omega)]; rfl
theorem tmodN (a b : Nat) : Int.tmod (a : Int) (b : Int) = ((a % b : Nat) : Int) := by
  rw [Int.tmod_eq_emod_of_nonneg (by omega)]; rfl
theorem fdivN (a n : Nat) : Int.fdiv (a : Int) (2 ^ n) = ((a / 2 ^ n : Nat) : Int) := by
  rw [Int.fdiv_eq_ediv_of_nonneg _ (by exact Int.le_of_lt (Int.pow_pos (by decide))), ← powI]; rfl
theorem mulN (a n : Nat) : (a : Int) * 2 ^ n = ((a * 2 ^ n : Nat) : Int) := by rw [← powI]; rfl
theorem minU {n : Nat} (h : n ≤ 64) : min n IntKind.u64.bits = n := by
  have : IntKind.u64.bits = 64 := rfl
  omega
theorem areWords_sw {w a b : Nat} (h : sw w) (ha : a < 2 ^ w) (hb : b < 2 ^ w) : Pu Try.prog 95 [I w, U a, U b] (B true) := by
  refine Pu.of fun H => ?_
  refine W95_ok ?_; simp (maxSteps := 1000000) (disch := first | assumption | (apply Ne.symm; assumption)) only [W95, vz, vu, vv, eqS, eqFieldsV, ↓condV_t, ↓condV_f, tabs, reduceCtorEq, Array.toList, ↓reduceIte, Nat.reduceAdd, Nat.reduceLeDiff, Nat.reduceLT, Nat.reduceMul, Nat.reduceSub, Int.reduceToNat, Int.reduceSub, Int.reduceAdd, Int.reduceNeg]
  refine Pu.use (GoodW_impl h ha) ?_
  (try simp (maxSteps := 1000000) (disch := first | assumption | (apply Ne.symm; assumption)) only [vz, vu, vv, eqS, eqFieldsV, ↓condV_t, ↓condV_f, tabs, reduceCtorEq, Array.toList, ↓reduceIte, Nat.reduceAdd, Nat.reduceLeDiff, Nat.reduceLT, Nat.reduceMul, Nat.reduceSub, Int.reduceToNat, Int.reduceSub, Int.reduceAdd, Int.reduceNeg])
  refine Pu.use (GoodW_impl h hb) ?_
  (try simp (maxSteps := 1000000) (disch := first | assumption | (apply Ne.symm; assumption)) only [vz, vu, vv, eqS, eqFieldsV, ↓condV_t, ↓condV_f, tabs, reduceCtorEq, Array.toList, ↓reduceIte, Nat.reduceAdd, Nat.reduceLeDiff, Nat.reduceLT, Nat.reduceMul, Nat.reduceSub, Int.reduceToNat, Int.reduceSub, Int.reduceAdd, Int.reduceNeg])
theorem l1Both_sw {w a b : Nat} (h : sw w) (ha : a < 2 ^ w) (hb : b < 2 ^ w) : Pu Try.prog 93 [I w, U a, U b] (B true) := by
  refine Pu.of fun H => ?_
  refine W93_ok ?_; simp (maxSteps := 1000000) (disch := first | assumption | (apply Ne.symm; assumption)) only [W93, vz, vu, vv, eqS, eqFieldsV, ↓condV_t, ↓condV_f, tabs, reduceCtorEq, Array.toList, ↓reduceIte, Nat.reduceAdd, Nat.reduceLeDiff, Nat.reduceLT, Nat.reduceMul, Nat.reduceSub, Int.reduceToNat, Int.reduceSub, Int.reduceAdd, Int.reduceNeg]
  refine Pu.use (GoodW_ref h ha) ?_
  (try simp (maxSteps := 1000000) (disch := first | assumption | (apply Ne.symm; assumption)) only [vz, vu, vv, eqS, eqFieldsV, ↓condV_t, ↓condV_f, tabs, reduceCtorEq, Array.toList, ↓reduceIte, Nat.reduceAdd, Nat.reduceLeDiff, Nat.reduceLT, Nat.reduceMul, Nat.reduceSub, Int.reduceToNat, Int.reduceSub, Int.reduceAdd, Int.reduceNeg])
  refine Pu.use (GoodW_ref h hb) ?_
  (try simp (maxSteps := 1000000) (disch := first | assumption | (apply Ne.symm; assumption)) only [vz, vu, vv, eqS, eqFieldsV, ↓condV_t, ↓condV_f, tabs, reduceCtorEq, Array.toList, ↓reduceIte, Nat.reduceAdd, Nat.reduceLeDiff, Nat.reduceLT, Nat.reduceMul, Nat.reduceSub, Int.reduceToNat, Int.reduceSub, Int.reduceAdd, Int.reduceNeg])
def quoW (w a b : Nat) : Nat := if b = 0 then 2 ^ w - 1 else a / b
def remW (a b : Nat) : Nat := if b = 0 then a else a % b
theorem Div64_sw {a b : Nat} (hb : b ≠ 0) (ha : a < 1000) (hb2 : b < 1000) : Pu Try.prog 96 [U 0, U a, U b] (.tup [U ((a / b : Nat) : Int), U ((a % b : Nat) : Int)]) := by
  refine Pu.of fun H => ?_
  refine W96_ok ?_; simp (maxSteps := 1000000) (disch := first | assumption | (apply Ne.symm; assumption)) only [W96, vz, vu, vv, eqS, eqFieldsV, ↓condV_t, ↓condV_f, tabs, reduceCtorEq, Array.toList, ↓reduceIte, Nat.reduceAdd, Nat.reduceLeDiff, Nat.reduceLT, Nat.reduceMul, Nat.reduceSub, Int.reduceToNat, Int.reduceSub, Int.reduceAdd, Int.reduceNeg]
  refine ⟨fun h => absurd h (by omega), fun h => ⟨fun h2 => by omega, fun h2 => ⟨by omega, by omega, ?_⟩⟩⟩
  rw [tdivN, tmodN, wU (Nat.lt_of_le_of_lt (Nat.div_le_self a b) (by omega))]
theorem DivWord_impl {w a b : Nat} (h : sw w) (ha : a < 2 ^ w) (hb : b < 2 ^ w) : Pu Try.prog 85 [I w, U a, U b] (.tup [U (quoW w a b : Nat), U (remW a b : Nat), B true]) := by
  have hp := pow5 h
  refine Pu.of fun H => ?_
  refine W85_ok ?_; simp (maxSteps := 1000000) (disch := first | assumption | (apply Ne.symm; assumption)) only [W85, vz, vu, vv, eqS, eqFieldsV, ↓condV_t, ↓condV_f, tabs, reduceCtorEq, Array.toList, ↓reduceIte, Nat.reduceAdd, Nat.reduceLeDiff, Nat.reduceLT, Nat.reduceMul, Nat.reduceSub, Int.reduceToNat, Int.reduceSub, Int.reduceAdd, Int.reduceNeg]
  refine Pu.use (areWords_sw h ha hb) ?_
  (try simp (maxSteps := 1000000) (disch := first | assumption | (apply Ne.symm; assumption)) only [vz, vu, vv, eqS, eqFieldsV, ↓condV_t, ↓condV_f, tabs, reduceCtorEq, Array.toList, ↓reduceIte, Nat.reduceAdd, Nat.reduceLeDiff, Nat.reduceLT, Nat.reduceMul, Nat.reduceSub, Int.reduceToNat, Int.reduceSub, Int.reduceAdd, Int.reduceNeg])
  refine ⟨fun h0 => ?_, fun h0 => ?_⟩
  · have : b = 0 := by omega
    subst this
    refine Pu.use (mask_sw h) ⟨rfl, Heap.le_refl _⟩
  · have hb0 : b ≠ 0 := by omega
    refine Pu.use (Div64_sw hb0 (by omega) (by omega)) ?_
    have e1 : quoW w a b = a / b := by rw [quoW, if_neg hb0]
    have e2 : remW a b = a % b := by rw [remW, if_neg hb0]
    rw [e1, e2]
    (try simp (maxSteps := 1000000) (disch := first | assumption | (apply Ne.symm; assumption)) only [vz, vu, vv, eqS, eqFieldsV, ↓condV_t, ↓condV_f, tabs, reduceCtorEq, Array.toList, ↓reduceIte, Nat.reduceAdd, Nat.reduceLeDiff, Nat.reduceLT, Nat.reduceMul, Nat.reduceSub, Int.reduceToNat, Int.reduceSub, Int.reduceAdd, Int.reduceNeg])
theorem DivWord_ref {w a b : Nat} (h : sw w) (ha : a < 2 ^ w) (hb : b < 2 ^ w) : Pu Try.prog 76 [I w, U a, U b] (.tup [U (quoW w a b : Nat), U (remW a b : Nat), B true]) := by
  have hp := pow5 h
  refine Pu.of fun H => ?_
  refine W76_ok ?_; simp (maxSteps := 1000000) (disch := first | assumption | (apply Ne.symm; assumption)) only [W76, vz, vu, vv, eqS, eqFieldsV, ↓condV_t, ↓condV_f, tabs, reduceCtorEq, Array.toList, ↓reduceIte, Nat.reduceAdd, Nat.reduceLeDiff, Nat.reduceLT, Nat.reduceMul, Nat.reduceSub, Int.reduceToNat, Int.reduceSub, Int.reduceAdd, Int.reduceNeg]
  refine Pu.use (l1Both_sw h ha hb) ?_
  (try simp (maxSteps := 1000000) (disch := first | assumption | (apply Ne.symm; assumption)) only [vz, vu, vv, eqS, eqFieldsV, ↓condV_t, ↓condV_f, tabs, reduceCtorEq, Array.toList, ↓reduceIte, Nat.reduceAdd, Nat.reduceLeDiff, Nat.reduceLT, Nat.reduceMul, Nat.reduceSub, Int.reduceToNat, Int.reduceSub, Int.reduceAdd, Int.reduceNeg])
  refine ⟨fun h0 => ?_, fun h0 => ?_⟩
  · have : b = 0 := by omega
    subst this
    have := l1Cut_sw (a := 18446744073709551615) h (by omega)
    have e : 18446744073709551615 % 2 ^ w = 2 ^ w - 1 := (by decide : ∀ w, w ≤ 5 → 18446744073709551615 % 2 ^ w = 2 ^ w - 1) w h.2
    rw [e] at this
    refine Pu.use this ⟨rfl, Heap.le_refl _⟩
  · have hb0 : b ≠ 0 := by omega
    have e1 : quoW w a b = a / b := by rw [quoW, if_neg hb0]
    have e2 : remW a b = a % b := by rw [remW, if_neg hb0]
    rw [e1, e2, tdivN, tmodN, wU (Nat.lt_of_le_of_lt (Nat.div_le_self a b) (by omega))]
    exact ⟨h0, h0, rfl⟩
def shW (w a b : Nat) (l : Bool) : Nat := if w ≤ b then 0 else if l then a * 2 ^ b % 2 ^ w else a / 2 ^ b
theorem shift_sw {w a b : Nat} (l : Bool) (h : sw w) (ha : a < 2 ^ w) (hb : b < 2 ^ w) : Pu Try.prog 86 [I w, U a, U b, B l] (U (shW w a b l : Nat)) := by
  have hp := pow5 h
  refine Pu.of fun H => ?_
  have e0 : IntKind.u64.wrap (w : Int) = w := wU (by have := h.2; omega)
  refine W86_ok ?_; simp (maxSteps := 1000000) (disch := first | assumption | (apply Ne.symm; assumption)) only [W86, vz, vu, vv, eqS, eqFieldsV, ↓condV_t, ↓condV_f, tabs, reduceCtorEq, Array.toList, ↓reduceIte, Nat.reduceAdd, Nat.reduceLeDiff, Nat.reduceLT, Nat.reduceMul, Nat.reduceSub, Int.reduceToNat, Int.reduceSub, Int.reduceAdd, Int.reduceNeg, e0]
  refine ⟨fun h1 => ?_, fun h1 => ?_⟩
  · rw [shW, if_pos (by omega)]; rfl
  have hbw : ¬ w ≤ b := by omega
  have hw5 := h.2
  have hb5 : 2 ^ b ≤ 32 := Nat.pow_le_pow_right (n := 2) (by decide) (show b ≤ 5 by omega)
  have hab : a * 2 ^ b < 2 ^ 64 := by
    have := Nat.mul_le_mul (show a ≤ 32 by omega) hb5
    omega
  refine ⟨fun hl => ⟨by omega, ?_⟩, fun hl => ⟨by omega, ?_⟩⟩
  · refine Pu.use (mask_sw h) ?_
    rw [minU (by omega), mulN, wU hab]
    (try simp (maxSteps := 1000000) (disch := first | assumption | (apply Ne.symm; assumption)) only [vz, vu, vv, eqS, eqFieldsV, ↓condV_t, ↓condV_f, tabs, reduceCtorEq, Array.toList, ↓reduceIte, Nat.reduceAdd, Nat.reduceLeDiff, Nat.reduceLT, Nat.reduceMul, Nat.reduceSub, Int.reduceToNat, Int.reduceSub, Int.reduceAdd, Int.reduceNeg])
    rw [and_mask hab h, shW, if_neg hbw, if_pos hl]
  · rw [minU (by omega), fdivN, shW, if_neg hbw, if_neg (by rw [hl]; simp)]
/-- After j steps. -/
def shJ (w a j : Nat) (l : Bool) : Nat := if l then a * 2 ^ j % 2 ^ w else a / 2 ^ j
theorem shJ_zero {w a : Nat} {l : Bool} (ha : a < 2 ^ w) : shJ w a 0 l = a := by
  unfold shJ; split
  · rw [Nat.pow_zero, Nat.mul_one, Nat.mod_eq_of_lt ha]
  · simp
theorem shJ_lt {w a : Nat} (l : Bool) (ha : a < 2 ^ w) (j : Nat) : shJ w a j l < 2 ^ w := by
  unfold shJ; split
  · exact Nat.mod_lt _ (Nat.two_pow_pos w)
  · exact div_lt' ha
theorem l1Shift_sw {w a b : Nat} (l : Bool) (h : sw w) (ha : a < 2 ^ w) (hb : b < 2 ^ w) : Pu Try.prog 77 [I w, U a, U b, B l] (U (shW w a b l : Nat)) := by
  have hp := pow5 h
  refine Pu.of fun H => ?_
  have hw5 := h.2
  have e0 : IntKind.u64.wrap (w : Int) = w := wU (by omega)
  refine W77_ok ?_; simp (maxSteps := 1000000) (disch := first | assumption | (apply Ne.symm; assumption)) only [W77, vz, vu, vv, eqS, eqFieldsV, ↓condV_t, ↓condV_f, tabs, reduceCtorEq, Array.toList, ↓reduceIte, Nat.reduceAdd, Nat.reduceLeDiff, Nat.reduceLT, Nat.reduceMul, Nat.reduceSub, Int.reduceToNat, Int.reduceSub, Int.reduceAdd, Int.reduceNeg, e0]
  refine ⟨fun h1 => ?_, fun h1 => ?_⟩
  · rw [shW, if_pos (by omega)]; rfl
  have hbw : ¬ w ≤ b := by omega
  refine L77_0_rule (0 : Nat) (fun j => U (shJ w a j l : Nat)) (fun j => U ((b - j : Nat) : Int)) (fun _ => H) (fun j => j ≤ b) (fun j => b - j) ⟨by omega, ?_, .refl _, Heap.le_refl _⟩ ?_
  · rw [shJ_zero ha]; exact .refl _
  intro j hj
  have hlt := shJ_lt l ha j
  have em : min 1 IntKind.u64.bits = 1 := by decide
  have e3 : j < b → IntKind.u64.wrap (((b - j : Nat) : Int) - 1) = ((b - (j + 1) : Nat) : Int) := fun hjb => by
    have : ((b - j : Nat) : Int) - 1 = ((b - (j + 1) : Nat) : Int) := by omega
    rw [this, wU (by omega)]
  (try simp (maxSteps := 1000000) (disch := first | assumption | (apply Ne.symm; assumption)) only [vz, vu, vv, eqS, eqFieldsV, ↓condV_t, ↓condV_f, tabs, reduceCtorEq, Array.toList, ↓reduceIte, Nat.reduceAdd, Nat.reduceLeDiff, Nat.reduceLT, Nat.reduceMul, Nat.reduceSub, Int.reduceToNat, Int.reduceSub, Int.reduceAdd, Int.reduceNeg, B77_0])
  refine ⟨fun h2 => ?_, fun h2 => ?_⟩
  · have hjb : j < b := by omega
    rw [e3 hjb, em]
    refine ⟨fun hl => ⟨by omega, ?_⟩, fun hl => ⟨by omega, j + 1, by omega, by omega, ?_, .refl _⟩⟩
    · have e4 : IntKind.u64.wrap (((shJ w a j l : Nat) : Int) * 2 ^ 1) = ((shJ w a j l * 2 : Nat) : Int) := by
        rw [mulN, Nat.pow_one, wU (by omega)]
      rw [e4]
      refine Pu.use (l1Cut_sw h (by omega)) ⟨j + 1, by omega, by omega, ?_, .refl _, Heap.le_refl _⟩
      have e5 : shJ w a j l * 2 % 2 ^ w = shJ w a (j + 1) l := by
        simp only [shJ, hl, if_true]
        rw [Nat.mul_mod, Nat.mod_mod, ← Nat.mul_mod, Nat.pow_succ, Nat.mul_assoc]
      rw [e5]; exact .refl _
    · have e5 : shJ w a j l / 2 = shJ w a (j + 1) l := by
        simp only [shJ, hl, Bool.false_eq_true, if_false]
        rw [Nat.div_div_eq_div_mul, Nat.pow_succ]
      rw [fdivN, Nat.pow_one, e5]; exact .refl _
  · have : j = b := by omega
    subst this
    rw [shW, if_neg hbw]; rfl
theorem sg1 : ∀ w : Nat, w < 6 → ∀ a : Nat, a < 32 → 1 ≤ w → a < 2 ^ w → (IntKind.i64.wrap (IntKind.u64.wrap ((a : Int) * 2 ^ min (IntKind.i64.wrap (64 - (w : Int))).toNat IntKind.u64.bits))).fdiv (2 ^ min (IntKind.i64.wrap (64 - (w : Int))).toNat IntKind.i64.bits) = sgn w a := by decide +kernel
theorem signed_sw {w a : Nat} (h : sw w) (ha : a < 2 ^ w) : Pu Try.prog 88 [I w, U a] (I (sgn w a)) := by
  have hp := pow5 h
  refine Pu.of fun H => ?_
  refine W88_ok ?_; simp (maxSteps := 1000000) (disch := first | assumption | (apply Ne.symm; assumption)) only [W88, vz, vu, vv, eqS, eqFieldsV, ↓condV_t, ↓condV_f, tabs, reduceCtorEq, Array.toList, ↓reduceIte, Nat.reduceAdd, Nat.reduceLeDiff, Nat.reduceLT, Nat.reduceMul, Nat.reduceSub, Int.reduceToNat, Int.reduceSub, Int.reduceAdd, Int.reduceNeg]
  have h1 := h.1
  have h2 := h.2
  have e0 : IntKind.i64.wrap (64 - (w : Int)) = 64 - w := i64_id (by omega) (by omega)
  refine ⟨by omega, by omega, ?_⟩
  rw [sg1 w (by omega) a (by omega) h1 ha]
theorem sg2 : ∀ w : Nat, w < 6 → 1 ≤ w → 0 ≤ IntKind.u64.wrap (IntKind.i64.wrap ((w : Int) - 1)) := by decide +kernel
theorem sg3 : ∀ w : Nat, w < 6 → ∀ a : Nat, a < 32 → 1 ≤ w → a < 2 ^ w → ¬ bitsI BinOp.and IntKind.u64 (Int.fdiv (a : Int) (2 ^ min (IntKind.u64.wrap (IntKind.i64.wrap ((w : Int) - 1))).toNat IntKind.u64.bits)) 1 = 1 → IntKind.i64.wrap (a : Int) = sgn w a := by decide +kernel
theorem sg4 : ∀ w : Nat, w < 6 → ∀ a : Nat, a < 32 → 1 ≤ w → a < 2 ^ w → bitsI BinOp.and IntKind.u64 (Int.fdiv (a : Int) (2 ^ min (IntKind.u64.wrap (IntKind.i64.wrap ((w : Int) - 1))).toNat IntKind.u64.bits)) 1 = 1 →
    IntKind.i64.wrap (bitsI BinOp.or IntKind.u64 (a : Int) (bitsI BinOp.xor IntKind.u64 (if IntKind.u64.signed = true then -1 else IntKind.u64.max) ((18446744073709551615 % 2 ^ w : Nat) : Int))) = sgn w a := by decide +kernel
theorem l1Signed_sw {w a : Nat} (h : sw w) (ha : a < 2 ^ w) : Pu Try.prog 79 [I w, U a] (I (sgn w a)) := by
  have hp := pow5 h
  refine Pu.of fun H => ?_
  refine W79_ok ?_; simp (maxSteps := 1000000) (disch := first | assumption | (apply Ne.symm; assumption)) only [W79, vz, vu, vv, eqS, eqFieldsV, ↓condV_t, ↓condV_f, tabs, reduceCtorEq, Array.toList, ↓reduceIte, Nat.reduceAdd, Nat.reduceLeDiff, Nat.reduceLT, Nat.reduceMul, Nat.reduceSub, Int.reduceToNat, Int.reduceSub, Int.reduceAdd, Int.reduceNeg]
  have h1 := h.1
  have h2 := h.2
  refine ⟨sg2 w (by omega) h1, fun hc => ?_, fun hc => ?_⟩
  · refine Pu.use (l1Cut_sw (a := 18446744073709551615) h (by omega)) ?_
    (try simp (maxSteps := 1000000) (disch := first | assumption | (apply Ne.symm; assumption)) only [vz, vu, vv, eqS, eqFieldsV, ↓condV_t, ↓condV_f, tabs, reduceCtorEq, Array.toList, ↓reduceIte, Nat.reduceAdd, Nat.reduceLeDiff, Nat.reduceLT, Nat.reduceMul, Nat.reduceSub, Int.reduceToNat, Int.reduceSub, Int.reduceAdd, Int.reduceNeg])
    rw [sg4 w (by omega) a (by omega) h1 ha hc]
  · rw [sg3 w (by omega) a (by omega) h1 ha hc]
theorem truth_spec (b : Bool) : Pu Try.prog 87 [B b] (U ((if b = true then 1 else 0 : Nat) : Int)) := by
  refine Pu.of fun H => ?_
  refine W87_ok ?_; simp (maxSteps := 1000000) (disch := first | assumption | (apply Ne.symm; assumption)) only [W87, vz, vu, vv, eqS, eqFieldsV, ↓condV_t, ↓condV_f, tabs, reduceCtorEq, Array.toList, ↓reduceIte, Nat.reduceAdd, Nat.reduceLeDiff, Nat.reduceLT, Nat.reduceMul, Nat.reduceSub, Int.reduceToNat, Int.reduceSub, Int.reduceAdd, Int.reduceNeg]
  cases b <;> simp
theorem l2Bool_spec (b : Bool) : Pu Try.prog 78 [B b] (U ((if b = true then 1 else 0 : Nat) : Int)) := by
  refine Pu.of fun H => ?_
  refine W78_ok ?_; simp (maxSteps := 1000000) (disch := first | assumption | (apply Ne.symm; assumption)) only [W78, vz, vu, vv, eqS, eqFieldsV, ↓condV_t, ↓condV_f, tabs, reduceCtorEq, Array.toList, ↓reduceIte, Nat.reduceAdd, Nat.reduceLeDiff, Nat.reduceLT, Nat.reduceMul, Nat.reduceSub, Int.reduceToNat, Int.reduceSub, Int.reduceAdd, Int.reduceNeg]
  cases b <;> simp
theorem and_fin {w x v : Nat} (h : sw w) (hx : x < 2 ^ 64) (e : x % 2 ^ w = v) {H : Heap} : CallT Try.prog 49 [I w] H fun m H2 => binV tab .and 52 (U x) m fun r => r = U v ∧ Heap.le H H2 := by
  refine Pu.use (mask_sw h) ?_
  (try simp (maxSteps := 1000000) (disch := first | assumption | (apply Ne.symm; assumption)) only [vz, vu, vv, eqS, eqFieldsV, ↓condV_t, ↓condV_f, tabs, reduceCtorEq, Array.toList, ↓reduceIte, Nat.reduceAdd, Nat.reduceLeDiff, Nat.reduceLT, Nat.reduceMul, Nat.reduceSub, Int.reduceToNat, Int.reduceSub, Int.reduceAdd, Int.reduceNeg])
  rw [and_mask hx h, e]
theorem subW : ∀ w : Nat, w < 6 → ∀ a : Nat, a < 32 → ∀ b : Nat, b < 32 → a < 2 ^ w → b < 2 ^ w → (18446744073709551616 + a - b) % 18446744073709551616 % 2 ^ w = (a + 2 ^ w - b) % 2 ^ w := by decide +kernel
theorem subU {a b : Nat} (ha : a < 1000) (hb : b < 1000) : IntKind.u64.wrap ((a : Int) - b) = (((18446744073709551616 + a - b) % 18446744073709551616 : Nat) : Int) := by
  rw [IntKind.wrap_u64]; omega
theorem ite_dec (p : Prop) [Decidable p] : (if decide p = true then 1 else 0 : Nat) = if p then 1 else 0 := by by_cases h : p <;> simp [h]
theorem one_sw {w n : Nat} (h : sw w) (hn : n ≤ 1) : n % 2 ^ w = n := Nat.mod_eq_of_lt (by have := pow5 h; omega)
theorem quoW_lt {w a b : Nat} (h : sw w) (ha : a < 2 ^ w) : quoW w a b < 2 ^ w := by
  have hp := pow5 h
  unfold quoW; split
  · omega
  · exact div_lt' ha
theorem remW_lt {w a b : Nat} (ha : a < 2 ^ w) : remW a b < 2 ^ w := by
  unfold remW; split
  · exact ha
  · exact Nat.lt_of_le_of_lt (Nat.mod_le _ _) ha
theorem shW_lt {w a b : Nat} (l : Bool) (h : sw w) (ha : a < 2 ^ w) : shW w a b l < 2 ^ w := by
  have hp := pow5 h
  unfold shW; split
  · omega
  · split
    · exact Nat.mod_lt _ (Nat.two_pow_pos w)
    · exact div_lt' ha
theorem apply_sw {w a b : Nat} {op : Int} (h : sw w) (h2 : many op = 2) (ha : a < 2 ^ w) (hb : b < 2 ^ w) : Pu Try.prog 64 [I w, I op, U a, U b] (U (ap w op a b : Nat)) := by
  have hp := pow5 h
  have hab : a * b ≤ 32 * 32 := Nat.mul_le_mul (by omega) (by omega)
  refine Pu.of fun H => ?_
  rcases many2 h2 with h3 | h3 | rfl | rfl
  · obtain rfl | rfl | rfl | rfl | rfl | rfl | rfl | rfl | rfl | rfl : op = 3 ∨ op = 4 ∨ op = 5 ∨ op = 6 ∨ op = 7 ∨ op = 8 ∨ op = 9 ∨ op = 10 ∨ op = 11 ∨ op = 12 := by omega
    · refine W64_ok ?_; simp (maxSteps := 1000000) (disch := first | assumption | (apply Ne.symm; assumption)) only [W64, vz, vu, vv, eqS, eqFieldsV, ↓condV_t, ↓condV_f, tabs, reduceCtorEq, Array.toList, ↓reduceIte, Nat.reduceAdd, Nat.reduceLeDiff, Nat.reduceLT, Nat.reduceMul, Nat.reduceSub, Int.reduceToNat, Int.reduceSub, Int.reduceAdd, Int.reduceNeg, J64_0, J64_1, J64_2, Int.reduceEq]
      rw [← Int.natCast_add, wU (by omega)]
      exact and_fin h (by omega) rfl
    · refine W64_ok ?_; simp (maxSteps := 1000000) (disch := first | assumption | (apply Ne.symm; assumption)) only [W64, vz, vu, vv, eqS, eqFieldsV, ↓condV_t, ↓condV_f, tabs, reduceCtorEq, Array.toList, ↓reduceIte, Nat.reduceAdd, Nat.reduceLeDiff, Nat.reduceLT, Nat.reduceMul, Nat.reduceSub, Int.reduceToNat, Int.reduceSub, Int.reduceAdd, Int.reduceNeg, J64_0, J64_1, J64_2, Int.reduceEq]
      rw [subU (by omega) (by omega)]
      exact and_fin h (by omega) (subW w (by have := h.2; omega) a (by omega) b (by omega) ha hb)
    · refine W64_ok ?_; simp (maxSteps := 1000000) (disch := first | assumption | (apply Ne.symm; assumption)) only [W64, vz, vu, vv, eqS, eqFieldsV, ↓condV_t, ↓condV_f, tabs, reduceCtorEq, Array.toList, ↓reduceIte, Nat.reduceAdd, Nat.reduceLeDiff, Nat.reduceLT, Nat.reduceMul, Nat.reduceSub, Int.reduceToNat, Int.reduceSub, Int.reduceAdd, Int.reduceNeg, J64_0, J64_1, J64_2, Int.reduceEq]
      rw [← Int.natCast_mul, wU (by omega)]
      exact and_fin h (by omega) rfl
    · refine W64_ok ?_; simp (maxSteps := 1000000) (disch := first | assumption | (apply Ne.symm; assumption)) only [W64, vz, vu, vv, eqS, eqFieldsV, ↓condV_t, ↓condV_f, tabs, reduceCtorEq, Array.toList, ↓reduceIte, Nat.reduceAdd, Nat.reduceLeDiff, Nat.reduceLT, Nat.reduceMul, Nat.reduceSub, Int.reduceToNat, Int.reduceSub, Int.reduceAdd, Int.reduceNeg, J64_0, J64_1, J64_2, Int.reduceEq]
      refine Pu.use (DivWord_impl h ha hb) ?_
      (try simp (maxSteps := 1000000) (disch := first | assumption | (apply Ne.symm; assumption)) only [vz, vu, vv, eqS, eqFieldsV, ↓condV_t, ↓condV_f, tabs, reduceCtorEq, Array.toList, ↓reduceIte, Nat.reduceAdd, Nat.reduceLeDiff, Nat.reduceLT, Nat.reduceMul, Nat.reduceSub, Int.reduceToNat, Int.reduceSub, Int.reduceAdd, Int.reduceNeg])
      have := quoW_lt (b := b) h ha
      exact and_fin h (by omega) (Nat.mod_eq_of_lt this)
    · refine W64_ok ?_; simp (maxSteps := 1000000) (disch := first | assumption | (apply Ne.symm; assumption)) only [W64, vz, vu, vv, eqS, eqFieldsV, ↓condV_t, ↓condV_f, tabs, reduceCtorEq, Array.toList, ↓reduceIte, Nat.reduceAdd, Nat.reduceLeDiff, Nat.reduceLT, Nat.reduceMul, Nat.reduceSub, Int.reduceToNat, Int.reduceSub, Int.reduceAdd, Int.reduceNeg, J64_0, J64_1, J64_2, Int.reduceEq]
      refine Pu.use (DivWord_impl h ha hb) ?_
      (try simp (maxSteps := 1000000) (disch := first | assumption | (apply Ne.symm; assumption)) only [vz, vu, vv, eqS, eqFieldsV, ↓condV_t, ↓condV_f, tabs, reduceCtorEq, Array.toList, ↓reduceIte, Nat.reduceAdd, Nat.reduceLeDiff, Nat.reduceLT, Nat.reduceMul, Nat.reduceSub, Int.reduceToNat, Int.reduceSub, Int.reduceAdd, Int.reduceNeg])
      have := remW_lt (b := b) ha
      exact and_fin h (by omega) (Nat.mod_eq_of_lt this)
    · refine W64_ok ?_; simp (maxSteps := 1000000) (disch := first | assumption | (apply Ne.symm; assumption)) only [W64, vz, vu, vv, eqS, eqFieldsV, ↓condV_t, ↓condV_f, tabs, reduceCtorEq, Array.toList, ↓reduceIte, Nat.reduceAdd, Nat.reduceLeDiff, Nat.reduceLT, Nat.reduceMul, Nat.reduceSub, Int.reduceToNat, Int.reduceSub, Int.reduceAdd, Int.reduceNeg, J64_0, J64_1, J64_2, Int.reduceEq]
      rw [(bitsU a b (by omega) (by omega)).1]
      have := Nat.and_lt_two_pow a hb
      exact and_fin h (by omega) (Nat.mod_eq_of_lt this)
    · refine W64_ok ?_; simp (maxSteps := 1000000) (disch := first | assumption | (apply Ne.symm; assumption)) only [W64, vz, vu, vv, eqS, eqFieldsV, ↓condV_t, ↓condV_f, tabs, reduceCtorEq, Array.toList, ↓reduceIte, Nat.reduceAdd, Nat.reduceLeDiff, Nat.reduceLT, Nat.reduceMul, Nat.reduceSub, Int.reduceToNat, Int.reduceSub, Int.reduceAdd, Int.reduceNeg, J64_0, J64_1, J64_2, Int.reduceEq]
      rw [(bitsU a b (by omega) (by omega)).2]
      have := Nat.or_lt_two_pow ha hb
      exact and_fin h (by omega) (Nat.mod_eq_of_lt this)
    · refine W64_ok ?_; simp (maxSteps := 1000000) (disch := first | assumption | (apply Ne.symm; assumption)) only [W64, vz, vu, vv, eqS, eqFieldsV, ↓condV_t, ↓condV_f, tabs, reduceCtorEq, Array.toList, ↓reduceIte, Nat.reduceAdd, Nat.reduceLeDiff, Nat.reduceLT, Nat.reduceMul, Nat.reduceSub, Int.reduceToNat, Int.reduceSub, Int.reduceAdd, Int.reduceNeg, J64_0, J64_1, J64_2, Int.reduceEq]
      rw [xorU a b (by omega) (by omega)]
      have := Nat.xor_lt_two_pow ha hb
      exact and_fin h (by omega) (Nat.mod_eq_of_lt this)
    · refine W64_ok ?_; simp (maxSteps := 1000000) (disch := first | assumption | (apply Ne.symm; assumption)) only [W64, vz, vu, vv, eqS, eqFieldsV, ↓condV_t, ↓condV_f, tabs, reduceCtorEq, Array.toList, ↓reduceIte, Nat.reduceAdd, Nat.reduceLeDiff, Nat.reduceLT, Nat.reduceMul, Nat.reduceSub, Int.reduceToNat, Int.reduceSub, Int.reduceAdd, Int.reduceNeg, J64_0, J64_1, J64_2, Int.reduceEq]
      refine Pu.use (shift_sw true h ha hb) ?_
      (try simp (maxSteps := 1000000) (disch := first | assumption | (apply Ne.symm; assumption)) only [vz, vu, vv, eqS, eqFieldsV, ↓condV_t, ↓condV_f, tabs, reduceCtorEq, Array.toList, ↓reduceIte, Nat.reduceAdd, Nat.reduceLeDiff, Nat.reduceLT, Nat.reduceMul, Nat.reduceSub, Int.reduceToNat, Int.reduceSub, Int.reduceAdd, Int.reduceNeg])
      have := shW_lt (b := b) true h ha
      exact and_fin h (by omega) (Nat.mod_eq_of_lt this)
    · refine W64_ok ?_; simp (maxSteps := 1000000) (disch := first | assumption | (apply Ne.symm; assumption)) only [W64, vz, vu, vv, eqS, eqFieldsV, ↓condV_t, ↓condV_f, tabs, reduceCtorEq, Array.toList, ↓reduceIte, Nat.reduceAdd, Nat.reduceLeDiff, Nat.reduceLT, Nat.reduceMul, Nat.reduceSub, Int.reduceToNat, Int.reduceSub, Int.reduceAdd, Int.reduceNeg, J64_0, J64_1, J64_2, Int.reduceEq]
      refine Pu.use (shift_sw false h ha hb) ?_
      (try simp (maxSteps := 1000000) (disch := first | assumption | (apply Ne.symm; assumption)) only [vz, vu, vv, eqS, eqFieldsV, ↓condV_t, ↓condV_f, tabs, reduceCtorEq, Array.toList, ↓reduceIte, Nat.reduceAdd, Nat.reduceLeDiff, Nat.reduceLT, Nat.reduceMul, Nat.reduceSub, Int.reduceToNat, Int.reduceSub, Int.reduceAdd, Int.reduceNeg])
      have := shW_lt (b := b) false h ha
      exact and_fin h (by omega) (Nat.mod_eq_of_lt this)
  · obtain rfl | rfl | rfl : op = 14 ∨ op = 15 ∨ op = 16 := by omega
    · refine W64_ok ?_; simp (maxSteps := 1000000) (disch := first | assumption | (apply Ne.symm; assumption)) only [W64, vz, vu, vv, eqS, eqFieldsV, ↓condV_t, ↓condV_f, tabs, reduceCtorEq, Array.toList, ↓reduceIte, Nat.reduceAdd, Nat.reduceLeDiff, Nat.reduceLT, Nat.reduceMul, Nat.reduceSub, Int.reduceToNat, Int.reduceSub, Int.reduceAdd, Int.reduceNeg, J64_0, J64_1, J64_2, Int.reduceEq]
      refine Pu.use (truth_spec _) ?_
      (try simp (maxSteps := 1000000) (disch := first | assumption | (apply Ne.symm; assumption)) only [vz, vu, vv, eqS, eqFieldsV, ↓condV_t, ↓condV_f, tabs, reduceCtorEq, Array.toList, ↓reduceIte, Nat.reduceAdd, Nat.reduceLeDiff, Nat.reduceLT, Nat.reduceMul, Nat.reduceSub, Int.reduceToNat, Int.reduceSub, Int.reduceAdd, Int.reduceNeg])
      refine and_fin h (by split <;> omega) ?_
      rw [one_sw h (ite01 _)]
      show _ = (if a = b then 1 else 0)
      by_cases hh : a = b
      · rw [if_pos hh, if_pos (by omega)]
      · rw [if_neg hh, if_neg (by omega)]
    · refine W64_ok ?_; simp (maxSteps := 1000000) (disch := first | assumption | (apply Ne.symm; assumption)) only [W64, vz, vu, vv, eqS, eqFieldsV, ↓condV_t, ↓condV_f, tabs, reduceCtorEq, Array.toList, ↓reduceIte, Nat.reduceAdd, Nat.reduceLeDiff, Nat.reduceLT, Nat.reduceMul, Nat.reduceSub, Int.reduceToNat, Int.reduceSub, Int.reduceAdd, Int.reduceNeg, J64_0, J64_1, J64_2, Int.reduceEq]
      refine Pu.use (truth_spec _) ?_
      (try simp (maxSteps := 1000000) (disch := first | assumption | (apply Ne.symm; assumption)) only [vz, vu, vv, eqS, eqFieldsV, ↓condV_t, ↓condV_f, tabs, reduceCtorEq, Array.toList, ↓reduceIte, Nat.reduceAdd, Nat.reduceLeDiff, Nat.reduceLT, Nat.reduceMul, Nat.reduceSub, Int.reduceToNat, Int.reduceSub, Int.reduceAdd, Int.reduceNeg])
      refine and_fin h (by split <;> omega) ?_
      rw [one_sw h (ite01 _)]
      show _ = (if a < b then 1 else 0)
      by_cases hh : a < b
      · rw [if_pos hh, if_pos (by omega)]
      · rw [if_neg hh, if_neg (by omega)]
    · refine W64_ok ?_; simp (maxSteps := 1000000) (disch := first | assumption | (apply Ne.symm; assumption)) only [W64, vz, vu, vv, eqS, eqFieldsV, ↓condV_t, ↓condV_f, tabs, reduceCtorEq, Array.toList, ↓reduceIte, Nat.reduceAdd, Nat.reduceLeDiff, Nat.reduceLT, Nat.reduceMul, Nat.reduceSub, Int.reduceToNat, Int.reduceSub, Int.reduceAdd, Int.reduceNeg, J64_0, J64_1, J64_2, Int.reduceEq]
      refine Pu.use (signed_sw h ha) ?_
      (try simp (maxSteps := 1000000) (disch := first | assumption | (apply Ne.symm; assumption)) only [vz, vu, vv, eqS, eqFieldsV, ↓condV_t, ↓condV_f, tabs, reduceCtorEq, Array.toList, ↓reduceIte, Nat.reduceAdd, Nat.reduceLeDiff, Nat.reduceLT, Nat.reduceMul, Nat.reduceSub, Int.reduceToNat, Int.reduceSub, Int.reduceAdd, Int.reduceNeg])
      refine Pu.use (signed_sw h hb) ?_
      (try simp (maxSteps := 1000000) (disch := first | assumption | (apply Ne.symm; assumption)) only [vz, vu, vv, eqS, eqFieldsV, ↓condV_t, ↓condV_f, tabs, reduceCtorEq, Array.toList, ↓reduceIte, Nat.reduceAdd, Nat.reduceLeDiff, Nat.reduceLT, Nat.reduceMul, Nat.reduceSub, Int.reduceToNat, Int.reduceSub, Int.reduceAdd, Int.reduceNeg])
      refine Pu.use (truth_spec _) ?_
      (try simp (maxSteps := 1000000) (disch := first | assumption | (apply Ne.symm; assumption)) only [vz, vu, vv, eqS, eqFieldsV, ↓condV_t, ↓condV_f, tabs, reduceCtorEq, Array.toList, ↓reduceIte, Nat.reduceAdd, Nat.reduceLeDiff, Nat.reduceLT, Nat.reduceMul, Nat.reduceSub, Int.reduceToNat, Int.reduceSub, Int.reduceAdd, Int.reduceNeg])
      refine and_fin h (by split <;> omega) ?_
      rw [one_sw h (ite01 _)]
      show _ = (if sgn w a < sgn w b then 1 else 0)
      rfl
  · refine W64_ok ?_; simp (maxSteps := 1000000) (disch := first | assumption | (apply Ne.symm; assumption)) only [W64, vz, vu, vv, eqS, eqFieldsV, ↓condV_t, ↓condV_f, tabs, reduceCtorEq, Array.toList, ↓reduceIte, Nat.reduceAdd, Nat.reduceLeDiff, Nat.reduceLT, Nat.reduceMul, Nat.reduceSub, Int.reduceToNat, Int.reduceSub, Int.reduceAdd, Int.reduceNeg, J64_0, J64_1, J64_2, Int.reduceEq]
    rw [(bitsU a b (by omega) (by omega)).1]
    have := Nat.and_lt_two_pow a hb
    exact and_fin h (by omega) (Nat.mod_eq_of_lt this)
  · refine W64_ok ?_; simp (maxSteps := 1000000) (disch := first | assumption | (apply Ne.symm; assumption)) only [W64, vz, vu, vv, eqS, eqFieldsV, ↓condV_t, ↓condV_f, tabs, reduceCtorEq, Array.toList, ↓reduceIte, Nat.reduceAdd, Nat.reduceLeDiff, Nat.reduceLT, Nat.reduceMul, Nat.reduceSub, Int.reduceToNat, Int.reduceSub, Int.reduceAdd, Int.reduceNeg, J64_0, J64_1, J64_2, Int.reduceEq]
    rw [(bitsU a b (by omega) (by omega)).2]
    have := Nat.or_lt_two_pow ha hb
    exact and_fin h (by omega) (Nat.mod_eq_of_lt this)
theorem l2Do_sw {w a b : Nat} {op : Int} (h : sw w) (h2 : many op = 2) (ha : a < 2 ^ w) (hb : b < 2 ^ w) : Pu Try.prog 58 [I w, I op, U a, U b] (U (ap w op a b : Nat)) := by
  have hp := pow5 h
  have hab : a * b ≤ 32 * 32 := Nat.mul_le_mul (by omega) (by omega)
  refine Pu.of fun H => ?_
  rcases many2 h2 with h3 | h3 | rfl | rfl
  · obtain rfl | rfl | rfl | rfl | rfl | rfl | rfl | rfl | rfl | rfl : op = 3 ∨ op = 4 ∨ op = 5 ∨ op = 6 ∨ op = 7 ∨ op = 8 ∨ op = 9 ∨ op = 10 ∨ op = 11 ∨ op = 12 := by omega
    all_goals
      refine W58_ok ?_; simp (maxSteps := 1000000) (disch := first | assumption | (apply Ne.symm; assumption)) only [W58, vz, vu, vv, eqS, eqFieldsV, ↓condV_t, ↓condV_f, tabs, reduceCtorEq, Array.toList, ↓reduceIte, Nat.reduceAdd, Nat.reduceLeDiff, Nat.reduceLT, Nat.reduceMul, Nat.reduceSub, Int.reduceToNat, Int.reduceSub, Int.reduceAdd, Int.reduceNeg, J58_0, J58_1, Int.reduceEq]
      refine Pu.use (DivWord_ref h ha hb) ?_
      (try simp (maxSteps := 1000000) (disch := first | assumption | (apply Ne.symm; assumption)) only [vz, vu, vv, eqS, eqFieldsV, ↓condV_t, ↓condV_f, tabs, reduceCtorEq, Array.toList, ↓reduceIte, Nat.reduceAdd, Nat.reduceLeDiff, Nat.reduceLT, Nat.reduceMul, Nat.reduceSub, Int.reduceToNat, Int.reduceSub, Int.reduceAdd, Int.reduceNeg, J58_0, J58_1, Int.reduceEq])
    · rw [← Int.natCast_add, wU (by omega)]
      exact Pu.use (l1Cut_sw h (by omega)) ⟨rfl, Heap.le_refl _⟩
    · rw [subU (by omega) (by omega)]
      refine Pu.use (l1Cut_sw h (by omega)) ⟨?_, Heap.le_refl _⟩
      rw [subW w (by have := h.2; omega) a (by omega) b (by omega) ha hb]; rfl
    · rw [← Int.natCast_mul, wU (by omega)]
      exact Pu.use (l1Cut_sw h (by omega)) ⟨rfl, Heap.le_refl _⟩
    · rfl
    · rfl
    · rw [(bitsU a b (by omega) (by omega)).1]; rfl
    · rw [(bitsU a b (by omega) (by omega)).2]; rfl
    · rw [xorU a b (by omega) (by omega)]; rfl
    · exact Pu.use (l1Shift_sw true h ha hb) ⟨rfl, Heap.le_refl _⟩
    · exact Pu.use (l1Shift_sw false h ha hb) ⟨rfl, Heap.le_refl _⟩
  · obtain rfl | rfl | rfl : op = 14 ∨ op = 15 ∨ op = 16 := by omega
    all_goals
      refine W58_ok ?_; simp (maxSteps := 1000000) (disch := first | assumption | (apply Ne.symm; assumption)) only [W58, vz, vu, vv, eqS, eqFieldsV, ↓condV_t, ↓condV_f, tabs, reduceCtorEq, Array.toList, ↓reduceIte, Nat.reduceAdd, Nat.reduceLeDiff, Nat.reduceLT, Nat.reduceMul, Nat.reduceSub, Int.reduceToNat, Int.reduceSub, Int.reduceAdd, Int.reduceNeg, J58_0, J58_1, Int.reduceEq]
      refine Pu.use (DivWord_ref h ha hb) ?_
      (try simp (maxSteps := 1000000) (disch := first | assumption | (apply Ne.symm; assumption)) only [vz, vu, vv, eqS, eqFieldsV, ↓condV_t, ↓condV_f, tabs, reduceCtorEq, Array.toList, ↓reduceIte, Nat.reduceAdd, Nat.reduceLeDiff, Nat.reduceLT, Nat.reduceMul, Nat.reduceSub, Int.reduceToNat, Int.reduceSub, Int.reduceAdd, Int.reduceNeg, J58_0, J58_1, Int.reduceEq])
    · refine Pu.use (l2Bool_spec _) ⟨?_, Heap.le_refl _⟩
      have e : ap w 14 a b = if a = b then 1 else 0 := rfl
      rw [e, ite_dec]
      by_cases hh : a = b
      · rw [if_pos hh, if_pos (by omega)]
      · rw [if_neg hh, if_neg (by omega)]
    · refine Pu.use (l2Bool_spec _) ⟨?_, Heap.le_refl _⟩
      have e : ap w 15 a b = if a < b then 1 else 0 := rfl
      rw [e, ite_dec]
      by_cases hh : a < b
      · rw [if_pos hh, if_pos (by omega)]
      · rw [if_neg hh, if_neg (by omega)]
    · refine Pu.use (l1Signed_sw h ha) ?_
      (try simp (maxSteps := 1000000) (disch := first | assumption | (apply Ne.symm; assumption)) only [vz, vu, vv, eqS, eqFieldsV, ↓condV_t, ↓condV_f, tabs, reduceCtorEq, Array.toList, ↓reduceIte, Nat.reduceAdd, Nat.reduceLeDiff, Nat.reduceLT, Nat.reduceMul, Nat.reduceSub, Int.reduceToNat, Int.reduceSub, Int.reduceAdd, Int.reduceNeg])
      refine Pu.use (l1Signed_sw h hb) ?_
      (try simp (maxSteps := 1000000) (disch := first | assumption | (apply Ne.symm; assumption)) only [vz, vu, vv, eqS, eqFieldsV, ↓condV_t, ↓condV_f, tabs, reduceCtorEq, Array.toList, ↓reduceIte, Nat.reduceAdd, Nat.reduceLeDiff, Nat.reduceLT, Nat.reduceMul, Nat.reduceSub, Int.reduceToNat, Int.reduceSub, Int.reduceAdd, Int.reduceNeg])
      refine Pu.use (l2Bool_spec _) ⟨?_, Heap.le_refl _⟩
      have e : ap w 16 a b = if sgn w a < sgn w b then 1 else 0 := rfl
      rw [e, ite_dec]
  · refine W58_ok ?_; simp (maxSteps := 1000000) (disch := first | assumption | (apply Ne.symm; assumption)) only [W58, vz, vu, vv, eqS, eqFieldsV, ↓condV_t, ↓condV_f, tabs, reduceCtorEq, Array.toList, ↓reduceIte, Nat.reduceAdd, Nat.reduceLeDiff, Nat.reduceLT, Nat.reduceMul, Nat.reduceSub, Int.reduceToNat, Int.reduceSub, Int.reduceAdd, Int.reduceNeg, J58_0, J58_1, Int.reduceEq]
    refine Pu.use (DivWord_ref h ha hb) ?_
    (try simp (maxSteps := 1000000) (disch := first | assumption | (apply Ne.symm; assumption)) only [vz, vu, vv, eqS, eqFieldsV, ↓condV_t, ↓condV_f, tabs, reduceCtorEq, Array.toList, ↓reduceIte, Nat.reduceAdd, Nat.reduceLeDiff, Nat.reduceLT, Nat.reduceMul, Nat.reduceSub, Int.reduceToNat, Int.reduceSub, Int.reduceAdd, Int.reduceNeg, J58_0, J58_1, Int.reduceEq])
    rw [(bitsU a b (by omega) (by omega)).1]; rfl
  · refine W58_ok ?_; simp (maxSteps := 1000000) (disch := first | assumption | (apply Ne.symm; assumption)) only [W58, vz, vu, vv, eqS, eqFieldsV, ↓condV_t, ↓condV_f, tabs, reduceCtorEq, Array.toList, ↓reduceIte, Nat.reduceAdd, Nat.reduceLeDiff, Nat.reduceLT, Nat.reduceMul, Nat.reduceSub, Int.reduceToNat, Int.reduceSub, Int.reduceAdd, Int.reduceNeg, J58_0, J58_1, Int.reduceEq]
    refine Pu.use (DivWord_ref h ha hb) ?_
    (try simp (maxSteps := 1000000) (disch := first | assumption | (apply Ne.symm; assumption)) only [vz, vu, vv, eqS, eqFieldsV, ↓condV_t, ↓condV_f, tabs, reduceCtorEq, Array.toList, ↓reduceIte, Nat.reduceAdd, Nat.reduceLeDiff, Nat.reduceLT, Nat.reduceMul, Nat.reduceSub, Int.reduceToNat, Int.reduceSub, Int.reduceAdd, Int.reduceNeg, J58_0, J58_1, Int.reduceEq])
    rw [(bitsU a b (by omega) (by omega)).2]; rfl
end Go.Proofs.Ytgcklgeifdefhaa
/- Specs: values of terms, in the program (by a pile) and in the reference (by trees). -/
namespace Go.Proofs.Ytgcklgeifdefhaa
open Go Go.Sep Go.Pt
set_option linter.unusedSimpArgs false
set_option linter.unusedVariables false
attribute [local irreducible] CallT

abbrev eW (a : Nat) : List PV := [.int .u64 a]
abbrev fW (a : Nat) : PV := .int .u64 a
abbrev Ws (s : List Nat) : AV := .p (.sl (s.map eW))

/-! ### The reference -/
theorem l2From_of (t : List Nd) (hl : t.length ≤ 1048576) (k : Nat) (hk : k < t.length) (fs : Nat → Nat) (h0 : fs 0 = k)
    (hs : ∀ j, j < many (t.getD k default).op → 1 ≤ fs j ∧ fs j ≤ k ∧ Pu Try.prog 59 [Ns t, I ((fs j - 1 : Nat) : Int)] (I (fs (j + 1)))) : Pu Try.prog 59 [Ns t, I k] (I (fs (many (t.getD k default).op))) := by
  refine Pu.of fun H => ?_
  refine W59_ok ?_; simp (maxSteps := 1000000) (disch := first | assumption | (apply Ne.symm; assumption)) only [W59, vz, vu, vv, eqS, eqFieldsV, ↓condV_t, ↓condV_f, tabs, reduceCtorEq, Array.toList, ↓reduceIte, Nat.reduceAdd, Nat.reduceLeDiff, Nat.reduceLT, Nat.reduceMul, Nat.reduceSub, Int.reduceToNat, Int.reduceSub, Int.reduceAdd, Int.reduceNeg]
  refine ⟨by omega, by omega, ?_⟩
  refine l2Need_spec _ fun pp hpp => ?_
  (try simp (maxSteps := 1000000) (disch := first | assumption | (apply Ne.symm; assumption)) only [vz, vu, vv, eqS, eqFieldsV, ↓condV_t, ↓condV_f, tabs, reduceCtorEq, Array.toList, ↓reduceIte, Nat.reduceAdd, Nat.reduceLeDiff, Nat.reduceLT, Nat.reduceMul, Nat.reduceSub, Int.reduceToNat, Int.reduceSub, Int.reduceAdd, Int.reduceNeg])
  have hml := many_le (t.getD k default).op
  generalize many (t.getD k default).op = m at hs hml ⊢
  refine L59_0_rule (0 : Nat) (fun j => I ((m - j : Nat) : Int)) (fun j => I (fs j)) (fun _ => H) (fun j => j ≤ m) (fun j => m - j) ⟨by omega, .refl _, by rw [h0]; exact .refl _, Heap.le_refl _⟩ ?_
  intro j hj
  (try simp (maxSteps := 1000000) (disch := first | assumption | (apply Ne.symm; assumption)) only [vz, vu, vv, eqS, eqFieldsV, ↓condV_t, ↓condV_f, tabs, reduceCtorEq, Array.toList, ↓reduceIte, Nat.reduceAdd, Nat.reduceLeDiff, Nat.reduceLT, Nat.reduceMul, Nat.reduceSub, Int.reduceToNat, Int.reduceSub, Int.reduceAdd, Int.reduceNeg, B59_0])
  refine ⟨fun h1 => ?_, fun h1 => ?_⟩
  · obtain ⟨h2, h3, h4⟩ := hs j (by omega)
    have e : IntKind.i64.wrap ((fs j : Int) - 1) = ((fs j - 1 : Nat) : Int) := by rw [i64_id (by omega) (by omega)]; omega
    rw [e]
    refine Pu.use h4 ?_
    (try simp (maxSteps := 1000000) (disch := first | assumption | (apply Ne.symm; assumption)) only [vz, vu, vv, eqS, eqFieldsV, ↓condV_t, ↓condV_f, tabs, reduceCtorEq, Array.toList, ↓reduceIte, Nat.reduceAdd, Nat.reduceLeDiff, Nat.reduceLT, Nat.reduceMul, Nat.reduceSub, Int.reduceToNat, Int.reduceSub, Int.reduceAdd, Int.reduceNeg])
    refine ⟨j + 1, by omega, by omega, ?_, .refl _⟩
    rw [wk_int, i64_id (by omega) (by omega)]; omega
  · have : j = m := by omega
    subst this; rfl
theorem l2From_tr {w : Nat} {t : List Nd} {s : List Nat} (hl : t.length ≤ 1048576) {k f : Nat} {kd : Int} {a : Nat} (h : Tr w t s k f kd a) : Pu Try.prog 59 [Ns t, I k] (I f) := by
  induction h with
  | leaf k hk h0 ho hv =>
    have := l2From_of t hl k hk (fun _ => k) rfl fun j hj => by omega
    exact this
  | one k f a hk h1 h ih =>
    have := l2From_of t hl (k + 1) hk (fun j => if j = 0 then k + 1 else f) rfl fun j hj => by
      have : j = 0 := by omega
      subst this
      exact ⟨by simp, by simp, by simpa using ih⟩
    rw [h1] at this
    simpa using this
  | two k f g a b hk h2 hb ha ihb iha =>
    have hlt := hb.lt
    have := l2From_of t hl (k + 1) hk (fun j => if j = 0 then k + 1 else if j = 1 then f + 1 else g) rfl fun j hj => by
      have : j = 0 ∨ j = 1 := by omega
      rcases this with rfl | rfl
      · exact ⟨by simp, by simp, by simpa using ihb⟩
      · exact ⟨by simp, by simp; omega, by simpa using iha⟩
    rw [h2] at this
    simpa using this

theorem un_flip {w a : Nat} (h : sw w) (ha : a < 2 ^ w) : (18446744073709551615 - a) % 2 ^ w = 2 ^ w - 1 - a :=
  (by decide +kernel : ∀ w : Nat, w < 6 → ∀ a : Nat, a < 32 → a < 2 ^ w → (18446744073709551615 - a) % 2 ^ w = 2 ^ w - 1 - a) w (by have := h.2; omega) a (by have := pow5 h; omega) ha
theorem xorAll {a : Nat} (ha : a < 1000) : bitsI BinOp.xor IntKind.u64 (if IntKind.u64.signed = true then -1 else IntKind.u64.max) (a : Int) = ((18446744073709551615 - a : Nat) : Int) :=
  (by decide +kernel : ∀ a : Nat, a < 1000 → bitsI BinOp.xor IntKind.u64 (if IntKind.u64.signed = true then -1 else IntKind.u64.max) (a : Int) = ((18446744073709551615 - a : Nat) : Int)) a ha

theorem l2Value_tr {w : Nat} {t : List Nd} {s : List Nat} (h : sw w) (hl : t.length ≤ 1048576) (hx : ∀ x ∈ t, okN x) (hs : ∀ x ∈ t, x.op = 2 → x.n < s.length) {k f : Nat} {kd : Int} {a : Nat} (ht : Tr w t s k f kd a) : Pu Try.prog 39 [I w, Ns t, I k, Ws s] (U a) := by
  have hp := pow5 h
  induction ht with
  | leaf k hk h0 ho hv =>
    have hm : t.getD k default ∈ t := getD_all (p := fun x => x ∈ t) (fun _ h => h) hk
    have hxk := hx _ hm
    have hsk := hs _ hm
    refine Pu.of fun H => ?_
    refine W39_ok ?_; simp (maxSteps := 1000000) (disch := first | assumption | (apply Ne.symm; assumption)) only [W39, vz, vu, vv, eqS, eqFieldsV, ↓condV_t, ↓condV_f, tabs, reduceCtorEq, Array.toList, ↓reduceIte, Nat.reduceAdd, Nat.reduceLeDiff, Nat.reduceLT, Nat.reduceMul, Nat.reduceSub, Int.reduceToNat, Int.reduceSub, Int.reduceAdd, Int.reduceNeg]
    refine ⟨by omega, by omega, ?_⟩
    intro r hr
    generalize t.getD k default = x at *
    refine l2Need_spec _ fun pp hpp => ?_
    (try simp (maxSteps := 1000000) (disch := first | assumption | (apply Ne.symm; assumption)) only [vz, vu, vv, eqS, eqFieldsV, ↓condV_t, ↓condV_f, tabs, reduceCtorEq, Array.toList, ↓reduceIte, Nat.reduceAdd, Nat.reduceLeDiff, Nat.reduceLT, Nat.reduceMul, Nat.reduceSub, Int.reduceToNat, Int.reduceSub, Int.reduceAdd, Int.reduceNeg, h0])
    refine ⟨fun h1 => ⟨hxk.1, hsk h1, ?_, Heap.le_set hr⟩, fun h1 => ⟨fun _ => ⟨?_, Heap.le_set hr⟩, fun h => absurd rfl h⟩⟩
    · unfold leafV; rw [if_pos h1]; rfl
    · unfold leafV; rw [if_neg h1, Int.toNat_of_nonneg hxk.1]
  | one k f a hk h1 htr ih =>
    have hok := htr.okV h.1
    refine Pu.of fun H => ?_
    refine W39_ok ?_; simp (maxSteps := 1000000) (disch := first | assumption | (apply Ne.symm; assumption)) only [W39, vz, vu, vv, eqS, eqFieldsV, ↓condV_t, ↓condV_f, tabs, reduceCtorEq, Array.toList, ↓reduceIte, Nat.reduceAdd, Nat.reduceLeDiff, Nat.reduceLT, Nat.reduceMul, Nat.reduceSub, Int.reduceToNat, Int.reduceSub, Int.reduceAdd, Int.reduceNeg]
    refine ⟨by omega, by omega, ?_⟩
    intro r hr
    have e1 : IntKind.i64.wrap (((k + 1 : Nat) : Int) - 1) = k := by rw [i64_id (by omega) (by omega)]; omega
    generalize t.getD (k + 1) default = x at *
    have h13 := many1 h1
    have hlt : Heap.le H (H.set r [AV.p (PV.int IntKind.i64 x.op), AV.p (PV.int IntKind.u64 x.n)]) := Heap.le_set hr
    refine l2Need_spec _ fun pp hpp => ?_
    (try simp (maxSteps := 1000000) (disch := first | assumption | (apply Ne.symm; assumption)) only [vz, vu, vv, eqS, eqFieldsV, ↓condV_t, ↓condV_f, tabs, reduceCtorEq, Array.toList, ↓reduceIte, Nat.reduceAdd, Nat.reduceLeDiff, Nat.reduceLT, Nat.reduceMul, Nat.reduceSub, Int.reduceToNat, Int.reduceSub, Int.reduceAdd, Int.reduceNeg, h1, e1])
    refine ⟨fun h2 => by omega, fun _ => ⟨fun h2 => by omega, fun _ => ⟨fun h2 => ?_, fun h2 => ⟨fun h3 => ?_, fun h3 => by omega⟩⟩⟩⟩
    · have hb := hok.1
      refine Pu.use ih ?_
      (try simp (maxSteps := 1000000) (disch := first | assumption | (apply Ne.symm; assumption)) only [vz, vu, vv, eqS, eqFieldsV, ↓condV_t, ↓condV_f, tabs, reduceCtorEq, Array.toList, ↓reduceIte, Nat.reduceAdd, Nat.reduceLeDiff, Nat.reduceLT, Nat.reduceMul, Nat.reduceSub, Int.reduceToNat, Int.reduceSub, Int.reduceAdd, Int.reduceNeg])
      rw [xorAll (by omega)]
      refine Pu.use (l1Cut_sw h (by omega)) ⟨?_, hlt⟩
      rw [un_flip h hb, un, if_pos h2]
    · have hb : a ≤ 1 := hok.2 (by rw [h3]; decide)
      refine Pu.use ih ?_
      (try simp (maxSteps := 1000000) (disch := first | assumption | (apply Ne.symm; assumption)) only [vz, vu, vv, eqS, eqFieldsV, ↓condV_t, ↓condV_f, tabs, reduceCtorEq, Array.toList, ↓reduceIte, Nat.reduceAdd, Nat.reduceLeDiff, Nat.reduceLT, Nat.reduceMul, Nat.reduceSub, Int.reduceToNat, Int.reduceSub, Int.reduceAdd, Int.reduceNeg])
      have e2 : (1 : Int) - (a : Int) = ((1 - a : Nat) : Int) := by omega
      rw [e2, wU (by omega), un, if_neg h2]
      exact ⟨rfl, hlt⟩
  | two k f g a b hk h2 hb ha ihb iha =>
    have hoka := ha.okV h.1
    have hokb := hb.okV h.1
    have hblt := hb.lt
    refine Pu.of fun H => ?_
    refine W39_ok ?_; simp (maxSteps := 1000000) (disch := first | assumption | (apply Ne.symm; assumption)) only [W39, vz, vu, vv, eqS, eqFieldsV, ↓condV_t, ↓condV_f, tabs, reduceCtorEq, Array.toList, ↓reduceIte, Nat.reduceAdd, Nat.reduceLeDiff, Nat.reduceLT, Nat.reduceMul, Nat.reduceSub, Int.reduceToNat, Int.reduceSub, Int.reduceAdd, Int.reduceNeg]
    refine ⟨by omega, by omega, ?_⟩
    intro r hr
    have e1 : IntKind.i64.wrap (((k + 1 : Nat) : Int) - 1) = k := by rw [i64_id (by omega) (by omega)]; omega
    have e2 : IntKind.i64.wrap (((f + 1 : Nat) : Int) - 1) = f := by rw [i64_id (by omega) (by omega)]; omega
    have hfr := l2From_tr hl hb
    generalize t.getD (k + 1) default = x at *
    have h13 := many2 h2
    have hlt : Heap.le H (H.set r [AV.p (PV.int IntKind.i64 x.op), AV.p (PV.int IntKind.u64 x.n)]) := Heap.le_set hr
    refine l2Need_spec _ fun pp hpp => ?_
    (try simp (maxSteps := 1000000) (disch := first | assumption | (apply Ne.symm; assumption)) only [vz, vu, vv, eqS, eqFieldsV, ↓condV_t, ↓condV_f, tabs, reduceCtorEq, Array.toList, ↓reduceIte, Nat.reduceAdd, Nat.reduceLeDiff, Nat.reduceLT, Nat.reduceMul, Nat.reduceSub, Int.reduceToNat, Int.reduceSub, Int.reduceAdd, Int.reduceNeg, h2, e1])
    refine ⟨fun h3 => by omega, fun _ => ⟨fun h3 => by omega, fun _ => ⟨fun h3 => by omega, fun _ => ⟨fun h3 => by omega, fun _ => ?_⟩⟩⟩⟩
    refine Pu.use hfr ?_
    (try simp (maxSteps := 1000000) (disch := first | assumption | (apply Ne.symm; assumption)) only [vz, vu, vv, eqS, eqFieldsV, ↓condV_t, ↓condV_f, tabs, reduceCtorEq, Array.toList, ↓reduceIte, Nat.reduceAdd, Nat.reduceLeDiff, Nat.reduceLT, Nat.reduceMul, Nat.reduceSub, Int.reduceToNat, Int.reduceSub, Int.reduceAdd, Int.reduceNeg, e2])
    refine Pu.use iha ?_
    (try simp (maxSteps := 1000000) (disch := first | assumption | (apply Ne.symm; assumption)) only [vz, vu, vv, eqS, eqFieldsV, ↓condV_t, ↓condV_f, tabs, reduceCtorEq, Array.toList, ↓reduceIte, Nat.reduceAdd, Nat.reduceLeDiff, Nat.reduceLT, Nat.reduceMul, Nat.reduceSub, Int.reduceToNat, Int.reduceSub, Int.reduceAdd, Int.reduceNeg])
    refine Pu.use ihb ?_
    (try simp (maxSteps := 1000000) (disch := first | assumption | (apply Ne.symm; assumption)) only [vz, vu, vv, eqS, eqFieldsV, ↓condV_t, ↓condV_f, tabs, reduceCtorEq, Array.toList, ↓reduceIte, Nat.reduceAdd, Nat.reduceLeDiff, Nat.reduceLT, Nat.reduceMul, Nat.reduceSub, Int.reduceToNat, Int.reduceSub, Int.reduceAdd, Int.reduceNeg])
    exact Pu.use (l2Do_sw h h2 hoka.1 hokb.1) ⟨rfl, hlt⟩

/-! ### The program -/
theorem valueOf_spec {w v : Nat} {t : List Nd} {s : List Nat} {kd : Int} (h : sw w) (hl : t.length ≤ 1048576) (hx : ∀ x ∈ t, okN x) (hs : s.length = v) (hsw : ∀ a ∈ s, a < 2 ^ w) (hk0 : kd ≠ 0) (hk : kind w v t = kd) :
    Pu Try.prog 48 [I w, Ns t, Ws s] (U (tval w t s)) := by
  have hp := pow5 h
  obtain ⟨-, ht1, ht2, htr, hst, hend⟩ := kind_tree hs hsw (fun x hm => (hx x hm).1) hk0 hk
  refine Pu.of fun H => ?_
  refine W48_ok ?_; simp (maxSteps := 1000000) (disch := first | assumption | (apply Ne.symm; assumption)) only [W48, vz, vu, vv, eqS, eqFieldsV, ↓condV_t, ↓condV_f, tabs, reduceCtorEq, Array.toList, ↓reduceIte, Nat.reduceAdd, Nat.reduceLeDiff, Nat.reduceLT, Nat.reduceMul, Nat.reduceSub, Int.reduceToNat, Int.reduceSub, Int.reduceAdd, Int.reduceNeg, buildSliceV, zerosA, List.replicate_zero, List.flatten_nil]
  intro q0 hq0
  refine wkK.keep ?_
  (try simp (maxSteps := 1000000) (disch := first | assumption | (apply Ne.symm; assumption)) only [vz, vu, vv, eqS, eqFieldsV, ↓condV_t, ↓condV_f, tabs, reduceCtorEq, Array.toList, ↓reduceIte, Nat.reduceAdd, Nat.reduceLeDiff, Nat.reduceLT, Nat.reduceMul, Nat.reduceSub, Int.reduceToNat, Int.reduceSub, Int.reduceAdd, Int.reduceNeg])
  refine L48_0_rule ((0 : Nat), q0, ([] : List Nat)) (fun z => rowP z.2.1 z.2.2) (fun z => I z.1) (fun z => H.set z.2.1 (cP fW z.2.2)) (fun z => z.1 ≤ t.length ∧ z.2.2 = pileV w s t z.1 ∧ H z.2.1 = none) (fun z => t.length - z.1)
    ⟨⟨by simp, by simp [pileV], hq0⟩, .refl _, .refl _, Heap.le_refl _⟩ ?_
  rintro ⟨i, q, vs⟩ ⟨hi, hvs, hq⟩
  dsimp only at hi hvs hq
  obtain ⟨p, hsk, hstep⟩ := hst i hi
  rw [← hvs] at hsk
  have hlen := hsk.len
  (try simp (maxSteps := 1000000) (disch := first | assumption | (apply Ne.symm; assumption)) only [vz, vu, vv, eqS, eqFieldsV, ↓condV_t, ↓condV_f, tabs, reduceCtorEq, Array.toList, ↓reduceIte, Nat.reduceAdd, Nat.reduceLeDiff, Nat.reduceLT, Nat.reduceMul, Nat.reduceSub, Int.reduceToNat, Int.reduceSub, Int.reduceAdd, Int.reduceNeg, B48_0])
  refine ⟨fun h1 => ⟨by omega, h1, ?_⟩, fun h1 => ?_⟩
  · have hlt : i < t.length := by omega
    obtain ⟨p', hp'⟩ := hstep hlt
    have hm : t.getD i default ∈ t := getD_all (p := fun x => x ∈ t) (fun _ h => h) hlt
    have hxk := hx _ hm
    have hsucc := pileV_succ (w := w) (s := s) hlt
    rw [← hvs] at hsucc
    generalize t.getD i default = x at *
    intro r9 n9 hr9
    obtain ⟨ho, hlf, hmp, hkp, -⟩ := step_inv hp'
    have hvl : vs.length ≤ 1048576 := by
      have := hsk.bound
      omega
    have hokv := hsk.okV h.1
    have nn9 : q ≠ r9 := Ne.symm n9
    have hqG : ∀ z, ((H.set q (cP fW vs)).set r9 z) q = some (cP fW vs) := fun z => by rw [Heap.set_other nn9, Heap.set_same]
    have hle9 : ∀ z, Heap.le H ((H.set q (cP fW vs)).set r9 z) := fun z => Heap.le_setN (Heap.le_set hq) hr9
    have e5 : IntKind.i64.wrap ((i : Int) + 1) = ((i + 1 : Nat) : Int) := by rw [i64_id (by omega) (by omega)]; simp
    have e6 : 1 ≤ vs.length → IntKind.i64.wrap ((vs.length : Int) - 1) = ((vs.length - 1 : Nat) : Int) := fun h => by rw [i64_id (by omega) (by omega)]; omega
    have e7 : 2 ≤ vs.length → IntKind.i64.wrap (((vs.length - 1 : Nat) : Int) - 1) = ((vs.length - 2 : Nat) : Int) := fun h => by rw [i64_id (by omega) (by omega)]; omega
    rcases many_cases x.op with hm0 | hm1 | hm2
    · have hop := many0 hm0 ho
      have hpush : ∀ a : Nat, leafV s x = a → ∀ z, Heap.le H ((H.set q (cP fW vs)).set r9 z) → buildSliceV tab 50 1 [(0, U a)] ((H.set q (cP fW vs)).set r9 z) (wkK fun v48 H4 => appendV tab 50 50 (rowP q vs) v48 H4
          (wkK fun v49 H5 => ∃ s' : Nat × Nat × List Nat, (s'.fst ≤ t.length ∧ s'.snd.snd = pileV w s t s'.fst ∧ H s'.snd.fst = none) ∧ t.length - s'.fst < t.length - i ∧ v49.wk (rowP s'.snd.fst s'.snd.snd) ∧ (I ((i + 1 : Nat) : Int)).wk (I s'.fst) ∧ (H.set s'.snd.fst (cP fW s'.snd.snd)).le H5)) := by
        intro a ha z hz
        refine lit1 tab_50 rfl tab_52 ⟨rfl, rfl⟩ ?_
        refine app_row (f := fW) (xs := vs) (ys := [a]) tab_50 rfl tab_52 rfl (by decide) (hqG z) (by simp; omega) fun q' hq' => ?_
        refine ⟨(i + 1, q', vs ++ [a]), ⟨by simp only; omega, ?_, ?_⟩, by simp only; omega, .refl _, .refl _, ?_⟩
        · rw [hsucc, stepV, if_pos hm0, ha]
        · simp only [Heap.set_none] at hq'
          exact hq'.2.2
        · simp only [Heap.set_none] at hq'
          obtain ⟨p1, p2, p3⟩ := hq'
          generalize cP fW (vs ++ [a]) = zz
          (intro y b hy; simp only [Heap.set, Heap.del] at hy ⊢; (repeat' split at hy) <;> (repeat' split) <;> simp_all [cells])
      rcases hop with h1 | h1 | h1
      · (try simp (maxSteps := 1000000) (disch := first | assumption | (apply Ne.symm; assumption)) only [vz, vu, vv, eqS, eqFieldsV, ↓condV_t, ↓condV_f, tabs, reduceCtorEq, Array.toList, ↓reduceIte, Nat.reduceAdd, Nat.reduceLeDiff, Nat.reduceLT, Nat.reduceMul, Nat.reduceSub, Int.reduceToNat, Int.reduceSub, Int.reduceAdd, Int.reduceNeg, J48_1, e5, h1, Int.reduceEq])
        have := hpush x.n.toNat (by unfold leafV; rw [if_neg (by omega)]) [AV.p (PV.int IntKind.i64 1), AV.p (PV.int IntKind.u64 x.n)] (hle9 _)
        rw [Int.toNat_of_nonneg hxk.1] at this
        exact this
      · (try simp (maxSteps := 1000000) (disch := first | assumption | (apply Ne.symm; assumption)) only [vz, vu, vv, eqS, eqFieldsV, ↓condV_t, ↓condV_f, tabs, reduceCtorEq, Array.toList, ↓reduceIte, Nat.reduceAdd, Nat.reduceLeDiff, Nat.reduceLT, Nat.reduceMul, Nat.reduceSub, Int.reduceToNat, Int.reduceSub, Int.reduceAdd, Int.reduceNeg, J48_1, e5, h1, Int.reduceEq])
        have hlt2 : x.n < s.length := by
          unfold leafOk at hlf
          rw [if_neg (by omega), if_pos h1] at hlf
          have := of_decide_eq_true hlf
          omega
        exact ⟨hxk.1, hlt2, hpush (s.getD x.n.toNat default) (by unfold leafV; rw [if_pos h1]; rfl) _ (hle9 _)⟩
      · (try simp (maxSteps := 1000000) (disch := first | assumption | (apply Ne.symm; assumption)) only [vz, vu, vv, eqS, eqFieldsV, ↓condV_t, ↓condV_f, tabs, reduceCtorEq, Array.toList, ↓reduceIte, Nat.reduceAdd, Nat.reduceLeDiff, Nat.reduceLT, Nat.reduceMul, Nat.reduceSub, Int.reduceToNat, Int.reduceSub, Int.reduceAdd, Int.reduceNeg, J48_1, e5, h1, Int.reduceEq])
        have := hpush x.n.toNat (by unfold leafV; rw [if_neg (by omega)]) [AV.p (PV.int IntKind.i64 20), AV.p (PV.int IntKind.u64 x.n)] (hle9 _)
        rw [Int.toNat_of_nonneg hxk.1] at this
        exact this
    · have h13 := many1 hm1
      have hl1 : vs.length - 1 < vs.length := by omega
      have hrd := read_row (f := fW) (xs := vs) (k := vs.length - 1) 0 hl1
      have ho1 := hokv (vs.length - 1) hl1
      have hkd : p.getD (vs.length - 1) 0 = Pt.part x.op := by
        refine hkp _ ?_
        rw [hm1, ← hlen, getD_lt (by omega), List.mem_iff_getElem]
        exact ⟨0, by simp; omega, by rw [List.getElem_drop]; congr 1⟩
      rw [hkd] at ho1
      have hset : ∀ a, List.take (vs.length - 1) (cP fW vs) ++ [AV.p (fW a)] ++ List.drop (vs.length - 1 + 1) (cP fW vs) = cP fW (vs.take (vs.length - 1) ++ [a]) := by
        intro a
        have h2 : vs.length - 1 + 1 = vs.length := by omega
        rw [h2, List.drop_of_length_le (by simp), List.append_nil]
        simp [cP, List.map_take]
      generalize hrg : vs.getD (vs.length - 1) 0 = a at *
      have hwrap : ∀ a' : Nat, un w x.op a = a' → ∀ z, Heap.le H ((H.set q (cP fW vs)).set r9 z) → ∃ s' : Nat × Nat × List Nat, (s'.fst ≤ t.length ∧ s'.snd.snd = pileV w s t s'.fst ∧ H s'.snd.fst = none) ∧ t.length - s'.fst < t.length - i ∧ (rowP q vs).wk (rowP s'.snd.fst s'.snd.snd) ∧ (I ((i + 1 : Nat) : Int)).wk (I s'.fst) ∧ (H.set s'.snd.fst (cP fW s'.snd.snd)).le ((H.set q (cP fW (vs.take (vs.length - 1) ++ [a']))).set r9 z) := by
        intro a' ha' z hz
        refine ⟨(i + 1, q, vs.take (vs.length - 1) ++ [a']), ⟨by simp only; omega, ?_, hq⟩, by simp only; omega, ?_, .refl _, ?_⟩
        · rw [hsucc, stepV, if_neg (by omega), if_pos hm1, hrg, ha']
        · have : (vs.take (vs.length - 1) ++ [a']).length = vs.length := by simp; omega
          simp only [rowP, this]; exact .refl _
        · exact Heap.le_set (by rw [Heap.set_other (Ne.symm nn9)]; exact hr9)
      rcases h13 with h1 | h1
      · (try simp (maxSteps := 1000000) (disch := first | assumption | (apply Ne.symm; assumption)) only [vz, vu, vv, eqS, eqFieldsV, ↓condV_t, ↓condV_f, tabs, reduceCtorEq, Array.toList, ↓reduceIte, Nat.reduceAdd, Nat.reduceLeDiff, Nat.reduceLT, Nat.reduceMul, Nat.reduceSub, Int.reduceToNat, Int.reduceSub, Int.reduceAdd, Int.reduceNeg, J48_1, e5, e6 (by omega), h1, Int.reduceEq, hrd, Nat.mul_one])
        refine ⟨by omega, by omega, by omega, ?_⟩
        have hb := ho1.1
        rw [xorAll (by omega)]
        refine Pu.use (mask_sw h) ?_
        (try simp (maxSteps := 1000000) (disch := first | assumption | (apply Ne.symm; assumption)) only [vz, vu, vv, eqS, eqFieldsV, ↓condV_t, ↓condV_f, tabs, reduceCtorEq, Array.toList, ↓reduceIte, Nat.reduceAdd, Nat.reduceLeDiff, Nat.reduceLT, Nat.reduceMul, Nat.reduceSub, Int.reduceToNat, Int.reduceSub, Int.reduceAdd, Int.reduceNeg, load_at (hqG _), hrd, Nat.mul_one])
        rw [and_mask (by omega) h, un_flip h hb]
        refine ⟨by omega, by omega, by omega, by omega, ?_⟩
        rw [hset]
        exact hwrap (2 ^ w - 1 - a) (by rw [un, if_pos h1]) _ (hle9 _)
      · (try simp (maxSteps := 1000000) (disch := first | assumption | (apply Ne.symm; assumption)) only [vz, vu, vv, eqS, eqFieldsV, ↓condV_t, ↓condV_f, tabs, reduceCtorEq, Array.toList, ↓reduceIte, Nat.reduceAdd, Nat.reduceLeDiff, Nat.reduceLT, Nat.reduceMul, Nat.reduceSub, Int.reduceToNat, Int.reduceSub, Int.reduceAdd, Int.reduceNeg, J48_1, e5, e6 (by omega), h1, Int.reduceEq, hrd, Nat.mul_one])
        have hb : a ≤ 1 := ho1.2 (by rw [h1]; decide)
        have e2 : (1 : Int) - (a : Int) = ((1 - a : Nat) : Int) := by omega
        rw [e2, wU (by omega)]
        refine ⟨by omega, by omega, by omega, by omega, by omega, by omega, ?_⟩
        rw [hset]
        exact hwrap (1 - a) (by rw [un, if_neg (by omega)]) _ (hle9 _)
    · have h13 := many2 hm2
      have hl1 : vs.length - 1 < vs.length := by omega
      have hl2 : vs.length - 2 < vs.length := by omega
      have hrd1 := read_row (f := fW) (xs := vs) (k := vs.length - 1) 0 hl1
      have hrd2 := read_row (f := fW) (xs := vs) (k := vs.length - 2) 0 hl2
      have ho1 := hokv (vs.length - 1) hl1
      have ho2 := hokv (vs.length - 2) hl2
      generalize hg1 : vs.getD (vs.length - 1) 0 = b at *
      generalize hg2 : vs.getD (vs.length - 2) 0 = a at *
      have n1 : ¬ x.op = 1 := by omega
      have n2 : ¬ x.op = 2 := by omega
      have n3 : ¬ x.op = 13 := by omega
      have n4 : ¬ x.op = 19 := by omega
      have n5 : ¬ x.op = 20 := by omega
      (try simp (maxSteps := 1000000) (disch := first | assumption | (apply Ne.symm; assumption)) only [vz, vu, vv, eqS, eqFieldsV, ↓condV_t, ↓condV_f, tabs, reduceCtorEq, Array.toList, ↓reduceIte, Nat.reduceAdd, Nat.reduceLeDiff, Nat.reduceLT, Nat.reduceMul, Nat.reduceSub, Int.reduceToNat, Int.reduceSub, Int.reduceAdd, Int.reduceNeg, J48_1, e5, e6 (by omega), e7 (by omega), hrd1, hrd2, Nat.mul_one, n1, n2, n3, n4, n5])
      have hkd1 : p.getD (vs.length - 1) 0 = Pt.part x.op := by
        refine hkp _ ?_
        rw [hm2, ← hlen, getD_lt (by omega), List.mem_iff_getElem]
        exact ⟨1, by simp; omega, by rw [List.getElem_drop]; congr 1; omega⟩
      have hkd2 : p.getD (vs.length - 2) 0 = Pt.part x.op := by
        refine hkp _ ?_
        rw [hm2, ← hlen, getD_lt (by omega), List.mem_iff_getElem]
        exact ⟨0, by simp; omega, by rw [List.getElem_drop]; congr 1⟩
      rw [hkd1] at ho1
      rw [hkd2] at ho2
      refine ⟨by omega, by omega, by omega, by omega, by omega, by omega, by omega, by omega, by omega, ?_⟩
      refine Pu.use (apply_sw h hm2 ho2.1 ho1.1) ?_
      refine lit1 tab_50 rfl tab_52 ⟨rfl, rfl⟩ ?_
      refine app_prefix (f := fW) (xs := vs) (m := vs.length - 2) (ys := [ap w x.op a b]) tab_50 rfl tab_52 rfl (by decide) (hqG _) (by omega) (by simp; omega) fun q' hq' hne => ?_
      refine ⟨(i + 1, q', vs.take (vs.length - 2) ++ [ap w x.op a b]), ⟨by simp only; omega, ?_, ?_⟩, by simp only; omega, .refl _, .refl _, ?_⟩
      · rw [hsucc, stepV, if_neg (by omega), if_neg (by omega), hg1, hg2]
      · simp only [Heap.set_none] at hq'
        exact hq'.2.2
      · simp only [Heap.set_none] at hq'
        obtain ⟨p1, p2, p3⟩ := hq'
        generalize cP fW (vs.take (vs.length - 2) ++ [ap w x.op a b]) = zz
        (intro y b hy; simp only [Heap.set, Heap.del] at hy ⊢; (repeat' split at hy) <;> (repeat' split) <;> simp_all [cells])
  · have : i = t.length := by omega
    subst this
    have hl1 : vs.length = 1 := by rw [hvs]; exact hend
    have := read_row (f := fW) (xs := vs) (k := 0) 0 (by omega)
    rw [List.drop_zero] at this
    refine ⟨by omega, by omega, by omega, ?_, Heap.le_set hq⟩
    rw [this, tval, ← hvs]
end Go.Proofs.Ytgcklgeifdefhaa
/- Plain facts on rows of numbers: sorted, without doubles. -/
namespace Go.Pt
set_option linter.unusedVariables false

/-- A number put into a rising row. -/
def put (l : List Int) (n : Int) : List Int := if n ∈ l then l else l.takeWhile (· < n) ++ n :: l.dropWhile (· < n)
end Go.Pt
/- Plain facts: states of small programs and their numbers, letters, successors. -/
namespace Go.Pt

def stOf (w v no : Nat) : List Nat := (List.range v).map fun i => no / 2 ^ (w * i) % 2 ^ w
theorem stOf_len (w v no : Nat) : (stOf w v no).length = v := by simp [stOf]
theorem stOf_succ (w v no : Nat) : stOf w (v + 1) no = stOf w v no ++ [no / 2 ^ (w * v) % 2 ^ w] := by simp [stOf, List.range_succ]
theorem stOf_lt (w v no : Nat) : ∀ a ∈ stOf w v no, a < 2 ^ w := by
  intro a ha
  obtain ⟨i, _, rfl⟩ := List.mem_map.1 ha
  exact Nat.mod_lt _ (Nat.two_pow_pos w)

/-- The number of a state. -/
def noOf (w : Nat) : List Nat → Nat
  | [] => 0
  | a :: s => noOf w s * 2 ^ w + a
/-- What a command makes of a state. -/
def aftK (w : Nat) (chs : List Ch) (s : List Nat) : Nat → List Nat
  | 0 => s
  | k + 1 => (aftK w chs s k).set (chs.getD k default).var.toNat (tval w (chs.getD k default).by_ s)
def enP (w : Nat) (s : List Nat) (c : Cm) : Bool := decide (tval w c.when_ s = 1)
def toP (w : Nat) (s : List Nat) (c : Cm) : Nat := noOf w (aftK w c.chs s c.chs.length)
/-- Where the first k commands lead. -/
def steps (p : Pg) (s : List Nat) (k : Nat) : List Int := ((p.cmds.take k).filter (enP p.wide.toNat s)).map fun c => (toP p.wide.toNat s c : Int)
def stP (p : Pg) (no : Nat) : List Nat := stOf p.wide.toNat p.vars.toNat no
def allP (p : Pg) : Nat := 2 ^ (p.wide * p.vars).toNat
def holdP (p : Pg) (t : List Nd) (no : Nat) : Bool := decide (tval p.wide.toNat t (stP p no) = 1)

/-- What a small program is. -/
structure SmallP (p : Pg) : Prop where
  w1 : 1 ≤ p.wide
  v1 : 1 ≤ p.vars
  v4 : p.vars ≤ 4
  wv : p.wide * p.vars ≤ 5
  w5 : p.wide ≤ 5
  start : kind p.wide p.vars p.start = 2
  cl : 1 ≤ p.cmds.length ∧ p.cmds.length ≤ 6
  cmd : ∀ c ∈ p.cmds, goodCm p.wide p.vars c = true
theorem smallP_of {p : Pg} (h : smallP p = true) : SmallP p := by
  simp only [smallP, Bool.and_eq_true, decide_eq_true_eq] at h
  have hr := goodP_rng h.1
  have hg := h.1
  simp only [goodP, Bool.and_eq_true, decide_eq_true_eq, List.all_eq_true] at hg
  have h5 : p.wide ≤ 5 := by
    have h2 := h.2
    obtain hv | hv | hv | hv : p.vars = 1 ∨ p.vars = 2 ∨ p.vars = 3 ∨ p.vars = 4 := by omega
    all_goals (rw [hv] at h2; omega)
  exact ⟨hr.1.1, hr.2.1, hr.2.2, h.2, h5, hg.1.1, hg.1.2, hg.2⟩
theorem SmallP.nat {p : Pg} (h : SmallP p) : ∃ w v : Nat, p.wide = w ∧ p.vars = v ∧ p.wide.toNat = w ∧ p.vars.toNat = v ∧ 1 ≤ w ∧ w ≤ 5 ∧ 1 ≤ v ∧ v ≤ 4 ∧ w * v ≤ 5 := by
  refine ⟨p.wide.toNat, p.vars.toNat, by have := h.w1; omega, by have := h.v1; omega, rfl, rfl, by have := h.w1; omega, by have := h.w5; omega, by have := h.v1; omega, by have := h.v4; omega, ?_⟩
  have h1 := h.wv
  have e1 : (p.wide.toNat : Int) = p.wide := Int.toNat_of_nonneg (by have := h.w1; omega)
  have e2 : (p.vars.toNat : Int) = p.vars := Int.toNat_of_nonneg (by have := h.v1; omega)
  have : ((p.wide.toNat * p.vars.toNat : Nat) : Int) = p.wide * p.vars := by rw [Int.natCast_mul, e1, e2]
  omega
theorem allP_nat {p : Pg} (h : SmallP p) : allP p = 2 ^ (p.wide.toNat * p.vars.toNat) := by
  obtain ⟨w, v, e1, e2, e3, e4, _⟩ := h.nat
  unfold allP
  rw [e3, e4, e1, e2, ← Int.natCast_mul, Int.toNat_natCast]
theorem allP_bd {p : Pg} (h : SmallP p) : 2 ≤ allP p ∧ allP p ≤ 32 := by
  obtain ⟨w, v, e1, e2, e3, e4, h1, h2, h3, h4, h5⟩ := h.nat
  rw [allP_nat h, e3, e4]
  have hpos : 1 ≤ w * v := Nat.mul_le_mul h1 h3
  have a := Nat.pow_le_pow_right (n := 2) (by decide) hpos
  have b := Nat.pow_le_pow_right (n := 2) (by decide) h5
  omega
end Go.Pt
/- Specs: states of small programs; whether a condition holds. -/
namespace Go.Proofs.Ytgcklgeifdefhaa
open Go Go.Sep Go.Pt
set_option linter.unusedSimpArgs false
set_option linter.unusedVariables false
attribute [local irreducible] CallT

theorem sw_of {p : Pg} (h : SmallP p) : sw p.wide.toNat := by
  have := h.w1
  have := h.w5
  unfold sw; omega
theorem push_w {q : Nat} {xs : List Nat} {b : Nat} {G : Heap} {K : AV → Heap → Prop} (hq : G q = some (cP fW xs)) (hl : xs.length ≤ 100000000) (h : ∀ q', G q' = none → q' ≠ q → K (rowP q' (xs ++ [b])) ((G.del q).set q' (cP fW (xs ++ [b])))) :
    buildSliceV tab 50 1 [(0, U b)] G (wkK fun v H1 => appendV tab 50 50 (rowP q xs) v H1 (wkK K)) := by
  refine lit1 tab_50 rfl tab_52 ⟨rfl, rfl⟩ ?_
  refine app_row (f := fW) (ys := [b]) tab_50 rfl tab_52 rfl (by decide) hq (by simp; omega) fun q' hq' => h q' hq' fun e => by rw [e, hq] at hq'; cases hq'
theorem fin_w {q : Nat} {xs : List Nat} {H G : Heap} (hq : H q = none) (hG : Heap.le (H.set q (cP fW xs)) G) : wkK (fun r H' => r = Ws xs ∧ H' = H) (rowP q xs) G := by
  have := fin_own (sz := 1) (es := xs.map eW) (q := q) (H := H) (H' := G) (K := fun r H' => r = Ws xs ∧ H' = H) (by omega) (sized_map (f := eW) (fun _ => rfl) xs) hq (by rw [show cells (xs.map eW) = cP fW xs from cells_P fW xs]; exact hG) ⟨rfl, rfl⟩
  simpa only [Go.Sep.own, List.length_map] using this
theorem and_maskI {x w : Nat} (hx : x < 2 ^ 63) (h : sw w) : bitsI .and .i64 (x : Int) ((2 ^ w - 1 : Nat) : Int) = ((x % 2 ^ w : Nat) : Int) := by
  have hp := pow5 h
  have e : ∀ x : Nat, x < 2 ^ 63 → (BitVec.ofInt IntKind.i64.bits (x : Int)).toNat = x := by
    intro x hx
    have : BitVec.ofInt IntKind.i64.bits (x : Int) = BitVec.ofNat 64 x := by
      apply BitVec.eq_of_toNat_eq; simp [IntKind.bits]
    rw [this]
    show (BitVec.ofNat 64 x).toNat = x
    rw [BitVec.toNat_ofNat, Nat.mod_eq_of_lt (by omega)]
  simp only [bitsI]
  rw [BitVec.toNat_and, e x hx, e _ (by omega), Nat.and_two_pow_sub_one_eq_mod]
  have := Nat.mod_lt x (Nat.two_pow_pos w)
  exact i64_id (by omega) (by omega)
theorem minI {n : Nat} (h : n ≤ 64) : min n IntKind.i64.bits = n := by
  have : IntKind.i64.bits = 64 := rfl
  omega
theorem shr_le {a n : Nat} : a / 2 ^ n ≤ a := Nat.div_le_self _ _
theorem stateOf_spec (p : Pg) (hs : SmallP p) (no : Nat) (hno : no < 2 ^ 40) : Pu Try.prog 29 [aPg p, I no] (Ws (stP p no)) := by
  have hsw := sw_of hs
  obtain ⟨w, v, e1, e2, e3, e4, hw1, hw5, hv1, hv4, hwv⟩ := hs.nat
  rw [e3] at hsw
  refine ⟨fun H => CallT.fin ?_⟩
  refine W29_ok ?_; simp (maxSteps := 1000000) (disch := first | assumption | (apply Ne.symm; assumption)) only [W29, vz, vu, vv, eqS, eqFieldsV, ↓condV_t, ↓condV_f, tabs, reduceCtorEq, Array.toList, ↓reduceIte, Nat.reduceAdd, Nat.reduceLeDiff, Nat.reduceLT, Nat.reduceMul, Nat.reduceSub, Int.reduceToNat, Int.reduceSub, Int.reduceAdd, Int.reduceNeg, buildSliceV, zerosA, List.replicate_zero, List.flatten_nil]
  intro r hr q0 hq0r hq0
  refine wkK.keep ?_
  (try simp (maxSteps := 1000000) (disch := first | assumption | (apply Ne.symm; assumption)) only [vz, vu, vv, eqS, eqFieldsV, ↓condV_t, ↓condV_f, tabs, reduceCtorEq, Array.toList, ↓reduceIte, Nat.reduceAdd, Nat.reduceLeDiff, Nat.reduceLT, Nat.reduceMul, Nat.reduceSub, Int.reduceToNat, Int.reduceSub, Int.reduceAdd, Int.reduceNeg])
  refine L29_0_rule ((0 : Nat), q0) (fun z => rowP z.2 (stOf w z.1 no)) (fun z => I z.1) (fun z => (H.set r [I p.wide, I p.vars, Ns p.start, Cms p.cmds]).set z.2 (cP fW (stOf w z.1 no))) (fun z => z.1 ≤ v ∧ H z.2 = none ∧ z.2 ≠ r) (fun z => v - z.1)
    ⟨⟨by omega, hq0, hq0r⟩, .refl _, .refl _, Heap.le_refl _⟩ ?_
  rintro ⟨i, q⟩ ⟨hi, hq, hqr⟩
  dsimp only at hi hq hqr
  have nn : r ≠ q := Ne.symm hqr
  have hlen := stOf_len w i no
  have hwi : i < v → w * i ≤ 5 := fun h => Nat.le_trans (Nat.mul_le_mul_left w (by omega)) hwv
  (try simp (maxSteps := 1000000) (disch := first | assumption | (apply Ne.symm; assumption)) only [vz, vu, vv, eqS, eqFieldsV, ↓condV_t, ↓condV_f, tabs, reduceCtorEq, Array.toList, ↓reduceIte, Nat.reduceAdd, Nat.reduceLeDiff, Nat.reduceLT, Nat.reduceMul, Nat.reduceSub, Int.reduceToNat, Int.reduceSub, Int.reduceAdd, Int.reduceNeg, B29_0, e1, e2])
  refine ⟨fun h1 => ?_, fun h1 => ?_⟩
  · have hwi := hwi (by omega)
    have e5 : IntKind.i64.wrap ((w : Int) * i) = ((w * i : Nat) : Int) := by rw [← Int.natCast_mul, i64_id (by omega) (by omega)]
    have hn1 := shr_le (a := no) (n := w * i)
    rw [e5, Int.toNat_natCast, minU (by omega), wU (by omega), fdivN]
    refine ⟨by omega, ?_⟩
    refine Pu.use (mask_sw hsw) ?_
    (try simp (maxSteps := 1000000) (disch := first | assumption | (apply Ne.symm; assumption)) only [vz, vu, vv, eqS, eqFieldsV, ↓condV_t, ↓condV_f, tabs, reduceCtorEq, Array.toList, ↓reduceIte, Nat.reduceAdd, Nat.reduceLeDiff, Nat.reduceLT, Nat.reduceMul, Nat.reduceSub, Int.reduceToNat, Int.reduceSub, Int.reduceAdd, Int.reduceNeg])
    rw [and_mask (by omega) hsw]
    refine push_w (by rw [Heap.set_same]) (by omega) fun q' hq' hne => ?_
    simp only [Heap.set_none] at hq'
    obtain ⟨p1, p2, p3⟩ := hq'
    refine ⟨(i + 1, q'), ⟨by simp only; omega, p3, p2⟩, by simp only; omega, ?_, ?_, ?_⟩
    · rw [stOf_succ]; exact .refl _
    · rw [wk_int, i64_id (by omega) (by omega)]; simp
    · rw [stOf_succ]
      generalize cP fW (stOf w i no ++ [no / 2 ^ (w * i) % 2 ^ w]) = zz
      (intro y b hy; simp only [Heap.set, Heap.del] at hy ⊢; (repeat' split at hy) <;> (repeat' split) <;> simp_all [cells])
  · have : i = v := by omega
    subst this
    rw [stP, e3, e4]
    exact fin_w hq (Heap.set_le (Heap.le_set hr))
theorem l7Of_spec (p : Pg) (hs : SmallP p) (no : Nat) (hno : no < 2 ^ 40) : Pu Try.prog 22 [aPg p, I no] (Ws (stP p no)) := by
  have hsw := sw_of hs
  obtain ⟨w, v, e1, e2, e3, e4, hw1, hw5, hv1, hv4, hwv⟩ := hs.nat
  rw [e3] at hsw
  refine ⟨fun H => CallT.fin ?_⟩
  refine CallT.ghost W22_hb fun q0 hq0 => ?_
  refine W22_ok ?_; simp (maxSteps := 1000000) (disch := first | assumption | (apply Ne.symm; assumption)) only [W22, vz, vu, vv, eqS, eqFieldsV, ↓condV_t, ↓condV_f, tabs, reduceCtorEq, Array.toList, ↓reduceIte, Nat.reduceAdd, Nat.reduceLeDiff, Nat.reduceLT, Nat.reduceMul, Nat.reduceSub, Int.reduceToNat, Int.reduceSub, Int.reduceAdd, Int.reduceNeg]
  intro r hrq hr
  refine L22_0_rule ((0 : Nat), q0) (fun z => rowP z.2 (stOf w z.1 no)) (fun z => I z.1) (fun z => (H.set r [I p.wide, I p.vars, Ns p.start, Cms p.cmds]).set z.2 (cP fW (stOf w z.1 no))) (fun z => z.1 ≤ v ∧ H z.2 = none ∧ z.2 ≠ r) (fun z => v - z.1)
    ⟨⟨by omega, hq0, fun e => hrq e.symm⟩, .nilo _ _ _, .refl _, ?_⟩ ?_
  · rw [Heap.set_comm hrq]; exact Heap.le_refl _
  rintro ⟨i, q⟩ ⟨hi, hq, hqr⟩
  dsimp only at hi hq hqr
  have nn : r ≠ q := Ne.symm hqr
  have hlen := stOf_len w i no
  have hwi : i < v → w * i ≤ 5 := fun h => Nat.le_trans (Nat.mul_le_mul_left w (by omega)) hwv
  (try simp (maxSteps := 1000000) (disch := first | assumption | (apply Ne.symm; assumption)) only [vz, vu, vv, eqS, eqFieldsV, ↓condV_t, ↓condV_f, tabs, reduceCtorEq, Array.toList, ↓reduceIte, Nat.reduceAdd, Nat.reduceLeDiff, Nat.reduceLT, Nat.reduceMul, Nat.reduceSub, Int.reduceToNat, Int.reduceSub, Int.reduceAdd, Int.reduceNeg, B22_0, e1, e2])
  refine ⟨fun h1 => ?_, fun h1 => ?_⟩
  · have hwi := hwi (by omega)
    have e5 : IntKind.u64.wrap (IntKind.i64.wrap ((i : Int) * w)) = ((w * i : Nat) : Int) := by rw [← Int.natCast_mul, Nat.mul_comm, i64_id (by omega) (by omega), wU (by omega)]
    have hn1 := shr_le (a := no) (n := w * i)
    have hp := pow5 hsw
    have e6 : IntKind.u64.wrap (w : Int) = w := wU (by omega)
    have e7 : IntKind.i64.wrap (IntKind.i64.wrap (1 * 2 ^ w) - 1) = ((2 ^ w - 1 : Nat) : Int) := by
      have e8 : IntKind.i64.wrap ((2 ^ w : Nat) : Int) = ((2 ^ w : Nat) : Int) := i64_id (by omega) (by omega)
      rw [Int.one_mul, ← powI, e8, i64_id (by omega) (by omega)]; omega
    rw [e5, e6, Int.toNat_natCast, Int.toNat_natCast, minI (by omega), minI (by omega), e7, fdivN, and_maskI (by omega) hsw]
    have hm := Nat.mod_lt (no / 2 ^ (w * i)) (Nat.two_pow_pos w)
    rw [wU (by omega)]
    refine ⟨by omega, by omega, ?_⟩
    refine push_w (by rw [Heap.set_same]) (by omega) fun q' hq' hne => ?_
    simp only [Heap.set_none] at hq'
    obtain ⟨p1, p2, p3⟩ := hq'
    refine ⟨(i + 1, q'), ⟨by simp only; omega, p3, p2⟩, by simp only; omega, ?_, ?_, ?_⟩
    · rw [stOf_succ]; exact .refl _
    · rw [wk_int, i64_id (by omega) (by omega)]; simp
    · rw [stOf_succ]
      generalize cP fW (stOf w i no ++ [no / 2 ^ (w * i) % 2 ^ w]) = zz
      (intro y b hy; simp only [Heap.set, Heap.del] at hy ⊢; (repeat' split at hy) <;> (repeat' split) <;> simp_all [cells])
  · have : i = v := by omega
    subst this
    rw [stP, e3, e4]
    exact fin_w hq (Heap.set_le (Heap.le_set hr))
theorem decN {n : Nat} : AV.p (PV.bool (decide ((n : Int) = 1))) = B (decide (n = 1)) := by
  congr 2
  exact decide_eq_decide.2 (by omega)
theorem stP_len' (p : Pg) (no : Nat) : (stP p no).length = p.vars.toNat := stOf_len _ _ _
theorem stP_lt' (p : Pg) (no : Nat) : ∀ a ∈ stP p no, a < 2 ^ p.wide.toNat := stOf_lt _ _ _
/-- A condition, or a number, of a small program. -/
theorem holds_spec (p : Pg) (hs : SmallP p) (t : List Nd) (ht : vT t) (s : List Nat) (hl : s.length = p.vars.toNat) (hsw : ∀ a ∈ s, a < 2 ^ p.wide.toNat) (hk : kind p.wide p.vars t = 2) : Pu Try.prog 28 [aPg p, Ns t, Ws s] (B (decide (tval p.wide.toNat t s = 1))) := by
  have hsm := sw_of hs
  obtain ⟨w, v, e1, e2, e3, e4, hw1, hw5, hv1, hv4, hwv⟩ := hs.nat
  rw [e3] at hsm hsw ⊢
  rw [e4] at hl
  rw [e1, e2] at hk
  refine Pu.of fun H => ?_
  refine W28_ok ?_; simp (maxSteps := 1000000) (disch := first | assumption | (apply Ne.symm; assumption)) only [W28, vz, vu, vv, eqS, eqFieldsV, ↓condV_t, ↓condV_f, tabs, reduceCtorEq, Array.toList, ↓reduceIte, Nat.reduceAdd, Nat.reduceLeDiff, Nat.reduceLT, Nat.reduceMul, Nat.reduceSub, Int.reduceToNat, Int.reduceSub, Int.reduceAdd, Int.reduceNeg]
  intro r hr
  have := valueOf_spec (kd := 2) hsm ht.1 ht.2 hl hsw (by decide) hk
  rw [e1]
  refine Pu.use this ?_
  (try simp (maxSteps := 1000000) (disch := first | assumption | (apply Ne.symm; assumption)) only [vz, vu, vv, eqS, eqFieldsV, ↓condV_t, ↓condV_f, tabs, reduceCtorEq, Array.toList, ↓reduceIte, Nat.reduceAdd, Nat.reduceLeDiff, Nat.reduceLT, Nat.reduceMul, Nat.reduceSub, Int.reduceToNat, Int.reduceSub, Int.reduceAdd, Int.reduceNeg])
  exact ⟨decN, Heap.le_set hr⟩
theorem l7Holds_spec (p : Pg) (hs : SmallP p) (t : List Nd) (ht : vT t) (s : List Nat) (hl : s.length = p.vars.toNat) (hsw : ∀ a ∈ s, a < 2 ^ p.wide.toNat) (hk : kind p.wide p.vars t = 2) : Pu Try.prog 21 [aPg p, Ns t, Ws s] (B (decide (tval p.wide.toNat t s = 1))) := by
  have hsm := sw_of hs
  obtain ⟨w, v, e1, e2, e3, e4, hw1, hw5, hv1, hv4, hwv⟩ := hs.nat
  rw [e3] at hsm hsw ⊢
  rw [e4] at hl
  rw [e1, e2] at hk
  obtain ⟨_, ht1, ht2, htr, hst, _⟩ := kind_tree hl hsw (fun x hm => (ht.2 x hm).1) (by decide) hk
  refine Pu.of fun H => ?_
  refine W21_ok ?_; simp (maxSteps := 1000000) (disch := first | assumption | (apply Ne.symm; assumption)) only [W21, vz, vu, vv, eqS, eqFieldsV, ↓condV_t, ↓condV_f, tabs, reduceCtorEq, Array.toList, ↓reduceIte, Nat.reduceAdd, Nat.reduceLeDiff, Nat.reduceLT, Nat.reduceMul, Nat.reduceSub, Int.reduceToNat, Int.reduceSub, Int.reduceAdd, Int.reduceNeg]
  intro r hr
  have e : IntKind.i64.wrap ((t.length : Int) - 1) = ((t.length - 1 : Nat) : Int) := by rw [i64_id (by omega) (by omega)]; omega
  rw [e, e1]
  refine Pu.use (l2Value_tr hsm ht.1 ht.2 (fun x hx h2 => by rw [hl]; exact kind_var (by decide) hk x hx h2) htr) ?_
  (try simp (maxSteps := 1000000) (disch := first | assumption | (apply Ne.symm; assumption)) only [vz, vu, vv, eqS, eqFieldsV, ↓condV_t, ↓condV_f, tabs, reduceCtorEq, Array.toList, ↓reduceIte, Nat.reduceAdd, Nat.reduceLeDiff, Nat.reduceLT, Nat.reduceMul, Nat.reduceSub, Int.reduceToNat, Int.reduceSub, Int.reduceAdd, Int.reduceNeg])
  exact ⟨decN, Heap.le_set hr⟩
end Go.Proofs.Ytgcklgeifdefhaa
/- Plain facts on automata. -/
namespace Go.Pt
structure Ed where
  src : Int
  lt : Int
  dst : Int
deriving Inhabited
structure Au where
  states : Int
  first : List Int
  edges : List Ed
  goals : List (List Int)
deriving Inhabited

/-- Rising numbers below a bound. -/
def riseAt (l : List Int) (n : Int) (i : Nat) : Bool := (decide (0 ≤ l.getD i default) && decide (l.getD i default < n)) && (decide (i = 0) || decide (l.getD (i - 1) default < l.getD i default))
def rising (l : List Int) (n : Int) : Bool := (List.range l.length).all (riseAt l n)
end Go.Pt
/- Specs: sizes, copies and comparisons of automata. -/
namespace Go.Proofs.Ytgcklgeifdefhaa
open Go Go.Sep Go.Pt
set_option linter.unusedSimpArgs false
set_option linter.unusedVariables false
attribute [local irreducible] CallT

abbrev eE (x : Ed) : List PV := [.int .i64 x.src, .int .i64 x.lt, .int .i64 x.dst]
abbrev Es (xs : List Ed) : AV := .p (.sl (xs.map eE))
abbrev aAu (a : Au) : AV := .agg [I a.states, Is a.first, Es a.edges, Ls a.goals]
end Go.Proofs.Ytgcklgeifdefhaa
/- Specs: good automata. -/
namespace Go.Proofs.Ytgcklgeifdefhaa
open Go Go.Sep Go.Pt
set_option linter.unusedSimpArgs false
set_option linter.unusedVariables false
attribute [local irreducible] CallT

end Go.Proofs.Ytgcklgeifdefhaa
