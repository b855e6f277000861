/- Specs: commands and programs. -/
import Derived.Test.YtgcklgeifdefhaaGreatLe5
namespace Go.Proofs.YtgcklgeifdefhaaGreat
open Go Go.Sep Go.Pt
set_option linter.unusedSimpArgs false
set_option linter.unusedVariables false
attribute [local irreducible] CallT

def vT (t : List Nd) : Prop := t.length ≤ 1048576 ∧ ∀ x ∈ t, okN x
def vCh (c : Ch) : Prop := vT c.by_
def vCm (c : Cm) : Prop := vT c.when_ ∧ c.chs.length ≤ 1048576 ∧ ∀ x ∈ c.chs, vCh x
def vPg (p : Pg) : Prop := vT p.start ∧ p.cmds.length ≤ 1048576 ∧ ∀ c ∈ p.cmds, vCm c
theorem mul_rng {w v : Int} (hw : 1 ≤ w ∧ w ≤ 64) (hv : 1 ≤ v ∧ v ≤ 4) : 1 ≤ w * v ∧ w * v ≤ 256 := by
  obtain rfl | rfl | rfl | rfl : v = 1 ∨ v = 2 ∨ v = 3 ∨ v = 4 := by omega
  all_goals omega

theorem IndexFuncC_at (xs : List Cm) (g : Nat) (caps : List AV) (p : Cm → Bool) {H : Heap} (hl : xs.length ≤ 1000000000) (hp : ∀ x ∈ xs, PuAt Tryz.prog g (aCm x :: caps) H (B (p x))) :
    PuAt Tryz.prog 168 [Cms xs, .fn g caps] H (I (if xs.any p then (xs.findIdx p : Int) else -1)) := by
  intro K hK
  refine CallT.fin ?_
  refine W168_ok ?_; simp (maxSteps := 1000000) (disch := (first | assumption | (apply Ne.symm; assumption))) only [W168, vw0, vw1, vw2, vw3, vw4, vu0, vu1, ↓condV_t, ↓condV_f, cap_nil, allocV, splice, partV, buildV, eqFieldsV, eqS, tabs, TK.agg, reduceCtorEq, Array.toList, List.map_cons, List.map_nil, ↓reduceIte, List.length_map, Nat.reduceAdd, Nat.reduceLeDiff, Nat.reduceLT, Nat.reduceMul, Nat.reduceSub, Option.bind_some, Option.map_some, bndV, numV, eI, eU, e8, eB, AV.isCell, Int.reduceToNat, Int.reduceSub, Int.reduceAdd, Int.reduceNeg]
  refine L168_0_rule (0 : Nat) (fun i => I i) (fun _ => H) (fun i => i ≤ xs.length ∧ ∀ j (hj : j < xs.length), j < i → p xs[j] = false) (fun i => xs.length - i) ⟨⟨by omega, by intros; omega⟩, .refl _, Heap.le_refl _⟩ ?_
  rintro i ⟨hi1, ha⟩
  (try simp (maxSteps := 1000000) (disch := (first | assumption | (apply Ne.symm; assumption))) only [vw0, vw1, vw2, vw3, vw4, vu0, vu1, ↓condV_t, ↓condV_f, cap_nil, allocV, splice, partV, buildV, eqFieldsV, eqS, tabs, TK.agg, reduceCtorEq, Array.toList, List.map_cons, List.map_nil, ↓reduceIte, List.length_map, Nat.reduceAdd, Nat.reduceLeDiff, Nat.reduceLT, Nat.reduceMul, Nat.reduceSub, Option.bind_some, Option.map_some, bndV, numV, eI, eU, e8, eB, AV.isCell, Int.reduceToNat, Int.reduceSub, Int.reduceAdd, Int.reduceNeg, B168_0])
  refine ⟨fun h => ⟨by omega, h, ?_⟩, fun h => ?_⟩
  · have hlt : i < xs.length := by omega
    rw [getD_lt hlt]
    refine PuAt.use (hp _ (List.getElem_mem hlt)) ?_
    (try simp (maxSteps := 1000000) (disch := (first | assumption | (apply Ne.symm; assumption))) only [vw0, vw1, vw2, vw3, vw4, vu0, vu1, ↓condV_t, ↓condV_f, cap_nil, allocV, splice, partV, buildV, eqFieldsV, eqS, tabs, TK.agg, reduceCtorEq, Array.toList, List.map_cons, List.map_nil, ↓reduceIte, List.length_map, Nat.reduceAdd, Nat.reduceLeDiff, Nat.reduceLT, Nat.reduceMul, Nat.reduceSub, Option.bind_some, Option.map_some, bndV, numV, eI, eU, e8, eB, AV.isCell, Int.reduceToNat, Int.reduceSub, Int.reduceAdd, Int.reduceNeg])
    refine ⟨fun h1 => ?_, fun h1 => ⟨i + 1, ⟨by omega, fun j hj hji => ?_⟩, by omega, ?_⟩⟩
    · have h2 : xs.any p = true := List.any_eq_true.2 ⟨xs[i], List.getElem_mem hlt, h1⟩
      have h3 : xs.findIdx p = i := by
        rw [List.findIdx_eq hlt]; exact ⟨h1, fun j hj => ha j (by omega) hj⟩
      rw [h2, h3] at hK; exact wkK.keep (by simpa using hK)
    · rcases Nat.lt_succ_iff_lt_or_eq.1 hji with h2 | rfl
      · exact ha j hj h2
      · exact h1
    · rw [wk_int, i64_id (by omega) (by omega)]; simp
  · have hi : i = xs.length := by omega
    have h2 : xs.any p = false := by
      rw [List.any_eq_false]
      intro x hx
      obtain ⟨j, hj, rfl⟩ := List.mem_iff_getElem.1 hx
      rw [ha j hj (by omega)]; simp
    rw [h2] at hK; exact wkK.keep (by simpa using hK)

theorem ContainsFuncC_at (xs : List Cm) (g : Nat) (caps : List AV) (p : Cm → Bool) {H : Heap} (hl : xs.length ≤ 1000000000) (hp : ∀ x ∈ xs, PuAt Tryz.prog g (aCm x :: caps) H (B (p x))) :
    PuAt Tryz.prog 131 [Cms xs, .fn g caps] H (B (xs.any p)) := by
  intro K hK
  refine W131_ok ?_; simp (maxSteps := 1000000) (disch := (first | assumption | (apply Ne.symm; assumption))) only [W131, vw0, vw1, vw2, vw3, vw4, vu0, vu1, ↓condV_t, ↓condV_f, cap_nil, allocV, splice, partV, buildV, eqFieldsV, eqS, tabs, TK.agg, reduceCtorEq, Array.toList, List.map_cons, List.map_nil, ↓reduceIte, List.length_map, Nat.reduceAdd, Nat.reduceLeDiff, Nat.reduceLT, Nat.reduceMul, Nat.reduceSub, Option.bind_some, Option.map_some, bndV, numV, eI, eU, e8, eB, AV.isCell, Int.reduceToNat, Int.reduceSub, Int.reduceAdd, Int.reduceNeg]
  refine PuAt.use (IndexFuncC_at xs g caps p hl hp) ?_
  (try simp (maxSteps := 1000000) (disch := (first | assumption | (apply Ne.symm; assumption))) only [vw0, vw1, vw2, vw3, vw4, vu0, vu1, ↓condV_t, ↓condV_f, cap_nil, allocV, splice, partV, buildV, eqFieldsV, eqS, tabs, TK.agg, reduceCtorEq, Array.toList, List.map_cons, List.map_nil, ↓reduceIte, List.length_map, Nat.reduceAdd, Nat.reduceLeDiff, Nat.reduceLT, Nat.reduceMul, Nat.reduceSub, Option.bind_some, Option.map_some, bndV, numV, eI, eU, e8, eB, AV.isCell, Int.reduceToNat, Int.reduceSub, Int.reduceAdd, Int.reduceNeg])
  cases h : xs.any p <;> simp [h] at hK ⊢ <;> exact hK

theorem isCondition_spec (p : Pg) (t : List Nd) (ht : vT t) : Pu Tryz.prog 48 [aPg p, Ns t] (B (decide (kind p.wide p.vars t = 2))) := by
  refine Pu.of fun H => ?_
  refine W48_ok ?_; simp (maxSteps := 1000000) (disch := (first | assumption | (apply Ne.symm; assumption))) only [W48, vw0, vw1, vw2, vw3, vw4, vu0, vu1, ↓condV_t, ↓condV_f, cap_nil, allocV, splice, partV, buildV, eqFieldsV, eqS, tabs, TK.agg, reduceCtorEq, Array.toList, List.map_cons, List.map_nil, ↓reduceIte, List.length_map, Nat.reduceAdd, Nat.reduceLeDiff, Nat.reduceLT, Nat.reduceMul, Nat.reduceSub, Option.bind_some, Option.map_some, bndV, numV, eI, eU, e8, eB, AV.isCell, Int.reduceToNat, Int.reduceSub, Int.reduceAdd, Int.reduceNeg]
  intro r hr
  exact Pu.use (isTermOf_spec p.wide p.vars t 2 (by decide) ht.1 ht.2) ⟨rfl, Heap.le_set hr⟩
theorem l7Asks_spec (p : Pg) (t : List Nd) (ht : vT t) : Pu Tryz.prog 40 [aPg p, Ns t] (B (decide (kind p.wide p.vars t = 2))) := by
  refine Pu.of fun H => ?_
  refine W40_ok ?_; simp (maxSteps := 1000000) (disch := (first | assumption | (apply Ne.symm; assumption))) only [W40, vw0, vw1, vw2, vw3, vw4, vu0, vu1, ↓condV_t, ↓condV_f, cap_nil, allocV, splice, partV, buildV, eqFieldsV, eqS, tabs, TK.agg, reduceCtorEq, Array.toList, List.map_cons, List.map_nil, ↓reduceIte, List.length_map, Nat.reduceAdd, Nat.reduceLeDiff, Nat.reduceLT, Nat.reduceMul, Nat.reduceSub, Option.bind_some, Option.map_some, bndV, numV, eI, eU, e8, eB, AV.isCell, Int.reduceToNat, Int.reduceSub, Int.reduceAdd, Int.reduceNeg]
  intro r hr
  refine Pu.use (l2Kind_spec p.wide p.vars t ht.1 ht.2) ?_
  (try simp (maxSteps := 1000000) (disch := (first | assumption | (apply Ne.symm; assumption))) only [vw0, vw1, vw2, vw3, vw4, vu0, vu1, ↓condV_t, ↓condV_f, cap_nil, allocV, splice, partV, buildV, eqFieldsV, eqS, tabs, TK.agg, reduceCtorEq, Array.toList, List.map_cons, List.map_nil, ↓reduceIte, List.length_map, Nat.reduceAdd, Nat.reduceLeDiff, Nat.reduceLT, Nat.reduceMul, Nat.reduceSub, Option.bind_some, Option.map_some, bndV, numV, eI, eU, e8, eB, AV.isCell, Int.reduceToNat, Int.reduceSub, Int.reduceAdd, Int.reduceNeg])
  exact Heap.le_set hr

def chk (w v : Int) (c : Cm) (i : Nat) : Bool := goodCh w v (if i = 0 then none else some (c.chs.getD (i - 1) default).var) (c.chs.getD i default)
theorem goodCm_def (w v : Int) (c : Cm) : goodCm w v c = (decide (kind w v c.when_ = 2) && ((List.range c.chs.length).all (chk w v c))) := rfl
theorem goodCm_bad {w v : Int} {c : Cm} {i : Nat} (hi : i < c.chs.length) (h : chk w v c i = false) : B false = B (goodCm w v c) := by
  rw [goodCm_def, range_all_false hi h, Bool.and_false]
theorem chk_f {w v : Int} {c : Cm} {i : Nat} (h : ¬ ((0 ≤ (c.chs.getD i default).var ∧ (c.chs.getD i default).var ≤ v - 1) ∧ (0 < i → (c.chs.getD (i - 1) default).var < (c.chs.getD i default).var) ∧ kind w v (c.chs.getD i default).by_ = 1)) : chk w v c i = false := by
  rw [Bool.eq_false_iff]; intro h2
  apply h
  simp only [chk, goodCh, Bool.and_eq_true, inB_iff, decide_eq_true_eq] at h2
  refine ⟨h2.1.1, fun h0 => ?_, h2.2⟩
  have := h2.1.2
  rw [if_neg (by omega)] at this
  simpa using this
theorem chk_t {w v : Int} {c : Cm} {i : Nat} (h1 : 0 ≤ (c.chs.getD i default).var ∧ (c.chs.getD i default).var ≤ v - 1) (h2 : 0 < i → (c.chs.getD (i - 1) default).var < (c.chs.getD i default).var) (h3 : kind w v (c.chs.getD i default).by_ = 1) : chk w v c i = true := by
  simp only [chk, goodCh, Bool.and_eq_true, inB_iff, decide_eq_true_eq]
  refine ⟨⟨h1, ?_⟩, h3⟩
  split
  · rename_i p hp
    split at hp
    · cases hp
    · injection hp with hp; subst hp
      simpa using h2 (by omega)
  · rfl

theorem isCommand_spec (p : Pg) (c : Cm) (hc : vCm c) : Pu Tryz.prog 133 [aPg p, aCm c] (B (goodCm p.wide p.vars c)) := by
  refine Pu.of fun H => ?_
  refine W133_ok ?_; simp (maxSteps := 1000000) (disch := (first | assumption | (apply Ne.symm; assumption))) only [W133, vw0, vw1, vw2, vw3, vw4, vu0, vu1, ↓condV_t, ↓condV_f, cap_nil, allocV, splice, partV, buildV, eqFieldsV, eqS, tabs, TK.agg, reduceCtorEq, Array.toList, List.map_cons, List.map_nil, ↓reduceIte, List.length_map, Nat.reduceAdd, Nat.reduceLeDiff, Nat.reduceLT, Nat.reduceMul, Nat.reduceSub, Option.bind_some, Option.map_some, bndV, numV, eI, eU, e8, eB, AV.isCell, Int.reduceToNat, Int.reduceSub, Int.reduceAdd, Int.reduceNeg]
  intro r hr r3 n3 hr3
  have hle : Heap.le H ((H.set r [I p.wide, I p.vars, Ns p.start, Cms p.cmds]).set r3 [Ns c.when_, Chs c.chs]) := Heap.le_setN (Heap.le_set hr) hr3
  (try simp (maxSteps := 1000000) (disch := (first | assumption | (apply Ne.symm; assumption))) only [vw0, vw1, vw2, vw3, vw4, vu0, vu1, ↓condV_t, ↓condV_f, cap_nil, allocV, splice, partV, buildV, eqFieldsV, eqS, tabs, TK.agg, reduceCtorEq, Array.toList, List.map_cons, List.map_nil, ↓reduceIte, List.length_map, Nat.reduceAdd, Nat.reduceLeDiff, Nat.reduceLT, Nat.reduceMul, Nat.reduceSub, Option.bind_some, Option.map_some, bndV, numV, eI, eU, e8, eB, AV.isCell, Int.reduceToNat, Int.reduceSub, Int.reduceAdd, Int.reduceNeg])
  refine Pu.use (isCondition_spec p c.when_ hc.1) ?_
  (try simp (maxSteps := 1000000) (disch := (first | assumption | (apply Ne.symm; assumption))) only [vw0, vw1, vw2, vw3, vw4, vu0, vu1, ↓condV_t, ↓condV_f, cap_nil, allocV, splice, partV, buildV, eqFieldsV, eqS, tabs, TK.agg, reduceCtorEq, Array.toList, List.map_cons, List.map_nil, ↓reduceIte, List.length_map, Nat.reduceAdd, Nat.reduceLeDiff, Nat.reduceLT, Nat.reduceMul, Nat.reduceSub, Option.bind_some, Option.map_some, bndV, numV, eI, eU, e8, eB, AV.isCell, Int.reduceToNat, Int.reduceSub, Int.reduceAdd, Int.reduceNeg])
  refine ⟨fun h => ⟨by rw [goodCm_def, decide_eq_false h, Bool.false_and], hle⟩, fun h => ?_⟩
  refine L133_0_rule (0 : Nat) (fun i => I i) (fun _ => (H.set r [I p.wide, I p.vars, Ns p.start, Cms p.cmds]).set r3 [Ns c.when_, Chs c.chs]) (fun i => i ≤ c.chs.length ∧ (List.range i).all (chk p.wide p.vars c) = true) (fun i => c.chs.length - i) ⟨⟨by omega, by simp⟩, .refl _, Heap.le_refl _⟩ ?_
  rintro i ⟨hi, ha⟩
  have hcl := hc.2.1
  have e1 : 0 < i → IntKind.i64.wrap ((i : Int) - 1) = ((i - 1 : Nat) : Int) := fun h0 => by rw [i64_id (by omega) (by omega)]; omega
  (try simp (maxSteps := 1000000) (disch := (first | assumption | (apply Ne.symm; assumption))) only [vw0, vw1, vw2, vw3, vw4, vu0, vu1, ↓condV_t, ↓condV_f, cap_nil, allocV, splice, partV, buildV, eqFieldsV, eqS, tabs, TK.agg, reduceCtorEq, Array.toList, List.map_cons, List.map_nil, ↓reduceIte, List.length_map, Nat.reduceAdd, Nat.reduceLeDiff, Nat.reduceLT, Nat.reduceMul, Nat.reduceSub, Option.bind_some, Option.map_some, bndV, numV, eI, eU, e8, eB, AV.isCell, Int.reduceToNat, Int.reduceSub, Int.reduceAdd, Int.reduceNeg, B133_0])
  refine ⟨fun h2 => ⟨by omega, h2, ?_⟩, fun h2 => ?_⟩
  · have hlt : i < c.chs.length := by omega
    have hm : c.chs.getD i default ∈ c.chs := getD_all (p := fun x => x ∈ c.chs) (fun _ h => h) hlt
    have hv := hc.2.2 _ hm
    have hbad := fun h => goodCm_bad (w := p.wide) (v := p.vars) hlt (chk_f h)
    intro r6 n63 n6 hr6
    have hle6 := fun z => Heap.le_setN (b := z) hle hr6
    have nn6 : r ≠ r6 := Ne.symm n6
    have nn63 : r3 ≠ r6 := Ne.symm n63
    (try simp (maxSteps := 1000000) (disch := (first | assumption | (apply Ne.symm; assumption))) only [vw0, vw1, vw2, vw3, vw4, vu0, vu1, ↓condV_t, ↓condV_f, cap_nil, allocV, splice, partV, buildV, eqFieldsV, eqS, tabs, TK.agg, reduceCtorEq, Array.toList, List.map_cons, List.map_nil, ↓reduceIte, List.length_map, Nat.reduceAdd, Nat.reduceLeDiff, Nat.reduceLT, Nat.reduceMul, Nat.reduceSub, Option.bind_some, Option.map_some, bndV, numV, eI, eU, e8, eB, AV.isCell, Int.reduceToNat, Int.reduceSub, Int.reduceAdd, Int.reduceNeg])
    refine ⟨fun h3 => ⟨hbad (by omega), hle6 _⟩, fun h3 => ⟨fun h4 => ⟨hbad (by omega), hle6 _⟩, fun h4 => ?_⟩⟩
    have tail : (0 < i → (c.chs.getD (i - 1) default).var < (c.chs.getD i default).var) → ∀ G, Heap.le H G → Heap.le ((H.set r [I p.wide, I p.vars, Ns p.start, Cms p.cmds]).set r3 [Ns c.when_, Chs c.chs]) G →
        CallT Tryz.prog 87 [I p.wide, I p.vars, Ns (c.chs.getD i default).by_, I 1] G fun v53 H6 => unV UnOp.not v53 fun v54 => condV v54 (AV.p (PV.bool false) = B (goodCm p.wide p.vars c) ∧ H.le H6)
            (∃ s', (s' ≤ c.chs.length ∧ (List.range s').all (chk p.wide p.vars c) = true) ∧ c.chs.length - s' < c.chs.length - i ∧ (AV.p (PV.int IntKind.i64 (IntKind.i64.wrap (↑i + 1)))).wk (I (s' : Nat)) ∧
              ((H.set r [I p.wide, I p.vars, Ns p.start, Cms p.cmds]).set r3 [Ns c.when_, Chs c.chs]).le H6) := by
      intro hprev G hG hG2
      refine Pu.use (isTermOf_spec p.wide p.vars _ 1 (by decide) hv.1 hv.2) ?_
      (try simp (maxSteps := 1000000) (disch := (first | assumption | (apply Ne.symm; assumption))) only [vw0, vw1, vw2, vw3, vw4, vu0, vu1, ↓condV_t, ↓condV_f, cap_nil, allocV, splice, partV, buildV, eqFieldsV, eqS, tabs, TK.agg, reduceCtorEq, Array.toList, List.map_cons, List.map_nil, ↓reduceIte, List.length_map, Nat.reduceAdd, Nat.reduceLeDiff, Nat.reduceLT, Nat.reduceMul, Nat.reduceSub, Option.bind_some, Option.map_some, bndV, numV, eI, eU, e8, eB, AV.isCell, Int.reduceToNat, Int.reduceSub, Int.reduceAdd, Int.reduceNeg])
      refine ⟨fun h6 => ⟨hbad fun hh => h6 hh.2.2, hG⟩, fun h6 => ⟨i + 1, ⟨by omega, ?_⟩, by omega, ?_, hG2⟩⟩
      · rw [range_all_succ, ha, chk_t (by omega) hprev h6]; rfl
      · rw [wk_int, i64_id (by omega) (by omega)]; simp
    have hle7 : ∀ z, Heap.le ((H.set r [I p.wide, I p.vars, Ns p.start, Cms p.cmds]).set r3 [Ns c.when_, Chs c.chs]) (((H.set r [I p.wide, I p.vars, Ns p.start, Cms p.cmds]).set r3 [Ns c.when_, Chs c.chs]).set r6 z) := fun z => Heap.le_set (by simp [Heap.set_none, n63, n6, hr6])
    refine ⟨fun h0 => ?_, fun h0 => tail (fun h => by omega) _ (hle6 _) (hle7 _)⟩
    rw [e1 (by omega)]
    simp only [Int.toNat_natCast]
    exact ⟨by omega, by omega, fun h5 => ⟨hbad fun hh => by have := hh.2.1 (by omega); omega, hle6 _⟩, fun h5 => tail (fun _ => by omega) _ (hle6 _) (hle7 _)⟩
  · have : i = c.chs.length := by omega
    subst this
    exact ⟨by rw [goodCm_def, ha, decide_eq_true h]; rfl, hle⟩

theorem l7Command_spec (p : Pg) (c : Cm) (hc : vCm c) : Pu Tryz.prog 120 [aPg p, aCm c] (B (goodCm p.wide p.vars c)) := by
  refine Pu.of fun H => ?_
  refine W120_ok ?_; simp (maxSteps := 1000000) (disch := (first | assumption | (apply Ne.symm; assumption))) only [W120, vw0, vw1, vw2, vw3, vw4, vu0, vu1, ↓condV_t, ↓condV_f, cap_nil, allocV, splice, partV, buildV, eqFieldsV, eqS, tabs, TK.agg, reduceCtorEq, Array.toList, List.map_cons, List.map_nil, ↓reduceIte, List.length_map, Nat.reduceAdd, Nat.reduceLeDiff, Nat.reduceLT, Nat.reduceMul, Nat.reduceSub, Option.bind_some, Option.map_some, bndV, numV, eI, eU, e8, eB, AV.isCell, Int.reduceToNat, Int.reduceSub, Int.reduceAdd, Int.reduceNeg]
  intro r hr r3 n3 hr3
  have hle : Heap.le H ((H.set r [I p.wide, I p.vars, Ns p.start, Cms p.cmds]).set r3 [Ns c.when_, Chs c.chs]) := Heap.le_setN (Heap.le_set hr) hr3
  (try simp (maxSteps := 1000000) (disch := (first | assumption | (apply Ne.symm; assumption))) only [vw0, vw1, vw2, vw3, vw4, vu0, vu1, ↓condV_t, ↓condV_f, cap_nil, allocV, splice, partV, buildV, eqFieldsV, eqS, tabs, TK.agg, reduceCtorEq, Array.toList, List.map_cons, List.map_nil, ↓reduceIte, List.length_map, Nat.reduceAdd, Nat.reduceLeDiff, Nat.reduceLT, Nat.reduceMul, Nat.reduceSub, Option.bind_some, Option.map_some, bndV, numV, eI, eU, e8, eB, AV.isCell, Int.reduceToNat, Int.reduceSub, Int.reduceAdd, Int.reduceNeg])
  refine Pu.use (l7Asks_spec p c.when_ hc.1) ?_
  by_cases h : kind p.wide p.vars c.when_ = 2
  rotate_left
  · rw [decide_eq_false h]
    (try simp (maxSteps := 1000000) (disch := (first | assumption | (apply Ne.symm; assumption))) only [vw0, vw1, vw2, vw3, vw4, vu0, vu1, ↓condV_t, ↓condV_f, cap_nil, allocV, splice, partV, buildV, eqFieldsV, eqS, tabs, TK.agg, reduceCtorEq, Array.toList, List.map_cons, List.map_nil, ↓reduceIte, List.length_map, Nat.reduceAdd, Nat.reduceLeDiff, Nat.reduceLT, Nat.reduceMul, Nat.reduceSub, Option.bind_some, Option.map_some, bndV, numV, eI, eU, e8, eB, AV.isCell, Int.reduceToNat, Int.reduceSub, Int.reduceAdd, Int.reduceNeg])
    exact ⟨by rw [goodCm_def, decide_eq_false h, Bool.false_and], hle⟩
  have hfr := kind2_frame h
  rw [decide_eq_true h]
  have ev : IntKind.i64.wrap (p.vars - 1) = p.vars - 1 := i64_id (by omega) (by omega)
  (try simp (maxSteps := 1000000) (disch := (first | assumption | (apply Ne.symm; assumption))) only [vw0, vw1, vw2, vw3, vw4, vu0, vu1, ↓condV_t, ↓condV_f, cap_nil, allocV, splice, partV, buildV, eqFieldsV, eqS, tabs, TK.agg, reduceCtorEq, Array.toList, List.map_cons, List.map_nil, ↓reduceIte, List.length_map, Nat.reduceAdd, Nat.reduceLeDiff, Nat.reduceLT, Nat.reduceMul, Nat.reduceSub, Option.bind_some, Option.map_some, bndV, numV, eI, eU, e8, eB, AV.isCell, Int.reduceToNat, Int.reduceSub, Int.reduceAdd, Int.reduceNeg])
  refine ⟨fun h1 => ⟨?_, hle⟩, fun h1 => ?_⟩
  · cases hg : goodCm p.wide p.vars c
    · rfl
    · have := goodCm_len hg
      omega
  refine L120_0_rule (0 : Nat) (fun i => I i) (fun _ => (H.set r [I p.wide, I p.vars, Ns p.start, Cms p.cmds]).set r3 [Ns c.when_, Chs c.chs]) (fun i => i ≤ c.chs.length ∧ (List.range i).all (chk p.wide p.vars c) = true) (fun i => c.chs.length - i) ⟨⟨by omega, by simp⟩, .refl _, Heap.le_refl _⟩ ?_
  rintro i ⟨hi, ha⟩
  have hcl := hc.2.1
  have e1 : 0 < i → IntKind.i64.wrap ((i : Int) - 1) = ((i - 1 : Nat) : Int) := fun h0 => by rw [i64_id (by omega) (by omega)]; omega
  (try simp (maxSteps := 1000000) (disch := (first | assumption | (apply Ne.symm; assumption))) only [vw0, vw1, vw2, vw3, vw4, vu0, vu1, ↓condV_t, ↓condV_f, cap_nil, allocV, splice, partV, buildV, eqFieldsV, eqS, tabs, TK.agg, reduceCtorEq, Array.toList, List.map_cons, List.map_nil, ↓reduceIte, List.length_map, Nat.reduceAdd, Nat.reduceLeDiff, Nat.reduceLT, Nat.reduceMul, Nat.reduceSub, Option.bind_some, Option.map_some, bndV, numV, eI, eU, e8, eB, AV.isCell, Int.reduceToNat, Int.reduceSub, Int.reduceAdd, Int.reduceNeg, B120_0])
  refine ⟨fun h2 => ⟨by omega, h2, ?_⟩, fun h2 => ?_⟩
  · have hlt : i < c.chs.length := by omega
    have hm : c.chs.getD i default ∈ c.chs := getD_all (p := fun x => x ∈ c.chs) (fun _ h => h) hlt
    have hv := hc.2.2 _ hm
    have hbad := fun h => goodCm_bad (w := p.wide) (v := p.vars) hlt (chk_f h)
    intro r6 n63 n6 hr6
    have hle6 := fun z => Heap.le_setN (b := z) hle hr6
    have nn6 : r ≠ r6 := Ne.symm n6
    have nn63 : r3 ≠ r6 := Ne.symm n63
    have hle7 : ∀ z, Heap.le ((H.set r [I p.wide, I p.vars, Ns p.start, Cms p.cmds]).set r3 [Ns c.when_, Chs c.chs]) (((H.set r [I p.wide, I p.vars, Ns p.start, Cms p.cmds]).set r3 [Ns c.when_, Chs c.chs]).set r6 z) := fun z => Heap.le_set (by simp [Heap.set_none, n63, n6, hr6])
    (try simp (maxSteps := 1000000) (disch := (first | assumption | (apply Ne.symm; assumption))) only [vw0, vw1, vw2, vw3, vw4, vu0, vu1, ↓condV_t, ↓condV_f, cap_nil, allocV, splice, partV, buildV, eqFieldsV, eqS, tabs, TK.agg, reduceCtorEq, Array.toList, List.map_cons, List.map_nil, ↓reduceIte, List.length_map, Nat.reduceAdd, Nat.reduceLeDiff, Nat.reduceLT, Nat.reduceMul, Nat.reduceSub, Option.bind_some, Option.map_some, bndV, numV, eI, eU, e8, eB, AV.isCell, Int.reduceToNat, Int.reduceSub, Int.reduceAdd, Int.reduceNeg, ev])
    refine Pu.use (l1In_B ..) ?_
    cases hin : inB (c.chs.getD i default).var 0 (p.vars - 1)
    · (try simp (maxSteps := 1000000) (disch := (first | assumption | (apply Ne.symm; assumption))) only [vw0, vw1, vw2, vw3, vw4, vu0, vu1, ↓condV_t, ↓condV_f, cap_nil, allocV, splice, partV, buildV, eqFieldsV, eqS, tabs, TK.agg, reduceCtorEq, Array.toList, List.map_cons, List.map_nil, ↓reduceIte, List.length_map, Nat.reduceAdd, Nat.reduceLeDiff, Nat.reduceLT, Nat.reduceMul, Nat.reduceSub, Option.bind_some, Option.map_some, bndV, numV, eI, eU, e8, eB, AV.isCell, Int.reduceToNat, Int.reduceSub, Int.reduceAdd, Int.reduceNeg])
      exact ⟨hbad (fun hh => by rw [inB_iff.2 hh.1] at hin; cases hin), hle6 _⟩
    rw [inB_iff] at hin
    (try simp (maxSteps := 1000000) (disch := (first | assumption | (apply Ne.symm; assumption))) only [vw0, vw1, vw2, vw3, vw4, vu0, vu1, ↓condV_t, ↓condV_f, cap_nil, allocV, splice, partV, buildV, eqFieldsV, eqS, tabs, TK.agg, reduceCtorEq, Array.toList, List.map_cons, List.map_nil, ↓reduceIte, List.length_map, Nat.reduceAdd, Nat.reduceLeDiff, Nat.reduceLT, Nat.reduceMul, Nat.reduceSub, Option.bind_some, Option.map_some, bndV, numV, eI, eU, e8, eB, AV.isCell, Int.reduceToNat, Int.reduceSub, Int.reduceAdd, Int.reduceNeg])
    have tail : (0 < i → (c.chs.getD (i - 1) default).var < (c.chs.getD i default).var) → ∀ G, Heap.le H G → Heap.le ((H.set r [I p.wide, I p.vars, Ns p.start, Cms p.cmds]).set r3 [Ns c.when_, Chs c.chs]) G →
        CallT Tryz.prog 79 [I p.wide, I p.vars, Ns (c.chs.getD i default).by_] G fun v53 H6 => binV tab BinOp.neq 3 v53 (I 1) fun v54 => condV v54 (AV.p (PV.bool false) = B (goodCm p.wide p.vars c) ∧ H.le H6)
            (∃ s', (s' ≤ c.chs.length ∧ (List.range s').all (chk p.wide p.vars c) = true) ∧ c.chs.length - s' < c.chs.length - i ∧ (AV.p (PV.int IntKind.i64 (IntKind.i64.wrap (↑i + 1)))).wk (I (s' : Nat)) ∧
              ((H.set r [I p.wide, I p.vars, Ns p.start, Cms p.cmds]).set r3 [Ns c.when_, Chs c.chs]).le H6) := by
      intro hprev G hG hG2
      refine Pu.use (l2Kind_spec p.wide p.vars _ hv.1 hv.2) ?_
      (try simp (maxSteps := 1000000) (disch := (first | assumption | (apply Ne.symm; assumption))) only [vw0, vw1, vw2, vw3, vw4, vu0, vu1, ↓condV_t, ↓condV_f, cap_nil, allocV, splice, partV, buildV, eqFieldsV, eqS, tabs, TK.agg, reduceCtorEq, Array.toList, List.map_cons, List.map_nil, ↓reduceIte, List.length_map, Nat.reduceAdd, Nat.reduceLeDiff, Nat.reduceLT, Nat.reduceMul, Nat.reduceSub, Option.bind_some, Option.map_some, bndV, numV, eI, eU, e8, eB, AV.isCell, Int.reduceToNat, Int.reduceSub, Int.reduceAdd, Int.reduceNeg])
      refine ⟨fun h6 => ⟨hbad fun hh => h6 hh.2.2, hG⟩, fun h6 => ⟨i + 1, ⟨by omega, ?_⟩, by omega, ?_, hG2⟩⟩
      · rw [range_all_succ, ha, chk_t hin hprev h6]; rfl
      · rw [wk_int, i64_id (by omega) (by omega)]; simp
    refine ⟨fun h0 => ?_, fun h0 => tail (fun h => by omega) _ (hle6 _) (hle7 _)⟩
    rw [e1 (by omega)]
    simp only [Int.toNat_natCast]
    exact ⟨by omega, by omega, fun h5 => ⟨hbad fun hh => by have := hh.2.1 (by omega); omega, hle6 _⟩, fun h5 => tail (fun _ => by omega) _ (hle6 _) (hle7 _)⟩
  · have : i = c.chs.length := by omega
    subst this
    exact ⟨by rw [goodCm_def, ha, decide_eq_true h]; rfl, hle⟩
end Go.Proofs.YtgcklgeifdefhaaGreat
