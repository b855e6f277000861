/- The row of the law that CubeOf answers as the reference does: whatever the arguments, it answers true, and what it is told reads as it did. -/
import Derived.Test.YtgcklgeifdefhaaPka7
import Derived.Test.YtgcklgeifdefhaaRows
import Derived.WalkKit
import Derived.ProofKit
import Derived.OpenShut
set_option linter.unusedVariables false
set_option linter.unusedSimpArgs false
/- Specs: the cube of a state. -/
namespace Go.Proofs.Ytgcklgeifdefhaa
open Go Go.Sep Go.Pt
set_option linter.unusedSimpArgs false
set_option linter.unusedVariables false
attribute [local irreducible] CallT

/-! ### Plain -/
def cubeK (p : Pg) (t : List Nd) (no : Nat) : List Nd := if holdP p t no = true then [] else [⟨19, 0⟩]
def cubeN (p : Pg) (ts : List (List Nd)) (no : Nat) : Nat → List Nd
  | 0 => []
  | k + 1 => ((cubeN p ts no k ++ ts.getD k default) ++ cubeK p (ts.getD k default) no) ++ (if 0 < k then [⟨17, 0⟩] else [])
theorem kind2_len {w v : Int} {t : List Nd} (h : kind w v t = 2) : t.length ≤ 48 := by
  have hf := (kind_run (by decide) h).1
  simp only [frame, Bool.and_eq_true, inB_iff, decide_eq_true_eq] at hf
  omega
theorem cubeN_len {p : Pg} {ts : List (List Nd)} (hk : ∀ t ∈ ts, kind p.wide p.vars t = 2) (no : Nat) : ∀ k, k ≤ ts.length → (cubeN p ts no k).length ≤ 50 * k
  | 0, _ => by simp [cubeN]
  | k + 1, hl => by
    have ih := cubeN_len hk no k (by omega)
    have h1 := kind2_len (hk _ (getD_all (p := fun x => x ∈ ts) (d := default) (fun _ h => h) (show k < ts.length by omega)))
    have h2 : (cubeK p (ts.getD k default) no).length ≤ 1 := by unfold cubeK; split <;> simp
    have h3 : (if 0 < k then [(⟨17, 0⟩ : Nd)] else []).length ≤ 1 := by split <;> simp
    simp only [cubeN, List.length_append]
    omega
theorem cubeN_ok {p : Pg} {ts : List (List Nd)} (hv : ∀ t ∈ ts, vT t) (no : Nat) : ∀ k, k ≤ ts.length → ∀ x ∈ cubeN p ts no k, okN x
  | 0, _ => by simp [cubeN]
  | k + 1, hl => by
    intro x hx
    simp only [cubeN, List.mem_append] at hx
    rcases hx with ((hx | hx) | hx) | hx
    · exact cubeN_ok hv no k (by omega) x hx
    · exact (hv _ (getD_all (p := fun x => x ∈ ts) (d := default) (fun _ h => h) (show k < ts.length by omega))).2 x hx
    · unfold cubeK at hx
      split at hx
      · cases hx
      · rw [List.mem_singleton] at hx; subst hx; exact ⟨by simp, by simp⟩
    · split at hx
      · rw [List.mem_singleton] at hx; subst hx; exact ⟨by simp, by simp⟩
      · cases hx

/-! ### Numbers of states -/
def noB (p : Pg) (no : Int) : Bool := smallP p && (decide (0 ≤ no) && decide (no < statesP p))
theorem isNoC_spec (p : Pg) (no : Int) (hp : vPg p) : Pu Try.prog 26 [aPg p, I no] (B (noB p no)) := by
  refine Pu.of fun H => ?_
  refine W26_ok ?_; simp (maxSteps := 1000000) (disch := first | assumption | (apply Ne.symm; assumption)) only [W26, vz, vu, vv, eqS, eqFieldsV, ↓condV_t, ↓condV_f, tabs, reduceCtorEq, Array.toList, ↓reduceIte, Nat.reduceAdd, Nat.reduceLeDiff, Nat.reduceLT, Nat.reduceMul, Nat.reduceSub, Int.reduceToNat, Int.reduceSub, Int.reduceAdd, Int.reduceNeg]
  intro r hr
  refine Pu.use (isSmall_spec p hp) ?_
  cases h : smallP p
  · (try simp (maxSteps := 1000000) (disch := first | assumption | (apply Ne.symm; assumption)) only [vz, vu, vv, eqS, eqFieldsV, ↓condV_t, ↓condV_f, tabs, reduceCtorEq, Array.toList, ↓reduceIte, Nat.reduceAdd, Nat.reduceLeDiff, Nat.reduceLT, Nat.reduceMul, Nat.reduceSub, Int.reduceToNat, Int.reduceSub, Int.reduceAdd, Int.reduceNeg])
    exact ⟨by simp [noB, h], Heap.le_set hr⟩
  · (try simp (maxSteps := 1000000) (disch := first | assumption | (apply Ne.symm; assumption)) only [vz, vu, vv, eqS, eqFieldsV, ↓condV_t, ↓condV_f, tabs, reduceCtorEq, Array.toList, ↓reduceIte, Nat.reduceAdd, Nat.reduceLeDiff, Nat.reduceLT, Nat.reduceMul, Nat.reduceSub, Int.reduceToNat, Int.reduceSub, Int.reduceAdd, Int.reduceNeg])
    refine ⟨fun h1 => ?_, fun h1 => ⟨?_, Heap.le_set hr⟩⟩
    · refine Pu.use (states_spec p h) ?_
      (try simp (maxSteps := 1000000) (disch := first | assumption | (apply Ne.symm; assumption)) only [vz, vu, vv, eqS, eqFieldsV, ↓condV_t, ↓condV_f, tabs, reduceCtorEq, Array.toList, ↓reduceIte, Nat.reduceAdd, Nat.reduceLeDiff, Nat.reduceLT, Nat.reduceMul, Nat.reduceSub, Int.reduceToNat, Int.reduceSub, Int.reduceAdd, Int.reduceNeg])
      exact ⟨by simp [noB, h, h1], Heap.le_set hr⟩
    · simp [noB, h1]
theorem l8IsC_spec (p : Pg) (no : Int) (hp : vPg p) : Pu Try.prog 19 [aPg p, I no] (B (noB p no)) := by
  refine Pu.of fun H => ?_
  refine W19_ok ?_; simp (maxSteps := 1000000) (disch := first | assumption | (apply Ne.symm; assumption)) only [W19, vz, vu, vv, eqS, eqFieldsV, ↓condV_t, ↓condV_f, tabs, reduceCtorEq, Array.toList, ↓reduceIte, Nat.reduceAdd, Nat.reduceLeDiff, Nat.reduceLT, Nat.reduceMul, Nat.reduceSub, Int.reduceToNat, Int.reduceSub, Int.reduceAdd, Int.reduceNeg]
  intro r hr
  refine Pu.use (l7Small_spec p hp) ?_
  cases h : smallP p
  · (try simp (maxSteps := 1000000) (disch := first | assumption | (apply Ne.symm; assumption)) only [vz, vu, vv, eqS, eqFieldsV, ↓condV_t, ↓condV_f, tabs, reduceCtorEq, Array.toList, ↓reduceIte, Nat.reduceAdd, Nat.reduceLeDiff, Nat.reduceLT, Nat.reduceMul, Nat.reduceSub, Int.reduceToNat, Int.reduceSub, Int.reduceAdd, Int.reduceNeg])
    exact ⟨by simp [noB, h], Heap.le_set hr⟩
  · have := states_rng h
    have e : IntKind.i64.wrap (statesP p - 1) = statesP p - 1 := i64_id (by omega) (by omega)
    (try simp (maxSteps := 1000000) (disch := first | assumption | (apply Ne.symm; assumption)) only [vz, vu, vv, eqS, eqFieldsV, ↓condV_t, ↓condV_f, tabs, reduceCtorEq, Array.toList, ↓reduceIte, Nat.reduceAdd, Nat.reduceLeDiff, Nat.reduceLT, Nat.reduceMul, Nat.reduceSub, Int.reduceToNat, Int.reduceSub, Int.reduceAdd, Int.reduceNeg])
    refine Pu.use (l7Many_spec p h) ?_
    (try simp (maxSteps := 1000000) (disch := first | assumption | (apply Ne.symm; assumption)) only [vz, vu, vv, eqS, eqFieldsV, ↓condV_t, ↓condV_f, tabs, reduceCtorEq, Array.toList, ↓reduceIte, Nat.reduceAdd, Nat.reduceLeDiff, Nat.reduceLT, Nat.reduceMul, Nat.reduceSub, Int.reduceToNat, Int.reduceSub, Int.reduceAdd, Int.reduceNeg, e])
    refine Pu.use (l1In_B no 0 (statesP p - 1)) ?_
    refine ⟨?_, Heap.le_set hr⟩
    congr 2
    rw [Bool.eq_iff_iff, inB_iff]
    simp only [noB, h, Bool.true_and, Bool.and_eq_true, decide_eq_true_eq]
    omega
theorem noB_nat {p : Pg} {no : Int} (h : noB p no = true) : smallP p = true ∧ ∃ n : Nat, no = n ∧ n < allP p ∧ n < 32 := by
  simp only [noB, Bool.and_eq_true, decide_eq_true_eq] at h
  have h1 := statesP_nat (smallP_of h.1)
  have h2 := allP_bd (smallP_of h.1)
  exact ⟨h.1, no.toNat, by omega, by omega, by omega⟩
def cuAsk (p : Pg) (ts : List (List Nd)) (no : Int) : Bool := noB p no && okTs p ts 1
def cuT (p : Pg) (ts : List (List Nd)) (no : Int) : List Nd := cubeN p ts no.toNat ts.length
def cuOk (p : Pg) (ts : List (List Nd)) (no : Int) : Bool := cuAsk p ts no && gt p.wide p.vars (cuT p ts no)
def cuR (p : Pg) (ts : List (List Nd)) (no : Int) : List Nd := if cuOk p ts no then cuT p ts no else []
/-- A term of one's own, or nothing. -/
def RT (t : List Nd) (v : AV) (G : Heap) (D : List Nat) : Prop := (t = [] ∧ v = .p .nil ∧ D = []) ∨ ∃ q, v = rowN q t ∧ G q = some (cN t) ∧ D = [q]

theorem app_topN {q : Nat} {xs ys : List Nd} {B : Heap} {K : AV → Heap → Prop} (hq : B q = none) (hl : xs.length + ys.length ≤ 1000000) (h : ∀ q', B q' = none → K (rowN q' (xs ++ ys)) (B.set q' (cN (xs ++ ys)))) :
    appendV tab 29 29 (rowN q xs) (Ns ys) (B.set q (cN xs)) (wkK K) :=
  app_nodes (Heap.set_same _ _ _) hl fun q' hq' hne => by
    rw [Heap.del_set hq]
    rw [Heap.set_none] at hq'
    exact h q' hq'.2
theorem push_topN {q : Nat} {xs : List Nd} {x : Nd} {B : Heap} {K : AV → Heap → Prop} (hq : B q = none) (hl : xs.length ≤ 100000) (h : ∀ q', B q' = none → K (rowN q' (xs ++ [x])) (B.set q' (cN (xs ++ [x])))) :
    buildSliceV tab 29 1 [(0, aN x)] (B.set q (cN xs)) (wkK fun v H1 => appendV tab 29 29 (rowN q xs) v H1 (wkK K)) :=
  lit_node (app_topN hq (by simp; omega) h)
theorem lit0N {G : Heap} {K : AV → Heap → Prop} (h : ∀ q, G q = none → K (rowN q ([] : List Nd)) (G.set q (cN []))) : buildSliceV tab 29 0 [] G (wkK K) := by
  simp only [buildSliceV, tab_29, tab_54]
  refine ⟨by omega, ?_⟩
  simp only [fillV, zerosA, List.replicate_zero, List.flatten_nil]
  exact fun r hr => wkK.keep (h r hr)
theorem CubeOf_impl (p : Pg) (ts : List (List Nd)) (no : Int) (hp : vPg p) (hl : ts.length ≤ 1048576) (hv : ∀ t ∈ ts, vT t) {H : Heap} {K : AV → Heap → Prop}
    (hK : ∀ v G D, RT (cuR p ts no) v G D → New H G D → K (.tup [v, B (cuOk p ts no)]) G) : CallT Try.prog 9 [aPg p, Nss ts, I no] H K := by
  refine CallT.fin ?_
  refine W9_ok ?_; simp (maxSteps := 1000000) (disch := first | assumption | (apply Ne.symm; assumption)) only [W9, vz, vu, vv, eqS, eqFieldsV, ↓condV_t, ↓condV_f, tabs, reduceCtorEq, Array.toList, ↓reduceIte, Nat.reduceAdd, Nat.reduceLeDiff, Nat.reduceLT, Nat.reduceMul, Nat.reduceSub, Int.reduceToNat, Int.reduceSub, Int.reduceAdd, Int.reduceNeg]
  intro r hr
  have hle : ∀ z, Heap.le H (H.set r z) := fun z => Heap.le_set hr
  have bad : cuOk p ts no = false → ∀ G, Heap.le H G → wkK K (.tup [.p .nil, B false]) G := fun hk G hG => by
    refine fin_le hG ?_
    have := hK (.p .nil) H [] (.inl ⟨by simp [cuR, hk], rfl, rfl⟩) ⟨by simp, by simp, Heap.le_refl _⟩
    rwa [hk] at this
  (try simp (maxSteps := 1000000) (disch := first | assumption | (apply Ne.symm; assumption)) only [vz, vu, vv, eqS, eqFieldsV, ↓condV_t, ↓condV_f, tabs, reduceCtorEq, Array.toList, ↓reduceIte, Nat.reduceAdd, Nat.reduceLeDiff, Nat.reduceLT, Nat.reduceMul, Nat.reduceSub, Int.reduceToNat, Int.reduceSub, Int.reduceAdd, Int.reduceNeg])
  refine Pu.use (isNoC_spec p no hp) ?_
  cases h1 : noB p no
  · (try simp (maxSteps := 1000000) (disch := first | assumption | (apply Ne.symm; assumption)) only [vz, vu, vv, eqS, eqFieldsV, ↓condV_t, ↓condV_f, tabs, reduceCtorEq, Array.toList, ↓reduceIte, Nat.reduceAdd, Nat.reduceLeDiff, Nat.reduceLT, Nat.reduceMul, Nat.reduceSub, Int.reduceToNat, Int.reduceSub, Int.reduceAdd, Int.reduceNeg])
    exact bad (by simp [cuOk, cuAsk, h1]) _ (hle _)
  (try simp (maxSteps := 1000000) (disch := first | assumption | (apply Ne.symm; assumption)) only [vz, vu, vv, eqS, eqFieldsV, ↓condV_t, ↓condV_f, tabs, reduceCtorEq, Array.toList, ↓reduceIte, Nat.reduceAdd, Nat.reduceLeDiff, Nat.reduceLT, Nat.reduceMul, Nat.reduceSub, Int.reduceToNat, Int.reduceSub, Int.reduceAdd, Int.reduceNeg])
  refine Pu.use (arePreds_spec p ts hl hv 1) ?_
  cases h2 : okTs p ts 1
  · (try simp (maxSteps := 1000000) (disch := first | assumption | (apply Ne.symm; assumption)) only [vz, vu, vv, eqS, eqFieldsV, ↓condV_t, ↓condV_f, tabs, reduceCtorEq, Array.toList, ↓reduceIte, Nat.reduceAdd, Nat.reduceLeDiff, Nat.reduceLT, Nat.reduceMul, Nat.reduceSub, Int.reduceToNat, Int.reduceSub, Int.reduceAdd, Int.reduceNeg])
    exact bad (by simp [cuOk, cuAsk, h2]) _ (hle _)
  obtain ⟨hsm, n, rfl, hn, hn32⟩ := noB_nat h1
  have hs := smallP_of hsm
  obtain ⟨_, k8, kk⟩ := okTs_k h2
  (try simp (maxSteps := 1000000) (disch := first | assumption | (apply Ne.symm; assumption)) only [vz, vu, vv, eqS, eqFieldsV, ↓condV_t, ↓condV_f, tabs, reduceCtorEq, Array.toList, ↓reduceIte, Nat.reduceAdd, Nat.reduceLeDiff, Nat.reduceLT, Nat.reduceMul, Nat.reduceSub, Int.reduceToNat, Int.reduceSub, Int.reduceAdd, Int.reduceNeg])
  have lB := hle [I p.wide, I p.vars, Ns p.start, Cms p.cmds]
  have gr : (H.set r [I p.wide, I p.vars, Ns p.start, Cms p.cmds]) r = some [I p.wide, I p.vars, Ns p.start, Cms p.cmds] := Heap.set_same _ _ _
  generalize H.set r [I p.wide, I p.vars, Ns p.start, Cms p.cmds] = B0 at lB gr ⊢
  refine lit0N fun q0 hq0 => ?_
  refine L9_0_rule ((0 : Nat), q0) (fun z => rowN z.2 (cubeN p ts n z.1)) (fun z => I z.1) (fun z => B0.set z.2 (cN (cubeN p ts n z.1))) (fun z => z.1 ≤ ts.length ∧ B0 z.2 = none) (fun z => ts.length - z.1)
    ⟨⟨by simp, hq0⟩, .refl _, .refl _, Heap.le_refl _⟩ ?_
  rintro ⟨k, q⟩ ⟨hk, hq⟩
  dsimp only at hk hq
  have kr : ∀ {q c}, B0 q = none → (B0.set q c) r = some [I p.wide, I p.vars, Ns p.start, Cms p.cmds] := fun {q c} h => by
    rw [Heap.set_other (fun e => by rw [← e, gr] at h; cases h)]; exact gr
  have hcl := cubeN_len kk n k hk
  (try simp (maxSteps := 1000000) (disch := first | assumption | (apply Ne.symm; assumption)) only [vz, vu, vv, eqS, eqFieldsV, ↓condV_t, ↓condV_f, tabs, reduceCtorEq, Array.toList, ↓reduceIte, Nat.reduceAdd, Nat.reduceLeDiff, Nat.reduceLT, Nat.reduceMul, Nat.reduceSub, Int.reduceToNat, Int.reduceSub, Int.reduceAdd, Int.reduceNeg, B9_0])
  refine ⟨fun h3 => ⟨by omega, h3, ?_⟩, fun h3 => ?_⟩
  · have hlt : k < ts.length := by omega
    have hm : ts.getD k default ∈ ts := getD_all (p := fun x => x ∈ ts) (fun _ h => h) hlt
    have hkt := kk _ hm
    have htv := hv _ hm
    have htl := kind2_len hkt
    have hsucc : cubeN p ts n (k + 1) = ((cubeN p ts n k ++ ts.getD k default) ++ cubeK p (ts.getD k default) n) ++ (if 0 < k then [⟨17, 0⟩] else []) := rfl
    have e5 : IntKind.i64.wrap ((k : Int) + 1) = ((k + 1 : Nat) : Int) := by rw [i64_id (by omega) (by omega)]; simp
    -- behind the holding
    have fin : ∀ (N : AV → AV → Heap → Prop), (∀ q', B0 q' = none → N (rowN q' (cubeN p ts n (k + 1))) (I (k + 1 : Nat)) (B0.set q' (cN (cubeN p ts n (k + 1))))) →
        ∀ K q1, B0 q1 = none → J9_1 K N (I n) (.ptr r 0) (rowN q1 ((cubeN p ts n k ++ ts.getD k default) ++ cubeK p (ts.getD k default) n)) (I k) (Nss ts) (I ts.length) (I k) (B0.set q1 (cN ((cubeN p ts n k ++ ts.getD k default) ++ cubeK p (ts.getD k default) n))) := by
      intro N hN K q1 hq1
      unfold J9_1
      have h2 : (cubeK p (ts.getD k default) n).length ≤ 1 := by unfold cubeK; split <;> simp
      by_cases hk0 : 0 < k
      · have hk0' : (0 : Int) < k := by omega
        rw [if_pos hk0] at hsucc
        (try simp (maxSteps := 1000000) (disch := first | assumption | (apply Ne.symm; assumption)) only [vz, vu, vv, eqS, eqFieldsV, ↓condV_t, ↓condV_f, tabs, reduceCtorEq, Array.toList, ↓reduceIte, Nat.reduceAdd, Nat.reduceLeDiff, Nat.reduceLT, Nat.reduceMul, Nat.reduceSub, Int.reduceToNat, Int.reduceSub, Int.reduceAdd, Int.reduceNeg, hk0', decide_true])
        have hln : ((cubeN p ts n k ++ ts.getD k default) ++ cubeK p (ts.getD k default) n).length ≤ 100000 := by simp only [List.length_append]; omega
        refine push_topN (x := ⟨17, 0⟩) hq1 hln fun q' hq' => ?_
        rw [← hsucc]
        (try simp (maxSteps := 1000000) (disch := first | assumption | (apply Ne.symm; assumption)) only [vz, vu, vv, eqS, eqFieldsV, ↓condV_t, ↓condV_f, tabs, reduceCtorEq, Array.toList, ↓reduceIte, Nat.reduceAdd, Nat.reduceLeDiff, Nat.reduceLT, Nat.reduceMul, Nat.reduceSub, Int.reduceToNat, Int.reduceSub, Int.reduceAdd, Int.reduceNeg, e5])
        exact hN q' hq'
      · have hk0' : ¬ (0 : Int) < k := by omega
        rw [if_neg hk0, List.append_nil] at hsucc
        rw [← hsucc]
        (try simp (maxSteps := 1000000) (disch := first | assumption | (apply Ne.symm; assumption)) only [vz, vu, vv, eqS, eqFieldsV, ↓condV_t, ↓condV_f, tabs, reduceCtorEq, Array.toList, ↓reduceIte, Nat.reduceAdd, Nat.reduceLeDiff, Nat.reduceLT, Nat.reduceMul, Nat.reduceSub, Int.reduceToNat, Int.reduceSub, Int.reduceAdd, Int.reduceNeg, hk0', decide_false, e5])
        exact hN q1 hq1
    refine app_topN hq (by omega) fun q1 hq1 => ?_
    (try simp (maxSteps := 1000000) (disch := first | assumption | (apply Ne.symm; assumption)) only [vz, vu, vv, eqS, eqFieldsV, ↓condV_t, ↓condV_f, tabs, reduceCtorEq, Array.toList, ↓reduceIte, Nat.reduceAdd, Nat.reduceLeDiff, Nat.reduceLT, Nat.reduceMul, Nat.reduceSub, Int.reduceToNat, Int.reduceSub, Int.reduceAdd, Int.reduceNeg, load_at (kr hq1)])
    refine Pu.use (stateOf_spec p hs n (by omega)) ?_
    (try simp (maxSteps := 1000000) (disch := first | assumption | (apply Ne.symm; assumption)) only [vz, vu, vv, eqS, eqFieldsV, ↓condV_t, ↓condV_f, tabs, reduceCtorEq, Array.toList, ↓reduceIte, Nat.reduceAdd, Nat.reduceLeDiff, Nat.reduceLT, Nat.reduceMul, Nat.reduceSub, Int.reduceToNat, Int.reduceSub, Int.reduceAdd, Int.reduceNeg, load_at (kr hq1)])
    refine Pu.use (holds_spec p hs _ htv _ (stP_len' _ _) (stP_lt' _ _) hkt) ?_
    have go : ∀ q', B0 q' = none → ∃ z : Nat × Nat, (z.1 ≤ ts.length ∧ B0 z.2 = none) ∧ ts.length - z.1 < ts.length - k ∧ (rowN q' (cubeN p ts n (k + 1))).wk (rowN z.2 (cubeN p ts n z.1)) ∧ (I (k + 1 : Nat)).wk (I z.1) ∧ (B0.set z.2 (cN (cubeN p ts n z.1))).le (B0.set q' (cN (cubeN p ts n (k + 1)))) :=
      fun q' hq' => ⟨(k + 1, q'), ⟨by simp only; omega, hq'⟩, by simp only; omega, .refl _, .refl _, Heap.le_refl _⟩
    cases hh : decide (tval p.wide.toNat (ts.getD k default) (stP p n) = 1)
    · have ec : cubeK p (ts.getD k default) n = [⟨19, 0⟩] := by
        have : holdP p (ts.getD k default) n = false := hh
        rw [cubeK, if_neg (by rw [this]; simp)]
      rw [ec] at fin
      (try simp (maxSteps := 1000000) (disch := first | assumption | (apply Ne.symm; assumption)) only [vz, vu, vv, eqS, eqFieldsV, ↓condV_t, ↓condV_f, tabs, reduceCtorEq, Array.toList, ↓reduceIte, Nat.reduceAdd, Nat.reduceLeDiff, Nat.reduceLT, Nat.reduceMul, Nat.reduceSub, Int.reduceToNat, Int.reduceSub, Int.reduceAdd, Int.reduceNeg])
      have hln : (cubeN p ts n k ++ ts.getD k default).length ≤ 100000 := by simp only [List.length_append]; omega
      refine push_topN (x := ⟨19, 0⟩) hq1 hln fun q2 hq2 => ?_
      refine fin _ ?_ _ q2 hq2
      exact go
    · have ec : cubeK p (ts.getD k default) n = [] := by
        have : holdP p (ts.getD k default) n = true := hh
        rw [cubeK, if_pos this]
      rw [ec, List.append_nil] at fin
      (try simp (maxSteps := 1000000) (disch := first | assumption | (apply Ne.symm; assumption)) only [vz, vu, vv, eqS, eqFieldsV, ↓condV_t, ↓condV_f, tabs, reduceCtorEq, Array.toList, ↓reduceIte, Nat.reduceAdd, Nat.reduceLeDiff, Nat.reduceLT, Nat.reduceMul, Nat.reduceSub, Int.reduceToNat, Int.reduceSub, Int.reduceAdd, Int.reduceNeg])
      refine fin _ ?_ _ q1 hq1
      exact go
  · have : k = ts.length := by omega
    subst this
    (try simp (maxSteps := 1000000) (disch := first | assumption | (apply Ne.symm; assumption)) only [vz, vu, vv, eqS, eqFieldsV, ↓condV_t, ↓condV_f, tabs, reduceCtorEq, Array.toList, ↓reduceIte, Nat.reduceAdd, Nat.reduceLeDiff, Nat.reduceLT, Nat.reduceMul, Nat.reduceSub, Int.reduceToNat, Int.reduceSub, Int.reduceAdd, Int.reduceNeg, load_at (kr hq)])
    have hvt : vT (cubeN p ts n ts.length) := ⟨by omega, cubeN_ok hv n _ (Nat.le_refl _)⟩
    have hHq : H q = none := by
      cases hh : H q with
      | none => rfl
      | some b => rw [lB _ _ hh] at hq; cases hq
    have e0 : cuT p ts n = cubeN p ts n ts.length := rfl
    have lB2 := Heap.le_set (b := cN (cubeN p ts n ts.length)) hq
    refine checkedTerm_row p.wide p.vars (cubeN p ts n ts.length) hvt (Heap.set_same _ _ _) (fun hg => ?_) (fun hg => ?_)
    · (try simp (maxSteps := 1000000) (disch := first | assumption | (apply Ne.symm; assumption)) only [vz, vu, vv, eqS, eqFieldsV, ↓condV_t, ↓condV_f, tabs, reduceCtorEq, Array.toList, ↓reduceIte, Nat.reduceAdd, Nat.reduceLeDiff, Nat.reduceLT, Nat.reduceMul, Nat.reduceSub, Int.reduceToNat, Int.reduceSub, Int.reduceAdd, Int.reduceNeg])
      exact bad (by rw [cuOk, e0, hg, Bool.and_false]) _ (Heap.le_trans lB lB2)
    · (try simp (maxSteps := 1000000) (disch := first | assumption | (apply Ne.symm; assumption)) only [vz, vu, vv, eqS, eqFieldsV, ↓condV_t, ↓condV_f, tabs, reduceCtorEq, Array.toList, ↓reduceIte, Nat.reduceAdd, Nat.reduceLeDiff, Nat.reduceLT, Nat.reduceMul, Nat.reduceSub, Int.reduceToNat, Int.reduceSub, Int.reduceAdd, Int.reduceNeg])
      have hok : cuOk p ts n = true := by rw [cuOk, e0, hg, cuAsk, h1, h2]; rfl
      have hr2 : cuR p ts n = cubeN p ts n ts.length := by rw [cuR, hok, if_pos rfl, e0]
      have := hK (rowN q (cubeN p ts n ts.length)) (H.set q (cN (cubeN p ts n ts.length))) [q] (.inr ⟨q, by rw [hr2], by rw [hr2, Heap.set_same], rfl⟩) ⟨by simp, by simpa using hHq, Heap.le_set hHq⟩
      rw [hok] at this
      exact fin_le (Heap.set_le lB) this
theorem CubeOf_ref (p : Pg) (ts : List (List Nd)) (no : Int) (hp : vPg p) (hl : ts.length ≤ 1048576) (hv : ∀ t ∈ ts, vT t) : Pu Try.prog 6 [aPg p, Nss ts, I no] (.tup [Ns (cuR p ts no), B (cuOk p ts no)]) := by
  refine ⟨fun H => CallT.fin ?_⟩
  refine CallT.ghost W6_hb fun q0 hq0 => ?_
  refine W6_ok ?_; simp (maxSteps := 1000000) (disch := first | assumption | (apply Ne.symm; assumption)) only [W6, vz, vu, vv, eqS, eqFieldsV, ↓condV_t, ↓condV_f, tabs, reduceCtorEq, Array.toList, ↓reduceIte, Nat.reduceAdd, Nat.reduceLeDiff, Nat.reduceLT, Nat.reduceMul, Nat.reduceSub, Int.reduceToNat, Int.reduceSub, Int.reduceAdd, Int.reduceNeg]
  intro r h0r hr
  have m0r := Ne.symm h0r
  have hle : ∀ z, Heap.le H ((H.set q0 []).set r z) := fun z => Heap.le_setN (Heap.le_set hq0) hr
  have bad : cuOk p ts no = false → ∀ G, Heap.le H G → wkK (fun r H' => r = AV.tup [Ns (cuR p ts no), B (cuOk p ts no)] ∧ H' = H) (.tup [.p .nil, B false]) G := fun hk G hG => by
    refine ⟨_, _, .trans (.val (v' := .tup [Ns [], B false]) (wk_tup ⟨.nil, .refl _, trivial⟩)) (.forget hG), by simp [cuR, hk], rfl⟩
  (try simp (maxSteps := 1000000) (disch := first | assumption | (apply Ne.symm; assumption)) only [vz, vu, vv, eqS, eqFieldsV, ↓condV_t, ↓condV_f, tabs, reduceCtorEq, Array.toList, ↓reduceIte, Nat.reduceAdd, Nat.reduceLeDiff, Nat.reduceLT, Nat.reduceMul, Nat.reduceSub, Int.reduceToNat, Int.reduceSub, Int.reduceAdd, Int.reduceNeg])
  refine Pu.use (l8IsC_spec p no hp) ?_
  cases h1 : noB p no
  · (try simp (maxSteps := 1000000) (disch := first | assumption | (apply Ne.symm; assumption)) only [vz, vu, vv, eqS, eqFieldsV, ↓condV_t, ↓condV_f, tabs, reduceCtorEq, Array.toList, ↓reduceIte, Nat.reduceAdd, Nat.reduceLeDiff, Nat.reduceLT, Nat.reduceMul, Nat.reduceSub, Int.reduceToNat, Int.reduceSub, Int.reduceAdd, Int.reduceNeg])
    exact bad (by simp [cuOk, cuAsk, h1]) _ (hle _)
  (try simp (maxSteps := 1000000) (disch := first | assumption | (apply Ne.symm; assumption)) only [vz, vu, vv, eqS, eqFieldsV, ↓condV_t, ↓condV_f, tabs, reduceCtorEq, Array.toList, ↓reduceIte, Nat.reduceAdd, Nat.reduceLeDiff, Nat.reduceLT, Nat.reduceMul, Nat.reduceSub, Int.reduceToNat, Int.reduceSub, Int.reduceAdd, Int.reduceNeg])
  refine Pu.use (l15Preds_spec p ts hl hv) ?_
  cases h20 : okTs p ts 0
  · have h2 : okTs p ts 1 = false := by
      rw [Bool.eq_false_iff]; intro hh
      simp only [okTs, Bool.and_eq_true, decide_eq_true_eq] at hh h20
      rw [Bool.eq_false_iff] at h20
      exact h20 (by simp only [Bool.and_eq_true, decide_eq_true_eq]; exact ⟨⟨by omega, hh.1.2⟩, hh.2⟩)
    (try simp (maxSteps := 1000000) (disch := first | assumption | (apply Ne.symm; assumption)) only [vz, vu, vv, eqS, eqFieldsV, ↓condV_t, ↓condV_f, tabs, reduceCtorEq, Array.toList, ↓reduceIte, Nat.reduceAdd, Nat.reduceLeDiff, Nat.reduceLT, Nat.reduceMul, Nat.reduceSub, Int.reduceToNat, Int.reduceSub, Int.reduceAdd, Int.reduceNeg])
    exact bad (by simp [cuOk, cuAsk, h2]) _ (hle _)
  obtain ⟨hsm, n, rfl, hn, hn32⟩ := noB_nat h1
  have hs := smallP_of hsm
  obtain ⟨_, k8, kk⟩ := okTs_k h20
  (try simp (maxSteps := 1000000) (disch := first | assumption | (apply Ne.symm; assumption)) only [vz, vu, vv, eqS, eqFieldsV, ↓condV_t, ↓condV_f, tabs, reduceCtorEq, Array.toList, ↓reduceIte, Nat.reduceAdd, Nat.reduceLeDiff, Nat.reduceLT, Nat.reduceMul, Nat.reduceSub, Int.reduceToNat, Int.reduceSub, Int.reduceAdd, Int.reduceNeg])
  refine ⟨fun h3 => ?_, fun h3 => ?_⟩
  · have h2 : okTs p ts 1 = false := by
      rw [Bool.eq_false_iff]; intro hh
      have := (okTs_k hh).1; omega
    exact bad (by simp [cuOk, cuAsk, h2]) _ (hle _)
  have h2 : okTs p ts 1 = true := by
    simp only [okTs, Bool.and_eq_true, decide_eq_true_eq] at h20 ⊢
    exact ⟨⟨by omega, h20.1.2⟩, h20.2⟩
  have hle0 : Heap.le ((H.set r [I p.wide, I p.vars, Ns p.start, Cms p.cmds]).set q0 (cN (cubeN p ts n 0))) ((H.set q0 []).set r [I p.wide, I p.vars, Ns p.start, Cms p.cmds]) := by
    have e : cN (cubeN p ts n 0) = [] := rfl
    rw [e]
    clear bad hv kk
    (intro y b hy; simp only [Heap.set, Heap.del] at hy ⊢; (repeat' split at hy) <;> (repeat' split) <;> simp_all [cells])
  have lB := Heap.le_set (b := [I p.wide, I p.vars, Ns p.start, Cms p.cmds]) hr
  have gr : (H.set r [I p.wide, I p.vars, Ns p.start, Cms p.cmds]) r = some [I p.wide, I p.vars, Ns p.start, Cms p.cmds] := Heap.set_same _ _ _
  have hq0' : (H.set r [I p.wide, I p.vars, Ns p.start, Cms p.cmds]) q0 = none := by rw [Heap.set_other m0r]; exact hq0
  clear hq0
  have hq0 := hq0'
  generalize (H.set q0 []).set r [I p.wide, I p.vars, Ns p.start, Cms p.cmds] = GG at hle0 ⊢
  generalize H.set r [I p.wide, I p.vars, Ns p.start, Cms p.cmds] = B0 at lB gr hle0 hq0
  refine L6_0_rule ((0 : Nat), q0) (fun z => rowN z.2 (cubeN p ts n z.1)) (fun z => I z.1) (fun z => B0.set z.2 (cN (cubeN p ts n z.1))) (fun z => z.1 ≤ ts.length ∧ B0 z.2 = none) (fun z => ts.length - z.1)
    ⟨⟨by simp, hq0⟩, .nilo _ _ _, .refl _, hle0⟩ ?_
  rintro ⟨k, q⟩ ⟨hk, hq⟩
  dsimp only at hk hq
  have kr : ∀ {q c}, B0 q = none → (B0.set q c) r = some [I p.wide, I p.vars, Ns p.start, Cms p.cmds] := fun {q c} h => by
    rw [Heap.set_other (fun e => by rw [← e, gr] at h; cases h)]; exact gr
  have hcl := cubeN_len kk n k hk
  (try simp (maxSteps := 1000000) (disch := first | assumption | (apply Ne.symm; assumption)) only [vz, vu, vv, eqS, eqFieldsV, ↓condV_t, ↓condV_f, tabs, reduceCtorEq, Array.toList, ↓reduceIte, Nat.reduceAdd, Nat.reduceLeDiff, Nat.reduceLT, Nat.reduceMul, Nat.reduceSub, Int.reduceToNat, Int.reduceSub, Int.reduceAdd, Int.reduceNeg, B6_0])
  refine ⟨fun h3 => ⟨by omega, h3, ?_⟩, fun h3 => ?_⟩
  · have hlt : k < ts.length := by omega
    have hm : ts.getD k default ∈ ts := getD_all (p := fun x => x ∈ ts) (fun _ h => h) hlt
    have hkt := kk _ hm
    have htv := hv _ hm
    have htl := kind2_len hkt
    have hsucc : cubeN p ts n (k + 1) = ((cubeN p ts n k ++ ts.getD k default) ++ cubeK p (ts.getD k default) n) ++ (if 0 < k then [⟨17, 0⟩] else []) := rfl
    have e5 : IntKind.i64.wrap ((k : Int) + 1) = ((k + 1 : Nat) : Int) := by rw [i64_id (by omega) (by omega)]; simp
    -- behind the holding
    have fin : ∀ (N : AV → AV → Heap → Prop), (∀ q', B0 q' = none → N (rowN q' (cubeN p ts n (k + 1))) (I (k + 1 : Nat)) (B0.set q' (cN (cubeN p ts n (k + 1))))) →
        ∀ K q1, B0 q1 = none → J6_1 K N (I n) (.ptr r 0) (rowN q1 ((cubeN p ts n k ++ ts.getD k default) ++ cubeK p (ts.getD k default) n)) (I k) (Nss ts) (I ts.length) (I k) (B0.set q1 (cN ((cubeN p ts n k ++ ts.getD k default) ++ cubeK p (ts.getD k default) n))) := by
      intro N hN K q1 hq1
      unfold J6_1
      have h2 : (cubeK p (ts.getD k default) n).length ≤ 1 := by unfold cubeK; split <;> simp
      by_cases hk0 : 0 < k
      · have hk0' : (0 : Int) < k := by omega
        rw [if_pos hk0] at hsucc
        (try simp (maxSteps := 1000000) (disch := first | assumption | (apply Ne.symm; assumption)) only [vz, vu, vv, eqS, eqFieldsV, ↓condV_t, ↓condV_f, tabs, reduceCtorEq, Array.toList, ↓reduceIte, Nat.reduceAdd, Nat.reduceLeDiff, Nat.reduceLT, Nat.reduceMul, Nat.reduceSub, Int.reduceToNat, Int.reduceSub, Int.reduceAdd, Int.reduceNeg, hk0', decide_true])
        have hln : ((cubeN p ts n k ++ ts.getD k default) ++ cubeK p (ts.getD k default) n).length ≤ 100000 := by simp only [List.length_append]; omega
        refine push_topN (x := ⟨17, 0⟩) hq1 hln fun q' hq' => ?_
        rw [← hsucc]
        (try simp (maxSteps := 1000000) (disch := first | assumption | (apply Ne.symm; assumption)) only [vz, vu, vv, eqS, eqFieldsV, ↓condV_t, ↓condV_f, tabs, reduceCtorEq, Array.toList, ↓reduceIte, Nat.reduceAdd, Nat.reduceLeDiff, Nat.reduceLT, Nat.reduceMul, Nat.reduceSub, Int.reduceToNat, Int.reduceSub, Int.reduceAdd, Int.reduceNeg, e5])
        exact hN q' hq'
      · have hk0' : ¬ (0 : Int) < k := by omega
        rw [if_neg hk0, List.append_nil] at hsucc
        rw [← hsucc]
        (try simp (maxSteps := 1000000) (disch := first | assumption | (apply Ne.symm; assumption)) only [vz, vu, vv, eqS, eqFieldsV, ↓condV_t, ↓condV_f, tabs, reduceCtorEq, Array.toList, ↓reduceIte, Nat.reduceAdd, Nat.reduceLeDiff, Nat.reduceLT, Nat.reduceMul, Nat.reduceSub, Int.reduceToNat, Int.reduceSub, Int.reduceAdd, Int.reduceNeg, hk0', decide_false, e5])
        exact hN q1 hq1
    refine app_topN hq (by omega) fun q1 hq1 => ?_
    (try simp (maxSteps := 1000000) (disch := first | assumption | (apply Ne.symm; assumption)) only [vz, vu, vv, eqS, eqFieldsV, ↓condV_t, ↓condV_f, tabs, reduceCtorEq, Array.toList, ↓reduceIte, Nat.reduceAdd, Nat.reduceLeDiff, Nat.reduceLT, Nat.reduceMul, Nat.reduceSub, Int.reduceToNat, Int.reduceSub, Int.reduceAdd, Int.reduceNeg, load_at (kr hq1)])
    refine Pu.use (l7Of_spec p hs n (by omega)) ?_
    (try simp (maxSteps := 1000000) (disch := first | assumption | (apply Ne.symm; assumption)) only [vz, vu, vv, eqS, eqFieldsV, ↓condV_t, ↓condV_f, tabs, reduceCtorEq, Array.toList, ↓reduceIte, Nat.reduceAdd, Nat.reduceLeDiff, Nat.reduceLT, Nat.reduceMul, Nat.reduceSub, Int.reduceToNat, Int.reduceSub, Int.reduceAdd, Int.reduceNeg, load_at (kr hq1)])
    refine Pu.use (l7Holds_spec p hs _ htv _ (stP_len' _ _) (stP_lt' _ _) hkt) ?_
    have go : ∀ q', B0 q' = none → ∃ z : Nat × Nat, (z.1 ≤ ts.length ∧ B0 z.2 = none) ∧ ts.length - z.1 < ts.length - k ∧ (rowN q' (cubeN p ts n (k + 1))).wk (rowN z.2 (cubeN p ts n z.1)) ∧ (I (k + 1 : Nat)).wk (I z.1) ∧ (B0.set z.2 (cN (cubeN p ts n z.1))).le (B0.set q' (cN (cubeN p ts n (k + 1)))) :=
      fun q' hq' => ⟨(k + 1, q'), ⟨by simp only; omega, hq'⟩, by simp only; omega, .refl _, .refl _, Heap.le_refl _⟩
    cases hh : decide (tval p.wide.toNat (ts.getD k default) (stP p n) = 1)
    · have ec : cubeK p (ts.getD k default) n = [⟨19, 0⟩] := by
        have : holdP p (ts.getD k default) n = false := hh
        rw [cubeK, if_neg (by rw [this]; simp)]
      rw [ec] at fin
      (try simp (maxSteps := 1000000) (disch := first | assumption | (apply Ne.symm; assumption)) only [vz, vu, vv, eqS, eqFieldsV, ↓condV_t, ↓condV_f, tabs, reduceCtorEq, Array.toList, ↓reduceIte, Nat.reduceAdd, Nat.reduceLeDiff, Nat.reduceLT, Nat.reduceMul, Nat.reduceSub, Int.reduceToNat, Int.reduceSub, Int.reduceAdd, Int.reduceNeg])
      have hln : (cubeN p ts n k ++ ts.getD k default).length ≤ 100000 := by simp only [List.length_append]; omega
      refine push_topN (x := ⟨19, 0⟩) hq1 hln fun q2 hq2 => ?_
      refine fin _ ?_ _ q2 hq2
      exact go
    · have ec : cubeK p (ts.getD k default) n = [] := by
        have : holdP p (ts.getD k default) n = true := hh
        rw [cubeK, if_pos this]
      rw [ec, List.append_nil] at fin
      (try simp (maxSteps := 1000000) (disch := first | assumption | (apply Ne.symm; assumption)) only [vz, vu, vv, eqS, eqFieldsV, ↓condV_t, ↓condV_f, tabs, reduceCtorEq, Array.toList, ↓reduceIte, Nat.reduceAdd, Nat.reduceLeDiff, Nat.reduceLT, Nat.reduceMul, Nat.reduceSub, Int.reduceToNat, Int.reduceSub, Int.reduceAdd, Int.reduceNeg])
      refine fin _ ?_ _ q1 hq1
      exact go
  · have : k = ts.length := by omega
    subst this
    (try simp (maxSteps := 1000000) (disch := first | assumption | (apply Ne.symm; assumption)) only [vz, vu, vv, eqS, eqFieldsV, ↓condV_t, ↓condV_f, tabs, reduceCtorEq, Array.toList, ↓reduceIte, Nat.reduceAdd, Nat.reduceLeDiff, Nat.reduceLT, Nat.reduceMul, Nat.reduceSub, Int.reduceToNat, Int.reduceSub, Int.reduceAdd, Int.reduceNeg, load_at (kr hq)])
    have hvt : vT (cubeN p ts n ts.length) := ⟨by omega, cubeN_ok hv n _ (Nat.le_refl _)⟩
    have hHq : H q = none := by
      cases hh : H q with
      | none => rfl
      | some b => rw [lB _ _ hh] at hq; cases hq
    have e0 : cuT p ts n = cubeN p ts n ts.length := rfl
    have lB2 := Heap.le_set (b := cN (cubeN p ts n ts.length)) hq
    refine l2Made_row p.wide p.vars (cubeN p ts n ts.length) hvt (Heap.set_same _ _ _) (fun hg => ?_) (fun hg => ?_)
    · (try simp (maxSteps := 1000000) (disch := first | assumption | (apply Ne.symm; assumption)) only [vz, vu, vv, eqS, eqFieldsV, ↓condV_t, ↓condV_f, tabs, reduceCtorEq, Array.toList, ↓reduceIte, Nat.reduceAdd, Nat.reduceLeDiff, Nat.reduceLT, Nat.reduceMul, Nat.reduceSub, Int.reduceToNat, Int.reduceSub, Int.reduceAdd, Int.reduceNeg])
      exact bad (by rw [cuOk, e0, hg, Bool.and_false]) _ (Heap.le_trans lB lB2)
    · (try simp (maxSteps := 1000000) (disch := first | assumption | (apply Ne.symm; assumption)) only [vz, vu, vv, eqS, eqFieldsV, ↓condV_t, ↓condV_f, tabs, reduceCtorEq, Array.toList, ↓reduceIte, Nat.reduceAdd, Nat.reduceLeDiff, Nat.reduceLT, Nat.reduceMul, Nat.reduceSub, Int.reduceToNat, Int.reduceSub, Int.reduceAdd, Int.reduceNeg])
      have hok : cuOk p ts n = true := by rw [cuOk, e0, hg, cuAsk, h1, h2]; rfl
      have hr2 : cuR p ts n = cubeN p ts n ts.length := by rw [cuR, hok, if_pos rfl, e0]
      rw [hok, hr2]
      refine ⟨_, _, .trans (fin_nodes (Heap.set_same _ _ _)) (.forget ?_), rfl, rfl⟩
      rw [Heap.del_set hq]; exact lB
end Go.Proofs.Ytgcklgeifdefhaa
/- Rows of conditions that own their rows: copies, marks. -/
namespace Go.Proofs.Ytgcklgeifdefhaa
open Go Go.Sep Go.Pt
set_option linter.unusedSimpArgs false
set_option linter.unusedVariables false
attribute [local irreducible] CallT

def LNc : Lay (List Nd) := fun l cs G D => ∃ x, cs = [x] ∧ LN l x G D
abbrev LNN : List (List Nd) → AV → Heap → List Nat → Prop := LRow LNc 1
theorem LNc.local : Lay.Local LNc := by
  rintro c cs G G' D ⟨x, e, h⟩ hf
  exact ⟨x, e, LRow.local (LPl.local eN) h hf⟩
theorem LNc.size : Lay.Size LNc 1 := by
  rintro c cs G D ⟨x, rfl, h⟩; rfl
theorem LNc.has : Lay.Has LNc := by
  rintro c cs G D ⟨x, e, h⟩
  exact LRow.has (LPl.has eN) h
theorem LNc.frz : Lay.Frz LNc eNN := by
  rintro c cs G D v s pre post ⟨x, rfl, h⟩ hD hs hG
  obtain ⟨G', w, k, f⟩ := LRow.frzIn (e := eN) (sz := 2) (pre := pre) (post := post) (v := v) (by omega) (fun _ => rfl) (LPl.local eN) (LPl.frz eN) h hD hs (by rw [hG])
  exact ⟨G', w, by rw [k]; rfl, f⟩
theorem toNodeSS_live (xs : List (List Nd)) (hs : smNss xs) {H : Heap} {K : AV → Heap → Prop} (h : ∀ x G D, LNN xs x G D → New H G D → K x G) : CallT Try.prog 8 [Nss xs] H K := by
  have hl := hs.1
  refine W8_ok ?_; simp (maxSteps := 1000000) (disch := first | assumption | (apply Ne.symm; assumption)) only [W8, vz, vu, vv, eqS, eqFieldsV, ↓condV_t, ↓condV_f, tabs, reduceCtorEq, Array.toList, ↓reduceIte, Nat.reduceAdd, Nat.reduceLeDiff, Nat.reduceLT, Nat.reduceMul, Nat.reduceSub, Int.reduceToNat, Int.reduceSub, Int.reduceAdd, Int.reduceNeg, makeSliceV]
  refine ⟨by omega, by omega, by omega, by omega, fun q hq => ?_⟩
  refine L8_0_rule ((0 : Nat), H.set q (zerosA xs.length [.p .nil]), ([] : List Nat)) (fun s => I s.1) (fun s => s.2.1)
    (fun s => s.1 ≤ xs.length ∧ New H s.2.1 (q :: s.2.2) ∧ ∃ done, s.2.1 q = some (done ++ zerosA (xs.length - s.1) [.p .nil]) ∧ LL LNc (xs.take s.1) done s.2.1 s.2.2) (fun s => xs.length - s.1)
    ⟨⟨by simp, ⟨by simp, by simpa using hq, Heap.le_set hq⟩, [], by simp [Heap.set_same], ⟨rfl, rfl⟩⟩, .refl _, Heap.le_refl _⟩ ?_
  rintro ⟨i, G, D⟩ ⟨hi, hn, done, hG, hll⟩
  dsimp only at hi hn hG hll
  (try simp (maxSteps := 1000000) (disch := first | assumption | (apply Ne.symm; assumption)) only [vz, vu, vv, eqS, eqFieldsV, ↓condV_t, ↓condV_f, tabs, reduceCtorEq, Array.toList, ↓reduceIte, Nat.reduceAdd, Nat.reduceLeDiff, Nat.reduceLT, Nat.reduceMul, Nat.reduceSub, Int.reduceToNat, Int.reduceSub, Int.reduceAdd, Int.reduceNeg, B8_0])
  refine ⟨fun h => ⟨by omega, h, ?_⟩, fun h5 => ?_⟩
  · have hlt : i < xs.length := by omega
    have hm : xs.getD i default ∈ xs := getD_all (p := fun x => x ∈ xs) (fun _ h => h) hlt
    have hdl : done.length = i * 1 := by rw [LL.size LNc.size hll, List.length_take, Nat.min_eq_left hi]
    refine toNodeS_live (xs.getD i default) (hs.2 _ hm) fun x G1 D1 hc hn1 => ?_
    have hG1 := hn1.le q _ hG
    have hqD1 : q ∉ D1 := ne_of_new hn1 hG
    obtain ⟨qx, rfl⟩ := LRow.sl hc
    have hz : zerosA (xs.length - i) [.p .nil] = [.p .nil] ++ zerosA (xs.length - (i + 1)) [.p .nil] := by
      obtain ⟨m, hm⟩ : ∃ m, xs.length - i = m + 1 := ⟨xs.length - i - 1, by omega⟩
      rw [hm, zerosA_succ, show xs.length - (i + 1) = m by omega]
    have hput := splice_at (pre := done) (c := [.p .nil]) (c' := [.sl qx 2 0 (xs.getD i default).length]) (post := zerosA (xs.length - (i + 1)) [.p .nil]) (off := i * 1) (n := 1) hdl.symm rfl rfl
    rw [hz] at hG1
    have hzl : (zerosA (xs.length - (i + 1)) [AV.p .nil]).length = (xs.length - (i + 1)) * 1 := zerosA_len _ _
    (try simp (maxSteps := 1000000) (disch := first | assumption | (apply Ne.symm; assumption)) only [vz, vu, vv, eqS, eqFieldsV, ↓condV_t, ↓condV_f, tabs, reduceCtorEq, Array.toList, ↓reduceIte, Nat.reduceAdd, Nat.reduceLeDiff, Nat.reduceLT, Nat.reduceMul, Nat.reduceSub, Int.reduceToNat, Int.reduceSub, Int.reduceAdd, Int.reduceNeg, store_at hG1])
    generalize hxx : (AV.sl qx 2 0 (xs.getD i default).length) = x at hc hput ⊢
    refine ⟨by omega, h, by simp only [List.length_append, hdl, hzl, List.length_cons, List.length_nil]; omega, (i + 1, G1.set q (done ++ ([x] ++ zerosA (xs.length - (i + 1)) [.p .nil])), D ++ D1), ⟨by simp only; omega, ?_, done ++ [x], ?_, ?_⟩, by simp only; omega, ?_, ?_⟩
    · have ht := hn.trans hn1 (fun y hy => by
        rcases List.mem_cons.1 hy with rfl | hy
        · rw [hG]; simp
        · exact LL.has LNc.has hll y hy)
      exact ht.put hq _
    · show (G1.set q _) q = _
      rw [Heap.set_same, List.append_assoc]
    · show LL LNc (xs.take (i + 1)) (done ++ [x]) (G1.set q (done ++ ([x] ++ zerosA (xs.length - (i + 1)) [.p .nil]))) (D ++ D1)
      rw [take_succ_snoc hlt]
      refine LL.snoc (LNc.local _ _ _ _ _ ⟨x, rfl, hc⟩ fun y hy b hb => by rw [Heap.set_other (ne_mem hy hqD1)]; exact hb) (LL.local LNc.local hll fun y hy b hb => ?_)
      rw [Heap.set_other (fun e => ?_)]
      · exact hn1.le y b hb
      · have := hn.nd; rw [List.nodup_cons] at this; exact this.1 (e ▸ hy)
    · rw [wk_int, i64_id (by omega) (by omega)]; simp
    · have e : List.take (i * 1) (done ++ ([.p .nil] ++ zerosA (xs.length - (i + 1)) [.p .nil])) ++ [x] ++ List.drop (i * 1 + 1) (done ++ ([.p .nil] ++ zerosA (xs.length - (i + 1)) [.p .nil])) = done ++ ([x] ++ zerosA (xs.length - (i + 1)) [.p .nil]) := hput
      simp only
      rw [← e]
      first | exact Heap.le_refl _ | simp only [List.cons_append, List.nil_append, le_refl_true]
  · have : i = xs.length := by omega
    subst this
    rw [List.take_length] at hll
    refine h _ _ (q :: D) ⟨q, done, D, rfl, ?_, hll, rfl⟩ hn
    rw [hG]; simp [zerosA]

theorem nd3q {q : Nat} {A C E : List Nat} (h : (q :: (A ++ (C ++ E))).Nodup) : (q ∉ A ∧ q ∉ C ∧ q ∉ E) ∧ (∀ y ∈ A, y ∉ C) ∧ (∀ y ∈ E, y ∉ C) ∧ A.Nodup ∧ C.Nodup ∧ E.Nodup := by
  rw [List.nodup_cons, List.nodup_append, List.nodup_append] at h
  simp only [List.mem_append, not_or] at h
  refine ⟨h.1, fun y hy hc => h.2.2.2 y hy y (.inl hc) rfl, fun y hy hc => h.2.2.1.2.2 y hc y hy rfl, h.2.1, h.2.2.1.1, h.2.2.1.2.1⟩
theorem markNodeSS_live (xs : List (List Nd)) (hl : totNss xs ≤ 1048576) {x : AV} {G : Heap} {D : List Nat} (hx : LNN xs x G D) (hD : D.Nodup) {k : Int} (h0 : 0 ≤ k) (hk : k ≤ 800000000) {K : AV → Heap → Prop}
    (h : ∀ k' G', (∀ y, y ∉ D → G' y = G y) → k ≤ k' → k' ≤ k + 2 * totNss xs → K (I k') G') : CallT Try.prog 14 [x, I k] G K := by
  obtain ⟨q, cs, D', rfl, hq, hll, rfl⟩ := hx
  have hlen : xs.length ≤ 1048576 := by unfold totNss at hl; omega
  have htd : totNss xs = xs.length + psum totNL xs xs.length := rfl
  refine W14_ok ?_; simp (maxSteps := 1000000) (disch := first | assumption | (apply Ne.symm; assumption)) only [W14, vz, vu, vv, eqS, eqFieldsV, ↓condV_t, ↓condV_f, tabs, reduceCtorEq, Array.toList, ↓reduceIte, Nat.reduceAdd, Nat.reduceLeDiff, Nat.reduceLT, Nat.reduceMul, Nat.reduceSub, Int.reduceToNat, Int.reduceSub, Int.reduceAdd, Int.reduceNeg]
  refine L14_0_rule ((0 : Nat), G, ([] : List (List Nd)), k) (fun s => I s.2.2.2) (fun s => I s.1) (fun s => s.2.1) (fun s => s.1 ≤ xs.length ∧ Half LNc G q D' xs s.1 s.2.1 s.2.2.1 ∧ k ≤ s.2.2.2 ∧ s.2.2.2 ≤ k + 2 * (psum totNL xs s.1 : Nat)) (fun s => xs.length - s.1)
    ⟨⟨by simp, ⟨⟨[], cs, [], D', by simpa using hq, ⟨rfl, rfl⟩, by simpa using hll, rfl⟩, rfl, fun _ _ => rfl⟩, by simp, by simp [psum]⟩, .refl _, .refl _, Heap.le_refl _⟩ ?_
  rintro ⟨i, G1, done, k1⟩ ⟨hi, ⟨⟨cd, cr, Dd, Dr, e1, e2, e3, e4⟩, e5, e6⟩, hk1, hk2⟩
  dsimp only at hi e1 e2 e3 e4 e5 e6 hk1 hk2
  have hps := psum_le (f := totNL) (xs := xs) i
  (try simp (maxSteps := 1000000) (disch := first | assumption | (apply Ne.symm; assumption)) only [vz, vu, vv, eqS, eqFieldsV, ↓condV_t, ↓condV_f, tabs, reduceCtorEq, Array.toList, ↓reduceIte, Nat.reduceAdd, Nat.reduceLeDiff, Nat.reduceLT, Nat.reduceMul, Nat.reduceSub, Int.reduceToNat, Int.reduceSub, Int.reduceAdd, Int.reduceNeg, B14_0])
  refine ⟨fun h5 => ?_, fun h5 => ?_⟩
  · have hlt : i < xs.length := by omega
    have hsucc := psum_succ (f := totNL) hlt
    have hps2 := psum_le (f := totNL) (xs := xs) (i + 1)
    rw [drop_cons hlt] at e3
    obtain ⟨c, c2, Di, D2, rfl, rfl, ⟨x, rfl, hx⟩, f2⟩ := e3
    have hdl : cd.length = i * 1 := by rw [LL.size LNc.size e2, e5]
    subst e4
    obtain ⟨⟨q1, q2, q3⟩, dA, dE, nA, nC, nE⟩ := nd3q hD
    have htl : totNL (xs.getD i default) = (xs.getD i default).length := rfl
    generalize xs.getD i default = a at e1 hx hsucc htl
    have e1' : G1 q = some (cd ++ (x :: c2)) := e1
    have rd : (List.take 1 (List.drop (i * 1) (cd ++ (x :: c2)))).headD AV.any = x := by
      rw [List.drop_append, hdl, List.drop_of_length_le (by omega)]; simp
    (try simp (maxSteps := 1000000) (disch := first | assumption | (apply Ne.symm; assumption)) only [vz, vu, vv, eqS, eqFieldsV, ↓condV_t, ↓condV_f, tabs, reduceCtorEq, Array.toList, ↓reduceIte, Nat.reduceAdd, Nat.reduceLeDiff, Nat.reduceLT, Nat.reduceMul, Nat.reduceSub, Int.reduceToNat, Int.reduceSub, Int.reduceAdd, Int.reduceNeg, load_at e1', rd])
    refine ⟨by omega, h5, by omega, ?_⟩
    refine markNodeS_live a (by omega) hx nC (by omega) (by omega) fun k2 a' G2 hx3 hlen2 hfr hk3 hk4 => ?_
    (try simp (maxSteps := 1000000) (disch := first | assumption | (apply Ne.symm; assumption)) only [vz, vu, vv, eqS, eqFieldsV, ↓condV_t, ↓condV_f, tabs, reduceCtorEq, Array.toList, ↓reduceIte, Nat.reduceAdd, Nat.reduceLeDiff, Nat.reduceLT, Nat.reduceMul, Nat.reduceSub, Int.reduceToNat, Int.reduceSub, Int.reduceAdd, Int.reduceNeg])
    refine ⟨(i + 1, G2, done ++ [a'], k2), ⟨by simp only; omega, ⟨⟨cd ++ [x], c2, Dd ++ Di, D2, ?_, ?_, ?_, by simp⟩, by simp only [List.length_append, List.length_cons, List.length_nil, e5], fun y hy => ?_⟩, by simp only; omega, by simp only; omega⟩, by simp only; omega, .refl _, ?_, Heap.le_refl _⟩
    · show G2 q = _
      rw [hfr q q2, e1]; simp
    · show LL LNc (done ++ [a']) _ _ _
      exact LL.snoc (L := LNc) (a := a') ⟨x, rfl, hx3⟩ (LL.local LNc.local e2 fun y hy b hb => by show G2 y = some b; rw [hfr y (dA y hy)]; exact hb)
    · exact LL.local LNc.local f2 fun y hy b hb => by show G2 y = some b; rw [hfr y (dE y hy)]; exact hb
    · have hy' := hy
      simp only [List.mem_cons, List.mem_append, not_or] at hy'
      show G2 y = _
      rw [hfr y (by first | exact hy'.2.2.1 | exact hy'.2.1.2)]; exact e6 y hy
    · rw [wk_int, i64_id (by omega) (by omega)]; simp
  · have : i = xs.length := by omega
    subst this
    exact h k1 G1 e6 hk1 (by omega)

def tNN (xs : List (List Nd)) (v : AV) (D : List Nat) : Th := ⟨D, fun G => LNN xs v G D, fun h f => LRow.local LNc.local h f, fun h => LRow.has LNc.has h⟩
theorem LNN.wk {xs : List (List Nd)} {x : AV} {G : Heap} {D : List Nat} (h : LNN xs x G D) (hD : D.Nodup) (C : AV → AV) (hC : ∀ {r sz es a a'}, FrzR r sz es a a' → FrzR r sz es (C a) (C a')) : ∃ G', Wk (C x) G (C (Nss xs)) G' ∧ ∀ y, y ∉ D → G' y = G y :=
  LRow.frzV (e := eNN) (sz := 1) (v := C x) (v' := C (Nss xs)) (by omega) (fun _ => rfl) LNc.local LNc.frz h hD (fun r _ hr => hC hr)
theorem LNN.eq {xs : List (List Nd)} {x : AV} {G : Heap} {D : List Nat} (h : LNN xs x G D) (hD : D.Nodup) (hs : smNss xs) {K : AV → Heap → Prop} (k : K (B true) G) : CallT Try.prog 12 [x, Nss xs] G K := by
  obtain ⟨G1, w1, _⟩ := LNN.wk h hD (fun v => .tup [v, Nss xs]) (fun h => .tup (.cons h (.cons (.same _) .nil)))
  exact Pu.thaw (eqNodeSS_spec xs hs) (.bool _) w1 k
end Go.Proofs.Ytgcklgeifdefhaa
/- Answers of one's own: called with what is live; things that are lost. -/
namespace Go.Sep
open Go Go.RowKit Go.Proofs.Ytgcklgeifdefhaa
set_option linter.unusedVariables false

/-- Answers that may be moved on: what they are, in a heap, with the blocks they own. -/
structure ResU (R : AV → Heap → List Nat → Prop) : Prop where
  loc : ∀ {r G G' D}, R r G D → (∀ y ∈ D, ∀ b, G y = some b → G' y = some b) → R r G' D
  gd : ∀ {r G D}, R r G D → Gd2 r ∧ ∀ y ∈ D, ∀ bs, G y = some bs → ∀ c ∈ bs, GdC c
  sh : ∀ {r G D n G0}, (∀ q, n ≤ q → G0 q = none) → R r G D → R (sh2 n r) (Heap.or G0 (shH n G)) (D.map (· + n))
/-- A function whose answer is of its own, called with what is live. -/
theorem thawU {R : AV → Heap → List Nat → Prop} (hR : ResU R) {P : Program} {f : Nat} {args args' : List AV} {G G1 : Heap} {K : AV → Heap → Prop}
    (hf : ∀ {K : AV → Heap → Prop}, (∀ r G D, R r G D → New (fun _ => none) G D → K r G) → CallT P f args' (fun _ => none) K)
    (hw : Wk (.tup args) G (.tup args') G1) (h : ∀ r G' D, R r G' D → New G G' D → K r G') : CallT P f args G K := by
  refine CallT.thawX (Q' := fun r H' => ∃ D, R r H' D ∧ D.Nodup ∧ ∀ y, y ∉ D → H' y = none) ?_ ?_ hw ?_
  · refine CallT.fin (hf fun r G D hl hn => ⟨_, only D G, .forget (only_le D G), D, hR.loc hl fun y hy b hb => by rw [only_in hy]; exact hb, hn.nd, fun y hy => only_out hy⟩)
  · rintro r H' ⟨D, hl, _, hout⟩
    refine ⟨(hR.gd hl).1, fun q cs hq => ?_⟩
    by_cases hD : q ∈ D
    · exact (hR.gd hl).2 q hD cs hq
    · rw [hout q hD] at hq; cases hq
  · rintro r H' n ⟨D, hl, hnd, hout⟩ hn
    refine h _ _ (D.map (· + n)) (hR.sh hn hl) ⟨?_, fun y hy => ?_, fun y b hb => by simp only [Heap.or, hb]⟩
    · exact List.pairwise_map.2 (hnd.imp fun h e => h (Nat.add_right_cancel e))
    · obtain ⟨z, _, rfl⟩ := List.mem_map.1 hy
      exact hn _ (by omega)
end Go.Sep
namespace Go.Proofs.Ytgcklgeifdefhaa
open Go Go.Sep Go.Pt
set_option linter.unusedSimpArgs false
set_option linter.unusedVariables false
attribute [local irreducible] CallT

theorem _root_.Go.Sep.St.lose {H G G' : Heap} {Ts : List Th} {t : Th} (s : St H Ts G) (i : Nat) (h : Ts[i]? = some t) (hf : ∀ y, y ∉ t.D → G' y = G y) : St H (Ts.eraseIdx i) G' := by
  have s1 := s.pick i h
  have hnd := s1.nd
  rw [List.flatMap_cons, List.nodup_append] at hnd
  refine ⟨fun y b hb => ?_, hnd.2.1, fun u hu => s1.fr u (List.mem_cons_of_mem _ hu), fun u hu => u.loc (s1.ok u (List.mem_cons_of_mem _ hu)) fun y hy b hb => ?_⟩
  · rw [hf y (s1.wkNone y b hb t (List.mem_cons_self ..))]; exact s1.le y b hb
  · rw [hf y (fun hm => hnd.2.2 y hm y (List.mem_flatMap.2 ⟨u, hu, hy⟩) rfl)]; exact hb
def tP (p : Pg) (v : AV) (D : List Nat) : Th := ⟨D, fun G => LPg p v G D, fun h f => LPg.local h f, fun h => LPg.has h⟩
theorem LPg.eqP {p : Pg} {v : AV} {G : Heap} {D : List Nat} (g : LPg p v G D) (hD : D.Nodup) (hp : smPg p) {K : AV → Heap → Prop} (h : K (B true) G) : CallT Try.prog 11 [v, aPg p] G K := by
  obtain ⟨G1, w1, f1⟩ := g.wk hD (fun v => .tup [v, aPg p]) (fun h => .tup (.cons h (.cons (.same _) .nil)))
  exact Pu.thaw (eqProgram_spec p hp) (.bool _) w1 h
theorem LPg.sl {p : Pg} {v : AV} {G : Heap} {D : List Nat} (h : LPg p v G D) : ∃ q1 q2, v = .agg [I p.wide, I p.vars, .sl q1 2 0 p.start.length, .sl q2 2 0 p.cmds.length] := by
  obtain ⟨x, y, E1, E2, rfl, rfl, hx, hy⟩ := h
  obtain ⟨qx, rfl⟩ := LRow.sl hx
  obtain ⟨qy, rfl⟩ := LRow.sl hy
  exact ⟨qx, qy, rfl⟩

end Go.Proofs.Ytgcklgeifdefhaa
/- The law on CubeOf. -/
namespace Go.Proofs.Ytgcklgeifdefhaa
open Go Go.Sep Go.Pt
set_option linter.unusedSimpArgs false
set_option linter.unusedVariables false
attribute [local irreducible] CallT

theorem RT.local {t : List Nd} {v : AV} {G G' : Heap} {D : List Nat} (h : RT t v G D) (hf : ∀ y ∈ D, ∀ b, G y = some b → G' y = some b) : RT t v G' D := by
  rcases h with h | ⟨q, rfl, hq, rfl⟩
  · exact .inl h
  · exact .inr ⟨q, rfl, hf q (by simp) _ hq, rfl⟩
theorem RT.has {t : List Nd} {v : AV} {G : Heap} {D : List Nat} (h : RT t v G D) : ∀ y ∈ D, G y ≠ none := by
  rcases h with ⟨_, _, rfl⟩ | ⟨q, rfl, hq, rfl⟩
  · intro y hy; cases hy
  · intro y hy; rw [List.mem_singleton.1 hy, hq]; simp
def tRT (t : List Nd) (v : AV) (D : List Nat) : Th := ⟨D, fun G => RT t v G D, fun h f => h.local f, fun h => h.has⟩
theorem RT.cell {t : List Nd} {v : AV} {G : Heap} {D : List Nat} (h : RT t v G D) : v = .p .nil ∨ ∃ q, v = rowN q t := by
  rcases h with ⟨_, rfl, _⟩ | ⟨q, rfl, _⟩
  · exact .inl rfl
  · exact .inr ⟨q, rfl⟩
def RTt (t : List Nd) (ok : Bool) (r : AV) (G : Heap) (D : List Nat) : Prop := ∃ v, r = .tup [v, B ok] ∧ RT t v G D
theorem cN_shift (t : List Nd) (n : Nat) : (cN t).map (shC n) = cN t := by
  rw [cN, cells]
  rw [List.map_map]; rfl
theorem cN_gd {t : List Nd} {c : AV} (hc : c ∈ cN t) : GdC c := by
  simp only [cN, cells, List.mem_map, List.mem_flatten] at hc
  obtain ⟨x, ⟨l, ⟨a, _, rfl⟩, hx⟩, rfl⟩ := hc
  simp only [eN, List.mem_cons, List.not_mem_nil, or_false] at hx
  rcases hx with rfl | rfl <;> exact .p (.int _ _)
theorem RTt.res (t : List Nd) (ok : Bool) : ResU (RTt t ok) := by
  refine ⟨?_, ?_, ?_⟩
  · rintro r G G' D ⟨v, rfl, h⟩ hf
    exact ⟨v, rfl, h.local hf⟩
  · rintro r G D ⟨v, rfl, h⟩
    have gb : Gd1 (B ok) := .inr ⟨.p (.bool ok), fun _ => rfl⟩
    have gv : Gd1 v ∧ ∀ y ∈ D, ∀ bs, G y = some bs → ∀ c ∈ bs, GdC c := by
      rcases h with ⟨_, rfl, rfl⟩ | ⟨q, rfl, hq, rfl⟩
      · exact ⟨.inr ⟨.p .nil, fun _ => rfl⟩, fun y hy => by cases hy⟩
      · refine ⟨.inr ⟨.inl ⟨_, _, _, _, rfl⟩, fun _ => rfl⟩, fun y hy bs hb c hc => ?_⟩
        rw [List.mem_singleton.1 hy, hq] at hb; cases hb
        exact cN_gd hc
    refine ⟨.inl ⟨_, rfl, fun u hu => ?_⟩, gv.2⟩
    rcases List.mem_cons.1 hu with rfl | hu
    · exact gv.1
    · rw [List.mem_singleton] at hu; rw [hu]; exact gb
  · rintro r G D n G0 h0 ⟨v, rfl, h⟩
    rcases h with ⟨rfl, rfl, rfl⟩ | ⟨q, rfl, hq, rfl⟩
    · exact ⟨_, rfl, .inl ⟨rfl, rfl, rfl⟩⟩
    · refine ⟨_, rfl, .inr ⟨q + n, rfl, ?_, rfl⟩⟩
      simp only [Heap.or, h0 (q + n) (by omega), shH, Nat.le_add_left, if_true, Nat.add_sub_cancel, hq, Option.map_some, cN_shift]
theorem RT.eq {t : List Nd} {v : AV} {G : Heap} {D : List Nat} (h : RT t v G D) (hl : t.length ≤ 1048576) {K : AV → Heap → Prop} (k : K (B true) G) : CallT Try.prog 10 [v, Ns t] G K := by
  rcases h with ⟨rfl, rfl, rfl⟩ | ⟨q, rfl, hq, rfl⟩
  · exact eqN_nil k
  · exact eqN_row hq hl k
theorem RT.mark {t : List Nd} {v : AV} {G : Heap} {D : List Nat} (hx : RT t v G D) (hl : t.length ≤ 1048576) {K : AV → Heap → Prop}
    (h : ∀ G', RT (markN 1 t.length) v G' D → (∀ y, y ∉ D → G' y = G y) → K (I (1 + 2 * t.length)) G') : CallT Try.prog 15 [v, I 1] G K := by
  rcases hx with ⟨rfl, rfl, rfl⟩ | ⟨q, rfl, hq, rfl⟩
  · have := h G (.inl ⟨rfl, rfl, rfl⟩) (fun _ _ => rfl)
    simp only [List.length_nil, Int.ofNat_zero, Int.mul_zero, Int.add_zero] at this
    exact markN_nil this
  · have hml := markN_len 1 t.length
    refine markNodeS_row t hl (by omega) (by omega) hq (h _ (.inr ⟨q, by rw [rowN, rowN, hml], Heap.set_same _ _ _, rfl⟩) fun z hz => ?_)
    rw [List.mem_singleton] at hz; exact Heap.set_other hz
theorem RT.held {n : Nat} {v : AV} {G : Heap} {D : List Nat} (h : RT (markN 1 n) v G D) (hl : n ≤ 1048576) {K : AV → Heap → Prop} (k : K (I (1 + 2 * n)) G) : CallT Try.prog 16 [v, I 1] G K := by
  rcases h with ⟨h0, rfl, rfl⟩ | ⟨q, rfl, hq, rfl⟩
  · have : n = 0 := by
      have := congrArg List.length h0
      simpa [markN_len] using this
    subst this
    exact held_nilN (by simpa using k)
  · have hml := markN_len 1 n
    rw [rowN, hml]
    exact held_rowN hq hl k
theorem wkPNI {p : Pg} {ts : List (List Nd)} {no : Int} {v x : AV} {D E : List Nat} {G : Heap} (h1 : LPg p v G D) (hD : D.Nodup) (h2 : LNN ts x G E) (hE : E.Nodup) (dj : ∀ y ∈ E, y ∉ D) : ∃ G', Wk (.tup [v, x, I no]) G (.tup [aPg p, Nss ts, I no]) G' := by
  obtain ⟨G1, w1, f1⟩ := h1.wk hD (fun v => .tup [v, x, I no]) (fun h => .tup (.cons h (.cons (.same _) (.cons (.same _) .nil))))
  have h2' := LRow.local LNc.local h2 (G' := G1) fun u hu b hb => by rw [f1 u (dj u hu)]; exact hb
  obtain ⟨G2, w2, f2⟩ := LNN.wk h2' hE (fun v => .tup [aPg p, v, I no]) (fun h => .tup (.cons (.same _) (.cons h (.cons (.same _) .nil))))
  exact ⟨_, .trans w1 w2⟩
theorem cuR_len (p : Pg) (ts : List (List Nd)) (no : Int) : (cuR p ts no).length ≤ 400 := by
  unfold cuR
  split
  · rename_i h
    simp only [cuOk, cuAsk, Bool.and_eq_true] at h
    obtain ⟨_, k8, kk⟩ := okTs_k h.1.2
    have := cubeN_len kk no.toNat ts.length (Nat.le_refl _)
    show (cubeN p ts no.toNat ts.length).length ≤ 400
    omega
  · simp
set_option maxRecDepth 20000 in
set_option maxHeartbeats 1000000 in
theorem FnExactCubeOf_true {p : Pg} {ts : List (List Nd)} {no : Int} (hok : okPg p) (hn : nPg p) (hb : okNss ts) (hnt : nTs ts) : Pu Try.prog 3 [aPg p, Nss ts, I no] (B true) := by
  refine Pu.of fun H => ?_
  refine W3_ok ?_; simp (maxSteps := 1000000) (disch := first | assumption | (apply Ne.symm; assumption)) only [W3, vz, vu, vv, eqS, eqFieldsV, ↓condV_t, ↓condV_f, tabs, reduceCtorEq, Array.toList, ↓reduceIte, Nat.reduceAdd, Nat.reduceLeDiff, Nat.reduceLT, Nat.reduceMul, Nat.reduceSub, Int.reduceToNat, Int.reduceSub, Int.reduceAdd, Int.reduceNeg]
  intro r hr
  have st := (St.nil H).cell hr [I p.wide, I p.vars, Ns p.start, Cms p.cmds]
  generalize H.set r [I p.wide, I p.vars, Ns p.start, Cms p.cmds] = G0 at st ⊢
  (try simp (maxSteps := 1000000) (disch := first | assumption | (apply Ne.symm; assumption)) only [vz, vu, vv, eqS, eqFieldsV, ↓condV_t, ↓condV_f, tabs, reduceCtorEq, Array.toList, ↓reduceIte, Nat.reduceAdd, Nat.reduceLeDiff, Nat.reduceLT, Nat.reduceMul, Nat.reduceSub, Int.reduceToNat, Int.reduceSub, Int.reduceAdd, Int.reduceNeg, load_at (st.get 0 rfl)])
  refine Pu.use (szProgram_spec p 1048576 (by omega) (by omega) hok) ?_
  (try simp (maxSteps := 1000000) (disch := first | assumption | (apply Ne.symm; assumption)) only [vz, vu, vv, eqS, eqFieldsV, ↓condV_t, ↓condV_f, tabs, reduceCtorEq, Array.toList, ↓reduceIte, Nat.reduceAdd, Nat.reduceLeDiff, Nat.reduceLT, Nat.reduceMul, Nat.reduceSub, Int.reduceToNat, Int.reduceSub, Int.reduceAdd, Int.reduceNeg, load_at (st.get 0 rfl)])
  refine ⟨fun _ => st.le, fun h1 => ?_⟩
  obtain ⟨t1, e1⟩ := szR_nonneg h1
  rw [e1]
  have hsm := sm_of_tot (by omega : (totPg p : Int) ≤ 1048576)
  have hv := v_of hsm hn
  refine Pu.use (szNodeSS_spec ts _ (by omega) (by omega) hb) ?_
  (try simp (maxSteps := 1000000) (disch := first | assumption | (apply Ne.symm; assumption)) only [vz, vu, vv, eqS, eqFieldsV, ↓condV_t, ↓condV_f, tabs, reduceCtorEq, Array.toList, ↓reduceIte, Nat.reduceAdd, Nat.reduceLeDiff, Nat.reduceLT, Nat.reduceMul, Nat.reduceSub, Int.reduceToNat, Int.reduceSub, Int.reduceAdd, Int.reduceNeg, load_at (st.get 0 rfl)])
  refine ⟨fun _ => st.le, fun h2 => ?_⟩
  obtain ⟨t2, e2⟩ := szR_nonneg h2
  have hst := smNss_of_tot (by omega : (totNss ts : Int) ≤ 1048576)
  have hvt := vT_of hst hnt
  refine Pu.use (toProgram_spec p hsm) ?_
  refine Pu.use (toNodeSS_spec ts hst) ?_
  refine Pu.use (CubeOf_ref p ts no hv hst.1 hvt) ?_
  have hres := cuR_len p ts no
  have hI : ∀ {H : Heap} {K : AV → Heap → Prop}, (∀ v G D, RT (cuR p ts no) v G D → New H G D → K (.tup [v, B (cuOk p ts no)]) G) → CallT Try.prog 9 [aPg p, Nss ts, I no] H K := CubeOf_impl p ts no hv hst.1 hvt
  generalize cuR p ts no = o at hres hI
  generalize cuOk p ts no = ok at hI
  (try simp (maxSteps := 1000000) (disch := first | assumption | (apply Ne.symm; assumption)) only [vz, vu, vv, eqS, eqFieldsV, ↓condV_t, ↓condV_f, tabs, reduceCtorEq, Array.toList, ↓reduceIte, Nat.reduceAdd, Nat.reduceLeDiff, Nat.reduceLT, Nat.reduceMul, Nat.reduceSub, Int.reduceToNat, Int.reduceSub, Int.reduceAdd, Int.reduceNeg, load_at (st.get 0 rfl)])
  refine toProgram_live p hsm fun v G1 D1 hP hn1 => ?_
  replace st := st.push (tP p v D1) hn1 hP
  obtain ⟨qx, qy, rfl⟩ := hP.sl
  clear hP hn1
  (try simp (maxSteps := 1000000) (disch := first | assumption | (apply Ne.symm; assumption)) only [vz, vu, vv, eqS, eqFieldsV, ↓condV_t, ↓condV_f, tabs, reduceCtorEq, Array.toList, ↓reduceIte, Nat.reduceAdd, Nat.reduceLeDiff, Nat.reduceLT, Nat.reduceMul, Nat.reduceSub, Int.reduceToNat, Int.reduceSub, Int.reduceAdd, Int.reduceNeg])
  intro z hz
  replace st := st.cell hz [I p.wide, I p.vars, .sl qx 2 0 p.start.length, .sl qy 2 0 p.cmds.length]
  (try simp (maxSteps := 1000000) (disch := first | assumption | (apply Ne.symm; assumption)) only [vz, vu, vv, eqS, eqFieldsV, ↓condV_t, ↓condV_f, tabs, reduceCtorEq, Array.toList, ↓reduceIte, Nat.reduceAdd, Nat.reduceLeDiff, Nat.reduceLT, Nat.reduceMul, Nat.reduceSub, Int.reduceToNat, Int.reduceSub, Int.reduceAdd, Int.reduceNeg])
  generalize G1.set z [I p.wide, I p.vars, .sl qx 2 0 p.start.length, .sl qy 2 0 p.cmds.length] = G2 at st ⊢
  refine toNodeSS_live ts hst fun x G3 D3 hS hn3 => ?_
  replace st := st.push (tNN ts x D3) hn3 hS
  clear hS hn3
  (try simp (maxSteps := 1000000) (disch := first | assumption | (apply Ne.symm; assumption)) only [vz, vu, vv, eqS, eqFieldsV, ↓condV_t, ↓condV_f, tabs, reduceCtorEq, Array.toList, ↓reduceIte, Nat.reduceAdd, Nat.reduceLeDiff, Nat.reduceLT, Nat.reduceMul, Nat.reduceSub, Int.reduceToNat, Int.reduceSub, Int.reduceAdd, Int.reduceNeg, load_at (st.get 1 rfl)])
  obtain ⟨Gw, hw⟩ := wkPNI (no := no) (st.get 2 rfl) (st.ndT 2 rfl) (st.get 0 rfl) (st.ndT 0 rfl) (st.disjI 0 2 rfl rfl (by omega))
  refine thawU (RTt.res o ok) (fun hK => hI fun v G D h1 h2 => hK _ _ _ ⟨v, rfl, h1⟩ h2) hw fun rr G7 D7 hr7 hn7 => ?_
  obtain ⟨vr, rfl, hrs⟩ := hr7
  replace st := st.push (tRT o vr D7) hn7 hrs
  clear hrs hn7 hw
  (try simp (maxSteps := 1000000) (disch := first | assumption | (apply Ne.symm; assumption)) only [vz, vu, vv, eqS, eqFieldsV, ↓condV_t, ↓condV_f, tabs, reduceCtorEq, Array.toList, ↓reduceIte, Nat.reduceAdd, Nat.reduceLeDiff, Nat.reduceLT, Nat.reduceMul, Nat.reduceSub, Int.reduceToNat, Int.reduceSub, Int.reduceAdd, Int.reduceNeg])
  refine RT.eq (st.get 0 rfl) (by omega) ?_
  (try simp (maxSteps := 1000000) (disch := first | assumption | (apply Ne.symm; assumption)) only [vz, vu, vv, eqS, eqFieldsV, ↓condV_t, ↓condV_f, tabs, reduceCtorEq, Array.toList, ↓reduceIte, Nat.reduceAdd, Nat.reduceLeDiff, Nat.reduceLT, Nat.reduceMul, Nat.reduceSub, Int.reduceToNat, Int.reduceSub, Int.reduceAdd, Int.reduceNeg, load_at (st.get 2 rfl), load_at (st.get 4 rfl)])
  refine Pu.use (toProgram_spec p hsm) ?_
  (try simp (maxSteps := 1000000) (disch := first | assumption | (apply Ne.symm; assumption)) only [vz, vu, vv, eqS, eqFieldsV, ↓condV_t, ↓condV_f, tabs, reduceCtorEq, Array.toList, ↓reduceIte, Nat.reduceAdd, Nat.reduceLeDiff, Nat.reduceLT, Nat.reduceMul, Nat.reduceSub, Int.reduceToNat, Int.reduceSub, Int.reduceAdd, Int.reduceNeg, load_at (st.get 2 rfl)])
  refine (st.get 3 rfl : LPg _ _ _ _).eqP (st.ndT 3 rfl) hsm ?_
  (try simp (maxSteps := 1000000) (disch := first | assumption | (apply Ne.symm; assumption)) only [vz, vu, vv, eqS, eqFieldsV, ↓condV_t, ↓condV_f, tabs, reduceCtorEq, Array.toList, ↓reduceIte, Nat.reduceAdd, Nat.reduceLeDiff, Nat.reduceLT, Nat.reduceMul, Nat.reduceSub, Int.reduceToNat, Int.reduceSub, Int.reduceAdd, Int.reduceNeg])
  refine Pu.use (toNodeSS_spec ts hst) ?_
  refine LNN.eq (st.get 1 rfl) (st.ndT 1 rfl) hst ?_
  (try simp (maxSteps := 1000000) (disch := first | assumption | (apply Ne.symm; assumption)) only [vz, vu, vv, eqS, eqFieldsV, ↓condV_t, ↓condV_f, tabs, reduceCtorEq, Array.toList, ↓reduceIte, Nat.reduceAdd, Nat.reduceLeDiff, Nat.reduceLT, Nat.reduceMul, Nat.reduceSub, Int.reduceToNat, Int.reduceSub, Int.reduceAdd, Int.reduceNeg, load_at (st.get 2 rfl)])
  refine markProgram_live p (by omega) (st.get 3 rfl) (st.ndT 3 rfl) (by omega) (by omega) fun k' G9 hfr hk1 hk2 => ?_
  replace st := st.lose 3 rfl hfr
  clear hfr
  simp only [List.eraseIdx_cons_succ, List.eraseIdx_cons_zero] at st
  (try simp (maxSteps := 1000000) (disch := first | assumption | (apply Ne.symm; assumption)) only [vz, vu, vv, eqS, eqFieldsV, ↓condV_t, ↓condV_f, tabs, reduceCtorEq, Array.toList, ↓reduceIte, Nat.reduceAdd, Nat.reduceLeDiff, Nat.reduceLT, Nat.reduceMul, Nat.reduceSub, Int.reduceToNat, Int.reduceSub, Int.reduceAdd, Int.reduceNeg])
  refine markNodeSS_live ts (by omega) (st.get 1 rfl) (st.ndT 1 rfl) (by omega) (by omega) fun k2 G10 hfr hk3 hk4 => ?_
  replace st := st.lose 1 rfl hfr
  clear hfr
  simp only [List.eraseIdx_cons_succ, List.eraseIdx_cons_zero] at st
  (try simp (maxSteps := 1000000) (disch := first | assumption | (apply Ne.symm; assumption)) only [vz, vu, vv, eqS, eqFieldsV, ↓condV_t, ↓condV_f, tabs, reduceCtorEq, Array.toList, ↓reduceIte, Nat.reduceAdd, Nat.reduceLeDiff, Nat.reduceLT, Nat.reduceMul, Nat.reduceSub, Int.reduceToNat, Int.reduceSub, Int.reduceAdd, Int.reduceNeg])
  refine ⟨fun h => by omega, fun _ => ?_⟩
  refine RT.eq (st.get 0 rfl) (by omega) ?_
  (try simp (maxSteps := 1000000) (disch := first | assumption | (apply Ne.symm; assumption)) only [vz, vu, vv, eqS, eqFieldsV, ↓condV_t, ↓condV_f, tabs, reduceCtorEq, Array.toList, ↓reduceIte, Nat.reduceAdd, Nat.reduceLeDiff, Nat.reduceLT, Nat.reduceMul, Nat.reduceSub, Int.reduceToNat, Int.reduceSub, Int.reduceAdd, Int.reduceNeg])
  refine RT.mark (st.get 0 rfl) (by omega) fun G12 hrs hfr => ?_
  replace st := st.upd 0 rfl (tRT (markN 1 o.length) vr D7) rfl hfr hrs
  clear hfr hrs
  (try simp (maxSteps := 1000000) (disch := first | assumption | (apply Ne.symm; assumption)) only [vz, vu, vv, eqS, eqFieldsV, ↓condV_t, ↓condV_f, tabs, reduceCtorEq, Array.toList, ↓reduceIte, Nat.reduceAdd, Nat.reduceLeDiff, Nat.reduceLT, Nat.reduceMul, Nat.reduceSub, Int.reduceToNat, Int.reduceSub, Int.reduceAdd, Int.reduceNeg])
  refine RT.held (st.get 0 rfl) (by omega) ?_
  (try simp (maxSteps := 1000000) (disch := first | assumption | (apply Ne.symm; assumption)) only [vz, vu, vv, eqS, eqFieldsV, ↓condV_t, ↓condV_f, tabs, reduceCtorEq, Array.toList, ↓reduceIte, Nat.reduceAdd, Nat.reduceLeDiff, Nat.reduceLT, Nat.reduceMul, Nat.reduceSub, Int.reduceToNat, Int.reduceSub, Int.reduceAdd, Int.reduceNeg, load_at (st.get 2 rfl)])
  refine ⟨fun h => by omega, fun _ => ?_⟩
  refine Pu.use (toProgram_spec p hsm) ?_
  refine Pu.use (toNodeSS_spec ts hst) ?_
  refine hI fun v G13 E hrs hn13 => ?_
  replace st := st.push (tRT o v E) hn13 hrs
  clear hrs hn13
  (try simp (maxSteps := 1000000) (disch := first | assumption | (apply Ne.symm; assumption)) only [vz, vu, vv, eqS, eqFieldsV, ↓condV_t, ↓condV_f, tabs, reduceCtorEq, Array.toList, ↓reduceIte, Nat.reduceAdd, Nat.reduceLeDiff, Nat.reduceLT, Nat.reduceMul, Nat.reduceSub, Int.reduceToNat, Int.reduceSub, Int.reduceAdd, Int.reduceNeg])
  refine RT.eq (st.get 0 rfl) (by omega) ?_
  (try simp (maxSteps := 1000000) (disch := first | assumption | (apply Ne.symm; assumption)) only [vz, vu, vv, eqS, eqFieldsV, ↓condV_t, ↓condV_f, tabs, reduceCtorEq, Array.toList, ↓reduceIte, Nat.reduceAdd, Nat.reduceLeDiff, Nat.reduceLT, Nat.reduceMul, Nat.reduceSub, Int.reduceToNat, Int.reduceSub, Int.reduceAdd, Int.reduceNeg])
  refine RT.held (st.get 1 rfl) (by omega) ?_
  (try simp (maxSteps := 1000000) (disch := first | assumption | (apply Ne.symm; assumption)) only [vz, vu, vv, eqS, eqFieldsV, ↓condV_t, ↓condV_f, tabs, reduceCtorEq, Array.toList, ↓reduceIte, Nat.reduceAdd, Nat.reduceLeDiff, Nat.reduceLT, Nat.reduceMul, Nat.reduceSub, Int.reduceToNat, Int.reduceSub, Int.reduceAdd, Int.reduceNeg])
  exact ⟨fun h => by omega, fun _ => st.le⟩
end Go.Proofs.Ytgcklgeifdefhaa
/- The row of the law that CubeOf answers as the reference does: whatever the arguments, it answers true, and what it is told reads as it did. -/
namespace Go.Proofs.Ytgcklgeifdefhaa.cubeOf
open Go Go.Sep Go.ChangeShapes Go.WideShapes Go.ChangeAt Go.RowKit
set_option linter.unusedVariables false

theorem own : ownKnob Try.prog.godebug = none := by kernel_rfl

theorem told (avs : List AV) (h : ArgsT Try.prog [25, 26, 3] avs) : CallT Try.prog 3 avs (fun _ => none) (fun v _ => v = .p (.bool true)) := by
  obtain ⟨a, b, rfl, h1, h⟩ := args_cons h
  obtain ⟨b, c, rfl, h2, h⟩ := args_cons h
  obtain ⟨c, d, rfl, h3, h⟩ := args_cons h
  cases args_nil h
  obtain ⟨x1, hx1, hn1, rfl⟩ := arg_program h1
  obtain ⟨x2, hx2, hn2, rfl⟩ := arg_nodess h2
  obtain ⟨x3, rfl⟩ := arg_int h3
  exact (FnExactCubeOf_true hx1 hn1 hx2 hn2).use rfl

set_option maxRecDepth 100000 in
theorem lifted (os : Os) (started : os.Started) (H : Type) (enc : TypeId × Value → H) :
    ReturnsInHanded {} Try.checked os 3 .any (Rows.fnExactCubeOfSpec.pre6 enc Try.prog Try.f3 Rows.fnExactCubeOfRow.domain false) (Rows.fnExactCubeOfSpec.post enc Try.prog Try.f3 false true false false) := by
  refine returnsInHanded_of_change (C := Try.checked) own started (by kernel_rfl) Try.func3
    (ChangeSpec.witness6 (enc := enc) (C := Try.checked) false ⟨#[], #[.agg #[.int .i64 0, .int .i64 0, .slice none 0 0, .slice none 0 0], .slice none 0 0, .int .i64 0], []⟩ 12 (by kernel_rfl) (by kernel_rfl) (by kernel_rfl) (by kernel_rfl)) ?_
  intro W base args ds gs before hval hW _ _
  refine row_of_true (n := 12) (tb := 4) (by kernel_rfl) rfl (by kernel_rfl) (by kernel_rfl) ?_ ?_ ?_ hval hW
  · have : (Try.f3.params.toList.all fun t => Try.prog.readableRec t && decide (t < Try.prog.types.size) && plainB Try.prog 12 t) = true := by kernel_rfl
    intro t ht
    have := List.all_eq_true.1 this t ht
    rw [Bool.and_eq_true, Bool.and_eq_true, decide_eq_true_eq] at this
    exact ⟨this.1.1, this.1.2, this.2⟩
  · intro ds hd
    rw [Try.params3] at hd
    match ds, hd with
    | [a, b, c], _ => rfl
  · rw [Try.params3]
    exact told

theorem over : Rows.fnExactCubeOfRow.holds Try.pinned (OpenSpec.ofChange Rows.fnExactCubeOfSpec) :=
  OpenClaim.holds_of_wide 3 Try.f3 rfl rfl rfl rfl rfl rfl rfl ⟨rfl, rfl, rfl, rfl, rfl⟩ rfl rfl rfl rfl rfl (by kernel_rfl) Try.func3 (by kernel_rfl)
    (of_decide_eq_true (by kernel_rfl)) (by unfold Func.isWrapper; first | (rw [if_pos (by decide +kernel)]; kernel_rfl) | (rw [if_neg (by decide +kernel)]; exact ⟨rfl, rfl⟩))
    (fun os started H enc _ => lifted os started H enc)

/-- The statement. -/
theorem proved : Rows.FnExactCubeOfSaid :=
  over
#print axioms proved
end Go.Proofs.Ytgcklgeifdefhaa.cubeOf
