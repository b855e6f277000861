/- Texts laid together: Qa6 Qa4 Qa7 Qa8 Qd1 Lt5 Lq0. -/
import Derived.Test.YtgcklgeifdefhaaGreatPkd10
set_option linter.unusedVariables false
set_option linter.unusedSimpArgs false
open Nat renaming reduceAdd → ν1, reduceLeDiff → ν2, reduceLT → ν3, reduceMul → ν4, reduceSub → ν5
open Int renaming reduceToNat → ι1, reduceSub → ι2, reduceAdd → ι3, reduceNeg → ι4
open Array renaming toList → ι5
open Ne renaming symm → ν6
open List renaming forall_mem_cons → ν7
namespace Go.Proofs.YtgcklgeifdefhaaGreat
open Go Go.Sep Go.Pt
attribute [local irreducible] CallT
theorem nextOf_spec (p : Pg) (hs : SmallP p) (hp : vPg p) (no : Nat) (hno : no < 2 ^ 40) : Pu Tryz.prog 114 [aPg p, I no] (Is (nextP p no)) := by
  have hst := stP_len' p no
  have hstl := stP_lt' p no
  refine ⟨fun H => CallT.fin ?_⟩
  refine W114_ok ?_; simp (maxSteps := 1000000) (disch := first | assumption | (apply ν6; assumption)) only [W114, vz, vu, vv, eqS, eF_, ↓c1_, ↓c2_, tabs, reduceCtorEq, ι5, ↓reduceIte, ν1, ν2, ν3, ν4, ν5, ι1, ι2, ι3, ι4]
  intro r hr
  refine Pu.use (stateOf_spec p hs no hno) ?_
  (try simp (maxSteps := 1000000) (disch := first | assumption | (apply ν6; assumption)) only [vz, vu, vv, eqS, eF_, ↓c1_, ↓c2_, tabs, reduceCtorEq, ι5, ↓reduceIte, ν1, ν2, ν3, ν4, ν5, ι1, ι2, ι3, ι4])
  refine lit0I fun q0 hq0 => ?_
  simp only [Heap.set_none] at hq0
  obtain ⟨p1, p2⟩ := hq0
  have nn : r ≠ q0 := Ne.symm p1
  (try simp (maxSteps := 1000000) (disch := first | assumption | (apply ν6; assumption)) only [vz, vu, vv, eqS, eF_, ↓c1_, ↓c2_, tabs, reduceCtorEq, ι5, ↓reduceIte, ν1, ν2, ν3, ν4, ν5, ι1, ι2, ι3, ι4])
  have hcl := hs.cl
  refine L114_0_rule ((0 : Nat), q0) (fun z => rowP z.2 (steps p (stP p no) z.1)) (fun z => I z.1) (fun z => (H.set r [I p.wide, I p.vars, Ns p.start, Cms p.cmds]).set z.2 (cP fI (steps p (stP p no) z.1))) (fun z => z.1 ≤ p.cmds.length ∧ H z.2 = none ∧ z.2 ≠ r) (fun z => p.cmds.length - z.1)
    ⟨⟨by omega, p2, p1⟩, .refl _, .refl _, Heap.le_refl _⟩ ?_
  rintro ⟨i, q⟩ ⟨hi, hq, hqr⟩
  dsimp only at hi hq hqr
  have nn : r ≠ q := Ne.symm hqr
  have hsl := steps_len p (stP p no) i
  (try simp (maxSteps := 1000000) (disch := first | assumption | (apply ν6; assumption)) only [vz, vu, vv, eqS, eF_, ↓c1_, ↓c2_, tabs, reduceCtorEq, ι5, ↓reduceIte, ν1, ν2, ν3, ν4, ν5, ι1, ι2, ι3, ι4, B114_0])
  refine ⟨fun h1 => ⟨by omega, h1, ?_⟩, fun h1 => ?_⟩
  · have hlt : i < p.cmds.length := by omega
    have hm : p.cmds.getD i default ∈ p.cmds := getD_all (p := fun x => x ∈ p.cmds) (fun _ h => h) hlt
    have hvc := hp.2.2 _ hm
    have hgc := hs.cmd _ hm
    have hsucc := steps_succ p (stP p no) hlt
    have e5 : IntKind.i64.wrap ((i : Int) + 1) = ((i + 1 : Nat) : Int) := by rw [i64_id (by omega) (by omega)]; simp
    generalize p.cmds.getD i default = c at *
    intro r8 n8q n8 hr8
    have nn8q : q ≠ r8 := Ne.symm n8q
    have nn8 : r ≠ r8 := Ne.symm n8
    (try simp (maxSteps := 1000000) (disch := first | assumption | (apply ν6; assumption)) only [vz, vu, vv, eqS, eF_, ↓c1_, ↓c2_, tabs, reduceCtorEq, ι5, ↓reduceIte, ν1, ν2, ν3, ν4, ν5, ι1, ι2, ι3, ι4])
    refine Pu.use (holds_spec p hs c.when_ hvc.1 _ hst hstl (goodCm_when hgc)) ?_
    (try simp (maxSteps := 1000000) (disch := first | assumption | (apply ν6; assumption)) only [vz, vu, vv, eqS, eF_, ↓c1_, ↓c2_, tabs, reduceCtorEq, ι5, ↓reduceIte, ν1, ν2, ν3, ν4, ν5, ι1, ι2, ι3, ι4, e5])
    refine ⟨fun h2 => ?_, fun h2 => ?_⟩
    · rw [if_pos (by exact decide_eq_true h2)] at hsucc
      refine Pu.use (after_spec p hs c hvc hgc _ hst hstl) ?_
      (try simp (maxSteps := 1000000) (disch := first | assumption | (apply ν6; assumption)) only [vz, vu, vv, eqS, eF_, ↓c1_, ↓c2_, tabs, reduceCtorEq, ι5, ↓reduceIte, ν1, ν2, ν3, ν4, ν5, ι1, ι2, ι3, ι4])
      obtain ⟨w, v, e1, e2, e3, e4, hw1, hw5, hv1, hv4, hwv⟩ := hs.nat
      have hal : ∀ a ∈ aftK p.wide.toNat c.chs (stP p no) c.chs.length, a < 2 ^ p.wide.toNat := by
        rw [e3] at hstl ⊢
        rw [e4] at hst
        exact aftK_lt hst hstl hvc (by rw [← e1, ← e2]; exact hgc) _ (Nat.le_refl _)
      refine Pu.use (stateNo_spec p hs _ (by rw [aftK_len]; exact hst) hal) ?_
      refine push_intR (xs := steps p (stP p no) i) (by rw [Heap.set_other nn8q, Heap.set_same]) (by omega) fun q' hq' hne => ?_
      simp only [Heap.set_none] at hq'
      obtain ⟨p1, p2, p3, p4⟩ := hq'
      have hst' : steps p (stP p no) i ++ [((noOf p.wide.toNat (aftK p.wide.toNat c.chs (stP p no) c.chs.length) : Nat) : Int)] = steps p (stP p no) (i + 1) := hsucc.symm
      rw [hst']
      refine ⟨(i + 1, q'), ⟨by simp only; omega, p4, p3⟩, by simp only; omega, .refl _, .refl _, ?_⟩
      generalize cP fI (steps p (stP p no) (i + 1)) = zz
      (intro y b hy; simp only [Heap.set, Heap.del] at hy ⊢; (repeat' split at hy) <;> (repeat' split) <;> simp_all [cells])
    · rw [if_neg (by simpa [enP] using h2)] at hsucc
      refine ⟨(i + 1, q), ⟨by simp only; omega, hq, hqr⟩, by simp only; omega, ?_, .refl _, ?_⟩
      · rw [hsucc]; exact .refl _
      · rw [hsucc]
        generalize cP fI (steps p (stP p no) i) = zz
        (intro y b hy; simp only [Heap.set, Heap.del] at hy ⊢; (repeat' split at hy) <;> (repeat' split) <;> simp_all [cells])
  · have hi' : i = p.cmds.length := by omega
    subst hi'
    have hnx : nextP p no = if steps p (stP p no) p.cmds.length = [] then [(no : Int)] else sc (steps p (stP p no) p.cmds.length) := rfl
    generalize steps p (stP p no) p.cmds.length = l at *
    refine ⟨fun h2 => ?_, fun h2 => ?_⟩
    · have hl0 : l = [] := by
        have : l.length = 0 := by omega
        exact List.length_eq_zero_iff.1 this
      rw [if_pos hl0] at hnx
      rw [hnx]
      refine lit1 tab_46 rfl tab_3 ⟨rfl, rfl⟩ ?_
      exact fin_le (Heap.le_setN (Heap.le_set hr) hq) ⟨rfl, rfl⟩
    · have hl0 : l ≠ [] := fun e => by rw [e] at h2; simp at h2
      rw [if_neg hl0] at hnx
      refine Sort_row (zs := l) (by rw [Heap.set_same]) (by omega) ?_
      rw [Heap.set_set]
      have hsl2 : (srt l).length = l.length := (srt_perm l).length_eq
      have := Compact_row (H := (H.set r [I p.wide, I p.vars, Ns p.start, Cms p.cmds]).set q ((srt l).map fun n => AV.p (.int .i64 n))) (q := q) (zs := srt l) (K := fun v43 H13 => wkK (fun r H' => r = Is (nextP p no) ∧ H' = H) v43 H13) (Heap.set_same _ _ _) (by omega) (by
        rw [Heap.set_set]
        have hc : Lib.compact (srt l) = nextP p no := hnx.symm
        rw [hc]
        exact fin_int hq (Heap.set_le (Heap.le_set hr)))
      rw [hsl2] at this
      simpa only [rowP] using this
def enI (p : Pg) (s : List Nat) (n : Nat) : List Int := ((List.range n).filter fun i => enP p.wide.toNat s (p.cmds.getD i default)).map fun (i : Nat) => (i : Int)
theorem enI_succ (p : Pg) (s : List Nat) (n : Nat) : enI p s (n + 1) = if enP p.wide.toNat s (p.cmds.getD n default) = true then enI p s n ++ [(n : Int)] else enI p s n := by
  unfold enI
  rw [List.range_succ, List.filter_append, List.map_append]
  by_cases h : enP p.wide.toNat s (p.cmds.getD n default) = true
  · have e : [n].filter (fun i => enP p.wide.toNat s (p.cmds.getD i default)) = [n] := by rw [List.filter_cons_of_pos (by exact h)]; rfl
    rw [if_pos h, e]; rfl
  · have e : [n].filter (fun i => enP p.wide.toNat s (p.cmds.getD i default)) = [] := by rw [List.filter_cons_of_neg (by exact h)]; rfl
    rw [if_neg h, e]; simp
theorem enI_len (p : Pg) (s : List Nat) (n : Nat) : (enI p s n).length ≤ n := by
  unfold enI
  rw [List.length_map]
  have := List.length_filter_le (fun i => enP p.wide.toNat s (p.cmds.getD i default)) (List.range n)
  simpa using this
theorem enI_steps (p : Pg) (s : List Nat) : ∀ n, n ≤ p.cmds.length → (enI p s n).map (fun i => (toP p.wide.toNat s (p.cmds.getD i.toNat default) : Int)) = steps p s n
  | 0, _ => rfl
  | n + 1, h => by
    have ih := enI_steps p s n (by omega)
    rw [enI_succ, steps_succ p s (by omega)]
    split
    · rw [List.map_append, ih]; simp
    · exact ih
theorem enI_mem {p : Pg} {s : List Nat} {n : Nat} {x : Int} (h : x ∈ enI p s n) : ∃ i : Nat, x = i ∧ i < n := by
  unfold enI at h
  obtain ⟨i, hi, rfl⟩ := List.mem_map.1 h
  exact ⟨i, rfl, by simpa using (List.mem_filter.1 hi).1⟩
theorem l7Enabled_spec (p : Pg) (hs : SmallP p) (hp : vPg p) (s : List Nat) (hl : s.length = p.vars.toNat) (hsw : ∀ a ∈ s, a < 2 ^ p.wide.toNat) : Pu Tryz.prog 147 [aPg p, Ws s] (Is (enI p s p.cmds.length)) := by
  refine ⟨fun H => CallT.fin ?_⟩
  refine CallT.ghost W147_hb fun q0 hq0 => ?_
  refine W147_ok ?_; simp (maxSteps := 1000000) (disch := first | assumption | (apply ν6; assumption)) only [W147, vz, vu, vv, eqS, eF_, ↓c1_, ↓c2_, tabs, reduceCtorEq, ι5, ↓reduceIte, ν1, ν2, ν3, ν4, ν5, ι1, ι2, ι3, ι4]
  intro r hrq hr
  have hcl := hs.cl
  refine L147_0_rule ((0 : Nat), q0) (fun z => rowP z.2 (enI p s z.1)) (fun z => I z.1) (fun z => (H.set r [I p.wide, I p.vars, Ns p.start, Cms p.cmds]).set z.2 (cP fI (enI p s z.1))) (fun z => z.1 ≤ p.cmds.length ∧ H z.2 = none ∧ z.2 ≠ r) (fun z => p.cmds.length - z.1)
    ⟨⟨by omega, hq0, fun e => hrq e.symm⟩, .nilo _ _ _, .refl _, ?_⟩ ?_
  · rw [Heap.set_comm hrq]; exact Heap.le_refl _
  rintro ⟨i, q⟩ ⟨hi, hq, hqr⟩
  dsimp only at hi hq hqr
  have nn : r ≠ q := Ne.symm hqr
  have hsl := enI_len p s i
  (try simp (maxSteps := 1000000) (disch := first | assumption | (apply ν6; assumption)) only [vz, vu, vv, eqS, eF_, ↓c1_, ↓c2_, tabs, reduceCtorEq, ι5, ↓reduceIte, ν1, ν2, ν3, ν4, ν5, ι1, ι2, ι3, ι4, B147_0])
  refine ⟨fun h1 => ⟨by omega, h1, ?_⟩, fun h1 => ?_⟩
  · have hlt : i < p.cmds.length := by omega
    have hm : p.cmds.getD i default ∈ p.cmds := getD_all (p := fun x => x ∈ p.cmds) (fun _ h => h) hlt
    have hvc := hp.2.2 _ hm
    have hgc := hs.cmd _ hm
    have hsucc := enI_succ p s i
    have e5 : IntKind.i64.wrap ((i : Int) + 1) = ((i + 1 : Nat) : Int) := by rw [i64_id (by omega) (by omega)]; simp
    generalize p.cmds.getD i default = c at *
    intro r8 n8q n8 hr8
    have nn8q : q ≠ r8 := Ne.symm n8q
    have nn8 : r ≠ r8 := Ne.symm n8
    (try simp (maxSteps := 1000000) (disch := first | assumption | (apply ν6; assumption)) only [vz, vu, vv, eqS, eF_, ↓c1_, ↓c2_, tabs, reduceCtorEq, ι5, ↓reduceIte, ν1, ν2, ν3, ν4, ν5, ι1, ι2, ι3, ι4])
    refine Pu.use (l7Holds_spec p hs c.when_ hvc.1 _ hl hsw (goodCm_when hgc)) ?_
    (try simp (maxSteps := 1000000) (disch := first | assumption | (apply ν6; assumption)) only [vz, vu, vv, eqS, eF_, ↓c1_, ↓c2_, tabs, reduceCtorEq, ι5, ↓reduceIte, ν1, ν2, ν3, ν4, ν5, ι1, ι2, ι3, ι4, e5])
    refine ⟨fun h2 => ?_, fun h2 => ?_⟩
    · rw [if_pos (by exact decide_eq_true h2)] at hsucc
      refine push_intR (xs := enI p s i) (by rw [Heap.set_other nn8q, Heap.set_same]) (by omega) fun q' hq' hne => ?_
      simp only [Heap.set_none] at hq'
      obtain ⟨p1, p2, p3, p4⟩ := hq'
      rw [← hsucc]
      refine ⟨(i + 1, q'), ⟨by simp only; omega, p4, p3⟩, by simp only; omega, .refl _, .refl _, ?_⟩
      generalize cP fI (enI p s (i + 1)) = zz
      (intro y b hy; simp only [Heap.set, Heap.del] at hy ⊢; (repeat' split at hy) <;> (repeat' split) <;> simp_all [cells])
    · rw [if_neg (by simpa [enP] using h2)] at hsucc
      refine ⟨(i + 1, q), ⟨by simp only; omega, hq, hqr⟩, by simp only; omega, ?_, .refl _, ?_⟩
      · rw [hsucc]; exact .refl _
      · rw [hsucc]
        generalize cP fI (enI p s i) = zz
        (intro y b hy; simp only [Heap.set, Heap.del] at hy ⊢; (repeat' split at hy) <;> (repeat' split) <;> simp_all [cells])
  · have hi' : i = p.cmds.length := by omega
    subst hi'
    exact fin_int hq (Heap.set_le (Heap.le_set hr))
theorem foldl_putlen' (xs : List Int) : ∀ l, (xs.foldl put l).length ≤ l.length + xs.length := by
  induction xs with
  | nil => intro l; simp
  | cons x xs ih =>
    intro l
    have h1 := ih (put l x)
    have h2 := put_len l x
    simp only [List.foldl_cons, List.length_cons]; omega
theorem l8Next_spec (p : Pg) (hs : SmallP p) (hp : vPg p) (no : Nat) (hno : no < 2 ^ 40) : Pu Tryz.prog 99 [aPg p, I no] (Is (nextP p no)) := by
  have hst := stP_len' p no
  have hstl := stP_lt' p no
  refine ⟨fun H => CallT.fin ?_⟩
  refine W99_ok ?_; simp (maxSteps := 1000000) (disch := first | assumption | (apply ν6; assumption)) only [W99, vz, vu, vv, eqS, eF_, ↓c1_, ↓c2_, tabs, reduceCtorEq, ι5, ↓reduceIte, ν1, ν2, ν3, ν4, ν5, ι1, ι2, ι3, ι4]
  intro r hr
  refine Pu.use (l7Of_spec p hs no hno) ?_
  (try simp (maxSteps := 1000000) (disch := first | assumption | (apply ν6; assumption)) only [vz, vu, vv, eqS, eF_, ↓c1_, ↓c2_, tabs, reduceCtorEq, ι5, ↓reduceIte, ν1, ν2, ν3, ν4, ν5, ι1, ι2, ι3, ι4])
  refine Pu.use (l7Enabled_spec p hs hp _ hst hstl) ?_
  (try simp (maxSteps := 1000000) (disch := first | assumption | (apply ν6; assumption)) only [vz, vu, vv, eqS, eF_, ↓c1_, ↓c2_, tabs, reduceCtorEq, ι5, ↓reduceIte, ν1, ν2, ν3, ν4, ν5, ι1, ι2, ι3, ι4])
  have hcl := hs.cl
  have hel := enI_len p (stP p no) p.cmds.length
  have hes := enI_steps p (stP p no) p.cmds.length (Nat.le_refl _)
  have hmem := fun x (h : x ∈ enI p (stP p no) p.cmds.length) => enI_mem h
  have hnx : nextP p no = if steps p (stP p no) p.cmds.length = [] then [(no : Int)] else sc (steps p (stP p no) p.cmds.length) := rfl
  generalize enI p (stP p no) p.cmds.length = l at *
  have hfl := fun i => foldl_putlen' ((l.take i).map fun i => (toP p.wide.toNat (stP p no) (p.cmds.getD i.toNat default) : Int)) []
  have hflt := fun i => (foldl_put ((l.take i).map fun i => (toP p.wide.toNat (stP p no) (p.cmds.getD i.toNat default) : Int)) [] List.Pairwise.nil).1
  refine L99_0_rule (0 : Nat) (fun i => Is (((l.take i).map fun i => (toP p.wide.toNat (stP p no) (p.cmds.getD i.toNat default) : Int)).foldl put [])) (fun i => I i) (fun _ => H.set r [I p.wide, I p.vars, Ns p.start, Cms p.cmds]) (fun i => i ≤ l.length) (fun i => l.length - i) ⟨by omega, .nil, .refl _, Heap.le_refl _⟩ ?_
  intro i hi
  have hfl := hfl i
  have hflt := hflt i
  rw [List.length_map, List.length_take, List.length_nil] at hfl
  (try simp (maxSteps := 1000000) (disch := first | assumption | (apply ν6; assumption)) only [vz, vu, vv, eqS, eF_, ↓c1_, ↓c2_, tabs, reduceCtorEq, ι5, ↓reduceIte, ν1, ν2, ν3, ν4, ν5, ι1, ι2, ι3, ι4, B99_0])
  refine ⟨fun h1 => ⟨by omega, h1, ?_⟩, fun h1 => ?_⟩
  · have hlt : i < l.length := by omega
    have hsnoc : (l.take (i + 1)).map (fun i => (toP p.wide.toNat (stP p no) (p.cmds.getD i.toNat default) : Int)) = (l.take i).map (fun i => (toP p.wide.toNat (stP p no) (p.cmds.getD i.toNat default) : Int)) ++ [(toP p.wide.toNat (stP p no) (p.cmds.getD (l.getD i default).toNat default) : Int)] := by
      rw [take_succ_snoc hlt, List.map_append]; rfl
    obtain ⟨k, ek, hk⟩ := hmem _ (getD_all (p := fun x => x ∈ l) (d := default) (fun _ h => h) hlt)
    rw [ek, Int.toNat_natCast] at hsnoc
    have hm : p.cmds.getD k default ∈ p.cmds := getD_all (p := fun x => x ∈ p.cmds) (fun _ h => h) hk
    have hvc := hp.2.2 _ hm
    have hgc := hs.cmd _ hm
    rw [ek]
    refine Pu.use (l7Do_spec p hs hp k hk _ hst hstl) ?_
    (try simp (maxSteps := 1000000) (disch := first | assumption | (apply ν6; assumption)) only [vz, vu, vv, eqS, eF_, ↓c1_, ↓c2_, tabs, reduceCtorEq, ι5, ↓reduceIte, ν1, ν2, ν3, ν4, ν5, ι1, ι2, ι3, ι4])
    obtain ⟨w, v, e1, e2, e3, e4, hw1, hw5, hv1, hv4, hwv⟩ := hs.nat
    have hal : ∀ a ∈ aftK p.wide.toNat (p.cmds.getD k default).chs (stP p no) (p.cmds.getD k default).chs.length, a < 2 ^ p.wide.toNat := by
      rw [e3] at hstl ⊢
      rw [e4] at hst
      exact aftK_lt hst hstl hvc (by rw [← e1, ← e2]; exact hgc) _ (Nat.le_refl _)
    refine Pu.use (l7No_spec p hs _ (by rw [aftK_len]; exact hst) hal) ?_
    refine Pu.use (l1Put_spec _ _ hflt (by omega)) ?_
    (try simp (maxSteps := 1000000) (disch := first | assumption | (apply ν6; assumption)) only [vz, vu, vv, eqS, eF_, ↓c1_, ↓c2_, tabs, reduceCtorEq, ι5, ↓reduceIte, ν1, ν2, ν3, ν4, ν5, ι1, ι2, ι3, ι4])
    refine ⟨i + 1, by omega, by omega, ?_, ?_⟩
    · rw [hsnoc, List.foldl_append]; exact .refl _
    · rw [wk_int, i64_id (by omega) (by omega)]; simp
  · have hi' : i = l.length := by omega
    subst hi'
    rw [List.take_length, hes] at *
    have hps : (steps p (stP p no) p.cmds.length).foldl put [] = sc (steps p (stP p no) p.cmds.length) := puts_sc _
    have hmem2 := fun x => sc_mem (steps p (stP p no) p.cmds.length) x
    rw [hps]
    generalize steps p (stP p no) p.cmds.length = st at *
    refine ⟨fun h2 => ?_, fun h2 => ?_⟩
    · have h0 : (sc st) = [] := List.length_eq_zero_iff.1 (by omega)
      have hst0 : st = [] := by
        cases st with
        | nil => rfl
        | cons a t =>
          have := (hmem2 a).2 List.mem_cons_self
          rw [h0] at this; cases this
      rw [hnx, if_pos hst0]
      refine lit1 tab_46 rfl tab_3 ⟨rfl, rfl⟩ ?_
      exact fin_le (Heap.le_set hr) ⟨rfl, rfl⟩
    · have hst0 : st ≠ [] := fun e => by
        apply h2
        have : sc st = [] := by
          rw [e]
          cases hsc : sc [] with
          | nil => rfl
          | cons a t =>
            have := (sc_mem [] a).1 (by rw [hsc]; exact List.mem_cons_self)
            cases this
        rw [this]; rfl
      rw [hnx, if_neg hst0]
      exact fin_le (Heap.le_set hr) ⟨rfl, rfl⟩
end Go.Proofs.YtgcklgeifdefhaaGreat
namespace Go.Proofs.YtgcklgeifdefhaaGreat
open Go Go.Sep Go.Pt
attribute [local irreducible] CallT
structure GoodQ (q : Qn) : Prop where
  small : smallP q.prog = true
  sp : SmallP q.prog
  n3 : q.asks.length = 3
  say : goodT q.say = true
  asks : ∀ t ∈ q.asks, kind q.prog.wide q.prog.vars t = 2
theorem goodQ_of {q : Qn} (h : goodQ q = true) : GoodQ q := by
  simp only [goodQ, Bool.and_eq_true, decide_eq_true_eq, List.all_eq_true] at h
  exact ⟨h.1, smallP_of h.1, h.2.1, h.2.2.1, h.2.2.2⟩
theorem stP_len (p : Pg) (no : Nat) : (stP p no).length = p.vars.toNat := stOf_len _ _ _
theorem stP_lt (p : Pg) (no : Nat) : ∀ a ∈ stP p no, a < 2 ^ p.wide.toNat := stOf_lt _ _ _
def letQ (q : Qn) (no : Nat) : Nat := letK q.prog.wide.toNat q.asks (stP q.prog no) 3
theorem orI {x k : Nat} (hk : k ≤ 5) (hx : x < 2 ^ k) : bitsI .or .i64 (x : Int) (IntKind.i64.wrap (1 * 2 ^ (min k IntKind.i64.bits))) = ((x ||| 2 ^ k : Nat) : Int) :=
  (by decide +kernel : ∀ k : Nat, k < 6 → ∀ x : Nat, x < 32 → bitsI .or .i64 (x : Int) (IntKind.i64.wrap (1 * 2 ^ (min k IntKind.i64.bits))) = ((x ||| 2 ^ k : Nat) : Int)) k (by omega) x
    (Nat.lt_of_lt_of_le hx (Nat.pow_le_pow_right (n := 2) (by decide) hk))
theorem letterOf_spec (q : Qn) (h : vQ q) (g : GoodQ q) (no : Nat) (hno : no < 2 ^ 40) : Pu Tryz.prog 56 [aQ q, I no] (I (letQ q no)) := by
  refine Pu.of fun H => ?_
  refine W56_ok ?_; simp (maxSteps := 1000000) (disch := first | assumption | (apply ν6; assumption)) only [W56, vz, vu, vv, eqS, eF_, ↓c1_, ↓c2_, tabs, reduceCtorEq, ι5, ↓reduceIte, ν1, ν2, ν3, ν4, ν5, ι1, ι2, ι3, ι4]
  intro r hr
  refine Pu.use (stateOf_spec q.prog g.sp no hno) ?_
  (try simp (maxSteps := 1000000) (disch := first | assumption | (apply ν6; assumption)) only [vz, vu, vv, eqS, eF_, ↓c1_, ↓c2_, tabs, reduceCtorEq, ι5, ↓reduceIte, ν1, ν2, ν3, ν4, ν5, ι1, ι2, ι3, ι4])
  have hn3 := g.n3
  refine L56_0_rule (0 : Nat) (fun i => I (letK q.prog.wide.toNat q.asks (stP q.prog no) i)) (fun i => I i) (fun _ => H.set r [I q.prog.wide, I q.prog.vars, Ns q.prog.start, Cms q.prog.cmds, Nss q.asks, Ds q.say]) (fun i => i ≤ 3) (fun i => 3 - i) ⟨by omega, .refl _, .refl _, Heap.le_refl _⟩ ?_
  intro i hi
  have hlt := letK_lt q.prog.wide.toNat q.asks (stP q.prog no) i
  have hsucc : letK q.prog.wide.toNat q.asks (stP q.prog no) (i + 1) = if tval q.prog.wide.toNat (q.asks.getD i default) (stP q.prog no) = 1 then letK q.prog.wide.toNat q.asks (stP q.prog no) i ||| 2 ^ i else letK q.prog.wide.toNat q.asks (stP q.prog no) i := rfl
  (try simp (maxSteps := 1000000) (disch := first | assumption | (apply ν6; assumption)) only [vz, vu, vv, eqS, eF_, ↓c1_, ↓c2_, tabs, reduceCtorEq, ι5, ↓reduceIte, ν1, ν2, ν3, ν4, ν5, ι1, ι2, ι3, ι4, B56_0])
  refine ⟨fun h1 => ⟨by omega, h1, ?_⟩, fun h1 => ?_⟩
  · have hl : i < q.asks.length := by omega
    have hm : q.asks.getD i default ∈ q.asks := getD_all (p := fun x => x ∈ q.asks) (fun _ h => h) hl
    refine Pu.use (holds_spec q.prog g.sp _ (h.2.1 _ hm) _ (stP_len _ _) (stP_lt _ _) (g.asks _ hm)) ?_
    have e5 : IntKind.i64.wrap ((i : Int) + 1) = ((i + 1 : Nat) : Int) := by rw [i64_id (by omega) (by omega)]; simp
    (try simp (maxSteps := 1000000) (disch := first | assumption | (apply ν6; assumption)) only [vz, vu, vv, eqS, eF_, ↓c1_, ↓c2_, tabs, reduceCtorEq, ι5, ↓reduceIte, ν1, ν2, ν3, ν4, ν5, ι1, ι2, ι3, ι4, e5])
    refine ⟨fun h2 => ⟨by omega, i + 1, by omega, by omega, ?_, .refl _⟩, fun h2 => ⟨i + 1, by omega, by omega, ?_, .refl _⟩⟩
    · rw [hsucc, if_pos h2, orI (by omega) hlt]; exact .refl _
    · rw [hsucc, if_neg h2]; exact .refl _
  · have : i = 3 := by omega
    subst this
    exact ⟨rfl, Heap.le_set hr⟩
theorem l14Letter_spec (q : Qn) (h : vQ q) (g : GoodQ q) (no : Nat) (hno : no < 2 ^ 40) : Pu Tryz.prog 54 [aQ q, I no] (I (letQ q no)) := by
  refine Pu.of fun H => ?_
  refine W54_ok ?_; simp (maxSteps := 1000000) (disch := first | assumption | (apply ν6; assumption)) only [W54, vz, vu, vv, eqS, eF_, ↓c1_, ↓c2_, tabs, reduceCtorEq, ι5, ↓reduceIte, ν1, ν2, ν3, ν4, ν5, ι1, ι2, ι3, ι4]
  intro r hr
  have hn3 := g.n3
  refine L54_0_rule (0 : Nat) (fun i => I (letK q.prog.wide.toNat q.asks (stP q.prog no) i)) (fun i => I i) (fun _ => H.set r [I q.prog.wide, I q.prog.vars, Ns q.prog.start, Cms q.prog.cmds, Nss q.asks, Ds q.say]) (fun i => i ≤ 3) (fun i => 3 - i) ⟨by omega, .refl _, .refl _, Heap.le_refl _⟩ ?_
  intro i hi
  have hlt := letK_lt q.prog.wide.toNat q.asks (stP q.prog no) i
  have hsucc : letK q.prog.wide.toNat q.asks (stP q.prog no) (i + 1) = if tval q.prog.wide.toNat (q.asks.getD i default) (stP q.prog no) = 1 then letK q.prog.wide.toNat q.asks (stP q.prog no) i ||| 2 ^ i else letK q.prog.wide.toNat q.asks (stP q.prog no) i := rfl
  (try simp (maxSteps := 1000000) (disch := first | assumption | (apply ν6; assumption)) only [vz, vu, vv, eqS, eF_, ↓c1_, ↓c2_, tabs, reduceCtorEq, ι5, ↓reduceIte, ν1, ν2, ν3, ν4, ν5, ι1, ι2, ι3, ι4, B54_0])
  refine ⟨fun h1 => ⟨by omega, h1, ?_⟩, fun h1 => ?_⟩
  · have hl : i < q.asks.length := by omega
    have hm : q.asks.getD i default ∈ q.asks := getD_all (p := fun x => x ∈ q.asks) (fun _ h => h) hl
    refine Pu.use (l7Of_spec q.prog g.sp no hno) ?_
    (try simp (maxSteps := 1000000) (disch := first | assumption | (apply ν6; assumption)) only [vz, vu, vv, eqS, eF_, ↓c1_, ↓c2_, tabs, reduceCtorEq, ι5, ↓reduceIte, ν1, ν2, ν3, ν4, ν5, ι1, ι2, ι3, ι4])
    refine Pu.use (l7Holds_spec q.prog g.sp _ (h.2.1 _ hm) _ (stP_len _ _) (stP_lt _ _) (g.asks _ hm)) ?_
    have e5 : IntKind.i64.wrap ((i : Int) + 1) = ((i + 1 : Nat) : Int) := by rw [i64_id (by omega) (by omega)]; simp
    have e6 : IntKind.u64.wrap (i : Int) = i := wU (by omega)
    (try simp (maxSteps := 1000000) (disch := first | assumption | (apply ν6; assumption)) only [vz, vu, vv, eqS, eF_, ↓c1_, ↓c2_, tabs, reduceCtorEq, ι5, ↓reduceIte, ν1, ν2, ν3, ν4, ν5, ι1, ι2, ι3, ι4, e5, e6])
    refine ⟨fun h2 => ⟨by omega, i + 1, by omega, by omega, ?_, .refl _⟩, fun h2 => ⟨i + 1, by omega, by omega, ?_, .refl _⟩⟩
    · rw [hsucc, if_pos h2, orI (by omega) hlt]; exact .refl _
    · rw [hsucc, if_neg h2]; exact .refl _
  · have : i = 3 := by omega
    subst this
    exact ⟨rfl, Heap.le_set hr⟩
end Go.Proofs.YtgcklgeifdefhaaGreat
namespace Go.Proofs.YtgcklgeifdefhaaGreat
open Go Go.Sep Go.Pt
attribute [local irreducible] CallT
abbrev fLi (l : List Int) : PV := .sl (l.map eI)
def grN (p : Pg) (n : Nat) : List (List Int) := (List.range n).map (nextP p)
theorem grN_succ (p : Pg) (n : Nat) : grN p (n + 1) = grN p n ++ [nextP p n] := by simp [grN, List.range_succ]
theorem grN_len (p : Pg) (n : Nat) : (grN p n).length = n := by simp [grN]
theorem grN_get (p : Pg) {n i : Nat} (h : i < n) : (grN p n).getD i default = nextP p i := by simp [grN, List.getD, h]
theorem lit0L {G : Heap} {K : AV → Heap → Prop} (h : ∀ q, G q = none → K (rowP q ([] : List (List Int))) (G.set q (cP fLi []))) : buildSliceV tab 60 0 [] G (wkK K) := by
  simp only [buildSliceV, tab_60, tab_46]
  refine ⟨by omega, ?_⟩
  simp only [fillV, zerosA, List.replicate_zero, List.flatten_nil]
  exact fun r hr => wkK.keep (h r hr)
theorem push_li {q : Nat} {xs : List (List Int)} {b : List Int} {G : Heap} {K : AV → Heap → Prop} (hq : G q = some (cP fLi xs)) (hl : xs.length ≤ 100000000)
    (h : ∀ q', G q' = none → q' ≠ q → K (rowP q' (xs ++ [b])) ((G.del q).set q' (cP fLi (xs ++ [b])))) :
    buildSliceV tab 60 1 [(0, Is b)] G (wkK fun v H1 => appendV tab 60 60 (rowP q xs) v H1 (wkK K)) := by
  refine lit1 tab_60 rfl tab_46 ⟨rfl, rfl⟩ ?_
  refine app_row (f := fLi) (ys := [b]) tab_60 rfl tab_46 rfl (by decide) hq (by simp; omega) fun q' hq' => h q' hq' fun e => by rw [e, hq] at hq'; cases hq'
theorem fin_lls {q : Nat} {xs : List (List Int)} {H G : Heap} (hq : H q = none) (hG : Heap.le (H.set q (cP fLi xs)) G) : wkK (fun r H' => r = Ls xs ∧ H' = H) (rowP q xs) G := by
  have := fin_own (sz := 1) (es := xs.map eL) (q := q) (H := H) (H' := G) (K := fun r H' => r = Ls xs ∧ H' = H) (by omega) (szL _) hq (by
    have e : cells (xs.map eL) = cP fLi xs := cells_P fLi xs
    rw [e]; exact hG) ⟨rfl, rfl⟩
  simpa only [Go.Sep.own, List.length_map] using this
theorem graph_spec (p : Pg) (hb : smallP p = true) (hp : vPg p) : Pu Tryz.prog 103 [aPg p] (Ls (grN p (allP p))) := by
  have hs := smallP_of hb
  have hal := allP_bd hs
  have hsp := statesP_nat hs
  refine ⟨fun H => CallT.fin ?_⟩
  refine W103_ok ?_; simp (maxSteps := 1000000) (disch := first | assumption | (apply ν6; assumption)) only [W103, vz, vu, vv, eqS, eF_, ↓c1_, ↓c2_, tabs, reduceCtorEq, ι5, ↓reduceIte, ν1, ν2, ν3, ν4, ν5, ι1, ι2, ι3, ι4]
  intro r hr
  refine lit0L fun q0 hq0 => ?_
  simp only [Heap.set_none] at hq0
  obtain ⟨p1, p2⟩ := hq0
  have nn : r ≠ q0 := Ne.symm p1
  (try simp (maxSteps := 1000000) (disch := first | assumption | (apply ν6; assumption)) only [vz, vu, vv, eqS, eF_, ↓c1_, ↓c2_, tabs, reduceCtorEq, ι5, ↓reduceIte, ν1, ν2, ν3, ν4, ν5, ι1, ι2, ι3, ι4])
  refine Pu.use (states_spec p hb) ?_
  rw [hsp]
  (try simp (maxSteps := 1000000) (disch := first | assumption | (apply ν6; assumption)) only [vz, vu, vv, eqS, eF_, ↓c1_, ↓c2_, tabs, reduceCtorEq, ι5, ↓reduceIte, ν1, ν2, ν3, ν4, ν5, ι1, ι2, ι3, ι4])
  refine L103_0_rule ((0 : Nat), q0) (fun z => rowP z.2 (grN p z.1)) (fun z => I z.1) (fun z => (H.set r [I p.wide, I p.vars, Ns p.start, Cms p.cmds]).set z.2 (cP fLi (grN p z.1))) (fun z => z.1 ≤ allP p ∧ H z.2 = none ∧ z.2 ≠ r) (fun z => allP p - z.1)
    ⟨⟨by omega, p2, p1⟩, .refl _, .refl _, Heap.le_refl _⟩ ?_
  rintro ⟨i, q⟩ ⟨hi, hq, hqr⟩
  dsimp only at hi hq hqr
  have nn : r ≠ q := Ne.symm hqr
  have hsl := grN_len p i
  have hsucc := grN_succ p i
  have e5 : IntKind.i64.wrap ((i : Int) + 1) = ((i + 1 : Nat) : Int) := by rw [i64_id (by omega) (by omega)]; simp
  (try simp (maxSteps := 1000000) (disch := first | assumption | (apply ν6; assumption)) only [vz, vu, vv, eqS, eF_, ↓c1_, ↓c2_, tabs, reduceCtorEq, ι5, ↓reduceIte, ν1, ν2, ν3, ν4, ν5, ι1, ι2, ι3, ι4, B103_0])
  refine ⟨fun h1 => ?_, fun h1 => ?_⟩
  · have hlt : i < allP p := by omega
    refine Pu.use (nextOf_spec p hs hp i (by omega)) ?_
    (try simp (maxSteps := 1000000) (disch := first | assumption | (apply ν6; assumption)) only [vz, vu, vv, eqS, eF_, ↓c1_, ↓c2_, tabs, reduceCtorEq, ι5, ↓reduceIte, ν1, ν2, ν3, ν4, ν5, ι1, ι2, ι3, ι4, e5])
    refine push_li (xs := grN p i) (by rw [Heap.set_same]) (by omega) fun q' hq' hne => ?_
    simp only [Heap.set_none] at hq'
    obtain ⟨p1, p2, p3⟩ := hq'
    rw [← hsucc]
    refine ⟨(i + 1, q'), ⟨by simp only; omega, p3, p2⟩, by simp only; omega, .refl _, .refl _, ?_⟩
    generalize cP fLi (grN p (i + 1)) = zz
    (intro y b hy; simp only [Heap.set, Heap.del] at hy ⊢; (repeat' split at hy) <;> (repeat' split) <;> simp_all [cells])
  · have hi' : i = allP p := by omega
    subst hi'
    exact fin_lls hq (Heap.set_le (Heap.le_set hr))
end Go.Proofs.YtgcklgeifdefhaaGreat
namespace Go.Proofs.YtgcklgeifdefhaaGreat
open Go Go.Sep Go.Pt
attribute [local irreducible] CallT
theorem l1AllQ (xs : List Int) (lo hi : Int) (hl : xs.length ≤ 1000000000) : Pu Tryz.prog 146 [Is xs, I lo, I hi] (B (xs.all fun a => decide (lo ≤ a) && decide (a ≤ hi))) := by
  refine Pu.of fun H => ?_
  refine W146_ok ?_; simp (maxSteps := 1000000) (disch := first | assumption | (apply ν6; assumption)) only [W146, vz, vu, vv, eqS, eF_, ↓c1_, ↓c2_, tabs, reduceCtorEq, ι5, ↓reduceIte, ν1, ν2, ν3, ν4, ν5, ι1, ι2, ι3, ι4]
  refine L146_0_rule (0 : Nat) (fun i => I i) (fun _ => H) (fun i => i ≤ xs.length ∧ (xs.take i).all (fun a => decide (lo ≤ a) && decide (a ≤ hi)) = true) (fun i => xs.length - i) ⟨⟨by omega, by simp⟩, .refl _, Heap.le_refl _⟩ ?_
  rintro i ⟨hi1, ha⟩
  (try simp (maxSteps := 1000000) (disch := first | assumption | (apply ν6; assumption)) only [vz, vu, vv, eqS, eF_, ↓c1_, ↓c2_, tabs, reduceCtorEq, ι5, ↓reduceIte, ν1, ν2, ν3, ν4, ν5, ι1, ι2, ι3, ι4, B146_0])
  refine ⟨fun h => ⟨by omega, h, ?_⟩, fun h => ?_⟩
  · have hlt : i < xs.length := by omega
    refine Pu.use (l1In_spec ..) ?_
    (try simp (maxSteps := 1000000) (disch := first | assumption | (apply ν6; assumption)) only [vz, vu, vv, eqS, eF_, ↓c1_, ↓c2_, tabs, reduceCtorEq, ι5, ↓reduceIte, ν1, ν2, ν3, ν4, ν5, ι1, ι2, ι3, ι4])
    have e := take_all_succ (p := fun a => decide (lo ≤ a) && decide (a ≤ hi)) hlt
    rw [getD_lt hlt]
    refine ⟨fun h1 => ?_, fun h1 => ?_⟩
    · congr 2
      symm
      rw [List.all_eq_false]
      exact ⟨xs[i], by simp, by simpa using h1⟩
    · refine ⟨i + 1, ⟨by omega, by rw [e, ha]; simpa using h1⟩, by omega, ?_⟩
      rw [wk_int, i64_id (by omega) (by omega)]; simp
  · have : i = xs.length := by omega
    subst this
    rw [List.take_length] at ha; simp [ha]
theorem l1OwnQ (xs : List Int) (hl : xs.length ≤ 100000) {H : Heap} {K : AV → Heap → Prop} (h : ∀ q, H q = none → K (rowP q xs) (H.set q (cP fI xs))) : CallT Tryz.prog 97 [Is xs] H K := by
  refine W97_ok ?_; simp (maxSteps := 1000000) (disch := first | assumption | (apply ν6; assumption)) only [W97, vz, vu, vv, eqS, eF_, ↓c1_, ↓c2_, tabs, reduceCtorEq, ι5, ↓reduceIte, ν1, ν2, ν3, ν4, ν5, ι1, ι2, ι3, ι4]
  refine lit0I fun q0 hq0 => ?_
  refine app_topI (xs := []) (ys := xs) hq0 (by simp; omega) fun q1 hq1 => ?_
  rw [List.nil_append]
  exact h q1 hq1
theorem buildN1 (b : Int) : buildN tab 46 1 [(0, I b)] = some (fun r => .sl r 1 0 1, [I b]) := by
  simp only [buildN, tab_46, tab_3, ifN, fillV, zerosA]
  rfl
theorem app_one {q r1 : Nat} {xs : List Int} {b : Int} {G : Heap} {K : AV → Heap → Prop} (hq : G q = some (cP fI xs)) (hr : G r1 = some [I b]) (hl : xs.length ≤ 100000000)
    (h : ∀ q', G q' = none → K (rowP q' (xs ++ [b])) ((G.del q).set q' (cP fI (xs ++ [b])))) : appendV tab 46 46 (rowP q xs) (.sl r1 1 0 1) G (wkK K) := by
  simp only [appendV, tab_46, tab_3, srcV, baseV, hq, hr]
  refine ⟨trivial, by simp, trivial, by simp, ?_, ?_, ?_, fun r' hr' => wkK.keep ?_⟩
  · omega
  · omega
  · rfl
  · have := h r' hr'
    have e1 : (List.drop 0 (cP fI xs)).take (xs.length * 1) = cP fI xs := by rw [List.drop_zero, Nat.mul_one, List.take_of_length_le (by simp)]
    rw [e1]
    have e2 : cP fI (xs ++ [b]) = cP fI xs ++ [I b] := by simp [cP]
    rw [e2] at this
    simpa [rowP] using this
def inSt (q : Qn) (n : Int) : Bool := decide (0 ≤ n) && decide (n ≤ statesP q.prog - 1)
def toldP (q : Qn) (st lp : List Int) : Bool := goodQ q && ((decide (st.length ≤ 2000) && (decide (1 ≤ lp.length) && decide (lp.length ≤ 2000))) && (st.all (inSt q) && lp.all (inSt q)))
structure Told (q : Qn) (st lp : List Int) : Prop where
  g : GoodQ q
  l1 : st.length ≤ 2000
  l2 : 1 ≤ lp.length
  l3 : lp.length ≤ 2000
  a1 : ∀ x ∈ st, 0 ≤ x ∧ x < statesP q.prog
  a2 : ∀ x ∈ lp, 0 ≤ x ∧ x < statesP q.prog
theorem told_of {q : Qn} {st lp : List Int} (h : toldP q st lp = true) : Told q st lp := by
  simp only [toldP, Bool.and_eq_true, decide_eq_true_eq, List.all_eq_true, inSt] at h
  refine ⟨goodQ_of h.1, h.2.1.1, h.2.1.2.1, h.2.1.2.2, fun x hx => ?_, fun x hx => ?_⟩
  · have := h.2.2.1 x hx; omega
  · have := h.2.2.2 x hx; omega
def wayP (st lp : List Int) : List Int := st ++ lp ++ [lp.getD 0 default]
def hopP (q : Qn) (w : List Int) (i : Nat) : Bool := decide (w.getD i default ∈ nextP q.prog (w.getD (i - 1) default).toNat)
def runP (q : Qn) (st lp : List Int) : Bool := holdP q.prog q.prog.start ((wayP st lp).getD 0 default).toNat && (List.range ((wayP st lp).length - 1)).all fun i => hopP q (wayP st lp) (i + 1)
theorem way_len (st lp : List Int) : (wayP st lp).length = st.length + lp.length + 1 := by simp [wayP]; omega
theorem way_in {q : Qn} {st lp : List Int} (t : Told q st lp) : ∀ x ∈ wayP st lp, 0 ≤ x ∧ x < statesP q.prog := by
  intro x hx
  simp only [wayP, List.mem_append, List.mem_singleton] at hx
  rcases hx with (hx | hx) | rfl
  · exact t.a1 x hx
  · exact t.a2 x hx
  · have h2 := t.l2
    exact getD_all (p := fun x => 0 ≤ x ∧ x < statesP q.prog) t.a2 (by omega)
theorem areStates1_fp (q : Qn) (n : Int) {H : Heap} : PuAt Tryz.prog 102 [I n, .fp [.int .i64 (statesP q.prog)]] H (B (!inSt q n)) := by
  intro K hK
  refine W102_ok ?_; simp (maxSteps := 1000000) (disch := first | assumption | (apply ν6; assumption)) only [W102, vz, vu, vv, eqS, eF_, ↓c1_, ↓c2_, tabs, reduceCtorEq, ι5, ↓reduceIte, ν1, ν2, ν3, ν4, ν5, ι1, ι2, ι3, ι4, load_fp]
  refine ⟨fun h => ?_, fun h => ?_⟩
  · have : (!inSt q n) = true := by simp [inSt]; omega
    rw [this] at hK; exact hK
  · have : (!inSt q n) = decide (statesP q.prog ≤ n) := by
      rw [Bool.eq_iff_iff]; simp [inSt]; omega
    rw [this] at hK; exact hK
theorem areStates_spec (q : Qn) (h : vQ q) (st lp : List Int) (h1 : st.length ≤ 1048576) (h2 : lp.length ≤ 1048576) : Pu Tryz.prog 59 [aQ q, Is st, Is lp] (B (toldP q st lp)) := by
  refine Pu.of fun H => ?_
  refine W59_ok ?_; simp (maxSteps := 1000000) (disch := first | assumption | (apply ν6; assumption)) only [W59, vz, vu, vv, eqS, eF_, ↓c1_, ↓c2_, tabs, reduceCtorEq, ι5, ↓reduceIte, ν1, ν2, ν3, ν4, ν5, ι1, ι2, ι3, ι4]
  intro r hr
  have hle : ∀ z, Heap.le H (H.set r z) := fun z => Heap.le_set hr
  refine Pu.use (GoodQuestion_impl q h) ?_
  cases hg : goodQ q
  · (try simp (maxSteps := 1000000) (disch := first | assumption | (apply ν6; assumption)) only [vz, vu, vv, eqS, eF_, ↓c1_, ↓c2_, tabs, reduceCtorEq, ι5, ↓reduceIte, ν1, ν2, ν3, ν4, ν5, ι1, ι2, ι3, ι4])
    exact ⟨by simp only [toldP, hg, Bool.false_and], hle _⟩
  have g := goodQ_of hg
  (try simp (maxSteps := 1000000) (disch := first | assumption | (apply ν6; assumption)) only [vz, vu, vv, eqS, eF_, ↓c1_, ↓c2_, tabs, reduceCtorEq, ι5, ↓reduceIte, ν1, ν2, ν3, ν4, ν5, ι1, ι2, ι3, ι4])
  have bad : ¬ (st.length ≤ 2000 ∧ 1 ≤ lp.length ∧ lp.length ≤ 2000) → B false = B (toldP q st lp) := fun hn => by
    have : (decide (st.length ≤ 2000) && (decide (1 ≤ lp.length) && decide (lp.length ≤ 2000))) = false := by
      rw [Bool.eq_false_iff]; intro hh; apply hn
      simpa only [Bool.and_eq_true, decide_eq_true_eq] using hh
    simp only [toldP, this, Bool.false_and, Bool.and_false]
  refine ⟨fun c1 => ⟨bad (by omega), hle _⟩, fun c1 => ⟨fun c2 => ⟨bad (by omega), hle _⟩, fun c2 => ⟨fun c3 => ⟨bad (by omega), hle _⟩, fun c3 => ?_⟩⟩⟩
  refine Pu.use (states_spec q.prog g.small) ?_
  (try simp (maxSteps := 1000000) (disch := first | assumption | (apply ν6; assumption)) only [vz, vu, vv, eqS, eF_, ↓c1_, ↓c2_, tabs, reduceCtorEq, ι5, ↓reduceIte, ν1, ν2, ν3, ν4, ν5, ι1, ι2, ι3, ι4])
  intro r7 n7 hr7
  have nn7 : r ≠ r7 := Ne.symm n7
  refine lit2 tab_60 rfl tab_46 ⟨rfl, rfl⟩ ?_
  have hfl : [st, lp].flatten = st ++ lp := by simp
  refine ConcatI_spec [st, lp] (by rw [hfl, List.length_append]; omega) (by simp) fun q8 hq8 => ?_
  rw [hfl]
  simp only [Heap.set_none] at hq8
  obtain ⟨n81, n82, n83⟩ := hq8
  have nn81 : r7 ≠ q8 := Ne.symm n81
  refine CallT.thaw (args' := [Is (st ++ lp), .fn 102 [.fp [.int .i64 (statesP q.prog)]]]) (v := B ((st ++ lp).any fun n => !inSt q n)) (H1 := (((((H.set r [I q.prog.wide, I q.prog.vars, Ns q.prog.start, Cms q.prog.cmds, Nss q.asks, Ds q.say]).set r7 [I (statesP q.prog)]).set q8 (cP fI (st ++ lp))).del q8).del r7)) ?_ (.bool _) ?_ ?_
  · exact (ContainsFunc_at (st ++ lp) _ _ (fun n => !inSt q n) (by simp; omega) fun x _ => areStates1_fp q x) _ rfl
  · refine .trans (Wk.frzS (r := q8) (es := (st ++ lp).map fI) (v' := .tup [Is (st ++ lp), .fn 102 [.ptr r7 0]]) ?_ ?_) (Wk.frzS (r := r7) (es := [.int .i64 (statesP q.prog)]) ?_ ?_)
    · rw [Heap.set_same]; simp only [cP, List.map_map]; rfl
    · have := FrzS.part (r := q8) (es := (st ++ lp).map fI) 0 (st ++ lp).length (by simp)
      have e : ((List.drop 0 ((st ++ lp).map fI)).take (st ++ lp).length).map (fun v => [v]) = (st ++ lp).map eI := by
        rw [List.drop_zero, List.take_of_length_le (by simp), List.map_map]; rfl
      rw [e] at this
      exact .tup (.cons this (.cons (.same _) .nil))
    · rw [Heap.del_other nn81, Heap.set_other nn81, Heap.set_same]; rfl
    · exact .tup (.cons (.same _) (.cons (.fn _ (.cons (.ptr 0) .nil)) .nil))
  · (try simp (maxSteps := 1000000) (disch := first | assumption | (apply ν6; assumption)) only [vz, vu, vv, eqS, eF_, ↓c1_, ↓c2_, tabs, reduceCtorEq, ι5, ↓reduceIte, ν1, ν2, ν3, ν4, ν5, ι1, ι2, ι3, ι4])
    refine ⟨?_, ?_⟩
    · have c : (decide (st.length ≤ 2000) && (decide (1 ≤ lp.length) && decide (lp.length ≤ 2000))) = true := by
        simp only [Bool.and_eq_true, decide_eq_true_eq]; omega
      simp only [toldP, hg, c, Bool.true_and]
      rw [List.any_append, Bool.not_or, List.all_eq_not_any_not, List.all_eq_not_any_not]
    · generalize cP fI (st ++ lp) = zz
      (intro y b hy; simp only [Heap.set, Heap.del] at hy ⊢; (repeat' split at hy) <;> (repeat' split) <;> simp_all [cells])
theorem l14States_spec (q : Qn) (hb : smallP q.prog = true) (l : List Int) (hl : l.length ≤ 1048576) : Pu Tryz.prog 96 [aQ q, Is l] (B (decide (l.length ≤ 2000) && l.all (inSt q))) := by
  have hr := states_rng hb
  have e5 : IntKind.i64.wrap (statesP q.prog - 1) = statesP q.prog - 1 := i64_id (by omega) (by omega)
  refine Pu.of fun H => ?_
  refine W96_ok ?_; simp (maxSteps := 1000000) (disch := first | assumption | (apply ν6; assumption)) only [W96, vz, vu, vv, eqS, eF_, ↓c1_, ↓c2_, tabs, reduceCtorEq, ι5, ↓reduceIte, ν1, ν2, ν3, ν4, ν5, ι1, ι2, ι3, ι4]
  intro r hr
  have hle : ∀ z, Heap.le H (H.set r z) := fun z => Heap.le_set hr
  refine ⟨fun h1 => ?_, fun h1 => ⟨?_, hle _⟩⟩
  · refine Pu.use (l7Many_spec q.prog hb) ?_
    (try simp (maxSteps := 1000000) (disch := first | assumption | (apply ν6; assumption)) only [vz, vu, vv, eqS, eF_, ↓c1_, ↓c2_, tabs, reduceCtorEq, ι5, ↓reduceIte, ν1, ν2, ν3, ν4, ν5, ι1, ι2, ι3, ι4, e5])
    refine Pu.use (l1AllQ l 0 (statesP q.prog - 1) (by omega)) ⟨?_, hle _⟩
    have : decide (l.length ≤ 2000) = true := decide_eq_true (by omega)
    rw [this, Bool.true_and]; rfl
  · have : decide (l.length ≤ 2000) = false := decide_eq_false (by omega)
    rw [this, Bool.false_and]
theorem l14Told_spec (q : Qn) (h : vQ q) (st lp : List Int) (h1 : st.length ≤ 1048576) (h2 : lp.length ≤ 1048576) : Pu Tryz.prog 57 [aQ q, Is st, Is lp] (B (toldP q st lp)) := by
  refine Pu.of fun H => ?_
  refine W57_ok ?_; simp (maxSteps := 1000000) (disch := first | assumption | (apply ν6; assumption)) only [W57, vz, vu, vv, eqS, eF_, ↓c1_, ↓c2_, tabs, reduceCtorEq, ι5, ↓reduceIte, ν1, ν2, ν3, ν4, ν5, ι1, ι2, ι3, ι4]
  intro r hr
  have hle : ∀ z, Heap.le H (H.set r z) := fun z => Heap.le_set hr
  refine Pu.use (GoodQuestion_ref q h) ?_
  cases hg : goodQ q
  · (try simp (maxSteps := 1000000) (disch := first | assumption | (apply ν6; assumption)) only [vz, vu, vv, eqS, eF_, ↓c1_, ↓c2_, tabs, reduceCtorEq, ι5, ↓reduceIte, ν1, ν2, ν3, ν4, ν5, ι1, ι2, ι3, ι4])
    exact ⟨by simp only [toldP, hg, Bool.false_and], hle _⟩
  have g := goodQ_of hg
  (try simp (maxSteps := 1000000) (disch := first | assumption | (apply ν6; assumption)) only [vz, vu, vv, eqS, eF_, ↓c1_, ↓c2_, tabs, reduceCtorEq, ι5, ↓reduceIte, ν1, ν2, ν3, ν4, ν5, ι1, ι2, ι3, ι4])
  refine Pu.use (l14States_spec q g.small st h1) ?_
  cases c1 : (decide (st.length ≤ 2000) && st.all (inSt q))
  · (try simp (maxSteps := 1000000) (disch := first | assumption | (apply ν6; assumption)) only [vz, vu, vv, eqS, eF_, ↓c1_, ↓c2_, tabs, reduceCtorEq, ι5, ↓reduceIte, ν1, ν2, ν3, ν4, ν5, ι1, ι2, ι3, ι4])
    refine ⟨?_, hle _⟩
    simp only [toldP, hg, Bool.true_and]
    cases a1 : decide (st.length ≤ 2000)
    · simp only [Bool.false_and]
    · rw [a1, Bool.true_and] at c1
      simp only [c1, Bool.false_and, Bool.and_false]
  (try simp (maxSteps := 1000000) (disch := first | assumption | (apply ν6; assumption)) only [vz, vu, vv, eqS, eF_, ↓c1_, ↓c2_, tabs, reduceCtorEq, ι5, ↓reduceIte, ν1, ν2, ν3, ν4, ν5, ι1, ι2, ι3, ι4])
  refine Pu.use (l14States_spec q g.small lp h2) ?_
  simp only [Bool.and_eq_true] at c1
  cases c2 : (decide (lp.length ≤ 2000) && lp.all (inSt q))
  · (try simp (maxSteps := 1000000) (disch := first | assumption | (apply ν6; assumption)) only [vz, vu, vv, eqS, eF_, ↓c1_, ↓c2_, tabs, reduceCtorEq, ι5, ↓reduceIte, ν1, ν2, ν3, ν4, ν5, ι1, ι2, ι3, ι4])
    refine ⟨?_, hle _⟩
    simp only [toldP, hg, Bool.true_and, c1.1, c1.2]
    cases a1 : decide (lp.length ≤ 2000)
    · simp only [Bool.false_and, Bool.and_false]
    · rw [a1, Bool.true_and] at c2
      simp only [c2, Bool.false_and, Bool.and_false]
  (try simp (maxSteps := 1000000) (disch := first | assumption | (apply ν6; assumption)) only [vz, vu, vv, eqS, eF_, ↓c1_, ↓c2_, tabs, reduceCtorEq, ι5, ↓reduceIte, ν1, ν2, ν3, ν4, ν5, ι1, ι2, ι3, ι4])
  refine ⟨?_, hle _⟩
  simp only [Bool.and_eq_true] at c2
  simp only [toldP, hg, Bool.true_and, c1.1, c1.2, c2.1, c2.2, Bool.and_true]
  congr 2
  exact decide_eq_decide.2 (by omega)
theorem nextP_len {p : Pg} (hs : SmallP p) (no : Nat) : (nextP p no).length ≤ 1048576 := by
  have hcl := hs.cl
  have h1 := steps_len p (stP p no) p.cmds.length
  have h2 := sc_len (steps p (stP p no) p.cmds.length)
  unfold nextP
  split
  · simp
  · omega
theorem hop_f {q : Qn} {st lp : List Int} {i : Nat} (hi : i < (wayP st lp).length - 1) (h : hopP q (wayP st lp) (i + 1) = false) : B false = B (runP q st lp) := by
  rw [runP, range_all_false hi h, Bool.and_false]
theorem isRun_spec (q : Qn) (h : vQ q) (st lp : List Int) (t : Told q st lp) : Pu Tryz.prog 60 [aQ q, Is st, Is lp] (B (runP q st lp)) := by
  have h1 := t.l1
  have h2 := t.l2
  have h3 := t.l3
  have hsp := statesP_nat t.g.sp
  have hal := allP_bd t.g.sp
  refine Pu.of fun H => ?_
  refine W60_ok ?_; simp (maxSteps := 1000000) (disch := first | assumption | (apply ν6; assumption)) only [W60, vz, vu, vv, eqS, eF_, ↓c1_, ↓c2_, tabs, reduceCtorEq, ι5, ↓reduceIte, ν1, ν2, ν3, ν4, ν5, ι1, ι2, ι3, ι4]
  intro r hr
  have hle : ∀ z, Heap.le H (H.set r z) := fun z => Heap.le_set hr
  refine ⟨by omega, by omega, by omega, szI lp, ?_⟩
  refine lit3 tab_60 rfl tab_46 ⟨rfl, rfl⟩ ?_
  (try simp (maxSteps := 1000000) (disch := first | assumption | (apply ν6; assumption)) only [vz, vu, vv, eqS, eF_, ↓c1_, ↓c2_, tabs, reduceCtorEq, ι5, ↓reduceIte, ν1, ν2, ν3, ν4, ν5, ι1, ι2, ι3, ι4])
  have htk : List.take 1 lp = [lp.getD 0 default] := by
    cases lp with
    | nil => simp at h2
    | cons a b => rfl
  have hfl : [st, lp, List.take 1 lp].flatten = wayP st lp := by rw [htk]; simp [wayP]
  have hwl := way_len st lp
  refine ConcatI_spec [st, lp, List.take 1 lp] (by rw [hfl]; omega) (by simp) fun q8 hq8 => ?_
  rw [hfl]
  simp only [Heap.set_none] at hq8
  obtain ⟨n81, n82⟩ := hq8
  have nn81 : r ≠ q8 := Ne.symm n81
  (try simp (maxSteps := 1000000) (disch := first | assumption | (apply ν6; assumption)) only [vz, vu, vv, eqS, eF_, ↓c1_, ↓c2_, tabs, reduceCtorEq, ι5, ↓reduceIte, ν1, ν2, ν3, ν4, ν5, ι1, ι2, ι3, ι4])
  refine Pu.use (graph_spec q.prog t.g.small h.1) ?_
  (try simp (maxSteps := 1000000) (disch := first | assumption | (apply ν6; assumption)) only [vz, vu, vv, eqS, eF_, ↓c1_, ↓c2_, tabs, reduceCtorEq, ι5, ↓reduceIte, ν1, ν2, ν3, ν4, ν5, ι1, ι2, ι3, ι4])
  have hin := way_in t
  have hrun : runP q st lp = (holdP q.prog q.prog.start ((wayP st lp).getD 0 default).toNat && (List.range ((wayP st lp).length - 1)).all fun i => hopP q (wayP st lp) (i + 1)) := rfl
  have hf := fun {i : Nat} (hi : i < (wayP st lp).length - 1) => hop_f (q := q) (st := st) (lp := lp) hi
  generalize wayP st lp = w at *
  refine L60_0_rule (1 : Nat) (fun i => I i) (fun _ => (H.set r [I q.prog.wide, I q.prog.vars, Ns q.prog.start, Cms q.prog.cmds, Nss q.asks, Ds q.say]).set q8 (cP fI w)) (fun i => 1 ≤ i ∧ i ≤ w.length ∧ ((List.range (i - 1)).all fun j => hopP q w (j + 1)) = true) (fun i => w.length - i) ⟨⟨by omega, by omega, by simp⟩, .refl _, Heap.le_refl _⟩ ?_
  rintro i ⟨hi0, hi, ha⟩
  have e1 : IntKind.i64.wrap ((i : Int) - 1) = ((i - 1 : Nat) : Int) := by rw [i64_id (by omega) (by omega)]; omega
  (try simp (maxSteps := 1000000) (disch := first | assumption | (apply ν6; assumption)) only [vz, vu, vv, eqS, eF_, ↓c1_, ↓c2_, tabs, reduceCtorEq, ι5, ↓reduceIte, ν1, ν2, ν3, ν4, ν5, ι1, ι2, ι3, ι4, B60_0, e1])
  refine ⟨fun c1 => ⟨by omega, by omega, by omega, ?_⟩, fun c1 => ⟨by omega, by omega, by omega, ?_⟩⟩
  · have hlt : i < w.length := by omega
    have r1 := read_row (f := fI) (xs := w) (k := i - 1) default (by omega)
    have r2 := read_row (f := fI) (xs := w) (k := i) default hlt
    obtain ⟨i0, i1⟩ := hin _ (getD_all (p := fun x => x ∈ w) (d := default) (fun _ h => h) (show i - 1 < w.length by omega))
    obtain ⟨n, hn⟩ : ∃ n : Nat, w.getD (i - 1) default = n := ⟨_, (Int.toNat_of_nonneg i0).symm⟩
    have hg := grN_get q.prog (n := allP q.prog) (i := n) (by omega)
    have hgl := grN_len q.prog (allP q.prog)
    have hhop : hopP q w i = decide (w.getD i default ∈ nextP q.prog n) := by rw [hopP, hn, Int.toNat_natCast]
    have hii : i - 1 + 1 = i := by omega
    rw [Nat.mul_one, r1, Nat.mul_one, r2, hn]
    (try simp (maxSteps := 1000000) (disch := first | assumption | (apply ν6; assumption)) only [vz, vu, vv, eqS, eF_, ↓c1_, ↓c2_, tabs, reduceCtorEq, ι5, ↓reduceIte, ν1, ν2, ν3, ν4, ν5, ι1, ι2, ι3, ι4, hgl])
    rw [hg]
    refine ⟨by omega, by omega, by omega, by omega, by omega, ?_⟩
    refine Pu.use (ContainsI_spec _ _ (nextP_len t.g.sp n)) ?_
    rw [← hhop]
    cases hh : hopP q w i
    · (try simp (maxSteps := 1000000) (disch := first | assumption | (apply ν6; assumption)) only [vz, vu, vv, eqS, eF_, ↓c1_, ↓c2_, tabs, reduceCtorEq, ι5, ↓reduceIte, ν1, ν2, ν3, ν4, ν5, ι1, ι2, ι3, ι4])
      refine ⟨hf (i := i - 1) (by omega) (by rw [hii]; exact hh), ?_⟩
      generalize cP fI w = zz
      (intro y b hy; simp only [Heap.set, Heap.del] at hy ⊢; (repeat' split at hy) <;> (repeat' split) <;> simp_all [cells])
    · (try simp (maxSteps := 1000000) (disch := first | assumption | (apply ν6; assumption)) only [vz, vu, vv, eqS, eF_, ↓c1_, ↓c2_, tabs, reduceCtorEq, ι5, ↓reduceIte, ν1, ν2, ν3, ν4, ν5, ι1, ι2, ι3, ι4])
      refine ⟨i + 1, ⟨by omega, by omega, ?_⟩, by omega, ?_⟩
      · rw [show i + 1 - 1 = i - 1 + 1 by omega, range_all_succ, ha, hii, hh]; rfl
      · rw [wk_int, i64_id (by omega) (by omega)]; simp
  · have : i = w.length := by omega
    subst this
    have h0 := read_row (f := fI) (xs := w) (k := 0) default (by omega)
    rw [List.drop_zero] at h0
    obtain ⟨i0, i1⟩ := hin _ (getD_all (p := fun x => x ∈ w) (d := default) (fun _ h => h) (show 0 < w.length by omega))
    obtain ⟨n, hn⟩ : ∃ n : Nat, w.getD 0 default = n := ⟨_, (Int.toNat_of_nonneg i0).symm⟩
    rw [h0, hn]
    refine Pu.use (stateOf_spec q.prog t.g.sp n (by omega)) ?_
    (try simp (maxSteps := 1000000) (disch := first | assumption | (apply ν6; assumption)) only [vz, vu, vv, eqS, eF_, ↓c1_, ↓c2_, tabs, reduceCtorEq, ι5, ↓reduceIte, ν1, ν2, ν3, ν4, ν5, ι1, ι2, ι3, ι4])
    refine Pu.use (holds_spec q.prog t.g.sp q.prog.start h.1.1 _ (stP_len' _ _) (stP_lt' _ _) t.g.sp.start) ⟨?_, ?_⟩
    · rw [hrun, ha, Bool.and_true, hn, Int.toNat_natCast]; rfl
    · generalize cP fI w = zz
      (intro y b hy; simp only [Heap.set, Heap.del] at hy ⊢; (repeat' split at hy) <;> (repeat' split) <;> simp_all [cells])
theorem l14IsRun_spec (q : Qn) (h : vQ q) (st lp : List Int) (t : Told q st lp) : Pu Tryz.prog 58 [aQ q, Is st, Is lp] (B (runP q st lp)) := by
  have h1 := t.l1
  have h2 := t.l2
  have h3 := t.l3
  have hsp := statesP_nat t.g.sp
  have hal := allP_bd t.g.sp
  have hwl := way_len st lp
  refine Pu.of fun H => ?_
  refine W58_ok ?_; simp (maxSteps := 1000000) (disch := first | assumption | (apply ν6; assumption)) only [W58, vz, vu, vv, eqS, eF_, ↓c1_, ↓c2_, tabs, reduceCtorEq, ι5, ↓reduceIte, ν1, ν2, ν3, ν4, ν5, ι1, ι2, ι3, ι4]
  intro r hr
  have hle : ∀ z, Heap.le H (H.set r z) := fun z => Heap.le_set hr
  refine ⟨by omega, by omega, ?_⟩
  (try simp (maxSteps := 1000000) (disch := first | assumption | (apply ν6; assumption)) only [vz, vu, vv, eqS, eF_, ↓c1_, ↓c2_, tabs, reduceCtorEq, ι5, ↓reduceIte, ν1, ν2, ν3, ν4, ν5, ι1, ι2, ι3, ι4, buildN1, safeV_some, newV_some])
  refine l1OwnQ st (by omega) fun q0 hq0 => ?_
  rw [Heap.set_none] at hq0
  have nn0 := hq0.1
  have nn0' : r ≠ q0 := Ne.symm nn0
  (try simp (maxSteps := 1000000) (disch := first | assumption | (apply ν6; assumption)) only [vz, vu, vv, eqS, eF_, ↓c1_, ↓c2_, tabs, reduceCtorEq, ι5, ↓reduceIte, ν1, ν2, ν3, ν4, ν5, ι1, ι2, ι3, ι4])
  refine app_topI (xs := st) (ys := lp) (by rw [Heap.set_other nn0]; exact hq0.2) (by omega) fun q1 hq1 => ?_
  rw [Heap.set_none] at hq1
  have nn1 := hq1.1
  have nn1' : r ≠ q1 := Ne.symm nn1
  (try simp (maxSteps := 1000000) (disch := first | assumption | (apply ν6; assumption)) only [vz, vu, vv, eqS, eF_, ↓c1_, ↓c2_, tabs, reduceCtorEq, ι5, ↓reduceIte, ν1, ν2, ν3, ν4, ν5, ι1, ι2, ι3, ι4])
  intro r5 n51 n5 hr5
  have nn51 : q1 ≠ r5 := Ne.symm n51
  have nn5 : r ≠ r5 := Ne.symm n5
  refine app_one (by rw [Heap.set_other nn51, Heap.set_same]) (Heap.set_same _ _ _) (by simp only [List.length_append]; omega) fun q2 hq2 => ?_
  have ew : st ++ lp ++ [lp.getD 0 default] = wayP st lp := rfl
  rw [ew]
  simp only [Heap.set_none] at hq2
  obtain ⟨m5, m1, m0, m⟩ := hq2
  have m0' : r ≠ q2 := Ne.symm m0
  have m1' : q1 ≠ q2 := Ne.symm m1
  have m5' : r5 ≠ q2 := Ne.symm m5
  have hin := way_in t
  have hrun : runP q st lp = (holdP q.prog q.prog.start ((wayP st lp).getD 0 default).toNat && (List.range ((wayP st lp).length - 1)).all fun i => hopP q (wayP st lp) (i + 1)) := rfl
  have hf := fun {i : Nat} (hi : i < (wayP st lp).length - 1) => hop_f (q := q) (st := st) (lp := lp) hi
  have hleG : ∀ z, Heap.le H (((((H.set r [I q.prog.wide, I q.prog.vars, Ns q.prog.start, Cms q.prog.cmds, Nss q.asks, Ds q.say]).set q1 (cP fI (st ++ lp))).set r5 [I (lp.getD 0 default)]).del q1).set q2 z) := fun z => by
    generalize cP fI (st ++ lp) = zz
    have := hq1.2
    (intro y b hy; simp only [Heap.set, Heap.del] at hy ⊢; (repeat' split at hy) <;> (repeat' split) <;> simp_all [cells])
  have hrG : ∀ z, (((((H.set r [I q.prog.wide, I q.prog.vars, Ns q.prog.start, Cms q.prog.cmds, Nss q.asks, Ds q.say]).set q1 (cP fI (st ++ lp))).set r5 [I (lp.getD 0 default)]).del q1).set q2 z) r = some [I q.prog.wide, I q.prog.vars, Ns q.prog.start, Cms q.prog.cmds, Nss q.asks, Ds q.say] := fun z => by
    rw [Heap.set_other m0', Heap.del_other nn1', Heap.set_other nn5, Heap.set_other nn1', Heap.set_same]
  have hqG : ∀ z, (((((H.set r [I q.prog.wide, I q.prog.vars, Ns q.prog.start, Cms q.prog.cmds, Nss q.asks, Ds q.say]).set q1 (cP fI (st ++ lp))).set r5 [I (lp.getD 0 default)]).del q1).set q2 z) q2 = some z := fun z => Heap.set_same _ _ _
  generalize wayP st lp = w at *
  have hleG := hleG (cP fI w)
  have hrG := hrG (cP fI w)
  have hqG := hqG (cP fI w)
  generalize (((((H.set r [I q.prog.wide, I q.prog.vars, Ns q.prog.start, Cms q.prog.cmds, Nss q.asks, Ds q.say]).set q1 (cP fI (st ++ lp))).set r5 [I (lp.getD 0 default)]).del q1).set q2 (cP fI w)) = G at *
  have h0 := read_row (f := fI) (xs := w) (k := 0) default (by omega)
  rw [List.drop_zero] at h0
  obtain ⟨i0, i1⟩ := hin _ (getD_all (p := fun x => x ∈ w) (d := default) (fun _ h => h) (show 0 < w.length by omega))
  (try simp (maxSteps := 1000000) (disch := first | assumption | (apply ν6; assumption)) only [vz, vu, vv, eqS, eF_, ↓c1_, ↓c2_, tabs, reduceCtorEq, ι5, ↓reduceIte, ν1, ν2, ν3, ν4, ν5, ι1, ι2, ι3, ι4, load_at hrG, load_at hqG, h0])
  refine ⟨by omega, by omega, by omega, ?_⟩
  refine Pu.use (l8Those_spec q.prog t.g.small q.prog.start h.1.1 t.g.sp.start) ?_
  (try simp (maxSteps := 1000000) (disch := first | assumption | (apply ν6; assumption)) only [vz, vu, vv, eqS, eF_, ↓c1_, ↓c2_, tabs, reduceCtorEq, ι5, ↓reduceIte, ν1, ν2, ν3, ν4, ν5, ι1, ι2, ι3, ι4, load_at hqG, h0])
  refine ⟨by omega, ?_⟩
  have hwl2 := whN_len q.prog q.prog.start (allP q.prog)
  refine Pu.use (l1Has_spec _ _ (by omega)) ?_
  have hd : decide (w.getD 0 default ∈ whN q.prog q.prog.start (allP q.prog)) = holdP q.prog q.prog.start (w.getD 0 default).toNat := by
    rw [Bool.eq_iff_iff, decide_eq_true_eq, whN_mem]
    constructor
    · rintro ⟨k, e, _, hk⟩
      rw [e, Int.toNat_natCast]; exact hk
    · intro hk
      exact ⟨_, (Int.toNat_of_nonneg i0).symm, by omega, hk⟩
  rw [hd]
  cases hh : holdP q.prog q.prog.start (w.getD 0 default).toNat
  · (try simp (maxSteps := 1000000) (disch := first | assumption | (apply ν6; assumption)) only [vz, vu, vv, eqS, eF_, ↓c1_, ↓c2_, tabs, reduceCtorEq, ι5, ↓reduceIte, ν1, ν2, ν3, ν4, ν5, ι1, ι2, ι3, ι4])
    exact ⟨by rw [hrun, hh, Bool.false_and], hleG⟩
  (try simp (maxSteps := 1000000) (disch := first | assumption | (apply ν6; assumption)) only [vz, vu, vv, eqS, eF_, ↓c1_, ↓c2_, tabs, reduceCtorEq, ι5, ↓reduceIte, ν1, ν2, ν3, ν4, ν5, ι1, ι2, ι3, ι4])
  refine L58_0_rule (1 : Nat) (fun i => I i) (fun _ => G) (fun i => 1 ≤ i ∧ i ≤ w.length ∧ ((List.range (i - 1)).all fun j => hopP q w (j + 1)) = true) (fun i => w.length - i) ⟨⟨by omega, by omega, by simp⟩, .refl _, Heap.le_refl _⟩ ?_
  rintro i ⟨hi0, hi, ha⟩
  have e1 : IntKind.i64.wrap ((i : Int) - 1) = ((i - 1 : Nat) : Int) := by rw [i64_id (by omega) (by omega)]; omega
  (try simp (maxSteps := 1000000) (disch := first | assumption | (apply ν6; assumption)) only [vz, vu, vv, eqS, eF_, ↓c1_, ↓c2_, tabs, reduceCtorEq, ι5, ↓reduceIte, ν1, ν2, ν3, ν4, ν5, ι1, ι2, ι3, ι4, B58_0, e1, load_at hrG, load_at hqG])
  refine ⟨fun c1 => ⟨by omega, by omega, by omega, by omega, by omega, by omega, ?_⟩, fun c1 => ⟨?_, hleG⟩⟩
  · have hlt : i < w.length := by omega
    have r1 := read_row (f := fI) (xs := w) (k := i - 1) default (by omega)
    have r2 := read_row (f := fI) (xs := w) (k := i) default hlt
    obtain ⟨i0, i1⟩ := hin _ (getD_all (p := fun x => x ∈ w) (d := default) (fun _ h => h) (show i - 1 < w.length by omega))
    obtain ⟨n, hn⟩ : ∃ n : Nat, w.getD (i - 1) default = n := ⟨_, (Int.toNat_of_nonneg i0).symm⟩
    have hhop : hopP q w i = decide (w.getD i default ∈ nextP q.prog n) := by rw [hopP, hn, Int.toNat_natCast]
    have hii : i - 1 + 1 = i := by omega
    rw [Nat.mul_one, r1, Nat.mul_one, r2, hn]
    refine Pu.use (l8Next_spec q.prog t.g.sp h.1 n (by omega)) ?_
    (try simp (maxSteps := 1000000) (disch := first | assumption | (apply ν6; assumption)) only [vz, vu, vv, eqS, eF_, ↓c1_, ↓c2_, tabs, reduceCtorEq, ι5, ↓reduceIte, ν1, ν2, ν3, ν4, ν5, ι1, ι2, ι3, ι4, load_at hqG, r2])
    refine ⟨by omega, ?_⟩
    refine Pu.use (l1Has_spec _ _ (nextP_len t.g.sp n)) ?_
    rw [← hhop]
    cases hh : hopP q w i
    · (try simp (maxSteps := 1000000) (disch := first | assumption | (apply ν6; assumption)) only [vz, vu, vv, eqS, eF_, ↓c1_, ↓c2_, tabs, reduceCtorEq, ι5, ↓reduceIte, ν1, ν2, ν3, ν4, ν5, ι1, ι2, ι3, ι4])
      exact ⟨hf (i := i - 1) (by omega) (by rw [hii]; exact hh), hleG⟩
    · (try simp (maxSteps := 1000000) (disch := first | assumption | (apply ν6; assumption)) only [vz, vu, vv, eqS, eF_, ↓c1_, ↓c2_, tabs, reduceCtorEq, ι5, ↓reduceIte, ν1, ν2, ν3, ν4, ν5, ι1, ι2, ι3, ι4])
      refine ⟨i + 1, ⟨by omega, by omega, ?_⟩, by omega, ?_⟩
      · rw [show i + 1 - 1 = i - 1 + 1 by omega, range_all_succ, ha, hii, hh]; rfl
      · rw [wk_int, i64_id (by omega) (by omega)]; simp
  · have : i = w.length := by omega
    subst this
    rw [hrun, ha, hh]; rfl
def irR (q : Qn) (st lp : List Int) : Bool × Bool := if toldP q st lp = true then (runP q st lp, true) else (false, false)
theorem irR_f {q : Qn} {st lp : List Int} (h : toldP q st lp = false) : irR q st lp = (false, false) := by unfold irR; rw [if_neg (by rw [h]; simp)]
theorem irR_t {q : Qn} {st lp : List Int} (h : toldP q st lp = true) : irR q st lp = (runP q st lp, true) := by unfold irR; rw [if_pos h]
theorem IsRun_ref (q : Qn) (h : vQ q) (st lp : List Int) (h1 : st.length ≤ 1048576) (h2 : lp.length ≤ 1048576) : Pu Tryz.prog 15 [aQ q, Is st, Is lp] (.tup [B (irR q st lp).1, B (irR q st lp).2]) := by
  refine Pu.of fun H => ?_
  refine W15_ok ?_; simp (maxSteps := 1000000) (disch := first | assumption | (apply ν6; assumption)) only [W15, vz, vu, vv, eqS, eF_, ↓c1_, ↓c2_, tabs, reduceCtorEq, ι5, ↓reduceIte, ν1, ν2, ν3, ν4, ν5, ι1, ι2, ι3, ι4]
  intro r hr
  have hle : ∀ z, Heap.le H (H.set r z) := fun z => Heap.le_set hr
  refine Pu.use (l14Told_spec q h st lp h1 h2) ?_
  cases ht : toldP q st lp
  · (try simp (maxSteps := 1000000) (disch := first | assumption | (apply ν6; assumption)) only [vz, vu, vv, eqS, eF_, ↓c1_, ↓c2_, tabs, reduceCtorEq, ι5, ↓reduceIte, ν1, ν2, ν3, ν4, ν5, ι1, ι2, ι3, ι4])
    rw [irR_f ht]; exact ⟨rfl, hle _⟩
  · (try simp (maxSteps := 1000000) (disch := first | assumption | (apply ν6; assumption)) only [vz, vu, vv, eqS, eF_, ↓c1_, ↓c2_, tabs, reduceCtorEq, ι5, ↓reduceIte, ν1, ν2, ν3, ν4, ν5, ι1, ι2, ι3, ι4])
    rw [irR_t ht]
    exact Pu.use (l14IsRun_spec q h st lp (told_of ht)) ⟨rfl, hle _⟩
end Go.Proofs.YtgcklgeifdefhaaGreat
namespace Go.Proofs.YtgcklgeifdefhaaGreat
open Go Go.Sep Go.Pt
attribute [local irreducible] CallT
def letB (n : Int) : Bool := decide (0 ≤ n) && decide (n ≤ 7)
def goodL (s l : List Int) : Bool := (decide (s.length ≤ 24) && (decide (1 ≤ l.length) && decide (l.length ≤ 24))) && (s.all letB && l.all letB)
theorem areLetters1Q (n : Int) {H : Heap} : PuAt Tryz.prog 180 [I n] H (B (!letB n)) := by
  intro K hK
  refine W180_ok ?_; simp (maxSteps := 1000000) (disch := first | assumption | (apply ν6; assumption)) only [W180, vz, vu, vv, eqS, eF_, ↓c1_, ↓c2_, tabs, reduceCtorEq, ι5, ↓reduceIte, ν1, ν2, ν3, ν4, ν5, ι1, ι2, ι3, ι4]
  refine ⟨fun h => ?_, fun h => ?_⟩
  · have e : letB n = false := by simp [letB]; omega
    rw [e] at hK; exact hK
  · by_cases h2 : 8 ≤ n
    · have e : letB n = false := by simp [letB]; omega
      have e2 : decide (8 ≤ n) = true := by simpa using h2
      rw [e] at hK; simpa [e2] using hK
    · have e : letB n = true := by simp [letB]; omega
      have e2 : decide (8 ≤ n) = false := by simpa using h2
      rw [e] at hK; simpa [e2] using hK
theorem areLettersQ (xs : List Int) (hl : xs.length ≤ 1000000000) : Pu Tryz.prog 153 [Is xs] (B (xs.all letB)) := by
  refine Pu.of fun H => ?_
  refine W153_ok ?_; simp (maxSteps := 1000000) (disch := first | assumption | (apply ν6; assumption)) only [W153, vz, vu, vv, eqS, eF_, ↓c1_, ↓c2_, tabs, reduceCtorEq, ι5, ↓reduceIte, ν1, ν2, ν3, ν4, ν5, ι1, ι2, ι3, ι4]
  refine PuAt.use (ContainsFunc_at xs _ _ (fun n => !letB n) hl fun x _ => areLetters1Q x) ?_
  (try simp (maxSteps := 1000000) (disch := first | assumption | (apply ν6; assumption)) only [vz, vu, vv, eqS, eF_, ↓c1_, ↓c2_, tabs, reduceCtorEq, ι5, ↓reduceIte, ν1, ν2, ν3, ν4, ν5, ι1, ι2, ι3, ι4])
  rw [List.all_eq_not_any_not]
theorem GoodLassoI (s l : List Int) (h1 : s.length ≤ 1000000000) (h2 : l.length ≤ 1000000000) : Pu Tryz.prog 106 [.agg [Is s, Is l]] (B (goodL s l)) := by
  refine Pu.of fun H => ?_
  refine W106_ok ?_; simp (maxSteps := 1000000) (disch := first | assumption | (apply ν6; assumption)) only [W106, vz, vu, vv, eqS, eF_, ↓c1_, ↓c2_, tabs, reduceCtorEq, ι5, ↓reduceIte, ν1, ν2, ν3, ν4, ν5, ι1, ι2, ι3, ι4]
  intro r hr
  have hle : ∀ z, Heap.le H (H.set r z) := fun z => Heap.le_set hr
  (try simp (maxSteps := 1000000) (disch := first | assumption | (apply ν6; assumption)) only [vz, vu, vv, eqS, eF_, ↓c1_, ↓c2_, tabs, reduceCtorEq, ι5, ↓reduceIte, ν1, ν2, ν3, ν4, ν5, ι1, ι2, ι3, ι4])
  have fls : (¬ (s.length ≤ 24 ∧ 1 ≤ l.length ∧ l.length ≤ 24)) → goodL s l = false := fun h => by
    rw [Bool.eq_false_iff]; intro hh
    simp only [goodL, Bool.and_eq_true, decide_eq_true_eq] at hh
    exact h ⟨hh.1.1, hh.1.2.1, hh.1.2.2⟩
  refine ⟨fun a1 => ⟨fun a2 => ⟨fun a3 => ?_, fun a3 => ⟨by rw [fls (by omega)], hle _⟩⟩, fun a2 => ⟨by rw [fls (by omega)], hle _⟩⟩, fun a1 => ⟨by rw [fls (by omega)], hle _⟩⟩
  have e : goodL s l = (s.all letB && l.all letB) := by
    have b1 : s.length ≤ 24 := by omega
    have b2 : 1 ≤ l.length := by omega
    have b3 : l.length ≤ 24 := by omega
    simp only [goodL, b1, b2, b3, decide_true, Bool.true_and]
  rw [e]
  refine Pu.use (areLettersQ s h1) ?_
  cases s.all letB
  · (try simp (maxSteps := 1000000) (disch := first | assumption | (apply ν6; assumption)) only [vz, vu, vv, eqS, eF_, ↓c1_, ↓c2_, tabs, reduceCtorEq, ι5, ↓reduceIte, ν1, ν2, ν3, ν4, ν5, ι1, ι2, ι3, ι4])
    exact hle _
  · (try simp (maxSteps := 1000000) (disch := first | assumption | (apply ν6; assumption)) only [vz, vu, vv, eqS, eF_, ↓c1_, ↓c2_, tabs, reduceCtorEq, ι5, ↓reduceIte, ν1, ν2, ν3, ν4, ν5, ι1, ι2, ι3, ι4])
    refine Pu.use (areLettersQ l h2) ?_
    (try simp (maxSteps := 1000000) (disch := first | assumption | (apply ν6; assumption)) only [vz, vu, vv, eqS, eF_, ↓c1_, ↓c2_, tabs, reduceCtorEq, ι5, ↓reduceIte, ν1, ν2, ν3, ν4, ν5, ι1, ι2, ι3, ι4])
    exact hle _
theorem GoodLassoR (s l : List Int) (h1 : s.length ≤ 1000000000) (h2 : l.length ≤ 1000000000) : Pu Tryz.prog 105 [.agg [Is s, Is l]] (B (goodL s l)) := by
  refine Pu.of fun H => ?_
  refine W105_ok ?_; simp (maxSteps := 1000000) (disch := first | assumption | (apply ν6; assumption)) only [W105, vz, vu, vv, eqS, eF_, ↓c1_, ↓c2_, tabs, reduceCtorEq, ι5, ↓reduceIte, ν1, ν2, ν3, ν4, ν5, ι1, ι2, ι3, ι4]
  intro r hr
  have hle : ∀ z, Heap.le H (H.set r z) := fun z => Heap.le_set hr
  (try simp (maxSteps := 1000000) (disch := first | assumption | (apply ν6; assumption)) only [vz, vu, vv, eqS, eF_, ↓c1_, ↓c2_, tabs, reduceCtorEq, ι5, ↓reduceIte, ν1, ν2, ν3, ν4, ν5, ι1, ι2, ι3, ι4])
  refine ⟨fun a1 => ?_, fun a1 => ?_⟩
  rotate_left
  · refine ⟨?_, hle _⟩
    have : goodL s l = false := by
      rw [Bool.eq_false_iff]; intro hh
      simp only [goodL, Bool.and_eq_true, decide_eq_true_eq] at hh
      have := hh.1.1; omega
    rw [this]
  refine Pu.use (l1In_B l.length 1 24) ?_
  cases hin : inB l.length 1 24
  · (try simp (maxSteps := 1000000) (disch := first | assumption | (apply ν6; assumption)) only [vz, vu, vv, eqS, eF_, ↓c1_, ↓c2_, tabs, reduceCtorEq, ι5, ↓reduceIte, ν1, ν2, ν3, ν4, ν5, ι1, ι2, ι3, ι4])
    refine ⟨?_, hle _⟩
    have : goodL s l = false := by
      rw [Bool.eq_false_iff]; intro hh
      simp only [goodL, Bool.and_eq_true, decide_eq_true_eq] at hh
      rw [inB_iff.2 (by have := hh.1.2; omega)] at hin; cases hin
    rw [this]
  rw [inB_iff] at hin
  have e : goodL s l = (s.all letB && l.all letB) := by
    have b1 : s.length ≤ 24 := by omega
    have b2 : 1 ≤ l.length := by omega
    have b3 : l.length ≤ 24 := by omega
    simp only [goodL, b1, b2, b3, decide_true, Bool.true_and]
  rw [e]
  (try simp (maxSteps := 1000000) (disch := first | assumption | (apply ν6; assumption)) only [vz, vu, vv, eqS, eF_, ↓c1_, ↓c2_, tabs, reduceCtorEq, ι5, ↓reduceIte, ν1, ν2, ν3, ν4, ν5, ι1, ι2, ι3, ι4])
  refine Pu.use (l1AllQ s 0 7 h1) ?_
  have e3 : ∀ xs : List Int, (xs.all fun a => decide (0 ≤ a) && decide (a ≤ 7)) = xs.all letB := fun xs => rfl
  rw [e3]
  cases s.all letB
  · (try simp (maxSteps := 1000000) (disch := first | assumption | (apply ν6; assumption)) only [vz, vu, vv, eqS, eF_, ↓c1_, ↓c2_, tabs, reduceCtorEq, ι5, ↓reduceIte, ν1, ν2, ν3, ν4, ν5, ι1, ι2, ι3, ι4])
    exact hle _
  · (try simp (maxSteps := 1000000) (disch := first | assumption | (apply ν6; assumption)) only [vz, vu, vv, eqS, eF_, ↓c1_, ↓c2_, tabs, reduceCtorEq, ι5, ↓reduceIte, ν1, ν2, ν3, ν4, ν5, ι1, ι2, ι3, ι4])
    refine Pu.use (l1AllQ l 0 7 h2) ?_
    rw [e3]
    (try simp (maxSteps := 1000000) (disch := first | assumption | (apply ν6; assumption)) only [vz, vu, vv, eqS, eF_, ↓c1_, ↓c2_, tabs, reduceCtorEq, ι5, ↓reduceIte, ν1, ν2, ν3, ν4, ν5, ι1, ι2, ι3, ι4])
    exact hle _
abbrev aL2 (s l : List Int) : AV := .agg [Is s, Is l]
theorem l9Made_spec (s l : List Int) (h1 : s.length ≤ 1000000000) (h2 : l.length ≤ 1000000000) : Pu Tryz.prog 61 [aL2 s l] (.tup [aL2 (if goodL s l then s else []) (if goodL s l then l else []), B (goodL s l)]) := by
  refine ⟨fun H => CallT.fin ?_⟩
  refine W61_ok ?_; simp (maxSteps := 1000000) (disch := first | assumption | (apply ν6; assumption)) only [W61, vz, vu, vv, eqS, eF_, ↓c1_, ↓c2_, tabs, reduceCtorEq, ι5, ↓reduceIte, ν1, ν2, ν3, ν4, ν5, ι1, ι2, ι3, ι4]
  intro r1 hr1 r2 n21 hr2
  have n12 := Ne.symm n21
  have hle : ∀ z, Heap.le H ((H.set r1 [Is s, Is l]).set r2 z) := fun z => Heap.le_setN (Heap.le_set hr1) hr2
  (try simp (maxSteps := 1000000) (disch := first | assumption | (apply ν6; assumption)) only [vz, vu, vv, eqS, eF_, ↓c1_, ↓c2_, tabs, reduceCtorEq, ι5, ↓reduceIte, ν1, ν2, ν3, ν4, ν5, ι1, ι2, ι3, ι4])
  refine Pu.use (GoodLassoR s l h1 h2) ?_
  cases h : goodL s l
  · (try simp (maxSteps := 1000000) (disch := first | assumption | (apply ν6; assumption)) only [vz, vu, vv, eqS, eF_, ↓c1_, ↓c2_, tabs, reduceCtorEq, ι5, ↓reduceIte, ν1, ν2, ν3, ν4, ν5, ι1, ι2, ι3, ι4])
    exact ⟨_, _, .trans (.val (v' := .tup [aL2 [] [], B false]) (wk_tup ⟨wk_agg ⟨.nil, .nil, trivial⟩, .refl _, trivial⟩)) (.forget (hle _)), rfl, rfl⟩
  · (try simp (maxSteps := 1000000) (disch := first | assumption | (apply ν6; assumption)) only [vz, vu, vv, eqS, eF_, ↓c1_, ↓c2_, tabs, reduceCtorEq, ι5, ↓reduceIte, ν1, ν2, ν3, ν4, ν5, ι1, ι2, ι3, ι4])
    exact ⟨_, _, .forget (hle _), rfl, rfl⟩
theorem wkL2 {s l : List Int} {q1 q2 : Nat} {G : Heap} (hq1 : G q1 = some (cP fI s)) (hq2 : G q2 = some (cP fI l)) (hne : q1 ≠ q2) (C : AV → AV) (hC : ∀ {r sz es a a'}, FrzR r sz es a a' → FrzR r sz es (C a) (C a')) : Wk (C (.agg [rowP q1 s, rowP q2 l])) G (C (aL2 s l)) ((G.del q1).del q2) := by
  have w1 := Wk.frz (v := C (.agg [rowP q1 s, rowP q2 l])) (v' := C (.agg [Is s, rowP q2 l])) (H := G) (r := q1) (sz := 1) (es := s.map fun n => [fI n]) (by omega) (by rw [flat_P]; exact hq1) (szP _ _) (hC (.agg (.cons frz_row (.cons (.same _) .nil))))
  have w2 := Wk.frz (v := C (.agg [Is s, rowP q2 l])) (v' := C (aL2 s l)) (H := G.del q1) (r := q2) (sz := 1) (es := l.map fun n => [fI n]) (by omega) (by rw [flat_P, Heap.del_other (Ne.symm hne)]; exact hq2) (szP _ _) (hC (.agg (.cons (.same _) (.cons frz_row .nil))))
  exact .trans w1 w2
theorem checkedLasso_live (s l : List Int) (h1 : s.length ≤ 1000000000) (h2 : l.length ≤ 1000000000) {q1 q2 : Nat} {G : Heap} (hq1 : G q1 = some (cP fI s)) (hq2 : G q2 = some (cP fI l)) (hne : q1 ≠ q2) {K : AV → Heap → Prop}
    (h0 : goodL s l = false → K (.tup [.agg [.p .nil, .p .nil], B false]) G) (h : goodL s l = true → K (.tup [.agg [rowP q1 s, rowP q2 l], B true]) G) : CallT Tryz.prog 63 [.agg [rowP q1 s, rowP q2 l]] G K := by
  refine CallT.fin ?_
  refine W63_ok ?_; simp (maxSteps := 1000000) (disch := first | assumption | (apply ν6; assumption)) only [W63, vz, vu, vv, eqS, eF_, ↓c1_, ↓c2_, tabs, reduceCtorEq, ι5, ↓reduceIte, ν1, ν2, ν3, ν4, ν5, ι1, ι2, ι3, ι4]
  intro r1 hr1 r2 n21 hr2
  have n12 := Ne.symm n21
  have hle : ∀ z, Heap.le G ((G.set r1 [rowP q1 s, rowP q2 l]).set r2 z) := fun z => Heap.le_setN (Heap.le_set hr1) hr2
  (try simp (maxSteps := 1000000) (disch := first | assumption | (apply ν6; assumption)) only [vz, vu, vv, eqS, eF_, ↓c1_, ↓c2_, tabs, reduceCtorEq, ι5, ↓reduceIte, ν1, ν2, ν3, ν4, ν5, ι1, ι2, ι3, ι4])
  have g1 := hle [.p .nil, .p .nil] _ _ hq1
  have g2 := hle [.p .nil, .p .nil] _ _ hq2
  refine Pu.thaw (GoodLassoI s l h1 h2) (.bool _) (wkL2 g1 g2 hne (fun v => .tup [v]) (fun h => .tup (.cons h .nil))) ?_
  cases hg : goodL s l
  · (try simp (maxSteps := 1000000) (disch := first | assumption | (apply ν6; assumption)) only [vz, vu, vv, eqS, eF_, ↓c1_, ↓c2_, tabs, reduceCtorEq, ι5, ↓reduceIte, ν1, ν2, ν3, ν4, ν5, ι1, ι2, ι3, ι4])
    exact fin_le (hle _) (h0 hg)
  · (try simp (maxSteps := 1000000) (disch := first | assumption | (apply ν6; assumption)) only [vz, vu, vv, eqS, eF_, ↓c1_, ↓c2_, tabs, reduceCtorEq, ι5, ↓reduceIte, ν1, ν2, ν3, ν4, ν5, ι1, ι2, ι3, ι4])
    exact fin_le (hle _) (h hg)
def letsN (q : Qn) (xs : List Int) (n : Nat) : List Int := (List.range n).map fun i => ((letQ q (xs.getD i default).toNat : Nat) : Int)
theorem letsN_len (q : Qn) (xs : List Int) (n : Nat) : (letsN q xs n).length = n := by simp [letsN]
theorem letsN_succ (q : Qn) (xs : List Int) (n : Nat) : letsN q xs (n + 1) = letsN q xs n ++ [((letQ q (xs.getD n default).toNat : Nat) : Int)] := by simp [letsN, List.range_succ]
abbrev cQ (q : Qn) : List AV := [I q.prog.wide, I q.prog.vars, Ns q.prog.start, Cms q.prog.cmds, Nss q.asks, Ds q.say]
theorem letters_spec (q : Qn) (hv : vQ q) (g : GoodQ q) (xs : List Int) (hl : xs.length ≤ 100000) (hx : ∀ x ∈ xs, 0 ≤ x ∧ x < 1000) {H : Heap} {K : AV → Heap → Prop}
    (h : ∀ r, H r = none → K (rowP r (letsN q xs xs.length)) (H.set r (cP fI (letsN q xs xs.length)))) : CallT Tryz.prog 64 [aQ q, Is xs] H K := by
  refine CallT.fin ?_
  refine W64_ok ?_; simp (maxSteps := 1000000) (disch := first | assumption | (apply ν6; assumption)) only [W64, vz, vu, vv, eqS, eF_, ↓c1_, ↓c2_, tabs, reduceCtorEq, ι5, ↓reduceIte, ν1, ν2, ν3, ν4, ν5, ι1, ι2, ι3, ι4]
  intro r hr
  refine lit0I fun q0 hq0 => ?_
  simp only [Heap.set_none] at hq0
  obtain ⟨p1, p2⟩ := hq0
  have nn : r ≠ q0 := Ne.symm p1
  (try simp (maxSteps := 1000000) (disch := first | assumption | (apply ν6; assumption)) only [vz, vu, vv, eqS, eF_, ↓c1_, ↓c2_, tabs, reduceCtorEq, ι5, ↓reduceIte, ν1, ν2, ν3, ν4, ν5, ι1, ι2, ι3, ι4])
  refine L64_0_rule ((0 : Nat), q0) (fun z => rowP z.2 (letsN q xs z.1)) (fun z => I z.1) (fun z => (H.set r (cQ q)).set z.2 (cP fI (letsN q xs z.1))) (fun z => z.1 ≤ xs.length ∧ H z.2 = none ∧ z.2 ≠ r) (fun z => xs.length - z.1)
    ⟨⟨by omega, p2, p1⟩, .refl _, .refl _, Heap.le_refl _⟩ ?_
  rintro ⟨i, z⟩ ⟨hi, hz, hzr⟩
  dsimp only at hi hz hzr
  have nn : r ≠ z := Ne.symm hzr
  have hsl := letsN_len q xs i
  have hsucc := letsN_succ q xs i
  (try simp (maxSteps := 1000000) (disch := first | assumption | (apply ν6; assumption)) only [vz, vu, vv, eqS, eF_, ↓c1_, ↓c2_, tabs, reduceCtorEq, ι5, ↓reduceIte, ν1, ν2, ν3, ν4, ν5, ι1, ι2, ι3, ι4, B64_0])
  refine ⟨fun h1 => ⟨by omega, h1, ?_⟩, fun h1 => ?_⟩
  · have hlt : i < xs.length := by omega
    have hxi := getD_all (p := fun x => 0 ≤ x ∧ x < 1000) (d := default) hx hlt
    have e0 : xs.getD i default = ((xs.getD i default).toNat : Int) := by omega
    have hls := letterOf_spec q hv g (xs.getD i default).toNat (by omega)
    rw [← e0] at hls
    refine Pu.use hls ?_
    refine push_intR (xs := letsN q xs i) (by rw [Heap.set_same]) (by omega) fun q' hq' hne => ?_
    simp only [Heap.set_none] at hq'
    obtain ⟨p1, p2, p3⟩ := hq'
    rw [← hsucc]
    refine ⟨(i + 1, q'), ⟨by simp only; omega, p3, p2⟩, by simp only; omega, .refl _, ?_, ?_⟩
    · rw [wk_int, i64_id (by omega) (by omega)]; simp
    · generalize cP fI (letsN q xs (i + 1)) = zz
      clear e0 hls hxi hsucc hx
      (intro y b hy; simp only [Heap.set, Heap.del] at hy ⊢; (repeat' split at hy) <;> (repeat' split) <;> simp_all [cells])
  · have : i = xs.length := by omega
    subst this
    refine fin_le (H := H.set z (cP fI (letsN q xs xs.length))) ?_ (h z hz)
    generalize cP fI (letsN q xs xs.length) = zz
    (intro y b hy; simp only [Heap.set, Heap.del] at hy ⊢; (repeat' split at hy) <;> (repeat' split) <;> simp_all [cells])
structure Gr (B G : Heap) (r : Nat) (pre post : List AV) (x : AV) (xs : List Int) : Prop where
  hr : G r = some (pre ++ ([x] ++ post))
  base : (x = .p .nil ∧ xs = []) ∨ ∃ q, x = rowP q xs ∧ G q = some (cP fI xs) ∧ B q = none ∧ q ≠ r
  le : Heap.le B G
  nr : B r = none
theorem Gr.app {B G : Heap} {r : Nat} {pre post : List AV} {x : AV} {xs : List Int} (o : Gr B G r pre post x xs) {b : Int} (hl : xs.length ≤ 100000000) {K : AV → Heap → Prop}
    (h : ∀ q' G1, G1 r = some (pre ++ ([x] ++ post)) → Gr B (G1.set r (pre ++ ([rowP q' (xs ++ [b])] ++ post))) r pre post (rowP q' (xs ++ [b])) (xs ++ [b]) → K (rowP q' (xs ++ [b])) G1) :
    appendV tab 46 46 x (.p (.sl [[fI b]])) G (wkK K) := by
  refine app_base (f := fI) (ys := [b]) tab_46 rfl tab_3 rfl (by decide) (xs := xs) ?_ (by simp; omega) fun q' G1 hq' hG1 hfr => ?_
  · rcases o.base with h | ⟨q, h1, h2, _, _⟩
    · exact .inl h
    · exact .inr ⟨q, h1, h2⟩
  · have hrq : r ≠ q' := fun e => by rw [← e, o.hr] at hq'; cases hq'
    have hxr : ∀ q, x = rowP q xs → B q = none ∧ q ≠ r := by
      intro q hx
      rcases o.base with ⟨h, _⟩ | ⟨q1, h1, h2, h3, h4⟩
      · rw [h] at hx; cases hx
      · rw [h1] at hx; cases hx; exact ⟨h3, h4⟩
    have hBq : B q' = none := by
      cases hh : B q' with
      | none => rfl
      | some c => rw [o.le q' c hh] at hq'; cases hq'
    have hle1 : Heap.le B G1 := fun y b hy => by
      rw [hfr y (fun e => by rw [e, hBq] at hy; cases hy) (fun q hx e => by rw [e, (hxr q hx).1] at hy; cases hy)]
      exact o.le y b hy
    refine h q' G1 ?_ ⟨Heap.set_same _ _ _, .inr ⟨q', rfl, by rw [Heap.set_other (Ne.symm hrq)]; exact hG1, hBq, Ne.symm hrq⟩, Heap.le_setN hle1 o.nr, o.nr⟩
    rw [hfr r hrq (fun q hx e => (hxr q hx).2 e.symm)]; exact o.hr
theorem l14Word_spec (q : Qn) (hv : vQ q) (g : GoodQ q) (xs ys : List Int) (hl : xs.length ≤ 100000) (hx : ∀ x ∈ xs, 0 ≤ x ∧ x < 1000) (hl2 : ys.length ≤ 100000) (hy : ∀ x ∈ ys, 0 ≤ x ∧ x < 1000) : Pu Tryz.prog 62 [aQ q, Is xs, Is ys] (aL2 (letsN q xs xs.length) (letsN q ys ys.length)) := by
  refine ⟨fun H => CallT.fin ?_⟩
  refine W62_ok ?_; simp (maxSteps := 1000000) (disch := first | assumption | (apply ν6; assumption)) only [W62, vz, vu, vv, eqS, eF_, ↓c1_, ↓c2_, tabs, reduceCtorEq, ι5, ↓reduceIte, ν1, ν2, ν3, ν4, ν5, ι1, ι2, ι3, ι4]
  intro r3 h3 r6 n63 h6 r7 n76 n73 h7
  have nn63 := Ne.symm n63
  have nn73 := Ne.symm n73
  have nn76 := Ne.symm n76
  have f3 : ((H.set r3 (cQ q)).set r6 [AV.p .nil, .p .nil]) r3 = some (cQ q) := by rw [Heap.set_other nn63, Heap.set_same]
  have f6 : ((H.set r3 (cQ q)).set r6 [AV.p .nil, .p .nil]) r6 = some [AV.p .nil, .p .nil] := Heap.set_same _ _ _
  have f7 : ((H.set r3 (cQ q)).set r6 [AV.p .nil, .p .nil]) r7 = none := by rw [Heap.set_other n76, Heap.set_other n73]; exact h7
  have hlH : Heap.le H ((H.set r3 (cQ q)).set r6 [AV.p .nil, .p .nil]) := Heap.le_setN (Heap.le_set h3) h6
  (try simp (maxSteps := 1000000) (disch := first | assumption | (apply ν6; assumption)) only [vz, vu, vv, eqS, eF_, ↓c1_, ↓c2_, tabs, reduceCtorEq, ι5, ↓reduceIte, ν1, ν2, ν3, ν4, ν5, ι1, ι2, ι3, ι4])
  generalize ((H.set r3 (cQ q)).set r6 [AV.p .nil, .p .nil]) = B0 at f3 f6 f7 hlH ⊢
  refine L62_0_rule ((0 : Nat), AV.p .nil, B0.set r7 [.p .nil, .p .nil]) (fun s => I s.1) (fun s => s.2.2) (fun s => s.1 ≤ xs.length ∧ Gr B0 s.2.2 r7 [] [.p .nil] s.2.1 (letsN q xs s.1)) (fun s => xs.length - s.1)
    ⟨⟨by simp, Heap.set_same _ _ _, .inl ⟨rfl, rfl⟩, Heap.le_set f7, f7⟩, .refl _, Heap.le_refl _⟩ ?_
  rintro ⟨i, x, G⟩ ⟨hi, o⟩
  dsimp only at hi o
  have g7 : G r7 = some [x, .p .nil] := o.hr
  have g3 := o.le _ _ f3
  have hsl := letsN_len q xs i
  have hsucc := letsN_succ q xs i
  (try simp (maxSteps := 1000000) (disch := first | assumption | (apply ν6; assumption)) only [vz, vu, vv, eqS, eF_, ↓c1_, ↓c2_, tabs, reduceCtorEq, ι5, ↓reduceIte, ν1, ν2, ν3, ν4, ν5, ι1, ι2, ι3, ι4, B62_0, load_at g7, load_at g3])
  refine ⟨fun h1 => ⟨by omega, h1, ?_⟩, fun h1 => ?_⟩
  · have hlt : i < xs.length := by omega
    have hxi := getD_all (p := fun x => 0 ≤ x ∧ x < 1000) (d := default) hx hlt
    have e0 : ((xs.getD i default).toNat : Int) = xs.getD i default := by omega
    have hls := l14Letter_spec q hv g (xs.getD i default).toNat (by omega)
    rw [e0] at hls
    refine Pu.use hls ?_
    (try simp (maxSteps := 1000000) (disch := first | assumption | (apply ν6; assumption)) only [vz, vu, vv, eqS, eF_, ↓c1_, ↓c2_, tabs, reduceCtorEq, ι5, ↓reduceIte, ν1, ν2, ν3, ν4, ν5, ι1, ι2, ι3, ι4, load_at g7])
    refine lit1 tab_46 rfl tab_3 ⟨rfl, rfl⟩ ?_
    (try simp (maxSteps := 1000000) (disch := first | assumption | (apply ν6; assumption)) only [vz, vu, vv, eqS, eF_, ↓c1_, ↓c2_, tabs, reduceCtorEq, ι5, ↓reduceIte, ν1, ν2, ν3, ν4, ν5, ι1, ι2, ι3, ι4, load_at g7])
    refine o.app (by omega) fun q' G1 k7 o2 => ?_
    have k7' : G1 r7 = some [x, .p .nil] := k7
    rw [← hsucc] at o2 ⊢
    (try simp (maxSteps := 1000000) (disch := first | assumption | (apply ν6; assumption)) only [vz, vu, vv, eqS, eF_, ↓c1_, ↓c2_, tabs, reduceCtorEq, ι5, ↓reduceIte, ν1, ν2, ν3, ν4, ν5, ι1, ι2, ι3, ι4, store_at k7'])
    refine ⟨(i + 1, rowP q' (letsN q xs (i + 1)), _), ⟨by simp only; omega, o2⟩, by simp only; omega, ?_, Heap.le_refl _⟩
    rw [wk_int, i64_id (by omega) (by omega)]; simp
  have : i = xs.length := by omega
  subst this
  obtain ⟨B1, hB1, hB7, hxB⟩ : ∃ B1, Heap.le B0 B1 ∧ B1 r7 = none ∧ Heap.le B1 G ∧ ((x = .p .nil ∧ letsN q xs xs.length = []) ∨ ∃ q1, x = rowP q1 (letsN q xs xs.length) ∧ B1 q1 = some (cP fI (letsN q xs xs.length)) ∧ B0 q1 = none) := by
    rcases o.base with ⟨rfl, h2⟩ | ⟨q1, rfl, h2, h3, h4⟩
    · exact ⟨B0, Heap.le_refl _, f7, o.le, .inl ⟨rfl, h2⟩⟩
    · refine ⟨B0.set q1 (cP fI (letsN q xs xs.length)), Heap.le_set h3, by rw [Heap.set_other (Ne.symm h4)]; exact f7, fun y b hb => ?_, .inr ⟨q1, rfl, Heap.set_same _ _ _, h3⟩⟩
      by_cases e : y = q1
      · subst e; rw [Heap.set_same] at hb; rw [h2]; exact hb
      · rw [Heap.set_other e] at hb; exact o.le _ _ hb
  obtain ⟨hBG, hxB⟩ := hxB
  have k3 := hB1 _ _ f3
  have k6 := hB1 _ _ f6
  refine L62_1_rule ((0 : Nat), AV.p .nil, G) (fun s => I s.1) (fun s => s.2.2) (fun s => s.1 ≤ ys.length ∧ Gr B1 s.2.2 r7 [x] [] s.2.1 (letsN q ys s.1)) (fun s => ys.length - s.1)
    ⟨⟨by simp, o.hr, .inl ⟨rfl, rfl⟩, hBG, hB7⟩, .refl _, Heap.le_refl _⟩ ?_
  clear o g7 g3 hBG
  rintro ⟨i, y, G⟩ ⟨hi, o⟩
  dsimp only at hi o
  have g7 : G r7 = some [x, y] := o.hr
  have g3 := o.le _ _ k3
  have g6 := o.le _ _ k6
  have hsl := letsN_len q ys i
  have hsucc := letsN_succ q ys i
  (try simp (maxSteps := 1000000) (disch := first | assumption | (apply ν6; assumption)) only [vz, vu, vv, eqS, eF_, ↓c1_, ↓c2_, tabs, reduceCtorEq, ι5, ↓reduceIte, ν1, ν2, ν3, ν4, ν5, ι1, ι2, ι3, ι4, B62_1, load_at g7, load_at g3])
  refine ⟨fun h1 => ⟨by omega, h1, ?_⟩, fun h1 => ?_⟩
  · have hlt : i < ys.length := by omega
    have hxi := getD_all (p := fun x => 0 ≤ x ∧ x < 1000) (d := default) hy hlt
    have e0 : ((ys.getD i default).toNat : Int) = ys.getD i default := by omega
    have hls := l14Letter_spec q hv g (ys.getD i default).toNat (by omega)
    rw [e0] at hls
    refine Pu.use hls ?_
    (try simp (maxSteps := 1000000) (disch := first | assumption | (apply ν6; assumption)) only [vz, vu, vv, eqS, eF_, ↓c1_, ↓c2_, tabs, reduceCtorEq, ι5, ↓reduceIte, ν1, ν2, ν3, ν4, ν5, ι1, ι2, ι3, ι4, load_at g7])
    refine lit1 tab_46 rfl tab_3 ⟨rfl, rfl⟩ ?_
    (try simp (maxSteps := 1000000) (disch := first | assumption | (apply ν6; assumption)) only [vz, vu, vv, eqS, eF_, ↓c1_, ↓c2_, tabs, reduceCtorEq, ι5, ↓reduceIte, ν1, ν2, ν3, ν4, ν5, ι1, ι2, ι3, ι4, load_at g7])
    refine o.app (by omega) fun q' G1 k7 o2 => ?_
    have k7' : G1 r7 = some [x, y] := k7
    rw [← hsucc] at o2 ⊢
    (try simp (maxSteps := 1000000) (disch := first | assumption | (apply ν6; assumption)) only [vz, vu, vv, eqS, eF_, ↓c1_, ↓c2_, tabs, reduceCtorEq, ι5, ↓reduceIte, ν1, ν2, ν3, ν4, ν5, ι1, ι2, ι3, ι4, store_at k7'])
    refine ⟨(i + 1, rowP q' (letsN q ys (i + 1)), _), ⟨by simp only; omega, o2⟩, by simp only; omega, ?_, Heap.le_refl _⟩
    rw [wk_int, i64_id (by omega) (by omega)]; simp
  have : i = ys.length := by omega
  subst this
  (try simp (maxSteps := 1000000) (disch := first | assumption | (apply ν6; assumption)) only [vz, vu, vv, eqS, eF_, ↓c1_, ↓c2_, tabs, reduceCtorEq, ι5, ↓reduceIte, ν1, ν2, ν3, ν4, ν5, ι1, ι2, ι3, ι4, load_at g7, store_at g6])
  have hHB1 : Heap.le H B1 := Heap.le_trans hlH hB1
  have leG : Heap.le H (G.set r6 [x, y]) := Heap.le_setN (Heap.le_trans hHB1 o.le) h6
  have cx : x.isCell = true := by rcases hxB with ⟨rfl, _⟩ | ⟨q1, rfl, _⟩ <;> rfl
  have cy : y.isCell = true := by rcases o.base with ⟨rfl, _⟩ | ⟨q1, rfl, _⟩ <;> rfl
  refine ⟨by rw [cx, cy]; rfl, ?_⟩
  have noneH : ∀ {z}, B1 z = none → H z = none := fun {z} h => by
    cases hh : H z with
    | none => rfl
    | some b => rw [hHB1 _ _ hh] at h; cases h
  obtain ⟨Ga, wa, la, fa⟩ : ∃ Ga, Wk (.agg [x, y]) (G.set r6 [x, y]) (.agg [Is (letsN q xs xs.length), y]) Ga ∧ Heap.le H Ga ∧ ∀ z, B1 z = none → Ga z = (G.set r6 [x, y]) z := by
    rcases hxB with ⟨rfl, h2⟩ | ⟨q1, rfl, h2, h3⟩
    · rw [h2]; exact ⟨_, .val (wk_agg ⟨.nil, .refl _, trivial⟩), leG, fun _ _ => rfl⟩
    · have hHq : H q1 = none := by
        cases hh : H q1 with
        | none => rfl
        | some b => rw [hlH _ _ hh] at h3; cases h3
      have q16 : q1 ≠ r6 := fun e => by rw [e, f6] at h3; cases h3
      refine ⟨_, Wk.frz (r := q1) (sz := 1) (es := (letsN q xs xs.length).map fun n => [fI n]) (by omega) (by rw [Heap.set_other q16, flat_P]; exact o.le _ _ h2) (szP _ _) (.agg (.cons frz_row (.cons (.same _) .nil))), Heap.le_del leG hHq, fun z hz => Heap.del_other (fun e => by rw [e, h2] at hz; cases hz)⟩
  rcases o.base with ⟨rfl, h2⟩ | ⟨q2, rfl, h2, h3, _⟩
  · rw [h2]
    exact ⟨_, _, .trans wa (.trans (.val (v' := aL2 (letsN q xs xs.length) []) (wk_agg ⟨.refl _, .nil, trivial⟩)) (.forget la)), rfl, rfl⟩
  · have q26 : q2 ≠ r6 := fun e => by rw [e, k6] at h3; cases h3
    refine ⟨_, _, .trans wa (.trans (Wk.frz (r := q2) (sz := 1) (es := (letsN q ys ys.length).map fun n => [fI n]) (v' := aL2 (letsN q xs xs.length) (letsN q ys ys.length)) (by omega) (by rw [fa q2 h3, Heap.set_other q26, flat_P]; exact h2) (szP _ _) (.agg (.cons (.same _) (.cons frz_row .nil)))) (.forget (Heap.le_del la (noneH h3)))), rfl, rfl⟩
def rwRun (q : Qn) (st lp : List Int) : Bool := toldP q st lp && runP q st lp
def rwOk (q : Qn) (st lp : List Int) : Bool := rwRun q st lp && goodL (letsN q st st.length) (letsN q lp lp.length)
def rwS (q : Qn) (st lp : List Int) : List Int := if rwOk q st lp then letsN q st st.length else []
def rwL (q : Qn) (st lp : List Int) : List Int := if rwOk q st lp then letsN q lp lp.length else []
def RL (s l : List Int) (v : AV) (G : Heap) (D : List Nat) : Prop := (s = [] ∧ l = [] ∧ v = .agg [.p .nil, .p .nil] ∧ D = []) ∨ ∃ q1 q2, v = .agg [rowP q1 s, rowP q2 l] ∧ G q1 = some (cP fI s) ∧ G q2 = some (cP fI l) ∧ D = [q1, q2] ∧ q1 ≠ q2
theorem told_el {q : Qn} {st lp : List Int} (t : Told q st lp) (hs : SmallP q.prog) : (∀ x ∈ st, 0 ≤ x ∧ x < 1000) ∧ ∀ x ∈ lp, 0 ≤ x ∧ x < 1000 := by
  have h1 := statesP_nat hs
  have h2 := allP_bd hs
  have h := way_in t
  refine ⟨fun x hx => ?_, fun x hx => ?_⟩
  · have := h x (by simp [wayP, hx]); omega
  · have := h x (by simp [wayP, hx]); omega
theorem RunWord_impl (q : Qn) (h : vQ q) (st lp : List Int) (h1 : st.length ≤ 1048576) (h2 : lp.length ≤ 1048576) {H : Heap} {K : AV → Heap → Prop}
    (hK : ∀ v G D, RL (rwS q st lp) (rwL q st lp) v G D → New H G D → K (.tup [v, B (rwOk q st lp)]) G) : CallT Tryz.prog 20 [aQ q, Is st, Is lp] H K := by
  refine CallT.fin ?_
  refine W20_ok ?_; simp (maxSteps := 1000000) (disch := first | assumption | (apply ν6; assumption)) only [W20, vz, vu, vv, eqS, eF_, ↓c1_, ↓c2_, tabs, reduceCtorEq, ι5, ↓reduceIte, ν1, ν2, ν3, ν4, ν5, ι1, ι2, ι3, ι4]
  intro r3 h3 r6 n63 h6
  have nn63 := Ne.symm n63
  have hle : ∀ z, Heap.le H ((H.set r3 (cQ q)).set r6 z) := fun z => Heap.le_setN (Heap.le_set h3) h6
  have bad : rwOk q st lp = false → ∀ G, Heap.le H G → wkK K (.tup [.agg [.p .nil, .p .nil], B false]) G := fun hk G hG => by
    refine fin_le hG ?_
    have := hK (.agg [.p .nil, .p .nil]) H [] (.inl ⟨by simp [rwS, hk], by simp [rwL, hk], rfl, rfl⟩) ⟨by simp, by simp, Heap.le_refl _⟩
    rwa [hk] at this
  (try simp (maxSteps := 1000000) (disch := first | assumption | (apply ν6; assumption)) only [vz, vu, vv, eqS, eF_, ↓c1_, ↓c2_, tabs, reduceCtorEq, ι5, ↓reduceIte, ν1, ν2, ν3, ν4, ν5, ι1, ι2, ι3, ι4])
  refine Pu.use (areStates_spec q h st lp h1 h2) ?_
  cases ht : toldP q st lp
  · (try simp (maxSteps := 1000000) (disch := first | assumption | (apply ν6; assumption)) only [vz, vu, vv, eqS, eF_, ↓c1_, ↓c2_, tabs, reduceCtorEq, ι5, ↓reduceIte, ν1, ν2, ν3, ν4, ν5, ι1, ι2, ι3, ι4])
    exact bad (by simp [rwOk, rwRun, ht]) _ (hle _)
  have t := told_of ht
  (try simp (maxSteps := 1000000) (disch := first | assumption | (apply ν6; assumption)) only [vz, vu, vv, eqS, eF_, ↓c1_, ↓c2_, tabs, reduceCtorEq, ι5, ↓reduceIte, ν1, ν2, ν3, ν4, ν5, ι1, ι2, ι3, ι4])
  refine Pu.use (isRun_spec q h st lp t) ?_
  cases hr : runP q st lp
  · (try simp (maxSteps := 1000000) (disch := first | assumption | (apply ν6; assumption)) only [vz, vu, vv, eqS, eF_, ↓c1_, ↓c2_, tabs, reduceCtorEq, ι5, ↓reduceIte, ν1, ν2, ν3, ν4, ν5, ι1, ι2, ι3, ι4])
    exact bad (by simp [rwOk, rwRun, hr]) _ (hle _)
  (try simp (maxSteps := 1000000) (disch := first | assumption | (apply ν6; assumption)) only [vz, vu, vv, eqS, eF_, ↓c1_, ↓c2_, tabs, reduceCtorEq, ι5, ↓reduceIte, ν1, ν2, ν3, ν4, ν5, ι1, ι2, ι3, ι4])
  obtain ⟨es, el⟩ := told_el t t.g.sp
  have hl1 := t.l1
  have hl3 := t.l3
  have f3 : ((H.set r3 (cQ q)).set r6 [AV.p .nil, .p .nil]) r3 = some (cQ q) := by rw [Heap.set_other nn63, Heap.set_same]
  have f6 : ((H.set r3 (cQ q)).set r6 [AV.p .nil, .p .nil]) r6 = some [AV.p .nil, .p .nil] := Heap.set_same _ _ _
  have hlH := hle [AV.p .nil, .p .nil]
  generalize ((H.set r3 (cQ q)).set r6 [AV.p .nil, .p .nil]) = G at f3 f6 hlH ⊢
  have nH : ∀ {z} {G' : Heap}, Heap.le H G' → G' z = none → H z = none := fun {z G'} hl h => by
    cases hh : H z with
    | none => rfl
    | some b => rw [hl _ _ hh] at h; cases h
  have ne : ∀ {G' : Heap} {y c z}, G' y = some c → G' z = none → y ≠ z := fun h1 h2 e => by rw [← e, h1] at h2; cases h2
  refine letters_spec q h t.g st (by omega) es fun q1 hq1 => ?_
  have l1 := Heap.le_set (b := cP fI (letsN q st st.length)) hq1
  have k3 := l1 _ _ f3
  have k6 := l1 _ _ f6
  have kq1 : (G.set q1 (cP fI (letsN q st st.length))) q1 = some (cP fI (letsN q st st.length)) := Heap.set_same _ _ _
  have l1H := Heap.le_trans hlH l1
  have hHq1 := nH hlH hq1
  (try simp (maxSteps := 1000000) (disch := first | assumption | (apply ν6; assumption)) only [vz, vu, vv, eqS, eF_, ↓c1_, ↓c2_, tabs, reduceCtorEq, ι5, ↓reduceIte, ν1, ν2, ν3, ν4, ν5, ι1, ι2, ι3, ι4, load_at k3])
  refine letters_spec q h t.g lp (by omega) el fun q2 hq2 => ?_
  have l2 := Heap.le_set (b := cP fI (letsN q lp lp.length)) hq2
  have j6 := l2 _ _ k6
  have jq1 := l2 _ _ kq1
  have jq2 : ((G.set q1 (cP fI (letsN q st st.length))).set q2 (cP fI (letsN q lp lp.length))) q2 = some (cP fI (letsN q lp lp.length)) := Heap.set_same _ _ _
  have l2H := Heap.le_trans l1H l2
  have hHq2 := nH l1H hq2
  have q12 : q1 ≠ q2 := ne kq1 hq2
  have e61 : r6 ≠ q1 := ne f6 hq1
  have e62 : r6 ≠ q2 := ne k6 hq2
  have ls1 := letsN_len q st st.length
  have ls2 := letsN_len q lp lp.length
  have hRS : ∀ b, rwOk q st lp = b → b = goodL (letsN q st st.length) (letsN q lp lp.length) := fun b hb => by rw [← hb]; simp [rwOk, rwRun, ht, hr]
  generalize hG3 : (G.set q1 (cP fI (letsN q st st.length))).set q2 (cP fI (letsN q lp lp.length)) = G3 at j6 jq1 jq2 l2H ⊢
  (try simp (maxSteps := 1000000) (disch := first | assumption | (apply ν6; assumption)) only [vz, vu, vv, eqS, eF_, ↓c1_, ↓c2_, tabs, reduceCtorEq, ι5, ↓reduceIte, ν1, ν2, ν3, ν4, ν5, ι1, ι2, ι3, ι4])
  rw [← rowP, ← rowP]
  refine checkedLasso_live _ _ (by omega) (by omega) jq1 jq2 q12 (fun hg => ?_) (fun hg => ?_)
  · (try simp (maxSteps := 1000000) (disch := first | assumption | (apply ν6; assumption)) only [vz, vu, vv, eqS, eF_, ↓c1_, ↓c2_, tabs, reduceCtorEq, ι5, ↓reduceIte, ν1, ν2, ν3, ν4, ν5, ι1, ι2, ι3, ι4, store_at j6])
    exact bad (by simp [rwOk, hg]) _ (Heap.le_setN l2H h6)
  · have hok : rwOk q st lp = true := by simp [rwOk, rwRun, ht, hr, hg]
    (try simp (maxSteps := 1000000) (disch := first | assumption | (apply ν6; assumption)) only [vz, vu, vv, eqS, eF_, ↓c1_, ↓c2_, tabs, reduceCtorEq, ι5, ↓reduceIte, ν1, ν2, ν3, ν4, ν5, ι1, ι2, ι3, ι4, store_at j6])
    have := hK (.agg [rowP q1 (letsN q st st.length), rowP q2 (letsN q lp lp.length)]) ((H.set q1 (cP fI (letsN q st st.length))).set q2 (cP fI (letsN q lp lp.length))) [q1, q2] (.inr ⟨q1, q2, by simp [rwS, rwL, hok], by simp [rwS, hok, Heap.set_other q12, Heap.set_same], by simp [rwL, hok, Heap.set_same], rfl, q12⟩)
      ⟨by simp [q12], fun y hy => by
        simp only [List.mem_cons, List.not_mem_nil, or_false] at hy
        rcases hy with rfl | rfl
        · exact hHq1
        · exact hHq2, Heap.le_setN (Heap.le_set hHq1) hHq2⟩
    rw [hok] at this
    refine fin_le (fun y b hy => ?_) this
    by_cases e1 : y = q2
    · subst e1; rw [Heap.set_same] at hy; rw [Heap.set_other (Ne.symm e62), ← hG3, Heap.set_same]; exact hy
    · rw [Heap.set_other e1] at hy
      by_cases e2 : y = q1
      · subst e2; rw [Heap.set_same] at hy; rw [Heap.set_other (Ne.symm e61), ← hG3, Heap.set_other e1, Heap.set_same]; exact hy
      · rw [Heap.set_other e2] at hy
        exact Heap.le_setN l2H h6 _ _ hy
theorem RunWord_ref (q : Qn) (h : vQ q) (st lp : List Int) (h1 : st.length ≤ 1048576) (h2 : lp.length ≤ 1048576) : Pu Tryz.prog 19 [aQ q, Is st, Is lp] (.tup [aL2 (rwS q st lp) (rwL q st lp), B (rwOk q st lp)]) := by
  refine ⟨fun H => CallT.fin ?_⟩
  refine W19_ok ?_; simp (maxSteps := 1000000) (disch := first | assumption | (apply ν6; assumption)) only [W19, vz, vu, vv, eqS, eF_, ↓c1_, ↓c2_, tabs, reduceCtorEq, ι5, ↓reduceIte, ν1, ν2, ν3, ν4, ν5, ι1, ι2, ι3, ι4]
  intro r3 h3 r6 n63 h6
  have nn63 := Ne.symm n63
  have hle : ∀ z, Heap.le H ((H.set r3 (cQ q)).set r6 z) := fun z => Heap.le_setN (Heap.le_set h3) h6
  have bad : rwOk q st lp = false → ∀ G, Heap.le H G → wkK (fun r H' => r = AV.tup [aL2 (rwS q st lp) (rwL q st lp), B (rwOk q st lp)] ∧ H' = H) (.tup [.agg [.p .nil, .p .nil], B false]) G := fun hk G hG => by
    refine ⟨_, _, .trans (.val (v' := .tup [aL2 [] [], B false]) (wk_tup ⟨wk_agg ⟨.nil, .nil, trivial⟩, .refl _, trivial⟩)) (.forget hG), by simp [rwS, rwL, hk], rfl⟩
  (try simp (maxSteps := 1000000) (disch := first | assumption | (apply ν6; assumption)) only [vz, vu, vv, eqS, eF_, ↓c1_, ↓c2_, tabs, reduceCtorEq, ι5, ↓reduceIte, ν1, ν2, ν3, ν4, ν5, ι1, ι2, ι3, ι4])
  refine Pu.use (IsRun_ref q h st lp h1 h2) ?_
  cases ht : toldP q st lp
  · rw [irR_f ht]
    (try simp (maxSteps := 1000000) (disch := first | assumption | (apply ν6; assumption)) only [vz, vu, vv, eqS, eF_, ↓c1_, ↓c2_, tabs, reduceCtorEq, ι5, ↓reduceIte, ν1, ν2, ν3, ν4, ν5, ι1, ι2, ι3, ι4])
    exact bad (by simp [rwOk, rwRun, ht]) _ (hle _)
  have t := told_of ht
  rw [irR_t ht]
  obtain ⟨es, el⟩ := told_el t t.g.sp
  have hl1 := t.l1
  have hl3 := t.l3
  cases hr : runP q st lp
  · (try simp (maxSteps := 1000000) (disch := first | assumption | (apply ν6; assumption)) only [vz, vu, vv, eqS, eF_, ↓c1_, ↓c2_, tabs, reduceCtorEq, ι5, ↓reduceIte, ν1, ν2, ν3, ν4, ν5, ι1, ι2, ι3, ι4])
    exact bad (by simp [rwOk, rwRun, hr]) _ (hle _)
  (try simp (maxSteps := 1000000) (disch := first | assumption | (apply ν6; assumption)) only [vz, vu, vv, eqS, eF_, ↓c1_, ↓c2_, tabs, reduceCtorEq, ι5, ↓reduceIte, ν1, ν2, ν3, ν4, ν5, ι1, ι2, ι3, ι4])
  refine Pu.use (l14Word_spec q h t.g st lp (by omega) es (by omega) el) ?_
  have ls1 := letsN_len q st st.length
  have ls2 := letsN_len q lp lp.length
  refine Pu.use (l9Made_spec _ _ (by omega) (by omega)) ?_
  have e0 : rwOk q st lp = goodL (letsN q st st.length) (letsN q lp lp.length) := by simp [rwOk, rwRun, ht, hr]
  have e1 : rwS q st lp = if goodL (letsN q st st.length) (letsN q lp lp.length) then letsN q st st.length else [] := by rw [rwS, e0]
  have e2 : rwL q st lp = if goodL (letsN q st st.length) (letsN q lp lp.length) then letsN q lp lp.length else [] := by rw [rwL, e0]
  rw [← e0, ← e0] at *
  rw [← e1, ← e2]
  (try simp (maxSteps := 1000000) (disch := first | assumption | (apply ν6; assumption)) only [vz, vu, vv, eqS, eF_, ↓c1_, ↓c2_, tabs, reduceCtorEq, ι5, ↓reduceIte, ν1, ν2, ν3, ν4, ν5, ι1, ι2, ι3, ι4])
  exact ⟨_, _, .forget (hle _), rfl, rfl⟩
end Go.Proofs.YtgcklgeifdefhaaGreat
namespace Go.Proofs.YtgcklgeifdefhaaGreat
open Go Go.Sep Go.Pt
attribute [local irreducible] CallT
theorem nd3 {q : Nat} {A C E : List Nat} (h : (q :: (A ++ (C ++ E))).Nodup) : (q ∉ A ∧ q ∉ C ∧ q ∉ E) ∧ (∀ y ∈ A, y ∉ C) ∧ (∀ y ∈ E, y ∉ C) ∧ A.Nodup ∧ C.Nodup ∧ E.Nodup := by
  rw [List.nodup_cons, List.nodup_append, List.nodup_append] at h
  simp only [List.mem_append, not_or] at h
  refine ⟨h.1, fun y hy hc => h.2.2.2 y hy y (.inl hc) rfl, fun y hy hc => h.2.2.1.2.2 y hc y hy rfl, h.2.1, h.2.2.1.1, h.2.2.1.2.1⟩
theorem markChangeS_live (xs : List Ch) (hl : totChs xs ≤ 1048576) {x : AV} {G : Heap} {D : List Nat} (hx : LRow LCh 2 xs x G D) (hD : D.Nodup) {k : Int} (h0 : 0 ≤ k) (hk : k ≤ 800000000) {K : AV → Heap → Prop}
    (h : ∀ k' xs' G', LRow LCh 2 xs' x G' D → xs'.length = xs.length → (∀ y, y ∉ D → G' y = G y) → k ≤ k' → k' ≤ k + 2 * totChs xs → K (I k') G') : CallT Tryz.prog 154 [x, I k] G K := by
  obtain ⟨q, cs, D', rfl, hq, hll, rfl⟩ := hx
  have hlen : xs.length ≤ 1048576 := by unfold totChs at hl; omega
  refine W154_ok ?_; simp (maxSteps := 1000000) (disch := first | assumption | (apply ν6; assumption)) only [W154, vz, vu, vv, eqS, eF_, ↓c1_, ↓c2_, tabs, reduceCtorEq, ι5, ↓reduceIte, ν1, ν2, ν3, ν4, ν5, ι1, ι2, ι3, ι4]
  refine L154_0_rule ((0 : Nat), k, G, ([] : List Ch)) (fun s => I s.2.1) (fun s => I s.1) (fun s => s.2.2.1) (fun s => (s.1 ≤ xs.length ∧ k ≤ s.2.1 ∧ s.2.1 ≤ k + 2 * (s.1 + psum totCh xs s.1)) ∧ Half LCh G q D' xs s.1 s.2.2.1 s.2.2.2) (fun s => xs.length - s.1)
    ⟨⟨⟨by simp, by simp, by simp [psum]⟩, ⟨⟨[], cs, [], D', by simpa using hq, ⟨rfl, rfl⟩, by simpa using hll, rfl⟩, rfl, fun _ _ => rfl⟩⟩, .refl _, .refl _, Heap.le_refl _⟩ ?_
  rintro ⟨i, k1, G1, done⟩ ⟨⟨hi, hk1, hk2⟩, ⟨⟨cd, cr, Dd, Dr, e1, e2, e3, e4⟩, e5, e6⟩⟩
  dsimp only at hi hk1 hk2 e1 e2 e3 e4 e5 e6
  have hps := psum_le (f := totCh) (xs := xs) i
  have htd : totChs xs = xs.length + psum totCh xs xs.length := rfl
  (try simp (maxSteps := 1000000) (disch := first | assumption | (apply ν6; assumption)) only [vz, vu, vv, eqS, eF_, ↓c1_, ↓c2_, tabs, reduceCtorEq, ι5, ↓reduceIte, ν1, ν2, ν3, ν4, ν5, ι1, ι2, ι3, ι4, B154_0])
  refine ⟨fun h5 => ?_, fun h5 => ?_⟩
  · have hlt : i < xs.length := by omega
    have hsucc := psum_succ (f := totCh) hlt
    have hps2 := psum_le (f := totCh) (xs := xs) (i + 1)
    rw [drop_cons hlt] at e3
    obtain ⟨c, c2, Di, D2, rfl, rfl, ⟨x, rfl, hx⟩, f2⟩ := e3
    have hdl : cd.length = i * 2 := by rw [LL.size LCh.size e2, e5]
    subst e4
    obtain ⟨⟨q1, q2, q3⟩, dA, dE, nA, nC, nE⟩ := nd3 hD
    have htl : totCh (xs.getD i default) = (xs.getD i default).by_.length := rfl
    generalize xs.getD i default = a at e1 hx hsucc htl
    obtain ⟨qx, rfl⟩ := LRow.sl hx
    generalize hxx : (AV.sl qx 2 0 a.by_.length) = x at e1 hx
    have e1' : G1 q = some (cd ++ (I a.var :: x :: c2)) := e1
    have p1 : ∀ z, List.take (i * 2) (cd ++ (I a.var :: x :: c2)) ++ [z] ++ List.drop (i * 2 + 1) (cd ++ (I a.var :: x :: c2)) = cd ++ (z :: x :: c2) := fun z => splice_at (c := [I a.var]) (c' := [z]) (post := x :: c2) hdl.symm rfl rfl
    have rd : ∀ z, (List.take 1 (List.drop (i * 2 + 1) (cd ++ (z :: x :: c2)))).headD AV.any = x := fun z => by
      rw [List.drop_append, hdl, List.drop_of_length_le (by omega)]; simp
    (try simp (maxSteps := 1000000) (disch := first | assumption | (apply ν6; assumption)) only [vz, vu, vv, eqS, eF_, ↓c1_, ↓c2_, tabs, reduceCtorEq, ι5, ↓reduceIte, ν1, ν2, ν3, ν4, ν5, ι1, ι2, ι3, ι4, store_at e1', p1, rd])
    refine ⟨by omega, h5, by omega, by omega, h5, by omega, ?_⟩
    rw [i64_id (n := k1 + 1) (by omega) (by omega)]
    refine markNodeS_live a.by_ (by omega) (LRow.local (LPl.local eN) hx (fun y hy b hb => by rw [Heap.set_other (ne_mem hy q2)]; exact hb)) nC (by omega) (by omega) fun k2 t' G2 hx3 hlen hfr hk3 hk4 => ?_
    have g2q : G2 q = some ((cd ++ [I k1, x]) ++ c2) := by rw [hfr q q2, Heap.set_same]; simp
    (try simp (maxSteps := 1000000) (disch := first | assumption | (apply ν6; assumption)) only [vz, vu, vv, eqS, eF_, ↓c1_, ↓c2_, tabs, reduceCtorEq, ι5, ↓reduceIte, ν1, ν2, ν3, ν4, ν5, ι1, ι2, ι3, ι4])
    refine ⟨(i + 1, k2, G2, done ++ [⟨k1, t'⟩]), ⟨⟨by simp only; omega, by simp only; omega, by simp only; omega⟩, ⟨⟨cd ++ [I k1, x], c2, Dd ++ Di, D2, g2q, ?_, ?_, by simp⟩, by simp [e5], fun y hy => ?_⟩⟩, by simp only; omega, .refl _, ?_, Heap.le_refl _⟩
    · refine LL.snoc (L := LCh) (a := ⟨k1, t'⟩) ⟨x, rfl, hx3⟩ (LL.local LCh.local e2 fun y hy b hb => ?_)
      show G2 y = _
      rw [hfr y (dA y hy), Heap.set_other (ne_mem hy q1)]; exact hb
    · refine LL.local LCh.local f2 fun y hy b hb => ?_
      show G2 y = _
      rw [hfr y (dE y hy), Heap.set_other (ne_mem hy q3)]; exact hb
    · show G2 y = _
      have hy' := hy
      simp only [List.mem_cons, List.mem_append, not_or] at hy'
      rw [hfr y hy'.2.2.1, Heap.set_other hy'.1]; exact e6 y hy
    · rw [wk_int, i64_id (by omega) (by omega)]; simp
  · have : i = xs.length := by omega
    subst this
    rw [List.drop_length] at e3
    obtain ⟨rfl, rfl⟩ := e3
    refine h _ done G1 ⟨q, cd, D', by rw [e5], by simpa using e1, by rw [e4]; simpa using e2, rfl⟩ e5 e6 hk1 (by omega)
theorem markCommandS_live (xs : List Cm) (hl : totCms xs ≤ 1048576) {x : AV} {G : Heap} {D : List Nat} (hx : LRow LCm 2 xs x G D) (hD : D.Nodup) {k : Int} (h0 : 0 ≤ k) (hk : k ≤ 700000000) {K : AV → Heap → Prop}
    (h : ∀ k' xs' G', LRow LCm 2 xs' x G' D → xs'.length = xs.length → (∀ y, y ∉ D → G' y = G y) → k ≤ k' → k' ≤ k + 2 * totCms xs → K (I k') G') : CallT Tryz.prog 108 [x, I k] G K := by
  obtain ⟨q, cs, D', rfl, hq, hll, rfl⟩ := hx
  have hlen : xs.length ≤ 1048576 := by unfold totCms at hl; omega
  refine W108_ok ?_; simp (maxSteps := 1000000) (disch := first | assumption | (apply ν6; assumption)) only [W108, vz, vu, vv, eqS, eF_, ↓c1_, ↓c2_, tabs, reduceCtorEq, ι5, ↓reduceIte, ν1, ν2, ν3, ν4, ν5, ι1, ι2, ι3, ι4]
  refine L108_0_rule ((0 : Nat), k, G, ([] : List Cm)) (fun s => I s.2.1) (fun s => I s.1) (fun s => s.2.2.1) (fun s => (s.1 ≤ xs.length ∧ k ≤ s.2.1 ∧ s.2.1 ≤ k + 2 * (s.1 + psum totCm xs s.1)) ∧ Half LCm G q D' xs s.1 s.2.2.1 s.2.2.2) (fun s => xs.length - s.1)
    ⟨⟨⟨by simp, by simp, by simp [psum]⟩, ⟨⟨[], cs, [], D', by simpa using hq, ⟨rfl, rfl⟩, by simpa using hll, rfl⟩, rfl, fun _ _ => rfl⟩⟩, .refl _, .refl _, Heap.le_refl _⟩ ?_
  rintro ⟨i, k1, G1, done⟩ ⟨⟨hi, hk1, hk2⟩, ⟨⟨cd, cr, Dd, Dr, e1, e2, e3, e4⟩, e5, e6⟩⟩
  dsimp only at hi hk1 hk2 e1 e2 e3 e4 e5 e6
  have hps := psum_le (f := totCm) (xs := xs) i
  have htd : totCms xs = xs.length + psum totCm xs xs.length := rfl
  (try simp (maxSteps := 1000000) (disch := first | assumption | (apply ν6; assumption)) only [vz, vu, vv, eqS, eF_, ↓c1_, ↓c2_, tabs, reduceCtorEq, ι5, ↓reduceIte, ν1, ν2, ν3, ν4, ν5, ι1, ι2, ι3, ι4, B108_0])
  refine ⟨fun h5 => ?_, fun h5 => ?_⟩
  · have hlt : i < xs.length := by omega
    have hsucc := psum_succ (f := totCm) hlt
    have hps2 := psum_le (f := totCm) (xs := xs) (i + 1)
    rw [drop_cons hlt] at e3
    obtain ⟨c, c2, Di, D2, rfl, rfl, ⟨x, y, E1, E2, rfl, rfl, hx, hy⟩, f2⟩ := e3
    have hdl : cd.length = i * 2 := by rw [LL.size LCm.size e2, e5]
    subst e4
    obtain ⟨⟨q1, q2, q3⟩, dA, dE, nA, nC, nE⟩ := nd3 hD
    have htl : totCm (xs.getD i default) = (xs.getD i default).when_.length + totChs (xs.getD i default).chs := rfl
    generalize xs.getD i default = a at e1 hx hy hsucc htl
    rw [List.mem_append, not_or] at q2
    rw [List.nodup_append] at nC
    obtain ⟨qx, rfl⟩ := LRow.sl hx
    obtain ⟨qy, rfl⟩ := LRow.sl hy
    generalize hxx : (AV.sl qx 2 0 a.when_.length) = x at e1 hx
    generalize hyy : (AV.sl qy 2 0 a.chs.length) = y at e1 hy
    have e1' : G1 q = some (cd ++ (x :: y :: c2)) := e1
    have rd0 : (List.take 1 (List.drop (i * 2) (cd ++ (x :: y :: c2)))).headD AV.any = x := by
      rw [List.drop_append, hdl, List.drop_of_length_le (by omega)]; simp
    have rd1 : (List.take 1 (List.drop (i * 2 + 1) (cd ++ (x :: y :: c2)))).headD AV.any = y := by
      rw [List.drop_append, hdl, List.drop_of_length_le (by omega)]; simp
    (try simp (maxSteps := 1000000) (disch := first | assumption | (apply ν6; assumption)) only [vz, vu, vv, eqS, eF_, ↓c1_, ↓c2_, tabs, reduceCtorEq, ι5, ↓reduceIte, ν1, ν2, ν3, ν4, ν5, ι1, ι2, ι3, ι4, load_at e1', rd0, rd1])
    refine ⟨by omega, h5, by omega, ?_⟩
    refine markNodeS_live a.when_ (by omega) hx nC.1 (by omega) (by omega) fun k2 t' G2 hx3 hlen2 hfr hk3 hk4 => ?_
    have g2q' : G2 q = some (cd ++ (x :: y :: c2)) := by rw [hfr q q2.1]; exact e1'
    have hy2 : LRow LCh 2 a.chs y G2 E2 := LRow.local LCh.local hy fun z hz b hb => by rw [hfr z (fun hz1 => nC.2.2 z hz1 z hz rfl)]; exact hb
    (try simp (maxSteps := 1000000) (disch := first | assumption | (apply ν6; assumption)) only [vz, vu, vv, eqS, eF_, ↓c1_, ↓c2_, tabs, reduceCtorEq, ι5, ↓reduceIte, ν1, ν2, ν3, ν4, ν5, ι1, ι2, ι3, ι4, load_at g2q', rd0, rd1])
    refine ⟨by omega, h5, by omega, ?_⟩
    refine markChangeS_live a.chs (by omega) hy2 nC.2.1 (by omega) (by omega) fun k3 xs' G3 hy3 hlen3 hfr3 hk5 hk6 => ?_
    have g3q : G3 q = some ((cd ++ [x, y]) ++ c2) := by rw [hfr3 q q2.2, g2q']; simp
    have hx4 : LN t' x G3 E1 := LRow.local (LPl.local eN) hx3 fun z hz b hb => by rw [hfr3 z (fun hz1 => nC.2.2 z hz z hz1 rfl)]; exact hb
    (try simp (maxSteps := 1000000) (disch := first | assumption | (apply ν6; assumption)) only [vz, vu, vv, eqS, eF_, ↓c1_, ↓c2_, tabs, reduceCtorEq, ι5, ↓reduceIte, ν1, ν2, ν3, ν4, ν5, ι1, ι2, ι3, ι4])
    refine ⟨(i + 1, k3, G3, done ++ [⟨t', xs'⟩]), ⟨⟨by simp only; omega, by simp only; omega, by simp only; omega⟩, ⟨⟨cd ++ [x, y], c2, Dd ++ (E1 ++ E2), D2, g3q, ?_, ?_, by simp⟩, by simp [e5], fun z hz => ?_⟩⟩, by simp only; omega, .refl _, ?_, Heap.le_refl _⟩
    · refine LL.snoc (L := LCm) (a := ⟨t', xs'⟩) ⟨x, y, E1, E2, rfl, rfl, hx4, hy3⟩ (LL.local LCm.local e2 fun z hz b hb => ?_)
      show G3 z = _
      have := dA z hz
      rw [List.mem_append, not_or] at this
      rw [hfr3 z this.2, hfr z this.1]; exact hb
    · refine LL.local LCm.local f2 fun z hz b hb => ?_
      show G3 z = _
      have := dE z hz
      rw [List.mem_append, not_or] at this
      rw [hfr3 z this.2, hfr z this.1]; exact hb
    · show G3 z = _
      have hz' := hz
      simp only [List.mem_cons, List.mem_append, not_or] at hz'
      rw [hfr3 z hz'.2.2.1.2, hfr z hz'.2.2.1.1]; exact e6 z hz
    · rw [wk_int, i64_id (by omega) (by omega)]; simp
  · have : i = xs.length := by omega
    subst this
    rw [List.drop_length] at e3
    obtain ⟨rfl, rfl⟩ := e3
    refine h _ done G1 ⟨q, cd, D', by rw [e5], by simpa using e1, by rw [e4]; simpa using e2, rfl⟩ e5 e6 hk1 (by omega)
theorem markProgram_live (p : Pg) (hl : totPg p ≤ 1048576) {v : AV} {G : Heap} {D : List Nat} (hx : LPg p v G D) (hD : D.Nodup) {k : Int} (h0 : 0 ≤ k) (hk : k ≤ 600000000) {K : AV → Heap → Prop}
    (h : ∀ k' G', (∀ y, y ∉ D → G' y = G y) → k ≤ k' → k' ≤ k + 2 * totPg p → K (I k') G') : CallT Tryz.prog 65 [v, I k] G K := by
  obtain ⟨x, y, D1, D2, rfl, rfl, h1, h2⟩ := hx
  rw [List.nodup_append] at hD
  have htd : totPg p = p.start.length + totCms p.cmds := rfl
  refine CallT.fin ?_
  refine W65_ok ?_; simp (maxSteps := 1000000) (disch := first | assumption | (apply ν6; assumption)) only [W65, vz, vu, vv, eqS, eF_, ↓c1_, ↓c2_, tabs, reduceCtorEq, ι5, ↓reduceIte, ν1, ν2, ν3, ν4, ν5, ι1, ι2, ι3, ι4]
  intro r hr
  have r1 : r ∉ D1 := fun hh => LRow.has (LPl.has eN) h1 r hh hr
  have r2 : r ∉ D2 := fun hh => LRow.has LCm.has h2 r hh hr
  have h1' : LN p.start x (G.set r [I p.wide, I p.vars, x, y]) D1 := LRow.local (LPl.local eN) h1 fun z hz b hb => by rw [Heap.set_other (ne_mem hz r1)]; exact hb
  refine markNodeS_live p.start (by omega) h1' hD.1 h0 (by omega) fun k2 t' G2 hx3 hlen2 hfr hk3 hk4 => ?_
  have g2 : G2 r = some [I p.wide, I p.vars, x, y] := by rw [hfr r r1, Heap.set_same]
  have h2' : LRow LCm 2 p.cmds y G2 D2 := LRow.local LCm.local h2 fun z hz b hb => by rw [hfr z (fun hz1 => hD.2.2 z hz1 z hz rfl), Heap.set_other (ne_mem hz r2)]; exact hb
  (try simp (maxSteps := 1000000) (disch := first | assumption | (apply ν6; assumption)) only [vz, vu, vv, eqS, eF_, ↓c1_, ↓c2_, tabs, reduceCtorEq, ι5, ↓reduceIte, ν1, ν2, ν3, ν4, ν5, ι1, ι2, ι3, ι4, load_at g2])
  refine markCommandS_live p.cmds (by omega) h2' hD.2.1 (by omega) (by omega) fun k3 xs' G3 hy3 hlen3 hfr3 hk5 hk6 => ?_
  (try simp (maxSteps := 1000000) (disch := first | assumption | (apply ν6; assumption)) only [vz, vu, vv, eqS, eF_, ↓c1_, ↓c2_, tabs, reduceCtorEq, ι5, ↓reduceIte, ν1, ν2, ν3, ν4, ν5, ι1, ι2, ι3, ι4])
  refine fin_le (H := G3.del r) (Heap.del_le _ _) (h k3 (G3.del r) (fun z hz => ?_) (by omega) (by omega))
  rw [List.mem_append, not_or] at hz
  by_cases e : z = r
  · subst e; rw [Heap.del_same, hr]
  · rw [Heap.del_other e, hfr3 z hz.2, hfr z hz.1, Heap.set_other e]
end Go.Proofs.YtgcklgeifdefhaaGreat
namespace Go.Proofs.YtgcklgeifdefhaaGreat
open Go Go.Sep Go.Pt
attribute [local irreducible] CallT
def LNc : Lay (List Nd) := fun l cs G D => ∃ x, cs = [x] ∧ LN l x G D
abbrev LNN : List (List Nd) → AV → Heap → List Nat → Prop := LRow LNc 1
theorem LNc.local : Lay.Local LNc := by
  rintro c cs G G' D ⟨x, e, h⟩ hf
  exact ⟨x, e, LRow.local (LPl.local eN) h hf⟩
theorem LNc.size : Lay.Size LNc 1 := by
  rintro c cs G D ⟨x, rfl, h⟩; rfl
theorem LNc.has : Lay.Has LNc := by
  rintro c cs G D ⟨x, e, h⟩
  exact LRow.has (LPl.has eN) h
theorem LNc.frz : Lay.Frz LNc eNN := by
  rintro c cs G D v s pre post ⟨x, rfl, h⟩ hD hs hG
  obtain ⟨G', w, k, f⟩ := LRow.frzIn (e := eN) (sz := 2) (pre := pre) (post := post) (v := v) (by omega) (fun _ => rfl) (LPl.local eN) (LPl.frz eN) h hD hs (by rw [hG])
  exact ⟨G', w, by rw [k]; rfl, f⟩
theorem toNodeSS_live (xs : List (List Nd)) (hs : smNss xs) {H : Heap} {K : AV → Heap → Prop} (h : ∀ x G D, LNN xs x G D → New H G D → K x G) : CallT Tryz.prog 42 [Nss xs] H K := by
  have hl := hs.1
  refine W42_ok ?_; simp (maxSteps := 1000000) (disch := first | assumption | (apply ν6; assumption)) only [W42, vz, vu, vv, eqS, eF_, ↓c1_, ↓c2_, tabs, reduceCtorEq, ι5, ↓reduceIte, ν1, ν2, ν3, ν4, ν5, ι1, ι2, ι3, ι4, makeSliceV]
  refine ⟨by omega, by omega, by omega, by omega, fun q hq => ?_⟩
  refine L42_0_rule ((0 : Nat), H.set q (zerosA xs.length [.p .nil]), ([] : List Nat)) (fun s => I s.1) (fun s => s.2.1)
    (fun s => s.1 ≤ xs.length ∧ New H s.2.1 (q :: s.2.2) ∧ ∃ done, s.2.1 q = some (done ++ zerosA (xs.length - s.1) [.p .nil]) ∧ LL LNc (xs.take s.1) done s.2.1 s.2.2) (fun s => xs.length - s.1)
    ⟨⟨by simp, ⟨by simp, by simpa using hq, Heap.le_set hq⟩, [], by simp [Heap.set_same], ⟨rfl, rfl⟩⟩, .refl _, Heap.le_refl _⟩ ?_
  rintro ⟨i, G, D⟩ ⟨hi, hn, done, hG, hll⟩
  dsimp only at hi hn hG hll
  (try simp (maxSteps := 1000000) (disch := first | assumption | (apply ν6; assumption)) only [vz, vu, vv, eqS, eF_, ↓c1_, ↓c2_, tabs, reduceCtorEq, ι5, ↓reduceIte, ν1, ν2, ν3, ν4, ν5, ι1, ι2, ι3, ι4, B42_0])
  refine ⟨fun h => ⟨by omega, h, ?_⟩, fun h5 => ?_⟩
  · have hlt : i < xs.length := by omega
    have hm : xs.getD i default ∈ xs := getD_all (p := fun x => x ∈ xs) (fun _ h => h) hlt
    have hdl : done.length = i * 1 := by rw [LL.size LNc.size hll, List.length_take, Nat.min_eq_left hi]
    refine toNodeS_live (xs.getD i default) (hs.2 _ hm) fun x G1 D1 hc hn1 => ?_
    have hG1 := hn1.le q _ hG
    have hqD1 : q ∉ D1 := ne_of_new hn1 hG
    obtain ⟨qx, rfl⟩ := LRow.sl hc
    have hz : zerosA (xs.length - i) [.p .nil] = [.p .nil] ++ zerosA (xs.length - (i + 1)) [.p .nil] := by
      obtain ⟨m, hm⟩ : ∃ m, xs.length - i = m + 1 := ⟨xs.length - i - 1, by omega⟩
      rw [hm, zerosA_succ, show xs.length - (i + 1) = m by omega]
    have hput := splice_at (pre := done) (c := [.p .nil]) (c' := [.sl qx 2 0 (xs.getD i default).length]) (post := zerosA (xs.length - (i + 1)) [.p .nil]) (off := i * 1) (n := 1) hdl.symm rfl rfl
    rw [hz] at hG1
    have hzl : (zerosA (xs.length - (i + 1)) [AV.p .nil]).length = (xs.length - (i + 1)) * 1 := zerosA_len _ _
    (try simp (maxSteps := 1000000) (disch := first | assumption | (apply ν6; assumption)) only [vz, vu, vv, eqS, eF_, ↓c1_, ↓c2_, tabs, reduceCtorEq, ι5, ↓reduceIte, ν1, ν2, ν3, ν4, ν5, ι1, ι2, ι3, ι4, store_at hG1])
    generalize hxx : (AV.sl qx 2 0 (xs.getD i default).length) = x at hc hput ⊢
    refine ⟨by omega, h, by simp only [List.length_append, hdl, hzl, List.length_cons, List.length_nil]; omega, (i + 1, G1.set q (done ++ ([x] ++ zerosA (xs.length - (i + 1)) [.p .nil])), D ++ D1), ⟨by simp only; omega, ?_, done ++ [x], ?_, ?_⟩, by simp only; omega, ?_, ?_⟩
    · have ht := hn.trans hn1 (fun y hy => by
        rcases List.mem_cons.1 hy with rfl | hy
        · rw [hG]; simp
        · exact LL.has LNc.has hll y hy)
      exact ht.put hq _
    · show (G1.set q _) q = _
      rw [Heap.set_same, List.append_assoc]
    · show LL LNc (xs.take (i + 1)) (done ++ [x]) (G1.set q (done ++ ([x] ++ zerosA (xs.length - (i + 1)) [.p .nil]))) (D ++ D1)
      rw [take_succ_snoc hlt]
      refine LL.snoc (LNc.local _ _ _ _ _ ⟨x, rfl, hc⟩ fun y hy b hb => by rw [Heap.set_other (ne_mem hy hqD1)]; exact hb) (LL.local LNc.local hll fun y hy b hb => ?_)
      rw [Heap.set_other (fun e => ?_)]
      · exact hn1.le y b hb
      · have := hn.nd; rw [List.nodup_cons] at this; exact this.1 (e ▸ hy)
    · rw [wk_int, i64_id (by omega) (by omega)]; simp
    · have e : List.take (i * 1) (done ++ ([.p .nil] ++ zerosA (xs.length - (i + 1)) [.p .nil])) ++ [x] ++ List.drop (i * 1 + 1) (done ++ ([.p .nil] ++ zerosA (xs.length - (i + 1)) [.p .nil])) = done ++ ([x] ++ zerosA (xs.length - (i + 1)) [.p .nil]) := hput
      simp only
      rw [← e]
      first | exact Heap.le_refl _ | simp only [List.cons_append, List.nil_append, le_refl_true]
  · have : i = xs.length := by omega
    subst this
    rw [List.take_length] at hll
    refine h _ _ (q :: D) ⟨q, done, D, rfl, ?_, hll, rfl⟩ hn
    rw [hG]; simp [zerosA]
theorem nd3q {q : Nat} {A C E : List Nat} (h : (q :: (A ++ (C ++ E))).Nodup) : (q ∉ A ∧ q ∉ C ∧ q ∉ E) ∧ (∀ y ∈ A, y ∉ C) ∧ (∀ y ∈ E, y ∉ C) ∧ A.Nodup ∧ C.Nodup ∧ E.Nodup := by
  rw [List.nodup_cons, List.nodup_append, List.nodup_append] at h
  simp only [List.mem_append, not_or] at h
  refine ⟨h.1, fun y hy hc => h.2.2.2 y hy y (.inl hc) rfl, fun y hy hc => h.2.2.1.2.2 y hc y hy rfl, h.2.1, h.2.2.1.1, h.2.2.1.2.1⟩
theorem markNodeSS_live (xs : List (List Nd)) (hl : totNss xs ≤ 1048576) {x : AV} {G : Heap} {D : List Nat} (hx : LNN xs x G D) (hD : D.Nodup) {k : Int} (h0 : 0 ≤ k) (hk : k ≤ 800000000) {K : AV → Heap → Prop}
    (h : ∀ k' G', (∀ y, y ∉ D → G' y = G y) → k ≤ k' → k' ≤ k + 2 * totNss xs → K (I k') G') : CallT Tryz.prog 66 [x, I k] G K := by
  obtain ⟨q, cs, D', rfl, hq, hll, rfl⟩ := hx
  have hlen : xs.length ≤ 1048576 := by unfold totNss at hl; omega
  have htd : totNss xs = xs.length + psum totNL xs xs.length := rfl
  refine W66_ok ?_; simp (maxSteps := 1000000) (disch := first | assumption | (apply ν6; assumption)) only [W66, vz, vu, vv, eqS, eF_, ↓c1_, ↓c2_, tabs, reduceCtorEq, ι5, ↓reduceIte, ν1, ν2, ν3, ν4, ν5, ι1, ι2, ι3, ι4]
  refine L66_0_rule ((0 : Nat), G, ([] : List (List Nd)), k) (fun s => I s.2.2.2) (fun s => I s.1) (fun s => s.2.1) (fun s => s.1 ≤ xs.length ∧ Half LNc G q D' xs s.1 s.2.1 s.2.2.1 ∧ k ≤ s.2.2.2 ∧ s.2.2.2 ≤ k + 2 * (psum totNL xs s.1 : Nat)) (fun s => xs.length - s.1)
    ⟨⟨by simp, ⟨⟨[], cs, [], D', by simpa using hq, ⟨rfl, rfl⟩, by simpa using hll, rfl⟩, rfl, fun _ _ => rfl⟩, by simp, by simp [psum]⟩, .refl _, .refl _, Heap.le_refl _⟩ ?_
  rintro ⟨i, G1, done, k1⟩ ⟨hi, ⟨⟨cd, cr, Dd, Dr, e1, e2, e3, e4⟩, e5, e6⟩, hk1, hk2⟩
  dsimp only at hi e1 e2 e3 e4 e5 e6 hk1 hk2
  have hps := psum_le (f := totNL) (xs := xs) i
  (try simp (maxSteps := 1000000) (disch := first | assumption | (apply ν6; assumption)) only [vz, vu, vv, eqS, eF_, ↓c1_, ↓c2_, tabs, reduceCtorEq, ι5, ↓reduceIte, ν1, ν2, ν3, ν4, ν5, ι1, ι2, ι3, ι4, B66_0])
  refine ⟨fun h5 => ?_, fun h5 => ?_⟩
  · have hlt : i < xs.length := by omega
    have hsucc := psum_succ (f := totNL) hlt
    have hps2 := psum_le (f := totNL) (xs := xs) (i + 1)
    rw [drop_cons hlt] at e3
    obtain ⟨c, c2, Di, D2, rfl, rfl, ⟨x, rfl, hx⟩, f2⟩ := e3
    have hdl : cd.length = i * 1 := by rw [LL.size LNc.size e2, e5]
    subst e4
    obtain ⟨⟨q1, q2, q3⟩, dA, dE, nA, nC, nE⟩ := nd3q hD
    have htl : totNL (xs.getD i default) = (xs.getD i default).length := rfl
    generalize xs.getD i default = a at e1 hx hsucc htl
    have e1' : G1 q = some (cd ++ (x :: c2)) := e1
    have rd : (List.take 1 (List.drop (i * 1) (cd ++ (x :: c2)))).headD AV.any = x := by
      rw [List.drop_append, hdl, List.drop_of_length_le (by omega)]; simp
    (try simp (maxSteps := 1000000) (disch := first | assumption | (apply ν6; assumption)) only [vz, vu, vv, eqS, eF_, ↓c1_, ↓c2_, tabs, reduceCtorEq, ι5, ↓reduceIte, ν1, ν2, ν3, ν4, ν5, ι1, ι2, ι3, ι4, load_at e1', rd])
    refine ⟨by omega, h5, by omega, ?_⟩
    refine markNodeS_live a (by omega) hx nC (by omega) (by omega) fun k2 a' G2 hx3 hlen2 hfr hk3 hk4 => ?_
    (try simp (maxSteps := 1000000) (disch := first | assumption | (apply ν6; assumption)) only [vz, vu, vv, eqS, eF_, ↓c1_, ↓c2_, tabs, reduceCtorEq, ι5, ↓reduceIte, ν1, ν2, ν3, ν4, ν5, ι1, ι2, ι3, ι4])
    refine ⟨(i + 1, G2, done ++ [a'], k2), ⟨by simp only; omega, ⟨⟨cd ++ [x], c2, Dd ++ Di, D2, ?_, ?_, ?_, by simp⟩, by simp only [List.length_append, List.length_cons, List.length_nil, e5], fun y hy => ?_⟩, by simp only; omega, by simp only; omega⟩, by simp only; omega, .refl _, ?_, Heap.le_refl _⟩
    · show G2 q = _
      rw [hfr q q2, e1]; simp
    · show LL LNc (done ++ [a']) _ _ _
      exact LL.snoc (L := LNc) (a := a') ⟨x, rfl, hx3⟩ (LL.local LNc.local e2 fun y hy b hb => by show G2 y = some b; rw [hfr y (dA y hy)]; exact hb)
    · exact LL.local LNc.local f2 fun y hy b hb => by show G2 y = some b; rw [hfr y (dE y hy)]; exact hb
    · have hy' := hy
      simp only [List.mem_cons, List.mem_append, not_or] at hy'
      show G2 y = _
      rw [hfr y (by first | exact hy'.2.2.1 | exact hy'.2.1.2)]; exact e6 y hy
    · rw [wk_int, i64_id (by omega) (by omega)]; simp
  · have : i = xs.length := by omega
    subst this
    exact h k1 G1 e6 hk1 (by omega)
def tNN (xs : List (List Nd)) (v : AV) (D : List Nat) : Th := ⟨D, fun G => LNN xs v G D, fun h f => LRow.local LNc.local h f, fun h => LRow.has LNc.has h⟩
theorem LNN.wk {xs : List (List Nd)} {x : AV} {G : Heap} {D : List Nat} (h : LNN xs x G D) (hD : D.Nodup) (C : AV → AV) (hC : ∀ {r sz es a a'}, FrzR r sz es a a' → FrzR r sz es (C a) (C a')) : ∃ G', Wk (C x) G (C (Nss xs)) G' ∧ ∀ y, y ∉ D → G' y = G y :=
  LRow.frzV (e := eNN) (sz := 1) (v := C x) (v' := C (Nss xs)) (by omega) (fun _ => rfl) LNc.local LNc.frz h hD (fun r _ hr => hC hr)
theorem LNN.eq {xs : List (List Nd)} {x : AV} {G : Heap} {D : List Nat} (h : LNN xs x G D) (hD : D.Nodup) (hs : smNss xs) {K : AV → Heap → Prop} (k : K (B true) G) : CallT Tryz.prog 50 [x, Nss xs] G K := by
  obtain ⟨G1, w1, _⟩ := LNN.wk h hD (fun v => .tup [v, Nss xs]) (fun h => .tup (.cons h (.cons (.same _) .nil)))
  exact Pu.thaw (eqNodeSS_spec xs hs) (.bool _) w1 k
end Go.Proofs.YtgcklgeifdefhaaGreat
