/- Texts laid together: Le1 Le2 Pt2 Le3 Lb2 Lf1 Le4 Le5 Le6. -/
import Derived.Test.YtgcklgeifdefhaaGreatPkd6
set_option linter.unusedVariables false
set_option linter.unusedSimpArgs false
open Nat renaming reduceAdd → ν1, reduceLeDiff → ν2, reduceLT → ν3, reduceMul → ν4, reduceSub → ν5
open Int renaming reduceToNat → ι1, reduceSub → ι2, reduceAdd → ι3, reduceNeg → ι4
open Array renaming toList → ι5
open Ne renaming symm → ν6
open List renaming forall_mem_cons → ν7
namespace Go.Proofs.YtgcklgeifdefhaaGreat
open Go Go.Sep Go.Pt
attribute [local irreducible] CallT
abbrev eN (x : Nd) : List PV := [.int .i64 x.op, .int .u64 x.n]
abbrev aN (x : Nd) : AV := .agg [I x.op, U x.n]
abbrev Ns (xs : List Nd) : AV := .p (.sl (xs.map eN))
abbrev eCh (c : Ch) : List PV := [.int .i64 c.var, .sl (c.by_.map eN)]
abbrev aCh (c : Ch) : AV := .agg [I c.var, Ns c.by_]
abbrev Chs (cs : List Ch) : AV := .p (.sl (cs.map eCh))
abbrev eCm (c : Cm) : List PV := [.sl (c.when_.map eN), .sl (c.chs.map eCh)]
abbrev aCm (c : Cm) : AV := .agg [Ns c.when_, Chs c.chs]
abbrev Cms (cs : List Cm) : AV := .p (.sl (cs.map eCm))
abbrev aPg (p : Pg) : AV := .agg [I p.wide, I p.vars, Ns p.start, Cms p.cmds]
abbrev aS (of : List Int) : AV := .agg [Is of]
def ok (n : Nat) : Prop := n ≤ 9223372036854775807
def okCh (c : Ch) : Prop := ok c.by_.length
def okChs (cs : List Ch) : Prop := ok cs.length ∧ ∀ c ∈ cs, okCh c
def okCm (c : Cm) : Prop := ok c.when_.length ∧ okChs c.chs
def okCms (cs : List Cm) : Prop := ok cs.length ∧ ∀ c ∈ cs, okCm c
def okPg (p : Pg) : Prop := ok p.start.length ∧ okCms p.cmds
def psum {α : Type} (f : α → Nat) (xs : List α) (i : Nat) : Nat := ((xs.take i).map f).sum
theorem psum_succ {α : Type} [Inhabited α] {f : α → Nat} {xs : List α} {i : Nat} (h : i < xs.length) : psum f xs (i + 1) = psum f xs i + f (xs.getD i default) := by
  rw [psum, take_succ_snoc h, List.map_append, List.sum_append]; simp [psum]
theorem psum_le {α : Type} {f : α → Nat} {xs : List α} (i : Nat) : psum f xs i ≤ psum f xs xs.length := by
  rw [psum, psum, List.take_length]
  conv => rhs; rw [← List.take_append_drop i xs]
  rw [List.map_append, List.sum_append]; omega
def totCh (c : Ch) : Nat := c.by_.length
def totChs (cs : List Ch) : Nat := cs.length + psum totCh cs cs.length
def totCm (c : Cm) : Nat := c.when_.length + totChs c.chs
def totCms (cs : List Cm) : Nat := cs.length + psum totCm cs cs.length
def totPg (p : Pg) : Nat := p.start.length + totCms p.cmds
def szR (left : Int) (n : Nat) : Int := if (n : Int) ≤ left then left - n else -1
theorem szR_neg {left : Int} {n : Nat} (h : left < n) : szR left n = -1 := by rw [szR, if_neg (by omega)]
theorem szR_pos {left : Int} {n : Nat} (h : (n : Int) ≤ left) : szR left n = left - n := by rw [szR, if_pos h]
theorem szNodeS_spec (t : List Nd) (left : Int) (h0 : 0 ≤ left) (h1 : left ≤ 1048576) (hl : ok t.length) : Pu Tryz.prog 74 [Ns t, I left] (I (szR left t.length)) := by
  refine Pu.of fun H => ?_
  unfold ok at hl
  have e : IntKind.i64.wrap (left - t.length) = left - t.length := i64_id (by omega) (by omega)
  refine W74_ok ?_; simp (maxSteps := 1000000) (disch := first | assumption | (apply ν6; assumption)) only [W74, vz, vu, vv, eqS, eF_, ↓c1_, ↓c2_, tabs, reduceCtorEq, ι5, ↓reduceIte, ν1, ν2, ν3, ν4, ν5, ι1, ι2, ι3, ι4, e]
  refine ⟨fun h => by rw [szR_neg (by omega)], fun h => by rw [szR_pos (by omega)]⟩
theorem szChange_spec (c : Ch) (left : Int) (h0 : 0 ≤ left) (h1 : left ≤ 1048576) (hl : okCh c) : Pu Tryz.prog 183 [aCh c, I left] (I (szR left (totCh c))) := by
  refine Pu.of fun H => ?_
  refine W183_ok ?_; simp (maxSteps := 1000000) (disch := first | assumption | (apply ν6; assumption)) only [W183, vz, vu, vv, eqS, eF_, ↓c1_, ↓c2_, tabs, reduceCtorEq, ι5, ↓reduceIte, ν1, ν2, ν3, ν4, ν5, ι1, ι2, ι3, ι4]
  intro r hr
  refine Pu.use (szNodeS_spec c.by_ left h0 h1 hl) ?_
  (try simp (maxSteps := 1000000) (disch := first | assumption | (apply ν6; assumption)) only [vz, vu, vv, eqS, eF_, ↓c1_, ↓c2_, tabs, reduceCtorEq, ι5, ↓reduceIte, ν1, ν2, ν3, ν4, ν5, ι1, ι2, ι3, ι4])
  refine ⟨fun h => ⟨?_, Heap.le_set hr⟩, fun h => ⟨rfl, Heap.le_set hr⟩⟩
  unfold totCh szR at *
  split at h
  · omega
  · rename_i h2; rw [if_neg h2]
theorem szChangeS_spec (cs : List Ch) (left : Int) (h0 : 0 ≤ left) (h1 : left ≤ 1048576) (hl : okChs cs) : Pu Tryz.prog 165 [Chs cs, I left] (I (szR left (totChs cs))) := by
  refine Pu.of fun H => ?_
  have hl1 := hl.1
  unfold ok at hl1
  have e : IntKind.i64.wrap (left - cs.length) = left - cs.length := i64_id (by omega) (by omega)
  refine W165_ok ?_; simp (maxSteps := 1000000) (disch := first | assumption | (apply ν6; assumption)) only [W165, vz, vu, vv, eqS, eF_, ↓c1_, ↓c2_, tabs, reduceCtorEq, ι5, ↓reduceIte, ν1, ν2, ν3, ν4, ν5, ι1, ι2, ι3, ι4, e]
  refine ⟨fun h => by rw [szR_neg (by unfold totChs; omega)], fun h => ?_⟩
  refine L165_0_rule (0 : Nat) (fun i => I (left - cs.length - psum totCh cs i)) (fun i => I i) (fun _ => H) (fun i => i ≤ cs.length ∧ (cs.length : Int) + psum totCh cs i ≤ left) (fun i => cs.length - i) ⟨⟨by omega, by simp [psum]; omega⟩, ?_, .refl _, Heap.le_refl _⟩ ?_
  · rw [wk_int]; simp [psum]
  rintro i ⟨hi, hs⟩
  (try simp (maxSteps := 1000000) (disch := first | assumption | (apply ν6; assumption)) only [vz, vu, vv, eqS, eF_, ↓c1_, ↓c2_, tabs, reduceCtorEq, ι5, ↓reduceIte, ν1, ν2, ν3, ν4, ν5, ι1, ι2, ι3, ι4, B165_0])
  refine ⟨fun h2 => ⟨by omega, h2, ?_⟩, fun h2 => ?_⟩
  · have hlt : i < cs.length := by omega
    have hm : cs.getD i default ∈ cs := getD_all (p := fun x => x ∈ cs) (fun _ h => h) hlt
    refine Pu.use (szChange_spec (cs.getD i default) _ (by omega) (by omega) (hl.2 _ hm)) ?_
    have hsucc := psum_succ (f := totCh) hlt
    have hle := psum_le (f := totCh) (xs := cs) (i + 1)
    (try simp (maxSteps := 1000000) (disch := first | assumption | (apply ν6; assumption)) only [vz, vu, vv, eqS, eF_, ↓c1_, ↓c2_, tabs, reduceCtorEq, ι5, ↓reduceIte, ν1, ν2, ν3, ν4, ν5, ι1, ι2, ι3, ι4])
    refine ⟨fun h3 => ?_, fun h3 => ⟨i + 1, ⟨by omega, ?_⟩, by omega, ?_, ?_⟩⟩
    · rw [szR_neg]
      unfold szR at h3
      unfold totChs
      split at h3 <;> omega
    · unfold szR at h3
      split at h3 <;> omega
    · rw [wk_int]
      unfold szR at h3 ⊢
      split at h3
      · rename_i h4; rw [if_pos h4]; omega
      · omega
    · rw [wk_int, i64_id (by omega) (by omega)]; simp
  · have : i = cs.length := by omega
    subst this
    rw [szR_pos (by unfold totChs; omega)]
    unfold totChs
    exact congrArg (fun n : Int => I n) (by omega)
theorem szCommand_spec (c : Cm) (left : Int) (h0 : 0 ≤ left) (h1 : left ≤ 1048576) (hl : okCm c) : Pu Tryz.prog 119 [aCm c, I left] (I (szR left (totCm c))) := by
  refine Pu.of fun H => ?_
  refine W119_ok ?_; simp (maxSteps := 1000000) (disch := first | assumption | (apply ν6; assumption)) only [W119, vz, vu, vv, eqS, eF_, ↓c1_, ↓c2_, tabs, reduceCtorEq, ι5, ↓reduceIte, ν1, ν2, ν3, ν4, ν5, ι1, ι2, ι3, ι4]
  intro r hr
  refine Pu.use (szNodeS_spec c.when_ left h0 h1 hl.1) ?_
  (try simp (maxSteps := 1000000) (disch := first | assumption | (apply ν6; assumption)) only [vz, vu, vv, eqS, eF_, ↓c1_, ↓c2_, tabs, reduceCtorEq, ι5, ↓reduceIte, ν1, ν2, ν3, ν4, ν5, ι1, ι2, ι3, ι4])
  refine ⟨fun h => ⟨?_, Heap.le_set hr⟩, fun h => ?_⟩
  · unfold szR at h
    rw [szR_neg]
    unfold totCm
    split at h <;> omega
  · have h4 : (c.when_.length : Int) ≤ left := by
      unfold szR at h
      split at h <;> omega
    rw [szR_pos h4]
    refine Pu.use (szChangeS_spec c.chs _ (by omega) (by omega) hl.2) ?_
    (try simp (maxSteps := 1000000) (disch := first | assumption | (apply ν6; assumption)) only [vz, vu, vv, eqS, eF_, ↓c1_, ↓c2_, tabs, reduceCtorEq, ι5, ↓reduceIte, ν1, ν2, ν3, ν4, ν5, ι1, ι2, ι3, ι4])
    refine ⟨fun h => ⟨?_, Heap.le_set hr⟩, fun h => ⟨?_, Heap.le_set hr⟩⟩
    · unfold szR at h
      rw [szR_neg]
      unfold totCm
      split at h <;> omega
    · unfold szR at h
      split at h
      · rename_i h5
        rw [szR_pos h5, szR_pos (by unfold totCm; omega)]
        unfold totCm
        exact congrArg (fun n : Int => I n) (by omega)
      · omega
theorem szCommandS_spec (cs : List Cm) (left : Int) (h0 : 0 ≤ left) (h1 : left ≤ 1048576) (hl : okCms cs) : Pu Tryz.prog 75 [Cms cs, I left] (I (szR left (totCms cs))) := by
  refine Pu.of fun H => ?_
  have hl1 := hl.1
  unfold ok at hl1
  have e : IntKind.i64.wrap (left - cs.length) = left - cs.length := i64_id (by omega) (by omega)
  refine W75_ok ?_; simp (maxSteps := 1000000) (disch := first | assumption | (apply ν6; assumption)) only [W75, vz, vu, vv, eqS, eF_, ↓c1_, ↓c2_, tabs, reduceCtorEq, ι5, ↓reduceIte, ν1, ν2, ν3, ν4, ν5, ι1, ι2, ι3, ι4, e]
  refine ⟨fun h => by rw [szR_neg (by unfold totCms; omega)], fun h => ?_⟩
  refine L75_0_rule (0 : Nat) (fun i => I (left - cs.length - psum totCm cs i)) (fun i => I i) (fun _ => H) (fun i => i ≤ cs.length ∧ (cs.length : Int) + psum totCm cs i ≤ left) (fun i => cs.length - i) ⟨⟨by omega, by simp [psum]; omega⟩, ?_, .refl _, Heap.le_refl _⟩ ?_
  · rw [wk_int]; simp [psum]
  rintro i ⟨hi, hs⟩
  (try simp (maxSteps := 1000000) (disch := first | assumption | (apply ν6; assumption)) only [vz, vu, vv, eqS, eF_, ↓c1_, ↓c2_, tabs, reduceCtorEq, ι5, ↓reduceIte, ν1, ν2, ν3, ν4, ν5, ι1, ι2, ι3, ι4, B75_0])
  refine ⟨fun h2 => ⟨by omega, h2, ?_⟩, fun h2 => ?_⟩
  · have hlt : i < cs.length := by omega
    have hm : cs.getD i default ∈ cs := getD_all (p := fun x => x ∈ cs) (fun _ h => h) hlt
    refine Pu.use (szCommand_spec (cs.getD i default) _ (by omega) (by omega) (hl.2 _ hm)) ?_
    have hsucc := psum_succ (f := totCm) hlt
    have hle := psum_le (f := totCm) (xs := cs) (i + 1)
    (try simp (maxSteps := 1000000) (disch := first | assumption | (apply ν6; assumption)) only [vz, vu, vv, eqS, eF_, ↓c1_, ↓c2_, tabs, reduceCtorEq, ι5, ↓reduceIte, ν1, ν2, ν3, ν4, ν5, ι1, ι2, ι3, ι4])
    refine ⟨fun h3 => ?_, fun h3 => ⟨i + 1, ⟨by omega, ?_⟩, by omega, ?_, ?_⟩⟩
    · rw [szR_neg]
      unfold szR at h3
      unfold totCms
      split at h3 <;> omega
    · unfold szR at h3
      split at h3 <;> omega
    · rw [wk_int]
      unfold szR at h3 ⊢
      split at h3
      · rename_i h4; rw [if_pos h4]; omega
      · omega
    · rw [wk_int, i64_id (by omega) (by omega)]; simp
  · have : i = cs.length := by omega
    subst this
    rw [szR_pos (by unfold totCms; omega)]
    unfold totCms
    exact congrArg (fun n : Int => I n) (by omega)
theorem szProgram_spec (c : Pg) (left : Int) (h0 : 0 ≤ left) (h1 : left ≤ 1048576) (hl : okPg c) : Pu Tryz.prog 35 [aPg c, I left] (I (szR left (totPg c))) := by
  refine Pu.of fun H => ?_
  refine W35_ok ?_; simp (maxSteps := 1000000) (disch := first | assumption | (apply ν6; assumption)) only [W35, vz, vu, vv, eqS, eF_, ↓c1_, ↓c2_, tabs, reduceCtorEq, ι5, ↓reduceIte, ν1, ν2, ν3, ν4, ν5, ι1, ι2, ι3, ι4]
  intro r hr
  refine Pu.use (szNodeS_spec c.start left h0 h1 hl.1) ?_
  (try simp (maxSteps := 1000000) (disch := first | assumption | (apply ν6; assumption)) only [vz, vu, vv, eqS, eF_, ↓c1_, ↓c2_, tabs, reduceCtorEq, ι5, ↓reduceIte, ν1, ν2, ν3, ν4, ν5, ι1, ι2, ι3, ι4])
  refine ⟨fun h => ⟨?_, Heap.le_set hr⟩, fun h => ?_⟩
  · unfold szR at h
    rw [szR_neg]
    unfold totPg
    split at h <;> omega
  · have h4 : (c.start.length : Int) ≤ left := by
      unfold szR at h
      split at h <;> omega
    rw [szR_pos h4]
    refine Pu.use (szCommandS_spec c.cmds _ (by omega) (by omega) hl.2) ?_
    (try simp (maxSteps := 1000000) (disch := first | assumption | (apply ν6; assumption)) only [vz, vu, vv, eqS, eF_, ↓c1_, ↓c2_, tabs, reduceCtorEq, ι5, ↓reduceIte, ν1, ν2, ν3, ν4, ν5, ι1, ι2, ι3, ι4])
    refine ⟨fun h => ⟨?_, Heap.le_set hr⟩, fun h => ⟨?_, Heap.le_set hr⟩⟩
    · unfold szR at h
      rw [szR_neg]
      unfold totPg
      split at h <;> omega
    · unfold szR at h
      split at h
      · rename_i h5
        rw [szR_pos h5, szR_pos (by unfold totPg; omega)]
        unfold totPg
        exact congrArg (fun n : Int => I n) (by omega)
      · omega
end Go.Proofs.YtgcklgeifdefhaaGreat
namespace Go.Proofs.YtgcklgeifdefhaaGreat
open Go Go.Sep Go.Pt
attribute [local irreducible] CallT
def smCh (c : Ch) : Prop := c.by_.length ≤ 1048576
def smCm (c : Cm) : Prop := c.when_.length ≤ 1048576 ∧ c.chs.length ≤ 1048576 ∧ ∀ x ∈ c.chs, smCh x
def smPg (p : Pg) : Prop := p.start.length ≤ 1048576 ∧ p.cmds.length ≤ 1048576 ∧ ∀ x ∈ p.cmds, smCm x
theorem psum_mem {α : Type} {f : α → Nat} {xs : List α} {x : α} (h : x ∈ xs) : f x ≤ psum f xs xs.length := by
  rw [psum, List.take_length]
  induction xs with
  | nil => cases h
  | cons y ys ih =>
    simp only [List.map_cons, List.sum_cons]
    rcases List.mem_cons.1 h with rfl | h
    · omega
    · have := ih h; omega
theorem sm_of_tot {p : Pg} (h : (totPg p : Int) ≤ 1048576) : smPg p := by
  have h0 : totPg p ≤ 1048576 := by omega
  unfold totPg totCms at h0
  refine ⟨by omega, by omega, fun c hc => ?_⟩
  have h1 := psum_mem (f := totCm) hc
  have e1 : totCm c = c.when_.length + (c.chs.length + psum totCh c.chs c.chs.length) := rfl
  refine ⟨by omega, by omega, fun x hx => ?_⟩
  have h2 := psum_mem (f := totCh) hx
  have e2 : totCh x = x.by_.length := rfl
  unfold smCh
  omega
theorem toNode_spec (c : Nd) : Pu Tryz.prog 127 [aN c] (aN c) := by
  refine Pu.of fun H => ?_
  refine W127_ok ?_; simp (maxSteps := 1000000) (disch := first | assumption | (apply ν6; assumption)) only [W127, vz, vu, vv, eqS, eF_, ↓c1_, ↓c2_, tabs, reduceCtorEq, ι5, ↓reduceIte, ν1, ν2, ν3, ν4, ν5, ι1, ι2, ι3, ι4]
  intro r hr r2 n1 h2 r3 n2 n3 h3
  (try simp (maxSteps := 1000000) (disch := first | assumption | (apply ν6; assumption)) only [vz, vu, vv, eqS, eF_, ↓c1_, ↓c2_, tabs, reduceCtorEq, ι5, ↓reduceIte, ν1, ν2, ν3, ν4, ν5, ι1, ι2, ι3, ι4])
  (repeat first | exact Heap.le_refl _ | refine Heap.le_setN ?_ (by assumption))
theorem toNodeS_spec (xs : List Nd) (hl : xs.length ≤ 1048576) : Pu Tryz.prog 80 [Ns xs] (Ns xs) := by
  refine ⟨fun H => CallT.fin ?_⟩
  refine W80_ok ?_; simp (maxSteps := 1000000) (disch := first | assumption | (apply ν6; assumption)) only [W80, vz, vu, vv, eqS, eF_, ↓c1_, ↓c2_, tabs, reduceCtorEq, ι5, ↓reduceIte, ν1, ν2, ν3, ν4, ν5, ι1, ι2, ι3, ι4, makeSliceV]
  refine ⟨by omega, by omega, by omega, by omega, fun q hq => ?_⟩
  have z0 : rowZ eN [I 0, U 0] xs 0 = zerosA xs.length [I 0, U 0] := rowZ_zero
  rw [← z0]
  refine L80_0_rule (0 : Nat) (fun i => I i) (fun i => H.set q (rowZ eN [I 0, U 0] xs i)) (fun i => i ≤ xs.length) (fun i => xs.length - i) ⟨by omega, .refl _, Heap.le_refl _⟩ ?_
  intro i hi
  have hrl := rowZ_len (e := eN) (zero := [I 0, U 0]) (xs := xs) (i := i) (sz := 2) (fun _ => rfl) rfl hi
  (try simp (maxSteps := 1000000) (disch := first | assumption | (apply ν6; assumption)) only [vz, vu, vv, eqS, eF_, ↓c1_, ↓c2_, tabs, reduceCtorEq, ι5, ↓reduceIte, ν1, ν2, ν3, ν4, ν5, ι1, ι2, ι3, ι4, B80_0])
  refine ⟨fun h => ⟨by omega, h, ?_⟩, fun h => ?_⟩
  · have hlt : i < xs.length := by omega
    have hput := rowZ_put (e := eN) (zero := [I 0, U 0]) (xs := xs) (i := i) (sz := 2) (fun _ => rfl) rfl hlt rfl rfl
    refine Pu.use (toNode_spec (xs.getD i default)) ?_
    (try simp (maxSteps := 1000000) (disch := first | assumption | (apply ν6; assumption)) only [vz, vu, vv, eqS, eF_, ↓c1_, ↓c2_, tabs, reduceCtorEq, ι5, ↓reduceIte, ν1, ν2, ν3, ν4, ν5, ι1, ι2, ι3, ι4])
    refine ⟨by omega, h, by omega, i + 1, by omega, by omega, ?_, ?_⟩
    · rw [wk_int, i64_id (by omega) (by omega)]; simp
    · rw [← hput]; exact Heap.le_refl _
  · have : i = xs.length := by omega
    subst this
    have := fin_own (sz := 2) (es := xs.map eN) (q := q) (H := H) (H' := H.set q (rowZ eN [I 0, U 0] xs xs.length)) (K := fun r H' => r = Ns xs ∧ H' = H) (by omega) (sized_map (f := eN) (fun _ => rfl) xs) hq (by rw [rowZ_end]; exact Heap.le_refl _) ⟨rfl, rfl⟩
    simpa only [Go.Sep.own, List.length_map] using this
theorem toChange_spec (c : Ch) (h : smCh c) : Pu Tryz.prog 184 [aCh c] (aCh c) := by
  refine Pu.of fun H => ?_
  refine W184_ok ?_; simp (maxSteps := 1000000) (disch := first | assumption | (apply ν6; assumption)) only [W184, vz, vu, vv, eqS, eF_, ↓c1_, ↓c2_, tabs, reduceCtorEq, ι5, ↓reduceIte, ν1, ν2, ν3, ν4, ν5, ι1, ι2, ι3, ι4]
  intro r hr r2 n1 h2 r3 n2 n3 h3
  (try simp (maxSteps := 1000000) (disch := first | assumption | (apply ν6; assumption)) only [vz, vu, vv, eqS, eF_, ↓c1_, ↓c2_, tabs, reduceCtorEq, ι5, ↓reduceIte, ν1, ν2, ν3, ν4, ν5, ι1, ι2, ι3, ι4])
  refine Pu.use (toNodeS_spec c.by_ h) ?_
  (try simp (maxSteps := 1000000) (disch := first | assumption | (apply ν6; assumption)) only [vz, vu, vv, eqS, eF_, ↓c1_, ↓c2_, tabs, reduceCtorEq, ι5, ↓reduceIte, ν1, ν2, ν3, ν4, ν5, ι1, ι2, ι3, ι4])
  (repeat first | exact Heap.le_refl _ | refine Heap.le_setN ?_ (by assumption))
theorem toChangeS_spec (xs : List Ch) (hl : xs.length ≤ 1048576) (hs : ∀ x ∈ xs, smCh x) : Pu Tryz.prog 167 [Chs xs] (Chs xs) := by
  refine ⟨fun H => CallT.fin ?_⟩
  refine W167_ok ?_; simp (maxSteps := 1000000) (disch := first | assumption | (apply ν6; assumption)) only [W167, vz, vu, vv, eqS, eF_, ↓c1_, ↓c2_, tabs, reduceCtorEq, ι5, ↓reduceIte, ν1, ν2, ν3, ν4, ν5, ι1, ι2, ι3, ι4, makeSliceV]
  refine ⟨by omega, by omega, by omega, by omega, fun q hq => ?_⟩
  have z0 : rowZ eCh [I 0, .p .nil] xs 0 = zerosA xs.length [I 0, .p .nil] := rowZ_zero
  rw [← z0]
  refine L167_0_rule (0 : Nat) (fun i => I i) (fun i => H.set q (rowZ eCh [I 0, .p .nil] xs i)) (fun i => i ≤ xs.length) (fun i => xs.length - i) ⟨by omega, .refl _, Heap.le_refl _⟩ ?_
  intro i hi
  have hrl := rowZ_len (e := eCh) (zero := [I 0, .p .nil]) (xs := xs) (i := i) (sz := 2) (fun _ => rfl) rfl hi
  (try simp (maxSteps := 1000000) (disch := first | assumption | (apply ν6; assumption)) only [vz, vu, vv, eqS, eF_, ↓c1_, ↓c2_, tabs, reduceCtorEq, ι5, ↓reduceIte, ν1, ν2, ν3, ν4, ν5, ι1, ι2, ι3, ι4, B167_0])
  refine ⟨fun h => ⟨by omega, h, ?_⟩, fun h => ?_⟩
  · have hlt : i < xs.length := by omega
    have hput := rowZ_put (e := eCh) (zero := [I 0, .p .nil]) (xs := xs) (i := i) (sz := 2) (fun _ => rfl) rfl hlt rfl rfl
    have hm : xs.getD i default ∈ xs := getD_all (p := fun x => x ∈ xs) (fun _ h => h) hlt
    refine Pu.use (toChange_spec (xs.getD i default) (hs _ hm)) ?_
    (try simp (maxSteps := 1000000) (disch := first | assumption | (apply ν6; assumption)) only [vz, vu, vv, eqS, eF_, ↓c1_, ↓c2_, tabs, reduceCtorEq, ι5, ↓reduceIte, ν1, ν2, ν3, ν4, ν5, ι1, ι2, ι3, ι4])
    refine ⟨by omega, h, by omega, i + 1, by omega, by omega, ?_, ?_⟩
    · rw [wk_int, i64_id (by omega) (by omega)]; simp
    · rw [← hput]; exact Heap.le_refl _
  · have : i = xs.length := by omega
    subst this
    have := fin_own (sz := 2) (es := xs.map eCh) (q := q) (H := H) (H' := H.set q (rowZ eCh [I 0, .p .nil] xs xs.length)) (K := fun r H' => r = Chs xs ∧ H' = H) (by omega) (sized_map (f := eCh) (fun _ => rfl) xs) hq (by rw [rowZ_end]; exact Heap.le_refl _) ⟨rfl, rfl⟩
    simpa only [Go.Sep.own, List.length_map] using this
theorem toCommand_spec (c : Cm) (h : smCm c) : Pu Tryz.prog 128 [aCm c] (aCm c) := by
  refine Pu.of fun H => ?_
  refine W128_ok ?_; simp (maxSteps := 1000000) (disch := first | assumption | (apply ν6; assumption)) only [W128, vz, vu, vv, eqS, eF_, ↓c1_, ↓c2_, tabs, reduceCtorEq, ι5, ↓reduceIte, ν1, ν2, ν3, ν4, ν5, ι1, ι2, ι3, ι4]
  intro r hr r2 n1 h2 r3 n2 n3 h3
  (try simp (maxSteps := 1000000) (disch := first | assumption | (apply ν6; assumption)) only [vz, vu, vv, eqS, eF_, ↓c1_, ↓c2_, tabs, reduceCtorEq, ι5, ↓reduceIte, ν1, ν2, ν3, ν4, ν5, ι1, ι2, ι3, ι4])
  refine Pu.use (toNodeS_spec c.when_ h.1) ?_
  (try simp (maxSteps := 1000000) (disch := first | assumption | (apply ν6; assumption)) only [vz, vu, vv, eqS, eF_, ↓c1_, ↓c2_, tabs, reduceCtorEq, ι5, ↓reduceIte, ν1, ν2, ν3, ν4, ν5, ι1, ι2, ι3, ι4])
  refine Pu.use (toChangeS_spec c.chs h.2.1 h.2.2) ?_
  (try simp (maxSteps := 1000000) (disch := first | assumption | (apply ν6; assumption)) only [vz, vu, vv, eqS, eF_, ↓c1_, ↓c2_, tabs, reduceCtorEq, ι5, ↓reduceIte, ν1, ν2, ν3, ν4, ν5, ι1, ι2, ι3, ι4])
  (repeat first | exact Heap.le_refl _ | refine Heap.le_setN ?_ (by assumption))
theorem toCommandS_spec (xs : List Cm) (hl : xs.length ≤ 1048576) (hs : ∀ x ∈ xs, smCm x) : Pu Tryz.prog 81 [Cms xs] (Cms xs) := by
  refine ⟨fun H => CallT.fin ?_⟩
  refine W81_ok ?_; simp (maxSteps := 1000000) (disch := first | assumption | (apply ν6; assumption)) only [W81, vz, vu, vv, eqS, eF_, ↓c1_, ↓c2_, tabs, reduceCtorEq, ι5, ↓reduceIte, ν1, ν2, ν3, ν4, ν5, ι1, ι2, ι3, ι4, makeSliceV]
  refine ⟨by omega, by omega, by omega, by omega, fun q hq => ?_⟩
  have z0 : rowZ eCm [.p .nil, .p .nil] xs 0 = zerosA xs.length [.p .nil, .p .nil] := rowZ_zero
  rw [← z0]
  refine L81_0_rule (0 : Nat) (fun i => I i) (fun i => H.set q (rowZ eCm [.p .nil, .p .nil] xs i)) (fun i => i ≤ xs.length) (fun i => xs.length - i) ⟨by omega, .refl _, Heap.le_refl _⟩ ?_
  intro i hi
  have hrl := rowZ_len (e := eCm) (zero := [.p .nil, .p .nil]) (xs := xs) (i := i) (sz := 2) (fun _ => rfl) rfl hi
  (try simp (maxSteps := 1000000) (disch := first | assumption | (apply ν6; assumption)) only [vz, vu, vv, eqS, eF_, ↓c1_, ↓c2_, tabs, reduceCtorEq, ι5, ↓reduceIte, ν1, ν2, ν3, ν4, ν5, ι1, ι2, ι3, ι4, B81_0])
  refine ⟨fun h => ⟨by omega, h, ?_⟩, fun h => ?_⟩
  · have hlt : i < xs.length := by omega
    have hput := rowZ_put (e := eCm) (zero := [.p .nil, .p .nil]) (xs := xs) (i := i) (sz := 2) (fun _ => rfl) rfl hlt rfl rfl
    have hm : xs.getD i default ∈ xs := getD_all (p := fun x => x ∈ xs) (fun _ h => h) hlt
    refine Pu.use (toCommand_spec (xs.getD i default) (hs _ hm)) ?_
    (try simp (maxSteps := 1000000) (disch := first | assumption | (apply ν6; assumption)) only [vz, vu, vv, eqS, eF_, ↓c1_, ↓c2_, tabs, reduceCtorEq, ι5, ↓reduceIte, ν1, ν2, ν3, ν4, ν5, ι1, ι2, ι3, ι4])
    refine ⟨by omega, h, by omega, i + 1, by omega, by omega, ?_, ?_⟩
    · rw [wk_int, i64_id (by omega) (by omega)]; simp
    · rw [← hput]; exact Heap.le_refl _
  · have : i = xs.length := by omega
    subst this
    have := fin_own (sz := 2) (es := xs.map eCm) (q := q) (H := H) (H' := H.set q (rowZ eCm [.p .nil, .p .nil] xs xs.length)) (K := fun r H' => r = Cms xs ∧ H' = H) (by omega) (sized_map (f := eCm) (fun _ => rfl) xs) hq (by rw [rowZ_end]; exact Heap.le_refl _) ⟨rfl, rfl⟩
    simpa only [Go.Sep.own, List.length_map] using this
theorem toProgram_spec (c : Pg) (h : smPg c) : Pu Tryz.prog 41 [aPg c] (aPg c) := by
  refine Pu.of fun H => ?_
  refine W41_ok ?_; simp (maxSteps := 1000000) (disch := first | assumption | (apply ν6; assumption)) only [W41, vz, vu, vv, eqS, eF_, ↓c1_, ↓c2_, tabs, reduceCtorEq, ι5, ↓reduceIte, ν1, ν2, ν3, ν4, ν5, ι1, ι2, ι3, ι4]
  intro r hr r2 n1 h2 r3 n2 n3 h3
  (try simp (maxSteps := 1000000) (disch := first | assumption | (apply ν6; assumption)) only [vz, vu, vv, eqS, eF_, ↓c1_, ↓c2_, tabs, reduceCtorEq, ι5, ↓reduceIte, ν1, ν2, ν3, ν4, ν5, ι1, ι2, ι3, ι4])
  refine Pu.use (toNodeS_spec c.start h.1) ?_
  (try simp (maxSteps := 1000000) (disch := first | assumption | (apply ν6; assumption)) only [vz, vu, vv, eqS, eF_, ↓c1_, ↓c2_, tabs, reduceCtorEq, ι5, ↓reduceIte, ν1, ν2, ν3, ν4, ν5, ι1, ι2, ι3, ι4])
  refine Pu.use (toCommandS_spec c.cmds h.2.1 h.2.2) ?_
  (try simp (maxSteps := 1000000) (disch := first | assumption | (apply ν6; assumption)) only [vz, vu, vv, eqS, eF_, ↓c1_, ↓c2_, tabs, reduceCtorEq, ι5, ↓reduceIte, ν1, ν2, ν3, ν4, ν5, ι1, ι2, ι3, ι4])
  (repeat first | exact Heap.le_refl _ | refine Heap.le_setN ?_ (by assumption))
theorem toIntS_spec (xs : List Int) (hl : xs.length ≤ 1048576) : Pu Tryz.prog 16 [Is xs] (Is xs) := by
  refine ⟨fun H => CallT.fin ?_⟩
  refine W16_ok ?_; simp (maxSteps := 1000000) (disch := first | assumption | (apply ν6; assumption)) only [W16, vz, vu, vv, eqS, eF_, ↓c1_, ↓c2_, tabs, reduceCtorEq, ι5, ↓reduceIte, ν1, ν2, ν3, ν4, ν5, ι1, ι2, ι3, ι4, makeSliceV]
  refine ⟨by omega, by omega, by omega, by omega, fun q hq => ?_⟩
  have z0 : rowZ eI [I 0] xs 0 = zerosA xs.length [I 0] := rowZ_zero
  rw [← z0]
  refine L16_0_rule (0 : Nat) (fun i => I i) (fun i => H.set q (rowZ eI [I 0] xs i)) (fun i => i ≤ xs.length) (fun i => xs.length - i) ⟨by omega, .refl _, Heap.le_refl _⟩ ?_
  intro i hi
  have hrl := rowZ_len (e := eI) (zero := [I 0]) (xs := xs) (i := i) (sz := 1) (fun _ => rfl) rfl hi
  (try simp (maxSteps := 1000000) (disch := first | assumption | (apply ν6; assumption)) only [vz, vu, vv, eqS, eF_, ↓c1_, ↓c2_, tabs, reduceCtorEq, ι5, ↓reduceIte, ν1, ν2, ν3, ν4, ν5, ι1, ι2, ι3, ι4, B16_0])
  refine ⟨fun h => ⟨by omega, h, ?_⟩, fun h => ?_⟩
  · have hlt : i < xs.length := by omega
    have hput := rowZ_put (e := eI) (zero := [I 0]) (xs := xs) (i := i) (sz := 1) (fun _ => rfl) rfl hlt rfl rfl
    (try simp (maxSteps := 1000000) (disch := first | assumption | (apply ν6; assumption)) only [vz, vu, vv, eqS, eF_, ↓c1_, ↓c2_, tabs, reduceCtorEq, ι5, ↓reduceIte, ν1, ν2, ν3, ν4, ν5, ι1, ι2, ι3, ι4])
    refine ⟨by omega, h, by omega, i + 1, by omega, by omega, ?_, ?_⟩
    · rw [wk_int, i64_id (by omega) (by omega)]; simp
    · rw [← hput]; exact Heap.le_refl _
  · have : i = xs.length := by omega
    subst this
    have := fin_own (sz := 1) (es := xs.map eI) (q := q) (H := H) (H' := H.set q (rowZ eI [I 0] xs xs.length)) (K := fun r H' => r = Is xs ∧ H' = H) (by omega) (sized_map (f := eI) (fun _ => rfl) xs) hq (by rw [rowZ_end]; exact Heap.le_refl _) ⟨rfl, rfl⟩
    simpa only [Go.Sep.own, List.length_map] using this
theorem eqNode_spec (c : Nd) : Pu Tryz.prog 141 [aN c, aN c] (B true) := by
  refine Pu.of fun H => ?_
  refine W141_ok ?_; simp (maxSteps := 1000000) (disch := first | assumption | (apply ν6; assumption)) only [W141, vz, vu, vv, eqS, eF_, ↓c1_, ↓c2_, tabs, reduceCtorEq, ι5, ↓reduceIte, ν1, ν2, ν3, ν4, ν5, ι1, ι2, ι3, ι4]
  intro r hr r2 n1 h2
  (try simp (maxSteps := 1000000) (disch := first | assumption | (apply ν6; assumption)) only [vz, vu, vv, eqS, eF_, ↓c1_, ↓c2_, tabs, reduceCtorEq, ι5, ↓reduceIte, ν1, ν2, ν3, ν4, ν5, ι1, ι2, ι3, ι4])
  (repeat first | exact Heap.le_refl _ | refine Heap.le_setN ?_ (by assumption))
theorem eqNodeS_spec (xs : List Nd) (hl : xs.length ≤ 1048576) : Pu Tryz.prog 88 [Ns xs, Ns xs] (B true) := by
  refine Pu.of fun H => ?_
  refine W88_ok ?_; simp (maxSteps := 1000000) (disch := first | assumption | (apply ν6; assumption)) only [W88, vz, vu, vv, eqS, eF_, ↓c1_, ↓c2_, tabs, reduceCtorEq, ι5, ↓reduceIte, ν1, ν2, ν3, ν4, ν5, ι1, ι2, ι3, ι4]
  refine L88_0_rule (0 : Nat) (fun i => I i) (fun _ => H) (fun i => i ≤ xs.length) (fun i => xs.length - i) ⟨by omega, .refl _, Heap.le_refl _⟩ ?_
  intro i hi
  (try simp (maxSteps := 1000000) (disch := first | assumption | (apply ν6; assumption)) only [vz, vu, vv, eqS, eF_, ↓c1_, ↓c2_, tabs, reduceCtorEq, ι5, ↓reduceIte, ν1, ν2, ν3, ν4, ν5, ι1, ι2, ι3, ι4, B88_0])
  intro h
  have hlt : i < xs.length := by omega
  refine ⟨by omega, h, by omega, h, ?_⟩
  refine Pu.use (eqNode_spec (xs.getD i default)) ?_
  (try simp (maxSteps := 1000000) (disch := first | assumption | (apply ν6; assumption)) only [vz, vu, vv, eqS, eF_, ↓c1_, ↓c2_, tabs, reduceCtorEq, ι5, ↓reduceIte, ν1, ν2, ν3, ν4, ν5, ι1, ι2, ι3, ι4])
  refine ⟨i + 1, by omega, by omega, ?_⟩
  rw [wk_int, i64_id (by omega) (by omega)]; simp
theorem eqChange_spec (c : Ch) (h : smCh c) : Pu Tryz.prog 197 [aCh c, aCh c] (B true) := by
  refine Pu.of fun H => ?_
  refine W197_ok ?_; simp (maxSteps := 1000000) (disch := first | assumption | (apply ν6; assumption)) only [W197, vz, vu, vv, eqS, eF_, ↓c1_, ↓c2_, tabs, reduceCtorEq, ι5, ↓reduceIte, ν1, ν2, ν3, ν4, ν5, ι1, ι2, ι3, ι4]
  intro r hr r2 n1 h2
  (try simp (maxSteps := 1000000) (disch := first | assumption | (apply ν6; assumption)) only [vz, vu, vv, eqS, eF_, ↓c1_, ↓c2_, tabs, reduceCtorEq, ι5, ↓reduceIte, ν1, ν2, ν3, ν4, ν5, ι1, ι2, ι3, ι4])
  refine Pu.use (eqNodeS_spec c.by_ h) ?_
  (try simp (maxSteps := 1000000) (disch := first | assumption | (apply ν6; assumption)) only [vz, vu, vv, eqS, eF_, ↓c1_, ↓c2_, tabs, reduceCtorEq, ι5, ↓reduceIte, ν1, ν2, ν3, ν4, ν5, ι1, ι2, ι3, ι4])
  (repeat first | exact Heap.le_refl _ | refine Heap.le_setN ?_ (by assumption))
theorem eqChangeS_spec (xs : List Ch) (hl : xs.length ≤ 1048576) (hs : ∀ x ∈ xs, smCh x) : Pu Tryz.prog 175 [Chs xs, Chs xs] (B true) := by
  refine Pu.of fun H => ?_
  refine W175_ok ?_; simp (maxSteps := 1000000) (disch := first | assumption | (apply ν6; assumption)) only [W175, vz, vu, vv, eqS, eF_, ↓c1_, ↓c2_, tabs, reduceCtorEq, ι5, ↓reduceIte, ν1, ν2, ν3, ν4, ν5, ι1, ι2, ι3, ι4]
  refine L175_0_rule (0 : Nat) (fun i => I i) (fun _ => H) (fun i => i ≤ xs.length) (fun i => xs.length - i) ⟨by omega, .refl _, Heap.le_refl _⟩ ?_
  intro i hi
  (try simp (maxSteps := 1000000) (disch := first | assumption | (apply ν6; assumption)) only [vz, vu, vv, eqS, eF_, ↓c1_, ↓c2_, tabs, reduceCtorEq, ι5, ↓reduceIte, ν1, ν2, ν3, ν4, ν5, ι1, ι2, ι3, ι4, B175_0])
  intro h
  have hlt : i < xs.length := by omega
  refine ⟨by omega, h, by omega, h, ?_⟩
  have hm : xs.getD i default ∈ xs := getD_all (p := fun x => x ∈ xs) (fun _ h => h) hlt
  refine Pu.use (eqChange_spec (xs.getD i default) (hs _ hm)) ?_
  (try simp (maxSteps := 1000000) (disch := first | assumption | (apply ν6; assumption)) only [vz, vu, vv, eqS, eF_, ↓c1_, ↓c2_, tabs, reduceCtorEq, ι5, ↓reduceIte, ν1, ν2, ν3, ν4, ν5, ι1, ι2, ι3, ι4])
  refine ⟨i + 1, by omega, by omega, ?_⟩
  rw [wk_int, i64_id (by omega) (by omega)]; simp
theorem eqCommand_spec (c : Cm) (h : smCm c) : Pu Tryz.prog 142 [aCm c, aCm c] (B true) := by
  refine Pu.of fun H => ?_
  refine W142_ok ?_; simp (maxSteps := 1000000) (disch := first | assumption | (apply ν6; assumption)) only [W142, vz, vu, vv, eqS, eF_, ↓c1_, ↓c2_, tabs, reduceCtorEq, ι5, ↓reduceIte, ν1, ν2, ν3, ν4, ν5, ι1, ι2, ι3, ι4]
  intro r hr r2 n1 h2
  (try simp (maxSteps := 1000000) (disch := first | assumption | (apply ν6; assumption)) only [vz, vu, vv, eqS, eF_, ↓c1_, ↓c2_, tabs, reduceCtorEq, ι5, ↓reduceIte, ν1, ν2, ν3, ν4, ν5, ι1, ι2, ι3, ι4])
  refine Pu.use (eqNodeS_spec c.when_ h.1) ?_
  (try simp (maxSteps := 1000000) (disch := first | assumption | (apply ν6; assumption)) only [vz, vu, vv, eqS, eF_, ↓c1_, ↓c2_, tabs, reduceCtorEq, ι5, ↓reduceIte, ν1, ν2, ν3, ν4, ν5, ι1, ι2, ι3, ι4])
  refine Pu.use (eqChangeS_spec c.chs h.2.1 h.2.2) ?_
  (try simp (maxSteps := 1000000) (disch := first | assumption | (apply ν6; assumption)) only [vz, vu, vv, eqS, eF_, ↓c1_, ↓c2_, tabs, reduceCtorEq, ι5, ↓reduceIte, ν1, ν2, ν3, ν4, ν5, ι1, ι2, ι3, ι4])
  (repeat first | exact Heap.le_refl _ | refine Heap.le_setN ?_ (by assumption))
theorem eqCommandS_spec (xs : List Cm) (hl : xs.length ≤ 1048576) (hs : ∀ x ∈ xs, smCm x) : Pu Tryz.prog 89 [Cms xs, Cms xs] (B true) := by
  refine Pu.of fun H => ?_
  refine W89_ok ?_; simp (maxSteps := 1000000) (disch := first | assumption | (apply ν6; assumption)) only [W89, vz, vu, vv, eqS, eF_, ↓c1_, ↓c2_, tabs, reduceCtorEq, ι5, ↓reduceIte, ν1, ν2, ν3, ν4, ν5, ι1, ι2, ι3, ι4]
  refine L89_0_rule (0 : Nat) (fun i => I i) (fun _ => H) (fun i => i ≤ xs.length) (fun i => xs.length - i) ⟨by omega, .refl _, Heap.le_refl _⟩ ?_
  intro i hi
  (try simp (maxSteps := 1000000) (disch := first | assumption | (apply ν6; assumption)) only [vz, vu, vv, eqS, eF_, ↓c1_, ↓c2_, tabs, reduceCtorEq, ι5, ↓reduceIte, ν1, ν2, ν3, ν4, ν5, ι1, ι2, ι3, ι4, B89_0])
  intro h
  have hlt : i < xs.length := by omega
  refine ⟨by omega, h, by omega, h, ?_⟩
  have hm : xs.getD i default ∈ xs := getD_all (p := fun x => x ∈ xs) (fun _ h => h) hlt
  refine Pu.use (eqCommand_spec (xs.getD i default) (hs _ hm)) ?_
  (try simp (maxSteps := 1000000) (disch := first | assumption | (apply ν6; assumption)) only [vz, vu, vv, eqS, eF_, ↓c1_, ↓c2_, tabs, reduceCtorEq, ι5, ↓reduceIte, ν1, ν2, ν3, ν4, ν5, ι1, ι2, ι3, ι4])
  refine ⟨i + 1, by omega, by omega, ?_⟩
  rw [wk_int, i64_id (by omega) (by omega)]; simp
theorem eqProgram_spec (c : Pg) (h : smPg c) : Pu Tryz.prog 49 [aPg c, aPg c] (B true) := by
  refine Pu.of fun H => ?_
  refine W49_ok ?_; simp (maxSteps := 1000000) (disch := first | assumption | (apply ν6; assumption)) only [W49, vz, vu, vv, eqS, eF_, ↓c1_, ↓c2_, tabs, reduceCtorEq, ι5, ↓reduceIte, ν1, ν2, ν3, ν4, ν5, ι1, ι2, ι3, ι4]
  intro r hr r2 n1 h2
  (try simp (maxSteps := 1000000) (disch := first | assumption | (apply ν6; assumption)) only [vz, vu, vv, eqS, eF_, ↓c1_, ↓c2_, tabs, reduceCtorEq, ι5, ↓reduceIte, ν1, ν2, ν3, ν4, ν5, ι1, ι2, ι3, ι4])
  refine Pu.use (eqNodeS_spec c.start h.1) ?_
  (try simp (maxSteps := 1000000) (disch := first | assumption | (apply ν6; assumption)) only [vz, vu, vv, eqS, eF_, ↓c1_, ↓c2_, tabs, reduceCtorEq, ι5, ↓reduceIte, ν1, ν2, ν3, ν4, ν5, ι1, ι2, ι3, ι4])
  refine Pu.use (eqCommandS_spec c.cmds h.2.1 h.2.2) ?_
  (try simp (maxSteps := 1000000) (disch := first | assumption | (apply ν6; assumption)) only [vz, vu, vv, eqS, eF_, ↓c1_, ↓c2_, tabs, reduceCtorEq, ι5, ↓reduceIte, ν1, ν2, ν3, ν4, ν5, ι1, ι2, ι3, ι4])
  (repeat first | exact Heap.le_refl _ | refine Heap.le_setN ?_ (by assumption))
theorem eqIntS_spec (xs : List Int) (hl : xs.length ≤ 1048576) : Pu Tryz.prog 18 [Is xs, Is xs] (B true) := by
  refine Pu.of fun H => ?_
  refine W18_ok ?_; simp (maxSteps := 1000000) (disch := first | assumption | (apply ν6; assumption)) only [W18, vz, vu, vv, eqS, eF_, ↓c1_, ↓c2_, tabs, reduceCtorEq, ι5, ↓reduceIte, ν1, ν2, ν3, ν4, ν5, ι1, ι2, ι3, ι4]
  refine L18_0_rule (0 : Nat) (fun i => I i) (fun _ => H) (fun i => i ≤ xs.length) (fun i => xs.length - i) ⟨by omega, .refl _, Heap.le_refl _⟩ ?_
  intro i hi
  (try simp (maxSteps := 1000000) (disch := first | assumption | (apply ν6; assumption)) only [vz, vu, vv, eqS, eF_, ↓c1_, ↓c2_, tabs, reduceCtorEq, ι5, ↓reduceIte, ν1, ν2, ν3, ν4, ν5, ι1, ι2, ι3, ι4, B18_0])
  intro h
  have hlt : i < xs.length := by omega
  refine ⟨by omega, h, by omega, h, ?_⟩
  (try simp (maxSteps := 1000000) (disch := first | assumption | (apply ν6; assumption)) only [vz, vu, vv, eqS, eF_, ↓c1_, ↓c2_, tabs, reduceCtorEq, ι5, ↓reduceIte, ν1, ν2, ν3, ν4, ν5, ι1, ι2, ι3, ι4])
  refine ⟨i + 1, by omega, by omega, ?_⟩
  rw [wk_int, i64_id (by omega) (by omega)]; simp
end Go.Proofs.YtgcklgeifdefhaaGreat
namespace Go.Pt
open Go Go.Sep
theorem mask_eq : ∀ w : Nat, w ≤ 64 → (2 ^ 64 - 1) / 2 ^ (64 - w) = 2 ^ w - 1 := by decide +kernel
theorem or_step (a k : Nat) : (a % 2 ^ k) ||| (a &&& 2 ^ k) = a % 2 ^ (k + 1) := by
  apply Nat.eq_of_testBit_eq
  intro i
  rw [Nat.testBit_or, Nat.testBit_and, Nat.testBit_mod_two_pow, Nat.testBit_mod_two_pow, Nat.testBit_two_pow]
  cases a.testBit i
  · simp
  · simp only [Bool.and_true, Bool.true_and]
    rw [Bool.eq_iff_iff]
    simp only [Bool.or_eq_true, decide_eq_true_eq]
    omega
theorem bitsU (a b : Nat) (ha : a < 2 ^ 64) (hb : b < 2 ^ 64) :
    bitsI .and .u64 a b = ((a &&& b : Nat) : Int) ∧ bitsI .or .u64 a b = ((a ||| b : Nat) : Int) := by
  have e : ∀ x : Nat, x < 2 ^ 64 → (BitVec.ofInt IntKind.u64.bits (x : Int)).toNat = x := by
    intro x hx
    have : BitVec.ofInt IntKind.u64.bits (x : Int) = BitVec.ofNat 64 x := by
      apply BitVec.eq_of_toNat_eq; simp [IntKind.bits]
    rw [this]
    show (BitVec.ofNat 64 x).toNat = x
    rw [BitVec.toNat_ofNat, Nat.mod_eq_of_lt hx]
  constructor
  · simp only [bitsI]
    rw [BitVec.toNat_and, e a ha, e b hb, IntKind.wrap_u64]
    have := Nat.and_lt_two_pow a hb
    omega
  · simp only [bitsI]
    rw [BitVec.toNat_or, e a ha, e b hb, IntKind.wrap_u64]
    have := Nat.or_lt_two_pow ha hb
    omega
end Go.Pt
namespace Go.Proofs.YtgcklgeifdefhaaGreat
open Go Go.Sep Go.Pt
attribute [local irreducible] CallT
theorem l1In_B (a lo hi : Int) : Pu Tryz.prog 52 [I a, I lo, I hi] (B (inB a lo hi)) := l1In_spec a lo hi
theorem isWide_spec (n : Int) : Pu Tryz.prog 129 [I n] (B (inB n 1 64)) := by
  refine Pu.of fun H => ?_
  refine W129_ok ?_; simp (maxSteps := 1000000) (disch := first | assumption | (apply ν6; assumption)) only [W129, vz, vu, vv, eqS, eF_, ↓c1_, ↓c2_, tabs, reduceCtorEq, ι5, ↓reduceIte, ν1, ν2, ν3, ν4, ν5, ι1, ι2, ι3, ι4]
  refine ⟨fun h => ?_, fun h => ?_⟩
  · simp [inB, h]
  · simp [inB, h]
theorem isVars_spec (n : Int) : Pu Tryz.prog 130 [I n] (B (inB n 1 4)) := by
  refine Pu.of fun H => ?_
  refine W130_ok ?_; simp (maxSteps := 1000000) (disch := first | assumption | (apply ν6; assumption)) only [W130, vz, vu, vv, eqS, eF_, ↓c1_, ↓c2_, tabs, reduceCtorEq, ι5, ↓reduceIte, ν1, ν2, ν3, ν4, ν5, ι1, ι2, ι3, ι4]
  refine ⟨fun h => ?_, fun h => ?_⟩
  · simp [inB, h]
  · simp [inB, h]
theorem l1Wide_spec (n : Int) : Pu Tryz.prog 124 [I n] (B (inB n 1 64)) := by
  refine Pu.of fun H => ?_
  refine W124_ok ?_; simp (maxSteps := 1000000) (disch := first | assumption | (apply ν6; assumption)) only [W124, vz, vu, vv, eqS, eF_, ↓c1_, ↓c2_, tabs, reduceCtorEq, ι5, ↓reduceIte, ν1, ν2, ν3, ν4, ν5, ι1, ι2, ι3, ι4]
  exact Pu.use (l1In_B ..) ⟨rfl, Heap.le_refl _⟩
theorem mask_spec (w : Int) (h1 : 1 ≤ w) (h2 : w ≤ 64) : Pu Tryz.prog 144 [I w] (U (2 ^ w.toNat - 1)) := by
  refine Pu.of fun H => ?_
  obtain ⟨n, rfl⟩ : ∃ n : Nat, w = n := ⟨w.toNat, by omega⟩
  have e : IntKind.i64.wrap (64 - (n : Int)) = ((64 - n : Nat) : Int) := by rw [i64_id (by omega) (by omega)]; omega
  refine W144_ok ?_; simp (maxSteps := 1000000) (disch := first | assumption | (apply ν6; assumption)) only [W144, vz, vu, vv, eqS, eF_, ↓c1_, ↓c2_, tabs, reduceCtorEq, ι5, ↓reduceIte, ν1, ν2, ν3, ν4, ν5, ι1, ι2, ι3, ι4, e]
  refine ⟨by omega, ?_⟩
  have e2 : min (64 - n) IntKind.u64.bits = 64 - n := by
    have : IntKind.u64.bits = 64 := rfl
    omega
  rw [e2]
  have e3 := mask_eq n (by omega)
  have hp := Nat.two_pow_pos n
  congr 2
  rw [Int.fdiv_eq_ediv_of_nonneg _ (by exact Int.le_of_lt (Int.pow_pos (by decide)))]
  have e4 : (18446744073709551615 : Int) / 2 ^ (64 - n) = ((((2 : Nat) ^ 64 - 1) / 2 ^ (64 - n) : Nat) : Int) := by
    rw [Int.natCast_ediv]; simp
  rw [e4, e3]
  simp only [Int.natCast_sub hp]
  simp
theorem lt_pow {a : Nat} {n : Nat} : decide ((a : Int) ≤ 2 ^ n - 1) = decide ((a : Int) < 2 ^ n) := by
  apply decide_eq_decide.2; omega
theorem GoodWord_impl (w : Int) (a : Nat) : Pu Tryz.prog 196 [I w, U a] (B (inB w 1 64 && decide ((a : Int) < 2 ^ w.toNat))) := by
  refine Pu.of fun H => ?_
  refine W196_ok ?_; simp (maxSteps := 1000000) (disch := first | assumption | (apply ν6; assumption)) only [W196, vz, vu, vv, eqS, eF_, ↓c1_, ↓c2_, tabs, reduceCtorEq, ι5, ↓reduceIte, ν1, ν2, ν3, ν4, ν5, ι1, ι2, ι3, ι4]
  refine Pu.use (isWide_spec w) ?_
  cases h : inB w 1 64
  · (try simp (maxSteps := 1000000) (disch := first | assumption | (apply ν6; assumption)) only [vz, vu, vv, eqS, eF_, ↓c1_, ↓c2_, tabs, reduceCtorEq, ι5, ↓reduceIte, ν1, ν2, ν3, ν4, ν5, ι1, ι2, ι3, ι4])
  · (try simp (maxSteps := 1000000) (disch := first | assumption | (apply ν6; assumption)) only [vz, vu, vv, eqS, eF_, ↓c1_, ↓c2_, tabs, reduceCtorEq, ι5, ↓reduceIte, ν1, ν2, ν3, ν4, ν5, ι1, ι2, ι3, ι4])
    rw [inB_iff] at h
    refine Pu.use (mask_spec w h.1 h.2) ?_
    (try simp (maxSteps := 1000000) (disch := first | assumption | (apply ν6; assumption)) only [vz, vu, vv, eqS, eF_, ↓c1_, ↓c2_, tabs, reduceCtorEq, ι5, ↓reduceIte, ν1, ν2, ν3, ν4, ν5, ι1, ι2, ι3, ι4])
    rw [lt_pow]
theorem l1Cut_spec (n : Nat) (a : Nat) (hn : n ≤ 64) (ha : a < 2 ^ 64) : Pu Tryz.prog 176 [I n, U a] (U ((a % 2 ^ n : Nat) : Int)) := by
  refine Pu.of fun H => ?_
  refine W176_ok ?_; simp (maxSteps := 1000000) (disch := first | assumption | (apply ν6; assumption)) only [W176, vz, vu, vv, eqS, eF_, ↓c1_, ↓c2_, tabs, reduceCtorEq, ι5, ↓reduceIte, ν1, ν2, ν3, ν4, ν5, ι1, ι2, ι3, ι4]
  refine L176_0_rule (0 : Nat) (fun k => U ((a % 2 ^ k : Nat) : Int)) (fun k => I k) (fun _ => H) (fun k => k ≤ n) (fun k => n - k) ⟨by omega, ?_, .refl _, Heap.le_refl _⟩ ?_
  · simp [Nat.mod_one]; exact .refl _
  intro k hk
  (try simp (maxSteps := 1000000) (disch := first | assumption | (apply ν6; assumption)) only [vz, vu, vv, eqS, eF_, ↓c1_, ↓c2_, tabs, reduceCtorEq, ι5, ↓reduceIte, ν1, ν2, ν3, ν4, ν5, ι1, ι2, ι3, ι4, B176_0])
  refine ⟨fun h => ⟨?_, k + 1, by omega, by omega, ?_, ?_⟩, fun h => ?_⟩
  · rw [IntKind.wrap_u64]; omega
  · have e1 : IntKind.u64.wrap (k : Int) = k := by rw [IntKind.wrap_u64]; omega
    have e2 : min k IntKind.u64.bits = k := by
      have : IntKind.u64.bits = 64 := rfl
      omega
    have hk2 : 2 ^ k < 2 ^ 64 := Nat.pow_lt_pow_right (by decide) (by omega)
    have e3 : IntKind.u64.wrap (1 * 2 ^ k) = ((2 ^ k : Nat) : Int) := by
      rw [IntKind.wrap_u64, Int.one_mul]
      have : (2 : Int) ^ k = ((2 ^ k : Nat) : Int) := by simp
      rw [this]
      generalize 2 ^ k = g at hk2 ⊢
      omega
    rw [e1, Int.toNat_natCast, e2, e3, (bitsU a (2 ^ k) ha hk2).1]
    have h1 : a % 2 ^ k < 2 ^ 64 := Nat.lt_of_le_of_lt (Nat.mod_le _ _) ha
    have h2 : a &&& 2 ^ k < 2 ^ 64 := Nat.and_lt_two_pow a hk2
    rw [(bitsU _ _ h1 h2).2, or_step, wk_int]
  · rw [wk_int, i64_id (by omega) (by omega)]; simp
  · have : k = n := by omega
    subst this; rfl
theorem GoodWord_spec (w : Int) (a : Nat) (ha : a < 2 ^ 64) : Pu Tryz.prog 166 [I w, U a] (B (inB w 1 64 && decide ((a : Int) < 2 ^ w.toNat))) := by
  refine Pu.of fun H => ?_
  refine W166_ok ?_; simp (maxSteps := 1000000) (disch := first | assumption | (apply ν6; assumption)) only [W166, vz, vu, vv, eqS, eF_, ↓c1_, ↓c2_, tabs, reduceCtorEq, ι5, ↓reduceIte, ν1, ν2, ν3, ν4, ν5, ι1, ι2, ι3, ι4]
  refine Pu.use (l1Wide_spec w) ?_
  cases h : inB w 1 64
  · (try simp (maxSteps := 1000000) (disch := first | assumption | (apply ν6; assumption)) only [vz, vu, vv, eqS, eF_, ↓c1_, ↓c2_, tabs, reduceCtorEq, ι5, ↓reduceIte, ν1, ν2, ν3, ν4, ν5, ι1, ι2, ι3, ι4])
  · (try simp (maxSteps := 1000000) (disch := first | assumption | (apply ν6; assumption)) only [vz, vu, vv, eqS, eF_, ↓c1_, ↓c2_, tabs, reduceCtorEq, ι5, ↓reduceIte, ν1, ν2, ν3, ν4, ν5, ι1, ι2, ι3, ι4])
    rw [inB_iff] at h
    obtain ⟨n, rfl⟩ : ∃ n : Nat, w = n := ⟨w.toNat, by omega⟩
    refine Pu.use (l1Cut_spec n a (by omega) ha) ?_
    (try simp (maxSteps := 1000000) (disch := first | assumption | (apply ν6; assumption)) only [vz, vu, vv, eqS, eF_, ↓c1_, ↓c2_, tabs, reduceCtorEq, ι5, ↓reduceIte, ν1, ν2, ν3, ν4, ν5, ι1, ι2, ι3, ι4])
    congr 2
    apply decide_eq_decide.2
    have e : ((2 ^ n : Nat) : Int) = (2 : Int) ^ n := by simp
    rw [← e]
    constructor
    · intro h2
      have h3 : a % 2 ^ n = a := by omega
      have := Nat.mod_lt a (Nat.two_pow_pos n)
      omega
    · intro h2
      rw [Nat.mod_eq_of_lt (by omega)]
theorem operandsOf_spec (op : Int) {H : Heap} {K : AV → Heap → Prop} (h : ∀ p, many op = 0 ∨ p = Pt.part op → K (.tup [I (many op), I p, I (Pt.own op)]) H) : CallT Tryz.prog 172 [I op] H K := by
  have fin : ∀ m p o : Int, (many op : Int) = m → Pt.own op = o → (many op = 0 ∨ p = Pt.part op) → K (.tup [I m, I p, I o]) H := by
    intro m p o h1 h2 h3
    rw [← h1, ← h2]; exact h p h3
  refine W172_ok ?_; simp (maxSteps := 1000000) (disch := first | assumption | (apply ν6; assumption)) only [W172, vz, vu, vv, eqS, eF_, ↓c1_, ↓c2_, tabs, reduceCtorEq, ι5, ↓reduceIte, ν1, ν2, ν3, ν4, ν5, ι1, ι2, ι3, ι4, J172_0, J172_1, J172_2]
  repeat' (first | refine ⟨fun h => ?_, fun h => ?_⟩ | intro h)
  all_goals
    refine fin _ _ _ ?_ ?_ ?_
    · (unfold many; repeat' split) <;> omega
    · (unfold Pt.own; repeat' split) <;> omega
    · (unfold many Pt.part; repeat' split) <;> omega
theorem l2Need_spec (op : Int) {H : Heap} {K : AV → Heap → Prop} (h : ∀ p, many op = 0 ∨ p = Pt.part op → K (.tup [I (many op), I p, I (Pt.own op)]) H) : CallT Tryz.prog 125 [I op] H K := by
  have fin : ∀ m p o : Int, (many op : Int) = m → Pt.own op = o → (many op = 0 ∨ p = Pt.part op) → K (.tup [I m, I p, I o]) H := by
    intro m p o h1 h2 h3
    rw [← h1, ← h2]; exact h p h3
  refine W125_ok ?_; simp (maxSteps := 1000000) (disch := first | assumption | (apply ν6; assumption)) only [W125, vz, vu, vv, eqS, eF_, ↓c1_, ↓c2_, tabs, reduceCtorEq, ι5, ↓reduceIte, ν1, ν2, ν3, ν4, ν5, ι1, ι2, ι3, ι4]
  refine ⟨fun h1 => ?_, fun h1 => ⟨fun h2 => ?_, fun h2 => ⟨fun h3 => ?_, fun h3 => ⟨fun h4 => ?_, fun h4 => ⟨fun h5 => ?_, fun h5 => ?_⟩⟩⟩⟩⟩
  rotate_right
  · refine Pu.use (l1In_B ..) ?_
    cases h6 : inB op 3 12
    · have h6' : ¬ (3 ≤ op ∧ op ≤ 12) := fun hh => by rw [inB_iff.2 hh] at h6; cases h6
      (try simp (maxSteps := 1000000) (disch := first | assumption | (apply ν6; assumption)) only [vz, vu, vv, eqS, eF_, ↓c1_, ↓c2_, tabs, reduceCtorEq, ι5, ↓reduceIte, ν1, ν2, ν3, ν4, ν5, ι1, ι2, ι3, ι4])
      refine Pu.use (l1In_B ..) ?_
      cases h7 : inB op 14 16
      · have h7' : ¬ (14 ≤ op ∧ op ≤ 16) := fun hh => by rw [inB_iff.2 hh] at h7; cases h7
        (try simp (maxSteps := 1000000) (disch := first | assumption | (apply ν6; assumption)) only [vz, vu, vv, eqS, eF_, ↓c1_, ↓c2_, tabs, reduceCtorEq, ι5, ↓reduceIte, ν1, ν2, ν3, ν4, ν5, ι1, ι2, ι3, ι4])
        refine ⟨fun h8 => ?_, fun h8 => ⟨fun h9 => ?_, fun h9 => ?_⟩⟩
        all_goals
          refine fin _ _ _ ?_ ?_ ?_
          · (unfold many; repeat' split) <;> omega
          · (unfold Pt.own; repeat' split) <;> omega
          · (unfold many Pt.part; repeat' split) <;> omega
      · rw [inB_iff] at h7
        (try simp (maxSteps := 1000000) (disch := first | assumption | (apply ν6; assumption)) only [vz, vu, vv, eqS, eF_, ↓c1_, ↓c2_, tabs, reduceCtorEq, ι5, ↓reduceIte, ν1, ν2, ν3, ν4, ν5, ι1, ι2, ι3, ι4])
        refine fin _ _ _ ?_ ?_ ?_
        · (unfold many; repeat' split) <;> omega
        · (unfold Pt.own; repeat' split) <;> omega
        · (unfold many Pt.part; repeat' split) <;> omega
    · rw [inB_iff] at h6
      (try simp (maxSteps := 1000000) (disch := first | assumption | (apply ν6; assumption)) only [vz, vu, vv, eqS, eF_, ↓c1_, ↓c2_, tabs, reduceCtorEq, ι5, ↓reduceIte, ν1, ν2, ν3, ν4, ν5, ι1, ι2, ι3, ι4])
      refine fin _ _ _ ?_ ?_ ?_
      · (unfold many; repeat' split) <;> omega
      · (unfold Pt.own; repeat' split) <;> omega
      · (unfold many Pt.part; repeat' split) <;> omega
  all_goals
    refine fin _ _ _ ?_ ?_ ?_
    · (unfold many; repeat' split) <;> omega
    · (unfold Pt.own; repeat' split) <;> omega
    · (unfold many Pt.part; repeat' split) <;> omega
def okN (x : Nd) : Prop := 0 ≤ x.n ∧ x.n < 2 ^ 64
theorem isLeafRight_spec (w v : Int) (x : Nd) (hv : 1 ≤ v ∧ v ≤ 4) (hx : okN x) : Pu Tryz.prog 173 [I w, I v, aN x] (B (leafOk w v x)) := by
  refine Pu.of fun H => ?_
  obtain ⟨a, ha⟩ : ∃ a : Nat, x.n = a := ⟨x.n.toNat, by unfold okN at hx; omega⟩
  have e : IntKind.u64.wrap v = v := by rw [IntKind.wrap_u64]; omega
  refine W173_ok ?_; simp (maxSteps := 1000000) (disch := first | assumption | (apply ν6; assumption)) only [W173, vz, vu, vv, eqS, eF_, ↓c1_, ↓c2_, tabs, reduceCtorEq, ι5, ↓reduceIte, ν1, ν2, ν3, ν4, ν5, ι1, ι2, ι3, ι4, e, ha]
  intro r hr
  have hle : Heap.le H (H.set r [I x.op, U a]) := Heap.le_set hr
  refine ⟨fun h1 => ?_, fun h1 => ⟨fun h2 => ⟨?_, hle⟩, fun h2 => ⟨fun h3 => ⟨?_, hle⟩, fun h3 => ⟨?_, hle⟩⟩⟩⟩
  · refine Pu.use (GoodWord_impl w a) ⟨?_, hle⟩
    simp only [leafOk, h1, if_true, ha]
  · simp only [leafOk, h1, h2, if_true, if_false, ha, show ¬ (2 : Int) = 1 by decide]
  · simp only [leafOk, h1, h2, h3, if_true, if_false, ha, show ¬ (20 : Int) = 1 by decide, show ¬ (20 : Int) = 2 by decide]
  · simp only [leafOk, h1, h2, h3, if_false, ha]
theorem l2N_spec (w v : Int) (x : Nd) (hv : 1 ≤ v ∧ v ≤ 4) (hx : okN x) : Pu Tryz.prog 126 [I w, I v, aN x] (B (leafOk w v x)) := by
  refine Pu.of fun H => ?_
  obtain ⟨a, ha⟩ : ∃ a : Nat, x.n = a := ⟨x.n.toNat, by unfold okN at hx; omega⟩
  have ha2 : a < 2 ^ 64 := by unfold okN at hx; omega
  have e : IntKind.u64.wrap v = v := by rw [IntKind.wrap_u64]; omega
  refine W126_ok ?_; simp (maxSteps := 1000000) (disch := first | assumption | (apply ν6; assumption)) only [W126, vz, vu, vv, eqS, eF_, ↓c1_, ↓c2_, tabs, reduceCtorEq, ι5, ↓reduceIte, ν1, ν2, ν3, ν4, ν5, ι1, ι2, ι3, ι4, e, ha]
  intro r hr
  have hle : Heap.le H (H.set r [I x.op, U a]) := Heap.le_set hr
  refine ⟨fun h1 => ?_, fun h1 => ⟨fun h2 => ⟨?_, hle⟩, fun h2 => ⟨fun h3 => ⟨?_, hle⟩, fun h3 => ⟨?_, hle⟩⟩⟩⟩
  · refine Pu.use (GoodWord_spec w a ha2) ⟨?_, hle⟩
    simp only [leafOk, h1, if_true, ha]
  · simp only [leafOk, h1, h2, if_true, if_false, ha, show ¬ (2 : Int) = 1 by decide]
  · simp only [leafOk, h1, h2, h3, if_true, if_false, ha, show ¬ (20 : Int) = 1 by decide, show ¬ (20 : Int) = 2 by decide]
    congr 2
    apply decide_eq_decide.2; omega
  · simp only [leafOk, h1, h2, h3, if_false, ha]
end Go.Proofs.YtgcklgeifdefhaaGreat
namespace Go.Proofs.YtgcklgeifdefhaaGreat
open Go Go.Sep
attribute [local irreducible] CallT
abbrev fI (n : Int) : PV := .int .i64 n
abbrev rowP {α : Type} (q : Nat) (xs : List α) : AV := .sl q 1 0 xs.length
abbrev cP {α : Type} (f : α → PV) (xs : List α) : List AV := xs.map fun x => AV.p (f x)
abbrev vP {α : Type} (f : α → PV) (xs : List α) : AV := .p (.sl (xs.map fun x => [f x]))
theorem cells_P {α : Type} (f : α → PV) (xs : List α) : cells (xs.map fun x => [f x]) = cP f xs := by
  induction xs with
  | nil => rfl
  | cons x xs ih => simp only [cells, List.map_cons, List.flatten_cons, List.map_append] at ih ⊢; rw [ih]; rfl
theorem flat_P {α : Type} (f : α → PV) (xs : List α) : (xs.map fun x => [f x]).flatten.map AV.p = cP f xs := cells_P f xs
theorem szP {α : Type} (f : α → PV) (xs : List α) : Sized 1 (xs.map fun x => [f x]) := sized_map (f := fun x => [f x]) (fun _ => rfl) xs
theorem read_row {α : Type} {f : α → PV} {xs : List α} {k : Nat} (d : α) (h : k < xs.length) : ((((cP f xs).drop k).take 1).headD .any) = .p (f (xs.getD k d)) := by
  rw [List.drop_eq_getElem_cons (by simpa using h)]
  simp [List.getD, h]
def Base {α : Type} (f : α → PV) (x : AV) (xs : List α) (G : Heap) : Prop := (x = .p .nil ∧ xs = []) ∨ ∃ q, x = rowP q xs ∧ G q = some (cP f xs)
theorem app_row {α : Type} {f : α → PV} {tab : Tab} {t e : Nat} {d ed : TD} {q : Nat} {xs ys : List α} {G : Heap} {K : AV → Heap → Prop} (h1 : tab t = some d) (h2 : d.k = .slice e) (h3 : tab e = some ed) (h6 : ed.size = 1) (h7 : ed.bytes ≤ 64)
    (hq : G q = some (cP f xs)) (hl : xs.length + ys.length ≤ 1000000000)
    (h : ∀ q', G q' = none → K (rowP q' (xs ++ ys)) ((G.del q).set q' (cP f (xs ++ ys)))) : appendV tab t t (rowP q xs) (vP f ys) G (wkK K) := by
  have := app_own (x := vP f ys) (r := q) (es := xs.map fun x => [f x]) (fs := ys.map fun x => [f x]) (H := G) (K := K) h1 h2 h3 h1 h2 h6 (bz := ed.bytes) rfl (.inl rfl) (by rw [cells_P]; exact hq) (szP f xs) (szP f ys)
    (by simp only [List.length_map]; exact Nat.le_trans (Nat.mul_le_mul hl h7) (by omega)) (by simp only [List.length_map]; omega) fun r' hr' => by
      have := h r' hr'
      rw [← List.map_append, cells_P]
      simpa only [own, List.length_map] using this
  simpa only [own, List.length_map] using this
theorem app_base {α : Type} {f : α → PV} {tab : Tab} {t e : Nat} {d ed : TD} {x : AV} {xs ys : List α} {G : Heap} {K : AV → Heap → Prop} (h1 : tab t = some d) (h2 : d.k = .slice e) (h3 : tab e = some ed) (h6 : ed.size = 1) (h7 : ed.bytes ≤ 64)
    (hb : Base f x xs G) (hl : xs.length + ys.length ≤ 1000000000)
    (h : ∀ q' G1, G q' = none → G1 q' = some (cP f (xs ++ ys)) → (∀ y, y ≠ q' → (∀ q, x = rowP q xs → y ≠ q) → G1 y = G y) → K (rowP q' (xs ++ ys)) G1) : appendV tab t t x (vP f ys) G (wkK K) := by
  rcases hb with ⟨rfl, rfl⟩ | ⟨q, rfl, hq⟩
  · simp only [appendV, h1, h2, h3, h6, srcV, baseV]
    refine ⟨szP f ys, ?_, ?_, ?_, fun r' hr' => wkK.keep ?_⟩
    · have hl2 : 0 + (ys.map fun x => [f x]).length ≤ 1000000000 := by simpa using hl
      exact Nat.le_trans (Nat.mul_le_mul hl2 h7) (by omega)
    · simp only [List.length_map]; simp at hl; omega
    · exact cells_cell _
    · have := h r' (G.set r' (cP f ys)) hr' (by rw [Heap.set_same]; rfl) (fun y hy _ => Heap.set_other hy)
      rw [flat_P]
      simpa using this
  · refine app_row h1 h2 h3 h6 h7 hq hl fun q' hq' => ?_
    have hne : q' ≠ q := by rintro rfl; rw [hq] at hq'; cases hq'
    refine h q' _ hq' (Heap.set_same _ _ _) fun y hy hy2 => ?_
    rw [Heap.set_other hy, Heap.del_other (hy2 q rfl)]
structure Own1 {α : Type} (f : α → PV) (H0 G : Heap) (r : Nat) (pre : List AV) (x : AV) (xs : List α) : Prop where
  hr : G r = some (pre ++ [x])
  base : (x = .p .nil ∧ xs = []) ∨ ∃ q, x = rowP q xs ∧ G q = some (cP f xs) ∧ H0 q = none ∧ q ≠ r
  le : Heap.le H0 G
  nr : H0 r = none
theorem Own1.alloc {α : Type} {f : α → PV} {H0 G : Heap} {r : Nat} {pre : List AV} {x : AV} {xs : List α} (o : Own1 f H0 G r pre x xs) {q : Nat} (hq : G q = none) (b : List AV) : Own1 f H0 (G.set q b) r pre x xs := by
  have ne : ∀ {y c}, G y = some c → y ≠ q := fun h e => by rw [e, hq] at h; cases h
  refine ⟨by rw [Heap.set_other (ne o.hr)]; exact o.hr, ?_, Heap.le_setN o.le ?_, o.nr⟩
  · rcases o.base with h | ⟨q1, h1, h2, h3, h4⟩
    · exact .inl h
    · exact .inr ⟨q1, h1, by rw [Heap.set_other (ne h2)]; exact h2, h3, h4⟩
  · cases hh : H0 q with
    | none => rfl
    | some c => rw [o.le q c hh] at hq; cases hq
theorem Own1.app {α : Type} {f : α → PV} {H0 G : Heap} {r : Nat} {pre : List AV} {x : AV} {xs : List α} (o : Own1 f H0 G r pre x xs) {tab : Tab} {t e : Nat} {d ed : TD} {ys : List α} {K : AV → Heap → Prop} (h1 : tab t = some d) (h2 : d.k = .slice e) (h3 : tab e = some ed) (h6 : ed.size = 1) (h7 : ed.bytes ≤ 64)
    (hl : xs.length + ys.length ≤ 1000000000)
    (h : ∀ q' m G1, G1 r = some (pre ++ [x]) → Own1 f H0 (G1.set r (pre ++ [.sl q' 1 0 m])) r pre (.sl q' 1 0 m) (xs ++ ys) → (∀ y b, y ≠ r → H0 y = some b → G1 y = some b) → K (.sl q' 1 0 m) G1) : appendV tab t t x (vP f ys) G (wkK K) := by
  refine app_base (f := f) h1 h2 h3 h6 h7 (xs := xs) ?_ hl fun q' G1 hq' hG1 hfr => ?_
  · rcases o.base with h | ⟨q1, h1, h2, h3, h4⟩
    · exact .inl h
    · exact .inr ⟨q1, h1, h2⟩
  · have hrq : r ≠ q' := fun e => by rw [← e, o.hr] at hq'; cases hq'
    have hxr : ∀ q, x = rowP q xs → H0 q = none ∧ q ≠ r := by
      intro q hx
      rcases o.base with ⟨h, _⟩ | ⟨q1, h1, h2, h3, h4⟩
      · rw [h] at hx; cases hx
      · rw [h1] at hx; cases hx; exact ⟨h3, h4⟩
    have hle1 : ∀ y b, H0 y = some b → G1 y = some b := by
      intro y b hy
      rw [hfr y (fun e => by rw [← e, o.le y b hy] at hq'; cases hq') (fun q hx e => by rw [e, (hxr q hx).1] at hy; cases hy)]
      exact o.le y b hy
    have hnq : H0 q' = none := by
      cases hh : H0 q' with
      | none => rfl
      | some c => rw [o.le q' c hh] at hq'; cases hq'
    refine h q' _ G1 ?_ ⟨Heap.set_same _ _ _, .inr ⟨q', rfl, by rw [Heap.set_other hrq.symm]; exact hG1, hnq, hrq.symm⟩, ?_, o.nr⟩ fun y b _ hy => hle1 y b hy
    · rw [hfr r hrq (fun q hx e => (hxr q hx).2 e.symm)]; exact o.hr
    · refine Heap.le_setN (fun y b hy => hle1 y b hy) o.nr
theorem Own1.wk {α : Type} {f : α → PV} {H0 G : Heap} {r : Nat} {pre : List AV} {x : AV} {xs : List α} (o : Own1 f H0 G r pre x xs) {v v' : AV}
    (hn : x = .p .nil → xs = [] → AV.wk v v') (hf : ∀ q, x = rowP q xs → FrzR q 1 (xs.map fun x => [f x]) v v') (hp : ∀ q, q ≠ r → FrzL q 1 (xs.map fun x => [f x]) (pre ++ [rowP q xs]) (pre ++ [vP f xs])) :
    ∃ G', Wk v G v' G' ∧ G' r = some (pre ++ [vP f xs]) ∧ Heap.le H0 G' := by
  rcases o.base with ⟨rfl, rfl⟩ | ⟨q, rfl, hq, hq0, hqr⟩
  · refine ⟨G.set r (pre ++ [vP f []]), .trans (.val (hn rfl rfl)) (.cell o.hr (by simp) fun i a a' ha ha' => ?_), Heap.set_same _ _ _, Heap.le_setN o.le o.nr⟩
    by_cases hi : i < pre.length
    · rw [List.getElem?_append_left hi] at ha ha'
      rw [ha] at ha'; cases ha'; exact .refl _
    · rw [List.getElem?_append_right (by omega)] at ha ha'
      cases hj : i - pre.length with
      | zero =>
        rw [hj] at ha ha'
        simp at ha ha'
        subst ha; subst ha'; exact .nil
      | succ j => rw [hj] at ha; simp at ha
  · refine ⟨(G.del q).set r (pre ++ [vP f xs]), Wk.frzAt (r := q) (s := r) (sz := 1) (es := xs.map fun x => [f x]) (by omega) (by rw [flat_P]; exact hq) (szP f xs) o.hr hqr.symm (hp q hqr) (hf q rfl) (by simp), Heap.set_same _ _ _, ?_⟩
    exact Heap.le_setN (Heap.le_del o.le hq0) o.nr
theorem FrzL.refl {r sz : Nat} {es : List (List PV)} : ∀ vs, FrzL r sz es vs vs
  | [] => .nil
  | v :: vs => .cons (.same v) (FrzL.refl vs)
theorem FrzL.app {r sz : Nat} {es : List (List PV)} : ∀ {vs ws ws' : List AV}, FrzL r sz es ws ws' → FrzL r sz es (vs ++ ws) (vs ++ ws')
  | [], _, _, h => h
  | v :: vs, _, _, h => .cons (.same v) (FrzL.app (vs := vs) h)
theorem frz_row {α : Type} {f : α → PV} {q : Nat} {xs : List α} : FrzR q 1 (xs.map fun x => [f x]) (rowP q xs) (vP f xs) := by
  have : FrzR q 1 (xs.map fun x => [f x]) (.sl q 1 0 (xs.map fun x => [f x]).length) (.p (.sl (xs.map fun x => [f x]))) := .here
  rwa [List.length_map] at this
end Go.Proofs.YtgcklgeifdefhaaGreat
namespace Go.Proofs.YtgcklgeifdefhaaGreat
open Go Go.Sep
attribute [local irreducible] CallT
theorem IndexFunc_at (xs : List Int) (g : Nat) (caps : List AV) (p : Int → Bool) {H : Heap} (hl : xs.length ≤ 1000000000) (hp : ∀ x ∈ xs, PuAt Tryz.prog g (I x :: caps) H (B (p x))) :
    PuAt Tryz.prog 150 [Is xs, .fn g caps] H (I (if xs.any p then (xs.findIdx p : Int) else -1)) := by
  intro K hK
  refine CallT.fin ?_
  refine W150_ok ?_; simp (maxSteps := 1000000) (disch := first | assumption | (apply ν6; assumption)) only [W150, vz, vu, vv, eqS, eF_, ↓c1_, ↓c2_, tabs, reduceCtorEq, ι5, ↓reduceIte, ν1, ν2, ν3, ν4, ν5, ι1, ι2, ι3, ι4]
  refine L150_0_rule (0 : Nat) (fun i => I i) (fun _ => H) (fun i => i ≤ xs.length ∧ ∀ j (hj : j < xs.length), j < i → p xs[j] = false) (fun i => xs.length - i) ⟨⟨by omega, by intros; omega⟩, .refl _, Heap.le_refl _⟩ ?_
  rintro i ⟨hi1, ha⟩
  (try simp (maxSteps := 1000000) (disch := first | assumption | (apply ν6; assumption)) only [vz, vu, vv, eqS, eF_, ↓c1_, ↓c2_, tabs, reduceCtorEq, ι5, ↓reduceIte, ν1, ν2, ν3, ν4, ν5, ι1, ι2, ι3, ι4, B150_0])
  refine ⟨fun h => ⟨by omega, h, ?_⟩, fun h => ?_⟩
  · have hlt : i < xs.length := by omega
    rw [getD_lt hlt]
    refine PuAt.use (hp _ (List.getElem_mem hlt)) ?_
    (try simp (maxSteps := 1000000) (disch := first | assumption | (apply ν6; assumption)) only [vz, vu, vv, eqS, eF_, ↓c1_, ↓c2_, tabs, reduceCtorEq, ι5, ↓reduceIte, ν1, ν2, ν3, ν4, ν5, ι1, ι2, ι3, ι4])
    refine ⟨fun h1 => ?_, fun h1 => ⟨i + 1, ⟨by omega, fun j hj hji => ?_⟩, by omega, ?_⟩⟩
    · have h2 : xs.any p = true := List.any_eq_true.2 ⟨xs[i], List.getElem_mem hlt, h1⟩
      have h3 : xs.findIdx p = i := by
        rw [List.findIdx_eq hlt]; exact ⟨h1, fun j hj => ha j (by omega) hj⟩
      rw [h2, h3] at hK; exact wkK.keep (by simpa using hK)
    · rcases Nat.lt_succ_iff_lt_or_eq.1 hji with h2 | rfl
      · exact ha j hj h2
      · exact h1
    · rw [wk_int, i64_id (by omega) (by omega)]; simp
  · have hi : i = xs.length := by omega
    have h2 : xs.any p = false := by
      rw [List.any_eq_false]
      intro x hx
      obtain ⟨j, hj, rfl⟩ := List.mem_iff_getElem.1 hx
      rw [ha j hj (by omega)]; simp
    rw [h2] at hK; exact wkK.keep (by simpa using hK)
theorem ContainsFunc_at (xs : List Int) (g : Nat) (caps : List AV) (p : Int → Bool) {H : Heap} (hl : xs.length ≤ 1000000000) (hp : ∀ x ∈ xs, PuAt Tryz.prog g (I x :: caps) H (B (p x))) :
    PuAt Tryz.prog 100 [Is xs, .fn g caps] H (B (xs.any p)) := by
  intro K hK
  refine W100_ok ?_; simp (maxSteps := 1000000) (disch := first | assumption | (apply ν6; assumption)) only [W100, vz, vu, vv, eqS, eF_, ↓c1_, ↓c2_, tabs, reduceCtorEq, ι5, ↓reduceIte, ν1, ν2, ν3, ν4, ν5, ι1, ι2, ι3, ι4]
  refine PuAt.use (IndexFunc_at xs g caps p hl hp) ?_
  (try simp (maxSteps := 1000000) (disch := first | assumption | (apply ν6; assumption)) only [vz, vu, vv, eqS, eF_, ↓c1_, ↓c2_, tabs, reduceCtorEq, ι5, ↓reduceIte, ν1, ν2, ν3, ν4, ν5, ι1, ι2, ι3, ι4])
  cases h : xs.any p <;> simp [h] at hK ⊢ <;> exact hK
theorem app_prefix {α : Type} {f : α → PV} {tab : Tab} {t e : Nat} {d ed : TD} {q m : Nat} {xs ys : List α} {G : Heap} {K : AV → Heap → Prop} (h1 : tab t = some d) (h2 : d.k = .slice e) (h3 : tab e = some ed) (h6 : ed.size = 1) (h7 : ed.bytes ≤ 64)
    (hq : G q = some (cP f xs)) (hm : m ≤ xs.length) (hl : m + ys.length ≤ 1000000000)
    (h : ∀ q', G q' = none → q' ≠ q → K (rowP q' (xs.take m ++ ys)) ((G.del q).set q' (cP f (xs.take m ++ ys)))) : appendV tab t t (.sl q 1 0 m) (vP f ys) G (wkK K) := by
  simp only [appendV, h1, h2, h3, h6, srcV, baseV, hq]
  refine ⟨szP f ys, trivial, by simp; omega, ?_, ?_, ?_, fun r' hr' => wkK.keep ?_⟩
  · have hl2 : m + (ys.map fun x => [f x]).length ≤ 1000000000 := by simpa using hl
    exact Nat.le_trans (Nat.mul_le_mul hl2 h7) (by omega)
  · simp only [List.length_map]; omega
  · exact cells_cell _
  · have := h r' hr' (fun e => by rw [e, hq] at hr'; cases hr')
    rw [flat_P]
    have e1 : (List.drop 0 (cP f xs)).take (m * 1) = cP f (xs.take m) := by simp [cP, List.map_take]
    have e2 : (xs.take m).length = m := by simp; omega
    rw [e1]
    have e3 : (xs.take m ++ ys).length = m + ys.length := by rw [List.length_append, e2]
    have h0 : cP f (xs.take m ++ ys) = cP f (xs.take m) ++ cP f ys := List.map_append
    simp only [rowP, e3, h0] at this
    rw [List.length_map]
    exact this
end Go.Proofs.YtgcklgeifdefhaaGreat
namespace Go.Proofs.YtgcklgeifdefhaaGreat
open Go Go.Sep Go.Pt
attribute [local irreducible] CallT
theorem GoodTerm1_at (x k : Int) {H : Heap} : PuAt Tryz.prog 174 [I x, .fp [.int .i64 k]] H (B (decide (x ≠ k))) := by
  intro K hK
  refine W174_ok ?_; simp (maxSteps := 1000000) (disch := first | assumption | (apply ν6; assumption)) only [W174, vz, vu, vv, eqS, eF_, ↓c1_, ↓c2_, tabs, reduceCtorEq, ι5, ↓reduceIte, ν1, ν2, ν3, ν4, ν5, ι1, ι2, ι3, ι4, load_fp]
  simpa using hK
theorem Contains_row {q r m o : Nat} {p : List Int} {k : Int} {G : Heap} (hq : G q = some (cP fI p)) (hr : G r = some [I k]) (hqr : q ≠ r) (ho : o + m = p.length) {K : AV → Heap → Prop} (h : K (B ((p.drop o).any fun x => decide (x ≠ k))) G) (hl : p.length ≤ 1000) :
    CallT Tryz.prog 100 [.sl q 1 o m, .fn 174 [.ptr r 0]] G K := by
  refine CallT.thaw (args' := [Is (p.drop o), .fn 174 [.fp [.int .i64 k]]]) (v := B ((p.drop o).any fun x => decide (x ≠ k))) (H1 := (G.del q).del r) ?_ (.bool _) ?_ h
  · exact (ContainsFunc_at (p.drop o) _ _ (fun x => decide (x ≠ k)) (by simp; omega) fun x _ => GoodTerm1_at x k) _ rfl
  · refine .trans (Wk.frzS (r := q) (es := p.map fI) (v' := .tup [Is (p.drop o), .fn 174 [.ptr r 0]]) ?_ ?_) (Wk.frzS (r := r) (es := [.int .i64 k]) ?_ ?_)
    · rw [hq]; simp [cP]
    · have := FrzS.part (r := q) (es := p.map fI) o m (by simp; omega)
      have e : ((List.drop o (p.map fI)).take m).map (fun v => [v]) = (p.drop o).map eI := by
        rw [List.take_of_length_le (by simp; omega), ← List.map_drop, List.map_map]; rfl
      rw [e] at this
      exact .tup (.cons this (.cons (.same _) .nil))
    · rw [Heap.del_other hqr.symm]; exact hr
    · exact .tup (.cons (.same _) (.cons (.fn _ (.cons (.ptr 0) .nil)) .nil))
def gtI (w v : Int) (t : List Nd) : Bool := frame w v t && (match run w v [] t with
  | some p => decide (p.length = 1)
  | none => false)
theorem gtI_none {w v : Int} {t : List Nd} (h : run w v [] t = none) : gtI w v t = false := by simp [gtI, h]
theorem step_some {w v : Int} {p : List Int} {x : Nd} (h1 : Pt.own x.op ≠ 0) (h2 : leafOk w v x = true) (h3 : many x.op ≤ p.length) (h4 : ((p.drop (p.length - many x.op)).any fun k => decide (k ≠ Pt.part x.op)) = false) : Pt.step w v p x = some (p.take (p.length - many x.op) ++ [Pt.own x.op]) := by
  unfold Pt.step
  rw [if_neg (by rintro (h | h | h); exact h1 h; rw [h2] at h; cases h; omega), if_neg (by rw [h4]; simp)]
theorem step_none {w v : Int} {p : List Int} {x : Nd} (h : Pt.own x.op = 0 ∨ leafOk w v x = false ∨ p.length < many x.op) : Pt.step w v p x = none := by unfold Pt.step; rw [if_pos h]
theorem step_any {w v : Int} {p : List Int} {x : Nd} (h : ((p.drop (p.length - many x.op)).any fun k => decide (k ≠ Pt.part x.op)) = true) : Pt.step w v p x = none := by
  unfold Pt.step
  split
  · rfl
  · first | rfl | rw [if_pos h]
theorem many_le (op : Int) : many op ≤ 2 := by unfold many; split <;> (try split) <;> omega
theorem GoodTerm_spec (w v : Int) (t : List Nd) (hl : t.length ≤ 1048576) (ht : ∀ x ∈ t, okN x) : Pu Tryz.prog 139 [I w, I v, Ns t] (B (gtI w v t)) := by
  refine Pu.of fun H => ?_
  have bad : frame w v t = false → B false = B (gtI w v t) := fun h => by simp only [gtI, h, Bool.false_and]
  refine W139_ok ?_; simp (maxSteps := 1000000) (disch := first | assumption | (apply ν6; assumption)) only [W139, vz, vu, vv, eqS, eF_, ↓c1_, ↓c2_, tabs, reduceCtorEq, ι5, ↓reduceIte, ν1, ν2, ν3, ν4, ν5, ι1, ι2, ι3, ι4, buildSliceV, zerosA, List.replicate_zero, List.flatten_nil]
  refine Pu.use (isWide_spec w) ?_
  cases hw : inB w 1 64
  · (try simp (maxSteps := 1000000) (disch := first | assumption | (apply ν6; assumption)) only [vz, vu, vv, eqS, eF_, ↓c1_, ↓c2_, tabs, reduceCtorEq, ι5, ↓reduceIte, ν1, ν2, ν3, ν4, ν5, ι1, ι2, ι3, ι4])
    exact bad (by simp only [frame, hw, Bool.false_and])
  (try simp (maxSteps := 1000000) (disch := first | assumption | (apply ν6; assumption)) only [vz, vu, vv, eqS, eF_, ↓c1_, ↓c2_, tabs, reduceCtorEq, ι5, ↓reduceIte, ν1, ν2, ν3, ν4, ν5, ι1, ι2, ι3, ι4])
  refine Pu.use (isVars_spec v) ?_
  cases hv : inB v 1 4
  · (try simp (maxSteps := 1000000) (disch := first | assumption | (apply ν6; assumption)) only [vz, vu, vv, eqS, eF_, ↓c1_, ↓c2_, tabs, reduceCtorEq, ι5, ↓reduceIte, ν1, ν2, ν3, ν4, ν5, ι1, ι2, ι3, ι4])
    exact bad (by simp only [frame, hw, hv, Bool.false_and, Bool.and_false])
  (try simp (maxSteps := 1000000) (disch := first | assumption | (apply ν6; assumption)) only [vz, vu, vv, eqS, eF_, ↓c1_, ↓c2_, tabs, reduceCtorEq, ι5, ↓reduceIte, ν1, ν2, ν3, ν4, ν5, ι1, ι2, ι3, ι4])
  refine ⟨fun h1 => ?_, fun h1 => ⟨fun h2 => ?_, fun h2 => ?_⟩⟩
  · have : ¬ 1 ≤ t.length := by omega
    exact bad (by simp only [frame, this, decide_false, Bool.false_and, Bool.and_false])
  · have : ¬ t.length ≤ 48 := by omega
    exact bad (by simp only [frame, this, decide_false, Bool.and_false])
  have hf : frame w v t = true := by
    have a1 : 1 ≤ t.length := by omega
    have a2 : t.length ≤ 48 := by omega
    simp only [frame, hw, hv, a1, a2, decide_true, Bool.and_true]
  rw [inB_iff] at hw hv
  intro q0 hq0
  refine wkK.keep ?_
  (try simp (maxSteps := 1000000) (disch := first | assumption | (apply ν6; assumption)) only [vz, vu, vv, eqS, eF_, ↓c1_, ↓c2_, tabs, reduceCtorEq, ι5, ↓reduceIte, ν1, ν2, ν3, ν4, ν5, ι1, ι2, ι3, ι4])
  refine L139_0_rule ((0 : Nat), q0, ([] : List Int)) (fun s => rowP s.2.1 s.2.2) (fun s => I s.1) (fun s => H.set s.2.1 (cP fI s.2.2)) (fun s => s.1 ≤ t.length ∧ run w v [] (t.take s.1) = some s.2.2 ∧ H s.2.1 = none ∧ s.2.2.length ≤ s.1) (fun s => t.length - s.1)
    ⟨⟨by simp, by simp [run], hq0, by simp⟩, .refl _, .refl _, Heap.le_refl _⟩ ?_
  rintro ⟨i, q, p⟩ ⟨hi, hrun, hq, hpl⟩
  dsimp only at hi hrun hq hpl
  (try simp (maxSteps := 1000000) (disch := first | assumption | (apply ν6; assumption)) only [vz, vu, vv, eqS, eF_, ↓c1_, ↓c2_, tabs, reduceCtorEq, ι5, ↓reduceIte, ν1, ν2, ν3, ν4, ν5, ι1, ι2, ι3, ι4, B139_0])
  refine ⟨fun h => ⟨by omega, h, ?_⟩, fun h => ?_⟩
  · have hlt : i < t.length := by omega
    have hm : t.getD i default ∈ t := getD_all (p := fun x => x ∈ t) (fun _ h => h) hlt
    have hx := ht _ hm
    have hnone := fun hs => run_none w v hlt hrun hs
    have hsnoc : ∀ p', Pt.step w v p (t.getD i default) = some p' → run w v [] (t.take (i + 1)) = some p' := fun p' hs => by
      rw [take_succ_snoc hlt, run_snoc, hrun]; exact hs
    generalize t.getD i default = x at hx hnone hsnoc ⊢
    intro r9 n9 hr9
    (try simp (maxSteps := 1000000) (disch := first | assumption | (apply ν6; assumption)) only [vz, vu, vv, eqS, eF_, ↓c1_, ↓c2_, tabs, reduceCtorEq, ι5, ↓reduceIte, ν1, ν2, ν3, ν4, ν5, ι1, ι2, ι3, ι4])
    have hle9 : Heap.le H ((H.set q (cP fI p)).set r9 [I x.op, U x.n]) := Heap.le_setN (Heap.le_set hq) hr9
    refine operandsOf_spec x.op fun pp hpp => ?_
    (try simp (maxSteps := 1000000) (disch := first | assumption | (apply ν6; assumption)) only [vz, vu, vv, eqS, eF_, ↓c1_, ↓c2_, tabs, reduceCtorEq, ι5, ↓reduceIte, ν1, ν2, ν3, ν4, ν5, ι1, ι2, ι3, ι4])
    intro r11 n119 n11q hr11
    have hml := many_le x.op
    have e : IntKind.i64.wrap (↑p.length - ↑(many x.op)) = (p.length : Int) - many x.op := i64_id (by omega) (by omega)
    have hle11 : Heap.le H (((H.set q (cP fI p)).set r9 [I x.op, U x.n]).set r11 [I pp]) := Heap.le_setN hle9 hr11
    have nn : r9 ≠ r11 := Ne.symm n119
    (try simp (maxSteps := 1000000) (disch := first | assumption | (apply ν6; assumption)) only [vz, vu, vv, eqS, eF_, ↓c1_, ↓c2_, tabs, reduceCtorEq, ι5, ↓reduceIte, ν1, ν2, ν3, ν4, ν5, ι1, ι2, ι3, ι4, e])
    refine ⟨fun h0 => ⟨by rw [gtI_none (hnone (step_none (.inl h0)))], hle11⟩, fun h0 => ?_⟩
    refine Pu.use (isLeafRight_spec w v x hv hx) ?_
    cases hlf : leafOk w v x
    · (try simp (maxSteps := 1000000) (disch := first | assumption | (apply ν6; assumption)) only [vz, vu, vv, eqS, eF_, ↓c1_, ↓c2_, tabs, reduceCtorEq, ι5, ↓reduceIte, ν1, ν2, ν3, ν4, ν5, ι1, ι2, ι3, ι4])
      exact ⟨by rw [gtI_none (hnone (step_none (.inr (.inl hlf))))], hle11⟩
    (try simp (maxSteps := 1000000) (disch := first | assumption | (apply ν6; assumption)) only [vz, vu, vv, eqS, eF_, ↓c1_, ↓c2_, tabs, reduceCtorEq, ι5, ↓reduceIte, ν1, ν2, ν3, ν4, ν5, ι1, ι2, ι3, ι4])
    refine ⟨fun h3 => ⟨by rw [gtI_none (hnone (step_none (.inr (.inr (by omega)))))], hle11⟩, fun h3 => ⟨by omega, by omega, by omega, ?_⟩⟩
    have e2 : ((p.length : Int) - many x.op).toNat = p.length - many x.op := by omega
    have e3 : ((p.length : Int) - ((p.length : Int) - many x.op)).toNat = many x.op := by omega
    rw [e2, e3]
    have hqG : ∀ z1 z2, (((H.set q (cP fI p)).set r9 z1).set r11 z2) q = some (cP fI p) := fun z1 z2 => by rw [Heap.set_other (Ne.symm n11q), Heap.set_other (Ne.symm n9), Heap.set_same]
    refine Contains_row (p := p) (k := pp) (o := (p.length - many x.op) * 1) (m := many x.op) (hqG _ _) (Heap.set_same _ _ _) (Ne.symm n11q) (by omega) ?_ (by omega)
    have hany : ((p.drop ((p.length - many x.op) * 1)).any fun k => decide (k ≠ pp)) = ((p.drop (p.length - many x.op)).any fun k => decide (k ≠ Pt.part x.op)) := by
      rw [Nat.mul_one]
      rcases hpp with h0 | rfl
      · rw [h0, Nat.sub_zero, List.drop_length]; rfl
      · rfl
    rw [hany]
    cases ha : ((p.drop (p.length - many x.op)).any fun k => decide (k ≠ Pt.part x.op))
    · (try simp (maxSteps := 1000000) (disch := first | assumption | (apply ν6; assumption)) only [vz, vu, vv, eqS, eF_, ↓c1_, ↓c2_, tabs, reduceCtorEq, ι5, ↓reduceIte, ν1, ν2, ν3, ν4, ν5, ι1, ι2, ι3, ι4])
      refine ⟨by omega, by omega, by omega, ?_⟩
      refine lit1 tab_46 rfl tab_3 ⟨rfl, rfl⟩ ?_
      try rw [show ((p.length : Int) - many x.op).toNat = p.length - many x.op by omega]
      refine app_prefix (f := fI) (xs := p) (ys := [Pt.own x.op]) tab_46 rfl tab_3 rfl (by decide) (hqG _ _) (by omega) (by simp; omega) fun q' hq' hne => ?_
      simp only [Heap.set_none] at hq'
      obtain ⟨p1, p2, p3, p4⟩ := hq'
      (try simp (maxSteps := 1000000) (disch := first | assumption | (apply ν6; assumption)) only [vz, vu, vv, eqS, eF_, ↓c1_, ↓c2_, tabs, reduceCtorEq, ι5, ↓reduceIte, ν1, ν2, ν3, ν4, ν5, ι1, ι2, ι3, ι4])
      refine ⟨(i + 1, q', p.take (p.length - many x.op) ++ [Pt.own x.op]), ⟨by simp only; omega, hsnoc _ (step_some h0 hlf (by omega) ha), p4, by simp; omega⟩, by simp only; omega, ?_, ?_, ?_⟩
      · simp only [List.length_append, List.length_cons, List.length_nil]; exact .refl _
      · rw [wk_int, i64_id (by omega) (by omega)]; simp
      · generalize cP fI (p.take (p.length - many x.op) ++ [Pt.own x.op]) = z
        (intro y b hy; simp only [Heap.set, Heap.del] at hy ⊢; (repeat' split at hy) <;> (repeat' split) <;> simp_all [cells])
    · (try simp (maxSteps := 1000000) (disch := first | assumption | (apply ν6; assumption)) only [vz, vu, vv, eqS, eF_, ↓c1_, ↓c2_, tabs, reduceCtorEq, ι5, ↓reduceIte, ν1, ν2, ν3, ν4, ν5, ι1, ι2, ι3, ι4])
      exact ⟨by rw [gtI_none (hnone (step_any ha))], hle11⟩
  · have : i = t.length := by omega
    subst this
    rw [List.take_length] at hrun
    have hle : Heap.le H (H.set q (cP fI p)) := Heap.le_set hq
    refine ⟨?_, hle⟩
    simp only [gtI, hf, hrun, Bool.true_and]
    congr 2
    apply decide_eq_decide.2; omega
end Go.Proofs.YtgcklgeifdefhaaGreat
namespace Go.Proofs.YtgcklgeifdefhaaGreat
open Go Go.Sep Go.Pt
attribute [local irreducible] CallT
theorem kindOf_spec (t : List Nd) (h1 : 1 ≤ t.length) (hl : t.length ≤ 1048576) : Pu Tryz.prog 140 [Ns t] (I (Pt.own (t.getD (t.length - 1) default).op)) := by
  refine Pu.of fun H => ?_
  have e : IntKind.i64.wrap ((t.length : Int) - 1) = ((t.length - 1 : Nat) : Int) := by rw [i64_id (by omega) (by omega)]; omega
  refine W140_ok ?_; simp (maxSteps := 1000000) (disch := first | assumption | (apply ν6; assumption)) only [W140, vz, vu, vv, eqS, eF_, ↓c1_, ↓c2_, tabs, reduceCtorEq, ι5, ↓reduceIte, ν1, ν2, ν3, ν4, ν5, ι1, ι2, ι3, ι4, e]
  refine ⟨by omega, by omega, ?_⟩
  refine operandsOf_spec _ fun pp _ => ?_
  (try simp (maxSteps := 1000000) (disch := first | assumption | (apply ν6; assumption)) only [vz, vu, vv, eqS, eF_, ↓c1_, ↓c2_, tabs, reduceCtorEq, ι5, ↓reduceIte, ν1, ν2, ν3, ν4, ν5, ι1, ι2, ι3, ι4])
theorem kind_gt {w v : Int} {t : List Nd} {k : Int} (hk : k ≠ 0) : decide (kind w v t = k) = (gtI w v t && decide (Pt.own (t.getD (t.length - 1) default).op = k)) := by
  cases hf : frame w v t
  · rw [kind_f hf]; simp [gtI, hf, Ne.symm hk]
  · rw [kind_eq hf k hk]
    simp only [gtI, hf, Bool.true_and]
    cases run w v [] t <;> rfl
theorem isTermOf_spec (w v : Int) (t : List Nd) (k : Int) (hk : k ≠ 0) (hl : t.length ≤ 1048576) (ht : ∀ x ∈ t, okN x) : Pu Tryz.prog 87 [I w, I v, Ns t, I k] (B (decide (kind w v t = k))) := by
  refine Pu.of fun H => ?_
  refine W87_ok ?_; simp (maxSteps := 1000000) (disch := first | assumption | (apply ν6; assumption)) only [W87, vz, vu, vv, eqS, eF_, ↓c1_, ↓c2_, tabs, reduceCtorEq, ι5, ↓reduceIte, ν1, ν2, ν3, ν4, ν5, ι1, ι2, ι3, ι4]
  refine Pu.use (GoodTerm_spec w v t hl ht) ?_
  rw [kind_gt hk]
  cases h : gtI w v t
  · (try simp (maxSteps := 1000000) (disch := first | assumption | (apply ν6; assumption)) only [vz, vu, vv, eqS, eF_, ↓c1_, ↓c2_, tabs, reduceCtorEq, ι5, ↓reduceIte, ν1, ν2, ν3, ν4, ν5, ι1, ι2, ι3, ι4])
  · (try simp (maxSteps := 1000000) (disch := first | assumption | (apply ν6; assumption)) only [vz, vu, vv, eqS, eF_, ↓c1_, ↓c2_, tabs, reduceCtorEq, ι5, ↓reduceIte, ν1, ν2, ν3, ν4, ν5, ι1, ι2, ι3, ι4])
    have h1 : 1 ≤ t.length := by
      simp only [gtI, frame, Bool.and_eq_true, decide_eq_true_eq] at h
      omega
    refine Pu.use (kindOf_spec t h1 hl) ?_
    (try simp (maxSteps := 1000000) (disch := first | assumption | (apply ν6; assumption)) only [vz, vu, vv, eqS, eF_, ↓c1_, ↓c2_, tabs, reduceCtorEq, ι5, ↓reduceIte, ν1, ν2, ν3, ν4, ν5, ι1, ι2, ι3, ι4])
theorem any_last {p : List Int} {m j : Nat} {k : Int} (hj : j < m) (hm : m ≤ p.length) (h : p.getD (p.length - 1 - j) 0 ≠ k) : ((p.drop (p.length - m)).any fun x => decide (x ≠ k)) = true := by
  rw [List.any_eq_true]
  have hlt : p.length - 1 - j < p.length := by omega
  refine ⟨p.getD (p.length - 1 - j) 0, ?_, by simpa using h⟩
  rw [getD_lt hlt, List.mem_iff_getElem]
  refine ⟨m - 1 - j, by simp; omega, ?_⟩
  rw [List.getElem_drop]
  congr 1; omega
theorem any_none {p : List Int} {m : Nat} {k : Int} (hm : m ≤ p.length) (h : ∀ j, j < m → p.getD (p.length - 1 - j) 0 = k) : ((p.drop (p.length - m)).any fun x => decide (x ≠ k)) = false := by
  rw [List.any_eq_false]
  intro x hx
  obtain ⟨i, hi, rfl⟩ := List.mem_iff_getElem.1 hx
  simp only [List.length_drop] at hi
  have h1 := h (m - 1 - i) (by omega)
  rw [getD_lt (by omega)] at h1
  rw [List.getElem_drop]
  have : p[p.length - m + i] = k := by
    rw [← h1]; congr 1; omega
  simp [this]
theorem kind_none {w v : Int} {t : List Nd} (h : run w v [] t = none) : kind w v t = 0 := by
  unfold kind
  split
  · rw [h]
  · rfl
theorem kind_some {w v : Int} {t : List Nd} {p : List Int} (hf : frame w v t = true) (h : run w v [] t = some p) : kind w v t = if p.length = 1 then p.getD 0 0 else 0 := by
  unfold kind
  rw [if_pos hf, h]
  match p with
  | [] => rfl
  | [k] => rfl
  | a :: b :: p => simp
theorem l2Kind_spec (w v : Int) (t : List Nd) (hl : t.length ≤ 1048576) (ht : ∀ x ∈ t, okN x) : Pu Tryz.prog 79 [I w, I v, Ns t] (I (kind w v t)) := by
  refine Pu.of fun H => ?_
  refine CallT.ghost W79_hb fun q0 hq0 => ?_
  have bad : frame w v t = false → I 0 = I (kind w v t) := fun h => by rw [kind_f h]
  refine W79_ok ?_; simp (maxSteps := 1000000) (disch := first | assumption | (apply ν6; assumption)) only [W79, vz, vu, vv, eqS, eF_, ↓c1_, ↓c2_, tabs, reduceCtorEq, ι5, ↓reduceIte, ν1, ν2, ν3, ν4, ν5, ι1, ι2, ι3, ι4]
  refine Pu.use (l1Wide_spec w) ?_
  cases hw : inB w 1 64
  · (try simp (maxSteps := 1000000) (disch := first | assumption | (apply ν6; assumption)) only [vz, vu, vv, eqS, eF_, ↓c1_, ↓c2_, tabs, reduceCtorEq, ι5, ↓reduceIte, ν1, ν2, ν3, ν4, ν5, ι1, ι2, ι3, ι4])
    exact ⟨bad (by simp only [frame, hw, Bool.false_and]), Heap.le_set hq0⟩
  (try simp (maxSteps := 1000000) (disch := first | assumption | (apply ν6; assumption)) only [vz, vu, vv, eqS, eF_, ↓c1_, ↓c2_, tabs, reduceCtorEq, ι5, ↓reduceIte, ν1, ν2, ν3, ν4, ν5, ι1, ι2, ι3, ι4])
  refine Pu.use (l1In_B v 1 4) ?_
  cases hv : inB v 1 4
  · (try simp (maxSteps := 1000000) (disch := first | assumption | (apply ν6; assumption)) only [vz, vu, vv, eqS, eF_, ↓c1_, ↓c2_, tabs, reduceCtorEq, ι5, ↓reduceIte, ν1, ν2, ν3, ν4, ν5, ι1, ι2, ι3, ι4])
    exact ⟨bad (by simp only [frame, hw, hv, Bool.false_and, Bool.and_false]), Heap.le_set hq0⟩
  (try simp (maxSteps := 1000000) (disch := first | assumption | (apply ν6; assumption)) only [vz, vu, vv, eqS, eF_, ↓c1_, ↓c2_, tabs, reduceCtorEq, ι5, ↓reduceIte, ν1, ν2, ν3, ν4, ν5, ι1, ι2, ι3, ι4])
  refine Pu.use (l1In_B t.length 1 48) ?_
  cases h12 : inB t.length 1 48
  · (try simp (maxSteps := 1000000) (disch := first | assumption | (apply ν6; assumption)) only [vz, vu, vv, eqS, eF_, ↓c1_, ↓c2_, tabs, reduceCtorEq, ι5, ↓reduceIte, ν1, ν2, ν3, ν4, ν5, ι1, ι2, ι3, ι4])
    have h12' : ¬ (1 ≤ (t.length : Int) ∧ (t.length : Int) ≤ 48) := fun h => by rw [inB_iff.2 h] at h12; cases h12
    refine ⟨bad ?_, Heap.le_set hq0⟩
    have : (decide (1 ≤ t.length) && decide (t.length ≤ 48)) = false := by
      rw [Bool.eq_false_iff]; intro h; simp only [Bool.and_eq_true, decide_eq_true_eq] at h; omega
    simp only [frame, this, Bool.and_false]
  have h12' := inB_iff.1 h12
  have hf : frame w v t = true := by
    have a1 : 1 ≤ t.length := by omega
    have a2 : t.length ≤ 48 := by omega
    simp only [frame, hw, hv, a1, a2, decide_true, Bool.and_true]
  rw [inB_iff] at hw hv
  (try simp (maxSteps := 1000000) (disch := first | assumption | (apply ν6; assumption)) only [vz, vu, vv, eqS, eF_, ↓c1_, ↓c2_, tabs, reduceCtorEq, ι5, ↓reduceIte, ν1, ν2, ν3, ν4, ν5, ι1, ι2, ι3, ι4])
  refine L79_0_rule ((0 : Nat), q0, ([] : List Int)) (fun s => rowP s.2.1 s.2.2) (fun s => I s.1) (fun s => H.set s.2.1 (cP fI s.2.2)) (fun s => s.1 ≤ t.length ∧ run w v [] (t.take s.1) = some s.2.2 ∧ H s.2.1 = none ∧ s.2.2.length ≤ s.1) (fun s => t.length - s.1)
    ⟨⟨by simp, by simp [run], hq0, by simp⟩, .nilo _ _ _, .refl _, Heap.le_refl _⟩ ?_
  rintro ⟨i, q, p⟩ ⟨hi, hrun, hq, hpl⟩
  dsimp only at hi hrun hq hpl
  have hle : Heap.le H (H.set q (cP fI p)) := Heap.le_set hq
  (try simp (maxSteps := 1000000) (disch := first | assumption | (apply ν6; assumption)) only [vz, vu, vv, eqS, eF_, ↓c1_, ↓c2_, tabs, reduceCtorEq, ι5, ↓reduceIte, ν1, ν2, ν3, ν4, ν5, ι1, ι2, ι3, ι4, B79_0])
  refine ⟨fun h => ⟨by omega, h, ?_⟩, fun h => ?_⟩
  · have hlt : i < t.length := by omega
    have hm : t.getD i default ∈ t := getD_all (p := fun x => x ∈ t) (fun _ h => h) hlt
    have hx := ht _ hm
    have hnone : Pt.step w v p (t.getD i default) = none → I 0 = I (kind w v t) := fun hs => by rw [kind_none (run_none w v hlt hrun hs)]
    have hsnoc : ∀ p', Pt.step w v p (t.getD i default) = some p' → run w v [] (t.take (i + 1)) = some p' := fun p' hs => by
      rw [take_succ_snoc hlt, run_snoc, hrun]; exact hs
    generalize t.getD i default = x at hx hnone hsnoc ⊢
    intro r9 n9 hr9
    (try simp (maxSteps := 1000000) (disch := first | assumption | (apply ν6; assumption)) only [vz, vu, vv, eqS, eF_, ↓c1_, ↓c2_, tabs, reduceCtorEq, ι5, ↓reduceIte, ν1, ν2, ν3, ν4, ν5, ι1, ι2, ι3, ι4])
    have hle9 : Heap.le H ((H.set q (cP fI p)).set r9 [I x.op, U x.n]) := Heap.le_setN hle hr9
    refine l2Need_spec x.op fun pp hpp => ?_
    (try simp (maxSteps := 1000000) (disch := first | assumption | (apply ν6; assumption)) only [vz, vu, vv, eqS, eF_, ↓c1_, ↓c2_, tabs, reduceCtorEq, ι5, ↓reduceIte, ν1, ν2, ν3, ν4, ν5, ι1, ι2, ι3, ι4])
    have hml := many_le x.op
    refine ⟨fun h0 => ⟨hnone (step_none (.inl h0)), hle9⟩, fun h0 => ?_⟩
    refine Pu.use (l2N_spec w v x hv hx) ?_
    cases hlf : leafOk w v x
    · (try simp (maxSteps := 1000000) (disch := first | assumption | (apply ν6; assumption)) only [vz, vu, vv, eqS, eF_, ↓c1_, ↓c2_, tabs, reduceCtorEq, ι5, ↓reduceIte, ν1, ν2, ν3, ν4, ν5, ι1, ι2, ι3, ι4])
      exact ⟨hnone (step_none (.inr (.inl hlf))), hle9⟩
    (try simp (maxSteps := 1000000) (disch := first | assumption | (apply ν6; assumption)) only [vz, vu, vv, eqS, eF_, ↓c1_, ↓c2_, tabs, reduceCtorEq, ι5, ↓reduceIte, ν1, ν2, ν3, ν4, ν5, ι1, ι2, ι3, ι4])
    refine ⟨fun h3 => ⟨hnone (step_none (.inr (.inr (by omega)))), hle9⟩, fun h3 => ?_⟩
    have hqG : ∀ z1, ((H.set q (cP fI p)).set r9 z1) q = some (cP fI p) := fun z1 => by rw [Heap.set_other (Ne.symm n9), Heap.set_same]
    refine L79_1_rule (0 : Nat) (fun j => .sl q 1 0 (p.length - j)) (fun j => I ((many x.op - j : Nat) : Int)) (fun _ => (H.set q (cP fI p)).set r9 [I x.op, U x.n]) (fun j => j ≤ many x.op ∧ ∀ j', j' < j → p.getD (p.length - 1 - j') 0 = pp) (fun j => many x.op - j)
      ⟨⟨by omega, fun _ h => by omega⟩, .refl _, .refl _, Heap.le_refl _⟩ ?_
    rintro j ⟨hj, hall⟩
    have e1 : j < many x.op → IntKind.i64.wrap (((p.length - j : Nat) : Int) - 1) = ((p.length - 1 - j : Nat) : Int) := fun hjm => by rw [i64_id (by omega) (by omega)]; omega
    (try simp (maxSteps := 1000000) (disch := first | assumption | (apply ν6; assumption)) only [vz, vu, vv, eqS, eF_, ↓c1_, ↓c2_, tabs, reduceCtorEq, ι5, ↓reduceIte, ν1, ν2, ν3, ν4, ν5, ι1, ι2, ι3, ι4, B79_1])
    refine ⟨fun h5 => ?_, fun h5 => ?_⟩
    · have hjm : j < many x.op := by omega
      rw [e1 hjm]
      have hpp2 : pp = Pt.part x.op := by
        rcases hpp with h | h
        · omega
        · exact h
      refine ⟨by omega, by omega, ?_⟩
      simp only [Int.toNat_natCast]
      refine ⟨by omega, ?_⟩
      rw [show (List.take 1 (List.drop ((p.length - 1 - j) * 1) (cP fI p))).headD AV.any = I (p.getD (p.length - 1 - j) 0) by rw [Nat.mul_one]; exact read_row (f := fI) 0 (by omega)]
      (try simp (maxSteps := 1000000) (disch := first | assumption | (apply ν6; assumption)) only [vz, vu, vv, eqS, eF_, ↓c1_, ↓c2_, tabs, reduceCtorEq, ι5, ↓reduceIte, ν1, ν2, ν3, ν4, ν5, ι1, ι2, ι3, ι4])
      refine ⟨fun hne => ?_, fun heq => ⟨by omega, by omega, by omega, j + 1, ⟨by omega, fun j' hj' => ?_⟩, by omega, ?_, ?_⟩⟩
      · refine ⟨hnone (step_any ?_), hle9⟩
        rw [← hpp2]; exact any_last hjm (by omega) hne
      · rcases Nat.lt_succ_iff_lt_or_eq.1 hj' with h6 | rfl
        · exact hall j' h6
        · exact heq
      · have e4 : ((p.length - 1 - j : Nat) : Int).toNat = p.length - (j + 1) := by omega
        first
          | (rw [show p.length - 1 - j = p.length - (j + 1) by omega]; exact .refl _)
          | (simp only [e4]; exact .refl _)
      · rw [wk_int, i64_id (by omega) (by omega)]; omega
    · have hjm : j = many x.op := by omega
      subst hjm
      have ha : ((p.drop (p.length - many x.op)).any fun k => decide (k ≠ Pt.part x.op)) = false := by
        refine any_none (by omega) fun j' hj' => ?_
        rcases hpp with h | h
        · omega
        · rw [← h]; exact hall j' hj'
      refine lit1 tab_46 rfl tab_3 ⟨rfl, rfl⟩ ?_
      refine app_prefix (f := fI) (xs := p) (ys := [Pt.own x.op]) tab_46 rfl tab_3 rfl (by decide) (hqG _) (by omega) (by simp; omega) fun q' hq' hne => ?_
      simp only [Heap.set_none] at hq'
      obtain ⟨p1, p2, p3⟩ := hq'
      (try simp (maxSteps := 1000000) (disch := first | assumption | (apply ν6; assumption)) only [vz, vu, vv, eqS, eF_, ↓c1_, ↓c2_, tabs, reduceCtorEq, ι5, ↓reduceIte, ν1, ν2, ν3, ν4, ν5, ι1, ι2, ι3, ι4])
      refine ⟨(i + 1, q', p.take (p.length - many x.op) ++ [Pt.own x.op]), ⟨by simp only; omega, hsnoc _ (step_some h0 hlf (by omega) ha), p3, by simp; omega⟩, by simp only; omega, ?_, ?_, ?_⟩
      · simp only [List.length_append, List.length_cons, List.length_nil]; exact .refl _
      · rw [wk_int, i64_id (by omega) (by omega)]; simp
      · generalize cP fI (p.take (p.length - many x.op) ++ [Pt.own x.op]) = z
        (intro y b hy; simp only [Heap.set, Heap.del] at hy ⊢; (repeat' split at hy) <;> (repeat' split) <;> simp_all [cells])
  · have : i = t.length := by omega
    subst this
    rw [List.take_length] at hrun
    have hk := kind_some hf hrun
    refine ⟨fun h1 => ⟨?_, hle⟩, fun h1 => ?_⟩
    · rw [hk, if_neg (by omega)]
    · have h1' : p.length = 1 := by omega
      rw [hk, if_pos h1']
      exact ⟨by omega, by omega, by omega, read_row (f := fI) (xs := p) (k := 0) 0 (by omega), hle⟩
end Go.Proofs.YtgcklgeifdefhaaGreat
namespace Go.Proofs.YtgcklgeifdefhaaGreat
open Go Go.Sep Go.Pt
attribute [local irreducible] CallT
def vT (t : List Nd) : Prop := t.length ≤ 1048576 ∧ ∀ x ∈ t, okN x
def vCh (c : Ch) : Prop := vT c.by_
def vCm (c : Cm) : Prop := vT c.when_ ∧ c.chs.length ≤ 1048576 ∧ ∀ x ∈ c.chs, vCh x
def vPg (p : Pg) : Prop := vT p.start ∧ p.cmds.length ≤ 1048576 ∧ ∀ c ∈ p.cmds, vCm c
theorem mul_rng {w v : Int} (hw : 1 ≤ w ∧ w ≤ 64) (hv : 1 ≤ v ∧ v ≤ 4) : 1 ≤ w * v ∧ w * v ≤ 256 := by
  obtain rfl | rfl | rfl | rfl : v = 1 ∨ v = 2 ∨ v = 3 ∨ v = 4 := by omega
  all_goals omega
theorem IndexFuncC_at (xs : List Cm) (g : Nat) (caps : List AV) (p : Cm → Bool) {H : Heap} (hl : xs.length ≤ 1000000000) (hp : ∀ x ∈ xs, PuAt Tryz.prog g (aCm x :: caps) H (B (p x))) :
    PuAt Tryz.prog 168 [Cms xs, .fn g caps] H (I (if xs.any p then (xs.findIdx p : Int) else -1)) := by
  intro K hK
  refine CallT.fin ?_
  refine W168_ok ?_; simp (maxSteps := 1000000) (disch := first | assumption | (apply ν6; assumption)) only [W168, vz, vu, vv, eqS, eF_, ↓c1_, ↓c2_, tabs, reduceCtorEq, ι5, ↓reduceIte, ν1, ν2, ν3, ν4, ν5, ι1, ι2, ι3, ι4]
  refine L168_0_rule (0 : Nat) (fun i => I i) (fun _ => H) (fun i => i ≤ xs.length ∧ ∀ j (hj : j < xs.length), j < i → p xs[j] = false) (fun i => xs.length - i) ⟨⟨by omega, by intros; omega⟩, .refl _, Heap.le_refl _⟩ ?_
  rintro i ⟨hi1, ha⟩
  (try simp (maxSteps := 1000000) (disch := first | assumption | (apply ν6; assumption)) only [vz, vu, vv, eqS, eF_, ↓c1_, ↓c2_, tabs, reduceCtorEq, ι5, ↓reduceIte, ν1, ν2, ν3, ν4, ν5, ι1, ι2, ι3, ι4, B168_0])
  refine ⟨fun h => ⟨by omega, h, ?_⟩, fun h => ?_⟩
  · have hlt : i < xs.length := by omega
    rw [getD_lt hlt]
    refine PuAt.use (hp _ (List.getElem_mem hlt)) ?_
    (try simp (maxSteps := 1000000) (disch := first | assumption | (apply ν6; assumption)) only [vz, vu, vv, eqS, eF_, ↓c1_, ↓c2_, tabs, reduceCtorEq, ι5, ↓reduceIte, ν1, ν2, ν3, ν4, ν5, ι1, ι2, ι3, ι4])
    refine ⟨fun h1 => ?_, fun h1 => ⟨i + 1, ⟨by omega, fun j hj hji => ?_⟩, by omega, ?_⟩⟩
    · have h2 : xs.any p = true := List.any_eq_true.2 ⟨xs[i], List.getElem_mem hlt, h1⟩
      have h3 : xs.findIdx p = i := by
        rw [List.findIdx_eq hlt]; exact ⟨h1, fun j hj => ha j (by omega) hj⟩
      rw [h2, h3] at hK; exact wkK.keep (by simpa using hK)
    · rcases Nat.lt_succ_iff_lt_or_eq.1 hji with h2 | rfl
      · exact ha j hj h2
      · exact h1
    · rw [wk_int, i64_id (by omega) (by omega)]; simp
  · have hi : i = xs.length := by omega
    have h2 : xs.any p = false := by
      rw [List.any_eq_false]
      intro x hx
      obtain ⟨j, hj, rfl⟩ := List.mem_iff_getElem.1 hx
      rw [ha j hj (by omega)]; simp
    rw [h2] at hK; exact wkK.keep (by simpa using hK)
theorem ContainsFuncC_at (xs : List Cm) (g : Nat) (caps : List AV) (p : Cm → Bool) {H : Heap} (hl : xs.length ≤ 1000000000) (hp : ∀ x ∈ xs, PuAt Tryz.prog g (aCm x :: caps) H (B (p x))) :
    PuAt Tryz.prog 131 [Cms xs, .fn g caps] H (B (xs.any p)) := by
  intro K hK
  refine W131_ok ?_; simp (maxSteps := 1000000) (disch := first | assumption | (apply ν6; assumption)) only [W131, vz, vu, vv, eqS, eF_, ↓c1_, ↓c2_, tabs, reduceCtorEq, ι5, ↓reduceIte, ν1, ν2, ν3, ν4, ν5, ι1, ι2, ι3, ι4]
  refine PuAt.use (IndexFuncC_at xs g caps p hl hp) ?_
  (try simp (maxSteps := 1000000) (disch := first | assumption | (apply ν6; assumption)) only [vz, vu, vv, eqS, eF_, ↓c1_, ↓c2_, tabs, reduceCtorEq, ι5, ↓reduceIte, ν1, ν2, ν3, ν4, ν5, ι1, ι2, ι3, ι4])
  cases h : xs.any p <;> simp [h] at hK ⊢ <;> exact hK
theorem isCondition_spec (p : Pg) (t : List Nd) (ht : vT t) : Pu Tryz.prog 48 [aPg p, Ns t] (B (decide (kind p.wide p.vars t = 2))) := by
  refine Pu.of fun H => ?_
  refine W48_ok ?_; simp (maxSteps := 1000000) (disch := first | assumption | (apply ν6; assumption)) only [W48, vz, vu, vv, eqS, eF_, ↓c1_, ↓c2_, tabs, reduceCtorEq, ι5, ↓reduceIte, ν1, ν2, ν3, ν4, ν5, ι1, ι2, ι3, ι4]
  intro r hr
  exact Pu.use (isTermOf_spec p.wide p.vars t 2 (by decide) ht.1 ht.2) ⟨rfl, Heap.le_set hr⟩
theorem l7Asks_spec (p : Pg) (t : List Nd) (ht : vT t) : Pu Tryz.prog 40 [aPg p, Ns t] (B (decide (kind p.wide p.vars t = 2))) := by
  refine Pu.of fun H => ?_
  refine W40_ok ?_; simp (maxSteps := 1000000) (disch := first | assumption | (apply ν6; assumption)) only [W40, vz, vu, vv, eqS, eF_, ↓c1_, ↓c2_, tabs, reduceCtorEq, ι5, ↓reduceIte, ν1, ν2, ν3, ν4, ν5, ι1, ι2, ι3, ι4]
  intro r hr
  refine Pu.use (l2Kind_spec p.wide p.vars t ht.1 ht.2) ?_
  (try simp (maxSteps := 1000000) (disch := first | assumption | (apply ν6; assumption)) only [vz, vu, vv, eqS, eF_, ↓c1_, ↓c2_, tabs, reduceCtorEq, ι5, ↓reduceIte, ν1, ν2, ν3, ν4, ν5, ι1, ι2, ι3, ι4])
  exact Heap.le_set hr
def chk (w v : Int) (c : Cm) (i : Nat) : Bool := goodCh w v (if i = 0 then none else some (c.chs.getD (i - 1) default).var) (c.chs.getD i default)
theorem goodCm_def (w v : Int) (c : Cm) : goodCm w v c = (decide (kind w v c.when_ = 2) && ((List.range c.chs.length).all (chk w v c))) := rfl
theorem goodCm_bad {w v : Int} {c : Cm} {i : Nat} (hi : i < c.chs.length) (h : chk w v c i = false) : B false = B (goodCm w v c) := by
  rw [goodCm_def, range_all_false hi h, Bool.and_false]
theorem chk_f {w v : Int} {c : Cm} {i : Nat} (h : ¬ ((0 ≤ (c.chs.getD i default).var ∧ (c.chs.getD i default).var ≤ v - 1) ∧ (0 < i → (c.chs.getD (i - 1) default).var < (c.chs.getD i default).var) ∧ kind w v (c.chs.getD i default).by_ = 1)) : chk w v c i = false := by
  rw [Bool.eq_false_iff]; intro h2
  apply h
  simp only [chk, goodCh, Bool.and_eq_true, inB_iff, decide_eq_true_eq] at h2
  refine ⟨h2.1.1, fun h0 => ?_, h2.2⟩
  have := h2.1.2
  rw [if_neg (by omega)] at this
  simpa using this
theorem chk_t {w v : Int} {c : Cm} {i : Nat} (h1 : 0 ≤ (c.chs.getD i default).var ∧ (c.chs.getD i default).var ≤ v - 1) (h2 : 0 < i → (c.chs.getD (i - 1) default).var < (c.chs.getD i default).var) (h3 : kind w v (c.chs.getD i default).by_ = 1) : chk w v c i = true := by
  simp only [chk, goodCh, Bool.and_eq_true, inB_iff, decide_eq_true_eq]
  refine ⟨⟨h1, ?_⟩, h3⟩
  split
  · rename_i p hp
    split at hp
    · cases hp
    · injection hp with hp; subst hp
      simpa using h2 (by omega)
  · rfl
theorem isCommand_spec (p : Pg) (c : Cm) (hc : vCm c) : Pu Tryz.prog 133 [aPg p, aCm c] (B (goodCm p.wide p.vars c)) := by
  refine Pu.of fun H => ?_
  refine W133_ok ?_; simp (maxSteps := 1000000) (disch := first | assumption | (apply ν6; assumption)) only [W133, vz, vu, vv, eqS, eF_, ↓c1_, ↓c2_, tabs, reduceCtorEq, ι5, ↓reduceIte, ν1, ν2, ν3, ν4, ν5, ι1, ι2, ι3, ι4]
  intro r hr r3 n3 hr3
  have hle : Heap.le H ((H.set r [I p.wide, I p.vars, Ns p.start, Cms p.cmds]).set r3 [Ns c.when_, Chs c.chs]) := Heap.le_setN (Heap.le_set hr) hr3
  (try simp (maxSteps := 1000000) (disch := first | assumption | (apply ν6; assumption)) only [vz, vu, vv, eqS, eF_, ↓c1_, ↓c2_, tabs, reduceCtorEq, ι5, ↓reduceIte, ν1, ν2, ν3, ν4, ν5, ι1, ι2, ι3, ι4])
  refine Pu.use (isCondition_spec p c.when_ hc.1) ?_
  (try simp (maxSteps := 1000000) (disch := first | assumption | (apply ν6; assumption)) only [vz, vu, vv, eqS, eF_, ↓c1_, ↓c2_, tabs, reduceCtorEq, ι5, ↓reduceIte, ν1, ν2, ν3, ν4, ν5, ι1, ι2, ι3, ι4])
  refine ⟨fun h => ⟨by rw [goodCm_def, decide_eq_false h, Bool.false_and], hle⟩, fun h => ?_⟩
  refine L133_0_rule (0 : Nat) (fun i => I i) (fun _ => (H.set r [I p.wide, I p.vars, Ns p.start, Cms p.cmds]).set r3 [Ns c.when_, Chs c.chs]) (fun i => i ≤ c.chs.length ∧ (List.range i).all (chk p.wide p.vars c) = true) (fun i => c.chs.length - i) ⟨⟨by omega, by simp⟩, .refl _, Heap.le_refl _⟩ ?_
  rintro i ⟨hi, ha⟩
  have hcl := hc.2.1
  have e1 : 0 < i → IntKind.i64.wrap ((i : Int) - 1) = ((i - 1 : Nat) : Int) := fun h0 => by rw [i64_id (by omega) (by omega)]; omega
  (try simp (maxSteps := 1000000) (disch := first | assumption | (apply ν6; assumption)) only [vz, vu, vv, eqS, eF_, ↓c1_, ↓c2_, tabs, reduceCtorEq, ι5, ↓reduceIte, ν1, ν2, ν3, ν4, ν5, ι1, ι2, ι3, ι4, B133_0])
  refine ⟨fun h2 => ⟨by omega, h2, ?_⟩, fun h2 => ?_⟩
  · have hlt : i < c.chs.length := by omega
    have hm : c.chs.getD i default ∈ c.chs := getD_all (p := fun x => x ∈ c.chs) (fun _ h => h) hlt
    have hv := hc.2.2 _ hm
    have hbad := fun h => goodCm_bad (w := p.wide) (v := p.vars) hlt (chk_f h)
    intro r6 n63 n6 hr6
    have hle6 := fun z => Heap.le_setN (b := z) hle hr6
    have nn6 : r ≠ r6 := Ne.symm n6
    have nn63 : r3 ≠ r6 := Ne.symm n63
    (try simp (maxSteps := 1000000) (disch := first | assumption | (apply ν6; assumption)) only [vz, vu, vv, eqS, eF_, ↓c1_, ↓c2_, tabs, reduceCtorEq, ι5, ↓reduceIte, ν1, ν2, ν3, ν4, ν5, ι1, ι2, ι3, ι4])
    refine ⟨fun h3 => ⟨hbad (by omega), hle6 _⟩, fun h3 => ⟨fun h4 => ⟨hbad (by omega), hle6 _⟩, fun h4 => ?_⟩⟩
    have tail : (0 < i → (c.chs.getD (i - 1) default).var < (c.chs.getD i default).var) → ∀ G, Heap.le H G → Heap.le ((H.set r [I p.wide, I p.vars, Ns p.start, Cms p.cmds]).set r3 [Ns c.when_, Chs c.chs]) G →
        CallT Tryz.prog 87 [I p.wide, I p.vars, Ns (c.chs.getD i default).by_, I 1] G fun v53 H6 => unV UnOp.not v53 fun v54 => condV v54 (AV.p (PV.bool false) = B (goodCm p.wide p.vars c) ∧ H.le H6)
            (∃ s', (s' ≤ c.chs.length ∧ (List.range s').all (chk p.wide p.vars c) = true) ∧ c.chs.length - s' < c.chs.length - i ∧ (AV.p (PV.int IntKind.i64 (IntKind.i64.wrap (↑i + 1)))).wk (I (s' : Nat)) ∧
              ((H.set r [I p.wide, I p.vars, Ns p.start, Cms p.cmds]).set r3 [Ns c.when_, Chs c.chs]).le H6) := by
      intro hprev G hG hG2
      refine Pu.use (isTermOf_spec p.wide p.vars _ 1 (by decide) hv.1 hv.2) ?_
      (try simp (maxSteps := 1000000) (disch := first | assumption | (apply ν6; assumption)) only [vz, vu, vv, eqS, eF_, ↓c1_, ↓c2_, tabs, reduceCtorEq, ι5, ↓reduceIte, ν1, ν2, ν3, ν4, ν5, ι1, ι2, ι3, ι4])
      refine ⟨fun h6 => ⟨hbad fun hh => h6 hh.2.2, hG⟩, fun h6 => ⟨i + 1, ⟨by omega, ?_⟩, by omega, ?_, hG2⟩⟩
      · rw [range_all_succ, ha, chk_t (by omega) hprev h6]; rfl
      · rw [wk_int, i64_id (by omega) (by omega)]; simp
    have hle7 : ∀ z, Heap.le ((H.set r [I p.wide, I p.vars, Ns p.start, Cms p.cmds]).set r3 [Ns c.when_, Chs c.chs]) (((H.set r [I p.wide, I p.vars, Ns p.start, Cms p.cmds]).set r3 [Ns c.when_, Chs c.chs]).set r6 z) := fun z => Heap.le_set (by simp [Heap.set_none, n63, n6, hr6])
    refine ⟨fun h0 => ?_, fun h0 => tail (fun h => by omega) _ (hle6 _) (hle7 _)⟩
    rw [e1 (by omega)]
    simp only [Int.toNat_natCast]
    exact ⟨by omega, by omega, fun h5 => ⟨hbad fun hh => by have := hh.2.1 (by omega); omega, hle6 _⟩, fun h5 => tail (fun _ => by omega) _ (hle6 _) (hle7 _)⟩
  · have : i = c.chs.length := by omega
    subst this
    exact ⟨by rw [goodCm_def, ha, decide_eq_true h]; rfl, hle⟩
theorem l7Command_spec (p : Pg) (c : Cm) (hc : vCm c) : Pu Tryz.prog 120 [aPg p, aCm c] (B (goodCm p.wide p.vars c)) := by
  refine Pu.of fun H => ?_
  refine W120_ok ?_; simp (maxSteps := 1000000) (disch := first | assumption | (apply ν6; assumption)) only [W120, vz, vu, vv, eqS, eF_, ↓c1_, ↓c2_, tabs, reduceCtorEq, ι5, ↓reduceIte, ν1, ν2, ν3, ν4, ν5, ι1, ι2, ι3, ι4]
  intro r hr r3 n3 hr3
  have hle : Heap.le H ((H.set r [I p.wide, I p.vars, Ns p.start, Cms p.cmds]).set r3 [Ns c.when_, Chs c.chs]) := Heap.le_setN (Heap.le_set hr) hr3
  (try simp (maxSteps := 1000000) (disch := first | assumption | (apply ν6; assumption)) only [vz, vu, vv, eqS, eF_, ↓c1_, ↓c2_, tabs, reduceCtorEq, ι5, ↓reduceIte, ν1, ν2, ν3, ν4, ν5, ι1, ι2, ι3, ι4])
  refine Pu.use (l7Asks_spec p c.when_ hc.1) ?_
  by_cases h : kind p.wide p.vars c.when_ = 2
  rotate_left
  · rw [decide_eq_false h]
    (try simp (maxSteps := 1000000) (disch := first | assumption | (apply ν6; assumption)) only [vz, vu, vv, eqS, eF_, ↓c1_, ↓c2_, tabs, reduceCtorEq, ι5, ↓reduceIte, ν1, ν2, ν3, ν4, ν5, ι1, ι2, ι3, ι4])
    exact ⟨by rw [goodCm_def, decide_eq_false h, Bool.false_and], hle⟩
  have hfr := kind2_frame h
  rw [decide_eq_true h]
  have ev : IntKind.i64.wrap (p.vars - 1) = p.vars - 1 := i64_id (by omega) (by omega)
  (try simp (maxSteps := 1000000) (disch := first | assumption | (apply ν6; assumption)) only [vz, vu, vv, eqS, eF_, ↓c1_, ↓c2_, tabs, reduceCtorEq, ι5, ↓reduceIte, ν1, ν2, ν3, ν4, ν5, ι1, ι2, ι3, ι4])
  refine ⟨fun h1 => ⟨?_, hle⟩, fun h1 => ?_⟩
  · cases hg : goodCm p.wide p.vars c
    · rfl
    · have := goodCm_len hg
      omega
  refine L120_0_rule (0 : Nat) (fun i => I i) (fun _ => (H.set r [I p.wide, I p.vars, Ns p.start, Cms p.cmds]).set r3 [Ns c.when_, Chs c.chs]) (fun i => i ≤ c.chs.length ∧ (List.range i).all (chk p.wide p.vars c) = true) (fun i => c.chs.length - i) ⟨⟨by omega, by simp⟩, .refl _, Heap.le_refl _⟩ ?_
  rintro i ⟨hi, ha⟩
  have hcl := hc.2.1
  have e1 : 0 < i → IntKind.i64.wrap ((i : Int) - 1) = ((i - 1 : Nat) : Int) := fun h0 => by rw [i64_id (by omega) (by omega)]; omega
  (try simp (maxSteps := 1000000) (disch := first | assumption | (apply ν6; assumption)) only [vz, vu, vv, eqS, eF_, ↓c1_, ↓c2_, tabs, reduceCtorEq, ι5, ↓reduceIte, ν1, ν2, ν3, ν4, ν5, ι1, ι2, ι3, ι4, B120_0])
  refine ⟨fun h2 => ⟨by omega, h2, ?_⟩, fun h2 => ?_⟩
  · have hlt : i < c.chs.length := by omega
    have hm : c.chs.getD i default ∈ c.chs := getD_all (p := fun x => x ∈ c.chs) (fun _ h => h) hlt
    have hv := hc.2.2 _ hm
    have hbad := fun h => goodCm_bad (w := p.wide) (v := p.vars) hlt (chk_f h)
    intro r6 n63 n6 hr6
    have hle6 := fun z => Heap.le_setN (b := z) hle hr6
    have nn6 : r ≠ r6 := Ne.symm n6
    have nn63 : r3 ≠ r6 := Ne.symm n63
    have hle7 : ∀ z, Heap.le ((H.set r [I p.wide, I p.vars, Ns p.start, Cms p.cmds]).set r3 [Ns c.when_, Chs c.chs]) (((H.set r [I p.wide, I p.vars, Ns p.start, Cms p.cmds]).set r3 [Ns c.when_, Chs c.chs]).set r6 z) := fun z => Heap.le_set (by simp [Heap.set_none, n63, n6, hr6])
    (try simp (maxSteps := 1000000) (disch := first | assumption | (apply ν6; assumption)) only [vz, vu, vv, eqS, eF_, ↓c1_, ↓c2_, tabs, reduceCtorEq, ι5, ↓reduceIte, ν1, ν2, ν3, ν4, ν5, ι1, ι2, ι3, ι4, ev])
    refine Pu.use (l1In_B ..) ?_
    cases hin : inB (c.chs.getD i default).var 0 (p.vars - 1)
    · (try simp (maxSteps := 1000000) (disch := first | assumption | (apply ν6; assumption)) only [vz, vu, vv, eqS, eF_, ↓c1_, ↓c2_, tabs, reduceCtorEq, ι5, ↓reduceIte, ν1, ν2, ν3, ν4, ν5, ι1, ι2, ι3, ι4])
      exact ⟨hbad (fun hh => by rw [inB_iff.2 hh.1] at hin; cases hin), hle6 _⟩
    rw [inB_iff] at hin
    (try simp (maxSteps := 1000000) (disch := first | assumption | (apply ν6; assumption)) only [vz, vu, vv, eqS, eF_, ↓c1_, ↓c2_, tabs, reduceCtorEq, ι5, ↓reduceIte, ν1, ν2, ν3, ν4, ν5, ι1, ι2, ι3, ι4])
    have tail : (0 < i → (c.chs.getD (i - 1) default).var < (c.chs.getD i default).var) → ∀ G, Heap.le H G → Heap.le ((H.set r [I p.wide, I p.vars, Ns p.start, Cms p.cmds]).set r3 [Ns c.when_, Chs c.chs]) G →
        CallT Tryz.prog 79 [I p.wide, I p.vars, Ns (c.chs.getD i default).by_] G fun v53 H6 => binV tab BinOp.neq 3 v53 (I 1) fun v54 => condV v54 (AV.p (PV.bool false) = B (goodCm p.wide p.vars c) ∧ H.le H6)
            (∃ s', (s' ≤ c.chs.length ∧ (List.range s').all (chk p.wide p.vars c) = true) ∧ c.chs.length - s' < c.chs.length - i ∧ (AV.p (PV.int IntKind.i64 (IntKind.i64.wrap (↑i + 1)))).wk (I (s' : Nat)) ∧
              ((H.set r [I p.wide, I p.vars, Ns p.start, Cms p.cmds]).set r3 [Ns c.when_, Chs c.chs]).le H6) := by
      intro hprev G hG hG2
      refine Pu.use (l2Kind_spec p.wide p.vars _ hv.1 hv.2) ?_
      (try simp (maxSteps := 1000000) (disch := first | assumption | (apply ν6; assumption)) only [vz, vu, vv, eqS, eF_, ↓c1_, ↓c2_, tabs, reduceCtorEq, ι5, ↓reduceIte, ν1, ν2, ν3, ν4, ν5, ι1, ι2, ι3, ι4])
      refine ⟨fun h6 => ⟨hbad fun hh => h6 hh.2.2, hG⟩, fun h6 => ⟨i + 1, ⟨by omega, ?_⟩, by omega, ?_, hG2⟩⟩
      · rw [range_all_succ, ha, chk_t hin hprev h6]; rfl
      · rw [wk_int, i64_id (by omega) (by omega)]; simp
    refine ⟨fun h0 => ?_, fun h0 => tail (fun h => by omega) _ (hle6 _) (hle7 _)⟩
    rw [e1 (by omega)]
    simp only [Int.toNat_natCast]
    exact ⟨by omega, by omega, fun h5 => ⟨hbad fun hh => by have := hh.2.1 (by omega); omega, hle6 _⟩, fun h5 => tail (fun _ => by omega) _ (hle6 _) (hle7 _)⟩
  · have : i = c.chs.length := by omega
    subst this
    exact ⟨by rw [goodCm_def, ha, decide_eq_true h]; rfl, hle⟩
end Go.Proofs.YtgcklgeifdefhaaGreat
