/- The row of the law that TrimAuto answers as the reference does: whatever the arguments, it answers true, and what it is told reads as it did. -/
import Derived.Test.YtolffbcnbcjeaaaPkz9
import Derived.Test.YtolffbcnbcjeaaaRows
import Derived.WalkKit
import Derived.ProofKit
import Derived.OpenShut
set_option linter.unusedVariables false
set_option linter.unusedSimpArgs false
open Nat renaming reduceAdd → ν1, reduceLeDiff → ν2, reduceLT → ν3, reduceMul → ν4, reduceSub → ν5
open Int renaming reduceToNat → ι1, reduceSub → ι2, reduceAdd → ι3, reduceNeg → ι4
open Array renaming toList → ι5
open Ne renaming symm → ν6
open List renaming forall_mem_cons → ν7
namespace Go.Proofs.Ytolffbcnbcjeaaa
open Go Go.Sep Go.Pt
attribute [local irreducible] CallT
theorem tr_fin {H G : Heap} {Ts : List Th} {z2 z3 : Nat} {y w : AV} {es : List Ed} {gs : List (List Int)} {D D3 : List Nat} {m : Int} {fst' : List Int} (st : St H Ts G) (i j : Nat) (hi : Ts[i]? = some (reT z2 y es D)) (hj : Ts[j]? = some (rzT (LPl.local eL) (LPl.has eL) 1 z3 w gs D3)) (hij : i ≠ j) :
    wkK (fun r H' => r = .tup [aAu ⟨m, fst', es, gs⟩, B true] ∧ H' = H) (.tup [.agg [I m, Is fst', y, w], .p (.bool true)]) G := by
  obtain ⟨y', hy, ly⟩ := (st.get i hi : RZ (LPl eE) 3 z2 y es G D).row
  obtain ⟨w', hw, lw⟩ := (st.get j hj : RZ (LPl eL) 1 z3 w gs G D3).row
  obtain ⟨G1, w1, f1⟩ := LRow.frzV (e := eE) (sz := 3) (v := .tup [.agg [I m, Is fst', y', w'], B true]) (v' := .tup [.agg [I m, Is fst', Es es, w'], B true]) (by omega) (fun _ => rfl) (LPl.local eE) (LPl.frz eE) ly (st.ndT i hi) (fun q _ hr => .tup (.cons (.agg (.cons (.same _) (.cons (.same _) (.cons hr (.cons (.same _) .nil))))) (.cons (.same _) .nil)))
  have lw1 := LRow.local (LPl.local eL) lw (G' := G1) fun y hy bb hb => by rw [f1 y (fun hm => st.disjI i j hi hj hij y hm hy)]; exact hb
  obtain ⟨G2, w2, f2⟩ := LRow.frzV (e := eL) (sz := 1) (v := .tup [.agg [I m, Is fst', Es es, w'], B true]) (v' := .tup [.agg [I m, Is fst', Es es, Ls gs], B true]) (by omega) (fun _ => rfl) (LPl.local eL) (LPl.frz eL) lw1 (st.ndT j hj) (fun q _ hr => .tup (.cons (.agg (.cons (.same _) (.cons (.same _) (.cons (.same _) (.cons hr .nil))))) (.cons (.same _) .nil)))
  have w0 : Wk (.tup [.agg [I m, Is fst', y, w], .p (.bool true)]) G (.tup [.agg [I m, Is fst', y', w'], B true]) G := .val (wk_tup ⟨wk_agg ⟨.refl _, .refl _, hy, hw, trivial⟩, .refl _, trivial⟩)
  refine ⟨_, _, .trans w0 (.trans w1 (.trans w2 (.forget (H' := H) fun v b hb => ?_))), rfl, rfl⟩
  rw [f2 v (st.wkNone v b hb _ (List.mem_of_getElem? hj)), f1 v (st.wkNone v b hb _ (List.mem_of_getElem? hi))]
  exact st.le v b hb
theorem TrimAuto_ref (a : Au) (sa : smAu a) : Pu Try.prog 16 [aAu a] (.tup [aAu (trR a).1, B (trR a).2]) := by
  refine ⟨fun H => CallT.fin ?_⟩
  refine CallT.ghost W16_hb fun z2 hz2 => ?_
  refine CallT.ghost W16_hb fun z3 hz3 => ?_
  have st := lent (LPl.local eL) (LPl.has eL) 1 (lent (LPl.local eE) (LPl.has eE) 3 (((St.nil H).cell hz2 []).cell hz3 []) 1 rfl) 0 rfl
  generalize (H.set z2 []).set z3 [] = G0 at st ⊢
  clear hz2 hz3
  refine W16_ok ?_; simp (maxSteps := 1000000) (disch := first | assumption | (apply ν6; assumption)) only [W16, vz, vu, vv, eqS, eF_, ↓c1_, ↓c2_, tabs, reduceCtorEq, ι5, ↓reduceIte, ν1, ν2, ν3, ν4, ν5, ι1, ι2, ι3, ι4, makeSliceV]
  intro r hr r2 n2r hr2
  replace st := (st.cell hr [I a.states, Is a.first, Es a.edges, Ls a.goals]).cell (r := r2) (by rw [Heap.set_other n2r]; exact hr2) [I 0, .p .nil, .p .nil, .p .nil]
  generalize (G0.set r [I a.states, Is a.first, Es a.edges, Ls a.goals]).set r2 [I 0, .p .nil, .p .nil, .p .nil] = G at st ⊢
  clear hr hr2 n2r G0
  (try simp (maxSteps := 1000000) (disch := first | assumption | (apply ν6; assumption)) only [vz, vu, vv, eqS, eF_, ↓c1_, ↓c2_, tabs, reduceCtorEq, ι5, ↓reduceIte, ν1, ν2, ν3, ν4, ν5, ι1, ι2, ι3, ι4, load_at (st.get 1 rfl)])
  refine Pu.use (GoodAuto_spec a sa) ?_
  cases ga : goodA a
  · have er : trR a = (zeroA, false) := by simp [trR, ga]
    rw [er]
    (try simp (maxSteps := 1000000) (disch := first | assumption | (apply ν6; assumption)) only [vz, vu, vv, eqS, eF_, ↓c1_, ↓c2_, tabs, reduceCtorEq, ι5, ↓reduceIte, ν1, ν2, ν3, ν4, ν5, ι1, ι2, ι3, ι4, store_at (st.get 0 rfl)])
    exact ⟨_, _, .trans (.val (v' := .tup [aAu zeroA, B false]) (wk_tup ⟨wk_agg ⟨.refl _, .nil, .nil, .nil, trivial⟩, .refl _, trivial⟩)) (.forget (st.put 0 rfl _).le), rfl, rfl⟩
  have er : trR a = (trT a, true) := by simp [trR, ga]
  rw [er]
  have hN := autoN ga
  have fa := hN.f
  have sta := fa.st
  have hed := fa.ed
  obtain ⟨hgo1, hgo2, _⟩ := hN.gob
  have hgB := gA_B fa
  have hgl := gA_len a
  have hfi := fa.fi
  (try simp (maxSteps := 1000000) (disch := first | assumption | (apply ν6; assumption)) only [vz, vu, vv, eqS, eF_, ↓c1_, ↓c2_, tabs, reduceCtorEq, ι5, ↓reduceIte, ν1, ν2, ν3, ν4, ν5, ι1, ι2, ι3, ι4, load_at (st.get 1 rfl)])
  refine Pu.use (l12Graph_spec a fa) ?_
  (try simp (maxSteps := 1000000) (disch := first | assumption | (apply ν6; assumption)) only [vz, vu, vv, eqS, eF_, ↓c1_, ↓c2_, tabs, reduceCtorEq, ι5, ↓reduceIte, ν1, ν2, ν3, ν4, ν5, ι1, ι2, ι3, ι4, load_at (st.get 1 rfl)])
  have htu := sp_spec.l11Turn (gA a) hgB
  rw [gA_I fa] at htu
  refine Pu.use htu ?_
  (try simp (maxSteps := 1000000) (disch := first | assumption | (apply ν6; assumption)) only [vz, vu, vv, eqS, eF_, ↓c1_, ↓c2_, tabs, reduceCtorEq, ι5, ↓reduceIte, ν1, ν2, ν3, ν4, ν5, ι1, ι2, ι3, ι4, load_at (st.get 1 rfl)])
  have hfs := l11Fair_spec (gA a) hgB (turnG_B hgB) (goN a.goals) hgo1
  rw [gA_I fa, goN, gI_of hN.go] at hfs
  refine Pu.use hfs ?_
  have hfl := gwB_len (gA a).length (fairF (rwF (gA a)) (goN a.goals))
  have htl := turnG_len (gA a)
  have hre := reach_gen (turnG (gA a)) (turnG_B hgB) (gwB (gA a).length (fairF (rwF (gA a)) (goN a.goals))) (fun v hv => by rw [htl]; exact gwB_lt hv) (by omega)
  rw [htl] at hre
  refine Pu.use hre ?_
  (try simp (maxSteps := 1000000) (disch := first | assumption | (apply ν6; assumption)) only [vz, vu, vv, eqS, eF_, ↓c1_, ↓c2_, tabs, reduceCtorEq, ι5, ↓reduceIte, ν1, ν2, ν3, ν4, ν5, ι1, ι2, ι3, ι4, load_at (st.get 1 rfl)])
  refine ⟨by omega, by omega, by omega, by omega, fun q hq r7 n7q hr7 => ?_⟩
  replace st := (st.cell hq (zerosA a.states.toNat [I 0])).cell (r := r7) (by rw [Heap.set_other n7q]; exact hr7) [I 0, .p .nil, .p .nil, .p .nil]
  have ez : zerosA a.states.toNat [I 0] = cP fI (mpI (fun _ => 0) a.states.toNat) := by rw [cP_rep, mpI_const]
  rw [ez] at st
  have ez2 : zerosA a.states.toNat [AV.p (PV.int IntKind.i64 0)] = cP fI (mpI (fun _ => 0) a.states.toNat) := ez
  rw [ez2]
  have ez3 : ∀ H : Heap, H.set r7 [AV.p (PV.int IntKind.i64 0), AV.p PV.nil, AV.p PV.nil, AV.p PV.nil] = H.set r7 [I 0, .p .nil, .p .nil, .p .nil] := fun _ => rfl
  rw [ez3]
  generalize (G.set q (cP fI (mpI (fun _ => 0) a.states.toNat))).set r7 [I 0, .p .nil, .p .nil, .p .nil] = G1 at st ⊢
  clear hq n7q hr7 ez ez2 ez3 G
  replace st : St H [cellT r7 [I 0, .p .nil, .p .nil, .p .nil], cellT q (cP fI (mpI (fun _ => 0) a.states.toNat)), cellT r2 [I 0, .p .nil, .p .nil, .p .nil], cellT r [I a.states, Is a.first, Es a.edges, Ls a.goals], rzT (LPl.local eL) (LPl.has eL) 1 z3 (.p .nil) [] [z3], reT z2 (.p .nil) [] [z2]] G1 := st
  have hr2' := reach_gen (gA a) hgB (nN a.first) (fun v hv => by rw [hgl]; exact nN_lt hN.fr v hv) (by rw [nN_len]; omega)
  rw [gA_I fa, nI_of hN.fr] at hr2'
  (try simp (maxSteps := 1000000) (disch := first | assumption | (apply ν6; assumption)) only [vz, vu, vv, eqS, eF_, ↓c1_, ↓c2_, tabs, reduceCtorEq, ι5, ↓reduceIte, ν1, ν2, ν3, ν4, ν5, ι1, ι2, ι3, ι4, load_at (st.get 3 rfl)])
  refine Pu.use hr2' ?_
  have hn96 : (gA a).length ≤ 96 := by omega
  have e1 : ∀ v, v < (gA a).length → decide (v ∈ gwB (gA a).length (fun v => decide (0 ≤ farF (rwF (turnG (gA a))) (gA a).length (gwB (gA a).length (fairF (rwF (gA a)) (goN a.goals))) v))) = kp1 a v := fun v hv => gwB_mem hv
  have e2 : ∀ v, v < (gA a).length → decide (v ∈ gwB (gA a).length (fun v => decide (0 ≤ farF (rwF (gA a)) (gA a).length (nN a.first) v))) = kp2 a v := fun v hv => gwB_mem hv
  have l1 := gwB_len (gA a).length (fun v => decide (0 ≤ farF (rwF (turnG (gA a))) (gA a).length (gwB (gA a).length (fairF (rwF (gA a)) (goN a.goals))) v))
  have l2 := gwB_len (gA a).length (fun v => decide (0 ≤ farF (rwF (gA a)) (gA a).length (nN a.first) v))
  generalize gwB (gA a).length (fun v => decide (0 ≤ farF (rwF (turnG (gA a))) (gA a).length (gwB (gA a).length (fairF (rwF (gA a)) (goN a.goals))) v)) = FP at e1 l1 ⊢
  generalize gwB (gA a).length (fun v => decide (0 ≤ farF (rwF (gA a)) (gA a).length (nN a.first) v)) = RC at e2 l2 ⊢
  obtain ⟨n, hn⟩ : ∃ n, a.states.toNat = n := ⟨_, rfl⟩
  rw [hgl] at e1 e2 hn96
  have htr : trT a = ⟨if (kpL a n).length = 0 then 1 else ((kpL a n).length : Int), keptF (nmF (kpL a n)) (nN a.first), keE (nmF (kpL a n)) a.edges, keG (nmF (kpL a n)) a.goals⟩ := by rw [trT, hgl, hn]
  rw [htr]
  rw [hn] at st e1 e2 hn96 ⊢
  clear htr
  have hkl : ∀ i, (kpL a i).length ≤ i := fun i => gwB_len i _
  refine L16_0_rule ((0 : Nat), G1) (fun s => I s.1) (fun s => s.2)
    (fun s => s.1 ≤ n ∧ St H [cellT r7 [I (kpL a s.1).length, .p .nil, .p .nil, .p .nil], cellT q (cP fI (mpI (fun v => if v < s.1 then nmF (kpL a s.1) v else 0) n)), cellT r2 [I 0, .p .nil, .p .nil, .p .nil], cellT r [I a.states, Is a.first, Es a.edges, Ls a.goals], rzT (LPl.local eL) (LPl.has eL) 1 z3 (.p .nil) [] [z3], reT z2 (.p .nil) [] [z2]] s.2) (fun s => n - s.1)
    ⟨⟨by simp, by simpa [kpL, gwB] using st⟩, .refl _, Heap.le_refl _⟩ ?_
  clear st G1
  rintro ⟨i, G⟩ ⟨hi, st⟩
  dsimp only at hi st
  have e5 : IntKind.i64.wrap ((i : Int) + 1) = ((i + 1 : Nat) : Int) := by rw [i64_id (by omega) (by omega)]; simp
  have hki := hkl i
  have e6 : IntKind.i64.wrap (((kpL a i).length : Int) + 1) = (((kpL a i).length + 1 : Nat) : Int) := by rw [i64_id (by omega) (by omega)]; simp
  (try simp (maxSteps := 1000000) (disch := first | assumption | (apply ν6; assumption)) only [vz, vu, vv, eqS, eF_, ↓c1_, ↓c2_, tabs, reduceCtorEq, ι5, ↓reduceIte, ν1, ν2, ν3, ν4, ν5, ι1, ι2, ι3, ι4, B16_0, e5])
  refine ⟨fun h1 => ?_, fun h1 => ?_⟩
  · have hlt : i < n := by omega
    have hml : ∀ f, (mpI f n).length = n := fun f => mpI_len f n
    have hcl : ∀ f, (cP fI (mpI f n)).length = n := fun f => by simp [cP, hml]
    have hset := cI_set (l := mpI (fun v => if v < i then nmF (kpL a i) v else 0) n) (t := i) (by rw [hml]; exact hlt) (-1)
    rw [mpI_set] at hset
    have hnot : i ∉ kpL a i := fun h => by have := gwB_lt h; omega
    have hg0 : ∀ v, v < n → updI (fun v => if v < i then nmF (kpL a i) v else 0) i (-1) v = if v < i + 1 then nmF (kpL a i) v else 0 := fun v hv => by
      by_cases e : v = i
      · subst e; rw [updI_same, if_pos (by omega), nmF, if_neg hnot]
      · rw [updI_ne _ _ e]
        by_cases h : v < i
        · rw [if_pos h, if_pos (by omega)]
        · rw [if_neg h, if_neg (by omega)]
    rw [mpI_congr hg0] at hset
    have hks : kpL a (i + 1) = if kp1 a i && kp2 a i then kpL a i ++ [i] else kpL a i := gwB_succ i _
    (try simp (maxSteps := 1000000) (disch := first | assumption | (apply ν6; assumption)) only [vz, vu, vv, eqS, eF_, ↓c1_, ↓c2_, tabs, reduceCtorEq, ι5, ↓reduceIte, ν1, ν2, ν3, ν4, ν5, ι1, ι2, ι3, ι4, store_at (st.get 1 rfl), hcl, hset, Int.toNat_natCast])
    refine ⟨by omega, by omega, by omega, ?_⟩
    replace st := st.put 1 rfl (cP fI (mpI (fun v => if v < i + 1 then nmF (kpL a i) v else 0) n))
    generalize G.set q (cP fI (mpI (fun v => if v < i + 1 then nmF (kpL a i) v else 0) n)) = G2 at st ⊢
    refine Pu.use (l1Has_nat FP (by omega) i) ?_
    rw [e1 i hlt]
    cases hk1 : kp1 a i
    · rw [hk1] at hks
      simp only [Bool.false_and, Bool.false_eq_true, if_false] at hks
      (try simp (maxSteps := 1000000) (disch := first | assumption | (apply ν6; assumption)) only [vz, vu, vv, eqS, eF_, ↓c1_, ↓c2_, tabs, reduceCtorEq, ι5, ↓reduceIte, ν1, ν2, ν3, ν4, ν5, ι1, ι2, ι3, ι4])
      exact ⟨(i + 1, G2), ⟨by simp only; omega, by rw [hks]; exact st⟩, by simp only; omega, .refl _, Heap.le_refl _⟩
    (try simp (maxSteps := 1000000) (disch := first | assumption | (apply ν6; assumption)) only [vz, vu, vv, eqS, eF_, ↓c1_, ↓c2_, tabs, reduceCtorEq, ι5, ↓reduceIte, ν1, ν2, ν3, ν4, ν5, ι1, ι2, ι3, ι4])
    refine Pu.use (l1Has_nat RC (by omega) i) ?_
    rw [e2 i hlt]
    cases hk2 : kp2 a i
    · rw [hk1, hk2] at hks
      simp only [Bool.and_false, Bool.false_eq_true, if_false] at hks
      (try simp (maxSteps := 1000000) (disch := first | assumption | (apply ν6; assumption)) only [vz, vu, vv, eqS, eF_, ↓c1_, ↓c2_, tabs, reduceCtorEq, ι5, ↓reduceIte, ν1, ν2, ν3, ν4, ν5, ι1, ι2, ι3, ι4])
      exact ⟨(i + 1, G2), ⟨by simp only; omega, by rw [hks]; exact st⟩, by simp only; omega, .refl _, Heap.le_refl _⟩
    rw [hk1, hk2] at hks
    simp only [Bool.and_self, if_true] at hks
    have hset2 := cI_set (l := mpI (fun v => if v < i + 1 then nmF (kpL a i) v else 0) n) (t := i) (by rw [hml]; exact hlt) ((kpL a i).length : Int)
    rw [mpI_set] at hset2
    have hg1 : ∀ v, v < n → updI (fun v => if v < i + 1 then nmF (kpL a i) v else 0) i ((kpL a i).length : Int) v = if v < i + 1 then nmF (kpL a (i + 1)) v else 0 := fun v hv => by
      rw [hks, nmF_snoc hnot]
      by_cases e : v = i
      · subst e; rw [updI_same, if_pos (by omega), updI_same]
      · rw [updI_ne _ _ e]
        by_cases h : v < i + 1
        · rw [if_pos h, if_pos h, updI_ne _ _ e]
        · rw [if_neg h, if_neg h]
    rw [mpI_congr hg1] at hset2
    have hkl1 : (kpL a (i + 1)).length = (kpL a i).length + 1 := by rw [hks]; simp
    (try simp (maxSteps := 1000000) (disch := first | assumption | (apply ν6; assumption)) only [vz, vu, vv, eqS, eF_, ↓c1_, ↓c2_, tabs, reduceCtorEq, ι5, ↓reduceIte, ν1, ν2, ν3, ν4, ν5, ι1, ι2, ι3, ι4, load_at (st.get 0 rfl), store_at (st.get 1 rfl), hcl, hset2, Int.toNat_natCast])
    refine ⟨by omega, by omega, by omega, ?_⟩
    replace st := st.put 1 rfl (cP fI (mpI (fun v => if v < i + 1 then nmF (kpL a (i + 1)) v else 0) n))
    generalize G2.set q (cP fI (mpI (fun v => if v < i + 1 then nmF (kpL a (i + 1)) v else 0) n)) = G3 at st ⊢
    (try simp (maxSteps := 1000000) (disch := first | assumption | (apply ν6; assumption)) only [vz, vu, vv, eqS, eF_, ↓c1_, ↓c2_, tabs, reduceCtorEq, ι5, ↓reduceIte, ν1, ν2, ν3, ν4, ν5, ι1, ι2, ι3, ι4, load_at (st.get 0 rfl), e6, store_at (st.get 0 rfl)])
    exact ⟨(i + 1, _), ⟨by simp only; omega, by rw [hkl1]; exact st.put 0 rfl _⟩, by simp only; omega, .refl _, Heap.le_refl _⟩
  · have : i = n := by omega
    subst this
    rw [mpI_congr (g := nmF (kpL a i)) (fun v hv => if_pos hv)] at st
    have hkf := fun {H : Heap} {K : AV → Heap → Prop} => l12Kept_live (nmF (kpL a i)) i (nN a.first) (by rw [nN_len]; omega) (fun v hv => by have := nN_lt hN.fr v hv; omega) (q6 := q) (H := H) (K := K)
    rw [nI_of hN.fr] at hkf
    (try simp (maxSteps := 1000000) (disch := first | assumption | (apply ν6; assumption)) only [vz, vu, vv, eqS, eF_, ↓c1_, ↓c2_, tabs, reduceCtorEq, ι5, ↓reduceIte, ν1, ν2, ν3, ν4, ν5, ι1, ι2, ι3, ι4, load_at (st.get 3 rfl)])
    refine hkf (st.get 1 rfl) ?_
    generalize hf : nmF (kpL a i) = f at st ⊢
    generalize keptF f (nN a.first) = fst'
    generalize hcnt : (kpL a i).length = cnt at st ⊢
    (try simp (maxSteps := 1000000) (disch := first | assumption | (apply ν6; assumption)) only [vz, vu, vv, eqS, eF_, ↓c1_, ↓c2_, tabs, reduceCtorEq, ι5, ↓reduceIte, ν1, ν2, ν3, ν4, ν5, ι1, ι2, ι3, ι4, store_at (st.get 0 rfl)])
    replace st := st.put 0 rfl [I cnt, Is fst', .p .nil, .p .nil]
    generalize G.set r7 [I cnt, Is fst', .p .nil, .p .nil] = G2 at st ⊢
    clear hkf hki e6
    (try simp (maxSteps := 1000000) (disch := first | assumption | (apply ν6; assumption)) only [vz, vu, vv, eqS, eF_, ↓c1_, ↓c2_, tabs, reduceCtorEq, ι5, ↓reduceIte, ν1, ν2, ν3, ν4, ν5, ι1, ι2, ι3, ι4, load_at (st.get 3 rfl)])
    refine L16_1_rule ((0 : Nat), (.p .nil : AV), [z2], G2) (fun s => I s.1) (fun s => s.2.2.2)
      (fun k => k.1 ≤ a.edges.length ∧ St H [cellT r7 [I cnt, Is fst', k.2.1, .p .nil], cellT q (cP fI (mpI f i)), cellT r2 [I 0, .p .nil, .p .nil, .p .nil], cellT r [I a.states, Is a.first, Es a.edges, Ls a.goals], rzT (LPl.local eL) (LPl.has eL) 1 z3 (.p .nil) [] [z3], reT z2 k.2.1 (keE f (a.edges.take k.1)) k.2.2.1] k.2.2.2) (fun k => a.edges.length - k.1)
      ⟨⟨by simp, by simpa [keE] using st⟩, .refl _, Heap.le_refl _⟩ ?_
    clear st G2 G
    rintro ⟨k, y, D, G⟩ ⟨hk, st⟩
    dsimp only at hk st
    have e7 : IntKind.i64.wrap ((k : Int) + 1) = ((k + 1 : Nat) : Int) := by rw [i64_id (by omega) (by omega)]; simp
    have hkel := keE_len f (a.edges.take k)
    rw [List.length_take] at hkel
    have hml := mpI_len f i
    have hcl : (cP fI (mpI f i)).length = i := by simp [cP, hml]
    (try simp (maxSteps := 1000000) (disch := first | assumption | (apply ν6; assumption)) only [vz, vu, vv, eqS, eF_, ↓c1_, ↓c2_, tabs, reduceCtorEq, ι5, ↓reduceIte, ν1, ν2, ν3, ν4, ν5, ι1, ι2, ι3, ι4, B16_1, e7])
    refine ⟨fun h2 => ⟨by omega, h2, ?_⟩, fun h2 => ?_⟩
    · have hltk : k < a.edges.length := by omega
      have hei := edIn_iff.1 (fa.ei _ (getD_all (p := fun x => x ∈ a.edges) (d := default) (fun _ h => h) hltk))
      have hs := keE_succ f hltk
      generalize a.edges.getD k default = e at hei hs ⊢
      have r1 := cI_rd (l := mpI f i) (i := e.src.toNat) (by omega)
      have r2' := cI_rd (l := mpI f i) (i := e.dst.toNat) (by omega)
      rw [mpI_get f (by omega)] at r1 r2'
      intro r11 hr11
      replace st := st.cell hr11 [I e.src, I e.lt, I e.dst]
      generalize G.set r11 [I e.src, I e.lt, I e.dst] = G5 at st ⊢
      clear hr11
      (try simp (maxSteps := 1000000) (disch := first | assumption | (apply ν6; assumption)) only [vz, vu, vv, eqS, eF_, ↓c1_, ↓c2_, tabs, reduceCtorEq, ι5, ↓reduceIte, ν1, ν2, ν3, ν4, ν5, ι1, ι2, ι3, ι4, load_at (st.get 0 rfl), load_at (st.get 2 rfl), hcl, r1, r2'])
      have nx : ¬ (0 ≤ f e.src.toNat ∧ 0 ≤ f e.dst.toNat) → ∃ s' : Nat × AV × List Nat × Heap, (s'.1 ≤ a.edges.length ∧ St H [cellT r7 [I cnt, Is fst', s'.2.1, .p .nil], cellT q (cP fI (mpI f i)), cellT r2 [I 0, .p .nil, .p .nil, .p .nil], cellT r [I a.states, Is a.first, Es a.edges, Ls a.goals], rzT (LPl.local eL) (LPl.has eL) 1 z3 (.p .nil) [] [z3], reT z2 s'.2.1 (keE f (a.edges.take s'.1)) s'.2.2.1] s'.2.2.2) ∧ a.edges.length - s'.1 < a.edges.length - k ∧ (AV.p (PV.int IntKind.i64 ((k + 1 : Nat) : Int))).wk (I s'.1) ∧ Heap.le s'.2.2.2 G5 := fun hc => by
        rw [if_neg hc] at hs
        exact ⟨(k + 1, y, D, G5), ⟨by simp only; omega, by rw [hs]; exact st.drop⟩, by simp only; omega, .refl _, Heap.le_refl _⟩
      refine ⟨by clear nx; omega, by clear nx; omega, by clear nx; omega, fun h3 => ⟨by clear nx; omega, by clear nx; omega, by clear nx; omega, fun h4 => ?_, fun h4 => nx fun h => h4 h.2⟩, fun h3 => nx fun h => h3 h.1⟩
      clear nx
      rw [if_pos ⟨h3, h4⟩] at hs
      (try simp (maxSteps := 1000000) (disch := first | assumption | (apply ν6; assumption)) only [vz, vu, vv, eqS, eF_, ↓c1_, ↓c2_, tabs, reduceCtorEq, ι5, ↓reduceIte, ν1, ν2, ν3, ν4, ν5, ι1, ι2, ι3, ι4, load_at (st.get 1 rfl)])
      refine ⟨by omega, by omega, by omega, by omega, by omega, by omega, ?_⟩
      refine lit_edge (x := ⟨f e.src.toNat, e.lt, f e.dst.toNat⟩) ?_
      (try simp (maxSteps := 1000000) (disch := first | assumption | (apply ν6; assumption)) only [vz, vu, vv, eqS, eF_, ↓c1_, ↓c2_, tabs, reduceCtorEq, ι5, ↓reduceIte, ν1, ν2, ν3, ν4, ν5, ι1, ι2, ι3, ι4, load_at (st.get 1 rfl)])
      refine rz_appE (ys := [⟨f e.src.toNat, e.lt, f e.dst.toNat⟩]) st 6 rfl (by simp only [List.length_cons, List.length_nil]; omega) fun q' G' hq' st => ?_
      rw [← hs] at st ⊢
      obtain ⟨es', hes⟩ : ∃ es', keE f (a.edges.take (k + 1)) = es' := ⟨_, rfl⟩
      rw [hes] at st ⊢
      (try simp (maxSteps := 1000000) (disch := first | assumption | (apply ν6; assumption)) only [vz, vu, vv, eqS, eF_, ↓c1_, ↓c2_, tabs, reduceCtorEq, ι5, ↓reduceIte, ν1, ν2, ν3, ν4, ν5, ι1, ι2, ι3, ι4, store_at (st.get 1 rfl), e7])
      replace st := st.put 1 rfl [I cnt, Is fst', rowE q' es', .p .nil]
      rw [← hes] at st
      exact ⟨(k + 1, _, [q'], _), ⟨by simp only; omega, st.drop⟩, by simp only; omega, .refl _, by rw [hes]; exact Heap.le_refl _⟩
    · have : k = a.edges.length := by omega
      subst this
      rw [List.take_length] at st
      (try simp (maxSteps := 1000000) (disch := first | assumption | (apply ν6; assumption)) only [vz, vu, vv, eqS, eF_, ↓c1_, ↓c2_, tabs, reduceCtorEq, ι5, ↓reduceIte, ν1, ν2, ν3, ν4, ν5, ι1, ι2, ι3, ι4, load_at (st.get 3 rfl)])
      have hgol := fa.gl
      refine L16_2_rule ((0 : Nat), (.p .nil : AV), [z3], G) (fun s => I s.1) (fun s => s.2.2.2)
        (fun k => k.1 ≤ a.goals.length ∧ St H [cellT r7 [I cnt, Is fst', y, k.2.1], cellT q (cP fI (mpI f i)), cellT r2 [I 0, .p .nil, .p .nil, .p .nil], cellT r [I a.states, Is a.first, Es a.edges, Ls a.goals], rzT (LPl.local eL) (LPl.has eL) 1 z3 k.2.1 (keG f (a.goals.take k.1)) k.2.2.1, reT z2 y (keE f a.edges) D] k.2.2.2) (fun k => a.goals.length - k.1)
        ⟨⟨by simp, by simpa [keG] using st⟩, .refl _, Heap.le_refl _⟩ ?_
      clear st G
      rintro ⟨k, w, D3, G⟩ ⟨hk, st⟩
      dsimp only at hk st
      have e8 : IntKind.i64.wrap ((k : Int) + 1) = ((k + 1 : Nat) : Int) := by rw [i64_id (by omega) (by omega)]; simp
      have hgll : (keG f (a.goals.take k)).length ≤ 6 := by rw [keG, List.length_map, List.length_take]; omega
      (try simp (maxSteps := 1000000) (disch := first | assumption | (apply ν6; assumption)) only [vz, vu, vv, eqS, eF_, ↓c1_, ↓c2_, tabs, reduceCtorEq, ι5, ↓reduceIte, ν1, ν2, ν3, ν4, ν5, ι1, ι2, ι3, ι4, B16_2, e8])
      refine ⟨fun h3 => ⟨by omega, h3, ?_⟩, fun h3 => ?_⟩
      · have hltk : k < a.goals.length := by omega
        have hmem : a.goals.getD k default ∈ a.goals := getD_all (p := fun x => x ∈ a.goals) (fun _ h => h) hltk
        have hgi := (fa.gi _ hmem).2
        have hgo := hN.go _ hmem
        have hs : keG f (a.goals.take (k + 1)) = keG f (a.goals.take k) ++ [keptF f (nN (a.goals.getD k default))] := by unfold keG; rw [take_succ_snoc hltk, List.map_append]; rfl
        generalize a.goals.getD k default = g at hgi hgo hs ⊢
        have hkf := fun {H : Heap} {K : AV → Heap → Prop} => l12Kept_live f i (nN g) (by rw [nN_len]; omega) (fun v hv => by have := nN_lt hgo v hv; omega) (q6 := q) (H := H) (K := K)
        rw [nI_of hgo] at hkf
        (try simp (maxSteps := 1000000) (disch := first | assumption | (apply ν6; assumption)) only [vz, vu, vv, eqS, eF_, ↓c1_, ↓c2_, tabs, reduceCtorEq, ι5, ↓reduceIte, ν1, ν2, ν3, ν4, ν5, ι1, ι2, ι3, ι4, load_at (st.get 0 rfl)])
        refine hkf (st.get 1 rfl) ?_
        generalize keptF f (nN g) = kg at hs
        (try simp (maxSteps := 1000000) (disch := first | assumption | (apply ν6; assumption)) only [vz, vu, vv, eqS, eF_, ↓c1_, ↓c2_, tabs, reduceCtorEq, ι5, ↓reduceIte, ν1, ν2, ν3, ν4, ν5, ι1, ι2, ι3, ι4, load_at (st.get 0 rfl)])
        refine lit1 tab_24 rfl tab_22 ⟨rfl, rfl⟩ ?_
        (try simp (maxSteps := 1000000) (disch := first | assumption | (apply ν6; assumption)) only [vz, vu, vv, eqS, eF_, ↓c1_, ↓c2_, tabs, reduceCtorEq, ι5, ↓reduceIte, ν1, ν2, ν3, ν4, ν5, ι1, ι2, ι3, ι4, load_at (st.get 0 rfl)])
        refine RZ.app (bz := 24) (e := eL) (ys := [kg]) tab_24 rfl tab_22 tab_24 rfl rfl rfl (fun _ => rfl) st 4 rfl rfl (by simp only [List.length_cons, List.length_nil]; omega) (by simp only [List.length_cons, List.length_nil]; omega) fun q' G' hq' st => ?_
        rw [← hs] at st ⊢
        obtain ⟨gs', hgs⟩ : ∃ gs', keG f (a.goals.take (k + 1)) = gs' := ⟨_, rfl⟩
        rw [hgs] at st ⊢
        (try simp (maxSteps := 1000000) (disch := first | assumption | (apply ν6; assumption)) only [vz, vu, vv, eqS, eF_, ↓c1_, ↓c2_, tabs, reduceCtorEq, ι5, ↓reduceIte, ν1, ν2, ν3, ν4, ν5, ι1, ι2, ι3, ι4, store_at (st.get 0 rfl), e8])
        replace st := st.put 0 rfl [I cnt, Is fst', y, .sl q' 1 0 gs'.length]
        rw [← hgs] at st
        exact ⟨(k + 1, _, [q'], _), ⟨by simp only; omega, st⟩, by simp only; omega, .refl _, by rw [hgs]; exact Heap.le_refl _⟩
      · have : k = a.goals.length := by omega
        subst this
        rw [List.take_length] at st
        have hy := RZ.sl (st.get 5 rfl : RZ (LPl eE) 3 z2 y _ G D)
        have hw := RZ.sl (st.get 4 rfl : RZ (LPl eL) 1 z3 w _ G D3)
        (try simp (maxSteps := 1000000) (disch := first | assumption | (apply ν6; assumption)) only [vz, vu, vv, eqS, eF_, ↓c1_, ↓c2_, tabs, reduceCtorEq, ι5, ↓reduceIte, ν1, ν2, ν3, ν4, ν5, ι1, ι2, ι3, ι4, load_at (st.get 0 rfl)])
        refine ⟨fun h4 => ?_, fun h4 => ?_⟩
        · have hc : cnt = 0 := by omega
          subst hc
          (try simp (maxSteps := 1000000) (disch := first | assumption | (apply ν6; assumption)) only [vz, vu, vv, eqS, eF_, ↓c1_, ↓c2_, tabs, reduceCtorEq, ι5, ↓reduceIte, ν1, ν2, ν3, ν4, ν5, ι1, ι2, ι3, ι4, store_at (st.get 0 rfl)])
          replace st := st.put 0 rfl [I 1, Is fst', y, w]
          generalize G.set r7 [I 1, Is fst', y, w] = G6 at st ⊢
          (try simp (maxSteps := 1000000) (disch := first | assumption | (apply ν6; assumption)) only [vz, vu, vv, eqS, eF_, ↓c1_, ↓c2_, tabs, reduceCtorEq, ι5, ↓reduceIte, ν1, ν2, ν3, ν4, ν5, ι1, ι2, ι3, ι4, load_at (st.get 0 rfl), store_at (st.get 2 rfl)])
          replace st := st.put 2 rfl [I 1, Is fst', y, w]
          have := tr_fin (m := 1) (fst' := fst') st 5 4 rfl rfl (by decide)
          refine ⟨by rcases hy with rfl | ⟨q, rfl⟩ <;> rcases hw with rfl | ⟨q, rfl⟩ <;> rfl, ?_⟩
          exact this
        · (try simp (maxSteps := 1000000) (disch := first | assumption | (apply ν6; assumption)) only [vz, vu, vv, eqS, eF_, ↓c1_, ↓c2_, tabs, reduceCtorEq, ι5, ↓reduceIte, ν1, ν2, ν3, ν4, ν5, ι1, ι2, ι3, ι4, store_at (st.get 2 rfl)])
          rw [if_neg (by omega)]
          replace st := st.put 2 rfl [I cnt, Is fst', y, w]
          have := tr_fin (m := (cnt : Int)) (fst' := fst') st 5 4 rfl rfl (by decide)
          refine ⟨by rcases hy with rfl | ⟨q, rfl⟩ <;> rcases hw with rfl | ⟨q, rfl⟩ <;> rfl, ?_⟩
          exact this
end Go.Proofs.Ytolffbcnbcjeaaa
namespace Go.Proofs.Ytolffbcnbcjeaaa
open Go Go.Sep Go.Pt
attribute [local irreducible] CallT
theorem buildN_W (x : Int) : buildN tab 22 1 [(0, I x)] = some (fun r => .sl r 1 0 1, cP fI [x]) := by
  simp only [buildN, tab_22, tab_3]
  rfl
theorem TrimAuto_impl (a : Au) (sa : smAu a) {H : Heap} {K : AV → Heap → Prop} (h : ∀ v G D, LAu (trR a).1 v G D → New H G D → K (.tup [v, B (trR a).2]) G) : CallT Try.prog 17 [aAu a] H K := by
  refine CallT.fin ?_
  refine lend3 (St.nil H) W17_hb fun z1 z2 z3 G0 st => ?_
  refine W17_ok ?_; simp (maxSteps := 1000000) (disch := first | assumption | (apply ν6; assumption)) only [W17, vz, vu, vv, eqS, eF_, ↓c1_, ↓c2_, tabs, reduceCtorEq, ι5, ↓reduceIte, ν1, ν2, ν3, ν4, ν5, ι1, ι2, ι3, ι4]
  intro r hr r2 n2r hr2
  replace st := (st.cell hr [I a.states, Is a.first, Es a.edges, Ls a.goals]).cell (r := r2) (by rw [Heap.set_other n2r]; exact hr2) [I 0, .p .nil, .p .nil, .p .nil]
  have ei : ∀ G : Heap, G.set r2 [AV.p (PV.int IntKind.i64 0), AV.p PV.nil, AV.p PV.nil, AV.p PV.nil] = G.set r2 [I 0, .p .nil, .p .nil, .p .nil] := fun _ => rfl
  generalize (G0.set r [I a.states, Is a.first, Es a.edges, Ls a.goals]).set r2 [I 0, .p .nil, .p .nil, .p .nil] = G at st ⊢
  clear hr hr2 n2r G0 ei
  (try simp (maxSteps := 1000000) (disch := first | assumption | (apply ν6; assumption)) only [vz, vu, vv, eqS, eF_, ↓c1_, ↓c2_, tabs, reduceCtorEq, ι5, ↓reduceIte, ν1, ν2, ν3, ν4, ν5, ι1, ι2, ι3, ι4, load_at (st.get 1 rfl)])
  refine Pu.use (GoodAuto_impl a sa) ?_
  cases ga : goodA a
  · have er : trR a = (zeroA, false) := by simp [trR, ga]
    rw [er] at h
    (try simp (maxSteps := 1000000) (disch := first | assumption | (apply ν6; assumption)) only [vz, vu, vv, eqS, eF_, ↓c1_, ↓c2_, tabs, reduceCtorEq, ι5, ↓reduceIte, ν1, ν2, ν3, ν4, ν5, ι1, ι2, ι3, ι4, store_at (st.get 0 rfl)])
    exact zero_st (st.put 0 rfl [I 0, .p .nil, .p .nil, .p .nil]) 2 3 4 rfl rfl rfl (by decide) (by decide) (by decide) h
  have er : trR a = (trT a, true) := by simp [trR, ga]
  rw [er] at h
  have hN := autoN ga
  have fa := hN.f
  have sta := fa.st
  have hed := fa.ed
  obtain ⟨hgo1, hgo2, _⟩ := hN.gob
  have hgB := gA_B fa
  have hgl := gA_len a
  have hfi := fa.fi
  (try simp (maxSteps := 1000000) (disch := first | assumption | (apply ν6; assumption)) only [vz, vu, vv, eqS, eF_, ↓c1_, ↓c2_, tabs, reduceCtorEq, ι5, ↓reduceIte, ν1, ν2, ν3, ν4, ν5, ι1, ι2, ι3, ι4, load_at (st.get 1 rfl)])
  refine Pu.use (next_spec a fa) ?_
  have hst := sp_stepsFrom (gA a) hgB (nN a.first) (fun v hv => by rw [hgl]; exact nN_lt hN.fr v hv) (by rw [nN_len]; omega)
  rw [gA_I fa, nI_of hN.fr] at hst
  have hbn := buildN_W (-1)
  (try simp (maxSteps := 1000000) (disch := first | assumption | (apply ν6; assumption)) only [vz, vu, vv, eqS, eF_, ↓c1_, ↓c2_, tabs, reduceCtorEq, ι5, ↓reduceIte, ν1, ν2, ν3, ν4, ν5, ι1, ι2, ι3, ι4, load_at (st.get 1 rfl), hbn, safeV, newV])
  refine Pu.use hst ?_
  (try simp (maxSteps := 1000000) (disch := first | assumption | (apply ν6; assumption)) only [vz, vu, vv, eqS, eF_, ↓c1_, ↓c2_, tabs, reduceCtorEq, ι5, ↓reduceIte, ν1, ν2, ν3, ν4, ν5, ι1, ι2, ι3, ι4, load_at (st.get 1 rfl)])
  intro r25 hr25
  change CallT _ _ _ (G.set r25 (cP fI [-1])) _
  have hfrz : Wk (.tup [.sl r25 1 0 1, I a.states]) (G.set r25 (cP fI [-1])) (.tup [Is [-1], I a.states]) ((G.set r25 (cP fI [-1])).del r25) := Wk.frz (r := r25) (sz := 1) (es := [(-1 : Int)].map fun n => [fI n]) (by omega) (by rw [flat_P]; exact Heap.set_same _ _ _) (szP _ _) (.tup (.cons frz_row (.cons (.same _) .nil)))
  refine CallT.pre ?_ hfrz
  obtain ⟨n, hn⟩ : ∃ n, a.states.toNat = n := ⟨_, rfl⟩
  have hni : a.states = (n : Int) := by omega
  have hle25 : Heap.le G ((G.set r25 (cP fI [-1])).del r25) := fun v b hb => by
    rw [Heap.del_other (fun e => by rw [e, hr25] at hb; cases hb), Heap.set_other (fun e => by rw [e, hr25] at hb; cases hb)]; exact hb
  have st2 := st.new
  replace st : St H [cellT r2 [I 0, .p .nil, .p .nil, .p .nil], cellT r [I a.states, Is a.first, Es a.edges, Ls a.goals], riT z1 (.p .nil) [] [z1], reT z2 (.p .nil) [] [z2], rgT z3 (.p .nil) [] [z3]] ((G.set r25 (cP fI [-1])).del r25) := ⟨Heap.le_trans st.le hle25, st.nd, st.fr, fun t ht => t.loc (st.ok t ht) fun y _ b hb => hle25 y b hb⟩
  generalize (G.set r25 (cP fI [-1])).del r25 = G1 at st ⊢
  clear hfrz hle25 st2 hr25 G
  have hrep := fun {H : Heap} {K : AV → Heap → Prop} => Repeat_row (-1) n (by omega) (H := H) (K := K)
  rw [← hni] at hrep
  refine hrep fun q hq => ?_
  replace st := st.cell hq (cP fI (List.replicate n (-1)))
  have hml : ∀ f, (mpI f n).length = n := fun f => mpI_len f n
  have er0 : (List.replicate n (-1 : Int)) = mpI (nmF []) n := by rw [mpI_const, nmF_nil]
  rw [er0] at st ⊢
  generalize G1.set q (cP fI (mpI (nmF []) n)) = G2 at st ⊢
  clear hq hrep er0
  rw [rowP, hml]
  intro r6 hr6 r7 n76 hr7
  replace st := (st.cell hr6 [.p .nil]).cell (r := r7) (by rw [Heap.set_other n76]; exact hr7) [I 0, .p .nil, .p .nil, .p .nil]
  have ez3 : ∀ H : Heap, H.set r7 [AV.p (PV.int IntKind.i64 0), AV.p PV.nil, AV.p PV.nil, AV.p PV.nil] = H.set r7 [I 0, .p .nil, .p .nil, .p .nil] := fun _ => rfl
  rw [ez3]
  generalize (G2.set r6 [.p .nil]).set r7 [I 0, .p .nil, .p .nil, .p .nil] = G3 at st ⊢
  clear hr6 hr7 n76 ez3
  (try simp (maxSteps := 1000000) (disch := first | assumption | (apply ν6; assumption)) only [vz, vu, vv, eqS, eF_, ↓c1_, ↓c2_, tabs, reduceCtorEq, ι5, ↓reduceIte, ν1, ν2, ν3, ν4, ν5, ι1, ι2, ι3, ι4, store_at (st.get 1 rfl)])
  replace st := st.put 1 rfl [.sl q 1 0 n]
  generalize G3.set r6 [.sl q 1 0 n] = G4 at st ⊢
  (try simp (maxSteps := 1000000) (disch := first | assumption | (apply ν6; assumption)) only [vz, vu, vv, eqS, eF_, ↓c1_, ↓c2_, tabs, reduceCtorEq, ι5, ↓reduceIte, ν1, ν2, ν3, ν4, ν5, ι1, ι2, ι3, ι4, store_at (st.get 0 rfl)])
  replace st := st.put 0 rfl [I 0, .p .nil, .p .nil, .p .nil]
  have ez4 : ∀ H : Heap, H.set r7 [AV.p (PV.int IntKind.i64 0), AV.p PV.nil, AV.p PV.nil, AV.p PV.nil] = H.set r7 [I 0, .p .nil, .p .nil, .p .nil] := fun _ => rfl
  try rw [ez4]
  generalize G4.set r7 [I 0, .p .nil, .p .nil, .p .nil] = G5 at st ⊢
  clear ez4
  (try simp (maxSteps := 1000000) (disch := first | assumption | (apply ν6; assumption)) only [vz, vu, vv, eqS, eF_, ↓c1_, ↓c2_, tabs, reduceCtorEq, ι5, ↓reduceIte, ν1, ν2, ν3, ν4, ν5, ι1, ι2, ι3, ι4, load_at (st.get 4 rfl)])
  have hfp := fairPoints_spec (gA a) hgB (goN a.goals) hgo1
  rw [gA_I fa, goN, gI_of hN.go] at hfp
  refine Pu.use hfp ?_
  have hgn : (gA a).length = n := by omega
  have hFP : fpF (gA a) (goN a.goals) = gwB n (kp1 a) := by rw [fpF, ← hgn]; rfl
  have hFP2 : fpF (gA a) (List.map nN a.goals) = gwB n (kp1 a) := hFP
  rw [hFP2]
  have hst2 : ∀ v, (0 ≤ farF (rwF (gA a)) n (nN a.first) v) ↔ kp2 a v = true := fun v => by rw [kp2, hgn, decide_eq_true_eq]
  rw [hgn]
  generalize farF (rwF (gA a)) n (nN a.first) = stp at hst2 ⊢
  have hKL : (gwB n (kp1 a)).filter (fun v => kp2 a v) = kpL a n := by
    unfold kpL gwB
    rw [List.filter_filter]
    congr 1
    funext v
    rw [Bool.and_comm]
  have hFl : (gwB n (kp1 a)).length ≤ n := gwB_len n _
  have hFb : ∀ v ∈ gwB n (kp1 a), v < n := fun v hv => gwB_lt hv
  have hFn : (gwB n (kp1 a)).Pairwise (· ≠ ·) := List.Pairwise.filter _ List.nodup_range
  have htr : trT a = ⟨if (kpL a n).length = 0 then 1 else ((kpL a n).length : Int), keptF (nmF (kpL a n)) (nN a.first), keE (nmF (kpL a n)) a.edges, keG (nmF (kpL a n)) a.goals⟩ := by rw [trT, hgn]
  rw [htr] at h
  generalize gwB n (kp1 a) = FP at hKL hFl hFb hFn ⊢
  have hfl := nI_len FP
  (try simp (maxSteps := 1000000) (disch := first | assumption | (apply ν6; assumption)) only [vz, vu, vv, eqS, eF_, ↓c1_, ↓c2_, tabs, reduceCtorEq, ι5, ↓reduceIte, ν1, ν2, ν3, ν4, ν5, ι1, ι2, ι3, ι4, hfl])
  refine L17_0_rule ((0 : Nat), G5) (fun s => I s.1) (fun s => s.2)
    (fun s => s.1 ≤ FP.length ∧ St H [cellT r7 [I ((FP.take s.1).filter (fun v => kp2 a v)).length, .p .nil, .p .nil, .p .nil], cellT r6 [.sl q 1 0 n], cellT q (cP fI (mpI (nmF ((FP.take s.1).filter (fun v => kp2 a v))) n)), cellT r2 [I 0, .p .nil, .p .nil, .p .nil], cellT r [I a.states, Is a.first, Es a.edges, Ls a.goals], riT z1 (.p .nil) [] [z1], reT z2 (.p .nil) [] [z2], rgT z3 (.p .nil) [] [z3]] s.2) (fun s => FP.length - s.1)
    ⟨⟨by simp, by simpa using st⟩, .refl _, Heap.le_refl _⟩ ?_
  clear st G5
  rintro ⟨i, G⟩ ⟨hi, st⟩
  dsimp only at hi st
  have e5 : IntKind.i64.wrap ((i : Int) + 1) = ((i + 1 : Nat) : Int) := by rw [i64_id (by omega) (by omega)]; simp
  have hcl : ∀ f, (cP fI (mpI f n)).length = n := fun f => by simp [cP, hml]
  have hLl : ((FP.take i).filter (fun v => kp2 a v)).length ≤ i := by
    have := List.length_filter_le (fun v => kp2 a v) (FP.take i); rw [List.length_take] at this; omega
  have e6 : IntKind.i64.wrap ((((FP.take i).filter (fun v => kp2 a v)).length : Int) + 1) = ((((FP.take i).filter (fun v => kp2 a v)).length + 1 : Nat) : Int) := by rw [i64_id (by omega) (by omega)]; simp
  (try simp (maxSteps := 1000000) (disch := first | assumption | (apply ν6; assumption)) only [vz, vu, vv, eqS, eF_, ↓c1_, ↓c2_, tabs, reduceCtorEq, ι5, ↓reduceIte, ν1, ν2, ν3, ν4, ν5, ι1, ι2, ι3, ι4, B17_0, hfl, e5])
  refine ⟨fun h1 => ⟨by omega, h1, ?_⟩, fun h1 => ?_⟩
  · have hlt : i < FP.length := by omega
    rw [nI_get hlt]
    have hv := hFb (FP.getD i 0) (by simp [List.getD, hlt])
    have htk : (FP.take (i + 1)).filter (fun v => kp2 a v) = if kp2 a (FP.getD i 0) then (FP.take i).filter (fun v => kp2 a v) ++ [FP.getD i 0] else (FP.take i).filter (fun v => kp2 a v) := by
      have e : FP.take (i + 1) = FP.take i ++ [FP.getD i 0] := by rw [List.take_succ_eq_append_getElem hlt]; simp [List.getD, hlt]
      rw [e, List.filter_append]
      generalize FP.getD i 0 = w
      cases hk : kp2 a w <;> simp [hk]
    have hnot : FP.getD i 0 ∉ (FP.take i).filter (fun v => kp2 a v) := fun hm => by
      have h2 := (List.mem_filter.1 hm).1
      obtain ⟨j, hj, e⟩ := List.mem_iff_getElem.1 h2
      rw [List.length_take] at hj
      rw [List.getElem_take] at e
      have h3 : FP.getD i 0 = FP[i] := by simp [List.getD, hlt]
      rw [h3] at e
      exact List.pairwise_iff_getElem.1 hFn j i (by omega) hlt (by omega) e
    generalize FP.getD i 0 = v at hv htk hnot ⊢
    generalize (FP.take i).filter (fun v => kp2 a v) = L at st hLl e6 htk hnot ⊢
    have hg := mpI_get stp hv
    have hsl : (mpI stp n).length = n := hml stp
    (try simp (maxSteps := 1000000) (disch := first | assumption | (apply ν6; assumption)) only [vz, vu, vv, eqS, eF_, ↓c1_, ↓c2_, tabs, reduceCtorEq, ι5, ↓reduceIte, ν1, ν2, ν3, ν4, ν5, ι1, ι2, ι3, ι4, hsl, hg, Int.toNat_natCast])
    refine ⟨by omega, by omega, fun h2 => ?_, fun h2 => ?_⟩
    · rw [(hst2 v).1 h2] at htk
      simp only [if_true] at htk
      have hset := cI_set (l := mpI (nmF L) n) (t := v) (by rw [hml]; exact hv) (L.length : Int)
      rw [mpI_set, ← nmF_snoc hnot, ← htk] at hset
      have hlen1 : ((FP.take (i + 1)).filter (fun v => kp2 a v)).length = L.length + 1 := by rw [htk]; simp
      (try simp (maxSteps := 1000000) (disch := first | assumption | (apply ν6; assumption)) only [vz, vu, vv, eqS, eF_, ↓c1_, ↓c2_, tabs, reduceCtorEq, ι5, ↓reduceIte, ν1, ν2, ν3, ν4, ν5, ι1, ι2, ι3, ι4, load_at (st.get 1 rfl), load_at (st.get 0 rfl), store_at (st.get 2 rfl), hcl, hset, Int.toNat_natCast])
      refine ⟨by omega, by omega, by omega, ?_⟩
      replace st := st.put 2 rfl (cP fI (mpI (nmF ((FP.take (i + 1)).filter (fun v => kp2 a v))) n))
      generalize G.set q (cP fI (mpI (nmF ((FP.take (i + 1)).filter (fun v => kp2 a v))) n)) = G3 at st ⊢
      (try simp (maxSteps := 1000000) (disch := first | assumption | (apply ν6; assumption)) only [vz, vu, vv, eqS, eF_, ↓c1_, ↓c2_, tabs, reduceCtorEq, ι5, ↓reduceIte, ν1, ν2, ν3, ν4, ν5, ι1, ι2, ι3, ι4, load_at (st.get 0 rfl), e6, store_at (st.get 0 rfl)])
      exact ⟨(i + 1, _), ⟨by simp only; omega, by rw [hlen1]; exact st.put 0 rfl _⟩, by simp only; omega, .refl _, Heap.le_refl _⟩
    · have hk : kp2 a v = false := by rw [Bool.eq_false_iff]; exact fun hk => h2 ((hst2 v).2 hk)
      rw [hk] at htk
      simp only [Bool.false_eq_true, if_false] at htk
      exact ⟨(i + 1, G), ⟨by simp only; omega, by rw [htk]; exact st⟩, by simp only; omega, .refl _, Heap.le_refl _⟩
  · have : i = FP.length := by omega
    subst this
    rw [List.take_length, hKL] at st
    have hcnt0 : (kpL a n).length ≤ n := gwB_len n _
    generalize hf : nmF (kpL a n) = f at st h
    generalize hcnt : (kpL a n).length = cnt at st h hcnt0
    have hmx : (if (cnt : Int) > 1 then (cnt : Int) else 1) = if cnt = 0 then 1 else (cnt : Int) := by
      by_cases h0 : cnt = 0
      · subst h0; rfl
      · rw [if_neg h0]; split <;> omega
    generalize (if cnt = 0 then 1 else (cnt : Int)) = m at h hmx
    (try simp (maxSteps := 1000000) (disch := first | assumption | (apply ν6; assumption)) only [vz, vu, vv, eqS, eF_, ↓c1_, ↓c2_, tabs, reduceCtorEq, ι5, ↓reduceIte, ν1, ν2, ν3, ν4, ν5, ι1, ι2, ι3, ι4, load_at (st.get 0 rfl), store_at (st.get 0 rfl), hmx])
    replace st := st.put 0 rfl [I m, .p .nil, .p .nil, .p .nil]
    generalize G.set r7 [I m, .p .nil, .p .nil, .p .nil] = G2 at st ⊢
    (try simp (maxSteps := 1000000) (disch := first | assumption | (apply ν6; assumption)) only [vz, vu, vv, eqS, eF_, ↓c1_, ↓c2_, tabs, reduceCtorEq, ι5, ↓reduceIte, ν1, ν2, ν3, ν4, ν5, ι1, ι2, ι3, ι4, load_at (st.get 4 rfl), callF, List.cons_append, List.nil_append])
    have hk0 := fun (l : List Int) (hl : l.length ≤ 96) (hb : ∀ x ∈ l, 0 ≤ x ∧ x < a.states.toNat) {G : Heap} {Ts : List Th} {K : AV → Heap → Prop} (st : St H Ts G) (i6 j6 : Nat) (h6 : Ts[i6]? = some (cellT r6 [rowP q (mpI f n)])) (h7 : Ts[j6]? = some (cellT q (cP fI (mpI f n)))) => TrimAuto1_row f n (nN l) (by rw [nN_len]; omega) (fun v hv => by have := nN_lt hb v hv; omega) st i6 j6 h6 h7 (K := K)
    have hrw : ∀ f : Nat → Int, AV.sl q 1 0 n = rowP q (mpI f n) := fun f => by rw [rowP, hml]
    rw [hrw f] at st
    have hk1 := fun {G : Heap} {Ts : List Th} {K : AV → Heap → Prop} => hk0 a.first (by omega) hN.fr (G := G) (Ts := Ts) (K := K)
    rw [nI_of hN.fr] at hk1
    refine hk1 st 1 2 rfl rfl fun q1 G3 st => ?_
    generalize keptF f (nN a.first) = fst' at st h ⊢
    (try simp (maxSteps := 1000000) (disch := first | assumption | (apply ν6; assumption)) only [vz, vu, vv, eqS, eF_, ↓c1_, ↓c2_, tabs, reduceCtorEq, ι5, ↓reduceIte, ν1, ν2, ν3, ν4, ν5, ι1, ι2, ι3, ι4, store_at (st.get 1 rfl)])
    replace st := st.put 1 rfl [I m, rowP q1 fst', .p .nil, .p .nil]
    generalize G3.set r7 [I m, rowP q1 fst', .p .nil, .p .nil] = G4 at st ⊢
    replace st := owned_i st 0 rfl
    simp only [List.set_cons_zero] at st
    clear hk1
    (try simp (maxSteps := 1000000) (disch := first | assumption | (apply ν6; assumption)) only [vz, vu, vv, eqS, eF_, ↓c1_, ↓c2_, tabs, reduceCtorEq, ι5, ↓reduceIte, ν1, ν2, ν3, ν4, ν5, ι1, ι2, ι3, ι4, load_at (st.get 5 rfl)])
    refine L17_1_rule ((0 : Nat), (.p .nil : AV), [z2], G4) (fun s => I s.1) (fun s => s.2.2.2)
      (fun k => k.1 ≤ a.edges.length ∧ St H [riT 0 (rowP q1 fst') fst' [q1], cellT r7 [I m, rowP q1 fst', k.2.1, .p .nil], cellT r6 [rowP q (mpI f n)], cellT q (cP fI (mpI f n)), cellT r2 [I 0, .p .nil, .p .nil, .p .nil], cellT r [I a.states, Is a.first, Es a.edges, Ls a.goals], riT z1 (.p .nil) [] [z1], reT z2 k.2.1 (keE f (a.edges.take k.1)) k.2.2.1, rgT z3 (.p .nil) [] [z3]] k.2.2.2) (fun k => a.edges.length - k.1)
      ⟨⟨by simp, by simpa [keE] using st⟩, .refl _, Heap.le_refl _⟩ ?_
    clear st G4
    rintro ⟨k, y, D, G⟩ ⟨hk, st⟩
    dsimp only at hk st
    have e7 : IntKind.i64.wrap ((k : Int) + 1) = ((k + 1 : Nat) : Int) := by rw [i64_id (by omega) (by omega)]; simp
    have hkel := keE_len f (a.edges.take k)
    rw [List.length_take] at hkel
    (try simp (maxSteps := 1000000) (disch := first | assumption | (apply ν6; assumption)) only [vz, vu, vv, eqS, eF_, ↓c1_, ↓c2_, tabs, reduceCtorEq, ι5, ↓reduceIte, ν1, ν2, ν3, ν4, ν5, ι1, ι2, ι3, ι4, B17_1, e7])
    refine ⟨fun h2 => ⟨by omega, h2, ?_⟩, fun h2 => ?_⟩
    · have hltk : k < a.edges.length := by omega
      have hei := edIn_iff.1 (fa.ei _ (getD_all (p := fun x => x ∈ a.edges) (d := default) (fun _ h => h) hltk))
      have hs := keE_succ f hltk
      generalize a.edges.getD k default = e at hei hs ⊢
      have hmf := hml f
      have hcf := hcl f
      have rd1 := cI_rd (l := mpI f n) (i := e.src.toNat) (by omega)
      have rd2 := cI_rd (l := mpI f n) (i := e.dst.toNat) (by omega)
      rw [mpI_get f (by omega)] at rd1 rd2
      intro r11 hr11
      replace st := st.cell hr11 [I e.src, I e.lt, I e.dst]
      generalize G.set r11 [I e.src, I e.lt, I e.dst] = G5 at st ⊢
      clear hr11
      (try simp (maxSteps := 1000000) (disch := first | assumption | (apply ν6; assumption)) only [vz, vu, vv, eqS, eF_, ↓c1_, ↓c2_, tabs, reduceCtorEq, ι5, ↓reduceIte, ν1, ν2, ν3, ν4, ν5, ι1, ι2, ι3, ι4, load_at (st.get 0 rfl), load_at (st.get 3 rfl), load_at (st.get 4 rfl), hmf, hcf, rd1, rd2])
      have nx : ¬ (0 ≤ f e.src.toNat ∧ 0 ≤ f e.dst.toNat) → ∃ s' : Nat × AV × List Nat × Heap, (s'.1 ≤ a.edges.length ∧ St H [riT 0 (rowP q1 fst') fst' [q1], cellT r7 [I m, rowP q1 fst', s'.2.1, .p .nil], cellT r6 [rowP q (mpI f n)], cellT q (cP fI (mpI f n)), cellT r2 [I 0, .p .nil, .p .nil, .p .nil], cellT r [I a.states, Is a.first, Es a.edges, Ls a.goals], riT z1 (.p .nil) [] [z1], reT z2 s'.2.1 (keE f (a.edges.take s'.1)) s'.2.2.1, rgT z3 (.p .nil) [] [z3]] s'.2.2.2) ∧ a.edges.length - s'.1 < a.edges.length - k ∧ (AV.p (PV.int IntKind.i64 ((k + 1 : Nat) : Int))).wk (I s'.1) ∧ Heap.le s'.2.2.2 G5 := fun hc => by
        rw [if_neg hc] at hs
        exact ⟨(k + 1, y, D, G5), ⟨by simp only; omega, by rw [hs]; exact st.drop⟩, by simp only; omega, .refl _, Heap.le_refl _⟩
      refine ⟨by clear nx; omega, by clear nx; omega, by clear nx; omega, fun h3 => ⟨by clear nx; omega, by clear nx; omega, by clear nx; omega, fun h4 => ?_, fun h4 => nx fun h => h4 h.2⟩, fun h3 => nx fun h => h3 h.1⟩
      clear nx
      rw [if_pos ⟨h3, h4⟩] at hs
      (try simp (maxSteps := 1000000) (disch := first | assumption | (apply ν6; assumption)) only [vz, vu, vv, eqS, eF_, ↓c1_, ↓c2_, tabs, reduceCtorEq, ι5, ↓reduceIte, ν1, ν2, ν3, ν4, ν5, ι1, ι2, ι3, ι4, load_at (st.get 2 rfl)])
      refine ⟨by omega, by omega, by omega, by omega, by omega, by omega, ?_⟩
      refine lit_edge (x := ⟨f e.src.toNat, e.lt, f e.dst.toNat⟩) ?_
      (try simp (maxSteps := 1000000) (disch := first | assumption | (apply ν6; assumption)) only [vz, vu, vv, eqS, eF_, ↓c1_, ↓c2_, tabs, reduceCtorEq, ι5, ↓reduceIte, ν1, ν2, ν3, ν4, ν5, ι1, ι2, ι3, ι4, load_at (st.get 2 rfl)])
      refine rz_appE (ys := [⟨f e.src.toNat, e.lt, f e.dst.toNat⟩]) st 8 rfl (by simp only [List.length_cons, List.length_nil]; omega) fun q' G' hq' st => ?_
      rw [← hs] at st ⊢
      obtain ⟨es', hes⟩ : ∃ es', keE f (a.edges.take (k + 1)) = es' := ⟨_, rfl⟩
      rw [hes] at st ⊢
      (try simp (maxSteps := 1000000) (disch := first | assumption | (apply ν6; assumption)) only [vz, vu, vv, eqS, eF_, ↓c1_, ↓c2_, tabs, reduceCtorEq, ι5, ↓reduceIte, ν1, ν2, ν3, ν4, ν5, ι1, ι2, ι3, ι4, store_at (st.get 2 rfl), e7])
      replace st := st.put 2 rfl [I m, rowP q1 fst', rowE q' es', .p .nil]
      rw [← hes] at st
      exact ⟨(k + 1, _, [q'], _), ⟨by simp only; omega, st.drop⟩, by simp only; omega, .refl _, by rw [hes]; exact Heap.le_refl _⟩
    · have : k = a.edges.length := by omega
      subst this
      rw [List.take_length] at st
      (try simp (maxSteps := 1000000) (disch := first | assumption | (apply ν6; assumption)) only [vz, vu, vv, eqS, eF_, ↓c1_, ↓c2_, tabs, reduceCtorEq, ι5, ↓reduceIte, ν1, ν2, ν3, ν4, ν5, ι1, ι2, ι3, ι4, load_at (st.get 5 rfl)])
      have hgol := fa.gl
      refine L17_2_rule ((0 : Nat), (.p .nil : AV), [z3], G) (fun s => I s.1) (fun s => s.2.2.2)
        (fun k => k.1 ≤ a.goals.length ∧ St H [riT 0 (rowP q1 fst') fst' [q1], cellT r7 [I m, rowP q1 fst', y, k.2.1], cellT r6 [rowP q (mpI f n)], cellT q (cP fI (mpI f n)), cellT r2 [I 0, .p .nil, .p .nil, .p .nil], cellT r [I a.states, Is a.first, Es a.edges, Ls a.goals], riT z1 (.p .nil) [] [z1], reT z2 y (keE f a.edges) D, rgT z3 k.2.1 (keG f (a.goals.take k.1)) k.2.2.1] k.2.2.2) (fun k => a.goals.length - k.1)
        ⟨⟨by simp, by simpa [keG] using st⟩, .refl _, Heap.le_refl _⟩ ?_
      clear st G
      rintro ⟨k, w, D3, G⟩ ⟨hk, st⟩
      dsimp only at hk st
      have e8 : IntKind.i64.wrap ((k : Int) + 1) = ((k + 1 : Nat) : Int) := by rw [i64_id (by omega) (by omega)]; simp
      have hgll : (keG f (a.goals.take k)).length ≤ 6 := by rw [keG, List.length_map, List.length_take]; omega
      (try simp (maxSteps := 1000000) (disch := first | assumption | (apply ν6; assumption)) only [vz, vu, vv, eqS, eF_, ↓c1_, ↓c2_, tabs, reduceCtorEq, ι5, ↓reduceIte, ν1, ν2, ν3, ν4, ν5, ι1, ι2, ι3, ι4, B17_2, e8])
      refine ⟨fun h3 => ⟨by omega, h3, ?_⟩, fun h3 => ?_⟩
      · have hltk : k < a.goals.length := by omega
        have hmem : a.goals.getD k default ∈ a.goals := getD_all (p := fun x => x ∈ a.goals) (fun _ h => h) hltk
        have hgi := (fa.gi _ hmem).2
        have hgo := hN.go _ hmem
        have hs : keG f (a.goals.take (k + 1)) = keG f (a.goals.take k) ++ [keptF f (nN (a.goals.getD k default))] := by unfold keG; rw [take_succ_snoc hltk, List.map_append]; rfl
        generalize a.goals.getD k default = g at hgi hgo hs ⊢
        have hk1 := fun {G : Heap} {Ts : List Th} {K : AV → Heap → Prop} => hk0 g hgi hgo (G := G) (Ts := Ts) (K := K)
        rw [nI_of hgo] at hk1
        (try simp (maxSteps := 1000000) (disch := first | assumption | (apply ν6; assumption)) only [vz, vu, vv, eqS, eF_, ↓c1_, ↓c2_, tabs, reduceCtorEq, ι5, ↓reduceIte, ν1, ν2, ν3, ν4, ν5, ι1, ι2, ι3, ι4, load_at (st.get 1 rfl), callF, List.cons_append, List.nil_append])
        refine hk1 st 2 3 rfl rfl fun qn G3 st => ?_
        generalize keptF f (nN g) = kg at st hs ⊢
        (try simp (maxSteps := 1000000) (disch := first | assumption | (apply ν6; assumption)) only [vz, vu, vv, eqS, eF_, ↓c1_, ↓c2_, tabs, reduceCtorEq, ι5, ↓reduceIte, ν1, ν2, ν3, ν4, ν5, ι1, ι2, ι3, ι4, load_at (st.get 2 rfl)])
        refine lit_live1 fun ql hql => ?_
        replace st := st.cell hql [rowP qn kg]
        generalize G3.set ql [.sl qn 1 0 kg.length] = G4 at st ⊢
        (try simp (maxSteps := 1000000) (disch := first | assumption | (apply ν6; assumption)) only [vz, vu, vv, eqS, eF_, ↓c1_, ↓c2_, tabs, reduceCtorEq, ι5, ↓reduceIte, ν1, ν2, ν3, ν4, ν5, ι1, ι2, ι3, ι4, load_at (st.get 3 rfl)])
        refine rz_pushL st 8 rfl (by omega) fun q' D' G5 hq' st => ?_
        rw [← hs] at st
        have hgl2 : (keG f (a.goals.take k)).length + 1 = (keG f (a.goals.take (k + 1))).length := by rw [hs]; simp
        (try simp (maxSteps := 1000000) (disch := first | assumption | (apply ν6; assumption)) only [vz, vu, vv, eqS, eF_, ↓c1_, ↓c2_, tabs, reduceCtorEq, ι5, ↓reduceIte, ν1, ν2, ν3, ν4, ν5, ι1, ι2, ι3, ι4, store_at (st.get 1 rfl), e8])
        exact ⟨(k + 1, _, D', _), ⟨by simp only; omega, st.put 1 rfl [I m, rowP q1 fst', y, .sl q' 1 0 ((keG f (a.goals.take k)).length + 1)]⟩, by simp only; omega, .refl _, Heap.le_refl _⟩
      · have : k = a.goals.length := by omega
        subst this
        rw [List.take_length] at st
        have hy := RZ.sl (st.get 7 rfl : RZ (LPl eE) 3 z2 y _ G D)
        have hw := RZ.sl (st.get 8 rfl : RZ LIc 1 z3 w _ G D3)
        (try simp (maxSteps := 1000000) (disch := first | assumption | (apply ν6; assumption)) only [vz, vu, vv, eqS, eF_, ↓c1_, ↓c2_, tabs, reduceCtorEq, ι5, ↓reduceIte, ν1, ν2, ν3, ν4, ν5, ι1, ι2, ι3, ι4, load_at (st.get 1 rfl), store_at (st.get 4 rfl)])
        replace st := st.put 4 rfl [I m, rowP q1 fst', y, w]
        obtain ⟨x', y', w', hw', hl, hn⟩ := rz_auto m st 0 7 8 rfl rfl rfl (by decide) (by decide) (by decide)
        refine ⟨by rcases hy with rfl | ⟨q, rfl⟩ <;> rcases hw with rfl | ⟨q, rfl⟩ <;> rfl, ?_⟩
        exact ⟨_, _, .val (v' := .tup [.agg [I m, x', y', w'], B true]) (wk_tup ⟨hw', .refl _, trivial⟩), h _ _ _ hl hn⟩
end Go.Proofs.Ytolffbcnbcjeaaa
namespace Go.Proofs.Ytolffbcnbcjeaaa
open Go Go.Sep Go.Pt
attribute [local irreducible] CallT
theorem trR_sm {a : Au} (sa : smAu a) : smAu (trR a).1 ∧ totAu (trR a).1 ≤ 10000 := by
  unfold trR
  split
  · rename_i h
    have f := good_facts h
    have h1 := f.fi.2
    have h2 := f.ed
    have h3 := f.gl
    have k1 : (trT a).first.length ≤ 96 := by
      show (keptF _ (nN a.first)).length ≤ _
      have := keptF_len (nmF (kpL a (gA a).length)) (nN a.first)
      rw [nN_len] at this; omega
    have k2 : (trT a).edges.length ≤ 2400 := by
      show (keE _ a.edges).length ≤ _
      have := keE_len (nmF (kpL a (gA a).length)) a.edges
      omega
    have k3 : (trT a).goals.length ≤ 6 := by
      show (keG _ a.goals).length ≤ _
      rw [keG, List.length_map]; omega
    have k4 : ∀ g ∈ (trT a).goals, g.length ≤ 96 := fun g hg => by
      obtain ⟨l, hl, rfl⟩ := List.mem_map.1 (show g ∈ keG (nmF (kpL a (gA a).length)) a.goals from hg)
      have := keptF_len (nmF (kpL a (gA a).length)) (nN l)
      rw [nN_len] at this
      have := (f.gi l hl).2
      omega
    have h4 := psumL_le (m := 96) k4
    show smAu (trT a) ∧ totAu (trT a) ≤ 10000
    refine ⟨⟨by omega, by omega, by omega, fun g hg => by have := k4 g hg; omega⟩, ?_⟩
    unfold totAu totLs
    omega
  · exact zeroA_tot
theorem TrimAuto_pu (a : Au) (sa : smAu a) : Pu Try.prog 16 [aAu a] (.tup [aAu (trR a).1, B (trR a).2]) := TrimAuto_ref a sa
theorem FnExactTrimAuto_true {a : Au} (oa : okAu a) : Pu Try.prog 5 [aAu a] (B true) := by
  refine Pu.of fun H => ?_
  refine W5_ok ?_; simp (maxSteps := 1000000) (disch := first | assumption | (apply ν6; assumption)) only [W5, vz, vu, vv, eqS, eF_, ↓c1_, ↓c2_, tabs, reduceCtorEq, ι5, ↓reduceIte, ν1, ν2, ν3, ν4, ν5, ι1, ι2, ι3, ι4]
  intro r hr
  have st := (St.nil H).cell hr [I a.states, Is a.first, Es a.edges, Ls a.goals]
  (try simp (maxSteps := 1000000) (disch := first | assumption | (apply ν6; assumption)) only [vz, vu, vv, eqS, eF_, ↓c1_, ↓c2_, tabs, reduceCtorEq, ι5, ↓reduceIte, ν1, ν2, ν3, ν4, ν5, ι1, ι2, ι3, ι4])
  refine Pu.use (szAuto_spec a 1048576 (by omega) (by omega) oa) ?_
  (try simp (maxSteps := 1000000) (disch := first | assumption | (apply ν6; assumption)) only [vz, vu, vv, eqS, eF_, ↓c1_, ↓c2_, tabs, reduceCtorEq, ι5, ↓reduceIte, ν1, ν2, ν3, ν4, ν5, ι1, ι2, ι3, ι4])
  refine ⟨fun _ => st.le, fun h1 => ?_⟩
  have e2 : (totAu a : Int) ≤ 1048576 := by
    unfold szR at h1
    split at h1 <;> omega
  have sa := smAu_of e2
  refine Pu.use (toAuto_spec a sa) ?_
  refine Pu.use (TrimAuto_pu a sa) ?_
  have hres := trR_sm sa
  have hI : ∀ {H : Heap} {K : AV → Heap → Prop}, (∀ v G D, LAu (trR a).1 v G D → New H G D → K (.tup [v, B (trR a).2]) G) → CallT Try.prog 17 [aAu a] H K := TrimAuto_impl a sa
  generalize (trR a).1 = o at hres hI
  generalize (trR a).2 = ok at hI
  (try simp (maxSteps := 1000000) (disch := first | assumption | (apply ν6; assumption)) only [vz, vu, vv, eqS, eF_, ↓c1_, ↓c2_, tabs, reduceCtorEq, ι5, ↓reduceIte, ν1, ν2, ν3, ν4, ν5, ι1, ι2, ι3, ι4])
  intro w hw1 hw
  replace st := st.cell (r := w) (by rw [Heap.set_other hw1]; exact hw) [I o.states, Is o.first, Es o.edges, Ls o.goals]
  generalize (H.set r [I a.states, Is a.first, Es a.edges, Ls a.goals]).set w [I o.states, Is o.first, Es o.edges, Ls o.goals] = G at st ⊢
  clear hw1 hw hr
  (try simp (maxSteps := 1000000) (disch := first | assumption | (apply ν6; assumption)) only [vz, vu, vv, eqS, eF_, ↓c1_, ↓c2_, tabs, reduceCtorEq, ι5, ↓reduceIte, ν1, ν2, ν3, ν4, ν5, ι1, ι2, ι3, ι4, load_at (st.get 1 rfl)])
  refine toAuto_live a sa fun va G1 Da la na => ?_
  replace st := st.push (auT a va Da) na la
  obtain ⟨a1, a2, a3, rfl⟩ := aAu_cells la
  clear la na
  (try simp (maxSteps := 1000000) (disch := first | assumption | (apply ν6; assumption)) only [vz, vu, vv, eqS, eF_, ↓c1_, ↓c2_, tabs, reduceCtorEq, ι5, ↓reduceIte, ν1, ν2, ν3, ν4, ν5, ι1, ι2, ι3, ι4])
  intro x hx
  replace st := st.cell hx [I a.states, .sl a1 1 0 a.first.length, .sl a2 3 0 a.edges.length, .sl a3 1 0 a.goals.length]
  (try simp (maxSteps := 1000000) (disch := first | assumption | (apply ν6; assumption)) only [vz, vu, vv, eqS, eF_, ↓c1_, ↓c2_, tabs, reduceCtorEq, ι5, ↓reduceIte, ν1, ν2, ν3, ν4, ν5, ι1, ι2, ι3, ι4, load_at (st.get 0 rfl)])
  generalize G1.set x [I a.states, .sl a1 1 0 a.first.length, .sl a2 3 0 a.edges.length, .sl a3 1 0 a.goals.length] = G2 at st ⊢
  obtain ⟨Gw, hwk, _⟩ := LAu.wk (st.get 1 rfl) (st.ndT 1 rfl) (fun v => .tup [v]) (fun h => .tup (.cons h .nil))
  refine thawAu hI hwk fun v G1 D lo no => ?_
  clear hwk
  replace st := st.push (auT o v D) no lo
  obtain ⟨o1, o2, o3, rfl⟩ := aAu_cells lo
  clear lo no
  (try simp (maxSteps := 1000000) (disch := first | assumption | (apply ν6; assumption)) only [vz, vu, vv, eqS, eF_, ↓c1_, ↓c2_, tabs, reduceCtorEq, ι5, ↓reduceIte, ν1, ν2, ν3, ν4, ν5, ι1, ι2, ι3, ι4])
  intro z hz
  replace st := st.cell hz [I o.states, .sl o1 1 0 o.first.length, .sl o2 3 0 o.edges.length, .sl o3 1 0 o.goals.length]
  (try simp (maxSteps := 1000000) (disch := first | assumption | (apply ν6; assumption)) only [vz, vu, vv, eqS, eF_, ↓c1_, ↓c2_, tabs, reduceCtorEq, ι5, ↓reduceIte, ν1, ν2, ν3, ν4, ν5, ι1, ι2, ι3, ι4, load_at (st.get 4 rfl)])
  generalize G1.set z [I o.states, .sl o1 1 0 o.first.length, .sl o2 3 0 o.edges.length, .sl o3 1 0 o.goals.length] = G2 at st ⊢
  refine LAu.eq (st.get 1 rfl) (st.ndT 1 rfl) hres.1 ?_
  (try simp (maxSteps := 1000000) (disch := first | assumption | (apply ν6; assumption)) only [vz, vu, vv, eqS, eF_, ↓c1_, ↓c2_, tabs, reduceCtorEq, ι5, ↓reduceIte, ν1, ν2, ν3, ν4, ν5, ι1, ι2, ι3, ι4, load_at (st.get 2 rfl), load_at (st.get 5 rfl)])
  refine Pu.use (toAuto_spec a sa) ?_
  (try simp (maxSteps := 1000000) (disch := first | assumption | (apply ν6; assumption)) only [vz, vu, vv, eqS, eF_, ↓c1_, ↓c2_, tabs, reduceCtorEq, ι5, ↓reduceIte, ν1, ν2, ν3, ν4, ν5, ι1, ι2, ι3, ι4, load_at (st.get 2 rfl)])
  refine LAu.eq (st.get 3 rfl) (st.ndT 3 rfl) sa ?_
  (try simp (maxSteps := 1000000) (disch := first | assumption | (apply ν6; assumption)) only [vz, vu, vv, eqS, eF_, ↓c1_, ↓c2_, tabs, reduceCtorEq, ι5, ↓reduceIte, ν1, ν2, ν3, ν4, ν5, ι1, ι2, ι3, ι4, load_at (st.get 2 rfl)])
  refine markAuto_live a (by omega) (st.get 3 rfl) (st.ndT 3 rfl) (by omega) (by omega) fun G ha hf => ?_
  replace st := st.upd 3 rfl (auT (mkAu 1 a) _ Da) rfl hf ha
  clear ha hf
  have ma := totM_le a
  (try simp (maxSteps := 1000000) (disch := first | assumption | (apply ν6; assumption)) only [vz, vu, vv, eqS, eF_, ↓c1_, ↓c2_, tabs, reduceCtorEq, ι5, ↓reduceIte, ν1, ν2, ν3, ν4, ν5, ι1, ι2, ι3, ι4])
  refine ⟨fun h => by omega, fun _ => ?_⟩
  (try simp (maxSteps := 1000000) (disch := first | assumption | (apply ν6; assumption)) only [vz, vu, vv, eqS, eF_, ↓c1_, ↓c2_, tabs, reduceCtorEq, ι5, ↓reduceIte, ν1, ν2, ν3, ν4, ν5, ι1, ι2, ι3, ι4, load_at (st.get 0 rfl), load_at (st.get 4 rfl)])
  refine LAu.eq (st.get 1 rfl) (st.ndT 1 rfl) hres.1 ?_
  (try simp (maxSteps := 1000000) (disch := first | assumption | (apply ν6; assumption)) only [vz, vu, vv, eqS, eF_, ↓c1_, ↓c2_, tabs, reduceCtorEq, ι5, ↓reduceIte, ν1, ν2, ν3, ν4, ν5, ι1, ι2, ι3, ι4, load_at (st.get 0 rfl)])
  refine markAuto_live o (by omega) (st.get 1 rfl) (st.ndT 1 rfl) (by omega) (by omega) fun G2 ho hf => ?_
  replace st := st.upd 1 rfl (auT (mkAu 1 o) _ D) rfl hf ho
  clear ho hf
  (try simp (maxSteps := 1000000) (disch := first | assumption | (apply ν6; assumption)) only [vz, vu, vv, eqS, eF_, ↓c1_, ↓c2_, tabs, reduceCtorEq, ι5, ↓reduceIte, ν1, ν2, ν3, ν4, ν5, ι1, ι2, ι3, ι4, load_at (st.get 0 rfl)])
  refine LAu.held (st.get 1 rfl) (st.ndT 1 rfl) (by omega) ?_
  have mo := totM_le o
  (try simp (maxSteps := 1000000) (disch := first | assumption | (apply ν6; assumption)) only [vz, vu, vv, eqS, eF_, ↓c1_, ↓c2_, tabs, reduceCtorEq, ι5, ↓reduceIte, ν1, ν2, ν3, ν4, ν5, ι1, ι2, ι3, ι4])
  refine ⟨fun h => by omega, fun _ => ?_⟩
  (try simp (maxSteps := 1000000) (disch := first | assumption | (apply ν6; assumption)) only [vz, vu, vv, eqS, eF_, ↓c1_, ↓c2_, tabs, reduceCtorEq, ι5, ↓reduceIte, ν1, ν2, ν3, ν4, ν5, ι1, ι2, ι3, ι4, load_at (st.get 5 rfl)])
  refine Pu.use (toAuto_spec a sa) ?_
  refine hI fun v G3 E le ne => ?_
  replace st := st.push (auT o v E) ne le
  obtain ⟨u1, u2, u3, rfl⟩ := aAu_cells le
  clear le ne
  (try simp (maxSteps := 1000000) (disch := first | assumption | (apply ν6; assumption)) only [vz, vu, vv, eqS, eF_, ↓c1_, ↓c2_, tabs, reduceCtorEq, ι5, ↓reduceIte, ν1, ν2, ν3, ν4, ν5, ι1, ι2, ι3, ι4])
  intro u hu
  replace st := st.cell hu [I o.states, .sl u1 1 0 o.first.length, .sl u2 3 0 o.edges.length, .sl u3 1 0 o.goals.length]
  (try simp (maxSteps := 1000000) (disch := first | assumption | (apply ν6; assumption)) only [vz, vu, vv, eqS, eF_, ↓c1_, ↓c2_, tabs, reduceCtorEq, ι5, ↓reduceIte, ν1, ν2, ν3, ν4, ν5, ι1, ι2, ι3, ι4, load_at (st.get 6 rfl)])
  generalize G3.set u [I o.states, .sl u1 1 0 o.first.length, .sl u2 3 0 o.edges.length, .sl u3 1 0 o.goals.length] = G4 at st ⊢
  refine LAu.eq (st.get 1 rfl) (st.ndT 1 rfl) hres.1 ?_
  (try simp (maxSteps := 1000000) (disch := first | assumption | (apply ν6; assumption)) only [vz, vu, vv, eqS, eF_, ↓c1_, ↓c2_, tabs, reduceCtorEq, ι5, ↓reduceIte, ν1, ν2, ν3, ν4, ν5, ι1, ι2, ι3, ι4, load_at (st.get 2 rfl)])
  refine LAu.held (st.get 3 rfl) (st.ndT 3 rfl) (by omega) ?_
  (try simp (maxSteps := 1000000) (disch := first | assumption | (apply ν6; assumption)) only [vz, vu, vv, eqS, eF_, ↓c1_, ↓c2_, tabs, reduceCtorEq, ι5, ↓reduceIte, ν1, ν2, ν3, ν4, ν5, ι1, ι2, ι3, ι4])
  exact ⟨fun h => by omega, fun _ => st.le⟩
end Go.Proofs.Ytolffbcnbcjeaaa
namespace Go.Proofs.Ytolffbcnbcjeaaa.trimAuto
open Go Go.Sep Go.ChangeShapes Go.WideShapes Go.ChangeAt Go.RowKit
theorem own : ownKnob Try.prog.godebug = none := by kernel_rfl
theorem told (avs : List AV) (h : ArgsT Try.prog [26] avs) : CallT Try.prog 5 avs (fun _ => none) (fun v _ => v = .p (.bool true)) := by
  obtain ⟨a, b, rfl, h1, h⟩ := args_cons h
  cases args_nil h
  obtain ⟨x1, hx1, rfl⟩ := arg_auto h1
  exact (FnExactTrimAuto_true hx1).use rfl
set_option maxRecDepth 100000 in
theorem lifted (os : Os) (started : os.Started) (H : Type) (enc : TypeId × Value → H) :
    ReturnsInHanded {} Try.checked os 5 .any (Rows.fnExactTrimAutoSpec.pre6 enc Try.prog Try.f5 Rows.fnExactTrimAutoRow.domain false) (Rows.fnExactTrimAutoSpec.post enc Try.prog Try.f5 false true false false) := by
  refine returnsInHanded_of_change (C := Try.checked) own started (by kernel_rfl) Try.func5
    (ChangeSpec.witness6 (enc := enc) (C := Try.checked) false ⟨#[], #[.agg #[.int .i64 0, .slice none 0 0, .slice none 0 0, .slice none 0 0]], []⟩ 12 (by kernel_rfl) (by kernel_rfl) (by kernel_rfl) (by kernel_rfl)) ?_
  intro W base args ds gs before hval hW _ _
  refine row_of_true (n := 12) (tb := 4) (by kernel_rfl) rfl (by kernel_rfl) (by kernel_rfl) ?_ ?_ ?_ hval hW
  · have : (Try.f5.params.toList.all fun t => Try.prog.readableRec t && decide (t < Try.prog.types.size) && plainB Try.prog 12 t) = true := by kernel_rfl
    intro t ht
    have := List.all_eq_true.1 this t ht
    rw [Bool.and_eq_true, Bool.and_eq_true, decide_eq_true_eq] at this
    exact ⟨this.1.1, this.1.2, this.2⟩
  · intro ds hd
    rw [Try.params5] at hd
    match ds, hd with
    | [a], _ => rfl
  · rw [Try.params5]
    exact told
theorem over : Rows.fnExactTrimAutoRow.holds Try.pinned (OpenSpec.ofChange Rows.fnExactTrimAutoSpec) :=
  OpenClaim.holds_of_wide 5 Try.f5 rfl rfl rfl rfl rfl rfl rfl ⟨rfl, rfl, rfl, rfl, rfl⟩ rfl rfl rfl rfl rfl (by kernel_rfl) Try.func5 (by kernel_rfl)
    (of_decide_eq_true (by kernel_rfl)) (by unfold Func.isWrapper; first | (rw [if_pos (by decide +kernel)]; kernel_rfl) | (rw [if_neg (by decide +kernel)]; exact ⟨rfl, rfl⟩))
    (fun os started H enc _ => lifted os started H enc)
theorem proved : Rows.FnExactTrimAutoSaid :=
  over
#print axioms proved
end Go.Proofs.Ytolffbcnbcjeaaa.trimAuto
