/- Specs: operands of nodes, tracked nodes. -/
import Derived.Test.YtgcklgeifdefhaaGreatMf1
namespace Go.Proofs.YtgcklgeifdefhaaGreat
open Go Go.Sep Go.Pt
set_option linter.unusedSimpArgs false
set_option linter.unusedVariables false
attribute [local irreducible] CallT

theorem lit0G {G : Heap} {K : AV → Heap → Prop} (h : ∀ q, G q = none → K (.sl q 1 0 0) (G.set q [])) : buildSliceV tab 60 0 [] G (wkK K) := by
  simp only [buildSliceV, tab_60, tab_46]
  refine ⟨by omega, ?_⟩
  simp only [fillV, zerosA, List.replicate_zero, List.flatten_nil]
  exact fun r hr => wkK.keep (h r hr)
theorem rg_new {H G : Heap} {Ts : List Th} {q : Nat} (s : St H Ts G) (hq : G q = none) : St H (rnG (.sl q 1 0 0) [] [q] :: Ts) (G.set q []) :=
  s.push (rnG (.sl q 1 0 0) [] [q]) (New.cell hq) (.inr ⟨q, [], [], rfl, Heap.set_same _ _ _, ⟨rfl, rfl⟩, rfl⟩)
/-- Rows of rows at last by value. -/
theorem fin_rows {H G : Heap} {Ts : List Th} {x : AV} {gs : List (List Int)} {D : List Nat} (s : St H Ts G) (i : Nat) (hi : Ts[i]? = some (rnG x gs D)) : wkK (fun r H' => r = Ls gs ∧ H' = H) x G := by
  have hr : RN LIc 1 x gs G D := s.get i hi
  rcases hr with ⟨rfl, rfl, rfl⟩ | hr
  · exact ⟨_, _, .trans (.val .nil) (.forget s.le), rfl, rfl⟩
  · obtain ⟨q, rfl⟩ := LRow.sl hr
    obtain ⟨G', w, f⟩ := LRow.frzV (e := eL) (sz := 1) (v := .sl q 1 0 gs.length) (v' := Ls gs) (by omega) (fun _ => rfl) LIc.local LIc.frz hr (s.ndT i hi) (fun q _ hr => hr)
    refine ⟨_, _, .trans w (.forget (H' := H) fun y b hb => ?_), rfl, rfl⟩
    rw [f y (fun hm => by have := s.fr _ (List.mem_of_getElem? hi) y hm; rw [this] at hb; cases hb)]
    exact s.le y b hb
/-- An answer that is a row of numbers of one's own. -/
def RowR (l : List Int) (r : AV) (G : Heap) (D : List Nat) : Prop := ∃ q, r = rowP q l ∧ G q = some (cP fI l) ∧ D = [q]
theorem RowR.res (l : List Int) : ResT (RowR l) := by
  refine ⟨?_, ?_, ?_⟩
  · rintro r G G' D ⟨q, rfl, hq, rfl⟩ hf
    exact ⟨q, rfl, hf q (by simp) _ hq, rfl⟩
  · rintro r G D ⟨q, rfl, hq, rfl⟩
    refine ⟨.inr ⟨.inr ⟨.inl ⟨_, _, _, _, rfl⟩, fun _ => rfl⟩, fun _ => rfl⟩, fun y hy bs hb c hc => ?_⟩
    rw [List.mem_singleton.1 hy, hq] at hb
    cases hb
    obtain ⟨x, _, rfl⟩ := List.mem_map.1 hc
    exact .p (.int _ _)
  · rintro r G D n G0 h0 ⟨q, rfl, hq, rfl⟩
    refine ⟨q + n, rfl, ?_, rfl⟩
    have hr := LRow.sh (LPl.sh eI) h0 (LI_mk' hq)
    obtain ⟨q', cs, D', e1, e2, e3, e4⟩ := hr
    obtain ⟨rfl, -⟩ := LL.plain' e3
    have e : q' = q + n := by
      have h1 : shC n (rowP q l) = .sl (q + n) 1 0 l.length := rfl
      rw [h1] at e1
      injection e1 with e1; exact e1.symm
    subst e
    have e5 : cells (l.map eI) = cP fI l := cells_P fI l
    rw [← e5]; exact e2
/-- A part of a live row copied. -/
theorem Clone_part {q off n : Nat} {l : List Int} {G : Heap} (hq : G q = some (cP fI l)) (hb : off + n ≤ l.length) (hl : l.length ≤ 100000) {K : AV → Heap → Prop} (h : ∀ qn G', RowR ((l.drop off).take n) (rowP qn ((l.drop off).take n)) G' [qn] → New G G' [qn] → K (rowP qn ((l.drop off).take n)) G') : CallT Tryz.prog 169 [.sl q 1 off n] G K := by
  refine thawR (R := RowR ((l.drop off).take n)) (RowR.res _) (args' := [Is ((l.drop off).take n)]) (G1 := G.del q) (fun {K} h => CloneI_row _ (by rw [List.length_take, List.length_drop]; omega) fun q hq => h _ _ [q] ⟨q, rfl, Heap.set_same _ _ _, rfl⟩ (New.cell hq)) ?_ ?_
  · refine Wk.frzS (es := l.map fI) (by rw [hq, List.map_map]; rfl) (.tup (.cons ?_ .nil))
    have := FrzS.part (r := q) (es := l.map fI) off n (by rw [List.length_map]; exact hb)
    have e : (((l.map fI).drop off).take n).map (fun v => [v]) = ((l.drop off).take n).map eI := by rw [← List.map_drop, ← List.map_take, List.map_map]; rfl
    rw [e] at this
    exact this
  · rintro r G' D ⟨qn, rfl, h1, rfl⟩ hn
    exact h qn G' ⟨qn, rfl, h1, rfl⟩ hn
def opsA (f : List Sd) (i : Nat) : List (List Int) := (List.range i).map (opsF f)
theorem opsA_succ (f : List Sd) (i : Nat) : opsA f (i + 1) = opsA f i ++ [opsF f i] := by simp [opsA, List.range_succ]
theorem opsA_len (f : List Sd) (i : Nat) : (opsA f i).length = i := by simp [opsA]
theorem opsA_get (f : List Sd) {n i : Nat} (h : i < n) : (opsA f n).getD i default = opsF f i := by simp [opsA, List.getD, h]
theorem roots_len {f : List Sd} (g : GoodFm f) (i : Nat) (hi : i ≤ f.length) : (roots f i).length = (vals f i).toNat ∧ vals f i ≤ 16 ∧ 0 ≤ vals f i := by
  have h := stk_len g i hi
  have h2 : vals f i ≤ i := (vals_bd i fun j hj => by
    have := g.ok j (by omega)
    rw [sdAt, this.1, decide_eq_true this.2]; rfl).2
  have := g.l1
  rw [roots, List.length_map, List.length_reverse]
  omega
theorem operandIndexes_spec (f : List Sd) (g : GoodFm f) : Pu Tryz.prog 136 [Ds f] (Ls (opsA f f.length)) := by
  have hl := g.l1
  refine ⟨fun H => CallT.fin ?_⟩
  refine W136_ok ?_; simp (maxSteps := 1000000) (disch := (first | assumption | (apply Ne.symm; assumption))) only [W136, vw0, vw1, vw2, vw3, vw4, vu0, vu1, ↓condV_t, ↓condV_f, cap_nil, allocV, splice, partV, buildV, eqFieldsV, eqS, tabs, TK.agg, reduceCtorEq, Array.toList, List.map_cons, List.map_nil, ↓reduceIte, List.length_map, Nat.reduceAdd, Nat.reduceLeDiff, Nat.reduceLT, Nat.reduceMul, Nat.reduceSub, Option.bind_some, Option.map_some, bndV, numV, eI, eU, e8, eB, AV.isCell, Int.reduceToNat, Int.reduceSub, Int.reduceAdd, Int.reduceNeg]
  refine lit0G fun q0 hq0 => ?_
  have st := rg_new (St.nil H) hq0
  generalize H.set q0 [] = G at st ⊢
  refine lit0I fun q1 hq1 => ?_
  replace st := st.cell hq1 (cP fI [])
  generalize G.set q1 (cP fI []) = G1 at st ⊢
  (try simp (maxSteps := 1000000) (disch := (first | assumption | (apply Ne.symm; assumption))) only [vw0, vw1, vw2, vw3, vw4, vu0, vu1, ↓condV_t, ↓condV_f, cap_nil, allocV, splice, partV, buildV, eqFieldsV, eqS, tabs, TK.agg, reduceCtorEq, Array.toList, List.map_cons, List.map_nil, ↓reduceIte, List.length_map, Nat.reduceAdd, Nat.reduceLeDiff, Nat.reduceLT, Nat.reduceMul, Nat.reduceSub, Option.bind_some, Option.map_some, bndV, numV, eI, eU, e8, eB, AV.isCell, Int.reduceToNat, Int.reduceSub, Int.reduceAdd, Int.reduceNeg])
  refine L136_0_rule ((0 : Nat), (.sl q0 1 0 0 : AV), [q0], q1, G1) (fun s => s.2.1) (fun s => rowP s.2.2.2.1 (roots f s.1)) (fun s => I s.1) (fun s => s.2.2.2.2)
    (fun s => s.1 ≤ f.length ∧ St H [cellT s.2.2.2.1 (cP fI (roots f s.1)), rnG s.2.1 (opsA f s.1) s.2.2.1] s.2.2.2.2) (fun s => f.length - s.1)
    ⟨⟨by simp, st⟩, .refl _, .refl _, .refl _, Heap.le_refl _⟩ ?_
  clear st
  rintro ⟨i, x, D, q, G⟩ ⟨hi, st⟩
  dsimp only at hi st
  (try simp (maxSteps := 1000000) (disch := (first | assumption | (apply Ne.symm; assumption))) only [vw0, vw1, vw2, vw3, vw4, vu0, vu1, ↓condV_t, ↓condV_f, cap_nil, allocV, splice, partV, buildV, eqFieldsV, eqS, tabs, TK.agg, reduceCtorEq, Array.toList, List.map_cons, List.map_nil, ↓reduceIte, List.length_map, Nat.reduceAdd, Nat.reduceLeDiff, Nat.reduceLT, Nat.reduceMul, Nat.reduceSub, Option.bind_some, Option.map_some, bndV, numV, eI, eU, e8, eB, AV.isCell, Int.reduceToNat, Int.reduceSub, Int.reduceAdd, Int.reduceNeg, B136_0])
  refine ⟨fun h1 => ⟨by omega, h1, ?_⟩, fun h1 => ?_⟩
  · have hlt : i < f.length := by omega
    obtain ⟨rr, e1, e2, e3⟩ := roots_succ g hlt
    have hok := g.ok i hlt
    have hnd := sdOk_need hok.1
    have hrl := roots_len g i hi
    have hlen : (roots f i).length = rr.length + (opsF f i).length := by rw [e1, List.length_append]
    have hsucc := opsA_succ f i
    generalize f.getD i default = y at e3 hok hnd ⊢
    intro r hr
    replace st := st.cell hr [I y.op, I y.n]
    generalize G.set r [I y.op, I y.n] = G2 at st ⊢
    (try simp (maxSteps := 1000000) (disch := (first | assumption | (apply Ne.symm; assumption))) only [vw0, vw1, vw2, vw3, vw4, vu0, vu1, ↓condV_t, ↓condV_f, cap_nil, allocV, splice, partV, buildV, eqFieldsV, eqS, tabs, TK.agg, reduceCtorEq, Array.toList, List.map_cons, List.map_nil, ↓reduceIte, List.length_map, Nat.reduceAdd, Nat.reduceLeDiff, Nat.reduceLT, Nat.reduceMul, Nat.reduceSub, Option.bind_some, Option.map_some, bndV, numV, eI, eU, e8, eB, AV.isCell, Int.reduceToNat, Int.reduceSub, Int.reduceAdd, Int.reduceNeg, load_at (st.get 0 rfl)])
    refine Pu.use (need_impl.operandsOfSaid_spec y.op) ?_
    have ew : IntKind.i64.wrap ((roots f i).length - need y.op) = (rr.length : Nat) := by rw [i64_id (by omega) (by omega)]; omega
    (try simp (maxSteps := 1000000) (disch := (first | assumption | (apply Ne.symm; assumption))) only [vw0, vw1, vw2, vw3, vw4, vu0, vu1, ↓condV_t, ↓condV_f, cap_nil, allocV, splice, partV, buildV, eqFieldsV, eqS, tabs, TK.agg, reduceCtorEq, Array.toList, List.map_cons, List.map_nil, ↓reduceIte, List.length_map, Nat.reduceAdd, Nat.reduceLeDiff, Nat.reduceLT, Nat.reduceMul, Nat.reduceSub, Option.bind_some, Option.map_some, bndV, numV, eI, eU, e8, eB, AV.isCell, Int.reduceToNat, Int.reduceSub, Int.reduceAdd, Int.reduceNeg, sliceV, ew])
    refine ⟨by omega, by omega, by omega, ?_⟩
    have en : ((roots f i).length - (rr.length : Int)).toNat = (opsF f i).length := by omega
    have ep : ((roots f i).drop (rr.length * 1)).take (opsF f i).length = opsF f i := by rw [e1, Nat.mul_one, List.drop_left, List.take_length]
    rw [en]
    refine Clone_part (st.get 1 rfl) (by omega) (by omega) fun qn G3 hrow hn => ?_
    rw [ep] at hrow ⊢
    obtain ⟨qn', e4, hqn, _⟩ := hrow
    injection e4 with e4; subst e4
    replace st := st.push (cellT qn (cP fI (opsF f i))) hn hqn
    refine lit_live1 fun ql hql => ?_
    replace st := st.cell hql [rowP qn (opsF f i)]
    generalize G3.set ql [.sl qn 1 0 (opsF f i).length] = G4 at st ⊢
    refine rn_pushL st 2 rfl (by rw [opsA_len]; omega) fun q' D' G5 hq' st => ?_
    rw [← hsucc] at st
    simp only [List.set_cons_succ, List.set_cons_zero] at st
    have hq5 := (st.get 1 rfl : G5 q = _)
    rw [e1, cI_app] at hq5
    refine ⟨by omega, by omega, by omega, ?_⟩
    refine lit1 tab_46 rfl tab_3 ⟨rfl, rfl⟩ ?_
    refine app_intsX (xs := rr) (ys := [(i : Int)]) hq5 (by simp only [List.length_singleton]; omega) fun q2 hq2 hne => ?_
    rw [← e2]
    refine ⟨(i + 1, .sl q' 1 0 ((opsA f i).length + 1), D', q2, _), ⟨by simp only; omega, (st.moved 1 rfl hq2 (c := cP fI (roots f (i + 1)))).drop⟩, by simp only; omega, .refl _, .refl _, ?_, Heap.le_refl _⟩
    rw [wk_int, i64_id (by omega) (by omega)]; simp
  · have : i = f.length := by omega
    subst this
    exact fin_rows st 1 rfl
theorem lit1r {G : Heap} {K : AV → Heap → Prop} {n : Int} (h : ∀ q, G q = none → K (rowP q [n]) (G.set q (cP fI [n]))) : buildSliceV tab 46 1 [(0, I n)] G (wkK K) := by
  simp only [buildSliceV, tab_46, tab_3]
  refine ⟨by omega, ?_⟩
  simp only [fillV, zerosA, List.replicate_succ, List.replicate_zero, List.flatten_cons, List.flatten_nil, List.append_nil, AV.cells, splice]
  simp only [List.length_cons, List.length_nil, Nat.reduceAdd, Nat.zero_mul, Nat.zero_add, Nat.le_refl, and_self, if_true, List.take_zero, List.nil_append, List.drop_succ_cons, List.drop_zero, List.append_nil]
  exact fun r hr => wkK.keep (h r hr)
def tr (f : List Sd) : List Int := sc (trL f f.length)
theorem tr_len (f : List Sd) : (tr f).length ≤ 2 * f.length + 1 := Nat.le_trans (sc_len _) (trL_len f f.length)
theorem tracked_row (f : List Sd) (g : GoodFm f) {H : Heap} {K : AV → Heap → Prop} (h : ∀ q G, RowR (tr f) (rowP q (tr f)) G [q] → New H G [q] → K (rowP q (tr f)) G) : CallT Tryz.prog 85 [Ds f] H K := by
  have hl := g.l1
  have hl0 := g.l0
  refine CallT.fin ?_
  have e0 : IntKind.i64.wrap ((f.length : Int) - 1) = f.length - 1 := i64_id (by omega) (by omega)
  refine W85_ok ?_; simp (maxSteps := 1000000) (disch := (first | assumption | (apply Ne.symm; assumption))) only [W85, vw0, vw1, vw2, vw3, vw4, vu0, vu1, ↓condV_t, ↓condV_f, cap_nil, allocV, splice, partV, buildV, eqFieldsV, eqS, tabs, TK.agg, reduceCtorEq, Array.toList, List.map_cons, List.map_nil, ↓reduceIte, List.length_map, Nat.reduceAdd, Nat.reduceLeDiff, Nat.reduceLT, Nat.reduceMul, Nat.reduceSub, Option.bind_some, Option.map_some, bndV, numV, eI, eU, e8, eB, AV.isCell, Int.reduceToNat, Int.reduceSub, Int.reduceAdd, Int.reduceNeg, e0]
  refine lit1r (n := (f.length : Int) - 1) fun q0 hq0 => ?_
  have st := (St.nil H).cell hq0 (cP fI (trL f 0))
  have ez : [(f.length : Int) - 1] = trL f 0 := by simp [trL]
  rw [ez]
  generalize H.set q0 (cP fI (trL f 0)) = G at st ⊢
  refine Pu.use (operandIndexes_spec f g) ?_
  (try simp (maxSteps := 1000000) (disch := (first | assumption | (apply Ne.symm; assumption))) only [vw0, vw1, vw2, vw3, vw4, vu0, vu1, ↓condV_t, ↓condV_f, cap_nil, allocV, splice, partV, buildV, eqFieldsV, eqS, tabs, TK.agg, reduceCtorEq, Array.toList, List.map_cons, List.map_nil, ↓reduceIte, List.length_map, Nat.reduceAdd, Nat.reduceLeDiff, Nat.reduceLT, Nat.reduceMul, Nat.reduceSub, Option.bind_some, Option.map_some, bndV, numV, eI, eU, e8, eB, AV.isCell, Int.reduceToNat, Int.reduceSub, Int.reduceAdd, Int.reduceNeg])
  refine L85_0_rule ((0 : Nat), q0, G) (fun s => rowP s.2.1 (trL f s.1)) (fun s => I s.1) (fun s => s.2.2)
    (fun s => s.1 ≤ f.length ∧ St H [cellT s.2.1 (cP fI (trL f s.1))] s.2.2) (fun s => f.length - s.1)
    ⟨⟨by simp, st⟩, .refl _, .refl _, Heap.le_refl _⟩ ?_
  clear st
  rintro ⟨i, q, G⟩ ⟨hi, st⟩
  dsimp only at hi st
  have htl := trL_len f i
  (try simp (maxSteps := 1000000) (disch := (first | assumption | (apply Ne.symm; assumption))) only [vw0, vw1, vw2, vw3, vw4, vu0, vu1, ↓condV_t, ↓condV_f, cap_nil, allocV, splice, partV, buildV, eqFieldsV, eqS, tabs, TK.agg, reduceCtorEq, Array.toList, List.map_cons, List.map_nil, ↓reduceIte, List.length_map, Nat.reduceAdd, Nat.reduceLeDiff, Nat.reduceLT, Nat.reduceMul, Nat.reduceSub, Option.bind_some, Option.map_some, bndV, numV, eI, eU, e8, eB, AV.isCell, Int.reduceToNat, Int.reduceSub, Int.reduceAdd, Int.reduceNeg, B85_0])
  refine ⟨fun h1 => ⟨by omega, h1, ?_⟩, fun h1 => ?_⟩
  · have hlt : i < f.length := by omega
    have hok := g.ok i hlt
    have hsucc := trL_succ f i
    have e5 : IntKind.i64.wrap ((i : Int) + 1) = ((i + 1 : Nat) : Int) := by rw [i64_id (by omega) (by omega)]; simp
    have hog := opsA_get f hlt
    have hol := opsA_len f f.length
    have hat : trAt f i = if (f.getD i default).op = 7 ∨ (f.getD i default).op = 8 then [(i : Int), (i : Int) - 1] else if (f.getD i default).op = 4 then [(i : Int) - 1] else [] := rfl
    have hop2 : (f.getD i default).op = 7 ∨ (f.getD i default).op = 8 → opsF f i = [(tst f (i - 1) : Int) - 1, (i : Int) - 1] := fun h => by
      have : need (f.getD i default).op = 2 := by rcases h with h | h <;> rw [h] <;> rfl
      rw [opsF, if_neg (by omega), if_neg (by omega)]
    have hop1 : (f.getD i default).op = 4 → opsF f i = [(i : Int) - 1] := fun h => by
      have : need (f.getD i default).op = 1 := by rw [h]; rfl
      rw [opsF, if_neg (by omega), if_pos this]
    generalize f.getD i default = y at hat hop1 hop2 hok ⊢
    intro r hr
    replace st := st.cell hr [I y.op, I y.n]
    generalize G.set r [I y.op, I y.n] = G2 at st ⊢
    (try simp (maxSteps := 1000000) (disch := (first | assumption | (apply Ne.symm; assumption))) only [vw0, vw1, vw2, vw3, vw4, vu0, vu1, ↓condV_t, ↓condV_f, cap_nil, allocV, splice, partV, buildV, eqFieldsV, eqS, tabs, TK.agg, reduceCtorEq, Array.toList, List.map_cons, List.map_nil, ↓reduceIte, List.length_map, Nat.reduceAdd, Nat.reduceLeDiff, Nat.reduceLT, Nat.reduceMul, Nat.reduceSub, Option.bind_some, Option.map_some, bndV, numV, eI, eU, e8, eB, AV.isCell, Int.reduceToNat, Int.reduceSub, Int.reduceAdd, Int.reduceNeg, load_at (st.get 0 rfl)])
    have key : ∀ b : Bool, (b = true ↔ (y.op = 7 ∨ y.op = 8)) → ∀ N : AV → AV → Heap → Prop, (∀ q' G', St H [cellT q' (cP fI (trL f (i + 1)))] G' → N (rowP q' (trL f (i + 1))) (I ((i + 1 : Nat) : Int)) G') →
        J85_1 (wkK K) N (rowP q (trL f i)) (Ls (opsA f f.length)) (I i) (Ds f) (I f.length) (I i) (I y.op) (B b) G2 := by
      intro b hb N hN
      (try simp (maxSteps := 1000000) (disch := (first | assumption | (apply Ne.symm; assumption))) only [vw0, vw1, vw2, vw3, vw4, vu0, vu1, ↓condV_t, ↓condV_f, cap_nil, allocV, splice, partV, buildV, eqFieldsV, eqS, tabs, TK.agg, reduceCtorEq, Array.toList, List.map_cons, List.map_nil, ↓reduceIte, List.length_map, Nat.reduceAdd, Nat.reduceLeDiff, Nat.reduceLT, Nat.reduceMul, Nat.reduceSub, Option.bind_some, Option.map_some, bndV, numV, eI, eU, e8, eB, AV.isCell, Int.reduceToNat, Int.reduceSub, Int.reduceAdd, Int.reduceNeg, J85_1, e5])
      have e6 : trL f i ++ trAt f i = trL f (i + 1) := hsucc.symm
      refine ⟨fun h2 => ?_, fun h2 => ⟨fun h4 => ?_, fun h4 => ?_⟩⟩
      · have h7 := hb.1 h2
        have ho := hop2 h7
        rw [hat, if_pos h7] at e6
        rw [hog, ho]
        refine ⟨by omega, by rw [hol]; omega, by omega, by simp, ?_⟩
        refine lit2 tab_46 rfl tab_3 ⟨rfl, rfl⟩ ?_
        refine st_appI (ys := [(i : Int), (i : Int) - 1]) st 1 rfl (by simp only [List.length_cons, List.length_nil]; omega) fun q' G' hq' st => ?_
        rw [e6] at st ⊢
        exact hN _ _ st.drop
      · have h7 : ¬ (y.op = 7 ∨ y.op = 8) := fun h => by rw [hb.2 h] at h2; cases h2
        rw [hat, if_neg h7, if_pos h4] at e6
        rw [hog, hop1 h4]
        refine ⟨by omega, by rw [hol]; omega, by omega, by simp, ?_⟩
        refine lit1 tab_46 rfl tab_3 ⟨rfl, rfl⟩ ?_
        refine st_appI (ys := [(i : Int) - 1]) st 1 rfl (by simp only [List.length_cons, List.length_nil]; omega) fun q' G' hq' st => ?_
        rw [e6] at st ⊢
        exact hN _ _ st.drop
      · have h7 : ¬ (y.op = 7 ∨ y.op = 8) := fun h => by rw [hb.2 h] at h2; cases h2
        rw [hat, if_neg h7, if_neg h4, List.append_nil] at e6
        rw [e6] at st ⊢
        exact hN _ _ st.drop
    refine ⟨fun h7 => key (decide (y.op = 7)) (by simp [h7]) _ fun q' G' st => ⟨(i + 1, q', G'), ⟨by simp only; omega, st⟩, by simp only; omega, .refl _, .refl _, Heap.le_refl _⟩, fun h7 => key (decide (y.op = 8)) (by simp [h7]) _ fun q' G' st => ⟨(i + 1, q', G'), ⟨by simp only; omega, st⟩, by simp only; omega, .refl _, .refl _, Heap.le_refl _⟩⟩
  · have : i = f.length := by omega
    subst this
    have hq : G q = some (cP fI (trL f f.length)) := st.get 0 rfl
    have hsl : (srt (trL f f.length)).length = (trL f f.length).length := List.length_mergeSort ..
    refine Sort_row hq (by omega) ?_
    replace st := st.put 0 rfl (cP fI (srt (trL f f.length)))
    have hq : (G.set q (cP fI (srt (trL f f.length)))) q = some (cP fI (srt (trL f f.length))) := Heap.set_same _ _ _
    generalize G.set q (cP fI (srt (trL f f.length))) = G2 at st hq ⊢
    rw [show rowP q (trL f f.length) = rowP q (srt (trL f f.length)) by simp only [rowP, hsl]]
    refine Compact_row hq (by omega) ?_
    replace st := st.put 0 rfl (cP fI (tr f))
    exact wkK.keep (h q _ ⟨q, rfl, st.get 0 rfl, rfl⟩ ⟨st.ndT 0 rfl, st.fr _ (List.mem_cons_self ..), st.le⟩)
end Go.Proofs.YtgcklgeifdefhaaGreat
