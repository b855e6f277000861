/- Specs: tracked nodes by the reference; answers that are a row and a word. -/
import Derived.Test.YtgcklgeifdefhaaGreatMf2
namespace Go.Proofs.YtgcklgeifdefhaaGreat
open Go Go.Sep Go.Pt
set_option linter.unusedSimpArgs false
set_option linter.unusedVariables false
attribute [local irreducible] CallT

def trQ (f : List Sd) (i : Nat) : List Int := (((List.range i).map (trAt f)).flatten).foldl put [(f.length : Int) - 1]
theorem trQ_succ (f : List Sd) (i : Nat) : trQ f (i + 1) = (trAt f i).foldl put (trQ f i) := by simp [trQ, List.range_succ, List.foldl_append]
theorem trQ_lt (f : List Sd) (i : Nat) : (trQ f i).Pairwise (· < ·) := (foldl_put _ _ (by simp)).1
theorem foldl_putlen (xs : List Int) : ∀ l, (xs.foldl put l).length ≤ l.length + xs.length := by
  induction xs with
  | nil => intro l; simp
  | cons a xs ih => intro l; have := ih (put l a); have := put_len l a; rw [List.foldl_cons, List.length_cons]; omega
theorem trQ_len (f : List Sd) (i : Nat) : (trQ f i).length ≤ 2 * i + 1 := by
  have h1 := foldl_putlen (((List.range i).map (trAt f)).flatten) [(f.length : Int) - 1]
  have h2 := trL_len f i
  rw [trL, List.length_cons] at h2
  rw [List.length_singleton] at h1
  unfold trQ; omega
theorem trQ_all (f : List Sd) : trQ f f.length = tr f := by
  have h := foldl_put (((List.range f.length).map (trAt f)).flatten) [(f.length : Int) - 1] (by simp)
  refine rise_ext h.1 (sc_lt _) fun x => ?_
  unfold trQ tr
  rw [h.2, sc_mem, trL, List.mem_cons]
  simp
theorem l13Tracked_spec (f : List Sd) (g : GoodFm f) : Pu Tryz.prog 78 [Ds f] (Is (tr f)) := by
  have hl := g.l1
  have hl0 := g.l0
  refine Pu.of fun H => ?_
  have e0 : IntKind.i64.wrap ((f.length : Int) - 1) = f.length - 1 := i64_id (by omega) (by omega)
  refine W78_ok ?_; simp (maxSteps := 1000000) (disch := (first | assumption | (apply Ne.symm; assumption))) only [W78, vw0, vw1, vw2, vw3, vw4, vu0, vu1, ↓condV_t, ↓condV_f, cap_nil, allocV, splice, partV, buildV, eqFieldsV, eqS, tabs, TK.agg, reduceCtorEq, Array.toList, List.map_cons, List.map_nil, ↓reduceIte, List.length_map, Nat.reduceAdd, Nat.reduceLeDiff, Nat.reduceLT, Nat.reduceMul, Nat.reduceSub, Option.bind_some, Option.map_some, bndV, numV, eI, eU, e8, eB, AV.isCell, Int.reduceToNat, Int.reduceSub, Int.reduceAdd, Int.reduceNeg, e0]
  refine lit1 tab_46 rfl tab_3 ⟨rfl, rfl⟩ ?_
  (try simp (maxSteps := 1000000) (disch := (first | assumption | (apply Ne.symm; assumption))) only [vw0, vw1, vw2, vw3, vw4, vu0, vu1, ↓condV_t, ↓condV_f, cap_nil, allocV, splice, partV, buildV, eqFieldsV, eqS, tabs, TK.agg, reduceCtorEq, Array.toList, List.map_cons, List.map_nil, ↓reduceIte, List.length_map, Nat.reduceAdd, Nat.reduceLeDiff, Nat.reduceLT, Nat.reduceMul, Nat.reduceSub, Option.bind_some, Option.map_some, bndV, numV, eI, eU, e8, eB, AV.isCell, Int.reduceToNat, Int.reduceSub, Int.reduceAdd, Int.reduceNeg])
  refine L78_0_rule (0 : Nat) (fun i => Is (trQ f i)) (fun i => I i) (fun _ => H) (fun i => i ≤ f.length) (fun i => f.length - i) ⟨by omega, .refl _, .refl _, Heap.le_refl _⟩ ?_
  intro i hi
  have htl := trQ_len f i
  have hlt := trQ_lt f i
  (try simp (maxSteps := 1000000) (disch := (first | assumption | (apply Ne.symm; assumption))) only [vw0, vw1, vw2, vw3, vw4, vu0, vu1, ↓condV_t, ↓condV_f, cap_nil, allocV, splice, partV, buildV, eqFieldsV, eqS, tabs, TK.agg, reduceCtorEq, Array.toList, List.map_cons, List.map_nil, ↓reduceIte, List.length_map, Nat.reduceAdd, Nat.reduceLeDiff, Nat.reduceLT, Nat.reduceMul, Nat.reduceSub, Option.bind_some, Option.map_some, bndV, numV, eI, eU, e8, eB, AV.isCell, Int.reduceToNat, Int.reduceSub, Int.reduceAdd, Int.reduceNeg, B78_0])
  refine ⟨fun h1 => ⟨by omega, h1, ?_⟩, fun h1 => ?_⟩
  · have hlt : i < f.length := by omega
    have e5 : IntKind.i64.wrap ((i : Int) + 1) = ((i + 1 : Nat) : Int) := by rw [i64_id (by omega) (by omega)]; simp
    have e7 : IntKind.i64.wrap ((i : Int) - 1) = (i : Int) - 1 := i64_id (by omega) (by omega)
    have hsucc := trQ_succ f i
    have hat : trAt f i = if (f.getD i default).op = 7 ∨ (f.getD i default).op = 8 then [(i : Int), (i : Int) - 1] else if (f.getD i default).op = 4 then [(i : Int) - 1] else [] := rfl
    generalize f.getD i default = y at hat ⊢
    intro r hr
    have hle := Heap.le_set (b := [I y.op, I y.n]) hr
    generalize H.set r [I y.op, I y.n] = G at hle ⊢
    have key : ∀ b : Bool, (b = true ↔ (y.op = 7 ∨ y.op = 8)) → ∀ (K N), (∀ G', Heap.le G G' → N (Is (trQ f (i + 1))) (I ((i + 1 : Nat) : Int)) G') →
        J78_1 K N (Is (trQ f i)) (I i) (Ds f) (I f.length) (I i) (I y.op) (B b) G := by
      intro b hb K N hN
      (try simp (maxSteps := 1000000) (disch := (first | assumption | (apply Ne.symm; assumption))) only [vw0, vw1, vw2, vw3, vw4, vu0, vu1, ↓condV_t, ↓condV_f, cap_nil, allocV, splice, partV, buildV, eqFieldsV, eqS, tabs, TK.agg, reduceCtorEq, Array.toList, List.map_cons, List.map_nil, ↓reduceIte, List.length_map, Nat.reduceAdd, Nat.reduceLeDiff, Nat.reduceLT, Nat.reduceMul, Nat.reduceSub, Option.bind_some, Option.map_some, bndV, numV, eI, eU, e8, eB, AV.isCell, Int.reduceToNat, Int.reduceSub, Int.reduceAdd, Int.reduceNeg, J78_1, e5, e7])
      refine ⟨fun h2 => ?_, fun h2 => ⟨fun h4 => ?_, fun h4 => ?_⟩⟩
      · rw [hat, if_pos (hb.1 h2)] at hsucc
        refine Pu.use (l1Put_spec _ (i : Int) ‹_› (by omega)) ?_
        have hpl := put_len (trQ f i) (i : Int)
        refine Pu.use (l1Put_spec _ ((i : Int) - 1) (put_lt _ ‹_›) (by omega)) ?_
        rw [show put (put (trQ f i) i) (i - 1) = trQ f (i + 1) by rw [hsucc]; rfl]
        (try simp (maxSteps := 1000000) (disch := (first | assumption | (apply Ne.symm; assumption))) only [vw0, vw1, vw2, vw3, vw4, vu0, vu1, ↓condV_t, ↓condV_f, cap_nil, allocV, splice, partV, buildV, eqFieldsV, eqS, tabs, TK.agg, reduceCtorEq, Array.toList, List.map_cons, List.map_nil, ↓reduceIte, List.length_map, Nat.reduceAdd, Nat.reduceLeDiff, Nat.reduceLT, Nat.reduceMul, Nat.reduceSub, Option.bind_some, Option.map_some, bndV, numV, eI, eU, e8, eB, AV.isCell, Int.reduceToNat, Int.reduceSub, Int.reduceAdd, Int.reduceNeg, e5])
        exact hN G (Heap.le_refl _)
      · have h7 : ¬ (y.op = 7 ∨ y.op = 8) := fun h => by rw [hb.2 h] at h2; cases h2
        rw [hat, if_neg h7, if_pos h4] at hsucc
        refine Pu.use (l1Put_spec _ ((i : Int) - 1) ‹_› (by omega)) ?_
        rw [show put (trQ f i) (i - 1) = trQ f (i + 1) by rw [hsucc]; rfl]
        (try simp (maxSteps := 1000000) (disch := (first | assumption | (apply Ne.symm; assumption))) only [vw0, vw1, vw2, vw3, vw4, vu0, vu1, ↓condV_t, ↓condV_f, cap_nil, allocV, splice, partV, buildV, eqFieldsV, eqS, tabs, TK.agg, reduceCtorEq, Array.toList, List.map_cons, List.map_nil, ↓reduceIte, List.length_map, Nat.reduceAdd, Nat.reduceLeDiff, Nat.reduceLT, Nat.reduceMul, Nat.reduceSub, Option.bind_some, Option.map_some, bndV, numV, eI, eU, e8, eB, AV.isCell, Int.reduceToNat, Int.reduceSub, Int.reduceAdd, Int.reduceNeg, e5])
        exact hN G (Heap.le_refl _)
      · have h7 : ¬ (y.op = 7 ∨ y.op = 8) := fun h => by rw [hb.2 h] at h2; cases h2
        rw [hat, if_neg h7, if_neg h4] at hsucc
        rw [show trQ f i = trQ f (i + 1) by rw [hsucc]; rfl]
        exact hN G (Heap.le_refl _)
    refine ⟨fun h7 => key (decide (y.op = 7)) (by simp [h7]) _ _ fun G' hg => ⟨i + 1, by omega, by omega, .refl _, .refl _, Heap.le_trans hle hg⟩, fun h7 => key (decide (y.op = 8)) (by simp [h7]) _ _ fun G' hg => ⟨i + 1, by omega, by omega, .refl _, .refl _, Heap.le_trans hle hg⟩⟩
  · have : i = f.length := by omega
    subst this
    rw [trQ_all]
def goodT (f : List Sd) : Bool := goodF f && decide ((tr f).length ≤ 5)
theorem isTracked_spec (f : List Sd) (hl : f.length ≤ 1048576) : Pu Tryz.prog 45 [Ds f] (B (goodT f)) := by
  refine Pu.of fun H => ?_
  refine W45_ok ?_; simp (maxSteps := 1000000) (disch := (first | assumption | (apply Ne.symm; assumption))) only [W45, vw0, vw1, vw2, vw3, vw4, vu0, vu1, ↓condV_t, ↓condV_f, cap_nil, allocV, splice, partV, buildV, eqFieldsV, eqS, tabs, TK.agg, reduceCtorEq, Array.toList, List.map_cons, List.map_nil, ↓reduceIte, List.length_map, Nat.reduceAdd, Nat.reduceLeDiff, Nat.reduceLT, Nat.reduceMul, Nat.reduceSub, Option.bind_some, Option.map_some, bndV, numV, eI, eU, e8, eB, AV.isCell, Int.reduceToNat, Int.reduceSub, Int.reduceAdd, Int.reduceNeg]
  refine Pu.use (GoodSaid_impl f hl) ?_
  cases hg : goodF f
  · (try simp (maxSteps := 1000000) (disch := (first | assumption | (apply Ne.symm; assumption))) only [vw0, vw1, vw2, vw3, vw4, vu0, vu1, ↓condV_t, ↓condV_f, cap_nil, allocV, splice, partV, buildV, eqFieldsV, eqS, tabs, TK.agg, reduceCtorEq, Array.toList, List.map_cons, List.map_nil, ↓reduceIte, List.length_map, Nat.reduceAdd, Nat.reduceLeDiff, Nat.reduceLT, Nat.reduceMul, Nat.reduceSub, Option.bind_some, Option.map_some, bndV, numV, eI, eU, e8, eB, AV.isCell, Int.reduceToNat, Int.reduceSub, Int.reduceAdd, Int.reduceNeg])
    rw [goodT, hg]
    first | rfl | exact ⟨rfl, Heap.le_refl _⟩
  · (try simp (maxSteps := 1000000) (disch := (first | assumption | (apply Ne.symm; assumption))) only [vw0, vw1, vw2, vw3, vw4, vu0, vu1, ↓condV_t, ↓condV_f, cap_nil, allocV, splice, partV, buildV, eqFieldsV, eqS, tabs, TK.agg, reduceCtorEq, Array.toList, List.map_cons, List.map_nil, ↓reduceIte, List.length_map, Nat.reduceAdd, Nat.reduceLeDiff, Nat.reduceLT, Nat.reduceMul, Nat.reduceSub, Option.bind_some, Option.map_some, bndV, numV, eI, eU, e8, eB, AV.isCell, Int.reduceToNat, Int.reduceSub, Int.reduceAdd, Int.reduceNeg])
    refine tracked_row f (goodF_iff.1 hg) fun q G hr hn => ?_
    (try simp (maxSteps := 1000000) (disch := (first | assumption | (apply Ne.symm; assumption))) only [vw0, vw1, vw2, vw3, vw4, vu0, vu1, ↓condV_t, ↓condV_f, cap_nil, allocV, splice, partV, buildV, eqFieldsV, eqS, tabs, TK.agg, reduceCtorEq, Array.toList, List.map_cons, List.map_nil, ↓reduceIte, List.length_map, Nat.reduceAdd, Nat.reduceLeDiff, Nat.reduceLT, Nat.reduceMul, Nat.reduceSub, Option.bind_some, Option.map_some, bndV, numV, eI, eU, e8, eB, AV.isCell, Int.reduceToNat, Int.reduceSub, Int.reduceAdd, Int.reduceNeg])
    refine ⟨?_, hn.le⟩
    refine congrArg (fun b : Bool => B b) ?_
    rw [goodT, hg, Bool.true_and]
    rw [Bool.eq_iff_iff]; simp only [decide_eq_true_eq]; omega
theorem l13Good_spec (f : List Sd) (hl : f.length ≤ 1048576) : Pu Tryz.prog 39 [Ds f] (B (goodT f)) := by
  refine Pu.of fun H => ?_
  refine W39_ok ?_; simp (maxSteps := 1000000) (disch := (first | assumption | (apply Ne.symm; assumption))) only [W39, vw0, vw1, vw2, vw3, vw4, vu0, vu1, ↓condV_t, ↓condV_f, cap_nil, allocV, splice, partV, buildV, eqFieldsV, eqS, tabs, TK.agg, reduceCtorEq, Array.toList, List.map_cons, List.map_nil, ↓reduceIte, List.length_map, Nat.reduceAdd, Nat.reduceLeDiff, Nat.reduceLT, Nat.reduceMul, Nat.reduceSub, Option.bind_some, Option.map_some, bndV, numV, eI, eU, e8, eB, AV.isCell, Int.reduceToNat, Int.reduceSub, Int.reduceAdd, Int.reduceNeg]
  refine Pu.use (GoodSaid_spec f hl) ?_
  cases hg : goodF f
  · (try simp (maxSteps := 1000000) (disch := (first | assumption | (apply Ne.symm; assumption))) only [vw0, vw1, vw2, vw3, vw4, vu0, vu1, ↓condV_t, ↓condV_f, cap_nil, allocV, splice, partV, buildV, eqFieldsV, eqS, tabs, TK.agg, reduceCtorEq, Array.toList, List.map_cons, List.map_nil, ↓reduceIte, List.length_map, Nat.reduceAdd, Nat.reduceLeDiff, Nat.reduceLT, Nat.reduceMul, Nat.reduceSub, Option.bind_some, Option.map_some, bndV, numV, eI, eU, e8, eB, AV.isCell, Int.reduceToNat, Int.reduceSub, Int.reduceAdd, Int.reduceNeg])
    rw [goodT, hg]
    first | rfl | exact ⟨rfl, Heap.le_refl _⟩
  · (try simp (maxSteps := 1000000) (disch := (first | assumption | (apply Ne.symm; assumption))) only [vw0, vw1, vw2, vw3, vw4, vu0, vu1, ↓condV_t, ↓condV_f, cap_nil, allocV, splice, partV, buildV, eqFieldsV, eqS, tabs, TK.agg, reduceCtorEq, Array.toList, List.map_cons, List.map_nil, ↓reduceIte, List.length_map, Nat.reduceAdd, Nat.reduceLeDiff, Nat.reduceLT, Nat.reduceMul, Nat.reduceSub, Option.bind_some, Option.map_some, bndV, numV, eI, eU, e8, eB, AV.isCell, Int.reduceToNat, Int.reduceSub, Int.reduceAdd, Int.reduceNeg])
    refine Pu.use (l13Tracked_spec f (goodF_iff.1 hg)) ?_
    (try simp (maxSteps := 1000000) (disch := (first | assumption | (apply Ne.symm; assumption))) only [vw0, vw1, vw2, vw3, vw4, vu0, vu1, ↓condV_t, ↓condV_f, cap_nil, allocV, splice, partV, buildV, eqFieldsV, eqS, tabs, TK.agg, reduceCtorEq, Array.toList, List.map_cons, List.map_nil, ↓reduceIte, List.length_map, Nat.reduceAdd, Nat.reduceLeDiff, Nat.reduceLT, Nat.reduceMul, Nat.reduceSub, Option.bind_some, Option.map_some, bndV, numV, eI, eU, e8, eB, AV.isCell, Int.reduceToNat, Int.reduceSub, Int.reduceAdd, Int.reduceNeg])
    refine congrArg (fun b : Bool => B b) ?_
    rw [goodT, hg, Bool.true_and]
    rw [Bool.eq_iff_iff]; simp only [decide_eq_true_eq]; omega
theorem goodT_facts {f : List Sd} (h : goodT f = true) : GoodFm f ∧ (tr f).length ≤ 5 := by
  rw [goodT, Bool.and_eq_true, decide_eq_true_eq] at h
  exact ⟨goodF_iff.1 h.1, h.2⟩
theorem tracked_spec (f : List Sd) (g : GoodFm f) : Pu Tryz.prog 85 [Ds f] (Is (tr f)) := by
  refine ⟨fun H => CallT.fin (tracked_row f g fun q G hr hn => ?_)⟩
  obtain ⟨q', e, hq, _⟩ := hr
  injection e with e; subst e
  have hHq := hn.fr q (by simp)
  refine fin_int hHq fun y b hb => ?_
  by_cases e : y = q
  · subst e; rw [Heap.set_same] at hb; rw [hq]; exact hb
  · rw [Heap.set_other e] at hb; exact hn.le y b hb
/-- An answer that is a row of numbers of one's own, and a word. -/
def RowB (l : List Int) (ok : Bool) (r : AV) (G : Heap) (D : List Nat) : Prop := ∃ q, r = .tup [rowP q l, B ok] ∧ G q = some (cP fI l) ∧ D = [q]
theorem RowB.res (l : List Int) (ok : Bool) : ResT (RowB l ok) := by
  refine ⟨?_, ?_, ?_⟩
  · rintro r G G' D ⟨q, rfl, hq, rfl⟩ hf
    exact ⟨q, rfl, hf q (by simp) _ hq, rfl⟩
  · rintro r G D ⟨q, rfl, hq, rfl⟩
    refine ⟨.inl ⟨_, rfl, fun u hu => ?_⟩, fun y hy bs hb c hc => ?_⟩
    · rcases List.mem_cons.1 hu with rfl | hu
      · exact .inr ⟨.inl ⟨_, _, _, _, rfl⟩, fun _ => rfl⟩
      · rw [List.mem_singleton] at hu; rw [hu]; exact .inr ⟨.p (.bool ok), fun _ => rfl⟩
    · rw [List.mem_singleton.1 hy, hq] at hb
      cases hb
      obtain ⟨x, _, rfl⟩ := List.mem_map.1 hc
      exact .p (.int _ _)
  · rintro r G D n G0 h0 ⟨q, rfl, hq, rfl⟩
    obtain ⟨q', e, h1, _⟩ := (RowR.res l).sh h0 ⟨q, rfl, hq, rfl⟩
    have e2 : q' = q + n := by
      have h1 : sh2 n (rowP q l) = .sl (q + n) 1 0 l.length := rfl
      rw [h1] at e
      injection e with e; exact e.symm
    subst e2
    exact ⟨q + n, rfl, h1, rfl⟩
def trR (f : List Sd) : List Int × Bool := if goodT f then (tr f, true) else ([], false)
end Go.Proofs.YtgcklgeifdefhaaGreat
