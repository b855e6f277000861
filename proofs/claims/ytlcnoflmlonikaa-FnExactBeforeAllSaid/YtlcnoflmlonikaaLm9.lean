/- The law on what a condition asks before all commands. -/
import Derived.Test.YtlcnoflmlonikaaLm4
import Derived.Test.YtlcnoflmlonikaaLm8
namespace Go.Proofs.Ytlcnoflmlonikaa
open Go Go.Sep Go.Pt
set_option linter.unusedSimpArgs false
set_option linter.unusedVariables false
attribute [local irreducible] CallT

theorem resBA_len {p : Pg} {t o : List Nd} (h : resBA p t = some o) : o.length ≤ 48 := by
  unfold resBA allR at h
  split at h
  · split at h
    · obtain ⟨h1, rfl⟩ := gtO_some h
      exact (gt_len h1).2
    · cases h
  · cases h
theorem BeforeAll_thaw (p : Pg) (t : List Nd) (hp : vPg p) (ht : vT t) {args : List AV} {G G1 : Heap} {K : AV → Heap → Prop} (hw : Wk (.tup args) G (.tup [aPg p, Ns t]) G1)
    (hb : resBA p t = none → K (.tup [.p .nil, B false]) G)
    (hg : ∀ o, resBA p t = some o → ∀ q, G q = none → K (.tup [rowN q o, B true]) (G.set q (cN o))) : CallT Try.prog 20 args G K := by
  refine CallT.thawX (Q' := fun r H' => (resBA p t = none ∧ r = .tup [.p .nil, B false] ∧ H' = fun _ => none) ∨ (∃ o, resBA p t = some o ∧ ∃ q, r = .tup [rowN q o, B true] ∧ H' = Heap.set (fun _ => none) q (cN o))) ?_ ?_ hw ?_
  · exact BeforeAll_impl p t hp ht (fun h => .inl ⟨h, rfl, rfl⟩) fun o h q _ => .inr ⟨o, h, q, rfl, rfl⟩
  · have gb : ∀ b, Gd1 (B b) := fun b => .inr ⟨.p (.bool b), fun _ => rfl⟩
    rintro r H' (⟨_, rfl, rfl⟩ | ⟨o, _, q, rfl, rfl⟩)
    · refine ⟨.inl ⟨_, rfl, fun v hv => ?_⟩, fun q cs h => by cases h⟩
      rcases List.mem_cons.1 hv with rfl | hv
      · exact .inr ⟨.p .nil, fun _ => rfl⟩
      · rw [List.mem_singleton] at hv; rw [hv]; exact gb _
    · refine ⟨.inl ⟨_, rfl, fun v hv => ?_⟩, fun q' cs h v hv => ?_⟩
      · rcases List.mem_cons.1 hv with rfl | hv
        · exact .inr ⟨.inl ⟨_, _, _, _, rfl⟩, fun _ => rfl⟩
        · rw [List.mem_singleton] at hv; rw [hv]; exact gb _
      · by_cases e : q' = q
        · subst e
          rw [Heap.set_same] at h; cases h
          obtain ⟨x, hx, rfl⟩ := List.mem_map.1 hv
          obtain ⟨l, hl, hx⟩ := List.mem_flatten.1 hx
          obtain ⟨a, _, rfl⟩ := List.mem_map.1 hl
          simp only [eN, List.mem_cons, List.not_mem_nil, or_false] at hx
          rcases hx with rfl | rfl <;> exact .p (.int _ _)
        · rw [Heap.set_other e] at h; cases h
  · rintro r H' n (⟨h, rfl, rfl⟩ | ⟨o, h, q, rfl, rfl⟩) hn
    · rw [or_empty]; exact hb h
    · rw [or_one hn (fun v hv => by obtain ⟨x, _, rfl⟩ := List.mem_map.1 hv; rfl)]
      exact hg o h (q + n) (hn _ (by omega))

theorem LG3.wk2 {p : Pg} {t : List Nd} {G : Heap} {r a b : Nat} {x y : AV} {D : List Nat} (g : LG3 p t G r a b x y D) : ∃ G1, Wk (.tup [.agg [I p.wide, I p.vars, x, y], rowN b t]) G (.tup [aPg p, Ns t]) G1 := by
  obtain ⟨G1, w1, f1⟩ := g.p1.wk g.n1 (fun v => .tup [v, rowN b t]) (fun h => .tup (.cons h (.cons (.same _) .nil)))
  exact ⟨_, .trans w1 (Wk.frz (r := b) (sz := 2) (es := t.map eN) (by omega) (by rw [f1 b g.nb]; exact g.gb) (szN t) (.tup (.cons (.same _) (.cons frz_rowN .nil))))⟩
theorem FnExactBeforeAll_true {p : Pg} {t : List Nd} (hok : okPg p) (hn : nPg p) (hlt : ok t.length) (hnt : nT t) : Pu Try.prog 5 [aPg p, Ns t] (B true) := by
  refine Pu.of fun H => ?_
  refine W5_ok ?_; simp (maxSteps := 1000000) (disch := (first | assumption | (apply Ne.symm; assumption))) only [W5, vw0, vw1, vw2, vw3, vw4, vu0, vu1, ↓condV_t, ↓condV_f, cap_nil, allocV, splice, partV, buildV, eqFieldsV, eqS, tabs, TK.agg, reduceCtorEq, Array.toList, List.map_cons, List.map_nil, ↓reduceIte, List.length_map, Nat.reduceAdd, Nat.reduceLeDiff, Nat.reduceLT, Nat.reduceMul, Nat.reduceSub, Option.bind_some, Option.map_some, bndV, numV, eI, eU, e8, eB, AV.isCell, Int.reduceToNat, Int.reduceSub, Int.reduceAdd, Int.reduceNeg]
  intro r hr
  have hle := Heap.le_set (b := [I p.wide, I p.vars, Ns p.start, Cms p.cmds]) hr
  (try simp (maxSteps := 1000000) (disch := (first | assumption | (apply Ne.symm; assumption))) only [vw0, vw1, vw2, vw3, vw4, vu0, vu1, ↓condV_t, ↓condV_f, cap_nil, allocV, splice, partV, buildV, eqFieldsV, eqS, tabs, TK.agg, reduceCtorEq, Array.toList, List.map_cons, List.map_nil, ↓reduceIte, List.length_map, Nat.reduceAdd, Nat.reduceLeDiff, Nat.reduceLT, Nat.reduceMul, Nat.reduceSub, Option.bind_some, Option.map_some, bndV, numV, eI, eU, e8, eB, AV.isCell, Int.reduceToNat, Int.reduceSub, Int.reduceAdd, Int.reduceNeg])
  refine Pu.use (szProgram_spec p 1048576 (by omega) (by omega) hok) ?_
  (try simp (maxSteps := 1000000) (disch := (first | assumption | (apply Ne.symm; assumption))) only [vw0, vw1, vw2, vw3, vw4, vu0, vu1, ↓condV_t, ↓condV_f, cap_nil, allocV, splice, partV, buildV, eqFieldsV, eqS, tabs, TK.agg, reduceCtorEq, Array.toList, List.map_cons, List.map_nil, ↓reduceIte, List.length_map, Nat.reduceAdd, Nat.reduceLeDiff, Nat.reduceLT, Nat.reduceMul, Nat.reduceSub, Option.bind_some, Option.map_some, bndV, numV, eI, eU, e8, eB, AV.isCell, Int.reduceToNat, Int.reduceSub, Int.reduceAdd, Int.reduceNeg])
  refine ⟨fun _ => hle, fun h1 => ?_⟩
  obtain ⟨t1, e1⟩ := szR_nonneg h1
  rw [e1]
  have hsm := sm_of_tot (by omega : (totPg p : Int) ≤ 1048576)
  have hv := v_of hsm hn
  refine Pu.use (szNodeS_spec t _ (by omega) (by omega) hlt) ?_
  (try simp (maxSteps := 1000000) (disch := (first | assumption | (apply Ne.symm; assumption))) only [vw0, vw1, vw2, vw3, vw4, vu0, vu1, ↓condV_t, ↓condV_f, cap_nil, allocV, splice, partV, buildV, eqFieldsV, eqS, tabs, TK.agg, reduceCtorEq, Array.toList, List.map_cons, List.map_nil, ↓reduceIte, List.length_map, Nat.reduceAdd, Nat.reduceLeDiff, Nat.reduceLT, Nat.reduceMul, Nat.reduceSub, Option.bind_some, Option.map_some, bndV, numV, eI, eU, e8, eB, AV.isCell, Int.reduceToNat, Int.reduceSub, Int.reduceAdd, Int.reduceNeg])
  refine ⟨fun _ => hle, fun h2 => ?_⟩
  obtain ⟨t2, _⟩ := szR_nonneg h2
  have htl : t.length ≤ 1048576 := by omega
  have ht : vT t := ⟨htl, hnt⟩
  refine Pu.use (toProgram_spec p hsm) ?_
  (try simp (maxSteps := 1000000) (disch := (first | assumption | (apply Ne.symm; assumption))) only [vw0, vw1, vw2, vw3, vw4, vu0, vu1, ↓condV_t, ↓condV_f, cap_nil, allocV, splice, partV, buildV, eqFieldsV, eqS, tabs, TK.agg, reduceCtorEq, Array.toList, List.map_cons, List.map_nil, ↓reduceIte, List.length_map, Nat.reduceAdd, Nat.reduceLeDiff, Nat.reduceLT, Nat.reduceMul, Nat.reduceSub, Option.bind_some, Option.map_some, bndV, numV, eI, eU, e8, eB, AV.isCell, Int.reduceToNat, Int.reduceSub, Int.reduceAdd, Int.reduceNeg])
  refine Pu.use (toNodeS_spec t htl) ?_
  (try simp (maxSteps := 1000000) (disch := (first | assumption | (apply Ne.symm; assumption))) only [vw0, vw1, vw2, vw3, vw4, vu0, vu1, ↓condV_t, ↓condV_f, cap_nil, allocV, splice, partV, buildV, eqFieldsV, eqS, tabs, TK.agg, reduceCtorEq, Array.toList, List.map_cons, List.map_nil, ↓reduceIte, List.length_map, Nat.reduceAdd, Nat.reduceLeDiff, Nat.reduceLT, Nat.reduceMul, Nat.reduceSub, Option.bind_some, Option.map_some, bndV, numV, eI, eU, e8, eB, AV.isCell, Int.reduceToNat, Int.reduceSub, Int.reduceAdd, Int.reduceNeg])
  refine Pu.use (BeforeAll_spec p t hv ht) ?_
  (try simp (maxSteps := 1000000) (disch := (first | assumption | (apply Ne.symm; assumption))) only [vw0, vw1, vw2, vw3, vw4, vu0, vu1, ↓condV_t, ↓condV_f, cap_nil, allocV, splice, partV, buildV, eqFieldsV, eqS, tabs, TK.agg, reduceCtorEq, Array.toList, List.map_cons, List.map_nil, ↓reduceIte, List.length_map, Nat.reduceAdd, Nat.reduceLeDiff, Nat.reduceLT, Nat.reduceMul, Nat.reduceSub, Option.bind_some, Option.map_some, bndV, numV, eI, eU, e8, eB, AV.isCell, Int.reduceToNat, Int.reduceSub, Int.reduceAdd, Int.reduceNeg])
  have gr0 : (H.set r [I p.wide, I p.vars, Ns p.start, Cms p.cmds]) r = some [I p.wide, I p.vars, Ns p.start, Cms p.cmds] := Heap.set_same _ _ _
  generalize H.set r [I p.wide, I p.vars, Ns p.start, Cms p.cmds] = G0 at hle gr0 ⊢
  refine toProgram_live p hsm fun v G1 D1 hP hn1 => ?_
  obtain ⟨x, y, E1, E2, rfl, rfl, hx, hy⟩ := hP
  have hP : LPg p (.agg [I p.wide, I p.vars, x, y]) G1 (E1 ++ E2) := ⟨x, y, E1, E2, rfl, rfl, hx, hy⟩
  obtain ⟨qx, rfl⟩ := LRow.sl hx
  obtain ⟨qy, rfl⟩ := LRow.sl hy
  have gr1 := hn1.le _ _ gr0
  clear hx hy
  (try simp (maxSteps := 1000000) (disch := (first | assumption | (apply Ne.symm; assumption))) only [vw0, vw1, vw2, vw3, vw4, vu0, vu1, ↓condV_t, ↓condV_f, cap_nil, allocV, splice, partV, buildV, eqFieldsV, eqS, tabs, TK.agg, reduceCtorEq, Array.toList, List.map_cons, List.map_nil, ↓reduceIte, List.length_map, Nat.reduceAdd, Nat.reduceLeDiff, Nat.reduceLT, Nat.reduceMul, Nat.reduceSub, Option.bind_some, Option.map_some, bndV, numV, eI, eU, e8, eB, AV.isCell, Int.reduceToNat, Int.reduceSub, Int.reduceAdd, Int.reduceNeg])
  intro a ha
  have ne : ∀ {G : Heap} {y c q}, G y = some c → G q = none → y ≠ q := fun h1 h2 e => by rw [e, h2] at h1; cases h1
  have ra := ne gr1 ha
  (try simp (maxSteps := 1000000) (disch := (first | assumption | (apply Ne.symm; assumption))) only [vw0, vw1, vw2, vw3, vw4, vu0, vu1, ↓condV_t, ↓condV_f, cap_nil, allocV, splice, partV, buildV, eqFieldsV, eqS, tabs, TK.agg, reduceCtorEq, Array.toList, List.map_cons, List.map_nil, ↓reduceIte, List.length_map, Nat.reduceAdd, Nat.reduceLeDiff, Nat.reduceLT, Nat.reduceMul, Nat.reduceSub, Option.bind_some, Option.map_some, bndV, numV, eI, eU, e8, eB, AV.isCell, Int.reduceToNat, Int.reduceSub, Int.reduceAdd, Int.reduceNeg])
  refine toNodeS_live t htl fun v G2 D2 hS hn2 => ?_
  obtain ⟨b, rfl, gb2, rfl⟩ := LN_row hS
  have ga2 := hn2.le _ _ (Heap.set_same (H := G1) (r := a) (b := [I p.wide, I p.vars, .sl qx 2 0 p.start.length, .sl qy 2 0 p.cmds.length]))
  have gr2 := hn2.le _ _ (show (G1.set a _) r = _ by rw [Heap.set_other ra]; exact gr1)
  have hP2 : LPg p (.agg [I p.wide, I p.vars, .sl qx 2 0 p.start.length, .sl qy 2 0 p.cmds.length]) G2 (E1 ++ E2) := hP.local fun y hy bb hbb => hn2.le y bb (by rw [Heap.set_other (fun e => hP.has y hy (by rw [e]; exact ha))]; exact hbb)
  have hb1 := hn2.fr b (List.mem_singleton.2 rfl)
  have g : LG3 p t G2 r a b (.sl qx 2 0 p.start.length) (.sl qy 2 0 p.cmds.length) (E1 ++ E2) := by
    refine ⟨gr2, ga2, gb2, hP2, hn1.nd, ne_of_new hn1 gr0, fun hy => ?_, fun e => ?_⟩
    · rw [Heap.set_other (fun e => hP.has b hy (by rw [e]; exact ha))] at hb1
      exact hP.has b hy hb1
    · subst e
      rw [Heap.set_other ra, gr1] at hb1; cases hb1
  have hle2 : Heap.le H G2 := by
    have l1 : Heap.le G0 (G1.set a [I p.wide, I p.vars, .sl qx 2 0 p.start.length, .sl qy 2 0 p.cmds.length]) := fun y bb hbb => by
      have := hn1.le y bb hbb
      rw [Heap.set_other (ne this ha)]; exact this
    exact Heap.le_trans (Heap.le_trans hle l1) hn2.le
  have hf1 : ∀ y ∈ E1 ++ E2, H y = none := fun y hy => by
    cases hh : H y with
    | none => rfl
    | some bb => rw [← hn1.fr y hy, hle y bb hh]
  have hf2 : H b = none := by
    cases hh : H b with
    | none => rfl
    | some bb =>
      have h1 := hn1.le b bb (hle b bb hh)
      rw [Heap.set_other (ne h1 ha), h1] at hb1; cases hb1
  (try simp (maxSteps := 1000000) (disch := (first | assumption | (apply Ne.symm; assumption))) only [vw0, vw1, vw2, vw3, vw4, vu0, vu1, ↓condV_t, ↓condV_f, cap_nil, allocV, splice, partV, buildV, eqFieldsV, eqS, tabs, TK.agg, reduceCtorEq, Array.toList, List.map_cons, List.map_nil, ↓reduceIte, List.length_map, Nat.reduceAdd, Nat.reduceLeDiff, Nat.reduceLT, Nat.reduceMul, Nat.reduceSub, Option.bind_some, Option.map_some, bndV, numV, eI, eU, e8, eB, AV.isCell, Int.reduceToNat, Int.reduceSub, Int.reduceAdd, Int.reduceNeg, load_at ga2])
  generalize E1 ++ E2 = D1 at g hf1
  clear hn2 hS ga2 gr2 ha gr1 hP hP2 hn1 gr0 hle gb2 hb1
  have htot : totPg p ≤ 1048576 := by omega
  obtain ⟨Gw, hw⟩ := g.wk2
  refine BeforeAll_thaw p t hv ht hw (fun hk => ?_) (fun o hk q hq => ?_)
  · have gr := g.gr
    have ga := g.ga
    rw [hk]
    (try simp (maxSteps := 1000000) (disch := (first | assumption | (apply Ne.symm; assumption))) only [vw0, vw1, vw2, vw3, vw4, vu0, vu1, ↓condV_t, ↓condV_f, cap_nil, allocV, splice, partV, buildV, eqFieldsV, eqS, tabs, TK.agg, reduceCtorEq, Array.toList, List.map_cons, List.map_nil, ↓reduceIte, List.length_map, Nat.reduceAdd, Nat.reduceLeDiff, Nat.reduceLT, Nat.reduceMul, Nat.reduceSub, Option.bind_some, Option.map_some, bndV, numV, eI, eU, e8, eB, AV.isCell, Int.reduceToNat, Int.reduceSub, Int.reduceAdd, Int.reduceNeg, Option.getD_none, Option.isSome_none])
    refine eqN_nil ?_
    (try simp (maxSteps := 1000000) (disch := (first | assumption | (apply Ne.symm; assumption))) only [vw0, vw1, vw2, vw3, vw4, vu0, vu1, ↓condV_t, ↓condV_f, cap_nil, allocV, splice, partV, buildV, eqFieldsV, eqS, tabs, TK.agg, reduceCtorEq, Array.toList, List.map_cons, List.map_nil, ↓reduceIte, List.length_map, Nat.reduceAdd, Nat.reduceLeDiff, Nat.reduceLT, Nat.reduceMul, Nat.reduceSub, Option.bind_some, Option.map_some, bndV, numV, eI, eU, e8, eB, AV.isCell, Int.reduceToNat, Int.reduceSub, Int.reduceAdd, Int.reduceNeg, load_at ga, load_at gr])
    refine Pu.use (toProgram_spec p hsm) ?_
    (try simp (maxSteps := 1000000) (disch := (first | assumption | (apply Ne.symm; assumption))) only [vw0, vw1, vw2, vw3, vw4, vu0, vu1, ↓condV_t, ↓condV_f, cap_nil, allocV, splice, partV, buildV, eqFieldsV, eqS, tabs, TK.agg, reduceCtorEq, Array.toList, List.map_cons, List.map_nil, ↓reduceIte, List.length_map, Nat.reduceAdd, Nat.reduceLeDiff, Nat.reduceLT, Nat.reduceMul, Nat.reduceSub, Option.bind_some, Option.map_some, bndV, numV, eI, eU, e8, eB, AV.isCell, Int.reduceToNat, Int.reduceSub, Int.reduceAdd, Int.reduceNeg, load_at ga])
    refine g.eqP hsm ?_
    (try simp (maxSteps := 1000000) (disch := (first | assumption | (apply Ne.symm; assumption))) only [vw0, vw1, vw2, vw3, vw4, vu0, vu1, ↓condV_t, ↓condV_f, cap_nil, allocV, splice, partV, buildV, eqFieldsV, eqS, tabs, TK.agg, reduceCtorEq, Array.toList, List.map_cons, List.map_nil, ↓reduceIte, List.length_map, Nat.reduceAdd, Nat.reduceLeDiff, Nat.reduceLT, Nat.reduceMul, Nat.reduceSub, Option.bind_some, Option.map_some, bndV, numV, eI, eU, e8, eB, AV.isCell, Int.reduceToNat, Int.reduceSub, Int.reduceAdd, Int.reduceNeg])
    refine Pu.use (toNodeS_spec t htl) ?_
    (try simp (maxSteps := 1000000) (disch := (first | assumption | (apply Ne.symm; assumption))) only [vw0, vw1, vw2, vw3, vw4, vu0, vu1, ↓condV_t, ↓condV_f, cap_nil, allocV, splice, partV, buildV, eqFieldsV, eqS, tabs, TK.agg, reduceCtorEq, Array.toList, List.map_cons, List.map_nil, ↓reduceIte, List.length_map, Nat.reduceAdd, Nat.reduceLeDiff, Nat.reduceLT, Nat.reduceMul, Nat.reduceSub, Option.bind_some, Option.map_some, bndV, numV, eI, eU, e8, eB, AV.isCell, Int.reduceToNat, Int.reduceSub, Int.reduceAdd, Int.reduceNeg])
    refine eqN_row g.gb htl ?_
    (try simp (maxSteps := 1000000) (disch := (first | assumption | (apply Ne.symm; assumption))) only [vw0, vw1, vw2, vw3, vw4, vu0, vu1, ↓condV_t, ↓condV_f, cap_nil, allocV, splice, partV, buildV, eqFieldsV, eqS, tabs, TK.agg, reduceCtorEq, Array.toList, List.map_cons, List.map_nil, ↓reduceIte, List.length_map, Nat.reduceAdd, Nat.reduceLeDiff, Nat.reduceLT, Nat.reduceMul, Nat.reduceSub, Option.bind_some, Option.map_some, bndV, numV, eI, eU, e8, eB, AV.isCell, Int.reduceToNat, Int.reduceSub, Int.reduceAdd, Int.reduceNeg, load_at ga])
    refine markProgram_live p htot g.p1 g.n1 (by omega) (by omega) fun k' G4 hfr hk1 hk2 => ?_
    (try simp (maxSteps := 1000000) (disch := (first | assumption | (apply Ne.symm; assumption))) only [vw0, vw1, vw2, vw3, vw4, vu0, vu1, ↓condV_t, ↓condV_f, cap_nil, allocV, splice, partV, buildV, eqFieldsV, eqS, tabs, TK.agg, reduceCtorEq, Array.toList, List.map_cons, List.map_nil, ↓reduceIte, List.length_map, Nat.reduceAdd, Nat.reduceLeDiff, Nat.reduceLT, Nat.reduceMul, Nat.reduceSub, Option.bind_some, Option.map_some, bndV, numV, eI, eU, e8, eB, AV.isCell, Int.reduceToNat, Int.reduceSub, Int.reduceAdd, Int.reduceNeg])
    refine markNodeS_row t htl (by omega) (by omega) (by rw [hfr b g.nb]; exact g.gb) ?_
    have gr5 : (G4.set b (cN (markN k' t.length))) r = some [I p.wide, I p.vars, Ns p.start, Cms p.cmds] := by rw [Heap.set_other g.rb, hfr r g.nr]; exact gr
    have hle5 : Heap.le H (G4.set b (cN (markN k' t.length))) := fun y bb hbb => by
      rw [Heap.set_other (fun e => by rw [e, hf2] at hbb; cases hbb), hfr y (fun h => by rw [hf1 y h] at hbb; cases hbb)]; exact hle2 y bb hbb
    generalize G4.set b (cN (markN k' t.length)) = G5 at gr5 hle5 ⊢
    (try simp (maxSteps := 1000000) (disch := (first | assumption | (apply Ne.symm; assumption))) only [vw0, vw1, vw2, vw3, vw4, vu0, vu1, ↓condV_t, ↓condV_f, cap_nil, allocV, splice, partV, buildV, eqFieldsV, eqS, tabs, TK.agg, reduceCtorEq, Array.toList, List.map_cons, List.map_nil, ↓reduceIte, List.length_map, Nat.reduceAdd, Nat.reduceLeDiff, Nat.reduceLT, Nat.reduceMul, Nat.reduceSub, Option.bind_some, Option.map_some, bndV, numV, eI, eU, e8, eB, AV.isCell, Int.reduceToNat, Int.reduceSub, Int.reduceAdd, Int.reduceNeg])
    refine ⟨fun h => by omega, fun _ => ?_⟩
    refine eqN_nil ?_
    (try simp (maxSteps := 1000000) (disch := (first | assumption | (apply Ne.symm; assumption))) only [vw0, vw1, vw2, vw3, vw4, vu0, vu1, ↓condV_t, ↓condV_f, cap_nil, allocV, splice, partV, buildV, eqFieldsV, eqS, tabs, TK.agg, reduceCtorEq, Array.toList, List.map_cons, List.map_nil, ↓reduceIte, List.length_map, Nat.reduceAdd, Nat.reduceLeDiff, Nat.reduceLT, Nat.reduceMul, Nat.reduceSub, Option.bind_some, Option.map_some, bndV, numV, eI, eU, e8, eB, AV.isCell, Int.reduceToNat, Int.reduceSub, Int.reduceAdd, Int.reduceNeg])
    refine markN_nil ?_
    (try simp (maxSteps := 1000000) (disch := (first | assumption | (apply Ne.symm; assumption))) only [vw0, vw1, vw2, vw3, vw4, vu0, vu1, ↓condV_t, ↓condV_f, cap_nil, allocV, splice, partV, buildV, eqFieldsV, eqS, tabs, TK.agg, reduceCtorEq, Array.toList, List.map_cons, List.map_nil, ↓reduceIte, List.length_map, Nat.reduceAdd, Nat.reduceLeDiff, Nat.reduceLT, Nat.reduceMul, Nat.reduceSub, Option.bind_some, Option.map_some, bndV, numV, eI, eU, e8, eB, AV.isCell, Int.reduceToNat, Int.reduceSub, Int.reduceAdd, Int.reduceNeg])
    refine held_nilN ?_
    (try simp (maxSteps := 1000000) (disch := (first | assumption | (apply Ne.symm; assumption))) only [vw0, vw1, vw2, vw3, vw4, vu0, vu1, ↓condV_t, ↓condV_f, cap_nil, allocV, splice, partV, buildV, eqFieldsV, eqS, tabs, TK.agg, reduceCtorEq, Array.toList, List.map_cons, List.map_nil, ↓reduceIte, List.length_map, Nat.reduceAdd, Nat.reduceLeDiff, Nat.reduceLT, Nat.reduceMul, Nat.reduceSub, Option.bind_some, Option.map_some, bndV, numV, eI, eU, e8, eB, AV.isCell, Int.reduceToNat, Int.reduceSub, Int.reduceAdd, Int.reduceNeg, load_at gr5])
    refine ⟨fun h => by omega, fun _ => ?_⟩
    refine Pu.use (toProgram_spec p hsm) ?_
    (try simp (maxSteps := 1000000) (disch := (first | assumption | (apply Ne.symm; assumption))) only [vw0, vw1, vw2, vw3, vw4, vu0, vu1, ↓condV_t, ↓condV_f, cap_nil, allocV, splice, partV, buildV, eqFieldsV, eqS, tabs, TK.agg, reduceCtorEq, Array.toList, List.map_cons, List.map_nil, ↓reduceIte, List.length_map, Nat.reduceAdd, Nat.reduceLeDiff, Nat.reduceLT, Nat.reduceMul, Nat.reduceSub, Option.bind_some, Option.map_some, bndV, numV, eI, eU, e8, eB, AV.isCell, Int.reduceToNat, Int.reduceSub, Int.reduceAdd, Int.reduceNeg])
    refine Pu.use (toNodeS_spec t htl) ?_
    (try simp (maxSteps := 1000000) (disch := (first | assumption | (apply Ne.symm; assumption))) only [vw0, vw1, vw2, vw3, vw4, vu0, vu1, ↓condV_t, ↓condV_f, cap_nil, allocV, splice, partV, buildV, eqFieldsV, eqS, tabs, TK.agg, reduceCtorEq, Array.toList, List.map_cons, List.map_nil, ↓reduceIte, List.length_map, Nat.reduceAdd, Nat.reduceLeDiff, Nat.reduceLT, Nat.reduceMul, Nat.reduceSub, Option.bind_some, Option.map_some, bndV, numV, eI, eU, e8, eB, AV.isCell, Int.reduceToNat, Int.reduceSub, Int.reduceAdd, Int.reduceNeg])
    refine BeforeAll_impl p t hv ht (fun _ => ?_) (fun o h => by rw [hk] at h; cases h)
    (try simp (maxSteps := 1000000) (disch := (first | assumption | (apply Ne.symm; assumption))) only [vw0, vw1, vw2, vw3, vw4, vu0, vu1, ↓condV_t, ↓condV_f, cap_nil, allocV, splice, partV, buildV, eqFieldsV, eqS, tabs, TK.agg, reduceCtorEq, Array.toList, List.map_cons, List.map_nil, ↓reduceIte, List.length_map, Nat.reduceAdd, Nat.reduceLeDiff, Nat.reduceLT, Nat.reduceMul, Nat.reduceSub, Option.bind_some, Option.map_some, bndV, numV, eI, eU, e8, eB, AV.isCell, Int.reduceToNat, Int.reduceSub, Int.reduceAdd, Int.reduceNeg])
    refine eqN_nil ?_
    (try simp (maxSteps := 1000000) (disch := (first | assumption | (apply Ne.symm; assumption))) only [vw0, vw1, vw2, vw3, vw4, vu0, vu1, ↓condV_t, ↓condV_f, cap_nil, allocV, splice, partV, buildV, eqFieldsV, eqS, tabs, TK.agg, reduceCtorEq, Array.toList, List.map_cons, List.map_nil, ↓reduceIte, List.length_map, Nat.reduceAdd, Nat.reduceLeDiff, Nat.reduceLT, Nat.reduceMul, Nat.reduceSub, Option.bind_some, Option.map_some, bndV, numV, eI, eU, e8, eB, AV.isCell, Int.reduceToNat, Int.reduceSub, Int.reduceAdd, Int.reduceNeg])
    refine held_nilN ?_
    (try simp (maxSteps := 1000000) (disch := (first | assumption | (apply Ne.symm; assumption))) only [vw0, vw1, vw2, vw3, vw4, vu0, vu1, ↓condV_t, ↓condV_f, cap_nil, allocV, splice, partV, buildV, eqFieldsV, eqS, tabs, TK.agg, reduceCtorEq, Array.toList, List.map_cons, List.map_nil, ↓reduceIte, List.length_map, Nat.reduceAdd, Nat.reduceLeDiff, Nat.reduceLT, Nat.reduceMul, Nat.reduceSub, Option.bind_some, Option.map_some, bndV, numV, eI, eU, e8, eB, AV.isCell, Int.reduceToNat, Int.reduceSub, Int.reduceAdd, Int.reduceNeg])
    first | exact hle5 | exact ⟨fun h => by omega, fun _ => hle5⟩
  · have gm := g.mono (Heap.le_set (b := cN o) hq)
    have hol := resBA_len hk
    have gq : (G2.set q (cN o)) q = some (cN o) := Heap.set_same _ _ _
    have hHq : H q = none := by
      cases hh : H q with
      | none => rfl
      | some bb => rw [hle2 q bb hh] at hq; cases hq
    have hqD : q ∉ D1 := fun h => g.p1.has q h hq
    have hqb : q ≠ b := fun e => by
      have := g.gb; rw [← e, hq] at this; cases this
    have hrq : r ≠ q := ne g.gr hq
    have hle3 : Heap.le H (G2.set q (cN o)) := Heap.le_setN hle2 hHq
    rw [hk]
    generalize G2.set q (cN o) = G3 at gm gq hle3 ⊢
    have gr := gm.gr
    have ga := gm.ga
    (try simp (maxSteps := 1000000) (disch := (first | assumption | (apply Ne.symm; assumption))) only [vw0, vw1, vw2, vw3, vw4, vu0, vu1, ↓condV_t, ↓condV_f, cap_nil, allocV, splice, partV, buildV, eqFieldsV, eqS, tabs, TK.agg, reduceCtorEq, Array.toList, List.map_cons, List.map_nil, ↓reduceIte, List.length_map, Nat.reduceAdd, Nat.reduceLeDiff, Nat.reduceLT, Nat.reduceMul, Nat.reduceSub, Option.bind_some, Option.map_some, bndV, numV, eI, eU, e8, eB, AV.isCell, Int.reduceToNat, Int.reduceSub, Int.reduceAdd, Int.reduceNeg, Option.getD_some, Option.isSome_some])
    refine eqN_row gq (by omega) ?_
    (try simp (maxSteps := 1000000) (disch := (first | assumption | (apply Ne.symm; assumption))) only [vw0, vw1, vw2, vw3, vw4, vu0, vu1, ↓condV_t, ↓condV_f, cap_nil, allocV, splice, partV, buildV, eqFieldsV, eqS, tabs, TK.agg, reduceCtorEq, Array.toList, List.map_cons, List.map_nil, ↓reduceIte, List.length_map, Nat.reduceAdd, Nat.reduceLeDiff, Nat.reduceLT, Nat.reduceMul, Nat.reduceSub, Option.bind_some, Option.map_some, bndV, numV, eI, eU, e8, eB, AV.isCell, Int.reduceToNat, Int.reduceSub, Int.reduceAdd, Int.reduceNeg, load_at ga, load_at gr])
    refine Pu.use (toProgram_spec p hsm) ?_
    (try simp (maxSteps := 1000000) (disch := (first | assumption | (apply Ne.symm; assumption))) only [vw0, vw1, vw2, vw3, vw4, vu0, vu1, ↓condV_t, ↓condV_f, cap_nil, allocV, splice, partV, buildV, eqFieldsV, eqS, tabs, TK.agg, reduceCtorEq, Array.toList, List.map_cons, List.map_nil, ↓reduceIte, List.length_map, Nat.reduceAdd, Nat.reduceLeDiff, Nat.reduceLT, Nat.reduceMul, Nat.reduceSub, Option.bind_some, Option.map_some, bndV, numV, eI, eU, e8, eB, AV.isCell, Int.reduceToNat, Int.reduceSub, Int.reduceAdd, Int.reduceNeg, load_at ga])
    refine gm.eqP hsm ?_
    (try simp (maxSteps := 1000000) (disch := (first | assumption | (apply Ne.symm; assumption))) only [vw0, vw1, vw2, vw3, vw4, vu0, vu1, ↓condV_t, ↓condV_f, cap_nil, allocV, splice, partV, buildV, eqFieldsV, eqS, tabs, TK.agg, reduceCtorEq, Array.toList, List.map_cons, List.map_nil, ↓reduceIte, List.length_map, Nat.reduceAdd, Nat.reduceLeDiff, Nat.reduceLT, Nat.reduceMul, Nat.reduceSub, Option.bind_some, Option.map_some, bndV, numV, eI, eU, e8, eB, AV.isCell, Int.reduceToNat, Int.reduceSub, Int.reduceAdd, Int.reduceNeg])
    refine Pu.use (toNodeS_spec t htl) ?_
    (try simp (maxSteps := 1000000) (disch := (first | assumption | (apply Ne.symm; assumption))) only [vw0, vw1, vw2, vw3, vw4, vu0, vu1, ↓condV_t, ↓condV_f, cap_nil, allocV, splice, partV, buildV, eqFieldsV, eqS, tabs, TK.agg, reduceCtorEq, Array.toList, List.map_cons, List.map_nil, ↓reduceIte, List.length_map, Nat.reduceAdd, Nat.reduceLeDiff, Nat.reduceLT, Nat.reduceMul, Nat.reduceSub, Option.bind_some, Option.map_some, bndV, numV, eI, eU, e8, eB, AV.isCell, Int.reduceToNat, Int.reduceSub, Int.reduceAdd, Int.reduceNeg])
    refine eqN_row gm.gb htl ?_
    (try simp (maxSteps := 1000000) (disch := (first | assumption | (apply Ne.symm; assumption))) only [vw0, vw1, vw2, vw3, vw4, vu0, vu1, ↓condV_t, ↓condV_f, cap_nil, allocV, splice, partV, buildV, eqFieldsV, eqS, tabs, TK.agg, reduceCtorEq, Array.toList, List.map_cons, List.map_nil, ↓reduceIte, List.length_map, Nat.reduceAdd, Nat.reduceLeDiff, Nat.reduceLT, Nat.reduceMul, Nat.reduceSub, Option.bind_some, Option.map_some, bndV, numV, eI, eU, e8, eB, AV.isCell, Int.reduceToNat, Int.reduceSub, Int.reduceAdd, Int.reduceNeg, load_at ga])
    refine markProgram_live p htot gm.p1 gm.n1 (by omega) (by omega) fun k' G4 hfr hk1 hk2 => ?_
    (try simp (maxSteps := 1000000) (disch := (first | assumption | (apply Ne.symm; assumption))) only [vw0, vw1, vw2, vw3, vw4, vu0, vu1, ↓condV_t, ↓condV_f, cap_nil, allocV, splice, partV, buildV, eqFieldsV, eqS, tabs, TK.agg, reduceCtorEq, Array.toList, List.map_cons, List.map_nil, ↓reduceIte, List.length_map, Nat.reduceAdd, Nat.reduceLeDiff, Nat.reduceLT, Nat.reduceMul, Nat.reduceSub, Option.bind_some, Option.map_some, bndV, numV, eI, eU, e8, eB, AV.isCell, Int.reduceToNat, Int.reduceSub, Int.reduceAdd, Int.reduceNeg])
    refine markNodeS_row t htl (by omega) (by omega) (by rw [hfr b gm.nb]; exact gm.gb) ?_
    have gr5 : (G4.set b (cN (markN k' t.length))) r = some [I p.wide, I p.vars, Ns p.start, Cms p.cmds] := by rw [Heap.set_other g.rb, hfr r gm.nr]; exact gr
    have gq5 : (G4.set b (cN (markN k' t.length))) q = some (cN o) := by rw [Heap.set_other hqb, hfr q hqD]; exact gq
    have hle5 : Heap.le H (G4.set b (cN (markN k' t.length))) := fun y bb hbb => by
      rw [Heap.set_other (fun e => by rw [e, hf2] at hbb; cases hbb), hfr y (fun h => by rw [hf1 y h] at hbb; cases hbb)]; exact hle3 y bb hbb
    generalize G4.set b (cN (markN k' t.length)) = G5 at gr5 gq5 hle5 ⊢
    (try simp (maxSteps := 1000000) (disch := (first | assumption | (apply Ne.symm; assumption))) only [vw0, vw1, vw2, vw3, vw4, vu0, vu1, ↓condV_t, ↓condV_f, cap_nil, allocV, splice, partV, buildV, eqFieldsV, eqS, tabs, TK.agg, reduceCtorEq, Array.toList, List.map_cons, List.map_nil, ↓reduceIte, List.length_map, Nat.reduceAdd, Nat.reduceLeDiff, Nat.reduceLT, Nat.reduceMul, Nat.reduceSub, Option.bind_some, Option.map_some, bndV, numV, eI, eU, e8, eB, AV.isCell, Int.reduceToNat, Int.reduceSub, Int.reduceAdd, Int.reduceNeg])
    refine ⟨fun h => by omega, fun _ => ?_⟩
    refine eqN_row gq5 (by omega) ?_
    (try simp (maxSteps := 1000000) (disch := (first | assumption | (apply Ne.symm; assumption))) only [vw0, vw1, vw2, vw3, vw4, vu0, vu1, ↓condV_t, ↓condV_f, cap_nil, allocV, splice, partV, buildV, eqFieldsV, eqS, tabs, TK.agg, reduceCtorEq, Array.toList, List.map_cons, List.map_nil, ↓reduceIte, List.length_map, Nat.reduceAdd, Nat.reduceLeDiff, Nat.reduceLT, Nat.reduceMul, Nat.reduceSub, Option.bind_some, Option.map_some, bndV, numV, eI, eU, e8, eB, AV.isCell, Int.reduceToNat, Int.reduceSub, Int.reduceAdd, Int.reduceNeg])
    refine markNodeS_row o (by omega) (by omega) (by omega) gq5 ?_
    (try simp (maxSteps := 1000000) (disch := (first | assumption | (apply Ne.symm; assumption))) only [vw0, vw1, vw2, vw3, vw4, vu0, vu1, ↓condV_t, ↓condV_f, cap_nil, allocV, splice, partV, buildV, eqFieldsV, eqS, tabs, TK.agg, reduceCtorEq, Array.toList, List.map_cons, List.map_nil, ↓reduceIte, List.length_map, Nat.reduceAdd, Nat.reduceLeDiff, Nat.reduceLT, Nat.reduceMul, Nat.reduceSub, Option.bind_some, Option.map_some, bndV, numV, eI, eU, e8, eB, AV.isCell, Int.reduceToNat, Int.reduceSub, Int.reduceAdd, Int.reduceNeg])
    refine held_rowN (n := o.length) (Heap.set_same _ _ _) (by omega) ?_
    have gr6 : (G5.set q (cN (markN 1 o.length))) r = some [I p.wide, I p.vars, Ns p.start, Cms p.cmds] := by rw [Heap.set_other hrq]; exact gr5
    (try simp (maxSteps := 1000000) (disch := (first | assumption | (apply Ne.symm; assumption))) only [vw0, vw1, vw2, vw3, vw4, vu0, vu1, ↓condV_t, ↓condV_f, cap_nil, allocV, splice, partV, buildV, eqFieldsV, eqS, tabs, TK.agg, reduceCtorEq, Array.toList, List.map_cons, List.map_nil, ↓reduceIte, List.length_map, Nat.reduceAdd, Nat.reduceLeDiff, Nat.reduceLT, Nat.reduceMul, Nat.reduceSub, Option.bind_some, Option.map_some, bndV, numV, eI, eU, e8, eB, AV.isCell, Int.reduceToNat, Int.reduceSub, Int.reduceAdd, Int.reduceNeg, load_at gr6])
    refine ⟨fun h => by omega, fun _ => ?_⟩
    have hle6 : Heap.le H (G5.set q (cN (markN 1 o.length))) := Heap.le_setN hle5 hHq
    have gq6 : (G5.set q (cN (markN 1 o.length))) q = some (cN (markN 1 o.length)) := Heap.set_same _ _ _
    generalize G5.set q (cN (markN 1 o.length)) = G6 at hle6 gq6 ⊢
    refine Pu.use (toProgram_spec p hsm) ?_
    (try simp (maxSteps := 1000000) (disch := (first | assumption | (apply Ne.symm; assumption))) only [vw0, vw1, vw2, vw3, vw4, vu0, vu1, ↓condV_t, ↓condV_f, cap_nil, allocV, splice, partV, buildV, eqFieldsV, eqS, tabs, TK.agg, reduceCtorEq, Array.toList, List.map_cons, List.map_nil, ↓reduceIte, List.length_map, Nat.reduceAdd, Nat.reduceLeDiff, Nat.reduceLT, Nat.reduceMul, Nat.reduceSub, Option.bind_some, Option.map_some, bndV, numV, eI, eU, e8, eB, AV.isCell, Int.reduceToNat, Int.reduceSub, Int.reduceAdd, Int.reduceNeg])
    refine Pu.use (toNodeS_spec t htl) ?_
    (try simp (maxSteps := 1000000) (disch := (first | assumption | (apply Ne.symm; assumption))) only [vw0, vw1, vw2, vw3, vw4, vu0, vu1, ↓condV_t, ↓condV_f, cap_nil, allocV, splice, partV, buildV, eqFieldsV, eqS, tabs, TK.agg, reduceCtorEq, Array.toList, List.map_cons, List.map_nil, ↓reduceIte, List.length_map, Nat.reduceAdd, Nat.reduceLeDiff, Nat.reduceLT, Nat.reduceMul, Nat.reduceSub, Option.bind_some, Option.map_some, bndV, numV, eI, eU, e8, eB, AV.isCell, Int.reduceToNat, Int.reduceSub, Int.reduceAdd, Int.reduceNeg])
    refine BeforeAll_impl p t hv ht (fun h => by rw [hk] at h; cases h) (fun o2 h q2 hq2 => ?_)
    rw [hk] at h
    cases h
    (try simp (maxSteps := 1000000) (disch := (first | assumption | (apply Ne.symm; assumption))) only [vw0, vw1, vw2, vw3, vw4, vu0, vu1, ↓condV_t, ↓condV_f, cap_nil, allocV, splice, partV, buildV, eqFieldsV, eqS, tabs, TK.agg, reduceCtorEq, Array.toList, List.map_cons, List.map_nil, ↓reduceIte, List.length_map, Nat.reduceAdd, Nat.reduceLeDiff, Nat.reduceLT, Nat.reduceMul, Nat.reduceSub, Option.bind_some, Option.map_some, bndV, numV, eI, eU, e8, eB, AV.isCell, Int.reduceToNat, Int.reduceSub, Int.reduceAdd, Int.reduceNeg])
    refine eqN_row (Heap.set_same _ _ _) (by omega) ?_
    (try simp (maxSteps := 1000000) (disch := (first | assumption | (apply Ne.symm; assumption))) only [vw0, vw1, vw2, vw3, vw4, vu0, vu1, ↓condV_t, ↓condV_f, cap_nil, allocV, splice, partV, buildV, eqFieldsV, eqS, tabs, TK.agg, reduceCtorEq, Array.toList, List.map_cons, List.map_nil, ↓reduceIte, List.length_map, Nat.reduceAdd, Nat.reduceLeDiff, Nat.reduceLT, Nat.reduceMul, Nat.reduceSub, Option.bind_some, Option.map_some, bndV, numV, eI, eU, e8, eB, AV.isCell, Int.reduceToNat, Int.reduceSub, Int.reduceAdd, Int.reduceNeg])
    have hne : q ≠ q2 := ne gq6 hq2
    refine held_rowN (n := o.length) (by rw [Heap.set_other hne]; exact gq6) (by omega) ?_
    have hle7 : Heap.le H (G6.set q2 (cN o)) := fun y bb hbb => by
      have := hle6 y bb hbb
      rw [Heap.set_other (ne this hq2)]; exact this
    (try simp (maxSteps := 1000000) (disch := (first | assumption | (apply Ne.symm; assumption))) only [vw0, vw1, vw2, vw3, vw4, vu0, vu1, ↓condV_t, ↓condV_f, cap_nil, allocV, splice, partV, buildV, eqFieldsV, eqS, tabs, TK.agg, reduceCtorEq, Array.toList, List.map_cons, List.map_nil, ↓reduceIte, List.length_map, Nat.reduceAdd, Nat.reduceLeDiff, Nat.reduceLT, Nat.reduceMul, Nat.reduceSub, Option.bind_some, Option.map_some, bndV, numV, eI, eU, e8, eB, AV.isCell, Int.reduceToNat, Int.reduceSub, Int.reduceAdd, Int.reduceNeg])
    first | exact hle7 | exact ⟨fun h => by omega, fun _ => hle7⟩
end Go.Proofs.Ytlcnoflmlonikaa
