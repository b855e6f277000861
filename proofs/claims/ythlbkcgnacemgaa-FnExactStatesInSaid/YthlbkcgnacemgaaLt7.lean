/- The law on the states of a class. -/
import Derived.Test.YthlbkcgnacemgaaLt6
namespace Go.Proofs.Ythlbkcgnacemgaa
open Go Go.Sep Go.Pt
set_option linter.unusedSimpArgs false
set_option linter.unusedVariables false
attribute [local irreducible] CallT

/-- The two arguments, and copies of one's own. -/
structure LG2 (p : Pg) (of : List Int) (G : Heap) (r s a b : Nat) (x y z : AV) (D1 D2 : List Nat) : Prop where
  gr : G r = some [I p.wide, I p.vars, Ns p.start, Cms p.cmds]
  gs : G s = some [Is of]
  ga : G a = some [I p.wide, I p.vars, x, y]
  gb : G b = some [z]
  p1 : LPg p (.agg [I p.wide, I p.vars, x, y]) G D1
  p2 : LSt of (.agg [z]) G D2
  n1 : D1.Nodup
  n2 : D2.Nodup
  dj : ∀ y ∈ D1, y ∉ D2
  nr : r ∉ D1 ∧ r ∉ D2
  ns : s ∉ D1 ∧ s ∉ D2
  nb : b ∉ D1 ∧ b ∉ D2
theorem LG2.mono {p : Pg} {of : List Int} {G G' : Heap} {r s a b : Nat} {x y z : AV} {D1 D2 : List Nat} (g : LG2 p of G r s a b x y z D1 D2) (h : Heap.le G G') : LG2 p of G' r s a b x y z D1 D2 :=
  ⟨h _ _ g.gr, h _ _ g.gs, h _ _ g.ga, h _ _ g.gb, g.p1.local (fun y _ b hb => h y b hb), g.p2.local (fun y _ b hb => h y b hb), g.n1, g.n2, g.dj, g.nr, g.ns, g.nb⟩
theorem LG2.wk {p : Pg} {of : List Int} {G : Heap} {r s a b : Nat} {x y z : AV} {D1 D2 : List Nat} (g : LG2 p of G r s a b x y z D1 D2) (c : Int) : ∃ G1, Wk (.tup [.agg [I p.wide, I p.vars, x, y], .agg [z], I c]) G (.tup [aPg p, aS of, I c]) G1 := by
  obtain ⟨G1, w1, f1⟩ := g.p1.wk g.n1 (fun v => .tup [v, .agg [z], I c]) (fun h => .tup (.cons h (.cons (.same _) (.cons (.same _) .nil))))
  have h2 := g.p2.local (G' := G1) fun y hy b hb => by rw [f1 y (fun h1 => g.dj y h1 hy)]; exact hb
  obtain ⟨G2, w2, _⟩ := h2.wk g.n2 (fun v => .tup [aPg p, v, I c]) (fun h => .tup (.cons (.same _) (.cons h (.cons (.same _) .nil))))
  exact ⟨G2, .trans w1 w2⟩
/-- The copies compared. -/
theorem LG2.eqP {p : Pg} {of : List Int} {G : Heap} {r s a b : Nat} {x y z : AV} {D1 D2 : List Nat} (g : LG2 p of G r s a b x y z D1 D2) (hp : smPg p) {K : AV → Heap → Prop} (h : K (B true) G) : CallT Try.prog 13 [.agg [I p.wide, I p.vars, x, y], aPg p] G K := by
  obtain ⟨G1, w1, f1⟩ := g.p1.wk g.n1 (fun v => .tup [v, aPg p]) (fun h => .tup (.cons h (.cons (.same _) .nil)))
  exact Pu.thaw (eqProgram_spec p hp) (.bool _) w1 h
theorem LG2.eqS {p : Pg} {of : List Int} {G : Heap} {r s a b : Nat} {x y z : AV} {D1 D2 : List Nat} (g : LG2 p of G r s a b x y z D1 D2) (hl : of.length ≤ 1048576) {K : AV → Heap → Prop} (h : K (B true) G) : CallT Try.prog 14 [.agg [z], aS of] G K := by
  obtain ⟨G1, w1, f1⟩ := g.p2.wk g.n2 (fun v => .tup [v, aS of]) (fun h => .tup (.cons h (.cons (.same _) .nil)))
  exact Pu.thaw (eqSight_spec of hl) (.bool _) w1 h
/-- A row of one's own, compared. -/
theorem eqI_row {q : Nat} {xs : List Int} {G : Heap} (hq : G q = some (cP fI xs)) (hl : xs.length ≤ 1048576) {K : AV → Heap → Prop} (h : K (B true) G) : CallT Try.prog 21 [rowP q xs, Is xs] G K :=
  Pu.thaw (eqIntS_spec xs hl) (.bool _) (Wk.frz (r := q) (sz := 1) (es := xs.map fun n => [fI n]) (v' := .tup [vP fI xs, Is xs]) (by omega) (by rw [flat_P]; exact hq) (szP _ _) (.tup (.cons frz_row (.cons (.same _) .nil)))) h
theorem eqI_nil {G : Heap} {K : AV → Heap → Prop} (h : K (B true) G) : CallT Try.prog 21 [.p .nil, Is []] G K :=
  CallT.args ((eqIntS_spec [] (by simp)).use h) ⟨.nil, .refl _, trivial⟩
theorem held_row {q n : Nat} {G : Heap} (hq : G q = some (cells ((marked 1 n).map eI))) (hn : n ≤ 1048576) {K : AV → Heap → Prop} (h : K (I (1 + n)) G) : CallT Try.prog 25 [.sl q 1 0 n, I 1] G K := by
  refine Pu.thaw (heldIntS_spec n hn (by omega) (by omega)) (.int _ _) (Wk.frz (r := q) (sz := 1) (es := (marked 1 n).map eI) (v' := .tup [Is (marked 1 n), I 1]) (by omega) hq (szI _) (.tup (.cons ?_ (.cons (.same _) .nil)))) h
  have : FrzR q 1 ((marked 1 n).map eI) (.sl q 1 0 ((marked 1 n).map eI).length) (.p (.sl ((marked 1 n).map eI))) := .here
  rwa [List.length_map, marked_len] at this
theorem held_nil {G : Heap} {K : AV → Heap → Prop} (h : K (I 1) G) : CallT Try.prog 25 [.p .nil, I 1] G K :=
  CallT.args ((heldIntS_spec 0 (by omega) (k := 1) (by omega) (by omega)).use (by simpa using h)) ⟨.nil, .refl _, trivial⟩
theorem markI_nil {G : Heap} {K : AV → Heap → Prop} (h : K (I 1) G) : CallT Try.prog 24 [.p .nil, I 1] G K := by
  refine CallT.args (args' := [Is [], I 1]) ?_ ⟨.nil, .refl _, trivial⟩
  refine W24_ok ?_; simp (maxSteps := 1000000) (disch := (first | assumption | (apply Ne.symm; assumption))) only [W24, vw0, vw1, vw2, vw3, vw4, vu0, vu1, ↓condV_t, ↓condV_f, allocV, splice, partV, buildV, eqFieldsV, eqS, tabs, TK.agg, reduceCtorEq, Array.toList, List.map_cons, List.map_nil, ↓reduceIte, List.length_map, Nat.reduceAdd, Nat.reduceLeDiff, Nat.reduceLT, Nat.reduceMul, Nat.reduceSub, Option.bind_some, Option.map_some, bndV, numV, eI, eU, e8, eB, AV.isCell, Int.reduceToNat, Int.reduceSub, Int.reduceAdd, Int.reduceNeg]
  refine L24_0_rule () (fun _ => I 1) (fun _ => I 0) (fun _ => G) (fun _ => True) (fun _ => 0) ⟨trivial, .refl _, .refl _, Heap.le_refl _⟩ ?_
  rintro ⟨⟩ _
  (try simp (maxSteps := 1000000) (disch := (first | assumption | (apply Ne.symm; assumption))) only [vw0, vw1, vw2, vw3, vw4, vu0, vu1, ↓condV_t, ↓condV_f, allocV, splice, partV, buildV, eqFieldsV, eqS, tabs, TK.agg, reduceCtorEq, Array.toList, List.map_cons, List.map_nil, ↓reduceIte, List.length_map, Nat.reduceAdd, Nat.reduceLeDiff, Nat.reduceLT, Nat.reduceMul, Nat.reduceSub, Option.bind_some, Option.map_some, bndV, numV, eI, eU, e8, eB, AV.isCell, Int.reduceToNat, Int.reduceSub, Int.reduceAdd, Int.reduceNeg, B24_0])
  first | exact h | simpa using h

theorem FnExactStatesIn_true {p : Pg} {of : List Int} {c : Int} (hok : okPg p) (hn : nPg p) (ho : ok of.length) : Pu Try.prog 6 [aPg p, aS of, I c] (B true) := by
  refine Pu.of fun H => ?_
  refine W6_ok ?_; simp (maxSteps := 1000000) (disch := (first | assumption | (apply Ne.symm; assumption))) only [W6, vw0, vw1, vw2, vw3, vw4, vu0, vu1, ↓condV_t, ↓condV_f, allocV, splice, partV, buildV, eqFieldsV, eqS, tabs, TK.agg, reduceCtorEq, Array.toList, List.map_cons, List.map_nil, ↓reduceIte, List.length_map, Nat.reduceAdd, Nat.reduceLeDiff, Nat.reduceLT, Nat.reduceMul, Nat.reduceSub, Option.bind_some, Option.map_some, bndV, numV, eI, eU, e8, eB, AV.isCell, Int.reduceToNat, Int.reduceSub, Int.reduceAdd, Int.reduceNeg]
  intro r hr s n3 hs
  have nn3 : r ≠ s := Ne.symm n3
  have hle := Heap.le_setN (b := [Is of]) (Heap.le_set (b := [I p.wide, I p.vars, Ns p.start, Cms p.cmds]) hr) hs
  (try simp (maxSteps := 1000000) (disch := (first | assumption | (apply Ne.symm; assumption))) only [vw0, vw1, vw2, vw3, vw4, vu0, vu1, ↓condV_t, ↓condV_f, allocV, splice, partV, buildV, eqFieldsV, eqS, tabs, TK.agg, reduceCtorEq, Array.toList, List.map_cons, List.map_nil, ↓reduceIte, List.length_map, Nat.reduceAdd, Nat.reduceLeDiff, Nat.reduceLT, Nat.reduceMul, Nat.reduceSub, Option.bind_some, Option.map_some, bndV, numV, eI, eU, e8, eB, AV.isCell, Int.reduceToNat, Int.reduceSub, Int.reduceAdd, Int.reduceNeg])
  refine Pu.use (szProgram_spec p 1048576 (by omega) (by omega) hok) ?_
  (try simp (maxSteps := 1000000) (disch := (first | assumption | (apply Ne.symm; assumption))) only [vw0, vw1, vw2, vw3, vw4, vu0, vu1, ↓condV_t, ↓condV_f, allocV, splice, partV, buildV, eqFieldsV, eqS, tabs, TK.agg, reduceCtorEq, Array.toList, List.map_cons, List.map_nil, ↓reduceIte, List.length_map, Nat.reduceAdd, Nat.reduceLeDiff, Nat.reduceLT, Nat.reduceMul, Nat.reduceSub, Option.bind_some, Option.map_some, bndV, numV, eI, eU, e8, eB, AV.isCell, Int.reduceToNat, Int.reduceSub, Int.reduceAdd, Int.reduceNeg])
  refine ⟨fun _ => hle, fun h1 => ?_⟩
  obtain ⟨t1, e1⟩ := szR_nonneg h1
  rw [e1]
  have hsm := sm_of_tot (by omega : (totPg p : Int) ≤ 1048576)
  have hv := v_of hsm hn
  refine Pu.use (szSight_spec of _ (by omega) (by omega) ho) ?_
  (try simp (maxSteps := 1000000) (disch := (first | assumption | (apply Ne.symm; assumption))) only [vw0, vw1, vw2, vw3, vw4, vu0, vu1, ↓condV_t, ↓condV_f, allocV, splice, partV, buildV, eqFieldsV, eqS, tabs, TK.agg, reduceCtorEq, Array.toList, List.map_cons, List.map_nil, ↓reduceIte, List.length_map, Nat.reduceAdd, Nat.reduceLeDiff, Nat.reduceLT, Nat.reduceMul, Nat.reduceSub, Option.bind_some, Option.map_some, bndV, numV, eI, eU, e8, eB, AV.isCell, Int.reduceToNat, Int.reduceSub, Int.reduceAdd, Int.reduceNeg])
  refine ⟨fun _ => hle, fun h2 => ?_⟩
  obtain ⟨t2, _⟩ := szR_nonneg h2
  have hof : of.length ≤ 1048576 := by omega
  refine Pu.use (toProgram_spec p hsm) ?_
  (try simp (maxSteps := 1000000) (disch := (first | assumption | (apply Ne.symm; assumption))) only [vw0, vw1, vw2, vw3, vw4, vu0, vu1, ↓condV_t, ↓condV_f, allocV, splice, partV, buildV, eqFieldsV, eqS, tabs, TK.agg, reduceCtorEq, Array.toList, List.map_cons, List.map_nil, ↓reduceIte, List.length_map, Nat.reduceAdd, Nat.reduceLeDiff, Nat.reduceLT, Nat.reduceMul, Nat.reduceSub, Option.bind_some, Option.map_some, bndV, numV, eI, eU, e8, eB, AV.isCell, Int.reduceToNat, Int.reduceSub, Int.reduceAdd, Int.reduceNeg])
  refine Pu.use (toSight_spec of hof) ?_
  (try simp (maxSteps := 1000000) (disch := (first | assumption | (apply Ne.symm; assumption))) only [vw0, vw1, vw2, vw3, vw4, vu0, vu1, ↓condV_t, ↓condV_f, allocV, splice, partV, buildV, eqFieldsV, eqS, tabs, TK.agg, reduceCtorEq, Array.toList, List.map_cons, List.map_nil, ↓reduceIte, List.length_map, Nat.reduceAdd, Nat.reduceLeDiff, Nat.reduceLT, Nat.reduceMul, Nat.reduceSub, Option.bind_some, Option.map_some, bndV, numV, eI, eU, e8, eB, AV.isCell, Int.reduceToNat, Int.reduceSub, Int.reduceAdd, Int.reduceNeg])
  refine Pu.use (StatesIn_spec p of c hv hof) ?_
  (try simp (maxSteps := 1000000) (disch := (first | assumption | (apply Ne.symm; assumption))) only [vw0, vw1, vw2, vw3, vw4, vu0, vu1, ↓condV_t, ↓condV_f, allocV, splice, partV, buildV, eqFieldsV, eqS, tabs, TK.agg, reduceCtorEq, Array.toList, List.map_cons, List.map_nil, ↓reduceIte, List.length_map, Nat.reduceAdd, Nat.reduceLeDiff, Nat.reduceLT, Nat.reduceMul, Nat.reduceSub, Option.bind_some, Option.map_some, bndV, numV, eI, eU, e8, eB, AV.isCell, Int.reduceToNat, Int.reduceSub, Int.reduceAdd, Int.reduceNeg])
  have gr0 : ((H.set r [I p.wide, I p.vars, Ns p.start, Cms p.cmds]).set s [Is of]) r = some [I p.wide, I p.vars, Ns p.start, Cms p.cmds] := by rw [Heap.set_other nn3, Heap.set_same]
  have gs0 : ((H.set r [I p.wide, I p.vars, Ns p.start, Cms p.cmds]).set s [Is of]) s = some [Is of] := Heap.set_same _ _ _
  generalize (H.set r [I p.wide, I p.vars, Ns p.start, Cms p.cmds]).set s [Is of] = G0 at hle gr0 gs0 ⊢
  refine toProgram_live p hsm fun v G1 D1 hP hn1 => ?_
  obtain ⟨x, y, E1, E2, rfl, rfl, hx, hy⟩ := hP
  have hP : LPg p (.agg [I p.wide, I p.vars, x, y]) G1 (E1 ++ E2) := ⟨x, y, E1, E2, rfl, rfl, hx, hy⟩
  obtain ⟨qx, rfl⟩ := LRow.sl hx
  obtain ⟨qy, rfl⟩ := LRow.sl hy
  have gr1 := hn1.le _ _ gr0
  have gs1 := hn1.le _ _ gs0
  clear hx hy
  (try simp (maxSteps := 1000000) (disch := (first | assumption | (apply Ne.symm; assumption))) only [vw0, vw1, vw2, vw3, vw4, vu0, vu1, ↓condV_t, ↓condV_f, allocV, splice, partV, buildV, eqFieldsV, eqS, tabs, TK.agg, reduceCtorEq, Array.toList, List.map_cons, List.map_nil, ↓reduceIte, List.length_map, Nat.reduceAdd, Nat.reduceLeDiff, Nat.reduceLT, Nat.reduceMul, Nat.reduceSub, Option.bind_some, Option.map_some, bndV, numV, eI, eU, e8, eB, AV.isCell, Int.reduceToNat, Int.reduceSub, Int.reduceAdd, Int.reduceNeg])
  intro a ha
  have ne : ∀ {G : Heap} {y c q}, G y = some c → G q = none → y ≠ q := fun h1 h2 e => by rw [e, h2] at h1; cases h1
  have sa := ne gs1 ha
  have ra := ne gr1 ha
  (try simp (maxSteps := 1000000) (disch := (first | assumption | (apply Ne.symm; assumption))) only [vw0, vw1, vw2, vw3, vw4, vu0, vu1, ↓condV_t, ↓condV_f, allocV, splice, partV, buildV, eqFieldsV, eqS, tabs, TK.agg, reduceCtorEq, Array.toList, List.map_cons, List.map_nil, ↓reduceIte, List.length_map, Nat.reduceAdd, Nat.reduceLeDiff, Nat.reduceLT, Nat.reduceMul, Nat.reduceSub, Option.bind_some, Option.map_some, bndV, numV, eI, eU, e8, eB, AV.isCell, Int.reduceToNat, Int.reduceSub, Int.reduceAdd, Int.reduceNeg, load_at gs1])
  refine toSight_live of hof fun v G2 D2 hS hn2 => ?_
  obtain ⟨z, rfl, hz⟩ := hS
  have hS : LSt of (.agg [z]) G2 D2 := ⟨z, rfl, hz⟩
  obtain ⟨qz, rfl⟩ := LRow.sl hz
  clear hz
  (try simp (maxSteps := 1000000) (disch := (first | assumption | (apply Ne.symm; assumption))) only [vw0, vw1, vw2, vw3, vw4, vu0, vu1, ↓condV_t, ↓condV_f, allocV, splice, partV, buildV, eqFieldsV, eqS, tabs, TK.agg, reduceCtorEq, Array.toList, List.map_cons, List.map_nil, ↓reduceIte, List.length_map, Nat.reduceAdd, Nat.reduceLeDiff, Nat.reduceLT, Nat.reduceMul, Nat.reduceSub, Option.bind_some, Option.map_some, bndV, numV, eI, eU, e8, eB, AV.isCell, Int.reduceToNat, Int.reduceSub, Int.reduceAdd, Int.reduceNeg])
  intro b hb
  have ga2 := hn2.le _ _ (Heap.set_same (H := G1) (r := a) (b := [I p.wide, I p.vars, .sl qx 2 0 p.start.length, .sl qy 2 0 p.cmds.length]))
  have gr2 := hn2.le _ _ (show (G1.set a _) r = _ by rw [Heap.set_other ra]; exact gr1)
  have gs2 := hn2.le _ _ (show (G1.set a _) s = _ by rw [Heap.set_other sa]; exact gs1)
  have ab := ne ga2 hb
  have rb := ne gr2 hb
  have sb := ne gs2 hb
  have hbD : ∀ {D : List Nat}, (∀ y ∈ D, G2 y ≠ none) → b ∉ D := fun h hh => h b hh hb
  have g : LG2 p of (G2.set b [.sl qz 1 0 of.length]) r s a b (.sl qx 2 0 p.start.length) (.sl qy 2 0 p.cmds.length) (.sl qz 1 0 of.length) (E1 ++ E2) D2 := by
    have hP2 : LPg p (.agg [I p.wide, I p.vars, .sl qx 2 0 p.start.length, .sl qy 2 0 p.cmds.length]) G2 (E1 ++ E2) := hP.local fun y hy bb hbb => hn2.le y bb (by rw [Heap.set_other (fun e => hP.has y hy (by rw [e]; exact ha))]; exact hbb)
    refine ⟨by rw [Heap.set_other rb]; exact gr2, by rw [Heap.set_other sb]; exact gs2, by rw [Heap.set_other ab]; exact ga2, Heap.set_same _ _ _, hP2.local fun y hy bb hbb => ?_, hS.local fun y hy bb hbb => ?_, hn1.nd, hn2.nd, fun y hy hy2 => ?_, ⟨ne_of_new hn1 gr0, ne_of_new hn2 (by rw [Heap.set_other ra]; exact gr1)⟩, ⟨ne_of_new hn1 gs0, ne_of_new hn2 (by rw [Heap.set_other sa]; exact gs1)⟩, ⟨hbD hP2.has, hbD hS.has⟩⟩
    · rw [Heap.set_other (fun e => hP2.has y hy (by rw [e]; exact hb))]; exact hbb
    · rw [Heap.set_other (fun e => hS.has y hy (by rw [e]; exact hb))]; exact hbb
    · have h1 := hn2.fr y hy2
      rw [Heap.set_other (fun e => hP.has y hy (by rw [e]; exact ha))] at h1
      exact hP.has y hy h1
  have hle2 : Heap.le H (G2.set b [.sl qz 1 0 of.length]) := by
    have l1 : Heap.le G0 (G1.set a [I p.wide, I p.vars, .sl qx 2 0 p.start.length, .sl qy 2 0 p.cmds.length]) := fun y bb hbb => by
      have := hn1.le y bb hbb
      rw [Heap.set_other (ne this ha)]; exact this
    have l2 := Heap.le_trans (Heap.le_trans hle l1) hn2.le
    intro y bb hbb
    have := l2 y bb hbb
    rw [Heap.set_other (ne this hb)]; exact this
  have hf1 : ∀ y ∈ E1 ++ E2, H y = none := fun y hy => by
    cases hh : H y with
    | none => rfl
    | some bb => rw [← hn1.fr y hy, hle y bb hh]
  have hf2 : ∀ y ∈ D2, H y = none := fun y hy => by
    cases hh : H y with
    | none => rfl
    | some bb =>
      have h1 := hn1.le y bb (hle y bb hh)
      have h2 := hn2.fr y hy
      rw [Heap.set_other (ne h1 ha), h1] at h2; cases h2
  (try simp (maxSteps := 1000000) (disch := (first | assumption | (apply Ne.symm; assumption))) only [vw0, vw1, vw2, vw3, vw4, vu0, vu1, ↓condV_t, ↓condV_f, allocV, splice, partV, buildV, eqFieldsV, eqS, tabs, TK.agg, reduceCtorEq, Array.toList, List.map_cons, List.map_nil, ↓reduceIte, List.length_map, Nat.reduceAdd, Nat.reduceLeDiff, Nat.reduceLT, Nat.reduceMul, Nat.reduceSub, Option.bind_some, Option.map_some, bndV, numV, eI, eU, e8, eB, AV.isCell, Int.reduceToNat, Int.reduceSub, Int.reduceAdd, Int.reduceNeg, load_at ga2])
  generalize G2.set b [.sl qz 1 0 of.length] = G at g hle2 ⊢
  generalize E1 ++ E2 = D1 at g hf1
  clear hn2 hS ga2 gr2 gs2 hb hbD ha gr1 gs1 hP hn1 gr0 gs0 hle
  obtain ⟨Gw, hw⟩ := g.wk c
  refine StatesIn_thaw p of c hv hof hw (fun hk => ?_) (fun hk q hq => ?_)
  · have gr := g.gr
    have gs := g.gs
    have ga := g.ga
    have gb := g.gb
    have hst : stIn p of c = [] := by simp only [stIn, hk, Bool.false_eq_true, if_false]
    rw [hst]
    (try simp (maxSteps := 1000000) (disch := (first | assumption | (apply Ne.symm; assumption))) only [vw0, vw1, vw2, vw3, vw4, vu0, vu1, ↓condV_t, ↓condV_f, allocV, splice, partV, buildV, eqFieldsV, eqS, tabs, TK.agg, reduceCtorEq, Array.toList, List.map_cons, List.map_nil, ↓reduceIte, List.length_map, Nat.reduceAdd, Nat.reduceLeDiff, Nat.reduceLT, Nat.reduceMul, Nat.reduceSub, Option.bind_some, Option.map_some, bndV, numV, eI, eU, e8, eB, AV.isCell, Int.reduceToNat, Int.reduceSub, Int.reduceAdd, Int.reduceNeg, hk])
    refine eqI_nil ?_
    (try simp (maxSteps := 1000000) (disch := (first | assumption | (apply Ne.symm; assumption))) only [vw0, vw1, vw2, vw3, vw4, vu0, vu1, ↓condV_t, ↓condV_f, allocV, splice, partV, buildV, eqFieldsV, eqS, tabs, TK.agg, reduceCtorEq, Array.toList, List.map_cons, List.map_nil, ↓reduceIte, List.length_map, Nat.reduceAdd, Nat.reduceLeDiff, Nat.reduceLT, Nat.reduceMul, Nat.reduceSub, Option.bind_some, Option.map_some, bndV, numV, eI, eU, e8, eB, AV.isCell, Int.reduceToNat, Int.reduceSub, Int.reduceAdd, Int.reduceNeg, load_at ga, load_at gr])
    refine Pu.use (toProgram_spec p hsm) ?_
    (try simp (maxSteps := 1000000) (disch := (first | assumption | (apply Ne.symm; assumption))) only [vw0, vw1, vw2, vw3, vw4, vu0, vu1, ↓condV_t, ↓condV_f, allocV, splice, partV, buildV, eqFieldsV, eqS, tabs, TK.agg, reduceCtorEq, Array.toList, List.map_cons, List.map_nil, ↓reduceIte, List.length_map, Nat.reduceAdd, Nat.reduceLeDiff, Nat.reduceLT, Nat.reduceMul, Nat.reduceSub, Option.bind_some, Option.map_some, bndV, numV, eI, eU, e8, eB, AV.isCell, Int.reduceToNat, Int.reduceSub, Int.reduceAdd, Int.reduceNeg, load_at ga])
    refine g.eqP hsm ?_
    (try simp (maxSteps := 1000000) (disch := (first | assumption | (apply Ne.symm; assumption))) only [vw0, vw1, vw2, vw3, vw4, vu0, vu1, ↓condV_t, ↓condV_f, allocV, splice, partV, buildV, eqFieldsV, eqS, tabs, TK.agg, reduceCtorEq, Array.toList, List.map_cons, List.map_nil, ↓reduceIte, List.length_map, Nat.reduceAdd, Nat.reduceLeDiff, Nat.reduceLT, Nat.reduceMul, Nat.reduceSub, Option.bind_some, Option.map_some, bndV, numV, eI, eU, e8, eB, AV.isCell, Int.reduceToNat, Int.reduceSub, Int.reduceAdd, Int.reduceNeg, load_at gb, load_at gs])
    refine Pu.use (toSight_spec of hof) ?_
    (try simp (maxSteps := 1000000) (disch := (first | assumption | (apply Ne.symm; assumption))) only [vw0, vw1, vw2, vw3, vw4, vu0, vu1, ↓condV_t, ↓condV_f, allocV, splice, partV, buildV, eqFieldsV, eqS, tabs, TK.agg, reduceCtorEq, Array.toList, List.map_cons, List.map_nil, ↓reduceIte, List.length_map, Nat.reduceAdd, Nat.reduceLeDiff, Nat.reduceLT, Nat.reduceMul, Nat.reduceSub, Option.bind_some, Option.map_some, bndV, numV, eI, eU, e8, eB, AV.isCell, Int.reduceToNat, Int.reduceSub, Int.reduceAdd, Int.reduceNeg, load_at gb])
    refine g.eqS hof ?_
    (try simp (maxSteps := 1000000) (disch := (first | assumption | (apply Ne.symm; assumption))) only [vw0, vw1, vw2, vw3, vw4, vu0, vu1, ↓condV_t, ↓condV_f, allocV, splice, partV, buildV, eqFieldsV, eqS, tabs, TK.agg, reduceCtorEq, Array.toList, List.map_cons, List.map_nil, ↓reduceIte, List.length_map, Nat.reduceAdd, Nat.reduceLeDiff, Nat.reduceLT, Nat.reduceMul, Nat.reduceSub, Option.bind_some, Option.map_some, bndV, numV, eI, eU, e8, eB, AV.isCell, Int.reduceToNat, Int.reduceSub, Int.reduceAdd, Int.reduceNeg, load_at ga])
    refine markProgram_live p (by omega) g.p1 g.n1 (by omega) (by omega) fun k' G4 hfr hk1 hk2 => ?_
    have gb4 : G4 b = some [.sl qz 1 0 of.length] := by rw [hfr b g.nb.1]; exact gb
    (try simp (maxSteps := 1000000) (disch := (first | assumption | (apply Ne.symm; assumption))) only [vw0, vw1, vw2, vw3, vw4, vu0, vu1, ↓condV_t, ↓condV_f, allocV, splice, partV, buildV, eqFieldsV, eqS, tabs, TK.agg, reduceCtorEq, Array.toList, List.map_cons, List.map_nil, ↓reduceIte, List.length_map, Nat.reduceAdd, Nat.reduceLeDiff, Nat.reduceLT, Nat.reduceMul, Nat.reduceSub, Option.bind_some, Option.map_some, bndV, numV, eI, eU, e8, eB, AV.isCell, Int.reduceToNat, Int.reduceSub, Int.reduceAdd, Int.reduceNeg, load_at gb4])
    refine markSight_live of hof (g.p2.local fun y hy bb hbb => by rw [hfr y (fun h1 => g.dj y h1 hy)]; exact hbb) (by omega) (by omega) fun G5 hfr2 => ?_
    have gr5 : G5 r = some [I p.wide, I p.vars, Ns p.start, Cms p.cmds] := by rw [hfr2 r g.nr.2, hfr r g.nr.1]; exact gr
    have gs5 : G5 s = some [Is of] := by rw [hfr2 s g.ns.2, hfr s g.ns.1]; exact gs
    have hle5 : Heap.le H G5 := fun y bb hbb => by
      rw [hfr2 y (fun h => by rw [hf2 y h] at hbb; cases hbb), hfr y (fun h => by rw [hf1 y h] at hbb; cases hbb)]; exact hle2 y bb hbb
    (try simp (maxSteps := 1000000) (disch := (first | assumption | (apply Ne.symm; assumption))) only [vw0, vw1, vw2, vw3, vw4, vu0, vu1, ↓condV_t, ↓condV_f, allocV, splice, partV, buildV, eqFieldsV, eqS, tabs, TK.agg, reduceCtorEq, Array.toList, List.map_cons, List.map_nil, ↓reduceIte, List.length_map, Nat.reduceAdd, Nat.reduceLeDiff, Nat.reduceLT, Nat.reduceMul, Nat.reduceSub, Option.bind_some, Option.map_some, bndV, numV, eI, eU, e8, eB, AV.isCell, Int.reduceToNat, Int.reduceSub, Int.reduceAdd, Int.reduceNeg])
    refine ⟨fun h => by omega, fun _ => ?_⟩
    refine eqI_nil ?_
    (try simp (maxSteps := 1000000) (disch := (first | assumption | (apply Ne.symm; assumption))) only [vw0, vw1, vw2, vw3, vw4, vu0, vu1, ↓condV_t, ↓condV_f, allocV, splice, partV, buildV, eqFieldsV, eqS, tabs, TK.agg, reduceCtorEq, Array.toList, List.map_cons, List.map_nil, ↓reduceIte, List.length_map, Nat.reduceAdd, Nat.reduceLeDiff, Nat.reduceLT, Nat.reduceMul, Nat.reduceSub, Option.bind_some, Option.map_some, bndV, numV, eI, eU, e8, eB, AV.isCell, Int.reduceToNat, Int.reduceSub, Int.reduceAdd, Int.reduceNeg, hk])
    refine markI_nil ?_
    (try simp (maxSteps := 1000000) (disch := (first | assumption | (apply Ne.symm; assumption))) only [vw0, vw1, vw2, vw3, vw4, vu0, vu1, ↓condV_t, ↓condV_f, allocV, splice, partV, buildV, eqFieldsV, eqS, tabs, TK.agg, reduceCtorEq, Array.toList, List.map_cons, List.map_nil, ↓reduceIte, List.length_map, Nat.reduceAdd, Nat.reduceLeDiff, Nat.reduceLT, Nat.reduceMul, Nat.reduceSub, Option.bind_some, Option.map_some, bndV, numV, eI, eU, e8, eB, AV.isCell, Int.reduceToNat, Int.reduceSub, Int.reduceAdd, Int.reduceNeg])
    refine held_nil ?_
    (try simp (maxSteps := 1000000) (disch := (first | assumption | (apply Ne.symm; assumption))) only [vw0, vw1, vw2, vw3, vw4, vu0, vu1, ↓condV_t, ↓condV_f, allocV, splice, partV, buildV, eqFieldsV, eqS, tabs, TK.agg, reduceCtorEq, Array.toList, List.map_cons, List.map_nil, ↓reduceIte, List.length_map, Nat.reduceAdd, Nat.reduceLeDiff, Nat.reduceLT, Nat.reduceMul, Nat.reduceSub, Option.bind_some, Option.map_some, bndV, numV, eI, eU, e8, eB, AV.isCell, Int.reduceToNat, Int.reduceSub, Int.reduceAdd, Int.reduceNeg, load_at gr5, load_at gs5])
    refine ⟨fun h => by omega, fun _ => ?_⟩
    refine Pu.use (toProgram_spec p hsm) ?_
    (try simp (maxSteps := 1000000) (disch := (first | assumption | (apply Ne.symm; assumption))) only [vw0, vw1, vw2, vw3, vw4, vu0, vu1, ↓condV_t, ↓condV_f, allocV, splice, partV, buildV, eqFieldsV, eqS, tabs, TK.agg, reduceCtorEq, Array.toList, List.map_cons, List.map_nil, ↓reduceIte, List.length_map, Nat.reduceAdd, Nat.reduceLeDiff, Nat.reduceLT, Nat.reduceMul, Nat.reduceSub, Option.bind_some, Option.map_some, bndV, numV, eI, eU, e8, eB, AV.isCell, Int.reduceToNat, Int.reduceSub, Int.reduceAdd, Int.reduceNeg, load_at gs5])
    refine Pu.use (toSight_spec of hof) ?_
    (try simp (maxSteps := 1000000) (disch := (first | assumption | (apply Ne.symm; assumption))) only [vw0, vw1, vw2, vw3, vw4, vu0, vu1, ↓condV_t, ↓condV_f, allocV, splice, partV, buildV, eqFieldsV, eqS, tabs, TK.agg, reduceCtorEq, Array.toList, List.map_cons, List.map_nil, ↓reduceIte, List.length_map, Nat.reduceAdd, Nat.reduceLeDiff, Nat.reduceLT, Nat.reduceMul, Nat.reduceSub, Option.bind_some, Option.map_some, bndV, numV, eI, eU, e8, eB, AV.isCell, Int.reduceToNat, Int.reduceSub, Int.reduceAdd, Int.reduceNeg])
    refine StatesIn_impl p of c hv hof (fun _ => ?_) (fun h => by rw [hk] at h; cases h)
    (try simp (maxSteps := 1000000) (disch := (first | assumption | (apply Ne.symm; assumption))) only [vw0, vw1, vw2, vw3, vw4, vu0, vu1, ↓condV_t, ↓condV_f, allocV, splice, partV, buildV, eqFieldsV, eqS, tabs, TK.agg, reduceCtorEq, Array.toList, List.map_cons, List.map_nil, ↓reduceIte, List.length_map, Nat.reduceAdd, Nat.reduceLeDiff, Nat.reduceLT, Nat.reduceMul, Nat.reduceSub, Option.bind_some, Option.map_some, bndV, numV, eI, eU, e8, eB, AV.isCell, Int.reduceToNat, Int.reduceSub, Int.reduceAdd, Int.reduceNeg])
    refine eqI_nil ?_
    (try simp (maxSteps := 1000000) (disch := (first | assumption | (apply Ne.symm; assumption))) only [vw0, vw1, vw2, vw3, vw4, vu0, vu1, ↓condV_t, ↓condV_f, allocV, splice, partV, buildV, eqFieldsV, eqS, tabs, TK.agg, reduceCtorEq, Array.toList, List.map_cons, List.map_nil, ↓reduceIte, List.length_map, Nat.reduceAdd, Nat.reduceLeDiff, Nat.reduceLT, Nat.reduceMul, Nat.reduceSub, Option.bind_some, Option.map_some, bndV, numV, eI, eU, e8, eB, AV.isCell, Int.reduceToNat, Int.reduceSub, Int.reduceAdd, Int.reduceNeg, hk])
    refine held_nil ?_
    (try simp (maxSteps := 1000000) (disch := (first | assumption | (apply Ne.symm; assumption))) only [vw0, vw1, vw2, vw3, vw4, vu0, vu1, ↓condV_t, ↓condV_f, allocV, splice, partV, buildV, eqFieldsV, eqS, tabs, TK.agg, reduceCtorEq, Array.toList, List.map_cons, List.map_nil, ↓reduceIte, List.length_map, Nat.reduceAdd, Nat.reduceLeDiff, Nat.reduceLT, Nat.reduceMul, Nat.reduceSub, Option.bind_some, Option.map_some, bndV, numV, eI, eU, e8, eB, AV.isCell, Int.reduceToNat, Int.reduceSub, Int.reduceAdd, Int.reduceNeg])
    first | exact hle5 | exact ⟨fun h => by omega, fun _ => hle5⟩
  · have gm := g.mono (Heap.le_set (b := cP fI (inCl of c of.length)) hq)
    have hst : stIn p of c = inCl of c of.length := by simp only [stIn, hk, if_true]
    have hyl := inCl_len of c of.length
    have gq : (G.set q (cP fI (inCl of c of.length))) q = some (cP fI (inCl of c of.length)) := Heap.set_same _ _ _
    have hHq : H q = none := by
      cases hh : H q with
      | none => rfl
      | some bb => rw [hle2 q bb hh] at hq; cases hq
    have hqD : q ∉ D1 ∧ q ∉ D2 := ⟨fun h => g.p1.has q h hq, fun h => g.p2.has q h hq⟩
    have hle3 : Heap.le H (G.set q (cP fI (inCl of c of.length))) := Heap.le_setN hle2 hHq
    rw [hst]
    generalize hys : inCl of c of.length = ys at gm gq hyl hst hle3 ⊢
    generalize G.set q (cP fI ys) = G3 at gm gq hle3 ⊢
    have gr := gm.gr
    have gs := gm.gs
    have ga := gm.ga
    have gb := gm.gb
    (try simp (maxSteps := 1000000) (disch := (first | assumption | (apply Ne.symm; assumption))) only [vw0, vw1, vw2, vw3, vw4, vu0, vu1, ↓condV_t, ↓condV_f, allocV, splice, partV, buildV, eqFieldsV, eqS, tabs, TK.agg, reduceCtorEq, Array.toList, List.map_cons, List.map_nil, ↓reduceIte, List.length_map, Nat.reduceAdd, Nat.reduceLeDiff, Nat.reduceLT, Nat.reduceMul, Nat.reduceSub, Option.bind_some, Option.map_some, bndV, numV, eI, eU, e8, eB, AV.isCell, Int.reduceToNat, Int.reduceSub, Int.reduceAdd, Int.reduceNeg, hk])
    refine eqI_row gq (by omega) ?_
    (try simp (maxSteps := 1000000) (disch := (first | assumption | (apply Ne.symm; assumption))) only [vw0, vw1, vw2, vw3, vw4, vu0, vu1, ↓condV_t, ↓condV_f, allocV, splice, partV, buildV, eqFieldsV, eqS, tabs, TK.agg, reduceCtorEq, Array.toList, List.map_cons, List.map_nil, ↓reduceIte, List.length_map, Nat.reduceAdd, Nat.reduceLeDiff, Nat.reduceLT, Nat.reduceMul, Nat.reduceSub, Option.bind_some, Option.map_some, bndV, numV, eI, eU, e8, eB, AV.isCell, Int.reduceToNat, Int.reduceSub, Int.reduceAdd, Int.reduceNeg, load_at ga, load_at gr])
    refine Pu.use (toProgram_spec p hsm) ?_
    (try simp (maxSteps := 1000000) (disch := (first | assumption | (apply Ne.symm; assumption))) only [vw0, vw1, vw2, vw3, vw4, vu0, vu1, ↓condV_t, ↓condV_f, allocV, splice, partV, buildV, eqFieldsV, eqS, tabs, TK.agg, reduceCtorEq, Array.toList, List.map_cons, List.map_nil, ↓reduceIte, List.length_map, Nat.reduceAdd, Nat.reduceLeDiff, Nat.reduceLT, Nat.reduceMul, Nat.reduceSub, Option.bind_some, Option.map_some, bndV, numV, eI, eU, e8, eB, AV.isCell, Int.reduceToNat, Int.reduceSub, Int.reduceAdd, Int.reduceNeg, load_at ga])
    refine gm.eqP hsm ?_
    (try simp (maxSteps := 1000000) (disch := (first | assumption | (apply Ne.symm; assumption))) only [vw0, vw1, vw2, vw3, vw4, vu0, vu1, ↓condV_t, ↓condV_f, allocV, splice, partV, buildV, eqFieldsV, eqS, tabs, TK.agg, reduceCtorEq, Array.toList, List.map_cons, List.map_nil, ↓reduceIte, List.length_map, Nat.reduceAdd, Nat.reduceLeDiff, Nat.reduceLT, Nat.reduceMul, Nat.reduceSub, Option.bind_some, Option.map_some, bndV, numV, eI, eU, e8, eB, AV.isCell, Int.reduceToNat, Int.reduceSub, Int.reduceAdd, Int.reduceNeg, load_at gb, load_at gs])
    refine Pu.use (toSight_spec of hof) ?_
    (try simp (maxSteps := 1000000) (disch := (first | assumption | (apply Ne.symm; assumption))) only [vw0, vw1, vw2, vw3, vw4, vu0, vu1, ↓condV_t, ↓condV_f, allocV, splice, partV, buildV, eqFieldsV, eqS, tabs, TK.agg, reduceCtorEq, Array.toList, List.map_cons, List.map_nil, ↓reduceIte, List.length_map, Nat.reduceAdd, Nat.reduceLeDiff, Nat.reduceLT, Nat.reduceMul, Nat.reduceSub, Option.bind_some, Option.map_some, bndV, numV, eI, eU, e8, eB, AV.isCell, Int.reduceToNat, Int.reduceSub, Int.reduceAdd, Int.reduceNeg, load_at gb])
    refine gm.eqS hof ?_
    (try simp (maxSteps := 1000000) (disch := (first | assumption | (apply Ne.symm; assumption))) only [vw0, vw1, vw2, vw3, vw4, vu0, vu1, ↓condV_t, ↓condV_f, allocV, splice, partV, buildV, eqFieldsV, eqS, tabs, TK.agg, reduceCtorEq, Array.toList, List.map_cons, List.map_nil, ↓reduceIte, List.length_map, Nat.reduceAdd, Nat.reduceLeDiff, Nat.reduceLT, Nat.reduceMul, Nat.reduceSub, Option.bind_some, Option.map_some, bndV, numV, eI, eU, e8, eB, AV.isCell, Int.reduceToNat, Int.reduceSub, Int.reduceAdd, Int.reduceNeg, load_at ga])
    refine markProgram_live p (by omega) gm.p1 gm.n1 (by omega) (by omega) fun k' G4 hfr hk1 hk2 => ?_
    have gb4 : G4 b = some [.sl qz 1 0 of.length] := by rw [hfr b gm.nb.1]; exact gb
    (try simp (maxSteps := 1000000) (disch := (first | assumption | (apply Ne.symm; assumption))) only [vw0, vw1, vw2, vw3, vw4, vu0, vu1, ↓condV_t, ↓condV_f, allocV, splice, partV, buildV, eqFieldsV, eqS, tabs, TK.agg, reduceCtorEq, Array.toList, List.map_cons, List.map_nil, ↓reduceIte, List.length_map, Nat.reduceAdd, Nat.reduceLeDiff, Nat.reduceLT, Nat.reduceMul, Nat.reduceSub, Option.bind_some, Option.map_some, bndV, numV, eI, eU, e8, eB, AV.isCell, Int.reduceToNat, Int.reduceSub, Int.reduceAdd, Int.reduceNeg, load_at gb4])
    refine markSight_live of hof (gm.p2.local fun y hy bb hbb => by rw [hfr y (fun h1 => gm.dj y h1 hy)]; exact hbb) (by omega) (by omega) fun G5 hfr2 => ?_
    have gr5 : G5 r = some [I p.wide, I p.vars, Ns p.start, Cms p.cmds] := by rw [hfr2 r gm.nr.2, hfr r gm.nr.1]; exact gr
    have gs5 : G5 s = some [Is of] := by rw [hfr2 s gm.ns.2, hfr s gm.ns.1]; exact gs
    have gq5 : G5 q = some (cP fI ys) := by rw [hfr2 q hqD.2, hfr q hqD.1]; exact gq
    have hle5 : Heap.le H G5 := fun y bb hbb => by
      rw [hfr2 y (fun h => by rw [hf2 y h] at hbb; cases hbb), hfr y (fun h => by rw [hf1 y h] at hbb; cases hbb)]; exact hle3 y bb hbb
    (try simp (maxSteps := 1000000) (disch := (first | assumption | (apply Ne.symm; assumption))) only [vw0, vw1, vw2, vw3, vw4, vu0, vu1, ↓condV_t, ↓condV_f, allocV, splice, partV, buildV, eqFieldsV, eqS, tabs, TK.agg, reduceCtorEq, Array.toList, List.map_cons, List.map_nil, ↓reduceIte, List.length_map, Nat.reduceAdd, Nat.reduceLeDiff, Nat.reduceLT, Nat.reduceMul, Nat.reduceSub, Option.bind_some, Option.map_some, bndV, numV, eI, eU, e8, eB, AV.isCell, Int.reduceToNat, Int.reduceSub, Int.reduceAdd, Int.reduceNeg])
    refine ⟨fun h => by omega, fun _ => ?_⟩
    refine eqI_row gq5 (by omega) ?_
    (try simp (maxSteps := 1000000) (disch := (first | assumption | (apply Ne.symm; assumption))) only [vw0, vw1, vw2, vw3, vw4, vu0, vu1, ↓condV_t, ↓condV_f, allocV, splice, partV, buildV, eqFieldsV, eqS, tabs, TK.agg, reduceCtorEq, Array.toList, List.map_cons, List.map_nil, ↓reduceIte, List.length_map, Nat.reduceAdd, Nat.reduceLeDiff, Nat.reduceLT, Nat.reduceMul, Nat.reduceSub, Option.bind_some, Option.map_some, bndV, numV, eI, eU, e8, eB, AV.isCell, Int.reduceToNat, Int.reduceSub, Int.reduceAdd, Int.reduceNeg, hk])
    have ecp : cells (ys.map eI) = cP fI ys := cells_P fI ys
    refine markIntS_live ys (by omega) (by omega) (by omega) (by rw [ecp]; exact gq5) ?_
    have hrq : r ≠ q := fun e => by
      subst e
      have := g.gr; rw [hq] at this; cases this
    have hsq : s ≠ q := fun e => by
      subst e
      have := g.gs; rw [hq] at this; cases this
    (try simp (maxSteps := 1000000) (disch := (first | assumption | (apply Ne.symm; assumption))) only [vw0, vw1, vw2, vw3, vw4, vu0, vu1, ↓condV_t, ↓condV_f, allocV, splice, partV, buildV, eqFieldsV, eqS, tabs, TK.agg, reduceCtorEq, Array.toList, List.map_cons, List.map_nil, ↓reduceIte, List.length_map, Nat.reduceAdd, Nat.reduceLeDiff, Nat.reduceLT, Nat.reduceMul, Nat.reduceSub, Option.bind_some, Option.map_some, bndV, numV, eI, eU, e8, eB, AV.isCell, Int.reduceToNat, Int.reduceSub, Int.reduceAdd, Int.reduceNeg])
    refine held_row (n := ys.length) (Heap.set_same _ _ _) (by omega) ?_
    (try simp (maxSteps := 1000000) (disch := (first | assumption | (apply Ne.symm; assumption))) only [vw0, vw1, vw2, vw3, vw4, vu0, vu1, ↓condV_t, ↓condV_f, allocV, splice, partV, buildV, eqFieldsV, eqS, tabs, TK.agg, reduceCtorEq, Array.toList, List.map_cons, List.map_nil, ↓reduceIte, List.length_map, Nat.reduceAdd, Nat.reduceLeDiff, Nat.reduceLT, Nat.reduceMul, Nat.reduceSub, Option.bind_some, Option.map_some, bndV, numV, eI, eU, e8, eB, AV.isCell, Int.reduceToNat, Int.reduceSub, Int.reduceAdd, Int.reduceNeg, load_at gr5, load_at gs5])
    refine ⟨fun h => by omega, fun _ => ?_⟩
    have hle6 : Heap.le H (G5.set q (cells ((marked 1 ys.length).map eI))) := Heap.le_setN hle5 hHq
    have gs6 : (G5.set q (cells ((marked 1 ys.length).map eI))) s = some [Is of] := by rw [Heap.set_other hsq]; exact gs5
    have gq6 : (G5.set q (cells ((marked 1 ys.length).map eI))) q = some (cells ((marked 1 ys.length).map eI)) := Heap.set_same _ _ _
    generalize G5.set q (cells ((marked 1 ys.length).map eI)) = G6 at hle6 gs6 gq6 ⊢
    refine Pu.use (toProgram_spec p hsm) ?_
    (try simp (maxSteps := 1000000) (disch := (first | assumption | (apply Ne.symm; assumption))) only [vw0, vw1, vw2, vw3, vw4, vu0, vu1, ↓condV_t, ↓condV_f, allocV, splice, partV, buildV, eqFieldsV, eqS, tabs, TK.agg, reduceCtorEq, Array.toList, List.map_cons, List.map_nil, ↓reduceIte, List.length_map, Nat.reduceAdd, Nat.reduceLeDiff, Nat.reduceLT, Nat.reduceMul, Nat.reduceSub, Option.bind_some, Option.map_some, bndV, numV, eI, eU, e8, eB, AV.isCell, Int.reduceToNat, Int.reduceSub, Int.reduceAdd, Int.reduceNeg, load_at gs6])
    refine Pu.use (toSight_spec of hof) ?_
    (try simp (maxSteps := 1000000) (disch := (first | assumption | (apply Ne.symm; assumption))) only [vw0, vw1, vw2, vw3, vw4, vu0, vu1, ↓condV_t, ↓condV_f, allocV, splice, partV, buildV, eqFieldsV, eqS, tabs, TK.agg, reduceCtorEq, Array.toList, List.map_cons, List.map_nil, ↓reduceIte, List.length_map, Nat.reduceAdd, Nat.reduceLeDiff, Nat.reduceLT, Nat.reduceMul, Nat.reduceSub, Option.bind_some, Option.map_some, bndV, numV, eI, eU, e8, eB, AV.isCell, Int.reduceToNat, Int.reduceSub, Int.reduceAdd, Int.reduceNeg])
    refine StatesIn_impl p of c hv hof (fun h => by rw [hk] at h; cases h) (fun _ q2 hq2 => ?_)
    rw [hys]
    (try simp (maxSteps := 1000000) (disch := (first | assumption | (apply Ne.symm; assumption))) only [vw0, vw1, vw2, vw3, vw4, vu0, vu1, ↓condV_t, ↓condV_f, allocV, splice, partV, buildV, eqFieldsV, eqS, tabs, TK.agg, reduceCtorEq, Array.toList, List.map_cons, List.map_nil, ↓reduceIte, List.length_map, Nat.reduceAdd, Nat.reduceLeDiff, Nat.reduceLT, Nat.reduceMul, Nat.reduceSub, Option.bind_some, Option.map_some, bndV, numV, eI, eU, e8, eB, AV.isCell, Int.reduceToNat, Int.reduceSub, Int.reduceAdd, Int.reduceNeg])
    refine eqI_row (Heap.set_same _ _ _) (by omega) ?_
    (try simp (maxSteps := 1000000) (disch := (first | assumption | (apply Ne.symm; assumption))) only [vw0, vw1, vw2, vw3, vw4, vu0, vu1, ↓condV_t, ↓condV_f, allocV, splice, partV, buildV, eqFieldsV, eqS, tabs, TK.agg, reduceCtorEq, Array.toList, List.map_cons, List.map_nil, ↓reduceIte, List.length_map, Nat.reduceAdd, Nat.reduceLeDiff, Nat.reduceLT, Nat.reduceMul, Nat.reduceSub, Option.bind_some, Option.map_some, bndV, numV, eI, eU, e8, eB, AV.isCell, Int.reduceToNat, Int.reduceSub, Int.reduceAdd, Int.reduceNeg, hk])
    have hne : q ≠ q2 := ne gq6 hq2
    refine held_row (n := ys.length) (by rw [Heap.set_other hne]; exact gq6) (by omega) ?_
    have hle7 : Heap.le H (G6.set q2 (cP fI ys)) := fun y bb hbb => by
      have := hle6 y bb hbb
      rw [Heap.set_other (ne this hq2)]; exact this
    (try simp (maxSteps := 1000000) (disch := (first | assumption | (apply Ne.symm; assumption))) only [vw0, vw1, vw2, vw3, vw4, vu0, vu1, ↓condV_t, ↓condV_f, allocV, splice, partV, buildV, eqFieldsV, eqS, tabs, TK.agg, reduceCtorEq, Array.toList, List.map_cons, List.map_nil, ↓reduceIte, List.length_map, Nat.reduceAdd, Nat.reduceLeDiff, Nat.reduceLT, Nat.reduceMul, Nat.reduceSub, Option.bind_some, Option.map_some, bndV, numV, eI, eU, e8, eB, AV.isCell, Int.reduceToNat, Int.reduceSub, Int.reduceAdd, Int.reduceNeg])
    first | exact hle7 | exact ⟨fun h => by omega, fun _ => hle7⟩
end Go.Proofs.Ythlbkcgnacemgaa
