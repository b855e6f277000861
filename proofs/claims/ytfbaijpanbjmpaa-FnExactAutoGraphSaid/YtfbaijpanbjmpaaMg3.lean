/- The law on the graph of an automaton. -/
import Derived.Test.YtfbaijpanbjmpaaMg2
import Derived.Test.YtfbaijpanbjmpaaMb3
namespace Go.Proofs.Ytfbaijpanbjmpaa
open Go Go.Sep Go.Pt
set_option linter.unusedSimpArgs false
set_option linter.unusedVariables false
attribute [local irreducible] CallT

abbrev aG (rows : List (List Int)) : AV := .agg [Ls rows]
def LGr (rows : List (List Int)) (v : AV) (G : Heap) (D : List Nat) : Prop := ∃ q, v = .agg [.sl q 1 0 rows.length] ∧ LII rows (.sl q 1 0 rows.length) G D
theorem LGr.local {rows : List (List Int)} {v : AV} {G G' : Heap} {D : List Nat} (h : LGr rows v G D) (hf : ∀ y ∈ D, ∀ b, G y = some b → G' y = some b) : LGr rows v G' D := by
  obtain ⟨x, e, h⟩ := h; exact ⟨x, e, LRow.local LIc.local h hf⟩
theorem LGr.has {rows : List (List Int)} {v : AV} {G : Heap} {D : List Nat} (h : LGr rows v G D) : ∀ y ∈ D, G y ≠ none := by
  obtain ⟨x, e, h⟩ := h; exact LRow.has LIc.has h
def grT (rows : List (List Int)) (v : AV) (D : List Nat) : Th := ⟨D, fun G => LGr rows v G D, fun h f => h.local f, fun h => h.has⟩
theorem LGr.mk {rows : List (List Int)} {x : AV} {G : Heap} {D : List Nat} (h : LII rows x G D) : LGr rows (.agg [x]) G D := by
  obtain ⟨q, rfl⟩ := LRow.sl h; exact ⟨q, rfl, h⟩
theorem LGr.wk {rows : List (List Int)} {v : AV} {G : Heap} {D : List Nat} (h : LGr rows v G D) (hD : D.Nodup) (C : AV → AV) (hC : ∀ {q sz es a a'}, FrzR q sz es a a' → FrzR q sz es (C a) (C a')) : ∃ G', Wk (C v) G (C (aG rows)) G' ∧ ∀ y, y ∉ D → G' y = G y := by
  obtain ⟨q, rfl, h⟩ := h
  obtain ⟨G', w, f⟩ := LRow.frzV (e := eL) (sz := 1) (v := C (.agg [.sl q 1 0 rows.length])) (v' := C (aG rows)) (by omega) (fun _ => rfl) LIc.local LIc.frz h hD
    (fun q _ hr => hC (.agg (.cons hr .nil)))
  exact ⟨G', w, f⟩
theorem thawGr {P : Program} {f : Nat} {args args' : List AV} {G G1 : Heap} {o : List (List Int)} {ok : Bool} {K : AV → Heap → Prop}
    (hf : ∀ {K : AV → Heap → Prop}, (∀ v G D, LGr o v G D → New (fun _ => none) G D → K (.tup [v, B ok]) G) → CallT P f args' (fun _ => none) K)
    (hw : Wk (.tup args) G (.tup args') G1) (h : ∀ v G' D, LGr o v G' D → New G G' D → K (.tup [v, B ok]) G') : CallT P f args G K := by
  refine CallT.thawX (Q' := fun r H' => ∃ v D, LGr o v H' D ∧ D.Nodup ∧ r = .tup [v, B ok] ∧ ∀ y, y ∉ D → H' y = none) ?_ ?_ hw ?_
  · refine CallT.fin (hf fun v G D hl hn => ⟨_, only D G, .forget (only_le D G), v, D, hl.local fun y hy b hb => by rw [only_in hy]; exact hb, hn.nd, rfl, fun y hy => only_out hy⟩)
  · rintro r H' ⟨v, D, ⟨q, rfl, hl⟩, _, rfl, hout⟩
    have gb : Gd1 (B ok) := .inr ⟨.p (.bool ok), fun _ => rfl⟩
    have gl := LRow.gd LIc.gd hl
    refine ⟨.inl ⟨_, rfl, fun u hu => ?_⟩, fun p cs hp => ?_⟩
    · rcases List.mem_cons.1 hu with rfl | hu
      · exact .inl ⟨_, rfl, fun c hc => by rw [List.mem_singleton] at hc; rw [hc]; exact gl.1⟩
      · rw [List.mem_singleton] at hu; rw [hu]; exact gb
    · by_cases hD : p ∈ D
      · exact gl.2 p hD cs hp
      · rw [hout p hD] at hp; cases hp
  · rintro r H' n ⟨v, D, ⟨q, rfl, hl⟩, hnd, rfl, hout⟩ hn
    have e : sh2 n (.tup [.agg [.sl q 1 0 o.length], B ok]) = .tup [.agg [.sl (q + n) 1 0 o.length], B ok] := rfl
    rw [e]
    have hs := LRow.sh LIc.sh hn hl
    refine h _ _ (D.map (· + n)) ⟨q + n, rfl, hs⟩ ⟨?_, fun y hy => ?_, fun y b hb => by simp only [Heap.or, hb]⟩
    · exact List.pairwise_map.2 (hnd.imp fun h e => h (Nat.add_right_cancel e))
    · obtain ⟨z, _, rfl⟩ := List.mem_map.1 hy
      exact hn _ (by omega)
theorem eqGraph_spec (rows : List (List Int)) (hs : smLs rows) : Pu Try.prog 25 [aG rows, aG rows] (B true) := by
  refine Pu.of fun H => ?_
  refine W25_ok ?_; simp (maxSteps := 1000000) (disch := (first | assumption | (apply Ne.symm; assumption))) only [W25, vw0, vw1, vw2, vw3, vw4, vu0, vu1, ↓condV_t, ↓condV_f, cap_nil, allocV, splice, partV, buildV, eqFieldsV, eqS, tabs, TK.agg, reduceCtorEq, Array.toList, List.map_cons, List.map_nil, ↓reduceIte, List.length_map, Nat.reduceAdd, Nat.reduceLeDiff, Nat.reduceLT, Nat.reduceMul, Nat.reduceSub, Option.bind_some, Option.map_some, bndV, numV, eI, eU, e8, eB, AV.isCell, Int.reduceToNat, Int.reduceSub, Int.reduceAdd, Int.reduceNeg]
  intro r hr r2 n1 h2
  (try simp (maxSteps := 1000000) (disch := (first | assumption | (apply Ne.symm; assumption))) only [vw0, vw1, vw2, vw3, vw4, vu0, vu1, ↓condV_t, ↓condV_f, cap_nil, allocV, splice, partV, buildV, eqFieldsV, eqS, tabs, TK.agg, reduceCtorEq, Array.toList, List.map_cons, List.map_nil, ↓reduceIte, List.length_map, Nat.reduceAdd, Nat.reduceLeDiff, Nat.reduceLT, Nat.reduceMul, Nat.reduceSub, Option.bind_some, Option.map_some, bndV, numV, eI, eU, e8, eB, AV.isCell, Int.reduceToNat, Int.reduceSub, Int.reduceAdd, Int.reduceNeg])
  refine Pu.use (eqIntSS_spec rows hs) ?_
  (try simp (maxSteps := 1000000) (disch := (first | assumption | (apply Ne.symm; assumption))) only [vw0, vw1, vw2, vw3, vw4, vu0, vu1, ↓condV_t, ↓condV_f, cap_nil, allocV, splice, partV, buildV, eqFieldsV, eqS, tabs, TK.agg, reduceCtorEq, Array.toList, List.map_cons, List.map_nil, ↓reduceIte, List.length_map, Nat.reduceAdd, Nat.reduceLeDiff, Nat.reduceLT, Nat.reduceMul, Nat.reduceSub, Option.bind_some, Option.map_some, bndV, numV, eI, eU, e8, eB, AV.isCell, Int.reduceToNat, Int.reduceSub, Int.reduceAdd, Int.reduceNeg])
  (repeat first | exact Heap.le_refl _ | refine Heap.le_setN ?_ (by assumption))
theorem LGr.eq {rows : List (List Int)} {v : AV} {G : Heap} {D : List Nat} (g : LGr rows v G D) (hD : D.Nodup) (hs : smLs rows) {K : AV → Heap → Prop} (h : K (B true) G) : CallT Try.prog 25 [v, aG rows] G K := by
  obtain ⟨G1, w1, _⟩ := g.wk hD (fun v => .tup [v, aG rows]) (fun h => .tup (.cons h (.cons (.same _) .nil)))
  exact Pu.thaw (eqGraph_spec rows hs) (.bool _) w1 h
theorem heldGraph_spec (rows : List (List Int)) (hl : totLs rows ≤ 1048576) : Pu Try.prog 27 [aG (mkLs 1 rows rows.length), I 1] (I (1 + psum totL rows rows.length)) := by
  refine Pu.of fun H => ?_
  refine W27_ok ?_; simp (maxSteps := 1000000) (disch := (first | assumption | (apply Ne.symm; assumption))) only [W27, vw0, vw1, vw2, vw3, vw4, vu0, vu1, ↓condV_t, ↓condV_f, cap_nil, allocV, splice, partV, buildV, eqFieldsV, eqS, tabs, TK.agg, reduceCtorEq, Array.toList, List.map_cons, List.map_nil, ↓reduceIte, List.length_map, Nat.reduceAdd, Nat.reduceLeDiff, Nat.reduceLT, Nat.reduceMul, Nat.reduceSub, Option.bind_some, Option.map_some, bndV, numV, eI, eU, e8, eB, AV.isCell, Int.reduceToNat, Int.reduceSub, Int.reduceAdd, Int.reduceNeg]
  intro r hr
  refine Pu.use (heldIntSS_spec rows hl (by omega) (by omega)) ?_
  (try simp (maxSteps := 1000000) (disch := (first | assumption | (apply Ne.symm; assumption))) only [vw0, vw1, vw2, vw3, vw4, vu0, vu1, ↓condV_t, ↓condV_f, cap_nil, allocV, splice, partV, buildV, eqFieldsV, eqS, tabs, TK.agg, reduceCtorEq, Array.toList, List.map_cons, List.map_nil, ↓reduceIte, List.length_map, Nat.reduceAdd, Nat.reduceLeDiff, Nat.reduceLT, Nat.reduceMul, Nat.reduceSub, Option.bind_some, Option.map_some, bndV, numV, eI, eU, e8, eB, AV.isCell, Int.reduceToNat, Int.reduceSub, Int.reduceAdd, Int.reduceNeg])
  exact ⟨fun h => by omega, fun _ => Heap.le_set hr⟩
theorem LGr.held {rows : List (List Int)} {v : AV} {G : Heap} {D : List Nat} (g : LGr (mkLs 1 rows rows.length) v G D) (hD : D.Nodup) (hs : totLs rows ≤ 1048576) {K : AV → Heap → Prop} (h : K (I (1 + psum totL rows rows.length)) G) : CallT Try.prog 27 [v, I 1] G K := by
  obtain ⟨G1, w1, _⟩ := g.wk hD (fun v => .tup [v, I 1]) (fun h => .tup (.cons h (.cons (.same _) .nil)))
  exact Pu.thaw (heldGraph_spec rows hs) (.int _ _) w1 h
theorem markGraph_live (rows : List (List Int)) (hl : totLs rows ≤ 1048576) {v : AV} {G : Heap} {D : List Nat} (hx : LGr rows v G D) (hD : D.Nodup) {K : AV → Heap → Prop}
    (h : ∀ G', LGr (mkLs 1 rows rows.length) v G' D → (∀ y, y ∉ D → G' y = G y) → K (I (1 + psum totL rows rows.length)) G') : CallT Try.prog 26 [v, I 1] G K := by
  obtain ⟨q, rfl, hx⟩ := hx
  refine CallT.fin ?_
  refine W26_ok ?_; simp (maxSteps := 1000000) (disch := (first | assumption | (apply Ne.symm; assumption))) only [W26, vw0, vw1, vw2, vw3, vw4, vu0, vu1, ↓condV_t, ↓condV_f, cap_nil, allocV, splice, partV, buildV, eqFieldsV, eqS, tabs, TK.agg, reduceCtorEq, Array.toList, List.map_cons, List.map_nil, ↓reduceIte, List.length_map, Nat.reduceAdd, Nat.reduceLeDiff, Nat.reduceLT, Nat.reduceMul, Nat.reduceSub, Option.bind_some, Option.map_some, bndV, numV, eI, eU, e8, eB, AV.isCell, Int.reduceToNat, Int.reduceSub, Int.reduceAdd, Int.reduceNeg]
  intro r hr
  have st := ((St.nil G).cell hr [.sl q 1 0 rows.length])
  have hx' : LII rows (.sl q 1 0 rows.length) (G.set r [.sl q 1 0 rows.length]) D := LRow.local LIc.local hx fun y _ b hb => Heap.le_set hr y b hb
  refine markIntSS_live rows hl hx' hD (by omega) (by omega) fun G2 h2 hf => ?_
  (try simp (maxSteps := 1000000) (disch := (first | assumption | (apply Ne.symm; assumption))) only [vw0, vw1, vw2, vw3, vw4, vu0, vu1, ↓condV_t, ↓condV_f, cap_nil, allocV, splice, partV, buildV, eqFieldsV, eqS, tabs, TK.agg, reduceCtorEq, Array.toList, List.map_cons, List.map_nil, ↓reduceIte, List.length_map, Nat.reduceAdd, Nat.reduceLeDiff, Nat.reduceLT, Nat.reduceMul, Nat.reduceSub, Option.bind_some, Option.map_some, bndV, numV, eI, eU, e8, eB, AV.isCell, Int.reduceToNat, Int.reduceSub, Int.reduceAdd, Int.reduceNeg])
  have hrD : r ∉ D := fun hm => LRow.has LIc.has hx r hm hr
  refine ⟨_, G2.del r, .forget (Heap.del_le _ _), h _ ⟨q, by rw [mkLs_len], ?_⟩ fun y hy => ?_⟩
  · have h3 : LII (mkLs 1 rows rows.length) (.sl q 1 0 (mkLs 1 rows rows.length).length) G2 D := by rw [mkLs_len]; exact h2
    exact LRow.local LIc.local h3 fun y hy b hb => by rw [Heap.del_other (fun e : y = r => hrD (e ▸ hy))]; exact hb
  · by_cases e : y = r
    · subst e; rw [Heap.del_same, hr]
    · rw [Heap.del_other e, hf y hy, Heap.set_other e]
def grR (a : Au) : List (List Int) × Bool := if goodA a then (nextG a, true) else ([], false)
theorem grR_sm (a : Au) : smLs (grR a).1 ∧ totLs (grR a).1 ≤ 1048576 := by
  unfold grR
  split
  · rename_i h
    have f := good_facts h
    have h1 : ∀ g ∈ nextG a, g.length ≤ 2400 := fun g hg => by
      obtain ⟨s, _, rfl⟩ := List.mem_map.1 hg
      have := sc_len (outN a a.edges.length s)
      have := outN_len a a.edges.length s
      have := f.ed
      omega
    have h2 := psumL_le h1
    have h3 := nextG_len a
    have h4 := f.st
    refine ⟨⟨by show (nextG a).length ≤ _; omega, fun g hg => by have := h1 g hg; omega⟩, ?_⟩
    show totLs (nextG a) ≤ _
    unfold totLs
    omega
  · exact ⟨⟨by simp, fun c hc => by cases hc⟩, by simp [totLs, psum]⟩
theorem Graph_ref (a : Au) (sa : smAu a) : Pu Try.prog 23 [aAu a] (.tup [aG (grR a).1, B (grR a).2]) := by
  refine ⟨fun H => CallT.fin ?_⟩
  refine W23_ok ?_; simp (maxSteps := 1000000) (disch := (first | assumption | (apply Ne.symm; assumption))) only [W23, vw0, vw1, vw2, vw3, vw4, vu0, vu1, ↓condV_t, ↓condV_f, cap_nil, allocV, splice, partV, buildV, eqFieldsV, eqS, tabs, TK.agg, reduceCtorEq, Array.toList, List.map_cons, List.map_nil, ↓reduceIte, List.length_map, Nat.reduceAdd, Nat.reduceLeDiff, Nat.reduceLT, Nat.reduceMul, Nat.reduceSub, Option.bind_some, Option.map_some, bndV, numV, eI, eU, e8, eB, AV.isCell, Int.reduceToNat, Int.reduceSub, Int.reduceAdd, Int.reduceNeg]
  intro r hr r2 n2 hr2
  have nn2 : r ≠ r2 := Ne.symm n2
  have hle := Heap.le_setN (b := [.p .nil]) (Heap.le_set (b := [I a.states, Is a.first, Es a.edges, Ls a.goals]) hr) hr2
  (try simp (maxSteps := 1000000) (disch := (first | assumption | (apply Ne.symm; assumption))) only [vw0, vw1, vw2, vw3, vw4, vu0, vu1, ↓condV_t, ↓condV_f, cap_nil, allocV, splice, partV, buildV, eqFieldsV, eqS, tabs, TK.agg, reduceCtorEq, Array.toList, List.map_cons, List.map_nil, ↓reduceIte, List.length_map, Nat.reduceAdd, Nat.reduceLeDiff, Nat.reduceLT, Nat.reduceMul, Nat.reduceSub, Option.bind_some, Option.map_some, bndV, numV, eI, eU, e8, eB, AV.isCell, Int.reduceToNat, Int.reduceSub, Int.reduceAdd, Int.reduceNeg])
  refine Pu.use (GoodAuto_spec a sa) ?_
  cases ga : goodA a
  · (try simp (maxSteps := 1000000) (disch := (first | assumption | (apply Ne.symm; assumption))) only [vw0, vw1, vw2, vw3, vw4, vu0, vu1, ↓condV_t, ↓condV_f, cap_nil, allocV, splice, partV, buildV, eqFieldsV, eqS, tabs, TK.agg, reduceCtorEq, Array.toList, List.map_cons, List.map_nil, ↓reduceIte, List.length_map, Nat.reduceAdd, Nat.reduceLeDiff, Nat.reduceLT, Nat.reduceMul, Nat.reduceSub, Option.bind_some, Option.map_some, bndV, numV, eI, eU, e8, eB, AV.isCell, Int.reduceToNat, Int.reduceSub, Int.reduceAdd, Int.reduceNeg])
    have e : grR a = ([], false) := by simp [grR, ga]
    rw [e]
    exact ⟨_, _, .trans (.val (v' := .tup [aG [], B false]) (wk_tup ⟨wk_agg ⟨.nil, trivial⟩, .refl _, trivial⟩)) (.forget hle), rfl, rfl⟩
  · (try simp (maxSteps := 1000000) (disch := (first | assumption | (apply Ne.symm; assumption))) only [vw0, vw1, vw2, vw3, vw4, vu0, vu1, ↓condV_t, ↓condV_f, cap_nil, allocV, splice, partV, buildV, eqFieldsV, eqS, tabs, TK.agg, reduceCtorEq, Array.toList, List.map_cons, List.map_nil, ↓reduceIte, List.length_map, Nat.reduceAdd, Nat.reduceLeDiff, Nat.reduceLT, Nat.reduceMul, Nat.reduceSub, Option.bind_some, Option.map_some, bndV, numV, eI, eU, e8, eB, AV.isCell, Int.reduceToNat, Int.reduceSub, Int.reduceAdd, Int.reduceNeg])
    refine Pu.use (l12Graph_spec a (good_facts ga)) ?_
    (try simp (maxSteps := 1000000) (disch := (first | assumption | (apply Ne.symm; assumption))) only [vw0, vw1, vw2, vw3, vw4, vu0, vu1, ↓condV_t, ↓condV_f, cap_nil, allocV, splice, partV, buildV, eqFieldsV, eqS, tabs, TK.agg, reduceCtorEq, Array.toList, List.map_cons, List.map_nil, ↓reduceIte, List.length_map, Nat.reduceAdd, Nat.reduceLeDiff, Nat.reduceLT, Nat.reduceMul, Nat.reduceSub, Option.bind_some, Option.map_some, bndV, numV, eI, eU, e8, eB, AV.isCell, Int.reduceToNat, Int.reduceSub, Int.reduceAdd, Int.reduceNeg])
    have e : grR a = (nextG a, true) := by simp [grR, ga]
    rw [e]
    exact ⟨_, _, .forget (Heap.le_setN (Heap.le_set hr) hr2), rfl, rfl⟩
theorem Graph_impl (a : Au) (sa : smAu a) {H : Heap} {K : AV → Heap → Prop} (h : ∀ v G D, LGr (grR a).1 v G D → New H G D → K (.tup [v, B (grR a).2]) G) : CallT Try.prog 24 [aAu a] H K := by
  refine CallT.finish ?_
  refine W24_ok ?_; simp (maxSteps := 1000000) (disch := (first | assumption | (apply Ne.symm; assumption))) only [W24, vw0, vw1, vw2, vw3, vw4, vu0, vu1, ↓condV_t, ↓condV_f, cap_nil, allocV, splice, partV, buildV, eqFieldsV, eqS, tabs, TK.agg, reduceCtorEq, Array.toList, List.map_cons, List.map_nil, ↓reduceIte, List.length_map, Nat.reduceAdd, Nat.reduceLeDiff, Nat.reduceLT, Nat.reduceMul, Nat.reduceSub, Option.bind_some, Option.map_some, bndV, numV, eI, eU, e8, eB, AV.isCell, Int.reduceToNat, Int.reduceSub, Int.reduceAdd, Int.reduceNeg]
  intro r hr r2 nr2 hr2
  have st := ((St.nil H).cell hr [I a.states, Is a.first, Es a.edges, Ls a.goals]).cell (r := r2) (by rw [Heap.set_other nr2]; exact hr2) [.p .nil]
  generalize (H.set r [I a.states, Is a.first, Es a.edges, Ls a.goals]).set r2 [.p .nil] = G at st ⊢
  clear hr hr2 nr2
  (try simp (maxSteps := 1000000) (disch := (first | assumption | (apply Ne.symm; assumption))) only [vw0, vw1, vw2, vw3, vw4, vu0, vu1, ↓condV_t, ↓condV_f, cap_nil, allocV, splice, partV, buildV, eqFieldsV, eqS, tabs, TK.agg, reduceCtorEq, Array.toList, List.map_cons, List.map_nil, ↓reduceIte, List.length_map, Nat.reduceAdd, Nat.reduceLeDiff, Nat.reduceLT, Nat.reduceMul, Nat.reduceSub, Option.bind_some, Option.map_some, bndV, numV, eI, eU, e8, eB, AV.isCell, Int.reduceToNat, Int.reduceSub, Int.reduceAdd, Int.reduceNeg, load_at (st.get 1 rfl)])
  refine Pu.use (GoodAuto_impl a sa) ?_
  cases ga : goodA a
  · (try simp (maxSteps := 1000000) (disch := (first | assumption | (apply Ne.symm; assumption))) only [vw0, vw1, vw2, vw3, vw4, vu0, vu1, ↓condV_t, ↓condV_f, cap_nil, allocV, splice, partV, buildV, eqFieldsV, eqS, tabs, TK.agg, reduceCtorEq, Array.toList, List.map_cons, List.map_nil, ↓reduceIte, List.length_map, Nat.reduceAdd, Nat.reduceLeDiff, Nat.reduceLT, Nat.reduceMul, Nat.reduceSub, Option.bind_some, Option.map_some, bndV, numV, eI, eU, e8, eB, AV.isCell, Int.reduceToNat, Int.reduceSub, Int.reduceAdd, Int.reduceNeg, store_at (st.get 0 rfl)])
    have e : grR a = ([], false) := by simp [grR, ga]
    rw [e] at h
    replace st := st.put 0 rfl [.p .nil]
    refine .ghost fun z hz => ?_
    replace st := st.cell hz []
    refine .wk (.val (v' := .tup [.agg [.sl z 1 0 0], B false]) (wk_tup ⟨wk_agg ⟨.nilo _ _ _, trivial⟩, .refl _, trivial⟩)) (.done (h _ _ [z] ⟨z, rfl, z, [], [], rfl, st.get 0 rfl, ⟨rfl, rfl⟩, rfl⟩ ⟨st.ndT 0 rfl, st.fr _ (List.mem_cons_self ..), st.le⟩))
  · (try simp (maxSteps := 1000000) (disch := (first | assumption | (apply Ne.symm; assumption))) only [vw0, vw1, vw2, vw3, vw4, vu0, vu1, ↓condV_t, ↓condV_f, cap_nil, allocV, splice, partV, buildV, eqFieldsV, eqS, tabs, TK.agg, reduceCtorEq, Array.toList, List.map_cons, List.map_nil, ↓reduceIte, List.length_map, Nat.reduceAdd, Nat.reduceLeDiff, Nat.reduceLT, Nat.reduceMul, Nat.reduceSub, Option.bind_some, Option.map_some, bndV, numV, eI, eU, e8, eB, AV.isCell, Int.reduceToNat, Int.reduceSub, Int.reduceAdd, Int.reduceNeg, load_at (st.get 1 rfl)])
    refine next_live a (good_facts ga) fun x G2 D hx hn => ?_
    obtain ⟨q, rfl⟩ := LRow.sl hx
    replace st := st.push (grT (nextG a) _ D) hn ⟨q, rfl, hx⟩
    (try simp (maxSteps := 1000000) (disch := (first | assumption | (apply Ne.symm; assumption))) only [vw0, vw1, vw2, vw3, vw4, vu0, vu1, ↓condV_t, ↓condV_f, cap_nil, allocV, splice, partV, buildV, eqFieldsV, eqS, tabs, TK.agg, reduceCtorEq, Array.toList, List.map_cons, List.map_nil, ↓reduceIte, List.length_map, Nat.reduceAdd, Nat.reduceLeDiff, Nat.reduceLT, Nat.reduceMul, Nat.reduceSub, Option.bind_some, Option.map_some, bndV, numV, eI, eU, e8, eB, AV.isCell, Int.reduceToNat, Int.reduceSub, Int.reduceAdd, Int.reduceNeg, store_at (st.get 1 rfl)])
    have e : grR a = (nextG a, true) := by simp [grR, ga]
    rw [e] at h
    replace st := st.put 1 rfl [.sl q 1 0 (nextG a).length]
    exact .done (h _ _ D (st.get 0 rfl) ⟨st.ndT 0 rfl, st.fr _ (List.mem_cons_self ..), st.le⟩)
theorem FnExactAutoGraph_true {a : Au} (oa : okAu a) : Pu Try.prog 6 [aAu a] (B true) := by
  refine Pu.of fun H => ?_
  refine W6_ok ?_; simp (maxSteps := 1000000) (disch := (first | assumption | (apply Ne.symm; assumption))) only [W6, vw0, vw1, vw2, vw3, vw4, vu0, vu1, ↓condV_t, ↓condV_f, cap_nil, allocV, splice, partV, buildV, eqFieldsV, eqS, tabs, TK.agg, reduceCtorEq, Array.toList, List.map_cons, List.map_nil, ↓reduceIte, List.length_map, Nat.reduceAdd, Nat.reduceLeDiff, Nat.reduceLT, Nat.reduceMul, Nat.reduceSub, Option.bind_some, Option.map_some, bndV, numV, eI, eU, e8, eB, AV.isCell, Int.reduceToNat, Int.reduceSub, Int.reduceAdd, Int.reduceNeg]
  intro r hr
  have st := (St.nil H).cell hr [I a.states, Is a.first, Es a.edges, Ls a.goals]
  (try simp (maxSteps := 1000000) (disch := (first | assumption | (apply Ne.symm; assumption))) only [vw0, vw1, vw2, vw3, vw4, vu0, vu1, ↓condV_t, ↓condV_f, cap_nil, allocV, splice, partV, buildV, eqFieldsV, eqS, tabs, TK.agg, reduceCtorEq, Array.toList, List.map_cons, List.map_nil, ↓reduceIte, List.length_map, Nat.reduceAdd, Nat.reduceLeDiff, Nat.reduceLT, Nat.reduceMul, Nat.reduceSub, Option.bind_some, Option.map_some, bndV, numV, eI, eU, e8, eB, AV.isCell, Int.reduceToNat, Int.reduceSub, Int.reduceAdd, Int.reduceNeg])
  refine Pu.use (szAuto_spec a 1048576 (by omega) (by omega) oa) ?_
  (try simp (maxSteps := 1000000) (disch := (first | assumption | (apply Ne.symm; assumption))) only [vw0, vw1, vw2, vw3, vw4, vu0, vu1, ↓condV_t, ↓condV_f, cap_nil, allocV, splice, partV, buildV, eqFieldsV, eqS, tabs, TK.agg, reduceCtorEq, Array.toList, List.map_cons, List.map_nil, ↓reduceIte, List.length_map, Nat.reduceAdd, Nat.reduceLeDiff, Nat.reduceLT, Nat.reduceMul, Nat.reduceSub, Option.bind_some, Option.map_some, bndV, numV, eI, eU, e8, eB, AV.isCell, Int.reduceToNat, Int.reduceSub, Int.reduceAdd, Int.reduceNeg])
  refine ⟨fun _ => st.le, fun h1 => ?_⟩
  have e2 : (totAu a : Int) ≤ 1048576 := by
    unfold szR at h1
    split at h1 <;> omega
  have sa := smAu_of e2
  refine Pu.use (toAuto_spec a sa) ?_
  refine Pu.use (Graph_ref a sa) ?_
  have hres := grR_sm a
  have hI : ∀ {H : Heap} {K : AV → Heap → Prop}, (∀ v G D, LGr (grR a).1 v G D → New H G D → K (.tup [v, B (grR a).2]) G) → CallT Try.prog 24 [aAu a] H K := Graph_impl a sa
  generalize (grR a).1 = o at hres hI
  generalize (grR a).2 = ok at hI
  have hps : (0 : Int) ≤ psum totL o o.length ∧ psum totL o o.length ≤ 1048576 := by have := hres.2; unfold totLs at this; omega
  (try simp (maxSteps := 1000000) (disch := (first | assumption | (apply Ne.symm; assumption))) only [vw0, vw1, vw2, vw3, vw4, vu0, vu1, ↓condV_t, ↓condV_f, cap_nil, allocV, splice, partV, buildV, eqFieldsV, eqS, tabs, TK.agg, reduceCtorEq, Array.toList, List.map_cons, List.map_nil, ↓reduceIte, List.length_map, Nat.reduceAdd, Nat.reduceLeDiff, Nat.reduceLT, Nat.reduceMul, Nat.reduceSub, Option.bind_some, Option.map_some, bndV, numV, eI, eU, e8, eB, AV.isCell, Int.reduceToNat, Int.reduceSub, Int.reduceAdd, Int.reduceNeg])
  intro w hw1 hw
  replace st := st.cell (r := w) (by rw [Heap.set_other hw1]; exact hw) [Ls o]
  generalize (H.set r [I a.states, Is a.first, Es a.edges, Ls a.goals]).set w [Ls o] = G at st ⊢
  clear hw1 hw hr
  (try simp (maxSteps := 1000000) (disch := (first | assumption | (apply Ne.symm; assumption))) only [vw0, vw1, vw2, vw3, vw4, vu0, vu1, ↓condV_t, ↓condV_f, cap_nil, allocV, splice, partV, buildV, eqFieldsV, eqS, tabs, TK.agg, reduceCtorEq, Array.toList, List.map_cons, List.map_nil, ↓reduceIte, List.length_map, Nat.reduceAdd, Nat.reduceLeDiff, Nat.reduceLT, Nat.reduceMul, Nat.reduceSub, Option.bind_some, Option.map_some, bndV, numV, eI, eU, e8, eB, AV.isCell, Int.reduceToNat, Int.reduceSub, Int.reduceAdd, Int.reduceNeg, load_at (st.get 1 rfl)])
  refine toAuto_live a sa fun va G1 Da la na => ?_
  replace st := st.push (auT a va Da) na la
  obtain ⟨a1, a2, a3, rfl⟩ := aAu_cells la
  clear la na
  (try simp (maxSteps := 1000000) (disch := (first | assumption | (apply Ne.symm; assumption))) only [vw0, vw1, vw2, vw3, vw4, vu0, vu1, ↓condV_t, ↓condV_f, cap_nil, allocV, splice, partV, buildV, eqFieldsV, eqS, tabs, TK.agg, reduceCtorEq, Array.toList, List.map_cons, List.map_nil, ↓reduceIte, List.length_map, Nat.reduceAdd, Nat.reduceLeDiff, Nat.reduceLT, Nat.reduceMul, Nat.reduceSub, Option.bind_some, Option.map_some, bndV, numV, eI, eU, e8, eB, AV.isCell, Int.reduceToNat, Int.reduceSub, Int.reduceAdd, Int.reduceNeg])
  intro x hx
  replace st := st.cell hx [I a.states, .sl a1 1 0 a.first.length, .sl a2 3 0 a.edges.length, .sl a3 1 0 a.goals.length]
  (try simp (maxSteps := 1000000) (disch := (first | assumption | (apply Ne.symm; assumption))) only [vw0, vw1, vw2, vw3, vw4, vu0, vu1, ↓condV_t, ↓condV_f, cap_nil, allocV, splice, partV, buildV, eqFieldsV, eqS, tabs, TK.agg, reduceCtorEq, Array.toList, List.map_cons, List.map_nil, ↓reduceIte, List.length_map, Nat.reduceAdd, Nat.reduceLeDiff, Nat.reduceLT, Nat.reduceMul, Nat.reduceSub, Option.bind_some, Option.map_some, bndV, numV, eI, eU, e8, eB, AV.isCell, Int.reduceToNat, Int.reduceSub, Int.reduceAdd, Int.reduceNeg, load_at (st.get 0 rfl)])
  generalize G1.set x [I a.states, .sl a1 1 0 a.first.length, .sl a2 3 0 a.edges.length, .sl a3 1 0 a.goals.length] = G2 at st ⊢
  obtain ⟨Gw, hwk, _⟩ := LAu.wk (st.get 1 rfl) (st.ndT 1 rfl) (fun v => .tup [v]) (fun h => .tup (.cons h .nil))
  refine thawGr hI hwk fun v G1 D lo no => ?_
  clear hwk
  replace st := st.push (grT o v D) no lo
  obtain ⟨o1, rfl, -⟩ := lo
  clear no
  (try simp (maxSteps := 1000000) (disch := (first | assumption | (apply Ne.symm; assumption))) only [vw0, vw1, vw2, vw3, vw4, vu0, vu1, ↓condV_t, ↓condV_f, cap_nil, allocV, splice, partV, buildV, eqFieldsV, eqS, tabs, TK.agg, reduceCtorEq, Array.toList, List.map_cons, List.map_nil, ↓reduceIte, List.length_map, Nat.reduceAdd, Nat.reduceLeDiff, Nat.reduceLT, Nat.reduceMul, Nat.reduceSub, Option.bind_some, Option.map_some, bndV, numV, eI, eU, e8, eB, AV.isCell, Int.reduceToNat, Int.reduceSub, Int.reduceAdd, Int.reduceNeg])
  intro z hz
  replace st := st.cell hz [.sl o1 1 0 o.length]
  (try simp (maxSteps := 1000000) (disch := (first | assumption | (apply Ne.symm; assumption))) only [vw0, vw1, vw2, vw3, vw4, vu0, vu1, ↓condV_t, ↓condV_f, cap_nil, allocV, splice, partV, buildV, eqFieldsV, eqS, tabs, TK.agg, reduceCtorEq, Array.toList, List.map_cons, List.map_nil, ↓reduceIte, List.length_map, Nat.reduceAdd, Nat.reduceLeDiff, Nat.reduceLT, Nat.reduceMul, Nat.reduceSub, Option.bind_some, Option.map_some, bndV, numV, eI, eU, e8, eB, AV.isCell, Int.reduceToNat, Int.reduceSub, Int.reduceAdd, Int.reduceNeg, load_at (st.get 4 rfl)])
  generalize G1.set z [.sl o1 1 0 o.length] = G2 at st ⊢
  refine LGr.eq (st.get 1 rfl) (st.ndT 1 rfl) hres.1 ?_
  (try simp (maxSteps := 1000000) (disch := (first | assumption | (apply Ne.symm; assumption))) only [vw0, vw1, vw2, vw3, vw4, vu0, vu1, ↓condV_t, ↓condV_f, cap_nil, allocV, splice, partV, buildV, eqFieldsV, eqS, tabs, TK.agg, reduceCtorEq, Array.toList, List.map_cons, List.map_nil, ↓reduceIte, List.length_map, Nat.reduceAdd, Nat.reduceLeDiff, Nat.reduceLT, Nat.reduceMul, Nat.reduceSub, Option.bind_some, Option.map_some, bndV, numV, eI, eU, e8, eB, AV.isCell, Int.reduceToNat, Int.reduceSub, Int.reduceAdd, Int.reduceNeg, load_at (st.get 2 rfl), load_at (st.get 5 rfl)])
  refine Pu.use (toAuto_spec a sa) ?_
  (try simp (maxSteps := 1000000) (disch := (first | assumption | (apply Ne.symm; assumption))) only [vw0, vw1, vw2, vw3, vw4, vu0, vu1, ↓condV_t, ↓condV_f, cap_nil, allocV, splice, partV, buildV, eqFieldsV, eqS, tabs, TK.agg, reduceCtorEq, Array.toList, List.map_cons, List.map_nil, ↓reduceIte, List.length_map, Nat.reduceAdd, Nat.reduceLeDiff, Nat.reduceLT, Nat.reduceMul, Nat.reduceSub, Option.bind_some, Option.map_some, bndV, numV, eI, eU, e8, eB, AV.isCell, Int.reduceToNat, Int.reduceSub, Int.reduceAdd, Int.reduceNeg, load_at (st.get 2 rfl)])
  refine LAu.eq (st.get 3 rfl) (st.ndT 3 rfl) sa ?_
  (try simp (maxSteps := 1000000) (disch := (first | assumption | (apply Ne.symm; assumption))) only [vw0, vw1, vw2, vw3, vw4, vu0, vu1, ↓condV_t, ↓condV_f, cap_nil, allocV, splice, partV, buildV, eqFieldsV, eqS, tabs, TK.agg, reduceCtorEq, Array.toList, List.map_cons, List.map_nil, ↓reduceIte, List.length_map, Nat.reduceAdd, Nat.reduceLeDiff, Nat.reduceLT, Nat.reduceMul, Nat.reduceSub, Option.bind_some, Option.map_some, bndV, numV, eI, eU, e8, eB, AV.isCell, Int.reduceToNat, Int.reduceSub, Int.reduceAdd, Int.reduceNeg, load_at (st.get 2 rfl)])
  refine markAuto_live a (by omega) (st.get 3 rfl) (st.ndT 3 rfl) (by omega) (by omega) fun G ha hf => ?_
  replace st := st.upd 3 rfl (auT (mkAu 1 a) _ Da) rfl hf ha
  clear ha hf
  have ma := totM_le a
  (try simp (maxSteps := 1000000) (disch := (first | assumption | (apply Ne.symm; assumption))) only [vw0, vw1, vw2, vw3, vw4, vu0, vu1, ↓condV_t, ↓condV_f, cap_nil, allocV, splice, partV, buildV, eqFieldsV, eqS, tabs, TK.agg, reduceCtorEq, Array.toList, List.map_cons, List.map_nil, ↓reduceIte, List.length_map, Nat.reduceAdd, Nat.reduceLeDiff, Nat.reduceLT, Nat.reduceMul, Nat.reduceSub, Option.bind_some, Option.map_some, bndV, numV, eI, eU, e8, eB, AV.isCell, Int.reduceToNat, Int.reduceSub, Int.reduceAdd, Int.reduceNeg])
  refine ⟨fun h => by omega, fun _ => ?_⟩
  (try simp (maxSteps := 1000000) (disch := (first | assumption | (apply Ne.symm; assumption))) only [vw0, vw1, vw2, vw3, vw4, vu0, vu1, ↓condV_t, ↓condV_f, cap_nil, allocV, splice, partV, buildV, eqFieldsV, eqS, tabs, TK.agg, reduceCtorEq, Array.toList, List.map_cons, List.map_nil, ↓reduceIte, List.length_map, Nat.reduceAdd, Nat.reduceLeDiff, Nat.reduceLT, Nat.reduceMul, Nat.reduceSub, Option.bind_some, Option.map_some, bndV, numV, eI, eU, e8, eB, AV.isCell, Int.reduceToNat, Int.reduceSub, Int.reduceAdd, Int.reduceNeg, load_at (st.get 0 rfl), load_at (st.get 4 rfl)])
  refine LGr.eq (st.get 1 rfl) (st.ndT 1 rfl) hres.1 ?_
  (try simp (maxSteps := 1000000) (disch := (first | assumption | (apply Ne.symm; assumption))) only [vw0, vw1, vw2, vw3, vw4, vu0, vu1, ↓condV_t, ↓condV_f, cap_nil, allocV, splice, partV, buildV, eqFieldsV, eqS, tabs, TK.agg, reduceCtorEq, Array.toList, List.map_cons, List.map_nil, ↓reduceIte, List.length_map, Nat.reduceAdd, Nat.reduceLeDiff, Nat.reduceLT, Nat.reduceMul, Nat.reduceSub, Option.bind_some, Option.map_some, bndV, numV, eI, eU, e8, eB, AV.isCell, Int.reduceToNat, Int.reduceSub, Int.reduceAdd, Int.reduceNeg, load_at (st.get 0 rfl)])
  refine markGraph_live o hres.2 (st.get 1 rfl) (st.ndT 1 rfl) fun G2 ho hf => ?_
  replace st := st.upd 1 rfl (grT (mkLs 1 o o.length) _ D) rfl hf ho
  clear ho hf
  (try simp (maxSteps := 1000000) (disch := (first | assumption | (apply Ne.symm; assumption))) only [vw0, vw1, vw2, vw3, vw4, vu0, vu1, ↓condV_t, ↓condV_f, cap_nil, allocV, splice, partV, buildV, eqFieldsV, eqS, tabs, TK.agg, reduceCtorEq, Array.toList, List.map_cons, List.map_nil, ↓reduceIte, List.length_map, Nat.reduceAdd, Nat.reduceLeDiff, Nat.reduceLT, Nat.reduceMul, Nat.reduceSub, Option.bind_some, Option.map_some, bndV, numV, eI, eU, e8, eB, AV.isCell, Int.reduceToNat, Int.reduceSub, Int.reduceAdd, Int.reduceNeg, load_at (st.get 0 rfl)])
  refine LGr.held (st.get 1 rfl) (st.ndT 1 rfl) hres.2 ?_
  (try simp (maxSteps := 1000000) (disch := (first | assumption | (apply Ne.symm; assumption))) only [vw0, vw1, vw2, vw3, vw4, vu0, vu1, ↓condV_t, ↓condV_f, cap_nil, allocV, splice, partV, buildV, eqFieldsV, eqS, tabs, TK.agg, reduceCtorEq, Array.toList, List.map_cons, List.map_nil, ↓reduceIte, List.length_map, Nat.reduceAdd, Nat.reduceLeDiff, Nat.reduceLT, Nat.reduceMul, Nat.reduceSub, Option.bind_some, Option.map_some, bndV, numV, eI, eU, e8, eB, AV.isCell, Int.reduceToNat, Int.reduceSub, Int.reduceAdd, Int.reduceNeg])
  refine ⟨fun h => by omega, fun _ => ?_⟩
  (try simp (maxSteps := 1000000) (disch := (first | assumption | (apply Ne.symm; assumption))) only [vw0, vw1, vw2, vw3, vw4, vu0, vu1, ↓condV_t, ↓condV_f, cap_nil, allocV, splice, partV, buildV, eqFieldsV, eqS, tabs, TK.agg, reduceCtorEq, Array.toList, List.map_cons, List.map_nil, ↓reduceIte, List.length_map, Nat.reduceAdd, Nat.reduceLeDiff, Nat.reduceLT, Nat.reduceMul, Nat.reduceSub, Option.bind_some, Option.map_some, bndV, numV, eI, eU, e8, eB, AV.isCell, Int.reduceToNat, Int.reduceSub, Int.reduceAdd, Int.reduceNeg, load_at (st.get 5 rfl)])
  refine Pu.use (toAuto_spec a sa) ?_
  refine hI fun v G3 E le ne => ?_
  replace st := st.push (grT o v E) ne le
  obtain ⟨u1, rfl, -⟩ := le
  clear ne
  (try simp (maxSteps := 1000000) (disch := (first | assumption | (apply Ne.symm; assumption))) only [vw0, vw1, vw2, vw3, vw4, vu0, vu1, ↓condV_t, ↓condV_f, cap_nil, allocV, splice, partV, buildV, eqFieldsV, eqS, tabs, TK.agg, reduceCtorEq, Array.toList, List.map_cons, List.map_nil, ↓reduceIte, List.length_map, Nat.reduceAdd, Nat.reduceLeDiff, Nat.reduceLT, Nat.reduceMul, Nat.reduceSub, Option.bind_some, Option.map_some, bndV, numV, eI, eU, e8, eB, AV.isCell, Int.reduceToNat, Int.reduceSub, Int.reduceAdd, Int.reduceNeg])
  intro u hu
  replace st := st.cell hu [.sl u1 1 0 o.length]
  (try simp (maxSteps := 1000000) (disch := (first | assumption | (apply Ne.symm; assumption))) only [vw0, vw1, vw2, vw3, vw4, vu0, vu1, ↓condV_t, ↓condV_f, cap_nil, allocV, splice, partV, buildV, eqFieldsV, eqS, tabs, TK.agg, reduceCtorEq, Array.toList, List.map_cons, List.map_nil, ↓reduceIte, List.length_map, Nat.reduceAdd, Nat.reduceLeDiff, Nat.reduceLT, Nat.reduceMul, Nat.reduceSub, Option.bind_some, Option.map_some, bndV, numV, eI, eU, e8, eB, AV.isCell, Int.reduceToNat, Int.reduceSub, Int.reduceAdd, Int.reduceNeg, load_at (st.get 6 rfl)])
  generalize G3.set u [.sl u1 1 0 o.length] = G4 at st ⊢
  refine LGr.eq (st.get 1 rfl) (st.ndT 1 rfl) hres.1 ?_
  (try simp (maxSteps := 1000000) (disch := (first | assumption | (apply Ne.symm; assumption))) only [vw0, vw1, vw2, vw3, vw4, vu0, vu1, ↓condV_t, ↓condV_f, cap_nil, allocV, splice, partV, buildV, eqFieldsV, eqS, tabs, TK.agg, reduceCtorEq, Array.toList, List.map_cons, List.map_nil, ↓reduceIte, List.length_map, Nat.reduceAdd, Nat.reduceLeDiff, Nat.reduceLT, Nat.reduceMul, Nat.reduceSub, Option.bind_some, Option.map_some, bndV, numV, eI, eU, e8, eB, AV.isCell, Int.reduceToNat, Int.reduceSub, Int.reduceAdd, Int.reduceNeg, load_at (st.get 2 rfl)])
  refine LGr.held (st.get 3 rfl) (st.ndT 3 rfl) hres.2 ?_
  (try simp (maxSteps := 1000000) (disch := (first | assumption | (apply Ne.symm; assumption))) only [vw0, vw1, vw2, vw3, vw4, vu0, vu1, ↓condV_t, ↓condV_f, cap_nil, allocV, splice, partV, buildV, eqFieldsV, eqS, tabs, TK.agg, reduceCtorEq, Array.toList, List.map_cons, List.map_nil, ↓reduceIte, List.length_map, Nat.reduceAdd, Nat.reduceLeDiff, Nat.reduceLT, Nat.reduceMul, Nat.reduceSub, Option.bind_some, Option.map_some, bndV, numV, eI, eU, e8, eB, AV.isCell, Int.reduceToNat, Int.reduceSub, Int.reduceAdd, Int.reduceNeg])
  exact ⟨fun h => by omega, fun _ => st.le⟩
end Go.Proofs.Ytfbaijpanbjmpaa
