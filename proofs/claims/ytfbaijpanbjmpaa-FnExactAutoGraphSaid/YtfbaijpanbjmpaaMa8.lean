/- The law on the union of two automata. -/
import Derived.Test.YtfbaijpanbjmpaaMa6
import Derived.Test.YtfbaijpanbjmpaaMa7
import Derived.Test.YtfbaijpanbjmpaaMb0
namespace Go.Proofs.Ytfbaijpanbjmpaa
open Go Go.Sep Go.Pt
set_option linter.unusedSimpArgs false
set_option linter.unusedVariables false
attribute [local irreducible] CallT

theorem eI_gd : Lay.Gd (LPl eI) := LPl.gd fun a x hx => by
  simp only [List.mem_singleton] at hx; subst hx; exact .int _ _
theorem eE_gd : Lay.Gd (LPl eE) := LPl.gd fun a x hx => by
  simp only [List.mem_cons, List.not_mem_nil, or_false] at hx
  rcases hx with rfl | rfl | rfl <;> exact .int _ _
theorem LIc.gd : Lay.Gd LIc := by
  rintro a cs G D ⟨x, rfl, h⟩
  obtain ⟨h1, h2⟩ := LRow.gd eI_gd h
  exact ⟨fun c hc => by rw [List.mem_singleton] at hc; subst hc; exact h1, h2⟩
theorem LIc.sh : Lay.Sh LIc := by
  rintro a cs G D n G0 h0 ⟨x, rfl, h⟩
  exact ⟨shC n x, rfl, LRow.sh (LPl.sh eI) h0 h⟩
theorem LAu.gd {a : Au} {v : AV} {G : Heap} {D : List Nat} (h : LAu a v G D) : Gd1 v ∧ ∀ y ∈ D, ∀ bs, G y = some bs → ∀ c ∈ bs, GdC c := by
  obtain ⟨x, y, z, D1, D2, D3, rfl, rfl, h1, h2, h3⟩ := h
  have a1 := LRow.gd eI_gd h1
  have a2 := LRow.gd eE_gd h2
  have a3 := LRow.gd LIc.gd h3
  refine ⟨.inl ⟨_, rfl, fun c hc => ?_⟩, fun u hu => ?_⟩
  · simp only [List.mem_cons, List.not_mem_nil, or_false] at hc
    rcases hc with rfl | rfl | rfl | rfl
    · exact .p (.int _ _)
    · exact a1.1
    · exact a2.1
    · exact a3.1
  · simp only [List.mem_append] at hu
    rcases hu with hu | hu | hu
    · exact a1.2 u hu
    · exact a2.2 u hu
    · exact a3.2 u hu
theorem LAu.sh {a : Au} {v : AV} {G : Heap} {D : List Nat} {n : Nat} {G0 : Heap} (h0 : ∀ q, n ≤ q → G0 q = none) (h : LAu a v G D) : LAu a (sh1 n v) (Heap.or G0 (shH n G)) (D.map (· + n)) := by
  obtain ⟨x, y, z, D1, D2, D3, rfl, rfl, h1, h2, h3⟩ := h
  exact ⟨shC n x, shC n y, shC n z, _, _, _, rfl, by rw [List.map_append, List.map_append], LRow.sh (LPl.sh eI) h0 h1, LRow.sh (LPl.sh eE) h0 h2, LRow.sh LIc.sh h0 h3⟩

/-- A function whose answer is an automaton of its own and a word: called with what is live. -/
theorem thawAu {P : Program} {f : Nat} {args args' : List AV} {G G1 : Heap} {o : Au} {ok : Bool} {K : AV → Heap → Prop}
    (hf : ∀ {K : AV → Heap → Prop}, (∀ v G D, LAu o v G D → New (fun _ => none) G D → K (.tup [v, B ok]) G) → CallT P f args' (fun _ => none) K)
    (hw : Wk (.tup args) G (.tup args') G1) (h : ∀ v G' D, LAu o v G' D → New G G' D → K (.tup [v, B ok]) G') : CallT P f args G K := by
  refine CallT.thawX (Q' := fun r H' => ∃ v D, LAu o v H' D ∧ D.Nodup ∧ r = .tup [v, B ok] ∧ ∀ y, y ∉ D → H' y = none) ?_ ?_ hw ?_
  · refine CallT.fin (hf fun v G D hl hn => ⟨_, only D G, .forget (only_le D G), v, D, hl.local fun y hy b hb => by rw [only_in hy]; exact hb, hn.nd, rfl, fun y hy => only_out hy⟩)
  · rintro r H' ⟨v, D, hl, _, rfl, hout⟩
    have gb : Gd1 (B ok) := .inr ⟨.p (.bool ok), fun _ => rfl⟩
    refine ⟨.inl ⟨_, rfl, fun u hu => ?_⟩, fun q cs hq => ?_⟩
    · rcases List.mem_cons.1 hu with rfl | hu
      · exact hl.gd.1
      · rw [List.mem_singleton] at hu; rw [hu]; exact gb
    · by_cases hD : q ∈ D
      · exact hl.gd.2 q hD cs hq
      · rw [hout q hD] at hq; cases hq
  · rintro r H' n ⟨v, D, hl, hnd, rfl, hout⟩ hn
    have e : sh2 n (.tup [v, B ok]) = .tup [sh1 n v, B ok] := rfl
    rw [e]
    refine h _ _ (D.map (· + n)) (hl.sh hn) ⟨?_, fun y hy => ?_, fun y b hb => by simp only [Heap.or, hb]⟩
    · exact List.pairwise_map.2 (hnd.imp fun h e => h (Nat.add_right_cancel e))
    · obtain ⟨z, _, rfl⟩ := List.mem_map.1 hy
      exact hn _ (by omega)
theorem LAu.eq {a : Au} {v : AV} {G : Heap} {D : List Nat} (g : LAu a v G D) (hD : D.Nodup) (hs : smAu a) {K : AV → Heap → Prop} (h : K (B true) G) : CallT Try.prog 13 [v, aAu a] G K := by
  obtain ⟨G1, w1, _⟩ := g.wk hD (fun v => .tup [v, aAu a]) (fun h => .tup (.cons h (.cons (.same _) .nil)))
  exact Pu.thaw (eqAuto_spec a hs) (.bool _) w1 h
theorem LAu.held {a : Au} {v : AV} {G : Heap} {D : List Nat} (g : LAu (mkAu 1 a) v G D) (hD : D.Nodup) (hs : totAu a ≤ 1048576) {K : AV → Heap → Prop} (h : K (I (1 + totM a)) G) : CallT Try.prog 15 [v, I 1] G K := by
  obtain ⟨G1, w1, _⟩ := g.wk hD (fun v => .tup [v, I 1]) (fun h => .tup (.cons h (.cons (.same _) .nil)))
  exact Pu.thaw (heldAuto_spec a hs (by omega) (by omega)) (.int _ _) w1 h

theorem eiR_sm {a b : Au} (ha : smAu a) : smAu (eiR a b).1 ∧ totAu (eiR a b).1 ≤ 10000 := by
  unfold eiR
  split
  · rename_i h
    simp only [Bool.and_eq_true] at h
    have fa := good_facts h.1.1
    have fb := good_facts h.1.2
    refine ⟨eiT_sm fa fb, ?_⟩
    have f := good_facts h.2
    have h1 := f.fi.2
    have h2 := f.ed
    have h3 := f.gl
    have h4 : psum totL (eiT a b).goals (eiT a b).goals.length ≤ 96 * (eiT a b).goals.length := by
      have key : ∀ i, i ≤ (eiT a b).goals.length → psum totL (eiT a b).goals i ≤ 96 * i := by
        intro i
        induction i with
        | zero => intro _; simp [psum]
        | succ i ih =>
          intro hi
          rw [psum_succ (by omega)]
          have := ih (by omega)
          have hm := getD_all (p := fun x => smI x ∧ x.length ≤ 96) (d := default) f.gi (i := i) (by omega)
          have e : totL ((eiT a b).goals.getD i default) = ((eiT a b).goals.getD i default).length := rfl
          omega
      exact key _ (Nat.le_refl _)
    show totAu (eiT a b) ≤ 10000
    unfold totAu totLs
    omega
  · refine ⟨⟨by simp [zeroA], by simp [zeroA], by simp [zeroA], fun c hc => by cases hc⟩, ?_⟩
    simp [totAu, totLs, zeroA, psum]

theorem Either_pu (a b : Au) (sa : smAu a) (sb : smAu b) : Pu Try.prog 10 [aAu a, aAu b] (.tup [aAu (eiR a b).1, B (eiR a b).2]) := by
  refine ⟨fun H => CallT.fin (Either_ref a b sa sb fun v G D hl hn => ?_)⟩
  obtain ⟨G1, w1, f1⟩ := hl.wk hn.nd (fun v => .tup [v, B (eiR a b).2]) (fun h => .tup (.cons h (.cons (.same _) .nil)))
  refine ⟨_, _, .trans w1 (.forget (H' := H) fun y bb hb => ?_), rfl, rfl⟩
  rw [f1 y (fun hm => by rw [hn.fr y hm] at hb; cases hb)]
  exact hn.le y bb hb
theorem aAu_cells {a : Au} {v : AV} {G : Heap} {D : List Nat} (h : LAu a v G D) : ∃ q1 q2 q3, v = .agg [I a.states, .sl q1 1 0 a.first.length, .sl q2 3 0 a.edges.length, .sl q3 1 0 a.goals.length] := by
  obtain ⟨x, y, z, D1, D2, D3, rfl, e, h1, h2, h3⟩ := h
  obtain ⟨q1, rfl⟩ := LRow.sl h1
  obtain ⟨q2, rfl⟩ := LRow.sl h2
  obtain ⟨q3, rfl⟩ := LRow.sl h3
  exact ⟨q1, q2, q3, rfl⟩

theorem wk2 {a b : Au} {va vb : AV} {Da Db : List Nat} {H G : Heap} {Ts : List Th} (s : St H Ts G) (i j : Nat) (hi : Ts[i]? = some (auT a va Da)) (hj : Ts[j]? = some (auT b vb Db)) (hij : i ≠ j) : ∃ G', Wk (.tup [va, vb]) G (.tup [aAu a, aAu b]) G' := by
  obtain ⟨G1, w1, f1⟩ := (s.get i hi : LAu a va G Da).wk (s.ndT i hi) (fun v => .tup [v, vb]) (fun h => .tup (.cons h (.cons (.same _) .nil)))
  have hb : LAu b vb G1 Db := (s.get j hj : LAu b vb G Db).local fun y hy bb hbb => by rw [f1 y (s.disjI j i hj hi (Ne.symm hij) y hy)]; exact hbb
  obtain ⟨G2, w2, f2⟩ := hb.wk (s.ndT j hj) (fun v => .tup [aAu a, v]) (fun h => .tup (.cons (.same _) (.cons h .nil)))
  exact ⟨G2, .trans w1 w2⟩
theorem sm_mk {a : Au} {k : Int} (h : smAu a) : smAu (mkAu k a) := by
  refine ⟨by rw [mkAu, marked_len]; exact h.1, by rw [mkAu, markE_len]; exact h.2.1, by rw [mkAu, mkLs_len]; exact h.2.2.1, fun c hc => ?_⟩
  obtain ⟨i, hi, rfl⟩ := List.mem_map.1 hc
  rw [mkL, marked_len]
  exact getD_all (p := fun c => c.length ≤ 1048576) (d := default) h.2.2.2 (List.mem_range.1 hi)

theorem FnExactEitherAuto_true {a b : Au} (oa : okAu a) (ob : okAu b) : Pu Try.prog 3 [aAu a, aAu b] (B true) := by
  refine Pu.of fun H => ?_
  refine W3_ok ?_; simp (maxSteps := 1000000) (disch := (first | assumption | (apply Ne.symm; assumption))) only [W3, vw0, vw1, vw2, vw3, vw4, vu0, vu1, ↓condV_t, ↓condV_f, cap_nil, allocV, splice, partV, buildV, eqFieldsV, eqS, tabs, TK.agg, reduceCtorEq, Array.toList, List.map_cons, List.map_nil, ↓reduceIte, List.length_map, Nat.reduceAdd, Nat.reduceLeDiff, Nat.reduceLT, Nat.reduceMul, Nat.reduceSub, Option.bind_some, Option.map_some, bndV, numV, eI, eU, e8, eB, AV.isCell, Int.reduceToNat, Int.reduceSub, Int.reduceAdd, Int.reduceNeg]
  intro r hr s nsr hs
  have nrs : r ≠ s := Ne.symm nsr
  have st := ((St.nil H).cell hr [I a.states, Is a.first, Es a.edges, Ls a.goals]).cell (r := s) (by rw [Heap.set_other nsr]; exact hs) [I b.states, Is b.first, Es b.edges, Ls b.goals]
  (try simp (maxSteps := 1000000) (disch := (first | assumption | (apply Ne.symm; assumption))) only [vw0, vw1, vw2, vw3, vw4, vu0, vu1, ↓condV_t, ↓condV_f, cap_nil, allocV, splice, partV, buildV, eqFieldsV, eqS, tabs, TK.agg, reduceCtorEq, Array.toList, List.map_cons, List.map_nil, ↓reduceIte, List.length_map, Nat.reduceAdd, Nat.reduceLeDiff, Nat.reduceLT, Nat.reduceMul, Nat.reduceSub, Option.bind_some, Option.map_some, bndV, numV, eI, eU, e8, eB, AV.isCell, Int.reduceToNat, Int.reduceSub, Int.reduceAdd, Int.reduceNeg])
  refine Pu.use (szAuto_spec a 1048576 (by omega) (by omega) oa) ?_
  (try simp (maxSteps := 1000000) (disch := (first | assumption | (apply Ne.symm; assumption))) only [vw0, vw1, vw2, vw3, vw4, vu0, vu1, ↓condV_t, ↓condV_f, cap_nil, allocV, splice, partV, buildV, eqFieldsV, eqS, tabs, TK.agg, reduceCtorEq, Array.toList, List.map_cons, List.map_nil, ↓reduceIte, List.length_map, Nat.reduceAdd, Nat.reduceLeDiff, Nat.reduceLT, Nat.reduceMul, Nat.reduceSub, Option.bind_some, Option.map_some, bndV, numV, eI, eU, e8, eB, AV.isCell, Int.reduceToNat, Int.reduceSub, Int.reduceAdd, Int.reduceNeg])
  refine ⟨fun _ => st.le, fun h1 => ?_⟩
  have e1 : szR 1048576 (totAu a) = 1048576 - totAu a ∧ (totAu a : Int) ≤ 1048576 := by
    unfold szR at h1 ⊢
    split at h1
    · rename_i h; exact ⟨by rw [if_pos h], h⟩
    · omega
  rw [e1.1]
  have sa := smAu_of e1.2
  refine Pu.use (szAuto_spec b _ (by omega) (by omega) ob) ?_
  (try simp (maxSteps := 1000000) (disch := (first | assumption | (apply Ne.symm; assumption))) only [vw0, vw1, vw2, vw3, vw4, vu0, vu1, ↓condV_t, ↓condV_f, cap_nil, allocV, splice, partV, buildV, eqFieldsV, eqS, tabs, TK.agg, reduceCtorEq, Array.toList, List.map_cons, List.map_nil, ↓reduceIte, List.length_map, Nat.reduceAdd, Nat.reduceLeDiff, Nat.reduceLT, Nat.reduceMul, Nat.reduceSub, Option.bind_some, Option.map_some, bndV, numV, eI, eU, e8, eB, AV.isCell, Int.reduceToNat, Int.reduceSub, Int.reduceAdd, Int.reduceNeg])
  refine ⟨fun _ => st.le, fun h2 => ?_⟩
  have e2 : (totAu b : Int) ≤ 1048576 := by
    unfold szR at h2
    split at h2 <;> omega
  have sb := smAu_of e2
  refine Pu.use (toAuto_spec a sa) ?_
  (try simp (maxSteps := 1000000) (disch := (first | assumption | (apply Ne.symm; assumption))) only [vw0, vw1, vw2, vw3, vw4, vu0, vu1, ↓condV_t, ↓condV_f, cap_nil, allocV, splice, partV, buildV, eqFieldsV, eqS, tabs, TK.agg, reduceCtorEq, Array.toList, List.map_cons, List.map_nil, ↓reduceIte, List.length_map, Nat.reduceAdd, Nat.reduceLeDiff, Nat.reduceLT, Nat.reduceMul, Nat.reduceSub, Option.bind_some, Option.map_some, bndV, numV, eI, eU, e8, eB, AV.isCell, Int.reduceToNat, Int.reduceSub, Int.reduceAdd, Int.reduceNeg])
  refine Pu.use (toAuto_spec b sb) ?_
  refine Pu.use (Either_pu a b sa sb) ?_
  have hres := eiR_sm (b := b) sa
  have hI : ∀ {H : Heap} {K : AV → Heap → Prop}, (∀ v G D, LAu (eiR a b).1 v G D → New H G D → K (.tup [v, B (eiR a b).2]) G) → CallT Try.prog 12 [aAu a, aAu b] H K := Either_impl a b sa sb
  generalize (eiR a b).1 = o at hres hI
  generalize (eiR a b).2 = ok at hI
  (try simp (maxSteps := 1000000) (disch := (first | assumption | (apply Ne.symm; assumption))) only [vw0, vw1, vw2, vw3, vw4, vu0, vu1, ↓condV_t, ↓condV_f, cap_nil, allocV, splice, partV, buildV, eqFieldsV, eqS, tabs, TK.agg, reduceCtorEq, Array.toList, List.map_cons, List.map_nil, ↓reduceIte, List.length_map, Nat.reduceAdd, Nat.reduceLeDiff, Nat.reduceLT, Nat.reduceMul, Nat.reduceSub, Option.bind_some, Option.map_some, bndV, numV, eI, eU, e8, eB, AV.isCell, Int.reduceToNat, Int.reduceSub, Int.reduceAdd, Int.reduceNeg])
  intro w hw1 hw2 hw
  replace st := st.cell (r := w) (by rw [Heap.set_other hw1, Heap.set_other hw2]; exact hw) [I o.states, Is o.first, Es o.edges, Ls o.goals]
  generalize ((H.set r [I a.states, Is a.first, Es a.edges, Ls a.goals]).set s [I b.states, Is b.first, Es b.edges, Ls b.goals]).set w [I o.states, Is o.first, Es o.edges, Ls o.goals] = G at st ⊢
  clear hw1 hw2 hw nsr nrs hr hs
  (try simp (maxSteps := 1000000) (disch := (first | assumption | (apply Ne.symm; assumption))) only [vw0, vw1, vw2, vw3, vw4, vu0, vu1, ↓condV_t, ↓condV_f, cap_nil, allocV, splice, partV, buildV, eqFieldsV, eqS, tabs, TK.agg, reduceCtorEq, Array.toList, List.map_cons, List.map_nil, ↓reduceIte, List.length_map, Nat.reduceAdd, Nat.reduceLeDiff, Nat.reduceLT, Nat.reduceMul, Nat.reduceSub, Option.bind_some, Option.map_some, bndV, numV, eI, eU, e8, eB, AV.isCell, Int.reduceToNat, Int.reduceSub, Int.reduceAdd, Int.reduceNeg, load_at (st.get 2 rfl)])
  refine toAuto_live a sa fun va G1 Da la na => ?_
  replace st := st.push (auT a va Da) na la
  obtain ⟨a1, a2, a3, rfl⟩ := aAu_cells la
  clear la na
  (try simp (maxSteps := 1000000) (disch := (first | assumption | (apply Ne.symm; assumption))) only [vw0, vw1, vw2, vw3, vw4, vu0, vu1, ↓condV_t, ↓condV_f, cap_nil, allocV, splice, partV, buildV, eqFieldsV, eqS, tabs, TK.agg, reduceCtorEq, Array.toList, List.map_cons, List.map_nil, ↓reduceIte, List.length_map, Nat.reduceAdd, Nat.reduceLeDiff, Nat.reduceLT, Nat.reduceMul, Nat.reduceSub, Option.bind_some, Option.map_some, bndV, numV, eI, eU, e8, eB, AV.isCell, Int.reduceToNat, Int.reduceSub, Int.reduceAdd, Int.reduceNeg])
  intro x hx
  replace st := st.cell hx [I a.states, .sl a1 1 0 a.first.length, .sl a2 3 0 a.edges.length, .sl a3 1 0 a.goals.length]
  (try simp (maxSteps := 1000000) (disch := (first | assumption | (apply Ne.symm; assumption))) only [vw0, vw1, vw2, vw3, vw4, vu0, vu1, ↓condV_t, ↓condV_f, cap_nil, allocV, splice, partV, buildV, eqFieldsV, eqS, tabs, TK.agg, reduceCtorEq, Array.toList, List.map_cons, List.map_nil, ↓reduceIte, List.length_map, Nat.reduceAdd, Nat.reduceLeDiff, Nat.reduceLT, Nat.reduceMul, Nat.reduceSub, Option.bind_some, Option.map_some, bndV, numV, eI, eU, e8, eB, AV.isCell, Int.reduceToNat, Int.reduceSub, Int.reduceAdd, Int.reduceNeg, load_at (st.get 3 rfl)])
  generalize G1.set x [I a.states, .sl a1 1 0 a.first.length, .sl a2 3 0 a.edges.length, .sl a3 1 0 a.goals.length] = G2 at st ⊢
  clear hx G1 G
  refine toAuto_live b sb fun vb G1 Db lb nb => ?_
  replace st := st.push (auT b vb Db) nb lb
  obtain ⟨b1, b2, b3, rfl⟩ := aAu_cells lb
  clear lb nb
  (try simp (maxSteps := 1000000) (disch := (first | assumption | (apply Ne.symm; assumption))) only [vw0, vw1, vw2, vw3, vw4, vu0, vu1, ↓condV_t, ↓condV_f, cap_nil, allocV, splice, partV, buildV, eqFieldsV, eqS, tabs, TK.agg, reduceCtorEq, Array.toList, List.map_cons, List.map_nil, ↓reduceIte, List.length_map, Nat.reduceAdd, Nat.reduceLeDiff, Nat.reduceLT, Nat.reduceMul, Nat.reduceSub, Option.bind_some, Option.map_some, bndV, numV, eI, eU, e8, eB, AV.isCell, Int.reduceToNat, Int.reduceSub, Int.reduceAdd, Int.reduceNeg])
  intro y hy
  replace st := st.cell hy [I b.states, .sl b1 1 0 b.first.length, .sl b2 3 0 b.edges.length, .sl b3 1 0 b.goals.length]
  (try simp (maxSteps := 1000000) (disch := (first | assumption | (apply Ne.symm; assumption))) only [vw0, vw1, vw2, vw3, vw4, vu0, vu1, ↓condV_t, ↓condV_f, cap_nil, allocV, splice, partV, buildV, eqFieldsV, eqS, tabs, TK.agg, reduceCtorEq, Array.toList, List.map_cons, List.map_nil, ↓reduceIte, List.length_map, Nat.reduceAdd, Nat.reduceLeDiff, Nat.reduceLT, Nat.reduceMul, Nat.reduceSub, Option.bind_some, Option.map_some, bndV, numV, eI, eU, e8, eB, AV.isCell, Int.reduceToNat, Int.reduceSub, Int.reduceAdd, Int.reduceNeg, load_at (st.get 2 rfl)])
  generalize G1.set y [I b.states, .sl b1 1 0 b.first.length, .sl b2 3 0 b.edges.length, .sl b3 1 0 b.goals.length] = G at st ⊢
  clear hy G1 G2
  obtain ⟨Gw, hwk⟩ := wk2 st 3 1 rfl rfl (by decide)
  refine thawAu hI hwk fun v G1 D lo no => ?_
  clear hwk Gw
  replace st := st.push (auT o v D) no lo
  obtain ⟨o1, o2, o3, rfl⟩ := aAu_cells lo
  clear lo no
  (try simp (maxSteps := 1000000) (disch := (first | assumption | (apply Ne.symm; assumption))) only [vw0, vw1, vw2, vw3, vw4, vu0, vu1, ↓condV_t, ↓condV_f, cap_nil, allocV, splice, partV, buildV, eqFieldsV, eqS, tabs, TK.agg, reduceCtorEq, Array.toList, List.map_cons, List.map_nil, ↓reduceIte, List.length_map, Nat.reduceAdd, Nat.reduceLeDiff, Nat.reduceLT, Nat.reduceMul, Nat.reduceSub, Option.bind_some, Option.map_some, bndV, numV, eI, eU, e8, eB, AV.isCell, Int.reduceToNat, Int.reduceSub, Int.reduceAdd, Int.reduceNeg])
  intro z hz
  replace st := st.cell hz [I o.states, .sl o1 1 0 o.first.length, .sl o2 3 0 o.edges.length, .sl o3 1 0 o.goals.length]
  (try simp (maxSteps := 1000000) (disch := (first | assumption | (apply Ne.symm; assumption))) only [vw0, vw1, vw2, vw3, vw4, vu0, vu1, ↓condV_t, ↓condV_f, cap_nil, allocV, splice, partV, buildV, eqFieldsV, eqS, tabs, TK.agg, reduceCtorEq, Array.toList, List.map_cons, List.map_nil, ↓reduceIte, List.length_map, Nat.reduceAdd, Nat.reduceLeDiff, Nat.reduceLT, Nat.reduceMul, Nat.reduceSub, Option.bind_some, Option.map_some, bndV, numV, eI, eU, e8, eB, AV.isCell, Int.reduceToNat, Int.reduceSub, Int.reduceAdd, Int.reduceNeg, load_at (st.get 6 rfl)])
  generalize G1.set z [I o.states, .sl o1 1 0 o.first.length, .sl o2 3 0 o.edges.length, .sl o3 1 0 o.goals.length] = G2 at st ⊢
  clear hz G1 G
  refine LAu.eq (st.get 1 rfl) (st.ndT 1 rfl) hres.1 ?_
  (try simp (maxSteps := 1000000) (disch := (first | assumption | (apply Ne.symm; assumption))) only [vw0, vw1, vw2, vw3, vw4, vu0, vu1, ↓condV_t, ↓condV_f, cap_nil, allocV, splice, partV, buildV, eqFieldsV, eqS, tabs, TK.agg, reduceCtorEq, Array.toList, List.map_cons, List.map_nil, ↓reduceIte, List.length_map, Nat.reduceAdd, Nat.reduceLeDiff, Nat.reduceLT, Nat.reduceMul, Nat.reduceSub, Option.bind_some, Option.map_some, bndV, numV, eI, eU, e8, eB, AV.isCell, Int.reduceToNat, Int.reduceSub, Int.reduceAdd, Int.reduceNeg, load_at (st.get 4 rfl), load_at (st.get 8 rfl)])
  refine Pu.use (toAuto_spec a sa) ?_
  (try simp (maxSteps := 1000000) (disch := (first | assumption | (apply Ne.symm; assumption))) only [vw0, vw1, vw2, vw3, vw4, vu0, vu1, ↓condV_t, ↓condV_f, cap_nil, allocV, splice, partV, buildV, eqFieldsV, eqS, tabs, TK.agg, reduceCtorEq, Array.toList, List.map_cons, List.map_nil, ↓reduceIte, List.length_map, Nat.reduceAdd, Nat.reduceLeDiff, Nat.reduceLT, Nat.reduceMul, Nat.reduceSub, Option.bind_some, Option.map_some, bndV, numV, eI, eU, e8, eB, AV.isCell, Int.reduceToNat, Int.reduceSub, Int.reduceAdd, Int.reduceNeg, load_at (st.get 4 rfl)])
  refine LAu.eq (st.get 5 rfl) (st.ndT 5 rfl) sa ?_
  (try simp (maxSteps := 1000000) (disch := (first | assumption | (apply Ne.symm; assumption))) only [vw0, vw1, vw2, vw3, vw4, vu0, vu1, ↓condV_t, ↓condV_f, cap_nil, allocV, splice, partV, buildV, eqFieldsV, eqS, tabs, TK.agg, reduceCtorEq, Array.toList, List.map_cons, List.map_nil, ↓reduceIte, List.length_map, Nat.reduceAdd, Nat.reduceLeDiff, Nat.reduceLT, Nat.reduceMul, Nat.reduceSub, Option.bind_some, Option.map_some, bndV, numV, eI, eU, e8, eB, AV.isCell, Int.reduceToNat, Int.reduceSub, Int.reduceAdd, Int.reduceNeg, load_at (st.get 2 rfl), load_at (st.get 7 rfl)])
  refine Pu.use (toAuto_spec b sb) ?_
  (try simp (maxSteps := 1000000) (disch := (first | assumption | (apply Ne.symm; assumption))) only [vw0, vw1, vw2, vw3, vw4, vu0, vu1, ↓condV_t, ↓condV_f, cap_nil, allocV, splice, partV, buildV, eqFieldsV, eqS, tabs, TK.agg, reduceCtorEq, Array.toList, List.map_cons, List.map_nil, ↓reduceIte, List.length_map, Nat.reduceAdd, Nat.reduceLeDiff, Nat.reduceLT, Nat.reduceMul, Nat.reduceSub, Option.bind_some, Option.map_some, bndV, numV, eI, eU, e8, eB, AV.isCell, Int.reduceToNat, Int.reduceSub, Int.reduceAdd, Int.reduceNeg, load_at (st.get 2 rfl)])
  refine LAu.eq (st.get 3 rfl) (st.ndT 3 rfl) sb ?_
  (try simp (maxSteps := 1000000) (disch := (first | assumption | (apply Ne.symm; assumption))) only [vw0, vw1, vw2, vw3, vw4, vu0, vu1, ↓condV_t, ↓condV_f, cap_nil, allocV, splice, partV, buildV, eqFieldsV, eqS, tabs, TK.agg, reduceCtorEq, Array.toList, List.map_cons, List.map_nil, ↓reduceIte, List.length_map, Nat.reduceAdd, Nat.reduceLeDiff, Nat.reduceLT, Nat.reduceMul, Nat.reduceSub, Option.bind_some, Option.map_some, bndV, numV, eI, eU, e8, eB, AV.isCell, Int.reduceToNat, Int.reduceSub, Int.reduceAdd, Int.reduceNeg, load_at (st.get 4 rfl)])
  refine markAuto_live a (by omega) (st.get 5 rfl) (st.ndT 5 rfl) (by omega) (by omega) fun G ha hf => ?_
  replace st := st.upd 5 rfl (auT (mkAu 1 a) _ Da) rfl hf ha
  clear ha hf
  have ma := totM_le a
  (try simp (maxSteps := 1000000) (disch := (first | assumption | (apply Ne.symm; assumption))) only [vw0, vw1, vw2, vw3, vw4, vu0, vu1, ↓condV_t, ↓condV_f, cap_nil, allocV, splice, partV, buildV, eqFieldsV, eqS, tabs, TK.agg, reduceCtorEq, Array.toList, List.map_cons, List.map_nil, ↓reduceIte, List.length_map, Nat.reduceAdd, Nat.reduceLeDiff, Nat.reduceLT, Nat.reduceMul, Nat.reduceSub, Option.bind_some, Option.map_some, bndV, numV, eI, eU, e8, eB, AV.isCell, Int.reduceToNat, Int.reduceSub, Int.reduceAdd, Int.reduceNeg, load_at (st.get 2 rfl)])
  refine markAuto_live b (by omega) (st.get 3 rfl) (st.ndT 3 rfl) (by omega) (by omega) fun G1 hb hf => ?_
  replace st := st.upd 3 rfl (auT (mkAu (1 + totM a) b) _ Db) rfl hf hb
  clear hb hf
  have mb := totM_le b
  (try simp (maxSteps := 1000000) (disch := (first | assumption | (apply Ne.symm; assumption))) only [vw0, vw1, vw2, vw3, vw4, vu0, vu1, ↓condV_t, ↓condV_f, cap_nil, allocV, splice, partV, buildV, eqFieldsV, eqS, tabs, TK.agg, reduceCtorEq, Array.toList, List.map_cons, List.map_nil, ↓reduceIte, List.length_map, Nat.reduceAdd, Nat.reduceLeDiff, Nat.reduceLT, Nat.reduceMul, Nat.reduceSub, Option.bind_some, Option.map_some, bndV, numV, eI, eU, e8, eB, AV.isCell, Int.reduceToNat, Int.reduceSub, Int.reduceAdd, Int.reduceNeg])
  refine ⟨fun h => by omega, fun _ => ?_⟩
  (try simp (maxSteps := 1000000) (disch := (first | assumption | (apply Ne.symm; assumption))) only [vw0, vw1, vw2, vw3, vw4, vu0, vu1, ↓condV_t, ↓condV_f, cap_nil, allocV, splice, partV, buildV, eqFieldsV, eqS, tabs, TK.agg, reduceCtorEq, Array.toList, List.map_cons, List.map_nil, ↓reduceIte, List.length_map, Nat.reduceAdd, Nat.reduceLeDiff, Nat.reduceLT, Nat.reduceMul, Nat.reduceSub, Option.bind_some, Option.map_some, bndV, numV, eI, eU, e8, eB, AV.isCell, Int.reduceToNat, Int.reduceSub, Int.reduceAdd, Int.reduceNeg, load_at (st.get 0 rfl), load_at (st.get 6 rfl)])
  refine LAu.eq (st.get 1 rfl) (st.ndT 1 rfl) hres.1 ?_
  (try simp (maxSteps := 1000000) (disch := (first | assumption | (apply Ne.symm; assumption))) only [vw0, vw1, vw2, vw3, vw4, vu0, vu1, ↓condV_t, ↓condV_f, cap_nil, allocV, splice, partV, buildV, eqFieldsV, eqS, tabs, TK.agg, reduceCtorEq, Array.toList, List.map_cons, List.map_nil, ↓reduceIte, List.length_map, Nat.reduceAdd, Nat.reduceLeDiff, Nat.reduceLT, Nat.reduceMul, Nat.reduceSub, Option.bind_some, Option.map_some, bndV, numV, eI, eU, e8, eB, AV.isCell, Int.reduceToNat, Int.reduceSub, Int.reduceAdd, Int.reduceNeg, load_at (st.get 0 rfl)])
  refine markAuto_live o (by omega) (st.get 1 rfl) (st.ndT 1 rfl) (by omega) (by omega) fun G2 ho hf => ?_
  replace st := st.upd 1 rfl (auT (mkAu 1 o) _ D) rfl hf ho
  clear ho hf
  (try simp (maxSteps := 1000000) (disch := (first | assumption | (apply Ne.symm; assumption))) only [vw0, vw1, vw2, vw3, vw4, vu0, vu1, ↓condV_t, ↓condV_f, cap_nil, allocV, splice, partV, buildV, eqFieldsV, eqS, tabs, TK.agg, reduceCtorEq, Array.toList, List.map_cons, List.map_nil, ↓reduceIte, List.length_map, Nat.reduceAdd, Nat.reduceLeDiff, Nat.reduceLT, Nat.reduceMul, Nat.reduceSub, Option.bind_some, Option.map_some, bndV, numV, eI, eU, e8, eB, AV.isCell, Int.reduceToNat, Int.reduceSub, Int.reduceAdd, Int.reduceNeg, load_at (st.get 0 rfl)])
  refine LAu.held (st.get 1 rfl) (st.ndT 1 rfl) (by omega) ?_
  have mo := totM_le o
  (try simp (maxSteps := 1000000) (disch := (first | assumption | (apply Ne.symm; assumption))) only [vw0, vw1, vw2, vw3, vw4, vu0, vu1, ↓condV_t, ↓condV_f, cap_nil, allocV, splice, partV, buildV, eqFieldsV, eqS, tabs, TK.agg, reduceCtorEq, Array.toList, List.map_cons, List.map_nil, ↓reduceIte, List.length_map, Nat.reduceAdd, Nat.reduceLeDiff, Nat.reduceLT, Nat.reduceMul, Nat.reduceSub, Option.bind_some, Option.map_some, bndV, numV, eI, eU, e8, eB, AV.isCell, Int.reduceToNat, Int.reduceSub, Int.reduceAdd, Int.reduceNeg])
  refine ⟨fun h => by omega, fun _ => ?_⟩
  (try simp (maxSteps := 1000000) (disch := (first | assumption | (apply Ne.symm; assumption))) only [vw0, vw1, vw2, vw3, vw4, vu0, vu1, ↓condV_t, ↓condV_f, cap_nil, allocV, splice, partV, buildV, eqFieldsV, eqS, tabs, TK.agg, reduceCtorEq, Array.toList, List.map_cons, List.map_nil, ↓reduceIte, List.length_map, Nat.reduceAdd, Nat.reduceLeDiff, Nat.reduceLT, Nat.reduceMul, Nat.reduceSub, Option.bind_some, Option.map_some, bndV, numV, eI, eU, e8, eB, AV.isCell, Int.reduceToNat, Int.reduceSub, Int.reduceAdd, Int.reduceNeg, load_at (st.get 8 rfl), load_at (st.get 7 rfl)])
  refine Pu.use (toAuto_spec a sa) ?_
  (try simp (maxSteps := 1000000) (disch := (first | assumption | (apply Ne.symm; assumption))) only [vw0, vw1, vw2, vw3, vw4, vu0, vu1, ↓condV_t, ↓condV_f, cap_nil, allocV, splice, partV, buildV, eqFieldsV, eqS, tabs, TK.agg, reduceCtorEq, Array.toList, List.map_cons, List.map_nil, ↓reduceIte, List.length_map, Nat.reduceAdd, Nat.reduceLeDiff, Nat.reduceLT, Nat.reduceMul, Nat.reduceSub, Option.bind_some, Option.map_some, bndV, numV, eI, eU, e8, eB, AV.isCell, Int.reduceToNat, Int.reduceSub, Int.reduceAdd, Int.reduceNeg, load_at (st.get 7 rfl)])
  refine Pu.use (toAuto_spec b sb) ?_
  refine hI fun v G3 E le ne => ?_
  replace st := st.push (auT o v E) ne le
  obtain ⟨u1, u2, u3, rfl⟩ := aAu_cells le
  clear le ne
  (try simp (maxSteps := 1000000) (disch := (first | assumption | (apply Ne.symm; assumption))) only [vw0, vw1, vw2, vw3, vw4, vu0, vu1, ↓condV_t, ↓condV_f, cap_nil, allocV, splice, partV, buildV, eqFieldsV, eqS, tabs, TK.agg, reduceCtorEq, Array.toList, List.map_cons, List.map_nil, ↓reduceIte, List.length_map, Nat.reduceAdd, Nat.reduceLeDiff, Nat.reduceLT, Nat.reduceMul, Nat.reduceSub, Option.bind_some, Option.map_some, bndV, numV, eI, eU, e8, eB, AV.isCell, Int.reduceToNat, Int.reduceSub, Int.reduceAdd, Int.reduceNeg])
  intro u hu
  replace st := st.cell hu [I o.states, .sl u1 1 0 o.first.length, .sl u2 3 0 o.edges.length, .sl u3 1 0 o.goals.length]
  (try simp (maxSteps := 1000000) (disch := (first | assumption | (apply Ne.symm; assumption))) only [vw0, vw1, vw2, vw3, vw4, vu0, vu1, ↓condV_t, ↓condV_f, cap_nil, allocV, splice, partV, buildV, eqFieldsV, eqS, tabs, TK.agg, reduceCtorEq, Array.toList, List.map_cons, List.map_nil, ↓reduceIte, List.length_map, Nat.reduceAdd, Nat.reduceLeDiff, Nat.reduceLT, Nat.reduceMul, Nat.reduceSub, Option.bind_some, Option.map_some, bndV, numV, eI, eU, e8, eB, AV.isCell, Int.reduceToNat, Int.reduceSub, Int.reduceAdd, Int.reduceNeg, load_at (st.get 8 rfl)])
  generalize G3.set u [I o.states, .sl u1 1 0 o.first.length, .sl u2 3 0 o.edges.length, .sl u3 1 0 o.goals.length] = G4 at st ⊢
  refine LAu.eq (st.get 1 rfl) (st.ndT 1 rfl) hres.1 ?_
  (try simp (maxSteps := 1000000) (disch := (first | assumption | (apply Ne.symm; assumption))) only [vw0, vw1, vw2, vw3, vw4, vu0, vu1, ↓condV_t, ↓condV_f, cap_nil, allocV, splice, partV, buildV, eqFieldsV, eqS, tabs, TK.agg, reduceCtorEq, Array.toList, List.map_cons, List.map_nil, ↓reduceIte, List.length_map, Nat.reduceAdd, Nat.reduceLeDiff, Nat.reduceLT, Nat.reduceMul, Nat.reduceSub, Option.bind_some, Option.map_some, bndV, numV, eI, eU, e8, eB, AV.isCell, Int.reduceToNat, Int.reduceSub, Int.reduceAdd, Int.reduceNeg, load_at (st.get 2 rfl)])
  refine LAu.held (st.get 3 rfl) (st.ndT 3 rfl) (by omega) ?_
  (try simp (maxSteps := 1000000) (disch := (first | assumption | (apply Ne.symm; assumption))) only [vw0, vw1, vw2, vw3, vw4, vu0, vu1, ↓condV_t, ↓condV_f, cap_nil, allocV, splice, partV, buildV, eqFieldsV, eqS, tabs, TK.agg, reduceCtorEq, Array.toList, List.map_cons, List.map_nil, ↓reduceIte, List.length_map, Nat.reduceAdd, Nat.reduceLeDiff, Nat.reduceLT, Nat.reduceMul, Nat.reduceSub, Option.bind_some, Option.map_some, bndV, numV, eI, eU, e8, eB, AV.isCell, Int.reduceToNat, Int.reduceSub, Int.reduceAdd, Int.reduceNeg])
  exact ⟨fun h => by omega, fun _ => st.le⟩
end Go.Proofs.Ytfbaijpanbjmpaa
