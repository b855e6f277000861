/- Specs: the union of two automata. -/
import Derived.Test.YtfbaijpanbjmpaaMa5
namespace Go.Proofs.Ytfbaijpanbjmpaa
open Go Go.Sep Go.Pt
set_option linter.unusedSimpArgs false
set_option linter.unusedVariables false
attribute [local irreducible] CallT

/-! ### Plain facts -/
theorem rising_at {l : List Int} {n : Int} (h : rising l n = true) : ∀ i, i < l.length → (i : Int) ≤ l.getD i default ∧ l.getD i default < n := by
  intro i
  induction i with
  | zero =>
    intro hi
    have := riseAt_iff.1 (List.all_eq_true.1 h 0 (List.mem_range.2 hi))
    omega
  | succ i ih =>
    intro hi
    have h1 := ih (by omega)
    have := riseAt_iff.1 (List.all_eq_true.1 h (i + 1) (List.mem_range.2 hi))
    simp only [Nat.add_sub_cancel] at this
    omega
theorem rising_sm {l : List Int} {n : Int} (h : rising l n = true) (hn : n ≤ 10000) : smI l ∧ l.length ≤ n.toNat := by
  have hl : l.length ≤ n.toNat := by
    by_cases h0 : l.length = 0
    · omega
    · have := rising_at h (l.length - 1) (by omega)
      omega
  refine ⟨⟨by omega, fun x hx => ?_⟩, hl⟩
  obtain ⟨i, hi, rfl⟩ := List.mem_iff_getElem.1 hx
  have := rising_at h i hi
  rw [getD_lt hi] at this
  omega
structure GoodF (a : Au) : Prop where
  st : 1 ≤ a.states ∧ a.states ≤ 96
  fi : smI a.first ∧ a.first.length ≤ 96
  ed : a.edges.length ≤ 2400
  ei : ∀ e ∈ a.edges, edIn a.states e = true
  gl : a.goals.length ≤ 6
  gi : ∀ g ∈ a.goals, smI g ∧ g.length ≤ 96
theorem good_facts {a : Au} (h : goodA a = true) : GoodF a := by
  rw [goodA_def] at h
  simp only [goalsOk, Bool.and_eq_true, decide_eq_true_eq, List.all_eq_true] at h
  obtain ⟨h1, h2, h3, ⟨h4, h5⟩, h6⟩ := h
  have f := rising_sm h2 (by omega)
  refine ⟨h1, ⟨f.1, by omega⟩, h3, fun e he => ?_, h4, fun g hg => ?_⟩
  · obtain ⟨i, hi, rfl⟩ := List.mem_iff_getElem.1 he
    have := (edAt_iff.1 (List.all_eq_true.1 h6 i (List.mem_range.2 hi))).1
    rwa [getD_lt hi] at this
  · have := rising_sm (h5 g hg) (by omega)
    exact ⟨this.1, by omega⟩
def mvE (l : List Ed) (n : Int) : List Ed := l.map fun e => ⟨e.src + n, e.lt, e.dst + n⟩
theorem mvE_len (l : List Ed) (n : Int) : (mvE l n).length = l.length := by simp [mvE]
theorem mv_len (l : List Int) (n : Int) : (mv l n).length = l.length := by simp [mv]
def eiF (a b : Au) : List Int := a.first ++ mv b.first a.states
def eiE (a b : Au) (i : Nat) : List Ed := a.edges ++ mvE (b.edges.take i) a.states
theorem eiE_zero (a b : Au) : eiE a b 0 = a.edges := by simp [eiE, mvE]
theorem eiE_succ (a b : Au) {i : Nat} (h : i < b.edges.length) : eiE a b (i + 1) = eiE a b i ++ [⟨(b.edges.getD i default).src + a.states, (b.edges.getD i default).lt, (b.edges.getD i default).dst + a.states⟩] := by
  simp only [eiE]; rw [take_succ_snoc h]; simp [mvE]
def eiG (a b : Au) (k : Nat) : List Int := goalAt a k ++ mv (goalAt b k) a.states
def eiGs (a b : Au) (m : Nat) : List (List Int) := (List.range m).map (eiG a b)
theorem eiGs_succ (a b : Au) (m : Nat) : eiGs a b (m + 1) = eiGs a b m ++ [eiG a b m] := by simp [eiGs, List.range_succ]
theorem eiGs_len (a b : Au) (m : Nat) : (eiGs a b m).length = m := by simp [eiGs]
def eiT (a b : Au) : Au := ⟨a.states + b.states, eiF a b, eiE a b b.edges.length, eiGs a b (max a.goals.length b.goals.length)⟩
def zeroA : Au := ⟨0, [], [], []⟩
def eiR (a b : Au) : Au × Bool := if goodA a && goodA b && goodA (eiT a b) then (eiT a b, true) else (zeroA, false)
theorem goalAt_sm {a : Au} (h : GoodF a) (k : Nat) : smI (goalAt a k) ∧ (goalAt a k).length ≤ 96 := by
  have hs := h.st
  unfold goalAt
  split
  · have hm : a.goals.getD (k : Int).toNat default ∈ a.goals := getD_all (p := fun x => x ∈ a.goals) (fun _ h => h) (by omega)
    exact h.gi _ hm
  · refine ⟨⟨by rw [below_len]; omega, fun x hx => ?_⟩, by rw [below_len]; omega⟩
    simp only [below, List.mem_map, List.mem_range] at hx
    obtain ⟨i, hi, rfl⟩ := hx
    omega
theorem eiT_sm {a b : Au} (ha : GoodF a) (hb : GoodF b) : smAu (eiT a b) := by
  have h1 := ha.fi.2
  have h2 := hb.fi.2
  have h3 := ha.ed
  have h4 := hb.ed
  have h5 := ha.gl
  have h6 := hb.gl
  refine ⟨by simp only [eiT, eiF, List.length_append, mv_len]; omega, by simp only [eiT, eiE, List.length_append, mvE_len, List.length_take]; omega, by simp only [eiT, eiGs_len]; omega, fun c hc => ?_⟩
  simp only [eiT, eiGs, List.mem_map, List.mem_range] at hc
  obtain ⟨k, _, rfl⟩ := hc
  have e1 := (goalAt_sm ha k).2
  have e2 := (goalAt_sm hb k).2
  simp only [eiG, List.length_append, mv_len]; omega

/-- The zero automaton, in rows that were lent. -/
theorem zero_live {H : Heap} {z1 z2 z3 : Nat} (h1 : H z1 = none) (h2 : H z2 = none) (h3 : H z3 = none) (n21 : z2 ≠ z1) (n31 : z3 ≠ z1) (n32 : z3 ≠ z2) {K : AV → Heap → Prop} {G : Heap} (hle : Heap.le (((H.set z1 []).set z2 []).set z3 []) G)
    (h : ∀ v G D, LAu zeroA v G D → New H G D → K (.tup [v, B false]) G) : wkK K (.tup [zA, B false]) G := by
  have n12 := Ne.symm n21
  have n13 := Ne.symm n31
  have n23 := Ne.symm n32
  have e1 : (((H.set z1 []).set z2 []).set z3 []) z1 = some [] := by rw [Heap.set_other n13, Heap.set_other n12, Heap.set_same]
  have e2 : (((H.set z1 []).set z2 []).set z3 []) z2 = some [] := by rw [Heap.set_other n23, Heap.set_same]
  have e3 : (((H.set z1 []).set z2 []).set z3 []) z3 = some [] := Heap.set_same _ _ _
  refine ⟨_, _, .trans (.val (v' := .tup [.agg [I 0, .sl z1 1 0 0, .sl z2 3 0 0, .sl z3 1 0 0], B false]) (wk_tup ⟨wk_agg ⟨.refl _, .nilo _ _ _, .nilo _ _ _, .nilo _ _ _, trivial⟩, .refl _, trivial⟩)) (.forget hle), ?_⟩
  refine h _ _ ([z1] ++ ([z2] ++ [z3])) ⟨_, _, _, [z1], [z2], [z3], rfl, rfl, ⟨z1, [], [], rfl, e1, ⟨rfl, rfl⟩, rfl⟩, ⟨z2, [], [], rfl, e2, ⟨rfl, rfl⟩, rfl⟩, ⟨z3, [], [], rfl, e3, ⟨rfl, rfl⟩, rfl⟩⟩ ⟨by simp [n12, n13, n23], fun y hy => ?_, ?_⟩
  · simp at hy
    rcases hy with rfl | rfl | rfl <;> assumption
  · (intro y b hy; simp only [Heap.set, Heap.del] at hy ⊢; (repeat' split at hy) <;> (repeat' split) <;> simp_all [cells])

theorem or2 {A B P R : Prop} (h1 : A ∨ B) (h : P) : (A → P) ∧ (¬ A → (B → P) ∧ (¬ B → R)) := ⟨fun _ => h, fun na => ⟨fun _ => h, fun nb => absurd h1 (by simp [na, nb])⟩⟩
theorem Either_impl (a b : Au) (sa : smAu a) (sb : smAu b) {H : Heap} {K : AV → Heap → Prop} (h : ∀ v G D, LAu (eiR a b).1 v G D → New H G D → K (.tup [v, B (eiR a b).2]) G) : CallT Try.prog 12 [aAu a, aAu b] H K := by
  refine CallT.fin ?_
  refine CallT.ghost W12_hb fun z1 hz1 => ?_
  refine CallT.ghost W12_hb fun z2 hz2 => ?_
  refine CallT.ghost W12_hb fun z3 hz3 => ?_
  rw [Heap.set_none] at hz2
  rw [Heap.set_none, Heap.set_none] at hz3
  obtain ⟨n21, hz2⟩ := hz2
  obtain ⟨n32, n31, hz3⟩ := hz3
  have zl := fun (G : Heap) (hle : Heap.le (((H.set z1 []).set z2 []).set z3 []) G) (h : ∀ v G D, LAu zeroA v G D → New H G D → K (.tup [v, B false]) G) => zero_live hz1 hz2 hz3 n21 n31 n32 hle h
  have e1 : (((H.set z1 []).set z2 []).set z3 []) z3 = some [] := Heap.set_same _ _ _
  have hB : ∀ {y}, (((H.set z1 []).set z2 []).set z3 []) y = none → H y = none := fun hy => by
    simp only [Heap.set_none] at hy; exact hy.2.2.2
  have leB : Heap.le H (((H.set z1 []).set z2 []).set z3 []) := Heap.le_setN (Heap.le_setN (Heap.le_set hz1) hz2) hz3
  generalize (((H.set z1 []).set z2 []).set z3 []) = H3 at zl e1 hB leB ⊢
  refine W12_ok ?_; simp (maxSteps := 1000000) (disch := (first | assumption | (apply Ne.symm; assumption))) only [W12, vw0, vw1, vw2, vw3, vw4, vu0, vu1, ↓condV_t, ↓condV_f, cap_nil, allocV, splice, partV, buildV, eqFieldsV, eqS, tabs, TK.agg, reduceCtorEq, Array.toList, List.map_cons, List.map_nil, ↓reduceIte, List.length_map, Nat.reduceAdd, Nat.reduceLeDiff, Nat.reduceLT, Nat.reduceMul, Nat.reduceSub, Option.bind_some, Option.map_some, bndV, numV, eI, eU, e8, eB, AV.isCell, Int.reduceToNat, Int.reduceSub, Int.reduceAdd, Int.reduceNeg]
  intro r hr r1 nr1 hr1 r2 nr21 nr2 hr2
  have gr : (((H3.set r [I a.states, Is a.first, Es a.edges, Ls a.goals]).set r1 [I b.states, Is b.first, Es b.edges, Ls b.goals]).set r2 [I 0, .p .nil, .p .nil, .p .nil]) r = some [I a.states, Is a.first, Es a.edges, Ls a.goals] := by rw [Heap.set_other (Ne.symm nr2), Heap.set_other (Ne.symm nr1), Heap.set_same]
  have gr1 : (((H3.set r [I a.states, Is a.first, Es a.edges, Ls a.goals]).set r1 [I b.states, Is b.first, Es b.edges, Ls b.goals]).set r2 [I 0, .p .nil, .p .nil, .p .nil]) r1 = some [I b.states, Is b.first, Es b.edges, Ls b.goals] := by rw [Heap.set_other (Ne.symm nr21), Heap.set_same]
  have gr2 : (((H3.set r [I a.states, Is a.first, Es a.edges, Ls a.goals]).set r1 [I b.states, Is b.first, Es b.edges, Ls b.goals]).set r2 [I 0, .p .nil, .p .nil, .p .nil]) r2 = some [I 0, .p .nil, .p .nil, .p .nil] := Heap.set_same _ _ _
  have le0 : Heap.le H3 (((H3.set r [I a.states, Is a.first, Es a.edges, Ls a.goals]).set r1 [I b.states, Is b.first, Es b.edges, Ls b.goals]).set r2 [I 0, .p .nil, .p .nil, .p .nil]) := Heap.le_setN (Heap.le_setN (Heap.le_set hr) hr1) hr2
  have hB0 : ∀ {y}, (((H3.set r [I a.states, Is a.first, Es a.edges, Ls a.goals]).set r1 [I b.states, Is b.first, Es b.edges, Ls b.goals]).set r2 [I 0, .p .nil, .p .nil, .p .nil]) y = none → H3 y = none := fun hy => by
    simp only [Heap.set_none] at hy; exact hy.2.2.2
  have hHr2 : H r2 = none := hB hr2
  generalize (((H3.set r [I a.states, Is a.first, Es a.edges, Ls a.goals]).set r1 [I b.states, Is b.first, Es b.edges, Ls b.goals]).set r2 [I 0, .p .nil, .p .nil, .p .nil]) = G0 at gr gr1 gr2 le0 hB0 ⊢
  have bad : ∀ {G}, Heap.le G0 G → eiR a b = (zeroA, false) → wkK K (.tup [zA, B false]) G := fun hle e => zl _ (Heap.le_trans le0 hle) (by rw [e] at h; exact h)
  have ne : ∀ {G : Heap} {y c q}, G y = some c → G q = none → y ≠ q := fun h1 h2 e => by rw [e, h2] at h1; cases h1
  have setid : G0.set r2 [I 0, .p .nil, .p .nil, .p .nil] = G0 := by
    funext y
    by_cases e : y = r2
    · subst e; rw [Heap.set_same, gr2]
    · rw [Heap.set_other e]
  (try simp (maxSteps := 1000000) (disch := (first | assumption | (apply Ne.symm; assumption))) only [vw0, vw1, vw2, vw3, vw4, vu0, vu1, ↓condV_t, ↓condV_f, cap_nil, allocV, splice, partV, buildV, eqFieldsV, eqS, tabs, TK.agg, reduceCtorEq, Array.toList, List.map_cons, List.map_nil, ↓reduceIte, List.length_map, Nat.reduceAdd, Nat.reduceLeDiff, Nat.reduceLT, Nat.reduceMul, Nat.reduceSub, Option.bind_some, Option.map_some, bndV, numV, eI, eU, e8, eB, AV.isCell, Int.reduceToNat, Int.reduceSub, Int.reduceAdd, Int.reduceNeg, load_at gr])
  refine Pu.use (GoodAuto_impl a sa) ?_
  cases ga : goodA a
  · (try simp (maxSteps := 1000000) (disch := (first | assumption | (apply Ne.symm; assumption))) only [vw0, vw1, vw2, vw3, vw4, vu0, vu1, ↓condV_t, ↓condV_f, cap_nil, allocV, splice, partV, buildV, eqFieldsV, eqS, tabs, TK.agg, reduceCtorEq, Array.toList, List.map_cons, List.map_nil, ↓reduceIte, List.length_map, Nat.reduceAdd, Nat.reduceLeDiff, Nat.reduceLT, Nat.reduceMul, Nat.reduceSub, Option.bind_some, Option.map_some, bndV, numV, eI, eU, e8, eB, AV.isCell, Int.reduceToNat, Int.reduceSub, Int.reduceAdd, Int.reduceNeg, store_at gr2])
    rw [setid]
    (try simp (maxSteps := 1000000) (disch := (first | assumption | (apply Ne.symm; assumption))) only [vw0, vw1, vw2, vw3, vw4, vu0, vu1, ↓condV_t, ↓condV_f, cap_nil, allocV, splice, partV, buildV, eqFieldsV, eqS, tabs, TK.agg, reduceCtorEq, Array.toList, List.map_cons, List.map_nil, ↓reduceIte, List.length_map, Nat.reduceAdd, Nat.reduceLeDiff, Nat.reduceLT, Nat.reduceMul, Nat.reduceSub, Option.bind_some, Option.map_some, bndV, numV, eI, eU, e8, eB, AV.isCell, Int.reduceToNat, Int.reduceSub, Int.reduceAdd, Int.reduceNeg, load_at gr2])
    exact bad (Heap.le_refl _) (by simp only [eiR, ga, Bool.false_and, Bool.false_eq_true, if_false])
  (try simp (maxSteps := 1000000) (disch := (first | assumption | (apply Ne.symm; assumption))) only [vw0, vw1, vw2, vw3, vw4, vu0, vu1, ↓condV_t, ↓condV_f, cap_nil, allocV, splice, partV, buildV, eqFieldsV, eqS, tabs, TK.agg, reduceCtorEq, Array.toList, List.map_cons, List.map_nil, ↓reduceIte, List.length_map, Nat.reduceAdd, Nat.reduceLeDiff, Nat.reduceLT, Nat.reduceMul, Nat.reduceSub, Option.bind_some, Option.map_some, bndV, numV, eI, eU, e8, eB, AV.isCell, Int.reduceToNat, Int.reduceSub, Int.reduceAdd, Int.reduceNeg, load_at gr1])
  refine Pu.use (GoodAuto_impl b sb) ?_
  cases gb : goodA b
  · (try simp (maxSteps := 1000000) (disch := (first | assumption | (apply Ne.symm; assumption))) only [vw0, vw1, vw2, vw3, vw4, vu0, vu1, ↓condV_t, ↓condV_f, cap_nil, allocV, splice, partV, buildV, eqFieldsV, eqS, tabs, TK.agg, reduceCtorEq, Array.toList, List.map_cons, List.map_nil, ↓reduceIte, List.length_map, Nat.reduceAdd, Nat.reduceLeDiff, Nat.reduceLT, Nat.reduceMul, Nat.reduceSub, Option.bind_some, Option.map_some, bndV, numV, eI, eU, e8, eB, AV.isCell, Int.reduceToNat, Int.reduceSub, Int.reduceAdd, Int.reduceNeg, store_at gr2])
    rw [setid]
    (try simp (maxSteps := 1000000) (disch := (first | assumption | (apply Ne.symm; assumption))) only [vw0, vw1, vw2, vw3, vw4, vu0, vu1, ↓condV_t, ↓condV_f, cap_nil, allocV, splice, partV, buildV, eqFieldsV, eqS, tabs, TK.agg, reduceCtorEq, Array.toList, List.map_cons, List.map_nil, ↓reduceIte, List.length_map, Nat.reduceAdd, Nat.reduceLeDiff, Nat.reduceLT, Nat.reduceMul, Nat.reduceSub, Option.bind_some, Option.map_some, bndV, numV, eI, eU, e8, eB, AV.isCell, Int.reduceToNat, Int.reduceSub, Int.reduceAdd, Int.reduceNeg, load_at gr2])
    exact bad (Heap.le_refl _) (by simp only [eiR, gb, Bool.and_false, Bool.false_and, Bool.false_eq_true, if_false])
  have fa := good_facts ga
  have fb := good_facts gb
  have sta := fa.st
  have stb := fb.st
  have hed := fa.ed
  have hed2 := fb.ed
  have hfi := fa.fi.2
  have hfi2 := fb.fi.2
  have es : IntKind.i64.wrap (a.states + b.states) = a.states + b.states := i64_id (by omega) (by omega)
  (try simp (maxSteps := 1000000) (disch := (first | assumption | (apply Ne.symm; assumption))) only [vw0, vw1, vw2, vw3, vw4, vu0, vu1, ↓condV_t, ↓condV_f, cap_nil, allocV, splice, partV, buildV, eqFieldsV, eqS, tabs, TK.agg, reduceCtorEq, Array.toList, List.map_cons, List.map_nil, ↓reduceIte, List.length_map, Nat.reduceAdd, Nat.reduceLeDiff, Nat.reduceLT, Nat.reduceMul, Nat.reduceSub, Option.bind_some, Option.map_some, bndV, numV, eI, eU, e8, eB, AV.isCell, Int.reduceToNat, Int.reduceSub, Int.reduceAdd, Int.reduceNeg, load_at gr, load_at gr1, es])
  refine Pu.use (moved_spec b.first a.states fb.fi.1 (by omega)) ?_
  (try simp (maxSteps := 1000000) (disch := (first | assumption | (apply Ne.symm; assumption))) only [vw0, vw1, vw2, vw3, vw4, vu0, vu1, ↓condV_t, ↓condV_f, cap_nil, allocV, splice, partV, buildV, eqFieldsV, eqS, tabs, TK.agg, reduceCtorEq, Array.toList, List.map_cons, List.map_nil, ↓reduceIte, List.length_map, Nat.reduceAdd, Nat.reduceLeDiff, Nat.reduceLT, Nat.reduceMul, Nat.reduceSub, Option.bind_some, Option.map_some, bndV, numV, eI, eU, e8, eB, AV.isCell, Int.reduceToNat, Int.reduceSub, Int.reduceAdd, Int.reduceNeg, load_at gr, load_at gr1])
  refine lit2 tab_24 rfl tab_22 ⟨rfl, rfl⟩ ?_
  (try simp (maxSteps := 1000000) (disch := (first | assumption | (apply Ne.symm; assumption))) only [vw0, vw1, vw2, vw3, vw4, vu0, vu1, ↓condV_t, ↓condV_f, cap_nil, allocV, splice, partV, buildV, eqFieldsV, eqS, tabs, TK.agg, reduceCtorEq, Array.toList, List.map_cons, List.map_nil, ↓reduceIte, List.length_map, Nat.reduceAdd, Nat.reduceLeDiff, Nat.reduceLT, Nat.reduceMul, Nat.reduceSub, Option.bind_some, Option.map_some, bndV, numV, eI, eU, e8, eB, AV.isCell, Int.reduceToNat, Int.reduceSub, Int.reduceAdd, Int.reduceNeg, load_at gr, load_at gr1])
  refine ConcatI_spec [a.first, mv b.first a.states] (by simp [mv_len]; omega) (by simp) fun q1 hq1 => ?_
  have efl : [a.first, mv b.first a.states].flatten = eiF a b := by simp [eiF]
  rw [efl]
  have le1 : Heap.le G0 (G0.set q1 (cP fI (eiF a b))) := Heap.le_set hq1
  have g1r := le1 _ _ gr
  have g1r1 := le1 _ _ gr1
  have g1r2 := le1 _ _ gr2
  have g1q : (G0.set q1 (cP fI (eiF a b))) q1 = some (cP fI (eiF a b)) := Heap.set_same _ _ _
  have hB1 : ∀ {y}, (G0.set q1 (cP fI (eiF a b))) y = none → G0 y = none := fun hy => by
    rw [Heap.set_none] at hy; exact hy.2
  generalize G0.set q1 (cP fI (eiF a b)) = G1 at g1r g1r1 g1r2 g1q le1 hB1 ⊢
  (try simp (maxSteps := 1000000) (disch := (first | assumption | (apply Ne.symm; assumption))) only [vw0, vw1, vw2, vw3, vw4, vu0, vu1, ↓condV_t, ↓condV_f, cap_nil, allocV, splice, partV, buildV, eqFieldsV, eqS, tabs, TK.agg, reduceCtorEq, Array.toList, List.map_cons, List.map_nil, ↓reduceIte, List.length_map, Nat.reduceAdd, Nat.reduceLeDiff, Nat.reduceLT, Nat.reduceMul, Nat.reduceSub, Option.bind_some, Option.map_some, bndV, numV, eI, eU, e8, eB, AV.isCell, Int.reduceToNat, Int.reduceSub, Int.reduceAdd, Int.reduceNeg, load_at g1r, load_at g1r1])
  refine CloneE_row a.edges (by omega) fun qe hqe => ?_
  have g2r := Heap.le_set (b := cE a.edges) hqe _ _ g1r
  have g2r1 := Heap.le_set (b := cE a.edges) hqe _ _ g1r1
  (try simp (maxSteps := 1000000) (disch := (first | assumption | (apply Ne.symm; assumption))) only [vw0, vw1, vw2, vw3, vw4, vu0, vu1, ↓condV_t, ↓condV_f, cap_nil, allocV, splice, partV, buildV, eqFieldsV, eqS, tabs, TK.agg, reduceCtorEq, Array.toList, List.map_cons, List.map_nil, ↓reduceIte, List.length_map, Nat.reduceAdd, Nat.reduceLeDiff, Nat.reduceLT, Nat.reduceMul, Nat.reduceSub, Option.bind_some, Option.map_some, bndV, numV, eI, eU, e8, eB, AV.isCell, Int.reduceToNat, Int.reduceSub, Int.reduceAdd, Int.reduceNeg, load_at g2r, load_at g2r1])
  intro r6 hr6e hr6
  have n16 : r1 ≠ r6 := ne g1r1 hr6
  have n1e : r1 ≠ qe := ne g1r1 hqe
  (try simp (maxSteps := 1000000) (disch := (first | assumption | (apply Ne.symm; assumption))) only [vw0, vw1, vw2, vw3, vw4, vu0, vu1, ↓condV_t, ↓condV_f, cap_nil, allocV, splice, partV, buildV, eqFieldsV, eqS, tabs, TK.agg, reduceCtorEq, Array.toList, List.map_cons, List.map_nil, ↓reduceIte, List.length_map, Nat.reduceAdd, Nat.reduceLeDiff, Nat.reduceLT, Nat.reduceMul, Nat.reduceSub, Option.bind_some, Option.map_some, bndV, numV, eI, eU, e8, eB, AV.isCell, Int.reduceToNat, Int.reduceSub, Int.reduceAdd, Int.reduceNeg, load_at g1r1])
  have les : ∀ i, (eiE a b i).length ≤ 5000 := fun i => by
    simp only [eiE, List.length_append, mvE_len, List.length_take]; omega
  refine L12_0_rule ((0 : Nat), qe) (fun s => I s.1) (fun s => (G1.set s.2 (cE (eiE a b s.1))).set r6 [I (a.states + b.states), rowP q1 (eiF a b), rowE s.2 (eiE a b s.1), .p .nil])
    (fun s => s.1 ≤ b.edges.length ∧ G1 s.2 = none ∧ s.2 ≠ r6) (fun s => b.edges.length - s.1) ⟨⟨by simp, hqe, Ne.symm hr6e⟩, .refl _, ?_⟩ ?_
  · simp only [eiE_zero]
    exact Heap.le_refl _
  rintro ⟨i, q⟩ ⟨hi, hq, hq6⟩
  dsimp only at hi hq hq6
  have hle : Heap.le G1 ((G1.set q (cE (eiE a b i))).set r6 [I (a.states + b.states), rowP q1 (eiF a b), rowE q (eiE a b i), .p .nil]) := Heap.le_setN (Heap.le_set hq) hr6
  have g6 : ((G1.set q (cE (eiE a b i))).set r6 [I (a.states + b.states), rowP q1 (eiF a b), rowE q (eiE a b i), .p .nil]) r6 = some [I (a.states + b.states), rowP q1 (eiF a b), rowE q (eiE a b i), .p .nil] := Heap.set_same _ _ _
  have gq : ((G1.set q (cE (eiE a b i))).set r6 [I (a.states + b.states), rowP q1 (eiF a b), rowE q (eiE a b i), .p .nil]) q = some (cE (eiE a b i)) := by rw [Heap.set_other hq6, Heap.set_same]
  have hB2 : ∀ {y}, ((G1.set q (cE (eiE a b i))).set r6 [I (a.states + b.states), rowP q1 (eiF a b), rowE q (eiE a b i), .p .nil]) y = none → G1 y = none := fun hy => by
    simp only [Heap.set_none] at hy; exact hy.2.2
  have hli := les i
  generalize (G1.set q (cE (eiE a b i))).set r6 [I (a.states + b.states), rowP q1 (eiF a b), rowE q (eiE a b i), .p .nil] = G2 at hle g6 gq hB2 ⊢
  have gr2' := hle _ _ g1r
  have gr12' := hle _ _ g1r1
  have gr22' := hle _ _ g1r2
  have gq1 := hle _ _ g1q
  (try simp (maxSteps := 1000000) (disch := (first | assumption | (apply Ne.symm; assumption))) only [vw0, vw1, vw2, vw3, vw4, vu0, vu1, ↓condV_t, ↓condV_f, cap_nil, allocV, splice, partV, buildV, eqFieldsV, eqS, tabs, TK.agg, reduceCtorEq, Array.toList, List.map_cons, List.map_nil, ↓reduceIte, List.length_map, Nat.reduceAdd, Nat.reduceLeDiff, Nat.reduceLT, Nat.reduceMul, Nat.reduceSub, Option.bind_some, Option.map_some, bndV, numV, eI, eU, e8, eB, AV.isCell, Int.reduceToNat, Int.reduceSub, Int.reduceAdd, Int.reduceNeg, B12_0])
  refine ⟨fun h1 => ⟨by omega, h1, ?_⟩, fun h1 => ?_⟩
  · have hlt : i < b.edges.length := by omega
    have hm : b.edges.getD i default ∈ b.edges := getD_all (p := fun x => x ∈ b.edges) (fun _ h => h) hlt
    have hei := edIn_iff.1 (fb.ei _ hm)
    have hsucc : eiE a b (i + 1) = eiE a b i ++ [⟨(b.edges.getD i default).src + a.states, (b.edges.getD i default).lt, (b.edges.getD i default).dst + a.states⟩] := eiE_succ a b hlt
    generalize b.edges.getD i default = x at hei hsucc ⊢
    intro r8 hr8
    have x1 : IntKind.i64.wrap (x.src + a.states) = x.src + a.states := i64_id (by omega) (by omega)
    have x2 : IntKind.i64.wrap (x.dst + a.states) = x.dst + a.states := i64_id (by omega) (by omega)
    have le8 := Heap.le_set (b := [I x.src, I x.lt, I x.dst]) hr8
    have g68 := le8 _ _ g6
    have gr8 := le8 _ _ gr2'
    have g88 : (G2.set r8 [I x.src, I x.lt, I x.dst]) r8 = some [I x.src, I x.lt, I x.dst] := Heap.set_same _ _ _
    have gq8 := le8 _ _ gq
    have hle8 := Heap.le_trans hle le8
    have hB8 : ∀ {y}, (G2.set r8 [I x.src, I x.lt, I x.dst]) y = none → G1 y = none := fun hy => by
      rw [Heap.set_none] at hy; exact hB2 hy.2
    (try simp (maxSteps := 1000000) (disch := (first | assumption | (apply Ne.symm; assumption))) only [vw0, vw1, vw2, vw3, vw4, vu0, vu1, ↓condV_t, ↓condV_f, cap_nil, allocV, splice, partV, buildV, eqFieldsV, eqS, tabs, TK.agg, reduceCtorEq, Array.toList, List.map_cons, List.map_nil, ↓reduceIte, List.length_map, Nat.reduceAdd, Nat.reduceLeDiff, Nat.reduceLT, Nat.reduceMul, Nat.reduceSub, Option.bind_some, Option.map_some, bndV, numV, eI, eU, e8, eB, AV.isCell, Int.reduceToNat, Int.reduceSub, Int.reduceAdd, Int.reduceNeg, load_at g68, load_at gr8, load_at g88, x1, x2])
    generalize G2.set r8 [I x.src, I x.lt, I x.dst] = G3 at g68 gr8 g88 gq8 hle8 hB8 ⊢
    refine lit_edge (x := ⟨x.src + a.states, x.lt, x.dst + a.states⟩) ?_
    refine app_edges gq8 (by simp only [List.length_cons, List.length_nil]; omega) fun q' hq' hne => ?_
    rw [← hsucc]
    have h6' : ((G3.del q).set q' (cE (eiE a b (i + 1)))) r6 = some [I (a.states + b.states), rowP q1 (eiF a b), rowE q (eiE a b i), .p .nil] := by
      rw [Heap.set_other (ne g68 hq'), Heap.del_other (Ne.symm hq6)]; exact g68
    (try simp (maxSteps := 1000000) (disch := (first | assumption | (apply Ne.symm; assumption))) only [vw0, vw1, vw2, vw3, vw4, vu0, vu1, ↓condV_t, ↓condV_f, cap_nil, allocV, splice, partV, buildV, eqFieldsV, eqS, tabs, TK.agg, reduceCtorEq, Array.toList, List.map_cons, List.map_nil, ↓reduceIte, List.length_map, Nat.reduceAdd, Nat.reduceLeDiff, Nat.reduceLT, Nat.reduceMul, Nat.reduceSub, Option.bind_some, Option.map_some, bndV, numV, eI, eU, e8, eB, AV.isCell, Int.reduceToNat, Int.reduceSub, Int.reduceAdd, Int.reduceNeg, store_at h6'])
    refine ⟨(i + 1, q'), ⟨by simp only; omega, hB8 hq', Ne.symm (ne g68 hq')⟩, by simp only; omega, ?_, ?_⟩
    · rw [wk_int, i64_id (by omega) (by omega)]; simp
    · simp only
      generalize [I (a.states + b.states), rowP q1 (eiF a b), rowE q' (eiE a b (i + 1)), .p .nil] = z6
      generalize cE (eiE a b (i + 1)) = z
      intro y bb hbb
      by_cases y6 : y = r6
      · subst y6; rw [Heap.set_same] at hbb ⊢; exact hbb
      rw [Heap.set_other y6] at hbb ⊢
      by_cases yq : y = q'
      · subst yq; rw [Heap.set_same] at hbb ⊢; exact hbb
      rw [Heap.set_other yq] at hbb ⊢
      rw [Heap.del_other (fun e => by rw [e, hq] at hbb; cases hbb)]
      exact hle8 y bb hbb
  have hil : i = b.edges.length := by omega
  subst hil
  (try simp (maxSteps := 1000000) (disch := (first | assumption | (apply Ne.symm; assumption))) only [vw0, vw1, vw2, vw3, vw4, vu0, vu1, ↓condV_t, ↓condV_f, cap_nil, allocV, splice, partV, buildV, eqFieldsV, eqS, tabs, TK.agg, reduceCtorEq, Array.toList, List.map_cons, List.map_nil, ↓reduceIte, List.length_map, Nat.reduceAdd, Nat.reduceLeDiff, Nat.reduceLT, Nat.reduceMul, Nat.reduceSub, Option.bind_some, Option.map_some, bndV, numV, eI, eU, e8, eB, AV.isCell, Int.reduceToNat, Int.reduceSub, Int.reduceAdd, Int.reduceNeg, load_at gr2', load_at gr12'])
  have hmax : (if (b.goals.length : Int) > (a.goals.length : Int) then (b.goals.length : Int) else (a.goals.length : Int)) = ((max a.goals.length b.goals.length : Nat) : Int) := by
    split <;> omega
  rw [hmax]
  have hgl := fa.gl
  have hgl2 := fb.gl
  have hm6 : max a.goals.length b.goals.length ≤ 6 := by omega
  generalize hmm : max a.goals.length b.goals.length = m at hm6
  have ffs := les b.edges.length
  refine L12_1_rule ((0 : Nat), (.p .nil : AV), G2, ([] : List Nat)) (fun s => I s.1) (fun s => s.2.2.1)
    (fun s => s.1 ≤ m ∧ s.2.2.1 r6 = some [I (a.states + b.states), rowP q1 (eiF a b), rowE q (eiE a b b.edges.length), s.2.1] ∧ (∀ y bb, G2 y = some bb → y ≠ r6 → s.2.2.1 y = some bb) ∧ GAt s.2.1 (eiGs a b s.1) s.2.2.1 s.2.2.2 ∧ s.2.2.2.Nodup ∧ (∀ y ∈ s.2.2.2, G2 y = none)) (fun s => m - s.1)
    ⟨⟨by simp, g6, fun y bb hy _ => hy, GAt.nil _, by simp, by simp⟩, .refl _, Heap.le_refl _⟩ ?_
  rintro ⟨k, x, G, D⟩ ⟨hk, k6, kold, kg, knd, kfr⟩
  dsimp only at hk k6 kold kg knd kfr
  have nr6 : r ≠ r6 := ne g1r hr6
  have nr16 : r1 ≠ r6 := ne g1r1 hr6
  have nr26 : r2 ≠ r6 := ne g1r2 hr6
  have nq16 : q1 ≠ r6 := ne g1q hr6
  have kr := kold _ _ gr2' nr6
  have kr1 := kold _ _ gr12' nr16
  have kr2 := kold _ _ gr22' nr26
  have kq1 := kold _ _ gq1 nq16
  have kq := kold _ _ gq hq6
  have n6D : r6 ∉ D := fun hm => by have := kfr _ hm; rw [g6] at this; cases this
  (try simp (maxSteps := 1000000) (disch := (first | assumption | (apply Ne.symm; assumption))) only [vw0, vw1, vw2, vw3, vw4, vu0, vu1, ↓condV_t, ↓condV_f, cap_nil, allocV, splice, partV, buildV, eqFieldsV, eqS, tabs, TK.agg, reduceCtorEq, Array.toList, List.map_cons, List.map_nil, ↓reduceIte, List.length_map, Nat.reduceAdd, Nat.reduceLeDiff, Nat.reduceLT, Nat.reduceMul, Nat.reduceSub, Option.bind_some, Option.map_some, bndV, numV, eI, eU, e8, eB, AV.isCell, Int.reduceToNat, Int.reduceSub, Int.reduceAdd, Int.reduceNeg, B12_1])
  refine ⟨fun h1 => ?_, fun h1 => ?_⟩
  · have hkm : k < m := by omega
    have sa1 := goalAt_sm fa k
    have sb1 := goalAt_sm fb k
    (try simp (maxSteps := 1000000) (disch := (first | assumption | (apply Ne.symm; assumption))) only [vw0, vw1, vw2, vw3, vw4, vu0, vu1, ↓condV_t, ↓condV_f, cap_nil, allocV, splice, partV, buildV, eqFieldsV, eqS, tabs, TK.agg, reduceCtorEq, Array.toList, List.map_cons, List.map_nil, ↓reduceIte, List.length_map, Nat.reduceAdd, Nat.reduceLeDiff, Nat.reduceLT, Nat.reduceMul, Nat.reduceSub, Option.bind_some, Option.map_some, bndV, numV, eI, eU, e8, eB, AV.isCell, Int.reduceToNat, Int.reduceSub, Int.reduceAdd, Int.reduceNeg, load_at k6, load_at kr, load_at kr1])
    refine Pu.use (goalOf_spec a k (by omega) (by omega)) ?_
    (try simp (maxSteps := 1000000) (disch := (first | assumption | (apply Ne.symm; assumption))) only [vw0, vw1, vw2, vw3, vw4, vu0, vu1, ↓condV_t, ↓condV_f, cap_nil, allocV, splice, partV, buildV, eqFieldsV, eqS, tabs, TK.agg, reduceCtorEq, Array.toList, List.map_cons, List.map_nil, ↓reduceIte, List.length_map, Nat.reduceAdd, Nat.reduceLeDiff, Nat.reduceLT, Nat.reduceMul, Nat.reduceSub, Option.bind_some, Option.map_some, bndV, numV, eI, eU, e8, eB, AV.isCell, Int.reduceToNat, Int.reduceSub, Int.reduceAdd, Int.reduceNeg, load_at k6, load_at kr, load_at kr1])
    refine Pu.use (goalOf_spec b k (by omega) (by omega)) ?_
    (try simp (maxSteps := 1000000) (disch := (first | assumption | (apply Ne.symm; assumption))) only [vw0, vw1, vw2, vw3, vw4, vu0, vu1, ↓condV_t, ↓condV_f, cap_nil, allocV, splice, partV, buildV, eqFieldsV, eqS, tabs, TK.agg, reduceCtorEq, Array.toList, List.map_cons, List.map_nil, ↓reduceIte, List.length_map, Nat.reduceAdd, Nat.reduceLeDiff, Nat.reduceLT, Nat.reduceMul, Nat.reduceSub, Option.bind_some, Option.map_some, bndV, numV, eI, eU, e8, eB, AV.isCell, Int.reduceToNat, Int.reduceSub, Int.reduceAdd, Int.reduceNeg, load_at k6, load_at kr, load_at kr1])
    refine Pu.use (moved_spec (goalAt b k) a.states sb1.1 (by omega)) ?_
    (try simp (maxSteps := 1000000) (disch := (first | assumption | (apply Ne.symm; assumption))) only [vw0, vw1, vw2, vw3, vw4, vu0, vu1, ↓condV_t, ↓condV_f, cap_nil, allocV, splice, partV, buildV, eqFieldsV, eqS, tabs, TK.agg, reduceCtorEq, Array.toList, List.map_cons, List.map_nil, ↓reduceIte, List.length_map, Nat.reduceAdd, Nat.reduceLeDiff, Nat.reduceLT, Nat.reduceMul, Nat.reduceSub, Option.bind_some, Option.map_some, bndV, numV, eI, eU, e8, eB, AV.isCell, Int.reduceToNat, Int.reduceSub, Int.reduceAdd, Int.reduceNeg, load_at k6, load_at kr, load_at kr1])
    refine lit2 tab_24 rfl tab_22 ⟨rfl, rfl⟩ ?_
    (try simp (maxSteps := 1000000) (disch := (first | assumption | (apply Ne.symm; assumption))) only [vw0, vw1, vw2, vw3, vw4, vu0, vu1, ↓condV_t, ↓condV_f, cap_nil, allocV, splice, partV, buildV, eqFieldsV, eqS, tabs, TK.agg, reduceCtorEq, Array.toList, List.map_cons, List.map_nil, ↓reduceIte, List.length_map, Nat.reduceAdd, Nat.reduceLeDiff, Nat.reduceLT, Nat.reduceMul, Nat.reduceSub, Option.bind_some, Option.map_some, bndV, numV, eI, eU, e8, eB, AV.isCell, Int.reduceToNat, Int.reduceSub, Int.reduceAdd, Int.reduceNeg, load_at k6, load_at kr, load_at kr1])
    refine ConcatI_spec [goalAt a k, mv (goalAt b k) a.states] (by simp [mv_len]; omega) (by simp) fun qn hqn => ?_
    have eg : [goalAt a k, mv (goalAt b k) a.states].flatten = eiG a b k := by simp [eiG]
    rw [eg]
    have leN := Heap.le_set (b := cP fI (eiG a b k)) hqn
    have k6n := leN _ _ k6
    have kqn : (G.set qn (cP fI (eiG a b k))) qn = some (cP fI (eiG a b k)) := Heap.set_same _ _ _
    have kgn := kg.local fun y _ bb hb => leN y bb hb
    have hqnG2 : G2 qn = none := by
      cases hh : G2 qn with
      | none => rfl
      | some bb =>
        by_cases e : qn = r6
        · rw [e, k6] at hqn; cases hqn
        · rw [kold _ _ hh e] at hqn; cases hqn
    have kDn : ∀ y ∈ D, y ≠ qn := fun y hy e => by
      obtain ⟨cs, D', hll, h2⟩ := kg
      rcases h2 with ⟨_, _, rfl⟩ | ⟨qg, _, hqg, rfl⟩
      · cases hy
      · rcases List.mem_cons.1 hy with rfl | hy
        · rw [e, hqn] at hqg; cases hqg
        · exact LL.has LIc.has hll y hy (by rw [e]; exact hqn)
    have koldN : ∀ y bb, G2 y = some bb → y ≠ r6 → (G.set qn (cP fI (eiG a b k))) y = some bb := fun y bb hy h6 => leN _ _ (kold y bb hy h6)
    generalize G.set qn (cP fI (eiG a b k)) = Gn at k6n kqn kgn koldN ⊢
    (try simp (maxSteps := 1000000) (disch := (first | assumption | (apply Ne.symm; assumption))) only [vw0, vw1, vw2, vw3, vw4, vu0, vu1, ↓condV_t, ↓condV_f, cap_nil, allocV, splice, partV, buildV, eqFieldsV, eqS, tabs, TK.agg, reduceCtorEq, Array.toList, List.map_cons, List.map_nil, ↓reduceIte, List.length_map, Nat.reduceAdd, Nat.reduceLeDiff, Nat.reduceLT, Nat.reduceMul, Nat.reduceSub, Option.bind_some, Option.map_some, bndV, numV, eI, eU, e8, eB, AV.isCell, Int.reduceToNat, Int.reduceSub, Int.reduceAdd, Int.reduceNeg, load_at k6n])
    refine lit_live1 fun ql hql => ?_
    have leL := Heap.le_set (b := [AV.sl qn 1 0 (eiG a b k).length]) hql
    have k6l := leL _ _ k6n
    (try simp (maxSteps := 1000000) (disch := (first | assumption | (apply Ne.symm; assumption))) only [vw0, vw1, vw2, vw3, vw4, vu0, vu1, ↓condV_t, ↓condV_f, cap_nil, allocV, splice, partV, buildV, eqFieldsV, eqS, tabs, TK.agg, reduceCtorEq, Array.toList, List.map_cons, List.map_nil, ↓reduceIte, List.length_map, Nat.reduceAdd, Nat.reduceLeDiff, Nat.reduceLT, Nat.reduceMul, Nat.reduceSub, Option.bind_some, Option.map_some, bndV, numV, eI, eU, e8, eB, AV.isCell, Int.reduceToNat, Int.reduceSub, Int.reduceAdd, Int.reduceNeg, load_at k6l])
    refine GAt.push (l := eiG a b k) (kgn.local fun y _ bb hb => leL y bb hb) knd (leL _ _ kqn) (fun hm => kDn _ hm rfl) (Heap.set_same _ _ _) (by rw [eiGs_len]; omega) fun q' G' D'' hq' kg' knd' kD' kold' => ?_
    have koldL : ∀ y bb, G2 y = some bb → y ≠ r6 → (Gn.set ql [AV.sl qn 1 0 (eiG a b k).length]) y = some bb := fun y bb hy h6 => leL _ _ (koldN y bb hy h6)
    have k6' := kold' _ _ k6l n6D
    rw [eiGs_len, ← eiGs_succ] at kg'
    rw [eiGs_len]
    have fr'' : ∀ y ∈ D'', G2 y = none := fun y hy => by
      rcases kD' y hy with h | rfl | rfl
      · exact kfr y h
      · exact hqnG2
      · cases hh : G2 y with
        | none => rfl
        | some bb =>
          by_cases e : y = r6
          · rw [e, k6l] at hq'; cases hq'
          · rw [koldL _ _ hh e] at hq'; cases hq'
    have n6'' : r6 ∉ D'' := fun hm => by have := fr'' _ hm; rw [g6] at this; cases this
    (try simp (maxSteps := 1000000) (disch := (first | assumption | (apply Ne.symm; assumption))) only [vw0, vw1, vw2, vw3, vw4, vu0, vu1, ↓condV_t, ↓condV_f, cap_nil, allocV, splice, partV, buildV, eqFieldsV, eqS, tabs, TK.agg, reduceCtorEq, Array.toList, List.map_cons, List.map_nil, ↓reduceIte, List.length_map, Nat.reduceAdd, Nat.reduceLeDiff, Nat.reduceLT, Nat.reduceMul, Nat.reduceSub, Option.bind_some, Option.map_some, bndV, numV, eI, eU, e8, eB, AV.isCell, Int.reduceToNat, Int.reduceSub, Int.reduceAdd, Int.reduceNeg, store_at k6'])
    refine ⟨(k + 1, .sl q' 1 0 (k + 1), G'.set r6 [I (a.states + b.states), rowP q1 (eiF a b), rowE q (eiE a b b.edges.length), .sl q' 1 0 (k + 1)], D''), ⟨by simp only; omega, Heap.set_same _ _ _, fun y bb hy h6 => ?_, kg'.local fun y hy bb hb => ?_, knd', fr''⟩, by simp only; omega, ?_, Heap.le_refl _⟩
    · simp only
      rw [Heap.set_other h6]
      exact kold' _ _ (koldL _ _ hy h6) (fun hm => by rw [kfr y hm] at hy; cases hy)
    · simp only
      rw [Heap.set_other (fun e => n6'' (by rw [← e]; exact hy))]; exact hb
    · rw [wk_int, i64_id (by omega) (by omega)]; simp
  · have hkm : k = m := by omega
    subst hkm
    have efs : (eiT a b) = ⟨a.states + b.states, eiF a b, eiE a b b.edges.length, eiGs a b k⟩ := by rw [eiT, hmm]
    -- the rows of the result
    obtain ⟨x', Dg, hx', hg', hnd', hfr', hxw⟩ : ∃ x' Dg, LII (eiGs a b k) x' G Dg ∧ (∀ y ∈ Dg, H y = none) ∧ Dg.Nodup ∧ (q1 ∉ Dg ∧ q ∉ Dg ∧ r2 ∉ Dg) ∧ AV.wk x x' := by
      obtain ⟨cs, D', hll, h2⟩ := kg
      have hH : ∀ {y}, G2 y = none → H y = none := fun hy => hB (hB0 (hB1 (hB2 hy)))
      rcases h2 with ⟨rfl, rfl, rfl⟩ | ⟨qg, rfl, hqg, rfl⟩
      · have hk0 : k = 0 := by have := LL.size LIc.size hll; rw [eiGs_len] at this; simpa using this.symm
        subst hk0
        have hz3' := hle _ _ (le1 _ _ (le0 _ _ e1))
        have hz36 : z3 ≠ r6 := ne (le1 _ _ (le0 _ _ e1)) hr6
        refine ⟨.sl z3 1 0 0, [z3], ⟨z3, [], [], rfl, kold _ _ hz3' hz36, ⟨rfl, rfl⟩, rfl⟩, fun y hy => by rw [List.mem_singleton] at hy; rw [hy]; exact hz3, by simp, ⟨?_, ?_, ?_⟩, .nilo _ _ _⟩
        · rw [List.mem_singleton]; exact Ne.symm (ne (le0 _ _ e1) hq1)
        · rw [List.mem_singleton]; exact Ne.symm (ne (le1 _ _ (le0 _ _ e1)) hq)
        · rw [List.mem_singleton]; rintro rfl; rw [e1] at hr2; cases hr2
      · refine ⟨_, _, ⟨qg, cs, D', rfl, hqg, hll, rfl⟩, fun y hy => hH (kfr y hy), knd, ⟨?_, ?_, ?_⟩, .refl _⟩
        · intro hm; have := kfr _ hm; rw [gq1] at this; cases this
        · intro hm; have := kfr _ hm; rw [gq] at this; cases this
        · intro hm; have := kfr _ hm; rw [gr22'] at this; cases this
    have nq1q : q1 ≠ q := ne g1q hq
    have hL : LAu (eiT a b) (.agg [I (a.states + b.states), rowP q1 (eiF a b), rowE q (eiE a b b.edges.length), x']) G ([q1] ++ ([q] ++ Dg)) := by
      rw [efs]
      exact ⟨_, _, _, [q1], [q], Dg, rfl, rfl, LI_mk' kq1, LE_mk kq, hx'⟩
    have hN : ([q1] ++ ([q] ++ Dg)).Nodup := by
      rw [List.singleton_append, List.singleton_append, List.nodup_cons, List.nodup_cons]
      exact ⟨by rw [List.mem_cons, not_or]; exact ⟨nq1q, hfr'.1⟩, hfr'.2.1, hnd'⟩
    have hle3 : Heap.le H3 G := fun y bb hy => kold _ _ (hle _ _ (le1 _ _ (le0 _ _ hy))) (ne (le1 _ _ (le0 _ _ hy)) hr6)
    have hleH : Heap.le H G := Heap.le_trans leB hle3
    have hFr : ∀ y ∈ [q1] ++ ([q] ++ Dg), H y = none := fun y hy => by
      simp only [List.mem_append, List.mem_singleton] at hy
      rcases hy with rfl | rfl | hy
      · exact hB (hB0 hq1)
      · exact hB (hB0 (hB1 hq))
      · exact hg' y hy
    (try simp (maxSteps := 1000000) (disch := (first | assumption | (apply Ne.symm; assumption))) only [vw0, vw1, vw2, vw3, vw4, vu0, vu1, ↓condV_t, ↓condV_f, cap_nil, allocV, splice, partV, buildV, eqFieldsV, eqS, tabs, TK.agg, reduceCtorEq, Array.toList, List.map_cons, List.map_nil, ↓reduceIte, List.length_map, Nat.reduceAdd, Nat.reduceLeDiff, Nat.reduceLT, Nat.reduceMul, Nat.reduceSub, Option.bind_some, Option.map_some, bndV, numV, eI, eU, e8, eB, AV.isCell, Int.reduceToNat, Int.reduceSub, Int.reduceAdd, Int.reduceNeg, load_at k6])
    refine CallT.args (args' := [.agg [I (a.states + b.states), rowP q1 (eiF a b), rowE q (eiE a b b.edges.length), x']]) ?_ ⟨wk_agg ⟨.refl _, .refl _, .refl _, hxw, trivial⟩, trivial⟩
    obtain ⟨qx, rfl⟩ := LRow.sl hx'
    refine checkedAuto_live hL hN (eiT_sm fa fb) (fun hgo => ?_) (fun hgo => ?_)
    · have er : eiR a b = (eiT a b, true) := by simp only [eiR, ga, gb, hgo, Bool.and_self, if_true]
      rw [er] at h
      (try simp (maxSteps := 1000000) (disch := (first | assumption | (apply Ne.symm; assumption))) only [vw0, vw1, vw2, vw3, vw4, vu0, vu1, ↓condV_t, ↓condV_f, cap_nil, allocV, splice, partV, buildV, eqFieldsV, eqS, tabs, TK.agg, reduceCtorEq, Array.toList, List.map_cons, List.map_nil, ↓reduceIte, List.length_map, Nat.reduceAdd, Nat.reduceLeDiff, Nat.reduceLT, Nat.reduceMul, Nat.reduceSub, Option.bind_some, Option.map_some, bndV, numV, eI, eU, e8, eB, AV.isCell, Int.reduceToNat, Int.reduceSub, Int.reduceAdd, Int.reduceNeg, store_at kr2])
      refine wkK.keep (h _ _ _ (hL.local fun y hy bb hb => ?_) ⟨hN, hFr, ?_⟩)
      · rw [Heap.set_other]; · exact hb
        rintro rfl
        simp only [List.mem_append, List.mem_singleton] at hy
        rcases hy with h5 | h5 | h5
        · exact ne gr2 hq1 h5
        · exact ne g1r2 hq h5
        · exact hfr'.2.2 h5
      · exact Heap.le_setN hleH hHr2
    · have er : eiR a b = (zeroA, false) := by simp only [eiR, ga, gb, hgo, Bool.and_false, Bool.false_eq_true, if_false]
      (try simp (maxSteps := 1000000) (disch := (first | assumption | (apply Ne.symm; assumption))) only [vw0, vw1, vw2, vw3, vw4, vu0, vu1, ↓condV_t, ↓condV_f, cap_nil, allocV, splice, partV, buildV, eqFieldsV, eqS, tabs, TK.agg, reduceCtorEq, Array.toList, List.map_cons, List.map_nil, ↓reduceIte, List.length_map, Nat.reduceAdd, Nat.reduceLeDiff, Nat.reduceLT, Nat.reduceMul, Nat.reduceSub, Option.bind_some, Option.map_some, bndV, numV, eI, eU, e8, eB, AV.isCell, Int.reduceToNat, Int.reduceSub, Int.reduceAdd, Int.reduceNeg, store_at kr2])
      exact zl _ (Heap.le_setN hle3 hr2) (by rw [er] at h; exact h)
theorem Either_ref (a b : Au) (sa : smAu a) (sb : smAu b) {H : Heap} {K : AV → Heap → Prop} (h : ∀ v G D, LAu (eiR a b).1 v G D → New H G D → K (.tup [v, B (eiR a b).2]) G) : CallT Try.prog 10 [aAu a, aAu b] H K := by
  refine CallT.fin ?_
  refine CallT.ghost W10_hb fun z1 hz1 => ?_
  refine CallT.ghost W10_hb fun z2 hz2 => ?_
  refine CallT.ghost W10_hb fun z3 hz3 => ?_
  rw [Heap.set_none] at hz2
  rw [Heap.set_none, Heap.set_none] at hz3
  obtain ⟨n21, hz2⟩ := hz2
  obtain ⟨n32, n31, hz3⟩ := hz3
  have zl := fun (G : Heap) (hle : Heap.le (((H.set z1 []).set z2 []).set z3 []) G) (h : ∀ v G D, LAu zeroA v G D → New H G D → K (.tup [v, B false]) G) => zero_live hz1 hz2 hz3 n21 n31 n32 hle h
  have e1 : (((H.set z1 []).set z2 []).set z3 []) z3 = some [] := Heap.set_same _ _ _
  have hB : ∀ {y}, (((H.set z1 []).set z2 []).set z3 []) y = none → H y = none := fun hy => by
    simp only [Heap.set_none] at hy; exact hy.2.2.2
  have leB : Heap.le H (((H.set z1 []).set z2 []).set z3 []) := Heap.le_setN (Heap.le_setN (Heap.le_set hz1) hz2) hz3
  generalize (((H.set z1 []).set z2 []).set z3 []) = H3 at zl e1 hB leB ⊢
  refine W10_ok ?_; simp (maxSteps := 1000000) (disch := (first | assumption | (apply Ne.symm; assumption))) only [W10, vw0, vw1, vw2, vw3, vw4, vu0, vu1, ↓condV_t, ↓condV_f, cap_nil, allocV, splice, partV, buildV, eqFieldsV, eqS, tabs, TK.agg, reduceCtorEq, Array.toList, List.map_cons, List.map_nil, ↓reduceIte, List.length_map, Nat.reduceAdd, Nat.reduceLeDiff, Nat.reduceLT, Nat.reduceMul, Nat.reduceSub, Option.bind_some, Option.map_some, bndV, numV, eI, eU, e8, eB, AV.isCell, Int.reduceToNat, Int.reduceSub, Int.reduceAdd, Int.reduceNeg]
  intro r hr r1 nr1 hr1 r2 nr21 nr2 hr2
  have gr : (((H3.set r [I a.states, Is a.first, Es a.edges, Ls a.goals]).set r1 [I b.states, Is b.first, Es b.edges, Ls b.goals]).set r2 [I 0, .p .nil, .p .nil, .p .nil]) r = some [I a.states, Is a.first, Es a.edges, Ls a.goals] := by rw [Heap.set_other (Ne.symm nr2), Heap.set_other (Ne.symm nr1), Heap.set_same]
  have gr1 : (((H3.set r [I a.states, Is a.first, Es a.edges, Ls a.goals]).set r1 [I b.states, Is b.first, Es b.edges, Ls b.goals]).set r2 [I 0, .p .nil, .p .nil, .p .nil]) r1 = some [I b.states, Is b.first, Es b.edges, Ls b.goals] := by rw [Heap.set_other (Ne.symm nr21), Heap.set_same]
  have gr2 : (((H3.set r [I a.states, Is a.first, Es a.edges, Ls a.goals]).set r1 [I b.states, Is b.first, Es b.edges, Ls b.goals]).set r2 [I 0, .p .nil, .p .nil, .p .nil]) r2 = some [I 0, .p .nil, .p .nil, .p .nil] := Heap.set_same _ _ _
  have le0 : Heap.le H3 (((H3.set r [I a.states, Is a.first, Es a.edges, Ls a.goals]).set r1 [I b.states, Is b.first, Es b.edges, Ls b.goals]).set r2 [I 0, .p .nil, .p .nil, .p .nil]) := Heap.le_setN (Heap.le_setN (Heap.le_set hr) hr1) hr2
  have hB0 : ∀ {y}, (((H3.set r [I a.states, Is a.first, Es a.edges, Ls a.goals]).set r1 [I b.states, Is b.first, Es b.edges, Ls b.goals]).set r2 [I 0, .p .nil, .p .nil, .p .nil]) y = none → H3 y = none := fun hy => by
    simp only [Heap.set_none] at hy; exact hy.2.2.2
  have hHr2 : H r2 = none := hB hr2
  generalize (((H3.set r [I a.states, Is a.first, Es a.edges, Ls a.goals]).set r1 [I b.states, Is b.first, Es b.edges, Ls b.goals]).set r2 [I 0, .p .nil, .p .nil, .p .nil]) = G0 at gr gr1 gr2 le0 hB0 ⊢
  have bad : ∀ {G}, Heap.le G0 G → eiR a b = (zeroA, false) → wkK K (.tup [zA, B false]) G := fun hle e => zl _ (Heap.le_trans le0 hle) (by rw [e] at h; exact h)
  have ne : ∀ {G : Heap} {y c q}, G y = some c → G q = none → y ≠ q := fun h1 h2 e => by rw [e, h2] at h1; cases h1
  have setid : G0.set r2 [I 0, .p .nil, .p .nil, .p .nil] = G0 := by
    funext y
    by_cases e : y = r2
    · subst e; rw [Heap.set_same, gr2]
    · rw [Heap.set_other e]
  (try simp (maxSteps := 1000000) (disch := (first | assumption | (apply Ne.symm; assumption))) only [vw0, vw1, vw2, vw3, vw4, vu0, vu1, ↓condV_t, ↓condV_f, cap_nil, allocV, splice, partV, buildV, eqFieldsV, eqS, tabs, TK.agg, reduceCtorEq, Array.toList, List.map_cons, List.map_nil, ↓reduceIte, List.length_map, Nat.reduceAdd, Nat.reduceLeDiff, Nat.reduceLT, Nat.reduceMul, Nat.reduceSub, Option.bind_some, Option.map_some, bndV, numV, eI, eU, e8, eB, AV.isCell, Int.reduceToNat, Int.reduceSub, Int.reduceAdd, Int.reduceNeg, load_at gr])
  refine Pu.use (GoodAuto_spec a sa) ?_
  cases ga : goodA a
  · (try simp (maxSteps := 1000000) (disch := (first | assumption | (apply Ne.symm; assumption))) only [vw0, vw1, vw2, vw3, vw4, vu0, vu1, ↓condV_t, ↓condV_f, cap_nil, allocV, splice, partV, buildV, eqFieldsV, eqS, tabs, TK.agg, reduceCtorEq, Array.toList, List.map_cons, List.map_nil, ↓reduceIte, List.length_map, Nat.reduceAdd, Nat.reduceLeDiff, Nat.reduceLT, Nat.reduceMul, Nat.reduceSub, Option.bind_some, Option.map_some, bndV, numV, eI, eU, e8, eB, AV.isCell, Int.reduceToNat, Int.reduceSub, Int.reduceAdd, Int.reduceNeg, store_at gr2])
    rw [setid]
    (try simp (maxSteps := 1000000) (disch := (first | assumption | (apply Ne.symm; assumption))) only [vw0, vw1, vw2, vw3, vw4, vu0, vu1, ↓condV_t, ↓condV_f, cap_nil, allocV, splice, partV, buildV, eqFieldsV, eqS, tabs, TK.agg, reduceCtorEq, Array.toList, List.map_cons, List.map_nil, ↓reduceIte, List.length_map, Nat.reduceAdd, Nat.reduceLeDiff, Nat.reduceLT, Nat.reduceMul, Nat.reduceSub, Option.bind_some, Option.map_some, bndV, numV, eI, eU, e8, eB, AV.isCell, Int.reduceToNat, Int.reduceSub, Int.reduceAdd, Int.reduceNeg, load_at gr2])
    exact bad (Heap.le_refl _) (by simp only [eiR, ga, Bool.false_and, Bool.false_eq_true, if_false])
  (try simp (maxSteps := 1000000) (disch := (first | assumption | (apply Ne.symm; assumption))) only [vw0, vw1, vw2, vw3, vw4, vu0, vu1, ↓condV_t, ↓condV_f, cap_nil, allocV, splice, partV, buildV, eqFieldsV, eqS, tabs, TK.agg, reduceCtorEq, Array.toList, List.map_cons, List.map_nil, ↓reduceIte, List.length_map, Nat.reduceAdd, Nat.reduceLeDiff, Nat.reduceLT, Nat.reduceMul, Nat.reduceSub, Option.bind_some, Option.map_some, bndV, numV, eI, eU, e8, eB, AV.isCell, Int.reduceToNat, Int.reduceSub, Int.reduceAdd, Int.reduceNeg, load_at gr1])
  refine Pu.use (GoodAuto_spec b sb) ?_
  cases gb : goodA b
  · (try simp (maxSteps := 1000000) (disch := (first | assumption | (apply Ne.symm; assumption))) only [vw0, vw1, vw2, vw3, vw4, vu0, vu1, ↓condV_t, ↓condV_f, cap_nil, allocV, splice, partV, buildV, eqFieldsV, eqS, tabs, TK.agg, reduceCtorEq, Array.toList, List.map_cons, List.map_nil, ↓reduceIte, List.length_map, Nat.reduceAdd, Nat.reduceLeDiff, Nat.reduceLT, Nat.reduceMul, Nat.reduceSub, Option.bind_some, Option.map_some, bndV, numV, eI, eU, e8, eB, AV.isCell, Int.reduceToNat, Int.reduceSub, Int.reduceAdd, Int.reduceNeg, store_at gr2])
    rw [setid]
    (try simp (maxSteps := 1000000) (disch := (first | assumption | (apply Ne.symm; assumption))) only [vw0, vw1, vw2, vw3, vw4, vu0, vu1, ↓condV_t, ↓condV_f, cap_nil, allocV, splice, partV, buildV, eqFieldsV, eqS, tabs, TK.agg, reduceCtorEq, Array.toList, List.map_cons, List.map_nil, ↓reduceIte, List.length_map, Nat.reduceAdd, Nat.reduceLeDiff, Nat.reduceLT, Nat.reduceMul, Nat.reduceSub, Option.bind_some, Option.map_some, bndV, numV, eI, eU, e8, eB, AV.isCell, Int.reduceToNat, Int.reduceSub, Int.reduceAdd, Int.reduceNeg, load_at gr2])
    exact bad (Heap.le_refl _) (by simp only [eiR, gb, Bool.and_false, Bool.false_and, Bool.false_eq_true, if_false])
  have fa := good_facts ga
  have fb := good_facts gb
  have sta := fa.st
  have stb := fb.st
  have hed := fa.ed
  have hed2 := fb.ed
  have hfi := fa.fi.2
  have hfi2 := fb.fi.2
  have es : IntKind.i64.wrap (a.states + b.states) = a.states + b.states := i64_id (by omega) (by omega)
  have n0 : buildN tab 28 0 [] = some (fun r => .sl r 3 0 0, []) := by
    simp only [buildN, tab_28, tab_61, ifN, fillV, zerosA]
    rfl
  (try simp (maxSteps := 1000000) (disch := (first | assumption | (apply Ne.symm; assumption))) only [vw0, vw1, vw2, vw3, vw4, vu0, vu1, ↓condV_t, ↓condV_f, cap_nil, allocV, splice, partV, buildV, eqFieldsV, eqS, tabs, TK.agg, reduceCtorEq, Array.toList, List.map_cons, List.map_nil, ↓reduceIte, List.length_map, Nat.reduceAdd, Nat.reduceLeDiff, Nat.reduceLT, Nat.reduceMul, Nat.reduceSub, Option.bind_some, Option.map_some, bndV, numV, eI, eU, e8, eB, AV.isCell, Int.reduceToNat, Int.reduceSub, Int.reduceAdd, Int.reduceNeg, load_at gr, load_at gr1, es, n0, safeV_some, newV_some])
  refine l12Behind_row a.first b.first a.states fa.fi.1 fb.fi.1 (by omega) fun q1 hq1 => ?_
  have efl : a.first ++ mv b.first a.states = eiF a b := rfl
  rw [efl]
  have le1 : Heap.le G0 (G0.set q1 (cP fI (eiF a b))) := Heap.le_set hq1
  have g1r := le1 _ _ gr
  have g1r1 := le1 _ _ gr1
  have g1r2 := le1 _ _ gr2
  have g1q : (G0.set q1 (cP fI (eiF a b))) q1 = some (cP fI (eiF a b)) := Heap.set_same _ _ _
  have hB1 : ∀ {y}, (G0.set q1 (cP fI (eiF a b))) y = none → G0 y = none := fun hy => by
    rw [Heap.set_none] at hy; exact hy.2
  generalize G0.set q1 (cP fI (eiF a b)) = G1 at g1r g1r1 g1r2 g1q le1 hB1 ⊢
  (try simp (maxSteps := 1000000) (disch := (first | assumption | (apply Ne.symm; assumption))) only [vw0, vw1, vw2, vw3, vw4, vu0, vu1, ↓condV_t, ↓condV_f, cap_nil, allocV, splice, partV, buildV, eqFieldsV, eqS, tabs, TK.agg, reduceCtorEq, Array.toList, List.map_cons, List.map_nil, ↓reduceIte, List.length_map, Nat.reduceAdd, Nat.reduceLeDiff, Nat.reduceLT, Nat.reduceMul, Nat.reduceSub, Option.bind_some, Option.map_some, bndV, numV, eI, eU, e8, eB, AV.isCell, Int.reduceToNat, Int.reduceSub, Int.reduceAdd, Int.reduceNeg, load_at g1r, load_at g1r1])
  intro q0 hq0
  have nrq0 : r ≠ q0 := ne g1r hq0
  have nr1q0 : r1 ≠ q0 := ne g1r1 hq0
  have nrq0' : q0 ≠ r := Ne.symm nrq0
  have nr1q0' : q0 ≠ r1 := Ne.symm nr1q0
  (try simp (maxSteps := 1000000) (disch := (first | assumption | (apply Ne.symm; assumption))) only [vw0, vw1, vw2, vw3, vw4, vu0, vu1, ↓condV_t, ↓condV_f, cap_nil, allocV, splice, partV, buildV, eqFieldsV, eqS, tabs, TK.agg, reduceCtorEq, Array.toList, List.map_cons, List.map_nil, ↓reduceIte, List.length_map, Nat.reduceAdd, Nat.reduceLeDiff, Nat.reduceLT, Nat.reduceMul, Nat.reduceSub, Option.bind_some, Option.map_some, bndV, numV, eI, eU, e8, eB, AV.isCell, Int.reduceToNat, Int.reduceSub, Int.reduceAdd, Int.reduceNeg, load_at g1r, load_at g1r1])
  refine app_topE (xs := []) (ys := a.edges) hq0 (by simp only [List.length_nil]; omega) fun qe hqe => ?_
  rw [List.nil_append]
  have nrqe : r ≠ qe := ne g1r hqe
  have nr1qe : r1 ≠ qe := ne g1r1 hqe
  (try simp (maxSteps := 1000000) (disch := (first | assumption | (apply Ne.symm; assumption))) only [vw0, vw1, vw2, vw3, vw4, vu0, vu1, ↓condV_t, ↓condV_f, cap_nil, allocV, splice, partV, buildV, eqFieldsV, eqS, tabs, TK.agg, reduceCtorEq, Array.toList, List.map_cons, List.map_nil, ↓reduceIte, List.length_map, Nat.reduceAdd, Nat.reduceLeDiff, Nat.reduceLT, Nat.reduceMul, Nat.reduceSub, Option.bind_some, Option.map_some, bndV, numV, eI, eU, e8, eB, AV.isCell, Int.reduceToNat, Int.reduceSub, Int.reduceAdd, Int.reduceNeg, load_at g1r, load_at g1r1])
  intro r6 hr6e hr6
  have n16 : r1 ≠ r6 := ne g1r1 hr6
  have n1e : r1 ≠ qe := ne g1r1 hqe
  (try simp (maxSteps := 1000000) (disch := (first | assumption | (apply Ne.symm; assumption))) only [vw0, vw1, vw2, vw3, vw4, vu0, vu1, ↓condV_t, ↓condV_f, cap_nil, allocV, splice, partV, buildV, eqFieldsV, eqS, tabs, TK.agg, reduceCtorEq, Array.toList, List.map_cons, List.map_nil, ↓reduceIte, List.length_map, Nat.reduceAdd, Nat.reduceLeDiff, Nat.reduceLT, Nat.reduceMul, Nat.reduceSub, Option.bind_some, Option.map_some, bndV, numV, eI, eU, e8, eB, AV.isCell, Int.reduceToNat, Int.reduceSub, Int.reduceAdd, Int.reduceNeg, load_at g1r1])
  have les : ∀ i, (eiE a b i).length ≤ 5000 := fun i => by
    simp only [eiE, List.length_append, mvE_len, List.length_take]; omega
  refine L10_0_rule ((0 : Nat), qe) (fun s => I s.1) (fun s => (G1.set s.2 (cE (eiE a b s.1))).set r6 [I (a.states + b.states), rowP q1 (eiF a b), rowE s.2 (eiE a b s.1), .p .nil])
    (fun s => s.1 ≤ b.edges.length ∧ G1 s.2 = none ∧ s.2 ≠ r6) (fun s => b.edges.length - s.1) ⟨⟨by simp, hqe, Ne.symm hr6e⟩, .refl _, ?_⟩ ?_
  · simp only [eiE_zero]
    exact Heap.le_refl _
  rintro ⟨i, q⟩ ⟨hi, hq, hq6⟩
  dsimp only at hi hq hq6
  have hle : Heap.le G1 ((G1.set q (cE (eiE a b i))).set r6 [I (a.states + b.states), rowP q1 (eiF a b), rowE q (eiE a b i), .p .nil]) := Heap.le_setN (Heap.le_set hq) hr6
  have g6 : ((G1.set q (cE (eiE a b i))).set r6 [I (a.states + b.states), rowP q1 (eiF a b), rowE q (eiE a b i), .p .nil]) r6 = some [I (a.states + b.states), rowP q1 (eiF a b), rowE q (eiE a b i), .p .nil] := Heap.set_same _ _ _
  have gq : ((G1.set q (cE (eiE a b i))).set r6 [I (a.states + b.states), rowP q1 (eiF a b), rowE q (eiE a b i), .p .nil]) q = some (cE (eiE a b i)) := by rw [Heap.set_other hq6, Heap.set_same]
  have hB2 : ∀ {y}, ((G1.set q (cE (eiE a b i))).set r6 [I (a.states + b.states), rowP q1 (eiF a b), rowE q (eiE a b i), .p .nil]) y = none → G1 y = none := fun hy => by
    simp only [Heap.set_none] at hy; exact hy.2.2
  have hli := les i
  generalize (G1.set q (cE (eiE a b i))).set r6 [I (a.states + b.states), rowP q1 (eiF a b), rowE q (eiE a b i), .p .nil] = G2 at hle g6 gq hB2 ⊢
  have gr2' := hle _ _ g1r
  have gr12' := hle _ _ g1r1
  have gr22' := hle _ _ g1r2
  have gq1 := hle _ _ g1q
  (try simp (maxSteps := 1000000) (disch := (first | assumption | (apply Ne.symm; assumption))) only [vw0, vw1, vw2, vw3, vw4, vu0, vu1, ↓condV_t, ↓condV_f, cap_nil, allocV, splice, partV, buildV, eqFieldsV, eqS, tabs, TK.agg, reduceCtorEq, Array.toList, List.map_cons, List.map_nil, ↓reduceIte, List.length_map, Nat.reduceAdd, Nat.reduceLeDiff, Nat.reduceLT, Nat.reduceMul, Nat.reduceSub, Option.bind_some, Option.map_some, bndV, numV, eI, eU, e8, eB, AV.isCell, Int.reduceToNat, Int.reduceSub, Int.reduceAdd, Int.reduceNeg, B10_0])
  refine ⟨fun h1 => ⟨by omega, h1, ?_⟩, fun h1 => ?_⟩
  · have hlt : i < b.edges.length := by omega
    have hm : b.edges.getD i default ∈ b.edges := getD_all (p := fun x => x ∈ b.edges) (fun _ h => h) hlt
    have hei := edIn_iff.1 (fb.ei _ hm)
    have hsucc : eiE a b (i + 1) = eiE a b i ++ [⟨(b.edges.getD i default).src + a.states, (b.edges.getD i default).lt, (b.edges.getD i default).dst + a.states⟩] := eiE_succ a b hlt
    generalize b.edges.getD i default = x at hei hsucc ⊢
    intro r8 hr8
    have x1 : IntKind.i64.wrap (x.src + a.states) = x.src + a.states := i64_id (by omega) (by omega)
    have x2 : IntKind.i64.wrap (x.dst + a.states) = x.dst + a.states := i64_id (by omega) (by omega)
    have le8 := Heap.le_set (b := [I x.src, I x.lt, I x.dst]) hr8
    have g68 := le8 _ _ g6
    have gr8 := le8 _ _ gr2'
    have g88 : (G2.set r8 [I x.src, I x.lt, I x.dst]) r8 = some [I x.src, I x.lt, I x.dst] := Heap.set_same _ _ _
    have gq8 := le8 _ _ gq
    have hle8 := Heap.le_trans hle le8
    have hB8 : ∀ {y}, (G2.set r8 [I x.src, I x.lt, I x.dst]) y = none → G1 y = none := fun hy => by
      rw [Heap.set_none] at hy; exact hB2 hy.2
    (try simp (maxSteps := 1000000) (disch := (first | assumption | (apply Ne.symm; assumption))) only [vw0, vw1, vw2, vw3, vw4, vu0, vu1, ↓condV_t, ↓condV_f, cap_nil, allocV, splice, partV, buildV, eqFieldsV, eqS, tabs, TK.agg, reduceCtorEq, Array.toList, List.map_cons, List.map_nil, ↓reduceIte, List.length_map, Nat.reduceAdd, Nat.reduceLeDiff, Nat.reduceLT, Nat.reduceMul, Nat.reduceSub, Option.bind_some, Option.map_some, bndV, numV, eI, eU, e8, eB, AV.isCell, Int.reduceToNat, Int.reduceSub, Int.reduceAdd, Int.reduceNeg, load_at g68, load_at gr8, load_at g88, x1, x2])
    generalize G2.set r8 [I x.src, I x.lt, I x.dst] = G3 at g68 gr8 g88 gq8 hle8 hB8 ⊢
    refine lit_edge (x := ⟨x.src + a.states, x.lt, x.dst + a.states⟩) ?_
    refine app_edges gq8 (by simp only [List.length_cons, List.length_nil]; omega) fun q' hq' hne => ?_
    rw [← hsucc]
    have h6' : ((G3.del q).set q' (cE (eiE a b (i + 1)))) r6 = some [I (a.states + b.states), rowP q1 (eiF a b), rowE q (eiE a b i), .p .nil] := by
      rw [Heap.set_other (ne g68 hq'), Heap.del_other (Ne.symm hq6)]; exact g68
    (try simp (maxSteps := 1000000) (disch := (first | assumption | (apply Ne.symm; assumption))) only [vw0, vw1, vw2, vw3, vw4, vu0, vu1, ↓condV_t, ↓condV_f, cap_nil, allocV, splice, partV, buildV, eqFieldsV, eqS, tabs, TK.agg, reduceCtorEq, Array.toList, List.map_cons, List.map_nil, ↓reduceIte, List.length_map, Nat.reduceAdd, Nat.reduceLeDiff, Nat.reduceLT, Nat.reduceMul, Nat.reduceSub, Option.bind_some, Option.map_some, bndV, numV, eI, eU, e8, eB, AV.isCell, Int.reduceToNat, Int.reduceSub, Int.reduceAdd, Int.reduceNeg, store_at h6'])
    refine ⟨(i + 1, q'), ⟨by simp only; omega, hB8 hq', Ne.symm (ne g68 hq')⟩, by simp only; omega, ?_, ?_⟩
    · rw [wk_int, i64_id (by omega) (by omega)]; simp
    · simp only
      generalize [I (a.states + b.states), rowP q1 (eiF a b), rowE q' (eiE a b (i + 1)), .p .nil] = z6
      generalize cE (eiE a b (i + 1)) = z
      intro y bb hbb
      by_cases y6 : y = r6
      · subst y6; rw [Heap.set_same] at hbb ⊢; exact hbb
      rw [Heap.set_other y6] at hbb ⊢
      by_cases yq : y = q'
      · subst yq; rw [Heap.set_same] at hbb ⊢; exact hbb
      rw [Heap.set_other yq] at hbb ⊢
      rw [Heap.del_other (fun e => by rw [e, hq] at hbb; cases hbb)]
      exact hle8 y bb hbb
  have hil : i = b.edges.length := by omega
  subst hil
  (try simp (maxSteps := 1000000) (disch := (first | assumption | (apply Ne.symm; assumption))) only [vw0, vw1, vw2, vw3, vw4, vu0, vu1, ↓condV_t, ↓condV_f, cap_nil, allocV, splice, partV, buildV, eqFieldsV, eqS, tabs, TK.agg, reduceCtorEq, Array.toList, List.map_cons, List.map_nil, ↓reduceIte, List.length_map, Nat.reduceAdd, Nat.reduceLeDiff, Nat.reduceLT, Nat.reduceMul, Nat.reduceSub, Option.bind_some, Option.map_some, bndV, numV, eI, eU, e8, eB, AV.isCell, Int.reduceToNat, Int.reduceSub, Int.reduceAdd, Int.reduceNeg, load_at gr2', load_at gr12'])
  have hgl := fa.gl
  have hgl2 := fb.gl
  have hm6 : max a.goals.length b.goals.length ≤ 6 := by omega
  generalize hmm : max a.goals.length b.goals.length = m at hm6
  have ffs := les b.edges.length
  refine L10_1_rule ((0 : Nat), (.p .nil : AV), G2, ([] : List Nat)) (fun s => I s.1) (fun s => s.2.2.1)
    (fun s => s.1 ≤ m ∧ s.2.2.1 r6 = some [I (a.states + b.states), rowP q1 (eiF a b), rowE q (eiE a b b.edges.length), s.2.1] ∧ (∀ y bb, G2 y = some bb → y ≠ r6 → s.2.2.1 y = some bb) ∧ GAt s.2.1 (eiGs a b s.1) s.2.2.1 s.2.2.2 ∧ s.2.2.2.Nodup ∧ (∀ y ∈ s.2.2.2, G2 y = none)) (fun s => m - s.1)
    ⟨⟨by simp, g6, fun y bb hy _ => hy, GAt.nil _, by simp, by simp⟩, .refl _, Heap.le_refl _⟩ ?_
  rintro ⟨k, x, G, D⟩ ⟨hk, k6, kold, kg, knd, kfr⟩
  dsimp only at hk k6 kold kg knd kfr
  have nr6 : r ≠ r6 := ne g1r hr6
  have nr16 : r1 ≠ r6 := ne g1r1 hr6
  have nr26 : r2 ≠ r6 := ne g1r2 hr6
  have nq16 : q1 ≠ r6 := ne g1q hr6
  have kr := kold _ _ gr2' nr6
  have kr1 := kold _ _ gr12' nr16
  have kr2 := kold _ _ gr22' nr26
  have kq1 := kold _ _ gq1 nq16
  have kq := kold _ _ gq hq6
  have n6D : r6 ∉ D := fun hm => by have := kfr _ hm; rw [g6] at this; cases this
  (try simp (maxSteps := 1000000) (disch := (first | assumption | (apply Ne.symm; assumption))) only [vw0, vw1, vw2, vw3, vw4, vu0, vu1, ↓condV_t, ↓condV_f, cap_nil, allocV, splice, partV, buildV, eqFieldsV, eqS, tabs, TK.agg, reduceCtorEq, Array.toList, List.map_cons, List.map_nil, ↓reduceIte, List.length_map, Nat.reduceAdd, Nat.reduceLeDiff, Nat.reduceLT, Nat.reduceMul, Nat.reduceSub, Option.bind_some, Option.map_some, bndV, numV, eI, eU, e8, eB, AV.isCell, Int.reduceToNat, Int.reduceSub, Int.reduceAdd, Int.reduceNeg, B10_1, load_at kr, load_at kr1])
  by_cases hkm : k < m
  · refine or2 (by omega) ?_
    (try simp (maxSteps := 1000000) (disch := (first | assumption | (apply Ne.symm; assumption))) only [vw0, vw1, vw2, vw3, vw4, vu0, vu1, ↓condV_t, ↓condV_f, cap_nil, allocV, splice, partV, buildV, eqFieldsV, eqS, tabs, TK.agg, reduceCtorEq, Array.toList, List.map_cons, List.map_nil, ↓reduceIte, List.length_map, Nat.reduceAdd, Nat.reduceLeDiff, Nat.reduceLT, Nat.reduceMul, Nat.reduceSub, Option.bind_some, Option.map_some, bndV, numV, eI, eU, e8, eB, AV.isCell, Int.reduceToNat, Int.reduceSub, Int.reduceAdd, Int.reduceNeg, J10_2])
    have sa1 := goalAt_sm fa k
    have sb1 := goalAt_sm fb k
    (try simp (maxSteps := 1000000) (disch := (first | assumption | (apply Ne.symm; assumption))) only [vw0, vw1, vw2, vw3, vw4, vu0, vu1, ↓condV_t, ↓condV_f, cap_nil, allocV, splice, partV, buildV, eqFieldsV, eqS, tabs, TK.agg, reduceCtorEq, Array.toList, List.map_cons, List.map_nil, ↓reduceIte, List.length_map, Nat.reduceAdd, Nat.reduceLeDiff, Nat.reduceLT, Nat.reduceMul, Nat.reduceSub, Option.bind_some, Option.map_some, bndV, numV, eI, eU, e8, eB, AV.isCell, Int.reduceToNat, Int.reduceSub, Int.reduceAdd, Int.reduceNeg, load_at k6, load_at kr, load_at kr1])
    refine Pu.use (l12Goal_spec a k (by omega) (by omega)) ?_
    (try simp (maxSteps := 1000000) (disch := (first | assumption | (apply Ne.symm; assumption))) only [vw0, vw1, vw2, vw3, vw4, vu0, vu1, ↓condV_t, ↓condV_f, cap_nil, allocV, splice, partV, buildV, eqFieldsV, eqS, tabs, TK.agg, reduceCtorEq, Array.toList, List.map_cons, List.map_nil, ↓reduceIte, List.length_map, Nat.reduceAdd, Nat.reduceLeDiff, Nat.reduceLT, Nat.reduceMul, Nat.reduceSub, Option.bind_some, Option.map_some, bndV, numV, eI, eU, e8, eB, AV.isCell, Int.reduceToNat, Int.reduceSub, Int.reduceAdd, Int.reduceNeg, load_at k6, load_at kr, load_at kr1])
    refine Pu.use (l12Goal_spec b k (by omega) (by omega)) ?_
    (try simp (maxSteps := 1000000) (disch := (first | assumption | (apply Ne.symm; assumption))) only [vw0, vw1, vw2, vw3, vw4, vu0, vu1, ↓condV_t, ↓condV_f, cap_nil, allocV, splice, partV, buildV, eqFieldsV, eqS, tabs, TK.agg, reduceCtorEq, Array.toList, List.map_cons, List.map_nil, ↓reduceIte, List.length_map, Nat.reduceAdd, Nat.reduceLeDiff, Nat.reduceLT, Nat.reduceMul, Nat.reduceSub, Option.bind_some, Option.map_some, bndV, numV, eI, eU, e8, eB, AV.isCell, Int.reduceToNat, Int.reduceSub, Int.reduceAdd, Int.reduceNeg, load_at k6, load_at kr, load_at kr1])
    refine l12Behind_row (goalAt a k) (goalAt b k) a.states sa1.1 sb1.1 (by omega) fun qn hqn => ?_
    have eg : goalAt a k ++ mv (goalAt b k) a.states = eiG a b k := rfl
    rw [eg]
    have leN := Heap.le_set (b := cP fI (eiG a b k)) hqn
    have k6n := leN _ _ k6
    have kqn : (G.set qn (cP fI (eiG a b k))) qn = some (cP fI (eiG a b k)) := Heap.set_same _ _ _
    have kgn := kg.local fun y _ bb hb => leN y bb hb
    have hqnG2 : G2 qn = none := by
      cases hh : G2 qn with
      | none => rfl
      | some bb =>
        by_cases e : qn = r6
        · rw [e, k6] at hqn; cases hqn
        · rw [kold _ _ hh e] at hqn; cases hqn
    have kDn : ∀ y ∈ D, y ≠ qn := fun y hy e => by
      obtain ⟨cs, D', hll, h2⟩ := kg
      rcases h2 with ⟨_, _, rfl⟩ | ⟨qg, _, hqg, rfl⟩
      · cases hy
      · rcases List.mem_cons.1 hy with rfl | hy
        · rw [e, hqn] at hqg; cases hqg
        · exact LL.has LIc.has hll y hy (by rw [e]; exact hqn)
    have koldN : ∀ y bb, G2 y = some bb → y ≠ r6 → (G.set qn (cP fI (eiG a b k))) y = some bb := fun y bb hy h6 => leN _ _ (kold y bb hy h6)
    generalize G.set qn (cP fI (eiG a b k)) = Gn at k6n kqn kgn koldN ⊢
    (try simp (maxSteps := 1000000) (disch := (first | assumption | (apply Ne.symm; assumption))) only [vw0, vw1, vw2, vw3, vw4, vu0, vu1, ↓condV_t, ↓condV_f, cap_nil, allocV, splice, partV, buildV, eqFieldsV, eqS, tabs, TK.agg, reduceCtorEq, Array.toList, List.map_cons, List.map_nil, ↓reduceIte, List.length_map, Nat.reduceAdd, Nat.reduceLeDiff, Nat.reduceLT, Nat.reduceMul, Nat.reduceSub, Option.bind_some, Option.map_some, bndV, numV, eI, eU, e8, eB, AV.isCell, Int.reduceToNat, Int.reduceSub, Int.reduceAdd, Int.reduceNeg, load_at k6n])
    refine lit_live1 fun ql hql => ?_
    have leL := Heap.le_set (b := [AV.sl qn 1 0 (eiG a b k).length]) hql
    have k6l := leL _ _ k6n
    (try simp (maxSteps := 1000000) (disch := (first | assumption | (apply Ne.symm; assumption))) only [vw0, vw1, vw2, vw3, vw4, vu0, vu1, ↓condV_t, ↓condV_f, cap_nil, allocV, splice, partV, buildV, eqFieldsV, eqS, tabs, TK.agg, reduceCtorEq, Array.toList, List.map_cons, List.map_nil, ↓reduceIte, List.length_map, Nat.reduceAdd, Nat.reduceLeDiff, Nat.reduceLT, Nat.reduceMul, Nat.reduceSub, Option.bind_some, Option.map_some, bndV, numV, eI, eU, e8, eB, AV.isCell, Int.reduceToNat, Int.reduceSub, Int.reduceAdd, Int.reduceNeg, load_at k6l])
    refine GAt.push (l := eiG a b k) (kgn.local fun y _ bb hb => leL y bb hb) knd (leL _ _ kqn) (fun hm => kDn _ hm rfl) (Heap.set_same _ _ _) (by rw [eiGs_len]; omega) fun q' G' D'' hq' kg' knd' kD' kold' => ?_
    have koldL : ∀ y bb, G2 y = some bb → y ≠ r6 → (Gn.set ql [AV.sl qn 1 0 (eiG a b k).length]) y = some bb := fun y bb hy h6 => leL _ _ (koldN y bb hy h6)
    have k6' := kold' _ _ k6l n6D
    rw [eiGs_len, ← eiGs_succ] at kg'
    rw [eiGs_len]
    have fr'' : ∀ y ∈ D'', G2 y = none := fun y hy => by
      rcases kD' y hy with h | rfl | rfl
      · exact kfr y h
      · exact hqnG2
      · cases hh : G2 y with
        | none => rfl
        | some bb =>
          by_cases e : y = r6
          · rw [e, k6l] at hq'; cases hq'
          · rw [koldL _ _ hh e] at hq'; cases hq'
    have n6'' : r6 ∉ D'' := fun hm => by have := fr'' _ hm; rw [g6] at this; cases this
    (try simp (maxSteps := 1000000) (disch := (first | assumption | (apply Ne.symm; assumption))) only [vw0, vw1, vw2, vw3, vw4, vu0, vu1, ↓condV_t, ↓condV_f, cap_nil, allocV, splice, partV, buildV, eqFieldsV, eqS, tabs, TK.agg, reduceCtorEq, Array.toList, List.map_cons, List.map_nil, ↓reduceIte, List.length_map, Nat.reduceAdd, Nat.reduceLeDiff, Nat.reduceLT, Nat.reduceMul, Nat.reduceSub, Option.bind_some, Option.map_some, bndV, numV, eI, eU, e8, eB, AV.isCell, Int.reduceToNat, Int.reduceSub, Int.reduceAdd, Int.reduceNeg, store_at k6'])
    refine ⟨(k + 1, .sl q' 1 0 (k + 1), G'.set r6 [I (a.states + b.states), rowP q1 (eiF a b), rowE q (eiE a b b.edges.length), .sl q' 1 0 (k + 1)], D''), ⟨by simp only; omega, Heap.set_same _ _ _, fun y bb hy h6 => ?_, kg'.local fun y hy bb hb => ?_, knd', fr''⟩, by simp only; omega, ?_, Heap.le_refl _⟩
    · simp only
      rw [Heap.set_other h6]
      exact kold' _ _ (koldL _ _ hy h6) (fun hm => by rw [kfr y hm] at hy; cases hy)
    · simp only
      rw [Heap.set_other (fun e => n6'' (by rw [← e]; exact hy))]; exact hb
    · rw [wk_int, i64_id (by omega) (by omega)]; simp
  · refine ⟨fun h => absurd h (by omega), fun _ => ⟨fun h => absurd h (by omega), fun _ => ?_⟩⟩
    have hkm : k = m := by omega
    subst hkm
    have efs : (eiT a b) = ⟨a.states + b.states, eiF a b, eiE a b b.edges.length, eiGs a b k⟩ := by rw [eiT, hmm]
    -- the rows of the result
    obtain ⟨x', Dg, hx', hg', hnd', hfr', hxw⟩ : ∃ x' Dg, LII (eiGs a b k) x' G Dg ∧ (∀ y ∈ Dg, H y = none) ∧ Dg.Nodup ∧ (q1 ∉ Dg ∧ q ∉ Dg ∧ r2 ∉ Dg) ∧ AV.wk x x' := by
      obtain ⟨cs, D', hll, h2⟩ := kg
      have hH : ∀ {y}, G2 y = none → H y = none := fun hy => hB (hB0 (hB1 (hB2 hy)))
      rcases h2 with ⟨rfl, rfl, rfl⟩ | ⟨qg, rfl, hqg, rfl⟩
      · have hk0 : k = 0 := by have := LL.size LIc.size hll; rw [eiGs_len] at this; simpa using this.symm
        subst hk0
        have hz3' := hle _ _ (le1 _ _ (le0 _ _ e1))
        have hz36 : z3 ≠ r6 := ne (le1 _ _ (le0 _ _ e1)) hr6
        refine ⟨.sl z3 1 0 0, [z3], ⟨z3, [], [], rfl, kold _ _ hz3' hz36, ⟨rfl, rfl⟩, rfl⟩, fun y hy => by rw [List.mem_singleton] at hy; rw [hy]; exact hz3, by simp, ⟨?_, ?_, ?_⟩, .nilo _ _ _⟩
        · rw [List.mem_singleton]; exact Ne.symm (ne (le0 _ _ e1) hq1)
        · rw [List.mem_singleton]; exact Ne.symm (ne (le1 _ _ (le0 _ _ e1)) hq)
        · rw [List.mem_singleton]; rintro rfl; rw [e1] at hr2; cases hr2
      · refine ⟨_, _, ⟨qg, cs, D', rfl, hqg, hll, rfl⟩, fun y hy => hH (kfr y hy), knd, ⟨?_, ?_, ?_⟩, .refl _⟩
        · intro hm; have := kfr _ hm; rw [gq1] at this; cases this
        · intro hm; have := kfr _ hm; rw [gq] at this; cases this
        · intro hm; have := kfr _ hm; rw [gr22'] at this; cases this
    have nq1q : q1 ≠ q := ne g1q hq
    have hL : LAu (eiT a b) (.agg [I (a.states + b.states), rowP q1 (eiF a b), rowE q (eiE a b b.edges.length), x']) G ([q1] ++ ([q] ++ Dg)) := by
      rw [efs]
      exact ⟨_, _, _, [q1], [q], Dg, rfl, rfl, LI_mk' kq1, LE_mk kq, hx'⟩
    have hN : ([q1] ++ ([q] ++ Dg)).Nodup := by
      rw [List.singleton_append, List.singleton_append, List.nodup_cons, List.nodup_cons]
      exact ⟨by rw [List.mem_cons, not_or]; exact ⟨nq1q, hfr'.1⟩, hfr'.2.1, hnd'⟩
    have hle3 : Heap.le H3 G := fun y bb hy => kold _ _ (hle _ _ (le1 _ _ (le0 _ _ hy))) (ne (le1 _ _ (le0 _ _ hy)) hr6)
    have hleH : Heap.le H G := Heap.le_trans leB hle3
    have hFr : ∀ y ∈ [q1] ++ ([q] ++ Dg), H y = none := fun y hy => by
      simp only [List.mem_append, List.mem_singleton] at hy
      rcases hy with rfl | rfl | hy
      · exact hB (hB0 hq1)
      · exact hB (hB0 (hB1 hq))
      · exact hg' y hy
    (try simp (maxSteps := 1000000) (disch := (first | assumption | (apply Ne.symm; assumption))) only [vw0, vw1, vw2, vw3, vw4, vu0, vu1, ↓condV_t, ↓condV_f, cap_nil, allocV, splice, partV, buildV, eqFieldsV, eqS, tabs, TK.agg, reduceCtorEq, Array.toList, List.map_cons, List.map_nil, ↓reduceIte, List.length_map, Nat.reduceAdd, Nat.reduceLeDiff, Nat.reduceLT, Nat.reduceMul, Nat.reduceSub, Option.bind_some, Option.map_some, bndV, numV, eI, eU, e8, eB, AV.isCell, Int.reduceToNat, Int.reduceSub, Int.reduceAdd, Int.reduceNeg, load_at k6])
    refine CallT.args (args' := [.agg [I (a.states + b.states), rowP q1 (eiF a b), rowE q (eiE a b b.edges.length), x']]) ?_ ⟨wk_agg ⟨.refl _, .refl _, .refl _, hxw, trivial⟩, trivial⟩
    obtain ⟨qx, rfl⟩ := LRow.sl hx'
    refine l12Made_live hL hN (eiT_sm fa fb) (fun hgo => ?_) (fun hgo => ?_)
    · have er : eiR a b = (eiT a b, true) := by simp only [eiR, ga, gb, hgo, Bool.and_self, if_true]
      rw [er] at h
      (try simp (maxSteps := 1000000) (disch := (first | assumption | (apply Ne.symm; assumption))) only [vw0, vw1, vw2, vw3, vw4, vu0, vu1, ↓condV_t, ↓condV_f, cap_nil, allocV, splice, partV, buildV, eqFieldsV, eqS, tabs, TK.agg, reduceCtorEq, Array.toList, List.map_cons, List.map_nil, ↓reduceIte, List.length_map, Nat.reduceAdd, Nat.reduceLeDiff, Nat.reduceLT, Nat.reduceMul, Nat.reduceSub, Option.bind_some, Option.map_some, bndV, numV, eI, eU, e8, eB, AV.isCell, Int.reduceToNat, Int.reduceSub, Int.reduceAdd, Int.reduceNeg, store_at kr2])
      refine wkK.keep (h _ _ _ (hL.local fun y hy bb hb => ?_) ⟨hN, hFr, ?_⟩)
      · rw [Heap.set_other]; · exact hb
        rintro rfl
        simp only [List.mem_append, List.mem_singleton] at hy
        rcases hy with h5 | h5 | h5
        · exact ne gr2 hq1 h5
        · exact ne g1r2 hq h5
        · exact hfr'.2.2 h5
      · exact Heap.le_setN hleH hHr2
    · have er : eiR a b = (zeroA, false) := by simp only [eiR, ga, gb, hgo, Bool.and_false, Bool.false_eq_true, if_false]
      (try simp (maxSteps := 1000000) (disch := (first | assumption | (apply Ne.symm; assumption))) only [vw0, vw1, vw2, vw3, vw4, vu0, vu1, ↓condV_t, ↓condV_f, cap_nil, allocV, splice, partV, buildV, eqFieldsV, eqS, tabs, TK.agg, reduceCtorEq, Array.toList, List.map_cons, List.map_nil, ↓reduceIte, List.length_map, Nat.reduceAdd, Nat.reduceLeDiff, Nat.reduceLT, Nat.reduceMul, Nat.reduceSub, Option.bind_some, Option.map_some, bndV, numV, eI, eU, e8, eB, AV.isCell, Int.reduceToNat, Int.reduceSub, Int.reduceAdd, Int.reduceNeg, store_at kr2])
      exact zl _ (Heap.le_setN hle3 hr2) (by rw [er] at h; exact h)
end Go.Proofs.Ytfbaijpanbjmpaa
