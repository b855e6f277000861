/- Specs: what a condition asks before all commands. -/
import Derived.Test.YtlcnoflmlonikaaLm6
namespace Go.Proofs.Ytlcnoflmlonikaa
open Go Go.Sep Go.Pt
set_option linter.unusedSimpArgs false
set_option linter.unusedVariables false
attribute [local irreducible] CallT

/-- Two rows of nodes of one's own beside a heap. -/
structure TwoR (B G : Heap) (q s : Nat) (xs ys : List Nd) : Prop where
  gq : G q = some (cN xs)
  gs : G s = some (cN ys)
  fq : B q = none
  fs : B s = none
  ne : q ≠ s
  le : Heap.le B G
theorem TwoR.alloc {B G : Heap} {q s : Nat} {xs ys : List Nd} (g : TwoR B G q s xs ys) {r : Nat} (hr : G r = none) (z : List AV) : TwoR B (G.set r z) q s xs ys :=
  ⟨by rw [Heap.set_other (fun e => by rw [← e, g.gq] at hr; cases hr)]; exact g.gq, by rw [Heap.set_other (fun e => by rw [← e, g.gs] at hr; cases hr)]; exact g.gs, g.fq, g.fs, g.ne, fun y b hb => by
    have := g.le y b hb
    rw [Heap.set_other (fun e => by rw [e, hr] at this; cases this)]; exact this⟩
theorem TwoR.top {B G : Heap} {q s : Nat} {xs ys : List Nd} (g : TwoR B G q s xs ys) : Heap.le ((B.set q (cN xs)).set s (cN ys)) G := by
  intro y b hb
  by_cases e : y = s
  · subst e; rw [Heap.set_same] at hb; rw [g.gs]; exact hb
  rw [Heap.set_other e] at hb
  by_cases e2 : y = q
  · subst e2; rw [Heap.set_same] at hb; rw [g.gq]; exact hb
  rw [Heap.set_other e2] at hb
  exact g.le y b hb
theorem TwoR.two {B : Heap} {q s : Nat} (xs ys : List Nd) (hq : B q = none) (hs : B s = none) (hn : q ≠ s) : TwoR B ((B.set q (cN xs)).set s (cN ys)) q s xs ys :=
  ⟨by rw [Heap.set_other hn, Heap.set_same], Heap.set_same _ _ _, hq, hs, hn, Heap.le_setN (Heap.le_set hq) hs⟩
theorem TwoR.swap {B G : Heap} {q s : Nat} {xs ys : List Nd} (g : TwoR B G q s xs ys) : TwoR B G s q ys xs := ⟨g.gs, g.gq, g.fs, g.fq, g.ne.symm, g.le⟩
theorem TwoR.put {B G : Heap} {q s : Nat} {xs ys : List Nd} (g : TwoR B G q s xs ys) {q' : Nat} (hq' : G q' = none) (hne : q' ≠ q) (zs : List Nd) :
    TwoR B ((G.del q).set q' (cN zs)) q' s zs ys ∧ (∀ y b, G y = some b → y ≠ q → ((G.del q).set q' (cN zs)) y = some b) := by
  have old : ∀ y b, G y = some b → y ≠ q → ((G.del q).set q' (cN zs)) y = some b := fun y b hb hy => by
    rw [Heap.set_other (fun e => by rw [e, hq'] at hb; cases hb), Heap.del_other hy]; exact hb
  refine ⟨⟨Heap.set_same _ _ _, old _ _ g.gs g.ne.symm, ?_, g.fs, (fun e => by rw [e, g.gs] at hq'; cases hq'), (fun y b hb => old y b (g.le y b hb) (fun e => by rw [e, g.fq] at hb; cases hb))⟩, old⟩
  cases h : B q' with
  | none => rfl
  | some b => rw [g.le q' b h] at hq'; cases hq'
theorem TwoR.app {B G : Heap} {q s : Nat} {xs ys zs : List Nd} {K : AV → Heap → Prop} (g : TwoR B G q s xs ys) (hl : xs.length + zs.length ≤ 1000000)
    (h : ∀ q' G', TwoR B G' q' s (xs ++ zs) ys → (∀ y b, G y = some b → y ≠ q → G' y = some b) → K (rowN q' (xs ++ zs)) G') : appendV tab 28 28 (rowN q xs) (Ns zs) G (wkK K) :=
  app_nodes g.gq hl fun q' hq' hne => by
    obtain ⟨h1, h2⟩ := g.put hq' hne (xs ++ zs)
    exact h _ _ h1 h2
theorem TwoR.appL {B G : Heap} {q s t : Nat} {xs ys zs : List Nd} {K : AV → Heap → Prop} (g : TwoR B G q s xs ys) (ht : G t = some (cN zs)) (hl : xs.length + zs.length ≤ 1000000)
    (h : ∀ q' G', TwoR B G' q' s (xs ++ zs) ys → (∀ y b, G y = some b → y ≠ q → G' y = some b) → K (rowN q' (xs ++ zs)) G') : appendV tab 28 28 (rowN q xs) (rowN t zs) G (wkK K) :=
  app_nodesL g.gq ht (by omega) fun q' hq' hne => by
    obtain ⟨h1, h2⟩ := g.put hq' hne (xs ++ zs)
    exact h _ _ h1 h2

/-- What the rounds gather. -/
def bR (p : Pg) (t : List Nd) (k : Nat) : Option (List Nd) := ifR p (p.cmds.getD k default) t
def outF (p : Pg) (t : List Nd) (n : Nat) : List Nd := (List.range n).flatMap fun k => (bR p t k).getD [] ++ (if 0 < k then [⟨17, 0⟩] else [])
def stuckF (p : Pg) (n : Nat) : List Nd := (List.range n).flatMap fun k => (p.cmds.getD k default).when_ ++ (if 0 < k then [⟨18, 0⟩] else [])
theorem outF_succ (p : Pg) (t : List Nd) (n : Nat) : outF p t (n + 1) = outF p t n ++ ((bR p t n).getD [] ++ (if 0 < n then [⟨17, 0⟩] else [])) := by simp [outF, List.range_succ]
theorem stuckF_succ (p : Pg) (n : Nat) : stuckF p (n + 1) = stuckF p n ++ ((p.cmds.getD n default).when_ ++ (if 0 < n then [⟨18, 0⟩] else [])) := by simp [stuckF, List.range_succ]
def allT (p : Pg) (t : List Nd) : List Nd := outF p t p.cmds.length ++ (stuckF p p.cmds.length ++ (t ++ [⟨18, 0⟩, ⟨17, 0⟩]))
def allR (p : Pg) (t : List Nd) : Option (List Nd) := if (List.range p.cmds.length).all (fun k => (bR p t k).isSome) then gtO p.wide p.vars (allT p t) else none
def resBA (p : Pg) (t : List Nd) : Option (List Nd) := if okBO p 0 t then allR p t else none

theorem when_ok {p : Pg} (hg : goodP p = true) (hp : vPg p) {k : Nat} (hk : k < p.cmds.length) : kind p.wide p.vars (p.cmds.getD k default).when_ = 2 ∧ vCm (p.cmds.getD k default) ∧ (p.cmds.getD k default).when_.length ≤ 48 := by
  have hm : p.cmds.getD k default ∈ p.cmds := getD_all (p := fun x => x ∈ p.cmds) (fun _ h => h) hk
  have hgc : goodCm p.wide p.vars (p.cmds.getD k default) = true := by
    simp only [goodP, Bool.and_eq_true, List.all_eq_true] at hg
    exact hg.2 _ hm
  have hk2 : kind p.wide p.vars (p.cmds.getD k default).when_ = 2 := by
    simp only [goodCm, Bool.and_eq_true, decide_eq_true_eq] at hgc
    exact hgc.1
  exact ⟨hk2, hp.2.2 _ hm, (kind_len hk2 (by decide)).2⟩
theorem bR_ok {p : Pg} (hg : goodP p = true) (hp : vPg p) {t : List Nd} (ht : vT t) {k : Nat} (hk : k < p.cmds.length) {b : List Nd} (h : bR p t k = some b) : b.length ≤ 48 ∧ ∀ x ∈ b, okN x := by
  obtain ⟨h1, h2, h3⟩ := when_ok hg hp hk
  unfold bR ifR at h
  cases ho : putAll p.wide p.vars t (putBy p (p.cmds.getD k default)) with
  | none => rw [ho] at h; cases h
  | some o =>
    rw [ho, Option.bind_some] at h
    have hz := ifT_v (goodP_rng hg).2.2 ht h2 h1 ho
    obtain ⟨h4, rfl⟩ := gtO_some h
    exact ⟨(gt_len h4).2, hz.2.1.2⟩
theorem cmds_le {p : Pg} (hg : goodP p = true) : 1 ≤ p.cmds.length ∧ p.cmds.length ≤ 6 := by
  simp only [goodP, Bool.and_eq_true, decide_eq_true_eq] at hg
  exact hg.1.2
theorem okN_lit (k : Int) : okN ⟨k, 0⟩ := by unfold okN; simp
theorem outF_ok {p : Pg} (hg : goodP p = true) (hp : vPg p) {t : List Nd} (ht : vT t) : ∀ n, n ≤ p.cmds.length → (outF p t n).length ≤ 49 * n ∧ ∀ x ∈ outF p t n, okN x
  | 0, _ => by simp [outF]
  | n + 1, hn => by
    obtain ⟨h1, h2⟩ := outF_ok hg hp ht n (by omega)
    rw [outF_succ]
    have hb : ((bR p t n).getD []).length ≤ 48 ∧ ∀ x ∈ (bR p t n).getD [], okN x := by
      cases h : bR p t n with
      | none => simp
      | some b => exact bR_ok hg hp ht (by omega) h
    have hl : (if 0 < n then [(⟨17, 0⟩ : Nd)] else []).length ≤ 1 ∧ ∀ x ∈ (if 0 < n then [(⟨17, 0⟩ : Nd)] else []), okN x := by
      split
      · exact ⟨by simp, fun x hx => by rw [List.mem_singleton] at hx; rw [hx]; exact okN_lit _⟩
      · simp
    refine ⟨by simp only [List.length_append]; omega, fun x hx => ?_⟩
    simp only [List.mem_append] at hx
    rcases hx with hx | hx | hx
    · exact h2 x hx
    · exact hb.2 x hx
    · exact hl.2 x hx
theorem stuckF_ok {p : Pg} (hg : goodP p = true) (hp : vPg p) : ∀ n, n ≤ p.cmds.length → (stuckF p n).length ≤ 49 * n ∧ ∀ x ∈ stuckF p n, okN x
  | 0, _ => by simp [stuckF]
  | n + 1, hn => by
    obtain ⟨h1, h2⟩ := stuckF_ok hg hp n (by omega)
    rw [stuckF_succ]
    obtain ⟨_, hc, hw⟩ := when_ok hg hp (k := n) (by omega)
    have hl : (if 0 < n then [(⟨18, 0⟩ : Nd)] else []).length ≤ 1 ∧ ∀ x ∈ (if 0 < n then [(⟨18, 0⟩ : Nd)] else []), okN x := by
      split
      · exact ⟨by simp, fun x hx => by rw [List.mem_singleton] at hx; rw [hx]; exact okN_lit _⟩
      · simp
    refine ⟨by simp only [List.length_append]; omega, fun x hx => ?_⟩
    simp only [List.mem_append] at hx
    rcases hx with hx | hx | hx
    · exact h2 x hx
    · exact hc.1.2 x hx
    · exact hl.2 x hx
theorem allT_ok {p : Pg} (hg : goodP p = true) (hp : vPg p) {t : List Nd} (ht : vT t) (hk : kind p.wide p.vars t = 2) : (allT p t).length ≤ 700 ∧ vT (allT p t) := by
  obtain ⟨h1, h2⟩ := outF_ok hg hp ht _ (Nat.le_refl _)
  obtain ⟨h3, h4⟩ := stuckF_ok hg hp _ (Nat.le_refl _)
  have h5 := cmds_le hg
  have h6 := (kind_len hk (by decide)).2
  have hl : (allT p t).length ≤ 700 := by simp only [allT, List.length_append, List.length_cons, List.length_nil]; omega
  refine ⟨hl, by omega, fun x hx => ?_⟩
  simp only [allT, List.mem_append, List.mem_cons, List.not_mem_nil, or_false] at hx
  rcases hx with hx | hx | hx | rfl | rfl
  · exact h2 x hx
  · exact h4 x hx
  · exact ht.2 x hx
  · exact okN_lit _
  · exact okN_lit _
theorem allR_none {p : Pg} {t : List Nd} {k : Nat} (hk : k < p.cmds.length) (h : bR p t k = none) : allR p t = none := by
  unfold allR
  rw [if_neg]
  intro hh
  have := List.all_eq_true.1 hh k (List.mem_range.2 hk)
  rw [h] at this; cases this
theorem allR_some {p : Pg} {t : List Nd} (h : ∀ k, k < p.cmds.length → (bR p t k).isSome = true) : allR p t = gtO p.wide p.vars (allT p t) := by
  unfold allR
  rw [if_pos]
  exact List.all_eq_true.2 fun k hk => h k (List.mem_range.1 hk)

theorem lit_nodes2 {x y : Nd} {H : Heap} {K : AV → Heap → Prop} (h : K (Ns [x, y]) H) : buildSliceV tab 28 2 [(0, aN x), (1, aN y)] H (wkK K) := by
  simp only [buildSliceV, tab_28, tab_48]
  refine ⟨by omega, ?_⟩
  simp only [fillV, zerosA, List.replicate_succ, List.replicate_zero, List.flatten_cons, List.flatten_nil, List.append_nil, AV.cells, splice]
  simp only [List.length_cons, List.length_nil, List.cons_append, List.nil_append, Nat.reduceAdd, Nat.reduceMul, Nat.zero_mul, Nat.one_mul, Nat.zero_add, Nat.reduceLeDiff, Nat.le_refl, and_self, if_true, List.take_zero, List.take_succ_cons, List.nil_append, List.drop_succ_cons, List.drop_zero, List.append_nil]
  intro r hr
  refine ⟨_, _, Wk.trans (Wk.frz (r := r) (sz := 2) (es := [eN x, eN y]) (v := .sl r 2 0 2) (v' := .p (.sl [eN x, eN y])) (by omega) ?_ (by simp) .here) (.forget ?_), h⟩
  · rw [Heap.set_same]; rfl
  · rw [Heap.del_set hr]; exact Heap.le_refl _

theorem BeforeAll_impl (p : Pg) (t : List Nd) (hp : vPg p) (ht : vT t) {H : Heap} {K : AV → Heap → Prop}
    (hn : resBA p t = none → K (.tup [.p .nil, B false]) H)
    (hs : ∀ o, resBA p t = some o → ∀ q, H q = none → K (.tup [rowN q o, B true]) (H.set q (cN o))) : CallT Try.prog 20 [aPg p, Ns t] H K := by
  refine CallT.fin ?_
  refine W20_ok ?_; simp (maxSteps := 1000000) (disch := (first | assumption | (apply Ne.symm; assumption))) only [W20, vw0, vw1, vw2, vw3, vw4, vu0, vu1, ↓condV_t, ↓condV_f, cap_nil, allocV, splice, partV, buildV, eqFieldsV, eqS, tabs, TK.agg, reduceCtorEq, Array.toList, List.map_cons, List.map_nil, ↓reduceIte, List.length_map, Nat.reduceAdd, Nat.reduceLeDiff, Nat.reduceLT, Nat.reduceMul, Nat.reduceSub, Option.bind_some, Option.map_some, bndV, numV, eI, eU, e8, eB, AV.isCell, Int.reduceToNat, Int.reduceSub, Int.reduceAdd, Int.reduceNeg]
  intro r hr
  have hle := Heap.le_set (b := [I p.wide, I p.vars, Ns p.start, Cms p.cmds]) hr
  refine Pu.use (isBefore_spec p 0 t hp ht) ?_
  cases h : okBO p 0 t
  · (try simp (maxSteps := 1000000) (disch := (first | assumption | (apply Ne.symm; assumption))) only [vw0, vw1, vw2, vw3, vw4, vu0, vu1, ↓condV_t, ↓condV_f, cap_nil, allocV, splice, partV, buildV, eqFieldsV, eqS, tabs, TK.agg, reduceCtorEq, Array.toList, List.map_cons, List.map_nil, ↓reduceIte, List.length_map, Nat.reduceAdd, Nat.reduceLeDiff, Nat.reduceLT, Nat.reduceMul, Nat.reduceSub, Option.bind_some, Option.map_some, bndV, numV, eI, eU, e8, eB, AV.isCell, Int.reduceToNat, Int.reduceSub, Int.reduceAdd, Int.reduceNeg])
    exact fin_le hle (hn (by simp only [resBA, h, Bool.false_eq_true, if_false]))
  have hok := okBO_iff.1 h
  have e : resBA p t = allR p t := by simp only [resBA, h, if_true]
  rw [e] at hn hs
  have hcl := cmds_le hok.1
  have htl := (kind_len hok.2.2 (by decide)).2
  (try simp (maxSteps := 1000000) (disch := (first | assumption | (apply Ne.symm; assumption))) only [vw0, vw1, vw2, vw3, vw4, vu0, vu1, ↓condV_t, ↓condV_f, cap_nil, allocV, splice, partV, buildV, eqFieldsV, eqS, tabs, TK.agg, reduceCtorEq, Array.toList, List.map_cons, List.map_nil, ↓reduceIte, List.length_map, Nat.reduceAdd, Nat.reduceLeDiff, Nat.reduceLT, Nat.reduceMul, Nat.reduceSub, Option.bind_some, Option.map_some, bndV, numV, eI, eU, e8, eB, AV.isCell, Int.reduceToNat, Int.reduceSub, Int.reduceAdd, Int.reduceNeg])
  refine lit0N fun q1 hq1 => ?_
  refine lit0N fun q2 hq2 => ?_
  have hq2' := hq2
  rw [Heap.set_none] at hq2'
  have g0 := TwoR.two [] [] hq1 hq2'.2 (Ne.symm hq2'.1)
  have hrB : ∀ {q}, (H.set r [I p.wide, I p.vars, Ns p.start, Cms p.cmds]) q = none → q ≠ r ∧ H q = none := fun h => by rwa [Heap.set_none] at h
  have gr0 : (H.set r [I p.wide, I p.vars, Ns p.start, Cms p.cmds]) r = some [I p.wide, I p.vars, Ns p.start, Cms p.cmds] := Heap.set_same _ _ _
  generalize H.set r [I p.wide, I p.vars, Ns p.start, Cms p.cmds] = B0 at hle g0 hq1 hq2 hq2' hrB gr0 ⊢
  have gr1 := g0.le _ _ gr0
  (try simp (maxSteps := 1000000) (disch := (first | assumption | (apply Ne.symm; assumption))) only [vw0, vw1, vw2, vw3, vw4, vu0, vu1, ↓condV_t, ↓condV_f, cap_nil, allocV, splice, partV, buildV, eqFieldsV, eqS, tabs, TK.agg, reduceCtorEq, Array.toList, List.map_cons, List.map_nil, ↓reduceIte, List.length_map, Nat.reduceAdd, Nat.reduceLeDiff, Nat.reduceLT, Nat.reduceMul, Nat.reduceSub, Option.bind_some, Option.map_some, bndV, numV, eI, eU, e8, eB, AV.isCell, Int.reduceToNat, Int.reduceSub, Int.reduceAdd, Int.reduceNeg, load_at gr1])
  refine L20_0_rule ((0 : Nat), q1, q2) (fun s => rowN s.2.1 (outF p t s.1)) (fun s => rowN s.2.2 (stuckF p s.1)) (fun s => I s.1) (fun s => (B0.set s.2.1 (cN (outF p t s.1))).set s.2.2 (cN (stuckF p s.1)))
    (fun s => s.1 ≤ p.cmds.length ∧ (B0 s.2.1 = none ∧ B0 s.2.2 = none ∧ s.2.1 ≠ s.2.2) ∧ ∀ k, k < s.1 → (bR p t k).isSome = true) (fun s => p.cmds.length - s.1) ⟨⟨by simp, ⟨hq1, hq2'.2, Ne.symm hq2'.1⟩, by intros; omega⟩, .refl _, .refl _, .refl _, Heap.le_refl _⟩ ?_
  clear g0 hq1 hq2 hq2' gr1
  rintro ⟨i, qo, qs⟩ ⟨hi, ⟨h1, h2, h3⟩, hsome⟩
  dsimp only at hi h1 h2 h3 hsome
  have g := TwoR.two (outF p t i) (stuckF p i) h1 h2 h3
  obtain ⟨o1, o2⟩ := outF_ok hok.1 hp ht i hi
  obtain ⟨s1, s2⟩ := stuckF_ok hok.1 hp i hi
  have gr := g.le _ _ gr0
  generalize (B0.set qo (cN (outF p t i))).set qs (cN (stuckF p i)) = G at g gr ⊢
  (try simp (maxSteps := 1000000) (disch := (first | assumption | (apply Ne.symm; assumption))) only [vw0, vw1, vw2, vw3, vw4, vu0, vu1, ↓condV_t, ↓condV_f, cap_nil, allocV, splice, partV, buildV, eqFieldsV, eqS, tabs, TK.agg, reduceCtorEq, Array.toList, List.map_cons, List.map_nil, ↓reduceIte, List.length_map, Nat.reduceAdd, Nat.reduceLeDiff, Nat.reduceLT, Nat.reduceMul, Nat.reduceSub, Option.bind_some, Option.map_some, bndV, numV, eI, eU, e8, eB, AV.isCell, Int.reduceToNat, Int.reduceSub, Int.reduceAdd, Int.reduceNeg, B20_0])
  refine ⟨fun h5 => ⟨by omega, h5, ?_⟩, fun h5 => ?_⟩
  · have hlt : i < p.cmds.length := by omega
    obtain ⟨w1, w2, w3⟩ := when_ok hok.1 hp hlt
    intro r9 hr9
    have g2 := g.alloc hr9 [Ns (p.cmds.getD i default).when_, Chs (p.cmds.getD i default).chs]
    have gr2 := g2.le _ _ gr0
    have g9 : (G.set r9 [Ns (p.cmds.getD i default).when_, Chs (p.cmds.getD i default).chs]) r9 = some _ := Heap.set_same _ _ _
    (try simp (maxSteps := 1000000) (disch := (first | assumption | (apply Ne.symm; assumption))) only [vw0, vw1, vw2, vw3, vw4, vu0, vu1, ↓condV_t, ↓condV_f, cap_nil, allocV, splice, partV, buildV, eqFieldsV, eqS, tabs, TK.agg, reduceCtorEq, Array.toList, List.map_cons, List.map_nil, ↓reduceIte, List.length_map, Nat.reduceAdd, Nat.reduceLeDiff, Nat.reduceLT, Nat.reduceMul, Nat.reduceSub, Option.bind_some, Option.map_some, bndV, numV, eI, eU, e8, eB, AV.isCell, Int.reduceToNat, Int.reduceSub, Int.reduceAdd, Int.reduceNeg, load_at gr2])
    generalize (G.set r9 [Ns (p.cmds.getD i default).when_, Chs (p.cmds.getD i default).chs]) = G2 at g2 gr2 g9 ⊢
    have eb : ifR p (p.cmds.getD (i : Int).toNat default) t = bR p t i := by rw [Int.toNat_natCast]; rfl
    refine beforeIf_impl p i t hok.1 hp ht ⟨by omega, h5⟩ (fun hb => ?_) (fun b hb qb hqb => ?_)
    · rw [eb] at hb
      (try simp (maxSteps := 1000000) (disch := (first | assumption | (apply Ne.symm; assumption))) only [vw0, vw1, vw2, vw3, vw4, vu0, vu1, ↓condV_t, ↓condV_f, cap_nil, allocV, splice, partV, buildV, eqFieldsV, eqS, tabs, TK.agg, reduceCtorEq, Array.toList, List.map_cons, List.map_nil, ↓reduceIte, List.length_map, Nat.reduceAdd, Nat.reduceLeDiff, Nat.reduceLT, Nat.reduceMul, Nat.reduceSub, Option.bind_some, Option.map_some, bndV, numV, eI, eU, e8, eB, AV.isCell, Int.reduceToNat, Int.reduceSub, Int.reduceAdd, Int.reduceNeg])
      exact fin_le (Heap.le_trans hle g2.le) (hn (allR_none hlt hb))
    rw [eb] at hb
    obtain ⟨b1, b2⟩ := bR_ok hok.1 hp ht hlt hb
    have g3 := g2.alloc hqb (cN b)
    have gb : (G2.set qb (cN b)) qb = some (cN b) := Heap.set_same _ _ _
    have g93 : (G2.set qb (cN b)) r9 = some [Ns (p.cmds.getD i default).when_, Chs (p.cmds.getD i default).chs] := by
      rw [Heap.set_other (fun e => by rw [← e, g9] at hqb; cases hqb)]; exact g9
    have nf9 : B0 r9 = none := by
      cases hh : B0 r9 with
      | none => rfl
      | some z => rw [g.le _ _ hh] at hr9; cases hr9
    have n9 : r9 ≠ qo ∧ r9 ≠ qs := ⟨(fun e => by rw [e, g.gq] at hr9; cases hr9), (fun e => by rw [e, g.gs] at hr9; cases hr9)⟩
    generalize G2.set qb (cN b) = G3 at g3 gb g93 ⊢
    (try simp (maxSteps := 1000000) (disch := (first | assumption | (apply Ne.symm; assumption))) only [vw0, vw1, vw2, vw3, vw4, vu0, vu1, ↓condV_t, ↓condV_f, cap_nil, allocV, splice, partV, buildV, eqFieldsV, eqS, tabs, TK.agg, reduceCtorEq, Array.toList, List.map_cons, List.map_nil, ↓reduceIte, List.length_map, Nat.reduceAdd, Nat.reduceLeDiff, Nat.reduceLT, Nat.reduceMul, Nat.reduceSub, Option.bind_some, Option.map_some, bndV, numV, eI, eU, e8, eB, AV.isCell, Int.reduceToNat, Int.reduceSub, Int.reduceAdd, Int.reduceNeg, load_at g93])
    refine g3.appL gb (by omega) fun q4 G4 g4 old4 => ?_
    have g94 := old4 _ _ g93 n9.1
    (try simp (maxSteps := 1000000) (disch := (first | assumption | (apply Ne.symm; assumption))) only [vw0, vw1, vw2, vw3, vw4, vu0, vu1, ↓condV_t, ↓condV_f, cap_nil, allocV, splice, partV, buildV, eqFieldsV, eqS, tabs, TK.agg, reduceCtorEq, Array.toList, List.map_cons, List.map_nil, ↓reduceIte, List.length_map, Nat.reduceAdd, Nat.reduceLeDiff, Nat.reduceLT, Nat.reduceMul, Nat.reduceSub, Option.bind_some, Option.map_some, bndV, numV, eI, eU, e8, eB, AV.isCell, Int.reduceToNat, Int.reduceSub, Int.reduceAdd, Int.reduceNeg, load_at g94])
    refine g4.swap.app (by omega) fun q5 G5 g5 old5 => ?_
    have hs1 : ∀ k, k < i + 1 → (bR p t k).isSome = true := fun k hk => by
      rcases Nat.lt_succ_iff_lt_or_eq.1 hk with h | rfl
      · exact hsome k h
      · rw [hb]; rfl
    have eo := outF_succ p t i
    have es := stuckF_succ p i
    rw [hb, Option.getD_some] at eo
    (try simp (maxSteps := 1000000) (disch := (first | assumption | (apply Ne.symm; assumption))) only [vw0, vw1, vw2, vw3, vw4, vu0, vu1, ↓condV_t, ↓condV_f, cap_nil, allocV, splice, partV, buildV, eqFieldsV, eqS, tabs, TK.agg, reduceCtorEq, Array.toList, List.map_cons, List.map_nil, ↓reduceIte, List.length_map, Nat.reduceAdd, Nat.reduceLeDiff, Nat.reduceLT, Nat.reduceMul, Nat.reduceSub, Option.bind_some, Option.map_some, bndV, numV, eI, eU, e8, eB, AV.isCell, Int.reduceToNat, Int.reduceSub, Int.reduceAdd, Int.reduceNeg])
    refine ⟨fun h0 => ?_, fun h0 => ?_⟩
    · rw [if_pos (by omega)] at eo es
      refine lit_node (x := ⟨17, 0⟩) ?_
      refine g5.swap.app (by simp only [List.length_append, List.length_cons, List.length_nil]; omega) fun q6 G6 g6 _ => ?_
      (try simp (maxSteps := 1000000) (disch := (first | assumption | (apply Ne.symm; assumption))) only [vw0, vw1, vw2, vw3, vw4, vu0, vu1, ↓condV_t, ↓condV_f, cap_nil, allocV, splice, partV, buildV, eqFieldsV, eqS, tabs, TK.agg, reduceCtorEq, Array.toList, List.map_cons, List.map_nil, ↓reduceIte, List.length_map, Nat.reduceAdd, Nat.reduceLeDiff, Nat.reduceLT, Nat.reduceMul, Nat.reduceSub, Option.bind_some, Option.map_some, bndV, numV, eI, eU, e8, eB, AV.isCell, Int.reduceToNat, Int.reduceSub, Int.reduceAdd, Int.reduceNeg])
      refine lit_node (x := ⟨18, 0⟩) ?_
      refine g6.swap.app (by simp only [List.length_append, List.length_cons, List.length_nil]; omega) fun q7 G7 g7 _ => ?_
      (try simp (maxSteps := 1000000) (disch := (first | assumption | (apply Ne.symm; assumption))) only [vw0, vw1, vw2, vw3, vw4, vu0, vu1, ↓condV_t, ↓condV_f, cap_nil, allocV, splice, partV, buildV, eqFieldsV, eqS, tabs, TK.agg, reduceCtorEq, Array.toList, List.map_cons, List.map_nil, ↓reduceIte, List.length_map, Nat.reduceAdd, Nat.reduceLeDiff, Nat.reduceLT, Nat.reduceMul, Nat.reduceSub, Option.bind_some, Option.map_some, bndV, numV, eI, eU, e8, eB, AV.isCell, Int.reduceToNat, Int.reduceSub, Int.reduceAdd, Int.reduceNeg])
      have g8 := g7.swap
      rw [List.append_assoc, ← eo, List.append_assoc, ← es] at g8
      rw [List.append_assoc, ← eo, List.append_assoc, ← es]
      refine ⟨(i + 1, q6, q7), ⟨by simp only; omega, ⟨g8.fq, g8.fs, g8.ne⟩, hs1⟩, by simp only; omega, .refl _, .refl _, ?_, g8.top⟩
      rw [wk_int, i64_id (by omega) (by omega)]; simp
    · rw [if_neg (by omega), List.append_nil] at eo es
      have g8 := g5.swap
      rw [← eo, ← es] at g8
      rw [← eo, ← es]
      refine ⟨(i + 1, q4, q5), ⟨by simp only; omega, ⟨g8.fq, g8.fs, g8.ne⟩, hs1⟩, by simp only; omega, .refl _, .refl _, ?_, g8.top⟩
      rw [wk_int, i64_id (by omega) (by omega)]; simp
  · have hi2 : i = p.cmds.length := by omega
    subst hi2
    have er := allR_some hsome
    have hz := allT_ok hok.1 hp ht hok.2.2
    (try simp (maxSteps := 1000000) (disch := (first | assumption | (apply Ne.symm; assumption))) only [vw0, vw1, vw2, vw3, vw4, vu0, vu1, ↓condV_t, ↓condV_f, cap_nil, allocV, splice, partV, buildV, eqFieldsV, eqS, tabs, TK.agg, reduceCtorEq, Array.toList, List.map_cons, List.map_nil, ↓reduceIte, List.length_map, Nat.reduceAdd, Nat.reduceLeDiff, Nat.reduceLT, Nat.reduceMul, Nat.reduceSub, Option.bind_some, Option.map_some, bndV, numV, eI, eU, e8, eB, AV.isCell, Int.reduceToNat, Int.reduceSub, Int.reduceAdd, Int.reduceNeg, load_at gr])
    refine lit_nodes2 (x := ⟨18, 0⟩) (y := ⟨17, 0⟩) ?_
    (try simp (maxSteps := 1000000) (disch := (first | assumption | (apply Ne.symm; assumption))) only [vw0, vw1, vw2, vw3, vw4, vu0, vu1, ↓condV_t, ↓condV_f, cap_nil, allocV, splice, partV, buildV, eqFieldsV, eqS, tabs, TK.agg, reduceCtorEq, Array.toList, List.map_cons, List.map_nil, ↓reduceIte, List.length_map, Nat.reduceAdd, Nat.reduceLeDiff, Nat.reduceLT, Nat.reduceMul, Nat.reduceSub, Option.bind_some, Option.map_some, bndV, numV, eI, eU, e8, eB, AV.isCell, Int.reduceToNat, Int.reduceSub, Int.reduceAdd, Int.reduceNeg, load_at gr])
    have efl : [outF p t p.cmds.length, stuckF p p.cmds.length, t, [⟨18, 0⟩, ⟨17, 0⟩]].flatten = allT p t := by simp [allT]
    refine lit4N (G' := B0) (q := qo) (s := qs) (us := outF p t p.cmds.length) (vs := stuckF p p.cmds.length) (w := outF p t p.cmds.length) (x := stuckF p p.cmds.length) (y := t) (z := [⟨18, 0⟩, ⟨17, 0⟩]) g.gq g.gs g.ne rfl rfl rfl rfl
      (.cons frz_rowN (.cons (.same _) (.cons (.same _) (.cons (.same _) .nil)))) (.cons (.same _) (.cons frz_rowN (.cons (.same _) (.cons (.same _) .nil)))) ?_ ?_
    · intro y b hb
      rw [Heap.del_other (fun e => by rw [e, h2] at hb; cases hb), Heap.del_other (fun e => by rw [e, h1] at hb; cases hb)]
      exact g.le y b hb
    (try simp (maxSteps := 1000000) (disch := (first | assumption | (apply Ne.symm; assumption))) only [vw0, vw1, vw2, vw3, vw4, vu0, vu1, ↓condV_t, ↓condV_f, cap_nil, allocV, splice, partV, buildV, eqFieldsV, eqS, tabs, TK.agg, reduceCtorEq, Array.toList, List.map_cons, List.map_nil, ↓reduceIte, List.length_map, Nat.reduceAdd, Nat.reduceLeDiff, Nat.reduceLT, Nat.reduceMul, Nat.reduceSub, Option.bind_some, Option.map_some, bndV, numV, eI, eU, e8, eB, AV.isCell, Int.reduceToNat, Int.reduceSub, Int.reduceAdd, Int.reduceNeg, load_at gr0])
    refine Concat_spec _ (by rw [efl]; omega) (by simp) fun qz hqz => ?_
    rw [efl]
    have hqz2 := hrB hqz
    have grz : (B0.set qz (cN (allT p t))) r = some [I p.wide, I p.vars, Ns p.start, Cms p.cmds] := by rw [Heap.set_other (Ne.symm hqz2.1)]; exact gr0
    (try simp (maxSteps := 1000000) (disch := (first | assumption | (apply Ne.symm; assumption))) only [vw0, vw1, vw2, vw3, vw4, vu0, vu1, ↓condV_t, ↓condV_f, cap_nil, allocV, splice, partV, buildV, eqFieldsV, eqS, tabs, TK.agg, reduceCtorEq, Array.toList, List.map_cons, List.map_nil, ↓reduceIte, List.length_map, Nat.reduceAdd, Nat.reduceLeDiff, Nat.reduceLT, Nat.reduceMul, Nat.reduceSub, Option.bind_some, Option.map_some, bndV, numV, eI, eU, e8, eB, AV.isCell, Int.reduceToNat, Int.reduceSub, Int.reduceAdd, Int.reduceNeg, load_at grz])
    refine checkedTerm_row p.wide p.vars (allT p t) hz.2 (Heap.set_same _ _ _) (fun hg2 => ?_) (fun hg2 => ?_)
    · (try simp (maxSteps := 1000000) (disch := (first | assumption | (apply Ne.symm; assumption))) only [vw0, vw1, vw2, vw3, vw4, vu0, vu1, ↓condV_t, ↓condV_f, cap_nil, allocV, splice, partV, buildV, eqFieldsV, eqS, tabs, TK.agg, reduceCtorEq, Array.toList, List.map_cons, List.map_nil, ↓reduceIte, List.length_map, Nat.reduceAdd, Nat.reduceLeDiff, Nat.reduceLT, Nat.reduceMul, Nat.reduceSub, Option.bind_some, Option.map_some, bndV, numV, eI, eU, e8, eB, AV.isCell, Int.reduceToNat, Int.reduceSub, Int.reduceAdd, Int.reduceNeg])
      exact fin_le (Heap.le_setN hle hqz2.2) (hn (by rw [er]; simp only [gtO, hg2]; rfl))
    · (try simp (maxSteps := 1000000) (disch := (first | assumption | (apply Ne.symm; assumption))) only [vw0, vw1, vw2, vw3, vw4, vu0, vu1, ↓condV_t, ↓condV_f, cap_nil, allocV, splice, partV, buildV, eqFieldsV, eqS, tabs, TK.agg, reduceCtorEq, Array.toList, List.map_cons, List.map_nil, ↓reduceIte, List.length_map, Nat.reduceAdd, Nat.reduceLeDiff, Nat.reduceLT, Nat.reduceMul, Nat.reduceSub, Option.bind_some, Option.map_some, bndV, numV, eI, eU, e8, eB, AV.isCell, Int.reduceToNat, Int.reduceSub, Int.reduceAdd, Int.reduceNeg])
      refine fin_le ?_ (hs _ (by rw [er]; simp only [gtO, hg2, if_true]) qz hqz2.2)
      exact Heap.set_le hle

theorem BeforeAll_spec (p : Pg) (t : List Nd) (hp : vPg p) (ht : vT t) : Pu Try.prog 19 [aPg p, Ns t] (optN (resBA p t)) := by
  refine ⟨fun H => CallT.fin ?_⟩
  have bad : ∀ {G : Heap}, Heap.le H G → resBA p t = none → wkK (fun r H' => r = optN (resBA p t) ∧ H' = H) (.tup [.p .nil, B false]) G := fun hle h =>
    ⟨_, H, .trans (.val (v' := .tup [Ns [], B false]) (wk_tup ⟨.nil, .refl _, trivial⟩)) (.forget hle), by rw [h]; rfl, rfl⟩
  refine CallT.ghost W19_hb fun q1 hq1 => ?_
  refine CallT.ghost W19_hb fun q2 hq2 => ?_
  refine W19_ok ?_; simp (maxSteps := 1000000) (disch := (first | assumption | (apply Ne.symm; assumption))) only [W19, vw0, vw1, vw2, vw3, vw4, vu0, vu1, ↓condV_t, ↓condV_f, cap_nil, allocV, splice, partV, buildV, eqFieldsV, eqS, tabs, TK.agg, reduceCtorEq, Array.toList, List.map_cons, List.map_nil, ↓reduceIte, List.length_map, Nat.reduceAdd, Nat.reduceLeDiff, Nat.reduceLT, Nat.reduceMul, Nat.reduceSub, Option.bind_some, Option.map_some, bndV, numV, eI, eU, e8, eB, AV.isCell, Int.reduceToNat, Int.reduceSub, Int.reduceAdd, Int.reduceNeg]
  intro r hr2 hr1 hr
  have n1 := Ne.symm hr1
  have n2 := Ne.symm hr2
  rw [Heap.set_none] at hq2
  have hle := Heap.le_set (b := [I p.wide, I p.vars, Ns p.start, Cms p.cmds]) hr
  refine Pu.use (l16Asked_spec p 0 t hp ht) ?_
  have hlG : Heap.le H (((H.set q1 []).set q2 []).set r [I p.wide, I p.vars, Ns p.start, Cms p.cmds]) := by
    have := hq2.2
    (intro y b hy; simp only [Heap.set, Heap.del] at hy ⊢; (repeat' split at hy) <;> (repeat' split) <;> simp_all [cells])
  cases h : okBO p 0 t
  · (try simp (maxSteps := 1000000) (disch := (first | assumption | (apply Ne.symm; assumption))) only [vw0, vw1, vw2, vw3, vw4, vu0, vu1, ↓condV_t, ↓condV_f, cap_nil, allocV, splice, partV, buildV, eqFieldsV, eqS, tabs, TK.agg, reduceCtorEq, Array.toList, List.map_cons, List.map_nil, ↓reduceIte, List.length_map, Nat.reduceAdd, Nat.reduceLeDiff, Nat.reduceLT, Nat.reduceMul, Nat.reduceSub, Option.bind_some, Option.map_some, bndV, numV, eI, eU, e8, eB, AV.isCell, Int.reduceToNat, Int.reduceSub, Int.reduceAdd, Int.reduceNeg])
    exact bad hlG (by simp only [resBA, h, Bool.false_eq_true, if_false])
  have hok := okBO_iff.1 h
  have e : resBA p t = allR p t := by simp only [resBA, h, if_true]
  rw [e] at bad ⊢
  have hcl := cmds_le hok.1
  have htl := (kind_len hok.2.2 (by decide)).2
  have hrB : ∀ {q}, (H.set r [I p.wide, I p.vars, Ns p.start, Cms p.cmds]) q = none → q ≠ r ∧ H q = none := fun h => by rwa [Heap.set_none] at h
  have gr0 : (H.set r [I p.wide, I p.vars, Ns p.start, Cms p.cmds]) r = some [I p.wide, I p.vars, Ns p.start, Cms p.cmds] := Heap.set_same _ _ _
  have hB1 : (H.set r [I p.wide, I p.vars, Ns p.start, Cms p.cmds]) q1 = none := by rw [Heap.set_none]; exact ⟨n1, hq1⟩
  have hB2 : (H.set r [I p.wide, I p.vars, Ns p.start, Cms p.cmds]) q2 = none := by rw [Heap.set_none]; exact ⟨n2, hq2.2⟩
  have hle0 : Heap.le (((H.set r [I p.wide, I p.vars, Ns p.start, Cms p.cmds]).set q1 (cN [])).set q2 (cN [])) (((H.set q1 []).set q2 []).set r [I p.wide, I p.vars, Ns p.start, Cms p.cmds]) := by
    have : cN [] = [] := rfl
    rw [this]
    have := hq2.2
    (intro y b hy; simp only [Heap.set, Heap.del] at hy ⊢; (repeat' split at hy) <;> (repeat' split) <;> simp_all [cells])
  (try simp (maxSteps := 1000000) (disch := (first | assumption | (apply Ne.symm; assumption))) only [vw0, vw1, vw2, vw3, vw4, vu0, vu1, ↓condV_t, ↓condV_f, cap_nil, allocV, splice, partV, buildV, eqFieldsV, eqS, tabs, TK.agg, reduceCtorEq, Array.toList, List.map_cons, List.map_nil, ↓reduceIte, List.length_map, Nat.reduceAdd, Nat.reduceLeDiff, Nat.reduceLT, Nat.reduceMul, Nat.reduceSub, Option.bind_some, Option.map_some, bndV, numV, eI, eU, e8, eB, AV.isCell, Int.reduceToNat, Int.reduceSub, Int.reduceAdd, Int.reduceNeg])
  refine L19_0_rule ((0 : Nat), q1, q2) (fun s => rowN s.2.1 (outF p t s.1)) (fun s => rowN s.2.2 (stuckF p s.1)) (fun s => I s.1) (fun s => ((H.set r [I p.wide, I p.vars, Ns p.start, Cms p.cmds]).set s.2.1 (cN (outF p t s.1))).set s.2.2 (cN (stuckF p s.1)))
    (fun s => s.1 ≤ p.cmds.length ∧ ((H.set r [I p.wide, I p.vars, Ns p.start, Cms p.cmds]) s.2.1 = none ∧ (H.set r [I p.wide, I p.vars, Ns p.start, Cms p.cmds]) s.2.2 = none ∧ s.2.1 ≠ s.2.2) ∧ ∀ k, k < s.1 → (bR p t k).isSome = true) (fun s => p.cmds.length - s.1) ⟨⟨by simp, ⟨hB1, hB2, Ne.symm hq2.1⟩, by intros; omega⟩, .nilo _ _ _, .nilo _ _ _, .refl _, hle0⟩ ?_
  clear hle0 hB1 hB2 hlG
  generalize H.set r [I p.wide, I p.vars, Ns p.start, Cms p.cmds] = B0 at hle hrB gr0 ⊢
  rintro ⟨i, qo, qs⟩ ⟨hi, ⟨h1, h2, h3⟩, hsome⟩
  dsimp only at hi h1 h2 h3 hsome
  have g := TwoR.two (outF p t i) (stuckF p i) h1 h2 h3
  obtain ⟨o1, o2⟩ := outF_ok hok.1 hp ht i hi
  obtain ⟨s1, s2⟩ := stuckF_ok hok.1 hp i hi
  have gr := g.le _ _ gr0
  generalize (B0.set qo (cN (outF p t i))).set qs (cN (stuckF p i)) = G at g gr ⊢
  (try simp (maxSteps := 1000000) (disch := (first | assumption | (apply Ne.symm; assumption))) only [vw0, vw1, vw2, vw3, vw4, vu0, vu1, ↓condV_t, ↓condV_f, cap_nil, allocV, splice, partV, buildV, eqFieldsV, eqS, tabs, TK.agg, reduceCtorEq, Array.toList, List.map_cons, List.map_nil, ↓reduceIte, List.length_map, Nat.reduceAdd, Nat.reduceLeDiff, Nat.reduceLT, Nat.reduceMul, Nat.reduceSub, Option.bind_some, Option.map_some, bndV, numV, eI, eU, e8, eB, AV.isCell, Int.reduceToNat, Int.reduceSub, Int.reduceAdd, Int.reduceNeg, B19_0])
  refine ⟨fun h5 => ⟨by omega, h5, ?_⟩, fun h5 => ?_⟩
  · have hlt : i < p.cmds.length := by omega
    obtain ⟨w1, w2, w3⟩ := when_ok hok.1 hp hlt
    intro r9 hr9
    have g2 := g.alloc hr9 [Ns (p.cmds.getD i default).when_, Chs (p.cmds.getD i default).chs]
    have gr2 := g2.le _ _ gr0
    have g9 : (G.set r9 [Ns (p.cmds.getD i default).when_, Chs (p.cmds.getD i default).chs]) r9 = some _ := Heap.set_same _ _ _
    (try simp (maxSteps := 1000000) (disch := (first | assumption | (apply Ne.symm; assumption))) only [vw0, vw1, vw2, vw3, vw4, vu0, vu1, ↓condV_t, ↓condV_f, cap_nil, allocV, splice, partV, buildV, eqFieldsV, eqS, tabs, TK.agg, reduceCtorEq, Array.toList, List.map_cons, List.map_nil, ↓reduceIte, List.length_map, Nat.reduceAdd, Nat.reduceLeDiff, Nat.reduceLT, Nat.reduceMul, Nat.reduceSub, Option.bind_some, Option.map_some, bndV, numV, eI, eU, e8, eB, AV.isCell, Int.reduceToNat, Int.reduceSub, Int.reduceAdd, Int.reduceNeg, load_at gr2])
    have n9 : r9 ≠ qo ∧ r9 ≠ qs := ⟨(fun e => by rw [e, g.gq] at hr9; cases hr9), (fun e => by rw [e, g.gs] at hr9; cases hr9)⟩
    generalize (G.set r9 [Ns (p.cmds.getD i default).when_, Chs (p.cmds.getD i default).chs]) = G2 at g2 gr2 g9 ⊢
    have eb : ifR p (p.cmds.getD (i : Int).toNat default) t = bR p t i := by rw [Int.toNat_natCast]; rfl
    refine Pu.use (l16If_spec p i t hok.1 hp ht ⟨by omega, h5⟩) ?_
    rw [eb]
    cases hb : bR p t i with
    | none =>
      (try simp (maxSteps := 1000000) (disch := (first | assumption | (apply Ne.symm; assumption))) only [vw0, vw1, vw2, vw3, vw4, vu0, vu1, ↓condV_t, ↓condV_f, cap_nil, allocV, splice, partV, buildV, eqFieldsV, eqS, tabs, TK.agg, reduceCtorEq, Array.toList, List.map_cons, List.map_nil, ↓reduceIte, List.length_map, Nat.reduceAdd, Nat.reduceLeDiff, Nat.reduceLT, Nat.reduceMul, Nat.reduceSub, Option.bind_some, Option.map_some, bndV, numV, eI, eU, e8, eB, AV.isCell, Int.reduceToNat, Int.reduceSub, Int.reduceAdd, Int.reduceNeg, Option.isSome_none])
      exact bad (Heap.le_trans hle g2.le) (allR_none hlt hb)
    | some b =>
    obtain ⟨b1, b2⟩ := bR_ok hok.1 hp ht hlt hb
    (try simp (maxSteps := 1000000) (disch := (first | assumption | (apply Ne.symm; assumption))) only [vw0, vw1, vw2, vw3, vw4, vu0, vu1, ↓condV_t, ↓condV_f, cap_nil, allocV, splice, partV, buildV, eqFieldsV, eqS, tabs, TK.agg, reduceCtorEq, Array.toList, List.map_cons, List.map_nil, ↓reduceIte, List.length_map, Nat.reduceAdd, Nat.reduceLeDiff, Nat.reduceLT, Nat.reduceMul, Nat.reduceSub, Option.bind_some, Option.map_some, bndV, numV, eI, eU, e8, eB, AV.isCell, Int.reduceToNat, Int.reduceSub, Int.reduceAdd, Int.reduceNeg, Option.isSome_some, Option.getD_some])
    refine g2.app (by omega) fun q4 G4 g4 old4 => ?_
    have g94 := old4 _ _ g9 n9.1
    (try simp (maxSteps := 1000000) (disch := (first | assumption | (apply Ne.symm; assumption))) only [vw0, vw1, vw2, vw3, vw4, vu0, vu1, ↓condV_t, ↓condV_f, cap_nil, allocV, splice, partV, buildV, eqFieldsV, eqS, tabs, TK.agg, reduceCtorEq, Array.toList, List.map_cons, List.map_nil, ↓reduceIte, List.length_map, Nat.reduceAdd, Nat.reduceLeDiff, Nat.reduceLT, Nat.reduceMul, Nat.reduceSub, Option.bind_some, Option.map_some, bndV, numV, eI, eU, e8, eB, AV.isCell, Int.reduceToNat, Int.reduceSub, Int.reduceAdd, Int.reduceNeg, load_at g94])
    refine g4.swap.app (by omega) fun q5 G5 g5 old5 => ?_
    have hs1 : ∀ k, k < i + 1 → (bR p t k).isSome = true := fun k hk => by
      rcases Nat.lt_succ_iff_lt_or_eq.1 hk with h | rfl
      · exact hsome k h
      · rw [hb]; rfl
    have eo := outF_succ p t i
    have es := stuckF_succ p i
    rw [hb, Option.getD_some] at eo
    (try simp (maxSteps := 1000000) (disch := (first | assumption | (apply Ne.symm; assumption))) only [vw0, vw1, vw2, vw3, vw4, vu0, vu1, ↓condV_t, ↓condV_f, cap_nil, allocV, splice, partV, buildV, eqFieldsV, eqS, tabs, TK.agg, reduceCtorEq, Array.toList, List.map_cons, List.map_nil, ↓reduceIte, List.length_map, Nat.reduceAdd, Nat.reduceLeDiff, Nat.reduceLT, Nat.reduceMul, Nat.reduceSub, Option.bind_some, Option.map_some, bndV, numV, eI, eU, e8, eB, AV.isCell, Int.reduceToNat, Int.reduceSub, Int.reduceAdd, Int.reduceNeg])
    refine ⟨fun h0 => ?_, fun h0 => ?_⟩
    · rw [if_pos (by omega)] at eo es
      refine lit_node (x := ⟨17, 0⟩) ?_
      refine g5.swap.app (by simp only [List.length_append, List.length_cons, List.length_nil]; omega) fun q6 G6 g6 _ => ?_
      (try simp (maxSteps := 1000000) (disch := (first | assumption | (apply Ne.symm; assumption))) only [vw0, vw1, vw2, vw3, vw4, vu0, vu1, ↓condV_t, ↓condV_f, cap_nil, allocV, splice, partV, buildV, eqFieldsV, eqS, tabs, TK.agg, reduceCtorEq, Array.toList, List.map_cons, List.map_nil, ↓reduceIte, List.length_map, Nat.reduceAdd, Nat.reduceLeDiff, Nat.reduceLT, Nat.reduceMul, Nat.reduceSub, Option.bind_some, Option.map_some, bndV, numV, eI, eU, e8, eB, AV.isCell, Int.reduceToNat, Int.reduceSub, Int.reduceAdd, Int.reduceNeg])
      refine lit_node (x := ⟨18, 0⟩) ?_
      refine g6.swap.app (by simp only [List.length_append, List.length_cons, List.length_nil]; omega) fun q7 G7 g7 _ => ?_
      (try simp (maxSteps := 1000000) (disch := (first | assumption | (apply Ne.symm; assumption))) only [vw0, vw1, vw2, vw3, vw4, vu0, vu1, ↓condV_t, ↓condV_f, cap_nil, allocV, splice, partV, buildV, eqFieldsV, eqS, tabs, TK.agg, reduceCtorEq, Array.toList, List.map_cons, List.map_nil, ↓reduceIte, List.length_map, Nat.reduceAdd, Nat.reduceLeDiff, Nat.reduceLT, Nat.reduceMul, Nat.reduceSub, Option.bind_some, Option.map_some, bndV, numV, eI, eU, e8, eB, AV.isCell, Int.reduceToNat, Int.reduceSub, Int.reduceAdd, Int.reduceNeg])
      have g8 := g7.swap
      rw [List.append_assoc, ← eo, List.append_assoc, ← es] at g8
      rw [List.append_assoc, ← eo, List.append_assoc, ← es]
      refine ⟨(i + 1, q6, q7), ⟨by simp only; omega, ⟨g8.fq, g8.fs, g8.ne⟩, hs1⟩, by simp only; omega, .refl _, .refl _, ?_, g8.top⟩
      rw [wk_int, i64_id (by omega) (by omega)]; simp
    · rw [if_neg (by omega), List.append_nil] at eo es
      have g8 := g5.swap
      rw [← eo, ← es] at g8
      rw [← eo, ← es]
      refine ⟨(i + 1, q4, q5), ⟨by simp only; omega, ⟨g8.fq, g8.fs, g8.ne⟩, hs1⟩, by simp only; omega, .refl _, .refl _, ?_, g8.top⟩
      rw [wk_int, i64_id (by omega) (by omega)]; simp
  · have hi2 : i = p.cmds.length := by omega
    subst hi2
    have er := allR_some hsome
    have hz := allT_ok hok.1 hp ht hok.2.2
    rw [er] at bad ⊢
    refine g.swap.app (zs := t) (by omega) fun qa Ga ga _ => ?_
    (try simp (maxSteps := 1000000) (disch := (first | assumption | (apply Ne.symm; assumption))) only [vw0, vw1, vw2, vw3, vw4, vu0, vu1, ↓condV_t, ↓condV_f, cap_nil, allocV, splice, partV, buildV, eqFieldsV, eqS, tabs, TK.agg, reduceCtorEq, Array.toList, List.map_cons, List.map_nil, ↓reduceIte, List.length_map, Nat.reduceAdd, Nat.reduceLeDiff, Nat.reduceLT, Nat.reduceMul, Nat.reduceSub, Option.bind_some, Option.map_some, bndV, numV, eI, eU, e8, eB, AV.isCell, Int.reduceToNat, Int.reduceSub, Int.reduceAdd, Int.reduceNeg])
    refine lit_node (x := ⟨18, 0⟩) ?_
    refine ga.app (by simp only [List.length_append, List.length_cons, List.length_nil]; omega) fun qb Gb gb _ => ?_
    refine gb.swap.appL gb.gq (by simp only [List.length_append, List.length_cons, List.length_nil]; omega) fun qc Gc gc _ => ?_
    (try simp (maxSteps := 1000000) (disch := (first | assumption | (apply Ne.symm; assumption))) only [vw0, vw1, vw2, vw3, vw4, vu0, vu1, ↓condV_t, ↓condV_f, cap_nil, allocV, splice, partV, buildV, eqFieldsV, eqS, tabs, TK.agg, reduceCtorEq, Array.toList, List.map_cons, List.map_nil, ↓reduceIte, List.length_map, Nat.reduceAdd, Nat.reduceLeDiff, Nat.reduceLT, Nat.reduceMul, Nat.reduceSub, Option.bind_some, Option.map_some, bndV, numV, eI, eU, e8, eB, AV.isCell, Int.reduceToNat, Int.reduceSub, Int.reduceAdd, Int.reduceNeg])
    refine lit_node (x := ⟨17, 0⟩) ?_
    refine gc.app (by simp only [List.length_append, List.length_cons, List.length_nil]; omega) fun qd Gd gd _ => ?_
    have efl : outF p t p.cmds.length ++ (stuckF p p.cmds.length ++ t ++ [⟨18, 0⟩]) ++ [⟨17, 0⟩] = allT p t := by simp [allT]
    rw [efl] at gd ⊢
    have grd := gd.le _ _ gr0
    (try simp (maxSteps := 1000000) (disch := (first | assumption | (apply Ne.symm; assumption))) only [vw0, vw1, vw2, vw3, vw4, vu0, vu1, ↓condV_t, ↓condV_f, cap_nil, allocV, splice, partV, buildV, eqFieldsV, eqS, tabs, TK.agg, reduceCtorEq, Array.toList, List.map_cons, List.map_nil, ↓reduceIte, List.length_map, Nat.reduceAdd, Nat.reduceLeDiff, Nat.reduceLT, Nat.reduceMul, Nat.reduceSub, Option.bind_some, Option.map_some, bndV, numV, eI, eU, e8, eB, AV.isCell, Int.reduceToNat, Int.reduceSub, Int.reduceAdd, Int.reduceNeg, load_at grd])
    refine l2Made_row p.wide p.vars (allT p t) hz.2 gd.gq (fun hg2 => ?_) (fun hg2 => ?_)
    · (try simp (maxSteps := 1000000) (disch := (first | assumption | (apply Ne.symm; assumption))) only [vw0, vw1, vw2, vw3, vw4, vu0, vu1, ↓condV_t, ↓condV_f, cap_nil, allocV, splice, partV, buildV, eqFieldsV, eqS, tabs, TK.agg, reduceCtorEq, Array.toList, List.map_cons, List.map_nil, ↓reduceIte, List.length_map, Nat.reduceAdd, Nat.reduceLeDiff, Nat.reduceLT, Nat.reduceMul, Nat.reduceSub, Option.bind_some, Option.map_some, bndV, numV, eI, eU, e8, eB, AV.isCell, Int.reduceToNat, Int.reduceSub, Int.reduceAdd, Int.reduceNeg])
      exact bad (Heap.le_trans hle gd.le) (by simp only [gtO, hg2]; rfl)
    · (try simp (maxSteps := 1000000) (disch := (first | assumption | (apply Ne.symm; assumption))) only [vw0, vw1, vw2, vw3, vw4, vu0, vu1, ↓condV_t, ↓condV_f, cap_nil, allocV, splice, partV, buildV, eqFieldsV, eqS, tabs, TK.agg, reduceCtorEq, Array.toList, List.map_cons, List.map_nil, ↓reduceIte, List.length_map, Nat.reduceAdd, Nat.reduceLeDiff, Nat.reduceLT, Nat.reduceMul, Nat.reduceSub, Option.bind_some, Option.map_some, bndV, numV, eI, eU, e8, eB, AV.isCell, Int.reduceToNat, Int.reduceSub, Int.reduceAdd, Int.reduceNeg])
      have e2 : gtO p.wide p.vars (allT p t) = some (allT p t) := by simp only [gtO, hg2, if_true]
      rw [e2]
      refine ⟨_, _, .trans (fin_nodes gd.gq) (.forget (H' := H) ?_), rfl, rfl⟩
      intro y bb hb
      rw [Heap.del_other (fun e => by rw [e, (hrB gd.fq).2] at hb; cases hb)]
      exact gd.le y bb (hle y bb hb)
end Go.Proofs.Ytlcnoflmlonikaa
