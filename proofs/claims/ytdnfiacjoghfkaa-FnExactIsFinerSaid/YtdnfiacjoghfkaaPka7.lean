/- The row of the law that IsFiner answers as the reference does: whatever the arguments, it answers true, and what it is told reads as it did. -/
import Derived.Test.YtdnfiacjoghfkaaPka6
import Derived.Test.YtdnfiacjoghfkaaRows
import Derived.WalkKit
import Derived.ProofKit
import Derived.OpenShut
/- Abstractions of one's own as answers: called with what is live, compared, marked, held; the laws on MeetOf and IsFiner. -/
namespace Go.Sep
open Go Go.RowKit Go.Proofs.Ytdnfiacjoghfkaa
set_option linter.unusedVariables false

/-- Answers that may be moved on: what they are, in a heap, with the blocks they own. -/
structure ResU (R : AV → Heap → List Nat → Prop) : Prop where
  loc : ∀ {r G G' D}, R r G D → (∀ y ∈ D, ∀ b, G y = some b → G' y = some b) → R r G' D
  gd : ∀ {r G D}, R r G D → Gd2 r ∧ ∀ y ∈ D, ∀ bs, G y = some bs → ∀ c ∈ bs, GdC c
  sh : ∀ {r G D n G0}, (∀ q, n ≤ q → G0 q = none) → R r G D → R (sh2 n r) (Heap.or G0 (shH n G)) (D.map (· + n))
end Go.Sep
namespace Go.Proofs.Ytdnfiacjoghfkaa
open Go Go.Sep Go.Pt
set_option linter.unusedSimpArgs false
set_option linter.unusedVariables false
attribute [local irreducible] CallT

theorem RS.local {of : List Int} {v : AV} {G G' : Heap} {D : List Nat} (h : RS of v G D) (hf : ∀ y ∈ D, ∀ b, G y = some b → G' y = some b) : RS of v G' D := by
  rcases h with h | ⟨q, rfl, hq, rfl⟩
  · exact .inl h
  · exact .inr ⟨q, rfl, hf q (by simp) _ hq, rfl⟩
theorem RS.has {of : List Int} {v : AV} {G : Heap} {D : List Nat} (h : RS of v G D) : ∀ y ∈ D, G y ≠ none := by
  rcases h with ⟨_, _, rfl⟩ | ⟨q, rfl, hq, rfl⟩
  · intro y hy; cases hy
  · intro y hy; rw [List.mem_singleton.1 hy, hq]; simp
def tP (p : Pg) (v : AV) (D : List Nat) : Th := ⟨D, fun G => LPg p v G D, fun h f => LPg.local h f, fun h => LPg.has h⟩
theorem LSt.rs {of : List Int} {v : AV} {G : Heap} {D : List Nat} (h : LSt of v G D) : ∃ q, v = .agg [rowP q of] ∧ G q = some (cP fI of) ∧ D = [q] := by
  obtain ⟨x, rfl, hx⟩ := h
  obtain ⟨q, rfl, hq, rfl⟩ := LI_row hx
  exact ⟨q, rfl, by rw [hq, ← cells_P], rfl⟩
theorem RS.eq {of : List Int} {v : AV} {G : Heap} {D : List Nat} (h : RS of v G D) (hl : of.length ≤ 1048576) {K : AV → Heap → Prop} (k : K (B true) G) : CallT Try.prog 12 [v, aS of] G K := by
  rcases h with ⟨rfl, rfl, rfl⟩ | ⟨q, rfl, hq, rfl⟩
  · exact CallT.args (args' := [aS [], aS []]) ((eqSight_spec [] (by simp)).use k) ⟨wk_agg ⟨.nil, trivial⟩, .refl _, trivial⟩
  · exact Pu.thaw (eqSight_spec of hl) (.bool _) (Wk.frz (r := q) (sz := 1) (es := of.map fun n => [fI n]) (v' := .tup [aS of, aS of]) (by omega) (by rw [flat_P]; exact hq) (szP _ _) (.tup (.cons (.agg (.cons frz_row .nil)) (.cons (.same _) .nil)))) k
theorem heldSight_spec (n : Nat) (hl : n ≤ 1048576) : Pu Try.prog 16 [aS (marked 1 n), I 1] (I (1 + n)) := by
  refine Pu.of fun H => ?_
  refine W16_ok ?_; simp (maxSteps := 1000000) (disch := first | assumption | (apply Ne.symm; assumption)) only [W16, vz, vu, vv, eqS, eqFieldsV, ↓condV_t, ↓condV_f, tabs, reduceCtorEq, Array.toList, ↓reduceIte, Nat.reduceAdd, Nat.reduceLeDiff, Nat.reduceLT, Nat.reduceMul, Nat.reduceSub, Int.reduceToNat, Int.reduceSub, Int.reduceAdd, Int.reduceNeg]
  intro r hr
  refine Pu.use (heldIntS_spec n hl (by omega) (by omega)) ?_
  (try simp (maxSteps := 1000000) (disch := first | assumption | (apply Ne.symm; assumption)) only [vz, vu, vv, eqS, eqFieldsV, ↓condV_t, ↓condV_f, tabs, reduceCtorEq, Array.toList, ↓reduceIte, Nat.reduceAdd, Nat.reduceLeDiff, Nat.reduceLT, Nat.reduceMul, Nat.reduceSub, Int.reduceToNat, Int.reduceSub, Int.reduceAdd, Int.reduceNeg])
  first | exact ⟨fun h => by omega, fun _ => Heap.le_set hr⟩ | exact Heap.le_set hr
theorem RS.held {n : Nat} {v : AV} {G : Heap} {D : List Nat} (h : RS (marked 1 n) v G D) (hl : n ≤ 1048576) {K : AV → Heap → Prop} (k : K (I (1 + n)) G) : CallT Try.prog 16 [v, I 1] G K := by
  rcases h with ⟨h0, rfl, rfl⟩ | ⟨q, rfl, hq, rfl⟩
  · have : n = 0 := by
      have := congrArg List.length h0
      simpa [marked_len] using this
    subst this
    exact CallT.args (args' := [aS [], I 1]) ((heldSight_spec 0 hl).use k) ⟨wk_agg ⟨.nil, trivial⟩, .refl _, trivial⟩
  · exact Pu.thaw (heldSight_spec n hl) (.int _ _) (Wk.frz (r := q) (sz := 1) (es := (marked 1 n).map fun n => [fI n]) (v' := .tup [aS (marked 1 n), I 1]) (by omega) (by rw [flat_P]; exact hq) (szP _ _) (.tup (.cons (.agg (.cons frz_row .nil)) (.cons (.same _) .nil)))) k

theorem LPg.eqP {p : Pg} {v : AV} {G : Heap} {D : List Nat} (g : LPg p v G D) (hD : D.Nodup) (hp : smPg p) {K : AV → Heap → Prop} (h : K (B true) G) : CallT Try.prog 13 [v, aPg p] G K := by
  obtain ⟨G1, w1, f1⟩ := g.wk hD (fun v => .tup [v, aPg p]) (fun h => .tup (.cons h (.cons (.same _) .nil)))
  exact Pu.thaw (eqProgram_spec p hp) (.bool _) w1 h
theorem wkPSS {p : Pg} {a b : List Int} {v : AV} {D : List Nat} {q1 q2 : Nat} {G : Heap} (h1 : LPg p v G D) (hD : D.Nodup) (hq1 : G q1 = some (cP fI a)) (hq2 : G q2 = some (cP fI b)) (d1 : q1 ∉ D) (d2 : q2 ∉ D) (d3 : q1 ≠ q2) :
    ∃ G', Wk (.tup [v, .agg [rowP q1 a], .agg [rowP q2 b]]) G (.tup [aPg p, aS a, aS b]) G' := by
  obtain ⟨G1, w1, f1⟩ := h1.wk hD (fun v => .tup [v, .agg [rowP q1 a], .agg [rowP q2 b]]) (fun h => .tup (.cons h (.cons (.same _) (.cons (.same _) .nil))))
  have w2 := Wk.frz (v := .tup [aPg p, .agg [rowP q1 a], .agg [rowP q2 b]]) (v' := .tup [aPg p, aS a, .agg [rowP q2 b]]) (H := G1) (r := q1) (sz := 1) (es := a.map fun n => [fI n]) (by omega) (by rw [flat_P, f1 q1 d1]; exact hq1) (szP _ _) (.tup (.cons (.same _) (.cons (.agg (.cons frz_row .nil)) (.cons (.same _) .nil))))
  have w3 := Wk.frz (v := .tup [aPg p, aS a, .agg [rowP q2 b]]) (v' := .tup [aPg p, aS a, aS b]) (H := G1.del q1) (r := q2) (sz := 1) (es := b.map fun n => [fI n]) (by omega) (by rw [flat_P, Heap.del_other (Ne.symm d3), f1 q2 d2]; exact hq2) (szP _ _) (.tup (.cons (.same _) (.cons (.same _) (.cons (.agg (.cons frz_row .nil)) .nil))))
  exact ⟨_, .trans w1 (.trans w2 w3)⟩
theorem LPg.sl {p : Pg} {v : AV} {G : Heap} {D : List Nat} (h : LPg p v G D) : ∃ q1 q2, v = .agg [I p.wide, I p.vars, .sl q1 2 0 p.start.length, .sl q2 2 0 p.cmds.length] := by
  obtain ⟨x, y, E1, E2, rfl, rfl, hx, hy⟩ := h
  obtain ⟨qx, rfl⟩ := LRow.sl hx
  obtain ⟨qy, rfl⟩ := LRow.sl hy
  exact ⟨qx, qy, rfl⟩

theorem FnExactIsFiner_true {p : Pg} {a b : List Int} (hok : okPg p) (hn : nPg p) (ha : ok a.length) (hb : ok b.length) : Pu Try.prog 4 [aPg p, aS a, aS b] (B true) := by
  refine Pu.of fun H => ?_
  refine W4_ok ?_; simp (maxSteps := 1000000) (disch := first | assumption | (apply Ne.symm; assumption)) only [W4, vz, vu, vv, eqS, eqFieldsV, ↓condV_t, ↓condV_f, tabs, reduceCtorEq, Array.toList, ↓reduceIte, Nat.reduceAdd, Nat.reduceLeDiff, Nat.reduceLT, Nat.reduceMul, Nat.reduceSub, Int.reduceToNat, Int.reduceSub, Int.reduceAdd, Int.reduceNeg]
  intro r hr r1 n1 h1 r2 n2 n3 h2
  have st := (((St.nil H).cell hr (gPg p)).cell (r := r1) (by rw [Heap.set_other n1]; exact h1) [Is a]).cell (r := r2) (by rw [Heap.set_other n2, Heap.set_other n3]; exact h2) [Is b]
  generalize ((H.set r [I p.wide, I p.vars, Ns p.start, Cms p.cmds]).set r1 [Is a]).set r2 [Is b] = G0 at st ⊢
  (try simp (maxSteps := 1000000) (disch := first | assumption | (apply Ne.symm; assumption)) only [vz, vu, vv, eqS, eqFieldsV, ↓condV_t, ↓condV_f, tabs, reduceCtorEq, Array.toList, ↓reduceIte, Nat.reduceAdd, Nat.reduceLeDiff, Nat.reduceLT, Nat.reduceMul, Nat.reduceSub, Int.reduceToNat, Int.reduceSub, Int.reduceAdd, Int.reduceNeg, load_at (st.get 0 rfl), load_at (st.get 1 rfl), load_at (st.get 2 rfl)])
  refine Pu.use (szProgram_spec p 1048576 (by omega) (by omega) hok) ?_
  (try simp (maxSteps := 1000000) (disch := first | assumption | (apply Ne.symm; assumption)) only [vz, vu, vv, eqS, eqFieldsV, ↓condV_t, ↓condV_f, tabs, reduceCtorEq, Array.toList, ↓reduceIte, Nat.reduceAdd, Nat.reduceLeDiff, Nat.reduceLT, Nat.reduceMul, Nat.reduceSub, Int.reduceToNat, Int.reduceSub, Int.reduceAdd, Int.reduceNeg, load_at (st.get 0 rfl), load_at (st.get 1 rfl), load_at (st.get 2 rfl)])
  refine ⟨fun _ => st.le, fun h1 => ?_⟩
  obtain ⟨t1, e1⟩ := szR_nonneg h1
  rw [e1]
  have hsm := sm_of_tot (by omega : (totPg p : Int) ≤ 1048576)
  have hv := v_of hsm hn
  refine Pu.use (szSight_spec a _ (by omega) (by omega) ha) ?_
  (try simp (maxSteps := 1000000) (disch := first | assumption | (apply Ne.symm; assumption)) only [vz, vu, vv, eqS, eqFieldsV, ↓condV_t, ↓condV_f, tabs, reduceCtorEq, Array.toList, ↓reduceIte, Nat.reduceAdd, Nat.reduceLeDiff, Nat.reduceLT, Nat.reduceMul, Nat.reduceSub, Int.reduceToNat, Int.reduceSub, Int.reduceAdd, Int.reduceNeg, load_at (st.get 0 rfl), load_at (st.get 1 rfl), load_at (st.get 2 rfl)])
  refine ⟨fun _ => st.le, fun h2 => ?_⟩
  obtain ⟨t2, e2⟩ := szR_nonneg h2
  rw [e2]
  refine Pu.use (szSight_spec b _ (by omega) (by omega) hb) ?_
  (try simp (maxSteps := 1000000) (disch := first | assumption | (apply Ne.symm; assumption)) only [vz, vu, vv, eqS, eqFieldsV, ↓condV_t, ↓condV_f, tabs, reduceCtorEq, Array.toList, ↓reduceIte, Nat.reduceAdd, Nat.reduceLeDiff, Nat.reduceLT, Nat.reduceMul, Nat.reduceSub, Int.reduceToNat, Int.reduceSub, Int.reduceAdd, Int.reduceNeg, load_at (st.get 0 rfl), load_at (st.get 1 rfl), load_at (st.get 2 rfl)])
  refine ⟨fun _ => st.le, fun h3 => ?_⟩
  obtain ⟨t3, _⟩ := szR_nonneg h3
  have hal : a.length ≤ 1048576 := by omega
  have hbl : b.length ≤ 1048576 := by omega
  refine Pu.use (toProgram_spec p hsm) ?_
  (try simp (maxSteps := 1000000) (disch := first | assumption | (apply Ne.symm; assumption)) only [vz, vu, vv, eqS, eqFieldsV, ↓condV_t, ↓condV_f, tabs, reduceCtorEq, Array.toList, ↓reduceIte, Nat.reduceAdd, Nat.reduceLeDiff, Nat.reduceLT, Nat.reduceMul, Nat.reduceSub, Int.reduceToNat, Int.reduceSub, Int.reduceAdd, Int.reduceNeg, load_at (st.get 0 rfl), load_at (st.get 1 rfl), load_at (st.get 2 rfl)])
  refine Pu.use (toSight_spec a hal) ?_
  (try simp (maxSteps := 1000000) (disch := first | assumption | (apply Ne.symm; assumption)) only [vz, vu, vv, eqS, eqFieldsV, ↓condV_t, ↓condV_f, tabs, reduceCtorEq, Array.toList, ↓reduceIte, Nat.reduceAdd, Nat.reduceLeDiff, Nat.reduceLT, Nat.reduceMul, Nat.reduceSub, Int.reduceToNat, Int.reduceSub, Int.reduceAdd, Int.reduceNeg, load_at (st.get 0 rfl), load_at (st.get 1 rfl), load_at (st.get 2 rfl)])
  refine Pu.use (toSight_spec b hbl) ?_
  (try simp (maxSteps := 1000000) (disch := first | assumption | (apply Ne.symm; assumption)) only [vz, vu, vv, eqS, eqFieldsV, ↓condV_t, ↓condV_f, tabs, reduceCtorEq, Array.toList, ↓reduceIte, Nat.reduceAdd, Nat.reduceLeDiff, Nat.reduceLT, Nat.reduceMul, Nat.reduceSub, Int.reduceToNat, Int.reduceSub, Int.reduceAdd, Int.reduceNeg])
  refine Pu.use (IsFiner_ref p a b hv hal hbl) ?_
  (try simp (maxSteps := 1000000) (disch := first | assumption | (apply Ne.symm; assumption)) only [vz, vu, vv, eqS, eqFieldsV, ↓condV_t, ↓condV_f, tabs, reduceCtorEq, Array.toList, ↓reduceIte, Nat.reduceAdd, Nat.reduceLeDiff, Nat.reduceLT, Nat.reduceMul, Nat.reduceSub, Int.reduceToNat, Int.reduceSub, Int.reduceAdd, Int.reduceNeg, load_at (st.get 0 rfl), load_at (st.get 1 rfl), load_at (st.get 2 rfl)])
  refine toProgram_live p hsm fun v G1 D1 hP hn1 => ?_
  replace st := st.push (tP p v D1) hn1 hP
  obtain ⟨qx, qy, rfl⟩ := hP.sl
  clear hP hn1
  (try simp (maxSteps := 1000000) (disch := first | assumption | (apply Ne.symm; assumption)) only [vz, vu, vv, eqS, eqFieldsV, ↓condV_t, ↓condV_f, tabs, reduceCtorEq, Array.toList, ↓reduceIte, Nat.reduceAdd, Nat.reduceLeDiff, Nat.reduceLT, Nat.reduceMul, Nat.reduceSub, Int.reduceToNat, Int.reduceSub, Int.reduceAdd, Int.reduceNeg])
  intro z hz
  replace st := st.cell hz [I p.wide, I p.vars, .sl qx 2 0 p.start.length, .sl qy 2 0 p.cmds.length]
  (try simp (maxSteps := 1000000) (disch := first | assumption | (apply Ne.symm; assumption)) only [vz, vu, vv, eqS, eqFieldsV, ↓condV_t, ↓condV_f, tabs, reduceCtorEq, Array.toList, ↓reduceIte, Nat.reduceAdd, Nat.reduceLeDiff, Nat.reduceLT, Nat.reduceMul, Nat.reduceSub, Int.reduceToNat, Int.reduceSub, Int.reduceAdd, Int.reduceNeg, load_at (st.get 3 rfl)])
  generalize G1.set z [I p.wide, I p.vars, .sl qx 2 0 p.start.length, .sl qy 2 0 p.cmds.length] = G2 at st ⊢
  refine toSight_live a hal fun v1 G3 D3 hS hn3 => ?_
  obtain ⟨q1, rfl, hq1, rfl⟩ := hS.rs
  replace st := st.push (cellT q1 (cP fI a)) hn3 hq1
  clear hS hn3 hq1
  (try simp (maxSteps := 1000000) (disch := first | assumption | (apply Ne.symm; assumption)) only [vz, vu, vv, eqS, eqFieldsV, ↓condV_t, ↓condV_f, tabs, reduceCtorEq, Array.toList, ↓reduceIte, Nat.reduceAdd, Nat.reduceLeDiff, Nat.reduceLT, Nat.reduceMul, Nat.reduceSub, Int.reduceToNat, Int.reduceSub, Int.reduceAdd, Int.reduceNeg])
  intro z1 hz1
  replace st := st.cell hz1 [rowP q1 a]
  (try simp (maxSteps := 1000000) (disch := first | assumption | (apply Ne.symm; assumption)) only [vz, vu, vv, eqS, eqFieldsV, ↓condV_t, ↓condV_f, tabs, reduceCtorEq, Array.toList, ↓reduceIte, Nat.reduceAdd, Nat.reduceLeDiff, Nat.reduceLT, Nat.reduceMul, Nat.reduceSub, Int.reduceToNat, Int.reduceSub, Int.reduceAdd, Int.reduceNeg, load_at (st.get 4 rfl)])
  generalize G3.set z1 [rowP q1 a] = G4 at st ⊢
  refine toSight_live b hbl fun v2 G5 D5 hS hn5 => ?_
  obtain ⟨q2, rfl, hq2, rfl⟩ := hS.rs
  replace st := st.push (cellT q2 (cP fI b)) hn5 hq2
  clear hS hn5 hq2
  (try simp (maxSteps := 1000000) (disch := first | assumption | (apply Ne.symm; assumption)) only [vz, vu, vv, eqS, eqFieldsV, ↓condV_t, ↓condV_f, tabs, reduceCtorEq, Array.toList, ↓reduceIte, Nat.reduceAdd, Nat.reduceLeDiff, Nat.reduceLT, Nat.reduceMul, Nat.reduceSub, Int.reduceToNat, Int.reduceSub, Int.reduceAdd, Int.reduceNeg])
  intro z2 hz2
  replace st := st.cell hz2 [rowP q2 b]
  (try simp (maxSteps := 1000000) (disch := first | assumption | (apply Ne.symm; assumption)) only [vz, vu, vv, eqS, eqFieldsV, ↓condV_t, ↓condV_f, tabs, reduceCtorEq, Array.toList, ↓reduceIte, Nat.reduceAdd, Nat.reduceLeDiff, Nat.reduceLT, Nat.reduceMul, Nat.reduceSub, Int.reduceToNat, Int.reduceSub, Int.reduceAdd, Int.reduceNeg, load_at (st.get 0 rfl), load_at (st.get 2 rfl), load_at (st.get 4 rfl)])
  generalize G5.set z2 [rowP q2 b] = G6 at st ⊢
  have d1 : q1 ∉ D1 := fun hm => st.disjI 3 5 rfl rfl (by omega) q1 (List.mem_singleton.2 rfl) hm
  have d2 : q2 ∉ D1 := fun hm => st.disjI 1 5 rfl rfl (by omega) q2 (List.mem_singleton.2 rfl) hm
  have d3 : q1 ≠ q2 := fun e => st.disjI 1 3 rfl rfl (by omega) q2 (List.mem_singleton.2 rfl) (List.mem_singleton.2 e.symm)
  obtain ⟨Gw, hw⟩ := wkPSS (st.get 5 rfl) (st.ndT 5 rfl) (st.get 3 rfl) (st.get 1 rfl) d1 d2 d3
  refine Pu.thaw (IsFiner_impl p a b hv hal hbl) (.tup (fun c hc => ?_)) hw ?_
  · simp only [List.mem_cons, List.not_mem_nil, or_false] at hc
    rcases hc with rfl | rfl <;> exact .bool _
  (try simp (maxSteps := 1000000) (disch := first | assumption | (apply Ne.symm; assumption)) only [vz, vu, vv, eqS, eqFieldsV, ↓condV_t, ↓condV_f, tabs, reduceCtorEq, Array.toList, ↓reduceIte, Nat.reduceAdd, Nat.reduceLeDiff, Nat.reduceLT, Nat.reduceMul, Nat.reduceSub, Int.reduceToNat, Int.reduceSub, Int.reduceAdd, Int.reduceNeg, load_at (st.get 4 rfl), load_at (st.get 8 rfl)])
  refine Pu.use (toProgram_spec p hsm) ?_
  (try simp (maxSteps := 1000000) (disch := first | assumption | (apply Ne.symm; assumption)) only [vz, vu, vv, eqS, eqFieldsV, ↓condV_t, ↓condV_f, tabs, reduceCtorEq, Array.toList, ↓reduceIte, Nat.reduceAdd, Nat.reduceLeDiff, Nat.reduceLT, Nat.reduceMul, Nat.reduceSub, Int.reduceToNat, Int.reduceSub, Int.reduceAdd, Int.reduceNeg, load_at (st.get 4 rfl)])
  refine (st.get 5 rfl : LPg _ _ _ _).eqP (st.ndT 5 rfl) hsm ?_
  (try simp (maxSteps := 1000000) (disch := first | assumption | (apply Ne.symm; assumption)) only [vz, vu, vv, eqS, eqFieldsV, ↓condV_t, ↓condV_f, tabs, reduceCtorEq, Array.toList, ↓reduceIte, Nat.reduceAdd, Nat.reduceLeDiff, Nat.reduceLT, Nat.reduceMul, Nat.reduceSub, Int.reduceToNat, Int.reduceSub, Int.reduceAdd, Int.reduceNeg, load_at (st.get 2 rfl), load_at (st.get 7 rfl)])
  refine Pu.use (toSight_spec a hal) ?_
  (try simp (maxSteps := 1000000) (disch := first | assumption | (apply Ne.symm; assumption)) only [vz, vu, vv, eqS, eqFieldsV, ↓condV_t, ↓condV_f, tabs, reduceCtorEq, Array.toList, ↓reduceIte, Nat.reduceAdd, Nat.reduceLeDiff, Nat.reduceLT, Nat.reduceMul, Nat.reduceSub, Int.reduceToNat, Int.reduceSub, Int.reduceAdd, Int.reduceNeg, load_at (st.get 2 rfl)])
  refine RS.eq (.inr ⟨q1, rfl, st.get 3 rfl, rfl⟩) hal ?_
  (try simp (maxSteps := 1000000) (disch := first | assumption | (apply Ne.symm; assumption)) only [vz, vu, vv, eqS, eqFieldsV, ↓condV_t, ↓condV_f, tabs, reduceCtorEq, Array.toList, ↓reduceIte, Nat.reduceAdd, Nat.reduceLeDiff, Nat.reduceLT, Nat.reduceMul, Nat.reduceSub, Int.reduceToNat, Int.reduceSub, Int.reduceAdd, Int.reduceNeg, load_at (st.get 0 rfl), load_at (st.get 6 rfl)])
  refine Pu.use (toSight_spec b hbl) ?_
  (try simp (maxSteps := 1000000) (disch := first | assumption | (apply Ne.symm; assumption)) only [vz, vu, vv, eqS, eqFieldsV, ↓condV_t, ↓condV_f, tabs, reduceCtorEq, Array.toList, ↓reduceIte, Nat.reduceAdd, Nat.reduceLeDiff, Nat.reduceLT, Nat.reduceMul, Nat.reduceSub, Int.reduceToNat, Int.reduceSub, Int.reduceAdd, Int.reduceNeg, load_at (st.get 0 rfl)])
  refine RS.eq (.inr ⟨q2, rfl, st.get 1 rfl, rfl⟩) hbl ?_
  (try simp (maxSteps := 1000000) (disch := first | assumption | (apply Ne.symm; assumption)) only [vz, vu, vv, eqS, eqFieldsV, ↓condV_t, ↓condV_f, tabs, reduceCtorEq, Array.toList, ↓reduceIte, Nat.reduceAdd, Nat.reduceLeDiff, Nat.reduceLT, Nat.reduceMul, Nat.reduceSub, Int.reduceToNat, Int.reduceSub, Int.reduceAdd, Int.reduceNeg])
  exact st.le
end Go.Proofs.Ytdnfiacjoghfkaa
/- The row of the law that IsFiner answers as the reference does: whatever the arguments, it answers true, and what it is told reads as it did. -/
namespace Go.Proofs.Ytdnfiacjoghfkaa.isFiner
open Go Go.Sep Go.ChangeShapes Go.WideShapes Go.ChangeAt Go.RowKit
set_option linter.unusedVariables false

theorem own : ownKnob Try.prog.godebug = none := by kernel_rfl

theorem told (avs : List AV) (h : ArgsT Try.prog [25, 28, 28] avs) : CallT Try.prog 4 avs (fun _ => none) (fun v _ => v = .p (.bool true)) := by
  obtain ⟨a, b, rfl, h1, h⟩ := args_cons h
  obtain ⟨b, c, rfl, h2, h⟩ := args_cons h
  obtain ⟨c, d, rfl, h3, h⟩ := args_cons h
  cases args_nil h
  obtain ⟨x1, hx1, hn1, rfl⟩ := arg_program h1
  obtain ⟨x2, hx2, rfl⟩ := arg_sight h2
  obtain ⟨x3, hx3, rfl⟩ := arg_sight h3
  exact (FnExactIsFiner_true hx1 hn1 hx2 hx3).use rfl

set_option maxRecDepth 100000 in
theorem lifted (os : Os) (started : os.Started) (H : Type) (enc : TypeId × Value → H) :
    ReturnsInHanded {} Try.checked os 4 .any (Rows.fnExactIsFinerSpec.pre6 enc Try.prog Try.f4 Rows.fnExactIsFinerRow.domain false) (Rows.fnExactIsFinerSpec.post enc Try.prog Try.f4 false true false false) := by
  refine returnsInHanded_of_change (C := Try.checked) own started (by kernel_rfl) Try.func4
    (ChangeSpec.witness6 (enc := enc) (C := Try.checked) false ⟨#[], #[.agg #[.int .i64 0, .int .i64 0, .slice none 0 0, .slice none 0 0], .agg #[.slice none 0 0], .agg #[.slice none 0 0]], []⟩ 12 (by kernel_rfl) (by kernel_rfl) (by kernel_rfl) (by kernel_rfl)) ?_
  intro W base args ds gs before hval hW _ _
  refine row_of_true (n := 12) (tb := 4) (by kernel_rfl) rfl (by kernel_rfl) (by kernel_rfl) ?_ ?_ ?_ hval hW
  · have : (Try.f4.params.toList.all fun t => Try.prog.readableRec t && decide (t < Try.prog.types.size) && plainB Try.prog 12 t) = true := by kernel_rfl
    intro t ht
    have := List.all_eq_true.1 this t ht
    rw [Bool.and_eq_true, Bool.and_eq_true, decide_eq_true_eq] at this
    exact ⟨this.1.1, this.1.2, this.2⟩
  · intro ds hd
    rw [Try.params4] at hd
    match ds, hd with
    | [a, b, c], _ => rfl
  · rw [Try.params4]
    exact told

theorem over : Rows.fnExactIsFinerRow.holds Try.pinned (OpenSpec.ofChange Rows.fnExactIsFinerSpec) :=
  OpenClaim.holds_of_wide 4 Try.f4 rfl rfl rfl rfl rfl rfl rfl ⟨rfl, rfl, rfl, rfl, rfl⟩ rfl rfl rfl rfl rfl (by kernel_rfl) Try.func4 (by kernel_rfl)
    (of_decide_eq_true (by kernel_rfl)) (by unfold Func.isWrapper; first | (rw [if_pos (by decide +kernel)]; kernel_rfl) | (rw [if_neg (by decide +kernel)]; exact ⟨rfl, rfl⟩))
    (fun os started H enc _ => lifted os started H enc)

/-- The statement. -/
theorem proved : Rows.FnExactIsFinerSaid :=
  over
#print axioms proved
end Go.Proofs.Ytdnfiacjoghfkaa.isFiner
