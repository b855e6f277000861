/- Texts laid together: Ma2 Ma4 Qc1 Qm0 Mm1 Mm2 Lt5 Mt0 Mm3 Qc2 Mm4 Mm5 Ma5 Ma6 Mm8 Qc3 Qc4. -/
import Derived.Test.YtdnfiacjoghfkaaGreatPka7
import Derived.Test.YtdnfiacjoghfkaaGreatProg
import Derived.Maps.Keyed
import Derived.Maps.OwnSet
import Derived.Maps.Views
import Derived.DeepKeys4
import Derived.Carry
import Derived.OwnWalk
import Derived.Maps.AppendAt
import Derived.WalkKit
/- Specs: automata that own their rows: copies, marks. -/
namespace Go.Proofs.YtdnfiacjoghfkaaGreat
open Go Go.Sep Go.Pt
set_option linter.unusedSimpArgs false
set_option linter.unusedVariables false
attribute [local irreducible] CallT

abbrev LE : List Ed → AV → Heap → List Nat → Prop := LRow (LPl eE) 3
def LIc : Lay (List Int) := fun l cs G D => ∃ x, cs = [x] ∧ LI l x G D
abbrev LII : List (List Int) → AV → Heap → List Nat → Prop := LRow LIc 1
theorem LIc.local : Lay.Local LIc := by
  rintro c cs G G' D ⟨x, e, h⟩ hf
  exact ⟨x, e, LRow.local (LPl.local eI) h hf⟩
theorem LIc.size : Lay.Size LIc 1 := by
  rintro c cs G D ⟨x, rfl, h⟩; rfl
theorem LIc.has : Lay.Has LIc := by
  rintro c cs G D ⟨x, e, h⟩
  exact LRow.has (LPl.has eI) h
theorem LIc.frz : Lay.Frz LIc eL := by
  rintro c cs G D v s pre post ⟨x, rfl, h⟩ hD hs hG
  obtain ⟨G', w, k, f⟩ := LRow.frzIn (e := eI) (sz := 1) (pre := pre) (post := post) (v := v) (by omega) (fun _ => rfl) (LPl.local eI) (LPl.frz eI) h hD hs (by rw [hG])
  exact ⟨G', w, by rw [k]; rfl, f⟩
def LAu (a : Au) (v : AV) (G : Heap) (D : List Nat) : Prop := ∃ x y z D1 D2 D3, v = .agg [I a.states, x, y, z] ∧ D = D1 ++ (D2 ++ D3) ∧ LI a.first x G D1 ∧ LE a.edges y G D2 ∧ LII a.goals z G D3
theorem LAu.local {a : Au} {v : AV} {G G' : Heap} {D : List Nat} (h : LAu a v G D) (hf : ∀ y ∈ D, ∀ b, G y = some b → G' y = some b) : LAu a v G' D := by
  obtain ⟨x, y, z, D1, D2, D3, e, rfl, h1, h2, h3⟩ := h
  exact ⟨x, y, z, D1, D2, D3, e, rfl, LRow.local (LPl.local eI) h1 (fun u hu => hf u (by simp [hu])), LRow.local (LPl.local eE) h2 (fun u hu => hf u (by simp [hu])), LRow.local LIc.local h3 (fun u hu => hf u (by simp [hu]))⟩
theorem LAu.has {a : Au} {v : AV} {G : Heap} {D : List Nat} (h : LAu a v G D) : ∀ y ∈ D, G y ≠ none := by
  obtain ⟨x, y, z, D1, D2, D3, e, rfl, h1, h2, h3⟩ := h
  intro u hu
  simp only [List.mem_append] at hu
  rcases hu with hu | hu | hu
  · exact LRow.has (LPl.has eI) h1 u hu
  · exact LRow.has (LPl.has eE) h2 u hu
  · exact LRow.has LIc.has h3 u hu
theorem nd3' {A B C : List Nat} (h : (A ++ (B ++ C)).Nodup) : A.Nodup ∧ B.Nodup ∧ C.Nodup ∧ (∀ y ∈ A, y ∉ B) ∧ (∀ y ∈ A, y ∉ C) ∧ (∀ y ∈ B, y ∉ C) := by
  rw [List.nodup_append, List.nodup_append] at h
  obtain ⟨h1, ⟨h2, h3, h4⟩, h5⟩ := h
  exact ⟨h1, h2, h3, fun y hy hb => h5 y hy y (List.mem_append_left _ hb) rfl, fun y hy hb => h5 y hy y (List.mem_append_right _ hb) rfl, fun y hy hb => h4 y hy y hb rfl⟩
theorem LAu.wk {a : Au} {v : AV} {G : Heap} {D : List Nat} (h : LAu a v G D) (hD : D.Nodup) (C : AV → AV) (hC : ∀ {q sz es a a'}, FrzR q sz es a a' → FrzR q sz es (C a) (C a')) : ∃ G', Wk (C v) G (C (aAu a)) G' ∧ ∀ y, y ∉ D → G' y = G y := by
  obtain ⟨x, y, z, D1, D2, D3, rfl, rfl, h1, h2, h3⟩ := h
  obtain ⟨n1, n2, n3, d12, d13, d23⟩ := nd3' hD
  obtain ⟨G1, w1, f1⟩ := LRow.frzV (e := eI) (sz := 1) (v := C (.agg [I a.states, x, y, z])) (v' := C (.agg [I a.states, Is a.first, y, z])) (by omega) (fun _ => rfl) (LPl.local eI) (LPl.frz eI) h1 n1
    (fun q _ hr => hC (.agg (.cons (.same _) (.cons hr (.cons (.same _) (.cons (.same _) .nil))))))
  have h2' := LRow.local (LPl.local eE) h2 (G' := G1) fun u hu b hb => by rw [f1 u (fun h => d12 u h hu)]; exact hb
  obtain ⟨G2, w2, f2⟩ := LRow.frzV (e := eE) (sz := 3) (v := C (.agg [I a.states, Is a.first, y, z])) (v' := C (.agg [I a.states, Is a.first, Es a.edges, z])) (by omega) (fun _ => rfl) (LPl.local eE) (LPl.frz eE) h2' n2
    (fun q _ hr => hC (.agg (.cons (.same _) (.cons (.same _) (.cons hr (.cons (.same _) .nil))))))
  have h3' := LRow.local LIc.local h3 (G' := G2) fun u hu b hb => by rw [f2 u (fun h => d23 u h hu), f1 u (fun h => d13 u h hu)]; exact hb
  obtain ⟨G3, w3, f3⟩ := LRow.frzV (e := eL) (sz := 1) (v := C (.agg [I a.states, Is a.first, Es a.edges, z])) (v' := C (aAu a)) (by omega) (fun _ => rfl) LIc.local LIc.frz h3' n3
    (fun q _ hr => hC (.agg (.cons (.same _) (.cons (.same _) (.cons (.same _) (.cons hr .nil))))))
  refine ⟨G3, .trans w1 (.trans w2 w3), fun u hu => ?_⟩
  simp only [List.mem_append, not_or] at hu
  rw [f3 u hu.2.2, f2 u hu.2.1, f1 u hu.1]

end Go.Proofs.YtdnfiacjoghfkaaGreat
/- Specs: rows of numbers laid one behind the other, moved, copied. -/
namespace Go.Proofs.YtdnfiacjoghfkaaGreat
open Go Go.Sep Go.Pt
set_option linter.unusedSimpArgs false
set_option linter.unusedVariables false
attribute [local irreducible] CallT

theorem cI_len (xs : List Int) : (cP fI xs).length = xs.length := by simp [cP]
theorem cI_app (xs ys : List Int) : cP fI (xs ++ ys) = cP fI xs ++ cP fI ys := by simp [cP]
theorem app_intsX {q : Nat} {xs ys : List Int} {ex : List AV} {G : Heap} {K : AV → Heap → Prop} (hq : G q = some (cP fI xs ++ ex)) (hl : xs.length + ys.length ≤ 1000000000)
    (h : ∀ q', G q' = none → q' ≠ q → K (rowP q' (xs ++ ys)) ((G.del q).set q' (cP fI (xs ++ ys)))) : appendV tab 29 29 (rowP q xs) (Is ys) G (wkK K) := by
  have hlen := cI_len xs
  simp only [appendV, tab_29, tab_3, srcV, baseV, hq]
  have e2 : List.map AV.p (List.map eI ys).flatten = cP fI ys := flat_P fI ys
  refine ⟨szI ys, trivial, by rw [List.length_append, hlen]; omega, by simp only [List.length_map]; omega, by simp only [List.length_map]; omega, cells_cell _, fun q' hq' => wkK.keep ?_⟩
  have hne : q' ≠ q := fun e => by rw [e, hq] at hq'; cases hq'
  have := h q' hq' hne
  have e : List.take (xs.length * 1) (List.drop 0 (cP fI xs ++ ex)) = cP fI xs := by rw [List.drop_zero, Nat.mul_one, ← hlen, List.take_left]
  rw [e, e2, List.length_map]
  rw [cI_app] at this
  simpa only [rowP, List.length_append] using this
theorem app_topI {q : Nat} {xs ys : List Int} {G : Heap} {K : AV → Heap → Prop} (hq : G q = none) (hl : xs.length + ys.length ≤ 1000000) (h : ∀ q', G q' = none → K (rowP q' (xs ++ ys)) (G.set q' (cP fI (xs ++ ys)))) :
    appendV tab 29 29 (rowP q xs) (Is ys) (G.set q (cP fI xs)) (wkK K) :=
  app_intsX (ex := []) (by rw [Heap.set_same, List.append_nil]) (by omega) fun q' hq' hne => by
    rw [Heap.del_set hq]
    rw [Heap.set_none] at hq'
    exact h q' hq'.2
theorem push_topI {q : Nat} {xs : List Int} {b : Int} {G : Heap} {K : AV → Heap → Prop} (hq : G q = none) (hl : xs.length ≤ 100000) (h : ∀ q', G q' = none → K (rowP q' (xs ++ [b])) (G.set q' (cP fI (xs ++ [b])))) :
    buildSliceV tab 29 1 [(0, I b)] (G.set q (cP fI xs)) (wkK fun v H1 => appendV tab 29 29 (rowP q xs) v H1 (wkK K)) := by
  refine lit1 tab_29 rfl tab_3 ⟨rfl, rfl⟩ ?_
  exact app_topI (ys := [b]) hq (by simp; omega) h
def below (n : Nat) : List Int := (List.range n).map fun (i : Nat) => (i : Int)
/-- Numbers that are not great. -/
def smI (l : List Int) : Prop := l.length ≤ 10000 ∧ ∀ x ∈ l, 0 ≤ x ∧ x ≤ 100000

theorem fin_int {q : Nat} {xs : List Int} {H G : Heap} (hq : H q = none) (hG : Heap.le (H.set q (cP fI xs)) G) : wkK (fun r H' => r = Is xs ∧ H' = H) (rowP q xs) G := by
  have := fin_own (sz := 1) (es := xs.map eI) (q := q) (H := H) (H' := G) (K := fun r H' => r = Is xs ∧ H' = H) (by omega) (szI _) hq (by
    have e : cells (xs.map eI) = cP fI xs := cells_P fI xs
    rw [e]; exact hG) ⟨rfl, rfl⟩
  simpa only [Go.Sep.own, List.length_map] using this

theorem l1Has_spec (l : List Int) (x : Int) (hl : l.length ≤ 1048576) : Pu Tryz.prog 86 [Is l, I x] (B (decide (x ∈ l))) := by
  refine Pu.of fun H => ?_
  refine W86_ok ?_; simp (maxSteps := 1000000) (disch := first | assumption | (apply Ne.symm; assumption)) only [W86, vz, vu, vv, eqS, eqFieldsV, ↓condV_t, ↓condV_f, tabs, reduceCtorEq, Array.toList, ↓reduceIte, Nat.reduceAdd, Nat.reduceLeDiff, Nat.reduceLT, Nat.reduceMul, Nat.reduceSub, Int.reduceToNat, Int.reduceSub, Int.reduceAdd, Int.reduceNeg]
  refine L86_0_rule (0 : Nat) (fun i => I i) (fun _ => H) (fun i => i ≤ l.length ∧ ∀ j, j < i → l.getD j default ≠ x) (fun i => l.length - i) ⟨⟨by omega, by intros; omega⟩, .refl _, Heap.le_refl _⟩ ?_
  rintro i ⟨hi, ha⟩
  (try simp (maxSteps := 1000000) (disch := first | assumption | (apply Ne.symm; assumption)) only [vz, vu, vv, eqS, eqFieldsV, ↓condV_t, ↓condV_f, tabs, reduceCtorEq, Array.toList, ↓reduceIte, Nat.reduceAdd, Nat.reduceLeDiff, Nat.reduceLT, Nat.reduceMul, Nat.reduceSub, Int.reduceToNat, Int.reduceSub, Int.reduceAdd, Int.reduceNeg, B86_0])
  refine ⟨fun h1 => ⟨by omega, h1, fun h2 => ?_, fun h2 => ⟨i + 1, ⟨by omega, fun j hj => ?_⟩, by omega, ?_⟩⟩, fun h1 => ?_⟩
  · have hlt : i < l.length := by omega
    have hm : x ∈ l := by rw [← h2]; exact getD_all (p := fun x => x ∈ l) (fun _ h => h) hlt
    rw [decide_eq_true hm]
  · rcases Nat.lt_succ_iff_lt_or_eq.1 hj with h | rfl
    · exact ha j h
    · exact h2
  · rw [wk_int, i64_id (by omega) (by omega)]; simp
  · have hm : x ∉ l := by
      intro hm
      obtain ⟨j, hj, e⟩ := List.mem_iff_getElem.1 hm
      exact ha j (by omega) (by rw [getD_lt hj]; exact e)
    rw [decide_eq_false hm]

end Go.Proofs.YtdnfiacjoghfkaaGreat
/- Specs: states in which a condition holds. -/
namespace Go.Proofs.YtdnfiacjoghfkaaGreat
open Go Go.Sep Go.Pt
set_option linter.unusedSimpArgs false
set_option linter.unusedVariables false
attribute [local irreducible] CallT

theorem push_intR {q : Nat} {xs : List Int} {b : Int} {G : Heap} {K : AV → Heap → Prop} (hq : G q = some (cP fI xs)) (hl : xs.length ≤ 100000000)
    (h : ∀ q', G q' = none → q' ≠ q → K (rowP q' (xs ++ [b])) ((G.del q).set q' (cP fI (xs ++ [b])))) :
    buildSliceV tab 29 1 [(0, I b)] G (wkK fun v H1 => appendV tab 29 29 (rowP q xs) v H1 (wkK K)) := by
  refine lit1 tab_29 rfl tab_3 ⟨rfl, rfl⟩ ?_
  refine app_row (f := fI) (ys := [b]) tab_29 rfl tab_3 rfl (by decide) hq (by simp; omega) fun q' hq' => h q' hq' fun e => by rw [e, hq] at hq'; cases hq'
/-- The first n states in which a condition holds. -/
def whN (p : Pg) (t : List Nd) (n : Nat) : List Int := ((List.range n).filter (holdP p t)).map fun (i : Nat) => (i : Int)
theorem whN_succ (p : Pg) (t : List Nd) (n : Nat) : whN p t (n + 1) = if holdP p t n = true then whN p t n ++ [(n : Int)] else whN p t n := by
  unfold whN
  rw [List.range_succ, List.filter_append, List.map_append]
  by_cases h : holdP p t n = true
  · have e : [n].filter (holdP p t) = [n] := by rw [List.filter_cons_of_pos (by exact h)]; rfl
    rw [if_pos h, e]; rfl
  · have e : [n].filter (holdP p t) = [] := by rw [List.filter_cons_of_neg (by exact h)]; rfl
    rw [if_neg h, e]; simp
theorem whN_len (p : Pg) (t : List Nd) (n : Nat) : (whN p t n).length ≤ n := by
  unfold whN
  rw [List.length_map]
  have := List.length_filter_le (holdP p t) (List.range n)
  simpa using this
theorem whN_mem {p : Pg} {t : List Nd} {n : Nat} (x : Int) : x ∈ whN p t n ↔ ∃ i : Nat, x = i ∧ i < n ∧ holdP p t i = true := by
  unfold whN
  rw [List.mem_map]
  constructor
  · rintro ⟨i, hi, rfl⟩
    rw [List.mem_filter, List.mem_range] at hi
    exact ⟨i, rfl, hi⟩
  · rintro ⟨i, rfl, hi⟩
    exact ⟨i, by rw [List.mem_filter, List.mem_range]; exact hi, rfl⟩
theorem statesP_nat {p : Pg} (hs : SmallP p) : statesP p = (allP p : Nat) := by
  unfold statesP allP; rw [powI]
theorem l8Those_spec (p : Pg) (hb : smallP p = true) (t : List Nd) (ht : vT t) (hk : kind p.wide p.vars t = 2) : Pu Tryz.prog 66 [aPg p, Ns t] (Is (whN p t (allP p))) := by
  have hs := smallP_of hb
  have hal := allP_bd hs
  have hsp := statesP_nat hs
  refine ⟨fun H => CallT.fin ?_⟩
  refine CallT.ghost W66_hb fun q0 hq0 => ?_
  refine W66_ok ?_; simp (maxSteps := 1000000) (disch := first | assumption | (apply Ne.symm; assumption)) only [W66, vz, vu, vv, eqS, eqFieldsV, ↓condV_t, ↓condV_f, tabs, reduceCtorEq, Array.toList, ↓reduceIte, Nat.reduceAdd, Nat.reduceLeDiff, Nat.reduceLT, Nat.reduceMul, Nat.reduceSub, Int.reduceToNat, Int.reduceSub, Int.reduceAdd, Int.reduceNeg]
  intro r hrq hr
  refine L66_0_rule ((0 : Nat), q0) (fun z => rowP z.2 (whN p t z.1)) (fun z => I z.1) (fun z => (H.set r [I p.wide, I p.vars, Ns p.start, Cms p.cmds]).set z.2 (cP fI (whN p t z.1))) (fun z => z.1 ≤ allP p ∧ H z.2 = none ∧ z.2 ≠ r) (fun z => allP p - z.1)
    ⟨⟨by omega, hq0, fun e => hrq e.symm⟩, .nilo _ _ _, .refl _, ?_⟩ ?_
  · rw [Heap.set_comm hrq]; exact Heap.le_refl _
  rintro ⟨i, q⟩ ⟨hi, hq, hqr⟩
  dsimp only at hi hq hqr
  have nn : r ≠ q := Ne.symm hqr
  have hsl := whN_len p t i
  have hsucc := whN_succ p t i
  have e5 : IntKind.i64.wrap ((i : Int) + 1) = ((i + 1 : Nat) : Int) := by rw [i64_id (by omega) (by omega)]; simp
  (try simp (maxSteps := 1000000) (disch := first | assumption | (apply Ne.symm; assumption)) only [vz, vu, vv, eqS, eqFieldsV, ↓condV_t, ↓condV_f, tabs, reduceCtorEq, Array.toList, ↓reduceIte, Nat.reduceAdd, Nat.reduceLeDiff, Nat.reduceLT, Nat.reduceMul, Nat.reduceSub, Int.reduceToNat, Int.reduceSub, Int.reduceAdd, Int.reduceNeg, B66_0])
  refine Pu.use (l7Many_spec p hb) ?_
  rw [hsp]
  (try simp (maxSteps := 1000000) (disch := first | assumption | (apply Ne.symm; assumption)) only [vz, vu, vv, eqS, eqFieldsV, ↓condV_t, ↓condV_f, tabs, reduceCtorEq, Array.toList, ↓reduceIte, Nat.reduceAdd, Nat.reduceLeDiff, Nat.reduceLT, Nat.reduceMul, Nat.reduceSub, Int.reduceToNat, Int.reduceSub, Int.reduceAdd, Int.reduceNeg])
  refine ⟨fun h1 => ?_, fun h1 => ?_⟩
  · have hlt : i < allP p := by omega
    refine Pu.use (l7Of_spec p hs i (by omega)) ?_
    (try simp (maxSteps := 1000000) (disch := first | assumption | (apply Ne.symm; assumption)) only [vz, vu, vv, eqS, eqFieldsV, ↓condV_t, ↓condV_f, tabs, reduceCtorEq, Array.toList, ↓reduceIte, Nat.reduceAdd, Nat.reduceLeDiff, Nat.reduceLT, Nat.reduceMul, Nat.reduceSub, Int.reduceToNat, Int.reduceSub, Int.reduceAdd, Int.reduceNeg])
    refine Pu.use (l7Holds_spec p hs t ht _ (stP_len' _ _) (stP_lt' _ _) hk) ?_
    (try simp (maxSteps := 1000000) (disch := first | assumption | (apply Ne.symm; assumption)) only [vz, vu, vv, eqS, eqFieldsV, ↓condV_t, ↓condV_f, tabs, reduceCtorEq, Array.toList, ↓reduceIte, Nat.reduceAdd, Nat.reduceLeDiff, Nat.reduceLT, Nat.reduceMul, Nat.reduceSub, Int.reduceToNat, Int.reduceSub, Int.reduceAdd, Int.reduceNeg, e5])
    refine ⟨fun h2 => ?_, fun h2 => ?_⟩
    · rw [if_pos (by exact decide_eq_true h2)] at hsucc
      refine push_intR (xs := whN p t i) (by rw [Heap.set_same]) (by omega) fun q' hq' hne => ?_
      simp only [Heap.set_none] at hq'
      obtain ⟨p1, p2, p3⟩ := hq'
      rw [← hsucc]
      refine ⟨(i + 1, q'), ⟨by simp only; omega, p3, p2⟩, by simp only; omega, .refl _, .refl _, ?_⟩
      generalize cP fI (whN p t (i + 1)) = zz
      (intro y b hy; simp only [Heap.set, Heap.del] at hy ⊢; (repeat' split at hy) <;> (repeat' split) <;> simp_all [cells])
    · rw [if_neg (by simpa [holdP] using h2)] at hsucc
      refine ⟨(i + 1, q), ⟨by simp only; omega, hq, hqr⟩, by simp only; omega, ?_, .refl _, ?_⟩
      · rw [hsucc]; exact .refl _
      · rw [hsucc]; exact Heap.le_refl _
  · have hi' : i = allP p := by omega
    subst hi'
    exact fin_int hq (Heap.set_le (Heap.le_set hr))

/-! ### The graph -/
end Go.Proofs.YtdnfiacjoghfkaaGreat
/- Plain facts: keys numbered by their first places. -/
namespace Go.Pt
section
variable {α β : Type} [DecidableEq α] [DecidableEq β]
def newAt (k : Nat → α) (j : Nat) : Bool := (List.range j).all fun i => decide (k i ≠ k j)
theorem newAt_iff {k : Nat → α} {j : Nat} : newAt k j = true ↔ ∀ i, i < j → k i ≠ k j := by simp [newAt, List.all_eq_true]
def cntN (k : Nat → α) : Nat → Nat
  | 0 => 0
  | n + 1 => if newAt k n then cntN k n + 1 else cntN k n
theorem cntN_mono (k : Nat → α) {i j : Nat} (h : i ≤ j) : cntN k i ≤ cntN k j := by
  induction j with
  | zero => have : i = 0 := by omega
            subst this; exact Nat.le_refl _
  | succ j ih =>
    by_cases e : i = j + 1
    · subst e; exact Nat.le_refl _
    · have := ih (by omega)
      simp only [cntN]; split <;> omega
theorem cntN_le (k : Nat → α) (n : Nat) : cntN k n ≤ n := by
  induction n with
  | zero => exact Nat.le_refl _
  | succ n ih => simp only [cntN]; split <;> omega
theorem cntN_lt (k : Nat → α) {i j : Nat} (hi : newAt k i = true) (h : i < j) : cntN k i < cntN k j := by
  have h1 : cntN k (i + 1) = cntN k i + 1 := by simp [cntN, hi]
  have h2 := cntN_mono k (show i + 1 ≤ j from h)
  omega
def fstN (k : Nat → α) (i : Nat) : Nat := (List.range (i + 1)).findIdx fun j => decide (k j = k i)
theorem fstN_spec (k : Nat → α) (i : Nat) : fstN k i ≤ i ∧ k (fstN k i) = k i ∧ ∀ j, j < fstN k i → k j ≠ k i := by
  have hlt : fstN k i < (List.range (i + 1)).length := List.findIdx_lt_length_of_exists ⟨i, by simp, by simp⟩
  have hle : fstN k i ≤ i := by simp at hlt; omega
  have h1 := List.findIdx_getElem (w := hlt)
  refine ⟨hle, ?_, fun j hj => ?_⟩
  · have h2 : (fun j => decide (k j = k i)) ((List.range (i + 1))[fstN k i]'hlt) = true := h1
    simpa using h2
  · have h2 := List.not_of_lt_findIdx (p := fun j => decide (k j = k i)) (xs := List.range (i + 1)) (i := j) hj
    simpa using h2
theorem fstN_new (k : Nat → α) (i : Nat) : newAt k (fstN k i) = true := by
  obtain ⟨h1, h2, h3⟩ := fstN_spec k i
  rw [newAt_iff]; intro j hj; rw [h2]; exact h3 j hj
theorem fstN_eq {k : Nat → α} {i f : Nat} (h1 : f ≤ i) (h2 : k f = k i) (h3 : ∀ j, j < f → k j ≠ k i) : fstN k i = f := by
  obtain ⟨a1, a2, a3⟩ := fstN_spec k i
  rcases Nat.lt_trichotomy (fstN k i) f with h | h | h
  · exact absurd a2 (h3 _ h)
  · exact h
  · exact absurd h2 (a3 _ h)
theorem fstN_self {k : Nat → α} {i : Nat} (h : newAt k i = true) : fstN k i = i := fstN_eq (Nat.le_refl _) rfl (newAt_iff.1 h)
theorem fstN_same {k : Nat → α} {i j : Nat} (h : k i = k j) : fstN k i = fstN k j := by
  obtain ⟨a1, a2, a3⟩ := fstN_spec k j
  obtain ⟨b1, b2, b3⟩ := fstN_spec k i
  by_cases hle : fstN k j ≤ i
  · exact fstN_eq hle (a2.trans h.symm) fun m hm => by rw [h]; exact a3 m hm
  · exact absurd h (a3 i (by omega))
/-- The number of the key at place i. -/
def numN (k : Nat → α) (i : Nat) : Nat := cntN k (fstN k i)
theorem numN_new {k : Nat → α} {i : Nat} (h : newAt k i = true) : numN k i = cntN k i := by rw [numN, fstN_self h]
theorem numN_same {k : Nat → α} {i j : Nat} (h : k i = k j) : numN k i = numN k j := by rw [numN, numN, fstN_same h]
theorem numN_iff {k : Nat → α} {i j : Nat} : numN k i = numN k j ↔ k i = k j := by
  refine ⟨fun h => ?_, numN_same⟩
  obtain ⟨a1, a2, a3⟩ := fstN_spec k i
  obtain ⟨b1, b2, b3⟩ := fstN_spec k j
  unfold numN at h
  rcases Nat.lt_trichotomy (fstN k i) (fstN k j) with hl | he | hl
  · have := cntN_lt k (fstN_new k i) hl; omega
  · rw [← a2, ← b2, he]
  · have := cntN_lt k (fstN_new k j) hl; omega
theorem numN_lt (k : Nat → α) {i n : Nat} (h : i < n) : numN k i < cntN k n := by
  have := (fstN_spec k i).1
  exact cntN_lt k (fstN_new k i) (by omega)
theorem not_new {k : Nat → α} {i : Nat} (h : newAt k i = false) : fstN k i < i := by
  have h1 := (fstN_spec k i).1
  rcases Nat.lt_or_eq_of_le h1 with h2 | h2
  · exact h2
  · have := fstN_new k i; rw [h2, h] at this; cases this
/-- Numbers hang on which keys are alike alone. -/
theorem newAt_ext {k : Nat → α} {k' : Nat → β} {n : Nat} (h : ∀ i j, i < n → j < n → (k i = k j ↔ k' i = k' j)) {i : Nat} (hi : i < n) : newAt k i = newAt k' i := by
  rw [Bool.eq_iff_iff, newAt_iff, newAt_iff]
  constructor <;> intro h2 j hj e
  · exact h2 j hj ((h j i (by omega) hi).2 e)
  · exact h2 j hj ((h j i (by omega) hi).1 e)
theorem cntN_ext {k : Nat → α} {k' : Nat → β} {n : Nat} (h : ∀ i j, i < n → j < n → (k i = k j ↔ k' i = k' j)) : ∀ {m : Nat}, m ≤ n → cntN k m = cntN k' m
  | 0, _ => rfl
  | m + 1, hm => by simp only [cntN, newAt_ext h (show m < n by omega), cntN_ext h (show m ≤ n by omega)]
theorem numN_ext {k : Nat → α} {k' : Nat → β} {n : Nat} (h : ∀ i j, i < n → j < n → (k i = k j ↔ k' i = k' j)) {i : Nat} (hi : i < n) : numN k i = numN k' i := by
  obtain ⟨a1, a2, a3⟩ := fstN_spec k i
  have hf : fstN k' i = fstN k i := fstN_eq a1 ((h _ _ (by omega) hi).1 a2) fun j hj e => a3 j hj ((h _ _ (by omega) hi).2 e)
  rw [numN, numN, hf]
  exact cntN_ext h (by omega)
end

/-- The numbers of n keys. -/
def numL {α : Type} [DecidableEq α] (k : Nat → α) (n : Nat) : List Int := (List.range n).map fun i => (numN k i : Int)
theorem numL_len {α : Type} [DecidableEq α] (k : Nat → α) (n : Nat) : (numL k n).length = n := by simp [numL]
theorem numL_succ {α : Type} [DecidableEq α] (k : Nat → α) (n : Nat) : numL k (n + 1) = numL k n ++ [(numN k n : Int)] := by simp [numL, List.range_succ]
theorem numL_get {α : Type} [DecidableEq α] (k : Nat → α) {n i : Nat} (h : i < n) : (numL k n).getD i default = numN k i := by simp [numL, List.getD, h]
theorem numL_ext {α β : Type} [DecidableEq α] [DecidableEq β] {k : Nat → α} {k' : Nat → β} {n : Nat} (h : ∀ i j, i < n → j < n → (k i = k j ↔ k' i = k' j)) : numL k n = numL k' n := by
  unfold numL
  refine List.map_congr_left fun i hi => ?_
  rw [numN_ext h (List.mem_range.1 hi)]
end Go.Pt
/- The walk of impl.numbered: a map from keys to numbers that the call makes and keeps to itself, and a row of numbers that it hands back. -/
namespace Go.Proofs.YtdnfiacjoghfkaaGreat.Nmb
open Go Go.RowKit Go.Maps Go.Pt
set_option linter.unusedVariables false
set_option linter.unusedSimpArgs false

theorem law : Keyed Tryz.prog 67 := Keyed.of_law (deep_law_laid (by kernel_rfl) (m := 2) (by omega) (of_decide_eq_true (by kernel_rfl)) (by kernel_rfl) (by rw [Tryz.underlying67]))
abbrev kv (x : Int × Int) : Value := .agg #[.int .i64 x.1, .int .i64 x.2]
def i64 (n : Int) : Prop := (Lit.int .i64 n).wf = true
def ok2 (x : Int × Int) : Prop := i64 x.1 ∧ i64 x.2
theorem laidK : Tryz.prog.keyType 67 = true := by kernel_rfl
theorem cells2 : Tryz.prog.cellsOf 67 = 2 := by kernel_rfl
theorem cells1 : Tryz.prog.cellsOf 3 = 1 := by kernel_rfl
theorem sizeT : ∃ d, Tryz.prog.types.size + 1 = d + 2 := ⟨Tryz.prog.types.size - 1, by
  have : 1 ≤ Tryz.prog.types.size := by
    have : decide (1 ≤ Tryz.prog.types.size) = true := by kernel_rfl
    exact of_decide_eq_true this
  omega⟩
theorem lits2 (d : Nat) {x : Int × Int} (h : ok2 x) : Tryz.prog.keyLits (d + 2) 67 [.int .i64 x.1, .int .i64 x.2] = some [.int .i64 x.1, .int .i64 x.2] := by
  have h1 := h.1
  have h2 := h.2
  unfold i64 at h1 h2
  have e1 : ∀ n, (Lit.int .i64 n).wf = true → Tryz.prog.keyLits (d + 1) 3 [.int .i64 n] = some [.int .i64 n] := by
    intro n hn
    simp [Program.keyLits, Tryz.underlying3, hn]
  have er : List.range 2 = [0, 1] := rfl
  have f1 := e1 _ h1
  have f2 := e1 _ h2
  have key : ∀ d1 : Nat, Tryz.prog.keyLits d1 3 [.int .i64 x.1] = some [.int .i64 x.1] → Tryz.prog.keyLits d1 3 [.int .i64 x.2] = some [.int .i64 x.2] → Tryz.prog.keyLits (d1 + 1) 67 [.int .i64 x.1, .int .i64 x.2] = some [.int .i64 x.1, .int .i64 x.2] := by
    intro d1 f1 f2
    simp [Program.keyLits, Tryz.underlying67, cells2, cells1, er, f1, f2]
  exact key (d + 1) f1 f2
theorem kv_key {x : Int × Int} (h : ok2 x) : ∃ l, keyOf Tryz.prog 67 (kv x) = some l := by
  obtain ⟨d, hd⟩ := sizeT
  have hl := lits2 d h
  have hf : Value.formed Tryz.prog 67 (kv x) = true := by simp [Value.formed, kv, Tryz.underlying67, cells2]
  refine ⟨.string (keyBytes [.int .i64 x.1, .int .i64 x.2]), ?_⟩
  unfold keyOf
  simp only [Tryz.underlying67, laidK, hf, Bool.and_self, if_true, hd]
  have ec : (kv x).cells.toList = [.int .i64 x.1, .int .i64 x.2] := rfl
  rw [ec, hl]; rfl
noncomputable def kl (x : Int × Int) : Lit := (keyOf Tryz.prog 67 (kv x)).getD (.bool false)
theorem kl_key {x : Int × Int} (h : ok2 x) : keyOf Tryz.prog 67 (kv x) = some (kl x) := by
  obtain ⟨l, hl⟩ := kv_key h
  rw [kl, hl]; rfl
attribute [local irreducible] kl
theorem kl_inj {x y : Int × Int} (hx : ok2 x) (hy : ok2 y) (h : kl x = kl y) : x = y := by
  have := law.inj (kl_key hx) (by rw [h]; exact kl_key hy)
  simp only [kv, Value.agg.injEq] at this
  have e := congrArg Array.toList this
  simp only [List.cons.injEq, Value.int.injEq, true_and, and_true] at e
  exact Prod.ext e.1 e.2

/-- What the map holds after k keys. -/
structure DK (D : DataW Unit) (ks : Nat → Int × Int) (k : Nat) : Prop where
  tidy : Maps.Tidy D
  has : ∀ x, ok2 x → (Maps.has D (kl x) = true ↔ ∃ j, j < k ∧ ks j = x)
  at_ : ∀ j, j < k → ∀ z, D.atKey (kl (ks j)) z = .lit (.int .i64 (numN ks j))
  size : Maps.size D = cntN ks k
theorem DK.zero (ks : Nat → Int × Int) : DK (.map []) ks 0 :=
  ⟨Maps.tidy_empty, fun x hx => by simp [Maps.has], fun j hj => by omega, rfl⟩
theorem DK.is_new {D : DataW Unit} {ks : Nat → Int × Int} {k : Nat} (h : DK D ks k) (hk : ok2 (ks k)) : Maps.has D (kl (ks k)) = !newAt ks k := by
  rw [Bool.eq_iff_iff, h.has _ hk]
  cases hn : newAt ks k
  · simp only [Bool.not_false, iff_true]
    obtain ⟨_, h2, _⟩ := fstN_spec ks k
    exact ⟨_, not_new hn, h2⟩
  · simp only [Bool.not_true, Bool.false_eq_true, iff_false]
    rintro ⟨j, hj, e⟩
    exact (newAt_iff.1 hn) j hj e
theorem DK.old {D : DataW Unit} {ks : Nat → Int × Int} {k : Nat} (h : DK D ks k) (hk : ok2 (ks k)) (hn : newAt ks k = false) : DK D ks (k + 1) ∧ ∀ z, D.atKey (kl (ks k)) z = .lit (.int .i64 (numN ks k)) := by
  obtain ⟨_, h2, _⟩ := fstN_spec ks k
  have hf := not_new hn
  have hat : ∀ z, D.atKey (kl (ks k)) z = .lit (.int .i64 (numN ks k)) := fun z => by
    rw [← numN_same h2, ← h2]; exact h.at_ _ hf z
  refine ⟨⟨h.tidy, fun x hx => ?_, fun j hj => ?_, ?_⟩, hat⟩
  · rw [h.has x hx]
    constructor
    · rintro ⟨j, hj, e⟩; exact ⟨j, by omega, e⟩
    · rintro ⟨j, hj, e⟩
      rcases Nat.lt_succ_iff_lt_or_eq.1 hj with h3 | rfl
      · exact ⟨j, h3, e⟩
      · exact ⟨_, hf, h2.trans e⟩
  · rcases Nat.lt_succ_iff_lt_or_eq.1 hj with h3 | rfl
    · exact h.at_ j h3
    · exact hat
  · rw [h.size]; simp [cntN, hn]
theorem DK.new {D : DataW Unit} {ks : Nat → Int × Int} {k : Nat} (h : DK D ks k) (hks : ∀ j, j ≤ k → ok2 (ks j)) (hn : newAt ks k = true) : DK (D.put (kl (ks k)) (.lit (.int .i64 (cntN ks k)))) ks (k + 1) := by
  have hk := hks k (Nat.le_refl _)
  have hlit : WideAt.IsKeyLit (kl (ks k)) := Keyed.key law (kl_key hk)
  have hnum := numN_new hn
  refine ⟨h.tidy.put hlit _, fun x hx => ?_, fun j hj z => ?_, ?_⟩
  · by_cases e : x = ks k
    · subst e
      rw [Maps.has_put_same h.tidy.isMap hlit]
      simp only [true_iff]; exact ⟨k, by omega, rfl⟩
    · rw [Maps.has_put_other (fun e2 => e (kl_inj hx hk e2)), h.has x hx]
      constructor
      · rintro ⟨j, hj, e⟩; exact ⟨j, by omega, e⟩
      · rintro ⟨j, hj, e3⟩
        rcases Nat.lt_succ_iff_lt_or_eq.1 hj with h3 | rfl
        · exact ⟨j, h3, e3⟩
        · exact absurd e3.symm e
  · rcases Nat.lt_succ_iff_lt_or_eq.1 hj with h3 | rfl
    · have hne : ks j ≠ ks k := (newAt_iff.1 hn) j h3
      rw [Maps.atKey_put_other (fun e => hne (kl_inj (hks j (by omega)) hk e))]
      exact h.at_ j h3 z
    · rw [Maps.atKey_put_same h.tidy.isMap hlit, hnum]
  · have := h.is_new hk
    rw [Maps.size_put h.tidy, this, h.size]
    simp [cntN, hn]

theorem info3 : (Tryz.prog.info? 3).map (fun i => (i.zero, i.size, i.bytes)) = some (some (.int .i64 0), 1, 8) := by kernel_rfl
theorem zero3 (w : World) : (zeroValue 3).run Tryz.prog w = .ok (.int .i64 0) w := by
  obtain ⟨i0, hi, hz0, hz1, hz2⟩ := info_parts info3
  simp [zeroValue, typeInfo, hi, hz0]
theorem heap3_0 (w : World) (a b c : Obj) : (((w.alloc a).alloc b).alloc c).heap[w.heap.size]? = some a := by
  show (((w.heap.push a).push b).push c)[w.heap.size]? = some a
  rw [Array.getElem?_push, if_neg (by simp; omega), Array.getElem?_push, if_neg (by simp), Array.getElem?_push, if_pos rfl]
theorem heap3_2 (w : World) (a b c : Obj) : (((w.alloc a).alloc b).alloc c).heap[w.heap.size + 2]? = some c := by
  show (((w.heap.push a).push b).push c)[w.heap.size + 2]? = some c
  rw [Array.getElem?_push, if_pos (by simp)]
theorem keepC {w : World} {b : Nat} {o : Obj} (h : w.heap[b]? = some o) (x : Obj) : (w.alloc x).heap[b]? = some o := by
  rw [Below.heap_alloc w x b (Array.getElem?_eq_some_iff.1 h).1]; exact h
theorem keepG {w w' : World} {row : Option Nat} {b : Nat} {o : Obj} (h : w.heap[b]? = some o) (hg : w.grownBy w' row) (hne : some b ≠ row) : w'.heap[b]? = some o :=
  (hg.block b (Array.getElem?_eq_some_iff.1 h).1 hne).trans h
theorem keepS {w : World} {b : Nat} {o : Obj} (h : w.heap[b]? = some o) {a : Addr} (ha : b ≠ a.block) (u : Value) : (w.setCell a u).heap[b]? = some o := by
  rw [Below.heap_setCell _ _ _ _ ha]; exact h
theorem mapS {w : World} {k : TypeId} {R : Value → Option (DataW Unit × List MemPlace)} {b n : Nat} {D : DataW Unit} (h : w.ownsMap Tryz.prog k R b n D) {a : Addr} (ha : b ≠ a.block) (u : Value) : (w.setCell a u).ownsMap Tryz.prog k R b n D := by
  obtain ⟨es, clock, hb, r⟩ := h
  exact ⟨es, clock, keepS hb ha u, r⟩
theorem rowNe {w : World} {base : Nat} {e : TypeId} {size : Nat} {v : Value} {n : Nat} {xs : List Value} (h : w.ownsRow base e size v n xs) {b : Nat} (hb : b < base) : some b ≠ v.ownBlock := fun e1 => by
  have := (h.lt b e1.symm).1
  omega
theorem rowSl {w : World} {base : Nat} {e : TypeId} {size : Nat} {v : Value} {n : Nat} {xs : List Value} (h : w.ownsRow base e size v n xs) : ∃ a l c, v = .slice a l c := by
  rcases h.2 with ⟨h2, _⟩ | ⟨g, cap, cur, hv, _⟩
  · exact ⟨_, _, _, h2⟩
  · exact ⟨_, _, _, hv⟩
theorem cellNew2 (w : World) (o : Obj) (x : Value) (t : TypeId) : ∀ j u, [x][j]? = some u → ((w.alloc o).alloc (.cells #[x] t)).cell? ((⟨w.heap.size + 1, 0, none⟩ : Addr).add j) = some u := by
  intro j u hj
  have := cell_one_new (w.alloc o) x t j u hj
  rw [World.size_alloc] at this
  exact this
set_option maxHeartbeats 4000000 in
set_option maxRecDepth 100000 in
theorem numbered_any (b off n cap : Nat) (ks : Nat → Int × Int) (w : World) (hlen : n ≤ 1000000) (hb : b < w.heap.size)
    (hc : ∀ j, j < n → w.cell? ⟨b, off + j * 2, none⟩ = some (.int .i64 (ks j).1) ∧ w.cell? ⟨b, off + (j * 2 + 1), none⟩ = some (.int .i64 (ks j).2)) (hks : ∀ j, j < n → ok2 (ks j)) :
    Calls Tryz.prog 36 #[.slice (some ⟨b, off, none⟩) n cap] w fun e w' => ∃ v, e = .returned (.agg #[v]) ∧ w'.ownsRow (w.heap.size + 3) 3 1 v n ((numL ks n).map (Value.int .i64)) ∧ Below w.heap.size w w' := by
  have hmm := @run_makeMap Tryz.prog
  obtain ⟨i0, hi, hz0, hz1, hz2⟩ := info_parts info3
  go_enter Tryz.func36, Tryz.ntmps36
  go_wp2
  go_loopw [13] (fun i wr => ∃ k : Nat, k ≤ n ∧ i = .int .i64 k ∧ (∃ D, DK D ks k ∧ wr.ownsMap Tryz.prog 67 (plainElem Tryz.prog 3) (w.heap.size + 1) k D) ∧
      (∃ sv, wr.heap[w.heap.size + 2]? = some (.cells #[sv] 31 (0, 0)) ∧ wr.ownsRow (w.heap.size + 3) 3 1 sv k ((numL ks k).map (Value.int .i64))) ∧ wr.heap[w.heap.size]? = some (.cells #[.slice none 0 0] 31 (0, 0)) ∧
      Below w.heap.size w wr ∧ w.heap.size + 3 ≤ wr.heap.size)
    (fun i _ => n - (intOf i).toNat)
  case atStart =>
    have b1 := Below.refl w.heap.size w
    refine ⟨0, Nat.zero_le _, rfl, ⟨.map [], DK.zero ks, ?_⟩, ⟨.slice none 0 0, ?_, World.ownsRow_nil _ _ _ _⟩, ?_, ((b1.alloc (Nat.le_refl _) _).alloc (by simp) _).alloc (by simp; omega) _, by simp⟩
    · have := World.ownsMap_made (H := Unit) (w.alloc (Obj.cells #[Value.slice none 0 0] 31)) Tryz.prog 67 (plainElem Tryz.prog 3)
      rw [World.size_alloc] at this
      exact this.alloc _
    · exact heap3_2 _ _ _ _
    · exact heap3_0 _ _ _ _
  case round =>
    obtain ⟨k, hk, rfl, ⟨D, hD, hown⟩, ⟨sv, hsv, hrow⟩, hres, hnx, hws⟩ := hrel
    obtain ⟨sva, svl, svc, rfl⟩ := rowSl hrow
    have hcx : k < n → wr.cell? ⟨b, off + k * 2, none⟩ = some (.int .i64 (ks k).1) := fun _ => (hnx.cell (by exact hb)).trans (hc k (by omega)).1
    have hcy : k < n → wr.cell? ⟨b, off + k * 2 + 1, none⟩ = some (.int .i64 (ks k).2) := fun _ => (hnx.cell (by exact hb)).trans (by rw [Nat.add_assoc]; exact (hc k (by omega)).2)
    have hsz := hD.size
    have hcnt := cntN_le ks k
    have hpe : plainElem (H := Unit) Tryz.prog 3 (.int .i64 (cntN ks k)) = some (.lit (.int .i64 (cntN ks k)), []) := plainElem_int Tryz.underlying3 (by
      simp only [Lit.wf, Bool.and_eq_true, decide_eq_true_eq]
      have e1 : IntKind.i64.min = -9223372036854775808 := by decide
      have e2 : IntKind.i64.max = 9223372036854775807 := by decide
      rw [e1, e2]
      omega)
    have hsv' : wr.heap[w.heap.size + 1 + 1]? = some (.cells #[.slice sva svl svc] 31 (0, 0)) := hsv
    have hcv : wr.cell? ⟨w.heap.size + 1 + 1, 0, none⟩ = some (.slice sva svl svc) := cell_of_one hsv'
    have hcvA : ∀ X, (wr.alloc X).cell? ⟨w.heap.size + 1 + 1, 0, none⟩ = some (.slice sva svl svc) := fun X => cell_of_one (keepC hsv' X)
    have hcr := cell_of_one hres
    have hfr := free_of_one hres
    have hne1 : some (w.heap.size + 1 + 1) ≠ (Value.slice sva svl svc).ownBlock := rowNe hrow (by omega)
    have hne2 : some (w.heap.size + 1) ≠ (Value.slice sva svl svc).ownBlock := rowNe hrow (by omega)
    have hne3 : some w.heap.size ≠ (Value.slice sva svl svc).ownBlock := rowNe hrow (by omega)
    go_wp2_with (first
      | (at_lookup; refine wpList_lookup_own_ok_int _ rfl _ _ 98 rfl 67 3 .i64 law Tryz.underlying98 Tryz.underlying3 (zero3 _) (w.heap.size + 1) k D rfl (hown.alloc _) _ _ rfl (kl_key (hks k (by assumption))) ?_; intro c hat hwc)
      | (at_len; refine wpList_len_own _ rfl _ 98 rfl 67 3 Tryz.underlying98 (plainElem (H := Unit) Tryz.prog 3) (w.heap.size + 1) k D rfl (hown.alloc _) ?_)
      | (at_mapUpdate; refine wpList_mapUpdate_own _ rfl _ _ _ 98 rfl 67 3 law Tryz.underlying98 (plainElem (H := Unit) Tryz.prog 3) (w.heap.size + 1) k D rfl (hown.alloc _) (by unfold maxLen; omega) _ _ _ rfl rfl (kl_key (hks k (by assumption))) _ [] hpe ?_; intro w1 hown1 hgrow1
         have hcv1 : w1.cell? ⟨w.heap.size + 1 + 1, 0, none⟩ = some (.slice sva svl svc) := cell_of_one (keepG (keepC hsv' _) hgrow1 (by simp)))
      | (at_builtin; refine wpList_append_own _ rfl _ _ 29 rfl (w.heap.size + 3) 3 i0 (.int .i64 0) 1 8 Tryz.underlying29 hi hz0 hz1 hz2 rfl (by decide) _ _ _ rfl (((hrow.alloc _).kept hgrow1 (Or.inr hne2.symm)).alloc _) ⟨w1.heap.size, 0, none⟩ 1 1 [.int .i64 (cntN ks k)] rfl rfl (cell_one_new _ _ _) (ints_oneCell .i64 [(cntN ks k : Int)]) (by unfold maxLen; omega) (by omega) (by have := hgrow1.size; simp at this ⊢; omega) ?_; intro v' w2 hown' hgrow2 hnil2
         obtain ⟨a', l', c', rfl⟩ := rowSl hown'
         clear hnil2
         have hv2 : w2.heap[w.heap.size + 1 + 1]? = some (.cells #[.slice sva svl svc] 31 (0, 0)) := keepG (keepC (keepG (keepC hsv' _) hgrow1 (by simp)) _) hgrow2 hne1
         have hcv2 := cell_of_one hv2
         have hfr2 := free_of_one hv2)
      | (at_builtin; refine wpList_append_own _ rfl _ _ 29 rfl (w.heap.size + 3) 3 i0 (.int .i64 0) 1 8 Tryz.underlying29 hi hz0 hz1 hz2 rfl (by decide) _ _ _ rfl ((hrow.alloc _).alloc _) ⟨wr.heap.size + 1, 0, none⟩ 1 1 [.int .i64 c] rfl rfl (cellNew2 _ _ _ _) (ints_oneCell .i64 [c]) (by unfold maxLen; omega) (by omega) (by simp; omega) ?_; intro v' w2 hown' hgrow2 hnil2
         obtain ⟨a', l', c', rfl⟩ := rowSl hown'
         clear hnil2
         have hv2 : w2.heap[w.heap.size + 1 + 1]? = some (.cells #[.slice sva svl svc] 31 (0, 0)) := keepG (keepC (keepC hsv' _) _) hgrow2 hne1
         have hcv2 := cell_of_one hv2
         have hfr2 := free_of_one hv2)
      | go_in)
    · have ht : (!Maps.has D (kl (ks k))) = true := by assumption
      have hkn : k < n := by assumption
      have hn : newAt ks k = true := by
        rw [hD.is_new (hks k hkn), Bool.not_not] at ht; exact ht
      have s1 := hgrow1.size
      have s2 := hgrow2.size
      simp only [World.size_alloc] at s1 s2
      refine ⟨⟨k + 1, by omega, by simp, ⟨_, hD.new (fun j hj => hks j (by omega)) hn, ?_⟩, ⟨_, one_setCell hv2, ?_⟩, ?_, ?_, ?_⟩, ?_⟩
      · exact mapS ((hown1.alloc _).kept hgrow2 hne2) (by simp) _
      · have := ownsRow_setCell_other hown' (a := ⟨w.heap.size + 1 + 1, 0, none⟩) (rowNe (b := w.heap.size + 1 + 1) hown' (by omega)).symm (.slice a' l' c')
        rw [numL_succ, List.map_append, numN_new hn]
        exact this
      · exact keepS (keepG (keepC (keepG (keepC hres _) hgrow1 (by simp)) _) hgrow2 hne3) (by simp; omega) _
      · refine ((((hnx.alloc (by omega) _).grown hgrow1 (by simp; omega) (fun j hj => ?_)).alloc (by omega) _).grown hgrow2 (by simp; omega) (fun j hj => ?_)).setCell (by simp; omega) _
        · cases hj; omega
        · have := (hrow.lt j hj).1; omega
      · simp [World.setCell]; omega
      · simp [intOf]; omega
    · have ht : (!Maps.has D (kl (ks k))) = false := by assumption
      have hkn : k < n := by assumption
      have hn : newAt ks k = false := by
        rw [hD.is_new (hks k hkn), Bool.not_not] at ht; exact ht
      obtain ⟨hD', hat'⟩ := hD.old (hks k hkn) hn
      have hc0 : (numN ks k : Int) = c := by
        have := hat' (.lit (.int .i64 0))
        rw [hat] at this
        injection this with this
        injection this with _ this
        exact this.symm
      have s2 := hgrow2.size
      simp only [World.size_alloc] at s2
      refine ⟨⟨k + 1, by omega, by simp, ⟨_, hD', ?_⟩, ⟨_, one_setCell hv2, ?_⟩, ?_, ?_, ?_⟩, ?_⟩
      · exact (mapS (((hown.alloc _).alloc _).kept hgrow2 hne2) (by simp) _).mono (Nat.le_succ _)
      · have := ownsRow_setCell_other hown' (a := ⟨w.heap.size + 1 + 1, 0, none⟩) (rowNe (b := w.heap.size + 1 + 1) hown' (by omega)).symm (.slice a' l' c')
        rw [numL_succ, List.map_append, hc0]
        exact this
      · exact keepS (keepG (keepC (keepC hres _) _) hgrow2 hne3) (by simp; omega) _
      · refine (((hnx.alloc (by omega) _).alloc (by simp; omega) _).grown hgrow2 (by simp; omega) (fun j hj => ?_)).setCell (by simp; omega) _
        have := (hrow.lt j hj).1; omega
      · simp [World.setCell]; omega
      · simp [intOf]; omega
    · have e : k = n := by omega
      subst e
      (try simp only [Exit.inBlock, Exit.then])
      refine bodyPost_ret (results_cell_row rfl _ _ w.heap.size 31 #[.slice sva svl svc] (0, 0) _ rfl (one_setCell hres) Tryz.underlying31 rfl (by kernel_rfl)) rfl ?_
      exact ⟨_, rfl, ownsRow_setCell_other hrow hne3.symm _, hnx.setCell (Nat.le_refl _) _⟩
end Go.Proofs.YtdnfiacjoghfkaaGreat.Nmb
/- impl.numbered, told of values: a row of its own. -/
namespace Go.Sep
open Go Go.RowKit
set_option linter.unusedVariables false

/-- A row that a call has made and handed back. -/
theorem Sim.fresh {Z : Fro} {φ : Pm} {B0 : Nat} {w0 w w' : World} {H : Heap} (s : Sim Z φ B0 w0 H w) (hb : Bel w.heap.size w w') {g : Nat} (hg : w.heap.size ≤ g) {cur : Array Value} {e : TypeId} (hc : w'.heap[g]? = some (.cells cur e (0, 0))) (C : Nat) (hC : C ≤ cur.size)
    (blk : List AV) (hl : blk.length ≤ C) (hv : ∀ (i : Nat) (av : AV), blk[i]? = some av → ∃ x, cur[i]? = some x ∧ Cv Z φ av x) :
    ∃ r φ', H r = none ∧ φ r = none ∧ Pm.le φ φ' ∧ φ' r = some ⟨g, 0, C⟩ ∧ Sim Z φ' B0 w0 (H.set r blk) w' := by
  obtain ⟨n, hn⟩ := s.bnd
  have hHn : H n = none := by
    cases hH : H n with
    | none => rfl
    | some b => obtain ⟨pl, hp, _⟩ := s.live n b hH; rw [hn n (Nat.le_refl _)] at hp; cases hp
  let φ' : Pm := fun r => if r = n then some ⟨g, 0, C⟩ else φ r
  have hle : Pm.le φ φ' := by
    intro r pl h
    have : r ≠ n := fun e => by subst e; rw [hn r (Nat.le_refl _)] at h; cases h
    simp only [φ', this, if_false]; exact h
  have hnew : φ' n = some ⟨g, 0, C⟩ := by simp [φ']
  refine ⟨n, φ', hHn, hn n (Nat.le_refl _), hle, hnew, ?_⟩
  have s' := s.later hb
  have hlt : ∀ r pl, H r ≠ none → φ r = some pl → pl.C = 0 ∨ pl.b < g := by
    intro r pl hr hp
    cases hH : H r with
    | none => exact absurd hH hr
    | some b =>
      obtain ⟨pl', hp', hl⟩ := s.live r b hH
      rw [hp] at hp'; cases hp'
      rcases hl with ⟨h, _⟩ | ⟨cur', e', h1, _⟩
      · exact .inl h
      · have := (Array.getElem?_eq_some_iff.1 h1).1
        exact .inr (by omega)
  refine ⟨s'.b0, s'.below, ⟨n + 1, ?_⟩, ?_, ?_, s'.froz, ?_⟩
  · intro r hr
    have : r ≠ n := by omega
    simp only [φ', this, if_false]; exact hn r (by omega)
  · intro r b hr
    by_cases h : r = n
    · subst h
      rw [Heap.set_same] at hr; cases hr
      refine ⟨_, hnew, .inr ⟨cur, e, hc, by simpa using hC, hl, by have := s.b0; show B0 ≤ g; omega, ?_⟩⟩
      intro i av hi
      obtain ⟨x, hx, hc⟩ := hv i av hi
      exact ⟨x, by simpa using hx, hc.mono (Fro.le_refl _) hle⟩
    · rw [Heap.set_other h] at hr
      obtain ⟨pl, hp, hl⟩ := s'.live r b hr
      exact ⟨pl, hle _ _ hp, hl.mono (Fro.le_refl _) hle⟩
  · intro r r' pl pl' hr hr' hne hp hp'
    by_cases h : r = n
    · subst h
      rw [hnew] at hp; cases hp
      have h' : r' ≠ r := fun e => hne e.symm
      rw [Heap.set_other h'] at hr'
      have hp0 : φ r' = some pl' := by simpa [φ', h'] using hp'
      rcases hlt r' pl' hr' hp0 with h0 | h0 <;> (unfold Place.sep; simp only; omega)
    · by_cases h' : r' = n
      · subst h'
        rw [hnew] at hp'; cases hp'
        rw [Heap.set_other h] at hr
        have hp0 : φ r = some pl := by simpa [φ', h] using hp
        rcases hlt r pl hr hp0 with h0 | h0 <;> (unfold Place.sep; simp only; omega)
      · rw [Heap.set_other h] at hr
        rw [Heap.set_other h'] at hr'
        exact s'.disj r r' pl pl' hr hr' hne (by simpa [φ', h] using hp) (by simpa [φ', h'] using hp')
  · intro b i v hz r pl hr hp hb'
    by_cases h : r = n
    · subst h
      rw [hnew] at hp; cases hp
      have := World.block_lt_of_cell? w ⟨b, i, none⟩ (s.froz b i v hz)
      simp only at hb' this; omega
    · rw [Heap.set_other h] at hr
      exact s'.zsep b i v hz r pl hr (by simpa [φ', h] using hp) hb'
end Go.Sep
namespace Go.Proofs.YtdnfiacjoghfkaaGreat
open Go Go.Sep Go.Pt Go.RowKit
set_option linter.unusedSimpArgs false
set_option linter.unusedVariables false

abbrev e2 (x : Int × Int) : List PV := [fI x.1, fI x.2]
abbrev kN (zs : List (Int × Int)) : Nat → Int × Int := fun j => zs.getD j default
def i64R (n : Int) : Prop := -9223372036854775808 ≤ n ∧ n ≤ 9223372036854775807
theorem i64_R {n : Int} (h : i64R n) : Nmb.i64 n := by
  unfold Nmb.i64
  simp only [Lit.wf, Bool.and_eq_true, decide_eq_true_eq]
  have e1 : IntKind.i64.min = -9223372036854775808 := by decide
  have e2 : IntKind.i64.max = 9223372036854775807 := by decide
  rw [e1, e2]; exact h
theorem numbered_hb : HasBody Tryz.prog 36 := ⟨_, bodyOf Tryz.f36, Tryz.func36, by kernel_rfl, rfl⟩
theorem numbered_spec (zs : List (Int × Int)) (hpos : 0 < zs.length) (hl : zs.length ≤ 1000000) (hz : ∀ x ∈ zs, i64R x.1 ∧ i64R x.2) {H : Heap} {K : AV → Heap → Prop}
    (h : ∀ q, H q = none → K (.agg [rowP q (numL (kN zs) zs.length)]) (H.set q (cP fI (numL (kN zs) zs.length)))) : CallT Tryz.prog 36 [.p (.sl (zs.map e2))] H K := by
  refine ⟨numbered_hb, ?_⟩
  intro B0 w0 F Z φ w xs hd hs ha
  obtain ⟨hsz, hrel⟩ := ha
  obtain ⟨x, rfl⟩ : ∃ x, xs = #[x] := by
    have h1 : xs.size = 1 := hsz
    exact ⟨xs[0], by
      apply Array.ext
      · simp [h1]
      · intro i hi1 hi2
        have : i = 0 := by simp at hi2; omega
        subst this; simp⟩
  have hx := hrel 0 _ x rfl rfl
  cases hx with
  | p hx =>
  generalize hes : zs.map e2 = es at hx
  cases hx with
  | emp a c => cases zs with
    | nil => simp at hpos
    | cons a zs => simp at hes
  | sl es sz b o c vals hc hsz2 hzz hv =>
  subst hes
  have hsz' : sz = 2 := by
    cases zs with
    | nil => simp at hpos
    | cons a zs => exact (hsz2 (e2 a) (by simp)).symm
  subst hsz'
  rw [List.length_map] at hc hzz ⊢
  have cellAt : ∀ j, j < zs.length → vals (j * 2) = .int .i64 (kN zs j).1 ∧ vals (j * 2 + 1) = .int .i64 (kN zs j).2 := by
    intro j hj
    have ej : (zs.map e2)[j]? = some (e2 (kN zs j)) := by
      rw [List.getElem?_map, List.getElem?_eq_getElem hj]; simp [kN, List.getD, hj]
    have c0 := hv j _ ej 0 _ rfl
    have c1 := hv j _ ej 1 _ rfl
    refine ⟨?_, ?_⟩
    · have e : j * 2 + 0 = j * 2 := rfl
      rw [e] at c0
      generalize vals (j * 2) = y at c0
      cases c0; rfl
    · generalize vals (j * 2 + 1) = y at c1
      cases c1; rfl
  have cellW : ∀ i, i < zs.length * 2 → w.cell? ⟨b, o + i, none⟩ = some (vals i) := fun i hi => hs.froz b (o + i) _ (hzz i hi)
  have hb : b < w.heap.size := World.block_lt_of_cell? w ⟨b, o + 0, none⟩ (cellW 0 (by omega))
  refine (Nmb.numbered_any b o zs.length c (kN zs) w hl hb (fun j hj => ⟨?_, ?_⟩) (fun j hj => ?_)).mono ?_
  · rw [cellW _ (by omega), (cellAt j hj).1]
  · rw [cellW _ (by omega), (cellAt j hj).2]
  · have hm : kN zs j ∈ zs := by
      have : kN zs j = zs[j] := by simp [kN, List.getD, hj]
      rw [this]; exact List.getElem_mem hj
    exact ⟨i64_R (hz _ hm).1, i64_R (hz _ hm).2⟩
  rintro e w' ⟨v, rfl, hrow, hbel⟩
  obtain ⟨hlen, hcase⟩ := hrow
  rcases hcase with ⟨_, h0⟩ | ⟨g, cap, cur, rfl, hg, hcur, hnc, _, hcs, htk⟩
  · omega
  have hnl := numL_len (kN zs) zs.length
  obtain ⟨q, φ', hq, _, hφ, hpl, hs'⟩ := hs.fresh (g := g) ⟨hbel, trivial⟩ (by omega) hcur cap (by omega) (cP fI (numL (kN zs) zs.length)) (by rw [cI_len]; omega) (by
    intro i av hi
    rw [List.getElem?_map] at hi
    cases hxi : (numL (kN zs) zs.length)[i]? with
    | none => rw [hxi] at hi; cases hi
    | some x =>
      rw [hxi] at hi; cases hi
      refine ⟨.int .i64 x, ?_, .p (.int _ _)⟩
      have hlt : i < zs.length := by
        have := (List.getElem?_eq_some_iff.1 hxi).1; omega
      have e1 := congrArg (fun l : List Value => l[i]?) htk
      simp only [List.getElem?_map, hxi, Option.map_some] at e1
      rw [List.getElem?_take_of_lt (by omega)] at e1
      simpa using e1)
  have hqF : F q = none := by
    cases hh : H q with
    | none => simpa [Heap.or, hh] using hq
    | some b => simp [Heap.or, hh] at hq
  have hqH : H q = none := by
    cases hh : H q with
    | none => rfl
    | some b => simp [Heap.or, hh] at hq
  refine ⟨_, rfl, .agg [rowP q (numL (kN zs) zs.length)], H.set q (cP fI (numL (kN zs) zs.length)), Z, φ', h q hqH, Fro.le_refl _, hφ, hd.set hqF, by rw [Heap.or_set]; exact hs', .agg _ _ rfl ?_⟩
  intro i av x h1 h2
  match i with
  | 0 =>
    cases h1; cases h2
    have := Cv.sl (Z := Z) (sz := 1) (off := 0) (len := zs.length) (c := cap) hpl hnc (by show 0 + cap * 1 ≤ cap; omega)
    rw [rowP, hnl]; exact this
  | i + 1 => cases h1
end Go.Proofs.YtdnfiacjoghfkaaGreat
/- Marks on changes, commands, programs and sights that own their rows. -/
namespace Go.Proofs.YtdnfiacjoghfkaaGreat
open Go Go.Sep Go.Pt
set_option linter.unusedSimpArgs false
set_option linter.unusedVariables false
attribute [local irreducible] CallT

theorem nd3 {q : Nat} {A C E : List Nat} (h : (q :: (A ++ (C ++ E))).Nodup) : (q ∉ A ∧ q ∉ C ∧ q ∉ E) ∧ (∀ y ∈ A, y ∉ C) ∧ (∀ y ∈ E, y ∉ C) ∧ A.Nodup ∧ C.Nodup ∧ E.Nodup := by
  rw [List.nodup_cons, List.nodup_append, List.nodup_append] at h
  simp only [List.mem_append, not_or] at h
  refine ⟨h.1, fun y hy hc => h.2.2.2 y hy y (.inl hc) rfl, fun y hy hc => h.2.2.1.2.2 y hc y hy rfl, h.2.1, h.2.2.1.1, h.2.2.1.2.1⟩

theorem markChangeS_live (xs : List Ch) (hl : totChs xs ≤ 1048576) {x : AV} {G : Heap} {D : List Nat} (hx : LRow LCh 2 xs x G D) (hD : D.Nodup) {k : Int} (h0 : 0 ≤ k) (hk : k ≤ 800000000) {K : AV → Heap → Prop}
    (h : ∀ k' xs' G', LRow LCh 2 xs' x G' D → xs'.length = xs.length → (∀ y, y ∉ D → G' y = G y) → k ≤ k' → k' ≤ k + 2 * totChs xs → K (I k') G') : CallT Tryz.prog 62 [x, I k] G K := by
  obtain ⟨q, cs, D', rfl, hq, hll, rfl⟩ := hx
  have hlen : xs.length ≤ 1048576 := by unfold totChs at hl; omega
  refine W62_ok ?_; simp (maxSteps := 1000000) (disch := first | assumption | (apply Ne.symm; assumption)) only [W62, vz, vu, vv, eqS, eqFieldsV, ↓condV_t, ↓condV_f, tabs, reduceCtorEq, Array.toList, ↓reduceIte, Nat.reduceAdd, Nat.reduceLeDiff, Nat.reduceLT, Nat.reduceMul, Nat.reduceSub, Int.reduceToNat, Int.reduceSub, Int.reduceAdd, Int.reduceNeg]
  refine L62_0_rule ((0 : Nat), k, G, ([] : List Ch)) (fun s => I s.2.1) (fun s => I s.1) (fun s => s.2.2.1) (fun s => (s.1 ≤ xs.length ∧ k ≤ s.2.1 ∧ s.2.1 ≤ k + 2 * (s.1 + psum totCh xs s.1)) ∧ Half LCh G q D' xs s.1 s.2.2.1 s.2.2.2) (fun s => xs.length - s.1)
    ⟨⟨⟨by simp, by simp, by simp [psum]⟩, ⟨⟨[], cs, [], D', by simpa using hq, ⟨rfl, rfl⟩, by simpa using hll, rfl⟩, rfl, fun _ _ => rfl⟩⟩, .refl _, .refl _, Heap.le_refl _⟩ ?_
  rintro ⟨i, k1, G1, done⟩ ⟨⟨hi, hk1, hk2⟩, ⟨⟨cd, cr, Dd, Dr, e1, e2, e3, e4⟩, e5, e6⟩⟩
  dsimp only at hi hk1 hk2 e1 e2 e3 e4 e5 e6
  have hps := psum_le (f := totCh) (xs := xs) i
  have htd : totChs xs = xs.length + psum totCh xs xs.length := rfl
  (try simp (maxSteps := 1000000) (disch := first | assumption | (apply Ne.symm; assumption)) only [vz, vu, vv, eqS, eqFieldsV, ↓condV_t, ↓condV_f, tabs, reduceCtorEq, Array.toList, ↓reduceIte, Nat.reduceAdd, Nat.reduceLeDiff, Nat.reduceLT, Nat.reduceMul, Nat.reduceSub, Int.reduceToNat, Int.reduceSub, Int.reduceAdd, Int.reduceNeg, B62_0])
  refine ⟨fun h5 => ?_, fun h5 => ?_⟩
  · have hlt : i < xs.length := by omega
    have hsucc := psum_succ (f := totCh) hlt
    have hps2 := psum_le (f := totCh) (xs := xs) (i + 1)
    rw [drop_cons hlt] at e3
    obtain ⟨c, c2, Di, D2, rfl, rfl, ⟨x, rfl, hx⟩, f2⟩ := e3
    have hdl : cd.length = i * 2 := by rw [LL.size LCh.size e2, e5]
    subst e4
    obtain ⟨⟨q1, q2, q3⟩, dA, dE, nA, nC, nE⟩ := nd3 hD
    have htl : totCh (xs.getD i default) = (xs.getD i default).by_.length := rfl
    generalize xs.getD i default = a at e1 hx hsucc htl
    obtain ⟨qx, rfl⟩ := LRow.sl hx
    generalize hxx : (AV.sl qx 2 0 a.by_.length) = x at e1 hx
    have e1' : G1 q = some (cd ++ (I a.var :: x :: c2)) := e1
    have p1 : ∀ z, List.take (i * 2) (cd ++ (I a.var :: x :: c2)) ++ [z] ++ List.drop (i * 2 + 1) (cd ++ (I a.var :: x :: c2)) = cd ++ (z :: x :: c2) := fun z => splice_at (c := [I a.var]) (c' := [z]) (post := x :: c2) hdl.symm rfl rfl
    have rd : ∀ z, (List.take 1 (List.drop (i * 2 + 1) (cd ++ (z :: x :: c2)))).headD AV.any = x := fun z => by
      rw [List.drop_append, hdl, List.drop_of_length_le (by omega)]; simp
    (try simp (maxSteps := 1000000) (disch := first | assumption | (apply Ne.symm; assumption)) only [vz, vu, vv, eqS, eqFieldsV, ↓condV_t, ↓condV_f, tabs, reduceCtorEq, Array.toList, ↓reduceIte, Nat.reduceAdd, Nat.reduceLeDiff, Nat.reduceLT, Nat.reduceMul, Nat.reduceSub, Int.reduceToNat, Int.reduceSub, Int.reduceAdd, Int.reduceNeg, store_at e1', p1, rd])
    refine ⟨by omega, h5, by omega, by omega, h5, by omega, ?_⟩
    rw [i64_id (n := k1 + 1) (by omega) (by omega)]
    refine markNodeS_live a.by_ (by omega) (LRow.local (LPl.local eN) hx (fun y hy b hb => by rw [Heap.set_other (ne_mem hy q2)]; exact hb)) nC (by omega) (by omega) fun k2 t' G2 hx3 hlen hfr hk3 hk4 => ?_
    have g2q : G2 q = some ((cd ++ [I k1, x]) ++ c2) := by rw [hfr q q2, Heap.set_same]; simp
    (try simp (maxSteps := 1000000) (disch := first | assumption | (apply Ne.symm; assumption)) only [vz, vu, vv, eqS, eqFieldsV, ↓condV_t, ↓condV_f, tabs, reduceCtorEq, Array.toList, ↓reduceIte, Nat.reduceAdd, Nat.reduceLeDiff, Nat.reduceLT, Nat.reduceMul, Nat.reduceSub, Int.reduceToNat, Int.reduceSub, Int.reduceAdd, Int.reduceNeg])
    refine ⟨(i + 1, k2, G2, done ++ [⟨k1, t'⟩]), ⟨⟨by simp only; omega, by simp only; omega, by simp only; omega⟩, ⟨⟨cd ++ [I k1, x], c2, Dd ++ Di, D2, g2q, ?_, ?_, by simp⟩, by simp [e5], fun y hy => ?_⟩⟩, by simp only; omega, .refl _, ?_, Heap.le_refl _⟩
    · refine LL.snoc (L := LCh) (a := ⟨k1, t'⟩) ⟨x, rfl, hx3⟩ (LL.local LCh.local e2 fun y hy b hb => ?_)
      show G2 y = _
      rw [hfr y (dA y hy), Heap.set_other (ne_mem hy q1)]; exact hb
    · refine LL.local LCh.local f2 fun y hy b hb => ?_
      show G2 y = _
      rw [hfr y (dE y hy), Heap.set_other (ne_mem hy q3)]; exact hb
    · show G2 y = _
      have hy' := hy
      simp only [List.mem_cons, List.mem_append, not_or] at hy'
      rw [hfr y hy'.2.2.1, Heap.set_other hy'.1]; exact e6 y hy
    · rw [wk_int, i64_id (by omega) (by omega)]; simp
  · have : i = xs.length := by omega
    subst this
    rw [List.drop_length] at e3
    obtain ⟨rfl, rfl⟩ := e3
    refine h _ done G1 ⟨q, cd, D', by rw [e5], by simpa using e1, by rw [e4]; simpa using e2, rfl⟩ e5 e6 hk1 (by omega)

theorem markCommandS_live (xs : List Cm) (hl : totCms xs ≤ 1048576) {x : AV} {G : Heap} {D : List Nat} (hx : LRow LCm 2 xs x G D) (hD : D.Nodup) {k : Int} (h0 : 0 ≤ k) (hk : k ≤ 700000000) {K : AV → Heap → Prop}
    (h : ∀ k' xs' G', LRow LCm 2 xs' x G' D → xs'.length = xs.length → (∀ y, y ∉ D → G' y = G y) → k ≤ k' → k' ≤ k + 2 * totCms xs → K (I k') G') : CallT Tryz.prog 39 [x, I k] G K := by
  obtain ⟨q, cs, D', rfl, hq, hll, rfl⟩ := hx
  have hlen : xs.length ≤ 1048576 := by unfold totCms at hl; omega
  refine W39_ok ?_; simp (maxSteps := 1000000) (disch := first | assumption | (apply Ne.symm; assumption)) only [W39, vz, vu, vv, eqS, eqFieldsV, ↓condV_t, ↓condV_f, tabs, reduceCtorEq, Array.toList, ↓reduceIte, Nat.reduceAdd, Nat.reduceLeDiff, Nat.reduceLT, Nat.reduceMul, Nat.reduceSub, Int.reduceToNat, Int.reduceSub, Int.reduceAdd, Int.reduceNeg]
  refine L39_0_rule ((0 : Nat), k, G, ([] : List Cm)) (fun s => I s.2.1) (fun s => I s.1) (fun s => s.2.2.1) (fun s => (s.1 ≤ xs.length ∧ k ≤ s.2.1 ∧ s.2.1 ≤ k + 2 * (s.1 + psum totCm xs s.1)) ∧ Half LCm G q D' xs s.1 s.2.2.1 s.2.2.2) (fun s => xs.length - s.1)
    ⟨⟨⟨by simp, by simp, by simp [psum]⟩, ⟨⟨[], cs, [], D', by simpa using hq, ⟨rfl, rfl⟩, by simpa using hll, rfl⟩, rfl, fun _ _ => rfl⟩⟩, .refl _, .refl _, Heap.le_refl _⟩ ?_
  rintro ⟨i, k1, G1, done⟩ ⟨⟨hi, hk1, hk2⟩, ⟨⟨cd, cr, Dd, Dr, e1, e2, e3, e4⟩, e5, e6⟩⟩
  dsimp only at hi hk1 hk2 e1 e2 e3 e4 e5 e6
  have hps := psum_le (f := totCm) (xs := xs) i
  have htd : totCms xs = xs.length + psum totCm xs xs.length := rfl
  (try simp (maxSteps := 1000000) (disch := first | assumption | (apply Ne.symm; assumption)) only [vz, vu, vv, eqS, eqFieldsV, ↓condV_t, ↓condV_f, tabs, reduceCtorEq, Array.toList, ↓reduceIte, Nat.reduceAdd, Nat.reduceLeDiff, Nat.reduceLT, Nat.reduceMul, Nat.reduceSub, Int.reduceToNat, Int.reduceSub, Int.reduceAdd, Int.reduceNeg, B39_0])
  refine ⟨fun h5 => ?_, fun h5 => ?_⟩
  · have hlt : i < xs.length := by omega
    have hsucc := psum_succ (f := totCm) hlt
    have hps2 := psum_le (f := totCm) (xs := xs) (i + 1)
    rw [drop_cons hlt] at e3
    obtain ⟨c, c2, Di, D2, rfl, rfl, ⟨x, y, E1, E2, rfl, rfl, hx, hy⟩, f2⟩ := e3
    have hdl : cd.length = i * 2 := by rw [LL.size LCm.size e2, e5]
    subst e4
    obtain ⟨⟨q1, q2, q3⟩, dA, dE, nA, nC, nE⟩ := nd3 hD
    have htl : totCm (xs.getD i default) = (xs.getD i default).when_.length + totChs (xs.getD i default).chs := rfl
    generalize xs.getD i default = a at e1 hx hy hsucc htl
    rw [List.mem_append, not_or] at q2
    rw [List.nodup_append] at nC
    obtain ⟨qx, rfl⟩ := LRow.sl hx
    obtain ⟨qy, rfl⟩ := LRow.sl hy
    generalize hxx : (AV.sl qx 2 0 a.when_.length) = x at e1 hx
    generalize hyy : (AV.sl qy 2 0 a.chs.length) = y at e1 hy
    have e1' : G1 q = some (cd ++ (x :: y :: c2)) := e1
    have rd0 : (List.take 1 (List.drop (i * 2) (cd ++ (x :: y :: c2)))).headD AV.any = x := by
      rw [List.drop_append, hdl, List.drop_of_length_le (by omega)]; simp
    have rd1 : (List.take 1 (List.drop (i * 2 + 1) (cd ++ (x :: y :: c2)))).headD AV.any = y := by
      rw [List.drop_append, hdl, List.drop_of_length_le (by omega)]; simp
    (try simp (maxSteps := 1000000) (disch := first | assumption | (apply Ne.symm; assumption)) only [vz, vu, vv, eqS, eqFieldsV, ↓condV_t, ↓condV_f, tabs, reduceCtorEq, Array.toList, ↓reduceIte, Nat.reduceAdd, Nat.reduceLeDiff, Nat.reduceLT, Nat.reduceMul, Nat.reduceSub, Int.reduceToNat, Int.reduceSub, Int.reduceAdd, Int.reduceNeg, load_at e1', rd0, rd1])
    refine ⟨by omega, h5, by omega, ?_⟩
    refine markNodeS_live a.when_ (by omega) hx nC.1 (by omega) (by omega) fun k2 t' G2 hx3 hlen2 hfr hk3 hk4 => ?_
    have g2q' : G2 q = some (cd ++ (x :: y :: c2)) := by rw [hfr q q2.1]; exact e1'
    have hy2 : LRow LCh 2 a.chs y G2 E2 := LRow.local LCh.local hy fun z hz b hb => by rw [hfr z (fun hz1 => nC.2.2 z hz1 z hz rfl)]; exact hb
    (try simp (maxSteps := 1000000) (disch := first | assumption | (apply Ne.symm; assumption)) only [vz, vu, vv, eqS, eqFieldsV, ↓condV_t, ↓condV_f, tabs, reduceCtorEq, Array.toList, ↓reduceIte, Nat.reduceAdd, Nat.reduceLeDiff, Nat.reduceLT, Nat.reduceMul, Nat.reduceSub, Int.reduceToNat, Int.reduceSub, Int.reduceAdd, Int.reduceNeg, load_at g2q', rd0, rd1])
    refine ⟨by omega, h5, by omega, ?_⟩
    refine markChangeS_live a.chs (by omega) hy2 nC.2.1 (by omega) (by omega) fun k3 xs' G3 hy3 hlen3 hfr3 hk5 hk6 => ?_
    have g3q : G3 q = some ((cd ++ [x, y]) ++ c2) := by rw [hfr3 q q2.2, g2q']; simp
    have hx4 : LN t' x G3 E1 := LRow.local (LPl.local eN) hx3 fun z hz b hb => by rw [hfr3 z (fun hz1 => nC.2.2 z hz z hz1 rfl)]; exact hb
    (try simp (maxSteps := 1000000) (disch := first | assumption | (apply Ne.symm; assumption)) only [vz, vu, vv, eqS, eqFieldsV, ↓condV_t, ↓condV_f, tabs, reduceCtorEq, Array.toList, ↓reduceIte, Nat.reduceAdd, Nat.reduceLeDiff, Nat.reduceLT, Nat.reduceMul, Nat.reduceSub, Int.reduceToNat, Int.reduceSub, Int.reduceAdd, Int.reduceNeg])
    refine ⟨(i + 1, k3, G3, done ++ [⟨t', xs'⟩]), ⟨⟨by simp only; omega, by simp only; omega, by simp only; omega⟩, ⟨⟨cd ++ [x, y], c2, Dd ++ (E1 ++ E2), D2, g3q, ?_, ?_, by simp⟩, by simp [e5], fun z hz => ?_⟩⟩, by simp only; omega, .refl _, ?_, Heap.le_refl _⟩
    · refine LL.snoc (L := LCm) (a := ⟨t', xs'⟩) ⟨x, y, E1, E2, rfl, rfl, hx4, hy3⟩ (LL.local LCm.local e2 fun z hz b hb => ?_)
      show G3 z = _
      have := dA z hz
      rw [List.mem_append, not_or] at this
      rw [hfr3 z this.2, hfr z this.1]; exact hb
    · refine LL.local LCm.local f2 fun z hz b hb => ?_
      show G3 z = _
      have := dE z hz
      rw [List.mem_append, not_or] at this
      rw [hfr3 z this.2, hfr z this.1]; exact hb
    · show G3 z = _
      have hz' := hz
      simp only [List.mem_cons, List.mem_append, not_or] at hz'
      rw [hfr3 z hz'.2.2.1.2, hfr z hz'.2.2.1.1]; exact e6 z hz
    · rw [wk_int, i64_id (by omega) (by omega)]; simp
  · have : i = xs.length := by omega
    subst this
    rw [List.drop_length] at e3
    obtain ⟨rfl, rfl⟩ := e3
    refine h _ done G1 ⟨q, cd, D', by rw [e5], by simpa using e1, by rw [e4]; simpa using e2, rfl⟩ e5 e6 hk1 (by omega)

theorem markProgram_live (p : Pg) (hl : totPg p ≤ 1048576) {v : AV} {G : Heap} {D : List Nat} (hx : LPg p v G D) (hD : D.Nodup) {k : Int} (h0 : 0 ≤ k) (hk : k ≤ 600000000) {K : AV → Heap → Prop}
    (h : ∀ k' G', (∀ y, y ∉ D → G' y = G y) → k ≤ k' → k' ≤ k + 2 * totPg p → K (I k') G') : CallT Tryz.prog 14 [v, I k] G K := by
  obtain ⟨x, y, D1, D2, rfl, rfl, h1, h2⟩ := hx
  rw [List.nodup_append] at hD
  have htd : totPg p = p.start.length + totCms p.cmds := rfl
  refine CallT.fin ?_
  refine W14_ok ?_; simp (maxSteps := 1000000) (disch := first | assumption | (apply Ne.symm; assumption)) only [W14, vz, vu, vv, eqS, eqFieldsV, ↓condV_t, ↓condV_f, tabs, reduceCtorEq, Array.toList, ↓reduceIte, Nat.reduceAdd, Nat.reduceLeDiff, Nat.reduceLT, Nat.reduceMul, Nat.reduceSub, Int.reduceToNat, Int.reduceSub, Int.reduceAdd, Int.reduceNeg]
  intro r hr
  have r1 : r ∉ D1 := fun hh => LRow.has (LPl.has eN) h1 r hh hr
  have r2 : r ∉ D2 := fun hh => LRow.has LCm.has h2 r hh hr
  have h1' : LN p.start x (G.set r [I p.wide, I p.vars, x, y]) D1 := LRow.local (LPl.local eN) h1 fun z hz b hb => by rw [Heap.set_other (ne_mem hz r1)]; exact hb
  refine markNodeS_live p.start (by omega) h1' hD.1 h0 (by omega) fun k2 t' G2 hx3 hlen2 hfr hk3 hk4 => ?_
  have g2 : G2 r = some [I p.wide, I p.vars, x, y] := by rw [hfr r r1, Heap.set_same]
  have h2' : LRow LCm 2 p.cmds y G2 D2 := LRow.local LCm.local h2 fun z hz b hb => by rw [hfr z (fun hz1 => hD.2.2 z hz1 z hz rfl), Heap.set_other (ne_mem hz r2)]; exact hb
  (try simp (maxSteps := 1000000) (disch := first | assumption | (apply Ne.symm; assumption)) only [vz, vu, vv, eqS, eqFieldsV, ↓condV_t, ↓condV_f, tabs, reduceCtorEq, Array.toList, ↓reduceIte, Nat.reduceAdd, Nat.reduceLeDiff, Nat.reduceLT, Nat.reduceMul, Nat.reduceSub, Int.reduceToNat, Int.reduceSub, Int.reduceAdd, Int.reduceNeg, load_at g2])
  refine markCommandS_live p.cmds (by omega) h2' hD.2.1 (by omega) (by omega) fun k3 xs' G3 hy3 hlen3 hfr3 hk5 hk6 => ?_
  (try simp (maxSteps := 1000000) (disch := first | assumption | (apply Ne.symm; assumption)) only [vz, vu, vv, eqS, eqFieldsV, ↓condV_t, ↓condV_f, tabs, reduceCtorEq, Array.toList, ↓reduceIte, Nat.reduceAdd, Nat.reduceLeDiff, Nat.reduceLT, Nat.reduceMul, Nat.reduceSub, Int.reduceToNat, Int.reduceSub, Int.reduceAdd, Int.reduceNeg])
  refine fin_le (H := G3.del r) (Heap.del_le _ _) (h k3 (G3.del r) (fun z hz => ?_) (by omega) (by omega))
  rw [List.mem_append, not_or] at hz
  by_cases e : z = r
  · subst e; rw [Heap.del_same, hr]
  · rw [Heap.del_other e, hfr3 z hz.2, hfr z hz.1, Heap.set_other e]

end Go.Proofs.YtdnfiacjoghfkaaGreat
/- Things that own blocks: a heap as a list of them. -/
namespace Go.Sep
open Go Go.RowKit Go.Proofs.YtdnfiacjoghfkaaGreat
set_option linter.unusedVariables false

/-- A thing that owns blocks: where, and what holds of them. -/
structure Th where
  D : List Nat
  P : Heap → Prop
  loc : ∀ {G G' : Heap}, P G → (∀ y ∈ D, ∀ b, G y = some b → G' y = some b) → P G'
  has : ∀ {G : Heap}, P G → ∀ y ∈ D, G y ≠ none
def cellT (r : Nat) (b : List AV) : Th := ⟨[r], fun G => G r = some b, fun h f => f r (List.mem_singleton.2 rfl) b h, fun h y hy => by rw [List.mem_singleton.1 hy, h]; simp⟩
/-- A heap over H that holds the things Ts, each by itself. -/
structure St (H : Heap) (Ts : List Th) (G : Heap) : Prop where
  le : Heap.le H G
  nd : (Ts.flatMap Th.D).Nodup
  fr : ∀ t ∈ Ts, ∀ y ∈ t.D, H y = none
  ok : ∀ t ∈ Ts, t.P G
theorem St.nil (H : Heap) : St H [] H := ⟨Heap.le_refl _, List.nodup_nil, fun t ht => (by cases ht), fun t ht => (by cases ht)⟩
theorem St.get {H G : Heap} {Ts : List Th} {t : Th} (s : St H Ts G) (i : Nat) (h : Ts[i]? = some t) : t.P G := s.ok t (List.mem_of_getElem? h)
theorem St.ndT {H G : Heap} {Ts : List Th} {t : Th} (s : St H Ts G) (i : Nat) (h : Ts[i]? = some t) : t.D.Nodup := by
  obtain ⟨pre, post, e⟩ := List.append_of_mem (List.mem_of_getElem? h)
  have := s.nd
  rw [e, List.flatMap_append, List.flatMap_cons, List.nodup_append, List.nodup_append] at this
  exact this.2.1.1
theorem St.push {H G G' : Heap} {Ts : List Th} (s : St H Ts G) (t : Th) (hn : New G G' t.D) (hp : t.P G') : St H (t :: Ts) G' := by
  refine ⟨Heap.le_trans s.le hn.le, ?_, ?_, ?_⟩
  · rw [List.flatMap_cons, List.nodup_append]
    refine ⟨hn.nd, s.nd, fun a ha b hb e => ?_⟩
    obtain ⟨u, hu, hbu⟩ := List.mem_flatMap.1 hb
    exact u.has (s.ok u hu) b hbu (by rw [← e]; exact hn.fr a ha)
  · intro u hu y hy
    rcases List.mem_cons.1 hu with rfl | hu
    · cases hh : H y with
      | none => rfl
      | some b => rw [← hn.fr y hy, s.le y b hh]
    · exact s.fr u hu y hy
  · intro u hu
    rcases List.mem_cons.1 hu with rfl | hu
    · exact hp
    · exact u.loc (s.ok u hu) fun y _ b hb => hn.le y b hb
theorem New.cell {G : Heap} {r : Nat} {b : List AV} (hr : G r = none) : New G (G.set r b) [r] := ⟨by simp, by simpa using hr, Heap.le_set hr⟩
theorem St.cell {H G : Heap} {Ts : List Th} (s : St H Ts G) {r : Nat} (hr : G r = none) (b : List AV) : St H (cellT r b :: Ts) (G.set r b) := s.push (cellT r b) (New.cell hr) (Heap.set_same _ _ _)
theorem St.upd {H G G' : Heap} {Ts : List Th} {t : Th} (s : St H Ts G) (i : Nat) (h : Ts[i]? = some t) (t' : Th) (hD : t'.D = t.D) (hf : ∀ y, y ∉ t.D → G' y = G y) (hp : t'.P G') : St H (Ts.set i t') G' := by
  obtain ⟨hi, hti⟩ := List.getElem?_eq_some_iff.1 h
  have e : Ts = Ts.take i ++ t :: Ts.drop (i + 1) := by rw [← hti, List.getElem_cons_drop, List.take_append_drop]
  have e' : Ts.set i t' = Ts.take i ++ t' :: Ts.drop (i + 1) := by rw [List.set_eq_take_append_cons_drop, if_pos hi]
  generalize Ts.take i = pre at e e'
  generalize Ts.drop (i + 1) = post at e e'
  rw [e']
  subst e
  have hnd := s.nd
  rw [List.flatMap_append, List.flatMap_cons] at hnd
  have hdis : ∀ u ∈ pre ++ post, ∀ y ∈ u.D, y ∉ t.D := by
    intro u hu y hy hyt
    rw [List.nodup_append, List.nodup_append] at hnd
    rcases List.mem_append.1 hu with hu | hu
    · exact hnd.2.2 y (List.mem_flatMap.2 ⟨u, hu, hy⟩) y (List.mem_append_left _ hyt) rfl
    · exact hnd.2.1.2.2 y hyt y (List.mem_flatMap.2 ⟨u, hu, hy⟩) rfl
  refine ⟨fun y b hb => ?_, by rw [List.flatMap_append, List.flatMap_cons, hD]; exact hnd, fun u hu y hy => ?_, fun u hu => ?_⟩
  · rw [hf y (fun hy => by have := s.fr t (by simp) y hy; rw [this] at hb; cases hb)]; exact s.le y b hb
  · rcases List.mem_append.1 hu with hu | hu
    · exact s.fr u (List.mem_append_left _ hu) y hy
    · rcases List.mem_cons.1 hu with rfl | hu
      · exact s.fr t (by simp) y (hD ▸ hy)
      · exact s.fr u (by simp [hu]) y hy
  · have old : ∀ u ∈ pre ++ post, u.P G' := fun u hu => u.loc (s.ok u (by
      rcases List.mem_append.1 hu with hu | hu
      · exact List.mem_append_left _ hu
      · exact List.mem_append_right _ (List.mem_cons_of_mem _ hu))) fun y hy b hb => by rw [hf y (hdis u hu y hy)]; exact hb
    rcases List.mem_append.1 hu with hu | hu
    · exact old u (List.mem_append_left _ hu)
    · rcases List.mem_cons.1 hu with rfl | hu
      · exact hp
      · exact old u (List.mem_append_right _ hu)
theorem St.drop {H G : Heap} {t : Th} {Ts : List Th} (s : St H (t :: Ts) G) : St H Ts G := ⟨s.le, (by have := s.nd; rw [List.flatMap_cons, List.nodup_append] at this; exact this.2.1), fun u hu => s.fr u (List.mem_cons_of_mem _ hu), fun u hu => s.ok u (List.mem_cons_of_mem _ hu)⟩
theorem St.perm {H G : Heap} {Ts Us : List Th} (s : St H Ts G) (h : List.Perm Ts Us) : St H Us G :=
  ⟨s.le, (h.flatMap_right _).nodup s.nd, fun t ht => s.fr t (h.mem_iff.2 ht), fun t ht => s.ok t (h.mem_iff.2 ht)⟩
theorem St.disj {H G : Heap} {t u : Th} {Ts : List Th} (s : St H (t :: u :: Ts) G) : ∀ y ∈ t.D, y ∉ u.D := by
  have := s.nd
  rw [List.flatMap_cons, List.flatMap_cons, List.nodup_append] at this
  exact fun y hy hu => this.2.2 y hy y (List.mem_append_left _ hu) rfl
theorem Th.dis : ∀ {Ts : List Th} {t u : Th} {i j : Nat}, (Ts.flatMap Th.D).Nodup → Ts[i]? = some t → Ts[j]? = some u → i < j → ∀ y ∈ t.D, y ∉ u.D
  | [], _, _, _, _, _, hi, _, _ => by simp at hi
  | a :: Ts, t, u, 0, j + 1, nd, hi, hj, _ => by
    rw [List.flatMap_cons, List.nodup_append] at nd
    simp only [List.getElem?_cons_zero, Option.some.injEq] at hi
    subst hi
    exact fun y hy hu => nd.2.2 y hy y (List.mem_flatMap.2 ⟨u, List.mem_of_getElem? (by simpa using hj), hu⟩) rfl
  | a :: Ts, t, u, i + 1, j + 1, nd, hi, hj, h => by
    rw [List.flatMap_cons, List.nodup_append] at nd
    exact Th.dis nd.2.1 (by simpa using hi) (by simpa using hj) (by omega)
theorem St.disjI {H G : Heap} {t u : Th} {Ts : List Th} (s : St H Ts G) (i j : Nat) (hi : Ts[i]? = some t) (hj : Ts[j]? = some u) (hij : i ≠ j) : ∀ y ∈ t.D, y ∉ u.D := by
  rcases Nat.lt_or_gt_of_ne hij with h | h
  · exact Th.dis s.nd hi hj h
  · exact fun y hy hu => Th.dis s.nd hj hi h y hu hy
theorem St.fresh {H G : Heap} {Ts : List Th} {t : Th} (s : St H Ts G) (i : Nat) (h : Ts[i]? = some t) {q : Nat} (hq : G q = none) : q ∉ t.D := fun hm => t.has (s.get i h) q hm hq
theorem perm_pick {α : Type} : ∀ (Ts : List α) (i : Nat) (hi : i < Ts.length), List.Perm Ts (Ts[i] :: Ts.eraseIdx i)
  | a :: Ts, 0, _ => List.Perm.refl _
  | a :: Ts, i + 1, hi => ((perm_pick Ts i (by simpa using hi)).cons a).trans (List.Perm.swap _ _ _)
theorem perm_set {α : Type} : ∀ (Ts : List α) (i : Nat) (hi : i < Ts.length) (t : α), List.Perm (Ts.set i t) (t :: Ts.eraseIdx i)
  | a :: Ts, 0, _, _ => List.Perm.refl _
  | a :: Ts, i + 1, hi, t => ((perm_set Ts i (by simpa using hi) t).cons a).trans (List.Perm.swap _ _ _)
theorem sub_flat {α β : Type} {f : α → List β} {l m : List α} (h : List.Sublist l m) : List.Sublist (l.flatMap f) (m.flatMap f) := by
  induction h with
  | slnil => exact List.Sublist.refl _
  | cons a _ ih => rw [List.flatMap_cons]; exact ih.trans (List.sublist_append_right _ _)
  | cons_cons a _ ih => rw [List.flatMap_cons, List.flatMap_cons]; exact List.Sublist.append_left ih _
theorem St.pick {H G : Heap} {Ts : List Th} {t : Th} (s : St H Ts G) (i : Nat) (h : Ts[i]? = some t) : St H (t :: Ts.eraseIdx i) G := by
  obtain ⟨hi, rfl⟩ := List.getElem?_eq_some_iff.1 h
  exact s.perm (perm_pick Ts i hi)
/-- Some things turn into others. -/
theorem St.step {H G G' : Heap} {old rest : List Th} (s : St H (old ++ rest) G) (new : List Th) (hnd : (new.flatMap Th.D).Nodup) (hfr : ∀ t ∈ new, ∀ y ∈ t.D, (∃ u ∈ old, y ∈ u.D) ∨ G y = none)
    (hf : ∀ y b, G y = some b → (∀ u ∈ old, y ∉ u.D) → G' y = some b) (hp : ∀ t ∈ new, t.P G') : St H (new ++ rest) G' := by
  have hs := s.nd
  rw [List.flatMap_append, List.nodup_append] at hs
  have hdis : ∀ u ∈ rest, ∀ y ∈ u.D, ∀ t ∈ old, y ∉ t.D := fun u hu y hy t ht hyt => hs.2.2 y (List.mem_flatMap.2 ⟨t, ht, hyt⟩) y (List.mem_flatMap.2 ⟨u, hu, hy⟩) rfl
  refine ⟨fun y b hb => ?_, ?_, fun u hu y hy => ?_, fun u hu => ?_⟩
  · refine hf y b (s.le y b hb) fun u hu hy => ?_
    rw [s.fr u (List.mem_append_left _ hu) y hy] at hb; cases hb
  · rw [List.flatMap_append, List.nodup_append]
    refine ⟨hnd, hs.2.1, fun a ha b hb e => ?_⟩
    subst e
    obtain ⟨t, ht, hat⟩ := List.mem_flatMap.1 ha
    obtain ⟨u, hu, hau⟩ := List.mem_flatMap.1 hb
    rcases hfr t ht a hat with ⟨v, hv, hav⟩ | hn
    · exact hdis u hu a hau v hv hav
    · exact u.has (s.ok u (List.mem_append_right _ hu)) a hau hn
  · rcases List.mem_append.1 hu with hu | hu
    · rcases hfr u hu y hy with ⟨v, hv, hav⟩ | hn
      · exact s.fr v (List.mem_append_left _ hv) y hav
      · cases hh : H y with
        | none => rfl
        | some b => rw [← hn, s.le y b hh]
    · exact s.fr u (List.mem_append_right _ hu) y hy
  · rcases List.mem_append.1 hu with hu | hu
    · exact hp u hu
    · exact u.loc (s.ok u (List.mem_append_right _ hu)) fun y hy b hb => hf y b hb (hdis u hu y hy)
theorem St.repl {H G G' : Heap} {Ts : List Th} {t : Th} (s : St H Ts G) (i : Nat) (h : Ts[i]? = some t) (t' : Th) (hnd : t'.D.Nodup) (hfr : ∀ y ∈ t'.D, y ∈ t.D ∨ G y = none)
    (hf : ∀ y b, G y = some b → y ∉ t.D → G' y = some b) (hp : t'.P G') : St H (Ts.set i t') G' := by
  obtain ⟨hi, -⟩ := List.getElem?_eq_some_iff.1 h
  have := St.step (old := [t]) (s.pick i h) [t'] (by simpa using hnd) (fun u hu y hy => by
    rw [List.mem_singleton] at hu; subst hu
    rcases hfr y hy with h1 | h1
    · exact .inl ⟨t, by simp, h1⟩
    · exact .inr h1) (fun y b hb hy => hf y b hb (hy t (by simp))) (fun u hu => by rw [List.mem_singleton] at hu; subst hu; exact hp)
  exact this.perm (perm_set Ts i hi t').symm
/-- A block moved on with another content: an append. -/
theorem St.moved {H G : Heap} {Ts : List Th} {q q' : Nat} {b c : List AV} (s : St H Ts G) (i : Nat) (h : Ts[i]? = some (cellT q b)) (hq : G q' = none) : St H (Ts.set i (cellT q' c)) ((G.del q).set q' c) := by
  have hg : G q = some b := s.get i h
  refine s.repl i h (cellT q' c) (by simp [cellT]) (fun y hy => ?_) (fun y bb hb hy => ?_) (Heap.set_same _ _ _)
  · simp only [cellT, List.mem_singleton] at hy; subst hy; exact .inr hq
  · simp only [cellT, List.mem_singleton] at hy
    rw [Heap.set_other (fun e => by rw [e, hq] at hb; cases hb), Heap.del_other hy]; exact hb
/-- A block written over. -/
theorem St.put {H G : Heap} {Ts : List Th} {q : Nat} {b : List AV} (s : St H Ts G) (i : Nat) (h : Ts[i]? = some (cellT q b)) (c : List AV) : St H (Ts.set i (cellT q c)) (G.set q c) := by
  refine s.repl i h (cellT q c) (by simp [cellT]) (fun y hy => .inl hy) (fun y bb hb hy => ?_) (Heap.set_same _ _ _)
  simp only [cellT, List.mem_singleton] at hy
  rw [Heap.set_other hy]; exact hb
/-- Things forgotten. -/
theorem St.sub {H G : Heap} {Ts Us : List Th} (s : St H Ts G) (h : List.Sublist Us Ts) : St H Us G :=
  ⟨s.le, List.Nodup.sublist (sub_flat h) s.nd, fun t ht => s.fr t (h.subset ht), fun t ht => s.ok t (h.subset ht)⟩
/-- What is there at last. -/
theorem St.new {H G : Heap} {Ts : List Th} (s : St H Ts G) : New H G (Ts.flatMap Th.D) := ⟨s.nd, fun y hy => by
  obtain ⟨t, ht, hyt⟩ := List.mem_flatMap.1 hy
  exact s.fr t ht y hyt, s.le⟩
/-- Freezing a part: what is given up. -/
theorem St.wkNone {H G : Heap} {Ts : List Th} (s : St H Ts G) : ∀ y b, H y = some b → ∀ t ∈ Ts, y ∉ t.D := fun y b hb t ht hy => by rw [s.fr t ht y hy] at hb; cases hb
end Go.Sep
/- Specs: two abstractions laid together, as numbers of keys: implementation and reference. -/
namespace Go.Proofs.YtdnfiacjoghfkaaGreat
open Go Go.Sep Go.Pt
set_option linter.unusedSimpArgs false
set_option linter.unusedVariables false
attribute [local irreducible] CallT

abbrev row2 (q : Nat) (xs : List (Int × Int)) : AV := .sl q 2 0 xs.length
abbrev c2 (xs : List (Int × Int)) : List AV := cells (xs.map e2)
theorem sz2 (xs : List (Int × Int)) : Sized 2 (xs.map e2) := Go.Sep.sized_map (f := e2) (fun _ => rfl) xs
theorem frz_row2 {q : Nat} {xs : List (Int × Int)} : FrzR q 2 (xs.map e2) (row2 q xs) (.p (.sl (xs.map e2))) := by
  have : FrzR q 2 (xs.map e2) (.sl q 2 0 (xs.map e2).length) (.p (.sl (xs.map e2))) := .here
  rwa [List.length_map] at this
def keysM (xs ys : List Int) (n : Nat) : List (Int × Int) := (List.range n).map fun i => (xs.getD i default, ys.getD i default)
theorem keysM_get {xs ys : List Int} {n i : Nat} (h : i < n) : kN (keysM xs ys n) i = (xs.getD i default, ys.getD i default) := by simp [keysM, kN, List.getD, h]
def meetL (xs ys : List Int) : List Int := numL (kN (keysM xs ys xs.length)) xs.length
end Go.Proofs.YtdnfiacjoghfkaaGreat
/- Plain: abstractions by conditions. -/
namespace Go.Pt
open Go
set_option linter.unusedVariables false

def bitP (p : Pg) (t : List Nd) (no : Nat) : Nat := if holdP p t no = true then 1 else 0
def maskN (p : Pg) (ts : List (List Nd)) (no : Nat) : Nat → Nat
  | 0 => 0
  | k + 1 => maskN p ts no k + bitP p (ts.getD k default) no * 2 ^ k
theorem bitP_le (p : Pg) (t : List Nd) (no : Nat) : bitP p t no ≤ 1 := by unfold bitP; split <;> omega
theorem maskN_lt (p : Pg) (ts : List (List Nd)) (no : Nat) : ∀ k, maskN p ts no k < 2 ^ k
  | 0 => by simp [maskN]
  | k + 1 => by
    have h1 := maskN_lt p ts no k
    have h2 := bitP_le p (ts.getD k default) no
    have h3 : bitP p (ts.getD k default) no * 2 ^ k ≤ 1 * 2 ^ k := Nat.mul_le_mul_right _ h2
    simp only [maskN]
    rw [Nat.pow_succ]; omega
theorem mask_or {a b k : Nat} (ha : a < 2 ^ k) : a ||| (b <<< k) = a + b * 2 ^ k := by
  rw [Nat.shiftLeft_eq, Nat.or_comm, Nat.mul_comm, ← Nat.two_pow_add_eq_or_of_lt ha, Nat.add_comm]
theorem maskN_iff (p : Pg) (ts : List (List Nd)) (i j k : Nat) : maskN p ts i (k + 1) = maskN p ts j (k + 1) ↔ maskN p ts i k = maskN p ts j k ∧ bitP p (ts.getD k default) i = bitP p (ts.getD k default) j := by
  have h1 := maskN_lt p ts i k
  have h2 := maskN_lt p ts j k
  have h3 := bitP_le p (ts.getD k default) i
  have h4 := bitP_le p (ts.getD k default) j
  simp only [maskN]
  generalize bitP p (ts.getD k default) i = a at *
  generalize bitP p (ts.getD k default) j = b at *
  generalize maskN p ts i k = x at *
  generalize maskN p ts j k = y at *
  generalize 2 ^ k = z at *
  obtain rfl | rfl : a = 0 ∨ a = 1 := by omega
  all_goals (obtain rfl | rfl : b = 0 ∨ b = 1 := by omega)
  all_goals (constructor <;> intro h <;> (try refine ⟨?_, ?_⟩) <;> omega)
theorem tval_bit {p : Pg} (hs : SmallP p) {t : List Nd} (ht : ∀ x ∈ t, 0 ≤ x.n) (hk : kind p.wide p.vars t = 2) {s : List Nat} (hl : s.length = p.vars.toNat) (hsw : ∀ a ∈ s, a < 2 ^ p.wide.toNat) : tval p.wide.toNat t s ≤ 1 := by
  obtain ⟨w, v, e1, e2, e3, e4, hw1, hw5, hv1, hv4, hwv⟩ := hs.nat
  rw [e3] at hsw ⊢
  rw [e4] at hl
  rw [e1, e2] at hk
  obtain ⟨h1, _, _, htr, _⟩ := kind_tree hl hsw ht (by decide) hk
  exact (htr.okV h1).2 (by decide)
theorem tval_eq {p : Pg} (hs : SmallP p) {t : List Nd} (ht : ∀ x ∈ t, 0 ≤ x.n) (hk : kind p.wide p.vars t = 2) (no : Nat) (hl : (stP p no).length = p.vars.toNat) (hsw : ∀ a ∈ stP p no, a < 2 ^ p.wide.toNat) : tval p.wide.toNat t (stP p no) = bitP p t no := by
  have := tval_bit hs ht hk hl hsw
  unfold bitP holdP
  simp only [decide_eq_true_eq]
  split <;> omega
/-- The classes by the first k conditions. -/
def byK (p : Pg) (ts : List (List Nd)) (k : Nat) : List Int := numL (fun no => maskN p ts no k) (allP p)
theorem byK_len (p : Pg) (ts : List (List Nd)) (k : Nat) : (byK p ts k).length = allP p := numL_len _ _
theorem byK_get (p : Pg) (ts : List (List Nd)) (k : Nat) {i : Nat} (h : i < allP p) : (byK p ts k).getD i default = numN (fun no => maskN p ts no k) i := numL_get _ h
theorem byK_zero (p : Pg) (ts : List (List Nd)) : byK p ts 0 = List.replicate (allP p) 0 := by
  apply List.ext_getElem
  · simp [byK_len]
  · intro i h1 h2
    have h3 : i < allP p := by simpa using h2
    have e := byK_get p ts 0 h3
    have : (byK p ts 0).getD i default = (byK p ts 0)[i] := by simp [List.getD, h1]
    rw [this] at e
    rw [e, List.getElem_replicate]
    have : fstN (fun no => maskN p ts no 0) i = 0 := fstN_eq (Nat.zero_le _) rfl (fun j hj => by omega)
    simp [numN, this, cntN]
end Go.Pt
namespace Go.Proofs.YtdnfiacjoghfkaaGreat
open Go Go.Sep Go.Pt
theorem c2_app (xs ys : List (Int × Int)) : c2 (xs ++ ys) = c2 xs ++ c2 ys := by simp [c2, cells]
theorem c2_len (xs : List (Int × Int)) : (c2 xs).length = xs.length * 2 := by
  have := cells_map_len (e := e2) (sz := 2) (fun _ => rfl) xs
  exact this
theorem c2_cut {xs : List (Int × Int)} {t : Nat} (h : t < xs.length) : c2 xs = c2 (xs.take t) ++ (I (xs.getD t default).1 :: I (xs.getD t default).2 :: c2 (xs.drop (t + 1))) := by
  conv => lhs; rw [← List.take_append_drop t xs, drop_cons h, c2_app]
  rfl
theorem c2_rd {xs : List (Int × Int)} {t : Nat} (h : t < xs.length) : (List.take 1 (List.drop (t * 2) (c2 xs))).headD AV.any = I (xs.getD t default).1 := by
  have hl : (c2 (xs.take t)).length = t * 2 := by rw [c2_len, List.length_take, Nat.min_eq_left (by omega)]
  rw [c2_cut h, ← hl, List.drop_left]; rfl
theorem c2_set {xs : List (Int × Int)} {t : Nat} (h : t < xs.length) (v : Int) : List.take (t * 2) (c2 xs) ++ [I v] ++ List.drop (t * 2 + 1) (c2 xs) = c2 (xs.set t (v, (xs.getD t default).2)) := by
  have hl : (c2 (xs.take t)).length = t * 2 := by rw [c2_len, List.length_take, Nat.min_eq_left (by omega)]
  rw [List.set_eq_take_append_cons_drop, if_pos h, c2_app, c2_cut h, ← hl, List.take_left, List.drop_append]
  simp [c2, cells, e2]
end Go.Proofs.YtdnfiacjoghfkaaGreat
/- Specs: the reference's numbering. -/
namespace Go.Proofs.YtdnfiacjoghfkaaGreat
open Go Go.Sep Go.Pt
set_option linter.unusedSimpArgs false
set_option linter.unusedVariables false
attribute [local irreducible] CallT

abbrev kI (zs : List Int) : Nat → Int := fun j => zs.getD j default
theorem l15Of_spec (zs : List Int) (hl : zs.length ≤ 100000) : Pu Tryz.prog 87 [Is zs] (aS (numL (kI zs) zs.length)) := by
  refine ⟨fun H => CallT.fin ?_⟩
  refine W87_ok ?_; simp (maxSteps := 1000000) (disch := first | assumption | (apply Ne.symm; assumption)) only [W87, vz, vu, vv, eqS, eqFieldsV, ↓condV_t, ↓condV_f, tabs, reduceCtorEq, Array.toList, ↓reduceIte, Nat.reduceAdd, Nat.reduceLeDiff, Nat.reduceLT, Nat.reduceMul, Nat.reduceSub, Int.reduceToNat, Int.reduceSub, Int.reduceAdd, Int.reduceNeg]
  intro r2 h2 r3 n3 h3
  have n23 : r2 ≠ r3 := Ne.symm n3
  generalize hH0 : H.set r2 [AV.p .nil] = H0
  have h03 : H0 r3 = none := by rw [← hH0, Heap.set_other n3]; exact h3
  have g2 : H0 r2 = some [AV.p .nil] := by rw [← hH0, Heap.set_same]
  have hle : Heap.le H H0 := by rw [← hH0]; exact Heap.le_set h2
  refine L87_0_rule ((0 : Nat), AV.p .nil, H0.set r3 [.p .nil]) (fun s => I (cntN (kI zs) s.1)) (fun s => I s.1) (fun s => s.2.2)
    (fun s => s.1 ≤ zs.length ∧ Own1 fI H0 s.2.2 r3 [] s.2.1 (numL (kI zs) s.1)) (fun s => zs.length - s.1) ⟨⟨by simp, ?_⟩, .refl _, .refl _, Heap.le_refl _⟩ ?_
  · exact ⟨Heap.set_same _ _ _, .inl ⟨rfl, rfl⟩, Heap.le_set h03, h03⟩
  rintro ⟨i, x, G⟩ ⟨hi, o⟩
  dsimp only at hi o
  have g3 : G r3 = some [x] := o.hr
  have k2 := o.le _ _ g2
  have hnl := numL_len (kI zs) i
  have hcl := cntN_le (kI zs) i
  (try simp (maxSteps := 1000000) (disch := first | assumption | (apply Ne.symm; assumption)) only [vz, vu, vv, eqS, eqFieldsV, ↓condV_t, ↓condV_f, tabs, reduceCtorEq, Array.toList, ↓reduceIte, Nat.reduceAdd, Nat.reduceLeDiff, Nat.reduceLT, Nat.reduceMul, Nat.reduceSub, Int.reduceToNat, Int.reduceSub, Int.reduceAdd, Int.reduceNeg, B87_0])
  refine ⟨fun h1 => ⟨by omega, h1, ?_⟩, fun h1 => ?_⟩
  · have hlt : i < zs.length := by omega
    -- the class is known
    have fin : ∀ N1 : AV → AV → Heap → Prop, (∀ G', ∀ x', Own1 fI H0 G' r3 [] x' (numL (kI zs) (i + 1)) → N1 (I (cntN (kI zs) (i + 1))) (I (i + 1 : Nat)) G') → ∀ K, J87_3 K N1 (Is zs) (.ptr r2 0) (.ptr r3 0) (I (cntN (kI zs) i)) (I (numN (kI zs) i)) (Is zs) (I zs.length) (I i) G := by
      intro N1 hN K
      unfold J87_3
      have hsucc := numL_succ (kI zs) i
      have two : ∀ {c : Int}, c = cntN (kI zs) (i + 1) → J87_2 K N1 (Is zs) (.ptr r2 0) (.ptr r3 0) (I c) (I (numN (kI zs) i)) (Is zs) (I zs.length) (I i) G := by
        rintro c rfl
        unfold J87_2
        (try simp (maxSteps := 1000000) (disch := first | assumption | (apply Ne.symm; assumption)) only [vz, vu, vv, eqS, eqFieldsV, ↓condV_t, ↓condV_f, tabs, reduceCtorEq, Array.toList, ↓reduceIte, Nat.reduceAdd, Nat.reduceLeDiff, Nat.reduceLT, Nat.reduceMul, Nat.reduceSub, Int.reduceToNat, Int.reduceSub, Int.reduceAdd, Int.reduceNeg, load_at g3])
        refine lit1 tab_29 rfl tab_3 ⟨rfl, rfl⟩ ?_
        refine o.app (ys := [(numN (kI zs) i : Int)]) tab_29 rfl tab_3 rfl (by decide) (by simp; omega) fun q' m' G1 k6 o3 _ => ?_
        have k6' : G1 r3 = some [x] := k6
        (try simp (maxSteps := 1000000) (disch := first | assumption | (apply Ne.symm; assumption)) only [vz, vu, vv, eqS, eqFieldsV, ↓condV_t, ↓condV_f, tabs, reduceCtorEq, Array.toList, ↓reduceIte, Nat.reduceAdd, Nat.reduceLeDiff, Nat.reduceLT, Nat.reduceMul, Nat.reduceSub, Int.reduceToNat, Int.reduceSub, Int.reduceAdd, Int.reduceNeg, store_at k6'])
        rw [i64_id (by omega) (by omega)]
        exact hN _ _ (by rw [hsucc]; exact o3)
      have hlt2 := numN_lt (kI zs) (Nat.lt_succ_self i)
      by_cases hn : newAt (kI zs) i = true
      · have e1 := numN_new hn
        have e2 : cntN (kI zs) (i + 1) = cntN (kI zs) i + 1 := by simp [cntN, hn]
        rw [← e1]
        (try simp (maxSteps := 1000000) (disch := first | assumption | (apply Ne.symm; assumption)) only [vz, vu, vv, eqS, eqFieldsV, ↓condV_t, ↓condV_f, tabs, reduceCtorEq, Array.toList, ↓reduceIte, Nat.reduceAdd, Nat.reduceLeDiff, Nat.reduceLT, Nat.reduceMul, Nat.reduceSub, Int.reduceToNat, Int.reduceSub, Int.reduceAdd, Int.reduceNeg])
        rw [i64_id (by omega) (by omega)]
        exact two (by omega)
      · have hn' : newAt (kI zs) i = false := by simpa using hn
        have e2 : cntN (kI zs) (i + 1) = cntN (kI zs) i := by simp [cntN, hn']
        have hne : ¬ ((numN (kI zs) i : Int) = cntN (kI zs) i) := by
          have h3 := numN_lt (kI zs) (not_new hn')
          have h4 := numN_same (fstN_spec (kI zs) i).2.1
          omega
        (try simp (maxSteps := 1000000) (disch := first | assumption | (apply Ne.symm; assumption)) only [vz, vu, vv, eqS, eqFieldsV, ↓condV_t, ↓condV_f, tabs, reduceCtorEq, Array.toList, ↓reduceIte, Nat.reduceAdd, Nat.reduceLeDiff, Nat.reduceLT, Nat.reduceMul, Nat.reduceSub, Int.reduceToNat, Int.reduceSub, Int.reduceAdd, Int.reduceNeg, hne])
        exact two (by omega)
    refine L87_1_rule (0 : Nat) (fun _ => I (cntN (kI zs) i)) (fun j => I j) (fun _ => G) (fun j => j ≤ i ∧ ∀ j', j' < j → kI zs j' ≠ kI zs i) (fun j => i - j) ⟨⟨by omega, fun j' h => by omega⟩, .refl _, .refl _, Heap.le_refl _⟩ ?_
    rintro j ⟨hj, hall⟩
    (try simp (maxSteps := 1000000) (disch := first | assumption | (apply Ne.symm; assumption)) only [vz, vu, vv, eqS, eqFieldsV, ↓condV_t, ↓condV_f, tabs, reduceCtorEq, Array.toList, ↓reduceIte, Nat.reduceAdd, Nat.reduceLeDiff, Nat.reduceLT, Nat.reduceMul, Nat.reduceSub, Int.reduceToNat, Int.reduceSub, Int.reduceAdd, Int.reduceNeg, B87_1, load_at g3])
    have go : ∀ G' x', Own1 fI H0 G' r3 [] x' (numL (kI zs) (i + 1)) → ∃ s' : Nat × AV × Heap, (s'.1 ≤ zs.length ∧ Own1 fI H0 s'.2.2 r3 [] s'.2.1 (numL (kI zs) s'.1)) ∧ zs.length - s'.1 < zs.length - i ∧ (I (cntN (kI zs) (i + 1))).wk (I (cntN (kI zs) s'.1)) ∧ (I (i + 1 : Nat)).wk (I s'.1) ∧ s'.2.2.le G' :=
      fun G' x' o' => ⟨(i + 1, x', G'), ⟨by simp only; omega, o'⟩, by simp only; omega, .refl _, .refl _, Heap.le_refl _⟩
    refine ⟨fun h5 => ⟨by omega, by omega, fun h6 => ?_, fun h6 => ?_⟩, fun h5 => ?_⟩
    · have hji : j < i := by omega
      have hval : (numL (kI zs) i).getD j default = numN (kI zs) i := by rw [numL_get _ hji, numN_same h6]
      rcases o.base with ⟨_, h7⟩ | ⟨q, rfl, hq, _⟩
      · rw [h7] at hnl; simp at hnl; omega
      have rd := read_row (f := fI) (xs := numL (kI zs) i) (k := j) default (by omega)
      rw [hval] at rd
      (try simp (maxSteps := 1000000) (disch := first | assumption | (apply Ne.symm; assumption)) only [vz, vu, vv, eqS, eqFieldsV, ↓condV_t, ↓condV_f, tabs, reduceCtorEq, Array.toList, ↓reduceIte, Nat.reduceAdd, Nat.reduceLeDiff, Nat.reduceLT, Nat.reduceMul, Nat.reduceSub, Int.reduceToNat, Int.reduceSub, Int.reduceAdd, Int.reduceNeg, load_at hq, hnl])
      rw [Nat.mul_one, rd]
      refine ⟨by omega, by omega, by omega, ?_⟩
      refine fin _ ?_ _
      exact go
    · refine ⟨j + 1, ⟨by omega, fun j' hj' e => ?_⟩, by omega, .refl _, ?_⟩
      · rcases Nat.lt_succ_iff_lt_or_eq.1 hj' with h7 | rfl
        · exact hall j' h7 e
        · exact h6 e
      · rw [wk_int, i64_id (by omega) (by omega)]; simp
    · have : j = i := by omega
      subst this
      have hn : newAt (kI zs) j = true := newAt_iff.2 hall
      rw [numN_new hn] at fin
      refine fin _ ?_ _
      exact go
  · have : i = zs.length := by omega
    subst this
    (try simp (maxSteps := 1000000) (disch := first | assumption | (apply Ne.symm; assumption)) only [vz, vu, vv, eqS, eqFieldsV, ↓condV_t, ↓condV_f, tabs, reduceCtorEq, Array.toList, ↓reduceIte, Nat.reduceAdd, Nat.reduceLeDiff, Nat.reduceLT, Nat.reduceMul, Nat.reduceSub, Int.reduceToNat, Int.reduceSub, Int.reduceAdd, Int.reduceNeg, load_at g3, store_at k2])
    have hleG : Heap.le H (G.set r2 [x]) := Heap.le_setN (Heap.le_trans hle o.le) h2
    rcases o.base with ⟨rfl, h7⟩ | ⟨q, rfl, hq, hq0, _⟩
    · rw [h7]
      exact ⟨rfl, _, _, .trans (.val (v' := aS []) (wk_agg ⟨.nil, trivial⟩)) (.forget hleG), rfl, rfl⟩
    · have hqr : q ≠ r2 := fun e => by rw [e, g2] at hq0; cases hq0
      have hHq : H q = none := by
        cases hh : H q with
        | none => rfl
        | some b => rw [hle _ _ hh] at hq0; cases hq0
      generalize numL (kI zs) zs.length = zz at hq hleG ⊢
      refine ⟨rfl, _, _, .trans (Wk.frz (r := q) (sz := 1) (es := zz.map fun n => [fI n]) (v' := aS zz) (by omega) (by rw [Heap.set_other hqr, flat_P]; exact hq) (szP _ _) (.agg (.cons frz_row .nil))) (.forget (Heap.le_del hleG hHq)), rfl, rfl⟩
theorem l15Of_row (zs : List Int) (hl : zs.length ≤ 100000) {q : Nat} {G : Heap} (hq : G q = none) {K : AV → Heap → Prop} (h : K (aS (numL (kI zs) zs.length)) G) : CallT Tryz.prog 87 [rowP q zs] (G.set q (cP fI zs)) K := by
  have hw := Wk.frz (v := .tup [rowP q zs]) (v' := .tup [Is zs]) (H := G.set q (cP fI zs)) (r := q) (sz := 1) (es := zs.map fun n => [fI n]) (by omega) (by rw [flat_P]; exact Heap.set_same _ _ _) (szP _ _) (.tup (.cons frz_row .nil))
  rw [Heap.del_set hq] at hw
  exact CallT.pre (Pu.use (l15Of_spec zs hl) h) hw
end Go.Proofs.YtdnfiacjoghfkaaGreat
/- Specs: MeetOf and IsFiner. -/
namespace Go.Proofs.YtdnfiacjoghfkaaGreat
open Go Go.Sep Go.Pt
set_option linter.unusedSimpArgs false
set_option linter.unusedVariables false
attribute [local irreducible] CallT

/-! ### Plain -/
/-! ### Rows of numbers compared -/
/-! ### Finer -/
/-! ### MeetOf and IsFiner -/
abbrev gPg (p : Pg) : List AV := [I p.wide, I p.vars, Ns p.start, Cms p.cmds]
/-- An abstraction of one's own, or the zero one. -/
def RS (of : List Int) (v : AV) (G : Heap) (D : List Nat) : Prop := (of = [] ∧ v = .agg [.p .nil] ∧ D = []) ∨ ∃ q, v = .agg [rowP q of] ∧ G q = some (cP fI of) ∧ D = [q]

end Go.Proofs.YtdnfiacjoghfkaaGreat
/- Specs: rows of edges; automata that own their rows, checked. -/
namespace Go.Proofs.YtdnfiacjoghfkaaGreat
open Go Go.Sep Go.Pt
set_option linter.unusedSimpArgs false
set_option linter.unusedVariables false
attribute [local irreducible] CallT

/-- A row of rows that grows: nothing yet, or a row of one's own. -/
def GAt (x : AV) (gs : List (List Int)) (G : Heap) (D : List Nat) : Prop := ∃ cs D', LL LIc gs cs G D' ∧ ((x = .p .nil ∧ cs = [] ∧ D = []) ∨ ∃ q, x = .sl q 1 0 gs.length ∧ G q = some cs ∧ D = q :: D')
theorem GAt.nil (G : Heap) : GAt (.p .nil) [] G [] := ⟨[], [], ⟨rfl, rfl⟩, .inl ⟨rfl, rfl, rfl⟩⟩
theorem GAt.local {x : AV} {gs : List (List Int)} {G G' : Heap} {D : List Nat} (g : GAt x gs G D) (h : ∀ y ∈ D, ∀ b, G y = some b → G' y = some b) : GAt x gs G' D := by
  obtain ⟨cs, D', hl, h1⟩ := g
  rcases h1 with ⟨rfl, rfl, rfl⟩ | ⟨q, rfl, hq, rfl⟩
  · cases gs with
    | nil => obtain ⟨_, rfl⟩ := hl; exact ⟨[], [], ⟨rfl, rfl⟩, .inl ⟨rfl, rfl, rfl⟩⟩
    | cons a gs => obtain ⟨c1, c2, D1, D2, e, _, ⟨z, rfl, _⟩, _⟩ := hl; simp at e
  · exact ⟨cs, D', LL.local LIc.local hl (fun y hy b hb => h y (List.mem_cons_of_mem _ hy) b hb), .inr ⟨q, rfl, h q (List.mem_cons_self ..) _ hq, rfl⟩⟩
end Go.Proofs.YtdnfiacjoghfkaaGreat
/- Specs: the union of two automata. -/
namespace Go.Proofs.YtdnfiacjoghfkaaGreat
open Go Go.Sep Go.Pt
set_option linter.unusedSimpArgs false
set_option linter.unusedVariables false
attribute [local irreducible] CallT

/-! ### Plain facts -/
structure GoodF (a : Au) : Prop where
  st : 1 ≤ a.states ∧ a.states ≤ 96
  fi : smI a.first ∧ a.first.length ≤ 96
  ed : a.edges.length ≤ 2400
  ei : ∀ e ∈ a.edges, edIn a.states e = true
  gl : a.goals.length ≤ 6
  gi : ∀ g ∈ a.goals, smI g ∧ g.length ≤ 96
end Go.Proofs.YtdnfiacjoghfkaaGreat
/- Specs: an abstraction cut by a list of states. -/
namespace Go.Proofs.YtdnfiacjoghfkaaGreat
open Go Go.Sep Go.Pt
set_option linter.unusedSimpArgs false
set_option linter.unusedVariables false
attribute [local irreducible] CallT

def indL (sm : List Int) (n : Nat) : List Int := (List.range n).map fun (j : Nat) => if (j : Int) ∈ sm then 1 else 0
theorem indL_get {sm : List Int} {n i : Nat} (h : i < n) : (indL sm n).getD i default = if (i : Int) ∈ sm then 1 else 0 := by simp [indL, List.getD, h]
def cutL (of sm : List Int) : List Int := meetL of (indL sm of.length)
/-! ### The reference -/
def keysC (of sm : List Int) (n : Nat) : List Int := (List.range n).map fun (i : Nat) => if (i : Int) ∈ sm then 2 * of.getD i default + 1 else 2 * of.getD i default
theorem keysC_len (of sm : List Int) (n : Nat) : (keysC of sm n).length = n := by simp [keysC]
theorem keysC_succ (of sm : List Int) (n : Nat) : keysC of sm (n + 1) = keysC of sm n ++ [if (n : Int) ∈ sm then 2 * of.getD n default + 1 else 2 * of.getD n default] := by simp [keysC, List.range_succ]
theorem keysC_get {of sm : List Int} {n i : Nat} (h : i < n) : kI (keysC of sm n) i = if (i : Int) ∈ sm then 2 * of.getD i default + 1 else 2 * of.getD i default := by simp [keysC, kI, List.getD, h]
theorem cutL_ref (of sm : List Int) : numL (kI (keysC of sm of.length)) of.length = cutL of sm := by
  refine numL_ext fun i j hi hj => ?_
  rw [keysC_get hi, keysC_get hj, keysM_get hi, keysM_get hj, indL_get hi, indL_get hj, Prod.mk.injEq]
  generalize of.getD i default = x
  generalize of.getD j default = y
  split <;> split <;> (constructor <;> (try intro h) <;> (try exact ⟨by omega, by omega⟩) <;> omega)
theorem l15Cut_spec (of sm : List Int) (hl : of.length ≤ 1000) (hsl : sm.length ≤ 1048576) (hx : ∀ x ∈ of, -1000000 ≤ x ∧ x ≤ 1000000) : Pu Tryz.prog 65 [aS of, Is sm] (aS (cutL of sm)) := by
  refine ⟨fun H => CallT.fin ?_⟩
  refine CallT.ghost W65_hb fun q0 hq0 => ?_
  refine W65_ok ?_; simp (maxSteps := 1000000) (disch := first | assumption | (apply Ne.symm; assumption)) only [W65, vz, vu, vv, eqS, eqFieldsV, ↓condV_t, ↓condV_f, tabs, reduceCtorEq, Array.toList, ↓reduceIte, Nat.reduceAdd, Nat.reduceLeDiff, Nat.reduceLT, Nat.reduceMul, Nat.reduceSub, Int.reduceToNat, Int.reduceSub, Int.reduceAdd, Int.reduceNeg]
  intro r2 h02 h2 r4 n42 h04 h4
  have nn42 := Ne.symm n42
  have m02 := Ne.symm h02
  have m04 := Ne.symm h04
  (try simp (maxSteps := 1000000) (disch := first | assumption | (apply Ne.symm; assumption)) only [vz, vu, vv, eqS, eqFieldsV, ↓condV_t, ↓condV_f, tabs, reduceCtorEq, Array.toList, ↓reduceIte, Nat.reduceAdd, Nat.reduceLeDiff, Nat.reduceLT, Nat.reduceMul, Nat.reduceSub, Int.reduceToNat, Int.reduceSub, Int.reduceAdd, Int.reduceNeg])
  have hle : Heap.le (((H.set r2 [Is of]).set r4 [AV.p .nil]).set q0 []) (((H.set q0 []).set r2 [Is of]).set r4 [AV.p .nil]) := by
    (intro y b hy; simp only [Heap.set, Heap.del] at hy ⊢; (repeat' split at hy) <;> (repeat' split) <;> simp_all [cells])
  have f2 : ((H.set r2 [Is of]).set r4 [AV.p .nil]) r2 = some [Is of] := by rw [Heap.set_other nn42, Heap.set_same]
  have f4 : ((H.set r2 [Is of]).set r4 [AV.p .nil]) r4 = some [AV.p .nil] := Heap.set_same _ _ _
  have fq : ((H.set r2 [Is of]).set r4 [AV.p .nil]) q0 = none := by rw [Heap.set_other m04, Heap.set_other m02]; exact hq0
  have hlH : Heap.le H ((H.set r2 [Is of]).set r4 [AV.p .nil]) := Heap.le_setN (Heap.le_set h2) h4
  generalize ((H.set q0 []).set r2 [Is of]).set r4 [AV.p .nil] = GG at hle ⊢
  generalize ((H.set r2 [Is of]).set r4 [AV.p .nil]) = G at hle f2 f4 fq hlH
  refine L65_0_rule ((0 : Nat), q0) (fun s => rowP s.2 (keysC of sm s.1)) (fun s => I s.1) (fun s => G.set s.2 (cP fI (keysC of sm s.1))) (fun s => s.1 ≤ of.length ∧ G s.2 = none) (fun s => of.length - s.1) ⟨⟨by simp, fq⟩, .nilo _ _ _, .refl _, hle⟩ ?_
  rintro ⟨i, q⟩ ⟨hi, hq⟩
  dsimp only at hi hq
  have hkl := keysC_len of sm i
  (try simp (maxSteps := 1000000) (disch := first | assumption | (apply Ne.symm; assumption)) only [vz, vu, vv, eqS, eqFieldsV, ↓condV_t, ↓condV_f, tabs, reduceCtorEq, Array.toList, ↓reduceIte, Nat.reduceAdd, Nat.reduceLeDiff, Nat.reduceLT, Nat.reduceMul, Nat.reduceSub, Int.reduceToNat, Int.reduceSub, Int.reduceAdd, Int.reduceNeg, B65_0])
  refine ⟨fun h1 => ?_, fun h1 => ?_⟩
  · have hlt : i < of.length := by omega
    have hxi := getD_all (p := fun x => -1000000 ≤ x ∧ x ≤ 1000000) (d := default) hx hlt
    refine ⟨by omega, h1, ?_⟩
    refine Pu.use (l1Has_spec sm i hsl) ?_
    have hsucc := keysC_succ of sm i
    by_cases hm : (i : Int) ∈ sm
    · rw [if_pos hm] at hsucc
      rw [decide_eq_true hm]
      (try simp (maxSteps := 1000000) (disch := first | assumption | (apply Ne.symm; assumption)) only [vz, vu, vv, eqS, eqFieldsV, ↓condV_t, ↓condV_f, tabs, reduceCtorEq, Array.toList, ↓reduceIte, Nat.reduceAdd, Nat.reduceLeDiff, Nat.reduceLT, Nat.reduceMul, Nat.reduceSub, Int.reduceToNat, Int.reduceSub, Int.reduceAdd, Int.reduceNeg])
      rw [i64_id (n := 2 * of.getD i default) (by omega) (by omega), i64_id (by omega) (by omega)]
      refine push_topI hq (by omega) fun q' hq' => ?_
      rw [← hsucc]
      refine ⟨(i + 1, q'), ⟨by simp only; omega, hq'⟩, by simp only; omega, .refl _, ?_, Heap.le_refl _⟩
      rw [wk_int, i64_id (by omega) (by omega)]; simp
    · rw [if_neg hm] at hsucc
      rw [decide_eq_false hm]
      (try simp (maxSteps := 1000000) (disch := first | assumption | (apply Ne.symm; assumption)) only [vz, vu, vv, eqS, eqFieldsV, ↓condV_t, ↓condV_f, tabs, reduceCtorEq, Array.toList, ↓reduceIte, Nat.reduceAdd, Nat.reduceLeDiff, Nat.reduceLT, Nat.reduceMul, Nat.reduceSub, Int.reduceToNat, Int.reduceSub, Int.reduceAdd, Int.reduceNeg])
      rw [i64_id (n := 2 * of.getD i default) (by omega) (by omega)]
      refine push_topI hq (by omega) fun q' hq' => ?_
      rw [← hsucc]
      refine ⟨(i + 1, q'), ⟨by simp only; omega, hq'⟩, by simp only; omega, .refl _, ?_, Heap.le_refl _⟩
      rw [wk_int, i64_id (by omega) (by omega)]; simp
  · have : i = of.length := by omega
    subst this
    refine l15Of_row (keysC of sm of.length) (by omega) hq ?_
    rw [hkl, cutL_ref]
    (try simp (maxSteps := 1000000) (disch := first | assumption | (apply Ne.symm; assumption)) only [vz, vu, vv, eqS, eqFieldsV, ↓condV_t, ↓condV_f, tabs, reduceCtorEq, Array.toList, ↓reduceIte, Nat.reduceAdd, Nat.reduceLeDiff, Nat.reduceLT, Nat.reduceMul, Nat.reduceSub, Int.reduceToNat, Int.reduceSub, Int.reduceAdd, Int.reduceNeg, store_at f4])
    exact ⟨_, _, .forget (Heap.le_setN hlH h4), rfl, rfl⟩
end Go.Proofs.YtdnfiacjoghfkaaGreat
/- Specs: SightBy, SplitBy. -/
namespace Go.Proofs.YtdnfiacjoghfkaaGreat
open Go Go.Sep Go.Pt
set_option linter.unusedSimpArgs false
set_option linter.unusedVariables false
attribute [local irreducible] CallT

def okTs (p : Pg) (ts : List (List Nd)) (least : Int) : Bool := (decide (least ≤ ts.length) && decide (ts.length ≤ 8)) && ts.all fun t => decide (kind p.wide p.vars t = 2)
theorem arePreds1_at (p : Pg) (t : List Nd) (ht : vT t) (r : Nat) {H : Heap} (hr : H r = some [I p.wide, I p.vars, Ns p.start, Cms p.cmds]) : PuAt Tryz.prog 57 [Ns t, .ptr r 0] H (B (!decide (kind p.wide p.vars t = 2))) := by
  intro K hK
  refine W57_ok ?_; simp (maxSteps := 1000000) (disch := first | assumption | (apply Ne.symm; assumption)) only [W57, vz, vu, vv, eqS, eqFieldsV, ↓condV_t, ↓condV_f, tabs, reduceCtorEq, Array.toList, ↓reduceIte, Nat.reduceAdd, Nat.reduceLeDiff, Nat.reduceLT, Nat.reduceMul, Nat.reduceSub, Int.reduceToNat, Int.reduceSub, Int.reduceAdd, Int.reduceNeg, load_at hr]
  refine Pu.use (isCondition_spec p t ht) ?_
  (try simp (maxSteps := 1000000) (disch := first | assumption | (apply Ne.symm; assumption)) only [vz, vu, vv, eqS, eqFieldsV, ↓condV_t, ↓condV_f, tabs, reduceCtorEq, Array.toList, ↓reduceIte, Nat.reduceAdd, Nat.reduceLeDiff, Nat.reduceLT, Nat.reduceMul, Nat.reduceSub, Int.reduceToNat, Int.reduceSub, Int.reduceAdd, Int.reduceNeg])
  cases h : decide (kind p.wide p.vars t = 2) <;> simp_all
theorem arePreds_spec (p : Pg) (ts : List (List Nd)) (hl : ts.length ≤ 1048576) (hv : ∀ t ∈ ts, vT t) (least : Int) : Pu Tryz.prog 32 [aPg p, Nss ts, I least] (B (okTs p ts least)) := by
  refine Pu.of fun H => ?_
  refine W32_ok ?_; simp (maxSteps := 1000000) (disch := first | assumption | (apply Ne.symm; assumption)) only [W32, vz, vu, vv, eqS, eqFieldsV, ↓condV_t, ↓condV_f, tabs, reduceCtorEq, Array.toList, ↓reduceIte, Nat.reduceAdd, Nat.reduceLeDiff, Nat.reduceLT, Nat.reduceMul, Nat.reduceSub, Int.reduceToNat, Int.reduceSub, Int.reduceAdd, Int.reduceNeg]
  intro r hr
  have hle : ∀ z, Heap.le H (H.set r z) := fun z => Heap.le_set hr
  (try simp (maxSteps := 1000000) (disch := first | assumption | (apply Ne.symm; assumption)) only [vz, vu, vv, eqS, eqFieldsV, ↓condV_t, ↓condV_f, tabs, reduceCtorEq, Array.toList, ↓reduceIte, Nat.reduceAdd, Nat.reduceLeDiff, Nat.reduceLT, Nat.reduceMul, Nat.reduceSub, Int.reduceToNat, Int.reduceSub, Int.reduceAdd, Int.reduceNeg])
  refine ⟨fun h1 => ⟨fun h2 => ?_, fun h2 => ⟨?_, hle _⟩⟩, fun h1 => ⟨?_, hle _⟩⟩
  · refine PuAt.use (ContainsFuncNs_at ts _ _ (fun t => !decide (kind p.wide p.vars t = 2)) (by omega) fun t ht => arePreds1_at p t (hv t ht) r (Heap.set_same _ _ _)) ?_
    (try simp (maxSteps := 1000000) (disch := first | assumption | (apply Ne.symm; assumption)) only [vz, vu, vv, eqS, eqFieldsV, ↓condV_t, ↓condV_f, tabs, reduceCtorEq, Array.toList, ↓reduceIte, Nat.reduceAdd, Nat.reduceLeDiff, Nat.reduceLT, Nat.reduceMul, Nat.reduceSub, Int.reduceToNat, Int.reduceSub, Int.reduceAdd, Int.reduceNeg])
    refine ⟨?_, hle _⟩
    have h2' : ts.length ≤ 8 := by omega
    simp only [okTs, h1, h2', decide_true, Bool.true_and]
    congr 2
    rw [List.all_eq_not_any_not]
  · have : ¬ ts.length ≤ 8 := by omega
    simp [okTs, this]
  · simp [okTs, h1]
theorem l15Preds_spec (p : Pg) (ts : List (List Nd)) (hl : ts.length ≤ 1048576) (hv : ∀ t ∈ ts, vT t) : Pu Tryz.prog 28 [aPg p, Nss ts] (B (okTs p ts 0)) := by
  refine Pu.of fun H => ?_
  refine W28_ok ?_; simp (maxSteps := 1000000) (disch := first | assumption | (apply Ne.symm; assumption)) only [W28, vz, vu, vv, eqS, eqFieldsV, ↓condV_t, ↓condV_f, tabs, reduceCtorEq, Array.toList, ↓reduceIte, Nat.reduceAdd, Nat.reduceLeDiff, Nat.reduceLT, Nat.reduceMul, Nat.reduceSub, Int.reduceToNat, Int.reduceSub, Int.reduceAdd, Int.reduceNeg]
  intro r hr
  have hle : ∀ z, Heap.le H (H.set r z) := fun z => Heap.le_set hr
  refine ⟨fun h => ?_, fun h => ?_⟩
  · have : ¬ ts.length ≤ 8 := by omega
    exact ⟨by simp [okTs, this], hle _⟩
  have h8 : ts.length ≤ 8 := by omega
  have h0 : (0 : Int) ≤ ts.length := by omega
  refine L28_0_rule (0 : Nat) (fun i => I i) (fun _ => H.set r [I p.wide, I p.vars, Ns p.start, Cms p.cmds]) (fun i => i ≤ ts.length ∧ ∀ j, j < i → kind p.wide p.vars (ts.getD j default) = 2) (fun i => ts.length - i) ⟨⟨by omega, fun j hj => by omega⟩, .refl _, Heap.le_refl _⟩ ?_
  rintro i ⟨hi, hall⟩
  (try simp (maxSteps := 1000000) (disch := first | assumption | (apply Ne.symm; assumption)) only [vz, vu, vv, eqS, eqFieldsV, ↓condV_t, ↓condV_f, tabs, reduceCtorEq, Array.toList, ↓reduceIte, Nat.reduceAdd, Nat.reduceLeDiff, Nat.reduceLT, Nat.reduceMul, Nat.reduceSub, Int.reduceToNat, Int.reduceSub, Int.reduceAdd, Int.reduceNeg, B28_0])
  refine ⟨fun h1 => ⟨by omega, h1, ?_⟩, fun h1 => ⟨?_, hle _⟩⟩
  · have hlt : i < ts.length := by omega
    have hm : ts.getD i default ∈ ts := getD_all (p := fun x => x ∈ ts) (fun _ h => h) hlt
    refine Pu.use (l7Asks_spec p _ (hv _ hm)) ?_
    cases hk : decide (kind p.wide p.vars (ts.getD i default) = 2)
    · (try simp (maxSteps := 1000000) (disch := first | assumption | (apply Ne.symm; assumption)) only [vz, vu, vv, eqS, eqFieldsV, ↓condV_t, ↓condV_f, tabs, reduceCtorEq, Array.toList, ↓reduceIte, Nat.reduceAdd, Nat.reduceLeDiff, Nat.reduceLT, Nat.reduceMul, Nat.reduceSub, Int.reduceToNat, Int.reduceSub, Int.reduceAdd, Int.reduceNeg])
      refine ⟨?_, hle _⟩
      have : (ts.all fun t => decide (kind p.wide p.vars t = 2)) = false := by rw [List.all_eq_false]; exact ⟨_, hm, by simpa using hk⟩
      simp [okTs, this]
    · (try simp (maxSteps := 1000000) (disch := first | assumption | (apply Ne.symm; assumption)) only [vz, vu, vv, eqS, eqFieldsV, ↓condV_t, ↓condV_f, tabs, reduceCtorEq, Array.toList, ↓reduceIte, Nat.reduceAdd, Nat.reduceLeDiff, Nat.reduceLT, Nat.reduceMul, Nat.reduceSub, Int.reduceToNat, Int.reduceSub, Int.reduceAdd, Int.reduceNeg])
      refine ⟨i + 1, ⟨by omega, fun j hj => ?_⟩, by omega, ?_⟩
      · rcases Nat.lt_succ_iff_lt_or_eq.1 hj with h2 | rfl
        · exact hall j h2
        · exact of_decide_eq_true hk
      · rw [wk_int, i64_id (by omega) (by omega)]; simp
  · have : i = ts.length := by omega
    subst this
    have : (ts.all fun t => decide (kind p.wide p.vars t = 2)) = true := by
      rw [List.all_eq_true]
      intro t ht
      obtain ⟨j, hj, rfl⟩ := List.getElem_of_mem ht
      have := hall j hj
      have e : ts.getD j default = ts[j] := by simp [List.getD, hj]
      rw [e] at this
      exact decide_eq_true this
    simp [okTs, this, h8]

/-! ### The reference -/
theorem okTs_k {p : Pg} {ts : List (List Nd)} {l : Int} (h : okTs p ts l = true) : l ≤ ts.length ∧ ts.length ≤ 8 ∧ ∀ t ∈ ts, kind p.wide p.vars t = 2 := by
  simp only [okTs, Bool.and_eq_true, decide_eq_true_eq, List.all_eq_true] at h
  exact ⟨h.1.1, h.1.2, h.2⟩
theorem l15Split_spec (p : Pg) (hb : smallP p = true) (of : List Int) (hl : of.length ≤ 1000) (hx : ∀ x ∈ of, -1000000 ≤ x ∧ x ≤ 1000000) (t : List Nd) (ht : vT t) (hk : kind p.wide p.vars t = 2) : Pu Tryz.prog 45 [aPg p, aS of, Ns t] (aS (cutL of (whN p t (allP p)))) := by
  refine Pu.of fun H => ?_
  have hal := allP_bd (smallP_of hb)
  have hwl := whN_len p t (allP p)
  refine W45_ok ?_; simp (maxSteps := 1000000) (disch := first | assumption | (apply Ne.symm; assumption)) only [W45, vz, vu, vv, eqS, eqFieldsV, ↓condV_t, ↓condV_f, tabs, reduceCtorEq, Array.toList, ↓reduceIte, Nat.reduceAdd, Nat.reduceLeDiff, Nat.reduceLT, Nat.reduceMul, Nat.reduceSub, Int.reduceToNat, Int.reduceSub, Int.reduceAdd, Int.reduceNeg]
  intro r3 h3 r4 n43 h4 r6 n64 n63 h6
  have nn43 := Ne.symm n43
  have nn63 := Ne.symm n63
  have nn64 := Ne.symm n64
  have hb1 : ∀ z, Heap.le H (((H.set r3 [I p.wide, I p.vars, Ns p.start, Cms p.cmds]).set r4 [Is of]).set r6 z) := fun z => Heap.le_setN (Heap.le_setN (Heap.le_set h3) h4) h6
  (try simp (maxSteps := 1000000) (disch := first | assumption | (apply Ne.symm; assumption)) only [vz, vu, vv, eqS, eqFieldsV, ↓condV_t, ↓condV_f, tabs, reduceCtorEq, Array.toList, ↓reduceIte, Nat.reduceAdd, Nat.reduceLeDiff, Nat.reduceLT, Nat.reduceMul, Nat.reduceSub, Int.reduceToNat, Int.reduceSub, Int.reduceAdd, Int.reduceNeg])
  refine Pu.use (l8Those_spec p hb t ht hk) ?_
  (try simp (maxSteps := 1000000) (disch := first | assumption | (apply Ne.symm; assumption)) only [vz, vu, vv, eqS, eqFieldsV, ↓condV_t, ↓condV_f, tabs, reduceCtorEq, Array.toList, ↓reduceIte, Nat.reduceAdd, Nat.reduceLeDiff, Nat.reduceLT, Nat.reduceMul, Nat.reduceSub, Int.reduceToNat, Int.reduceSub, Int.reduceAdd, Int.reduceNeg])
  refine Pu.use (l15Cut_spec of _ hl (by omega) hx) ?_
  (try simp (maxSteps := 1000000) (disch := first | assumption | (apply Ne.symm; assumption)) only [vz, vu, vv, eqS, eqFieldsV, ↓condV_t, ↓condV_f, tabs, reduceCtorEq, Array.toList, ↓reduceIte, Nat.reduceAdd, Nat.reduceLeDiff, Nat.reduceLT, Nat.reduceMul, Nat.reduceSub, Int.reduceToNat, Int.reduceSub, Int.reduceAdd, Int.reduceNeg])
  exact hb1 _
theorem numL_bd {α : Type} [DecidableEq α] (k : Nat → α) (n : Nat) : ∀ x ∈ numL k n, 0 ≤ x ∧ x ≤ n := by
  intro x hx
  simp only [numL, List.mem_map, List.mem_range] at hx
  obtain ⟨i, hi, rfl⟩ := hx
  have h1 := numN_lt k hi
  have h2 := cntN_le k n
  omega
theorem cut_byK (p : Pg) (ts : List (List Nd)) (k : Nat) : cutL (byK p ts k) (whN p (ts.getD k default) (allP p)) = byK p ts (k + 1) := by
  unfold cutL meetL
  rw [byK_len]
  refine numL_ext fun i j hi hj => ?_
  rw [keysM_get hi, keysM_get hj, byK_get _ _ _ hi, byK_get _ _ _ hj, indL_get hi, indL_get hj, maskN_iff, Prod.mk.injEq]
  have e : ∀ i : Nat, i < allP p → ((if (i : Int) ∈ whN p (ts.getD k default) (allP p) then 1 else 0 : Int) = bitP p (ts.getD k default) i) := fun i hi => by
    have : (i : Int) ∈ whN p (ts.getD k default) (allP p) ↔ holdP p (ts.getD k default) i = true := by
      rw [whN_mem]
      constructor
      · rintro ⟨j, hj, _, h⟩
        have : i = j := by omega
        rw [this]; exact h
      · intro h; exact ⟨i, rfl, hi, h⟩
    unfold bitP
    by_cases hh : holdP p (ts.getD k default) i = true
    · rw [if_pos (this.2 hh), if_pos hh]; rfl
    · rw [if_neg (fun h => hh (this.1 h)), if_neg hh]; rfl
  rw [e i hi, e j hj]
  have hn : (((numN (fun no => maskN p ts no k) i : Nat) : Int) = ((numN (fun no => maskN p ts no k) j : Nat) : Int)) ↔ maskN p ts i k = maskN p ts j k := by
    rw [Int.ofNat_inj]; exact numN_iff
  rw [hn, Int.ofNat_inj]
theorem l15By_spec (p : Pg) (hb : smallP p = true) (ts : List (List Nd)) (hl : ts.length ≤ 8) (hv : ∀ t ∈ ts, vT t) (hk : ∀ t ∈ ts, kind p.wide p.vars t = 2) : Pu Tryz.prog 29 [aPg p, Nss ts] (aS (byK p ts ts.length)) := by
  refine ⟨fun H => CallT.fin ?_⟩
  have hs := smallP_of hb
  have hal := allP_bd hs
  have hsp := statesP_nat hs
  refine W29_ok ?_; simp (maxSteps := 1000000) (disch := first | assumption | (apply Ne.symm; assumption)) only [W29, vz, vu, vv, eqS, eqFieldsV, ↓condV_t, ↓condV_f, tabs, reduceCtorEq, Array.toList, ↓reduceIte, Nat.reduceAdd, Nat.reduceLeDiff, Nat.reduceLT, Nat.reduceMul, Nat.reduceSub, Int.reduceToNat, Int.reduceSub, Int.reduceAdd, Int.reduceNeg, makeSliceV]
  intro r2 h2 r4 n42 h4
  have nn42 := Ne.symm n42
  (try simp (maxSteps := 1000000) (disch := first | assumption | (apply Ne.symm; assumption)) only [vz, vu, vv, eqS, eqFieldsV, ↓condV_t, ↓condV_f, tabs, reduceCtorEq, Array.toList, ↓reduceIte, Nat.reduceAdd, Nat.reduceLeDiff, Nat.reduceLT, Nat.reduceMul, Nat.reduceSub, Int.reduceToNat, Int.reduceSub, Int.reduceAdd, Int.reduceNeg])
  refine Pu.use (l7Many_spec p hb) ?_
  rw [hsp]
  (try simp (maxSteps := 1000000) (disch := first | assumption | (apply Ne.symm; assumption)) only [vz, vu, vv, eqS, eqFieldsV, ↓condV_t, ↓condV_f, tabs, reduceCtorEq, Array.toList, ↓reduceIte, Nat.reduceAdd, Nat.reduceLeDiff, Nat.reduceLT, Nat.reduceMul, Nat.reduceSub, Int.reduceToNat, Int.reduceSub, Int.reduceAdd, Int.reduceNeg])
  refine ⟨by omega, by omega, by omega, by omega, ?_⟩
  intro q nq4 nq2 hq r5 n5q n54 n52 h5
  have nn5q := Ne.symm n5q
  have nn54 := Ne.symm n54
  have nn52 := Ne.symm n52
  have ez : zerosA (allP p) [AV.p (PV.int IntKind.i64 0)] = cP fI (byK p ts 0) := by
    rw [byK_zero, cP, List.map_replicate]
    simp [zerosA]
  rw [ez]
  have h05 : ((H.set r2 [I p.wide, I p.vars, Ns p.start, Cms p.cmds]).set r4 [AV.p .nil]) r5 = none := by rw [Heap.set_other n54, Heap.set_other n52]; exact h5
  have h0q : ((H.set r2 [I p.wide, I p.vars, Ns p.start, Cms p.cmds]).set r4 [AV.p .nil]) q = none := by rw [Heap.set_other nq4, Heap.set_other nq2]; exact hq
  have f2 : ((H.set r2 [I p.wide, I p.vars, Ns p.start, Cms p.cmds]).set r4 [AV.p .nil]) r2 = some [I p.wide, I p.vars, Ns p.start, Cms p.cmds] := by rw [Heap.set_other nn42, Heap.set_same]
  have f4 : ((H.set r2 [I p.wide, I p.vars, Ns p.start, Cms p.cmds]).set r4 [AV.p .nil]) r4 = some [AV.p .nil] := Heap.set_same _ _ _
  have hlH : Heap.le H ((H.set r2 [I p.wide, I p.vars, Ns p.start, Cms p.cmds]).set r4 [AV.p .nil]) := Heap.le_setN (Heap.le_set h2) h4
  generalize (H.set r2 [I p.wide, I p.vars, Ns p.start, Cms p.cmds]).set r4 [AV.p .nil] = H0 at h05 h0q f2 f4 hlH ⊢
  have kl := byK_len p ts
  refine L29_0_rule ((0 : Nat), rowP q (byK p ts 0), (H0.set q (cP fI (byK p ts 0))).set r5 [rowP q (byK p ts 0)]) (fun s => I s.1) (fun s => s.2.2)
    (fun s => s.1 ≤ ts.length ∧ s.2.2 r5 = some [s.2.1] ∧ Heap.le H0 s.2.2 ∧ (s.2.1 = Is (byK p ts s.1) ∨ ∃ q, s.2.1 = rowP q (byK p ts s.1) ∧ s.2.2 q = some (cP fI (byK p ts s.1)) ∧ H0 q = none ∧ q ≠ r5)) (fun s => ts.length - s.1)
    ⟨⟨by simp, Heap.set_same _ _ _, Heap.le_setN (Heap.le_set h0q) h05, .inr ⟨q, rfl, by show ((H0.set q (cP fI (byK p ts 0))).set r5 [rowP q (byK p ts 0)]) q = _; rw [Heap.set_other nn5q, Heap.set_same], h0q, nn5q⟩⟩, .refl _, ?_⟩ ?_
  · simp only [rowP, kl]; exact Heap.le_refl _
  rintro ⟨k, x, G⟩ ⟨hi, g5, hG, hx⟩
  dsimp only at hi g5 hG hx
  have hbd : ∀ y ∈ byK p ts k, -1000000 ≤ y ∧ y ≤ 1000000 := fun y hy => by
    have := numL_bd _ _ y hy; omega
  have wk : ∀ (C : AV → AV), (∀ {q sz es a a'}, FrzR q sz es a a' → FrzR q sz es (C a) (C a')) → ∃ G1, Wk (C (.agg [x])) G (C (aS (byK p ts k))) G1 ∧ Heap.le H0 G1 ∧ G1 r5 = some [x] := by
    intro C hC
    rcases hx with rfl | ⟨q, rfl, hq, hq0, hq5⟩
    · exact ⟨G, .refl _ _, hG, g5⟩
    · refine ⟨G.del q, Wk.frz (r := q) (sz := 1) (es := (byK p ts k).map fun n => [fI n]) (by omega) (by rw [flat_P]; exact hq) (szP _ _) (hC (.agg (.cons frz_row .nil))), Heap.le_del hG hq0, by rw [Heap.del_other (Ne.symm hq5)]; exact g5⟩
  have g2 := hG _ _ f2
  have g4 := hG _ _ f4
  (try simp (maxSteps := 1000000) (disch := first | assumption | (apply Ne.symm; assumption)) only [vz, vu, vv, eqS, eqFieldsV, ↓condV_t, ↓condV_f, tabs, reduceCtorEq, Array.toList, ↓reduceIte, Nat.reduceAdd, Nat.reduceLeDiff, Nat.reduceLT, Nat.reduceMul, Nat.reduceSub, Int.reduceToNat, Int.reduceSub, Int.reduceAdd, Int.reduceNeg, B29_0])
  refine ⟨fun h1 => ⟨by omega, h1, ?_⟩, fun h1 => ?_⟩
  · have hlt : k < ts.length := by omega
    have hm : ts.getD k default ∈ ts := getD_all (p := fun x => x ∈ ts) (fun _ h => h) hlt
    (try simp (maxSteps := 1000000) (disch := first | assumption | (apply Ne.symm; assumption)) only [vz, vu, vv, eqS, eqFieldsV, ↓condV_t, ↓condV_f, tabs, reduceCtorEq, Array.toList, ↓reduceIte, Nat.reduceAdd, Nat.reduceLeDiff, Nat.reduceLT, Nat.reduceMul, Nat.reduceSub, Int.reduceToNat, Int.reduceSub, Int.reduceAdd, Int.reduceNeg, load_at g2, load_at g5])
    obtain ⟨G1, w1, le1, g15⟩ := wk (fun v => .tup [aPg p, v, Ns (ts.getD k default)]) (fun h => .tup (.cons (.same _) (.cons h (.cons (.same _) .nil))))
    refine CallT.pre (Pu.use (l15Split_spec p hb (byK p ts k) (by rw [kl]; omega) hbd (ts.getD k default) (hv _ hm) (hk _ hm)) ?_) w1
    rw [cut_byK]
    (try simp (maxSteps := 1000000) (disch := first | assumption | (apply Ne.symm; assumption)) only [vz, vu, vv, eqS, eqFieldsV, ↓condV_t, ↓condV_f, tabs, reduceCtorEq, Array.toList, ↓reduceIte, Nat.reduceAdd, Nat.reduceLeDiff, Nat.reduceLT, Nat.reduceMul, Nat.reduceSub, Int.reduceToNat, Int.reduceSub, Int.reduceAdd, Int.reduceNeg, store_at g15])
    refine ⟨(k + 1, Is (byK p ts (k + 1)), G1.set r5 [Is (byK p ts (k + 1))]), ⟨by simp only; omega, Heap.set_same _ _ _, Heap.le_setN le1 h05, .inl rfl⟩, by simp only; omega, ?_, Heap.le_refl _⟩
    rw [wk_int, i64_id (by omega) (by omega)]; simp
  · have : k = ts.length := by omega
    subst this
    (try simp (maxSteps := 1000000) (disch := first | assumption | (apply Ne.symm; assumption)) only [vz, vu, vv, eqS, eqFieldsV, ↓condV_t, ↓condV_f, tabs, reduceCtorEq, Array.toList, ↓reduceIte, Nat.reduceAdd, Nat.reduceLeDiff, Nat.reduceLT, Nat.reduceMul, Nat.reduceSub, Int.reduceToNat, Int.reduceSub, Int.reduceAdd, Int.reduceNeg, load_at g5])
    have hcx : x.isCell = true := by
      rcases hx with rfl | ⟨q, rfl, _⟩ <;> rfl
    have h42 : r4 ≠ r5 := nn54
    have leG : Heap.le H (G.set r4 [x]) := Heap.le_setN (Heap.le_trans hlH hG) h4
    (try simp (maxSteps := 1000000) (disch := first | assumption | (apply Ne.symm; assumption)) only [vz, vu, vv, eqS, eqFieldsV, ↓condV_t, ↓condV_f, tabs, reduceCtorEq, Array.toList, ↓reduceIte, Nat.reduceAdd, Nat.reduceLeDiff, Nat.reduceLT, Nat.reduceMul, Nat.reduceSub, Int.reduceToNat, Int.reduceSub, Int.reduceAdd, Int.reduceNeg, store_at g4])
    refine ⟨hcx, ?_⟩
    rcases hx with rfl | ⟨q, rfl, hq, hq0, hq5⟩
    · exact ⟨_, _, .forget leG, rfl, rfl⟩
    · have hq4 : q ≠ r4 := fun e => by rw [e, f4] at hq0; cases hq0
      have hHq : H q = none := by
        cases hh : H q with
        | none => rfl
        | some b => rw [hlH _ _ hh] at hq0; cases hq0
      exact ⟨_, _, .trans (Wk.frz (r := q) (sz := 1) (es := (byK p ts ts.length).map fun n => [fI n]) (v' := aS (byK p ts ts.length)) (by omega) (by rw [Heap.set_other hq4, flat_P]; exact hq) (szP _ _) (.agg (.cons frz_row .nil))) (.forget (Heap.le_del leG hHq)), rfl, rfl⟩
def sbOk (p : Pg) (ts : List (List Nd)) : Bool := smallP p && okTs p ts 0
def sbR (p : Pg) (ts : List (List Nd)) : List Int := if sbOk p ts then byK p ts ts.length else []
theorem SightBy_ref (p : Pg) (hp : vPg p) (ts : List (List Nd)) (hl : ts.length ≤ 1048576) (hv : ∀ t ∈ ts, vT t) : Pu Tryz.prog 7 [aPg p, Nss ts] (.tup [aS (sbR p ts), B (sbOk p ts)]) := by
  refine ⟨fun H => CallT.fin ?_⟩
  refine W7_ok ?_; simp (maxSteps := 1000000) (disch := first | assumption | (apply Ne.symm; assumption)) only [W7, vz, vu, vv, eqS, eqFieldsV, ↓condV_t, ↓condV_f, tabs, reduceCtorEq, Array.toList, ↓reduceIte, Nat.reduceAdd, Nat.reduceLeDiff, Nat.reduceLT, Nat.reduceMul, Nat.reduceSub, Int.reduceToNat, Int.reduceSub, Int.reduceAdd, Int.reduceNeg]
  intro r2 h2 r4 n42 h4
  have nn42 := Ne.symm n42
  have hb1 : ∀ z, Heap.le H ((H.set r2 [I p.wide, I p.vars, Ns p.start, Cms p.cmds]).set r4 z) := fun z => Heap.le_setN (Heap.le_set h2) h4
  have bad : sbOk p ts = false → ∀ z, wkK (fun r H' => r = AV.tup [aS (sbR p ts), B (sbOk p ts)] ∧ H' = H) (.tup [.agg [.p .nil], B false]) ((H.set r2 [I p.wide, I p.vars, Ns p.start, Cms p.cmds]).set r4 z) := fun hk z => by
    refine ⟨_, _, .trans (.val (v' := .tup [aS [], B false]) (wk_tup ⟨wk_agg ⟨.nil, trivial⟩, .refl _, trivial⟩)) (.forget (hb1 z)), by simp [sbR, hk], rfl⟩
  (try simp (maxSteps := 1000000) (disch := first | assumption | (apply Ne.symm; assumption)) only [vz, vu, vv, eqS, eqFieldsV, ↓condV_t, ↓condV_f, tabs, reduceCtorEq, Array.toList, ↓reduceIte, Nat.reduceAdd, Nat.reduceLeDiff, Nat.reduceLT, Nat.reduceMul, Nat.reduceSub, Int.reduceToNat, Int.reduceSub, Int.reduceAdd, Int.reduceNeg])
  refine Pu.use (l7Small_spec p hp) ?_
  cases hb : smallP p
  · (try simp (maxSteps := 1000000) (disch := first | assumption | (apply Ne.symm; assumption)) only [vz, vu, vv, eqS, eqFieldsV, ↓condV_t, ↓condV_f, tabs, reduceCtorEq, Array.toList, ↓reduceIte, Nat.reduceAdd, Nat.reduceLeDiff, Nat.reduceLT, Nat.reduceMul, Nat.reduceSub, Int.reduceToNat, Int.reduceSub, Int.reduceAdd, Int.reduceNeg])
    exact bad (by simp [sbOk, hb]) _
  (try simp (maxSteps := 1000000) (disch := first | assumption | (apply Ne.symm; assumption)) only [vz, vu, vv, eqS, eqFieldsV, ↓condV_t, ↓condV_f, tabs, reduceCtorEq, Array.toList, ↓reduceIte, Nat.reduceAdd, Nat.reduceLeDiff, Nat.reduceLT, Nat.reduceMul, Nat.reduceSub, Int.reduceToNat, Int.reduceSub, Int.reduceAdd, Int.reduceNeg])
  refine Pu.use (l15Preds_spec p ts hl hv) ?_
  cases hk : okTs p ts 0
  · (try simp (maxSteps := 1000000) (disch := first | assumption | (apply Ne.symm; assumption)) only [vz, vu, vv, eqS, eqFieldsV, ↓condV_t, ↓condV_f, tabs, reduceCtorEq, Array.toList, ↓reduceIte, Nat.reduceAdd, Nat.reduceLeDiff, Nat.reduceLT, Nat.reduceMul, Nat.reduceSub, Int.reduceToNat, Int.reduceSub, Int.reduceAdd, Int.reduceNeg])
    exact bad (by simp [sbOk, hk]) _
  obtain ⟨_, k8, kk⟩ := okTs_k hk
  have hok : sbOk p ts = true := by simp [sbOk, hb, hk]
  (try simp (maxSteps := 1000000) (disch := first | assumption | (apply Ne.symm; assumption)) only [vz, vu, vv, eqS, eqFieldsV, ↓condV_t, ↓condV_f, tabs, reduceCtorEq, Array.toList, ↓reduceIte, Nat.reduceAdd, Nat.reduceLeDiff, Nat.reduceLT, Nat.reduceMul, Nat.reduceSub, Int.reduceToNat, Int.reduceSub, Int.reduceAdd, Int.reduceNeg])
  refine Pu.use (l15By_spec p hb ts k8 hv kk) ?_
  (try simp (maxSteps := 1000000) (disch := first | assumption | (apply Ne.symm; assumption)) only [vz, vu, vv, eqS, eqFieldsV, ↓condV_t, ↓condV_f, tabs, reduceCtorEq, Array.toList, ↓reduceIte, Nat.reduceAdd, Nat.reduceLeDiff, Nat.reduceLT, Nat.reduceMul, Nat.reduceSub, Int.reduceToNat, Int.reduceSub, Int.reduceAdd, Int.reduceNeg])
  exact ⟨_, _, .forget (hb1 _), by simp [sbR, hok], rfl⟩
end Go.Proofs.YtdnfiacjoghfkaaGreat
/- Specs: SightBy in the program; SplitBy. -/
namespace Go.Proofs.YtdnfiacjoghfkaaGreat
open Go Go.Sep Go.Pt
set_option linter.unusedSimpArgs false
set_option linter.unusedVariables false
attribute [local irreducible] CallT

theorem orI (a b : Nat) (ha : a < 2 ^ 62) (hb : b < 2 ^ 62) : bitsI .or .i64 (a : Int) (b : Int) = ((a ||| b : Nat) : Int) := by
  have e : ∀ x : Nat, x < 2 ^ 62 → (BitVec.ofInt IntKind.i64.bits (x : Int)).toNat = x := by
    intro x hx
    have : BitVec.ofInt IntKind.i64.bits (x : Int) = BitVec.ofNat 64 x := by
      apply BitVec.eq_of_toNat_eq; simp [IntKind.bits]
    rw [this]
    show (BitVec.ofNat 64 x).toNat = x
    rw [BitVec.toNat_ofNat, Nat.mod_eq_of_lt (by omega)]
  simp only [bitsI]
  rw [BitVec.toNat_or, e a ha, e b hb]
  have := Nat.or_lt_two_pow ha hb
  exact i64_id (by omega) (by omega)
/-- The keys: of the states below no whole, of the state no by the first k conditions. -/
def keyA (p : Pg) (ts : List (List Nd)) (no k : Nat) : List (Int × Int) := (List.range (allP p)).map fun j => if j < no then ((maskN p ts j ts.length : Int), 0) else if j = no then ((maskN p ts j k : Int), 0) else (0, 0)
theorem keyA_len (p : Pg) (ts : List (List Nd)) (no k : Nat) : (keyA p ts no k).length = allP p := by simp [keyA]
theorem keyA_get (p : Pg) (ts : List (List Nd)) {no k : Nat} (h : no < allP p) : (keyA p ts no k).getD no default = ((maskN p ts no k : Int), 0) := by
  simp [keyA, List.getD, h]
theorem keyA_set (p : Pg) (ts : List (List Nd)) {no k : Nat} (h : no < allP p) : (keyA p ts no k).set no ((maskN p ts no (k + 1) : Int), 0) = keyA p ts no (k + 1) := by
  apply List.ext_getElem
  · simp [keyA]
  · intro i h1 h2
    by_cases e : no = i
    · subst e; simp [keyA]
    · rw [List.getElem_set_ne e]
      have e' : ¬ i = no := fun h => e h.symm
      simp [keyA, e']
theorem keyA_next (p : Pg) (ts : List (List Nd)) (no : Nat) : keyA p ts no ts.length = keyA p ts (no + 1) 0 := by
  apply List.ext_getElem
  · simp [keyA]
  · intro i h1 h2
    simp only [keyA, List.getElem_map, List.getElem_range]
    by_cases e : i < no
    · rw [if_pos e, if_pos (by omega)]
    · by_cases e2 : i = no
      · rw [if_neg e, if_pos e2, if_pos (by omega)]
      · rw [if_neg e, if_neg e2, if_neg (by omega)]
        split <;> simp [maskN]
theorem keyA_zero (p : Pg) (ts : List (List Nd)) : keyA p ts 0 0 = List.replicate (allP p) (0, 0) := by
  apply List.ext_getElem
  · simp [keyA]
  · intro i h1 h2
    simp only [keyA, List.getElem_map, List.getElem_range, List.getElem_replicate, Nat.not_lt_zero, if_false]
    split <;> simp [maskN]
theorem keyA_num (p : Pg) (ts : List (List Nd)) : numL (kN (keyA p ts (allP p) 0)) (allP p) = byK p ts ts.length := by
  refine numL_ext fun i j hi hj => ?_
  have e : ∀ i, i < allP p → kN (keyA p ts (allP p) 0) i = ((maskN p ts i ts.length : Int), 0) := fun i hi => by simp [keyA, kN, List.getD, hi]
  rw [e i hi, e j hj, Prod.mk.injEq, Int.ofNat_inj]
  simp
theorem keyA_r (p : Pg) (ts : List (List Nd)) (h8 : ts.length ≤ 8) : ∀ x ∈ keyA p ts (allP p) 0, i64R x.1 ∧ i64R x.2 := by
  intro x hx
  simp only [keyA, List.mem_map, List.mem_range] at hx
  obtain ⟨j, hj, rfl⟩ := hx
  rw [if_pos hj]
  have h1 := maskN_lt p ts j ts.length
  have h2 := Nat.pow_le_pow_right (n := 2) (by decide) h8
  have h3 : (2 : Nat) ^ 8 = 256 := by decide
  exact ⟨⟨by simp only; omega, by simp only; omega⟩, ⟨by simp only; omega, by simp only; omega⟩⟩

theorem SightBy_impl (p : Pg) (hp : vPg p) (ts : List (List Nd)) (hl : ts.length ≤ 1048576) (hv : ∀ t ∈ ts, vT t) {H : Heap} {K : AV → Heap → Prop}
    (h0 : sbOk p ts = false → K (.tup [.agg [.p .nil], B false]) H)
    (h : sbOk p ts = true → ∀ q, H q = none → K (.tup [.agg [rowP q (byK p ts ts.length)], B true]) (H.set q (cP fI (byK p ts ts.length)))) : CallT Tryz.prog 10 [aPg p, Nss ts] H K := by
  refine CallT.fin ?_
  refine W10_ok ?_; simp (maxSteps := 1000000) (disch := first | assumption | (apply Ne.symm; assumption)) only [W10, vz, vu, vv, eqS, eqFieldsV, ↓condV_t, ↓condV_f, tabs, reduceCtorEq, Array.toList, ↓reduceIte, Nat.reduceAdd, Nat.reduceLeDiff, Nat.reduceLT, Nat.reduceMul, Nat.reduceSub, Int.reduceToNat, Int.reduceSub, Int.reduceAdd, Int.reduceNeg, makeSliceV]
  intro r2 h2 r4 n42 h4
  have nn42 := Ne.symm n42
  have hb1 : ∀ z, Heap.le H ((H.set r2 [I p.wide, I p.vars, Ns p.start, Cms p.cmds]).set r4 z) := fun z => Heap.le_setN (Heap.le_set h2) h4
  have bad : sbOk p ts = false → ∀ z, wkK K (.tup [.agg [.p .nil], B false]) ((H.set r2 [I p.wide, I p.vars, Ns p.start, Cms p.cmds]).set r4 z) := fun hk z => fin_le (hb1 z) (h0 hk)
  (try simp (maxSteps := 1000000) (disch := first | assumption | (apply Ne.symm; assumption)) only [vz, vu, vv, eqS, eqFieldsV, ↓condV_t, ↓condV_f, tabs, reduceCtorEq, Array.toList, ↓reduceIte, Nat.reduceAdd, Nat.reduceLeDiff, Nat.reduceLT, Nat.reduceMul, Nat.reduceSub, Int.reduceToNat, Int.reduceSub, Int.reduceAdd, Int.reduceNeg])
  refine Pu.use (isSmall_spec p hp) ?_
  cases hb : smallP p
  · (try simp (maxSteps := 1000000) (disch := first | assumption | (apply Ne.symm; assumption)) only [vz, vu, vv, eqS, eqFieldsV, ↓condV_t, ↓condV_f, tabs, reduceCtorEq, Array.toList, ↓reduceIte, Nat.reduceAdd, Nat.reduceLeDiff, Nat.reduceLT, Nat.reduceMul, Nat.reduceSub, Int.reduceToNat, Int.reduceSub, Int.reduceAdd, Int.reduceNeg])
    exact bad (by simp [sbOk, hb]) _
  (try simp (maxSteps := 1000000) (disch := first | assumption | (apply Ne.symm; assumption)) only [vz, vu, vv, eqS, eqFieldsV, ↓condV_t, ↓condV_f, tabs, reduceCtorEq, Array.toList, ↓reduceIte, Nat.reduceAdd, Nat.reduceLeDiff, Nat.reduceLT, Nat.reduceMul, Nat.reduceSub, Int.reduceToNat, Int.reduceSub, Int.reduceAdd, Int.reduceNeg])
  refine Pu.use (arePreds_spec p ts hl hv 0) ?_
  cases hk : okTs p ts 0
  · (try simp (maxSteps := 1000000) (disch := first | assumption | (apply Ne.symm; assumption)) only [vz, vu, vv, eqS, eqFieldsV, ↓condV_t, ↓condV_f, tabs, reduceCtorEq, Array.toList, ↓reduceIte, Nat.reduceAdd, Nat.reduceLeDiff, Nat.reduceLT, Nat.reduceMul, Nat.reduceSub, Int.reduceToNat, Int.reduceSub, Int.reduceAdd, Int.reduceNeg])
    exact bad (by simp [sbOk, hk]) _
  obtain ⟨_, k8, kk⟩ := okTs_k hk
  have hs := smallP_of hb
  have hal := allP_bd hs
  have hsp := statesP_nat hs
  have hok : sbOk p ts = true := by simp [sbOk, hb, hk]
  (try simp (maxSteps := 1000000) (disch := first | assumption | (apply Ne.symm; assumption)) only [vz, vu, vv, eqS, eqFieldsV, ↓condV_t, ↓condV_f, tabs, reduceCtorEq, Array.toList, ↓reduceIte, Nat.reduceAdd, Nat.reduceLeDiff, Nat.reduceLT, Nat.reduceMul, Nat.reduceSub, Int.reduceToNat, Int.reduceSub, Int.reduceAdd, Int.reduceNeg])
  refine Pu.use (states_spec p hb) ?_
  rw [hsp]
  (try simp (maxSteps := 1000000) (disch := first | assumption | (apply Ne.symm; assumption)) only [vz, vu, vv, eqS, eqFieldsV, ↓condV_t, ↓condV_f, tabs, reduceCtorEq, Array.toList, ↓reduceIte, Nat.reduceAdd, Nat.reduceLeDiff, Nat.reduceLT, Nat.reduceMul, Nat.reduceSub, Int.reduceToNat, Int.reduceSub, Int.reduceAdd, Int.reduceNeg])
  refine ⟨by omega, by omega, by omega, by omega, fun q n4 n2 hq => ?_⟩
  have nn4 := Ne.symm n4
  have nn2 := Ne.symm n2
  have ez : zerosA (allP p) [AV.p (PV.int IntKind.i64 0), AV.p (PV.int IntKind.i64 0)] = c2 (keyA p ts 0 0) := by
    rw [keyA_zero, c2, List.map_replicate]
    simp only [zerosA, cells]
    rw [List.map_flatten, List.map_replicate]; rfl
  rw [ez]
  have f2 : ((H.set r2 [I p.wide, I p.vars, Ns p.start, Cms p.cmds]).set r4 [AV.p .nil]) r2 = some [I p.wide, I p.vars, Ns p.start, Cms p.cmds] := by rw [Heap.set_other nn42, Heap.set_same]
  have f4 : ((H.set r2 [I p.wide, I p.vars, Ns p.start, Cms p.cmds]).set r4 [AV.p .nil]) r4 = some [AV.p .nil] := Heap.set_same _ _ _
  have fq : ((H.set r2 [I p.wide, I p.vars, Ns p.start, Cms p.cmds]).set r4 [AV.p .nil]) q = none := by rw [Heap.set_other n4, Heap.set_other n2]; exact hq
  have hlH := hb1 [AV.p .nil]
  generalize (H.set r2 [I p.wide, I p.vars, Ns p.start, Cms p.cmds]).set r4 [AV.p .nil] = G at f2 f4 fq hlH ⊢
  have kl := keyA_len p ts
  refine L10_0_rule (0 : Nat) (fun s => I s) (fun s => G.set q (c2 (keyA p ts s 0))) (fun s => s ≤ allP p) (fun s => allP p - s) ⟨by omega, .refl _, Heap.le_refl _⟩ ?_
  intro no hno
  have k2 : ∀ z, (G.set q z) r2 = some [I p.wide, I p.vars, Ns p.start, Cms p.cmds] := fun z => by rw [Heap.set_other nn2]; exact f2
  (try simp (maxSteps := 1000000) (disch := first | assumption | (apply Ne.symm; assumption)) only [vz, vu, vv, eqS, eqFieldsV, ↓condV_t, ↓condV_f, tabs, reduceCtorEq, Array.toList, ↓reduceIte, Nat.reduceAdd, Nat.reduceLeDiff, Nat.reduceLT, Nat.reduceMul, Nat.reduceSub, Int.reduceToNat, Int.reduceSub, Int.reduceAdd, Int.reduceNeg, B10_0, load_at (k2 _)])
  refine ⟨fun h1 => ?_, fun h1 => ?_⟩
  · have hlt : no < allP p := by omega
    refine Pu.use (stateOf_spec p hs no (by omega)) ?_
    (try simp (maxSteps := 1000000) (disch := first | assumption | (apply Ne.symm; assumption)) only [vz, vu, vv, eqS, eqFieldsV, ↓condV_t, ↓condV_f, tabs, reduceCtorEq, Array.toList, ↓reduceIte, Nat.reduceAdd, Nat.reduceLeDiff, Nat.reduceLT, Nat.reduceMul, Nat.reduceSub, Int.reduceToNat, Int.reduceSub, Int.reduceAdd, Int.reduceNeg])
    refine L10_1_rule (0 : Nat) (fun s => I s) (fun s => G.set q (c2 (keyA p ts no s))) (fun s => s ≤ ts.length) (fun s => ts.length - s) ⟨by omega, .refl _, Heap.le_refl _⟩ ?_
    intro k hk2
    have kg := keyA_get p ts (k := k) hlt
    have ks := keyA_set p ts (k := k) hlt
    have kl2 := kl no k
    have rd := c2_rd (xs := keyA p ts no k) (t := no) (by omega)
    have st := c2_set (xs := keyA p ts no k) (t := no) (by omega)
    have cl := c2_len (keyA p ts no k)
    rw [kg] at rd st
    have kq : (G.set q (c2 (keyA p ts no k))) q = some (c2 (keyA p ts no k)) := Heap.set_same _ _ _
    have k2' := k2 (c2 (keyA p ts no k))
    generalize hX : c2 (keyA p ts no k) = X at *
    (try simp (maxSteps := 1000000) (disch := first | assumption | (apply Ne.symm; assumption)) only [vz, vu, vv, eqS, eqFieldsV, ↓condV_t, ↓condV_f, tabs, reduceCtorEq, Array.toList, ↓reduceIte, Nat.reduceAdd, Nat.reduceLeDiff, Nat.reduceLT, Nat.reduceMul, Nat.reduceSub, Int.reduceToNat, Int.reduceSub, Int.reduceAdd, Int.reduceNeg, B10_1, load_at k2', load_at kq])
    refine ⟨fun h5 => ⟨by omega, h5, by omega, by omega, ?_⟩, fun h5 => ?_⟩
    · have hlt2 : k < ts.length := by omega
      have hm : ts.getD k default ∈ ts := getD_all (p := fun x => x ∈ ts) (fun _ h => h) hlt2
      have hkt := kk _ hm
      have htv := hv _ hm
      (try simp (maxSteps := 1000000) (disch := first | assumption | (apply Ne.symm; assumption)) only [vz, vu, vv, eqS, eqFieldsV, ↓condV_t, ↓condV_f, tabs, reduceCtorEq, Array.toList, ↓reduceIte, Nat.reduceAdd, Nat.reduceLeDiff, Nat.reduceLT, Nat.reduceMul, Nat.reduceSub, Int.reduceToNat, Int.reduceSub, Int.reduceAdd, Int.reduceNeg, indexAddrV, tab_67, load_at kq, rd])
      refine ⟨by omega, by omega, by omega, by omega, by omega, ?_⟩
      have hsw := sw_of hs
      obtain ⟨w, v, e1, e2, e3, e4, hw1, hw5, hv1, hv4, hwv⟩ := hs.nat
      have hst1 := stP_len' p no
      have hst2 := stP_lt' p no
      have hval := tval_eq hs (fun x hm => (htv.2 x hm).1) hkt no hst1 hst2
      have hv1 := valueOf_spec (kd := 2) hsw htv.1 htv.2 (s := stP p no) (v := p.vars.toNat) hst1 hst2 (by decide) (by rw [e3, e4, ← e1, ← e2]; exact hkt)
      rw [hval] at hv1
      rw [e3, ← e1] at hv1
      refine Pu.use hv1 ?_
      have hbl := bitP_le p (ts.getD k default) no
      have hml := maskN_lt p ts no k
      have hk7 : k ≤ 7 := by omega
      have hp2 : (2 : Nat) ^ k ≤ 128 := Nat.pow_le_pow_right (n := 2) (by decide) hk7
      have hmin : min k IntKind.i64.bits = k := Nat.min_eq_left (show k ≤ 64 by omega)
      have hbk : bitP p (ts.getD k default) no * 2 ^ k ≤ 128 := by
        have := Nat.mul_le_mul_right (2 ^ k) hbl
        omega
      have eor : bitsI BinOp.or IntKind.i64 (maskN p ts no k : Int) (IntKind.i64.wrap (IntKind.i64.wrap (bitP p (ts.getD k default) no : Int) * 2 ^ min k IntKind.i64.bits)) = (maskN p ts no (k + 1) : Int) := by
        rw [hmin, i64_id (n := (bitP p (ts.getD k default) no : Int)) (by omega) (by omega)]
        have e1 : ((bitP p (ts.getD k default) no : Int) * 2 ^ k) = ((bitP p (ts.getD k default) no <<< k : Nat) : Int) := by
          rw [Nat.shiftLeft_eq]; simp
        have e2 : bitP p (ts.getD k default) no <<< k ≤ 128 := by rw [Nat.shiftLeft_eq]; exact hbk
        rw [e1, i64_id (by omega) (by omega), orI _ _ (by omega) (by omega), mask_or hml]
        rfl
      (try simp (maxSteps := 1000000) (disch := first | assumption | (apply Ne.symm; assumption)) only [vz, vu, vv, eqS, eqFieldsV, ↓condV_t, ↓condV_f, tabs, reduceCtorEq, Array.toList, ↓reduceIte, Nat.reduceAdd, Nat.reduceLeDiff, Nat.reduceLT, Nat.reduceMul, Nat.reduceSub, Int.reduceToNat, Int.reduceSub, Int.reduceAdd, Int.reduceNeg, load_at kq, store_at kq, rd, eor])
      have est := st (maskN p ts no (k + 1) : Int)
      simp only at est
      rw [est, ks]
      refine ⟨by omega, by omega, by omega, by omega, by omega, k + 1, by omega, by omega, ?_, Heap.le_refl _⟩
      rw [wk_int, i64_id (by omega) (by omega)]; simp
    · have : k = ts.length := by omega
      subst this
      refine ⟨no + 1, by omega, by omega, ?_, ?_⟩
      · rw [wk_int, i64_id (by omega) (by omega)]; simp
      · rw [← hX, keyA_next]; exact Heap.le_refl _
  · have : no = allP p := by omega
    subst this
    have hkl := kl (allP p) 0
    have hw := Wk.frz (v := .tup [row2 q (keyA p ts (allP p) 0)]) (v' := .tup [.p (.sl ((keyA p ts (allP p) 0).map e2))]) (H := G.set q (c2 (keyA p ts (allP p) 0))) (r := q) (sz := 2) (es := (keyA p ts (allP p) 0).map e2) (by omega) (Heap.set_same _ _ _) (sz2 _) (.tup (.cons frz_row2 .nil))
    rw [row2, hkl, Heap.del_set fq] at hw
    refine CallT.pre (numbered_spec (keyA p ts (allP p) 0) (by omega) (by omega) (keyA_r p ts k8) fun q2 hq2 => ?_) hw
    rw [hkl, keyA_num]
    have e42 : r4 ≠ q2 := fun e => by rw [← e, f4] at hq2; cases hq2
    have hq3 : H q2 = none := by
      cases hh : H q2 with
      | none => rfl
      | some b => rw [hlH _ _ hh] at hq2; cases hq2
    have := h hok q2 hq3
    have k4 : (G.set q2 (cP fI (byK p ts ts.length))) r4 = some [AV.p .nil] := by rw [Heap.set_other e42]; exact f4
    generalize cP fI (byK p ts ts.length) = z at this k4 ⊢
    (try simp (maxSteps := 1000000) (disch := first | assumption | (apply Ne.symm; assumption)) only [vz, vu, vv, eqS, eqFieldsV, ↓condV_t, ↓condV_f, tabs, reduceCtorEq, Array.toList, ↓reduceIte, Nat.reduceAdd, Nat.reduceLeDiff, Nat.reduceLT, Nat.reduceMul, Nat.reduceSub, Int.reduceToNat, Int.reduceSub, Int.reduceAdd, Int.reduceNeg, store_at k4])
    refine fin_le ?_ this
    intro y b hy
    by_cases e : y = q2
    · subst e; rw [Heap.set_same] at hy; rw [Heap.set_other (Ne.symm e42), Heap.set_same]; exact hy
    · rw [Heap.set_other e] at hy
      have hy4 : y ≠ r4 := fun e => by rw [e, h4] at hy; cases hy
      rw [Heap.set_other hy4, Heap.set_other e]; exact hlH _ _ hy
end Go.Proofs.YtdnfiacjoghfkaaGreat
