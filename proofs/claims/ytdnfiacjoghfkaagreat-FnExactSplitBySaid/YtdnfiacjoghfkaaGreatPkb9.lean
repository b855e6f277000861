/- The row of the law that SplitBy answers as the reference does: whatever the arguments, it answers true, and what it is told reads as it did. -/
import Derived.Test.YtdnfiacjoghfkaaGreatPkb8
import Derived.Test.YtdnfiacjoghfkaaGreatRows
import Derived.WalkKit
import Derived.ProofKit
import Derived.OpenShut
set_option linter.unusedVariables false
set_option linter.unusedSimpArgs false
/- Specs: two abstractions laid together, as numbers of keys: implementation and reference. -/
namespace Go.Proofs.YtdnfiacjoghfkaaGreat
open Go Go.Sep Go.Pt
set_option linter.unusedSimpArgs false
set_option linter.unusedVariables false
attribute [local irreducible] CallT

abbrev row2 (q : Nat) (xs : List (Int × Int)) : AV := .sl q 2 0 xs.length
abbrev c2 (xs : List (Int × Int)) : List AV := cells (xs.map e2)
theorem sz2 (xs : List (Int × Int)) : Sized 2 (xs.map e2) := Go.Sep.sized_map (f := e2) (fun _ => rfl) xs
theorem frz_row2 {q : Nat} {xs : List (Int × Int)} : FrzR q 2 (xs.map e2) (row2 q xs) (.p (.sl (xs.map e2))) := by
  have : FrzR q 2 (xs.map e2) (.sl q 2 0 (xs.map e2).length) (.p (.sl (xs.map e2))) := .here
  rwa [List.length_map] at this
theorem push_key {q : Nat} {xs : List (Int × Int)} {a b : Int} {G : Heap} {K : AV → Heap → Prop} (hq : G q = some (c2 xs)) (hl : xs.length ≤ 1000000)
    (h : ∀ q', G q' = none → q' ≠ q → K (row2 q' (xs ++ [(a, b)])) ((G.del q).set q' (c2 (xs ++ [(a, b)])))) :
    buildSliceV tab 63 1 [(0, .agg [I a, I b])] G (wkK fun v H1 => appendV tab 63 63 (row2 q xs) v H1 (wkK K)) := by
  have := push_own (tab := tab) (r := q) (sz := 2) (es := xs.map e2) (cs := e2 (a, b)) (x := .agg [I a, I b]) (H := G) (K := K) tab_63 rfl tab_67 rfl rfl (bz := 16) rfl (by rfl) (by omega) (by omega) rfl hq (sz2 xs) (by simp only [List.length_map]; omega) (by simp only [List.length_map]; omega) fun r' hr' => by
    have hne : r' ≠ q := by rintro rfl; rw [hq] at hr'; cases hr'
    have := h r' hr' hne
    simpa only [Go.Sep.own, c2, row2, List.length_map, List.map_append, List.length_append, List.map_cons, List.map_nil, List.length_cons, List.length_nil] using this
  simpa only [Go.Sep.own, List.length_map] using this

def keysM (xs ys : List Int) (n : Nat) : List (Int × Int) := (List.range n).map fun i => (xs.getD i default, ys.getD i default)
theorem keysM_len (xs ys : List Int) (n : Nat) : (keysM xs ys n).length = n := by simp [keysM]
theorem keysM_succ (xs ys : List Int) (n : Nat) : keysM xs ys (n + 1) = keysM xs ys n ++ [(xs.getD n default, ys.getD n default)] := by simp [keysM, List.range_succ]
theorem keysM_get {xs ys : List Int} {n i : Nat} (h : i < n) : kN (keysM xs ys n) i = (xs.getD i default, ys.getD i default) := by simp [keysM, kN, List.getD, h]
def meetL (xs ys : List Int) : List Int := numL (kN (keysM xs ys xs.length)) xs.length
theorem meetL_len (xs ys : List Int) : (meetL xs ys).length = xs.length := numL_len _ _

theorem meetOf_spec (xs ys : List Int) (hpos : 0 < xs.length) (hl : xs.length ≤ 1000) (hy : xs.length ≤ ys.length) (hyl : ys.length ≤ 1000000) (hx1 : ∀ x ∈ xs, i64R x) (hy1 : ∀ x ∈ ys, i64R x) {H : Heap} {K : AV → Heap → Prop}
    (h : ∀ q, H q = none → K (.agg [rowP q (meetL xs ys)]) (H.set q (cP fI (meetL xs ys)))) : CallT Tryz.prog 49 [aS xs, aS ys] H K := by
  refine CallT.fin ?_
  refine W49_ok ?_; simp (maxSteps := 1000000) (disch := first | assumption | (apply Ne.symm; assumption)) only [W49, vz, vu, vv, eqS, eqFieldsV, ↓condV_t, ↓condV_f, tabs, reduceCtorEq, Array.toList, ↓reduceIte, Nat.reduceAdd, Nat.reduceLeDiff, Nat.reduceLT, Nat.reduceMul, Nat.reduceSub, Int.reduceToNat, Int.reduceSub, Int.reduceAdd, Int.reduceNeg, buildSliceV, zerosA, List.replicate_zero, List.flatten_nil]
  intro r2 h2 r3 n3 h3 r4 n43 n42 h4 q0 m4 m3 m2 hq0
  refine wkK.keep ?_
  (try simp (maxSteps := 1000000) (disch := first | assumption | (apply Ne.symm; assumption)) only [vz, vu, vv, eqS, eqFieldsV, ↓condV_t, ↓condV_f, tabs, reduceCtorEq, Array.toList, ↓reduceIte, Nat.reduceAdd, Nat.reduceLeDiff, Nat.reduceLT, Nat.reduceMul, Nat.reduceSub, Int.reduceToNat, Int.reduceSub, Int.reduceAdd, Int.reduceNeg])
  generalize hG : ((H.set r2 [Is xs]).set r3 [Is ys]).set r4 [AV.p PV.nil] = G
  have g2 : G r2 = some [Is xs] := by rw [← hG, Heap.set_other (Ne.symm n42), Heap.set_other (Ne.symm n3), Heap.set_same]
  have g3 : G r3 = some [Is ys] := by rw [← hG, Heap.set_other (Ne.symm n43), Heap.set_same]
  have g4 : G r4 = some [AV.p .nil] := by rw [← hG, Heap.set_same]
  have gq : G q0 = none := by rw [← hG, Heap.set_other m4, Heap.set_other m3, Heap.set_other m2]; exact hq0
  have hle : Heap.le H G := by rw [← hG]; exact Heap.le_setN (Heap.le_setN (Heap.le_set h2) h3) h4
  clear hG
  refine L49_0_rule ((0 : Nat), q0) (fun s => row2 s.2 (keysM xs ys s.1)) (fun s => I s.1) (fun s => G.set s.2 (c2 (keysM xs ys s.1))) (fun s => s.1 ≤ xs.length ∧ G s.2 = none) (fun s => xs.length - s.1) ⟨⟨by simp, gq⟩, .refl _, .refl _, Heap.le_refl _⟩ ?_
  rintro ⟨i, q⟩ ⟨hi, hq⟩
  dsimp only at hi hq
  have hkl := keysM_len xs ys i
  have ne : ∀ {y c}, G y = some c → q ≠ y := fun h1 e => by rw [e, h1] at hq; cases hq
  have k3 : (G.set q (c2 (keysM xs ys i))) r3 = some [Is ys] := by rw [Heap.set_other (ne g3).symm]; exact g3
  (try simp (maxSteps := 1000000) (disch := first | assumption | (apply Ne.symm; assumption)) only [vz, vu, vv, eqS, eqFieldsV, ↓condV_t, ↓condV_f, tabs, reduceCtorEq, Array.toList, ↓reduceIte, Nat.reduceAdd, Nat.reduceLeDiff, Nat.reduceLT, Nat.reduceMul, Nat.reduceSub, Int.reduceToNat, Int.reduceSub, Int.reduceAdd, Int.reduceNeg, B49_0, load_at k3])
  refine ⟨fun h1 => ?_, fun h1 => ?_⟩
  · refine ⟨by omega, h1, by omega, by omega, ?_⟩
    refine push_key (q := q) (Heap.set_same _ _ _) (by omega) fun q' hq' hne' => ?_
    simp only [Heap.set_none] at hq'
    obtain ⟨p1, p2⟩ := hq'
    rw [Heap.del_set hq, ← keysM_succ]
    refine ⟨(i + 1, q'), ⟨by simp only; omega, p2⟩, by simp only; omega, .refl _, ?_, Heap.le_refl _⟩
    rw [wk_int, i64_id (by omega) (by omega)]; simp
  · have : i = xs.length := by omega
    subst this
    have hw : Wk (.tup [row2 q (keysM xs ys xs.length)]) (G.set q (c2 (keysM xs ys xs.length))) (.tup [.p (.sl ((keysM xs ys xs.length).map e2))]) G := by
      have := Wk.frz (v := .tup [row2 q (keysM xs ys xs.length)]) (v' := .tup [.p (.sl ((keysM xs ys xs.length).map e2))]) (H := G.set q (c2 (keysM xs ys xs.length))) (r := q) (sz := 2) (es := (keysM xs ys xs.length).map e2) (by omega) (Heap.set_same _ _ _) (sz2 _) (.tup (.cons frz_row2 .nil))
      rwa [Heap.del_set hq] at this
    refine CallT.pre (numbered_spec (keysM xs ys xs.length) (by omega) (by omega) (fun x hx => ?_) fun q2 hq2 => ?_) hw
    · obtain ⟨j, hj, rfl⟩ := List.mem_map.1 hx
      rw [List.mem_range] at hj
      exact ⟨getD_all (p := i64R) hx1 hj, getD_all (p := i64R) hy1 (by omega)⟩
    · rw [hkl]
      have k4 : (G.set q2 (cP fI (numL (kN (keysM xs ys xs.length)) xs.length))) r4 = some [AV.p .nil] := by rw [Heap.set_other (fun e => by rw [← e, g4] at hq2; cases hq2)]; exact g4
      have e42 : r4 ≠ q2 := fun e => by rw [← e, g4] at hq2; cases hq2
      have hq3 : H q2 = none := by
        cases hh : H q2 with
        | none => rfl
        | some b => rw [hle _ _ hh] at hq2; cases hq2
      have := h q2 hq3
      unfold meetL at this
      generalize cP fI (numL (kN (keysM xs ys xs.length)) xs.length) = z at this k4 ⊢
      (try simp (maxSteps := 1000000) (disch := first | assumption | (apply Ne.symm; assumption)) only [vz, vu, vv, eqS, eqFieldsV, ↓condV_t, ↓condV_f, tabs, reduceCtorEq, Array.toList, ↓reduceIte, Nat.reduceAdd, Nat.reduceLeDiff, Nat.reduceLT, Nat.reduceMul, Nat.reduceSub, Int.reduceToNat, Int.reduceSub, Int.reduceAdd, Int.reduceNeg, store_at k4])
      refine fin_le ?_ this
      intro y b hy
      by_cases e : y = q2
      · subst e; rw [Heap.set_same] at hy; rw [Heap.set_other (Ne.symm e42), Heap.set_same]; exact hy
      · rw [Heap.set_other e] at hy
        have hy4 : y ≠ r4 := fun e => by rw [e, h4] at hy; cases hy
        rw [Heap.set_other hy4, Heap.set_other e]; exact hle _ _ hy
end Go.Proofs.YtdnfiacjoghfkaaGreat
/- Plain: abstractions by conditions. -/
namespace Go.Pt
open Go
set_option linter.unusedVariables false

def bitP (p : Pg) (t : List Nd) (no : Nat) : Nat := if holdP p t no = true then 1 else 0
def maskN (p : Pg) (ts : List (List Nd)) (no : Nat) : Nat → Nat
  | 0 => 0
  | k + 1 => maskN p ts no k + bitP p (ts.getD k default) no * 2 ^ k
theorem bitP_le (p : Pg) (t : List Nd) (no : Nat) : bitP p t no ≤ 1 := by unfold bitP; split <;> omega
theorem maskN_lt (p : Pg) (ts : List (List Nd)) (no : Nat) : ∀ k, maskN p ts no k < 2 ^ k
  | 0 => by simp [maskN]
  | k + 1 => by
    have h1 := maskN_lt p ts no k
    have h2 := bitP_le p (ts.getD k default) no
    have h3 : bitP p (ts.getD k default) no * 2 ^ k ≤ 1 * 2 ^ k := Nat.mul_le_mul_right _ h2
    simp only [maskN]
    rw [Nat.pow_succ]; omega
theorem mask_or {a b k : Nat} (ha : a < 2 ^ k) : a ||| (b <<< k) = a + b * 2 ^ k := by
  rw [Nat.shiftLeft_eq, Nat.or_comm, Nat.mul_comm, ← Nat.two_pow_add_eq_or_of_lt ha, Nat.add_comm]
theorem maskN_iff (p : Pg) (ts : List (List Nd)) (i j k : Nat) : maskN p ts i (k + 1) = maskN p ts j (k + 1) ↔ maskN p ts i k = maskN p ts j k ∧ bitP p (ts.getD k default) i = bitP p (ts.getD k default) j := by
  have h1 := maskN_lt p ts i k
  have h2 := maskN_lt p ts j k
  have h3 := bitP_le p (ts.getD k default) i
  have h4 := bitP_le p (ts.getD k default) j
  simp only [maskN]
  generalize bitP p (ts.getD k default) i = a at *
  generalize bitP p (ts.getD k default) j = b at *
  generalize maskN p ts i k = x at *
  generalize maskN p ts j k = y at *
  generalize 2 ^ k = z at *
  obtain rfl | rfl : a = 0 ∨ a = 1 := by omega
  all_goals (obtain rfl | rfl : b = 0 ∨ b = 1 := by omega)
  all_goals (constructor <;> intro h <;> (try refine ⟨?_, ?_⟩) <;> omega)
theorem tval_bit {p : Pg} (hs : SmallP p) {t : List Nd} (ht : ∀ x ∈ t, 0 ≤ x.n) (hk : kind p.wide p.vars t = 2) {s : List Nat} (hl : s.length = p.vars.toNat) (hsw : ∀ a ∈ s, a < 2 ^ p.wide.toNat) : tval p.wide.toNat t s ≤ 1 := by
  obtain ⟨w, v, e1, e2, e3, e4, hw1, hw5, hv1, hv4, hwv⟩ := hs.nat
  rw [e3] at hsw ⊢
  rw [e4] at hl
  rw [e1, e2] at hk
  obtain ⟨h1, _, _, htr, _⟩ := kind_tree hl hsw ht (by decide) hk
  exact (htr.okV h1).2 (by decide)
theorem tval_eq {p : Pg} (hs : SmallP p) {t : List Nd} (ht : ∀ x ∈ t, 0 ≤ x.n) (hk : kind p.wide p.vars t = 2) (no : Nat) (hl : (stP p no).length = p.vars.toNat) (hsw : ∀ a ∈ stP p no, a < 2 ^ p.wide.toNat) : tval p.wide.toNat t (stP p no) = bitP p t no := by
  have := tval_bit hs ht hk hl hsw
  unfold bitP holdP
  simp only [decide_eq_true_eq]
  split <;> omega
/-- The classes by the first k conditions. -/
def byK (p : Pg) (ts : List (List Nd)) (k : Nat) : List Int := numL (fun no => maskN p ts no k) (allP p)
theorem byK_len (p : Pg) (ts : List (List Nd)) (k : Nat) : (byK p ts k).length = allP p := numL_len _ _
theorem byK_get (p : Pg) (ts : List (List Nd)) (k : Nat) {i : Nat} (h : i < allP p) : (byK p ts k).getD i default = numN (fun no => maskN p ts no k) i := numL_get _ h
end Go.Pt
namespace Go.Proofs.YtdnfiacjoghfkaaGreat
open Go Go.Sep Go.Pt
theorem c2_app (xs ys : List (Int × Int)) : c2 (xs ++ ys) = c2 xs ++ c2 ys := by simp [c2, cells]
theorem c2_len (xs : List (Int × Int)) : (c2 xs).length = xs.length * 2 := by
  have := cells_map_len (e := e2) (sz := 2) (fun _ => rfl) xs
  exact this
theorem c2_cut {xs : List (Int × Int)} {t : Nat} (h : t < xs.length) : c2 xs = c2 (xs.take t) ++ (I (xs.getD t default).1 :: I (xs.getD t default).2 :: c2 (xs.drop (t + 1))) := by
  conv => lhs; rw [← List.take_append_drop t xs, drop_cons h, c2_app]
  rfl
theorem c2_rd {xs : List (Int × Int)} {t : Nat} (h : t < xs.length) : (List.take 1 (List.drop (t * 2) (c2 xs))).headD AV.any = I (xs.getD t default).1 := by
  have hl : (c2 (xs.take t)).length = t * 2 := by rw [c2_len, List.length_take, Nat.min_eq_left (by omega)]
  rw [c2_cut h, ← hl, List.drop_left]; rfl
theorem c2_set {xs : List (Int × Int)} {t : Nat} (h : t < xs.length) (v : Int) : List.take (t * 2) (c2 xs) ++ [I v] ++ List.drop (t * 2 + 1) (c2 xs) = c2 (xs.set t (v, (xs.getD t default).2)) := by
  have hl : (c2 (xs.take t)).length = t * 2 := by rw [c2_len, List.length_take, Nat.min_eq_left (by omega)]
  rw [List.set_eq_take_append_cons_drop, if_pos h, c2_app, c2_cut h, ← hl, List.take_left, List.drop_append]
  simp [c2, cells, e2]
end Go.Proofs.YtdnfiacjoghfkaaGreat
/- Specs: rows of conditions: sizes, copies, comparisons; whether all are conditions. -/
namespace Go.Proofs.YtdnfiacjoghfkaaGreat
open Go Go.Sep Go.Pt
set_option linter.unusedSimpArgs false
set_option linter.unusedVariables false
attribute [local irreducible] CallT

abbrev eNN (t : List Nd) : List PV := [.sl (t.map eN)]
abbrev Nss (ts : List (List Nd)) : AV := .p (.sl (ts.map eNN))
theorem IndexFuncNs_at (xs : List (List Nd)) (g : Nat) (caps : List AV) (p : List Nd → Bool) {H : Heap} (hl : xs.length ≤ 1000000000) (hp : ∀ x ∈ xs, PuAt Tryz.prog g (Ns x :: caps) H (B (p x))) :
    PuAt Tryz.prog 76 [Nss xs, .fn g caps] H (I (if xs.any p then (xs.findIdx p : Int) else -1)) := by
  intro K hK
  refine CallT.fin ?_
  refine W76_ok ?_; simp (maxSteps := 1000000) (disch := first | assumption | (apply Ne.symm; assumption)) only [W76, vz, vu, vv, eqS, eqFieldsV, ↓condV_t, ↓condV_f, tabs, reduceCtorEq, Array.toList, ↓reduceIte, Nat.reduceAdd, Nat.reduceLeDiff, Nat.reduceLT, Nat.reduceMul, Nat.reduceSub, Int.reduceToNat, Int.reduceSub, Int.reduceAdd, Int.reduceNeg]
  refine L76_0_rule (0 : Nat) (fun i => I i) (fun _ => H) (fun i => i ≤ xs.length ∧ ∀ j (hj : j < xs.length), j < i → p xs[j] = false) (fun i => xs.length - i) ⟨⟨by omega, by intros; omega⟩, .refl _, Heap.le_refl _⟩ ?_
  rintro i ⟨hi1, ha⟩
  (try simp (maxSteps := 1000000) (disch := first | assumption | (apply Ne.symm; assumption)) only [vz, vu, vv, eqS, eqFieldsV, ↓condV_t, ↓condV_f, tabs, reduceCtorEq, Array.toList, ↓reduceIte, Nat.reduceAdd, Nat.reduceLeDiff, Nat.reduceLT, Nat.reduceMul, Nat.reduceSub, Int.reduceToNat, Int.reduceSub, Int.reduceAdd, Int.reduceNeg, B76_0])
  refine ⟨fun h => ⟨by omega, h, ?_⟩, fun h => ?_⟩
  · have hlt : i < xs.length := by omega
    rw [getD_lt hlt]
    refine PuAt.use (hp _ (List.getElem_mem hlt)) ?_
    (try simp (maxSteps := 1000000) (disch := first | assumption | (apply Ne.symm; assumption)) only [vz, vu, vv, eqS, eqFieldsV, ↓condV_t, ↓condV_f, tabs, reduceCtorEq, Array.toList, ↓reduceIte, Nat.reduceAdd, Nat.reduceLeDiff, Nat.reduceLT, Nat.reduceMul, Nat.reduceSub, Int.reduceToNat, Int.reduceSub, Int.reduceAdd, Int.reduceNeg])
    refine ⟨fun h1 => ?_, fun h1 => ⟨i + 1, ⟨by omega, fun j hj hji => ?_⟩, by omega, ?_⟩⟩
    · have h2 : xs.any p = true := List.any_eq_true.2 ⟨xs[i], List.getElem_mem hlt, h1⟩
      have h3 : xs.findIdx p = i := by
        rw [List.findIdx_eq hlt]; exact ⟨h1, fun j hj => ha j (by omega) hj⟩
      rw [h2, h3] at hK; exact wkK.keep (by simpa using hK)
    · rcases Nat.lt_succ_iff_lt_or_eq.1 hji with h2 | rfl
      · exact ha j hj h2
      · exact h1
    · rw [wk_int, i64_id (by omega) (by omega)]; simp
  · have hi : i = xs.length := by omega
    have h2 : xs.any p = false := by
      rw [List.any_eq_false]
      intro x hx
      obtain ⟨j, hj, rfl⟩ := List.mem_iff_getElem.1 hx
      rw [ha j hj (by omega)]; simp
    rw [h2] at hK; exact wkK.keep (by simpa using hK)

theorem ContainsFuncNs_at (xs : List (List Nd)) (g : Nat) (caps : List AV) (p : List Nd → Bool) {H : Heap} (hl : xs.length ≤ 1000000000) (hp : ∀ x ∈ xs, PuAt Tryz.prog g (Ns x :: caps) H (B (p x))) :
    PuAt Tryz.prog 56 [Nss xs, .fn g caps] H (B (xs.any p)) := by
  intro K hK
  refine W56_ok ?_; simp (maxSteps := 1000000) (disch := first | assumption | (apply Ne.symm; assumption)) only [W56, vz, vu, vv, eqS, eqFieldsV, ↓condV_t, ↓condV_f, tabs, reduceCtorEq, Array.toList, ↓reduceIte, Nat.reduceAdd, Nat.reduceLeDiff, Nat.reduceLT, Nat.reduceMul, Nat.reduceSub, Int.reduceToNat, Int.reduceSub, Int.reduceAdd, Int.reduceNeg]
  refine PuAt.use (IndexFuncNs_at xs g caps p hl hp) ?_
  (try simp (maxSteps := 1000000) (disch := first | assumption | (apply Ne.symm; assumption)) only [vz, vu, vv, eqS, eqFieldsV, ↓condV_t, ↓condV_f, tabs, reduceCtorEq, Array.toList, ↓reduceIte, Nat.reduceAdd, Nat.reduceLeDiff, Nat.reduceLT, Nat.reduceMul, Nat.reduceSub, Int.reduceToNat, Int.reduceSub, Int.reduceAdd, Int.reduceNeg])
  cases h : xs.any p <;> simp [h] at hK ⊢ <;> exact hK
end Go.Proofs.YtdnfiacjoghfkaaGreat
/- Specs: the reference's numbering. -/
namespace Go.Proofs.YtdnfiacjoghfkaaGreat
open Go Go.Sep Go.Pt
set_option linter.unusedSimpArgs false
set_option linter.unusedVariables false
attribute [local irreducible] CallT

abbrev kI (zs : List Int) : Nat → Int := fun j => zs.getD j default
theorem l15Of_spec (zs : List Int) (hl : zs.length ≤ 100000) : Pu Tryz.prog 87 [Is zs] (aS (numL (kI zs) zs.length)) := by
  refine ⟨fun H => CallT.fin ?_⟩
  refine W87_ok ?_; simp (maxSteps := 1000000) (disch := first | assumption | (apply Ne.symm; assumption)) only [W87, vz, vu, vv, eqS, eqFieldsV, ↓condV_t, ↓condV_f, tabs, reduceCtorEq, Array.toList, ↓reduceIte, Nat.reduceAdd, Nat.reduceLeDiff, Nat.reduceLT, Nat.reduceMul, Nat.reduceSub, Int.reduceToNat, Int.reduceSub, Int.reduceAdd, Int.reduceNeg]
  intro r2 h2 r3 n3 h3
  have n23 : r2 ≠ r3 := Ne.symm n3
  generalize hH0 : H.set r2 [AV.p .nil] = H0
  have h03 : H0 r3 = none := by rw [← hH0, Heap.set_other n3]; exact h3
  have g2 : H0 r2 = some [AV.p .nil] := by rw [← hH0, Heap.set_same]
  have hle : Heap.le H H0 := by rw [← hH0]; exact Heap.le_set h2
  refine L87_0_rule ((0 : Nat), AV.p .nil, H0.set r3 [.p .nil]) (fun s => I (cntN (kI zs) s.1)) (fun s => I s.1) (fun s => s.2.2)
    (fun s => s.1 ≤ zs.length ∧ Own1 fI H0 s.2.2 r3 [] s.2.1 (numL (kI zs) s.1)) (fun s => zs.length - s.1) ⟨⟨by simp, ?_⟩, .refl _, .refl _, Heap.le_refl _⟩ ?_
  · exact ⟨Heap.set_same _ _ _, .inl ⟨rfl, rfl⟩, Heap.le_set h03, h03⟩
  rintro ⟨i, x, G⟩ ⟨hi, o⟩
  dsimp only at hi o
  have g3 : G r3 = some [x] := o.hr
  have k2 := o.le _ _ g2
  have hnl := numL_len (kI zs) i
  have hcl := cntN_le (kI zs) i
  (try simp (maxSteps := 1000000) (disch := first | assumption | (apply Ne.symm; assumption)) only [vz, vu, vv, eqS, eqFieldsV, ↓condV_t, ↓condV_f, tabs, reduceCtorEq, Array.toList, ↓reduceIte, Nat.reduceAdd, Nat.reduceLeDiff, Nat.reduceLT, Nat.reduceMul, Nat.reduceSub, Int.reduceToNat, Int.reduceSub, Int.reduceAdd, Int.reduceNeg, B87_0])
  refine ⟨fun h1 => ⟨by omega, h1, ?_⟩, fun h1 => ?_⟩
  · have hlt : i < zs.length := by omega
    -- the class is known
    have fin : ∀ N1 : AV → AV → Heap → Prop, (∀ G', ∀ x', Own1 fI H0 G' r3 [] x' (numL (kI zs) (i + 1)) → N1 (I (cntN (kI zs) (i + 1))) (I (i + 1 : Nat)) G') → ∀ K, J87_3 K N1 (Is zs) (.ptr r2 0) (.ptr r3 0) (I (cntN (kI zs) i)) (I (numN (kI zs) i)) (Is zs) (I zs.length) (I i) G := by
      intro N1 hN K
      unfold J87_3
      have hsucc := numL_succ (kI zs) i
      have two : ∀ {c : Int}, c = cntN (kI zs) (i + 1) → J87_2 K N1 (Is zs) (.ptr r2 0) (.ptr r3 0) (I c) (I (numN (kI zs) i)) (Is zs) (I zs.length) (I i) G := by
        rintro c rfl
        unfold J87_2
        (try simp (maxSteps := 1000000) (disch := first | assumption | (apply Ne.symm; assumption)) only [vz, vu, vv, eqS, eqFieldsV, ↓condV_t, ↓condV_f, tabs, reduceCtorEq, Array.toList, ↓reduceIte, Nat.reduceAdd, Nat.reduceLeDiff, Nat.reduceLT, Nat.reduceMul, Nat.reduceSub, Int.reduceToNat, Int.reduceSub, Int.reduceAdd, Int.reduceNeg, load_at g3])
        refine lit1 tab_29 rfl tab_3 ⟨rfl, rfl⟩ ?_
        refine o.app (ys := [(numN (kI zs) i : Int)]) tab_29 rfl tab_3 rfl (by decide) (by simp; omega) fun q' m' G1 k6 o3 _ => ?_
        have k6' : G1 r3 = some [x] := k6
        (try simp (maxSteps := 1000000) (disch := first | assumption | (apply Ne.symm; assumption)) only [vz, vu, vv, eqS, eqFieldsV, ↓condV_t, ↓condV_f, tabs, reduceCtorEq, Array.toList, ↓reduceIte, Nat.reduceAdd, Nat.reduceLeDiff, Nat.reduceLT, Nat.reduceMul, Nat.reduceSub, Int.reduceToNat, Int.reduceSub, Int.reduceAdd, Int.reduceNeg, store_at k6'])
        rw [i64_id (by omega) (by omega)]
        exact hN _ _ (by rw [hsucc]; exact o3)
      have hlt2 := numN_lt (kI zs) (Nat.lt_succ_self i)
      by_cases hn : newAt (kI zs) i = true
      · have e1 := numN_new hn
        have e2 : cntN (kI zs) (i + 1) = cntN (kI zs) i + 1 := by simp [cntN, hn]
        rw [← e1]
        (try simp (maxSteps := 1000000) (disch := first | assumption | (apply Ne.symm; assumption)) only [vz, vu, vv, eqS, eqFieldsV, ↓condV_t, ↓condV_f, tabs, reduceCtorEq, Array.toList, ↓reduceIte, Nat.reduceAdd, Nat.reduceLeDiff, Nat.reduceLT, Nat.reduceMul, Nat.reduceSub, Int.reduceToNat, Int.reduceSub, Int.reduceAdd, Int.reduceNeg])
        rw [i64_id (by omega) (by omega)]
        exact two (by omega)
      · have hn' : newAt (kI zs) i = false := by simpa using hn
        have e2 : cntN (kI zs) (i + 1) = cntN (kI zs) i := by simp [cntN, hn']
        have hne : ¬ ((numN (kI zs) i : Int) = cntN (kI zs) i) := by
          have h3 := numN_lt (kI zs) (not_new hn')
          have h4 := numN_same (fstN_spec (kI zs) i).2.1
          omega
        (try simp (maxSteps := 1000000) (disch := first | assumption | (apply Ne.symm; assumption)) only [vz, vu, vv, eqS, eqFieldsV, ↓condV_t, ↓condV_f, tabs, reduceCtorEq, Array.toList, ↓reduceIte, Nat.reduceAdd, Nat.reduceLeDiff, Nat.reduceLT, Nat.reduceMul, Nat.reduceSub, Int.reduceToNat, Int.reduceSub, Int.reduceAdd, Int.reduceNeg, hne])
        exact two (by omega)
    refine L87_1_rule (0 : Nat) (fun _ => I (cntN (kI zs) i)) (fun j => I j) (fun _ => G) (fun j => j ≤ i ∧ ∀ j', j' < j → kI zs j' ≠ kI zs i) (fun j => i - j) ⟨⟨by omega, fun j' h => by omega⟩, .refl _, .refl _, Heap.le_refl _⟩ ?_
    rintro j ⟨hj, hall⟩
    (try simp (maxSteps := 1000000) (disch := first | assumption | (apply Ne.symm; assumption)) only [vz, vu, vv, eqS, eqFieldsV, ↓condV_t, ↓condV_f, tabs, reduceCtorEq, Array.toList, ↓reduceIte, Nat.reduceAdd, Nat.reduceLeDiff, Nat.reduceLT, Nat.reduceMul, Nat.reduceSub, Int.reduceToNat, Int.reduceSub, Int.reduceAdd, Int.reduceNeg, B87_1, load_at g3])
    have go : ∀ G' x', Own1 fI H0 G' r3 [] x' (numL (kI zs) (i + 1)) → ∃ s' : Nat × AV × Heap, (s'.1 ≤ zs.length ∧ Own1 fI H0 s'.2.2 r3 [] s'.2.1 (numL (kI zs) s'.1)) ∧ zs.length - s'.1 < zs.length - i ∧ (I (cntN (kI zs) (i + 1))).wk (I (cntN (kI zs) s'.1)) ∧ (I (i + 1 : Nat)).wk (I s'.1) ∧ s'.2.2.le G' :=
      fun G' x' o' => ⟨(i + 1, x', G'), ⟨by simp only; omega, o'⟩, by simp only; omega, .refl _, .refl _, Heap.le_refl _⟩
    refine ⟨fun h5 => ⟨by omega, by omega, fun h6 => ?_, fun h6 => ?_⟩, fun h5 => ?_⟩
    · have hji : j < i := by omega
      have hval : (numL (kI zs) i).getD j default = numN (kI zs) i := by rw [numL_get _ hji, numN_same h6]
      rcases o.base with ⟨_, h7⟩ | ⟨q, rfl, hq, _⟩
      · rw [h7] at hnl; simp at hnl; omega
      have rd := read_row (f := fI) (xs := numL (kI zs) i) (k := j) default (by omega)
      rw [hval] at rd
      (try simp (maxSteps := 1000000) (disch := first | assumption | (apply Ne.symm; assumption)) only [vz, vu, vv, eqS, eqFieldsV, ↓condV_t, ↓condV_f, tabs, reduceCtorEq, Array.toList, ↓reduceIte, Nat.reduceAdd, Nat.reduceLeDiff, Nat.reduceLT, Nat.reduceMul, Nat.reduceSub, Int.reduceToNat, Int.reduceSub, Int.reduceAdd, Int.reduceNeg, load_at hq, hnl])
      rw [Nat.mul_one, rd]
      refine ⟨by omega, by omega, by omega, ?_⟩
      refine fin _ ?_ _
      exact go
    · refine ⟨j + 1, ⟨by omega, fun j' hj' e => ?_⟩, by omega, .refl _, ?_⟩
      · rcases Nat.lt_succ_iff_lt_or_eq.1 hj' with h7 | rfl
        · exact hall j' h7 e
        · exact h6 e
      · rw [wk_int, i64_id (by omega) (by omega)]; simp
    · have : j = i := by omega
      subst this
      have hn : newAt (kI zs) j = true := newAt_iff.2 hall
      rw [numN_new hn] at fin
      refine fin _ ?_ _
      exact go
  · have : i = zs.length := by omega
    subst this
    (try simp (maxSteps := 1000000) (disch := first | assumption | (apply Ne.symm; assumption)) only [vz, vu, vv, eqS, eqFieldsV, ↓condV_t, ↓condV_f, tabs, reduceCtorEq, Array.toList, ↓reduceIte, Nat.reduceAdd, Nat.reduceLeDiff, Nat.reduceLT, Nat.reduceMul, Nat.reduceSub, Int.reduceToNat, Int.reduceSub, Int.reduceAdd, Int.reduceNeg, load_at g3, store_at k2])
    have hleG : Heap.le H (G.set r2 [x]) := Heap.le_setN (Heap.le_trans hle o.le) h2
    rcases o.base with ⟨rfl, h7⟩ | ⟨q, rfl, hq, hq0, _⟩
    · rw [h7]
      exact ⟨rfl, _, _, .trans (.val (v' := aS []) (wk_agg ⟨.nil, trivial⟩)) (.forget hleG), rfl, rfl⟩
    · have hqr : q ≠ r2 := fun e => by rw [e, g2] at hq0; cases hq0
      have hHq : H q = none := by
        cases hh : H q with
        | none => rfl
        | some b => rw [hle _ _ hh] at hq0; cases hq0
      generalize numL (kI zs) zs.length = zz at hq hleG ⊢
      refine ⟨rfl, _, _, .trans (Wk.frz (r := q) (sz := 1) (es := zz.map fun n => [fI n]) (v' := aS zz) (by omega) (by rw [Heap.set_other hqr, flat_P]; exact hq) (szP _ _) (.agg (.cons frz_row .nil))) (.forget (Heap.le_del hleG hHq)), rfl, rfl⟩
theorem l15Of_row (zs : List Int) (hl : zs.length ≤ 100000) {q : Nat} {G : Heap} (hq : G q = none) {K : AV → Heap → Prop} (h : K (aS (numL (kI zs) zs.length)) G) : CallT Tryz.prog 87 [rowP q zs] (G.set q (cP fI zs)) K := by
  have hw := Wk.frz (v := .tup [rowP q zs]) (v' := .tup [Is zs]) (H := G.set q (cP fI zs)) (r := q) (sz := 1) (es := zs.map fun n => [fI n]) (by omega) (by rw [flat_P]; exact Heap.set_same _ _ _) (szP _ _) (.tup (.cons frz_row .nil))
  rw [Heap.del_set hq] at hw
  exact CallT.pre (Pu.use (l15Of_spec zs hl) h) hw
end Go.Proofs.YtdnfiacjoghfkaaGreat
/- Specs: MeetOf and IsFiner. -/
namespace Go.Proofs.YtdnfiacjoghfkaaGreat
open Go Go.Sep Go.Pt
set_option linter.unusedSimpArgs false
set_option linter.unusedVariables false
attribute [local irreducible] CallT

/-! ### Plain -/
theorem goodSt_run {p : Pg} {of : List Int} (h : goodSt p of = true) : smallP p = true ∧ (of.length : Int) = statesP p ∧ ∃ c, runS 0 of = some c := by
  simp only [goodSt, Bool.and_eq_true, decide_eq_true_eq] at h
  exact ⟨h.1, h.2.1, Option.isSome_iff_exists.1 h.2.2⟩
theorem goodSt_len {p : Pg} {of : List Int} (h : goodSt p of = true) : 1 ≤ of.length ∧ of.length ≤ 32 := by
  obtain ⟨h1, h2, _⟩ := goodSt_run h
  have := states_rng h1
  omega
theorem goodSt_el {p : Pg} {of : List Int} (h : goodSt p of = true) {i : Nat} (hi : i < of.length) : 0 ≤ of.getD i default ∧ of.getD i default < 32 := by
  obtain ⟨h1, h2, c, h3⟩ := goodSt_run h
  have hl := goodSt_len h
  have e := runS_num h3 hi
  have h4 := numN_lt (kI of) hi
  have h5 := cntN_le (kI of) of.length
  have e' : of.getD i default = (numN (kI of) i : Int) := e
  omega
theorem goodSt_r {p : Pg} {of : List Int} (h : goodSt p of = true) : ∀ x ∈ of, i64R x := by
  intro x hx
  obtain ⟨i, hi, rfl⟩ := List.getElem_of_mem hx
  have := goodSt_el h hi
  have e : of.getD i default = of[i] := by simp [List.getD, hi]
  rw [e] at this
  exact ⟨by omega, by omega⟩
/-! ### Rows of numbers compared -/
/-! ### Finer -/
/-! ### MeetOf and IsFiner -/
abbrev gPg (p : Pg) : List AV := [I p.wide, I p.vars, Ns p.start, Cms p.cmds]
/-- An abstraction of one's own, or the zero one. -/
def RS (of : List Int) (v : AV) (G : Heap) (D : List Nat) : Prop := (of = [] ∧ v = .agg [.p .nil] ∧ D = []) ∨ ∃ q, v = .agg [rowP q of] ∧ G q = some (cP fI of) ∧ D = [q]

end Go.Proofs.YtdnfiacjoghfkaaGreat
/- Specs: rows of edges; automata that own their rows, checked. -/
namespace Go.Proofs.YtdnfiacjoghfkaaGreat
open Go Go.Sep Go.Pt
set_option linter.unusedSimpArgs false
set_option linter.unusedVariables false
attribute [local irreducible] CallT

/-- A row of rows that grows: nothing yet, or a row of one's own. -/
def GAt (x : AV) (gs : List (List Int)) (G : Heap) (D : List Nat) : Prop := ∃ cs D', LL LIc gs cs G D' ∧ ((x = .p .nil ∧ cs = [] ∧ D = []) ∨ ∃ q, x = .sl q 1 0 gs.length ∧ G q = some cs ∧ D = q :: D')
theorem GAt.nil (G : Heap) : GAt (.p .nil) [] G [] := ⟨[], [], ⟨rfl, rfl⟩, .inl ⟨rfl, rfl, rfl⟩⟩
theorem GAt.local {x : AV} {gs : List (List Int)} {G G' : Heap} {D : List Nat} (g : GAt x gs G D) (h : ∀ y ∈ D, ∀ b, G y = some b → G' y = some b) : GAt x gs G' D := by
  obtain ⟨cs, D', hl, h1⟩ := g
  rcases h1 with ⟨rfl, rfl, rfl⟩ | ⟨q, rfl, hq, rfl⟩
  · cases gs with
    | nil => obtain ⟨_, rfl⟩ := hl; exact ⟨[], [], ⟨rfl, rfl⟩, .inl ⟨rfl, rfl, rfl⟩⟩
    | cons a gs => obtain ⟨c1, c2, D1, D2, e, _, ⟨z, rfl, _⟩, _⟩ := hl; simp at e
  · exact ⟨cs, D', LL.local LIc.local hl (fun y hy b hb => h y (List.mem_cons_of_mem _ hy) b hb), .inr ⟨q, rfl, h q (List.mem_cons_self ..) _ hq, rfl⟩⟩
end Go.Proofs.YtdnfiacjoghfkaaGreat
/- Specs: the union of two automata. -/
namespace Go.Proofs.YtdnfiacjoghfkaaGreat
open Go Go.Sep Go.Pt
set_option linter.unusedSimpArgs false
set_option linter.unusedVariables false
attribute [local irreducible] CallT

/-! ### Plain facts -/
structure GoodF (a : Au) : Prop where
  st : 1 ≤ a.states ∧ a.states ≤ 96
  fi : smI a.first ∧ a.first.length ≤ 96
  ed : a.edges.length ≤ 2400
  ei : ∀ e ∈ a.edges, edIn a.states e = true
  gl : a.goals.length ≤ 6
  gi : ∀ g ∈ a.goals, smI g ∧ g.length ≤ 96
end Go.Proofs.YtdnfiacjoghfkaaGreat
/- Specs: an abstraction cut by a list of states. -/
namespace Go.Proofs.YtdnfiacjoghfkaaGreat
open Go Go.Sep Go.Pt
set_option linter.unusedSimpArgs false
set_option linter.unusedVariables false
attribute [local irreducible] CallT

def indL (sm : List Int) (n : Nat) : List Int := (List.range n).map fun (j : Nat) => if (j : Int) ∈ sm then 1 else 0
theorem indL_get {sm : List Int} {n i : Nat} (h : i < n) : (indL sm n).getD i default = if (i : Int) ∈ sm then 1 else 0 := by simp [indL, List.getD, h]
def cutL (of sm : List Int) : List Int := meetL of (indL sm of.length)
theorem cutL_len (of sm : List Int) : (cutL of sm).length = of.length := meetL_len _ _

/-! ### The reference -/
def keysC (of sm : List Int) (n : Nat) : List Int := (List.range n).map fun (i : Nat) => if (i : Int) ∈ sm then 2 * of.getD i default + 1 else 2 * of.getD i default
theorem keysC_len (of sm : List Int) (n : Nat) : (keysC of sm n).length = n := by simp [keysC]
theorem keysC_succ (of sm : List Int) (n : Nat) : keysC of sm (n + 1) = keysC of sm n ++ [if (n : Int) ∈ sm then 2 * of.getD n default + 1 else 2 * of.getD n default] := by simp [keysC, List.range_succ]
theorem keysC_get {of sm : List Int} {n i : Nat} (h : i < n) : kI (keysC of sm n) i = if (i : Int) ∈ sm then 2 * of.getD i default + 1 else 2 * of.getD i default := by simp [keysC, kI, List.getD, h]
theorem cutL_ref (of sm : List Int) : numL (kI (keysC of sm of.length)) of.length = cutL of sm := by
  refine numL_ext fun i j hi hj => ?_
  rw [keysC_get hi, keysC_get hj, keysM_get hi, keysM_get hj, indL_get hi, indL_get hj, Prod.mk.injEq]
  generalize of.getD i default = x
  generalize of.getD j default = y
  split <;> split <;> (constructor <;> (try intro h) <;> (try exact ⟨by omega, by omega⟩) <;> omega)
theorem l15Cut_spec (of sm : List Int) (hl : of.length ≤ 1000) (hsl : sm.length ≤ 1048576) (hx : ∀ x ∈ of, -1000000 ≤ x ∧ x ≤ 1000000) : Pu Tryz.prog 65 [aS of, Is sm] (aS (cutL of sm)) := by
  refine ⟨fun H => CallT.fin ?_⟩
  refine CallT.ghost W65_hb fun q0 hq0 => ?_
  refine W65_ok ?_; simp (maxSteps := 1000000) (disch := first | assumption | (apply Ne.symm; assumption)) only [W65, vz, vu, vv, eqS, eqFieldsV, ↓condV_t, ↓condV_f, tabs, reduceCtorEq, Array.toList, ↓reduceIte, Nat.reduceAdd, Nat.reduceLeDiff, Nat.reduceLT, Nat.reduceMul, Nat.reduceSub, Int.reduceToNat, Int.reduceSub, Int.reduceAdd, Int.reduceNeg]
  intro r2 h02 h2 r4 n42 h04 h4
  have nn42 := Ne.symm n42
  have m02 := Ne.symm h02
  have m04 := Ne.symm h04
  (try simp (maxSteps := 1000000) (disch := first | assumption | (apply Ne.symm; assumption)) only [vz, vu, vv, eqS, eqFieldsV, ↓condV_t, ↓condV_f, tabs, reduceCtorEq, Array.toList, ↓reduceIte, Nat.reduceAdd, Nat.reduceLeDiff, Nat.reduceLT, Nat.reduceMul, Nat.reduceSub, Int.reduceToNat, Int.reduceSub, Int.reduceAdd, Int.reduceNeg])
  have hle : Heap.le (((H.set r2 [Is of]).set r4 [AV.p .nil]).set q0 []) (((H.set q0 []).set r2 [Is of]).set r4 [AV.p .nil]) := by
    (intro y b hy; simp only [Heap.set, Heap.del] at hy ⊢; (repeat' split at hy) <;> (repeat' split) <;> simp_all [cells])
  have f2 : ((H.set r2 [Is of]).set r4 [AV.p .nil]) r2 = some [Is of] := by rw [Heap.set_other nn42, Heap.set_same]
  have f4 : ((H.set r2 [Is of]).set r4 [AV.p .nil]) r4 = some [AV.p .nil] := Heap.set_same _ _ _
  have fq : ((H.set r2 [Is of]).set r4 [AV.p .nil]) q0 = none := by rw [Heap.set_other m04, Heap.set_other m02]; exact hq0
  have hlH : Heap.le H ((H.set r2 [Is of]).set r4 [AV.p .nil]) := Heap.le_setN (Heap.le_set h2) h4
  generalize ((H.set q0 []).set r2 [Is of]).set r4 [AV.p .nil] = GG at hle ⊢
  generalize ((H.set r2 [Is of]).set r4 [AV.p .nil]) = G at hle f2 f4 fq hlH
  refine L65_0_rule ((0 : Nat), q0) (fun s => rowP s.2 (keysC of sm s.1)) (fun s => I s.1) (fun s => G.set s.2 (cP fI (keysC of sm s.1))) (fun s => s.1 ≤ of.length ∧ G s.2 = none) (fun s => of.length - s.1) ⟨⟨by simp, fq⟩, .nilo _ _ _, .refl _, hle⟩ ?_
  rintro ⟨i, q⟩ ⟨hi, hq⟩
  dsimp only at hi hq
  have hkl := keysC_len of sm i
  (try simp (maxSteps := 1000000) (disch := first | assumption | (apply Ne.symm; assumption)) only [vz, vu, vv, eqS, eqFieldsV, ↓condV_t, ↓condV_f, tabs, reduceCtorEq, Array.toList, ↓reduceIte, Nat.reduceAdd, Nat.reduceLeDiff, Nat.reduceLT, Nat.reduceMul, Nat.reduceSub, Int.reduceToNat, Int.reduceSub, Int.reduceAdd, Int.reduceNeg, B65_0])
  refine ⟨fun h1 => ?_, fun h1 => ?_⟩
  · have hlt : i < of.length := by omega
    have hxi := getD_all (p := fun x => -1000000 ≤ x ∧ x ≤ 1000000) (d := default) hx hlt
    refine ⟨by omega, h1, ?_⟩
    refine Pu.use (l1Has_spec sm i hsl) ?_
    have hsucc := keysC_succ of sm i
    by_cases hm : (i : Int) ∈ sm
    · rw [if_pos hm] at hsucc
      rw [decide_eq_true hm]
      (try simp (maxSteps := 1000000) (disch := first | assumption | (apply Ne.symm; assumption)) only [vz, vu, vv, eqS, eqFieldsV, ↓condV_t, ↓condV_f, tabs, reduceCtorEq, Array.toList, ↓reduceIte, Nat.reduceAdd, Nat.reduceLeDiff, Nat.reduceLT, Nat.reduceMul, Nat.reduceSub, Int.reduceToNat, Int.reduceSub, Int.reduceAdd, Int.reduceNeg])
      rw [i64_id (n := 2 * of.getD i default) (by omega) (by omega), i64_id (by omega) (by omega)]
      refine push_topI hq (by omega) fun q' hq' => ?_
      rw [← hsucc]
      refine ⟨(i + 1, q'), ⟨by simp only; omega, hq'⟩, by simp only; omega, .refl _, ?_, Heap.le_refl _⟩
      rw [wk_int, i64_id (by omega) (by omega)]; simp
    · rw [if_neg hm] at hsucc
      rw [decide_eq_false hm]
      (try simp (maxSteps := 1000000) (disch := first | assumption | (apply Ne.symm; assumption)) only [vz, vu, vv, eqS, eqFieldsV, ↓condV_t, ↓condV_f, tabs, reduceCtorEq, Array.toList, ↓reduceIte, Nat.reduceAdd, Nat.reduceLeDiff, Nat.reduceLT, Nat.reduceMul, Nat.reduceSub, Int.reduceToNat, Int.reduceSub, Int.reduceAdd, Int.reduceNeg])
      rw [i64_id (n := 2 * of.getD i default) (by omega) (by omega)]
      refine push_topI hq (by omega) fun q' hq' => ?_
      rw [← hsucc]
      refine ⟨(i + 1, q'), ⟨by simp only; omega, hq'⟩, by simp only; omega, .refl _, ?_, Heap.le_refl _⟩
      rw [wk_int, i64_id (by omega) (by omega)]; simp
  · have : i = of.length := by omega
    subst this
    refine l15Of_row (keysC of sm of.length) (by omega) hq ?_
    rw [hkl, cutL_ref]
    (try simp (maxSteps := 1000000) (disch := first | assumption | (apply Ne.symm; assumption)) only [vz, vu, vv, eqS, eqFieldsV, ↓condV_t, ↓condV_f, tabs, reduceCtorEq, Array.toList, ↓reduceIte, Nat.reduceAdd, Nat.reduceLeDiff, Nat.reduceLT, Nat.reduceMul, Nat.reduceSub, Int.reduceToNat, Int.reduceSub, Int.reduceAdd, Int.reduceNeg, store_at f4])
    exact ⟨_, _, .forget (Heap.le_setN hlH h4), rfl, rfl⟩
end Go.Proofs.YtdnfiacjoghfkaaGreat
/- Specs: SightBy, SplitBy. -/
namespace Go.Proofs.YtdnfiacjoghfkaaGreat
open Go Go.Sep Go.Pt
set_option linter.unusedSimpArgs false
set_option linter.unusedVariables false
attribute [local irreducible] CallT

def okTs (p : Pg) (ts : List (List Nd)) (least : Int) : Bool := (decide (least ≤ ts.length) && decide (ts.length ≤ 8)) && ts.all fun t => decide (kind p.wide p.vars t = 2)
theorem arePreds1_at (p : Pg) (t : List Nd) (ht : vT t) (r : Nat) {H : Heap} (hr : H r = some [I p.wide, I p.vars, Ns p.start, Cms p.cmds]) : PuAt Tryz.prog 57 [Ns t, .ptr r 0] H (B (!decide (kind p.wide p.vars t = 2))) := by
  intro K hK
  refine W57_ok ?_; simp (maxSteps := 1000000) (disch := first | assumption | (apply Ne.symm; assumption)) only [W57, vz, vu, vv, eqS, eqFieldsV, ↓condV_t, ↓condV_f, tabs, reduceCtorEq, Array.toList, ↓reduceIte, Nat.reduceAdd, Nat.reduceLeDiff, Nat.reduceLT, Nat.reduceMul, Nat.reduceSub, Int.reduceToNat, Int.reduceSub, Int.reduceAdd, Int.reduceNeg, load_at hr]
  refine Pu.use (isCondition_spec p t ht) ?_
  (try simp (maxSteps := 1000000) (disch := first | assumption | (apply Ne.symm; assumption)) only [vz, vu, vv, eqS, eqFieldsV, ↓condV_t, ↓condV_f, tabs, reduceCtorEq, Array.toList, ↓reduceIte, Nat.reduceAdd, Nat.reduceLeDiff, Nat.reduceLT, Nat.reduceMul, Nat.reduceSub, Int.reduceToNat, Int.reduceSub, Int.reduceAdd, Int.reduceNeg])
  cases h : decide (kind p.wide p.vars t = 2) <;> simp_all
theorem arePreds_spec (p : Pg) (ts : List (List Nd)) (hl : ts.length ≤ 1048576) (hv : ∀ t ∈ ts, vT t) (least : Int) : Pu Tryz.prog 32 [aPg p, Nss ts, I least] (B (okTs p ts least)) := by
  refine Pu.of fun H => ?_
  refine W32_ok ?_; simp (maxSteps := 1000000) (disch := first | assumption | (apply Ne.symm; assumption)) only [W32, vz, vu, vv, eqS, eqFieldsV, ↓condV_t, ↓condV_f, tabs, reduceCtorEq, Array.toList, ↓reduceIte, Nat.reduceAdd, Nat.reduceLeDiff, Nat.reduceLT, Nat.reduceMul, Nat.reduceSub, Int.reduceToNat, Int.reduceSub, Int.reduceAdd, Int.reduceNeg]
  intro r hr
  have hle : ∀ z, Heap.le H (H.set r z) := fun z => Heap.le_set hr
  (try simp (maxSteps := 1000000) (disch := first | assumption | (apply Ne.symm; assumption)) only [vz, vu, vv, eqS, eqFieldsV, ↓condV_t, ↓condV_f, tabs, reduceCtorEq, Array.toList, ↓reduceIte, Nat.reduceAdd, Nat.reduceLeDiff, Nat.reduceLT, Nat.reduceMul, Nat.reduceSub, Int.reduceToNat, Int.reduceSub, Int.reduceAdd, Int.reduceNeg])
  refine ⟨fun h1 => ⟨fun h2 => ?_, fun h2 => ⟨?_, hle _⟩⟩, fun h1 => ⟨?_, hle _⟩⟩
  · refine PuAt.use (ContainsFuncNs_at ts _ _ (fun t => !decide (kind p.wide p.vars t = 2)) (by omega) fun t ht => arePreds1_at p t (hv t ht) r (Heap.set_same _ _ _)) ?_
    (try simp (maxSteps := 1000000) (disch := first | assumption | (apply Ne.symm; assumption)) only [vz, vu, vv, eqS, eqFieldsV, ↓condV_t, ↓condV_f, tabs, reduceCtorEq, Array.toList, ↓reduceIte, Nat.reduceAdd, Nat.reduceLeDiff, Nat.reduceLT, Nat.reduceMul, Nat.reduceSub, Int.reduceToNat, Int.reduceSub, Int.reduceAdd, Int.reduceNeg])
    refine ⟨?_, hle _⟩
    have h2' : ts.length ≤ 8 := by omega
    simp only [okTs, h1, h2', decide_true, Bool.true_and]
    congr 2
    rw [List.all_eq_not_any_not]
  · have : ¬ ts.length ≤ 8 := by omega
    simp [okTs, this]
  · simp [okTs, h1]
/-! ### The reference -/
theorem okTs_k {p : Pg} {ts : List (List Nd)} {l : Int} (h : okTs p ts l = true) : l ≤ ts.length ∧ ts.length ≤ 8 ∧ ∀ t ∈ ts, kind p.wide p.vars t = 2 := by
  simp only [okTs, Bool.and_eq_true, decide_eq_true_eq, List.all_eq_true] at h
  exact ⟨h.1.1, h.1.2, h.2⟩
theorem l15Split_spec (p : Pg) (hb : smallP p = true) (of : List Int) (hl : of.length ≤ 1000) (hx : ∀ x ∈ of, -1000000 ≤ x ∧ x ≤ 1000000) (t : List Nd) (ht : vT t) (hk : kind p.wide p.vars t = 2) : Pu Tryz.prog 45 [aPg p, aS of, Ns t] (aS (cutL of (whN p t (allP p)))) := by
  refine Pu.of fun H => ?_
  have hal := allP_bd (smallP_of hb)
  have hwl := whN_len p t (allP p)
  refine W45_ok ?_; simp (maxSteps := 1000000) (disch := first | assumption | (apply Ne.symm; assumption)) only [W45, vz, vu, vv, eqS, eqFieldsV, ↓condV_t, ↓condV_f, tabs, reduceCtorEq, Array.toList, ↓reduceIte, Nat.reduceAdd, Nat.reduceLeDiff, Nat.reduceLT, Nat.reduceMul, Nat.reduceSub, Int.reduceToNat, Int.reduceSub, Int.reduceAdd, Int.reduceNeg]
  intro r3 h3 r4 n43 h4 r6 n64 n63 h6
  have nn43 := Ne.symm n43
  have nn63 := Ne.symm n63
  have nn64 := Ne.symm n64
  have hb1 : ∀ z, Heap.le H (((H.set r3 [I p.wide, I p.vars, Ns p.start, Cms p.cmds]).set r4 [Is of]).set r6 z) := fun z => Heap.le_setN (Heap.le_setN (Heap.le_set h3) h4) h6
  (try simp (maxSteps := 1000000) (disch := first | assumption | (apply Ne.symm; assumption)) only [vz, vu, vv, eqS, eqFieldsV, ↓condV_t, ↓condV_f, tabs, reduceCtorEq, Array.toList, ↓reduceIte, Nat.reduceAdd, Nat.reduceLeDiff, Nat.reduceLT, Nat.reduceMul, Nat.reduceSub, Int.reduceToNat, Int.reduceSub, Int.reduceAdd, Int.reduceNeg])
  refine Pu.use (l8Those_spec p hb t ht hk) ?_
  (try simp (maxSteps := 1000000) (disch := first | assumption | (apply Ne.symm; assumption)) only [vz, vu, vv, eqS, eqFieldsV, ↓condV_t, ↓condV_f, tabs, reduceCtorEq, Array.toList, ↓reduceIte, Nat.reduceAdd, Nat.reduceLeDiff, Nat.reduceLT, Nat.reduceMul, Nat.reduceSub, Int.reduceToNat, Int.reduceSub, Int.reduceAdd, Int.reduceNeg])
  refine Pu.use (l15Cut_spec of _ hl (by omega) hx) ?_
  (try simp (maxSteps := 1000000) (disch := first | assumption | (apply Ne.symm; assumption)) only [vz, vu, vv, eqS, eqFieldsV, ↓condV_t, ↓condV_f, tabs, reduceCtorEq, Array.toList, ↓reduceIte, Nat.reduceAdd, Nat.reduceLeDiff, Nat.reduceLT, Nat.reduceMul, Nat.reduceSub, Int.reduceToNat, Int.reduceSub, Int.reduceAdd, Int.reduceNeg])
  exact hb1 _
theorem numL_bd {α : Type} [DecidableEq α] (k : Nat → α) (n : Nat) : ∀ x ∈ numL k n, 0 ≤ x ∧ x ≤ n := by
  intro x hx
  simp only [numL, List.mem_map, List.mem_range] at hx
  obtain ⟨i, hi, rfl⟩ := hx
  have h1 := numN_lt k hi
  have h2 := cntN_le k n
  omega
def sbOk (p : Pg) (ts : List (List Nd)) : Bool := smallP p && okTs p ts 0
end Go.Proofs.YtdnfiacjoghfkaaGreat
/- Specs: SightBy in the program; SplitBy. -/
namespace Go.Proofs.YtdnfiacjoghfkaaGreat
open Go Go.Sep Go.Pt
set_option linter.unusedSimpArgs false
set_option linter.unusedVariables false
attribute [local irreducible] CallT

theorem orI (a b : Nat) (ha : a < 2 ^ 62) (hb : b < 2 ^ 62) : bitsI .or .i64 (a : Int) (b : Int) = ((a ||| b : Nat) : Int) := by
  have e : ∀ x : Nat, x < 2 ^ 62 → (BitVec.ofInt IntKind.i64.bits (x : Int)).toNat = x := by
    intro x hx
    have : BitVec.ofInt IntKind.i64.bits (x : Int) = BitVec.ofNat 64 x := by
      apply BitVec.eq_of_toNat_eq; simp [IntKind.bits]
    rw [this]
    show (BitVec.ofNat 64 x).toNat = x
    rw [BitVec.toNat_ofNat, Nat.mod_eq_of_lt (by omega)]
  simp only [bitsI]
  rw [BitVec.toNat_or, e a ha, e b hb]
  have := Nat.or_lt_two_pow ha hb
  exact i64_id (by omega) (by omega)
/-- The keys: of the states below no whole, of the state no by the first k conditions. -/
def keyA (p : Pg) (ts : List (List Nd)) (no k : Nat) : List (Int × Int) := (List.range (allP p)).map fun j => if j < no then ((maskN p ts j ts.length : Int), 0) else if j = no then ((maskN p ts j k : Int), 0) else (0, 0)
theorem keyA_len (p : Pg) (ts : List (List Nd)) (no k : Nat) : (keyA p ts no k).length = allP p := by simp [keyA]
theorem keyA_get (p : Pg) (ts : List (List Nd)) {no k : Nat} (h : no < allP p) : (keyA p ts no k).getD no default = ((maskN p ts no k : Int), 0) := by
  simp [keyA, List.getD, h]
theorem keyA_set (p : Pg) (ts : List (List Nd)) {no k : Nat} (h : no < allP p) : (keyA p ts no k).set no ((maskN p ts no (k + 1) : Int), 0) = keyA p ts no (k + 1) := by
  apply List.ext_getElem
  · simp [keyA]
  · intro i h1 h2
    by_cases e : no = i
    · subst e; simp [keyA]
    · rw [List.getElem_set_ne e]
      have e' : ¬ i = no := fun h => e h.symm
      simp [keyA, e']
theorem keyA_next (p : Pg) (ts : List (List Nd)) (no : Nat) : keyA p ts no ts.length = keyA p ts (no + 1) 0 := by
  apply List.ext_getElem
  · simp [keyA]
  · intro i h1 h2
    simp only [keyA, List.getElem_map, List.getElem_range]
    by_cases e : i < no
    · rw [if_pos e, if_pos (by omega)]
    · by_cases e2 : i = no
      · rw [if_neg e, if_pos e2, if_pos (by omega)]
      · rw [if_neg e, if_neg e2, if_neg (by omega)]
        split <;> simp [maskN]
theorem keyA_zero (p : Pg) (ts : List (List Nd)) : keyA p ts 0 0 = List.replicate (allP p) (0, 0) := by
  apply List.ext_getElem
  · simp [keyA]
  · intro i h1 h2
    simp only [keyA, List.getElem_map, List.getElem_range, List.getElem_replicate, Nat.not_lt_zero, if_false]
    split <;> simp [maskN]
theorem keyA_num (p : Pg) (ts : List (List Nd)) : numL (kN (keyA p ts (allP p) 0)) (allP p) = byK p ts ts.length := by
  refine numL_ext fun i j hi hj => ?_
  have e : ∀ i, i < allP p → kN (keyA p ts (allP p) 0) i = ((maskN p ts i ts.length : Int), 0) := fun i hi => by simp [keyA, kN, List.getD, hi]
  rw [e i hi, e j hj, Prod.mk.injEq, Int.ofNat_inj]
  simp
theorem keyA_r (p : Pg) (ts : List (List Nd)) (h8 : ts.length ≤ 8) : ∀ x ∈ keyA p ts (allP p) 0, i64R x.1 ∧ i64R x.2 := by
  intro x hx
  simp only [keyA, List.mem_map, List.mem_range] at hx
  obtain ⟨j, hj, rfl⟩ := hx
  rw [if_pos hj]
  have h1 := maskN_lt p ts j ts.length
  have h2 := Nat.pow_le_pow_right (n := 2) (by decide) h8
  have h3 : (2 : Nat) ^ 8 = 256 := by decide
  exact ⟨⟨by simp only; omega, by simp only; omega⟩, ⟨by simp only; omega, by simp only; omega⟩⟩

theorem SightBy_impl (p : Pg) (hp : vPg p) (ts : List (List Nd)) (hl : ts.length ≤ 1048576) (hv : ∀ t ∈ ts, vT t) {H : Heap} {K : AV → Heap → Prop}
    (h0 : sbOk p ts = false → K (.tup [.agg [.p .nil], B false]) H)
    (h : sbOk p ts = true → ∀ q, H q = none → K (.tup [.agg [rowP q (byK p ts ts.length)], B true]) (H.set q (cP fI (byK p ts ts.length)))) : CallT Tryz.prog 10 [aPg p, Nss ts] H K := by
  refine CallT.fin ?_
  refine W10_ok ?_; simp (maxSteps := 1000000) (disch := first | assumption | (apply Ne.symm; assumption)) only [W10, vz, vu, vv, eqS, eqFieldsV, ↓condV_t, ↓condV_f, tabs, reduceCtorEq, Array.toList, ↓reduceIte, Nat.reduceAdd, Nat.reduceLeDiff, Nat.reduceLT, Nat.reduceMul, Nat.reduceSub, Int.reduceToNat, Int.reduceSub, Int.reduceAdd, Int.reduceNeg, makeSliceV]
  intro r2 h2 r4 n42 h4
  have nn42 := Ne.symm n42
  have hb1 : ∀ z, Heap.le H ((H.set r2 [I p.wide, I p.vars, Ns p.start, Cms p.cmds]).set r4 z) := fun z => Heap.le_setN (Heap.le_set h2) h4
  have bad : sbOk p ts = false → ∀ z, wkK K (.tup [.agg [.p .nil], B false]) ((H.set r2 [I p.wide, I p.vars, Ns p.start, Cms p.cmds]).set r4 z) := fun hk z => fin_le (hb1 z) (h0 hk)
  (try simp (maxSteps := 1000000) (disch := first | assumption | (apply Ne.symm; assumption)) only [vz, vu, vv, eqS, eqFieldsV, ↓condV_t, ↓condV_f, tabs, reduceCtorEq, Array.toList, ↓reduceIte, Nat.reduceAdd, Nat.reduceLeDiff, Nat.reduceLT, Nat.reduceMul, Nat.reduceSub, Int.reduceToNat, Int.reduceSub, Int.reduceAdd, Int.reduceNeg])
  refine Pu.use (isSmall_spec p hp) ?_
  cases hb : smallP p
  · (try simp (maxSteps := 1000000) (disch := first | assumption | (apply Ne.symm; assumption)) only [vz, vu, vv, eqS, eqFieldsV, ↓condV_t, ↓condV_f, tabs, reduceCtorEq, Array.toList, ↓reduceIte, Nat.reduceAdd, Nat.reduceLeDiff, Nat.reduceLT, Nat.reduceMul, Nat.reduceSub, Int.reduceToNat, Int.reduceSub, Int.reduceAdd, Int.reduceNeg])
    exact bad (by simp [sbOk, hb]) _
  (try simp (maxSteps := 1000000) (disch := first | assumption | (apply Ne.symm; assumption)) only [vz, vu, vv, eqS, eqFieldsV, ↓condV_t, ↓condV_f, tabs, reduceCtorEq, Array.toList, ↓reduceIte, Nat.reduceAdd, Nat.reduceLeDiff, Nat.reduceLT, Nat.reduceMul, Nat.reduceSub, Int.reduceToNat, Int.reduceSub, Int.reduceAdd, Int.reduceNeg])
  refine Pu.use (arePreds_spec p ts hl hv 0) ?_
  cases hk : okTs p ts 0
  · (try simp (maxSteps := 1000000) (disch := first | assumption | (apply Ne.symm; assumption)) only [vz, vu, vv, eqS, eqFieldsV, ↓condV_t, ↓condV_f, tabs, reduceCtorEq, Array.toList, ↓reduceIte, Nat.reduceAdd, Nat.reduceLeDiff, Nat.reduceLT, Nat.reduceMul, Nat.reduceSub, Int.reduceToNat, Int.reduceSub, Int.reduceAdd, Int.reduceNeg])
    exact bad (by simp [sbOk, hk]) _
  obtain ⟨_, k8, kk⟩ := okTs_k hk
  have hs := smallP_of hb
  have hal := allP_bd hs
  have hsp := statesP_nat hs
  have hok : sbOk p ts = true := by simp [sbOk, hb, hk]
  (try simp (maxSteps := 1000000) (disch := first | assumption | (apply Ne.symm; assumption)) only [vz, vu, vv, eqS, eqFieldsV, ↓condV_t, ↓condV_f, tabs, reduceCtorEq, Array.toList, ↓reduceIte, Nat.reduceAdd, Nat.reduceLeDiff, Nat.reduceLT, Nat.reduceMul, Nat.reduceSub, Int.reduceToNat, Int.reduceSub, Int.reduceAdd, Int.reduceNeg])
  refine Pu.use (states_spec p hb) ?_
  rw [hsp]
  (try simp (maxSteps := 1000000) (disch := first | assumption | (apply Ne.symm; assumption)) only [vz, vu, vv, eqS, eqFieldsV, ↓condV_t, ↓condV_f, tabs, reduceCtorEq, Array.toList, ↓reduceIte, Nat.reduceAdd, Nat.reduceLeDiff, Nat.reduceLT, Nat.reduceMul, Nat.reduceSub, Int.reduceToNat, Int.reduceSub, Int.reduceAdd, Int.reduceNeg])
  refine ⟨by omega, by omega, by omega, by omega, fun q n4 n2 hq => ?_⟩
  have nn4 := Ne.symm n4
  have nn2 := Ne.symm n2
  have ez : zerosA (allP p) [AV.p (PV.int IntKind.i64 0), AV.p (PV.int IntKind.i64 0)] = c2 (keyA p ts 0 0) := by
    rw [keyA_zero, c2, List.map_replicate]
    simp only [zerosA, cells]
    rw [List.map_flatten, List.map_replicate]; rfl
  rw [ez]
  have f2 : ((H.set r2 [I p.wide, I p.vars, Ns p.start, Cms p.cmds]).set r4 [AV.p .nil]) r2 = some [I p.wide, I p.vars, Ns p.start, Cms p.cmds] := by rw [Heap.set_other nn42, Heap.set_same]
  have f4 : ((H.set r2 [I p.wide, I p.vars, Ns p.start, Cms p.cmds]).set r4 [AV.p .nil]) r4 = some [AV.p .nil] := Heap.set_same _ _ _
  have fq : ((H.set r2 [I p.wide, I p.vars, Ns p.start, Cms p.cmds]).set r4 [AV.p .nil]) q = none := by rw [Heap.set_other n4, Heap.set_other n2]; exact hq
  have hlH := hb1 [AV.p .nil]
  generalize (H.set r2 [I p.wide, I p.vars, Ns p.start, Cms p.cmds]).set r4 [AV.p .nil] = G at f2 f4 fq hlH ⊢
  have kl := keyA_len p ts
  refine L10_0_rule (0 : Nat) (fun s => I s) (fun s => G.set q (c2 (keyA p ts s 0))) (fun s => s ≤ allP p) (fun s => allP p - s) ⟨by omega, .refl _, Heap.le_refl _⟩ ?_
  intro no hno
  have k2 : ∀ z, (G.set q z) r2 = some [I p.wide, I p.vars, Ns p.start, Cms p.cmds] := fun z => by rw [Heap.set_other nn2]; exact f2
  (try simp (maxSteps := 1000000) (disch := first | assumption | (apply Ne.symm; assumption)) only [vz, vu, vv, eqS, eqFieldsV, ↓condV_t, ↓condV_f, tabs, reduceCtorEq, Array.toList, ↓reduceIte, Nat.reduceAdd, Nat.reduceLeDiff, Nat.reduceLT, Nat.reduceMul, Nat.reduceSub, Int.reduceToNat, Int.reduceSub, Int.reduceAdd, Int.reduceNeg, B10_0, load_at (k2 _)])
  refine ⟨fun h1 => ?_, fun h1 => ?_⟩
  · have hlt : no < allP p := by omega
    refine Pu.use (stateOf_spec p hs no (by omega)) ?_
    (try simp (maxSteps := 1000000) (disch := first | assumption | (apply Ne.symm; assumption)) only [vz, vu, vv, eqS, eqFieldsV, ↓condV_t, ↓condV_f, tabs, reduceCtorEq, Array.toList, ↓reduceIte, Nat.reduceAdd, Nat.reduceLeDiff, Nat.reduceLT, Nat.reduceMul, Nat.reduceSub, Int.reduceToNat, Int.reduceSub, Int.reduceAdd, Int.reduceNeg])
    refine L10_1_rule (0 : Nat) (fun s => I s) (fun s => G.set q (c2 (keyA p ts no s))) (fun s => s ≤ ts.length) (fun s => ts.length - s) ⟨by omega, .refl _, Heap.le_refl _⟩ ?_
    intro k hk2
    have kg := keyA_get p ts (k := k) hlt
    have ks := keyA_set p ts (k := k) hlt
    have kl2 := kl no k
    have rd := c2_rd (xs := keyA p ts no k) (t := no) (by omega)
    have st := c2_set (xs := keyA p ts no k) (t := no) (by omega)
    have cl := c2_len (keyA p ts no k)
    rw [kg] at rd st
    have kq : (G.set q (c2 (keyA p ts no k))) q = some (c2 (keyA p ts no k)) := Heap.set_same _ _ _
    have k2' := k2 (c2 (keyA p ts no k))
    generalize hX : c2 (keyA p ts no k) = X at *
    (try simp (maxSteps := 1000000) (disch := first | assumption | (apply Ne.symm; assumption)) only [vz, vu, vv, eqS, eqFieldsV, ↓condV_t, ↓condV_f, tabs, reduceCtorEq, Array.toList, ↓reduceIte, Nat.reduceAdd, Nat.reduceLeDiff, Nat.reduceLT, Nat.reduceMul, Nat.reduceSub, Int.reduceToNat, Int.reduceSub, Int.reduceAdd, Int.reduceNeg, B10_1, load_at k2', load_at kq])
    refine ⟨fun h5 => ⟨by omega, h5, by omega, by omega, ?_⟩, fun h5 => ?_⟩
    · have hlt2 : k < ts.length := by omega
      have hm : ts.getD k default ∈ ts := getD_all (p := fun x => x ∈ ts) (fun _ h => h) hlt2
      have hkt := kk _ hm
      have htv := hv _ hm
      (try simp (maxSteps := 1000000) (disch := first | assumption | (apply Ne.symm; assumption)) only [vz, vu, vv, eqS, eqFieldsV, ↓condV_t, ↓condV_f, tabs, reduceCtorEq, Array.toList, ↓reduceIte, Nat.reduceAdd, Nat.reduceLeDiff, Nat.reduceLT, Nat.reduceMul, Nat.reduceSub, Int.reduceToNat, Int.reduceSub, Int.reduceAdd, Int.reduceNeg, indexAddrV, tab_67, load_at kq, rd])
      refine ⟨by omega, by omega, by omega, by omega, by omega, ?_⟩
      have hsw := sw_of hs
      obtain ⟨w, v, e1, e2, e3, e4, hw1, hw5, hv1, hv4, hwv⟩ := hs.nat
      have hst1 := stP_len' p no
      have hst2 := stP_lt' p no
      have hval := tval_eq hs (fun x hm => (htv.2 x hm).1) hkt no hst1 hst2
      have hv1 := valueOf_spec (kd := 2) hsw htv.1 htv.2 (s := stP p no) (v := p.vars.toNat) hst1 hst2 (by decide) (by rw [e3, e4, ← e1, ← e2]; exact hkt)
      rw [hval] at hv1
      rw [e3, ← e1] at hv1
      refine Pu.use hv1 ?_
      have hbl := bitP_le p (ts.getD k default) no
      have hml := maskN_lt p ts no k
      have hk7 : k ≤ 7 := by omega
      have hp2 : (2 : Nat) ^ k ≤ 128 := Nat.pow_le_pow_right (n := 2) (by decide) hk7
      have hmin : min k IntKind.i64.bits = k := Nat.min_eq_left (show k ≤ 64 by omega)
      have hbk : bitP p (ts.getD k default) no * 2 ^ k ≤ 128 := by
        have := Nat.mul_le_mul_right (2 ^ k) hbl
        omega
      have eor : bitsI BinOp.or IntKind.i64 (maskN p ts no k : Int) (IntKind.i64.wrap (IntKind.i64.wrap (bitP p (ts.getD k default) no : Int) * 2 ^ min k IntKind.i64.bits)) = (maskN p ts no (k + 1) : Int) := by
        rw [hmin, i64_id (n := (bitP p (ts.getD k default) no : Int)) (by omega) (by omega)]
        have e1 : ((bitP p (ts.getD k default) no : Int) * 2 ^ k) = ((bitP p (ts.getD k default) no <<< k : Nat) : Int) := by
          rw [Nat.shiftLeft_eq]; simp
        have e2 : bitP p (ts.getD k default) no <<< k ≤ 128 := by rw [Nat.shiftLeft_eq]; exact hbk
        rw [e1, i64_id (by omega) (by omega), orI _ _ (by omega) (by omega), mask_or hml]
        rfl
      (try simp (maxSteps := 1000000) (disch := first | assumption | (apply Ne.symm; assumption)) only [vz, vu, vv, eqS, eqFieldsV, ↓condV_t, ↓condV_f, tabs, reduceCtorEq, Array.toList, ↓reduceIte, Nat.reduceAdd, Nat.reduceLeDiff, Nat.reduceLT, Nat.reduceMul, Nat.reduceSub, Int.reduceToNat, Int.reduceSub, Int.reduceAdd, Int.reduceNeg, load_at kq, store_at kq, rd, eor])
      have est := st (maskN p ts no (k + 1) : Int)
      simp only at est
      rw [est, ks]
      refine ⟨by omega, by omega, by omega, by omega, by omega, k + 1, by omega, by omega, ?_, Heap.le_refl _⟩
      rw [wk_int, i64_id (by omega) (by omega)]; simp
    · have : k = ts.length := by omega
      subst this
      refine ⟨no + 1, by omega, by omega, ?_, ?_⟩
      · rw [wk_int, i64_id (by omega) (by omega)]; simp
      · rw [← hX, keyA_next]; exact Heap.le_refl _
  · have : no = allP p := by omega
    subst this
    have hkl := kl (allP p) 0
    have hw := Wk.frz (v := .tup [row2 q (keyA p ts (allP p) 0)]) (v' := .tup [.p (.sl ((keyA p ts (allP p) 0).map e2))]) (H := G.set q (c2 (keyA p ts (allP p) 0))) (r := q) (sz := 2) (es := (keyA p ts (allP p) 0).map e2) (by omega) (Heap.set_same _ _ _) (sz2 _) (.tup (.cons frz_row2 .nil))
    rw [row2, hkl, Heap.del_set fq] at hw
    refine CallT.pre (numbered_spec (keyA p ts (allP p) 0) (by omega) (by omega) (keyA_r p ts k8) fun q2 hq2 => ?_) hw
    rw [hkl, keyA_num]
    have e42 : r4 ≠ q2 := fun e => by rw [← e, f4] at hq2; cases hq2
    have hq3 : H q2 = none := by
      cases hh : H q2 with
      | none => rfl
      | some b => rw [hlH _ _ hh] at hq2; cases hq2
    have := h hok q2 hq3
    have k4 : (G.set q2 (cP fI (byK p ts ts.length))) r4 = some [AV.p .nil] := by rw [Heap.set_other e42]; exact f4
    generalize cP fI (byK p ts ts.length) = z at this k4 ⊢
    (try simp (maxSteps := 1000000) (disch := first | assumption | (apply Ne.symm; assumption)) only [vz, vu, vv, eqS, eqFieldsV, ↓condV_t, ↓condV_f, tabs, reduceCtorEq, Array.toList, ↓reduceIte, Nat.reduceAdd, Nat.reduceLeDiff, Nat.reduceLT, Nat.reduceMul, Nat.reduceSub, Int.reduceToNat, Int.reduceSub, Int.reduceAdd, Int.reduceNeg, store_at k4])
    refine fin_le ?_ this
    intro y b hy
    by_cases e : y = q2
    · subst e; rw [Heap.set_same] at hy; rw [Heap.set_other (Ne.symm e42), Heap.set_same]; exact hy
    · rw [Heap.set_other e] at hy
      have hy4 : y ≠ r4 := fun e => by rw [e, h4] at hy; cases hy
      rw [Heap.set_other hy4, Heap.set_other e]; exact hlH _ _ hy
end Go.Proofs.YtdnfiacjoghfkaaGreat
/- Specs: SplitBy. -/
namespace Go.Proofs.YtdnfiacjoghfkaaGreat
open Go Go.Sep Go.Pt
set_option linter.unusedSimpArgs false
set_option linter.unusedVariables false
attribute [local irreducible] CallT

def spOk (p : Pg) (of : List Int) (t : List Nd) : Bool := goodSt p of && decide (kind p.wide p.vars t = 2)
def spR (p : Pg) (of : List Int) (t : List Nd) : List Int := if spOk p of t then cutL of (whN p t (allP p)) else []
theorem split_eq {p : Pg} {of : List Int} (t : List Nd) (hl : of.length = allP p) : meetL of (byK p [t] 1) = cutL of (whN p t (allP p)) := by
  unfold cutL meetL
  refine numL_ext fun i j hi hj => ?_
  have hi' : i < allP p := by omega
  have hj' : j < allP p := by omega
  rw [keysM_get hi, keysM_get hj, keysM_get hi, keysM_get hj, byK_get _ _ _ hi', byK_get _ _ _ hj', indL_get hi, indL_get hj, Prod.mk.injEq, Prod.mk.injEq]
  have e : ∀ i : Nat, i < allP p → ((if (i : Int) ∈ whN p t (allP p) then 1 else 0 : Int) = bitP p t i) := fun i hi => by
    have : (i : Int) ∈ whN p t (allP p) ↔ holdP p t i = true := by
      rw [whN_mem]
      constructor
      · rintro ⟨j, hj, _, h⟩
        have : i = j := by omega
        rw [this]; exact h
      · intro h; exact ⟨i, rfl, hi, h⟩
    unfold bitP
    by_cases hh : holdP p t i = true
    · rw [if_pos (this.2 hh), if_pos hh]; rfl
    · rw [if_neg (fun h => hh (this.1 h)), if_neg hh]; rfl
  rw [e i hi', e j hj']
  have hn : (((numN (fun no => maskN p [t] no 1) i : Nat) : Int) = ((numN (fun no => maskN p [t] no 1) j : Nat) : Int)) ↔ bitP p t i = bitP p t j := by
    rw [Int.ofNat_inj, numN_iff, maskN_iff]
    simp [maskN]
  rw [hn, Int.ofNat_inj]
theorem SplitBy_ref (p : Pg) (of : List Int) (t : List Nd) (hp : vPg p) (hal : of.length ≤ 1048576) (ht : vT t) : Pu Tryz.prog 20 [aPg p, aS of, Ns t] (.tup [aS (spR p of t), B (spOk p of t)]) := by
  refine ⟨fun H => CallT.fin ?_⟩
  refine W20_ok ?_; simp (maxSteps := 1000000) (disch := first | assumption | (apply Ne.symm; assumption)) only [W20, vz, vu, vv, eqS, eqFieldsV, ↓condV_t, ↓condV_f, tabs, reduceCtorEq, Array.toList, ↓reduceIte, Nat.reduceAdd, Nat.reduceLeDiff, Nat.reduceLT, Nat.reduceMul, Nat.reduceSub, Int.reduceToNat, Int.reduceSub, Int.reduceAdd, Int.reduceNeg]
  intro r3 h3 r4 n43 h4 r6 n64 n63 h6
  have nn43 := Ne.symm n43
  have nn63 := Ne.symm n63
  have nn64 := Ne.symm n64
  have hb1 : ∀ z, Heap.le H (((H.set r3 [I p.wide, I p.vars, Ns p.start, Cms p.cmds]).set r4 [Is of]).set r6 z) := fun z => Heap.le_setN (Heap.le_setN (Heap.le_set h3) h4) h6
  have bad : spOk p of t = false → ∀ z, wkK (fun r H' => r = AV.tup [aS (spR p of t), B (spOk p of t)] ∧ H' = H) (.tup [.agg [.p .nil], B false]) (((H.set r3 [I p.wide, I p.vars, Ns p.start, Cms p.cmds]).set r4 [Is of]).set r6 z) := fun hk z => by
    refine ⟨_, _, .trans (.val (v' := .tup [aS [], B false]) (wk_tup ⟨wk_agg ⟨.nil, trivial⟩, .refl _, trivial⟩)) (.forget (hb1 z)), by simp [spR, hk], rfl⟩
  (try simp (maxSteps := 1000000) (disch := first | assumption | (apply Ne.symm; assumption)) only [vz, vu, vv, eqS, eqFieldsV, ↓condV_t, ↓condV_f, tabs, reduceCtorEq, Array.toList, ↓reduceIte, Nat.reduceAdd, Nat.reduceLeDiff, Nat.reduceLT, Nat.reduceMul, Nat.reduceSub, Int.reduceToNat, Int.reduceSub, Int.reduceAdd, Int.reduceNeg])
  refine Pu.use (GoodSight_spec p of hp hal) ?_
  cases ha : goodSt p of
  · (try simp (maxSteps := 1000000) (disch := first | assumption | (apply Ne.symm; assumption)) only [vz, vu, vv, eqS, eqFieldsV, ↓condV_t, ↓condV_f, tabs, reduceCtorEq, Array.toList, ↓reduceIte, Nat.reduceAdd, Nat.reduceLeDiff, Nat.reduceLT, Nat.reduceMul, Nat.reduceSub, Int.reduceToNat, Int.reduceSub, Int.reduceAdd, Int.reduceNeg])
    exact bad (by simp [spOk, ha]) _
  have hrun := goodSt_run ha
  have hla := goodSt_len ha
  (try simp (maxSteps := 1000000) (disch := first | assumption | (apply Ne.symm; assumption)) only [vz, vu, vv, eqS, eqFieldsV, ↓condV_t, ↓condV_f, tabs, reduceCtorEq, Array.toList, ↓reduceIte, Nat.reduceAdd, Nat.reduceLeDiff, Nat.reduceLT, Nat.reduceMul, Nat.reduceSub, Int.reduceToNat, Int.reduceSub, Int.reduceAdd, Int.reduceNeg])
  refine Pu.use (l7Asks_spec p t ht) ?_
  cases hk : decide (kind p.wide p.vars t = 2)
  · (try simp (maxSteps := 1000000) (disch := first | assumption | (apply Ne.symm; assumption)) only [vz, vu, vv, eqS, eqFieldsV, ↓condV_t, ↓condV_f, tabs, reduceCtorEq, Array.toList, ↓reduceIte, Nat.reduceAdd, Nat.reduceLeDiff, Nat.reduceLT, Nat.reduceMul, Nat.reduceSub, Int.reduceToNat, Int.reduceSub, Int.reduceAdd, Int.reduceNeg])
    exact bad (by simp [spOk, hk]) _
  have hok : spOk p of t = true := by simp [spOk, ha, hk]
  (try simp (maxSteps := 1000000) (disch := first | assumption | (apply Ne.symm; assumption)) only [vz, vu, vv, eqS, eqFieldsV, ↓condV_t, ↓condV_f, tabs, reduceCtorEq, Array.toList, ↓reduceIte, Nat.reduceAdd, Nat.reduceLeDiff, Nat.reduceLT, Nat.reduceMul, Nat.reduceSub, Int.reduceToNat, Int.reduceSub, Int.reduceAdd, Int.reduceNeg])
  refine Pu.use (l15Split_spec p hrun.1 of (by omega) (fun x hx => ?_) t ht (of_decide_eq_true hk)) ?_
  · obtain ⟨i, hi, rfl⟩ := List.getElem_of_mem hx
    have := goodSt_el ha hi
    have e : of.getD i default = of[i] := by simp [List.getD, hi]
    rw [e] at this
    omega
  · (try simp (maxSteps := 1000000) (disch := first | assumption | (apply Ne.symm; assumption)) only [vz, vu, vv, eqS, eqFieldsV, ↓condV_t, ↓condV_f, tabs, reduceCtorEq, Array.toList, ↓reduceIte, Nat.reduceAdd, Nat.reduceLeDiff, Nat.reduceLT, Nat.reduceMul, Nat.reduceSub, Int.reduceToNat, Int.reduceSub, Int.reduceAdd, Int.reduceNeg])
    exact ⟨_, _, .forget (hb1 _), by simp [spR, hok], rfl⟩
theorem SplitBy_impl (p : Pg) (of : List Int) (t : List Nd) (hp : vPg p) (hal : of.length ≤ 1048576) (ht : vT t) {H : Heap} {K : AV → Heap → Prop}
    (h : ∀ v G D, RS (spR p of t) v G D → New H G D → K (.tup [v, B (spOk p of t)]) G) : CallT Tryz.prog 23 [aPg p, aS of, Ns t] H K := by
  refine CallT.fin ?_
  refine W23_ok ?_; simp (maxSteps := 1000000) (disch := first | assumption | (apply Ne.symm; assumption)) only [W23, vz, vu, vv, eqS, eqFieldsV, ↓condV_t, ↓condV_f, tabs, reduceCtorEq, Array.toList, ↓reduceIte, Nat.reduceAdd, Nat.reduceLeDiff, Nat.reduceLT, Nat.reduceMul, Nat.reduceSub, Int.reduceToNat, Int.reduceSub, Int.reduceAdd, Int.reduceNeg]
  intro r3 h3 r4 n43 h4 r6 n64 n63 h6
  have nn43 := Ne.symm n43
  have nn63 := Ne.symm n63
  have nn64 := Ne.symm n64
  have hb1 : ∀ z, Heap.le H (((H.set r3 [I p.wide, I p.vars, Ns p.start, Cms p.cmds]).set r4 [Is of]).set r6 z) := fun z => Heap.le_setN (Heap.le_setN (Heap.le_set h3) h4) h6
  (try simp (maxSteps := 1000000) (disch := first | assumption | (apply Ne.symm; assumption)) only [vz, vu, vv, eqS, eqFieldsV, ↓condV_t, ↓condV_f, tabs, reduceCtorEq, Array.toList, ↓reduceIte, Nat.reduceAdd, Nat.reduceLeDiff, Nat.reduceLT, Nat.reduceMul, Nat.reduceSub, Int.reduceToNat, Int.reduceSub, Int.reduceAdd, Int.reduceNeg])
  refine lit1 tab_39 rfl tab_34 ⟨rfl, rfl⟩ ?_
  have hts : ∀ t' ∈ [t], vT t' := fun t' h => by rw [List.mem_singleton] at h; subst h; exact ht
  have f4 : (((H.set r3 [I p.wide, I p.vars, Ns p.start, Cms p.cmds]).set r4 [Is of]).set r6 [AV.p .nil]) r4 = some [Is of] := by rw [Heap.set_other nn64, Heap.set_same]
  have f3 : (((H.set r3 [I p.wide, I p.vars, Ns p.start, Cms p.cmds]).set r4 [Is of]).set r6 [AV.p .nil]) r3 = some [I p.wide, I p.vars, Ns p.start, Cms p.cmds] := by rw [Heap.set_other nn63, Heap.set_other nn43, Heap.set_same]
  have f6 : (((H.set r3 [I p.wide, I p.vars, Ns p.start, Cms p.cmds]).set r4 [Is of]).set r6 [AV.p .nil]) r6 = some [AV.p .nil] := Heap.set_same _ _ _
  have hlH := hb1 [AV.p .nil]
  generalize ((H.set r3 [I p.wide, I p.vars, Ns p.start, Cms p.cmds]).set r4 [Is of]).set r6 [AV.p .nil] = G at f3 f4 f6 hlH ⊢
  have bad : spOk p of t = false → ∀ G', Heap.le G G' → wkK K (.tup [.agg [.p .nil], B false]) (G'.set r6 [AV.p .nil]) := fun hk G' hG' => by
    refine fin_le (Heap.le_setN (Heap.le_trans hlH hG') h6) ?_
    have := h (.agg [.p .nil]) H [] (.inl ⟨by simp [spR, hk], rfl, rfl⟩) ⟨by simp, by simp, Heap.le_refl _⟩
    rwa [hk] at this
  refine SightBy_impl p hp [t] (by simp) hts (fun hk => ?_) (fun hk q hq => ?_)
  · (try simp (maxSteps := 1000000) (disch := first | assumption | (apply Ne.symm; assumption)) only [vz, vu, vv, eqS, eqFieldsV, ↓condV_t, ↓condV_f, tabs, reduceCtorEq, Array.toList, ↓reduceIte, Nat.reduceAdd, Nat.reduceLeDiff, Nat.reduceLT, Nat.reduceMul, Nat.reduceSub, Int.reduceToNat, Int.reduceSub, Int.reduceAdd, Int.reduceNeg])
    intro r8 hr8
    have e68 : r6 ≠ r8 := fun e => by rw [e, hr8] at f6; cases f6
    have k6 : (G.set r8 [AV.p .nil]) r6 = some [AV.p .nil] := by rw [Heap.set_other e68]; exact f6
    have := bad (by
      rw [Bool.eq_false_iff]; intro hh
      simp only [spOk, Bool.and_eq_true, decide_eq_true_eq] at hh
      have : sbOk p [t] = true := by simp [sbOk, okTs, (goodSt_run hh.1).1, hh.2]
      rw [hk] at this; cases this) _ (Heap.le_set (b := [AV.p .nil]) hr8)
    generalize G.set r8 [AV.p .nil] = G2 at k6 this ⊢
    (try simp (maxSteps := 1000000) (disch := first | assumption | (apply Ne.symm; assumption)) only [vz, vu, vv, eqS, eqFieldsV, ↓condV_t, ↓condV_f, tabs, reduceCtorEq, Array.toList, ↓reduceIte, Nat.reduceAdd, Nat.reduceLeDiff, Nat.reduceLT, Nat.reduceMul, Nat.reduceSub, Int.reduceToNat, Int.reduceSub, Int.reduceAdd, Int.reduceNeg, store_at k6])
    exact this
  · have hsm : smallP p = true ∧ kind p.wide p.vars t = 2 := by
      simpa [sbOk, okTs] using hk
    have hsp := statesP_nat (smallP_of hsm.1)
    have hal := allP_bd (smallP_of hsm.1)
    (try simp (maxSteps := 1000000) (disch := first | assumption | (apply Ne.symm; assumption)) only [vz, vu, vv, eqS, eqFieldsV, ↓condV_t, ↓condV_f, tabs, reduceCtorEq, Array.toList, ↓reduceIte, Nat.reduceAdd, Nat.reduceLeDiff, Nat.reduceLT, Nat.reduceMul, Nat.reduceSub, Int.reduceToNat, Int.reduceSub, Int.reduceAdd, Int.reduceNeg])
    intro r8 hr8q hr8
    have ne : ∀ {y c}, G y = some c → y ≠ q := fun h1 e => by rw [← e, h1] at hq; cases hq
    have ne8 : ∀ {y c}, G y = some c → y ≠ r8 := fun h1 e => by rw [← e, h1] at hr8; cases hr8
    have lG : Heap.le G ((G.set q (cP fI (byK p [t] 1))).set r8 [rowP q (byK p [t] 1)]) := Heap.le_setN (Heap.le_set hq) hr8
    have k8 : ((G.set q (cP fI (byK p [t] 1))).set r8 [rowP q (byK p [t] 1)]) r8 = some [rowP q (byK p [t] 1)] := Heap.set_same _ _ _
    have kq : ((G.set q (cP fI (byK p [t] 1))).set r8 [rowP q (byK p [t] 1)]) q = some (cP fI (byK p [t] 1)) := by rw [Heap.set_other (Ne.symm hr8q), Heap.set_same]
    generalize (G.set q (cP fI (byK p [t] 1))).set r8 [rowP q (byK p [t] 1)] = G2 at lG k8 kq ⊢
    have k3 := lG _ _ f3
    have k4 := lG _ _ f4
    have k6 := lG _ _ f6
    (try simp (maxSteps := 1000000) (disch := first | assumption | (apply Ne.symm; assumption)) only [vz, vu, vv, eqS, eqFieldsV, ↓condV_t, ↓condV_f, tabs, reduceCtorEq, Array.toList, ↓reduceIte, Nat.reduceAdd, Nat.reduceLeDiff, Nat.reduceLT, Nat.reduceMul, Nat.reduceSub, Int.reduceToNat, Int.reduceSub, Int.reduceAdd, Int.reduceNeg, load_at k3, load_at k4])
    refine Pu.use (GoodSight_impl p of hp (by assumption)) ?_
    cases ha : goodSt p of
    · (try simp (maxSteps := 1000000) (disch := first | assumption | (apply Ne.symm; assumption)) only [vz, vu, vv, eqS, eqFieldsV, ↓condV_t, ↓condV_f, tabs, reduceCtorEq, Array.toList, ↓reduceIte, Nat.reduceAdd, Nat.reduceLeDiff, Nat.reduceLT, Nat.reduceMul, Nat.reduceSub, Int.reduceToNat, Int.reduceSub, Int.reduceAdd, Int.reduceNeg, store_at k6])
      exact bad (by simp [spOk, ha]) _ lG
    (try simp (maxSteps := 1000000) (disch := first | assumption | (apply Ne.symm; assumption)) only [vz, vu, vv, eqS, eqFieldsV, ↓condV_t, ↓condV_f, tabs, reduceCtorEq, Array.toList, ↓reduceIte, Nat.reduceAdd, Nat.reduceLeDiff, Nat.reduceLT, Nat.reduceMul, Nat.reduceSub, Int.reduceToNat, Int.reduceSub, Int.reduceAdd, Int.reduceNeg, load_at k8, load_at k4])
    have hrun := goodSt_run ha
    have hla := goodSt_len ha
    have hok : spOk p of t = true := by simp [spOk, ha, hsm.2]
    have hlen : of.length = allP p := by have := hrun.2.1; omega
    have hHq : H q = none := by
      cases hh : H q with
      | none => rfl
      | some b => rw [hlH _ _ hh] at hq; cases hq
    have hw := Wk.frz (v := .tup [aS of, .agg [rowP q (byK p [t] 1)]]) (v' := .tup [aS of, aS (byK p [t] 1)]) (H := G2) (r := q) (sz := 1) (es := (byK p [t] 1).map fun n => [fI n]) (by omega) (by rw [flat_P]; exact kq) (szP _ _) (.tup (.cons (.same _) (.cons (.agg (.cons frz_row .nil)) .nil)))
    have kbl := byK_len p [t] 1
    refine CallT.pre (meetOf_spec of (byK p [t] 1) (by omega) (by omega) (by omega) (by omega) (goodSt_r ha) (fun x hx => ?_) fun q2 hq2 => ?_) hw
    · have := numL_bd _ _ x hx
      exact ⟨by omega, by omega⟩
    rw [split_eq t hlen]
    have lGd : Heap.le G (G2.del q) := Heap.le_del lG hq
    have j6 := lGd _ _ f6
    have e62 : r6 ≠ q2 := fun e => by rw [← e, j6] at hq2; cases hq2
    have hq3 : H q2 = none := by
      cases hh : H q2 with
      | none => rfl
      | some b => rw [lGd _ _ (hlH _ _ hh)] at hq2; cases hq2
    have := h (.agg [rowP q2 (cutL of (whN p t (allP p)))]) (H.set q2 (cP fI (cutL of (whN p t (allP p))))) [q2] (.inr ⟨q2, by simp [spR, hok], by simp [spR, hok, Heap.set_same], rfl⟩) ⟨by simp, by simpa using hq3, Heap.le_set hq3⟩
    rw [hok] at this
    have lGH := Heap.le_trans hlH lGd
    generalize G2.del q = G3 at hq2 j6 lGd lGH ⊢
    have k6 : (G3.set q2 (cP fI (cutL of (whN p t (allP p))))) r6 = some [AV.p .nil] := by rw [Heap.set_other e62]; exact j6
    generalize cP fI (cutL of (whN p t (allP p))) = z at this k6 ⊢
    (try simp (maxSteps := 1000000) (disch := first | assumption | (apply Ne.symm; assumption)) only [vz, vu, vv, eqS, eqFieldsV, ↓condV_t, ↓condV_f, tabs, reduceCtorEq, Array.toList, ↓reduceIte, Nat.reduceAdd, Nat.reduceLeDiff, Nat.reduceLT, Nat.reduceMul, Nat.reduceSub, Int.reduceToNat, Int.reduceSub, Int.reduceAdd, Int.reduceNeg, store_at k6])
    refine fin_le (fun y bb hy => ?_) this
    by_cases e : y = q2
    · subst e; rw [Heap.set_same] at hy; rw [Heap.set_other (Ne.symm e62), Heap.set_same]; exact hy
    · rw [Heap.set_other e] at hy
      have hy4 : y ≠ r6 := fun e => by rw [e, h6] at hy; cases hy
      rw [Heap.set_other hy4, Heap.set_other e]; exact lGH _ _ hy
end Go.Proofs.YtdnfiacjoghfkaaGreat
/- Abstractions of one's own as answers: called with what is live, compared, marked, held; the laws on MeetOf and IsFiner. -/
namespace Go.Sep
open Go Go.RowKit Go.Proofs.YtdnfiacjoghfkaaGreat
set_option linter.unusedVariables false

/-- Answers that may be moved on: what they are, in a heap, with the blocks they own. -/
structure ResU (R : AV → Heap → List Nat → Prop) : Prop where
  loc : ∀ {r G G' D}, R r G D → (∀ y ∈ D, ∀ b, G y = some b → G' y = some b) → R r G' D
  gd : ∀ {r G D}, R r G D → Gd2 r ∧ ∀ y ∈ D, ∀ bs, G y = some bs → ∀ c ∈ bs, GdC c
  sh : ∀ {r G D n G0}, (∀ q, n ≤ q → G0 q = none) → R r G D → R (sh2 n r) (Heap.or G0 (shH n G)) (D.map (· + n))
/-- A function whose answer is of its own, called with what is live. -/
theorem thawU {R : AV → Heap → List Nat → Prop} (hR : ResU R) {P : Program} {f : Nat} {args args' : List AV} {G G1 : Heap} {K : AV → Heap → Prop}
    (hf : ∀ {K : AV → Heap → Prop}, (∀ r G D, R r G D → New (fun _ => none) G D → K r G) → CallT P f args' (fun _ => none) K)
    (hw : Wk (.tup args) G (.tup args') G1) (h : ∀ r G' D, R r G' D → New G G' D → K r G') : CallT P f args G K := by
  refine CallT.thawX (Q' := fun r H' => ∃ D, R r H' D ∧ D.Nodup ∧ ∀ y, y ∉ D → H' y = none) ?_ ?_ hw ?_
  · refine CallT.fin (hf fun r G D hl hn => ⟨_, only D G, .forget (only_le D G), D, hR.loc hl fun y hy b hb => by rw [only_in hy]; exact hb, hn.nd, fun y hy => only_out hy⟩)
  · rintro r H' ⟨D, hl, _, hout⟩
    refine ⟨(hR.gd hl).1, fun q cs hq => ?_⟩
    by_cases hD : q ∈ D
    · exact (hR.gd hl).2 q hD cs hq
    · rw [hout q hD] at hq; cases hq
  · rintro r H' n ⟨D, hl, hnd, hout⟩ hn
    refine h _ _ (D.map (· + n)) (hR.sh hn hl) ⟨?_, fun y hy => ?_, fun y b hb => by simp only [Heap.or, hb]⟩
    · exact List.pairwise_map.2 (hnd.imp fun h e => h (Nat.add_right_cancel e))
    · obtain ⟨z, _, rfl⟩ := List.mem_map.1 hy
      exact hn _ (by omega)
end Go.Sep
namespace Go.Proofs.YtdnfiacjoghfkaaGreat
open Go Go.Sep Go.Pt
set_option linter.unusedSimpArgs false
set_option linter.unusedVariables false
attribute [local irreducible] CallT

theorem RS.local {of : List Int} {v : AV} {G G' : Heap} {D : List Nat} (h : RS of v G D) (hf : ∀ y ∈ D, ∀ b, G y = some b → G' y = some b) : RS of v G' D := by
  rcases h with h | ⟨q, rfl, hq, rfl⟩
  · exact .inl h
  · exact .inr ⟨q, rfl, hf q (by simp) _ hq, rfl⟩
theorem RS.has {of : List Int} {v : AV} {G : Heap} {D : List Nat} (h : RS of v G D) : ∀ y ∈ D, G y ≠ none := by
  rcases h with ⟨_, _, rfl⟩ | ⟨q, rfl, hq, rfl⟩
  · intro y hy; cases hy
  · intro y hy; rw [List.mem_singleton.1 hy, hq]; simp
def tRS (of : List Int) (v : AV) (D : List Nat) : Th := ⟨D, fun G => RS of v G D, fun h f => h.local f, fun h => h.has⟩
def tP (p : Pg) (v : AV) (D : List Nat) : Th := ⟨D, fun G => LPg p v G D, fun h f => LPg.local h f, fun h => LPg.has h⟩
theorem LSt.rs {of : List Int} {v : AV} {G : Heap} {D : List Nat} (h : LSt of v G D) : ∃ q, v = .agg [rowP q of] ∧ G q = some (cP fI of) ∧ D = [q] := by
  obtain ⟨x, rfl, hx⟩ := h
  obtain ⟨q, rfl, hq, rfl⟩ := LI_row hx
  exact ⟨q, rfl, by rw [hq, ← cells_P], rfl⟩
/-- Answers (Sight, bool). -/
def RSt (of : List Int) (ok : Bool) (r : AV) (G : Heap) (D : List Nat) : Prop := ∃ v, r = .tup [v, B ok] ∧ RS of v G D
theorem RSt.res (of : List Int) (ok : Bool) : ResU (RSt of ok) := by
  refine ⟨?_, ?_, ?_⟩
  · rintro r G G' D ⟨v, rfl, h⟩ hf
    exact ⟨v, rfl, h.local hf⟩
  · rintro r G D ⟨v, rfl, h⟩
    have gb : Gd1 (B ok) := .inr ⟨.p (.bool ok), fun _ => rfl⟩
    have gv : Gd1 v ∧ ∀ y ∈ D, ∀ bs, G y = some bs → ∀ c ∈ bs, GdC c := by
      rcases h with ⟨_, rfl, rfl⟩ | ⟨q, rfl, hq, rfl⟩
      · exact ⟨.inl ⟨_, rfl, fun c hc => by rw [List.mem_singleton] at hc; subst hc; exact .p .nil⟩, fun y hy => by cases hy⟩
      · refine ⟨.inl ⟨_, rfl, fun c hc => by rw [List.mem_singleton] at hc; subst hc; exact .inl ⟨_, _, _, _, rfl⟩⟩, fun y hy bs hb c hc => ?_⟩
        rw [List.mem_singleton.1 hy, hq] at hb; cases hb
        obtain ⟨x, _, rfl⟩ := List.mem_map.1 hc
        exact .p (.int _ _)
    refine ⟨.inl ⟨_, rfl, fun u hu => ?_⟩, gv.2⟩
    rcases List.mem_cons.1 hu with rfl | hu
    · exact gv.1
    · rw [List.mem_singleton] at hu; rw [hu]; exact gb
  · rintro r G D n G0 h0 ⟨v, rfl, h⟩
    rcases h with ⟨rfl, rfl, rfl⟩ | ⟨q, rfl, hq, rfl⟩
    · exact ⟨_, rfl, .inl ⟨rfl, rfl, rfl⟩⟩
    · refine ⟨_, rfl, .inr ⟨q + n, rfl, ?_, rfl⟩⟩
      have e : (cP fI of).map (shC n) = cP fI of := by
        simp only [cP, List.map_map]; rfl
      simp only [Heap.or, h0 (q + n) (by omega), shH, Nat.le_add_left, if_true, Nat.add_sub_cancel, hq, Option.map_some, e]
theorem RS.eq {of : List Int} {v : AV} {G : Heap} {D : List Nat} (h : RS of v G D) (hl : of.length ≤ 1048576) {K : AV → Heap → Prop} (k : K (B true) G) : CallT Tryz.prog 11 [v, aS of] G K := by
  rcases h with ⟨rfl, rfl, rfl⟩ | ⟨q, rfl, hq, rfl⟩
  · exact CallT.args (args' := [aS [], aS []]) ((eqSight_spec [] (by simp)).use k) ⟨wk_agg ⟨.nil, trivial⟩, .refl _, trivial⟩
  · exact Pu.thaw (eqSight_spec of hl) (.bool _) (Wk.frz (r := q) (sz := 1) (es := of.map fun n => [fI n]) (v' := .tup [aS of, aS of]) (by omega) (by rw [flat_P]; exact hq) (szP _ _) (.tup (.cons (.agg (.cons frz_row .nil)) (.cons (.same _) .nil)))) k
theorem markI0 {G : Heap} {k : Int} {K : AV → Heap → Prop} (h : K (I k) G) : CallT Tryz.prog 40 [.p .nil, I k] G K := by
  refine CallT.args (args' := [Is [], I k]) ?_ ⟨.nil, .refl _, trivial⟩
  refine W40_ok ?_; simp (maxSteps := 1000000) (disch := first | assumption | (apply Ne.symm; assumption)) only [W40, vz, vu, vv, eqS, eqFieldsV, ↓condV_t, ↓condV_f, tabs, reduceCtorEq, Array.toList, ↓reduceIte, Nat.reduceAdd, Nat.reduceLeDiff, Nat.reduceLT, Nat.reduceMul, Nat.reduceSub, Int.reduceToNat, Int.reduceSub, Int.reduceAdd, Int.reduceNeg]
  refine L40_0_rule () (fun _ => I k) (fun _ => I 0) (fun _ => G) (fun _ => True) (fun _ => 0) ⟨trivial, .refl _, .refl _, Heap.le_refl _⟩ ?_
  rintro ⟨⟩ _
  (try simp (maxSteps := 1000000) (disch := first | assumption | (apply Ne.symm; assumption)) only [vz, vu, vv, eqS, eqFieldsV, ↓condV_t, ↓condV_f, tabs, reduceCtorEq, Array.toList, ↓reduceIte, Nat.reduceAdd, Nat.reduceLeDiff, Nat.reduceLT, Nat.reduceMul, Nat.reduceSub, Int.reduceToNat, Int.reduceSub, Int.reduceAdd, Int.reduceNeg, B40_0])
  first | exact h | simpa using h
theorem RS.mark {of : List Int} {v : AV} {G : Heap} {D : List Nat} (hx : RS of v G D) (hl : of.length ≤ 1048576) {k : Int} (h0 : 0 ≤ k) (hk : k ≤ 900000000) {K : AV → Heap → Prop}
    (h : ∀ G', RS (marked k of.length) v G' D → (∀ y, y ∉ D → G' y = G y) → K (I (k + of.length)) G') : CallT Tryz.prog 16 [v, I k] G K := by
  refine CallT.fin ?_
  rcases hx with ⟨rfl, rfl, rfl⟩ | ⟨q, rfl, hq, rfl⟩
  · refine W16_ok ?_; simp (maxSteps := 1000000) (disch := first | assumption | (apply Ne.symm; assumption)) only [W16, vz, vu, vv, eqS, eqFieldsV, ↓condV_t, ↓condV_f, tabs, reduceCtorEq, Array.toList, ↓reduceIte, Nat.reduceAdd, Nat.reduceLeDiff, Nat.reduceLT, Nat.reduceMul, Nat.reduceSub, Int.reduceToNat, Int.reduceSub, Int.reduceAdd, Int.reduceNeg]
    intro r hr
    refine markI0 ?_
    (try simp (maxSteps := 1000000) (disch := first | assumption | (apply Ne.symm; assumption)) only [vz, vu, vv, eqS, eqFieldsV, ↓condV_t, ↓condV_f, tabs, reduceCtorEq, Array.toList, ↓reduceIte, Nat.reduceAdd, Nat.reduceLeDiff, Nat.reduceLT, Nat.reduceMul, Nat.reduceSub, Int.reduceToNat, Int.reduceSub, Int.reduceAdd, Int.reduceNeg])
    have := h G (.inl ⟨rfl, rfl, rfl⟩) (fun _ _ => rfl)
    rw [List.length_nil, Int.ofNat_zero, Int.add_zero] at this
    exact fin_le (Heap.le_set hr) this
  · refine W16_ok ?_; simp (maxSteps := 1000000) (disch := first | assumption | (apply Ne.symm; assumption)) only [W16, vz, vu, vv, eqS, eqFieldsV, ↓condV_t, ↓condV_f, tabs, reduceCtorEq, Array.toList, ↓reduceIte, Nat.reduceAdd, Nat.reduceLeDiff, Nat.reduceLT, Nat.reduceMul, Nat.reduceSub, Int.reduceToNat, Int.reduceSub, Int.reduceAdd, Int.reduceNeg]
    intro r hr
    have hne : q ≠ r := fun e => by rw [e, hr] at hq; cases hq
    refine markIntS_live of hl h0 (by omega) (by rw [Heap.set_other hne, hq, ← cells_P]) ?_
    (try simp (maxSteps := 1000000) (disch := first | assumption | (apply Ne.symm; assumption)) only [vz, vu, vv, eqS, eqFieldsV, ↓condV_t, ↓condV_f, tabs, reduceCtorEq, Array.toList, ↓reduceIte, Nat.reduceAdd, Nat.reduceLeDiff, Nat.reduceLT, Nat.reduceMul, Nat.reduceSub, Int.reduceToNat, Int.reduceSub, Int.reduceAdd, Int.reduceNeg])
    have hml := marked_len k of.length
    refine fin_le (H := G.set q (cells ((marked k of.length).map eI))) ?_ (h _ (.inr ⟨q, by rw [rowP, rowP, hml], by rw [Heap.set_same, ← cells_P], rfl⟩) fun z hz => ?_)
    · generalize cells ((marked k of.length).map eI) = z
      (intro y b hy; simp only [Heap.set, Heap.del] at hy ⊢; (repeat' split at hy) <;> (repeat' split) <;> simp_all [cells])
    · rw [List.mem_singleton] at hz; exact Heap.set_other hz
theorem heldSight_spec (n : Nat) (hl : n ≤ 1048576) : Pu Tryz.prog 17 [aS (marked 1 n), I 1] (I (1 + n)) := by
  refine Pu.of fun H => ?_
  refine W17_ok ?_; simp (maxSteps := 1000000) (disch := first | assumption | (apply Ne.symm; assumption)) only [W17, vz, vu, vv, eqS, eqFieldsV, ↓condV_t, ↓condV_f, tabs, reduceCtorEq, Array.toList, ↓reduceIte, Nat.reduceAdd, Nat.reduceLeDiff, Nat.reduceLT, Nat.reduceMul, Nat.reduceSub, Int.reduceToNat, Int.reduceSub, Int.reduceAdd, Int.reduceNeg]
  intro r hr
  refine Pu.use (heldIntS_spec n hl (by omega) (by omega)) ?_
  (try simp (maxSteps := 1000000) (disch := first | assumption | (apply Ne.symm; assumption)) only [vz, vu, vv, eqS, eqFieldsV, ↓condV_t, ↓condV_f, tabs, reduceCtorEq, Array.toList, ↓reduceIte, Nat.reduceAdd, Nat.reduceLeDiff, Nat.reduceLT, Nat.reduceMul, Nat.reduceSub, Int.reduceToNat, Int.reduceSub, Int.reduceAdd, Int.reduceNeg])
  first | exact ⟨fun h => by omega, fun _ => Heap.le_set hr⟩ | exact Heap.le_set hr
theorem RS.held {n : Nat} {v : AV} {G : Heap} {D : List Nat} (h : RS (marked 1 n) v G D) (hl : n ≤ 1048576) {K : AV → Heap → Prop} (k : K (I (1 + n)) G) : CallT Tryz.prog 17 [v, I 1] G K := by
  rcases h with ⟨h0, rfl, rfl⟩ | ⟨q, rfl, hq, rfl⟩
  · have : n = 0 := by
      have := congrArg List.length h0
      simpa [marked_len] using this
    subst this
    exact CallT.args (args' := [aS [], I 1]) ((heldSight_spec 0 hl).use k) ⟨wk_agg ⟨.nil, trivial⟩, .refl _, trivial⟩
  · exact Pu.thaw (heldSight_spec n hl) (.int _ _) (Wk.frz (r := q) (sz := 1) (es := (marked 1 n).map fun n => [fI n]) (v' := .tup [aS (marked 1 n), I 1]) (by omega) (by rw [flat_P]; exact hq) (szP _ _) (.tup (.cons (.agg (.cons frz_row .nil)) (.cons (.same _) .nil)))) k

theorem LPg.eqP {p : Pg} {v : AV} {G : Heap} {D : List Nat} (g : LPg p v G D) (hD : D.Nodup) (hp : smPg p) {K : AV → Heap → Prop} (h : K (B true) G) : CallT Tryz.prog 12 [v, aPg p] G K := by
  obtain ⟨G1, w1, f1⟩ := g.wk hD (fun v => .tup [v, aPg p]) (fun h => .tup (.cons h (.cons (.same _) .nil)))
  exact Pu.thaw (eqProgram_spec p hp) (.bool _) w1 h
theorem LPg.sl {p : Pg} {v : AV} {G : Heap} {D : List Nat} (h : LPg p v G D) : ∃ q1 q2, v = .agg [I p.wide, I p.vars, .sl q1 2 0 p.start.length, .sl q2 2 0 p.cmds.length] := by
  obtain ⟨x, y, E1, E2, rfl, rfl, hx, hy⟩ := h
  obtain ⟨qx, rfl⟩ := LRow.sl hx
  obtain ⟨qy, rfl⟩ := LRow.sl hy
  exact ⟨qx, qy, rfl⟩

theorem RS.ag {of : List Int} {v : AV} {G : Heap} {D : List Nat} (h : RS of v G D) : ∃ x, v = .agg [x] ∧ x.isCell = true := by
  rcases h with ⟨_, rfl, _⟩ | ⟨q, rfl, _, _⟩
  · exact ⟨_, rfl, rfl⟩
  · exact ⟨_, rfl, rfl⟩
theorem _root_.Go.Sep.St.lose {H G G' : Heap} {Ts : List Th} {t : Th} (s : St H Ts G) (i : Nat) (h : Ts[i]? = some t) (hf : ∀ y, y ∉ t.D → G' y = G y) : St H (Ts.eraseIdx i) G' := by
  have s1 := s.pick i h
  have hnd := s1.nd
  rw [List.flatMap_cons, List.nodup_append] at hnd
  refine ⟨fun y b hb => ?_, hnd.2.1, fun u hu => s1.fr u (List.mem_cons_of_mem _ hu), fun u hu => u.loc (s1.ok u (List.mem_cons_of_mem _ hu)) fun y hy b hb => ?_⟩
  · rw [hf y (s1.wkNone y b hb t (List.mem_cons_self ..))]; exact s1.le y b hb
  · rw [hf y (fun hm => hnd.2.2 y hm y (List.mem_flatMap.2 ⟨u, hu, hy⟩) rfl)]; exact hb
end Go.Proofs.YtdnfiacjoghfkaaGreat
/- The law on SplitBy. -/
namespace Go.Proofs.YtdnfiacjoghfkaaGreat
open Go Go.Sep Go.Pt
set_option linter.unusedSimpArgs false
set_option linter.unusedVariables false
attribute [local irreducible] CallT

theorem LN.wk {xs : List Nd} {x : AV} {G : Heap} {D : List Nat} (h : LN xs x G D) (hD : D.Nodup) (C : AV → AV) (hC : ∀ {r sz es a a'}, FrzR r sz es a a' → FrzR r sz es (C a) (C a')) : ∃ G', Wk (C x) G (C (Ns xs)) G' ∧ ∀ y, y ∉ D → G' y = G y :=
  LRow.frzV (e := eN) (sz := 2) (v := C x) (v' := C (Ns xs)) (by omega) (fun _ => rfl) (LPl.local eN) (LPl.frz eN) h hD (fun r _ hr => hC hr)
theorem LN.eq {xs : List Nd} {x : AV} {G : Heap} {D : List Nat} (h : LN xs x G D) (hD : D.Nodup) (hs : xs.length ≤ 1048576) {K : AV → Heap → Prop} (k : K (B true) G) : CallT Tryz.prog 24 [x, Ns xs] G K := by
  obtain ⟨G1, w1, _⟩ := LN.wk h hD (fun v => .tup [v, Ns xs]) (fun h => .tup (.cons h (.cons (.same _) .nil)))
  exact Pu.thaw (eqNodeS_spec xs hs) (.bool _) w1 k
def tN (xs : List Nd) (v : AV) (D : List Nat) : Th := ⟨D, fun G => LN xs v G D, fun h f => LRow.local (LPl.local eN) h f, fun h => LRow.has (LPl.has eN) h⟩
theorem wkPSN {p : Pg} {a : List Int} {t : List Nd} {v x : AV} {D E : List Nat} {q1 : Nat} {G : Heap} (h1 : LPg p v G D) (hD : D.Nodup) (hq1 : G q1 = some (cP fI a)) (h2 : LN t x G E) (hE : E.Nodup) (d1 : q1 ∉ D) (d2 : q1 ∉ E) (dj : ∀ y ∈ E, y ∉ D) :
    ∃ G', Wk (.tup [v, .agg [rowP q1 a], x]) G (.tup [aPg p, aS a, Ns t]) G' := by
  obtain ⟨G1, w1, f1⟩ := h1.wk hD (fun v => .tup [v, .agg [rowP q1 a], x]) (fun h => .tup (.cons h (.cons (.same _) (.cons (.same _) .nil))))
  have h2' := LRow.local (LPl.local eN) h2 (G' := G1) fun u hu b hb => by rw [f1 u (dj u hu)]; exact hb
  obtain ⟨G2, w2, f2⟩ := LN.wk h2' hE (fun v => .tup [aPg p, .agg [rowP q1 a], v]) (fun h => .tup (.cons (.same _) (.cons (.same _) (.cons h .nil))))
  have w3 := Wk.frz (v := .tup [aPg p, .agg [rowP q1 a], Ns t]) (v' := .tup [aPg p, aS a, Ns t]) (H := G2) (r := q1) (sz := 1) (es := a.map fun n => [fI n]) (by omega) (by rw [flat_P, f2 q1 d2, f1 q1 d1]; exact hq1) (szP _ _) (.tup (.cons (.same _) (.cons (.agg (.cons frz_row .nil)) (.cons (.same _) .nil))))
  exact ⟨_, .trans w1 (.trans w2 w3)⟩
theorem spR_len (p : Pg) (of : List Int) (t : List Nd) : (spR p of t).length ≤ 32 := by
  unfold spR
  split
  · rename_i h
    simp only [spOk, Bool.and_eq_true] at h
    rw [cutL_len]; exact (goodSt_len h.1).2
  · simp
set_option maxRecDepth 20000 in
set_option maxHeartbeats 1000000 in
theorem FnExactSplitBy_true {p : Pg} {a : List Int} {t : List Nd} (hok : okPg p) (hn : nPg p) (ha : ok a.length) (hb : ok t.length) (hnt : nT t) : Pu Tryz.prog 4 [aPg p, aS a, Ns t] (B true) := by
  refine Pu.of fun H => ?_
  refine W4_ok ?_; simp (maxSteps := 1000000) (disch := first | assumption | (apply Ne.symm; assumption)) only [W4, vz, vu, vv, eqS, eqFieldsV, ↓condV_t, ↓condV_f, tabs, reduceCtorEq, Array.toList, ↓reduceIte, Nat.reduceAdd, Nat.reduceLeDiff, Nat.reduceLT, Nat.reduceMul, Nat.reduceSub, Int.reduceToNat, Int.reduceSub, Int.reduceAdd, Int.reduceNeg]
  intro r hr r1 n1 h1
  have st := ((St.nil H).cell hr (gPg p)).cell (r := r1) (by rw [Heap.set_other n1]; exact h1) [Is a]
  generalize (H.set r [I p.wide, I p.vars, Ns p.start, Cms p.cmds]).set r1 [Is a] = G0 at st ⊢
  (try simp (maxSteps := 1000000) (disch := first | assumption | (apply Ne.symm; assumption)) only [vz, vu, vv, eqS, eqFieldsV, ↓condV_t, ↓condV_f, tabs, reduceCtorEq, Array.toList, ↓reduceIte, Nat.reduceAdd, Nat.reduceLeDiff, Nat.reduceLT, Nat.reduceMul, Nat.reduceSub, Int.reduceToNat, Int.reduceSub, Int.reduceAdd, Int.reduceNeg, load_at (st.get 0 rfl), load_at (st.get 1 rfl)])
  refine Pu.use (szProgram_spec p 1048576 (by omega) (by omega) hok) ?_
  (try simp (maxSteps := 1000000) (disch := first | assumption | (apply Ne.symm; assumption)) only [vz, vu, vv, eqS, eqFieldsV, ↓condV_t, ↓condV_f, tabs, reduceCtorEq, Array.toList, ↓reduceIte, Nat.reduceAdd, Nat.reduceLeDiff, Nat.reduceLT, Nat.reduceMul, Nat.reduceSub, Int.reduceToNat, Int.reduceSub, Int.reduceAdd, Int.reduceNeg, load_at (st.get 0 rfl), load_at (st.get 1 rfl)])
  refine ⟨fun _ => st.le, fun h1 => ?_⟩
  obtain ⟨t1, e1⟩ := szR_nonneg h1
  rw [e1]
  have hsm := sm_of_tot (by omega : (totPg p : Int) ≤ 1048576)
  have hv := v_of hsm hn
  refine Pu.use (szSight_spec a _ (by omega) (by omega) ha) ?_
  (try simp (maxSteps := 1000000) (disch := first | assumption | (apply Ne.symm; assumption)) only [vz, vu, vv, eqS, eqFieldsV, ↓condV_t, ↓condV_f, tabs, reduceCtorEq, Array.toList, ↓reduceIte, Nat.reduceAdd, Nat.reduceLeDiff, Nat.reduceLT, Nat.reduceMul, Nat.reduceSub, Int.reduceToNat, Int.reduceSub, Int.reduceAdd, Int.reduceNeg, load_at (st.get 0 rfl), load_at (st.get 1 rfl)])
  refine ⟨fun _ => st.le, fun h2 => ?_⟩
  obtain ⟨t2, e2⟩ := szR_nonneg h2
  rw [e2]
  refine Pu.use (szNodeS_spec t _ (by omega) (by omega) hb) ?_
  (try simp (maxSteps := 1000000) (disch := first | assumption | (apply Ne.symm; assumption)) only [vz, vu, vv, eqS, eqFieldsV, ↓condV_t, ↓condV_f, tabs, reduceCtorEq, Array.toList, ↓reduceIte, Nat.reduceAdd, Nat.reduceLeDiff, Nat.reduceLT, Nat.reduceMul, Nat.reduceSub, Int.reduceToNat, Int.reduceSub, Int.reduceAdd, Int.reduceNeg, load_at (st.get 0 rfl), load_at (st.get 1 rfl)])
  refine ⟨fun _ => st.le, fun h3 => ?_⟩
  obtain ⟨t3, _⟩ := szR_nonneg h3
  have hal : a.length ≤ 1048576 := by omega
  have hbl : t.length ≤ 1048576 := by omega
  have hvt : vT t := ⟨hbl, hnt⟩
  refine Pu.use (toProgram_spec p hsm) ?_
  (try simp (maxSteps := 1000000) (disch := first | assumption | (apply Ne.symm; assumption)) only [vz, vu, vv, eqS, eqFieldsV, ↓condV_t, ↓condV_f, tabs, reduceCtorEq, Array.toList, ↓reduceIte, Nat.reduceAdd, Nat.reduceLeDiff, Nat.reduceLT, Nat.reduceMul, Nat.reduceSub, Int.reduceToNat, Int.reduceSub, Int.reduceAdd, Int.reduceNeg, load_at (st.get 0 rfl), load_at (st.get 1 rfl)])
  refine Pu.use (toSight_spec a hal) ?_
  refine Pu.use (toNodeS_spec t hbl) ?_
  refine Pu.use (SplitBy_ref p a t hv hal hvt) ?_
  have hres := spR_len p a t
  have hI : ∀ {H : Heap} {K : AV → Heap → Prop}, (∀ v G D, RS (spR p a t) v G D → New H G D → K (.tup [v, B (spOk p a t)]) G) → CallT Tryz.prog 23 [aPg p, aS a, Ns t] H K := SplitBy_impl p a t hv hal hvt
  generalize spR p a t = o at hres hI
  generalize spOk p a t = ok at hI
  (try simp (maxSteps := 1000000) (disch := first | assumption | (apply Ne.symm; assumption)) only [vz, vu, vv, eqS, eqFieldsV, ↓condV_t, ↓condV_f, tabs, reduceCtorEq, Array.toList, ↓reduceIte, Nat.reduceAdd, Nat.reduceLeDiff, Nat.reduceLT, Nat.reduceMul, Nat.reduceSub, Int.reduceToNat, Int.reduceSub, Int.reduceAdd, Int.reduceNeg])
  intro w hw
  replace st := st.cell hw [Is o]
  (try simp (maxSteps := 1000000) (disch := first | assumption | (apply Ne.symm; assumption)) only [vz, vu, vv, eqS, eqFieldsV, ↓condV_t, ↓condV_f, tabs, reduceCtorEq, Array.toList, ↓reduceIte, Nat.reduceAdd, Nat.reduceLeDiff, Nat.reduceLT, Nat.reduceMul, Nat.reduceSub, Int.reduceToNat, Int.reduceSub, Int.reduceAdd, Int.reduceNeg, load_at (st.get 1 rfl), load_at (st.get 2 rfl)])
  generalize G0.set w [Is o] = G01 at st ⊢
  refine toProgram_live p hsm fun v G1 D1 hP hn1 => ?_
  replace st := st.push (tP p v D1) hn1 hP
  obtain ⟨qx, qy, rfl⟩ := hP.sl
  clear hP hn1
  (try simp (maxSteps := 1000000) (disch := first | assumption | (apply Ne.symm; assumption)) only [vz, vu, vv, eqS, eqFieldsV, ↓condV_t, ↓condV_f, tabs, reduceCtorEq, Array.toList, ↓reduceIte, Nat.reduceAdd, Nat.reduceLeDiff, Nat.reduceLT, Nat.reduceMul, Nat.reduceSub, Int.reduceToNat, Int.reduceSub, Int.reduceAdd, Int.reduceNeg])
  intro z hz
  replace st := st.cell hz [I p.wide, I p.vars, .sl qx 2 0 p.start.length, .sl qy 2 0 p.cmds.length]
  (try simp (maxSteps := 1000000) (disch := first | assumption | (apply Ne.symm; assumption)) only [vz, vu, vv, eqS, eqFieldsV, ↓condV_t, ↓condV_f, tabs, reduceCtorEq, Array.toList, ↓reduceIte, Nat.reduceAdd, Nat.reduceLeDiff, Nat.reduceLT, Nat.reduceMul, Nat.reduceSub, Int.reduceToNat, Int.reduceSub, Int.reduceAdd, Int.reduceNeg, load_at (st.get 3 rfl)])
  generalize G1.set z [I p.wide, I p.vars, .sl qx 2 0 p.start.length, .sl qy 2 0 p.cmds.length] = G2 at st ⊢
  refine toSight_live a hal fun v1 G3 D3 hS hn3 => ?_
  obtain ⟨q1, rfl, hq1, rfl⟩ := hS.rs
  replace st := st.push (cellT q1 (cP fI a)) hn3 hq1
  clear hS hn3 hq1
  (try simp (maxSteps := 1000000) (disch := first | assumption | (apply Ne.symm; assumption)) only [vz, vu, vv, eqS, eqFieldsV, ↓condV_t, ↓condV_f, tabs, reduceCtorEq, Array.toList, ↓reduceIte, Nat.reduceAdd, Nat.reduceLeDiff, Nat.reduceLT, Nat.reduceMul, Nat.reduceSub, Int.reduceToNat, Int.reduceSub, Int.reduceAdd, Int.reduceNeg])
  intro z1 hz1
  replace st := st.cell hz1 [rowP q1 a]
  (try simp (maxSteps := 1000000) (disch := first | assumption | (apply Ne.symm; assumption)) only [vz, vu, vv, eqS, eqFieldsV, ↓condV_t, ↓condV_f, tabs, reduceCtorEq, Array.toList, ↓reduceIte, Nat.reduceAdd, Nat.reduceLeDiff, Nat.reduceLT, Nat.reduceMul, Nat.reduceSub, Int.reduceToNat, Int.reduceSub, Int.reduceAdd, Int.reduceNeg, load_at (st.get 0 rfl), load_at (st.get 2 rfl)])
  generalize G3.set z1 [rowP q1 a] = G4 at st ⊢
  refine toNodeS_live t hbl fun x G5 D5 hS hn5 => ?_
  replace st := st.push (tN t x D5) hn5 hS
  clear hS hn5
  (try simp (maxSteps := 1000000) (disch := first | assumption | (apply Ne.symm; assumption)) only [vz, vu, vv, eqS, eqFieldsV, ↓condV_t, ↓condV_f, tabs, reduceCtorEq, Array.toList, ↓reduceIte, Nat.reduceAdd, Nat.reduceLeDiff, Nat.reduceLT, Nat.reduceMul, Nat.reduceSub, Int.reduceToNat, Int.reduceSub, Int.reduceAdd, Int.reduceNeg, load_at (st.get 3 rfl), load_at (st.get 1 rfl)])
  have d1 : q1 ∉ D1 := fun hm => st.disjI 2 4 rfl rfl (by omega) q1 (List.mem_singleton.2 rfl) hm
  have d2 : q1 ∉ D5 := fun hm => st.disjI 2 0 rfl rfl (by omega) q1 (List.mem_singleton.2 rfl) hm
  obtain ⟨Gw, hw⟩ := wkPSN (st.get 4 rfl) (st.ndT 4 rfl) (st.get 2 rfl) (st.get 0 rfl) (st.ndT 0 rfl) d1 d2 (st.disjI 0 4 rfl rfl (by omega))
  clear d1 d2
  refine thawU (RSt.res o ok) (fun hK => hI fun v G D h1 h2 => hK _ _ _ ⟨v, rfl, h1⟩ h2) hw fun rr G7 D7 hr7 hn7 => ?_
  obtain ⟨vr, rfl, hrs⟩ := hr7
  obtain ⟨xr, rfl, hxr⟩ := hrs.ag
  replace st := st.push (tRS o (.agg [xr]) D7) hn7 hrs
  clear hrs hn7 hw
  (try simp (maxSteps := 1000000) (disch := first | assumption | (apply Ne.symm; assumption)) only [vz, vu, vv, eqS, eqFieldsV, ↓condV_t, ↓condV_f, tabs, reduceCtorEq, Array.toList, ↓reduceIte, Nat.reduceAdd, Nat.reduceLeDiff, Nat.reduceLT, Nat.reduceMul, Nat.reduceSub, Int.reduceToNat, Int.reduceSub, Int.reduceAdd, Int.reduceNeg])
  intro u hu
  replace st := st.cell hu [xr]
  (try simp (maxSteps := 1000000) (disch := first | assumption | (apply Ne.symm; assumption)) only [vz, vu, vv, eqS, eqFieldsV, ↓condV_t, ↓condV_f, tabs, reduceCtorEq, Array.toList, ↓reduceIte, Nat.reduceAdd, Nat.reduceLeDiff, Nat.reduceLT, Nat.reduceMul, Nat.reduceSub, Int.reduceToNat, Int.reduceSub, Int.reduceAdd, Int.reduceNeg, load_at (st.get 7 rfl)])
  generalize G7.set u [xr] = G8 at st ⊢
  refine ⟨hxr, ?_⟩
  refine RS.eq (st.get 1 rfl) (by omega) ?_
  (try simp (maxSteps := 1000000) (disch := first | assumption | (apply Ne.symm; assumption)) only [vz, vu, vv, eqS, eqFieldsV, ↓condV_t, ↓condV_f, tabs, reduceCtorEq, Array.toList, ↓reduceIte, Nat.reduceAdd, Nat.reduceLeDiff, Nat.reduceLT, Nat.reduceMul, Nat.reduceSub, Int.reduceToNat, Int.reduceSub, Int.reduceAdd, Int.reduceNeg, load_at (st.get 5 rfl), load_at (st.get 9 rfl)])
  refine Pu.use (toProgram_spec p hsm) ?_
  (try simp (maxSteps := 1000000) (disch := first | assumption | (apply Ne.symm; assumption)) only [vz, vu, vv, eqS, eqFieldsV, ↓condV_t, ↓condV_f, tabs, reduceCtorEq, Array.toList, ↓reduceIte, Nat.reduceAdd, Nat.reduceLeDiff, Nat.reduceLT, Nat.reduceMul, Nat.reduceSub, Int.reduceToNat, Int.reduceSub, Int.reduceAdd, Int.reduceNeg, load_at (st.get 5 rfl)])
  refine (st.get 6 rfl : LPg _ _ _ _).eqP (st.ndT 6 rfl) hsm ?_
  (try simp (maxSteps := 1000000) (disch := first | assumption | (apply Ne.symm; assumption)) only [vz, vu, vv, eqS, eqFieldsV, ↓condV_t, ↓condV_f, tabs, reduceCtorEq, Array.toList, ↓reduceIte, Nat.reduceAdd, Nat.reduceLeDiff, Nat.reduceLT, Nat.reduceMul, Nat.reduceSub, Int.reduceToNat, Int.reduceSub, Int.reduceAdd, Int.reduceNeg, load_at (st.get 3 rfl), load_at (st.get 8 rfl)])
  refine Pu.use (toSight_spec a hal) ?_
  (try simp (maxSteps := 1000000) (disch := first | assumption | (apply Ne.symm; assumption)) only [vz, vu, vv, eqS, eqFieldsV, ↓condV_t, ↓condV_f, tabs, reduceCtorEq, Array.toList, ↓reduceIte, Nat.reduceAdd, Nat.reduceLeDiff, Nat.reduceLT, Nat.reduceMul, Nat.reduceSub, Int.reduceToNat, Int.reduceSub, Int.reduceAdd, Int.reduceNeg, load_at (st.get 3 rfl)])
  refine RS.eq (.inr ⟨q1, rfl, st.get 4 rfl, rfl⟩) hal ?_
  (try simp (maxSteps := 1000000) (disch := first | assumption | (apply Ne.symm; assumption)) only [vz, vu, vv, eqS, eqFieldsV, ↓condV_t, ↓condV_f, tabs, reduceCtorEq, Array.toList, ↓reduceIte, Nat.reduceAdd, Nat.reduceLeDiff, Nat.reduceLT, Nat.reduceMul, Nat.reduceSub, Int.reduceToNat, Int.reduceSub, Int.reduceAdd, Int.reduceNeg])
  refine Pu.use (toNodeS_spec t hbl) ?_
  refine LN.eq (st.get 2 rfl) (st.ndT 2 rfl) hbl ?_
  (try simp (maxSteps := 1000000) (disch := first | assumption | (apply Ne.symm; assumption)) only [vz, vu, vv, eqS, eqFieldsV, ↓condV_t, ↓condV_f, tabs, reduceCtorEq, Array.toList, ↓reduceIte, Nat.reduceAdd, Nat.reduceLeDiff, Nat.reduceLT, Nat.reduceMul, Nat.reduceSub, Int.reduceToNat, Int.reduceSub, Int.reduceAdd, Int.reduceNeg, load_at (st.get 5 rfl)])
  refine markProgram_live p (by omega) (st.get 6 rfl) (st.ndT 6 rfl) (by omega) (by omega) fun k' G9 hfr hk1 hk2 => ?_
  replace st := st.lose 6 rfl hfr
  clear hfr
  simp only [List.eraseIdx_cons_succ, List.eraseIdx_cons_zero] at st
  (try simp (maxSteps := 1000000) (disch := first | assumption | (apply Ne.symm; assumption)) only [vz, vu, vv, eqS, eqFieldsV, ↓condV_t, ↓condV_f, tabs, reduceCtorEq, Array.toList, ↓reduceIte, Nat.reduceAdd, Nat.reduceLeDiff, Nat.reduceLT, Nat.reduceMul, Nat.reduceSub, Int.reduceToNat, Int.reduceSub, Int.reduceAdd, Int.reduceNeg, load_at (st.get 3 rfl)])
  refine RS.mark (of := a) (.inr ⟨q1, rfl, st.get 4 rfl, rfl⟩) hal (by omega) (by omega) fun G10 _ hfr => ?_
  replace st := st.lose 4 rfl hfr
  clear hfr
  simp only [List.eraseIdx_cons_succ, List.eraseIdx_cons_zero] at st
  (try simp (maxSteps := 1000000) (disch := first | assumption | (apply Ne.symm; assumption)) only [vz, vu, vv, eqS, eqFieldsV, ↓condV_t, ↓condV_f, tabs, reduceCtorEq, Array.toList, ↓reduceIte, Nat.reduceAdd, Nat.reduceLeDiff, Nat.reduceLT, Nat.reduceMul, Nat.reduceSub, Int.reduceToNat, Int.reduceSub, Int.reduceAdd, Int.reduceNeg])
  refine markNodeS_live t hbl (st.get 2 rfl) (st.ndT 2 rfl) (by omega) (by omega) fun k2 t' G11 _ _ hfr hk3 hk4 => ?_
  replace st := st.lose 2 rfl hfr
  clear hfr
  simp only [List.eraseIdx_cons_succ, List.eraseIdx_cons_zero] at st
  (try simp (maxSteps := 1000000) (disch := first | assumption | (apply Ne.symm; assumption)) only [vz, vu, vv, eqS, eqFieldsV, ↓condV_t, ↓condV_f, tabs, reduceCtorEq, Array.toList, ↓reduceIte, Nat.reduceAdd, Nat.reduceLeDiff, Nat.reduceLT, Nat.reduceMul, Nat.reduceSub, Int.reduceToNat, Int.reduceSub, Int.reduceAdd, Int.reduceNeg, load_at (st.get 0 rfl), load_at (st.get 4 rfl)])
  refine ⟨fun h => by omega, fun _ => ?_⟩
  refine RS.eq (st.get 1 rfl) (by omega) ?_
  (try simp (maxSteps := 1000000) (disch := first | assumption | (apply Ne.symm; assumption)) only [vz, vu, vv, eqS, eqFieldsV, ↓condV_t, ↓condV_f, tabs, reduceCtorEq, Array.toList, ↓reduceIte, Nat.reduceAdd, Nat.reduceLeDiff, Nat.reduceLT, Nat.reduceMul, Nat.reduceSub, Int.reduceToNat, Int.reduceSub, Int.reduceAdd, Int.reduceNeg, load_at (st.get 0 rfl)])
  refine RS.mark (st.get 1 rfl) (by omega) (by omega) (by omega) fun G12 hrs hfr => ?_
  replace st := st.upd 1 rfl (tRS (marked 1 o.length) (.agg [xr]) D7) rfl hfr hrs
  clear hfr hrs
  (try simp (maxSteps := 1000000) (disch := first | assumption | (apply Ne.symm; assumption)) only [vz, vu, vv, eqS, eqFieldsV, ↓condV_t, ↓condV_f, tabs, reduceCtorEq, Array.toList, ↓reduceIte, Nat.reduceAdd, Nat.reduceLeDiff, Nat.reduceLT, Nat.reduceMul, Nat.reduceSub, Int.reduceToNat, Int.reduceSub, Int.reduceAdd, Int.reduceNeg, load_at (st.get 0 rfl)])
  refine RS.held (st.get 1 rfl) (by omega) ?_
  (try simp (maxSteps := 1000000) (disch := first | assumption | (apply Ne.symm; assumption)) only [vz, vu, vv, eqS, eqFieldsV, ↓condV_t, ↓condV_f, tabs, reduceCtorEq, Array.toList, ↓reduceIte, Nat.reduceAdd, Nat.reduceLeDiff, Nat.reduceLT, Nat.reduceMul, Nat.reduceSub, Int.reduceToNat, Int.reduceSub, Int.reduceAdd, Int.reduceNeg, load_at (st.get 6 rfl), load_at (st.get 5 rfl)])
  refine ⟨fun h => by omega, fun _ => ?_⟩
  refine Pu.use (toProgram_spec p hsm) ?_
  (try simp (maxSteps := 1000000) (disch := first | assumption | (apply Ne.symm; assumption)) only [vz, vu, vv, eqS, eqFieldsV, ↓condV_t, ↓condV_f, tabs, reduceCtorEq, Array.toList, ↓reduceIte, Nat.reduceAdd, Nat.reduceLeDiff, Nat.reduceLT, Nat.reduceMul, Nat.reduceSub, Int.reduceToNat, Int.reduceSub, Int.reduceAdd, Int.reduceNeg, load_at (st.get 6 rfl), load_at (st.get 5 rfl)])
  refine Pu.use (toSight_spec a hal) ?_
  refine Pu.use (toNodeS_spec t hbl) ?_
  refine hI fun v G13 E hrs hn13 => ?_
  obtain ⟨xe, rfl, hxe⟩ := hrs.ag
  replace st := st.push (tRS o (.agg [xe]) E) hn13 hrs
  clear hrs hn13
  (try simp (maxSteps := 1000000) (disch := first | assumption | (apply Ne.symm; assumption)) only [vz, vu, vv, eqS, eqFieldsV, ↓condV_t, ↓condV_f, tabs, reduceCtorEq, Array.toList, ↓reduceIte, Nat.reduceAdd, Nat.reduceLeDiff, Nat.reduceLT, Nat.reduceMul, Nat.reduceSub, Int.reduceToNat, Int.reduceSub, Int.reduceAdd, Int.reduceNeg])
  intro u2 hu2
  replace st := st.cell hu2 [xe]
  (try simp (maxSteps := 1000000) (disch := first | assumption | (apply Ne.symm; assumption)) only [vz, vu, vv, eqS, eqFieldsV, ↓condV_t, ↓condV_f, tabs, reduceCtorEq, Array.toList, ↓reduceIte, Nat.reduceAdd, Nat.reduceLeDiff, Nat.reduceLT, Nat.reduceMul, Nat.reduceSub, Int.reduceToNat, Int.reduceSub, Int.reduceAdd, Int.reduceNeg, load_at (st.get 0 rfl), load_at (st.get 6 rfl)])
  generalize G13.set u2 [xe] = G14 at st ⊢
  refine ⟨hxe, ?_⟩
  refine RS.eq (st.get 1 rfl) (by omega) ?_
  (try simp (maxSteps := 1000000) (disch := first | assumption | (apply Ne.symm; assumption)) only [vz, vu, vv, eqS, eqFieldsV, ↓condV_t, ↓condV_f, tabs, reduceCtorEq, Array.toList, ↓reduceIte, Nat.reduceAdd, Nat.reduceLeDiff, Nat.reduceLT, Nat.reduceMul, Nat.reduceSub, Int.reduceToNat, Int.reduceSub, Int.reduceAdd, Int.reduceNeg, load_at (st.get 2 rfl)])
  refine RS.held (st.get 3 rfl) (by omega) ?_
  (try simp (maxSteps := 1000000) (disch := first | assumption | (apply Ne.symm; assumption)) only [vz, vu, vv, eqS, eqFieldsV, ↓condV_t, ↓condV_f, tabs, reduceCtorEq, Array.toList, ↓reduceIte, Nat.reduceAdd, Nat.reduceLeDiff, Nat.reduceLT, Nat.reduceMul, Nat.reduceSub, Int.reduceToNat, Int.reduceSub, Int.reduceAdd, Int.reduceNeg])
  exact ⟨fun h => by omega, fun _ => st.le⟩
end Go.Proofs.YtdnfiacjoghfkaaGreat
/- The row of the law that SplitBy answers as the reference does: whatever the arguments, it answers true, and what it is told reads as it did. -/
namespace Go.Proofs.YtdnfiacjoghfkaaGreat.splitBy
open Go Go.Sep Go.ChangeShapes Go.WideShapes Go.ChangeAt Go.RowKit
set_option linter.unusedVariables false

theorem own : ownKnob Tryz.prog.godebug = none := by kernel_rfl

theorem told (avs : List AV) (h : ArgsT Tryz.prog [25, 48, 22] avs) : CallT Tryz.prog 4 avs (fun _ => none) (fun v _ => v = .p (.bool true)) := by
  obtain ⟨a, b, rfl, h1, h⟩ := args_cons h
  obtain ⟨b, c, rfl, h2, h⟩ := args_cons h
  obtain ⟨c, d, rfl, h3, h⟩ := args_cons h
  cases args_nil h
  obtain ⟨x1, hx1, hn1, rfl⟩ := arg_program h1
  obtain ⟨x2, hx2, rfl⟩ := arg_sight h2
  obtain ⟨x3, hx3, hn3, rfl⟩ := arg_nodes h3
  exact (FnExactSplitBy_true hx1 hn1 hx2 hx3 hn3).use rfl

set_option maxRecDepth 100000 in
theorem lifted (os : Os) (started : os.Started) (H : Type) (enc : TypeId × Value → H) :
    ReturnsInHanded {} Tryz.checked os 4 .any (Rows.fnExactSplitBySpec.pre6 enc Tryz.prog Tryz.f4 Rows.fnExactSplitByRow.domain false) (Rows.fnExactSplitBySpec.post enc Tryz.prog Tryz.f4 false true false false) := by
  refine returnsInHanded_of_change (C := Tryz.checked) own started (by kernel_rfl) Tryz.func4
    (ChangeSpec.witness6 (enc := enc) (C := Tryz.checked) false ⟨#[], #[.agg #[.int .i64 0, .int .i64 0, .slice none 0 0, .slice none 0 0], .agg #[.slice none 0 0], .slice none 0 0], []⟩ 12 (by kernel_rfl) (by kernel_rfl) (by kernel_rfl) (by kernel_rfl)) ?_
  intro W base args ds gs before hval hW _ _
  refine row_of_true (n := 12) (tb := 4) (by kernel_rfl) rfl (by kernel_rfl) (by kernel_rfl) ?_ ?_ ?_ hval hW
  · have : (Tryz.f4.params.toList.all fun t => Tryz.prog.readableRec t && decide (t < Tryz.prog.types.size) && plainB Tryz.prog 12 t) = true := by kernel_rfl
    intro t ht
    have := List.all_eq_true.1 this t ht
    rw [Bool.and_eq_true, Bool.and_eq_true, decide_eq_true_eq] at this
    exact ⟨this.1.1, this.1.2, this.2⟩
  · intro ds hd
    rw [Tryz.params4] at hd
    match ds, hd with
    | [a, b, c], _ => rfl
  · rw [Tryz.params4]
    exact told

theorem over : Rows.fnExactSplitByRow.holds Tryz.pinned (OpenSpec.ofChange Rows.fnExactSplitBySpec) :=
  OpenClaim.holds_of_wide 4 Tryz.f4 rfl rfl rfl rfl rfl rfl rfl ⟨rfl, rfl, rfl, rfl, rfl⟩ rfl rfl rfl rfl rfl (by kernel_rfl) Tryz.func4 (by kernel_rfl)
    (of_decide_eq_true (by kernel_rfl)) (by unfold Func.isWrapper; first | (rw [if_pos (by decide +kernel)]; kernel_rfl) | (rw [if_neg (by decide +kernel)]; exact ⟨rfl, rfl⟩))
    (fun os started H enc _ => lifted os started H enc)

/-- The statement. -/
theorem proved : Rows.FnExactSplitBySaid :=
  over
#print axioms proved
end Go.Proofs.YtdnfiacjoghfkaaGreat.splitBy
