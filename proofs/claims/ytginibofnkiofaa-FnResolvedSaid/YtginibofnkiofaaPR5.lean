/- The row of the law FnResolved: whatever the arguments, it answers true, and what it is told reads as it did. -/
import Derived.Test.YtginibofnkiofaaPR4
import Derived.Test.YtginibofnkiofaaRows
import Derived.WalkKit
import Derived.ProofKit
import Derived.OpenShut
set_option linter.unusedVariables false
set_option linter.unusedSimpArgs false
open Nat renaming reduceAdd → ν1, reduceLeDiff → ν2, reduceLT → ν3, reduceMul → ν4, reduceSub → ν5
open Int renaming reduceToNat → ι1, reduceSub → ι2, reduceAdd → ι3, reduceNeg → ι4
open Array renaming toList → ι5
open Ne renaming symm → ν6
open List renaming forall_mem_cons → ν7
namespace Go.Proofs.Ytginibofnkiofaa
open Go Go.Sep Go.Pt
attribute [local irreducible] CallT
theorem compact_memA (ys : List Int) (x : Int) : x ∈ Lib.compact ys ↔ x ∈ ys := by
  unfold Lib.compact Lib.compactUpTo
  simp only [List.mem_map, List.mem_filter, List.mem_range]
  constructor
  · rintro ⟨j, ⟨hj, _⟩, rfl⟩
    simp [hj]
  · intro hx
    obtain ⟨j, hj, rfl⟩ := List.mem_iff_getElem.1 hx
    have key : ∀ n j (hj : j < ys.length), j ≤ n → ∃ i, ∃ hi : i < ys.length, Lib.keeps ys.toArray i = true ∧ ys[i] = ys[j] := by
      intro n
      induction n with
      | zero => intro j hj h; exact ⟨j, hj, (keeps_iff ys j hj).2 (.inl (by omega)), rfl⟩
      | succ n ih =>
        intro j hj h
        by_cases hk : Lib.keeps ys.toArray j = true
        · exact ⟨j, hj, hk, rfl⟩
        · rw [keeps_iff ys j hj] at hk
          have h1 : j ≠ 0 := fun e => hk (.inl e)
          have h2 : ys[j - 1]'(by omega) = ys[j] := by
            by_cases e : ys[j - 1]'(by omega) = ys[j]
            · exact e
            · exact absurd (.inr e) hk
          obtain ⟨i, hi, hki, e⟩ := ih (j - 1) (by omega) (by omega)
          exact ⟨i, hi, hki, by rw [e, h2]⟩
    obtain ⟨i, hi, hk, e⟩ := key j j hj (Nat.le_refl _)
    exact ⟨i, ⟨hi, hk⟩, by simp [hi, e]⟩
theorem compact_ltL {ys : List Int} (hs : ys.Pairwise fun x y => ltL y x = false) : (Lib.compact ys).Pairwise fun x y => ltL x y = true := by
  unfold Lib.compact Lib.compactUpTo
  rw [List.pairwise_map]
  have hr : ((List.range ys.length).filter (Lib.keeps ys.toArray)).Pairwise (· < ·) := List.Pairwise.filter _ List.pairwise_lt_range
  refine List.Pairwise.imp_of_mem ?_ hr
  intro i j hi hj hij
  rw [List.mem_filter, List.mem_range] at hi hj
  have hle := List.pairwise_iff_getElem.1 hs
  have h1 := (keeps_iff ys j hj.1).1 hj.2
  have e1 : ys.toArray[i]! = ys[i]'hi.1 := by simp [hi.1]
  have e2 : ys.toArray[j]! = ys[j]'hj.1 := by simp [hj.1]
  rw [e1, e2]
  rcases h1 with h1 | h1
  · omega
  · have h2 := (ltL_iff' _ _).1 (hle (j - 1) j (by omega) hj.1 (by omega))
    rw [ltL_iff]
    by_cases e : i = j - 1
    · subst e
      omega
    · have h3 := (ltL_iff' _ _).1 (hle i (j - 1) hi.1 (by omega) (by omega))
      omega
theorem srtL_perm (zs : List Int) : List.Perm (srtL zs) zs := List.mergeSort_perm zs _
theorem srtL_sorted (zs : List Int) : (srtL zs).Pairwise fun x y => ltL y x = false := by
  have := List.pairwise_mergeSort (le := fun x y : Int => !ltL y x) (fun a b c h1 h2 => by
    simp only [Bool.not_eq_true'] at *
    rw [ltL_iff'] at *; omega) (fun a b => by
    cases h1 : ltL b a
    · simp
    · have := (ltL_iff _ _).1 h1
      have : ltL a b = false := (ltL_iff' _ _).2 (by omega)
      simp [this]) zs
  exact this.imp fun h => by simpa using h
theorem riseL_ext : ∀ {xs ys : List Int}, xs.Pairwise (fun x y => ltL x y = true) → ys.Pairwise (fun x y => ltL x y = true) → (∀ x, x ∈ xs ↔ x ∈ ys) → xs = ys
  | [], [], _, _, _ => rfl
  | [], b :: ys, _, _, h => absurd ((h b).2 (by simp)) (by simp)
  | a :: xs, [], _, _, h => absurd ((h a).1 (by simp)) (by simp)
  | a :: xs, b :: ys, h1, h2, h => by
    rw [List.pairwise_cons] at h1 h2
    have asy : ∀ x y, ltL x y = true → ltL y x = true → False := fun x y k1 k2 => by
      rw [ltL_iff] at *; omega
    have e : a = b := by
      rcases List.mem_cons.1 ((h a).1 (by simp)) with e | e
      · exact e
      · rcases List.mem_cons.1 ((h b).2 (by simp)) with e' | e'
        · exact e'.symm
        · exact (asy _ _ (h2.1 a e) (h1.1 b e')).elim
    subst e
    refine congrArg _ (riseL_ext h1.2 h2.2 fun x => ?_)
    constructor
    · intro hx
      rcases List.mem_cons.1 ((h x).1 (by simp [hx])) with e | e
      · have := h1.1 x hx; rw [e] at this; exact (asy _ _ this this).elim
      · exact e
    · intro hx
      rcases List.mem_cons.1 ((h x).2 (by simp [hx])) with e | e
      · have := h2.1 x hx; rw [e] at this; exact (asy _ _ this this).elim
      · exact e
def reB (a b : List Int) (n x : Int) : Bool := (decide (x ∈ a) && decide (¬ x = n)) || (decide (x ∈ b) && decide (¬ x = -n))
def reP (a b : List Int) (n : Int) (k : Nat) : List Int := (List.range k).flatMap fun (i : Nat) => [-((i : Int) + 1), (i : Int) + 1].filter (reB a b n)
def reOk (a b : List Int) (n : Int) : Bool := (decide (1 ≤ n) && decide (n ≤ 400)) && (Go.Pc.goodL 400 a && (Go.Pc.goodL 400 b && (decide (n ∈ a) && decide (-n ∈ b))))
def reR (a b : List Int) (n : Int) : List Int × Bool := if reOk a b n && decide ((reP a b n 400).length ≤ 8) then (reP a b n 400, true) else ([], false)
theorem reP_succ (a b : List Int) (n : Int) (k : Nat) : reP a b n (k + 1) = reP a b n k ++ [-((k : Int) + 1), (k : Int) + 1].filter (reB a b n) := by simp [reP, List.range_succ, List.flatMap_append]
theorem reP_len (a b : List Int) (n : Int) (k : Nat) : (reP a b n k).length ≤ 2 * k := by
  induction k with
  | zero => simp [reP]
  | succ k ih =>
    rw [reP_succ, List.length_append]
    have := List.length_filter_le (reB a b n) [-((k : Int) + 1), (k : Int) + 1]
    simp only [List.length_cons, List.length_nil] at this
    omega
theorem reP_pw (a b : List Int) (n : Int) (k : Nat) : (reP a b n k).Pairwise fun x y => ltL x y = true := by
  unfold reP
  rw [List.pairwise_flatMap]
  refine ⟨fun i _ => List.Pairwise.filter _ ?_, List.Pairwise.imp (fun h x hx y hy => ?_) List.pairwise_lt_range⟩
  · simp only [List.pairwise_cons, List.mem_cons, List.not_mem_nil, or_false, forall_eq, List.Pairwise.nil, false_implies, implies_true, and_true]
    rw [ltL_iff]; omega
  · have h1 := (List.mem_filter.1 hx).1
    have h2 := (List.mem_filter.1 hy).1
    simp only [List.mem_cons, List.not_mem_nil, or_false] at h1 h2
    rw [ltL_iff]; omega
theorem goodL_m {names : Int} {l : List Int} (h : Go.Pc.goodL names l = true) : l.length ≤ 8 ∧ ∀ n ∈ l, n ≠ 0 ∧ -names ≤ n ∧ n ≤ names := by
  simp only [Go.Pc.goodL, Bool.and_eq_true, decide_eq_true_eq] at h
  exact ⟨h.1, fun n hn => goodX_iff.1 (List.all_eq_true.1 h.2 n hn)⟩
theorem reP_mem {a b : List Int} (ha : Go.Pc.goodL 400 a = true) (hb : Go.Pc.goodL 400 b = true) (n x : Int) : x ∈ reP a b n 400 ↔ reB a b n x = true := by
  simp only [reP, List.mem_flatMap, List.mem_range, List.mem_filter, List.mem_cons, List.not_mem_nil, or_false]
  constructor
  · rintro ⟨i, _, _, h⟩; exact h
  · intro h
    have hx : x ∈ a ∨ x ∈ b := by
      simp only [reB, Bool.or_eq_true, Bool.and_eq_true, decide_eq_true_eq] at h
      rcases h with h | h
      · exact .inl h.1
      · exact .inr h.1
    have hg : x ≠ 0 ∧ -400 ≤ x ∧ x ≤ 400 := by
      rcases hx with h | h
      · exact (goodL_m ha).2 x h
      · exact (goodL_m hb).2 x h
    exact ⟨x.natAbs - 1, by omega, by omega, h⟩
theorem re_same {a b : List Int} (ha : Go.Pc.goodL 400 a = true) (hb : Go.Pc.goodL 400 b = true) (n : Int) : Lib.compact (srtL (a.filter (fun x => decide (¬ x = n)) ++ b.filter (fun x => decide (¬ x = -n)))) = reP a b n 400 := by
  refine riseL_ext (compact_ltL (srtL_sorted _)) (reP_pw ..) fun x => ?_
  rw [compact_memA, (srtL_perm _).mem_iff, reP_mem ha hb]
  simp [reB]
theorem filt_succ {p : Int → Bool} {l : List Int} {i : Nat} (h : i < l.length) : (l.take (i + 1)).filter p = if p (l.getD i default) then (l.take i).filter p ++ [l.getD i default] else (l.take i).filter p := by
  rw [take_succ_snoc h, List.filter_append]
  generalize l.getD i default = e
  cases hp : p e <;> simp [hp]
theorem re_fin {q : Nat} {xs : List Int} {H : Heap} (hq : H q = none) : wkK (fun r H' => r = AV.tup [Is xs, B true] ∧ H' = H) (.tup [rowP q xs, .p (.bool true)]) (H.set q (cP fI xs)) := by
  have f : FrzR q 1 (xs.map eI) (.tup [rowP q xs, .p (.bool true)]) (.tup [Is xs, B true]) := by
    have : FrzR q 1 (xs.map eI) (.sl q 1 0 (xs.map eI).length) (.p (.sl (xs.map eI))) := .here
    rw [List.length_map] at this
    exact .tup (.cons this (.cons (.same _) .nil))
  have w := Wk.frz (H := H.set q (cP fI xs)) (sz := 1) (by omega) (by rw [Heap.set_same, ← cells_P]; rfl) (sized_map (f := eI) (fun _ => rfl) xs) f
  refine ⟨_, H, .trans w (.forget fun y b hb => ?_), rfl, rfl⟩
  have : y ≠ q := fun e => by rw [e, hq] at hb; cases hb
  rw [Heap.del_other this, Heap.set_other this]; exact hb
theorem ResolveOn_ref (a b : List Int) (n : Int) (ha : a.length ≤ 1000000) (hb : b.length ≤ 1000000) (hn : -1000000 ≤ n ∧ n ≤ 1000000) : Pu Try.prog 16 [Is a, Is b, I n] (.tup [Is (reR a b n).1, B (reR a b n).2]) := by
  refine ⟨fun H => CallT.fin ?_⟩
  refine CallT.ghost W16_hb fun q0 hq0 => ?_
  have en : IntKind.i64.wrap (0 - n) = -n := by rw [i64_id (by omega) (by omega)]; omega
  have no : ∀ G, Heap.le H G → reR a b n = ([], false) → wkK (fun r H' => r = AV.tup [Is (reR a b n).1, B (reR a b n).2] ∧ H' = H) (.tup [.p .nil, .p (.bool false)]) G := fun G hle hb => by
    rw [hb]
    exact ⟨_, _, .trans (.val (v' := .tup [Is [], B false]) (wk_tup ⟨.nil, .refl _, trivial⟩)) (.forget hle), rfl, rfl⟩
  have hle0 : Heap.le H (H.set q0 []) := Heap.le_set hq0
  refine W16_ok ?_; simp (maxSteps := 1000000) (disch := first | assumption | (apply ν6; assumption)) only [W16, vz, vu, vv, eqS, eF_, ↓c1_, ↓c2_, tabs, reduceCtorEq, ι5, ↓reduceIte, ν1, ν2, ν3, ν4, ν5, ι1, ι2, ι3, ι4, en]
  refine Pu.use (l6Clause_spec 400 a ha (by omega) (by omega)) ?_
  cases ga : Go.Pc.goodL 400 a
  · (try simp (maxSteps := 1000000) (disch := first | assumption | (apply ν6; assumption)) only [vz, vu, vv, eqS, eF_, ↓c1_, ↓c2_, tabs, reduceCtorEq, ι5, ↓reduceIte, ν1, ν2, ν3, ν4, ν5, ι1, ι2, ι3, ι4])
    exact no _ hle0 (by simp [reR, reOk, ga])
  (try simp (maxSteps := 1000000) (disch := first | assumption | (apply ν6; assumption)) only [vz, vu, vv, eqS, eF_, ↓c1_, ↓c2_, tabs, reduceCtorEq, ι5, ↓reduceIte, ν1, ν2, ν3, ν4, ν5, ι1, ι2, ι3, ι4])
  refine Pu.use (l6Clause_spec 400 b hb (by omega) (by omega)) ?_
  cases gb : Go.Pc.goodL 400 b
  · (try simp (maxSteps := 1000000) (disch := first | assumption | (apply ν6; assumption)) only [vz, vu, vv, eqS, eF_, ↓c1_, ↓c2_, tabs, reduceCtorEq, ι5, ↓reduceIte, ν1, ν2, ν3, ν4, ν5, ι1, ι2, ι3, ι4])
    exact no _ hle0 (by simp [reR, reOk, gb])
  (try simp (maxSteps := 1000000) (disch := first | assumption | (apply ν6; assumption)) only [vz, vu, vv, eqS, eF_, ↓c1_, ↓c2_, tabs, reduceCtorEq, ι5, ↓reduceIte, ν1, ν2, ν3, ν4, ν5, ι1, ι2, ι3, ι4])
  refine Pu.use (l1In_spec n 1 400) ?_
  cases gn : decide (1 ≤ n) && decide (n ≤ 400)
  · (try simp (maxSteps := 1000000) (disch := first | assumption | (apply ν6; assumption)) only [vz, vu, vv, eqS, eF_, ↓c1_, ↓c2_, tabs, reduceCtorEq, ι5, ↓reduceIte, ν1, ν2, ν3, ν4, ν5, ι1, ι2, ι3, ι4])
    exact no _ hle0 (by simp only [reR, reOk, gn]; rfl)
  (try simp (maxSteps := 1000000) (disch := first | assumption | (apply ν6; assumption)) only [vz, vu, vv, eqS, eF_, ↓c1_, ↓c2_, tabs, reduceCtorEq, ι5, ↓reduceIte, ν1, ν2, ν3, ν4, ν5, ι1, ι2, ι3, ι4])
  refine Pu.use (l1Has_spec a n (by omega)) ?_
  cases h1 : decide (n ∈ a)
  · (try simp (maxSteps := 1000000) (disch := first | assumption | (apply ν6; assumption)) only [vz, vu, vv, eqS, eF_, ↓c1_, ↓c2_, tabs, reduceCtorEq, ι5, ↓reduceIte, ν1, ν2, ν3, ν4, ν5, ι1, ι2, ι3, ι4])
    exact no _ hle0 (by simp only [reR, reOk, h1, ga, gb, gn]; rfl)
  (try simp (maxSteps := 1000000) (disch := first | assumption | (apply ν6; assumption)) only [vz, vu, vv, eqS, eF_, ↓c1_, ↓c2_, tabs, reduceCtorEq, ι5, ↓reduceIte, ν1, ν2, ν3, ν4, ν5, ι1, ι2, ι3, ι4, en])
  refine Pu.use (l1Has_spec b (-n) (by omega)) ?_
  cases h2 : decide (-n ∈ b)
  · (try simp (maxSteps := 1000000) (disch := first | assumption | (apply ν6; assumption)) only [vz, vu, vv, eqS, eF_, ↓c1_, ↓c2_, tabs, reduceCtorEq, ι5, ↓reduceIte, ν1, ν2, ν3, ν4, ν5, ι1, ι2, ι3, ι4])
    exact no _ hle0 (by simp only [reR, reOk, h1, h2, ga, gb, gn]; rfl)
  have gok : reOk a b n = true := by simp only [reOk, h1, h2, ga, gb, gn]; rfl
  (try simp (maxSteps := 1000000) (disch := first | assumption | (apply ν6; assumption)) only [vz, vu, vv, eqS, eF_, ↓c1_, ↓c2_, tabs, reduceCtorEq, ι5, ↓reduceIte, ν1, ν2, ν3, ν4, ν5, ι1, ι2, ι3, ι4])
  refine L16_0_rule ((0 : Nat), q0) (fun s => rowP s.2 (reP a b n s.1)) (fun s => I ((s.1 : Int) + 1)) (fun s => H.set s.2 (cP fI (reP a b n s.1))) (fun s => s.1 ≤ 400 ∧ H s.2 = none) (fun s => 400 - s.1) ⟨⟨by simp, hq0⟩, .nilo _ _ _, .refl _, by simpa [reP, cP] using Heap.le_refl _⟩ ?_
  rintro ⟨k, q⟩ ⟨hk, hq⟩
  dsimp only at hk hq
  have hl := reP_len a b n k
  have hs := reP_succ a b n k
  have e1 : IntKind.i64.wrap (0 - ((k : Int) + 1)) = -((k : Int) + 1) := by rw [i64_id (by omega) (by omega)]; omega
  have e2 : IntKind.i64.wrap ((k : Int) + 1 + 1) = ((k + 1 : Nat) : Int) + 1 := by rw [i64_id (by omega) (by omega)]; omega
  (try simp (maxSteps := 1000000) (disch := first | assumption | (apply ν6; assumption)) only [vz, vu, vv, eqS, eF_, ↓c1_, ↓c2_, tabs, reduceCtorEq, ι5, ↓reduceIte, ν1, ν2, ν3, ν4, ν5, ι1, ι2, ι3, ι4, B16_0, e1])
  refine ⟨fun h3 => ?_, fun h3 => ?_⟩
  · refine lit2 tab_28 rfl tab_3 ⟨rfl, rfl⟩ ?_
    obtain ⟨two, htwo⟩ : ∃ two : List Int, two = [-((k : Int) + 1), (k : Int) + 1] := ⟨_, rfl⟩
    have h2l : two.length = 2 := by rw [htwo]; rfl
    have hin : (AV.p (.sl [[PV.int IntKind.i64 (-((k : Int) + 1))], [PV.int IntKind.i64 ((k : Int) + 1)]])) = Is two := by rw [htwo]; rfl
    rw [hin]
    rw [← htwo] at hs
    (try simp (maxSteps := 1000000) (disch := first | assumption | (apply ν6; assumption)) only [vz, vu, vv, eqS, eF_, ↓c1_, ↓c2_, tabs, reduceCtorEq, ι5, ↓reduceIte, ν1, ν2, ν3, ν4, ν5, ι1, ι2, ι3, ι4])
    refine L16_1_rule ((0 : Nat), q) (fun s => rowP s.2 (reP a b n k ++ (two.take s.1).filter (reB a b n))) (fun s => I s.1) (fun s => H.set s.2 (cP fI (reP a b n k ++ (two.take s.1).filter (reB a b n)))) (fun s => s.1 ≤ 2 ∧ H s.2 = none) (fun s => 2 - s.1) ⟨⟨by simp, hq⟩, by simp; exact .refl _, .refl _, by simpa using Heap.le_refl _⟩ ?_
    clear hq
    rintro ⟨j, q⟩ ⟨hj, hq⟩
    dsimp only at hj hq
    have e5 : IntKind.i64.wrap ((j : Int) + 1) = ((j + 1 : Nat) : Int) := by rw [i64_id (by omega) (by omega)]; simp
    have hfl : ((two.take j).filter (reB a b n)).length ≤ 2 := Nat.le_trans (List.length_filter_le _ _) (by rw [List.length_take]; omega)
    (try simp (maxSteps := 1000000) (disch := first | assumption | (apply ν6; assumption)) only [vz, vu, vv, eqS, eF_, ↓c1_, ↓c2_, tabs, reduceCtorEq, ι5, ↓reduceIte, ν1, ν2, ν3, ν4, ν5, ι1, ι2, ι3, ι4, B16_1, h2l, e5])
    refine ⟨fun h4 => ⟨by omega, h4, ?_⟩, fun h4 => ?_⟩
    · have hlt : j < two.length := by omega
      have hsu := filt_succ (p := reB a b n) hlt
      generalize two.getD j default = x at hsu ⊢
      have rB : reB a b n x = ((decide (x ∈ a) && decide (¬ x = n)) || (decide (x ∈ b) && decide (¬ x = -n))) := rfl
      refine Pu.use (l1Has_spec a x (by omega)) ?_
      have nx0 : reB a b n x = false → ∃ s' : Nat × Nat, (s'.1 ≤ 2 ∧ H s'.2 = none) ∧ 2 - s'.1 < 2 - j ∧ AV.wk (rowP q (reP a b n k ++ (two.take j).filter (reB a b n))) (rowP s'.2 (reP a b n k ++ (two.take s'.1).filter (reB a b n))) ∧ AV.wk (I ((j + 1 : Nat) : Int)) (I s'.1) ∧ Heap.le (H.set s'.2 (cP fI (reP a b n k ++ (two.take s'.1).filter (reB a b n)))) (H.set q (cP fI (reP a b n k ++ (two.take j).filter (reB a b n)))) := fun hr => by
        rw [hr] at hsu
        simp only [Bool.false_eq_true, if_false] at hsu
        exact ⟨(j + 1, q), ⟨by simp only; omega, hq⟩, by simp only; omega, by rw [hsu]; exact .refl _, .refl _, by rw [hsu]; exact Heap.le_refl _⟩
      have hB : CallT Try.prog 32 [Is b, I x] (H.set q (cP fI (reP a b n k ++ (two.take j).filter (reB a b n)))) fun v H' => v = B (decide (x ∈ b)) ∧ H' = H.set q (cP fI (reP a b n k ++ (two.take j).filter (reB a b n))) := (l1Has_spec b x (by omega)).all _
      cases hxa : decide (x ∈ a)
      · rw [hxa, Bool.false_and, Bool.false_or] at rB
        (try simp (maxSteps := 1000000) (disch := first | assumption | (apply ν6; assumption)) only [vz, vu, vv, eqS, eF_, ↓c1_, ↓c2_, tabs, reduceCtorEq, ι5, ↓reduceIte, ν1, ν2, ν3, ν4, ν5, ι1, ι2, ι3, ι4])
        refine Pu.use (l1Has_spec b x (by omega)) ?_
        cases hxb : decide (x ∈ b)
        · rw [hxb, Bool.false_and] at rB
          (try simp (maxSteps := 1000000) (disch := first | assumption | (apply ν6; assumption)) only [vz, vu, vv, eqS, eF_, ↓c1_, ↓c2_, tabs, reduceCtorEq, ι5, ↓reduceIte, ν1, ν2, ν3, ν4, ν5, ι1, ι2, ι3, ι4, J16_2, e5])
          exact nx0 rB
        · rw [hxb, Bool.true_and] at rB
          (try simp (maxSteps := 1000000) (disch := first | assumption | (apply ν6; assumption)) only [vz, vu, vv, eqS, eF_, ↓c1_, ↓c2_, tabs, reduceCtorEq, ι5, ↓reduceIte, ν1, ν2, ν3, ν4, ν5, ι1, ι2, ι3, ι4, J16_2, e5, en])
          refine ⟨fun h5 => ?_, fun h5 => nx0 (by rw [rB]; simpa using h5)⟩
          rw [if_pos (by rw [rB]; simpa using h5)] at hsu
          refine push_topI hq (by rw [List.length_append]; omega) fun q' hq' => ?_
          rw [List.append_assoc, ← hsu]
          (try simp (maxSteps := 1000000) (disch := first | assumption | (apply ν6; assumption)) only [vz, vu, vv, eqS, eF_, ↓c1_, ↓c2_, tabs, reduceCtorEq, ι5, ↓reduceIte, ν1, ν2, ν3, ν4, ν5, ι1, ι2, ι3, ι4, e5])
          exact ⟨(j + 1, q'), ⟨by simp only; omega, hq'⟩, by simp only; omega, .refl _, .refl _, Heap.le_refl _⟩
      · rw [hxa, Bool.true_and] at rB
        (try simp (maxSteps := 1000000) (disch := first | assumption | (apply ν6; assumption)) only [vz, vu, vv, eqS, eF_, ↓c1_, ↓c2_, tabs, reduceCtorEq, ι5, ↓reduceIte, ν1, ν2, ν3, ν4, ν5, ι1, ι2, ι3, ι4, e5])
        refine ⟨fun h5 => ?_, fun h5 => ?_⟩
        · rw [if_pos (by rw [rB, decide_eq_true h5]; rfl)] at hsu
          refine push_topI hq (by rw [List.length_append]; omega) fun q' hq' => ?_
          rw [List.append_assoc, ← hsu]
          (try simp (maxSteps := 1000000) (disch := first | assumption | (apply ν6; assumption)) only [vz, vu, vv, eqS, eF_, ↓c1_, ↓c2_, tabs, reduceCtorEq, ι5, ↓reduceIte, ν1, ν2, ν3, ν4, ν5, ι1, ι2, ι3, ι4, e5])
          exact ⟨(j + 1, q'), ⟨by simp only; omega, hq'⟩, by simp only; omega, .refl _, .refl _, Heap.le_refl _⟩
        · have hxn : decide (¬ x = n) = false := by simp [h5]
          rw [hxn, Bool.false_or] at rB
          refine Pu.use (l1Has_spec b x (by omega)) ?_
          cases hxb : decide (x ∈ b)
          · rw [hxb, Bool.false_and] at rB
            (try simp (maxSteps := 1000000) (disch := first | assumption | (apply ν6; assumption)) only [vz, vu, vv, eqS, eF_, ↓c1_, ↓c2_, tabs, reduceCtorEq, ι5, ↓reduceIte, ν1, ν2, ν3, ν4, ν5, ι1, ι2, ι3, ι4, J16_2, e5])
            exact nx0 rB
          · rw [hxb, Bool.true_and] at rB
            (try simp (maxSteps := 1000000) (disch := first | assumption | (apply ν6; assumption)) only [vz, vu, vv, eqS, eF_, ↓c1_, ↓c2_, tabs, reduceCtorEq, ι5, ↓reduceIte, ν1, ν2, ν3, ν4, ν5, ι1, ι2, ι3, ι4, J16_2, e5, en])
            refine ⟨fun h6 => ?_, fun h6 => nx0 (by rw [rB]; simpa using h6)⟩
            rw [if_pos (by rw [rB]; simpa using h6)] at hsu
            refine push_topI hq (by rw [List.length_append]; omega) fun q' hq' => ?_
            rw [List.append_assoc, ← hsu]
            (try simp (maxSteps := 1000000) (disch := first | assumption | (apply ν6; assumption)) only [vz, vu, vv, eqS, eF_, ↓c1_, ↓c2_, tabs, reduceCtorEq, ι5, ↓reduceIte, ν1, ν2, ν3, ν4, ν5, ι1, ι2, ι3, ι4, e5])
            exact ⟨(j + 1, q'), ⟨by simp only; omega, hq'⟩, by simp only; omega, .refl _, .refl _, Heap.le_refl _⟩
    · have : j = 2 := by omega
      subst this
      rw [← h2l, List.take_length, ← hs]
      (try simp (maxSteps := 1000000) (disch := first | assumption | (apply ν6; assumption)) only [vz, vu, vv, eqS, eF_, ↓c1_, ↓c2_, tabs, reduceCtorEq, ι5, ↓reduceIte, ν1, ν2, ν3, ν4, ν5, ι1, ι2, ι3, ι4, e2])
      exact ⟨(k + 1, q), ⟨by simp only; omega, hq⟩, by simp only; omega, .refl _, .refl _, Heap.le_refl _⟩
  · have : k = 400 := by omega
    subst this
    refine ⟨fun h4 => no _ (Heap.le_set hq) ?_, fun h4 => ?_⟩
    · have : decide ((reP a b n 400).length ≤ 8) = false := decide_eq_false (by omega)
      simp [reR, gok, this]
    · have : decide ((reP a b n 400).length ≤ 8) = true := decide_eq_true (by omega)
      have er : reR a b n = (reP a b n 400, true) := by rw [reR, gok, this]; rfl
      rw [er]
      exact re_fin hq
theorem ResolveOn_impl (a b : List Int) (n : Int) (ha : a.length ≤ 1000000) (hb : b.length ≤ 1000000) (hn : -1000000 ≤ n ∧ n ≤ 1000000) : Pu Try.prog 15 [Is a, Is b, I n] (.tup [Is (reR a b n).1, B (reR a b n).2]) := by
  refine ⟨fun H => CallT.fin ?_⟩
  have en : IntKind.i64.wrap (0 - n) = -n := by rw [i64_id (by omega) (by omega)]; omega
  have no : ∀ G, Heap.le H G → reR a b n = ([], false) → wkK (fun r H' => r = AV.tup [Is (reR a b n).1, B (reR a b n).2] ∧ H' = H) (.tup [.p .nil, .p (.bool false)]) G := fun G hle hb => by
    rw [hb]
    exact ⟨_, _, .trans (.val (v' := .tup [Is [], B false]) (wk_tup ⟨.nil, .refl _, trivial⟩)) (.forget hle), rfl, rfl⟩
  refine W15_ok ?_; simp (maxSteps := 1000000) (disch := first | assumption | (apply ν6; assumption)) only [W15, vz, vu, vv, eqS, eF_, ↓c1_, ↓c2_, tabs, reduceCtorEq, ι5, ↓reduceIte, ν1, ν2, ν3, ν4, ν5, ι1, ι2, ι3, ι4, en]
  refine ⟨fun h1 => no _ (Heap.le_refl _) (by simp only [reR, reOk, show decide (1 ≤ n) = false from decide_eq_false (by omega)]; rfl), fun h1 => ⟨fun h2 => no _ (Heap.le_refl _) (by simp only [reR, reOk, show decide (n ≤ 400) = false from decide_eq_false (by omega), Bool.and_false]; rfl), fun h2 => ?_⟩⟩
  have gn : (decide (1 ≤ n) && decide (n ≤ 400)) = true := by rw [decide_eq_true (by omega : 1 ≤ n), decide_eq_true (by omega : n ≤ 400)]; rfl
  refine Pu.use (isClause_spec a 400 ha (by omega) (by omega)) ?_
  cases ga : Go.Pc.goodL 400 a
  · (try simp (maxSteps := 1000000) (disch := first | assumption | (apply ν6; assumption)) only [vz, vu, vv, eqS, eF_, ↓c1_, ↓c2_, tabs, reduceCtorEq, ι5, ↓reduceIte, ν1, ν2, ν3, ν4, ν5, ι1, ι2, ι3, ι4])
    exact no _ (Heap.le_refl _) (by simp [reR, reOk, ga])
  (try simp (maxSteps := 1000000) (disch := first | assumption | (apply ν6; assumption)) only [vz, vu, vv, eqS, eF_, ↓c1_, ↓c2_, tabs, reduceCtorEq, ι5, ↓reduceIte, ν1, ν2, ν3, ν4, ν5, ι1, ι2, ι3, ι4])
  refine Pu.use (isClause_spec b 400 hb (by omega) (by omega)) ?_
  cases gb : Go.Pc.goodL 400 b
  · (try simp (maxSteps := 1000000) (disch := first | assumption | (apply ν6; assumption)) only [vz, vu, vv, eqS, eF_, ↓c1_, ↓c2_, tabs, reduceCtorEq, ι5, ↓reduceIte, ν1, ν2, ν3, ν4, ν5, ι1, ι2, ι3, ι4])
    exact no _ (Heap.le_refl _) (by simp [reR, reOk, gb])
  (try simp (maxSteps := 1000000) (disch := first | assumption | (apply ν6; assumption)) only [vz, vu, vv, eqS, eF_, ↓c1_, ↓c2_, tabs, reduceCtorEq, ι5, ↓reduceIte, ν1, ν2, ν3, ν4, ν5, ι1, ι2, ι3, ι4])
  refine Pu.use (ContainsI_spec a n (by omega)) ?_
  cases h3 : decide (n ∈ a)
  · (try simp (maxSteps := 1000000) (disch := first | assumption | (apply ν6; assumption)) only [vz, vu, vv, eqS, eF_, ↓c1_, ↓c2_, tabs, reduceCtorEq, ι5, ↓reduceIte, ν1, ν2, ν3, ν4, ν5, ι1, ι2, ι3, ι4])
    exact no _ (Heap.le_refl _) (by simp only [reR, reOk, h3, ga, gb, gn]; rfl)
  (try simp (maxSteps := 1000000) (disch := first | assumption | (apply ν6; assumption)) only [vz, vu, vv, eqS, eF_, ↓c1_, ↓c2_, tabs, reduceCtorEq, ι5, ↓reduceIte, ν1, ν2, ν3, ν4, ν5, ι1, ι2, ι3, ι4, en])
  refine Pu.use (ContainsI_spec b (-n) (by omega)) ?_
  cases h4 : decide (-n ∈ b)
  · (try simp (maxSteps := 1000000) (disch := first | assumption | (apply ν6; assumption)) only [vz, vu, vv, eqS, eF_, ↓c1_, ↓c2_, tabs, reduceCtorEq, ι5, ↓reduceIte, ν1, ν2, ν3, ν4, ν5, ι1, ι2, ι3, ι4])
    exact no _ (Heap.le_refl _) (by simp only [reR, reOk, h3, h4, ga, gb, gn]; rfl)
  have gok : reOk a b n = true := by simp only [reOk, h3, h4, ga, gb, gn]; rfl
  obtain ⟨la, ma⟩ := goodL_m ga
  obtain ⟨lb, mb⟩ := goodL_m gb
  (try simp (maxSteps := 1000000) (disch := first | assumption | (apply ν6; assumption)) only [vz, vu, vv, eqS, eF_, ↓c1_, ↓c2_, tabs, reduceCtorEq, ι5, ↓reduceIte, ν1, ν2, ν3, ν4, ν5, ι1, ι2, ι3, ι4])
  refine lit0I fun q hq => ?_
  (try simp (maxSteps := 1000000) (disch := first | assumption | (apply ν6; assumption)) only [vz, vu, vv, eqS, eF_, ↓c1_, ↓c2_, tabs, reduceCtorEq, ι5, ↓reduceIte, ν1, ν2, ν3, ν4, ν5, ι1, ι2, ι3, ι4])
  refine L15_0_rule ((0 : Nat), q) (fun s => rowP s.2 ((a.take s.1).filter fun x => decide (¬ x = n))) (fun s => I s.1) (fun s => H.set s.2 (cP fI ((a.take s.1).filter fun x => decide (¬ x = n)))) (fun s => s.1 ≤ a.length ∧ H s.2 = none) (fun s => a.length - s.1) ⟨⟨by simp, hq⟩, by simp; exact .refl _, .refl _, by simpa using Heap.le_refl _⟩ ?_
  clear hq q
  rintro ⟨i, q⟩ ⟨hi, hq⟩
  dsimp only at hi hq
  have e5 : IntKind.i64.wrap ((i : Int) + 1) = ((i + 1 : Nat) : Int) := by rw [i64_id (by omega) (by omega)]; simp
  have hfl : ((a.take i).filter fun x => decide (¬ x = n)).length ≤ 8 := Nat.le_trans (List.length_filter_le _ _) (by rw [List.length_take]; omega)
  (try simp (maxSteps := 1000000) (disch := first | assumption | (apply ν6; assumption)) only [vz, vu, vv, eqS, eF_, ↓c1_, ↓c2_, tabs, reduceCtorEq, ι5, ↓reduceIte, ν1, ν2, ν3, ν4, ν5, ι1, ι2, ι3, ι4, B15_0, e5])
  refine ⟨fun h5 => ⟨by omega, h5, ?_⟩, fun h5 => ?_⟩
  · have hlt : i < a.length := by omega
    have hsu := filt_succ (p := fun x => decide (¬ x = n)) hlt
    generalize a.getD i default = x at hsu ⊢
    refine ⟨fun h6 => ?_, fun h6 => ?_⟩
    · rw [if_pos (decide_eq_true h6)] at hsu
      refine push_topI hq (by omega) fun q' hq' => ?_
      rw [← hsu]
      (try simp (maxSteps := 1000000) (disch := first | assumption | (apply ν6; assumption)) only [vz, vu, vv, eqS, eF_, ↓c1_, ↓c2_, tabs, reduceCtorEq, ι5, ↓reduceIte, ν1, ν2, ν3, ν4, ν5, ι1, ι2, ι3, ι4, e5])
      exact ⟨(i + 1, q'), ⟨by simp only; omega, hq'⟩, by simp only; omega, .refl _, .refl _, Heap.le_refl _⟩
    · rw [if_neg (by simp [h6])] at hsu
      exact ⟨(i + 1, q), ⟨by simp only; omega, hq⟩, by simp only; omega, by rw [hsu]; exact .refl _, .refl _, by rw [hsu]; exact Heap.le_refl _⟩
  · have : i = a.length := by omega
    subst this
    rw [List.take_length] at hfl ⊢
    generalize hA : (a.filter fun x => decide (¬ x = n)) = A at hfl ⊢
    refine L15_1_rule ((0 : Nat), q) (fun s => rowP s.2 (A ++ (b.take s.1).filter fun x => decide (¬ x = -n))) (fun s => I s.1) (fun s => H.set s.2 (cP fI (A ++ (b.take s.1).filter fun x => decide (¬ x = -n)))) (fun s => s.1 ≤ b.length ∧ H s.2 = none) (fun s => b.length - s.1) ⟨⟨by simp, hq⟩, by simp; exact .refl _, .refl _, by simpa using Heap.le_refl _⟩ ?_
    clear hq q
    rintro ⟨j, q⟩ ⟨hj, hq⟩
    dsimp only at hj hq
    have e6 : IntKind.i64.wrap ((j : Int) + 1) = ((j + 1 : Nat) : Int) := by rw [i64_id (by omega) (by omega)]; simp
    have hfb : ((b.take j).filter fun x => decide (¬ x = -n)).length ≤ 8 := Nat.le_trans (List.length_filter_le _ _) (by rw [List.length_take]; omega)
    (try simp (maxSteps := 1000000) (disch := first | assumption | (apply ν6; assumption)) only [vz, vu, vv, eqS, eF_, ↓c1_, ↓c2_, tabs, reduceCtorEq, ι5, ↓reduceIte, ν1, ν2, ν3, ν4, ν5, ι1, ι2, ι3, ι4, B15_1, e6, en])
    refine ⟨fun h6 => ⟨by omega, h6, ?_⟩, fun h6 => ?_⟩
    · have hlt : j < b.length := by omega
      have hsu := filt_succ (p := fun x => decide (¬ x = -n)) hlt
      generalize b.getD j default = x at hsu ⊢
      refine ⟨fun h7 => ?_, fun h7 => ?_⟩
      · rw [if_pos (decide_eq_true h7)] at hsu
        refine push_topI hq (by rw [List.length_append]; omega) fun q' hq' => ?_
        rw [List.append_assoc, ← hsu]
        (try simp (maxSteps := 1000000) (disch := first | assumption | (apply ν6; assumption)) only [vz, vu, vv, eqS, eF_, ↓c1_, ↓c2_, tabs, reduceCtorEq, ι5, ↓reduceIte, ν1, ν2, ν3, ν4, ν5, ι1, ι2, ι3, ι4, e6])
        exact ⟨(j + 1, q'), ⟨by simp only; omega, hq'⟩, by simp only; omega, .refl _, .refl _, Heap.le_refl _⟩
      · rw [if_neg (by simp [h7])] at hsu
        exact ⟨(j + 1, q), ⟨by simp only; omega, hq⟩, by simp only; omega, by rw [hsu]; exact .refl _, .refl _, by rw [hsu]; exact Heap.le_refl _⟩
    · have : j = b.length := by omega
      subst this
      rw [List.take_length] at hfb ⊢
      have hsame := re_same ga gb n
      rw [hA] at hsame
      have hmem : ∀ x ∈ A ++ b.filter (fun x => decide (¬ x = -n)), -1000 ≤ x ∧ x ≤ 1000 := by
        intro x hx
        rcases List.mem_append.1 hx with h | h
        · rw [← hA] at h; have := ma x (List.mem_filter.1 h).1; omega
        · have := mb x (List.mem_filter.1 h).1; omega
      have hll : (A ++ b.filter (fun x => decide (¬ x = -n))).length ≤ 16 := by rw [List.length_append]; omega
      generalize A ++ b.filter (fun x => decide (¬ x = -n)) = Z at hsame hmem hll ⊢
      refine SFI_row (Heap.set_same _ _ _) (by omega) hmem ?_
      rw [Heap.set_set]
      have hsl := srtL_len Z
      have ez : (.sl q 1 0 Z.length : AV) = .sl q 1 0 (srtL Z).length := by rw [hsl]
      (try simp (maxSteps := 1000000) (disch := first | assumption | (apply ν6; assumption)) only [vz, vu, vv, eqS, eF_, ↓c1_, ↓c2_, tabs, reduceCtorEq, ι5, ↓reduceIte, ν1, ν2, ν3, ν4, ν5, ι1, ι2, ι3, ι4])
      rw [show rowP q Z = .sl q 1 0 (srtL Z).length from ez]
      refine Compact_row (Heap.set_same _ _ _) (by omega) ?_
      rw [Heap.set_set, hsame]
      (try simp (maxSteps := 1000000) (disch := first | assumption | (apply ν6; assumption)) only [vz, vu, vv, eqS, eF_, ↓c1_, ↓c2_, tabs, reduceCtorEq, ι5, ↓reduceIte, ν1, ν2, ν3, ν4, ν5, ι1, ι2, ι3, ι4])
      refine ⟨fun h8 => no _ (Heap.le_set hq) ?_, fun h8 => ?_⟩
      · have : decide ((reP a b n 400).length ≤ 8) = false := decide_eq_false (by omega)
        simp [reR, gok, this]
      · have : decide ((reP a b n 400).length ≤ 8) = true := decide_eq_true (by omega)
        have er : reR a b n = (reP a b n 400, true) := by rw [reR, gok, this]; rfl
        rw [er]
        exact re_fin hq
end Go.Proofs.Ytginibofnkiofaa
namespace Go.Sep
open Go Go.RowKit Go.Proofs.Ytginibofnkiofaa
structure Th where
  D : List Nat
  P : Heap → Prop
  loc : ∀ {G G' : Heap}, P G → (∀ y ∈ D, ∀ b, G y = some b → G' y = some b) → P G'
  has : ∀ {G : Heap}, P G → ∀ y ∈ D, G y ≠ none
def cellT (r : Nat) (b : List AV) : Th := ⟨[r], fun G => G r = some b, fun h f => f r (List.mem_singleton.2 rfl) b h, fun h y hy => by rw [List.mem_singleton.1 hy, h]; simp⟩
structure St (H : Heap) (Ts : List Th) (G : Heap) : Prop where
  le : Heap.le H G
  nd : (Ts.flatMap Th.D).Nodup
  fr : ∀ t ∈ Ts, ∀ y ∈ t.D, H y = none
  ok : ∀ t ∈ Ts, t.P G
theorem St.nil (H : Heap) : St H [] H := ⟨Heap.le_refl _, List.nodup_nil, fun t ht => (by cases ht), fun t ht => (by cases ht)⟩
theorem St.get {H G : Heap} {Ts : List Th} {t : Th} (s : St H Ts G) (i : Nat) (h : Ts[i]? = some t) : t.P G := s.ok t (List.mem_of_getElem? h)
theorem St.push {H G G' : Heap} {Ts : List Th} (s : St H Ts G) (t : Th) (hn : New G G' t.D) (hp : t.P G') : St H (t :: Ts) G' := by
  refine ⟨Heap.le_trans s.le hn.le, ?_, ?_, ?_⟩
  · rw [List.flatMap_cons, List.nodup_append]
    refine ⟨hn.nd, s.nd, fun a ha b hb e => ?_⟩
    obtain ⟨u, hu, hbu⟩ := List.mem_flatMap.1 hb
    exact u.has (s.ok u hu) b hbu (by rw [← e]; exact hn.fr a ha)
  · intro u hu y hy
    rcases List.mem_cons.1 hu with rfl | hu
    · cases hh : H y with
      | none => rfl
      | some b => rw [← hn.fr y hy, s.le y b hh]
    · exact s.fr u hu y hy
  · intro u hu
    rcases List.mem_cons.1 hu with rfl | hu
    · exact hp
    · exact u.loc (s.ok u hu) fun y _ b hb => hn.le y b hb
theorem New.cell {G : Heap} {r : Nat} {b : List AV} (hr : G r = none) : New G (G.set r b) [r] := ⟨by simp, by simpa using hr, Heap.le_set hr⟩
theorem St.cell {H G : Heap} {Ts : List Th} (s : St H Ts G) {r : Nat} (hr : G r = none) (b : List AV) : St H (cellT r b :: Ts) (G.set r b) := s.push (cellT r b) (New.cell hr) (Heap.set_same _ _ _)
theorem St.upd {H G G' : Heap} {Ts : List Th} {t : Th} (s : St H Ts G) (i : Nat) (h : Ts[i]? = some t) (t' : Th) (hD : t'.D = t.D) (hf : ∀ y, y ∉ t.D → G' y = G y) (hp : t'.P G') : St H (Ts.set i t') G' := by
  obtain ⟨hi, hti⟩ := List.getElem?_eq_some_iff.1 h
  have e : Ts = Ts.take i ++ t :: Ts.drop (i + 1) := by rw [← hti, List.getElem_cons_drop, List.take_append_drop]
  have e' : Ts.set i t' = Ts.take i ++ t' :: Ts.drop (i + 1) := by rw [List.set_eq_take_append_cons_drop, if_pos hi]
  generalize Ts.take i = pre at e e'
  generalize Ts.drop (i + 1) = post at e e'
  rw [e']
  subst e
  have hnd := s.nd
  rw [List.flatMap_append, List.flatMap_cons] at hnd
  have hdis : ∀ u ∈ pre ++ post, ∀ y ∈ u.D, y ∉ t.D := by
    intro u hu y hy hyt
    rw [List.nodup_append, List.nodup_append] at hnd
    rcases List.mem_append.1 hu with hu | hu
    · exact hnd.2.2 y (List.mem_flatMap.2 ⟨u, hu, hy⟩) y (List.mem_append_left _ hyt) rfl
    · exact hnd.2.1.2.2 y hyt y (List.mem_flatMap.2 ⟨u, hu, hy⟩) rfl
  refine ⟨fun y b hb => ?_, by rw [List.flatMap_append, List.flatMap_cons, hD]; exact hnd, fun u hu y hy => ?_, fun u hu => ?_⟩
  · rw [hf y (fun hy => by have := s.fr t (by simp) y hy; rw [this] at hb; cases hb)]; exact s.le y b hb
  · rcases List.mem_append.1 hu with hu | hu
    · exact s.fr u (List.mem_append_left _ hu) y hy
    · rcases List.mem_cons.1 hu with rfl | hu
      · exact s.fr t (by simp) y (hD ▸ hy)
      · exact s.fr u (by simp [hu]) y hy
  · have old : ∀ u ∈ pre ++ post, u.P G' := fun u hu => u.loc (s.ok u (by
      rcases List.mem_append.1 hu with hu | hu
      · exact List.mem_append_left _ hu
      · exact List.mem_append_right _ (List.mem_cons_of_mem _ hu))) fun y hy b hb => by rw [hf y (hdis u hu y hy)]; exact hb
    rcases List.mem_append.1 hu with hu | hu
    · exact old u (List.mem_append_left _ hu)
    · rcases List.mem_cons.1 hu with rfl | hu
      · exact hp
      · exact old u (List.mem_append_right _ hu)
theorem St.drop {H G : Heap} {t : Th} {Ts : List Th} (s : St H (t :: Ts) G) : St H Ts G := ⟨s.le, (by have := s.nd; rw [List.flatMap_cons, List.nodup_append] at this; exact this.2.1), fun u hu => s.fr u (List.mem_cons_of_mem _ hu), fun u hu => s.ok u (List.mem_cons_of_mem _ hu)⟩
theorem St.perm {H G : Heap} {Ts Us : List Th} (s : St H Ts G) (h : List.Perm Ts Us) : St H Us G :=
  ⟨s.le, (h.flatMap_right _).nodup s.nd, fun t ht => s.fr t (h.mem_iff.2 ht), fun t ht => s.ok t (h.mem_iff.2 ht)⟩
theorem St.disj {H G : Heap} {t u : Th} {Ts : List Th} (s : St H (t :: u :: Ts) G) : ∀ y ∈ t.D, y ∉ u.D := by
  have := s.nd
  rw [List.flatMap_cons, List.flatMap_cons, List.nodup_append] at this
  exact fun y hy hu => this.2.2 y hy y (List.mem_append_left _ hu) rfl
theorem Th.dis : ∀ {Ts : List Th} {t u : Th} {i j : Nat}, (Ts.flatMap Th.D).Nodup → Ts[i]? = some t → Ts[j]? = some u → i < j → ∀ y ∈ t.D, y ∉ u.D
  | [], _, _, _, _, _, hi, _, _ => by simp at hi
  | a :: Ts, t, u, 0, j + 1, nd, hi, hj, _ => by
    rw [List.flatMap_cons, List.nodup_append] at nd
    simp only [List.getElem?_cons_zero, Option.some.injEq] at hi
    subst hi
    exact fun y hy hu => nd.2.2 y hy y (List.mem_flatMap.2 ⟨u, List.mem_of_getElem? (by simpa using hj), hu⟩) rfl
  | a :: Ts, t, u, i + 1, j + 1, nd, hi, hj, h => by
    rw [List.flatMap_cons, List.nodup_append] at nd
    exact Th.dis nd.2.1 (by simpa using hi) (by simpa using hj) (by omega)
theorem St.disjI {H G : Heap} {t u : Th} {Ts : List Th} (s : St H Ts G) (i j : Nat) (hi : Ts[i]? = some t) (hj : Ts[j]? = some u) (hij : i ≠ j) : ∀ y ∈ t.D, y ∉ u.D := by
  rcases Nat.lt_or_gt_of_ne hij with h | h
  · exact Th.dis s.nd hi hj h
  · exact fun y hy hu => Th.dis s.nd hj hi h y hu hy
theorem St.fresh {H G : Heap} {Ts : List Th} {t : Th} (s : St H Ts G) (i : Nat) (h : Ts[i]? = some t) {q : Nat} (hq : G q = none) : q ∉ t.D := fun hm => t.has (s.get i h) q hm hq
theorem perm_pick {α : Type} : ∀ (Ts : List α) (i : Nat) (hi : i < Ts.length), List.Perm Ts (Ts[i] :: Ts.eraseIdx i)
  | a :: Ts, 0, _ => List.Perm.refl _
  | a :: Ts, i + 1, hi => ((perm_pick Ts i (by simpa using hi)).cons a).trans (List.Perm.swap _ _ _)
theorem perm_set {α : Type} : ∀ (Ts : List α) (i : Nat) (hi : i < Ts.length) (t : α), List.Perm (Ts.set i t) (t :: Ts.eraseIdx i)
  | a :: Ts, 0, _, _ => List.Perm.refl _
  | a :: Ts, i + 1, hi, t => ((perm_set Ts i (by simpa using hi) t).cons a).trans (List.Perm.swap _ _ _)
theorem sub_flat {α β : Type} {f : α → List β} {l m : List α} (h : List.Sublist l m) : List.Sublist (l.flatMap f) (m.flatMap f) := by
  induction h with
  | slnil => exact List.Sublist.refl _
  | cons a _ ih => rw [List.flatMap_cons]; exact ih.trans (List.sublist_append_right _ _)
  | cons_cons a _ ih => rw [List.flatMap_cons, List.flatMap_cons]; exact List.Sublist.append_left ih _
theorem St.pick {H G : Heap} {Ts : List Th} {t : Th} (s : St H Ts G) (i : Nat) (h : Ts[i]? = some t) : St H (t :: Ts.eraseIdx i) G := by
  obtain ⟨hi, rfl⟩ := List.getElem?_eq_some_iff.1 h
  exact s.perm (perm_pick Ts i hi)
theorem St.step {H G G' : Heap} {old rest : List Th} (s : St H (old ++ rest) G) (new : List Th) (hnd : (new.flatMap Th.D).Nodup) (hfr : ∀ t ∈ new, ∀ y ∈ t.D, (∃ u ∈ old, y ∈ u.D) ∨ G y = none)
    (hf : ∀ y b, G y = some b → (∀ u ∈ old, y ∉ u.D) → G' y = some b) (hp : ∀ t ∈ new, t.P G') : St H (new ++ rest) G' := by
  have hs := s.nd
  rw [List.flatMap_append, List.nodup_append] at hs
  have hdis : ∀ u ∈ rest, ∀ y ∈ u.D, ∀ t ∈ old, y ∉ t.D := fun u hu y hy t ht hyt => hs.2.2 y (List.mem_flatMap.2 ⟨t, ht, hyt⟩) y (List.mem_flatMap.2 ⟨u, hu, hy⟩) rfl
  refine ⟨fun y b hb => ?_, ?_, fun u hu y hy => ?_, fun u hu => ?_⟩
  · refine hf y b (s.le y b hb) fun u hu hy => ?_
    rw [s.fr u (List.mem_append_left _ hu) y hy] at hb; cases hb
  · rw [List.flatMap_append, List.nodup_append]
    refine ⟨hnd, hs.2.1, fun a ha b hb e => ?_⟩
    subst e
    obtain ⟨t, ht, hat⟩ := List.mem_flatMap.1 ha
    obtain ⟨u, hu, hau⟩ := List.mem_flatMap.1 hb
    rcases hfr t ht a hat with ⟨v, hv, hav⟩ | hn
    · exact hdis u hu a hau v hv hav
    · exact u.has (s.ok u (List.mem_append_right _ hu)) a hau hn
  · rcases List.mem_append.1 hu with hu | hu
    · rcases hfr u hu y hy with ⟨v, hv, hav⟩ | hn
      · exact s.fr v (List.mem_append_left _ hv) y hav
      · cases hh : H y with
        | none => rfl
        | some b => rw [← hn, s.le y b hh]
    · exact s.fr u (List.mem_append_right _ hu) y hy
  · rcases List.mem_append.1 hu with hu | hu
    · exact hp u hu
    · exact u.loc (s.ok u (List.mem_append_right _ hu)) fun y hy b hb => hf y b hb (hdis u hu y hy)
theorem St.repl {H G G' : Heap} {Ts : List Th} {t : Th} (s : St H Ts G) (i : Nat) (h : Ts[i]? = some t) (t' : Th) (hnd : t'.D.Nodup) (hfr : ∀ y ∈ t'.D, y ∈ t.D ∨ G y = none)
    (hf : ∀ y b, G y = some b → y ∉ t.D → G' y = some b) (hp : t'.P G') : St H (Ts.set i t') G' := by
  obtain ⟨hi, -⟩ := List.getElem?_eq_some_iff.1 h
  have := St.step (old := [t]) (s.pick i h) [t'] (by simpa using hnd) (fun u hu y hy => by
    rw [List.mem_singleton] at hu; subst hu
    rcases hfr y hy with h1 | h1
    · exact .inl ⟨t, by simp, h1⟩
    · exact .inr h1) (fun y b hb hy => hf y b hb (hy t (by simp))) (fun u hu => by rw [List.mem_singleton] at hu; subst hu; exact hp)
  exact this.perm (perm_set Ts i hi t').symm
theorem St.moved {H G : Heap} {Ts : List Th} {q q' : Nat} {b c : List AV} (s : St H Ts G) (i : Nat) (h : Ts[i]? = some (cellT q b)) (hq : G q' = none) : St H (Ts.set i (cellT q' c)) ((G.del q).set q' c) := by
  have hg : G q = some b := s.get i h
  refine s.repl i h (cellT q' c) (by simp [cellT]) (fun y hy => ?_) (fun y bb hb hy => ?_) (Heap.set_same _ _ _)
  · simp only [cellT, List.mem_singleton] at hy; subst hy; exact .inr hq
  · simp only [cellT, List.mem_singleton] at hy
    rw [Heap.set_other (fun e => by rw [e, hq] at hb; cases hb), Heap.del_other hy]; exact hb
theorem St.put {H G : Heap} {Ts : List Th} {q : Nat} {b : List AV} (s : St H Ts G) (i : Nat) (h : Ts[i]? = some (cellT q b)) (c : List AV) : St H (Ts.set i (cellT q c)) (G.set q c) := by
  refine s.repl i h (cellT q c) (by simp [cellT]) (fun y hy => .inl hy) (fun y bb hb hy => ?_) (Heap.set_same _ _ _)
  simp only [cellT, List.mem_singleton] at hy
  rw [Heap.set_other hy]; exact hb
theorem St.sub {H G : Heap} {Ts Us : List Th} (s : St H Ts G) (h : List.Sublist Us Ts) : St H Us G :=
  ⟨s.le, List.Nodup.sublist (sub_flat h) s.nd, fun t ht => s.fr t (h.subset ht), fun t ht => s.ok t (h.subset ht)⟩
theorem St.new {H G : Heap} {Ts : List Th} (s : St H Ts G) : New H G (Ts.flatMap Th.D) := ⟨s.nd, fun y hy => by
  obtain ⟨t, ht, hyt⟩ := List.mem_flatMap.1 hy
  exact s.fr t ht y hyt, s.le⟩
theorem St.wkNone {H G : Heap} {Ts : List Th} (s : St H Ts G) : ∀ y b, H y = some b → ∀ t ∈ Ts, y ∉ t.D := fun y b hb t ht hy => by rw [s.fr t ht y hy] at hb; cases hb
end Go.Sep
namespace Go.Proofs.Ytginibofnkiofaa
open Go Go.Sep Go.Pt
attribute [local irreducible] CallT
def RZ {α : Type} (L : Lay α) (sz z : Nat) (x : AV) (xs : List α) (G : Heap) (D : List Nat) : Prop := (x = .p .nil ∧ xs = [] ∧ D = [z] ∧ G z = some []) ∨ LRow L sz xs x G D
theorem RZ.local {α : Type} {L : Lay α} {sz z : Nat} (hL : L.Local) {x : AV} {xs : List α} {G G' : Heap} {D : List Nat} (h : RZ L sz z x xs G D) (hf : ∀ y ∈ D, ∀ b, G y = some b → G' y = some b) : RZ L sz z x xs G' D := by
  rcases h with ⟨h1, h2, rfl, h3⟩ | h
  · exact .inl ⟨h1, h2, rfl, hf z (by simp) _ h3⟩
  · exact .inr (h.local hL hf)
theorem RZ.has {α : Type} {L : Lay α} {sz z : Nat} (hL : L.Has) {x : AV} {xs : List α} {G : Heap} {D : List Nat} (h : RZ L sz z x xs G D) : ∀ y ∈ D, G y ≠ none := by
  rcases h with ⟨h1, h2, rfl, h3⟩ | h
  · intro y hy; rw [List.mem_singleton.1 hy, h3]; simp
  · exact h.has hL
theorem RZ.row {α : Type} {L : Lay α} {sz z : Nat} {x : AV} {xs : List α} {G : Heap} {D : List Nat} (h : RZ L sz z x xs G D) : ∃ x', AV.wk x x' ∧ LRow L sz xs x' G D := by
  rcases h with ⟨rfl, rfl, rfl, h3⟩ | h
  · exact ⟨.sl z sz 0 0, .nilo _ _ _, z, [], [], rfl, h3, ⟨rfl, rfl⟩, rfl⟩
  · exact ⟨x, .refl _, h⟩
theorem RZ.sl {α : Type} {L : Lay α} {sz z : Nat} {x : AV} {xs : List α} {G : Heap} {D : List Nat} (h : RZ L sz z x xs G D) : x = .p .nil ∨ ∃ q, x = .sl q sz 0 xs.length := by
  rcases h with ⟨h1, _⟩ | ⟨q, cs, D', h1, _⟩
  · exact .inl h1
  · exact .inr ⟨q, h1⟩
def rzT {α : Type} {L : Lay α} (hL : L.Local) (hh : L.Has) (sz z : Nat) (x : AV) (xs : List α) (D : List Nat) : Th := ⟨D, fun G => RZ L sz z x xs G D, fun h f => h.local hL f, fun h => h.has hh⟩
abbrev riT (z : Nat) (x : AV) (xs : List Int) (D : List Nat) : Th := rzT (LPl.local eI) (LPl.has eI) 1 z x xs D
theorem lent {α : Type} {L : Lay α} (hL : L.Local) (hh : L.Has) (sz : Nat) {H G : Heap} {Ts : List Th} {z : Nat} (s : St H Ts G) (i : Nat) (h : Ts[i]? = some (cellT z [])) : St H (Ts.set i (rzT hL hh sz z (.p .nil) [] [z])) G :=
  s.repl i h _ (by simp [rzT]) (fun y hy => .inl hy) (fun y b hb _ => hb) (.inl ⟨rfl, rfl, rfl, s.get i h⟩)
theorem owned_i {H G : Heap} {Ts : List Th} {q : Nat} {l : List Int} (s : St H Ts G) (i : Nat) (h : Ts[i]? = some (cellT q (cP fI l))) : St H (Ts.set i (riT 0 (rowP q l) l [q])) G :=
  s.repl i h _ (by simp [rzT]) (fun y hy => .inl hy) (fun y b hb _ => hb) (.inr (LI_mk' (s.get i h)))
theorem RZ.app {tab : Tab} {t0 t1 e0 e1 sz z : Nat} {d d1 ed : TD} {α : Type} {e : α → List PV} (h1 : tab t0 = some d) (h2 : d.k = .slice e0) (h3 : tab e0 = some ed) (h4 : tab t1 = some d1) (h5 : d1.k = .slice e1) (h6 : ed.size = sz) {bz : Nat} (h7 : ed.bytes = bz)
    (hsz : ∀ a, (e a).length = sz) {H G : Heap} {Ts : List Th} {x y : AV} {xs ys : List α} {D : List Nat} {hL : (LPl e).Local} {hh : (LPl e).Has} (s : St H Ts G) (i : Nat) (hi : Ts[i]? = some (rzT hL hh sz z x xs D)) (hy : y = .p (.sl (ys.map e)))
    (hl : (xs.length + ys.length) * bz ≤ 140737488355328) (hl2 : xs.length + ys.length ≤ 9223372036854775807) {K : AV → Heap → Prop}
    (h : ∀ q' G', G q' = none → St H (Ts.set i (rzT hL hh sz z (.sl q' sz 0 (xs ++ ys).length) (xs ++ ys) [q'])) G' → K (.sl q' sz 0 (xs ++ ys).length) G') : appendV tab t0 t1 x y G (wkK K) := by
  subst hy
  have hrz : RZ (LPl e) sz z x xs G D := s.get i hi
  rcases hrz with ⟨rfl, rfl, rfl, hz⟩ | ⟨q, cs, D', rfl, hq, hll, rfl⟩
  · refine app_nil h1 h2 h3 h4 h5 h6 h7 (.inl rfl) (.inl rfl) (sized_map hsz ys) (by simpa using hl) (by simpa using hl2) fun q' hq' => ?_
    have := h q' _ hq' (s.repl i hi (rzT hL hh sz z (.sl q' sz 0 ([] ++ ys).length) ([] ++ ys) [q']) (by simp [rzT]) (fun y hy => by
      simp only [rzT, List.mem_singleton] at hy; subst hy; exact .inr hq') (G' := G.set q' (cells (ys.map e))) (fun y b hb _ => Heap.le_set hq' y b hb) (.inr ⟨q', _, [], rfl, Heap.set_same _ _ _, LL.plain _, rfl⟩))
    simpa [Go.Sep.own] using this
  · have hq0 : cs = cells (xs.map e) ∧ D' = [] := by
      have key : ∀ (xs : List α) (cs : List AV) (D : List Nat), LL (LPl e) xs cs G D → cs = cells (xs.map e) ∧ D = [] := by
        intro xs
        induction xs with
        | nil => rintro cs D ⟨rfl, rfl⟩; exact ⟨rfl, rfl⟩
        | cons a xs ih =>
          rintro cs D ⟨c1, c2, D1, D2, rfl, rfl, ⟨rfl, rfl⟩, h2⟩
          obtain ⟨rfl, rfl⟩ := ih _ _ h2
          exact ⟨by simp [cells], rfl⟩
      exact key _ _ _ hll
    obtain ⟨rfl, rfl⟩ := hq0
    have := app_own (x := .p (.sl (ys.map e))) (r := q) (es := xs.map e) (fs := ys.map e) (H := G) (K := K) h1 h2 h3 h4 h5 h6 h7 (.inl rfl) hq (sized_map hsz xs) (sized_map hsz ys)
      (by simpa using hl) (by simpa using hl2) fun q' hq' => by
        have := h q' ((G.del q).set q' (cells ((xs ++ ys).map e))) hq' (s.repl i hi (rzT hL hh sz z (.sl q' sz 0 (xs ++ ys).length) (xs ++ ys) [q']) (by simp [rzT]) (fun y hy => by
          simp only [rzT, List.mem_singleton] at hy; subst hy; exact .inr hq') (fun y b hb hy => by
            simp only [rzT, List.mem_singleton] at hy
            rw [Heap.set_other (fun e => by rw [e, hq'] at hb; cases hb), Heap.del_other hy]; exact hb) (.inr ⟨q', _, [], rfl, Heap.set_same _ _ _, LL.plain _, rfl⟩))
        simpa only [Go.Sep.own, List.length_map, List.map_append, List.length_append] using this
    simpa only [Go.Sep.own, List.length_map] using this
end Go.Proofs.Ytginibofnkiofaa
namespace Go.Sep
open Go Go.RowKit
inductive FinK (K : AV → Heap → Prop) : AV → Heap → Prop where
  | done {v : AV} {H : Heap} (h : K v H) : FinK K v H
  | wk {v v' : AV} {H H' : Heap} (h : Wk v H v' H') (k : FinK K v' H') : FinK K v H
  | ghost {v : AV} {H : Heap} (k : ∀ z, H z = none → FinK K v (H.set z [])) : FinK K v H
def RN {α : Type} (L : Lay α) (sz : Nat) (x : AV) (xs : List α) (G : Heap) (D : List Nat) : Prop := (x = .p .nil ∧ xs = [] ∧ D = []) ∨ LRow L sz xs x G D
theorem RN.local {α : Type} {L : Lay α} {sz : Nat} (hL : L.Local) {x : AV} {xs : List α} {G G' : Heap} {D : List Nat} (h : RN L sz x xs G D) (hf : ∀ y ∈ D, ∀ b, G y = some b → G' y = some b) : RN L sz x xs G' D := by
  rcases h with h | h
  · exact .inl h
  · exact .inr (h.local hL hf)
theorem RN.has {α : Type} {L : Lay α} {sz : Nat} (hL : L.Has) {x : AV} {xs : List α} {G : Heap} {D : List Nat} (h : RN L sz x xs G D) : ∀ y ∈ D, G y ≠ none := by
  rcases h with ⟨h1, h2, rfl⟩ | h
  · intro y hy; cases hy
  · exact h.has hL
theorem RN.sl {α : Type} {L : Lay α} {sz : Nat} {x : AV} {xs : List α} {G : Heap} {D : List Nat} (h : RN L sz x xs G D) : x = .p .nil ∨ ∃ q, x = .sl q sz 0 xs.length := by
  rcases h with ⟨h1, _⟩ | ⟨q, cs, D', h1, _⟩
  · exact .inl h1
  · exact .inr ⟨q, h1⟩
def rnT {α : Type} {L : Lay α} (hL : L.Local) (hh : L.Has) (sz : Nat) (x : AV) (xs : List α) (D : List Nat) : Th := ⟨D, fun G => RN L sz x xs G D, fun h f => h.local hL f, fun h => h.has hh⟩
theorem LL.plain' {α : Type} {e : α → List PV} {G : Heap} : ∀ {xs : List α} {cs : List AV} {D : List Nat}, LL (LPl e) xs cs G D → cs = cells (xs.map e) ∧ D = []
  | [], _, _, ⟨h1, h2⟩ => ⟨h1, h2⟩
  | a :: xs, _, _, ⟨c1, c2, D1, D2, e1, e2, h1, h2⟩ => by
    obtain ⟨f1, f2⟩ := LL.plain' h2
    rw [e1, e2, h1.1, h1.2, f1, f2]
    exact ⟨by simp [cells], rfl⟩
theorem RN.app {tab : Tab} {t0 t1 e0 e1 sz : Nat} {d d1 ed : TD} {α : Type} {e : α → List PV} (h1 : tab t0 = some d) (h2 : d.k = .slice e0) (h3 : tab e0 = some ed) (h4 : tab t1 = some d1) (h5 : d1.k = .slice e1) (h6 : ed.size = sz) {bz : Nat} (h7 : ed.bytes = bz)
    (hsz : ∀ a, (e a).length = sz) {H G : Heap} {Ts : List Th} {x y : AV} {xs ys : List α} {D : List Nat} {hL : (LPl e).Local} {hh : (LPl e).Has} (s : St H Ts G) (i : Nat) (hi : Ts[i]? = some (rnT hL hh sz x xs D)) (hy : y = .p (.sl (ys.map e)))
    (hl : (xs.length + ys.length) * bz ≤ 140737488355328) (hl2 : xs.length + ys.length ≤ 9223372036854775807) {K : AV → Heap → Prop}
    (h : ∀ q' G', G q' = none → St H (Ts.set i (rnT hL hh sz (.sl q' sz 0 (xs ++ ys).length) (xs ++ ys) [q'])) G' → K (.sl q' sz 0 (xs ++ ys).length) G') : appendV tab t0 t1 x y G (wkK K) := by
  subst hy
  have hrz : RN (LPl e) sz x xs G D := s.get i hi
  rcases hrz with ⟨rfl, rfl, rfl⟩ | ⟨q, cs, D', rfl, hq, hll, rfl⟩
  · refine app_nil h1 h2 h3 h4 h5 h6 h7 (.inl rfl) (.inl rfl) (sized_map hsz ys) (by simpa using hl) (by simpa using hl2) fun q' hq' => ?_
    have := h q' _ hq' (s.repl i hi (rnT hL hh sz (.sl q' sz 0 ([] ++ ys).length) ([] ++ ys) [q']) (by simp [rnT]) (fun y hy => by
      simp only [rnT, List.mem_singleton] at hy; subst hy; exact .inr hq') (G' := G.set q' (cells (ys.map e))) (fun y b hb _ => Heap.le_set hq' y b hb) (.inr ⟨q', _, [], rfl, Heap.set_same _ _ _, LL.plain _, rfl⟩))
    simpa [Go.Sep.own] using this
  · obtain ⟨rfl, rfl⟩ := LL.plain' hll
    have := app_own (x := .p (.sl (ys.map e))) (r := q) (es := xs.map e) (fs := ys.map e) (H := G) (K := K) h1 h2 h3 h4 h5 h6 h7 (.inl rfl) hq (sized_map hsz xs) (sized_map hsz ys)
      (by simpa using hl) (by simpa using hl2) fun q' hq' => by
        have := h q' ((G.del q).set q' (cells ((xs ++ ys).map e))) hq' (s.repl i hi (rnT hL hh sz (.sl q' sz 0 (xs ++ ys).length) (xs ++ ys) [q']) (by simp [rnT]) (fun y hy => by
          simp only [rnT, List.mem_singleton] at hy; subst hy; exact .inr hq') (fun y b hb hy => by
            simp only [rnT, List.mem_singleton] at hy
            rw [Heap.set_other (fun e => by rw [e, hq'] at hb; cases hb), Heap.del_other hy]; exact hb) (.inr ⟨q', _, [], rfl, Heap.set_same _ _ _, LL.plain _, rfl⟩))
        simpa only [Go.Sep.own, List.length_map, List.map_append, List.length_append] using this
    simpa only [Go.Sep.own, List.length_map] using this
end Go.Sep
namespace Go.Proofs.Ytginibofnkiofaa
open Go Go.Sep Go.Pt
attribute [local irreducible] CallT
def LIn : Lay (List Int) := fun l cs G D => ∃ x, cs = [x] ∧ RN (LPl eI) 1 x l G D
theorem LIn.local : Lay.Local LIn := by
  rintro c cs G G' D ⟨x, e, h⟩ hf
  exact ⟨x, e, h.local (LPl.local eI) hf⟩
theorem LIn.has : Lay.Has LIn := by
  rintro c cs G D ⟨x, e, h⟩
  exact h.has (LPl.has eI)
theorem LIn.size : Lay.Size LIn 1 := by
  rintro c cs G D ⟨x, rfl, h⟩; rfl
abbrev fB (b : Bool) : PV := .bool b
end Go.Proofs.Ytginibofnkiofaa
namespace Go.Proofs.Ytginibofnkiofaa
open Go Go.Sep Go.Pt
attribute [local irreducible] CallT
theorem litT_no {v : List Bool} {n : Int} (h : n ≠ 0) : Go.Pc.litT v (-n) = !Go.Pc.litT v n := by
  unfold Go.Pc.litT
  rw [Int.natAbs_neg]
  by_cases h1 : 0 < n
  · have h2 : ¬ 0 < -n := by omega
    rw [decide_eq_true h1, decide_eq_false h2]
    cases v.getD (n.natAbs - 1) false <;> rfl
  · have h2 : 0 < -n := by omega
    rw [decide_eq_false h1, decide_eq_true h2]
    cases v.getD (n.natAbs - 1) false <;> rfl
theorem resolved {a b : List Int} {n : Int} {v : List Bool} (hn : n ≠ 0) (ga : Go.Pc.goodL 400 a = true) (gb : Go.Pc.goodL 400 b = true) (h : Go.Pc.meets [a, b] v = true) : Go.Pc.meets [reP a b n 400] v = true := by
  simp only [Go.Pc.meets, List.all_cons, List.all_nil, Bool.and_true, Bool.and_eq_true, List.any_eq_true] at h ⊢
  obtain ⟨⟨x, hx, hx2⟩, ⟨y, hy, hy2⟩⟩ := h
  by_cases e : x = n
  · subst e
    refine ⟨y, (reP_mem ga gb _ _).2 ?_, hy2⟩
    have : ¬ y = -x := fun e => by
      rw [e, litT_no hn, hx2] at hy2; cases hy2
    simp [reB, hy, this]
  · exact ⟨x, (reP_mem ga gb _ _).2 (by simp [reB, hx, e]), hx2⟩
theorem goodF_8 {cs : List (List Int)} (hl : cs.length ≤ 1400) (h : ∀ l ∈ cs, l.length ≤ 8 ∧ ∀ x ∈ l, x ≠ 0 ∧ -8 ≤ x ∧ x ≤ 8) : Go.Pc.goodF 8 cs = true := by
  simp only [Go.Pc.goodF, Bool.and_eq_true, decide_eq_true_eq, List.all_eq_true]
  refine ⟨⟨by decide, hl⟩, fun l hm => ?_⟩
  simp only [Go.Pc.goodL, Bool.and_eq_true, decide_eq_true_eq, List.all_eq_true]
  obtain ⟨h1, h2⟩ := h l hm
  refine ⟨h1, fun x hx => ?_⟩
  have := h2 x hx
  exact ⟨this.1, by simp only [Go.Pc.inR, Bool.and_eq_true, decide_eq_true_eq]; omega⟩
theorem clause_spec {code : List Int} (hc : Code code) {k : Nat} {seed : Int} (hk : k ≤ 800000000) {H : Heap} {r : Nat} (hr : H r = some (cur code k seed)) {K : AV → Heap → Prop}
    (h : ∀ (xs : List Int) q k' seed', xs.length ≤ 6 → (∀ x ∈ xs, x ≠ 0 ∧ -8 ≤ x ∧ x ≤ 8) → k ≤ k' → k' ≤ k + 100 → H q = none → K (rowP q xs) ((H.set r (cur code k' seed')).set q (cP fI xs))) : CallT Try.prog 34 [.ptr r 0, I 8, I 6] H K := by
  refine CallT.ghost W34_hb fun q0 hq0 => ?_
  have hq0r : q0 ≠ r := by rintro rfl; rw [hr] at hq0; cases hq0
  refine W34_ok ?_; simp (maxSteps := 1000000) (disch := first | assumption | (apply ν6; assumption)) only [W34, vz, vu, vv, eqS, eF_, ↓c1_, ↓c2_, tabs, reduceCtorEq, ι5, ↓reduceIte, ν1, ν2, ν3, ν4, ν5, ι1, ι2, ι3, ι4]
  refine pick_spec hc 7 (by omega) (k := k) (by omega) (by rw [Heap.set_other hq0r.symm]; exact hr) fun n0 k1 s1 hx0 hx1 hk1 hk2 => ?_
  obtain ⟨n0, rfl⟩ : ∃ n : Nat, n0 = (n : Int) := ⟨n0.toNat, by omega⟩
  refine L34_0_rule (n0, ([] : List Int), q0, k1, s1) (fun s => rowP s.2.2.1 s.2.1) (fun s => I s.1) (fun s => (H.set r (cur code s.2.2.2.1 s.2.2.2.2)).set s.2.2.1 (cP fI s.2.1))
    (fun s => s.1 ≤ n0 ∧ H s.2.2.1 = none ∧ s.2.1.length + s.1 ≤ n0 ∧ (∀ x ∈ s.2.1, x ≠ 0 ∧ -8 ≤ x ∧ x ≤ 8) ∧ k1 ≤ s.2.2.2.1 ∧ s.2.2.2.1 + 4 * s.1 ≤ k1 + 4 * n0) (fun s => s.1)
    ⟨⟨by simp, hq0, by simp, by simp, by simp, by simp⟩, .nilo _ _ _, .refl _, by (intro y b hy; simp only [Heap.set, Heap.del] at hy ⊢; (repeat' split at hy) <;> (repeat' split) <;> simp_all [cells])⟩ ?_
  rintro ⟨n, xs, q, k2, s2⟩ ⟨hn, hq, hxl, hxm, hk3, hk4⟩
  dsimp only at hn hq hxl hxm hk3 hk4
  have hqr : q ≠ r := by rintro rfl; rw [hr] at hq; cases hq
  have e7 : 0 < n → IntKind.i64.wrap ((n : Int) - 1) = ((n - 1 : Nat) : Int) := fun h => by rw [i64_id (by omega) (by omega)]; omega
  (try simp (maxSteps := 1000000) (disch := first | assumption | (apply ν6; assumption)) only [vz, vu, vv, eqS, eF_, ↓c1_, ↓c2_, tabs, reduceCtorEq, ι5, ↓reduceIte, ν1, ν2, ν3, ν4, ν5, ι1, ι2, ι3, ι4, B34_0])
  refine ⟨fun h1 => ?_, fun h1 => ?_⟩
  · have e7' := e7 (by omega)
    have l2 : Pu Try.prog 53 [I 8] (I 8) := by
      refine Pu.of fun H => ?_
      refine W53_ok ?_; simp (maxSteps := 1000000) (disch := first | assumption | (apply ν6; assumption)) only [W53, vz, vu, vv, eqS, eF_, ↓c1_, ↓c2_, tabs, reduceCtorEq, ι5, ↓reduceIte, ν1, ν2, ν3, ν4, ν5, ι1, ι2, ι3, ι4]
      intro h; omega
    refine Pu.use l2 ?_
    refine pick_spec hc 8 (by omega) (k := k2) (by omega) (r := r) (by rw [Heap.set_other hqr.symm, Heap.set_same]) fun x k3 s3 hy0 hy1 hk5 hk6 => ?_
    have ex : IntKind.i64.wrap (1 + x) = 1 + x := i64_id (by omega) (by omega)
    (try simp (maxSteps := 1000000) (disch := first | assumption | (apply ν6; assumption)) only [vz, vu, vv, eqS, eF_, ↓c1_, ↓c2_, tabs, reduceCtorEq, ι5, ↓reduceIte, ν1, ν2, ν3, ν4, ν5, ι1, ι2, ι3, ι4, ex])
    refine one_spec hc 2 (by omega) (k := k3) (by omega) (by rw [Heap.set_other hqr.symm, Heap.set_same]) fun b k4 s4 hk7 hk8 => ?_
    have nx : ∀ x : Int, x ≠ 0 → -8 ≤ x → x ≤ 8 → J34_1 K (fun w7 w8 H' => ∃ s' : Nat × List Int × Nat × Nat × Int, (s'.1 ≤ n0 ∧ H s'.2.2.1 = none ∧ s'.2.1.length + s'.1 ≤ n0 ∧ (∀ x ∈ s'.2.1, x ≠ 0 ∧ -8 ≤ x ∧ x ≤ 8) ∧ k1 ≤ s'.2.2.2.1 ∧ s'.2.2.2.1 + 4 * s'.1 ≤ k1 + 4 * n0) ∧ s'.1 < n ∧ AV.wk w7 (rowP s'.2.2.1 s'.2.1) ∧ AV.wk w8 (I s'.1) ∧ Heap.le ((H.set r (cur code s'.2.2.2.1 s'.2.2.2.2)).set s'.2.2.1 (cP fI s'.2.1)) H') (.ptr r 0) (I 8) (rowP q xs) (I n) (I x) ((H.set r (cur code k4 s4)).set q (cP fI xs)) := by
      intro x a1 a2 a3
      have hqq : (H.set r (cur code k4 s4)) q = none := by rw [Heap.set_other hqr]; exact hq
      (try simp (maxSteps := 1000000) (disch := first | assumption | (apply ν6; assumption)) only [vz, vu, vv, eqS, eF_, ↓c1_, ↓c2_, tabs, reduceCtorEq, ι5, ↓reduceIte, ν1, ν2, ν3, ν4, ν5, ι1, ι2, ι3, ι4, J34_1])
      refine push_topI hqq (by omega) fun q' hq' => ?_
      have hq'' : H q' = none ∧ q' ≠ r := by
        have : q' ≠ r := fun e => by rw [e, Heap.set_same] at hq'; cases hq'
        rw [Heap.set_other this] at hq'; exact ⟨hq', this⟩
      (try simp (maxSteps := 1000000) (disch := first | assumption | (apply ν6; assumption)) only [vz, vu, vv, eqS, eF_, ↓c1_, ↓c2_, tabs, reduceCtorEq, ι5, ↓reduceIte, ν1, ν2, ν3, ν4, ν5, ι1, ι2, ι3, ι4, e7'])
      refine ⟨(n - 1, xs ++ [x], q', k4, s4), ⟨by simp only; omega, hq''.1, by simp only [List.length_append, List.length_cons, List.length_nil]; omega, fun y hy => ?_, by simp only; omega, by simp only; omega⟩, by simp only; omega, by simp only [List.length_append, List.length_cons, List.length_nil]; exact .refl _, .refl _, Heap.le_refl _⟩
      rcases List.mem_append.1 hy with h | h
      · exact hxm y h
      · rw [List.mem_singleton.1 h]; exact ⟨a1, a2, a3⟩
    have em : IntKind.i64.wrap (0 - (1 + x)) = -(1 + x) := by rw [i64_id (by omega) (by omega)]; omega
    (try simp (maxSteps := 1000000) (disch := first | assumption | (apply ν6; assumption)) only [vz, vu, vv, eqS, eF_, ↓c1_, ↓c2_, tabs, reduceCtorEq, ι5, ↓reduceIte, ν1, ν2, ν3, ν4, ν5, ι1, ι2, ι3, ι4, em])
    exact ⟨fun _ => nx _ (by clear nx; omega) (by clear nx; omega) (by clear nx; omega), fun _ => nx _ (by clear nx; omega) (by clear nx; omega) (by clear nx; omega)⟩
  · have : n = 0 := by omega
    subst this
    exact h xs q k2 s2 (by omega) hxm (by omega) (by omega) hq
theorem numberOf_spec (bs : List Int) (hb : ∀ b ∈ bs, 0 ≤ b ∧ b < 256) (hl : bs.length ≤ 4194304) {H : Heap} {K : AV → Heap → Prop} (h : ∀ n : Int, 0 ≤ n → n < 1000003 → K (I n) H) : CallT Try.prog 17 [.p (.sl (bs.map e8))] H K := by
  refine CallT.fin ?_
  refine W17_ok ?_; simp (maxSteps := 1000000) (disch := first | assumption | (apply ν6; assumption)) only [W17, vz, vu, vv, eqS, eF_, ↓c1_, ↓c2_, tabs, reduceCtorEq, ι5, ↓reduceIte, ν1, ν2, ν3, ν4, ν5, ι1, ι2, ι3, ι4]
  refine L17_0_rule ((0 : Nat), (0 : Int)) (fun s => I s.2) (fun s => I s.1) (fun _ => H) (fun s => s.1 ≤ bs.length ∧ 0 ≤ s.2 ∧ s.2 < 1000003) (fun s => bs.length - s.1) ⟨⟨by simp, by simp, by simp⟩, .refl _, .refl _, Heap.le_refl _⟩ ?_
  rintro ⟨i, n⟩ ⟨hi, h0, h1⟩
  dsimp only at hi h0 h1
  have e5 : IntKind.i64.wrap ((i : Int) + 1) = ((i + 1 : Nat) : Int) := by rw [i64_id (by omega) (by omega)]; simp
  (try simp (maxSteps := 1000000) (disch := first | assumption | (apply ν6; assumption)) only [vz, vu, vv, eqS, eF_, ↓c1_, ↓c2_, tabs, reduceCtorEq, ι5, ↓reduceIte, ν1, ν2, ν3, ν4, ν5, ι1, ι2, ι3, ι4, B17_0, e5])
  refine ⟨fun h2 => ?_, fun h2 => wkK.keep (h n h0 h1)⟩
  have hbd := getD_all (p := fun b : Int => 0 ≤ b ∧ b < 256) (d := default) hb (i := i) (by omega)
  generalize bs.getD i default = x at hbd ⊢
  have w1 : IntKind.i64.wrap (31 * n) = 31 * n := i64_id (by omega) (by omega)
  have w2 : IntKind.i64.wrap x = x := i64_id (by omega) (by omega)
  have w3 : IntKind.i64.wrap (31 * n + x) = 31 * n + x := i64_id (by omega) (by omega)
  rw [w1, w2, w3]
  have m1 := Int.tmod_nonneg (a := 31 * n + x) 1000003 (by omega)
  have m2 := Int.tmod_lt_of_pos (31 * n + x) (show (0 : Int) < 1000003 by omega)
  have w4 : IntKind.i64.wrap ((31 * n + x).tmod 1000003) = (31 * n + x).tmod 1000003 := i64_id (by omega) (by omega)
  exact ⟨by omega, by omega, by omega, (i + 1, (31 * n + x).tmod 1000003), ⟨by simp only; omega, m1, m2⟩, by simp only; omega, .refl _, .refl _⟩
theorem wk_two {H G : Heap} {Ts : List Th} {z1 z2 : Nat} {x y : AV} {l m : List Int} {D1 D2 : List Nat} (s : St H Ts G) (i j : Nat) (hi : Ts[i]? = some (riT z1 x l D1)) (hj : Ts[j]? = some (riT z2 y m D2)) (hij : i ≠ j) (c : AV) :
    ∃ G', Wk (.tup [x, y, c]) G (.tup [Is l, Is m, c]) G' ∧ ∀ w, w ∉ D1 → w ∉ D2 → G' w = G w := by
  obtain ⟨x', hx, lx⟩ := (s.get i hi : RZ (LPl eI) 1 z1 x l G D1).row
  obtain ⟨y', hy, ly⟩ := (s.get j hj : RZ (LPl eI) 1 z2 y m G D2).row
  obtain ⟨q1, c1, E1, rfl, hq1, ll1, rfl⟩ := lx
  obtain ⟨q2, c2, E2, rfl, hq2, ll2, rfl⟩ := ly
  obtain ⟨rfl, rfl⟩ := LL.plain' ll1
  obtain ⟨rfl, rfl⟩ := LL.plain' ll2
  have hne : q2 ≠ q1 := fun e => s.disjI i j hi hj hij q1 (by simp [rzT]) (by simp [rzT, e])
  have f1 : FrzR q1 1 (l.map eI) (.tup [.sl q1 1 0 l.length, .sl q2 1 0 m.length, c]) (.tup [Is l, .sl q2 1 0 m.length, c]) := by
    have : FrzR q1 1 (l.map eI) (.sl q1 1 0 (l.map eI).length) (.p (.sl (l.map eI))) := .here
    rw [List.length_map] at this
    exact .tup (.cons this (.cons (.same _) (.cons (.same _) .nil)))
  have f2 : FrzR q2 1 (m.map eI) (.tup [Is l, .sl q2 1 0 m.length, c]) (.tup [Is l, Is m, c]) := by
    have : FrzR q2 1 (m.map eI) (.sl q2 1 0 (m.map eI).length) (.p (.sl (m.map eI))) := .here
    rw [List.length_map] at this
    exact .tup (.cons (.same _) (.cons this (.cons (.same _) .nil)))
  have w1 : Wk (.tup [x, y, c]) G (.tup [.sl q1 1 0 l.length, .sl q2 1 0 m.length, c]) G := .val (wk_tup ⟨hx, hy, .refl _, trivial⟩)
  have w2 := Wk.frz (sz := 1) (by omega) hq1 (sized_map (f := eI) (fun _ => rfl) l) f1
  have w3 := Wk.frz (H := G.del q1) (sz := 1) (by omega) (by rw [Heap.del_other hne]; exact hq2) (sized_map (f := eI) (fun _ => rfl) m) f2
  refine ⟨_, .trans w1 (.trans w2 w3), fun w h1 h2 => ?_⟩
  rw [Heap.del_other (fun e => h2 (by simp [e])), Heap.del_other (fun e => h1 (by simp [e]))]
theorem DrawResolve_spec {code : List Int} (hc : Code code) {H : Heap} {K : AV → Heap → Prop} (h : ∀ a b n, (a.length ≤ 8 ∧ ∀ x ∈ a, x ≠ 0 ∧ -8 ≤ x ∧ x ≤ 8) → (b.length ≤ 8 ∧ ∀ x ∈ b, x ≠ 0 ∧ -8 ≤ x ∧ x ≤ 8) → -1000 ≤ n ∧ n ≤ 1000 → K (.tup [Is a, Is b, I n]) H) : CallT Try.prog 14 [.p (.sl (code.map e8))] H K := by
  refine CallT.fin ?_
  refine W14_ok ?_; simp (maxSteps := 1000000) (disch := first | assumption | (apply ν6; assumption)) only [W14, vz, vu, vv, eqS, eF_, ↓c1_, ↓c2_, tabs, reduceCtorEq, ι5, ↓reduceIte, ν1, ν2, ν3, ν4, ν5, ι1, ι2, ι3, ι4]
  intro r hr
  have st := (St.nil H).cell hr (cur code 0 0)
  have ec : H.set r [AV.p (PV.sl (List.map e8 code)), AV.p (PV.int IntKind.i64 0), AV.p (PV.int IntKind.u64 0)] = H.set r (cur code 0 0) := rfl
  rw [ec]
  generalize H.set r (cur code 0 0) = G at st ⊢
  clear ec hr
  refine pick_spec hc 4 (by omega) (k := 0) (by omega) (st.get 0 rfl) fun x1 k1 s1 hx0 hx1 hk1 hk2 => ?_
  replace st := st.put 0 rfl (cur code k1 s1)
  generalize G.set r (cur code k1 s1) = G1 at st ⊢
  have e1 : IntKind.i64.wrap (1 + x1) = 1 + x1 := i64_id (by omega) (by omega)
  have e2 : IntKind.i64.wrap (0 - (1 + x1)) = -(1 + x1) := by rw [i64_id (by omega) (by omega)]; omega
  (try simp (maxSteps := 1000000) (disch := first | assumption | (apply ν6; assumption)) only [vz, vu, vv, eqS, eF_, ↓c1_, ↓c2_, tabs, reduceCtorEq, ι5, ↓reduceIte, ν1, ν2, ν3, ν4, ν5, ι1, ι2, ι3, ι4, e1, e2])
  refine clause_spec hc (k := k1) (by omega) (st.get 0 rfl) fun a q1 k2 s2 la ma hk3 hk4 hq1 => ?_
  have ner : ∀ {G : Heap} {q : Nat} {k : Nat} {s : Int}, G r = some (cur code k s) → G q = none → q ≠ r := fun h1 h2 e => by rw [e, h1] at h2; cases h2
  have n1 := ner (st.get 0 rfl) hq1
  replace st := st.put 0 rfl (cur code k2 s2)
  have hq1' : (G1.set r (cur code k2 s2)) q1 = none := by rw [Heap.set_other n1]; exact hq1
  generalize G1.set r (cur code k2 s2) = G2 at st hq1' ⊢
  refine push_topI hq1' (by omega) fun q2 hq2 => ?_
  obtain ⟨A, hA⟩ : ∃ A, a ++ [1 + x1] = A := ⟨_, rfl⟩
  have lA : A.length ≤ 8 := by rw [← hA]; simp; omega
  have mA : ∀ x ∈ A, x ≠ 0 ∧ -8 ≤ x ∧ x ≤ 8 := fun x hx => by
    rw [← hA] at hx
    rcases List.mem_append.1 hx with h | h
    · exact ma x h
    · rw [List.mem_singleton.1 h]; omega
  rw [hA]
  replace st := st.cell hq2 (cP fI A)
  generalize G2.set q2 (cP fI A) = G3 at st ⊢
  clear hq1 hq1' hq2 n1
  refine clause_spec hc (k := k2) (by omega) (st.get 1 rfl) fun b q3 k3 s3 lb mb hk5 hk6 hq3 => ?_
  have n3 := ner (st.get 1 rfl) hq3
  replace st := st.put 1 rfl (cur code k3 s3)
  have hq3' : (G3.set r (cur code k3 s3)) q3 = none := by rw [Heap.set_other n3]; exact hq3
  generalize G3.set r (cur code k3 s3) = G4 at st hq3' ⊢
  refine push_topI hq3' (by omega) fun q4 hq4 => ?_
  obtain ⟨C, hC⟩ : ∃ C, b ++ [-(1 + x1)] = C := ⟨_, rfl⟩
  have lC : C.length ≤ 8 := by rw [← hC]; simp; omega
  have mC : ∀ x ∈ C, x ≠ 0 ∧ -8 ≤ x ∧ x ≤ 8 := fun x hx => by
    rw [← hC] at hx
    rcases List.mem_append.1 hx with h | h
    · exact mb x h
    · rw [List.mem_singleton.1 h]; omega
  rw [hC]
  replace st := st.cell hq4 (cP fI C)
  generalize G4.set q4 (cP fI C) = G5 at st ⊢
  clear hq3 hq3' hq4 n3
  refine pick_spec hc 20 (by omega) (k := k3) (by omega) (st.get 2 rfl) fun x2 k4 s4 hy0 hy1 hk7 hk8 => ?_
  replace st := st.put 2 rfl (cur code k4 s4)
  generalize G5.set r (cur code k4 s4) = G6 at st ⊢
  (try simp (maxSteps := 1000000) (disch := first | assumption | (apply ν6; assumption)) only [vz, vu, vv, eqS, eF_, ↓c1_, ↓c2_, tabs, reduceCtorEq, ι5, ↓reduceIte, ν1, ν2, ν3, ν4, ν5, ι1, ι2, ι3, ι4])
  refine ⟨by omega, ?_⟩
  have hd : 0 ≤ x2.tdiv 19 ∧ x2.tdiv 19 ≤ 100 := by
    rw [Int.tdiv_eq_ediv_of_nonneg hy0]; omega
  have e3 : IntKind.i64.wrap (x2.tdiv 19) = x2.tdiv 19 := i64_id (by omega) (by omega)
  have e4 : IntKind.i64.wrap (1 + x1 + x2.tdiv 19) = 1 + x1 + x2.tdiv 19 := i64_id (by omega) (by omega)
  first | rw [e3, e4] | rw [e4]
  have st2 := owned_i (owned_i st 0 rfl) 1 rfl
  obtain ⟨G7, w, fr⟩ := wk_two st2 1 0 rfl rfl (by decide) (I (1 + x1 + x2.tdiv 19))
  refine ⟨_, _, .trans w (.forget (H' := H) fun y bb hb => ?_), h A C _ ⟨lA, mA⟩ ⟨lC, mC⟩ ⟨by omega, by omega⟩⟩
  rw [fr y (st2.wkNone y bb hb _ (List.mem_of_getElem? (i := 1) rfl)) (st2.wkNone y bb hb _ (List.mem_of_getElem? (i := 0) rfl))]
  exact st2.le y bb hb
end Go.Proofs.Ytginibofnkiofaa
namespace Go.Proofs.Ytginibofnkiofaa
open Go Go.Sep Go.Pt
attribute [local irreducible] CallT
theorem bigR (a b : List Int) : Pu Try.prog 5 [.p (.sl (a.map e8)), .p (.sl (b.map e8))] (B (decide (1048576 < a.length + b.length))) := by
  refine Pu.of fun H => ?_
  refine W5_ok ?_; simp (maxSteps := 1000000) (disch := first | assumption | (apply ν6; assumption)) only [W5, vz, vu, vv, eqS, eF_, ↓c1_, ↓c2_, tabs, reduceCtorEq, ι5, ↓reduceIte, ν1, ν2, ν3, ν4, ν5, ι1, ι2, ι3, ι4]
  refine ⟨fun h => ?_, fun h => ?_⟩
  · have : 1048576 < a.length + b.length := by omega
    simp [this]
  · have hw : IntKind.i64.wrap (1048576 - ↑a.length) = 1048576 - ↑a.length := i64_id (by omega) (by omega)
    rw [hw]
    congr 2
    apply decide_eq_decide.2
    omega
theorem sameIntsR (xs : List Int) (hl : xs.length ≤ 1000000000) : Pu Try.prog 9 [Is xs, Is xs] (B true) := by
  refine Pu.of fun H => ?_
  refine W9_ok ?_; simp (maxSteps := 1000000) (disch := first | assumption | (apply ν6; assumption)) only [W9, vz, vu, vv, eqS, eF_, ↓c1_, ↓c2_, tabs, reduceCtorEq, ι5, ↓reduceIte, ν1, ν2, ν3, ν4, ν5, ι1, ι2, ι3, ι4]
  refine L9_0_rule (0 : Nat) (fun i => I i) (fun _ => H) (fun i => i ≤ xs.length) (fun i => xs.length - i) ⟨by omega, .refl _, Heap.le_refl _⟩ ?_
  rintro i hi
  have e5 : IntKind.i64.wrap ((i : Int) + 1) = ((i + 1 : Nat) : Int) := by rw [i64_id (by omega) (by omega)]; simp
  (try simp (maxSteps := 1000000) (disch := first | assumption | (apply ν6; assumption)) only [vz, vu, vv, eqS, eF_, ↓c1_, ↓c2_, tabs, reduceCtorEq, ι5, ↓reduceIte, ν1, ν2, ν3, ν4, ν5, ι1, ι2, ι3, ι4, B9_0, e5])
  intro h
  exact ⟨by omega, by omega, by omega, by omega, i + 1, by omega, by omega, .refl _⟩
theorem MeetsR_row (names : Int) (cs : List (List Int)) (v : List Bool) (hg : Go.Pc.goodF names cs = true) (hc : ∀ l ∈ cs, l.length ≤ 1000000) (hv : (v.length : Int) = names) {q : Nat} {G : Heap} (hq : G q = some (cP fB v)) {n : Nat} (hn : n = v.length) {K : AV → Heap → Prop}
    (h : K (.tup [B (Go.Pc.meets cs v), B true]) G) : CallT Try.prog 18 [aF names cs, .sl q 1 0 n] G K := by
  subst hn
  have hn := goodF_names hg
  have := Meets_spec names cs v (by omega) hc (by omega)
  rw [hg, decide_eq_true hv, Bool.true_and, Bool.true_and] at this
  refine Pu.thaw this (.tup2 (.bool _) (.bool _)) (Wk.frz (r := q) (sz := 1) (es := v.map fun b => [fB b]) (v' := .tup [aF names cs, vP fB v]) (by omega) (by rw [flat_P]; exact hq) (szP _ _) (.tup (.cons (.same _) (.cons frz_row .nil)))) h
theorem FnResolved_true {code more : List Int} (hb : ∀ b ∈ code, 0 ≤ b ∧ b < 256) (hb2 : ∀ b ∈ more, 0 ≤ b ∧ b < 256) : Pu Try.prog 4 [.p (.sl (code.map e8)), .p (.sl (more.map e8))] (B true) := by
  refine Pu.of fun H => ?_
  refine CallT.ghost W4_hb fun q0 hq0 => ?_
  have hle0 : Heap.le H (H.set q0 []) := Heap.le_set hq0
  refine W4_ok ?_; simp (maxSteps := 1000000) (disch := first | assumption | (apply ν6; assumption)) only [W4, vz, vu, vv, eqS, eF_, ↓c1_, ↓c2_, tabs, reduceCtorEq, ι5, ↓reduceIte, ν1, ν2, ν3, ν4, ν5, ι1, ι2, ι3, ι4]
  refine Pu.use (bigR code more) ?_
  (try simp (maxSteps := 1000000) (disch := first | assumption | (apply ν6; assumption)) only [vz, vu, vv, eqS, eF_, ↓c1_, ↓c2_, tabs, reduceCtorEq, ι5, ↓reduceIte, ν1, ν2, ν3, ν4, ν5, ι1, ι2, ι3, ι4])
  refine ⟨fun h => hle0, fun hsz => ?_⟩
  have hc : Code code := ⟨hb, by omega⟩
  refine DrawResolve_spec hc fun a b n ⟨la, ma⟩ ⟨lb, mb⟩ hn => ?_
  have ri := ResolveOn_impl a b n (by omega) (by omega) (by omega)
  have rr := ResolveOn_ref a b n (by omega) (by omega) (by omega)
  have rl : (reR a b n).1.length ≤ 8 := by
    unfold reR
    split
    · rename_i h; rw [Bool.and_eq_true, decide_eq_true_eq] at h; exact h.2
    · simp
  obtain ⟨r, hr⟩ : ∃ r, (reR a b n).1 = r := ⟨_, rfl⟩
  obtain ⟨ok, hok⟩ : ∃ r, (reR a b n).2 = r := ⟨_, rfl⟩
  rw [hr, hok] at ri rr
  rw [hr] at rl
  (try simp (maxSteps := 1000000) (disch := first | assumption | (apply ν6; assumption)) only [vz, vu, vv, eqS, eF_, ↓c1_, ↓c2_, tabs, reduceCtorEq, ι5, ↓reduceIte, ν1, ν2, ν3, ν4, ν5, ι1, ι2, ι3, ι4])
  refine Pu.use ri ?_
  (try simp (maxSteps := 1000000) (disch := first | assumption | (apply ν6; assumption)) only [vz, vu, vv, eqS, eF_, ↓c1_, ↓c2_, tabs, reduceCtorEq, ι5, ↓reduceIte, ν1, ν2, ν3, ν4, ν5, ι1, ι2, ι3, ι4])
  refine Pu.use rr ?_
  (try simp (maxSteps := 1000000) (disch := first | assumption | (apply ν6; assumption)) only [vz, vu, vv, eqS, eF_, ↓c1_, ↓c2_, tabs, reduceCtorEq, ι5, ↓reduceIte, ν1, ν2, ν3, ν4, ν5, ι1, ι2, ι3, ι4])
  refine Pu.use (sameIntsR r (by omega)) ?_
  cases ok
  · (try simp (maxSteps := 1000000) (disch := first | assumption | (apply ν6; assumption)) only [vz, vu, vv, eqS, eF_, ↓c1_, ↓c2_, tabs, reduceCtorEq, ι5, ↓reduceIte, ν1, ν2, ν3, ν4, ν5, ι1, ι2, ι3, ι4])
    exact hle0
  (try simp (maxSteps := 1000000) (disch := first | assumption | (apply ν6; assumption)) only [vz, vu, vv, eqS, eF_, ↓c1_, ↓c2_, tabs, reduceCtorEq, ι5, ↓reduceIte, ν1, ν2, ν3, ν4, ν5, ι1, ι2, ι3, ι4])
  have hg : (reOk a b n = true ∧ (reP a b n 400).length ≤ 8) ∧ r = reP a b n 400 := by
    unfold reR at hr hok
    split at hok
    · rename_i h
      rw [if_pos h] at hr
      rw [Bool.and_eq_true, decide_eq_true_eq] at h
      exact ⟨h, hr.symm⟩
    · cases hok
  obtain ⟨⟨gok, gl⟩, rfl⟩ := hg
  simp only [reOk, Bool.and_eq_true, decide_eq_true_eq] at gok
  obtain ⟨gn, ga, gb, gna, gnb⟩ := gok
  have mr : ∀ x ∈ reP a b n 400, x ≠ 0 ∧ -8 ≤ x ∧ x ≤ 8 := fun x hx => by
    have := (reP_mem ga gb n x).1 hx
    simp only [reB, Bool.or_eq_true, Bool.and_eq_true, decide_eq_true_eq] at this
    rcases this with h | h
    · exact ma x h.1
    · exact mb x h.1
  have g2 : Go.Pc.goodF 8 [a, b] = true := goodF_8 (by simp) (fun l hl => by
    rcases List.mem_cons.1 hl with h | h
    · rw [h]; exact ⟨la, ma⟩
    · rw [List.mem_singleton.1 h]; exact ⟨lb, mb⟩)
  have g1 : Go.Pc.goodF 8 [reP a b n 400] = true := goodF_8 (by simp) (fun l hl => by rw [List.mem_singleton.1 hl]; exact ⟨gl, mr⟩)
  have hres := fun v => resolved (v := v) (by omega : n ≠ 0) ga gb
  generalize reP a b n 400 = R at g1 gl mr hres rl ⊢
  refine L4_0_rule (([] : List Bool), q0) (fun s => rowP s.2 s.1) (fun s => I s.1.length) (fun s => H.set s.2 (cP fB s.1)) (fun s => s.1.length ≤ 8 ∧ H s.2 = none) (fun s => 8 - s.1.length) ⟨⟨by simp, hq0⟩, .nilo _ _ _, .refl _, Heap.le_refl _⟩ ?_
  rintro ⟨vs, q⟩ ⟨hv, hq⟩
  dsimp only at hv hq
  have e5 : IntKind.i64.wrap ((vs.length : Int) + 1) = ((vs.length + 1 : Nat) : Int) := by rw [i64_id (by omega) (by omega)]; simp
  (try simp (maxSteps := 1000000) (disch := first | assumption | (apply ν6; assumption)) only [vz, vu, vv, eqS, eF_, ↓c1_, ↓c2_, tabs, reduceCtorEq, ι5, ↓reduceIte, ν1, ν2, ν3, ν4, ν5, ι1, ι2, ι3, ι4, B4_0, e5])
  refine ⟨fun h1 => ?_, fun h1 => ?_⟩
  · refine numberOf_spec more hb2 (by omega) fun m hm0 hm1 => ?_
    (try simp (maxSteps := 1000000) (disch := first | assumption | (apply ν6; assumption)) only [vz, vu, vv, eqS, eF_, ↓c1_, ↓c2_, tabs, reduceCtorEq, ι5, ↓reduceIte, ν1, ν2, ν3, ν4, ν5, ι1, ι2, ι3, ι4])
    refine ⟨by rw [IntKind.wrap_u64]; omega, ?_⟩
    generalize decide (bitsI BinOp.and IntKind.i64 (m.fdiv (2 ^ min (IntKind.u64.wrap (vs.length : Int)).toNat IntKind.i64.bits)) 1 = 1) = bt
    refine lit1 tab_39 rfl tab_4 ⟨rfl, rfl⟩ ?_
    refine app_row (f := fB) (ys := [bt]) tab_39 rfl tab_4 rfl (by decide) (Heap.set_same _ _ _) (by simp; omega) fun q' hq' => ?_
    have hqq : q' ≠ q := fun e => by rw [e, Heap.set_same] at hq'; cases hq'
    rw [Heap.set_other hqq] at hq'
    (try simp (maxSteps := 1000000) (disch := first | assumption | (apply ν6; assumption)) only [vz, vu, vv, eqS, eF_, ↓c1_, ↓c2_, tabs, reduceCtorEq, ι5, ↓reduceIte, ν1, ν2, ν3, ν4, ν5, ι1, ι2, ι3, ι4, e5])
    refine ⟨(vs ++ [bt], q'), ⟨by simp only [List.length_append, List.length_cons, List.length_nil]; omega, hq'⟩, by simp only [List.length_append, List.length_cons, List.length_nil]; omega, by simp only [List.length_append, List.length_cons, List.length_nil]; exact .refl _, by simp only [List.length_append, List.length_cons, List.length_nil]; exact .refl _, ?_⟩
    simp only
    refine fun y b hy => ?_
    by_cases e : y = q'
    · subst e; rw [Heap.set_same] at hy ⊢; exact hy
    · rw [Heap.set_other e] at hy
      have e2 : y ≠ q := fun e => by rw [e, hq] at hy; cases hy
      rw [Heap.set_other e, Heap.del_other e2, Heap.set_other e2]; exact hy
  · have h8 : vs.length = 8 := by omega
    have hle : Heap.le H (H.set q (cP fB vs)) := Heap.le_set hq
    refine lit2 tab_24 rfl tab_28 ⟨rfl, rfl⟩ ?_
    (try simp (maxSteps := 1000000) (disch := first | assumption | (apply ν6; assumption)) only [vz, vu, vv, eqS, eF_, ↓c1_, ↓c2_, tabs, reduceCtorEq, ι5, ↓reduceIte, ν1, ν2, ν3, ν4, ν5, ι1, ι2, ι3, ι4])
    refine MeetsR_row 8 [a, b] vs g2 (fun l hl => ?_) (by omega) (Heap.set_same _ _ _) rfl ?_
    · rcases List.mem_cons.1 hl with h | h
      · rw [h]; omega
      · rw [List.mem_singleton.1 h]; omega
    (try simp (maxSteps := 1000000) (disch := first | assumption | (apply ν6; assumption)) only [vz, vu, vv, eqS, eF_, ↓c1_, ↓c2_, tabs, reduceCtorEq, ι5, ↓reduceIte, ν1, ν2, ν3, ν4, ν5, ι1, ι2, ι3, ι4])
    refine lit1 tab_24 rfl tab_28 ⟨rfl, rfl⟩ ?_
    (try simp (maxSteps := 1000000) (disch := first | assumption | (apply ν6; assumption)) only [vz, vu, vv, eqS, eF_, ↓c1_, ↓c2_, tabs, reduceCtorEq, ι5, ↓reduceIte, ν1, ν2, ν3, ν4, ν5, ι1, ι2, ι3, ι4])
    refine MeetsR_row 8 [R] vs g1 (fun l hl => ?_) (by omega) (Heap.set_same _ _ _) rfl ?_
    · rw [List.mem_singleton.1 hl]; omega
    (try simp (maxSteps := 1000000) (disch := first | assumption | (apply ν6; assumption)) only [vz, vu, vv, eqS, eF_, ↓c1_, ↓c2_, tabs, reduceCtorEq, ι5, ↓reduceIte, ν1, ν2, ν3, ν4, ν5, ι1, ι2, ι3, ι4])
    have hr := hres vs
    exact ⟨fun h => hle, fun h => ⟨by rw [hr h], hle⟩⟩
end Go.Proofs.Ytginibofnkiofaa
namespace Go.Proofs.Ytginibofnkiofaa.fnResolved
open Go Go.Sep Go.ChangeShapes Go.WideShapes Go.ChangeAt Go.RowKit
theorem own : ownKnob Try.prog.godebug = none := by kernel_rfl
theorem told (avs : List AV) (h : ArgsT Try.prog [22, 22] avs) : CallT Try.prog 4 avs (fun _ => none) (fun v _ => v = .p (.bool true)) := by
  obtain ⟨a, b, rfl, h1, h⟩ := args_cons h
  obtain ⟨b, c, rfl, h2, h⟩ := args_cons h
  cases args_nil h
  obtain ⟨x1, hx1, rfl⟩ := arg_bytes h1
  obtain ⟨x2, hx2, rfl⟩ := arg_bytes h2
  exact (FnResolved_true hx1 hx2).use rfl
set_option maxRecDepth 100000 in
theorem lifted (os : Os) (started : os.Started) (H : Type) (enc : TypeId × Value → H) :
    ReturnsInHanded {} Try.checked os 4 .any (Rows.fnResolvedSpec.pre6 enc Try.prog Try.f4 Rows.fnResolvedRow.domain false) (Rows.fnResolvedSpec.post enc Try.prog Try.f4 false true false false) := by
  refine returnsInHanded_of_change (C := Try.checked) own started (by kernel_rfl) Try.func4
    (ChangeSpec.witness6 (enc := enc) (C := Try.checked) false ⟨#[], #[.slice none 0 0, .slice none 0 0], []⟩ 12 (by kernel_rfl) (by kernel_rfl) (by kernel_rfl) (by kernel_rfl)) ?_
  intro W base args ds gs before hval hW _ _
  refine row_of_true (n := 12) (tb := 4) (by kernel_rfl) rfl (by kernel_rfl) (by kernel_rfl) ?_ ?_ ?_ hval hW
  · have : (Try.f4.params.toList.all fun t => Try.prog.readableRec t && decide (t < Try.prog.types.size) && plainB Try.prog 12 t) = true := by kernel_rfl
    intro t ht
    have := List.all_eq_true.1 this t ht
    rw [Bool.and_eq_true, Bool.and_eq_true, decide_eq_true_eq] at this
    exact ⟨this.1.1, this.1.2, this.2⟩
  · intro ds hd
    rw [Try.params4] at hd
    match ds, hd with
    | [a, b], _ => rfl
  · rw [Try.params4]
    exact told
theorem over : Rows.fnResolvedRow.holds Try.pinned (OpenSpec.ofChange Rows.fnResolvedSpec) :=
  OpenClaim.holds_of_wide 4 Try.f4 rfl rfl rfl rfl rfl rfl rfl ⟨rfl, rfl, rfl, rfl, rfl⟩ rfl rfl rfl rfl rfl (by kernel_rfl) Try.func4 (by kernel_rfl)
    (of_decide_eq_true (by kernel_rfl)) (by unfold Func.isWrapper; first | (rw [if_pos (by decide +kernel)]; kernel_rfl) | (rw [if_neg (by decide +kernel)]; exact ⟨rfl, rfl⟩))
    (fun os started H enc _ => lifted os started H enc)
theorem proved : Rows.FnResolvedSaid :=
  over
#print axioms proved
end Go.Proofs.Ytginibofnkiofaa.fnResolved
