/- Specs: words, operators, leaves. -/
import Derived.Test.YtgcklgeifdefhaaGreatLe1
import Derived.Test.YtgcklgeifdefhaaGreatPt2
namespace Go.Proofs.YtgcklgeifdefhaaGreat
open Go Go.Sep Go.Pt
set_option linter.unusedSimpArgs false
set_option linter.unusedVariables false
attribute [local irreducible] CallT

theorem l1In_B (a lo hi : Int) : Pu Tryz.prog 52 [I a, I lo, I hi] (B (inB a lo hi)) := l1In_spec a lo hi
theorem isWide_spec (n : Int) : Pu Tryz.prog 129 [I n] (B (inB n 1 64)) := by
  refine Pu.of fun H => ?_
  refine W129_ok ?_; simp (maxSteps := 1000000) (disch := (first | assumption | (apply Ne.symm; assumption))) only [W129, vw0, vw1, vw2, vw3, vw4, vu0, vu1, ↓condV_t, ↓condV_f, cap_nil, allocV, splice, partV, buildV, eqFieldsV, eqS, tabs, TK.agg, reduceCtorEq, Array.toList, List.map_cons, List.map_nil, ↓reduceIte, List.length_map, Nat.reduceAdd, Nat.reduceLeDiff, Nat.reduceLT, Nat.reduceMul, Nat.reduceSub, Option.bind_some, Option.map_some, bndV, numV, eI, eU, e8, eB, AV.isCell, Int.reduceToNat, Int.reduceSub, Int.reduceAdd, Int.reduceNeg]
  refine ⟨fun h => ?_, fun h => ?_⟩
  · simp [inB, h]
  · simp [inB, h]
theorem isVars_spec (n : Int) : Pu Tryz.prog 130 [I n] (B (inB n 1 4)) := by
  refine Pu.of fun H => ?_
  refine W130_ok ?_; simp (maxSteps := 1000000) (disch := (first | assumption | (apply Ne.symm; assumption))) only [W130, vw0, vw1, vw2, vw3, vw4, vu0, vu1, ↓condV_t, ↓condV_f, cap_nil, allocV, splice, partV, buildV, eqFieldsV, eqS, tabs, TK.agg, reduceCtorEq, Array.toList, List.map_cons, List.map_nil, ↓reduceIte, List.length_map, Nat.reduceAdd, Nat.reduceLeDiff, Nat.reduceLT, Nat.reduceMul, Nat.reduceSub, Option.bind_some, Option.map_some, bndV, numV, eI, eU, e8, eB, AV.isCell, Int.reduceToNat, Int.reduceSub, Int.reduceAdd, Int.reduceNeg]
  refine ⟨fun h => ?_, fun h => ?_⟩
  · simp [inB, h]
  · simp [inB, h]
theorem l1Wide_spec (n : Int) : Pu Tryz.prog 124 [I n] (B (inB n 1 64)) := by
  refine Pu.of fun H => ?_
  refine W124_ok ?_; simp (maxSteps := 1000000) (disch := (first | assumption | (apply Ne.symm; assumption))) only [W124, vw0, vw1, vw2, vw3, vw4, vu0, vu1, ↓condV_t, ↓condV_f, cap_nil, allocV, splice, partV, buildV, eqFieldsV, eqS, tabs, TK.agg, reduceCtorEq, Array.toList, List.map_cons, List.map_nil, ↓reduceIte, List.length_map, Nat.reduceAdd, Nat.reduceLeDiff, Nat.reduceLT, Nat.reduceMul, Nat.reduceSub, Option.bind_some, Option.map_some, bndV, numV, eI, eU, e8, eB, AV.isCell, Int.reduceToNat, Int.reduceSub, Int.reduceAdd, Int.reduceNeg]
  exact Pu.use (l1In_B ..) ⟨rfl, Heap.le_refl _⟩

theorem mask_spec (w : Int) (h1 : 1 ≤ w) (h2 : w ≤ 64) : Pu Tryz.prog 144 [I w] (U (2 ^ w.toNat - 1)) := by
  refine Pu.of fun H => ?_
  obtain ⟨n, rfl⟩ : ∃ n : Nat, w = n := ⟨w.toNat, by omega⟩
  have e : IntKind.i64.wrap (64 - (n : Int)) = ((64 - n : Nat) : Int) := by rw [i64_id (by omega) (by omega)]; omega
  refine W144_ok ?_; simp (maxSteps := 1000000) (disch := (first | assumption | (apply Ne.symm; assumption))) only [W144, vw0, vw1, vw2, vw3, vw4, vu0, vu1, ↓condV_t, ↓condV_f, cap_nil, allocV, splice, partV, buildV, eqFieldsV, eqS, tabs, TK.agg, reduceCtorEq, Array.toList, List.map_cons, List.map_nil, ↓reduceIte, List.length_map, Nat.reduceAdd, Nat.reduceLeDiff, Nat.reduceLT, Nat.reduceMul, Nat.reduceSub, Option.bind_some, Option.map_some, bndV, numV, eI, eU, e8, eB, AV.isCell, Int.reduceToNat, Int.reduceSub, Int.reduceAdd, Int.reduceNeg, e]
  refine ⟨by omega, ?_⟩
  have e2 : min (64 - n) IntKind.u64.bits = 64 - n := by
    have : IntKind.u64.bits = 64 := rfl
    omega
  rw [e2]
  have e3 := mask_eq n (by omega)
  have hp := Nat.two_pow_pos n
  congr 2
  rw [Int.fdiv_eq_ediv_of_nonneg _ (by exact Int.le_of_lt (Int.pow_pos (by decide)))]
  have e4 : (18446744073709551615 : Int) / 2 ^ (64 - n) = ((((2 : Nat) ^ 64 - 1) / 2 ^ (64 - n) : Nat) : Int) := by
    rw [Int.natCast_ediv]; simp
  rw [e4, e3]
  simp only [Int.natCast_sub hp]
  simp

theorem lt_pow {a : Nat} {n : Nat} : decide ((a : Int) ≤ 2 ^ n - 1) = decide ((a : Int) < 2 ^ n) := by
  apply decide_eq_decide.2; omega

theorem GoodWord_impl (w : Int) (a : Nat) : Pu Tryz.prog 196 [I w, U a] (B (inB w 1 64 && decide ((a : Int) < 2 ^ w.toNat))) := by
  refine Pu.of fun H => ?_
  refine W196_ok ?_; simp (maxSteps := 1000000) (disch := (first | assumption | (apply Ne.symm; assumption))) only [W196, vw0, vw1, vw2, vw3, vw4, vu0, vu1, ↓condV_t, ↓condV_f, cap_nil, allocV, splice, partV, buildV, eqFieldsV, eqS, tabs, TK.agg, reduceCtorEq, Array.toList, List.map_cons, List.map_nil, ↓reduceIte, List.length_map, Nat.reduceAdd, Nat.reduceLeDiff, Nat.reduceLT, Nat.reduceMul, Nat.reduceSub, Option.bind_some, Option.map_some, bndV, numV, eI, eU, e8, eB, AV.isCell, Int.reduceToNat, Int.reduceSub, Int.reduceAdd, Int.reduceNeg]
  refine Pu.use (isWide_spec w) ?_
  cases h : inB w 1 64
  · (try simp (maxSteps := 1000000) (disch := (first | assumption | (apply Ne.symm; assumption))) only [vw0, vw1, vw2, vw3, vw4, vu0, vu1, ↓condV_t, ↓condV_f, cap_nil, allocV, splice, partV, buildV, eqFieldsV, eqS, tabs, TK.agg, reduceCtorEq, Array.toList, List.map_cons, List.map_nil, ↓reduceIte, List.length_map, Nat.reduceAdd, Nat.reduceLeDiff, Nat.reduceLT, Nat.reduceMul, Nat.reduceSub, Option.bind_some, Option.map_some, bndV, numV, eI, eU, e8, eB, AV.isCell, Int.reduceToNat, Int.reduceSub, Int.reduceAdd, Int.reduceNeg])
  · (try simp (maxSteps := 1000000) (disch := (first | assumption | (apply Ne.symm; assumption))) only [vw0, vw1, vw2, vw3, vw4, vu0, vu1, ↓condV_t, ↓condV_f, cap_nil, allocV, splice, partV, buildV, eqFieldsV, eqS, tabs, TK.agg, reduceCtorEq, Array.toList, List.map_cons, List.map_nil, ↓reduceIte, List.length_map, Nat.reduceAdd, Nat.reduceLeDiff, Nat.reduceLT, Nat.reduceMul, Nat.reduceSub, Option.bind_some, Option.map_some, bndV, numV, eI, eU, e8, eB, AV.isCell, Int.reduceToNat, Int.reduceSub, Int.reduceAdd, Int.reduceNeg])
    rw [inB_iff] at h
    refine Pu.use (mask_spec w h.1 h.2) ?_
    (try simp (maxSteps := 1000000) (disch := (first | assumption | (apply Ne.symm; assumption))) only [vw0, vw1, vw2, vw3, vw4, vu0, vu1, ↓condV_t, ↓condV_f, cap_nil, allocV, splice, partV, buildV, eqFieldsV, eqS, tabs, TK.agg, reduceCtorEq, Array.toList, List.map_cons, List.map_nil, ↓reduceIte, List.length_map, Nat.reduceAdd, Nat.reduceLeDiff, Nat.reduceLT, Nat.reduceMul, Nat.reduceSub, Option.bind_some, Option.map_some, bndV, numV, eI, eU, e8, eB, AV.isCell, Int.reduceToNat, Int.reduceSub, Int.reduceAdd, Int.reduceNeg])
    rw [lt_pow]

theorem l1Cut_spec (n : Nat) (a : Nat) (hn : n ≤ 64) (ha : a < 2 ^ 64) : Pu Tryz.prog 176 [I n, U a] (U ((a % 2 ^ n : Nat) : Int)) := by
  refine Pu.of fun H => ?_
  refine W176_ok ?_; simp (maxSteps := 1000000) (disch := (first | assumption | (apply Ne.symm; assumption))) only [W176, vw0, vw1, vw2, vw3, vw4, vu0, vu1, ↓condV_t, ↓condV_f, cap_nil, allocV, splice, partV, buildV, eqFieldsV, eqS, tabs, TK.agg, reduceCtorEq, Array.toList, List.map_cons, List.map_nil, ↓reduceIte, List.length_map, Nat.reduceAdd, Nat.reduceLeDiff, Nat.reduceLT, Nat.reduceMul, Nat.reduceSub, Option.bind_some, Option.map_some, bndV, numV, eI, eU, e8, eB, AV.isCell, Int.reduceToNat, Int.reduceSub, Int.reduceAdd, Int.reduceNeg]
  refine L176_0_rule (0 : Nat) (fun k => U ((a % 2 ^ k : Nat) : Int)) (fun k => I k) (fun _ => H) (fun k => k ≤ n) (fun k => n - k) ⟨by omega, ?_, .refl _, Heap.le_refl _⟩ ?_
  · simp [Nat.mod_one]; exact .refl _
  intro k hk
  (try simp (maxSteps := 1000000) (disch := (first | assumption | (apply Ne.symm; assumption))) only [vw0, vw1, vw2, vw3, vw4, vu0, vu1, ↓condV_t, ↓condV_f, cap_nil, allocV, splice, partV, buildV, eqFieldsV, eqS, tabs, TK.agg, reduceCtorEq, Array.toList, List.map_cons, List.map_nil, ↓reduceIte, List.length_map, Nat.reduceAdd, Nat.reduceLeDiff, Nat.reduceLT, Nat.reduceMul, Nat.reduceSub, Option.bind_some, Option.map_some, bndV, numV, eI, eU, e8, eB, AV.isCell, Int.reduceToNat, Int.reduceSub, Int.reduceAdd, Int.reduceNeg, B176_0])
  refine ⟨fun h => ⟨?_, k + 1, by omega, by omega, ?_, ?_⟩, fun h => ?_⟩
  · rw [IntKind.wrap_u64]; omega
  · have e1 : IntKind.u64.wrap (k : Int) = k := by rw [IntKind.wrap_u64]; omega
    have e2 : min k IntKind.u64.bits = k := by
      have : IntKind.u64.bits = 64 := rfl
      omega
    have hk2 : 2 ^ k < 2 ^ 64 := Nat.pow_lt_pow_right (by decide) (by omega)
    have e3 : IntKind.u64.wrap (1 * 2 ^ k) = ((2 ^ k : Nat) : Int) := by
      rw [IntKind.wrap_u64, Int.one_mul]
      have : (2 : Int) ^ k = ((2 ^ k : Nat) : Int) := by simp
      rw [this]
      generalize 2 ^ k = g at hk2 ⊢
      omega
    rw [e1, Int.toNat_natCast, e2, e3, (bitsU a (2 ^ k) ha hk2).1]
    have h1 : a % 2 ^ k < 2 ^ 64 := Nat.lt_of_le_of_lt (Nat.mod_le _ _) ha
    have h2 : a &&& 2 ^ k < 2 ^ 64 := Nat.and_lt_two_pow a hk2
    rw [(bitsU _ _ h1 h2).2, or_step, wk_int]
  · rw [wk_int, i64_id (by omega) (by omega)]; simp
  · have : k = n := by omega
    subst this; rfl

theorem GoodWord_spec (w : Int) (a : Nat) (ha : a < 2 ^ 64) : Pu Tryz.prog 166 [I w, U a] (B (inB w 1 64 && decide ((a : Int) < 2 ^ w.toNat))) := by
  refine Pu.of fun H => ?_
  refine W166_ok ?_; simp (maxSteps := 1000000) (disch := (first | assumption | (apply Ne.symm; assumption))) only [W166, vw0, vw1, vw2, vw3, vw4, vu0, vu1, ↓condV_t, ↓condV_f, cap_nil, allocV, splice, partV, buildV, eqFieldsV, eqS, tabs, TK.agg, reduceCtorEq, Array.toList, List.map_cons, List.map_nil, ↓reduceIte, List.length_map, Nat.reduceAdd, Nat.reduceLeDiff, Nat.reduceLT, Nat.reduceMul, Nat.reduceSub, Option.bind_some, Option.map_some, bndV, numV, eI, eU, e8, eB, AV.isCell, Int.reduceToNat, Int.reduceSub, Int.reduceAdd, Int.reduceNeg]
  refine Pu.use (l1Wide_spec w) ?_
  cases h : inB w 1 64
  · (try simp (maxSteps := 1000000) (disch := (first | assumption | (apply Ne.symm; assumption))) only [vw0, vw1, vw2, vw3, vw4, vu0, vu1, ↓condV_t, ↓condV_f, cap_nil, allocV, splice, partV, buildV, eqFieldsV, eqS, tabs, TK.agg, reduceCtorEq, Array.toList, List.map_cons, List.map_nil, ↓reduceIte, List.length_map, Nat.reduceAdd, Nat.reduceLeDiff, Nat.reduceLT, Nat.reduceMul, Nat.reduceSub, Option.bind_some, Option.map_some, bndV, numV, eI, eU, e8, eB, AV.isCell, Int.reduceToNat, Int.reduceSub, Int.reduceAdd, Int.reduceNeg])
  · (try simp (maxSteps := 1000000) (disch := (first | assumption | (apply Ne.symm; assumption))) only [vw0, vw1, vw2, vw3, vw4, vu0, vu1, ↓condV_t, ↓condV_f, cap_nil, allocV, splice, partV, buildV, eqFieldsV, eqS, tabs, TK.agg, reduceCtorEq, Array.toList, List.map_cons, List.map_nil, ↓reduceIte, List.length_map, Nat.reduceAdd, Nat.reduceLeDiff, Nat.reduceLT, Nat.reduceMul, Nat.reduceSub, Option.bind_some, Option.map_some, bndV, numV, eI, eU, e8, eB, AV.isCell, Int.reduceToNat, Int.reduceSub, Int.reduceAdd, Int.reduceNeg])
    rw [inB_iff] at h
    obtain ⟨n, rfl⟩ : ∃ n : Nat, w = n := ⟨w.toNat, by omega⟩
    refine Pu.use (l1Cut_spec n a (by omega) ha) ?_
    (try simp (maxSteps := 1000000) (disch := (first | assumption | (apply Ne.symm; assumption))) only [vw0, vw1, vw2, vw3, vw4, vu0, vu1, ↓condV_t, ↓condV_f, cap_nil, allocV, splice, partV, buildV, eqFieldsV, eqS, tabs, TK.agg, reduceCtorEq, Array.toList, List.map_cons, List.map_nil, ↓reduceIte, List.length_map, Nat.reduceAdd, Nat.reduceLeDiff, Nat.reduceLT, Nat.reduceMul, Nat.reduceSub, Option.bind_some, Option.map_some, bndV, numV, eI, eU, e8, eB, AV.isCell, Int.reduceToNat, Int.reduceSub, Int.reduceAdd, Int.reduceNeg])
    congr 2
    apply decide_eq_decide.2
    have e : ((2 ^ n : Nat) : Int) = (2 : Int) ^ n := by simp
    rw [← e]
    constructor
    · intro h2
      have h3 : a % 2 ^ n = a := by omega
      have := Nat.mod_lt a (Nat.two_pow_pos n)
      omega
    · intro h2
      rw [Nat.mod_eq_of_lt (by omega)]

/-! ### Operators -/
theorem operandsOf_spec (op : Int) {H : Heap} {K : AV → Heap → Prop} (h : ∀ p, many op = 0 ∨ p = Pt.part op → K (.tup [I (many op), I p, I (Pt.own op)]) H) : CallT Tryz.prog 172 [I op] H K := by
  have fin : ∀ m p o : Int, (many op : Int) = m → Pt.own op = o → (many op = 0 ∨ p = Pt.part op) → K (.tup [I m, I p, I o]) H := by
    intro m p o h1 h2 h3
    rw [← h1, ← h2]; exact h p h3
  refine W172_ok ?_; simp (maxSteps := 1000000) (disch := (first | assumption | (apply Ne.symm; assumption))) only [W172, vw0, vw1, vw2, vw3, vw4, vu0, vu1, ↓condV_t, ↓condV_f, cap_nil, allocV, splice, partV, buildV, eqFieldsV, eqS, tabs, TK.agg, reduceCtorEq, Array.toList, List.map_cons, List.map_nil, ↓reduceIte, List.length_map, Nat.reduceAdd, Nat.reduceLeDiff, Nat.reduceLT, Nat.reduceMul, Nat.reduceSub, Option.bind_some, Option.map_some, bndV, numV, eI, eU, e8, eB, AV.isCell, Int.reduceToNat, Int.reduceSub, Int.reduceAdd, Int.reduceNeg, J172_0, J172_1, J172_2]
  repeat' (first | refine ⟨fun h => ?_, fun h => ?_⟩ | intro h)
  all_goals
    refine fin _ _ _ ?_ ?_ ?_
    · (unfold many; repeat' split) <;> omega
    · (unfold Pt.own; repeat' split) <;> omega
    · (unfold many Pt.part; repeat' split) <;> omega
theorem l2Need_spec (op : Int) {H : Heap} {K : AV → Heap → Prop} (h : ∀ p, many op = 0 ∨ p = Pt.part op → K (.tup [I (many op), I p, I (Pt.own op)]) H) : CallT Tryz.prog 125 [I op] H K := by
  have fin : ∀ m p o : Int, (many op : Int) = m → Pt.own op = o → (many op = 0 ∨ p = Pt.part op) → K (.tup [I m, I p, I o]) H := by
    intro m p o h1 h2 h3
    rw [← h1, ← h2]; exact h p h3
  refine W125_ok ?_; simp (maxSteps := 1000000) (disch := (first | assumption | (apply Ne.symm; assumption))) only [W125, vw0, vw1, vw2, vw3, vw4, vu0, vu1, ↓condV_t, ↓condV_f, cap_nil, allocV, splice, partV, buildV, eqFieldsV, eqS, tabs, TK.agg, reduceCtorEq, Array.toList, List.map_cons, List.map_nil, ↓reduceIte, List.length_map, Nat.reduceAdd, Nat.reduceLeDiff, Nat.reduceLT, Nat.reduceMul, Nat.reduceSub, Option.bind_some, Option.map_some, bndV, numV, eI, eU, e8, eB, AV.isCell, Int.reduceToNat, Int.reduceSub, Int.reduceAdd, Int.reduceNeg]
  refine ⟨fun h1 => ?_, fun h1 => ⟨fun h2 => ?_, fun h2 => ⟨fun h3 => ?_, fun h3 => ⟨fun h4 => ?_, fun h4 => ⟨fun h5 => ?_, fun h5 => ?_⟩⟩⟩⟩⟩
  rotate_right
  · refine Pu.use (l1In_B ..) ?_
    cases h6 : inB op 3 12
    · have h6' : ¬ (3 ≤ op ∧ op ≤ 12) := fun hh => by rw [inB_iff.2 hh] at h6; cases h6
      (try simp (maxSteps := 1000000) (disch := (first | assumption | (apply Ne.symm; assumption))) only [vw0, vw1, vw2, vw3, vw4, vu0, vu1, ↓condV_t, ↓condV_f, cap_nil, allocV, splice, partV, buildV, eqFieldsV, eqS, tabs, TK.agg, reduceCtorEq, Array.toList, List.map_cons, List.map_nil, ↓reduceIte, List.length_map, Nat.reduceAdd, Nat.reduceLeDiff, Nat.reduceLT, Nat.reduceMul, Nat.reduceSub, Option.bind_some, Option.map_some, bndV, numV, eI, eU, e8, eB, AV.isCell, Int.reduceToNat, Int.reduceSub, Int.reduceAdd, Int.reduceNeg])
      refine Pu.use (l1In_B ..) ?_
      cases h7 : inB op 14 16
      · have h7' : ¬ (14 ≤ op ∧ op ≤ 16) := fun hh => by rw [inB_iff.2 hh] at h7; cases h7
        (try simp (maxSteps := 1000000) (disch := (first | assumption | (apply Ne.symm; assumption))) only [vw0, vw1, vw2, vw3, vw4, vu0, vu1, ↓condV_t, ↓condV_f, cap_nil, allocV, splice, partV, buildV, eqFieldsV, eqS, tabs, TK.agg, reduceCtorEq, Array.toList, List.map_cons, List.map_nil, ↓reduceIte, List.length_map, Nat.reduceAdd, Nat.reduceLeDiff, Nat.reduceLT, Nat.reduceMul, Nat.reduceSub, Option.bind_some, Option.map_some, bndV, numV, eI, eU, e8, eB, AV.isCell, Int.reduceToNat, Int.reduceSub, Int.reduceAdd, Int.reduceNeg])
        refine ⟨fun h8 => ?_, fun h8 => ⟨fun h9 => ?_, fun h9 => ?_⟩⟩
        all_goals
          refine fin _ _ _ ?_ ?_ ?_
          · (unfold many; repeat' split) <;> omega
          · (unfold Pt.own; repeat' split) <;> omega
          · (unfold many Pt.part; repeat' split) <;> omega
      · rw [inB_iff] at h7
        (try simp (maxSteps := 1000000) (disch := (first | assumption | (apply Ne.symm; assumption))) only [vw0, vw1, vw2, vw3, vw4, vu0, vu1, ↓condV_t, ↓condV_f, cap_nil, allocV, splice, partV, buildV, eqFieldsV, eqS, tabs, TK.agg, reduceCtorEq, Array.toList, List.map_cons, List.map_nil, ↓reduceIte, List.length_map, Nat.reduceAdd, Nat.reduceLeDiff, Nat.reduceLT, Nat.reduceMul, Nat.reduceSub, Option.bind_some, Option.map_some, bndV, numV, eI, eU, e8, eB, AV.isCell, Int.reduceToNat, Int.reduceSub, Int.reduceAdd, Int.reduceNeg])
        refine fin _ _ _ ?_ ?_ ?_
        · (unfold many; repeat' split) <;> omega
        · (unfold Pt.own; repeat' split) <;> omega
        · (unfold many Pt.part; repeat' split) <;> omega
    · rw [inB_iff] at h6
      (try simp (maxSteps := 1000000) (disch := (first | assumption | (apply Ne.symm; assumption))) only [vw0, vw1, vw2, vw3, vw4, vu0, vu1, ↓condV_t, ↓condV_f, cap_nil, allocV, splice, partV, buildV, eqFieldsV, eqS, tabs, TK.agg, reduceCtorEq, Array.toList, List.map_cons, List.map_nil, ↓reduceIte, List.length_map, Nat.reduceAdd, Nat.reduceLeDiff, Nat.reduceLT, Nat.reduceMul, Nat.reduceSub, Option.bind_some, Option.map_some, bndV, numV, eI, eU, e8, eB, AV.isCell, Int.reduceToNat, Int.reduceSub, Int.reduceAdd, Int.reduceNeg])
      refine fin _ _ _ ?_ ?_ ?_
      · (unfold many; repeat' split) <;> omega
      · (unfold Pt.own; repeat' split) <;> omega
      · (unfold many Pt.part; repeat' split) <;> omega
  all_goals
    refine fin _ _ _ ?_ ?_ ?_
    · (unfold many; repeat' split) <;> omega
    · (unfold Pt.own; repeat' split) <;> omega
    · (unfold many Pt.part; repeat' split) <;> omega

/-- A node's number is one. -/
def okN (x : Nd) : Prop := 0 ≤ x.n ∧ x.n < 2 ^ 64

theorem isLeafRight_spec (w v : Int) (x : Nd) (hv : 1 ≤ v ∧ v ≤ 4) (hx : okN x) : Pu Tryz.prog 173 [I w, I v, aN x] (B (leafOk w v x)) := by
  refine Pu.of fun H => ?_
  obtain ⟨a, ha⟩ : ∃ a : Nat, x.n = a := ⟨x.n.toNat, by unfold okN at hx; omega⟩
  have e : IntKind.u64.wrap v = v := by rw [IntKind.wrap_u64]; omega
  refine W173_ok ?_; simp (maxSteps := 1000000) (disch := (first | assumption | (apply Ne.symm; assumption))) only [W173, vw0, vw1, vw2, vw3, vw4, vu0, vu1, ↓condV_t, ↓condV_f, cap_nil, allocV, splice, partV, buildV, eqFieldsV, eqS, tabs, TK.agg, reduceCtorEq, Array.toList, List.map_cons, List.map_nil, ↓reduceIte, List.length_map, Nat.reduceAdd, Nat.reduceLeDiff, Nat.reduceLT, Nat.reduceMul, Nat.reduceSub, Option.bind_some, Option.map_some, bndV, numV, eI, eU, e8, eB, AV.isCell, Int.reduceToNat, Int.reduceSub, Int.reduceAdd, Int.reduceNeg, e, ha]
  intro r hr
  have hle : Heap.le H (H.set r [I x.op, U a]) := Heap.le_set hr
  refine ⟨fun h1 => ?_, fun h1 => ⟨fun h2 => ⟨?_, hle⟩, fun h2 => ⟨fun h3 => ⟨?_, hle⟩, fun h3 => ⟨?_, hle⟩⟩⟩⟩
  · refine Pu.use (GoodWord_impl w a) ⟨?_, hle⟩
    simp only [leafOk, h1, if_true, ha]
  · simp only [leafOk, h1, h2, if_true, if_false, ha, show ¬ (2 : Int) = 1 by decide]
  · simp only [leafOk, h1, h2, h3, if_true, if_false, ha, show ¬ (20 : Int) = 1 by decide, show ¬ (20 : Int) = 2 by decide]
  · simp only [leafOk, h1, h2, h3, if_false, ha]
theorem l2N_spec (w v : Int) (x : Nd) (hv : 1 ≤ v ∧ v ≤ 4) (hx : okN x) : Pu Tryz.prog 126 [I w, I v, aN x] (B (leafOk w v x)) := by
  refine Pu.of fun H => ?_
  obtain ⟨a, ha⟩ : ∃ a : Nat, x.n = a := ⟨x.n.toNat, by unfold okN at hx; omega⟩
  have ha2 : a < 2 ^ 64 := by unfold okN at hx; omega
  have e : IntKind.u64.wrap v = v := by rw [IntKind.wrap_u64]; omega
  refine W126_ok ?_; simp (maxSteps := 1000000) (disch := (first | assumption | (apply Ne.symm; assumption))) only [W126, vw0, vw1, vw2, vw3, vw4, vu0, vu1, ↓condV_t, ↓condV_f, cap_nil, allocV, splice, partV, buildV, eqFieldsV, eqS, tabs, TK.agg, reduceCtorEq, Array.toList, List.map_cons, List.map_nil, ↓reduceIte, List.length_map, Nat.reduceAdd, Nat.reduceLeDiff, Nat.reduceLT, Nat.reduceMul, Nat.reduceSub, Option.bind_some, Option.map_some, bndV, numV, eI, eU, e8, eB, AV.isCell, Int.reduceToNat, Int.reduceSub, Int.reduceAdd, Int.reduceNeg, e, ha]
  intro r hr
  have hle : Heap.le H (H.set r [I x.op, U a]) := Heap.le_set hr
  refine ⟨fun h1 => ?_, fun h1 => ⟨fun h2 => ⟨?_, hle⟩, fun h2 => ⟨fun h3 => ⟨?_, hle⟩, fun h3 => ⟨?_, hle⟩⟩⟩⟩
  · refine Pu.use (GoodWord_spec w a ha2) ⟨?_, hle⟩
    simp only [leafOk, h1, if_true, ha]
  · simp only [leafOk, h1, h2, if_true, if_false, ha, show ¬ (2 : Int) = 1 by decide]
  · simp only [leafOk, h1, h2, h3, if_true, if_false, ha, show ¬ (20 : Int) = 1 by decide, show ¬ (20 : Int) = 2 by decide]
    congr 2
    apply decide_eq_decide.2; omega
  · simp only [leafOk, h1, h2, h3, if_false, ha]
end Go.Proofs.YtgcklgeifdefhaaGreat
