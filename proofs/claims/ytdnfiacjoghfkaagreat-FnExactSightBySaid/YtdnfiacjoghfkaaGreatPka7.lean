/- Texts laid together: Qa1 Qa2 Ps1 Qb0 Qa3 Pm1 Ma1 Ma3 Lt1 Lt2 Lt3 Lt4. -/
import Derived.Test.YtdnfiacjoghfkaaGreatPka6
import Derived.Lib.SlicesCompact
/- Specs: what operators make of small words, in the program and in the reference. -/
namespace Go.Proofs.YtdnfiacjoghfkaaGreat
open Go Go.Sep Go.Pt
set_option linter.unusedSimpArgs false
set_option linter.unusedVariables false
attribute [local irreducible] CallT

/-- A small width. -/
def sw (w : Nat) : Prop := 1 ≤ w ∧ w ≤ 5
theorem pow5 {w : Nat} (h : sw w) : 2 ≤ 2 ^ w ∧ 2 ^ w ≤ 32 := by
  have a := Nat.pow_le_pow_right (n := 2) (by decide) h.1
  have b := Nat.pow_le_pow_right (n := 2) (by decide) h.2
  omega
theorem powI (w : Nat) : ((2 ^ w : Nat) : Int) = (2 : Int) ^ w := by simp
theorem mask_sw {w : Nat} (h : sw w) : Pu Tryz.prog 59 [I w] (U ((2 ^ w - 1 : Nat) : Int)) := by
  have h1 := h.1
  have h2 := h.2
  have := mask_spec (w : Int) (by omega) (by omega)
  have hp := pow5 h
  have e : (2 : Int) ^ (w : Int).toNat - 1 = ((2 ^ w - 1 : Nat) : Int) := by
    rw [Int.toNat_natCast, ← powI]; omega
  rw [e] at this; exact this
theorem inB_sw {w : Nat} (h : sw w) : inB (w : Int) 1 64 = true := by
  have h1 := h.1
  have h2 := h.2
  rw [inB_iff]; omega
theorem GoodW_impl {w a : Nat} (h : sw w) (ha : a < 2 ^ w) : Pu Tryz.prog 104 [I w, U a] (B true) := by
  have := GoodWord_impl (w : Int) a
  have e : (inB (w : Int) 1 64 && decide ((a : Int) < 2 ^ (w : Int).toNat)) = true := by
    rw [inB_sw h, Int.toNat_natCast, ← powI]
    have : (a : Int) < ((2 ^ w : Nat) : Int) := by omega
    rw [decide_eq_true this]; rfl
  rw [e] at this; exact this
theorem GoodW_ref {w a : Nat} (h : sw w) (ha : a < 2 ^ w) : Pu Tryz.prog 98 [I w, U a] (B true) := by
  have hp := pow5 h
  have := GoodWord_spec (w : Int) a (by omega)
  have e : (inB (w : Int) 1 64 && decide ((a : Int) < 2 ^ (w : Int).toNat)) = true := by
    rw [inB_sw h, Int.toNat_natCast, ← powI]
    have : (a : Int) < ((2 ^ w : Nat) : Int) := by omega
    rw [decide_eq_true this]; rfl
  rw [e] at this; exact this
theorem l1Cut_sw {w a : Nat} (h : sw w) (ha : a < 2 ^ 64) : Pu Tryz.prog 106 [I w, U a] (U ((a % 2 ^ w : Nat) : Int)) := l1Cut_spec w a (by have := h.2; omega) ha
theorem and_mask {x w : Nat} (hx : x < 2 ^ 64) (h : sw w) : bitsI .and .u64 (x : Int) ((2 ^ w - 1 : Nat) : Int) = ((x % 2 ^ w : Nat) : Int) := by
  have hp := pow5 h
  rw [(bitsU x (2 ^ w - 1) hx (by omega)).1, Nat.and_two_pow_sub_one_eq_mod]
theorem xorU (a b : Nat) (ha : a < 2 ^ 64) (hb : b < 2 ^ 64) : bitsI .xor .u64 (a : Int) (b : Int) = ((a ^^^ b : Nat) : Int) := by
  have e : ∀ x : Nat, x < 2 ^ 64 → (BitVec.ofInt IntKind.u64.bits (x : Int)).toNat = x := by
    intro x hx
    have : BitVec.ofInt IntKind.u64.bits (x : Int) = BitVec.ofNat 64 x := by
      apply BitVec.eq_of_toNat_eq; simp [IntKind.bits]
    rw [this]
    show (BitVec.ofNat 64 x).toNat = x
    rw [BitVec.toNat_ofNat, Nat.mod_eq_of_lt hx]
  simp only [bitsI]
  rw [BitVec.toNat_xor, e a ha, e b hb, IntKind.wrap_u64]
  have := Nat.xor_lt_two_pow ha hb
  omega
theorem wU {n : Nat} (h : n < 2 ^ 64) : IntKind.u64.wrap (n : Int) = n := by rw [IntKind.wrap_u64]; omega
theorem tdivN (a b : Nat) : Int.tdiv (a : Int) (b : Int) = ((a / b : Nat) : Int) := by
  rw [Int.tdiv_eq_ediv_of_nonneg (by omega)]; rfl
theorem tmodN (a b : Nat) : Int.tmod (a : Int) (b : Int) = ((a % b : Nat) : Int) := by
  rw [Int.tmod_eq_emod_of_nonneg (by omega)]; rfl
theorem fdivN (a n : Nat) : Int.fdiv (a : Int) (2 ^ n) = ((a / 2 ^ n : Nat) : Int) := by
  rw [Int.fdiv_eq_ediv_of_nonneg _ (by exact Int.le_of_lt (Int.pow_pos (by decide))), ← powI]; rfl
theorem mulN (a n : Nat) : (a : Int) * 2 ^ n = ((a * 2 ^ n : Nat) : Int) := by rw [← powI]; rfl
theorem minU {n : Nat} (h : n ≤ 64) : min n IntKind.u64.bits = n := by
  have : IntKind.u64.bits = 64 := rfl
  omega
theorem areWords_sw {w a b : Nat} (h : sw w) (ha : a < 2 ^ w) (hb : b < 2 ^ w) : Pu Tryz.prog 95 [I w, U a, U b] (B true) := by
  refine Pu.of fun H => ?_
  refine W95_ok ?_; simp (maxSteps := 1000000) (disch := first | assumption | (apply Ne.symm; assumption)) only [W95, vz, vu, vv, eqS, eqFieldsV, ↓condV_t, ↓condV_f, tabs, reduceCtorEq, Array.toList, ↓reduceIte, Nat.reduceAdd, Nat.reduceLeDiff, Nat.reduceLT, Nat.reduceMul, Nat.reduceSub, Int.reduceToNat, Int.reduceSub, Int.reduceAdd, Int.reduceNeg]
  refine Pu.use (GoodW_impl h ha) ?_
  (try simp (maxSteps := 1000000) (disch := first | assumption | (apply Ne.symm; assumption)) only [vz, vu, vv, eqS, eqFieldsV, ↓condV_t, ↓condV_f, tabs, reduceCtorEq, Array.toList, ↓reduceIte, Nat.reduceAdd, Nat.reduceLeDiff, Nat.reduceLT, Nat.reduceMul, Nat.reduceSub, Int.reduceToNat, Int.reduceSub, Int.reduceAdd, Int.reduceNeg])
  refine Pu.use (GoodW_impl h hb) ?_
  (try simp (maxSteps := 1000000) (disch := first | assumption | (apply Ne.symm; assumption)) only [vz, vu, vv, eqS, eqFieldsV, ↓condV_t, ↓condV_f, tabs, reduceCtorEq, Array.toList, ↓reduceIte, Nat.reduceAdd, Nat.reduceLeDiff, Nat.reduceLT, Nat.reduceMul, Nat.reduceSub, Int.reduceToNat, Int.reduceSub, Int.reduceAdd, Int.reduceNeg])
theorem l1Both_sw {w a b : Nat} (h : sw w) (ha : a < 2 ^ w) (hb : b < 2 ^ w) : Pu Tryz.prog 115 [I w, U a, U b] (B true) := by
  refine Pu.of fun H => ?_
  refine W115_ok ?_; simp (maxSteps := 1000000) (disch := first | assumption | (apply Ne.symm; assumption)) only [W115, vz, vu, vv, eqS, eqFieldsV, ↓condV_t, ↓condV_f, tabs, reduceCtorEq, Array.toList, ↓reduceIte, Nat.reduceAdd, Nat.reduceLeDiff, Nat.reduceLT, Nat.reduceMul, Nat.reduceSub, Int.reduceToNat, Int.reduceSub, Int.reduceAdd, Int.reduceNeg]
  refine Pu.use (GoodW_ref h ha) ?_
  (try simp (maxSteps := 1000000) (disch := first | assumption | (apply Ne.symm; assumption)) only [vz, vu, vv, eqS, eqFieldsV, ↓condV_t, ↓condV_f, tabs, reduceCtorEq, Array.toList, ↓reduceIte, Nat.reduceAdd, Nat.reduceLeDiff, Nat.reduceLT, Nat.reduceMul, Nat.reduceSub, Int.reduceToNat, Int.reduceSub, Int.reduceAdd, Int.reduceNeg])
  refine Pu.use (GoodW_ref h hb) ?_
  (try simp (maxSteps := 1000000) (disch := first | assumption | (apply Ne.symm; assumption)) only [vz, vu, vv, eqS, eqFieldsV, ↓condV_t, ↓condV_f, tabs, reduceCtorEq, Array.toList, ↓reduceIte, Nat.reduceAdd, Nat.reduceLeDiff, Nat.reduceLT, Nat.reduceMul, Nat.reduceSub, Int.reduceToNat, Int.reduceSub, Int.reduceAdd, Int.reduceNeg])
def quoW (w a b : Nat) : Nat := if b = 0 then 2 ^ w - 1 else a / b
def remW (a b : Nat) : Nat := if b = 0 then a else a % b
theorem Div64_sw {a b : Nat} (hb : b ≠ 0) (ha : a < 1000) (hb2 : b < 1000) : Pu Tryz.prog 96 [U 0, U a, U b] (.tup [U ((a / b : Nat) : Int), U ((a % b : Nat) : Int)]) := by
  refine Pu.of fun H => ?_
  refine W96_ok ?_; simp (maxSteps := 1000000) (disch := first | assumption | (apply Ne.symm; assumption)) only [W96, vz, vu, vv, eqS, eqFieldsV, ↓condV_t, ↓condV_f, tabs, reduceCtorEq, Array.toList, ↓reduceIte, Nat.reduceAdd, Nat.reduceLeDiff, Nat.reduceLT, Nat.reduceMul, Nat.reduceSub, Int.reduceToNat, Int.reduceSub, Int.reduceAdd, Int.reduceNeg]
  refine ⟨fun h => absurd h (by omega), fun h => ⟨fun h2 => by omega, fun h2 => ⟨by omega, by omega, ?_⟩⟩⟩
  rw [tdivN, tmodN, wU (Nat.lt_of_le_of_lt (Nat.div_le_self a b) (by omega))]
theorem DivWord_impl {w a b : Nat} (h : sw w) (ha : a < 2 ^ w) (hb : b < 2 ^ w) : Pu Tryz.prog 78 [I w, U a, U b] (.tup [U (quoW w a b : Nat), U (remW a b : Nat), B true]) := by
  have hp := pow5 h
  refine Pu.of fun H => ?_
  refine W78_ok ?_; simp (maxSteps := 1000000) (disch := first | assumption | (apply Ne.symm; assumption)) only [W78, vz, vu, vv, eqS, eqFieldsV, ↓condV_t, ↓condV_f, tabs, reduceCtorEq, Array.toList, ↓reduceIte, Nat.reduceAdd, Nat.reduceLeDiff, Nat.reduceLT, Nat.reduceMul, Nat.reduceSub, Int.reduceToNat, Int.reduceSub, Int.reduceAdd, Int.reduceNeg]
  refine Pu.use (areWords_sw h ha hb) ?_
  (try simp (maxSteps := 1000000) (disch := first | assumption | (apply Ne.symm; assumption)) only [vz, vu, vv, eqS, eqFieldsV, ↓condV_t, ↓condV_f, tabs, reduceCtorEq, Array.toList, ↓reduceIte, Nat.reduceAdd, Nat.reduceLeDiff, Nat.reduceLT, Nat.reduceMul, Nat.reduceSub, Int.reduceToNat, Int.reduceSub, Int.reduceAdd, Int.reduceNeg])
  refine ⟨fun h0 => ?_, fun h0 => ?_⟩
  · have : b = 0 := by omega
    subst this
    refine Pu.use (mask_sw h) ⟨rfl, Heap.le_refl _⟩
  · have hb0 : b ≠ 0 := by omega
    refine Pu.use (Div64_sw hb0 (by omega) (by omega)) ?_
    have e1 : quoW w a b = a / b := by rw [quoW, if_neg hb0]
    have e2 : remW a b = a % b := by rw [remW, if_neg hb0]
    rw [e1, e2]
    (try simp (maxSteps := 1000000) (disch := first | assumption | (apply Ne.symm; assumption)) only [vz, vu, vv, eqS, eqFieldsV, ↓condV_t, ↓condV_f, tabs, reduceCtorEq, Array.toList, ↓reduceIte, Nat.reduceAdd, Nat.reduceLeDiff, Nat.reduceLT, Nat.reduceMul, Nat.reduceSub, Int.reduceToNat, Int.reduceSub, Int.reduceAdd, Int.reduceNeg])
theorem DivWord_ref {w a b : Nat} (h : sw w) (ha : a < 2 ^ w) (hb : b < 2 ^ w) : Pu Tryz.prog 111 [I w, U a, U b] (.tup [U (quoW w a b : Nat), U (remW a b : Nat), B true]) := by
  have hp := pow5 h
  refine Pu.of fun H => ?_
  refine W111_ok ?_; simp (maxSteps := 1000000) (disch := first | assumption | (apply Ne.symm; assumption)) only [W111, vz, vu, vv, eqS, eqFieldsV, ↓condV_t, ↓condV_f, tabs, reduceCtorEq, Array.toList, ↓reduceIte, Nat.reduceAdd, Nat.reduceLeDiff, Nat.reduceLT, Nat.reduceMul, Nat.reduceSub, Int.reduceToNat, Int.reduceSub, Int.reduceAdd, Int.reduceNeg]
  refine Pu.use (l1Both_sw h ha hb) ?_
  (try simp (maxSteps := 1000000) (disch := first | assumption | (apply Ne.symm; assumption)) only [vz, vu, vv, eqS, eqFieldsV, ↓condV_t, ↓condV_f, tabs, reduceCtorEq, Array.toList, ↓reduceIte, Nat.reduceAdd, Nat.reduceLeDiff, Nat.reduceLT, Nat.reduceMul, Nat.reduceSub, Int.reduceToNat, Int.reduceSub, Int.reduceAdd, Int.reduceNeg])
  refine ⟨fun h0 => ?_, fun h0 => ?_⟩
  · have : b = 0 := by omega
    subst this
    have := l1Cut_sw (a := 18446744073709551615) h (by omega)
    have e : 18446744073709551615 % 2 ^ w = 2 ^ w - 1 := (by decide : ∀ w, w ≤ 5 → 18446744073709551615 % 2 ^ w = 2 ^ w - 1) w h.2
    rw [e] at this
    refine Pu.use this ⟨rfl, Heap.le_refl _⟩
  · have hb0 : b ≠ 0 := by omega
    have e1 : quoW w a b = a / b := by rw [quoW, if_neg hb0]
    have e2 : remW a b = a % b := by rw [remW, if_neg hb0]
    rw [e1, e2, tdivN, tmodN, wU (Nat.lt_of_le_of_lt (Nat.div_le_self a b) (by omega))]
    exact ⟨h0, h0, rfl⟩
def shW (w a b : Nat) (l : Bool) : Nat := if w ≤ b then 0 else if l then a * 2 ^ b % 2 ^ w else a / 2 ^ b
theorem shift_sw {w a b : Nat} (l : Bool) (h : sw w) (ha : a < 2 ^ w) (hb : b < 2 ^ w) : Pu Tryz.prog 79 [I w, U a, U b, B l] (U (shW w a b l : Nat)) := by
  have hp := pow5 h
  refine Pu.of fun H => ?_
  have e0 : IntKind.u64.wrap (w : Int) = w := wU (by have := h.2; omega)
  refine W79_ok ?_; simp (maxSteps := 1000000) (disch := first | assumption | (apply Ne.symm; assumption)) only [W79, vz, vu, vv, eqS, eqFieldsV, ↓condV_t, ↓condV_f, tabs, reduceCtorEq, Array.toList, ↓reduceIte, Nat.reduceAdd, Nat.reduceLeDiff, Nat.reduceLT, Nat.reduceMul, Nat.reduceSub, Int.reduceToNat, Int.reduceSub, Int.reduceAdd, Int.reduceNeg, e0]
  refine ⟨fun h1 => ?_, fun h1 => ?_⟩
  · rw [shW, if_pos (by omega)]; rfl
  have hbw : ¬ w ≤ b := by omega
  have hw5 := h.2
  have hb5 : 2 ^ b ≤ 32 := Nat.pow_le_pow_right (n := 2) (by decide) (show b ≤ 5 by omega)
  have hab : a * 2 ^ b < 2 ^ 64 := by
    have := Nat.mul_le_mul (show a ≤ 32 by omega) hb5
    omega
  refine ⟨fun hl => ⟨by omega, ?_⟩, fun hl => ⟨by omega, ?_⟩⟩
  · refine Pu.use (mask_sw h) ?_
    rw [minU (by omega), mulN, wU hab]
    (try simp (maxSteps := 1000000) (disch := first | assumption | (apply Ne.symm; assumption)) only [vz, vu, vv, eqS, eqFieldsV, ↓condV_t, ↓condV_f, tabs, reduceCtorEq, Array.toList, ↓reduceIte, Nat.reduceAdd, Nat.reduceLeDiff, Nat.reduceLT, Nat.reduceMul, Nat.reduceSub, Int.reduceToNat, Int.reduceSub, Int.reduceAdd, Int.reduceNeg])
    rw [and_mask hab h, shW, if_neg hbw, if_pos hl]
  · rw [minU (by omega), fdivN, shW, if_neg hbw, if_neg (by rw [hl]; simp)]
/-- After j steps. -/
def shJ (w a j : Nat) (l : Bool) : Nat := if l then a * 2 ^ j % 2 ^ w else a / 2 ^ j
theorem shJ_zero {w a : Nat} {l : Bool} (ha : a < 2 ^ w) : shJ w a 0 l = a := by
  unfold shJ; split
  · rw [Nat.pow_zero, Nat.mul_one, Nat.mod_eq_of_lt ha]
  · simp
theorem shJ_lt {w a : Nat} (l : Bool) (ha : a < 2 ^ w) (j : Nat) : shJ w a j l < 2 ^ w := by
  unfold shJ; split
  · exact Nat.mod_lt _ (Nat.two_pow_pos w)
  · exact div_lt' ha
theorem l1Shift_sw {w a b : Nat} (l : Bool) (h : sw w) (ha : a < 2 ^ w) (hb : b < 2 ^ w) : Pu Tryz.prog 112 [I w, U a, U b, B l] (U (shW w a b l : Nat)) := by
  have hp := pow5 h
  refine Pu.of fun H => ?_
  have hw5 := h.2
  have e0 : IntKind.u64.wrap (w : Int) = w := wU (by omega)
  refine W112_ok ?_; simp (maxSteps := 1000000) (disch := first | assumption | (apply Ne.symm; assumption)) only [W112, vz, vu, vv, eqS, eqFieldsV, ↓condV_t, ↓condV_f, tabs, reduceCtorEq, Array.toList, ↓reduceIte, Nat.reduceAdd, Nat.reduceLeDiff, Nat.reduceLT, Nat.reduceMul, Nat.reduceSub, Int.reduceToNat, Int.reduceSub, Int.reduceAdd, Int.reduceNeg, e0]
  refine ⟨fun h1 => ?_, fun h1 => ?_⟩
  · rw [shW, if_pos (by omega)]; rfl
  have hbw : ¬ w ≤ b := by omega
  refine L112_0_rule (0 : Nat) (fun j => U (shJ w a j l : Nat)) (fun j => U ((b - j : Nat) : Int)) (fun _ => H) (fun j => j ≤ b) (fun j => b - j) ⟨by omega, ?_, .refl _, Heap.le_refl _⟩ ?_
  · rw [shJ_zero ha]; exact .refl _
  intro j hj
  have hlt := shJ_lt l ha j
  have em : min 1 IntKind.u64.bits = 1 := by decide
  have e3 : j < b → IntKind.u64.wrap (((b - j : Nat) : Int) - 1) = ((b - (j + 1) : Nat) : Int) := fun hjb => by
    have : ((b - j : Nat) : Int) - 1 = ((b - (j + 1) : Nat) : Int) := by omega
    rw [this, wU (by omega)]
  (try simp (maxSteps := 1000000) (disch := first | assumption | (apply Ne.symm; assumption)) only [vz, vu, vv, eqS, eqFieldsV, ↓condV_t, ↓condV_f, tabs, reduceCtorEq, Array.toList, ↓reduceIte, Nat.reduceAdd, Nat.reduceLeDiff, Nat.reduceLT, Nat.reduceMul, Nat.reduceSub, Int.reduceToNat, Int.reduceSub, Int.reduceAdd, Int.reduceNeg, B112_0])
  refine ⟨fun h2 => ?_, fun h2 => ?_⟩
  · have hjb : j < b := by omega
    rw [e3 hjb, em]
    refine ⟨fun hl => ⟨by omega, ?_⟩, fun hl => ⟨by omega, j + 1, by omega, by omega, ?_, .refl _⟩⟩
    · have e4 : IntKind.u64.wrap (((shJ w a j l : Nat) : Int) * 2 ^ 1) = ((shJ w a j l * 2 : Nat) : Int) := by
        rw [mulN, Nat.pow_one, wU (by omega)]
      rw [e4]
      refine Pu.use (l1Cut_sw h (by omega)) ⟨j + 1, by omega, by omega, ?_, .refl _, Heap.le_refl _⟩
      have e5 : shJ w a j l * 2 % 2 ^ w = shJ w a (j + 1) l := by
        simp only [shJ, hl, if_true]
        rw [Nat.mul_mod, Nat.mod_mod, ← Nat.mul_mod, Nat.pow_succ, Nat.mul_assoc]
      rw [e5]; exact .refl _
    · have e5 : shJ w a j l / 2 = shJ w a (j + 1) l := by
        simp only [shJ, hl, Bool.false_eq_true, if_false]
        rw [Nat.div_div_eq_div_mul, Nat.pow_succ]
      rw [fdivN, Nat.pow_one, e5]; exact .refl _
  · have : j = b := by omega
    subst this
    rw [shW, if_neg hbw]; rfl
theorem sg1 : ∀ w : Nat, w < 6 → ∀ a : Nat, a < 32 → 1 ≤ w → a < 2 ^ w → (IntKind.i64.wrap (IntKind.u64.wrap ((a : Int) * 2 ^ min (IntKind.i64.wrap (64 - (w : Int))).toNat IntKind.u64.bits))).fdiv (2 ^ min (IntKind.i64.wrap (64 - (w : Int))).toNat IntKind.i64.bits) = sgn w a := by decide +kernel
theorem signed_sw {w a : Nat} (h : sw w) (ha : a < 2 ^ w) : Pu Tryz.prog 81 [I w, U a] (I (sgn w a)) := by
  have hp := pow5 h
  refine Pu.of fun H => ?_
  refine W81_ok ?_; simp (maxSteps := 1000000) (disch := first | assumption | (apply Ne.symm; assumption)) only [W81, vz, vu, vv, eqS, eqFieldsV, ↓condV_t, ↓condV_f, tabs, reduceCtorEq, Array.toList, ↓reduceIte, Nat.reduceAdd, Nat.reduceLeDiff, Nat.reduceLT, Nat.reduceMul, Nat.reduceSub, Int.reduceToNat, Int.reduceSub, Int.reduceAdd, Int.reduceNeg]
  have h1 := h.1
  have h2 := h.2
  have e0 : IntKind.i64.wrap (64 - (w : Int)) = 64 - w := i64_id (by omega) (by omega)
  refine ⟨by omega, by omega, ?_⟩
  rw [sg1 w (by omega) a (by omega) h1 ha]
theorem sg2 : ∀ w : Nat, w < 6 → 1 ≤ w → 0 ≤ IntKind.u64.wrap (IntKind.i64.wrap ((w : Int) - 1)) := by decide +kernel
theorem sg3 : ∀ w : Nat, w < 6 → ∀ a : Nat, a < 32 → 1 ≤ w → a < 2 ^ w → ¬ bitsI BinOp.and IntKind.u64 (Int.fdiv (a : Int) (2 ^ min (IntKind.u64.wrap (IntKind.i64.wrap ((w : Int) - 1))).toNat IntKind.u64.bits)) 1 = 1 → IntKind.i64.wrap (a : Int) = sgn w a := by decide +kernel
theorem sg4 : ∀ w : Nat, w < 6 → ∀ a : Nat, a < 32 → 1 ≤ w → a < 2 ^ w → bitsI BinOp.and IntKind.u64 (Int.fdiv (a : Int) (2 ^ min (IntKind.u64.wrap (IntKind.i64.wrap ((w : Int) - 1))).toNat IntKind.u64.bits)) 1 = 1 →
    IntKind.i64.wrap (bitsI BinOp.or IntKind.u64 (a : Int) (bitsI BinOp.xor IntKind.u64 (if IntKind.u64.signed = true then -1 else IntKind.u64.max) ((18446744073709551615 % 2 ^ w : Nat) : Int))) = sgn w a := by decide +kernel
theorem l1Signed_sw {w a : Nat} (h : sw w) (ha : a < 2 ^ w) : Pu Tryz.prog 114 [I w, U a] (I (sgn w a)) := by
  have hp := pow5 h
  refine Pu.of fun H => ?_
  refine W114_ok ?_; simp (maxSteps := 1000000) (disch := first | assumption | (apply Ne.symm; assumption)) only [W114, vz, vu, vv, eqS, eqFieldsV, ↓condV_t, ↓condV_f, tabs, reduceCtorEq, Array.toList, ↓reduceIte, Nat.reduceAdd, Nat.reduceLeDiff, Nat.reduceLT, Nat.reduceMul, Nat.reduceSub, Int.reduceToNat, Int.reduceSub, Int.reduceAdd, Int.reduceNeg]
  have h1 := h.1
  have h2 := h.2
  refine ⟨sg2 w (by omega) h1, fun hc => ?_, fun hc => ?_⟩
  · refine Pu.use (l1Cut_sw (a := 18446744073709551615) h (by omega)) ?_
    (try simp (maxSteps := 1000000) (disch := first | assumption | (apply Ne.symm; assumption)) only [vz, vu, vv, eqS, eqFieldsV, ↓condV_t, ↓condV_f, tabs, reduceCtorEq, Array.toList, ↓reduceIte, Nat.reduceAdd, Nat.reduceLeDiff, Nat.reduceLT, Nat.reduceMul, Nat.reduceSub, Int.reduceToNat, Int.reduceSub, Int.reduceAdd, Int.reduceNeg])
    rw [sg4 w (by omega) a (by omega) h1 ha hc]
  · rw [sg3 w (by omega) a (by omega) h1 ha hc]
theorem truth_spec (b : Bool) : Pu Tryz.prog 80 [B b] (U ((if b = true then 1 else 0 : Nat) : Int)) := by
  refine Pu.of fun H => ?_
  refine W80_ok ?_; simp (maxSteps := 1000000) (disch := first | assumption | (apply Ne.symm; assumption)) only [W80, vz, vu, vv, eqS, eqFieldsV, ↓condV_t, ↓condV_f, tabs, reduceCtorEq, Array.toList, ↓reduceIte, Nat.reduceAdd, Nat.reduceLeDiff, Nat.reduceLT, Nat.reduceMul, Nat.reduceSub, Int.reduceToNat, Int.reduceSub, Int.reduceAdd, Int.reduceNeg]
  cases b <;> simp
theorem l2Bool_spec (b : Bool) : Pu Tryz.prog 113 [B b] (U ((if b = true then 1 else 0 : Nat) : Int)) := by
  refine Pu.of fun H => ?_
  refine W113_ok ?_; simp (maxSteps := 1000000) (disch := first | assumption | (apply Ne.symm; assumption)) only [W113, vz, vu, vv, eqS, eqFieldsV, ↓condV_t, ↓condV_f, tabs, reduceCtorEq, Array.toList, ↓reduceIte, Nat.reduceAdd, Nat.reduceLeDiff, Nat.reduceLT, Nat.reduceMul, Nat.reduceSub, Int.reduceToNat, Int.reduceSub, Int.reduceAdd, Int.reduceNeg]
  cases b <;> simp
theorem and_fin {w x v : Nat} (h : sw w) (hx : x < 2 ^ 64) (e : x % 2 ^ w = v) {H : Heap} : CallT Tryz.prog 59 [I w] H fun m H2 => binV tab .and 68 (U x) m fun r => r = U v ∧ Heap.le H H2 := by
  refine Pu.use (mask_sw h) ?_
  (try simp (maxSteps := 1000000) (disch := first | assumption | (apply Ne.symm; assumption)) only [vz, vu, vv, eqS, eqFieldsV, ↓condV_t, ↓condV_f, tabs, reduceCtorEq, Array.toList, ↓reduceIte, Nat.reduceAdd, Nat.reduceLeDiff, Nat.reduceLT, Nat.reduceMul, Nat.reduceSub, Int.reduceToNat, Int.reduceSub, Int.reduceAdd, Int.reduceNeg])
  rw [and_mask hx h, e]
theorem subW : ∀ w : Nat, w < 6 → ∀ a : Nat, a < 32 → ∀ b : Nat, b < 32 → a < 2 ^ w → b < 2 ^ w → (18446744073709551616 + a - b) % 18446744073709551616 % 2 ^ w = (a + 2 ^ w - b) % 2 ^ w := by decide +kernel
theorem subU {a b : Nat} (ha : a < 1000) (hb : b < 1000) : IntKind.u64.wrap ((a : Int) - b) = (((18446744073709551616 + a - b) % 18446744073709551616 : Nat) : Int) := by
  rw [IntKind.wrap_u64]; omega
theorem ite_dec (p : Prop) [Decidable p] : (if decide p = true then 1 else 0 : Nat) = if p then 1 else 0 := by by_cases h : p <;> simp [h]
theorem one_sw {w n : Nat} (h : sw w) (hn : n ≤ 1) : n % 2 ^ w = n := Nat.mod_eq_of_lt (by have := pow5 h; omega)
theorem quoW_lt {w a b : Nat} (h : sw w) (ha : a < 2 ^ w) : quoW w a b < 2 ^ w := by
  have hp := pow5 h
  unfold quoW; split
  · omega
  · exact div_lt' ha
theorem remW_lt {w a b : Nat} (ha : a < 2 ^ w) : remW a b < 2 ^ w := by
  unfold remW; split
  · exact ha
  · exact Nat.lt_of_le_of_lt (Nat.mod_le _ _) ha
theorem shW_lt {w a b : Nat} (l : Bool) (h : sw w) (ha : a < 2 ^ w) : shW w a b l < 2 ^ w := by
  have hp := pow5 h
  unfold shW; split
  · omega
  · split
    · exact Nat.mod_lt _ (Nat.two_pow_pos w)
    · exact div_lt' ha
theorem apply_sw {w a b : Nat} {op : Int} (h : sw w) (h2 : many op = 2) (ha : a < 2 ^ w) (hb : b < 2 ^ w) : Pu Tryz.prog 60 [I w, I op, U a, U b] (U (ap w op a b : Nat)) := by
  have hp := pow5 h
  have hab : a * b ≤ 32 * 32 := Nat.mul_le_mul (by omega) (by omega)
  refine Pu.of fun H => ?_
  rcases many2 h2 with h3 | h3 | rfl | rfl
  · obtain rfl | rfl | rfl | rfl | rfl | rfl | rfl | rfl | rfl | rfl : op = 3 ∨ op = 4 ∨ op = 5 ∨ op = 6 ∨ op = 7 ∨ op = 8 ∨ op = 9 ∨ op = 10 ∨ op = 11 ∨ op = 12 := by omega
    · refine W60_ok ?_; simp (maxSteps := 1000000) (disch := first | assumption | (apply Ne.symm; assumption)) only [W60, vz, vu, vv, eqS, eqFieldsV, ↓condV_t, ↓condV_f, tabs, reduceCtorEq, Array.toList, ↓reduceIte, Nat.reduceAdd, Nat.reduceLeDiff, Nat.reduceLT, Nat.reduceMul, Nat.reduceSub, Int.reduceToNat, Int.reduceSub, Int.reduceAdd, Int.reduceNeg, J60_0, J60_1, J60_2, Int.reduceEq]
      rw [← Int.natCast_add, wU (by omega)]
      exact and_fin h (by omega) rfl
    · refine W60_ok ?_; simp (maxSteps := 1000000) (disch := first | assumption | (apply Ne.symm; assumption)) only [W60, vz, vu, vv, eqS, eqFieldsV, ↓condV_t, ↓condV_f, tabs, reduceCtorEq, Array.toList, ↓reduceIte, Nat.reduceAdd, Nat.reduceLeDiff, Nat.reduceLT, Nat.reduceMul, Nat.reduceSub, Int.reduceToNat, Int.reduceSub, Int.reduceAdd, Int.reduceNeg, J60_0, J60_1, J60_2, Int.reduceEq]
      rw [subU (by omega) (by omega)]
      exact and_fin h (by omega) (subW w (by have := h.2; omega) a (by omega) b (by omega) ha hb)
    · refine W60_ok ?_; simp (maxSteps := 1000000) (disch := first | assumption | (apply Ne.symm; assumption)) only [W60, vz, vu, vv, eqS, eqFieldsV, ↓condV_t, ↓condV_f, tabs, reduceCtorEq, Array.toList, ↓reduceIte, Nat.reduceAdd, Nat.reduceLeDiff, Nat.reduceLT, Nat.reduceMul, Nat.reduceSub, Int.reduceToNat, Int.reduceSub, Int.reduceAdd, Int.reduceNeg, J60_0, J60_1, J60_2, Int.reduceEq]
      rw [← Int.natCast_mul, wU (by omega)]
      exact and_fin h (by omega) rfl
    · refine W60_ok ?_; simp (maxSteps := 1000000) (disch := first | assumption | (apply Ne.symm; assumption)) only [W60, vz, vu, vv, eqS, eqFieldsV, ↓condV_t, ↓condV_f, tabs, reduceCtorEq, Array.toList, ↓reduceIte, Nat.reduceAdd, Nat.reduceLeDiff, Nat.reduceLT, Nat.reduceMul, Nat.reduceSub, Int.reduceToNat, Int.reduceSub, Int.reduceAdd, Int.reduceNeg, J60_0, J60_1, J60_2, Int.reduceEq]
      refine Pu.use (DivWord_impl h ha hb) ?_
      (try simp (maxSteps := 1000000) (disch := first | assumption | (apply Ne.symm; assumption)) only [vz, vu, vv, eqS, eqFieldsV, ↓condV_t, ↓condV_f, tabs, reduceCtorEq, Array.toList, ↓reduceIte, Nat.reduceAdd, Nat.reduceLeDiff, Nat.reduceLT, Nat.reduceMul, Nat.reduceSub, Int.reduceToNat, Int.reduceSub, Int.reduceAdd, Int.reduceNeg])
      have := quoW_lt (b := b) h ha
      exact and_fin h (by omega) (Nat.mod_eq_of_lt this)
    · refine W60_ok ?_; simp (maxSteps := 1000000) (disch := first | assumption | (apply Ne.symm; assumption)) only [W60, vz, vu, vv, eqS, eqFieldsV, ↓condV_t, ↓condV_f, tabs, reduceCtorEq, Array.toList, ↓reduceIte, Nat.reduceAdd, Nat.reduceLeDiff, Nat.reduceLT, Nat.reduceMul, Nat.reduceSub, Int.reduceToNat, Int.reduceSub, Int.reduceAdd, Int.reduceNeg, J60_0, J60_1, J60_2, Int.reduceEq]
      refine Pu.use (DivWord_impl h ha hb) ?_
      (try simp (maxSteps := 1000000) (disch := first | assumption | (apply Ne.symm; assumption)) only [vz, vu, vv, eqS, eqFieldsV, ↓condV_t, ↓condV_f, tabs, reduceCtorEq, Array.toList, ↓reduceIte, Nat.reduceAdd, Nat.reduceLeDiff, Nat.reduceLT, Nat.reduceMul, Nat.reduceSub, Int.reduceToNat, Int.reduceSub, Int.reduceAdd, Int.reduceNeg])
      have := remW_lt (b := b) ha
      exact and_fin h (by omega) (Nat.mod_eq_of_lt this)
    · refine W60_ok ?_; simp (maxSteps := 1000000) (disch := first | assumption | (apply Ne.symm; assumption)) only [W60, vz, vu, vv, eqS, eqFieldsV, ↓condV_t, ↓condV_f, tabs, reduceCtorEq, Array.toList, ↓reduceIte, Nat.reduceAdd, Nat.reduceLeDiff, Nat.reduceLT, Nat.reduceMul, Nat.reduceSub, Int.reduceToNat, Int.reduceSub, Int.reduceAdd, Int.reduceNeg, J60_0, J60_1, J60_2, Int.reduceEq]
      rw [(bitsU a b (by omega) (by omega)).1]
      have := Nat.and_lt_two_pow a hb
      exact and_fin h (by omega) (Nat.mod_eq_of_lt this)
    · refine W60_ok ?_; simp (maxSteps := 1000000) (disch := first | assumption | (apply Ne.symm; assumption)) only [W60, vz, vu, vv, eqS, eqFieldsV, ↓condV_t, ↓condV_f, tabs, reduceCtorEq, Array.toList, ↓reduceIte, Nat.reduceAdd, Nat.reduceLeDiff, Nat.reduceLT, Nat.reduceMul, Nat.reduceSub, Int.reduceToNat, Int.reduceSub, Int.reduceAdd, Int.reduceNeg, J60_0, J60_1, J60_2, Int.reduceEq]
      rw [(bitsU a b (by omega) (by omega)).2]
      have := Nat.or_lt_two_pow ha hb
      exact and_fin h (by omega) (Nat.mod_eq_of_lt this)
    · refine W60_ok ?_; simp (maxSteps := 1000000) (disch := first | assumption | (apply Ne.symm; assumption)) only [W60, vz, vu, vv, eqS, eqFieldsV, ↓condV_t, ↓condV_f, tabs, reduceCtorEq, Array.toList, ↓reduceIte, Nat.reduceAdd, Nat.reduceLeDiff, Nat.reduceLT, Nat.reduceMul, Nat.reduceSub, Int.reduceToNat, Int.reduceSub, Int.reduceAdd, Int.reduceNeg, J60_0, J60_1, J60_2, Int.reduceEq]
      rw [xorU a b (by omega) (by omega)]
      have := Nat.xor_lt_two_pow ha hb
      exact and_fin h (by omega) (Nat.mod_eq_of_lt this)
    · refine W60_ok ?_; simp (maxSteps := 1000000) (disch := first | assumption | (apply Ne.symm; assumption)) only [W60, vz, vu, vv, eqS, eqFieldsV, ↓condV_t, ↓condV_f, tabs, reduceCtorEq, Array.toList, ↓reduceIte, Nat.reduceAdd, Nat.reduceLeDiff, Nat.reduceLT, Nat.reduceMul, Nat.reduceSub, Int.reduceToNat, Int.reduceSub, Int.reduceAdd, Int.reduceNeg, J60_0, J60_1, J60_2, Int.reduceEq]
      refine Pu.use (shift_sw true h ha hb) ?_
      (try simp (maxSteps := 1000000) (disch := first | assumption | (apply Ne.symm; assumption)) only [vz, vu, vv, eqS, eqFieldsV, ↓condV_t, ↓condV_f, tabs, reduceCtorEq, Array.toList, ↓reduceIte, Nat.reduceAdd, Nat.reduceLeDiff, Nat.reduceLT, Nat.reduceMul, Nat.reduceSub, Int.reduceToNat, Int.reduceSub, Int.reduceAdd, Int.reduceNeg])
      have := shW_lt (b := b) true h ha
      exact and_fin h (by omega) (Nat.mod_eq_of_lt this)
    · refine W60_ok ?_; simp (maxSteps := 1000000) (disch := first | assumption | (apply Ne.symm; assumption)) only [W60, vz, vu, vv, eqS, eqFieldsV, ↓condV_t, ↓condV_f, tabs, reduceCtorEq, Array.toList, ↓reduceIte, Nat.reduceAdd, Nat.reduceLeDiff, Nat.reduceLT, Nat.reduceMul, Nat.reduceSub, Int.reduceToNat, Int.reduceSub, Int.reduceAdd, Int.reduceNeg, J60_0, J60_1, J60_2, Int.reduceEq]
      refine Pu.use (shift_sw false h ha hb) ?_
      (try simp (maxSteps := 1000000) (disch := first | assumption | (apply Ne.symm; assumption)) only [vz, vu, vv, eqS, eqFieldsV, ↓condV_t, ↓condV_f, tabs, reduceCtorEq, Array.toList, ↓reduceIte, Nat.reduceAdd, Nat.reduceLeDiff, Nat.reduceLT, Nat.reduceMul, Nat.reduceSub, Int.reduceToNat, Int.reduceSub, Int.reduceAdd, Int.reduceNeg])
      have := shW_lt (b := b) false h ha
      exact and_fin h (by omega) (Nat.mod_eq_of_lt this)
  · obtain rfl | rfl | rfl : op = 14 ∨ op = 15 ∨ op = 16 := by omega
    · refine W60_ok ?_; simp (maxSteps := 1000000) (disch := first | assumption | (apply Ne.symm; assumption)) only [W60, vz, vu, vv, eqS, eqFieldsV, ↓condV_t, ↓condV_f, tabs, reduceCtorEq, Array.toList, ↓reduceIte, Nat.reduceAdd, Nat.reduceLeDiff, Nat.reduceLT, Nat.reduceMul, Nat.reduceSub, Int.reduceToNat, Int.reduceSub, Int.reduceAdd, Int.reduceNeg, J60_0, J60_1, J60_2, Int.reduceEq]
      refine Pu.use (truth_spec _) ?_
      (try simp (maxSteps := 1000000) (disch := first | assumption | (apply Ne.symm; assumption)) only [vz, vu, vv, eqS, eqFieldsV, ↓condV_t, ↓condV_f, tabs, reduceCtorEq, Array.toList, ↓reduceIte, Nat.reduceAdd, Nat.reduceLeDiff, Nat.reduceLT, Nat.reduceMul, Nat.reduceSub, Int.reduceToNat, Int.reduceSub, Int.reduceAdd, Int.reduceNeg])
      refine and_fin h (by split <;> omega) ?_
      rw [one_sw h (ite01 _)]
      show _ = (if a = b then 1 else 0)
      by_cases hh : a = b
      · rw [if_pos hh, if_pos (by omega)]
      · rw [if_neg hh, if_neg (by omega)]
    · refine W60_ok ?_; simp (maxSteps := 1000000) (disch := first | assumption | (apply Ne.symm; assumption)) only [W60, vz, vu, vv, eqS, eqFieldsV, ↓condV_t, ↓condV_f, tabs, reduceCtorEq, Array.toList, ↓reduceIte, Nat.reduceAdd, Nat.reduceLeDiff, Nat.reduceLT, Nat.reduceMul, Nat.reduceSub, Int.reduceToNat, Int.reduceSub, Int.reduceAdd, Int.reduceNeg, J60_0, J60_1, J60_2, Int.reduceEq]
      refine Pu.use (truth_spec _) ?_
      (try simp (maxSteps := 1000000) (disch := first | assumption | (apply Ne.symm; assumption)) only [vz, vu, vv, eqS, eqFieldsV, ↓condV_t, ↓condV_f, tabs, reduceCtorEq, Array.toList, ↓reduceIte, Nat.reduceAdd, Nat.reduceLeDiff, Nat.reduceLT, Nat.reduceMul, Nat.reduceSub, Int.reduceToNat, Int.reduceSub, Int.reduceAdd, Int.reduceNeg])
      refine and_fin h (by split <;> omega) ?_
      rw [one_sw h (ite01 _)]
      show _ = (if a < b then 1 else 0)
      by_cases hh : a < b
      · rw [if_pos hh, if_pos (by omega)]
      · rw [if_neg hh, if_neg (by omega)]
    · refine W60_ok ?_; simp (maxSteps := 1000000) (disch := first | assumption | (apply Ne.symm; assumption)) only [W60, vz, vu, vv, eqS, eqFieldsV, ↓condV_t, ↓condV_f, tabs, reduceCtorEq, Array.toList, ↓reduceIte, Nat.reduceAdd, Nat.reduceLeDiff, Nat.reduceLT, Nat.reduceMul, Nat.reduceSub, Int.reduceToNat, Int.reduceSub, Int.reduceAdd, Int.reduceNeg, J60_0, J60_1, J60_2, Int.reduceEq]
      refine Pu.use (signed_sw h ha) ?_
      (try simp (maxSteps := 1000000) (disch := first | assumption | (apply Ne.symm; assumption)) only [vz, vu, vv, eqS, eqFieldsV, ↓condV_t, ↓condV_f, tabs, reduceCtorEq, Array.toList, ↓reduceIte, Nat.reduceAdd, Nat.reduceLeDiff, Nat.reduceLT, Nat.reduceMul, Nat.reduceSub, Int.reduceToNat, Int.reduceSub, Int.reduceAdd, Int.reduceNeg])
      refine Pu.use (signed_sw h hb) ?_
      (try simp (maxSteps := 1000000) (disch := first | assumption | (apply Ne.symm; assumption)) only [vz, vu, vv, eqS, eqFieldsV, ↓condV_t, ↓condV_f, tabs, reduceCtorEq, Array.toList, ↓reduceIte, Nat.reduceAdd, Nat.reduceLeDiff, Nat.reduceLT, Nat.reduceMul, Nat.reduceSub, Int.reduceToNat, Int.reduceSub, Int.reduceAdd, Int.reduceNeg])
      refine Pu.use (truth_spec _) ?_
      (try simp (maxSteps := 1000000) (disch := first | assumption | (apply Ne.symm; assumption)) only [vz, vu, vv, eqS, eqFieldsV, ↓condV_t, ↓condV_f, tabs, reduceCtorEq, Array.toList, ↓reduceIte, Nat.reduceAdd, Nat.reduceLeDiff, Nat.reduceLT, Nat.reduceMul, Nat.reduceSub, Int.reduceToNat, Int.reduceSub, Int.reduceAdd, Int.reduceNeg])
      refine and_fin h (by split <;> omega) ?_
      rw [one_sw h (ite01 _)]
      show _ = (if sgn w a < sgn w b then 1 else 0)
      rfl
  · refine W60_ok ?_; simp (maxSteps := 1000000) (disch := first | assumption | (apply Ne.symm; assumption)) only [W60, vz, vu, vv, eqS, eqFieldsV, ↓condV_t, ↓condV_f, tabs, reduceCtorEq, Array.toList, ↓reduceIte, Nat.reduceAdd, Nat.reduceLeDiff, Nat.reduceLT, Nat.reduceMul, Nat.reduceSub, Int.reduceToNat, Int.reduceSub, Int.reduceAdd, Int.reduceNeg, J60_0, J60_1, J60_2, Int.reduceEq]
    rw [(bitsU a b (by omega) (by omega)).1]
    have := Nat.and_lt_two_pow a hb
    exact and_fin h (by omega) (Nat.mod_eq_of_lt this)
  · refine W60_ok ?_; simp (maxSteps := 1000000) (disch := first | assumption | (apply Ne.symm; assumption)) only [W60, vz, vu, vv, eqS, eqFieldsV, ↓condV_t, ↓condV_f, tabs, reduceCtorEq, Array.toList, ↓reduceIte, Nat.reduceAdd, Nat.reduceLeDiff, Nat.reduceLT, Nat.reduceMul, Nat.reduceSub, Int.reduceToNat, Int.reduceSub, Int.reduceAdd, Int.reduceNeg, J60_0, J60_1, J60_2, Int.reduceEq]
    rw [(bitsU a b (by omega) (by omega)).2]
    have := Nat.or_lt_two_pow ha hb
    exact and_fin h (by omega) (Nat.mod_eq_of_lt this)
theorem l2Do_sw {w a b : Nat} {op : Int} (h : sw w) (h2 : many op = 2) (ha : a < 2 ^ w) (hb : b < 2 ^ w) : Pu Tryz.prog 107 [I w, I op, U a, U b] (U (ap w op a b : Nat)) := by
  have hp := pow5 h
  have hab : a * b ≤ 32 * 32 := Nat.mul_le_mul (by omega) (by omega)
  refine Pu.of fun H => ?_
  rcases many2 h2 with h3 | h3 | rfl | rfl
  · obtain rfl | rfl | rfl | rfl | rfl | rfl | rfl | rfl | rfl | rfl : op = 3 ∨ op = 4 ∨ op = 5 ∨ op = 6 ∨ op = 7 ∨ op = 8 ∨ op = 9 ∨ op = 10 ∨ op = 11 ∨ op = 12 := by omega
    all_goals
      refine W107_ok ?_; simp (maxSteps := 1000000) (disch := first | assumption | (apply Ne.symm; assumption)) only [W107, vz, vu, vv, eqS, eqFieldsV, ↓condV_t, ↓condV_f, tabs, reduceCtorEq, Array.toList, ↓reduceIte, Nat.reduceAdd, Nat.reduceLeDiff, Nat.reduceLT, Nat.reduceMul, Nat.reduceSub, Int.reduceToNat, Int.reduceSub, Int.reduceAdd, Int.reduceNeg, J107_0, J107_1, Int.reduceEq]
      refine Pu.use (DivWord_ref h ha hb) ?_
      (try simp (maxSteps := 1000000) (disch := first | assumption | (apply Ne.symm; assumption)) only [vz, vu, vv, eqS, eqFieldsV, ↓condV_t, ↓condV_f, tabs, reduceCtorEq, Array.toList, ↓reduceIte, Nat.reduceAdd, Nat.reduceLeDiff, Nat.reduceLT, Nat.reduceMul, Nat.reduceSub, Int.reduceToNat, Int.reduceSub, Int.reduceAdd, Int.reduceNeg, J107_0, J107_1, Int.reduceEq])
    · rw [← Int.natCast_add, wU (by omega)]
      exact Pu.use (l1Cut_sw h (by omega)) ⟨rfl, Heap.le_refl _⟩
    · rw [subU (by omega) (by omega)]
      refine Pu.use (l1Cut_sw h (by omega)) ⟨?_, Heap.le_refl _⟩
      rw [subW w (by have := h.2; omega) a (by omega) b (by omega) ha hb]; rfl
    · rw [← Int.natCast_mul, wU (by omega)]
      exact Pu.use (l1Cut_sw h (by omega)) ⟨rfl, Heap.le_refl _⟩
    · rfl
    · rfl
    · rw [(bitsU a b (by omega) (by omega)).1]; rfl
    · rw [(bitsU a b (by omega) (by omega)).2]; rfl
    · rw [xorU a b (by omega) (by omega)]; rfl
    · exact Pu.use (l1Shift_sw true h ha hb) ⟨rfl, Heap.le_refl _⟩
    · exact Pu.use (l1Shift_sw false h ha hb) ⟨rfl, Heap.le_refl _⟩
  · obtain rfl | rfl | rfl : op = 14 ∨ op = 15 ∨ op = 16 := by omega
    all_goals
      refine W107_ok ?_; simp (maxSteps := 1000000) (disch := first | assumption | (apply Ne.symm; assumption)) only [W107, vz, vu, vv, eqS, eqFieldsV, ↓condV_t, ↓condV_f, tabs, reduceCtorEq, Array.toList, ↓reduceIte, Nat.reduceAdd, Nat.reduceLeDiff, Nat.reduceLT, Nat.reduceMul, Nat.reduceSub, Int.reduceToNat, Int.reduceSub, Int.reduceAdd, Int.reduceNeg, J107_0, J107_1, Int.reduceEq]
      refine Pu.use (DivWord_ref h ha hb) ?_
      (try simp (maxSteps := 1000000) (disch := first | assumption | (apply Ne.symm; assumption)) only [vz, vu, vv, eqS, eqFieldsV, ↓condV_t, ↓condV_f, tabs, reduceCtorEq, Array.toList, ↓reduceIte, Nat.reduceAdd, Nat.reduceLeDiff, Nat.reduceLT, Nat.reduceMul, Nat.reduceSub, Int.reduceToNat, Int.reduceSub, Int.reduceAdd, Int.reduceNeg, J107_0, J107_1, Int.reduceEq])
    · refine Pu.use (l2Bool_spec _) ⟨?_, Heap.le_refl _⟩
      have e : ap w 14 a b = if a = b then 1 else 0 := rfl
      rw [e, ite_dec]
      by_cases hh : a = b
      · rw [if_pos hh, if_pos (by omega)]
      · rw [if_neg hh, if_neg (by omega)]
    · refine Pu.use (l2Bool_spec _) ⟨?_, Heap.le_refl _⟩
      have e : ap w 15 a b = if a < b then 1 else 0 := rfl
      rw [e, ite_dec]
      by_cases hh : a < b
      · rw [if_pos hh, if_pos (by omega)]
      · rw [if_neg hh, if_neg (by omega)]
    · refine Pu.use (l1Signed_sw h ha) ?_
      (try simp (maxSteps := 1000000) (disch := first | assumption | (apply Ne.symm; assumption)) only [vz, vu, vv, eqS, eqFieldsV, ↓condV_t, ↓condV_f, tabs, reduceCtorEq, Array.toList, ↓reduceIte, Nat.reduceAdd, Nat.reduceLeDiff, Nat.reduceLT, Nat.reduceMul, Nat.reduceSub, Int.reduceToNat, Int.reduceSub, Int.reduceAdd, Int.reduceNeg])
      refine Pu.use (l1Signed_sw h hb) ?_
      (try simp (maxSteps := 1000000) (disch := first | assumption | (apply Ne.symm; assumption)) only [vz, vu, vv, eqS, eqFieldsV, ↓condV_t, ↓condV_f, tabs, reduceCtorEq, Array.toList, ↓reduceIte, Nat.reduceAdd, Nat.reduceLeDiff, Nat.reduceLT, Nat.reduceMul, Nat.reduceSub, Int.reduceToNat, Int.reduceSub, Int.reduceAdd, Int.reduceNeg])
      refine Pu.use (l2Bool_spec _) ⟨?_, Heap.le_refl _⟩
      have e : ap w 16 a b = if sgn w a < sgn w b then 1 else 0 := rfl
      rw [e, ite_dec]
  · refine W107_ok ?_; simp (maxSteps := 1000000) (disch := first | assumption | (apply Ne.symm; assumption)) only [W107, vz, vu, vv, eqS, eqFieldsV, ↓condV_t, ↓condV_f, tabs, reduceCtorEq, Array.toList, ↓reduceIte, Nat.reduceAdd, Nat.reduceLeDiff, Nat.reduceLT, Nat.reduceMul, Nat.reduceSub, Int.reduceToNat, Int.reduceSub, Int.reduceAdd, Int.reduceNeg, J107_0, J107_1, Int.reduceEq]
    refine Pu.use (DivWord_ref h ha hb) ?_
    (try simp (maxSteps := 1000000) (disch := first | assumption | (apply Ne.symm; assumption)) only [vz, vu, vv, eqS, eqFieldsV, ↓condV_t, ↓condV_f, tabs, reduceCtorEq, Array.toList, ↓reduceIte, Nat.reduceAdd, Nat.reduceLeDiff, Nat.reduceLT, Nat.reduceMul, Nat.reduceSub, Int.reduceToNat, Int.reduceSub, Int.reduceAdd, Int.reduceNeg, J107_0, J107_1, Int.reduceEq])
    rw [(bitsU a b (by omega) (by omega)).1]; rfl
  · refine W107_ok ?_; simp (maxSteps := 1000000) (disch := first | assumption | (apply Ne.symm; assumption)) only [W107, vz, vu, vv, eqS, eqFieldsV, ↓condV_t, ↓condV_f, tabs, reduceCtorEq, Array.toList, ↓reduceIte, Nat.reduceAdd, Nat.reduceLeDiff, Nat.reduceLT, Nat.reduceMul, Nat.reduceSub, Int.reduceToNat, Int.reduceSub, Int.reduceAdd, Int.reduceNeg, J107_0, J107_1, Int.reduceEq]
    refine Pu.use (DivWord_ref h ha hb) ?_
    (try simp (maxSteps := 1000000) (disch := first | assumption | (apply Ne.symm; assumption)) only [vz, vu, vv, eqS, eqFieldsV, ↓condV_t, ↓condV_f, tabs, reduceCtorEq, Array.toList, ↓reduceIte, Nat.reduceAdd, Nat.reduceLeDiff, Nat.reduceLT, Nat.reduceMul, Nat.reduceSub, Int.reduceToNat, Int.reduceSub, Int.reduceAdd, Int.reduceNeg, J107_0, J107_1, Int.reduceEq])
    rw [(bitsU a b (by omega) (by omega)).2]; rfl
end Go.Proofs.YtdnfiacjoghfkaaGreat
/- Specs: values of terms, in the program (by a pile) and in the reference (by trees). -/
namespace Go.Proofs.YtdnfiacjoghfkaaGreat
open Go Go.Sep Go.Pt
set_option linter.unusedSimpArgs false
set_option linter.unusedVariables false
attribute [local irreducible] CallT

abbrev eW (a : Nat) : List PV := [.int .u64 a]
abbrev fW (a : Nat) : PV := .int .u64 a
abbrev Ws (s : List Nat) : AV := .p (.sl (s.map eW))

/-! ### The reference -/
theorem l2From_of (t : List Nd) (hl : t.length ≤ 1048576) (k : Nat) (hk : k < t.length) (fs : Nat → Nat) (h0 : fs 0 = k)
    (hs : ∀ j, j < many (t.getD k default).op → 1 ≤ fs j ∧ fs j ≤ k ∧ Pu Tryz.prog 108 [Ns t, I ((fs j - 1 : Nat) : Int)] (I (fs (j + 1)))) : Pu Tryz.prog 108 [Ns t, I k] (I (fs (many (t.getD k default).op))) := by
  refine Pu.of fun H => ?_
  refine W108_ok ?_; simp (maxSteps := 1000000) (disch := first | assumption | (apply Ne.symm; assumption)) only [W108, vz, vu, vv, eqS, eqFieldsV, ↓condV_t, ↓condV_f, tabs, reduceCtorEq, Array.toList, ↓reduceIte, Nat.reduceAdd, Nat.reduceLeDiff, Nat.reduceLT, Nat.reduceMul, Nat.reduceSub, Int.reduceToNat, Int.reduceSub, Int.reduceAdd, Int.reduceNeg]
  refine ⟨by omega, by omega, ?_⟩
  refine l2Need_spec _ fun pp hpp => ?_
  (try simp (maxSteps := 1000000) (disch := first | assumption | (apply Ne.symm; assumption)) only [vz, vu, vv, eqS, eqFieldsV, ↓condV_t, ↓condV_f, tabs, reduceCtorEq, Array.toList, ↓reduceIte, Nat.reduceAdd, Nat.reduceLeDiff, Nat.reduceLT, Nat.reduceMul, Nat.reduceSub, Int.reduceToNat, Int.reduceSub, Int.reduceAdd, Int.reduceNeg])
  have hml := many_le (t.getD k default).op
  generalize many (t.getD k default).op = m at hs hml ⊢
  refine L108_0_rule (0 : Nat) (fun j => I ((m - j : Nat) : Int)) (fun j => I (fs j)) (fun _ => H) (fun j => j ≤ m) (fun j => m - j) ⟨by omega, .refl _, by rw [h0]; exact .refl _, Heap.le_refl _⟩ ?_
  intro j hj
  (try simp (maxSteps := 1000000) (disch := first | assumption | (apply Ne.symm; assumption)) only [vz, vu, vv, eqS, eqFieldsV, ↓condV_t, ↓condV_f, tabs, reduceCtorEq, Array.toList, ↓reduceIte, Nat.reduceAdd, Nat.reduceLeDiff, Nat.reduceLT, Nat.reduceMul, Nat.reduceSub, Int.reduceToNat, Int.reduceSub, Int.reduceAdd, Int.reduceNeg, B108_0])
  refine ⟨fun h1 => ?_, fun h1 => ?_⟩
  · obtain ⟨h2, h3, h4⟩ := hs j (by omega)
    have e : IntKind.i64.wrap ((fs j : Int) - 1) = ((fs j - 1 : Nat) : Int) := by rw [i64_id (by omega) (by omega)]; omega
    rw [e]
    refine Pu.use h4 ?_
    (try simp (maxSteps := 1000000) (disch := first | assumption | (apply Ne.symm; assumption)) only [vz, vu, vv, eqS, eqFieldsV, ↓condV_t, ↓condV_f, tabs, reduceCtorEq, Array.toList, ↓reduceIte, Nat.reduceAdd, Nat.reduceLeDiff, Nat.reduceLT, Nat.reduceMul, Nat.reduceSub, Int.reduceToNat, Int.reduceSub, Int.reduceAdd, Int.reduceNeg])
    refine ⟨j + 1, by omega, by omega, ?_, .refl _⟩
    rw [wk_int, i64_id (by omega) (by omega)]; omega
  · have : j = m := by omega
    subst this; rfl
theorem l2From_tr {w : Nat} {t : List Nd} {s : List Nat} (hl : t.length ≤ 1048576) {k f : Nat} {kd : Int} {a : Nat} (h : Tr w t s k f kd a) : Pu Tryz.prog 108 [Ns t, I k] (I f) := by
  induction h with
  | leaf k hk h0 ho hv =>
    have := l2From_of t hl k hk (fun _ => k) rfl fun j hj => by omega
    exact this
  | one k f a hk h1 h ih =>
    have := l2From_of t hl (k + 1) hk (fun j => if j = 0 then k + 1 else f) rfl fun j hj => by
      have : j = 0 := by omega
      subst this
      exact ⟨by simp, by simp, by simpa using ih⟩
    rw [h1] at this
    simpa using this
  | two k f g a b hk h2 hb ha ihb iha =>
    have hlt := hb.lt
    have := l2From_of t hl (k + 1) hk (fun j => if j = 0 then k + 1 else if j = 1 then f + 1 else g) rfl fun j hj => by
      have : j = 0 ∨ j = 1 := by omega
      rcases this with rfl | rfl
      · exact ⟨by simp, by simp, by simpa using ihb⟩
      · exact ⟨by simp, by simp; omega, by simpa using iha⟩
    rw [h2] at this
    simpa using this

theorem un_flip {w a : Nat} (h : sw w) (ha : a < 2 ^ w) : (18446744073709551615 - a) % 2 ^ w = 2 ^ w - 1 - a :=
  (by decide +kernel : ∀ w : Nat, w < 6 → ∀ a : Nat, a < 32 → a < 2 ^ w → (18446744073709551615 - a) % 2 ^ w = 2 ^ w - 1 - a) w (by have := h.2; omega) a (by have := pow5 h; omega) ha
theorem xorAll {a : Nat} (ha : a < 1000) : bitsI BinOp.xor IntKind.u64 (if IntKind.u64.signed = true then -1 else IntKind.u64.max) (a : Int) = ((18446744073709551615 - a : Nat) : Int) :=
  (by decide +kernel : ∀ a : Nat, a < 1000 → bitsI BinOp.xor IntKind.u64 (if IntKind.u64.signed = true then -1 else IntKind.u64.max) (a : Int) = ((18446744073709551615 - a : Nat) : Int)) a ha

theorem l2Value_tr {w : Nat} {t : List Nd} {s : List Nat} (h : sw w) (hl : t.length ≤ 1048576) (hx : ∀ x ∈ t, okN x) (hs : ∀ x ∈ t, x.op = 2 → x.n < s.length) {k f : Nat} {kd : Int} {a : Nat} (ht : Tr w t s k f kd a) : Pu Tryz.prog 99 [I w, Ns t, I k, Ws s] (U a) := by
  have hp := pow5 h
  induction ht with
  | leaf k hk h0 ho hv =>
    have hm : t.getD k default ∈ t := getD_all (p := fun x => x ∈ t) (fun _ h => h) hk
    have hxk := hx _ hm
    have hsk := hs _ hm
    refine Pu.of fun H => ?_
    refine W99_ok ?_; simp (maxSteps := 1000000) (disch := first | assumption | (apply Ne.symm; assumption)) only [W99, vz, vu, vv, eqS, eqFieldsV, ↓condV_t, ↓condV_f, tabs, reduceCtorEq, Array.toList, ↓reduceIte, Nat.reduceAdd, Nat.reduceLeDiff, Nat.reduceLT, Nat.reduceMul, Nat.reduceSub, Int.reduceToNat, Int.reduceSub, Int.reduceAdd, Int.reduceNeg]
    refine ⟨by omega, by omega, ?_⟩
    intro r hr
    generalize t.getD k default = x at *
    refine l2Need_spec _ fun pp hpp => ?_
    (try simp (maxSteps := 1000000) (disch := first | assumption | (apply Ne.symm; assumption)) only [vz, vu, vv, eqS, eqFieldsV, ↓condV_t, ↓condV_f, tabs, reduceCtorEq, Array.toList, ↓reduceIte, Nat.reduceAdd, Nat.reduceLeDiff, Nat.reduceLT, Nat.reduceMul, Nat.reduceSub, Int.reduceToNat, Int.reduceSub, Int.reduceAdd, Int.reduceNeg, h0])
    refine ⟨fun h1 => ⟨hxk.1, hsk h1, ?_, Heap.le_set hr⟩, fun h1 => ⟨fun _ => ⟨?_, Heap.le_set hr⟩, fun h => absurd rfl h⟩⟩
    · unfold leafV; rw [if_pos h1]; rfl
    · unfold leafV; rw [if_neg h1, Int.toNat_of_nonneg hxk.1]
  | one k f a hk h1 htr ih =>
    have hok := htr.okV h.1
    refine Pu.of fun H => ?_
    refine W99_ok ?_; simp (maxSteps := 1000000) (disch := first | assumption | (apply Ne.symm; assumption)) only [W99, vz, vu, vv, eqS, eqFieldsV, ↓condV_t, ↓condV_f, tabs, reduceCtorEq, Array.toList, ↓reduceIte, Nat.reduceAdd, Nat.reduceLeDiff, Nat.reduceLT, Nat.reduceMul, Nat.reduceSub, Int.reduceToNat, Int.reduceSub, Int.reduceAdd, Int.reduceNeg]
    refine ⟨by omega, by omega, ?_⟩
    intro r hr
    have e1 : IntKind.i64.wrap (((k + 1 : Nat) : Int) - 1) = k := by rw [i64_id (by omega) (by omega)]; omega
    generalize t.getD (k + 1) default = x at *
    have h13 := many1 h1
    have hlt : Heap.le H (H.set r [AV.p (PV.int IntKind.i64 x.op), AV.p (PV.int IntKind.u64 x.n)]) := Heap.le_set hr
    refine l2Need_spec _ fun pp hpp => ?_
    (try simp (maxSteps := 1000000) (disch := first | assumption | (apply Ne.symm; assumption)) only [vz, vu, vv, eqS, eqFieldsV, ↓condV_t, ↓condV_f, tabs, reduceCtorEq, Array.toList, ↓reduceIte, Nat.reduceAdd, Nat.reduceLeDiff, Nat.reduceLT, Nat.reduceMul, Nat.reduceSub, Int.reduceToNat, Int.reduceSub, Int.reduceAdd, Int.reduceNeg, h1, e1])
    refine ⟨fun h2 => by omega, fun _ => ⟨fun h2 => by omega, fun _ => ⟨fun h2 => ?_, fun h2 => ⟨fun h3 => ?_, fun h3 => by omega⟩⟩⟩⟩
    · have hb := hok.1
      refine Pu.use ih ?_
      (try simp (maxSteps := 1000000) (disch := first | assumption | (apply Ne.symm; assumption)) only [vz, vu, vv, eqS, eqFieldsV, ↓condV_t, ↓condV_f, tabs, reduceCtorEq, Array.toList, ↓reduceIte, Nat.reduceAdd, Nat.reduceLeDiff, Nat.reduceLT, Nat.reduceMul, Nat.reduceSub, Int.reduceToNat, Int.reduceSub, Int.reduceAdd, Int.reduceNeg])
      rw [xorAll (by omega)]
      refine Pu.use (l1Cut_sw h (by omega)) ⟨?_, hlt⟩
      rw [un_flip h hb, un, if_pos h2]
    · have hb : a ≤ 1 := hok.2 (by rw [h3]; decide)
      refine Pu.use ih ?_
      (try simp (maxSteps := 1000000) (disch := first | assumption | (apply Ne.symm; assumption)) only [vz, vu, vv, eqS, eqFieldsV, ↓condV_t, ↓condV_f, tabs, reduceCtorEq, Array.toList, ↓reduceIte, Nat.reduceAdd, Nat.reduceLeDiff, Nat.reduceLT, Nat.reduceMul, Nat.reduceSub, Int.reduceToNat, Int.reduceSub, Int.reduceAdd, Int.reduceNeg])
      have e2 : (1 : Int) - (a : Int) = ((1 - a : Nat) : Int) := by omega
      rw [e2, wU (by omega), un, if_neg h2]
      exact ⟨rfl, hlt⟩
  | two k f g a b hk h2 hb ha ihb iha =>
    have hoka := ha.okV h.1
    have hokb := hb.okV h.1
    have hblt := hb.lt
    refine Pu.of fun H => ?_
    refine W99_ok ?_; simp (maxSteps := 1000000) (disch := first | assumption | (apply Ne.symm; assumption)) only [W99, vz, vu, vv, eqS, eqFieldsV, ↓condV_t, ↓condV_f, tabs, reduceCtorEq, Array.toList, ↓reduceIte, Nat.reduceAdd, Nat.reduceLeDiff, Nat.reduceLT, Nat.reduceMul, Nat.reduceSub, Int.reduceToNat, Int.reduceSub, Int.reduceAdd, Int.reduceNeg]
    refine ⟨by omega, by omega, ?_⟩
    intro r hr
    have e1 : IntKind.i64.wrap (((k + 1 : Nat) : Int) - 1) = k := by rw [i64_id (by omega) (by omega)]; omega
    have e2 : IntKind.i64.wrap (((f + 1 : Nat) : Int) - 1) = f := by rw [i64_id (by omega) (by omega)]; omega
    have hfr := l2From_tr hl hb
    generalize t.getD (k + 1) default = x at *
    have h13 := many2 h2
    have hlt : Heap.le H (H.set r [AV.p (PV.int IntKind.i64 x.op), AV.p (PV.int IntKind.u64 x.n)]) := Heap.le_set hr
    refine l2Need_spec _ fun pp hpp => ?_
    (try simp (maxSteps := 1000000) (disch := first | assumption | (apply Ne.symm; assumption)) only [vz, vu, vv, eqS, eqFieldsV, ↓condV_t, ↓condV_f, tabs, reduceCtorEq, Array.toList, ↓reduceIte, Nat.reduceAdd, Nat.reduceLeDiff, Nat.reduceLT, Nat.reduceMul, Nat.reduceSub, Int.reduceToNat, Int.reduceSub, Int.reduceAdd, Int.reduceNeg, h2, e1])
    refine ⟨fun h3 => by omega, fun _ => ⟨fun h3 => by omega, fun _ => ⟨fun h3 => by omega, fun _ => ⟨fun h3 => by omega, fun _ => ?_⟩⟩⟩⟩
    refine Pu.use hfr ?_
    (try simp (maxSteps := 1000000) (disch := first | assumption | (apply Ne.symm; assumption)) only [vz, vu, vv, eqS, eqFieldsV, ↓condV_t, ↓condV_f, tabs, reduceCtorEq, Array.toList, ↓reduceIte, Nat.reduceAdd, Nat.reduceLeDiff, Nat.reduceLT, Nat.reduceMul, Nat.reduceSub, Int.reduceToNat, Int.reduceSub, Int.reduceAdd, Int.reduceNeg, e2])
    refine Pu.use iha ?_
    (try simp (maxSteps := 1000000) (disch := first | assumption | (apply Ne.symm; assumption)) only [vz, vu, vv, eqS, eqFieldsV, ↓condV_t, ↓condV_f, tabs, reduceCtorEq, Array.toList, ↓reduceIte, Nat.reduceAdd, Nat.reduceLeDiff, Nat.reduceLT, Nat.reduceMul, Nat.reduceSub, Int.reduceToNat, Int.reduceSub, Int.reduceAdd, Int.reduceNeg])
    refine Pu.use ihb ?_
    (try simp (maxSteps := 1000000) (disch := first | assumption | (apply Ne.symm; assumption)) only [vz, vu, vv, eqS, eqFieldsV, ↓condV_t, ↓condV_f, tabs, reduceCtorEq, Array.toList, ↓reduceIte, Nat.reduceAdd, Nat.reduceLeDiff, Nat.reduceLT, Nat.reduceMul, Nat.reduceSub, Int.reduceToNat, Int.reduceSub, Int.reduceAdd, Int.reduceNeg])
    exact Pu.use (l2Do_sw h h2 hoka.1 hokb.1) ⟨rfl, hlt⟩

/-! ### The program -/
theorem valueOf_spec {w v : Nat} {t : List Nd} {s : List Nat} {kd : Int} (h : sw w) (hl : t.length ≤ 1048576) (hx : ∀ x ∈ t, okN x) (hs : s.length = v) (hsw : ∀ a ∈ s, a < 2 ^ w) (hk0 : kd ≠ 0) (hk : kind w v t = kd) :
    Pu Tryz.prog 35 [I w, Ns t, Ws s] (U (tval w t s)) := by
  have hp := pow5 h
  obtain ⟨-, ht1, ht2, htr, hst, hend⟩ := kind_tree hs hsw (fun x hm => (hx x hm).1) hk0 hk
  refine Pu.of fun H => ?_
  refine W35_ok ?_; simp (maxSteps := 1000000) (disch := first | assumption | (apply Ne.symm; assumption)) only [W35, vz, vu, vv, eqS, eqFieldsV, ↓condV_t, ↓condV_f, tabs, reduceCtorEq, Array.toList, ↓reduceIte, Nat.reduceAdd, Nat.reduceLeDiff, Nat.reduceLT, Nat.reduceMul, Nat.reduceSub, Int.reduceToNat, Int.reduceSub, Int.reduceAdd, Int.reduceNeg, buildSliceV, zerosA, List.replicate_zero, List.flatten_nil]
  intro q0 hq0
  refine wkK.keep ?_
  (try simp (maxSteps := 1000000) (disch := first | assumption | (apply Ne.symm; assumption)) only [vz, vu, vv, eqS, eqFieldsV, ↓condV_t, ↓condV_f, tabs, reduceCtorEq, Array.toList, ↓reduceIte, Nat.reduceAdd, Nat.reduceLeDiff, Nat.reduceLT, Nat.reduceMul, Nat.reduceSub, Int.reduceToNat, Int.reduceSub, Int.reduceAdd, Int.reduceNeg])
  refine L35_0_rule ((0 : Nat), q0, ([] : List Nat)) (fun z => rowP z.2.1 z.2.2) (fun z => I z.1) (fun z => H.set z.2.1 (cP fW z.2.2)) (fun z => z.1 ≤ t.length ∧ z.2.2 = pileV w s t z.1 ∧ H z.2.1 = none) (fun z => t.length - z.1)
    ⟨⟨by simp, by simp [pileV], hq0⟩, .refl _, .refl _, Heap.le_refl _⟩ ?_
  rintro ⟨i, q, vs⟩ ⟨hi, hvs, hq⟩
  dsimp only at hi hvs hq
  obtain ⟨p, hsk, hstep⟩ := hst i hi
  rw [← hvs] at hsk
  have hlen := hsk.len
  (try simp (maxSteps := 1000000) (disch := first | assumption | (apply Ne.symm; assumption)) only [vz, vu, vv, eqS, eqFieldsV, ↓condV_t, ↓condV_f, tabs, reduceCtorEq, Array.toList, ↓reduceIte, Nat.reduceAdd, Nat.reduceLeDiff, Nat.reduceLT, Nat.reduceMul, Nat.reduceSub, Int.reduceToNat, Int.reduceSub, Int.reduceAdd, Int.reduceNeg, B35_0])
  refine ⟨fun h1 => ⟨by omega, h1, ?_⟩, fun h1 => ?_⟩
  · have hlt : i < t.length := by omega
    obtain ⟨p', hp'⟩ := hstep hlt
    have hm : t.getD i default ∈ t := getD_all (p := fun x => x ∈ t) (fun _ h => h) hlt
    have hxk := hx _ hm
    have hsucc := pileV_succ (w := w) (s := s) hlt
    rw [← hvs] at hsucc
    generalize t.getD i default = x at *
    intro r9 n9 hr9
    obtain ⟨ho, hlf, hmp, hkp, -⟩ := step_inv hp'
    have hvl : vs.length ≤ 1048576 := by
      have := hsk.bound
      omega
    have hokv := hsk.okV h.1
    have nn9 : q ≠ r9 := Ne.symm n9
    have hqG : ∀ z, ((H.set q (cP fW vs)).set r9 z) q = some (cP fW vs) := fun z => by rw [Heap.set_other nn9, Heap.set_same]
    have hle9 : ∀ z, Heap.le H ((H.set q (cP fW vs)).set r9 z) := fun z => Heap.le_setN (Heap.le_set hq) hr9
    have e5 : IntKind.i64.wrap ((i : Int) + 1) = ((i + 1 : Nat) : Int) := by rw [i64_id (by omega) (by omega)]; simp
    have e6 : 1 ≤ vs.length → IntKind.i64.wrap ((vs.length : Int) - 1) = ((vs.length - 1 : Nat) : Int) := fun h => by rw [i64_id (by omega) (by omega)]; omega
    have e7 : 2 ≤ vs.length → IntKind.i64.wrap (((vs.length - 1 : Nat) : Int) - 1) = ((vs.length - 2 : Nat) : Int) := fun h => by rw [i64_id (by omega) (by omega)]; omega
    rcases many_cases x.op with hm0 | hm1 | hm2
    · have hop := many0 hm0 ho
      have hpush : ∀ a : Nat, leafV s x = a → ∀ z, Heap.le H ((H.set q (cP fW vs)).set r9 z) → buildSliceV tab 65 1 [(0, U a)] ((H.set q (cP fW vs)).set r9 z) (wkK fun v48 H4 => appendV tab 65 65 (rowP q vs) v48 H4
          (wkK fun v49 H5 => ∃ s' : Nat × Nat × List Nat, (s'.fst ≤ t.length ∧ s'.snd.snd = pileV w s t s'.fst ∧ H s'.snd.fst = none) ∧ t.length - s'.fst < t.length - i ∧ v49.wk (rowP s'.snd.fst s'.snd.snd) ∧ (I ((i + 1 : Nat) : Int)).wk (I s'.fst) ∧ (H.set s'.snd.fst (cP fW s'.snd.snd)).le H5)) := by
        intro a ha z hz
        refine lit1 tab_65 rfl tab_68 ⟨rfl, rfl⟩ ?_
        refine app_row (f := fW) (xs := vs) (ys := [a]) tab_65 rfl tab_68 rfl (by decide) (hqG z) (by simp; omega) fun q' hq' => ?_
        refine ⟨(i + 1, q', vs ++ [a]), ⟨by simp only; omega, ?_, ?_⟩, by simp only; omega, .refl _, .refl _, ?_⟩
        · rw [hsucc, stepV, if_pos hm0, ha]
        · simp only [Heap.set_none] at hq'
          exact hq'.2.2
        · simp only [Heap.set_none] at hq'
          obtain ⟨p1, p2, p3⟩ := hq'
          generalize cP fW (vs ++ [a]) = zz
          (intro y b hy; simp only [Heap.set, Heap.del] at hy ⊢; (repeat' split at hy) <;> (repeat' split) <;> simp_all [cells])
      rcases hop with h1 | h1 | h1
      · (try simp (maxSteps := 1000000) (disch := first | assumption | (apply Ne.symm; assumption)) only [vz, vu, vv, eqS, eqFieldsV, ↓condV_t, ↓condV_f, tabs, reduceCtorEq, Array.toList, ↓reduceIte, Nat.reduceAdd, Nat.reduceLeDiff, Nat.reduceLT, Nat.reduceMul, Nat.reduceSub, Int.reduceToNat, Int.reduceSub, Int.reduceAdd, Int.reduceNeg, J35_1, e5, h1, Int.reduceEq])
        have := hpush x.n.toNat (by unfold leafV; rw [if_neg (by omega)]) [AV.p (PV.int IntKind.i64 1), AV.p (PV.int IntKind.u64 x.n)] (hle9 _)
        rw [Int.toNat_of_nonneg hxk.1] at this
        exact this
      · (try simp (maxSteps := 1000000) (disch := first | assumption | (apply Ne.symm; assumption)) only [vz, vu, vv, eqS, eqFieldsV, ↓condV_t, ↓condV_f, tabs, reduceCtorEq, Array.toList, ↓reduceIte, Nat.reduceAdd, Nat.reduceLeDiff, Nat.reduceLT, Nat.reduceMul, Nat.reduceSub, Int.reduceToNat, Int.reduceSub, Int.reduceAdd, Int.reduceNeg, J35_1, e5, h1, Int.reduceEq])
        have hlt2 : x.n < s.length := by
          unfold leafOk at hlf
          rw [if_neg (by omega), if_pos h1] at hlf
          have := of_decide_eq_true hlf
          omega
        exact ⟨hxk.1, hlt2, hpush (s.getD x.n.toNat default) (by unfold leafV; rw [if_pos h1]; rfl) _ (hle9 _)⟩
      · (try simp (maxSteps := 1000000) (disch := first | assumption | (apply Ne.symm; assumption)) only [vz, vu, vv, eqS, eqFieldsV, ↓condV_t, ↓condV_f, tabs, reduceCtorEq, Array.toList, ↓reduceIte, Nat.reduceAdd, Nat.reduceLeDiff, Nat.reduceLT, Nat.reduceMul, Nat.reduceSub, Int.reduceToNat, Int.reduceSub, Int.reduceAdd, Int.reduceNeg, J35_1, e5, h1, Int.reduceEq])
        have := hpush x.n.toNat (by unfold leafV; rw [if_neg (by omega)]) [AV.p (PV.int IntKind.i64 20), AV.p (PV.int IntKind.u64 x.n)] (hle9 _)
        rw [Int.toNat_of_nonneg hxk.1] at this
        exact this
    · have h13 := many1 hm1
      have hl1 : vs.length - 1 < vs.length := by omega
      have hrd := read_row (f := fW) (xs := vs) (k := vs.length - 1) 0 hl1
      have ho1 := hokv (vs.length - 1) hl1
      have hkd : p.getD (vs.length - 1) 0 = Pt.part x.op := by
        refine hkp _ ?_
        rw [hm1, ← hlen, getD_lt (by omega), List.mem_iff_getElem]
        exact ⟨0, by simp; omega, by rw [List.getElem_drop]; congr 1⟩
      rw [hkd] at ho1
      have hset : ∀ a, List.take (vs.length - 1) (cP fW vs) ++ [AV.p (fW a)] ++ List.drop (vs.length - 1 + 1) (cP fW vs) = cP fW (vs.take (vs.length - 1) ++ [a]) := by
        intro a
        have h2 : vs.length - 1 + 1 = vs.length := by omega
        rw [h2, List.drop_of_length_le (by simp), List.append_nil]
        simp [cP, List.map_take]
      generalize hrg : vs.getD (vs.length - 1) 0 = a at *
      have hwrap : ∀ a' : Nat, un w x.op a = a' → ∀ z, Heap.le H ((H.set q (cP fW vs)).set r9 z) → ∃ s' : Nat × Nat × List Nat, (s'.fst ≤ t.length ∧ s'.snd.snd = pileV w s t s'.fst ∧ H s'.snd.fst = none) ∧ t.length - s'.fst < t.length - i ∧ (rowP q vs).wk (rowP s'.snd.fst s'.snd.snd) ∧ (I ((i + 1 : Nat) : Int)).wk (I s'.fst) ∧ (H.set s'.snd.fst (cP fW s'.snd.snd)).le ((H.set q (cP fW (vs.take (vs.length - 1) ++ [a']))).set r9 z) := by
        intro a' ha' z hz
        refine ⟨(i + 1, q, vs.take (vs.length - 1) ++ [a']), ⟨by simp only; omega, ?_, hq⟩, by simp only; omega, ?_, .refl _, ?_⟩
        · rw [hsucc, stepV, if_neg (by omega), if_pos hm1, hrg, ha']
        · have : (vs.take (vs.length - 1) ++ [a']).length = vs.length := by simp; omega
          simp only [rowP, this]; exact .refl _
        · exact Heap.le_set (by rw [Heap.set_other (Ne.symm nn9)]; exact hr9)
      rcases h13 with h1 | h1
      · (try simp (maxSteps := 1000000) (disch := first | assumption | (apply Ne.symm; assumption)) only [vz, vu, vv, eqS, eqFieldsV, ↓condV_t, ↓condV_f, tabs, reduceCtorEq, Array.toList, ↓reduceIte, Nat.reduceAdd, Nat.reduceLeDiff, Nat.reduceLT, Nat.reduceMul, Nat.reduceSub, Int.reduceToNat, Int.reduceSub, Int.reduceAdd, Int.reduceNeg, J35_1, e5, e6 (by omega), h1, Int.reduceEq, hrd, Nat.mul_one])
        refine ⟨by omega, by omega, by omega, ?_⟩
        have hb := ho1.1
        rw [xorAll (by omega)]
        refine Pu.use (mask_sw h) ?_
        (try simp (maxSteps := 1000000) (disch := first | assumption | (apply Ne.symm; assumption)) only [vz, vu, vv, eqS, eqFieldsV, ↓condV_t, ↓condV_f, tabs, reduceCtorEq, Array.toList, ↓reduceIte, Nat.reduceAdd, Nat.reduceLeDiff, Nat.reduceLT, Nat.reduceMul, Nat.reduceSub, Int.reduceToNat, Int.reduceSub, Int.reduceAdd, Int.reduceNeg, load_at (hqG _), hrd, Nat.mul_one])
        rw [and_mask (by omega) h, un_flip h hb]
        refine ⟨by omega, by omega, by omega, by omega, ?_⟩
        rw [hset]
        exact hwrap (2 ^ w - 1 - a) (by rw [un, if_pos h1]) _ (hle9 _)
      · (try simp (maxSteps := 1000000) (disch := first | assumption | (apply Ne.symm; assumption)) only [vz, vu, vv, eqS, eqFieldsV, ↓condV_t, ↓condV_f, tabs, reduceCtorEq, Array.toList, ↓reduceIte, Nat.reduceAdd, Nat.reduceLeDiff, Nat.reduceLT, Nat.reduceMul, Nat.reduceSub, Int.reduceToNat, Int.reduceSub, Int.reduceAdd, Int.reduceNeg, J35_1, e5, e6 (by omega), h1, Int.reduceEq, hrd, Nat.mul_one])
        have hb : a ≤ 1 := ho1.2 (by rw [h1]; decide)
        have e2 : (1 : Int) - (a : Int) = ((1 - a : Nat) : Int) := by omega
        rw [e2, wU (by omega)]
        refine ⟨by omega, by omega, by omega, by omega, by omega, by omega, ?_⟩
        rw [hset]
        exact hwrap (1 - a) (by rw [un, if_neg (by omega)]) _ (hle9 _)
    · have h13 := many2 hm2
      have hl1 : vs.length - 1 < vs.length := by omega
      have hl2 : vs.length - 2 < vs.length := by omega
      have hrd1 := read_row (f := fW) (xs := vs) (k := vs.length - 1) 0 hl1
      have hrd2 := read_row (f := fW) (xs := vs) (k := vs.length - 2) 0 hl2
      have ho1 := hokv (vs.length - 1) hl1
      have ho2 := hokv (vs.length - 2) hl2
      generalize hg1 : vs.getD (vs.length - 1) 0 = b at *
      generalize hg2 : vs.getD (vs.length - 2) 0 = a at *
      have n1 : ¬ x.op = 1 := by omega
      have n2 : ¬ x.op = 2 := by omega
      have n3 : ¬ x.op = 13 := by omega
      have n4 : ¬ x.op = 19 := by omega
      have n5 : ¬ x.op = 20 := by omega
      (try simp (maxSteps := 1000000) (disch := first | assumption | (apply Ne.symm; assumption)) only [vz, vu, vv, eqS, eqFieldsV, ↓condV_t, ↓condV_f, tabs, reduceCtorEq, Array.toList, ↓reduceIte, Nat.reduceAdd, Nat.reduceLeDiff, Nat.reduceLT, Nat.reduceMul, Nat.reduceSub, Int.reduceToNat, Int.reduceSub, Int.reduceAdd, Int.reduceNeg, J35_1, e5, e6 (by omega), e7 (by omega), hrd1, hrd2, Nat.mul_one, n1, n2, n3, n4, n5])
      have hkd1 : p.getD (vs.length - 1) 0 = Pt.part x.op := by
        refine hkp _ ?_
        rw [hm2, ← hlen, getD_lt (by omega), List.mem_iff_getElem]
        exact ⟨1, by simp; omega, by rw [List.getElem_drop]; congr 1; omega⟩
      have hkd2 : p.getD (vs.length - 2) 0 = Pt.part x.op := by
        refine hkp _ ?_
        rw [hm2, ← hlen, getD_lt (by omega), List.mem_iff_getElem]
        exact ⟨0, by simp; omega, by rw [List.getElem_drop]; congr 1⟩
      rw [hkd1] at ho1
      rw [hkd2] at ho2
      refine ⟨by omega, by omega, by omega, by omega, by omega, by omega, by omega, by omega, by omega, ?_⟩
      refine Pu.use (apply_sw h hm2 ho2.1 ho1.1) ?_
      refine lit1 tab_65 rfl tab_68 ⟨rfl, rfl⟩ ?_
      refine app_prefix (f := fW) (xs := vs) (m := vs.length - 2) (ys := [ap w x.op a b]) tab_65 rfl tab_68 rfl (by decide) (hqG _) (by omega) (by simp; omega) fun q' hq' hne => ?_
      refine ⟨(i + 1, q', vs.take (vs.length - 2) ++ [ap w x.op a b]), ⟨by simp only; omega, ?_, ?_⟩, by simp only; omega, .refl _, .refl _, ?_⟩
      · rw [hsucc, stepV, if_neg (by omega), if_neg (by omega), hg1, hg2]
      · simp only [Heap.set_none] at hq'
        exact hq'.2.2
      · simp only [Heap.set_none] at hq'
        obtain ⟨p1, p2, p3⟩ := hq'
        generalize cP fW (vs.take (vs.length - 2) ++ [ap w x.op a b]) = zz
        (intro y b hy; simp only [Heap.set, Heap.del] at hy ⊢; (repeat' split at hy) <;> (repeat' split) <;> simp_all [cells])
  · have : i = t.length := by omega
    subst this
    have hl1 : vs.length = 1 := by rw [hvs]; exact hend
    have := read_row (f := fW) (xs := vs) (k := 0) 0 (by omega)
    rw [List.drop_zero] at this
    refine ⟨by omega, by omega, by omega, ?_, Heap.le_set hq⟩
    rw [this, tval, ← hvs]
end Go.Proofs.YtdnfiacjoghfkaaGreat
/- Plain facts on rows of numbers: sorted, without doubles. -/
namespace Go.Pt
set_option linter.unusedVariables false

/-- A number put into a rising row. -/
def put (l : List Int) (n : Int) : List Int := if n ∈ l then l else l.takeWhile (· < n) ++ n :: l.dropWhile (· < n)
end Go.Pt
/- Plain facts: states of small programs and their numbers, letters, successors. -/
namespace Go.Pt

def stOf (w v no : Nat) : List Nat := (List.range v).map fun i => no / 2 ^ (w * i) % 2 ^ w
theorem stOf_len (w v no : Nat) : (stOf w v no).length = v := by simp [stOf]
theorem stOf_succ (w v no : Nat) : stOf w (v + 1) no = stOf w v no ++ [no / 2 ^ (w * v) % 2 ^ w] := by simp [stOf, List.range_succ]
theorem stOf_lt (w v no : Nat) : ∀ a ∈ stOf w v no, a < 2 ^ w := by
  intro a ha
  obtain ⟨i, _, rfl⟩ := List.mem_map.1 ha
  exact Nat.mod_lt _ (Nat.two_pow_pos w)

/-- The number of a state. -/
def noOf (w : Nat) : List Nat → Nat
  | [] => 0
  | a :: s => noOf w s * 2 ^ w + a
/-- What a command makes of a state. -/
def aftK (w : Nat) (chs : List Ch) (s : List Nat) : Nat → List Nat
  | 0 => s
  | k + 1 => (aftK w chs s k).set (chs.getD k default).var.toNat (tval w (chs.getD k default).by_ s)
def enP (w : Nat) (s : List Nat) (c : Cm) : Bool := decide (tval w c.when_ s = 1)
def toP (w : Nat) (s : List Nat) (c : Cm) : Nat := noOf w (aftK w c.chs s c.chs.length)
/-- Where the first k commands lead. -/
def steps (p : Pg) (s : List Nat) (k : Nat) : List Int := ((p.cmds.take k).filter (enP p.wide.toNat s)).map fun c => (toP p.wide.toNat s c : Int)
def stP (p : Pg) (no : Nat) : List Nat := stOf p.wide.toNat p.vars.toNat no
def allP (p : Pg) : Nat := 2 ^ (p.wide * p.vars).toNat
def holdP (p : Pg) (t : List Nd) (no : Nat) : Bool := decide (tval p.wide.toNat t (stP p no) = 1)

/-- What a small program is. -/
structure SmallP (p : Pg) : Prop where
  w1 : 1 ≤ p.wide
  v1 : 1 ≤ p.vars
  v4 : p.vars ≤ 4
  wv : p.wide * p.vars ≤ 5
  w5 : p.wide ≤ 5
  start : kind p.wide p.vars p.start = 2
  cl : 1 ≤ p.cmds.length ∧ p.cmds.length ≤ 6
  cmd : ∀ c ∈ p.cmds, goodCm p.wide p.vars c = true
theorem smallP_of {p : Pg} (h : smallP p = true) : SmallP p := by
  simp only [smallP, Bool.and_eq_true, decide_eq_true_eq] at h
  have hr := goodP_rng h.1
  have hg := h.1
  simp only [goodP, Bool.and_eq_true, decide_eq_true_eq, List.all_eq_true] at hg
  have h5 : p.wide ≤ 5 := by
    have h2 := h.2
    obtain hv | hv | hv | hv : p.vars = 1 ∨ p.vars = 2 ∨ p.vars = 3 ∨ p.vars = 4 := by omega
    all_goals (rw [hv] at h2; omega)
  exact ⟨hr.1.1, hr.2.1, hr.2.2, h.2, h5, hg.1.1, hg.1.2, hg.2⟩
theorem SmallP.nat {p : Pg} (h : SmallP p) : ∃ w v : Nat, p.wide = w ∧ p.vars = v ∧ p.wide.toNat = w ∧ p.vars.toNat = v ∧ 1 ≤ w ∧ w ≤ 5 ∧ 1 ≤ v ∧ v ≤ 4 ∧ w * v ≤ 5 := by
  refine ⟨p.wide.toNat, p.vars.toNat, by have := h.w1; omega, by have := h.v1; omega, rfl, rfl, by have := h.w1; omega, by have := h.w5; omega, by have := h.v1; omega, by have := h.v4; omega, ?_⟩
  have h1 := h.wv
  have e1 : (p.wide.toNat : Int) = p.wide := Int.toNat_of_nonneg (by have := h.w1; omega)
  have e2 : (p.vars.toNat : Int) = p.vars := Int.toNat_of_nonneg (by have := h.v1; omega)
  have : ((p.wide.toNat * p.vars.toNat : Nat) : Int) = p.wide * p.vars := by rw [Int.natCast_mul, e1, e2]
  omega
theorem allP_nat {p : Pg} (h : SmallP p) : allP p = 2 ^ (p.wide.toNat * p.vars.toNat) := by
  obtain ⟨w, v, e1, e2, e3, e4, _⟩ := h.nat
  unfold allP
  rw [e3, e4, e1, e2, ← Int.natCast_mul, Int.toNat_natCast]
theorem allP_bd {p : Pg} (h : SmallP p) : 2 ≤ allP p ∧ allP p ≤ 32 := by
  obtain ⟨w, v, e1, e2, e3, e4, h1, h2, h3, h4, h5⟩ := h.nat
  rw [allP_nat h, e3, e4]
  have hpos : 1 ≤ w * v := Nat.mul_le_mul h1 h3
  have a := Nat.pow_le_pow_right (n := 2) (by decide) hpos
  have b := Nat.pow_le_pow_right (n := 2) (by decide) h5
  omega
end Go.Pt
/- Specs: states of small programs; whether a condition holds. -/
namespace Go.Proofs.YtdnfiacjoghfkaaGreat
open Go Go.Sep Go.Pt
set_option linter.unusedSimpArgs false
set_option linter.unusedVariables false
attribute [local irreducible] CallT

theorem sw_of {p : Pg} (h : SmallP p) : sw p.wide.toNat := by
  have := h.w1
  have := h.w5
  unfold sw; omega
theorem push_w {q : Nat} {xs : List Nat} {b : Nat} {G : Heap} {K : AV → Heap → Prop} (hq : G q = some (cP fW xs)) (hl : xs.length ≤ 100000000) (h : ∀ q', G q' = none → q' ≠ q → K (rowP q' (xs ++ [b])) ((G.del q).set q' (cP fW (xs ++ [b])))) :
    buildSliceV tab 65 1 [(0, U b)] G (wkK fun v H1 => appendV tab 65 65 (rowP q xs) v H1 (wkK K)) := by
  refine lit1 tab_65 rfl tab_68 ⟨rfl, rfl⟩ ?_
  refine app_row (f := fW) (ys := [b]) tab_65 rfl tab_68 rfl (by decide) hq (by simp; omega) fun q' hq' => h q' hq' fun e => by rw [e, hq] at hq'; cases hq'
theorem fin_w {q : Nat} {xs : List Nat} {H G : Heap} (hq : H q = none) (hG : Heap.le (H.set q (cP fW xs)) G) : wkK (fun r H' => r = Ws xs ∧ H' = H) (rowP q xs) G := by
  have := fin_own (sz := 1) (es := xs.map eW) (q := q) (H := H) (H' := G) (K := fun r H' => r = Ws xs ∧ H' = H) (by omega) (sized_map (f := eW) (fun _ => rfl) xs) hq (by rw [show cells (xs.map eW) = cP fW xs from cells_P fW xs]; exact hG) ⟨rfl, rfl⟩
  simpa only [Go.Sep.own, List.length_map] using this
theorem and_maskI {x w : Nat} (hx : x < 2 ^ 63) (h : sw w) : bitsI .and .i64 (x : Int) ((2 ^ w - 1 : Nat) : Int) = ((x % 2 ^ w : Nat) : Int) := by
  have hp := pow5 h
  have e : ∀ x : Nat, x < 2 ^ 63 → (BitVec.ofInt IntKind.i64.bits (x : Int)).toNat = x := by
    intro x hx
    have : BitVec.ofInt IntKind.i64.bits (x : Int) = BitVec.ofNat 64 x := by
      apply BitVec.eq_of_toNat_eq; simp [IntKind.bits]
    rw [this]
    show (BitVec.ofNat 64 x).toNat = x
    rw [BitVec.toNat_ofNat, Nat.mod_eq_of_lt (by omega)]
  simp only [bitsI]
  rw [BitVec.toNat_and, e x hx, e _ (by omega), Nat.and_two_pow_sub_one_eq_mod]
  have := Nat.mod_lt x (Nat.two_pow_pos w)
  exact i64_id (by omega) (by omega)
theorem minI {n : Nat} (h : n ≤ 64) : min n IntKind.i64.bits = n := by
  have : IntKind.i64.bits = 64 := rfl
  omega
theorem shr_le {a n : Nat} : a / 2 ^ n ≤ a := Nat.div_le_self _ _
theorem stateOf_spec (p : Pg) (hs : SmallP p) (no : Nat) (hno : no < 2 ^ 40) : Pu Tryz.prog 34 [aPg p, I no] (Ws (stP p no)) := by
  have hsw := sw_of hs
  obtain ⟨w, v, e1, e2, e3, e4, hw1, hw5, hv1, hv4, hwv⟩ := hs.nat
  rw [e3] at hsw
  refine ⟨fun H => CallT.fin ?_⟩
  refine W34_ok ?_; simp (maxSteps := 1000000) (disch := first | assumption | (apply Ne.symm; assumption)) only [W34, vz, vu, vv, eqS, eqFieldsV, ↓condV_t, ↓condV_f, tabs, reduceCtorEq, Array.toList, ↓reduceIte, Nat.reduceAdd, Nat.reduceLeDiff, Nat.reduceLT, Nat.reduceMul, Nat.reduceSub, Int.reduceToNat, Int.reduceSub, Int.reduceAdd, Int.reduceNeg, buildSliceV, zerosA, List.replicate_zero, List.flatten_nil]
  intro r hr q0 hq0r hq0
  refine wkK.keep ?_
  (try simp (maxSteps := 1000000) (disch := first | assumption | (apply Ne.symm; assumption)) only [vz, vu, vv, eqS, eqFieldsV, ↓condV_t, ↓condV_f, tabs, reduceCtorEq, Array.toList, ↓reduceIte, Nat.reduceAdd, Nat.reduceLeDiff, Nat.reduceLT, Nat.reduceMul, Nat.reduceSub, Int.reduceToNat, Int.reduceSub, Int.reduceAdd, Int.reduceNeg])
  refine L34_0_rule ((0 : Nat), q0) (fun z => rowP z.2 (stOf w z.1 no)) (fun z => I z.1) (fun z => (H.set r [I p.wide, I p.vars, Ns p.start, Cms p.cmds]).set z.2 (cP fW (stOf w z.1 no))) (fun z => z.1 ≤ v ∧ H z.2 = none ∧ z.2 ≠ r) (fun z => v - z.1)
    ⟨⟨by omega, hq0, hq0r⟩, .refl _, .refl _, Heap.le_refl _⟩ ?_
  rintro ⟨i, q⟩ ⟨hi, hq, hqr⟩
  dsimp only at hi hq hqr
  have nn : r ≠ q := Ne.symm hqr
  have hlen := stOf_len w i no
  have hwi : i < v → w * i ≤ 5 := fun h => Nat.le_trans (Nat.mul_le_mul_left w (by omega)) hwv
  (try simp (maxSteps := 1000000) (disch := first | assumption | (apply Ne.symm; assumption)) only [vz, vu, vv, eqS, eqFieldsV, ↓condV_t, ↓condV_f, tabs, reduceCtorEq, Array.toList, ↓reduceIte, Nat.reduceAdd, Nat.reduceLeDiff, Nat.reduceLT, Nat.reduceMul, Nat.reduceSub, Int.reduceToNat, Int.reduceSub, Int.reduceAdd, Int.reduceNeg, B34_0, e1, e2])
  refine ⟨fun h1 => ?_, fun h1 => ?_⟩
  · have hwi := hwi (by omega)
    have e5 : IntKind.i64.wrap ((w : Int) * i) = ((w * i : Nat) : Int) := by rw [← Int.natCast_mul, i64_id (by omega) (by omega)]
    have hn1 := shr_le (a := no) (n := w * i)
    rw [e5, Int.toNat_natCast, minU (by omega), wU (by omega), fdivN]
    refine ⟨by omega, ?_⟩
    refine Pu.use (mask_sw hsw) ?_
    (try simp (maxSteps := 1000000) (disch := first | assumption | (apply Ne.symm; assumption)) only [vz, vu, vv, eqS, eqFieldsV, ↓condV_t, ↓condV_f, tabs, reduceCtorEq, Array.toList, ↓reduceIte, Nat.reduceAdd, Nat.reduceLeDiff, Nat.reduceLT, Nat.reduceMul, Nat.reduceSub, Int.reduceToNat, Int.reduceSub, Int.reduceAdd, Int.reduceNeg])
    rw [and_mask (by omega) hsw]
    refine push_w (by rw [Heap.set_same]) (by omega) fun q' hq' hne => ?_
    simp only [Heap.set_none] at hq'
    obtain ⟨p1, p2, p3⟩ := hq'
    refine ⟨(i + 1, q'), ⟨by simp only; omega, p3, p2⟩, by simp only; omega, ?_, ?_, ?_⟩
    · rw [stOf_succ]; exact .refl _
    · rw [wk_int, i64_id (by omega) (by omega)]; simp
    · rw [stOf_succ]
      generalize cP fW (stOf w i no ++ [no / 2 ^ (w * i) % 2 ^ w]) = zz
      (intro y b hy; simp only [Heap.set, Heap.del] at hy ⊢; (repeat' split at hy) <;> (repeat' split) <;> simp_all [cells])
  · have : i = v := by omega
    subst this
    rw [stP, e3, e4]
    exact fin_w hq (Heap.set_le (Heap.le_set hr))
theorem l7Of_spec (p : Pg) (hs : SmallP p) (no : Nat) (hno : no < 2 ^ 40) : Pu Tryz.prog 89 [aPg p, I no] (Ws (stP p no)) := by
  have hsw := sw_of hs
  obtain ⟨w, v, e1, e2, e3, e4, hw1, hw5, hv1, hv4, hwv⟩ := hs.nat
  rw [e3] at hsw
  refine ⟨fun H => CallT.fin ?_⟩
  refine CallT.ghost W89_hb fun q0 hq0 => ?_
  refine W89_ok ?_; simp (maxSteps := 1000000) (disch := first | assumption | (apply Ne.symm; assumption)) only [W89, vz, vu, vv, eqS, eqFieldsV, ↓condV_t, ↓condV_f, tabs, reduceCtorEq, Array.toList, ↓reduceIte, Nat.reduceAdd, Nat.reduceLeDiff, Nat.reduceLT, Nat.reduceMul, Nat.reduceSub, Int.reduceToNat, Int.reduceSub, Int.reduceAdd, Int.reduceNeg]
  intro r hrq hr
  refine L89_0_rule ((0 : Nat), q0) (fun z => rowP z.2 (stOf w z.1 no)) (fun z => I z.1) (fun z => (H.set r [I p.wide, I p.vars, Ns p.start, Cms p.cmds]).set z.2 (cP fW (stOf w z.1 no))) (fun z => z.1 ≤ v ∧ H z.2 = none ∧ z.2 ≠ r) (fun z => v - z.1)
    ⟨⟨by omega, hq0, fun e => hrq e.symm⟩, .nilo _ _ _, .refl _, ?_⟩ ?_
  · rw [Heap.set_comm hrq]; exact Heap.le_refl _
  rintro ⟨i, q⟩ ⟨hi, hq, hqr⟩
  dsimp only at hi hq hqr
  have nn : r ≠ q := Ne.symm hqr
  have hlen := stOf_len w i no
  have hwi : i < v → w * i ≤ 5 := fun h => Nat.le_trans (Nat.mul_le_mul_left w (by omega)) hwv
  (try simp (maxSteps := 1000000) (disch := first | assumption | (apply Ne.symm; assumption)) only [vz, vu, vv, eqS, eqFieldsV, ↓condV_t, ↓condV_f, tabs, reduceCtorEq, Array.toList, ↓reduceIte, Nat.reduceAdd, Nat.reduceLeDiff, Nat.reduceLT, Nat.reduceMul, Nat.reduceSub, Int.reduceToNat, Int.reduceSub, Int.reduceAdd, Int.reduceNeg, B89_0, e1, e2])
  refine ⟨fun h1 => ?_, fun h1 => ?_⟩
  · have hwi := hwi (by omega)
    have e5 : IntKind.u64.wrap (IntKind.i64.wrap ((i : Int) * w)) = ((w * i : Nat) : Int) := by rw [← Int.natCast_mul, Nat.mul_comm, i64_id (by omega) (by omega), wU (by omega)]
    have hn1 := shr_le (a := no) (n := w * i)
    have hp := pow5 hsw
    have e6 : IntKind.u64.wrap (w : Int) = w := wU (by omega)
    have e7 : IntKind.i64.wrap (IntKind.i64.wrap (1 * 2 ^ w) - 1) = ((2 ^ w - 1 : Nat) : Int) := by
      have e8 : IntKind.i64.wrap ((2 ^ w : Nat) : Int) = ((2 ^ w : Nat) : Int) := i64_id (by omega) (by omega)
      rw [Int.one_mul, ← powI, e8, i64_id (by omega) (by omega)]; omega
    rw [e5, e6, Int.toNat_natCast, Int.toNat_natCast, minI (by omega), minI (by omega), e7, fdivN, and_maskI (by omega) hsw]
    have hm := Nat.mod_lt (no / 2 ^ (w * i)) (Nat.two_pow_pos w)
    rw [wU (by omega)]
    refine ⟨by omega, by omega, ?_⟩
    refine push_w (by rw [Heap.set_same]) (by omega) fun q' hq' hne => ?_
    simp only [Heap.set_none] at hq'
    obtain ⟨p1, p2, p3⟩ := hq'
    refine ⟨(i + 1, q'), ⟨by simp only; omega, p3, p2⟩, by simp only; omega, ?_, ?_, ?_⟩
    · rw [stOf_succ]; exact .refl _
    · rw [wk_int, i64_id (by omega) (by omega)]; simp
    · rw [stOf_succ]
      generalize cP fW (stOf w i no ++ [no / 2 ^ (w * i) % 2 ^ w]) = zz
      (intro y b hy; simp only [Heap.set, Heap.del] at hy ⊢; (repeat' split at hy) <;> (repeat' split) <;> simp_all [cells])
  · have : i = v := by omega
    subst this
    rw [stP, e3, e4]
    exact fin_w hq (Heap.set_le (Heap.le_set hr))
theorem decN {n : Nat} : AV.p (PV.bool (decide ((n : Int) = 1))) = B (decide (n = 1)) := by
  congr 2
  exact decide_eq_decide.2 (by omega)
theorem stP_len' (p : Pg) (no : Nat) : (stP p no).length = p.vars.toNat := stOf_len _ _ _
theorem stP_lt' (p : Pg) (no : Nat) : ∀ a ∈ stP p no, a < 2 ^ p.wide.toNat := stOf_lt _ _ _
theorem l7Holds_spec (p : Pg) (hs : SmallP p) (t : List Nd) (ht : vT t) (s : List Nat) (hl : s.length = p.vars.toNat) (hsw : ∀ a ∈ s, a < 2 ^ p.wide.toNat) (hk : kind p.wide p.vars t = 2) : Pu Tryz.prog 88 [aPg p, Ns t, Ws s] (B (decide (tval p.wide.toNat t s = 1))) := by
  have hsm := sw_of hs
  obtain ⟨w, v, e1, e2, e3, e4, hw1, hw5, hv1, hv4, hwv⟩ := hs.nat
  rw [e3] at hsm hsw ⊢
  rw [e4] at hl
  rw [e1, e2] at hk
  obtain ⟨_, ht1, ht2, htr, hst, _⟩ := kind_tree hl hsw (fun x hm => (ht.2 x hm).1) (by decide) hk
  refine Pu.of fun H => ?_
  refine W88_ok ?_; simp (maxSteps := 1000000) (disch := first | assumption | (apply Ne.symm; assumption)) only [W88, vz, vu, vv, eqS, eqFieldsV, ↓condV_t, ↓condV_f, tabs, reduceCtorEq, Array.toList, ↓reduceIte, Nat.reduceAdd, Nat.reduceLeDiff, Nat.reduceLT, Nat.reduceMul, Nat.reduceSub, Int.reduceToNat, Int.reduceSub, Int.reduceAdd, Int.reduceNeg]
  intro r hr
  have e : IntKind.i64.wrap ((t.length : Int) - 1) = ((t.length - 1 : Nat) : Int) := by rw [i64_id (by omega) (by omega)]; omega
  rw [e, e1]
  refine Pu.use (l2Value_tr hsm ht.1 ht.2 (fun x hx h2 => by rw [hl]; exact kind_var (by decide) hk x hx h2) htr) ?_
  (try simp (maxSteps := 1000000) (disch := first | assumption | (apply Ne.symm; assumption)) only [vz, vu, vv, eqS, eqFieldsV, ↓condV_t, ↓condV_f, tabs, reduceCtorEq, Array.toList, ↓reduceIte, Nat.reduceAdd, Nat.reduceLeDiff, Nat.reduceLT, Nat.reduceMul, Nat.reduceSub, Int.reduceToNat, Int.reduceSub, Int.reduceAdd, Int.reduceNeg])
  exact ⟨decN, Heap.le_set hr⟩
end Go.Proofs.YtdnfiacjoghfkaaGreat
/- Plain facts on automata. -/
namespace Go.Pt
structure Ed where
  src : Int
  lt : Int
  dst : Int
deriving Inhabited
structure Au where
  states : Int
  first : List Int
  edges : List Ed
  goals : List (List Int)
deriving Inhabited

/-- Rising numbers below a bound. -/
def riseAt (l : List Int) (n : Int) (i : Nat) : Bool := (decide (0 ≤ l.getD i default) && decide (l.getD i default < n)) && (decide (i = 0) || decide (l.getD (i - 1) default < l.getD i default))
def rising (l : List Int) (n : Int) : Bool := (List.range l.length).all (riseAt l n)
def edIn (n : Int) (e : Ed) : Bool := (decide (0 ≤ e.src) && decide (e.src < n)) && ((decide (0 ≤ e.dst) && decide (e.dst < n)) && (decide (0 ≤ e.lt) && decide (e.lt < 8)))
end Go.Pt
/- Specs: sizes, copies and comparisons of automata. -/
namespace Go.Proofs.YtdnfiacjoghfkaaGreat
open Go Go.Sep Go.Pt
set_option linter.unusedSimpArgs false
set_option linter.unusedVariables false
attribute [local irreducible] CallT

abbrev eE (x : Ed) : List PV := [.int .i64 x.src, .int .i64 x.lt, .int .i64 x.dst]
abbrev Es (xs : List Ed) : AV := .p (.sl (xs.map eE))
abbrev aAu (a : Au) : AV := .agg [I a.states, Is a.first, Es a.edges, Ls a.goals]
end Go.Proofs.YtdnfiacjoghfkaaGreat
/- Specs: good automata. -/
namespace Go.Proofs.YtdnfiacjoghfkaaGreat
open Go Go.Sep Go.Pt
set_option linter.unusedSimpArgs false
set_option linter.unusedVariables false
attribute [local irreducible] CallT

end Go.Proofs.YtdnfiacjoghfkaaGreat
/- Forests: rows that own rows. -/
namespace Go.Sep
open Go Go.RowKit
set_option linter.unusedVariables false

/-- How a thing of kind α lies in cells, in a heap, with the blocks it owns. -/
abbrev Lay (α : Type) := α → List AV → Heap → List Nat → Prop
/-- Plain cells. -/
def LPl {α : Type} (e : α → List PV) : Lay α := fun a cs _ D => cs = (e a).map .p ∧ D = []
/-- Things one behind the other. -/
def LL {α : Type} (L : Lay α) : List α → List AV → Heap → List Nat → Prop
  | [], cs, _, D => cs = [] ∧ D = []
  | a :: az, cs, G, D => ∃ c1 c2 D1 D2, cs = c1 ++ c2 ∧ D = D1 ++ D2 ∧ L a c1 G D1 ∧ LL L az c2 G D2
/-- A slice that owns its row. -/
def LRow {α : Type} (L : Lay α) (sz : Nat) : List α → AV → Heap → List Nat → Prop := fun xs x G D => ∃ q cs D', x = .sl q sz 0 xs.length ∧ G q = some cs ∧ LL L xs cs G D' ∧ D = q :: D'

/-- The lay looks at its own blocks alone. -/
def Lay.Local {α : Type} (L : Lay α) : Prop := ∀ a cs G G' D, L a cs G D → (∀ y ∈ D, ∀ b, G y = some b → G' y = some b) → L a cs G' D
/-- Of so many cells, by value e. -/
def Lay.Size {α : Type} (L : Lay α) (sz : Nat) : Prop := ∀ a cs G D, L a cs G D → cs.length = sz

theorem LPl.local {α : Type} (e : α → List PV) : Lay.Local (LPl e) := fun a cs G G' D h _ => h
theorem LPl.size {α : Type} {e : α → List PV} {sz : Nat} (h : ∀ a, (e a).length = sz) : Lay.Size (LPl e) sz := fun a cs G D hl => by rw [hl.1, List.length_map, h]
theorem LL.local {α : Type} {L : Lay α} (hL : L.Local) : ∀ {az : List α} {cs : List AV} {G G' : Heap} {D : List Nat}, LL L az cs G D → (∀ y ∈ D, ∀ b, G y = some b → G' y = some b) → LL L az cs G' D
  | [], cs, G, G', D, h, _ => h
  | a :: az, cs, G, G', D, ⟨c1, c2, D1, D2, e1, e2, h1, h2⟩, hf => by
    subst e2
    exact ⟨c1, c2, D1, D2, e1, rfl, hL _ _ _ _ _ h1 (fun y hy => hf y (List.mem_append_left _ hy)), LL.local hL h2 (fun y hy => hf y (List.mem_append_right _ hy))⟩
theorem LL.size {α : Type} {L : Lay α} {sz : Nat} (hL : L.Size sz) : ∀ {az : List α} {cs : List AV} {G : Heap} {D : List Nat}, LL L az cs G D → cs.length = az.length * sz
  | [], cs, G, D, h => by rw [h.1]; simp
  | a :: az, cs, G, D, ⟨c1, c2, D1, D2, e1, e2, h1, h2⟩ => by
    rw [e1, List.length_append, hL _ _ _ _ h1, LL.size hL h2, List.length_cons, Nat.add_mul, Nat.one_mul]; omega
theorem LRow.local {α : Type} {L : Lay α} {sz : Nat} (hL : L.Local) {xs : List α} {x : AV} {G G' : Heap} {D : List Nat} (h : LRow L sz xs x G D) (hf : ∀ y ∈ D, ∀ b, G y = some b → G' y = some b) : LRow L sz xs x G' D := by
  obtain ⟨q, cs, D', e1, e2, e3, e4⟩ := h
  subst e4
  exact ⟨q, cs, D', e1, hf q (by simp) _ e2, LL.local hL e3 (fun y hy => hf y (by simp [hy])), rfl⟩
/-- The lay's blocks are there. -/
def Lay.Has {α : Type} (L : Lay α) : Prop := ∀ a cs G D, L a cs G D → ∀ y ∈ D, G y ≠ none
theorem LPl.has {α : Type} (e : α → List PV) : Lay.Has (LPl e) := fun a cs G D h y hy => by rw [h.2] at hy; cases hy
theorem LL.has {α : Type} {L : Lay α} (hL : L.Has) : ∀ {az : List α} {cs : List AV} {G : Heap} {D : List Nat}, LL L az cs G D → ∀ y ∈ D, G y ≠ none
  | [], cs, G, D, h => fun y hy => by rw [h.2] at hy; cases hy
  | a :: az, cs, G, D, ⟨c1, c2, D1, D2, e1, e2, h1, h2⟩ => fun y hy => by
    rw [e2] at hy
    rcases List.mem_append.1 hy with hy | hy
    · exact hL _ _ _ _ h1 y hy
    · exact LL.has hL h2 y hy
theorem LRow.has {α : Type} {L : Lay α} {sz : Nat} (hL : L.Has) {xs : List α} {x : AV} {G : Heap} {D : List Nat} (h : LRow L sz xs x G D) : ∀ y ∈ D, G y ≠ none := by
  obtain ⟨q, cs, D', e1, e2, e3, e4⟩ := h
  intro y hy
  rw [e4] at hy
  rcases List.mem_cons.1 hy with rfl | hy
  · rw [e2]; simp
  · exact LL.has hL e3 y hy
theorem LL.plain {α : Type} {e : α → List PV} {G : Heap} : ∀ (xs : List α), LL (LPl e) xs (cells (xs.map e)) G []
  | [] => ⟨rfl, rfl⟩
  | x :: xs => ⟨(e x).map .p, cells (xs.map e), [], [], by simp [cells], rfl, ⟨rfl, rfl⟩, LL.plain xs⟩
theorem splice_at {pre c c' post : List AV} {off n : Nat} (ho : off = pre.length) (hn : n = c'.length) (hc : c.length = c'.length) : List.take off (pre ++ (c ++ post)) ++ c' ++ List.drop (off + n) (pre ++ (c ++ post)) = pre ++ (c' ++ post) := by
  subst ho; subst hn
  rw [List.take_left', List.append_assoc]
  · congr 2
    rw [List.drop_append, ← hc]
    simp
  · rfl
theorem LL.snoc {α : Type} {L : Lay α} {a : α} {c2 : List AV} {G : Heap} {D2 : List Nat} (h2 : L a c2 G D2) : ∀ {az : List α} {c1 : List AV} {D1 : List Nat}, LL L az c1 G D1 → LL L (az ++ [a]) (c1 ++ c2) G (D1 ++ D2)
  | [], c1, D1, h => by
    obtain ⟨rfl, rfl⟩ := h
    exact ⟨c2, [], D2, [], by simp, by simp, h2, rfl, rfl⟩
  | b :: az, c1, D1, ⟨d1, d2, E1, E2, e1, e2, h1, h3⟩ => by
    subst e1; subst e2
    exact ⟨d1, d2 ++ c2, E1, E2 ++ D2, by simp, by simp, h1, LL.snoc h2 h3⟩
/-- The thing at a place, and what lies around it. -/
theorem LL.split {α : Type} [Inhabited α] {L : Lay α} {sz : Nat} (hL : L.Size sz) : ∀ {az : List α} {cs : List AV} {G : Heap} {D : List Nat} {i : Nat}, LL L az cs G D → i < az.length →
    ∃ c1 c c2 D1 Di D2, cs = c1 ++ (c ++ c2) ∧ D = D1 ++ (Di ++ D2) ∧ c1.length = i * sz ∧ L (az.getD i default) c G Di ∧ LL L (az.take i) c1 G D1 ∧ LL L (az.drop (i + 1)) c2 G D2
  | a :: az, cs, G, D, 0, ⟨c1, c2, D1, D2, e1, e2, h1, h2⟩, _ => ⟨[], c1, c2, [], D1, D2, by simpa using e1, by simpa using e2, by simp, by simpa using h1, ⟨rfl, rfl⟩, by simpa using h2⟩
  | a :: az, cs, G, D, i + 1, ⟨c1, c2, D1, D2, e1, e2, h1, h2⟩, hi => by
    obtain ⟨d1, d, d2, E1, Ei, E2, f1, f2, f3, f4, f5, f6⟩ := LL.split hL h2 (i := i) (by simpa using hi)
    subst e1; subst e2; subst f1; subst f2
    refine ⟨c1 ++ d1, d, d2, D1 ++ E1, Ei, E2, by simp, by simp, ?_, by simpa using f4, ⟨c1, d1, D1, E1, rfl, rfl, h1, f5⟩, by simpa using f6⟩
    rw [List.length_append, hL _ _ _ _ h1, f3, Nat.add_mul, Nat.one_mul]; omega
/-! ### Telling forests by value -/
/-- A thing in a block is told by value where it lies. -/
def Lay.Frz {α : Type} (L : Lay α) (e : α → List PV) : Prop := ∀ (a : α) (cs : List AV) (G : Heap) (D : List Nat) (v : AV) (s : Nat) (pre post : List AV), L a cs G D → D.Nodup → s ∉ D → G s = some (pre ++ (cs ++ post)) →
  ∃ G', Wk v G v G' ∧ G' s = some (pre ++ ((e a).map .p ++ post)) ∧ ∀ y, y ≠ s → y ∉ D → G' y = G y

theorem LPl.frz {α : Type} (e : α → List PV) : (LPl e).Frz e := by
  rintro a cs G D v s pre post ⟨rfl, rfl⟩ _ _ hs
  exact ⟨G, .refl _ _, hs, fun _ _ _ => rfl⟩
theorem LL.frz {α : Type} {L : Lay α} {e : α → List PV} (hl : L.Local) (hf : L.Frz e) : ∀ (az : List α) (cs : List AV) (G : Heap) (D : List Nat) (v : AV) (s : Nat) (pre post : List AV), LL L az cs G D → D.Nodup → s ∉ D → G s = some (pre ++ (cs ++ post)) →
    ∃ G', Wk v G v G' ∧ G' s = some (pre ++ ((az.map e).flatten.map .p ++ post)) ∧ ∀ y, y ≠ s → y ∉ D → G' y = G y
  | [], cs, G, D, v, s, pre, post, h, hD, hs, hG => by
    obtain ⟨rfl, rfl⟩ := h
    exact ⟨G, .refl _ _, by simpa using hG, fun _ _ _ => rfl⟩
  | a :: az, cs, G, D, v, s, pre, post, ⟨c1, c2, D1, D2, e1, e2, h1, h2⟩, hD, hs, hG => by
    subst e1; subst e2
    rw [List.nodup_append] at hD
    rw [List.mem_append, not_or] at hs
    obtain ⟨G1, w1, k1, f1⟩ := hf a c1 G D1 v s pre (c2 ++ post) h1 hD.1 hs.1 (by rw [hG]; simp)
    have h2' : LL L az c2 G1 D2 := LL.local hl h2 fun y hy b hb => by rw [f1 y (fun e => hs.2 (e ▸ hy)) (fun hy1 => hD.2.2 y hy1 y hy rfl)]; exact hb
    obtain ⟨G2, w2, k2, f2⟩ := LL.frz hl hf az c2 G1 D2 v s (pre ++ (e a).map .p) post h2' hD.2.1 hs.2 (by rw [k1]; simp)
    refine ⟨G2, .trans w1 w2, by rw [k2]; simp, fun y hy hyD => ?_⟩
    rw [List.mem_append, not_or] at hyD
    rw [f2 y hy hyD.2, f1 y hy hyD.1]
theorem FrzL.refl' {r sz : Nat} {es : List (List PV)} : ∀ vs, FrzL r sz es vs vs
  | [] => .nil
  | v :: vs => .cons (.same v) (FrzL.refl' vs)
theorem FrzL.at {r sz : Nat} {es : List (List PV)} {x x' : AV} (h : FrzR r sz es x x') (post : List AV) : ∀ pre, FrzL r sz es (pre ++ ([x] ++ post)) (pre ++ ([x'] ++ post))
  | [] => .cons h (FrzL.refl' post)
  | v :: pre => .cons (.same v) (FrzL.at h post pre)
/-- A slice that owns its row, in a cell of a block. -/
theorem LRow.frzIn {α : Type} {L : Lay α} {e : α → List PV} {sz : Nat} (hpos : 0 < sz) (he : ∀ a, (e a).length = sz) (hl : L.Local) (hf : L.Frz e) {xs : List α} {x : AV} {G : Heap} {D : List Nat} {v : AV} {s : Nat} {pre post : List AV} (h : LRow L sz xs x G D) (hD : D.Nodup) (hs : s ∉ D) (hG : G s = some (pre ++ ([x] ++ post))) :
    ∃ G', Wk v G v G' ∧ G' s = some (pre ++ ([.p (.sl (xs.map e))] ++ post)) ∧ ∀ y, y ≠ s → y ∉ D → G' y = G y := by
  obtain ⟨q, cs, D', rfl, hq, hll, rfl⟩ := h
  rw [List.nodup_cons] at hD
  rw [List.mem_cons, not_or] at hs
  obtain ⟨G1, w1, k1, f1⟩ := LL.frz hl hf xs cs G D' v q [] [] hll hD.2 hD.1 (by simpa using hq)
  have hG1 : G1 s = some (pre ++ ([.sl q sz 0 xs.length] ++ post)) := by rw [f1 s hs.1 hs.2]; exact hG
  have k1' : G1 q = some ((xs.map e).flatten.map .p) := by simpa using k1
  have hr : FrzR q sz (xs.map e) (.sl q sz 0 xs.length) (.p (.sl (xs.map e))) := by
    have : FrzR q sz (xs.map e) (.sl q sz 0 (xs.map e).length) (.p (.sl (xs.map e))) := .here
    rwa [List.length_map] at this
  refine ⟨(G1.del q).set s (pre ++ ([.p (.sl (xs.map e))] ++ post)), .trans w1 (Wk.frzAt hpos k1' (sized_map he xs) hG1 hs.1 (FrzL.at hr post pre) (.same v) (by simp)), Heap.set_same _ _ _, fun y hy hyD => ?_⟩
  rw [List.mem_cons, not_or] at hyD
  rw [Heap.set_other hy, Heap.del_other hyD.1, f1 y hyD.1 hyD.2]
/-- A slice that owns its row, in a value. -/
theorem LRow.frzV {α : Type} {L : Lay α} {e : α → List PV} {sz : Nat} (hpos : 0 < sz) (he : ∀ a, (e a).length = sz) (hl : L.Local) (hf : L.Frz e) {xs : List α} {x : AV} {G : Heap} {D : List Nat} {v v' : AV} (h : LRow L sz xs x G D) (hD : D.Nodup)
    (hv : ∀ q, x = .sl q sz 0 xs.length → FrzR q sz (xs.map e) x (.p (.sl (xs.map e))) → FrzR q sz (xs.map e) v v') :
    ∃ G', Wk v G v' G' ∧ ∀ y, y ∉ D → G' y = G y := by
  obtain ⟨q, cs, D', rfl, hq, hll, rfl⟩ := h
  rw [List.nodup_cons] at hD
  obtain ⟨G1, w1, k1, f1⟩ := LL.frz hl hf xs cs G D' v q [] [] hll hD.2 hD.1 (by simpa using hq)
  have k1' : G1 q = some ((xs.map e).flatten.map .p) := by simpa using k1
  have hr : FrzR q sz (xs.map e) (.sl q sz 0 xs.length) (.p (.sl (xs.map e))) := by
    have : FrzR q sz (xs.map e) (.sl q sz 0 (xs.map e).length) (.p (.sl (xs.map e))) := .here
    rwa [List.length_map] at this
  refine ⟨G1.del q, .trans w1 (Wk.frz hpos k1' (sized_map he xs) (hv q rfl hr)), fun y hyD => ?_⟩
  rw [List.mem_cons, not_or] at hyD
  rw [Heap.del_other hyD.1, f1 y hyD.1 hyD.2]
/-! ### Forests moved on -/
/-- Cells that may be moved. -/
def Lay.Gd {α : Type} (L : Lay α) : Prop := ∀ a cs G D, L a cs G D → (∀ c ∈ cs, GdC c) ∧ ∀ y ∈ D, ∀ bs, G y = some bs → ∀ c ∈ bs, GdC c
def Lay.Sh {α : Type} (L : Lay α) : Prop := ∀ a cs G D n G0, (∀ q, n ≤ q → G0 q = none) → L a cs G D → L a (cs.map (shC n)) (Heap.or G0 (shH n G)) (D.map (· + n))
theorem LPl.gd {α : Type} {e : α → List PV} (h : ∀ a, ∀ x ∈ e a, Plain (.p x)) : Lay.Gd (LPl e) := by
  rintro a cs G D ⟨rfl, rfl⟩
  refine ⟨fun c hc => ?_, fun y hy => by cases hy⟩
  obtain ⟨x, hx, rfl⟩ := List.mem_map.1 hc
  exact .p (h a x hx)
theorem LPl.sh {α : Type} (e : α → List PV) : Lay.Sh (LPl e) := by
  rintro a cs G D n G0 _ ⟨rfl, rfl⟩
  exact ⟨by rw [List.map_map]; rfl, rfl⟩
theorem LL.gd {α : Type} {L : Lay α} (hL : L.Gd) : ∀ {az : List α} {cs : List AV} {G : Heap} {D : List Nat}, LL L az cs G D → (∀ c ∈ cs, GdC c) ∧ ∀ y ∈ D, ∀ bs, G y = some bs → ∀ c ∈ bs, GdC c
  | [], _, _, _, ⟨e1, e2⟩ => by subst e1; subst e2; exact ⟨(fun c hc => by cases hc), (fun y hy => by cases hy)⟩
  | a :: az, _, _, _, ⟨c1, c2, D1, D2, e1, e2, h1, h2⟩ => by
    subst e1; subst e2
    obtain ⟨a1, a2⟩ := hL _ _ _ _ h1
    obtain ⟨b1, b2⟩ := LL.gd hL h2
    refine ⟨fun c hc => ?_, fun y hy => ?_⟩
    · rcases List.mem_append.1 hc with hc | hc
      · exact a1 c hc
      · exact b1 c hc
    · rcases List.mem_append.1 hy with hy | hy
      · exact a2 y hy
      · exact b2 y hy
theorem LL.sh {α : Type} {L : Lay α} (hL : L.Sh) {n : Nat} {G0 : Heap} (h0 : ∀ q, n ≤ q → G0 q = none) : ∀ {az : List α} {cs : List AV} {G : Heap} {D : List Nat}, LL L az cs G D → LL L az (cs.map (shC n)) (Heap.or G0 (shH n G)) (D.map (· + n))
  | [], _, _, _, ⟨e1, e2⟩ => by subst e1; subst e2; exact ⟨rfl, rfl⟩
  | a :: az, _, _, _, ⟨c1, c2, D1, D2, e1, e2, h1, h2⟩ => by
    subst e1; subst e2
    exact ⟨_, _, _, _, List.map_append, List.map_append, hL _ _ _ _ n G0 h0 h1, LL.sh hL h0 h2⟩
theorem or_sh {G0 G : Heap} {n q : Nat} (h0 : ∀ q, n ≤ q → G0 q = none) : (Heap.or G0 (shH n G)) (q + n) = (G q).map (List.map (shC n)) := by
  simp only [Heap.or, shH, h0 (q + n) (by omega), show n ≤ q + n by omega, if_true, Nat.add_sub_cancel]
theorem LRow.gd {α : Type} {L : Lay α} {sz : Nat} (hL : L.Gd) {xs : List α} {x : AV} {G : Heap} {D : List Nat} (h : LRow L sz xs x G D) : GdC x ∧ ∀ y ∈ D, ∀ bs, G y = some bs → ∀ c ∈ bs, GdC c := by
  obtain ⟨q, cs, D', rfl, hq, hll, rfl⟩ := h
  obtain ⟨h1, h2⟩ := LL.gd hL hll
  refine ⟨.inl ⟨_, _, _, _, rfl⟩, fun y hy bs hb => ?_⟩
  rcases List.mem_cons.1 hy with rfl | hy
  · rw [hq] at hb; cases hb; exact h1
  · exact h2 y hy bs hb
theorem LRow.sh {α : Type} {L : Lay α} {sz : Nat} (hL : L.Sh) {n : Nat} {G0 : Heap} (h0 : ∀ q, n ≤ q → G0 q = none) {xs : List α} {x : AV} {G : Heap} {D : List Nat} (h : LRow L sz xs x G D) : LRow L sz xs (shC n x) (Heap.or G0 (shH n G)) (D.map (· + n)) := by
  obtain ⟨q, cs, D', rfl, hq, hll, rfl⟩ := h
  exact ⟨q + n, cs.map (shC n), D'.map (· + n), rfl, by rw [or_sh h0, hq]; rfl, LL.sh hL h0 hll, rfl⟩
/-- A heap's blocks of a list alone. -/
def only (D : List Nat) (G : Heap) : Heap := fun y => if y ∈ D then G y else none
theorem only_le (D : List Nat) (G : Heap) : Heap.le (only D G) G := fun y b hb => by
  unfold only at hb; split at hb
  · exact hb
  · cases hb
theorem only_in {D : List Nat} {G : Heap} {y : Nat} (h : y ∈ D) : only D G y = G y := if_pos h
theorem only_out {D : List Nat} {G : Heap} {y : Nat} (h : y ∉ D) : only D G y = none := if_neg h
end Go.Sep
/- Programs that own their rows: copies of one's own. -/
namespace Go.Proofs.YtdnfiacjoghfkaaGreat
open Go Go.Sep Go.Pt
set_option linter.unusedSimpArgs false
set_option linter.unusedVariables false
attribute [local irreducible] CallT

abbrev LN : List Nd → AV → Heap → List Nat → Prop := LRow (LPl eN) 2
abbrev LI : List Int → AV → Heap → List Nat → Prop := LRow (LPl eI) 1
def LCh : Lay Ch := fun c cs G D => ∃ x, cs = [I c.var, x] ∧ LN c.by_ x G D
def LCm : Lay Cm := fun c cs G D => ∃ x y D1 D2, cs = [x, y] ∧ D = D1 ++ D2 ∧ LN c.when_ x G D1 ∧ LRow LCh 2 c.chs y G D2

theorem LCh.local : Lay.Local LCh := by
  rintro c cs G G' D ⟨x, e, h⟩ hf
  exact ⟨x, e, LRow.local (LPl.local eN) h hf⟩
theorem LCh.size : Lay.Size LCh 2 := by
  rintro c cs G D ⟨x, rfl, h⟩; rfl
theorem LCh.has : Lay.Has LCh := by
  rintro c cs G D ⟨x, e, h⟩
  exact LRow.has (LPl.has eN) h
theorem LCh.frz : Lay.Frz LCh eCh := by
  rintro c cs G D v s pre post ⟨x, rfl, h⟩ hD hs hG
  obtain ⟨G', w, k, f⟩ := LRow.frzIn (e := eN) (sz := 2) (pre := pre ++ [I c.var]) (post := post) (v := v) (by omega) (fun _ => rfl) (LPl.local eN) (LPl.frz eN) h hD hs (by rw [hG]; simp)
  exact ⟨G', w, by rw [k]; simp, f⟩
theorem LCm.local : Lay.Local LCm := by
  rintro c cs G G' D ⟨x, y, D1, D2, e, rfl, h1, h2⟩ hf
  exact ⟨x, y, D1, D2, e, rfl, LRow.local (LPl.local eN) h1 (fun z hz => hf z (List.mem_append_left _ hz)), LRow.local LCh.local h2 (fun z hz => hf z (List.mem_append_right _ hz))⟩
theorem LCm.size : Lay.Size LCm 2 := by
  rintro c cs G D ⟨x, y, D1, D2, rfl, e, h1, h2⟩; rfl
theorem LCm.has : Lay.Has LCm := by
  rintro c cs G D ⟨x, y, D1, D2, e, rfl, h1, h2⟩ z hz
  rcases List.mem_append.1 hz with hz | hz
  · exact LRow.has (LPl.has eN) h1 z hz
  · exact LRow.has LCh.has h2 z hz
theorem LCm.frz : Lay.Frz LCm eCm := by
  rintro c cs G D v s pre post ⟨x, y, D1, D2, rfl, rfl, h1, h2⟩ hD hs hG
  rw [List.nodup_append] at hD
  rw [List.mem_append, not_or] at hs
  obtain ⟨G1, w1, k1, f1⟩ := LRow.frzIn (e := eN) (sz := 2) (pre := pre) (post := y :: post) (v := v) (by omega) (fun _ => rfl) (LPl.local eN) (LPl.frz eN) h1 hD.1 hs.1 (by rw [hG]; simp)
  have h2' : LRow LCh 2 c.chs y G1 D2 := LRow.local LCh.local h2 fun z hz b hb => by rw [f1 z (fun e => hs.2 (e ▸ hz)) (fun hz1 => hD.2.2 z hz1 z hz rfl)]; exact hb
  obtain ⟨G2, w2, k2, f2⟩ := LRow.frzIn (e := eCh) (sz := 2) (pre := pre ++ [Ns c.when_]) (post := post) (v := v) (by omega) (fun _ => rfl) LCh.local LCh.frz h2' hD.2.1 hs.2 (by rw [k1]; simp)
  refine ⟨G2, .trans w1 w2, by rw [k2]; simp, fun z hz hzD => ?_⟩
  rw [List.mem_append, not_or] at hzD
  rw [f2 z hz hzD.2, f1 z hz hzD.1]

/-- Blocks of one's own beside a heap. -/
structure New (H G : Heap) (D : List Nat) : Prop where
  nd : D.Nodup
  fr : ∀ y ∈ D, H y = none
  le : Heap.le H G
theorem New.trans {H G G' : Heap} {D D' : List Nat} (n : New H G D) (m : New G G' D') (hh : ∀ y ∈ D, G y ≠ none) : New H G' (D ++ D') := by
  refine ⟨List.nodup_append.2 ⟨n.nd, m.nd, fun a ha b hb e => hh a ha (by rw [e]; exact m.fr b hb)⟩, fun y hy => ?_, Heap.le_trans n.le m.le⟩
  rcases List.mem_append.1 hy with hy | hy
  · exact n.fr y hy
  · cases hh : H y with
    | none => rfl
    | some b => rw [← m.fr y hy, n.le y b hh]
theorem New.base {H H' G : Heap} {D : List Nat} (n : New H' G D) (hle : Heap.le H H') : New H G D :=
  ⟨n.nd, fun y hy => by
    cases hh : H y with
    | none => rfl
    | some b => rw [← n.fr y hy, hle y b hh], Heap.le_trans hle n.le⟩
theorem New.put {H G : Heap} {D : List Nat} (n : New H G D) {q : Nat} (hq : H q = none) (b : List AV) : New H (G.set q b) D := ⟨n.nd, n.fr, Heap.le_setN n.le hq⟩

theorem toNodeS_live (xs : List Nd) (hl : xs.length ≤ 1048576) {H : Heap} {K : AV → Heap → Prop} (h : ∀ x G D, LN xs x G D → New H G D → K x G) : CallT Tryz.prog 22 [Ns xs] H K := by
  refine W22_ok ?_; simp (maxSteps := 1000000) (disch := first | assumption | (apply Ne.symm; assumption)) only [W22, vz, vu, vv, eqS, eqFieldsV, ↓condV_t, ↓condV_f, tabs, reduceCtorEq, Array.toList, ↓reduceIte, Nat.reduceAdd, Nat.reduceLeDiff, Nat.reduceLT, Nat.reduceMul, Nat.reduceSub, Int.reduceToNat, Int.reduceSub, Int.reduceAdd, Int.reduceNeg, makeSliceV]
  refine ⟨by omega, by omega, by omega, by omega, fun q hq => ?_⟩
  have z0 : rowZ eN [I 0, U 0] xs 0 = zerosA xs.length [I 0, U 0] := rowZ_zero
  rw [← z0]
  refine L22_0_rule (0 : Nat) (fun i => I i) (fun i => H.set q (rowZ eN [I 0, U 0] xs i)) (fun i => i ≤ xs.length) (fun i => xs.length - i) ⟨by omega, .refl _, Heap.le_refl _⟩ ?_
  intro i hi
  have hrl := rowZ_len (e := eN) (zero := [I 0, U 0]) (xs := xs) (i := i) (sz := 2) (fun _ => rfl) rfl hi
  (try simp (maxSteps := 1000000) (disch := first | assumption | (apply Ne.symm; assumption)) only [vz, vu, vv, eqS, eqFieldsV, ↓condV_t, ↓condV_f, tabs, reduceCtorEq, Array.toList, ↓reduceIte, Nat.reduceAdd, Nat.reduceLeDiff, Nat.reduceLT, Nat.reduceMul, Nat.reduceSub, Int.reduceToNat, Int.reduceSub, Int.reduceAdd, Int.reduceNeg, B22_0])
  refine ⟨fun h => ⟨by omega, h, ?_⟩, fun h5 => ?_⟩
  · have hlt : i < xs.length := by omega
    have hput := rowZ_put (e := eN) (zero := [I 0, U 0]) (xs := xs) (i := i) (sz := 2) (fun _ => rfl) rfl hlt rfl rfl
    refine Pu.use (toNode_spec (xs.getD i default)) ?_
    (try simp (maxSteps := 1000000) (disch := first | assumption | (apply Ne.symm; assumption)) only [vz, vu, vv, eqS, eqFieldsV, ↓condV_t, ↓condV_f, tabs, reduceCtorEq, Array.toList, ↓reduceIte, Nat.reduceAdd, Nat.reduceLeDiff, Nat.reduceLT, Nat.reduceMul, Nat.reduceSub, Int.reduceToNat, Int.reduceSub, Int.reduceAdd, Int.reduceNeg])
    refine ⟨by omega, h, by omega, i + 1, by omega, by omega, ?_, ?_⟩
    · rw [wk_int, i64_id (by omega) (by omega)]; simp
    · rw [← hput]; exact Heap.le_refl _
  · have : i = xs.length := by omega
    subst this
    refine h _ _ [q] ⟨q, _, [], rfl, Heap.set_same _ _ _, ?_, rfl⟩ ⟨by simp, by simpa using hq, Heap.le_set hq⟩
    rw [rowZ_end]; exact LL.plain xs

theorem LRow.sl {α : Type} {L : Lay α} {sz : Nat} {xs : List α} {x : AV} {G : Heap} {D : List Nat} (h : LRow L sz xs x G D) : ∃ q, x = .sl q sz 0 xs.length := by
  obtain ⟨q, cs, D', e1, e2, e3, e4⟩ := h; exact ⟨q, e1⟩
theorem ne_mem {D : List Nat} {y z : Nat} (hy : y ∈ D) (hz : z ∉ D) : y ≠ z := fun e => hz (e ▸ hy)
theorem ne_of_new {H G : Heap} {D : List Nat} (n : New H G D) {y : Nat} {b : List AV} (h : H y = some b) : y ∉ D := fun hy => by rw [n.fr y hy] at h; cases h

theorem toChange_live (c : Ch) (hc : smCh c) {H : Heap} {K : AV → Heap → Prop} (h : ∀ cs G D, LCh c cs G D → New H G D → K (.agg cs) G) : CallT Tryz.prog 91 [aCh c] H K := by
  refine W91_ok ?_; simp (maxSteps := 1000000) (disch := first | assumption | (apply Ne.symm; assumption)) only [W91, vz, vu, vv, eqS, eqFieldsV, ↓condV_t, ↓condV_f, tabs, reduceCtorEq, Array.toList, ↓reduceIte, Nat.reduceAdd, Nat.reduceLeDiff, Nat.reduceLT, Nat.reduceMul, Nat.reduceSub, Int.reduceToNat, Int.reduceSub, Int.reduceAdd, Int.reduceNeg]
  intro r hr r2 n1 h2 r3 n2 n3 h3
  have nn1 : r ≠ r2 := Ne.symm n1
  (try simp (maxSteps := 1000000) (disch := first | assumption | (apply Ne.symm; assumption)) only [vz, vu, vv, eqS, eqFieldsV, ↓condV_t, ↓condV_f, tabs, reduceCtorEq, Array.toList, ↓reduceIte, Nat.reduceAdd, Nat.reduceLeDiff, Nat.reduceLT, Nat.reduceMul, Nat.reduceSub, Int.reduceToNat, Int.reduceSub, Int.reduceAdd, Int.reduceNeg])
  refine toNodeS_live c.by_ hc fun x G D hx hn => ?_
  obtain ⟨q, rfl⟩ := LRow.sl hx
  have g3 := hn.le r3 _ (Heap.set_same _ _ _)
  have g2 := hn.le r2 [I 0, .p .nil] (by rw [Heap.set_other (Ne.symm n2), Heap.set_same])
  have m3 := ne_of_new hn (Heap.set_same _ _ _)
  have m2 := ne_of_new hn (y := r2) (b := [I 0, .p .nil]) (by rw [Heap.set_other (Ne.symm n2), Heap.set_same])
  have n2' : r2 ≠ r3 := Ne.symm n2
  (try simp (maxSteps := 1000000) (disch := first | assumption | (apply Ne.symm; assumption)) only [vz, vu, vv, eqS, eqFieldsV, ↓condV_t, ↓condV_f, tabs, reduceCtorEq, Array.toList, ↓reduceIte, Nat.reduceAdd, Nat.reduceLeDiff, Nat.reduceLT, Nat.reduceMul, Nat.reduceSub, Int.reduceToNat, Int.reduceSub, Int.reduceAdd, Int.reduceNeg, store_at g3])
  (try simp (maxSteps := 1000000) (disch := first | assumption | (apply Ne.symm; assumption)) only [vz, vu, vv, eqS, eqFieldsV, ↓condV_t, ↓condV_f, tabs, reduceCtorEq, Array.toList, ↓reduceIte, Nat.reduceAdd, Nat.reduceLeDiff, Nat.reduceLT, Nat.reduceMul, Nat.reduceSub, Int.reduceToNat, Int.reduceSub, Int.reduceAdd, Int.reduceNeg, store_at g2])
  refine h _ _ D ⟨_, rfl, LRow.local (LPl.local eN) hx fun y hy b hb => ?_⟩ ((((hn.base ?_).put h2 _).put h3 _))
  · rw [Heap.set_other (ne_mem hy m3), Heap.set_other (ne_mem hy m2)]; exact hb
  · exact Heap.le_setN (Heap.le_setN (Heap.le_set hr) h2) h3

theorem toChangeS_live (xs : List Ch) (hl : xs.length ≤ 1048576) (hs : ∀ x ∈ xs, smCh x) {H : Heap} {K : AV → Heap → Prop} (h : ∀ x G D, LRow LCh 2 xs x G D → New H G D → K x G) : CallT Tryz.prog 70 [Chs xs] H K := by
  refine W70_ok ?_; simp (maxSteps := 1000000) (disch := first | assumption | (apply Ne.symm; assumption)) only [W70, vz, vu, vv, eqS, eqFieldsV, ↓condV_t, ↓condV_f, tabs, reduceCtorEq, Array.toList, ↓reduceIte, Nat.reduceAdd, Nat.reduceLeDiff, Nat.reduceLT, Nat.reduceMul, Nat.reduceSub, Int.reduceToNat, Int.reduceSub, Int.reduceAdd, Int.reduceNeg, makeSliceV]
  refine ⟨by omega, by omega, by omega, by omega, fun q hq => ?_⟩
  refine L70_0_rule ((0 : Nat), H.set q (zerosA xs.length [I 0, .p .nil]), ([] : List Nat)) (fun s => I s.1) (fun s => s.2.1)
    (fun s => s.1 ≤ xs.length ∧ New H s.2.1 (q :: s.2.2) ∧ ∃ done, s.2.1 q = some (done ++ zerosA (xs.length - s.1) [I 0, .p .nil]) ∧ LL LCh (xs.take s.1) done s.2.1 s.2.2) (fun s => xs.length - s.1)
    ⟨⟨by simp, ⟨by simp, by simpa using hq, Heap.le_set hq⟩, [], by simp [Heap.set_same], ⟨rfl, rfl⟩⟩, .refl _, Heap.le_refl _⟩ ?_
  rintro ⟨i, G, D⟩ ⟨hi, hn, done, hG, hll⟩
  dsimp only at hi hn hG hll
  (try simp (maxSteps := 1000000) (disch := first | assumption | (apply Ne.symm; assumption)) only [vz, vu, vv, eqS, eqFieldsV, ↓condV_t, ↓condV_f, tabs, reduceCtorEq, Array.toList, ↓reduceIte, Nat.reduceAdd, Nat.reduceLeDiff, Nat.reduceLT, Nat.reduceMul, Nat.reduceSub, Int.reduceToNat, Int.reduceSub, Int.reduceAdd, Int.reduceNeg, B70_0])
  refine ⟨fun h => ⟨by omega, h, ?_⟩, fun h5 => ?_⟩
  · have hlt : i < xs.length := by omega
    have hm : xs.getD i default ∈ xs := getD_all (p := fun x => x ∈ xs) (fun _ h => h) hlt
    have hdl : done.length = i * 2 := by rw [LL.size LCh.size hll, List.length_take, Nat.min_eq_left hi]
    refine toChange_live (xs.getD i default) (hs _ hm) fun cs G1 D1 hc hn1 => ?_
    have hG1 := hn1.le q _ hG
    have hcl : cs.length = 2 := LCh.size _ _ _ _ hc
    have hqD1 : q ∉ D1 := ne_of_new hn1 hG
    have hcell : cs.all AV.isCell = true := by
      obtain ⟨x, rfl, hx⟩ := hc
      obtain ⟨qx, rfl⟩ := LRow.sl hx
      rfl
    have hz : zerosA (xs.length - i) [I 0, .p .nil] = [I 0, .p .nil] ++ zerosA (xs.length - (i + 1)) [I 0, .p .nil] := by
      obtain ⟨m, hm⟩ : ∃ m, xs.length - i = m + 1 := ⟨xs.length - i - 1, by omega⟩
      rw [hm, zerosA_succ, show xs.length - (i + 1) = m by omega]
    have hput := splice_at (pre := done) (c := [I 0, .p .nil]) (c' := cs) (post := zerosA (xs.length - (i + 1)) [I 0, .p .nil]) (off := i * 2) (n := 2) hdl.symm hcl.symm (by rw [hcl]; rfl)
    rw [hz] at hG1
    have hzl : (zerosA (xs.length - (i + 1)) [I 0, .p .nil]).length = (xs.length - (i + 1)) * 2 := zerosA_len _ _
    (try simp (maxSteps := 1000000) (disch := first | assumption | (apply Ne.symm; assumption)) only [vz, vu, vv, eqS, eqFieldsV, ↓condV_t, ↓condV_f, tabs, reduceCtorEq, Array.toList, ↓reduceIte, Nat.reduceAdd, Nat.reduceLeDiff, Nat.reduceLT, Nat.reduceMul, Nat.reduceSub, Int.reduceToNat, Int.reduceSub, Int.reduceAdd, Int.reduceNeg, store_at hG1, hcl, hcell])
    refine ⟨by omega, h, by simp only [List.length_append, hdl, hzl, List.length_cons, List.length_nil]; omega, (i + 1, G1.set q (done ++ (cs ++ zerosA (xs.length - (i + 1)) [I 0, .p .nil])), D ++ D1), ⟨by simp only; omega, ?_, done ++ cs, ?_, ?_⟩, by simp only; omega, ?_, ?_⟩
    · have ht := hn.trans hn1 (fun y hy => by
        rcases List.mem_cons.1 hy with rfl | hy
        · rw [hG]; simp
        · exact LL.has LCh.has hll y hy)
      exact ht.put hq _
    · show (G1.set q _) q = _
      rw [Heap.set_same, List.append_assoc]
    · show LL LCh (xs.take (i + 1)) (done ++ cs) (G1.set q (done ++ (cs ++ zerosA (xs.length - (i + 1)) [I 0, .p .nil]))) (D ++ D1)
      rw [take_succ_snoc hlt]
      refine LL.snoc (LCh.local _ _ _ _ _ hc fun y hy b hb => by rw [Heap.set_other (ne_mem hy hqD1)]; exact hb) (LL.local LCh.local hll fun y hy b hb => ?_)
      rw [Heap.set_other (fun e => ?_)]
      · exact hn1.le y b hb
      · have := hn.nd; rw [List.nodup_cons] at this; exact this.1 (e ▸ hy)
    · rw [wk_int, i64_id (by omega) (by omega)]; simp
    · have e : List.take (i * 2) (done ++ ([I 0, .p .nil] ++ zerosA (xs.length - (i + 1)) [I 0, .p .nil])) ++ cs ++ List.drop (i * 2 + 2) (done ++ ([I 0, .p .nil] ++ zerosA (xs.length - (i + 1)) [I 0, .p .nil])) = done ++ (cs ++ zerosA (xs.length - (i + 1)) [I 0, .p .nil]) := hput
      simp only
      rw [← e]
      first | exact Heap.le_refl _ | simp only [List.cons_append, List.nil_append, le_refl_true]
  · have : i = xs.length := by omega
    subst this
    rw [List.take_length] at hll
    refine h _ _ (q :: D) ⟨q, done, D, rfl, ?_, hll, rfl⟩ hn
    rw [hG]; simp [zerosA]

theorem toCommand_live (c : Cm) (hc : smCm c) {H : Heap} {K : AV → Heap → Prop}
    (hC : ∀ (xs : List Ch), xs.length ≤ 1048576 → (∀ x ∈ xs, smCh x) → ∀ {H : Heap} {K : AV → Heap → Prop}, (∀ x G D, LRow LCh 2 xs x G D → New H G D → K x G) → CallT Tryz.prog 70 [Chs xs] H K)
    (h : ∀ cs G D, LCm c cs G D → New H G D → K (.agg cs) G) : CallT Tryz.prog 54 [aCm c] H K := by
  refine W54_ok ?_; simp (maxSteps := 1000000) (disch := first | assumption | (apply Ne.symm; assumption)) only [W54, vz, vu, vv, eqS, eqFieldsV, ↓condV_t, ↓condV_f, tabs, reduceCtorEq, Array.toList, ↓reduceIte, Nat.reduceAdd, Nat.reduceLeDiff, Nat.reduceLT, Nat.reduceMul, Nat.reduceSub, Int.reduceToNat, Int.reduceSub, Int.reduceAdd, Int.reduceNeg]
  intro r hr r2 n1 h2 r3 n2 n3 h3
  have nn1 : r ≠ r2 := Ne.symm n1
  have n2' : r2 ≠ r3 := Ne.symm n2
  have n3' : r ≠ r3 := Ne.symm n3
  (try simp (maxSteps := 1000000) (disch := first | assumption | (apply Ne.symm; assumption)) only [vz, vu, vv, eqS, eqFieldsV, ↓condV_t, ↓condV_f, tabs, reduceCtorEq, Array.toList, ↓reduceIte, Nat.reduceAdd, Nat.reduceLeDiff, Nat.reduceLT, Nat.reduceMul, Nat.reduceSub, Int.reduceToNat, Int.reduceSub, Int.reduceAdd, Int.reduceNeg])
  refine toNodeS_live c.when_ hc.1 fun x G D hx hn => ?_
  obtain ⟨q, rfl⟩ := LRow.sl hx
  have g3 := hn.le r3 _ (Heap.set_same _ _ _)
  have g2 := hn.le r2 [.p .nil, .p .nil] (by rw [Heap.set_other n2', Heap.set_same])
  have g1 := hn.le r [Ns c.when_, Chs c.chs] (by rw [Heap.set_other n3', Heap.set_other nn1, Heap.set_same])
  have m3 := ne_of_new hn (Heap.set_same _ _ _)
  have m2 := ne_of_new hn (y := r2) (b := [.p .nil, .p .nil]) (by rw [Heap.set_other n2', Heap.set_same])
  (try simp (maxSteps := 1000000) (disch := first | assumption | (apply Ne.symm; assumption)) only [vz, vu, vv, eqS, eqFieldsV, ↓condV_t, ↓condV_f, tabs, reduceCtorEq, Array.toList, ↓reduceIte, Nat.reduceAdd, Nat.reduceLeDiff, Nat.reduceLT, Nat.reduceMul, Nat.reduceSub, Int.reduceToNat, Int.reduceSub, Int.reduceAdd, Int.reduceNeg, store_at g3, load_at g1])
  refine hC c.chs hc.2.1 hc.2.2 fun y G2 D2 hy hn2 => ?_
  obtain ⟨q2, rfl⟩ := LRow.sl hy
  have k3 := hn2.le r3 _ (Heap.set_same _ _ _)
  have k2 := hn2.le r2 [.p .nil, .p .nil] (by rw [Heap.set_other n2']; exact g2)
  have l3 := ne_of_new hn2 (Heap.set_same _ _ _)
  have l2 := ne_of_new hn2 (y := r2) (b := [.p .nil, .p .nil]) (by rw [Heap.set_other n2']; exact g2)
  (try simp (maxSteps := 1000000) (disch := first | assumption | (apply Ne.symm; assumption)) only [vz, vu, vv, eqS, eqFieldsV, ↓condV_t, ↓condV_f, tabs, reduceCtorEq, Array.toList, ↓reduceIte, Nat.reduceAdd, Nat.reduceLeDiff, Nat.reduceLT, Nat.reduceMul, Nat.reduceSub, Int.reduceToNat, Int.reduceSub, Int.reduceAdd, Int.reduceNeg, store_at k3])
  (try simp (maxSteps := 1000000) (disch := first | assumption | (apply Ne.symm; assumption)) only [vz, vu, vv, eqS, eqFieldsV, ↓condV_t, ↓condV_f, tabs, reduceCtorEq, Array.toList, ↓reduceIte, Nat.reduceAdd, Nat.reduceLeDiff, Nat.reduceLT, Nat.reduceMul, Nat.reduceSub, Int.reduceToNat, Int.reduceSub, Int.reduceAdd, Int.reduceNeg, store_at k2])
  have hx3 : LN c.when_ (.sl q 2 0 c.when_.length) (G.set r3 [.sl q 2 0 c.when_.length, .p .nil]) D := LRow.local (LPl.local eN) hx fun z hz b hb => by rw [Heap.set_other (ne_mem hz m3)]; exact hb
  have hn' := ((hn.base (Heap.le_setN (Heap.le_setN (Heap.le_set hr) h2) h3)).put h3 [.sl q 2 0 c.when_.length, .p .nil]).trans hn2 (LRow.has (LPl.has eN) hx3)
  refine h _ _ (D ++ D2) ⟨_, _, D, D2, rfl, rfl, LRow.local (LPl.local eN) hx3 fun z hz b hb => ?_, LRow.local LCh.local hy fun z hz b hb => ?_⟩ ((hn'.put h2 _).put h3 _)
  · rw [Heap.set_other (ne_mem hz m3), Heap.set_other (ne_mem hz m2)]; exact hn2.le z b hb
  · rw [Heap.set_other (ne_mem hz l3), Heap.set_other (ne_mem hz l2)]; exact hb

theorem toCommandS_live (xs : List Cm) (hl : xs.length ≤ 1048576) (hs : ∀ x ∈ xs, smCm x) {H : Heap} {K : AV → Heap → Prop} (h : ∀ x G D, LRow LCm 2 xs x G D → New H G D → K x G) : CallT Tryz.prog 30 [Cms xs] H K := by
  refine W30_ok ?_; simp (maxSteps := 1000000) (disch := first | assumption | (apply Ne.symm; assumption)) only [W30, vz, vu, vv, eqS, eqFieldsV, ↓condV_t, ↓condV_f, tabs, reduceCtorEq, Array.toList, ↓reduceIte, Nat.reduceAdd, Nat.reduceLeDiff, Nat.reduceLT, Nat.reduceMul, Nat.reduceSub, Int.reduceToNat, Int.reduceSub, Int.reduceAdd, Int.reduceNeg, makeSliceV]
  refine ⟨by omega, by omega, by omega, by omega, fun q hq => ?_⟩
  refine L30_0_rule ((0 : Nat), H.set q (zerosA xs.length [.p .nil, .p .nil]), ([] : List Nat)) (fun s => I s.1) (fun s => s.2.1)
    (fun s => s.1 ≤ xs.length ∧ New H s.2.1 (q :: s.2.2) ∧ ∃ done, s.2.1 q = some (done ++ zerosA (xs.length - s.1) [.p .nil, .p .nil]) ∧ LL LCm (xs.take s.1) done s.2.1 s.2.2) (fun s => xs.length - s.1)
    ⟨⟨by simp, ⟨by simp, by simpa using hq, Heap.le_set hq⟩, [], by simp [Heap.set_same], ⟨rfl, rfl⟩⟩, .refl _, Heap.le_refl _⟩ ?_
  rintro ⟨i, G, D⟩ ⟨hi, hn, done, hG, hll⟩
  dsimp only at hi hn hG hll
  (try simp (maxSteps := 1000000) (disch := first | assumption | (apply Ne.symm; assumption)) only [vz, vu, vv, eqS, eqFieldsV, ↓condV_t, ↓condV_f, tabs, reduceCtorEq, Array.toList, ↓reduceIte, Nat.reduceAdd, Nat.reduceLeDiff, Nat.reduceLT, Nat.reduceMul, Nat.reduceSub, Int.reduceToNat, Int.reduceSub, Int.reduceAdd, Int.reduceNeg, B30_0])
  refine ⟨fun h => ⟨by omega, h, ?_⟩, fun h5 => ?_⟩
  · have hlt : i < xs.length := by omega
    have hm : xs.getD i default ∈ xs := getD_all (p := fun x => x ∈ xs) (fun _ h => h) hlt
    have hdl : done.length = i * 2 := by rw [LL.size LCm.size hll, List.length_take, Nat.min_eq_left hi]
    refine toCommand_live (xs.getD i default) (hs _ hm) (fun ys h1 h2 {H K} h3 => toChangeS_live ys h1 h2 h3) fun cs G1 D1 hc hn1 => ?_
    have hG1 := hn1.le q _ hG
    have hcl : cs.length = 2 := LCm.size _ _ _ _ hc
    have hqD1 : q ∉ D1 := ne_of_new hn1 hG
    have hcell : cs.all AV.isCell = true := by
      obtain ⟨x, y, E1, E2, rfl, rfl, hx, hy⟩ := hc
      obtain ⟨qx, rfl⟩ := LRow.sl hx
      obtain ⟨qy, rfl⟩ := LRow.sl hy
      rfl
    have hz : zerosA (xs.length - i) [.p .nil, .p .nil] = [.p .nil, .p .nil] ++ zerosA (xs.length - (i + 1)) [.p .nil, .p .nil] := by
      obtain ⟨m, hm⟩ : ∃ m, xs.length - i = m + 1 := ⟨xs.length - i - 1, by omega⟩
      rw [hm, zerosA_succ, show xs.length - (i + 1) = m by omega]
    have hput := splice_at (pre := done) (c := [.p .nil, .p .nil]) (c' := cs) (post := zerosA (xs.length - (i + 1)) [.p .nil, .p .nil]) (off := i * 2) (n := 2) hdl.symm hcl.symm (by rw [hcl]; rfl)
    rw [hz] at hG1
    have hzl : (zerosA (xs.length - (i + 1)) [.p .nil, .p .nil]).length = (xs.length - (i + 1)) * 2 := zerosA_len _ _
    (try simp (maxSteps := 1000000) (disch := first | assumption | (apply Ne.symm; assumption)) only [vz, vu, vv, eqS, eqFieldsV, ↓condV_t, ↓condV_f, tabs, reduceCtorEq, Array.toList, ↓reduceIte, Nat.reduceAdd, Nat.reduceLeDiff, Nat.reduceLT, Nat.reduceMul, Nat.reduceSub, Int.reduceToNat, Int.reduceSub, Int.reduceAdd, Int.reduceNeg, store_at hG1, hcl, hcell])
    refine ⟨by omega, h, by simp only [List.length_append, hdl, hzl, List.length_cons, List.length_nil]; omega, (i + 1, G1.set q (done ++ (cs ++ zerosA (xs.length - (i + 1)) [.p .nil, .p .nil])), D ++ D1), ⟨by simp only; omega, ?_, done ++ cs, ?_, ?_⟩, by simp only; omega, ?_, ?_⟩
    · have ht := hn.trans hn1 (fun y hy => by
        rcases List.mem_cons.1 hy with rfl | hy
        · rw [hG]; simp
        · exact LL.has LCm.has hll y hy)
      exact ht.put hq _
    · show (G1.set q _) q = _
      rw [Heap.set_same, List.append_assoc]
    · show LL LCm (xs.take (i + 1)) (done ++ cs) (G1.set q (done ++ (cs ++ zerosA (xs.length - (i + 1)) [.p .nil, .p .nil]))) (D ++ D1)
      rw [take_succ_snoc hlt]
      refine LL.snoc (LCm.local _ _ _ _ _ hc fun y hy b hb => by rw [Heap.set_other (ne_mem hy hqD1)]; exact hb) (LL.local LCm.local hll fun y hy b hb => ?_)
      rw [Heap.set_other (fun e => ?_)]
      · exact hn1.le y b hb
      · have := hn.nd; rw [List.nodup_cons] at this; exact this.1 (e ▸ hy)
    · rw [wk_int, i64_id (by omega) (by omega)]; simp
    · have e : List.take (i * 2) (done ++ ([.p .nil, .p .nil] ++ zerosA (xs.length - (i + 1)) [.p .nil, .p .nil])) ++ cs ++ List.drop (i * 2 + 2) (done ++ ([.p .nil, .p .nil] ++ zerosA (xs.length - (i + 1)) [.p .nil, .p .nil])) = done ++ (cs ++ zerosA (xs.length - (i + 1)) [.p .nil, .p .nil]) := hput
      simp only
      rw [← e]
      first | exact Heap.le_refl _ | simp only [List.cons_append, List.nil_append, le_refl_true]
  · have : i = xs.length := by omega
    subst this
    rw [List.take_length] at hll
    refine h _ _ (q :: D) ⟨q, done, D, rfl, ?_, hll, rfl⟩ hn
    rw [hG]; simp [zerosA]
end Go.Proofs.YtdnfiacjoghfkaaGreat
/- Programs that own their rows: copies told by value, and marks. -/
namespace Go.Proofs.YtdnfiacjoghfkaaGreat
open Go Go.Sep Go.Pt
set_option linter.unusedSimpArgs false
set_option linter.unusedVariables false
attribute [local irreducible] CallT

def LPg (p : Pg) (v : AV) (G : Heap) (D : List Nat) : Prop := ∃ x y D1 D2, v = .agg [I p.wide, I p.vars, x, y] ∧ D = D1 ++ D2 ∧ LN p.start x G D1 ∧ LRow LCm 2 p.cmds y G D2
theorem LPg.local {p : Pg} {v : AV} {G G' : Heap} {D : List Nat} (h : LPg p v G D) (hf : ∀ y ∈ D, ∀ b, G y = some b → G' y = some b) : LPg p v G' D := by
  obtain ⟨x, y, D1, D2, e, rfl, h1, h2⟩ := h
  exact ⟨x, y, D1, D2, e, rfl, LRow.local (LPl.local eN) h1 (fun z hz => hf z (List.mem_append_left _ hz)), LRow.local LCm.local h2 (fun z hz => hf z (List.mem_append_right _ hz))⟩
theorem LPg.has {p : Pg} {v : AV} {G : Heap} {D : List Nat} (h : LPg p v G D) : ∀ y ∈ D, G y ≠ none := by
  obtain ⟨x, y, D1, D2, e, rfl, h1, h2⟩ := h
  intro z hz
  rcases List.mem_append.1 hz with hz | hz
  · exact LRow.has (LPl.has eN) h1 z hz
  · exact LRow.has LCm.has h2 z hz
theorem LPg.wk {p : Pg} {v : AV} {G : Heap} {D : List Nat} (h : LPg p v G D) (hD : D.Nodup) (C : AV → AV) (hC : ∀ {q sz es a a'}, FrzR q sz es a a' → FrzR q sz es (C a) (C a')) : ∃ G', Wk (C v) G (C (aPg p)) G' ∧ ∀ y, y ∉ D → G' y = G y := by
  obtain ⟨x, y, D1, D2, rfl, rfl, h1, h2⟩ := h
  rw [List.nodup_append] at hD
  obtain ⟨G1, w1, f1⟩ := LRow.frzV (e := eN) (sz := 2) (v := C (.agg [I p.wide, I p.vars, x, y])) (v' := C (.agg [I p.wide, I p.vars, Ns p.start, y])) (by omega) (fun _ => rfl) (LPl.local eN) (LPl.frz eN) h1 hD.1
    (fun q _ hr => hC (.agg (.cons (.same _) (.cons (.same _) (.cons hr (.cons (.same _) .nil))))))
  have h2' := LRow.local LCm.local h2 (G' := G1) fun z hz b hb => by rw [f1 z (fun hz1 => hD.2.2 z hz1 z hz rfl)]; exact hb
  obtain ⟨G2, w2, f2⟩ := LRow.frzV (e := eCm) (sz := 2) (v := C (.agg [I p.wide, I p.vars, Ns p.start, y])) (v' := C (aPg p)) (by omega) (fun _ => rfl) LCm.local LCm.frz h2' hD.2.1
    (fun q _ hr => hC (.agg (.cons (.same _) (.cons (.same _) (.cons (.same _) (.cons hr .nil))))))
  refine ⟨G2, .trans w1 w2, fun z hz => ?_⟩
  rw [List.mem_append, not_or] at hz
  rw [f2 z hz.2, f1 z hz.1]

def LSt (of : List Int) (v : AV) (G : Heap) (D : List Nat) : Prop := ∃ x, v = .agg [x] ∧ LI of x G D
theorem LI_row {xs : List Int} {x : AV} {G : Heap} {D : List Nat} (h : LI xs x G D) : ∃ q, x = rowP q xs ∧ G q = some (cells (xs.map eI)) ∧ D = [q] := by
  obtain ⟨q, cs, D', e1, e2, e3, e4⟩ := h
  have key : ∀ (xs : List Int) cs D', LL (LPl eI) xs cs G D' → cs = cells (xs.map eI) ∧ D' = [] := by
    intro xs
    induction xs with
    | nil => intro cs D' h; exact h
    | cons a bs ih =>
      rintro cs D' ⟨c1, c2, D1, D2, rfl, rfl, ⟨rfl, rfl⟩, h2⟩
      obtain ⟨rfl, rfl⟩ := ih _ _ h2
      exact ⟨by simp [cells], rfl⟩
  obtain ⟨rfl, rfl⟩ := key _ _ _ e3
  exact ⟨q, e1, e2, e4⟩
theorem LSt.local {of : List Int} {v : AV} {G G' : Heap} {D : List Nat} (h : LSt of v G D) (hf : ∀ y ∈ D, ∀ b, G y = some b → G' y = some b) : LSt of v G' D := by
  obtain ⟨x, e, h⟩ := h; exact ⟨x, e, LRow.local (LPl.local eI) h hf⟩
theorem LSt.has {of : List Int} {v : AV} {G : Heap} {D : List Nat} (h : LSt of v G D) : ∀ y ∈ D, G y ≠ none := by
  obtain ⟨x, e, h⟩ := h; exact LRow.has (LPl.has eI) h
theorem LSt.wk {of : List Int} {v : AV} {G : Heap} {D : List Nat} (h : LSt of v G D) (hD : D.Nodup) (C : AV → AV) (hC : ∀ {q sz es a a'}, FrzR q sz es a a' → FrzR q sz es (C a) (C a')) : ∃ G', Wk (C v) G (C (aS of)) G' ∧ ∀ y, y ∉ D → G' y = G y := by
  obtain ⟨x, rfl, h⟩ := h
  exact LRow.frzV (e := eI) (sz := 1) (v := C (.agg [x])) (v' := C (aS of)) (by omega) (fun _ => rfl) (LPl.local eI) (LPl.frz eI) h hD (fun q _ hr => hC (.agg (.cons hr .nil)))

theorem toProgram_live (p : Pg) (hp : smPg p) {H : Heap} {K : AV → Heap → Prop} (h : ∀ v G D, LPg p v G D → New H G D → K v G) : CallT Tryz.prog 8 [aPg p] H K := by
  refine W8_ok ?_; simp (maxSteps := 1000000) (disch := first | assumption | (apply Ne.symm; assumption)) only [W8, vz, vu, vv, eqS, eqFieldsV, ↓condV_t, ↓condV_f, tabs, reduceCtorEq, Array.toList, ↓reduceIte, Nat.reduceAdd, Nat.reduceLeDiff, Nat.reduceLT, Nat.reduceMul, Nat.reduceSub, Int.reduceToNat, Int.reduceSub, Int.reduceAdd, Int.reduceNeg]
  intro r hr r2 n1 h2 r3 n2 n3 h3
  have nn1 : r ≠ r2 := Ne.symm n1
  have n2' : r2 ≠ r3 := Ne.symm n2
  have n3' : r ≠ r3 := Ne.symm n3
  (try simp (maxSteps := 1000000) (disch := first | assumption | (apply Ne.symm; assumption)) only [vz, vu, vv, eqS, eqFieldsV, ↓condV_t, ↓condV_f, tabs, reduceCtorEq, Array.toList, ↓reduceIte, Nat.reduceAdd, Nat.reduceLeDiff, Nat.reduceLT, Nat.reduceMul, Nat.reduceSub, Int.reduceToNat, Int.reduceSub, Int.reduceAdd, Int.reduceNeg])
  refine toNodeS_live p.start hp.1 fun x G D hx hn => ?_
  obtain ⟨q, rfl⟩ := LRow.sl hx
  have g3 := hn.le r3 _ (Heap.set_same _ _ _)
  have g2 := hn.le r2 [I 0, I 0, .p .nil, .p .nil] (by rw [Heap.set_other n2', Heap.set_same])
  have g1 := hn.le r [I p.wide, I p.vars, Ns p.start, Cms p.cmds] (by rw [Heap.set_other n3', Heap.set_other nn1, Heap.set_same])
  have m3 := ne_of_new hn (Heap.set_same _ _ _)
  (try simp (maxSteps := 1000000) (disch := first | assumption | (apply Ne.symm; assumption)) only [vz, vu, vv, eqS, eqFieldsV, ↓condV_t, ↓condV_f, tabs, reduceCtorEq, Array.toList, ↓reduceIte, Nat.reduceAdd, Nat.reduceLeDiff, Nat.reduceLT, Nat.reduceMul, Nat.reduceSub, Int.reduceToNat, Int.reduceSub, Int.reduceAdd, Int.reduceNeg, store_at g3, load_at g1])
  refine toCommandS_live p.cmds hp.2.1 hp.2.2 fun y G2 D2 hy hn2 => ?_
  obtain ⟨q2, rfl⟩ := LRow.sl hy
  have k3 := hn2.le r3 _ (Heap.set_same _ _ _)
  have k2 := hn2.le r2 [I 0, I 0, .p .nil, .p .nil] (by rw [Heap.set_other n2']; exact g2)
  have l3 := ne_of_new hn2 (Heap.set_same _ _ _)
  have l2 := ne_of_new hn2 (y := r2) (b := [I 0, I 0, .p .nil, .p .nil]) (by rw [Heap.set_other n2']; exact g2)
  have m2 := ne_of_new hn (y := r2) (b := [I 0, I 0, .p .nil, .p .nil]) (by rw [Heap.set_other n2', Heap.set_same])
  (try simp (maxSteps := 1000000) (disch := first | assumption | (apply Ne.symm; assumption)) only [vz, vu, vv, eqS, eqFieldsV, ↓condV_t, ↓condV_f, tabs, reduceCtorEq, Array.toList, ↓reduceIte, Nat.reduceAdd, Nat.reduceLeDiff, Nat.reduceLT, Nat.reduceMul, Nat.reduceSub, Int.reduceToNat, Int.reduceSub, Int.reduceAdd, Int.reduceNeg, store_at k3])
  (try simp (maxSteps := 1000000) (disch := first | assumption | (apply Ne.symm; assumption)) only [vz, vu, vv, eqS, eqFieldsV, ↓condV_t, ↓condV_f, tabs, reduceCtorEq, Array.toList, ↓reduceIte, Nat.reduceAdd, Nat.reduceLeDiff, Nat.reduceLT, Nat.reduceMul, Nat.reduceSub, Int.reduceToNat, Int.reduceSub, Int.reduceAdd, Int.reduceNeg, store_at k2])
  have hx3 : LN p.start (.sl q 2 0 p.start.length) (G.set r3 [I p.wide, I p.vars, .sl q 2 0 p.start.length, .p .nil]) D := LRow.local (LPl.local eN) hx fun z hz b hb => by rw [Heap.set_other (ne_mem hz m3)]; exact hb
  have hn' := ((hn.base (Heap.le_setN (Heap.le_setN (Heap.le_set hr) h2) h3)).put h3 [I p.wide, I p.vars, .sl q 2 0 p.start.length, .p .nil]).trans hn2 (LRow.has (LPl.has eN) hx3)
  refine h _ _ (D ++ D2) ⟨_, _, D, D2, rfl, rfl, LRow.local (LPl.local eN) hx3 fun z hz b hb => ?_, LRow.local LCm.local hy fun z hz b hb => ?_⟩ ((hn'.put h2 _).put h3 _)
  · rw [Heap.set_other (ne_mem hz m3), Heap.set_other (ne_mem hz m2)]; exact hn2.le z b hb
  · rw [Heap.set_other (ne_mem hz l3), Heap.set_other (ne_mem hz l2)]; exact hb

/-! ### Marks -/
def marked (k : Int) (n : Nat) : List Int := (List.range n).map fun (j : Nat) => k + (j : Int)
theorem marked_len (k : Int) (n : Nat) : (marked k n).length = n := by simp [marked]

theorem markIntS_live (xs : List Int) (hl : xs.length ≤ 1048576) {k : Int} (h0 : 0 ≤ k) (h1 : k ≤ 1000000000) {q : Nat} {G : Heap} (hG : G q = some (cells (xs.map eI))) {K : AV → Heap → Prop}
    (h : K (I (k + xs.length)) (G.set q (cells ((marked k xs.length).map eI)))) : CallT Tryz.prog 40 [rowP q xs, I k] G K := by
  refine W40_ok ?_; simp (maxSteps := 1000000) (disch := first | assumption | (apply Ne.symm; assumption)) only [W40, vz, vu, vv, eqS, eqFieldsV, ↓condV_t, ↓condV_f, tabs, reduceCtorEq, Array.toList, ↓reduceIte, Nat.reduceAdd, Nat.reduceLeDiff, Nat.reduceLT, Nat.reduceMul, Nat.reduceSub, Int.reduceToNat, Int.reduceSub, Int.reduceAdd, Int.reduceNeg]
  refine L40_0_rule (0 : Nat) (fun i => I (k + i)) (fun i => I i) (fun i => G.set q (cells ((marked k i ++ xs.drop i).map eI))) (fun i => i ≤ xs.length) (fun i => xs.length - i) ⟨by omega, ?_, .refl _, ?_⟩ ?_
  · rw [wk_int]; simp
  · intro y b hy
    by_cases e : y = q
    · subst e; rw [Heap.set_same] at hy; rw [hG]; simpa [marked] using hy
    · rw [Heap.set_other e] at hy; exact hy
  intro i hi
  have hcl : (cells ((marked k i ++ xs.drop i).map eI)).length = xs.length := by
    rw [cells_I, List.length_map, List.length_append, marked_len, List.length_drop]; omega
  (try simp (maxSteps := 1000000) (disch := first | assumption | (apply Ne.symm; assumption)) only [vz, vu, vv, eqS, eqFieldsV, ↓condV_t, ↓condV_f, tabs, reduceCtorEq, Array.toList, ↓reduceIte, Nat.reduceAdd, Nat.reduceLeDiff, Nat.reduceLT, Nat.reduceMul, Nat.reduceSub, Int.reduceToNat, Int.reduceSub, Int.reduceAdd, Int.reduceNeg, B40_0, hcl])
  refine ⟨fun h5 => ?_, fun h5 => ?_⟩
  · have hlt : i < xs.length := by omega
    refine ⟨by omega, h5, by omega, i + 1, by omega, by omega, ?_, ?_, ?_⟩
    · rw [wk_int, i64_id (by omega) (by omega)]; omega
    · rw [wk_int, i64_id (by omega) (by omega)]; simp
    · have e1 : xs.drop i = xs.getD i 0 :: xs.drop (i + 1) := by rw [List.drop_eq_getElem_cons hlt]; simp [List.getD, hlt]
      have e2 : marked k (i + 1) = marked k i ++ [k + i] := by simp [marked, List.range_succ]
      have e3 : cells ((marked k i ++ xs.drop i).map eI) = cells ((marked k i).map eI) ++ ([I (xs.getD i 0)] ++ cells ((xs.drop (i + 1)).map eI)) := by rw [e1, List.map_append, cells_app]; rfl
      have e4 : cells ((marked k (i + 1) ++ xs.drop (i + 1)).map eI) = cells ((marked k i).map eI) ++ ([I (k + i)] ++ cells ((xs.drop (i + 1)).map eI)) := by rw [e2, List.append_assoc, List.map_append, cells_app]; rfl
      have e5 := splice_at (pre := cells ((marked k i).map eI)) (c := [I (xs.getD i 0)]) (c' := [I (k + i)]) (post := cells ((xs.drop (i + 1)).map eI)) (off := i * 1) (n := 1) (by rw [cells_I, List.length_map, marked_len, Nat.mul_one]) rfl rfl
      rw [← e3, ← e4] at e5
      rw [← e5]; exact Heap.le_refl _
  · have : i = xs.length := by omega
    subst this
    simpa using h

theorem heldIntS_spec (n : Nat) (hl : n ≤ 1048576) {k : Int} (h0 : 0 ≤ k) (h1 : k ≤ 1000000000) : Pu Tryz.prog 41 [Is (marked k n), I k] (I (k + n)) := by
  refine Pu.of fun H => ?_
  have hml := marked_len k n
  refine W41_ok ?_; simp (maxSteps := 1000000) (disch := first | assumption | (apply Ne.symm; assumption)) only [W41, vz, vu, vv, eqS, eqFieldsV, ↓condV_t, ↓condV_f, tabs, reduceCtorEq, Array.toList, ↓reduceIte, Nat.reduceAdd, Nat.reduceLeDiff, Nat.reduceLT, Nat.reduceMul, Nat.reduceSub, Int.reduceToNat, Int.reduceSub, Int.reduceAdd, Int.reduceNeg]
  refine L41_0_rule (0 : Nat) (fun i => I (k + i)) (fun i => I i) (fun _ => H) (fun i => i ≤ n) (fun i => n - i) ⟨by omega, ?_, .refl _, Heap.le_refl _⟩ ?_
  · rw [wk_int]; simp
  intro i hi
  (try simp (maxSteps := 1000000) (disch := first | assumption | (apply Ne.symm; assumption)) only [vz, vu, vv, eqS, eqFieldsV, ↓condV_t, ↓condV_f, tabs, reduceCtorEq, Array.toList, ↓reduceIte, Nat.reduceAdd, Nat.reduceLeDiff, Nat.reduceLT, Nat.reduceMul, Nat.reduceSub, Int.reduceToNat, Int.reduceSub, Int.reduceAdd, Int.reduceNeg, B41_0, hml])
  refine ⟨fun h5 => ?_, fun h5 => ?_⟩
  · have hlt : i < n := by omega
    have e : (marked k n).getD i default = k + i := by simp [marked, List.getD, hlt]
    rw [e]
    refine ⟨by omega, h5, fun h6 => absurd rfl h6, fun _ => ⟨i + 1, by omega, by omega, ?_, ?_⟩⟩
    · rw [wk_int, i64_id (by omega) (by omega)]; omega
    · rw [wk_int, i64_id (by omega) (by omega)]; simp
  · have : i = n := by omega
    subst this; rfl
end Go.Proofs.YtdnfiacjoghfkaaGreat
/- Marks on programs that own their rows. -/
namespace Go.Proofs.YtdnfiacjoghfkaaGreat
open Go Go.Sep Go.Pt
set_option linter.unusedSimpArgs false
set_option linter.unusedVariables false
attribute [local irreducible] CallT

theorem drop_cons {α : Type} [Inhabited α] {xs : List α} {i : Nat} (h : i < xs.length) : xs.drop i = xs.getD i default :: xs.drop (i + 1) := by
  rw [List.drop_eq_getElem_cons h]; simp [List.getD, h]
/-- A row half of which is done. -/
structure Half {α : Type} (L : Lay α) (G0 : Heap) (q : Nat) (D : List Nat) (xs : List α) (i : Nat) (G : Heap) (done : List α) : Prop where
  ex : ∃ cd cr Dd Dr, G q = some (cd ++ cr) ∧ LL L done cd G Dd ∧ LL L (xs.drop i) cr G Dr ∧ D = Dd ++ Dr
  len : done.length = i
  fr : ∀ y, y ∉ q :: D → G y = G0 y

theorem LL_plain_D {α : Type} {e : α → List PV} {G : Heap} : ∀ {xs : List α} {cs : List AV} {D : List Nat}, LL (LPl e) xs cs G D → D = []
  | [], _, _, h => h.2
  | a :: bs, _, _, ⟨c1, c2, D1, D2, e1, e2, h1, h2⟩ => by rw [e2, h1.2, LL_plain_D h2]; rfl
theorem LL_plain_any {α : Type} {e : α → List PV} {G : Heap} (G' : Heap) {xs : List α} {cs : List AV} {D : List Nat} (h : LL (LPl e) xs cs G D) : LL (LPl e) xs cs G' D :=
  LL.local (LPl.local e) h fun y hy => by rw [LL_plain_D h] at hy; cases hy
theorem markNodeS_live (t : List Nd) (hl : t.length ≤ 1048576) {x : AV} {G : Heap} {D : List Nat} (hx : LN t x G D) (hD : D.Nodup) {k : Int} (h0 : 0 ≤ k) (hk : k ≤ 900000000) {K : AV → Heap → Prop}
    (h : ∀ k' t' G', LN t' x G' D → t'.length = t.length → (∀ y, y ∉ D → G' y = G y) → k ≤ k' → k' ≤ k + 2 * t.length → K (I k') G') : CallT Tryz.prog 25 [x, I k] G K := by
  obtain ⟨q, cs, D', rfl, hq, hll, rfl⟩ := hx
  refine W25_ok ?_; simp (maxSteps := 1000000) (disch := first | assumption | (apply Ne.symm; assumption)) only [W25, vz, vu, vv, eqS, eqFieldsV, ↓condV_t, ↓condV_f, tabs, reduceCtorEq, Array.toList, ↓reduceIte, Nat.reduceAdd, Nat.reduceLeDiff, Nat.reduceLT, Nat.reduceMul, Nat.reduceSub, Int.reduceToNat, Int.reduceSub, Int.reduceAdd, Int.reduceNeg]
  refine L25_0_rule ((0 : Nat), G, ([] : List Nd)) (fun s => I (k + 2 * s.1)) (fun s => I s.1) (fun s => s.2.1) (fun s => s.1 ≤ t.length ∧ Half (LPl eN) G q D' t s.1 s.2.1 s.2.2) (fun s => t.length - s.1)
    ⟨⟨by simp, ⟨⟨[], cs, [], D', by simpa using hq, ⟨rfl, rfl⟩, by simpa using hll, rfl⟩, rfl, fun _ _ => rfl⟩⟩, ?_, .refl _, Heap.le_refl _⟩ ?_
  · rw [wk_int]; simp
  rintro ⟨i, G1, done⟩ ⟨hi, ⟨⟨cd, cr, Dd, Dr, e1, e2, e3, e4⟩, e5, e6⟩⟩
  dsimp only at hi e1 e2 e3 e4 e5 e6
  (try simp (maxSteps := 1000000) (disch := first | assumption | (apply Ne.symm; assumption)) only [vz, vu, vv, eqS, eqFieldsV, ↓condV_t, ↓condV_f, tabs, reduceCtorEq, Array.toList, ↓reduceIte, Nat.reduceAdd, Nat.reduceLeDiff, Nat.reduceLT, Nat.reduceMul, Nat.reduceSub, Int.reduceToNat, Int.reduceSub, Int.reduceAdd, Int.reduceNeg, B25_0])
  refine ⟨fun h5 => ?_, fun h5 => ?_⟩
  · have hlt : i < t.length := by omega
    rw [drop_cons hlt] at e3
    obtain ⟨c, c2, Di, D2, rfl, rfl, ⟨rfl, rfl⟩, f2⟩ := e3
    have hdl : cd.length = i * 2 := by rw [LL.size (LPl.size (e := eN) (sz := 2) (fun _ => rfl)) e2, e5]
    generalize t.getD i default = a at e1
    have e1' : G1 q = some (cd ++ (I a.op :: U a.n :: c2)) := e1
    have p1 : ∀ z, List.take (i * 2) (cd ++ (I a.op :: U a.n :: c2)) ++ [z] ++ List.drop (i * 2 + 1) (cd ++ (I a.op :: U a.n :: c2)) = cd ++ (z :: U a.n :: c2) := fun z => splice_at (c := [I a.op]) (c' := [z]) (post := U a.n :: c2) hdl.symm rfl rfl
    have p2 : ∀ z w, List.take (i * 2 + 1) (cd ++ (z :: U a.n :: c2)) ++ [w] ++ List.drop (i * 2 + 1 + 1) (cd ++ (z :: U a.n :: c2)) = cd ++ (z :: w :: c2) := fun z w => by
      have := splice_at (pre := cd ++ [z]) (c := [U a.n]) (c' := [w]) (post := c2) (off := i * 2 + 1) (n := 1) (by simp [hdl]) rfl rfl
      simpa using this
    (try simp (maxSteps := 1000000) (disch := first | assumption | (apply Ne.symm; assumption)) only [vz, vu, vv, eqS, eqFieldsV, ↓condV_t, ↓condV_f, tabs, reduceCtorEq, Array.toList, ↓reduceIte, Nat.reduceAdd, Nat.reduceLeDiff, Nat.reduceLT, Nat.reduceMul, Nat.reduceSub, Int.reduceToNat, Int.reduceSub, Int.reduceAdd, Int.reduceNeg, store_at e1'])
    rw [p1]
    refine ⟨by omega, h5, by omega, by omega, h5, by simp only [List.length_take, List.length_drop, List.length_append, List.length_cons, List.length_nil]; omega,
      (i + 1, G1.set q (cd ++ (I (k + 2 * i) :: U (IntKind.u64.wrap (IntKind.i64.wrap (k + 2 * ↑i + 1))) :: c2)), done ++ [⟨k + 2 * i, IntKind.u64.wrap (IntKind.i64.wrap (k + 2 * ↑i + 1))⟩]), ⟨by simp only; omega, ⟨⟨cd ++ [I (k + 2 * i), U (IntKind.u64.wrap (IntKind.i64.wrap (k + 2 * ↑i + 1)))], c2, Dd, D2, ?_, ?_, ?_, ?_⟩, by simp [e5], fun y hy => ?_⟩⟩, by simp only; omega, ?_, ?_, ?_⟩
    · show (G1.set q _) q = _
      rw [Heap.set_same]; simp
    · have := LL.snoc (L := LPl eN) (a := ⟨k + 2 * i, IntKind.u64.wrap (IntKind.i64.wrap (k + 2 * ↑i + 1))⟩) (G := G1.set q (cd ++ (I (k + 2 * i) :: U (IntKind.u64.wrap (IntKind.i64.wrap (k + 2 * ↑i + 1))) :: c2))) (D2 := []) ⟨rfl, rfl⟩ (LL_plain_any _ e2)
      simpa using this
    · exact LL_plain_any _ f2
    · simpa using e4
    · show (G1.set q _) y = _
      rw [List.mem_cons, not_or] at hy
      rw [Heap.set_other hy.1, e6 y (by simp [hy.1, hy.2])]
    · rw [wk_int, i64_id (n := k + 2 * i + 1) (by omega) (by omega), i64_id (by omega) (by omega)]; simp only; omega
    · rw [wk_int, i64_id (by omega) (by omega)]; simp
    · have := p2 (I (k + 2 * i)) (U (IntKind.u64.wrap (IntKind.i64.wrap (k + 2 * ↑i + 1))))
      simp only
      rw [this]; exact Heap.le_refl _
  · have : i = t.length := by omega
    subst this
    rw [List.drop_length] at e3
    obtain ⟨rfl, rfl⟩ := e3
    refine h _ done G1 ⟨q, cd, D', by rw [e5], by simpa using e1, by rw [e4]; simpa using e2, rfl⟩ e5 e6 (by omega) (by omega)

end Go.Proofs.YtdnfiacjoghfkaaGreat
