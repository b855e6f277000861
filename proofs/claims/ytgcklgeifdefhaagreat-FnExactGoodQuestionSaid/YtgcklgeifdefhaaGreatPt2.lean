/- Plain facts: words and their lower bits. -/
import Derived.Test.YtgcklgeifdefhaaGreatSepC
namespace Go.Pt
open Go Go.Sep
theorem mask_eq : ∀ w : Nat, w ≤ 64 → (2 ^ 64 - 1) / 2 ^ (64 - w) = 2 ^ w - 1 := by decide +kernel

theorem or_step (a k : Nat) : (a % 2 ^ k) ||| (a &&& 2 ^ k) = a % 2 ^ (k + 1) := by
  apply Nat.eq_of_testBit_eq
  intro i
  rw [Nat.testBit_or, Nat.testBit_and, Nat.testBit_mod_two_pow, Nat.testBit_mod_two_pow, Nat.testBit_two_pow]
  cases a.testBit i
  · simp
  · simp only [Bool.and_true, Bool.true_and]
    rw [Bool.eq_iff_iff]
    simp only [Bool.or_eq_true, decide_eq_true_eq]
    omega

theorem bitsU (a b : Nat) (ha : a < 2 ^ 64) (hb : b < 2 ^ 64) :
    bitsI .and .u64 a b = ((a &&& b : Nat) : Int) ∧ bitsI .or .u64 a b = ((a ||| b : Nat) : Int) := by
  have e : ∀ x : Nat, x < 2 ^ 64 → (BitVec.ofInt IntKind.u64.bits (x : Int)).toNat = x := by
    intro x hx
    have : BitVec.ofInt IntKind.u64.bits (x : Int) = BitVec.ofNat 64 x := by
      apply BitVec.eq_of_toNat_eq; simp [IntKind.bits]
    rw [this]
    show (BitVec.ofNat 64 x).toNat = x
    rw [BitVec.toNat_ofNat, Nat.mod_eq_of_lt hx]
  constructor
  · simp only [bitsI]
    rw [BitVec.toNat_and, e a ha, e b hb, IntKind.wrap_u64]
    have := Nat.and_lt_two_pow a hb
    omega
  · simp only [bitsI]
    rw [BitVec.toNat_or, e a ha, e b hb, IntKind.wrap_u64]
    have := Nat.or_lt_two_pow ha hb
    omega
end Go.Pt
