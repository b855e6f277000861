/- Specs: good automata. -/
import Derived.Test.YtgcklgeifdefhaaGreatMa1
namespace Go.Proofs.YtgcklgeifdefhaaGreat
open Go Go.Sep Go.Pt
set_option linter.unusedSimpArgs false
set_option linter.unusedVariables false
attribute [local irreducible] CallT

theorem riseAt_iff {l : List Int} {n : Int} {i : Nat} : riseAt l n i = true ↔ 0 ≤ l.getD i default ∧ l.getD i default < n ∧ (i = 0 ∨ l.getD (i - 1) default < l.getD i default) := by
  simp only [riseAt, Bool.and_eq_true, Bool.or_eq_true, decide_eq_true_eq, and_assoc]
theorem rise_not {l : List Int} {n : Int} {i : Nat} (h : ¬ (0 ≤ l.getD i default ∧ l.getD i default < n ∧ (i = 0 ∨ l.getD (i - 1) default < l.getD i default))) : riseAt l n i = false := by
  rw [Bool.eq_false_iff]; exact fun hh => h (riseAt_iff.1 hh)
def goalsOk (n : Int) (gs : List (List Int)) : Bool := decide (gs.length ≤ 6) && gs.all (fun g => rising g n)
theorem not_any_not {α : Type} {p : α → Bool} {l : List α} : (!l.any fun x => !p x) = l.all p := by
  induction l with
  | nil => rfl
  | cons a l ih => simp only [List.any_cons, List.all_cons, Bool.not_or, Bool.not_not, ih]
theorem edIn_iff {n : Int} {e : Ed} : edIn n e = true ↔ (0 ≤ e.src ∧ e.src < n) ∧ (0 ≤ e.dst ∧ e.dst < n) ∧ (0 ≤ e.lt ∧ e.lt < 8) := by
  simp only [edIn, Bool.and_eq_true, decide_eq_true_eq]
theorem edAt_iff {n : Int} {es : List Ed} {i : Nat} : edAt n es i = true ↔ edIn n (es.getD i default) = true ∧ (i = 0 ∨ edLt (es.getD (i - 1) default) (es.getD i default) = true) := by
  simp only [edAt, Bool.and_eq_true, Bool.or_eq_true, decide_eq_true_eq]
theorem edAt_not {n : Int} {es : List Ed} {i : Nat} (h : ¬ (edIn n (es.getD i default) = true ∧ (i = 0 ∨ edLt (es.getD (i - 1) default) (es.getD i default) = true))) : edAt n es i = false := by
  rw [Bool.eq_false_iff]; exact fun hh => h (edAt_iff.1 hh)
theorem goodA_def (a : Au) : goodA a = ((decide (1 ≤ a.states) && decide (a.states ≤ 96)) && (rising a.first a.states && (decide (a.edges.length ≤ 2400) && (goalsOk a.states a.goals && edsOk a.states a.edges)))) := rfl

end Go.Proofs.YtgcklgeifdefhaaGreat
