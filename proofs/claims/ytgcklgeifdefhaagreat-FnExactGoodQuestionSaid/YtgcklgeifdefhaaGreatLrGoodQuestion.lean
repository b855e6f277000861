/- The row of the law that GoodQuestion answers as the reference does: whatever the arguments, it answers true, and what it is told reads as it did. -/
import Derived.Test.YtgcklgeifdefhaaGreatLr4
import Derived.Test.YtgcklgeifdefhaaGreatLq2
import Derived.Test.YtgcklgeifdefhaaGreatRows
import Derived.WalkKit
import Derived.ProofKit
import Derived.OpenShut
namespace Go.Proofs.YtgcklgeifdefhaaGreat.goodQuestion
open Go Go.Sep Go.ChangeShapes Go.WideShapes Go.ChangeAt Go.RowKit
set_option linter.unusedVariables false

theorem own : ownKnob Tryz.prog.godebug = none := by kernel_rfl

theorem told (avs : List AV) (h : ArgsT Tryz.prog [29] avs) : CallT Tryz.prog 3 avs (fun _ => none) (fun v _ => v = .p (.bool true)) := by
  obtain ⟨a, b, rfl, h1, h⟩ := args_cons h
  cases args_nil h
  obtain ⟨x1, hx1, hn1, rfl⟩ := arg_question h1
  exact (FnExactGoodQuestion_true hx1 hn1).use rfl

set_option maxRecDepth 100000 in
theorem lifted (os : Os) (started : os.Started) (H : Type) (enc : TypeId × Value → H) :
    ReturnsInHanded {} Tryz.checked os 3 .any (Rows.fnExactGoodQuestionSpec.pre6 enc Tryz.prog Tryz.f3 Rows.fnExactGoodQuestionRow.domain false) (Rows.fnExactGoodQuestionSpec.post enc Tryz.prog Tryz.f3 false true false false) := by
  refine returnsInHanded_of_change (C := Tryz.checked) own started (by kernel_rfl) Tryz.func3
    (ChangeSpec.witness6 (enc := enc) (C := Tryz.checked) false ⟨#[], #[.agg #[.int .i64 0, .int .i64 0, .slice none 0 0, .slice none 0 0, .slice none 0 0, .slice none 0 0]], []⟩ 12 (by kernel_rfl) (by kernel_rfl) (by kernel_rfl) (by kernel_rfl)) ?_
  intro W base args ds gs before hval hW _ _
  refine row_of_true (n := 12) (tb := 4) (by kernel_rfl) rfl (by kernel_rfl) (by kernel_rfl) ?_ ?_ ?_ hval hW
  · have : (Tryz.f3.params.toList.all fun t => Tryz.prog.readableRec t && decide (t < Tryz.prog.types.size) && plainB Tryz.prog 12 t) = true := by kernel_rfl
    intro t ht
    have := List.all_eq_true.1 this t ht
    rw [Bool.and_eq_true, Bool.and_eq_true, decide_eq_true_eq] at this
    exact ⟨this.1.1, this.1.2, this.2⟩
  · intro ds hd
    rw [Tryz.params3] at hd
    match ds, hd with
    | [a], _ => rfl
  · rw [Tryz.params3]
    exact told

theorem over : Rows.fnExactGoodQuestionRow.holds Tryz.pinned (OpenSpec.ofChange Rows.fnExactGoodQuestionSpec) :=
  OpenClaim.holds_of_wide 3 Tryz.f3 rfl rfl rfl rfl rfl rfl rfl ⟨rfl, rfl, rfl, rfl, rfl⟩ rfl rfl rfl rfl rfl (by kernel_rfl) Tryz.func3 (by kernel_rfl)
    (of_decide_eq_true (by kernel_rfl)) (by unfold Func.isWrapper; first | (rw [if_pos (by decide +kernel)]; kernel_rfl) | (rw [if_neg (by decide +kernel)]; exact ⟨rfl, rfl⟩))
    (fun os started H enc _ => lifted os started H enc)

/-- The statement. -/
theorem proved : Rows.FnExactGoodQuestionSaid :=
  over
#print axioms proved
end Go.Proofs.YtgcklgeifdefhaaGreat.goodQuestion
