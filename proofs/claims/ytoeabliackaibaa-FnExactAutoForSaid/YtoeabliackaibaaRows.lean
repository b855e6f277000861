/-
  No cell of these rows narrows 'for every input' (looked for: loops, veiled, ifaces, maps, wideKeys, modest, calm, conditions, laid).
  DERIVED. THE GIVEN ROWS OF THIS SEAT. 6 by the template 'for every input the law returns true; each argument reads behind the call as it read before'; 0 by the template 'total and deterministic' (their statements: YtoeabliackaibaaTotals.lean).
  GIVEN WITH THE SEED: the statements are not yours to turn. If you find one false, say at which input.
  Laid BY PROGRAM, IN A SANDBOX (cutbox-rows.mjs): the forced cells as the released guide's own fill.sh prints them over the translation 77f9be0eb79de6e8… (all of the seat's roots in one cut). By AI agents, Wed Nov 11 2026. No macro, syntax, notation, axiom, sorry.
-/
import Derived.Test.YtoeabliackaibaaChecked
import GoSem.Claim
import GoSem.ClaimJoined
import GoSem.ClaimMapViews
import Derived.JoinedTies
import Derived.KernelRfl
namespace Go.Proofs.Ytoeabliackaibaa
/- THE CELL 'sum', in the pinned program and in every row, IS THE sha256 OF THE DUMP (.gsa) THAT YtoeabliackaibaaProg.lean LOADS. Nothing in Lean hashes anything: it is a label: what it is worth is what the hold of that sum in a sandbox is worth. -/
noncomputable def Try.pinned : Pinned := { name := "ytoeabliackaibaa", sum := "77f9be0eb79de6e815fb2eaf8a65cc925ee180c4fdcba2ca2da76a4462f7a01f", checked := Try.checked }
namespace Rows
def none {H : Type} : Left H := { results := [], args := [] }

/-- 'laws.FnExactTrackedOf': WHATEVER THE INPUT: true; the input reads as it did. -/
def fnExactTrackedOfSpec : ChangeSpec := { name := "fnExactTrackedOf", fn := fun _ => fun
  | [d] => { results := [.lit (.bool true)], args := [d] }
  | _ => none }
def fnExactTrackedOfRow : OpenClaim := { program := "ytoeabliackaibaa", sum := "77f9be0eb79de6e815fb2eaf8a65cc925ee180c4fdcba2ca2da76a4462f7a01f", func := "loop.example/g00649/laws.FnExactTrackedOf", spec := "fnExactTrackedOf", recurses := true, apart := false }
def FnExactTrackedOfSaid : Prop := fnExactTrackedOfRow.holds Try.pinned (OpenSpec.ofChange fnExactTrackedOfSpec)

/-- ITS FALSE NEIGHBOUR: 'it returns false'. Refute it at one input. -/
def fnExactTrackedOfWrong : ChangeSpec := { name := "fnExactTrackedOf", fn := fun _ => fun
  | [d] => { results := [.lit (.bool false)], args := [d] }
  | _ => none }
def FnExactTrackedOfWrongFalsely : Prop := fnExactTrackedOfRow.holds Try.pinned (OpenSpec.ofChange fnExactTrackedOfWrong)

/-- 'laws.FnExactEvalNow': WHATEVER THE INPUT: true; the input reads as it did. -/
def fnExactEvalNowSpec : ChangeSpec := { name := "fnExactEvalNow", fn := fun _ => fun
  | [d1, d2, d3] => { results := [.lit (.bool true)], args := [d1, d2, d3] }
  | _ => none }
def fnExactEvalNowRow : OpenClaim := { program := "ytoeabliackaibaa", sum := "77f9be0eb79de6e815fb2eaf8a65cc925ee180c4fdcba2ca2da76a4462f7a01f", func := "loop.example/g00649/laws.FnExactEvalNow", spec := "fnExactEvalNow", recurses := true, apart := false }
def FnExactEvalNowSaid : Prop := fnExactEvalNowRow.holds Try.pinned (OpenSpec.ofChange fnExactEvalNowSpec)

/-- ITS FALSE NEIGHBOUR: 'it returns false'. Refute it at one input. -/
def fnExactEvalNowWrong : ChangeSpec := { name := "fnExactEvalNow", fn := fun _ => fun
  | [d1, d2, d3] => { results := [.lit (.bool false)], args := [d1, d2, d3] }
  | _ => none }
def FnExactEvalNowWrongFalsely : Prop := fnExactEvalNowRow.holds Try.pinned (OpenSpec.ofChange fnExactEvalNowWrong)

/-- 'laws.FnExactGuessOf': WHATEVER THE INPUT: true; the input reads as it did. -/
def fnExactGuessOfSpec : ChangeSpec := { name := "fnExactGuessOf", fn := fun _ => fun
  | [d1, d2, d3] => { results := [.lit (.bool true)], args := [d1, d2, d3] }
  | _ => none }
def fnExactGuessOfRow : OpenClaim := { program := "ytoeabliackaibaa", sum := "77f9be0eb79de6e815fb2eaf8a65cc925ee180c4fdcba2ca2da76a4462f7a01f", func := "loop.example/g00649/laws.FnExactGuessOf", spec := "fnExactGuessOf", recurses := true, apart := false }
def FnExactGuessOfSaid : Prop := fnExactGuessOfRow.holds Try.pinned (OpenSpec.ofChange fnExactGuessOfSpec)

/-- ITS FALSE NEIGHBOUR: 'it returns false'. Refute it at one input. -/
def fnExactGuessOfWrong : ChangeSpec := { name := "fnExactGuessOf", fn := fun _ => fun
  | [d1, d2, d3] => { results := [.lit (.bool false)], args := [d1, d2, d3] }
  | _ => none }
def FnExactGuessOfWrongFalsely : Prop := fnExactGuessOfRow.holds Try.pinned (OpenSpec.ofChange fnExactGuessOfWrong)

/-- 'laws.FnExactRunFor': WHATEVER THE INPUT: true; the input reads as it did. -/
def fnExactRunForSpec : ChangeSpec := { name := "fnExactRunFor", fn := fun _ => fun
  | [d1, d2] => { results := [.lit (.bool true)], args := [d1, d2] }
  | _ => none }
def fnExactRunForRow : OpenClaim := { program := "ytoeabliackaibaa", sum := "77f9be0eb79de6e815fb2eaf8a65cc925ee180c4fdcba2ca2da76a4462f7a01f", func := "loop.example/g00649/laws.FnExactRunFor", spec := "fnExactRunFor", unfollowed := true, recurses := true, apart := false }
def FnExactRunForSaid : Prop := fnExactRunForRow.holds Try.pinned (OpenSpec.ofChange fnExactRunForSpec)

/-- ITS FALSE NEIGHBOUR: 'it returns false'. Refute it at one input. -/
def fnExactRunForWrong : ChangeSpec := { name := "fnExactRunFor", fn := fun _ => fun
  | [d1, d2] => { results := [.lit (.bool false)], args := [d1, d2] }
  | _ => none }
def FnExactRunForWrongFalsely : Prop := fnExactRunForRow.holds Try.pinned (OpenSpec.ofChange fnExactRunForWrong)

/-- 'laws.FnExactAutoFor': WHATEVER THE INPUT: true; the input reads as it did. -/
def fnExactAutoForSpec : ChangeSpec := { name := "fnExactAutoFor", fn := fun _ => fun
  | [d] => { results := [.lit (.bool true)], args := [d] }
  | _ => none }
def fnExactAutoForRow : OpenClaim := { program := "ytoeabliackaibaa", sum := "77f9be0eb79de6e815fb2eaf8a65cc925ee180c4fdcba2ca2da76a4462f7a01f", func := "loop.example/g00649/laws.FnExactAutoFor", spec := "fnExactAutoFor", unfollowed := true, recurses := true, apart := false }
def FnExactAutoForSaid : Prop := fnExactAutoForRow.holds Try.pinned (OpenSpec.ofChange fnExactAutoForSpec)

/-- ITS FALSE NEIGHBOUR: 'it returns false'. Refute it at one input. -/
def fnExactAutoForWrong : ChangeSpec := { name := "fnExactAutoFor", fn := fun _ => fun
  | [d] => { results := [.lit (.bool false)], args := [d] }
  | _ => none }
def FnExactAutoForWrongFalsely : Prop := fnExactAutoForRow.holds Try.pinned (OpenSpec.ofChange fnExactAutoForWrong)

/-- 'laws.FnUnrolled': WHATEVER THE INPUT: true; the input reads as it did. -/
def fnUnrolledSpec : ChangeSpec := { name := "fnUnrolled", fn := fun _ => fun
  | [d1, d2] => { results := [.lit (.bool true)], args := [d1, d2] }
  | _ => none }
def fnUnrolledRow : OpenClaim := { program := "ytoeabliackaibaa", sum := "77f9be0eb79de6e815fb2eaf8a65cc925ee180c4fdcba2ca2da76a4462f7a01f", func := "loop.example/g00649/laws.FnUnrolled", spec := "fnUnrolled", unfollowed := true, recurses := true, apart := false }
def FnUnrolledSaid : Prop := fnUnrolledRow.holds Try.pinned (OpenSpec.ofChange fnUnrolledSpec)

/-- ITS FALSE NEIGHBOUR: 'it returns false'. Refute it at one input. -/
def fnUnrolledWrong : ChangeSpec := { name := "fnUnrolled", fn := fun _ => fun
  | [d1, d2] => { results := [.lit (.bool false)], args := [d1, d2] }
  | _ => none }
def FnUnrolledWrongFalsely : Prop := fnUnrolledRow.holds Try.pinned (OpenSpec.ofChange fnUnrolledWrong)

/- THE SECOND FORM. 'bulk': how many values and letters a reading holds, each counted each time it is reached (what is shared counts as often as it is met; a slice's spare places count too). A statement '..UptoSaid' is the law's where the arguments, and the package variables that the reading takes, are together of bulk at most 1048576: NARROWER than '..Said'. Prove '..Said' where nothing that the law and all that it calls make is longer than what came in: it says more and counts as full. Else prove '..UptoSaid'. A law counts once. -/
mutual
def uptoBulk {H : Type} : DataW H → Nat
  | .lit (.string bytes) => bytes.length + 1
  | .lit _ => 1
  | .nil => 1
  | .ptr d => uptoBulk d + 1
  | .slice elems spare => uptoBulkAll elems + uptoBulkAll spare + 1
  | .agg parts => uptoBulkAll parts + 1
  | .iface _ d => uptoBulk d + 1
  | .map entries => uptoBulkEntries entries + 1
  | .held _ => 1
def uptoBulkAll {H : Type} : List (DataW H) → Nat
  | [] => 0
  | d :: r => uptoBulk d + uptoBulkAll r
def uptoBulkEntries {H : Type} : List (Lit × DataW H) → Nat
  | [] => 0
  | x :: r => uptoBulkEntry x + uptoBulkEntries r
def uptoBulkEntry {H : Type} : Lit × DataW H → Nat
  | (.string bytes, d) => bytes.length + uptoBulk d + 1
  | (_, d) => uptoBulk d + 1
 end
def uptoSmall : (H : Type) → List (DataW H) → Bool := fun _ ds => decide (uptoBulkAll ds ≤ 1048576)
def OpenSpec.upto (s : _root_.Go.ChangeSpec) : _root_.Go.OpenSpec := { _root_.Go.OpenSpec.ofChange s with cond := some uptoSmall }

/-- 'laws.FnExactTrackedOf', WHERE WHAT IT READS IS OF BULK AT MOST 1048576: true; the input reads as it did. -/
def fnExactTrackedOfUptoRow : OpenClaim := { program := "ytoeabliackaibaa", sum := "77f9be0eb79de6e815fb2eaf8a65cc925ee180c4fdcba2ca2da76a4462f7a01f", func := "loop.example/g00649/laws.FnExactTrackedOf", spec := "fnExactTrackedOf", recurses := true, apart := false, narrowed := true }
def FnExactTrackedOfUptoSaid : Prop := fnExactTrackedOfUptoRow.holds Try.pinned (OpenSpec.upto fnExactTrackedOfSpec)

/-- 'laws.FnExactEvalNow', WHERE WHAT IT READS IS OF BULK AT MOST 1048576: true; the input reads as it did. -/
def fnExactEvalNowUptoRow : OpenClaim := { program := "ytoeabliackaibaa", sum := "77f9be0eb79de6e815fb2eaf8a65cc925ee180c4fdcba2ca2da76a4462f7a01f", func := "loop.example/g00649/laws.FnExactEvalNow", spec := "fnExactEvalNow", recurses := true, apart := false, narrowed := true }
def FnExactEvalNowUptoSaid : Prop := fnExactEvalNowUptoRow.holds Try.pinned (OpenSpec.upto fnExactEvalNowSpec)

/-- 'laws.FnExactGuessOf', WHERE WHAT IT READS IS OF BULK AT MOST 1048576: true; the input reads as it did. -/
def fnExactGuessOfUptoRow : OpenClaim := { program := "ytoeabliackaibaa", sum := "77f9be0eb79de6e815fb2eaf8a65cc925ee180c4fdcba2ca2da76a4462f7a01f", func := "loop.example/g00649/laws.FnExactGuessOf", spec := "fnExactGuessOf", recurses := true, apart := false, narrowed := true }
def FnExactGuessOfUptoSaid : Prop := fnExactGuessOfUptoRow.holds Try.pinned (OpenSpec.upto fnExactGuessOfSpec)

/-- 'laws.FnExactRunFor', WHERE WHAT IT READS IS OF BULK AT MOST 1048576: true; the input reads as it did. -/
def fnExactRunForUptoRow : OpenClaim := { program := "ytoeabliackaibaa", sum := "77f9be0eb79de6e815fb2eaf8a65cc925ee180c4fdcba2ca2da76a4462f7a01f", func := "loop.example/g00649/laws.FnExactRunFor", spec := "fnExactRunFor", unfollowed := true, recurses := true, apart := false, narrowed := true }
def FnExactRunForUptoSaid : Prop := fnExactRunForUptoRow.holds Try.pinned (OpenSpec.upto fnExactRunForSpec)

/-- 'laws.FnExactAutoFor', WHERE WHAT IT READS IS OF BULK AT MOST 1048576: true; the input reads as it did. -/
def fnExactAutoForUptoRow : OpenClaim := { program := "ytoeabliackaibaa", sum := "77f9be0eb79de6e815fb2eaf8a65cc925ee180c4fdcba2ca2da76a4462f7a01f", func := "loop.example/g00649/laws.FnExactAutoFor", spec := "fnExactAutoFor", unfollowed := true, recurses := true, apart := false, narrowed := true }
def FnExactAutoForUptoSaid : Prop := fnExactAutoForUptoRow.holds Try.pinned (OpenSpec.upto fnExactAutoForSpec)

/-- 'laws.FnUnrolled', WHERE WHAT IT READS IS OF BULK AT MOST 1048576: true; the input reads as it did. -/
def fnUnrolledUptoRow : OpenClaim := { program := "ytoeabliackaibaa", sum := "77f9be0eb79de6e815fb2eaf8a65cc925ee180c4fdcba2ca2da76a4462f7a01f", func := "loop.example/g00649/laws.FnUnrolled", spec := "fnUnrolled", unfollowed := true, recurses := true, apart := false, narrowed := true }
def FnUnrolledUptoSaid : Prop := fnUnrolledUptoRow.holds Try.pinned (OpenSpec.upto fnUnrolledSpec)

end Rows
end Go.Proofs.Ytoeabliackaibaa
