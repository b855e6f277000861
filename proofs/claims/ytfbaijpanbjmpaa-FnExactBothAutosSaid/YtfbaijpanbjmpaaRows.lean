/-
  No cell of these rows narrows 'for every input' (looked for: loops, veiled, ifaces, maps, wideKeys, modest, calm, conditions, laid).
  DERIVED. THE GIVEN ROWS OF THIS SEAT. 6 by the template 'for every input the law returns true; each argument reads behind the call as it read before'; 0 by the template 'total and deterministic' (their statements: YtfbaijpanbjmpaaTotals.lean).
  GIVEN WITH THE SEED: the statements are not yours to turn. If you find one false, say at which input.
  Laid BY PROGRAM, IN A SANDBOX (cutbox-rows.mjs): the forced cells as the released guide's own fill.sh prints them over the translation e20ea755ddf2a5ef… (all of the seat's roots in one cut). By AI agents, Wed Nov 11 2026. No macro, syntax, notation, axiom, sorry.
-/
import Derived.Test.YtfbaijpanbjmpaaChecked
import GoSem.Claim
import GoSem.ClaimJoined
import GoSem.ClaimMapViews
import Derived.JoinedTies
import Derived.KernelRfl
namespace Go.Proofs.Ytfbaijpanbjmpaa
/- THE CELL 'sum', in the pinned program and in every row, IS THE sha256 OF THE DUMP (.gsa) THAT YtfbaijpanbjmpaaProg.lean LOADS. Nothing in Lean hashes anything: it is a label: what it is worth is what the hold of that sum in a sandbox is worth. -/
noncomputable def Try.pinned : Pinned := { name := "ytfbaijpanbjmpaa", sum := "e20ea755ddf2a5ef87deb04977f61cfc9f8cc4db3d393cf247ac73f3d09ccf68", checked := Try.checked }
namespace Rows
def none {H : Type} : Left H := { results := [], args := [] }

/-- 'laws.FnExactEitherAuto': WHATEVER THE INPUT: true; the input reads as it did. -/
def fnExactEitherAutoSpec : ChangeSpec := { name := "fnExactEitherAuto", fn := fun _ => fun
  | [d1, d2] => { results := [.lit (.bool true)], args := [d1, d2] }
  | _ => none }
def fnExactEitherAutoRow : OpenClaim := { program := "ytfbaijpanbjmpaa", sum := "e20ea755ddf2a5ef87deb04977f61cfc9f8cc4db3d393cf247ac73f3d09ccf68", func := "loop.example/g00649/laws.FnExactEitherAuto", spec := "fnExactEitherAuto", unfollowed := true, recurses := true, apart := false }
def FnExactEitherAutoSaid : Prop := fnExactEitherAutoRow.holds Try.pinned (OpenSpec.ofChange fnExactEitherAutoSpec)

/-- ITS FALSE NEIGHBOUR: 'it returns false'. Refute it at one input. -/
def fnExactEitherAutoWrong : ChangeSpec := { name := "fnExactEitherAuto", fn := fun _ => fun
  | [d1, d2] => { results := [.lit (.bool false)], args := [d1, d2] }
  | _ => none }
def FnExactEitherAutoWrongFalsely : Prop := fnExactEitherAutoRow.holds Try.pinned (OpenSpec.ofChange fnExactEitherAutoWrong)

/-- 'laws.FnExactOneGoal': WHATEVER THE INPUT: true; the input reads as it did. -/
def fnExactOneGoalSpec : ChangeSpec := { name := "fnExactOneGoal", fn := fun _ => fun
  | [d] => { results := [.lit (.bool true)], args := [d] }
  | _ => none }
def fnExactOneGoalRow : OpenClaim := { program := "ytfbaijpanbjmpaa", sum := "e20ea755ddf2a5ef87deb04977f61cfc9f8cc4db3d393cf247ac73f3d09ccf68", func := "loop.example/g00649/laws.FnExactOneGoal", spec := "fnExactOneGoal", unfollowed := true, recurses := true, apart := false }
def FnExactOneGoalSaid : Prop := fnExactOneGoalRow.holds Try.pinned (OpenSpec.ofChange fnExactOneGoalSpec)

/-- ITS FALSE NEIGHBOUR: 'it returns false'. Refute it at one input. -/
def fnExactOneGoalWrong : ChangeSpec := { name := "fnExactOneGoal", fn := fun _ => fun
  | [d] => { results := [.lit (.bool false)], args := [d] }
  | _ => none }
def FnExactOneGoalWrongFalsely : Prop := fnExactOneGoalRow.holds Try.pinned (OpenSpec.ofChange fnExactOneGoalWrong)

/-- 'laws.FnExactTakesWord': WHATEVER THE INPUT: true; the input reads as it did. -/
def fnExactTakesWordSpec : ChangeSpec := { name := "fnExactTakesWord", fn := fun _ => fun
  | [d1, d2] => { results := [.lit (.bool true)], args := [d1, d2] }
  | _ => none }
def fnExactTakesWordRow : OpenClaim := { program := "ytfbaijpanbjmpaa", sum := "e20ea755ddf2a5ef87deb04977f61cfc9f8cc4db3d393cf247ac73f3d09ccf68", func := "loop.example/g00649/laws.FnExactTakesWord", spec := "fnExactTakesWord", unfollowed := true, recurses := true, apart := false }
def FnExactTakesWordSaid : Prop := fnExactTakesWordRow.holds Try.pinned (OpenSpec.ofChange fnExactTakesWordSpec)

/-- ITS FALSE NEIGHBOUR: 'it returns false'. Refute it at one input. -/
def fnExactTakesWordWrong : ChangeSpec := { name := "fnExactTakesWord", fn := fun _ => fun
  | [d1, d2] => { results := [.lit (.bool false)], args := [d1, d2] }
  | _ => none }
def FnExactTakesWordWrongFalsely : Prop := fnExactTakesWordRow.holds Try.pinned (OpenSpec.ofChange fnExactTakesWordWrong)

/-- 'laws.FnExactAutoGraph': WHATEVER THE INPUT: true; the input reads as it did. -/
def fnExactAutoGraphSpec : ChangeSpec := { name := "fnExactAutoGraph", fn := fun _ => fun
  | [d] => { results := [.lit (.bool true)], args := [d] }
  | _ => none }
def fnExactAutoGraphRow : OpenClaim := { program := "ytfbaijpanbjmpaa", sum := "e20ea755ddf2a5ef87deb04977f61cfc9f8cc4db3d393cf247ac73f3d09ccf68", func := "loop.example/g00649/laws.FnExactAutoGraph", spec := "fnExactAutoGraph", unfollowed := true, recurses := true, apart := false }
def FnExactAutoGraphSaid : Prop := fnExactAutoGraphRow.holds Try.pinned (OpenSpec.ofChange fnExactAutoGraphSpec)

/-- ITS FALSE NEIGHBOUR: 'it returns false'. Refute it at one input. -/
def fnExactAutoGraphWrong : ChangeSpec := { name := "fnExactAutoGraph", fn := fun _ => fun
  | [d] => { results := [.lit (.bool false)], args := [d] }
  | _ => none }
def FnExactAutoGraphWrongFalsely : Prop := fnExactAutoGraphRow.holds Try.pinned (OpenSpec.ofChange fnExactAutoGraphWrong)

/-- 'laws.FnExactBothAutos': WHATEVER THE INPUT: true; the input reads as it did. -/
def fnExactBothAutosSpec : ChangeSpec := { name := "fnExactBothAutos", fn := fun _ => fun
  | [d1, d2] => { results := [.lit (.bool true)], args := [d1, d2] }
  | _ => none }
def fnExactBothAutosRow : OpenClaim := { program := "ytfbaijpanbjmpaa", sum := "e20ea755ddf2a5ef87deb04977f61cfc9f8cc4db3d393cf247ac73f3d09ccf68", func := "loop.example/g00649/laws.FnExactBothAutos", spec := "fnExactBothAutos", unfollowed := true, recurses := true, apart := false }
def FnExactBothAutosSaid : Prop := fnExactBothAutosRow.holds Try.pinned (OpenSpec.ofChange fnExactBothAutosSpec)

/-- ITS FALSE NEIGHBOUR: 'it returns false'. Refute it at one input. -/
def fnExactBothAutosWrong : ChangeSpec := { name := "fnExactBothAutos", fn := fun _ => fun
  | [d1, d2] => { results := [.lit (.bool false)], args := [d1, d2] }
  | _ => none }
def FnExactBothAutosWrongFalsely : Prop := fnExactBothAutosRow.holds Try.pinned (OpenSpec.ofChange fnExactBothAutosWrong)

/-- 'laws.FnExactIsEmpty': WHATEVER THE INPUT: true; the input reads as it did. -/
def fnExactIsEmptySpec : ChangeSpec := { name := "fnExactIsEmpty", fn := fun _ => fun
  | [d] => { results := [.lit (.bool true)], args := [d] }
  | _ => none }
def fnExactIsEmptyRow : OpenClaim := { program := "ytfbaijpanbjmpaa", sum := "e20ea755ddf2a5ef87deb04977f61cfc9f8cc4db3d393cf247ac73f3d09ccf68", func := "loop.example/g00649/laws.FnExactIsEmpty", spec := "fnExactIsEmpty", unfollowed := true, recurses := true, apart := false }
def FnExactIsEmptySaid : Prop := fnExactIsEmptyRow.holds Try.pinned (OpenSpec.ofChange fnExactIsEmptySpec)

/-- ITS FALSE NEIGHBOUR: 'it returns false'. Refute it at one input. -/
def fnExactIsEmptyWrong : ChangeSpec := { name := "fnExactIsEmpty", fn := fun _ => fun
  | [d] => { results := [.lit (.bool false)], args := [d] }
  | _ => none }
def FnExactIsEmptyWrongFalsely : Prop := fnExactIsEmptyRow.holds Try.pinned (OpenSpec.ofChange fnExactIsEmptyWrong)

/- THE SECOND FORM. 'bulk': how many values and letters a reading holds, each counted each time it is reached (what is shared counts as often as it is met; a slice's spare places count too). A statement '..UptoSaid' is the law's where the arguments, and the package variables that the reading takes, are together of bulk at most 1048576: NARROWER than '..Said'. Prove '..Said' where nothing that the law and all that it calls make is longer than what came in: it says more and counts as full. Else prove '..UptoSaid'. A law counts once. -/
mutual
def uptoBulk {H : Type} : DataW H → Nat
  | .lit (.string bytes) => bytes.length + 1
  | .lit _ => 1
  | .nil => 1
  | .ptr d => uptoBulk d + 1
  | .slice elems spare => uptoBulkAll elems + uptoBulkAll spare + 1
  | .agg parts => uptoBulkAll parts + 1
  | .iface _ d => uptoBulk d + 1
  | .map entries => uptoBulkEntries entries + 1
  | .held _ => 1
def uptoBulkAll {H : Type} : List (DataW H) → Nat
  | [] => 0
  | d :: r => uptoBulk d + uptoBulkAll r
def uptoBulkEntries {H : Type} : List (Lit × DataW H) → Nat
  | [] => 0
  | x :: r => uptoBulkEntry x + uptoBulkEntries r
def uptoBulkEntry {H : Type} : Lit × DataW H → Nat
  | (.string bytes, d) => bytes.length + uptoBulk d + 1
  | (_, d) => uptoBulk d + 1
 end
def uptoSmall : (H : Type) → List (DataW H) → Bool := fun _ ds => decide (uptoBulkAll ds ≤ 1048576)
def OpenSpec.upto (s : _root_.Go.ChangeSpec) : _root_.Go.OpenSpec := { _root_.Go.OpenSpec.ofChange s with cond := some uptoSmall }

/-- 'laws.FnExactEitherAuto', WHERE WHAT IT READS IS OF BULK AT MOST 1048576: true; the input reads as it did. -/
def fnExactEitherAutoUptoRow : OpenClaim := { program := "ytfbaijpanbjmpaa", sum := "e20ea755ddf2a5ef87deb04977f61cfc9f8cc4db3d393cf247ac73f3d09ccf68", func := "loop.example/g00649/laws.FnExactEitherAuto", spec := "fnExactEitherAuto", unfollowed := true, recurses := true, apart := false, narrowed := true }
def FnExactEitherAutoUptoSaid : Prop := fnExactEitherAutoUptoRow.holds Try.pinned (OpenSpec.upto fnExactEitherAutoSpec)

/-- 'laws.FnExactOneGoal', WHERE WHAT IT READS IS OF BULK AT MOST 1048576: true; the input reads as it did. -/
def fnExactOneGoalUptoRow : OpenClaim := { program := "ytfbaijpanbjmpaa", sum := "e20ea755ddf2a5ef87deb04977f61cfc9f8cc4db3d393cf247ac73f3d09ccf68", func := "loop.example/g00649/laws.FnExactOneGoal", spec := "fnExactOneGoal", unfollowed := true, recurses := true, apart := false, narrowed := true }
def FnExactOneGoalUptoSaid : Prop := fnExactOneGoalUptoRow.holds Try.pinned (OpenSpec.upto fnExactOneGoalSpec)

/-- 'laws.FnExactTakesWord', WHERE WHAT IT READS IS OF BULK AT MOST 1048576: true; the input reads as it did. -/
def fnExactTakesWordUptoRow : OpenClaim := { program := "ytfbaijpanbjmpaa", sum := "e20ea755ddf2a5ef87deb04977f61cfc9f8cc4db3d393cf247ac73f3d09ccf68", func := "loop.example/g00649/laws.FnExactTakesWord", spec := "fnExactTakesWord", unfollowed := true, recurses := true, apart := false, narrowed := true }
def FnExactTakesWordUptoSaid : Prop := fnExactTakesWordUptoRow.holds Try.pinned (OpenSpec.upto fnExactTakesWordSpec)

/-- 'laws.FnExactAutoGraph', WHERE WHAT IT READS IS OF BULK AT MOST 1048576: true; the input reads as it did. -/
def fnExactAutoGraphUptoRow : OpenClaim := { program := "ytfbaijpanbjmpaa", sum := "e20ea755ddf2a5ef87deb04977f61cfc9f8cc4db3d393cf247ac73f3d09ccf68", func := "loop.example/g00649/laws.FnExactAutoGraph", spec := "fnExactAutoGraph", unfollowed := true, recurses := true, apart := false, narrowed := true }
def FnExactAutoGraphUptoSaid : Prop := fnExactAutoGraphUptoRow.holds Try.pinned (OpenSpec.upto fnExactAutoGraphSpec)

/-- 'laws.FnExactBothAutos', WHERE WHAT IT READS IS OF BULK AT MOST 1048576: true; the input reads as it did. -/
def fnExactBothAutosUptoRow : OpenClaim := { program := "ytfbaijpanbjmpaa", sum := "e20ea755ddf2a5ef87deb04977f61cfc9f8cc4db3d393cf247ac73f3d09ccf68", func := "loop.example/g00649/laws.FnExactBothAutos", spec := "fnExactBothAutos", unfollowed := true, recurses := true, apart := false, narrowed := true }
def FnExactBothAutosUptoSaid : Prop := fnExactBothAutosUptoRow.holds Try.pinned (OpenSpec.upto fnExactBothAutosSpec)

/-- 'laws.FnExactIsEmpty', WHERE WHAT IT READS IS OF BULK AT MOST 1048576: true; the input reads as it did. -/
def fnExactIsEmptyUptoRow : OpenClaim := { program := "ytfbaijpanbjmpaa", sum := "e20ea755ddf2a5ef87deb04977f61cfc9f8cc4db3d393cf247ac73f3d09ccf68", func := "loop.example/g00649/laws.FnExactIsEmpty", spec := "fnExactIsEmpty", unfollowed := true, recurses := true, apart := false, narrowed := true }
def FnExactIsEmptyUptoSaid : Prop := fnExactIsEmptyUptoRow.holds Try.pinned (OpenSpec.upto fnExactIsEmptySpec)

end Rows
end Go.Proofs.Ytfbaijpanbjmpaa
