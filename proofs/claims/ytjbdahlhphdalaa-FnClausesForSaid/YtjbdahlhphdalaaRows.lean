/-
  No cell of these rows narrows 'for every input' (looked for: loops, veiled, ifaces, maps, wideKeys, modest, calm, conditions, laid).
  DERIVED. THE GIVEN ROWS OF THIS SEAT. 6 by the template 'for every input the law returns true; each argument reads behind the call as it read before'; 0 by the template 'total and deterministic' (their statements: YtjbdahlhphdalaaTotals.lean).
  GIVEN WITH THE SEED: the statements are not yours to turn. If you find one false, say at which input.
  Laid BY PROGRAM, IN A SANDBOX (cutbox-rows.mjs): the forced cells as the released guide's own fill.sh prints them over the translation acb0ccd1635fa1a5… (all of the seat's roots in one cut). By AI agents, Wed Nov 11 2026. No macro, syntax, notation, axiom, sorry.
-/
import Derived.Test.YtjbdahlhphdalaaChecked
import GoSem.Claim
import GoSem.ClaimJoined
import GoSem.ClaimMapViews
import Derived.JoinedTies
import Derived.KernelRfl
namespace Go.Proofs.Ytjbdahlhphdalaa
/- THE CELL 'sum', in the pinned program and in every row, IS THE sha256 OF THE DUMP (.gsa) THAT YtjbdahlhphdalaaProg.lean LOADS. Nothing in Lean hashes anything: it is a label: what it is worth is what the hold of that sum in a sandbox is worth. -/
noncomputable def Try.pinned : Pinned := { name := "ytjbdahlhphdalaa", sum := "acb0ccd1635fa1a576db252cfd1d59516a085e58515cf3cbf37ce8bd625cba96", checked := Try.checked }
namespace Rows
def none {H : Type} : Left H := { results := [], args := [] }

/-- 'laws.FnLeast': WHATEVER THE INPUT: true; the input reads as it did. -/
def fnLeastSpec : ChangeSpec := { name := "fnLeast", fn := fun _ => fun
  | [d1, d2] => { results := [.lit (.bool true)], args := [d1, d2] }
  | _ => none }
def fnLeastRow : OpenClaim := { program := "ytjbdahlhphdalaa", sum := "acb0ccd1635fa1a576db252cfd1d59516a085e58515cf3cbf37ce8bd625cba96", func := "loop.example/g00649/laws.FnLeast", spec := "fnLeast", unfollowed := true, recurses := true, apart := false }
def FnLeastSaid : Prop := fnLeastRow.holds Try.pinned (OpenSpec.ofChange fnLeastSpec)

/-- ITS FALSE NEIGHBOUR: 'it returns false'. Refute it at one input. -/
def fnLeastWrong : ChangeSpec := { name := "fnLeast", fn := fun _ => fun
  | [d1, d2] => { results := [.lit (.bool false)], args := [d1, d2] }
  | _ => none }
def FnLeastWrongFalsely : Prop := fnLeastRow.holds Try.pinned (OpenSpec.ofChange fnLeastWrong)

/-- 'laws.FnClausesFor': WHATEVER THE INPUT: true; the input reads as it did. -/
def fnClausesForSpec : ChangeSpec := { name := "fnClausesFor", fn := fun _ => fun
  | [d1, d2] => { results := [.lit (.bool true)], args := [d1, d2] }
  | _ => none }
def fnClausesForRow : OpenClaim := { program := "ytjbdahlhphdalaa", sum := "acb0ccd1635fa1a576db252cfd1d59516a085e58515cf3cbf37ce8bd625cba96", func := "loop.example/g00649/laws.FnClausesFor", spec := "fnClausesFor", unfollowed := true, recurses := true, apart := false }
def FnClausesForSaid : Prop := fnClausesForRow.holds Try.pinned (OpenSpec.ofChange fnClausesForSpec)

/-- ITS FALSE NEIGHBOUR: 'it returns false'. Refute it at one input. -/
def fnClausesForWrong : ChangeSpec := { name := "fnClausesFor", fn := fun _ => fun
  | [d1, d2] => { results := [.lit (.bool false)], args := [d1, d2] }
  | _ => none }
def FnClausesForWrongFalsely : Prop := fnClausesForRow.holds Try.pinned (OpenSpec.ofChange fnClausesForWrong)

/-- 'laws.FnLetters': WHATEVER THE INPUT: true; the input reads as it did. -/
def fnLettersSpec : ChangeSpec := { name := "fnLetters", fn := fun _ => fun
  | [d1, d2] => { results := [.lit (.bool true)], args := [d1, d2] }
  | _ => none }
def fnLettersRow : OpenClaim := { program := "ytjbdahlhphdalaa", sum := "acb0ccd1635fa1a576db252cfd1d59516a085e58515cf3cbf37ce8bd625cba96", func := "loop.example/g00649/laws.FnLetters", spec := "fnLetters", inPlace := ["slices.overlaps[int]"], unfollowed := true, recurses := true, apart := false }
def FnLettersSaid : Prop := fnLettersRow.holds Try.pinned (OpenSpec.ofChange fnLettersSpec)

/-- ITS FALSE NEIGHBOUR: 'it returns false'. Refute it at one input. -/
def fnLettersWrong : ChangeSpec := { name := "fnLetters", fn := fun _ => fun
  | [d1, d2] => { results := [.lit (.bool false)], args := [d1, d2] }
  | _ => none }
def FnLettersWrongFalsely : Prop := fnLettersRow.holds Try.pinned (OpenSpec.ofChange fnLettersWrong)

/-- 'laws.FnUnrolled': WHATEVER THE INPUT: true; the input reads as it did. -/
def fnUnrolledSpec : ChangeSpec := { name := "fnUnrolled", fn := fun _ => fun
  | [d1, d2] => { results := [.lit (.bool true)], args := [d1, d2] }
  | _ => none }
def fnUnrolledRow : OpenClaim := { program := "ytjbdahlhphdalaa", sum := "acb0ccd1635fa1a576db252cfd1d59516a085e58515cf3cbf37ce8bd625cba96", func := "loop.example/g00649/laws.FnUnrolled", spec := "fnUnrolled", unfollowed := true, recurses := true, apart := false }
def FnUnrolledSaid : Prop := fnUnrolledRow.holds Try.pinned (OpenSpec.ofChange fnUnrolledSpec)

/-- ITS FALSE NEIGHBOUR: 'it returns false'. Refute it at one input. -/
def fnUnrolledWrong : ChangeSpec := { name := "fnUnrolled", fn := fun _ => fun
  | [d1, d2] => { results := [.lit (.bool false)], args := [d1, d2] }
  | _ => none }
def FnUnrolledWrongFalsely : Prop := fnUnrolledRow.holds Try.pinned (OpenSpec.ofChange fnUnrolledWrong)

/-- 'laws.FnSolved': WHATEVER THE INPUT: true; the input reads as it did. -/
def fnSolvedSpec : ChangeSpec := { name := "fnSolved", fn := fun _ => fun
  | [d1, d2] => { results := [.lit (.bool true)], args := [d1, d2] }
  | _ => none }
def fnSolvedRow : OpenClaim := { program := "ytjbdahlhphdalaa", sum := "acb0ccd1635fa1a576db252cfd1d59516a085e58515cf3cbf37ce8bd625cba96", func := "loop.example/g00649/laws.FnSolved", spec := "fnSolved", unfollowed := true, recurses := true, apart := false }
def FnSolvedSaid : Prop := fnSolvedRow.holds Try.pinned (OpenSpec.ofChange fnSolvedSpec)

/-- ITS FALSE NEIGHBOUR: 'it returns false'. Refute it at one input. -/
def fnSolvedWrong : ChangeSpec := { name := "fnSolved", fn := fun _ => fun
  | [d1, d2] => { results := [.lit (.bool false)], args := [d1, d2] }
  | _ => none }
def FnSolvedWrongFalsely : Prop := fnSolvedRow.holds Try.pinned (OpenSpec.ofChange fnSolvedWrong)

/-- 'laws.FnLevels': WHATEVER THE INPUT: true; the input reads as it did. -/
def fnLevelsSpec : ChangeSpec := { name := "fnLevels", fn := fun _ => fun
  | [d1, d2] => { results := [.lit (.bool true)], args := [d1, d2] }
  | _ => none }
def fnLevelsRow : OpenClaim := { program := "ytjbdahlhphdalaa", sum := "acb0ccd1635fa1a576db252cfd1d59516a085e58515cf3cbf37ce8bd625cba96", func := "loop.example/g00649/laws.FnLevels", spec := "fnLevels", unfollowed := true, recurses := true, apart := false }
def FnLevelsSaid : Prop := fnLevelsRow.holds Try.pinned (OpenSpec.ofChange fnLevelsSpec)

/-- ITS FALSE NEIGHBOUR: 'it returns false'. Refute it at one input. -/
def fnLevelsWrong : ChangeSpec := { name := "fnLevels", fn := fun _ => fun
  | [d1, d2] => { results := [.lit (.bool false)], args := [d1, d2] }
  | _ => none }
def FnLevelsWrongFalsely : Prop := fnLevelsRow.holds Try.pinned (OpenSpec.ofChange fnLevelsWrong)

/- THE SECOND FORM. 'bulk': how many values and letters a reading holds, each counted each time it is reached (what is shared counts as often as it is met; a slice's spare places count too). A statement '..UptoSaid' is the law's where the arguments, and the package variables that the reading takes, are together of bulk at most 1048576: NARROWER than '..Said'. Prove '..Said' where nothing that the law and all that it calls make is longer than what came in: it says more and counts as full. Else prove '..UptoSaid'. A law counts once. -/
mutual
def uptoBulk {H : Type} : DataW H → Nat
  | .lit (.string bytes) => bytes.length + 1
  | .lit _ => 1
  | .nil => 1
  | .ptr d => uptoBulk d + 1
  | .slice elems spare => uptoBulkAll elems + uptoBulkAll spare + 1
  | .agg parts => uptoBulkAll parts + 1
  | .iface _ d => uptoBulk d + 1
  | .map entries => uptoBulkEntries entries + 1
  | .held _ => 1
def uptoBulkAll {H : Type} : List (DataW H) → Nat
  | [] => 0
  | d :: r => uptoBulk d + uptoBulkAll r
def uptoBulkEntries {H : Type} : List (Lit × DataW H) → Nat
  | [] => 0
  | x :: r => uptoBulkEntry x + uptoBulkEntries r
def uptoBulkEntry {H : Type} : Lit × DataW H → Nat
  | (.string bytes, d) => bytes.length + uptoBulk d + 1
  | (_, d) => uptoBulk d + 1
 end
def uptoSmall : (H : Type) → List (DataW H) → Bool := fun _ ds => decide (uptoBulkAll ds ≤ 1048576)
def OpenSpec.upto (s : _root_.Go.ChangeSpec) : _root_.Go.OpenSpec := { _root_.Go.OpenSpec.ofChange s with cond := some uptoSmall }

/-- 'laws.FnLeast', WHERE WHAT IT READS IS OF BULK AT MOST 1048576: true; the input reads as it did. -/
def fnLeastUptoRow : OpenClaim := { program := "ytjbdahlhphdalaa", sum := "acb0ccd1635fa1a576db252cfd1d59516a085e58515cf3cbf37ce8bd625cba96", func := "loop.example/g00649/laws.FnLeast", spec := "fnLeast", unfollowed := true, recurses := true, apart := false, narrowed := true }
def FnLeastUptoSaid : Prop := fnLeastUptoRow.holds Try.pinned (OpenSpec.upto fnLeastSpec)

/-- 'laws.FnClausesFor', WHERE WHAT IT READS IS OF BULK AT MOST 1048576: true; the input reads as it did. -/
def fnClausesForUptoRow : OpenClaim := { program := "ytjbdahlhphdalaa", sum := "acb0ccd1635fa1a576db252cfd1d59516a085e58515cf3cbf37ce8bd625cba96", func := "loop.example/g00649/laws.FnClausesFor", spec := "fnClausesFor", unfollowed := true, recurses := true, apart := false, narrowed := true }
def FnClausesForUptoSaid : Prop := fnClausesForUptoRow.holds Try.pinned (OpenSpec.upto fnClausesForSpec)

/-- 'laws.FnLetters', WHERE WHAT IT READS IS OF BULK AT MOST 1048576: true; the input reads as it did. -/
def fnLettersUptoRow : OpenClaim := { program := "ytjbdahlhphdalaa", sum := "acb0ccd1635fa1a576db252cfd1d59516a085e58515cf3cbf37ce8bd625cba96", func := "loop.example/g00649/laws.FnLetters", spec := "fnLetters", inPlace := ["slices.overlaps[int]"], unfollowed := true, recurses := true, apart := false, narrowed := true }
def FnLettersUptoSaid : Prop := fnLettersUptoRow.holds Try.pinned (OpenSpec.upto fnLettersSpec)

/-- 'laws.FnUnrolled', WHERE WHAT IT READS IS OF BULK AT MOST 1048576: true; the input reads as it did. -/
def fnUnrolledUptoRow : OpenClaim := { program := "ytjbdahlhphdalaa", sum := "acb0ccd1635fa1a576db252cfd1d59516a085e58515cf3cbf37ce8bd625cba96", func := "loop.example/g00649/laws.FnUnrolled", spec := "fnUnrolled", unfollowed := true, recurses := true, apart := false, narrowed := true }
def FnUnrolledUptoSaid : Prop := fnUnrolledUptoRow.holds Try.pinned (OpenSpec.upto fnUnrolledSpec)

/-- 'laws.FnSolved', WHERE WHAT IT READS IS OF BULK AT MOST 1048576: true; the input reads as it did. -/
def fnSolvedUptoRow : OpenClaim := { program := "ytjbdahlhphdalaa", sum := "acb0ccd1635fa1a576db252cfd1d59516a085e58515cf3cbf37ce8bd625cba96", func := "loop.example/g00649/laws.FnSolved", spec := "fnSolved", unfollowed := true, recurses := true, apart := false, narrowed := true }
def FnSolvedUptoSaid : Prop := fnSolvedUptoRow.holds Try.pinned (OpenSpec.upto fnSolvedSpec)

/-- 'laws.FnLevels', WHERE WHAT IT READS IS OF BULK AT MOST 1048576: true; the input reads as it did. -/
def fnLevelsUptoRow : OpenClaim := { program := "ytjbdahlhphdalaa", sum := "acb0ccd1635fa1a576db252cfd1d59516a085e58515cf3cbf37ce8bd625cba96", func := "loop.example/g00649/laws.FnLevels", spec := "fnLevels", unfollowed := true, recurses := true, apart := false, narrowed := true }
def FnLevelsUptoSaid : Prop := fnLevelsUptoRow.holds Try.pinned (OpenSpec.upto fnLevelsSpec)

end Rows
end Go.Proofs.Ytjbdahlhphdalaa
