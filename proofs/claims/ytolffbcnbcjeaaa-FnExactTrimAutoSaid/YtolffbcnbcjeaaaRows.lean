/-
  No cell of these rows narrows 'for every input' (looked for: loops, veiled, ifaces, maps, wideKeys, modest, calm, conditions, laid).
  DERIVED. THE GIVEN ROWS OF THIS SEAT. 3 by the template 'for every input the law returns true; each argument reads behind the call as it read before'; 0 by the template 'total and deterministic' (their statements: YtolffbcnbcjeaaaTotals.lean).
  GIVEN WITH THE SEED: the statements are not yours to turn. If you find one false, say at which input.
  Laid BY PROGRAM, IN A SANDBOX (cutbox-rows.mjs): the forced cells as the released guide's own fill.sh prints them over the translation f6e46eec0a02203f… (all of the seat's roots in one cut). By AI agents, Wed Nov 11 2026. No macro, syntax, notation, axiom, sorry.
-/
import Derived.Test.YtolffbcnbcjeaaaChecked
import GoSem.Claim
import GoSem.ClaimJoined
import GoSem.ClaimMapViews
import Derived.JoinedTies
import Derived.KernelRfl
namespace Go.Proofs.Ytolffbcnbcjeaaa
/- THE CELL 'sum', in the pinned program and in every row, IS THE sha256 OF THE DUMP (.gsa) THAT YtolffbcnbcjeaaaProg.lean LOADS. Nothing in Lean hashes anything: it is a label: what it is worth is what the hold of that sum in a sandbox is worth. -/
noncomputable def Try.pinned : Pinned := { name := "ytolffbcnbcjeaaa", sum := "f6e46eec0a02203f4a31bb0910d0979c37b9953e111cd6461c150b7b2c3747e6", checked := Try.checked }
namespace Rows
def none {H : Type} : Left H := { results := [], args := [] }

/-- 'laws.FnExactIsEmpty': WHATEVER THE INPUT: true; the input reads as it did. -/
def fnExactIsEmptySpec : ChangeSpec := { name := "fnExactIsEmpty", fn := fun _ => fun
  | [d] => { results := [.lit (.bool true)], args := [d] }
  | _ => none }
def fnExactIsEmptyRow : OpenClaim := { program := "ytolffbcnbcjeaaa", sum := "f6e46eec0a02203f4a31bb0910d0979c37b9953e111cd6461c150b7b2c3747e6", func := "loop.example/g00649/laws.FnExactIsEmpty", spec := "fnExactIsEmpty", unfollowed := true, recurses := true, apart := false }
def FnExactIsEmptySaid : Prop := fnExactIsEmptyRow.holds Try.pinned (OpenSpec.ofChange fnExactIsEmptySpec)

/-- ITS FALSE NEIGHBOUR: 'it returns false'. Refute it at one input. -/
def fnExactIsEmptyWrong : ChangeSpec := { name := "fnExactIsEmpty", fn := fun _ => fun
  | [d] => { results := [.lit (.bool false)], args := [d] }
  | _ => none }
def FnExactIsEmptyWrongFalsely : Prop := fnExactIsEmptyRow.holds Try.pinned (OpenSpec.ofChange fnExactIsEmptyWrong)

/-- 'laws.FnExactTakesWord': WHATEVER THE INPUT: true; the input reads as it did. -/
def fnExactTakesWordSpec : ChangeSpec := { name := "fnExactTakesWord", fn := fun _ => fun
  | [d1, d2] => { results := [.lit (.bool true)], args := [d1, d2] }
  | _ => none }
def fnExactTakesWordRow : OpenClaim := { program := "ytolffbcnbcjeaaa", sum := "f6e46eec0a02203f4a31bb0910d0979c37b9953e111cd6461c150b7b2c3747e6", func := "loop.example/g00649/laws.FnExactTakesWord", spec := "fnExactTakesWord", unfollowed := true, recurses := true, apart := false }
def FnExactTakesWordSaid : Prop := fnExactTakesWordRow.holds Try.pinned (OpenSpec.ofChange fnExactTakesWordSpec)

/-- ITS FALSE NEIGHBOUR: 'it returns false'. Refute it at one input. -/
def fnExactTakesWordWrong : ChangeSpec := { name := "fnExactTakesWord", fn := fun _ => fun
  | [d1, d2] => { results := [.lit (.bool false)], args := [d1, d2] }
  | _ => none }
def FnExactTakesWordWrongFalsely : Prop := fnExactTakesWordRow.holds Try.pinned (OpenSpec.ofChange fnExactTakesWordWrong)

/-- 'laws.FnExactTrimAuto': WHATEVER THE INPUT: true; the input reads as it did. -/
def fnExactTrimAutoSpec : ChangeSpec := { name := "fnExactTrimAuto", fn := fun _ => fun
  | [d] => { results := [.lit (.bool true)], args := [d] }
  | _ => none }
def fnExactTrimAutoRow : OpenClaim := { program := "ytolffbcnbcjeaaa", sum := "f6e46eec0a02203f4a31bb0910d0979c37b9953e111cd6461c150b7b2c3747e6", func := "loop.example/g00649/laws.FnExactTrimAuto", spec := "fnExactTrimAuto", unfollowed := true, recurses := true, apart := false }
def FnExactTrimAutoSaid : Prop := fnExactTrimAutoRow.holds Try.pinned (OpenSpec.ofChange fnExactTrimAutoSpec)

/-- ITS FALSE NEIGHBOUR: 'it returns false'. Refute it at one input. -/
def fnExactTrimAutoWrong : ChangeSpec := { name := "fnExactTrimAuto", fn := fun _ => fun
  | [d] => { results := [.lit (.bool false)], args := [d] }
  | _ => none }
def FnExactTrimAutoWrongFalsely : Prop := fnExactTrimAutoRow.holds Try.pinned (OpenSpec.ofChange fnExactTrimAutoWrong)

/- THE SECOND FORM. 'bulk': how many values and letters a reading holds, each counted each time it is reached (what is shared counts as often as it is met; a slice's spare places count too). A statement '..UptoSaid' is the law's where the arguments, and the package variables that the reading takes, are together of bulk at most 1048576: NARROWER than '..Said'. Prove '..Said' where nothing that the law and all that it calls make is longer than what came in: it says more and counts as full. Else prove '..UptoSaid'. A law counts once. -/
mutual
def uptoBulk {H : Type} : DataW H → Nat
  | .lit (.string bytes) => bytes.length + 1
  | .lit _ => 1
  | .nil => 1
  | .ptr d => uptoBulk d + 1
  | .slice elems spare => uptoBulkAll elems + uptoBulkAll spare + 1
  | .agg parts => uptoBulkAll parts + 1
  | .iface _ d => uptoBulk d + 1
  | .map entries => uptoBulkEntries entries + 1
  | .held _ => 1
def uptoBulkAll {H : Type} : List (DataW H) → Nat
  | [] => 0
  | d :: r => uptoBulk d + uptoBulkAll r
def uptoBulkEntries {H : Type} : List (Lit × DataW H) → Nat
  | [] => 0
  | x :: r => uptoBulkEntry x + uptoBulkEntries r
def uptoBulkEntry {H : Type} : Lit × DataW H → Nat
  | (.string bytes, d) => bytes.length + uptoBulk d + 1
  | (_, d) => uptoBulk d + 1
 end
def uptoSmall : (H : Type) → List (DataW H) → Bool := fun _ ds => decide (uptoBulkAll ds ≤ 1048576)
def OpenSpec.upto (s : _root_.Go.ChangeSpec) : _root_.Go.OpenSpec := { _root_.Go.OpenSpec.ofChange s with cond := some uptoSmall }

/-- 'laws.FnExactIsEmpty', WHERE WHAT IT READS IS OF BULK AT MOST 1048576: true; the input reads as it did. -/
def fnExactIsEmptyUptoRow : OpenClaim := { program := "ytolffbcnbcjeaaa", sum := "f6e46eec0a02203f4a31bb0910d0979c37b9953e111cd6461c150b7b2c3747e6", func := "loop.example/g00649/laws.FnExactIsEmpty", spec := "fnExactIsEmpty", unfollowed := true, recurses := true, apart := false, narrowed := true }
def FnExactIsEmptyUptoSaid : Prop := fnExactIsEmptyUptoRow.holds Try.pinned (OpenSpec.upto fnExactIsEmptySpec)

/-- 'laws.FnExactTakesWord', WHERE WHAT IT READS IS OF BULK AT MOST 1048576: true; the input reads as it did. -/
def fnExactTakesWordUptoRow : OpenClaim := { program := "ytolffbcnbcjeaaa", sum := "f6e46eec0a02203f4a31bb0910d0979c37b9953e111cd6461c150b7b2c3747e6", func := "loop.example/g00649/laws.FnExactTakesWord", spec := "fnExactTakesWord", unfollowed := true, recurses := true, apart := false, narrowed := true }
def FnExactTakesWordUptoSaid : Prop := fnExactTakesWordUptoRow.holds Try.pinned (OpenSpec.upto fnExactTakesWordSpec)

/-- 'laws.FnExactTrimAuto', WHERE WHAT IT READS IS OF BULK AT MOST 1048576: true; the input reads as it did. -/
def fnExactTrimAutoUptoRow : OpenClaim := { program := "ytolffbcnbcjeaaa", sum := "f6e46eec0a02203f4a31bb0910d0979c37b9953e111cd6461c150b7b2c3747e6", func := "loop.example/g00649/laws.FnExactTrimAuto", spec := "fnExactTrimAuto", unfollowed := true, recurses := true, apart := false, narrowed := true }
def FnExactTrimAutoUptoSaid : Prop := fnExactTrimAutoUptoRow.holds Try.pinned (OpenSpec.upto fnExactTrimAutoSpec)

end Rows
end Go.Proofs.Ytolffbcnbcjeaaa
