/-
  No cell of these rows narrows 'for every input' (looked for: loops, veiled, ifaces, maps, wideKeys, modest, calm, conditions, laid).
  DERIVED. THE GIVEN ROWS OF THIS SEAT. 3 by the template 'for every input the law returns true; each argument reads behind the call as it read before'; 0 by the template 'total and deterministic' (their statements: YtlcnoflmlonikaaTotals.lean).
  GIVEN WITH THE SEED: the statements are not yours to turn. If you find one false, say at which input.
  Laid BY PROGRAM, IN A SANDBOX (cutbox-rows.mjs): the forced cells as the released guide's own fill.sh prints them over the translation 1be0f3ede901607a… (all of the seat's roots in one cut). By AI agents, Wed Nov 11 2026. No macro, syntax, notation, axiom, sorry.
-/
import Derived.Test.YtlcnoflmlonikaaChecked
import GoSem.Claim
import GoSem.ClaimJoined
import GoSem.ClaimMapViews
import Derived.JoinedTies
import Derived.KernelRfl
namespace Go.Proofs.Ytlcnoflmlonikaa
/- THE CELL 'sum', in the pinned program and in every row, IS THE sha256 OF THE DUMP (.gsa) THAT YtlcnoflmlonikaaProg.lean LOADS. Nothing in Lean hashes anything: it is a label: what it is worth is what the hold of that sum in a sandbox is worth. -/
noncomputable def Try.pinned : Pinned := { name := "ytlcnoflmlonikaa", sum := "1be0f3ede901607a85fe01878c6b745875811cdf0ee9f423987e332840edee61", checked := Try.checked }
namespace Rows
def none {H : Type} : Left H := { results := [], args := [] }

/-- 'laws.FnExactBeforeOne': WHATEVER THE INPUT: true; the input reads as it did. -/
def fnExactBeforeOneSpec : ChangeSpec := { name := "fnExactBeforeOne", fn := fun _ => fun
  | [d1, d2, d3] => { results := [.lit (.bool true)], args := [d1, d2, d3] }
  | _ => none }
def fnExactBeforeOneRow : OpenClaim := { program := "ytlcnoflmlonikaa", sum := "1be0f3ede901607a85fe01878c6b745875811cdf0ee9f423987e332840edee61", func := "loop.example/g00649/laws.FnExactBeforeOne", spec := "fnExactBeforeOne", unfollowed := true, recurses := true, apart := false }
def FnExactBeforeOneSaid : Prop := fnExactBeforeOneRow.holds Try.pinned (OpenSpec.ofChange fnExactBeforeOneSpec)

/-- ITS FALSE NEIGHBOUR: 'it returns false'. Refute it at one input. -/
def fnExactBeforeOneWrong : ChangeSpec := { name := "fnExactBeforeOne", fn := fun _ => fun
  | [d1, d2, d3] => { results := [.lit (.bool false)], args := [d1, d2, d3] }
  | _ => none }
def FnExactBeforeOneWrongFalsely : Prop := fnExactBeforeOneRow.holds Try.pinned (OpenSpec.ofChange fnExactBeforeOneWrong)

/-- 'laws.FnExactBeforeIf': WHATEVER THE INPUT: true; the input reads as it did. -/
def fnExactBeforeIfSpec : ChangeSpec := { name := "fnExactBeforeIf", fn := fun _ => fun
  | [d1, d2, d3] => { results := [.lit (.bool true)], args := [d1, d2, d3] }
  | _ => none }
def fnExactBeforeIfRow : OpenClaim := { program := "ytlcnoflmlonikaa", sum := "1be0f3ede901607a85fe01878c6b745875811cdf0ee9f423987e332840edee61", func := "loop.example/g00649/laws.FnExactBeforeIf", spec := "fnExactBeforeIf", unfollowed := true, recurses := true, apart := false }
def FnExactBeforeIfSaid : Prop := fnExactBeforeIfRow.holds Try.pinned (OpenSpec.ofChange fnExactBeforeIfSpec)

/-- ITS FALSE NEIGHBOUR: 'it returns false'. Refute it at one input. -/
def fnExactBeforeIfWrong : ChangeSpec := { name := "fnExactBeforeIf", fn := fun _ => fun
  | [d1, d2, d3] => { results := [.lit (.bool false)], args := [d1, d2, d3] }
  | _ => none }
def FnExactBeforeIfWrongFalsely : Prop := fnExactBeforeIfRow.holds Try.pinned (OpenSpec.ofChange fnExactBeforeIfWrong)

/-- 'laws.FnExactBeforeAll': WHATEVER THE INPUT: true; the input reads as it did. -/
def fnExactBeforeAllSpec : ChangeSpec := { name := "fnExactBeforeAll", fn := fun _ => fun
  | [d1, d2] => { results := [.lit (.bool true)], args := [d1, d2] }
  | _ => none }
def fnExactBeforeAllRow : OpenClaim := { program := "ytlcnoflmlonikaa", sum := "1be0f3ede901607a85fe01878c6b745875811cdf0ee9f423987e332840edee61", func := "loop.example/g00649/laws.FnExactBeforeAll", spec := "fnExactBeforeAll", unfollowed := true, recurses := true, apart := false }
def FnExactBeforeAllSaid : Prop := fnExactBeforeAllRow.holds Try.pinned (OpenSpec.ofChange fnExactBeforeAllSpec)

/-- ITS FALSE NEIGHBOUR: 'it returns false'. Refute it at one input. -/
def fnExactBeforeAllWrong : ChangeSpec := { name := "fnExactBeforeAll", fn := fun _ => fun
  | [d1, d2] => { results := [.lit (.bool false)], args := [d1, d2] }
  | _ => none }
def FnExactBeforeAllWrongFalsely : Prop := fnExactBeforeAllRow.holds Try.pinned (OpenSpec.ofChange fnExactBeforeAllWrong)

/- THE SECOND FORM. 'bulk': how many values and letters a reading holds, each counted each time it is reached (what is shared counts as often as it is met; a slice's spare places count too). A statement '..UptoSaid' is the law's where the arguments, and the package variables that the reading takes, are together of bulk at most 1048576: NARROWER than '..Said'. Prove '..Said' where nothing that the law and all that it calls make is longer than what came in: it says more and counts as full. Else prove '..UptoSaid'. A law counts once. -/
mutual
def uptoBulk {H : Type} : DataW H → Nat
  | .lit (.string bytes) => bytes.length + 1
  | .lit _ => 1
  | .nil => 1
  | .ptr d => uptoBulk d + 1
  | .slice elems spare => uptoBulkAll elems + uptoBulkAll spare + 1
  | .agg parts => uptoBulkAll parts + 1
  | .iface _ d => uptoBulk d + 1
  | .map entries => uptoBulkEntries entries + 1
  | .held _ => 1
def uptoBulkAll {H : Type} : List (DataW H) → Nat
  | [] => 0
  | d :: r => uptoBulk d + uptoBulkAll r
def uptoBulkEntries {H : Type} : List (Lit × DataW H) → Nat
  | [] => 0
  | x :: r => uptoBulkEntry x + uptoBulkEntries r
def uptoBulkEntry {H : Type} : Lit × DataW H → Nat
  | (.string bytes, d) => bytes.length + uptoBulk d + 1
  | (_, d) => uptoBulk d + 1
 end
def uptoSmall : (H : Type) → List (DataW H) → Bool := fun _ ds => decide (uptoBulkAll ds ≤ 1048576)
def OpenSpec.upto (s : _root_.Go.ChangeSpec) : _root_.Go.OpenSpec := { _root_.Go.OpenSpec.ofChange s with cond := some uptoSmall }

/-- 'laws.FnExactBeforeOne', WHERE WHAT IT READS IS OF BULK AT MOST 1048576: true; the input reads as it did. -/
def fnExactBeforeOneUptoRow : OpenClaim := { program := "ytlcnoflmlonikaa", sum := "1be0f3ede901607a85fe01878c6b745875811cdf0ee9f423987e332840edee61", func := "loop.example/g00649/laws.FnExactBeforeOne", spec := "fnExactBeforeOne", unfollowed := true, recurses := true, apart := false, narrowed := true }
def FnExactBeforeOneUptoSaid : Prop := fnExactBeforeOneUptoRow.holds Try.pinned (OpenSpec.upto fnExactBeforeOneSpec)

/-- 'laws.FnExactBeforeIf', WHERE WHAT IT READS IS OF BULK AT MOST 1048576: true; the input reads as it did. -/
def fnExactBeforeIfUptoRow : OpenClaim := { program := "ytlcnoflmlonikaa", sum := "1be0f3ede901607a85fe01878c6b745875811cdf0ee9f423987e332840edee61", func := "loop.example/g00649/laws.FnExactBeforeIf", spec := "fnExactBeforeIf", unfollowed := true, recurses := true, apart := false, narrowed := true }
def FnExactBeforeIfUptoSaid : Prop := fnExactBeforeIfUptoRow.holds Try.pinned (OpenSpec.upto fnExactBeforeIfSpec)

/-- 'laws.FnExactBeforeAll', WHERE WHAT IT READS IS OF BULK AT MOST 1048576: true; the input reads as it did. -/
def fnExactBeforeAllUptoRow : OpenClaim := { program := "ytlcnoflmlonikaa", sum := "1be0f3ede901607a85fe01878c6b745875811cdf0ee9f423987e332840edee61", func := "loop.example/g00649/laws.FnExactBeforeAll", spec := "fnExactBeforeAll", unfollowed := true, recurses := true, apart := false, narrowed := true }
def FnExactBeforeAllUptoSaid : Prop := fnExactBeforeAllUptoRow.holds Try.pinned (OpenSpec.upto fnExactBeforeAllSpec)

end Rows
end Go.Proofs.Ytlcnoflmlonikaa
