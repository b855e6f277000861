/-
  No cell of these rows narrows 'for every input' (looked for: loops, veiled, ifaces, maps, wideKeys, modest, calm, conditions, laid).
  DERIVED. THE GIVEN ROWS OF THIS SEAT. 5 by the template 'for every input the law returns true; each argument reads behind the call as it read before'; 0 by the template 'total and deterministic' (their statements: YtgcklgeifdefhaaGreatTotals.lean).
  GIVEN WITH THE SEED: the statements are not yours to turn. If you find one false, say at which input.
  Laid BY PROGRAM, IN A SANDBOX (cutbox-rows.mjs): the forced cells as the released guide's own fill.sh prints them over the translation d70b4575c70436e1… (all of the seat's roots in one cut). By AI agents, Wed Nov 11 2026. No macro, syntax, notation, axiom, sorry.
-/
import Derived.Test.YtgcklgeifdefhaaGreatChecked
import GoSem.Claim
import GoSem.ClaimJoined
import GoSem.ClaimMapViews
import Derived.JoinedTies
import Derived.KernelRfl
namespace Go.Proofs.YtgcklgeifdefhaaGreat
/- THE CELL 'sum', in the pinned program and in every row, IS THE sha256 OF THE DUMP (.gsa) THAT YtgcklgeifdefhaaGreatProg.lean LOADS. Nothing in Lean hashes anything: it is a label: what it is worth is what the hold of that sum in a sandbox is worth. -/
noncomputable def Tryz.pinned : Pinned := { name := "ytgcklgeifdefhaagreat", sum := "d70b4575c70436e10d6b1ae7002418b8548eb1ab88cdbc254c1ba01c54224977", checked := Tryz.checked }
namespace Rows
def none {H : Type} : Left H := { results := [], args := [] }

/-- 'laws.FnExactGoodQuestion': WHATEVER THE INPUT: true; the input reads as it did. -/
def fnExactGoodQuestionSpec : ChangeSpec := { name := "fnExactGoodQuestion", fn := fun _ => fun
  | [d] => { results := [.lit (.bool true)], args := [d] }
  | _ => none }
def fnExactGoodQuestionRow : OpenClaim := { program := "ytgcklgeifdefhaagreat", sum := "d70b4575c70436e10d6b1ae7002418b8548eb1ab88cdbc254c1ba01c54224977", func := "loop.example/g00649/laws.FnExactGoodQuestion", spec := "fnExactGoodQuestion", unfollowed := true, recurses := true, apart := false }
def FnExactGoodQuestionSaid : Prop := fnExactGoodQuestionRow.holds Tryz.pinned (OpenSpec.ofChange fnExactGoodQuestionSpec)

/-- ITS FALSE NEIGHBOUR: 'it returns false'. Refute it at one input. -/
def fnExactGoodQuestionWrong : ChangeSpec := { name := "fnExactGoodQuestion", fn := fun _ => fun
  | [d] => { results := [.lit (.bool false)], args := [d] }
  | _ => none }
def FnExactGoodQuestionWrongFalsely : Prop := fnExactGoodQuestionRow.holds Tryz.pinned (OpenSpec.ofChange fnExactGoodQuestionWrong)

/-- 'laws.FnExactLetterOf': WHATEVER THE INPUT: true; the input reads as it did. -/
def fnExactLetterOfSpec : ChangeSpec := { name := "fnExactLetterOf", fn := fun _ => fun
  | [d1, d2] => { results := [.lit (.bool true)], args := [d1, d2] }
  | _ => none }
def fnExactLetterOfRow : OpenClaim := { program := "ytgcklgeifdefhaagreat", sum := "d70b4575c70436e10d6b1ae7002418b8548eb1ab88cdbc254c1ba01c54224977", func := "loop.example/g00649/laws.FnExactLetterOf", spec := "fnExactLetterOf", unfollowed := true, recurses := true, named := ["math/bits.divideError", "math/bits.overflowError"], apart := false }
def FnExactLetterOfSaid : Prop := fnExactLetterOfRow.holds Tryz.pinned (OpenSpec.ofChange fnExactLetterOfSpec)

/-- ITS FALSE NEIGHBOUR: 'it returns false'. Refute it at one input. -/
def fnExactLetterOfWrong : ChangeSpec := { name := "fnExactLetterOf", fn := fun _ => fun
  | [d1, d2] => { results := [.lit (.bool false)], args := [d1, d2] }
  | _ => none }
def FnExactLetterOfWrongFalsely : Prop := fnExactLetterOfRow.holds Tryz.pinned (OpenSpec.ofChange fnExactLetterOfWrong)

/-- 'laws.FnExactIsRun': WHATEVER THE INPUT: true; the input reads as it did. -/
def fnExactIsRunSpec : ChangeSpec := { name := "fnExactIsRun", fn := fun _ => fun
  | [d1, d2, d3] => { results := [.lit (.bool true)], args := [d1, d2, d3] }
  | _ => none }
def fnExactIsRunRow : OpenClaim := { program := "ytgcklgeifdefhaagreat", sum := "d70b4575c70436e10d6b1ae7002418b8548eb1ab88cdbc254c1ba01c54224977", func := "loop.example/g00649/laws.FnExactIsRun", spec := "fnExactIsRun", unfollowed := true, recurses := true, named := ["math/bits.divideError", "math/bits.overflowError"], apart := false }
def FnExactIsRunSaid : Prop := fnExactIsRunRow.holds Tryz.pinned (OpenSpec.ofChange fnExactIsRunSpec)

/-- ITS FALSE NEIGHBOUR: 'it returns false'. Refute it at one input. -/
def fnExactIsRunWrong : ChangeSpec := { name := "fnExactIsRun", fn := fun _ => fun
  | [d1, d2, d3] => { results := [.lit (.bool false)], args := [d1, d2, d3] }
  | _ => none }
def FnExactIsRunWrongFalsely : Prop := fnExactIsRunRow.holds Tryz.pinned (OpenSpec.ofChange fnExactIsRunWrong)

/-- 'laws.FnExactRunWord': WHATEVER THE INPUT: true; the input reads as it did. -/
def fnExactRunWordSpec : ChangeSpec := { name := "fnExactRunWord", fn := fun _ => fun
  | [d1, d2, d3] => { results := [.lit (.bool true)], args := [d1, d2, d3] }
  | _ => none }
def fnExactRunWordRow : OpenClaim := { program := "ytgcklgeifdefhaagreat", sum := "d70b4575c70436e10d6b1ae7002418b8548eb1ab88cdbc254c1ba01c54224977", func := "loop.example/g00649/laws.FnExactRunWord", spec := "fnExactRunWord", unfollowed := true, recurses := true, named := ["math/bits.divideError", "math/bits.overflowError"], apart := false }
def FnExactRunWordSaid : Prop := fnExactRunWordRow.holds Tryz.pinned (OpenSpec.ofChange fnExactRunWordSpec)

/-- ITS FALSE NEIGHBOUR: 'it returns false'. Refute it at one input. -/
def fnExactRunWordWrong : ChangeSpec := { name := "fnExactRunWord", fn := fun _ => fun
  | [d1, d2, d3] => { results := [.lit (.bool false)], args := [d1, d2, d3] }
  | _ => none }
def FnExactRunWordWrongFalsely : Prop := fnExactRunWordRow.holds Tryz.pinned (OpenSpec.ofChange fnExactRunWordWrong)

/-- 'laws.FnExactBesideGraph': WHATEVER THE INPUT: true; the input reads as it did. -/
def fnExactBesideGraphSpec : ChangeSpec := { name := "fnExactBesideGraph", fn := fun _ => fun
  | [d] => { results := [.lit (.bool true)], args := [d] }
  | _ => none }
def fnExactBesideGraphRow : OpenClaim := { program := "ytgcklgeifdefhaagreat", sum := "d70b4575c70436e10d6b1ae7002418b8548eb1ab88cdbc254c1ba01c54224977", func := "loop.example/g00649/laws.FnExactBesideGraph", spec := "fnExactBesideGraph", unfollowed := true, recurses := true, named := ["math/bits.divideError", "math/bits.overflowError"], apart := false }
def FnExactBesideGraphSaid : Prop := fnExactBesideGraphRow.holds Tryz.pinned (OpenSpec.ofChange fnExactBesideGraphSpec)

/-- ITS FALSE NEIGHBOUR: 'it returns false'. Refute it at one input. -/
def fnExactBesideGraphWrong : ChangeSpec := { name := "fnExactBesideGraph", fn := fun _ => fun
  | [d] => { results := [.lit (.bool false)], args := [d] }
  | _ => none }
def FnExactBesideGraphWrongFalsely : Prop := fnExactBesideGraphRow.holds Tryz.pinned (OpenSpec.ofChange fnExactBesideGraphWrong)

/- THE SECOND FORM. 'bulk': how many values and letters a reading holds, each counted each time it is reached (what is shared counts as often as it is met; a slice's spare places count too). A statement '..UptoSaid' is the law's where the arguments, and the package variables that the reading takes, are together of bulk at most 1048576: NARROWER than '..Said'. Prove '..Said' where nothing that the law and all that it calls make is longer than what came in: it says more and counts as full. Else prove '..UptoSaid'. A law counts once. -/
mutual
def uptoBulk {H : Type} : DataW H → Nat
  | .lit (.string bytes) => bytes.length + 1
  | .lit _ => 1
  | .nil => 1
  | .ptr d => uptoBulk d + 1
  | .slice elems spare => uptoBulkAll elems + uptoBulkAll spare + 1
  | .agg parts => uptoBulkAll parts + 1
  | .iface _ d => uptoBulk d + 1
  | .map entries => uptoBulkEntries entries + 1
  | .held _ => 1
def uptoBulkAll {H : Type} : List (DataW H) → Nat
  | [] => 0
  | d :: r => uptoBulk d + uptoBulkAll r
def uptoBulkEntries {H : Type} : List (Lit × DataW H) → Nat
  | [] => 0
  | x :: r => uptoBulkEntry x + uptoBulkEntries r
def uptoBulkEntry {H : Type} : Lit × DataW H → Nat
  | (.string bytes, d) => bytes.length + uptoBulk d + 1
  | (_, d) => uptoBulk d + 1
 end
def uptoSmall : (H : Type) → List (DataW H) → Bool := fun _ ds => decide (uptoBulkAll ds ≤ 1048576)
def OpenSpec.upto (s : _root_.Go.ChangeSpec) : _root_.Go.OpenSpec := { _root_.Go.OpenSpec.ofChange s with cond := some uptoSmall }

/-- 'laws.FnExactGoodQuestion', WHERE WHAT IT READS IS OF BULK AT MOST 1048576: true; the input reads as it did. -/
def fnExactGoodQuestionUptoRow : OpenClaim := { program := "ytgcklgeifdefhaagreat", sum := "d70b4575c70436e10d6b1ae7002418b8548eb1ab88cdbc254c1ba01c54224977", func := "loop.example/g00649/laws.FnExactGoodQuestion", spec := "fnExactGoodQuestion", unfollowed := true, recurses := true, apart := false, narrowed := true }
def FnExactGoodQuestionUptoSaid : Prop := fnExactGoodQuestionUptoRow.holds Tryz.pinned (OpenSpec.upto fnExactGoodQuestionSpec)

/-- 'laws.FnExactLetterOf', WHERE WHAT IT READS IS OF BULK AT MOST 1048576: true; the input reads as it did. -/
def fnExactLetterOfUptoRow : OpenClaim := { program := "ytgcklgeifdefhaagreat", sum := "d70b4575c70436e10d6b1ae7002418b8548eb1ab88cdbc254c1ba01c54224977", func := "loop.example/g00649/laws.FnExactLetterOf", spec := "fnExactLetterOf", unfollowed := true, recurses := true, named := ["math/bits.divideError", "math/bits.overflowError"], apart := false, narrowed := true }
def FnExactLetterOfUptoSaid : Prop := fnExactLetterOfUptoRow.holds Tryz.pinned (OpenSpec.upto fnExactLetterOfSpec)

/-- 'laws.FnExactIsRun', WHERE WHAT IT READS IS OF BULK AT MOST 1048576: true; the input reads as it did. -/
def fnExactIsRunUptoRow : OpenClaim := { program := "ytgcklgeifdefhaagreat", sum := "d70b4575c70436e10d6b1ae7002418b8548eb1ab88cdbc254c1ba01c54224977", func := "loop.example/g00649/laws.FnExactIsRun", spec := "fnExactIsRun", unfollowed := true, recurses := true, named := ["math/bits.divideError", "math/bits.overflowError"], apart := false, narrowed := true }
def FnExactIsRunUptoSaid : Prop := fnExactIsRunUptoRow.holds Tryz.pinned (OpenSpec.upto fnExactIsRunSpec)

/-- 'laws.FnExactRunWord', WHERE WHAT IT READS IS OF BULK AT MOST 1048576: true; the input reads as it did. -/
def fnExactRunWordUptoRow : OpenClaim := { program := "ytgcklgeifdefhaagreat", sum := "d70b4575c70436e10d6b1ae7002418b8548eb1ab88cdbc254c1ba01c54224977", func := "loop.example/g00649/laws.FnExactRunWord", spec := "fnExactRunWord", unfollowed := true, recurses := true, named := ["math/bits.divideError", "math/bits.overflowError"], apart := false, narrowed := true }
def FnExactRunWordUptoSaid : Prop := fnExactRunWordUptoRow.holds Tryz.pinned (OpenSpec.upto fnExactRunWordSpec)

/-- 'laws.FnExactBesideGraph', WHERE WHAT IT READS IS OF BULK AT MOST 1048576: true; the input reads as it did. -/
def fnExactBesideGraphUptoRow : OpenClaim := { program := "ytgcklgeifdefhaagreat", sum := "d70b4575c70436e10d6b1ae7002418b8548eb1ab88cdbc254c1ba01c54224977", func := "loop.example/g00649/laws.FnExactBesideGraph", spec := "fnExactBesideGraph", unfollowed := true, recurses := true, named := ["math/bits.divideError", "math/bits.overflowError"], apart := false, narrowed := true }
def FnExactBesideGraphUptoSaid : Prop := fnExactBesideGraphUptoRow.holds Tryz.pinned (OpenSpec.upto fnExactBesideGraphSpec)

end Rows
end Go.Proofs.YtgcklgeifdefhaaGreat
