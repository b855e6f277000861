/-
  No cell of these rows narrows 'for every input' (looked for: loops, veiled, ifaces, maps, wideKeys, modest, calm, conditions, laid).
  DERIVED. THE GIVEN ROWS OF THIS SEAT. 4 by the template 'for every input the law returns true; each argument reads behind the call as it read before'; 0 by the template 'total and deterministic' (their statements: YtolffbcnbcjeaaaGreatTotals.lean).
  GIVEN WITH THE SEED: the statements are not yours to turn. If you find one false, say at which input.
  Laid BY PROGRAM, IN A SANDBOX (cutbox-rows.mjs): the forced cells as the released guide's own fill.sh prints them over the translation 4e316580aa2357f2… (all of the seat's roots in one cut). By AI agents, Wed Nov 11 2026. No macro, syntax, notation, axiom, sorry.
-/
import Derived.Test.YtolffbcnbcjeaaaGreatChecked
import GoSem.Claim
import GoSem.ClaimJoined
import GoSem.ClaimMapViews
import Derived.JoinedTies
import Derived.KernelRfl
namespace Go.Proofs.YtolffbcnbcjeaaaGreat
/- THE CELL 'sum', in the pinned program and in every row, IS THE sha256 OF THE DUMP (.gsa) THAT YtolffbcnbcjeaaaGreatProg.lean LOADS. Nothing in Lean hashes anything: it is a label: what it is worth is what the hold of that sum in a sandbox is worth. -/
noncomputable def Tryz.pinned : Pinned := { name := "ytolffbcnbcjeaaagreat", sum := "4e316580aa2357f291241e72646f431584e55d10d5b5d0af980de7e6356c1f2a", checked := Tryz.checked }
namespace Rows
def none {H : Type} : Left H := { results := [], args := [] }

/-- 'laws.FnExactWordOf': WHATEVER THE INPUT: true; the input reads as it did. -/
def fnExactWordOfSpec : ChangeSpec := { name := "fnExactWordOf", fn := fun _ => fun
  | [d] => { results := [.lit (.bool true)], args := [d] }
  | _ => none }
def fnExactWordOfRow : OpenClaim := { program := "ytolffbcnbcjeaaagreat", sum := "4e316580aa2357f291241e72646f431584e55d10d5b5d0af980de7e6356c1f2a", func := "loop.example/g00649/laws.FnExactWordOf", spec := "fnExactWordOf", unfollowed := true, recurses := true, apart := false }
def FnExactWordOfSaid : Prop := fnExactWordOfRow.holds Tryz.pinned (OpenSpec.ofChange fnExactWordOfSpec)

/-- ITS FALSE NEIGHBOUR: 'it returns false'. Refute it at one input. -/
def fnExactWordOfWrong : ChangeSpec := { name := "fnExactWordOf", fn := fun _ => fun
  | [d] => { results := [.lit (.bool false)], args := [d] }
  | _ => none }
def FnExactWordOfWrongFalsely : Prop := fnExactWordOfRow.holds Tryz.pinned (OpenSpec.ofChange fnExactWordOfWrong)

/-- 'laws.FnExactIsPossible': WHATEVER THE INPUT: true; the input reads as it did. -/
def fnExactIsPossibleSpec : ChangeSpec := { name := "fnExactIsPossible", fn := fun _ => fun
  | [d] => { results := [.lit (.bool true)], args := [d] }
  | _ => none }
def fnExactIsPossibleRow : OpenClaim := { program := "ytolffbcnbcjeaaagreat", sum := "4e316580aa2357f291241e72646f431584e55d10d5b5d0af980de7e6356c1f2a", func := "loop.example/g00649/laws.FnExactIsPossible", spec := "fnExactIsPossible", unfollowed := true, recurses := true, apart := false }
def FnExactIsPossibleSaid : Prop := fnExactIsPossibleRow.holds Tryz.pinned (OpenSpec.ofChange fnExactIsPossibleSpec)

/-- ITS FALSE NEIGHBOUR: 'it returns false'. Refute it at one input. -/
def fnExactIsPossibleWrong : ChangeSpec := { name := "fnExactIsPossible", fn := fun _ => fun
  | [d] => { results := [.lit (.bool false)], args := [d] }
  | _ => none }
def FnExactIsPossibleWrongFalsely : Prop := fnExactIsPossibleRow.holds Tryz.pinned (OpenSpec.ofChange fnExactIsPossibleWrong)

/-- 'laws.FnExactExampleOf': WHATEVER THE INPUT: true; the input reads as it did. -/
def fnExactExampleOfSpec : ChangeSpec := { name := "fnExactExampleOf", fn := fun _ => fun
  | [d] => { results := [.lit (.bool true)], args := [d] }
  | _ => none }
def fnExactExampleOfRow : OpenClaim := { program := "ytolffbcnbcjeaaagreat", sum := "4e316580aa2357f291241e72646f431584e55d10d5b5d0af980de7e6356c1f2a", func := "loop.example/g00649/laws.FnExactExampleOf", spec := "fnExactExampleOf", unfollowed := true, recurses := true, apart := false }
def FnExactExampleOfSaid : Prop := fnExactExampleOfRow.holds Tryz.pinned (OpenSpec.ofChange fnExactExampleOfSpec)

/-- ITS FALSE NEIGHBOUR: 'it returns false'. Refute it at one input. -/
def fnExactExampleOfWrong : ChangeSpec := { name := "fnExactExampleOf", fn := fun _ => fun
  | [d] => { results := [.lit (.bool false)], args := [d] }
  | _ => none }
def FnExactExampleOfWrongFalsely : Prop := fnExactExampleOfRow.holds Tryz.pinned (OpenSpec.ofChange fnExactExampleOfWrong)

/-- 'laws.FnExactImplies': WHATEVER THE INPUT: true; the input reads as it did. -/
def fnExactImpliesSpec : ChangeSpec := { name := "fnExactImplies", fn := fun _ => fun
  | [d1, d2] => { results := [.lit (.bool true)], args := [d1, d2] }
  | _ => none }
def fnExactImpliesRow : OpenClaim := { program := "ytolffbcnbcjeaaagreat", sum := "4e316580aa2357f291241e72646f431584e55d10d5b5d0af980de7e6356c1f2a", func := "loop.example/g00649/laws.FnExactImplies", spec := "fnExactImplies", unfollowed := true, recurses := true, apart := false }
def FnExactImpliesSaid : Prop := fnExactImpliesRow.holds Tryz.pinned (OpenSpec.ofChange fnExactImpliesSpec)

/-- ITS FALSE NEIGHBOUR: 'it returns false'. Refute it at one input. -/
def fnExactImpliesWrong : ChangeSpec := { name := "fnExactImplies", fn := fun _ => fun
  | [d1, d2] => { results := [.lit (.bool false)], args := [d1, d2] }
  | _ => none }
def FnExactImpliesWrongFalsely : Prop := fnExactImpliesRow.holds Tryz.pinned (OpenSpec.ofChange fnExactImpliesWrong)

/- THE SECOND FORM. 'bulk': how many values and letters a reading holds, each counted each time it is reached (what is shared counts as often as it is met; a slice's spare places count too). A statement '..UptoSaid' is the law's where the arguments, and the package variables that the reading takes, are together of bulk at most 1048576: NARROWER than '..Said'. Prove '..Said' where nothing that the law and all that it calls make is longer than what came in: it says more and counts as full. Else prove '..UptoSaid'. A law counts once. -/
mutual
def uptoBulk {H : Type} : DataW H → Nat
  | .lit (.string bytes) => bytes.length + 1
  | .lit _ => 1
  | .nil => 1
  | .ptr d => uptoBulk d + 1
  | .slice elems spare => uptoBulkAll elems + uptoBulkAll spare + 1
  | .agg parts => uptoBulkAll parts + 1
  | .iface _ d => uptoBulk d + 1
  | .map entries => uptoBulkEntries entries + 1
  | .held _ => 1
def uptoBulkAll {H : Type} : List (DataW H) → Nat
  | [] => 0
  | d :: r => uptoBulk d + uptoBulkAll r
def uptoBulkEntries {H : Type} : List (Lit × DataW H) → Nat
  | [] => 0
  | x :: r => uptoBulkEntry x + uptoBulkEntries r
def uptoBulkEntry {H : Type} : Lit × DataW H → Nat
  | (.string bytes, d) => bytes.length + uptoBulk d + 1
  | (_, d) => uptoBulk d + 1
 end
def uptoSmall : (H : Type) → List (DataW H) → Bool := fun _ ds => decide (uptoBulkAll ds ≤ 1048576)
def OpenSpec.upto (s : _root_.Go.ChangeSpec) : _root_.Go.OpenSpec := { _root_.Go.OpenSpec.ofChange s with cond := some uptoSmall }

/-- 'laws.FnExactWordOf', WHERE WHAT IT READS IS OF BULK AT MOST 1048576: true; the input reads as it did. -/
def fnExactWordOfUptoRow : OpenClaim := { program := "ytolffbcnbcjeaaagreat", sum := "4e316580aa2357f291241e72646f431584e55d10d5b5d0af980de7e6356c1f2a", func := "loop.example/g00649/laws.FnExactWordOf", spec := "fnExactWordOf", unfollowed := true, recurses := true, apart := false, narrowed := true }
def FnExactWordOfUptoSaid : Prop := fnExactWordOfUptoRow.holds Tryz.pinned (OpenSpec.upto fnExactWordOfSpec)

/-- 'laws.FnExactIsPossible', WHERE WHAT IT READS IS OF BULK AT MOST 1048576: true; the input reads as it did. -/
def fnExactIsPossibleUptoRow : OpenClaim := { program := "ytolffbcnbcjeaaagreat", sum := "4e316580aa2357f291241e72646f431584e55d10d5b5d0af980de7e6356c1f2a", func := "loop.example/g00649/laws.FnExactIsPossible", spec := "fnExactIsPossible", unfollowed := true, recurses := true, apart := false, narrowed := true }
def FnExactIsPossibleUptoSaid : Prop := fnExactIsPossibleUptoRow.holds Tryz.pinned (OpenSpec.upto fnExactIsPossibleSpec)

/-- 'laws.FnExactExampleOf', WHERE WHAT IT READS IS OF BULK AT MOST 1048576: true; the input reads as it did. -/
def fnExactExampleOfUptoRow : OpenClaim := { program := "ytolffbcnbcjeaaagreat", sum := "4e316580aa2357f291241e72646f431584e55d10d5b5d0af980de7e6356c1f2a", func := "loop.example/g00649/laws.FnExactExampleOf", spec := "fnExactExampleOf", unfollowed := true, recurses := true, apart := false, narrowed := true }
def FnExactExampleOfUptoSaid : Prop := fnExactExampleOfUptoRow.holds Tryz.pinned (OpenSpec.upto fnExactExampleOfSpec)

/-- 'laws.FnExactImplies', WHERE WHAT IT READS IS OF BULK AT MOST 1048576: true; the input reads as it did. -/
def fnExactImpliesUptoRow : OpenClaim := { program := "ytolffbcnbcjeaaagreat", sum := "4e316580aa2357f291241e72646f431584e55d10d5b5d0af980de7e6356c1f2a", func := "loop.example/g00649/laws.FnExactImplies", spec := "fnExactImplies", unfollowed := true, recurses := true, apart := false, narrowed := true }
def FnExactImpliesUptoSaid : Prop := fnExactImpliesUptoRow.holds Tryz.pinned (OpenSpec.upto fnExactImpliesSpec)

end Rows
end Go.Proofs.YtolffbcnbcjeaaaGreat
