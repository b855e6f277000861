/-
  No cell of these rows narrows 'for every input' (looked for: loops, veiled, ifaces, maps, wideKeys, modest, calm, conditions, laid).
  DERIVED. THE GIVEN ROWS OF THIS SEAT. 5 by the template 'for every input the law returns true; each argument reads behind the call as it read before'; 0 by the template 'total and deterministic' (their statements: YtjdhigcefkihiaaTotals.lean).
  GIVEN WITH THE SEED: the statements are not yours to turn. If you find one false, say at which input.
  Laid BY PROGRAM, IN A SANDBOX (cutbox-rows.mjs): the forced cells as the released guide's own fill.sh prints them over the translation d8ce26bdcee37c97… (all of the seat's roots in one cut). By AI agents, Wed Nov 11 2026. No macro, syntax, notation, axiom, sorry.
-/
import Derived.Test.YtjdhigcefkihiaaChecked
import GoSem.Claim
import GoSem.ClaimJoined
import GoSem.ClaimMapViews
import Derived.JoinedTies
import Derived.KernelRfl
namespace Go.Proofs.Ytjdhigcefkihiaa
/- THE CELL 'sum', in the pinned program and in every row, IS THE sha256 OF THE DUMP (.gsa) THAT YtjdhigcefkihiaaProg.lean LOADS. Nothing in Lean hashes anything: it is a label: what it is worth is what the hold of that sum in a sandbox is worth. -/
noncomputable def Try.pinned : Pinned := { name := "ytjdhigcefkihiaa", sum := "d8ce26bdcee37c974f96cfddc582d8cfe8cf899ed091775edd16a573317fb185", checked := Try.checked }
namespace Rows
def none {H : Type} : Left H := { results := [], args := [] }

/-- 'laws.FnExactRunFor': WHATEVER THE INPUT: true; the input reads as it did. -/
def fnExactRunForSpec : ChangeSpec := { name := "fnExactRunFor", fn := fun _ => fun
  | [d1, d2] => { results := [.lit (.bool true)], args := [d1, d2] }
  | _ => none }
def fnExactRunForRow : OpenClaim := { program := "ytjdhigcefkihiaa", sum := "d8ce26bdcee37c974f96cfddc582d8cfe8cf899ed091775edd16a573317fb185", func := "loop.example/g00649/laws.FnExactRunFor", spec := "fnExactRunFor", unfollowed := true, recurses := true, apart := false }
def FnExactRunForSaid : Prop := fnExactRunForRow.holds Try.pinned (OpenSpec.ofChange fnExactRunForSpec)

/-- ITS FALSE NEIGHBOUR: 'it returns false'. Refute it at one input. -/
def fnExactRunForWrong : ChangeSpec := { name := "fnExactRunFor", fn := fun _ => fun
  | [d1, d2] => { results := [.lit (.bool false)], args := [d1, d2] }
  | _ => none }
def FnExactRunForWrongFalsely : Prop := fnExactRunForRow.holds Try.pinned (OpenSpec.ofChange fnExactRunForWrong)

/-- 'laws.FnUnrolled': WHATEVER THE INPUT: true; the input reads as it did. -/
def fnUnrolledSpec : ChangeSpec := { name := "fnUnrolled", fn := fun _ => fun
  | [d1, d2] => { results := [.lit (.bool true)], args := [d1, d2] }
  | _ => none }
def fnUnrolledRow : OpenClaim := { program := "ytjdhigcefkihiaa", sum := "d8ce26bdcee37c974f96cfddc582d8cfe8cf899ed091775edd16a573317fb185", func := "loop.example/g00649/laws.FnUnrolled", spec := "fnUnrolled", unfollowed := true, recurses := true, apart := false }
def FnUnrolledSaid : Prop := fnUnrolledRow.holds Try.pinned (OpenSpec.ofChange fnUnrolledSpec)

/-- ITS FALSE NEIGHBOUR: 'it returns false'. Refute it at one input. -/
def fnUnrolledWrong : ChangeSpec := { name := "fnUnrolled", fn := fun _ => fun
  | [d1, d2] => { results := [.lit (.bool false)], args := [d1, d2] }
  | _ => none }
def FnUnrolledWrongFalsely : Prop := fnUnrolledRow.holds Try.pinned (OpenSpec.ofChange fnUnrolledWrong)

/-- 'laws.FnSuffixSaid': WHATEVER THE INPUT: true; the input reads as it did. -/
def fnSuffixSaidSpec : ChangeSpec := { name := "fnSuffixSaid", fn := fun _ => fun
  | [d1, d2] => { results := [.lit (.bool true)], args := [d1, d2] }
  | _ => none }
def fnSuffixSaidRow : OpenClaim := { program := "ytjdhigcefkihiaa", sum := "d8ce26bdcee37c974f96cfddc582d8cfe8cf899ed091775edd16a573317fb185", func := "loop.example/g00649/laws.FnSuffixSaid", spec := "fnSuffixSaid", unfollowed := true, recurses := true, apart := false }
def FnSuffixSaidSaid : Prop := fnSuffixSaidRow.holds Try.pinned (OpenSpec.ofChange fnSuffixSaidSpec)

/-- ITS FALSE NEIGHBOUR: 'it returns false'. Refute it at one input. -/
def fnSuffixSaidWrong : ChangeSpec := { name := "fnSuffixSaid", fn := fun _ => fun
  | [d1, d2] => { results := [.lit (.bool false)], args := [d1, d2] }
  | _ => none }
def FnSuffixSaidWrongFalsely : Prop := fnSuffixSaidRow.holds Try.pinned (OpenSpec.ofChange fnSuffixSaidWrong)

/-- 'laws.FnContrary': WHATEVER THE INPUT: true; the input reads as it did. -/
def fnContrarySpec : ChangeSpec := { name := "fnContrary", fn := fun _ => fun
  | [d1, d2] => { results := [.lit (.bool true)], args := [d1, d2] }
  | _ => none }
def fnContraryRow : OpenClaim := { program := "ytjdhigcefkihiaa", sum := "d8ce26bdcee37c974f96cfddc582d8cfe8cf899ed091775edd16a573317fb185", func := "loop.example/g00649/laws.FnContrary", spec := "fnContrary", unfollowed := true, recurses := true, apart := false }
def FnContrarySaid : Prop := fnContraryRow.holds Try.pinned (OpenSpec.ofChange fnContrarySpec)

/-- ITS FALSE NEIGHBOUR: 'it returns false'. Refute it at one input. -/
def fnContraryWrong : ChangeSpec := { name := "fnContrary", fn := fun _ => fun
  | [d1, d2] => { results := [.lit (.bool false)], args := [d1, d2] }
  | _ => none }
def FnContraryWrongFalsely : Prop := fnContraryRow.holds Try.pinned (OpenSpec.ofChange fnContraryWrong)

/-- 'laws.FnStuttered': WHATEVER THE INPUT: true; the input reads as it did. -/
def fnStutteredSpec : ChangeSpec := { name := "fnStuttered", fn := fun _ => fun
  | [d1, d2] => { results := [.lit (.bool true)], args := [d1, d2] }
  | _ => none }
def fnStutteredRow : OpenClaim := { program := "ytjdhigcefkihiaa", sum := "d8ce26bdcee37c974f96cfddc582d8cfe8cf899ed091775edd16a573317fb185", func := "loop.example/g00649/laws.FnStuttered", spec := "fnStuttered", inPlace := ["slices.overlaps[int]"], unfollowed := true, recurses := true, apart := false }
def FnStutteredSaid : Prop := fnStutteredRow.holds Try.pinned (OpenSpec.ofChange fnStutteredSpec)

/-- ITS FALSE NEIGHBOUR: 'it returns false'. Refute it at one input. -/
def fnStutteredWrong : ChangeSpec := { name := "fnStuttered", fn := fun _ => fun
  | [d1, d2] => { results := [.lit (.bool false)], args := [d1, d2] }
  | _ => none }
def FnStutteredWrongFalsely : Prop := fnStutteredRow.holds Try.pinned (OpenSpec.ofChange fnStutteredWrong)

/- THE SECOND FORM. 'bulk': how many values and letters a reading holds, each counted each time it is reached (what is shared counts as often as it is met; a slice's spare places count too). A statement '..UptoSaid' is the law's where the arguments, and the package variables that the reading takes, are together of bulk at most 1048576: NARROWER than '..Said'. Prove '..Said' where nothing that the law and all that it calls make is longer than what came in: it says more and counts as full. Else prove '..UptoSaid'. A law counts once. -/
mutual
def uptoBulk {H : Type} : DataW H → Nat
  | .lit (.string bytes) => bytes.length + 1
  | .lit _ => 1
  | .nil => 1
  | .ptr d => uptoBulk d + 1
  | .slice elems spare => uptoBulkAll elems + uptoBulkAll spare + 1
  | .agg parts => uptoBulkAll parts + 1
  | .iface _ d => uptoBulk d + 1
  | .map entries => uptoBulkEntries entries + 1
  | .held _ => 1
def uptoBulkAll {H : Type} : List (DataW H) → Nat
  | [] => 0
  | d :: r => uptoBulk d + uptoBulkAll r
def uptoBulkEntries {H : Type} : List (Lit × DataW H) → Nat
  | [] => 0
  | x :: r => uptoBulkEntry x + uptoBulkEntries r
def uptoBulkEntry {H : Type} : Lit × DataW H → Nat
  | (.string bytes, d) => bytes.length + uptoBulk d + 1
  | (_, d) => uptoBulk d + 1
 end
def uptoSmall : (H : Type) → List (DataW H) → Bool := fun _ ds => decide (uptoBulkAll ds ≤ 1048576)
def OpenSpec.upto (s : _root_.Go.ChangeSpec) : _root_.Go.OpenSpec := { _root_.Go.OpenSpec.ofChange s with cond := some uptoSmall }

/-- 'laws.FnExactRunFor', WHERE WHAT IT READS IS OF BULK AT MOST 1048576: true; the input reads as it did. -/
def fnExactRunForUptoRow : OpenClaim := { program := "ytjdhigcefkihiaa", sum := "d8ce26bdcee37c974f96cfddc582d8cfe8cf899ed091775edd16a573317fb185", func := "loop.example/g00649/laws.FnExactRunFor", spec := "fnExactRunFor", unfollowed := true, recurses := true, apart := false, narrowed := true }
def FnExactRunForUptoSaid : Prop := fnExactRunForUptoRow.holds Try.pinned (OpenSpec.upto fnExactRunForSpec)

/-- 'laws.FnUnrolled', WHERE WHAT IT READS IS OF BULK AT MOST 1048576: true; the input reads as it did. -/
def fnUnrolledUptoRow : OpenClaim := { program := "ytjdhigcefkihiaa", sum := "d8ce26bdcee37c974f96cfddc582d8cfe8cf899ed091775edd16a573317fb185", func := "loop.example/g00649/laws.FnUnrolled", spec := "fnUnrolled", unfollowed := true, recurses := true, apart := false, narrowed := true }
def FnUnrolledUptoSaid : Prop := fnUnrolledUptoRow.holds Try.pinned (OpenSpec.upto fnUnrolledSpec)

/-- 'laws.FnSuffixSaid', WHERE WHAT IT READS IS OF BULK AT MOST 1048576: true; the input reads as it did. -/
def fnSuffixSaidUptoRow : OpenClaim := { program := "ytjdhigcefkihiaa", sum := "d8ce26bdcee37c974f96cfddc582d8cfe8cf899ed091775edd16a573317fb185", func := "loop.example/g00649/laws.FnSuffixSaid", spec := "fnSuffixSaid", unfollowed := true, recurses := true, apart := false, narrowed := true }
def FnSuffixSaidUptoSaid : Prop := fnSuffixSaidUptoRow.holds Try.pinned (OpenSpec.upto fnSuffixSaidSpec)

/-- 'laws.FnContrary', WHERE WHAT IT READS IS OF BULK AT MOST 1048576: true; the input reads as it did. -/
def fnContraryUptoRow : OpenClaim := { program := "ytjdhigcefkihiaa", sum := "d8ce26bdcee37c974f96cfddc582d8cfe8cf899ed091775edd16a573317fb185", func := "loop.example/g00649/laws.FnContrary", spec := "fnContrary", unfollowed := true, recurses := true, apart := false, narrowed := true }
def FnContraryUptoSaid : Prop := fnContraryUptoRow.holds Try.pinned (OpenSpec.upto fnContrarySpec)

/-- 'laws.FnStuttered', WHERE WHAT IT READS IS OF BULK AT MOST 1048576: true; the input reads as it did. -/
def fnStutteredUptoRow : OpenClaim := { program := "ytjdhigcefkihiaa", sum := "d8ce26bdcee37c974f96cfddc582d8cfe8cf899ed091775edd16a573317fb185", func := "loop.example/g00649/laws.FnStuttered", spec := "fnStuttered", inPlace := ["slices.overlaps[int]"], unfollowed := true, recurses := true, apart := false, narrowed := true }
def FnStutteredUptoSaid : Prop := fnStutteredUptoRow.holds Try.pinned (OpenSpec.upto fnStutteredSpec)

end Rows
end Go.Proofs.Ytjdhigcefkihiaa
