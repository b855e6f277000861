/- Specs: sizes, copies and comparisons of automata. -/
import Derived.Test.YtgcklgeifdefhaaGreatLe2
import Derived.Test.YtgcklgeifdefhaaGreatPm1
namespace Go.Proofs.YtgcklgeifdefhaaGreat
open Go Go.Sep Go.Pt
set_option linter.unusedSimpArgs false
set_option linter.unusedVariables false
attribute [local irreducible] CallT

abbrev eE (x : Ed) : List PV := [.int .i64 x.src, .int .i64 x.lt, .int .i64 x.dst]
abbrev aE (x : Ed) : AV := .agg [I x.src, I x.lt, I x.dst]
abbrev Es (xs : List Ed) : AV := .p (.sl (xs.map eE))
abbrev aAu (a : Au) : AV := .agg [I a.states, Is a.first, Es a.edges, Ls a.goals]
def okLs (cs : List (List Int)) : Prop := ok cs.length ∧ ∀ c ∈ cs, ok c.length
def okAu (a : Au) : Prop := ok a.first.length ∧ ok a.edges.length ∧ okLs a.goals
def totL (l : List Int) : Nat := l.length
def totLs (cs : List (List Int)) : Nat := cs.length + psum totL cs cs.length
def totAu (a : Au) : Nat := a.first.length + a.edges.length + totLs a.goals
def smLs (cs : List (List Int)) : Prop := cs.length ≤ 1048576 ∧ ∀ c ∈ cs, c.length ≤ 1048576
def smAu (a : Au) : Prop := a.first.length ≤ 1048576 ∧ a.edges.length ≤ 1048576 ∧ smLs a.goals
theorem smAu_of {a : Au} (h : (totAu a : Int) ≤ 1048576) : smAu a := by
  unfold totAu totLs at h
  refine ⟨by omega, by omega, by omega, fun c hc => ?_⟩
  have := psum_mem (f := totL) hc
  unfold totL at *
  omega

end Go.Proofs.YtgcklgeifdefhaaGreat
