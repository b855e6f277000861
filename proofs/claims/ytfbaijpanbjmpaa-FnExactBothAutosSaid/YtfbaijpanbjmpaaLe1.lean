/- Specs: sizes, copies and comparisons of programs and of lists of classes. -/
import Derived.Test.YtfbaijpanbjmpaaLb1a
import Derived.Test.YtfbaijpanbjmpaaLb3
import Derived.Test.YtfbaijpanbjmpaaPt1
namespace Go.Proofs.Ytfbaijpanbjmpaa
open Go Go.Sep Go.Pt
set_option linter.unusedSimpArgs false
set_option linter.unusedVariables false
attribute [local irreducible] CallT

abbrev eN (x : Nd) : List PV := [.int .i64 x.op, .int .u64 x.n]
abbrev aN (x : Nd) : AV := .agg [I x.op, U x.n]
abbrev Ns (xs : List Nd) : AV := .p (.sl (xs.map eN))
abbrev eCh (c : Ch) : List PV := [.int .i64 c.var, .sl (c.by_.map eN)]
abbrev aCh (c : Ch) : AV := .agg [I c.var, Ns c.by_]
abbrev Chs (cs : List Ch) : AV := .p (.sl (cs.map eCh))
abbrev eCm (c : Cm) : List PV := [.sl (c.when_.map eN), .sl (c.chs.map eCh)]
abbrev aCm (c : Cm) : AV := .agg [Ns c.when_, Chs c.chs]
abbrev Cms (cs : List Cm) : AV := .p (.sl (cs.map eCm))
abbrev aPg (p : Pg) : AV := .agg [I p.wide, I p.vars, Ns p.start, Cms p.cmds]
abbrev aS (of : List Int) : AV := .agg [Is of]

/-- As long as a list can be. -/
def ok (n : Nat) : Prop := n ≤ 9223372036854775807
def okCh (c : Ch) : Prop := ok c.by_.length
def okChs (cs : List Ch) : Prop := ok cs.length ∧ ∀ c ∈ cs, okCh c
def okCm (c : Cm) : Prop := ok c.when_.length ∧ okChs c.chs
def okCms (cs : List Cm) : Prop := ok cs.length ∧ ∀ c ∈ cs, okCm c
def okPg (p : Pg) : Prop := ok p.start.length ∧ okCms p.cmds
def psum {α : Type} (f : α → Nat) (xs : List α) (i : Nat) : Nat := ((xs.take i).map f).sum
theorem psum_succ {α : Type} [Inhabited α] {f : α → Nat} {xs : List α} {i : Nat} (h : i < xs.length) : psum f xs (i + 1) = psum f xs i + f (xs.getD i default) := by
  rw [psum, take_succ_snoc h, List.map_append, List.sum_append]; simp [psum]
theorem psum_le {α : Type} {f : α → Nat} {xs : List α} (i : Nat) : psum f xs i ≤ psum f xs xs.length := by
  rw [psum, psum, List.take_length]
  conv => rhs; rw [← List.take_append_drop i xs]
  rw [List.map_append, List.sum_append]; omega
def totCh (c : Ch) : Nat := c.by_.length
def totChs (cs : List Ch) : Nat := cs.length + psum totCh cs cs.length
def totCm (c : Cm) : Nat := c.when_.length + totChs c.chs
def totCms (cs : List Cm) : Nat := cs.length + psum totCm cs cs.length
def totPg (p : Pg) : Nat := p.start.length + totCms p.cmds
/-- What is left of a size. -/
def szR (left : Int) (n : Nat) : Int := if (n : Int) ≤ left then left - n else -1
theorem szR_neg {left : Int} {n : Nat} (h : left < n) : szR left n = -1 := by rw [szR, if_neg (by omega)]
theorem szR_pos {left : Int} {n : Nat} (h : (n : Int) ≤ left) : szR left n = left - n := by rw [szR, if_pos h]

theorem szIntS_spec (t : List Int) (left : Int) (h0 : 0 ≤ left) (h1 : left ≤ 1048576) (hl : ok t.length) : Pu Try.prog 32 [Is t, I left] (I (szR left t.length)) := by
  refine Pu.of fun H => ?_
  unfold ok at hl
  have e : IntKind.i64.wrap (left - t.length) = left - t.length := i64_id (by omega) (by omega)
  refine W32_ok ?_; simp (maxSteps := 1000000) (disch := (first | assumption | (apply Ne.symm; assumption))) only [W32, vw0, vw1, vw2, vw3, vw4, vu0, vu1, ↓condV_t, ↓condV_f, cap_nil, allocV, splice, partV, buildV, eqFieldsV, eqS, tabs, TK.agg, reduceCtorEq, Array.toList, List.map_cons, List.map_nil, ↓reduceIte, List.length_map, Nat.reduceAdd, Nat.reduceLeDiff, Nat.reduceLT, Nat.reduceMul, Nat.reduceSub, Option.bind_some, Option.map_some, bndV, numV, eI, eU, e8, eB, AV.isCell, Int.reduceToNat, Int.reduceSub, Int.reduceAdd, Int.reduceNeg, e]
  refine ⟨fun h => by rw [szR_neg (by omega)], fun h => by rw [szR_pos (by omega)]⟩
end Go.Proofs.Ytfbaijpanbjmpaa
