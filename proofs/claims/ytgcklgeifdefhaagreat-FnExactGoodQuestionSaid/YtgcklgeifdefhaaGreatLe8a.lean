/- Numbers and lengths of arguments. -/
import Derived.Test.YtgcklgeifdefhaaGreatLe2
import Derived.Test.YtgcklgeifdefhaaGreatLe7
namespace Go.Proofs.YtgcklgeifdefhaaGreat
open Go Go.Sep Go.Pt
set_option linter.unusedSimpArgs false
set_option linter.unusedVariables false
attribute [local irreducible] CallT

def nT (t : List Nd) : Prop := ∀ x ∈ t, okN x
def nCh (c : Ch) : Prop := nT c.by_
def nCm (c : Cm) : Prop := nT c.when_ ∧ ∀ x ∈ c.chs, nCh x
def nPg (p : Pg) : Prop := nT p.start ∧ ∀ c ∈ p.cmds, nCm c
theorem v_of {p : Pg} (h : smPg p) (hn : nPg p) : vPg p :=
  ⟨⟨h.1, hn.1⟩, h.2.1, fun c hc => ⟨⟨(h.2.2 c hc).1, (hn.2 c hc).1⟩, (h.2.2 c hc).2.1, fun x hx => ⟨(h.2.2 c hc).2.2 x hx, (hn.2 c hc).2 x hx⟩⟩⟩
theorem szR_nonneg {left : Int} {n : Nat} (h : ¬ szR left n < 0) : (n : Int) ≤ left ∧ szR left n = left - n := by
  unfold szR at *
  split at h
  · rename_i h2; exact ⟨h2, by rw [if_pos h2]⟩
  · omega

end Go.Proofs.YtgcklgeifdefhaaGreat
