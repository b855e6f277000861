/- Sep, part 15: freezing a row of elements. -/
import Derived.Test.YthlbkcgnacemgaaSep14
namespace Go.Sep
open Go Go.RowKit

/-- Freeze a row within code. -/
theorem CX.frz {P : Program} {x : XC} {Q : Post} {env env' : List AV} {H : Heap} {r sz : Nat} {es : List (List PV)} (hpos : 0 < sz) (hr : H r = some (es.flatten.map .p)) (hsz : ∀ e ∈ es, e.length = sz) (hv : FrzL r sz es env env')
    (h : CX P x Q env' (H.del r)) : CX P x Q env H := by
  intro c hc B0 w0 F Z φ a w rel
  obtain ⟨pl, hp, hla⟩ := rel.sim.live r _ (Heap.or_left hr)
  obtain ⟨Z', vals, hz, h1, h2, h3⟩ := rel.sim.freeze (Heap.or_left hr) hp
  rw [← Heap.or_del (rel.disj.fresh hr)] at h3
  have key : env'.length = env.length ∧ ∀ (i : Nat) (v v' : AV) (x : Value), env[i]? = some v → env'[i]? = some v' → Cv Z' φ v x → Cv Z' φ v' x :=
    frz_relL hpos hsz hp h1 h2 hv
  have r' : Rel B0 w0 F Z' φ (H.del r) env' a w := by
    refine ⟨rel.disj.del, h3, ⟨rel.env.1.trans key.1.symm, ?_⟩, rel.defers⟩
    intro i av x hi hx
    have hl : i < env.length := by rw [← key.1]; exact (List.getElem?_eq_some_iff.1 hi).1
    exact key.2 i _ av x (List.getElem?_eq_getElem hl) hi ((rel.env.2 i _ x (List.getElem?_eq_getElem hl) hx).mono hz (Pm.le_refl _))
  refine wp_mono (h c hc B0 w0 F Z' φ a w r') ?_
  rintro e2 a2 w2 ⟨env2, H2, Z2, φ2, t2, hz2, hp2, r2⟩
  exact ⟨env2, H2, Z2, φ2, t2, Fro.le_trans hz hz2, hp2, r2⟩

end Go.Sep
