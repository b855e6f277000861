/- Arguments by value: rows of conditions, questions. -/
import Derived.Test.YtgcklgeifdefhaaGreatLr1
import Derived.Test.YtgcklgeifdefhaaGreatLr3
import Derived.Test.YtgcklgeifdefhaaGreatLq2
namespace Go.Proofs.YtgcklgeifdefhaaGreat
open Go Go.Sep Go.Pt Go.RowKit
set_option linter.unusedVariables false

theorem typed_nodess {x : List PV} (h : Typed Tryz.prog 26 x) : ∃ t : List (List Nd), (okNss t ∧ nTs t) ∧ x = [.sl (t.map eNN)] := by
  obtain ⟨es, rfl, hl, he⟩ := typed_slice (e := 22) (by kernel_rfl) h
  obtain ⟨t, h1, rfl, h3⟩ := rows_of (Q := fun a => ok a.length ∧ nT a) (e := eNN) es fun y hy => typed_nodes (he y hy)
  exact ⟨t, ⟨⟨by unfold ok; omega, fun c hc => (h1 c hc).1⟩, fun c hc => (h1 c hc).2⟩, rfl⟩
theorem arg_nodess {v : AV} (h : ArgT Tryz.prog 26 v) : ∃ t : List (List Nd), okNss t ∧ nTs t ∧ v = Nss t := by
  have hu := sliceIs_ok (P := Tryz.prog) (t := 26) (e := 22) (by kernel_rfl)
  obtain ⟨p, g, rfl⟩ := arg_cell (fun fs h => by rw [hu] at h; cases h) h
  obtain ⟨t, ht, e⟩ := typed_nodess g
  injection e with e
  exact ⟨t, ht.1, ht.2, by rw [e]⟩
theorem arg_question {v : AV} (h : ArgT Tryz.prog 29 v) : ∃ q : Qn, okQ q ∧ nQ q ∧ v = aQ q := by
  obtain ⟨pvs, g, rfl⟩ := arg_struct (ts := [25, 26, 27]) (by kernel_rfl) h
  clear h
  have h := g
  obtain ⟨pp, b, rfl, hp, h⟩ := typedAll_cons h
  obtain ⟨b, c, rfl, h5, h⟩ := typedAll_cons h
  obtain ⟨c, d, rfl, h6, h⟩ := typedAll_cons h
  cases typedAll_nil h
  have h := typed_fields (ts := [3, 3, 22, 23]) (by kernel_rfl) hp
  obtain ⟨a, b, rfl, h1, h⟩ := typedAll_cons h
  obtain ⟨b, c, rfl, h2, h⟩ := typedAll_cons h
  obtain ⟨c, d, rfl, h3, h⟩ := typedAll_cons h
  obtain ⟨d, e, rfl, h4, h⟩ := typedAll_cons h
  cases typedAll_nil h
  obtain ⟨n, _, rfl⟩ := typed_int (k := .i64) (by kernel_rfl) h1
  obtain ⟨m, _, rfl⟩ := typed_int (k := .i64) (by kernel_rfl) h2
  obtain ⟨t, ht, rfl⟩ := typed_nodes h3
  obtain ⟨cs, hc, rfl⟩ := typed_commands h4
  obtain ⟨ak, ha, rfl⟩ := typed_nodess h5
  obtain ⟨ss, hs, rfl⟩ := typed_saids h6
  exact ⟨⟨⟨n, m, t, cs⟩, ak, ss⟩, ⟨⟨ht.1, hc.1⟩, ha.1, hs⟩, ⟨⟨ht.2, hc.2⟩, ha.2⟩, rfl⟩
end Go.Proofs.YtgcklgeifdefhaaGreat
