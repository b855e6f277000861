/- Arguments by value: automata, lassos. -/
import Derived.Test.YtfbaijpanbjmpaaLr0
import Derived.Test.YtfbaijpanbjmpaaMa1
namespace Go.Proofs.Ytfbaijpanbjmpaa
open Go Go.Sep Go.Pt Go.RowKit
set_option linter.unusedVariables false

theorem typed_i64 {x : List PV} (h : Typed Try.prog 3 x) : ∃ n : Int, x = [.int .i64 n] := by
  obtain ⟨n, _, rfl⟩ := typed_int (k := .i64) (by kernel_rfl) h
  exact ⟨n, rfl⟩
theorem typed_intl {x : List PV} (h : Typed Try.prog 22 x) : ∃ t : List Int, ok t.length ∧ x = [.sl (t.map eI)] := by
  obtain ⟨es, rfl, hl, he⟩ := typed_slice (e := 3) (by kernel_rfl) h
  obtain ⟨t, h1, rfl, h3⟩ := rows_of (Q := fun _ => True) (e := eI) es fun y hy => by
    obtain ⟨n, rfl⟩ := typed_i64 (he y hy)
    exact ⟨n, trivial, rfl⟩
  exact ⟨t, by unfold ok; omega, rfl⟩
theorem typed_intll {x : List PV} (h : Typed Try.prog 24 x) : ∃ t : List (List Int), okLs t ∧ x = [.sl (t.map eL)] := by
  obtain ⟨es, rfl, hl, he⟩ := typed_slice (e := 22) (by kernel_rfl) h
  obtain ⟨t, h1, rfl, h3⟩ := rows_of (Q := fun l : List Int => ok l.length) (e := eL) es fun y hy => by
    obtain ⟨l, hl, rfl⟩ := typed_intl (he y hy)
    exact ⟨l, hl, rfl⟩
  exact ⟨t, ⟨by unfold ok; omega, h1⟩, rfl⟩
theorem typed_edge {x : List PV} (h : Typed Try.prog 90 x) : ∃ a : Ed, x = eE a := by
  have h := typed_fields (ts := [3, 3, 3]) (by kernel_rfl) h
  obtain ⟨a, b, rfl, h1, h⟩ := typedAll_cons h
  obtain ⟨b, c, rfl, h2, h⟩ := typedAll_cons h
  obtain ⟨c, d, rfl, h3, h⟩ := typedAll_cons h
  cases typedAll_nil h
  obtain ⟨n, rfl⟩ := typed_i64 h1
  obtain ⟨m, rfl⟩ := typed_i64 h2
  obtain ⟨k, rfl⟩ := typed_i64 h3
  exact ⟨⟨n, m, k⟩, rfl⟩
theorem typed_edges {x : List PV} (h : Typed Try.prog 23 x) : ∃ t : List Ed, ok t.length ∧ x = [.sl (t.map eE)] := by
  obtain ⟨es, rfl, hl, he⟩ := typed_slice (e := 90) (by kernel_rfl) h
  obtain ⟨t, h1, rfl, h3⟩ := rows_of (Q := fun _ => True) (e := eE) es fun y hy => by
    obtain ⟨a, rfl⟩ := typed_edge (he y hy)
    exact ⟨a, trivial, rfl⟩
  exact ⟨t, by unfold ok; omega, rfl⟩
theorem arg_auto {v : AV} (h : ArgT Try.prog 26 v) : ∃ a : Au, okAu a ∧ v = aAu a := by
  obtain ⟨pvs, g, rfl⟩ := arg_struct (ts := [3, 22, 23, 24]) (by kernel_rfl) h
  clear h
  have h := g
  obtain ⟨a, b, rfl, h1, h⟩ := typedAll_cons h
  obtain ⟨b, c, rfl, h2, h⟩ := typedAll_cons h
  obtain ⟨c, d, rfl, h3, h⟩ := typedAll_cons h
  obtain ⟨d, e, rfl, h4, h⟩ := typedAll_cons h
  cases typedAll_nil h
  obtain ⟨n, rfl⟩ := typed_i64 h1
  obtain ⟨f, hf, rfl⟩ := typed_intl h2
  obtain ⟨es, he, rfl⟩ := typed_edges h3
  obtain ⟨gs, hg, rfl⟩ := typed_intll h4
  exact ⟨⟨n, f, es, gs⟩, ⟨hf, he, hg⟩, rfl⟩
end Go.Proofs.Ytfbaijpanbjmpaa
