/- Arguments by value: formulas. -/
import Derived.Test.YtgcklgeifdefhaaGreatLr0
import Derived.Test.YtgcklgeifdefhaaGreatMf0
namespace Go.Proofs.YtgcklgeifdefhaaGreat
open Go Go.Sep Go.Pt Go.RowKit
set_option linter.unusedVariables false

theorem typed_said {x : List PV} (h : Typed Tryz.prog 108 x) : ∃ a : Sd, x = eD a := by
  have h := typed_fields (ts := [3, 3]) (by kernel_rfl) h
  obtain ⟨a, b, rfl, h1, h⟩ := typedAll_cons h
  obtain ⟨b, c, rfl, h2, h⟩ := typedAll_cons h
  cases typedAll_nil h
  obtain ⟨n, _, rfl⟩ := typed_int (k := .i64) (by kernel_rfl) h1
  obtain ⟨m, _, rfl⟩ := typed_int (k := .i64) (by kernel_rfl) h2
  exact ⟨⟨n, m⟩, rfl⟩
theorem typed_saids {x : List PV} (h : Typed Tryz.prog 27 x) : ∃ t : List Sd, ok t.length ∧ x = [.sl (t.map eD)] := by
  obtain ⟨es, rfl, hl, he⟩ := typed_slice (e := 108) (by kernel_rfl) h
  obtain ⟨t, h1, rfl, h3⟩ := rows_of (Q := fun _ => True) (e := eD) es fun y hy => by
    obtain ⟨a, rfl⟩ := typed_said (he y hy)
    exact ⟨a, trivial, rfl⟩
  exact ⟨t, by unfold ok; omega, rfl⟩
theorem arg_saids {v : AV} (h : ArgT Tryz.prog 27 v) : ∃ t : List Sd, ok t.length ∧ v = Ds t := by
  have hu := sliceIs_ok (P := Tryz.prog) (t := 27) (e := 108) (by kernel_rfl)
  obtain ⟨p, g, rfl⟩ := arg_cell (fun fs h => by rw [hu] at h; cases h) h
  obtain ⟨t, ht, e⟩ := typed_saids g
  injection e with e
  exact ⟨t, ht, by rw [e]⟩
theorem arg_i64 {v : AV} (h : ArgT Tryz.prog 3 v) : ∃ n : Int, (Lit.int .i64 n).wf = true ∧ v = I n := by
  have hu : Tryz.prog.underlying 3 = some (.int .i64) := by kernel_rfl
  obtain ⟨p, g, rfl⟩ := arg_cell (fun fs h => by rw [hu] at h; cases h) h
  obtain ⟨n, hn, e⟩ := typed_int (k := .i64) (by kernel_rfl) g
  injection e with e
  exact ⟨n, hn, by rw [e]⟩
end Go.Proofs.YtgcklgeifdefhaaGreat
