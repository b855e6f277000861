/- Arguments by value: nodes, programs, sights. -/
import Derived.Test.YtgcklgeifdefhaaGreatLr0
import Derived.Test.YtgcklgeifdefhaaGreatLe8a
namespace Go.Proofs.YtgcklgeifdefhaaGreat
open Go Go.Sep Go.Pt Go.RowKit
set_option linter.unusedVariables false

theorem typed_node {x : List PV} (h : Typed Tryz.prog 160 x) : ∃ a, okN a ∧ x = eN a := by
  have h := typed_fields (ts := [3, 153]) (by kernel_rfl) h
  obtain ⟨a, b, rfl, h1, h⟩ := typedAll_cons h
  obtain ⟨b, c, rfl, h2, h⟩ := typedAll_cons h
  cases typedAll_nil h
  obtain ⟨n, _, rfl⟩ := typed_int (k := .i64) (by kernel_rfl) h1
  obtain ⟨m, hw, rfl⟩ := typed_int (k := .u64) (by kernel_rfl) h2
  refine ⟨⟨n, m⟩, ?_, rfl⟩
  simp only [Lit.wf, Bool.and_eq_true, decide_eq_true_eq] at hw
  have e1 : IntKind.u64.min = 0 := by decide
  have e2 : IntKind.u64.max = 18446744073709551615 := by decide
  rw [e1, e2] at hw
  unfold okN
  show 0 ≤ m ∧ m < 2 ^ 64
  omega
theorem typed_nodes {x : List PV} (h : Typed Tryz.prog 22 x) : ∃ t : List Nd, (ok t.length ∧ nT t) ∧ x = [.sl (t.map eN)] := by
  obtain ⟨es, rfl, hl, he⟩ := typed_slice (e := 160) (by kernel_rfl) h
  obtain ⟨t, h1, rfl, h3⟩ := rows_of (Q := okN) (e := eN) es fun y hy => typed_node (he y hy)
  exact ⟨t, ⟨by unfold ok; omega, h1⟩, rfl⟩
theorem typed_change {x : List PV} (h : Typed Tryz.prog 201 x) : ∃ a, (okCh a ∧ nCh a) ∧ x = eCh a := by
  have h := typed_fields (ts := [3, 22]) (by kernel_rfl) h
  obtain ⟨a, b, rfl, h1, h⟩ := typedAll_cons h
  obtain ⟨b, c, rfl, h2, h⟩ := typedAll_cons h
  cases typedAll_nil h
  obtain ⟨n, _, rfl⟩ := typed_int (k := .i64) (by kernel_rfl) h1
  obtain ⟨t, ht, rfl⟩ := typed_nodes h2
  exact ⟨⟨n, t⟩, ht, rfl⟩
theorem typed_changes {x : List PV} (h : Typed Tryz.prog 145 x) : ∃ t : List Ch, (okChs t ∧ ∀ c ∈ t, nCh c) ∧ x = [.sl (t.map eCh)] := by
  obtain ⟨es, rfl, hl, he⟩ := typed_slice (e := 201) (by kernel_rfl) h
  obtain ⟨t, h1, rfl, h3⟩ := rows_of (Q := fun a => okCh a ∧ nCh a) (e := eCh) es fun y hy => typed_change (he y hy)
  exact ⟨t, ⟨⟨by unfold ok; omega, fun c hc => (h1 c hc).1⟩, fun c hc => (h1 c hc).2⟩, rfl⟩
theorem typed_command {x : List PV} (h : Typed Tryz.prog 147 x) : ∃ a, (okCm a ∧ nCm a) ∧ x = eCm a := by
  have h := typed_fields (ts := [22, 145]) (by kernel_rfl) h
  obtain ⟨a, b, rfl, h1, h⟩ := typedAll_cons h
  obtain ⟨b, c, rfl, h2, h⟩ := typedAll_cons h
  cases typedAll_nil h
  obtain ⟨t, ht, rfl⟩ := typed_nodes h1
  obtain ⟨cs, hc, rfl⟩ := typed_changes h2
  exact ⟨⟨t, cs⟩, ⟨⟨ht.1, hc.1⟩, ⟨ht.2, hc.2⟩⟩, rfl⟩
theorem typed_commands {x : List PV} (h : Typed Tryz.prog 23 x) : ∃ t : List Cm, (okCms t ∧ ∀ c ∈ t, nCm c) ∧ x = [.sl (t.map eCm)] := by
  obtain ⟨es, rfl, hl, he⟩ := typed_slice (e := 147) (by kernel_rfl) h
  obtain ⟨t, h1, rfl, h3⟩ := rows_of (Q := fun a => okCm a ∧ nCm a) (e := eCm) es fun y hy => typed_command (he y hy)
  exact ⟨t, ⟨⟨by unfold ok; omega, fun c hc => (h1 c hc).1⟩, fun c hc => (h1 c hc).2⟩, rfl⟩
theorem typed_ints {x : List PV} (h : Typed Tryz.prog 46 x) : ∃ t : List Int, ok t.length ∧ x = [.sl (t.map eI)] := by
  obtain ⟨es, rfl, hl, he⟩ := typed_slice (e := 3) (by kernel_rfl) h
  obtain ⟨t, h1, rfl, h3⟩ := rows_of (Q := fun _ => True) (e := eI) es fun y hy => by
    obtain ⟨n, _, rfl⟩ := typed_int (k := .i64) (by kernel_rfl) (he y hy)
    exact ⟨n, trivial, rfl⟩
  exact ⟨t, by unfold ok; omega, rfl⟩
theorem arg_program {v : AV} (h : ArgT Tryz.prog 25 v) : ∃ p : Pg, okPg p ∧ nPg p ∧ v = aPg p := by
  obtain ⟨pvs, g, rfl⟩ := arg_struct (ts := [3, 3, 22, 23]) (by kernel_rfl) h
  clear h
  have h := g
  obtain ⟨a, b, rfl, h1, h⟩ := typedAll_cons h
  obtain ⟨b, c, rfl, h2, h⟩ := typedAll_cons h
  obtain ⟨c, d, rfl, h3, h⟩ := typedAll_cons h
  obtain ⟨d, e, rfl, h4, h⟩ := typedAll_cons h
  cases typedAll_nil h
  obtain ⟨n, _, rfl⟩ := typed_int (k := .i64) (by kernel_rfl) h1
  obtain ⟨m, _, rfl⟩ := typed_int (k := .i64) (by kernel_rfl) h2
  obtain ⟨t, ht, rfl⟩ := typed_nodes h3
  obtain ⟨cs, hc, rfl⟩ := typed_commands h4
  exact ⟨⟨n, m, t, cs⟩, ⟨ht.1, hc.1⟩, ⟨ht.2, hc.2⟩, rfl⟩
theorem arg_int {v : AV} (h : ArgT Tryz.prog 3 v) : ∃ n : Int, v = I n := by
  have hu : Tryz.prog.underlying 3 = some (.int .i64) := by kernel_rfl
  obtain ⟨p, g, rfl⟩ := arg_cell (fun fs h => by rw [hu] at h; cases h) h
  obtain ⟨n, _, e⟩ := typed_int (k := .i64) (by kernel_rfl) g
  injection e with e
  exact ⟨n, by rw [e]⟩
theorem arg_nodes {v : AV} (h : ArgT Tryz.prog 22 v) : ∃ t : List Nd, ok t.length ∧ nT t ∧ v = Ns t := by
  have hu := sliceIs_ok (P := Tryz.prog) (t := 22) (e := 160) (by kernel_rfl)
  obtain ⟨p, g, rfl⟩ := arg_cell (fun fs h => by rw [hu] at h; cases h) h
  obtain ⟨t, ht, e⟩ := typed_nodes g
  injection e with e
  exact ⟨t, ht.1, ht.2, by rw [e]⟩
end Go.Proofs.YtgcklgeifdefhaaGreat
