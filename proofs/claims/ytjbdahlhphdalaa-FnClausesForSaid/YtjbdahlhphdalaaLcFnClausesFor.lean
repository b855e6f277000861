/- The row of the law on the clauses of circuits: whatever the input, it answers true, and what it is told reads as it did. -/
import Derived.Test.YtjbdahlhphdalaaLc13
import Derived.Test.YtjbdahlhphdalaaSep25
import Derived.Test.YtjbdahlhphdalaaRows
import Derived.WalkKit
import Derived.ProofKit
import Derived.OpenShut
namespace Go.Proofs.Ytjbdahlhphdalaa.fnClausesFor
open Go Go.Sep Go.ChangeShapes Go.WideShapes Go.ChangeAt Go.RowKit
set_option linter.unusedVariables false

theorem own : ownKnob Try.prog.godebug = none := by kernel_rfl

theorem typed_byte {x : List PV} (h : Typed Try.prog 5 x) : ∃ n : Int, (0 ≤ n ∧ n < 256) ∧ x = e8 n := by
  have hu : Try.prog.underlying 5 = some (.int .u8) := by kernel_rfl
  cases h with
  | bool h => rw [hu] at h; cases h
  | int h hw =>
    rw [hu] at h; cases h
    rename_i n
    refine ⟨n, ?_, rfl⟩
    simp only [Lit.wf, Bool.and_eq_true, decide_eq_true_eq] at hw
    have e1 : IntKind.u8.min = 0 := by decide
    have e2 : IntKind.u8.max = 255 := by decide
    rw [e1, e2] at hw
    omega
  | str h _ => rw [hu] at h; cases h
  | sl h _ _ => rw [hu] at h; cases h
  | struct h _ => rw [hu] at h; cases h

theorem typed_rows : ∀ (es : List (List PV)), (∀ x ∈ es, Typed Try.prog 5 x) → ∃ ns : List Int, (∀ b ∈ ns, 0 ≤ b ∧ b < 256) ∧ es = ns.map e8
  | [], _ => ⟨[], fun b hb => by simp at hb, rfl⟩
  | x :: es, h => by
    obtain ⟨n, hn, rfl⟩ := typed_byte (h x (by simp))
    obtain ⟨ns, hns, rfl⟩ := typed_rows es fun y hy => h y (by simp [hy])
    refine ⟨n :: ns, ?_, rfl⟩
    intro b hb
    rcases List.mem_cons.1 hb with rfl | hb
    · exact hn
    · exact hns b hb

theorem bytes_arg {v : AV} (h : ArgT Try.prog 22 v) : ∃ ns : List Int, (∀ b ∈ ns, 0 ≤ b ∧ b < 256) ∧ v = .p (.sl (ns.map e8)) := by
  have hu : Try.prog.underlying 22 = some (.slice 5) := by kernel_rfl
  cases h with
  | cell hs h =>
    cases h with
    | bool h => rw [hu] at h; cases h
    | int h hw => rw [hu] at h; cases h
    | str h _ => rw [hu] at h; cases h
    | sl h hl he =>
      rw [hu] at h; cases h
      obtain ⟨ns, hns, rfl⟩ := typed_rows _ he
      exact ⟨ns, hns, rfl⟩
    | struct h _ => rw [hu] at h; cases h
  | agg h _ => rw [hu] at h; cases h

theorem bytes_args {avs : List AV} (h : ArgsT Try.prog [22, 22] avs) : ∃ a b : List Int, (∀ x ∈ a, 0 ≤ x ∧ x < 256) ∧ avs = [.p (.sl (a.map e8)), .p (.sl (b.map e8))] := by
  cases h with
  | cons h1 r =>
    cases r with
    | cons h2 r =>
      cases r with
      | nil =>
        obtain ⟨a, ha, rfl⟩ := bytes_arg h1
        obtain ⟨b, _, rfl⟩ := bytes_arg h2
        exact ⟨a, b, ha, rfl⟩

theorem told (avs : List AV) (h : ArgsT Try.prog [22, 22] avs) : CallT Try.prog 4 avs (fun _ => none) (fun v _ => v = .p (.bool true)) := by
  obtain ⟨a, b, ha, rfl⟩ := bytes_args h
  exact (FnClausesFor_true ha).use rfl

set_option maxRecDepth 100000 in
theorem lifted (os : Os) (started : os.Started) (H : Type) (enc : TypeId × Value → H) :
    ReturnsInHanded {} Try.checked os 4 .any (Rows.fnClausesForSpec.pre6 enc Try.prog Try.f4 Rows.fnClausesForRow.domain false) (Rows.fnClausesForSpec.post enc Try.prog Try.f4 false true false false) := by
  refine returnsInHanded_of_change (C := Try.checked) own started (by kernel_rfl) Try.func4
    (ChangeSpec.witness6 (enc := enc) (C := Try.checked) false ⟨#[], #[.slice none 0 0, .slice none 0 0], []⟩ 8 (by kernel_rfl) (by kernel_rfl) (by kernel_rfl) (by kernel_rfl)) ?_
  intro W base args ds gs before hval hW _ _
  refine row_of_true (n := 4) (tb := 4) (by kernel_rfl) rfl (by kernel_rfl) (by kernel_rfl) ?_ ?_ ?_ hval hW
  · have : (Try.f4.params.toList.all fun t => Try.prog.readableRec t && decide (t < Try.prog.types.size) && plainB Try.prog 4 t) = true := by kernel_rfl
    intro t ht
    have := List.all_eq_true.1 this t ht
    rw [Bool.and_eq_true, Bool.and_eq_true, decide_eq_true_eq] at this
    exact ⟨this.1.1, this.1.2, this.2⟩
  · intro ds hd
    rw [Try.params4] at hd
    match ds, hd with
    | [a, b], _ => rfl
  · rw [Try.params4]
    exact told

theorem over : Rows.fnClausesForRow.holds Try.pinned (OpenSpec.ofChange Rows.fnClausesForSpec) :=
  OpenClaim.holds_of_wide 4 Try.f4 rfl rfl rfl rfl rfl rfl rfl ⟨rfl, rfl, rfl, rfl, rfl⟩ rfl rfl rfl rfl rfl (by kernel_rfl) Try.func4 (by kernel_rfl)
    (of_decide_eq_true (by kernel_rfl)) (by unfold Func.isWrapper; first | (rw [if_pos (by decide +kernel)]; kernel_rfl) | (rw [if_neg (by decide +kernel)]; exact ⟨rfl, rfl⟩))
    (fun os started H enc _ => lifted os started H enc)

/-- The statement. -/
theorem proved : Rows.FnClausesForSaid :=
  over
#print axioms proved
end Go.Proofs.Ytjbdahlhphdalaa.fnClausesFor
