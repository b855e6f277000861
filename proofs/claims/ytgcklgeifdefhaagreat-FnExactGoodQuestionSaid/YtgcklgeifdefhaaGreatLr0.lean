/- Arguments of types, by value: what they look like. -/
import Derived.Test.YtgcklgeifdefhaaGreatSepC
namespace Go.Sep
open Go Go.RowKit
set_option linter.unusedVariables false

/-- The fields of a struct's type. -/
def fieldsAre (P : Program) (t : TypeId) (ts : List TypeId) : Bool := match P.underlying t with
  | some (.struct fs) => decide (fs.toList.map (·.type) = ts)
  | _ => false
def intIs (P : Program) (t : TypeId) (k : IntKind) : Bool := match P.underlying t with
  | some (.int k') => decide (k' = k)
  | _ => false
def sliceIs (P : Program) (t e : TypeId) : Bool := match P.underlying t with
  | some (.slice e') => decide (e' = e)
  | _ => false
theorem fieldsAre_ok {P : Program} {t : TypeId} {ts : List TypeId} (h : fieldsAre P t ts = true) : ∃ fs, P.underlying t = some (.struct fs) ∧ fs.toList.map (·.type) = ts := by
  unfold fieldsAre at h
  split at h
  · rename_i fs hu; exact ⟨fs, hu, of_decide_eq_true h⟩
  · cases h
theorem intIs_ok {P : Program} {t : TypeId} {k : IntKind} (h : intIs P t k = true) : P.underlying t = some (.int k) := by
  unfold intIs at h
  split at h
  · rename_i k' hu; rw [hu, of_decide_eq_true h]
  · cases h
theorem sliceIs_ok {P : Program} {t e : TypeId} (h : sliceIs P t e = true) : P.underlying t = some (.slice e) := by
  unfold sliceIs at h
  split at h
  · rename_i k' hu; rw [hu, of_decide_eq_true h]
  · cases h
theorem typed_int {P : Program} {t : TypeId} {k : IntKind} (hi : intIs P t k = true) {x : List PV} (h : Typed P t x) : ∃ n, (Lit.int k n).wf = true ∧ x = [.int k n] := by
  have hu := intIs_ok hi
  cases h with
  | bool h => rw [hu] at h; cases h
  | int h hw => rw [hu] at h; cases h; exact ⟨_, hw, rfl⟩
  | str h _ => rw [hu] at h; cases h
  | sl h _ _ => rw [hu] at h; cases h
  | struct h _ => rw [hu] at h; cases h
theorem typed_slice {P : Program} {t e : TypeId} (hi : sliceIs P t e = true) {x : List PV} (h : Typed P t x) : ∃ es, x = [.sl es] ∧ es.length ≤ 9223372036854775807 ∧ ∀ y ∈ es, Typed P e y := by
  have hu := sliceIs_ok hi
  cases h with
  | bool h => rw [hu] at h; cases h
  | int h hw => rw [hu] at h; cases h
  | str h _ => rw [hu] at h; cases h
  | sl h hl he => rw [hu] at h; cases h; exact ⟨_, rfl, hl, he⟩
  | struct h _ => rw [hu] at h; cases h
theorem typed_fields {P : Program} {t : TypeId} {ts : List TypeId} (hf : fieldsAre P t ts = true) {x : List PV} (h : Typed P t x) : TypedAll P ts x := by
  obtain ⟨fs, hu, rfl⟩ := fieldsAre_ok hf
  cases h with
  | bool h => rw [hu] at h; cases h
  | int h hw => rw [hu] at h; cases h
  | str h _ => rw [hu] at h; cases h
  | sl h hl he => rw [hu] at h; cases h
  | struct h hf => rw [hu] at h; cases h; exact hf
theorem typedAll_cons {P : Program} {t : TypeId} {ts : List TypeId} {x : List PV} (h : TypedAll P (t :: ts) x) : ∃ a b, x = a ++ b ∧ Typed P t a ∧ TypedAll P ts b := by
  cases h with
  | cons h r => exact ⟨_, _, rfl, h, r⟩
theorem typedAll_nil {P : Program} {x : List PV} (h : TypedAll P [] x) : x = [] := by cases h; rfl
theorem arg_struct {P : Program} {t : TypeId} {ts : List TypeId} (hf : fieldsAre P t ts = true) {v : AV} (h : ArgT P t v) : ∃ pvs, TypedAll P ts pvs ∧ v = .agg (pvs.map .p) := by
  obtain ⟨fs, hu, rfl⟩ := fieldsAre_ok hf
  cases h with
  | cell hs h => exact absurd hu (hs fs)
  | agg hu' h => rw [hu] at hu'; cases hu'; exact ⟨_, h, rfl⟩
theorem arg_cell {P : Program} {t : TypeId} (hs : ∀ fs, P.underlying t ≠ some (.struct fs)) {v : AV} (h : ArgT P t v) : ∃ p, Typed P t [p] ∧ v = .p p := by
  cases h with
  | cell hs h => exact ⟨_, h, rfl⟩
  | agg hu' h => exact absurd hu' (hs _)
theorem rows_of {α : Type} {Q : α → Prop} {e : α → List PV} : ∀ (es : List (List PV)), (∀ y ∈ es, ∃ a, Q a ∧ y = e a) → ∃ as : List α, (∀ a ∈ as, Q a) ∧ es = as.map e ∧ as.length = es.length
  | [], _ => ⟨[], fun _ h => by simp at h, rfl, rfl⟩
  | x :: es, h => by
    obtain ⟨a, ha, rfl⟩ := h x (by simp)
    obtain ⟨as, h1, rfl, h3⟩ := rows_of es fun y hy => h y (by simp [hy])
    refine ⟨a :: as, fun b hb => ?_, rfl, by simp⟩
    rcases List.mem_cons.1 hb with rfl | hb
    · exact ha
    · exact h1 b hb
theorem args_cons {P : Program} {t : TypeId} {ts : List TypeId} {avs : List AV} (h : ArgsT P (t :: ts) avs) : ∃ v vs, avs = v :: vs ∧ ArgT P t v ∧ ArgsT P ts vs := by
  cases h with
  | cons h r => exact ⟨_, _, rfl, h, r⟩
theorem args_nil {P : Program} {avs : List AV} (h : ArgsT P [] avs) : avs = [] := by cases h; rfl
end Go.Sep
