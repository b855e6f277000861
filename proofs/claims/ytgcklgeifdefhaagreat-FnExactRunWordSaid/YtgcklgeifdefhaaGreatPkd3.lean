/- Texts laid together: Lr0 Tab. -/
import Derived.Test.YtgcklgeifdefhaaGreatPkd2
import Derived.Test.YtgcklgeifdefhaaGreatProg
import Derived.KernelRfl
set_option linter.unusedVariables false
set_option linter.unusedSimpArgs false
open Nat renaming reduceAdd → ν1, reduceLeDiff → ν2, reduceLT → ν3, reduceMul → ν4, reduceSub → ν5
open Int renaming reduceToNat → ι1, reduceSub → ι2, reduceAdd → ι3, reduceNeg → ι4
open Array renaming toList → ι5
open Ne renaming symm → ν6
open List renaming forall_mem_cons → ν7
namespace Go.Sep
open Go Go.RowKit
def fieldsAre (P : Program) (t : TypeId) (ts : List TypeId) : Bool := match P.underlying t with
  | some (.struct fs) => decide (fs.toList.map (·.type) = ts)
  | _ => false
def intIs (P : Program) (t : TypeId) (k : IntKind) : Bool := match P.underlying t with
  | some (.int k') => decide (k' = k)
  | _ => false
def sliceIs (P : Program) (t e : TypeId) : Bool := match P.underlying t with
  | some (.slice e') => decide (e' = e)
  | _ => false
theorem fieldsAre_ok {P : Program} {t : TypeId} {ts : List TypeId} (h : fieldsAre P t ts = true) : ∃ fs, P.underlying t = some (.struct fs) ∧ fs.toList.map (·.type) = ts := by
  unfold fieldsAre at h
  split at h
  · rename_i fs hu; exact ⟨fs, hu, of_decide_eq_true h⟩
  · cases h
theorem intIs_ok {P : Program} {t : TypeId} {k : IntKind} (h : intIs P t k = true) : P.underlying t = some (.int k) := by
  unfold intIs at h
  split at h
  · rename_i k' hu; rw [hu, of_decide_eq_true h]
  · cases h
theorem sliceIs_ok {P : Program} {t e : TypeId} (h : sliceIs P t e = true) : P.underlying t = some (.slice e) := by
  unfold sliceIs at h
  split at h
  · rename_i k' hu; rw [hu, of_decide_eq_true h]
  · cases h
theorem typed_int {P : Program} {t : TypeId} {k : IntKind} (hi : intIs P t k = true) {x : List PV} (h : Typed P t x) : ∃ n, (Lit.int k n).wf = true ∧ x = [.int k n] := by
  have hu := intIs_ok hi
  cases h with
  | bool h => rw [hu] at h; cases h
  | int h hw => rw [hu] at h; cases h; exact ⟨_, hw, rfl⟩
  | str h _ => rw [hu] at h; cases h
  | sl h _ _ => rw [hu] at h; cases h
  | struct h _ => rw [hu] at h; cases h
theorem typed_slice {P : Program} {t e : TypeId} (hi : sliceIs P t e = true) {x : List PV} (h : Typed P t x) : ∃ es, x = [.sl es] ∧ es.length ≤ 9223372036854775807 ∧ ∀ y ∈ es, Typed P e y := by
  have hu := sliceIs_ok hi
  cases h with
  | bool h => rw [hu] at h; cases h
  | int h hw => rw [hu] at h; cases h
  | str h _ => rw [hu] at h; cases h
  | sl h hl he => rw [hu] at h; cases h; exact ⟨_, rfl, hl, he⟩
  | struct h _ => rw [hu] at h; cases h
theorem typed_fields {P : Program} {t : TypeId} {ts : List TypeId} (hf : fieldsAre P t ts = true) {x : List PV} (h : Typed P t x) : TypedAll P ts x := by
  obtain ⟨fs, hu, rfl⟩ := fieldsAre_ok hf
  cases h with
  | bool h => rw [hu] at h; cases h
  | int h hw => rw [hu] at h; cases h
  | str h _ => rw [hu] at h; cases h
  | sl h hl he => rw [hu] at h; cases h
  | struct h hf => rw [hu] at h; cases h; exact hf
theorem typedAll_cons {P : Program} {t : TypeId} {ts : List TypeId} {x : List PV} (h : TypedAll P (t :: ts) x) : ∃ a b, x = a ++ b ∧ Typed P t a ∧ TypedAll P ts b := by
  cases h with
  | cons h r => exact ⟨_, _, rfl, h, r⟩
theorem typedAll_nil {P : Program} {x : List PV} (h : TypedAll P [] x) : x = [] := by cases h; rfl
theorem arg_struct {P : Program} {t : TypeId} {ts : List TypeId} (hf : fieldsAre P t ts = true) {v : AV} (h : ArgT P t v) : ∃ pvs, TypedAll P ts pvs ∧ v = .agg (pvs.map .p) := by
  obtain ⟨fs, hu, rfl⟩ := fieldsAre_ok hf
  cases h with
  | cell hs h => exact absurd hu (hs fs)
  | agg hu' h => rw [hu] at hu'; cases hu'; exact ⟨_, h, rfl⟩
theorem arg_cell {P : Program} {t : TypeId} (hs : ∀ fs, P.underlying t ≠ some (.struct fs)) {v : AV} (h : ArgT P t v) : ∃ p, Typed P t [p] ∧ v = .p p := by
  cases h with
  | cell hs h => exact ⟨_, h, rfl⟩
  | agg hu' h => exact absurd hu' (hs _)
theorem rows_of {α : Type} {Q : α → Prop} {e : α → List PV} : ∀ (es : List (List PV)), (∀ y ∈ es, ∃ a, Q a ∧ y = e a) → ∃ az : List α, (∀ a ∈ az, Q a) ∧ es = az.map e ∧ az.length = es.length
  | [], _ => ⟨[], fun _ h => by simp at h, rfl, rfl⟩
  | x :: es, h => by
    obtain ⟨a, ha, rfl⟩ := h x (by simp)
    obtain ⟨az, h1, rfl, h3⟩ := rows_of es fun y hy => h y (by simp [hy])
    refine ⟨a :: az, fun b hb => ?_, rfl, by simp⟩
    rcases List.mem_cons.1 hb with rfl | hb
    · exact ha
    · exact h1 b hb
theorem args_cons {P : Program} {t : TypeId} {ts : List TypeId} {avs : List AV} (h : ArgsT P (t :: ts) avs) : ∃ v vs, avs = v :: vs ∧ ArgT P t v ∧ ArgsT P ts vs := by
  cases h with
  | cons h r => exact ⟨_, _, rfl, h, r⟩
theorem args_nil {P : Program} {avs : List AV} (h : ArgsT P [] avs) : avs = [] := by cases h; rfl
end Go.Sep
namespace Go.Proofs.YtgcklgeifdefhaaGreat
open Go Go.Sep
def td1 : TD := ⟨.func, 1, 8, [.nilfn]⟩
def td2 : TD := ⟨.int .i64, 1, 8, [(.p (.int .i64 0))]⟩
def td3 : TD := ⟨.int .i64, 1, 8, [(.p (.int .i64 0))]⟩
def td4 : TD := ⟨.bool, 1, 1, [(.p (.bool false))]⟩
def td5 : TD := ⟨.int .u8, 1, 1, [(.p (.int .u8 0))]⟩
def td6 : TD := ⟨.int .u8, 1, 1, [(.p (.int .u8 0))]⟩
def td9 : TD := ⟨.str, 1, 16, [(.p (.str ⟨#[]⟩))]⟩
def td10 : TD := ⟨.str, 1, 16, [(.p (.str ⟨#[]⟩))]⟩
def td11 : TD := ⟨.str, 1, 16, [(.p (.str ⟨#[]⟩))]⟩
def td12 : TD := ⟨.int .u64, 1, 8, [(.p (.int .u64 0))]⟩
def td15 : TD := ⟨.ptr 236, 1, 8, [.nilp]⟩
def td16 : TD := ⟨.ptr 239, 1, 8, [.nilp]⟩
def td17 : TD := ⟨.ptr 247, 1, 8, [.nilp]⟩
def td21 : TD := ⟨.int .i32, 1, 4, [(.p (.int .i32 0))]⟩
def td22 : TD := ⟨.slice 160, 1, 24, [(.p .nil)]⟩
def td23 : TD := ⟨.slice 147, 1, 24, [(.p .nil)]⟩
def td24 : TD := ⟨.struct [(0, 3), (1, 3), (2, 22), (3, 23)], 4, 64, [(.p (.int .i64 0)), (.p (.int .i64 0)), (.p .nil), (.p .nil)]⟩
def td25 : TD := ⟨.struct [(0, 3), (1, 3), (2, 22), (3, 23)], 4, 64, [(.p (.int .i64 0)), (.p (.int .i64 0)), (.p .nil), (.p .nil)]⟩
def td26 : TD := ⟨.slice 22, 1, 24, [(.p .nil)]⟩
def td27 : TD := ⟨.slice 108, 1, 24, [(.p .nil)]⟩
def td28 : TD := ⟨.struct [(0, 25), (4, 26), (5, 27)], 6, 112, [(.p (.int .i64 0)), (.p (.int .i64 0)), (.p .nil), (.p .nil), (.p .nil), (.p .nil)]⟩
def td29 : TD := ⟨.struct [(0, 25), (4, 26), (5, 27)], 6, 112, [(.p (.int .i64 0)), (.p (.int .i64 0)), (.p .nil), (.p .nil), (.p .nil), (.p .nil)]⟩
def td30 : TD := ⟨.func, 1, 8, [.nilfn]⟩
def td31 : TD := ⟨.func, 1, 8, [.nilfn]⟩
def td32 : TD := ⟨.slice 155, 1, 24, [(.p .nil)]⟩
def td33 : TD := ⟨.slice 150, 1, 24, [(.p .nil)]⟩
def td34 : TD := ⟨.struct [(0, 3), (1, 3), (2, 32), (3, 33)], 4, 64, [(.p (.int .i64 0)), (.p (.int .i64 0)), (.p .nil), (.p .nil)]⟩
def td35 : TD := ⟨.struct [(0, 3), (1, 3), (2, 32), (3, 33)], 4, 64, [(.p (.int .i64 0)), (.p (.int .i64 0)), (.p .nil), (.p .nil)]⟩
def td36 : TD := ⟨.slice 32, 1, 24, [(.p .nil)]⟩
def td37 : TD := ⟨.slice 106, 1, 24, [(.p .nil)]⟩
def td38 : TD := ⟨.struct [(0, 35), (4, 36), (5, 37)], 6, 112, [(.p (.int .i64 0)), (.p (.int .i64 0)), (.p .nil), (.p .nil), (.p .nil), (.p .nil)]⟩
def td39 : TD := ⟨.struct [(0, 35), (4, 36), (5, 37)], 6, 112, [(.p (.int .i64 0)), (.p (.int .i64 0)), (.p .nil), (.p .nil), (.p .nil), (.p .nil)]⟩
def td40 : TD := ⟨.func, 1, 8, [.nilfn]⟩
def td41 : TD := ⟨.func, 1, 8, [.nilfn]⟩
def td42 : TD := ⟨.func, 1, 8, [.nilfn]⟩
def td44 : TD := ⟨.func, 1, 8, [.nilfn]⟩
def td45 : TD := ⟨.func, 1, 8, [.nilfn]⟩
def td46 : TD := ⟨.slice 3, 1, 24, [(.p .nil)]⟩
def td48 : TD := ⟨.func, 1, 8, [.nilfn]⟩
def td49 : TD := ⟨.func, 1, 8, [.nilfn]⟩
def td50 : TD := ⟨.func, 1, 8, [.nilfn]⟩
def td51 : TD := ⟨.func, 1, 8, [.nilfn]⟩
def td52 : TD := ⟨.struct [(0, 46), (1, 46)], 2, 48, [(.p .nil), (.p .nil)]⟩
def td53 : TD := ⟨.struct [(0, 46), (1, 46)], 2, 48, [(.p .nil), (.p .nil)]⟩
def td55 : TD := ⟨.func, 1, 8, [.nilfn]⟩
def td56 : TD := ⟨.func, 1, 8, [.nilfn]⟩
def td57 : TD := ⟨.func, 1, 8, [.nilfn]⟩
def td58 : TD := ⟨.func, 1, 8, [.nilfn]⟩
def td59 : TD := ⟨.func, 1, 8, [.nilfn]⟩
def td60 : TD := ⟨.slice 46, 1, 24, [(.p .nil)]⟩
def td61 : TD := ⟨.struct [(0, 60)], 1, 24, [(.p .nil)]⟩
def td62 : TD := ⟨.struct [(0, 60)], 1, 24, [(.p .nil)]⟩
def td64 : TD := ⟨.func, 1, 8, [.nilfn]⟩
def td65 : TD := ⟨.func, 1, 8, [.nilfn]⟩
def td66 : TD := ⟨.func, 1, 8, [.nilfn]⟩
def td67 : TD := ⟨.func, 1, 8, [.nilfn]⟩
def td68 : TD := ⟨.func, 1, 8, [.nilfn]⟩
def td69 : TD := ⟨.func, 1, 8, [.nilfn]⟩
def td70 : TD := ⟨.func, 1, 8, [.nilfn]⟩
def td71 : TD := ⟨.func, 1, 8, [.nilfn]⟩
def td72 : TD := ⟨.func, 1, 8, [.nilfn]⟩
def td73 : TD := ⟨.func, 1, 8, [.nilfn]⟩
def td74 : TD := ⟨.func, 1, 8, [.nilfn]⟩
def td75 : TD := ⟨.func, 1, 8, [.nilfn]⟩
def td76 : TD := ⟨.func, 1, 8, [.nilfn]⟩
def td77 : TD := ⟨.func, 1, 8, [.nilfn]⟩
def td78 : TD := ⟨.func, 1, 8, [.nilfn]⟩
def td79 : TD := ⟨.func, 1, 8, [.nilfn]⟩
def td80 : TD := ⟨.func, 1, 8, [.nilfn]⟩
def td81 : TD := ⟨.func, 1, 8, [.nilfn]⟩
def td82 : TD := ⟨.func, 1, 8, [.nilfn]⟩
def td83 : TD := ⟨.func, 1, 8, [.nilfn]⟩
def td84 : TD := ⟨.func, 1, 8, [.nilfn]⟩
def td85 : TD := ⟨.func, 1, 8, [.nilfn]⟩
def td86 : TD := ⟨.func, 1, 8, [.nilfn]⟩
def td87 : TD := ⟨.func, 1, 8, [.nilfn]⟩
def td88 : TD := ⟨.func, 1, 8, [.nilfn]⟩
def td89 : TD := ⟨.func, 1, 8, [.nilfn]⟩
def td90 : TD := ⟨.func, 1, 8, [.nilfn]⟩
def td91 : TD := ⟨.func, 1, 8, [.nilfn]⟩
def td92 : TD := ⟨.func, 1, 8, [.nilfn]⟩
def td94 : TD := ⟨.func, 1, 8, [.nilfn]⟩
def td95 : TD := ⟨.func, 1, 8, [.nilfn]⟩
def td96 : TD := ⟨.func, 1, 8, [.nilfn]⟩
def td97 : TD := ⟨.func, 1, 8, [.nilfn]⟩
def td98 : TD := ⟨.func, 1, 8, [.nilfn]⟩
def td99 : TD := ⟨.func, 1, 8, [.nilfn]⟩
def td100 : TD := ⟨.func, 1, 8, [.nilfn]⟩
def td101 : TD := ⟨.func, 1, 8, [.nilfn]⟩
def td102 : TD := ⟨.func, 1, 8, [.nilfn]⟩
def td103 : TD := ⟨.func, 1, 8, [.nilfn]⟩
def td104 : TD := ⟨.func, 1, 8, [.nilfn]⟩
def td105 : TD := ⟨.struct [(0, 3), (1, 3)], 2, 16, [(.p (.int .i64 0)), (.p (.int .i64 0))]⟩
def td106 : TD := ⟨.struct [(0, 3), (1, 3)], 2, 16, [(.p (.int .i64 0)), (.p (.int .i64 0))]⟩
def td107 : TD := ⟨.func, 1, 8, [.nilfn]⟩
def td108 : TD := ⟨.struct [(0, 3), (1, 3)], 2, 16, [(.p (.int .i64 0)), (.p (.int .i64 0))]⟩
def td109 : TD := ⟨.func, 1, 8, [.nilfn]⟩
def td110 : TD := ⟨.func, 1, 8, [.nilfn]⟩
def td111 : TD := ⟨.func, 1, 8, [.nilfn]⟩
def td112 : TD := ⟨.func, 1, 8, [.nilfn]⟩
def td113 : TD := ⟨.func, 1, 8, [.nilfn]⟩
def td114 : TD := ⟨.int .u64, 1, 8, [(.p (.int .u64 0))]⟩
def td115 : TD := ⟨.func, 1, 8, [.nilfn]⟩
def td116 : TD := ⟨.slice 153, 1, 24, [(.p .nil)]⟩
def td117 : TD := ⟨.func, 1, 8, [.nilfn]⟩
def td118 : TD := ⟨.func, 1, 8, [.nilfn]⟩
def td119 : TD := ⟨.func, 1, 8, [.nilfn]⟩
def td120 : TD := ⟨.func, 1, 8, [.nilfn]⟩
def td121 : TD := ⟨.func, 1, 8, [.nilfn]⟩
def td122 : TD := ⟨.func, 1, 8, [.nilfn]⟩
def td123 : TD := ⟨.func, 1, 8, [.nilfn]⟩
def td124 : TD := ⟨.func, 1, 8, [.nilfn]⟩
def td125 : TD := ⟨.func, 1, 8, [.nilfn]⟩
def td126 : TD := ⟨.func, 1, 8, [.nilfn]⟩
def td127 : TD := ⟨.func, 1, 8, [.nilfn]⟩
def td128 : TD := ⟨.func, 1, 8, [.nilfn]⟩
def td129 : TD := ⟨.func, 1, 8, [.nilfn]⟩
def td130 : TD := ⟨.slice 135, 1, 24, [(.p .nil)]⟩
def td131 : TD := ⟨.struct [(0, 3), (1, 46), (2, 130), (3, 60)], 4, 80, [(.p (.int .i64 0)), (.p .nil), (.p .nil), (.p .nil)]⟩
def td132 : TD := ⟨.struct [(0, 3), (1, 46), (2, 130), (3, 60)], 4, 80, [(.p (.int .i64 0)), (.p .nil), (.p .nil), (.p .nil)]⟩
def td133 : TD := ⟨.func, 1, 8, [.nilfn]⟩
def td134 : TD := ⟨.struct [(0, 3), (1, 3), (2, 3)], 3, 24, [(.p (.int .i64 0)), (.p (.int .i64 0)), (.p (.int .i64 0))]⟩
def td135 : TD := ⟨.struct [(0, 3), (1, 3), (2, 3)], 3, 24, [(.p (.int .i64 0)), (.p (.int .i64 0)), (.p (.int .i64 0))]⟩
def td136 : TD := ⟨.func, 1, 8, [.nilfn]⟩
def td137 : TD := ⟨.func, 1, 8, [.nilfn]⟩
def td138 : TD := ⟨.func, 1, 8, [.nilfn]⟩
def td139 : TD := ⟨.func, 1, 8, [.nilfn]⟩
def td140 : TD := ⟨.func, 1, 8, [.nilfn]⟩
def td141 : TD := ⟨.func, 1, 8, [.nilfn]⟩
def td142 : TD := ⟨.func, 1, 8, [.nilfn]⟩
def td143 : TD := ⟨.func, 1, 8, [.nilfn]⟩
def td144 : TD := ⟨.func, 1, 8, [.nilfn]⟩
def td145 : TD := ⟨.slice 201, 1, 24, [(.p .nil)]⟩
def td146 : TD := ⟨.struct [(0, 22), (1, 145)], 2, 48, [(.p .nil), (.p .nil)]⟩
def td147 : TD := ⟨.struct [(0, 22), (1, 145)], 2, 48, [(.p .nil), (.p .nil)]⟩
def td148 : TD := ⟨.slice 188, 1, 24, [(.p .nil)]⟩
def td149 : TD := ⟨.struct [(0, 32), (1, 148)], 2, 48, [(.p .nil), (.p .nil)]⟩
def td150 : TD := ⟨.struct [(0, 32), (1, 148)], 2, 48, [(.p .nil), (.p .nil)]⟩
def td151 : TD := ⟨.func, 1, 8, [.nilfn]⟩
def td152 : TD := ⟨.func, 1, 8, [.nilfn]⟩
def td153 : TD := ⟨.int .u64, 1, 8, [(.p (.int .u64 0))]⟩
def td154 : TD := ⟨.struct [(0, 3), (1, 153)], 2, 16, [(.p (.int .i64 0)), (.p (.int .u64 0))]⟩
def td155 : TD := ⟨.struct [(0, 3), (1, 153)], 2, 16, [(.p (.int .i64 0)), (.p (.int .u64 0))]⟩
def td157 : TD := ⟨.func, 1, 8, [.nilfn]⟩
def td158 : TD := ⟨.func, 1, 8, [.nilfn]⟩
def td159 : TD := ⟨.func, 1, 8, [.nilfn]⟩
def td160 : TD := ⟨.struct [(0, 3), (1, 153)], 2, 16, [(.p (.int .i64 0)), (.p (.int .u64 0))]⟩
def td161 : TD := ⟨.func, 1, 8, [.nilfn]⟩
def td162 : TD := ⟨.func, 1, 8, [.nilfn]⟩
def td163 : TD := ⟨.func, 1, 8, [.nilfn]⟩
def td164 : TD := ⟨.func, 1, 8, [.nilfn]⟩
def td165 : TD := ⟨.func, 1, 8, [.nilfn]⟩
def td166 : TD := ⟨.func, 1, 8, [.nilfn]⟩
def td167 : TD := ⟨.func, 1, 8, [.nilfn]⟩
def td168 : TD := ⟨.func, 1, 8, [.nilfn]⟩
def td169 : TD := ⟨.func, 1, 8, [.nilfn]⟩
def td170 : TD := ⟨.func, 1, 8, [.nilfn]⟩
def td171 : TD := ⟨.func, 1, 8, [.nilfn]⟩
def td172 : TD := ⟨.func, 1, 8, [.nilfn]⟩
def td173 : TD := ⟨.func, 1, 8, [.nilfn]⟩
def td174 : TD := ⟨.func, 1, 8, [.nilfn]⟩
def td175 : TD := ⟨.func, 1, 8, [.nilfn]⟩
def td176 : TD := ⟨.func, 1, 8, [.nilfn]⟩
def td177 : TD := ⟨.func, 1, 8, [.nilfn]⟩
def td178 : TD := ⟨.func, 1, 8, [.nilfn]⟩
def td179 : TD := ⟨.func, 1, 8, [.nilfn]⟩
def td180 : TD := ⟨.func, 1, 8, [.nilfn]⟩
def td181 : TD := ⟨.func, 1, 8, [.nilfn]⟩
def td182 : TD := ⟨.func, 1, 8, [.nilfn]⟩
def td183 : TD := ⟨.slice 4, 1, 24, [(.p .nil)]⟩
def td184 : TD := ⟨.func, 1, 8, [.nilfn]⟩
def td185 : TD := ⟨.func, 1, 8, [.nilfn]⟩
def td186 : TD := ⟨.func, 1, 8, [.nilfn]⟩
def td187 : TD := ⟨.struct [(0, 3), (1, 32)], 2, 32, [(.p (.int .i64 0)), (.p .nil)]⟩
def td188 : TD := ⟨.struct [(0, 3), (1, 32)], 2, 32, [(.p (.int .i64 0)), (.p .nil)]⟩
def td189 : TD := ⟨.func, 1, 8, [.nilfn]⟩
def td190 : TD := ⟨.func, 1, 8, [.nilfn]⟩
def td191 : TD := ⟨.func, 1, 8, [.nilfn]⟩
def td192 : TD := ⟨.func, 1, 8, [.nilfn]⟩
def td193 : TD := ⟨.func, 1, 8, [.nilfn]⟩
def td194 : TD := ⟨.func, 1, 8, [.nilfn]⟩
def td195 : TD := ⟨.func, 1, 8, [.nilfn]⟩
def td196 : TD := ⟨.func, 1, 8, [.nilfn]⟩
def td197 : TD := ⟨.func, 1, 8, [.nilfn]⟩
def td198 : TD := ⟨.func, 1, 8, [.nilfn]⟩
def td199 : TD := ⟨.func, 1, 8, [.nilfn]⟩
def td200 : TD := ⟨.struct [(0, 3), (1, 22)], 2, 32, [(.p (.int .i64 0)), (.p .nil)]⟩
def td201 : TD := ⟨.struct [(0, 3), (1, 22)], 2, 32, [(.p (.int .i64 0)), (.p .nil)]⟩
def td202 : TD := ⟨.func, 1, 8, [.nilfn]⟩
def td203 : TD := ⟨.func, 1, 8, [.nilfn]⟩
def td204 : TD := ⟨.int .i64, 1, 8, [(.p (.int .i64 0))]⟩
def td206 : TD := ⟨.func, 1, 8, [.nilfn]⟩
def td207 : TD := ⟨.func, 1, 8, [.nilfn]⟩
def td208 : TD := ⟨.func, 1, 8, [.nilfn]⟩
def td209 : TD := ⟨.func, 1, 8, [.nilfn]⟩
def td210 : TD := ⟨.func, 1, 8, [.nilfn]⟩
def td211 : TD := ⟨.int .u32, 1, 4, [(.p (.int .u32 0))]⟩
def td212 : TD := ⟨.func, 1, 8, [.nilfn]⟩
def td213 : TD := ⟨.func, 1, 8, [.nilfn]⟩
def td215 : TD := ⟨.func, 1, 8, [.nilfn]⟩
def td216 : TD := ⟨.func, 1, 8, [.nilfn]⟩
def td217 : TD := ⟨.func, 1, 8, [.nilfn]⟩
def td218 : TD := ⟨.func, 1, 8, [.nilfn]⟩
def td219 : TD := ⟨.int .u64, 1, 8, [(.p (.int .u64 0))]⟩
def td220 : TD := ⟨.func, 1, 8, [.nilfn]⟩
def td221 : TD := ⟨.func, 1, 8, [.nilfn]⟩
def td222 : TD := ⟨.func, 1, 8, [.nilfn]⟩
def td223 : TD := ⟨.ptr 3, 1, 8, [.nilp]⟩
def td224 : TD := ⟨.func, 1, 8, [.nilfn]⟩
def td225 : TD := ⟨.func, 1, 8, [.nilfn]⟩
def td227 : TD := ⟨.func, 1, 8, [.nilfn]⟩
def td228 : TD := ⟨.ptr 219, 1, 8, [.nilp]⟩
def td230 : TD := ⟨.func, 1, 8, [.nilfn]⟩
def td233 : TD := ⟨.ptr 250, 1, 8, [.nilp]⟩
def td234 : TD := ⟨.func, 1, 8, [.nilfn]⟩
def td240 : TD := ⟨.int .u8, 1, 1, [(.p (.int .u8 0))]⟩
def td241 : TD := ⟨.int .u8, 1, 1, [(.p (.int .u8 0))]⟩
def td242 : TD := ⟨.func, 1, 8, [.nilfn]⟩
def td243 : TD := ⟨.ptr 5, 1, 8, [.nilp]⟩
def td244 : TD := ⟨.int .i32, 1, 4, [(.p (.int .i32 0))]⟩
def td245 : TD := ⟨.int .i32, 1, 4, [(.p (.int .i32 0))]⟩
def td248 : TD := ⟨.func, 1, 8, [.nilfn]⟩
def td249 : TD := ⟨.struct [(0, 9)], 1, 16, [(.p (.str ⟨#[]⟩))]⟩
def td250 : TD := ⟨.struct [(0, 9)], 1, 16, [(.p (.str ⟨#[]⟩))]⟩
def tabL : List (Nat × TD) := [(1, td1), (2, td2), (3, td3), (4, td4), (5, td5), (6, td6), (9, td9), (10, td10), (11, td11), (12, td12), (15, td15), (16, td16), (17, td17), (21, td21), (22, td22), (23, td23), (24, td24), (25, td25), (26, td26), (27, td27), (28, td28), (29, td29), (30, td30), (31, td31), (32, td32), (33, td33), (34, td34), (35, td35), (36, td36), (37, td37), (38, td38), (39, td39), (40, td40), (41, td41), (42, td42), (44, td44), (45, td45), (46, td46), (48, td48), (49, td49), (50, td50), (51, td51), (52, td52), (53, td53), (55, td55), (56, td56), (57, td57), (58, td58), (59, td59), (60, td60), (61, td61), (62, td62), (64, td64), (65, td65), (66, td66), (67, td67), (68, td68), (69, td69), (70, td70), (71, td71), (72, td72), (73, td73), (74, td74), (75, td75), (76, td76), (77, td77), (78, td78), (79, td79), (80, td80), (81, td81), (82, td82), (83, td83), (84, td84), (85, td85), (86, td86), (87, td87), (88, td88), (89, td89), (90, td90), (91, td91), (92, td92), (94, td94), (95, td95), (96, td96), (97, td97), (98, td98), (99, td99), (100, td100), (101, td101), (102, td102), (103, td103), (104, td104), (105, td105), (106, td106), (107, td107), (108, td108), (109, td109), (110, td110), (111, td111), (112, td112), (113, td113), (114, td114), (115, td115), (116, td116), (117, td117), (118, td118), (119, td119), (120, td120), (121, td121), (122, td122), (123, td123), (124, td124), (125, td125), (126, td126), (127, td127), (128, td128), (129, td129), (130, td130), (131, td131), (132, td132), (133, td133), (134, td134), (135, td135), (136, td136), (137, td137), (138, td138), (139, td139), (140, td140), (141, td141), (142, td142), (143, td143), (144, td144), (145, td145), (146, td146), (147, td147), (148, td148), (149, td149), (150, td150), (151, td151), (152, td152), (153, td153), (154, td154), (155, td155), (157, td157), (158, td158), (159, td159), (160, td160), (161, td161), (162, td162), (163, td163), (164, td164), (165, td165), (166, td166), (167, td167), (168, td168), (169, td169), (170, td170), (171, td171), (172, td172), (173, td173), (174, td174), (175, td175), (176, td176), (177, td177), (178, td178), (179, td179), (180, td180), (181, td181), (182, td182), (183, td183), (184, td184), (185, td185), (186, td186), (187, td187), (188, td188), (189, td189), (190, td190), (191, td191), (192, td192), (193, td193), (194, td194), (195, td195), (196, td196), (197, td197), (198, td198), (199, td199), (200, td200), (201, td201), (202, td202), (203, td203), (204, td204), (206, td206), (207, td207), (208, td208), (209, td209), (210, td210), (211, td211), (212, td212), (213, td213), (215, td215), (216, td216), (217, td217), (218, td218), (219, td219), (220, td220), (221, td221), (222, td222), (223, td223), (224, td224), (225, td225), (227, td227), (228, td228), (230, td230), (233, td233), (234, td234), (240, td240), (241, td241), (242, td242), (243, td243), (244, td244), (245, td245), (248, td248), (249, td249), (250, td250)]
def tab : Tab := fun t => (tabL.find? (fun p => p.1 == t)).map (·.2)
theorem tab_1 : tab 1 = some ⟨.func, 1, 8, [.nilfn]⟩ := rfl
theorem tab_2 : tab 2 = some ⟨.int .i64, 1, 8, [(.p (.int .i64 0))]⟩ := rfl
theorem tab_3 : tab 3 = some ⟨.int .i64, 1, 8, [(.p (.int .i64 0))]⟩ := rfl
theorem tab_4 : tab 4 = some ⟨.bool, 1, 1, [(.p (.bool false))]⟩ := rfl
theorem tab_5 : tab 5 = some ⟨.int .u8, 1, 1, [(.p (.int .u8 0))]⟩ := rfl
theorem tab_6 : tab 6 = some ⟨.int .u8, 1, 1, [(.p (.int .u8 0))]⟩ := rfl
theorem tab_9 : tab 9 = some ⟨.str, 1, 16, [(.p (.str ⟨#[]⟩))]⟩ := rfl
theorem tab_10 : tab 10 = some ⟨.str, 1, 16, [(.p (.str ⟨#[]⟩))]⟩ := rfl
theorem tab_11 : tab 11 = some ⟨.str, 1, 16, [(.p (.str ⟨#[]⟩))]⟩ := rfl
theorem tab_12 : tab 12 = some ⟨.int .u64, 1, 8, [(.p (.int .u64 0))]⟩ := rfl
theorem tab_15 : tab 15 = some ⟨.ptr 236, 1, 8, [.nilp]⟩ := rfl
theorem tab_16 : tab 16 = some ⟨.ptr 239, 1, 8, [.nilp]⟩ := rfl
theorem tab_17 : tab 17 = some ⟨.ptr 247, 1, 8, [.nilp]⟩ := rfl
theorem tab_21 : tab 21 = some ⟨.int .i32, 1, 4, [(.p (.int .i32 0))]⟩ := rfl
theorem tab_22 : tab 22 = some ⟨.slice 160, 1, 24, [(.p .nil)]⟩ := rfl
theorem tab_23 : tab 23 = some ⟨.slice 147, 1, 24, [(.p .nil)]⟩ := rfl
theorem tab_24 : tab 24 = some ⟨.struct [(0, 3), (1, 3), (2, 22), (3, 23)], 4, 64, [(.p (.int .i64 0)), (.p (.int .i64 0)), (.p .nil), (.p .nil)]⟩ := rfl
theorem tab_25 : tab 25 = some ⟨.struct [(0, 3), (1, 3), (2, 22), (3, 23)], 4, 64, [(.p (.int .i64 0)), (.p (.int .i64 0)), (.p .nil), (.p .nil)]⟩ := rfl
theorem tab_26 : tab 26 = some ⟨.slice 22, 1, 24, [(.p .nil)]⟩ := rfl
theorem tab_27 : tab 27 = some ⟨.slice 108, 1, 24, [(.p .nil)]⟩ := rfl
theorem tab_28 : tab 28 = some ⟨.struct [(0, 25), (4, 26), (5, 27)], 6, 112, [(.p (.int .i64 0)), (.p (.int .i64 0)), (.p .nil), (.p .nil), (.p .nil), (.p .nil)]⟩ := rfl
theorem tab_29 : tab 29 = some ⟨.struct [(0, 25), (4, 26), (5, 27)], 6, 112, [(.p (.int .i64 0)), (.p (.int .i64 0)), (.p .nil), (.p .nil), (.p .nil), (.p .nil)]⟩ := rfl
theorem tab_30 : tab 30 = some ⟨.func, 1, 8, [.nilfn]⟩ := rfl
theorem tab_31 : tab 31 = some ⟨.func, 1, 8, [.nilfn]⟩ := rfl
theorem tab_32 : tab 32 = some ⟨.slice 155, 1, 24, [(.p .nil)]⟩ := rfl
theorem tab_33 : tab 33 = some ⟨.slice 150, 1, 24, [(.p .nil)]⟩ := rfl
theorem tab_34 : tab 34 = some ⟨.struct [(0, 3), (1, 3), (2, 32), (3, 33)], 4, 64, [(.p (.int .i64 0)), (.p (.int .i64 0)), (.p .nil), (.p .nil)]⟩ := rfl
theorem tab_35 : tab 35 = some ⟨.struct [(0, 3), (1, 3), (2, 32), (3, 33)], 4, 64, [(.p (.int .i64 0)), (.p (.int .i64 0)), (.p .nil), (.p .nil)]⟩ := rfl
theorem tab_36 : tab 36 = some ⟨.slice 32, 1, 24, [(.p .nil)]⟩ := rfl
theorem tab_37 : tab 37 = some ⟨.slice 106, 1, 24, [(.p .nil)]⟩ := rfl
theorem tab_38 : tab 38 = some ⟨.struct [(0, 35), (4, 36), (5, 37)], 6, 112, [(.p (.int .i64 0)), (.p (.int .i64 0)), (.p .nil), (.p .nil), (.p .nil), (.p .nil)]⟩ := rfl
theorem tab_39 : tab 39 = some ⟨.struct [(0, 35), (4, 36), (5, 37)], 6, 112, [(.p (.int .i64 0)), (.p (.int .i64 0)), (.p .nil), (.p .nil), (.p .nil), (.p .nil)]⟩ := rfl
theorem tab_40 : tab 40 = some ⟨.func, 1, 8, [.nilfn]⟩ := rfl
theorem tab_41 : tab 41 = some ⟨.func, 1, 8, [.nilfn]⟩ := rfl
theorem tab_42 : tab 42 = some ⟨.func, 1, 8, [.nilfn]⟩ := rfl
theorem tab_44 : tab 44 = some ⟨.func, 1, 8, [.nilfn]⟩ := rfl
theorem tab_45 : tab 45 = some ⟨.func, 1, 8, [.nilfn]⟩ := rfl
theorem tab_46 : tab 46 = some ⟨.slice 3, 1, 24, [(.p .nil)]⟩ := rfl
theorem tab_48 : tab 48 = some ⟨.func, 1, 8, [.nilfn]⟩ := rfl
theorem tab_49 : tab 49 = some ⟨.func, 1, 8, [.nilfn]⟩ := rfl
theorem tab_50 : tab 50 = some ⟨.func, 1, 8, [.nilfn]⟩ := rfl
theorem tab_51 : tab 51 = some ⟨.func, 1, 8, [.nilfn]⟩ := rfl
theorem tab_52 : tab 52 = some ⟨.struct [(0, 46), (1, 46)], 2, 48, [(.p .nil), (.p .nil)]⟩ := rfl
theorem tab_53 : tab 53 = some ⟨.struct [(0, 46), (1, 46)], 2, 48, [(.p .nil), (.p .nil)]⟩ := rfl
theorem tab_55 : tab 55 = some ⟨.func, 1, 8, [.nilfn]⟩ := rfl
theorem tab_56 : tab 56 = some ⟨.func, 1, 8, [.nilfn]⟩ := rfl
theorem tab_57 : tab 57 = some ⟨.func, 1, 8, [.nilfn]⟩ := rfl
theorem tab_58 : tab 58 = some ⟨.func, 1, 8, [.nilfn]⟩ := rfl
theorem tab_59 : tab 59 = some ⟨.func, 1, 8, [.nilfn]⟩ := rfl
theorem tab_60 : tab 60 = some ⟨.slice 46, 1, 24, [(.p .nil)]⟩ := rfl
theorem tab_61 : tab 61 = some ⟨.struct [(0, 60)], 1, 24, [(.p .nil)]⟩ := rfl
theorem tab_62 : tab 62 = some ⟨.struct [(0, 60)], 1, 24, [(.p .nil)]⟩ := rfl
theorem tab_64 : tab 64 = some ⟨.func, 1, 8, [.nilfn]⟩ := rfl
theorem tab_65 : tab 65 = some ⟨.func, 1, 8, [.nilfn]⟩ := rfl
theorem tab_66 : tab 66 = some ⟨.func, 1, 8, [.nilfn]⟩ := rfl
theorem tab_67 : tab 67 = some ⟨.func, 1, 8, [.nilfn]⟩ := rfl
theorem tab_68 : tab 68 = some ⟨.func, 1, 8, [.nilfn]⟩ := rfl
theorem tab_69 : tab 69 = some ⟨.func, 1, 8, [.nilfn]⟩ := rfl
theorem tab_70 : tab 70 = some ⟨.func, 1, 8, [.nilfn]⟩ := rfl
theorem tab_71 : tab 71 = some ⟨.func, 1, 8, [.nilfn]⟩ := rfl
theorem tab_72 : tab 72 = some ⟨.func, 1, 8, [.nilfn]⟩ := rfl
theorem tab_73 : tab 73 = some ⟨.func, 1, 8, [.nilfn]⟩ := rfl
theorem tab_74 : tab 74 = some ⟨.func, 1, 8, [.nilfn]⟩ := rfl
theorem tab_75 : tab 75 = some ⟨.func, 1, 8, [.nilfn]⟩ := rfl
theorem tab_76 : tab 76 = some ⟨.func, 1, 8, [.nilfn]⟩ := rfl
theorem tab_77 : tab 77 = some ⟨.func, 1, 8, [.nilfn]⟩ := rfl
theorem tab_78 : tab 78 = some ⟨.func, 1, 8, [.nilfn]⟩ := rfl
theorem tab_79 : tab 79 = some ⟨.func, 1, 8, [.nilfn]⟩ := rfl
theorem tab_80 : tab 80 = some ⟨.func, 1, 8, [.nilfn]⟩ := rfl
theorem tab_81 : tab 81 = some ⟨.func, 1, 8, [.nilfn]⟩ := rfl
theorem tab_82 : tab 82 = some ⟨.func, 1, 8, [.nilfn]⟩ := rfl
theorem tab_83 : tab 83 = some ⟨.func, 1, 8, [.nilfn]⟩ := rfl
theorem tab_84 : tab 84 = some ⟨.func, 1, 8, [.nilfn]⟩ := rfl
theorem tab_85 : tab 85 = some ⟨.func, 1, 8, [.nilfn]⟩ := rfl
theorem tab_86 : tab 86 = some ⟨.func, 1, 8, [.nilfn]⟩ := rfl
theorem tab_87 : tab 87 = some ⟨.func, 1, 8, [.nilfn]⟩ := rfl
theorem tab_88 : tab 88 = some ⟨.func, 1, 8, [.nilfn]⟩ := rfl
theorem tab_89 : tab 89 = some ⟨.func, 1, 8, [.nilfn]⟩ := rfl
theorem tab_90 : tab 90 = some ⟨.func, 1, 8, [.nilfn]⟩ := rfl
theorem tab_91 : tab 91 = some ⟨.func, 1, 8, [.nilfn]⟩ := rfl
theorem tab_92 : tab 92 = some ⟨.func, 1, 8, [.nilfn]⟩ := rfl
theorem tab_94 : tab 94 = some ⟨.func, 1, 8, [.nilfn]⟩ := rfl
theorem tab_95 : tab 95 = some ⟨.func, 1, 8, [.nilfn]⟩ := rfl
theorem tab_96 : tab 96 = some ⟨.func, 1, 8, [.nilfn]⟩ := rfl
theorem tab_97 : tab 97 = some ⟨.func, 1, 8, [.nilfn]⟩ := rfl
theorem tab_98 : tab 98 = some ⟨.func, 1, 8, [.nilfn]⟩ := rfl
theorem tab_99 : tab 99 = some ⟨.func, 1, 8, [.nilfn]⟩ := rfl
theorem tab_100 : tab 100 = some ⟨.func, 1, 8, [.nilfn]⟩ := rfl
theorem tab_101 : tab 101 = some ⟨.func, 1, 8, [.nilfn]⟩ := rfl
theorem tab_102 : tab 102 = some ⟨.func, 1, 8, [.nilfn]⟩ := rfl
theorem tab_103 : tab 103 = some ⟨.func, 1, 8, [.nilfn]⟩ := rfl
theorem tab_104 : tab 104 = some ⟨.func, 1, 8, [.nilfn]⟩ := rfl
theorem tab_105 : tab 105 = some ⟨.struct [(0, 3), (1, 3)], 2, 16, [(.p (.int .i64 0)), (.p (.int .i64 0))]⟩ := rfl
theorem tab_106 : tab 106 = some ⟨.struct [(0, 3), (1, 3)], 2, 16, [(.p (.int .i64 0)), (.p (.int .i64 0))]⟩ := rfl
theorem tab_107 : tab 107 = some ⟨.func, 1, 8, [.nilfn]⟩ := rfl
theorem tab_108 : tab 108 = some ⟨.struct [(0, 3), (1, 3)], 2, 16, [(.p (.int .i64 0)), (.p (.int .i64 0))]⟩ := rfl
theorem tab_109 : tab 109 = some ⟨.func, 1, 8, [.nilfn]⟩ := rfl
theorem tab_110 : tab 110 = some ⟨.func, 1, 8, [.nilfn]⟩ := rfl
theorem tab_111 : tab 111 = some ⟨.func, 1, 8, [.nilfn]⟩ := rfl
theorem tab_112 : tab 112 = some ⟨.func, 1, 8, [.nilfn]⟩ := rfl
theorem tab_113 : tab 113 = some ⟨.func, 1, 8, [.nilfn]⟩ := rfl
theorem tab_114 : tab 114 = some ⟨.int .u64, 1, 8, [(.p (.int .u64 0))]⟩ := rfl
theorem tab_115 : tab 115 = some ⟨.func, 1, 8, [.nilfn]⟩ := rfl
theorem tab_116 : tab 116 = some ⟨.slice 153, 1, 24, [(.p .nil)]⟩ := rfl
theorem tab_117 : tab 117 = some ⟨.func, 1, 8, [.nilfn]⟩ := rfl
theorem tab_118 : tab 118 = some ⟨.func, 1, 8, [.nilfn]⟩ := rfl
theorem tab_119 : tab 119 = some ⟨.func, 1, 8, [.nilfn]⟩ := rfl
theorem tab_120 : tab 120 = some ⟨.func, 1, 8, [.nilfn]⟩ := rfl
theorem tab_121 : tab 121 = some ⟨.func, 1, 8, [.nilfn]⟩ := rfl
theorem tab_122 : tab 122 = some ⟨.func, 1, 8, [.nilfn]⟩ := rfl
theorem tab_123 : tab 123 = some ⟨.func, 1, 8, [.nilfn]⟩ := rfl
theorem tab_124 : tab 124 = some ⟨.func, 1, 8, [.nilfn]⟩ := rfl
theorem tab_125 : tab 125 = some ⟨.func, 1, 8, [.nilfn]⟩ := rfl
theorem tab_126 : tab 126 = some ⟨.func, 1, 8, [.nilfn]⟩ := rfl
theorem tab_127 : tab 127 = some ⟨.func, 1, 8, [.nilfn]⟩ := rfl
theorem tab_128 : tab 128 = some ⟨.func, 1, 8, [.nilfn]⟩ := rfl
theorem tab_129 : tab 129 = some ⟨.func, 1, 8, [.nilfn]⟩ := rfl
theorem tab_130 : tab 130 = some ⟨.slice 135, 1, 24, [(.p .nil)]⟩ := rfl
theorem tab_131 : tab 131 = some ⟨.struct [(0, 3), (1, 46), (2, 130), (3, 60)], 4, 80, [(.p (.int .i64 0)), (.p .nil), (.p .nil), (.p .nil)]⟩ := rfl
theorem tab_132 : tab 132 = some ⟨.struct [(0, 3), (1, 46), (2, 130), (3, 60)], 4, 80, [(.p (.int .i64 0)), (.p .nil), (.p .nil), (.p .nil)]⟩ := rfl
theorem tab_133 : tab 133 = some ⟨.func, 1, 8, [.nilfn]⟩ := rfl
theorem tab_134 : tab 134 = some ⟨.struct [(0, 3), (1, 3), (2, 3)], 3, 24, [(.p (.int .i64 0)), (.p (.int .i64 0)), (.p (.int .i64 0))]⟩ := rfl
theorem tab_135 : tab 135 = some ⟨.struct [(0, 3), (1, 3), (2, 3)], 3, 24, [(.p (.int .i64 0)), (.p (.int .i64 0)), (.p (.int .i64 0))]⟩ := rfl
theorem tab_136 : tab 136 = some ⟨.func, 1, 8, [.nilfn]⟩ := rfl
theorem tab_137 : tab 137 = some ⟨.func, 1, 8, [.nilfn]⟩ := rfl
theorem tab_138 : tab 138 = some ⟨.func, 1, 8, [.nilfn]⟩ := rfl
theorem tab_139 : tab 139 = some ⟨.func, 1, 8, [.nilfn]⟩ := rfl
theorem tab_140 : tab 140 = some ⟨.func, 1, 8, [.nilfn]⟩ := rfl
theorem tab_141 : tab 141 = some ⟨.func, 1, 8, [.nilfn]⟩ := rfl
theorem tab_142 : tab 142 = some ⟨.func, 1, 8, [.nilfn]⟩ := rfl
theorem tab_143 : tab 143 = some ⟨.func, 1, 8, [.nilfn]⟩ := rfl
theorem tab_144 : tab 144 = some ⟨.func, 1, 8, [.nilfn]⟩ := rfl
theorem tab_145 : tab 145 = some ⟨.slice 201, 1, 24, [(.p .nil)]⟩ := rfl
theorem tab_146 : tab 146 = some ⟨.struct [(0, 22), (1, 145)], 2, 48, [(.p .nil), (.p .nil)]⟩ := rfl
theorem tab_147 : tab 147 = some ⟨.struct [(0, 22), (1, 145)], 2, 48, [(.p .nil), (.p .nil)]⟩ := rfl
theorem tab_148 : tab 148 = some ⟨.slice 188, 1, 24, [(.p .nil)]⟩ := rfl
theorem tab_149 : tab 149 = some ⟨.struct [(0, 32), (1, 148)], 2, 48, [(.p .nil), (.p .nil)]⟩ := rfl
theorem tab_150 : tab 150 = some ⟨.struct [(0, 32), (1, 148)], 2, 48, [(.p .nil), (.p .nil)]⟩ := rfl
theorem tab_151 : tab 151 = some ⟨.func, 1, 8, [.nilfn]⟩ := rfl
theorem tab_152 : tab 152 = some ⟨.func, 1, 8, [.nilfn]⟩ := rfl
theorem tab_153 : tab 153 = some ⟨.int .u64, 1, 8, [(.p (.int .u64 0))]⟩ := rfl
theorem tab_154 : tab 154 = some ⟨.struct [(0, 3), (1, 153)], 2, 16, [(.p (.int .i64 0)), (.p (.int .u64 0))]⟩ := rfl
theorem tab_155 : tab 155 = some ⟨.struct [(0, 3), (1, 153)], 2, 16, [(.p (.int .i64 0)), (.p (.int .u64 0))]⟩ := rfl
theorem tab_157 : tab 157 = some ⟨.func, 1, 8, [.nilfn]⟩ := rfl
theorem tab_158 : tab 158 = some ⟨.func, 1, 8, [.nilfn]⟩ := rfl
theorem tab_159 : tab 159 = some ⟨.func, 1, 8, [.nilfn]⟩ := rfl
theorem tab_160 : tab 160 = some ⟨.struct [(0, 3), (1, 153)], 2, 16, [(.p (.int .i64 0)), (.p (.int .u64 0))]⟩ := rfl
theorem tab_161 : tab 161 = some ⟨.func, 1, 8, [.nilfn]⟩ := rfl
theorem tab_162 : tab 162 = some ⟨.func, 1, 8, [.nilfn]⟩ := rfl
theorem tab_163 : tab 163 = some ⟨.func, 1, 8, [.nilfn]⟩ := rfl
theorem tab_164 : tab 164 = some ⟨.func, 1, 8, [.nilfn]⟩ := rfl
theorem tab_165 : tab 165 = some ⟨.func, 1, 8, [.nilfn]⟩ := rfl
theorem tab_166 : tab 166 = some ⟨.func, 1, 8, [.nilfn]⟩ := rfl
theorem tab_167 : tab 167 = some ⟨.func, 1, 8, [.nilfn]⟩ := rfl
theorem tab_168 : tab 168 = some ⟨.func, 1, 8, [.nilfn]⟩ := rfl
theorem tab_169 : tab 169 = some ⟨.func, 1, 8, [.nilfn]⟩ := rfl
theorem tab_170 : tab 170 = some ⟨.func, 1, 8, [.nilfn]⟩ := rfl
theorem tab_171 : tab 171 = some ⟨.func, 1, 8, [.nilfn]⟩ := rfl
theorem tab_172 : tab 172 = some ⟨.func, 1, 8, [.nilfn]⟩ := rfl
theorem tab_173 : tab 173 = some ⟨.func, 1, 8, [.nilfn]⟩ := rfl
theorem tab_174 : tab 174 = some ⟨.func, 1, 8, [.nilfn]⟩ := rfl
theorem tab_175 : tab 175 = some ⟨.func, 1, 8, [.nilfn]⟩ := rfl
theorem tab_176 : tab 176 = some ⟨.func, 1, 8, [.nilfn]⟩ := rfl
theorem tab_177 : tab 177 = some ⟨.func, 1, 8, [.nilfn]⟩ := rfl
theorem tab_178 : tab 178 = some ⟨.func, 1, 8, [.nilfn]⟩ := rfl
theorem tab_179 : tab 179 = some ⟨.func, 1, 8, [.nilfn]⟩ := rfl
theorem tab_180 : tab 180 = some ⟨.func, 1, 8, [.nilfn]⟩ := rfl
theorem tab_181 : tab 181 = some ⟨.func, 1, 8, [.nilfn]⟩ := rfl
theorem tab_182 : tab 182 = some ⟨.func, 1, 8, [.nilfn]⟩ := rfl
theorem tab_183 : tab 183 = some ⟨.slice 4, 1, 24, [(.p .nil)]⟩ := rfl
theorem tab_184 : tab 184 = some ⟨.func, 1, 8, [.nilfn]⟩ := rfl
theorem tab_185 : tab 185 = some ⟨.func, 1, 8, [.nilfn]⟩ := rfl
theorem tab_186 : tab 186 = some ⟨.func, 1, 8, [.nilfn]⟩ := rfl
theorem tab_187 : tab 187 = some ⟨.struct [(0, 3), (1, 32)], 2, 32, [(.p (.int .i64 0)), (.p .nil)]⟩ := rfl
theorem tab_188 : tab 188 = some ⟨.struct [(0, 3), (1, 32)], 2, 32, [(.p (.int .i64 0)), (.p .nil)]⟩ := rfl
theorem tab_189 : tab 189 = some ⟨.func, 1, 8, [.nilfn]⟩ := rfl
theorem tab_190 : tab 190 = some ⟨.func, 1, 8, [.nilfn]⟩ := rfl
theorem tab_191 : tab 191 = some ⟨.func, 1, 8, [.nilfn]⟩ := rfl
theorem tab_192 : tab 192 = some ⟨.func, 1, 8, [.nilfn]⟩ := rfl
theorem tab_193 : tab 193 = some ⟨.func, 1, 8, [.nilfn]⟩ := rfl
theorem tab_194 : tab 194 = some ⟨.func, 1, 8, [.nilfn]⟩ := rfl
theorem tab_195 : tab 195 = some ⟨.func, 1, 8, [.nilfn]⟩ := rfl
theorem tab_196 : tab 196 = some ⟨.func, 1, 8, [.nilfn]⟩ := rfl
theorem tab_197 : tab 197 = some ⟨.func, 1, 8, [.nilfn]⟩ := rfl
theorem tab_198 : tab 198 = some ⟨.func, 1, 8, [.nilfn]⟩ := rfl
theorem tab_199 : tab 199 = some ⟨.func, 1, 8, [.nilfn]⟩ := rfl
theorem tab_200 : tab 200 = some ⟨.struct [(0, 3), (1, 22)], 2, 32, [(.p (.int .i64 0)), (.p .nil)]⟩ := rfl
theorem tab_201 : tab 201 = some ⟨.struct [(0, 3), (1, 22)], 2, 32, [(.p (.int .i64 0)), (.p .nil)]⟩ := rfl
theorem tab_202 : tab 202 = some ⟨.func, 1, 8, [.nilfn]⟩ := rfl
theorem tab_203 : tab 203 = some ⟨.func, 1, 8, [.nilfn]⟩ := rfl
theorem tab_204 : tab 204 = some ⟨.int .i64, 1, 8, [(.p (.int .i64 0))]⟩ := rfl
theorem tab_206 : tab 206 = some ⟨.func, 1, 8, [.nilfn]⟩ := rfl
theorem tab_207 : tab 207 = some ⟨.func, 1, 8, [.nilfn]⟩ := rfl
theorem tab_208 : tab 208 = some ⟨.func, 1, 8, [.nilfn]⟩ := rfl
theorem tab_209 : tab 209 = some ⟨.func, 1, 8, [.nilfn]⟩ := rfl
theorem tab_210 : tab 210 = some ⟨.func, 1, 8, [.nilfn]⟩ := rfl
theorem tab_211 : tab 211 = some ⟨.int .u32, 1, 4, [(.p (.int .u32 0))]⟩ := rfl
theorem tab_212 : tab 212 = some ⟨.func, 1, 8, [.nilfn]⟩ := rfl
theorem tab_213 : tab 213 = some ⟨.func, 1, 8, [.nilfn]⟩ := rfl
theorem tab_215 : tab 215 = some ⟨.func, 1, 8, [.nilfn]⟩ := rfl
theorem tab_216 : tab 216 = some ⟨.func, 1, 8, [.nilfn]⟩ := rfl
theorem tab_217 : tab 217 = some ⟨.func, 1, 8, [.nilfn]⟩ := rfl
theorem tab_218 : tab 218 = some ⟨.func, 1, 8, [.nilfn]⟩ := rfl
theorem tab_219 : tab 219 = some ⟨.int .u64, 1, 8, [(.p (.int .u64 0))]⟩ := rfl
theorem tab_220 : tab 220 = some ⟨.func, 1, 8, [.nilfn]⟩ := rfl
theorem tab_221 : tab 221 = some ⟨.func, 1, 8, [.nilfn]⟩ := rfl
theorem tab_222 : tab 222 = some ⟨.func, 1, 8, [.nilfn]⟩ := rfl
theorem tab_223 : tab 223 = some ⟨.ptr 3, 1, 8, [.nilp]⟩ := rfl
theorem tab_224 : tab 224 = some ⟨.func, 1, 8, [.nilfn]⟩ := rfl
theorem tab_225 : tab 225 = some ⟨.func, 1, 8, [.nilfn]⟩ := rfl
theorem tab_227 : tab 227 = some ⟨.func, 1, 8, [.nilfn]⟩ := rfl
theorem tab_228 : tab 228 = some ⟨.ptr 219, 1, 8, [.nilp]⟩ := rfl
theorem tab_230 : tab 230 = some ⟨.func, 1, 8, [.nilfn]⟩ := rfl
theorem tab_233 : tab 233 = some ⟨.ptr 250, 1, 8, [.nilp]⟩ := rfl
theorem tab_234 : tab 234 = some ⟨.func, 1, 8, [.nilfn]⟩ := rfl
theorem tab_240 : tab 240 = some ⟨.int .u8, 1, 1, [(.p (.int .u8 0))]⟩ := rfl
theorem tab_241 : tab 241 = some ⟨.int .u8, 1, 1, [(.p (.int .u8 0))]⟩ := rfl
theorem tab_242 : tab 242 = some ⟨.func, 1, 8, [.nilfn]⟩ := rfl
theorem tab_243 : tab 243 = some ⟨.ptr 5, 1, 8, [.nilp]⟩ := rfl
theorem tab_244 : tab 244 = some ⟨.int .i32, 1, 4, [(.p (.int .i32 0))]⟩ := rfl
theorem tab_245 : tab 245 = some ⟨.int .i32, 1, 4, [(.p (.int .i32 0))]⟩ := rfl
theorem tab_248 : tab 248 = some ⟨.func, 1, 8, [.nilfn]⟩ := rfl
theorem tab_249 : tab 249 = some ⟨.struct [(0, 9)], 1, 16, [(.p (.str ⟨#[]⟩))]⟩ := rfl
theorem tab_250 : tab 250 = some ⟨.struct [(0, 9)], 1, 16, [(.p (.str ⟨#[]⟩))]⟩ := rfl
set_option maxRecDepth 100000 in
theorem tabs : tab 1 = some ⟨.func, 1, 8, [.nilfn]⟩ ∧ tab 2 = some ⟨.int .i64, 1, 8, [(.p (.int .i64 0))]⟩ ∧ tab 3 = some ⟨.int .i64, 1, 8, [(.p (.int .i64 0))]⟩ ∧ tab 4 = some ⟨.bool, 1, 1, [(.p (.bool false))]⟩ ∧ tab 5 = some ⟨.int .u8, 1, 1, [(.p (.int .u8 0))]⟩ ∧ tab 6 = some ⟨.int .u8, 1, 1, [(.p (.int .u8 0))]⟩ ∧ tab 9 = some ⟨.str, 1, 16, [(.p (.str ⟨#[]⟩))]⟩ ∧ tab 10 = some ⟨.str, 1, 16, [(.p (.str ⟨#[]⟩))]⟩ ∧ tab 11 = some ⟨.str, 1, 16, [(.p (.str ⟨#[]⟩))]⟩ ∧ tab 12 = some ⟨.int .u64, 1, 8, [(.p (.int .u64 0))]⟩ ∧ tab 15 = some ⟨.ptr 236, 1, 8, [.nilp]⟩ ∧ tab 16 = some ⟨.ptr 239, 1, 8, [.nilp]⟩ ∧ tab 17 = some ⟨.ptr 247, 1, 8, [.nilp]⟩ ∧ tab 21 = some ⟨.int .i32, 1, 4, [(.p (.int .i32 0))]⟩ ∧ tab 22 = some ⟨.slice 160, 1, 24, [(.p .nil)]⟩ ∧ tab 23 = some ⟨.slice 147, 1, 24, [(.p .nil)]⟩ ∧ tab 24 = some ⟨.struct [(0, 3), (1, 3), (2, 22), (3, 23)], 4, 64, [(.p (.int .i64 0)), (.p (.int .i64 0)), (.p .nil), (.p .nil)]⟩ ∧ tab 25 = some ⟨.struct [(0, 3), (1, 3), (2, 22), (3, 23)], 4, 64, [(.p (.int .i64 0)), (.p (.int .i64 0)), (.p .nil), (.p .nil)]⟩ ∧ tab 26 = some ⟨.slice 22, 1, 24, [(.p .nil)]⟩ ∧ tab 27 = some ⟨.slice 108, 1, 24, [(.p .nil)]⟩ ∧ tab 28 = some ⟨.struct [(0, 25), (4, 26), (5, 27)], 6, 112, [(.p (.int .i64 0)), (.p (.int .i64 0)), (.p .nil), (.p .nil), (.p .nil), (.p .nil)]⟩ ∧ tab 29 = some ⟨.struct [(0, 25), (4, 26), (5, 27)], 6, 112, [(.p (.int .i64 0)), (.p (.int .i64 0)), (.p .nil), (.p .nil), (.p .nil), (.p .nil)]⟩ ∧ tab 30 = some ⟨.func, 1, 8, [.nilfn]⟩ ∧ tab 31 = some ⟨.func, 1, 8, [.nilfn]⟩ ∧ tab 32 = some ⟨.slice 155, 1, 24, [(.p .nil)]⟩ ∧ tab 33 = some ⟨.slice 150, 1, 24, [(.p .nil)]⟩ ∧ tab 34 = some ⟨.struct [(0, 3), (1, 3), (2, 32), (3, 33)], 4, 64, [(.p (.int .i64 0)), (.p (.int .i64 0)), (.p .nil), (.p .nil)]⟩ ∧ tab 35 = some ⟨.struct [(0, 3), (1, 3), (2, 32), (3, 33)], 4, 64, [(.p (.int .i64 0)), (.p (.int .i64 0)), (.p .nil), (.p .nil)]⟩ ∧ tab 36 = some ⟨.slice 32, 1, 24, [(.p .nil)]⟩ ∧ tab 37 = some ⟨.slice 106, 1, 24, [(.p .nil)]⟩ ∧ tab 38 = some ⟨.struct [(0, 35), (4, 36), (5, 37)], 6, 112, [(.p (.int .i64 0)), (.p (.int .i64 0)), (.p .nil), (.p .nil), (.p .nil), (.p .nil)]⟩ ∧ tab 39 = some ⟨.struct [(0, 35), (4, 36), (5, 37)], 6, 112, [(.p (.int .i64 0)), (.p (.int .i64 0)), (.p .nil), (.p .nil), (.p .nil), (.p .nil)]⟩ ∧ tab 40 = some ⟨.func, 1, 8, [.nilfn]⟩ ∧ tab 41 = some ⟨.func, 1, 8, [.nilfn]⟩ ∧ tab 42 = some ⟨.func, 1, 8, [.nilfn]⟩ ∧ tab 44 = some ⟨.func, 1, 8, [.nilfn]⟩ ∧ tab 45 = some ⟨.func, 1, 8, [.nilfn]⟩ ∧ tab 46 = some ⟨.slice 3, 1, 24, [(.p .nil)]⟩ ∧ tab 48 = some ⟨.func, 1, 8, [.nilfn]⟩ ∧ tab 49 = some ⟨.func, 1, 8, [.nilfn]⟩ ∧ tab 50 = some ⟨.func, 1, 8, [.nilfn]⟩ ∧ tab 51 = some ⟨.func, 1, 8, [.nilfn]⟩ ∧ tab 52 = some ⟨.struct [(0, 46), (1, 46)], 2, 48, [(.p .nil), (.p .nil)]⟩ ∧ tab 53 = some ⟨.struct [(0, 46), (1, 46)], 2, 48, [(.p .nil), (.p .nil)]⟩ ∧ tab 55 = some ⟨.func, 1, 8, [.nilfn]⟩ ∧ tab 56 = some ⟨.func, 1, 8, [.nilfn]⟩ ∧ tab 57 = some ⟨.func, 1, 8, [.nilfn]⟩ ∧ tab 58 = some ⟨.func, 1, 8, [.nilfn]⟩ ∧ tab 59 = some ⟨.func, 1, 8, [.nilfn]⟩ ∧ tab 60 = some ⟨.slice 46, 1, 24, [(.p .nil)]⟩ ∧ tab 61 = some ⟨.struct [(0, 60)], 1, 24, [(.p .nil)]⟩ ∧ tab 62 = some ⟨.struct [(0, 60)], 1, 24, [(.p .nil)]⟩ ∧ tab 64 = some ⟨.func, 1, 8, [.nilfn]⟩ ∧ tab 65 = some ⟨.func, 1, 8, [.nilfn]⟩ ∧ tab 66 = some ⟨.func, 1, 8, [.nilfn]⟩ ∧ tab 67 = some ⟨.func, 1, 8, [.nilfn]⟩ ∧ tab 68 = some ⟨.func, 1, 8, [.nilfn]⟩ ∧ tab 69 = some ⟨.func, 1, 8, [.nilfn]⟩ ∧ tab 70 = some ⟨.func, 1, 8, [.nilfn]⟩ ∧ tab 71 = some ⟨.func, 1, 8, [.nilfn]⟩ ∧ tab 72 = some ⟨.func, 1, 8, [.nilfn]⟩ ∧ tab 73 = some ⟨.func, 1, 8, [.nilfn]⟩ ∧ tab 74 = some ⟨.func, 1, 8, [.nilfn]⟩ ∧ tab 75 = some ⟨.func, 1, 8, [.nilfn]⟩ ∧ tab 76 = some ⟨.func, 1, 8, [.nilfn]⟩ ∧ tab 77 = some ⟨.func, 1, 8, [.nilfn]⟩ ∧ tab 78 = some ⟨.func, 1, 8, [.nilfn]⟩ ∧ tab 79 = some ⟨.func, 1, 8, [.nilfn]⟩ ∧ tab 80 = some ⟨.func, 1, 8, [.nilfn]⟩ ∧ tab 81 = some ⟨.func, 1, 8, [.nilfn]⟩ ∧ tab 82 = some ⟨.func, 1, 8, [.nilfn]⟩ ∧ tab 83 = some ⟨.func, 1, 8, [.nilfn]⟩ ∧ tab 84 = some ⟨.func, 1, 8, [.nilfn]⟩ ∧ tab 85 = some ⟨.func, 1, 8, [.nilfn]⟩ ∧ tab 86 = some ⟨.func, 1, 8, [.nilfn]⟩ ∧ tab 87 = some ⟨.func, 1, 8, [.nilfn]⟩ ∧ tab 88 = some ⟨.func, 1, 8, [.nilfn]⟩ ∧ tab 89 = some ⟨.func, 1, 8, [.nilfn]⟩ ∧ tab 90 = some ⟨.func, 1, 8, [.nilfn]⟩ ∧ tab 91 = some ⟨.func, 1, 8, [.nilfn]⟩ ∧ tab 92 = some ⟨.func, 1, 8, [.nilfn]⟩ ∧ tab 94 = some ⟨.func, 1, 8, [.nilfn]⟩ ∧ tab 95 = some ⟨.func, 1, 8, [.nilfn]⟩ ∧ tab 96 = some ⟨.func, 1, 8, [.nilfn]⟩ ∧ tab 97 = some ⟨.func, 1, 8, [.nilfn]⟩ ∧ tab 98 = some ⟨.func, 1, 8, [.nilfn]⟩ ∧ tab 99 = some ⟨.func, 1, 8, [.nilfn]⟩ ∧ tab 100 = some ⟨.func, 1, 8, [.nilfn]⟩ ∧ tab 101 = some ⟨.func, 1, 8, [.nilfn]⟩ ∧ tab 102 = some ⟨.func, 1, 8, [.nilfn]⟩ ∧ tab 103 = some ⟨.func, 1, 8, [.nilfn]⟩ ∧ tab 104 = some ⟨.func, 1, 8, [.nilfn]⟩ ∧ tab 105 = some ⟨.struct [(0, 3), (1, 3)], 2, 16, [(.p (.int .i64 0)), (.p (.int .i64 0))]⟩ ∧ tab 106 = some ⟨.struct [(0, 3), (1, 3)], 2, 16, [(.p (.int .i64 0)), (.p (.int .i64 0))]⟩ ∧ tab 107 = some ⟨.func, 1, 8, [.nilfn]⟩ ∧ tab 108 = some ⟨.struct [(0, 3), (1, 3)], 2, 16, [(.p (.int .i64 0)), (.p (.int .i64 0))]⟩ ∧ tab 109 = some ⟨.func, 1, 8, [.nilfn]⟩ ∧ tab 110 = some ⟨.func, 1, 8, [.nilfn]⟩ ∧ tab 111 = some ⟨.func, 1, 8, [.nilfn]⟩ ∧ tab 112 = some ⟨.func, 1, 8, [.nilfn]⟩ ∧ tab 113 = some ⟨.func, 1, 8, [.nilfn]⟩ ∧ tab 114 = some ⟨.int .u64, 1, 8, [(.p (.int .u64 0))]⟩ ∧ tab 115 = some ⟨.func, 1, 8, [.nilfn]⟩ ∧ tab 116 = some ⟨.slice 153, 1, 24, [(.p .nil)]⟩ ∧ tab 117 = some ⟨.func, 1, 8, [.nilfn]⟩ ∧ tab 118 = some ⟨.func, 1, 8, [.nilfn]⟩ ∧ tab 119 = some ⟨.func, 1, 8, [.nilfn]⟩ ∧ tab 120 = some ⟨.func, 1, 8, [.nilfn]⟩ ∧ tab 121 = some ⟨.func, 1, 8, [.nilfn]⟩ ∧ tab 122 = some ⟨.func, 1, 8, [.nilfn]⟩ ∧ tab 123 = some ⟨.func, 1, 8, [.nilfn]⟩ ∧ tab 124 = some ⟨.func, 1, 8, [.nilfn]⟩ ∧ tab 125 = some ⟨.func, 1, 8, [.nilfn]⟩ ∧ tab 126 = some ⟨.func, 1, 8, [.nilfn]⟩ ∧ tab 127 = some ⟨.func, 1, 8, [.nilfn]⟩ ∧ tab 128 = some ⟨.func, 1, 8, [.nilfn]⟩ ∧ tab 129 = some ⟨.func, 1, 8, [.nilfn]⟩ ∧ tab 130 = some ⟨.slice 135, 1, 24, [(.p .nil)]⟩ ∧ tab 131 = some ⟨.struct [(0, 3), (1, 46), (2, 130), (3, 60)], 4, 80, [(.p (.int .i64 0)), (.p .nil), (.p .nil), (.p .nil)]⟩ ∧ tab 132 = some ⟨.struct [(0, 3), (1, 46), (2, 130), (3, 60)], 4, 80, [(.p (.int .i64 0)), (.p .nil), (.p .nil), (.p .nil)]⟩ ∧ tab 133 = some ⟨.func, 1, 8, [.nilfn]⟩ ∧ tab 134 = some ⟨.struct [(0, 3), (1, 3), (2, 3)], 3, 24, [(.p (.int .i64 0)), (.p (.int .i64 0)), (.p (.int .i64 0))]⟩ ∧ tab 135 = some ⟨.struct [(0, 3), (1, 3), (2, 3)], 3, 24, [(.p (.int .i64 0)), (.p (.int .i64 0)), (.p (.int .i64 0))]⟩ ∧ tab 136 = some ⟨.func, 1, 8, [.nilfn]⟩ ∧ tab 137 = some ⟨.func, 1, 8, [.nilfn]⟩ ∧ tab 138 = some ⟨.func, 1, 8, [.nilfn]⟩ ∧ tab 139 = some ⟨.func, 1, 8, [.nilfn]⟩ ∧ tab 140 = some ⟨.func, 1, 8, [.nilfn]⟩ ∧ tab 141 = some ⟨.func, 1, 8, [.nilfn]⟩ ∧ tab 142 = some ⟨.func, 1, 8, [.nilfn]⟩ ∧ tab 143 = some ⟨.func, 1, 8, [.nilfn]⟩ ∧ tab 144 = some ⟨.func, 1, 8, [.nilfn]⟩ ∧ tab 145 = some ⟨.slice 201, 1, 24, [(.p .nil)]⟩ ∧ tab 146 = some ⟨.struct [(0, 22), (1, 145)], 2, 48, [(.p .nil), (.p .nil)]⟩ ∧ tab 147 = some ⟨.struct [(0, 22), (1, 145)], 2, 48, [(.p .nil), (.p .nil)]⟩ ∧ tab 148 = some ⟨.slice 188, 1, 24, [(.p .nil)]⟩ ∧ tab 149 = some ⟨.struct [(0, 32), (1, 148)], 2, 48, [(.p .nil), (.p .nil)]⟩ ∧ tab 150 = some ⟨.struct [(0, 32), (1, 148)], 2, 48, [(.p .nil), (.p .nil)]⟩ ∧ tab 151 = some ⟨.func, 1, 8, [.nilfn]⟩ ∧ tab 152 = some ⟨.func, 1, 8, [.nilfn]⟩ ∧ tab 153 = some ⟨.int .u64, 1, 8, [(.p (.int .u64 0))]⟩ ∧ tab 154 = some ⟨.struct [(0, 3), (1, 153)], 2, 16, [(.p (.int .i64 0)), (.p (.int .u64 0))]⟩ ∧ tab 155 = some ⟨.struct [(0, 3), (1, 153)], 2, 16, [(.p (.int .i64 0)), (.p (.int .u64 0))]⟩ ∧ tab 157 = some ⟨.func, 1, 8, [.nilfn]⟩ ∧ tab 158 = some ⟨.func, 1, 8, [.nilfn]⟩ ∧ tab 159 = some ⟨.func, 1, 8, [.nilfn]⟩ ∧ tab 160 = some ⟨.struct [(0, 3), (1, 153)], 2, 16, [(.p (.int .i64 0)), (.p (.int .u64 0))]⟩ ∧ tab 161 = some ⟨.func, 1, 8, [.nilfn]⟩ ∧ tab 162 = some ⟨.func, 1, 8, [.nilfn]⟩ ∧ tab 163 = some ⟨.func, 1, 8, [.nilfn]⟩ ∧ tab 164 = some ⟨.func, 1, 8, [.nilfn]⟩ ∧ tab 165 = some ⟨.func, 1, 8, [.nilfn]⟩ ∧ tab 166 = some ⟨.func, 1, 8, [.nilfn]⟩ ∧ tab 167 = some ⟨.func, 1, 8, [.nilfn]⟩ ∧ tab 168 = some ⟨.func, 1, 8, [.nilfn]⟩ ∧ tab 169 = some ⟨.func, 1, 8, [.nilfn]⟩ ∧ tab 170 = some ⟨.func, 1, 8, [.nilfn]⟩ ∧ tab 171 = some ⟨.func, 1, 8, [.nilfn]⟩ ∧ tab 172 = some ⟨.func, 1, 8, [.nilfn]⟩ ∧ tab 173 = some ⟨.func, 1, 8, [.nilfn]⟩ ∧ tab 174 = some ⟨.func, 1, 8, [.nilfn]⟩ ∧ tab 175 = some ⟨.func, 1, 8, [.nilfn]⟩ ∧ tab 176 = some ⟨.func, 1, 8, [.nilfn]⟩ ∧ tab 177 = some ⟨.func, 1, 8, [.nilfn]⟩ ∧ tab 178 = some ⟨.func, 1, 8, [.nilfn]⟩ ∧ tab 179 = some ⟨.func, 1, 8, [.nilfn]⟩ ∧ tab 180 = some ⟨.func, 1, 8, [.nilfn]⟩ ∧ tab 181 = some ⟨.func, 1, 8, [.nilfn]⟩ ∧ tab 182 = some ⟨.func, 1, 8, [.nilfn]⟩ ∧ tab 183 = some ⟨.slice 4, 1, 24, [(.p .nil)]⟩ ∧ tab 184 = some ⟨.func, 1, 8, [.nilfn]⟩ ∧ tab 185 = some ⟨.func, 1, 8, [.nilfn]⟩ ∧ tab 186 = some ⟨.func, 1, 8, [.nilfn]⟩ ∧ tab 187 = some ⟨.struct [(0, 3), (1, 32)], 2, 32, [(.p (.int .i64 0)), (.p .nil)]⟩ ∧ tab 188 = some ⟨.struct [(0, 3), (1, 32)], 2, 32, [(.p (.int .i64 0)), (.p .nil)]⟩ ∧ tab 189 = some ⟨.func, 1, 8, [.nilfn]⟩ ∧ tab 190 = some ⟨.func, 1, 8, [.nilfn]⟩ ∧ tab 191 = some ⟨.func, 1, 8, [.nilfn]⟩ ∧ tab 192 = some ⟨.func, 1, 8, [.nilfn]⟩ ∧ tab 193 = some ⟨.func, 1, 8, [.nilfn]⟩ ∧ tab 194 = some ⟨.func, 1, 8, [.nilfn]⟩ ∧ tab 195 = some ⟨.func, 1, 8, [.nilfn]⟩ ∧ tab 196 = some ⟨.func, 1, 8, [.nilfn]⟩ ∧ tab 197 = some ⟨.func, 1, 8, [.nilfn]⟩ ∧ tab 198 = some ⟨.func, 1, 8, [.nilfn]⟩ ∧ tab 199 = some ⟨.func, 1, 8, [.nilfn]⟩ ∧ tab 200 = some ⟨.struct [(0, 3), (1, 22)], 2, 32, [(.p (.int .i64 0)), (.p .nil)]⟩ ∧ tab 201 = some ⟨.struct [(0, 3), (1, 22)], 2, 32, [(.p (.int .i64 0)), (.p .nil)]⟩ ∧ tab 202 = some ⟨.func, 1, 8, [.nilfn]⟩ ∧ tab 203 = some ⟨.func, 1, 8, [.nilfn]⟩ ∧ tab 204 = some ⟨.int .i64, 1, 8, [(.p (.int .i64 0))]⟩ ∧ tab 206 = some ⟨.func, 1, 8, [.nilfn]⟩ ∧ tab 207 = some ⟨.func, 1, 8, [.nilfn]⟩ ∧ tab 208 = some ⟨.func, 1, 8, [.nilfn]⟩ ∧ tab 209 = some ⟨.func, 1, 8, [.nilfn]⟩ ∧ tab 210 = some ⟨.func, 1, 8, [.nilfn]⟩ ∧ tab 211 = some ⟨.int .u32, 1, 4, [(.p (.int .u32 0))]⟩ ∧ tab 212 = some ⟨.func, 1, 8, [.nilfn]⟩ ∧ tab 213 = some ⟨.func, 1, 8, [.nilfn]⟩ ∧ tab 215 = some ⟨.func, 1, 8, [.nilfn]⟩ ∧ tab 216 = some ⟨.func, 1, 8, [.nilfn]⟩ ∧ tab 217 = some ⟨.func, 1, 8, [.nilfn]⟩ ∧ tab 218 = some ⟨.func, 1, 8, [.nilfn]⟩ ∧ tab 219 = some ⟨.int .u64, 1, 8, [(.p (.int .u64 0))]⟩ ∧ tab 220 = some ⟨.func, 1, 8, [.nilfn]⟩ ∧ tab 221 = some ⟨.func, 1, 8, [.nilfn]⟩ ∧ tab 222 = some ⟨.func, 1, 8, [.nilfn]⟩ ∧ tab 223 = some ⟨.ptr 3, 1, 8, [.nilp]⟩ ∧ tab 224 = some ⟨.func, 1, 8, [.nilfn]⟩ ∧ tab 225 = some ⟨.func, 1, 8, [.nilfn]⟩ ∧ tab 227 = some ⟨.func, 1, 8, [.nilfn]⟩ ∧ tab 228 = some ⟨.ptr 219, 1, 8, [.nilp]⟩ ∧ tab 230 = some ⟨.func, 1, 8, [.nilfn]⟩ ∧ tab 233 = some ⟨.ptr 250, 1, 8, [.nilp]⟩ ∧ tab 234 = some ⟨.func, 1, 8, [.nilfn]⟩ ∧ tab 240 = some ⟨.int .u8, 1, 1, [(.p (.int .u8 0))]⟩ ∧ tab 241 = some ⟨.int .u8, 1, 1, [(.p (.int .u8 0))]⟩ ∧ tab 242 = some ⟨.func, 1, 8, [.nilfn]⟩ ∧ tab 243 = some ⟨.ptr 5, 1, 8, [.nilp]⟩ ∧ tab 244 = some ⟨.int .i32, 1, 4, [(.p (.int .i32 0))]⟩ ∧ tab 245 = some ⟨.int .i32, 1, 4, [(.p (.int .i32 0))]⟩ ∧ tab 248 = some ⟨.func, 1, 8, [.nilfn]⟩ ∧ tab 249 = some ⟨.struct [(0, 9)], 1, 16, [(.p (.str ⟨#[]⟩))]⟩ ∧ tab 250 = some ⟨.struct [(0, 9)], 1, 16, [(.p (.str ⟨#[]⟩))]⟩ := ⟨tab_1, tab_2, tab_3, tab_4, tab_5, tab_6, tab_9, tab_10, tab_11, tab_12, tab_15, tab_16, tab_17, tab_21, tab_22, tab_23, tab_24, tab_25, tab_26, tab_27, tab_28, tab_29, tab_30, tab_31, tab_32, tab_33, tab_34, tab_35, tab_36, tab_37, tab_38, tab_39, tab_40, tab_41, tab_42, tab_44, tab_45, tab_46, tab_48, tab_49, tab_50, tab_51, tab_52, tab_53, tab_55, tab_56, tab_57, tab_58, tab_59, tab_60, tab_61, tab_62, tab_64, tab_65, tab_66, tab_67, tab_68, tab_69, tab_70, tab_71, tab_72, tab_73, tab_74, tab_75, tab_76, tab_77, tab_78, tab_79, tab_80, tab_81, tab_82, tab_83, tab_84, tab_85, tab_86, tab_87, tab_88, tab_89, tab_90, tab_91, tab_92, tab_94, tab_95, tab_96, tab_97, tab_98, tab_99, tab_100, tab_101, tab_102, tab_103, tab_104, tab_105, tab_106, tab_107, tab_108, tab_109, tab_110, tab_111, tab_112, tab_113, tab_114, tab_115, tab_116, tab_117, tab_118, tab_119, tab_120, tab_121, tab_122, tab_123, tab_124, tab_125, tab_126, tab_127, tab_128, tab_129, tab_130, tab_131, tab_132, tab_133, tab_134, tab_135, tab_136, tab_137, tab_138, tab_139, tab_140, tab_141, tab_142, tab_143, tab_144, tab_145, tab_146, tab_147, tab_148, tab_149, tab_150, tab_151, tab_152, tab_153, tab_154, tab_155, tab_157, tab_158, tab_159, tab_160, tab_161, tab_162, tab_163, tab_164, tab_165, tab_166, tab_167, tab_168, tab_169, tab_170, tab_171, tab_172, tab_173, tab_174, tab_175, tab_176, tab_177, tab_178, tab_179, tab_180, tab_181, tab_182, tab_183, tab_184, tab_185, tab_186, tab_187, tab_188, tab_189, tab_190, tab_191, tab_192, tab_193, tab_194, tab_195, tab_196, tab_197, tab_198, tab_199, tab_200, tab_201, tab_202, tab_203, tab_204, tab_206, tab_207, tab_208, tab_209, tab_210, tab_211, tab_212, tab_213, tab_215, tab_216, tab_217, tab_218, tab_219, tab_220, tab_221, tab_222, tab_223, tab_224, tab_225, tab_227, tab_228, tab_230, tab_233, tab_234, tab_240, tab_241, tab_242, tab_243, tab_244, tab_245, tab_248, tab_249, tab_250⟩
theorem info1 : (Tryz.prog.info? 1).map (fun i => (i.zero, i.size, i.bytes)) = some (some .nilFunc, 1, 8) := by kernel_rfl
theorem td1_ok : TD.Ok Tryz.prog 1 td1 := TD.Ok.of ⟨_, _, _, Tryz.underlying1⟩ info1 rfl rfl (by decide) (fun _ => rfl)
theorem info2 : (Tryz.prog.info? 2).map (fun i => (i.zero, i.size, i.bytes)) = some (some (.int .i64 0), 1, 8) := by kernel_rfl
theorem td2_ok : TD.Ok Tryz.prog 2 td2 := TD.Ok.of Tryz.underlying2 info2 rfl rfl (by decide) (fun _ => rfl)
theorem info3 : (Tryz.prog.info? 3).map (fun i => (i.zero, i.size, i.bytes)) = some (some (.int .i64 0), 1, 8) := by kernel_rfl
theorem td3_ok : TD.Ok Tryz.prog 3 td3 := TD.Ok.of Tryz.underlying3 info3 rfl rfl (by decide) (fun _ => rfl)
theorem info4 : (Tryz.prog.info? 4).map (fun i => (i.zero, i.size, i.bytes)) = some (some (.bool false), 1, 1) := by kernel_rfl
theorem td4_ok : TD.Ok Tryz.prog 4 td4 := TD.Ok.of Tryz.underlying4 info4 rfl rfl (by decide) (fun _ => rfl)
theorem info5 : (Tryz.prog.info? 5).map (fun i => (i.zero, i.size, i.bytes)) = some (some (.int .u8 0), 1, 1) := by kernel_rfl
theorem td5_ok : TD.Ok Tryz.prog 5 td5 := TD.Ok.of Tryz.underlying5 info5 rfl rfl (by decide) (fun _ => rfl)
theorem info6 : (Tryz.prog.info? 6).map (fun i => (i.zero, i.size, i.bytes)) = some (some (.int .u8 0), 1, 1) := by kernel_rfl
theorem td6_ok : TD.Ok Tryz.prog 6 td6 := TD.Ok.of Tryz.underlying6 info6 rfl rfl (by decide) (fun _ => rfl)
theorem info9 : (Tryz.prog.info? 9).map (fun i => (i.zero, i.size, i.bytes)) = some (some (.string ⟨#[]⟩), 1, 16) := by kernel_rfl
theorem td9_ok : TD.Ok Tryz.prog 9 td9 := TD.Ok.of Tryz.underlying9 info9 rfl rfl (by decide) (fun _ => rfl)
theorem info10 : (Tryz.prog.info? 10).map (fun i => (i.zero, i.size, i.bytes)) = some (some (.string ⟨#[]⟩), 1, 16) := by kernel_rfl
theorem td10_ok : TD.Ok Tryz.prog 10 td10 := TD.Ok.of Tryz.underlying10 info10 rfl rfl (by decide) (fun _ => rfl)
theorem info11 : (Tryz.prog.info? 11).map (fun i => (i.zero, i.size, i.bytes)) = some (some (.string ⟨#[]⟩), 1, 16) := by kernel_rfl
theorem td11_ok : TD.Ok Tryz.prog 11 td11 := TD.Ok.of Tryz.underlying11 info11 rfl rfl (by decide) (fun _ => rfl)
theorem info12 : (Tryz.prog.info? 12).map (fun i => (i.zero, i.size, i.bytes)) = some (some (.int .u64 0), 1, 8) := by kernel_rfl
theorem td12_ok : TD.Ok Tryz.prog 12 td12 := TD.Ok.of Tryz.underlying12 info12 rfl rfl (by decide) (fun _ => rfl)
theorem info15 : (Tryz.prog.info? 15).map (fun i => (i.zero, i.size, i.bytes)) = some (some (.pointer none), 1, 8) := by kernel_rfl
theorem td15_ok : TD.Ok Tryz.prog 15 td15 := TD.Ok.of Tryz.underlying15 info15 rfl rfl (by decide) (fun _ => rfl)
theorem info16 : (Tryz.prog.info? 16).map (fun i => (i.zero, i.size, i.bytes)) = some (some (.pointer none), 1, 8) := by kernel_rfl
theorem td16_ok : TD.Ok Tryz.prog 16 td16 := TD.Ok.of Tryz.underlying16 info16 rfl rfl (by decide) (fun _ => rfl)
theorem info17 : (Tryz.prog.info? 17).map (fun i => (i.zero, i.size, i.bytes)) = some (some (.pointer none), 1, 8) := by kernel_rfl
theorem td17_ok : TD.Ok Tryz.prog 17 td17 := TD.Ok.of Tryz.underlying17 info17 rfl rfl (by decide) (fun _ => rfl)
theorem info21 : (Tryz.prog.info? 21).map (fun i => (i.zero, i.size, i.bytes)) = some (some (.int .i32 0), 1, 4) := by kernel_rfl
theorem td21_ok : TD.Ok Tryz.prog 21 td21 := TD.Ok.of Tryz.underlying21 info21 rfl rfl (by decide) (fun _ => rfl)
theorem info22 : (Tryz.prog.info? 22).map (fun i => (i.zero, i.size, i.bytes)) = some (some (.slice none 0 0), 1, 24) := by kernel_rfl
theorem td22_ok : TD.Ok Tryz.prog 22 td22 := TD.Ok.of Tryz.underlying22 info22 rfl rfl (by decide) (fun _ => rfl)
theorem info23 : (Tryz.prog.info? 23).map (fun i => (i.zero, i.size, i.bytes)) = some (some (.slice none 0 0), 1, 24) := by kernel_rfl
theorem td23_ok : TD.Ok Tryz.prog 23 td23 := TD.Ok.of Tryz.underlying23 info23 rfl rfl (by decide) (fun _ => rfl)
theorem info24 : (Tryz.prog.info? 24).map (fun i => (i.zero, i.size, i.bytes)) = some (some (.agg #[(.int .i64 0), (.int .i64 0), (.slice none 0 0), (.slice none 0 0)]), 4, 64) := by kernel_rfl
theorem td24_ok : TD.Ok Tryz.prog 24 td24 := TD.Ok.of ⟨_, Tryz.underlying24, rfl, Tryz.stoodInHeld24, Tryz.eqGuardType24, by decide⟩ info24 rfl rfl (by decide) (fun h => by cases h)
theorem info25 : (Tryz.prog.info? 25).map (fun i => (i.zero, i.size, i.bytes)) = some (some (.agg #[(.int .i64 0), (.int .i64 0), (.slice none 0 0), (.slice none 0 0)]), 4, 64) := by kernel_rfl
theorem td25_ok : TD.Ok Tryz.prog 25 td25 := TD.Ok.of ⟨_, Tryz.underlying25, rfl, Tryz.stoodInHeld25, Tryz.eqGuardType25, by decide⟩ info25 rfl rfl (by decide) (fun h => by cases h)
theorem info26 : (Tryz.prog.info? 26).map (fun i => (i.zero, i.size, i.bytes)) = some (some (.slice none 0 0), 1, 24) := by kernel_rfl
theorem td26_ok : TD.Ok Tryz.prog 26 td26 := TD.Ok.of Tryz.underlying26 info26 rfl rfl (by decide) (fun _ => rfl)
theorem info27 : (Tryz.prog.info? 27).map (fun i => (i.zero, i.size, i.bytes)) = some (some (.slice none 0 0), 1, 24) := by kernel_rfl
theorem td27_ok : TD.Ok Tryz.prog 27 td27 := TD.Ok.of Tryz.underlying27 info27 rfl rfl (by decide) (fun _ => rfl)
theorem info28 : (Tryz.prog.info? 28).map (fun i => (i.zero, i.size, i.bytes)) = some (some (.agg #[(.int .i64 0), (.int .i64 0), (.slice none 0 0), (.slice none 0 0), (.slice none 0 0), (.slice none 0 0)]), 6, 112) := by kernel_rfl
theorem td28_ok : TD.Ok Tryz.prog 28 td28 := TD.Ok.of ⟨_, Tryz.underlying28, rfl, Tryz.stoodInHeld28, Tryz.eqGuardType28, by decide⟩ info28 rfl rfl (by decide) (fun h => by cases h)
theorem info29 : (Tryz.prog.info? 29).map (fun i => (i.zero, i.size, i.bytes)) = some (some (.agg #[(.int .i64 0), (.int .i64 0), (.slice none 0 0), (.slice none 0 0), (.slice none 0 0), (.slice none 0 0)]), 6, 112) := by kernel_rfl
theorem td29_ok : TD.Ok Tryz.prog 29 td29 := TD.Ok.of ⟨_, Tryz.underlying29, rfl, Tryz.stoodInHeld29, Tryz.eqGuardType29, by decide⟩ info29 rfl rfl (by decide) (fun h => by cases h)
theorem info30 : (Tryz.prog.info? 30).map (fun i => (i.zero, i.size, i.bytes)) = some (some .nilFunc, 1, 8) := by kernel_rfl
theorem td30_ok : TD.Ok Tryz.prog 30 td30 := TD.Ok.of ⟨_, _, _, Tryz.underlying30⟩ info30 rfl rfl (by decide) (fun _ => rfl)
theorem info31 : (Tryz.prog.info? 31).map (fun i => (i.zero, i.size, i.bytes)) = some (some .nilFunc, 1, 8) := by kernel_rfl
theorem td31_ok : TD.Ok Tryz.prog 31 td31 := TD.Ok.of ⟨_, _, _, Tryz.underlying31⟩ info31 rfl rfl (by decide) (fun _ => rfl)
theorem info32 : (Tryz.prog.info? 32).map (fun i => (i.zero, i.size, i.bytes)) = some (some (.slice none 0 0), 1, 24) := by kernel_rfl
theorem td32_ok : TD.Ok Tryz.prog 32 td32 := TD.Ok.of Tryz.underlying32 info32 rfl rfl (by decide) (fun _ => rfl)
theorem info33 : (Tryz.prog.info? 33).map (fun i => (i.zero, i.size, i.bytes)) = some (some (.slice none 0 0), 1, 24) := by kernel_rfl
theorem td33_ok : TD.Ok Tryz.prog 33 td33 := TD.Ok.of Tryz.underlying33 info33 rfl rfl (by decide) (fun _ => rfl)
theorem info34 : (Tryz.prog.info? 34).map (fun i => (i.zero, i.size, i.bytes)) = some (some (.agg #[(.int .i64 0), (.int .i64 0), (.slice none 0 0), (.slice none 0 0)]), 4, 64) := by kernel_rfl
theorem td34_ok : TD.Ok Tryz.prog 34 td34 := TD.Ok.of ⟨_, Tryz.underlying34, rfl, Tryz.stoodInHeld34, Tryz.eqGuardType34, by decide⟩ info34 rfl rfl (by decide) (fun h => by cases h)
theorem info35 : (Tryz.prog.info? 35).map (fun i => (i.zero, i.size, i.bytes)) = some (some (.agg #[(.int .i64 0), (.int .i64 0), (.slice none 0 0), (.slice none 0 0)]), 4, 64) := by kernel_rfl
theorem td35_ok : TD.Ok Tryz.prog 35 td35 := TD.Ok.of ⟨_, Tryz.underlying35, rfl, Tryz.stoodInHeld35, Tryz.eqGuardType35, by decide⟩ info35 rfl rfl (by decide) (fun h => by cases h)
theorem info36 : (Tryz.prog.info? 36).map (fun i => (i.zero, i.size, i.bytes)) = some (some (.slice none 0 0), 1, 24) := by kernel_rfl
theorem td36_ok : TD.Ok Tryz.prog 36 td36 := TD.Ok.of Tryz.underlying36 info36 rfl rfl (by decide) (fun _ => rfl)
theorem info37 : (Tryz.prog.info? 37).map (fun i => (i.zero, i.size, i.bytes)) = some (some (.slice none 0 0), 1, 24) := by kernel_rfl
theorem td37_ok : TD.Ok Tryz.prog 37 td37 := TD.Ok.of Tryz.underlying37 info37 rfl rfl (by decide) (fun _ => rfl)
theorem info38 : (Tryz.prog.info? 38).map (fun i => (i.zero, i.size, i.bytes)) = some (some (.agg #[(.int .i64 0), (.int .i64 0), (.slice none 0 0), (.slice none 0 0), (.slice none 0 0), (.slice none 0 0)]), 6, 112) := by kernel_rfl
theorem td38_ok : TD.Ok Tryz.prog 38 td38 := TD.Ok.of ⟨_, Tryz.underlying38, rfl, Tryz.stoodInHeld38, Tryz.eqGuardType38, by decide⟩ info38 rfl rfl (by decide) (fun h => by cases h)
theorem info39 : (Tryz.prog.info? 39).map (fun i => (i.zero, i.size, i.bytes)) = some (some (.agg #[(.int .i64 0), (.int .i64 0), (.slice none 0 0), (.slice none 0 0), (.slice none 0 0), (.slice none 0 0)]), 6, 112) := by kernel_rfl
theorem td39_ok : TD.Ok Tryz.prog 39 td39 := TD.Ok.of ⟨_, Tryz.underlying39, rfl, Tryz.stoodInHeld39, Tryz.eqGuardType39, by decide⟩ info39 rfl rfl (by decide) (fun h => by cases h)
theorem info40 : (Tryz.prog.info? 40).map (fun i => (i.zero, i.size, i.bytes)) = some (some .nilFunc, 1, 8) := by kernel_rfl
theorem td40_ok : TD.Ok Tryz.prog 40 td40 := TD.Ok.of ⟨_, _, _, Tryz.underlying40⟩ info40 rfl rfl (by decide) (fun _ => rfl)
theorem info41 : (Tryz.prog.info? 41).map (fun i => (i.zero, i.size, i.bytes)) = some (some .nilFunc, 1, 8) := by kernel_rfl
theorem td41_ok : TD.Ok Tryz.prog 41 td41 := TD.Ok.of ⟨_, _, _, Tryz.underlying41⟩ info41 rfl rfl (by decide) (fun _ => rfl)
theorem info42 : (Tryz.prog.info? 42).map (fun i => (i.zero, i.size, i.bytes)) = some (some .nilFunc, 1, 8) := by kernel_rfl
theorem td42_ok : TD.Ok Tryz.prog 42 td42 := TD.Ok.of ⟨_, _, _, Tryz.underlying42⟩ info42 rfl rfl (by decide) (fun _ => rfl)
theorem info44 : (Tryz.prog.info? 44).map (fun i => (i.zero, i.size, i.bytes)) = some (some .nilFunc, 1, 8) := by kernel_rfl
theorem td44_ok : TD.Ok Tryz.prog 44 td44 := TD.Ok.of ⟨_, _, _, Tryz.underlying44⟩ info44 rfl rfl (by decide) (fun _ => rfl)
theorem info45 : (Tryz.prog.info? 45).map (fun i => (i.zero, i.size, i.bytes)) = some (some .nilFunc, 1, 8) := by kernel_rfl
theorem td45_ok : TD.Ok Tryz.prog 45 td45 := TD.Ok.of ⟨_, _, _, Tryz.underlying45⟩ info45 rfl rfl (by decide) (fun _ => rfl)
theorem info46 : (Tryz.prog.info? 46).map (fun i => (i.zero, i.size, i.bytes)) = some (some (.slice none 0 0), 1, 24) := by kernel_rfl
theorem td46_ok : TD.Ok Tryz.prog 46 td46 := TD.Ok.of Tryz.underlying46 info46 rfl rfl (by decide) (fun _ => rfl)
theorem info48 : (Tryz.prog.info? 48).map (fun i => (i.zero, i.size, i.bytes)) = some (some .nilFunc, 1, 8) := by kernel_rfl
theorem td48_ok : TD.Ok Tryz.prog 48 td48 := TD.Ok.of ⟨_, _, _, Tryz.underlying48⟩ info48 rfl rfl (by decide) (fun _ => rfl)
theorem info49 : (Tryz.prog.info? 49).map (fun i => (i.zero, i.size, i.bytes)) = some (some .nilFunc, 1, 8) := by kernel_rfl
theorem td49_ok : TD.Ok Tryz.prog 49 td49 := TD.Ok.of ⟨_, _, _, Tryz.underlying49⟩ info49 rfl rfl (by decide) (fun _ => rfl)
theorem info50 : (Tryz.prog.info? 50).map (fun i => (i.zero, i.size, i.bytes)) = some (some .nilFunc, 1, 8) := by kernel_rfl
theorem td50_ok : TD.Ok Tryz.prog 50 td50 := TD.Ok.of ⟨_, _, _, Tryz.underlying50⟩ info50 rfl rfl (by decide) (fun _ => rfl)
theorem info51 : (Tryz.prog.info? 51).map (fun i => (i.zero, i.size, i.bytes)) = some (some .nilFunc, 1, 8) := by kernel_rfl
theorem td51_ok : TD.Ok Tryz.prog 51 td51 := TD.Ok.of ⟨_, _, _, Tryz.underlying51⟩ info51 rfl rfl (by decide) (fun _ => rfl)
theorem info52 : (Tryz.prog.info? 52).map (fun i => (i.zero, i.size, i.bytes)) = some (some (.agg #[(.slice none 0 0), (.slice none 0 0)]), 2, 48) := by kernel_rfl
theorem td52_ok : TD.Ok Tryz.prog 52 td52 := TD.Ok.of ⟨_, Tryz.underlying52, rfl, Tryz.stoodInHeld52, Tryz.eqGuardType52, by decide⟩ info52 rfl rfl (by decide) (fun h => by cases h)
theorem info53 : (Tryz.prog.info? 53).map (fun i => (i.zero, i.size, i.bytes)) = some (some (.agg #[(.slice none 0 0), (.slice none 0 0)]), 2, 48) := by kernel_rfl
theorem td53_ok : TD.Ok Tryz.prog 53 td53 := TD.Ok.of ⟨_, Tryz.underlying53, rfl, Tryz.stoodInHeld53, Tryz.eqGuardType53, by decide⟩ info53 rfl rfl (by decide) (fun h => by cases h)
theorem info55 : (Tryz.prog.info? 55).map (fun i => (i.zero, i.size, i.bytes)) = some (some .nilFunc, 1, 8) := by kernel_rfl
theorem td55_ok : TD.Ok Tryz.prog 55 td55 := TD.Ok.of ⟨_, _, _, Tryz.underlying55⟩ info55 rfl rfl (by decide) (fun _ => rfl)
theorem info56 : (Tryz.prog.info? 56).map (fun i => (i.zero, i.size, i.bytes)) = some (some .nilFunc, 1, 8) := by kernel_rfl
theorem td56_ok : TD.Ok Tryz.prog 56 td56 := TD.Ok.of ⟨_, _, _, Tryz.underlying56⟩ info56 rfl rfl (by decide) (fun _ => rfl)
theorem info57 : (Tryz.prog.info? 57).map (fun i => (i.zero, i.size, i.bytes)) = some (some .nilFunc, 1, 8) := by kernel_rfl
theorem td57_ok : TD.Ok Tryz.prog 57 td57 := TD.Ok.of ⟨_, _, _, Tryz.underlying57⟩ info57 rfl rfl (by decide) (fun _ => rfl)
theorem info58 : (Tryz.prog.info? 58).map (fun i => (i.zero, i.size, i.bytes)) = some (some .nilFunc, 1, 8) := by kernel_rfl
theorem td58_ok : TD.Ok Tryz.prog 58 td58 := TD.Ok.of ⟨_, _, _, Tryz.underlying58⟩ info58 rfl rfl (by decide) (fun _ => rfl)
theorem info59 : (Tryz.prog.info? 59).map (fun i => (i.zero, i.size, i.bytes)) = some (some .nilFunc, 1, 8) := by kernel_rfl
theorem td59_ok : TD.Ok Tryz.prog 59 td59 := TD.Ok.of ⟨_, _, _, Tryz.underlying59⟩ info59 rfl rfl (by decide) (fun _ => rfl)
theorem info60 : (Tryz.prog.info? 60).map (fun i => (i.zero, i.size, i.bytes)) = some (some (.slice none 0 0), 1, 24) := by kernel_rfl
theorem td60_ok : TD.Ok Tryz.prog 60 td60 := TD.Ok.of Tryz.underlying60 info60 rfl rfl (by decide) (fun _ => rfl)
theorem info61 : (Tryz.prog.info? 61).map (fun i => (i.zero, i.size, i.bytes)) = some (some (.agg #[(.slice none 0 0)]), 1, 24) := by kernel_rfl
theorem td61_ok : TD.Ok Tryz.prog 61 td61 := TD.Ok.of ⟨_, Tryz.underlying61, rfl, Tryz.stoodInHeld61, Tryz.eqGuardType61, by decide⟩ info61 rfl rfl (by decide) (fun h => by cases h)
theorem info62 : (Tryz.prog.info? 62).map (fun i => (i.zero, i.size, i.bytes)) = some (some (.agg #[(.slice none 0 0)]), 1, 24) := by kernel_rfl
theorem td62_ok : TD.Ok Tryz.prog 62 td62 := TD.Ok.of ⟨_, Tryz.underlying62, rfl, Tryz.stoodInHeld62, Tryz.eqGuardType62, by decide⟩ info62 rfl rfl (by decide) (fun h => by cases h)
theorem info64 : (Tryz.prog.info? 64).map (fun i => (i.zero, i.size, i.bytes)) = some (some .nilFunc, 1, 8) := by kernel_rfl
theorem td64_ok : TD.Ok Tryz.prog 64 td64 := TD.Ok.of ⟨_, _, _, Tryz.underlying64⟩ info64 rfl rfl (by decide) (fun _ => rfl)
theorem info65 : (Tryz.prog.info? 65).map (fun i => (i.zero, i.size, i.bytes)) = some (some .nilFunc, 1, 8) := by kernel_rfl
theorem td65_ok : TD.Ok Tryz.prog 65 td65 := TD.Ok.of ⟨_, _, _, Tryz.underlying65⟩ info65 rfl rfl (by decide) (fun _ => rfl)
theorem info66 : (Tryz.prog.info? 66).map (fun i => (i.zero, i.size, i.bytes)) = some (some .nilFunc, 1, 8) := by kernel_rfl
theorem td66_ok : TD.Ok Tryz.prog 66 td66 := TD.Ok.of ⟨_, _, _, Tryz.underlying66⟩ info66 rfl rfl (by decide) (fun _ => rfl)
theorem info67 : (Tryz.prog.info? 67).map (fun i => (i.zero, i.size, i.bytes)) = some (some .nilFunc, 1, 8) := by kernel_rfl
theorem td67_ok : TD.Ok Tryz.prog 67 td67 := TD.Ok.of ⟨_, _, _, Tryz.underlying67⟩ info67 rfl rfl (by decide) (fun _ => rfl)
theorem info68 : (Tryz.prog.info? 68).map (fun i => (i.zero, i.size, i.bytes)) = some (some .nilFunc, 1, 8) := by kernel_rfl
theorem td68_ok : TD.Ok Tryz.prog 68 td68 := TD.Ok.of ⟨_, _, _, Tryz.underlying68⟩ info68 rfl rfl (by decide) (fun _ => rfl)
theorem info69 : (Tryz.prog.info? 69).map (fun i => (i.zero, i.size, i.bytes)) = some (some .nilFunc, 1, 8) := by kernel_rfl
theorem td69_ok : TD.Ok Tryz.prog 69 td69 := TD.Ok.of ⟨_, _, _, Tryz.underlying69⟩ info69 rfl rfl (by decide) (fun _ => rfl)
theorem info70 : (Tryz.prog.info? 70).map (fun i => (i.zero, i.size, i.bytes)) = some (some .nilFunc, 1, 8) := by kernel_rfl
theorem td70_ok : TD.Ok Tryz.prog 70 td70 := TD.Ok.of ⟨_, _, _, Tryz.underlying70⟩ info70 rfl rfl (by decide) (fun _ => rfl)
theorem info71 : (Tryz.prog.info? 71).map (fun i => (i.zero, i.size, i.bytes)) = some (some .nilFunc, 1, 8) := by kernel_rfl
theorem td71_ok : TD.Ok Tryz.prog 71 td71 := TD.Ok.of ⟨_, _, _, Tryz.underlying71⟩ info71 rfl rfl (by decide) (fun _ => rfl)
theorem info72 : (Tryz.prog.info? 72).map (fun i => (i.zero, i.size, i.bytes)) = some (some .nilFunc, 1, 8) := by kernel_rfl
theorem td72_ok : TD.Ok Tryz.prog 72 td72 := TD.Ok.of ⟨_, _, _, Tryz.underlying72⟩ info72 rfl rfl (by decide) (fun _ => rfl)
theorem info73 : (Tryz.prog.info? 73).map (fun i => (i.zero, i.size, i.bytes)) = some (some .nilFunc, 1, 8) := by kernel_rfl
theorem td73_ok : TD.Ok Tryz.prog 73 td73 := TD.Ok.of ⟨_, _, _, Tryz.underlying73⟩ info73 rfl rfl (by decide) (fun _ => rfl)
theorem info74 : (Tryz.prog.info? 74).map (fun i => (i.zero, i.size, i.bytes)) = some (some .nilFunc, 1, 8) := by kernel_rfl
theorem td74_ok : TD.Ok Tryz.prog 74 td74 := TD.Ok.of ⟨_, _, _, Tryz.underlying74⟩ info74 rfl rfl (by decide) (fun _ => rfl)
theorem info75 : (Tryz.prog.info? 75).map (fun i => (i.zero, i.size, i.bytes)) = some (some .nilFunc, 1, 8) := by kernel_rfl
theorem td75_ok : TD.Ok Tryz.prog 75 td75 := TD.Ok.of ⟨_, _, _, Tryz.underlying75⟩ info75 rfl rfl (by decide) (fun _ => rfl)
theorem info76 : (Tryz.prog.info? 76).map (fun i => (i.zero, i.size, i.bytes)) = some (some .nilFunc, 1, 8) := by kernel_rfl
theorem td76_ok : TD.Ok Tryz.prog 76 td76 := TD.Ok.of ⟨_, _, _, Tryz.underlying76⟩ info76 rfl rfl (by decide) (fun _ => rfl)
theorem info77 : (Tryz.prog.info? 77).map (fun i => (i.zero, i.size, i.bytes)) = some (some .nilFunc, 1, 8) := by kernel_rfl
theorem td77_ok : TD.Ok Tryz.prog 77 td77 := TD.Ok.of ⟨_, _, _, Tryz.underlying77⟩ info77 rfl rfl (by decide) (fun _ => rfl)
theorem info78 : (Tryz.prog.info? 78).map (fun i => (i.zero, i.size, i.bytes)) = some (some .nilFunc, 1, 8) := by kernel_rfl
theorem td78_ok : TD.Ok Tryz.prog 78 td78 := TD.Ok.of ⟨_, _, _, Tryz.underlying78⟩ info78 rfl rfl (by decide) (fun _ => rfl)
theorem info79 : (Tryz.prog.info? 79).map (fun i => (i.zero, i.size, i.bytes)) = some (some .nilFunc, 1, 8) := by kernel_rfl
theorem td79_ok : TD.Ok Tryz.prog 79 td79 := TD.Ok.of ⟨_, _, _, Tryz.underlying79⟩ info79 rfl rfl (by decide) (fun _ => rfl)
theorem info80 : (Tryz.prog.info? 80).map (fun i => (i.zero, i.size, i.bytes)) = some (some .nilFunc, 1, 8) := by kernel_rfl
theorem td80_ok : TD.Ok Tryz.prog 80 td80 := TD.Ok.of ⟨_, _, _, Tryz.underlying80⟩ info80 rfl rfl (by decide) (fun _ => rfl)
theorem info81 : (Tryz.prog.info? 81).map (fun i => (i.zero, i.size, i.bytes)) = some (some .nilFunc, 1, 8) := by kernel_rfl
theorem td81_ok : TD.Ok Tryz.prog 81 td81 := TD.Ok.of ⟨_, _, _, Tryz.underlying81⟩ info81 rfl rfl (by decide) (fun _ => rfl)
theorem info82 : (Tryz.prog.info? 82).map (fun i => (i.zero, i.size, i.bytes)) = some (some .nilFunc, 1, 8) := by kernel_rfl
theorem td82_ok : TD.Ok Tryz.prog 82 td82 := TD.Ok.of ⟨_, _, _, Tryz.underlying82⟩ info82 rfl rfl (by decide) (fun _ => rfl)
theorem info83 : (Tryz.prog.info? 83).map (fun i => (i.zero, i.size, i.bytes)) = some (some .nilFunc, 1, 8) := by kernel_rfl
theorem td83_ok : TD.Ok Tryz.prog 83 td83 := TD.Ok.of ⟨_, _, _, Tryz.underlying83⟩ info83 rfl rfl (by decide) (fun _ => rfl)
theorem info84 : (Tryz.prog.info? 84).map (fun i => (i.zero, i.size, i.bytes)) = some (some .nilFunc, 1, 8) := by kernel_rfl
theorem td84_ok : TD.Ok Tryz.prog 84 td84 := TD.Ok.of ⟨_, _, _, Tryz.underlying84⟩ info84 rfl rfl (by decide) (fun _ => rfl)
theorem info85 : (Tryz.prog.info? 85).map (fun i => (i.zero, i.size, i.bytes)) = some (some .nilFunc, 1, 8) := by kernel_rfl
theorem td85_ok : TD.Ok Tryz.prog 85 td85 := TD.Ok.of ⟨_, _, _, Tryz.underlying85⟩ info85 rfl rfl (by decide) (fun _ => rfl)
theorem info86 : (Tryz.prog.info? 86).map (fun i => (i.zero, i.size, i.bytes)) = some (some .nilFunc, 1, 8) := by kernel_rfl
theorem td86_ok : TD.Ok Tryz.prog 86 td86 := TD.Ok.of ⟨_, _, _, Tryz.underlying86⟩ info86 rfl rfl (by decide) (fun _ => rfl)
theorem info87 : (Tryz.prog.info? 87).map (fun i => (i.zero, i.size, i.bytes)) = some (some .nilFunc, 1, 8) := by kernel_rfl
theorem td87_ok : TD.Ok Tryz.prog 87 td87 := TD.Ok.of ⟨_, _, _, Tryz.underlying87⟩ info87 rfl rfl (by decide) (fun _ => rfl)
theorem info88 : (Tryz.prog.info? 88).map (fun i => (i.zero, i.size, i.bytes)) = some (some .nilFunc, 1, 8) := by kernel_rfl
theorem td88_ok : TD.Ok Tryz.prog 88 td88 := TD.Ok.of ⟨_, _, _, Tryz.underlying88⟩ info88 rfl rfl (by decide) (fun _ => rfl)
theorem info89 : (Tryz.prog.info? 89).map (fun i => (i.zero, i.size, i.bytes)) = some (some .nilFunc, 1, 8) := by kernel_rfl
theorem td89_ok : TD.Ok Tryz.prog 89 td89 := TD.Ok.of ⟨_, _, _, Tryz.underlying89⟩ info89 rfl rfl (by decide) (fun _ => rfl)
theorem info90 : (Tryz.prog.info? 90).map (fun i => (i.zero, i.size, i.bytes)) = some (some .nilFunc, 1, 8) := by kernel_rfl
theorem td90_ok : TD.Ok Tryz.prog 90 td90 := TD.Ok.of ⟨_, _, _, Tryz.underlying90⟩ info90 rfl rfl (by decide) (fun _ => rfl)
theorem info91 : (Tryz.prog.info? 91).map (fun i => (i.zero, i.size, i.bytes)) = some (some .nilFunc, 1, 8) := by kernel_rfl
theorem td91_ok : TD.Ok Tryz.prog 91 td91 := TD.Ok.of ⟨_, _, _, Tryz.underlying91⟩ info91 rfl rfl (by decide) (fun _ => rfl)
theorem info92 : (Tryz.prog.info? 92).map (fun i => (i.zero, i.size, i.bytes)) = some (some .nilFunc, 1, 8) := by kernel_rfl
theorem td92_ok : TD.Ok Tryz.prog 92 td92 := TD.Ok.of ⟨_, _, _, Tryz.underlying92⟩ info92 rfl rfl (by decide) (fun _ => rfl)
theorem info94 : (Tryz.prog.info? 94).map (fun i => (i.zero, i.size, i.bytes)) = some (some .nilFunc, 1, 8) := by kernel_rfl
theorem td94_ok : TD.Ok Tryz.prog 94 td94 := TD.Ok.of ⟨_, _, _, Tryz.underlying94⟩ info94 rfl rfl (by decide) (fun _ => rfl)
theorem info95 : (Tryz.prog.info? 95).map (fun i => (i.zero, i.size, i.bytes)) = some (some .nilFunc, 1, 8) := by kernel_rfl
theorem td95_ok : TD.Ok Tryz.prog 95 td95 := TD.Ok.of ⟨_, _, _, Tryz.underlying95⟩ info95 rfl rfl (by decide) (fun _ => rfl)
theorem info96 : (Tryz.prog.info? 96).map (fun i => (i.zero, i.size, i.bytes)) = some (some .nilFunc, 1, 8) := by kernel_rfl
theorem td96_ok : TD.Ok Tryz.prog 96 td96 := TD.Ok.of ⟨_, _, _, Tryz.underlying96⟩ info96 rfl rfl (by decide) (fun _ => rfl)
theorem info97 : (Tryz.prog.info? 97).map (fun i => (i.zero, i.size, i.bytes)) = some (some .nilFunc, 1, 8) := by kernel_rfl
theorem td97_ok : TD.Ok Tryz.prog 97 td97 := TD.Ok.of ⟨_, _, _, Tryz.underlying97⟩ info97 rfl rfl (by decide) (fun _ => rfl)
theorem info98 : (Tryz.prog.info? 98).map (fun i => (i.zero, i.size, i.bytes)) = some (some .nilFunc, 1, 8) := by kernel_rfl
theorem td98_ok : TD.Ok Tryz.prog 98 td98 := TD.Ok.of ⟨_, _, _, Tryz.underlying98⟩ info98 rfl rfl (by decide) (fun _ => rfl)
theorem info99 : (Tryz.prog.info? 99).map (fun i => (i.zero, i.size, i.bytes)) = some (some .nilFunc, 1, 8) := by kernel_rfl
theorem td99_ok : TD.Ok Tryz.prog 99 td99 := TD.Ok.of ⟨_, _, _, Tryz.underlying99⟩ info99 rfl rfl (by decide) (fun _ => rfl)
theorem info100 : (Tryz.prog.info? 100).map (fun i => (i.zero, i.size, i.bytes)) = some (some .nilFunc, 1, 8) := by kernel_rfl
theorem td100_ok : TD.Ok Tryz.prog 100 td100 := TD.Ok.of ⟨_, _, _, Tryz.underlying100⟩ info100 rfl rfl (by decide) (fun _ => rfl)
theorem info101 : (Tryz.prog.info? 101).map (fun i => (i.zero, i.size, i.bytes)) = some (some .nilFunc, 1, 8) := by kernel_rfl
theorem td101_ok : TD.Ok Tryz.prog 101 td101 := TD.Ok.of ⟨_, _, _, Tryz.underlying101⟩ info101 rfl rfl (by decide) (fun _ => rfl)
theorem info102 : (Tryz.prog.info? 102).map (fun i => (i.zero, i.size, i.bytes)) = some (some .nilFunc, 1, 8) := by kernel_rfl
theorem td102_ok : TD.Ok Tryz.prog 102 td102 := TD.Ok.of ⟨_, _, _, Tryz.underlying102⟩ info102 rfl rfl (by decide) (fun _ => rfl)
theorem info103 : (Tryz.prog.info? 103).map (fun i => (i.zero, i.size, i.bytes)) = some (some .nilFunc, 1, 8) := by kernel_rfl
theorem td103_ok : TD.Ok Tryz.prog 103 td103 := TD.Ok.of ⟨_, _, _, Tryz.underlying103⟩ info103 rfl rfl (by decide) (fun _ => rfl)
theorem info104 : (Tryz.prog.info? 104).map (fun i => (i.zero, i.size, i.bytes)) = some (some .nilFunc, 1, 8) := by kernel_rfl
theorem td104_ok : TD.Ok Tryz.prog 104 td104 := TD.Ok.of ⟨_, _, _, Tryz.underlying104⟩ info104 rfl rfl (by decide) (fun _ => rfl)
theorem info105 : (Tryz.prog.info? 105).map (fun i => (i.zero, i.size, i.bytes)) = some (some (.agg #[(.int .i64 0), (.int .i64 0)]), 2, 16) := by kernel_rfl
theorem td105_ok : TD.Ok Tryz.prog 105 td105 := TD.Ok.of ⟨_, Tryz.underlying105, rfl, Tryz.stoodInHeld105, Tryz.eqGuardType105, by decide⟩ info105 rfl rfl (by decide) (fun h => by cases h)
theorem info106 : (Tryz.prog.info? 106).map (fun i => (i.zero, i.size, i.bytes)) = some (some (.agg #[(.int .i64 0), (.int .i64 0)]), 2, 16) := by kernel_rfl
theorem td106_ok : TD.Ok Tryz.prog 106 td106 := TD.Ok.of ⟨_, Tryz.underlying106, rfl, Tryz.stoodInHeld106, Tryz.eqGuardType106, by decide⟩ info106 rfl rfl (by decide) (fun h => by cases h)
theorem info107 : (Tryz.prog.info? 107).map (fun i => (i.zero, i.size, i.bytes)) = some (some .nilFunc, 1, 8) := by kernel_rfl
theorem td107_ok : TD.Ok Tryz.prog 107 td107 := TD.Ok.of ⟨_, _, _, Tryz.underlying107⟩ info107 rfl rfl (by decide) (fun _ => rfl)
theorem info108 : (Tryz.prog.info? 108).map (fun i => (i.zero, i.size, i.bytes)) = some (some (.agg #[(.int .i64 0), (.int .i64 0)]), 2, 16) := by kernel_rfl
theorem td108_ok : TD.Ok Tryz.prog 108 td108 := TD.Ok.of ⟨_, Tryz.underlying108, rfl, Tryz.stoodInHeld108, Tryz.eqGuardType108, by decide⟩ info108 rfl rfl (by decide) (fun h => by cases h)
theorem info109 : (Tryz.prog.info? 109).map (fun i => (i.zero, i.size, i.bytes)) = some (some .nilFunc, 1, 8) := by kernel_rfl
theorem td109_ok : TD.Ok Tryz.prog 109 td109 := TD.Ok.of ⟨_, _, _, Tryz.underlying109⟩ info109 rfl rfl (by decide) (fun _ => rfl)
theorem info110 : (Tryz.prog.info? 110).map (fun i => (i.zero, i.size, i.bytes)) = some (some .nilFunc, 1, 8) := by kernel_rfl
theorem td110_ok : TD.Ok Tryz.prog 110 td110 := TD.Ok.of ⟨_, _, _, Tryz.underlying110⟩ info110 rfl rfl (by decide) (fun _ => rfl)
theorem info111 : (Tryz.prog.info? 111).map (fun i => (i.zero, i.size, i.bytes)) = some (some .nilFunc, 1, 8) := by kernel_rfl
theorem td111_ok : TD.Ok Tryz.prog 111 td111 := TD.Ok.of ⟨_, _, _, Tryz.underlying111⟩ info111 rfl rfl (by decide) (fun _ => rfl)
theorem info112 : (Tryz.prog.info? 112).map (fun i => (i.zero, i.size, i.bytes)) = some (some .nilFunc, 1, 8) := by kernel_rfl
theorem td112_ok : TD.Ok Tryz.prog 112 td112 := TD.Ok.of ⟨_, _, _, Tryz.underlying112⟩ info112 rfl rfl (by decide) (fun _ => rfl)
theorem info113 : (Tryz.prog.info? 113).map (fun i => (i.zero, i.size, i.bytes)) = some (some .nilFunc, 1, 8) := by kernel_rfl
theorem td113_ok : TD.Ok Tryz.prog 113 td113 := TD.Ok.of ⟨_, _, _, Tryz.underlying113⟩ info113 rfl rfl (by decide) (fun _ => rfl)
theorem info114 : (Tryz.prog.info? 114).map (fun i => (i.zero, i.size, i.bytes)) = some (some (.int .u64 0), 1, 8) := by kernel_rfl
theorem td114_ok : TD.Ok Tryz.prog 114 td114 := TD.Ok.of Tryz.underlying114 info114 rfl rfl (by decide) (fun _ => rfl)
theorem info115 : (Tryz.prog.info? 115).map (fun i => (i.zero, i.size, i.bytes)) = some (some .nilFunc, 1, 8) := by kernel_rfl
theorem td115_ok : TD.Ok Tryz.prog 115 td115 := TD.Ok.of ⟨_, _, _, Tryz.underlying115⟩ info115 rfl rfl (by decide) (fun _ => rfl)
theorem info116 : (Tryz.prog.info? 116).map (fun i => (i.zero, i.size, i.bytes)) = some (some (.slice none 0 0), 1, 24) := by kernel_rfl
theorem td116_ok : TD.Ok Tryz.prog 116 td116 := TD.Ok.of Tryz.underlying116 info116 rfl rfl (by decide) (fun _ => rfl)
theorem info117 : (Tryz.prog.info? 117).map (fun i => (i.zero, i.size, i.bytes)) = some (some .nilFunc, 1, 8) := by kernel_rfl
theorem td117_ok : TD.Ok Tryz.prog 117 td117 := TD.Ok.of ⟨_, _, _, Tryz.underlying117⟩ info117 rfl rfl (by decide) (fun _ => rfl)
theorem info118 : (Tryz.prog.info? 118).map (fun i => (i.zero, i.size, i.bytes)) = some (some .nilFunc, 1, 8) := by kernel_rfl
theorem td118_ok : TD.Ok Tryz.prog 118 td118 := TD.Ok.of ⟨_, _, _, Tryz.underlying118⟩ info118 rfl rfl (by decide) (fun _ => rfl)
theorem info119 : (Tryz.prog.info? 119).map (fun i => (i.zero, i.size, i.bytes)) = some (some .nilFunc, 1, 8) := by kernel_rfl
theorem td119_ok : TD.Ok Tryz.prog 119 td119 := TD.Ok.of ⟨_, _, _, Tryz.underlying119⟩ info119 rfl rfl (by decide) (fun _ => rfl)
theorem info120 : (Tryz.prog.info? 120).map (fun i => (i.zero, i.size, i.bytes)) = some (some .nilFunc, 1, 8) := by kernel_rfl
theorem td120_ok : TD.Ok Tryz.prog 120 td120 := TD.Ok.of ⟨_, _, _, Tryz.underlying120⟩ info120 rfl rfl (by decide) (fun _ => rfl)
theorem info121 : (Tryz.prog.info? 121).map (fun i => (i.zero, i.size, i.bytes)) = some (some .nilFunc, 1, 8) := by kernel_rfl
theorem td121_ok : TD.Ok Tryz.prog 121 td121 := TD.Ok.of ⟨_, _, _, Tryz.underlying121⟩ info121 rfl rfl (by decide) (fun _ => rfl)
theorem info122 : (Tryz.prog.info? 122).map (fun i => (i.zero, i.size, i.bytes)) = some (some .nilFunc, 1, 8) := by kernel_rfl
theorem td122_ok : TD.Ok Tryz.prog 122 td122 := TD.Ok.of ⟨_, _, _, Tryz.underlying122⟩ info122 rfl rfl (by decide) (fun _ => rfl)
theorem info123 : (Tryz.prog.info? 123).map (fun i => (i.zero, i.size, i.bytes)) = some (some .nilFunc, 1, 8) := by kernel_rfl
theorem td123_ok : TD.Ok Tryz.prog 123 td123 := TD.Ok.of ⟨_, _, _, Tryz.underlying123⟩ info123 rfl rfl (by decide) (fun _ => rfl)
theorem info124 : (Tryz.prog.info? 124).map (fun i => (i.zero, i.size, i.bytes)) = some (some .nilFunc, 1, 8) := by kernel_rfl
theorem td124_ok : TD.Ok Tryz.prog 124 td124 := TD.Ok.of ⟨_, _, _, Tryz.underlying124⟩ info124 rfl rfl (by decide) (fun _ => rfl)
theorem info125 : (Tryz.prog.info? 125).map (fun i => (i.zero, i.size, i.bytes)) = some (some .nilFunc, 1, 8) := by kernel_rfl
theorem td125_ok : TD.Ok Tryz.prog 125 td125 := TD.Ok.of ⟨_, _, _, Tryz.underlying125⟩ info125 rfl rfl (by decide) (fun _ => rfl)
theorem info126 : (Tryz.prog.info? 126).map (fun i => (i.zero, i.size, i.bytes)) = some (some .nilFunc, 1, 8) := by kernel_rfl
theorem td126_ok : TD.Ok Tryz.prog 126 td126 := TD.Ok.of ⟨_, _, _, Tryz.underlying126⟩ info126 rfl rfl (by decide) (fun _ => rfl)
theorem info127 : (Tryz.prog.info? 127).map (fun i => (i.zero, i.size, i.bytes)) = some (some .nilFunc, 1, 8) := by kernel_rfl
theorem td127_ok : TD.Ok Tryz.prog 127 td127 := TD.Ok.of ⟨_, _, _, Tryz.underlying127⟩ info127 rfl rfl (by decide) (fun _ => rfl)
theorem info128 : (Tryz.prog.info? 128).map (fun i => (i.zero, i.size, i.bytes)) = some (some .nilFunc, 1, 8) := by kernel_rfl
theorem td128_ok : TD.Ok Tryz.prog 128 td128 := TD.Ok.of ⟨_, _, _, Tryz.underlying128⟩ info128 rfl rfl (by decide) (fun _ => rfl)
theorem info129 : (Tryz.prog.info? 129).map (fun i => (i.zero, i.size, i.bytes)) = some (some .nilFunc, 1, 8) := by kernel_rfl
theorem td129_ok : TD.Ok Tryz.prog 129 td129 := TD.Ok.of ⟨_, _, _, Tryz.underlying129⟩ info129 rfl rfl (by decide) (fun _ => rfl)
theorem info130 : (Tryz.prog.info? 130).map (fun i => (i.zero, i.size, i.bytes)) = some (some (.slice none 0 0), 1, 24) := by kernel_rfl
theorem td130_ok : TD.Ok Tryz.prog 130 td130 := TD.Ok.of Tryz.underlying130 info130 rfl rfl (by decide) (fun _ => rfl)
theorem info131 : (Tryz.prog.info? 131).map (fun i => (i.zero, i.size, i.bytes)) = some (some (.agg #[(.int .i64 0), (.slice none 0 0), (.slice none 0 0), (.slice none 0 0)]), 4, 80) := by kernel_rfl
theorem td131_ok : TD.Ok Tryz.prog 131 td131 := TD.Ok.of ⟨_, Tryz.underlying131, rfl, Tryz.stoodInHeld131, Tryz.eqGuardType131, by decide⟩ info131 rfl rfl (by decide) (fun h => by cases h)
theorem info132 : (Tryz.prog.info? 132).map (fun i => (i.zero, i.size, i.bytes)) = some (some (.agg #[(.int .i64 0), (.slice none 0 0), (.slice none 0 0), (.slice none 0 0)]), 4, 80) := by kernel_rfl
theorem td132_ok : TD.Ok Tryz.prog 132 td132 := TD.Ok.of ⟨_, Tryz.underlying132, rfl, Tryz.stoodInHeld132, Tryz.eqGuardType132, by decide⟩ info132 rfl rfl (by decide) (fun h => by cases h)
theorem info133 : (Tryz.prog.info? 133).map (fun i => (i.zero, i.size, i.bytes)) = some (some .nilFunc, 1, 8) := by kernel_rfl
theorem td133_ok : TD.Ok Tryz.prog 133 td133 := TD.Ok.of ⟨_, _, _, Tryz.underlying133⟩ info133 rfl rfl (by decide) (fun _ => rfl)
theorem info134 : (Tryz.prog.info? 134).map (fun i => (i.zero, i.size, i.bytes)) = some (some (.agg #[(.int .i64 0), (.int .i64 0), (.int .i64 0)]), 3, 24) := by kernel_rfl
theorem td134_ok : TD.Ok Tryz.prog 134 td134 := TD.Ok.of ⟨_, Tryz.underlying134, rfl, Tryz.stoodInHeld134, Tryz.eqGuardType134, by decide⟩ info134 rfl rfl (by decide) (fun h => by cases h)
theorem info135 : (Tryz.prog.info? 135).map (fun i => (i.zero, i.size, i.bytes)) = some (some (.agg #[(.int .i64 0), (.int .i64 0), (.int .i64 0)]), 3, 24) := by kernel_rfl
theorem td135_ok : TD.Ok Tryz.prog 135 td135 := TD.Ok.of ⟨_, Tryz.underlying135, rfl, Tryz.stoodInHeld135, Tryz.eqGuardType135, by decide⟩ info135 rfl rfl (by decide) (fun h => by cases h)
theorem info136 : (Tryz.prog.info? 136).map (fun i => (i.zero, i.size, i.bytes)) = some (some .nilFunc, 1, 8) := by kernel_rfl
theorem td136_ok : TD.Ok Tryz.prog 136 td136 := TD.Ok.of ⟨_, _, _, Tryz.underlying136⟩ info136 rfl rfl (by decide) (fun _ => rfl)
theorem info137 : (Tryz.prog.info? 137).map (fun i => (i.zero, i.size, i.bytes)) = some (some .nilFunc, 1, 8) := by kernel_rfl
theorem td137_ok : TD.Ok Tryz.prog 137 td137 := TD.Ok.of ⟨_, _, _, Tryz.underlying137⟩ info137 rfl rfl (by decide) (fun _ => rfl)
theorem info138 : (Tryz.prog.info? 138).map (fun i => (i.zero, i.size, i.bytes)) = some (some .nilFunc, 1, 8) := by kernel_rfl
theorem td138_ok : TD.Ok Tryz.prog 138 td138 := TD.Ok.of ⟨_, _, _, Tryz.underlying138⟩ info138 rfl rfl (by decide) (fun _ => rfl)
theorem info139 : (Tryz.prog.info? 139).map (fun i => (i.zero, i.size, i.bytes)) = some (some .nilFunc, 1, 8) := by kernel_rfl
theorem td139_ok : TD.Ok Tryz.prog 139 td139 := TD.Ok.of ⟨_, _, _, Tryz.underlying139⟩ info139 rfl rfl (by decide) (fun _ => rfl)
theorem info140 : (Tryz.prog.info? 140).map (fun i => (i.zero, i.size, i.bytes)) = some (some .nilFunc, 1, 8) := by kernel_rfl
theorem td140_ok : TD.Ok Tryz.prog 140 td140 := TD.Ok.of ⟨_, _, _, Tryz.underlying140⟩ info140 rfl rfl (by decide) (fun _ => rfl)
theorem info141 : (Tryz.prog.info? 141).map (fun i => (i.zero, i.size, i.bytes)) = some (some .nilFunc, 1, 8) := by kernel_rfl
theorem td141_ok : TD.Ok Tryz.prog 141 td141 := TD.Ok.of ⟨_, _, _, Tryz.underlying141⟩ info141 rfl rfl (by decide) (fun _ => rfl)
theorem info142 : (Tryz.prog.info? 142).map (fun i => (i.zero, i.size, i.bytes)) = some (some .nilFunc, 1, 8) := by kernel_rfl
theorem td142_ok : TD.Ok Tryz.prog 142 td142 := TD.Ok.of ⟨_, _, _, Tryz.underlying142⟩ info142 rfl rfl (by decide) (fun _ => rfl)
theorem info143 : (Tryz.prog.info? 143).map (fun i => (i.zero, i.size, i.bytes)) = some (some .nilFunc, 1, 8) := by kernel_rfl
theorem td143_ok : TD.Ok Tryz.prog 143 td143 := TD.Ok.of ⟨_, _, _, Tryz.underlying143⟩ info143 rfl rfl (by decide) (fun _ => rfl)
theorem info144 : (Tryz.prog.info? 144).map (fun i => (i.zero, i.size, i.bytes)) = some (some .nilFunc, 1, 8) := by kernel_rfl
theorem td144_ok : TD.Ok Tryz.prog 144 td144 := TD.Ok.of ⟨_, _, _, Tryz.underlying144⟩ info144 rfl rfl (by decide) (fun _ => rfl)
theorem info145 : (Tryz.prog.info? 145).map (fun i => (i.zero, i.size, i.bytes)) = some (some (.slice none 0 0), 1, 24) := by kernel_rfl
theorem td145_ok : TD.Ok Tryz.prog 145 td145 := TD.Ok.of Tryz.underlying145 info145 rfl rfl (by decide) (fun _ => rfl)
theorem info146 : (Tryz.prog.info? 146).map (fun i => (i.zero, i.size, i.bytes)) = some (some (.agg #[(.slice none 0 0), (.slice none 0 0)]), 2, 48) := by kernel_rfl
theorem td146_ok : TD.Ok Tryz.prog 146 td146 := TD.Ok.of ⟨_, Tryz.underlying146, rfl, Tryz.stoodInHeld146, Tryz.eqGuardType146, by decide⟩ info146 rfl rfl (by decide) (fun h => by cases h)
theorem info147 : (Tryz.prog.info? 147).map (fun i => (i.zero, i.size, i.bytes)) = some (some (.agg #[(.slice none 0 0), (.slice none 0 0)]), 2, 48) := by kernel_rfl
theorem td147_ok : TD.Ok Tryz.prog 147 td147 := TD.Ok.of ⟨_, Tryz.underlying147, rfl, Tryz.stoodInHeld147, Tryz.eqGuardType147, by decide⟩ info147 rfl rfl (by decide) (fun h => by cases h)
theorem info148 : (Tryz.prog.info? 148).map (fun i => (i.zero, i.size, i.bytes)) = some (some (.slice none 0 0), 1, 24) := by kernel_rfl
theorem td148_ok : TD.Ok Tryz.prog 148 td148 := TD.Ok.of Tryz.underlying148 info148 rfl rfl (by decide) (fun _ => rfl)
theorem info149 : (Tryz.prog.info? 149).map (fun i => (i.zero, i.size, i.bytes)) = some (some (.agg #[(.slice none 0 0), (.slice none 0 0)]), 2, 48) := by kernel_rfl
theorem td149_ok : TD.Ok Tryz.prog 149 td149 := TD.Ok.of ⟨_, Tryz.underlying149, rfl, Tryz.stoodInHeld149, Tryz.eqGuardType149, by decide⟩ info149 rfl rfl (by decide) (fun h => by cases h)
theorem info150 : (Tryz.prog.info? 150).map (fun i => (i.zero, i.size, i.bytes)) = some (some (.agg #[(.slice none 0 0), (.slice none 0 0)]), 2, 48) := by kernel_rfl
theorem td150_ok : TD.Ok Tryz.prog 150 td150 := TD.Ok.of ⟨_, Tryz.underlying150, rfl, Tryz.stoodInHeld150, Tryz.eqGuardType150, by decide⟩ info150 rfl rfl (by decide) (fun h => by cases h)
theorem info151 : (Tryz.prog.info? 151).map (fun i => (i.zero, i.size, i.bytes)) = some (some .nilFunc, 1, 8) := by kernel_rfl
theorem td151_ok : TD.Ok Tryz.prog 151 td151 := TD.Ok.of ⟨_, _, _, Tryz.underlying151⟩ info151 rfl rfl (by decide) (fun _ => rfl)
theorem info152 : (Tryz.prog.info? 152).map (fun i => (i.zero, i.size, i.bytes)) = some (some .nilFunc, 1, 8) := by kernel_rfl
theorem td152_ok : TD.Ok Tryz.prog 152 td152 := TD.Ok.of ⟨_, _, _, Tryz.underlying152⟩ info152 rfl rfl (by decide) (fun _ => rfl)
theorem info153 : (Tryz.prog.info? 153).map (fun i => (i.zero, i.size, i.bytes)) = some (some (.int .u64 0), 1, 8) := by kernel_rfl
theorem td153_ok : TD.Ok Tryz.prog 153 td153 := TD.Ok.of Tryz.underlying153 info153 rfl rfl (by decide) (fun _ => rfl)
theorem info154 : (Tryz.prog.info? 154).map (fun i => (i.zero, i.size, i.bytes)) = some (some (.agg #[(.int .i64 0), (.int .u64 0)]), 2, 16) := by kernel_rfl
theorem td154_ok : TD.Ok Tryz.prog 154 td154 := TD.Ok.of ⟨_, Tryz.underlying154, rfl, Tryz.stoodInHeld154, Tryz.eqGuardType154, by decide⟩ info154 rfl rfl (by decide) (fun h => by cases h)
theorem info155 : (Tryz.prog.info? 155).map (fun i => (i.zero, i.size, i.bytes)) = some (some (.agg #[(.int .i64 0), (.int .u64 0)]), 2, 16) := by kernel_rfl
theorem td155_ok : TD.Ok Tryz.prog 155 td155 := TD.Ok.of ⟨_, Tryz.underlying155, rfl, Tryz.stoodInHeld155, Tryz.eqGuardType155, by decide⟩ info155 rfl rfl (by decide) (fun h => by cases h)
theorem info157 : (Tryz.prog.info? 157).map (fun i => (i.zero, i.size, i.bytes)) = some (some .nilFunc, 1, 8) := by kernel_rfl
theorem td157_ok : TD.Ok Tryz.prog 157 td157 := TD.Ok.of ⟨_, _, _, Tryz.underlying157⟩ info157 rfl rfl (by decide) (fun _ => rfl)
theorem info158 : (Tryz.prog.info? 158).map (fun i => (i.zero, i.size, i.bytes)) = some (some .nilFunc, 1, 8) := by kernel_rfl
theorem td158_ok : TD.Ok Tryz.prog 158 td158 := TD.Ok.of ⟨_, _, _, Tryz.underlying158⟩ info158 rfl rfl (by decide) (fun _ => rfl)
theorem info159 : (Tryz.prog.info? 159).map (fun i => (i.zero, i.size, i.bytes)) = some (some .nilFunc, 1, 8) := by kernel_rfl
theorem td159_ok : TD.Ok Tryz.prog 159 td159 := TD.Ok.of ⟨_, _, _, Tryz.underlying159⟩ info159 rfl rfl (by decide) (fun _ => rfl)
theorem info160 : (Tryz.prog.info? 160).map (fun i => (i.zero, i.size, i.bytes)) = some (some (.agg #[(.int .i64 0), (.int .u64 0)]), 2, 16) := by kernel_rfl
theorem td160_ok : TD.Ok Tryz.prog 160 td160 := TD.Ok.of ⟨_, Tryz.underlying160, rfl, Tryz.stoodInHeld160, Tryz.eqGuardType160, by decide⟩ info160 rfl rfl (by decide) (fun h => by cases h)
theorem info161 : (Tryz.prog.info? 161).map (fun i => (i.zero, i.size, i.bytes)) = some (some .nilFunc, 1, 8) := by kernel_rfl
theorem td161_ok : TD.Ok Tryz.prog 161 td161 := TD.Ok.of ⟨_, _, _, Tryz.underlying161⟩ info161 rfl rfl (by decide) (fun _ => rfl)
theorem info162 : (Tryz.prog.info? 162).map (fun i => (i.zero, i.size, i.bytes)) = some (some .nilFunc, 1, 8) := by kernel_rfl
theorem td162_ok : TD.Ok Tryz.prog 162 td162 := TD.Ok.of ⟨_, _, _, Tryz.underlying162⟩ info162 rfl rfl (by decide) (fun _ => rfl)
theorem info163 : (Tryz.prog.info? 163).map (fun i => (i.zero, i.size, i.bytes)) = some (some .nilFunc, 1, 8) := by kernel_rfl
theorem td163_ok : TD.Ok Tryz.prog 163 td163 := TD.Ok.of ⟨_, _, _, Tryz.underlying163⟩ info163 rfl rfl (by decide) (fun _ => rfl)
theorem info164 : (Tryz.prog.info? 164).map (fun i => (i.zero, i.size, i.bytes)) = some (some .nilFunc, 1, 8) := by kernel_rfl
theorem td164_ok : TD.Ok Tryz.prog 164 td164 := TD.Ok.of ⟨_, _, _, Tryz.underlying164⟩ info164 rfl rfl (by decide) (fun _ => rfl)
theorem info165 : (Tryz.prog.info? 165).map (fun i => (i.zero, i.size, i.bytes)) = some (some .nilFunc, 1, 8) := by kernel_rfl
theorem td165_ok : TD.Ok Tryz.prog 165 td165 := TD.Ok.of ⟨_, _, _, Tryz.underlying165⟩ info165 rfl rfl (by decide) (fun _ => rfl)
theorem info166 : (Tryz.prog.info? 166).map (fun i => (i.zero, i.size, i.bytes)) = some (some .nilFunc, 1, 8) := by kernel_rfl
theorem td166_ok : TD.Ok Tryz.prog 166 td166 := TD.Ok.of ⟨_, _, _, Tryz.underlying166⟩ info166 rfl rfl (by decide) (fun _ => rfl)
theorem info167 : (Tryz.prog.info? 167).map (fun i => (i.zero, i.size, i.bytes)) = some (some .nilFunc, 1, 8) := by kernel_rfl
theorem td167_ok : TD.Ok Tryz.prog 167 td167 := TD.Ok.of ⟨_, _, _, Tryz.underlying167⟩ info167 rfl rfl (by decide) (fun _ => rfl)
theorem info168 : (Tryz.prog.info? 168).map (fun i => (i.zero, i.size, i.bytes)) = some (some .nilFunc, 1, 8) := by kernel_rfl
theorem td168_ok : TD.Ok Tryz.prog 168 td168 := TD.Ok.of ⟨_, _, _, Tryz.underlying168⟩ info168 rfl rfl (by decide) (fun _ => rfl)
theorem info169 : (Tryz.prog.info? 169).map (fun i => (i.zero, i.size, i.bytes)) = some (some .nilFunc, 1, 8) := by kernel_rfl
theorem td169_ok : TD.Ok Tryz.prog 169 td169 := TD.Ok.of ⟨_, _, _, Tryz.underlying169⟩ info169 rfl rfl (by decide) (fun _ => rfl)
theorem info170 : (Tryz.prog.info? 170).map (fun i => (i.zero, i.size, i.bytes)) = some (some .nilFunc, 1, 8) := by kernel_rfl
theorem td170_ok : TD.Ok Tryz.prog 170 td170 := TD.Ok.of ⟨_, _, _, Tryz.underlying170⟩ info170 rfl rfl (by decide) (fun _ => rfl)
theorem info171 : (Tryz.prog.info? 171).map (fun i => (i.zero, i.size, i.bytes)) = some (some .nilFunc, 1, 8) := by kernel_rfl
theorem td171_ok : TD.Ok Tryz.prog 171 td171 := TD.Ok.of ⟨_, _, _, Tryz.underlying171⟩ info171 rfl rfl (by decide) (fun _ => rfl)
theorem info172 : (Tryz.prog.info? 172).map (fun i => (i.zero, i.size, i.bytes)) = some (some .nilFunc, 1, 8) := by kernel_rfl
theorem td172_ok : TD.Ok Tryz.prog 172 td172 := TD.Ok.of ⟨_, _, _, Tryz.underlying172⟩ info172 rfl rfl (by decide) (fun _ => rfl)
theorem info173 : (Tryz.prog.info? 173).map (fun i => (i.zero, i.size, i.bytes)) = some (some .nilFunc, 1, 8) := by kernel_rfl
theorem td173_ok : TD.Ok Tryz.prog 173 td173 := TD.Ok.of ⟨_, _, _, Tryz.underlying173⟩ info173 rfl rfl (by decide) (fun _ => rfl)
theorem info174 : (Tryz.prog.info? 174).map (fun i => (i.zero, i.size, i.bytes)) = some (some .nilFunc, 1, 8) := by kernel_rfl
theorem td174_ok : TD.Ok Tryz.prog 174 td174 := TD.Ok.of ⟨_, _, _, Tryz.underlying174⟩ info174 rfl rfl (by decide) (fun _ => rfl)
theorem info175 : (Tryz.prog.info? 175).map (fun i => (i.zero, i.size, i.bytes)) = some (some .nilFunc, 1, 8) := by kernel_rfl
theorem td175_ok : TD.Ok Tryz.prog 175 td175 := TD.Ok.of ⟨_, _, _, Tryz.underlying175⟩ info175 rfl rfl (by decide) (fun _ => rfl)
theorem info176 : (Tryz.prog.info? 176).map (fun i => (i.zero, i.size, i.bytes)) = some (some .nilFunc, 1, 8) := by kernel_rfl
theorem td176_ok : TD.Ok Tryz.prog 176 td176 := TD.Ok.of ⟨_, _, _, Tryz.underlying176⟩ info176 rfl rfl (by decide) (fun _ => rfl)
theorem info177 : (Tryz.prog.info? 177).map (fun i => (i.zero, i.size, i.bytes)) = some (some .nilFunc, 1, 8) := by kernel_rfl
theorem td177_ok : TD.Ok Tryz.prog 177 td177 := TD.Ok.of ⟨_, _, _, Tryz.underlying177⟩ info177 rfl rfl (by decide) (fun _ => rfl)
theorem info178 : (Tryz.prog.info? 178).map (fun i => (i.zero, i.size, i.bytes)) = some (some .nilFunc, 1, 8) := by kernel_rfl
theorem td178_ok : TD.Ok Tryz.prog 178 td178 := TD.Ok.of ⟨_, _, _, Tryz.underlying178⟩ info178 rfl rfl (by decide) (fun _ => rfl)
theorem info179 : (Tryz.prog.info? 179).map (fun i => (i.zero, i.size, i.bytes)) = some (some .nilFunc, 1, 8) := by kernel_rfl
theorem td179_ok : TD.Ok Tryz.prog 179 td179 := TD.Ok.of ⟨_, _, _, Tryz.underlying179⟩ info179 rfl rfl (by decide) (fun _ => rfl)
theorem info180 : (Tryz.prog.info? 180).map (fun i => (i.zero, i.size, i.bytes)) = some (some .nilFunc, 1, 8) := by kernel_rfl
theorem td180_ok : TD.Ok Tryz.prog 180 td180 := TD.Ok.of ⟨_, _, _, Tryz.underlying180⟩ info180 rfl rfl (by decide) (fun _ => rfl)
theorem info181 : (Tryz.prog.info? 181).map (fun i => (i.zero, i.size, i.bytes)) = some (some .nilFunc, 1, 8) := by kernel_rfl
theorem td181_ok : TD.Ok Tryz.prog 181 td181 := TD.Ok.of ⟨_, _, _, Tryz.underlying181⟩ info181 rfl rfl (by decide) (fun _ => rfl)
theorem info182 : (Tryz.prog.info? 182).map (fun i => (i.zero, i.size, i.bytes)) = some (some .nilFunc, 1, 8) := by kernel_rfl
theorem td182_ok : TD.Ok Tryz.prog 182 td182 := TD.Ok.of ⟨_, _, _, Tryz.underlying182⟩ info182 rfl rfl (by decide) (fun _ => rfl)
theorem info183 : (Tryz.prog.info? 183).map (fun i => (i.zero, i.size, i.bytes)) = some (some (.slice none 0 0), 1, 24) := by kernel_rfl
theorem td183_ok : TD.Ok Tryz.prog 183 td183 := TD.Ok.of Tryz.underlying183 info183 rfl rfl (by decide) (fun _ => rfl)
theorem info184 : (Tryz.prog.info? 184).map (fun i => (i.zero, i.size, i.bytes)) = some (some .nilFunc, 1, 8) := by kernel_rfl
theorem td184_ok : TD.Ok Tryz.prog 184 td184 := TD.Ok.of ⟨_, _, _, Tryz.underlying184⟩ info184 rfl rfl (by decide) (fun _ => rfl)
theorem info185 : (Tryz.prog.info? 185).map (fun i => (i.zero, i.size, i.bytes)) = some (some .nilFunc, 1, 8) := by kernel_rfl
theorem td185_ok : TD.Ok Tryz.prog 185 td185 := TD.Ok.of ⟨_, _, _, Tryz.underlying185⟩ info185 rfl rfl (by decide) (fun _ => rfl)
theorem info186 : (Tryz.prog.info? 186).map (fun i => (i.zero, i.size, i.bytes)) = some (some .nilFunc, 1, 8) := by kernel_rfl
theorem td186_ok : TD.Ok Tryz.prog 186 td186 := TD.Ok.of ⟨_, _, _, Tryz.underlying186⟩ info186 rfl rfl (by decide) (fun _ => rfl)
theorem info187 : (Tryz.prog.info? 187).map (fun i => (i.zero, i.size, i.bytes)) = some (some (.agg #[(.int .i64 0), (.slice none 0 0)]), 2, 32) := by kernel_rfl
theorem td187_ok : TD.Ok Tryz.prog 187 td187 := TD.Ok.of ⟨_, Tryz.underlying187, rfl, Tryz.stoodInHeld187, Tryz.eqGuardType187, by decide⟩ info187 rfl rfl (by decide) (fun h => by cases h)
theorem info188 : (Tryz.prog.info? 188).map (fun i => (i.zero, i.size, i.bytes)) = some (some (.agg #[(.int .i64 0), (.slice none 0 0)]), 2, 32) := by kernel_rfl
theorem td188_ok : TD.Ok Tryz.prog 188 td188 := TD.Ok.of ⟨_, Tryz.underlying188, rfl, Tryz.stoodInHeld188, Tryz.eqGuardType188, by decide⟩ info188 rfl rfl (by decide) (fun h => by cases h)
theorem info189 : (Tryz.prog.info? 189).map (fun i => (i.zero, i.size, i.bytes)) = some (some .nilFunc, 1, 8) := by kernel_rfl
theorem td189_ok : TD.Ok Tryz.prog 189 td189 := TD.Ok.of ⟨_, _, _, Tryz.underlying189⟩ info189 rfl rfl (by decide) (fun _ => rfl)
theorem info190 : (Tryz.prog.info? 190).map (fun i => (i.zero, i.size, i.bytes)) = some (some .nilFunc, 1, 8) := by kernel_rfl
theorem td190_ok : TD.Ok Tryz.prog 190 td190 := TD.Ok.of ⟨_, _, _, Tryz.underlying190⟩ info190 rfl rfl (by decide) (fun _ => rfl)
theorem info191 : (Tryz.prog.info? 191).map (fun i => (i.zero, i.size, i.bytes)) = some (some .nilFunc, 1, 8) := by kernel_rfl
theorem td191_ok : TD.Ok Tryz.prog 191 td191 := TD.Ok.of ⟨_, _, _, Tryz.underlying191⟩ info191 rfl rfl (by decide) (fun _ => rfl)
theorem info192 : (Tryz.prog.info? 192).map (fun i => (i.zero, i.size, i.bytes)) = some (some .nilFunc, 1, 8) := by kernel_rfl
theorem td192_ok : TD.Ok Tryz.prog 192 td192 := TD.Ok.of ⟨_, _, _, Tryz.underlying192⟩ info192 rfl rfl (by decide) (fun _ => rfl)
theorem info193 : (Tryz.prog.info? 193).map (fun i => (i.zero, i.size, i.bytes)) = some (some .nilFunc, 1, 8) := by kernel_rfl
theorem td193_ok : TD.Ok Tryz.prog 193 td193 := TD.Ok.of ⟨_, _, _, Tryz.underlying193⟩ info193 rfl rfl (by decide) (fun _ => rfl)
theorem info194 : (Tryz.prog.info? 194).map (fun i => (i.zero, i.size, i.bytes)) = some (some .nilFunc, 1, 8) := by kernel_rfl
theorem td194_ok : TD.Ok Tryz.prog 194 td194 := TD.Ok.of ⟨_, _, _, Tryz.underlying194⟩ info194 rfl rfl (by decide) (fun _ => rfl)
theorem info195 : (Tryz.prog.info? 195).map (fun i => (i.zero, i.size, i.bytes)) = some (some .nilFunc, 1, 8) := by kernel_rfl
theorem td195_ok : TD.Ok Tryz.prog 195 td195 := TD.Ok.of ⟨_, _, _, Tryz.underlying195⟩ info195 rfl rfl (by decide) (fun _ => rfl)
theorem info196 : (Tryz.prog.info? 196).map (fun i => (i.zero, i.size, i.bytes)) = some (some .nilFunc, 1, 8) := by kernel_rfl
theorem td196_ok : TD.Ok Tryz.prog 196 td196 := TD.Ok.of ⟨_, _, _, Tryz.underlying196⟩ info196 rfl rfl (by decide) (fun _ => rfl)
theorem info197 : (Tryz.prog.info? 197).map (fun i => (i.zero, i.size, i.bytes)) = some (some .nilFunc, 1, 8) := by kernel_rfl
theorem td197_ok : TD.Ok Tryz.prog 197 td197 := TD.Ok.of ⟨_, _, _, Tryz.underlying197⟩ info197 rfl rfl (by decide) (fun _ => rfl)
theorem info198 : (Tryz.prog.info? 198).map (fun i => (i.zero, i.size, i.bytes)) = some (some .nilFunc, 1, 8) := by kernel_rfl
theorem td198_ok : TD.Ok Tryz.prog 198 td198 := TD.Ok.of ⟨_, _, _, Tryz.underlying198⟩ info198 rfl rfl (by decide) (fun _ => rfl)
theorem info199 : (Tryz.prog.info? 199).map (fun i => (i.zero, i.size, i.bytes)) = some (some .nilFunc, 1, 8) := by kernel_rfl
theorem td199_ok : TD.Ok Tryz.prog 199 td199 := TD.Ok.of ⟨_, _, _, Tryz.underlying199⟩ info199 rfl rfl (by decide) (fun _ => rfl)
theorem info200 : (Tryz.prog.info? 200).map (fun i => (i.zero, i.size, i.bytes)) = some (some (.agg #[(.int .i64 0), (.slice none 0 0)]), 2, 32) := by kernel_rfl
theorem td200_ok : TD.Ok Tryz.prog 200 td200 := TD.Ok.of ⟨_, Tryz.underlying200, rfl, Tryz.stoodInHeld200, Tryz.eqGuardType200, by decide⟩ info200 rfl rfl (by decide) (fun h => by cases h)
theorem info201 : (Tryz.prog.info? 201).map (fun i => (i.zero, i.size, i.bytes)) = some (some (.agg #[(.int .i64 0), (.slice none 0 0)]), 2, 32) := by kernel_rfl
theorem td201_ok : TD.Ok Tryz.prog 201 td201 := TD.Ok.of ⟨_, Tryz.underlying201, rfl, Tryz.stoodInHeld201, Tryz.eqGuardType201, by decide⟩ info201 rfl rfl (by decide) (fun h => by cases h)
theorem info202 : (Tryz.prog.info? 202).map (fun i => (i.zero, i.size, i.bytes)) = some (some .nilFunc, 1, 8) := by kernel_rfl
theorem td202_ok : TD.Ok Tryz.prog 202 td202 := TD.Ok.of ⟨_, _, _, Tryz.underlying202⟩ info202 rfl rfl (by decide) (fun _ => rfl)
theorem info203 : (Tryz.prog.info? 203).map (fun i => (i.zero, i.size, i.bytes)) = some (some .nilFunc, 1, 8) := by kernel_rfl
theorem td203_ok : TD.Ok Tryz.prog 203 td203 := TD.Ok.of ⟨_, _, _, Tryz.underlying203⟩ info203 rfl rfl (by decide) (fun _ => rfl)
theorem info204 : (Tryz.prog.info? 204).map (fun i => (i.zero, i.size, i.bytes)) = some (some (.int .i64 0), 1, 8) := by kernel_rfl
theorem td204_ok : TD.Ok Tryz.prog 204 td204 := TD.Ok.of Tryz.underlying204 info204 rfl rfl (by decide) (fun _ => rfl)
theorem info206 : (Tryz.prog.info? 206).map (fun i => (i.zero, i.size, i.bytes)) = some (some .nilFunc, 1, 8) := by kernel_rfl
theorem td206_ok : TD.Ok Tryz.prog 206 td206 := TD.Ok.of ⟨_, _, _, Tryz.underlying206⟩ info206 rfl rfl (by decide) (fun _ => rfl)
theorem info207 : (Tryz.prog.info? 207).map (fun i => (i.zero, i.size, i.bytes)) = some (some .nilFunc, 1, 8) := by kernel_rfl
theorem td207_ok : TD.Ok Tryz.prog 207 td207 := TD.Ok.of ⟨_, _, _, Tryz.underlying207⟩ info207 rfl rfl (by decide) (fun _ => rfl)
theorem info208 : (Tryz.prog.info? 208).map (fun i => (i.zero, i.size, i.bytes)) = some (some .nilFunc, 1, 8) := by kernel_rfl
theorem td208_ok : TD.Ok Tryz.prog 208 td208 := TD.Ok.of ⟨_, _, _, Tryz.underlying208⟩ info208 rfl rfl (by decide) (fun _ => rfl)
theorem info209 : (Tryz.prog.info? 209).map (fun i => (i.zero, i.size, i.bytes)) = some (some .nilFunc, 1, 8) := by kernel_rfl
theorem td209_ok : TD.Ok Tryz.prog 209 td209 := TD.Ok.of ⟨_, _, _, Tryz.underlying209⟩ info209 rfl rfl (by decide) (fun _ => rfl)
theorem info210 : (Tryz.prog.info? 210).map (fun i => (i.zero, i.size, i.bytes)) = some (some .nilFunc, 1, 8) := by kernel_rfl
theorem td210_ok : TD.Ok Tryz.prog 210 td210 := TD.Ok.of ⟨_, _, _, Tryz.underlying210⟩ info210 rfl rfl (by decide) (fun _ => rfl)
theorem info211 : (Tryz.prog.info? 211).map (fun i => (i.zero, i.size, i.bytes)) = some (some (.int .u32 0), 1, 4) := by kernel_rfl
theorem td211_ok : TD.Ok Tryz.prog 211 td211 := TD.Ok.of Tryz.underlying211 info211 rfl rfl (by decide) (fun _ => rfl)
theorem info212 : (Tryz.prog.info? 212).map (fun i => (i.zero, i.size, i.bytes)) = some (some .nilFunc, 1, 8) := by kernel_rfl
theorem td212_ok : TD.Ok Tryz.prog 212 td212 := TD.Ok.of ⟨_, _, _, Tryz.underlying212⟩ info212 rfl rfl (by decide) (fun _ => rfl)
theorem info213 : (Tryz.prog.info? 213).map (fun i => (i.zero, i.size, i.bytes)) = some (some .nilFunc, 1, 8) := by kernel_rfl
theorem td213_ok : TD.Ok Tryz.prog 213 td213 := TD.Ok.of ⟨_, _, _, Tryz.underlying213⟩ info213 rfl rfl (by decide) (fun _ => rfl)
theorem info215 : (Tryz.prog.info? 215).map (fun i => (i.zero, i.size, i.bytes)) = some (some .nilFunc, 1, 8) := by kernel_rfl
theorem td215_ok : TD.Ok Tryz.prog 215 td215 := TD.Ok.of ⟨_, _, _, Tryz.underlying215⟩ info215 rfl rfl (by decide) (fun _ => rfl)
theorem info216 : (Tryz.prog.info? 216).map (fun i => (i.zero, i.size, i.bytes)) = some (some .nilFunc, 1, 8) := by kernel_rfl
theorem td216_ok : TD.Ok Tryz.prog 216 td216 := TD.Ok.of ⟨_, _, _, Tryz.underlying216⟩ info216 rfl rfl (by decide) (fun _ => rfl)
theorem info217 : (Tryz.prog.info? 217).map (fun i => (i.zero, i.size, i.bytes)) = some (some .nilFunc, 1, 8) := by kernel_rfl
theorem td217_ok : TD.Ok Tryz.prog 217 td217 := TD.Ok.of ⟨_, _, _, Tryz.underlying217⟩ info217 rfl rfl (by decide) (fun _ => rfl)
theorem info218 : (Tryz.prog.info? 218).map (fun i => (i.zero, i.size, i.bytes)) = some (some .nilFunc, 1, 8) := by kernel_rfl
theorem td218_ok : TD.Ok Tryz.prog 218 td218 := TD.Ok.of ⟨_, _, _, Tryz.underlying218⟩ info218 rfl rfl (by decide) (fun _ => rfl)
theorem info219 : (Tryz.prog.info? 219).map (fun i => (i.zero, i.size, i.bytes)) = some (some (.int .u64 0), 1, 8) := by kernel_rfl
theorem td219_ok : TD.Ok Tryz.prog 219 td219 := TD.Ok.of Tryz.underlying219 info219 rfl rfl (by decide) (fun _ => rfl)
theorem info220 : (Tryz.prog.info? 220).map (fun i => (i.zero, i.size, i.bytes)) = some (some .nilFunc, 1, 8) := by kernel_rfl
theorem td220_ok : TD.Ok Tryz.prog 220 td220 := TD.Ok.of ⟨_, _, _, Tryz.underlying220⟩ info220 rfl rfl (by decide) (fun _ => rfl)
theorem info221 : (Tryz.prog.info? 221).map (fun i => (i.zero, i.size, i.bytes)) = some (some .nilFunc, 1, 8) := by kernel_rfl
theorem td221_ok : TD.Ok Tryz.prog 221 td221 := TD.Ok.of ⟨_, _, _, Tryz.underlying221⟩ info221 rfl rfl (by decide) (fun _ => rfl)
theorem info222 : (Tryz.prog.info? 222).map (fun i => (i.zero, i.size, i.bytes)) = some (some .nilFunc, 1, 8) := by kernel_rfl
theorem td222_ok : TD.Ok Tryz.prog 222 td222 := TD.Ok.of ⟨_, _, _, Tryz.underlying222⟩ info222 rfl rfl (by decide) (fun _ => rfl)
theorem info223 : (Tryz.prog.info? 223).map (fun i => (i.zero, i.size, i.bytes)) = some (some (.pointer none), 1, 8) := by kernel_rfl
theorem td223_ok : TD.Ok Tryz.prog 223 td223 := TD.Ok.of Tryz.underlying223 info223 rfl rfl (by decide) (fun _ => rfl)
theorem info224 : (Tryz.prog.info? 224).map (fun i => (i.zero, i.size, i.bytes)) = some (some .nilFunc, 1, 8) := by kernel_rfl
theorem td224_ok : TD.Ok Tryz.prog 224 td224 := TD.Ok.of ⟨_, _, _, Tryz.underlying224⟩ info224 rfl rfl (by decide) (fun _ => rfl)
theorem info225 : (Tryz.prog.info? 225).map (fun i => (i.zero, i.size, i.bytes)) = some (some .nilFunc, 1, 8) := by kernel_rfl
theorem td225_ok : TD.Ok Tryz.prog 225 td225 := TD.Ok.of ⟨_, _, _, Tryz.underlying225⟩ info225 rfl rfl (by decide) (fun _ => rfl)
theorem info227 : (Tryz.prog.info? 227).map (fun i => (i.zero, i.size, i.bytes)) = some (some .nilFunc, 1, 8) := by kernel_rfl
theorem td227_ok : TD.Ok Tryz.prog 227 td227 := TD.Ok.of ⟨_, _, _, Tryz.underlying227⟩ info227 rfl rfl (by decide) (fun _ => rfl)
theorem info228 : (Tryz.prog.info? 228).map (fun i => (i.zero, i.size, i.bytes)) = some (some (.pointer none), 1, 8) := by kernel_rfl
theorem td228_ok : TD.Ok Tryz.prog 228 td228 := TD.Ok.of Tryz.underlying228 info228 rfl rfl (by decide) (fun _ => rfl)
theorem info230 : (Tryz.prog.info? 230).map (fun i => (i.zero, i.size, i.bytes)) = some (some .nilFunc, 1, 8) := by kernel_rfl
theorem td230_ok : TD.Ok Tryz.prog 230 td230 := TD.Ok.of ⟨_, _, _, Tryz.underlying230⟩ info230 rfl rfl (by decide) (fun _ => rfl)
theorem info233 : (Tryz.prog.info? 233).map (fun i => (i.zero, i.size, i.bytes)) = some (some (.pointer none), 1, 8) := by kernel_rfl
theorem td233_ok : TD.Ok Tryz.prog 233 td233 := TD.Ok.of Tryz.underlying233 info233 rfl rfl (by decide) (fun _ => rfl)
theorem info234 : (Tryz.prog.info? 234).map (fun i => (i.zero, i.size, i.bytes)) = some (some .nilFunc, 1, 8) := by kernel_rfl
theorem td234_ok : TD.Ok Tryz.prog 234 td234 := TD.Ok.of ⟨_, _, _, Tryz.underlying234⟩ info234 rfl rfl (by decide) (fun _ => rfl)
theorem info240 : (Tryz.prog.info? 240).map (fun i => (i.zero, i.size, i.bytes)) = some (some (.int .u8 0), 1, 1) := by kernel_rfl
theorem td240_ok : TD.Ok Tryz.prog 240 td240 := TD.Ok.of Tryz.underlying240 info240 rfl rfl (by decide) (fun _ => rfl)
theorem info241 : (Tryz.prog.info? 241).map (fun i => (i.zero, i.size, i.bytes)) = some (some (.int .u8 0), 1, 1) := by kernel_rfl
theorem td241_ok : TD.Ok Tryz.prog 241 td241 := TD.Ok.of Tryz.underlying241 info241 rfl rfl (by decide) (fun _ => rfl)
theorem info242 : (Tryz.prog.info? 242).map (fun i => (i.zero, i.size, i.bytes)) = some (some .nilFunc, 1, 8) := by kernel_rfl
theorem td242_ok : TD.Ok Tryz.prog 242 td242 := TD.Ok.of ⟨_, _, _, Tryz.underlying242⟩ info242 rfl rfl (by decide) (fun _ => rfl)
theorem info243 : (Tryz.prog.info? 243).map (fun i => (i.zero, i.size, i.bytes)) = some (some (.pointer none), 1, 8) := by kernel_rfl
theorem td243_ok : TD.Ok Tryz.prog 243 td243 := TD.Ok.of Tryz.underlying243 info243 rfl rfl (by decide) (fun _ => rfl)
theorem info244 : (Tryz.prog.info? 244).map (fun i => (i.zero, i.size, i.bytes)) = some (some (.int .i32 0), 1, 4) := by kernel_rfl
theorem td244_ok : TD.Ok Tryz.prog 244 td244 := TD.Ok.of Tryz.underlying244 info244 rfl rfl (by decide) (fun _ => rfl)
theorem info245 : (Tryz.prog.info? 245).map (fun i => (i.zero, i.size, i.bytes)) = some (some (.int .i32 0), 1, 4) := by kernel_rfl
theorem td245_ok : TD.Ok Tryz.prog 245 td245 := TD.Ok.of Tryz.underlying245 info245 rfl rfl (by decide) (fun _ => rfl)
theorem info248 : (Tryz.prog.info? 248).map (fun i => (i.zero, i.size, i.bytes)) = some (some .nilFunc, 1, 8) := by kernel_rfl
theorem td248_ok : TD.Ok Tryz.prog 248 td248 := TD.Ok.of ⟨_, _, _, Tryz.underlying248⟩ info248 rfl rfl (by decide) (fun _ => rfl)
theorem info249 : (Tryz.prog.info? 249).map (fun i => (i.zero, i.size, i.bytes)) = some (some (.agg #[(.string ⟨#[]⟩)]), 1, 16) := by kernel_rfl
theorem td249_ok : TD.Ok Tryz.prog 249 td249 := TD.Ok.of ⟨_, Tryz.underlying249, rfl, Tryz.stoodInHeld249, Tryz.eqGuardType249, by decide⟩ info249 rfl rfl (by decide) (fun h => by cases h)
theorem info250 : (Tryz.prog.info? 250).map (fun i => (i.zero, i.size, i.bytes)) = some (some (.agg #[(.string ⟨#[]⟩)]), 1, 16) := by kernel_rfl
theorem td250_ok : TD.Ok Tryz.prog 250 td250 := TD.Ok.of ⟨_, Tryz.underlying250, rfl, Tryz.stoodInHeld250, Tryz.eqGuardType250, by decide⟩ info250 rfl rfl (by decide) (fun h => by cases h)
set_option maxRecDepth 100000 in
theorem tabL_ok : ∀ p ∈ tabL, TD.Ok Tryz.prog p.1 p.2 :=
  (ν7.2 ⟨td1_ok, (ν7.2 ⟨td2_ok, (ν7.2 ⟨td3_ok, (ν7.2 ⟨td4_ok, (ν7.2 ⟨td5_ok, (ν7.2 ⟨td6_ok, (ν7.2 ⟨td9_ok, (ν7.2 ⟨td10_ok, (ν7.2 ⟨td11_ok, (ν7.2 ⟨td12_ok, (ν7.2 ⟨td15_ok, (ν7.2 ⟨td16_ok, (ν7.2 ⟨td17_ok, (ν7.2 ⟨td21_ok, (ν7.2 ⟨td22_ok, (ν7.2 ⟨td23_ok, (ν7.2 ⟨td24_ok, (ν7.2 ⟨td25_ok, (ν7.2 ⟨td26_ok, (ν7.2 ⟨td27_ok, (ν7.2 ⟨td28_ok, (ν7.2 ⟨td29_ok, (ν7.2 ⟨td30_ok, (ν7.2 ⟨td31_ok, (ν7.2 ⟨td32_ok, (ν7.2 ⟨td33_ok, (ν7.2 ⟨td34_ok, (ν7.2 ⟨td35_ok, (ν7.2 ⟨td36_ok, (ν7.2 ⟨td37_ok, (ν7.2 ⟨td38_ok, (ν7.2 ⟨td39_ok, (ν7.2 ⟨td40_ok, (ν7.2 ⟨td41_ok, (ν7.2 ⟨td42_ok, (ν7.2 ⟨td44_ok, (ν7.2 ⟨td45_ok, (ν7.2 ⟨td46_ok, (ν7.2 ⟨td48_ok, (ν7.2 ⟨td49_ok, (ν7.2 ⟨td50_ok, (ν7.2 ⟨td51_ok, (ν7.2 ⟨td52_ok, (ν7.2 ⟨td53_ok, (ν7.2 ⟨td55_ok, (ν7.2 ⟨td56_ok, (ν7.2 ⟨td57_ok, (ν7.2 ⟨td58_ok, (ν7.2 ⟨td59_ok, (ν7.2 ⟨td60_ok, (ν7.2 ⟨td61_ok, (ν7.2 ⟨td62_ok, (ν7.2 ⟨td64_ok, (ν7.2 ⟨td65_ok, (ν7.2 ⟨td66_ok, (ν7.2 ⟨td67_ok, (ν7.2 ⟨td68_ok, (ν7.2 ⟨td69_ok, (ν7.2 ⟨td70_ok, (ν7.2 ⟨td71_ok, (ν7.2 ⟨td72_ok, (ν7.2 ⟨td73_ok, (ν7.2 ⟨td74_ok, (ν7.2 ⟨td75_ok, (ν7.2 ⟨td76_ok, (ν7.2 ⟨td77_ok, (ν7.2 ⟨td78_ok, (ν7.2 ⟨td79_ok, (ν7.2 ⟨td80_ok, (ν7.2 ⟨td81_ok, (ν7.2 ⟨td82_ok, (ν7.2 ⟨td83_ok, (ν7.2 ⟨td84_ok, (ν7.2 ⟨td85_ok, (ν7.2 ⟨td86_ok, (ν7.2 ⟨td87_ok, (ν7.2 ⟨td88_ok, (ν7.2 ⟨td89_ok, (ν7.2 ⟨td90_ok, (ν7.2 ⟨td91_ok, (ν7.2 ⟨td92_ok, (ν7.2 ⟨td94_ok, (ν7.2 ⟨td95_ok, (ν7.2 ⟨td96_ok, (ν7.2 ⟨td97_ok, (ν7.2 ⟨td98_ok, (ν7.2 ⟨td99_ok, (ν7.2 ⟨td100_ok, (ν7.2 ⟨td101_ok, (ν7.2 ⟨td102_ok, (ν7.2 ⟨td103_ok, (ν7.2 ⟨td104_ok, (ν7.2 ⟨td105_ok, (ν7.2 ⟨td106_ok, (ν7.2 ⟨td107_ok, (ν7.2 ⟨td108_ok, (ν7.2 ⟨td109_ok, (ν7.2 ⟨td110_ok, (ν7.2 ⟨td111_ok, (ν7.2 ⟨td112_ok, (ν7.2 ⟨td113_ok, (ν7.2 ⟨td114_ok, (ν7.2 ⟨td115_ok, (ν7.2 ⟨td116_ok, (ν7.2 ⟨td117_ok, (ν7.2 ⟨td118_ok, (ν7.2 ⟨td119_ok, (ν7.2 ⟨td120_ok, (ν7.2 ⟨td121_ok, (ν7.2 ⟨td122_ok, (ν7.2 ⟨td123_ok, (ν7.2 ⟨td124_ok, (ν7.2 ⟨td125_ok, (ν7.2 ⟨td126_ok, (ν7.2 ⟨td127_ok, (ν7.2 ⟨td128_ok, (ν7.2 ⟨td129_ok, (ν7.2 ⟨td130_ok, (ν7.2 ⟨td131_ok, (ν7.2 ⟨td132_ok, (ν7.2 ⟨td133_ok, (ν7.2 ⟨td134_ok, (ν7.2 ⟨td135_ok, (ν7.2 ⟨td136_ok, (ν7.2 ⟨td137_ok, (ν7.2 ⟨td138_ok, (ν7.2 ⟨td139_ok, (ν7.2 ⟨td140_ok, (ν7.2 ⟨td141_ok, (ν7.2 ⟨td142_ok, (ν7.2 ⟨td143_ok, (ν7.2 ⟨td144_ok, (ν7.2 ⟨td145_ok, (ν7.2 ⟨td146_ok, (ν7.2 ⟨td147_ok, (ν7.2 ⟨td148_ok, (ν7.2 ⟨td149_ok, (ν7.2 ⟨td150_ok, (ν7.2 ⟨td151_ok, (ν7.2 ⟨td152_ok, (ν7.2 ⟨td153_ok, (ν7.2 ⟨td154_ok, (ν7.2 ⟨td155_ok, (ν7.2 ⟨td157_ok, (ν7.2 ⟨td158_ok, (ν7.2 ⟨td159_ok, (ν7.2 ⟨td160_ok, (ν7.2 ⟨td161_ok, (ν7.2 ⟨td162_ok, (ν7.2 ⟨td163_ok, (ν7.2 ⟨td164_ok, (ν7.2 ⟨td165_ok, (ν7.2 ⟨td166_ok, (ν7.2 ⟨td167_ok, (ν7.2 ⟨td168_ok, (ν7.2 ⟨td169_ok, (ν7.2 ⟨td170_ok, (ν7.2 ⟨td171_ok, (ν7.2 ⟨td172_ok, (ν7.2 ⟨td173_ok, (ν7.2 ⟨td174_ok, (ν7.2 ⟨td175_ok, (ν7.2 ⟨td176_ok, (ν7.2 ⟨td177_ok, (ν7.2 ⟨td178_ok, (ν7.2 ⟨td179_ok, (ν7.2 ⟨td180_ok, (ν7.2 ⟨td181_ok, (ν7.2 ⟨td182_ok, (ν7.2 ⟨td183_ok, (ν7.2 ⟨td184_ok, (ν7.2 ⟨td185_ok, (ν7.2 ⟨td186_ok, (ν7.2 ⟨td187_ok, (ν7.2 ⟨td188_ok, (ν7.2 ⟨td189_ok, (ν7.2 ⟨td190_ok, (ν7.2 ⟨td191_ok, (ν7.2 ⟨td192_ok, (ν7.2 ⟨td193_ok, (ν7.2 ⟨td194_ok, (ν7.2 ⟨td195_ok, (ν7.2 ⟨td196_ok, (ν7.2 ⟨td197_ok, (ν7.2 ⟨td198_ok, (ν7.2 ⟨td199_ok, (ν7.2 ⟨td200_ok, (ν7.2 ⟨td201_ok, (ν7.2 ⟨td202_ok, (ν7.2 ⟨td203_ok, (ν7.2 ⟨td204_ok, (ν7.2 ⟨td206_ok, (ν7.2 ⟨td207_ok, (ν7.2 ⟨td208_ok, (ν7.2 ⟨td209_ok, (ν7.2 ⟨td210_ok, (ν7.2 ⟨td211_ok, (ν7.2 ⟨td212_ok, (ν7.2 ⟨td213_ok, (ν7.2 ⟨td215_ok, (ν7.2 ⟨td216_ok, (ν7.2 ⟨td217_ok, (ν7.2 ⟨td218_ok, (ν7.2 ⟨td219_ok, (ν7.2 ⟨td220_ok, (ν7.2 ⟨td221_ok, (ν7.2 ⟨td222_ok, (ν7.2 ⟨td223_ok, (ν7.2 ⟨td224_ok, (ν7.2 ⟨td225_ok, (ν7.2 ⟨td227_ok, (ν7.2 ⟨td228_ok, (ν7.2 ⟨td230_ok, (ν7.2 ⟨td233_ok, (ν7.2 ⟨td234_ok, (ν7.2 ⟨td240_ok, (ν7.2 ⟨td241_ok, (ν7.2 ⟨td242_ok, (ν7.2 ⟨td243_ok, (ν7.2 ⟨td244_ok, (ν7.2 ⟨td245_ok, (ν7.2 ⟨td248_ok, (ν7.2 ⟨td249_ok, (ν7.2 ⟨td250_ok, (fun _ h => by cases h)⟩)⟩)⟩)⟩)⟩)⟩)⟩)⟩)⟩)⟩)⟩)⟩)⟩)⟩)⟩)⟩)⟩)⟩)⟩)⟩)⟩)⟩)⟩)⟩)⟩)⟩)⟩)⟩)⟩)⟩)⟩)⟩)⟩)⟩)⟩)⟩)⟩)⟩)⟩)⟩)⟩)⟩)⟩)⟩)⟩)⟩)⟩)⟩)⟩)⟩)⟩)⟩)⟩)⟩)⟩)⟩)⟩)⟩)⟩)⟩)⟩)⟩)⟩)⟩)⟩)⟩)⟩)⟩)⟩)⟩)⟩)⟩)⟩)⟩)⟩)⟩)⟩)⟩)⟩)⟩)⟩)⟩)⟩)⟩)⟩)⟩)⟩)⟩)⟩)⟩)⟩)⟩)⟩)⟩)⟩)⟩)⟩)⟩)⟩)⟩)⟩)⟩)⟩)⟩)⟩)⟩)⟩)⟩)⟩)⟩)⟩)⟩)⟩)⟩)⟩)⟩)⟩)⟩)⟩)⟩)⟩)⟩)⟩)⟩)⟩)⟩)⟩)⟩)⟩)⟩)⟩)⟩)⟩)⟩)⟩)⟩)⟩)⟩)⟩)⟩)⟩)⟩)⟩)⟩)⟩)⟩)⟩)⟩)⟩)⟩)⟩)⟩)⟩)⟩)⟩)⟩)⟩)⟩)⟩)⟩)⟩)⟩)⟩)⟩)⟩)⟩)⟩)⟩)⟩)⟩)⟩)⟩)⟩)⟩)⟩)⟩)⟩)⟩)⟩)⟩)⟩)⟩)⟩)⟩)⟩)⟩)⟩)⟩)⟩)⟩)⟩)⟩)⟩)⟩)⟩)⟩)⟩)⟩)⟩)⟩)⟩)⟩)⟩)⟩)⟩)⟩)⟩)⟩)⟩)⟩)⟩)⟩)⟩)⟩)⟩)⟩)⟩)⟩)⟩)⟩)⟩)⟩)⟩)⟩)
theorem mixed : Tryz.prog.follows .mixedOrders = true := by kernel_rfl
theorem tab_ok : tab.Ok Tryz.prog := Tab.Ok.of_list tabL_ok
end Go.Proofs.YtgcklgeifdefhaaGreat
