/- Texts laid together: Lr0 Tab W0 W1. -/
import Derived.Test.YtolffbcnbcjeaaaPkz2
import Derived.Test.YtolffbcnbcjeaaaProg
import Derived.KernelRfl
set_option linter.unusedVariables false
set_option linter.unusedSimpArgs false
open Nat renaming reduceAdd → ν1, reduceLeDiff → ν2, reduceLT → ν3, reduceMul → ν4, reduceSub → ν5
open Int renaming reduceToNat → ι1, reduceSub → ι2, reduceAdd → ι3, reduceNeg → ι4
open Array renaming toList → ι5
open Ne renaming symm → ν6
open List renaming forall_mem_cons → ν7
namespace Go.Sep
open Go Go.RowKit
def fieldsAre (P : Program) (t : TypeId) (ts : List TypeId) : Bool := match P.underlying t with
  | some (.struct fs) => decide (fs.toList.map (·.type) = ts)
  | _ => false
def intIs (P : Program) (t : TypeId) (k : IntKind) : Bool := match P.underlying t with
  | some (.int k') => decide (k' = k)
  | _ => false
def sliceIs (P : Program) (t e : TypeId) : Bool := match P.underlying t with
  | some (.slice e') => decide (e' = e)
  | _ => false
theorem fieldsAre_ok {P : Program} {t : TypeId} {ts : List TypeId} (h : fieldsAre P t ts = true) : ∃ fs, P.underlying t = some (.struct fs) ∧ fs.toList.map (·.type) = ts := by
  unfold fieldsAre at h
  split at h
  · rename_i fs hu; exact ⟨fs, hu, of_decide_eq_true h⟩
  · cases h
theorem intIs_ok {P : Program} {t : TypeId} {k : IntKind} (h : intIs P t k = true) : P.underlying t = some (.int k) := by
  unfold intIs at h
  split at h
  · rename_i k' hu; rw [hu, of_decide_eq_true h]
  · cases h
theorem sliceIs_ok {P : Program} {t e : TypeId} (h : sliceIs P t e = true) : P.underlying t = some (.slice e) := by
  unfold sliceIs at h
  split at h
  · rename_i k' hu; rw [hu, of_decide_eq_true h]
  · cases h
theorem typed_int {P : Program} {t : TypeId} {k : IntKind} (hi : intIs P t k = true) {x : List PV} (h : Typed P t x) : ∃ n, (Lit.int k n).wf = true ∧ x = [.int k n] := by
  have hu := intIs_ok hi
  cases h with
  | bool h => rw [hu] at h; cases h
  | int h hw => rw [hu] at h; cases h; exact ⟨_, hw, rfl⟩
  | str h _ => rw [hu] at h; cases h
  | sl h _ _ => rw [hu] at h; cases h
  | struct h _ => rw [hu] at h; cases h
theorem typed_slice {P : Program} {t e : TypeId} (hi : sliceIs P t e = true) {x : List PV} (h : Typed P t x) : ∃ es, x = [.sl es] ∧ es.length ≤ 9223372036854775807 ∧ ∀ y ∈ es, Typed P e y := by
  have hu := sliceIs_ok hi
  cases h with
  | bool h => rw [hu] at h; cases h
  | int h hw => rw [hu] at h; cases h
  | str h _ => rw [hu] at h; cases h
  | sl h hl he => rw [hu] at h; cases h; exact ⟨_, rfl, hl, he⟩
  | struct h _ => rw [hu] at h; cases h
theorem typed_fields {P : Program} {t : TypeId} {ts : List TypeId} (hf : fieldsAre P t ts = true) {x : List PV} (h : Typed P t x) : TypedAll P ts x := by
  obtain ⟨fs, hu, rfl⟩ := fieldsAre_ok hf
  cases h with
  | bool h => rw [hu] at h; cases h
  | int h hw => rw [hu] at h; cases h
  | str h _ => rw [hu] at h; cases h
  | sl h hl he => rw [hu] at h; cases h
  | struct h hf => rw [hu] at h; cases h; exact hf
theorem typedAll_cons {P : Program} {t : TypeId} {ts : List TypeId} {x : List PV} (h : TypedAll P (t :: ts) x) : ∃ a b, x = a ++ b ∧ Typed P t a ∧ TypedAll P ts b := by
  cases h with
  | cons h r => exact ⟨_, _, rfl, h, r⟩
theorem typedAll_nil {P : Program} {x : List PV} (h : TypedAll P [] x) : x = [] := by cases h; rfl
theorem arg_struct {P : Program} {t : TypeId} {ts : List TypeId} (hf : fieldsAre P t ts = true) {v : AV} (h : ArgT P t v) : ∃ pvs, TypedAll P ts pvs ∧ v = .agg (pvs.map .p) := by
  obtain ⟨fs, hu, rfl⟩ := fieldsAre_ok hf
  cases h with
  | cell hs h => exact absurd hu (hs fs)
  | agg hu' h => rw [hu] at hu'; cases hu'; exact ⟨_, h, rfl⟩
theorem rows_of {α : Type} {Q : α → Prop} {e : α → List PV} : ∀ (es : List (List PV)), (∀ y ∈ es, ∃ a, Q a ∧ y = e a) → ∃ az : List α, (∀ a ∈ az, Q a) ∧ es = az.map e ∧ az.length = es.length
  | [], _ => ⟨[], fun _ h => by simp at h, rfl, rfl⟩
  | x :: es, h => by
    obtain ⟨a, ha, rfl⟩ := h x (by simp)
    obtain ⟨az, h1, rfl, h3⟩ := rows_of es fun y hy => h y (by simp [hy])
    refine ⟨a :: az, fun b hb => ?_, rfl, by simp⟩
    rcases List.mem_cons.1 hb with rfl | hb
    · exact ha
    · exact h1 b hb
theorem args_cons {P : Program} {t : TypeId} {ts : List TypeId} {avs : List AV} (h : ArgsT P (t :: ts) avs) : ∃ v vs, avs = v :: vs ∧ ArgT P t v ∧ ArgsT P ts vs := by
  cases h with
  | cons h r => exact ⟨_, _, rfl, h, r⟩
theorem args_nil {P : Program} {avs : List AV} (h : ArgsT P [] avs) : avs = [] := by cases h; rfl
end Go.Sep
namespace Go.Proofs.Ytolffbcnbcjeaaa
open Go Go.Sep
def td1 : TD := ⟨.func, 1, 8, [.nilfn]⟩
def td2 : TD := ⟨.int .i64, 1, 8, [(.p (.int .i64 0))]⟩
def td3 : TD := ⟨.int .i64, 1, 8, [(.p (.int .i64 0))]⟩
def td4 : TD := ⟨.bool, 1, 1, [(.p (.bool false))]⟩
def td5 : TD := ⟨.int .u8, 1, 1, [(.p (.int .u8 0))]⟩
def td6 : TD := ⟨.int .u8, 1, 1, [(.p (.int .u8 0))]⟩
def td9 : TD := ⟨.str, 1, 16, [(.p (.str ⟨#[]⟩))]⟩
def td10 : TD := ⟨.str, 1, 16, [(.p (.str ⟨#[]⟩))]⟩
def td11 : TD := ⟨.str, 1, 16, [(.p (.str ⟨#[]⟩))]⟩
def td12 : TD := ⟨.int .u64, 1, 8, [(.p (.int .u64 0))]⟩
def td15 : TD := ⟨.ptr 139, 1, 8, [.nilp]⟩
def td16 : TD := ⟨.ptr 142, 1, 8, [.nilp]⟩
def td17 : TD := ⟨.ptr 151, 1, 8, [.nilp]⟩
def td21 : TD := ⟨.int .i32, 1, 4, [(.p (.int .i32 0))]⟩
def td22 : TD := ⟨.slice 3, 1, 24, [(.p .nil)]⟩
def td23 : TD := ⟨.slice 81, 1, 24, [(.p .nil)]⟩
def td24 : TD := ⟨.slice 22, 1, 24, [(.p .nil)]⟩
def td25 : TD := ⟨.struct [(0, 3), (1, 22), (2, 23), (3, 24)], 4, 80, [(.p (.int .i64 0)), (.p .nil), (.p .nil), (.p .nil)]⟩
def td26 : TD := ⟨.struct [(0, 3), (1, 22), (2, 23), (3, 24)], 4, 80, [(.p (.int .i64 0)), (.p .nil), (.p .nil), (.p .nil)]⟩
def td27 : TD := ⟨.func, 1, 8, [.nilfn]⟩
def td29 : TD := ⟨.func, 1, 8, [.nilfn]⟩
def td30 : TD := ⟨.slice 65, 1, 24, [(.p .nil)]⟩
def td31 : TD := ⟨.struct [(0, 3), (1, 22), (2, 30), (3, 24)], 4, 80, [(.p (.int .i64 0)), (.p .nil), (.p .nil), (.p .nil)]⟩
def td32 : TD := ⟨.struct [(0, 3), (1, 22), (2, 30), (3, 24)], 4, 80, [(.p (.int .i64 0)), (.p .nil), (.p .nil), (.p .nil)]⟩
def td33 : TD := ⟨.func, 1, 8, [.nilfn]⟩
def td34 : TD := ⟨.func, 1, 8, [.nilfn]⟩
def td35 : TD := ⟨.func, 1, 8, [.nilfn]⟩
def td36 : TD := ⟨.struct [(0, 22), (1, 22)], 2, 48, [(.p .nil), (.p .nil)]⟩
def td37 : TD := ⟨.struct [(0, 22), (1, 22)], 2, 48, [(.p .nil), (.p .nil)]⟩
def td38 : TD := ⟨.func, 1, 8, [.nilfn]⟩
def td39 : TD := ⟨.func, 1, 8, [.nilfn]⟩
def td40 : TD := ⟨.struct [(0, 22), (1, 22)], 2, 48, [(.p .nil), (.p .nil)]⟩
def td41 : TD := ⟨.func, 1, 8, [.nilfn]⟩
def td42 : TD := ⟨.func, 1, 8, [.nilfn]⟩
def td43 : TD := ⟨.func, 1, 8, [.nilfn]⟩
def td45 : TD := ⟨.func, 1, 8, [.nilfn]⟩
def td46 : TD := ⟨.func, 1, 8, [.nilfn]⟩
def td47 : TD := ⟨.func, 1, 8, [.nilfn]⟩
def td48 : TD := ⟨.func, 1, 8, [.nilfn]⟩
def td49 : TD := ⟨.func, 1, 8, [.nilfn]⟩
def td50 : TD := ⟨.func, 1, 8, [.nilfn]⟩
def td52 : TD := ⟨.func, 1, 8, [.nilfn]⟩
def td53 : TD := ⟨.func, 1, 8, [.nilfn]⟩
def td54 : TD := ⟨.func, 1, 8, [.nilfn]⟩
def td55 : TD := ⟨.func, 1, 8, [.nilfn]⟩
def td56 : TD := ⟨.func, 1, 8, [.nilfn]⟩
def td57 : TD := ⟨.func, 1, 8, [.nilfn]⟩
def td58 : TD := ⟨.func, 1, 8, [.nilfn]⟩
def td59 : TD := ⟨.func, 1, 8, [.nilfn]⟩
def td60 : TD := ⟨.func, 1, 8, [.nilfn]⟩
def td61 : TD := ⟨.func, 1, 8, [.nilfn]⟩
def td62 : TD := ⟨.func, 1, 8, [.nilfn]⟩
def td63 : TD := ⟨.func, 1, 8, [.nilfn]⟩
def td64 : TD := ⟨.struct [(0, 3), (1, 3), (2, 3)], 3, 24, [(.p (.int .i64 0)), (.p (.int .i64 0)), (.p (.int .i64 0))]⟩
def td65 : TD := ⟨.struct [(0, 3), (1, 3), (2, 3)], 3, 24, [(.p (.int .i64 0)), (.p (.int .i64 0)), (.p (.int .i64 0))]⟩
def td66 : TD := ⟨.func, 1, 8, [.nilfn]⟩
def td67 : TD := ⟨.func, 1, 8, [.nilfn]⟩
def td68 : TD := ⟨.func, 1, 8, [.nilfn]⟩
def td69 : TD := ⟨.func, 1, 8, [.nilfn]⟩
def td70 : TD := ⟨.func, 1, 8, [.nilfn]⟩
def td71 : TD := ⟨.func, 1, 8, [.nilfn]⟩
def td72 : TD := ⟨.func, 1, 8, [.nilfn]⟩
def td73 : TD := ⟨.func, 1, 8, [.nilfn]⟩
def td74 : TD := ⟨.func, 1, 8, [.nilfn]⟩
def td75 : TD := ⟨.func, 1, 8, [.nilfn]⟩
def td77 : TD := ⟨.func, 1, 8, [.nilfn]⟩
def td78 : TD := ⟨.func, 1, 8, [.nilfn]⟩
def td79 : TD := ⟨.func, 1, 8, [.nilfn]⟩
def td80 : TD := ⟨.func, 1, 8, [.nilfn]⟩
def td81 : TD := ⟨.struct [(0, 3), (1, 3), (2, 3)], 3, 24, [(.p (.int .i64 0)), (.p (.int .i64 0)), (.p (.int .i64 0))]⟩
def td82 : TD := ⟨.func, 1, 8, [.nilfn]⟩
def td83 : TD := ⟨.slice 4, 1, 24, [(.p .nil)]⟩
def td84 : TD := ⟨.func, 1, 8, [.nilfn]⟩
def td85 : TD := ⟨.func, 1, 8, [.nilfn]⟩
def td86 : TD := ⟨.func, 1, 8, [.nilfn]⟩
def td87 : TD := ⟨.func, 1, 8, [.nilfn]⟩
def td88 : TD := ⟨.func, 1, 8, [.nilfn]⟩
def td89 : TD := ⟨.func, 1, 8, [.nilfn]⟩
def td90 : TD := ⟨.int .u64, 1, 8, [(.p (.int .u64 0))]⟩
def td92 : TD := ⟨.func, 1, 8, [.nilfn]⟩
def td93 : TD := ⟨.func, 1, 8, [.nilfn]⟩
def td94 : TD := ⟨.ptr 96, 1, 8, [.nilp]⟩
def td95 : TD := ⟨.struct [(0, 24), (1, 83), (2, 22)], 3, 72, [(.p .nil), (.p .nil), (.p .nil)]⟩
def td96 : TD := ⟨.struct [(0, 24), (1, 83), (2, 22)], 3, 72, [(.p .nil), (.p .nil), (.p .nil)]⟩
def td97 : TD := ⟨.func, 1, 8, [.nilfn]⟩
def td98 : TD := ⟨.func, 1, 8, [.nilfn]⟩
def td99 : TD := ⟨.func, 1, 8, [.nilfn]⟩
def td100 : TD := ⟨.func, 1, 8, [.nilfn]⟩
def td101 : TD := ⟨.func, 1, 8, [.nilfn]⟩
def td102 : TD := ⟨.func, 1, 8, [.nilfn]⟩
def td103 : TD := ⟨.func, 1, 8, [.nilfn]⟩
def td104 : TD := ⟨.func, 1, 8, [.nilfn]⟩
def td105 : TD := ⟨.func, 1, 8, [.nilfn]⟩
def td106 : TD := ⟨.int .u32, 1, 4, [(.p (.int .u32 0))]⟩
def td108 : TD := ⟨.func, 1, 8, [.nilfn]⟩
def td109 : TD := ⟨.int .u64, 1, 8, [(.p (.int .u64 0))]⟩
def td111 : TD := ⟨.func, 1, 8, [.nilfn]⟩
def td112 : TD := ⟨.func, 1, 8, [.nilfn]⟩
def td113 : TD := ⟨.ptr 115, 1, 8, [.nilp]⟩
def td114 : TD := ⟨.struct [(0, 24), (1, 22), (2, 22), (3, 22), (4, 22), (5, 3)], 6, 128, [(.p .nil), (.p .nil), (.p .nil), (.p .nil), (.p .nil), (.p (.int .i64 0))]⟩
def td115 : TD := ⟨.struct [(0, 24), (1, 22), (2, 22), (3, 22), (4, 22), (5, 3)], 6, 128, [(.p .nil), (.p .nil), (.p .nil), (.p .nil), (.p .nil), (.p (.int .i64 0))]⟩
def td116 : TD := ⟨.func, 1, 8, [.nilfn]⟩
def td117 : TD := ⟨.int .i64, 1, 8, [(.p (.int .i64 0))]⟩
def td119 : TD := ⟨.func, 1, 8, [.nilfn]⟩
def td120 : TD := ⟨.func, 1, 8, [.nilfn]⟩
def td121 : TD := ⟨.func, 1, 8, [.nilfn]⟩
def td123 : TD := ⟨.func, 1, 8, [.nilfn]⟩
def td124 : TD := ⟨.func, 1, 8, [.nilfn]⟩
def td125 : TD := ⟨.func, 1, 8, [.nilfn]⟩
def td126 : TD := ⟨.func, 1, 8, [.nilfn]⟩
def td127 : TD := ⟨.func, 1, 8, [.nilfn]⟩
def td128 : TD := ⟨.int .u64, 1, 8, [(.p (.int .u64 0))]⟩
def td129 : TD := ⟨.func, 1, 8, [.nilfn]⟩
def td130 : TD := ⟨.func, 1, 8, [.nilfn]⟩
def td131 : TD := ⟨.func, 1, 8, [.nilfn]⟩
def td132 : TD := ⟨.ptr 3, 1, 8, [.nilp]⟩
def td133 : TD := ⟨.func, 1, 8, [.nilfn]⟩
def td134 : TD := ⟨.ptr 128, 1, 8, [.nilp]⟩
def td136 : TD := ⟨.func, 1, 8, [.nilfn]⟩
def td137 : TD := ⟨.func, 1, 8, [.nilfn]⟩
def td143 : TD := ⟨.func, 1, 8, [.nilfn]⟩
def td144 : TD := ⟨.int .u8, 1, 1, [(.p (.int .u8 0))]⟩
def td145 : TD := ⟨.int .u8, 1, 1, [(.p (.int .u8 0))]⟩
def td146 : TD := ⟨.func, 1, 8, [.nilfn]⟩
def td147 : TD := ⟨.ptr 5, 1, 8, [.nilp]⟩
def td148 : TD := ⟨.int .i32, 1, 4, [(.p (.int .i32 0))]⟩
def td149 : TD := ⟨.int .i32, 1, 4, [(.p (.int .i32 0))]⟩
def tabL : List (Nat × TD) := [(1, td1), (2, td2), (3, td3), (4, td4), (5, td5), (6, td6), (9, td9), (10, td10), (11, td11), (12, td12), (15, td15), (16, td16), (17, td17), (21, td21), (22, td22), (23, td23), (24, td24), (25, td25), (26, td26), (27, td27), (29, td29), (30, td30), (31, td31), (32, td32), (33, td33), (34, td34), (35, td35), (36, td36), (37, td37), (38, td38), (39, td39), (40, td40), (41, td41), (42, td42), (43, td43), (45, td45), (46, td46), (47, td47), (48, td48), (49, td49), (50, td50), (52, td52), (53, td53), (54, td54), (55, td55), (56, td56), (57, td57), (58, td58), (59, td59), (60, td60), (61, td61), (62, td62), (63, td63), (64, td64), (65, td65), (66, td66), (67, td67), (68, td68), (69, td69), (70, td70), (71, td71), (72, td72), (73, td73), (74, td74), (75, td75), (77, td77), (78, td78), (79, td79), (80, td80), (81, td81), (82, td82), (83, td83), (84, td84), (85, td85), (86, td86), (87, td87), (88, td88), (89, td89), (90, td90), (92, td92), (93, td93), (94, td94), (95, td95), (96, td96), (97, td97), (98, td98), (99, td99), (100, td100), (101, td101), (102, td102), (103, td103), (104, td104), (105, td105), (106, td106), (108, td108), (109, td109), (111, td111), (112, td112), (113, td113), (114, td114), (115, td115), (116, td116), (117, td117), (119, td119), (120, td120), (121, td121), (123, td123), (124, td124), (125, td125), (126, td126), (127, td127), (128, td128), (129, td129), (130, td130), (131, td131), (132, td132), (133, td133), (134, td134), (136, td136), (137, td137), (143, td143), (144, td144), (145, td145), (146, td146), (147, td147), (148, td148), (149, td149)]
def tab : Tab := fun t => (tabL.find? (fun p => p.1 == t)).map (·.2)
theorem tab_1 : tab 1 = some ⟨.func, 1, 8, [.nilfn]⟩ := rfl
theorem tab_2 : tab 2 = some ⟨.int .i64, 1, 8, [(.p (.int .i64 0))]⟩ := rfl
theorem tab_3 : tab 3 = some ⟨.int .i64, 1, 8, [(.p (.int .i64 0))]⟩ := rfl
theorem tab_4 : tab 4 = some ⟨.bool, 1, 1, [(.p (.bool false))]⟩ := rfl
theorem tab_5 : tab 5 = some ⟨.int .u8, 1, 1, [(.p (.int .u8 0))]⟩ := rfl
theorem tab_6 : tab 6 = some ⟨.int .u8, 1, 1, [(.p (.int .u8 0))]⟩ := rfl
theorem tab_9 : tab 9 = some ⟨.str, 1, 16, [(.p (.str ⟨#[]⟩))]⟩ := rfl
theorem tab_10 : tab 10 = some ⟨.str, 1, 16, [(.p (.str ⟨#[]⟩))]⟩ := rfl
theorem tab_11 : tab 11 = some ⟨.str, 1, 16, [(.p (.str ⟨#[]⟩))]⟩ := rfl
theorem tab_12 : tab 12 = some ⟨.int .u64, 1, 8, [(.p (.int .u64 0))]⟩ := rfl
theorem tab_15 : tab 15 = some ⟨.ptr 139, 1, 8, [.nilp]⟩ := rfl
theorem tab_16 : tab 16 = some ⟨.ptr 142, 1, 8, [.nilp]⟩ := rfl
theorem tab_17 : tab 17 = some ⟨.ptr 151, 1, 8, [.nilp]⟩ := rfl
theorem tab_21 : tab 21 = some ⟨.int .i32, 1, 4, [(.p (.int .i32 0))]⟩ := rfl
theorem tab_22 : tab 22 = some ⟨.slice 3, 1, 24, [(.p .nil)]⟩ := rfl
theorem tab_23 : tab 23 = some ⟨.slice 81, 1, 24, [(.p .nil)]⟩ := rfl
theorem tab_24 : tab 24 = some ⟨.slice 22, 1, 24, [(.p .nil)]⟩ := rfl
theorem tab_25 : tab 25 = some ⟨.struct [(0, 3), (1, 22), (2, 23), (3, 24)], 4, 80, [(.p (.int .i64 0)), (.p .nil), (.p .nil), (.p .nil)]⟩ := rfl
theorem tab_26 : tab 26 = some ⟨.struct [(0, 3), (1, 22), (2, 23), (3, 24)], 4, 80, [(.p (.int .i64 0)), (.p .nil), (.p .nil), (.p .nil)]⟩ := rfl
theorem tab_27 : tab 27 = some ⟨.func, 1, 8, [.nilfn]⟩ := rfl
theorem tab_29 : tab 29 = some ⟨.func, 1, 8, [.nilfn]⟩ := rfl
theorem tab_30 : tab 30 = some ⟨.slice 65, 1, 24, [(.p .nil)]⟩ := rfl
theorem tab_31 : tab 31 = some ⟨.struct [(0, 3), (1, 22), (2, 30), (3, 24)], 4, 80, [(.p (.int .i64 0)), (.p .nil), (.p .nil), (.p .nil)]⟩ := rfl
theorem tab_32 : tab 32 = some ⟨.struct [(0, 3), (1, 22), (2, 30), (3, 24)], 4, 80, [(.p (.int .i64 0)), (.p .nil), (.p .nil), (.p .nil)]⟩ := rfl
theorem tab_33 : tab 33 = some ⟨.func, 1, 8, [.nilfn]⟩ := rfl
theorem tab_34 : tab 34 = some ⟨.func, 1, 8, [.nilfn]⟩ := rfl
theorem tab_35 : tab 35 = some ⟨.func, 1, 8, [.nilfn]⟩ := rfl
theorem tab_36 : tab 36 = some ⟨.struct [(0, 22), (1, 22)], 2, 48, [(.p .nil), (.p .nil)]⟩ := rfl
theorem tab_37 : tab 37 = some ⟨.struct [(0, 22), (1, 22)], 2, 48, [(.p .nil), (.p .nil)]⟩ := rfl
theorem tab_38 : tab 38 = some ⟨.func, 1, 8, [.nilfn]⟩ := rfl
theorem tab_39 : tab 39 = some ⟨.func, 1, 8, [.nilfn]⟩ := rfl
theorem tab_40 : tab 40 = some ⟨.struct [(0, 22), (1, 22)], 2, 48, [(.p .nil), (.p .nil)]⟩ := rfl
theorem tab_41 : tab 41 = some ⟨.func, 1, 8, [.nilfn]⟩ := rfl
theorem tab_42 : tab 42 = some ⟨.func, 1, 8, [.nilfn]⟩ := rfl
theorem tab_43 : tab 43 = some ⟨.func, 1, 8, [.nilfn]⟩ := rfl
theorem tab_45 : tab 45 = some ⟨.func, 1, 8, [.nilfn]⟩ := rfl
theorem tab_46 : tab 46 = some ⟨.func, 1, 8, [.nilfn]⟩ := rfl
theorem tab_47 : tab 47 = some ⟨.func, 1, 8, [.nilfn]⟩ := rfl
theorem tab_48 : tab 48 = some ⟨.func, 1, 8, [.nilfn]⟩ := rfl
theorem tab_49 : tab 49 = some ⟨.func, 1, 8, [.nilfn]⟩ := rfl
theorem tab_50 : tab 50 = some ⟨.func, 1, 8, [.nilfn]⟩ := rfl
theorem tab_52 : tab 52 = some ⟨.func, 1, 8, [.nilfn]⟩ := rfl
theorem tab_53 : tab 53 = some ⟨.func, 1, 8, [.nilfn]⟩ := rfl
theorem tab_54 : tab 54 = some ⟨.func, 1, 8, [.nilfn]⟩ := rfl
theorem tab_55 : tab 55 = some ⟨.func, 1, 8, [.nilfn]⟩ := rfl
theorem tab_56 : tab 56 = some ⟨.func, 1, 8, [.nilfn]⟩ := rfl
theorem tab_57 : tab 57 = some ⟨.func, 1, 8, [.nilfn]⟩ := rfl
theorem tab_58 : tab 58 = some ⟨.func, 1, 8, [.nilfn]⟩ := rfl
theorem tab_59 : tab 59 = some ⟨.func, 1, 8, [.nilfn]⟩ := rfl
theorem tab_60 : tab 60 = some ⟨.func, 1, 8, [.nilfn]⟩ := rfl
theorem tab_61 : tab 61 = some ⟨.func, 1, 8, [.nilfn]⟩ := rfl
theorem tab_62 : tab 62 = some ⟨.func, 1, 8, [.nilfn]⟩ := rfl
theorem tab_63 : tab 63 = some ⟨.func, 1, 8, [.nilfn]⟩ := rfl
theorem tab_64 : tab 64 = some ⟨.struct [(0, 3), (1, 3), (2, 3)], 3, 24, [(.p (.int .i64 0)), (.p (.int .i64 0)), (.p (.int .i64 0))]⟩ := rfl
theorem tab_65 : tab 65 = some ⟨.struct [(0, 3), (1, 3), (2, 3)], 3, 24, [(.p (.int .i64 0)), (.p (.int .i64 0)), (.p (.int .i64 0))]⟩ := rfl
theorem tab_66 : tab 66 = some ⟨.func, 1, 8, [.nilfn]⟩ := rfl
theorem tab_67 : tab 67 = some ⟨.func, 1, 8, [.nilfn]⟩ := rfl
theorem tab_68 : tab 68 = some ⟨.func, 1, 8, [.nilfn]⟩ := rfl
theorem tab_69 : tab 69 = some ⟨.func, 1, 8, [.nilfn]⟩ := rfl
theorem tab_70 : tab 70 = some ⟨.func, 1, 8, [.nilfn]⟩ := rfl
theorem tab_71 : tab 71 = some ⟨.func, 1, 8, [.nilfn]⟩ := rfl
theorem tab_72 : tab 72 = some ⟨.func, 1, 8, [.nilfn]⟩ := rfl
theorem tab_73 : tab 73 = some ⟨.func, 1, 8, [.nilfn]⟩ := rfl
theorem tab_74 : tab 74 = some ⟨.func, 1, 8, [.nilfn]⟩ := rfl
theorem tab_75 : tab 75 = some ⟨.func, 1, 8, [.nilfn]⟩ := rfl
theorem tab_77 : tab 77 = some ⟨.func, 1, 8, [.nilfn]⟩ := rfl
theorem tab_78 : tab 78 = some ⟨.func, 1, 8, [.nilfn]⟩ := rfl
theorem tab_79 : tab 79 = some ⟨.func, 1, 8, [.nilfn]⟩ := rfl
theorem tab_80 : tab 80 = some ⟨.func, 1, 8, [.nilfn]⟩ := rfl
theorem tab_81 : tab 81 = some ⟨.struct [(0, 3), (1, 3), (2, 3)], 3, 24, [(.p (.int .i64 0)), (.p (.int .i64 0)), (.p (.int .i64 0))]⟩ := rfl
theorem tab_82 : tab 82 = some ⟨.func, 1, 8, [.nilfn]⟩ := rfl
theorem tab_83 : tab 83 = some ⟨.slice 4, 1, 24, [(.p .nil)]⟩ := rfl
theorem tab_84 : tab 84 = some ⟨.func, 1, 8, [.nilfn]⟩ := rfl
theorem tab_85 : tab 85 = some ⟨.func, 1, 8, [.nilfn]⟩ := rfl
theorem tab_86 : tab 86 = some ⟨.func, 1, 8, [.nilfn]⟩ := rfl
theorem tab_87 : tab 87 = some ⟨.func, 1, 8, [.nilfn]⟩ := rfl
theorem tab_88 : tab 88 = some ⟨.func, 1, 8, [.nilfn]⟩ := rfl
theorem tab_89 : tab 89 = some ⟨.func, 1, 8, [.nilfn]⟩ := rfl
theorem tab_90 : tab 90 = some ⟨.int .u64, 1, 8, [(.p (.int .u64 0))]⟩ := rfl
theorem tab_92 : tab 92 = some ⟨.func, 1, 8, [.nilfn]⟩ := rfl
theorem tab_93 : tab 93 = some ⟨.func, 1, 8, [.nilfn]⟩ := rfl
theorem tab_94 : tab 94 = some ⟨.ptr 96, 1, 8, [.nilp]⟩ := rfl
theorem tab_95 : tab 95 = some ⟨.struct [(0, 24), (1, 83), (2, 22)], 3, 72, [(.p .nil), (.p .nil), (.p .nil)]⟩ := rfl
theorem tab_96 : tab 96 = some ⟨.struct [(0, 24), (1, 83), (2, 22)], 3, 72, [(.p .nil), (.p .nil), (.p .nil)]⟩ := rfl
theorem tab_97 : tab 97 = some ⟨.func, 1, 8, [.nilfn]⟩ := rfl
theorem tab_98 : tab 98 = some ⟨.func, 1, 8, [.nilfn]⟩ := rfl
theorem tab_99 : tab 99 = some ⟨.func, 1, 8, [.nilfn]⟩ := rfl
theorem tab_100 : tab 100 = some ⟨.func, 1, 8, [.nilfn]⟩ := rfl
theorem tab_101 : tab 101 = some ⟨.func, 1, 8, [.nilfn]⟩ := rfl
theorem tab_102 : tab 102 = some ⟨.func, 1, 8, [.nilfn]⟩ := rfl
theorem tab_103 : tab 103 = some ⟨.func, 1, 8, [.nilfn]⟩ := rfl
theorem tab_104 : tab 104 = some ⟨.func, 1, 8, [.nilfn]⟩ := rfl
theorem tab_105 : tab 105 = some ⟨.func, 1, 8, [.nilfn]⟩ := rfl
theorem tab_106 : tab 106 = some ⟨.int .u32, 1, 4, [(.p (.int .u32 0))]⟩ := rfl
theorem tab_108 : tab 108 = some ⟨.func, 1, 8, [.nilfn]⟩ := rfl
theorem tab_109 : tab 109 = some ⟨.int .u64, 1, 8, [(.p (.int .u64 0))]⟩ := rfl
theorem tab_111 : tab 111 = some ⟨.func, 1, 8, [.nilfn]⟩ := rfl
theorem tab_112 : tab 112 = some ⟨.func, 1, 8, [.nilfn]⟩ := rfl
theorem tab_113 : tab 113 = some ⟨.ptr 115, 1, 8, [.nilp]⟩ := rfl
theorem tab_114 : tab 114 = some ⟨.struct [(0, 24), (1, 22), (2, 22), (3, 22), (4, 22), (5, 3)], 6, 128, [(.p .nil), (.p .nil), (.p .nil), (.p .nil), (.p .nil), (.p (.int .i64 0))]⟩ := rfl
theorem tab_115 : tab 115 = some ⟨.struct [(0, 24), (1, 22), (2, 22), (3, 22), (4, 22), (5, 3)], 6, 128, [(.p .nil), (.p .nil), (.p .nil), (.p .nil), (.p .nil), (.p (.int .i64 0))]⟩ := rfl
theorem tab_116 : tab 116 = some ⟨.func, 1, 8, [.nilfn]⟩ := rfl
theorem tab_117 : tab 117 = some ⟨.int .i64, 1, 8, [(.p (.int .i64 0))]⟩ := rfl
theorem tab_119 : tab 119 = some ⟨.func, 1, 8, [.nilfn]⟩ := rfl
theorem tab_120 : tab 120 = some ⟨.func, 1, 8, [.nilfn]⟩ := rfl
theorem tab_121 : tab 121 = some ⟨.func, 1, 8, [.nilfn]⟩ := rfl
theorem tab_123 : tab 123 = some ⟨.func, 1, 8, [.nilfn]⟩ := rfl
theorem tab_124 : tab 124 = some ⟨.func, 1, 8, [.nilfn]⟩ := rfl
theorem tab_125 : tab 125 = some ⟨.func, 1, 8, [.nilfn]⟩ := rfl
theorem tab_126 : tab 126 = some ⟨.func, 1, 8, [.nilfn]⟩ := rfl
theorem tab_127 : tab 127 = some ⟨.func, 1, 8, [.nilfn]⟩ := rfl
theorem tab_128 : tab 128 = some ⟨.int .u64, 1, 8, [(.p (.int .u64 0))]⟩ := rfl
theorem tab_129 : tab 129 = some ⟨.func, 1, 8, [.nilfn]⟩ := rfl
theorem tab_130 : tab 130 = some ⟨.func, 1, 8, [.nilfn]⟩ := rfl
theorem tab_131 : tab 131 = some ⟨.func, 1, 8, [.nilfn]⟩ := rfl
theorem tab_132 : tab 132 = some ⟨.ptr 3, 1, 8, [.nilp]⟩ := rfl
theorem tab_133 : tab 133 = some ⟨.func, 1, 8, [.nilfn]⟩ := rfl
theorem tab_134 : tab 134 = some ⟨.ptr 128, 1, 8, [.nilp]⟩ := rfl
theorem tab_136 : tab 136 = some ⟨.func, 1, 8, [.nilfn]⟩ := rfl
theorem tab_137 : tab 137 = some ⟨.func, 1, 8, [.nilfn]⟩ := rfl
theorem tab_143 : tab 143 = some ⟨.func, 1, 8, [.nilfn]⟩ := rfl
theorem tab_144 : tab 144 = some ⟨.int .u8, 1, 1, [(.p (.int .u8 0))]⟩ := rfl
theorem tab_145 : tab 145 = some ⟨.int .u8, 1, 1, [(.p (.int .u8 0))]⟩ := rfl
theorem tab_146 : tab 146 = some ⟨.func, 1, 8, [.nilfn]⟩ := rfl
theorem tab_147 : tab 147 = some ⟨.ptr 5, 1, 8, [.nilp]⟩ := rfl
theorem tab_148 : tab 148 = some ⟨.int .i32, 1, 4, [(.p (.int .i32 0))]⟩ := rfl
theorem tab_149 : tab 149 = some ⟨.int .i32, 1, 4, [(.p (.int .i32 0))]⟩ := rfl
set_option maxRecDepth 100000 in
theorem tabs : tab 1 = some ⟨.func, 1, 8, [.nilfn]⟩ ∧ tab 2 = some ⟨.int .i64, 1, 8, [(.p (.int .i64 0))]⟩ ∧ tab 3 = some ⟨.int .i64, 1, 8, [(.p (.int .i64 0))]⟩ ∧ tab 4 = some ⟨.bool, 1, 1, [(.p (.bool false))]⟩ ∧ tab 5 = some ⟨.int .u8, 1, 1, [(.p (.int .u8 0))]⟩ ∧ tab 6 = some ⟨.int .u8, 1, 1, [(.p (.int .u8 0))]⟩ ∧ tab 9 = some ⟨.str, 1, 16, [(.p (.str ⟨#[]⟩))]⟩ ∧ tab 10 = some ⟨.str, 1, 16, [(.p (.str ⟨#[]⟩))]⟩ ∧ tab 11 = some ⟨.str, 1, 16, [(.p (.str ⟨#[]⟩))]⟩ ∧ tab 12 = some ⟨.int .u64, 1, 8, [(.p (.int .u64 0))]⟩ ∧ tab 15 = some ⟨.ptr 139, 1, 8, [.nilp]⟩ ∧ tab 16 = some ⟨.ptr 142, 1, 8, [.nilp]⟩ ∧ tab 17 = some ⟨.ptr 151, 1, 8, [.nilp]⟩ ∧ tab 21 = some ⟨.int .i32, 1, 4, [(.p (.int .i32 0))]⟩ ∧ tab 22 = some ⟨.slice 3, 1, 24, [(.p .nil)]⟩ ∧ tab 23 = some ⟨.slice 81, 1, 24, [(.p .nil)]⟩ ∧ tab 24 = some ⟨.slice 22, 1, 24, [(.p .nil)]⟩ ∧ tab 25 = some ⟨.struct [(0, 3), (1, 22), (2, 23), (3, 24)], 4, 80, [(.p (.int .i64 0)), (.p .nil), (.p .nil), (.p .nil)]⟩ ∧ tab 26 = some ⟨.struct [(0, 3), (1, 22), (2, 23), (3, 24)], 4, 80, [(.p (.int .i64 0)), (.p .nil), (.p .nil), (.p .nil)]⟩ ∧ tab 27 = some ⟨.func, 1, 8, [.nilfn]⟩ ∧ tab 29 = some ⟨.func, 1, 8, [.nilfn]⟩ ∧ tab 30 = some ⟨.slice 65, 1, 24, [(.p .nil)]⟩ ∧ tab 31 = some ⟨.struct [(0, 3), (1, 22), (2, 30), (3, 24)], 4, 80, [(.p (.int .i64 0)), (.p .nil), (.p .nil), (.p .nil)]⟩ ∧ tab 32 = some ⟨.struct [(0, 3), (1, 22), (2, 30), (3, 24)], 4, 80, [(.p (.int .i64 0)), (.p .nil), (.p .nil), (.p .nil)]⟩ ∧ tab 33 = some ⟨.func, 1, 8, [.nilfn]⟩ ∧ tab 34 = some ⟨.func, 1, 8, [.nilfn]⟩ ∧ tab 35 = some ⟨.func, 1, 8, [.nilfn]⟩ ∧ tab 36 = some ⟨.struct [(0, 22), (1, 22)], 2, 48, [(.p .nil), (.p .nil)]⟩ ∧ tab 37 = some ⟨.struct [(0, 22), (1, 22)], 2, 48, [(.p .nil), (.p .nil)]⟩ ∧ tab 38 = some ⟨.func, 1, 8, [.nilfn]⟩ ∧ tab 39 = some ⟨.func, 1, 8, [.nilfn]⟩ ∧ tab 40 = some ⟨.struct [(0, 22), (1, 22)], 2, 48, [(.p .nil), (.p .nil)]⟩ ∧ tab 41 = some ⟨.func, 1, 8, [.nilfn]⟩ ∧ tab 42 = some ⟨.func, 1, 8, [.nilfn]⟩ ∧ tab 43 = some ⟨.func, 1, 8, [.nilfn]⟩ ∧ tab 45 = some ⟨.func, 1, 8, [.nilfn]⟩ ∧ tab 46 = some ⟨.func, 1, 8, [.nilfn]⟩ ∧ tab 47 = some ⟨.func, 1, 8, [.nilfn]⟩ ∧ tab 48 = some ⟨.func, 1, 8, [.nilfn]⟩ ∧ tab 49 = some ⟨.func, 1, 8, [.nilfn]⟩ ∧ tab 50 = some ⟨.func, 1, 8, [.nilfn]⟩ ∧ tab 52 = some ⟨.func, 1, 8, [.nilfn]⟩ ∧ tab 53 = some ⟨.func, 1, 8, [.nilfn]⟩ ∧ tab 54 = some ⟨.func, 1, 8, [.nilfn]⟩ ∧ tab 55 = some ⟨.func, 1, 8, [.nilfn]⟩ ∧ tab 56 = some ⟨.func, 1, 8, [.nilfn]⟩ ∧ tab 57 = some ⟨.func, 1, 8, [.nilfn]⟩ ∧ tab 58 = some ⟨.func, 1, 8, [.nilfn]⟩ ∧ tab 59 = some ⟨.func, 1, 8, [.nilfn]⟩ ∧ tab 60 = some ⟨.func, 1, 8, [.nilfn]⟩ ∧ tab 61 = some ⟨.func, 1, 8, [.nilfn]⟩ ∧ tab 62 = some ⟨.func, 1, 8, [.nilfn]⟩ ∧ tab 63 = some ⟨.func, 1, 8, [.nilfn]⟩ ∧ tab 64 = some ⟨.struct [(0, 3), (1, 3), (2, 3)], 3, 24, [(.p (.int .i64 0)), (.p (.int .i64 0)), (.p (.int .i64 0))]⟩ ∧ tab 65 = some ⟨.struct [(0, 3), (1, 3), (2, 3)], 3, 24, [(.p (.int .i64 0)), (.p (.int .i64 0)), (.p (.int .i64 0))]⟩ ∧ tab 66 = some ⟨.func, 1, 8, [.nilfn]⟩ ∧ tab 67 = some ⟨.func, 1, 8, [.nilfn]⟩ ∧ tab 68 = some ⟨.func, 1, 8, [.nilfn]⟩ ∧ tab 69 = some ⟨.func, 1, 8, [.nilfn]⟩ ∧ tab 70 = some ⟨.func, 1, 8, [.nilfn]⟩ ∧ tab 71 = some ⟨.func, 1, 8, [.nilfn]⟩ ∧ tab 72 = some ⟨.func, 1, 8, [.nilfn]⟩ ∧ tab 73 = some ⟨.func, 1, 8, [.nilfn]⟩ ∧ tab 74 = some ⟨.func, 1, 8, [.nilfn]⟩ ∧ tab 75 = some ⟨.func, 1, 8, [.nilfn]⟩ ∧ tab 77 = some ⟨.func, 1, 8, [.nilfn]⟩ ∧ tab 78 = some ⟨.func, 1, 8, [.nilfn]⟩ ∧ tab 79 = some ⟨.func, 1, 8, [.nilfn]⟩ ∧ tab 80 = some ⟨.func, 1, 8, [.nilfn]⟩ ∧ tab 81 = some ⟨.struct [(0, 3), (1, 3), (2, 3)], 3, 24, [(.p (.int .i64 0)), (.p (.int .i64 0)), (.p (.int .i64 0))]⟩ ∧ tab 82 = some ⟨.func, 1, 8, [.nilfn]⟩ ∧ tab 83 = some ⟨.slice 4, 1, 24, [(.p .nil)]⟩ ∧ tab 84 = some ⟨.func, 1, 8, [.nilfn]⟩ ∧ tab 85 = some ⟨.func, 1, 8, [.nilfn]⟩ ∧ tab 86 = some ⟨.func, 1, 8, [.nilfn]⟩ ∧ tab 87 = some ⟨.func, 1, 8, [.nilfn]⟩ ∧ tab 88 = some ⟨.func, 1, 8, [.nilfn]⟩ ∧ tab 89 = some ⟨.func, 1, 8, [.nilfn]⟩ ∧ tab 90 = some ⟨.int .u64, 1, 8, [(.p (.int .u64 0))]⟩ ∧ tab 92 = some ⟨.func, 1, 8, [.nilfn]⟩ ∧ tab 93 = some ⟨.func, 1, 8, [.nilfn]⟩ ∧ tab 94 = some ⟨.ptr 96, 1, 8, [.nilp]⟩ ∧ tab 95 = some ⟨.struct [(0, 24), (1, 83), (2, 22)], 3, 72, [(.p .nil), (.p .nil), (.p .nil)]⟩ ∧ tab 96 = some ⟨.struct [(0, 24), (1, 83), (2, 22)], 3, 72, [(.p .nil), (.p .nil), (.p .nil)]⟩ ∧ tab 97 = some ⟨.func, 1, 8, [.nilfn]⟩ ∧ tab 98 = some ⟨.func, 1, 8, [.nilfn]⟩ ∧ tab 99 = some ⟨.func, 1, 8, [.nilfn]⟩ ∧ tab 100 = some ⟨.func, 1, 8, [.nilfn]⟩ ∧ tab 101 = some ⟨.func, 1, 8, [.nilfn]⟩ ∧ tab 102 = some ⟨.func, 1, 8, [.nilfn]⟩ ∧ tab 103 = some ⟨.func, 1, 8, [.nilfn]⟩ ∧ tab 104 = some ⟨.func, 1, 8, [.nilfn]⟩ ∧ tab 105 = some ⟨.func, 1, 8, [.nilfn]⟩ ∧ tab 106 = some ⟨.int .u32, 1, 4, [(.p (.int .u32 0))]⟩ ∧ tab 108 = some ⟨.func, 1, 8, [.nilfn]⟩ ∧ tab 109 = some ⟨.int .u64, 1, 8, [(.p (.int .u64 0))]⟩ ∧ tab 111 = some ⟨.func, 1, 8, [.nilfn]⟩ ∧ tab 112 = some ⟨.func, 1, 8, [.nilfn]⟩ ∧ tab 113 = some ⟨.ptr 115, 1, 8, [.nilp]⟩ ∧ tab 114 = some ⟨.struct [(0, 24), (1, 22), (2, 22), (3, 22), (4, 22), (5, 3)], 6, 128, [(.p .nil), (.p .nil), (.p .nil), (.p .nil), (.p .nil), (.p (.int .i64 0))]⟩ ∧ tab 115 = some ⟨.struct [(0, 24), (1, 22), (2, 22), (3, 22), (4, 22), (5, 3)], 6, 128, [(.p .nil), (.p .nil), (.p .nil), (.p .nil), (.p .nil), (.p (.int .i64 0))]⟩ ∧ tab 116 = some ⟨.func, 1, 8, [.nilfn]⟩ ∧ tab 117 = some ⟨.int .i64, 1, 8, [(.p (.int .i64 0))]⟩ ∧ tab 119 = some ⟨.func, 1, 8, [.nilfn]⟩ ∧ tab 120 = some ⟨.func, 1, 8, [.nilfn]⟩ ∧ tab 121 = some ⟨.func, 1, 8, [.nilfn]⟩ ∧ tab 123 = some ⟨.func, 1, 8, [.nilfn]⟩ ∧ tab 124 = some ⟨.func, 1, 8, [.nilfn]⟩ ∧ tab 125 = some ⟨.func, 1, 8, [.nilfn]⟩ ∧ tab 126 = some ⟨.func, 1, 8, [.nilfn]⟩ ∧ tab 127 = some ⟨.func, 1, 8, [.nilfn]⟩ ∧ tab 128 = some ⟨.int .u64, 1, 8, [(.p (.int .u64 0))]⟩ ∧ tab 129 = some ⟨.func, 1, 8, [.nilfn]⟩ ∧ tab 130 = some ⟨.func, 1, 8, [.nilfn]⟩ ∧ tab 131 = some ⟨.func, 1, 8, [.nilfn]⟩ ∧ tab 132 = some ⟨.ptr 3, 1, 8, [.nilp]⟩ ∧ tab 133 = some ⟨.func, 1, 8, [.nilfn]⟩ ∧ tab 134 = some ⟨.ptr 128, 1, 8, [.nilp]⟩ ∧ tab 136 = some ⟨.func, 1, 8, [.nilfn]⟩ ∧ tab 137 = some ⟨.func, 1, 8, [.nilfn]⟩ ∧ tab 143 = some ⟨.func, 1, 8, [.nilfn]⟩ ∧ tab 144 = some ⟨.int .u8, 1, 1, [(.p (.int .u8 0))]⟩ ∧ tab 145 = some ⟨.int .u8, 1, 1, [(.p (.int .u8 0))]⟩ ∧ tab 146 = some ⟨.func, 1, 8, [.nilfn]⟩ ∧ tab 147 = some ⟨.ptr 5, 1, 8, [.nilp]⟩ ∧ tab 148 = some ⟨.int .i32, 1, 4, [(.p (.int .i32 0))]⟩ ∧ tab 149 = some ⟨.int .i32, 1, 4, [(.p (.int .i32 0))]⟩ := ⟨tab_1, tab_2, tab_3, tab_4, tab_5, tab_6, tab_9, tab_10, tab_11, tab_12, tab_15, tab_16, tab_17, tab_21, tab_22, tab_23, tab_24, tab_25, tab_26, tab_27, tab_29, tab_30, tab_31, tab_32, tab_33, tab_34, tab_35, tab_36, tab_37, tab_38, tab_39, tab_40, tab_41, tab_42, tab_43, tab_45, tab_46, tab_47, tab_48, tab_49, tab_50, tab_52, tab_53, tab_54, tab_55, tab_56, tab_57, tab_58, tab_59, tab_60, tab_61, tab_62, tab_63, tab_64, tab_65, tab_66, tab_67, tab_68, tab_69, tab_70, tab_71, tab_72, tab_73, tab_74, tab_75, tab_77, tab_78, tab_79, tab_80, tab_81, tab_82, tab_83, tab_84, tab_85, tab_86, tab_87, tab_88, tab_89, tab_90, tab_92, tab_93, tab_94, tab_95, tab_96, tab_97, tab_98, tab_99, tab_100, tab_101, tab_102, tab_103, tab_104, tab_105, tab_106, tab_108, tab_109, tab_111, tab_112, tab_113, tab_114, tab_115, tab_116, tab_117, tab_119, tab_120, tab_121, tab_123, tab_124, tab_125, tab_126, tab_127, tab_128, tab_129, tab_130, tab_131, tab_132, tab_133, tab_134, tab_136, tab_137, tab_143, tab_144, tab_145, tab_146, tab_147, tab_148, tab_149⟩
theorem info1 : (Try.prog.info? 1).map (fun i => (i.zero, i.size, i.bytes)) = some (some .nilFunc, 1, 8) := by kernel_rfl
theorem td1_ok : TD.Ok Try.prog 1 td1 := TD.Ok.of ⟨_, _, _, Try.underlying1⟩ info1 rfl rfl (by decide) (fun _ => rfl)
theorem info2 : (Try.prog.info? 2).map (fun i => (i.zero, i.size, i.bytes)) = some (some (.int .i64 0), 1, 8) := by kernel_rfl
theorem td2_ok : TD.Ok Try.prog 2 td2 := TD.Ok.of Try.underlying2 info2 rfl rfl (by decide) (fun _ => rfl)
theorem info3 : (Try.prog.info? 3).map (fun i => (i.zero, i.size, i.bytes)) = some (some (.int .i64 0), 1, 8) := by kernel_rfl
theorem td3_ok : TD.Ok Try.prog 3 td3 := TD.Ok.of Try.underlying3 info3 rfl rfl (by decide) (fun _ => rfl)
theorem info4 : (Try.prog.info? 4).map (fun i => (i.zero, i.size, i.bytes)) = some (some (.bool false), 1, 1) := by kernel_rfl
theorem td4_ok : TD.Ok Try.prog 4 td4 := TD.Ok.of Try.underlying4 info4 rfl rfl (by decide) (fun _ => rfl)
theorem info5 : (Try.prog.info? 5).map (fun i => (i.zero, i.size, i.bytes)) = some (some (.int .u8 0), 1, 1) := by kernel_rfl
theorem td5_ok : TD.Ok Try.prog 5 td5 := TD.Ok.of Try.underlying5 info5 rfl rfl (by decide) (fun _ => rfl)
theorem info6 : (Try.prog.info? 6).map (fun i => (i.zero, i.size, i.bytes)) = some (some (.int .u8 0), 1, 1) := by kernel_rfl
theorem td6_ok : TD.Ok Try.prog 6 td6 := TD.Ok.of Try.underlying6 info6 rfl rfl (by decide) (fun _ => rfl)
theorem info9 : (Try.prog.info? 9).map (fun i => (i.zero, i.size, i.bytes)) = some (some (.string ⟨#[]⟩), 1, 16) := by kernel_rfl
theorem td9_ok : TD.Ok Try.prog 9 td9 := TD.Ok.of Try.underlying9 info9 rfl rfl (by decide) (fun _ => rfl)
theorem info10 : (Try.prog.info? 10).map (fun i => (i.zero, i.size, i.bytes)) = some (some (.string ⟨#[]⟩), 1, 16) := by kernel_rfl
theorem td10_ok : TD.Ok Try.prog 10 td10 := TD.Ok.of Try.underlying10 info10 rfl rfl (by decide) (fun _ => rfl)
theorem info11 : (Try.prog.info? 11).map (fun i => (i.zero, i.size, i.bytes)) = some (some (.string ⟨#[]⟩), 1, 16) := by kernel_rfl
theorem td11_ok : TD.Ok Try.prog 11 td11 := TD.Ok.of Try.underlying11 info11 rfl rfl (by decide) (fun _ => rfl)
theorem info12 : (Try.prog.info? 12).map (fun i => (i.zero, i.size, i.bytes)) = some (some (.int .u64 0), 1, 8) := by kernel_rfl
theorem td12_ok : TD.Ok Try.prog 12 td12 := TD.Ok.of Try.underlying12 info12 rfl rfl (by decide) (fun _ => rfl)
theorem info15 : (Try.prog.info? 15).map (fun i => (i.zero, i.size, i.bytes)) = some (some (.pointer none), 1, 8) := by kernel_rfl
theorem td15_ok : TD.Ok Try.prog 15 td15 := TD.Ok.of Try.underlying15 info15 rfl rfl (by decide) (fun _ => rfl)
theorem info16 : (Try.prog.info? 16).map (fun i => (i.zero, i.size, i.bytes)) = some (some (.pointer none), 1, 8) := by kernel_rfl
theorem td16_ok : TD.Ok Try.prog 16 td16 := TD.Ok.of Try.underlying16 info16 rfl rfl (by decide) (fun _ => rfl)
theorem info17 : (Try.prog.info? 17).map (fun i => (i.zero, i.size, i.bytes)) = some (some (.pointer none), 1, 8) := by kernel_rfl
theorem td17_ok : TD.Ok Try.prog 17 td17 := TD.Ok.of Try.underlying17 info17 rfl rfl (by decide) (fun _ => rfl)
theorem info21 : (Try.prog.info? 21).map (fun i => (i.zero, i.size, i.bytes)) = some (some (.int .i32 0), 1, 4) := by kernel_rfl
theorem td21_ok : TD.Ok Try.prog 21 td21 := TD.Ok.of Try.underlying21 info21 rfl rfl (by decide) (fun _ => rfl)
theorem info22 : (Try.prog.info? 22).map (fun i => (i.zero, i.size, i.bytes)) = some (some (.slice none 0 0), 1, 24) := by kernel_rfl
theorem td22_ok : TD.Ok Try.prog 22 td22 := TD.Ok.of Try.underlying22 info22 rfl rfl (by decide) (fun _ => rfl)
theorem info23 : (Try.prog.info? 23).map (fun i => (i.zero, i.size, i.bytes)) = some (some (.slice none 0 0), 1, 24) := by kernel_rfl
theorem td23_ok : TD.Ok Try.prog 23 td23 := TD.Ok.of Try.underlying23 info23 rfl rfl (by decide) (fun _ => rfl)
theorem info24 : (Try.prog.info? 24).map (fun i => (i.zero, i.size, i.bytes)) = some (some (.slice none 0 0), 1, 24) := by kernel_rfl
theorem td24_ok : TD.Ok Try.prog 24 td24 := TD.Ok.of Try.underlying24 info24 rfl rfl (by decide) (fun _ => rfl)
theorem info25 : (Try.prog.info? 25).map (fun i => (i.zero, i.size, i.bytes)) = some (some (.agg #[(.int .i64 0), (.slice none 0 0), (.slice none 0 0), (.slice none 0 0)]), 4, 80) := by kernel_rfl
theorem td25_ok : TD.Ok Try.prog 25 td25 := TD.Ok.of ⟨_, Try.underlying25, rfl, Try.stoodInHeld25, Try.eqGuardType25, by decide⟩ info25 rfl rfl (by decide) (fun h => by cases h)
theorem info26 : (Try.prog.info? 26).map (fun i => (i.zero, i.size, i.bytes)) = some (some (.agg #[(.int .i64 0), (.slice none 0 0), (.slice none 0 0), (.slice none 0 0)]), 4, 80) := by kernel_rfl
theorem td26_ok : TD.Ok Try.prog 26 td26 := TD.Ok.of ⟨_, Try.underlying26, rfl, Try.stoodInHeld26, Try.eqGuardType26, by decide⟩ info26 rfl rfl (by decide) (fun h => by cases h)
theorem info27 : (Try.prog.info? 27).map (fun i => (i.zero, i.size, i.bytes)) = some (some .nilFunc, 1, 8) := by kernel_rfl
theorem td27_ok : TD.Ok Try.prog 27 td27 := TD.Ok.of ⟨_, _, _, Try.underlying27⟩ info27 rfl rfl (by decide) (fun _ => rfl)
theorem info29 : (Try.prog.info? 29).map (fun i => (i.zero, i.size, i.bytes)) = some (some .nilFunc, 1, 8) := by kernel_rfl
theorem td29_ok : TD.Ok Try.prog 29 td29 := TD.Ok.of ⟨_, _, _, Try.underlying29⟩ info29 rfl rfl (by decide) (fun _ => rfl)
theorem info30 : (Try.prog.info? 30).map (fun i => (i.zero, i.size, i.bytes)) = some (some (.slice none 0 0), 1, 24) := by kernel_rfl
theorem td30_ok : TD.Ok Try.prog 30 td30 := TD.Ok.of Try.underlying30 info30 rfl rfl (by decide) (fun _ => rfl)
theorem info31 : (Try.prog.info? 31).map (fun i => (i.zero, i.size, i.bytes)) = some (some (.agg #[(.int .i64 0), (.slice none 0 0), (.slice none 0 0), (.slice none 0 0)]), 4, 80) := by kernel_rfl
theorem td31_ok : TD.Ok Try.prog 31 td31 := TD.Ok.of ⟨_, Try.underlying31, rfl, Try.stoodInHeld31, Try.eqGuardType31, by decide⟩ info31 rfl rfl (by decide) (fun h => by cases h)
theorem info32 : (Try.prog.info? 32).map (fun i => (i.zero, i.size, i.bytes)) = some (some (.agg #[(.int .i64 0), (.slice none 0 0), (.slice none 0 0), (.slice none 0 0)]), 4, 80) := by kernel_rfl
theorem td32_ok : TD.Ok Try.prog 32 td32 := TD.Ok.of ⟨_, Try.underlying32, rfl, Try.stoodInHeld32, Try.eqGuardType32, by decide⟩ info32 rfl rfl (by decide) (fun h => by cases h)
theorem info33 : (Try.prog.info? 33).map (fun i => (i.zero, i.size, i.bytes)) = some (some .nilFunc, 1, 8) := by kernel_rfl
theorem td33_ok : TD.Ok Try.prog 33 td33 := TD.Ok.of ⟨_, _, _, Try.underlying33⟩ info33 rfl rfl (by decide) (fun _ => rfl)
theorem info34 : (Try.prog.info? 34).map (fun i => (i.zero, i.size, i.bytes)) = some (some .nilFunc, 1, 8) := by kernel_rfl
theorem td34_ok : TD.Ok Try.prog 34 td34 := TD.Ok.of ⟨_, _, _, Try.underlying34⟩ info34 rfl rfl (by decide) (fun _ => rfl)
theorem info35 : (Try.prog.info? 35).map (fun i => (i.zero, i.size, i.bytes)) = some (some .nilFunc, 1, 8) := by kernel_rfl
theorem td35_ok : TD.Ok Try.prog 35 td35 := TD.Ok.of ⟨_, _, _, Try.underlying35⟩ info35 rfl rfl (by decide) (fun _ => rfl)
theorem info36 : (Try.prog.info? 36).map (fun i => (i.zero, i.size, i.bytes)) = some (some (.agg #[(.slice none 0 0), (.slice none 0 0)]), 2, 48) := by kernel_rfl
theorem td36_ok : TD.Ok Try.prog 36 td36 := TD.Ok.of ⟨_, Try.underlying36, rfl, Try.stoodInHeld36, Try.eqGuardType36, by decide⟩ info36 rfl rfl (by decide) (fun h => by cases h)
theorem info37 : (Try.prog.info? 37).map (fun i => (i.zero, i.size, i.bytes)) = some (some (.agg #[(.slice none 0 0), (.slice none 0 0)]), 2, 48) := by kernel_rfl
theorem td37_ok : TD.Ok Try.prog 37 td37 := TD.Ok.of ⟨_, Try.underlying37, rfl, Try.stoodInHeld37, Try.eqGuardType37, by decide⟩ info37 rfl rfl (by decide) (fun h => by cases h)
theorem info38 : (Try.prog.info? 38).map (fun i => (i.zero, i.size, i.bytes)) = some (some .nilFunc, 1, 8) := by kernel_rfl
theorem td38_ok : TD.Ok Try.prog 38 td38 := TD.Ok.of ⟨_, _, _, Try.underlying38⟩ info38 rfl rfl (by decide) (fun _ => rfl)
theorem info39 : (Try.prog.info? 39).map (fun i => (i.zero, i.size, i.bytes)) = some (some .nilFunc, 1, 8) := by kernel_rfl
theorem td39_ok : TD.Ok Try.prog 39 td39 := TD.Ok.of ⟨_, _, _, Try.underlying39⟩ info39 rfl rfl (by decide) (fun _ => rfl)
theorem info40 : (Try.prog.info? 40).map (fun i => (i.zero, i.size, i.bytes)) = some (some (.agg #[(.slice none 0 0), (.slice none 0 0)]), 2, 48) := by kernel_rfl
theorem td40_ok : TD.Ok Try.prog 40 td40 := TD.Ok.of ⟨_, Try.underlying40, rfl, Try.stoodInHeld40, Try.eqGuardType40, by decide⟩ info40 rfl rfl (by decide) (fun h => by cases h)
theorem info41 : (Try.prog.info? 41).map (fun i => (i.zero, i.size, i.bytes)) = some (some .nilFunc, 1, 8) := by kernel_rfl
theorem td41_ok : TD.Ok Try.prog 41 td41 := TD.Ok.of ⟨_, _, _, Try.underlying41⟩ info41 rfl rfl (by decide) (fun _ => rfl)
theorem info42 : (Try.prog.info? 42).map (fun i => (i.zero, i.size, i.bytes)) = some (some .nilFunc, 1, 8) := by kernel_rfl
theorem td42_ok : TD.Ok Try.prog 42 td42 := TD.Ok.of ⟨_, _, _, Try.underlying42⟩ info42 rfl rfl (by decide) (fun _ => rfl)
theorem info43 : (Try.prog.info? 43).map (fun i => (i.zero, i.size, i.bytes)) = some (some .nilFunc, 1, 8) := by kernel_rfl
theorem td43_ok : TD.Ok Try.prog 43 td43 := TD.Ok.of ⟨_, _, _, Try.underlying43⟩ info43 rfl rfl (by decide) (fun _ => rfl)
theorem info45 : (Try.prog.info? 45).map (fun i => (i.zero, i.size, i.bytes)) = some (some .nilFunc, 1, 8) := by kernel_rfl
theorem td45_ok : TD.Ok Try.prog 45 td45 := TD.Ok.of ⟨_, _, _, Try.underlying45⟩ info45 rfl rfl (by decide) (fun _ => rfl)
theorem info46 : (Try.prog.info? 46).map (fun i => (i.zero, i.size, i.bytes)) = some (some .nilFunc, 1, 8) := by kernel_rfl
theorem td46_ok : TD.Ok Try.prog 46 td46 := TD.Ok.of ⟨_, _, _, Try.underlying46⟩ info46 rfl rfl (by decide) (fun _ => rfl)
theorem info47 : (Try.prog.info? 47).map (fun i => (i.zero, i.size, i.bytes)) = some (some .nilFunc, 1, 8) := by kernel_rfl
theorem td47_ok : TD.Ok Try.prog 47 td47 := TD.Ok.of ⟨_, _, _, Try.underlying47⟩ info47 rfl rfl (by decide) (fun _ => rfl)
theorem info48 : (Try.prog.info? 48).map (fun i => (i.zero, i.size, i.bytes)) = some (some .nilFunc, 1, 8) := by kernel_rfl
theorem td48_ok : TD.Ok Try.prog 48 td48 := TD.Ok.of ⟨_, _, _, Try.underlying48⟩ info48 rfl rfl (by decide) (fun _ => rfl)
theorem info49 : (Try.prog.info? 49).map (fun i => (i.zero, i.size, i.bytes)) = some (some .nilFunc, 1, 8) := by kernel_rfl
theorem td49_ok : TD.Ok Try.prog 49 td49 := TD.Ok.of ⟨_, _, _, Try.underlying49⟩ info49 rfl rfl (by decide) (fun _ => rfl)
theorem info50 : (Try.prog.info? 50).map (fun i => (i.zero, i.size, i.bytes)) = some (some .nilFunc, 1, 8) := by kernel_rfl
theorem td50_ok : TD.Ok Try.prog 50 td50 := TD.Ok.of ⟨_, _, _, Try.underlying50⟩ info50 rfl rfl (by decide) (fun _ => rfl)
theorem info52 : (Try.prog.info? 52).map (fun i => (i.zero, i.size, i.bytes)) = some (some .nilFunc, 1, 8) := by kernel_rfl
theorem td52_ok : TD.Ok Try.prog 52 td52 := TD.Ok.of ⟨_, _, _, Try.underlying52⟩ info52 rfl rfl (by decide) (fun _ => rfl)
theorem info53 : (Try.prog.info? 53).map (fun i => (i.zero, i.size, i.bytes)) = some (some .nilFunc, 1, 8) := by kernel_rfl
theorem td53_ok : TD.Ok Try.prog 53 td53 := TD.Ok.of ⟨_, _, _, Try.underlying53⟩ info53 rfl rfl (by decide) (fun _ => rfl)
theorem info54 : (Try.prog.info? 54).map (fun i => (i.zero, i.size, i.bytes)) = some (some .nilFunc, 1, 8) := by kernel_rfl
theorem td54_ok : TD.Ok Try.prog 54 td54 := TD.Ok.of ⟨_, _, _, Try.underlying54⟩ info54 rfl rfl (by decide) (fun _ => rfl)
theorem info55 : (Try.prog.info? 55).map (fun i => (i.zero, i.size, i.bytes)) = some (some .nilFunc, 1, 8) := by kernel_rfl
theorem td55_ok : TD.Ok Try.prog 55 td55 := TD.Ok.of ⟨_, _, _, Try.underlying55⟩ info55 rfl rfl (by decide) (fun _ => rfl)
theorem info56 : (Try.prog.info? 56).map (fun i => (i.zero, i.size, i.bytes)) = some (some .nilFunc, 1, 8) := by kernel_rfl
theorem td56_ok : TD.Ok Try.prog 56 td56 := TD.Ok.of ⟨_, _, _, Try.underlying56⟩ info56 rfl rfl (by decide) (fun _ => rfl)
theorem info57 : (Try.prog.info? 57).map (fun i => (i.zero, i.size, i.bytes)) = some (some .nilFunc, 1, 8) := by kernel_rfl
theorem td57_ok : TD.Ok Try.prog 57 td57 := TD.Ok.of ⟨_, _, _, Try.underlying57⟩ info57 rfl rfl (by decide) (fun _ => rfl)
theorem info58 : (Try.prog.info? 58).map (fun i => (i.zero, i.size, i.bytes)) = some (some .nilFunc, 1, 8) := by kernel_rfl
theorem td58_ok : TD.Ok Try.prog 58 td58 := TD.Ok.of ⟨_, _, _, Try.underlying58⟩ info58 rfl rfl (by decide) (fun _ => rfl)
theorem info59 : (Try.prog.info? 59).map (fun i => (i.zero, i.size, i.bytes)) = some (some .nilFunc, 1, 8) := by kernel_rfl
theorem td59_ok : TD.Ok Try.prog 59 td59 := TD.Ok.of ⟨_, _, _, Try.underlying59⟩ info59 rfl rfl (by decide) (fun _ => rfl)
theorem info60 : (Try.prog.info? 60).map (fun i => (i.zero, i.size, i.bytes)) = some (some .nilFunc, 1, 8) := by kernel_rfl
theorem td60_ok : TD.Ok Try.prog 60 td60 := TD.Ok.of ⟨_, _, _, Try.underlying60⟩ info60 rfl rfl (by decide) (fun _ => rfl)
theorem info61 : (Try.prog.info? 61).map (fun i => (i.zero, i.size, i.bytes)) = some (some .nilFunc, 1, 8) := by kernel_rfl
theorem td61_ok : TD.Ok Try.prog 61 td61 := TD.Ok.of ⟨_, _, _, Try.underlying61⟩ info61 rfl rfl (by decide) (fun _ => rfl)
theorem info62 : (Try.prog.info? 62).map (fun i => (i.zero, i.size, i.bytes)) = some (some .nilFunc, 1, 8) := by kernel_rfl
theorem td62_ok : TD.Ok Try.prog 62 td62 := TD.Ok.of ⟨_, _, _, Try.underlying62⟩ info62 rfl rfl (by decide) (fun _ => rfl)
theorem info63 : (Try.prog.info? 63).map (fun i => (i.zero, i.size, i.bytes)) = some (some .nilFunc, 1, 8) := by kernel_rfl
theorem td63_ok : TD.Ok Try.prog 63 td63 := TD.Ok.of ⟨_, _, _, Try.underlying63⟩ info63 rfl rfl (by decide) (fun _ => rfl)
theorem info64 : (Try.prog.info? 64).map (fun i => (i.zero, i.size, i.bytes)) = some (some (.agg #[(.int .i64 0), (.int .i64 0), (.int .i64 0)]), 3, 24) := by kernel_rfl
theorem td64_ok : TD.Ok Try.prog 64 td64 := TD.Ok.of ⟨_, Try.underlying64, rfl, Try.stoodInHeld64, Try.eqGuardType64, by decide⟩ info64 rfl rfl (by decide) (fun h => by cases h)
theorem info65 : (Try.prog.info? 65).map (fun i => (i.zero, i.size, i.bytes)) = some (some (.agg #[(.int .i64 0), (.int .i64 0), (.int .i64 0)]), 3, 24) := by kernel_rfl
theorem td65_ok : TD.Ok Try.prog 65 td65 := TD.Ok.of ⟨_, Try.underlying65, rfl, Try.stoodInHeld65, Try.eqGuardType65, by decide⟩ info65 rfl rfl (by decide) (fun h => by cases h)
theorem info66 : (Try.prog.info? 66).map (fun i => (i.zero, i.size, i.bytes)) = some (some .nilFunc, 1, 8) := by kernel_rfl
theorem td66_ok : TD.Ok Try.prog 66 td66 := TD.Ok.of ⟨_, _, _, Try.underlying66⟩ info66 rfl rfl (by decide) (fun _ => rfl)
theorem info67 : (Try.prog.info? 67).map (fun i => (i.zero, i.size, i.bytes)) = some (some .nilFunc, 1, 8) := by kernel_rfl
theorem td67_ok : TD.Ok Try.prog 67 td67 := TD.Ok.of ⟨_, _, _, Try.underlying67⟩ info67 rfl rfl (by decide) (fun _ => rfl)
theorem info68 : (Try.prog.info? 68).map (fun i => (i.zero, i.size, i.bytes)) = some (some .nilFunc, 1, 8) := by kernel_rfl
theorem td68_ok : TD.Ok Try.prog 68 td68 := TD.Ok.of ⟨_, _, _, Try.underlying68⟩ info68 rfl rfl (by decide) (fun _ => rfl)
theorem info69 : (Try.prog.info? 69).map (fun i => (i.zero, i.size, i.bytes)) = some (some .nilFunc, 1, 8) := by kernel_rfl
theorem td69_ok : TD.Ok Try.prog 69 td69 := TD.Ok.of ⟨_, _, _, Try.underlying69⟩ info69 rfl rfl (by decide) (fun _ => rfl)
theorem info70 : (Try.prog.info? 70).map (fun i => (i.zero, i.size, i.bytes)) = some (some .nilFunc, 1, 8) := by kernel_rfl
theorem td70_ok : TD.Ok Try.prog 70 td70 := TD.Ok.of ⟨_, _, _, Try.underlying70⟩ info70 rfl rfl (by decide) (fun _ => rfl)
theorem info71 : (Try.prog.info? 71).map (fun i => (i.zero, i.size, i.bytes)) = some (some .nilFunc, 1, 8) := by kernel_rfl
theorem td71_ok : TD.Ok Try.prog 71 td71 := TD.Ok.of ⟨_, _, _, Try.underlying71⟩ info71 rfl rfl (by decide) (fun _ => rfl)
theorem info72 : (Try.prog.info? 72).map (fun i => (i.zero, i.size, i.bytes)) = some (some .nilFunc, 1, 8) := by kernel_rfl
theorem td72_ok : TD.Ok Try.prog 72 td72 := TD.Ok.of ⟨_, _, _, Try.underlying72⟩ info72 rfl rfl (by decide) (fun _ => rfl)
theorem info73 : (Try.prog.info? 73).map (fun i => (i.zero, i.size, i.bytes)) = some (some .nilFunc, 1, 8) := by kernel_rfl
theorem td73_ok : TD.Ok Try.prog 73 td73 := TD.Ok.of ⟨_, _, _, Try.underlying73⟩ info73 rfl rfl (by decide) (fun _ => rfl)
theorem info74 : (Try.prog.info? 74).map (fun i => (i.zero, i.size, i.bytes)) = some (some .nilFunc, 1, 8) := by kernel_rfl
theorem td74_ok : TD.Ok Try.prog 74 td74 := TD.Ok.of ⟨_, _, _, Try.underlying74⟩ info74 rfl rfl (by decide) (fun _ => rfl)
theorem info75 : (Try.prog.info? 75).map (fun i => (i.zero, i.size, i.bytes)) = some (some .nilFunc, 1, 8) := by kernel_rfl
theorem td75_ok : TD.Ok Try.prog 75 td75 := TD.Ok.of ⟨_, _, _, Try.underlying75⟩ info75 rfl rfl (by decide) (fun _ => rfl)
theorem info77 : (Try.prog.info? 77).map (fun i => (i.zero, i.size, i.bytes)) = some (some .nilFunc, 1, 8) := by kernel_rfl
theorem td77_ok : TD.Ok Try.prog 77 td77 := TD.Ok.of ⟨_, _, _, Try.underlying77⟩ info77 rfl rfl (by decide) (fun _ => rfl)
theorem info78 : (Try.prog.info? 78).map (fun i => (i.zero, i.size, i.bytes)) = some (some .nilFunc, 1, 8) := by kernel_rfl
theorem td78_ok : TD.Ok Try.prog 78 td78 := TD.Ok.of ⟨_, _, _, Try.underlying78⟩ info78 rfl rfl (by decide) (fun _ => rfl)
theorem info79 : (Try.prog.info? 79).map (fun i => (i.zero, i.size, i.bytes)) = some (some .nilFunc, 1, 8) := by kernel_rfl
theorem td79_ok : TD.Ok Try.prog 79 td79 := TD.Ok.of ⟨_, _, _, Try.underlying79⟩ info79 rfl rfl (by decide) (fun _ => rfl)
theorem info80 : (Try.prog.info? 80).map (fun i => (i.zero, i.size, i.bytes)) = some (some .nilFunc, 1, 8) := by kernel_rfl
theorem td80_ok : TD.Ok Try.prog 80 td80 := TD.Ok.of ⟨_, _, _, Try.underlying80⟩ info80 rfl rfl (by decide) (fun _ => rfl)
theorem info81 : (Try.prog.info? 81).map (fun i => (i.zero, i.size, i.bytes)) = some (some (.agg #[(.int .i64 0), (.int .i64 0), (.int .i64 0)]), 3, 24) := by kernel_rfl
theorem td81_ok : TD.Ok Try.prog 81 td81 := TD.Ok.of ⟨_, Try.underlying81, rfl, Try.stoodInHeld81, Try.eqGuardType81, by decide⟩ info81 rfl rfl (by decide) (fun h => by cases h)
theorem info82 : (Try.prog.info? 82).map (fun i => (i.zero, i.size, i.bytes)) = some (some .nilFunc, 1, 8) := by kernel_rfl
theorem td82_ok : TD.Ok Try.prog 82 td82 := TD.Ok.of ⟨_, _, _, Try.underlying82⟩ info82 rfl rfl (by decide) (fun _ => rfl)
theorem info83 : (Try.prog.info? 83).map (fun i => (i.zero, i.size, i.bytes)) = some (some (.slice none 0 0), 1, 24) := by kernel_rfl
theorem td83_ok : TD.Ok Try.prog 83 td83 := TD.Ok.of Try.underlying83 info83 rfl rfl (by decide) (fun _ => rfl)
theorem info84 : (Try.prog.info? 84).map (fun i => (i.zero, i.size, i.bytes)) = some (some .nilFunc, 1, 8) := by kernel_rfl
theorem td84_ok : TD.Ok Try.prog 84 td84 := TD.Ok.of ⟨_, _, _, Try.underlying84⟩ info84 rfl rfl (by decide) (fun _ => rfl)
theorem info85 : (Try.prog.info? 85).map (fun i => (i.zero, i.size, i.bytes)) = some (some .nilFunc, 1, 8) := by kernel_rfl
theorem td85_ok : TD.Ok Try.prog 85 td85 := TD.Ok.of ⟨_, _, _, Try.underlying85⟩ info85 rfl rfl (by decide) (fun _ => rfl)
theorem info86 : (Try.prog.info? 86).map (fun i => (i.zero, i.size, i.bytes)) = some (some .nilFunc, 1, 8) := by kernel_rfl
theorem td86_ok : TD.Ok Try.prog 86 td86 := TD.Ok.of ⟨_, _, _, Try.underlying86⟩ info86 rfl rfl (by decide) (fun _ => rfl)
theorem info87 : (Try.prog.info? 87).map (fun i => (i.zero, i.size, i.bytes)) = some (some .nilFunc, 1, 8) := by kernel_rfl
theorem td87_ok : TD.Ok Try.prog 87 td87 := TD.Ok.of ⟨_, _, _, Try.underlying87⟩ info87 rfl rfl (by decide) (fun _ => rfl)
theorem info88 : (Try.prog.info? 88).map (fun i => (i.zero, i.size, i.bytes)) = some (some .nilFunc, 1, 8) := by kernel_rfl
theorem td88_ok : TD.Ok Try.prog 88 td88 := TD.Ok.of ⟨_, _, _, Try.underlying88⟩ info88 rfl rfl (by decide) (fun _ => rfl)
theorem info89 : (Try.prog.info? 89).map (fun i => (i.zero, i.size, i.bytes)) = some (some .nilFunc, 1, 8) := by kernel_rfl
theorem td89_ok : TD.Ok Try.prog 89 td89 := TD.Ok.of ⟨_, _, _, Try.underlying89⟩ info89 rfl rfl (by decide) (fun _ => rfl)
theorem info90 : (Try.prog.info? 90).map (fun i => (i.zero, i.size, i.bytes)) = some (some (.int .u64 0), 1, 8) := by kernel_rfl
theorem td90_ok : TD.Ok Try.prog 90 td90 := TD.Ok.of Try.underlying90 info90 rfl rfl (by decide) (fun _ => rfl)
theorem info92 : (Try.prog.info? 92).map (fun i => (i.zero, i.size, i.bytes)) = some (some .nilFunc, 1, 8) := by kernel_rfl
theorem td92_ok : TD.Ok Try.prog 92 td92 := TD.Ok.of ⟨_, _, _, Try.underlying92⟩ info92 rfl rfl (by decide) (fun _ => rfl)
theorem info93 : (Try.prog.info? 93).map (fun i => (i.zero, i.size, i.bytes)) = some (some .nilFunc, 1, 8) := by kernel_rfl
theorem td93_ok : TD.Ok Try.prog 93 td93 := TD.Ok.of ⟨_, _, _, Try.underlying93⟩ info93 rfl rfl (by decide) (fun _ => rfl)
theorem info94 : (Try.prog.info? 94).map (fun i => (i.zero, i.size, i.bytes)) = some (some (.pointer none), 1, 8) := by kernel_rfl
theorem td94_ok : TD.Ok Try.prog 94 td94 := TD.Ok.of Try.underlying94 info94 rfl rfl (by decide) (fun _ => rfl)
theorem info95 : (Try.prog.info? 95).map (fun i => (i.zero, i.size, i.bytes)) = some (some (.agg #[(.slice none 0 0), (.slice none 0 0), (.slice none 0 0)]), 3, 72) := by kernel_rfl
theorem td95_ok : TD.Ok Try.prog 95 td95 := TD.Ok.of ⟨_, Try.underlying95, rfl, Try.stoodInHeld95, Try.eqGuardType95, by decide⟩ info95 rfl rfl (by decide) (fun h => by cases h)
theorem info96 : (Try.prog.info? 96).map (fun i => (i.zero, i.size, i.bytes)) = some (some (.agg #[(.slice none 0 0), (.slice none 0 0), (.slice none 0 0)]), 3, 72) := by kernel_rfl
theorem td96_ok : TD.Ok Try.prog 96 td96 := TD.Ok.of ⟨_, Try.underlying96, rfl, Try.stoodInHeld96, Try.eqGuardType96, by decide⟩ info96 rfl rfl (by decide) (fun h => by cases h)
theorem info97 : (Try.prog.info? 97).map (fun i => (i.zero, i.size, i.bytes)) = some (some .nilFunc, 1, 8) := by kernel_rfl
theorem td97_ok : TD.Ok Try.prog 97 td97 := TD.Ok.of ⟨_, _, _, Try.underlying97⟩ info97 rfl rfl (by decide) (fun _ => rfl)
theorem info98 : (Try.prog.info? 98).map (fun i => (i.zero, i.size, i.bytes)) = some (some .nilFunc, 1, 8) := by kernel_rfl
theorem td98_ok : TD.Ok Try.prog 98 td98 := TD.Ok.of ⟨_, _, _, Try.underlying98⟩ info98 rfl rfl (by decide) (fun _ => rfl)
theorem info99 : (Try.prog.info? 99).map (fun i => (i.zero, i.size, i.bytes)) = some (some .nilFunc, 1, 8) := by kernel_rfl
theorem td99_ok : TD.Ok Try.prog 99 td99 := TD.Ok.of ⟨_, _, _, Try.underlying99⟩ info99 rfl rfl (by decide) (fun _ => rfl)
theorem info100 : (Try.prog.info? 100).map (fun i => (i.zero, i.size, i.bytes)) = some (some .nilFunc, 1, 8) := by kernel_rfl
theorem td100_ok : TD.Ok Try.prog 100 td100 := TD.Ok.of ⟨_, _, _, Try.underlying100⟩ info100 rfl rfl (by decide) (fun _ => rfl)
theorem info101 : (Try.prog.info? 101).map (fun i => (i.zero, i.size, i.bytes)) = some (some .nilFunc, 1, 8) := by kernel_rfl
theorem td101_ok : TD.Ok Try.prog 101 td101 := TD.Ok.of ⟨_, _, _, Try.underlying101⟩ info101 rfl rfl (by decide) (fun _ => rfl)
theorem info102 : (Try.prog.info? 102).map (fun i => (i.zero, i.size, i.bytes)) = some (some .nilFunc, 1, 8) := by kernel_rfl
theorem td102_ok : TD.Ok Try.prog 102 td102 := TD.Ok.of ⟨_, _, _, Try.underlying102⟩ info102 rfl rfl (by decide) (fun _ => rfl)
theorem info103 : (Try.prog.info? 103).map (fun i => (i.zero, i.size, i.bytes)) = some (some .nilFunc, 1, 8) := by kernel_rfl
theorem td103_ok : TD.Ok Try.prog 103 td103 := TD.Ok.of ⟨_, _, _, Try.underlying103⟩ info103 rfl rfl (by decide) (fun _ => rfl)
theorem info104 : (Try.prog.info? 104).map (fun i => (i.zero, i.size, i.bytes)) = some (some .nilFunc, 1, 8) := by kernel_rfl
theorem td104_ok : TD.Ok Try.prog 104 td104 := TD.Ok.of ⟨_, _, _, Try.underlying104⟩ info104 rfl rfl (by decide) (fun _ => rfl)
theorem info105 : (Try.prog.info? 105).map (fun i => (i.zero, i.size, i.bytes)) = some (some .nilFunc, 1, 8) := by kernel_rfl
theorem td105_ok : TD.Ok Try.prog 105 td105 := TD.Ok.of ⟨_, _, _, Try.underlying105⟩ info105 rfl rfl (by decide) (fun _ => rfl)
theorem info106 : (Try.prog.info? 106).map (fun i => (i.zero, i.size, i.bytes)) = some (some (.int .u32 0), 1, 4) := by kernel_rfl
theorem td106_ok : TD.Ok Try.prog 106 td106 := TD.Ok.of Try.underlying106 info106 rfl rfl (by decide) (fun _ => rfl)
theorem info108 : (Try.prog.info? 108).map (fun i => (i.zero, i.size, i.bytes)) = some (some .nilFunc, 1, 8) := by kernel_rfl
theorem td108_ok : TD.Ok Try.prog 108 td108 := TD.Ok.of ⟨_, _, _, Try.underlying108⟩ info108 rfl rfl (by decide) (fun _ => rfl)
theorem info109 : (Try.prog.info? 109).map (fun i => (i.zero, i.size, i.bytes)) = some (some (.int .u64 0), 1, 8) := by kernel_rfl
theorem td109_ok : TD.Ok Try.prog 109 td109 := TD.Ok.of Try.underlying109 info109 rfl rfl (by decide) (fun _ => rfl)
theorem info111 : (Try.prog.info? 111).map (fun i => (i.zero, i.size, i.bytes)) = some (some .nilFunc, 1, 8) := by kernel_rfl
theorem td111_ok : TD.Ok Try.prog 111 td111 := TD.Ok.of ⟨_, _, _, Try.underlying111⟩ info111 rfl rfl (by decide) (fun _ => rfl)
theorem info112 : (Try.prog.info? 112).map (fun i => (i.zero, i.size, i.bytes)) = some (some .nilFunc, 1, 8) := by kernel_rfl
theorem td112_ok : TD.Ok Try.prog 112 td112 := TD.Ok.of ⟨_, _, _, Try.underlying112⟩ info112 rfl rfl (by decide) (fun _ => rfl)
theorem info113 : (Try.prog.info? 113).map (fun i => (i.zero, i.size, i.bytes)) = some (some (.pointer none), 1, 8) := by kernel_rfl
theorem td113_ok : TD.Ok Try.prog 113 td113 := TD.Ok.of Try.underlying113 info113 rfl rfl (by decide) (fun _ => rfl)
theorem info114 : (Try.prog.info? 114).map (fun i => (i.zero, i.size, i.bytes)) = some (some (.agg #[(.slice none 0 0), (.slice none 0 0), (.slice none 0 0), (.slice none 0 0), (.slice none 0 0), (.int .i64 0)]), 6, 128) := by kernel_rfl
theorem td114_ok : TD.Ok Try.prog 114 td114 := TD.Ok.of ⟨_, Try.underlying114, rfl, Try.stoodInHeld114, Try.eqGuardType114, by decide⟩ info114 rfl rfl (by decide) (fun h => by cases h)
theorem info115 : (Try.prog.info? 115).map (fun i => (i.zero, i.size, i.bytes)) = some (some (.agg #[(.slice none 0 0), (.slice none 0 0), (.slice none 0 0), (.slice none 0 0), (.slice none 0 0), (.int .i64 0)]), 6, 128) := by kernel_rfl
theorem td115_ok : TD.Ok Try.prog 115 td115 := TD.Ok.of ⟨_, Try.underlying115, rfl, Try.stoodInHeld115, Try.eqGuardType115, by decide⟩ info115 rfl rfl (by decide) (fun h => by cases h)
theorem info116 : (Try.prog.info? 116).map (fun i => (i.zero, i.size, i.bytes)) = some (some .nilFunc, 1, 8) := by kernel_rfl
theorem td116_ok : TD.Ok Try.prog 116 td116 := TD.Ok.of ⟨_, _, _, Try.underlying116⟩ info116 rfl rfl (by decide) (fun _ => rfl)
theorem info117 : (Try.prog.info? 117).map (fun i => (i.zero, i.size, i.bytes)) = some (some (.int .i64 0), 1, 8) := by kernel_rfl
theorem td117_ok : TD.Ok Try.prog 117 td117 := TD.Ok.of Try.underlying117 info117 rfl rfl (by decide) (fun _ => rfl)
theorem info119 : (Try.prog.info? 119).map (fun i => (i.zero, i.size, i.bytes)) = some (some .nilFunc, 1, 8) := by kernel_rfl
theorem td119_ok : TD.Ok Try.prog 119 td119 := TD.Ok.of ⟨_, _, _, Try.underlying119⟩ info119 rfl rfl (by decide) (fun _ => rfl)
theorem info120 : (Try.prog.info? 120).map (fun i => (i.zero, i.size, i.bytes)) = some (some .nilFunc, 1, 8) := by kernel_rfl
theorem td120_ok : TD.Ok Try.prog 120 td120 := TD.Ok.of ⟨_, _, _, Try.underlying120⟩ info120 rfl rfl (by decide) (fun _ => rfl)
theorem info121 : (Try.prog.info? 121).map (fun i => (i.zero, i.size, i.bytes)) = some (some .nilFunc, 1, 8) := by kernel_rfl
theorem td121_ok : TD.Ok Try.prog 121 td121 := TD.Ok.of ⟨_, _, _, Try.underlying121⟩ info121 rfl rfl (by decide) (fun _ => rfl)
theorem info123 : (Try.prog.info? 123).map (fun i => (i.zero, i.size, i.bytes)) = some (some .nilFunc, 1, 8) := by kernel_rfl
theorem td123_ok : TD.Ok Try.prog 123 td123 := TD.Ok.of ⟨_, _, _, Try.underlying123⟩ info123 rfl rfl (by decide) (fun _ => rfl)
theorem info124 : (Try.prog.info? 124).map (fun i => (i.zero, i.size, i.bytes)) = some (some .nilFunc, 1, 8) := by kernel_rfl
theorem td124_ok : TD.Ok Try.prog 124 td124 := TD.Ok.of ⟨_, _, _, Try.underlying124⟩ info124 rfl rfl (by decide) (fun _ => rfl)
theorem info125 : (Try.prog.info? 125).map (fun i => (i.zero, i.size, i.bytes)) = some (some .nilFunc, 1, 8) := by kernel_rfl
theorem td125_ok : TD.Ok Try.prog 125 td125 := TD.Ok.of ⟨_, _, _, Try.underlying125⟩ info125 rfl rfl (by decide) (fun _ => rfl)
theorem info126 : (Try.prog.info? 126).map (fun i => (i.zero, i.size, i.bytes)) = some (some .nilFunc, 1, 8) := by kernel_rfl
theorem td126_ok : TD.Ok Try.prog 126 td126 := TD.Ok.of ⟨_, _, _, Try.underlying126⟩ info126 rfl rfl (by decide) (fun _ => rfl)
theorem info127 : (Try.prog.info? 127).map (fun i => (i.zero, i.size, i.bytes)) = some (some .nilFunc, 1, 8) := by kernel_rfl
theorem td127_ok : TD.Ok Try.prog 127 td127 := TD.Ok.of ⟨_, _, _, Try.underlying127⟩ info127 rfl rfl (by decide) (fun _ => rfl)
theorem info128 : (Try.prog.info? 128).map (fun i => (i.zero, i.size, i.bytes)) = some (some (.int .u64 0), 1, 8) := by kernel_rfl
theorem td128_ok : TD.Ok Try.prog 128 td128 := TD.Ok.of Try.underlying128 info128 rfl rfl (by decide) (fun _ => rfl)
theorem info129 : (Try.prog.info? 129).map (fun i => (i.zero, i.size, i.bytes)) = some (some .nilFunc, 1, 8) := by kernel_rfl
theorem td129_ok : TD.Ok Try.prog 129 td129 := TD.Ok.of ⟨_, _, _, Try.underlying129⟩ info129 rfl rfl (by decide) (fun _ => rfl)
theorem info130 : (Try.prog.info? 130).map (fun i => (i.zero, i.size, i.bytes)) = some (some .nilFunc, 1, 8) := by kernel_rfl
theorem td130_ok : TD.Ok Try.prog 130 td130 := TD.Ok.of ⟨_, _, _, Try.underlying130⟩ info130 rfl rfl (by decide) (fun _ => rfl)
theorem info131 : (Try.prog.info? 131).map (fun i => (i.zero, i.size, i.bytes)) = some (some .nilFunc, 1, 8) := by kernel_rfl
theorem td131_ok : TD.Ok Try.prog 131 td131 := TD.Ok.of ⟨_, _, _, Try.underlying131⟩ info131 rfl rfl (by decide) (fun _ => rfl)
theorem info132 : (Try.prog.info? 132).map (fun i => (i.zero, i.size, i.bytes)) = some (some (.pointer none), 1, 8) := by kernel_rfl
theorem td132_ok : TD.Ok Try.prog 132 td132 := TD.Ok.of Try.underlying132 info132 rfl rfl (by decide) (fun _ => rfl)
theorem info133 : (Try.prog.info? 133).map (fun i => (i.zero, i.size, i.bytes)) = some (some .nilFunc, 1, 8) := by kernel_rfl
theorem td133_ok : TD.Ok Try.prog 133 td133 := TD.Ok.of ⟨_, _, _, Try.underlying133⟩ info133 rfl rfl (by decide) (fun _ => rfl)
theorem info134 : (Try.prog.info? 134).map (fun i => (i.zero, i.size, i.bytes)) = some (some (.pointer none), 1, 8) := by kernel_rfl
theorem td134_ok : TD.Ok Try.prog 134 td134 := TD.Ok.of Try.underlying134 info134 rfl rfl (by decide) (fun _ => rfl)
theorem info136 : (Try.prog.info? 136).map (fun i => (i.zero, i.size, i.bytes)) = some (some .nilFunc, 1, 8) := by kernel_rfl
theorem td136_ok : TD.Ok Try.prog 136 td136 := TD.Ok.of ⟨_, _, _, Try.underlying136⟩ info136 rfl rfl (by decide) (fun _ => rfl)
theorem info137 : (Try.prog.info? 137).map (fun i => (i.zero, i.size, i.bytes)) = some (some .nilFunc, 1, 8) := by kernel_rfl
theorem td137_ok : TD.Ok Try.prog 137 td137 := TD.Ok.of ⟨_, _, _, Try.underlying137⟩ info137 rfl rfl (by decide) (fun _ => rfl)
theorem info143 : (Try.prog.info? 143).map (fun i => (i.zero, i.size, i.bytes)) = some (some .nilFunc, 1, 8) := by kernel_rfl
theorem td143_ok : TD.Ok Try.prog 143 td143 := TD.Ok.of ⟨_, _, _, Try.underlying143⟩ info143 rfl rfl (by decide) (fun _ => rfl)
theorem info144 : (Try.prog.info? 144).map (fun i => (i.zero, i.size, i.bytes)) = some (some (.int .u8 0), 1, 1) := by kernel_rfl
theorem td144_ok : TD.Ok Try.prog 144 td144 := TD.Ok.of Try.underlying144 info144 rfl rfl (by decide) (fun _ => rfl)
theorem info145 : (Try.prog.info? 145).map (fun i => (i.zero, i.size, i.bytes)) = some (some (.int .u8 0), 1, 1) := by kernel_rfl
theorem td145_ok : TD.Ok Try.prog 145 td145 := TD.Ok.of Try.underlying145 info145 rfl rfl (by decide) (fun _ => rfl)
theorem info146 : (Try.prog.info? 146).map (fun i => (i.zero, i.size, i.bytes)) = some (some .nilFunc, 1, 8) := by kernel_rfl
theorem td146_ok : TD.Ok Try.prog 146 td146 := TD.Ok.of ⟨_, _, _, Try.underlying146⟩ info146 rfl rfl (by decide) (fun _ => rfl)
theorem info147 : (Try.prog.info? 147).map (fun i => (i.zero, i.size, i.bytes)) = some (some (.pointer none), 1, 8) := by kernel_rfl
theorem td147_ok : TD.Ok Try.prog 147 td147 := TD.Ok.of Try.underlying147 info147 rfl rfl (by decide) (fun _ => rfl)
theorem info148 : (Try.prog.info? 148).map (fun i => (i.zero, i.size, i.bytes)) = some (some (.int .i32 0), 1, 4) := by kernel_rfl
theorem td148_ok : TD.Ok Try.prog 148 td148 := TD.Ok.of Try.underlying148 info148 rfl rfl (by decide) (fun _ => rfl)
theorem info149 : (Try.prog.info? 149).map (fun i => (i.zero, i.size, i.bytes)) = some (some (.int .i32 0), 1, 4) := by kernel_rfl
theorem td149_ok : TD.Ok Try.prog 149 td149 := TD.Ok.of Try.underlying149 info149 rfl rfl (by decide) (fun _ => rfl)
set_option maxRecDepth 100000 in
theorem tabL_ok : ∀ p ∈ tabL, TD.Ok Try.prog p.1 p.2 :=
  (ν7.2 ⟨td1_ok, (ν7.2 ⟨td2_ok, (ν7.2 ⟨td3_ok, (ν7.2 ⟨td4_ok, (ν7.2 ⟨td5_ok, (ν7.2 ⟨td6_ok, (ν7.2 ⟨td9_ok, (ν7.2 ⟨td10_ok, (ν7.2 ⟨td11_ok, (ν7.2 ⟨td12_ok, (ν7.2 ⟨td15_ok, (ν7.2 ⟨td16_ok, (ν7.2 ⟨td17_ok, (ν7.2 ⟨td21_ok, (ν7.2 ⟨td22_ok, (ν7.2 ⟨td23_ok, (ν7.2 ⟨td24_ok, (ν7.2 ⟨td25_ok, (ν7.2 ⟨td26_ok, (ν7.2 ⟨td27_ok, (ν7.2 ⟨td29_ok, (ν7.2 ⟨td30_ok, (ν7.2 ⟨td31_ok, (ν7.2 ⟨td32_ok, (ν7.2 ⟨td33_ok, (ν7.2 ⟨td34_ok, (ν7.2 ⟨td35_ok, (ν7.2 ⟨td36_ok, (ν7.2 ⟨td37_ok, (ν7.2 ⟨td38_ok, (ν7.2 ⟨td39_ok, (ν7.2 ⟨td40_ok, (ν7.2 ⟨td41_ok, (ν7.2 ⟨td42_ok, (ν7.2 ⟨td43_ok, (ν7.2 ⟨td45_ok, (ν7.2 ⟨td46_ok, (ν7.2 ⟨td47_ok, (ν7.2 ⟨td48_ok, (ν7.2 ⟨td49_ok, (ν7.2 ⟨td50_ok, (ν7.2 ⟨td52_ok, (ν7.2 ⟨td53_ok, (ν7.2 ⟨td54_ok, (ν7.2 ⟨td55_ok, (ν7.2 ⟨td56_ok, (ν7.2 ⟨td57_ok, (ν7.2 ⟨td58_ok, (ν7.2 ⟨td59_ok, (ν7.2 ⟨td60_ok, (ν7.2 ⟨td61_ok, (ν7.2 ⟨td62_ok, (ν7.2 ⟨td63_ok, (ν7.2 ⟨td64_ok, (ν7.2 ⟨td65_ok, (ν7.2 ⟨td66_ok, (ν7.2 ⟨td67_ok, (ν7.2 ⟨td68_ok, (ν7.2 ⟨td69_ok, (ν7.2 ⟨td70_ok, (ν7.2 ⟨td71_ok, (ν7.2 ⟨td72_ok, (ν7.2 ⟨td73_ok, (ν7.2 ⟨td74_ok, (ν7.2 ⟨td75_ok, (ν7.2 ⟨td77_ok, (ν7.2 ⟨td78_ok, (ν7.2 ⟨td79_ok, (ν7.2 ⟨td80_ok, (ν7.2 ⟨td81_ok, (ν7.2 ⟨td82_ok, (ν7.2 ⟨td83_ok, (ν7.2 ⟨td84_ok, (ν7.2 ⟨td85_ok, (ν7.2 ⟨td86_ok, (ν7.2 ⟨td87_ok, (ν7.2 ⟨td88_ok, (ν7.2 ⟨td89_ok, (ν7.2 ⟨td90_ok, (ν7.2 ⟨td92_ok, (ν7.2 ⟨td93_ok, (ν7.2 ⟨td94_ok, (ν7.2 ⟨td95_ok, (ν7.2 ⟨td96_ok, (ν7.2 ⟨td97_ok, (ν7.2 ⟨td98_ok, (ν7.2 ⟨td99_ok, (ν7.2 ⟨td100_ok, (ν7.2 ⟨td101_ok, (ν7.2 ⟨td102_ok, (ν7.2 ⟨td103_ok, (ν7.2 ⟨td104_ok, (ν7.2 ⟨td105_ok, (ν7.2 ⟨td106_ok, (ν7.2 ⟨td108_ok, (ν7.2 ⟨td109_ok, (ν7.2 ⟨td111_ok, (ν7.2 ⟨td112_ok, (ν7.2 ⟨td113_ok, (ν7.2 ⟨td114_ok, (ν7.2 ⟨td115_ok, (ν7.2 ⟨td116_ok, (ν7.2 ⟨td117_ok, (ν7.2 ⟨td119_ok, (ν7.2 ⟨td120_ok, (ν7.2 ⟨td121_ok, (ν7.2 ⟨td123_ok, (ν7.2 ⟨td124_ok, (ν7.2 ⟨td125_ok, (ν7.2 ⟨td126_ok, (ν7.2 ⟨td127_ok, (ν7.2 ⟨td128_ok, (ν7.2 ⟨td129_ok, (ν7.2 ⟨td130_ok, (ν7.2 ⟨td131_ok, (ν7.2 ⟨td132_ok, (ν7.2 ⟨td133_ok, (ν7.2 ⟨td134_ok, (ν7.2 ⟨td136_ok, (ν7.2 ⟨td137_ok, (ν7.2 ⟨td143_ok, (ν7.2 ⟨td144_ok, (ν7.2 ⟨td145_ok, (ν7.2 ⟨td146_ok, (ν7.2 ⟨td147_ok, (ν7.2 ⟨td148_ok, (ν7.2 ⟨td149_ok, (fun _ h => by cases h)⟩)⟩)⟩)⟩)⟩)⟩)⟩)⟩)⟩)⟩)⟩)⟩)⟩)⟩)⟩)⟩)⟩)⟩)⟩)⟩)⟩)⟩)⟩)⟩)⟩)⟩)⟩)⟩)⟩)⟩)⟩)⟩)⟩)⟩)⟩)⟩)⟩)⟩)⟩)⟩)⟩)⟩)⟩)⟩)⟩)⟩)⟩)⟩)⟩)⟩)⟩)⟩)⟩)⟩)⟩)⟩)⟩)⟩)⟩)⟩)⟩)⟩)⟩)⟩)⟩)⟩)⟩)⟩)⟩)⟩)⟩)⟩)⟩)⟩)⟩)⟩)⟩)⟩)⟩)⟩)⟩)⟩)⟩)⟩)⟩)⟩)⟩)⟩)⟩)⟩)⟩)⟩)⟩)⟩)⟩)⟩)⟩)⟩)⟩)⟩)⟩)⟩)⟩)⟩)⟩)⟩)⟩)⟩)⟩)⟩)⟩)⟩)⟩)⟩)⟩)⟩)⟩)⟩)⟩)⟩)⟩)⟩)⟩)⟩)⟩)⟩)⟩)
theorem mixed : Try.prog.follows .mixedOrders = true := by kernel_rfl
theorem tab_ok : tab.Ok Try.prog := Tab.Ok.of_list tabL_ok
end Go.Proofs.Ytolffbcnbcjeaaa
namespace Go.Proofs.Ytolffbcnbcjeaaa
open Go Go.Sep
attribute [local irreducible] wpC headF
def D3 : Info := ⟨40, fun i => if i = 10 then ([[], [], [1], [0, 1, 2], [0, 1, 2, 3]], [(0, []), (1, []), (2, [0]), (3, []), (4, [])]) else ([], []), fun i => ([], [])⟩
def D5 : Info := ⟨96, fun i => if i = 10 then ([[], [], [1], [0, 1, 2], [0, 1, 2, 3]], [(0, []), (1, []), (2, [0]), (3, []), (4, [])]) else ([], []), fun i => ([], [])⟩
def W5 (v0 : AV) (H : Heap) (K : AV → Heap → Prop) : Prop :=
 boxV v0 H fun v1 H1 =>
 loadV tab 26 v1 H1 fun v14 =>
 CallT Try.prog 6 [v14, (AV.p (.int .i64 1048576))] H1 fun v16 H2 =>
 binV tab .lss 3 v16 (AV.p (.int .i64 0)) fun v18 =>
 condV v18 (K (AV.p (.bool true)) H2)
 (loadV tab 26 v1 H2 fun v20 =>
 CallT Try.prog 8 [v20] H2 fun v21 H3 =>
 CallT Try.prog 16 [v21] H3 fun v22 H4 =>
 extractV v22 0 fun v23 =>
 extractV v22 1 fun v24 =>
 allocV tab 32 H4 fun v4 H5 =>
 storeV tab 32 v4 v23 H5 fun H6 =>
 loadV tab 26 v1 H6 fun v25 =>
 CallT Try.prog 8 [v25] H6 fun v26 H7 =>
 allocV tab 32 H7 fun v6 H8 =>
 storeV tab 32 v6 v26 H8 fun H9 =>
 loadV tab 32 v6 H9 fun v28 =>
 CallT Try.prog 17 [v28] H9 fun v29 H10 =>
 extractV v29 0 fun v30 =>
 extractV v29 1 fun v31 =>
 allocV tab 32 H10 fun v7 H11 =>
 storeV tab 32 v7 v30 H11 fun H12 =>
 loadV tab 32 v7 H12 fun v32 =>
 loadV tab 32 v4 H12 fun v33 =>
 CallT Try.prog 10 [v32, v33] H12 fun v34 H13 =>
 unV .not v34 fun v35 =>
 grdV v35 false (binV tab .neq 4 v31 v24 fun v39 =>
 condV v39 (K (AV.p (.bool false)) H13)
 (loadV tab 32 v6 H13 fun v41 =>
 loadV tab 26 v1 H13 fun v42 =>
 CallT Try.prog 8 [v42] H13 fun v43 H14 =>
 (loadV tab 32 v6 H14 fun v9041 =>
 v41 = v9041) ∧
 CallT Try.prog 10 [v41, v43] H14 fun v44 H15 =>
 unV .not v44 fun v45 =>
 condV v45 (K (AV.p (.bool false)) H15)
 (loadV tab 32 v6 H15 fun v46 =>
 CallT Try.prog 18 [v46, (AV.p (.int .i64 1))] H15 fun v48 H16 =>
 binV tab .lss 3 v48 (AV.p (.int .i64 0)) fun v50 =>
 grdV v50 false (loadV tab 32 v7 H16 fun v52 =>
 loadV tab 32 v4 H16 fun v53 =>
 CallT Try.prog 10 [v52, v53] H16 fun v54 H17 =>
 unV .not v54 fun v55 =>
 grdV v55 false (binV tab .neq 4 v31 v24 fun v60 =>
 condV v60 (K (AV.p (.bool false)) H17)
 (loadV tab 32 v7 H17 fun v62 =>
 CallT Try.prog 18 [v62, (AV.p (.int .i64 1))] H17 fun v64 H18 =>
 loadV tab 32 v7 H18 fun v65 =>
 CallT Try.prog 19 [v65, (AV.p (.int .i64 1))] H18 fun v67 H19 =>
 binV tab .lss 3 v67 (AV.p (.int .i64 0)) fun v69 =>
 condV v69 (K (AV.p (.bool false)) H19)
 (binV tab .neq 3 v67 v64 fun v72 =>
 condV v72 (K (AV.p (.bool false)) H19)
 (loadV tab 26 v1 H19 fun v74 =>
 CallT Try.prog 8 [v74] H19 fun v75 H20 =>
 CallT Try.prog 17 [v75] H20 fun v76 H21 =>
 extractV v76 0 fun v77 =>
 extractV v76 1 fun v78 =>
 allocV tab 32 H21 fun v12 H22 =>
 storeV tab 32 v12 v77 H22 fun H23 =>
 loadV tab 32 v12 H23 fun v79 =>
 loadV tab 32 v4 H23 fun v80 =>
 CallT Try.prog 10 [v79, v80] H23 fun v81 H24 =>
 unV .not v81 fun v82 =>
 grdV v82 false (binV tab .neq 4 v78 v24 fun v86 =>
 condV v86 (K (AV.p (.bool false)) H24)
 (loadV tab 32 v7 H24 fun v88 =>
 CallT Try.prog 19 [v88, (AV.p (.int .i64 1))] H24 fun v90 H25 =>
 binV tab .lss 3 v90 (AV.p (.int .i64 0)) fun v92 =>
 condV v92 (K (AV.p (.bool false)) H25)
 (binV tab .neq 3 v90 v64 fun v95 =>
 condV v95 (K (AV.p (.bool false)) H25)
 (K (AV.p (.bool true)) H25))))
 (K (AV.p (.bool false)) H24)))))
 (K (AV.p (.bool false)) H17))
 (K (AV.p (.bool false)) H16))))
 (K (AV.p (.bool false)) H13))
theorem W5_wp (v0 : AV) (H : Heap) (K : AV → Heap → Prop) : wpC Try.prog tab D5 (bodyOf Try.f5) (retF tab [.tmp 2] K) (nthA [v0]) H = W5 v0 H K := by kernel_rfl
theorem W5_ok {v0 : AV} {H : Heap} {K : AV → Heap → Prop} (h : W5 v0 H K) : CallT Try.prog 5 [v0] H K :=
  CallT.of_wp (D := D5) tab_ok mixed Try.func5 (c := bodyOf Try.f5) (by kernel_rfl) rfl (by kernel_rfl) (rs := #[.tmp 2]) rfl (by decide +kernel) (by kernel_rfl) (W5_wp v0 H K) h
def D6 : Info := ⟨24, fun i => ([], []), fun i => ([], [])⟩
def W6 (v0 : AV) (v1 : AV) (H : Heap) (K : AV → Heap → Prop) : Prop :=
 boxV v0 H fun v2 H1 =>
 fieldAddrV tab 26 v2 1 fun v5 =>
 loadV tab 22 v5 H1 fun v6 =>
 CallT Try.prog 20 [v6, v1] H1 fun v8 H2 =>
 binV tab .lss 3 v8 (AV.p (.int .i64 0)) fun v10 =>
 condV v10 (K (AV.p (.int .i64 (-1))) H2)
 (fieldAddrV tab 26 v2 2 fun v11 =>
 loadV tab 23 v11 H2 fun v12 =>
 CallT Try.prog 21 [v12, v8] H2 fun v14 H3 =>
 binV tab .lss 3 v14 (AV.p (.int .i64 0)) fun v16 =>
 condV v16 (K (AV.p (.int .i64 (-1))) H3)
 (fieldAddrV tab 26 v2 3 fun v17 =>
 loadV tab 24 v17 H3 fun v18 =>
 CallT Try.prog 22 [v18, v14] H3 fun v20 H4 =>
 binV tab .lss 3 v20 (AV.p (.int .i64 0)) fun v22 =>
 condV v22 (K (AV.p (.int .i64 (-1))) H4)
 (K v20 H4)))
theorem W6_wp (v0 : AV) (v1 : AV) (H : Heap) (K : AV → Heap → Prop) : wpC Try.prog tab D6 (bodyOf Try.f6) (retF tab [.tmp 4] K) (nthA [v0, v1]) H = W6 v0 v1 H K := by kernel_rfl
theorem W6_ok {v0 v1 : AV} {H : Heap} {K : AV → Heap → Prop} (h : W6 v0 v1 H K) : CallT Try.prog 6 [v0, v1] H K :=
  CallT.of_wp (D := D6) tab_ok mixed Try.func6 (c := bodyOf Try.f6) (by kernel_rfl) rfl (by kernel_rfl) (rs := #[.tmp 4]) rfl (by decide +kernel) (by kernel_rfl) (W6_wp v0 v1 H K) h
def D8 : Info := ⟨20, fun i => ([], []), fun i => ([], [])⟩
def W8 (v0 : AV) (H : Heap) (K : AV → Heap → Prop) : Prop :=
 boxV v0 H fun v1 H1 =>
 allocV tab 32 H1 fun v2 H2 =>
 allocV tab 32 H2 fun v3 H3 =>
 fieldAddrV tab 26 v1 0 fun v4 =>
 loadV tab 3 v4 H3 fun v5 =>
 fieldAddrV tab 32 v3 0 fun v6 =>
 storeV tab 3 v6 v5 H3 fun H4 =>
 fieldAddrV tab 26 v1 1 fun v7 =>
 loadV tab 22 v7 H4 fun v8 =>
 CallT Try.prog 26 [v8] H4 fun v9 H5 =>
 fieldAddrV tab 32 v3 1 fun v10 =>
 storeV tab 22 v10 v9 H5 fun H6 =>
 fieldAddrV tab 26 v1 2 fun v11 =>
 loadV tab 23 v11 H6 fun v12 =>
 CallT Try.prog 27 [v12] H6 fun v13 H7 =>
 fieldAddrV tab 32 v3 2 fun v14 =>
 storeV tab 30 v14 v13 H7 fun H8 =>
 fieldAddrV tab 26 v1 3 fun v15 =>
 loadV tab 24 v15 H8 fun v16 =>
 CallT Try.prog 28 [v16] H8 fun v17 H9 =>
 fieldAddrV tab 32 v3 3 fun v18 =>
 storeV tab 24 v18 v17 H9 fun H10 =>
 loadV tab 32 v3 H10 fun v19 =>
 storeV tab 32 v2 v19 H10 fun H11 =>
 loadV tab 32 v2 H11 fun r0 =>
 K r0 H11
theorem W8_wp (v0 : AV) (H : Heap) (K : AV → Heap → Prop) : wpC Try.prog tab D8 (bodyOf Try.f8) (retF tab [.cell 2 32] K) (nthA [v0]) H = W8 v0 H K := by kernel_rfl
theorem W8_ok {v0 : AV} {H : Heap} {K : AV → Heap → Prop} (h : W8 v0 H K) : CallT Try.prog 8 [v0] H K :=
  CallT.of_wp (D := D8) tab_ok mixed Try.func8 (c := bodyOf Try.f8) (by kernel_rfl) rfl (by kernel_rfl) (rs := #[.cell 2 32]) rfl (by decide +kernel) (by kernel_rfl) (W8_wp v0 H K) h
def D10 : Info := ⟨28, fun i => ([], []), fun i => ([], [])⟩
def W10 (v0 : AV) (v1 : AV) (H : Heap) (K : AV → Heap → Prop) : Prop :=
 boxV v0 H fun v2 H1 =>
 boxV v1 H1 fun v3 H2 =>
 fieldAddrV tab 32 v2 0 fun v5 =>
 loadV tab 3 v5 H2 fun v6 =>
 fieldAddrV tab 32 v3 0 fun v7 =>
 loadV tab 3 v7 H2 fun v8 =>
 binV tab .neq 3 v6 v8 fun v9 =>
 condV v9 (K (AV.p (.bool false)) H2)
 (fieldAddrV tab 32 v2 1 fun v10 =>
 loadV tab 22 v10 H2 fun v11 =>
 fieldAddrV tab 32 v3 1 fun v12 =>
 loadV tab 22 v12 H2 fun v13 =>
 CallT Try.prog 32 [v11, v13] H2 fun v14 H3 =>
 unV .not v14 fun v15 =>
 condV v15 (K (AV.p (.bool false)) H3)
 (fieldAddrV tab 32 v2 2 fun v16 =>
 loadV tab 30 v16 H3 fun v17 =>
 fieldAddrV tab 32 v3 2 fun v18 =>
 loadV tab 30 v18 H3 fun v19 =>
 CallT Try.prog 33 [v17, v19] H3 fun v20 H4 =>
 unV .not v20 fun v21 =>
 condV v21 (K (AV.p (.bool false)) H4)
 (fieldAddrV tab 32 v2 3 fun v22 =>
 loadV tab 24 v22 H4 fun v23 =>
 fieldAddrV tab 32 v3 3 fun v24 =>
 loadV tab 24 v24 H4 fun v25 =>
 CallT Try.prog 34 [v23, v25] H4 fun v26 H5 =>
 unV .not v26 fun v27 =>
 condV v27 (K (AV.p (.bool false)) H5)
 (K (AV.p (.bool true)) H5))))
theorem W10_wp (v0 : AV) (v1 : AV) (H : Heap) (K : AV → Heap → Prop) : wpC Try.prog tab D10 (bodyOf Try.f10) (retF tab [.tmp 4] K) (nthA [v0, v1]) H = W10 v0 v1 H K := by kernel_rfl
theorem W10_ok {v0 v1 : AV} {H : Heap} {K : AV → Heap → Prop} (h : W10 v0 v1 H K) : CallT Try.prog 10 [v0, v1] H K :=
  CallT.of_wp (D := D10) tab_ok mixed Try.func10 (c := bodyOf Try.f10) (by kernel_rfl) rfl (by kernel_rfl) (rs := #[.tmp 4]) rfl (by decide +kernel) (by kernel_rfl) (W10_wp v0 v1 H K) h
def D15 : Info := ⟨17, fun i => ([], []), fun i => ([], [])⟩
def W15 (v0 : AV) (v1 : AV) (H : Heap) (K : AV → Heap → Prop) : Prop :=
 boxV v0 H fun v2 H1 =>
 boxV v1 H1 fun v3 H2 =>
 fieldAddrV tab 40 v2 0 fun v5 =>
 loadV tab 22 v5 H2 fun v6 =>
 fieldAddrV tab 40 v3 0 fun v7 =>
 loadV tab 22 v7 H2 fun v8 =>
 CallT Try.prog 32 [v6, v8] H2 fun v9 H3 =>
 unV .not v9 fun v10 =>
 condV v10 (K (AV.p (.bool false)) H3)
 (fieldAddrV tab 40 v2 1 fun v11 =>
 loadV tab 22 v11 H3 fun v12 =>
 fieldAddrV tab 40 v3 1 fun v13 =>
 loadV tab 22 v13 H3 fun v14 =>
 CallT Try.prog 32 [v12, v14] H3 fun v15 H4 =>
 unV .not v15 fun v16 =>
 condV v16 (K (AV.p (.bool false)) H4)
 (K (AV.p (.bool true)) H4))
theorem W15_wp (v0 : AV) (v1 : AV) (H : Heap) (K : AV → Heap → Prop) : wpC Try.prog tab D15 (bodyOf Try.f15) (retF tab [.tmp 4] K) (nthA [v0, v1]) H = W15 v0 v1 H K := by kernel_rfl
theorem W15_ok {v0 v1 : AV} {H : Heap} {K : AV → Heap → Prop} (h : W15 v0 v1 H K) : CallT Try.prog 15 [v0, v1] H K :=
  CallT.of_wp (D := D15) tab_ok mixed Try.func15 (c := bodyOf Try.f15) (by kernel_rfl) rfl (by kernel_rfl) (rs := #[.tmp 4]) rfl (by decide +kernel) (by kernel_rfl) (W15_wp v0 v1 H K) h
end Go.Proofs.Ytolffbcnbcjeaaa
namespace Go.Proofs.Ytolffbcnbcjeaaa
open Go Go.Sep
attribute [local irreducible] wpC headF
def D16 : Info := ⟨126, fun i => if i = 4 then ([[], [0], [], [], [3], [0, 1, 2, 3, 4], [0, 1, 2, 3, 4, 5], [0, 1, 2, 3, 4, 5, 6]], [(0, []), (2, []), (3, []), (4, []), (1, [4]), (5, []), (6, []), (7, [])]) else if i = 21 then ([[], [0], [], [], [3], [2, 3, 4], [2, 3, 4, 5], [], [7], [], [], [10], [9, 10, 11], [9, 10, 11, 12], [2, 3, 4, 5, 6, 7, 8, 9, 10, 11, 12, 13], [2, 3, 4, 5, 6, 7, 8, 9, 10, 11, 12, 13, 14], [0, 1, 2, 3, 4, 5, 6, 7, 8, 9, 10, 11, 12, 13, 14, 15], [0, 1, 2, 3, 4, 5, 6, 7, 8, 9, 10, 11, 12, 13, 14, 15, 16], [0, 1, 2, 3, 4, 5, 6, 7, 8, 9, 10, 11, 12, 13, 14, 15, 16, 17]], [(0, []), (1, []), (2, []), (3, []), (4, []), (5, []), (6, []), (7, []), (8, []), (9, []), (10, []), (11, []), (12, []), (13, []), (14, []), (15, [1]), (16, []), (17, []), (18, [])]) else if i = 26 then ([[], [0], [], [], [2, 3], [2, 3, 4], [0, 1, 2, 3, 4, 5], [0, 1, 2, 3, 4, 5, 6], [0, 1, 2, 3, 4, 5, 6, 7]], [(0, []), (1, []), (2, []), (3, []), (4, [1]), (5, [1]), (6, []), (7, []), (8, [])]) else ([], []), fun i => if i = 9 then ([1, 2, 5, 6, 7, 8, 35], [36]) else if i = 18 then ([1, 2, 6, 7, 66, 67], [68]) else if i = 24 then ([2, 6, 7, 106, 107], [108]) else ([], [])⟩
def L16_0 (K : AV → Heap → Prop) (v1 : AV) (v2 : AV) (v5 : AV) (v6 : AV) (v7 : AV) (v8 : AV) (v35 : AV) (v36 : AV) (H : Heap) : Prop := LoopV (wpC Try.prog tab D16 (cAt [1, 1, 1, 1, 1, 1, 1, 0, 1, 0, 0] (bodyOf Try.f16))) [1, 2, 5, 6, 7, 8, 35] (PostF.block 0 (PostF.thenA (wpC Try.prog tab D16 (cAt [1, 1, 1, 1, 1, 1, 1, 1] (bodyOf Try.f16))) (retF tab [.cell 2 32, .tmp 3] K))) [36] [AV.any, v1, v2, AV.any, AV.any, v5, v6, v7, v8, AV.any, AV.any, AV.any, AV.any, AV.any, AV.any, AV.any, AV.any, AV.any, AV.any, AV.any, AV.any, AV.any, AV.any, AV.any, AV.any, AV.any, AV.any, AV.any, AV.any, AV.any, AV.any, AV.any, AV.any, AV.any, AV.any, v35, v36, AV.any, AV.any, AV.any, AV.any, AV.any, AV.any, AV.any, AV.any, AV.any, AV.any, AV.any, AV.any, AV.any, AV.any, AV.any, AV.any, AV.any, AV.any, AV.any, AV.any, AV.any, AV.any, AV.any, AV.any, AV.any, AV.any, AV.any, AV.any, AV.any, AV.any, AV.any, AV.any, AV.any, AV.any, AV.any, AV.any, AV.any, AV.any, AV.any, AV.any, AV.any, AV.any, AV.any, AV.any, AV.any, AV.any, AV.any, AV.any, AV.any, AV.any, AV.any, AV.any, AV.any, AV.any, AV.any, AV.any, AV.any, AV.any, AV.any, AV.any, AV.any, AV.any, AV.any, AV.any, AV.any, AV.any, AV.any, AV.any, AV.any, AV.any, AV.any, AV.any, AV.any, AV.any, AV.any, AV.any, AV.any, AV.any, AV.any, AV.any, AV.any, AV.any, AV.any, AV.any, AV.any, AV.any, AV.any, AV.any, AV.any] H
def L16_1 (K : AV → Heap → Prop) (v1 : AV) (v2 : AV) (v6 : AV) (v7 : AV) (v66 : AV) (v67 : AV) (v68 : AV) (H : Heap) : Prop := LoopV (wpC Try.prog tab D16 (cAt [1, 1, 1, 1, 1, 1, 1, 1, 1, 0, 1, 0, 0] (bodyOf Try.f16))) [1, 2, 6, 7, 66, 67] (PostF.block 2 (PostF.thenA (wpC Try.prog tab D16 (cAt [1, 1, 1, 1, 1, 1, 1, 1, 1, 1] (bodyOf Try.f16))) (retF tab [.cell 2 32, .tmp 3] K))) [68] [AV.any, v1, v2, AV.any, AV.any, AV.any, v6, v7, AV.any, AV.any, AV.any, AV.any, AV.any, AV.any, AV.any, AV.any, AV.any, AV.any, AV.any, AV.any, AV.any, AV.any, AV.any, AV.any, AV.any, AV.any, AV.any, AV.any, AV.any, AV.any, AV.any, AV.any, AV.any, AV.any, AV.any, AV.any, AV.any, AV.any, AV.any, AV.any, AV.any, AV.any, AV.any, AV.any, AV.any, AV.any, AV.any, AV.any, AV.any, AV.any, AV.any, AV.any, AV.any, AV.any, AV.any, AV.any, AV.any, AV.any, AV.any, AV.any, AV.any, AV.any, AV.any, AV.any, AV.any, AV.any, v66, v67, v68, AV.any, AV.any, AV.any, AV.any, AV.any, AV.any, AV.any, AV.any, AV.any, AV.any, AV.any, AV.any, AV.any, AV.any, AV.any, AV.any, AV.any, AV.any, AV.any, AV.any, AV.any, AV.any, AV.any, AV.any, AV.any, AV.any, AV.any, AV.any, AV.any, AV.any, AV.any, AV.any, AV.any, AV.any, AV.any, AV.any, AV.any, AV.any, AV.any, AV.any, AV.any, AV.any, AV.any, AV.any, AV.any, AV.any, AV.any, AV.any, AV.any, AV.any, AV.any, AV.any, AV.any, AV.any, AV.any, AV.any, AV.any] H
def L16_2 (K : AV → Heap → Prop) (v2 : AV) (v6 : AV) (v7 : AV) (v106 : AV) (v107 : AV) (v108 : AV) (H : Heap) : Prop := LoopV (wpC Try.prog tab D16 (cAt [1, 1, 1, 1, 1, 1, 1, 1, 1, 1, 0, 1, 0, 0] (bodyOf Try.f16))) [2, 6, 7, 106, 107] (PostF.block 4 (PostF.thenA (wpC Try.prog tab D16 (cAt [1, 1, 1, 1, 1, 1, 1, 1, 1, 1, 1] (bodyOf Try.f16))) (retF tab [.cell 2 32, .tmp 3] K))) [108] [AV.any, AV.any, v2, AV.any, AV.any, AV.any, v6, v7, AV.any, AV.any, AV.any, AV.any, AV.any, AV.any, AV.any, AV.any, AV.any, AV.any, AV.any, AV.any, AV.any, AV.any, AV.any, AV.any, AV.any, AV.any, AV.any, AV.any, AV.any, AV.any, AV.any, AV.any, AV.any, AV.any, AV.any, AV.any, AV.any, AV.any, AV.any, AV.any, AV.any, AV.any, AV.any, AV.any, AV.any, AV.any, AV.any, AV.any, AV.any, AV.any, AV.any, AV.any, AV.any, AV.any, AV.any, AV.any, AV.any, AV.any, AV.any, AV.any, AV.any, AV.any, AV.any, AV.any, AV.any, AV.any, AV.any, AV.any, AV.any, AV.any, AV.any, AV.any, AV.any, AV.any, AV.any, AV.any, AV.any, AV.any, AV.any, AV.any, AV.any, AV.any, AV.any, AV.any, AV.any, AV.any, AV.any, AV.any, AV.any, AV.any, AV.any, AV.any, AV.any, AV.any, AV.any, AV.any, AV.any, AV.any, AV.any, AV.any, AV.any, AV.any, AV.any, AV.any, AV.any, AV.any, v106, v107, v108, AV.any, AV.any, AV.any, AV.any, AV.any, AV.any, AV.any, AV.any, AV.any, AV.any, AV.any, AV.any, AV.any, AV.any, AV.any, AV.any, AV.any] H
def B16_2 (K : AV → Heap → Prop) (N1 : AV → Heap → Prop) (v2 : AV) (v6 : AV) (v7 : AV) (v106 : AV) (v107 : AV) (v108 : AV) (H : Heap) : Prop :=
 binV tab .lss 3 v108 v107 fun v109 =>
 condV v109 (indexAddrV tab 24 v106 v108 fun v110 =>
 loadV tab 22 v110 H fun v111 =>
 fieldAddrV tab 32 v7 3 fun v112 =>
 loadV tab 24 v112 H fun v113 =>
 CallT Try.prog 44 [v111, v6] H fun v116 H24 =>
 (loadV tab 24 v112 H24 fun v9113 =>
 v113 = v9113) ∧
 buildSliceV tab 24 1 [(0, v116)] H24 (wkK fun v117 H25 =>
 (loadV tab 24 v112 H25 fun v9113 =>
 v113 = v9113) ∧
 appendV tab 24 24 v113 v117 H25 (wkK fun v118 H26 =>
 fieldAddrV tab 32 v7 3 fun v119 =>
 storeV tab 24 v119 v118 H26 fun H27 =>
 binV tab .add 3 v108 (AV.p (.int .i64 1)) fun v120 =>
 N1 v120 H27)))
 (fieldAddrV tab 32 v7 0 fun v121 =>
 loadV tab 3 v121 H fun v122 =>
 binV tab .eql 3 v122 (AV.p (.int .i64 0)) fun v123 =>
 condV v123 (fieldAddrV tab 32 v7 0 fun v124 =>
 storeV tab 3 v124 (AV.p (.int .i64 1)) H fun H28 =>
 loadV tab 32 v7 H28 fun v125 =>
 storeV tab 32 v2 v125 H28 fun H30 =>
 loadV tab 32 v2 H30 fun r0 =>
 K (.tup [r0, (AV.p (.bool true))]) H30)
 (loadV tab 32 v7 H fun v125 =>
 storeV tab 32 v2 v125 H fun H31 =>
 loadV tab 32 v2 H31 fun r0 =>
 K (.tup [r0, (AV.p (.bool true))]) H31))
def B16_1 (K : AV → Heap → Prop) (N1 : AV → Heap → Prop) (v1 : AV) (v2 : AV) (v6 : AV) (v7 : AV) (v66 : AV) (v67 : AV) (v68 : AV) (H : Heap) : Prop :=
 binV tab .lss 3 v68 v67 fun v69 =>
 condV v69 (indexAddrV tab 30 v66 v68 fun v70 =>
 loadV tab 65 v70 H fun v71 =>
 allocV tab 65 H fun v11 H19 =>
 storeV tab 65 v11 v71 H19 fun H20 =>
 fieldAddrV tab 65 v11 0 fun v73 =>
 loadV tab 3 v73 H20 fun v74 =>
 indexAddrV tab 22 v6 v74 fun v75 =>
 loadV tab 3 v75 H20 fun v76 =>
 binV tab .geq 3 v76 (AV.p (.int .i64 0)) fun v77 =>
 grdV v77 true (fieldAddrV tab 65 v11 2 fun v80 =>
 loadV tab 3 v80 H20 fun v81 =>
 indexAddrV tab 22 v6 v81 fun v82 =>
 loadV tab 3 v82 H20 fun v83 =>
 binV tab .geq 3 v83 (AV.p (.int .i64 0)) fun v84 =>
 condV v84 (fieldAddrV tab 32 v7 2 fun v86 =>
 loadV tab 30 v86 H20 fun v87 =>
 fieldAddrV tab 65 v11 0 fun v89 =>
 loadV tab 3 v89 H20 fun v90 =>
 indexAddrV tab 22 v6 v90 fun v91 =>
 loadV tab 3 v91 H20 fun v92 =>
 fieldAddrV tab 65 v11 1 fun v93 =>
 loadV tab 3 v93 H20 fun v94 =>
 fieldAddrV tab 65 v11 2 fun v96 =>
 loadV tab 3 v96 H20 fun v97 =>
 indexAddrV tab 22 v6 v97 fun v98 =>
 loadV tab 3 v98 H20 fun v99 =>
 buildV tab 65 [(0, v92), (1, v94), (2, v99)] fun v100 =>
 buildSliceV tab 30 1 [(0, v100)] H20 (wkK fun v101 H21 =>
 (loadV tab 30 v86 H21 fun v9087 =>
 v87 = v9087) ∧
 appendV tab 30 30 v87 v101 H21 (wkK fun v102 H22 =>
 fieldAddrV tab 32 v7 2 fun v103 =>
 storeV tab 30 v103 v102 H22 fun H23 =>
 binV tab .add 3 v68 (AV.p (.int .i64 1)) fun v104 =>
 N1 v104 H23)))
 (binV tab .add 3 v68 (AV.p (.int .i64 1)) fun v104 =>
 N1 v104 H20))
 (binV tab .add 3 v68 (AV.p (.int .i64 1)) fun v104 =>
 N1 v104 H20))
 (fieldAddrV tab 32 v1 3 fun v105 =>
 loadV tab 24 v105 H fun v106 =>
 lenV tab 24 v106 fun v107 =>
 L16_2 K v2 v6 v7 v106 v107 (AV.p (.int .i64 0)) H)
def B16_0 (K : AV → Heap → Prop) (N1 : AV → Heap → Prop) (v1 : AV) (v2 : AV) (v5 : AV) (v6 : AV) (v7 : AV) (v8 : AV) (v35 : AV) (v36 : AV) (H : Heap) : Prop :=
 binV tab .lss 3 v36 v35 fun v37 =>
 condV v37 (indexAddrV tab 22 v6 v36 fun v41 =>
 storeV tab 3 v41 (AV.p (.int .i64 (-1))) H fun H12 =>
 CallT Try.prog 43 [v5, v36] H12 fun v44 H13 =>
 grdV v44 true (CallT Try.prog 43 [v8, v36] H13 fun v48 H14 =>
 condV v48 (fieldAddrV tab 32 v7 0 fun v52 =>
 loadV tab 3 v52 H14 fun v53 =>
 indexAddrV tab 22 v6 v36 fun v54 =>
 storeV tab 3 v54 v53 H14 fun H15 =>
 fieldAddrV tab 32 v7 0 fun v55 =>
 loadV tab 3 v55 H15 fun v56 =>
 binV tab .add 3 v56 (AV.p (.int .i64 1)) fun v57 =>
 fieldAddrV tab 32 v7 0 fun v58 =>
 storeV tab 3 v58 v57 H15 fun H16 =>
 binV tab .add 3 v36 (AV.p (.int .i64 1)) fun v59 =>
 N1 v59 H16)
 (binV tab .add 3 v36 (AV.p (.int .i64 1)) fun v59 =>
 N1 v59 H14))
 (binV tab .add 3 v36 (AV.p (.int .i64 1)) fun v59 =>
 N1 v59 H13))
 (fieldAddrV tab 32 v1 1 fun v60 =>
 loadV tab 22 v60 H fun v61 =>
 CallT Try.prog 44 [v61, v6] H fun v63 H17 =>
 fieldAddrV tab 32 v7 1 fun v64 =>
 storeV tab 22 v64 v63 H17 fun H18 =>
 fieldAddrV tab 32 v1 2 fun v65 =>
 loadV tab 30 v65 H18 fun v66 =>
 lenV tab 30 v66 fun v67 =>
 L16_1 K v1 v2 v6 v7 v66 v67 (AV.p (.int .i64 0)) H18)
def W16 (v0 : AV) (H : Heap) (K : AV → Heap → Prop) : Prop :=
 boxV v0 H fun v1 H1 =>
 allocV tab 32 H1 fun v2 H2 =>
 loadV tab 32 v1 H2 fun v14 =>
 CallT Try.prog 23 [v14] H2 fun v15 H3 =>
 unV .not v15 fun v16 =>
 condV v16 (buildV tab 32 [] fun v17 =>
 storeV tab 32 v2 v17 H3 fun H4 =>
 loadV tab 32 v2 H4 fun r0 =>
 K (.tup [r0, (AV.p (.bool false))]) H4)
 (loadV tab 32 v1 H3 fun v18 =>
 CallT Try.prog 25 [v18] H3 fun v19 H5 =>
 fieldAddrV tab 32 v1 3 fun v23 =>
 loadV tab 24 v23 H5 fun v24 =>
 CallT Try.prog 41 [v19] H5 fun v21 H6 =>
 (loadV tab 24 v23 H6 fun v9024 =>
 v24 = v9024) ∧
 CallT Try.prog 42 [v19, v24] H6 fun v25 H7 =>
 CallT Try.prog 40 [v21, v25] H7 fun v26 H8 =>
 fieldAddrV tab 32 v1 0 fun v27 =>
 loadV tab 3 v27 H8 fun v28 =>
 makeSliceV tab 22 v28 v28 H8 fun v29 H9 =>
 allocV tab 32 H9 fun v7 H10 =>
 fieldAddrV tab 32 v1 1 fun v31 =>
 loadV tab 22 v31 H10 fun v32 =>
 CallT Try.prog 40 [v19, v32] H10 fun v33 H11 =>
 lenV tab 22 v29 fun v35 =>
 L16_0 K v1 v2 v26 v29 v7 v33 v35 (AV.p (.int .i64 0)) H11)
theorem W16_wp (v0 : AV) (H : Heap) (K : AV → Heap → Prop) : wpC Try.prog tab D16 (bodyOf Try.f16) (retF tab [.cell 2 32, .tmp 3] K) (nthA [v0]) H = W16 v0 H K := by kernel_rfl
theorem W16_ok {v0 : AV} {H : Heap} {K : AV → Heap → Prop} (h : W16 v0 H K) : CallT Try.prog 16 [v0] H K :=
  CallT.of_wp (D := D16) tab_ok mixed Try.func16 (c := bodyOf Try.f16) (by kernel_rfl) rfl (by kernel_rfl) (rs := #[.cell 2 32, .tmp 3]) rfl (by decide +kernel) (by kernel_rfl) (W16_wp v0 H K) h
theorem W16_hb : HasBody Try.prog 16 := ⟨_, bodyOf Try.f16, Try.func16, by kernel_rfl, rfl⟩
theorem L16_2_rule {K : AV → Heap → Prop} {v2 v6 v7 v106 v107 v108 : AV} {H : Heap} {σ : Type} (s0 : σ) (f108 : σ → AV) (TH : σ → Heap) (pre : σ → Prop) (μ : σ → Nat)
    (h0 : pre s0 ∧ AV.wk v108 (f108 s0) ∧ Heap.le (TH s0) H)
    (round : ∀ s, pre s → B16_2 K (fun w108 H' => ∃ s', pre s' ∧ μ s' < μ s ∧ AV.wk w108 (f108 s') ∧ Heap.le (TH s') H') v2 v6 v7 v106 v107 (f108 s) (TH s)) :
    L16_2 K v2 v6 v7 v106 v107 v108 H := by
  unfold L16_2
  exact LoopV.mk s0 (fun s => [f108 s]) TH pre μ (fun _ => rfl) (Eq.mp (by kernel_rfl) h0) (fun s hs => Eq.mp (by kernel_rfl) (round s hs))
theorem L16_1_rule {K : AV → Heap → Prop} {v1 v2 v6 v7 v66 v67 v68 : AV} {H : Heap} {σ : Type} (s0 : σ) (f68 : σ → AV) (TH : σ → Heap) (pre : σ → Prop) (μ : σ → Nat)
    (h0 : pre s0 ∧ AV.wk v68 (f68 s0) ∧ Heap.le (TH s0) H)
    (round : ∀ s, pre s → B16_1 K (fun w68 H' => ∃ s', pre s' ∧ μ s' < μ s ∧ AV.wk w68 (f68 s') ∧ Heap.le (TH s') H') v1 v2 v6 v7 v66 v67 (f68 s) (TH s)) :
    L16_1 K v1 v2 v6 v7 v66 v67 v68 H := by
  unfold L16_1
  exact LoopV.mk s0 (fun s => [f68 s]) TH pre μ (fun _ => rfl) (Eq.mp (by kernel_rfl) h0) (fun s hs => Eq.mp (by kernel_rfl) (round s hs))
theorem L16_0_rule {K : AV → Heap → Prop} {v1 v2 v5 v6 v7 v8 v35 v36 : AV} {H : Heap} {σ : Type} (s0 : σ) (f36 : σ → AV) (TH : σ → Heap) (pre : σ → Prop) (μ : σ → Nat)
    (h0 : pre s0 ∧ AV.wk v36 (f36 s0) ∧ Heap.le (TH s0) H)
    (round : ∀ s, pre s → B16_0 K (fun w36 H' => ∃ s', pre s' ∧ μ s' < μ s ∧ AV.wk w36 (f36 s') ∧ Heap.le (TH s') H') v1 v2 v5 v6 v7 v8 v35 (f36 s) (TH s)) :
    L16_0 K v1 v2 v5 v6 v7 v8 v35 v36 H := by
  unfold L16_0
  exact LoopV.mk s0 (fun s => [f36 s]) TH pre μ (fun _ => rfl) (Eq.mp (by kernel_rfl) h0) (fun s hs => Eq.mp (by kernel_rfl) (round s hs))
def D17 : Info := ⟨121, fun i => if i = 4 then ([[], [], [1], [0, 1, 2], [], [], [5], [0, 1, 2, 3, 4, 5, 6], [], [], [], [0, 1, 2, 3, 4, 5, 6, 7, 9, 10], [0, 1, 2, 3, 4, 5, 6, 7, 9, 10, 11], [0, 1, 2, 3, 4, 5, 6, 7, 8, 9, 10, 11, 12]], [(0, []), (1, []), (2, []), (5, []), (6, []), (8, []), (3, [4, 6]), (4, [4]), (7, []), (9, []), (10, []), (11, []), (12, []), (13, [])]) else if i = 19 then ([[], [0], [], [], [3], [2, 3, 4], [2, 3, 4, 5], [], [7], [], [], [10], [9, 10, 11], [9, 10, 11, 12], [2, 3, 4, 5, 6, 7, 8, 9, 10, 11, 12, 13], [2, 3, 4, 5, 6, 7, 8, 9, 10, 11, 12, 13, 14], [0, 1, 2, 3, 4, 5, 6, 7, 8, 9, 10, 11, 12, 13, 14, 15], [0, 1, 2, 3, 4, 5, 6, 7, 8, 9, 10, 11, 12, 13, 14, 15, 16], [0, 1, 2, 3, 4, 5, 6, 7, 8, 9, 10, 11, 12, 13, 14, 15, 16, 17]], [(0, []), (1, []), (2, []), (3, []), (4, []), (5, []), (6, []), (7, []), (8, []), (9, []), (10, []), (11, []), (12, []), (13, []), (14, []), (15, [1]), (16, []), (17, []), (18, [])]) else if i = 24 then ([[], [0], [], [], [2, 3], [2, 3, 4], [0, 1, 2, 3, 4, 5], [0, 1, 2, 3, 4, 5, 6], [0, 1, 2, 3, 4, 5, 6, 7]], [(0, []), (1, []), (2, []), (3, []), (4, [1]), (5, [1]), (6, []), (7, []), (8, [])]) else ([], []), fun i => if i = 6 then ([1, 2, 5, 6, 7, 33, 34], [35]) else if i = 16 then ([1, 2, 6, 7, 10, 65, 66], [67]) else if i = 22 then ([2, 7, 10, 105, 106], [107]) else ([], [])⟩
def L17_0 (K : AV → Heap → Prop) (v1 : AV) (v2 : AV) (v5 : AV) (v6 : AV) (v7 : AV) (v33 : AV) (v34 : AV) (v35 : AV) (H : Heap) : Prop := LoopV (wpC Try.prog tab D17 (cAt [1, 1, 1, 1, 0, 1, 0, 0] (bodyOf Try.f17))) [1, 2, 5, 6, 7, 33, 34] (PostF.block 0 (PostF.thenA (wpC Try.prog tab D17 (cAt [1, 1, 1, 1, 1] (bodyOf Try.f17))) (retF tab [.cell 2 32, .tmp 3] K))) [35] [AV.any, v1, v2, AV.any, AV.any, v5, v6, v7, AV.any, AV.any, AV.any, AV.any, AV.any, AV.any, AV.any, AV.any, AV.any, AV.any, AV.any, AV.any, AV.any, AV.any, AV.any, AV.any, AV.any, AV.any, AV.any, AV.any, AV.any, AV.any, AV.any, AV.any, AV.any, v33, v34, v35, AV.any, AV.any, AV.any, AV.any, AV.any, AV.any, AV.any, AV.any, AV.any, AV.any, AV.any, AV.any, AV.any, AV.any, AV.any, AV.any, AV.any, AV.any, AV.any, AV.any, AV.any, AV.any, AV.any, AV.any, AV.any, AV.any, AV.any, AV.any, AV.any, AV.any, AV.any, AV.any, AV.any, AV.any, AV.any, AV.any, AV.any, AV.any, AV.any, AV.any, AV.any, AV.any, AV.any, AV.any, AV.any, AV.any, AV.any, AV.any, AV.any, AV.any, AV.any, AV.any, AV.any, AV.any, AV.any, AV.any, AV.any, AV.any, AV.any, AV.any, AV.any, AV.any, AV.any, AV.any, AV.any, AV.any, AV.any, AV.any, AV.any, AV.any, AV.any, AV.any, AV.any, AV.any, AV.any, AV.any, AV.any, AV.any, AV.any, AV.any, AV.any, AV.any, AV.any, AV.any, AV.any] H
def L17_1 (K : AV → Heap → Prop) (v1 : AV) (v2 : AV) (v6 : AV) (v7 : AV) (v10 : AV) (v65 : AV) (v66 : AV) (v67 : AV) (H : Heap) : Prop := LoopV (wpC Try.prog tab D17 (cAt [1, 1, 1, 1, 1, 1, 1, 1, 0, 1, 0, 0] (bodyOf Try.f17))) [1, 2, 6, 7, 10, 65, 66] (PostF.block 2 (PostF.thenA (wpC Try.prog tab D17 (cAt [1, 1, 1, 1, 1, 1, 1, 1, 1] (bodyOf Try.f17))) (retF tab [.cell 2 32, .tmp 3] K))) [67] [AV.any, v1, v2, AV.any, AV.any, AV.any, v6, v7, AV.any, AV.any, v10, AV.any, AV.any, AV.any, AV.any, AV.any, AV.any, AV.any, AV.any, AV.any, AV.any, AV.any, AV.any, AV.any, AV.any, AV.any, AV.any, AV.any, AV.any, AV.any, AV.any, AV.any, AV.any, AV.any, AV.any, AV.any, AV.any, AV.any, AV.any, AV.any, AV.any, AV.any, AV.any, AV.any, AV.any, AV.any, AV.any, AV.any, AV.any, AV.any, AV.any, AV.any, AV.any, AV.any, AV.any, AV.any, AV.any, AV.any, AV.any, AV.any, AV.any, AV.any, AV.any, AV.any, AV.any, v65, v66, v67, AV.any, AV.any, AV.any, AV.any, AV.any, AV.any, AV.any, AV.any, AV.any, AV.any, AV.any, AV.any, AV.any, AV.any, AV.any, AV.any, AV.any, AV.any, AV.any, AV.any, AV.any, AV.any, AV.any, AV.any, AV.any, AV.any, AV.any, AV.any, AV.any, AV.any, AV.any, AV.any, AV.any, AV.any, AV.any, AV.any, AV.any, AV.any, AV.any, AV.any, AV.any, AV.any, AV.any, AV.any, AV.any, AV.any, AV.any, AV.any, AV.any, AV.any, AV.any, AV.any, AV.any] H
def L17_2 (K : AV → Heap → Prop) (v2 : AV) (v7 : AV) (v10 : AV) (v105 : AV) (v106 : AV) (v107 : AV) (H : Heap) : Prop := LoopV (wpC Try.prog tab D17 (cAt [1, 1, 1, 1, 1, 1, 1, 1, 1, 0, 1, 0, 0] (bodyOf Try.f17))) [2, 7, 10, 105, 106] (PostF.block 4 (PostF.thenA (wpC Try.prog tab D17 (cAt [1, 1, 1, 1, 1, 1, 1, 1, 1, 1] (bodyOf Try.f17))) (retF tab [.cell 2 32, .tmp 3] K))) [107] [AV.any, AV.any, v2, AV.any, AV.any, AV.any, AV.any, v7, AV.any, AV.any, v10, AV.any, AV.any, AV.any, AV.any, AV.any, AV.any, AV.any, AV.any, AV.any, AV.any, AV.any, AV.any, AV.any, AV.any, AV.any, AV.any, AV.any, AV.any, AV.any, AV.any, AV.any, AV.any, AV.any, AV.any, AV.any, AV.any, AV.any, AV.any, AV.any, AV.any, AV.any, AV.any, AV.any, AV.any, AV.any, AV.any, AV.any, AV.any, AV.any, AV.any, AV.any, AV.any, AV.any, AV.any, AV.any, AV.any, AV.any, AV.any, AV.any, AV.any, AV.any, AV.any, AV.any, AV.any, AV.any, AV.any, AV.any, AV.any, AV.any, AV.any, AV.any, AV.any, AV.any, AV.any, AV.any, AV.any, AV.any, AV.any, AV.any, AV.any, AV.any, AV.any, AV.any, AV.any, AV.any, AV.any, AV.any, AV.any, AV.any, AV.any, AV.any, AV.any, AV.any, AV.any, AV.any, AV.any, AV.any, AV.any, AV.any, AV.any, AV.any, AV.any, AV.any, AV.any, v105, v106, v107, AV.any, AV.any, AV.any, AV.any, AV.any, AV.any, AV.any, AV.any, AV.any, AV.any, AV.any, AV.any, AV.any] H
def B17_2 (K : AV → Heap → Prop) (N1 : AV → Heap → Prop) (v2 : AV) (v7 : AV) (v10 : AV) (v105 : AV) (v106 : AV) (v107 : AV) (H : Heap) : Prop :=
 binV tab .lss 3 v107 v106 fun v108 =>
 condV v108 (indexAddrV tab 24 v105 v107 fun v109 =>
 loadV tab 22 v109 H fun v110 =>
 fieldAddrV tab 32 v7 3 fun v111 =>
 loadV tab 24 v111 H fun v112 =>
 callF Try.prog v10 [v110] H fun v115 H24 =>
 (loadV tab 24 v111 H24 fun v9112 =>
 v112 = v9112) ∧
 buildSliceV tab 24 1 [(0, v115)] H24 (wkK fun v116 H25 =>
 (loadV tab 24 v111 H25 fun v9112 =>
 v112 = v9112) ∧
 appendV tab 24 24 v112 v116 H25 (wkK fun v117 H26 =>
 fieldAddrV tab 32 v7 3 fun v118 =>
 storeV tab 24 v118 v117 H26 fun H27 =>
 binV tab .add 3 v107 (AV.p (.int .i64 1)) fun v119 =>
 N1 v119 H27)))
 (loadV tab 32 v7 H fun v120 =>
 storeV tab 32 v2 v120 H fun H28 =>
 loadV tab 32 v2 H28 fun r0 =>
 K (.tup [r0, (AV.p (.bool true))]) H28)
def B17_1 (K : AV → Heap → Prop) (N1 : AV → Heap → Prop) (v1 : AV) (v2 : AV) (v6 : AV) (v7 : AV) (v10 : AV) (v65 : AV) (v66 : AV) (v67 : AV) (H : Heap) : Prop :=
 binV tab .lss 3 v67 v66 fun v68 =>
 condV v68 (indexAddrV tab 30 v65 v67 fun v69 =>
 loadV tab 65 v69 H fun v70 =>
 allocV tab 65 H fun v12 H19 =>
 storeV tab 65 v12 v70 H19 fun H20 =>
 loadV tab 22 v6 H20 fun v71 =>
 fieldAddrV tab 65 v12 0 fun v72 =>
 loadV tab 3 v72 H20 fun v73 =>
 indexAddrV tab 22 v71 v73 fun v74 =>
 loadV tab 3 v74 H20 fun v75 =>
 binV tab .geq 3 v75 (AV.p (.int .i64 0)) fun v76 =>
 grdV v76 true (loadV tab 22 v6 H20 fun v78 =>
 fieldAddrV tab 65 v12 2 fun v79 =>
 loadV tab 3 v79 H20 fun v80 =>
 indexAddrV tab 22 v78 v80 fun v81 =>
 loadV tab 3 v81 H20 fun v82 =>
 binV tab .geq 3 v82 (AV.p (.int .i64 0)) fun v83 =>
 condV v83 (fieldAddrV tab 32 v7 2 fun v85 =>
 loadV tab 30 v85 H20 fun v86 =>
 loadV tab 22 v6 H20 fun v87 =>
 fieldAddrV tab 65 v12 0 fun v88 =>
 loadV tab 3 v88 H20 fun v89 =>
 indexAddrV tab 22 v87 v89 fun v90 =>
 loadV tab 3 v90 H20 fun v91 =>
 fieldAddrV tab 65 v12 1 fun v92 =>
 loadV tab 3 v92 H20 fun v93 =>
 loadV tab 22 v6 H20 fun v94 =>
 fieldAddrV tab 65 v12 2 fun v95 =>
 loadV tab 3 v95 H20 fun v96 =>
 indexAddrV tab 22 v94 v96 fun v97 =>
 loadV tab 3 v97 H20 fun v98 =>
 buildV tab 65 [(0, v91), (1, v93), (2, v98)] fun v99 =>
 buildSliceV tab 30 1 [(0, v99)] H20 (wkK fun v100 H21 =>
 (loadV tab 30 v85 H21 fun v9086 =>
 v86 = v9086) ∧
 appendV tab 30 30 v86 v100 H21 (wkK fun v101 H22 =>
 fieldAddrV tab 32 v7 2 fun v102 =>
 storeV tab 30 v102 v101 H22 fun H23 =>
 binV tab .add 3 v67 (AV.p (.int .i64 1)) fun v103 =>
 N1 v103 H23)))
 (binV tab .add 3 v67 (AV.p (.int .i64 1)) fun v103 =>
 N1 v103 H20))
 (binV tab .add 3 v67 (AV.p (.int .i64 1)) fun v103 =>
 N1 v103 H20))
 (fieldAddrV tab 32 v1 3 fun v104 =>
 loadV tab 24 v104 H fun v105 =>
 lenV tab 24 v105 fun v106 =>
 L17_2 K v2 v7 v10 v105 v106 (AV.p (.int .i64 0)) H)
def B17_0 (K : AV → Heap → Prop) (N1 : AV → Heap → Prop) (v1 : AV) (v2 : AV) (v5 : AV) (v6 : AV) (v7 : AV) (v33 : AV) (v34 : AV) (v35 : AV) (H : Heap) : Prop :=
 binV tab .lss 3 v35 v34 fun v36 =>
 condV v36 (indexAddrV tab 22 v33 v35 fun v37 =>
 loadV tab 3 v37 H fun v38 =>
 indexAddrV tab 22 v5 v38 fun v41 =>
 loadV tab 3 v41 H fun v42 =>
 binV tab .geq 3 v42 (AV.p (.int .i64 0)) fun v43 =>
 condV v43 (loadV tab 22 v6 H fun v44 =>
 fieldAddrV tab 32 v7 0 fun v46 =>
 loadV tab 3 v46 H fun v47 =>
 indexAddrV tab 22 v44 v38 fun v48 =>
 storeV tab 3 v48 v47 H fun H14 =>
 fieldAddrV tab 32 v7 0 fun v49 =>
 loadV tab 3 v49 H14 fun v50 =>
 binV tab .add 3 v50 (AV.p (.int .i64 1)) fun v51 =>
 fieldAddrV tab 32 v7 0 fun v52 =>
 storeV tab 3 v52 v51 H14 fun H15 =>
 binV tab .add 3 v35 (AV.p (.int .i64 1)) fun v53 =>
 N1 v53 H15)
 (binV tab .add 3 v35 (AV.p (.int .i64 1)) fun v53 =>
 N1 v53 H))
 (fieldAddrV tab 32 v7 0 fun v55 =>
 loadV tab 3 v55 H fun v56 =>
 mmV .max (AV.p (.int .i64 1)) v56 fun v57 =>
 fieldAddrV tab 32 v7 0 fun v58 =>
 storeV tab 3 v58 v57 H fun H16 =>
 fieldAddrV tab 32 v1 1 fun v60 =>
 loadV tab 22 v60 H16 fun v61 =>
 callF Try.prog (.fn 48 [v6]) [v61] H16 fun v62 H17 =>
 fieldAddrV tab 32 v7 1 fun v63 =>
 storeV tab 22 v63 v62 H17 fun H18 =>
 fieldAddrV tab 32 v1 2 fun v64 =>
 loadV tab 30 v64 H18 fun v65 =>
 lenV tab 30 v65 fun v66 =>
 L17_1 K v1 v2 v6 v7 (.fn 48 [v6]) v65 v66 (AV.p (.int .i64 0)) H18)
def W17 (v0 : AV) (H : Heap) (K : AV → Heap → Prop) : Prop :=
 boxV v0 H fun v1 H1 =>
 allocV tab 32 H1 fun v2 H2 =>
 loadV tab 32 v1 H2 fun v15 =>
 CallT Try.prog 29 [v15] H2 fun v16 H3 =>
 unV .not v16 fun v17 =>
 condV v17 (buildV tab 32 [] fun v18 =>
 storeV tab 32 v2 v18 H3 fun H4 =>
 loadV tab 32 v2 H4 fun r0 =>
 K (.tup [r0, (AV.p (.bool false))]) H4)
 (loadV tab 32 v1 H3 fun v19 =>
 CallT Try.prog 31 [v19] H3 fun v20 H5 =>
 fieldAddrV tab 32 v1 1 fun v22 =>
 loadV tab 22 v22 H5 fun v23 =>
 fieldAddrV tab 32 v1 0 fun v26 =>
 loadV tab 3 v26 H5 fun v27 =>
 buildV tab 32 [] fun v29 =>
 safeV (buildN tab 22 1 [(0, (AV.p (.int .i64 (-1))))]) ∧
 CallT Try.prog 45 [v20, v23] H5 fun v24 H6 =>
 (loadV tab 3 v26 H6 fun v9027 =>
 v27 = v9027) ∧
 newV (buildN tab 22 1 [(0, (AV.p (.int .i64 (-1))))]) H6 fun v25 H7 =>
 CallT Try.prog 46 [v25, v27] H7 fun v28 H8 =>
 allocV tab 22 H8 fun v6 H9 =>
 allocV tab 32 H9 fun v7 H10 =>
 storeV tab 22 v6 v28 H10 fun H11 =>
 storeV tab 32 v7 v29 H11 fun H12 =>
 fieldAddrV tab 32 v1 3 fun v31 =>
 loadV tab 24 v31 H12 fun v32 =>
 CallT Try.prog 47 [v20, v32] H12 fun v33 H13 =>
 lenV tab 22 v33 fun v34 =>
 L17_0 K v1 v2 v24 v6 v7 v33 v34 (AV.p (.int .i64 0)) H13)
theorem W17_wp (v0 : AV) (H : Heap) (K : AV → Heap → Prop) : wpC Try.prog tab D17 (bodyOf Try.f17) (retF tab [.cell 2 32, .tmp 3] K) (nthA [v0]) H = W17 v0 H K := by kernel_rfl
theorem W17_ok {v0 : AV} {H : Heap} {K : AV → Heap → Prop} (h : W17 v0 H K) : CallT Try.prog 17 [v0] H K :=
  CallT.of_wp (D := D17) tab_ok mixed Try.func17 (c := bodyOf Try.f17) (by kernel_rfl) rfl (by kernel_rfl) (rs := #[.cell 2 32, .tmp 3]) rfl (by decide +kernel) (by kernel_rfl) (W17_wp v0 H K) h
theorem W17_hb : HasBody Try.prog 17 := ⟨_, bodyOf Try.f17, Try.func17, by kernel_rfl, rfl⟩
theorem L17_2_rule {K : AV → Heap → Prop} {v2 v7 v10 v105 v106 v107 : AV} {H : Heap} {σ : Type} (s0 : σ) (f107 : σ → AV) (TH : σ → Heap) (pre : σ → Prop) (μ : σ → Nat)
    (h0 : pre s0 ∧ AV.wk v107 (f107 s0) ∧ Heap.le (TH s0) H)
    (round : ∀ s, pre s → B17_2 K (fun w107 H' => ∃ s', pre s' ∧ μ s' < μ s ∧ AV.wk w107 (f107 s') ∧ Heap.le (TH s') H') v2 v7 v10 v105 v106 (f107 s) (TH s)) :
    L17_2 K v2 v7 v10 v105 v106 v107 H := by
  unfold L17_2
  exact LoopV.mk s0 (fun s => [f107 s]) TH pre μ (fun _ => rfl) (Eq.mp (by kernel_rfl) h0) (fun s hs => Eq.mp (by kernel_rfl) (round s hs))
theorem L17_1_rule {K : AV → Heap → Prop} {v1 v2 v6 v7 v10 v65 v66 v67 : AV} {H : Heap} {σ : Type} (s0 : σ) (f67 : σ → AV) (TH : σ → Heap) (pre : σ → Prop) (μ : σ → Nat)
    (h0 : pre s0 ∧ AV.wk v67 (f67 s0) ∧ Heap.le (TH s0) H)
    (round : ∀ s, pre s → B17_1 K (fun w67 H' => ∃ s', pre s' ∧ μ s' < μ s ∧ AV.wk w67 (f67 s') ∧ Heap.le (TH s') H') v1 v2 v6 v7 v10 v65 v66 (f67 s) (TH s)) :
    L17_1 K v1 v2 v6 v7 v10 v65 v66 v67 H := by
  unfold L17_1
  exact LoopV.mk s0 (fun s => [f67 s]) TH pre μ (fun _ => rfl) (Eq.mp (by kernel_rfl) h0) (fun s hs => Eq.mp (by kernel_rfl) (round s hs))
theorem L17_0_rule {K : AV → Heap → Prop} {v1 v2 v5 v6 v7 v33 v34 v35 : AV} {H : Heap} {σ : Type} (s0 : σ) (f35 : σ → AV) (TH : σ → Heap) (pre : σ → Prop) (μ : σ → Nat)
    (h0 : pre s0 ∧ AV.wk v35 (f35 s0) ∧ Heap.le (TH s0) H)
    (round : ∀ s, pre s → B17_0 K (fun w35 H' => ∃ s', pre s' ∧ μ s' < μ s ∧ AV.wk w35 (f35 s') ∧ Heap.le (TH s') H') v1 v2 v5 v6 v7 v33 v34 (f35 s) (TH s)) :
    L17_0 K v1 v2 v5 v6 v7 v33 v34 v35 H := by
  unfold L17_0
  exact LoopV.mk s0 (fun s => [f35 s]) TH pre μ (fun _ => rfl) (Eq.mp (by kernel_rfl) h0) (fun s hs => Eq.mp (by kernel_rfl) (round s hs))
def D18 : Info := ⟨18, fun i => ([], []), fun i => ([], [])⟩
def W18 (v0 : AV) (v1 : AV) (H : Heap) (K : AV → Heap → Prop) : Prop :=
 boxV v0 H fun v2 H1 =>
 fieldAddrV tab 32 v2 1 fun v5 =>
 loadV tab 22 v5 H1 fun v6 =>
 CallT Try.prog 49 [v6, v1] H1 fun v8 H2 =>
 fieldAddrV tab 32 v2 2 fun v9 =>
 loadV tab 30 v9 H2 fun v10 =>
 CallT Try.prog 50 [v10, v8] H2 fun v12 H3 =>
 fieldAddrV tab 32 v2 3 fun v13 =>
 loadV tab 24 v13 H3 fun v14 =>
 CallT Try.prog 51 [v14, v12] H3 fun v16 H4 =>
 K v16 H4
theorem W18_wp (v0 : AV) (v1 : AV) (H : Heap) (K : AV → Heap → Prop) : wpC Try.prog tab D18 (bodyOf Try.f18) (retF tab [.tmp 4] K) (nthA [v0, v1]) H = W18 v0 v1 H K := by kernel_rfl
theorem W18_ok {v0 v1 : AV} {H : Heap} {K : AV → Heap → Prop} (h : W18 v0 v1 H K) : CallT Try.prog 18 [v0, v1] H K :=
  CallT.of_wp (D := D18) tab_ok mixed Try.func18 (c := bodyOf Try.f18) (by kernel_rfl) rfl (by kernel_rfl) (rs := #[.tmp 4]) rfl (by decide +kernel) (by kernel_rfl) (W18_wp v0 v1 H K) h
def D19 : Info := ⟨24, fun i => ([], []), fun i => ([], [])⟩
def W19 (v0 : AV) (v1 : AV) (H : Heap) (K : AV → Heap → Prop) : Prop :=
 boxV v0 H fun v2 H1 =>
 fieldAddrV tab 32 v2 1 fun v5 =>
 loadV tab 22 v5 H1 fun v6 =>
 CallT Try.prog 52 [v6, v1] H1 fun v8 H2 =>
 binV tab .lss 3 v8 (AV.p (.int .i64 0)) fun v10 =>
 condV v10 (K (AV.p (.int .i64 (-1))) H2)
 (fieldAddrV tab 32 v2 2 fun v11 =>
 loadV tab 30 v11 H2 fun v12 =>
 CallT Try.prog 53 [v12, v8] H2 fun v14 H3 =>
 binV tab .lss 3 v14 (AV.p (.int .i64 0)) fun v16 =>
 condV v16 (K (AV.p (.int .i64 (-1))) H3)
 (fieldAddrV tab 32 v2 3 fun v17 =>
 loadV tab 24 v17 H3 fun v18 =>
 CallT Try.prog 54 [v18, v14] H3 fun v20 H4 =>
 binV tab .lss 3 v20 (AV.p (.int .i64 0)) fun v22 =>
 condV v22 (K (AV.p (.int .i64 (-1))) H4)
 (K v20 H4)))
theorem W19_wp (v0 : AV) (v1 : AV) (H : Heap) (K : AV → Heap → Prop) : wpC Try.prog tab D19 (bodyOf Try.f19) (retF tab [.tmp 4] K) (nthA [v0, v1]) H = W19 v0 v1 H K := by kernel_rfl
theorem W19_ok {v0 v1 : AV} {H : Heap} {K : AV → Heap → Prop} (h : W19 v0 v1 H K) : CallT Try.prog 19 [v0, v1] H K :=
  CallT.of_wp (D := D19) tab_ok mixed Try.func19 (c := bodyOf Try.f19) (by kernel_rfl) rfl (by kernel_rfl) (rs := #[.tmp 4]) rfl (by decide +kernel) (by kernel_rfl) (W19_wp v0 v1 H K) h
def D20 : Info := ⟨12, fun i => ([], []), fun i => ([], [])⟩
def W20 (v0 : AV) (v1 : AV) (H : Heap) (K : AV → Heap → Prop) : Prop :=
 lenV tab 22 v0 fun v7 =>
 binV tab .sub 3 v1 v7 fun v8 =>
 binV tab .lss 3 v8 (AV.p (.int .i64 0)) fun v10 =>
 condV v10 (K (AV.p (.int .i64 (-1))) H)
 (K v8 H)
theorem W20_wp (v0 : AV) (v1 : AV) (H : Heap) (K : AV → Heap → Prop) : wpC Try.prog tab D20 (bodyOf Try.f20) (retF tab [.tmp 4] K) (nthA [v0, v1]) H = W20 v0 v1 H K := by kernel_rfl
theorem W20_ok {v0 v1 : AV} {H : Heap} {K : AV → Heap → Prop} (h : W20 v0 v1 H K) : CallT Try.prog 20 [v0, v1] H K :=
  CallT.of_wp (D := D20) tab_ok mixed Try.func20 (c := bodyOf Try.f20) (by kernel_rfl) rfl (by kernel_rfl) (rs := #[.tmp 4]) rfl (by decide +kernel) (by kernel_rfl) (W20_wp v0 v1 H K) h
def D21 : Info := ⟨12, fun i => ([], []), fun i => ([], [])⟩
def W21 (v0 : AV) (v1 : AV) (H : Heap) (K : AV → Heap → Prop) : Prop :=
 lenV tab 23 v0 fun v7 =>
 binV tab .sub 3 v1 v7 fun v8 =>
 binV tab .lss 3 v8 (AV.p (.int .i64 0)) fun v10 =>
 condV v10 (K (AV.p (.int .i64 (-1))) H)
 (K v8 H)
theorem W21_wp (v0 : AV) (v1 : AV) (H : Heap) (K : AV → Heap → Prop) : wpC Try.prog tab D21 (bodyOf Try.f21) (retF tab [.tmp 4] K) (nthA [v0, v1]) H = W21 v0 v1 H K := by kernel_rfl
theorem W21_ok {v0 v1 : AV} {H : Heap} {K : AV → Heap → Prop} (h : W21 v0 v1 H K) : CallT Try.prog 21 [v0, v1] H K :=
  CallT.of_wp (D := D21) tab_ok mixed Try.func21 (c := bodyOf Try.f21) (by kernel_rfl) rfl (by kernel_rfl) (rs := #[.tmp 4]) rfl (by decide +kernel) (by kernel_rfl) (W21_wp v0 v1 H K) h
def D22 : Info := ⟨27, fun i => ([], []), fun i => if i = 5 then ([0], [1, 5]) else ([], [])⟩
def L22_0 (K : AV → Heap → Prop) (v0 : AV) (v1 : AV) (v5 : AV) (H : Heap) : Prop := LoopV (wpC Try.prog tab D22 (cAt [1, 1, 1, 0, 1, 0, 0] (bodyOf Try.f22))) [0] (PostF.block 0 (PostF.thenA (wpC Try.prog tab D22 (cAt [1, 1, 1, 1] (bodyOf Try.f22))) (retF tab [.tmp 4] K))) [1, 5] [v0, v1, AV.any, AV.any, AV.any, v5, AV.any, AV.any, AV.any, AV.any, AV.any, AV.any, AV.any, AV.any, AV.any, AV.any, AV.any, AV.any, AV.any, AV.any, AV.any, AV.any, AV.any, AV.any, AV.any, AV.any, AV.any] H
def B22_0 (K : AV → Heap → Prop) (N1 : AV → AV → Heap → Prop) (v0 : AV) (v1 : AV) (v5 : AV) (H : Heap) : Prop :=
 lenV tab 24 v0 fun v14 =>
 binV tab .lss 3 v5 v14 fun v15 =>
 condV v15 (indexAddrV tab 24 v0 v5 fun v20 =>
 loadV tab 22 v20 H fun v21 =>
 CallT Try.prog 20 [v21, v1] H fun v23 H1 =>
 binV tab .lss 3 v23 (AV.p (.int .i64 0)) fun v25 =>
 condV v25 (K (AV.p (.int .i64 (-1))) H1)
 (binV tab .add 3 v5 (AV.p (.int .i64 1)) fun v17 =>
 N1 v23 v17 H1))
 (K v1 H)
def W22 (v0 : AV) (v1 : AV) (H : Heap) (K : AV → Heap → Prop) : Prop :=
 lenV tab 24 v0 fun v8 =>
 binV tab .sub 3 v1 v8 fun v9 =>
 binV tab .lss 3 v9 (AV.p (.int .i64 0)) fun v11 =>
 condV v11 (K (AV.p (.int .i64 (-1))) H)
 (L22_0 K v0 v9 (AV.p (.int .i64 0)) H)
theorem W22_wp (v0 : AV) (v1 : AV) (H : Heap) (K : AV → Heap → Prop) : wpC Try.prog tab D22 (bodyOf Try.f22) (retF tab [.tmp 4] K) (nthA [v0, v1]) H = W22 v0 v1 H K := by kernel_rfl
theorem W22_ok {v0 v1 : AV} {H : Heap} {K : AV → Heap → Prop} (h : W22 v0 v1 H K) : CallT Try.prog 22 [v0, v1] H K :=
  CallT.of_wp (D := D22) tab_ok mixed Try.func22 (c := bodyOf Try.f22) (by kernel_rfl) rfl (by kernel_rfl) (rs := #[.tmp 4]) rfl (by decide +kernel) (by kernel_rfl) (W22_wp v0 v1 H K) h
theorem L22_0_rule {K : AV → Heap → Prop} {v0 v1 v5 : AV} {H : Heap} {σ : Type} (s0 : σ) (f1 : σ → AV) (f5 : σ → AV) (TH : σ → Heap) (pre : σ → Prop) (μ : σ → Nat)
    (h0 : pre s0 ∧ AV.wk v1 (f1 s0) ∧ AV.wk v5 (f5 s0) ∧ Heap.le (TH s0) H)
    (round : ∀ s, pre s → B22_0 K (fun w1 w5 H' => ∃ s', pre s' ∧ μ s' < μ s ∧ AV.wk w1 (f1 s') ∧ AV.wk w5 (f5 s') ∧ Heap.le (TH s') H') v0 (f1 s) (f5 s) (TH s)) :
    L22_0 K v0 v1 v5 H := by
  unfold L22_0
  exact LoopV.mk s0 (fun s => [f1 s, f5 s]) TH pre μ (fun _ => rfl) (Eq.mp (by kernel_rfl) h0) (fun s hs => Eq.mp (by kernel_rfl) (round s hs))
def D23 : Info := ⟨77, fun i => if i = 6 then ([[], [0], [], [2], [2, 3], [0, 1, 2, 3, 4], [0, 1, 2, 3, 4, 5], [0, 1, 2, 3, 4, 5, 6], [0, 1, 2, 3, 4, 5, 6, 7], [0, 1, 2, 3, 4, 5, 6, 7, 8], [0, 1, 2, 3, 4, 5, 6, 7, 8, 9], [0, 1, 2, 3, 4, 5, 6, 7, 8, 9, 10], [0, 1, 2, 3, 4, 5, 6, 7, 8, 9, 10, 11], [0, 1, 2, 3, 4, 5, 6, 7, 8, 9, 10, 11, 12], [0, 1, 2, 3, 4, 5, 6, 7, 8, 9, 10, 11, 12, 13], [0, 1, 2, 3, 4, 5, 6, 7, 8, 9, 10, 11, 12, 13, 14], [0, 1, 2, 3, 4, 5, 6, 7, 8, 9, 10, 11, 12, 13], [0, 1, 2, 3, 4, 5, 6, 7, 8, 9, 10, 11, 12, 13, 16], [0, 1, 2, 3, 4, 5, 6, 7, 8, 9, 10, 11, 12, 13, 16, 17], [0, 1, 2, 3, 4, 5, 6, 7, 8, 9, 10, 11, 12, 13, 14, 15, 16, 17, 18], [0, 1, 2, 3, 4, 5, 6, 7, 8, 9, 10, 11, 12, 13, 14, 15, 16, 17, 18, 19], [0, 1, 2, 3, 4, 5, 6, 7, 8, 9, 10, 11, 12, 13, 14, 15, 16, 17, 18, 19, 20], [0, 1, 2, 3, 4, 5, 6, 7, 8, 9, 10, 11, 12, 13, 14, 15, 16, 17, 18, 19, 20, 21], [0, 1, 2, 3, 4, 5, 6, 7, 8, 9, 10, 11, 12, 13, 14, 15, 16, 17, 18, 19, 20, 21, 22], [0, 1, 2, 3, 4, 5, 6, 7, 8, 9, 10, 11, 12, 13, 14, 15, 16, 17, 18, 19, 20, 21, 22, 23], [0, 1, 2, 3, 4, 5, 6, 7, 8, 9, 10, 11, 12, 13, 14, 15, 16, 17, 18, 19, 20, 21, 22, 23, 24], [0, 1, 2, 3, 4, 5, 6, 7, 8, 9, 10, 11, 12, 13, 14, 15, 16, 17, 18, 19, 20, 21, 22, 23, 24, 25], [0, 1, 2, 3, 4, 5, 6, 7, 8, 9, 10, 11, 12, 13, 14, 15, 16, 17, 18, 19, 20, 21, 22, 23, 24, 25, 26], [0, 1, 2, 3, 4, 5, 6, 7, 8, 9, 10, 11, 12, 13, 14, 15, 16, 17, 18, 19, 20, 21, 22, 23, 24, 25], [0, 1, 2, 3, 4, 5, 6, 7, 8, 9, 10, 11, 12, 13, 14, 15, 16, 17, 18, 19, 20, 21, 22, 23, 24, 25, 28], [0, 1, 2, 3, 4, 5, 6, 7, 8, 9, 10, 11, 12, 13, 14, 15, 16, 17, 18, 19, 20, 21, 22, 23, 24, 25, 26, 27, 28, 29], [0, 1, 2, 3, 4, 5, 6, 7, 8, 9, 10, 11, 12, 13, 14, 15, 16, 17, 18, 19, 20, 21, 22, 23, 24, 25, 26, 27, 28, 29, 30], [0, 1, 2, 3, 4, 5, 6, 7, 8, 9, 10, 11, 12, 13, 14, 15, 16, 17, 18, 19, 20, 21, 22, 23, 24, 25], [0, 1, 2, 3, 4, 5, 6, 7, 8, 9, 10, 11, 12, 13, 14, 15, 16, 17, 18, 19, 20, 21, 22, 23, 24, 25, 26, 27, 28, 29, 30, 31, 32], [0, 1, 2, 3, 4, 5, 6, 7, 8, 9, 10, 11, 12, 13, 14, 15, 16, 17, 18, 19, 20, 21, 22, 23, 24, 25, 26, 27, 28, 29, 30, 31, 32, 33], [0, 1, 2, 3, 4, 5, 6, 7, 8, 9, 10, 11, 12, 13, 14, 15, 16, 17, 18, 19, 20, 21, 22, 23, 24, 25, 26, 27, 28, 29, 30, 31, 32, 33, 34], [0, 1, 2, 3, 4, 5, 6, 7, 8, 9, 10, 11, 12, 13, 14, 15, 16, 17, 18, 19, 20, 21, 22, 23, 24, 25, 26, 27, 28, 29, 30, 31, 32, 33, 34, 35]], [(0, []), (1, []), (2, []), (3, []), (4, []), (5, []), (6, []), (7, []), (8, []), (9, []), (10, []), (11, []), (12, []), (13, []), (14, []), (15, []), (16, []), (17, []), (18, []), (19, []), (20, []), (21, []), (22, []), (23, []), (24, []), (25, []), (26, []), (27, []), (28, []), (29, []), (30, []), (31, []), (32, []), (33, []), (34, []), (35, []), (36, [])]) else ([], []), fun i => if i = 4 then ([1, 32, 33], [34]) else ([], [])⟩
def L23_0 (K : AV → Heap → Prop) (v1 : AV) (v32 : AV) (v33 : AV) (v34 : AV) (H : Heap) : Prop := LoopV (wpC Try.prog tab D23 (cAt [1, 1, 0, 1, 0, 0] (bodyOf Try.f23))) [1, 32, 33] (PostF.block 0 (PostF.thenA (wpC Try.prog tab D23 (cAt [1, 1, 1] (bodyOf Try.f23))) (retF tab [.tmp 2] K))) [34] [AV.any, v1, AV.any, AV.any, AV.any, AV.any, AV.any, AV.any, AV.any, AV.any, AV.any, AV.any, AV.any, AV.any, AV.any, AV.any, AV.any, AV.any, AV.any, AV.any, AV.any, AV.any, AV.any, AV.any, AV.any, AV.any, AV.any, AV.any, AV.any, AV.any, AV.any, AV.any, v32, v33, v34, AV.any, AV.any, AV.any, AV.any, AV.any, AV.any, AV.any, AV.any, AV.any, AV.any, AV.any, AV.any, AV.any, AV.any, AV.any, AV.any, AV.any, AV.any, AV.any, AV.any, AV.any, AV.any, AV.any, AV.any, AV.any, AV.any, AV.any, AV.any, AV.any, AV.any, AV.any, AV.any, AV.any, AV.any, AV.any, AV.any, AV.any, AV.any, AV.any, AV.any, AV.any, AV.any] H
def B23_0 (K : AV → Heap → Prop) (N1 : AV → Heap → Prop) (v1 : AV) (v32 : AV) (v33 : AV) (v34 : AV) (H : Heap) : Prop :=
 binV tab .lss 3 v34 v33 fun v35 =>
 condV v35 (indexAddrV tab 30 v32 v34 fun v37 =>
 loadV tab 65 v37 H fun v38 =>
 allocV tab 65 H fun v4 H5 =>
 storeV tab 65 v4 v38 H5 fun H6 =>
 fieldAddrV tab 65 v4 0 fun v39 =>
 loadV tab 3 v39 H6 fun v40 =>
 fieldAddrV tab 32 v1 0 fun v41 =>
 loadV tab 3 v41 H6 fun v42 =>
 binV tab .sub 3 v42 (AV.p (.int .i64 1)) fun v43 =>
 CallT Try.prog 55 [v40, (AV.p (.int .i64 0)), v43] H6 fun v44 H7 =>
 unV .not v44 fun v45 =>
 grdV v45 false (fieldAddrV tab 65 v4 1 fun v47 =>
 loadV tab 3 v47 H7 fun v48 =>
 CallT Try.prog 55 [v48, (AV.p (.int .i64 0)), (AV.p (.int .i64 7))] H7 fun v49 H8 =>
 unV .not v49 fun v50 =>
 grdV v50 false (fieldAddrV tab 65 v4 2 fun v53 =>
 loadV tab 3 v53 H8 fun v54 =>
 fieldAddrV tab 32 v1 0 fun v55 =>
 loadV tab 3 v55 H8 fun v56 =>
 binV tab .sub 3 v56 (AV.p (.int .i64 1)) fun v57 =>
 CallT Try.prog 55 [v54, (AV.p (.int .i64 0)), v57] H8 fun v58 H9 =>
 unV .not v58 fun v59 =>
 grdV v59 false (binV tab .gtr 3 v34 (AV.p (.int .i64 0)) fun v63 =>
 grdV v63 true (fieldAddrV tab 32 v1 2 fun v65 =>
 loadV tab 30 v65 H9 fun v66 =>
 binV tab .sub 3 v34 (AV.p (.int .i64 1)) fun v68 =>
 indexAddrV tab 30 v66 v68 fun v69 =>
 loadV tab 65 v69 H9 fun v70 =>
 loadV tab 65 v4 H9 fun v71 =>
 CallT Try.prog 58 [v70, v71] H9 fun v72 H10 =>
 unV .not v72 fun v73 =>
 condV v73 (K (AV.p (.bool false)) H10)
 (binV tab .add 3 v34 (AV.p (.int .i64 1)) fun v76 =>
 N1 v76 H10))
 (binV tab .add 3 v34 (AV.p (.int .i64 1)) fun v76 =>
 N1 v76 H9))
 (K (AV.p (.bool false)) H9))
 (K (AV.p (.bool false)) H8))
 (K (AV.p (.bool false)) H7))
 (K (AV.p (.bool true)) H)
def W23 (v0 : AV) (H : Heap) (K : AV → Heap → Prop) : Prop :=
 boxV v0 H fun v1 H1 =>
 fieldAddrV tab 32 v1 0 fun v5 =>
 loadV tab 3 v5 H1 fun v6 =>
 CallT Try.prog 55 [v6, (AV.p (.int .i64 1)), (AV.p (.int .i64 96))] H1 fun v7 H2 =>
 unV .not v7 fun v8 =>
 grdV v8 false (fieldAddrV tab 32 v1 1 fun v10 =>
 loadV tab 22 v10 H2 fun v11 =>
 fieldAddrV tab 32 v1 0 fun v12 =>
 loadV tab 3 v12 H2 fun v13 =>
 CallT Try.prog 56 [v11, v13] H2 fun v14 H3 =>
 unV .not v14 fun v15 =>
 grdV v15 false (fieldAddrV tab 32 v1 2 fun v18 =>
 loadV tab 30 v18 H3 fun v19 =>
 lenV tab 30 v19 fun v20 =>
 binV tab .gtr 3 v20 (AV.p (.int .i64 2400)) fun v21 =>
 grdV v21 false (fieldAddrV tab 32 v1 3 fun v24 =>
 loadV tab 24 v24 H3 fun v25 =>
 fieldAddrV tab 32 v1 0 fun v26 =>
 loadV tab 3 v26 H3 fun v27 =>
 CallT Try.prog 57 [v25, v27] H3 fun v28 H4 =>
 unV .not v28 fun v29 =>
 condV v29 (K (AV.p (.bool false)) H4)
 (fieldAddrV tab 32 v1 2 fun v31 =>
 loadV tab 30 v31 H4 fun v32 =>
 lenV tab 30 v32 fun v33 =>
 L23_0 K v1 v32 v33 (AV.p (.int .i64 0)) H4))
 (K (AV.p (.bool false)) H3))
 (K (AV.p (.bool false)) H3))
 (K (AV.p (.bool false)) H2)
theorem W23_wp (v0 : AV) (H : Heap) (K : AV → Heap → Prop) : wpC Try.prog tab D23 (bodyOf Try.f23) (retF tab [.tmp 2] K) (nthA [v0]) H = W23 v0 H K := by kernel_rfl
theorem W23_ok {v0 : AV} {H : Heap} {K : AV → Heap → Prop} (h : W23 v0 H K) : CallT Try.prog 23 [v0] H K :=
  CallT.of_wp (D := D23) tab_ok mixed Try.func23 (c := bodyOf Try.f23) (by kernel_rfl) rfl (by kernel_rfl) (rs := #[.tmp 2]) rfl (by decide +kernel) (by kernel_rfl) (W23_wp v0 H K) h
theorem L23_0_rule {K : AV → Heap → Prop} {v1 v32 v33 v34 : AV} {H : Heap} {σ : Type} (s0 : σ) (f34 : σ → AV) (TH : σ → Heap) (pre : σ → Prop) (μ : σ → Nat)
    (h0 : pre s0 ∧ AV.wk v34 (f34 s0) ∧ Heap.le (TH s0) H)
    (round : ∀ s, pre s → B23_0 K (fun w34 H' => ∃ s', pre s' ∧ μ s' < μ s ∧ AV.wk w34 (f34 s') ∧ Heap.le (TH s') H') v1 v32 v33 (f34 s) (TH s)) :
    L23_0 K v1 v32 v33 v34 H := by
  unfold L23_0
  exact LoopV.mk s0 (fun s => [f34 s]) TH pre μ (fun _ => rfl) (Eq.mp (by kernel_rfl) h0) (fun s hs => Eq.mp (by kernel_rfl) (round s hs))
end Go.Proofs.Ytolffbcnbcjeaaa
