/- Texts laid together: Lr0 Tab W0. -/
import Derived.Test.YtgcklgeifdefhaaPka2
import Derived.Test.YtgcklgeifdefhaaProg
import Derived.KernelRfl
set_option linter.unusedVariables false
set_option linter.unusedSimpArgs false
/- Arguments of types, by value: what they look like. -/
namespace Go.Sep
open Go Go.RowKit
set_option linter.unusedVariables false

/-- The fields of a struct's type. -/
def fieldsAre (P : Program) (t : TypeId) (ts : List TypeId) : Bool := match P.underlying t with
  | some (.struct fs) => decide (fs.toList.map (·.type) = ts)
  | _ => false
def intIs (P : Program) (t : TypeId) (k : IntKind) : Bool := match P.underlying t with
  | some (.int k') => decide (k' = k)
  | _ => false
def sliceIs (P : Program) (t e : TypeId) : Bool := match P.underlying t with
  | some (.slice e') => decide (e' = e)
  | _ => false
theorem fieldsAre_ok {P : Program} {t : TypeId} {ts : List TypeId} (h : fieldsAre P t ts = true) : ∃ fs, P.underlying t = some (.struct fs) ∧ fs.toList.map (·.type) = ts := by
  unfold fieldsAre at h
  split at h
  · rename_i fs hu; exact ⟨fs, hu, of_decide_eq_true h⟩
  · cases h
theorem intIs_ok {P : Program} {t : TypeId} {k : IntKind} (h : intIs P t k = true) : P.underlying t = some (.int k) := by
  unfold intIs at h
  split at h
  · rename_i k' hu; rw [hu, of_decide_eq_true h]
  · cases h
theorem sliceIs_ok {P : Program} {t e : TypeId} (h : sliceIs P t e = true) : P.underlying t = some (.slice e) := by
  unfold sliceIs at h
  split at h
  · rename_i k' hu; rw [hu, of_decide_eq_true h]
  · cases h
theorem typed_int {P : Program} {t : TypeId} {k : IntKind} (hi : intIs P t k = true) {x : List PV} (h : Typed P t x) : ∃ n, (Lit.int k n).wf = true ∧ x = [.int k n] := by
  have hu := intIs_ok hi
  cases h with
  | bool h => rw [hu] at h; cases h
  | int h hw => rw [hu] at h; cases h; exact ⟨_, hw, rfl⟩
  | str h _ => rw [hu] at h; cases h
  | sl h _ _ => rw [hu] at h; cases h
  | struct h _ => rw [hu] at h; cases h
theorem typed_slice {P : Program} {t e : TypeId} (hi : sliceIs P t e = true) {x : List PV} (h : Typed P t x) : ∃ es, x = [.sl es] ∧ es.length ≤ 9223372036854775807 ∧ ∀ y ∈ es, Typed P e y := by
  have hu := sliceIs_ok hi
  cases h with
  | bool h => rw [hu] at h; cases h
  | int h hw => rw [hu] at h; cases h
  | str h _ => rw [hu] at h; cases h
  | sl h hl he => rw [hu] at h; cases h; exact ⟨_, rfl, hl, he⟩
  | struct h _ => rw [hu] at h; cases h
theorem typed_fields {P : Program} {t : TypeId} {ts : List TypeId} (hf : fieldsAre P t ts = true) {x : List PV} (h : Typed P t x) : TypedAll P ts x := by
  obtain ⟨fs, hu, rfl⟩ := fieldsAre_ok hf
  cases h with
  | bool h => rw [hu] at h; cases h
  | int h hw => rw [hu] at h; cases h
  | str h _ => rw [hu] at h; cases h
  | sl h hl he => rw [hu] at h; cases h
  | struct h hf => rw [hu] at h; cases h; exact hf
theorem typedAll_cons {P : Program} {t : TypeId} {ts : List TypeId} {x : List PV} (h : TypedAll P (t :: ts) x) : ∃ a b, x = a ++ b ∧ Typed P t a ∧ TypedAll P ts b := by
  cases h with
  | cons h r => exact ⟨_, _, rfl, h, r⟩
theorem typedAll_nil {P : Program} {x : List PV} (h : TypedAll P [] x) : x = [] := by cases h; rfl
theorem arg_struct {P : Program} {t : TypeId} {ts : List TypeId} (hf : fieldsAre P t ts = true) {v : AV} (h : ArgT P t v) : ∃ pvs, TypedAll P ts pvs ∧ v = .agg (pvs.map .p) := by
  obtain ⟨fs, hu, rfl⟩ := fieldsAre_ok hf
  cases h with
  | cell hs h => exact absurd hu (hs fs)
  | agg hu' h => rw [hu] at hu'; cases hu'; exact ⟨_, h, rfl⟩
theorem arg_cell {P : Program} {t : TypeId} (hs : ∀ fs, P.underlying t ≠ some (.struct fs)) {v : AV} (h : ArgT P t v) : ∃ p, Typed P t [p] ∧ v = .p p := by
  cases h with
  | cell hs h => exact ⟨_, h, rfl⟩
  | agg hu' h => exact absurd hu' (hs _)
theorem rows_of {α : Type} {Q : α → Prop} {e : α → List PV} : ∀ (es : List (List PV)), (∀ y ∈ es, ∃ a, Q a ∧ y = e a) → ∃ az : List α, (∀ a ∈ az, Q a) ∧ es = az.map e ∧ az.length = es.length
  | [], _ => ⟨[], fun _ h => by simp at h, rfl, rfl⟩
  | x :: es, h => by
    obtain ⟨a, ha, rfl⟩ := h x (by simp)
    obtain ⟨az, h1, rfl, h3⟩ := rows_of es fun y hy => h y (by simp [hy])
    refine ⟨a :: az, fun b hb => ?_, rfl, by simp⟩
    rcases List.mem_cons.1 hb with rfl | hb
    · exact ha
    · exact h1 b hb
theorem args_cons {P : Program} {t : TypeId} {ts : List TypeId} {avs : List AV} (h : ArgsT P (t :: ts) avs) : ∃ v vs, avs = v :: vs ∧ ArgT P t v ∧ ArgsT P ts vs := by
  cases h with
  | cons h r => exact ⟨_, _, rfl, h, r⟩
theorem args_nil {P : Program} {avs : List AV} (h : ArgsT P [] avs) : avs = [] := by cases h; rfl
end Go.Sep
/- The table of the program's types, and that it is right. Written by gentab.py (a program of this session's) out of the translation. -/
namespace Go.Proofs.Ytgcklgeifdefhaa
open Go Go.Sep
set_option linter.unusedVariables false
def td1 : TD := ⟨.func, 1, 8, [.nilfn]⟩
def td2 : TD := ⟨.int .i64, 1, 8, [(.p (.int .i64 0))]⟩
def td3 : TD := ⟨.int .i64, 1, 8, [(.p (.int .i64 0))]⟩
def td4 : TD := ⟨.bool, 1, 1, [(.p (.bool false))]⟩
def td5 : TD := ⟨.int .u8, 1, 1, [(.p (.int .u8 0))]⟩
def td6 : TD := ⟨.int .u8, 1, 1, [(.p (.int .u8 0))]⟩
def td9 : TD := ⟨.str, 1, 16, [(.p (.str ⟨#[]⟩))]⟩
def td10 : TD := ⟨.str, 1, 16, [(.p (.str ⟨#[]⟩))]⟩
def td11 : TD := ⟨.str, 1, 16, [(.p (.str ⟨#[]⟩))]⟩
def td12 : TD := ⟨.int .u64, 1, 8, [(.p (.int .u64 0))]⟩
def td15 : TD := ⟨.ptr 130, 1, 8, [.nilp]⟩
def td16 : TD := ⟨.ptr 133, 1, 8, [.nilp]⟩
def td17 : TD := ⟨.ptr 142, 1, 8, [.nilp]⟩
def td21 : TD := ⟨.int .i32, 1, 4, [(.p (.int .i32 0))]⟩
def td22 : TD := ⟨.slice 76, 1, 24, [(.p .nil)]⟩
def td23 : TD := ⟨.slice 67, 1, 24, [(.p .nil)]⟩
def td24 : TD := ⟨.struct [(0, 3), (1, 3), (2, 22), (3, 23)], 4, 64, [(.p (.int .i64 0)), (.p (.int .i64 0)), (.p .nil), (.p .nil)]⟩
def td25 : TD := ⟨.struct [(0, 3), (1, 3), (2, 22), (3, 23)], 4, 64, [(.p (.int .i64 0)), (.p (.int .i64 0)), (.p .nil), (.p .nil)]⟩
def td26 : TD := ⟨.slice 22, 1, 24, [(.p .nil)]⟩
def td27 : TD := ⟨.func, 1, 8, [.nilfn]⟩
def td28 : TD := ⟨.func, 1, 8, [.nilfn]⟩
def td29 : TD := ⟨.slice 54, 1, 24, [(.p .nil)]⟩
def td31 : TD := ⟨.func, 1, 8, [.nilfn]⟩
def td32 : TD := ⟨.slice 79, 1, 24, [(.p .nil)]⟩
def td33 : TD := ⟨.struct [(0, 3), (1, 3), (2, 29), (3, 32)], 4, 64, [(.p (.int .i64 0)), (.p (.int .i64 0)), (.p .nil), (.p .nil)]⟩
def td34 : TD := ⟨.struct [(0, 3), (1, 3), (2, 29), (3, 32)], 4, 64, [(.p (.int .i64 0)), (.p (.int .i64 0)), (.p .nil), (.p .nil)]⟩
def td35 : TD := ⟨.func, 1, 8, [.nilfn]⟩
def td36 : TD := ⟨.slice 29, 1, 24, [(.p .nil)]⟩
def td37 : TD := ⟨.func, 1, 8, [.nilfn]⟩
def td38 : TD := ⟨.func, 1, 8, [.nilfn]⟩
def td39 : TD := ⟨.func, 1, 8, [.nilfn]⟩
def td40 : TD := ⟨.func, 1, 8, [.nilfn]⟩
def td41 : TD := ⟨.func, 1, 8, [.nilfn]⟩
def td42 : TD := ⟨.func, 1, 8, [.nilfn]⟩
def td43 : TD := ⟨.func, 1, 8, [.nilfn]⟩
def td44 : TD := ⟨.func, 1, 8, [.nilfn]⟩
def td45 : TD := ⟨.func, 1, 8, [.nilfn]⟩
def td46 : TD := ⟨.func, 1, 8, [.nilfn]⟩
def td47 : TD := ⟨.func, 1, 8, [.nilfn]⟩
def td48 : TD := ⟨.func, 1, 8, [.nilfn]⟩
def td49 : TD := ⟨.func, 1, 8, [.nilfn]⟩
def td50 : TD := ⟨.slice 52, 1, 24, [(.p .nil)]⟩
def td51 : TD := ⟨.func, 1, 8, [.nilfn]⟩
def td52 : TD := ⟨.int .u64, 1, 8, [(.p (.int .u64 0))]⟩
def td53 : TD := ⟨.struct [(0, 3), (1, 52)], 2, 16, [(.p (.int .i64 0)), (.p (.int .u64 0))]⟩
def td54 : TD := ⟨.struct [(0, 3), (1, 52)], 2, 16, [(.p (.int .i64 0)), (.p (.int .u64 0))]⟩
def td55 : TD := ⟨.func, 1, 8, [.nilfn]⟩
def td56 : TD := ⟨.func, 1, 8, [.nilfn]⟩
def td57 : TD := ⟨.func, 1, 8, [.nilfn]⟩
def td58 : TD := ⟨.func, 1, 8, [.nilfn]⟩
def td59 : TD := ⟨.func, 1, 8, [.nilfn]⟩
def td60 : TD := ⟨.func, 1, 8, [.nilfn]⟩
def td61 : TD := ⟨.func, 1, 8, [.nilfn]⟩
def td62 : TD := ⟨.func, 1, 8, [.nilfn]⟩
def td63 : TD := ⟨.func, 1, 8, [.nilfn]⟩
def td64 : TD := ⟨.func, 1, 8, [.nilfn]⟩
def td65 : TD := ⟨.slice 106, 1, 24, [(.p .nil)]⟩
def td66 : TD := ⟨.struct [(0, 22), (1, 65)], 2, 48, [(.p .nil), (.p .nil)]⟩
def td67 : TD := ⟨.struct [(0, 22), (1, 65)], 2, 48, [(.p .nil), (.p .nil)]⟩
def td68 : TD := ⟨.func, 1, 8, [.nilfn]⟩
def td69 : TD := ⟨.func, 1, 8, [.nilfn]⟩
def td70 : TD := ⟨.func, 1, 8, [.nilfn]⟩
def td71 : TD := ⟨.func, 1, 8, [.nilfn]⟩
def td72 : TD := ⟨.func, 1, 8, [.nilfn]⟩
def td73 : TD := ⟨.int .u64, 1, 8, [(.p (.int .u64 0))]⟩
def td74 : TD := ⟨.func, 1, 8, [.nilfn]⟩
def td75 : TD := ⟨.func, 1, 8, [.nilfn]⟩
def td76 : TD := ⟨.struct [(0, 3), (1, 52)], 2, 16, [(.p (.int .i64 0)), (.p (.int .u64 0))]⟩
def td77 : TD := ⟨.slice 103, 1, 24, [(.p .nil)]⟩
def td78 : TD := ⟨.struct [(0, 29), (1, 77)], 2, 48, [(.p .nil), (.p .nil)]⟩
def td79 : TD := ⟨.struct [(0, 29), (1, 77)], 2, 48, [(.p .nil), (.p .nil)]⟩
def td80 : TD := ⟨.func, 1, 8, [.nilfn]⟩
def td81 : TD := ⟨.func, 1, 8, [.nilfn]⟩
def td82 : TD := ⟨.func, 1, 8, [.nilfn]⟩
def td83 : TD := ⟨.func, 1, 8, [.nilfn]⟩
def td84 : TD := ⟨.func, 1, 8, [.nilfn]⟩
def td85 : TD := ⟨.func, 1, 8, [.nilfn]⟩
def td86 : TD := ⟨.func, 1, 8, [.nilfn]⟩
def td87 : TD := ⟨.func, 1, 8, [.nilfn]⟩
def td88 : TD := ⟨.func, 1, 8, [.nilfn]⟩
def td89 : TD := ⟨.func, 1, 8, [.nilfn]⟩
def td91 : TD := ⟨.func, 1, 8, [.nilfn]⟩
def td92 : TD := ⟨.func, 1, 8, [.nilfn]⟩
def td93 : TD := ⟨.func, 1, 8, [.nilfn]⟩
def td94 : TD := ⟨.func, 1, 8, [.nilfn]⟩
def td95 : TD := ⟨.func, 1, 8, [.nilfn]⟩
def td96 : TD := ⟨.func, 1, 8, [.nilfn]⟩
def td97 : TD := ⟨.func, 1, 8, [.nilfn]⟩
def td98 : TD := ⟨.slice 3, 1, 24, [(.p .nil)]⟩
def td99 : TD := ⟨.func, 1, 8, [.nilfn]⟩
def td100 : TD := ⟨.func, 1, 8, [.nilfn]⟩
def td101 : TD := ⟨.func, 1, 8, [.nilfn]⟩
def td102 : TD := ⟨.struct [(0, 3), (1, 29)], 2, 32, [(.p (.int .i64 0)), (.p .nil)]⟩
def td103 : TD := ⟨.struct [(0, 3), (1, 29)], 2, 32, [(.p (.int .i64 0)), (.p .nil)]⟩
def td104 : TD := ⟨.func, 1, 8, [.nilfn]⟩
def td105 : TD := ⟨.struct [(0, 3), (1, 22)], 2, 32, [(.p (.int .i64 0)), (.p .nil)]⟩
def td106 : TD := ⟨.struct [(0, 3), (1, 22)], 2, 32, [(.p (.int .i64 0)), (.p .nil)]⟩
def td107 : TD := ⟨.func, 1, 8, [.nilfn]⟩
def td109 : TD := ⟨.func, 1, 8, [.nilfn]⟩
def td110 : TD := ⟨.func, 1, 8, [.nilfn]⟩
def td111 : TD := ⟨.func, 1, 8, [.nilfn]⟩
def td112 : TD := ⟨.func, 1, 8, [.nilfn]⟩
def td113 : TD := ⟨.func, 1, 8, [.nilfn]⟩
def td114 : TD := ⟨.func, 1, 8, [.nilfn]⟩
def td115 : TD := ⟨.func, 1, 8, [.nilfn]⟩
def td116 : TD := ⟨.func, 1, 8, [.nilfn]⟩
def td117 : TD := ⟨.func, 1, 8, [.nilfn]⟩
def td118 : TD := ⟨.func, 1, 8, [.nilfn]⟩
def td119 : TD := ⟨.func, 1, 8, [.nilfn]⟩
def td120 : TD := ⟨.func, 1, 8, [.nilfn]⟩
def td121 : TD := ⟨.func, 1, 8, [.nilfn]⟩
def td123 : TD := ⟨.func, 1, 8, [.nilfn]⟩
def td126 : TD := ⟨.func, 1, 8, [.nilfn]⟩
def td127 : TD := ⟨.ptr 144, 1, 8, [.nilp]⟩
def td128 : TD := ⟨.func, 1, 8, [.nilfn]⟩
def td134 : TD := ⟨.int .u32, 1, 4, [(.p (.int .u32 0))]⟩
def td135 : TD := ⟨.int .u8, 1, 1, [(.p (.int .u8 0))]⟩
def td136 : TD := ⟨.int .u8, 1, 1, [(.p (.int .u8 0))]⟩
def td137 : TD := ⟨.func, 1, 8, [.nilfn]⟩
def td138 : TD := ⟨.ptr 5, 1, 8, [.nilp]⟩
def td139 : TD := ⟨.int .i32, 1, 4, [(.p (.int .i32 0))]⟩
def td140 : TD := ⟨.int .i32, 1, 4, [(.p (.int .i32 0))]⟩
def td143 : TD := ⟨.struct [(0, 9)], 1, 16, [(.p (.str ⟨#[]⟩))]⟩
def td144 : TD := ⟨.struct [(0, 9)], 1, 16, [(.p (.str ⟨#[]⟩))]⟩
def tabL : List (Nat × TD) := [(1, td1), (2, td2), (3, td3), (4, td4), (5, td5), (6, td6), (9, td9), (10, td10), (11, td11), (12, td12), (15, td15), (16, td16), (17, td17), (21, td21), (22, td22), (23, td23), (24, td24), (25, td25), (26, td26), (27, td27), (28, td28), (29, td29), (31, td31), (32, td32), (33, td33), (34, td34), (35, td35), (36, td36), (37, td37), (38, td38), (39, td39), (40, td40), (41, td41), (42, td42), (43, td43), (44, td44), (45, td45), (46, td46), (47, td47), (48, td48), (49, td49), (50, td50), (51, td51), (52, td52), (53, td53), (54, td54), (55, td55), (56, td56), (57, td57), (58, td58), (59, td59), (60, td60), (61, td61), (62, td62), (63, td63), (64, td64), (65, td65), (66, td66), (67, td67), (68, td68), (69, td69), (70, td70), (71, td71), (72, td72), (73, td73), (74, td74), (75, td75), (76, td76), (77, td77), (78, td78), (79, td79), (80, td80), (81, td81), (82, td82), (83, td83), (84, td84), (85, td85), (86, td86), (87, td87), (88, td88), (89, td89), (91, td91), (92, td92), (93, td93), (94, td94), (95, td95), (96, td96), (97, td97), (98, td98), (99, td99), (100, td100), (101, td101), (102, td102), (103, td103), (104, td104), (105, td105), (106, td106), (107, td107), (109, td109), (110, td110), (111, td111), (112, td112), (113, td113), (114, td114), (115, td115), (116, td116), (117, td117), (118, td118), (119, td119), (120, td120), (121, td121), (123, td123), (126, td126), (127, td127), (128, td128), (134, td134), (135, td135), (136, td136), (137, td137), (138, td138), (139, td139), (140, td140), (143, td143), (144, td144)]
def tab : Tab := fun t => (tabL.find? (fun p => p.1 == t)).map (·.2)
theorem tab_1 : tab 1 = some ⟨.func, 1, 8, [.nilfn]⟩ := rfl
theorem tab_2 : tab 2 = some ⟨.int .i64, 1, 8, [(.p (.int .i64 0))]⟩ := rfl
theorem tab_3 : tab 3 = some ⟨.int .i64, 1, 8, [(.p (.int .i64 0))]⟩ := rfl
theorem tab_4 : tab 4 = some ⟨.bool, 1, 1, [(.p (.bool false))]⟩ := rfl
theorem tab_5 : tab 5 = some ⟨.int .u8, 1, 1, [(.p (.int .u8 0))]⟩ := rfl
theorem tab_6 : tab 6 = some ⟨.int .u8, 1, 1, [(.p (.int .u8 0))]⟩ := rfl
theorem tab_9 : tab 9 = some ⟨.str, 1, 16, [(.p (.str ⟨#[]⟩))]⟩ := rfl
theorem tab_10 : tab 10 = some ⟨.str, 1, 16, [(.p (.str ⟨#[]⟩))]⟩ := rfl
theorem tab_11 : tab 11 = some ⟨.str, 1, 16, [(.p (.str ⟨#[]⟩))]⟩ := rfl
theorem tab_12 : tab 12 = some ⟨.int .u64, 1, 8, [(.p (.int .u64 0))]⟩ := rfl
theorem tab_15 : tab 15 = some ⟨.ptr 130, 1, 8, [.nilp]⟩ := rfl
theorem tab_16 : tab 16 = some ⟨.ptr 133, 1, 8, [.nilp]⟩ := rfl
theorem tab_17 : tab 17 = some ⟨.ptr 142, 1, 8, [.nilp]⟩ := rfl
theorem tab_21 : tab 21 = some ⟨.int .i32, 1, 4, [(.p (.int .i32 0))]⟩ := rfl
theorem tab_22 : tab 22 = some ⟨.slice 76, 1, 24, [(.p .nil)]⟩ := rfl
theorem tab_23 : tab 23 = some ⟨.slice 67, 1, 24, [(.p .nil)]⟩ := rfl
theorem tab_24 : tab 24 = some ⟨.struct [(0, 3), (1, 3), (2, 22), (3, 23)], 4, 64, [(.p (.int .i64 0)), (.p (.int .i64 0)), (.p .nil), (.p .nil)]⟩ := rfl
theorem tab_25 : tab 25 = some ⟨.struct [(0, 3), (1, 3), (2, 22), (3, 23)], 4, 64, [(.p (.int .i64 0)), (.p (.int .i64 0)), (.p .nil), (.p .nil)]⟩ := rfl
theorem tab_26 : tab 26 = some ⟨.slice 22, 1, 24, [(.p .nil)]⟩ := rfl
theorem tab_27 : tab 27 = some ⟨.func, 1, 8, [.nilfn]⟩ := rfl
theorem tab_28 : tab 28 = some ⟨.func, 1, 8, [.nilfn]⟩ := rfl
theorem tab_29 : tab 29 = some ⟨.slice 54, 1, 24, [(.p .nil)]⟩ := rfl
theorem tab_31 : tab 31 = some ⟨.func, 1, 8, [.nilfn]⟩ := rfl
theorem tab_32 : tab 32 = some ⟨.slice 79, 1, 24, [(.p .nil)]⟩ := rfl
theorem tab_33 : tab 33 = some ⟨.struct [(0, 3), (1, 3), (2, 29), (3, 32)], 4, 64, [(.p (.int .i64 0)), (.p (.int .i64 0)), (.p .nil), (.p .nil)]⟩ := rfl
theorem tab_34 : tab 34 = some ⟨.struct [(0, 3), (1, 3), (2, 29), (3, 32)], 4, 64, [(.p (.int .i64 0)), (.p (.int .i64 0)), (.p .nil), (.p .nil)]⟩ := rfl
theorem tab_35 : tab 35 = some ⟨.func, 1, 8, [.nilfn]⟩ := rfl
theorem tab_36 : tab 36 = some ⟨.slice 29, 1, 24, [(.p .nil)]⟩ := rfl
theorem tab_37 : tab 37 = some ⟨.func, 1, 8, [.nilfn]⟩ := rfl
theorem tab_38 : tab 38 = some ⟨.func, 1, 8, [.nilfn]⟩ := rfl
theorem tab_39 : tab 39 = some ⟨.func, 1, 8, [.nilfn]⟩ := rfl
theorem tab_40 : tab 40 = some ⟨.func, 1, 8, [.nilfn]⟩ := rfl
theorem tab_41 : tab 41 = some ⟨.func, 1, 8, [.nilfn]⟩ := rfl
theorem tab_42 : tab 42 = some ⟨.func, 1, 8, [.nilfn]⟩ := rfl
theorem tab_43 : tab 43 = some ⟨.func, 1, 8, [.nilfn]⟩ := rfl
theorem tab_44 : tab 44 = some ⟨.func, 1, 8, [.nilfn]⟩ := rfl
theorem tab_45 : tab 45 = some ⟨.func, 1, 8, [.nilfn]⟩ := rfl
theorem tab_46 : tab 46 = some ⟨.func, 1, 8, [.nilfn]⟩ := rfl
theorem tab_47 : tab 47 = some ⟨.func, 1, 8, [.nilfn]⟩ := rfl
theorem tab_48 : tab 48 = some ⟨.func, 1, 8, [.nilfn]⟩ := rfl
theorem tab_49 : tab 49 = some ⟨.func, 1, 8, [.nilfn]⟩ := rfl
theorem tab_50 : tab 50 = some ⟨.slice 52, 1, 24, [(.p .nil)]⟩ := rfl
theorem tab_51 : tab 51 = some ⟨.func, 1, 8, [.nilfn]⟩ := rfl
theorem tab_52 : tab 52 = some ⟨.int .u64, 1, 8, [(.p (.int .u64 0))]⟩ := rfl
theorem tab_53 : tab 53 = some ⟨.struct [(0, 3), (1, 52)], 2, 16, [(.p (.int .i64 0)), (.p (.int .u64 0))]⟩ := rfl
theorem tab_54 : tab 54 = some ⟨.struct [(0, 3), (1, 52)], 2, 16, [(.p (.int .i64 0)), (.p (.int .u64 0))]⟩ := rfl
theorem tab_55 : tab 55 = some ⟨.func, 1, 8, [.nilfn]⟩ := rfl
theorem tab_56 : tab 56 = some ⟨.func, 1, 8, [.nilfn]⟩ := rfl
theorem tab_57 : tab 57 = some ⟨.func, 1, 8, [.nilfn]⟩ := rfl
theorem tab_58 : tab 58 = some ⟨.func, 1, 8, [.nilfn]⟩ := rfl
theorem tab_59 : tab 59 = some ⟨.func, 1, 8, [.nilfn]⟩ := rfl
theorem tab_60 : tab 60 = some ⟨.func, 1, 8, [.nilfn]⟩ := rfl
theorem tab_61 : tab 61 = some ⟨.func, 1, 8, [.nilfn]⟩ := rfl
theorem tab_62 : tab 62 = some ⟨.func, 1, 8, [.nilfn]⟩ := rfl
theorem tab_63 : tab 63 = some ⟨.func, 1, 8, [.nilfn]⟩ := rfl
theorem tab_64 : tab 64 = some ⟨.func, 1, 8, [.nilfn]⟩ := rfl
theorem tab_65 : tab 65 = some ⟨.slice 106, 1, 24, [(.p .nil)]⟩ := rfl
theorem tab_66 : tab 66 = some ⟨.struct [(0, 22), (1, 65)], 2, 48, [(.p .nil), (.p .nil)]⟩ := rfl
theorem tab_67 : tab 67 = some ⟨.struct [(0, 22), (1, 65)], 2, 48, [(.p .nil), (.p .nil)]⟩ := rfl
theorem tab_68 : tab 68 = some ⟨.func, 1, 8, [.nilfn]⟩ := rfl
theorem tab_69 : tab 69 = some ⟨.func, 1, 8, [.nilfn]⟩ := rfl
theorem tab_70 : tab 70 = some ⟨.func, 1, 8, [.nilfn]⟩ := rfl
theorem tab_71 : tab 71 = some ⟨.func, 1, 8, [.nilfn]⟩ := rfl
theorem tab_72 : tab 72 = some ⟨.func, 1, 8, [.nilfn]⟩ := rfl
theorem tab_73 : tab 73 = some ⟨.int .u64, 1, 8, [(.p (.int .u64 0))]⟩ := rfl
theorem tab_74 : tab 74 = some ⟨.func, 1, 8, [.nilfn]⟩ := rfl
theorem tab_75 : tab 75 = some ⟨.func, 1, 8, [.nilfn]⟩ := rfl
theorem tab_76 : tab 76 = some ⟨.struct [(0, 3), (1, 52)], 2, 16, [(.p (.int .i64 0)), (.p (.int .u64 0))]⟩ := rfl
theorem tab_77 : tab 77 = some ⟨.slice 103, 1, 24, [(.p .nil)]⟩ := rfl
theorem tab_78 : tab 78 = some ⟨.struct [(0, 29), (1, 77)], 2, 48, [(.p .nil), (.p .nil)]⟩ := rfl
theorem tab_79 : tab 79 = some ⟨.struct [(0, 29), (1, 77)], 2, 48, [(.p .nil), (.p .nil)]⟩ := rfl
theorem tab_80 : tab 80 = some ⟨.func, 1, 8, [.nilfn]⟩ := rfl
theorem tab_81 : tab 81 = some ⟨.func, 1, 8, [.nilfn]⟩ := rfl
theorem tab_82 : tab 82 = some ⟨.func, 1, 8, [.nilfn]⟩ := rfl
theorem tab_83 : tab 83 = some ⟨.func, 1, 8, [.nilfn]⟩ := rfl
theorem tab_84 : tab 84 = some ⟨.func, 1, 8, [.nilfn]⟩ := rfl
theorem tab_85 : tab 85 = some ⟨.func, 1, 8, [.nilfn]⟩ := rfl
theorem tab_86 : tab 86 = some ⟨.func, 1, 8, [.nilfn]⟩ := rfl
theorem tab_87 : tab 87 = some ⟨.func, 1, 8, [.nilfn]⟩ := rfl
theorem tab_88 : tab 88 = some ⟨.func, 1, 8, [.nilfn]⟩ := rfl
theorem tab_89 : tab 89 = some ⟨.func, 1, 8, [.nilfn]⟩ := rfl
theorem tab_91 : tab 91 = some ⟨.func, 1, 8, [.nilfn]⟩ := rfl
theorem tab_92 : tab 92 = some ⟨.func, 1, 8, [.nilfn]⟩ := rfl
theorem tab_93 : tab 93 = some ⟨.func, 1, 8, [.nilfn]⟩ := rfl
theorem tab_94 : tab 94 = some ⟨.func, 1, 8, [.nilfn]⟩ := rfl
theorem tab_95 : tab 95 = some ⟨.func, 1, 8, [.nilfn]⟩ := rfl
theorem tab_96 : tab 96 = some ⟨.func, 1, 8, [.nilfn]⟩ := rfl
theorem tab_97 : tab 97 = some ⟨.func, 1, 8, [.nilfn]⟩ := rfl
theorem tab_98 : tab 98 = some ⟨.slice 3, 1, 24, [(.p .nil)]⟩ := rfl
theorem tab_99 : tab 99 = some ⟨.func, 1, 8, [.nilfn]⟩ := rfl
theorem tab_100 : tab 100 = some ⟨.func, 1, 8, [.nilfn]⟩ := rfl
theorem tab_101 : tab 101 = some ⟨.func, 1, 8, [.nilfn]⟩ := rfl
theorem tab_102 : tab 102 = some ⟨.struct [(0, 3), (1, 29)], 2, 32, [(.p (.int .i64 0)), (.p .nil)]⟩ := rfl
theorem tab_103 : tab 103 = some ⟨.struct [(0, 3), (1, 29)], 2, 32, [(.p (.int .i64 0)), (.p .nil)]⟩ := rfl
theorem tab_104 : tab 104 = some ⟨.func, 1, 8, [.nilfn]⟩ := rfl
theorem tab_105 : tab 105 = some ⟨.struct [(0, 3), (1, 22)], 2, 32, [(.p (.int .i64 0)), (.p .nil)]⟩ := rfl
theorem tab_106 : tab 106 = some ⟨.struct [(0, 3), (1, 22)], 2, 32, [(.p (.int .i64 0)), (.p .nil)]⟩ := rfl
theorem tab_107 : tab 107 = some ⟨.func, 1, 8, [.nilfn]⟩ := rfl
theorem tab_109 : tab 109 = some ⟨.func, 1, 8, [.nilfn]⟩ := rfl
theorem tab_110 : tab 110 = some ⟨.func, 1, 8, [.nilfn]⟩ := rfl
theorem tab_111 : tab 111 = some ⟨.func, 1, 8, [.nilfn]⟩ := rfl
theorem tab_112 : tab 112 = some ⟨.func, 1, 8, [.nilfn]⟩ := rfl
theorem tab_113 : tab 113 = some ⟨.func, 1, 8, [.nilfn]⟩ := rfl
theorem tab_114 : tab 114 = some ⟨.func, 1, 8, [.nilfn]⟩ := rfl
theorem tab_115 : tab 115 = some ⟨.func, 1, 8, [.nilfn]⟩ := rfl
theorem tab_116 : tab 116 = some ⟨.func, 1, 8, [.nilfn]⟩ := rfl
theorem tab_117 : tab 117 = some ⟨.func, 1, 8, [.nilfn]⟩ := rfl
theorem tab_118 : tab 118 = some ⟨.func, 1, 8, [.nilfn]⟩ := rfl
theorem tab_119 : tab 119 = some ⟨.func, 1, 8, [.nilfn]⟩ := rfl
theorem tab_120 : tab 120 = some ⟨.func, 1, 8, [.nilfn]⟩ := rfl
theorem tab_121 : tab 121 = some ⟨.func, 1, 8, [.nilfn]⟩ := rfl
theorem tab_123 : tab 123 = some ⟨.func, 1, 8, [.nilfn]⟩ := rfl
theorem tab_126 : tab 126 = some ⟨.func, 1, 8, [.nilfn]⟩ := rfl
theorem tab_127 : tab 127 = some ⟨.ptr 144, 1, 8, [.nilp]⟩ := rfl
theorem tab_128 : tab 128 = some ⟨.func, 1, 8, [.nilfn]⟩ := rfl
theorem tab_134 : tab 134 = some ⟨.int .u32, 1, 4, [(.p (.int .u32 0))]⟩ := rfl
theorem tab_135 : tab 135 = some ⟨.int .u8, 1, 1, [(.p (.int .u8 0))]⟩ := rfl
theorem tab_136 : tab 136 = some ⟨.int .u8, 1, 1, [(.p (.int .u8 0))]⟩ := rfl
theorem tab_137 : tab 137 = some ⟨.func, 1, 8, [.nilfn]⟩ := rfl
theorem tab_138 : tab 138 = some ⟨.ptr 5, 1, 8, [.nilp]⟩ := rfl
theorem tab_139 : tab 139 = some ⟨.int .i32, 1, 4, [(.p (.int .i32 0))]⟩ := rfl
theorem tab_140 : tab 140 = some ⟨.int .i32, 1, 4, [(.p (.int .i32 0))]⟩ := rfl
theorem tab_143 : tab 143 = some ⟨.struct [(0, 9)], 1, 16, [(.p (.str ⟨#[]⟩))]⟩ := rfl
theorem tab_144 : tab 144 = some ⟨.struct [(0, 9)], 1, 16, [(.p (.str ⟨#[]⟩))]⟩ := rfl
set_option maxRecDepth 100000 in
theorem tabs : tab 1 = some ⟨.func, 1, 8, [.nilfn]⟩ ∧ tab 2 = some ⟨.int .i64, 1, 8, [(.p (.int .i64 0))]⟩ ∧ tab 3 = some ⟨.int .i64, 1, 8, [(.p (.int .i64 0))]⟩ ∧ tab 4 = some ⟨.bool, 1, 1, [(.p (.bool false))]⟩ ∧ tab 5 = some ⟨.int .u8, 1, 1, [(.p (.int .u8 0))]⟩ ∧ tab 6 = some ⟨.int .u8, 1, 1, [(.p (.int .u8 0))]⟩ ∧ tab 9 = some ⟨.str, 1, 16, [(.p (.str ⟨#[]⟩))]⟩ ∧ tab 10 = some ⟨.str, 1, 16, [(.p (.str ⟨#[]⟩))]⟩ ∧ tab 11 = some ⟨.str, 1, 16, [(.p (.str ⟨#[]⟩))]⟩ ∧ tab 12 = some ⟨.int .u64, 1, 8, [(.p (.int .u64 0))]⟩ ∧ tab 15 = some ⟨.ptr 130, 1, 8, [.nilp]⟩ ∧ tab 16 = some ⟨.ptr 133, 1, 8, [.nilp]⟩ ∧ tab 17 = some ⟨.ptr 142, 1, 8, [.nilp]⟩ ∧ tab 21 = some ⟨.int .i32, 1, 4, [(.p (.int .i32 0))]⟩ ∧ tab 22 = some ⟨.slice 76, 1, 24, [(.p .nil)]⟩ ∧ tab 23 = some ⟨.slice 67, 1, 24, [(.p .nil)]⟩ ∧ tab 24 = some ⟨.struct [(0, 3), (1, 3), (2, 22), (3, 23)], 4, 64, [(.p (.int .i64 0)), (.p (.int .i64 0)), (.p .nil), (.p .nil)]⟩ ∧ tab 25 = some ⟨.struct [(0, 3), (1, 3), (2, 22), (3, 23)], 4, 64, [(.p (.int .i64 0)), (.p (.int .i64 0)), (.p .nil), (.p .nil)]⟩ ∧ tab 26 = some ⟨.slice 22, 1, 24, [(.p .nil)]⟩ ∧ tab 27 = some ⟨.func, 1, 8, [.nilfn]⟩ ∧ tab 28 = some ⟨.func, 1, 8, [.nilfn]⟩ ∧ tab 29 = some ⟨.slice 54, 1, 24, [(.p .nil)]⟩ ∧ tab 31 = some ⟨.func, 1, 8, [.nilfn]⟩ ∧ tab 32 = some ⟨.slice 79, 1, 24, [(.p .nil)]⟩ ∧ tab 33 = some ⟨.struct [(0, 3), (1, 3), (2, 29), (3, 32)], 4, 64, [(.p (.int .i64 0)), (.p (.int .i64 0)), (.p .nil), (.p .nil)]⟩ ∧ tab 34 = some ⟨.struct [(0, 3), (1, 3), (2, 29), (3, 32)], 4, 64, [(.p (.int .i64 0)), (.p (.int .i64 0)), (.p .nil), (.p .nil)]⟩ ∧ tab 35 = some ⟨.func, 1, 8, [.nilfn]⟩ ∧ tab 36 = some ⟨.slice 29, 1, 24, [(.p .nil)]⟩ ∧ tab 37 = some ⟨.func, 1, 8, [.nilfn]⟩ ∧ tab 38 = some ⟨.func, 1, 8, [.nilfn]⟩ ∧ tab 39 = some ⟨.func, 1, 8, [.nilfn]⟩ ∧ tab 40 = some ⟨.func, 1, 8, [.nilfn]⟩ ∧ tab 41 = some ⟨.func, 1, 8, [.nilfn]⟩ ∧ tab 42 = some ⟨.func, 1, 8, [.nilfn]⟩ ∧ tab 43 = some ⟨.func, 1, 8, [.nilfn]⟩ ∧ tab 44 = some ⟨.func, 1, 8, [.nilfn]⟩ ∧ tab 45 = some ⟨.func, 1, 8, [.nilfn]⟩ ∧ tab 46 = some ⟨.func, 1, 8, [.nilfn]⟩ ∧ tab 47 = some ⟨.func, 1, 8, [.nilfn]⟩ ∧ tab 48 = some ⟨.func, 1, 8, [.nilfn]⟩ ∧ tab 49 = some ⟨.func, 1, 8, [.nilfn]⟩ ∧ tab 50 = some ⟨.slice 52, 1, 24, [(.p .nil)]⟩ ∧ tab 51 = some ⟨.func, 1, 8, [.nilfn]⟩ ∧ tab 52 = some ⟨.int .u64, 1, 8, [(.p (.int .u64 0))]⟩ ∧ tab 53 = some ⟨.struct [(0, 3), (1, 52)], 2, 16, [(.p (.int .i64 0)), (.p (.int .u64 0))]⟩ ∧ tab 54 = some ⟨.struct [(0, 3), (1, 52)], 2, 16, [(.p (.int .i64 0)), (.p (.int .u64 0))]⟩ ∧ tab 55 = some ⟨.func, 1, 8, [.nilfn]⟩ ∧ tab 56 = some ⟨.func, 1, 8, [.nilfn]⟩ ∧ tab 57 = some ⟨.func, 1, 8, [.nilfn]⟩ ∧ tab 58 = some ⟨.func, 1, 8, [.nilfn]⟩ ∧ tab 59 = some ⟨.func, 1, 8, [.nilfn]⟩ ∧ tab 60 = some ⟨.func, 1, 8, [.nilfn]⟩ ∧ tab 61 = some ⟨.func, 1, 8, [.nilfn]⟩ ∧ tab 62 = some ⟨.func, 1, 8, [.nilfn]⟩ ∧ tab 63 = some ⟨.func, 1, 8, [.nilfn]⟩ ∧ tab 64 = some ⟨.func, 1, 8, [.nilfn]⟩ ∧ tab 65 = some ⟨.slice 106, 1, 24, [(.p .nil)]⟩ ∧ tab 66 = some ⟨.struct [(0, 22), (1, 65)], 2, 48, [(.p .nil), (.p .nil)]⟩ ∧ tab 67 = some ⟨.struct [(0, 22), (1, 65)], 2, 48, [(.p .nil), (.p .nil)]⟩ ∧ tab 68 = some ⟨.func, 1, 8, [.nilfn]⟩ ∧ tab 69 = some ⟨.func, 1, 8, [.nilfn]⟩ ∧ tab 70 = some ⟨.func, 1, 8, [.nilfn]⟩ ∧ tab 71 = some ⟨.func, 1, 8, [.nilfn]⟩ ∧ tab 72 = some ⟨.func, 1, 8, [.nilfn]⟩ ∧ tab 73 = some ⟨.int .u64, 1, 8, [(.p (.int .u64 0))]⟩ ∧ tab 74 = some ⟨.func, 1, 8, [.nilfn]⟩ ∧ tab 75 = some ⟨.func, 1, 8, [.nilfn]⟩ ∧ tab 76 = some ⟨.struct [(0, 3), (1, 52)], 2, 16, [(.p (.int .i64 0)), (.p (.int .u64 0))]⟩ ∧ tab 77 = some ⟨.slice 103, 1, 24, [(.p .nil)]⟩ ∧ tab 78 = some ⟨.struct [(0, 29), (1, 77)], 2, 48, [(.p .nil), (.p .nil)]⟩ ∧ tab 79 = some ⟨.struct [(0, 29), (1, 77)], 2, 48, [(.p .nil), (.p .nil)]⟩ ∧ tab 80 = some ⟨.func, 1, 8, [.nilfn]⟩ ∧ tab 81 = some ⟨.func, 1, 8, [.nilfn]⟩ ∧ tab 82 = some ⟨.func, 1, 8, [.nilfn]⟩ ∧ tab 83 = some ⟨.func, 1, 8, [.nilfn]⟩ ∧ tab 84 = some ⟨.func, 1, 8, [.nilfn]⟩ ∧ tab 85 = some ⟨.func, 1, 8, [.nilfn]⟩ ∧ tab 86 = some ⟨.func, 1, 8, [.nilfn]⟩ ∧ tab 87 = some ⟨.func, 1, 8, [.nilfn]⟩ ∧ tab 88 = some ⟨.func, 1, 8, [.nilfn]⟩ ∧ tab 89 = some ⟨.func, 1, 8, [.nilfn]⟩ ∧ tab 91 = some ⟨.func, 1, 8, [.nilfn]⟩ ∧ tab 92 = some ⟨.func, 1, 8, [.nilfn]⟩ ∧ tab 93 = some ⟨.func, 1, 8, [.nilfn]⟩ ∧ tab 94 = some ⟨.func, 1, 8, [.nilfn]⟩ ∧ tab 95 = some ⟨.func, 1, 8, [.nilfn]⟩ ∧ tab 96 = some ⟨.func, 1, 8, [.nilfn]⟩ ∧ tab 97 = some ⟨.func, 1, 8, [.nilfn]⟩ ∧ tab 98 = some ⟨.slice 3, 1, 24, [(.p .nil)]⟩ ∧ tab 99 = some ⟨.func, 1, 8, [.nilfn]⟩ ∧ tab 100 = some ⟨.func, 1, 8, [.nilfn]⟩ ∧ tab 101 = some ⟨.func, 1, 8, [.nilfn]⟩ ∧ tab 102 = some ⟨.struct [(0, 3), (1, 29)], 2, 32, [(.p (.int .i64 0)), (.p .nil)]⟩ ∧ tab 103 = some ⟨.struct [(0, 3), (1, 29)], 2, 32, [(.p (.int .i64 0)), (.p .nil)]⟩ ∧ tab 104 = some ⟨.func, 1, 8, [.nilfn]⟩ ∧ tab 105 = some ⟨.struct [(0, 3), (1, 22)], 2, 32, [(.p (.int .i64 0)), (.p .nil)]⟩ ∧ tab 106 = some ⟨.struct [(0, 3), (1, 22)], 2, 32, [(.p (.int .i64 0)), (.p .nil)]⟩ ∧ tab 107 = some ⟨.func, 1, 8, [.nilfn]⟩ ∧ tab 109 = some ⟨.func, 1, 8, [.nilfn]⟩ ∧ tab 110 = some ⟨.func, 1, 8, [.nilfn]⟩ ∧ tab 111 = some ⟨.func, 1, 8, [.nilfn]⟩ ∧ tab 112 = some ⟨.func, 1, 8, [.nilfn]⟩ ∧ tab 113 = some ⟨.func, 1, 8, [.nilfn]⟩ ∧ tab 114 = some ⟨.func, 1, 8, [.nilfn]⟩ ∧ tab 115 = some ⟨.func, 1, 8, [.nilfn]⟩ ∧ tab 116 = some ⟨.func, 1, 8, [.nilfn]⟩ ∧ tab 117 = some ⟨.func, 1, 8, [.nilfn]⟩ ∧ tab 118 = some ⟨.func, 1, 8, [.nilfn]⟩ ∧ tab 119 = some ⟨.func, 1, 8, [.nilfn]⟩ ∧ tab 120 = some ⟨.func, 1, 8, [.nilfn]⟩ ∧ tab 121 = some ⟨.func, 1, 8, [.nilfn]⟩ ∧ tab 123 = some ⟨.func, 1, 8, [.nilfn]⟩ ∧ tab 126 = some ⟨.func, 1, 8, [.nilfn]⟩ ∧ tab 127 = some ⟨.ptr 144, 1, 8, [.nilp]⟩ ∧ tab 128 = some ⟨.func, 1, 8, [.nilfn]⟩ ∧ tab 134 = some ⟨.int .u32, 1, 4, [(.p (.int .u32 0))]⟩ ∧ tab 135 = some ⟨.int .u8, 1, 1, [(.p (.int .u8 0))]⟩ ∧ tab 136 = some ⟨.int .u8, 1, 1, [(.p (.int .u8 0))]⟩ ∧ tab 137 = some ⟨.func, 1, 8, [.nilfn]⟩ ∧ tab 138 = some ⟨.ptr 5, 1, 8, [.nilp]⟩ ∧ tab 139 = some ⟨.int .i32, 1, 4, [(.p (.int .i32 0))]⟩ ∧ tab 140 = some ⟨.int .i32, 1, 4, [(.p (.int .i32 0))]⟩ ∧ tab 143 = some ⟨.struct [(0, 9)], 1, 16, [(.p (.str ⟨#[]⟩))]⟩ ∧ tab 144 = some ⟨.struct [(0, 9)], 1, 16, [(.p (.str ⟨#[]⟩))]⟩ := ⟨tab_1, tab_2, tab_3, tab_4, tab_5, tab_6, tab_9, tab_10, tab_11, tab_12, tab_15, tab_16, tab_17, tab_21, tab_22, tab_23, tab_24, tab_25, tab_26, tab_27, tab_28, tab_29, tab_31, tab_32, tab_33, tab_34, tab_35, tab_36, tab_37, tab_38, tab_39, tab_40, tab_41, tab_42, tab_43, tab_44, tab_45, tab_46, tab_47, tab_48, tab_49, tab_50, tab_51, tab_52, tab_53, tab_54, tab_55, tab_56, tab_57, tab_58, tab_59, tab_60, tab_61, tab_62, tab_63, tab_64, tab_65, tab_66, tab_67, tab_68, tab_69, tab_70, tab_71, tab_72, tab_73, tab_74, tab_75, tab_76, tab_77, tab_78, tab_79, tab_80, tab_81, tab_82, tab_83, tab_84, tab_85, tab_86, tab_87, tab_88, tab_89, tab_91, tab_92, tab_93, tab_94, tab_95, tab_96, tab_97, tab_98, tab_99, tab_100, tab_101, tab_102, tab_103, tab_104, tab_105, tab_106, tab_107, tab_109, tab_110, tab_111, tab_112, tab_113, tab_114, tab_115, tab_116, tab_117, tab_118, tab_119, tab_120, tab_121, tab_123, tab_126, tab_127, tab_128, tab_134, tab_135, tab_136, tab_137, tab_138, tab_139, tab_140, tab_143, tab_144⟩
theorem info1 : (Try.prog.info? 1).map (fun i => (i.zero, i.size, i.bytes)) = some (some .nilFunc, 1, 8) := by kernel_rfl
theorem td1_ok : TD.Ok Try.prog 1 td1 := TD.Ok.of ⟨_, _, _, Try.underlying1⟩ info1 rfl rfl (by decide) (fun _ => rfl)
theorem info2 : (Try.prog.info? 2).map (fun i => (i.zero, i.size, i.bytes)) = some (some (.int .i64 0), 1, 8) := by kernel_rfl
theorem td2_ok : TD.Ok Try.prog 2 td2 := TD.Ok.of Try.underlying2 info2 rfl rfl (by decide) (fun _ => rfl)
theorem info3 : (Try.prog.info? 3).map (fun i => (i.zero, i.size, i.bytes)) = some (some (.int .i64 0), 1, 8) := by kernel_rfl
theorem td3_ok : TD.Ok Try.prog 3 td3 := TD.Ok.of Try.underlying3 info3 rfl rfl (by decide) (fun _ => rfl)
theorem info4 : (Try.prog.info? 4).map (fun i => (i.zero, i.size, i.bytes)) = some (some (.bool false), 1, 1) := by kernel_rfl
theorem td4_ok : TD.Ok Try.prog 4 td4 := TD.Ok.of Try.underlying4 info4 rfl rfl (by decide) (fun _ => rfl)
theorem info5 : (Try.prog.info? 5).map (fun i => (i.zero, i.size, i.bytes)) = some (some (.int .u8 0), 1, 1) := by kernel_rfl
theorem td5_ok : TD.Ok Try.prog 5 td5 := TD.Ok.of Try.underlying5 info5 rfl rfl (by decide) (fun _ => rfl)
theorem info6 : (Try.prog.info? 6).map (fun i => (i.zero, i.size, i.bytes)) = some (some (.int .u8 0), 1, 1) := by kernel_rfl
theorem td6_ok : TD.Ok Try.prog 6 td6 := TD.Ok.of Try.underlying6 info6 rfl rfl (by decide) (fun _ => rfl)
theorem info9 : (Try.prog.info? 9).map (fun i => (i.zero, i.size, i.bytes)) = some (some (.string ⟨#[]⟩), 1, 16) := by kernel_rfl
theorem td9_ok : TD.Ok Try.prog 9 td9 := TD.Ok.of Try.underlying9 info9 rfl rfl (by decide) (fun _ => rfl)
theorem info10 : (Try.prog.info? 10).map (fun i => (i.zero, i.size, i.bytes)) = some (some (.string ⟨#[]⟩), 1, 16) := by kernel_rfl
theorem td10_ok : TD.Ok Try.prog 10 td10 := TD.Ok.of Try.underlying10 info10 rfl rfl (by decide) (fun _ => rfl)
theorem info11 : (Try.prog.info? 11).map (fun i => (i.zero, i.size, i.bytes)) = some (some (.string ⟨#[]⟩), 1, 16) := by kernel_rfl
theorem td11_ok : TD.Ok Try.prog 11 td11 := TD.Ok.of Try.underlying11 info11 rfl rfl (by decide) (fun _ => rfl)
theorem info12 : (Try.prog.info? 12).map (fun i => (i.zero, i.size, i.bytes)) = some (some (.int .u64 0), 1, 8) := by kernel_rfl
theorem td12_ok : TD.Ok Try.prog 12 td12 := TD.Ok.of Try.underlying12 info12 rfl rfl (by decide) (fun _ => rfl)
theorem info15 : (Try.prog.info? 15).map (fun i => (i.zero, i.size, i.bytes)) = some (some (.pointer none), 1, 8) := by kernel_rfl
theorem td15_ok : TD.Ok Try.prog 15 td15 := TD.Ok.of Try.underlying15 info15 rfl rfl (by decide) (fun _ => rfl)
theorem info16 : (Try.prog.info? 16).map (fun i => (i.zero, i.size, i.bytes)) = some (some (.pointer none), 1, 8) := by kernel_rfl
theorem td16_ok : TD.Ok Try.prog 16 td16 := TD.Ok.of Try.underlying16 info16 rfl rfl (by decide) (fun _ => rfl)
theorem info17 : (Try.prog.info? 17).map (fun i => (i.zero, i.size, i.bytes)) = some (some (.pointer none), 1, 8) := by kernel_rfl
theorem td17_ok : TD.Ok Try.prog 17 td17 := TD.Ok.of Try.underlying17 info17 rfl rfl (by decide) (fun _ => rfl)
theorem info21 : (Try.prog.info? 21).map (fun i => (i.zero, i.size, i.bytes)) = some (some (.int .i32 0), 1, 4) := by kernel_rfl
theorem td21_ok : TD.Ok Try.prog 21 td21 := TD.Ok.of Try.underlying21 info21 rfl rfl (by decide) (fun _ => rfl)
theorem info22 : (Try.prog.info? 22).map (fun i => (i.zero, i.size, i.bytes)) = some (some (.slice none 0 0), 1, 24) := by kernel_rfl
theorem td22_ok : TD.Ok Try.prog 22 td22 := TD.Ok.of Try.underlying22 info22 rfl rfl (by decide) (fun _ => rfl)
theorem info23 : (Try.prog.info? 23).map (fun i => (i.zero, i.size, i.bytes)) = some (some (.slice none 0 0), 1, 24) := by kernel_rfl
theorem td23_ok : TD.Ok Try.prog 23 td23 := TD.Ok.of Try.underlying23 info23 rfl rfl (by decide) (fun _ => rfl)
theorem info24 : (Try.prog.info? 24).map (fun i => (i.zero, i.size, i.bytes)) = some (some (.agg #[(.int .i64 0), (.int .i64 0), (.slice none 0 0), (.slice none 0 0)]), 4, 64) := by kernel_rfl
theorem td24_ok : TD.Ok Try.prog 24 td24 := TD.Ok.of ⟨_, Try.underlying24, rfl, Try.stoodInHeld24, Try.eqGuardType24, by decide⟩ info24 rfl rfl (by decide) (fun h => by cases h)
theorem info25 : (Try.prog.info? 25).map (fun i => (i.zero, i.size, i.bytes)) = some (some (.agg #[(.int .i64 0), (.int .i64 0), (.slice none 0 0), (.slice none 0 0)]), 4, 64) := by kernel_rfl
theorem td25_ok : TD.Ok Try.prog 25 td25 := TD.Ok.of ⟨_, Try.underlying25, rfl, Try.stoodInHeld25, Try.eqGuardType25, by decide⟩ info25 rfl rfl (by decide) (fun h => by cases h)
theorem info26 : (Try.prog.info? 26).map (fun i => (i.zero, i.size, i.bytes)) = some (some (.slice none 0 0), 1, 24) := by kernel_rfl
theorem td26_ok : TD.Ok Try.prog 26 td26 := TD.Ok.of Try.underlying26 info26 rfl rfl (by decide) (fun _ => rfl)
theorem info27 : (Try.prog.info? 27).map (fun i => (i.zero, i.size, i.bytes)) = some (some .nilFunc, 1, 8) := by kernel_rfl
theorem td27_ok : TD.Ok Try.prog 27 td27 := TD.Ok.of ⟨_, _, _, Try.underlying27⟩ info27 rfl rfl (by decide) (fun _ => rfl)
theorem info28 : (Try.prog.info? 28).map (fun i => (i.zero, i.size, i.bytes)) = some (some .nilFunc, 1, 8) := by kernel_rfl
theorem td28_ok : TD.Ok Try.prog 28 td28 := TD.Ok.of ⟨_, _, _, Try.underlying28⟩ info28 rfl rfl (by decide) (fun _ => rfl)
theorem info29 : (Try.prog.info? 29).map (fun i => (i.zero, i.size, i.bytes)) = some (some (.slice none 0 0), 1, 24) := by kernel_rfl
theorem td29_ok : TD.Ok Try.prog 29 td29 := TD.Ok.of Try.underlying29 info29 rfl rfl (by decide) (fun _ => rfl)
theorem info31 : (Try.prog.info? 31).map (fun i => (i.zero, i.size, i.bytes)) = some (some .nilFunc, 1, 8) := by kernel_rfl
theorem td31_ok : TD.Ok Try.prog 31 td31 := TD.Ok.of ⟨_, _, _, Try.underlying31⟩ info31 rfl rfl (by decide) (fun _ => rfl)
theorem info32 : (Try.prog.info? 32).map (fun i => (i.zero, i.size, i.bytes)) = some (some (.slice none 0 0), 1, 24) := by kernel_rfl
theorem td32_ok : TD.Ok Try.prog 32 td32 := TD.Ok.of Try.underlying32 info32 rfl rfl (by decide) (fun _ => rfl)
theorem info33 : (Try.prog.info? 33).map (fun i => (i.zero, i.size, i.bytes)) = some (some (.agg #[(.int .i64 0), (.int .i64 0), (.slice none 0 0), (.slice none 0 0)]), 4, 64) := by kernel_rfl
theorem td33_ok : TD.Ok Try.prog 33 td33 := TD.Ok.of ⟨_, Try.underlying33, rfl, Try.stoodInHeld33, Try.eqGuardType33, by decide⟩ info33 rfl rfl (by decide) (fun h => by cases h)
theorem info34 : (Try.prog.info? 34).map (fun i => (i.zero, i.size, i.bytes)) = some (some (.agg #[(.int .i64 0), (.int .i64 0), (.slice none 0 0), (.slice none 0 0)]), 4, 64) := by kernel_rfl
theorem td34_ok : TD.Ok Try.prog 34 td34 := TD.Ok.of ⟨_, Try.underlying34, rfl, Try.stoodInHeld34, Try.eqGuardType34, by decide⟩ info34 rfl rfl (by decide) (fun h => by cases h)
theorem info35 : (Try.prog.info? 35).map (fun i => (i.zero, i.size, i.bytes)) = some (some .nilFunc, 1, 8) := by kernel_rfl
theorem td35_ok : TD.Ok Try.prog 35 td35 := TD.Ok.of ⟨_, _, _, Try.underlying35⟩ info35 rfl rfl (by decide) (fun _ => rfl)
theorem info36 : (Try.prog.info? 36).map (fun i => (i.zero, i.size, i.bytes)) = some (some (.slice none 0 0), 1, 24) := by kernel_rfl
theorem td36_ok : TD.Ok Try.prog 36 td36 := TD.Ok.of Try.underlying36 info36 rfl rfl (by decide) (fun _ => rfl)
theorem info37 : (Try.prog.info? 37).map (fun i => (i.zero, i.size, i.bytes)) = some (some .nilFunc, 1, 8) := by kernel_rfl
theorem td37_ok : TD.Ok Try.prog 37 td37 := TD.Ok.of ⟨_, _, _, Try.underlying37⟩ info37 rfl rfl (by decide) (fun _ => rfl)
theorem info38 : (Try.prog.info? 38).map (fun i => (i.zero, i.size, i.bytes)) = some (some .nilFunc, 1, 8) := by kernel_rfl
theorem td38_ok : TD.Ok Try.prog 38 td38 := TD.Ok.of ⟨_, _, _, Try.underlying38⟩ info38 rfl rfl (by decide) (fun _ => rfl)
theorem info39 : (Try.prog.info? 39).map (fun i => (i.zero, i.size, i.bytes)) = some (some .nilFunc, 1, 8) := by kernel_rfl
theorem td39_ok : TD.Ok Try.prog 39 td39 := TD.Ok.of ⟨_, _, _, Try.underlying39⟩ info39 rfl rfl (by decide) (fun _ => rfl)
theorem info40 : (Try.prog.info? 40).map (fun i => (i.zero, i.size, i.bytes)) = some (some .nilFunc, 1, 8) := by kernel_rfl
theorem td40_ok : TD.Ok Try.prog 40 td40 := TD.Ok.of ⟨_, _, _, Try.underlying40⟩ info40 rfl rfl (by decide) (fun _ => rfl)
theorem info41 : (Try.prog.info? 41).map (fun i => (i.zero, i.size, i.bytes)) = some (some .nilFunc, 1, 8) := by kernel_rfl
theorem td41_ok : TD.Ok Try.prog 41 td41 := TD.Ok.of ⟨_, _, _, Try.underlying41⟩ info41 rfl rfl (by decide) (fun _ => rfl)
theorem info42 : (Try.prog.info? 42).map (fun i => (i.zero, i.size, i.bytes)) = some (some .nilFunc, 1, 8) := by kernel_rfl
theorem td42_ok : TD.Ok Try.prog 42 td42 := TD.Ok.of ⟨_, _, _, Try.underlying42⟩ info42 rfl rfl (by decide) (fun _ => rfl)
theorem info43 : (Try.prog.info? 43).map (fun i => (i.zero, i.size, i.bytes)) = some (some .nilFunc, 1, 8) := by kernel_rfl
theorem td43_ok : TD.Ok Try.prog 43 td43 := TD.Ok.of ⟨_, _, _, Try.underlying43⟩ info43 rfl rfl (by decide) (fun _ => rfl)
theorem info44 : (Try.prog.info? 44).map (fun i => (i.zero, i.size, i.bytes)) = some (some .nilFunc, 1, 8) := by kernel_rfl
theorem td44_ok : TD.Ok Try.prog 44 td44 := TD.Ok.of ⟨_, _, _, Try.underlying44⟩ info44 rfl rfl (by decide) (fun _ => rfl)
theorem info45 : (Try.prog.info? 45).map (fun i => (i.zero, i.size, i.bytes)) = some (some .nilFunc, 1, 8) := by kernel_rfl
theorem td45_ok : TD.Ok Try.prog 45 td45 := TD.Ok.of ⟨_, _, _, Try.underlying45⟩ info45 rfl rfl (by decide) (fun _ => rfl)
theorem info46 : (Try.prog.info? 46).map (fun i => (i.zero, i.size, i.bytes)) = some (some .nilFunc, 1, 8) := by kernel_rfl
theorem td46_ok : TD.Ok Try.prog 46 td46 := TD.Ok.of ⟨_, _, _, Try.underlying46⟩ info46 rfl rfl (by decide) (fun _ => rfl)
theorem info47 : (Try.prog.info? 47).map (fun i => (i.zero, i.size, i.bytes)) = some (some .nilFunc, 1, 8) := by kernel_rfl
theorem td47_ok : TD.Ok Try.prog 47 td47 := TD.Ok.of ⟨_, _, _, Try.underlying47⟩ info47 rfl rfl (by decide) (fun _ => rfl)
theorem info48 : (Try.prog.info? 48).map (fun i => (i.zero, i.size, i.bytes)) = some (some .nilFunc, 1, 8) := by kernel_rfl
theorem td48_ok : TD.Ok Try.prog 48 td48 := TD.Ok.of ⟨_, _, _, Try.underlying48⟩ info48 rfl rfl (by decide) (fun _ => rfl)
theorem info49 : (Try.prog.info? 49).map (fun i => (i.zero, i.size, i.bytes)) = some (some .nilFunc, 1, 8) := by kernel_rfl
theorem td49_ok : TD.Ok Try.prog 49 td49 := TD.Ok.of ⟨_, _, _, Try.underlying49⟩ info49 rfl rfl (by decide) (fun _ => rfl)
theorem info50 : (Try.prog.info? 50).map (fun i => (i.zero, i.size, i.bytes)) = some (some (.slice none 0 0), 1, 24) := by kernel_rfl
theorem td50_ok : TD.Ok Try.prog 50 td50 := TD.Ok.of Try.underlying50 info50 rfl rfl (by decide) (fun _ => rfl)
theorem info51 : (Try.prog.info? 51).map (fun i => (i.zero, i.size, i.bytes)) = some (some .nilFunc, 1, 8) := by kernel_rfl
theorem td51_ok : TD.Ok Try.prog 51 td51 := TD.Ok.of ⟨_, _, _, Try.underlying51⟩ info51 rfl rfl (by decide) (fun _ => rfl)
theorem info52 : (Try.prog.info? 52).map (fun i => (i.zero, i.size, i.bytes)) = some (some (.int .u64 0), 1, 8) := by kernel_rfl
theorem td52_ok : TD.Ok Try.prog 52 td52 := TD.Ok.of Try.underlying52 info52 rfl rfl (by decide) (fun _ => rfl)
theorem info53 : (Try.prog.info? 53).map (fun i => (i.zero, i.size, i.bytes)) = some (some (.agg #[(.int .i64 0), (.int .u64 0)]), 2, 16) := by kernel_rfl
theorem td53_ok : TD.Ok Try.prog 53 td53 := TD.Ok.of ⟨_, Try.underlying53, rfl, Try.stoodInHeld53, Try.eqGuardType53, by decide⟩ info53 rfl rfl (by decide) (fun h => by cases h)
theorem info54 : (Try.prog.info? 54).map (fun i => (i.zero, i.size, i.bytes)) = some (some (.agg #[(.int .i64 0), (.int .u64 0)]), 2, 16) := by kernel_rfl
theorem td54_ok : TD.Ok Try.prog 54 td54 := TD.Ok.of ⟨_, Try.underlying54, rfl, Try.stoodInHeld54, Try.eqGuardType54, by decide⟩ info54 rfl rfl (by decide) (fun h => by cases h)
theorem info55 : (Try.prog.info? 55).map (fun i => (i.zero, i.size, i.bytes)) = some (some .nilFunc, 1, 8) := by kernel_rfl
theorem td55_ok : TD.Ok Try.prog 55 td55 := TD.Ok.of ⟨_, _, _, Try.underlying55⟩ info55 rfl rfl (by decide) (fun _ => rfl)
theorem info56 : (Try.prog.info? 56).map (fun i => (i.zero, i.size, i.bytes)) = some (some .nilFunc, 1, 8) := by kernel_rfl
theorem td56_ok : TD.Ok Try.prog 56 td56 := TD.Ok.of ⟨_, _, _, Try.underlying56⟩ info56 rfl rfl (by decide) (fun _ => rfl)
theorem info57 : (Try.prog.info? 57).map (fun i => (i.zero, i.size, i.bytes)) = some (some .nilFunc, 1, 8) := by kernel_rfl
theorem td57_ok : TD.Ok Try.prog 57 td57 := TD.Ok.of ⟨_, _, _, Try.underlying57⟩ info57 rfl rfl (by decide) (fun _ => rfl)
theorem info58 : (Try.prog.info? 58).map (fun i => (i.zero, i.size, i.bytes)) = some (some .nilFunc, 1, 8) := by kernel_rfl
theorem td58_ok : TD.Ok Try.prog 58 td58 := TD.Ok.of ⟨_, _, _, Try.underlying58⟩ info58 rfl rfl (by decide) (fun _ => rfl)
theorem info59 : (Try.prog.info? 59).map (fun i => (i.zero, i.size, i.bytes)) = some (some .nilFunc, 1, 8) := by kernel_rfl
theorem td59_ok : TD.Ok Try.prog 59 td59 := TD.Ok.of ⟨_, _, _, Try.underlying59⟩ info59 rfl rfl (by decide) (fun _ => rfl)
theorem info60 : (Try.prog.info? 60).map (fun i => (i.zero, i.size, i.bytes)) = some (some .nilFunc, 1, 8) := by kernel_rfl
theorem td60_ok : TD.Ok Try.prog 60 td60 := TD.Ok.of ⟨_, _, _, Try.underlying60⟩ info60 rfl rfl (by decide) (fun _ => rfl)
theorem info61 : (Try.prog.info? 61).map (fun i => (i.zero, i.size, i.bytes)) = some (some .nilFunc, 1, 8) := by kernel_rfl
theorem td61_ok : TD.Ok Try.prog 61 td61 := TD.Ok.of ⟨_, _, _, Try.underlying61⟩ info61 rfl rfl (by decide) (fun _ => rfl)
theorem info62 : (Try.prog.info? 62).map (fun i => (i.zero, i.size, i.bytes)) = some (some .nilFunc, 1, 8) := by kernel_rfl
theorem td62_ok : TD.Ok Try.prog 62 td62 := TD.Ok.of ⟨_, _, _, Try.underlying62⟩ info62 rfl rfl (by decide) (fun _ => rfl)
theorem info63 : (Try.prog.info? 63).map (fun i => (i.zero, i.size, i.bytes)) = some (some .nilFunc, 1, 8) := by kernel_rfl
theorem td63_ok : TD.Ok Try.prog 63 td63 := TD.Ok.of ⟨_, _, _, Try.underlying63⟩ info63 rfl rfl (by decide) (fun _ => rfl)
theorem info64 : (Try.prog.info? 64).map (fun i => (i.zero, i.size, i.bytes)) = some (some .nilFunc, 1, 8) := by kernel_rfl
theorem td64_ok : TD.Ok Try.prog 64 td64 := TD.Ok.of ⟨_, _, _, Try.underlying64⟩ info64 rfl rfl (by decide) (fun _ => rfl)
theorem info65 : (Try.prog.info? 65).map (fun i => (i.zero, i.size, i.bytes)) = some (some (.slice none 0 0), 1, 24) := by kernel_rfl
theorem td65_ok : TD.Ok Try.prog 65 td65 := TD.Ok.of Try.underlying65 info65 rfl rfl (by decide) (fun _ => rfl)
theorem info66 : (Try.prog.info? 66).map (fun i => (i.zero, i.size, i.bytes)) = some (some (.agg #[(.slice none 0 0), (.slice none 0 0)]), 2, 48) := by kernel_rfl
theorem td66_ok : TD.Ok Try.prog 66 td66 := TD.Ok.of ⟨_, Try.underlying66, rfl, Try.stoodInHeld66, Try.eqGuardType66, by decide⟩ info66 rfl rfl (by decide) (fun h => by cases h)
theorem info67 : (Try.prog.info? 67).map (fun i => (i.zero, i.size, i.bytes)) = some (some (.agg #[(.slice none 0 0), (.slice none 0 0)]), 2, 48) := by kernel_rfl
theorem td67_ok : TD.Ok Try.prog 67 td67 := TD.Ok.of ⟨_, Try.underlying67, rfl, Try.stoodInHeld67, Try.eqGuardType67, by decide⟩ info67 rfl rfl (by decide) (fun h => by cases h)
theorem info68 : (Try.prog.info? 68).map (fun i => (i.zero, i.size, i.bytes)) = some (some .nilFunc, 1, 8) := by kernel_rfl
theorem td68_ok : TD.Ok Try.prog 68 td68 := TD.Ok.of ⟨_, _, _, Try.underlying68⟩ info68 rfl rfl (by decide) (fun _ => rfl)
theorem info69 : (Try.prog.info? 69).map (fun i => (i.zero, i.size, i.bytes)) = some (some .nilFunc, 1, 8) := by kernel_rfl
theorem td69_ok : TD.Ok Try.prog 69 td69 := TD.Ok.of ⟨_, _, _, Try.underlying69⟩ info69 rfl rfl (by decide) (fun _ => rfl)
theorem info70 : (Try.prog.info? 70).map (fun i => (i.zero, i.size, i.bytes)) = some (some .nilFunc, 1, 8) := by kernel_rfl
theorem td70_ok : TD.Ok Try.prog 70 td70 := TD.Ok.of ⟨_, _, _, Try.underlying70⟩ info70 rfl rfl (by decide) (fun _ => rfl)
theorem info71 : (Try.prog.info? 71).map (fun i => (i.zero, i.size, i.bytes)) = some (some .nilFunc, 1, 8) := by kernel_rfl
theorem td71_ok : TD.Ok Try.prog 71 td71 := TD.Ok.of ⟨_, _, _, Try.underlying71⟩ info71 rfl rfl (by decide) (fun _ => rfl)
theorem info72 : (Try.prog.info? 72).map (fun i => (i.zero, i.size, i.bytes)) = some (some .nilFunc, 1, 8) := by kernel_rfl
theorem td72_ok : TD.Ok Try.prog 72 td72 := TD.Ok.of ⟨_, _, _, Try.underlying72⟩ info72 rfl rfl (by decide) (fun _ => rfl)
theorem info73 : (Try.prog.info? 73).map (fun i => (i.zero, i.size, i.bytes)) = some (some (.int .u64 0), 1, 8) := by kernel_rfl
theorem td73_ok : TD.Ok Try.prog 73 td73 := TD.Ok.of Try.underlying73 info73 rfl rfl (by decide) (fun _ => rfl)
theorem info74 : (Try.prog.info? 74).map (fun i => (i.zero, i.size, i.bytes)) = some (some .nilFunc, 1, 8) := by kernel_rfl
theorem td74_ok : TD.Ok Try.prog 74 td74 := TD.Ok.of ⟨_, _, _, Try.underlying74⟩ info74 rfl rfl (by decide) (fun _ => rfl)
theorem info75 : (Try.prog.info? 75).map (fun i => (i.zero, i.size, i.bytes)) = some (some .nilFunc, 1, 8) := by kernel_rfl
theorem td75_ok : TD.Ok Try.prog 75 td75 := TD.Ok.of ⟨_, _, _, Try.underlying75⟩ info75 rfl rfl (by decide) (fun _ => rfl)
theorem info76 : (Try.prog.info? 76).map (fun i => (i.zero, i.size, i.bytes)) = some (some (.agg #[(.int .i64 0), (.int .u64 0)]), 2, 16) := by kernel_rfl
theorem td76_ok : TD.Ok Try.prog 76 td76 := TD.Ok.of ⟨_, Try.underlying76, rfl, Try.stoodInHeld76, Try.eqGuardType76, by decide⟩ info76 rfl rfl (by decide) (fun h => by cases h)
theorem info77 : (Try.prog.info? 77).map (fun i => (i.zero, i.size, i.bytes)) = some (some (.slice none 0 0), 1, 24) := by kernel_rfl
theorem td77_ok : TD.Ok Try.prog 77 td77 := TD.Ok.of Try.underlying77 info77 rfl rfl (by decide) (fun _ => rfl)
theorem info78 : (Try.prog.info? 78).map (fun i => (i.zero, i.size, i.bytes)) = some (some (.agg #[(.slice none 0 0), (.slice none 0 0)]), 2, 48) := by kernel_rfl
theorem td78_ok : TD.Ok Try.prog 78 td78 := TD.Ok.of ⟨_, Try.underlying78, rfl, Try.stoodInHeld78, Try.eqGuardType78, by decide⟩ info78 rfl rfl (by decide) (fun h => by cases h)
theorem info79 : (Try.prog.info? 79).map (fun i => (i.zero, i.size, i.bytes)) = some (some (.agg #[(.slice none 0 0), (.slice none 0 0)]), 2, 48) := by kernel_rfl
theorem td79_ok : TD.Ok Try.prog 79 td79 := TD.Ok.of ⟨_, Try.underlying79, rfl, Try.stoodInHeld79, Try.eqGuardType79, by decide⟩ info79 rfl rfl (by decide) (fun h => by cases h)
theorem info80 : (Try.prog.info? 80).map (fun i => (i.zero, i.size, i.bytes)) = some (some .nilFunc, 1, 8) := by kernel_rfl
theorem td80_ok : TD.Ok Try.prog 80 td80 := TD.Ok.of ⟨_, _, _, Try.underlying80⟩ info80 rfl rfl (by decide) (fun _ => rfl)
theorem info81 : (Try.prog.info? 81).map (fun i => (i.zero, i.size, i.bytes)) = some (some .nilFunc, 1, 8) := by kernel_rfl
theorem td81_ok : TD.Ok Try.prog 81 td81 := TD.Ok.of ⟨_, _, _, Try.underlying81⟩ info81 rfl rfl (by decide) (fun _ => rfl)
theorem info82 : (Try.prog.info? 82).map (fun i => (i.zero, i.size, i.bytes)) = some (some .nilFunc, 1, 8) := by kernel_rfl
theorem td82_ok : TD.Ok Try.prog 82 td82 := TD.Ok.of ⟨_, _, _, Try.underlying82⟩ info82 rfl rfl (by decide) (fun _ => rfl)
theorem info83 : (Try.prog.info? 83).map (fun i => (i.zero, i.size, i.bytes)) = some (some .nilFunc, 1, 8) := by kernel_rfl
theorem td83_ok : TD.Ok Try.prog 83 td83 := TD.Ok.of ⟨_, _, _, Try.underlying83⟩ info83 rfl rfl (by decide) (fun _ => rfl)
theorem info84 : (Try.prog.info? 84).map (fun i => (i.zero, i.size, i.bytes)) = some (some .nilFunc, 1, 8) := by kernel_rfl
theorem td84_ok : TD.Ok Try.prog 84 td84 := TD.Ok.of ⟨_, _, _, Try.underlying84⟩ info84 rfl rfl (by decide) (fun _ => rfl)
theorem info85 : (Try.prog.info? 85).map (fun i => (i.zero, i.size, i.bytes)) = some (some .nilFunc, 1, 8) := by kernel_rfl
theorem td85_ok : TD.Ok Try.prog 85 td85 := TD.Ok.of ⟨_, _, _, Try.underlying85⟩ info85 rfl rfl (by decide) (fun _ => rfl)
theorem info86 : (Try.prog.info? 86).map (fun i => (i.zero, i.size, i.bytes)) = some (some .nilFunc, 1, 8) := by kernel_rfl
theorem td86_ok : TD.Ok Try.prog 86 td86 := TD.Ok.of ⟨_, _, _, Try.underlying86⟩ info86 rfl rfl (by decide) (fun _ => rfl)
theorem info87 : (Try.prog.info? 87).map (fun i => (i.zero, i.size, i.bytes)) = some (some .nilFunc, 1, 8) := by kernel_rfl
theorem td87_ok : TD.Ok Try.prog 87 td87 := TD.Ok.of ⟨_, _, _, Try.underlying87⟩ info87 rfl rfl (by decide) (fun _ => rfl)
theorem info88 : (Try.prog.info? 88).map (fun i => (i.zero, i.size, i.bytes)) = some (some .nilFunc, 1, 8) := by kernel_rfl
theorem td88_ok : TD.Ok Try.prog 88 td88 := TD.Ok.of ⟨_, _, _, Try.underlying88⟩ info88 rfl rfl (by decide) (fun _ => rfl)
theorem info89 : (Try.prog.info? 89).map (fun i => (i.zero, i.size, i.bytes)) = some (some .nilFunc, 1, 8) := by kernel_rfl
theorem td89_ok : TD.Ok Try.prog 89 td89 := TD.Ok.of ⟨_, _, _, Try.underlying89⟩ info89 rfl rfl (by decide) (fun _ => rfl)
theorem info91 : (Try.prog.info? 91).map (fun i => (i.zero, i.size, i.bytes)) = some (some .nilFunc, 1, 8) := by kernel_rfl
theorem td91_ok : TD.Ok Try.prog 91 td91 := TD.Ok.of ⟨_, _, _, Try.underlying91⟩ info91 rfl rfl (by decide) (fun _ => rfl)
theorem info92 : (Try.prog.info? 92).map (fun i => (i.zero, i.size, i.bytes)) = some (some .nilFunc, 1, 8) := by kernel_rfl
theorem td92_ok : TD.Ok Try.prog 92 td92 := TD.Ok.of ⟨_, _, _, Try.underlying92⟩ info92 rfl rfl (by decide) (fun _ => rfl)
theorem info93 : (Try.prog.info? 93).map (fun i => (i.zero, i.size, i.bytes)) = some (some .nilFunc, 1, 8) := by kernel_rfl
theorem td93_ok : TD.Ok Try.prog 93 td93 := TD.Ok.of ⟨_, _, _, Try.underlying93⟩ info93 rfl rfl (by decide) (fun _ => rfl)
theorem info94 : (Try.prog.info? 94).map (fun i => (i.zero, i.size, i.bytes)) = some (some .nilFunc, 1, 8) := by kernel_rfl
theorem td94_ok : TD.Ok Try.prog 94 td94 := TD.Ok.of ⟨_, _, _, Try.underlying94⟩ info94 rfl rfl (by decide) (fun _ => rfl)
theorem info95 : (Try.prog.info? 95).map (fun i => (i.zero, i.size, i.bytes)) = some (some .nilFunc, 1, 8) := by kernel_rfl
theorem td95_ok : TD.Ok Try.prog 95 td95 := TD.Ok.of ⟨_, _, _, Try.underlying95⟩ info95 rfl rfl (by decide) (fun _ => rfl)
theorem info96 : (Try.prog.info? 96).map (fun i => (i.zero, i.size, i.bytes)) = some (some .nilFunc, 1, 8) := by kernel_rfl
theorem td96_ok : TD.Ok Try.prog 96 td96 := TD.Ok.of ⟨_, _, _, Try.underlying96⟩ info96 rfl rfl (by decide) (fun _ => rfl)
theorem info97 : (Try.prog.info? 97).map (fun i => (i.zero, i.size, i.bytes)) = some (some .nilFunc, 1, 8) := by kernel_rfl
theorem td97_ok : TD.Ok Try.prog 97 td97 := TD.Ok.of ⟨_, _, _, Try.underlying97⟩ info97 rfl rfl (by decide) (fun _ => rfl)
theorem info98 : (Try.prog.info? 98).map (fun i => (i.zero, i.size, i.bytes)) = some (some (.slice none 0 0), 1, 24) := by kernel_rfl
theorem td98_ok : TD.Ok Try.prog 98 td98 := TD.Ok.of Try.underlying98 info98 rfl rfl (by decide) (fun _ => rfl)
theorem info99 : (Try.prog.info? 99).map (fun i => (i.zero, i.size, i.bytes)) = some (some .nilFunc, 1, 8) := by kernel_rfl
theorem td99_ok : TD.Ok Try.prog 99 td99 := TD.Ok.of ⟨_, _, _, Try.underlying99⟩ info99 rfl rfl (by decide) (fun _ => rfl)
theorem info100 : (Try.prog.info? 100).map (fun i => (i.zero, i.size, i.bytes)) = some (some .nilFunc, 1, 8) := by kernel_rfl
theorem td100_ok : TD.Ok Try.prog 100 td100 := TD.Ok.of ⟨_, _, _, Try.underlying100⟩ info100 rfl rfl (by decide) (fun _ => rfl)
theorem info101 : (Try.prog.info? 101).map (fun i => (i.zero, i.size, i.bytes)) = some (some .nilFunc, 1, 8) := by kernel_rfl
theorem td101_ok : TD.Ok Try.prog 101 td101 := TD.Ok.of ⟨_, _, _, Try.underlying101⟩ info101 rfl rfl (by decide) (fun _ => rfl)
theorem info102 : (Try.prog.info? 102).map (fun i => (i.zero, i.size, i.bytes)) = some (some (.agg #[(.int .i64 0), (.slice none 0 0)]), 2, 32) := by kernel_rfl
theorem td102_ok : TD.Ok Try.prog 102 td102 := TD.Ok.of ⟨_, Try.underlying102, rfl, Try.stoodInHeld102, Try.eqGuardType102, by decide⟩ info102 rfl rfl (by decide) (fun h => by cases h)
theorem info103 : (Try.prog.info? 103).map (fun i => (i.zero, i.size, i.bytes)) = some (some (.agg #[(.int .i64 0), (.slice none 0 0)]), 2, 32) := by kernel_rfl
theorem td103_ok : TD.Ok Try.prog 103 td103 := TD.Ok.of ⟨_, Try.underlying103, rfl, Try.stoodInHeld103, Try.eqGuardType103, by decide⟩ info103 rfl rfl (by decide) (fun h => by cases h)
theorem info104 : (Try.prog.info? 104).map (fun i => (i.zero, i.size, i.bytes)) = some (some .nilFunc, 1, 8) := by kernel_rfl
theorem td104_ok : TD.Ok Try.prog 104 td104 := TD.Ok.of ⟨_, _, _, Try.underlying104⟩ info104 rfl rfl (by decide) (fun _ => rfl)
theorem info105 : (Try.prog.info? 105).map (fun i => (i.zero, i.size, i.bytes)) = some (some (.agg #[(.int .i64 0), (.slice none 0 0)]), 2, 32) := by kernel_rfl
theorem td105_ok : TD.Ok Try.prog 105 td105 := TD.Ok.of ⟨_, Try.underlying105, rfl, Try.stoodInHeld105, Try.eqGuardType105, by decide⟩ info105 rfl rfl (by decide) (fun h => by cases h)
theorem info106 : (Try.prog.info? 106).map (fun i => (i.zero, i.size, i.bytes)) = some (some (.agg #[(.int .i64 0), (.slice none 0 0)]), 2, 32) := by kernel_rfl
theorem td106_ok : TD.Ok Try.prog 106 td106 := TD.Ok.of ⟨_, Try.underlying106, rfl, Try.stoodInHeld106, Try.eqGuardType106, by decide⟩ info106 rfl rfl (by decide) (fun h => by cases h)
theorem info107 : (Try.prog.info? 107).map (fun i => (i.zero, i.size, i.bytes)) = some (some .nilFunc, 1, 8) := by kernel_rfl
theorem td107_ok : TD.Ok Try.prog 107 td107 := TD.Ok.of ⟨_, _, _, Try.underlying107⟩ info107 rfl rfl (by decide) (fun _ => rfl)
theorem info109 : (Try.prog.info? 109).map (fun i => (i.zero, i.size, i.bytes)) = some (some .nilFunc, 1, 8) := by kernel_rfl
theorem td109_ok : TD.Ok Try.prog 109 td109 := TD.Ok.of ⟨_, _, _, Try.underlying109⟩ info109 rfl rfl (by decide) (fun _ => rfl)
theorem info110 : (Try.prog.info? 110).map (fun i => (i.zero, i.size, i.bytes)) = some (some .nilFunc, 1, 8) := by kernel_rfl
theorem td110_ok : TD.Ok Try.prog 110 td110 := TD.Ok.of ⟨_, _, _, Try.underlying110⟩ info110 rfl rfl (by decide) (fun _ => rfl)
theorem info111 : (Try.prog.info? 111).map (fun i => (i.zero, i.size, i.bytes)) = some (some .nilFunc, 1, 8) := by kernel_rfl
theorem td111_ok : TD.Ok Try.prog 111 td111 := TD.Ok.of ⟨_, _, _, Try.underlying111⟩ info111 rfl rfl (by decide) (fun _ => rfl)
theorem info112 : (Try.prog.info? 112).map (fun i => (i.zero, i.size, i.bytes)) = some (some .nilFunc, 1, 8) := by kernel_rfl
theorem td112_ok : TD.Ok Try.prog 112 td112 := TD.Ok.of ⟨_, _, _, Try.underlying112⟩ info112 rfl rfl (by decide) (fun _ => rfl)
theorem info113 : (Try.prog.info? 113).map (fun i => (i.zero, i.size, i.bytes)) = some (some .nilFunc, 1, 8) := by kernel_rfl
theorem td113_ok : TD.Ok Try.prog 113 td113 := TD.Ok.of ⟨_, _, _, Try.underlying113⟩ info113 rfl rfl (by decide) (fun _ => rfl)
theorem info114 : (Try.prog.info? 114).map (fun i => (i.zero, i.size, i.bytes)) = some (some .nilFunc, 1, 8) := by kernel_rfl
theorem td114_ok : TD.Ok Try.prog 114 td114 := TD.Ok.of ⟨_, _, _, Try.underlying114⟩ info114 rfl rfl (by decide) (fun _ => rfl)
theorem info115 : (Try.prog.info? 115).map (fun i => (i.zero, i.size, i.bytes)) = some (some .nilFunc, 1, 8) := by kernel_rfl
theorem td115_ok : TD.Ok Try.prog 115 td115 := TD.Ok.of ⟨_, _, _, Try.underlying115⟩ info115 rfl rfl (by decide) (fun _ => rfl)
theorem info116 : (Try.prog.info? 116).map (fun i => (i.zero, i.size, i.bytes)) = some (some .nilFunc, 1, 8) := by kernel_rfl
theorem td116_ok : TD.Ok Try.prog 116 td116 := TD.Ok.of ⟨_, _, _, Try.underlying116⟩ info116 rfl rfl (by decide) (fun _ => rfl)
theorem info117 : (Try.prog.info? 117).map (fun i => (i.zero, i.size, i.bytes)) = some (some .nilFunc, 1, 8) := by kernel_rfl
theorem td117_ok : TD.Ok Try.prog 117 td117 := TD.Ok.of ⟨_, _, _, Try.underlying117⟩ info117 rfl rfl (by decide) (fun _ => rfl)
theorem info118 : (Try.prog.info? 118).map (fun i => (i.zero, i.size, i.bytes)) = some (some .nilFunc, 1, 8) := by kernel_rfl
theorem td118_ok : TD.Ok Try.prog 118 td118 := TD.Ok.of ⟨_, _, _, Try.underlying118⟩ info118 rfl rfl (by decide) (fun _ => rfl)
theorem info119 : (Try.prog.info? 119).map (fun i => (i.zero, i.size, i.bytes)) = some (some .nilFunc, 1, 8) := by kernel_rfl
theorem td119_ok : TD.Ok Try.prog 119 td119 := TD.Ok.of ⟨_, _, _, Try.underlying119⟩ info119 rfl rfl (by decide) (fun _ => rfl)
theorem info120 : (Try.prog.info? 120).map (fun i => (i.zero, i.size, i.bytes)) = some (some .nilFunc, 1, 8) := by kernel_rfl
theorem td120_ok : TD.Ok Try.prog 120 td120 := TD.Ok.of ⟨_, _, _, Try.underlying120⟩ info120 rfl rfl (by decide) (fun _ => rfl)
theorem info121 : (Try.prog.info? 121).map (fun i => (i.zero, i.size, i.bytes)) = some (some .nilFunc, 1, 8) := by kernel_rfl
theorem td121_ok : TD.Ok Try.prog 121 td121 := TD.Ok.of ⟨_, _, _, Try.underlying121⟩ info121 rfl rfl (by decide) (fun _ => rfl)
theorem info123 : (Try.prog.info? 123).map (fun i => (i.zero, i.size, i.bytes)) = some (some .nilFunc, 1, 8) := by kernel_rfl
theorem td123_ok : TD.Ok Try.prog 123 td123 := TD.Ok.of ⟨_, _, _, Try.underlying123⟩ info123 rfl rfl (by decide) (fun _ => rfl)
theorem info126 : (Try.prog.info? 126).map (fun i => (i.zero, i.size, i.bytes)) = some (some .nilFunc, 1, 8) := by kernel_rfl
theorem td126_ok : TD.Ok Try.prog 126 td126 := TD.Ok.of ⟨_, _, _, Try.underlying126⟩ info126 rfl rfl (by decide) (fun _ => rfl)
theorem info127 : (Try.prog.info? 127).map (fun i => (i.zero, i.size, i.bytes)) = some (some (.pointer none), 1, 8) := by kernel_rfl
theorem td127_ok : TD.Ok Try.prog 127 td127 := TD.Ok.of Try.underlying127 info127 rfl rfl (by decide) (fun _ => rfl)
theorem info128 : (Try.prog.info? 128).map (fun i => (i.zero, i.size, i.bytes)) = some (some .nilFunc, 1, 8) := by kernel_rfl
theorem td128_ok : TD.Ok Try.prog 128 td128 := TD.Ok.of ⟨_, _, _, Try.underlying128⟩ info128 rfl rfl (by decide) (fun _ => rfl)
theorem info134 : (Try.prog.info? 134).map (fun i => (i.zero, i.size, i.bytes)) = some (some (.int .u32 0), 1, 4) := by kernel_rfl
theorem td134_ok : TD.Ok Try.prog 134 td134 := TD.Ok.of Try.underlying134 info134 rfl rfl (by decide) (fun _ => rfl)
theorem info135 : (Try.prog.info? 135).map (fun i => (i.zero, i.size, i.bytes)) = some (some (.int .u8 0), 1, 1) := by kernel_rfl
theorem td135_ok : TD.Ok Try.prog 135 td135 := TD.Ok.of Try.underlying135 info135 rfl rfl (by decide) (fun _ => rfl)
theorem info136 : (Try.prog.info? 136).map (fun i => (i.zero, i.size, i.bytes)) = some (some (.int .u8 0), 1, 1) := by kernel_rfl
theorem td136_ok : TD.Ok Try.prog 136 td136 := TD.Ok.of Try.underlying136 info136 rfl rfl (by decide) (fun _ => rfl)
theorem info137 : (Try.prog.info? 137).map (fun i => (i.zero, i.size, i.bytes)) = some (some .nilFunc, 1, 8) := by kernel_rfl
theorem td137_ok : TD.Ok Try.prog 137 td137 := TD.Ok.of ⟨_, _, _, Try.underlying137⟩ info137 rfl rfl (by decide) (fun _ => rfl)
theorem info138 : (Try.prog.info? 138).map (fun i => (i.zero, i.size, i.bytes)) = some (some (.pointer none), 1, 8) := by kernel_rfl
theorem td138_ok : TD.Ok Try.prog 138 td138 := TD.Ok.of Try.underlying138 info138 rfl rfl (by decide) (fun _ => rfl)
theorem info139 : (Try.prog.info? 139).map (fun i => (i.zero, i.size, i.bytes)) = some (some (.int .i32 0), 1, 4) := by kernel_rfl
theorem td139_ok : TD.Ok Try.prog 139 td139 := TD.Ok.of Try.underlying139 info139 rfl rfl (by decide) (fun _ => rfl)
theorem info140 : (Try.prog.info? 140).map (fun i => (i.zero, i.size, i.bytes)) = some (some (.int .i32 0), 1, 4) := by kernel_rfl
theorem td140_ok : TD.Ok Try.prog 140 td140 := TD.Ok.of Try.underlying140 info140 rfl rfl (by decide) (fun _ => rfl)
theorem info143 : (Try.prog.info? 143).map (fun i => (i.zero, i.size, i.bytes)) = some (some (.agg #[(.string ⟨#[]⟩)]), 1, 16) := by kernel_rfl
theorem td143_ok : TD.Ok Try.prog 143 td143 := TD.Ok.of ⟨_, Try.underlying143, rfl, Try.stoodInHeld143, Try.eqGuardType143, by decide⟩ info143 rfl rfl (by decide) (fun h => by cases h)
theorem info144 : (Try.prog.info? 144).map (fun i => (i.zero, i.size, i.bytes)) = some (some (.agg #[(.string ⟨#[]⟩)]), 1, 16) := by kernel_rfl
theorem td144_ok : TD.Ok Try.prog 144 td144 := TD.Ok.of ⟨_, Try.underlying144, rfl, Try.stoodInHeld144, Try.eqGuardType144, by decide⟩ info144 rfl rfl (by decide) (fun h => by cases h)
set_option maxRecDepth 100000 in
theorem tabL_ok : ∀ p ∈ tabL, TD.Ok Try.prog p.1 p.2 :=
  (List.forall_mem_cons.2 ⟨td1_ok, (List.forall_mem_cons.2 ⟨td2_ok, (List.forall_mem_cons.2 ⟨td3_ok, (List.forall_mem_cons.2 ⟨td4_ok, (List.forall_mem_cons.2 ⟨td5_ok, (List.forall_mem_cons.2 ⟨td6_ok, (List.forall_mem_cons.2 ⟨td9_ok, (List.forall_mem_cons.2 ⟨td10_ok, (List.forall_mem_cons.2 ⟨td11_ok, (List.forall_mem_cons.2 ⟨td12_ok, (List.forall_mem_cons.2 ⟨td15_ok, (List.forall_mem_cons.2 ⟨td16_ok, (List.forall_mem_cons.2 ⟨td17_ok, (List.forall_mem_cons.2 ⟨td21_ok, (List.forall_mem_cons.2 ⟨td22_ok, (List.forall_mem_cons.2 ⟨td23_ok, (List.forall_mem_cons.2 ⟨td24_ok, (List.forall_mem_cons.2 ⟨td25_ok, (List.forall_mem_cons.2 ⟨td26_ok, (List.forall_mem_cons.2 ⟨td27_ok, (List.forall_mem_cons.2 ⟨td28_ok, (List.forall_mem_cons.2 ⟨td29_ok, (List.forall_mem_cons.2 ⟨td31_ok, (List.forall_mem_cons.2 ⟨td32_ok, (List.forall_mem_cons.2 ⟨td33_ok, (List.forall_mem_cons.2 ⟨td34_ok, (List.forall_mem_cons.2 ⟨td35_ok, (List.forall_mem_cons.2 ⟨td36_ok, (List.forall_mem_cons.2 ⟨td37_ok, (List.forall_mem_cons.2 ⟨td38_ok, (List.forall_mem_cons.2 ⟨td39_ok, (List.forall_mem_cons.2 ⟨td40_ok, (List.forall_mem_cons.2 ⟨td41_ok, (List.forall_mem_cons.2 ⟨td42_ok, (List.forall_mem_cons.2 ⟨td43_ok, (List.forall_mem_cons.2 ⟨td44_ok, (List.forall_mem_cons.2 ⟨td45_ok, (List.forall_mem_cons.2 ⟨td46_ok, (List.forall_mem_cons.2 ⟨td47_ok, (List.forall_mem_cons.2 ⟨td48_ok, (List.forall_mem_cons.2 ⟨td49_ok, (List.forall_mem_cons.2 ⟨td50_ok, (List.forall_mem_cons.2 ⟨td51_ok, (List.forall_mem_cons.2 ⟨td52_ok, (List.forall_mem_cons.2 ⟨td53_ok, (List.forall_mem_cons.2 ⟨td54_ok, (List.forall_mem_cons.2 ⟨td55_ok, (List.forall_mem_cons.2 ⟨td56_ok, (List.forall_mem_cons.2 ⟨td57_ok, (List.forall_mem_cons.2 ⟨td58_ok, (List.forall_mem_cons.2 ⟨td59_ok, (List.forall_mem_cons.2 ⟨td60_ok, (List.forall_mem_cons.2 ⟨td61_ok, (List.forall_mem_cons.2 ⟨td62_ok, (List.forall_mem_cons.2 ⟨td63_ok, (List.forall_mem_cons.2 ⟨td64_ok, (List.forall_mem_cons.2 ⟨td65_ok, (List.forall_mem_cons.2 ⟨td66_ok, (List.forall_mem_cons.2 ⟨td67_ok, (List.forall_mem_cons.2 ⟨td68_ok, (List.forall_mem_cons.2 ⟨td69_ok, (List.forall_mem_cons.2 ⟨td70_ok, (List.forall_mem_cons.2 ⟨td71_ok, (List.forall_mem_cons.2 ⟨td72_ok, (List.forall_mem_cons.2 ⟨td73_ok, (List.forall_mem_cons.2 ⟨td74_ok, (List.forall_mem_cons.2 ⟨td75_ok, (List.forall_mem_cons.2 ⟨td76_ok, (List.forall_mem_cons.2 ⟨td77_ok, (List.forall_mem_cons.2 ⟨td78_ok, (List.forall_mem_cons.2 ⟨td79_ok, (List.forall_mem_cons.2 ⟨td80_ok, (List.forall_mem_cons.2 ⟨td81_ok, (List.forall_mem_cons.2 ⟨td82_ok, (List.forall_mem_cons.2 ⟨td83_ok, (List.forall_mem_cons.2 ⟨td84_ok, (List.forall_mem_cons.2 ⟨td85_ok, (List.forall_mem_cons.2 ⟨td86_ok, (List.forall_mem_cons.2 ⟨td87_ok, (List.forall_mem_cons.2 ⟨td88_ok, (List.forall_mem_cons.2 ⟨td89_ok, (List.forall_mem_cons.2 ⟨td91_ok, (List.forall_mem_cons.2 ⟨td92_ok, (List.forall_mem_cons.2 ⟨td93_ok, (List.forall_mem_cons.2 ⟨td94_ok, (List.forall_mem_cons.2 ⟨td95_ok, (List.forall_mem_cons.2 ⟨td96_ok, (List.forall_mem_cons.2 ⟨td97_ok, (List.forall_mem_cons.2 ⟨td98_ok, (List.forall_mem_cons.2 ⟨td99_ok, (List.forall_mem_cons.2 ⟨td100_ok, (List.forall_mem_cons.2 ⟨td101_ok, (List.forall_mem_cons.2 ⟨td102_ok, (List.forall_mem_cons.2 ⟨td103_ok, (List.forall_mem_cons.2 ⟨td104_ok, (List.forall_mem_cons.2 ⟨td105_ok, (List.forall_mem_cons.2 ⟨td106_ok, (List.forall_mem_cons.2 ⟨td107_ok, (List.forall_mem_cons.2 ⟨td109_ok, (List.forall_mem_cons.2 ⟨td110_ok, (List.forall_mem_cons.2 ⟨td111_ok, (List.forall_mem_cons.2 ⟨td112_ok, (List.forall_mem_cons.2 ⟨td113_ok, (List.forall_mem_cons.2 ⟨td114_ok, (List.forall_mem_cons.2 ⟨td115_ok, (List.forall_mem_cons.2 ⟨td116_ok, (List.forall_mem_cons.2 ⟨td117_ok, (List.forall_mem_cons.2 ⟨td118_ok, (List.forall_mem_cons.2 ⟨td119_ok, (List.forall_mem_cons.2 ⟨td120_ok, (List.forall_mem_cons.2 ⟨td121_ok, (List.forall_mem_cons.2 ⟨td123_ok, (List.forall_mem_cons.2 ⟨td126_ok, (List.forall_mem_cons.2 ⟨td127_ok, (List.forall_mem_cons.2 ⟨td128_ok, (List.forall_mem_cons.2 ⟨td134_ok, (List.forall_mem_cons.2 ⟨td135_ok, (List.forall_mem_cons.2 ⟨td136_ok, (List.forall_mem_cons.2 ⟨td137_ok, (List.forall_mem_cons.2 ⟨td138_ok, (List.forall_mem_cons.2 ⟨td139_ok, (List.forall_mem_cons.2 ⟨td140_ok, (List.forall_mem_cons.2 ⟨td143_ok, (List.forall_mem_cons.2 ⟨td144_ok, (fun _ h => by cases h)⟩)⟩)⟩)⟩)⟩)⟩)⟩)⟩)⟩)⟩)⟩)⟩)⟩)⟩)⟩)⟩)⟩)⟩)⟩)⟩)⟩)⟩)⟩)⟩)⟩)⟩)⟩)⟩)⟩)⟩)⟩)⟩)⟩)⟩)⟩)⟩)⟩)⟩)⟩)⟩)⟩)⟩)⟩)⟩)⟩)⟩)⟩)⟩)⟩)⟩)⟩)⟩)⟩)⟩)⟩)⟩)⟩)⟩)⟩)⟩)⟩)⟩)⟩)⟩)⟩)⟩)⟩)⟩)⟩)⟩)⟩)⟩)⟩)⟩)⟩)⟩)⟩)⟩)⟩)⟩)⟩)⟩)⟩)⟩)⟩)⟩)⟩)⟩)⟩)⟩)⟩)⟩)⟩)⟩)⟩)⟩)⟩)⟩)⟩)⟩)⟩)⟩)⟩)⟩)⟩)⟩)⟩)⟩)⟩)⟩)⟩)⟩)⟩)⟩)⟩)⟩)⟩)⟩)⟩)⟩)⟩)⟩)⟩)⟩)
theorem mixed : Try.prog.follows .mixedOrders = true := by kernel_rfl
theorem tab_ok : tab.Ok Try.prog := Tab.Ok.of_list tabL_ok
end Go.Proofs.Ytgcklgeifdefhaa
/- What each function's code is asked for, as a formula. Written by wgen.py (a program of this session's) out of Lean's print of the program. -/
namespace Go.Proofs.Ytgcklgeifdefhaa
open Go Go.Sep
set_option linter.unusedVariables false
attribute [local irreducible] wpC headF
/-- loop.example/g00649/laws.FnExactCubeOf -/
def D3 : Info := ⟨124, fun i => if i = 14 then ([[], [], [1], [0, 1, 2], [0, 1, 2, 3]], [(0, []), (1, []), (2, [0]), (3, []), (4, [])]) else ([], []), fun i => ([], [])⟩
def W3 (v0 : AV) (v1 : AV) (v2 : AV) (H : Heap) (K : AV → Heap → Prop) : Prop :=
 boxV v0 H fun v3 H1 =>
 loadV tab 25 v3 H1 fun v19 =>
 CallT Try.prog 4 [v19, (AV.p (.int .i64 1048576))] H1 fun v21 H2 =>
 binV tab .lss 3 v21 (AV.p (.int .i64 0)) fun v23 =>
 condV v23 (K (AV.p (.bool true)) H2)
 (CallT Try.prog 5 [v1, v21] H2 fun v26 H3 =>
 binV tab .lss 3 v26 (AV.p (.int .i64 0)) fun v28 =>
 condV v28 (K (AV.p (.bool true)) H3)
 (loadV tab 25 v3 H3 fun v30 =>
 CallT Try.prog 7 [v30] H3 fun v31 H4 =>
 CallT Try.prog 8 [v1] H4 fun v33 H5 =>
 CallT Try.prog 6 [v31, v33, v2] H5 fun v35 H6 =>
 extractV v35 0 fun v36 =>
 extractV v35 1 fun v37 =>
 loadV tab 25 v3 H6 fun v38 =>
 CallT Try.prog 7 [v38] H6 fun v39 H7 =>
 allocV tab 34 H7 fun v10 H8 =>
 storeV tab 34 v10 v39 H8 fun H9 =>
 CallT Try.prog 8 [v1] H9 fun v41 H10 =>
 loadV tab 34 v10 H10 fun v43 =>
 CallT Try.prog 9 [v43, v41, v2] H10 fun v46 H11 =>
 extractV v46 0 fun v47 =>
 extractV v46 1 fun v48 =>
 CallT Try.prog 10 [v47, v36] H11 fun v51 H12 =>
 unV .not v51 fun v52 =>
 grdV v52 false (binV tab .neq 4 v48 v37 fun v56 =>
 condV v56 (K (AV.p (.bool false)) H12)
 (loadV tab 34 v10 H12 fun v58 =>
 loadV tab 25 v3 H12 fun v59 =>
 CallT Try.prog 7 [v59] H12 fun v60 H13 =>
 (loadV tab 34 v10 H13 fun v9058 =>
 v58 = v9058) ∧
 CallT Try.prog 11 [v58, v60] H13 fun v61 H14 =>
 unV .not v61 fun v62 =>
 condV v62 (K (AV.p (.bool false)) H14)
 (CallT Try.prog 8 [v1] H14 fun v65 H15 =>
 CallT Try.prog 12 [v41, v65] H15 fun v66 H16 =>
 unV .not v66 fun v67 =>
 condV v67 (K (AV.p (.bool false)) H16)
 (loadV tab 34 v10 H16 fun v68 =>
 CallT Try.prog 13 [v68, (AV.p (.int .i64 1))] H16 fun v70 H17 =>
 CallT Try.prog 14 [v41, v70] H17 fun v73 H18 =>
 binV tab .lss 3 v73 (AV.p (.int .i64 0)) fun v75 =>
 grdV v75 false (CallT Try.prog 10 [v47, v36] H18 fun v79 H19 =>
 unV .not v79 fun v80 =>
 grdV v80 false (binV tab .neq 4 v48 v37 fun v85 =>
 condV v85 (K (AV.p (.bool false)) H19)
 (CallT Try.prog 15 [v47, (AV.p (.int .i64 1))] H19 fun v89 H20 =>
 CallT Try.prog 16 [v47, (AV.p (.int .i64 1))] H20 fun v92 H21 =>
 binV tab .lss 3 v92 (AV.p (.int .i64 0)) fun v94 =>
 condV v94 (K (AV.p (.bool false)) H21)
 (binV tab .neq 3 v92 v89 fun v97 =>
 condV v97 (K (AV.p (.bool false)) H21)
 (loadV tab 25 v3 H21 fun v99 =>
 CallT Try.prog 7 [v99] H21 fun v100 H22 =>
 CallT Try.prog 8 [v1] H22 fun v102 H23 =>
 CallT Try.prog 9 [v100, v102, v2] H23 fun v104 H24 =>
 extractV v104 0 fun v105 =>
 extractV v104 1 fun v106 =>
 CallT Try.prog 10 [v105, v36] H24 fun v109 H25 =>
 unV .not v109 fun v110 =>
 grdV v110 false (binV tab .neq 4 v106 v37 fun v114 =>
 condV v114 (K (AV.p (.bool false)) H25)
 (CallT Try.prog 16 [v47, (AV.p (.int .i64 1))] H25 fun v118 H26 =>
 binV tab .lss 3 v118 (AV.p (.int .i64 0)) fun v120 =>
 condV v120 (K (AV.p (.bool false)) H26)
 (binV tab .neq 3 v118 v89 fun v123 =>
 condV v123 (K (AV.p (.bool false)) H26)
 (K (AV.p (.bool true)) H26))))
 (K (AV.p (.bool false)) H25)))))
 (K (AV.p (.bool false)) H19))
 (K (AV.p (.bool false)) H18)))))
 (K (AV.p (.bool false)) H12)))
theorem W3_wp (v0 : AV) (v1 : AV) (v2 : AV) (H : Heap) (K : AV → Heap → Prop) : wpC Try.prog tab D3 (bodyOf Try.f3) (retF tab [.tmp 6] K) (nthA [v0, v1, v2]) H = W3 v0 v1 v2 H K := by kernel_rfl
theorem W3_ok {v0 v1 v2 : AV} {H : Heap} {K : AV → Heap → Prop} (h : W3 v0 v1 v2 H K) : CallT Try.prog 3 [v0, v1, v2] H K :=
  CallT.of_wp (D := D3) tab_ok mixed Try.func3 (c := bodyOf Try.f3) (by kernel_rfl) rfl (by kernel_rfl) (rs := #[.tmp 6]) rfl (by decide +kernel) (by kernel_rfl) (W3_wp v0 v1 v2 H K) h
/-- loop.example/g00649/laws.szProgram -/
def D4 : Info := ⟨18, fun i => ([], []), fun i => ([], [])⟩
def W4 (v0 : AV) (v1 : AV) (H : Heap) (K : AV → Heap → Prop) : Prop :=
 boxV v0 H fun v2 H1 =>
 fieldAddrV tab 25 v2 2 fun v5 =>
 loadV tab 22 v5 H1 fun v6 =>
 CallT Try.prog 17 [v6, v1] H1 fun v8 H2 =>
 binV tab .lss 3 v8 (AV.p (.int .i64 0)) fun v10 =>
 condV v10 (K (AV.p (.int .i64 (-1))) H2)
 (fieldAddrV tab 25 v2 3 fun v11 =>
 loadV tab 23 v11 H2 fun v12 =>
 CallT Try.prog 18 [v12, v8] H2 fun v14 H3 =>
 binV tab .lss 3 v14 (AV.p (.int .i64 0)) fun v16 =>
 condV v16 (K (AV.p (.int .i64 (-1))) H3)
 (K v14 H3))
theorem W4_wp (v0 : AV) (v1 : AV) (H : Heap) (K : AV → Heap → Prop) : wpC Try.prog tab D4 (bodyOf Try.f4) (retF tab [.tmp 4] K) (nthA [v0, v1]) H = W4 v0 v1 H K := by kernel_rfl
theorem W4_ok {v0 v1 : AV} {H : Heap} {K : AV → Heap → Prop} (h : W4 v0 v1 H K) : CallT Try.prog 4 [v0, v1] H K :=
  CallT.of_wp (D := D4) tab_ok mixed Try.func4 (c := bodyOf Try.f4) (by kernel_rfl) rfl (by kernel_rfl) (rs := #[.tmp 4]) rfl (by decide +kernel) (by kernel_rfl) (W4_wp v0 v1 H K) h
/-- loop.example/g00649/laws.szNodeSS -/
def D5 : Info := ⟨27, fun i => ([], []), fun i => if i = 5 then ([0], [1, 5]) else ([], [])⟩
def L5_0 (K : AV → Heap → Prop) (v0 : AV) (v1 : AV) (v5 : AV) (H : Heap) : Prop := LoopV (wpC Try.prog tab D5 (cAt [1, 1, 1, 0, 1, 0, 0] (bodyOf Try.f5))) [0] (PostF.block 0 (PostF.thenA (wpC Try.prog tab D5 (cAt [1, 1, 1, 1] (bodyOf Try.f5))) (retF tab [.tmp 4] K))) [1, 5] [v0, v1, AV.any, AV.any, AV.any, v5, AV.any, AV.any, AV.any, AV.any, AV.any, AV.any, AV.any, AV.any, AV.any, AV.any, AV.any, AV.any, AV.any, AV.any, AV.any, AV.any, AV.any, AV.any, AV.any, AV.any, AV.any] H
def B5_0 (K : AV → Heap → Prop) (N1 : AV → AV → Heap → Prop) (v0 : AV) (v1 : AV) (v5 : AV) (H : Heap) : Prop :=
 lenV tab 26 v0 fun v14 =>
 binV tab .lss 3 v5 v14 fun v15 =>
 condV v15 (indexAddrV tab 26 v0 v5 fun v20 =>
 loadV tab 22 v20 H fun v21 =>
 CallT Try.prog 17 [v21, v1] H fun v23 H1 =>
 binV tab .lss 3 v23 (AV.p (.int .i64 0)) fun v25 =>
 condV v25 (K (AV.p (.int .i64 (-1))) H1)
 (binV tab .add 3 v5 (AV.p (.int .i64 1)) fun v17 =>
 N1 v23 v17 H1))
 (K v1 H)
def W5 (v0 : AV) (v1 : AV) (H : Heap) (K : AV → Heap → Prop) : Prop :=
 lenV tab 26 v0 fun v8 =>
 binV tab .sub 3 v1 v8 fun v9 =>
 binV tab .lss 3 v9 (AV.p (.int .i64 0)) fun v11 =>
 condV v11 (K (AV.p (.int .i64 (-1))) H)
 (L5_0 K v0 v9 (AV.p (.int .i64 0)) H)
theorem W5_wp (v0 : AV) (v1 : AV) (H : Heap) (K : AV → Heap → Prop) : wpC Try.prog tab D5 (bodyOf Try.f5) (retF tab [.tmp 4] K) (nthA [v0, v1]) H = W5 v0 v1 H K := by kernel_rfl
theorem W5_ok {v0 v1 : AV} {H : Heap} {K : AV → Heap → Prop} (h : W5 v0 v1 H K) : CallT Try.prog 5 [v0, v1] H K :=
  CallT.of_wp (D := D5) tab_ok mixed Try.func5 (c := bodyOf Try.f5) (by kernel_rfl) rfl (by kernel_rfl) (rs := #[.tmp 4]) rfl (by decide +kernel) (by kernel_rfl) (W5_wp v0 v1 H K) h
theorem L5_0_rule {K : AV → Heap → Prop} {v0 v1 v5 : AV} {H : Heap} {σ : Type} (s0 : σ) (f1 : σ → AV) (f5 : σ → AV) (TH : σ → Heap) (pre : σ → Prop) (μ : σ → Nat)
    (h0 : pre s0 ∧ AV.wk v1 (f1 s0) ∧ AV.wk v5 (f5 s0) ∧ Heap.le (TH s0) H)
    (round : ∀ s, pre s → B5_0 K (fun w1 w5 H' => ∃ s', pre s' ∧ μ s' < μ s ∧ AV.wk w1 (f1 s') ∧ AV.wk w5 (f5 s') ∧ Heap.le (TH s') H') v0 (f1 s) (f5 s) (TH s)) :
    L5_0 K v0 v1 v5 H := by
  unfold L5_0
  exact LoopV.mk s0 (fun s => [f1 s, f5 s]) TH pre μ (fun _ => rfl) (Eq.mp (by kernel_rfl) h0) (fun s hs => Eq.mp (by kernel_rfl) (round s hs))
/-- loop.example/g00649/spec.CubeOf -/
def D6 : Info := ⟨62, fun i => if i = 8 then ([[], [], [], [], [2, 3], [0, 1, 2, 3, 4], [0, 1, 2, 3, 4, 5]], [(0, []), (1, []), (2, []), (3, []), (4, [0]), (5, []), (6, [])]) else ([], []), fun i => if i = 5 then ([2, 3, 26, 27], [8, 28]) else ([], [])⟩
def L6_0 (K : AV → Heap → Prop) (v2 : AV) (v3 : AV) (v8 : AV) (v26 : AV) (v27 : AV) (v28 : AV) (H : Heap) : Prop := LoopV (wpC Try.prog tab D6 (cAt [1, 1, 1, 0, 1, 0, 0] (bodyOf Try.f6))) [2, 3, 26, 27] (PostF.block 0 (PostF.thenA (wpC Try.prog tab D6 (cAt [1, 1, 1, 1] (bodyOf Try.f6))) (retF tab [.tmp 6, .tmp 7] K))) [8, 28] [AV.any, AV.any, v2, v3, AV.any, AV.any, AV.any, AV.any, v8, AV.any, AV.any, AV.any, AV.any, AV.any, AV.any, AV.any, AV.any, AV.any, AV.any, AV.any, AV.any, AV.any, AV.any, AV.any, AV.any, AV.any, v26, v27, v28, AV.any, AV.any, AV.any, AV.any, AV.any, AV.any, AV.any, AV.any, AV.any, AV.any, AV.any, AV.any, AV.any, AV.any, AV.any, AV.any, AV.any, AV.any, AV.any, AV.any, AV.any, AV.any, AV.any, AV.any, AV.any, AV.any, AV.any, AV.any, AV.any, AV.any, AV.any, AV.any, AV.any] H
def J6_1 (K : AV → Heap → Prop) (N1 : AV → AV → Heap → Prop) (v2 : AV) (v3 : AV) (v8 : AV) (v9 : AV) (v26 : AV) (v27 : AV) (v28 : AV) (H : Heap) : Prop :=
 binV tab .gtr 3 v9 (AV.p (.int .i64 0)) fun v48 =>
 condV v48 (buildV tab 54 [(0, (AV.p (.int .i64 17)))] fun v50 =>
 buildSliceV tab 29 1 [(0, v50)] H (wkK fun v51 H9 =>
 appendV tab 29 29 v8 v51 H9 (wkK fun v52 H10 =>
 binV tab .add 3 v28 (AV.p (.int .i64 1)) fun v53 =>
 N1 v52 v53 H10)))
 (binV tab .add 3 v28 (AV.p (.int .i64 1)) fun v53 =>
 N1 v8 v53 H)
def B6_0 (K : AV → Heap → Prop) (N1 : AV → AV → Heap → Prop) (v2 : AV) (v3 : AV) (v8 : AV) (v26 : AV) (v27 : AV) (v28 : AV) (H : Heap) : Prop :=
 binV tab .lss 3 v28 v27 fun v29 =>
 condV v29 (indexAddrV tab 36 v26 v28 fun v31 =>
 loadV tab 29 v31 H fun v32 =>
 appendV tab 29 29 v8 v32 H (wkK fun v35 H4 =>
 loadV tab 34 v3 H4 fun v36 =>
 loadV tab 34 v3 H4 fun v38 =>
 CallT Try.prog 22 [v38, v2] H4 fun v40 H5 =>
 (loadV tab 34 v3 H5 fun v9036 =>
 v36 = v9036) ∧
 CallT Try.prog 21 [v36, v32, v40] H5 fun v41 H6 =>
 unV .not v41 fun v42 =>
 condV v42 (buildV tab 54 [(0, (AV.p (.int .i64 19)))] fun v44 =>
 buildSliceV tab 29 1 [(0, v44)] H6 (wkK fun v45 H7 =>
 appendV tab 29 29 v35 v45 H7 (wkK fun v46 H8 =>
 J6_1 K N1 v2 v3 v46 v28 v26 v27 v28 H8)))
 (J6_1 K N1 v2 v3 v35 v28 v26 v27 v28 H6)))
 (fieldAddrV tab 34 v3 0 fun v54 =>
 loadV tab 3 v54 H fun v55 =>
 fieldAddrV tab 34 v3 1 fun v56 =>
 loadV tab 3 v56 H fun v57 =>
 CallT Try.prog 23 [v55, v57, v8] H fun v59 H11 =>
 extractV v59 0 fun v60 =>
 extractV v59 1 fun v61 =>
 K (.tup [v60, v61]) H11)
def W6 (v0 : AV) (v1 : AV) (v2 : AV) (H : Heap) (K : AV → Heap → Prop) : Prop :=
 boxV v0 H fun v3 H1 =>
 loadV tab 34 v3 H1 fun v11 =>
 CallT Try.prog 19 [v11, v2] H1 fun v13 H2 =>
 unV .not v13 fun v14 =>
 grdV v14 false (loadV tab 34 v3 H2 fun v16 =>
 CallT Try.prog 20 [v16, v1] H2 fun v18 H3 =>
 unV .not v18 fun v19 =>
 grdV v19 false (lenV tab 36 v1 fun v23 =>
 binV tab .eql 3 v23 (AV.p (.int .i64 0)) fun v24 =>
 condV v24 (K (.tup [(AV.p .nil), (AV.p (.bool false))]) H3)
 (lenV tab 36 v1 fun v27 =>
 L6_0 K v2 v3 (AV.p .nil) v1 v27 (AV.p (.int .i64 0)) H3))
 (K (.tup [(AV.p .nil), (AV.p (.bool false))]) H3))
 (K (.tup [(AV.p .nil), (AV.p (.bool false))]) H2)
theorem W6_wp (v0 : AV) (v1 : AV) (v2 : AV) (H : Heap) (K : AV → Heap → Prop) : wpC Try.prog tab D6 (bodyOf Try.f6) (retF tab [.tmp 6, .tmp 7] K) (nthA [v0, v1, v2]) H = W6 v0 v1 v2 H K := by kernel_rfl
theorem W6_ok {v0 v1 v2 : AV} {H : Heap} {K : AV → Heap → Prop} (h : W6 v0 v1 v2 H K) : CallT Try.prog 6 [v0, v1, v2] H K :=
  CallT.of_wp (D := D6) tab_ok mixed Try.func6 (c := bodyOf Try.f6) (by kernel_rfl) rfl (by kernel_rfl) (rs := #[.tmp 6, .tmp 7]) rfl (by decide +kernel) (by kernel_rfl) (W6_wp v0 v1 v2 H K) h
theorem W6_hb : HasBody Try.prog 6 := ⟨_, bodyOf Try.f6, Try.func6, by kernel_rfl, rfl⟩
theorem L6_0_rule {K : AV → Heap → Prop} {v2 v3 v8 v26 v27 v28 : AV} {H : Heap} {σ : Type} (s0 : σ) (f8 : σ → AV) (f28 : σ → AV) (TH : σ → Heap) (pre : σ → Prop) (μ : σ → Nat)
    (h0 : pre s0 ∧ AV.wk v8 (f8 s0) ∧ AV.wk v28 (f28 s0) ∧ Heap.le (TH s0) H)
    (round : ∀ s, pre s → B6_0 K (fun w8 w28 H' => ∃ s', pre s' ∧ μ s' < μ s ∧ AV.wk w8 (f8 s') ∧ AV.wk w28 (f28 s') ∧ Heap.le (TH s') H') v2 v3 (f8 s) v26 v27 (f28 s) (TH s)) :
    L6_0 K v2 v3 v8 v26 v27 v28 H := by
  unfold L6_0
  exact LoopV.mk s0 (fun s => [f8 s, f28 s]) TH pre μ (fun _ => rfl) (Eq.mp (by kernel_rfl) h0) (fun s hs => Eq.mp (by kernel_rfl) (round s hs))
/-- loop.example/g00649/laws.toProgram -/
def D7 : Info := ⟨19, fun i => ([], []), fun i => ([], [])⟩
def W7 (v0 : AV) (H : Heap) (K : AV → Heap → Prop) : Prop :=
 boxV v0 H fun v1 H1 =>
 allocV tab 34 H1 fun v2 H2 =>
 allocV tab 34 H2 fun v3 H3 =>
 fieldAddrV tab 25 v1 0 fun v4 =>
 loadV tab 3 v4 H3 fun v5 =>
 fieldAddrV tab 34 v3 0 fun v6 =>
 storeV tab 3 v6 v5 H3 fun H4 =>
 fieldAddrV tab 25 v1 1 fun v7 =>
 loadV tab 3 v7 H4 fun v8 =>
 fieldAddrV tab 34 v3 1 fun v9 =>
 storeV tab 3 v9 v8 H4 fun H5 =>
 fieldAddrV tab 25 v1 2 fun v10 =>
 loadV tab 22 v10 H5 fun v11 =>
 CallT Try.prog 24 [v11] H5 fun v12 H6 =>
 fieldAddrV tab 34 v3 2 fun v13 =>
 storeV tab 29 v13 v12 H6 fun H7 =>
 fieldAddrV tab 25 v1 3 fun v14 =>
 loadV tab 23 v14 H7 fun v15 =>
 CallT Try.prog 25 [v15] H7 fun v16 H8 =>
 fieldAddrV tab 34 v3 3 fun v17 =>
 storeV tab 32 v17 v16 H8 fun H9 =>
 loadV tab 34 v3 H9 fun v18 =>
 storeV tab 34 v2 v18 H9 fun H10 =>
 loadV tab 34 v2 H10 fun r0 =>
 K r0 H10
theorem W7_wp (v0 : AV) (H : Heap) (K : AV → Heap → Prop) : wpC Try.prog tab D7 (bodyOf Try.f7) (retF tab [.cell 2 34] K) (nthA [v0]) H = W7 v0 H K := by kernel_rfl
theorem W7_ok {v0 : AV} {H : Heap} {K : AV → Heap → Prop} (h : W7 v0 H K) : CallT Try.prog 7 [v0] H K :=
  CallT.of_wp (D := D7) tab_ok mixed Try.func7 (c := bodyOf Try.f7) (by kernel_rfl) rfl (by kernel_rfl) (rs := #[.cell 2 34]) rfl (by decide +kernel) (by kernel_rfl) (W7_wp v0 H K) h
/-- loop.example/g00649/laws.toNodeSS -/
def D8 : Info := ⟨23, fun i => ([], []), fun i => if i = 3 then ([0, 3], [4]) else ([], [])⟩
def L8_0 (K : AV → Heap → Prop) (v0 : AV) (v3 : AV) (v4 : AV) (H : Heap) : Prop := LoopV (wpC Try.prog tab D8 (cAt [1, 1, 0, 1, 0, 0] (bodyOf Try.f8))) [0, 3] (PostF.block 0 (PostF.thenA (wpC Try.prog tab D8 (cAt [1, 1, 1] (bodyOf Try.f8))) (retF tab [.tmp 2] K))) [4] [v0, AV.any, AV.any, v3, v4, AV.any, AV.any, AV.any, AV.any, AV.any, AV.any, AV.any, AV.any, AV.any, AV.any, AV.any, AV.any, AV.any, AV.any, AV.any, AV.any, AV.any, AV.any] H
def B8_0 (K : AV → Heap → Prop) (N1 : AV → Heap → Prop) (v0 : AV) (v3 : AV) (v4 : AV) (H : Heap) : Prop :=
 lenV tab 26 v0 fun v10 =>
 binV tab .lss 3 v4 v10 fun v11 =>
 condV v11 (indexAddrV tab 26 v0 v4 fun v18 =>
 loadV tab 22 v18 H fun v19 =>
 CallT Try.prog 24 [v19] H fun v20 H2 =>
 indexAddrV tab 36 v3 v4 fun v21 =>
 storeV tab 29 v21 v20 H2 fun H3 =>
 binV tab .add 3 v4 (AV.p (.int .i64 1)) fun v13 =>
 N1 v13 H3)
 (K v3 H)
def W8 (v0 : AV) (H : Heap) (K : AV → Heap → Prop) : Prop :=
 lenV tab 26 v0 fun v6 =>
 makeSliceV tab 36 v6 v6 H fun v7 H1 =>
 L8_0 K v0 v7 (AV.p (.int .i64 0)) H1
theorem W8_wp (v0 : AV) (H : Heap) (K : AV → Heap → Prop) : wpC Try.prog tab D8 (bodyOf Try.f8) (retF tab [.tmp 2] K) (nthA [v0]) H = W8 v0 H K := by kernel_rfl
theorem W8_ok {v0 : AV} {H : Heap} {K : AV → Heap → Prop} (h : W8 v0 H K) : CallT Try.prog 8 [v0] H K :=
  CallT.of_wp (D := D8) tab_ok mixed Try.func8 (c := bodyOf Try.f8) (by kernel_rfl) rfl (by kernel_rfl) (rs := #[.tmp 2]) rfl (by decide +kernel) (by kernel_rfl) (W8_wp v0 H K) h
theorem L8_0_rule {K : AV → Heap → Prop} {v0 v3 v4 : AV} {H : Heap} {σ : Type} (s0 : σ) (f4 : σ → AV) (TH : σ → Heap) (pre : σ → Prop) (μ : σ → Nat)
    (h0 : pre s0 ∧ AV.wk v4 (f4 s0) ∧ Heap.le (TH s0) H)
    (round : ∀ s, pre s → B8_0 K (fun w4 H' => ∃ s', pre s' ∧ μ s' < μ s ∧ AV.wk w4 (f4 s') ∧ Heap.le (TH s') H') v0 v3 (f4 s) (TH s)) :
    L8_0 K v0 v3 v4 H := by
  unfold L8_0
  exact LoopV.mk s0 (fun s => [f4 s]) TH pre μ (fun _ => rfl) (Eq.mp (by kernel_rfl) h0) (fun s hs => Eq.mp (by kernel_rfl) (round s hs))
/-- loop.example/g00649/impl.CubeOf -/
def D9 : Info := ⟨58, fun i => if i = 8 then ([[], [], [], [], [2, 3], [0, 1, 2, 3, 4], [0, 1, 2, 3, 4, 5]], [(0, []), (1, []), (2, []), (3, []), (4, [0]), (5, []), (6, [])]) else ([], []), fun i => if i = 5 then ([2, 3, 22, 23], [8, 24]) else ([], [])⟩
def L9_0 (K : AV → Heap → Prop) (v2 : AV) (v3 : AV) (v8 : AV) (v22 : AV) (v23 : AV) (v24 : AV) (H : Heap) : Prop := LoopV (wpC Try.prog tab D9 (cAt [1, 1, 1, 0, 1, 0, 0] (bodyOf Try.f9))) [2, 3, 22, 23] (PostF.block 0 (PostF.thenA (wpC Try.prog tab D9 (cAt [1, 1, 1, 1] (bodyOf Try.f9))) (retF tab [.tmp 6, .tmp 7] K))) [8, 24] [AV.any, AV.any, v2, v3, AV.any, AV.any, AV.any, AV.any, v8, AV.any, AV.any, AV.any, AV.any, AV.any, AV.any, AV.any, AV.any, AV.any, AV.any, AV.any, AV.any, AV.any, v22, v23, v24, AV.any, AV.any, AV.any, AV.any, AV.any, AV.any, AV.any, AV.any, AV.any, AV.any, AV.any, AV.any, AV.any, AV.any, AV.any, AV.any, AV.any, AV.any, AV.any, AV.any, AV.any, AV.any, AV.any, AV.any, AV.any, AV.any, AV.any, AV.any, AV.any, AV.any, AV.any, AV.any, AV.any] H
def J9_1 (K : AV → Heap → Prop) (N1 : AV → AV → Heap → Prop) (v2 : AV) (v3 : AV) (v8 : AV) (v9 : AV) (v22 : AV) (v23 : AV) (v24 : AV) (H : Heap) : Prop :=
 binV tab .gtr 3 v9 (AV.p (.int .i64 0)) fun v44 =>
 condV v44 (buildV tab 54 [(0, (AV.p (.int .i64 17)))] fun v46 =>
 buildSliceV tab 29 1 [(0, v46)] H (wkK fun v47 H10 =>
 appendV tab 29 29 v8 v47 H10 (wkK fun v48 H11 =>
 binV tab .add 3 v24 (AV.p (.int .i64 1)) fun v49 =>
 N1 v48 v49 H11)))
 (binV tab .add 3 v24 (AV.p (.int .i64 1)) fun v49 =>
 N1 v8 v49 H)
def B9_0 (K : AV → Heap → Prop) (N1 : AV → AV → Heap → Prop) (v2 : AV) (v3 : AV) (v8 : AV) (v22 : AV) (v23 : AV) (v24 : AV) (H : Heap) : Prop :=
 binV tab .lss 3 v24 v23 fun v25 =>
 condV v25 (indexAddrV tab 36 v22 v24 fun v27 =>
 loadV tab 29 v27 H fun v28 =>
 appendV tab 29 29 v8 v28 H (wkK fun v31 H5 =>
 loadV tab 34 v3 H5 fun v32 =>
 loadV tab 34 v3 H5 fun v34 =>
 CallT Try.prog 29 [v34, v2] H5 fun v36 H6 =>
 (loadV tab 34 v3 H6 fun v9032 =>
 v32 = v9032) ∧
 CallT Try.prog 28 [v32, v28, v36] H6 fun v37 H7 =>
 unV .not v37 fun v38 =>
 condV v38 (buildV tab 54 [(0, (AV.p (.int .i64 19)))] fun v40 =>
 buildSliceV tab 29 1 [(0, v40)] H7 (wkK fun v41 H8 =>
 appendV tab 29 29 v31 v41 H8 (wkK fun v42 H9 =>
 J9_1 K N1 v2 v3 v42 v24 v22 v23 v24 H9)))
 (J9_1 K N1 v2 v3 v31 v24 v22 v23 v24 H7)))
 (fieldAddrV tab 34 v3 0 fun v50 =>
 loadV tab 3 v50 H fun v51 =>
 fieldAddrV tab 34 v3 1 fun v52 =>
 loadV tab 3 v52 H fun v53 =>
 CallT Try.prog 30 [v51, v53, v8] H fun v55 H12 =>
 extractV v55 0 fun v56 =>
 extractV v55 1 fun v57 =>
 K (.tup [v56, v57]) H12)
def W9 (v0 : AV) (v1 : AV) (v2 : AV) (H : Heap) (K : AV → Heap → Prop) : Prop :=
 boxV v0 H fun v3 H1 =>
 loadV tab 34 v3 H1 fun v11 =>
 CallT Try.prog 26 [v11, v2] H1 fun v13 H2 =>
 unV .not v13 fun v14 =>
 grdV v14 false (loadV tab 34 v3 H2 fun v16 =>
 CallT Try.prog 27 [v16, v1, (AV.p (.int .i64 1))] H2 fun v18 H3 =>
 unV .not v18 fun v19 =>
 condV v19 (K (.tup [(AV.p .nil), (AV.p (.bool false))]) H3)
 (buildSliceV tab 29 0 [] H3 (wkK fun v21 H4 =>
 lenV tab 36 v1 fun v23 =>
 L9_0 K v2 v3 v21 v1 v23 (AV.p (.int .i64 0)) H4)))
 (K (.tup [(AV.p .nil), (AV.p (.bool false))]) H2)
theorem W9_wp (v0 : AV) (v1 : AV) (v2 : AV) (H : Heap) (K : AV → Heap → Prop) : wpC Try.prog tab D9 (bodyOf Try.f9) (retF tab [.tmp 6, .tmp 7] K) (nthA [v0, v1, v2]) H = W9 v0 v1 v2 H K := by kernel_rfl
theorem W9_ok {v0 v1 v2 : AV} {H : Heap} {K : AV → Heap → Prop} (h : W9 v0 v1 v2 H K) : CallT Try.prog 9 [v0, v1, v2] H K :=
  CallT.of_wp (D := D9) tab_ok mixed Try.func9 (c := bodyOf Try.f9) (by kernel_rfl) rfl (by kernel_rfl) (rs := #[.tmp 6, .tmp 7]) rfl (by decide +kernel) (by kernel_rfl) (W9_wp v0 v1 v2 H K) h
theorem L9_0_rule {K : AV → Heap → Prop} {v2 v3 v8 v22 v23 v24 : AV} {H : Heap} {σ : Type} (s0 : σ) (f8 : σ → AV) (f24 : σ → AV) (TH : σ → Heap) (pre : σ → Prop) (μ : σ → Nat)
    (h0 : pre s0 ∧ AV.wk v8 (f8 s0) ∧ AV.wk v24 (f24 s0) ∧ Heap.le (TH s0) H)
    (round : ∀ s, pre s → B9_0 K (fun w8 w24 H' => ∃ s', pre s' ∧ μ s' < μ s ∧ AV.wk w8 (f8 s') ∧ AV.wk w24 (f24 s') ∧ Heap.le (TH s') H') v2 v3 (f8 s) v22 v23 (f24 s) (TH s)) :
    L9_0 K v2 v3 v8 v22 v23 v24 H := by
  unfold L9_0
  exact LoopV.mk s0 (fun s => [f8 s, f24 s]) TH pre μ (fun _ => rfl) (Eq.mp (by kernel_rfl) h0) (fun s hs => Eq.mp (by kernel_rfl) (round s hs))
/-- loop.example/g00649/laws.eqNodeS -/
def D10 : Info := ⟨27, fun i => if i = 6 then ([[], [], [0, 1], [0, 1, 2], [], [], [4, 5], [4, 5, 6], [0, 1, 2, 3, 4, 5, 6, 7], [0, 1, 2, 3, 4, 5, 6, 7, 8]], [(0, []), (1, []), (2, []), (3, []), (4, []), (5, []), (6, []), (7, []), (8, []), (9, [])]) else ([], []), fun i => if i = 4 then ([0, 1], [5]) else ([], [])⟩
def L10_0 (K : AV → Heap → Prop) (v0 : AV) (v1 : AV) (v5 : AV) (H : Heap) : Prop := LoopV (wpC Try.prog tab D10 (cAt [1, 1, 0, 1, 0, 0] (bodyOf Try.f10))) [0, 1] (PostF.block 0 (PostF.thenA (wpC Try.prog tab D10 (cAt [1, 1, 1] (bodyOf Try.f10))) (retF tab [.tmp 4] K))) [5] [v0, v1, AV.any, AV.any, AV.any, v5, AV.any, AV.any, AV.any, AV.any, AV.any, AV.any, AV.any, AV.any, AV.any, AV.any, AV.any, AV.any, AV.any, AV.any, AV.any, AV.any, AV.any, AV.any, AV.any, AV.any, AV.any] H
def B10_0 (K : AV → Heap → Prop) (N1 : AV → Heap → Prop) (v0 : AV) (v1 : AV) (v5 : AV) (H : Heap) : Prop :=
 lenV tab 29 v0 fun v13 =>
 binV tab .lss 3 v5 v13 fun v14 =>
 condV v14 (indexAddrV tab 29 v0 v5 fun v19 =>
 loadV tab 54 v19 H fun v20 =>
 indexAddrV tab 29 v1 v5 fun v23 =>
 loadV tab 54 v23 H fun v24 =>
 CallT Try.prog 31 [v20, v24] H fun v25 H1 =>
 unV .not v25 fun v26 =>
 condV v26 (K (AV.p (.bool false)) H1)
 (binV tab .add 3 v5 (AV.p (.int .i64 1)) fun v16 =>
 N1 v16 H1))
 (K (AV.p (.bool true)) H)
def W10 (v0 : AV) (v1 : AV) (H : Heap) (K : AV → Heap → Prop) : Prop :=
 lenV tab 29 v0 fun v7 =>
 lenV tab 29 v1 fun v9 =>
 binV tab .neq 3 v7 v9 fun v10 =>
 condV v10 (K (AV.p (.bool false)) H)
 (L10_0 K v0 v1 (AV.p (.int .i64 0)) H)
theorem W10_wp (v0 : AV) (v1 : AV) (H : Heap) (K : AV → Heap → Prop) : wpC Try.prog tab D10 (bodyOf Try.f10) (retF tab [.tmp 4] K) (nthA [v0, v1]) H = W10 v0 v1 H K := by kernel_rfl
theorem W10_ok {v0 v1 : AV} {H : Heap} {K : AV → Heap → Prop} (h : W10 v0 v1 H K) : CallT Try.prog 10 [v0, v1] H K :=
  CallT.of_wp (D := D10) tab_ok mixed Try.func10 (c := bodyOf Try.f10) (by kernel_rfl) rfl (by kernel_rfl) (rs := #[.tmp 4]) rfl (by decide +kernel) (by kernel_rfl) (W10_wp v0 v1 H K) h
theorem L10_0_rule {K : AV → Heap → Prop} {v0 v1 v5 : AV} {H : Heap} {σ : Type} (s0 : σ) (f5 : σ → AV) (TH : σ → Heap) (pre : σ → Prop) (μ : σ → Nat)
    (h0 : pre s0 ∧ AV.wk v5 (f5 s0) ∧ Heap.le (TH s0) H)
    (round : ∀ s, pre s → B10_0 K (fun w5 H' => ∃ s', pre s' ∧ μ s' < μ s ∧ AV.wk w5 (f5 s') ∧ Heap.le (TH s') H') v0 v1 (f5 s) (TH s)) :
    L10_0 K v0 v1 v5 H := by
  unfold L10_0
  exact LoopV.mk s0 (fun s => [f5 s]) TH pre μ (fun _ => rfl) (Eq.mp (by kernel_rfl) h0) (fun s hs => Eq.mp (by kernel_rfl) (round s hs))
/-- loop.example/g00649/laws.eqProgram -/
def D11 : Info := ⟨27, fun i => ([], []), fun i => ([], [])⟩
def W11 (v0 : AV) (v1 : AV) (H : Heap) (K : AV → Heap → Prop) : Prop :=
 boxV v0 H fun v2 H1 =>
 boxV v1 H1 fun v3 H2 =>
 fieldAddrV tab 34 v2 0 fun v5 =>
 loadV tab 3 v5 H2 fun v6 =>
 fieldAddrV tab 34 v3 0 fun v7 =>
 loadV tab 3 v7 H2 fun v8 =>
 binV tab .neq 3 v6 v8 fun v9 =>
 condV v9 (K (AV.p (.bool false)) H2)
 (fieldAddrV tab 34 v2 1 fun v10 =>
 loadV tab 3 v10 H2 fun v11 =>
 fieldAddrV tab 34 v3 1 fun v12 =>
 loadV tab 3 v12 H2 fun v13 =>
 binV tab .neq 3 v11 v13 fun v14 =>
 condV v14 (K (AV.p (.bool false)) H2)
 (fieldAddrV tab 34 v2 2 fun v15 =>
 loadV tab 29 v15 H2 fun v16 =>
 fieldAddrV tab 34 v3 2 fun v17 =>
 loadV tab 29 v17 H2 fun v18 =>
 CallT Try.prog 10 [v16, v18] H2 fun v19 H3 =>
 unV .not v19 fun v20 =>
 condV v20 (K (AV.p (.bool false)) H3)
 (fieldAddrV tab 34 v2 3 fun v21 =>
 loadV tab 32 v21 H3 fun v22 =>
 fieldAddrV tab 34 v3 3 fun v23 =>
 loadV tab 32 v23 H3 fun v24 =>
 CallT Try.prog 32 [v22, v24] H3 fun v25 H4 =>
 unV .not v25 fun v26 =>
 condV v26 (K (AV.p (.bool false)) H4)
 (K (AV.p (.bool true)) H4))))
theorem W11_wp (v0 : AV) (v1 : AV) (H : Heap) (K : AV → Heap → Prop) : wpC Try.prog tab D11 (bodyOf Try.f11) (retF tab [.tmp 4] K) (nthA [v0, v1]) H = W11 v0 v1 H K := by kernel_rfl
theorem W11_ok {v0 v1 : AV} {H : Heap} {K : AV → Heap → Prop} (h : W11 v0 v1 H K) : CallT Try.prog 11 [v0, v1] H K :=
  CallT.of_wp (D := D11) tab_ok mixed Try.func11 (c := bodyOf Try.f11) (by kernel_rfl) rfl (by kernel_rfl) (rs := #[.tmp 4]) rfl (by decide +kernel) (by kernel_rfl) (W11_wp v0 v1 H K) h
/-- loop.example/g00649/laws.eqNodeSS -/
def D12 : Info := ⟨27, fun i => if i = 6 then ([[], [], [0, 1], [0, 1, 2], [], [], [4, 5], [4, 5, 6], [0, 1, 2, 3, 4, 5, 6, 7], [0, 1, 2, 3, 4, 5, 6, 7, 8]], [(0, []), (1, []), (2, []), (3, []), (4, []), (5, []), (6, []), (7, []), (8, []), (9, [])]) else ([], []), fun i => if i = 4 then ([0, 1], [5]) else ([], [])⟩
def L12_0 (K : AV → Heap → Prop) (v0 : AV) (v1 : AV) (v5 : AV) (H : Heap) : Prop := LoopV (wpC Try.prog tab D12 (cAt [1, 1, 0, 1, 0, 0] (bodyOf Try.f12))) [0, 1] (PostF.block 0 (PostF.thenA (wpC Try.prog tab D12 (cAt [1, 1, 1] (bodyOf Try.f12))) (retF tab [.tmp 4] K))) [5] [v0, v1, AV.any, AV.any, AV.any, v5, AV.any, AV.any, AV.any, AV.any, AV.any, AV.any, AV.any, AV.any, AV.any, AV.any, AV.any, AV.any, AV.any, AV.any, AV.any, AV.any, AV.any, AV.any, AV.any, AV.any, AV.any] H
def B12_0 (K : AV → Heap → Prop) (N1 : AV → Heap → Prop) (v0 : AV) (v1 : AV) (v5 : AV) (H : Heap) : Prop :=
 lenV tab 36 v0 fun v13 =>
 binV tab .lss 3 v5 v13 fun v14 =>
 condV v14 (indexAddrV tab 36 v0 v5 fun v19 =>
 loadV tab 29 v19 H fun v20 =>
 indexAddrV tab 36 v1 v5 fun v23 =>
 loadV tab 29 v23 H fun v24 =>
 CallT Try.prog 10 [v20, v24] H fun v25 H1 =>
 unV .not v25 fun v26 =>
 condV v26 (K (AV.p (.bool false)) H1)
 (binV tab .add 3 v5 (AV.p (.int .i64 1)) fun v16 =>
 N1 v16 H1))
 (K (AV.p (.bool true)) H)
def W12 (v0 : AV) (v1 : AV) (H : Heap) (K : AV → Heap → Prop) : Prop :=
 lenV tab 36 v0 fun v7 =>
 lenV tab 36 v1 fun v9 =>
 binV tab .neq 3 v7 v9 fun v10 =>
 condV v10 (K (AV.p (.bool false)) H)
 (L12_0 K v0 v1 (AV.p (.int .i64 0)) H)
theorem W12_wp (v0 : AV) (v1 : AV) (H : Heap) (K : AV → Heap → Prop) : wpC Try.prog tab D12 (bodyOf Try.f12) (retF tab [.tmp 4] K) (nthA [v0, v1]) H = W12 v0 v1 H K := by kernel_rfl
theorem W12_ok {v0 v1 : AV} {H : Heap} {K : AV → Heap → Prop} (h : W12 v0 v1 H K) : CallT Try.prog 12 [v0, v1] H K :=
  CallT.of_wp (D := D12) tab_ok mixed Try.func12 (c := bodyOf Try.f12) (by kernel_rfl) rfl (by kernel_rfl) (rs := #[.tmp 4]) rfl (by decide +kernel) (by kernel_rfl) (W12_wp v0 v1 H K) h
theorem L12_0_rule {K : AV → Heap → Prop} {v0 v1 v5 : AV} {H : Heap} {σ : Type} (s0 : σ) (f5 : σ → AV) (TH : σ → Heap) (pre : σ → Prop) (μ : σ → Nat)
    (h0 : pre s0 ∧ AV.wk v5 (f5 s0) ∧ Heap.le (TH s0) H)
    (round : ∀ s, pre s → B12_0 K (fun w5 H' => ∃ s', pre s' ∧ μ s' < μ s ∧ AV.wk w5 (f5 s') ∧ Heap.le (TH s') H') v0 v1 (f5 s) (TH s)) :
    L12_0 K v0 v1 v5 H := by
  unfold L12_0
  exact LoopV.mk s0 (fun s => [f5 s]) TH pre μ (fun _ => rfl) (Eq.mp (by kernel_rfl) h0) (fun s hs => Eq.mp (by kernel_rfl) (round s hs))
/-- loop.example/g00649/laws.markProgram -/
def D13 : Info := ⟨14, fun i => ([], []), fun i => ([], [])⟩
def W13 (v0 : AV) (v1 : AV) (H : Heap) (K : AV → Heap → Prop) : Prop :=
 boxV v0 H fun v2 H1 =>
 fieldAddrV tab 34 v2 2 fun v5 =>
 loadV tab 29 v5 H1 fun v6 =>
 CallT Try.prog 15 [v6, v1] H1 fun v8 H2 =>
 fieldAddrV tab 34 v2 3 fun v9 =>
 loadV tab 32 v9 H2 fun v10 =>
 CallT Try.prog 33 [v10, v8] H2 fun v12 H3 =>
 K v12 H3
theorem W13_wp (v0 : AV) (v1 : AV) (H : Heap) (K : AV → Heap → Prop) : wpC Try.prog tab D13 (bodyOf Try.f13) (retF tab [.tmp 4] K) (nthA [v0, v1]) H = W13 v0 v1 H K := by kernel_rfl
theorem W13_ok {v0 v1 : AV} {H : Heap} {K : AV → Heap → Prop} (h : W13 v0 v1 H K) : CallT Try.prog 13 [v0, v1] H K :=
  CallT.of_wp (D := D13) tab_ok mixed Try.func13 (c := bodyOf Try.f13) (by kernel_rfl) rfl (by kernel_rfl) (rs := #[.tmp 4]) rfl (by decide +kernel) (by kernel_rfl) (W13_wp v0 v1 H K) h
/-- loop.example/g00649/laws.markNodeSS -/
def D14 : Info := ⟨19, fun i => ([], []), fun i => if i = 2 then ([0], [1, 5]) else ([], [])⟩
def L14_0 (K : AV → Heap → Prop) (v0 : AV) (v1 : AV) (v5 : AV) (H : Heap) : Prop := LoopV (wpC Try.prog tab D14 (cAt [1, 0, 1, 0, 0] (bodyOf Try.f14))) [0] (PostF.block 0 (PostF.thenA (wpC Try.prog tab D14 (cAt [1, 1] (bodyOf Try.f14))) (retF tab [.tmp 4] K))) [1, 5] [v0, v1, AV.any, AV.any, AV.any, v5, AV.any, AV.any, AV.any, AV.any, AV.any, AV.any, AV.any, AV.any, AV.any, AV.any, AV.any, AV.any, AV.any] H
def B14_0 (K : AV → Heap → Prop) (N1 : AV → AV → Heap → Prop) (v0 : AV) (v1 : AV) (v5 : AV) (H : Heap) : Prop :=
 lenV tab 36 v0 fun v8 =>
 binV tab .lss 3 v5 v8 fun v9 =>
 condV v9 (indexAddrV tab 36 v0 v5 fun v14 =>
 loadV tab 29 v14 H fun v15 =>
 CallT Try.prog 15 [v15, v1] H fun v17 H1 =>
 binV tab .add 3 v5 (AV.p (.int .i64 1)) fun v11 =>
 N1 v17 v11 H1)
 (K v1 H)
def W14 (v0 : AV) (v1 : AV) (H : Heap) (K : AV → Heap → Prop) : Prop :=
 L14_0 K v0 v1 (AV.p (.int .i64 0)) H
theorem W14_wp (v0 : AV) (v1 : AV) (H : Heap) (K : AV → Heap → Prop) : wpC Try.prog tab D14 (bodyOf Try.f14) (retF tab [.tmp 4] K) (nthA [v0, v1]) H = W14 v0 v1 H K := by kernel_rfl
theorem W14_ok {v0 v1 : AV} {H : Heap} {K : AV → Heap → Prop} (h : W14 v0 v1 H K) : CallT Try.prog 14 [v0, v1] H K :=
  CallT.of_wp (D := D14) tab_ok mixed Try.func14 (c := bodyOf Try.f14) (by kernel_rfl) rfl (by kernel_rfl) (rs := #[.tmp 4]) rfl (by decide +kernel) (by kernel_rfl) (W14_wp v0 v1 H K) h
theorem L14_0_rule {K : AV → Heap → Prop} {v0 v1 v5 : AV} {H : Heap} {σ : Type} (s0 : σ) (f1 : σ → AV) (f5 : σ → AV) (TH : σ → Heap) (pre : σ → Prop) (μ : σ → Nat)
    (h0 : pre s0 ∧ AV.wk v1 (f1 s0) ∧ AV.wk v5 (f5 s0) ∧ Heap.le (TH s0) H)
    (round : ∀ s, pre s → B14_0 K (fun w1 w5 H' => ∃ s', pre s' ∧ μ s' < μ s ∧ AV.wk w1 (f1 s') ∧ AV.wk w5 (f5 s') ∧ Heap.le (TH s') H') v0 (f1 s) (f5 s) (TH s)) :
    L14_0 K v0 v1 v5 H := by
  unfold L14_0
  exact LoopV.mk s0 (fun s => [f1 s, f5 s]) TH pre μ (fun _ => rfl) (Eq.mp (by kernel_rfl) h0) (fun s hs => Eq.mp (by kernel_rfl) (round s hs))
/-- loop.example/g00649/laws.markNodeS -/
def D15 : Info := ⟨28, fun i => ([], []), fun i => if i = 2 then ([0], [1, 5]) else ([], [])⟩
def L15_0 (K : AV → Heap → Prop) (v0 : AV) (v1 : AV) (v5 : AV) (H : Heap) : Prop := LoopV (wpC Try.prog tab D15 (cAt [1, 0, 1, 0, 0] (bodyOf Try.f15))) [0] (PostF.block 0 (PostF.thenA (wpC Try.prog tab D15 (cAt [1, 1] (bodyOf Try.f15))) (retF tab [.tmp 4] K))) [1, 5] [v0, v1, AV.any, AV.any, AV.any, v5, AV.any, AV.any, AV.any, AV.any, AV.any, AV.any, AV.any, AV.any, AV.any, AV.any, AV.any, AV.any, AV.any, AV.any, AV.any, AV.any, AV.any, AV.any, AV.any, AV.any, AV.any, AV.any] H
def B15_0 (K : AV → Heap → Prop) (N1 : AV → AV → Heap → Prop) (v0 : AV) (v1 : AV) (v5 : AV) (H : Heap) : Prop :=
 lenV tab 29 v0 fun v8 =>
 binV tab .lss 3 v5 v8 fun v9 =>
 condV v9 (indexAddrV tab 29 v0 v5 fun v15 =>
 fieldAddrV tab 54 v15 0 fun v16 =>
 storeV tab 3 v16 v1 H fun H1 =>
 binV tab .add 3 v1 (AV.p (.int .i64 1)) fun v18 =>
 convV tab 3 52 v18 fun v22 =>
 indexAddrV tab 29 v0 v5 fun v23 =>
 fieldAddrV tab 54 v23 1 fun v24 =>
 storeV tab 52 v24 v22 H1 fun H2 =>
 binV tab .add 3 v18 (AV.p (.int .i64 1)) fun v26 =>
 binV tab .add 3 v5 (AV.p (.int .i64 1)) fun v11 =>
 N1 v26 v11 H2)
 (K v1 H)
def W15 (v0 : AV) (v1 : AV) (H : Heap) (K : AV → Heap → Prop) : Prop :=
 L15_0 K v0 v1 (AV.p (.int .i64 0)) H
theorem W15_wp (v0 : AV) (v1 : AV) (H : Heap) (K : AV → Heap → Prop) : wpC Try.prog tab D15 (bodyOf Try.f15) (retF tab [.tmp 4] K) (nthA [v0, v1]) H = W15 v0 v1 H K := by kernel_rfl
theorem W15_ok {v0 v1 : AV} {H : Heap} {K : AV → Heap → Prop} (h : W15 v0 v1 H K) : CallT Try.prog 15 [v0, v1] H K :=
  CallT.of_wp (D := D15) tab_ok mixed Try.func15 (c := bodyOf Try.f15) (by kernel_rfl) rfl (by kernel_rfl) (rs := #[.tmp 4]) rfl (by decide +kernel) (by kernel_rfl) (W15_wp v0 v1 H K) h
theorem L15_0_rule {K : AV → Heap → Prop} {v0 v1 v5 : AV} {H : Heap} {σ : Type} (s0 : σ) (f1 : σ → AV) (f5 : σ → AV) (TH : σ → Heap) (pre : σ → Prop) (μ : σ → Nat)
    (h0 : pre s0 ∧ AV.wk v1 (f1 s0) ∧ AV.wk v5 (f5 s0) ∧ Heap.le (TH s0) H)
    (round : ∀ s, pre s → B15_0 K (fun w1 w5 H' => ∃ s', pre s' ∧ μ s' < μ s ∧ AV.wk w1 (f1 s') ∧ AV.wk w5 (f5 s') ∧ Heap.le (TH s') H') v0 (f1 s) (f5 s) (TH s)) :
    L15_0 K v0 v1 v5 H := by
  unfold L15_0
  exact LoopV.mk s0 (fun s => [f1 s, f5 s]) TH pre μ (fun _ => rfl) (Eq.mp (by kernel_rfl) h0) (fun s hs => Eq.mp (by kernel_rfl) (round s hs))
/-- loop.example/g00649/laws.heldNodeS -/
def D16 : Info := ⟨32, fun i => ([], []), fun i => if i = 2 then ([0], [1, 5]) else ([], [])⟩
def L16_0 (K : AV → Heap → Prop) (v0 : AV) (v1 : AV) (v5 : AV) (H : Heap) : Prop := LoopV (wpC Try.prog tab D16 (cAt [1, 0, 1, 0, 0] (bodyOf Try.f16))) [0] (PostF.block 0 (PostF.thenA (wpC Try.prog tab D16 (cAt [1, 1] (bodyOf Try.f16))) (retF tab [.tmp 4] K))) [1, 5] [v0, v1, AV.any, AV.any, AV.any, v5, AV.any, AV.any, AV.any, AV.any, AV.any, AV.any, AV.any, AV.any, AV.any, AV.any, AV.any, AV.any, AV.any, AV.any, AV.any, AV.any, AV.any, AV.any, AV.any, AV.any, AV.any, AV.any, AV.any, AV.any, AV.any, AV.any] H
def B16_0 (K : AV → Heap → Prop) (N1 : AV → AV → Heap → Prop) (v0 : AV) (v1 : AV) (v5 : AV) (H : Heap) : Prop :=
 lenV tab 29 v0 fun v8 =>
 binV tab .lss 3 v5 v8 fun v9 =>
 condV v9 (indexAddrV tab 29 v0 v5 fun v14 =>
 fieldAddrV tab 54 v14 0 fun v15 =>
 loadV tab 3 v15 H fun v16 =>
 binV tab .neq 3 v16 v1 fun v18 =>
 condV v18 (K (AV.p (.int .i64 (-1))) H)
 (binV tab .add 3 v1 (AV.p (.int .i64 1)) fun v20 =>
 indexAddrV tab 29 v0 v5 fun v23 =>
 fieldAddrV tab 54 v23 1 fun v24 =>
 loadV tab 52 v24 H fun v25 =>
 convV tab 3 52 v20 fun v27 =>
 binV tab .neq 52 v25 v27 fun v28 =>
 condV v28 (K (AV.p (.int .i64 (-1))) H)
 (binV tab .add 3 v20 (AV.p (.int .i64 1)) fun v30 =>
 binV tab .add 3 v5 (AV.p (.int .i64 1)) fun v11 =>
 N1 v30 v11 H)))
 (K v1 H)
def W16 (v0 : AV) (v1 : AV) (H : Heap) (K : AV → Heap → Prop) : Prop :=
 L16_0 K v0 v1 (AV.p (.int .i64 0)) H
theorem W16_wp (v0 : AV) (v1 : AV) (H : Heap) (K : AV → Heap → Prop) : wpC Try.prog tab D16 (bodyOf Try.f16) (retF tab [.tmp 4] K) (nthA [v0, v1]) H = W16 v0 v1 H K := by kernel_rfl
theorem W16_ok {v0 v1 : AV} {H : Heap} {K : AV → Heap → Prop} (h : W16 v0 v1 H K) : CallT Try.prog 16 [v0, v1] H K :=
  CallT.of_wp (D := D16) tab_ok mixed Try.func16 (c := bodyOf Try.f16) (by kernel_rfl) rfl (by kernel_rfl) (rs := #[.tmp 4]) rfl (by decide +kernel) (by kernel_rfl) (W16_wp v0 v1 H K) h
theorem L16_0_rule {K : AV → Heap → Prop} {v0 v1 v5 : AV} {H : Heap} {σ : Type} (s0 : σ) (f1 : σ → AV) (f5 : σ → AV) (TH : σ → Heap) (pre : σ → Prop) (μ : σ → Nat)
    (h0 : pre s0 ∧ AV.wk v1 (f1 s0) ∧ AV.wk v5 (f5 s0) ∧ Heap.le (TH s0) H)
    (round : ∀ s, pre s → B16_0 K (fun w1 w5 H' => ∃ s', pre s' ∧ μ s' < μ s ∧ AV.wk w1 (f1 s') ∧ AV.wk w5 (f5 s') ∧ Heap.le (TH s') H') v0 (f1 s) (f5 s) (TH s)) :
    L16_0 K v0 v1 v5 H := by
  unfold L16_0
  exact LoopV.mk s0 (fun s => [f1 s, f5 s]) TH pre μ (fun _ => rfl) (Eq.mp (by kernel_rfl) h0) (fun s hs => Eq.mp (by kernel_rfl) (round s hs))
/-- loop.example/g00649/laws.szNodeS -/
def D17 : Info := ⟨12, fun i => ([], []), fun i => ([], [])⟩
def W17 (v0 : AV) (v1 : AV) (H : Heap) (K : AV → Heap → Prop) : Prop :=
 lenV tab 22 v0 fun v7 =>
 binV tab .sub 3 v1 v7 fun v8 =>
 binV tab .lss 3 v8 (AV.p (.int .i64 0)) fun v10 =>
 condV v10 (K (AV.p (.int .i64 (-1))) H)
 (K v8 H)
theorem W17_wp (v0 : AV) (v1 : AV) (H : Heap) (K : AV → Heap → Prop) : wpC Try.prog tab D17 (bodyOf Try.f17) (retF tab [.tmp 4] K) (nthA [v0, v1]) H = W17 v0 v1 H K := by kernel_rfl
theorem W17_ok {v0 v1 : AV} {H : Heap} {K : AV → Heap → Prop} (h : W17 v0 v1 H K) : CallT Try.prog 17 [v0, v1] H K :=
  CallT.of_wp (D := D17) tab_ok mixed Try.func17 (c := bodyOf Try.f17) (by kernel_rfl) rfl (by kernel_rfl) (rs := #[.tmp 4]) rfl (by decide +kernel) (by kernel_rfl) (W17_wp v0 v1 H K) h
/-- loop.example/g00649/laws.szCommandS -/
def D18 : Info := ⟨27, fun i => ([], []), fun i => if i = 5 then ([0], [1, 5]) else ([], [])⟩
def L18_0 (K : AV → Heap → Prop) (v0 : AV) (v1 : AV) (v5 : AV) (H : Heap) : Prop := LoopV (wpC Try.prog tab D18 (cAt [1, 1, 1, 0, 1, 0, 0] (bodyOf Try.f18))) [0] (PostF.block 0 (PostF.thenA (wpC Try.prog tab D18 (cAt [1, 1, 1, 1] (bodyOf Try.f18))) (retF tab [.tmp 4] K))) [1, 5] [v0, v1, AV.any, AV.any, AV.any, v5, AV.any, AV.any, AV.any, AV.any, AV.any, AV.any, AV.any, AV.any, AV.any, AV.any, AV.any, AV.any, AV.any, AV.any, AV.any, AV.any, AV.any, AV.any, AV.any, AV.any, AV.any] H
def B18_0 (K : AV → Heap → Prop) (N1 : AV → AV → Heap → Prop) (v0 : AV) (v1 : AV) (v5 : AV) (H : Heap) : Prop :=
 lenV tab 23 v0 fun v14 =>
 binV tab .lss 3 v5 v14 fun v15 =>
 condV v15 (indexAddrV tab 23 v0 v5 fun v20 =>
 loadV tab 67 v20 H fun v21 =>
 CallT Try.prog 34 [v21, v1] H fun v23 H1 =>
 binV tab .lss 3 v23 (AV.p (.int .i64 0)) fun v25 =>
 condV v25 (K (AV.p (.int .i64 (-1))) H1)
 (binV tab .add 3 v5 (AV.p (.int .i64 1)) fun v17 =>
 N1 v23 v17 H1))
 (K v1 H)
def W18 (v0 : AV) (v1 : AV) (H : Heap) (K : AV → Heap → Prop) : Prop :=
 lenV tab 23 v0 fun v8 =>
 binV tab .sub 3 v1 v8 fun v9 =>
 binV tab .lss 3 v9 (AV.p (.int .i64 0)) fun v11 =>
 condV v11 (K (AV.p (.int .i64 (-1))) H)
 (L18_0 K v0 v9 (AV.p (.int .i64 0)) H)
theorem W18_wp (v0 : AV) (v1 : AV) (H : Heap) (K : AV → Heap → Prop) : wpC Try.prog tab D18 (bodyOf Try.f18) (retF tab [.tmp 4] K) (nthA [v0, v1]) H = W18 v0 v1 H K := by kernel_rfl
theorem W18_ok {v0 v1 : AV} {H : Heap} {K : AV → Heap → Prop} (h : W18 v0 v1 H K) : CallT Try.prog 18 [v0, v1] H K :=
  CallT.of_wp (D := D18) tab_ok mixed Try.func18 (c := bodyOf Try.f18) (by kernel_rfl) rfl (by kernel_rfl) (rs := #[.tmp 4]) rfl (by decide +kernel) (by kernel_rfl) (W18_wp v0 v1 H K) h
theorem L18_0_rule {K : AV → Heap → Prop} {v0 v1 v5 : AV} {H : Heap} {σ : Type} (s0 : σ) (f1 : σ → AV) (f5 : σ → AV) (TH : σ → Heap) (pre : σ → Prop) (μ : σ → Nat)
    (h0 : pre s0 ∧ AV.wk v1 (f1 s0) ∧ AV.wk v5 (f5 s0) ∧ Heap.le (TH s0) H)
    (round : ∀ s, pre s → B18_0 K (fun w1 w5 H' => ∃ s', pre s' ∧ μ s' < μ s ∧ AV.wk w1 (f1 s') ∧ AV.wk w5 (f5 s') ∧ Heap.le (TH s') H') v0 (f1 s) (f5 s) (TH s)) :
    L18_0 K v0 v1 v5 H := by
  unfold L18_0
  exact LoopV.mk s0 (fun s => [f1 s, f5 s]) TH pre μ (fun _ => rfl) (Eq.mp (by kernel_rfl) h0) (fun s hs => Eq.mp (by kernel_rfl) (round s hs))
/-- loop.example/g00649/spec.l8Is -/
def D19 : Info := ⟨14, fun i => ([], []), fun i => ([], [])⟩
def W19 (v0 : AV) (v1 : AV) (H : Heap) (K : AV → Heap → Prop) : Prop :=
 boxV v0 H fun v2 H1 =>
 loadV tab 34 v2 H1 fun v5 =>
 CallT Try.prog 35 [v5] H1 fun v6 H2 =>
 grdV v6 true (loadV tab 34 v2 H2 fun v9 =>
 CallT Try.prog 37 [v9] H2 fun v10 H3 =>
 binV tab .sub 3 v10 (AV.p (.int .i64 1)) fun v11 =>
 CallT Try.prog 36 [v1, (AV.p (.int .i64 0)), v11] H3 fun v12 H4 =>
 K v12 H4)
 (K (AV.p (.bool false)) H2)
theorem W19_wp (v0 : AV) (v1 : AV) (H : Heap) (K : AV → Heap → Prop) : wpC Try.prog tab D19 (bodyOf Try.f19) (retF tab [.tmp 4] K) (nthA [v0, v1]) H = W19 v0 v1 H K := by kernel_rfl
theorem W19_ok {v0 v1 : AV} {H : Heap} {K : AV → Heap → Prop} (h : W19 v0 v1 H K) : CallT Try.prog 19 [v0, v1] H K :=
  CallT.of_wp (D := D19) tab_ok mixed Try.func19 (c := bodyOf Try.f19) (by kernel_rfl) rfl (by kernel_rfl) (rs := #[.tmp 4]) rfl (by decide +kernel) (by kernel_rfl) (W19_wp v0 v1 H K) h
/-- loop.example/g00649/spec.l15Preds -/
def D20 : Info := ⟨21, fun i => ([], []), fun i => if i = 4 then ([2, 10, 11], [12]) else ([], [])⟩
def L20_0 (K : AV → Heap → Prop) (v2 : AV) (v10 : AV) (v11 : AV) (v12 : AV) (H : Heap) : Prop := LoopV (wpC Try.prog tab D20 (cAt [1, 1, 0, 1, 0, 0] (bodyOf Try.f20))) [2, 10, 11] (PostF.block 0 (PostF.thenA (wpC Try.prog tab D20 (cAt [1, 1, 1] (bodyOf Try.f20))) (retF tab [.tmp 4] K))) [12] [AV.any, AV.any, v2, AV.any, AV.any, AV.any, AV.any, AV.any, AV.any, AV.any, v10, v11, v12, AV.any, AV.any, AV.any, AV.any, AV.any, AV.any, AV.any, AV.any] H
def B20_0 (K : AV → Heap → Prop) (N1 : AV → Heap → Prop) (v2 : AV) (v10 : AV) (v11 : AV) (v12 : AV) (H : Heap) : Prop :=
 binV tab .lss 3 v12 v11 fun v13 =>
 condV v13 (indexAddrV tab 36 v10 v12 fun v14 =>
 loadV tab 29 v14 H fun v15 =>
 loadV tab 34 v2 H fun v16 =>
 CallT Try.prog 38 [v16, v15] H fun v18 H2 =>
 unV .not v18 fun v19 =>
 condV v19 (K (AV.p (.bool false)) H2)
 (binV tab .add 3 v12 (AV.p (.int .i64 1)) fun v20 =>
 N1 v20 H2))
 (K (AV.p (.bool true)) H)
def W20 (v0 : AV) (v1 : AV) (H : Heap) (K : AV → Heap → Prop) : Prop :=
 boxV v0 H fun v2 H1 =>
 lenV tab 36 v1 fun v8 =>
 binV tab .gtr 3 v8 (AV.p (.int .i64 8)) fun v9 =>
 condV v9 (K (AV.p (.bool false)) H1)
 (lenV tab 36 v1 fun v11 =>
 L20_0 K v2 v1 v11 (AV.p (.int .i64 0)) H1)
theorem W20_wp (v0 : AV) (v1 : AV) (H : Heap) (K : AV → Heap → Prop) : wpC Try.prog tab D20 (bodyOf Try.f20) (retF tab [.tmp 4] K) (nthA [v0, v1]) H = W20 v0 v1 H K := by kernel_rfl
theorem W20_ok {v0 v1 : AV} {H : Heap} {K : AV → Heap → Prop} (h : W20 v0 v1 H K) : CallT Try.prog 20 [v0, v1] H K :=
  CallT.of_wp (D := D20) tab_ok mixed Try.func20 (c := bodyOf Try.f20) (by kernel_rfl) rfl (by kernel_rfl) (rs := #[.tmp 4]) rfl (by decide +kernel) (by kernel_rfl) (W20_wp v0 v1 H K) h
theorem L20_0_rule {K : AV → Heap → Prop} {v2 v10 v11 v12 : AV} {H : Heap} {σ : Type} (s0 : σ) (f12 : σ → AV) (TH : σ → Heap) (pre : σ → Prop) (μ : σ → Nat)
    (h0 : pre s0 ∧ AV.wk v12 (f12 s0) ∧ Heap.le (TH s0) H)
    (round : ∀ s, pre s → B20_0 K (fun w12 H' => ∃ s', pre s' ∧ μ s' < μ s ∧ AV.wk w12 (f12 s') ∧ Heap.le (TH s') H') v2 v10 v11 (f12 s) (TH s)) :
    L20_0 K v2 v10 v11 v12 H := by
  unfold L20_0
  exact LoopV.mk s0 (fun s => [f12 s]) TH pre μ (fun _ => rfl) (Eq.mp (by kernel_rfl) h0) (fun s hs => Eq.mp (by kernel_rfl) (round s hs))
/-- loop.example/g00649/spec.l7Holds -/
def D21 : Info := ⟨16, fun i => ([], []), fun i => ([], [])⟩
def W21 (v0 : AV) (v1 : AV) (v2 : AV) (H : Heap) (K : AV → Heap → Prop) : Prop :=
 boxV v0 H fun v3 H1 =>
 fieldAddrV tab 34 v3 0 fun v7 =>
 loadV tab 3 v7 H1 fun v8 =>
 lenV tab 29 v1 fun v11 =>
 binV tab .sub 3 v11 (AV.p (.int .i64 1)) fun v12 =>
 CallT Try.prog 39 [v8, v1, v12, v2] H1 fun v14 H2 =>
 binV tab .eql 52 v14 (AV.p (.int .u64 1)) fun v15 =>
 K v15 H2
theorem W21_wp (v0 : AV) (v1 : AV) (v2 : AV) (H : Heap) (K : AV → Heap → Prop) : wpC Try.prog tab D21 (bodyOf Try.f21) (retF tab [.tmp 6] K) (nthA [v0, v1, v2]) H = W21 v0 v1 v2 H K := by kernel_rfl
theorem W21_ok {v0 v1 v2 : AV} {H : Heap} {K : AV → Heap → Prop} (h : W21 v0 v1 v2 H K) : CallT Try.prog 21 [v0, v1, v2] H K :=
  CallT.of_wp (D := D21) tab_ok mixed Try.func21 (c := bodyOf Try.f21) (by kernel_rfl) rfl (by kernel_rfl) (rs := #[.tmp 6]) rfl (by decide +kernel) (by kernel_rfl) (W21_wp v0 v1 v2 H K) h
/-- loop.example/g00649/spec.l7Of -/
def D22 : Info := ⟨31, fun i => ([], []), fun i => if i = 3 then ([1, 2], [5, 6]) else ([], [])⟩
def L22_0 (K : AV → Heap → Prop) (v1 : AV) (v2 : AV) (v5 : AV) (v6 : AV) (H : Heap) : Prop := LoopV (wpC Try.prog tab D22 (cAt [1, 1, 0, 1, 0, 0] (bodyOf Try.f22))) [1, 2] (PostF.block 0 (PostF.thenA (wpC Try.prog tab D22 (cAt [1, 1, 1] (bodyOf Try.f22))) (retF tab [.tmp 4] K))) [5, 6] [AV.any, v1, v2, AV.any, AV.any, v5, v6, AV.any, AV.any, AV.any, AV.any, AV.any, AV.any, AV.any, AV.any, AV.any, AV.any, AV.any, AV.any, AV.any, AV.any, AV.any, AV.any, AV.any, AV.any, AV.any, AV.any, AV.any, AV.any, AV.any, AV.any] H
def B22_0 (K : AV → Heap → Prop) (N1 : AV → AV → Heap → Prop) (v1 : AV) (v2 : AV) (v5 : AV) (v6 : AV) (H : Heap) : Prop :=
 fieldAddrV tab 34 v2 1 fun v8 =>
 loadV tab 3 v8 H fun v9 =>
 binV tab .lss 3 v6 v9 fun v10 =>
 condV v10 (fieldAddrV tab 34 v2 0 fun v16 =>
 loadV tab 3 v16 H fun v17 =>
 binV tab .mul 3 v6 v17 fun v18 =>
 convV tab 3 73 v18 fun v19 =>
 binV tab .shr 3 v1 v19 fun v20 =>
 fieldAddrV tab 34 v2 0 fun v21 =>
 loadV tab 3 v21 H fun v22 =>
 convV tab 3 73 v22 fun v23 =>
 binV tab .shl 3 (AV.p (.int .i64 1)) v23 fun v24 =>
 binV tab .sub 3 v24 (AV.p (.int .i64 1)) fun v25 =>
 binV tab .and 3 v20 v25 fun v26 =>
 convV tab 3 52 v26 fun v27 =>
 buildSliceV tab 50 1 [(0, v27)] H (wkK fun v28 H2 =>
 appendV tab 50 50 v5 v28 H2 (wkK fun v29 H3 =>
 binV tab .add 3 v6 (AV.p (.int .i64 1)) fun v12 =>
 N1 v29 v12 H3)))
 (K v5 H)
def W22 (v0 : AV) (v1 : AV) (H : Heap) (K : AV → Heap → Prop) : Prop :=
 boxV v0 H fun v2 H1 =>
 L22_0 K v1 v2 (AV.p .nil) (AV.p (.int .i64 0)) H1
theorem W22_wp (v0 : AV) (v1 : AV) (H : Heap) (K : AV → Heap → Prop) : wpC Try.prog tab D22 (bodyOf Try.f22) (retF tab [.tmp 4] K) (nthA [v0, v1]) H = W22 v0 v1 H K := by kernel_rfl
theorem W22_ok {v0 v1 : AV} {H : Heap} {K : AV → Heap → Prop} (h : W22 v0 v1 H K) : CallT Try.prog 22 [v0, v1] H K :=
  CallT.of_wp (D := D22) tab_ok mixed Try.func22 (c := bodyOf Try.f22) (by kernel_rfl) rfl (by kernel_rfl) (rs := #[.tmp 4]) rfl (by decide +kernel) (by kernel_rfl) (W22_wp v0 v1 H K) h
theorem W22_hb : HasBody Try.prog 22 := ⟨_, bodyOf Try.f22, Try.func22, by kernel_rfl, rfl⟩
theorem L22_0_rule {K : AV → Heap → Prop} {v1 v2 v5 v6 : AV} {H : Heap} {σ : Type} (s0 : σ) (f5 : σ → AV) (f6 : σ → AV) (TH : σ → Heap) (pre : σ → Prop) (μ : σ → Nat)
    (h0 : pre s0 ∧ AV.wk v5 (f5 s0) ∧ AV.wk v6 (f6 s0) ∧ Heap.le (TH s0) H)
    (round : ∀ s, pre s → B22_0 K (fun w5 w6 H' => ∃ s', pre s' ∧ μ s' < μ s ∧ AV.wk w5 (f5 s') ∧ AV.wk w6 (f6 s') ∧ Heap.le (TH s') H') v1 v2 (f5 s) (f6 s) (TH s)) :
    L22_0 K v1 v2 v5 v6 H := by
  unfold L22_0
  exact LoopV.mk s0 (fun s => [f5 s, f6 s]) TH pre μ (fun _ => rfl) (Eq.mp (by kernel_rfl) h0) (fun s hs => Eq.mp (by kernel_rfl) (round s hs))
/-- loop.example/g00649/spec.l2Made -/
def D23 : Info := ⟨14, fun i => ([], []), fun i => ([], [])⟩
def W23 (v0 : AV) (v1 : AV) (v2 : AV) (H : Heap) (K : AV → Heap → Prop) : Prop :=
 CallT Try.prog 40 [v0, v1, v2] H fun v11 H1 =>
 unV .not v11 fun v12 =>
 condV v12 (K (.tup [(AV.p .nil), (AV.p (.bool false))]) H1)
 (K (.tup [v2, (AV.p (.bool true))]) H1)
theorem W23_wp (v0 : AV) (v1 : AV) (v2 : AV) (H : Heap) (K : AV → Heap → Prop) : wpC Try.prog tab D23 (bodyOf Try.f23) (retF tab [.tmp 6, .tmp 7] K) (nthA [v0, v1, v2]) H = W23 v0 v1 v2 H K := by kernel_rfl
theorem W23_ok {v0 v1 v2 : AV} {H : Heap} {K : AV → Heap → Prop} (h : W23 v0 v1 v2 H K) : CallT Try.prog 23 [v0, v1, v2] H K :=
  CallT.of_wp (D := D23) tab_ok mixed Try.func23 (c := bodyOf Try.f23) (by kernel_rfl) rfl (by kernel_rfl) (rs := #[.tmp 6, .tmp 7]) rfl (by decide +kernel) (by kernel_rfl) (W23_wp v0 v1 v2 H K) h
/-- loop.example/g00649/laws.toNodeS -/
def D24 : Info := ⟨23, fun i => ([], []), fun i => if i = 3 then ([0, 3], [4]) else ([], [])⟩
def L24_0 (K : AV → Heap → Prop) (v0 : AV) (v3 : AV) (v4 : AV) (H : Heap) : Prop := LoopV (wpC Try.prog tab D24 (cAt [1, 1, 0, 1, 0, 0] (bodyOf Try.f24))) [0, 3] (PostF.block 0 (PostF.thenA (wpC Try.prog tab D24 (cAt [1, 1, 1] (bodyOf Try.f24))) (retF tab [.tmp 2] K))) [4] [v0, AV.any, AV.any, v3, v4, AV.any, AV.any, AV.any, AV.any, AV.any, AV.any, AV.any, AV.any, AV.any, AV.any, AV.any, AV.any, AV.any, AV.any, AV.any, AV.any, AV.any, AV.any] H
def B24_0 (K : AV → Heap → Prop) (N1 : AV → Heap → Prop) (v0 : AV) (v3 : AV) (v4 : AV) (H : Heap) : Prop :=
 lenV tab 22 v0 fun v10 =>
 binV tab .lss 3 v4 v10 fun v11 =>
 condV v11 (indexAddrV tab 22 v0 v4 fun v18 =>
 loadV tab 76 v18 H fun v19 =>
 CallT Try.prog 41 [v19] H fun v20 H2 =>
 indexAddrV tab 29 v3 v4 fun v21 =>
 storeV tab 54 v21 v20 H2 fun H3 =>
 binV tab .add 3 v4 (AV.p (.int .i64 1)) fun v13 =>
 N1 v13 H3)
 (K v3 H)
def W24 (v0 : AV) (H : Heap) (K : AV → Heap → Prop) : Prop :=
 lenV tab 22 v0 fun v6 =>
 makeSliceV tab 29 v6 v6 H fun v7 H1 =>
 L24_0 K v0 v7 (AV.p (.int .i64 0)) H1
theorem W24_wp (v0 : AV) (H : Heap) (K : AV → Heap → Prop) : wpC Try.prog tab D24 (bodyOf Try.f24) (retF tab [.tmp 2] K) (nthA [v0]) H = W24 v0 H K := by kernel_rfl
theorem W24_ok {v0 : AV} {H : Heap} {K : AV → Heap → Prop} (h : W24 v0 H K) : CallT Try.prog 24 [v0] H K :=
  CallT.of_wp (D := D24) tab_ok mixed Try.func24 (c := bodyOf Try.f24) (by kernel_rfl) rfl (by kernel_rfl) (rs := #[.tmp 2]) rfl (by decide +kernel) (by kernel_rfl) (W24_wp v0 H K) h
theorem L24_0_rule {K : AV → Heap → Prop} {v0 v3 v4 : AV} {H : Heap} {σ : Type} (s0 : σ) (f4 : σ → AV) (TH : σ → Heap) (pre : σ → Prop) (μ : σ → Nat)
    (h0 : pre s0 ∧ AV.wk v4 (f4 s0) ∧ Heap.le (TH s0) H)
    (round : ∀ s, pre s → B24_0 K (fun w4 H' => ∃ s', pre s' ∧ μ s' < μ s ∧ AV.wk w4 (f4 s') ∧ Heap.le (TH s') H') v0 v3 (f4 s) (TH s)) :
    L24_0 K v0 v3 v4 H := by
  unfold L24_0
  exact LoopV.mk s0 (fun s => [f4 s]) TH pre μ (fun _ => rfl) (Eq.mp (by kernel_rfl) h0) (fun s hs => Eq.mp (by kernel_rfl) (round s hs))
end Go.Proofs.Ytgcklgeifdefhaa
