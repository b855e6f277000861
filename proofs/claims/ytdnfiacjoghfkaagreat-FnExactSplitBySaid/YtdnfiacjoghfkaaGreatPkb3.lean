/- Texts laid together: Lr0 Tab W0. -/
import Derived.Test.YtdnfiacjoghfkaaGreatPkb2
import Derived.Test.YtdnfiacjoghfkaaGreatProg
import Derived.KernelRfl
set_option linter.unusedVariables false
set_option linter.unusedSimpArgs false
/- Arguments of types, by value: what they look like. -/
namespace Go.Sep
open Go Go.RowKit
set_option linter.unusedVariables false

/-- The fields of a struct's type. -/
def fieldsAre (P : Program) (t : TypeId) (ts : List TypeId) : Bool := match P.underlying t with
  | some (.struct fs) => decide (fs.toList.map (·.type) = ts)
  | _ => false
def intIs (P : Program) (t : TypeId) (k : IntKind) : Bool := match P.underlying t with
  | some (.int k') => decide (k' = k)
  | _ => false
def sliceIs (P : Program) (t e : TypeId) : Bool := match P.underlying t with
  | some (.slice e') => decide (e' = e)
  | _ => false
theorem fieldsAre_ok {P : Program} {t : TypeId} {ts : List TypeId} (h : fieldsAre P t ts = true) : ∃ fs, P.underlying t = some (.struct fs) ∧ fs.toList.map (·.type) = ts := by
  unfold fieldsAre at h
  split at h
  · rename_i fs hu; exact ⟨fs, hu, of_decide_eq_true h⟩
  · cases h
theorem intIs_ok {P : Program} {t : TypeId} {k : IntKind} (h : intIs P t k = true) : P.underlying t = some (.int k) := by
  unfold intIs at h
  split at h
  · rename_i k' hu; rw [hu, of_decide_eq_true h]
  · cases h
theorem sliceIs_ok {P : Program} {t e : TypeId} (h : sliceIs P t e = true) : P.underlying t = some (.slice e) := by
  unfold sliceIs at h
  split at h
  · rename_i k' hu; rw [hu, of_decide_eq_true h]
  · cases h
theorem typed_int {P : Program} {t : TypeId} {k : IntKind} (hi : intIs P t k = true) {x : List PV} (h : Typed P t x) : ∃ n, (Lit.int k n).wf = true ∧ x = [.int k n] := by
  have hu := intIs_ok hi
  cases h with
  | bool h => rw [hu] at h; cases h
  | int h hw => rw [hu] at h; cases h; exact ⟨_, hw, rfl⟩
  | str h _ => rw [hu] at h; cases h
  | sl h _ _ => rw [hu] at h; cases h
  | struct h _ => rw [hu] at h; cases h
theorem typed_slice {P : Program} {t e : TypeId} (hi : sliceIs P t e = true) {x : List PV} (h : Typed P t x) : ∃ es, x = [.sl es] ∧ es.length ≤ 9223372036854775807 ∧ ∀ y ∈ es, Typed P e y := by
  have hu := sliceIs_ok hi
  cases h with
  | bool h => rw [hu] at h; cases h
  | int h hw => rw [hu] at h; cases h
  | str h _ => rw [hu] at h; cases h
  | sl h hl he => rw [hu] at h; cases h; exact ⟨_, rfl, hl, he⟩
  | struct h _ => rw [hu] at h; cases h
theorem typed_fields {P : Program} {t : TypeId} {ts : List TypeId} (hf : fieldsAre P t ts = true) {x : List PV} (h : Typed P t x) : TypedAll P ts x := by
  obtain ⟨fs, hu, rfl⟩ := fieldsAre_ok hf
  cases h with
  | bool h => rw [hu] at h; cases h
  | int h hw => rw [hu] at h; cases h
  | str h _ => rw [hu] at h; cases h
  | sl h hl he => rw [hu] at h; cases h
  | struct h hf => rw [hu] at h; cases h; exact hf
theorem typedAll_cons {P : Program} {t : TypeId} {ts : List TypeId} {x : List PV} (h : TypedAll P (t :: ts) x) : ∃ a b, x = a ++ b ∧ Typed P t a ∧ TypedAll P ts b := by
  cases h with
  | cons h r => exact ⟨_, _, rfl, h, r⟩
theorem typedAll_nil {P : Program} {x : List PV} (h : TypedAll P [] x) : x = [] := by cases h; rfl
theorem arg_struct {P : Program} {t : TypeId} {ts : List TypeId} (hf : fieldsAre P t ts = true) {v : AV} (h : ArgT P t v) : ∃ pvs, TypedAll P ts pvs ∧ v = .agg (pvs.map .p) := by
  obtain ⟨fs, hu, rfl⟩ := fieldsAre_ok hf
  cases h with
  | cell hs h => exact absurd hu (hs fs)
  | agg hu' h => rw [hu] at hu'; cases hu'; exact ⟨_, h, rfl⟩
theorem arg_cell {P : Program} {t : TypeId} (hs : ∀ fs, P.underlying t ≠ some (.struct fs)) {v : AV} (h : ArgT P t v) : ∃ p, Typed P t [p] ∧ v = .p p := by
  cases h with
  | cell hs h => exact ⟨_, h, rfl⟩
  | agg hu' h => exact absurd hu' (hs _)
theorem rows_of {α : Type} {Q : α → Prop} {e : α → List PV} : ∀ (es : List (List PV)), (∀ y ∈ es, ∃ a, Q a ∧ y = e a) → ∃ az : List α, (∀ a ∈ az, Q a) ∧ es = az.map e ∧ az.length = es.length
  | [], _ => ⟨[], fun _ h => by simp at h, rfl, rfl⟩
  | x :: es, h => by
    obtain ⟨a, ha, rfl⟩ := h x (by simp)
    obtain ⟨az, h1, rfl, h3⟩ := rows_of es fun y hy => h y (by simp [hy])
    refine ⟨a :: az, fun b hb => ?_, rfl, by simp⟩
    rcases List.mem_cons.1 hb with rfl | hb
    · exact ha
    · exact h1 b hb
theorem args_cons {P : Program} {t : TypeId} {ts : List TypeId} {avs : List AV} (h : ArgsT P (t :: ts) avs) : ∃ v vs, avs = v :: vs ∧ ArgT P t v ∧ ArgsT P ts vs := by
  cases h with
  | cons h r => exact ⟨_, _, rfl, h, r⟩
theorem args_nil {P : Program} {avs : List AV} (h : ArgsT P [] avs) : avs = [] := by cases h; rfl
end Go.Sep
/- The table of the program's types, and that it is right. Written by gentab.py (a program of this session's) out of the translation. -/
namespace Go.Proofs.YtdnfiacjoghfkaaGreat
open Go Go.Sep
set_option linter.unusedVariables false
def td1 : TD := ⟨.func, 1, 8, [.nilfn]⟩
def td2 : TD := ⟨.int .i64, 1, 8, [(.p (.int .i64 0))]⟩
def td3 : TD := ⟨.int .i64, 1, 8, [(.p (.int .i64 0))]⟩
def td4 : TD := ⟨.bool, 1, 1, [(.p (.bool false))]⟩
def td5 : TD := ⟨.int .u8, 1, 1, [(.p (.int .u8 0))]⟩
def td6 : TD := ⟨.int .u8, 1, 1, [(.p (.int .u8 0))]⟩
def td9 : TD := ⟨.str, 1, 16, [(.p (.str ⟨#[]⟩))]⟩
def td10 : TD := ⟨.str, 1, 16, [(.p (.str ⟨#[]⟩))]⟩
def td11 : TD := ⟨.str, 1, 16, [(.p (.str ⟨#[]⟩))]⟩
def td12 : TD := ⟨.int .u64, 1, 8, [(.p (.int .u64 0))]⟩
def td15 : TD := ⟨.ptr 153, 1, 8, [.nilp]⟩
def td16 : TD := ⟨.ptr 156, 1, 8, [.nilp]⟩
def td17 : TD := ⟨.ptr 165, 1, 8, [.nilp]⟩
def td21 : TD := ⟨.int .i32, 1, 4, [(.p (.int .i32 0))]⟩
def td22 : TD := ⟨.slice 82, 1, 24, [(.p .nil)]⟩
def td23 : TD := ⟨.slice 88, 1, 24, [(.p .nil)]⟩
def td24 : TD := ⟨.struct [(0, 3), (1, 3), (2, 22), (3, 23)], 4, 64, [(.p (.int .i64 0)), (.p (.int .i64 0)), (.p .nil), (.p .nil)]⟩
def td25 : TD := ⟨.struct [(0, 3), (1, 3), (2, 22), (3, 23)], 4, 64, [(.p (.int .i64 0)), (.p (.int .i64 0)), (.p .nil), (.p .nil)]⟩
def td26 : TD := ⟨.slice 22, 1, 24, [(.p .nil)]⟩
def td27 : TD := ⟨.func, 1, 8, [.nilfn]⟩
def td28 : TD := ⟨.func, 1, 8, [.nilfn]⟩
def td29 : TD := ⟨.slice 3, 1, 24, [(.p .nil)]⟩
def td30 : TD := ⟨.struct [(0, 29)], 1, 24, [(.p .nil)]⟩
def td31 : TD := ⟨.struct [(0, 29)], 1, 24, [(.p .nil)]⟩
def td33 : TD := ⟨.func, 1, 8, [.nilfn]⟩
def td34 : TD := ⟨.slice 80, 1, 24, [(.p .nil)]⟩
def td35 : TD := ⟨.slice 92, 1, 24, [(.p .nil)]⟩
def td36 : TD := ⟨.struct [(0, 3), (1, 3), (2, 34), (3, 35)], 4, 64, [(.p (.int .i64 0)), (.p (.int .i64 0)), (.p .nil), (.p .nil)]⟩
def td37 : TD := ⟨.struct [(0, 3), (1, 3), (2, 34), (3, 35)], 4, 64, [(.p (.int .i64 0)), (.p (.int .i64 0)), (.p .nil), (.p .nil)]⟩
def td38 : TD := ⟨.func, 1, 8, [.nilfn]⟩
def td39 : TD := ⟨.slice 34, 1, 24, [(.p .nil)]⟩
def td40 : TD := ⟨.func, 1, 8, [.nilfn]⟩
def td41 : TD := ⟨.func, 1, 8, [.nilfn]⟩
def td42 : TD := ⟨.func, 1, 8, [.nilfn]⟩
def td43 : TD := ⟨.func, 1, 8, [.nilfn]⟩
def td44 : TD := ⟨.func, 1, 8, [.nilfn]⟩
def td45 : TD := ⟨.func, 1, 8, [.nilfn]⟩
def td46 : TD := ⟨.func, 1, 8, [.nilfn]⟩
def td47 : TD := ⟨.func, 1, 8, [.nilfn]⟩
def td48 : TD := ⟨.struct [(0, 29)], 1, 24, [(.p .nil)]⟩
def td49 : TD := ⟨.func, 1, 8, [.nilfn]⟩
def td50 : TD := ⟨.func, 1, 8, [.nilfn]⟩
def td51 : TD := ⟨.func, 1, 8, [.nilfn]⟩
def td52 : TD := ⟨.func, 1, 8, [.nilfn]⟩
def td53 : TD := ⟨.func, 1, 8, [.nilfn]⟩
def td54 : TD := ⟨.func, 1, 8, [.nilfn]⟩
def td55 : TD := ⟨.func, 1, 8, [.nilfn]⟩
def td56 : TD := ⟨.func, 1, 8, [.nilfn]⟩
def td57 : TD := ⟨.func, 1, 8, [.nilfn]⟩
def td58 : TD := ⟨.func, 1, 8, [.nilfn]⟩
def td59 : TD := ⟨.func, 1, 8, [.nilfn]⟩
def td60 : TD := ⟨.func, 1, 8, [.nilfn]⟩
def td61 : TD := ⟨.func, 1, 8, [.nilfn]⟩
def td62 : TD := ⟨.func, 1, 8, [.nilfn]⟩
def td63 : TD := ⟨.slice 67, 1, 24, [(.p .nil)]⟩
def td64 : TD := ⟨.func, 1, 8, [.nilfn]⟩
def td65 : TD := ⟨.slice 68, 1, 24, [(.p .nil)]⟩
def td66 : TD := ⟨.func, 1, 8, [.nilfn]⟩
def td67 : TD := ⟨.arr 2 3, 2, 16, [(.p (.int .i64 0)), (.p (.int .i64 0))]⟩
def td68 : TD := ⟨.int .u64, 1, 8, [(.p (.int .u64 0))]⟩
def td69 : TD := ⟨.func, 1, 8, [.nilfn]⟩
def td70 : TD := ⟨.func, 1, 8, [.nilfn]⟩
def td71 : TD := ⟨.func, 1, 8, [.nilfn]⟩
def td72 : TD := ⟨.func, 1, 8, [.nilfn]⟩
def td73 : TD := ⟨.func, 1, 8, [.nilfn]⟩
def td74 : TD := ⟨.func, 1, 8, [.nilfn]⟩
def td75 : TD := ⟨.func, 1, 8, [.nilfn]⟩
def td76 : TD := ⟨.func, 1, 8, [.nilfn]⟩
def td77 : TD := ⟨.func, 1, 8, [.nilfn]⟩
def td78 : TD := ⟨.func, 1, 8, [.nilfn]⟩
def td79 : TD := ⟨.struct [(0, 3), (1, 68)], 2, 16, [(.p (.int .i64 0)), (.p (.int .u64 0))]⟩
def td80 : TD := ⟨.struct [(0, 3), (1, 68)], 2, 16, [(.p (.int .i64 0)), (.p (.int .u64 0))]⟩
def td81 : TD := ⟨.func, 1, 8, [.nilfn]⟩
def td82 : TD := ⟨.struct [(0, 3), (1, 68)], 2, 16, [(.p (.int .i64 0)), (.p (.int .u64 0))]⟩
def td83 : TD := ⟨.func, 1, 8, [.nilfn]⟩
def td84 : TD := ⟨.func, 1, 8, [.nilfn]⟩
def td85 : TD := ⟨.func, 1, 8, [.nilfn]⟩
def td86 : TD := ⟨.slice 133, 1, 24, [(.p .nil)]⟩
def td87 : TD := ⟨.struct [(0, 22), (1, 86)], 2, 48, [(.p .nil), (.p .nil)]⟩
def td88 : TD := ⟨.struct [(0, 22), (1, 86)], 2, 48, [(.p .nil), (.p .nil)]⟩
def td89 : TD := ⟨.func, 1, 8, [.nilfn]⟩
def td90 : TD := ⟨.slice 123, 1, 24, [(.p .nil)]⟩
def td91 : TD := ⟨.struct [(0, 34), (1, 90)], 2, 48, [(.p .nil), (.p .nil)]⟩
def td92 : TD := ⟨.struct [(0, 34), (1, 90)], 2, 48, [(.p .nil), (.p .nil)]⟩
def td93 : TD := ⟨.func, 1, 8, [.nilfn]⟩
def td94 : TD := ⟨.func, 1, 8, [.nilfn]⟩
def td95 : TD := ⟨.func, 1, 8, [.nilfn]⟩
def td96 : TD := ⟨.func, 1, 8, [.nilfn]⟩
def td97 : TD := ⟨.func, 1, 8, [.nilfn]⟩
def td100 : TD := ⟨.func, 1, 8, [.nilfn]⟩
def td101 : TD := ⟨.func, 1, 8, [.nilfn]⟩
def td102 : TD := ⟨.func, 1, 8, [.nilfn]⟩
def td103 : TD := ⟨.func, 1, 8, [.nilfn]⟩
def td104 : TD := ⟨.func, 1, 8, [.nilfn]⟩
def td105 : TD := ⟨.func, 1, 8, [.nilfn]⟩
def td106 : TD := ⟨.func, 1, 8, [.nilfn]⟩
def td107 : TD := ⟨.func, 1, 8, [.nilfn]⟩
def td108 : TD := ⟨.func, 1, 8, [.nilfn]⟩
def td109 : TD := ⟨.int .u64, 1, 8, [(.p (.int .u64 0))]⟩
def td110 : TD := ⟨.func, 1, 8, [.nilfn]⟩
def td111 : TD := ⟨.func, 1, 8, [.nilfn]⟩
def td112 : TD := ⟨.func, 1, 8, [.nilfn]⟩
def td113 : TD := ⟨.func, 1, 8, [.nilfn]⟩
def td114 : TD := ⟨.func, 1, 8, [.nilfn]⟩
def td115 : TD := ⟨.func, 1, 8, [.nilfn]⟩
def td117 : TD := ⟨.func, 1, 8, [.nilfn]⟩
def td118 : TD := ⟨.func, 1, 8, [.nilfn]⟩
def td119 : TD := ⟨.func, 1, 8, [.nilfn]⟩
def td120 : TD := ⟨.func, 1, 8, [.nilfn]⟩
def td121 : TD := ⟨.func, 1, 8, [.nilfn]⟩
def td122 : TD := ⟨.struct [(0, 3), (1, 34)], 2, 32, [(.p (.int .i64 0)), (.p .nil)]⟩
def td123 : TD := ⟨.struct [(0, 3), (1, 34)], 2, 32, [(.p (.int .i64 0)), (.p .nil)]⟩
def td125 : TD := ⟨.func, 1, 8, [.nilfn]⟩
def td126 : TD := ⟨.func, 1, 8, [.nilfn]⟩
def td127 : TD := ⟨.func, 1, 8, [.nilfn]⟩
def td128 : TD := ⟨.func, 1, 8, [.nilfn]⟩
def td129 : TD := ⟨.func, 1, 8, [.nilfn]⟩
def td130 : TD := ⟨.func, 1, 8, [.nilfn]⟩
def td131 : TD := ⟨.func, 1, 8, [.nilfn]⟩
def td132 : TD := ⟨.struct [(0, 3), (1, 22)], 2, 32, [(.p (.int .i64 0)), (.p .nil)]⟩
def td133 : TD := ⟨.struct [(0, 3), (1, 22)], 2, 32, [(.p (.int .i64 0)), (.p .nil)]⟩
def td134 : TD := ⟨.func, 1, 8, [.nilfn]⟩
def td135 : TD := ⟨.func, 1, 8, [.nilfn]⟩
def td136 : TD := ⟨.func, 1, 8, [.nilfn]⟩
def td137 : TD := ⟨.func, 1, 8, [.nilfn]⟩
def td138 : TD := ⟨.func, 1, 8, [.nilfn]⟩
def td140 : TD := ⟨.func, 1, 8, [.nilfn]⟩
def td141 : TD := ⟨.func, 1, 8, [.nilfn]⟩
def td142 : TD := ⟨.func, 1, 8, [.nilfn]⟩
def td143 : TD := ⟨.func, 1, 8, [.nilfn]⟩
def td144 : TD := ⟨.func, 1, 8, [.nilfn]⟩
def td147 : TD := ⟨.func, 1, 8, [.nilfn]⟩
def td148 : TD := ⟨.func, 1, 8, [.nilfn]⟩
def td149 : TD := ⟨.func, 1, 8, [.nilfn]⟩
def td150 : TD := ⟨.ptr 167, 1, 8, [.nilp]⟩
def td151 : TD := ⟨.func, 1, 8, [.nilfn]⟩
def td157 : TD := ⟨.int .u32, 1, 4, [(.p (.int .u32 0))]⟩
def td158 : TD := ⟨.int .u8, 1, 1, [(.p (.int .u8 0))]⟩
def td159 : TD := ⟨.int .u8, 1, 1, [(.p (.int .u8 0))]⟩
def td160 : TD := ⟨.func, 1, 8, [.nilfn]⟩
def td161 : TD := ⟨.ptr 5, 1, 8, [.nilp]⟩
def td162 : TD := ⟨.int .i32, 1, 4, [(.p (.int .i32 0))]⟩
def td163 : TD := ⟨.int .i32, 1, 4, [(.p (.int .i32 0))]⟩
def td166 : TD := ⟨.struct [(0, 9)], 1, 16, [(.p (.str ⟨#[]⟩))]⟩
def td167 : TD := ⟨.struct [(0, 9)], 1, 16, [(.p (.str ⟨#[]⟩))]⟩
def tabL : List (Nat × TD) := [(1, td1), (2, td2), (3, td3), (4, td4), (5, td5), (6, td6), (9, td9), (10, td10), (11, td11), (12, td12), (15, td15), (16, td16), (17, td17), (21, td21), (22, td22), (23, td23), (24, td24), (25, td25), (26, td26), (27, td27), (28, td28), (29, td29), (30, td30), (31, td31), (33, td33), (34, td34), (35, td35), (36, td36), (37, td37), (38, td38), (39, td39), (40, td40), (41, td41), (42, td42), (43, td43), (44, td44), (45, td45), (46, td46), (47, td47), (48, td48), (49, td49), (50, td50), (51, td51), (52, td52), (53, td53), (54, td54), (55, td55), (56, td56), (57, td57), (58, td58), (59, td59), (60, td60), (61, td61), (62, td62), (63, td63), (64, td64), (65, td65), (66, td66), (67, td67), (68, td68), (69, td69), (70, td70), (71, td71), (72, td72), (73, td73), (74, td74), (75, td75), (76, td76), (77, td77), (78, td78), (79, td79), (80, td80), (81, td81), (82, td82), (83, td83), (84, td84), (85, td85), (86, td86), (87, td87), (88, td88), (89, td89), (90, td90), (91, td91), (92, td92), (93, td93), (94, td94), (95, td95), (96, td96), (97, td97), (100, td100), (101, td101), (102, td102), (103, td103), (104, td104), (105, td105), (106, td106), (107, td107), (108, td108), (109, td109), (110, td110), (111, td111), (112, td112), (113, td113), (114, td114), (115, td115), (117, td117), (118, td118), (119, td119), (120, td120), (121, td121), (122, td122), (123, td123), (125, td125), (126, td126), (127, td127), (128, td128), (129, td129), (130, td130), (131, td131), (132, td132), (133, td133), (134, td134), (135, td135), (136, td136), (137, td137), (138, td138), (140, td140), (141, td141), (142, td142), (143, td143), (144, td144), (147, td147), (148, td148), (149, td149), (150, td150), (151, td151), (157, td157), (158, td158), (159, td159), (160, td160), (161, td161), (162, td162), (163, td163), (166, td166), (167, td167)]
def tab : Tab := fun t => (tabL.find? (fun p => p.1 == t)).map (·.2)
theorem tab_1 : tab 1 = some ⟨.func, 1, 8, [.nilfn]⟩ := rfl
theorem tab_2 : tab 2 = some ⟨.int .i64, 1, 8, [(.p (.int .i64 0))]⟩ := rfl
theorem tab_3 : tab 3 = some ⟨.int .i64, 1, 8, [(.p (.int .i64 0))]⟩ := rfl
theorem tab_4 : tab 4 = some ⟨.bool, 1, 1, [(.p (.bool false))]⟩ := rfl
theorem tab_5 : tab 5 = some ⟨.int .u8, 1, 1, [(.p (.int .u8 0))]⟩ := rfl
theorem tab_6 : tab 6 = some ⟨.int .u8, 1, 1, [(.p (.int .u8 0))]⟩ := rfl
theorem tab_9 : tab 9 = some ⟨.str, 1, 16, [(.p (.str ⟨#[]⟩))]⟩ := rfl
theorem tab_10 : tab 10 = some ⟨.str, 1, 16, [(.p (.str ⟨#[]⟩))]⟩ := rfl
theorem tab_11 : tab 11 = some ⟨.str, 1, 16, [(.p (.str ⟨#[]⟩))]⟩ := rfl
theorem tab_12 : tab 12 = some ⟨.int .u64, 1, 8, [(.p (.int .u64 0))]⟩ := rfl
theorem tab_15 : tab 15 = some ⟨.ptr 153, 1, 8, [.nilp]⟩ := rfl
theorem tab_16 : tab 16 = some ⟨.ptr 156, 1, 8, [.nilp]⟩ := rfl
theorem tab_17 : tab 17 = some ⟨.ptr 165, 1, 8, [.nilp]⟩ := rfl
theorem tab_21 : tab 21 = some ⟨.int .i32, 1, 4, [(.p (.int .i32 0))]⟩ := rfl
theorem tab_22 : tab 22 = some ⟨.slice 82, 1, 24, [(.p .nil)]⟩ := rfl
theorem tab_23 : tab 23 = some ⟨.slice 88, 1, 24, [(.p .nil)]⟩ := rfl
theorem tab_24 : tab 24 = some ⟨.struct [(0, 3), (1, 3), (2, 22), (3, 23)], 4, 64, [(.p (.int .i64 0)), (.p (.int .i64 0)), (.p .nil), (.p .nil)]⟩ := rfl
theorem tab_25 : tab 25 = some ⟨.struct [(0, 3), (1, 3), (2, 22), (3, 23)], 4, 64, [(.p (.int .i64 0)), (.p (.int .i64 0)), (.p .nil), (.p .nil)]⟩ := rfl
theorem tab_26 : tab 26 = some ⟨.slice 22, 1, 24, [(.p .nil)]⟩ := rfl
theorem tab_27 : tab 27 = some ⟨.func, 1, 8, [.nilfn]⟩ := rfl
theorem tab_28 : tab 28 = some ⟨.func, 1, 8, [.nilfn]⟩ := rfl
theorem tab_29 : tab 29 = some ⟨.slice 3, 1, 24, [(.p .nil)]⟩ := rfl
theorem tab_30 : tab 30 = some ⟨.struct [(0, 29)], 1, 24, [(.p .nil)]⟩ := rfl
theorem tab_31 : tab 31 = some ⟨.struct [(0, 29)], 1, 24, [(.p .nil)]⟩ := rfl
theorem tab_33 : tab 33 = some ⟨.func, 1, 8, [.nilfn]⟩ := rfl
theorem tab_34 : tab 34 = some ⟨.slice 80, 1, 24, [(.p .nil)]⟩ := rfl
theorem tab_35 : tab 35 = some ⟨.slice 92, 1, 24, [(.p .nil)]⟩ := rfl
theorem tab_36 : tab 36 = some ⟨.struct [(0, 3), (1, 3), (2, 34), (3, 35)], 4, 64, [(.p (.int .i64 0)), (.p (.int .i64 0)), (.p .nil), (.p .nil)]⟩ := rfl
theorem tab_37 : tab 37 = some ⟨.struct [(0, 3), (1, 3), (2, 34), (3, 35)], 4, 64, [(.p (.int .i64 0)), (.p (.int .i64 0)), (.p .nil), (.p .nil)]⟩ := rfl
theorem tab_38 : tab 38 = some ⟨.func, 1, 8, [.nilfn]⟩ := rfl
theorem tab_39 : tab 39 = some ⟨.slice 34, 1, 24, [(.p .nil)]⟩ := rfl
theorem tab_40 : tab 40 = some ⟨.func, 1, 8, [.nilfn]⟩ := rfl
theorem tab_41 : tab 41 = some ⟨.func, 1, 8, [.nilfn]⟩ := rfl
theorem tab_42 : tab 42 = some ⟨.func, 1, 8, [.nilfn]⟩ := rfl
theorem tab_43 : tab 43 = some ⟨.func, 1, 8, [.nilfn]⟩ := rfl
theorem tab_44 : tab 44 = some ⟨.func, 1, 8, [.nilfn]⟩ := rfl
theorem tab_45 : tab 45 = some ⟨.func, 1, 8, [.nilfn]⟩ := rfl
theorem tab_46 : tab 46 = some ⟨.func, 1, 8, [.nilfn]⟩ := rfl
theorem tab_47 : tab 47 = some ⟨.func, 1, 8, [.nilfn]⟩ := rfl
theorem tab_48 : tab 48 = some ⟨.struct [(0, 29)], 1, 24, [(.p .nil)]⟩ := rfl
theorem tab_49 : tab 49 = some ⟨.func, 1, 8, [.nilfn]⟩ := rfl
theorem tab_50 : tab 50 = some ⟨.func, 1, 8, [.nilfn]⟩ := rfl
theorem tab_51 : tab 51 = some ⟨.func, 1, 8, [.nilfn]⟩ := rfl
theorem tab_52 : tab 52 = some ⟨.func, 1, 8, [.nilfn]⟩ := rfl
theorem tab_53 : tab 53 = some ⟨.func, 1, 8, [.nilfn]⟩ := rfl
theorem tab_54 : tab 54 = some ⟨.func, 1, 8, [.nilfn]⟩ := rfl
theorem tab_55 : tab 55 = some ⟨.func, 1, 8, [.nilfn]⟩ := rfl
theorem tab_56 : tab 56 = some ⟨.func, 1, 8, [.nilfn]⟩ := rfl
theorem tab_57 : tab 57 = some ⟨.func, 1, 8, [.nilfn]⟩ := rfl
theorem tab_58 : tab 58 = some ⟨.func, 1, 8, [.nilfn]⟩ := rfl
theorem tab_59 : tab 59 = some ⟨.func, 1, 8, [.nilfn]⟩ := rfl
theorem tab_60 : tab 60 = some ⟨.func, 1, 8, [.nilfn]⟩ := rfl
theorem tab_61 : tab 61 = some ⟨.func, 1, 8, [.nilfn]⟩ := rfl
theorem tab_62 : tab 62 = some ⟨.func, 1, 8, [.nilfn]⟩ := rfl
theorem tab_63 : tab 63 = some ⟨.slice 67, 1, 24, [(.p .nil)]⟩ := rfl
theorem tab_64 : tab 64 = some ⟨.func, 1, 8, [.nilfn]⟩ := rfl
theorem tab_65 : tab 65 = some ⟨.slice 68, 1, 24, [(.p .nil)]⟩ := rfl
theorem tab_66 : tab 66 = some ⟨.func, 1, 8, [.nilfn]⟩ := rfl
theorem tab_67 : tab 67 = some ⟨.arr 2 3, 2, 16, [(.p (.int .i64 0)), (.p (.int .i64 0))]⟩ := rfl
theorem tab_68 : tab 68 = some ⟨.int .u64, 1, 8, [(.p (.int .u64 0))]⟩ := rfl
theorem tab_69 : tab 69 = some ⟨.func, 1, 8, [.nilfn]⟩ := rfl
theorem tab_70 : tab 70 = some ⟨.func, 1, 8, [.nilfn]⟩ := rfl
theorem tab_71 : tab 71 = some ⟨.func, 1, 8, [.nilfn]⟩ := rfl
theorem tab_72 : tab 72 = some ⟨.func, 1, 8, [.nilfn]⟩ := rfl
theorem tab_73 : tab 73 = some ⟨.func, 1, 8, [.nilfn]⟩ := rfl
theorem tab_74 : tab 74 = some ⟨.func, 1, 8, [.nilfn]⟩ := rfl
theorem tab_75 : tab 75 = some ⟨.func, 1, 8, [.nilfn]⟩ := rfl
theorem tab_76 : tab 76 = some ⟨.func, 1, 8, [.nilfn]⟩ := rfl
theorem tab_77 : tab 77 = some ⟨.func, 1, 8, [.nilfn]⟩ := rfl
theorem tab_78 : tab 78 = some ⟨.func, 1, 8, [.nilfn]⟩ := rfl
theorem tab_79 : tab 79 = some ⟨.struct [(0, 3), (1, 68)], 2, 16, [(.p (.int .i64 0)), (.p (.int .u64 0))]⟩ := rfl
theorem tab_80 : tab 80 = some ⟨.struct [(0, 3), (1, 68)], 2, 16, [(.p (.int .i64 0)), (.p (.int .u64 0))]⟩ := rfl
theorem tab_81 : tab 81 = some ⟨.func, 1, 8, [.nilfn]⟩ := rfl
theorem tab_82 : tab 82 = some ⟨.struct [(0, 3), (1, 68)], 2, 16, [(.p (.int .i64 0)), (.p (.int .u64 0))]⟩ := rfl
theorem tab_83 : tab 83 = some ⟨.func, 1, 8, [.nilfn]⟩ := rfl
theorem tab_84 : tab 84 = some ⟨.func, 1, 8, [.nilfn]⟩ := rfl
theorem tab_85 : tab 85 = some ⟨.func, 1, 8, [.nilfn]⟩ := rfl
theorem tab_86 : tab 86 = some ⟨.slice 133, 1, 24, [(.p .nil)]⟩ := rfl
theorem tab_87 : tab 87 = some ⟨.struct [(0, 22), (1, 86)], 2, 48, [(.p .nil), (.p .nil)]⟩ := rfl
theorem tab_88 : tab 88 = some ⟨.struct [(0, 22), (1, 86)], 2, 48, [(.p .nil), (.p .nil)]⟩ := rfl
theorem tab_89 : tab 89 = some ⟨.func, 1, 8, [.nilfn]⟩ := rfl
theorem tab_90 : tab 90 = some ⟨.slice 123, 1, 24, [(.p .nil)]⟩ := rfl
theorem tab_91 : tab 91 = some ⟨.struct [(0, 34), (1, 90)], 2, 48, [(.p .nil), (.p .nil)]⟩ := rfl
theorem tab_92 : tab 92 = some ⟨.struct [(0, 34), (1, 90)], 2, 48, [(.p .nil), (.p .nil)]⟩ := rfl
theorem tab_93 : tab 93 = some ⟨.func, 1, 8, [.nilfn]⟩ := rfl
theorem tab_94 : tab 94 = some ⟨.func, 1, 8, [.nilfn]⟩ := rfl
theorem tab_95 : tab 95 = some ⟨.func, 1, 8, [.nilfn]⟩ := rfl
theorem tab_96 : tab 96 = some ⟨.func, 1, 8, [.nilfn]⟩ := rfl
theorem tab_97 : tab 97 = some ⟨.func, 1, 8, [.nilfn]⟩ := rfl
theorem tab_100 : tab 100 = some ⟨.func, 1, 8, [.nilfn]⟩ := rfl
theorem tab_101 : tab 101 = some ⟨.func, 1, 8, [.nilfn]⟩ := rfl
theorem tab_102 : tab 102 = some ⟨.func, 1, 8, [.nilfn]⟩ := rfl
theorem tab_103 : tab 103 = some ⟨.func, 1, 8, [.nilfn]⟩ := rfl
theorem tab_104 : tab 104 = some ⟨.func, 1, 8, [.nilfn]⟩ := rfl
theorem tab_105 : tab 105 = some ⟨.func, 1, 8, [.nilfn]⟩ := rfl
theorem tab_106 : tab 106 = some ⟨.func, 1, 8, [.nilfn]⟩ := rfl
theorem tab_107 : tab 107 = some ⟨.func, 1, 8, [.nilfn]⟩ := rfl
theorem tab_108 : tab 108 = some ⟨.func, 1, 8, [.nilfn]⟩ := rfl
theorem tab_109 : tab 109 = some ⟨.int .u64, 1, 8, [(.p (.int .u64 0))]⟩ := rfl
theorem tab_110 : tab 110 = some ⟨.func, 1, 8, [.nilfn]⟩ := rfl
theorem tab_111 : tab 111 = some ⟨.func, 1, 8, [.nilfn]⟩ := rfl
theorem tab_112 : tab 112 = some ⟨.func, 1, 8, [.nilfn]⟩ := rfl
theorem tab_113 : tab 113 = some ⟨.func, 1, 8, [.nilfn]⟩ := rfl
theorem tab_114 : tab 114 = some ⟨.func, 1, 8, [.nilfn]⟩ := rfl
theorem tab_115 : tab 115 = some ⟨.func, 1, 8, [.nilfn]⟩ := rfl
theorem tab_117 : tab 117 = some ⟨.func, 1, 8, [.nilfn]⟩ := rfl
theorem tab_118 : tab 118 = some ⟨.func, 1, 8, [.nilfn]⟩ := rfl
theorem tab_119 : tab 119 = some ⟨.func, 1, 8, [.nilfn]⟩ := rfl
theorem tab_120 : tab 120 = some ⟨.func, 1, 8, [.nilfn]⟩ := rfl
theorem tab_121 : tab 121 = some ⟨.func, 1, 8, [.nilfn]⟩ := rfl
theorem tab_122 : tab 122 = some ⟨.struct [(0, 3), (1, 34)], 2, 32, [(.p (.int .i64 0)), (.p .nil)]⟩ := rfl
theorem tab_123 : tab 123 = some ⟨.struct [(0, 3), (1, 34)], 2, 32, [(.p (.int .i64 0)), (.p .nil)]⟩ := rfl
theorem tab_125 : tab 125 = some ⟨.func, 1, 8, [.nilfn]⟩ := rfl
theorem tab_126 : tab 126 = some ⟨.func, 1, 8, [.nilfn]⟩ := rfl
theorem tab_127 : tab 127 = some ⟨.func, 1, 8, [.nilfn]⟩ := rfl
theorem tab_128 : tab 128 = some ⟨.func, 1, 8, [.nilfn]⟩ := rfl
theorem tab_129 : tab 129 = some ⟨.func, 1, 8, [.nilfn]⟩ := rfl
theorem tab_130 : tab 130 = some ⟨.func, 1, 8, [.nilfn]⟩ := rfl
theorem tab_131 : tab 131 = some ⟨.func, 1, 8, [.nilfn]⟩ := rfl
theorem tab_132 : tab 132 = some ⟨.struct [(0, 3), (1, 22)], 2, 32, [(.p (.int .i64 0)), (.p .nil)]⟩ := rfl
theorem tab_133 : tab 133 = some ⟨.struct [(0, 3), (1, 22)], 2, 32, [(.p (.int .i64 0)), (.p .nil)]⟩ := rfl
theorem tab_134 : tab 134 = some ⟨.func, 1, 8, [.nilfn]⟩ := rfl
theorem tab_135 : tab 135 = some ⟨.func, 1, 8, [.nilfn]⟩ := rfl
theorem tab_136 : tab 136 = some ⟨.func, 1, 8, [.nilfn]⟩ := rfl
theorem tab_137 : tab 137 = some ⟨.func, 1, 8, [.nilfn]⟩ := rfl
theorem tab_138 : tab 138 = some ⟨.func, 1, 8, [.nilfn]⟩ := rfl
theorem tab_140 : tab 140 = some ⟨.func, 1, 8, [.nilfn]⟩ := rfl
theorem tab_141 : tab 141 = some ⟨.func, 1, 8, [.nilfn]⟩ := rfl
theorem tab_142 : tab 142 = some ⟨.func, 1, 8, [.nilfn]⟩ := rfl
theorem tab_143 : tab 143 = some ⟨.func, 1, 8, [.nilfn]⟩ := rfl
theorem tab_144 : tab 144 = some ⟨.func, 1, 8, [.nilfn]⟩ := rfl
theorem tab_147 : tab 147 = some ⟨.func, 1, 8, [.nilfn]⟩ := rfl
theorem tab_148 : tab 148 = some ⟨.func, 1, 8, [.nilfn]⟩ := rfl
theorem tab_149 : tab 149 = some ⟨.func, 1, 8, [.nilfn]⟩ := rfl
theorem tab_150 : tab 150 = some ⟨.ptr 167, 1, 8, [.nilp]⟩ := rfl
theorem tab_151 : tab 151 = some ⟨.func, 1, 8, [.nilfn]⟩ := rfl
theorem tab_157 : tab 157 = some ⟨.int .u32, 1, 4, [(.p (.int .u32 0))]⟩ := rfl
theorem tab_158 : tab 158 = some ⟨.int .u8, 1, 1, [(.p (.int .u8 0))]⟩ := rfl
theorem tab_159 : tab 159 = some ⟨.int .u8, 1, 1, [(.p (.int .u8 0))]⟩ := rfl
theorem tab_160 : tab 160 = some ⟨.func, 1, 8, [.nilfn]⟩ := rfl
theorem tab_161 : tab 161 = some ⟨.ptr 5, 1, 8, [.nilp]⟩ := rfl
theorem tab_162 : tab 162 = some ⟨.int .i32, 1, 4, [(.p (.int .i32 0))]⟩ := rfl
theorem tab_163 : tab 163 = some ⟨.int .i32, 1, 4, [(.p (.int .i32 0))]⟩ := rfl
theorem tab_166 : tab 166 = some ⟨.struct [(0, 9)], 1, 16, [(.p (.str ⟨#[]⟩))]⟩ := rfl
theorem tab_167 : tab 167 = some ⟨.struct [(0, 9)], 1, 16, [(.p (.str ⟨#[]⟩))]⟩ := rfl
set_option maxRecDepth 100000 in
theorem tabs : tab 1 = some ⟨.func, 1, 8, [.nilfn]⟩ ∧ tab 2 = some ⟨.int .i64, 1, 8, [(.p (.int .i64 0))]⟩ ∧ tab 3 = some ⟨.int .i64, 1, 8, [(.p (.int .i64 0))]⟩ ∧ tab 4 = some ⟨.bool, 1, 1, [(.p (.bool false))]⟩ ∧ tab 5 = some ⟨.int .u8, 1, 1, [(.p (.int .u8 0))]⟩ ∧ tab 6 = some ⟨.int .u8, 1, 1, [(.p (.int .u8 0))]⟩ ∧ tab 9 = some ⟨.str, 1, 16, [(.p (.str ⟨#[]⟩))]⟩ ∧ tab 10 = some ⟨.str, 1, 16, [(.p (.str ⟨#[]⟩))]⟩ ∧ tab 11 = some ⟨.str, 1, 16, [(.p (.str ⟨#[]⟩))]⟩ ∧ tab 12 = some ⟨.int .u64, 1, 8, [(.p (.int .u64 0))]⟩ ∧ tab 15 = some ⟨.ptr 153, 1, 8, [.nilp]⟩ ∧ tab 16 = some ⟨.ptr 156, 1, 8, [.nilp]⟩ ∧ tab 17 = some ⟨.ptr 165, 1, 8, [.nilp]⟩ ∧ tab 21 = some ⟨.int .i32, 1, 4, [(.p (.int .i32 0))]⟩ ∧ tab 22 = some ⟨.slice 82, 1, 24, [(.p .nil)]⟩ ∧ tab 23 = some ⟨.slice 88, 1, 24, [(.p .nil)]⟩ ∧ tab 24 = some ⟨.struct [(0, 3), (1, 3), (2, 22), (3, 23)], 4, 64, [(.p (.int .i64 0)), (.p (.int .i64 0)), (.p .nil), (.p .nil)]⟩ ∧ tab 25 = some ⟨.struct [(0, 3), (1, 3), (2, 22), (3, 23)], 4, 64, [(.p (.int .i64 0)), (.p (.int .i64 0)), (.p .nil), (.p .nil)]⟩ ∧ tab 26 = some ⟨.slice 22, 1, 24, [(.p .nil)]⟩ ∧ tab 27 = some ⟨.func, 1, 8, [.nilfn]⟩ ∧ tab 28 = some ⟨.func, 1, 8, [.nilfn]⟩ ∧ tab 29 = some ⟨.slice 3, 1, 24, [(.p .nil)]⟩ ∧ tab 30 = some ⟨.struct [(0, 29)], 1, 24, [(.p .nil)]⟩ ∧ tab 31 = some ⟨.struct [(0, 29)], 1, 24, [(.p .nil)]⟩ ∧ tab 33 = some ⟨.func, 1, 8, [.nilfn]⟩ ∧ tab 34 = some ⟨.slice 80, 1, 24, [(.p .nil)]⟩ ∧ tab 35 = some ⟨.slice 92, 1, 24, [(.p .nil)]⟩ ∧ tab 36 = some ⟨.struct [(0, 3), (1, 3), (2, 34), (3, 35)], 4, 64, [(.p (.int .i64 0)), (.p (.int .i64 0)), (.p .nil), (.p .nil)]⟩ ∧ tab 37 = some ⟨.struct [(0, 3), (1, 3), (2, 34), (3, 35)], 4, 64, [(.p (.int .i64 0)), (.p (.int .i64 0)), (.p .nil), (.p .nil)]⟩ ∧ tab 38 = some ⟨.func, 1, 8, [.nilfn]⟩ ∧ tab 39 = some ⟨.slice 34, 1, 24, [(.p .nil)]⟩ ∧ tab 40 = some ⟨.func, 1, 8, [.nilfn]⟩ ∧ tab 41 = some ⟨.func, 1, 8, [.nilfn]⟩ ∧ tab 42 = some ⟨.func, 1, 8, [.nilfn]⟩ ∧ tab 43 = some ⟨.func, 1, 8, [.nilfn]⟩ ∧ tab 44 = some ⟨.func, 1, 8, [.nilfn]⟩ ∧ tab 45 = some ⟨.func, 1, 8, [.nilfn]⟩ ∧ tab 46 = some ⟨.func, 1, 8, [.nilfn]⟩ ∧ tab 47 = some ⟨.func, 1, 8, [.nilfn]⟩ ∧ tab 48 = some ⟨.struct [(0, 29)], 1, 24, [(.p .nil)]⟩ ∧ tab 49 = some ⟨.func, 1, 8, [.nilfn]⟩ ∧ tab 50 = some ⟨.func, 1, 8, [.nilfn]⟩ ∧ tab 51 = some ⟨.func, 1, 8, [.nilfn]⟩ ∧ tab 52 = some ⟨.func, 1, 8, [.nilfn]⟩ ∧ tab 53 = some ⟨.func, 1, 8, [.nilfn]⟩ ∧ tab 54 = some ⟨.func, 1, 8, [.nilfn]⟩ ∧ tab 55 = some ⟨.func, 1, 8, [.nilfn]⟩ ∧ tab 56 = some ⟨.func, 1, 8, [.nilfn]⟩ ∧ tab 57 = some ⟨.func, 1, 8, [.nilfn]⟩ ∧ tab 58 = some ⟨.func, 1, 8, [.nilfn]⟩ ∧ tab 59 = some ⟨.func, 1, 8, [.nilfn]⟩ ∧ tab 60 = some ⟨.func, 1, 8, [.nilfn]⟩ ∧ tab 61 = some ⟨.func, 1, 8, [.nilfn]⟩ ∧ tab 62 = some ⟨.func, 1, 8, [.nilfn]⟩ ∧ tab 63 = some ⟨.slice 67, 1, 24, [(.p .nil)]⟩ ∧ tab 64 = some ⟨.func, 1, 8, [.nilfn]⟩ ∧ tab 65 = some ⟨.slice 68, 1, 24, [(.p .nil)]⟩ ∧ tab 66 = some ⟨.func, 1, 8, [.nilfn]⟩ ∧ tab 67 = some ⟨.arr 2 3, 2, 16, [(.p (.int .i64 0)), (.p (.int .i64 0))]⟩ ∧ tab 68 = some ⟨.int .u64, 1, 8, [(.p (.int .u64 0))]⟩ ∧ tab 69 = some ⟨.func, 1, 8, [.nilfn]⟩ ∧ tab 70 = some ⟨.func, 1, 8, [.nilfn]⟩ ∧ tab 71 = some ⟨.func, 1, 8, [.nilfn]⟩ ∧ tab 72 = some ⟨.func, 1, 8, [.nilfn]⟩ ∧ tab 73 = some ⟨.func, 1, 8, [.nilfn]⟩ ∧ tab 74 = some ⟨.func, 1, 8, [.nilfn]⟩ ∧ tab 75 = some ⟨.func, 1, 8, [.nilfn]⟩ ∧ tab 76 = some ⟨.func, 1, 8, [.nilfn]⟩ ∧ tab 77 = some ⟨.func, 1, 8, [.nilfn]⟩ ∧ tab 78 = some ⟨.func, 1, 8, [.nilfn]⟩ ∧ tab 79 = some ⟨.struct [(0, 3), (1, 68)], 2, 16, [(.p (.int .i64 0)), (.p (.int .u64 0))]⟩ ∧ tab 80 = some ⟨.struct [(0, 3), (1, 68)], 2, 16, [(.p (.int .i64 0)), (.p (.int .u64 0))]⟩ ∧ tab 81 = some ⟨.func, 1, 8, [.nilfn]⟩ ∧ tab 82 = some ⟨.struct [(0, 3), (1, 68)], 2, 16, [(.p (.int .i64 0)), (.p (.int .u64 0))]⟩ ∧ tab 83 = some ⟨.func, 1, 8, [.nilfn]⟩ ∧ tab 84 = some ⟨.func, 1, 8, [.nilfn]⟩ ∧ tab 85 = some ⟨.func, 1, 8, [.nilfn]⟩ ∧ tab 86 = some ⟨.slice 133, 1, 24, [(.p .nil)]⟩ ∧ tab 87 = some ⟨.struct [(0, 22), (1, 86)], 2, 48, [(.p .nil), (.p .nil)]⟩ ∧ tab 88 = some ⟨.struct [(0, 22), (1, 86)], 2, 48, [(.p .nil), (.p .nil)]⟩ ∧ tab 89 = some ⟨.func, 1, 8, [.nilfn]⟩ ∧ tab 90 = some ⟨.slice 123, 1, 24, [(.p .nil)]⟩ ∧ tab 91 = some ⟨.struct [(0, 34), (1, 90)], 2, 48, [(.p .nil), (.p .nil)]⟩ ∧ tab 92 = some ⟨.struct [(0, 34), (1, 90)], 2, 48, [(.p .nil), (.p .nil)]⟩ ∧ tab 93 = some ⟨.func, 1, 8, [.nilfn]⟩ ∧ tab 94 = some ⟨.func, 1, 8, [.nilfn]⟩ ∧ tab 95 = some ⟨.func, 1, 8, [.nilfn]⟩ ∧ tab 96 = some ⟨.func, 1, 8, [.nilfn]⟩ ∧ tab 97 = some ⟨.func, 1, 8, [.nilfn]⟩ ∧ tab 100 = some ⟨.func, 1, 8, [.nilfn]⟩ ∧ tab 101 = some ⟨.func, 1, 8, [.nilfn]⟩ ∧ tab 102 = some ⟨.func, 1, 8, [.nilfn]⟩ ∧ tab 103 = some ⟨.func, 1, 8, [.nilfn]⟩ ∧ tab 104 = some ⟨.func, 1, 8, [.nilfn]⟩ ∧ tab 105 = some ⟨.func, 1, 8, [.nilfn]⟩ ∧ tab 106 = some ⟨.func, 1, 8, [.nilfn]⟩ ∧ tab 107 = some ⟨.func, 1, 8, [.nilfn]⟩ ∧ tab 108 = some ⟨.func, 1, 8, [.nilfn]⟩ ∧ tab 109 = some ⟨.int .u64, 1, 8, [(.p (.int .u64 0))]⟩ ∧ tab 110 = some ⟨.func, 1, 8, [.nilfn]⟩ ∧ tab 111 = some ⟨.func, 1, 8, [.nilfn]⟩ ∧ tab 112 = some ⟨.func, 1, 8, [.nilfn]⟩ ∧ tab 113 = some ⟨.func, 1, 8, [.nilfn]⟩ ∧ tab 114 = some ⟨.func, 1, 8, [.nilfn]⟩ ∧ tab 115 = some ⟨.func, 1, 8, [.nilfn]⟩ ∧ tab 117 = some ⟨.func, 1, 8, [.nilfn]⟩ ∧ tab 118 = some ⟨.func, 1, 8, [.nilfn]⟩ ∧ tab 119 = some ⟨.func, 1, 8, [.nilfn]⟩ ∧ tab 120 = some ⟨.func, 1, 8, [.nilfn]⟩ ∧ tab 121 = some ⟨.func, 1, 8, [.nilfn]⟩ ∧ tab 122 = some ⟨.struct [(0, 3), (1, 34)], 2, 32, [(.p (.int .i64 0)), (.p .nil)]⟩ ∧ tab 123 = some ⟨.struct [(0, 3), (1, 34)], 2, 32, [(.p (.int .i64 0)), (.p .nil)]⟩ ∧ tab 125 = some ⟨.func, 1, 8, [.nilfn]⟩ ∧ tab 126 = some ⟨.func, 1, 8, [.nilfn]⟩ ∧ tab 127 = some ⟨.func, 1, 8, [.nilfn]⟩ ∧ tab 128 = some ⟨.func, 1, 8, [.nilfn]⟩ ∧ tab 129 = some ⟨.func, 1, 8, [.nilfn]⟩ ∧ tab 130 = some ⟨.func, 1, 8, [.nilfn]⟩ ∧ tab 131 = some ⟨.func, 1, 8, [.nilfn]⟩ ∧ tab 132 = some ⟨.struct [(0, 3), (1, 22)], 2, 32, [(.p (.int .i64 0)), (.p .nil)]⟩ ∧ tab 133 = some ⟨.struct [(0, 3), (1, 22)], 2, 32, [(.p (.int .i64 0)), (.p .nil)]⟩ ∧ tab 134 = some ⟨.func, 1, 8, [.nilfn]⟩ ∧ tab 135 = some ⟨.func, 1, 8, [.nilfn]⟩ ∧ tab 136 = some ⟨.func, 1, 8, [.nilfn]⟩ ∧ tab 137 = some ⟨.func, 1, 8, [.nilfn]⟩ ∧ tab 138 = some ⟨.func, 1, 8, [.nilfn]⟩ ∧ tab 140 = some ⟨.func, 1, 8, [.nilfn]⟩ ∧ tab 141 = some ⟨.func, 1, 8, [.nilfn]⟩ ∧ tab 142 = some ⟨.func, 1, 8, [.nilfn]⟩ ∧ tab 143 = some ⟨.func, 1, 8, [.nilfn]⟩ ∧ tab 144 = some ⟨.func, 1, 8, [.nilfn]⟩ ∧ tab 147 = some ⟨.func, 1, 8, [.nilfn]⟩ ∧ tab 148 = some ⟨.func, 1, 8, [.nilfn]⟩ ∧ tab 149 = some ⟨.func, 1, 8, [.nilfn]⟩ ∧ tab 150 = some ⟨.ptr 167, 1, 8, [.nilp]⟩ ∧ tab 151 = some ⟨.func, 1, 8, [.nilfn]⟩ ∧ tab 157 = some ⟨.int .u32, 1, 4, [(.p (.int .u32 0))]⟩ ∧ tab 158 = some ⟨.int .u8, 1, 1, [(.p (.int .u8 0))]⟩ ∧ tab 159 = some ⟨.int .u8, 1, 1, [(.p (.int .u8 0))]⟩ ∧ tab 160 = some ⟨.func, 1, 8, [.nilfn]⟩ ∧ tab 161 = some ⟨.ptr 5, 1, 8, [.nilp]⟩ ∧ tab 162 = some ⟨.int .i32, 1, 4, [(.p (.int .i32 0))]⟩ ∧ tab 163 = some ⟨.int .i32, 1, 4, [(.p (.int .i32 0))]⟩ ∧ tab 166 = some ⟨.struct [(0, 9)], 1, 16, [(.p (.str ⟨#[]⟩))]⟩ ∧ tab 167 = some ⟨.struct [(0, 9)], 1, 16, [(.p (.str ⟨#[]⟩))]⟩ := ⟨tab_1, tab_2, tab_3, tab_4, tab_5, tab_6, tab_9, tab_10, tab_11, tab_12, tab_15, tab_16, tab_17, tab_21, tab_22, tab_23, tab_24, tab_25, tab_26, tab_27, tab_28, tab_29, tab_30, tab_31, tab_33, tab_34, tab_35, tab_36, tab_37, tab_38, tab_39, tab_40, tab_41, tab_42, tab_43, tab_44, tab_45, tab_46, tab_47, tab_48, tab_49, tab_50, tab_51, tab_52, tab_53, tab_54, tab_55, tab_56, tab_57, tab_58, tab_59, tab_60, tab_61, tab_62, tab_63, tab_64, tab_65, tab_66, tab_67, tab_68, tab_69, tab_70, tab_71, tab_72, tab_73, tab_74, tab_75, tab_76, tab_77, tab_78, tab_79, tab_80, tab_81, tab_82, tab_83, tab_84, tab_85, tab_86, tab_87, tab_88, tab_89, tab_90, tab_91, tab_92, tab_93, tab_94, tab_95, tab_96, tab_97, tab_100, tab_101, tab_102, tab_103, tab_104, tab_105, tab_106, tab_107, tab_108, tab_109, tab_110, tab_111, tab_112, tab_113, tab_114, tab_115, tab_117, tab_118, tab_119, tab_120, tab_121, tab_122, tab_123, tab_125, tab_126, tab_127, tab_128, tab_129, tab_130, tab_131, tab_132, tab_133, tab_134, tab_135, tab_136, tab_137, tab_138, tab_140, tab_141, tab_142, tab_143, tab_144, tab_147, tab_148, tab_149, tab_150, tab_151, tab_157, tab_158, tab_159, tab_160, tab_161, tab_162, tab_163, tab_166, tab_167⟩
theorem info1 : (Tryz.prog.info? 1).map (fun i => (i.zero, i.size, i.bytes)) = some (some .nilFunc, 1, 8) := by kernel_rfl
theorem td1_ok : TD.Ok Tryz.prog 1 td1 := TD.Ok.of ⟨_, _, _, Tryz.underlying1⟩ info1 rfl rfl (by decide) (fun _ => rfl)
theorem info2 : (Tryz.prog.info? 2).map (fun i => (i.zero, i.size, i.bytes)) = some (some (.int .i64 0), 1, 8) := by kernel_rfl
theorem td2_ok : TD.Ok Tryz.prog 2 td2 := TD.Ok.of Tryz.underlying2 info2 rfl rfl (by decide) (fun _ => rfl)
theorem info3 : (Tryz.prog.info? 3).map (fun i => (i.zero, i.size, i.bytes)) = some (some (.int .i64 0), 1, 8) := by kernel_rfl
theorem td3_ok : TD.Ok Tryz.prog 3 td3 := TD.Ok.of Tryz.underlying3 info3 rfl rfl (by decide) (fun _ => rfl)
theorem info4 : (Tryz.prog.info? 4).map (fun i => (i.zero, i.size, i.bytes)) = some (some (.bool false), 1, 1) := by kernel_rfl
theorem td4_ok : TD.Ok Tryz.prog 4 td4 := TD.Ok.of Tryz.underlying4 info4 rfl rfl (by decide) (fun _ => rfl)
theorem info5 : (Tryz.prog.info? 5).map (fun i => (i.zero, i.size, i.bytes)) = some (some (.int .u8 0), 1, 1) := by kernel_rfl
theorem td5_ok : TD.Ok Tryz.prog 5 td5 := TD.Ok.of Tryz.underlying5 info5 rfl rfl (by decide) (fun _ => rfl)
theorem info6 : (Tryz.prog.info? 6).map (fun i => (i.zero, i.size, i.bytes)) = some (some (.int .u8 0), 1, 1) := by kernel_rfl
theorem td6_ok : TD.Ok Tryz.prog 6 td6 := TD.Ok.of Tryz.underlying6 info6 rfl rfl (by decide) (fun _ => rfl)
theorem info9 : (Tryz.prog.info? 9).map (fun i => (i.zero, i.size, i.bytes)) = some (some (.string ⟨#[]⟩), 1, 16) := by kernel_rfl
theorem td9_ok : TD.Ok Tryz.prog 9 td9 := TD.Ok.of Tryz.underlying9 info9 rfl rfl (by decide) (fun _ => rfl)
theorem info10 : (Tryz.prog.info? 10).map (fun i => (i.zero, i.size, i.bytes)) = some (some (.string ⟨#[]⟩), 1, 16) := by kernel_rfl
theorem td10_ok : TD.Ok Tryz.prog 10 td10 := TD.Ok.of Tryz.underlying10 info10 rfl rfl (by decide) (fun _ => rfl)
theorem info11 : (Tryz.prog.info? 11).map (fun i => (i.zero, i.size, i.bytes)) = some (some (.string ⟨#[]⟩), 1, 16) := by kernel_rfl
theorem td11_ok : TD.Ok Tryz.prog 11 td11 := TD.Ok.of Tryz.underlying11 info11 rfl rfl (by decide) (fun _ => rfl)
theorem info12 : (Tryz.prog.info? 12).map (fun i => (i.zero, i.size, i.bytes)) = some (some (.int .u64 0), 1, 8) := by kernel_rfl
theorem td12_ok : TD.Ok Tryz.prog 12 td12 := TD.Ok.of Tryz.underlying12 info12 rfl rfl (by decide) (fun _ => rfl)
theorem info15 : (Tryz.prog.info? 15).map (fun i => (i.zero, i.size, i.bytes)) = some (some (.pointer none), 1, 8) := by kernel_rfl
theorem td15_ok : TD.Ok Tryz.prog 15 td15 := TD.Ok.of Tryz.underlying15 info15 rfl rfl (by decide) (fun _ => rfl)
theorem info16 : (Tryz.prog.info? 16).map (fun i => (i.zero, i.size, i.bytes)) = some (some (.pointer none), 1, 8) := by kernel_rfl
theorem td16_ok : TD.Ok Tryz.prog 16 td16 := TD.Ok.of Tryz.underlying16 info16 rfl rfl (by decide) (fun _ => rfl)
theorem info17 : (Tryz.prog.info? 17).map (fun i => (i.zero, i.size, i.bytes)) = some (some (.pointer none), 1, 8) := by kernel_rfl
theorem td17_ok : TD.Ok Tryz.prog 17 td17 := TD.Ok.of Tryz.underlying17 info17 rfl rfl (by decide) (fun _ => rfl)
theorem info21 : (Tryz.prog.info? 21).map (fun i => (i.zero, i.size, i.bytes)) = some (some (.int .i32 0), 1, 4) := by kernel_rfl
theorem td21_ok : TD.Ok Tryz.prog 21 td21 := TD.Ok.of Tryz.underlying21 info21 rfl rfl (by decide) (fun _ => rfl)
theorem info22 : (Tryz.prog.info? 22).map (fun i => (i.zero, i.size, i.bytes)) = some (some (.slice none 0 0), 1, 24) := by kernel_rfl
theorem td22_ok : TD.Ok Tryz.prog 22 td22 := TD.Ok.of Tryz.underlying22 info22 rfl rfl (by decide) (fun _ => rfl)
theorem info23 : (Tryz.prog.info? 23).map (fun i => (i.zero, i.size, i.bytes)) = some (some (.slice none 0 0), 1, 24) := by kernel_rfl
theorem td23_ok : TD.Ok Tryz.prog 23 td23 := TD.Ok.of Tryz.underlying23 info23 rfl rfl (by decide) (fun _ => rfl)
theorem info24 : (Tryz.prog.info? 24).map (fun i => (i.zero, i.size, i.bytes)) = some (some (.agg #[(.int .i64 0), (.int .i64 0), (.slice none 0 0), (.slice none 0 0)]), 4, 64) := by kernel_rfl
theorem td24_ok : TD.Ok Tryz.prog 24 td24 := TD.Ok.of ⟨_, Tryz.underlying24, rfl, Tryz.stoodInHeld24, Tryz.eqGuardType24, by decide⟩ info24 rfl rfl (by decide) (fun h => by cases h)
theorem info25 : (Tryz.prog.info? 25).map (fun i => (i.zero, i.size, i.bytes)) = some (some (.agg #[(.int .i64 0), (.int .i64 0), (.slice none 0 0), (.slice none 0 0)]), 4, 64) := by kernel_rfl
theorem td25_ok : TD.Ok Tryz.prog 25 td25 := TD.Ok.of ⟨_, Tryz.underlying25, rfl, Tryz.stoodInHeld25, Tryz.eqGuardType25, by decide⟩ info25 rfl rfl (by decide) (fun h => by cases h)
theorem info26 : (Tryz.prog.info? 26).map (fun i => (i.zero, i.size, i.bytes)) = some (some (.slice none 0 0), 1, 24) := by kernel_rfl
theorem td26_ok : TD.Ok Tryz.prog 26 td26 := TD.Ok.of Tryz.underlying26 info26 rfl rfl (by decide) (fun _ => rfl)
theorem info27 : (Tryz.prog.info? 27).map (fun i => (i.zero, i.size, i.bytes)) = some (some .nilFunc, 1, 8) := by kernel_rfl
theorem td27_ok : TD.Ok Tryz.prog 27 td27 := TD.Ok.of ⟨_, _, _, Tryz.underlying27⟩ info27 rfl rfl (by decide) (fun _ => rfl)
theorem info28 : (Tryz.prog.info? 28).map (fun i => (i.zero, i.size, i.bytes)) = some (some .nilFunc, 1, 8) := by kernel_rfl
theorem td28_ok : TD.Ok Tryz.prog 28 td28 := TD.Ok.of ⟨_, _, _, Tryz.underlying28⟩ info28 rfl rfl (by decide) (fun _ => rfl)
theorem info29 : (Tryz.prog.info? 29).map (fun i => (i.zero, i.size, i.bytes)) = some (some (.slice none 0 0), 1, 24) := by kernel_rfl
theorem td29_ok : TD.Ok Tryz.prog 29 td29 := TD.Ok.of Tryz.underlying29 info29 rfl rfl (by decide) (fun _ => rfl)
theorem info30 : (Tryz.prog.info? 30).map (fun i => (i.zero, i.size, i.bytes)) = some (some (.agg #[(.slice none 0 0)]), 1, 24) := by kernel_rfl
theorem td30_ok : TD.Ok Tryz.prog 30 td30 := TD.Ok.of ⟨_, Tryz.underlying30, rfl, Tryz.stoodInHeld30, Tryz.eqGuardType30, by decide⟩ info30 rfl rfl (by decide) (fun h => by cases h)
theorem info31 : (Tryz.prog.info? 31).map (fun i => (i.zero, i.size, i.bytes)) = some (some (.agg #[(.slice none 0 0)]), 1, 24) := by kernel_rfl
theorem td31_ok : TD.Ok Tryz.prog 31 td31 := TD.Ok.of ⟨_, Tryz.underlying31, rfl, Tryz.stoodInHeld31, Tryz.eqGuardType31, by decide⟩ info31 rfl rfl (by decide) (fun h => by cases h)
theorem info33 : (Tryz.prog.info? 33).map (fun i => (i.zero, i.size, i.bytes)) = some (some .nilFunc, 1, 8) := by kernel_rfl
theorem td33_ok : TD.Ok Tryz.prog 33 td33 := TD.Ok.of ⟨_, _, _, Tryz.underlying33⟩ info33 rfl rfl (by decide) (fun _ => rfl)
theorem info34 : (Tryz.prog.info? 34).map (fun i => (i.zero, i.size, i.bytes)) = some (some (.slice none 0 0), 1, 24) := by kernel_rfl
theorem td34_ok : TD.Ok Tryz.prog 34 td34 := TD.Ok.of Tryz.underlying34 info34 rfl rfl (by decide) (fun _ => rfl)
theorem info35 : (Tryz.prog.info? 35).map (fun i => (i.zero, i.size, i.bytes)) = some (some (.slice none 0 0), 1, 24) := by kernel_rfl
theorem td35_ok : TD.Ok Tryz.prog 35 td35 := TD.Ok.of Tryz.underlying35 info35 rfl rfl (by decide) (fun _ => rfl)
theorem info36 : (Tryz.prog.info? 36).map (fun i => (i.zero, i.size, i.bytes)) = some (some (.agg #[(.int .i64 0), (.int .i64 0), (.slice none 0 0), (.slice none 0 0)]), 4, 64) := by kernel_rfl
theorem td36_ok : TD.Ok Tryz.prog 36 td36 := TD.Ok.of ⟨_, Tryz.underlying36, rfl, Tryz.stoodInHeld36, Tryz.eqGuardType36, by decide⟩ info36 rfl rfl (by decide) (fun h => by cases h)
theorem info37 : (Tryz.prog.info? 37).map (fun i => (i.zero, i.size, i.bytes)) = some (some (.agg #[(.int .i64 0), (.int .i64 0), (.slice none 0 0), (.slice none 0 0)]), 4, 64) := by kernel_rfl
theorem td37_ok : TD.Ok Tryz.prog 37 td37 := TD.Ok.of ⟨_, Tryz.underlying37, rfl, Tryz.stoodInHeld37, Tryz.eqGuardType37, by decide⟩ info37 rfl rfl (by decide) (fun h => by cases h)
theorem info38 : (Tryz.prog.info? 38).map (fun i => (i.zero, i.size, i.bytes)) = some (some .nilFunc, 1, 8) := by kernel_rfl
theorem td38_ok : TD.Ok Tryz.prog 38 td38 := TD.Ok.of ⟨_, _, _, Tryz.underlying38⟩ info38 rfl rfl (by decide) (fun _ => rfl)
theorem info39 : (Tryz.prog.info? 39).map (fun i => (i.zero, i.size, i.bytes)) = some (some (.slice none 0 0), 1, 24) := by kernel_rfl
theorem td39_ok : TD.Ok Tryz.prog 39 td39 := TD.Ok.of Tryz.underlying39 info39 rfl rfl (by decide) (fun _ => rfl)
theorem info40 : (Tryz.prog.info? 40).map (fun i => (i.zero, i.size, i.bytes)) = some (some .nilFunc, 1, 8) := by kernel_rfl
theorem td40_ok : TD.Ok Tryz.prog 40 td40 := TD.Ok.of ⟨_, _, _, Tryz.underlying40⟩ info40 rfl rfl (by decide) (fun _ => rfl)
theorem info41 : (Tryz.prog.info? 41).map (fun i => (i.zero, i.size, i.bytes)) = some (some .nilFunc, 1, 8) := by kernel_rfl
theorem td41_ok : TD.Ok Tryz.prog 41 td41 := TD.Ok.of ⟨_, _, _, Tryz.underlying41⟩ info41 rfl rfl (by decide) (fun _ => rfl)
theorem info42 : (Tryz.prog.info? 42).map (fun i => (i.zero, i.size, i.bytes)) = some (some .nilFunc, 1, 8) := by kernel_rfl
theorem td42_ok : TD.Ok Tryz.prog 42 td42 := TD.Ok.of ⟨_, _, _, Tryz.underlying42⟩ info42 rfl rfl (by decide) (fun _ => rfl)
theorem info43 : (Tryz.prog.info? 43).map (fun i => (i.zero, i.size, i.bytes)) = some (some .nilFunc, 1, 8) := by kernel_rfl
theorem td43_ok : TD.Ok Tryz.prog 43 td43 := TD.Ok.of ⟨_, _, _, Tryz.underlying43⟩ info43 rfl rfl (by decide) (fun _ => rfl)
theorem info44 : (Tryz.prog.info? 44).map (fun i => (i.zero, i.size, i.bytes)) = some (some .nilFunc, 1, 8) := by kernel_rfl
theorem td44_ok : TD.Ok Tryz.prog 44 td44 := TD.Ok.of ⟨_, _, _, Tryz.underlying44⟩ info44 rfl rfl (by decide) (fun _ => rfl)
theorem info45 : (Tryz.prog.info? 45).map (fun i => (i.zero, i.size, i.bytes)) = some (some .nilFunc, 1, 8) := by kernel_rfl
theorem td45_ok : TD.Ok Tryz.prog 45 td45 := TD.Ok.of ⟨_, _, _, Tryz.underlying45⟩ info45 rfl rfl (by decide) (fun _ => rfl)
theorem info46 : (Tryz.prog.info? 46).map (fun i => (i.zero, i.size, i.bytes)) = some (some .nilFunc, 1, 8) := by kernel_rfl
theorem td46_ok : TD.Ok Tryz.prog 46 td46 := TD.Ok.of ⟨_, _, _, Tryz.underlying46⟩ info46 rfl rfl (by decide) (fun _ => rfl)
theorem info47 : (Tryz.prog.info? 47).map (fun i => (i.zero, i.size, i.bytes)) = some (some .nilFunc, 1, 8) := by kernel_rfl
theorem td47_ok : TD.Ok Tryz.prog 47 td47 := TD.Ok.of ⟨_, _, _, Tryz.underlying47⟩ info47 rfl rfl (by decide) (fun _ => rfl)
theorem info48 : (Tryz.prog.info? 48).map (fun i => (i.zero, i.size, i.bytes)) = some (some (.agg #[(.slice none 0 0)]), 1, 24) := by kernel_rfl
theorem td48_ok : TD.Ok Tryz.prog 48 td48 := TD.Ok.of ⟨_, Tryz.underlying48, rfl, Tryz.stoodInHeld48, Tryz.eqGuardType48, by decide⟩ info48 rfl rfl (by decide) (fun h => by cases h)
theorem info49 : (Tryz.prog.info? 49).map (fun i => (i.zero, i.size, i.bytes)) = some (some .nilFunc, 1, 8) := by kernel_rfl
theorem td49_ok : TD.Ok Tryz.prog 49 td49 := TD.Ok.of ⟨_, _, _, Tryz.underlying49⟩ info49 rfl rfl (by decide) (fun _ => rfl)
theorem info50 : (Tryz.prog.info? 50).map (fun i => (i.zero, i.size, i.bytes)) = some (some .nilFunc, 1, 8) := by kernel_rfl
theorem td50_ok : TD.Ok Tryz.prog 50 td50 := TD.Ok.of ⟨_, _, _, Tryz.underlying50⟩ info50 rfl rfl (by decide) (fun _ => rfl)
theorem info51 : (Tryz.prog.info? 51).map (fun i => (i.zero, i.size, i.bytes)) = some (some .nilFunc, 1, 8) := by kernel_rfl
theorem td51_ok : TD.Ok Tryz.prog 51 td51 := TD.Ok.of ⟨_, _, _, Tryz.underlying51⟩ info51 rfl rfl (by decide) (fun _ => rfl)
theorem info52 : (Tryz.prog.info? 52).map (fun i => (i.zero, i.size, i.bytes)) = some (some .nilFunc, 1, 8) := by kernel_rfl
theorem td52_ok : TD.Ok Tryz.prog 52 td52 := TD.Ok.of ⟨_, _, _, Tryz.underlying52⟩ info52 rfl rfl (by decide) (fun _ => rfl)
theorem info53 : (Tryz.prog.info? 53).map (fun i => (i.zero, i.size, i.bytes)) = some (some .nilFunc, 1, 8) := by kernel_rfl
theorem td53_ok : TD.Ok Tryz.prog 53 td53 := TD.Ok.of ⟨_, _, _, Tryz.underlying53⟩ info53 rfl rfl (by decide) (fun _ => rfl)
theorem info54 : (Tryz.prog.info? 54).map (fun i => (i.zero, i.size, i.bytes)) = some (some .nilFunc, 1, 8) := by kernel_rfl
theorem td54_ok : TD.Ok Tryz.prog 54 td54 := TD.Ok.of ⟨_, _, _, Tryz.underlying54⟩ info54 rfl rfl (by decide) (fun _ => rfl)
theorem info55 : (Tryz.prog.info? 55).map (fun i => (i.zero, i.size, i.bytes)) = some (some .nilFunc, 1, 8) := by kernel_rfl
theorem td55_ok : TD.Ok Tryz.prog 55 td55 := TD.Ok.of ⟨_, _, _, Tryz.underlying55⟩ info55 rfl rfl (by decide) (fun _ => rfl)
theorem info56 : (Tryz.prog.info? 56).map (fun i => (i.zero, i.size, i.bytes)) = some (some .nilFunc, 1, 8) := by kernel_rfl
theorem td56_ok : TD.Ok Tryz.prog 56 td56 := TD.Ok.of ⟨_, _, _, Tryz.underlying56⟩ info56 rfl rfl (by decide) (fun _ => rfl)
theorem info57 : (Tryz.prog.info? 57).map (fun i => (i.zero, i.size, i.bytes)) = some (some .nilFunc, 1, 8) := by kernel_rfl
theorem td57_ok : TD.Ok Tryz.prog 57 td57 := TD.Ok.of ⟨_, _, _, Tryz.underlying57⟩ info57 rfl rfl (by decide) (fun _ => rfl)
theorem info58 : (Tryz.prog.info? 58).map (fun i => (i.zero, i.size, i.bytes)) = some (some .nilFunc, 1, 8) := by kernel_rfl
theorem td58_ok : TD.Ok Tryz.prog 58 td58 := TD.Ok.of ⟨_, _, _, Tryz.underlying58⟩ info58 rfl rfl (by decide) (fun _ => rfl)
theorem info59 : (Tryz.prog.info? 59).map (fun i => (i.zero, i.size, i.bytes)) = some (some .nilFunc, 1, 8) := by kernel_rfl
theorem td59_ok : TD.Ok Tryz.prog 59 td59 := TD.Ok.of ⟨_, _, _, Tryz.underlying59⟩ info59 rfl rfl (by decide) (fun _ => rfl)
theorem info60 : (Tryz.prog.info? 60).map (fun i => (i.zero, i.size, i.bytes)) = some (some .nilFunc, 1, 8) := by kernel_rfl
theorem td60_ok : TD.Ok Tryz.prog 60 td60 := TD.Ok.of ⟨_, _, _, Tryz.underlying60⟩ info60 rfl rfl (by decide) (fun _ => rfl)
theorem info61 : (Tryz.prog.info? 61).map (fun i => (i.zero, i.size, i.bytes)) = some (some .nilFunc, 1, 8) := by kernel_rfl
theorem td61_ok : TD.Ok Tryz.prog 61 td61 := TD.Ok.of ⟨_, _, _, Tryz.underlying61⟩ info61 rfl rfl (by decide) (fun _ => rfl)
theorem info62 : (Tryz.prog.info? 62).map (fun i => (i.zero, i.size, i.bytes)) = some (some .nilFunc, 1, 8) := by kernel_rfl
theorem td62_ok : TD.Ok Tryz.prog 62 td62 := TD.Ok.of ⟨_, _, _, Tryz.underlying62⟩ info62 rfl rfl (by decide) (fun _ => rfl)
theorem info63 : (Tryz.prog.info? 63).map (fun i => (i.zero, i.size, i.bytes)) = some (some (.slice none 0 0), 1, 24) := by kernel_rfl
theorem td63_ok : TD.Ok Tryz.prog 63 td63 := TD.Ok.of Tryz.underlying63 info63 rfl rfl (by decide) (fun _ => rfl)
theorem info64 : (Tryz.prog.info? 64).map (fun i => (i.zero, i.size, i.bytes)) = some (some .nilFunc, 1, 8) := by kernel_rfl
theorem td64_ok : TD.Ok Tryz.prog 64 td64 := TD.Ok.of ⟨_, _, _, Tryz.underlying64⟩ info64 rfl rfl (by decide) (fun _ => rfl)
theorem info65 : (Tryz.prog.info? 65).map (fun i => (i.zero, i.size, i.bytes)) = some (some (.slice none 0 0), 1, 24) := by kernel_rfl
theorem td65_ok : TD.Ok Tryz.prog 65 td65 := TD.Ok.of Tryz.underlying65 info65 rfl rfl (by decide) (fun _ => rfl)
theorem info66 : (Tryz.prog.info? 66).map (fun i => (i.zero, i.size, i.bytes)) = some (some .nilFunc, 1, 8) := by kernel_rfl
theorem td66_ok : TD.Ok Tryz.prog 66 td66 := TD.Ok.of ⟨_, _, _, Tryz.underlying66⟩ info66 rfl rfl (by decide) (fun _ => rfl)
theorem info67 : (Tryz.prog.info? 67).map (fun i => (i.zero, i.size, i.bytes)) = some (some (.agg #[(.int .i64 0), (.int .i64 0)]), 2, 16) := by kernel_rfl
theorem td67_ok : TD.Ok Tryz.prog 67 td67 := TD.Ok.of Tryz.underlying67 info67 rfl rfl (by decide) (fun h => by cases h)
theorem info68 : (Tryz.prog.info? 68).map (fun i => (i.zero, i.size, i.bytes)) = some (some (.int .u64 0), 1, 8) := by kernel_rfl
theorem td68_ok : TD.Ok Tryz.prog 68 td68 := TD.Ok.of Tryz.underlying68 info68 rfl rfl (by decide) (fun _ => rfl)
theorem info69 : (Tryz.prog.info? 69).map (fun i => (i.zero, i.size, i.bytes)) = some (some .nilFunc, 1, 8) := by kernel_rfl
theorem td69_ok : TD.Ok Tryz.prog 69 td69 := TD.Ok.of ⟨_, _, _, Tryz.underlying69⟩ info69 rfl rfl (by decide) (fun _ => rfl)
theorem info70 : (Tryz.prog.info? 70).map (fun i => (i.zero, i.size, i.bytes)) = some (some .nilFunc, 1, 8) := by kernel_rfl
theorem td70_ok : TD.Ok Tryz.prog 70 td70 := TD.Ok.of ⟨_, _, _, Tryz.underlying70⟩ info70 rfl rfl (by decide) (fun _ => rfl)
theorem info71 : (Tryz.prog.info? 71).map (fun i => (i.zero, i.size, i.bytes)) = some (some .nilFunc, 1, 8) := by kernel_rfl
theorem td71_ok : TD.Ok Tryz.prog 71 td71 := TD.Ok.of ⟨_, _, _, Tryz.underlying71⟩ info71 rfl rfl (by decide) (fun _ => rfl)
theorem info72 : (Tryz.prog.info? 72).map (fun i => (i.zero, i.size, i.bytes)) = some (some .nilFunc, 1, 8) := by kernel_rfl
theorem td72_ok : TD.Ok Tryz.prog 72 td72 := TD.Ok.of ⟨_, _, _, Tryz.underlying72⟩ info72 rfl rfl (by decide) (fun _ => rfl)
theorem info73 : (Tryz.prog.info? 73).map (fun i => (i.zero, i.size, i.bytes)) = some (some .nilFunc, 1, 8) := by kernel_rfl
theorem td73_ok : TD.Ok Tryz.prog 73 td73 := TD.Ok.of ⟨_, _, _, Tryz.underlying73⟩ info73 rfl rfl (by decide) (fun _ => rfl)
theorem info74 : (Tryz.prog.info? 74).map (fun i => (i.zero, i.size, i.bytes)) = some (some .nilFunc, 1, 8) := by kernel_rfl
theorem td74_ok : TD.Ok Tryz.prog 74 td74 := TD.Ok.of ⟨_, _, _, Tryz.underlying74⟩ info74 rfl rfl (by decide) (fun _ => rfl)
theorem info75 : (Tryz.prog.info? 75).map (fun i => (i.zero, i.size, i.bytes)) = some (some .nilFunc, 1, 8) := by kernel_rfl
theorem td75_ok : TD.Ok Tryz.prog 75 td75 := TD.Ok.of ⟨_, _, _, Tryz.underlying75⟩ info75 rfl rfl (by decide) (fun _ => rfl)
theorem info76 : (Tryz.prog.info? 76).map (fun i => (i.zero, i.size, i.bytes)) = some (some .nilFunc, 1, 8) := by kernel_rfl
theorem td76_ok : TD.Ok Tryz.prog 76 td76 := TD.Ok.of ⟨_, _, _, Tryz.underlying76⟩ info76 rfl rfl (by decide) (fun _ => rfl)
theorem info77 : (Tryz.prog.info? 77).map (fun i => (i.zero, i.size, i.bytes)) = some (some .nilFunc, 1, 8) := by kernel_rfl
theorem td77_ok : TD.Ok Tryz.prog 77 td77 := TD.Ok.of ⟨_, _, _, Tryz.underlying77⟩ info77 rfl rfl (by decide) (fun _ => rfl)
theorem info78 : (Tryz.prog.info? 78).map (fun i => (i.zero, i.size, i.bytes)) = some (some .nilFunc, 1, 8) := by kernel_rfl
theorem td78_ok : TD.Ok Tryz.prog 78 td78 := TD.Ok.of ⟨_, _, _, Tryz.underlying78⟩ info78 rfl rfl (by decide) (fun _ => rfl)
theorem info79 : (Tryz.prog.info? 79).map (fun i => (i.zero, i.size, i.bytes)) = some (some (.agg #[(.int .i64 0), (.int .u64 0)]), 2, 16) := by kernel_rfl
theorem td79_ok : TD.Ok Tryz.prog 79 td79 := TD.Ok.of ⟨_, Tryz.underlying79, rfl, Tryz.stoodInHeld79, Tryz.eqGuardType79, by decide⟩ info79 rfl rfl (by decide) (fun h => by cases h)
theorem info80 : (Tryz.prog.info? 80).map (fun i => (i.zero, i.size, i.bytes)) = some (some (.agg #[(.int .i64 0), (.int .u64 0)]), 2, 16) := by kernel_rfl
theorem td80_ok : TD.Ok Tryz.prog 80 td80 := TD.Ok.of ⟨_, Tryz.underlying80, rfl, Tryz.stoodInHeld80, Tryz.eqGuardType80, by decide⟩ info80 rfl rfl (by decide) (fun h => by cases h)
theorem info81 : (Tryz.prog.info? 81).map (fun i => (i.zero, i.size, i.bytes)) = some (some .nilFunc, 1, 8) := by kernel_rfl
theorem td81_ok : TD.Ok Tryz.prog 81 td81 := TD.Ok.of ⟨_, _, _, Tryz.underlying81⟩ info81 rfl rfl (by decide) (fun _ => rfl)
theorem info82 : (Tryz.prog.info? 82).map (fun i => (i.zero, i.size, i.bytes)) = some (some (.agg #[(.int .i64 0), (.int .u64 0)]), 2, 16) := by kernel_rfl
theorem td82_ok : TD.Ok Tryz.prog 82 td82 := TD.Ok.of ⟨_, Tryz.underlying82, rfl, Tryz.stoodInHeld82, Tryz.eqGuardType82, by decide⟩ info82 rfl rfl (by decide) (fun h => by cases h)
theorem info83 : (Tryz.prog.info? 83).map (fun i => (i.zero, i.size, i.bytes)) = some (some .nilFunc, 1, 8) := by kernel_rfl
theorem td83_ok : TD.Ok Tryz.prog 83 td83 := TD.Ok.of ⟨_, _, _, Tryz.underlying83⟩ info83 rfl rfl (by decide) (fun _ => rfl)
theorem info84 : (Tryz.prog.info? 84).map (fun i => (i.zero, i.size, i.bytes)) = some (some .nilFunc, 1, 8) := by kernel_rfl
theorem td84_ok : TD.Ok Tryz.prog 84 td84 := TD.Ok.of ⟨_, _, _, Tryz.underlying84⟩ info84 rfl rfl (by decide) (fun _ => rfl)
theorem info85 : (Tryz.prog.info? 85).map (fun i => (i.zero, i.size, i.bytes)) = some (some .nilFunc, 1, 8) := by kernel_rfl
theorem td85_ok : TD.Ok Tryz.prog 85 td85 := TD.Ok.of ⟨_, _, _, Tryz.underlying85⟩ info85 rfl rfl (by decide) (fun _ => rfl)
theorem info86 : (Tryz.prog.info? 86).map (fun i => (i.zero, i.size, i.bytes)) = some (some (.slice none 0 0), 1, 24) := by kernel_rfl
theorem td86_ok : TD.Ok Tryz.prog 86 td86 := TD.Ok.of Tryz.underlying86 info86 rfl rfl (by decide) (fun _ => rfl)
theorem info87 : (Tryz.prog.info? 87).map (fun i => (i.zero, i.size, i.bytes)) = some (some (.agg #[(.slice none 0 0), (.slice none 0 0)]), 2, 48) := by kernel_rfl
theorem td87_ok : TD.Ok Tryz.prog 87 td87 := TD.Ok.of ⟨_, Tryz.underlying87, rfl, Tryz.stoodInHeld87, Tryz.eqGuardType87, by decide⟩ info87 rfl rfl (by decide) (fun h => by cases h)
theorem info88 : (Tryz.prog.info? 88).map (fun i => (i.zero, i.size, i.bytes)) = some (some (.agg #[(.slice none 0 0), (.slice none 0 0)]), 2, 48) := by kernel_rfl
theorem td88_ok : TD.Ok Tryz.prog 88 td88 := TD.Ok.of ⟨_, Tryz.underlying88, rfl, Tryz.stoodInHeld88, Tryz.eqGuardType88, by decide⟩ info88 rfl rfl (by decide) (fun h => by cases h)
theorem info89 : (Tryz.prog.info? 89).map (fun i => (i.zero, i.size, i.bytes)) = some (some .nilFunc, 1, 8) := by kernel_rfl
theorem td89_ok : TD.Ok Tryz.prog 89 td89 := TD.Ok.of ⟨_, _, _, Tryz.underlying89⟩ info89 rfl rfl (by decide) (fun _ => rfl)
theorem info90 : (Tryz.prog.info? 90).map (fun i => (i.zero, i.size, i.bytes)) = some (some (.slice none 0 0), 1, 24) := by kernel_rfl
theorem td90_ok : TD.Ok Tryz.prog 90 td90 := TD.Ok.of Tryz.underlying90 info90 rfl rfl (by decide) (fun _ => rfl)
theorem info91 : (Tryz.prog.info? 91).map (fun i => (i.zero, i.size, i.bytes)) = some (some (.agg #[(.slice none 0 0), (.slice none 0 0)]), 2, 48) := by kernel_rfl
theorem td91_ok : TD.Ok Tryz.prog 91 td91 := TD.Ok.of ⟨_, Tryz.underlying91, rfl, Tryz.stoodInHeld91, Tryz.eqGuardType91, by decide⟩ info91 rfl rfl (by decide) (fun h => by cases h)
theorem info92 : (Tryz.prog.info? 92).map (fun i => (i.zero, i.size, i.bytes)) = some (some (.agg #[(.slice none 0 0), (.slice none 0 0)]), 2, 48) := by kernel_rfl
theorem td92_ok : TD.Ok Tryz.prog 92 td92 := TD.Ok.of ⟨_, Tryz.underlying92, rfl, Tryz.stoodInHeld92, Tryz.eqGuardType92, by decide⟩ info92 rfl rfl (by decide) (fun h => by cases h)
theorem info93 : (Tryz.prog.info? 93).map (fun i => (i.zero, i.size, i.bytes)) = some (some .nilFunc, 1, 8) := by kernel_rfl
theorem td93_ok : TD.Ok Tryz.prog 93 td93 := TD.Ok.of ⟨_, _, _, Tryz.underlying93⟩ info93 rfl rfl (by decide) (fun _ => rfl)
theorem info94 : (Tryz.prog.info? 94).map (fun i => (i.zero, i.size, i.bytes)) = some (some .nilFunc, 1, 8) := by kernel_rfl
theorem td94_ok : TD.Ok Tryz.prog 94 td94 := TD.Ok.of ⟨_, _, _, Tryz.underlying94⟩ info94 rfl rfl (by decide) (fun _ => rfl)
theorem info95 : (Tryz.prog.info? 95).map (fun i => (i.zero, i.size, i.bytes)) = some (some .nilFunc, 1, 8) := by kernel_rfl
theorem td95_ok : TD.Ok Tryz.prog 95 td95 := TD.Ok.of ⟨_, _, _, Tryz.underlying95⟩ info95 rfl rfl (by decide) (fun _ => rfl)
theorem info96 : (Tryz.prog.info? 96).map (fun i => (i.zero, i.size, i.bytes)) = some (some .nilFunc, 1, 8) := by kernel_rfl
theorem td96_ok : TD.Ok Tryz.prog 96 td96 := TD.Ok.of ⟨_, _, _, Tryz.underlying96⟩ info96 rfl rfl (by decide) (fun _ => rfl)
theorem info97 : (Tryz.prog.info? 97).map (fun i => (i.zero, i.size, i.bytes)) = some (some .nilFunc, 1, 8) := by kernel_rfl
theorem td97_ok : TD.Ok Tryz.prog 97 td97 := TD.Ok.of ⟨_, _, _, Tryz.underlying97⟩ info97 rfl rfl (by decide) (fun _ => rfl)
theorem info100 : (Tryz.prog.info? 100).map (fun i => (i.zero, i.size, i.bytes)) = some (some .nilFunc, 1, 8) := by kernel_rfl
theorem td100_ok : TD.Ok Tryz.prog 100 td100 := TD.Ok.of ⟨_, _, _, Tryz.underlying100⟩ info100 rfl rfl (by decide) (fun _ => rfl)
theorem info101 : (Tryz.prog.info? 101).map (fun i => (i.zero, i.size, i.bytes)) = some (some .nilFunc, 1, 8) := by kernel_rfl
theorem td101_ok : TD.Ok Tryz.prog 101 td101 := TD.Ok.of ⟨_, _, _, Tryz.underlying101⟩ info101 rfl rfl (by decide) (fun _ => rfl)
theorem info102 : (Tryz.prog.info? 102).map (fun i => (i.zero, i.size, i.bytes)) = some (some .nilFunc, 1, 8) := by kernel_rfl
theorem td102_ok : TD.Ok Tryz.prog 102 td102 := TD.Ok.of ⟨_, _, _, Tryz.underlying102⟩ info102 rfl rfl (by decide) (fun _ => rfl)
theorem info103 : (Tryz.prog.info? 103).map (fun i => (i.zero, i.size, i.bytes)) = some (some .nilFunc, 1, 8) := by kernel_rfl
theorem td103_ok : TD.Ok Tryz.prog 103 td103 := TD.Ok.of ⟨_, _, _, Tryz.underlying103⟩ info103 rfl rfl (by decide) (fun _ => rfl)
theorem info104 : (Tryz.prog.info? 104).map (fun i => (i.zero, i.size, i.bytes)) = some (some .nilFunc, 1, 8) := by kernel_rfl
theorem td104_ok : TD.Ok Tryz.prog 104 td104 := TD.Ok.of ⟨_, _, _, Tryz.underlying104⟩ info104 rfl rfl (by decide) (fun _ => rfl)
theorem info105 : (Tryz.prog.info? 105).map (fun i => (i.zero, i.size, i.bytes)) = some (some .nilFunc, 1, 8) := by kernel_rfl
theorem td105_ok : TD.Ok Tryz.prog 105 td105 := TD.Ok.of ⟨_, _, _, Tryz.underlying105⟩ info105 rfl rfl (by decide) (fun _ => rfl)
theorem info106 : (Tryz.prog.info? 106).map (fun i => (i.zero, i.size, i.bytes)) = some (some .nilFunc, 1, 8) := by kernel_rfl
theorem td106_ok : TD.Ok Tryz.prog 106 td106 := TD.Ok.of ⟨_, _, _, Tryz.underlying106⟩ info106 rfl rfl (by decide) (fun _ => rfl)
theorem info107 : (Tryz.prog.info? 107).map (fun i => (i.zero, i.size, i.bytes)) = some (some .nilFunc, 1, 8) := by kernel_rfl
theorem td107_ok : TD.Ok Tryz.prog 107 td107 := TD.Ok.of ⟨_, _, _, Tryz.underlying107⟩ info107 rfl rfl (by decide) (fun _ => rfl)
theorem info108 : (Tryz.prog.info? 108).map (fun i => (i.zero, i.size, i.bytes)) = some (some .nilFunc, 1, 8) := by kernel_rfl
theorem td108_ok : TD.Ok Tryz.prog 108 td108 := TD.Ok.of ⟨_, _, _, Tryz.underlying108⟩ info108 rfl rfl (by decide) (fun _ => rfl)
theorem info109 : (Tryz.prog.info? 109).map (fun i => (i.zero, i.size, i.bytes)) = some (some (.int .u64 0), 1, 8) := by kernel_rfl
theorem td109_ok : TD.Ok Tryz.prog 109 td109 := TD.Ok.of Tryz.underlying109 info109 rfl rfl (by decide) (fun _ => rfl)
theorem info110 : (Tryz.prog.info? 110).map (fun i => (i.zero, i.size, i.bytes)) = some (some .nilFunc, 1, 8) := by kernel_rfl
theorem td110_ok : TD.Ok Tryz.prog 110 td110 := TD.Ok.of ⟨_, _, _, Tryz.underlying110⟩ info110 rfl rfl (by decide) (fun _ => rfl)
theorem info111 : (Tryz.prog.info? 111).map (fun i => (i.zero, i.size, i.bytes)) = some (some .nilFunc, 1, 8) := by kernel_rfl
theorem td111_ok : TD.Ok Tryz.prog 111 td111 := TD.Ok.of ⟨_, _, _, Tryz.underlying111⟩ info111 rfl rfl (by decide) (fun _ => rfl)
theorem info112 : (Tryz.prog.info? 112).map (fun i => (i.zero, i.size, i.bytes)) = some (some .nilFunc, 1, 8) := by kernel_rfl
theorem td112_ok : TD.Ok Tryz.prog 112 td112 := TD.Ok.of ⟨_, _, _, Tryz.underlying112⟩ info112 rfl rfl (by decide) (fun _ => rfl)
theorem info113 : (Tryz.prog.info? 113).map (fun i => (i.zero, i.size, i.bytes)) = some (some .nilFunc, 1, 8) := by kernel_rfl
theorem td113_ok : TD.Ok Tryz.prog 113 td113 := TD.Ok.of ⟨_, _, _, Tryz.underlying113⟩ info113 rfl rfl (by decide) (fun _ => rfl)
theorem info114 : (Tryz.prog.info? 114).map (fun i => (i.zero, i.size, i.bytes)) = some (some .nilFunc, 1, 8) := by kernel_rfl
theorem td114_ok : TD.Ok Tryz.prog 114 td114 := TD.Ok.of ⟨_, _, _, Tryz.underlying114⟩ info114 rfl rfl (by decide) (fun _ => rfl)
theorem info115 : (Tryz.prog.info? 115).map (fun i => (i.zero, i.size, i.bytes)) = some (some .nilFunc, 1, 8) := by kernel_rfl
theorem td115_ok : TD.Ok Tryz.prog 115 td115 := TD.Ok.of ⟨_, _, _, Tryz.underlying115⟩ info115 rfl rfl (by decide) (fun _ => rfl)
theorem info117 : (Tryz.prog.info? 117).map (fun i => (i.zero, i.size, i.bytes)) = some (some .nilFunc, 1, 8) := by kernel_rfl
theorem td117_ok : TD.Ok Tryz.prog 117 td117 := TD.Ok.of ⟨_, _, _, Tryz.underlying117⟩ info117 rfl rfl (by decide) (fun _ => rfl)
theorem info118 : (Tryz.prog.info? 118).map (fun i => (i.zero, i.size, i.bytes)) = some (some .nilFunc, 1, 8) := by kernel_rfl
theorem td118_ok : TD.Ok Tryz.prog 118 td118 := TD.Ok.of ⟨_, _, _, Tryz.underlying118⟩ info118 rfl rfl (by decide) (fun _ => rfl)
theorem info119 : (Tryz.prog.info? 119).map (fun i => (i.zero, i.size, i.bytes)) = some (some .nilFunc, 1, 8) := by kernel_rfl
theorem td119_ok : TD.Ok Tryz.prog 119 td119 := TD.Ok.of ⟨_, _, _, Tryz.underlying119⟩ info119 rfl rfl (by decide) (fun _ => rfl)
theorem info120 : (Tryz.prog.info? 120).map (fun i => (i.zero, i.size, i.bytes)) = some (some .nilFunc, 1, 8) := by kernel_rfl
theorem td120_ok : TD.Ok Tryz.prog 120 td120 := TD.Ok.of ⟨_, _, _, Tryz.underlying120⟩ info120 rfl rfl (by decide) (fun _ => rfl)
theorem info121 : (Tryz.prog.info? 121).map (fun i => (i.zero, i.size, i.bytes)) = some (some .nilFunc, 1, 8) := by kernel_rfl
theorem td121_ok : TD.Ok Tryz.prog 121 td121 := TD.Ok.of ⟨_, _, _, Tryz.underlying121⟩ info121 rfl rfl (by decide) (fun _ => rfl)
theorem info122 : (Tryz.prog.info? 122).map (fun i => (i.zero, i.size, i.bytes)) = some (some (.agg #[(.int .i64 0), (.slice none 0 0)]), 2, 32) := by kernel_rfl
theorem td122_ok : TD.Ok Tryz.prog 122 td122 := TD.Ok.of ⟨_, Tryz.underlying122, rfl, Tryz.stoodInHeld122, Tryz.eqGuardType122, by decide⟩ info122 rfl rfl (by decide) (fun h => by cases h)
theorem info123 : (Tryz.prog.info? 123).map (fun i => (i.zero, i.size, i.bytes)) = some (some (.agg #[(.int .i64 0), (.slice none 0 0)]), 2, 32) := by kernel_rfl
theorem td123_ok : TD.Ok Tryz.prog 123 td123 := TD.Ok.of ⟨_, Tryz.underlying123, rfl, Tryz.stoodInHeld123, Tryz.eqGuardType123, by decide⟩ info123 rfl rfl (by decide) (fun h => by cases h)
theorem info125 : (Tryz.prog.info? 125).map (fun i => (i.zero, i.size, i.bytes)) = some (some .nilFunc, 1, 8) := by kernel_rfl
theorem td125_ok : TD.Ok Tryz.prog 125 td125 := TD.Ok.of ⟨_, _, _, Tryz.underlying125⟩ info125 rfl rfl (by decide) (fun _ => rfl)
theorem info126 : (Tryz.prog.info? 126).map (fun i => (i.zero, i.size, i.bytes)) = some (some .nilFunc, 1, 8) := by kernel_rfl
theorem td126_ok : TD.Ok Tryz.prog 126 td126 := TD.Ok.of ⟨_, _, _, Tryz.underlying126⟩ info126 rfl rfl (by decide) (fun _ => rfl)
theorem info127 : (Tryz.prog.info? 127).map (fun i => (i.zero, i.size, i.bytes)) = some (some .nilFunc, 1, 8) := by kernel_rfl
theorem td127_ok : TD.Ok Tryz.prog 127 td127 := TD.Ok.of ⟨_, _, _, Tryz.underlying127⟩ info127 rfl rfl (by decide) (fun _ => rfl)
theorem info128 : (Tryz.prog.info? 128).map (fun i => (i.zero, i.size, i.bytes)) = some (some .nilFunc, 1, 8) := by kernel_rfl
theorem td128_ok : TD.Ok Tryz.prog 128 td128 := TD.Ok.of ⟨_, _, _, Tryz.underlying128⟩ info128 rfl rfl (by decide) (fun _ => rfl)
theorem info129 : (Tryz.prog.info? 129).map (fun i => (i.zero, i.size, i.bytes)) = some (some .nilFunc, 1, 8) := by kernel_rfl
theorem td129_ok : TD.Ok Tryz.prog 129 td129 := TD.Ok.of ⟨_, _, _, Tryz.underlying129⟩ info129 rfl rfl (by decide) (fun _ => rfl)
theorem info130 : (Tryz.prog.info? 130).map (fun i => (i.zero, i.size, i.bytes)) = some (some .nilFunc, 1, 8) := by kernel_rfl
theorem td130_ok : TD.Ok Tryz.prog 130 td130 := TD.Ok.of ⟨_, _, _, Tryz.underlying130⟩ info130 rfl rfl (by decide) (fun _ => rfl)
theorem info131 : (Tryz.prog.info? 131).map (fun i => (i.zero, i.size, i.bytes)) = some (some .nilFunc, 1, 8) := by kernel_rfl
theorem td131_ok : TD.Ok Tryz.prog 131 td131 := TD.Ok.of ⟨_, _, _, Tryz.underlying131⟩ info131 rfl rfl (by decide) (fun _ => rfl)
theorem info132 : (Tryz.prog.info? 132).map (fun i => (i.zero, i.size, i.bytes)) = some (some (.agg #[(.int .i64 0), (.slice none 0 0)]), 2, 32) := by kernel_rfl
theorem td132_ok : TD.Ok Tryz.prog 132 td132 := TD.Ok.of ⟨_, Tryz.underlying132, rfl, Tryz.stoodInHeld132, Tryz.eqGuardType132, by decide⟩ info132 rfl rfl (by decide) (fun h => by cases h)
theorem info133 : (Tryz.prog.info? 133).map (fun i => (i.zero, i.size, i.bytes)) = some (some (.agg #[(.int .i64 0), (.slice none 0 0)]), 2, 32) := by kernel_rfl
theorem td133_ok : TD.Ok Tryz.prog 133 td133 := TD.Ok.of ⟨_, Tryz.underlying133, rfl, Tryz.stoodInHeld133, Tryz.eqGuardType133, by decide⟩ info133 rfl rfl (by decide) (fun h => by cases h)
theorem info134 : (Tryz.prog.info? 134).map (fun i => (i.zero, i.size, i.bytes)) = some (some .nilFunc, 1, 8) := by kernel_rfl
theorem td134_ok : TD.Ok Tryz.prog 134 td134 := TD.Ok.of ⟨_, _, _, Tryz.underlying134⟩ info134 rfl rfl (by decide) (fun _ => rfl)
theorem info135 : (Tryz.prog.info? 135).map (fun i => (i.zero, i.size, i.bytes)) = some (some .nilFunc, 1, 8) := by kernel_rfl
theorem td135_ok : TD.Ok Tryz.prog 135 td135 := TD.Ok.of ⟨_, _, _, Tryz.underlying135⟩ info135 rfl rfl (by decide) (fun _ => rfl)
theorem info136 : (Tryz.prog.info? 136).map (fun i => (i.zero, i.size, i.bytes)) = some (some .nilFunc, 1, 8) := by kernel_rfl
theorem td136_ok : TD.Ok Tryz.prog 136 td136 := TD.Ok.of ⟨_, _, _, Tryz.underlying136⟩ info136 rfl rfl (by decide) (fun _ => rfl)
theorem info137 : (Tryz.prog.info? 137).map (fun i => (i.zero, i.size, i.bytes)) = some (some .nilFunc, 1, 8) := by kernel_rfl
theorem td137_ok : TD.Ok Tryz.prog 137 td137 := TD.Ok.of ⟨_, _, _, Tryz.underlying137⟩ info137 rfl rfl (by decide) (fun _ => rfl)
theorem info138 : (Tryz.prog.info? 138).map (fun i => (i.zero, i.size, i.bytes)) = some (some .nilFunc, 1, 8) := by kernel_rfl
theorem td138_ok : TD.Ok Tryz.prog 138 td138 := TD.Ok.of ⟨_, _, _, Tryz.underlying138⟩ info138 rfl rfl (by decide) (fun _ => rfl)
theorem info140 : (Tryz.prog.info? 140).map (fun i => (i.zero, i.size, i.bytes)) = some (some .nilFunc, 1, 8) := by kernel_rfl
theorem td140_ok : TD.Ok Tryz.prog 140 td140 := TD.Ok.of ⟨_, _, _, Tryz.underlying140⟩ info140 rfl rfl (by decide) (fun _ => rfl)
theorem info141 : (Tryz.prog.info? 141).map (fun i => (i.zero, i.size, i.bytes)) = some (some .nilFunc, 1, 8) := by kernel_rfl
theorem td141_ok : TD.Ok Tryz.prog 141 td141 := TD.Ok.of ⟨_, _, _, Tryz.underlying141⟩ info141 rfl rfl (by decide) (fun _ => rfl)
theorem info142 : (Tryz.prog.info? 142).map (fun i => (i.zero, i.size, i.bytes)) = some (some .nilFunc, 1, 8) := by kernel_rfl
theorem td142_ok : TD.Ok Tryz.prog 142 td142 := TD.Ok.of ⟨_, _, _, Tryz.underlying142⟩ info142 rfl rfl (by decide) (fun _ => rfl)
theorem info143 : (Tryz.prog.info? 143).map (fun i => (i.zero, i.size, i.bytes)) = some (some .nilFunc, 1, 8) := by kernel_rfl
theorem td143_ok : TD.Ok Tryz.prog 143 td143 := TD.Ok.of ⟨_, _, _, Tryz.underlying143⟩ info143 rfl rfl (by decide) (fun _ => rfl)
theorem info144 : (Tryz.prog.info? 144).map (fun i => (i.zero, i.size, i.bytes)) = some (some .nilFunc, 1, 8) := by kernel_rfl
theorem td144_ok : TD.Ok Tryz.prog 144 td144 := TD.Ok.of ⟨_, _, _, Tryz.underlying144⟩ info144 rfl rfl (by decide) (fun _ => rfl)
theorem info147 : (Tryz.prog.info? 147).map (fun i => (i.zero, i.size, i.bytes)) = some (some .nilFunc, 1, 8) := by kernel_rfl
theorem td147_ok : TD.Ok Tryz.prog 147 td147 := TD.Ok.of ⟨_, _, _, Tryz.underlying147⟩ info147 rfl rfl (by decide) (fun _ => rfl)
theorem info148 : (Tryz.prog.info? 148).map (fun i => (i.zero, i.size, i.bytes)) = some (some .nilFunc, 1, 8) := by kernel_rfl
theorem td148_ok : TD.Ok Tryz.prog 148 td148 := TD.Ok.of ⟨_, _, _, Tryz.underlying148⟩ info148 rfl rfl (by decide) (fun _ => rfl)
theorem info149 : (Tryz.prog.info? 149).map (fun i => (i.zero, i.size, i.bytes)) = some (some .nilFunc, 1, 8) := by kernel_rfl
theorem td149_ok : TD.Ok Tryz.prog 149 td149 := TD.Ok.of ⟨_, _, _, Tryz.underlying149⟩ info149 rfl rfl (by decide) (fun _ => rfl)
theorem info150 : (Tryz.prog.info? 150).map (fun i => (i.zero, i.size, i.bytes)) = some (some (.pointer none), 1, 8) := by kernel_rfl
theorem td150_ok : TD.Ok Tryz.prog 150 td150 := TD.Ok.of Tryz.underlying150 info150 rfl rfl (by decide) (fun _ => rfl)
theorem info151 : (Tryz.prog.info? 151).map (fun i => (i.zero, i.size, i.bytes)) = some (some .nilFunc, 1, 8) := by kernel_rfl
theorem td151_ok : TD.Ok Tryz.prog 151 td151 := TD.Ok.of ⟨_, _, _, Tryz.underlying151⟩ info151 rfl rfl (by decide) (fun _ => rfl)
theorem info157 : (Tryz.prog.info? 157).map (fun i => (i.zero, i.size, i.bytes)) = some (some (.int .u32 0), 1, 4) := by kernel_rfl
theorem td157_ok : TD.Ok Tryz.prog 157 td157 := TD.Ok.of Tryz.underlying157 info157 rfl rfl (by decide) (fun _ => rfl)
theorem info158 : (Tryz.prog.info? 158).map (fun i => (i.zero, i.size, i.bytes)) = some (some (.int .u8 0), 1, 1) := by kernel_rfl
theorem td158_ok : TD.Ok Tryz.prog 158 td158 := TD.Ok.of Tryz.underlying158 info158 rfl rfl (by decide) (fun _ => rfl)
theorem info159 : (Tryz.prog.info? 159).map (fun i => (i.zero, i.size, i.bytes)) = some (some (.int .u8 0), 1, 1) := by kernel_rfl
theorem td159_ok : TD.Ok Tryz.prog 159 td159 := TD.Ok.of Tryz.underlying159 info159 rfl rfl (by decide) (fun _ => rfl)
theorem info160 : (Tryz.prog.info? 160).map (fun i => (i.zero, i.size, i.bytes)) = some (some .nilFunc, 1, 8) := by kernel_rfl
theorem td160_ok : TD.Ok Tryz.prog 160 td160 := TD.Ok.of ⟨_, _, _, Tryz.underlying160⟩ info160 rfl rfl (by decide) (fun _ => rfl)
theorem info161 : (Tryz.prog.info? 161).map (fun i => (i.zero, i.size, i.bytes)) = some (some (.pointer none), 1, 8) := by kernel_rfl
theorem td161_ok : TD.Ok Tryz.prog 161 td161 := TD.Ok.of Tryz.underlying161 info161 rfl rfl (by decide) (fun _ => rfl)
theorem info162 : (Tryz.prog.info? 162).map (fun i => (i.zero, i.size, i.bytes)) = some (some (.int .i32 0), 1, 4) := by kernel_rfl
theorem td162_ok : TD.Ok Tryz.prog 162 td162 := TD.Ok.of Tryz.underlying162 info162 rfl rfl (by decide) (fun _ => rfl)
theorem info163 : (Tryz.prog.info? 163).map (fun i => (i.zero, i.size, i.bytes)) = some (some (.int .i32 0), 1, 4) := by kernel_rfl
theorem td163_ok : TD.Ok Tryz.prog 163 td163 := TD.Ok.of Tryz.underlying163 info163 rfl rfl (by decide) (fun _ => rfl)
theorem info166 : (Tryz.prog.info? 166).map (fun i => (i.zero, i.size, i.bytes)) = some (some (.agg #[(.string ⟨#[]⟩)]), 1, 16) := by kernel_rfl
theorem td166_ok : TD.Ok Tryz.prog 166 td166 := TD.Ok.of ⟨_, Tryz.underlying166, rfl, Tryz.stoodInHeld166, Tryz.eqGuardType166, by decide⟩ info166 rfl rfl (by decide) (fun h => by cases h)
theorem info167 : (Tryz.prog.info? 167).map (fun i => (i.zero, i.size, i.bytes)) = some (some (.agg #[(.string ⟨#[]⟩)]), 1, 16) := by kernel_rfl
theorem td167_ok : TD.Ok Tryz.prog 167 td167 := TD.Ok.of ⟨_, Tryz.underlying167, rfl, Tryz.stoodInHeld167, Tryz.eqGuardType167, by decide⟩ info167 rfl rfl (by decide) (fun h => by cases h)
set_option maxRecDepth 100000 in
theorem tabL_ok : ∀ p ∈ tabL, TD.Ok Tryz.prog p.1 p.2 :=
  (List.forall_mem_cons.2 ⟨td1_ok, (List.forall_mem_cons.2 ⟨td2_ok, (List.forall_mem_cons.2 ⟨td3_ok, (List.forall_mem_cons.2 ⟨td4_ok, (List.forall_mem_cons.2 ⟨td5_ok, (List.forall_mem_cons.2 ⟨td6_ok, (List.forall_mem_cons.2 ⟨td9_ok, (List.forall_mem_cons.2 ⟨td10_ok, (List.forall_mem_cons.2 ⟨td11_ok, (List.forall_mem_cons.2 ⟨td12_ok, (List.forall_mem_cons.2 ⟨td15_ok, (List.forall_mem_cons.2 ⟨td16_ok, (List.forall_mem_cons.2 ⟨td17_ok, (List.forall_mem_cons.2 ⟨td21_ok, (List.forall_mem_cons.2 ⟨td22_ok, (List.forall_mem_cons.2 ⟨td23_ok, (List.forall_mem_cons.2 ⟨td24_ok, (List.forall_mem_cons.2 ⟨td25_ok, (List.forall_mem_cons.2 ⟨td26_ok, (List.forall_mem_cons.2 ⟨td27_ok, (List.forall_mem_cons.2 ⟨td28_ok, (List.forall_mem_cons.2 ⟨td29_ok, (List.forall_mem_cons.2 ⟨td30_ok, (List.forall_mem_cons.2 ⟨td31_ok, (List.forall_mem_cons.2 ⟨td33_ok, (List.forall_mem_cons.2 ⟨td34_ok, (List.forall_mem_cons.2 ⟨td35_ok, (List.forall_mem_cons.2 ⟨td36_ok, (List.forall_mem_cons.2 ⟨td37_ok, (List.forall_mem_cons.2 ⟨td38_ok, (List.forall_mem_cons.2 ⟨td39_ok, (List.forall_mem_cons.2 ⟨td40_ok, (List.forall_mem_cons.2 ⟨td41_ok, (List.forall_mem_cons.2 ⟨td42_ok, (List.forall_mem_cons.2 ⟨td43_ok, (List.forall_mem_cons.2 ⟨td44_ok, (List.forall_mem_cons.2 ⟨td45_ok, (List.forall_mem_cons.2 ⟨td46_ok, (List.forall_mem_cons.2 ⟨td47_ok, (List.forall_mem_cons.2 ⟨td48_ok, (List.forall_mem_cons.2 ⟨td49_ok, (List.forall_mem_cons.2 ⟨td50_ok, (List.forall_mem_cons.2 ⟨td51_ok, (List.forall_mem_cons.2 ⟨td52_ok, (List.forall_mem_cons.2 ⟨td53_ok, (List.forall_mem_cons.2 ⟨td54_ok, (List.forall_mem_cons.2 ⟨td55_ok, (List.forall_mem_cons.2 ⟨td56_ok, (List.forall_mem_cons.2 ⟨td57_ok, (List.forall_mem_cons.2 ⟨td58_ok, (List.forall_mem_cons.2 ⟨td59_ok, (List.forall_mem_cons.2 ⟨td60_ok, (List.forall_mem_cons.2 ⟨td61_ok, (List.forall_mem_cons.2 ⟨td62_ok, (List.forall_mem_cons.2 ⟨td63_ok, (List.forall_mem_cons.2 ⟨td64_ok, (List.forall_mem_cons.2 ⟨td65_ok, (List.forall_mem_cons.2 ⟨td66_ok, (List.forall_mem_cons.2 ⟨td67_ok, (List.forall_mem_cons.2 ⟨td68_ok, (List.forall_mem_cons.2 ⟨td69_ok, (List.forall_mem_cons.2 ⟨td70_ok, (List.forall_mem_cons.2 ⟨td71_ok, (List.forall_mem_cons.2 ⟨td72_ok, (List.forall_mem_cons.2 ⟨td73_ok, (List.forall_mem_cons.2 ⟨td74_ok, (List.forall_mem_cons.2 ⟨td75_ok, (List.forall_mem_cons.2 ⟨td76_ok, (List.forall_mem_cons.2 ⟨td77_ok, (List.forall_mem_cons.2 ⟨td78_ok, (List.forall_mem_cons.2 ⟨td79_ok, (List.forall_mem_cons.2 ⟨td80_ok, (List.forall_mem_cons.2 ⟨td81_ok, (List.forall_mem_cons.2 ⟨td82_ok, (List.forall_mem_cons.2 ⟨td83_ok, (List.forall_mem_cons.2 ⟨td84_ok, (List.forall_mem_cons.2 ⟨td85_ok, (List.forall_mem_cons.2 ⟨td86_ok, (List.forall_mem_cons.2 ⟨td87_ok, (List.forall_mem_cons.2 ⟨td88_ok, (List.forall_mem_cons.2 ⟨td89_ok, (List.forall_mem_cons.2 ⟨td90_ok, (List.forall_mem_cons.2 ⟨td91_ok, (List.forall_mem_cons.2 ⟨td92_ok, (List.forall_mem_cons.2 ⟨td93_ok, (List.forall_mem_cons.2 ⟨td94_ok, (List.forall_mem_cons.2 ⟨td95_ok, (List.forall_mem_cons.2 ⟨td96_ok, (List.forall_mem_cons.2 ⟨td97_ok, (List.forall_mem_cons.2 ⟨td100_ok, (List.forall_mem_cons.2 ⟨td101_ok, (List.forall_mem_cons.2 ⟨td102_ok, (List.forall_mem_cons.2 ⟨td103_ok, (List.forall_mem_cons.2 ⟨td104_ok, (List.forall_mem_cons.2 ⟨td105_ok, (List.forall_mem_cons.2 ⟨td106_ok, (List.forall_mem_cons.2 ⟨td107_ok, (List.forall_mem_cons.2 ⟨td108_ok, (List.forall_mem_cons.2 ⟨td109_ok, (List.forall_mem_cons.2 ⟨td110_ok, (List.forall_mem_cons.2 ⟨td111_ok, (List.forall_mem_cons.2 ⟨td112_ok, (List.forall_mem_cons.2 ⟨td113_ok, (List.forall_mem_cons.2 ⟨td114_ok, (List.forall_mem_cons.2 ⟨td115_ok, (List.forall_mem_cons.2 ⟨td117_ok, (List.forall_mem_cons.2 ⟨td118_ok, (List.forall_mem_cons.2 ⟨td119_ok, (List.forall_mem_cons.2 ⟨td120_ok, (List.forall_mem_cons.2 ⟨td121_ok, (List.forall_mem_cons.2 ⟨td122_ok, (List.forall_mem_cons.2 ⟨td123_ok, (List.forall_mem_cons.2 ⟨td125_ok, (List.forall_mem_cons.2 ⟨td126_ok, (List.forall_mem_cons.2 ⟨td127_ok, (List.forall_mem_cons.2 ⟨td128_ok, (List.forall_mem_cons.2 ⟨td129_ok, (List.forall_mem_cons.2 ⟨td130_ok, (List.forall_mem_cons.2 ⟨td131_ok, (List.forall_mem_cons.2 ⟨td132_ok, (List.forall_mem_cons.2 ⟨td133_ok, (List.forall_mem_cons.2 ⟨td134_ok, (List.forall_mem_cons.2 ⟨td135_ok, (List.forall_mem_cons.2 ⟨td136_ok, (List.forall_mem_cons.2 ⟨td137_ok, (List.forall_mem_cons.2 ⟨td138_ok, (List.forall_mem_cons.2 ⟨td140_ok, (List.forall_mem_cons.2 ⟨td141_ok, (List.forall_mem_cons.2 ⟨td142_ok, (List.forall_mem_cons.2 ⟨td143_ok, (List.forall_mem_cons.2 ⟨td144_ok, (List.forall_mem_cons.2 ⟨td147_ok, (List.forall_mem_cons.2 ⟨td148_ok, (List.forall_mem_cons.2 ⟨td149_ok, (List.forall_mem_cons.2 ⟨td150_ok, (List.forall_mem_cons.2 ⟨td151_ok, (List.forall_mem_cons.2 ⟨td157_ok, (List.forall_mem_cons.2 ⟨td158_ok, (List.forall_mem_cons.2 ⟨td159_ok, (List.forall_mem_cons.2 ⟨td160_ok, (List.forall_mem_cons.2 ⟨td161_ok, (List.forall_mem_cons.2 ⟨td162_ok, (List.forall_mem_cons.2 ⟨td163_ok, (List.forall_mem_cons.2 ⟨td166_ok, (List.forall_mem_cons.2 ⟨td167_ok, (fun _ h => by cases h)⟩)⟩)⟩)⟩)⟩)⟩)⟩)⟩)⟩)⟩)⟩)⟩)⟩)⟩)⟩)⟩)⟩)⟩)⟩)⟩)⟩)⟩)⟩)⟩)⟩)⟩)⟩)⟩)⟩)⟩)⟩)⟩)⟩)⟩)⟩)⟩)⟩)⟩)⟩)⟩)⟩)⟩)⟩)⟩)⟩)⟩)⟩)⟩)⟩)⟩)⟩)⟩)⟩)⟩)⟩)⟩)⟩)⟩)⟩)⟩)⟩)⟩)⟩)⟩)⟩)⟩)⟩)⟩)⟩)⟩)⟩)⟩)⟩)⟩)⟩)⟩)⟩)⟩)⟩)⟩)⟩)⟩)⟩)⟩)⟩)⟩)⟩)⟩)⟩)⟩)⟩)⟩)⟩)⟩)⟩)⟩)⟩)⟩)⟩)⟩)⟩)⟩)⟩)⟩)⟩)⟩)⟩)⟩)⟩)⟩)⟩)⟩)⟩)⟩)⟩)⟩)⟩)⟩)⟩)⟩)⟩)⟩)⟩)⟩)⟩)⟩)⟩)⟩)⟩)⟩)⟩)⟩)⟩)⟩)⟩)⟩)⟩)⟩)⟩)⟩)⟩)⟩)⟩)⟩)⟩)
theorem mixed : Tryz.prog.follows .mixedOrders = true := by kernel_rfl
theorem tab_ok : tab.Ok Tryz.prog := Tab.Ok.of_list tabL_ok
end Go.Proofs.YtdnfiacjoghfkaaGreat
/- What each function's code is asked for, as a formula. Written by wgen.py (a program of this session's) out of Lean's print of the program. -/
namespace Go.Proofs.YtdnfiacjoghfkaaGreat
open Go Go.Sep
set_option linter.unusedVariables false
attribute [local irreducible] wpC headF
/-- loop.example/g00649/laws.FnExactSightBy -/
def D3 : Info := ⟨119, fun i => if i = 14 then ([[], [], [1], [0, 1, 2], [0, 1, 2, 3]], [(0, []), (1, []), (2, [0]), (3, []), (4, [])]) else ([], []), fun i => ([], [])⟩
/-- loop.example/g00649/laws.szProgram -/
def D5 : Info := ⟨18, fun i => ([], []), fun i => ([], [])⟩
def W5 (v0 : AV) (v1 : AV) (H : Heap) (K : AV → Heap → Prop) : Prop :=
 boxV v0 H fun v2 H1 =>
 fieldAddrV tab 25 v2 2 fun v5 =>
 loadV tab 22 v5 H1 fun v6 =>
 CallT Tryz.prog 19 [v6, v1] H1 fun v8 H2 =>
 binV tab .lss 3 v8 (AV.p (.int .i64 0)) fun v10 =>
 condV v10 (K (AV.p (.int .i64 (-1))) H2)
 (fieldAddrV tab 25 v2 3 fun v11 =>
 loadV tab 23 v11 H2 fun v12 =>
 CallT Tryz.prog 26 [v12, v8] H2 fun v14 H3 =>
 binV tab .lss 3 v14 (AV.p (.int .i64 0)) fun v16 =>
 condV v16 (K (AV.p (.int .i64 (-1))) H3)
 (K v14 H3))
theorem W5_wp (v0 : AV) (v1 : AV) (H : Heap) (K : AV → Heap → Prop) : wpC Tryz.prog tab D5 (bodyOf Tryz.f5) (retF tab [.tmp 4] K) (nthA [v0, v1]) H = W5 v0 v1 H K := by kernel_rfl
theorem W5_ok {v0 v1 : AV} {H : Heap} {K : AV → Heap → Prop} (h : W5 v0 v1 H K) : CallT Tryz.prog 5 [v0, v1] H K :=
  CallT.of_wp (D := D5) tab_ok mixed Tryz.func5 (c := bodyOf Tryz.f5) (by kernel_rfl) rfl (by kernel_rfl) (rs := #[.tmp 4]) rfl (by decide +kernel) (by kernel_rfl) (W5_wp v0 v1 H K) h
/-- loop.example/g00649/spec.SightBy -/
def D7 : Info := ⟨19, fun i => ([], []), fun i => ([], [])⟩
/-- loop.example/g00649/laws.toProgram -/
def D8 : Info := ⟨19, fun i => ([], []), fun i => ([], [])⟩
def W8 (v0 : AV) (H : Heap) (K : AV → Heap → Prop) : Prop :=
 boxV v0 H fun v1 H1 =>
 allocV tab 37 H1 fun v2 H2 =>
 allocV tab 37 H2 fun v3 H3 =>
 fieldAddrV tab 25 v1 0 fun v4 =>
 loadV tab 3 v4 H3 fun v5 =>
 fieldAddrV tab 37 v3 0 fun v6 =>
 storeV tab 3 v6 v5 H3 fun H4 =>
 fieldAddrV tab 25 v1 1 fun v7 =>
 loadV tab 3 v7 H4 fun v8 =>
 fieldAddrV tab 37 v3 1 fun v9 =>
 storeV tab 3 v9 v8 H4 fun H5 =>
 fieldAddrV tab 25 v1 2 fun v10 =>
 loadV tab 22 v10 H5 fun v11 =>
 CallT Tryz.prog 22 [v11] H5 fun v12 H6 =>
 fieldAddrV tab 37 v3 2 fun v13 =>
 storeV tab 34 v13 v12 H6 fun H7 =>
 fieldAddrV tab 25 v1 3 fun v14 =>
 loadV tab 23 v14 H7 fun v15 =>
 CallT Tryz.prog 30 [v15] H7 fun v16 H8 =>
 fieldAddrV tab 37 v3 3 fun v17 =>
 storeV tab 35 v17 v16 H8 fun H9 =>
 loadV tab 37 v3 H9 fun v18 =>
 storeV tab 37 v2 v18 H9 fun H10 =>
 loadV tab 37 v2 H10 fun r0 =>
 K r0 H10
theorem W8_wp (v0 : AV) (H : Heap) (K : AV → Heap → Prop) : wpC Tryz.prog tab D8 (bodyOf Tryz.f8) (retF tab [.cell 2 37] K) (nthA [v0]) H = W8 v0 H K := by kernel_rfl
theorem W8_ok {v0 : AV} {H : Heap} {K : AV → Heap → Prop} (h : W8 v0 H K) : CallT Tryz.prog 8 [v0] H K :=
  CallT.of_wp (D := D8) tab_ok mixed Tryz.func8 (c := bodyOf Tryz.f8) (by kernel_rfl) rfl (by kernel_rfl) (rs := #[.cell 2 37]) rfl (by decide +kernel) (by kernel_rfl) (W8_wp v0 H K) h
/-- loop.example/g00649/impl.SightBy -/
def D10 : Info := ⟨59, fun i => if i = 11 then ([[], [], [0, 1], [0, 1, 2], [0, 1, 2, 3], [], [5], [], [], [5, 6, 7, 8], [5, 6, 7, 8, 9], [], [5, 6, 7, 8, 9, 10, 11], [0, 1, 2, 3, 4, 5, 6, 7, 8, 9, 10, 11, 12], [0, 1], [0, 1, 2, 3, 4, 5, 6, 7, 8, 9, 10, 11, 12, 13, 14], [0, 1, 2, 3, 4, 5, 6, 7, 8, 9, 10, 11, 12, 13, 14, 15]], [(0, []), (1, []), (2, []), (3, []), (4, []), (5, []), (6, []), (7, []), (8, []), (11, []), (14, []), (9, [4]), (10, []), (12, []), (13, []), (15, []), (16, [])]) else ([], []), fun i => if i = 5 then ([1, 2, 4, 6, 25], [26]) else if i = 9 then ([1, 2, 4, 6, 7, 8, 25, 26, 32, 33], [34]) else ([], [])⟩
def L10_0 (K : AV → Heap → Prop) (v1 : AV) (v2 : AV) (v4 : AV) (v6 : AV) (v25 : AV) (v26 : AV) (H : Heap) : Prop := LoopV (wpC Tryz.prog tab D10 (cAt [1, 1, 1, 0, 1, 0, 0] (bodyOf Tryz.f10))) [1, 2, 4, 6, 25] (PostF.block 0 (PostF.thenA (wpC Tryz.prog tab D10 (cAt [1, 1, 1, 1] (bodyOf Tryz.f10))) (retF tab [.cell 4 31, .tmp 5] K))) [26] [AV.any, v1, v2, AV.any, v4, AV.any, v6, AV.any, AV.any, AV.any, AV.any, AV.any, AV.any, AV.any, AV.any, AV.any, AV.any, AV.any, AV.any, AV.any, AV.any, AV.any, AV.any, AV.any, AV.any, v25, v26, AV.any, AV.any, AV.any, AV.any, AV.any, AV.any, AV.any, AV.any, AV.any, AV.any, AV.any, AV.any, AV.any, AV.any, AV.any, AV.any, AV.any, AV.any, AV.any, AV.any, AV.any, AV.any, AV.any, AV.any, AV.any, AV.any, AV.any, AV.any, AV.any, AV.any, AV.any, AV.any] H
def L10_1 (K : AV → Heap → Prop) (N1 : AV → Heap → Prop) (v1 : AV) (v2 : AV) (v4 : AV) (v6 : AV) (v7 : AV) (v8 : AV) (v25 : AV) (v26 : AV) (v32 : AV) (v33 : AV) (v34 : AV) (H : Heap) : Prop := LoopV (wpC Tryz.prog tab D10 (cAt [1, 1, 1, 0, 1, 0, 0, 1, 1, 0, 0, 1, 1, 1, 0, 0] (bodyOf Tryz.f10))) [1, 2, 4, 6, 7, 8, 25, 26, 32, 33] (PostF.block 2 (PostF.block 1 (PostF.thenA (wpC Tryz.prog tab D10 (cAt [1, 1, 1, 0, 1, 0, 0, 1, 1, 1] (bodyOf Tryz.f10))) (loopF (PostF.block 0 (PostF.thenA (wpC Tryz.prog tab D10 (cAt [1, 1, 1, 1] (bodyOf Tryz.f10))) (retF tab [.cell 4 31, .tmp 5] K))) (fun e h => N1 (e 26) h))))) [34] [AV.any, v1, v2, AV.any, v4, AV.any, v6, v7, v8, AV.any, AV.any, AV.any, AV.any, AV.any, AV.any, AV.any, AV.any, AV.any, AV.any, AV.any, AV.any, AV.any, AV.any, AV.any, AV.any, v25, v26, AV.any, AV.any, AV.any, AV.any, AV.any, v32, v33, v34, AV.any, AV.any, AV.any, AV.any, AV.any, AV.any, AV.any, AV.any, AV.any, AV.any, AV.any, AV.any, AV.any, AV.any, AV.any, AV.any, AV.any, AV.any, AV.any, AV.any, AV.any, AV.any, AV.any, AV.any] H
def B10_1 (K : AV → Heap → Prop) (N1 : AV → Heap → Prop) (N2 : AV → Heap → Prop) (v1 : AV) (v2 : AV) (v4 : AV) (v6 : AV) (v7 : AV) (v8 : AV) (v25 : AV) (v26 : AV) (v32 : AV) (v33 : AV) (v34 : AV) (H : Heap) : Prop :=
 binV tab .lss 3 v34 v33 fun v35 =>
 condV v35 (indexAddrV tab 39 v32 v34 fun v37 =>
 loadV tab 34 v37 H fun v38 =>
 indexAddrV tab 63 v6 v7 fun v41 =>
 indexAddrV tab 67 v41 (AV.p (.int .i64 0)) fun v42 =>
 loadV tab 3 v42 H fun v43 =>
 fieldAddrV tab 37 v2 0 fun v44 =>
 loadV tab 3 v44 H fun v45 =>
 indexAddrV tab 63 v6 v7 fun v53 =>
 CallT Tryz.prog 35 [v45, v38, v8] H fun v48 H9 =>
 (loadV tab 3 v42 H9 fun v9043 =>
 v43 = v9043) ∧
 convV tab 68 3 v48 fun v49 =>
 binV tab .shl 3 v49 v34 fun v51 =>
 binV tab .or 3 v43 v51 fun v52 =>
 indexAddrV tab 67 v53 (AV.p (.int .i64 0)) fun v54 =>
 storeV tab 3 v54 v52 H9 fun H10 =>
 binV tab .add 3 v34 (AV.p (.int .i64 1)) fun v55 =>
 N2 v55 H10)
 (binV tab .add 3 v26 (AV.p (.int .i64 1)) fun v56 =>
 N1 v56 H)
def B10_0 (K : AV → Heap → Prop) (N1 : AV → Heap → Prop) (v1 : AV) (v2 : AV) (v4 : AV) (v6 : AV) (v25 : AV) (v26 : AV) (H : Heap) : Prop :=
 binV tab .lss 3 v26 v25 fun v27 =>
 condV v27 (loadV tab 37 v2 H fun v29 =>
 CallT Tryz.prog 34 [v29, v26] H fun v31 H8 =>
 lenV tab 39 v1 fun v33 =>
 L10_1 K N1 v1 v2 v4 v6 v26 v31 v25 v26 v1 v33 (AV.p (.int .i64 0)) H8)
 (CallT Tryz.prog 36 [v6] H fun v58 H11 =>
 storeV tab 31 v4 v58 H11 fun H12 =>
 loadV tab 31 v4 H12 fun r0 =>
 K (.tup [r0, (AV.p (.bool true))]) H12)
def W10 (v0 : AV) (v1 : AV) (H : Heap) (K : AV → Heap → Prop) : Prop :=
 boxV v0 H fun v2 H1 =>
 allocV tab 31 H1 fun v4 H2 =>
 loadV tab 37 v2 H2 fun v11 =>
 CallT Tryz.prog 31 [v11] H2 fun v12 H3 =>
 unV .not v12 fun v13 =>
 grdV v13 false (loadV tab 37 v2 H3 fun v15 =>
 CallT Tryz.prog 32 [v15, v1, (AV.p (.int .i64 0))] H3 fun v17 H4 =>
 unV .not v17 fun v18 =>
 condV v18 (buildV tab 31 [] fun v20 =>
 storeV tab 31 v4 v20 H4 fun H5 =>
 loadV tab 31 v4 H5 fun r0 =>
 K (.tup [r0, (AV.p (.bool false))]) H5)
 (loadV tab 37 v2 H4 fun v21 =>
 CallT Tryz.prog 33 [v21] H4 fun v22 H6 =>
 makeSliceV tab 63 v22 v22 H6 fun v23 H7 =>
 lenV tab 63 v23 fun v25 =>
 L10_0 K v1 v2 v4 v23 v25 (AV.p (.int .i64 0)) H7))
 (buildV tab 31 [] fun v20 =>
 storeV tab 31 v4 v20 H3 fun H13 =>
 loadV tab 31 v4 H13 fun r0 =>
 K (.tup [r0, (AV.p (.bool false))]) H13)
theorem W10_wp (v0 : AV) (v1 : AV) (H : Heap) (K : AV → Heap → Prop) : wpC Tryz.prog tab D10 (bodyOf Tryz.f10) (retF tab [.cell 4 31, .tmp 5] K) (nthA [v0, v1]) H = W10 v0 v1 H K := by kernel_rfl
theorem W10_ok {v0 v1 : AV} {H : Heap} {K : AV → Heap → Prop} (h : W10 v0 v1 H K) : CallT Tryz.prog 10 [v0, v1] H K :=
  CallT.of_wp (D := D10) tab_ok mixed Tryz.func10 (c := bodyOf Tryz.f10) (by kernel_rfl) rfl (by kernel_rfl) (rs := #[.cell 4 31, .tmp 5]) rfl (by decide +kernel) (by kernel_rfl) (W10_wp v0 v1 H K) h
theorem L10_1_rule {K : AV → Heap → Prop} {N1 : AV → Heap → Prop} {v1 v2 v4 v6 v7 v8 v25 v26 v32 v33 v34 : AV} {H : Heap} {σ : Type} (s0 : σ) (f34 : σ → AV) (TH : σ → Heap) (pre : σ → Prop) (μ : σ → Nat)
    (h0 : pre s0 ∧ AV.wk v34 (f34 s0) ∧ Heap.le (TH s0) H)
    (round : ∀ s, pre s → B10_1 K N1 (fun w34 H' => ∃ s', pre s' ∧ μ s' < μ s ∧ AV.wk w34 (f34 s') ∧ Heap.le (TH s') H') v1 v2 v4 v6 v7 v8 v25 v26 v32 v33 (f34 s) (TH s)) :
    L10_1 K N1 v1 v2 v4 v6 v7 v8 v25 v26 v32 v33 v34 H := by
  unfold L10_1
  exact LoopV.mk s0 (fun s => [f34 s]) TH pre μ (fun _ => rfl) (Eq.mp (by kernel_rfl) h0) (fun s hs => Eq.mp (by kernel_rfl) (round s hs))
theorem L10_0_rule {K : AV → Heap → Prop} {v1 v2 v4 v6 v25 v26 : AV} {H : Heap} {σ : Type} (s0 : σ) (f26 : σ → AV) (TH : σ → Heap) (pre : σ → Prop) (μ : σ → Nat)
    (h0 : pre s0 ∧ AV.wk v26 (f26 s0) ∧ Heap.le (TH s0) H)
    (round : ∀ s, pre s → B10_0 K (fun w26 H' => ∃ s', pre s' ∧ μ s' < μ s ∧ AV.wk w26 (f26 s') ∧ Heap.le (TH s') H') v1 v2 v4 v6 v25 (f26 s) (TH s)) :
    L10_0 K v1 v2 v4 v6 v25 v26 H := by
  unfold L10_0
  exact LoopV.mk s0 (fun s => [f26 s]) TH pre μ (fun _ => rfl) (Eq.mp (by kernel_rfl) h0) (fun s hs => Eq.mp (by kernel_rfl) (round s hs))
/-- loop.example/g00649/laws.eqSight -/
def D11 : Info := ⟨11, fun i => ([], []), fun i => ([], [])⟩
def W11 (v0 : AV) (v1 : AV) (H : Heap) (K : AV → Heap → Prop) : Prop :=
 boxV v0 H fun v2 H1 =>
 boxV v1 H1 fun v3 H2 =>
 fieldAddrV tab 31 v2 0 fun v5 =>
 loadV tab 29 v5 H2 fun v6 =>
 fieldAddrV tab 31 v3 0 fun v7 =>
 loadV tab 29 v7 H2 fun v8 =>
 CallT Tryz.prog 37 [v6, v8] H2 fun v9 H3 =>
 unV .not v9 fun v10 =>
 condV v10 (K (AV.p (.bool false)) H3)
 (K (AV.p (.bool true)) H3)
theorem W11_wp (v0 : AV) (v1 : AV) (H : Heap) (K : AV → Heap → Prop) : wpC Tryz.prog tab D11 (bodyOf Tryz.f11) (retF tab [.tmp 4] K) (nthA [v0, v1]) H = W11 v0 v1 H K := by kernel_rfl
theorem W11_ok {v0 v1 : AV} {H : Heap} {K : AV → Heap → Prop} (h : W11 v0 v1 H K) : CallT Tryz.prog 11 [v0, v1] H K :=
  CallT.of_wp (D := D11) tab_ok mixed Tryz.func11 (c := bodyOf Tryz.f11) (by kernel_rfl) rfl (by kernel_rfl) (rs := #[.tmp 4]) rfl (by decide +kernel) (by kernel_rfl) (W11_wp v0 v1 H K) h
/-- loop.example/g00649/laws.eqProgram -/
def D12 : Info := ⟨27, fun i => ([], []), fun i => ([], [])⟩
def W12 (v0 : AV) (v1 : AV) (H : Heap) (K : AV → Heap → Prop) : Prop :=
 boxV v0 H fun v2 H1 =>
 boxV v1 H1 fun v3 H2 =>
 fieldAddrV tab 37 v2 0 fun v5 =>
 loadV tab 3 v5 H2 fun v6 =>
 fieldAddrV tab 37 v3 0 fun v7 =>
 loadV tab 3 v7 H2 fun v8 =>
 binV tab .neq 3 v6 v8 fun v9 =>
 condV v9 (K (AV.p (.bool false)) H2)
 (fieldAddrV tab 37 v2 1 fun v10 =>
 loadV tab 3 v10 H2 fun v11 =>
 fieldAddrV tab 37 v3 1 fun v12 =>
 loadV tab 3 v12 H2 fun v13 =>
 binV tab .neq 3 v11 v13 fun v14 =>
 condV v14 (K (AV.p (.bool false)) H2)
 (fieldAddrV tab 37 v2 2 fun v15 =>
 loadV tab 34 v15 H2 fun v16 =>
 fieldAddrV tab 37 v3 2 fun v17 =>
 loadV tab 34 v17 H2 fun v18 =>
 CallT Tryz.prog 24 [v16, v18] H2 fun v19 H3 =>
 unV .not v19 fun v20 =>
 condV v20 (K (AV.p (.bool false)) H3)
 (fieldAddrV tab 37 v2 3 fun v21 =>
 loadV tab 35 v21 H3 fun v22 =>
 fieldAddrV tab 37 v3 3 fun v23 =>
 loadV tab 35 v23 H3 fun v24 =>
 CallT Tryz.prog 38 [v22, v24] H3 fun v25 H4 =>
 unV .not v25 fun v26 =>
 condV v26 (K (AV.p (.bool false)) H4)
 (K (AV.p (.bool true)) H4))))
theorem W12_wp (v0 : AV) (v1 : AV) (H : Heap) (K : AV → Heap → Prop) : wpC Tryz.prog tab D12 (bodyOf Tryz.f12) (retF tab [.tmp 4] K) (nthA [v0, v1]) H = W12 v0 v1 H K := by kernel_rfl
theorem W12_ok {v0 v1 : AV} {H : Heap} {K : AV → Heap → Prop} (h : W12 v0 v1 H K) : CallT Tryz.prog 12 [v0, v1] H K :=
  CallT.of_wp (D := D12) tab_ok mixed Tryz.func12 (c := bodyOf Tryz.f12) (by kernel_rfl) rfl (by kernel_rfl) (rs := #[.tmp 4]) rfl (by decide +kernel) (by kernel_rfl) (W12_wp v0 v1 H K) h
/-- loop.example/g00649/laws.markProgram -/
def D14 : Info := ⟨14, fun i => ([], []), fun i => ([], [])⟩
def W14 (v0 : AV) (v1 : AV) (H : Heap) (K : AV → Heap → Prop) : Prop :=
 boxV v0 H fun v2 H1 =>
 fieldAddrV tab 37 v2 2 fun v5 =>
 loadV tab 34 v5 H1 fun v6 =>
 CallT Tryz.prog 25 [v6, v1] H1 fun v8 H2 =>
 fieldAddrV tab 37 v2 3 fun v9 =>
 loadV tab 35 v9 H2 fun v10 =>
 CallT Tryz.prog 39 [v10, v8] H2 fun v12 H3 =>
 K v12 H3
theorem W14_wp (v0 : AV) (v1 : AV) (H : Heap) (K : AV → Heap → Prop) : wpC Tryz.prog tab D14 (bodyOf Tryz.f14) (retF tab [.tmp 4] K) (nthA [v0, v1]) H = W14 v0 v1 H K := by kernel_rfl
theorem W14_ok {v0 v1 : AV} {H : Heap} {K : AV → Heap → Prop} (h : W14 v0 v1 H K) : CallT Tryz.prog 14 [v0, v1] H K :=
  CallT.of_wp (D := D14) tab_ok mixed Tryz.func14 (c := bodyOf Tryz.f14) (by kernel_rfl) rfl (by kernel_rfl) (rs := #[.tmp 4]) rfl (by decide +kernel) (by kernel_rfl) (W14_wp v0 v1 H K) h
/-- loop.example/g00649/laws.markSight -/
def D16 : Info := ⟨10, fun i => ([], []), fun i => ([], [])⟩
def W16 (v0 : AV) (v1 : AV) (H : Heap) (K : AV → Heap → Prop) : Prop :=
 boxV v0 H fun v2 H1 =>
 fieldAddrV tab 31 v2 0 fun v5 =>
 loadV tab 29 v5 H1 fun v6 =>
 CallT Tryz.prog 40 [v6, v1] H1 fun v8 H2 =>
 K v8 H2
theorem W16_wp (v0 : AV) (v1 : AV) (H : Heap) (K : AV → Heap → Prop) : wpC Tryz.prog tab D16 (bodyOf Tryz.f16) (retF tab [.tmp 4] K) (nthA [v0, v1]) H = W16 v0 v1 H K := by kernel_rfl
theorem W16_ok {v0 v1 : AV} {H : Heap} {K : AV → Heap → Prop} (h : W16 v0 v1 H K) : CallT Tryz.prog 16 [v0, v1] H K :=
  CallT.of_wp (D := D16) tab_ok mixed Tryz.func16 (c := bodyOf Tryz.f16) (by kernel_rfl) rfl (by kernel_rfl) (rs := #[.tmp 4]) rfl (by decide +kernel) (by kernel_rfl) (W16_wp v0 v1 H K) h
/-- loop.example/g00649/laws.heldSight -/
def D17 : Info := ⟨12, fun i => ([], []), fun i => ([], [])⟩
def W17 (v0 : AV) (v1 : AV) (H : Heap) (K : AV → Heap → Prop) : Prop :=
 boxV v0 H fun v2 H1 =>
 fieldAddrV tab 31 v2 0 fun v5 =>
 loadV tab 29 v5 H1 fun v6 =>
 CallT Tryz.prog 41 [v6, v1] H1 fun v8 H2 =>
 binV tab .lss 3 v8 (AV.p (.int .i64 0)) fun v10 =>
 condV v10 (K (AV.p (.int .i64 (-1))) H2)
 (K v8 H2)
theorem W17_wp (v0 : AV) (v1 : AV) (H : Heap) (K : AV → Heap → Prop) : wpC Tryz.prog tab D17 (bodyOf Tryz.f17) (retF tab [.tmp 4] K) (nthA [v0, v1]) H = W17 v0 v1 H K := by kernel_rfl
theorem W17_ok {v0 v1 : AV} {H : Heap} {K : AV → Heap → Prop} (h : W17 v0 v1 H K) : CallT Tryz.prog 17 [v0, v1] H K :=
  CallT.of_wp (D := D17) tab_ok mixed Tryz.func17 (c := bodyOf Tryz.f17) (by kernel_rfl) rfl (by kernel_rfl) (rs := #[.tmp 4]) rfl (by decide +kernel) (by kernel_rfl) (W17_wp v0 v1 H K) h
/-- loop.example/g00649/laws.szNodeS -/
def D19 : Info := ⟨12, fun i => ([], []), fun i => ([], [])⟩
def W19 (v0 : AV) (v1 : AV) (H : Heap) (K : AV → Heap → Prop) : Prop :=
 lenV tab 22 v0 fun v7 =>
 binV tab .sub 3 v1 v7 fun v8 =>
 binV tab .lss 3 v8 (AV.p (.int .i64 0)) fun v10 =>
 condV v10 (K (AV.p (.int .i64 (-1))) H)
 (K v8 H)
theorem W19_wp (v0 : AV) (v1 : AV) (H : Heap) (K : AV → Heap → Prop) : wpC Tryz.prog tab D19 (bodyOf Tryz.f19) (retF tab [.tmp 4] K) (nthA [v0, v1]) H = W19 v0 v1 H K := by kernel_rfl
theorem W19_ok {v0 v1 : AV} {H : Heap} {K : AV → Heap → Prop} (h : W19 v0 v1 H K) : CallT Tryz.prog 19 [v0, v1] H K :=
  CallT.of_wp (D := D19) tab_ok mixed Tryz.func19 (c := bodyOf Tryz.f19) (by kernel_rfl) rfl (by kernel_rfl) (rs := #[.tmp 4]) rfl (by decide +kernel) (by kernel_rfl) (W19_wp v0 v1 H K) h
/-- loop.example/g00649/laws.toNodeS -/
def D22 : Info := ⟨23, fun i => ([], []), fun i => if i = 3 then ([0, 3], [4]) else ([], [])⟩
def L22_0 (K : AV → Heap → Prop) (v0 : AV) (v3 : AV) (v4 : AV) (H : Heap) : Prop := LoopV (wpC Tryz.prog tab D22 (cAt [1, 1, 0, 1, 0, 0] (bodyOf Tryz.f22))) [0, 3] (PostF.block 0 (PostF.thenA (wpC Tryz.prog tab D22 (cAt [1, 1, 1] (bodyOf Tryz.f22))) (retF tab [.tmp 2] K))) [4] [v0, AV.any, AV.any, v3, v4, AV.any, AV.any, AV.any, AV.any, AV.any, AV.any, AV.any, AV.any, AV.any, AV.any, AV.any, AV.any, AV.any, AV.any, AV.any, AV.any, AV.any, AV.any] H
def B22_0 (K : AV → Heap → Prop) (N1 : AV → Heap → Prop) (v0 : AV) (v3 : AV) (v4 : AV) (H : Heap) : Prop :=
 lenV tab 22 v0 fun v10 =>
 binV tab .lss 3 v4 v10 fun v11 =>
 condV v11 (indexAddrV tab 22 v0 v4 fun v18 =>
 loadV tab 82 v18 H fun v19 =>
 CallT Tryz.prog 47 [v19] H fun v20 H2 =>
 indexAddrV tab 34 v3 v4 fun v21 =>
 storeV tab 80 v21 v20 H2 fun H3 =>
 binV tab .add 3 v4 (AV.p (.int .i64 1)) fun v13 =>
 N1 v13 H3)
 (K v3 H)
def W22 (v0 : AV) (H : Heap) (K : AV → Heap → Prop) : Prop :=
 lenV tab 22 v0 fun v6 =>
 makeSliceV tab 34 v6 v6 H fun v7 H1 =>
 L22_0 K v0 v7 (AV.p (.int .i64 0)) H1
theorem W22_wp (v0 : AV) (H : Heap) (K : AV → Heap → Prop) : wpC Tryz.prog tab D22 (bodyOf Tryz.f22) (retF tab [.tmp 2] K) (nthA [v0]) H = W22 v0 H K := by kernel_rfl
theorem W22_ok {v0 : AV} {H : Heap} {K : AV → Heap → Prop} (h : W22 v0 H K) : CallT Tryz.prog 22 [v0] H K :=
  CallT.of_wp (D := D22) tab_ok mixed Tryz.func22 (c := bodyOf Tryz.f22) (by kernel_rfl) rfl (by kernel_rfl) (rs := #[.tmp 2]) rfl (by decide +kernel) (by kernel_rfl) (W22_wp v0 H K) h
theorem L22_0_rule {K : AV → Heap → Prop} {v0 v3 v4 : AV} {H : Heap} {σ : Type} (s0 : σ) (f4 : σ → AV) (TH : σ → Heap) (pre : σ → Prop) (μ : σ → Nat)
    (h0 : pre s0 ∧ AV.wk v4 (f4 s0) ∧ Heap.le (TH s0) H)
    (round : ∀ s, pre s → B22_0 K (fun w4 H' => ∃ s', pre s' ∧ μ s' < μ s ∧ AV.wk w4 (f4 s') ∧ Heap.le (TH s') H') v0 v3 (f4 s) (TH s)) :
    L22_0 K v0 v3 v4 H := by
  unfold L22_0
  exact LoopV.mk s0 (fun s => [f4 s]) TH pre μ (fun _ => rfl) (Eq.mp (by kernel_rfl) h0) (fun s hs => Eq.mp (by kernel_rfl) (round s hs))
/-- loop.example/g00649/laws.eqNodeS -/
def D24 : Info := ⟨27, fun i => if i = 6 then ([[], [], [0, 1], [0, 1, 2], [], [], [4, 5], [4, 5, 6], [0, 1, 2, 3, 4, 5, 6, 7], [0, 1, 2, 3, 4, 5, 6, 7, 8]], [(0, []), (1, []), (2, []), (3, []), (4, []), (5, []), (6, []), (7, []), (8, []), (9, [])]) else ([], []), fun i => if i = 4 then ([0, 1], [5]) else ([], [])⟩
def L24_0 (K : AV → Heap → Prop) (v0 : AV) (v1 : AV) (v5 : AV) (H : Heap) : Prop := LoopV (wpC Tryz.prog tab D24 (cAt [1, 1, 0, 1, 0, 0] (bodyOf Tryz.f24))) [0, 1] (PostF.block 0 (PostF.thenA (wpC Tryz.prog tab D24 (cAt [1, 1, 1] (bodyOf Tryz.f24))) (retF tab [.tmp 4] K))) [5] [v0, v1, AV.any, AV.any, AV.any, v5, AV.any, AV.any, AV.any, AV.any, AV.any, AV.any, AV.any, AV.any, AV.any, AV.any, AV.any, AV.any, AV.any, AV.any, AV.any, AV.any, AV.any, AV.any, AV.any, AV.any, AV.any] H
def B24_0 (K : AV → Heap → Prop) (N1 : AV → Heap → Prop) (v0 : AV) (v1 : AV) (v5 : AV) (H : Heap) : Prop :=
 lenV tab 34 v0 fun v13 =>
 binV tab .lss 3 v5 v13 fun v14 =>
 condV v14 (indexAddrV tab 34 v0 v5 fun v19 =>
 loadV tab 80 v19 H fun v20 =>
 indexAddrV tab 34 v1 v5 fun v23 =>
 loadV tab 80 v23 H fun v24 =>
 CallT Tryz.prog 50 [v20, v24] H fun v25 H1 =>
 unV .not v25 fun v26 =>
 condV v26 (K (AV.p (.bool false)) H1)
 (binV tab .add 3 v5 (AV.p (.int .i64 1)) fun v16 =>
 N1 v16 H1))
 (K (AV.p (.bool true)) H)
def W24 (v0 : AV) (v1 : AV) (H : Heap) (K : AV → Heap → Prop) : Prop :=
 lenV tab 34 v0 fun v7 =>
 lenV tab 34 v1 fun v9 =>
 binV tab .neq 3 v7 v9 fun v10 =>
 condV v10 (K (AV.p (.bool false)) H)
 (L24_0 K v0 v1 (AV.p (.int .i64 0)) H)
theorem W24_wp (v0 : AV) (v1 : AV) (H : Heap) (K : AV → Heap → Prop) : wpC Tryz.prog tab D24 (bodyOf Tryz.f24) (retF tab [.tmp 4] K) (nthA [v0, v1]) H = W24 v0 v1 H K := by kernel_rfl
theorem W24_ok {v0 v1 : AV} {H : Heap} {K : AV → Heap → Prop} (h : W24 v0 v1 H K) : CallT Tryz.prog 24 [v0, v1] H K :=
  CallT.of_wp (D := D24) tab_ok mixed Tryz.func24 (c := bodyOf Tryz.f24) (by kernel_rfl) rfl (by kernel_rfl) (rs := #[.tmp 4]) rfl (by decide +kernel) (by kernel_rfl) (W24_wp v0 v1 H K) h
theorem L24_0_rule {K : AV → Heap → Prop} {v0 v1 v5 : AV} {H : Heap} {σ : Type} (s0 : σ) (f5 : σ → AV) (TH : σ → Heap) (pre : σ → Prop) (μ : σ → Nat)
    (h0 : pre s0 ∧ AV.wk v5 (f5 s0) ∧ Heap.le (TH s0) H)
    (round : ∀ s, pre s → B24_0 K (fun w5 H' => ∃ s', pre s' ∧ μ s' < μ s ∧ AV.wk w5 (f5 s') ∧ Heap.le (TH s') H') v0 v1 (f5 s) (TH s)) :
    L24_0 K v0 v1 v5 H := by
  unfold L24_0
  exact LoopV.mk s0 (fun s => [f5 s]) TH pre μ (fun _ => rfl) (Eq.mp (by kernel_rfl) h0) (fun s hs => Eq.mp (by kernel_rfl) (round s hs))
/-- loop.example/g00649/laws.markNodeS -/
def D25 : Info := ⟨28, fun i => ([], []), fun i => if i = 2 then ([0], [1, 5]) else ([], [])⟩
def L25_0 (K : AV → Heap → Prop) (v0 : AV) (v1 : AV) (v5 : AV) (H : Heap) : Prop := LoopV (wpC Tryz.prog tab D25 (cAt [1, 0, 1, 0, 0] (bodyOf Tryz.f25))) [0] (PostF.block 0 (PostF.thenA (wpC Tryz.prog tab D25 (cAt [1, 1] (bodyOf Tryz.f25))) (retF tab [.tmp 4] K))) [1, 5] [v0, v1, AV.any, AV.any, AV.any, v5, AV.any, AV.any, AV.any, AV.any, AV.any, AV.any, AV.any, AV.any, AV.any, AV.any, AV.any, AV.any, AV.any, AV.any, AV.any, AV.any, AV.any, AV.any, AV.any, AV.any, AV.any, AV.any] H
def B25_0 (K : AV → Heap → Prop) (N1 : AV → AV → Heap → Prop) (v0 : AV) (v1 : AV) (v5 : AV) (H : Heap) : Prop :=
 lenV tab 34 v0 fun v8 =>
 binV tab .lss 3 v5 v8 fun v9 =>
 condV v9 (indexAddrV tab 34 v0 v5 fun v15 =>
 fieldAddrV tab 80 v15 0 fun v16 =>
 storeV tab 3 v16 v1 H fun H1 =>
 binV tab .add 3 v1 (AV.p (.int .i64 1)) fun v18 =>
 convV tab 3 68 v18 fun v22 =>
 indexAddrV tab 34 v0 v5 fun v23 =>
 fieldAddrV tab 80 v23 1 fun v24 =>
 storeV tab 68 v24 v22 H1 fun H2 =>
 binV tab .add 3 v18 (AV.p (.int .i64 1)) fun v26 =>
 binV tab .add 3 v5 (AV.p (.int .i64 1)) fun v11 =>
 N1 v26 v11 H2)
 (K v1 H)
def W25 (v0 : AV) (v1 : AV) (H : Heap) (K : AV → Heap → Prop) : Prop :=
 L25_0 K v0 v1 (AV.p (.int .i64 0)) H
theorem W25_wp (v0 : AV) (v1 : AV) (H : Heap) (K : AV → Heap → Prop) : wpC Tryz.prog tab D25 (bodyOf Tryz.f25) (retF tab [.tmp 4] K) (nthA [v0, v1]) H = W25 v0 v1 H K := by kernel_rfl
theorem W25_ok {v0 v1 : AV} {H : Heap} {K : AV → Heap → Prop} (h : W25 v0 v1 H K) : CallT Tryz.prog 25 [v0, v1] H K :=
  CallT.of_wp (D := D25) tab_ok mixed Tryz.func25 (c := bodyOf Tryz.f25) (by kernel_rfl) rfl (by kernel_rfl) (rs := #[.tmp 4]) rfl (by decide +kernel) (by kernel_rfl) (W25_wp v0 v1 H K) h
theorem L25_0_rule {K : AV → Heap → Prop} {v0 v1 v5 : AV} {H : Heap} {σ : Type} (s0 : σ) (f1 : σ → AV) (f5 : σ → AV) (TH : σ → Heap) (pre : σ → Prop) (μ : σ → Nat)
    (h0 : pre s0 ∧ AV.wk v1 (f1 s0) ∧ AV.wk v5 (f5 s0) ∧ Heap.le (TH s0) H)
    (round : ∀ s, pre s → B25_0 K (fun w1 w5 H' => ∃ s', pre s' ∧ μ s' < μ s ∧ AV.wk w1 (f1 s') ∧ AV.wk w5 (f5 s') ∧ Heap.le (TH s') H') v0 (f1 s) (f5 s) (TH s)) :
    L25_0 K v0 v1 v5 H := by
  unfold L25_0
  exact LoopV.mk s0 (fun s => [f1 s, f5 s]) TH pre μ (fun _ => rfl) (Eq.mp (by kernel_rfl) h0) (fun s hs => Eq.mp (by kernel_rfl) (round s hs))
/-- loop.example/g00649/laws.szCommandS -/
def D26 : Info := ⟨27, fun i => ([], []), fun i => if i = 5 then ([0], [1, 5]) else ([], [])⟩
def L26_0 (K : AV → Heap → Prop) (v0 : AV) (v1 : AV) (v5 : AV) (H : Heap) : Prop := LoopV (wpC Tryz.prog tab D26 (cAt [1, 1, 1, 0, 1, 0, 0] (bodyOf Tryz.f26))) [0] (PostF.block 0 (PostF.thenA (wpC Tryz.prog tab D26 (cAt [1, 1, 1, 1] (bodyOf Tryz.f26))) (retF tab [.tmp 4] K))) [1, 5] [v0, v1, AV.any, AV.any, AV.any, v5, AV.any, AV.any, AV.any, AV.any, AV.any, AV.any, AV.any, AV.any, AV.any, AV.any, AV.any, AV.any, AV.any, AV.any, AV.any, AV.any, AV.any, AV.any, AV.any, AV.any, AV.any] H
def B26_0 (K : AV → Heap → Prop) (N1 : AV → AV → Heap → Prop) (v0 : AV) (v1 : AV) (v5 : AV) (H : Heap) : Prop :=
 lenV tab 23 v0 fun v14 =>
 binV tab .lss 3 v5 v14 fun v15 =>
 condV v15 (indexAddrV tab 23 v0 v5 fun v20 =>
 loadV tab 88 v20 H fun v21 =>
 CallT Tryz.prog 51 [v21, v1] H fun v23 H1 =>
 binV tab .lss 3 v23 (AV.p (.int .i64 0)) fun v25 =>
 condV v25 (K (AV.p (.int .i64 (-1))) H1)
 (binV tab .add 3 v5 (AV.p (.int .i64 1)) fun v17 =>
 N1 v23 v17 H1))
 (K v1 H)
def W26 (v0 : AV) (v1 : AV) (H : Heap) (K : AV → Heap → Prop) : Prop :=
 lenV tab 23 v0 fun v8 =>
 binV tab .sub 3 v1 v8 fun v9 =>
 binV tab .lss 3 v9 (AV.p (.int .i64 0)) fun v11 =>
 condV v11 (K (AV.p (.int .i64 (-1))) H)
 (L26_0 K v0 v9 (AV.p (.int .i64 0)) H)
theorem W26_wp (v0 : AV) (v1 : AV) (H : Heap) (K : AV → Heap → Prop) : wpC Tryz.prog tab D26 (bodyOf Tryz.f26) (retF tab [.tmp 4] K) (nthA [v0, v1]) H = W26 v0 v1 H K := by kernel_rfl
theorem W26_ok {v0 v1 : AV} {H : Heap} {K : AV → Heap → Prop} (h : W26 v0 v1 H K) : CallT Tryz.prog 26 [v0, v1] H K :=
  CallT.of_wp (D := D26) tab_ok mixed Tryz.func26 (c := bodyOf Tryz.f26) (by kernel_rfl) rfl (by kernel_rfl) (rs := #[.tmp 4]) rfl (by decide +kernel) (by kernel_rfl) (W26_wp v0 v1 H K) h
theorem L26_0_rule {K : AV → Heap → Prop} {v0 v1 v5 : AV} {H : Heap} {σ : Type} (s0 : σ) (f1 : σ → AV) (f5 : σ → AV) (TH : σ → Heap) (pre : σ → Prop) (μ : σ → Nat)
    (h0 : pre s0 ∧ AV.wk v1 (f1 s0) ∧ AV.wk v5 (f5 s0) ∧ Heap.le (TH s0) H)
    (round : ∀ s, pre s → B26_0 K (fun w1 w5 H' => ∃ s', pre s' ∧ μ s' < μ s ∧ AV.wk w1 (f1 s') ∧ AV.wk w5 (f5 s') ∧ Heap.le (TH s') H') v0 (f1 s) (f5 s) (TH s)) :
    L26_0 K v0 v1 v5 H := by
  unfold L26_0
  exact LoopV.mk s0 (fun s => [f1 s, f5 s]) TH pre μ (fun _ => rfl) (Eq.mp (by kernel_rfl) h0) (fun s hs => Eq.mp (by kernel_rfl) (round s hs))
/-- loop.example/g00649/spec.l7Small -/
def D27 : Info := ⟨13, fun i => ([], []), fun i => ([], [])⟩
def W27 (v0 : AV) (H : Heap) (K : AV → Heap → Prop) : Prop :=
 boxV v0 H fun v1 H1 =>
 loadV tab 37 v1 H1 fun v3 =>
 CallT Tryz.prog 52 [v3] H1 fun v4 H2 =>
 grdV v4 true (fieldAddrV tab 37 v1 0 fun v6 =>
 loadV tab 3 v6 H2 fun v7 =>
 fieldAddrV tab 37 v1 1 fun v8 =>
 loadV tab 3 v8 H2 fun v9 =>
 binV tab .mul 3 v7 v9 fun v10 =>
 binV tab .leq 3 v10 (AV.p (.int .i64 5)) fun v11 =>
 K v11 H2)
 (K (AV.p (.bool false)) H2)
theorem W27_wp (v0 : AV) (H : Heap) (K : AV → Heap → Prop) : wpC Tryz.prog tab D27 (bodyOf Tryz.f27) (retF tab [.tmp 2] K) (nthA [v0]) H = W27 v0 H K := by kernel_rfl
theorem W27_ok {v0 : AV} {H : Heap} {K : AV → Heap → Prop} (h : W27 v0 H K) : CallT Tryz.prog 27 [v0] H K :=
  CallT.of_wp (D := D27) tab_ok mixed Tryz.func27 (c := bodyOf Tryz.f27) (by kernel_rfl) rfl (by kernel_rfl) (rs := #[.tmp 2]) rfl (by decide +kernel) (by kernel_rfl) (W27_wp v0 H K) h
/-- loop.example/g00649/laws.toCommandS -/
def D30 : Info := ⟨23, fun i => ([], []), fun i => if i = 3 then ([0, 3], [4]) else ([], [])⟩
def L30_0 (K : AV → Heap → Prop) (v0 : AV) (v3 : AV) (v4 : AV) (H : Heap) : Prop := LoopV (wpC Tryz.prog tab D30 (cAt [1, 1, 0, 1, 0, 0] (bodyOf Tryz.f30))) [0, 3] (PostF.block 0 (PostF.thenA (wpC Tryz.prog tab D30 (cAt [1, 1, 1] (bodyOf Tryz.f30))) (retF tab [.tmp 2] K))) [4] [v0, AV.any, AV.any, v3, v4, AV.any, AV.any, AV.any, AV.any, AV.any, AV.any, AV.any, AV.any, AV.any, AV.any, AV.any, AV.any, AV.any, AV.any, AV.any, AV.any, AV.any, AV.any] H
def B30_0 (K : AV → Heap → Prop) (N1 : AV → Heap → Prop) (v0 : AV) (v3 : AV) (v4 : AV) (H : Heap) : Prop :=
 lenV tab 23 v0 fun v10 =>
 binV tab .lss 3 v4 v10 fun v11 =>
 condV v11 (indexAddrV tab 23 v0 v4 fun v18 =>
 loadV tab 88 v18 H fun v19 =>
 CallT Tryz.prog 54 [v19] H fun v20 H2 =>
 indexAddrV tab 35 v3 v4 fun v21 =>
 storeV tab 92 v21 v20 H2 fun H3 =>
 binV tab .add 3 v4 (AV.p (.int .i64 1)) fun v13 =>
 N1 v13 H3)
 (K v3 H)
def W30 (v0 : AV) (H : Heap) (K : AV → Heap → Prop) : Prop :=
 lenV tab 23 v0 fun v6 =>
 makeSliceV tab 35 v6 v6 H fun v7 H1 =>
 L30_0 K v0 v7 (AV.p (.int .i64 0)) H1
theorem W30_wp (v0 : AV) (H : Heap) (K : AV → Heap → Prop) : wpC Tryz.prog tab D30 (bodyOf Tryz.f30) (retF tab [.tmp 2] K) (nthA [v0]) H = W30 v0 H K := by kernel_rfl
theorem W30_ok {v0 : AV} {H : Heap} {K : AV → Heap → Prop} (h : W30 v0 H K) : CallT Tryz.prog 30 [v0] H K :=
  CallT.of_wp (D := D30) tab_ok mixed Tryz.func30 (c := bodyOf Tryz.f30) (by kernel_rfl) rfl (by kernel_rfl) (rs := #[.tmp 2]) rfl (by decide +kernel) (by kernel_rfl) (W30_wp v0 H K) h
theorem L30_0_rule {K : AV → Heap → Prop} {v0 v3 v4 : AV} {H : Heap} {σ : Type} (s0 : σ) (f4 : σ → AV) (TH : σ → Heap) (pre : σ → Prop) (μ : σ → Nat)
    (h0 : pre s0 ∧ AV.wk v4 (f4 s0) ∧ Heap.le (TH s0) H)
    (round : ∀ s, pre s → B30_0 K (fun w4 H' => ∃ s', pre s' ∧ μ s' < μ s ∧ AV.wk w4 (f4 s') ∧ Heap.le (TH s') H') v0 v3 (f4 s) (TH s)) :
    L30_0 K v0 v3 v4 H := by
  unfold L30_0
  exact LoopV.mk s0 (fun s => [f4 s]) TH pre μ (fun _ => rfl) (Eq.mp (by kernel_rfl) h0) (fun s hs => Eq.mp (by kernel_rfl) (round s hs))
end Go.Proofs.YtdnfiacjoghfkaaGreat
