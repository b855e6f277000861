/- Texts laid together: Lr0 Tab W0 W1 W2 W3 W4 WA Lb0 Lr8 Lb2. -/
import Derived.Test.YtginibofnkiofaaPR2
import Derived.Test.YtginibofnkiofaaProg
import Derived.KernelRfl
set_option linter.unusedVariables false
set_option linter.unusedSimpArgs false
open Nat renaming reduceAdd → ν1, reduceLeDiff → ν2, reduceLT → ν3, reduceMul → ν4, reduceSub → ν5
open Int renaming reduceToNat → ι1, reduceSub → ι2, reduceAdd → ι3, reduceNeg → ι4
open Array renaming toList → ι5
open Ne renaming symm → ν6
open List renaming forall_mem_cons → ν7
namespace Go.Sep
open Go Go.RowKit
theorem args_cons {P : Program} {t : TypeId} {ts : List TypeId} {avs : List AV} (h : ArgsT P (t :: ts) avs) : ∃ v vs, avs = v :: vs ∧ ArgT P t v ∧ ArgsT P ts vs := by
  cases h with
  | cons h r => exact ⟨_, _, rfl, h, r⟩
theorem args_nil {P : Program} {avs : List AV} (h : ArgsT P [] avs) : avs = [] := by cases h; rfl
end Go.Sep
namespace Go.Proofs.Ytginibofnkiofaa
open Go Go.Sep
def td1 : TD := ⟨.func, 1, 8, [.nilfn]⟩
def td2 : TD := ⟨.int .i64, 1, 8, [(.p (.int .i64 0))]⟩
def td3 : TD := ⟨.int .i64, 1, 8, [(.p (.int .i64 0))]⟩
def td4 : TD := ⟨.bool, 1, 1, [(.p (.bool false))]⟩
def td5 : TD := ⟨.int .u8, 1, 1, [(.p (.int .u8 0))]⟩
def td6 : TD := ⟨.int .u8, 1, 1, [(.p (.int .u8 0))]⟩
def td9 : TD := ⟨.str, 1, 16, [(.p (.str ⟨#[]⟩))]⟩
def td10 : TD := ⟨.str, 1, 16, [(.p (.str ⟨#[]⟩))]⟩
def td11 : TD := ⟨.str, 1, 16, [(.p (.str ⟨#[]⟩))]⟩
def td12 : TD := ⟨.int .u64, 1, 8, [(.p (.int .u64 0))]⟩
def td15 : TD := ⟨.ptr 116, 1, 8, [.nilp]⟩
def td16 : TD := ⟨.ptr 119, 1, 8, [.nilp]⟩
def td17 : TD := ⟨.ptr 127, 1, 8, [.nilp]⟩
def td21 : TD := ⟨.int .i32, 1, 4, [(.p (.int .i32 0))]⟩
def td22 : TD := ⟨.slice 5, 1, 24, [(.p .nil)]⟩
def td23 : TD := ⟨.func, 1, 8, [.nilfn]⟩
def td24 : TD := ⟨.slice 28, 1, 24, [(.p .nil)]⟩
def td25 : TD := ⟨.struct [(0, 24)], 1, 24, [(.p .nil)]⟩
def td26 : TD := ⟨.struct [(0, 24)], 1, 24, [(.p .nil)]⟩
def td27 : TD := ⟨.func, 1, 8, [.nilfn]⟩
def td28 : TD := ⟨.slice 3, 1, 24, [(.p .nil)]⟩
def td30 : TD := ⟨.func, 1, 8, [.nilfn]⟩
def td31 : TD := ⟨.func, 1, 8, [.nilfn]⟩
def td33 : TD := ⟨.func, 1, 8, [.nilfn]⟩
def td35 : TD := ⟨.func, 1, 8, [.nilfn]⟩
def td37 : TD := ⟨.func, 1, 8, [.nilfn]⟩
def td38 : TD := ⟨.func, 1, 8, [.nilfn]⟩
def td39 : TD := ⟨.slice 4, 1, 24, [(.p .nil)]⟩
def td40 : TD := ⟨.func, 1, 8, [.nilfn]⟩
def td41 : TD := ⟨.int .u64, 1, 8, [(.p (.int .u64 0))]⟩
def td42 : TD := ⟨.func, 1, 8, [.nilfn]⟩
def td43 : TD := ⟨.struct [(0, 3), (1, 24)], 2, 32, [(.p (.int .i64 0)), (.p .nil)]⟩
def td44 : TD := ⟨.struct [(0, 3), (1, 24)], 2, 32, [(.p (.int .i64 0)), (.p .nil)]⟩
def td45 : TD := ⟨.func, 1, 8, [.nilfn]⟩
def td46 : TD := ⟨.func, 1, 8, [.nilfn]⟩
def td47 : TD := ⟨.func, 1, 8, [.nilfn]⟩
def td48 : TD := ⟨.func, 1, 8, [.nilfn]⟩
def td49 : TD := ⟨.ptr 52, 1, 8, [.nilp]⟩
def td50 : TD := ⟨.int .u64, 1, 8, [(.p (.int .u64 0))]⟩
def td51 : TD := ⟨.struct [(0, 22), (1, 3), (2, 50)], 3, 40, [(.p .nil), (.p (.int .i64 0)), (.p (.int .u64 0))]⟩
def td52 : TD := ⟨.struct [(0, 22), (1, 3), (2, 50)], 3, 40, [(.p .nil), (.p (.int .i64 0)), (.p (.int .u64 0))]⟩
def td53 : TD := ⟨.func, 1, 8, [.nilfn]⟩
def td54 : TD := ⟨.func, 1, 8, [.nilfn]⟩
def td55 : TD := ⟨.func, 1, 8, [.nilfn]⟩
def td56 : TD := ⟨.func, 1, 8, [.nilfn]⟩
def td57 : TD := ⟨.func, 1, 8, [.nilfn]⟩
def td58 : TD := ⟨.func, 1, 8, [.nilfn]⟩
def td59 : TD := ⟨.func, 1, 8, [.nilfn]⟩
def td60 : TD := ⟨.func, 1, 8, [.nilfn]⟩
def td61 : TD := ⟨.func, 1, 8, [.nilfn]⟩
def td62 : TD := ⟨.func, 1, 8, [.nilfn]⟩
def td63 : TD := ⟨.func, 1, 8, [.nilfn]⟩
def td64 : TD := ⟨.func, 1, 8, [.nilfn]⟩
def td65 : TD := ⟨.ptr 67, 1, 8, [.nilp]⟩
def td66 : TD := ⟨.struct [(0, 24), (1, 28), (2, 28), (3, 28), (4, 28), (5, 3)], 6, 128, [(.p .nil), (.p .nil), (.p .nil), (.p .nil), (.p .nil), (.p (.int .i64 0))]⟩
def td67 : TD := ⟨.struct [(0, 24), (1, 28), (2, 28), (3, 28), (4, 28), (5, 3)], 6, 128, [(.p .nil), (.p .nil), (.p .nil), (.p .nil), (.p .nil), (.p (.int .i64 0))]⟩
def td68 : TD := ⟨.func, 1, 8, [.nilfn]⟩
def td70 : TD := ⟨.func, 1, 8, [.nilfn]⟩
def td71 : TD := ⟨.func, 1, 8, [.nilfn]⟩
def td72 : TD := ⟨.func, 1, 8, [.nilfn]⟩
def td73 : TD := ⟨.func, 1, 8, [.nilfn]⟩
def td74 : TD := ⟨.func, 1, 8, [.nilfn]⟩
def td75 : TD := ⟨.func, 1, 8, [.nilfn]⟩
def td76 : TD := ⟨.func, 1, 8, [.nilfn]⟩
def td77 : TD := ⟨.func, 1, 8, [.nilfn]⟩
def td78 : TD := ⟨.func, 1, 8, [.nilfn]⟩
def td79 : TD := ⟨.func, 1, 8, [.nilfn]⟩
def td80 : TD := ⟨.func, 1, 8, [.nilfn]⟩
def td81 : TD := ⟨.func, 1, 8, [.nilfn]⟩
def td82 : TD := ⟨.func, 1, 8, [.nilfn]⟩
def td83 : TD := ⟨.int .u32, 1, 4, [(.p (.int .u32 0))]⟩
def td85 : TD := ⟨.func, 1, 8, [.nilfn]⟩
def td87 : TD := ⟨.func, 1, 8, [.nilfn]⟩
def td88 : TD := ⟨.func, 1, 8, [.nilfn]⟩
def td89 : TD := ⟨.ptr 91, 1, 8, [.nilp]⟩
def td90 : TD := ⟨.struct [(0, 24), (1, 39), (2, 28)], 3, 72, [(.p .nil), (.p .nil), (.p .nil)]⟩
def td91 : TD := ⟨.struct [(0, 24), (1, 39), (2, 28)], 3, 72, [(.p .nil), (.p .nil), (.p .nil)]⟩
def td92 : TD := ⟨.func, 1, 8, [.nilfn]⟩
def td93 : TD := ⟨.func, 1, 8, [.nilfn]⟩
def td94 : TD := ⟨.func, 1, 8, [.nilfn]⟩
def td95 : TD := ⟨.int .i64, 1, 8, [(.p (.int .i64 0))]⟩
def td97 : TD := ⟨.func, 1, 8, [.nilfn]⟩
def td98 : TD := ⟨.func, 1, 8, [.nilfn]⟩
def td99 : TD := ⟨.func, 1, 8, [.nilfn]⟩
def td101 : TD := ⟨.func, 1, 8, [.nilfn]⟩
def td102 : TD := ⟨.func, 1, 8, [.nilfn]⟩
def td103 : TD := ⟨.func, 1, 8, [.nilfn]⟩
def td104 : TD := ⟨.func, 1, 8, [.nilfn]⟩
def td105 : TD := ⟨.int .u64, 1, 8, [(.p (.int .u64 0))]⟩
def td106 : TD := ⟨.func, 1, 8, [.nilfn]⟩
def td107 : TD := ⟨.func, 1, 8, [.nilfn]⟩
def td108 : TD := ⟨.func, 1, 8, [.nilfn]⟩
def td109 : TD := ⟨.ptr 3, 1, 8, [.nilp]⟩
def td110 : TD := ⟨.func, 1, 8, [.nilfn]⟩
def td111 : TD := ⟨.ptr 105, 1, 8, [.nilp]⟩
def td113 : TD := ⟨.func, 1, 8, [.nilfn]⟩
def td114 : TD := ⟨.func, 1, 8, [.nilfn]⟩
def td120 : TD := ⟨.int .u8, 1, 1, [(.p (.int .u8 0))]⟩
def td121 : TD := ⟨.int .u8, 1, 1, [(.p (.int .u8 0))]⟩
def td122 : TD := ⟨.func, 1, 8, [.nilfn]⟩
def td123 : TD := ⟨.ptr 5, 1, 8, [.nilp]⟩
def td124 : TD := ⟨.int .i32, 1, 4, [(.p (.int .i32 0))]⟩
def td125 : TD := ⟨.int .i32, 1, 4, [(.p (.int .i32 0))]⟩
def tabL : List (Nat × TD) := [(1, td1), (2, td2), (3, td3), (4, td4), (5, td5), (6, td6), (9, td9), (10, td10), (11, td11), (12, td12), (15, td15), (16, td16), (17, td17), (21, td21), (22, td22), (23, td23), (24, td24), (25, td25), (26, td26), (27, td27), (28, td28), (30, td30), (31, td31), (33, td33), (35, td35), (37, td37), (38, td38), (39, td39), (40, td40), (41, td41), (42, td42), (43, td43), (44, td44), (45, td45), (46, td46), (47, td47), (48, td48), (49, td49), (50, td50), (51, td51), (52, td52), (53, td53), (54, td54), (55, td55), (56, td56), (57, td57), (58, td58), (59, td59), (60, td60), (61, td61), (62, td62), (63, td63), (64, td64), (65, td65), (66, td66), (67, td67), (68, td68), (70, td70), (71, td71), (72, td72), (73, td73), (74, td74), (75, td75), (76, td76), (77, td77), (78, td78), (79, td79), (80, td80), (81, td81), (82, td82), (83, td83), (85, td85), (87, td87), (88, td88), (89, td89), (90, td90), (91, td91), (92, td92), (93, td93), (94, td94), (95, td95), (97, td97), (98, td98), (99, td99), (101, td101), (102, td102), (103, td103), (104, td104), (105, td105), (106, td106), (107, td107), (108, td108), (109, td109), (110, td110), (111, td111), (113, td113), (114, td114), (120, td120), (121, td121), (122, td122), (123, td123), (124, td124), (125, td125)]
def tab : Tab := fun t => (tabL.find? (fun p => p.1 == t)).map (·.2)
theorem tab_1 : tab 1 = some ⟨.func, 1, 8, [.nilfn]⟩ := rfl
theorem tab_2 : tab 2 = some ⟨.int .i64, 1, 8, [(.p (.int .i64 0))]⟩ := rfl
theorem tab_3 : tab 3 = some ⟨.int .i64, 1, 8, [(.p (.int .i64 0))]⟩ := rfl
theorem tab_4 : tab 4 = some ⟨.bool, 1, 1, [(.p (.bool false))]⟩ := rfl
theorem tab_5 : tab 5 = some ⟨.int .u8, 1, 1, [(.p (.int .u8 0))]⟩ := rfl
theorem tab_6 : tab 6 = some ⟨.int .u8, 1, 1, [(.p (.int .u8 0))]⟩ := rfl
theorem tab_9 : tab 9 = some ⟨.str, 1, 16, [(.p (.str ⟨#[]⟩))]⟩ := rfl
theorem tab_10 : tab 10 = some ⟨.str, 1, 16, [(.p (.str ⟨#[]⟩))]⟩ := rfl
theorem tab_11 : tab 11 = some ⟨.str, 1, 16, [(.p (.str ⟨#[]⟩))]⟩ := rfl
theorem tab_12 : tab 12 = some ⟨.int .u64, 1, 8, [(.p (.int .u64 0))]⟩ := rfl
theorem tab_15 : tab 15 = some ⟨.ptr 116, 1, 8, [.nilp]⟩ := rfl
theorem tab_16 : tab 16 = some ⟨.ptr 119, 1, 8, [.nilp]⟩ := rfl
theorem tab_17 : tab 17 = some ⟨.ptr 127, 1, 8, [.nilp]⟩ := rfl
theorem tab_21 : tab 21 = some ⟨.int .i32, 1, 4, [(.p (.int .i32 0))]⟩ := rfl
theorem tab_22 : tab 22 = some ⟨.slice 5, 1, 24, [(.p .nil)]⟩ := rfl
theorem tab_23 : tab 23 = some ⟨.func, 1, 8, [.nilfn]⟩ := rfl
theorem tab_24 : tab 24 = some ⟨.slice 28, 1, 24, [(.p .nil)]⟩ := rfl
theorem tab_25 : tab 25 = some ⟨.struct [(0, 24)], 1, 24, [(.p .nil)]⟩ := rfl
theorem tab_26 : tab 26 = some ⟨.struct [(0, 24)], 1, 24, [(.p .nil)]⟩ := rfl
theorem tab_27 : tab 27 = some ⟨.func, 1, 8, [.nilfn]⟩ := rfl
theorem tab_28 : tab 28 = some ⟨.slice 3, 1, 24, [(.p .nil)]⟩ := rfl
theorem tab_30 : tab 30 = some ⟨.func, 1, 8, [.nilfn]⟩ := rfl
theorem tab_31 : tab 31 = some ⟨.func, 1, 8, [.nilfn]⟩ := rfl
theorem tab_33 : tab 33 = some ⟨.func, 1, 8, [.nilfn]⟩ := rfl
theorem tab_35 : tab 35 = some ⟨.func, 1, 8, [.nilfn]⟩ := rfl
theorem tab_37 : tab 37 = some ⟨.func, 1, 8, [.nilfn]⟩ := rfl
theorem tab_38 : tab 38 = some ⟨.func, 1, 8, [.nilfn]⟩ := rfl
theorem tab_39 : tab 39 = some ⟨.slice 4, 1, 24, [(.p .nil)]⟩ := rfl
theorem tab_40 : tab 40 = some ⟨.func, 1, 8, [.nilfn]⟩ := rfl
theorem tab_41 : tab 41 = some ⟨.int .u64, 1, 8, [(.p (.int .u64 0))]⟩ := rfl
theorem tab_42 : tab 42 = some ⟨.func, 1, 8, [.nilfn]⟩ := rfl
theorem tab_43 : tab 43 = some ⟨.struct [(0, 3), (1, 24)], 2, 32, [(.p (.int .i64 0)), (.p .nil)]⟩ := rfl
theorem tab_44 : tab 44 = some ⟨.struct [(0, 3), (1, 24)], 2, 32, [(.p (.int .i64 0)), (.p .nil)]⟩ := rfl
theorem tab_45 : tab 45 = some ⟨.func, 1, 8, [.nilfn]⟩ := rfl
theorem tab_46 : tab 46 = some ⟨.func, 1, 8, [.nilfn]⟩ := rfl
theorem tab_47 : tab 47 = some ⟨.func, 1, 8, [.nilfn]⟩ := rfl
theorem tab_48 : tab 48 = some ⟨.func, 1, 8, [.nilfn]⟩ := rfl
theorem tab_49 : tab 49 = some ⟨.ptr 52, 1, 8, [.nilp]⟩ := rfl
theorem tab_50 : tab 50 = some ⟨.int .u64, 1, 8, [(.p (.int .u64 0))]⟩ := rfl
theorem tab_51 : tab 51 = some ⟨.struct [(0, 22), (1, 3), (2, 50)], 3, 40, [(.p .nil), (.p (.int .i64 0)), (.p (.int .u64 0))]⟩ := rfl
theorem tab_52 : tab 52 = some ⟨.struct [(0, 22), (1, 3), (2, 50)], 3, 40, [(.p .nil), (.p (.int .i64 0)), (.p (.int .u64 0))]⟩ := rfl
theorem tab_53 : tab 53 = some ⟨.func, 1, 8, [.nilfn]⟩ := rfl
theorem tab_54 : tab 54 = some ⟨.func, 1, 8, [.nilfn]⟩ := rfl
theorem tab_55 : tab 55 = some ⟨.func, 1, 8, [.nilfn]⟩ := rfl
theorem tab_56 : tab 56 = some ⟨.func, 1, 8, [.nilfn]⟩ := rfl
theorem tab_57 : tab 57 = some ⟨.func, 1, 8, [.nilfn]⟩ := rfl
theorem tab_58 : tab 58 = some ⟨.func, 1, 8, [.nilfn]⟩ := rfl
theorem tab_59 : tab 59 = some ⟨.func, 1, 8, [.nilfn]⟩ := rfl
theorem tab_60 : tab 60 = some ⟨.func, 1, 8, [.nilfn]⟩ := rfl
theorem tab_61 : tab 61 = some ⟨.func, 1, 8, [.nilfn]⟩ := rfl
theorem tab_62 : tab 62 = some ⟨.func, 1, 8, [.nilfn]⟩ := rfl
theorem tab_63 : tab 63 = some ⟨.func, 1, 8, [.nilfn]⟩ := rfl
theorem tab_64 : tab 64 = some ⟨.func, 1, 8, [.nilfn]⟩ := rfl
theorem tab_65 : tab 65 = some ⟨.ptr 67, 1, 8, [.nilp]⟩ := rfl
theorem tab_66 : tab 66 = some ⟨.struct [(0, 24), (1, 28), (2, 28), (3, 28), (4, 28), (5, 3)], 6, 128, [(.p .nil), (.p .nil), (.p .nil), (.p .nil), (.p .nil), (.p (.int .i64 0))]⟩ := rfl
theorem tab_67 : tab 67 = some ⟨.struct [(0, 24), (1, 28), (2, 28), (3, 28), (4, 28), (5, 3)], 6, 128, [(.p .nil), (.p .nil), (.p .nil), (.p .nil), (.p .nil), (.p (.int .i64 0))]⟩ := rfl
theorem tab_68 : tab 68 = some ⟨.func, 1, 8, [.nilfn]⟩ := rfl
theorem tab_70 : tab 70 = some ⟨.func, 1, 8, [.nilfn]⟩ := rfl
theorem tab_71 : tab 71 = some ⟨.func, 1, 8, [.nilfn]⟩ := rfl
theorem tab_72 : tab 72 = some ⟨.func, 1, 8, [.nilfn]⟩ := rfl
theorem tab_73 : tab 73 = some ⟨.func, 1, 8, [.nilfn]⟩ := rfl
theorem tab_74 : tab 74 = some ⟨.func, 1, 8, [.nilfn]⟩ := rfl
theorem tab_75 : tab 75 = some ⟨.func, 1, 8, [.nilfn]⟩ := rfl
theorem tab_76 : tab 76 = some ⟨.func, 1, 8, [.nilfn]⟩ := rfl
theorem tab_77 : tab 77 = some ⟨.func, 1, 8, [.nilfn]⟩ := rfl
theorem tab_78 : tab 78 = some ⟨.func, 1, 8, [.nilfn]⟩ := rfl
theorem tab_79 : tab 79 = some ⟨.func, 1, 8, [.nilfn]⟩ := rfl
theorem tab_80 : tab 80 = some ⟨.func, 1, 8, [.nilfn]⟩ := rfl
theorem tab_81 : tab 81 = some ⟨.func, 1, 8, [.nilfn]⟩ := rfl
theorem tab_82 : tab 82 = some ⟨.func, 1, 8, [.nilfn]⟩ := rfl
theorem tab_83 : tab 83 = some ⟨.int .u32, 1, 4, [(.p (.int .u32 0))]⟩ := rfl
theorem tab_85 : tab 85 = some ⟨.func, 1, 8, [.nilfn]⟩ := rfl
theorem tab_87 : tab 87 = some ⟨.func, 1, 8, [.nilfn]⟩ := rfl
theorem tab_88 : tab 88 = some ⟨.func, 1, 8, [.nilfn]⟩ := rfl
theorem tab_89 : tab 89 = some ⟨.ptr 91, 1, 8, [.nilp]⟩ := rfl
theorem tab_90 : tab 90 = some ⟨.struct [(0, 24), (1, 39), (2, 28)], 3, 72, [(.p .nil), (.p .nil), (.p .nil)]⟩ := rfl
theorem tab_91 : tab 91 = some ⟨.struct [(0, 24), (1, 39), (2, 28)], 3, 72, [(.p .nil), (.p .nil), (.p .nil)]⟩ := rfl
theorem tab_92 : tab 92 = some ⟨.func, 1, 8, [.nilfn]⟩ := rfl
theorem tab_93 : tab 93 = some ⟨.func, 1, 8, [.nilfn]⟩ := rfl
theorem tab_94 : tab 94 = some ⟨.func, 1, 8, [.nilfn]⟩ := rfl
theorem tab_95 : tab 95 = some ⟨.int .i64, 1, 8, [(.p (.int .i64 0))]⟩ := rfl
theorem tab_97 : tab 97 = some ⟨.func, 1, 8, [.nilfn]⟩ := rfl
theorem tab_98 : tab 98 = some ⟨.func, 1, 8, [.nilfn]⟩ := rfl
theorem tab_99 : tab 99 = some ⟨.func, 1, 8, [.nilfn]⟩ := rfl
theorem tab_101 : tab 101 = some ⟨.func, 1, 8, [.nilfn]⟩ := rfl
theorem tab_102 : tab 102 = some ⟨.func, 1, 8, [.nilfn]⟩ := rfl
theorem tab_103 : tab 103 = some ⟨.func, 1, 8, [.nilfn]⟩ := rfl
theorem tab_104 : tab 104 = some ⟨.func, 1, 8, [.nilfn]⟩ := rfl
theorem tab_105 : tab 105 = some ⟨.int .u64, 1, 8, [(.p (.int .u64 0))]⟩ := rfl
theorem tab_106 : tab 106 = some ⟨.func, 1, 8, [.nilfn]⟩ := rfl
theorem tab_107 : tab 107 = some ⟨.func, 1, 8, [.nilfn]⟩ := rfl
theorem tab_108 : tab 108 = some ⟨.func, 1, 8, [.nilfn]⟩ := rfl
theorem tab_109 : tab 109 = some ⟨.ptr 3, 1, 8, [.nilp]⟩ := rfl
theorem tab_110 : tab 110 = some ⟨.func, 1, 8, [.nilfn]⟩ := rfl
theorem tab_111 : tab 111 = some ⟨.ptr 105, 1, 8, [.nilp]⟩ := rfl
theorem tab_113 : tab 113 = some ⟨.func, 1, 8, [.nilfn]⟩ := rfl
theorem tab_114 : tab 114 = some ⟨.func, 1, 8, [.nilfn]⟩ := rfl
theorem tab_120 : tab 120 = some ⟨.int .u8, 1, 1, [(.p (.int .u8 0))]⟩ := rfl
theorem tab_121 : tab 121 = some ⟨.int .u8, 1, 1, [(.p (.int .u8 0))]⟩ := rfl
theorem tab_122 : tab 122 = some ⟨.func, 1, 8, [.nilfn]⟩ := rfl
theorem tab_123 : tab 123 = some ⟨.ptr 5, 1, 8, [.nilp]⟩ := rfl
theorem tab_124 : tab 124 = some ⟨.int .i32, 1, 4, [(.p (.int .i32 0))]⟩ := rfl
theorem tab_125 : tab 125 = some ⟨.int .i32, 1, 4, [(.p (.int .i32 0))]⟩ := rfl
set_option maxRecDepth 100000 in
theorem tabs : tab 1 = some ⟨.func, 1, 8, [.nilfn]⟩ ∧ tab 2 = some ⟨.int .i64, 1, 8, [(.p (.int .i64 0))]⟩ ∧ tab 3 = some ⟨.int .i64, 1, 8, [(.p (.int .i64 0))]⟩ ∧ tab 4 = some ⟨.bool, 1, 1, [(.p (.bool false))]⟩ ∧ tab 5 = some ⟨.int .u8, 1, 1, [(.p (.int .u8 0))]⟩ ∧ tab 6 = some ⟨.int .u8, 1, 1, [(.p (.int .u8 0))]⟩ ∧ tab 9 = some ⟨.str, 1, 16, [(.p (.str ⟨#[]⟩))]⟩ ∧ tab 10 = some ⟨.str, 1, 16, [(.p (.str ⟨#[]⟩))]⟩ ∧ tab 11 = some ⟨.str, 1, 16, [(.p (.str ⟨#[]⟩))]⟩ ∧ tab 12 = some ⟨.int .u64, 1, 8, [(.p (.int .u64 0))]⟩ ∧ tab 15 = some ⟨.ptr 116, 1, 8, [.nilp]⟩ ∧ tab 16 = some ⟨.ptr 119, 1, 8, [.nilp]⟩ ∧ tab 17 = some ⟨.ptr 127, 1, 8, [.nilp]⟩ ∧ tab 21 = some ⟨.int .i32, 1, 4, [(.p (.int .i32 0))]⟩ ∧ tab 22 = some ⟨.slice 5, 1, 24, [(.p .nil)]⟩ ∧ tab 23 = some ⟨.func, 1, 8, [.nilfn]⟩ ∧ tab 24 = some ⟨.slice 28, 1, 24, [(.p .nil)]⟩ ∧ tab 25 = some ⟨.struct [(0, 24)], 1, 24, [(.p .nil)]⟩ ∧ tab 26 = some ⟨.struct [(0, 24)], 1, 24, [(.p .nil)]⟩ ∧ tab 27 = some ⟨.func, 1, 8, [.nilfn]⟩ ∧ tab 28 = some ⟨.slice 3, 1, 24, [(.p .nil)]⟩ ∧ tab 30 = some ⟨.func, 1, 8, [.nilfn]⟩ ∧ tab 31 = some ⟨.func, 1, 8, [.nilfn]⟩ ∧ tab 33 = some ⟨.func, 1, 8, [.nilfn]⟩ ∧ tab 35 = some ⟨.func, 1, 8, [.nilfn]⟩ ∧ tab 37 = some ⟨.func, 1, 8, [.nilfn]⟩ ∧ tab 38 = some ⟨.func, 1, 8, [.nilfn]⟩ ∧ tab 39 = some ⟨.slice 4, 1, 24, [(.p .nil)]⟩ ∧ tab 40 = some ⟨.func, 1, 8, [.nilfn]⟩ ∧ tab 41 = some ⟨.int .u64, 1, 8, [(.p (.int .u64 0))]⟩ ∧ tab 42 = some ⟨.func, 1, 8, [.nilfn]⟩ ∧ tab 43 = some ⟨.struct [(0, 3), (1, 24)], 2, 32, [(.p (.int .i64 0)), (.p .nil)]⟩ ∧ tab 44 = some ⟨.struct [(0, 3), (1, 24)], 2, 32, [(.p (.int .i64 0)), (.p .nil)]⟩ ∧ tab 45 = some ⟨.func, 1, 8, [.nilfn]⟩ ∧ tab 46 = some ⟨.func, 1, 8, [.nilfn]⟩ ∧ tab 47 = some ⟨.func, 1, 8, [.nilfn]⟩ ∧ tab 48 = some ⟨.func, 1, 8, [.nilfn]⟩ ∧ tab 49 = some ⟨.ptr 52, 1, 8, [.nilp]⟩ ∧ tab 50 = some ⟨.int .u64, 1, 8, [(.p (.int .u64 0))]⟩ ∧ tab 51 = some ⟨.struct [(0, 22), (1, 3), (2, 50)], 3, 40, [(.p .nil), (.p (.int .i64 0)), (.p (.int .u64 0))]⟩ ∧ tab 52 = some ⟨.struct [(0, 22), (1, 3), (2, 50)], 3, 40, [(.p .nil), (.p (.int .i64 0)), (.p (.int .u64 0))]⟩ ∧ tab 53 = some ⟨.func, 1, 8, [.nilfn]⟩ ∧ tab 54 = some ⟨.func, 1, 8, [.nilfn]⟩ ∧ tab 55 = some ⟨.func, 1, 8, [.nilfn]⟩ ∧ tab 56 = some ⟨.func, 1, 8, [.nilfn]⟩ ∧ tab 57 = some ⟨.func, 1, 8, [.nilfn]⟩ ∧ tab 58 = some ⟨.func, 1, 8, [.nilfn]⟩ ∧ tab 59 = some ⟨.func, 1, 8, [.nilfn]⟩ ∧ tab 60 = some ⟨.func, 1, 8, [.nilfn]⟩ ∧ tab 61 = some ⟨.func, 1, 8, [.nilfn]⟩ ∧ tab 62 = some ⟨.func, 1, 8, [.nilfn]⟩ ∧ tab 63 = some ⟨.func, 1, 8, [.nilfn]⟩ ∧ tab 64 = some ⟨.func, 1, 8, [.nilfn]⟩ ∧ tab 65 = some ⟨.ptr 67, 1, 8, [.nilp]⟩ ∧ tab 66 = some ⟨.struct [(0, 24), (1, 28), (2, 28), (3, 28), (4, 28), (5, 3)], 6, 128, [(.p .nil), (.p .nil), (.p .nil), (.p .nil), (.p .nil), (.p (.int .i64 0))]⟩ ∧ tab 67 = some ⟨.struct [(0, 24), (1, 28), (2, 28), (3, 28), (4, 28), (5, 3)], 6, 128, [(.p .nil), (.p .nil), (.p .nil), (.p .nil), (.p .nil), (.p (.int .i64 0))]⟩ ∧ tab 68 = some ⟨.func, 1, 8, [.nilfn]⟩ ∧ tab 70 = some ⟨.func, 1, 8, [.nilfn]⟩ ∧ tab 71 = some ⟨.func, 1, 8, [.nilfn]⟩ ∧ tab 72 = some ⟨.func, 1, 8, [.nilfn]⟩ ∧ tab 73 = some ⟨.func, 1, 8, [.nilfn]⟩ ∧ tab 74 = some ⟨.func, 1, 8, [.nilfn]⟩ ∧ tab 75 = some ⟨.func, 1, 8, [.nilfn]⟩ ∧ tab 76 = some ⟨.func, 1, 8, [.nilfn]⟩ ∧ tab 77 = some ⟨.func, 1, 8, [.nilfn]⟩ ∧ tab 78 = some ⟨.func, 1, 8, [.nilfn]⟩ ∧ tab 79 = some ⟨.func, 1, 8, [.nilfn]⟩ ∧ tab 80 = some ⟨.func, 1, 8, [.nilfn]⟩ ∧ tab 81 = some ⟨.func, 1, 8, [.nilfn]⟩ ∧ tab 82 = some ⟨.func, 1, 8, [.nilfn]⟩ ∧ tab 83 = some ⟨.int .u32, 1, 4, [(.p (.int .u32 0))]⟩ ∧ tab 85 = some ⟨.func, 1, 8, [.nilfn]⟩ ∧ tab 87 = some ⟨.func, 1, 8, [.nilfn]⟩ ∧ tab 88 = some ⟨.func, 1, 8, [.nilfn]⟩ ∧ tab 89 = some ⟨.ptr 91, 1, 8, [.nilp]⟩ ∧ tab 90 = some ⟨.struct [(0, 24), (1, 39), (2, 28)], 3, 72, [(.p .nil), (.p .nil), (.p .nil)]⟩ ∧ tab 91 = some ⟨.struct [(0, 24), (1, 39), (2, 28)], 3, 72, [(.p .nil), (.p .nil), (.p .nil)]⟩ ∧ tab 92 = some ⟨.func, 1, 8, [.nilfn]⟩ ∧ tab 93 = some ⟨.func, 1, 8, [.nilfn]⟩ ∧ tab 94 = some ⟨.func, 1, 8, [.nilfn]⟩ ∧ tab 95 = some ⟨.int .i64, 1, 8, [(.p (.int .i64 0))]⟩ ∧ tab 97 = some ⟨.func, 1, 8, [.nilfn]⟩ ∧ tab 98 = some ⟨.func, 1, 8, [.nilfn]⟩ ∧ tab 99 = some ⟨.func, 1, 8, [.nilfn]⟩ ∧ tab 101 = some ⟨.func, 1, 8, [.nilfn]⟩ ∧ tab 102 = some ⟨.func, 1, 8, [.nilfn]⟩ ∧ tab 103 = some ⟨.func, 1, 8, [.nilfn]⟩ ∧ tab 104 = some ⟨.func, 1, 8, [.nilfn]⟩ ∧ tab 105 = some ⟨.int .u64, 1, 8, [(.p (.int .u64 0))]⟩ ∧ tab 106 = some ⟨.func, 1, 8, [.nilfn]⟩ ∧ tab 107 = some ⟨.func, 1, 8, [.nilfn]⟩ ∧ tab 108 = some ⟨.func, 1, 8, [.nilfn]⟩ ∧ tab 109 = some ⟨.ptr 3, 1, 8, [.nilp]⟩ ∧ tab 110 = some ⟨.func, 1, 8, [.nilfn]⟩ ∧ tab 111 = some ⟨.ptr 105, 1, 8, [.nilp]⟩ ∧ tab 113 = some ⟨.func, 1, 8, [.nilfn]⟩ ∧ tab 114 = some ⟨.func, 1, 8, [.nilfn]⟩ ∧ tab 120 = some ⟨.int .u8, 1, 1, [(.p (.int .u8 0))]⟩ ∧ tab 121 = some ⟨.int .u8, 1, 1, [(.p (.int .u8 0))]⟩ ∧ tab 122 = some ⟨.func, 1, 8, [.nilfn]⟩ ∧ tab 123 = some ⟨.ptr 5, 1, 8, [.nilp]⟩ ∧ tab 124 = some ⟨.int .i32, 1, 4, [(.p (.int .i32 0))]⟩ ∧ tab 125 = some ⟨.int .i32, 1, 4, [(.p (.int .i32 0))]⟩ := ⟨tab_1, tab_2, tab_3, tab_4, tab_5, tab_6, tab_9, tab_10, tab_11, tab_12, tab_15, tab_16, tab_17, tab_21, tab_22, tab_23, tab_24, tab_25, tab_26, tab_27, tab_28, tab_30, tab_31, tab_33, tab_35, tab_37, tab_38, tab_39, tab_40, tab_41, tab_42, tab_43, tab_44, tab_45, tab_46, tab_47, tab_48, tab_49, tab_50, tab_51, tab_52, tab_53, tab_54, tab_55, tab_56, tab_57, tab_58, tab_59, tab_60, tab_61, tab_62, tab_63, tab_64, tab_65, tab_66, tab_67, tab_68, tab_70, tab_71, tab_72, tab_73, tab_74, tab_75, tab_76, tab_77, tab_78, tab_79, tab_80, tab_81, tab_82, tab_83, tab_85, tab_87, tab_88, tab_89, tab_90, tab_91, tab_92, tab_93, tab_94, tab_95, tab_97, tab_98, tab_99, tab_101, tab_102, tab_103, tab_104, tab_105, tab_106, tab_107, tab_108, tab_109, tab_110, tab_111, tab_113, tab_114, tab_120, tab_121, tab_122, tab_123, tab_124, tab_125⟩
theorem info1 : (Try.prog.info? 1).map (fun i => (i.zero, i.size, i.bytes)) = some (some .nilFunc, 1, 8) := by kernel_rfl
theorem td1_ok : TD.Ok Try.prog 1 td1 := TD.Ok.of ⟨_, _, _, Try.underlying1⟩ info1 rfl rfl (by decide) (fun _ => rfl)
theorem info2 : (Try.prog.info? 2).map (fun i => (i.zero, i.size, i.bytes)) = some (some (.int .i64 0), 1, 8) := by kernel_rfl
theorem td2_ok : TD.Ok Try.prog 2 td2 := TD.Ok.of Try.underlying2 info2 rfl rfl (by decide) (fun _ => rfl)
theorem info3 : (Try.prog.info? 3).map (fun i => (i.zero, i.size, i.bytes)) = some (some (.int .i64 0), 1, 8) := by kernel_rfl
theorem td3_ok : TD.Ok Try.prog 3 td3 := TD.Ok.of Try.underlying3 info3 rfl rfl (by decide) (fun _ => rfl)
theorem info4 : (Try.prog.info? 4).map (fun i => (i.zero, i.size, i.bytes)) = some (some (.bool false), 1, 1) := by kernel_rfl
theorem td4_ok : TD.Ok Try.prog 4 td4 := TD.Ok.of Try.underlying4 info4 rfl rfl (by decide) (fun _ => rfl)
theorem info5 : (Try.prog.info? 5).map (fun i => (i.zero, i.size, i.bytes)) = some (some (.int .u8 0), 1, 1) := by kernel_rfl
theorem td5_ok : TD.Ok Try.prog 5 td5 := TD.Ok.of Try.underlying5 info5 rfl rfl (by decide) (fun _ => rfl)
theorem info6 : (Try.prog.info? 6).map (fun i => (i.zero, i.size, i.bytes)) = some (some (.int .u8 0), 1, 1) := by kernel_rfl
theorem td6_ok : TD.Ok Try.prog 6 td6 := TD.Ok.of Try.underlying6 info6 rfl rfl (by decide) (fun _ => rfl)
theorem info9 : (Try.prog.info? 9).map (fun i => (i.zero, i.size, i.bytes)) = some (some (.string ⟨#[]⟩), 1, 16) := by kernel_rfl
theorem td9_ok : TD.Ok Try.prog 9 td9 := TD.Ok.of Try.underlying9 info9 rfl rfl (by decide) (fun _ => rfl)
theorem info10 : (Try.prog.info? 10).map (fun i => (i.zero, i.size, i.bytes)) = some (some (.string ⟨#[]⟩), 1, 16) := by kernel_rfl
theorem td10_ok : TD.Ok Try.prog 10 td10 := TD.Ok.of Try.underlying10 info10 rfl rfl (by decide) (fun _ => rfl)
theorem info11 : (Try.prog.info? 11).map (fun i => (i.zero, i.size, i.bytes)) = some (some (.string ⟨#[]⟩), 1, 16) := by kernel_rfl
theorem td11_ok : TD.Ok Try.prog 11 td11 := TD.Ok.of Try.underlying11 info11 rfl rfl (by decide) (fun _ => rfl)
theorem info12 : (Try.prog.info? 12).map (fun i => (i.zero, i.size, i.bytes)) = some (some (.int .u64 0), 1, 8) := by kernel_rfl
theorem td12_ok : TD.Ok Try.prog 12 td12 := TD.Ok.of Try.underlying12 info12 rfl rfl (by decide) (fun _ => rfl)
theorem info15 : (Try.prog.info? 15).map (fun i => (i.zero, i.size, i.bytes)) = some (some (.pointer none), 1, 8) := by kernel_rfl
theorem td15_ok : TD.Ok Try.prog 15 td15 := TD.Ok.of Try.underlying15 info15 rfl rfl (by decide) (fun _ => rfl)
theorem info16 : (Try.prog.info? 16).map (fun i => (i.zero, i.size, i.bytes)) = some (some (.pointer none), 1, 8) := by kernel_rfl
theorem td16_ok : TD.Ok Try.prog 16 td16 := TD.Ok.of Try.underlying16 info16 rfl rfl (by decide) (fun _ => rfl)
theorem info17 : (Try.prog.info? 17).map (fun i => (i.zero, i.size, i.bytes)) = some (some (.pointer none), 1, 8) := by kernel_rfl
theorem td17_ok : TD.Ok Try.prog 17 td17 := TD.Ok.of Try.underlying17 info17 rfl rfl (by decide) (fun _ => rfl)
theorem info21 : (Try.prog.info? 21).map (fun i => (i.zero, i.size, i.bytes)) = some (some (.int .i32 0), 1, 4) := by kernel_rfl
theorem td21_ok : TD.Ok Try.prog 21 td21 := TD.Ok.of Try.underlying21 info21 rfl rfl (by decide) (fun _ => rfl)
theorem info22 : (Try.prog.info? 22).map (fun i => (i.zero, i.size, i.bytes)) = some (some (.slice none 0 0), 1, 24) := by kernel_rfl
theorem td22_ok : TD.Ok Try.prog 22 td22 := TD.Ok.of Try.underlying22 info22 rfl rfl (by decide) (fun _ => rfl)
theorem info23 : (Try.prog.info? 23).map (fun i => (i.zero, i.size, i.bytes)) = some (some .nilFunc, 1, 8) := by kernel_rfl
theorem td23_ok : TD.Ok Try.prog 23 td23 := TD.Ok.of ⟨_, _, _, Try.underlying23⟩ info23 rfl rfl (by decide) (fun _ => rfl)
theorem info24 : (Try.prog.info? 24).map (fun i => (i.zero, i.size, i.bytes)) = some (some (.slice none 0 0), 1, 24) := by kernel_rfl
theorem td24_ok : TD.Ok Try.prog 24 td24 := TD.Ok.of Try.underlying24 info24 rfl rfl (by decide) (fun _ => rfl)
theorem info25 : (Try.prog.info? 25).map (fun i => (i.zero, i.size, i.bytes)) = some (some (.agg #[(.slice none 0 0)]), 1, 24) := by kernel_rfl
theorem td25_ok : TD.Ok Try.prog 25 td25 := TD.Ok.of ⟨_, Try.underlying25, rfl, Try.stoodInHeld25, Try.eqGuardType25, by decide⟩ info25 rfl rfl (by decide) (fun h => by cases h)
theorem info26 : (Try.prog.info? 26).map (fun i => (i.zero, i.size, i.bytes)) = some (some (.agg #[(.slice none 0 0)]), 1, 24) := by kernel_rfl
theorem td26_ok : TD.Ok Try.prog 26 td26 := TD.Ok.of ⟨_, Try.underlying26, rfl, Try.stoodInHeld26, Try.eqGuardType26, by decide⟩ info26 rfl rfl (by decide) (fun h => by cases h)
theorem info27 : (Try.prog.info? 27).map (fun i => (i.zero, i.size, i.bytes)) = some (some .nilFunc, 1, 8) := by kernel_rfl
theorem td27_ok : TD.Ok Try.prog 27 td27 := TD.Ok.of ⟨_, _, _, Try.underlying27⟩ info27 rfl rfl (by decide) (fun _ => rfl)
theorem info28 : (Try.prog.info? 28).map (fun i => (i.zero, i.size, i.bytes)) = some (some (.slice none 0 0), 1, 24) := by kernel_rfl
theorem td28_ok : TD.Ok Try.prog 28 td28 := TD.Ok.of Try.underlying28 info28 rfl rfl (by decide) (fun _ => rfl)
theorem info30 : (Try.prog.info? 30).map (fun i => (i.zero, i.size, i.bytes)) = some (some .nilFunc, 1, 8) := by kernel_rfl
theorem td30_ok : TD.Ok Try.prog 30 td30 := TD.Ok.of ⟨_, _, _, Try.underlying30⟩ info30 rfl rfl (by decide) (fun _ => rfl)
theorem info31 : (Try.prog.info? 31).map (fun i => (i.zero, i.size, i.bytes)) = some (some .nilFunc, 1, 8) := by kernel_rfl
theorem td31_ok : TD.Ok Try.prog 31 td31 := TD.Ok.of ⟨_, _, _, Try.underlying31⟩ info31 rfl rfl (by decide) (fun _ => rfl)
theorem info33 : (Try.prog.info? 33).map (fun i => (i.zero, i.size, i.bytes)) = some (some .nilFunc, 1, 8) := by kernel_rfl
theorem td33_ok : TD.Ok Try.prog 33 td33 := TD.Ok.of ⟨_, _, _, Try.underlying33⟩ info33 rfl rfl (by decide) (fun _ => rfl)
theorem info35 : (Try.prog.info? 35).map (fun i => (i.zero, i.size, i.bytes)) = some (some .nilFunc, 1, 8) := by kernel_rfl
theorem td35_ok : TD.Ok Try.prog 35 td35 := TD.Ok.of ⟨_, _, _, Try.underlying35⟩ info35 rfl rfl (by decide) (fun _ => rfl)
theorem info37 : (Try.prog.info? 37).map (fun i => (i.zero, i.size, i.bytes)) = some (some .nilFunc, 1, 8) := by kernel_rfl
theorem td37_ok : TD.Ok Try.prog 37 td37 := TD.Ok.of ⟨_, _, _, Try.underlying37⟩ info37 rfl rfl (by decide) (fun _ => rfl)
theorem info38 : (Try.prog.info? 38).map (fun i => (i.zero, i.size, i.bytes)) = some (some .nilFunc, 1, 8) := by kernel_rfl
theorem td38_ok : TD.Ok Try.prog 38 td38 := TD.Ok.of ⟨_, _, _, Try.underlying38⟩ info38 rfl rfl (by decide) (fun _ => rfl)
theorem info39 : (Try.prog.info? 39).map (fun i => (i.zero, i.size, i.bytes)) = some (some (.slice none 0 0), 1, 24) := by kernel_rfl
theorem td39_ok : TD.Ok Try.prog 39 td39 := TD.Ok.of Try.underlying39 info39 rfl rfl (by decide) (fun _ => rfl)
theorem info40 : (Try.prog.info? 40).map (fun i => (i.zero, i.size, i.bytes)) = some (some .nilFunc, 1, 8) := by kernel_rfl
theorem td40_ok : TD.Ok Try.prog 40 td40 := TD.Ok.of ⟨_, _, _, Try.underlying40⟩ info40 rfl rfl (by decide) (fun _ => rfl)
theorem info41 : (Try.prog.info? 41).map (fun i => (i.zero, i.size, i.bytes)) = some (some (.int .u64 0), 1, 8) := by kernel_rfl
theorem td41_ok : TD.Ok Try.prog 41 td41 := TD.Ok.of Try.underlying41 info41 rfl rfl (by decide) (fun _ => rfl)
theorem info42 : (Try.prog.info? 42).map (fun i => (i.zero, i.size, i.bytes)) = some (some .nilFunc, 1, 8) := by kernel_rfl
theorem td42_ok : TD.Ok Try.prog 42 td42 := TD.Ok.of ⟨_, _, _, Try.underlying42⟩ info42 rfl rfl (by decide) (fun _ => rfl)
theorem info43 : (Try.prog.info? 43).map (fun i => (i.zero, i.size, i.bytes)) = some (some (.agg #[(.int .i64 0), (.slice none 0 0)]), 2, 32) := by kernel_rfl
theorem td43_ok : TD.Ok Try.prog 43 td43 := TD.Ok.of ⟨_, Try.underlying43, rfl, Try.stoodInHeld43, Try.eqGuardType43, by decide⟩ info43 rfl rfl (by decide) (fun h => by cases h)
theorem info44 : (Try.prog.info? 44).map (fun i => (i.zero, i.size, i.bytes)) = some (some (.agg #[(.int .i64 0), (.slice none 0 0)]), 2, 32) := by kernel_rfl
theorem td44_ok : TD.Ok Try.prog 44 td44 := TD.Ok.of ⟨_, Try.underlying44, rfl, Try.stoodInHeld44, Try.eqGuardType44, by decide⟩ info44 rfl rfl (by decide) (fun h => by cases h)
theorem info45 : (Try.prog.info? 45).map (fun i => (i.zero, i.size, i.bytes)) = some (some .nilFunc, 1, 8) := by kernel_rfl
theorem td45_ok : TD.Ok Try.prog 45 td45 := TD.Ok.of ⟨_, _, _, Try.underlying45⟩ info45 rfl rfl (by decide) (fun _ => rfl)
theorem info46 : (Try.prog.info? 46).map (fun i => (i.zero, i.size, i.bytes)) = some (some .nilFunc, 1, 8) := by kernel_rfl
theorem td46_ok : TD.Ok Try.prog 46 td46 := TD.Ok.of ⟨_, _, _, Try.underlying46⟩ info46 rfl rfl (by decide) (fun _ => rfl)
theorem info47 : (Try.prog.info? 47).map (fun i => (i.zero, i.size, i.bytes)) = some (some .nilFunc, 1, 8) := by kernel_rfl
theorem td47_ok : TD.Ok Try.prog 47 td47 := TD.Ok.of ⟨_, _, _, Try.underlying47⟩ info47 rfl rfl (by decide) (fun _ => rfl)
theorem info48 : (Try.prog.info? 48).map (fun i => (i.zero, i.size, i.bytes)) = some (some .nilFunc, 1, 8) := by kernel_rfl
theorem td48_ok : TD.Ok Try.prog 48 td48 := TD.Ok.of ⟨_, _, _, Try.underlying48⟩ info48 rfl rfl (by decide) (fun _ => rfl)
theorem info49 : (Try.prog.info? 49).map (fun i => (i.zero, i.size, i.bytes)) = some (some (.pointer none), 1, 8) := by kernel_rfl
theorem td49_ok : TD.Ok Try.prog 49 td49 := TD.Ok.of Try.underlying49 info49 rfl rfl (by decide) (fun _ => rfl)
theorem info50 : (Try.prog.info? 50).map (fun i => (i.zero, i.size, i.bytes)) = some (some (.int .u64 0), 1, 8) := by kernel_rfl
theorem td50_ok : TD.Ok Try.prog 50 td50 := TD.Ok.of Try.underlying50 info50 rfl rfl (by decide) (fun _ => rfl)
theorem info51 : (Try.prog.info? 51).map (fun i => (i.zero, i.size, i.bytes)) = some (some (.agg #[(.slice none 0 0), (.int .i64 0), (.int .u64 0)]), 3, 40) := by kernel_rfl
theorem td51_ok : TD.Ok Try.prog 51 td51 := TD.Ok.of ⟨_, Try.underlying51, rfl, Try.stoodInHeld51, Try.eqGuardType51, by decide⟩ info51 rfl rfl (by decide) (fun h => by cases h)
theorem info52 : (Try.prog.info? 52).map (fun i => (i.zero, i.size, i.bytes)) = some (some (.agg #[(.slice none 0 0), (.int .i64 0), (.int .u64 0)]), 3, 40) := by kernel_rfl
theorem td52_ok : TD.Ok Try.prog 52 td52 := TD.Ok.of ⟨_, Try.underlying52, rfl, Try.stoodInHeld52, Try.eqGuardType52, by decide⟩ info52 rfl rfl (by decide) (fun h => by cases h)
theorem info53 : (Try.prog.info? 53).map (fun i => (i.zero, i.size, i.bytes)) = some (some .nilFunc, 1, 8) := by kernel_rfl
theorem td53_ok : TD.Ok Try.prog 53 td53 := TD.Ok.of ⟨_, _, _, Try.underlying53⟩ info53 rfl rfl (by decide) (fun _ => rfl)
theorem info54 : (Try.prog.info? 54).map (fun i => (i.zero, i.size, i.bytes)) = some (some .nilFunc, 1, 8) := by kernel_rfl
theorem td54_ok : TD.Ok Try.prog 54 td54 := TD.Ok.of ⟨_, _, _, Try.underlying54⟩ info54 rfl rfl (by decide) (fun _ => rfl)
theorem info55 : (Try.prog.info? 55).map (fun i => (i.zero, i.size, i.bytes)) = some (some .nilFunc, 1, 8) := by kernel_rfl
theorem td55_ok : TD.Ok Try.prog 55 td55 := TD.Ok.of ⟨_, _, _, Try.underlying55⟩ info55 rfl rfl (by decide) (fun _ => rfl)
theorem info56 : (Try.prog.info? 56).map (fun i => (i.zero, i.size, i.bytes)) = some (some .nilFunc, 1, 8) := by kernel_rfl
theorem td56_ok : TD.Ok Try.prog 56 td56 := TD.Ok.of ⟨_, _, _, Try.underlying56⟩ info56 rfl rfl (by decide) (fun _ => rfl)
theorem info57 : (Try.prog.info? 57).map (fun i => (i.zero, i.size, i.bytes)) = some (some .nilFunc, 1, 8) := by kernel_rfl
theorem td57_ok : TD.Ok Try.prog 57 td57 := TD.Ok.of ⟨_, _, _, Try.underlying57⟩ info57 rfl rfl (by decide) (fun _ => rfl)
theorem info58 : (Try.prog.info? 58).map (fun i => (i.zero, i.size, i.bytes)) = some (some .nilFunc, 1, 8) := by kernel_rfl
theorem td58_ok : TD.Ok Try.prog 58 td58 := TD.Ok.of ⟨_, _, _, Try.underlying58⟩ info58 rfl rfl (by decide) (fun _ => rfl)
theorem info59 : (Try.prog.info? 59).map (fun i => (i.zero, i.size, i.bytes)) = some (some .nilFunc, 1, 8) := by kernel_rfl
theorem td59_ok : TD.Ok Try.prog 59 td59 := TD.Ok.of ⟨_, _, _, Try.underlying59⟩ info59 rfl rfl (by decide) (fun _ => rfl)
theorem info60 : (Try.prog.info? 60).map (fun i => (i.zero, i.size, i.bytes)) = some (some .nilFunc, 1, 8) := by kernel_rfl
theorem td60_ok : TD.Ok Try.prog 60 td60 := TD.Ok.of ⟨_, _, _, Try.underlying60⟩ info60 rfl rfl (by decide) (fun _ => rfl)
theorem info61 : (Try.prog.info? 61).map (fun i => (i.zero, i.size, i.bytes)) = some (some .nilFunc, 1, 8) := by kernel_rfl
theorem td61_ok : TD.Ok Try.prog 61 td61 := TD.Ok.of ⟨_, _, _, Try.underlying61⟩ info61 rfl rfl (by decide) (fun _ => rfl)
theorem info62 : (Try.prog.info? 62).map (fun i => (i.zero, i.size, i.bytes)) = some (some .nilFunc, 1, 8) := by kernel_rfl
theorem td62_ok : TD.Ok Try.prog 62 td62 := TD.Ok.of ⟨_, _, _, Try.underlying62⟩ info62 rfl rfl (by decide) (fun _ => rfl)
theorem info63 : (Try.prog.info? 63).map (fun i => (i.zero, i.size, i.bytes)) = some (some .nilFunc, 1, 8) := by kernel_rfl
theorem td63_ok : TD.Ok Try.prog 63 td63 := TD.Ok.of ⟨_, _, _, Try.underlying63⟩ info63 rfl rfl (by decide) (fun _ => rfl)
theorem info64 : (Try.prog.info? 64).map (fun i => (i.zero, i.size, i.bytes)) = some (some .nilFunc, 1, 8) := by kernel_rfl
theorem td64_ok : TD.Ok Try.prog 64 td64 := TD.Ok.of ⟨_, _, _, Try.underlying64⟩ info64 rfl rfl (by decide) (fun _ => rfl)
theorem info65 : (Try.prog.info? 65).map (fun i => (i.zero, i.size, i.bytes)) = some (some (.pointer none), 1, 8) := by kernel_rfl
theorem td65_ok : TD.Ok Try.prog 65 td65 := TD.Ok.of Try.underlying65 info65 rfl rfl (by decide) (fun _ => rfl)
theorem info66 : (Try.prog.info? 66).map (fun i => (i.zero, i.size, i.bytes)) = some (some (.agg #[(.slice none 0 0), (.slice none 0 0), (.slice none 0 0), (.slice none 0 0), (.slice none 0 0), (.int .i64 0)]), 6, 128) := by kernel_rfl
theorem td66_ok : TD.Ok Try.prog 66 td66 := TD.Ok.of ⟨_, Try.underlying66, rfl, Try.stoodInHeld66, Try.eqGuardType66, by decide⟩ info66 rfl rfl (by decide) (fun h => by cases h)
theorem info67 : (Try.prog.info? 67).map (fun i => (i.zero, i.size, i.bytes)) = some (some (.agg #[(.slice none 0 0), (.slice none 0 0), (.slice none 0 0), (.slice none 0 0), (.slice none 0 0), (.int .i64 0)]), 6, 128) := by kernel_rfl
theorem td67_ok : TD.Ok Try.prog 67 td67 := TD.Ok.of ⟨_, Try.underlying67, rfl, Try.stoodInHeld67, Try.eqGuardType67, by decide⟩ info67 rfl rfl (by decide) (fun h => by cases h)
theorem info68 : (Try.prog.info? 68).map (fun i => (i.zero, i.size, i.bytes)) = some (some .nilFunc, 1, 8) := by kernel_rfl
theorem td68_ok : TD.Ok Try.prog 68 td68 := TD.Ok.of ⟨_, _, _, Try.underlying68⟩ info68 rfl rfl (by decide) (fun _ => rfl)
theorem info70 : (Try.prog.info? 70).map (fun i => (i.zero, i.size, i.bytes)) = some (some .nilFunc, 1, 8) := by kernel_rfl
theorem td70_ok : TD.Ok Try.prog 70 td70 := TD.Ok.of ⟨_, _, _, Try.underlying70⟩ info70 rfl rfl (by decide) (fun _ => rfl)
theorem info71 : (Try.prog.info? 71).map (fun i => (i.zero, i.size, i.bytes)) = some (some .nilFunc, 1, 8) := by kernel_rfl
theorem td71_ok : TD.Ok Try.prog 71 td71 := TD.Ok.of ⟨_, _, _, Try.underlying71⟩ info71 rfl rfl (by decide) (fun _ => rfl)
theorem info72 : (Try.prog.info? 72).map (fun i => (i.zero, i.size, i.bytes)) = some (some .nilFunc, 1, 8) := by kernel_rfl
theorem td72_ok : TD.Ok Try.prog 72 td72 := TD.Ok.of ⟨_, _, _, Try.underlying72⟩ info72 rfl rfl (by decide) (fun _ => rfl)
theorem info73 : (Try.prog.info? 73).map (fun i => (i.zero, i.size, i.bytes)) = some (some .nilFunc, 1, 8) := by kernel_rfl
theorem td73_ok : TD.Ok Try.prog 73 td73 := TD.Ok.of ⟨_, _, _, Try.underlying73⟩ info73 rfl rfl (by decide) (fun _ => rfl)
theorem info74 : (Try.prog.info? 74).map (fun i => (i.zero, i.size, i.bytes)) = some (some .nilFunc, 1, 8) := by kernel_rfl
theorem td74_ok : TD.Ok Try.prog 74 td74 := TD.Ok.of ⟨_, _, _, Try.underlying74⟩ info74 rfl rfl (by decide) (fun _ => rfl)
theorem info75 : (Try.prog.info? 75).map (fun i => (i.zero, i.size, i.bytes)) = some (some .nilFunc, 1, 8) := by kernel_rfl
theorem td75_ok : TD.Ok Try.prog 75 td75 := TD.Ok.of ⟨_, _, _, Try.underlying75⟩ info75 rfl rfl (by decide) (fun _ => rfl)
theorem info76 : (Try.prog.info? 76).map (fun i => (i.zero, i.size, i.bytes)) = some (some .nilFunc, 1, 8) := by kernel_rfl
theorem td76_ok : TD.Ok Try.prog 76 td76 := TD.Ok.of ⟨_, _, _, Try.underlying76⟩ info76 rfl rfl (by decide) (fun _ => rfl)
theorem info77 : (Try.prog.info? 77).map (fun i => (i.zero, i.size, i.bytes)) = some (some .nilFunc, 1, 8) := by kernel_rfl
theorem td77_ok : TD.Ok Try.prog 77 td77 := TD.Ok.of ⟨_, _, _, Try.underlying77⟩ info77 rfl rfl (by decide) (fun _ => rfl)
theorem info78 : (Try.prog.info? 78).map (fun i => (i.zero, i.size, i.bytes)) = some (some .nilFunc, 1, 8) := by kernel_rfl
theorem td78_ok : TD.Ok Try.prog 78 td78 := TD.Ok.of ⟨_, _, _, Try.underlying78⟩ info78 rfl rfl (by decide) (fun _ => rfl)
theorem info79 : (Try.prog.info? 79).map (fun i => (i.zero, i.size, i.bytes)) = some (some .nilFunc, 1, 8) := by kernel_rfl
theorem td79_ok : TD.Ok Try.prog 79 td79 := TD.Ok.of ⟨_, _, _, Try.underlying79⟩ info79 rfl rfl (by decide) (fun _ => rfl)
theorem info80 : (Try.prog.info? 80).map (fun i => (i.zero, i.size, i.bytes)) = some (some .nilFunc, 1, 8) := by kernel_rfl
theorem td80_ok : TD.Ok Try.prog 80 td80 := TD.Ok.of ⟨_, _, _, Try.underlying80⟩ info80 rfl rfl (by decide) (fun _ => rfl)
theorem info81 : (Try.prog.info? 81).map (fun i => (i.zero, i.size, i.bytes)) = some (some .nilFunc, 1, 8) := by kernel_rfl
theorem td81_ok : TD.Ok Try.prog 81 td81 := TD.Ok.of ⟨_, _, _, Try.underlying81⟩ info81 rfl rfl (by decide) (fun _ => rfl)
theorem info82 : (Try.prog.info? 82).map (fun i => (i.zero, i.size, i.bytes)) = some (some .nilFunc, 1, 8) := by kernel_rfl
theorem td82_ok : TD.Ok Try.prog 82 td82 := TD.Ok.of ⟨_, _, _, Try.underlying82⟩ info82 rfl rfl (by decide) (fun _ => rfl)
theorem info83 : (Try.prog.info? 83).map (fun i => (i.zero, i.size, i.bytes)) = some (some (.int .u32 0), 1, 4) := by kernel_rfl
theorem td83_ok : TD.Ok Try.prog 83 td83 := TD.Ok.of Try.underlying83 info83 rfl rfl (by decide) (fun _ => rfl)
theorem info85 : (Try.prog.info? 85).map (fun i => (i.zero, i.size, i.bytes)) = some (some .nilFunc, 1, 8) := by kernel_rfl
theorem td85_ok : TD.Ok Try.prog 85 td85 := TD.Ok.of ⟨_, _, _, Try.underlying85⟩ info85 rfl rfl (by decide) (fun _ => rfl)
theorem info87 : (Try.prog.info? 87).map (fun i => (i.zero, i.size, i.bytes)) = some (some .nilFunc, 1, 8) := by kernel_rfl
theorem td87_ok : TD.Ok Try.prog 87 td87 := TD.Ok.of ⟨_, _, _, Try.underlying87⟩ info87 rfl rfl (by decide) (fun _ => rfl)
theorem info88 : (Try.prog.info? 88).map (fun i => (i.zero, i.size, i.bytes)) = some (some .nilFunc, 1, 8) := by kernel_rfl
theorem td88_ok : TD.Ok Try.prog 88 td88 := TD.Ok.of ⟨_, _, _, Try.underlying88⟩ info88 rfl rfl (by decide) (fun _ => rfl)
theorem info89 : (Try.prog.info? 89).map (fun i => (i.zero, i.size, i.bytes)) = some (some (.pointer none), 1, 8) := by kernel_rfl
theorem td89_ok : TD.Ok Try.prog 89 td89 := TD.Ok.of Try.underlying89 info89 rfl rfl (by decide) (fun _ => rfl)
theorem info90 : (Try.prog.info? 90).map (fun i => (i.zero, i.size, i.bytes)) = some (some (.agg #[(.slice none 0 0), (.slice none 0 0), (.slice none 0 0)]), 3, 72) := by kernel_rfl
theorem td90_ok : TD.Ok Try.prog 90 td90 := TD.Ok.of ⟨_, Try.underlying90, rfl, Try.stoodInHeld90, Try.eqGuardType90, by decide⟩ info90 rfl rfl (by decide) (fun h => by cases h)
theorem info91 : (Try.prog.info? 91).map (fun i => (i.zero, i.size, i.bytes)) = some (some (.agg #[(.slice none 0 0), (.slice none 0 0), (.slice none 0 0)]), 3, 72) := by kernel_rfl
theorem td91_ok : TD.Ok Try.prog 91 td91 := TD.Ok.of ⟨_, Try.underlying91, rfl, Try.stoodInHeld91, Try.eqGuardType91, by decide⟩ info91 rfl rfl (by decide) (fun h => by cases h)
theorem info92 : (Try.prog.info? 92).map (fun i => (i.zero, i.size, i.bytes)) = some (some .nilFunc, 1, 8) := by kernel_rfl
theorem td92_ok : TD.Ok Try.prog 92 td92 := TD.Ok.of ⟨_, _, _, Try.underlying92⟩ info92 rfl rfl (by decide) (fun _ => rfl)
theorem info93 : (Try.prog.info? 93).map (fun i => (i.zero, i.size, i.bytes)) = some (some .nilFunc, 1, 8) := by kernel_rfl
theorem td93_ok : TD.Ok Try.prog 93 td93 := TD.Ok.of ⟨_, _, _, Try.underlying93⟩ info93 rfl rfl (by decide) (fun _ => rfl)
theorem info94 : (Try.prog.info? 94).map (fun i => (i.zero, i.size, i.bytes)) = some (some .nilFunc, 1, 8) := by kernel_rfl
theorem td94_ok : TD.Ok Try.prog 94 td94 := TD.Ok.of ⟨_, _, _, Try.underlying94⟩ info94 rfl rfl (by decide) (fun _ => rfl)
theorem info95 : (Try.prog.info? 95).map (fun i => (i.zero, i.size, i.bytes)) = some (some (.int .i64 0), 1, 8) := by kernel_rfl
theorem td95_ok : TD.Ok Try.prog 95 td95 := TD.Ok.of Try.underlying95 info95 rfl rfl (by decide) (fun _ => rfl)
theorem info97 : (Try.prog.info? 97).map (fun i => (i.zero, i.size, i.bytes)) = some (some .nilFunc, 1, 8) := by kernel_rfl
theorem td97_ok : TD.Ok Try.prog 97 td97 := TD.Ok.of ⟨_, _, _, Try.underlying97⟩ info97 rfl rfl (by decide) (fun _ => rfl)
theorem info98 : (Try.prog.info? 98).map (fun i => (i.zero, i.size, i.bytes)) = some (some .nilFunc, 1, 8) := by kernel_rfl
theorem td98_ok : TD.Ok Try.prog 98 td98 := TD.Ok.of ⟨_, _, _, Try.underlying98⟩ info98 rfl rfl (by decide) (fun _ => rfl)
theorem info99 : (Try.prog.info? 99).map (fun i => (i.zero, i.size, i.bytes)) = some (some .nilFunc, 1, 8) := by kernel_rfl
theorem td99_ok : TD.Ok Try.prog 99 td99 := TD.Ok.of ⟨_, _, _, Try.underlying99⟩ info99 rfl rfl (by decide) (fun _ => rfl)
theorem info101 : (Try.prog.info? 101).map (fun i => (i.zero, i.size, i.bytes)) = some (some .nilFunc, 1, 8) := by kernel_rfl
theorem td101_ok : TD.Ok Try.prog 101 td101 := TD.Ok.of ⟨_, _, _, Try.underlying101⟩ info101 rfl rfl (by decide) (fun _ => rfl)
theorem info102 : (Try.prog.info? 102).map (fun i => (i.zero, i.size, i.bytes)) = some (some .nilFunc, 1, 8) := by kernel_rfl
theorem td102_ok : TD.Ok Try.prog 102 td102 := TD.Ok.of ⟨_, _, _, Try.underlying102⟩ info102 rfl rfl (by decide) (fun _ => rfl)
theorem info103 : (Try.prog.info? 103).map (fun i => (i.zero, i.size, i.bytes)) = some (some .nilFunc, 1, 8) := by kernel_rfl
theorem td103_ok : TD.Ok Try.prog 103 td103 := TD.Ok.of ⟨_, _, _, Try.underlying103⟩ info103 rfl rfl (by decide) (fun _ => rfl)
theorem info104 : (Try.prog.info? 104).map (fun i => (i.zero, i.size, i.bytes)) = some (some .nilFunc, 1, 8) := by kernel_rfl
theorem td104_ok : TD.Ok Try.prog 104 td104 := TD.Ok.of ⟨_, _, _, Try.underlying104⟩ info104 rfl rfl (by decide) (fun _ => rfl)
theorem info105 : (Try.prog.info? 105).map (fun i => (i.zero, i.size, i.bytes)) = some (some (.int .u64 0), 1, 8) := by kernel_rfl
theorem td105_ok : TD.Ok Try.prog 105 td105 := TD.Ok.of Try.underlying105 info105 rfl rfl (by decide) (fun _ => rfl)
theorem info106 : (Try.prog.info? 106).map (fun i => (i.zero, i.size, i.bytes)) = some (some .nilFunc, 1, 8) := by kernel_rfl
theorem td106_ok : TD.Ok Try.prog 106 td106 := TD.Ok.of ⟨_, _, _, Try.underlying106⟩ info106 rfl rfl (by decide) (fun _ => rfl)
theorem info107 : (Try.prog.info? 107).map (fun i => (i.zero, i.size, i.bytes)) = some (some .nilFunc, 1, 8) := by kernel_rfl
theorem td107_ok : TD.Ok Try.prog 107 td107 := TD.Ok.of ⟨_, _, _, Try.underlying107⟩ info107 rfl rfl (by decide) (fun _ => rfl)
theorem info108 : (Try.prog.info? 108).map (fun i => (i.zero, i.size, i.bytes)) = some (some .nilFunc, 1, 8) := by kernel_rfl
theorem td108_ok : TD.Ok Try.prog 108 td108 := TD.Ok.of ⟨_, _, _, Try.underlying108⟩ info108 rfl rfl (by decide) (fun _ => rfl)
theorem info109 : (Try.prog.info? 109).map (fun i => (i.zero, i.size, i.bytes)) = some (some (.pointer none), 1, 8) := by kernel_rfl
theorem td109_ok : TD.Ok Try.prog 109 td109 := TD.Ok.of Try.underlying109 info109 rfl rfl (by decide) (fun _ => rfl)
theorem info110 : (Try.prog.info? 110).map (fun i => (i.zero, i.size, i.bytes)) = some (some .nilFunc, 1, 8) := by kernel_rfl
theorem td110_ok : TD.Ok Try.prog 110 td110 := TD.Ok.of ⟨_, _, _, Try.underlying110⟩ info110 rfl rfl (by decide) (fun _ => rfl)
theorem info111 : (Try.prog.info? 111).map (fun i => (i.zero, i.size, i.bytes)) = some (some (.pointer none), 1, 8) := by kernel_rfl
theorem td111_ok : TD.Ok Try.prog 111 td111 := TD.Ok.of Try.underlying111 info111 rfl rfl (by decide) (fun _ => rfl)
theorem info113 : (Try.prog.info? 113).map (fun i => (i.zero, i.size, i.bytes)) = some (some .nilFunc, 1, 8) := by kernel_rfl
theorem td113_ok : TD.Ok Try.prog 113 td113 := TD.Ok.of ⟨_, _, _, Try.underlying113⟩ info113 rfl rfl (by decide) (fun _ => rfl)
theorem info114 : (Try.prog.info? 114).map (fun i => (i.zero, i.size, i.bytes)) = some (some .nilFunc, 1, 8) := by kernel_rfl
theorem td114_ok : TD.Ok Try.prog 114 td114 := TD.Ok.of ⟨_, _, _, Try.underlying114⟩ info114 rfl rfl (by decide) (fun _ => rfl)
theorem info120 : (Try.prog.info? 120).map (fun i => (i.zero, i.size, i.bytes)) = some (some (.int .u8 0), 1, 1) := by kernel_rfl
theorem td120_ok : TD.Ok Try.prog 120 td120 := TD.Ok.of Try.underlying120 info120 rfl rfl (by decide) (fun _ => rfl)
theorem info121 : (Try.prog.info? 121).map (fun i => (i.zero, i.size, i.bytes)) = some (some (.int .u8 0), 1, 1) := by kernel_rfl
theorem td121_ok : TD.Ok Try.prog 121 td121 := TD.Ok.of Try.underlying121 info121 rfl rfl (by decide) (fun _ => rfl)
theorem info122 : (Try.prog.info? 122).map (fun i => (i.zero, i.size, i.bytes)) = some (some .nilFunc, 1, 8) := by kernel_rfl
theorem td122_ok : TD.Ok Try.prog 122 td122 := TD.Ok.of ⟨_, _, _, Try.underlying122⟩ info122 rfl rfl (by decide) (fun _ => rfl)
theorem info123 : (Try.prog.info? 123).map (fun i => (i.zero, i.size, i.bytes)) = some (some (.pointer none), 1, 8) := by kernel_rfl
theorem td123_ok : TD.Ok Try.prog 123 td123 := TD.Ok.of Try.underlying123 info123 rfl rfl (by decide) (fun _ => rfl)
theorem info124 : (Try.prog.info? 124).map (fun i => (i.zero, i.size, i.bytes)) = some (some (.int .i32 0), 1, 4) := by kernel_rfl
theorem td124_ok : TD.Ok Try.prog 124 td124 := TD.Ok.of Try.underlying124 info124 rfl rfl (by decide) (fun _ => rfl)
theorem info125 : (Try.prog.info? 125).map (fun i => (i.zero, i.size, i.bytes)) = some (some (.int .i32 0), 1, 4) := by kernel_rfl
theorem td125_ok : TD.Ok Try.prog 125 td125 := TD.Ok.of Try.underlying125 info125 rfl rfl (by decide) (fun _ => rfl)
set_option maxRecDepth 100000 in
theorem tabL_ok : ∀ p ∈ tabL, TD.Ok Try.prog p.1 p.2 :=
  (ν7.2 ⟨td1_ok, (ν7.2 ⟨td2_ok, (ν7.2 ⟨td3_ok, (ν7.2 ⟨td4_ok, (ν7.2 ⟨td5_ok, (ν7.2 ⟨td6_ok, (ν7.2 ⟨td9_ok, (ν7.2 ⟨td10_ok, (ν7.2 ⟨td11_ok, (ν7.2 ⟨td12_ok, (ν7.2 ⟨td15_ok, (ν7.2 ⟨td16_ok, (ν7.2 ⟨td17_ok, (ν7.2 ⟨td21_ok, (ν7.2 ⟨td22_ok, (ν7.2 ⟨td23_ok, (ν7.2 ⟨td24_ok, (ν7.2 ⟨td25_ok, (ν7.2 ⟨td26_ok, (ν7.2 ⟨td27_ok, (ν7.2 ⟨td28_ok, (ν7.2 ⟨td30_ok, (ν7.2 ⟨td31_ok, (ν7.2 ⟨td33_ok, (ν7.2 ⟨td35_ok, (ν7.2 ⟨td37_ok, (ν7.2 ⟨td38_ok, (ν7.2 ⟨td39_ok, (ν7.2 ⟨td40_ok, (ν7.2 ⟨td41_ok, (ν7.2 ⟨td42_ok, (ν7.2 ⟨td43_ok, (ν7.2 ⟨td44_ok, (ν7.2 ⟨td45_ok, (ν7.2 ⟨td46_ok, (ν7.2 ⟨td47_ok, (ν7.2 ⟨td48_ok, (ν7.2 ⟨td49_ok, (ν7.2 ⟨td50_ok, (ν7.2 ⟨td51_ok, (ν7.2 ⟨td52_ok, (ν7.2 ⟨td53_ok, (ν7.2 ⟨td54_ok, (ν7.2 ⟨td55_ok, (ν7.2 ⟨td56_ok, (ν7.2 ⟨td57_ok, (ν7.2 ⟨td58_ok, (ν7.2 ⟨td59_ok, (ν7.2 ⟨td60_ok, (ν7.2 ⟨td61_ok, (ν7.2 ⟨td62_ok, (ν7.2 ⟨td63_ok, (ν7.2 ⟨td64_ok, (ν7.2 ⟨td65_ok, (ν7.2 ⟨td66_ok, (ν7.2 ⟨td67_ok, (ν7.2 ⟨td68_ok, (ν7.2 ⟨td70_ok, (ν7.2 ⟨td71_ok, (ν7.2 ⟨td72_ok, (ν7.2 ⟨td73_ok, (ν7.2 ⟨td74_ok, (ν7.2 ⟨td75_ok, (ν7.2 ⟨td76_ok, (ν7.2 ⟨td77_ok, (ν7.2 ⟨td78_ok, (ν7.2 ⟨td79_ok, (ν7.2 ⟨td80_ok, (ν7.2 ⟨td81_ok, (ν7.2 ⟨td82_ok, (ν7.2 ⟨td83_ok, (ν7.2 ⟨td85_ok, (ν7.2 ⟨td87_ok, (ν7.2 ⟨td88_ok, (ν7.2 ⟨td89_ok, (ν7.2 ⟨td90_ok, (ν7.2 ⟨td91_ok, (ν7.2 ⟨td92_ok, (ν7.2 ⟨td93_ok, (ν7.2 ⟨td94_ok, (ν7.2 ⟨td95_ok, (ν7.2 ⟨td97_ok, (ν7.2 ⟨td98_ok, (ν7.2 ⟨td99_ok, (ν7.2 ⟨td101_ok, (ν7.2 ⟨td102_ok, (ν7.2 ⟨td103_ok, (ν7.2 ⟨td104_ok, (ν7.2 ⟨td105_ok, (ν7.2 ⟨td106_ok, (ν7.2 ⟨td107_ok, (ν7.2 ⟨td108_ok, (ν7.2 ⟨td109_ok, (ν7.2 ⟨td110_ok, (ν7.2 ⟨td111_ok, (ν7.2 ⟨td113_ok, (ν7.2 ⟨td114_ok, (ν7.2 ⟨td120_ok, (ν7.2 ⟨td121_ok, (ν7.2 ⟨td122_ok, (ν7.2 ⟨td123_ok, (ν7.2 ⟨td124_ok, (ν7.2 ⟨td125_ok, (fun _ h => by cases h)⟩)⟩)⟩)⟩)⟩)⟩)⟩)⟩)⟩)⟩)⟩)⟩)⟩)⟩)⟩)⟩)⟩)⟩)⟩)⟩)⟩)⟩)⟩)⟩)⟩)⟩)⟩)⟩)⟩)⟩)⟩)⟩)⟩)⟩)⟩)⟩)⟩)⟩)⟩)⟩)⟩)⟩)⟩)⟩)⟩)⟩)⟩)⟩)⟩)⟩)⟩)⟩)⟩)⟩)⟩)⟩)⟩)⟩)⟩)⟩)⟩)⟩)⟩)⟩)⟩)⟩)⟩)⟩)⟩)⟩)⟩)⟩)⟩)⟩)⟩)⟩)⟩)⟩)⟩)⟩)⟩)⟩)⟩)⟩)⟩)⟩)⟩)⟩)⟩)⟩)⟩)⟩)⟩)⟩)⟩)⟩)⟩)⟩)⟩)⟩)⟩)⟩)⟩)
theorem mixed : Try.prog.follows .mixedOrders = true := by kernel_rfl
theorem tab_ok : tab.Ok Try.prog := Tab.Ok.of_list tabL_ok
end Go.Proofs.Ytginibofnkiofaa
namespace Go.Proofs.Ytginibofnkiofaa
open Go Go.Sep
attribute [local irreducible] wpC headF
def D3 : Info := ⟨134, fun i => if i = 17 then ([[], [], [0, 1], [0, 1, 2], [], [], [4, 5], [4, 5, 6], [0, 1, 2, 3, 4, 5, 6, 7], [0, 1, 2, 3, 4, 5, 6, 7, 8], [0, 1, 2, 3, 4, 5, 6, 7, 8, 9], [0, 1, 2, 3, 4, 5, 6, 7, 8, 9], [0, 1, 2, 3, 4, 5, 6, 7, 8, 9, 10, 11], [0, 1, 2, 3, 4, 5, 6, 7, 8, 9, 10, 11, 12], [0, 1, 2, 3, 4, 5, 6, 7, 8, 9], [0, 1, 2, 3, 4, 5, 6, 7, 8, 9], [0, 1, 2, 3, 4, 5, 6, 7, 8, 9, 14, 15], [0, 1, 2, 3, 4, 5, 6, 7, 8, 9, 14, 15, 16], [0, 1, 2, 3, 4, 5, 6, 7, 8, 9, 10, 11, 12, 13, 14, 15, 16, 17], [0, 1, 2, 3, 4, 5, 6, 7, 8, 9], [0, 1, 2, 3, 4, 5, 6, 7, 8, 9], [0, 1, 2, 3, 4, 5, 6, 7, 8, 9, 19, 20], [0, 1, 2, 3, 4, 5, 6, 7, 8, 9, 19, 20, 21], [0, 1, 2, 3, 4, 5, 6, 7, 8, 9], [0, 1, 2, 3, 4, 5, 6, 7, 8, 9], [0, 1, 2, 3, 4, 5, 6, 7, 8, 9, 23, 24], [0, 1, 2, 3, 4, 5, 6, 7, 8, 9, 23, 24, 25], [0, 1, 2, 3, 4, 5, 6, 7, 8, 9, 19, 20, 21, 22, 23, 24, 25, 26], [0, 1, 2, 3, 4, 5, 6, 7, 8, 9, 10, 11, 12, 13, 14, 15, 16, 17, 18, 19, 20, 21, 22, 23, 24, 25, 26, 27], [0, 1, 2, 3, 4, 5, 6, 7, 8, 9, 10, 11, 12, 13, 14, 15, 16, 17, 18, 19, 20, 21, 22, 23, 24, 25, 26, 27, 28]], [(0, []), (1, []), (2, []), (3, []), (4, []), (5, []), (6, []), (7, []), (8, []), (9, []), (10, []), (11, []), (12, []), (13, []), (14, []), (15, []), (16, []), (17, []), (18, []), (19, []), (20, []), (21, []), (22, []), (23, []), (24, []), (25, []), (26, []), (27, []), (28, []), (29, [])]) else ([], []), fun i => if i = 12 then ([1, 5, 6, 10, 63], [64]) else if i = 15 then ([1, 5, 6, 10, 12, 63, 64, 71, 72], [73]) else ([], [])⟩
def D4 : Info := ⟨94, fun i => ([], []), fun i => if i = 12 then ([1, 5, 6, 8], [12, 13]) else ([], [])⟩
def L4_0 (K : AV → Heap → Prop) (v1 : AV) (v5 : AV) (v6 : AV) (v8 : AV) (v12 : AV) (v13 : AV) (H : Heap) : Prop := LoopV (wpC Try.prog tab D4 (cAt [1, 1, 1, 1, 1, 1, 1, 1, 0, 1, 0, 0] (bodyOf Try.f4))) [1, 5, 6, 8] (PostF.block 0 (PostF.thenA (wpC Try.prog tab D4 (cAt [1, 1, 1, 1, 1, 1, 1, 1, 1] (bodyOf Try.f4))) (retF tab [.tmp 4] K))) [12, 13] [AV.any, v1, AV.any, AV.any, AV.any, v5, v6, AV.any, v8, AV.any, AV.any, AV.any, v12, v13, AV.any, AV.any, AV.any, AV.any, AV.any, AV.any, AV.any, AV.any, AV.any, AV.any, AV.any, AV.any, AV.any, AV.any, AV.any, AV.any, AV.any, AV.any, AV.any, AV.any, AV.any, AV.any, AV.any, AV.any, AV.any, AV.any, AV.any, AV.any, AV.any, AV.any, AV.any, AV.any, AV.any, AV.any, AV.any, AV.any, AV.any, AV.any, AV.any, AV.any, AV.any, AV.any, AV.any, AV.any, AV.any, AV.any, AV.any, AV.any, AV.any, AV.any, AV.any, AV.any, AV.any, AV.any, AV.any, AV.any, AV.any, AV.any, AV.any, AV.any, AV.any, AV.any, AV.any, AV.any, AV.any, AV.any, AV.any, AV.any, AV.any, AV.any, AV.any, AV.any, AV.any, AV.any, AV.any, AV.any, AV.any, AV.any, AV.any, AV.any] H
def B4_0 (K : AV → Heap → Prop) (N1 : AV → AV → Heap → Prop) (v1 : AV) (v5 : AV) (v6 : AV) (v8 : AV) (v12 : AV) (v13 : AV) (H : Heap) : Prop :=
 binV tab .lss 3 v13 (AV.p (.int .i64 8)) fun v53 =>
 condV v53 (CallT Try.prog 17 [v1] H fun v58 H6 =>
 convV tab 3 41 v13 fun v60 =>
 binV tab .shr 3 v58 v60 fun v61 =>
 binV tab .and 3 v61 (AV.p (.int .i64 1)) fun v62 =>
 binV tab .eql 3 v62 (AV.p (.int .i64 1)) fun v63 =>
 buildSliceV tab 39 1 [(0, v63)] H6 (wkK fun v64 H7 =>
 appendV tab 39 39 v12 v64 H7 (wkK fun v65 H8 =>
 binV tab .add 3 v13 (AV.p (.int .i64 1)) fun v55 =>
 N1 v65 v55 H8)))
 (buildSliceV tab 24 2 [(0, v5), (1, v6)] H (wkK fun v69 H9 =>
 buildV tab 44 [(0, (AV.p (.int .i64 8))), (1, v69)] fun v70 =>
 CallT Try.prog 18 [v70, v12] H9 fun v72 H10 =>
 extractV v72 0 fun v73 =>
 extractV v72 1 fun v74 =>
 buildSliceV tab 24 1 [(0, v8)] H10 (wkK fun v77 H11 =>
 buildV tab 44 [(0, (AV.p (.int .i64 8))), (1, v77)] fun v78 =>
 CallT Try.prog 18 [v78, v12] H11 fun v80 H12 =>
 extractV v80 0 fun v81 =>
 extractV v80 1 fun v82 =>
 grdV v74 true (grdV v82 true (unV .not v73 fun v89 =>
 grdV v89 false (K v81 H12)
 (K (AV.p (.bool true)) H12))
 (K (AV.p (.bool false)) H12))
 (K (AV.p (.bool false)) H12))))
def W4 (v0 : AV) (v1 : AV) (H : Heap) (K : AV → Heap → Prop) : Prop :=
 CallT Try.prog 5 [v0, v1] H fun v20 H1 =>
 condV v20 (K (AV.p (.bool true)) H1)
 (CallT Try.prog 14 [v0] H1 fun v23 H2 =>
 extractV v23 0 fun v24 =>
 extractV v23 1 fun v25 =>
 extractV v23 2 fun v26 =>
 CallT Try.prog 15 [v24, v25, v26] H2 fun v31 H3 =>
 extractV v31 0 fun v32 =>
 extractV v31 1 fun v33 =>
 CallT Try.prog 16 [v24, v25, v26] H3 fun v38 H4 =>
 extractV v38 0 fun v39 =>
 extractV v38 1 fun v40 =>
 binV tab .neq 4 v33 v40 fun v43 =>
 grdV v43 false (CallT Try.prog 9 [v32, v39] H4 fun v47 H5 =>
 unV .not v47 fun v48 =>
 condV v48 (K (AV.p (.bool false)) H5)
 (unV .not v33 fun v51 =>
 condV v51 (K (AV.p (.bool true)) H5)
 (L4_0 K v1 v24 v25 v32 (AV.p .nil) (AV.p (.int .i64 0)) H5)))
 (K (AV.p (.bool false)) H4))
theorem W4_wp (v0 : AV) (v1 : AV) (H : Heap) (K : AV → Heap → Prop) : wpC Try.prog tab D4 (bodyOf Try.f4) (retF tab [.tmp 4] K) (nthA [v0, v1]) H = W4 v0 v1 H K := by kernel_rfl
theorem W4_ok {v0 v1 : AV} {H : Heap} {K : AV → Heap → Prop} (h : W4 v0 v1 H K) : CallT Try.prog 4 [v0, v1] H K :=
  CallT.of_wp (D := D4) tab_ok mixed Try.func4 (c := bodyOf Try.f4) (by kernel_rfl) rfl (by kernel_rfl) (rs := #[.tmp 4]) rfl (by decide +kernel) (by kernel_rfl) (W4_wp v0 v1 H K) h
theorem W4_hb : HasBody Try.prog 4 := ⟨_, bodyOf Try.f4, Try.func4, by kernel_rfl, rfl⟩
theorem L4_0_rule {K : AV → Heap → Prop} {v1 v5 v6 v8 v12 v13 : AV} {H : Heap} {σ : Type} (s0 : σ) (f12 : σ → AV) (f13 : σ → AV) (TH : σ → Heap) (pre : σ → Prop) (μ : σ → Nat)
    (h0 : pre s0 ∧ AV.wk v12 (f12 s0) ∧ AV.wk v13 (f13 s0) ∧ Heap.le (TH s0) H)
    (round : ∀ s, pre s → B4_0 K (fun w12 w13 H' => ∃ s', pre s' ∧ μ s' < μ s ∧ AV.wk w12 (f12 s') ∧ AV.wk w13 (f13 s') ∧ Heap.le (TH s') H') v1 v5 v6 v8 (f12 s) (f13 s) (TH s)) :
    L4_0 K v1 v5 v6 v8 v12 v13 H := by
  unfold L4_0
  exact LoopV.mk s0 (fun s => [f12 s, f13 s]) TH pre μ (fun _ => rfl) (Eq.mp (by kernel_rfl) h0) (fun s hs => Eq.mp (by kernel_rfl) (round s hs))
def D5 : Info := ⟨16, fun i => ([], []), fun i => ([], [])⟩
def W5 (v0 : AV) (v1 : AV) (H : Heap) (K : AV → Heap → Prop) : Prop :=
 lenV tab 22 v0 fun v6 =>
 binV tab .gtr 3 v6 (AV.p (.int .i64 1048576)) fun v7 =>
 grdV v7 false (lenV tab 22 v1 fun v10 =>
 lenV tab 22 v0 fun v12 =>
 binV tab .sub 3 (AV.p (.int .i64 1048576)) v12 fun v13 =>
 binV tab .gtr 3 v10 v13 fun v14 =>
 K v14 H)
 (K (AV.p (.bool true)) H)
theorem W5_wp (v0 : AV) (v1 : AV) (H : Heap) (K : AV → Heap → Prop) : wpC Try.prog tab D5 (bodyOf Try.f5) (retF tab [.tmp 4] K) (nthA [v0, v1]) H = W5 v0 v1 H K := by kernel_rfl
theorem W5_ok {v0 v1 : AV} {H : Heap} {K : AV → Heap → Prop} (h : W5 v0 v1 H K) : CallT Try.prog 5 [v0, v1] H K :=
  CallT.of_wp (D := D5) tab_ok mixed Try.func5 (c := bodyOf Try.f5) (by kernel_rfl) rfl (by kernel_rfl) (rs := #[.tmp 4]) rfl (by decide +kernel) (by kernel_rfl) (W5_wp v0 v1 H K) h
def D9 : Info := ⟨26, fun i => if i = 6 then ([[], [], [0, 1], [0, 1, 2], [], [], [4, 5], [4, 5, 6], [0, 1, 2, 3, 4, 5, 6, 7]], [(0, []), (1, []), (2, []), (3, []), (4, []), (5, []), (6, []), (7, []), (8, [])]) else ([], []), fun i => if i = 4 then ([0, 1, 12], [13]) else ([], [])⟩
def L9_0 (K : AV → Heap → Prop) (v0 : AV) (v1 : AV) (v12 : AV) (v13 : AV) (H : Heap) : Prop := LoopV (wpC Try.prog tab D9 (cAt [1, 1, 0, 1, 0, 0] (bodyOf Try.f9))) [0, 1, 12] (PostF.block 0 (PostF.thenA (wpC Try.prog tab D9 (cAt [1, 1, 1] (bodyOf Try.f9))) (retF tab [.tmp 4] K))) [13] [v0, v1, AV.any, AV.any, AV.any, AV.any, AV.any, AV.any, AV.any, AV.any, AV.any, AV.any, v12, v13, AV.any, AV.any, AV.any, AV.any, AV.any, AV.any, AV.any, AV.any, AV.any, AV.any, AV.any, AV.any] H
def B9_0 (K : AV → Heap → Prop) (N1 : AV → Heap → Prop) (v0 : AV) (v1 : AV) (v12 : AV) (v13 : AV) (H : Heap) : Prop :=
 binV tab .lss 3 v13 v12 fun v14 =>
 condV v14 (indexAddrV tab 28 v0 v13 fun v18 =>
 loadV tab 3 v18 H fun v19 =>
 indexAddrV tab 28 v1 v13 fun v22 =>
 loadV tab 3 v22 H fun v23 =>
 binV tab .neq 3 v19 v23 fun v24 =>
 condV v24 (K (AV.p (.bool false)) H)
 (binV tab .add 3 v13 (AV.p (.int .i64 1)) fun v25 =>
 N1 v25 H))
 (K (AV.p (.bool true)) H)
def W9 (v0 : AV) (v1 : AV) (H : Heap) (K : AV → Heap → Prop) : Prop :=
 lenV tab 28 v0 fun v7 =>
 lenV tab 28 v1 fun v9 =>
 binV tab .neq 3 v7 v9 fun v10 =>
 condV v10 (K (AV.p (.bool false)) H)
 (lenV tab 28 v0 fun v12 =>
 L9_0 K v0 v1 v12 (AV.p (.int .i64 0)) H)
theorem W9_wp (v0 : AV) (v1 : AV) (H : Heap) (K : AV → Heap → Prop) : wpC Try.prog tab D9 (bodyOf Try.f9) (retF tab [.tmp 4] K) (nthA [v0, v1]) H = W9 v0 v1 H K := by kernel_rfl
theorem W9_ok {v0 v1 : AV} {H : Heap} {K : AV → Heap → Prop} (h : W9 v0 v1 H K) : CallT Try.prog 9 [v0, v1] H K :=
  CallT.of_wp (D := D9) tab_ok mixed Try.func9 (c := bodyOf Try.f9) (by kernel_rfl) rfl (by kernel_rfl) (rs := #[.tmp 4]) rfl (by decide +kernel) (by kernel_rfl) (W9_wp v0 v1 H K) h
theorem L9_0_rule {K : AV → Heap → Prop} {v0 v1 v12 v13 : AV} {H : Heap} {σ : Type} (s0 : σ) (f13 : σ → AV) (TH : σ → Heap) (pre : σ → Prop) (μ : σ → Nat)
    (h0 : pre s0 ∧ AV.wk v13 (f13 s0) ∧ Heap.le (TH s0) H)
    (round : ∀ s, pre s → B9_0 K (fun w13 H' => ∃ s', pre s' ∧ μ s' < μ s ∧ AV.wk w13 (f13 s') ∧ Heap.le (TH s') H') v0 v1 v12 (f13 s) (TH s)) :
    L9_0 K v0 v1 v12 v13 H := by
  unfold L9_0
  exact LoopV.mk s0 (fun s => [f13 s]) TH pre μ (fun _ => rfl) (Eq.mp (by kernel_rfl) h0) (fun s hs => Eq.mp (by kernel_rfl) (round s hs))
def D14 : Info := ⟨29, fun i => ([], []), fun i => ([], [])⟩
def W14 (v0 : AV) (H : Heap) (K : AV → Heap → Prop) : Prop :=
 buildV tab 52 [(0, v0)] fun v8 =>
 boxV v8 H fun v9 H1 =>
 CallT Try.prog 27 [v9, (AV.p (.int .i64 4))] H1 fun v11 H2 =>
 binV tab .add 3 (AV.p (.int .i64 1)) v11 fun v12 =>
 CallT Try.prog 34 [v9, (AV.p (.int .i64 8)), (AV.p (.int .i64 6))] H2 fun v14 H3 =>
 buildSliceV tab 28 1 [(0, v12)] H3 (wkK fun v16 H4 =>
 appendV tab 28 28 v14 v16 H4 (wkK fun v17 H5 =>
 CallT Try.prog 34 [v9, (AV.p (.int .i64 8)), (AV.p (.int .i64 6))] H5 fun v19 H6 =>
 unV .neg v12 fun v21 =>
 buildSliceV tab 28 1 [(0, v21)] H6 (wkK fun v22 H7 =>
 appendV tab 28 28 v19 v22 H7 (wkK fun v23 H8 =>
 CallT Try.prog 27 [v9, (AV.p (.int .i64 20))] H8 fun v26 H9 =>
 binV tab .quo 3 v26 (AV.p (.int .i64 19)) fun v27 =>
 binV tab .add 3 v12 v27 fun v28 =>
 K (.tup [v17, v23, v28]) H9))))
theorem W14_wp (v0 : AV) (H : Heap) (K : AV → Heap → Prop) : wpC Try.prog tab D14 (bodyOf Try.f14) (retF tab [.tmp 2, .tmp 3, .tmp 4] K) (nthA [v0]) H = W14 v0 H K := by kernel_rfl
theorem W14_ok {v0 : AV} {H : Heap} {K : AV → Heap → Prop} (h : W14 v0 H K) : CallT Try.prog 14 [v0] H K :=
  CallT.of_wp (D := D14) tab_ok mixed Try.func14 (c := bodyOf Try.f14) (by kernel_rfl) rfl (by kernel_rfl) (rs := #[.tmp 2, .tmp 3, .tmp 4]) rfl (by decide +kernel) (by kernel_rfl) (W14_wp v0 H K) h
def D15 : Info := ⟨80, fun i => ([], []), fun i => if i = 5 then ([1, 2, 43, 44], [8, 45]) else if i = 11 then ([2, 57, 58], [8, 59]) else ([], [])⟩
def L15_0 (K : AV → Heap → Prop) (v1 : AV) (v2 : AV) (v8 : AV) (v43 : AV) (v44 : AV) (v45 : AV) (H : Heap) : Prop := LoopV (wpC Try.prog tab D15 (cAt [1, 1, 1, 0, 1, 0, 0] (bodyOf Try.f15))) [1, 2, 43, 44] (PostF.block 0 (PostF.thenA (wpC Try.prog tab D15 (cAt [1, 1, 1, 1] (bodyOf Try.f15))) (retF tab [.tmp 6, .tmp 7] K))) [8, 45] [AV.any, v1, v2, AV.any, AV.any, AV.any, AV.any, AV.any, v8, AV.any, AV.any, AV.any, AV.any, AV.any, AV.any, AV.any, AV.any, AV.any, AV.any, AV.any, AV.any, AV.any, AV.any, AV.any, AV.any, AV.any, AV.any, AV.any, AV.any, AV.any, AV.any, AV.any, AV.any, AV.any, AV.any, AV.any, AV.any, AV.any, AV.any, AV.any, AV.any, AV.any, AV.any, v43, v44, v45, AV.any, AV.any, AV.any, AV.any, AV.any, AV.any, AV.any, AV.any, AV.any, AV.any, AV.any, AV.any, AV.any, AV.any, AV.any, AV.any, AV.any, AV.any, AV.any, AV.any, AV.any, AV.any, AV.any, AV.any, AV.any, AV.any, AV.any, AV.any, AV.any, AV.any, AV.any, AV.any, AV.any, AV.any] H
def L15_1 (K : AV → Heap → Prop) (v2 : AV) (v8 : AV) (v57 : AV) (v58 : AV) (v59 : AV) (H : Heap) : Prop := LoopV (wpC Try.prog tab D15 (cAt [1, 1, 1, 1, 0, 1, 0, 0] (bodyOf Try.f15))) [2, 57, 58] (PostF.block 2 (PostF.thenA (wpC Try.prog tab D15 (cAt [1, 1, 1, 1, 1] (bodyOf Try.f15))) (retF tab [.tmp 6, .tmp 7] K))) [8, 59] [AV.any, AV.any, v2, AV.any, AV.any, AV.any, AV.any, AV.any, v8, AV.any, AV.any, AV.any, AV.any, AV.any, AV.any, AV.any, AV.any, AV.any, AV.any, AV.any, AV.any, AV.any, AV.any, AV.any, AV.any, AV.any, AV.any, AV.any, AV.any, AV.any, AV.any, AV.any, AV.any, AV.any, AV.any, AV.any, AV.any, AV.any, AV.any, AV.any, AV.any, AV.any, AV.any, AV.any, AV.any, AV.any, AV.any, AV.any, AV.any, AV.any, AV.any, AV.any, AV.any, AV.any, AV.any, AV.any, AV.any, v57, v58, v59, AV.any, AV.any, AV.any, AV.any, AV.any, AV.any, AV.any, AV.any, AV.any, AV.any, AV.any, AV.any, AV.any, AV.any, AV.any, AV.any, AV.any, AV.any, AV.any, AV.any] H
def B15_1 (K : AV → Heap → Prop) (N1 : AV → AV → Heap → Prop) (v2 : AV) (v8 : AV) (v57 : AV) (v58 : AV) (v59 : AV) (H : Heap) : Prop :=
 binV tab .lss 3 v59 v58 fun v60 =>
 condV v60 (indexAddrV tab 28 v57 v59 fun v61 =>
 loadV tab 3 v61 H fun v62 =>
 unV .neg v2 fun v65 =>
 binV tab .neq 3 v62 v65 fun v66 =>
 condV v66 (buildSliceV tab 28 1 [(0, v62)] H (wkK fun v69 H8 =>
 appendV tab 28 28 v8 v69 H8 (wkK fun v70 H9 =>
 binV tab .add 3 v59 (AV.p (.int .i64 1)) fun v71 =>
 N1 v70 v71 H9)))
 (binV tab .add 3 v59 (AV.p (.int .i64 1)) fun v71 =>
 N1 v8 v71 H))
 (CallT Try.prog 36 [v8, (.fn 37 [])] H fun v73 H10 =>
 CallT Try.prog 38 [v8] H10 fun v75 H11 =>
 lenV tab 28 v75 fun v77 =>
 binV tab .gtr 3 v77 (AV.p (.int .i64 8)) fun v78 =>
 condV v78 (K (.tup [(AV.p .nil), (AV.p (.bool false))]) H11)
 (K (.tup [v75, (AV.p (.bool true))]) H11))
def B15_0 (K : AV → Heap → Prop) (N1 : AV → AV → Heap → Prop) (v1 : AV) (v2 : AV) (v8 : AV) (v43 : AV) (v44 : AV) (v45 : AV) (H : Heap) : Prop :=
 binV tab .lss 3 v45 v44 fun v46 =>
 condV v46 (indexAddrV tab 28 v43 v45 fun v47 =>
 loadV tab 3 v47 H fun v48 =>
 binV tab .neq 3 v48 v2 fun v51 =>
 condV v51 (buildSliceV tab 28 1 [(0, v48)] H (wkK fun v54 H6 =>
 appendV tab 28 28 v8 v54 H6 (wkK fun v55 H7 =>
 binV tab .add 3 v45 (AV.p (.int .i64 1)) fun v56 =>
 N1 v55 v56 H7)))
 (binV tab .add 3 v45 (AV.p (.int .i64 1)) fun v56 =>
 N1 v8 v56 H))
 (lenV tab 28 v1 fun v58 =>
 L15_1 K v2 v8 v1 v58 (AV.p (.int .i64 0)) H)
def W15 (v0 : AV) (v1 : AV) (v2 : AV) (H : Heap) (K : AV → Heap → Prop) : Prop :=
 binV tab .lss 3 v2 (AV.p (.int .i64 1)) fun v14 =>
 grdV v14 false (binV tab .gtr 3 v2 (AV.p (.int .i64 400)) fun v17 =>
 grdV v17 false (CallT Try.prog 35 [v0, (AV.p (.int .i64 400))] H fun v21 H1 =>
 unV .not v21 fun v22 =>
 grdV v22 false (CallT Try.prog 35 [v1, (AV.p (.int .i64 400))] H1 fun v26 H2 =>
 unV .not v26 fun v27 =>
 grdV v27 false (CallT Try.prog 29 [v0, v2] H2 fun v32 H3 =>
 unV .not v32 fun v33 =>
 grdV v33 false (unV .neg v2 fun v38 =>
 CallT Try.prog 29 [v1, v38] H3 fun v39 H4 =>
 unV .not v39 fun v40 =>
 condV v40 (K (.tup [(AV.p .nil), (AV.p (.bool false))]) H4)
 (buildSliceV tab 28 0 [] H4 (wkK fun v42 H5 =>
 lenV tab 28 v0 fun v44 =>
 L15_0 K v1 v2 v42 v0 v44 (AV.p (.int .i64 0)) H5)))
 (K (.tup [(AV.p .nil), (AV.p (.bool false))]) H3))
 (K (.tup [(AV.p .nil), (AV.p (.bool false))]) H2))
 (K (.tup [(AV.p .nil), (AV.p (.bool false))]) H1))
 (K (.tup [(AV.p .nil), (AV.p (.bool false))]) H))
 (K (.tup [(AV.p .nil), (AV.p (.bool false))]) H)
theorem W15_wp (v0 : AV) (v1 : AV) (v2 : AV) (H : Heap) (K : AV → Heap → Prop) : wpC Try.prog tab D15 (bodyOf Try.f15) (retF tab [.tmp 6, .tmp 7] K) (nthA [v0, v1, v2]) H = W15 v0 v1 v2 H K := by kernel_rfl
theorem W15_ok {v0 v1 v2 : AV} {H : Heap} {K : AV → Heap → Prop} (h : W15 v0 v1 v2 H K) : CallT Try.prog 15 [v0, v1, v2] H K :=
  CallT.of_wp (D := D15) tab_ok mixed Try.func15 (c := bodyOf Try.f15) (by kernel_rfl) rfl (by kernel_rfl) (rs := #[.tmp 6, .tmp 7]) rfl (by decide +kernel) (by kernel_rfl) (W15_wp v0 v1 v2 H K) h
theorem L15_1_rule {K : AV → Heap → Prop} {v2 v8 v57 v58 v59 : AV} {H : Heap} {σ : Type} (s0 : σ) (f8 : σ → AV) (f59 : σ → AV) (TH : σ → Heap) (pre : σ → Prop) (μ : σ → Nat)
    (h0 : pre s0 ∧ AV.wk v8 (f8 s0) ∧ AV.wk v59 (f59 s0) ∧ Heap.le (TH s0) H)
    (round : ∀ s, pre s → B15_1 K (fun w8 w59 H' => ∃ s', pre s' ∧ μ s' < μ s ∧ AV.wk w8 (f8 s') ∧ AV.wk w59 (f59 s') ∧ Heap.le (TH s') H') v2 (f8 s) v57 v58 (f59 s) (TH s)) :
    L15_1 K v2 v8 v57 v58 v59 H := by
  unfold L15_1
  exact LoopV.mk s0 (fun s => [f8 s, f59 s]) TH pre μ (fun _ => rfl) (Eq.mp (by kernel_rfl) h0) (fun s hs => Eq.mp (by kernel_rfl) (round s hs))
theorem L15_0_rule {K : AV → Heap → Prop} {v1 v2 v8 v43 v44 v45 : AV} {H : Heap} {σ : Type} (s0 : σ) (f8 : σ → AV) (f45 : σ → AV) (TH : σ → Heap) (pre : σ → Prop) (μ : σ → Nat)
    (h0 : pre s0 ∧ AV.wk v8 (f8 s0) ∧ AV.wk v45 (f45 s0) ∧ Heap.le (TH s0) H)
    (round : ∀ s, pre s → B15_0 K (fun w8 w45 H' => ∃ s', pre s' ∧ μ s' < μ s ∧ AV.wk w8 (f8 s') ∧ AV.wk w45 (f45 s') ∧ Heap.le (TH s') H') v1 v2 (f8 s) v43 v44 (f45 s) (TH s)) :
    L15_0 K v1 v2 v8 v43 v44 v45 H := by
  unfold L15_0
  exact LoopV.mk s0 (fun s => [f8 s, f45 s]) TH pre μ (fun _ => rfl) (Eq.mp (by kernel_rfl) h0) (fun s hs => Eq.mp (by kernel_rfl) (round s hs))
def D16 : Info := ⟨79, fun i => ([], []), fun i => if i = 5 then ([0, 1, 2], [8, 9]) else if i = 8 then ([0, 1, 2, 9, 45, 46], [8, 47]) else ([], [])⟩
def L16_0 (K : AV → Heap → Prop) (v0 : AV) (v1 : AV) (v2 : AV) (v8 : AV) (v9 : AV) (H : Heap) : Prop := LoopV (wpC Try.prog tab D16 (cAt [1, 1, 1, 0, 1, 0, 0] (bodyOf Try.f16))) [0, 1, 2] (PostF.block 0 (PostF.thenA (wpC Try.prog tab D16 (cAt [1, 1, 1, 1] (bodyOf Try.f16))) (retF tab [.tmp 6, .tmp 7] K))) [8, 9] [v0, v1, v2, AV.any, AV.any, AV.any, AV.any, AV.any, v8, v9, AV.any, AV.any, AV.any, AV.any, AV.any, AV.any, AV.any, AV.any, AV.any, AV.any, AV.any, AV.any, AV.any, AV.any, AV.any, AV.any, AV.any, AV.any, AV.any, AV.any, AV.any, AV.any, AV.any, AV.any, AV.any, AV.any, AV.any, AV.any, AV.any, AV.any, AV.any, AV.any, AV.any, AV.any, AV.any, AV.any, AV.any, AV.any, AV.any, AV.any, AV.any, AV.any, AV.any, AV.any, AV.any, AV.any, AV.any, AV.any, AV.any, AV.any, AV.any, AV.any, AV.any, AV.any, AV.any, AV.any, AV.any, AV.any, AV.any, AV.any, AV.any, AV.any, AV.any, AV.any, AV.any, AV.any, AV.any, AV.any, AV.any] H
def L16_1 (K : AV → Heap → Prop) (N1 : AV → AV → Heap → Prop) (v0 : AV) (v1 : AV) (v2 : AV) (v8 : AV) (v9 : AV) (v45 : AV) (v46 : AV) (v47 : AV) (H : Heap) : Prop := LoopV (wpC Try.prog tab D16 (cAt [1, 1, 1, 0, 1, 0, 0, 1, 0, 0, 1, 0, 0] (bodyOf Try.f16))) [0, 1, 2, 9, 45, 46] (PostF.block 2 (PostF.block 1 (PostF.thenA (wpC Try.prog tab D16 (cAt [1, 1, 1, 0, 1, 0, 0, 1, 1] (bodyOf Try.f16))) (loopF (PostF.block 0 (PostF.thenA (wpC Try.prog tab D16 (cAt [1, 1, 1, 1] (bodyOf Try.f16))) (retF tab [.tmp 6, .tmp 7] K))) (fun e h => N1 (e 8) (e 9) h))))) [8, 47] [v0, v1, v2, AV.any, AV.any, AV.any, AV.any, AV.any, v8, v9, AV.any, AV.any, AV.any, AV.any, AV.any, AV.any, AV.any, AV.any, AV.any, AV.any, AV.any, AV.any, AV.any, AV.any, AV.any, AV.any, AV.any, AV.any, AV.any, AV.any, AV.any, AV.any, AV.any, AV.any, AV.any, AV.any, AV.any, AV.any, AV.any, AV.any, AV.any, AV.any, AV.any, AV.any, AV.any, v45, v46, v47, AV.any, AV.any, AV.any, AV.any, AV.any, AV.any, AV.any, AV.any, AV.any, AV.any, AV.any, AV.any, AV.any, AV.any, AV.any, AV.any, AV.any, AV.any, AV.any, AV.any, AV.any, AV.any, AV.any, AV.any, AV.any, AV.any, AV.any, AV.any, AV.any, AV.any, AV.any] H
def J16_2 (K : AV → Heap → Prop) (N1 : AV → AV → Heap → Prop) (N2 : AV → AV → Heap → Prop) (v0 : AV) (v1 : AV) (v2 : AV) (v8 : AV) (v9 : AV) (v11 : AV) (v45 : AV) (v46 : AV) (v47 : AV) (v63 : AV) (H : Heap) : Prop :=
 grdV v63 true (unV .neg v2 fun v66 =>
 binV tab .neq 3 v11 v66 fun v67 =>
 condV v67 (buildSliceV tab 28 1 [(0, v11)] H (wkK fun v72 H9 =>
 appendV tab 28 28 v8 v72 H9 (wkK fun v73 H10 =>
 binV tab .add 3 v47 (AV.p (.int .i64 1)) fun v74 =>
 N2 v73 v74 H10)))
 (binV tab .add 3 v47 (AV.p (.int .i64 1)) fun v74 =>
 N2 v8 v74 H))
 (binV tab .add 3 v47 (AV.p (.int .i64 1)) fun v74 =>
 N2 v8 v74 H)
def B16_1 (K : AV → Heap → Prop) (N1 : AV → AV → Heap → Prop) (N2 : AV → AV → Heap → Prop) (v0 : AV) (v1 : AV) (v2 : AV) (v8 : AV) (v9 : AV) (v45 : AV) (v46 : AV) (v47 : AV) (H : Heap) : Prop :=
 binV tab .lss 3 v47 v46 fun v48 =>
 condV v48 (indexAddrV tab 28 v45 v47 fun v49 =>
 loadV tab 3 v49 H fun v50 =>
 CallT Try.prog 32 [v0, v50] H fun v53 H7 =>
 grdV v53 true (binV tab .neq 3 v50 v2 fun v57 =>
 grdV v57 false (CallT Try.prog 32 [v1, v50] H7 fun v62 H8 =>
 J16_2 K N1 N2 v0 v1 v2 v8 v9 v50 v45 v46 v47 v62 H8)
 (buildSliceV tab 28 1 [(0, v50)] H7 (wkK fun v72 H11 =>
 appendV tab 28 28 v8 v72 H11 (wkK fun v73 H12 =>
 binV tab .add 3 v47 (AV.p (.int .i64 1)) fun v74 =>
 N2 v73 v74 H12))))
 (CallT Try.prog 32 [v1, v50] H7 fun v62 H13 =>
 J16_2 K N1 N2 v0 v1 v2 v8 v9 v50 v45 v46 v47 v62 H13))
 (binV tab .add 3 v9 (AV.p (.int .i64 1)) fun v41 =>
 N1 v8 v41 H)
def B16_0 (K : AV → Heap → Prop) (N1 : AV → AV → Heap → Prop) (v0 : AV) (v1 : AV) (v2 : AV) (v8 : AV) (v9 : AV) (H : Heap) : Prop :=
 binV tab .leq 3 v9 (AV.p (.int .i64 400)) fun v39 =>
 condV v39 (unV .neg v9 fun v43 =>
 buildSliceV tab 28 2 [(0, v43), (1, v9)] H (wkK fun v45 H6 =>
 lenV tab 28 v45 fun v46 =>
 L16_1 K N1 v0 v1 v2 v8 v9 v45 v46 (AV.p (.int .i64 0)) H6))
 (lenV tab 28 v8 fun v76 =>
 binV tab .gtr 3 v76 (AV.p (.int .i64 8)) fun v77 =>
 condV v77 (K (.tup [(AV.p .nil), (AV.p (.bool false))]) H)
 (K (.tup [v8, (AV.p (.bool true))]) H))
def W16 (v0 : AV) (v1 : AV) (v2 : AV) (H : Heap) (K : AV → Heap → Prop) : Prop :=
 CallT Try.prog 39 [(AV.p (.int .i64 400)), v0] H fun v13 H1 =>
 unV .not v13 fun v14 =>
 grdV v14 false (CallT Try.prog 39 [(AV.p (.int .i64 400)), v1] H1 fun v17 H2 =>
 unV .not v17 fun v18 =>
 grdV v18 false (CallT Try.prog 31 [v2, (AV.p (.int .i64 1)), (AV.p (.int .i64 400))] H2 fun v22 H3 =>
 unV .not v22 fun v23 =>
 grdV v23 false (CallT Try.prog 32 [v0, v2] H3 fun v28 H4 =>
 unV .not v28 fun v29 =>
 grdV v29 false (unV .neg v2 fun v34 =>
 CallT Try.prog 32 [v1, v34] H4 fun v35 H5 =>
 unV .not v35 fun v36 =>
 condV v36 (K (.tup [(AV.p .nil), (AV.p (.bool false))]) H5)
 (L16_0 K v0 v1 v2 (AV.p .nil) (AV.p (.int .i64 1)) H5))
 (K (.tup [(AV.p .nil), (AV.p (.bool false))]) H4))
 (K (.tup [(AV.p .nil), (AV.p (.bool false))]) H3))
 (K (.tup [(AV.p .nil), (AV.p (.bool false))]) H2))
 (K (.tup [(AV.p .nil), (AV.p (.bool false))]) H1)
theorem W16_wp (v0 : AV) (v1 : AV) (v2 : AV) (H : Heap) (K : AV → Heap → Prop) : wpC Try.prog tab D16 (bodyOf Try.f16) (retF tab [.tmp 6, .tmp 7] K) (nthA [v0, v1, v2]) H = W16 v0 v1 v2 H K := by kernel_rfl
theorem W16_ok {v0 v1 v2 : AV} {H : Heap} {K : AV → Heap → Prop} (h : W16 v0 v1 v2 H K) : CallT Try.prog 16 [v0, v1, v2] H K :=
  CallT.of_wp (D := D16) tab_ok mixed Try.func16 (c := bodyOf Try.f16) (by kernel_rfl) rfl (by kernel_rfl) (rs := #[.tmp 6, .tmp 7]) rfl (by decide +kernel) (by kernel_rfl) (W16_wp v0 v1 v2 H K) h
theorem W16_hb : HasBody Try.prog 16 := ⟨_, bodyOf Try.f16, Try.func16, by kernel_rfl, rfl⟩
theorem L16_1_rule {K : AV → Heap → Prop} {N1 : AV → AV → Heap → Prop} {v0 v1 v2 v8 v9 v45 v46 v47 : AV} {H : Heap} {σ : Type} (s0 : σ) (f8 : σ → AV) (f47 : σ → AV) (TH : σ → Heap) (pre : σ → Prop) (μ : σ → Nat)
    (h0 : pre s0 ∧ AV.wk v8 (f8 s0) ∧ AV.wk v47 (f47 s0) ∧ Heap.le (TH s0) H)
    (round : ∀ s, pre s → B16_1 K N1 (fun w8 w47 H' => ∃ s', pre s' ∧ μ s' < μ s ∧ AV.wk w8 (f8 s') ∧ AV.wk w47 (f47 s') ∧ Heap.le (TH s') H') v0 v1 v2 (f8 s) v9 v45 v46 (f47 s) (TH s)) :
    L16_1 K N1 v0 v1 v2 v8 v9 v45 v46 v47 H := by
  unfold L16_1
  exact LoopV.mk s0 (fun s => [f8 s, f47 s]) TH pre μ (fun _ => rfl) (Eq.mp (by kernel_rfl) h0) (fun s hs => Eq.mp (by kernel_rfl) (round s hs))
theorem L16_0_rule {K : AV → Heap → Prop} {v0 v1 v2 v8 v9 : AV} {H : Heap} {σ : Type} (s0 : σ) (f8 : σ → AV) (f9 : σ → AV) (TH : σ → Heap) (pre : σ → Prop) (μ : σ → Nat)
    (h0 : pre s0 ∧ AV.wk v8 (f8 s0) ∧ AV.wk v9 (f9 s0) ∧ Heap.le (TH s0) H)
    (round : ∀ s, pre s → B16_0 K (fun w8 w9 H' => ∃ s', pre s' ∧ μ s' < μ s ∧ AV.wk w8 (f8 s') ∧ AV.wk w9 (f9 s') ∧ Heap.le (TH s') H') v0 v1 v2 (f8 s) (f9 s) (TH s)) :
    L16_0 K v0 v1 v2 v8 v9 H := by
  unfold L16_0
  exact LoopV.mk s0 (fun s => [f8 s, f9 s]) TH pre μ (fun _ => rfl) (Eq.mp (by kernel_rfl) h0) (fun s hs => Eq.mp (by kernel_rfl) (round s hs))
def D17 : Info := ⟨20, fun i => ([], []), fun i => if i = 3 then ([6, 7], [3, 8]) else ([], [])⟩
def L17_0 (K : AV → Heap → Prop) (v3 : AV) (v6 : AV) (v7 : AV) (v8 : AV) (H : Heap) : Prop := LoopV (wpC Try.prog tab D17 (cAt [1, 1, 0, 1, 0, 0] (bodyOf Try.f17))) [6, 7] (PostF.block 0 (PostF.thenA (wpC Try.prog tab D17 (cAt [1, 1, 1] (bodyOf Try.f17))) (retF tab [.tmp 2] K))) [3, 8] [AV.any, AV.any, AV.any, v3, AV.any, AV.any, v6, v7, v8, AV.any, AV.any, AV.any, AV.any, AV.any, AV.any, AV.any, AV.any, AV.any, AV.any, AV.any] H
def B17_0 (K : AV → Heap → Prop) (N1 : AV → AV → Heap → Prop) (v3 : AV) (v6 : AV) (v7 : AV) (v8 : AV) (H : Heap) : Prop :=
 binV tab .lss 3 v8 v7 fun v9 =>
 condV v9 (indexAddrV tab 22 v6 v8 fun v10 =>
 loadV tab 5 v10 H fun v11 =>
 binV tab .mul 3 (AV.p (.int .i64 31)) v3 fun v13 =>
 convV tab 5 3 v11 fun v15 =>
 binV tab .add 3 v13 v15 fun v16 =>
 binV tab .rem 3 v16 (AV.p (.int .i64 1000003)) fun v17 =>
 binV tab .add 3 v8 (AV.p (.int .i64 1)) fun v18 =>
 N1 v17 v18 H)
 (K v3 H)
def W17 (v0 : AV) (H : Heap) (K : AV → Heap → Prop) : Prop :=
 lenV tab 22 v0 fun v7 =>
 L17_0 K (AV.p (.int .i64 0)) v0 v7 (AV.p (.int .i64 0)) H
theorem W17_wp (v0 : AV) (H : Heap) (K : AV → Heap → Prop) : wpC Try.prog tab D17 (bodyOf Try.f17) (retF tab [.tmp 2] K) (nthA [v0]) H = W17 v0 H K := by kernel_rfl
theorem W17_ok {v0 : AV} {H : Heap} {K : AV → Heap → Prop} (h : W17 v0 H K) : CallT Try.prog 17 [v0] H K :=
  CallT.of_wp (D := D17) tab_ok mixed Try.func17 (c := bodyOf Try.f17) (by kernel_rfl) rfl (by kernel_rfl) (rs := #[.tmp 2]) rfl (by decide +kernel) (by kernel_rfl) (W17_wp v0 H K) h
theorem L17_0_rule {K : AV → Heap → Prop} {v3 v6 v7 v8 : AV} {H : Heap} {σ : Type} (s0 : σ) (f3 : σ → AV) (f8 : σ → AV) (TH : σ → Heap) (pre : σ → Prop) (μ : σ → Nat)
    (h0 : pre s0 ∧ AV.wk v3 (f3 s0) ∧ AV.wk v8 (f8 s0) ∧ Heap.le (TH s0) H)
    (round : ∀ s, pre s → B17_0 K (fun w3 w8 H' => ∃ s', pre s' ∧ μ s' < μ s ∧ AV.wk w3 (f3 s') ∧ AV.wk w8 (f8 s') ∧ Heap.le (TH s') H') (f3 s) v6 v7 (f8 s) (TH s)) :
    L17_0 K v3 v6 v7 v8 H := by
  unfold L17_0
  exact LoopV.mk s0 (fun s => [f3 s, f8 s]) TH pre μ (fun _ => rfl) (Eq.mp (by kernel_rfl) h0) (fun s hs => Eq.mp (by kernel_rfl) (round s hs))
end Go.Proofs.Ytginibofnkiofaa
namespace Go.Proofs.Ytginibofnkiofaa
open Go Go.Sep
attribute [local irreducible] wpC headF
def D18 : Info := ⟨19, fun i => ([], []), fun i => ([], [])⟩
def W18 (v0 : AV) (v1 : AV) (H : Heap) (K : AV → Heap → Prop) : Prop :=
 boxV v0 H fun v2 H1 =>
 loadV tab 44 v2 H1 fun v6 =>
 CallT Try.prog 40 [v6] H1 fun v7 H2 =>
 unV .not v7 fun v8 =>
 grdV v8 false (lenV tab 39 v1 fun v11 =>
 fieldAddrV tab 44 v2 0 fun v12 =>
 loadV tab 3 v12 H2 fun v13 =>
 binV tab .neq 3 v11 v13 fun v14 =>
 condV v14 (K (.tup [(AV.p (.bool false)), (AV.p (.bool false))]) H2)
 (loadV tab 44 v2 H2 fun v16 =>
 CallT Try.prog 41 [v16, v1] H2 fun v18 H3 =>
 K (.tup [v18, (AV.p (.bool true))]) H3))
 (K (.tup [(AV.p (.bool false)), (AV.p (.bool false))]) H2)
theorem W18_wp (v0 : AV) (v1 : AV) (H : Heap) (K : AV → Heap → Prop) : wpC Try.prog tab D18 (bodyOf Try.f18) (retF tab [.tmp 4, .tmp 5] K) (nthA [v0, v1]) H = W18 v0 v1 H K := by kernel_rfl
theorem W18_ok {v0 v1 : AV} {H : Heap} {K : AV → Heap → Prop} (h : W18 v0 v1 H K) : CallT Try.prog 18 [v0, v1] H K :=
  CallT.of_wp (D := D18) tab_ok mixed Try.func18 (c := bodyOf Try.f18) (by kernel_rfl) rfl (by kernel_rfl) (rs := #[.tmp 4, .tmp 5]) rfl (by decide +kernel) (by kernel_rfl) (W18_wp v0 v1 H K) h
def D27 : Info := ⟨20, fun i => ([], []), fun i => ([], [])⟩
def W27 (v0 : AV) (v1 : AV) (H : Heap) (K : AV → Heap → Prop) : Prop :=
 binV tab .leq 3 v1 (AV.p (.int .i64 1)) fun v7 =>
 condV v7 (K (AV.p (.int .i64 0)) H)
 (CallT Try.prog 49 [v0] H fun v9 H1 =>
 binV tab .gtr 3 v1 (AV.p (.int .i64 200)) fun v11 =>
 condV v11 (binV tab .mul 3 v9 (AV.p (.int .i64 256)) fun v13 =>
 CallT Try.prog 49 [v0] H1 fun v15 H2 =>
 binV tab .add 3 v13 v15 fun v16 =>
 binV tab .rem 3 v16 v1 fun v19 =>
 K v19 H2)
 (binV tab .rem 3 v9 v1 fun v19 =>
 K v19 H1))
theorem W27_wp (v0 : AV) (v1 : AV) (H : Heap) (K : AV → Heap → Prop) : wpC Try.prog tab D27 (bodyOf Try.f27) (retF tab [.tmp 4] K) (nthA [v0, v1]) H = W27 v0 v1 H K := by kernel_rfl
theorem W27_ok {v0 v1 : AV} {H : Heap} {K : AV → Heap → Prop} (h : W27 v0 v1 H K) : CallT Try.prog 27 [v0, v1] H K :=
  CallT.of_wp (D := D27) tab_ok mixed Try.func27 (c := bodyOf Try.f27) (by kernel_rfl) rfl (by kernel_rfl) (rs := #[.tmp 4]) rfl (by decide +kernel) (by kernel_rfl) (W27_wp v0 v1 H K) h
def D29 : Info := ⟨9, fun i => ([], []), fun i => ([], [])⟩
def W29 (v0 : AV) (v1 : AV) (H : Heap) (K : AV → Heap → Prop) : Prop :=
 CallT Try.prog 50 [v0, v1] H fun v7 H1 =>
 binV tab .geq 3 v7 (AV.p (.int .i64 0)) fun v8 =>
 K v8 H1
theorem W29_wp (v0 : AV) (v1 : AV) (H : Heap) (K : AV → Heap → Prop) : wpC Try.prog tab D29 (bodyOf Try.f29) (retF tab [.tmp 4] K) (nthA [v0, v1]) H = W29 v0 v1 H K := by kernel_rfl
theorem W29_ok {v0 v1 : AV} {H : Heap} {K : AV → Heap → Prop} (h : W29 v0 v1 H K) : CallT Try.prog 29 [v0, v1] H K :=
  CallT.of_wp (D := D29) tab_ok mixed Try.func29 (c := bodyOf Try.f29) (by kernel_rfl) rfl (by kernel_rfl) (rs := #[.tmp 4]) rfl (by decide +kernel) (by kernel_rfl) (W29_wp v0 v1 H K) h
def D31 : Info := ⟨15, fun i => ([], []), fun i => ([], [])⟩
def W31 (v0 : AV) (v1 : AV) (v2 : AV) (H : Heap) (K : AV → Heap → Prop) : Prop :=
 binV tab .geq 3 v0 v1 fun v9 =>
 grdV v9 true (binV tab .leq 3 v0 v2 fun v13 =>
 K v13 H)
 (K (AV.p (.bool false)) H)
theorem W31_wp (v0 : AV) (v1 : AV) (v2 : AV) (H : Heap) (K : AV → Heap → Prop) : wpC Try.prog tab D31 (bodyOf Try.f31) (retF tab [.tmp 6] K) (nthA [v0, v1, v2]) H = W31 v0 v1 v2 H K := by kernel_rfl
theorem W31_ok {v0 v1 v2 : AV} {H : Heap} {K : AV → Heap → Prop} (h : W31 v0 v1 v2 H K) : CallT Try.prog 31 [v0, v1, v2] H K :=
  CallT.of_wp (D := D31) tab_ok mixed Try.func31 (c := bodyOf Try.f31) (by kernel_rfl) rfl (by kernel_rfl) (rs := #[.tmp 6]) rfl (by decide +kernel) (by kernel_rfl) (W31_wp v0 v1 v2 H K) h
def D32 : Info := ⟨17, fun i => ([], []), fun i => if i = 2 then ([1, 7, 8], [9]) else ([], [])⟩
def L32_0 (K : AV → Heap → Prop) (v1 : AV) (v7 : AV) (v8 : AV) (v9 : AV) (H : Heap) : Prop := LoopV (wpC Try.prog tab D32 (cAt [1, 0, 1, 0, 0] (bodyOf Try.f32))) [1, 7, 8] (PostF.block 0 (PostF.thenA (wpC Try.prog tab D32 (cAt [1, 1] (bodyOf Try.f32))) (retF tab [.tmp 4] K))) [9] [AV.any, v1, AV.any, AV.any, AV.any, AV.any, AV.any, v7, v8, v9, AV.any, AV.any, AV.any, AV.any, AV.any, AV.any, AV.any] H
def B32_0 (K : AV → Heap → Prop) (N1 : AV → Heap → Prop) (v1 : AV) (v7 : AV) (v8 : AV) (v9 : AV) (H : Heap) : Prop :=
 binV tab .lss 3 v9 v8 fun v10 =>
 condV v10 (indexAddrV tab 28 v7 v9 fun v11 =>
 loadV tab 3 v11 H fun v12 =>
 binV tab .eql 3 v12 v1 fun v15 =>
 condV v15 (K (AV.p (.bool true)) H)
 (binV tab .add 3 v9 (AV.p (.int .i64 1)) fun v16 =>
 N1 v16 H))
 (K (AV.p (.bool false)) H)
def W32 (v0 : AV) (v1 : AV) (H : Heap) (K : AV → Heap → Prop) : Prop :=
 lenV tab 28 v0 fun v8 =>
 L32_0 K v1 v0 v8 (AV.p (.int .i64 0)) H
theorem W32_wp (v0 : AV) (v1 : AV) (H : Heap) (K : AV → Heap → Prop) : wpC Try.prog tab D32 (bodyOf Try.f32) (retF tab [.tmp 4] K) (nthA [v0, v1]) H = W32 v0 v1 H K := by kernel_rfl
theorem W32_ok {v0 v1 : AV} {H : Heap} {K : AV → Heap → Prop} (h : W32 v0 v1 H K) : CallT Try.prog 32 [v0, v1] H K :=
  CallT.of_wp (D := D32) tab_ok mixed Try.func32 (c := bodyOf Try.f32) (by kernel_rfl) rfl (by kernel_rfl) (rs := #[.tmp 4]) rfl (by decide +kernel) (by kernel_rfl) (W32_wp v0 v1 H K) h
theorem L32_0_rule {K : AV → Heap → Prop} {v1 v7 v8 v9 : AV} {H : Heap} {σ : Type} (s0 : σ) (f9 : σ → AV) (TH : σ → Heap) (pre : σ → Prop) (μ : σ → Nat)
    (h0 : pre s0 ∧ AV.wk v9 (f9 s0) ∧ Heap.le (TH s0) H)
    (round : ∀ s, pre s → B32_0 K (fun w9 H' => ∃ s', pre s' ∧ μ s' < μ s ∧ AV.wk w9 (f9 s') ∧ Heap.le (TH s') H') v1 v7 v8 (f9 s) (TH s)) :
    L32_0 K v1 v7 v8 v9 H := by
  unfold L32_0
  exact LoopV.mk s0 (fun s => [f9 s]) TH pre μ (fun _ => rfl) (Eq.mp (by kernel_rfl) h0) (fun s hs => Eq.mp (by kernel_rfl) (round s hs))
end Go.Proofs.Ytginibofnkiofaa
namespace Go.Proofs.Ytginibofnkiofaa
open Go Go.Sep
attribute [local irreducible] wpC headF
def D34 : Info := ⟨32, fun i => ([], []), fun i => if i = 3 then ([0, 1], [7, 8]) else ([], [])⟩
def L34_0 (K : AV → Heap → Prop) (v0 : AV) (v1 : AV) (v7 : AV) (v8 : AV) (H : Heap) : Prop := LoopV (wpC Try.prog tab D34 (cAt [1, 1, 0, 1, 0, 0] (bodyOf Try.f34))) [0, 1] (PostF.block 0 (PostF.thenA (wpC Try.prog tab D34 (cAt [1, 1, 1] (bodyOf Try.f34))) (retF tab [.tmp 6] K))) [7, 8] [v0, v1, AV.any, AV.any, AV.any, AV.any, AV.any, v7, v8, AV.any, AV.any, AV.any, AV.any, AV.any, AV.any, AV.any, AV.any, AV.any, AV.any, AV.any, AV.any, AV.any, AV.any, AV.any, AV.any, AV.any, AV.any, AV.any, AV.any, AV.any, AV.any, AV.any] H
def J34_1 (K : AV → Heap → Prop) (N1 : AV → AV → Heap → Prop) (v0 : AV) (v1 : AV) (v7 : AV) (v8 : AV) (v9 : AV) (H : Heap) : Prop :=
 buildSliceV tab 28 1 [(0, v9)] H (wkK fun v29 H5 =>
 appendV tab 28 28 v7 v29 H5 (wkK fun v30 H6 =>
 binV tab .sub 3 v8 (AV.p (.int .i64 1)) fun v17 =>
 N1 v30 v17 H6))
def B34_0 (K : AV → Heap → Prop) (N1 : AV → AV → Heap → Prop) (v0 : AV) (v1 : AV) (v7 : AV) (v8 : AV) (H : Heap) : Prop :=
 binV tab .gtr 3 v8 (AV.p (.int .i64 0)) fun v15 =>
 condV v15 (CallT Try.prog 53 [v1] H fun v20 H2 =>
 CallT Try.prog 27 [v0, v20] H2 fun v21 H3 =>
 binV tab .add 3 (AV.p (.int .i64 1)) v21 fun v22 =>
 CallT Try.prog 54 [v0, (AV.p (.int .i64 2))] H3 fun v24 H4 =>
 condV v24 (unV .neg v22 fun v26 =>
 J34_1 K N1 v0 v1 v7 v8 v26 H4)
 (J34_1 K N1 v0 v1 v7 v8 v22 H4))
 (K v7 H)
def W34 (v0 : AV) (v1 : AV) (v2 : AV) (H : Heap) (K : AV → Heap → Prop) : Prop :=
 binV tab .add 3 v2 (AV.p (.int .i64 1)) fun v12 =>
 CallT Try.prog 27 [v0, v12] H fun v13 H1 =>
 L34_0 K v0 v1 (AV.p .nil) v13 H1
theorem W34_wp (v0 : AV) (v1 : AV) (v2 : AV) (H : Heap) (K : AV → Heap → Prop) : wpC Try.prog tab D34 (bodyOf Try.f34) (retF tab [.tmp 6] K) (nthA [v0, v1, v2]) H = W34 v0 v1 v2 H K := by kernel_rfl
theorem W34_ok {v0 v1 v2 : AV} {H : Heap} {K : AV → Heap → Prop} (h : W34 v0 v1 v2 H K) : CallT Try.prog 34 [v0, v1, v2] H K :=
  CallT.of_wp (D := D34) tab_ok mixed Try.func34 (c := bodyOf Try.f34) (by kernel_rfl) rfl (by kernel_rfl) (rs := #[.tmp 6]) rfl (by decide +kernel) (by kernel_rfl) (W34_wp v0 v1 v2 H K) h
theorem W34_hb : HasBody Try.prog 34 := ⟨_, bodyOf Try.f34, Try.func34, by kernel_rfl, rfl⟩
theorem L34_0_rule {K : AV → Heap → Prop} {v0 v1 v7 v8 : AV} {H : Heap} {σ : Type} (s0 : σ) (f7 : σ → AV) (f8 : σ → AV) (TH : σ → Heap) (pre : σ → Prop) (μ : σ → Nat)
    (h0 : pre s0 ∧ AV.wk v7 (f7 s0) ∧ AV.wk v8 (f8 s0) ∧ Heap.le (TH s0) H)
    (round : ∀ s, pre s → B34_0 K (fun w7 w8 H' => ∃ s', pre s' ∧ μ s' < μ s ∧ AV.wk w7 (f7 s') ∧ AV.wk w8 (f8 s') ∧ Heap.le (TH s') H') v0 v1 (f7 s) (f8 s) (TH s)) :
    L34_0 K v0 v1 v7 v8 H := by
  unfold L34_0
  exact LoopV.mk s0 (fun s => [f7 s, f8 s]) TH pre μ (fun _ => rfl) (Eq.mp (by kernel_rfl) h0) (fun s hs => Eq.mp (by kernel_rfl) (round s hs))
def D35 : Info := ⟨14, fun i => ([], []), fun i => ([], [])⟩
def W35 (v0 : AV) (v1 : AV) (H : Heap) (K : AV → Heap → Prop) : Prop :=
 boxV v1 H fun v3 H1 =>
 lenV tab 28 v0 fun v6 =>
 binV tab .leq 3 v6 (AV.p (.int .i64 8)) fun v7 =>
 grdV v7 true (CallT Try.prog 55 [v0, (.fn 56 [v3])] H1 fun v11 H2 =>
 unV .not v11 fun v12 =>
 K v12 H2)
 (K (AV.p (.bool false)) H1)
theorem W35_wp (v0 : AV) (v1 : AV) (H : Heap) (K : AV → Heap → Prop) : wpC Try.prog tab D35 (bodyOf Try.f35) (retF tab [.tmp 4] K) (nthA [v0, v1]) H = W35 v0 v1 H K := by kernel_rfl
theorem W35_ok {v0 v1 : AV} {H : Heap} {K : AV → Heap → Prop} (h : W35 v0 v1 H K) : CallT Try.prog 35 [v0, v1] H K :=
  CallT.of_wp (D := D35) tab_ok mixed Try.func35 (c := bodyOf Try.f35) (by kernel_rfl) rfl (by kernel_rfl) (rs := #[.tmp 4]) rfl (by decide +kernel) (by kernel_rfl) (W35_wp v0 v1 H K) h
def D37 : Info := ⟨15, fun i => ([], []), fun i => ([], [])⟩
def W37 (v0 : AV) (v1 : AV) (H : Heap) (K : AV → Heap → Prop) : Prop :=
 CallT Try.prog 62 [v0] H fun v6 H1 =>
 CallT Try.prog 62 [v1] H1 fun v8 H2 =>
 CallT Try.prog 61 [v6, v8] H2 fun v9 H3 =>
 CallT Try.prog 61 [v0, v1] H3 fun v12 H4 =>
 buildSliceV tab 28 2 [(0, v9), (1, v12)] H4 (wkK fun v13 H5 =>
 CallT Try.prog 60 [v13] H5 fun v14 H6 =>
 K v14 H6)
theorem W37_wp (v0 : AV) (v1 : AV) (H : Heap) (K : AV → Heap → Prop) : wpC Try.prog tab D37 (bodyOf Try.f37) (retF tab [.tmp 4] K) (nthA [v0, v1]) H = W37 v0 v1 H K := by kernel_rfl
theorem W37_ok {v0 v1 : AV} {H : Heap} {K : AV → Heap → Prop} (h : W37 v0 v1 H K) : CallT Try.prog 37 [v0, v1] H K :=
  CallT.of_wp (D := D37) tab_ok mixed Try.func37 (c := bodyOf Try.f37) (by kernel_rfl) rfl (by kernel_rfl) (rs := #[.tmp 4]) rfl (by decide +kernel) (by kernel_rfl) (W37_wp v0 v1 H K) h
def D39 : Info := ⟨27, fun i => ([], []), fun i => if i = 4 then ([0, 10, 11], [12]) else ([], [])⟩
def L39_0 (K : AV → Heap → Prop) (v0 : AV) (v10 : AV) (v11 : AV) (v12 : AV) (H : Heap) : Prop := LoopV (wpC Try.prog tab D39 (cAt [1, 1, 0, 1, 0, 0] (bodyOf Try.f39))) [0, 10, 11] (PostF.block 0 (PostF.thenA (wpC Try.prog tab D39 (cAt [1, 1, 1] (bodyOf Try.f39))) (retF tab [.tmp 4] K))) [12] [v0, AV.any, AV.any, AV.any, AV.any, AV.any, AV.any, AV.any, AV.any, AV.any, v10, v11, v12, AV.any, AV.any, AV.any, AV.any, AV.any, AV.any, AV.any, AV.any, AV.any, AV.any, AV.any, AV.any, AV.any, AV.any] H
def B39_0 (K : AV → Heap → Prop) (N1 : AV → Heap → Prop) (v0 : AV) (v10 : AV) (v11 : AV) (v12 : AV) (H : Heap) : Prop :=
 binV tab .lss 3 v12 v11 fun v13 =>
 condV v13 (indexAddrV tab 28 v10 v12 fun v14 =>
 loadV tab 3 v14 H fun v15 =>
 binV tab .eql 3 v15 (AV.p (.int .i64 0)) fun v17 =>
 grdV v17 false (unV .neg v0 fun v21 =>
 CallT Try.prog 31 [v15, v21, v0] H fun v23 H1 =>
 unV .not v23 fun v24 =>
 condV v24 (K (AV.p (.bool false)) H1)
 (binV tab .add 3 v12 (AV.p (.int .i64 1)) fun v26 =>
 N1 v26 H1))
 (K (AV.p (.bool false)) H))
 (K (AV.p (.bool true)) H)
def W39 (v0 : AV) (v1 : AV) (H : Heap) (K : AV → Heap → Prop) : Prop :=
 lenV tab 28 v1 fun v8 =>
 binV tab .gtr 3 v8 (AV.p (.int .i64 8)) fun v9 =>
 condV v9 (K (AV.p (.bool false)) H)
 (lenV tab 28 v1 fun v11 =>
 L39_0 K v0 v1 v11 (AV.p (.int .i64 0)) H)
theorem W39_wp (v0 : AV) (v1 : AV) (H : Heap) (K : AV → Heap → Prop) : wpC Try.prog tab D39 (bodyOf Try.f39) (retF tab [.tmp 4] K) (nthA [v0, v1]) H = W39 v0 v1 H K := by kernel_rfl
theorem W39_ok {v0 v1 : AV} {H : Heap} {K : AV → Heap → Prop} (h : W39 v0 v1 H K) : CallT Try.prog 39 [v0, v1] H K :=
  CallT.of_wp (D := D39) tab_ok mixed Try.func39 (c := bodyOf Try.f39) (by kernel_rfl) rfl (by kernel_rfl) (rs := #[.tmp 4]) rfl (by decide +kernel) (by kernel_rfl) (W39_wp v0 v1 H K) h
theorem L39_0_rule {K : AV → Heap → Prop} {v0 v10 v11 v12 : AV} {H : Heap} {σ : Type} (s0 : σ) (f12 : σ → AV) (TH : σ → Heap) (pre : σ → Prop) (μ : σ → Nat)
    (h0 : pre s0 ∧ AV.wk v12 (f12 s0) ∧ Heap.le (TH s0) H)
    (round : ∀ s, pre s → B39_0 K (fun w12 H' => ∃ s', pre s' ∧ μ s' < μ s ∧ AV.wk w12 (f12 s') ∧ Heap.le (TH s') H') v0 v10 v11 (f12 s) (TH s)) :
    L39_0 K v0 v10 v11 v12 H := by
  unfold L39_0
  exact LoopV.mk s0 (fun s => [f12 s]) TH pre μ (fun _ => rfl) (Eq.mp (by kernel_rfl) h0) (fun s hs => Eq.mp (by kernel_rfl) (round s hs))
def D40 : Info := ⟨22, fun i => ([], []), fun i => ([], [])⟩
def W40 (v0 : AV) (H : Heap) (K : AV → Heap → Prop) : Prop :=
 boxV v0 H fun v1 H1 =>
 fieldAddrV tab 44 v1 0 fun v3 =>
 loadV tab 3 v3 H1 fun v4 =>
 binV tab .lss 3 v4 (AV.p (.int .i64 0)) fun v5 =>
 grdV v5 false (fieldAddrV tab 44 v1 0 fun v7 =>
 loadV tab 3 v7 H1 fun v8 =>
 binV tab .gtr 3 v8 (AV.p (.int .i64 400)) fun v9 =>
 grdV v9 false (fieldAddrV tab 44 v1 1 fun v12 =>
 loadV tab 24 v12 H1 fun v13 =>
 lenV tab 24 v13 fun v14 =>
 binV tab .gtr 3 v14 (AV.p (.int .i64 1400)) fun v15 =>
 condV v15 (K (AV.p (.bool false)) H1)
 (fieldAddrV tab 44 v1 1 fun v17 =>
 loadV tab 24 v17 H1 fun v18 =>
 CallT Try.prog 63 [v18, (.fn 64 [v1])] H1 fun v20 H2 =>
 unV .not v20 fun v21 =>
 K v21 H2))
 (K (AV.p (.bool false)) H1))
 (K (AV.p (.bool false)) H1)
theorem W40_wp (v0 : AV) (H : Heap) (K : AV → Heap → Prop) : wpC Try.prog tab D40 (bodyOf Try.f40) (retF tab [.tmp 2] K) (nthA [v0]) H = W40 v0 H K := by kernel_rfl
theorem W40_ok {v0 : AV} {H : Heap} {K : AV → Heap → Prop} (h : W40 v0 H K) : CallT Try.prog 40 [v0] H K :=
  CallT.of_wp (D := D40) tab_ok mixed Try.func40 (c := bodyOf Try.f40) (by kernel_rfl) rfl (by kernel_rfl) (rs := #[.tmp 2]) rfl (by decide +kernel) (by kernel_rfl) (W40_wp v0 H K) h
def D41 : Info := ⟨10, fun i => ([], []), fun i => ([], [])⟩
def W41 (v0 : AV) (v1 : AV) (H : Heap) (K : AV → Heap → Prop) : Prop :=
 boxV v0 H fun v2 H1 =>
 boxV v1 H1 fun v3 H2 =>
 fieldAddrV tab 44 v2 1 fun v5 =>
 loadV tab 24 v5 H2 fun v6 =>
 CallT Try.prog 63 [v6, (.fn 65 [v3])] H2 fun v8 H3 =>
 unV .not v8 fun v9 =>
 K v9 H3
theorem W41_wp (v0 : AV) (v1 : AV) (H : Heap) (K : AV → Heap → Prop) : wpC Try.prog tab D41 (bodyOf Try.f41) (retF tab [.tmp 4] K) (nthA [v0, v1]) H = W41 v0 v1 H K := by kernel_rfl
theorem W41_ok {v0 v1 : AV} {H : Heap} {K : AV → Heap → Prop} (h : W41 v0 v1 H K) : CallT Try.prog 41 [v0, v1] H K :=
  CallT.of_wp (D := D41) tab_ok mixed Try.func41 (c := bodyOf Try.f41) (by kernel_rfl) rfl (by kernel_rfl) (rs := #[.tmp 4]) rfl (by decide +kernel) (by kernel_rfl) (W41_wp v0 v1 H K) h
end Go.Proofs.Ytginibofnkiofaa
namespace Go.Proofs.Ytginibofnkiofaa
open Go Go.Sep
attribute [local irreducible] wpC headF
def D49 : Info := ⟨62, fun i => if i = 2 then ([[], [0], [0, 1], [0, 1, 2], [], [4], [4, 5], [4, 5, 6], [4, 5, 6, 7], [0, 1, 2, 3, 4, 5, 6, 7, 8]], [(0, []), (1, []), (2, []), (3, []), (4, []), (5, []), (6, []), (7, []), (8, []), (9, [])]) else if i = 3 then ([[], [0], [0, 1], [0, 1, 2], [], [4], [4, 5], [4, 5, 6], [0, 1, 2, 3, 4, 5, 6, 7], [0, 1, 2, 3, 4, 5, 6, 7, 8], [0, 1, 2, 3, 4, 5, 6, 7, 8, 9], [0, 1, 2, 3, 4, 5, 6, 7, 8, 9, 10]], [(0, []), (1, []), (2, []), (3, []), (4, []), (5, []), (6, []), (7, []), (8, []), (9, []), (10, []), (11, [])]) else if i = 6 then ([[], [0], [0, 1], [0, 1, 2], [], [4], [4, 5], [4, 5, 6], [4, 5, 6, 7], [0, 1, 2, 3, 4, 5, 6, 7, 8]], [(0, []), (1, []), (2, []), (3, []), (4, []), (5, []), (6, []), (7, []), (8, []), (9, [])]) else ([], []), fun i => ([], [])⟩
def J49_0 (K : AV → Heap → Prop) (v0 : AV) (v3 : AV) (H : Heap) : Prop :=
 nilCheckV v0 fun v26 =>
 fieldAddrV tab 52 v26 1 fun v27 =>
 loadV tab 3 v27 H fun v28 =>
 binV tab .add 3 v28 (AV.p (.int .i64 1)) fun v29 =>
 nilCheckV v0 fun v30 =>
 fieldAddrV tab 52 v30 1 fun v31 =>
 storeV tab 3 v31 v29 H fun H1 =>
 nilCheckV v0 fun v34 =>
 fieldAddrV tab 52 v34 2 fun v35 =>
 loadV tab 50 v35 H1 fun v36 =>
 binV tab .mul 50 v36 (AV.p (.int .u64 6364136223846793005)) fun v37 =>
 convV tab 3 50 v3 fun v39 =>
 binV tab .add 50 v37 v39 fun v40 =>
 binV tab .add 50 v40 (AV.p (.int .u64 1442695040888963407)) fun v41 =>
 nilCheckV v0 fun v42 =>
 fieldAddrV tab 52 v42 2 fun v43 =>
 storeV tab 50 v43 v41 H1 fun H2 =>
 nilCheckV v0 fun v45 =>
 fieldAddrV tab 52 v45 1 fun v46 =>
 loadV tab 3 v46 H2 fun v47 =>
 nilCheckV v0 fun v49 =>
 fieldAddrV tab 52 v49 0 fun v50 =>
 loadV tab 22 v50 H2 fun v51 =>
 lenV tab 22 v51 fun v52 =>
 binV tab .leq 3 v47 v52 fun v53 =>
 condV v53 (K v3 H2)
 (nilCheckV v0 fun v56 =>
 fieldAddrV tab 52 v56 2 fun v57 =>
 loadV tab 50 v57 H2 fun v58 =>
 binV tab .shr 50 v58 (AV.p (.int .u64 40)) fun v59 =>
 binV tab .and 50 v59 (AV.p (.int .u64 255)) fun v60 =>
 convV tab 50 3 v60 fun v61 =>
 K v61 H2)
def W49 (v0 : AV) (H : Heap) (K : AV → Heap → Prop) : Prop :=
 nilCheckV v0 fun v5 =>
 fieldAddrV tab 52 v5 1 fun v6 =>
 loadV tab 3 v6 H fun v7 =>
 nilCheckV v0 fun v9 =>
 fieldAddrV tab 52 v9 0 fun v10 =>
 loadV tab 22 v10 H fun v11 =>
 lenV tab 22 v11 fun v12 =>
 binV tab .lss 3 v7 v12 fun v13 =>
 condV v13 (nilCheckV v0 fun v15 =>
 fieldAddrV tab 52 v15 0 fun v16 =>
 loadV tab 22 v16 H fun v17 =>
 nilCheckV v0 fun v19 =>
 fieldAddrV tab 52 v19 1 fun v20 =>
 loadV tab 3 v20 H fun v21 =>
 indexAddrV tab 22 v17 v21 fun v22 =>
 loadV tab 5 v22 H fun v23 =>
 convV tab 5 3 v23 fun v24 =>
 J49_0 K v0 v24 H)
 (J49_0 K v0 (AV.p (.int .i64 0)) H)
theorem W49_wp (v0 : AV) (H : Heap) (K : AV → Heap → Prop) : wpC Try.prog tab D49 (bodyOf Try.f49) (retF tab [.tmp 2] K) (nthA [v0]) H = W49 v0 H K := by kernel_rfl
theorem W49_ok {v0 : AV} {H : Heap} {K : AV → Heap → Prop} (h : W49 v0 H K) : CallT Try.prog 49 [v0] H K :=
  CallT.of_wp (D := D49) tab_ok mixed Try.func49 (c := bodyOf Try.f49) (by kernel_rfl) rfl (by kernel_rfl) (rs := #[.tmp 2]) rfl (by decide +kernel) (by kernel_rfl) (W49_wp v0 H K) h
def D50 : Info := ⟨19, fun i => ([], []), fun i => if i = 2 then ([0, 1, 7], [8]) else ([], [])⟩
def L50_0 (K : AV → Heap → Prop) (v0 : AV) (v1 : AV) (v7 : AV) (v8 : AV) (H : Heap) : Prop := LoopV (wpC Try.prog tab D50 (cAt [1, 0, 1, 0, 0] (bodyOf Try.f50))) [0, 1, 7] (PostF.block 0 (PostF.thenA (wpC Try.prog tab D50 (cAt [1, 1] (bodyOf Try.f50))) (retF tab [.tmp 4] K))) [8] [v0, v1, AV.any, AV.any, AV.any, AV.any, AV.any, v7, v8, AV.any, AV.any, AV.any, AV.any, AV.any, AV.any, AV.any, AV.any, AV.any, AV.any] H
def B50_0 (K : AV → Heap → Prop) (N1 : AV → Heap → Prop) (v0 : AV) (v1 : AV) (v7 : AV) (v8 : AV) (H : Heap) : Prop :=
 binV tab .lss 3 v8 v7 fun v9 =>
 condV v9 (indexAddrV tab 28 v0 v8 fun v14 =>
 loadV tab 3 v14 H fun v15 =>
 binV tab .eql 3 v1 v15 fun v16 =>
 condV v16 (K v8 H)
 (binV tab .add 3 v8 (AV.p (.int .i64 1)) fun v18 =>
 N1 v18 H))
 (K (AV.p (.int .i64 (-1))) H)
def W50 (v0 : AV) (v1 : AV) (H : Heap) (K : AV → Heap → Prop) : Prop :=
 lenV tab 28 v0 fun v7 =>
 L50_0 K v0 v1 v7 (AV.p (.int .i64 0)) H
theorem W50_wp (v0 : AV) (v1 : AV) (H : Heap) (K : AV → Heap → Prop) : wpC Try.prog tab D50 (bodyOf Try.f50) (retF tab [.tmp 4] K) (nthA [v0, v1]) H = W50 v0 v1 H K := by kernel_rfl
theorem W50_ok {v0 v1 : AV} {H : Heap} {K : AV → Heap → Prop} (h : W50 v0 v1 H K) : CallT Try.prog 50 [v0, v1] H K :=
  CallT.of_wp (D := D50) tab_ok mixed Try.func50 (c := bodyOf Try.f50) (by kernel_rfl) rfl (by kernel_rfl) (rs := #[.tmp 4]) rfl (by decide +kernel) (by kernel_rfl) (W50_wp v0 v1 H K) h
theorem L50_0_rule {K : AV → Heap → Prop} {v0 v1 v7 v8 : AV} {H : Heap} {σ : Type} (s0 : σ) (f8 : σ → AV) (TH : σ → Heap) (pre : σ → Prop) (μ : σ → Nat)
    (h0 : pre s0 ∧ AV.wk v8 (f8 s0) ∧ Heap.le (TH s0) H)
    (round : ∀ s, pre s → B50_0 K (fun w8 H' => ∃ s', pre s' ∧ μ s' < μ s ∧ AV.wk w8 (f8 s') ∧ Heap.le (TH s') H') v0 v1 v7 (f8 s) (TH s)) :
    L50_0 K v0 v1 v7 v8 H := by
  unfold L50_0
  exact LoopV.mk s0 (fun s => [f8 s]) TH pre μ (fun _ => rfl) (Eq.mp (by kernel_rfl) h0) (fun s hs => Eq.mp (by kernel_rfl) (round s hs))
def D53 : Info := ⟨6, fun i => ([], []), fun i => ([], [])⟩
def W53 (v0 : AV) (H : Heap) (K : AV → Heap → Prop) : Prop :=
 binV tab .lss 3 v0 (AV.p (.int .i64 1)) fun v4 =>
 condV v4 (K (AV.p (.int .i64 1)) H)
 (K v0 H)
theorem W53_wp (v0 : AV) (H : Heap) (K : AV → Heap → Prop) : wpC Try.prog tab D53 (bodyOf Try.f53) (retF tab [.tmp 2] K) (nthA [v0]) H = W53 v0 H K := by kernel_rfl
theorem W53_ok {v0 : AV} {H : Heap} {K : AV → Heap → Prop} (h : W53 v0 H K) : CallT Try.prog 53 [v0] H K :=
  CallT.of_wp (D := D53) tab_ok mixed Try.func53 (c := bodyOf Try.f53) (by kernel_rfl) rfl (by kernel_rfl) (rs := #[.tmp 2]) rfl (by decide +kernel) (by kernel_rfl) (W53_wp v0 H K) h
def D54 : Info := ⟨9, fun i => ([], []), fun i => ([], [])⟩
def W54 (v0 : AV) (v1 : AV) (H : Heap) (K : AV → Heap → Prop) : Prop :=
 CallT Try.prog 27 [v0, v1] H fun v7 H1 =>
 binV tab .eql 3 v7 (AV.p (.int .i64 0)) fun v8 =>
 K v8 H1
theorem W54_wp (v0 : AV) (v1 : AV) (H : Heap) (K : AV → Heap → Prop) : wpC Try.prog tab D54 (bodyOf Try.f54) (retF tab [.tmp 4] K) (nthA [v0, v1]) H = W54 v0 v1 H K := by kernel_rfl
theorem W54_ok {v0 v1 : AV} {H : Heap} {K : AV → Heap → Prop} (h : W54 v0 v1 H K) : CallT Try.prog 54 [v0, v1] H K :=
  CallT.of_wp (D := D54) tab_ok mixed Try.func54 (c := bodyOf Try.f54) (by kernel_rfl) rfl (by kernel_rfl) (rs := #[.tmp 4]) rfl (by decide +kernel) (by kernel_rfl) (W54_wp v0 v1 H K) h
def D55 : Info := ⟨9, fun i => ([], []), fun i => ([], [])⟩
def W55 (v0 : AV) (v1 : AV) (H : Heap) (K : AV → Heap → Prop) : Prop :=
 CallT Try.prog 75 [v0, v1] H fun v7 H1 =>
 binV tab .geq 3 v7 (AV.p (.int .i64 0)) fun v8 =>
 K v8 H1
theorem W55_wp (v0 : AV) (v1 : AV) (H : Heap) (K : AV → Heap → Prop) : wpC Try.prog tab D55 (bodyOf Try.f55) (retF tab [.tmp 4] K) (nthA [v0, v1]) H = W55 v0 v1 H K := by kernel_rfl
theorem W55_ok {v0 v1 : AV} {H : Heap} {K : AV → Heap → Prop} (h : W55 v0 v1 H K) : CallT Try.prog 55 [v0, v1] H K :=
  CallT.of_wp (D := D55) tab_ok mixed Try.func55 (c := bodyOf Try.f55) (by kernel_rfl) rfl (by kernel_rfl) (rs := #[.tmp 4]) rfl (by decide +kernel) (by kernel_rfl) (W55_wp v0 v1 H K) h
def D56 : Info := ⟨8, fun i => ([], []), fun i => ([], [])⟩
def W56 (v0 : AV) (v1 : AV) (H : Heap) (K : AV → Heap → Prop) : Prop :=
 loadV tab 3 v1 H fun v5 =>
 CallT Try.prog 57 [v0, v5] H fun v6 H1 =>
 unV .not v6 fun v7 =>
 K v7 H1
theorem W56_wp (v0 : AV) (v1 : AV) (H : Heap) (K : AV → Heap → Prop) : wpC Try.prog tab D56 (bodyOf Try.f56) (retF tab [.tmp 3] K) (nthA [v0, v1]) H = W56 v0 v1 H K := by kernel_rfl
theorem W56_ok {v0 v1 : AV} {H : Heap} {K : AV → Heap → Prop} (h : W56 v0 v1 H K) : CallT Try.prog 56 [v0, v1] H K :=
  CallT.of_wp (D := D56) tab_ok mixed Try.func56 (c := bodyOf Try.f56) (by kernel_rfl) rfl (by kernel_rfl) (rs := #[.tmp 3]) rfl (by decide +kernel) (by kernel_rfl) (W56_wp v0 v1 H K) h
def D57 : Info := ⟨18, fun i => ([], []), fun i => ([], [])⟩
def W57 (v0 : AV) (v1 : AV) (H : Heap) (K : AV → Heap → Prop) : Prop :=
 binV tab .neq 3 v0 (AV.p (.int .i64 0)) fun v6 =>
 grdV v6 true (unV .neg v1 fun v10 =>
 binV tab .geq 3 v0 v10 fun v11 =>
 grdV v11 true (binV tab .leq 3 v0 v1 fun v16 =>
 K v16 H)
 (K (AV.p (.bool false)) H))
 (K (AV.p (.bool false)) H)
theorem W57_wp (v0 : AV) (v1 : AV) (H : Heap) (K : AV → Heap → Prop) : wpC Try.prog tab D57 (bodyOf Try.f57) (retF tab [.tmp 4] K) (nthA [v0, v1]) H = W57 v0 v1 H K := by kernel_rfl
theorem W57_ok {v0 v1 : AV} {H : Heap} {K : AV → Heap → Prop} (h : W57 v0 v1 H K) : CallT Try.prog 57 [v0, v1] H K :=
  CallT.of_wp (D := D57) tab_ok mixed Try.func57 (c := bodyOf Try.f57) (by kernel_rfl) rfl (by kernel_rfl) (rs := #[.tmp 4]) rfl (by decide +kernel) (by kernel_rfl) (W57_wp v0 v1 H K) h
def D60 : Info := ⟨18, fun i => ([], []), fun i => if i = 3 then ([3, 6, 7], [8]) else ([], [])⟩
def L60_0 (K : AV → Heap → Prop) (v3 : AV) (v6 : AV) (v7 : AV) (v8 : AV) (H : Heap) : Prop := LoopV (wpC Try.prog tab D60 (cAt [1, 1, 0, 1, 0, 0] (bodyOf Try.f60))) [3, 6, 7] (PostF.block 0 (PostF.thenA (wpC Try.prog tab D60 (cAt [1, 1, 1] (bodyOf Try.f60))) (retF tab [.tmp 2] K))) [8] [AV.any, AV.any, AV.any, v3, AV.any, AV.any, v6, v7, v8, AV.any, AV.any, AV.any, AV.any, AV.any, AV.any, AV.any, AV.any, AV.any] H
def B60_0 (K : AV → Heap → Prop) (N1 : AV → Heap → Prop) (v3 : AV) (v6 : AV) (v7 : AV) (v8 : AV) (H : Heap) : Prop :=
 binV tab .lss 3 v8 v7 fun v9 =>
 condV v9 (indexAddrV tab 28 v6 v8 fun v10 =>
 loadV tab 3 v10 H fun v11 =>
 binV tab .neq 3 v11 v3 fun v14 =>
 condV v14 (K v11 H)
 (binV tab .add 3 v8 (AV.p (.int .i64 1)) fun v16 =>
 N1 v16 H))
 (K v3 H)
def W60 (v0 : AV) (H : Heap) (K : AV → Heap → Prop) : Prop :=
 lenV tab 28 v0 fun v7 =>
 L60_0 K (AV.p (.int .i64 0)) v0 v7 (AV.p (.int .i64 0)) H
theorem W60_wp (v0 : AV) (H : Heap) (K : AV → Heap → Prop) : wpC Try.prog tab D60 (bodyOf Try.f60) (retF tab [.tmp 2] K) (nthA [v0]) H = W60 v0 H K := by kernel_rfl
theorem W60_ok {v0 : AV} {H : Heap} {K : AV → Heap → Prop} (h : W60 v0 H K) : CallT Try.prog 60 [v0] H K :=
  CallT.of_wp (D := D60) tab_ok mixed Try.func60 (c := bodyOf Try.f60) (by kernel_rfl) rfl (by kernel_rfl) (rs := #[.tmp 2]) rfl (by decide +kernel) (by kernel_rfl) (W60_wp v0 H K) h
theorem L60_0_rule {K : AV → Heap → Prop} {v3 v6 v7 v8 : AV} {H : Heap} {σ : Type} (s0 : σ) (f8 : σ → AV) (TH : σ → Heap) (pre : σ → Prop) (μ : σ → Nat)
    (h0 : pre s0 ∧ AV.wk v8 (f8 s0) ∧ Heap.le (TH s0) H)
    (round : ∀ s, pre s → B60_0 K (fun w8 H' => ∃ s', pre s' ∧ μ s' < μ s ∧ AV.wk w8 (f8 s') ∧ Heap.le (TH s') H') v3 v6 v7 (f8 s) (TH s)) :
    L60_0 K v3 v6 v7 v8 H := by
  unfold L60_0
  exact LoopV.mk s0 (fun s => [f8 s]) TH pre μ (fun _ => rfl) (Eq.mp (by kernel_rfl) h0) (fun s hs => Eq.mp (by kernel_rfl) (round s hs))
def D61 : Info := ⟨20, fun i => ([], []), fun i => ([], [])⟩
def W61 (v0 : AV) (v1 : AV) (H : Heap) (K : AV → Heap → Prop) : Prop :=
 CallT Try.prog 86 [v0] H fun v8 H1 =>
 CallT Try.prog 86 [v1] H1 fun v10 H2 =>
 condV v8 (condV v10 (K (AV.p (.int .i64 0)) H2)
 (K (AV.p (.int .i64 (-1))) H2))
 (condV v10 (K (AV.p (.int .i64 1)) H2)
 (binV tab .lss 3 v0 v1 fun v16 =>
 condV v16 (K (AV.p (.int .i64 (-1))) H2)
 (binV tab .gtr 3 v0 v1 fun v19 =>
 condV v19 (K (AV.p (.int .i64 1)) H2)
 (K (AV.p (.int .i64 0)) H2))))
theorem W61_wp (v0 : AV) (v1 : AV) (H : Heap) (K : AV → Heap → Prop) : wpC Try.prog tab D61 (bodyOf Try.f61) (retF tab [.tmp 4] K) (nthA [v0, v1]) H = W61 v0 v1 H K := by kernel_rfl
theorem W61_ok {v0 v1 : AV} {H : Heap} {K : AV → Heap → Prop} (h : W61 v0 v1 H K) : CallT Try.prog 61 [v0, v1] H K :=
  CallT.of_wp (D := D61) tab_ok mixed Try.func61 (c := bodyOf Try.f61) (by kernel_rfl) rfl (by kernel_rfl) (rs := #[.tmp 4]) rfl (by decide +kernel) (by kernel_rfl) (W61_wp v0 v1 H K) h
def D62 : Info := ⟨7, fun i => ([], []), fun i => ([], [])⟩
def W62 (v0 : AV) (H : Heap) (K : AV → Heap → Prop) : Prop :=
 unV .neg v0 fun v5 =>
 mmV .max v0 v5 fun v6 =>
 K v6 H
theorem W62_wp (v0 : AV) (H : Heap) (K : AV → Heap → Prop) : wpC Try.prog tab D62 (bodyOf Try.f62) (retF tab [.tmp 2] K) (nthA [v0]) H = W62 v0 H K := by kernel_rfl
theorem W62_ok {v0 : AV} {H : Heap} {K : AV → Heap → Prop} (h : W62 v0 H K) : CallT Try.prog 62 [v0] H K :=
  CallT.of_wp (D := D62) tab_ok mixed Try.func62 (c := bodyOf Try.f62) (by kernel_rfl) rfl (by kernel_rfl) (rs := #[.tmp 2]) rfl (by decide +kernel) (by kernel_rfl) (W62_wp v0 H K) h
def D63 : Info := ⟨9, fun i => ([], []), fun i => ([], [])⟩
def W63 (v0 : AV) (v1 : AV) (H : Heap) (K : AV → Heap → Prop) : Prop :=
 CallT Try.prog 87 [v0, v1] H fun v7 H1 =>
 binV tab .geq 3 v7 (AV.p (.int .i64 0)) fun v8 =>
 K v8 H1
theorem W63_wp (v0 : AV) (v1 : AV) (H : Heap) (K : AV → Heap → Prop) : wpC Try.prog tab D63 (bodyOf Try.f63) (retF tab [.tmp 4] K) (nthA [v0, v1]) H = W63 v0 v1 H K := by kernel_rfl
theorem W63_ok {v0 v1 : AV} {H : Heap} {K : AV → Heap → Prop} (h : W63 v0 v1 H K) : CallT Try.prog 63 [v0, v1] H K :=
  CallT.of_wp (D := D63) tab_ok mixed Try.func63 (c := bodyOf Try.f63) (by kernel_rfl) rfl (by kernel_rfl) (rs := #[.tmp 4]) rfl (by decide +kernel) (by kernel_rfl) (W63_wp v0 v1 H K) h
def D64 : Info := ⟨9, fun i => ([], []), fun i => ([], [])⟩
def W64 (v0 : AV) (v1 : AV) (H : Heap) (K : AV → Heap → Prop) : Prop :=
 fieldAddrV tab 44 v1 0 fun v5 =>
 loadV tab 3 v5 H fun v6 =>
 CallT Try.prog 35 [v0, v6] H fun v7 H1 =>
 unV .not v7 fun v8 =>
 K v8 H1
theorem W64_wp (v0 : AV) (v1 : AV) (H : Heap) (K : AV → Heap → Prop) : wpC Try.prog tab D64 (bodyOf Try.f64) (retF tab [.tmp 3] K) (nthA [v0, v1]) H = W64 v0 v1 H K := by kernel_rfl
theorem W64_ok {v0 v1 : AV} {H : Heap} {K : AV → Heap → Prop} (h : W64 v0 v1 H K) : CallT Try.prog 64 [v0, v1] H K :=
  CallT.of_wp (D := D64) tab_ok mixed Try.func64 (c := bodyOf Try.f64) (by kernel_rfl) rfl (by kernel_rfl) (rs := #[.tmp 3]) rfl (by decide +kernel) (by kernel_rfl) (W64_wp v0 v1 H K) h
def D65 : Info := ⟨8, fun i => ([], []), fun i => ([], [])⟩
def W65 (v0 : AV) (v1 : AV) (H : Heap) (K : AV → Heap → Prop) : Prop :=
 CallT Try.prog 55 [v0, (.fn 66 [v1])] H fun v6 H1 =>
 unV .not v6 fun v7 =>
 K v7 H1
theorem W65_wp (v0 : AV) (v1 : AV) (H : Heap) (K : AV → Heap → Prop) : wpC Try.prog tab D65 (bodyOf Try.f65) (retF tab [.tmp 3] K) (nthA [v0, v1]) H = W65 v0 v1 H K := by kernel_rfl
theorem W65_ok {v0 v1 : AV} {H : Heap} {K : AV → Heap → Prop} (h : W65 v0 v1 H K) : CallT Try.prog 65 [v0, v1] H K :=
  CallT.of_wp (D := D65) tab_ok mixed Try.func65 (c := bodyOf Try.f65) (by kernel_rfl) rfl (by kernel_rfl) (rs := #[.tmp 3]) rfl (by decide +kernel) (by kernel_rfl) (W65_wp v0 v1 H K) h
def D66 : Info := ⟨13, fun i => if i = 1 then ([[], [], [1], [1, 2], [0, 1, 2, 3], [0, 1, 2, 3, 4], [], [6], [0, 1, 2, 3, 4, 5, 6, 7], [0, 1, 2, 3, 4, 5, 6, 7, 8]], [(0, []), (1, []), (6, []), (7, []), (2, [0]), (3, []), (4, []), (5, []), (8, []), (9, [])]) else ([], []), fun i => ([], [])⟩
def W66 (v0 : AV) (v1 : AV) (H : Heap) (K : AV → Heap → Prop) : Prop :=
 loadV tab 39 v1 H fun v4 =>
 binV tab .gtr 3 v0 (AV.p (.int .i64 0)) fun v11 =>
 CallT Try.prog 62 [v0] H fun v6 H1 =>
 (loadV tab 39 v1 H1 fun v9004 =>
 v4 = v9004) ∧
 binV tab .sub 3 v6 (AV.p (.int .i64 1)) fun v7 =>
 indexAddrV tab 39 v4 v7 fun v8 =>
 loadV tab 4 v8 H1 fun v9 =>
 binV tab .eql 4 v9 v11 fun v12 =>
 K v12 H1
theorem W66_wp (v0 : AV) (v1 : AV) (H : Heap) (K : AV → Heap → Prop) : wpC Try.prog tab D66 (bodyOf Try.f66) (retF tab [.tmp 3] K) (nthA [v0, v1]) H = W66 v0 v1 H K := by kernel_rfl
theorem W66_ok {v0 v1 : AV} {H : Heap} {K : AV → Heap → Prop} (h : W66 v0 v1 H K) : CallT Try.prog 66 [v0, v1] H K :=
  CallT.of_wp (D := D66) tab_ok mixed Try.func66 (c := bodyOf Try.f66) (by kernel_rfl) rfl (by kernel_rfl) (rs := #[.tmp 3]) rfl (by decide +kernel) (by kernel_rfl) (W66_wp v0 v1 H K) h
end Go.Proofs.Ytginibofnkiofaa
namespace Go.Proofs.Ytginibofnkiofaa
open Go Go.Sep
attribute [local irreducible] wpC headF
def D75 : Info := ⟨19, fun i => ([], []), fun i => if i = 2 then ([0, 1, 7], [8]) else ([], [])⟩
def L75_0 (K : AV → Heap → Prop) (v0 : AV) (v1 : AV) (v7 : AV) (v8 : AV) (H : Heap) : Prop := LoopV (wpC Try.prog tab D75 (cAt [1, 0, 1, 0, 0] (bodyOf Try.f75))) [0, 1, 7] (PostF.block 0 (PostF.thenA (wpC Try.prog tab D75 (cAt [1, 1] (bodyOf Try.f75))) (retF tab [.tmp 4] K))) [8] [v0, v1, AV.any, AV.any, AV.any, AV.any, AV.any, v7, v8, AV.any, AV.any, AV.any, AV.any, AV.any, AV.any, AV.any, AV.any, AV.any, AV.any] H
def B75_0 (K : AV → Heap → Prop) (N1 : AV → Heap → Prop) (v0 : AV) (v1 : AV) (v7 : AV) (v8 : AV) (H : Heap) : Prop :=
 binV tab .lss 3 v8 v7 fun v9 =>
 condV v9 (indexAddrV tab 28 v0 v8 fun v14 =>
 loadV tab 3 v14 H fun v15 =>
 callF Try.prog v1 [v15] H fun v16 H1 =>
 condV v16 (K v8 H1)
 (binV tab .add 3 v8 (AV.p (.int .i64 1)) fun v18 =>
 N1 v18 H1))
 (K (AV.p (.int .i64 (-1))) H)
def W75 (v0 : AV) (v1 : AV) (H : Heap) (K : AV → Heap → Prop) : Prop :=
 lenV tab 28 v0 fun v7 =>
 L75_0 K v0 v1 v7 (AV.p (.int .i64 0)) H
theorem W75_wp (v0 : AV) (v1 : AV) (H : Heap) (K : AV → Heap → Prop) : wpC Try.prog tab D75 (bodyOf Try.f75) (retF tab [.tmp 4] K) (nthA [v0, v1]) H = W75 v0 v1 H K := by kernel_rfl
theorem W75_ok {v0 v1 : AV} {H : Heap} {K : AV → Heap → Prop} (h : W75 v0 v1 H K) : CallT Try.prog 75 [v0, v1] H K :=
  CallT.of_wp (D := D75) tab_ok mixed Try.func75 (c := bodyOf Try.f75) (by kernel_rfl) rfl (by kernel_rfl) (rs := #[.tmp 4]) rfl (by decide +kernel) (by kernel_rfl) (W75_wp v0 v1 H K) h
theorem L75_0_rule {K : AV → Heap → Prop} {v0 v1 v7 v8 : AV} {H : Heap} {σ : Type} (s0 : σ) (f8 : σ → AV) (TH : σ → Heap) (pre : σ → Prop) (μ : σ → Nat)
    (h0 : pre s0 ∧ AV.wk v8 (f8 s0) ∧ Heap.le (TH s0) H)
    (round : ∀ s, pre s → B75_0 K (fun w8 H' => ∃ s', pre s' ∧ μ s' < μ s ∧ AV.wk w8 (f8 s') ∧ Heap.le (TH s') H') v0 v1 v7 (f8 s) (TH s)) :
    L75_0 K v0 v1 v7 v8 H := by
  unfold L75_0
  exact LoopV.mk s0 (fun s => [f8 s]) TH pre μ (fun _ => rfl) (Eq.mp (by kernel_rfl) h0) (fun s hs => Eq.mp (by kernel_rfl) (round s hs))
def D86 : Info := ⟨6, fun i => ([], []), fun i => ([], [])⟩
def W86 (v0 : AV) (H : Heap) (K : AV → Heap → Prop) : Prop :=
 binV tab .neq 3 v0 v0 fun v5 =>
 K v5 H
theorem W86_wp (v0 : AV) (H : Heap) (K : AV → Heap → Prop) : wpC Try.prog tab D86 (bodyOf Try.f86) (retF tab [.tmp 2] K) (nthA [v0]) H = W86 v0 H K := by kernel_rfl
theorem W86_ok {v0 : AV} {H : Heap} {K : AV → Heap → Prop} (h : W86 v0 H K) : CallT Try.prog 86 [v0] H K :=
  CallT.of_wp (D := D86) tab_ok mixed Try.func86 (c := bodyOf Try.f86) (by kernel_rfl) rfl (by kernel_rfl) (rs := #[.tmp 2]) rfl (by decide +kernel) (by kernel_rfl) (W86_wp v0 H K) h
def D87 : Info := ⟨19, fun i => ([], []), fun i => if i = 2 then ([0, 1, 7], [8]) else ([], [])⟩
def L87_0 (K : AV → Heap → Prop) (v0 : AV) (v1 : AV) (v7 : AV) (v8 : AV) (H : Heap) : Prop := LoopV (wpC Try.prog tab D87 (cAt [1, 0, 1, 0, 0] (bodyOf Try.f87))) [0, 1, 7] (PostF.block 0 (PostF.thenA (wpC Try.prog tab D87 (cAt [1, 1] (bodyOf Try.f87))) (retF tab [.tmp 4] K))) [8] [v0, v1, AV.any, AV.any, AV.any, AV.any, AV.any, v7, v8, AV.any, AV.any, AV.any, AV.any, AV.any, AV.any, AV.any, AV.any, AV.any, AV.any] H
def B87_0 (K : AV → Heap → Prop) (N1 : AV → Heap → Prop) (v0 : AV) (v1 : AV) (v7 : AV) (v8 : AV) (H : Heap) : Prop :=
 binV tab .lss 3 v8 v7 fun v9 =>
 condV v9 (indexAddrV tab 24 v0 v8 fun v14 =>
 loadV tab 28 v14 H fun v15 =>
 callF Try.prog v1 [v15] H fun v16 H1 =>
 condV v16 (K v8 H1)
 (binV tab .add 3 v8 (AV.p (.int .i64 1)) fun v18 =>
 N1 v18 H1))
 (K (AV.p (.int .i64 (-1))) H)
def W87 (v0 : AV) (v1 : AV) (H : Heap) (K : AV → Heap → Prop) : Prop :=
 lenV tab 24 v0 fun v7 =>
 L87_0 K v0 v1 v7 (AV.p (.int .i64 0)) H
theorem W87_wp (v0 : AV) (v1 : AV) (H : Heap) (K : AV → Heap → Prop) : wpC Try.prog tab D87 (bodyOf Try.f87) (retF tab [.tmp 4] K) (nthA [v0, v1]) H = W87 v0 v1 H K := by kernel_rfl
theorem W87_ok {v0 v1 : AV} {H : Heap} {K : AV → Heap → Prop} (h : W87 v0 v1 H K) : CallT Try.prog 87 [v0, v1] H K :=
  CallT.of_wp (D := D87) tab_ok mixed Try.func87 (c := bodyOf Try.f87) (by kernel_rfl) rfl (by kernel_rfl) (rs := #[.tmp 4]) rfl (by decide +kernel) (by kernel_rfl) (W87_wp v0 v1 H K) h
theorem L87_0_rule {K : AV → Heap → Prop} {v0 v1 v7 v8 : AV} {H : Heap} {σ : Type} (s0 : σ) (f8 : σ → AV) (TH : σ → Heap) (pre : σ → Prop) (μ : σ → Nat)
    (h0 : pre s0 ∧ AV.wk v8 (f8 s0) ∧ Heap.le (TH s0) H)
    (round : ∀ s, pre s → B87_0 K (fun w8 H' => ∃ s', pre s' ∧ μ s' < μ s ∧ AV.wk w8 (f8 s') ∧ Heap.le (TH s') H') v0 v1 v7 (f8 s) (TH s)) :
    L87_0 K v0 v1 v7 v8 H := by
  unfold L87_0
  exact LoopV.mk s0 (fun s => [f8 s]) TH pre μ (fun _ => rfl) (Eq.mp (by kernel_rfl) h0) (fun s hs => Eq.mp (by kernel_rfl) (round s hs))
end Go.Proofs.Ytginibofnkiofaa
namespace Go.Proofs.Ytginibofnkiofaa
open Go Go.Sep
attribute [local irreducible] CallT
theorem i64_id {n : Int} (h0 : -9223372036854775808 ≤ n) (h1 : n ≤ 9223372036854775807) : IntKind.i64.wrap n = n := wrap64_id h0 h1
theorem wk_int {k : IntKind} {a b : Int} : AV.wk (.p (.int k a)) (.p (.int k b)) = (a = b) := by
  apply propext; constructor
  · intro h; cases h; rfl
  · rintro rfl; exact .refl _
theorem take_all_succ {α : Type} {p : α → Bool} {xs : List α} {i : Nat} (h : i < xs.length) : (xs.take (i + 1)).all p = ((xs.take i).all p && p xs[i]) := by
  rw [List.take_succ_eq_append_getElem h, List.all_append]; simp
theorem getD_lt {α : Type} {xs : List α} {i : Nat} {d : α} (h : i < xs.length) : xs.getD i d = xs[i] := by simp [List.getD, h]
theorem getD_all {α : Type} {p : α → Prop} {l : List α} {d : α} (h : ∀ b ∈ l, p b) {i : Nat} (hi : i < l.length) : p (l.getD i d) := by
  simp only [List.getD, List.getElem?_eq_getElem hi, Option.getD_some]; exact h _ (List.getElem_mem hi)
theorem CallT.fin {P : Program} {f : Nat} {args : List AV} {H : Heap} {K : AV → Heap → Prop} (h : CallT P f args H (wkK K)) : CallT P f args H K :=
  h.wk fun v H1 ⟨v', H2, hw, hk⟩ => ⟨v', H2, hw, hk⟩
theorem szI (xs : List Int) : Sized 1 (xs.map eI) := sized_map (f := eI) (fun _ => rfl) xs
abbrev eL (l : List Int) : List PV := [.sl (l.map eI)]
abbrev Ls (cs : List (List Int)) : AV := .p (.sl (cs.map eL))
abbrev Bs (bs : List Bool) : AV := .p (.sl (bs.map eB))
def PuAt (P : Program) (f : Nat) (args : List AV) (H : Heap) (v : AV) : Prop := ∀ K : AV → Heap → Prop, K v H → CallT P f args H K
theorem Pu.at {P : Program} {f : Nat} {args : List AV} {v : AV} (h : Pu P f args v) (H : Heap) : PuAt P f args H v := fun K hk => h.use hk
theorem PuAt.use {P : Program} {f : Nat} {args : List AV} {v : AV} {H : Heap} (h : PuAt P f args H v) {K : AV → Heap → Prop} (k : K v H) : CallT P f args H K := h K k
def enumP : Nat → List PV → List (Nat × AV)
  | _, [] => []
  | k, v :: vs => (k, .p v) :: enumP (k + 1) vs
theorem fill_enum : ∀ (vs : List PV) (k : Nat) (a : List AV) (b : List AV), a.length = k → vs.length ≤ b.length →
    fillV (fun i => some (i * 1, 1)) (a ++ b) (enumP k vs) = some (a ++ vs.map .p ++ b.drop vs.length)
  | [], k, a, b, h1, h2 => by simp [enumP, fillV]
  | v :: vs, k, a, b, h1, h2 => by
    match b, h2 with
    | x :: b, h2 =>
      have hb : vs.length ≤ b.length := by simpa using h2
      have ih := fill_enum vs (k + 1) (a ++ [.p v]) b (by simp [h1]) hb
      simp only [enumP, fillV, AV.cells, List.length_cons, List.length_nil, Nat.zero_add, Nat.mul_one]
      rw [if_pos ⟨trivial, by simp [h1]⟩]
      have hs : splice (a ++ x :: b) k [AV.p v] = (a ++ [AV.p v]) ++ b := by
        subst h1
        simp [splice, List.append_assoc, List.drop_append]
      rw [hs]
      simp only [Nat.mul_one] at ih
      rw [ih]
      simp
theorem lit_gen {tab : Tab} {t e : Nat} {d ed : TD} {H : Heap} {K : AV → Heap → Prop} (h1 : tab t = some d) (h2 : d.k = .slice e) (h3 : tab e = some ed) (h4 : ed.size = 1 ∧ ed.zero.length = 1) (vs : List PV)
    (hsm : vs.length ≤ 1000)
    (h : K (.p (.sl (vs.map fun v => [v]))) H) : buildSliceV tab t vs.length (enumP 0 vs) H (wkK K) := by
  obtain ⟨z, hz⟩ : ∃ z, ed.zero = [z] := by
    match ed.zero, h4.2 with
    | [z], _ => exact ⟨z, rfl⟩
  simp only [buildSliceV, h1, h2, h3, h4.1]
  refine ⟨by omega, ?_⟩
  have hzl : (zerosA vs.length ed.zero).length = vs.length := by rw [zerosA_len, hz]; simp
  have := fill_enum vs 0 [] (zerosA vs.length ed.zero) rfl (by omega)
  rw [List.nil_append, List.nil_append, List.drop_of_length_le (by omega), List.append_nil] at this
  rw [this]
  intro r hr
  have hf : ∀ vs : List PV, (vs.map fun v => [v]).flatten = vs := by
    intro vs
    induction vs with
    | nil => rfl
    | cons v vs ih => simp only [List.map_cons, List.flatten_cons, ih, List.singleton_append]
  refine ⟨_, _, Wk.trans (Wk.frz (r := r) (sz := 1) (es := vs.map fun v => [v]) (v := .sl r 1 0 vs.length) (v' := .p (.sl (vs.map fun v => [v]))) (by omega) ?_ ?_ ?_) (.forget ?_), h⟩
  · rw [Heap.set_same, hf vs]
  · intro e he; obtain ⟨v, _, rfl⟩ := List.mem_map.1 he; rfl
  · have : FrzR r 1 (vs.map fun v => [v]) (.sl r 1 0 (vs.map fun v => [v]).length) (.p (.sl (vs.map fun v => [v]))) := .here
    rwa [List.length_map] at this
  · rw [Heap.del_set hr]; exact Heap.le_refl _
theorem lit2 {tab : Tab} {t e : Nat} {d ed : TD} {a b : PV} {H : Heap} {K : AV → Heap → Prop} (h1 : tab t = some d) (h2 : d.k = .slice e) (h3 : tab e = some ed) (h4 : ed.size = 1 ∧ ed.zero.length = 1)
    (h : K (.p (.sl [[a], [b]])) H) : buildSliceV tab t 2 [(0, .p a), (1, .p b)] H (wkK K) := lit_gen h1 h2 h3 h4 [a, b] (by simp) h
end Go.Proofs.Ytginibofnkiofaa
namespace Go.Proofs.Ytginibofnkiofaa
open Go Go.Sep
theorem typed_byte {x : List PV} (h : Typed Try.prog 5 x) : ∃ n : Int, (0 ≤ n ∧ n < 256) ∧ x = e8 n := by
  have hu : Try.prog.underlying 5 = some (.int .u8) := by kernel_rfl
  cases h with
  | bool h => rw [hu] at h; cases h
  | int h hw =>
    rw [hu] at h; cases h
    rename_i n
    refine ⟨n, ?_, rfl⟩
    simp only [Lit.wf, Bool.and_eq_true, decide_eq_true_eq] at hw
    have e1 : IntKind.u8.min = 0 := by decide
    have e2 : IntKind.u8.max = 255 := by decide
    rw [e1, e2] at hw
    omega
  | str h _ => rw [hu] at h; cases h
  | sl h _ _ => rw [hu] at h; cases h
  | struct h _ => rw [hu] at h; cases h
theorem typed_rows : ∀ (es : List (List PV)), (∀ x ∈ es, Typed Try.prog 5 x) → ∃ ns : List Int, (∀ b ∈ ns, 0 ≤ b ∧ b < 256) ∧ es = ns.map e8
  | [], _ => ⟨[], fun b hb => by simp at hb, rfl⟩
  | x :: es, h => by
    obtain ⟨n, hn, rfl⟩ := typed_byte (h x (by simp))
    obtain ⟨ns, hns, rfl⟩ := typed_rows es fun y hy => h y (by simp [hy])
    refine ⟨n :: ns, ?_, rfl⟩
    intro b hb
    rcases List.mem_cons.1 hb with rfl | hb
    · exact hn
    · exact hns b hb
theorem arg_bytes {v : AV} (h : ArgT Try.prog 22 v) : ∃ ns : List Int, (∀ b ∈ ns, 0 ≤ b ∧ b < 256) ∧ v = .p (.sl (ns.map e8)) := by
  have hu : Try.prog.underlying 22 = some (.slice 5) := by kernel_rfl
  cases h with
  | cell hs h =>
    cases h with
    | bool h => rw [hu] at h; cases h
    | int h hw => rw [hu] at h; cases h
    | str h _ => rw [hu] at h; cases h
    | sl h hl he =>
      rw [hu] at h; cases h
      obtain ⟨ns, hns, rfl⟩ := typed_rows _ he
      exact ⟨ns, hns, rfl⟩
    | struct h _ => rw [hu] at h; cases h
  | agg h _ => rw [hu] at h; cases h
end Go.Proofs.Ytginibofnkiofaa
namespace Go.Proofs.Ytginibofnkiofaa
open Go Go.Sep
attribute [local irreducible] CallT
abbrev fI (n : Int) : PV := .int .i64 n
abbrev rowP {α : Type} (q : Nat) (xs : List α) : AV := .sl q 1 0 xs.length
abbrev cP {α : Type} (f : α → PV) (xs : List α) : List AV := xs.map fun x => AV.p (f x)
abbrev vP {α : Type} (f : α → PV) (xs : List α) : AV := .p (.sl (xs.map fun x => [f x]))
theorem cells_P {α : Type} (f : α → PV) (xs : List α) : cells (xs.map fun x => [f x]) = cP f xs := by
  induction xs with
  | nil => rfl
  | cons x xs ih => simp only [cells, List.map_cons, List.flatten_cons, List.map_append] at ih ⊢; rw [ih]; rfl
theorem flat_P {α : Type} (f : α → PV) (xs : List α) : (xs.map fun x => [f x]).flatten.map AV.p = cP f xs := cells_P f xs
theorem szP {α : Type} (f : α → PV) (xs : List α) : Sized 1 (xs.map fun x => [f x]) := sized_map (f := fun x => [f x]) (fun _ => rfl) xs
def Base {α : Type} (f : α → PV) (x : AV) (xs : List α) (G : Heap) : Prop := (x = .p .nil ∧ xs = []) ∨ ∃ q, x = rowP q xs ∧ G q = some (cP f xs)
theorem app_row {α : Type} {f : α → PV} {tab : Tab} {t e : Nat} {d ed : TD} {q : Nat} {xs ys : List α} {G : Heap} {K : AV → Heap → Prop} (h1 : tab t = some d) (h2 : d.k = .slice e) (h3 : tab e = some ed) (h6 : ed.size = 1) (h7 : ed.bytes ≤ 64)
    (hq : G q = some (cP f xs)) (hl : xs.length + ys.length ≤ 1000000000)
    (h : ∀ q', G q' = none → K (rowP q' (xs ++ ys)) ((G.del q).set q' (cP f (xs ++ ys)))) : appendV tab t t (rowP q xs) (vP f ys) G (wkK K) := by
  have := app_own (x := vP f ys) (r := q) (es := xs.map fun x => [f x]) (fs := ys.map fun x => [f x]) (H := G) (K := K) h1 h2 h3 h1 h2 h6 (bz := ed.bytes) rfl (.inl rfl) (by rw [cells_P]; exact hq) (szP f xs) (szP f ys)
    (by simp only [List.length_map]; exact Nat.le_trans (Nat.mul_le_mul hl h7) (by omega)) (by simp only [List.length_map]; omega) fun r' hr' => by
      have := h r' hr'
      rw [← List.map_append, cells_P]
      simpa only [own, List.length_map] using this
  simpa only [own, List.length_map] using this
theorem app_base {α : Type} {f : α → PV} {tab : Tab} {t e : Nat} {d ed : TD} {x : AV} {xs ys : List α} {G : Heap} {K : AV → Heap → Prop} (h1 : tab t = some d) (h2 : d.k = .slice e) (h3 : tab e = some ed) (h6 : ed.size = 1) (h7 : ed.bytes ≤ 64)
    (hb : Base f x xs G) (hl : xs.length + ys.length ≤ 1000000000)
    (h : ∀ q' G1, G q' = none → G1 q' = some (cP f (xs ++ ys)) → (∀ y, y ≠ q' → (∀ q, x = rowP q xs → y ≠ q) → G1 y = G y) → K (rowP q' (xs ++ ys)) G1) : appendV tab t t x (vP f ys) G (wkK K) := by
  rcases hb with ⟨rfl, rfl⟩ | ⟨q, rfl, hq⟩
  · simp only [appendV, h1, h2, h3, h6, srcV, baseV]
    refine ⟨szP f ys, ?_, ?_, ?_, fun r' hr' => wkK.keep ?_⟩
    · have hl2 : 0 + (ys.map fun x => [f x]).length ≤ 1000000000 := by simpa using hl
      exact Nat.le_trans (Nat.mul_le_mul hl2 h7) (by omega)
    · simp only [List.length_map]; simp at hl; omega
    · exact cells_cell _
    · have := h r' (G.set r' (cP f ys)) hr' (by rw [Heap.set_same]; rfl) (fun y hy _ => Heap.set_other hy)
      rw [flat_P]
      simpa using this
  · refine app_row h1 h2 h3 h6 h7 hq hl fun q' hq' => ?_
    have hne : q' ≠ q := by rintro rfl; rw [hq] at hq'; cases hq'
    refine h q' _ hq' (Heap.set_same _ _ _) fun y hy hy2 => ?_
    rw [Heap.set_other hy, Heap.del_other (hy2 q rfl)]
structure Own1 {α : Type} (f : α → PV) (H0 G : Heap) (r : Nat) (pre : List AV) (x : AV) (xs : List α) : Prop where
  hr : G r = some (pre ++ [x])
  base : (x = .p .nil ∧ xs = []) ∨ ∃ q, x = rowP q xs ∧ G q = some (cP f xs) ∧ H0 q = none ∧ q ≠ r
  le : Heap.le H0 G
  nr : H0 r = none
theorem Own1.alloc {α : Type} {f : α → PV} {H0 G : Heap} {r : Nat} {pre : List AV} {x : AV} {xs : List α} (o : Own1 f H0 G r pre x xs) {q : Nat} (hq : G q = none) (b : List AV) : Own1 f H0 (G.set q b) r pre x xs := by
  have ne : ∀ {y c}, G y = some c → y ≠ q := fun h e => by rw [e, hq] at h; cases h
  refine ⟨by rw [Heap.set_other (ne o.hr)]; exact o.hr, ?_, Heap.le_setN o.le ?_, o.nr⟩
  · rcases o.base with h | ⟨q1, h1, h2, h3, h4⟩
    · exact .inl h
    · exact .inr ⟨q1, h1, by rw [Heap.set_other (ne h2)]; exact h2, h3, h4⟩
  · cases hh : H0 q with
    | none => rfl
    | some c => rw [o.le q c hh] at hq; cases hq
theorem Own1.app {α : Type} {f : α → PV} {H0 G : Heap} {r : Nat} {pre : List AV} {x : AV} {xs : List α} (o : Own1 f H0 G r pre x xs) {tab : Tab} {t e : Nat} {d ed : TD} {ys : List α} {K : AV → Heap → Prop} (h1 : tab t = some d) (h2 : d.k = .slice e) (h3 : tab e = some ed) (h6 : ed.size = 1) (h7 : ed.bytes ≤ 64)
    (hl : xs.length + ys.length ≤ 1000000000)
    (h : ∀ q' m G1, G1 r = some (pre ++ [x]) → Own1 f H0 (G1.set r (pre ++ [.sl q' 1 0 m])) r pre (.sl q' 1 0 m) (xs ++ ys) → (∀ y b, y ≠ r → H0 y = some b → G1 y = some b) → K (.sl q' 1 0 m) G1) : appendV tab t t x (vP f ys) G (wkK K) := by
  refine app_base (f := f) h1 h2 h3 h6 h7 (xs := xs) ?_ hl fun q' G1 hq' hG1 hfr => ?_
  · rcases o.base with h | ⟨q1, h1, h2, h3, h4⟩
    · exact .inl h
    · exact .inr ⟨q1, h1, h2⟩
  · have hrq : r ≠ q' := fun e => by rw [← e, o.hr] at hq'; cases hq'
    have hxr : ∀ q, x = rowP q xs → H0 q = none ∧ q ≠ r := by
      intro q hx
      rcases o.base with ⟨h, _⟩ | ⟨q1, h1, h2, h3, h4⟩
      · rw [h] at hx; cases hx
      · rw [h1] at hx; cases hx; exact ⟨h3, h4⟩
    have hle1 : ∀ y b, H0 y = some b → G1 y = some b := by
      intro y b hy
      rw [hfr y (fun e => by rw [← e, o.le y b hy] at hq'; cases hq') (fun q hx e => by rw [e, (hxr q hx).1] at hy; cases hy)]
      exact o.le y b hy
    have hnq : H0 q' = none := by
      cases hh : H0 q' with
      | none => rfl
      | some c => rw [o.le q' c hh] at hq'; cases hq'
    refine h q' _ G1 ?_ ⟨Heap.set_same _ _ _, .inr ⟨q', rfl, by rw [Heap.set_other hrq.symm]; exact hG1, hnq, hrq.symm⟩, ?_, o.nr⟩ fun y b _ hy => hle1 y b hy
    · rw [hfr r hrq (fun q hx e => (hxr q hx).2 e.symm)]; exact o.hr
    · refine Heap.le_setN (fun y b hy => hle1 y b hy) o.nr
theorem Own1.wk {α : Type} {f : α → PV} {H0 G : Heap} {r : Nat} {pre : List AV} {x : AV} {xs : List α} (o : Own1 f H0 G r pre x xs) {v v' : AV}
    (hn : x = .p .nil → xs = [] → AV.wk v v') (hf : ∀ q, x = rowP q xs → FrzR q 1 (xs.map fun x => [f x]) v v') (hp : ∀ q, q ≠ r → FrzL q 1 (xs.map fun x => [f x]) (pre ++ [rowP q xs]) (pre ++ [vP f xs])) :
    ∃ G', Wk v G v' G' ∧ G' r = some (pre ++ [vP f xs]) ∧ Heap.le H0 G' := by
  rcases o.base with ⟨rfl, rfl⟩ | ⟨q, rfl, hq, hq0, hqr⟩
  · refine ⟨G.set r (pre ++ [vP f []]), .trans (.val (hn rfl rfl)) (.cell o.hr (by simp) fun i a a' ha ha' => ?_), Heap.set_same _ _ _, Heap.le_setN o.le o.nr⟩
    by_cases hi : i < pre.length
    · rw [List.getElem?_append_left hi] at ha ha'
      rw [ha] at ha'; cases ha'; exact .refl _
    · rw [List.getElem?_append_right (by omega)] at ha ha'
      cases hj : i - pre.length with
      | zero =>
        rw [hj] at ha ha'
        simp at ha ha'
        subst ha; subst ha'; exact .nil
      | succ j => rw [hj] at ha; simp at ha
  · refine ⟨(G.del q).set r (pre ++ [vP f xs]), Wk.frzAt (r := q) (s := r) (sz := 1) (es := xs.map fun x => [f x]) (by omega) (by rw [flat_P]; exact hq) (szP f xs) o.hr hqr.symm (hp q hqr) (hf q rfl) (by simp), Heap.set_same _ _ _, ?_⟩
    exact Heap.le_setN (Heap.le_del o.le hq0) o.nr
theorem FrzL.refl {r sz : Nat} {es : List (List PV)} : ∀ vs, FrzL r sz es vs vs
  | [] => .nil
  | v :: vs => .cons (.same v) (FrzL.refl vs)
theorem FrzL.app {r sz : Nat} {es : List (List PV)} : ∀ {vs ws ws' : List AV}, FrzL r sz es ws ws' → FrzL r sz es (vs ++ ws) (vs ++ ws')
  | [], _, _, h => h
  | v :: vs, _, _, h => .cons (.same v) (FrzL.app (vs := vs) h)
theorem frz_row {α : Type} {f : α → PV} {q : Nat} {xs : List α} : FrzR q 1 (xs.map fun x => [f x]) (rowP q xs) (vP f xs) := by
  have : FrzR q 1 (xs.map fun x => [f x]) (.sl q 1 0 (xs.map fun x => [f x]).length) (.p (.sl (xs.map fun x => [f x]))) := .here
  rwa [List.length_map] at this
end Go.Proofs.Ytginibofnkiofaa
