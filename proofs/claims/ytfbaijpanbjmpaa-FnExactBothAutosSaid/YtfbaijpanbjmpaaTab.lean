/- The table of the program's types, and that it is right. Written by gentab.py (a program of this session's) out of the translation. -/
import Derived.Test.YtfbaijpanbjmpaaProg
import Derived.KernelRfl
import Derived.Test.YtfbaijpanbjmpaaSepB
namespace Go.Proofs.Ytfbaijpanbjmpaa
open Go Go.Sep
set_option linter.unusedVariables false
def td1 : TD := ⟨.func, 1, 8, [.nilfn]⟩
def td2 : TD := ⟨.int .i64, 1, 8, [(.p (.int .i64 0))]⟩
def td3 : TD := ⟨.int .i64, 1, 8, [(.p (.int .i64 0))]⟩
def td4 : TD := ⟨.bool, 1, 1, [(.p (.bool false))]⟩
def td5 : TD := ⟨.int .u8, 1, 1, [(.p (.int .u8 0))]⟩
def td6 : TD := ⟨.int .u8, 1, 1, [(.p (.int .u8 0))]⟩
def td9 : TD := ⟨.str, 1, 16, [(.p (.str ⟨#[]⟩))]⟩
def td10 : TD := ⟨.str, 1, 16, [(.p (.str ⟨#[]⟩))]⟩
def td11 : TD := ⟨.str, 1, 16, [(.p (.str ⟨#[]⟩))]⟩
def td12 : TD := ⟨.int .u64, 1, 8, [(.p (.int .u64 0))]⟩
def td15 : TD := ⟨.ptr 164, 1, 8, [.nilp]⟩
def td16 : TD := ⟨.ptr 167, 1, 8, [.nilp]⟩
def td17 : TD := ⟨.ptr 176, 1, 8, [.nilp]⟩
def td21 : TD := ⟨.int .i32, 1, 4, [(.p (.int .i32 0))]⟩
def td22 : TD := ⟨.slice 3, 1, 24, [(.p .nil)]⟩
def td23 : TD := ⟨.slice 90, 1, 24, [(.p .nil)]⟩
def td24 : TD := ⟨.slice 22, 1, 24, [(.p .nil)]⟩
def td25 : TD := ⟨.struct [(0, 3), (1, 22), (2, 23), (3, 24)], 4, 80, [(.p (.int .i64 0)), (.p .nil), (.p .nil), (.p .nil)]⟩
def td26 : TD := ⟨.struct [(0, 3), (1, 22), (2, 23), (3, 24)], 4, 80, [(.p (.int .i64 0)), (.p .nil), (.p .nil), (.p .nil)]⟩
def td27 : TD := ⟨.func, 1, 8, [.nilfn]⟩
def td28 : TD := ⟨.slice 61, 1, 24, [(.p .nil)]⟩
def td29 : TD := ⟨.struct [(0, 3), (1, 22), (2, 28), (3, 24)], 4, 80, [(.p (.int .i64 0)), (.p .nil), (.p .nil), (.p .nil)]⟩
def td30 : TD := ⟨.struct [(0, 3), (1, 22), (2, 28), (3, 24)], 4, 80, [(.p (.int .i64 0)), (.p .nil), (.p .nil), (.p .nil)]⟩
def td32 : TD := ⟨.func, 1, 8, [.nilfn]⟩
def td33 : TD := ⟨.func, 1, 8, [.nilfn]⟩
def td34 : TD := ⟨.func, 1, 8, [.nilfn]⟩
def td35 : TD := ⟨.func, 1, 8, [.nilfn]⟩
def td36 : TD := ⟨.func, 1, 8, [.nilfn]⟩
def td37 : TD := ⟨.func, 1, 8, [.nilfn]⟩
def td38 : TD := ⟨.func, 1, 8, [.nilfn]⟩
def td39 : TD := ⟨.struct [(0, 22), (1, 22)], 2, 48, [(.p .nil), (.p .nil)]⟩
def td40 : TD := ⟨.struct [(0, 22), (1, 22)], 2, 48, [(.p .nil), (.p .nil)]⟩
def td41 : TD := ⟨.func, 1, 8, [.nilfn]⟩
def td43 : TD := ⟨.func, 1, 8, [.nilfn]⟩
def td44 : TD := ⟨.struct [(0, 22), (1, 22)], 2, 48, [(.p .nil), (.p .nil)]⟩
def td45 : TD := ⟨.func, 1, 8, [.nilfn]⟩
def td46 : TD := ⟨.func, 1, 8, [.nilfn]⟩
def td47 : TD := ⟨.func, 1, 8, [.nilfn]⟩
def td48 : TD := ⟨.struct [(0, 24)], 1, 24, [(.p .nil)]⟩
def td49 : TD := ⟨.struct [(0, 24)], 1, 24, [(.p .nil)]⟩
def td51 : TD := ⟨.func, 1, 8, [.nilfn]⟩
def td52 : TD := ⟨.func, 1, 8, [.nilfn]⟩
def td53 : TD := ⟨.func, 1, 8, [.nilfn]⟩
def td54 : TD := ⟨.func, 1, 8, [.nilfn]⟩
def td55 : TD := ⟨.func, 1, 8, [.nilfn]⟩
def td56 : TD := ⟨.func, 1, 8, [.nilfn]⟩
def td57 : TD := ⟨.func, 1, 8, [.nilfn]⟩
def td58 : TD := ⟨.func, 1, 8, [.nilfn]⟩
def td59 : TD := ⟨.func, 1, 8, [.nilfn]⟩
def td60 : TD := ⟨.struct [(0, 3), (1, 3), (2, 3)], 3, 24, [(.p (.int .i64 0)), (.p (.int .i64 0)), (.p (.int .i64 0))]⟩
def td61 : TD := ⟨.struct [(0, 3), (1, 3), (2, 3)], 3, 24, [(.p (.int .i64 0)), (.p (.int .i64 0)), (.p (.int .i64 0))]⟩
def td62 : TD := ⟨.func, 1, 8, [.nilfn]⟩
def td63 : TD := ⟨.func, 1, 8, [.nilfn]⟩
def td64 : TD := ⟨.func, 1, 8, [.nilfn]⟩
def td65 : TD := ⟨.func, 1, 8, [.nilfn]⟩
def td66 : TD := ⟨.func, 1, 8, [.nilfn]⟩
def td67 : TD := ⟨.func, 1, 8, [.nilfn]⟩
def td68 : TD := ⟨.func, 1, 8, [.nilfn]⟩
def td69 : TD := ⟨.func, 1, 8, [.nilfn]⟩
def td70 : TD := ⟨.func, 1, 8, [.nilfn]⟩
def td71 : TD := ⟨.func, 1, 8, [.nilfn]⟩
def td72 : TD := ⟨.func, 1, 8, [.nilfn]⟩
def td73 : TD := ⟨.func, 1, 8, [.nilfn]⟩
def td74 : TD := ⟨.func, 1, 8, [.nilfn]⟩
def td75 : TD := ⟨.func, 1, 8, [.nilfn]⟩
def td76 : TD := ⟨.func, 1, 8, [.nilfn]⟩
def td77 : TD := ⟨.func, 1, 8, [.nilfn]⟩
def td78 : TD := ⟨.func, 1, 8, [.nilfn]⟩
def td79 : TD := ⟨.func, 1, 8, [.nilfn]⟩
def td80 : TD := ⟨.func, 1, 8, [.nilfn]⟩
def td81 : TD := ⟨.func, 1, 8, [.nilfn]⟩
def td82 : TD := ⟨.func, 1, 8, [.nilfn]⟩
def td83 : TD := ⟨.func, 1, 8, [.nilfn]⟩
def td85 : TD := ⟨.func, 1, 8, [.nilfn]⟩
def td86 : TD := ⟨.func, 1, 8, [.nilfn]⟩
def td87 : TD := ⟨.func, 1, 8, [.nilfn]⟩
def td88 : TD := ⟨.func, 1, 8, [.nilfn]⟩
def td89 : TD := ⟨.func, 1, 8, [.nilfn]⟩
def td90 : TD := ⟨.struct [(0, 3), (1, 3), (2, 3)], 3, 24, [(.p (.int .i64 0)), (.p (.int .i64 0)), (.p (.int .i64 0))]⟩
def td91 : TD := ⟨.func, 1, 8, [.nilfn]⟩
def td92 : TD := ⟨.func, 1, 8, [.nilfn]⟩
def td93 : TD := ⟨.func, 1, 8, [.nilfn]⟩
def td94 : TD := ⟨.slice 4, 1, 24, [(.p .nil)]⟩
def td95 : TD := ⟨.func, 1, 8, [.nilfn]⟩
def td96 : TD := ⟨.func, 1, 8, [.nilfn]⟩
def td97 : TD := ⟨.func, 1, 8, [.nilfn]⟩
def td98 : TD := ⟨.func, 1, 8, [.nilfn]⟩
def td99 : TD := ⟨.func, 1, 8, [.nilfn]⟩
def td100 : TD := ⟨.func, 1, 8, [.nilfn]⟩
def td101 : TD := ⟨.func, 1, 8, [.nilfn]⟩
def td102 : TD := ⟨.func, 1, 8, [.nilfn]⟩
def td104 : TD := ⟨.func, 1, 8, [.nilfn]⟩
def td105 : TD := ⟨.func, 1, 8, [.nilfn]⟩
def td106 : TD := ⟨.func, 1, 8, [.nilfn]⟩
def td107 : TD := ⟨.func, 1, 8, [.nilfn]⟩
def td108 : TD := ⟨.func, 1, 8, [.nilfn]⟩
def td109 : TD := ⟨.func, 1, 8, [.nilfn]⟩
def td110 : TD := ⟨.func, 1, 8, [.nilfn]⟩
def td111 : TD := ⟨.func, 1, 8, [.nilfn]⟩
def td112 : TD := ⟨.func, 1, 8, [.nilfn]⟩
def td113 : TD := ⟨.func, 1, 8, [.nilfn]⟩
def td114 : TD := ⟨.func, 1, 8, [.nilfn]⟩
def td115 : TD := ⟨.int .u64, 1, 8, [(.p (.int .u64 0))]⟩
def td116 : TD := ⟨.func, 1, 8, [.nilfn]⟩
def td117 : TD := ⟨.ptr 119, 1, 8, [.nilp]⟩
def td118 : TD := ⟨.struct [(0, 24), (1, 94), (2, 22)], 3, 72, [(.p .nil), (.p .nil), (.p .nil)]⟩
def td119 : TD := ⟨.struct [(0, 24), (1, 94), (2, 22)], 3, 72, [(.p .nil), (.p .nil), (.p .nil)]⟩
def td120 : TD := ⟨.func, 1, 8, [.nilfn]⟩
def td121 : TD := ⟨.func, 1, 8, [.nilfn]⟩
def td122 : TD := ⟨.func, 1, 8, [.nilfn]⟩
def td124 : TD := ⟨.func, 1, 8, [.nilfn]⟩
def td125 : TD := ⟨.ptr 127, 1, 8, [.nilp]⟩
def td126 : TD := ⟨.struct [(0, 24), (1, 22), (2, 22), (3, 22), (4, 22), (5, 3)], 6, 128, [(.p .nil), (.p .nil), (.p .nil), (.p .nil), (.p .nil), (.p (.int .i64 0))]⟩
def td127 : TD := ⟨.struct [(0, 24), (1, 22), (2, 22), (3, 22), (4, 22), (5, 3)], 6, 128, [(.p .nil), (.p .nil), (.p .nil), (.p .nil), (.p .nil), (.p (.int .i64 0))]⟩
def td128 : TD := ⟨.func, 1, 8, [.nilfn]⟩
def td129 : TD := ⟨.int .i64, 1, 8, [(.p (.int .i64 0))]⟩
def td131 : TD := ⟨.func, 1, 8, [.nilfn]⟩
def td132 : TD := ⟨.func, 1, 8, [.nilfn]⟩
def td133 : TD := ⟨.func, 1, 8, [.nilfn]⟩
def td135 : TD := ⟨.func, 1, 8, [.nilfn]⟩
def td136 : TD := ⟨.func, 1, 8, [.nilfn]⟩
def td137 : TD := ⟨.int .u32, 1, 4, [(.p (.int .u32 0))]⟩
def td138 : TD := ⟨.func, 1, 8, [.nilfn]⟩
def td139 : TD := ⟨.int .u64, 1, 8, [(.p (.int .u64 0))]⟩
def td140 : TD := ⟨.func, 1, 8, [.nilfn]⟩
def td141 : TD := ⟨.func, 1, 8, [.nilfn]⟩
def td142 : TD := ⟨.func, 1, 8, [.nilfn]⟩
def td143 : TD := ⟨.func, 1, 8, [.nilfn]⟩
def td144 : TD := ⟨.func, 1, 8, [.nilfn]⟩
def td146 : TD := ⟨.func, 1, 8, [.nilfn]⟩
def td148 : TD := ⟨.func, 1, 8, [.nilfn]⟩
def td149 : TD := ⟨.func, 1, 8, [.nilfn]⟩
def td150 : TD := ⟨.int .u64, 1, 8, [(.p (.int .u64 0))]⟩
def td151 : TD := ⟨.func, 1, 8, [.nilfn]⟩
def td152 : TD := ⟨.func, 1, 8, [.nilfn]⟩
def td153 : TD := ⟨.func, 1, 8, [.nilfn]⟩
def td154 : TD := ⟨.ptr 3, 1, 8, [.nilp]⟩
def td155 : TD := ⟨.func, 1, 8, [.nilfn]⟩
def td156 : TD := ⟨.func, 1, 8, [.nilfn]⟩
def td157 : TD := ⟨.func, 1, 8, [.nilfn]⟩
def td158 : TD := ⟨.ptr 150, 1, 8, [.nilp]⟩
def td160 : TD := ⟨.func, 1, 8, [.nilfn]⟩
def td161 : TD := ⟨.func, 1, 8, [.nilfn]⟩
def td162 : TD := ⟨.func, 1, 8, [.nilfn]⟩
def td168 : TD := ⟨.func, 1, 8, [.nilfn]⟩
def td169 : TD := ⟨.int .u8, 1, 1, [(.p (.int .u8 0))]⟩
def td170 : TD := ⟨.int .u8, 1, 1, [(.p (.int .u8 0))]⟩
def td171 : TD := ⟨.func, 1, 8, [.nilfn]⟩
def td172 : TD := ⟨.ptr 5, 1, 8, [.nilp]⟩
def td173 : TD := ⟨.int .i32, 1, 4, [(.p (.int .i32 0))]⟩
def td174 : TD := ⟨.int .i32, 1, 4, [(.p (.int .i32 0))]⟩
def tabL : List (Nat × TD) := [(1, td1), (2, td2), (3, td3), (4, td4), (5, td5), (6, td6), (9, td9), (10, td10), (11, td11), (12, td12), (15, td15), (16, td16), (17, td17), (21, td21), (22, td22), (23, td23), (24, td24), (25, td25), (26, td26), (27, td27), (28, td28), (29, td29), (30, td30), (32, td32), (33, td33), (34, td34), (35, td35), (36, td36), (37, td37), (38, td38), (39, td39), (40, td40), (41, td41), (43, td43), (44, td44), (45, td45), (46, td46), (47, td47), (48, td48), (49, td49), (51, td51), (52, td52), (53, td53), (54, td54), (55, td55), (56, td56), (57, td57), (58, td58), (59, td59), (60, td60), (61, td61), (62, td62), (63, td63), (64, td64), (65, td65), (66, td66), (67, td67), (68, td68), (69, td69), (70, td70), (71, td71), (72, td72), (73, td73), (74, td74), (75, td75), (76, td76), (77, td77), (78, td78), (79, td79), (80, td80), (81, td81), (82, td82), (83, td83), (85, td85), (86, td86), (87, td87), (88, td88), (89, td89), (90, td90), (91, td91), (92, td92), (93, td93), (94, td94), (95, td95), (96, td96), (97, td97), (98, td98), (99, td99), (100, td100), (101, td101), (102, td102), (104, td104), (105, td105), (106, td106), (107, td107), (108, td108), (109, td109), (110, td110), (111, td111), (112, td112), (113, td113), (114, td114), (115, td115), (116, td116), (117, td117), (118, td118), (119, td119), (120, td120), (121, td121), (122, td122), (124, td124), (125, td125), (126, td126), (127, td127), (128, td128), (129, td129), (131, td131), (132, td132), (133, td133), (135, td135), (136, td136), (137, td137), (138, td138), (139, td139), (140, td140), (141, td141), (142, td142), (143, td143), (144, td144), (146, td146), (148, td148), (149, td149), (150, td150), (151, td151), (152, td152), (153, td153), (154, td154), (155, td155), (156, td156), (157, td157), (158, td158), (160, td160), (161, td161), (162, td162), (168, td168), (169, td169), (170, td170), (171, td171), (172, td172), (173, td173), (174, td174)]
def tab : Tab := fun t => (tabL.find? (fun p => p.1 == t)).map (·.2)
theorem tab_1 : tab 1 = some ⟨.func, 1, 8, [.nilfn]⟩ := rfl
theorem tab_2 : tab 2 = some ⟨.int .i64, 1, 8, [(.p (.int .i64 0))]⟩ := rfl
theorem tab_3 : tab 3 = some ⟨.int .i64, 1, 8, [(.p (.int .i64 0))]⟩ := rfl
theorem tab_4 : tab 4 = some ⟨.bool, 1, 1, [(.p (.bool false))]⟩ := rfl
theorem tab_5 : tab 5 = some ⟨.int .u8, 1, 1, [(.p (.int .u8 0))]⟩ := rfl
theorem tab_6 : tab 6 = some ⟨.int .u8, 1, 1, [(.p (.int .u8 0))]⟩ := rfl
theorem tab_9 : tab 9 = some ⟨.str, 1, 16, [(.p (.str ⟨#[]⟩))]⟩ := rfl
theorem tab_10 : tab 10 = some ⟨.str, 1, 16, [(.p (.str ⟨#[]⟩))]⟩ := rfl
theorem tab_11 : tab 11 = some ⟨.str, 1, 16, [(.p (.str ⟨#[]⟩))]⟩ := rfl
theorem tab_12 : tab 12 = some ⟨.int .u64, 1, 8, [(.p (.int .u64 0))]⟩ := rfl
theorem tab_15 : tab 15 = some ⟨.ptr 164, 1, 8, [.nilp]⟩ := rfl
theorem tab_16 : tab 16 = some ⟨.ptr 167, 1, 8, [.nilp]⟩ := rfl
theorem tab_17 : tab 17 = some ⟨.ptr 176, 1, 8, [.nilp]⟩ := rfl
theorem tab_21 : tab 21 = some ⟨.int .i32, 1, 4, [(.p (.int .i32 0))]⟩ := rfl
theorem tab_22 : tab 22 = some ⟨.slice 3, 1, 24, [(.p .nil)]⟩ := rfl
theorem tab_23 : tab 23 = some ⟨.slice 90, 1, 24, [(.p .nil)]⟩ := rfl
theorem tab_24 : tab 24 = some ⟨.slice 22, 1, 24, [(.p .nil)]⟩ := rfl
theorem tab_25 : tab 25 = some ⟨.struct [(0, 3), (1, 22), (2, 23), (3, 24)], 4, 80, [(.p (.int .i64 0)), (.p .nil), (.p .nil), (.p .nil)]⟩ := rfl
theorem tab_26 : tab 26 = some ⟨.struct [(0, 3), (1, 22), (2, 23), (3, 24)], 4, 80, [(.p (.int .i64 0)), (.p .nil), (.p .nil), (.p .nil)]⟩ := rfl
theorem tab_27 : tab 27 = some ⟨.func, 1, 8, [.nilfn]⟩ := rfl
theorem tab_28 : tab 28 = some ⟨.slice 61, 1, 24, [(.p .nil)]⟩ := rfl
theorem tab_29 : tab 29 = some ⟨.struct [(0, 3), (1, 22), (2, 28), (3, 24)], 4, 80, [(.p (.int .i64 0)), (.p .nil), (.p .nil), (.p .nil)]⟩ := rfl
theorem tab_30 : tab 30 = some ⟨.struct [(0, 3), (1, 22), (2, 28), (3, 24)], 4, 80, [(.p (.int .i64 0)), (.p .nil), (.p .nil), (.p .nil)]⟩ := rfl
theorem tab_32 : tab 32 = some ⟨.func, 1, 8, [.nilfn]⟩ := rfl
theorem tab_33 : tab 33 = some ⟨.func, 1, 8, [.nilfn]⟩ := rfl
theorem tab_34 : tab 34 = some ⟨.func, 1, 8, [.nilfn]⟩ := rfl
theorem tab_35 : tab 35 = some ⟨.func, 1, 8, [.nilfn]⟩ := rfl
theorem tab_36 : tab 36 = some ⟨.func, 1, 8, [.nilfn]⟩ := rfl
theorem tab_37 : tab 37 = some ⟨.func, 1, 8, [.nilfn]⟩ := rfl
theorem tab_38 : tab 38 = some ⟨.func, 1, 8, [.nilfn]⟩ := rfl
theorem tab_39 : tab 39 = some ⟨.struct [(0, 22), (1, 22)], 2, 48, [(.p .nil), (.p .nil)]⟩ := rfl
theorem tab_40 : tab 40 = some ⟨.struct [(0, 22), (1, 22)], 2, 48, [(.p .nil), (.p .nil)]⟩ := rfl
theorem tab_41 : tab 41 = some ⟨.func, 1, 8, [.nilfn]⟩ := rfl
theorem tab_43 : tab 43 = some ⟨.func, 1, 8, [.nilfn]⟩ := rfl
theorem tab_44 : tab 44 = some ⟨.struct [(0, 22), (1, 22)], 2, 48, [(.p .nil), (.p .nil)]⟩ := rfl
theorem tab_45 : tab 45 = some ⟨.func, 1, 8, [.nilfn]⟩ := rfl
theorem tab_46 : tab 46 = some ⟨.func, 1, 8, [.nilfn]⟩ := rfl
theorem tab_47 : tab 47 = some ⟨.func, 1, 8, [.nilfn]⟩ := rfl
theorem tab_48 : tab 48 = some ⟨.struct [(0, 24)], 1, 24, [(.p .nil)]⟩ := rfl
theorem tab_49 : tab 49 = some ⟨.struct [(0, 24)], 1, 24, [(.p .nil)]⟩ := rfl
theorem tab_51 : tab 51 = some ⟨.func, 1, 8, [.nilfn]⟩ := rfl
theorem tab_52 : tab 52 = some ⟨.func, 1, 8, [.nilfn]⟩ := rfl
theorem tab_53 : tab 53 = some ⟨.func, 1, 8, [.nilfn]⟩ := rfl
theorem tab_54 : tab 54 = some ⟨.func, 1, 8, [.nilfn]⟩ := rfl
theorem tab_55 : tab 55 = some ⟨.func, 1, 8, [.nilfn]⟩ := rfl
theorem tab_56 : tab 56 = some ⟨.func, 1, 8, [.nilfn]⟩ := rfl
theorem tab_57 : tab 57 = some ⟨.func, 1, 8, [.nilfn]⟩ := rfl
theorem tab_58 : tab 58 = some ⟨.func, 1, 8, [.nilfn]⟩ := rfl
theorem tab_59 : tab 59 = some ⟨.func, 1, 8, [.nilfn]⟩ := rfl
theorem tab_60 : tab 60 = some ⟨.struct [(0, 3), (1, 3), (2, 3)], 3, 24, [(.p (.int .i64 0)), (.p (.int .i64 0)), (.p (.int .i64 0))]⟩ := rfl
theorem tab_61 : tab 61 = some ⟨.struct [(0, 3), (1, 3), (2, 3)], 3, 24, [(.p (.int .i64 0)), (.p (.int .i64 0)), (.p (.int .i64 0))]⟩ := rfl
theorem tab_62 : tab 62 = some ⟨.func, 1, 8, [.nilfn]⟩ := rfl
theorem tab_63 : tab 63 = some ⟨.func, 1, 8, [.nilfn]⟩ := rfl
theorem tab_64 : tab 64 = some ⟨.func, 1, 8, [.nilfn]⟩ := rfl
theorem tab_65 : tab 65 = some ⟨.func, 1, 8, [.nilfn]⟩ := rfl
theorem tab_66 : tab 66 = some ⟨.func, 1, 8, [.nilfn]⟩ := rfl
theorem tab_67 : tab 67 = some ⟨.func, 1, 8, [.nilfn]⟩ := rfl
theorem tab_68 : tab 68 = some ⟨.func, 1, 8, [.nilfn]⟩ := rfl
theorem tab_69 : tab 69 = some ⟨.func, 1, 8, [.nilfn]⟩ := rfl
theorem tab_70 : tab 70 = some ⟨.func, 1, 8, [.nilfn]⟩ := rfl
theorem tab_71 : tab 71 = some ⟨.func, 1, 8, [.nilfn]⟩ := rfl
theorem tab_72 : tab 72 = some ⟨.func, 1, 8, [.nilfn]⟩ := rfl
theorem tab_73 : tab 73 = some ⟨.func, 1, 8, [.nilfn]⟩ := rfl
theorem tab_74 : tab 74 = some ⟨.func, 1, 8, [.nilfn]⟩ := rfl
theorem tab_75 : tab 75 = some ⟨.func, 1, 8, [.nilfn]⟩ := rfl
theorem tab_76 : tab 76 = some ⟨.func, 1, 8, [.nilfn]⟩ := rfl
theorem tab_77 : tab 77 = some ⟨.func, 1, 8, [.nilfn]⟩ := rfl
theorem tab_78 : tab 78 = some ⟨.func, 1, 8, [.nilfn]⟩ := rfl
theorem tab_79 : tab 79 = some ⟨.func, 1, 8, [.nilfn]⟩ := rfl
theorem tab_80 : tab 80 = some ⟨.func, 1, 8, [.nilfn]⟩ := rfl
theorem tab_81 : tab 81 = some ⟨.func, 1, 8, [.nilfn]⟩ := rfl
theorem tab_82 : tab 82 = some ⟨.func, 1, 8, [.nilfn]⟩ := rfl
theorem tab_83 : tab 83 = some ⟨.func, 1, 8, [.nilfn]⟩ := rfl
theorem tab_85 : tab 85 = some ⟨.func, 1, 8, [.nilfn]⟩ := rfl
theorem tab_86 : tab 86 = some ⟨.func, 1, 8, [.nilfn]⟩ := rfl
theorem tab_87 : tab 87 = some ⟨.func, 1, 8, [.nilfn]⟩ := rfl
theorem tab_88 : tab 88 = some ⟨.func, 1, 8, [.nilfn]⟩ := rfl
theorem tab_89 : tab 89 = some ⟨.func, 1, 8, [.nilfn]⟩ := rfl
theorem tab_90 : tab 90 = some ⟨.struct [(0, 3), (1, 3), (2, 3)], 3, 24, [(.p (.int .i64 0)), (.p (.int .i64 0)), (.p (.int .i64 0))]⟩ := rfl
theorem tab_91 : tab 91 = some ⟨.func, 1, 8, [.nilfn]⟩ := rfl
theorem tab_92 : tab 92 = some ⟨.func, 1, 8, [.nilfn]⟩ := rfl
theorem tab_93 : tab 93 = some ⟨.func, 1, 8, [.nilfn]⟩ := rfl
theorem tab_94 : tab 94 = some ⟨.slice 4, 1, 24, [(.p .nil)]⟩ := rfl
theorem tab_95 : tab 95 = some ⟨.func, 1, 8, [.nilfn]⟩ := rfl
theorem tab_96 : tab 96 = some ⟨.func, 1, 8, [.nilfn]⟩ := rfl
theorem tab_97 : tab 97 = some ⟨.func, 1, 8, [.nilfn]⟩ := rfl
theorem tab_98 : tab 98 = some ⟨.func, 1, 8, [.nilfn]⟩ := rfl
theorem tab_99 : tab 99 = some ⟨.func, 1, 8, [.nilfn]⟩ := rfl
theorem tab_100 : tab 100 = some ⟨.func, 1, 8, [.nilfn]⟩ := rfl
theorem tab_101 : tab 101 = some ⟨.func, 1, 8, [.nilfn]⟩ := rfl
theorem tab_102 : tab 102 = some ⟨.func, 1, 8, [.nilfn]⟩ := rfl
theorem tab_104 : tab 104 = some ⟨.func, 1, 8, [.nilfn]⟩ := rfl
theorem tab_105 : tab 105 = some ⟨.func, 1, 8, [.nilfn]⟩ := rfl
theorem tab_106 : tab 106 = some ⟨.func, 1, 8, [.nilfn]⟩ := rfl
theorem tab_107 : tab 107 = some ⟨.func, 1, 8, [.nilfn]⟩ := rfl
theorem tab_108 : tab 108 = some ⟨.func, 1, 8, [.nilfn]⟩ := rfl
theorem tab_109 : tab 109 = some ⟨.func, 1, 8, [.nilfn]⟩ := rfl
theorem tab_110 : tab 110 = some ⟨.func, 1, 8, [.nilfn]⟩ := rfl
theorem tab_111 : tab 111 = some ⟨.func, 1, 8, [.nilfn]⟩ := rfl
theorem tab_112 : tab 112 = some ⟨.func, 1, 8, [.nilfn]⟩ := rfl
theorem tab_113 : tab 113 = some ⟨.func, 1, 8, [.nilfn]⟩ := rfl
theorem tab_114 : tab 114 = some ⟨.func, 1, 8, [.nilfn]⟩ := rfl
theorem tab_115 : tab 115 = some ⟨.int .u64, 1, 8, [(.p (.int .u64 0))]⟩ := rfl
theorem tab_116 : tab 116 = some ⟨.func, 1, 8, [.nilfn]⟩ := rfl
theorem tab_117 : tab 117 = some ⟨.ptr 119, 1, 8, [.nilp]⟩ := rfl
theorem tab_118 : tab 118 = some ⟨.struct [(0, 24), (1, 94), (2, 22)], 3, 72, [(.p .nil), (.p .nil), (.p .nil)]⟩ := rfl
theorem tab_119 : tab 119 = some ⟨.struct [(0, 24), (1, 94), (2, 22)], 3, 72, [(.p .nil), (.p .nil), (.p .nil)]⟩ := rfl
theorem tab_120 : tab 120 = some ⟨.func, 1, 8, [.nilfn]⟩ := rfl
theorem tab_121 : tab 121 = some ⟨.func, 1, 8, [.nilfn]⟩ := rfl
theorem tab_122 : tab 122 = some ⟨.func, 1, 8, [.nilfn]⟩ := rfl
theorem tab_124 : tab 124 = some ⟨.func, 1, 8, [.nilfn]⟩ := rfl
theorem tab_125 : tab 125 = some ⟨.ptr 127, 1, 8, [.nilp]⟩ := rfl
theorem tab_126 : tab 126 = some ⟨.struct [(0, 24), (1, 22), (2, 22), (3, 22), (4, 22), (5, 3)], 6, 128, [(.p .nil), (.p .nil), (.p .nil), (.p .nil), (.p .nil), (.p (.int .i64 0))]⟩ := rfl
theorem tab_127 : tab 127 = some ⟨.struct [(0, 24), (1, 22), (2, 22), (3, 22), (4, 22), (5, 3)], 6, 128, [(.p .nil), (.p .nil), (.p .nil), (.p .nil), (.p .nil), (.p (.int .i64 0))]⟩ := rfl
theorem tab_128 : tab 128 = some ⟨.func, 1, 8, [.nilfn]⟩ := rfl
theorem tab_129 : tab 129 = some ⟨.int .i64, 1, 8, [(.p (.int .i64 0))]⟩ := rfl
theorem tab_131 : tab 131 = some ⟨.func, 1, 8, [.nilfn]⟩ := rfl
theorem tab_132 : tab 132 = some ⟨.func, 1, 8, [.nilfn]⟩ := rfl
theorem tab_133 : tab 133 = some ⟨.func, 1, 8, [.nilfn]⟩ := rfl
theorem tab_135 : tab 135 = some ⟨.func, 1, 8, [.nilfn]⟩ := rfl
theorem tab_136 : tab 136 = some ⟨.func, 1, 8, [.nilfn]⟩ := rfl
theorem tab_137 : tab 137 = some ⟨.int .u32, 1, 4, [(.p (.int .u32 0))]⟩ := rfl
theorem tab_138 : tab 138 = some ⟨.func, 1, 8, [.nilfn]⟩ := rfl
theorem tab_139 : tab 139 = some ⟨.int .u64, 1, 8, [(.p (.int .u64 0))]⟩ := rfl
theorem tab_140 : tab 140 = some ⟨.func, 1, 8, [.nilfn]⟩ := rfl
theorem tab_141 : tab 141 = some ⟨.func, 1, 8, [.nilfn]⟩ := rfl
theorem tab_142 : tab 142 = some ⟨.func, 1, 8, [.nilfn]⟩ := rfl
theorem tab_143 : tab 143 = some ⟨.func, 1, 8, [.nilfn]⟩ := rfl
theorem tab_144 : tab 144 = some ⟨.func, 1, 8, [.nilfn]⟩ := rfl
theorem tab_146 : tab 146 = some ⟨.func, 1, 8, [.nilfn]⟩ := rfl
theorem tab_148 : tab 148 = some ⟨.func, 1, 8, [.nilfn]⟩ := rfl
theorem tab_149 : tab 149 = some ⟨.func, 1, 8, [.nilfn]⟩ := rfl
theorem tab_150 : tab 150 = some ⟨.int .u64, 1, 8, [(.p (.int .u64 0))]⟩ := rfl
theorem tab_151 : tab 151 = some ⟨.func, 1, 8, [.nilfn]⟩ := rfl
theorem tab_152 : tab 152 = some ⟨.func, 1, 8, [.nilfn]⟩ := rfl
theorem tab_153 : tab 153 = some ⟨.func, 1, 8, [.nilfn]⟩ := rfl
theorem tab_154 : tab 154 = some ⟨.ptr 3, 1, 8, [.nilp]⟩ := rfl
theorem tab_155 : tab 155 = some ⟨.func, 1, 8, [.nilfn]⟩ := rfl
theorem tab_156 : tab 156 = some ⟨.func, 1, 8, [.nilfn]⟩ := rfl
theorem tab_157 : tab 157 = some ⟨.func, 1, 8, [.nilfn]⟩ := rfl
theorem tab_158 : tab 158 = some ⟨.ptr 150, 1, 8, [.nilp]⟩ := rfl
theorem tab_160 : tab 160 = some ⟨.func, 1, 8, [.nilfn]⟩ := rfl
theorem tab_161 : tab 161 = some ⟨.func, 1, 8, [.nilfn]⟩ := rfl
theorem tab_162 : tab 162 = some ⟨.func, 1, 8, [.nilfn]⟩ := rfl
theorem tab_168 : tab 168 = some ⟨.func, 1, 8, [.nilfn]⟩ := rfl
theorem tab_169 : tab 169 = some ⟨.int .u8, 1, 1, [(.p (.int .u8 0))]⟩ := rfl
theorem tab_170 : tab 170 = some ⟨.int .u8, 1, 1, [(.p (.int .u8 0))]⟩ := rfl
theorem tab_171 : tab 171 = some ⟨.func, 1, 8, [.nilfn]⟩ := rfl
theorem tab_172 : tab 172 = some ⟨.ptr 5, 1, 8, [.nilp]⟩ := rfl
theorem tab_173 : tab 173 = some ⟨.int .i32, 1, 4, [(.p (.int .i32 0))]⟩ := rfl
theorem tab_174 : tab 174 = some ⟨.int .i32, 1, 4, [(.p (.int .i32 0))]⟩ := rfl
set_option maxRecDepth 100000 in
theorem tabs : tab 1 = some ⟨.func, 1, 8, [.nilfn]⟩ ∧ tab 2 = some ⟨.int .i64, 1, 8, [(.p (.int .i64 0))]⟩ ∧ tab 3 = some ⟨.int .i64, 1, 8, [(.p (.int .i64 0))]⟩ ∧ tab 4 = some ⟨.bool, 1, 1, [(.p (.bool false))]⟩ ∧ tab 5 = some ⟨.int .u8, 1, 1, [(.p (.int .u8 0))]⟩ ∧ tab 6 = some ⟨.int .u8, 1, 1, [(.p (.int .u8 0))]⟩ ∧ tab 9 = some ⟨.str, 1, 16, [(.p (.str ⟨#[]⟩))]⟩ ∧ tab 10 = some ⟨.str, 1, 16, [(.p (.str ⟨#[]⟩))]⟩ ∧ tab 11 = some ⟨.str, 1, 16, [(.p (.str ⟨#[]⟩))]⟩ ∧ tab 12 = some ⟨.int .u64, 1, 8, [(.p (.int .u64 0))]⟩ ∧ tab 15 = some ⟨.ptr 164, 1, 8, [.nilp]⟩ ∧ tab 16 = some ⟨.ptr 167, 1, 8, [.nilp]⟩ ∧ tab 17 = some ⟨.ptr 176, 1, 8, [.nilp]⟩ ∧ tab 21 = some ⟨.int .i32, 1, 4, [(.p (.int .i32 0))]⟩ ∧ tab 22 = some ⟨.slice 3, 1, 24, [(.p .nil)]⟩ ∧ tab 23 = some ⟨.slice 90, 1, 24, [(.p .nil)]⟩ ∧ tab 24 = some ⟨.slice 22, 1, 24, [(.p .nil)]⟩ ∧ tab 25 = some ⟨.struct [(0, 3), (1, 22), (2, 23), (3, 24)], 4, 80, [(.p (.int .i64 0)), (.p .nil), (.p .nil), (.p .nil)]⟩ ∧ tab 26 = some ⟨.struct [(0, 3), (1, 22), (2, 23), (3, 24)], 4, 80, [(.p (.int .i64 0)), (.p .nil), (.p .nil), (.p .nil)]⟩ ∧ tab 27 = some ⟨.func, 1, 8, [.nilfn]⟩ ∧ tab 28 = some ⟨.slice 61, 1, 24, [(.p .nil)]⟩ ∧ tab 29 = some ⟨.struct [(0, 3), (1, 22), (2, 28), (3, 24)], 4, 80, [(.p (.int .i64 0)), (.p .nil), (.p .nil), (.p .nil)]⟩ ∧ tab 30 = some ⟨.struct [(0, 3), (1, 22), (2, 28), (3, 24)], 4, 80, [(.p (.int .i64 0)), (.p .nil), (.p .nil), (.p .nil)]⟩ ∧ tab 32 = some ⟨.func, 1, 8, [.nilfn]⟩ ∧ tab 33 = some ⟨.func, 1, 8, [.nilfn]⟩ ∧ tab 34 = some ⟨.func, 1, 8, [.nilfn]⟩ ∧ tab 35 = some ⟨.func, 1, 8, [.nilfn]⟩ ∧ tab 36 = some ⟨.func, 1, 8, [.nilfn]⟩ ∧ tab 37 = some ⟨.func, 1, 8, [.nilfn]⟩ ∧ tab 38 = some ⟨.func, 1, 8, [.nilfn]⟩ ∧ tab 39 = some ⟨.struct [(0, 22), (1, 22)], 2, 48, [(.p .nil), (.p .nil)]⟩ ∧ tab 40 = some ⟨.struct [(0, 22), (1, 22)], 2, 48, [(.p .nil), (.p .nil)]⟩ ∧ tab 41 = some ⟨.func, 1, 8, [.nilfn]⟩ ∧ tab 43 = some ⟨.func, 1, 8, [.nilfn]⟩ ∧ tab 44 = some ⟨.struct [(0, 22), (1, 22)], 2, 48, [(.p .nil), (.p .nil)]⟩ ∧ tab 45 = some ⟨.func, 1, 8, [.nilfn]⟩ ∧ tab 46 = some ⟨.func, 1, 8, [.nilfn]⟩ ∧ tab 47 = some ⟨.func, 1, 8, [.nilfn]⟩ ∧ tab 48 = some ⟨.struct [(0, 24)], 1, 24, [(.p .nil)]⟩ ∧ tab 49 = some ⟨.struct [(0, 24)], 1, 24, [(.p .nil)]⟩ ∧ tab 51 = some ⟨.func, 1, 8, [.nilfn]⟩ ∧ tab 52 = some ⟨.func, 1, 8, [.nilfn]⟩ ∧ tab 53 = some ⟨.func, 1, 8, [.nilfn]⟩ ∧ tab 54 = some ⟨.func, 1, 8, [.nilfn]⟩ ∧ tab 55 = some ⟨.func, 1, 8, [.nilfn]⟩ ∧ tab 56 = some ⟨.func, 1, 8, [.nilfn]⟩ ∧ tab 57 = some ⟨.func, 1, 8, [.nilfn]⟩ ∧ tab 58 = some ⟨.func, 1, 8, [.nilfn]⟩ ∧ tab 59 = some ⟨.func, 1, 8, [.nilfn]⟩ ∧ tab 60 = some ⟨.struct [(0, 3), (1, 3), (2, 3)], 3, 24, [(.p (.int .i64 0)), (.p (.int .i64 0)), (.p (.int .i64 0))]⟩ ∧ tab 61 = some ⟨.struct [(0, 3), (1, 3), (2, 3)], 3, 24, [(.p (.int .i64 0)), (.p (.int .i64 0)), (.p (.int .i64 0))]⟩ ∧ tab 62 = some ⟨.func, 1, 8, [.nilfn]⟩ ∧ tab 63 = some ⟨.func, 1, 8, [.nilfn]⟩ ∧ tab 64 = some ⟨.func, 1, 8, [.nilfn]⟩ ∧ tab 65 = some ⟨.func, 1, 8, [.nilfn]⟩ ∧ tab 66 = some ⟨.func, 1, 8, [.nilfn]⟩ ∧ tab 67 = some ⟨.func, 1, 8, [.nilfn]⟩ ∧ tab 68 = some ⟨.func, 1, 8, [.nilfn]⟩ ∧ tab 69 = some ⟨.func, 1, 8, [.nilfn]⟩ ∧ tab 70 = some ⟨.func, 1, 8, [.nilfn]⟩ ∧ tab 71 = some ⟨.func, 1, 8, [.nilfn]⟩ ∧ tab 72 = some ⟨.func, 1, 8, [.nilfn]⟩ ∧ tab 73 = some ⟨.func, 1, 8, [.nilfn]⟩ ∧ tab 74 = some ⟨.func, 1, 8, [.nilfn]⟩ ∧ tab 75 = some ⟨.func, 1, 8, [.nilfn]⟩ ∧ tab 76 = some ⟨.func, 1, 8, [.nilfn]⟩ ∧ tab 77 = some ⟨.func, 1, 8, [.nilfn]⟩ ∧ tab 78 = some ⟨.func, 1, 8, [.nilfn]⟩ ∧ tab 79 = some ⟨.func, 1, 8, [.nilfn]⟩ ∧ tab 80 = some ⟨.func, 1, 8, [.nilfn]⟩ ∧ tab 81 = some ⟨.func, 1, 8, [.nilfn]⟩ ∧ tab 82 = some ⟨.func, 1, 8, [.nilfn]⟩ ∧ tab 83 = some ⟨.func, 1, 8, [.nilfn]⟩ ∧ tab 85 = some ⟨.func, 1, 8, [.nilfn]⟩ ∧ tab 86 = some ⟨.func, 1, 8, [.nilfn]⟩ ∧ tab 87 = some ⟨.func, 1, 8, [.nilfn]⟩ ∧ tab 88 = some ⟨.func, 1, 8, [.nilfn]⟩ ∧ tab 89 = some ⟨.func, 1, 8, [.nilfn]⟩ ∧ tab 90 = some ⟨.struct [(0, 3), (1, 3), (2, 3)], 3, 24, [(.p (.int .i64 0)), (.p (.int .i64 0)), (.p (.int .i64 0))]⟩ ∧ tab 91 = some ⟨.func, 1, 8, [.nilfn]⟩ ∧ tab 92 = some ⟨.func, 1, 8, [.nilfn]⟩ ∧ tab 93 = some ⟨.func, 1, 8, [.nilfn]⟩ ∧ tab 94 = some ⟨.slice 4, 1, 24, [(.p .nil)]⟩ ∧ tab 95 = some ⟨.func, 1, 8, [.nilfn]⟩ ∧ tab 96 = some ⟨.func, 1, 8, [.nilfn]⟩ ∧ tab 97 = some ⟨.func, 1, 8, [.nilfn]⟩ ∧ tab 98 = some ⟨.func, 1, 8, [.nilfn]⟩ ∧ tab 99 = some ⟨.func, 1, 8, [.nilfn]⟩ ∧ tab 100 = some ⟨.func, 1, 8, [.nilfn]⟩ ∧ tab 101 = some ⟨.func, 1, 8, [.nilfn]⟩ ∧ tab 102 = some ⟨.func, 1, 8, [.nilfn]⟩ ∧ tab 104 = some ⟨.func, 1, 8, [.nilfn]⟩ ∧ tab 105 = some ⟨.func, 1, 8, [.nilfn]⟩ ∧ tab 106 = some ⟨.func, 1, 8, [.nilfn]⟩ ∧ tab 107 = some ⟨.func, 1, 8, [.nilfn]⟩ ∧ tab 108 = some ⟨.func, 1, 8, [.nilfn]⟩ ∧ tab 109 = some ⟨.func, 1, 8, [.nilfn]⟩ ∧ tab 110 = some ⟨.func, 1, 8, [.nilfn]⟩ ∧ tab 111 = some ⟨.func, 1, 8, [.nilfn]⟩ ∧ tab 112 = some ⟨.func, 1, 8, [.nilfn]⟩ ∧ tab 113 = some ⟨.func, 1, 8, [.nilfn]⟩ ∧ tab 114 = some ⟨.func, 1, 8, [.nilfn]⟩ ∧ tab 115 = some ⟨.int .u64, 1, 8, [(.p (.int .u64 0))]⟩ ∧ tab 116 = some ⟨.func, 1, 8, [.nilfn]⟩ ∧ tab 117 = some ⟨.ptr 119, 1, 8, [.nilp]⟩ ∧ tab 118 = some ⟨.struct [(0, 24), (1, 94), (2, 22)], 3, 72, [(.p .nil), (.p .nil), (.p .nil)]⟩ ∧ tab 119 = some ⟨.struct [(0, 24), (1, 94), (2, 22)], 3, 72, [(.p .nil), (.p .nil), (.p .nil)]⟩ ∧ tab 120 = some ⟨.func, 1, 8, [.nilfn]⟩ ∧ tab 121 = some ⟨.func, 1, 8, [.nilfn]⟩ ∧ tab 122 = some ⟨.func, 1, 8, [.nilfn]⟩ ∧ tab 124 = some ⟨.func, 1, 8, [.nilfn]⟩ ∧ tab 125 = some ⟨.ptr 127, 1, 8, [.nilp]⟩ ∧ tab 126 = some ⟨.struct [(0, 24), (1, 22), (2, 22), (3, 22), (4, 22), (5, 3)], 6, 128, [(.p .nil), (.p .nil), (.p .nil), (.p .nil), (.p .nil), (.p (.int .i64 0))]⟩ ∧ tab 127 = some ⟨.struct [(0, 24), (1, 22), (2, 22), (3, 22), (4, 22), (5, 3)], 6, 128, [(.p .nil), (.p .nil), (.p .nil), (.p .nil), (.p .nil), (.p (.int .i64 0))]⟩ ∧ tab 128 = some ⟨.func, 1, 8, [.nilfn]⟩ ∧ tab 129 = some ⟨.int .i64, 1, 8, [(.p (.int .i64 0))]⟩ ∧ tab 131 = some ⟨.func, 1, 8, [.nilfn]⟩ ∧ tab 132 = some ⟨.func, 1, 8, [.nilfn]⟩ ∧ tab 133 = some ⟨.func, 1, 8, [.nilfn]⟩ ∧ tab 135 = some ⟨.func, 1, 8, [.nilfn]⟩ ∧ tab 136 = some ⟨.func, 1, 8, [.nilfn]⟩ ∧ tab 137 = some ⟨.int .u32, 1, 4, [(.p (.int .u32 0))]⟩ ∧ tab 138 = some ⟨.func, 1, 8, [.nilfn]⟩ ∧ tab 139 = some ⟨.int .u64, 1, 8, [(.p (.int .u64 0))]⟩ ∧ tab 140 = some ⟨.func, 1, 8, [.nilfn]⟩ ∧ tab 141 = some ⟨.func, 1, 8, [.nilfn]⟩ ∧ tab 142 = some ⟨.func, 1, 8, [.nilfn]⟩ ∧ tab 143 = some ⟨.func, 1, 8, [.nilfn]⟩ ∧ tab 144 = some ⟨.func, 1, 8, [.nilfn]⟩ ∧ tab 146 = some ⟨.func, 1, 8, [.nilfn]⟩ ∧ tab 148 = some ⟨.func, 1, 8, [.nilfn]⟩ ∧ tab 149 = some ⟨.func, 1, 8, [.nilfn]⟩ ∧ tab 150 = some ⟨.int .u64, 1, 8, [(.p (.int .u64 0))]⟩ ∧ tab 151 = some ⟨.func, 1, 8, [.nilfn]⟩ ∧ tab 152 = some ⟨.func, 1, 8, [.nilfn]⟩ ∧ tab 153 = some ⟨.func, 1, 8, [.nilfn]⟩ ∧ tab 154 = some ⟨.ptr 3, 1, 8, [.nilp]⟩ ∧ tab 155 = some ⟨.func, 1, 8, [.nilfn]⟩ ∧ tab 156 = some ⟨.func, 1, 8, [.nilfn]⟩ ∧ tab 157 = some ⟨.func, 1, 8, [.nilfn]⟩ ∧ tab 158 = some ⟨.ptr 150, 1, 8, [.nilp]⟩ ∧ tab 160 = some ⟨.func, 1, 8, [.nilfn]⟩ ∧ tab 161 = some ⟨.func, 1, 8, [.nilfn]⟩ ∧ tab 162 = some ⟨.func, 1, 8, [.nilfn]⟩ ∧ tab 168 = some ⟨.func, 1, 8, [.nilfn]⟩ ∧ tab 169 = some ⟨.int .u8, 1, 1, [(.p (.int .u8 0))]⟩ ∧ tab 170 = some ⟨.int .u8, 1, 1, [(.p (.int .u8 0))]⟩ ∧ tab 171 = some ⟨.func, 1, 8, [.nilfn]⟩ ∧ tab 172 = some ⟨.ptr 5, 1, 8, [.nilp]⟩ ∧ tab 173 = some ⟨.int .i32, 1, 4, [(.p (.int .i32 0))]⟩ ∧ tab 174 = some ⟨.int .i32, 1, 4, [(.p (.int .i32 0))]⟩ := ⟨tab_1, tab_2, tab_3, tab_4, tab_5, tab_6, tab_9, tab_10, tab_11, tab_12, tab_15, tab_16, tab_17, tab_21, tab_22, tab_23, tab_24, tab_25, tab_26, tab_27, tab_28, tab_29, tab_30, tab_32, tab_33, tab_34, tab_35, tab_36, tab_37, tab_38, tab_39, tab_40, tab_41, tab_43, tab_44, tab_45, tab_46, tab_47, tab_48, tab_49, tab_51, tab_52, tab_53, tab_54, tab_55, tab_56, tab_57, tab_58, tab_59, tab_60, tab_61, tab_62, tab_63, tab_64, tab_65, tab_66, tab_67, tab_68, tab_69, tab_70, tab_71, tab_72, tab_73, tab_74, tab_75, tab_76, tab_77, tab_78, tab_79, tab_80, tab_81, tab_82, tab_83, tab_85, tab_86, tab_87, tab_88, tab_89, tab_90, tab_91, tab_92, tab_93, tab_94, tab_95, tab_96, tab_97, tab_98, tab_99, tab_100, tab_101, tab_102, tab_104, tab_105, tab_106, tab_107, tab_108, tab_109, tab_110, tab_111, tab_112, tab_113, tab_114, tab_115, tab_116, tab_117, tab_118, tab_119, tab_120, tab_121, tab_122, tab_124, tab_125, tab_126, tab_127, tab_128, tab_129, tab_131, tab_132, tab_133, tab_135, tab_136, tab_137, tab_138, tab_139, tab_140, tab_141, tab_142, tab_143, tab_144, tab_146, tab_148, tab_149, tab_150, tab_151, tab_152, tab_153, tab_154, tab_155, tab_156, tab_157, tab_158, tab_160, tab_161, tab_162, tab_168, tab_169, tab_170, tab_171, tab_172, tab_173, tab_174⟩
theorem info1 : (Try.prog.info? 1).map (fun i => (i.zero, i.size, i.bytes)) = some (some .nilFunc, 1, 8) := by kernel_rfl
theorem td1_ok : TD.Ok Try.prog 1 td1 := TD.Ok.of ⟨_, _, _, Try.underlying1⟩ info1 rfl rfl (by decide) (fun _ => rfl)
theorem info2 : (Try.prog.info? 2).map (fun i => (i.zero, i.size, i.bytes)) = some (some (.int .i64 0), 1, 8) := by kernel_rfl
theorem td2_ok : TD.Ok Try.prog 2 td2 := TD.Ok.of Try.underlying2 info2 rfl rfl (by decide) (fun _ => rfl)
theorem info3 : (Try.prog.info? 3).map (fun i => (i.zero, i.size, i.bytes)) = some (some (.int .i64 0), 1, 8) := by kernel_rfl
theorem td3_ok : TD.Ok Try.prog 3 td3 := TD.Ok.of Try.underlying3 info3 rfl rfl (by decide) (fun _ => rfl)
theorem info4 : (Try.prog.info? 4).map (fun i => (i.zero, i.size, i.bytes)) = some (some (.bool false), 1, 1) := by kernel_rfl
theorem td4_ok : TD.Ok Try.prog 4 td4 := TD.Ok.of Try.underlying4 info4 rfl rfl (by decide) (fun _ => rfl)
theorem info5 : (Try.prog.info? 5).map (fun i => (i.zero, i.size, i.bytes)) = some (some (.int .u8 0), 1, 1) := by kernel_rfl
theorem td5_ok : TD.Ok Try.prog 5 td5 := TD.Ok.of Try.underlying5 info5 rfl rfl (by decide) (fun _ => rfl)
theorem info6 : (Try.prog.info? 6).map (fun i => (i.zero, i.size, i.bytes)) = some (some (.int .u8 0), 1, 1) := by kernel_rfl
theorem td6_ok : TD.Ok Try.prog 6 td6 := TD.Ok.of Try.underlying6 info6 rfl rfl (by decide) (fun _ => rfl)
theorem info9 : (Try.prog.info? 9).map (fun i => (i.zero, i.size, i.bytes)) = some (some (.string ⟨#[]⟩), 1, 16) := by kernel_rfl
theorem td9_ok : TD.Ok Try.prog 9 td9 := TD.Ok.of Try.underlying9 info9 rfl rfl (by decide) (fun _ => rfl)
theorem info10 : (Try.prog.info? 10).map (fun i => (i.zero, i.size, i.bytes)) = some (some (.string ⟨#[]⟩), 1, 16) := by kernel_rfl
theorem td10_ok : TD.Ok Try.prog 10 td10 := TD.Ok.of Try.underlying10 info10 rfl rfl (by decide) (fun _ => rfl)
theorem info11 : (Try.prog.info? 11).map (fun i => (i.zero, i.size, i.bytes)) = some (some (.string ⟨#[]⟩), 1, 16) := by kernel_rfl
theorem td11_ok : TD.Ok Try.prog 11 td11 := TD.Ok.of Try.underlying11 info11 rfl rfl (by decide) (fun _ => rfl)
theorem info12 : (Try.prog.info? 12).map (fun i => (i.zero, i.size, i.bytes)) = some (some (.int .u64 0), 1, 8) := by kernel_rfl
theorem td12_ok : TD.Ok Try.prog 12 td12 := TD.Ok.of Try.underlying12 info12 rfl rfl (by decide) (fun _ => rfl)
theorem info15 : (Try.prog.info? 15).map (fun i => (i.zero, i.size, i.bytes)) = some (some (.pointer none), 1, 8) := by kernel_rfl
theorem td15_ok : TD.Ok Try.prog 15 td15 := TD.Ok.of Try.underlying15 info15 rfl rfl (by decide) (fun _ => rfl)
theorem info16 : (Try.prog.info? 16).map (fun i => (i.zero, i.size, i.bytes)) = some (some (.pointer none), 1, 8) := by kernel_rfl
theorem td16_ok : TD.Ok Try.prog 16 td16 := TD.Ok.of Try.underlying16 info16 rfl rfl (by decide) (fun _ => rfl)
theorem info17 : (Try.prog.info? 17).map (fun i => (i.zero, i.size, i.bytes)) = some (some (.pointer none), 1, 8) := by kernel_rfl
theorem td17_ok : TD.Ok Try.prog 17 td17 := TD.Ok.of Try.underlying17 info17 rfl rfl (by decide) (fun _ => rfl)
theorem info21 : (Try.prog.info? 21).map (fun i => (i.zero, i.size, i.bytes)) = some (some (.int .i32 0), 1, 4) := by kernel_rfl
theorem td21_ok : TD.Ok Try.prog 21 td21 := TD.Ok.of Try.underlying21 info21 rfl rfl (by decide) (fun _ => rfl)
theorem info22 : (Try.prog.info? 22).map (fun i => (i.zero, i.size, i.bytes)) = some (some (.slice none 0 0), 1, 24) := by kernel_rfl
theorem td22_ok : TD.Ok Try.prog 22 td22 := TD.Ok.of Try.underlying22 info22 rfl rfl (by decide) (fun _ => rfl)
theorem info23 : (Try.prog.info? 23).map (fun i => (i.zero, i.size, i.bytes)) = some (some (.slice none 0 0), 1, 24) := by kernel_rfl
theorem td23_ok : TD.Ok Try.prog 23 td23 := TD.Ok.of Try.underlying23 info23 rfl rfl (by decide) (fun _ => rfl)
theorem info24 : (Try.prog.info? 24).map (fun i => (i.zero, i.size, i.bytes)) = some (some (.slice none 0 0), 1, 24) := by kernel_rfl
theorem td24_ok : TD.Ok Try.prog 24 td24 := TD.Ok.of Try.underlying24 info24 rfl rfl (by decide) (fun _ => rfl)
theorem info25 : (Try.prog.info? 25).map (fun i => (i.zero, i.size, i.bytes)) = some (some (.agg #[(.int .i64 0), (.slice none 0 0), (.slice none 0 0), (.slice none 0 0)]), 4, 80) := by kernel_rfl
theorem td25_ok : TD.Ok Try.prog 25 td25 := TD.Ok.of ⟨_, Try.underlying25, rfl, Try.stoodInHeld25, Try.eqGuardType25, by decide⟩ info25 rfl rfl (by decide) (fun h => by cases h)
theorem info26 : (Try.prog.info? 26).map (fun i => (i.zero, i.size, i.bytes)) = some (some (.agg #[(.int .i64 0), (.slice none 0 0), (.slice none 0 0), (.slice none 0 0)]), 4, 80) := by kernel_rfl
theorem td26_ok : TD.Ok Try.prog 26 td26 := TD.Ok.of ⟨_, Try.underlying26, rfl, Try.stoodInHeld26, Try.eqGuardType26, by decide⟩ info26 rfl rfl (by decide) (fun h => by cases h)
theorem info27 : (Try.prog.info? 27).map (fun i => (i.zero, i.size, i.bytes)) = some (some .nilFunc, 1, 8) := by kernel_rfl
theorem td27_ok : TD.Ok Try.prog 27 td27 := TD.Ok.of ⟨_, _, _, Try.underlying27⟩ info27 rfl rfl (by decide) (fun _ => rfl)
theorem info28 : (Try.prog.info? 28).map (fun i => (i.zero, i.size, i.bytes)) = some (some (.slice none 0 0), 1, 24) := by kernel_rfl
theorem td28_ok : TD.Ok Try.prog 28 td28 := TD.Ok.of Try.underlying28 info28 rfl rfl (by decide) (fun _ => rfl)
theorem info29 : (Try.prog.info? 29).map (fun i => (i.zero, i.size, i.bytes)) = some (some (.agg #[(.int .i64 0), (.slice none 0 0), (.slice none 0 0), (.slice none 0 0)]), 4, 80) := by kernel_rfl
theorem td29_ok : TD.Ok Try.prog 29 td29 := TD.Ok.of ⟨_, Try.underlying29, rfl, Try.stoodInHeld29, Try.eqGuardType29, by decide⟩ info29 rfl rfl (by decide) (fun h => by cases h)
theorem info30 : (Try.prog.info? 30).map (fun i => (i.zero, i.size, i.bytes)) = some (some (.agg #[(.int .i64 0), (.slice none 0 0), (.slice none 0 0), (.slice none 0 0)]), 4, 80) := by kernel_rfl
theorem td30_ok : TD.Ok Try.prog 30 td30 := TD.Ok.of ⟨_, Try.underlying30, rfl, Try.stoodInHeld30, Try.eqGuardType30, by decide⟩ info30 rfl rfl (by decide) (fun h => by cases h)
theorem info32 : (Try.prog.info? 32).map (fun i => (i.zero, i.size, i.bytes)) = some (some .nilFunc, 1, 8) := by kernel_rfl
theorem td32_ok : TD.Ok Try.prog 32 td32 := TD.Ok.of ⟨_, _, _, Try.underlying32⟩ info32 rfl rfl (by decide) (fun _ => rfl)
theorem info33 : (Try.prog.info? 33).map (fun i => (i.zero, i.size, i.bytes)) = some (some .nilFunc, 1, 8) := by kernel_rfl
theorem td33_ok : TD.Ok Try.prog 33 td33 := TD.Ok.of ⟨_, _, _, Try.underlying33⟩ info33 rfl rfl (by decide) (fun _ => rfl)
theorem info34 : (Try.prog.info? 34).map (fun i => (i.zero, i.size, i.bytes)) = some (some .nilFunc, 1, 8) := by kernel_rfl
theorem td34_ok : TD.Ok Try.prog 34 td34 := TD.Ok.of ⟨_, _, _, Try.underlying34⟩ info34 rfl rfl (by decide) (fun _ => rfl)
theorem info35 : (Try.prog.info? 35).map (fun i => (i.zero, i.size, i.bytes)) = some (some .nilFunc, 1, 8) := by kernel_rfl
theorem td35_ok : TD.Ok Try.prog 35 td35 := TD.Ok.of ⟨_, _, _, Try.underlying35⟩ info35 rfl rfl (by decide) (fun _ => rfl)
theorem info36 : (Try.prog.info? 36).map (fun i => (i.zero, i.size, i.bytes)) = some (some .nilFunc, 1, 8) := by kernel_rfl
theorem td36_ok : TD.Ok Try.prog 36 td36 := TD.Ok.of ⟨_, _, _, Try.underlying36⟩ info36 rfl rfl (by decide) (fun _ => rfl)
theorem info37 : (Try.prog.info? 37).map (fun i => (i.zero, i.size, i.bytes)) = some (some .nilFunc, 1, 8) := by kernel_rfl
theorem td37_ok : TD.Ok Try.prog 37 td37 := TD.Ok.of ⟨_, _, _, Try.underlying37⟩ info37 rfl rfl (by decide) (fun _ => rfl)
theorem info38 : (Try.prog.info? 38).map (fun i => (i.zero, i.size, i.bytes)) = some (some .nilFunc, 1, 8) := by kernel_rfl
theorem td38_ok : TD.Ok Try.prog 38 td38 := TD.Ok.of ⟨_, _, _, Try.underlying38⟩ info38 rfl rfl (by decide) (fun _ => rfl)
theorem info39 : (Try.prog.info? 39).map (fun i => (i.zero, i.size, i.bytes)) = some (some (.agg #[(.slice none 0 0), (.slice none 0 0)]), 2, 48) := by kernel_rfl
theorem td39_ok : TD.Ok Try.prog 39 td39 := TD.Ok.of ⟨_, Try.underlying39, rfl, Try.stoodInHeld39, Try.eqGuardType39, by decide⟩ info39 rfl rfl (by decide) (fun h => by cases h)
theorem info40 : (Try.prog.info? 40).map (fun i => (i.zero, i.size, i.bytes)) = some (some (.agg #[(.slice none 0 0), (.slice none 0 0)]), 2, 48) := by kernel_rfl
theorem td40_ok : TD.Ok Try.prog 40 td40 := TD.Ok.of ⟨_, Try.underlying40, rfl, Try.stoodInHeld40, Try.eqGuardType40, by decide⟩ info40 rfl rfl (by decide) (fun h => by cases h)
theorem info41 : (Try.prog.info? 41).map (fun i => (i.zero, i.size, i.bytes)) = some (some .nilFunc, 1, 8) := by kernel_rfl
theorem td41_ok : TD.Ok Try.prog 41 td41 := TD.Ok.of ⟨_, _, _, Try.underlying41⟩ info41 rfl rfl (by decide) (fun _ => rfl)
theorem info43 : (Try.prog.info? 43).map (fun i => (i.zero, i.size, i.bytes)) = some (some .nilFunc, 1, 8) := by kernel_rfl
theorem td43_ok : TD.Ok Try.prog 43 td43 := TD.Ok.of ⟨_, _, _, Try.underlying43⟩ info43 rfl rfl (by decide) (fun _ => rfl)
theorem info44 : (Try.prog.info? 44).map (fun i => (i.zero, i.size, i.bytes)) = some (some (.agg #[(.slice none 0 0), (.slice none 0 0)]), 2, 48) := by kernel_rfl
theorem td44_ok : TD.Ok Try.prog 44 td44 := TD.Ok.of ⟨_, Try.underlying44, rfl, Try.stoodInHeld44, Try.eqGuardType44, by decide⟩ info44 rfl rfl (by decide) (fun h => by cases h)
theorem info45 : (Try.prog.info? 45).map (fun i => (i.zero, i.size, i.bytes)) = some (some .nilFunc, 1, 8) := by kernel_rfl
theorem td45_ok : TD.Ok Try.prog 45 td45 := TD.Ok.of ⟨_, _, _, Try.underlying45⟩ info45 rfl rfl (by decide) (fun _ => rfl)
theorem info46 : (Try.prog.info? 46).map (fun i => (i.zero, i.size, i.bytes)) = some (some .nilFunc, 1, 8) := by kernel_rfl
theorem td46_ok : TD.Ok Try.prog 46 td46 := TD.Ok.of ⟨_, _, _, Try.underlying46⟩ info46 rfl rfl (by decide) (fun _ => rfl)
theorem info47 : (Try.prog.info? 47).map (fun i => (i.zero, i.size, i.bytes)) = some (some .nilFunc, 1, 8) := by kernel_rfl
theorem td47_ok : TD.Ok Try.prog 47 td47 := TD.Ok.of ⟨_, _, _, Try.underlying47⟩ info47 rfl rfl (by decide) (fun _ => rfl)
theorem info48 : (Try.prog.info? 48).map (fun i => (i.zero, i.size, i.bytes)) = some (some (.agg #[(.slice none 0 0)]), 1, 24) := by kernel_rfl
theorem td48_ok : TD.Ok Try.prog 48 td48 := TD.Ok.of ⟨_, Try.underlying48, rfl, Try.stoodInHeld48, Try.eqGuardType48, by decide⟩ info48 rfl rfl (by decide) (fun h => by cases h)
theorem info49 : (Try.prog.info? 49).map (fun i => (i.zero, i.size, i.bytes)) = some (some (.agg #[(.slice none 0 0)]), 1, 24) := by kernel_rfl
theorem td49_ok : TD.Ok Try.prog 49 td49 := TD.Ok.of ⟨_, Try.underlying49, rfl, Try.stoodInHeld49, Try.eqGuardType49, by decide⟩ info49 rfl rfl (by decide) (fun h => by cases h)
theorem info51 : (Try.prog.info? 51).map (fun i => (i.zero, i.size, i.bytes)) = some (some .nilFunc, 1, 8) := by kernel_rfl
theorem td51_ok : TD.Ok Try.prog 51 td51 := TD.Ok.of ⟨_, _, _, Try.underlying51⟩ info51 rfl rfl (by decide) (fun _ => rfl)
theorem info52 : (Try.prog.info? 52).map (fun i => (i.zero, i.size, i.bytes)) = some (some .nilFunc, 1, 8) := by kernel_rfl
theorem td52_ok : TD.Ok Try.prog 52 td52 := TD.Ok.of ⟨_, _, _, Try.underlying52⟩ info52 rfl rfl (by decide) (fun _ => rfl)
theorem info53 : (Try.prog.info? 53).map (fun i => (i.zero, i.size, i.bytes)) = some (some .nilFunc, 1, 8) := by kernel_rfl
theorem td53_ok : TD.Ok Try.prog 53 td53 := TD.Ok.of ⟨_, _, _, Try.underlying53⟩ info53 rfl rfl (by decide) (fun _ => rfl)
theorem info54 : (Try.prog.info? 54).map (fun i => (i.zero, i.size, i.bytes)) = some (some .nilFunc, 1, 8) := by kernel_rfl
theorem td54_ok : TD.Ok Try.prog 54 td54 := TD.Ok.of ⟨_, _, _, Try.underlying54⟩ info54 rfl rfl (by decide) (fun _ => rfl)
theorem info55 : (Try.prog.info? 55).map (fun i => (i.zero, i.size, i.bytes)) = some (some .nilFunc, 1, 8) := by kernel_rfl
theorem td55_ok : TD.Ok Try.prog 55 td55 := TD.Ok.of ⟨_, _, _, Try.underlying55⟩ info55 rfl rfl (by decide) (fun _ => rfl)
theorem info56 : (Try.prog.info? 56).map (fun i => (i.zero, i.size, i.bytes)) = some (some .nilFunc, 1, 8) := by kernel_rfl
theorem td56_ok : TD.Ok Try.prog 56 td56 := TD.Ok.of ⟨_, _, _, Try.underlying56⟩ info56 rfl rfl (by decide) (fun _ => rfl)
theorem info57 : (Try.prog.info? 57).map (fun i => (i.zero, i.size, i.bytes)) = some (some .nilFunc, 1, 8) := by kernel_rfl
theorem td57_ok : TD.Ok Try.prog 57 td57 := TD.Ok.of ⟨_, _, _, Try.underlying57⟩ info57 rfl rfl (by decide) (fun _ => rfl)
theorem info58 : (Try.prog.info? 58).map (fun i => (i.zero, i.size, i.bytes)) = some (some .nilFunc, 1, 8) := by kernel_rfl
theorem td58_ok : TD.Ok Try.prog 58 td58 := TD.Ok.of ⟨_, _, _, Try.underlying58⟩ info58 rfl rfl (by decide) (fun _ => rfl)
theorem info59 : (Try.prog.info? 59).map (fun i => (i.zero, i.size, i.bytes)) = some (some .nilFunc, 1, 8) := by kernel_rfl
theorem td59_ok : TD.Ok Try.prog 59 td59 := TD.Ok.of ⟨_, _, _, Try.underlying59⟩ info59 rfl rfl (by decide) (fun _ => rfl)
theorem info60 : (Try.prog.info? 60).map (fun i => (i.zero, i.size, i.bytes)) = some (some (.agg #[(.int .i64 0), (.int .i64 0), (.int .i64 0)]), 3, 24) := by kernel_rfl
theorem td60_ok : TD.Ok Try.prog 60 td60 := TD.Ok.of ⟨_, Try.underlying60, rfl, Try.stoodInHeld60, Try.eqGuardType60, by decide⟩ info60 rfl rfl (by decide) (fun h => by cases h)
theorem info61 : (Try.prog.info? 61).map (fun i => (i.zero, i.size, i.bytes)) = some (some (.agg #[(.int .i64 0), (.int .i64 0), (.int .i64 0)]), 3, 24) := by kernel_rfl
theorem td61_ok : TD.Ok Try.prog 61 td61 := TD.Ok.of ⟨_, Try.underlying61, rfl, Try.stoodInHeld61, Try.eqGuardType61, by decide⟩ info61 rfl rfl (by decide) (fun h => by cases h)
theorem info62 : (Try.prog.info? 62).map (fun i => (i.zero, i.size, i.bytes)) = some (some .nilFunc, 1, 8) := by kernel_rfl
theorem td62_ok : TD.Ok Try.prog 62 td62 := TD.Ok.of ⟨_, _, _, Try.underlying62⟩ info62 rfl rfl (by decide) (fun _ => rfl)
theorem info63 : (Try.prog.info? 63).map (fun i => (i.zero, i.size, i.bytes)) = some (some .nilFunc, 1, 8) := by kernel_rfl
theorem td63_ok : TD.Ok Try.prog 63 td63 := TD.Ok.of ⟨_, _, _, Try.underlying63⟩ info63 rfl rfl (by decide) (fun _ => rfl)
theorem info64 : (Try.prog.info? 64).map (fun i => (i.zero, i.size, i.bytes)) = some (some .nilFunc, 1, 8) := by kernel_rfl
theorem td64_ok : TD.Ok Try.prog 64 td64 := TD.Ok.of ⟨_, _, _, Try.underlying64⟩ info64 rfl rfl (by decide) (fun _ => rfl)
theorem info65 : (Try.prog.info? 65).map (fun i => (i.zero, i.size, i.bytes)) = some (some .nilFunc, 1, 8) := by kernel_rfl
theorem td65_ok : TD.Ok Try.prog 65 td65 := TD.Ok.of ⟨_, _, _, Try.underlying65⟩ info65 rfl rfl (by decide) (fun _ => rfl)
theorem info66 : (Try.prog.info? 66).map (fun i => (i.zero, i.size, i.bytes)) = some (some .nilFunc, 1, 8) := by kernel_rfl
theorem td66_ok : TD.Ok Try.prog 66 td66 := TD.Ok.of ⟨_, _, _, Try.underlying66⟩ info66 rfl rfl (by decide) (fun _ => rfl)
theorem info67 : (Try.prog.info? 67).map (fun i => (i.zero, i.size, i.bytes)) = some (some .nilFunc, 1, 8) := by kernel_rfl
theorem td67_ok : TD.Ok Try.prog 67 td67 := TD.Ok.of ⟨_, _, _, Try.underlying67⟩ info67 rfl rfl (by decide) (fun _ => rfl)
theorem info68 : (Try.prog.info? 68).map (fun i => (i.zero, i.size, i.bytes)) = some (some .nilFunc, 1, 8) := by kernel_rfl
theorem td68_ok : TD.Ok Try.prog 68 td68 := TD.Ok.of ⟨_, _, _, Try.underlying68⟩ info68 rfl rfl (by decide) (fun _ => rfl)
theorem info69 : (Try.prog.info? 69).map (fun i => (i.zero, i.size, i.bytes)) = some (some .nilFunc, 1, 8) := by kernel_rfl
theorem td69_ok : TD.Ok Try.prog 69 td69 := TD.Ok.of ⟨_, _, _, Try.underlying69⟩ info69 rfl rfl (by decide) (fun _ => rfl)
theorem info70 : (Try.prog.info? 70).map (fun i => (i.zero, i.size, i.bytes)) = some (some .nilFunc, 1, 8) := by kernel_rfl
theorem td70_ok : TD.Ok Try.prog 70 td70 := TD.Ok.of ⟨_, _, _, Try.underlying70⟩ info70 rfl rfl (by decide) (fun _ => rfl)
theorem info71 : (Try.prog.info? 71).map (fun i => (i.zero, i.size, i.bytes)) = some (some .nilFunc, 1, 8) := by kernel_rfl
theorem td71_ok : TD.Ok Try.prog 71 td71 := TD.Ok.of ⟨_, _, _, Try.underlying71⟩ info71 rfl rfl (by decide) (fun _ => rfl)
theorem info72 : (Try.prog.info? 72).map (fun i => (i.zero, i.size, i.bytes)) = some (some .nilFunc, 1, 8) := by kernel_rfl
theorem td72_ok : TD.Ok Try.prog 72 td72 := TD.Ok.of ⟨_, _, _, Try.underlying72⟩ info72 rfl rfl (by decide) (fun _ => rfl)
theorem info73 : (Try.prog.info? 73).map (fun i => (i.zero, i.size, i.bytes)) = some (some .nilFunc, 1, 8) := by kernel_rfl
theorem td73_ok : TD.Ok Try.prog 73 td73 := TD.Ok.of ⟨_, _, _, Try.underlying73⟩ info73 rfl rfl (by decide) (fun _ => rfl)
theorem info74 : (Try.prog.info? 74).map (fun i => (i.zero, i.size, i.bytes)) = some (some .nilFunc, 1, 8) := by kernel_rfl
theorem td74_ok : TD.Ok Try.prog 74 td74 := TD.Ok.of ⟨_, _, _, Try.underlying74⟩ info74 rfl rfl (by decide) (fun _ => rfl)
theorem info75 : (Try.prog.info? 75).map (fun i => (i.zero, i.size, i.bytes)) = some (some .nilFunc, 1, 8) := by kernel_rfl
theorem td75_ok : TD.Ok Try.prog 75 td75 := TD.Ok.of ⟨_, _, _, Try.underlying75⟩ info75 rfl rfl (by decide) (fun _ => rfl)
theorem info76 : (Try.prog.info? 76).map (fun i => (i.zero, i.size, i.bytes)) = some (some .nilFunc, 1, 8) := by kernel_rfl
theorem td76_ok : TD.Ok Try.prog 76 td76 := TD.Ok.of ⟨_, _, _, Try.underlying76⟩ info76 rfl rfl (by decide) (fun _ => rfl)
theorem info77 : (Try.prog.info? 77).map (fun i => (i.zero, i.size, i.bytes)) = some (some .nilFunc, 1, 8) := by kernel_rfl
theorem td77_ok : TD.Ok Try.prog 77 td77 := TD.Ok.of ⟨_, _, _, Try.underlying77⟩ info77 rfl rfl (by decide) (fun _ => rfl)
theorem info78 : (Try.prog.info? 78).map (fun i => (i.zero, i.size, i.bytes)) = some (some .nilFunc, 1, 8) := by kernel_rfl
theorem td78_ok : TD.Ok Try.prog 78 td78 := TD.Ok.of ⟨_, _, _, Try.underlying78⟩ info78 rfl rfl (by decide) (fun _ => rfl)
theorem info79 : (Try.prog.info? 79).map (fun i => (i.zero, i.size, i.bytes)) = some (some .nilFunc, 1, 8) := by kernel_rfl
theorem td79_ok : TD.Ok Try.prog 79 td79 := TD.Ok.of ⟨_, _, _, Try.underlying79⟩ info79 rfl rfl (by decide) (fun _ => rfl)
theorem info80 : (Try.prog.info? 80).map (fun i => (i.zero, i.size, i.bytes)) = some (some .nilFunc, 1, 8) := by kernel_rfl
theorem td80_ok : TD.Ok Try.prog 80 td80 := TD.Ok.of ⟨_, _, _, Try.underlying80⟩ info80 rfl rfl (by decide) (fun _ => rfl)
theorem info81 : (Try.prog.info? 81).map (fun i => (i.zero, i.size, i.bytes)) = some (some .nilFunc, 1, 8) := by kernel_rfl
theorem td81_ok : TD.Ok Try.prog 81 td81 := TD.Ok.of ⟨_, _, _, Try.underlying81⟩ info81 rfl rfl (by decide) (fun _ => rfl)
theorem info82 : (Try.prog.info? 82).map (fun i => (i.zero, i.size, i.bytes)) = some (some .nilFunc, 1, 8) := by kernel_rfl
theorem td82_ok : TD.Ok Try.prog 82 td82 := TD.Ok.of ⟨_, _, _, Try.underlying82⟩ info82 rfl rfl (by decide) (fun _ => rfl)
theorem info83 : (Try.prog.info? 83).map (fun i => (i.zero, i.size, i.bytes)) = some (some .nilFunc, 1, 8) := by kernel_rfl
theorem td83_ok : TD.Ok Try.prog 83 td83 := TD.Ok.of ⟨_, _, _, Try.underlying83⟩ info83 rfl rfl (by decide) (fun _ => rfl)
theorem info85 : (Try.prog.info? 85).map (fun i => (i.zero, i.size, i.bytes)) = some (some .nilFunc, 1, 8) := by kernel_rfl
theorem td85_ok : TD.Ok Try.prog 85 td85 := TD.Ok.of ⟨_, _, _, Try.underlying85⟩ info85 rfl rfl (by decide) (fun _ => rfl)
theorem info86 : (Try.prog.info? 86).map (fun i => (i.zero, i.size, i.bytes)) = some (some .nilFunc, 1, 8) := by kernel_rfl
theorem td86_ok : TD.Ok Try.prog 86 td86 := TD.Ok.of ⟨_, _, _, Try.underlying86⟩ info86 rfl rfl (by decide) (fun _ => rfl)
theorem info87 : (Try.prog.info? 87).map (fun i => (i.zero, i.size, i.bytes)) = some (some .nilFunc, 1, 8) := by kernel_rfl
theorem td87_ok : TD.Ok Try.prog 87 td87 := TD.Ok.of ⟨_, _, _, Try.underlying87⟩ info87 rfl rfl (by decide) (fun _ => rfl)
theorem info88 : (Try.prog.info? 88).map (fun i => (i.zero, i.size, i.bytes)) = some (some .nilFunc, 1, 8) := by kernel_rfl
theorem td88_ok : TD.Ok Try.prog 88 td88 := TD.Ok.of ⟨_, _, _, Try.underlying88⟩ info88 rfl rfl (by decide) (fun _ => rfl)
theorem info89 : (Try.prog.info? 89).map (fun i => (i.zero, i.size, i.bytes)) = some (some .nilFunc, 1, 8) := by kernel_rfl
theorem td89_ok : TD.Ok Try.prog 89 td89 := TD.Ok.of ⟨_, _, _, Try.underlying89⟩ info89 rfl rfl (by decide) (fun _ => rfl)
theorem info90 : (Try.prog.info? 90).map (fun i => (i.zero, i.size, i.bytes)) = some (some (.agg #[(.int .i64 0), (.int .i64 0), (.int .i64 0)]), 3, 24) := by kernel_rfl
theorem td90_ok : TD.Ok Try.prog 90 td90 := TD.Ok.of ⟨_, Try.underlying90, rfl, Try.stoodInHeld90, Try.eqGuardType90, by decide⟩ info90 rfl rfl (by decide) (fun h => by cases h)
theorem info91 : (Try.prog.info? 91).map (fun i => (i.zero, i.size, i.bytes)) = some (some .nilFunc, 1, 8) := by kernel_rfl
theorem td91_ok : TD.Ok Try.prog 91 td91 := TD.Ok.of ⟨_, _, _, Try.underlying91⟩ info91 rfl rfl (by decide) (fun _ => rfl)
theorem info92 : (Try.prog.info? 92).map (fun i => (i.zero, i.size, i.bytes)) = some (some .nilFunc, 1, 8) := by kernel_rfl
theorem td92_ok : TD.Ok Try.prog 92 td92 := TD.Ok.of ⟨_, _, _, Try.underlying92⟩ info92 rfl rfl (by decide) (fun _ => rfl)
theorem info93 : (Try.prog.info? 93).map (fun i => (i.zero, i.size, i.bytes)) = some (some .nilFunc, 1, 8) := by kernel_rfl
theorem td93_ok : TD.Ok Try.prog 93 td93 := TD.Ok.of ⟨_, _, _, Try.underlying93⟩ info93 rfl rfl (by decide) (fun _ => rfl)
theorem info94 : (Try.prog.info? 94).map (fun i => (i.zero, i.size, i.bytes)) = some (some (.slice none 0 0), 1, 24) := by kernel_rfl
theorem td94_ok : TD.Ok Try.prog 94 td94 := TD.Ok.of Try.underlying94 info94 rfl rfl (by decide) (fun _ => rfl)
theorem info95 : (Try.prog.info? 95).map (fun i => (i.zero, i.size, i.bytes)) = some (some .nilFunc, 1, 8) := by kernel_rfl
theorem td95_ok : TD.Ok Try.prog 95 td95 := TD.Ok.of ⟨_, _, _, Try.underlying95⟩ info95 rfl rfl (by decide) (fun _ => rfl)
theorem info96 : (Try.prog.info? 96).map (fun i => (i.zero, i.size, i.bytes)) = some (some .nilFunc, 1, 8) := by kernel_rfl
theorem td96_ok : TD.Ok Try.prog 96 td96 := TD.Ok.of ⟨_, _, _, Try.underlying96⟩ info96 rfl rfl (by decide) (fun _ => rfl)
theorem info97 : (Try.prog.info? 97).map (fun i => (i.zero, i.size, i.bytes)) = some (some .nilFunc, 1, 8) := by kernel_rfl
theorem td97_ok : TD.Ok Try.prog 97 td97 := TD.Ok.of ⟨_, _, _, Try.underlying97⟩ info97 rfl rfl (by decide) (fun _ => rfl)
theorem info98 : (Try.prog.info? 98).map (fun i => (i.zero, i.size, i.bytes)) = some (some .nilFunc, 1, 8) := by kernel_rfl
theorem td98_ok : TD.Ok Try.prog 98 td98 := TD.Ok.of ⟨_, _, _, Try.underlying98⟩ info98 rfl rfl (by decide) (fun _ => rfl)
theorem info99 : (Try.prog.info? 99).map (fun i => (i.zero, i.size, i.bytes)) = some (some .nilFunc, 1, 8) := by kernel_rfl
theorem td99_ok : TD.Ok Try.prog 99 td99 := TD.Ok.of ⟨_, _, _, Try.underlying99⟩ info99 rfl rfl (by decide) (fun _ => rfl)
theorem info100 : (Try.prog.info? 100).map (fun i => (i.zero, i.size, i.bytes)) = some (some .nilFunc, 1, 8) := by kernel_rfl
theorem td100_ok : TD.Ok Try.prog 100 td100 := TD.Ok.of ⟨_, _, _, Try.underlying100⟩ info100 rfl rfl (by decide) (fun _ => rfl)
theorem info101 : (Try.prog.info? 101).map (fun i => (i.zero, i.size, i.bytes)) = some (some .nilFunc, 1, 8) := by kernel_rfl
theorem td101_ok : TD.Ok Try.prog 101 td101 := TD.Ok.of ⟨_, _, _, Try.underlying101⟩ info101 rfl rfl (by decide) (fun _ => rfl)
theorem info102 : (Try.prog.info? 102).map (fun i => (i.zero, i.size, i.bytes)) = some (some .nilFunc, 1, 8) := by kernel_rfl
theorem td102_ok : TD.Ok Try.prog 102 td102 := TD.Ok.of ⟨_, _, _, Try.underlying102⟩ info102 rfl rfl (by decide) (fun _ => rfl)
theorem info104 : (Try.prog.info? 104).map (fun i => (i.zero, i.size, i.bytes)) = some (some .nilFunc, 1, 8) := by kernel_rfl
theorem td104_ok : TD.Ok Try.prog 104 td104 := TD.Ok.of ⟨_, _, _, Try.underlying104⟩ info104 rfl rfl (by decide) (fun _ => rfl)
theorem info105 : (Try.prog.info? 105).map (fun i => (i.zero, i.size, i.bytes)) = some (some .nilFunc, 1, 8) := by kernel_rfl
theorem td105_ok : TD.Ok Try.prog 105 td105 := TD.Ok.of ⟨_, _, _, Try.underlying105⟩ info105 rfl rfl (by decide) (fun _ => rfl)
theorem info106 : (Try.prog.info? 106).map (fun i => (i.zero, i.size, i.bytes)) = some (some .nilFunc, 1, 8) := by kernel_rfl
theorem td106_ok : TD.Ok Try.prog 106 td106 := TD.Ok.of ⟨_, _, _, Try.underlying106⟩ info106 rfl rfl (by decide) (fun _ => rfl)
theorem info107 : (Try.prog.info? 107).map (fun i => (i.zero, i.size, i.bytes)) = some (some .nilFunc, 1, 8) := by kernel_rfl
theorem td107_ok : TD.Ok Try.prog 107 td107 := TD.Ok.of ⟨_, _, _, Try.underlying107⟩ info107 rfl rfl (by decide) (fun _ => rfl)
theorem info108 : (Try.prog.info? 108).map (fun i => (i.zero, i.size, i.bytes)) = some (some .nilFunc, 1, 8) := by kernel_rfl
theorem td108_ok : TD.Ok Try.prog 108 td108 := TD.Ok.of ⟨_, _, _, Try.underlying108⟩ info108 rfl rfl (by decide) (fun _ => rfl)
theorem info109 : (Try.prog.info? 109).map (fun i => (i.zero, i.size, i.bytes)) = some (some .nilFunc, 1, 8) := by kernel_rfl
theorem td109_ok : TD.Ok Try.prog 109 td109 := TD.Ok.of ⟨_, _, _, Try.underlying109⟩ info109 rfl rfl (by decide) (fun _ => rfl)
theorem info110 : (Try.prog.info? 110).map (fun i => (i.zero, i.size, i.bytes)) = some (some .nilFunc, 1, 8) := by kernel_rfl
theorem td110_ok : TD.Ok Try.prog 110 td110 := TD.Ok.of ⟨_, _, _, Try.underlying110⟩ info110 rfl rfl (by decide) (fun _ => rfl)
theorem info111 : (Try.prog.info? 111).map (fun i => (i.zero, i.size, i.bytes)) = some (some .nilFunc, 1, 8) := by kernel_rfl
theorem td111_ok : TD.Ok Try.prog 111 td111 := TD.Ok.of ⟨_, _, _, Try.underlying111⟩ info111 rfl rfl (by decide) (fun _ => rfl)
theorem info112 : (Try.prog.info? 112).map (fun i => (i.zero, i.size, i.bytes)) = some (some .nilFunc, 1, 8) := by kernel_rfl
theorem td112_ok : TD.Ok Try.prog 112 td112 := TD.Ok.of ⟨_, _, _, Try.underlying112⟩ info112 rfl rfl (by decide) (fun _ => rfl)
theorem info113 : (Try.prog.info? 113).map (fun i => (i.zero, i.size, i.bytes)) = some (some .nilFunc, 1, 8) := by kernel_rfl
theorem td113_ok : TD.Ok Try.prog 113 td113 := TD.Ok.of ⟨_, _, _, Try.underlying113⟩ info113 rfl rfl (by decide) (fun _ => rfl)
theorem info114 : (Try.prog.info? 114).map (fun i => (i.zero, i.size, i.bytes)) = some (some .nilFunc, 1, 8) := by kernel_rfl
theorem td114_ok : TD.Ok Try.prog 114 td114 := TD.Ok.of ⟨_, _, _, Try.underlying114⟩ info114 rfl rfl (by decide) (fun _ => rfl)
theorem info115 : (Try.prog.info? 115).map (fun i => (i.zero, i.size, i.bytes)) = some (some (.int .u64 0), 1, 8) := by kernel_rfl
theorem td115_ok : TD.Ok Try.prog 115 td115 := TD.Ok.of Try.underlying115 info115 rfl rfl (by decide) (fun _ => rfl)
theorem info116 : (Try.prog.info? 116).map (fun i => (i.zero, i.size, i.bytes)) = some (some .nilFunc, 1, 8) := by kernel_rfl
theorem td116_ok : TD.Ok Try.prog 116 td116 := TD.Ok.of ⟨_, _, _, Try.underlying116⟩ info116 rfl rfl (by decide) (fun _ => rfl)
theorem info117 : (Try.prog.info? 117).map (fun i => (i.zero, i.size, i.bytes)) = some (some (.pointer none), 1, 8) := by kernel_rfl
theorem td117_ok : TD.Ok Try.prog 117 td117 := TD.Ok.of Try.underlying117 info117 rfl rfl (by decide) (fun _ => rfl)
theorem info118 : (Try.prog.info? 118).map (fun i => (i.zero, i.size, i.bytes)) = some (some (.agg #[(.slice none 0 0), (.slice none 0 0), (.slice none 0 0)]), 3, 72) := by kernel_rfl
theorem td118_ok : TD.Ok Try.prog 118 td118 := TD.Ok.of ⟨_, Try.underlying118, rfl, Try.stoodInHeld118, Try.eqGuardType118, by decide⟩ info118 rfl rfl (by decide) (fun h => by cases h)
theorem info119 : (Try.prog.info? 119).map (fun i => (i.zero, i.size, i.bytes)) = some (some (.agg #[(.slice none 0 0), (.slice none 0 0), (.slice none 0 0)]), 3, 72) := by kernel_rfl
theorem td119_ok : TD.Ok Try.prog 119 td119 := TD.Ok.of ⟨_, Try.underlying119, rfl, Try.stoodInHeld119, Try.eqGuardType119, by decide⟩ info119 rfl rfl (by decide) (fun h => by cases h)
theorem info120 : (Try.prog.info? 120).map (fun i => (i.zero, i.size, i.bytes)) = some (some .nilFunc, 1, 8) := by kernel_rfl
theorem td120_ok : TD.Ok Try.prog 120 td120 := TD.Ok.of ⟨_, _, _, Try.underlying120⟩ info120 rfl rfl (by decide) (fun _ => rfl)
theorem info121 : (Try.prog.info? 121).map (fun i => (i.zero, i.size, i.bytes)) = some (some .nilFunc, 1, 8) := by kernel_rfl
theorem td121_ok : TD.Ok Try.prog 121 td121 := TD.Ok.of ⟨_, _, _, Try.underlying121⟩ info121 rfl rfl (by decide) (fun _ => rfl)
theorem info122 : (Try.prog.info? 122).map (fun i => (i.zero, i.size, i.bytes)) = some (some .nilFunc, 1, 8) := by kernel_rfl
theorem td122_ok : TD.Ok Try.prog 122 td122 := TD.Ok.of ⟨_, _, _, Try.underlying122⟩ info122 rfl rfl (by decide) (fun _ => rfl)
theorem info124 : (Try.prog.info? 124).map (fun i => (i.zero, i.size, i.bytes)) = some (some .nilFunc, 1, 8) := by kernel_rfl
theorem td124_ok : TD.Ok Try.prog 124 td124 := TD.Ok.of ⟨_, _, _, Try.underlying124⟩ info124 rfl rfl (by decide) (fun _ => rfl)
theorem info125 : (Try.prog.info? 125).map (fun i => (i.zero, i.size, i.bytes)) = some (some (.pointer none), 1, 8) := by kernel_rfl
theorem td125_ok : TD.Ok Try.prog 125 td125 := TD.Ok.of Try.underlying125 info125 rfl rfl (by decide) (fun _ => rfl)
theorem info126 : (Try.prog.info? 126).map (fun i => (i.zero, i.size, i.bytes)) = some (some (.agg #[(.slice none 0 0), (.slice none 0 0), (.slice none 0 0), (.slice none 0 0), (.slice none 0 0), (.int .i64 0)]), 6, 128) := by kernel_rfl
theorem td126_ok : TD.Ok Try.prog 126 td126 := TD.Ok.of ⟨_, Try.underlying126, rfl, Try.stoodInHeld126, Try.eqGuardType126, by decide⟩ info126 rfl rfl (by decide) (fun h => by cases h)
theorem info127 : (Try.prog.info? 127).map (fun i => (i.zero, i.size, i.bytes)) = some (some (.agg #[(.slice none 0 0), (.slice none 0 0), (.slice none 0 0), (.slice none 0 0), (.slice none 0 0), (.int .i64 0)]), 6, 128) := by kernel_rfl
theorem td127_ok : TD.Ok Try.prog 127 td127 := TD.Ok.of ⟨_, Try.underlying127, rfl, Try.stoodInHeld127, Try.eqGuardType127, by decide⟩ info127 rfl rfl (by decide) (fun h => by cases h)
theorem info128 : (Try.prog.info? 128).map (fun i => (i.zero, i.size, i.bytes)) = some (some .nilFunc, 1, 8) := by kernel_rfl
theorem td128_ok : TD.Ok Try.prog 128 td128 := TD.Ok.of ⟨_, _, _, Try.underlying128⟩ info128 rfl rfl (by decide) (fun _ => rfl)
theorem info129 : (Try.prog.info? 129).map (fun i => (i.zero, i.size, i.bytes)) = some (some (.int .i64 0), 1, 8) := by kernel_rfl
theorem td129_ok : TD.Ok Try.prog 129 td129 := TD.Ok.of Try.underlying129 info129 rfl rfl (by decide) (fun _ => rfl)
theorem info131 : (Try.prog.info? 131).map (fun i => (i.zero, i.size, i.bytes)) = some (some .nilFunc, 1, 8) := by kernel_rfl
theorem td131_ok : TD.Ok Try.prog 131 td131 := TD.Ok.of ⟨_, _, _, Try.underlying131⟩ info131 rfl rfl (by decide) (fun _ => rfl)
theorem info132 : (Try.prog.info? 132).map (fun i => (i.zero, i.size, i.bytes)) = some (some .nilFunc, 1, 8) := by kernel_rfl
theorem td132_ok : TD.Ok Try.prog 132 td132 := TD.Ok.of ⟨_, _, _, Try.underlying132⟩ info132 rfl rfl (by decide) (fun _ => rfl)
theorem info133 : (Try.prog.info? 133).map (fun i => (i.zero, i.size, i.bytes)) = some (some .nilFunc, 1, 8) := by kernel_rfl
theorem td133_ok : TD.Ok Try.prog 133 td133 := TD.Ok.of ⟨_, _, _, Try.underlying133⟩ info133 rfl rfl (by decide) (fun _ => rfl)
theorem info135 : (Try.prog.info? 135).map (fun i => (i.zero, i.size, i.bytes)) = some (some .nilFunc, 1, 8) := by kernel_rfl
theorem td135_ok : TD.Ok Try.prog 135 td135 := TD.Ok.of ⟨_, _, _, Try.underlying135⟩ info135 rfl rfl (by decide) (fun _ => rfl)
theorem info136 : (Try.prog.info? 136).map (fun i => (i.zero, i.size, i.bytes)) = some (some .nilFunc, 1, 8) := by kernel_rfl
theorem td136_ok : TD.Ok Try.prog 136 td136 := TD.Ok.of ⟨_, _, _, Try.underlying136⟩ info136 rfl rfl (by decide) (fun _ => rfl)
theorem info137 : (Try.prog.info? 137).map (fun i => (i.zero, i.size, i.bytes)) = some (some (.int .u32 0), 1, 4) := by kernel_rfl
theorem td137_ok : TD.Ok Try.prog 137 td137 := TD.Ok.of Try.underlying137 info137 rfl rfl (by decide) (fun _ => rfl)
theorem info138 : (Try.prog.info? 138).map (fun i => (i.zero, i.size, i.bytes)) = some (some .nilFunc, 1, 8) := by kernel_rfl
theorem td138_ok : TD.Ok Try.prog 138 td138 := TD.Ok.of ⟨_, _, _, Try.underlying138⟩ info138 rfl rfl (by decide) (fun _ => rfl)
theorem info139 : (Try.prog.info? 139).map (fun i => (i.zero, i.size, i.bytes)) = some (some (.int .u64 0), 1, 8) := by kernel_rfl
theorem td139_ok : TD.Ok Try.prog 139 td139 := TD.Ok.of Try.underlying139 info139 rfl rfl (by decide) (fun _ => rfl)
theorem info140 : (Try.prog.info? 140).map (fun i => (i.zero, i.size, i.bytes)) = some (some .nilFunc, 1, 8) := by kernel_rfl
theorem td140_ok : TD.Ok Try.prog 140 td140 := TD.Ok.of ⟨_, _, _, Try.underlying140⟩ info140 rfl rfl (by decide) (fun _ => rfl)
theorem info141 : (Try.prog.info? 141).map (fun i => (i.zero, i.size, i.bytes)) = some (some .nilFunc, 1, 8) := by kernel_rfl
theorem td141_ok : TD.Ok Try.prog 141 td141 := TD.Ok.of ⟨_, _, _, Try.underlying141⟩ info141 rfl rfl (by decide) (fun _ => rfl)
theorem info142 : (Try.prog.info? 142).map (fun i => (i.zero, i.size, i.bytes)) = some (some .nilFunc, 1, 8) := by kernel_rfl
theorem td142_ok : TD.Ok Try.prog 142 td142 := TD.Ok.of ⟨_, _, _, Try.underlying142⟩ info142 rfl rfl (by decide) (fun _ => rfl)
theorem info143 : (Try.prog.info? 143).map (fun i => (i.zero, i.size, i.bytes)) = some (some .nilFunc, 1, 8) := by kernel_rfl
theorem td143_ok : TD.Ok Try.prog 143 td143 := TD.Ok.of ⟨_, _, _, Try.underlying143⟩ info143 rfl rfl (by decide) (fun _ => rfl)
theorem info144 : (Try.prog.info? 144).map (fun i => (i.zero, i.size, i.bytes)) = some (some .nilFunc, 1, 8) := by kernel_rfl
theorem td144_ok : TD.Ok Try.prog 144 td144 := TD.Ok.of ⟨_, _, _, Try.underlying144⟩ info144 rfl rfl (by decide) (fun _ => rfl)
theorem info146 : (Try.prog.info? 146).map (fun i => (i.zero, i.size, i.bytes)) = some (some .nilFunc, 1, 8) := by kernel_rfl
theorem td146_ok : TD.Ok Try.prog 146 td146 := TD.Ok.of ⟨_, _, _, Try.underlying146⟩ info146 rfl rfl (by decide) (fun _ => rfl)
theorem info148 : (Try.prog.info? 148).map (fun i => (i.zero, i.size, i.bytes)) = some (some .nilFunc, 1, 8) := by kernel_rfl
theorem td148_ok : TD.Ok Try.prog 148 td148 := TD.Ok.of ⟨_, _, _, Try.underlying148⟩ info148 rfl rfl (by decide) (fun _ => rfl)
theorem info149 : (Try.prog.info? 149).map (fun i => (i.zero, i.size, i.bytes)) = some (some .nilFunc, 1, 8) := by kernel_rfl
theorem td149_ok : TD.Ok Try.prog 149 td149 := TD.Ok.of ⟨_, _, _, Try.underlying149⟩ info149 rfl rfl (by decide) (fun _ => rfl)
theorem info150 : (Try.prog.info? 150).map (fun i => (i.zero, i.size, i.bytes)) = some (some (.int .u64 0), 1, 8) := by kernel_rfl
theorem td150_ok : TD.Ok Try.prog 150 td150 := TD.Ok.of Try.underlying150 info150 rfl rfl (by decide) (fun _ => rfl)
theorem info151 : (Try.prog.info? 151).map (fun i => (i.zero, i.size, i.bytes)) = some (some .nilFunc, 1, 8) := by kernel_rfl
theorem td151_ok : TD.Ok Try.prog 151 td151 := TD.Ok.of ⟨_, _, _, Try.underlying151⟩ info151 rfl rfl (by decide) (fun _ => rfl)
theorem info152 : (Try.prog.info? 152).map (fun i => (i.zero, i.size, i.bytes)) = some (some .nilFunc, 1, 8) := by kernel_rfl
theorem td152_ok : TD.Ok Try.prog 152 td152 := TD.Ok.of ⟨_, _, _, Try.underlying152⟩ info152 rfl rfl (by decide) (fun _ => rfl)
theorem info153 : (Try.prog.info? 153).map (fun i => (i.zero, i.size, i.bytes)) = some (some .nilFunc, 1, 8) := by kernel_rfl
theorem td153_ok : TD.Ok Try.prog 153 td153 := TD.Ok.of ⟨_, _, _, Try.underlying153⟩ info153 rfl rfl (by decide) (fun _ => rfl)
theorem info154 : (Try.prog.info? 154).map (fun i => (i.zero, i.size, i.bytes)) = some (some (.pointer none), 1, 8) := by kernel_rfl
theorem td154_ok : TD.Ok Try.prog 154 td154 := TD.Ok.of Try.underlying154 info154 rfl rfl (by decide) (fun _ => rfl)
theorem info155 : (Try.prog.info? 155).map (fun i => (i.zero, i.size, i.bytes)) = some (some .nilFunc, 1, 8) := by kernel_rfl
theorem td155_ok : TD.Ok Try.prog 155 td155 := TD.Ok.of ⟨_, _, _, Try.underlying155⟩ info155 rfl rfl (by decide) (fun _ => rfl)
theorem info156 : (Try.prog.info? 156).map (fun i => (i.zero, i.size, i.bytes)) = some (some .nilFunc, 1, 8) := by kernel_rfl
theorem td156_ok : TD.Ok Try.prog 156 td156 := TD.Ok.of ⟨_, _, _, Try.underlying156⟩ info156 rfl rfl (by decide) (fun _ => rfl)
theorem info157 : (Try.prog.info? 157).map (fun i => (i.zero, i.size, i.bytes)) = some (some .nilFunc, 1, 8) := by kernel_rfl
theorem td157_ok : TD.Ok Try.prog 157 td157 := TD.Ok.of ⟨_, _, _, Try.underlying157⟩ info157 rfl rfl (by decide) (fun _ => rfl)
theorem info158 : (Try.prog.info? 158).map (fun i => (i.zero, i.size, i.bytes)) = some (some (.pointer none), 1, 8) := by kernel_rfl
theorem td158_ok : TD.Ok Try.prog 158 td158 := TD.Ok.of Try.underlying158 info158 rfl rfl (by decide) (fun _ => rfl)
theorem info160 : (Try.prog.info? 160).map (fun i => (i.zero, i.size, i.bytes)) = some (some .nilFunc, 1, 8) := by kernel_rfl
theorem td160_ok : TD.Ok Try.prog 160 td160 := TD.Ok.of ⟨_, _, _, Try.underlying160⟩ info160 rfl rfl (by decide) (fun _ => rfl)
theorem info161 : (Try.prog.info? 161).map (fun i => (i.zero, i.size, i.bytes)) = some (some .nilFunc, 1, 8) := by kernel_rfl
theorem td161_ok : TD.Ok Try.prog 161 td161 := TD.Ok.of ⟨_, _, _, Try.underlying161⟩ info161 rfl rfl (by decide) (fun _ => rfl)
theorem info162 : (Try.prog.info? 162).map (fun i => (i.zero, i.size, i.bytes)) = some (some .nilFunc, 1, 8) := by kernel_rfl
theorem td162_ok : TD.Ok Try.prog 162 td162 := TD.Ok.of ⟨_, _, _, Try.underlying162⟩ info162 rfl rfl (by decide) (fun _ => rfl)
theorem info168 : (Try.prog.info? 168).map (fun i => (i.zero, i.size, i.bytes)) = some (some .nilFunc, 1, 8) := by kernel_rfl
theorem td168_ok : TD.Ok Try.prog 168 td168 := TD.Ok.of ⟨_, _, _, Try.underlying168⟩ info168 rfl rfl (by decide) (fun _ => rfl)
theorem info169 : (Try.prog.info? 169).map (fun i => (i.zero, i.size, i.bytes)) = some (some (.int .u8 0), 1, 1) := by kernel_rfl
theorem td169_ok : TD.Ok Try.prog 169 td169 := TD.Ok.of Try.underlying169 info169 rfl rfl (by decide) (fun _ => rfl)
theorem info170 : (Try.prog.info? 170).map (fun i => (i.zero, i.size, i.bytes)) = some (some (.int .u8 0), 1, 1) := by kernel_rfl
theorem td170_ok : TD.Ok Try.prog 170 td170 := TD.Ok.of Try.underlying170 info170 rfl rfl (by decide) (fun _ => rfl)
theorem info171 : (Try.prog.info? 171).map (fun i => (i.zero, i.size, i.bytes)) = some (some .nilFunc, 1, 8) := by kernel_rfl
theorem td171_ok : TD.Ok Try.prog 171 td171 := TD.Ok.of ⟨_, _, _, Try.underlying171⟩ info171 rfl rfl (by decide) (fun _ => rfl)
theorem info172 : (Try.prog.info? 172).map (fun i => (i.zero, i.size, i.bytes)) = some (some (.pointer none), 1, 8) := by kernel_rfl
theorem td172_ok : TD.Ok Try.prog 172 td172 := TD.Ok.of Try.underlying172 info172 rfl rfl (by decide) (fun _ => rfl)
theorem info173 : (Try.prog.info? 173).map (fun i => (i.zero, i.size, i.bytes)) = some (some (.int .i32 0), 1, 4) := by kernel_rfl
theorem td173_ok : TD.Ok Try.prog 173 td173 := TD.Ok.of Try.underlying173 info173 rfl rfl (by decide) (fun _ => rfl)
theorem info174 : (Try.prog.info? 174).map (fun i => (i.zero, i.size, i.bytes)) = some (some (.int .i32 0), 1, 4) := by kernel_rfl
theorem td174_ok : TD.Ok Try.prog 174 td174 := TD.Ok.of Try.underlying174 info174 rfl rfl (by decide) (fun _ => rfl)
set_option maxRecDepth 100000 in
theorem tabL_ok : ∀ p ∈ tabL, TD.Ok Try.prog p.1 p.2 :=
  (List.forall_mem_cons.2 ⟨td1_ok, (List.forall_mem_cons.2 ⟨td2_ok, (List.forall_mem_cons.2 ⟨td3_ok, (List.forall_mem_cons.2 ⟨td4_ok, (List.forall_mem_cons.2 ⟨td5_ok, (List.forall_mem_cons.2 ⟨td6_ok, (List.forall_mem_cons.2 ⟨td9_ok, (List.forall_mem_cons.2 ⟨td10_ok, (List.forall_mem_cons.2 ⟨td11_ok, (List.forall_mem_cons.2 ⟨td12_ok, (List.forall_mem_cons.2 ⟨td15_ok, (List.forall_mem_cons.2 ⟨td16_ok, (List.forall_mem_cons.2 ⟨td17_ok, (List.forall_mem_cons.2 ⟨td21_ok, (List.forall_mem_cons.2 ⟨td22_ok, (List.forall_mem_cons.2 ⟨td23_ok, (List.forall_mem_cons.2 ⟨td24_ok, (List.forall_mem_cons.2 ⟨td25_ok, (List.forall_mem_cons.2 ⟨td26_ok, (List.forall_mem_cons.2 ⟨td27_ok, (List.forall_mem_cons.2 ⟨td28_ok, (List.forall_mem_cons.2 ⟨td29_ok, (List.forall_mem_cons.2 ⟨td30_ok, (List.forall_mem_cons.2 ⟨td32_ok, (List.forall_mem_cons.2 ⟨td33_ok, (List.forall_mem_cons.2 ⟨td34_ok, (List.forall_mem_cons.2 ⟨td35_ok, (List.forall_mem_cons.2 ⟨td36_ok, (List.forall_mem_cons.2 ⟨td37_ok, (List.forall_mem_cons.2 ⟨td38_ok, (List.forall_mem_cons.2 ⟨td39_ok, (List.forall_mem_cons.2 ⟨td40_ok, (List.forall_mem_cons.2 ⟨td41_ok, (List.forall_mem_cons.2 ⟨td43_ok, (List.forall_mem_cons.2 ⟨td44_ok, (List.forall_mem_cons.2 ⟨td45_ok, (List.forall_mem_cons.2 ⟨td46_ok, (List.forall_mem_cons.2 ⟨td47_ok, (List.forall_mem_cons.2 ⟨td48_ok, (List.forall_mem_cons.2 ⟨td49_ok, (List.forall_mem_cons.2 ⟨td51_ok, (List.forall_mem_cons.2 ⟨td52_ok, (List.forall_mem_cons.2 ⟨td53_ok, (List.forall_mem_cons.2 ⟨td54_ok, (List.forall_mem_cons.2 ⟨td55_ok, (List.forall_mem_cons.2 ⟨td56_ok, (List.forall_mem_cons.2 ⟨td57_ok, (List.forall_mem_cons.2 ⟨td58_ok, (List.forall_mem_cons.2 ⟨td59_ok, (List.forall_mem_cons.2 ⟨td60_ok, (List.forall_mem_cons.2 ⟨td61_ok, (List.forall_mem_cons.2 ⟨td62_ok, (List.forall_mem_cons.2 ⟨td63_ok, (List.forall_mem_cons.2 ⟨td64_ok, (List.forall_mem_cons.2 ⟨td65_ok, (List.forall_mem_cons.2 ⟨td66_ok, (List.forall_mem_cons.2 ⟨td67_ok, (List.forall_mem_cons.2 ⟨td68_ok, (List.forall_mem_cons.2 ⟨td69_ok, (List.forall_mem_cons.2 ⟨td70_ok, (List.forall_mem_cons.2 ⟨td71_ok, (List.forall_mem_cons.2 ⟨td72_ok, (List.forall_mem_cons.2 ⟨td73_ok, (List.forall_mem_cons.2 ⟨td74_ok, (List.forall_mem_cons.2 ⟨td75_ok, (List.forall_mem_cons.2 ⟨td76_ok, (List.forall_mem_cons.2 ⟨td77_ok, (List.forall_mem_cons.2 ⟨td78_ok, (List.forall_mem_cons.2 ⟨td79_ok, (List.forall_mem_cons.2 ⟨td80_ok, (List.forall_mem_cons.2 ⟨td81_ok, (List.forall_mem_cons.2 ⟨td82_ok, (List.forall_mem_cons.2 ⟨td83_ok, (List.forall_mem_cons.2 ⟨td85_ok, (List.forall_mem_cons.2 ⟨td86_ok, (List.forall_mem_cons.2 ⟨td87_ok, (List.forall_mem_cons.2 ⟨td88_ok, (List.forall_mem_cons.2 ⟨td89_ok, (List.forall_mem_cons.2 ⟨td90_ok, (List.forall_mem_cons.2 ⟨td91_ok, (List.forall_mem_cons.2 ⟨td92_ok, (List.forall_mem_cons.2 ⟨td93_ok, (List.forall_mem_cons.2 ⟨td94_ok, (List.forall_mem_cons.2 ⟨td95_ok, (List.forall_mem_cons.2 ⟨td96_ok, (List.forall_mem_cons.2 ⟨td97_ok, (List.forall_mem_cons.2 ⟨td98_ok, (List.forall_mem_cons.2 ⟨td99_ok, (List.forall_mem_cons.2 ⟨td100_ok, (List.forall_mem_cons.2 ⟨td101_ok, (List.forall_mem_cons.2 ⟨td102_ok, (List.forall_mem_cons.2 ⟨td104_ok, (List.forall_mem_cons.2 ⟨td105_ok, (List.forall_mem_cons.2 ⟨td106_ok, (List.forall_mem_cons.2 ⟨td107_ok, (List.forall_mem_cons.2 ⟨td108_ok, (List.forall_mem_cons.2 ⟨td109_ok, (List.forall_mem_cons.2 ⟨td110_ok, (List.forall_mem_cons.2 ⟨td111_ok, (List.forall_mem_cons.2 ⟨td112_ok, (List.forall_mem_cons.2 ⟨td113_ok, (List.forall_mem_cons.2 ⟨td114_ok, (List.forall_mem_cons.2 ⟨td115_ok, (List.forall_mem_cons.2 ⟨td116_ok, (List.forall_mem_cons.2 ⟨td117_ok, (List.forall_mem_cons.2 ⟨td118_ok, (List.forall_mem_cons.2 ⟨td119_ok, (List.forall_mem_cons.2 ⟨td120_ok, (List.forall_mem_cons.2 ⟨td121_ok, (List.forall_mem_cons.2 ⟨td122_ok, (List.forall_mem_cons.2 ⟨td124_ok, (List.forall_mem_cons.2 ⟨td125_ok, (List.forall_mem_cons.2 ⟨td126_ok, (List.forall_mem_cons.2 ⟨td127_ok, (List.forall_mem_cons.2 ⟨td128_ok, (List.forall_mem_cons.2 ⟨td129_ok, (List.forall_mem_cons.2 ⟨td131_ok, (List.forall_mem_cons.2 ⟨td132_ok, (List.forall_mem_cons.2 ⟨td133_ok, (List.forall_mem_cons.2 ⟨td135_ok, (List.forall_mem_cons.2 ⟨td136_ok, (List.forall_mem_cons.2 ⟨td137_ok, (List.forall_mem_cons.2 ⟨td138_ok, (List.forall_mem_cons.2 ⟨td139_ok, (List.forall_mem_cons.2 ⟨td140_ok, (List.forall_mem_cons.2 ⟨td141_ok, (List.forall_mem_cons.2 ⟨td142_ok, (List.forall_mem_cons.2 ⟨td143_ok, (List.forall_mem_cons.2 ⟨td144_ok, (List.forall_mem_cons.2 ⟨td146_ok, (List.forall_mem_cons.2 ⟨td148_ok, (List.forall_mem_cons.2 ⟨td149_ok, (List.forall_mem_cons.2 ⟨td150_ok, (List.forall_mem_cons.2 ⟨td151_ok, (List.forall_mem_cons.2 ⟨td152_ok, (List.forall_mem_cons.2 ⟨td153_ok, (List.forall_mem_cons.2 ⟨td154_ok, (List.forall_mem_cons.2 ⟨td155_ok, (List.forall_mem_cons.2 ⟨td156_ok, (List.forall_mem_cons.2 ⟨td157_ok, (List.forall_mem_cons.2 ⟨td158_ok, (List.forall_mem_cons.2 ⟨td160_ok, (List.forall_mem_cons.2 ⟨td161_ok, (List.forall_mem_cons.2 ⟨td162_ok, (List.forall_mem_cons.2 ⟨td168_ok, (List.forall_mem_cons.2 ⟨td169_ok, (List.forall_mem_cons.2 ⟨td170_ok, (List.forall_mem_cons.2 ⟨td171_ok, (List.forall_mem_cons.2 ⟨td172_ok, (List.forall_mem_cons.2 ⟨td173_ok, (List.forall_mem_cons.2 ⟨td174_ok, (fun _ h => by cases h)⟩)⟩)⟩)⟩)⟩)⟩)⟩)⟩)⟩)⟩)⟩)⟩)⟩)⟩)⟩)⟩)⟩)⟩)⟩)⟩)⟩)⟩)⟩)⟩)⟩)⟩)⟩)⟩)⟩)⟩)⟩)⟩)⟩)⟩)⟩)⟩)⟩)⟩)⟩)⟩)⟩)⟩)⟩)⟩)⟩)⟩)⟩)⟩)⟩)⟩)⟩)⟩)⟩)⟩)⟩)⟩)⟩)⟩)⟩)⟩)⟩)⟩)⟩)⟩)⟩)⟩)⟩)⟩)⟩)⟩)⟩)⟩)⟩)⟩)⟩)⟩)⟩)⟩)⟩)⟩)⟩)⟩)⟩)⟩)⟩)⟩)⟩)⟩)⟩)⟩)⟩)⟩)⟩)⟩)⟩)⟩)⟩)⟩)⟩)⟩)⟩)⟩)⟩)⟩)⟩)⟩)⟩)⟩)⟩)⟩)⟩)⟩)⟩)⟩)⟩)⟩)⟩)⟩)⟩)⟩)⟩)⟩)⟩)⟩)⟩)⟩)⟩)⟩)⟩)⟩)⟩)⟩)⟩)⟩)⟩)⟩)⟩)⟩)⟩)⟩)⟩)⟩)⟩)⟩)⟩)⟩)⟩)⟩)⟩)⟩)⟩)
theorem mixed : Try.prog.follows .mixedOrders = true := by kernel_rfl
theorem tab_ok : tab.Ok Try.prog := Tab.Ok.of_list tabL_ok
end Go.Proofs.Ytfbaijpanbjmpaa
