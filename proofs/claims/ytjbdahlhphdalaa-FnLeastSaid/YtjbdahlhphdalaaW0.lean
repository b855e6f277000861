/- What each function's code is asked for, as a formula. Written by wgen.py (a program of this session's) out of Lean's print of the program. -/
import Derived.KernelRfl
import Derived.Test.YtjbdahlhphdalaaTab
import Derived.Test.YtjbdahlhphdalaaSep27
namespace Go.Proofs.Ytjbdahlhphdalaa
open Go Go.Sep
set_option linter.unusedVariables false
attribute [local irreducible] wpC headF
/-- loop.example/g00649/laws.FnLeast -/
def D3 : Info := ⟨123, fun i => if i = 8 then ([[], [], [0, 1], [0, 1, 2], [0, 1, 2, 3], [0, 1, 2, 3], [0, 1, 2, 3, 4, 5], [0, 1, 2, 3, 4, 5, 6], [0, 1, 2, 3, 4, 5, 6, 7], [0, 1, 2, 3, 4, 5, 6, 7, 8], [0, 1, 2, 3, 4, 5, 6, 7, 8], [0, 1, 2, 3, 4, 5, 6, 7, 8, 9, 10], [0, 1, 2, 3, 4, 5, 6, 7, 8, 9, 10, 11], [0, 1, 2, 3, 4, 5, 6, 7, 8, 9, 10, 11, 12], [0, 1, 2, 3, 4, 5, 6, 7, 8, 9, 10, 11, 12, 13], [0, 1, 2, 3, 4, 5, 6, 7, 8, 9, 10, 11, 12, 13], [0, 1, 2, 3, 4, 5, 6, 7, 8, 9, 10, 11, 12, 13, 14, 15], [0, 1, 2, 3, 4, 5, 6, 7, 8, 9, 10, 11, 12, 13, 14, 15, 16], [0, 1, 2, 3, 4, 5, 6, 7, 8, 9, 10, 11, 12, 13, 14, 15, 16, 17], [0, 1, 2, 3, 4, 5, 6, 7, 8, 9, 10, 11, 12, 13, 14, 15, 16, 17, 18], [0, 1, 2, 3, 4, 5, 6, 7, 8, 9, 10, 11, 12, 13, 14, 15, 16, 17, 18, 19], [0, 1, 2, 3, 4, 5, 6, 7, 8, 9, 10, 11, 12, 13, 14, 15, 16, 17, 18, 19, 20], [0, 1, 2, 3, 4, 5, 6, 7, 8, 9, 10, 11, 12, 13, 14, 15, 16, 17, 18, 19], [0, 1, 2, 3, 4, 5, 6, 7, 8, 9, 10, 11, 12, 13, 14, 15, 16, 17, 18, 19, 20, 21, 22], [0, 1, 2, 3, 4, 5, 6, 7, 8, 9, 10, 11, 12, 13, 14, 15, 16, 17, 18, 19, 20, 21, 22, 23], [0, 1, 2, 3, 4, 5, 6, 7, 8, 9, 10, 11, 12, 13, 14, 15, 16, 17, 18, 19, 20, 21, 22, 23, 24]], [(0, []), (1, []), (2, []), (3, []), (4, []), (5, []), (6, []), (7, []), (8, []), (9, []), (10, []), (11, []), (12, []), (13, []), (14, []), (15, []), (16, []), (17, []), (18, []), (19, []), (20, []), (22, []), (21, [22]), (23, []), (24, []), (25, [])]) else ([], []), fun i => ([], [])⟩
def W3 (v0 : AV) (v1 : AV) (H : Heap) (K : AV → Heap → Prop) : Prop :=
 CallT Try.prog 9 [v0, v1] H fun v21 H1 =>
 condV v21 (K (AV.p (.bool true)) H1)
 (CallT Try.prog 10 [v0] H1 fun v24 H2 =>
 extractV v24 0 fun v25 =>
 extractV v24 1 fun v26 =>
 allocV tab 26 H2 fun v5 H3 =>
 allocV tab 26 H3 fun v6 H4 =>
 storeV tab 26 v5 v25 H4 fun H5 =>
 storeV tab 26 v6 v26 H5 fun H6 =>
 loadV tab 26 v5 H6 fun v28 =>
 loadV tab 26 v6 H6 fun v29 =>
 CallT Try.prog 11 [v28, v29] H6 fun v30 H7 =>
 extractV v30 0 fun v31 =>
 extractV v30 1 fun v32 =>
 loadV tab 26 v5 H7 fun v34 =>
 loadV tab 26 v6 H7 fun v35 =>
 CallT Try.prog 12 [v34, v35] H7 fun v36 H8 =>
 extractV v36 0 fun v37 =>
 extractV v36 1 fun v38 =>
 loadV tab 26 v5 H8 fun v40 =>
 CallT Try.prog 13 [v40] H8 fun v41 H9 =>
 extractV v41 0 fun v42 =>
 extractV v41 1 fun v43 =>
 allocV tab 26 H9 fun v11 H10 =>
 storeV tab 26 v11 v42 H10 fun H11 =>
 loadV tab 26 v5 H11 fun v45 =>
 CallT Try.prog 14 [v45] H11 fun v46 H12 =>
 extractV v46 0 fun v47 =>
 extractV v46 1 fun v48 =>
 allocV tab 26 H12 fun v13 H13 =>
 storeV tab 26 v13 v47 H13 fun H14 =>
 binV tab .neq 4 v32 v38 fun v51 =>
 grdV v51 false (binV tab .neq 4 v31 v37 fun v55 =>
 grdV v55 false (binV tab .neq 4 v43 v48 fun v60 =>
 grdV v60 false (loadV tab 26 v11 H14 fun v63 =>
 loadV tab 26 v13 H14 fun v64 =>
 CallT Try.prog 15 [v63, v64] H14 fun v65 H15 =>
 unV .not v65 fun v66 =>
 grdV v66 false (loadV tab 26 v5 H15 fun v69 =>
 loadV tab 26 v5 H15 fun v71 =>
 CallT Try.prog 16 [v69] H15 fun v70 H16 =>
 (loadV tab 26 v5 H16 fun v9071 =>
 v71 = v9071) ∧
 CallT Try.prog 17 [v71] H16 fun v72 H17 =>
 binV tab .neq 4 v70 v72 fun v73 =>
 condV v73 (K (AV.p (.bool false)) H17)
 (unV .not v32 fun v76 =>
 condV v76 (K (AV.p (.bool true)) H17)
 (loadV tab 26 v6 H17 fun v78 =>
 CallT Try.prog 13 [v78] H17 fun v79 H18 =>
 extractV v79 0 fun v80 =>
 extractV v79 1 fun v81 =>
 allocV tab 26 H18 fun v15 H19 =>
 storeV tab 26 v15 v80 H19 fun H20 =>
 loadV tab 26 v5 H20 fun v83 =>
 loadV tab 26 v11 H20 fun v84 =>
 CallT Try.prog 11 [v83, v84] H20 fun v85 H21 =>
 extractV v85 0 fun v86 =>
 extractV v85 1 fun v87 =>
 grdV v43 true (grdV v81 true (grdV v87 true (grdV v86 true (loadV tab 26 v11 H21 fun v100 =>
 loadV tab 26 v15 H21 fun v101 =>
 CallT Try.prog 15 [v100, v101] H21 fun v102 H22 =>
 binV tab .eql 4 v31 v102 fun v103 =>
 grdV v103 true (fieldAddrV tab 26 v11 1 fun v106 =>
 loadV tab 24 v106 H22 fun v107 =>
 lenV tab 24 v107 fun v108 =>
 fieldAddrV tab 26 v5 1 fun v109 =>
 loadV tab 24 v109 H22 fun v110 =>
 lenV tab 24 v110 fun v111 =>
 binV tab .leq 3 v108 v111 fun v112 =>
 grdV v112 true (fieldAddrV tab 26 v11 0 fun v115 =>
 loadV tab 24 v115 H22 fun v116 =>
 lenV tab 24 v116 fun v117 =>
 fieldAddrV tab 26 v5 0 fun v118 =>
 loadV tab 24 v118 H22 fun v119 =>
 lenV tab 24 v119 fun v120 =>
 binV tab .leq 3 v117 v120 fun v121 =>
 K v121 H22)
 (K (AV.p (.bool false)) H22))
 (K (AV.p (.bool false)) H22))
 (K (AV.p (.bool false)) H21))
 (K (AV.p (.bool false)) H21))
 (K (AV.p (.bool false)) H21))
 (K (AV.p (.bool false)) H21))))
 ((AV.und = AV.und) ∧
 K (AV.p (.bool false)) H15))
 ((AV.und = AV.und) ∧
 K (AV.p (.bool false)) H14))
 ((AV.und = AV.und) ∧
 K (AV.p (.bool false)) H14))
 ((AV.und = AV.und) ∧
 K (AV.p (.bool false)) H14))
theorem W3_wp (v0 : AV) (v1 : AV) (H : Heap) (K : AV → Heap → Prop) : wpC Try.prog tab D3 (bodyOf Try.f3) (retF tab [.tmp 4] K) (nthA [v0, v1]) H = W3 v0 v1 H K := by kernel_rfl
theorem W3_ok {v0 v1 : AV} {H : Heap} {K : AV → Heap → Prop} (h : W3 v0 v1 H K) : CallT Try.prog 3 [v0, v1] H K :=
  CallT.of_wp (D := D3) tab_ok mixed Try.func3 (c := bodyOf Try.f3) (by kernel_rfl) rfl (by kernel_rfl) (rs := #[.tmp 4]) rfl (by decide +kernel) (by kernel_rfl) (W3_wp v0 v1 H K) h
theorem W3_hb : HasBody Try.prog 3 := ⟨_, bodyOf Try.f3, Try.func3, by kernel_rfl, rfl⟩
/-- loop.example/g00649/laws.big -/
def D9 : Info := ⟨16, fun i => ([], []), fun i => ([], [])⟩
def W9 (v0 : AV) (v1 : AV) (H : Heap) (K : AV → Heap → Prop) : Prop :=
 lenV tab 22 v0 fun v6 =>
 binV tab .gtr 3 v6 (AV.p (.int .i64 1048576)) fun v7 =>
 grdV v7 false (lenV tab 22 v1 fun v10 =>
 lenV tab 22 v0 fun v12 =>
 binV tab .sub 3 (AV.p (.int .i64 1048576)) v12 fun v13 =>
 binV tab .gtr 3 v10 v13 fun v14 =>
 K v14 H)
 (K (AV.p (.bool true)) H)
theorem W9_wp (v0 : AV) (v1 : AV) (H : Heap) (K : AV → Heap → Prop) : wpC Try.prog tab D9 (bodyOf Try.f9) (retF tab [.tmp 4] K) (nthA [v0, v1]) H = W9 v0 v1 H K := by kernel_rfl
theorem W9_ok {v0 v1 : AV} {H : Heap} {K : AV → Heap → Prop} (h : W9 v0 v1 H K) : CallT Try.prog 9 [v0, v1] H K :=
  CallT.of_wp (D := D9) tab_ok mixed Try.func9 (c := bodyOf Try.f9) (by kernel_rfl) rfl (by kernel_rfl) (rs := #[.tmp 4]) rfl (by decide +kernel) (by kernel_rfl) (W9_wp v0 v1 H K) h
theorem W9_hb : HasBody Try.prog 9 := ⟨_, bodyOf Try.f9, Try.func9, by kernel_rfl, rfl⟩
/-- loop.example/g00649/spec.DrawSameWord -/
def D10 : Info := ⟨38, fun i => if i = 5 then ([[], [], [1], [0, 1, 2], [0, 1, 2, 3]], [(0, []), (1, []), (2, [0]), (3, []), (4, [])]) else if i = 8 then ([[], [], [0], [0, 1, 2]], [(0, []), (1, []), (2, [1]), (3, [])]) else if i = 10 then ([[], [], [0], [0, 1, 2]], [(0, []), (1, []), (2, [1]), (3, [])]) else ([], []), fun i => ([], [])⟩
def W10 (v0 : AV) (H : Heap) (K : AV → Heap → Prop) : Prop :=
 allocV tab 26 H fun v2 H1 =>
 allocV tab 26 H1 fun v3 H2 =>
 buildV tab 92 [(0, v0)] fun v11 =>
 boxV v11 H2 fun v12 H3 =>
 CallT Try.prog 66 [v12] H3 fun v14 H4 =>
 allocV tab 26 H4 fun v5 H5 =>
 storeV tab 26 v5 v14 H5 fun H6 =>
 CallT Try.prog 67 [v12, (AV.p (.int .i64 4))] H6 fun v16 H7 =>
 binV tab .eql 3 v16 (AV.p (.int .i64 0)) fun v18 =>
 condV v18 (loadV tab 26 v5 H7 fun v19 =>
 CallT Try.prog 66 [v12] H7 fun v21 H8 =>
 (loadV tab 26 v5 H8 fun v9019 =>
 v19 = v9019) ∧
 storeV tab 26 v2 v19 H8 fun H9 =>
 storeV tab 26 v3 v21 H9 fun H10 =>
 loadV tab 26 v2 H10 fun r0 =>
 loadV tab 26 v3 H10 fun r1 =>
 K (.tup [r0, r1]) H10)
 (binV tab .eql 3 v16 (AV.p (.int .i64 1)) fun v23 =>
 condV v23 (loadV tab 26 v5 H7 fun v25 =>
 CallT Try.prog 14 [v25] H7 fun v26 H11 =>
 extractV v26 0 fun v27 =>
 extractV v26 1 fun v28 =>
 allocV tab 26 H11 fun v6 H12 =>
 storeV tab 26 v6 v27 H12 fun H13 =>
 loadV tab 26 v5 H13 fun v29 =>
 loadV tab 26 v6 H13 fun v30 =>
 storeV tab 26 v2 v29 H13 fun H14 =>
 (loadV tab 26 v6 H14 fun v9030 =>
 v30 = v9030) ∧
 storeV tab 26 v3 v30 H14 fun H15 =>
 loadV tab 26 v2 H15 fun r0 =>
 loadV tab 26 v3 H15 fun r1 =>
 K (.tup [r0, r1]) H15)
 (loadV tab 26 v5 H7 fun v32 =>
 CallT Try.prog 33 [v32] H7 fun v33 H16 =>
 extractV v33 0 fun v34 =>
 extractV v33 1 fun v35 =>
 allocV tab 26 H16 fun v8 H17 =>
 storeV tab 26 v8 v34 H17 fun H18 =>
 loadV tab 26 v5 H18 fun v36 =>
 loadV tab 26 v8 H18 fun v37 =>
 storeV tab 26 v2 v36 H18 fun H19 =>
 (loadV tab 26 v8 H19 fun v9037 =>
 v37 = v9037) ∧
 storeV tab 26 v3 v37 H19 fun H20 =>
 loadV tab 26 v2 H20 fun r0 =>
 loadV tab 26 v3 H20 fun r1 =>
 K (.tup [r0, r1]) H20))
theorem W10_wp (v0 : AV) (H : Heap) (K : AV → Heap → Prop) : wpC Try.prog tab D10 (bodyOf Try.f10) (retF tab [.cell 2 26, .cell 3 26] K) (nthA [v0]) H = W10 v0 H K := by kernel_rfl
theorem W10_ok {v0 : AV} {H : Heap} {K : AV → Heap → Prop} (h : W10 v0 H K) : CallT Try.prog 10 [v0] H K :=
  CallT.of_wp (D := D10) tab_ok mixed Try.func10 (c := bodyOf Try.f10) (by kernel_rfl) rfl (by kernel_rfl) (rs := #[.cell 2 26, .cell 3 26]) rfl (by decide +kernel) (by kernel_rfl) (W10_wp v0 H K) h
theorem W10_hb : HasBody Try.prog 10 := ⟨_, bodyOf Try.f10, Try.func10, by kernel_rfl, rfl⟩
/-- loop.example/g00649/impl.SameWord -/
def D11 : Info := ⟨19, fun i => if i = 3 then ([[], [0], [], [0, 1, 2], [0, 1, 2, 3], [0, 1, 2, 3, 4], [0, 1, 2, 3, 4, 5]], [(0, []), (2, []), (1, [2]), (3, []), (4, []), (5, []), (6, [])]) else ([], []), fun i => ([], [])⟩
def W11 (v0 : AV) (v1 : AV) (H : Heap) (K : AV → Heap → Prop) : Prop :=
 boxV v0 H fun v2 H1 =>
 boxV v1 H1 fun v3 H2 =>
 loadV tab 26 v2 H2 fun v6 =>
 CallT Try.prog 16 [v6] H2 fun v7 H3 =>
 unV .not v7 fun v8 =>
 grdV v8 false (loadV tab 26 v3 H3 fun v10 =>
 CallT Try.prog 16 [v10] H3 fun v11 H4 =>
 unV .not v11 fun v12 =>
 condV v12 (K (.tup [(AV.p (.bool false)), (AV.p (.bool false))]) H4)
 (loadV tab 26 v2 H4 fun v14 =>
 loadV tab 26 v3 H4 fun v16 =>
 CallT Try.prog 69 [v14, (AV.p (.int .i64 1176))] H4 fun v15 H5 =>
 (loadV tab 26 v3 H5 fun v9016 =>
 v16 = v9016) ∧
 CallT Try.prog 69 [v16, (AV.p (.int .i64 1176))] H5 fun v17 H6 =>
 CallT Try.prog 68 [v15, v17] H6 fun v18 H7 =>
 K (.tup [v18, (AV.p (.bool true))]) H7))
 (K (.tup [(AV.p (.bool false)), (AV.p (.bool false))]) H3)
theorem W11_wp (v0 : AV) (v1 : AV) (H : Heap) (K : AV → Heap → Prop) : wpC Try.prog tab D11 (bodyOf Try.f11) (retF tab [.tmp 4, .tmp 5] K) (nthA [v0, v1]) H = W11 v0 v1 H K := by kernel_rfl
theorem W11_ok {v0 v1 : AV} {H : Heap} {K : AV → Heap → Prop} (h : W11 v0 v1 H K) : CallT Try.prog 11 [v0, v1] H K :=
  CallT.of_wp (D := D11) tab_ok mixed Try.func11 (c := bodyOf Try.f11) (by kernel_rfl) rfl (by kernel_rfl) (rs := #[.tmp 4, .tmp 5]) rfl (by decide +kernel) (by kernel_rfl) (W11_wp v0 v1 H K) h
theorem W11_hb : HasBody Try.prog 11 := ⟨_, bodyOf Try.f11, Try.func11, by kernel_rfl, rfl⟩
/-- loop.example/g00649/spec.SameWord -/
def D12 : Info := ⟨17, fun i => ([], []), fun i => ([], [])⟩
def W12 (v0 : AV) (v1 : AV) (H : Heap) (K : AV → Heap → Prop) : Prop :=
 boxV v0 H fun v2 H1 =>
 boxV v1 H1 fun v3 H2 =>
 loadV tab 26 v2 H2 fun v6 =>
 CallT Try.prog 17 [v6] H2 fun v7 H3 =>
 unV .not v7 fun v8 =>
 grdV v8 false (loadV tab 26 v3 H3 fun v10 =>
 CallT Try.prog 17 [v10] H3 fun v11 H4 =>
 unV .not v11 fun v12 =>
 condV v12 (K (.tup [(AV.p (.bool false)), (AV.p (.bool false))]) H4)
 (loadV tab 26 v2 H4 fun v14 =>
 loadV tab 26 v3 H4 fun v15 =>
 CallT Try.prog 70 [v14, v15] H4 fun v16 H5 =>
 K (.tup [v16, (AV.p (.bool true))]) H5))
 (K (.tup [(AV.p (.bool false)), (AV.p (.bool false))]) H3)
theorem W12_wp (v0 : AV) (v1 : AV) (H : Heap) (K : AV → Heap → Prop) : wpC Try.prog tab D12 (bodyOf Try.f12) (retF tab [.tmp 4, .tmp 5] K) (nthA [v0, v1]) H = W12 v0 v1 H K := by kernel_rfl
theorem W12_ok {v0 v1 : AV} {H : Heap} {K : AV → Heap → Prop} (h : W12 v0 v1 H K) : CallT Try.prog 12 [v0, v1] H K :=
  CallT.of_wp (D := D12) tab_ok mixed Try.func12 (c := bodyOf Try.f12) (by kernel_rfl) rfl (by kernel_rfl) (rs := #[.tmp 4, .tmp 5]) rfl (by decide +kernel) (by kernel_rfl) (W12_wp v0 v1 H K) h
theorem W12_hb : HasBody Try.prog 12 := ⟨_, bodyOf Try.f12, Try.func12, by kernel_rfl, rfl⟩
/-- loop.example/g00649/impl.LeastLasso -/
def D13 : Info := ⟨77, fun i => if i = 5 then ([[], [], [0, 1], [0, 1, 2], [0, 1, 2, 3], [0, 1, 2, 3, 4], [0, 1, 2, 3, 4, 5], [0, 1, 2, 3, 4], [0, 1, 2, 3, 4, 5, 6, 7], [0, 1, 2, 3, 4], [0, 1, 2, 3, 4, 9], [0, 1, 2, 3, 4], [0, 1, 2, 3, 4], [0, 1, 2, 3, 4, 11, 12], [0, 1, 2, 3, 4, 9, 10, 11, 12, 13], [0, 1, 2, 3, 4, 5, 6, 7, 8, 9, 10, 11, 12, 13, 14], [0, 1, 2, 3, 4, 5, 6, 7, 8, 9, 10, 11, 12, 13, 14, 15], [0, 1, 2, 3, 4, 5, 6, 7, 8, 9, 10, 11, 12, 13, 14, 15, 16]], [(0, []), (1, []), (2, []), (3, []), (4, []), (5, []), (6, []), (7, []), (8, []), (9, []), (10, []), (11, []), (12, []), (13, []), (14, []), (15, []), (16, []), (17, [])]) else if i = 7 then ([[], [0], [0, 1], [], [3], [], [3, 4, 5], [0, 1, 2, 3, 4, 5, 6], [0, 1, 2, 3, 4, 5, 6, 7], [0, 1, 2, 3, 4, 5, 6, 7, 8]], [(0, []), (1, []), (3, []), (4, []), (5, []), (6, []), (2, [4]), (7, []), (8, []), (9, [])]) else if i = 8 then ([[], [0], [0, 1], [0, 1, 2], [0, 1, 2, 3], [0, 1, 2, 3], [0, 1, 2, 3, 5], [0, 1, 2, 3, 5, 6], [0, 1, 2, 3, 4, 5, 6, 7], [0, 1, 2, 3, 4, 5, 6, 7, 8], [0, 1, 2, 3], [0, 1, 2, 3], [0, 1, 2, 3, 11], [0, 1, 2, 3, 10, 11, 12], [0, 1, 2, 3, 10, 11, 12, 13], [0, 1, 2, 3, 4, 5, 6, 7, 8, 9, 10, 11, 12, 13, 14], [0, 1, 2, 3, 4, 5, 6, 7, 8, 9, 10, 11, 12, 13, 14, 15]], [(0, []), (1, []), (2, []), (3, []), (4, []), (5, []), (6, []), (7, []), (8, []), (9, []), (10, []), (11, []), (12, []), (13, []), (14, []), (15, []), (16, [])]) else if i = 10 then ([[], [], [1], [0, 1, 2], [], [], [5], [4, 5, 6], [0, 1, 2, 3, 4, 5, 6, 7], [0, 1, 2, 3, 4, 5, 6, 7, 8]], [(0, []), (1, []), (2, []), (3, []), (4, []), (5, []), (6, []), (7, []), (8, []), (9, [])]) else ([], []), fun i => if i = 5 then ([1, 2, 4], [5]) else if i = 8 then ([2, 5], [6, 7]) else ([], [])⟩
def L13_0 (K : AV → Heap → Prop) (v1 : AV) (v2 : AV) (v4 : AV) (v5 : AV) (H : Heap) : Prop := LoopV (wpC Try.prog tab D13 (cAt [1, 1, 1, 1, 0, 0, 0] (bodyOf Try.f13))) [1, 2, 4] (PostF.block 0 (PostF.thenA (wpC Try.prog tab D13 (cAt [1, 1, 1, 1, 1] (bodyOf Try.f13))) (retF tab [.cell 2 26, .tmp 3] K))) [5] [AV.any, v1, v2, AV.any, v4, v5, AV.any, AV.any, AV.any, AV.any, AV.any, AV.any, AV.any, AV.any, AV.any, AV.any, AV.any, AV.any, AV.any, AV.any, AV.any, AV.any, AV.any, AV.any, AV.any, AV.any, AV.any, AV.any, AV.any, AV.any, AV.any, AV.any, AV.any, AV.any, AV.any, AV.any, AV.any, AV.any, AV.any, AV.any, AV.any, AV.any, AV.any, AV.any, AV.any, AV.any, AV.any, AV.any, AV.any, AV.any, AV.any, AV.any, AV.any, AV.any, AV.any, AV.any, AV.any, AV.any, AV.any, AV.any, AV.any, AV.any, AV.any, AV.any, AV.any, AV.any, AV.any, AV.any, AV.any, AV.any, AV.any, AV.any, AV.any, AV.any, AV.any, AV.any, AV.any] H
def L13_1 (K : AV → Heap → Prop) (v2 : AV) (v5 : AV) (v6 : AV) (v7 : AV) (H : Heap) : Prop := LoopV (wpC Try.prog tab D13 (cAt [1, 1, 1, 1, 1, 1, 0, 0, 0] (bodyOf Try.f13))) [2, 5] (PostF.block 2 (PostF.thenA (wpC Try.prog tab D13 (cAt [1, 1, 1, 1, 1, 1, 1] (bodyOf Try.f13))) (retF tab [.cell 2 26, .tmp 3] K))) [6, 7] [AV.any, AV.any, v2, AV.any, AV.any, v5, v6, v7, AV.any, AV.any, AV.any, AV.any, AV.any, AV.any, AV.any, AV.any, AV.any, AV.any, AV.any, AV.any, AV.any, AV.any, AV.any, AV.any, AV.any, AV.any, AV.any, AV.any, AV.any, AV.any, AV.any, AV.any, AV.any, AV.any, AV.any, AV.any, AV.any, AV.any, AV.any, AV.any, AV.any, AV.any, AV.any, AV.any, AV.any, AV.any, AV.any, AV.any, AV.any, AV.any, AV.any, AV.any, AV.any, AV.any, AV.any, AV.any, AV.any, AV.any, AV.any, AV.any, AV.any, AV.any, AV.any, AV.any, AV.any, AV.any, AV.any, AV.any, AV.any, AV.any, AV.any, AV.any, AV.any, AV.any, AV.any, AV.any, AV.any] H
def B13_1 (K : AV → Heap → Prop) (N1 : AV → AV → Heap → Prop) (v2 : AV) (v5 : AV) (v6 : AV) (v7 : AV) (H : Heap) : Prop :=
 lenV tab 24 v6 fun v44 =>
 binV tab .gtr 3 v44 (AV.p (.int .i64 0)) fun v45 =>
 grdV v45 true (lenV tab 24 v6 fun v49 =>
 binV tab .sub 3 v49 (AV.p (.int .i64 1)) fun v50 =>
 indexAddrV tab 24 v6 v50 fun v51 =>
 loadV tab 3 v51 H fun v52 =>
 binV tab .sub 3 v5 (AV.p (.int .i64 1)) fun v55 =>
 indexAddrV tab 24 v7 v55 fun v56 =>
 loadV tab 3 v56 H fun v57 =>
 binV tab .eql 3 v52 v57 fun v58 =>
 condV v58 (lenV tab 24 v6 fun v62 =>
 binV tab .sub 3 v62 (AV.p (.int .i64 1)) fun v63 =>
 sliceV tab 24 v6 none (some v63) none fun v64 =>
 binV tab .sub 3 v5 (AV.p (.int .i64 1)) fun v67 =>
 sliceV tab 24 v7 (some v67) none none fun v68 =>
 binV tab .sub 3 v5 (AV.p (.int .i64 1)) fun v71 =>
 sliceV tab 24 v7 none (some v71) none fun v72 =>
 appendV tab 24 24 v68 v72 H (wkK fun v73 H8 =>
 N1 v64 v73 H8))
 (buildV tab 26 [(0, v6), (1, v7)] fun v76 =>
 storeV tab 26 v2 v76 H fun H10 =>
 loadV tab 26 v2 H10 fun r0 =>
 K (.tup [r0, (AV.p (.bool true))]) H10))
 (buildV tab 26 [(0, v6), (1, v7)] fun v76 =>
 storeV tab 26 v2 v76 H fun H11 =>
 loadV tab 26 v2 H11 fun r0 =>
 K (.tup [r0, (AV.p (.bool true))]) H11)
def B13_0 (K : AV → Heap → Prop) (N1 : AV → Heap → Prop) (v1 : AV) (v2 : AV) (v4 : AV) (v5 : AV) (H : Heap) : Prop :=
 binV tab .rem 3 v4 v5 fun v17 =>
 binV tab .neq 3 v17 (AV.p (.int .i64 0)) fun v18 =>
 grdV v18 false (fieldAddrV tab 26 v1 1 fun v20 =>
 loadV tab 24 v20 H fun v21 =>
 sliceV tab 24 v21 (some v5) none none fun v23 =>
 fieldAddrV tab 26 v1 1 fun v24 =>
 loadV tab 24 v24 H fun v25 =>
 binV tab .sub 3 v4 v5 fun v28 =>
 sliceV tab 24 v25 none (some v28) none fun v29 =>
 CallT Try.prog 68 [v23, v29] H fun v30 H5 =>
 unV .not v30 fun v31 =>
 condV v31 (binV tab .add 3 v5 (AV.p (.int .i64 1)) fun v34 =>
 N1 v34 H5)
 (fieldAddrV tab 26 v1 0 fun v35 =>
 loadV tab 24 v35 H5 fun v36 =>
 fieldAddrV tab 26 v1 1 fun v38 =>
 loadV tab 24 v38 H5 fun v39 =>
 sliceV tab 24 v39 none (some v5) none fun v41 =>
 CallT Try.prog 71 [v36] H5 fun v37 H6 =>
 (loadV tab 24 v38 H6 fun v9039 =>
 v39 = v9039) ∧
 CallT Try.prog 71 [v41] H6 fun v42 H7 =>
 L13_1 K v2 v5 v37 v42 H7))
 (binV tab .add 3 v5 (AV.p (.int .i64 1)) fun v34 =>
 N1 v34 H)
def W13 (v0 : AV) (H : Heap) (K : AV → Heap → Prop) : Prop :=
 boxV v0 H fun v1 H1 =>
 allocV tab 26 H1 fun v2 H2 =>
 loadV tab 26 v1 H2 fun v8 =>
 CallT Try.prog 16 [v8] H2 fun v9 H3 =>
 unV .not v9 fun v10 =>
 condV v10 (buildV tab 26 [] fun v11 =>
 storeV tab 26 v2 v11 H3 fun H4 =>
 loadV tab 26 v2 H4 fun r0 =>
 K (.tup [r0, (AV.p (.bool false))]) H4)
 (fieldAddrV tab 26 v1 1 fun v12 =>
 loadV tab 24 v12 H3 fun v13 =>
 lenV tab 24 v13 fun v14 =>
 L13_0 K v1 v2 v14 (AV.p (.int .i64 1)) H3)
theorem W13_wp (v0 : AV) (H : Heap) (K : AV → Heap → Prop) : wpC Try.prog tab D13 (bodyOf Try.f13) (retF tab [.cell 2 26, .tmp 3] K) (nthA [v0]) H = W13 v0 H K := by kernel_rfl
theorem W13_ok {v0 : AV} {H : Heap} {K : AV → Heap → Prop} (h : W13 v0 H K) : CallT Try.prog 13 [v0] H K :=
  CallT.of_wp (D := D13) tab_ok mixed Try.func13 (c := bodyOf Try.f13) (by kernel_rfl) rfl (by kernel_rfl) (rs := #[.cell 2 26, .tmp 3]) rfl (by decide +kernel) (by kernel_rfl) (W13_wp v0 H K) h
theorem W13_hb : HasBody Try.prog 13 := ⟨_, bodyOf Try.f13, Try.func13, by kernel_rfl, rfl⟩
theorem L13_1_rule {K : AV → Heap → Prop} {v2 v5 v6 v7 : AV} {H : Heap} {σ : Type} (s0 : σ) (f6 : σ → AV) (f7 : σ → AV) (TH : σ → Heap) (pre : σ → Prop) (μ : σ → Nat)
    (h0 : pre s0 ∧ AV.wk v6 (f6 s0) ∧ AV.wk v7 (f7 s0) ∧ Heap.le (TH s0) H)
    (round : ∀ s, pre s → B13_1 K (fun w6 w7 H' => ∃ s', pre s' ∧ μ s' < μ s ∧ AV.wk w6 (f6 s') ∧ AV.wk w7 (f7 s') ∧ Heap.le (TH s') H') v2 v5 (f6 s) (f7 s) (TH s)) :
    L13_1 K v2 v5 v6 v7 H := by
  unfold L13_1
  exact LoopV.mk s0 (fun s => [f6 s, f7 s]) TH pre μ (fun _ => rfl) (Eq.mp (by kernel_rfl) h0) (fun s hs => Eq.mp (by kernel_rfl) (round s hs))
theorem L13_1_ruleG {K : AV → Heap → Prop} {v2 v5 v6 v7 : AV} {H : Heap} {σ : Type} (s0 : σ) (f6 : σ → AV) (f7 : σ → AV) (TH : σ → Heap) (pre : σ → Prop) (μ : σ → Nat)
    (h0 : pre s0 ∧ AV.wk v6 (f6 s0) ∧ AV.wk v7 (f7 s0) ∧ Heap.le (TH s0) H)
    (round : ∀ s, pre s → ∀ q, TH s q = none → B13_1 K (fun w6 w7 H' => ∃ s', pre s' ∧ μ s' < μ s ∧ AV.wk w6 (f6 s') ∧ AV.wk w7 (f7 s') ∧ Heap.le (TH s') H') v2 v5 (f6 s) (f7 s) ((TH s).set q [])) :
    L13_1 K v2 v5 v6 v7 H := by
  unfold L13_1
  exact LoopV.mkG s0 (fun s => [f6 s, f7 s]) TH pre μ (fun _ => rfl) (Eq.mp (by kernel_rfl) h0) (fun s hs q hq => Eq.mp (by kernel_rfl) (round s hs q hq))
theorem L13_0_rule {K : AV → Heap → Prop} {v1 v2 v4 v5 : AV} {H : Heap} {σ : Type} (s0 : σ) (f5 : σ → AV) (TH : σ → Heap) (pre : σ → Prop) (μ : σ → Nat)
    (h0 : pre s0 ∧ AV.wk v5 (f5 s0) ∧ Heap.le (TH s0) H)
    (round : ∀ s, pre s → B13_0 K (fun w5 H' => ∃ s', pre s' ∧ μ s' < μ s ∧ AV.wk w5 (f5 s') ∧ Heap.le (TH s') H') v1 v2 v4 (f5 s) (TH s)) :
    L13_0 K v1 v2 v4 v5 H := by
  unfold L13_0
  exact LoopV.mk s0 (fun s => [f5 s]) TH pre μ (fun _ => rfl) (Eq.mp (by kernel_rfl) h0) (fun s hs => Eq.mp (by kernel_rfl) (round s hs))
theorem L13_0_ruleG {K : AV → Heap → Prop} {v1 v2 v4 v5 : AV} {H : Heap} {σ : Type} (s0 : σ) (f5 : σ → AV) (TH : σ → Heap) (pre : σ → Prop) (μ : σ → Nat)
    (h0 : pre s0 ∧ AV.wk v5 (f5 s0) ∧ Heap.le (TH s0) H)
    (round : ∀ s, pre s → ∀ q, TH s q = none → B13_0 K (fun w5 H' => ∃ s', pre s' ∧ μ s' < μ s ∧ AV.wk w5 (f5 s') ∧ Heap.le (TH s') H') v1 v2 v4 (f5 s) ((TH s).set q [])) :
    L13_0 K v1 v2 v4 v5 H := by
  unfold L13_0
  exact LoopV.mkG s0 (fun s => [f5 s]) TH pre μ (fun _ => rfl) (Eq.mp (by kernel_rfl) h0) (fun s hs q hq => Eq.mp (by kernel_rfl) (round s hs q hq))
/-- loop.example/g00649/spec.LeastLasso -/
def D14 : Info := ⟨67, fun i => if i = 9 then ([[], [], [0, 1], [], [], [], [0, 1, 2, 3, 4, 5], [0, 1, 2, 3, 4, 5, 6], [], [0, 1, 2, 3, 4, 5, 6, 7, 8]], [(0, []), (1, []), (3, []), (4, []), (5, []), (2, [3]), (6, []), (7, []), (8, []), (9, [])]) else if i = 15 then ([[], [], [0, 1], [], [], [], [5], [5, 6], [0, 1, 2, 3, 4, 5, 6, 7], [0, 1, 2, 3, 4, 5, 6, 7, 8], [], [0, 1, 2, 3, 4, 5, 6, 7, 8, 9, 10]], [(0, []), (1, []), (3, []), (4, []), (5, []), (6, []), (7, []), (2, [3, 6]), (8, []), (9, []), (10, []), (11, [])]) else if i = 18 then ([[], [0], [0, 1], [], [3], [0, 1, 2, 3, 4], [0, 1, 2, 3, 4, 5], [0, 1, 2, 3, 4, 5, 6], [0, 1, 2, 3, 4, 5, 6, 7]], [(0, []), (1, []), (3, []), (4, []), (2, [4]), (5, []), (6, []), (7, []), (8, [])]) else ([], []), fun i => if i = 4 then ([1, 2], [4]) else if i = 7 then ([1, 2, 4], [5]) else if i = 13 then ([1, 2], [7]) else ([], [])⟩
def L14_0 (K : AV → Heap → Prop) (v1 : AV) (v2 : AV) (v4 : AV) (H : Heap) : Prop := LoopV (wpC Try.prog tab D14 (cAt [1, 1, 0, 1, 0, 0] (bodyOf Try.f14))) [1, 2] (PostF.block 0 (PostF.thenA (wpC Try.prog tab D14 (cAt [1, 1, 1] (bodyOf Try.f14))) (retF tab [.cell 2 26, .tmp 3] K))) [4] [AV.any, v1, v2, AV.any, v4, AV.any, AV.any, AV.any, AV.any, AV.any, AV.any, AV.any, AV.any, AV.any, AV.any, AV.any, AV.any, AV.any, AV.any, AV.any, AV.any, AV.any, AV.any, AV.any, AV.any, AV.any, AV.any, AV.any, AV.any, AV.any, AV.any, AV.any, AV.any, AV.any, AV.any, AV.any, AV.any, AV.any, AV.any, AV.any, AV.any, AV.any, AV.any, AV.any, AV.any, AV.any, AV.any, AV.any, AV.any, AV.any, AV.any, AV.any, AV.any, AV.any, AV.any, AV.any, AV.any, AV.any, AV.any, AV.any, AV.any, AV.any, AV.any, AV.any, AV.any, AV.any, AV.any] H
def L14_1 (K : AV → Heap → Prop) (N1 : AV → Heap → Prop) (v1 : AV) (v2 : AV) (v4 : AV) (v5 : AV) (H : Heap) : Prop := LoopV (wpC Try.prog tab D14 (cAt [1, 1, 0, 1, 0, 0, 1, 0, 0, 1, 0, 0] (bodyOf Try.f14))) [1, 2, 4] (PostF.block 2 (PostF.block 1 (PostF.thenA (wpC Try.prog tab D14 (cAt [1, 1, 0, 1, 0, 0, 1, 1] (bodyOf Try.f14))) (loopF (PostF.block 0 (PostF.thenA (wpC Try.prog tab D14 (cAt [1, 1, 1] (bodyOf Try.f14))) (retF tab [.cell 2 26, .tmp 3] K))) (fun e h => N1 (e 4) h))))) [5] [AV.any, v1, v2, AV.any, v4, v5, AV.any, AV.any, AV.any, AV.any, AV.any, AV.any, AV.any, AV.any, AV.any, AV.any, AV.any, AV.any, AV.any, AV.any, AV.any, AV.any, AV.any, AV.any, AV.any, AV.any, AV.any, AV.any, AV.any, AV.any, AV.any, AV.any, AV.any, AV.any, AV.any, AV.any, AV.any, AV.any, AV.any, AV.any, AV.any, AV.any, AV.any, AV.any, AV.any, AV.any, AV.any, AV.any, AV.any, AV.any, AV.any, AV.any, AV.any, AV.any, AV.any, AV.any, AV.any, AV.any, AV.any, AV.any, AV.any, AV.any, AV.any, AV.any, AV.any, AV.any, AV.any] H
def B14_1 (K : AV → Heap → Prop) (N1 : AV → Heap → Prop) (N2 : AV → Heap → Prop) (v1 : AV) (v2 : AV) (v4 : AV) (v5 : AV) (H : Heap) : Prop :=
 fieldAddrV tab 26 v1 0 fun v21 =>
 loadV tab 24 v21 H fun v22 =>
 lenV tab 24 v22 fun v23 =>
 binV tab .leq 3 v5 v23 fun v24 =>
 condV v24 (loadV tab 26 v1 H fun v27 =>
 loadV tab 26 v1 H fun v30 =>
 CallT Try.prog 72 [v27, (AV.p (.int .i64 0)), v5] H fun v29 H5 =>
 (loadV tab 26 v1 H5 fun v9030 =>
 v30 = v9030) ∧
 CallT Try.prog 72 [v30, v5, v4] H5 fun v33 H6 =>
 buildV tab 26 [(0, v29), (1, v33)] fun v34 =>
 allocV tab 26 H6 fun v6 H7 =>
 storeV tab 26 v6 v34 H7 fun H8 =>
 loadV tab 26 v6 H8 fun v35 =>
 loadV tab 26 v1 H8 fun v36 =>
 CallT Try.prog 70 [v35, v36] H8 fun v37 H9 =>
 condV v37 (loadV tab 26 v6 H9 fun v38 =>
 storeV tab 26 v2 v38 H9 fun H10 =>
 loadV tab 26 v2 H10 fun r0 =>
 K (.tup [r0, (AV.p (.bool true))]) H10)
 (binV tab .add 3 v5 (AV.p (.int .i64 1)) fun v26 =>
 N2 v26 H9))
 (binV tab .add 3 v4 (AV.p (.int .i64 1)) fun v19 =>
 N1 v19 H)
def L14_2 (K : AV → Heap → Prop) (v1 : AV) (v2 : AV) (v7 : AV) (H : Heap) : Prop := LoopV (wpC Try.prog tab D14 (cAt [1, 1, 1, 0, 1, 0, 0] (bodyOf Try.f14))) [1, 2] (PostF.block 4 (PostF.thenA (wpC Try.prog tab D14 (cAt [1, 1, 1, 1] (bodyOf Try.f14))) (retF tab [.cell 2 26, .tmp 3] K))) [7] [AV.any, v1, v2, AV.any, AV.any, AV.any, AV.any, v7, AV.any, AV.any, AV.any, AV.any, AV.any, AV.any, AV.any, AV.any, AV.any, AV.any, AV.any, AV.any, AV.any, AV.any, AV.any, AV.any, AV.any, AV.any, AV.any, AV.any, AV.any, AV.any, AV.any, AV.any, AV.any, AV.any, AV.any, AV.any, AV.any, AV.any, AV.any, AV.any, AV.any, AV.any, AV.any, AV.any, AV.any, AV.any, AV.any, AV.any, AV.any, AV.any, AV.any, AV.any, AV.any, AV.any, AV.any, AV.any, AV.any, AV.any, AV.any, AV.any, AV.any, AV.any, AV.any, AV.any, AV.any, AV.any, AV.any] H
def B14_2 (K : AV → Heap → Prop) (N1 : AV → Heap → Prop) (v1 : AV) (v2 : AV) (v7 : AV) (H : Heap) : Prop :=
 fieldAddrV tab 26 v1 0 fun v40 =>
 loadV tab 24 v40 H fun v41 =>
 lenV tab 24 v41 fun v42 =>
 binV tab .lss 3 v7 v42 fun v43 =>
 condV v43 (loadV tab 26 v1 H fun v46 =>
 loadV tab 26 v1 H fun v49 =>
 fieldAddrV tab 26 v1 1 fun v51 =>
 loadV tab 24 v51 H fun v52 =>
 lenV tab 24 v52 fun v53 =>
 CallT Try.prog 72 [v46, (AV.p (.int .i64 0)), v7] H fun v48 H11 =>
 (loadV tab 26 v1 H11 fun v9049 =>
 v49 = v9049) ∧
 (loadV tab 24 v51 H11 fun v9052 =>
 v52 = v9052) ∧
 CallT Try.prog 72 [v49, v7, v53] H11 fun v54 H12 =>
 buildV tab 26 [(0, v48), (1, v54)] fun v55 =>
 allocV tab 26 H12 fun v8 H13 =>
 storeV tab 26 v8 v55 H13 fun H14 =>
 loadV tab 26 v8 H14 fun v56 =>
 loadV tab 26 v1 H14 fun v57 =>
 CallT Try.prog 70 [v56, v57] H14 fun v58 H15 =>
 condV v58 (loadV tab 26 v8 H15 fun v59 =>
 storeV tab 26 v2 v59 H15 fun H16 =>
 loadV tab 26 v2 H16 fun r0 =>
 K (.tup [r0, (AV.p (.bool true))]) H16)
 (binV tab .add 3 v7 (AV.p (.int .i64 1)) fun v45 =>
 N1 v45 H15))
 (fieldAddrV tab 26 v1 0 fun v60 =>
 loadV tab 24 v60 H fun v61 =>
 fieldAddrV tab 26 v1 1 fun v63 =>
 loadV tab 24 v63 H fun v64 =>
 CallT Try.prog 73 [v61] H fun v62 H17 =>
 (loadV tab 24 v63 H17 fun v9064 =>
 v64 = v9064) ∧
 CallT Try.prog 73 [v64] H17 fun v65 H18 =>
 buildV tab 26 [(0, v62), (1, v65)] fun v66 =>
 storeV tab 26 v2 v66 H18 fun H19 =>
 loadV tab 26 v2 H19 fun r0 =>
 K (.tup [r0, (AV.p (.bool true))]) H19)
def B14_0 (K : AV → Heap → Prop) (N1 : AV → Heap → Prop) (v1 : AV) (v2 : AV) (v4 : AV) (H : Heap) : Prop :=
 fieldAddrV tab 26 v1 1 fun v14 =>
 loadV tab 24 v14 H fun v15 =>
 lenV tab 24 v15 fun v16 =>
 binV tab .lss 3 v4 v16 fun v17 =>
 condV v17 (L14_1 K N1 v1 v2 v4 (AV.p (.int .i64 0)) H)
 (L14_2 K v1 v2 (AV.p (.int .i64 0)) H)
def W14 (v0 : AV) (H : Heap) (K : AV → Heap → Prop) : Prop :=
 boxV v0 H fun v1 H1 =>
 allocV tab 26 H1 fun v2 H2 =>
 loadV tab 26 v1 H2 fun v9 =>
 CallT Try.prog 17 [v9] H2 fun v10 H3 =>
 unV .not v10 fun v11 =>
 condV v11 (buildV tab 26 [] fun v12 =>
 storeV tab 26 v2 v12 H3 fun H4 =>
 loadV tab 26 v2 H4 fun r0 =>
 K (.tup [r0, (AV.p (.bool false))]) H4)
 (L14_0 K v1 v2 (AV.p (.int .i64 1)) H3)
theorem W14_wp (v0 : AV) (H : Heap) (K : AV → Heap → Prop) : wpC Try.prog tab D14 (bodyOf Try.f14) (retF tab [.cell 2 26, .tmp 3] K) (nthA [v0]) H = W14 v0 H K := by kernel_rfl
theorem W14_ok {v0 : AV} {H : Heap} {K : AV → Heap → Prop} (h : W14 v0 H K) : CallT Try.prog 14 [v0] H K :=
  CallT.of_wp (D := D14) tab_ok mixed Try.func14 (c := bodyOf Try.f14) (by kernel_rfl) rfl (by kernel_rfl) (rs := #[.cell 2 26, .tmp 3]) rfl (by decide +kernel) (by kernel_rfl) (W14_wp v0 H K) h
theorem W14_hb : HasBody Try.prog 14 := ⟨_, bodyOf Try.f14, Try.func14, by kernel_rfl, rfl⟩
theorem L14_1_rule {K : AV → Heap → Prop} {N1 : AV → Heap → Prop} {v1 v2 v4 v5 : AV} {H : Heap} {σ : Type} (s0 : σ) (f5 : σ → AV) (TH : σ → Heap) (pre : σ → Prop) (μ : σ → Nat)
    (h0 : pre s0 ∧ AV.wk v5 (f5 s0) ∧ Heap.le (TH s0) H)
    (round : ∀ s, pre s → B14_1 K N1 (fun w5 H' => ∃ s', pre s' ∧ μ s' < μ s ∧ AV.wk w5 (f5 s') ∧ Heap.le (TH s') H') v1 v2 v4 (f5 s) (TH s)) :
    L14_1 K N1 v1 v2 v4 v5 H := by
  unfold L14_1
  exact LoopV.mk s0 (fun s => [f5 s]) TH pre μ (fun _ => rfl) (Eq.mp (by kernel_rfl) h0) (fun s hs => Eq.mp (by kernel_rfl) (round s hs))
theorem L14_1_ruleG {K : AV → Heap → Prop} {N1 : AV → Heap → Prop} {v1 v2 v4 v5 : AV} {H : Heap} {σ : Type} (s0 : σ) (f5 : σ → AV) (TH : σ → Heap) (pre : σ → Prop) (μ : σ → Nat)
    (h0 : pre s0 ∧ AV.wk v5 (f5 s0) ∧ Heap.le (TH s0) H)
    (round : ∀ s, pre s → ∀ q, TH s q = none → B14_1 K N1 (fun w5 H' => ∃ s', pre s' ∧ μ s' < μ s ∧ AV.wk w5 (f5 s') ∧ Heap.le (TH s') H') v1 v2 v4 (f5 s) ((TH s).set q [])) :
    L14_1 K N1 v1 v2 v4 v5 H := by
  unfold L14_1
  exact LoopV.mkG s0 (fun s => [f5 s]) TH pre μ (fun _ => rfl) (Eq.mp (by kernel_rfl) h0) (fun s hs q hq => Eq.mp (by kernel_rfl) (round s hs q hq))
theorem L14_2_rule {K : AV → Heap → Prop} {v1 v2 v7 : AV} {H : Heap} {σ : Type} (s0 : σ) (f7 : σ → AV) (TH : σ → Heap) (pre : σ → Prop) (μ : σ → Nat)
    (h0 : pre s0 ∧ AV.wk v7 (f7 s0) ∧ Heap.le (TH s0) H)
    (round : ∀ s, pre s → B14_2 K (fun w7 H' => ∃ s', pre s' ∧ μ s' < μ s ∧ AV.wk w7 (f7 s') ∧ Heap.le (TH s') H') v1 v2 (f7 s) (TH s)) :
    L14_2 K v1 v2 v7 H := by
  unfold L14_2
  exact LoopV.mk s0 (fun s => [f7 s]) TH pre μ (fun _ => rfl) (Eq.mp (by kernel_rfl) h0) (fun s hs => Eq.mp (by kernel_rfl) (round s hs))
theorem L14_2_ruleG {K : AV → Heap → Prop} {v1 v2 v7 : AV} {H : Heap} {σ : Type} (s0 : σ) (f7 : σ → AV) (TH : σ → Heap) (pre : σ → Prop) (μ : σ → Nat)
    (h0 : pre s0 ∧ AV.wk v7 (f7 s0) ∧ Heap.le (TH s0) H)
    (round : ∀ s, pre s → ∀ q, TH s q = none → B14_2 K (fun w7 H' => ∃ s', pre s' ∧ μ s' < μ s ∧ AV.wk w7 (f7 s') ∧ Heap.le (TH s') H') v1 v2 (f7 s) ((TH s).set q [])) :
    L14_2 K v1 v2 v7 H := by
  unfold L14_2
  exact LoopV.mkG s0 (fun s => [f7 s]) TH pre μ (fun _ => rfl) (Eq.mp (by kernel_rfl) h0) (fun s hs q hq => Eq.mp (by kernel_rfl) (round s hs q hq))
theorem L14_0_rule {K : AV → Heap → Prop} {v1 v2 v4 : AV} {H : Heap} {σ : Type} (s0 : σ) (f4 : σ → AV) (TH : σ → Heap) (pre : σ → Prop) (μ : σ → Nat)
    (h0 : pre s0 ∧ AV.wk v4 (f4 s0) ∧ Heap.le (TH s0) H)
    (round : ∀ s, pre s → B14_0 K (fun w4 H' => ∃ s', pre s' ∧ μ s' < μ s ∧ AV.wk w4 (f4 s') ∧ Heap.le (TH s') H') v1 v2 (f4 s) (TH s)) :
    L14_0 K v1 v2 v4 H := by
  unfold L14_0
  exact LoopV.mk s0 (fun s => [f4 s]) TH pre μ (fun _ => rfl) (Eq.mp (by kernel_rfl) h0) (fun s hs => Eq.mp (by kernel_rfl) (round s hs))
theorem L14_0_ruleG {K : AV → Heap → Prop} {v1 v2 v4 : AV} {H : Heap} {σ : Type} (s0 : σ) (f4 : σ → AV) (TH : σ → Heap) (pre : σ → Prop) (μ : σ → Nat)
    (h0 : pre s0 ∧ AV.wk v4 (f4 s0) ∧ Heap.le (TH s0) H)
    (round : ∀ s, pre s → ∀ q, TH s q = none → B14_0 K (fun w4 H' => ∃ s', pre s' ∧ μ s' < μ s ∧ AV.wk w4 (f4 s') ∧ Heap.le (TH s') H') v1 v2 (f4 s) ((TH s).set q [])) :
    L14_0 K v1 v2 v4 H := by
  unfold L14_0
  exact LoopV.mkG s0 (fun s => [f4 s]) TH pre μ (fun _ => rfl) (Eq.mp (by kernel_rfl) h0) (fun s hs q hq => Eq.mp (by kernel_rfl) (round s hs q hq))
/-- loop.example/g00649/laws.sameLasso -/
def D15 : Info := ⟨17, fun i => ([], []), fun i => ([], [])⟩
def W15 (v0 : AV) (v1 : AV) (H : Heap) (K : AV → Heap → Prop) : Prop :=
 boxV v0 H fun v2 H1 =>
 boxV v1 H1 fun v3 H2 =>
 fieldAddrV tab 26 v2 0 fun v5 =>
 loadV tab 24 v5 H2 fun v6 =>
 fieldAddrV tab 26 v3 0 fun v7 =>
 loadV tab 24 v7 H2 fun v8 =>
 CallT Try.prog 36 [v6, v8] H2 fun v9 H3 =>
 grdV v9 true (fieldAddrV tab 26 v2 1 fun v11 =>
 loadV tab 24 v11 H3 fun v12 =>
 fieldAddrV tab 26 v3 1 fun v13 =>
 loadV tab 24 v13 H3 fun v14 =>
 CallT Try.prog 36 [v12, v14] H3 fun v15 H4 =>
 K v15 H4)
 (K (AV.p (.bool false)) H3)
theorem W15_wp (v0 : AV) (v1 : AV) (H : Heap) (K : AV → Heap → Prop) : wpC Try.prog tab D15 (bodyOf Try.f15) (retF tab [.tmp 4] K) (nthA [v0, v1]) H = W15 v0 v1 H K := by kernel_rfl
theorem W15_ok {v0 v1 : AV} {H : Heap} {K : AV → Heap → Prop} (h : W15 v0 v1 H K) : CallT Try.prog 15 [v0, v1] H K :=
  CallT.of_wp (D := D15) tab_ok mixed Try.func15 (c := bodyOf Try.f15) (by kernel_rfl) rfl (by kernel_rfl) (rs := #[.tmp 4]) rfl (by decide +kernel) (by kernel_rfl) (W15_wp v0 v1 H K) h
theorem W15_hb : HasBody Try.prog 15 := ⟨_, bodyOf Try.f15, Try.func15, by kernel_rfl, rfl⟩
/-- loop.example/g00649/impl.GoodLasso -/
def D16 : Info := ⟨29, fun i => ([], []), fun i => ([], [])⟩
def W16 (v0 : AV) (H : Heap) (K : AV → Heap → Prop) : Prop :=
 boxV v0 H fun v1 H1 =>
 fieldAddrV tab 26 v1 0 fun v3 =>
 loadV tab 24 v3 H1 fun v4 =>
 lenV tab 24 v4 fun v5 =>
 binV tab .leq 3 v5 (AV.p (.int .i64 24)) fun v6 =>
 grdV v6 true (fieldAddrV tab 26 v1 1 fun v8 =>
 loadV tab 24 v8 H1 fun v9 =>
 lenV tab 24 v9 fun v10 =>
 binV tab .geq 3 v10 (AV.p (.int .i64 1)) fun v11 =>
 grdV v11 true (fieldAddrV tab 26 v1 1 fun v14 =>
 loadV tab 24 v14 H1 fun v15 =>
 lenV tab 24 v15 fun v16 =>
 binV tab .leq 3 v16 (AV.p (.int .i64 24)) fun v17 =>
 grdV v17 true (fieldAddrV tab 26 v1 0 fun v20 =>
 loadV tab 24 v20 H1 fun v21 =>
 CallT Try.prog 74 [v21] H1 fun v22 H2 =>
 grdV v22 true (fieldAddrV tab 26 v1 1 fun v25 =>
 loadV tab 24 v25 H2 fun v26 =>
 CallT Try.prog 74 [v26] H2 fun v27 H3 =>
 K v27 H3)
 (K (AV.p (.bool false)) H2))
 (K (AV.p (.bool false)) H1))
 (K (AV.p (.bool false)) H1))
 (K (AV.p (.bool false)) H1)
theorem W16_wp (v0 : AV) (H : Heap) (K : AV → Heap → Prop) : wpC Try.prog tab D16 (bodyOf Try.f16) (retF tab [.tmp 2] K) (nthA [v0]) H = W16 v0 H K := by kernel_rfl
theorem W16_ok {v0 : AV} {H : Heap} {K : AV → Heap → Prop} (h : W16 v0 H K) : CallT Try.prog 16 [v0] H K :=
  CallT.of_wp (D := D16) tab_ok mixed Try.func16 (c := bodyOf Try.f16) (by kernel_rfl) rfl (by kernel_rfl) (rs := #[.tmp 2]) rfl (by decide +kernel) (by kernel_rfl) (W16_wp v0 H K) h
theorem W16_hb : HasBody Try.prog 16 := ⟨_, bodyOf Try.f16, Try.func16, by kernel_rfl, rfl⟩
/-- loop.example/g00649/spec.GoodLasso -/
def D17 : Info := ⟨23, fun i => ([], []), fun i => ([], [])⟩
def W17 (v0 : AV) (H : Heap) (K : AV → Heap → Prop) : Prop :=
 boxV v0 H fun v1 H1 =>
 fieldAddrV tab 26 v1 0 fun v3 =>
 loadV tab 24 v3 H1 fun v4 =>
 lenV tab 24 v4 fun v5 =>
 binV tab .leq 3 v5 (AV.p (.int .i64 24)) fun v6 =>
 grdV v6 true (fieldAddrV tab 26 v1 1 fun v8 =>
 loadV tab 24 v8 H1 fun v9 =>
 lenV tab 24 v9 fun v10 =>
 CallT Try.prog 75 [v10, (AV.p (.int .i64 1)), (AV.p (.int .i64 24))] H1 fun v11 H2 =>
 grdV v11 true (fieldAddrV tab 26 v1 0 fun v14 =>
 loadV tab 24 v14 H2 fun v15 =>
 CallT Try.prog 76 [v15, (AV.p (.int .i64 0)), (AV.p (.int .i64 7))] H2 fun v16 H3 =>
 grdV v16 true (fieldAddrV tab 26 v1 1 fun v19 =>
 loadV tab 24 v19 H3 fun v20 =>
 CallT Try.prog 76 [v20, (AV.p (.int .i64 0)), (AV.p (.int .i64 7))] H3 fun v21 H4 =>
 K v21 H4)
 (K (AV.p (.bool false)) H3))
 (K (AV.p (.bool false)) H2))
 (K (AV.p (.bool false)) H1)
theorem W17_wp (v0 : AV) (H : Heap) (K : AV → Heap → Prop) : wpC Try.prog tab D17 (bodyOf Try.f17) (retF tab [.tmp 2] K) (nthA [v0]) H = W17 v0 H K := by kernel_rfl
theorem W17_ok {v0 : AV} {H : Heap} {K : AV → Heap → Prop} (h : W17 v0 H K) : CallT Try.prog 17 [v0] H K :=
  CallT.of_wp (D := D17) tab_ok mixed Try.func17 (c := bodyOf Try.f17) (by kernel_rfl) rfl (by kernel_rfl) (rs := #[.tmp 2]) rfl (by decide +kernel) (by kernel_rfl) (W17_wp v0 H K) h
theorem W17_hb : HasBody Try.prog 17 := ⟨_, bodyOf Try.f17, Try.func17, by kernel_rfl, rfl⟩
/-- loop.example/g00649/spec.TurnLoop -/
def D33 : Info := ⟨26, fun i => if i = 4 then ([[], [], [0, 1], [], [], [], [5], [5, 6], [0, 1, 2, 3, 4, 5, 6, 7], [0, 1, 2, 3, 4, 5, 6, 7, 8], [0, 1, 2, 3, 4, 5, 6, 7, 8, 9], [0, 1, 2, 3, 4, 5, 6, 7, 8, 9, 10], [0, 1, 2, 3, 4, 5, 6, 7, 8, 9, 10], [0, 1, 2, 3, 4, 5, 6, 7, 8, 9, 10, 11, 12], [0, 1, 2, 3, 4, 5, 6, 7, 8, 9, 10, 11, 12, 13]], [(0, []), (1, []), (3, []), (4, []), (5, []), (6, []), (7, []), (2, [3, 6]), (8, []), (9, []), (10, []), (11, []), (12, []), (13, []), (14, [])]) else ([], []), fun i => ([], [])⟩
def W33 (v0 : AV) (H : Heap) (K : AV → Heap → Prop) : Prop :=
 boxV v0 H fun v1 H1 =>
 allocV tab 26 H1 fun v2 H2 =>
 loadV tab 26 v1 H2 fun v5 =>
 CallT Try.prog 17 [v5] H2 fun v6 H3 =>
 unV .not v6 fun v7 =>
 condV v7 (buildV tab 26 [] fun v8 =>
 storeV tab 26 v2 v8 H3 fun H4 =>
 loadV tab 26 v2 H4 fun r0 =>
 K (.tup [r0, (AV.p (.bool false))]) H4)
 (fieldAddrV tab 26 v1 0 fun v9 =>
 loadV tab 24 v9 H3 fun v10 =>
 lenV tab 24 v10 fun v11 =>
 binV tab .add 3 v11 (AV.p (.int .i64 1)) fun v12 =>
 loadV tab 26 v1 H3 fun v13 =>
 loadV tab 26 v1 H3 fun v16 =>
 fieldAddrV tab 26 v1 1 fun v18 =>
 loadV tab 24 v18 H3 fun v19 =>
 lenV tab 24 v19 fun v20 =>
 CallT Try.prog 72 [v13, (AV.p (.int .i64 0)), v12] H3 fun v15 H5 =>
 (loadV tab 26 v1 H5 fun v9016 =>
 v16 = v9016) ∧
 (loadV tab 24 v18 H5 fun v9019 =>
 v19 = v9019) ∧
 CallT Try.prog 72 [v16, v12, v20] H5 fun v21 H6 =>
 buildV tab 26 [(0, v15), (1, v21)] fun v22 =>
 CallT Try.prog 93 [v22] H6 fun v23 H7 =>
 extractV v23 0 fun v24 =>
 extractV v23 1 fun v25 =>
 storeV tab 26 v2 v24 H7 fun H8 =>
 loadV tab 26 v2 H8 fun r0 =>
 K (.tup [r0, v25]) H8)
theorem W33_wp (v0 : AV) (H : Heap) (K : AV → Heap → Prop) : wpC Try.prog tab D33 (bodyOf Try.f33) (retF tab [.cell 2 26, .tmp 3] K) (nthA [v0]) H = W33 v0 H K := by kernel_rfl
theorem W33_ok {v0 : AV} {H : Heap} {K : AV → Heap → Prop} (h : W33 v0 H K) : CallT Try.prog 33 [v0] H K :=
  CallT.of_wp (D := D33) tab_ok mixed Try.func33 (c := bodyOf Try.f33) (by kernel_rfl) rfl (by kernel_rfl) (rs := #[.cell 2 26, .tmp 3]) rfl (by decide +kernel) (by kernel_rfl) (W33_wp v0 H K) h
theorem W33_hb : HasBody Try.prog 33 := ⟨_, bodyOf Try.f33, Try.func33, by kernel_rfl, rfl⟩
/-- loop.example/g00649/laws.sameInts -/
def D36 : Info := ⟨26, fun i => if i = 6 then ([[], [], [0, 1], [0, 1, 2], [], [], [4, 5], [4, 5, 6], [0, 1, 2, 3, 4, 5, 6, 7]], [(0, []), (1, []), (2, []), (3, []), (4, []), (5, []), (6, []), (7, []), (8, [])]) else ([], []), fun i => if i = 4 then ([0, 1, 12], [13]) else ([], [])⟩
def L36_0 (K : AV → Heap → Prop) (v0 : AV) (v1 : AV) (v12 : AV) (v13 : AV) (H : Heap) : Prop := LoopV (wpC Try.prog tab D36 (cAt [1, 1, 0, 1, 0, 0] (bodyOf Try.f36))) [0, 1, 12] (PostF.block 0 (PostF.thenA (wpC Try.prog tab D36 (cAt [1, 1, 1] (bodyOf Try.f36))) (retF tab [.tmp 4] K))) [13] [v0, v1, AV.any, AV.any, AV.any, AV.any, AV.any, AV.any, AV.any, AV.any, AV.any, AV.any, v12, v13, AV.any, AV.any, AV.any, AV.any, AV.any, AV.any, AV.any, AV.any, AV.any, AV.any, AV.any, AV.any] H
def B36_0 (K : AV → Heap → Prop) (N1 : AV → Heap → Prop) (v0 : AV) (v1 : AV) (v12 : AV) (v13 : AV) (H : Heap) : Prop :=
 binV tab .lss 3 v13 v12 fun v14 =>
 condV v14 (indexAddrV tab 24 v0 v13 fun v18 =>
 loadV tab 3 v18 H fun v19 =>
 indexAddrV tab 24 v1 v13 fun v22 =>
 loadV tab 3 v22 H fun v23 =>
 binV tab .neq 3 v19 v23 fun v24 =>
 condV v24 (K (AV.p (.bool false)) H)
 (binV tab .add 3 v13 (AV.p (.int .i64 1)) fun v25 =>
 N1 v25 H))
 (K (AV.p (.bool true)) H)
def W36 (v0 : AV) (v1 : AV) (H : Heap) (K : AV → Heap → Prop) : Prop :=
 lenV tab 24 v0 fun v7 =>
 lenV tab 24 v1 fun v9 =>
 binV tab .neq 3 v7 v9 fun v10 =>
 condV v10 (K (AV.p (.bool false)) H)
 (lenV tab 24 v0 fun v12 =>
 L36_0 K v0 v1 v12 (AV.p (.int .i64 0)) H)
theorem W36_wp (v0 : AV) (v1 : AV) (H : Heap) (K : AV → Heap → Prop) : wpC Try.prog tab D36 (bodyOf Try.f36) (retF tab [.tmp 4] K) (nthA [v0, v1]) H = W36 v0 v1 H K := by kernel_rfl
theorem W36_ok {v0 v1 : AV} {H : Heap} {K : AV → Heap → Prop} (h : W36 v0 v1 H K) : CallT Try.prog 36 [v0, v1] H K :=
  CallT.of_wp (D := D36) tab_ok mixed Try.func36 (c := bodyOf Try.f36) (by kernel_rfl) rfl (by kernel_rfl) (rs := #[.tmp 4]) rfl (by decide +kernel) (by kernel_rfl) (W36_wp v0 v1 H K) h
theorem W36_hb : HasBody Try.prog 36 := ⟨_, bodyOf Try.f36, Try.func36, by kernel_rfl, rfl⟩
theorem L36_0_rule {K : AV → Heap → Prop} {v0 v1 v12 v13 : AV} {H : Heap} {σ : Type} (s0 : σ) (f13 : σ → AV) (TH : σ → Heap) (pre : σ → Prop) (μ : σ → Nat)
    (h0 : pre s0 ∧ AV.wk v13 (f13 s0) ∧ Heap.le (TH s0) H)
    (round : ∀ s, pre s → B36_0 K (fun w13 H' => ∃ s', pre s' ∧ μ s' < μ s ∧ AV.wk w13 (f13 s') ∧ Heap.le (TH s') H') v0 v1 v12 (f13 s) (TH s)) :
    L36_0 K v0 v1 v12 v13 H := by
  unfold L36_0
  exact LoopV.mk s0 (fun s => [f13 s]) TH pre μ (fun _ => rfl) (Eq.mp (by kernel_rfl) h0) (fun s hs => Eq.mp (by kernel_rfl) (round s hs))
theorem L36_0_ruleG {K : AV → Heap → Prop} {v0 v1 v12 v13 : AV} {H : Heap} {σ : Type} (s0 : σ) (f13 : σ → AV) (TH : σ → Heap) (pre : σ → Prop) (μ : σ → Nat)
    (h0 : pre s0 ∧ AV.wk v13 (f13 s0) ∧ Heap.le (TH s0) H)
    (round : ∀ s, pre s → ∀ q, TH s q = none → B36_0 K (fun w13 H' => ∃ s', pre s' ∧ μ s' < μ s ∧ AV.wk w13 (f13 s') ∧ Heap.le (TH s') H') v0 v1 v12 (f13 s) ((TH s).set q [])) :
    L36_0 K v0 v1 v12 v13 H := by
  unfold L36_0
  exact LoopV.mkG s0 (fun s => [f13 s]) TH pre μ (fun _ => rfl) (Eq.mp (by kernel_rfl) h0) (fun s hs q hq => Eq.mp (by kernel_rfl) (round s hs q hq))
/-- (*loop.example/g00649/spec.l1Cur).lasso -/
def D66 : Info := ⟨57, fun i => if i = 12 then ([[], [0], [], [], [2, 3], [0, 1, 2, 3, 4], [0, 1, 2, 3, 4, 5]], [(0, []), (1, []), (2, []), (3, [1]), (4, [1]), (5, []), (6, [])]) else ([], []), fun i => ([], [])⟩
def J66_0 (K : AV → Heap → Prop) (v0 : AV) (v2 : AV) (v3 : AV) (H : Heap) : Prop :=
 CallT Try.prog 67 [v0, (AV.p (.int .i64 40))] H fun v31 H14 =>
 binV tab .eql 3 v31 (AV.p (.int .i64 0)) fun v33 =>
 condV v33 (buildSliceV tab 24 3 [(0, (AV.p (.int .i64 0))), (1, (AV.p (.int .i64 24))), (2, (AV.p (.int .i64 25)))] H14 (wkK fun v36 H15 =>
 CallT Try.prog 108 [v0, v36] H15 fun v37 H16 =>
 CallT Try.prog 133 [v0, v37] H16 fun v38 H17 =>
 fieldAddrV tab 26 v3 1 fun v39 =>
 storeV tab 24 v39 v38 H17 fun H18 =>
 loadV tab 26 v3 H18 fun v56 =>
 storeV tab 26 v2 v56 H18 fun H20 =>
 loadV tab 26 v2 H20 fun r0 =>
 K r0 H20))
 (binV tab .eql 3 v31 (AV.p (.int .i64 1)) fun v41 =>
 condV v41 (buildSliceV tab 24 2 [(0, (AV.p (.int .i64 24))), (1, (AV.p (.int .i64 25)))] H14 (wkK fun v44 H21 =>
 CallT Try.prog 108 [v0, v44] H21 fun v45 H22 =>
 CallT Try.prog 133 [v0, v45] H22 fun v46 H23 =>
 fieldAddrV tab 26 v3 0 fun v47 =>
 storeV tab 24 v47 v46 H23 fun H24 =>
 loadV tab 26 v3 H24 fun v56 =>
 storeV tab 26 v2 v56 H24 fun H25 =>
 loadV tab 26 v2 H25 fun r0 =>
 K r0 H25))
 (binV tab .eql 3 v31 (AV.p (.int .i64 2)) fun v49 =>
 condV v49 (fieldAddrV tab 26 v3 1 fun v50 =>
 loadV tab 24 v50 H14 fun v51 =>
 buildSliceV tab 24 3 [(0, (AV.p (.int .i64 (-1)))), (1, (AV.p (.int .i64 7))), (2, (AV.p (.int .i64 8)))] H14 (wkK fun v53 H26 =>
 (loadV tab 24 v50 H26 fun v9051 =>
 v51 = v9051) ∧
 CallT Try.prog 108 [v0, v53] H26 fun v54 H27 =>
 (loadV tab 24 v50 H27 fun v9051 =>
 v51 = v9051) ∧
 indexAddrV tab 24 v51 (AV.p (.int .i64 0)) fun v55 =>
 storeV tab 3 v55 v54 H27 fun H28 =>
 loadV tab 26 v3 H28 fun v56 =>
 storeV tab 26 v2 v56 H28 fun H29 =>
 loadV tab 26 v2 H29 fun r0 =>
 K r0 H29))
 (loadV tab 26 v3 H14 fun v56 =>
 storeV tab 26 v2 v56 H14 fun H30 =>
 loadV tab 26 v2 H30 fun r0 =>
 K r0 H30)))
def J66_1 (K : AV → Heap → Prop) (v0 : AV) (v2 : AV) (v3 : AV) (H : Heap) : Prop :=
 CallT Try.prog 134 [v0, (AV.p (.int .i64 4))] H fun v23 H11 =>
 condV v23 (fieldAddrV tab 26 v3 0 fun v24 =>
 loadV tab 24 v24 H11 fun v25 =>
 fieldAddrV tab 26 v3 1 fun v26 =>
 loadV tab 24 v26 H11 fun v27 =>
 appendV tab 24 24 v25 v27 H11 (wkK fun v28 H12 =>
 fieldAddrV tab 26 v3 0 fun v29 =>
 storeV tab 24 v29 v28 H12 fun H13 =>
 J66_0 K v0 v2 v3 H13))
 (J66_0 K v0 v2 v3 H11)
def W66 (v0 : AV) (H : Heap) (K : AV → Heap → Prop) : Prop :=
 allocV tab 26 H fun v2 H1 =>
 CallT Try.prog 67 [v0, (AV.p (.int .i64 6))] H1 fun v6 H2 =>
 CallT Try.prog 133 [v0, v6] H2 fun v7 H3 =>
 CallT Try.prog 67 [v0, (AV.p (.int .i64 5))] H3 fun v10 H4 =>
 binV tab .add 3 (AV.p (.int .i64 1)) v10 fun v11 =>
 CallT Try.prog 133 [v0, v11] H4 fun v12 H5 =>
 buildV tab 26 [(0, v7), (1, v12)] fun v13 =>
 allocV tab 26 H5 fun v3 H6 =>
 storeV tab 26 v3 v13 H6 fun H7 =>
 CallT Try.prog 134 [v0, (AV.p (.int .i64 4))] H7 fun v15 H8 =>
 condV v15 (fieldAddrV tab 26 v3 1 fun v16 =>
 loadV tab 24 v16 H8 fun v17 =>
 fieldAddrV tab 26 v3 1 fun v18 =>
 loadV tab 24 v18 H8 fun v19 =>
 appendV tab 24 24 v17 v19 H8 (wkK fun v20 H9 =>
 fieldAddrV tab 26 v3 1 fun v21 =>
 storeV tab 24 v21 v20 H9 fun H10 =>
 J66_1 K v0 v2 v3 H10))
 (J66_1 K v0 v2 v3 H8)
theorem W66_wp (v0 : AV) (H : Heap) (K : AV → Heap → Prop) : wpC Try.prog tab D66 (bodyOf Try.f66) (retF tab [.cell 2 26] K) (nthA [v0]) H = W66 v0 H K := by kernel_rfl
theorem W66_ok {v0 : AV} {H : Heap} {K : AV → Heap → Prop} (h : W66 v0 H K) : CallT Try.prog 66 [v0] H K :=
  CallT.of_wp (D := D66) tab_ok mixed Try.func66 (c := bodyOf Try.f66) (by kernel_rfl) rfl (by kernel_rfl) (rs := #[.cell 2 26]) rfl (by decide +kernel) (by kernel_rfl) (W66_wp v0 H K) h
theorem W66_hb : HasBody Try.prog 66 := ⟨_, bodyOf Try.f66, Try.func66, by kernel_rfl, rfl⟩
/-- (*loop.example/g00649/spec.l1Cur).pick -/
def D67 : Info := ⟨20, fun i => ([], []), fun i => ([], [])⟩
def W67 (v0 : AV) (v1 : AV) (H : Heap) (K : AV → Heap → Prop) : Prop :=
 binV tab .leq 3 v1 (AV.p (.int .i64 1)) fun v7 =>
 condV v7 (K (AV.p (.int .i64 0)) H)
 (CallT Try.prog 135 [v0] H fun v9 H1 =>
 binV tab .gtr 3 v1 (AV.p (.int .i64 200)) fun v11 =>
 condV v11 (binV tab .mul 3 v9 (AV.p (.int .i64 256)) fun v13 =>
 CallT Try.prog 135 [v0] H1 fun v15 H2 =>
 binV tab .add 3 v13 v15 fun v16 =>
 binV tab .rem 3 v16 v1 fun v19 =>
 K v19 H2)
 (binV tab .rem 3 v9 v1 fun v19 =>
 K v19 H1))
theorem W67_wp (v0 : AV) (v1 : AV) (H : Heap) (K : AV → Heap → Prop) : wpC Try.prog tab D67 (bodyOf Try.f67) (retF tab [.tmp 4] K) (nthA [v0, v1]) H = W67 v0 v1 H K := by kernel_rfl
theorem W67_ok {v0 v1 : AV} {H : Heap} {K : AV → Heap → Prop} (h : W67 v0 v1 H K) : CallT Try.prog 67 [v0, v1] H K :=
  CallT.of_wp (D := D67) tab_ok mixed Try.func67 (c := bodyOf Try.f67) (by kernel_rfl) rfl (by kernel_rfl) (rs := #[.tmp 4]) rfl (by decide +kernel) (by kernel_rfl) (W67_wp v0 v1 H K) h
theorem W67_hb : HasBody Try.prog 67 := ⟨_, bodyOf Try.f67, Try.func67, by kernel_rfl, rfl⟩
/-- slices.Equal[[]int,int] -/
def D68 : Info := ⟨26, fun i => if i = 6 then ([[], [], [0, 1], [0, 1, 2], [], [], [4, 5], [4, 5, 6], [0, 1, 2, 3, 4, 5, 6, 7]], [(0, []), (1, []), (2, []), (3, []), (4, []), (5, []), (6, []), (7, []), (8, [])]) else ([], []), fun i => if i = 4 then ([0, 1, 12], [13]) else ([], [])⟩
def L68_0 (K : AV → Heap → Prop) (v0 : AV) (v1 : AV) (v12 : AV) (v13 : AV) (H : Heap) : Prop := LoopV (wpC Try.prog tab D68 (cAt [1, 1, 0, 1, 0, 0] (bodyOf Try.f68))) [0, 1, 12] (PostF.block 0 (PostF.thenA (wpC Try.prog tab D68 (cAt [1, 1, 1] (bodyOf Try.f68))) (retF tab [.tmp 4] K))) [13] [v0, v1, AV.any, AV.any, AV.any, AV.any, AV.any, AV.any, AV.any, AV.any, AV.any, AV.any, v12, v13, AV.any, AV.any, AV.any, AV.any, AV.any, AV.any, AV.any, AV.any, AV.any, AV.any, AV.any, AV.any] H
def B68_0 (K : AV → Heap → Prop) (N1 : AV → Heap → Prop) (v0 : AV) (v1 : AV) (v12 : AV) (v13 : AV) (H : Heap) : Prop :=
 binV tab .lss 3 v13 v12 fun v14 =>
 condV v14 (indexAddrV tab 24 v0 v13 fun v18 =>
 loadV tab 3 v18 H fun v19 =>
 indexAddrV tab 24 v1 v13 fun v22 =>
 loadV tab 3 v22 H fun v23 =>
 binV tab .neq 3 v19 v23 fun v24 =>
 condV v24 (K (AV.p (.bool false)) H)
 (binV tab .add 3 v13 (AV.p (.int .i64 1)) fun v25 =>
 N1 v25 H))
 (K (AV.p (.bool true)) H)
def W68 (v0 : AV) (v1 : AV) (H : Heap) (K : AV → Heap → Prop) : Prop :=
 lenV tab 24 v0 fun v7 =>
 lenV tab 24 v1 fun v9 =>
 binV tab .neq 3 v7 v9 fun v10 =>
 condV v10 (K (AV.p (.bool false)) H)
 (lenV tab 24 v0 fun v12 =>
 L68_0 K v0 v1 v12 (AV.p (.int .i64 0)) H)
theorem W68_wp (v0 : AV) (v1 : AV) (H : Heap) (K : AV → Heap → Prop) : wpC Try.prog tab D68 (bodyOf Try.f68) (retF tab [.tmp 4] K) (nthA [v0, v1]) H = W68 v0 v1 H K := by kernel_rfl
theorem W68_ok {v0 v1 : AV} {H : Heap} {K : AV → Heap → Prop} (h : W68 v0 v1 H K) : CallT Try.prog 68 [v0, v1] H K :=
  CallT.of_wp (D := D68) tab_ok mixed Try.func68 (c := bodyOf Try.f68) (by kernel_rfl) rfl (by kernel_rfl) (rs := #[.tmp 4]) rfl (by decide +kernel) (by kernel_rfl) (W68_wp v0 v1 H K) h
theorem W68_hb : HasBody Try.prog 68 := ⟨_, bodyOf Try.f68, Try.func68, by kernel_rfl, rfl⟩
theorem L68_0_rule {K : AV → Heap → Prop} {v0 v1 v12 v13 : AV} {H : Heap} {σ : Type} (s0 : σ) (f13 : σ → AV) (TH : σ → Heap) (pre : σ → Prop) (μ : σ → Nat)
    (h0 : pre s0 ∧ AV.wk v13 (f13 s0) ∧ Heap.le (TH s0) H)
    (round : ∀ s, pre s → B68_0 K (fun w13 H' => ∃ s', pre s' ∧ μ s' < μ s ∧ AV.wk w13 (f13 s') ∧ Heap.le (TH s') H') v0 v1 v12 (f13 s) (TH s)) :
    L68_0 K v0 v1 v12 v13 H := by
  unfold L68_0
  exact LoopV.mk s0 (fun s => [f13 s]) TH pre μ (fun _ => rfl) (Eq.mp (by kernel_rfl) h0) (fun s hs => Eq.mp (by kernel_rfl) (round s hs))
theorem L68_0_ruleG {K : AV → Heap → Prop} {v0 v1 v12 v13 : AV} {H : Heap} {σ : Type} (s0 : σ) (f13 : σ → AV) (TH : σ → Heap) (pre : σ → Prop) (μ : σ → Nat)
    (h0 : pre s0 ∧ AV.wk v13 (f13 s0) ∧ Heap.le (TH s0) H)
    (round : ∀ s, pre s → ∀ q, TH s q = none → B68_0 K (fun w13 H' => ∃ s', pre s' ∧ μ s' < μ s ∧ AV.wk w13 (f13 s') ∧ Heap.le (TH s') H') v0 v1 v12 (f13 s) ((TH s).set q [])) :
    L68_0 K v0 v1 v12 v13 H := by
  unfold L68_0
  exact LoopV.mkG s0 (fun s => [f13 s]) TH pre μ (fun _ => rfl) (Eq.mp (by kernel_rfl) h0) (fun s hs q hq => Eq.mp (by kernel_rfl) (round s hs q hq))
/-- (loop.example/g00649/impl.Lasso).unroll -/
def D69 : Info := ⟨20, fun i => ([], []), fun i => if i = 3 then ([2, 8], [5, 9]) else ([], [])⟩
def L69_0 (K : AV → Heap → Prop) (v2 : AV) (v5 : AV) (v8 : AV) (v9 : AV) (H : Heap) : Prop := LoopV (wpC Try.prog tab D69 (cAt [1, 1, 0, 1, 0, 0] (bodyOf Try.f69))) [2, 8] (PostF.block 0 (PostF.thenA (wpC Try.prog tab D69 (cAt [1, 1, 1] (bodyOf Try.f69))) (retF tab [.tmp 4] K))) [5, 9] [AV.any, AV.any, v2, AV.any, AV.any, v5, AV.any, AV.any, v8, v9, AV.any, AV.any, AV.any, AV.any, AV.any, AV.any, AV.any, AV.any, AV.any, AV.any] H
def B69_0 (K : AV → Heap → Prop) (N1 : AV → AV → Heap → Prop) (v2 : AV) (v5 : AV) (v8 : AV) (v9 : AV) (H : Heap) : Prop :=
 binV tab .lss 3 v9 v8 fun v10 =>
 condV v10 (loadV tab 26 v2 H fun v13 =>
 CallT Try.prog 95 [v13, v9] H fun v15 H3 =>
 buildSliceV tab 24 1 [(0, v15)] H3 (wkK fun v16 H4 =>
 appendV tab 24 24 v5 v16 H4 (wkK fun v17 H5 =>
 binV tab .add 3 v9 (AV.p (.int .i64 1)) fun v18 =>
 N1 v17 v18 H5)))
 (K v5 H)
def W69 (v0 : AV) (v1 : AV) (H : Heap) (K : AV → Heap → Prop) : Prop :=
 boxV v0 H fun v2 H1 =>
 buildSliceV tab 24 0 [] H1 (wkK fun v7 H2 =>
 L69_0 K v2 v7 v1 (AV.p (.int .i64 0)) H2)
theorem W69_wp (v0 : AV) (v1 : AV) (H : Heap) (K : AV → Heap → Prop) : wpC Try.prog tab D69 (bodyOf Try.f69) (retF tab [.tmp 4] K) (nthA [v0, v1]) H = W69 v0 v1 H K := by kernel_rfl
theorem W69_ok {v0 v1 : AV} {H : Heap} {K : AV → Heap → Prop} (h : W69 v0 v1 H K) : CallT Try.prog 69 [v0, v1] H K :=
  CallT.of_wp (D := D69) tab_ok mixed Try.func69 (c := bodyOf Try.f69) (by kernel_rfl) rfl (by kernel_rfl) (rs := #[.tmp 4]) rfl (by decide +kernel) (by kernel_rfl) (W69_wp v0 v1 H K) h
theorem W69_hb : HasBody Try.prog 69 := ⟨_, bodyOf Try.f69, Try.func69, by kernel_rfl, rfl⟩
theorem L69_0_rule {K : AV → Heap → Prop} {v2 v5 v8 v9 : AV} {H : Heap} {σ : Type} (s0 : σ) (f5 : σ → AV) (f9 : σ → AV) (TH : σ → Heap) (pre : σ → Prop) (μ : σ → Nat)
    (h0 : pre s0 ∧ AV.wk v5 (f5 s0) ∧ AV.wk v9 (f9 s0) ∧ Heap.le (TH s0) H)
    (round : ∀ s, pre s → B69_0 K (fun w5 w9 H' => ∃ s', pre s' ∧ μ s' < μ s ∧ AV.wk w5 (f5 s') ∧ AV.wk w9 (f9 s') ∧ Heap.le (TH s') H') v2 (f5 s) v8 (f9 s) (TH s)) :
    L69_0 K v2 v5 v8 v9 H := by
  unfold L69_0
  exact LoopV.mk s0 (fun s => [f5 s, f9 s]) TH pre μ (fun _ => rfl) (Eq.mp (by kernel_rfl) h0) (fun s hs => Eq.mp (by kernel_rfl) (round s hs))
theorem L69_0_ruleG {K : AV → Heap → Prop} {v2 v5 v8 v9 : AV} {H : Heap} {σ : Type} (s0 : σ) (f5 : σ → AV) (f9 : σ → AV) (TH : σ → Heap) (pre : σ → Prop) (μ : σ → Nat)
    (h0 : pre s0 ∧ AV.wk v5 (f5 s0) ∧ AV.wk v9 (f9 s0) ∧ Heap.le (TH s0) H)
    (round : ∀ s, pre s → ∀ q, TH s q = none → B69_0 K (fun w5 w9 H' => ∃ s', pre s' ∧ μ s' < μ s ∧ AV.wk w5 (f5 s') ∧ AV.wk w9 (f9 s') ∧ Heap.le (TH s') H') v2 (f5 s) v8 (f9 s) ((TH s).set q [])) :
    L69_0 K v2 v5 v8 v9 H := by
  unfold L69_0
  exact LoopV.mkG s0 (fun s => [f5 s, f9 s]) TH pre μ (fun _ => rfl) (Eq.mp (by kernel_rfl) h0) (fun s hs q hq => Eq.mp (by kernel_rfl) (round s hs q hq))
/-- loop.example/g00649/spec.l9Same -/
def D70 : Info := ⟨13, fun i => if i = 2 then ([[], [], [0, 1], [], [], [0, 1, 2, 3, 4], [0, 1, 2, 3, 4, 5], [0, 1, 2, 3, 4, 5, 6]], [(0, []), (1, []), (3, []), (4, []), (2, [3]), (5, []), (6, []), (7, [])]) else ([], []), fun i => ([], [])⟩
def W70 (v0 : AV) (v1 : AV) (H : Heap) (K : AV → Heap → Prop) : Prop :=
 boxV v0 H fun v2 H1 =>
 boxV v1 H1 fun v3 H2 =>
 loadV tab 26 v2 H2 fun v6 =>
 loadV tab 26 v3 H2 fun v9 =>
 CallT Try.prog 72 [v6, (AV.p (.int .i64 0)), (AV.p (.int .i64 600))] H2 fun v8 H3 =>
 (loadV tab 26 v3 H3 fun v9009 =>
 v9 = v9009) ∧
 CallT Try.prog 72 [v9, (AV.p (.int .i64 0)), (AV.p (.int .i64 600))] H3 fun v11 H4 =>
 CallT Try.prog 136 [v8, v11] H4 fun v12 H5 =>
 K v12 H5
theorem W70_wp (v0 : AV) (v1 : AV) (H : Heap) (K : AV → Heap → Prop) : wpC Try.prog tab D70 (bodyOf Try.f70) (retF tab [.tmp 4] K) (nthA [v0, v1]) H = W70 v0 v1 H K := by kernel_rfl
theorem W70_ok {v0 v1 : AV} {H : Heap} {K : AV → Heap → Prop} (h : W70 v0 v1 H K) : CallT Try.prog 70 [v0, v1] H K :=
  CallT.of_wp (D := D70) tab_ok mixed Try.func70 (c := bodyOf Try.f70) (by kernel_rfl) rfl (by kernel_rfl) (rs := #[.tmp 4]) rfl (by decide +kernel) (by kernel_rfl) (W70_wp v0 v1 H K) h
theorem W70_hb : HasBody Try.prog 70 := ⟨_, bodyOf Try.f70, Try.func70, by kernel_rfl, rfl⟩
/-- slices.Clone[[]int,int] -/
def D71 : Info := ⟨8, fun i => ([], []), fun i => ([], [])⟩
def W71 (v0 : AV) (H : Heap) (K : AV → Heap → Prop) : Prop :=
 binV tab .eql 24 v0 (AV.p .nil) fun v4 =>
 condV v4 (K (AV.p .nil) H)
 (buildSliceV tab 24 0 [] H (wkK fun v5 H1 =>
 appendV tab 24 24 v5 v0 H1 (wkK fun v7 H2 =>
 K v7 H2)))
theorem W71_wp (v0 : AV) (H : Heap) (K : AV → Heap → Prop) : wpC Try.prog tab D71 (bodyOf Try.f71) (retF tab [.tmp 2] K) (nthA [v0]) H = W71 v0 H K := by kernel_rfl
theorem W71_ok {v0 : AV} {H : Heap} {K : AV → Heap → Prop} (h : W71 v0 H K) : CallT Try.prog 71 [v0] H K :=
  CallT.of_wp (D := D71) tab_ok mixed Try.func71 (c := bodyOf Try.f71) (by kernel_rfl) rfl (by kernel_rfl) (rs := #[.tmp 2]) rfl (by decide +kernel) (by kernel_rfl) (W71_wp v0 H K) h
theorem W71_hb : HasBody Try.prog 71 := ⟨_, bodyOf Try.f71, Try.func71, by kernel_rfl, rfl⟩
/-- loop.example/g00649/spec.l9First -/
def D72 : Info := ⟨24, fun i => ([], []), fun i => if i = 3 then ([1, 2, 3], [7, 8]) else ([], [])⟩
def L72_0 (K : AV → Heap → Prop) (v1 : AV) (v2 : AV) (v3 : AV) (v7 : AV) (v8 : AV) (H : Heap) : Prop := LoopV (wpC Try.prog tab D72 (cAt [1, 1, 0, 1, 0, 0] (bodyOf Try.f72))) [1, 2, 3] (PostF.block 0 (PostF.thenA (wpC Try.prog tab D72 (cAt [1, 1, 1] (bodyOf Try.f72))) (retF tab [.tmp 6] K))) [7, 8] [AV.any, v1, v2, v3, AV.any, AV.any, AV.any, v7, v8, AV.any, AV.any, AV.any, AV.any, AV.any, AV.any, AV.any, AV.any, AV.any, AV.any, AV.any, AV.any, AV.any, AV.any, AV.any] H
def B72_0 (K : AV → Heap → Prop) (N1 : AV → AV → Heap → Prop) (v1 : AV) (v2 : AV) (v3 : AV) (v7 : AV) (v8 : AV) (H : Heap) : Prop :=
 binV tab .add 3 v1 v2 fun v13 =>
 binV tab .lss 3 v8 v13 fun v14 =>
 condV v14 (loadV tab 26 v3 H fun v18 =>
 CallT Try.prog 92 [v18, v8] H fun v20 H2 =>
 buildSliceV tab 24 1 [(0, v20)] H2 (wkK fun v21 H3 =>
 appendV tab 24 24 v7 v21 H3 (wkK fun v22 H4 =>
 binV tab .add 3 v8 (AV.p (.int .i64 1)) fun v16 =>
 N1 v22 v16 H4)))
 (K v7 H)
def W72 (v0 : AV) (v1 : AV) (v2 : AV) (H : Heap) (K : AV → Heap → Prop) : Prop :=
 boxV v0 H fun v3 H1 =>
 L72_0 K v1 v2 v3 (AV.p .nil) v1 H1
theorem W72_wp (v0 : AV) (v1 : AV) (v2 : AV) (H : Heap) (K : AV → Heap → Prop) : wpC Try.prog tab D72 (bodyOf Try.f72) (retF tab [.tmp 6] K) (nthA [v0, v1, v2]) H = W72 v0 v1 v2 H K := by kernel_rfl
theorem W72_ok {v0 v1 v2 : AV} {H : Heap} {K : AV → Heap → Prop} (h : W72 v0 v1 v2 H K) : CallT Try.prog 72 [v0, v1, v2] H K :=
  CallT.of_wp (D := D72) tab_ok mixed Try.func72 (c := bodyOf Try.f72) (by kernel_rfl) rfl (by kernel_rfl) (rs := #[.tmp 6]) rfl (by decide +kernel) (by kernel_rfl) (W72_wp v0 v1 v2 H K) h
theorem W72_hb : HasBody Try.prog 72 := ⟨_, bodyOf Try.f72, Try.func72, by kernel_rfl, rfl⟩
theorem L72_0_rule {K : AV → Heap → Prop} {v1 v2 v3 v7 v8 : AV} {H : Heap} {σ : Type} (s0 : σ) (f7 : σ → AV) (f8 : σ → AV) (TH : σ → Heap) (pre : σ → Prop) (μ : σ → Nat)
    (h0 : pre s0 ∧ AV.wk v7 (f7 s0) ∧ AV.wk v8 (f8 s0) ∧ Heap.le (TH s0) H)
    (round : ∀ s, pre s → B72_0 K (fun w7 w8 H' => ∃ s', pre s' ∧ μ s' < μ s ∧ AV.wk w7 (f7 s') ∧ AV.wk w8 (f8 s') ∧ Heap.le (TH s') H') v1 v2 v3 (f7 s) (f8 s) (TH s)) :
    L72_0 K v1 v2 v3 v7 v8 H := by
  unfold L72_0
  exact LoopV.mk s0 (fun s => [f7 s, f8 s]) TH pre μ (fun _ => rfl) (Eq.mp (by kernel_rfl) h0) (fun s hs => Eq.mp (by kernel_rfl) (round s hs))
theorem L72_0_ruleG {K : AV → Heap → Prop} {v1 v2 v3 v7 v8 : AV} {H : Heap} {σ : Type} (s0 : σ) (f7 : σ → AV) (f8 : σ → AV) (TH : σ → Heap) (pre : σ → Prop) (μ : σ → Nat)
    (h0 : pre s0 ∧ AV.wk v7 (f7 s0) ∧ AV.wk v8 (f8 s0) ∧ Heap.le (TH s0) H)
    (round : ∀ s, pre s → ∀ q, TH s q = none → B72_0 K (fun w7 w8 H' => ∃ s', pre s' ∧ μ s' < μ s ∧ AV.wk w7 (f7 s') ∧ AV.wk w8 (f8 s') ∧ Heap.le (TH s') H') v1 v2 v3 (f7 s) (f8 s) ((TH s).set q [])) :
    L72_0 K v1 v2 v3 v7 v8 H := by
  unfold L72_0
  exact LoopV.mkG s0 (fun s => [f7 s, f8 s]) TH pre μ (fun _ => rfl) (Eq.mp (by kernel_rfl) h0) (fun s hs q hq => Eq.mp (by kernel_rfl) (round s hs q hq))
end Go.Proofs.Ytjbdahlhphdalaa
