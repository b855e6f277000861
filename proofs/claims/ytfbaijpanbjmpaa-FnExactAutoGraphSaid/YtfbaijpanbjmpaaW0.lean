/- What each function's code is asked for, as a formula. Written by wgen.py (a program of this session's) out of Lean's print of the program. -/
import Derived.KernelRfl
import Derived.Test.YtfbaijpanbjmpaaTab
import Derived.Test.YtfbaijpanbjmpaaSepC
namespace Go.Proofs.Ytfbaijpanbjmpaa
open Go Go.Sep
set_option linter.unusedVariables false
attribute [local irreducible] wpC headF
/-- loop.example/g00649/laws.FnExactEitherAuto -/
def D3 : Info := ⟨119, fun i => if i = 8 then ([[], [0], [], [0, 1, 2], [0, 1, 2, 3], [0, 1, 2, 3, 4], [0, 1, 2, 3, 4, 5], [0, 1, 2, 3, 4, 5], [], [0, 1, 2, 3, 4, 5, 6, 8], [0, 1, 2, 3, 4, 5, 6, 7, 8, 9]], [(0, []), (2, []), (1, [2]), (3, []), (4, []), (5, []), (6, []), (7, []), (8, []), (9, []), (10, [])]) else if i = 14 then ([[], [], [1], [0, 1, 2], [0, 1, 2, 3]], [(0, []), (1, []), (2, [0]), (3, []), (4, [])]) else if i = 16 then ([[], [], [1], [0, 1, 2], [0, 1, 2, 3]], [(0, []), (1, []), (2, [0]), (3, []), (4, [])]) else if i = 31 then ([[], [0], [], [0, 1, 2], [0, 1, 2, 3], [0, 1, 2, 3, 4], [0, 1, 2, 3, 4, 5], [0, 1, 2, 3, 4, 5], [], [0, 1, 2, 3, 4, 5, 6, 8], [0, 1, 2, 3, 4, 5, 6, 7, 8, 9]], [(0, []), (2, []), (1, [2]), (3, []), (4, []), (5, []), (6, []), (7, []), (8, []), (9, []), (10, [])]) else ([], []), fun i => ([], [])⟩
def W3 (v0 : AV) (v1 : AV) (H : Heap) (K : AV → Heap → Prop) : Prop :=
 boxV v0 H fun v2 H1 =>
 boxV v1 H1 fun v3 H2 =>
 loadV tab 26 v2 H2 fun v17 =>
 CallT Try.prog 9 [v17, (AV.p (.int .i64 1048576))] H2 fun v19 H3 =>
 binV tab .lss 3 v19 (AV.p (.int .i64 0)) fun v21 =>
 condV v21 (K (AV.p (.bool true)) H3)
 (loadV tab 26 v3 H3 fun v22 =>
 CallT Try.prog 9 [v22, v19] H3 fun v24 H4 =>
 binV tab .lss 3 v24 (AV.p (.int .i64 0)) fun v26 =>
 condV v26 (K (AV.p (.bool true)) H4)
 (loadV tab 26 v2 H4 fun v28 =>
 loadV tab 26 v3 H4 fun v30 =>
 CallT Try.prog 11 [v28] H4 fun v29 H5 =>
 (loadV tab 26 v3 H5 fun v9030 =>
 v30 = v9030) ∧
 CallT Try.prog 11 [v30] H5 fun v31 H6 =>
 CallT Try.prog 10 [v29, v31] H6 fun v32 H7 =>
 extractV v32 0 fun v33 =>
 extractV v32 1 fun v34 =>
 allocV tab 30 H7 fun v6 H8 =>
 storeV tab 30 v6 v33 H8 fun H9 =>
 loadV tab 26 v2 H9 fun v35 =>
 CallT Try.prog 11 [v35] H9 fun v36 H10 =>
 allocV tab 30 H10 fun v8 H11 =>
 storeV tab 30 v8 v36 H11 fun H12 =>
 loadV tab 26 v3 H12 fun v37 =>
 CallT Try.prog 11 [v37] H12 fun v38 H13 =>
 allocV tab 30 H13 fun v9 H14 =>
 storeV tab 30 v9 v38 H14 fun H15 =>
 loadV tab 30 v8 H15 fun v40 =>
 loadV tab 30 v9 H15 fun v41 =>
 CallT Try.prog 12 [v40, v41] H15 fun v42 H16 =>
 extractV v42 0 fun v43 =>
 extractV v42 1 fun v44 =>
 allocV tab 30 H16 fun v10 H17 =>
 storeV tab 30 v10 v43 H17 fun H18 =>
 loadV tab 30 v10 H18 fun v45 =>
 loadV tab 30 v6 H18 fun v46 =>
 CallT Try.prog 13 [v45, v46] H18 fun v47 H19 =>
 unV .not v47 fun v48 =>
 grdV v48 false (binV tab .neq 4 v44 v34 fun v52 =>
 condV v52 (K (AV.p (.bool false)) H19)
 (loadV tab 30 v8 H19 fun v54 =>
 loadV tab 26 v2 H19 fun v55 =>
 CallT Try.prog 11 [v55] H19 fun v56 H20 =>
 (loadV tab 30 v8 H20 fun v9054 =>
 v54 = v9054) ∧
 CallT Try.prog 13 [v54, v56] H20 fun v57 H21 =>
 unV .not v57 fun v58 =>
 condV v58 (K (AV.p (.bool false)) H21)
 (loadV tab 30 v9 H21 fun v59 =>
 loadV tab 26 v3 H21 fun v60 =>
 CallT Try.prog 11 [v60] H21 fun v61 H22 =>
 (loadV tab 30 v9 H22 fun v9059 =>
 v59 = v9059) ∧
 CallT Try.prog 13 [v59, v61] H22 fun v62 H23 =>
 unV .not v62 fun v63 =>
 condV v63 (K (AV.p (.bool false)) H23)
 (loadV tab 30 v8 H23 fun v64 =>
 CallT Try.prog 14 [v64, (AV.p (.int .i64 1))] H23 fun v66 H24 =>
 loadV tab 30 v9 H24 fun v67 =>
 CallT Try.prog 14 [v67, v66] H24 fun v69 H25 =>
 binV tab .lss 3 v69 (AV.p (.int .i64 0)) fun v71 =>
 grdV v71 false (loadV tab 30 v10 H25 fun v73 =>
 loadV tab 30 v6 H25 fun v74 =>
 CallT Try.prog 13 [v73, v74] H25 fun v75 H26 =>
 unV .not v75 fun v76 =>
 grdV v76 false (binV tab .neq 4 v44 v34 fun v81 =>
 condV v81 (K (AV.p (.bool false)) H26)
 (loadV tab 30 v10 H26 fun v83 =>
 CallT Try.prog 14 [v83, (AV.p (.int .i64 1))] H26 fun v85 H27 =>
 loadV tab 30 v10 H27 fun v86 =>
 CallT Try.prog 15 [v86, (AV.p (.int .i64 1))] H27 fun v88 H28 =>
 binV tab .lss 3 v88 (AV.p (.int .i64 0)) fun v90 =>
 condV v90 (K (AV.p (.bool false)) H28)
 (binV tab .neq 3 v88 v85 fun v93 =>
 condV v93 (K (AV.p (.bool false)) H28)
 (loadV tab 26 v2 H28 fun v95 =>
 loadV tab 26 v3 H28 fun v97 =>
 CallT Try.prog 11 [v95] H28 fun v96 H29 =>
 (loadV tab 26 v3 H29 fun v9097 =>
 v97 = v9097) ∧
 CallT Try.prog 11 [v97] H29 fun v98 H30 =>
 CallT Try.prog 12 [v96, v98] H30 fun v99 H31 =>
 extractV v99 0 fun v100 =>
 extractV v99 1 fun v101 =>
 allocV tab 30 H31 fun v15 H32 =>
 storeV tab 30 v15 v100 H32 fun H33 =>
 loadV tab 30 v15 H33 fun v102 =>
 loadV tab 30 v6 H33 fun v103 =>
 CallT Try.prog 13 [v102, v103] H33 fun v104 H34 =>
 unV .not v104 fun v105 =>
 grdV v105 false (binV tab .neq 4 v101 v34 fun v109 =>
 condV v109 (K (AV.p (.bool false)) H34)
 (loadV tab 30 v10 H34 fun v111 =>
 CallT Try.prog 15 [v111, (AV.p (.int .i64 1))] H34 fun v113 H35 =>
 binV tab .lss 3 v113 (AV.p (.int .i64 0)) fun v115 =>
 condV v115 (K (AV.p (.bool false)) H35)
 (binV tab .neq 3 v113 v85 fun v118 =>
 condV v118 (K (AV.p (.bool false)) H35)
 (K (AV.p (.bool true)) H35))))
 (K (AV.p (.bool false)) H34)))))
 (K (AV.p (.bool false)) H26))
 (K (AV.p (.bool false)) H25)))))
 (K (AV.p (.bool false)) H19)))
theorem W3_wp (v0 : AV) (v1 : AV) (H : Heap) (K : AV → Heap → Prop) : wpC Try.prog tab D3 (bodyOf Try.f3) (retF tab [.tmp 4] K) (nthA [v0, v1]) H = W3 v0 v1 H K := by kernel_rfl
theorem W3_ok {v0 v1 : AV} {H : Heap} {K : AV → Heap → Prop} (h : W3 v0 v1 H K) : CallT Try.prog 3 [v0, v1] H K :=
  CallT.of_wp (D := D3) tab_ok mixed Try.func3 (c := bodyOf Try.f3) (by kernel_rfl) rfl (by kernel_rfl) (rs := #[.tmp 4]) rfl (by decide +kernel) (by kernel_rfl) (W3_wp v0 v1 H K) h
theorem W3_hb : HasBody Try.prog 3 := ⟨_, bodyOf Try.f3, Try.func3, by kernel_rfl, rfl⟩
/-- loop.example/g00649/laws.FnExactOneGoal -/
def D4 : Info := ⟨96, fun i => if i = 10 then ([[], [], [1], [0, 1, 2], [0, 1, 2, 3]], [(0, []), (1, []), (2, [0]), (3, []), (4, [])]) else ([], []), fun i => ([], [])⟩
def W4 (v0 : AV) (H : Heap) (K : AV → Heap → Prop) : Prop :=
 boxV v0 H fun v1 H1 =>
 loadV tab 26 v1 H1 fun v14 =>
 CallT Try.prog 9 [v14, (AV.p (.int .i64 1048576))] H1 fun v16 H2 =>
 binV tab .lss 3 v16 (AV.p (.int .i64 0)) fun v18 =>
 condV v18 (K (AV.p (.bool true)) H2)
 (loadV tab 26 v1 H2 fun v20 =>
 CallT Try.prog 11 [v20] H2 fun v21 H3 =>
 CallT Try.prog 16 [v21] H3 fun v22 H4 =>
 extractV v22 0 fun v23 =>
 extractV v22 1 fun v24 =>
 allocV tab 30 H4 fun v4 H5 =>
 storeV tab 30 v4 v23 H5 fun H6 =>
 loadV tab 26 v1 H6 fun v25 =>
 CallT Try.prog 11 [v25] H6 fun v26 H7 =>
 allocV tab 30 H7 fun v6 H8 =>
 storeV tab 30 v6 v26 H8 fun H9 =>
 loadV tab 30 v6 H9 fun v28 =>
 CallT Try.prog 17 [v28] H9 fun v29 H10 =>
 extractV v29 0 fun v30 =>
 extractV v29 1 fun v31 =>
 allocV tab 30 H10 fun v7 H11 =>
 storeV tab 30 v7 v30 H11 fun H12 =>
 loadV tab 30 v7 H12 fun v32 =>
 loadV tab 30 v4 H12 fun v33 =>
 CallT Try.prog 13 [v32, v33] H12 fun v34 H13 =>
 unV .not v34 fun v35 =>
 grdV v35 false (binV tab .neq 4 v31 v24 fun v39 =>
 condV v39 (K (AV.p (.bool false)) H13)
 (loadV tab 30 v6 H13 fun v41 =>
 loadV tab 26 v1 H13 fun v42 =>
 CallT Try.prog 11 [v42] H13 fun v43 H14 =>
 (loadV tab 30 v6 H14 fun v9041 =>
 v41 = v9041) ∧
 CallT Try.prog 13 [v41, v43] H14 fun v44 H15 =>
 unV .not v44 fun v45 =>
 condV v45 (K (AV.p (.bool false)) H15)
 (loadV tab 30 v6 H15 fun v46 =>
 CallT Try.prog 14 [v46, (AV.p (.int .i64 1))] H15 fun v48 H16 =>
 binV tab .lss 3 v48 (AV.p (.int .i64 0)) fun v50 =>
 grdV v50 false (loadV tab 30 v7 H16 fun v52 =>
 loadV tab 30 v4 H16 fun v53 =>
 CallT Try.prog 13 [v52, v53] H16 fun v54 H17 =>
 unV .not v54 fun v55 =>
 grdV v55 false (binV tab .neq 4 v31 v24 fun v60 =>
 condV v60 (K (AV.p (.bool false)) H17)
 (loadV tab 30 v7 H17 fun v62 =>
 CallT Try.prog 14 [v62, (AV.p (.int .i64 1))] H17 fun v64 H18 =>
 loadV tab 30 v7 H18 fun v65 =>
 CallT Try.prog 15 [v65, (AV.p (.int .i64 1))] H18 fun v67 H19 =>
 binV tab .lss 3 v67 (AV.p (.int .i64 0)) fun v69 =>
 condV v69 (K (AV.p (.bool false)) H19)
 (binV tab .neq 3 v67 v64 fun v72 =>
 condV v72 (K (AV.p (.bool false)) H19)
 (loadV tab 26 v1 H19 fun v74 =>
 CallT Try.prog 11 [v74] H19 fun v75 H20 =>
 CallT Try.prog 17 [v75] H20 fun v76 H21 =>
 extractV v76 0 fun v77 =>
 extractV v76 1 fun v78 =>
 allocV tab 30 H21 fun v12 H22 =>
 storeV tab 30 v12 v77 H22 fun H23 =>
 loadV tab 30 v12 H23 fun v79 =>
 loadV tab 30 v4 H23 fun v80 =>
 CallT Try.prog 13 [v79, v80] H23 fun v81 H24 =>
 unV .not v81 fun v82 =>
 grdV v82 false (binV tab .neq 4 v78 v24 fun v86 =>
 condV v86 (K (AV.p (.bool false)) H24)
 (loadV tab 30 v7 H24 fun v88 =>
 CallT Try.prog 15 [v88, (AV.p (.int .i64 1))] H24 fun v90 H25 =>
 binV tab .lss 3 v90 (AV.p (.int .i64 0)) fun v92 =>
 condV v92 (K (AV.p (.bool false)) H25)
 (binV tab .neq 3 v90 v64 fun v95 =>
 condV v95 (K (AV.p (.bool false)) H25)
 (K (AV.p (.bool true)) H25))))
 (K (AV.p (.bool false)) H24)))))
 (K (AV.p (.bool false)) H17))
 (K (AV.p (.bool false)) H16))))
 (K (AV.p (.bool false)) H13))
theorem W4_wp (v0 : AV) (H : Heap) (K : AV → Heap → Prop) : wpC Try.prog tab D4 (bodyOf Try.f4) (retF tab [.tmp 2] K) (nthA [v0]) H = W4 v0 H K := by kernel_rfl
theorem W4_ok {v0 : AV} {H : Heap} {K : AV → Heap → Prop} (h : W4 v0 H K) : CallT Try.prog 4 [v0] H K :=
  CallT.of_wp (D := D4) tab_ok mixed Try.func4 (c := bodyOf Try.f4) (by kernel_rfl) rfl (by kernel_rfl) (rs := #[.tmp 2]) rfl (by decide +kernel) (by kernel_rfl) (W4_wp v0 H K) h
theorem W4_hb : HasBody Try.prog 4 := ⟨_, bodyOf Try.f4, Try.func4, by kernel_rfl, rfl⟩
/-- loop.example/g00649/laws.szAuto -/
def D9 : Info := ⟨24, fun i => ([], []), fun i => ([], [])⟩
def W9 (v0 : AV) (v1 : AV) (H : Heap) (K : AV → Heap → Prop) : Prop :=
 boxV v0 H fun v2 H1 =>
 fieldAddrV tab 26 v2 1 fun v5 =>
 loadV tab 22 v5 H1 fun v6 =>
 CallT Try.prog 32 [v6, v1] H1 fun v8 H2 =>
 binV tab .lss 3 v8 (AV.p (.int .i64 0)) fun v10 =>
 condV v10 (K (AV.p (.int .i64 (-1))) H2)
 (fieldAddrV tab 26 v2 2 fun v11 =>
 loadV tab 23 v11 H2 fun v12 =>
 CallT Try.prog 33 [v12, v8] H2 fun v14 H3 =>
 binV tab .lss 3 v14 (AV.p (.int .i64 0)) fun v16 =>
 condV v16 (K (AV.p (.int .i64 (-1))) H3)
 (fieldAddrV tab 26 v2 3 fun v17 =>
 loadV tab 24 v17 H3 fun v18 =>
 CallT Try.prog 34 [v18, v14] H3 fun v20 H4 =>
 binV tab .lss 3 v20 (AV.p (.int .i64 0)) fun v22 =>
 condV v22 (K (AV.p (.int .i64 (-1))) H4)
 (K v20 H4)))
theorem W9_wp (v0 : AV) (v1 : AV) (H : Heap) (K : AV → Heap → Prop) : wpC Try.prog tab D9 (bodyOf Try.f9) (retF tab [.tmp 4] K) (nthA [v0, v1]) H = W9 v0 v1 H K := by kernel_rfl
theorem W9_ok {v0 v1 : AV} {H : Heap} {K : AV → Heap → Prop} (h : W9 v0 v1 H K) : CallT Try.prog 9 [v0, v1] H K :=
  CallT.of_wp (D := D9) tab_ok mixed Try.func9 (c := bodyOf Try.f9) (by kernel_rfl) rfl (by kernel_rfl) (rs := #[.tmp 4]) rfl (by decide +kernel) (by kernel_rfl) (W9_wp v0 v1 H K) h
theorem W9_hb : HasBody Try.prog 9 := ⟨_, bodyOf Try.f9, Try.func9, by kernel_rfl, rfl⟩
/-- loop.example/g00649/spec.EitherAuto -/
def D10 : Info := ⟨94, fun i => if i = 3 then ([[], [0], [], [2], [0, 1, 2, 3], [], [5], [], [7], [], [9], [5, 6, 7, 8, 9, 10], [], [], [13], [5, 6, 7, 8, 9, 10, 11, 12, 13, 14], [0, 1, 2, 3, 4, 5, 6, 7, 8, 9, 10, 11, 12, 13, 14, 15], [], [0, 1, 2, 3, 4, 5, 6, 7, 8, 9, 10, 11, 12, 13, 14, 15, 16, 17]], [(0, []), (1, []), (2, []), (3, []), (4, []), (5, []), (6, []), (7, []), (8, []), (9, []), (10, []), (13, []), (14, []), (11, [12, 1, 3, 14]), (12, [12]), (15, [1, 3]), (16, []), (17, []), (18, [])]) else if i = 12 then ([[], [0], [], [], [2, 3], [], [], [2, 3, 4, 5, 6], [], [8], [2, 3, 4, 5, 6, 7, 8, 9], [2, 3, 4, 5, 6, 7, 8, 9, 10], [0, 1, 2, 3, 4, 5, 6, 7, 8, 9, 10, 11], [0, 1, 2, 3, 4, 5, 6, 7, 8, 9, 10, 11, 12], [0, 1, 2, 3, 4, 5, 6, 7, 8, 9, 10, 11, 12, 13]], [(0, []), (1, []), (2, []), (3, []), (5, []), (6, []), (8, []), (9, []), (4, [1, 5, 9]), (7, [1, 9]), (10, [1]), (11, [1]), (12, []), (13, []), (14, [])]) else ([], []), fun i => if i = 5 then ([2, 3, 4, 6, 37, 38], [39]) else if i = 10 then ([2, 3, 4, 6], [9]) else ([], [])⟩
def L10_0 (K : AV → Heap → Prop) (v2 : AV) (v3 : AV) (v4 : AV) (v6 : AV) (v37 : AV) (v38 : AV) (v39 : AV) (H : Heap) : Prop := LoopV (wpC Try.prog tab D10 (cAt [1, 1, 1, 0, 1, 0, 0] (bodyOf Try.f10))) [2, 3, 4, 6, 37, 38] (PostF.block 0 (PostF.thenA (wpC Try.prog tab D10 (cAt [1, 1, 1, 1] (bodyOf Try.f10))) (retF tab [.cell 4 30, .tmp 5] K))) [39] [AV.any, AV.any, v2, v3, v4, AV.any, v6, AV.any, AV.any, AV.any, AV.any, AV.any, AV.any, AV.any, AV.any, AV.any, AV.any, AV.any, AV.any, AV.any, AV.any, AV.any, AV.any, AV.any, AV.any, AV.any, AV.any, AV.any, AV.any, AV.any, AV.any, AV.any, AV.any, AV.any, AV.any, AV.any, AV.any, v37, v38, v39, AV.any, AV.any, AV.any, AV.any, AV.any, AV.any, AV.any, AV.any, AV.any, AV.any, AV.any, AV.any, AV.any, AV.any, AV.any, AV.any, AV.any, AV.any, AV.any, AV.any, AV.any, AV.any, AV.any, AV.any, AV.any, AV.any, AV.any, AV.any, AV.any, AV.any, AV.any, AV.any, AV.any, AV.any, AV.any, AV.any, AV.any, AV.any, AV.any, AV.any, AV.any, AV.any, AV.any, AV.any, AV.any, AV.any, AV.any, AV.any, AV.any, AV.any, AV.any, AV.any, AV.any, AV.any] H
def L10_1 (K : AV → Heap → Prop) (v2 : AV) (v3 : AV) (v4 : AV) (v6 : AV) (v9 : AV) (H : Heap) : Prop := LoopV (wpC Try.prog tab D10 (cAt [1, 1, 1, 1, 0, 1, 0, 0] (bodyOf Try.f10))) [2, 3, 4, 6] (PostF.block 2 (PostF.thenA (wpC Try.prog tab D10 (cAt [1, 1, 1, 1, 1] (bodyOf Try.f10))) (retF tab [.cell 4 30, .tmp 5] K))) [9] [AV.any, AV.any, v2, v3, v4, AV.any, v6, AV.any, AV.any, v9, AV.any, AV.any, AV.any, AV.any, AV.any, AV.any, AV.any, AV.any, AV.any, AV.any, AV.any, AV.any, AV.any, AV.any, AV.any, AV.any, AV.any, AV.any, AV.any, AV.any, AV.any, AV.any, AV.any, AV.any, AV.any, AV.any, AV.any, AV.any, AV.any, AV.any, AV.any, AV.any, AV.any, AV.any, AV.any, AV.any, AV.any, AV.any, AV.any, AV.any, AV.any, AV.any, AV.any, AV.any, AV.any, AV.any, AV.any, AV.any, AV.any, AV.any, AV.any, AV.any, AV.any, AV.any, AV.any, AV.any, AV.any, AV.any, AV.any, AV.any, AV.any, AV.any, AV.any, AV.any, AV.any, AV.any, AV.any, AV.any, AV.any, AV.any, AV.any, AV.any, AV.any, AV.any, AV.any, AV.any, AV.any, AV.any, AV.any, AV.any, AV.any, AV.any, AV.any, AV.any] H
def J10_2 (K : AV → Heap → Prop) (N1 : AV → Heap → Prop) (v2 : AV) (v3 : AV) (v4 : AV) (v6 : AV) (v9 : AV) (H : Heap) : Prop :=
 fieldAddrV tab 30 v6 3 fun v76 =>
 loadV tab 24 v76 H fun v77 =>
 loadV tab 30 v2 H fun v78 =>
 loadV tab 30 v3 H fun v81 =>
 fieldAddrV tab 30 v2 0 fun v84 =>
 loadV tab 3 v84 H fun v85 =>
 CallT Try.prog 37 [v78, v9] H fun v80 H17 =>
 (loadV tab 24 v76 H17 fun v9077 =>
 v77 = v9077) ∧
 (loadV tab 30 v3 H17 fun v9081 =>
 v81 = v9081) ∧
 (loadV tab 3 v84 H17 fun v9085 =>
 v85 = v9085) ∧
 CallT Try.prog 37 [v81, v9] H17 fun v83 H18 =>
 (loadV tab 24 v76 H18 fun v9077 =>
 v77 = v9077) ∧
 (loadV tab 3 v84 H18 fun v9085 =>
 v85 = v9085) ∧
 CallT Try.prog 36 [v80, v83, v85] H18 fun v86 H19 =>
 (loadV tab 24 v76 H19 fun v9077 =>
 v77 = v9077) ∧
 buildSliceV tab 24 1 [(0, v86)] H19 (wkK fun v87 H20 =>
 (loadV tab 24 v76 H20 fun v9077 =>
 v77 = v9077) ∧
 appendV tab 24 24 v77 v87 H20 (wkK fun v88 H21 =>
 fieldAddrV tab 30 v6 3 fun v89 =>
 storeV tab 24 v89 v88 H21 fun H22 =>
 binV tab .add 3 v9 (AV.p (.int .i64 1)) fun v75 =>
 N1 v75 H22))
def B10_1 (K : AV → Heap → Prop) (N1 : AV → Heap → Prop) (v2 : AV) (v3 : AV) (v4 : AV) (v6 : AV) (v9 : AV) (H : Heap) : Prop :=
 fieldAddrV tab 30 v2 3 fun v63 =>
 loadV tab 24 v63 H fun v64 =>
 lenV tab 24 v64 fun v65 =>
 binV tab .lss 3 v9 v65 fun v66 =>
 grdV v66 false (fieldAddrV tab 30 v3 3 fun v69 =>
 loadV tab 24 v69 H fun v70 =>
 lenV tab 24 v70 fun v71 =>
 binV tab .lss 3 v9 v71 fun v72 =>
 condV v72 (J10_2 K N1 v2 v3 v4 v6 v9 H)
 (loadV tab 30 v6 H fun v90 =>
 CallT Try.prog 38 [v90] H fun v91 H23 =>
 extractV v91 0 fun v92 =>
 extractV v91 1 fun v93 =>
 storeV tab 30 v4 v92 H23 fun H24 =>
 loadV tab 30 v4 H24 fun r0 =>
 K (.tup [r0, v93]) H24))
 (J10_2 K N1 v2 v3 v4 v6 v9 H)
def B10_0 (K : AV → Heap → Prop) (N1 : AV → Heap → Prop) (v2 : AV) (v3 : AV) (v4 : AV) (v6 : AV) (v37 : AV) (v38 : AV) (v39 : AV) (H : Heap) : Prop :=
 binV tab .lss 3 v39 v38 fun v40 =>
 condV v40 (indexAddrV tab 28 v37 v39 fun v41 =>
 loadV tab 61 v41 H fun v42 =>
 allocV tab 61 H fun v8 H12 =>
 storeV tab 61 v8 v42 H12 fun H13 =>
 fieldAddrV tab 30 v6 2 fun v43 =>
 loadV tab 28 v43 H13 fun v44 =>
 fieldAddrV tab 61 v8 0 fun v45 =>
 loadV tab 3 v45 H13 fun v46 =>
 fieldAddrV tab 30 v2 0 fun v47 =>
 loadV tab 3 v47 H13 fun v48 =>
 binV tab .add 3 v46 v48 fun v49 =>
 fieldAddrV tab 61 v8 1 fun v50 =>
 loadV tab 3 v50 H13 fun v51 =>
 fieldAddrV tab 61 v8 2 fun v52 =>
 loadV tab 3 v52 H13 fun v53 =>
 fieldAddrV tab 30 v2 0 fun v54 =>
 loadV tab 3 v54 H13 fun v55 =>
 binV tab .add 3 v53 v55 fun v56 =>
 buildV tab 61 [(0, v49), (1, v51), (2, v56)] fun v57 =>
 buildSliceV tab 28 1 [(0, v57)] H13 (wkK fun v58 H14 =>
 appendV tab 28 28 v44 v58 H14 (wkK fun v59 H15 =>
 fieldAddrV tab 30 v6 2 fun v60 =>
 storeV tab 28 v60 v59 H15 fun H16 =>
 binV tab .add 3 v39 (AV.p (.int .i64 1)) fun v61 =>
 N1 v61 H16)))
 (L10_1 K v2 v3 v4 v6 (AV.p (.int .i64 0)) H)
def W10 (v0 : AV) (v1 : AV) (H : Heap) (K : AV → Heap → Prop) : Prop :=
 boxV v0 H fun v2 H1 =>
 boxV v1 H1 fun v3 H2 =>
 allocV tab 30 H2 fun v4 H3 =>
 loadV tab 30 v2 H3 fun v10 =>
 CallT Try.prog 35 [v10] H3 fun v11 H4 =>
 unV .not v11 fun v12 =>
 grdV v12 false (loadV tab 30 v3 H4 fun v14 =>
 CallT Try.prog 35 [v14] H4 fun v15 H5 =>
 unV .not v15 fun v16 =>
 condV v16 (buildV tab 30 [] fun v18 =>
 storeV tab 30 v4 v18 H5 fun H6 =>
 loadV tab 30 v4 H6 fun r0 =>
 K (.tup [r0, (AV.p (.bool false))]) H6)
 (fieldAddrV tab 30 v2 0 fun v19 =>
 loadV tab 3 v19 H5 fun v20 =>
 fieldAddrV tab 30 v3 0 fun v21 =>
 loadV tab 3 v21 H5 fun v22 =>
 binV tab .add 3 v20 v22 fun v23 =>
 fieldAddrV tab 30 v2 1 fun v24 =>
 loadV tab 22 v24 H5 fun v25 =>
 fieldAddrV tab 30 v3 1 fun v26 =>
 loadV tab 22 v26 H5 fun v27 =>
 fieldAddrV tab 30 v2 0 fun v28 =>
 loadV tab 3 v28 H5 fun v29 =>
 fieldAddrV tab 30 v2 2 fun v32 =>
 loadV tab 28 v32 H5 fun v33 =>
 safeV (buildN tab 28 0 []) ∧
 CallT Try.prog 36 [v25, v27, v29] H5 fun v30 H7 =>
 (loadV tab 3 v19 H7 fun v9020 =>
 v20 = v9020) ∧
 (loadV tab 3 v21 H7 fun v9022 =>
 v22 = v9022) ∧
 (loadV tab 28 v32 H7 fun v9033 =>
 v33 = v9033) ∧
 newV (buildN tab 28 0 []) H7 fun v31 H8 =>
 appendV tab 28 28 v31 v33 H8 (wkK fun v34 H9 =>
 (loadV tab 3 v19 H9 fun v9020 =>
 v20 = v9020) ∧
 (loadV tab 3 v21 H9 fun v9022 =>
 v22 = v9022) ∧
 buildV tab 30 [(0, v23), (1, v30), (2, v34)] fun v35 =>
 allocV tab 30 H9 fun v6 H10 =>
 storeV tab 30 v6 v35 H10 fun H11 =>
 fieldAddrV tab 30 v3 2 fun v36 =>
 loadV tab 28 v36 H11 fun v37 =>
 lenV tab 28 v37 fun v38 =>
 L10_0 K v2 v3 v4 v6 v37 v38 (AV.p (.int .i64 0)) H11)))
 (buildV tab 30 [] fun v18 =>
 storeV tab 30 v4 v18 H4 fun H25 =>
 loadV tab 30 v4 H25 fun r0 =>
 K (.tup [r0, (AV.p (.bool false))]) H25)
theorem W10_wp (v0 : AV) (v1 : AV) (H : Heap) (K : AV → Heap → Prop) : wpC Try.prog tab D10 (bodyOf Try.f10) (retF tab [.cell 4 30, .tmp 5] K) (nthA [v0, v1]) H = W10 v0 v1 H K := by kernel_rfl
theorem W10_ok {v0 v1 : AV} {H : Heap} {K : AV → Heap → Prop} (h : W10 v0 v1 H K) : CallT Try.prog 10 [v0, v1] H K :=
  CallT.of_wp (D := D10) tab_ok mixed Try.func10 (c := bodyOf Try.f10) (by kernel_rfl) rfl (by kernel_rfl) (rs := #[.cell 4 30, .tmp 5]) rfl (by decide +kernel) (by kernel_rfl) (W10_wp v0 v1 H K) h
theorem W10_hb : HasBody Try.prog 10 := ⟨_, bodyOf Try.f10, Try.func10, by kernel_rfl, rfl⟩
theorem L10_1_rule {K : AV → Heap → Prop} {v2 v3 v4 v6 v9 : AV} {H : Heap} {σ : Type} (s0 : σ) (f9 : σ → AV) (TH : σ → Heap) (pre : σ → Prop) (μ : σ → Nat)
    (h0 : pre s0 ∧ AV.wk v9 (f9 s0) ∧ Heap.le (TH s0) H)
    (round : ∀ s, pre s → B10_1 K (fun w9 H' => ∃ s', pre s' ∧ μ s' < μ s ∧ AV.wk w9 (f9 s') ∧ Heap.le (TH s') H') v2 v3 v4 v6 (f9 s) (TH s)) :
    L10_1 K v2 v3 v4 v6 v9 H := by
  unfold L10_1
  exact LoopV.mk s0 (fun s => [f9 s]) TH pre μ (fun _ => rfl) (Eq.mp (by kernel_rfl) h0) (fun s hs => Eq.mp (by kernel_rfl) (round s hs))
theorem L10_1_ruleG {K : AV → Heap → Prop} {v2 v3 v4 v6 v9 : AV} {H : Heap} {σ : Type} (s0 : σ) (f9 : σ → AV) (TH : σ → Heap) (pre : σ → Prop) (μ : σ → Nat)
    (h0 : pre s0 ∧ AV.wk v9 (f9 s0) ∧ Heap.le (TH s0) H)
    (round : ∀ s, pre s → ∀ q, TH s q = none → B10_1 K (fun w9 H' => ∃ s', pre s' ∧ μ s' < μ s ∧ AV.wk w9 (f9 s') ∧ Heap.le (TH s') H') v2 v3 v4 v6 (f9 s) ((TH s).set q [])) :
    L10_1 K v2 v3 v4 v6 v9 H := by
  unfold L10_1
  exact LoopV.mkG s0 (fun s => [f9 s]) TH pre μ (fun _ => rfl) (Eq.mp (by kernel_rfl) h0) (fun s hs q hq => Eq.mp (by kernel_rfl) (round s hs q hq))
theorem L10_0_rule {K : AV → Heap → Prop} {v2 v3 v4 v6 v37 v38 v39 : AV} {H : Heap} {σ : Type} (s0 : σ) (f39 : σ → AV) (TH : σ → Heap) (pre : σ → Prop) (μ : σ → Nat)
    (h0 : pre s0 ∧ AV.wk v39 (f39 s0) ∧ Heap.le (TH s0) H)
    (round : ∀ s, pre s → B10_0 K (fun w39 H' => ∃ s', pre s' ∧ μ s' < μ s ∧ AV.wk w39 (f39 s') ∧ Heap.le (TH s') H') v2 v3 v4 v6 v37 v38 (f39 s) (TH s)) :
    L10_0 K v2 v3 v4 v6 v37 v38 v39 H := by
  unfold L10_0
  exact LoopV.mk s0 (fun s => [f39 s]) TH pre μ (fun _ => rfl) (Eq.mp (by kernel_rfl) h0) (fun s hs => Eq.mp (by kernel_rfl) (round s hs))
theorem L10_0_ruleG {K : AV → Heap → Prop} {v2 v3 v4 v6 v37 v38 v39 : AV} {H : Heap} {σ : Type} (s0 : σ) (f39 : σ → AV) (TH : σ → Heap) (pre : σ → Prop) (μ : σ → Nat)
    (h0 : pre s0 ∧ AV.wk v39 (f39 s0) ∧ Heap.le (TH s0) H)
    (round : ∀ s, pre s → ∀ q, TH s q = none → B10_0 K (fun w39 H' => ∃ s', pre s' ∧ μ s' < μ s ∧ AV.wk w39 (f39 s') ∧ Heap.le (TH s') H') v2 v3 v4 v6 v37 v38 (f39 s) ((TH s).set q [])) :
    L10_0 K v2 v3 v4 v6 v37 v38 v39 H := by
  unfold L10_0
  exact LoopV.mkG s0 (fun s => [f39 s]) TH pre μ (fun _ => rfl) (Eq.mp (by kernel_rfl) h0) (fun s hs q hq => Eq.mp (by kernel_rfl) (round s hs q hq))
/-- loop.example/g00649/laws.toAuto -/
def D11 : Info := ⟨20, fun i => ([], []), fun i => ([], [])⟩
def W11 (v0 : AV) (H : Heap) (K : AV → Heap → Prop) : Prop :=
 boxV v0 H fun v1 H1 =>
 allocV tab 30 H1 fun v2 H2 =>
 allocV tab 30 H2 fun v3 H3 =>
 fieldAddrV tab 26 v1 0 fun v4 =>
 loadV tab 3 v4 H3 fun v5 =>
 fieldAddrV tab 30 v3 0 fun v6 =>
 storeV tab 3 v6 v5 H3 fun H4 =>
 fieldAddrV tab 26 v1 1 fun v7 =>
 loadV tab 22 v7 H4 fun v8 =>
 CallT Try.prog 39 [v8] H4 fun v9 H5 =>
 fieldAddrV tab 30 v3 1 fun v10 =>
 storeV tab 22 v10 v9 H5 fun H6 =>
 fieldAddrV tab 26 v1 2 fun v11 =>
 loadV tab 23 v11 H6 fun v12 =>
 CallT Try.prog 40 [v12] H6 fun v13 H7 =>
 fieldAddrV tab 30 v3 2 fun v14 =>
 storeV tab 28 v14 v13 H7 fun H8 =>
 fieldAddrV tab 26 v1 3 fun v15 =>
 loadV tab 24 v15 H8 fun v16 =>
 CallT Try.prog 41 [v16] H8 fun v17 H9 =>
 fieldAddrV tab 30 v3 3 fun v18 =>
 storeV tab 24 v18 v17 H9 fun H10 =>
 loadV tab 30 v3 H10 fun v19 =>
 storeV tab 30 v2 v19 H10 fun H11 =>
 loadV tab 30 v2 H11 fun r0 =>
 K r0 H11
theorem W11_wp (v0 : AV) (H : Heap) (K : AV → Heap → Prop) : wpC Try.prog tab D11 (bodyOf Try.f11) (retF tab [.cell 2 30] K) (nthA [v0]) H = W11 v0 H K := by kernel_rfl
theorem W11_ok {v0 : AV} {H : Heap} {K : AV → Heap → Prop} (h : W11 v0 H K) : CallT Try.prog 11 [v0] H K :=
  CallT.of_wp (D := D11) tab_ok mixed Try.func11 (c := bodyOf Try.f11) (by kernel_rfl) rfl (by kernel_rfl) (rs := #[.cell 2 30]) rfl (by decide +kernel) (by kernel_rfl) (W11_wp v0 H K) h
theorem W11_hb : HasBody Try.prog 11 := ⟨_, bodyOf Try.f11, Try.func11, by kernel_rfl, rfl⟩
/-- loop.example/g00649/impl.EitherAuto -/
def D12 : Info := ⟨94, fun i => if i = 3 then ([[], [0], [], [2], [0, 1, 2, 3], [], [5], [], [7], [], [9], [7, 8, 9, 10], [5, 6, 7, 8, 9, 10, 11], [5, 6, 7, 8, 9, 10, 11, 12], [], [14], [5, 6, 7, 8, 9, 10, 11, 12, 13, 14, 15], [0, 1, 2, 3, 4, 5, 6, 7, 8, 9, 10, 11, 12, 13, 14, 15, 16], [], [0, 1, 2, 3, 4, 5, 6, 7, 8, 9, 10, 11, 12, 13, 14, 15, 16, 17, 18]], [(0, []), (1, []), (2, []), (3, []), (4, []), (5, []), (6, []), (7, []), (8, []), (9, []), (10, []), (14, []), (15, []), (11, [1, 3, 6, 15]), (12, [1, 3, 15]), (13, [1, 3, 15]), (16, [1, 3]), (17, []), (18, []), (19, [])]) else if i = 12 then ([[], [0], [], [], [2, 3], [], [], [2, 3, 4, 5, 6], [], [8], [2, 3, 4, 5, 6, 7, 8, 9], [2, 3, 4, 5, 6, 7, 8, 9, 10], [2, 3, 4, 5, 6, 7, 8, 9, 10, 11], [2, 3, 4, 5, 6, 7, 8, 9, 10, 11, 12], [0, 1, 2, 3, 4, 5, 6, 7, 8, 9, 10, 11, 12, 13], [0, 1, 2, 3, 4, 5, 6, 7, 8, 9, 10, 11, 12, 13, 14], [0, 1, 2, 3, 4, 5, 6, 7, 8, 9, 10, 11, 12, 13, 14, 15]], [(0, []), (1, []), (2, []), (3, []), (5, []), (6, []), (8, []), (9, []), (4, [1, 5, 9]), (7, [1, 9]), (10, [1]), (11, [1]), (12, [1]), (13, [1]), (14, []), (15, []), (16, [])]) else ([], []), fun i => if i = 5 then ([2, 3, 4, 6, 38, 39], [40]) else if i = 10 then ([2, 3, 4, 6, 69], [70]) else ([], [])⟩
def L12_0 (K : AV → Heap → Prop) (v2 : AV) (v3 : AV) (v4 : AV) (v6 : AV) (v38 : AV) (v39 : AV) (v40 : AV) (H : Heap) : Prop := LoopV (wpC Try.prog tab D12 (cAt [1, 1, 1, 0, 1, 0, 0] (bodyOf Try.f12))) [2, 3, 4, 6, 38, 39] (PostF.block 0 (PostF.thenA (wpC Try.prog tab D12 (cAt [1, 1, 1, 1] (bodyOf Try.f12))) (retF tab [.cell 4 30, .tmp 5] K))) [40] [AV.any, AV.any, v2, v3, v4, AV.any, v6, AV.any, AV.any, AV.any, AV.any, AV.any, AV.any, AV.any, AV.any, AV.any, AV.any, AV.any, AV.any, AV.any, AV.any, AV.any, AV.any, AV.any, AV.any, AV.any, AV.any, AV.any, AV.any, AV.any, AV.any, AV.any, AV.any, AV.any, AV.any, AV.any, AV.any, AV.any, v38, v39, v40, AV.any, AV.any, AV.any, AV.any, AV.any, AV.any, AV.any, AV.any, AV.any, AV.any, AV.any, AV.any, AV.any, AV.any, AV.any, AV.any, AV.any, AV.any, AV.any, AV.any, AV.any, AV.any, AV.any, AV.any, AV.any, AV.any, AV.any, AV.any, AV.any, AV.any, AV.any, AV.any, AV.any, AV.any, AV.any, AV.any, AV.any, AV.any, AV.any, AV.any, AV.any, AV.any, AV.any, AV.any, AV.any, AV.any, AV.any, AV.any, AV.any, AV.any, AV.any, AV.any, AV.any] H
def L12_1 (K : AV → Heap → Prop) (v2 : AV) (v3 : AV) (v4 : AV) (v6 : AV) (v69 : AV) (v70 : AV) (H : Heap) : Prop := LoopV (wpC Try.prog tab D12 (cAt [1, 1, 1, 1, 0, 1, 0, 0] (bodyOf Try.f12))) [2, 3, 4, 6, 69] (PostF.block 2 (PostF.thenA (wpC Try.prog tab D12 (cAt [1, 1, 1, 1, 1] (bodyOf Try.f12))) (retF tab [.cell 4 30, .tmp 5] K))) [70] [AV.any, AV.any, v2, v3, v4, AV.any, v6, AV.any, AV.any, AV.any, AV.any, AV.any, AV.any, AV.any, AV.any, AV.any, AV.any, AV.any, AV.any, AV.any, AV.any, AV.any, AV.any, AV.any, AV.any, AV.any, AV.any, AV.any, AV.any, AV.any, AV.any, AV.any, AV.any, AV.any, AV.any, AV.any, AV.any, AV.any, AV.any, AV.any, AV.any, AV.any, AV.any, AV.any, AV.any, AV.any, AV.any, AV.any, AV.any, AV.any, AV.any, AV.any, AV.any, AV.any, AV.any, AV.any, AV.any, AV.any, AV.any, AV.any, AV.any, AV.any, AV.any, AV.any, AV.any, AV.any, AV.any, AV.any, AV.any, v69, v70, AV.any, AV.any, AV.any, AV.any, AV.any, AV.any, AV.any, AV.any, AV.any, AV.any, AV.any, AV.any, AV.any, AV.any, AV.any, AV.any, AV.any, AV.any, AV.any, AV.any, AV.any, AV.any, AV.any] H
def B12_1 (K : AV → Heap → Prop) (N1 : AV → Heap → Prop) (v2 : AV) (v3 : AV) (v4 : AV) (v6 : AV) (v69 : AV) (v70 : AV) (H : Heap) : Prop :=
 binV tab .lss 3 v70 v69 fun v71 =>
 condV v71 (fieldAddrV tab 30 v6 3 fun v73 =>
 loadV tab 24 v73 H fun v74 =>
 loadV tab 30 v2 H fun v75 =>
 loadV tab 30 v3 H fun v78 =>
 fieldAddrV tab 30 v2 0 fun v81 =>
 loadV tab 3 v81 H fun v82 =>
 CallT Try.prog 46 [v75, v70] H fun v77 H18 =>
 (loadV tab 24 v73 H18 fun v9074 =>
 v74 = v9074) ∧
 (loadV tab 30 v3 H18 fun v9078 =>
 v78 = v9078) ∧
 (loadV tab 3 v81 H18 fun v9082 =>
 v82 = v9082) ∧
 CallT Try.prog 46 [v78, v70] H18 fun v80 H19 =>
 (loadV tab 24 v73 H19 fun v9074 =>
 v74 = v9074) ∧
 (loadV tab 3 v81 H19 fun v9082 =>
 v82 = v9082) ∧
 CallT Try.prog 44 [v80, v82] H19 fun v83 H20 =>
 (loadV tab 24 v73 H20 fun v9074 =>
 v74 = v9074) ∧
 buildSliceV tab 24 2 [(0, v77), (1, v83)] H20 (wkK fun v84 H21 =>
 (loadV tab 24 v73 H21 fun v9074 =>
 v74 = v9074) ∧
 CallT Try.prog 43 [v84] H21 fun v85 H22 =>
 (loadV tab 24 v73 H22 fun v9074 =>
 v74 = v9074) ∧
 buildSliceV tab 24 1 [(0, v85)] H22 (wkK fun v86 H23 =>
 (loadV tab 24 v73 H23 fun v9074 =>
 v74 = v9074) ∧
 appendV tab 24 24 v74 v86 H23 (wkK fun v87 H24 =>
 fieldAddrV tab 30 v6 3 fun v88 =>
 storeV tab 24 v88 v87 H24 fun H25 =>
 binV tab .add 3 v70 (AV.p (.int .i64 1)) fun v89 =>
 N1 v89 H25))))
 (loadV tab 30 v6 H fun v90 =>
 CallT Try.prog 47 [v90] H fun v91 H26 =>
 extractV v91 0 fun v92 =>
 extractV v91 1 fun v93 =>
 storeV tab 30 v4 v92 H26 fun H27 =>
 loadV tab 30 v4 H27 fun r0 =>
 K (.tup [r0, v93]) H27)
def B12_0 (K : AV → Heap → Prop) (N1 : AV → Heap → Prop) (v2 : AV) (v3 : AV) (v4 : AV) (v6 : AV) (v38 : AV) (v39 : AV) (v40 : AV) (H : Heap) : Prop :=
 binV tab .lss 3 v40 v39 fun v41 =>
 condV v41 (indexAddrV tab 28 v38 v40 fun v42 =>
 loadV tab 61 v42 H fun v43 =>
 allocV tab 61 H fun v8 H13 =>
 storeV tab 61 v8 v43 H13 fun H14 =>
 fieldAddrV tab 30 v6 2 fun v44 =>
 loadV tab 28 v44 H14 fun v45 =>
 fieldAddrV tab 61 v8 0 fun v46 =>
 loadV tab 3 v46 H14 fun v47 =>
 fieldAddrV tab 30 v2 0 fun v48 =>
 loadV tab 3 v48 H14 fun v49 =>
 binV tab .add 3 v47 v49 fun v50 =>
 fieldAddrV tab 61 v8 1 fun v51 =>
 loadV tab 3 v51 H14 fun v52 =>
 fieldAddrV tab 61 v8 2 fun v53 =>
 loadV tab 3 v53 H14 fun v54 =>
 fieldAddrV tab 30 v2 0 fun v55 =>
 loadV tab 3 v55 H14 fun v56 =>
 binV tab .add 3 v54 v56 fun v57 =>
 buildV tab 61 [(0, v50), (1, v52), (2, v57)] fun v58 =>
 buildSliceV tab 28 1 [(0, v58)] H14 (wkK fun v59 H15 =>
 appendV tab 28 28 v45 v59 H15 (wkK fun v60 H16 =>
 fieldAddrV tab 30 v6 2 fun v61 =>
 storeV tab 28 v61 v60 H16 fun H17 =>
 binV tab .add 3 v40 (AV.p (.int .i64 1)) fun v62 =>
 N1 v62 H17)))
 (fieldAddrV tab 30 v2 3 fun v63 =>
 loadV tab 24 v63 H fun v64 =>
 lenV tab 24 v64 fun v65 =>
 fieldAddrV tab 30 v3 3 fun v66 =>
 loadV tab 24 v66 H fun v67 =>
 lenV tab 24 v67 fun v68 =>
 mmV .max v65 v68 fun v69 =>
 L12_1 K v2 v3 v4 v6 v69 (AV.p (.int .i64 0)) H)
def W12 (v0 : AV) (v1 : AV) (H : Heap) (K : AV → Heap → Prop) : Prop :=
 boxV v0 H fun v2 H1 =>
 boxV v1 H1 fun v3 H2 =>
 allocV tab 30 H2 fun v4 H3 =>
 loadV tab 30 v2 H3 fun v10 =>
 CallT Try.prog 42 [v10] H3 fun v11 H4 =>
 unV .not v11 fun v12 =>
 grdV v12 false (loadV tab 30 v3 H4 fun v14 =>
 CallT Try.prog 42 [v14] H4 fun v15 H5 =>
 unV .not v15 fun v16 =>
 condV v16 (buildV tab 30 [] fun v18 =>
 storeV tab 30 v4 v18 H5 fun H6 =>
 loadV tab 30 v4 H6 fun r0 =>
 K (.tup [r0, (AV.p (.bool false))]) H6)
 (fieldAddrV tab 30 v2 0 fun v19 =>
 loadV tab 3 v19 H5 fun v20 =>
 fieldAddrV tab 30 v3 0 fun v21 =>
 loadV tab 3 v21 H5 fun v22 =>
 binV tab .add 3 v20 v22 fun v23 =>
 fieldAddrV tab 30 v2 1 fun v24 =>
 loadV tab 22 v24 H5 fun v25 =>
 fieldAddrV tab 30 v3 1 fun v26 =>
 loadV tab 22 v26 H5 fun v27 =>
 fieldAddrV tab 30 v2 0 fun v28 =>
 loadV tab 3 v28 H5 fun v29 =>
 fieldAddrV tab 30 v2 2 fun v33 =>
 loadV tab 28 v33 H5 fun v34 =>
 CallT Try.prog 44 [v27, v29] H5 fun v30 H7 =>
 (loadV tab 3 v19 H7 fun v9020 =>
 v20 = v9020) ∧
 (loadV tab 3 v21 H7 fun v9022 =>
 v22 = v9022) ∧
 (loadV tab 22 v24 H7 fun v9025 =>
 v25 = v9025) ∧
 (loadV tab 28 v33 H7 fun v9034 =>
 v34 = v9034) ∧
 buildSliceV tab 24 2 [(0, v25), (1, v30)] H7 (wkK fun v31 H8 =>
 (loadV tab 3 v19 H8 fun v9020 =>
 v20 = v9020) ∧
 (loadV tab 3 v21 H8 fun v9022 =>
 v22 = v9022) ∧
 (loadV tab 28 v33 H8 fun v9034 =>
 v34 = v9034) ∧
 CallT Try.prog 43 [v31] H8 fun v32 H9 =>
 (loadV tab 3 v19 H9 fun v9020 =>
 v20 = v9020) ∧
 (loadV tab 3 v21 H9 fun v9022 =>
 v22 = v9022) ∧
 (loadV tab 28 v33 H9 fun v9034 =>
 v34 = v9034) ∧
 CallT Try.prog 45 [v34] H9 fun v35 H10 =>
 (loadV tab 3 v19 H10 fun v9020 =>
 v20 = v9020) ∧
 (loadV tab 3 v21 H10 fun v9022 =>
 v22 = v9022) ∧
 buildV tab 30 [(0, v23), (1, v32), (2, v35)] fun v36 =>
 allocV tab 30 H10 fun v6 H11 =>
 storeV tab 30 v6 v36 H11 fun H12 =>
 fieldAddrV tab 30 v3 2 fun v37 =>
 loadV tab 28 v37 H12 fun v38 =>
 lenV tab 28 v38 fun v39 =>
 L12_0 K v2 v3 v4 v6 v38 v39 (AV.p (.int .i64 0)) H12)))
 (buildV tab 30 [] fun v18 =>
 storeV tab 30 v4 v18 H4 fun H28 =>
 loadV tab 30 v4 H28 fun r0 =>
 K (.tup [r0, (AV.p (.bool false))]) H28)
theorem W12_wp (v0 : AV) (v1 : AV) (H : Heap) (K : AV → Heap → Prop) : wpC Try.prog tab D12 (bodyOf Try.f12) (retF tab [.cell 4 30, .tmp 5] K) (nthA [v0, v1]) H = W12 v0 v1 H K := by kernel_rfl
theorem W12_ok {v0 v1 : AV} {H : Heap} {K : AV → Heap → Prop} (h : W12 v0 v1 H K) : CallT Try.prog 12 [v0, v1] H K :=
  CallT.of_wp (D := D12) tab_ok mixed Try.func12 (c := bodyOf Try.f12) (by kernel_rfl) rfl (by kernel_rfl) (rs := #[.cell 4 30, .tmp 5]) rfl (by decide +kernel) (by kernel_rfl) (W12_wp v0 v1 H K) h
theorem W12_hb : HasBody Try.prog 12 := ⟨_, bodyOf Try.f12, Try.func12, by kernel_rfl, rfl⟩
theorem L12_1_rule {K : AV → Heap → Prop} {v2 v3 v4 v6 v69 v70 : AV} {H : Heap} {σ : Type} (s0 : σ) (f70 : σ → AV) (TH : σ → Heap) (pre : σ → Prop) (μ : σ → Nat)
    (h0 : pre s0 ∧ AV.wk v70 (f70 s0) ∧ Heap.le (TH s0) H)
    (round : ∀ s, pre s → B12_1 K (fun w70 H' => ∃ s', pre s' ∧ μ s' < μ s ∧ AV.wk w70 (f70 s') ∧ Heap.le (TH s') H') v2 v3 v4 v6 v69 (f70 s) (TH s)) :
    L12_1 K v2 v3 v4 v6 v69 v70 H := by
  unfold L12_1
  exact LoopV.mk s0 (fun s => [f70 s]) TH pre μ (fun _ => rfl) (Eq.mp (by kernel_rfl) h0) (fun s hs => Eq.mp (by kernel_rfl) (round s hs))
theorem L12_1_ruleG {K : AV → Heap → Prop} {v2 v3 v4 v6 v69 v70 : AV} {H : Heap} {σ : Type} (s0 : σ) (f70 : σ → AV) (TH : σ → Heap) (pre : σ → Prop) (μ : σ → Nat)
    (h0 : pre s0 ∧ AV.wk v70 (f70 s0) ∧ Heap.le (TH s0) H)
    (round : ∀ s, pre s → ∀ q, TH s q = none → B12_1 K (fun w70 H' => ∃ s', pre s' ∧ μ s' < μ s ∧ AV.wk w70 (f70 s') ∧ Heap.le (TH s') H') v2 v3 v4 v6 v69 (f70 s) ((TH s).set q [])) :
    L12_1 K v2 v3 v4 v6 v69 v70 H := by
  unfold L12_1
  exact LoopV.mkG s0 (fun s => [f70 s]) TH pre μ (fun _ => rfl) (Eq.mp (by kernel_rfl) h0) (fun s hs q hq => Eq.mp (by kernel_rfl) (round s hs q hq))
theorem L12_0_rule {K : AV → Heap → Prop} {v2 v3 v4 v6 v38 v39 v40 : AV} {H : Heap} {σ : Type} (s0 : σ) (f40 : σ → AV) (TH : σ → Heap) (pre : σ → Prop) (μ : σ → Nat)
    (h0 : pre s0 ∧ AV.wk v40 (f40 s0) ∧ Heap.le (TH s0) H)
    (round : ∀ s, pre s → B12_0 K (fun w40 H' => ∃ s', pre s' ∧ μ s' < μ s ∧ AV.wk w40 (f40 s') ∧ Heap.le (TH s') H') v2 v3 v4 v6 v38 v39 (f40 s) (TH s)) :
    L12_0 K v2 v3 v4 v6 v38 v39 v40 H := by
  unfold L12_0
  exact LoopV.mk s0 (fun s => [f40 s]) TH pre μ (fun _ => rfl) (Eq.mp (by kernel_rfl) h0) (fun s hs => Eq.mp (by kernel_rfl) (round s hs))
theorem L12_0_ruleG {K : AV → Heap → Prop} {v2 v3 v4 v6 v38 v39 v40 : AV} {H : Heap} {σ : Type} (s0 : σ) (f40 : σ → AV) (TH : σ → Heap) (pre : σ → Prop) (μ : σ → Nat)
    (h0 : pre s0 ∧ AV.wk v40 (f40 s0) ∧ Heap.le (TH s0) H)
    (round : ∀ s, pre s → ∀ q, TH s q = none → B12_0 K (fun w40 H' => ∃ s', pre s' ∧ μ s' < μ s ∧ AV.wk w40 (f40 s') ∧ Heap.le (TH s') H') v2 v3 v4 v6 v38 v39 (f40 s) ((TH s).set q [])) :
    L12_0 K v2 v3 v4 v6 v38 v39 v40 H := by
  unfold L12_0
  exact LoopV.mkG s0 (fun s => [f40 s]) TH pre μ (fun _ => rfl) (Eq.mp (by kernel_rfl) h0) (fun s hs q hq => Eq.mp (by kernel_rfl) (round s hs q hq))
/-- loop.example/g00649/laws.eqAuto -/
def D13 : Info := ⟨28, fun i => ([], []), fun i => ([], [])⟩
def W13 (v0 : AV) (v1 : AV) (H : Heap) (K : AV → Heap → Prop) : Prop :=
 boxV v0 H fun v2 H1 =>
 boxV v1 H1 fun v3 H2 =>
 fieldAddrV tab 30 v2 0 fun v5 =>
 loadV tab 3 v5 H2 fun v6 =>
 fieldAddrV tab 30 v3 0 fun v7 =>
 loadV tab 3 v7 H2 fun v8 =>
 binV tab .neq 3 v6 v8 fun v9 =>
 condV v9 (K (AV.p (.bool false)) H2)
 (fieldAddrV tab 30 v2 1 fun v10 =>
 loadV tab 22 v10 H2 fun v11 =>
 fieldAddrV tab 30 v3 1 fun v12 =>
 loadV tab 22 v12 H2 fun v13 =>
 CallT Try.prog 48 [v11, v13] H2 fun v14 H3 =>
 unV .not v14 fun v15 =>
 condV v15 (K (AV.p (.bool false)) H3)
 (fieldAddrV tab 30 v2 2 fun v16 =>
 loadV tab 28 v16 H3 fun v17 =>
 fieldAddrV tab 30 v3 2 fun v18 =>
 loadV tab 28 v18 H3 fun v19 =>
 CallT Try.prog 49 [v17, v19] H3 fun v20 H4 =>
 unV .not v20 fun v21 =>
 condV v21 (K (AV.p (.bool false)) H4)
 (fieldAddrV tab 30 v2 3 fun v22 =>
 loadV tab 24 v22 H4 fun v23 =>
 fieldAddrV tab 30 v3 3 fun v24 =>
 loadV tab 24 v24 H4 fun v25 =>
 CallT Try.prog 50 [v23, v25] H4 fun v26 H5 =>
 unV .not v26 fun v27 =>
 condV v27 (K (AV.p (.bool false)) H5)
 (K (AV.p (.bool true)) H5))))
theorem W13_wp (v0 : AV) (v1 : AV) (H : Heap) (K : AV → Heap → Prop) : wpC Try.prog tab D13 (bodyOf Try.f13) (retF tab [.tmp 4] K) (nthA [v0, v1]) H = W13 v0 v1 H K := by kernel_rfl
theorem W13_ok {v0 v1 : AV} {H : Heap} {K : AV → Heap → Prop} (h : W13 v0 v1 H K) : CallT Try.prog 13 [v0, v1] H K :=
  CallT.of_wp (D := D13) tab_ok mixed Try.func13 (c := bodyOf Try.f13) (by kernel_rfl) rfl (by kernel_rfl) (rs := #[.tmp 4]) rfl (by decide +kernel) (by kernel_rfl) (W13_wp v0 v1 H K) h
theorem W13_hb : HasBody Try.prog 13 := ⟨_, bodyOf Try.f13, Try.func13, by kernel_rfl, rfl⟩
/-- loop.example/g00649/laws.markAuto -/
def D14 : Info := ⟨18, fun i => ([], []), fun i => ([], [])⟩
def W14 (v0 : AV) (v1 : AV) (H : Heap) (K : AV → Heap → Prop) : Prop :=
 boxV v0 H fun v2 H1 =>
 fieldAddrV tab 30 v2 1 fun v5 =>
 loadV tab 22 v5 H1 fun v6 =>
 CallT Try.prog 51 [v6, v1] H1 fun v8 H2 =>
 fieldAddrV tab 30 v2 2 fun v9 =>
 loadV tab 28 v9 H2 fun v10 =>
 CallT Try.prog 52 [v10, v8] H2 fun v12 H3 =>
 fieldAddrV tab 30 v2 3 fun v13 =>
 loadV tab 24 v13 H3 fun v14 =>
 CallT Try.prog 53 [v14, v12] H3 fun v16 H4 =>
 K v16 H4
theorem W14_wp (v0 : AV) (v1 : AV) (H : Heap) (K : AV → Heap → Prop) : wpC Try.prog tab D14 (bodyOf Try.f14) (retF tab [.tmp 4] K) (nthA [v0, v1]) H = W14 v0 v1 H K := by kernel_rfl
theorem W14_ok {v0 v1 : AV} {H : Heap} {K : AV → Heap → Prop} (h : W14 v0 v1 H K) : CallT Try.prog 14 [v0, v1] H K :=
  CallT.of_wp (D := D14) tab_ok mixed Try.func14 (c := bodyOf Try.f14) (by kernel_rfl) rfl (by kernel_rfl) (rs := #[.tmp 4]) rfl (by decide +kernel) (by kernel_rfl) (W14_wp v0 v1 H K) h
theorem W14_hb : HasBody Try.prog 14 := ⟨_, bodyOf Try.f14, Try.func14, by kernel_rfl, rfl⟩
/-- loop.example/g00649/laws.heldAuto -/
def D15 : Info := ⟨24, fun i => ([], []), fun i => ([], [])⟩
def W15 (v0 : AV) (v1 : AV) (H : Heap) (K : AV → Heap → Prop) : Prop :=
 boxV v0 H fun v2 H1 =>
 fieldAddrV tab 30 v2 1 fun v5 =>
 loadV tab 22 v5 H1 fun v6 =>
 CallT Try.prog 54 [v6, v1] H1 fun v8 H2 =>
 binV tab .lss 3 v8 (AV.p (.int .i64 0)) fun v10 =>
 condV v10 (K (AV.p (.int .i64 (-1))) H2)
 (fieldAddrV tab 30 v2 2 fun v11 =>
 loadV tab 28 v11 H2 fun v12 =>
 CallT Try.prog 55 [v12, v8] H2 fun v14 H3 =>
 binV tab .lss 3 v14 (AV.p (.int .i64 0)) fun v16 =>
 condV v16 (K (AV.p (.int .i64 (-1))) H3)
 (fieldAddrV tab 30 v2 3 fun v17 =>
 loadV tab 24 v17 H3 fun v18 =>
 CallT Try.prog 56 [v18, v14] H3 fun v20 H4 =>
 binV tab .lss 3 v20 (AV.p (.int .i64 0)) fun v22 =>
 condV v22 (K (AV.p (.int .i64 (-1))) H4)
 (K v20 H4)))
theorem W15_wp (v0 : AV) (v1 : AV) (H : Heap) (K : AV → Heap → Prop) : wpC Try.prog tab D15 (bodyOf Try.f15) (retF tab [.tmp 4] K) (nthA [v0, v1]) H = W15 v0 v1 H K := by kernel_rfl
theorem W15_ok {v0 v1 : AV} {H : Heap} {K : AV → Heap → Prop} (h : W15 v0 v1 H K) : CallT Try.prog 15 [v0, v1] H K :=
  CallT.of_wp (D := D15) tab_ok mixed Try.func15 (c := bodyOf Try.f15) (by kernel_rfl) rfl (by kernel_rfl) (rs := #[.tmp 4]) rfl (by decide +kernel) (by kernel_rfl) (W15_wp v0 v1 H K) h
theorem W15_hb : HasBody Try.prog 15 := ⟨_, bodyOf Try.f15, Try.func15, by kernel_rfl, rfl⟩
/-- loop.example/g00649/spec.OneGoal -/
def D16 : Info := ⟨95, fun i => if i = 9 then ([[], [0], [], [0, 1, 2], [], [4], [4, 5], [], [7], [7, 8], [7, 8, 9], [4, 5, 6, 7, 8, 9, 10], [4, 5, 6, 7, 8, 9, 10, 11], [0, 1, 2, 3, 4, 5, 6, 7, 8, 9, 10, 11, 12], [0, 1, 2, 3, 4, 5, 6, 7, 8, 9, 10, 11, 12, 13]], [(0, []), (1, []), (2, []), (3, []), (4, []), (5, []), (7, []), (8, []), (9, []), (10, []), (6, [1, 8, 10]), (11, [1]), (12, [1]), (13, []), (14, [])]) else if i = 17 then ([[], [0], [], [0, 1, 2], [0, 1, 2, 3], [], [5], [0, 1, 2, 3, 4, 5, 6]], [(0, []), (1, []), (2, []), (3, []), (4, []), (5, []), (6, []), (7, [])]) else ([], []), fun i => if i = 11 then ([1, 2, 4, 5], [6]) else if i = 14 then ([1, 2, 4, 5, 6, 49, 50], [51]) else ([], [])⟩
def L16_0 (K : AV → Heap → Prop) (v1 : AV) (v2 : AV) (v4 : AV) (v5 : AV) (v6 : AV) (H : Heap) : Prop := LoopV (wpC Try.prog tab D16 (cAt [1, 1, 1, 1, 1, 1, 1, 0, 1, 0, 0] (bodyOf Try.f16))) [1, 2, 4, 5] (PostF.block 0 (PostF.thenA (wpC Try.prog tab D16 (cAt [1, 1, 1, 1, 1, 1, 1, 1] (bodyOf Try.f16))) (retF tab [.cell 2 30, .tmp 3] K))) [6] [AV.any, v1, v2, AV.any, v4, v5, v6, AV.any, AV.any, AV.any, AV.any, AV.any, AV.any, AV.any, AV.any, AV.any, AV.any, AV.any, AV.any, AV.any, AV.any, AV.any, AV.any, AV.any, AV.any, AV.any, AV.any, AV.any, AV.any, AV.any, AV.any, AV.any, AV.any, AV.any, AV.any, AV.any, AV.any, AV.any, AV.any, AV.any, AV.any, AV.any, AV.any, AV.any, AV.any, AV.any, AV.any, AV.any, AV.any, AV.any, AV.any, AV.any, AV.any, AV.any, AV.any, AV.any, AV.any, AV.any, AV.any, AV.any, AV.any, AV.any, AV.any, AV.any, AV.any, AV.any, AV.any, AV.any, AV.any, AV.any, AV.any, AV.any, AV.any, AV.any, AV.any, AV.any, AV.any, AV.any, AV.any, AV.any, AV.any, AV.any, AV.any, AV.any, AV.any, AV.any, AV.any, AV.any, AV.any, AV.any, AV.any, AV.any, AV.any, AV.any, AV.any] H
def L16_1 (K : AV → Heap → Prop) (N1 : AV → Heap → Prop) (v1 : AV) (v2 : AV) (v4 : AV) (v5 : AV) (v6 : AV) (v49 : AV) (v50 : AV) (v51 : AV) (H : Heap) : Prop := LoopV (wpC Try.prog tab D16 (cAt [1, 1, 1, 1, 1, 1, 1, 0, 1, 0, 0, 1, 0, 0, 1, 0, 0] (bodyOf Try.f16))) [1, 2, 4, 5, 6, 49, 50] (PostF.block 2 (PostF.block 1 (PostF.thenA (wpC Try.prog tab D16 (cAt [1, 1, 1, 1, 1, 1, 1, 0, 1, 0, 0, 1, 1] (bodyOf Try.f16))) (loopF (PostF.block 0 (PostF.thenA (wpC Try.prog tab D16 (cAt [1, 1, 1, 1, 1, 1, 1, 1] (bodyOf Try.f16))) (retF tab [.cell 2 30, .tmp 3] K))) (fun e h => N1 (e 6) h))))) [51] [AV.any, v1, v2, AV.any, v4, v5, v6, AV.any, AV.any, AV.any, AV.any, AV.any, AV.any, AV.any, AV.any, AV.any, AV.any, AV.any, AV.any, AV.any, AV.any, AV.any, AV.any, AV.any, AV.any, AV.any, AV.any, AV.any, AV.any, AV.any, AV.any, AV.any, AV.any, AV.any, AV.any, AV.any, AV.any, AV.any, AV.any, AV.any, AV.any, AV.any, AV.any, AV.any, AV.any, AV.any, AV.any, AV.any, AV.any, v49, v50, v51, AV.any, AV.any, AV.any, AV.any, AV.any, AV.any, AV.any, AV.any, AV.any, AV.any, AV.any, AV.any, AV.any, AV.any, AV.any, AV.any, AV.any, AV.any, AV.any, AV.any, AV.any, AV.any, AV.any, AV.any, AV.any, AV.any, AV.any, AV.any, AV.any, AV.any, AV.any, AV.any, AV.any, AV.any, AV.any, AV.any, AV.any, AV.any, AV.any, AV.any, AV.any, AV.any, AV.any] H
def J16_2 (K : AV → Heap → Prop) (N1 : AV → Heap → Prop) (N2 : AV → Heap → Prop) (v1 : AV) (v2 : AV) (v4 : AV) (v5 : AV) (v6 : AV) (v8 : AV) (v9 : AV) (v49 : AV) (v50 : AV) (v51 : AV) (H : Heap) : Prop :=
 fieldAddrV tab 30 v5 2 fun v68 =>
 loadV tab 28 v68 H fun v69 =>
 fieldAddrV tab 61 v8 0 fun v70 =>
 loadV tab 3 v70 H fun v71 =>
 fieldAddrV tab 30 v1 0 fun v72 =>
 loadV tab 3 v72 H fun v73 =>
 binV tab .mul 3 v73 v6 fun v75 =>
 binV tab .add 3 v71 v75 fun v76 =>
 fieldAddrV tab 61 v8 1 fun v77 =>
 loadV tab 3 v77 H fun v78 =>
 fieldAddrV tab 61 v8 2 fun v79 =>
 loadV tab 3 v79 H fun v80 =>
 fieldAddrV tab 30 v1 0 fun v81 =>
 loadV tab 3 v81 H fun v82 =>
 binV tab .mul 3 v82 v9 fun v84 =>
 binV tab .add 3 v80 v84 fun v85 =>
 buildV tab 61 [(0, v76), (1, v78), (2, v85)] fun v86 =>
 buildSliceV tab 28 1 [(0, v86)] H (wkK fun v87 H19 =>
 appendV tab 28 28 v69 v87 H19 (wkK fun v88 H20 =>
 fieldAddrV tab 30 v5 2 fun v89 =>
 storeV tab 28 v89 v88 H20 fun H21 =>
 binV tab .add 3 v51 (AV.p (.int .i64 1)) fun v90 =>
 N2 v90 H21))
def B16_1 (K : AV → Heap → Prop) (N1 : AV → Heap → Prop) (N2 : AV → Heap → Prop) (v1 : AV) (v2 : AV) (v4 : AV) (v5 : AV) (v6 : AV) (v49 : AV) (v50 : AV) (v51 : AV) (H : Heap) : Prop :=
 binV tab .lss 3 v51 v50 fun v52 =>
 condV v52 (indexAddrV tab 28 v49 v51 fun v53 =>
 loadV tab 61 v53 H fun v54 =>
 allocV tab 61 H fun v8 H16 =>
 storeV tab 61 v8 v54 H16 fun H17 =>
 fieldAddrV tab 30 v1 3 fun v56 =>
 loadV tab 24 v56 H17 fun v57 =>
 indexAddrV tab 24 v57 v6 fun v59 =>
 loadV tab 22 v59 H17 fun v60 =>
 fieldAddrV tab 61 v8 0 fun v61 =>
 loadV tab 3 v61 H17 fun v62 =>
 CallT Try.prog 60 [v60, v62] H17 fun v63 H18 =>
 condV v63 (binV tab .add 3 v6 (AV.p (.int .i64 1)) fun v65 =>
 binV tab .rem 3 v65 v4 fun v67 =>
 J16_2 K N1 N2 v1 v2 v4 v5 v6 v8 v67 v49 v50 v51 H18)
 (J16_2 K N1 N2 v1 v2 v4 v5 v6 v8 v6 v49 v50 v51 H18))
 (binV tab .add 3 v6 (AV.p (.int .i64 1)) fun v47 =>
 N1 v47 H)
def B16_0 (K : AV → Heap → Prop) (N1 : AV → Heap → Prop) (v1 : AV) (v2 : AV) (v4 : AV) (v5 : AV) (v6 : AV) (H : Heap) : Prop :=
 binV tab .lss 3 v6 v4 fun v45 =>
 condV v45 (fieldAddrV tab 30 v1 2 fun v48 =>
 loadV tab 28 v48 H fun v49 =>
 lenV tab 28 v49 fun v50 =>
 L16_1 K N1 v1 v2 v4 v5 v6 v49 v50 (AV.p (.int .i64 0)) H)
 (loadV tab 30 v5 H fun v91 =>
 CallT Try.prog 38 [v91] H fun v92 H22 =>
 extractV v92 0 fun v93 =>
 extractV v92 1 fun v94 =>
 storeV tab 30 v2 v93 H22 fun H23 =>
 loadV tab 30 v2 H23 fun r0 =>
 K (.tup [r0, v94]) H23)
def J16_3 (K : AV → Heap → Prop) (v1 : AV) (v2 : AV) (v4 : AV) (v5 : AV) (H : Heap) : Prop :=
 binV tab .lss 3 v4 (AV.p (.int .i64 2)) fun v27 =>
 condV v27 (loadV tab 30 v5 H fun v28 =>
 storeV tab 30 v2 v28 H fun H11 =>
 loadV tab 30 v2 H11 fun r0 =>
 K (.tup [r0, (AV.p (.bool true))]) H11)
 (fieldAddrV tab 30 v1 0 fun v29 =>
 loadV tab 3 v29 H fun v30 =>
 binV tab .mul 3 v30 v4 fun v32 =>
 fieldAddrV tab 30 v1 1 fun v33 =>
 loadV tab 22 v33 H fun v34 =>
 fieldAddrV tab 30 v1 3 fun v36 =>
 loadV tab 24 v36 H fun v37 =>
 indexAddrV tab 24 v37 (AV.p (.int .i64 0)) fun v38 =>
 loadV tab 22 v38 H fun v39 =>
 CallT Try.prog 59 [v34] H fun v35 H12 =>
 (loadV tab 3 v29 H12 fun v9030 =>
 v30 = v9030) ∧
 (loadV tab 24 v36 H12 fun v9037 =>
 v37 = v9037) ∧
 (loadV tab 22 v38 H12 fun v9039 =>
 v39 = v9039) ∧
 CallT Try.prog 59 [v39] H12 fun v40 H13 =>
 (loadV tab 3 v29 H13 fun v9030 =>
 v30 = v9030) ∧
 buildSliceV tab 24 1 [(0, v40)] H13 (wkK fun v41 H14 =>
 (loadV tab 3 v29 H14 fun v9030 =>
 v30 = v9030) ∧
 buildV tab 30 [(0, v32), (1, v35), (3, v41)] fun v42 =>
 storeV tab 30 v5 v42 H14 fun H15 =>
 L16_0 K v1 v2 v4 v5 (AV.p (.int .i64 0)) H15))
def W16 (v0 : AV) (H : Heap) (K : AV → Heap → Prop) : Prop :=
 boxV v0 H fun v1 H1 =>
 allocV tab 30 H1 fun v2 H2 =>
 loadV tab 30 v1 H2 fun v10 =>
 CallT Try.prog 35 [v10] H2 fun v11 H3 =>
 unV .not v11 fun v12 =>
 condV v12 (buildV tab 30 [] fun v13 =>
 storeV tab 30 v2 v13 H3 fun H4 =>
 loadV tab 30 v2 H4 fun r0 =>
 K (.tup [r0, (AV.p (.bool false))]) H4)
 (fieldAddrV tab 30 v1 3 fun v14 =>
 loadV tab 24 v14 H3 fun v15 =>
 lenV tab 24 v15 fun v16 =>
 loadV tab 30 v1 H3 fun v17 =>
 CallT Try.prog 57 [v17] H3 fun v18 H5 =>
 allocV tab 30 H5 fun v5 H6 =>
 storeV tab 30 v5 v18 H6 fun H7 =>
 binV tab .eql 3 v16 (AV.p (.int .i64 0)) fun v20 =>
 condV v20 (fieldAddrV tab 30 v1 0 fun v21 =>
 loadV tab 3 v21 H7 fun v22 =>
 CallT Try.prog 58 [v22] H7 fun v23 H8 =>
 buildSliceV tab 24 1 [(0, v23)] H8 (wkK fun v24 H9 =>
 fieldAddrV tab 30 v5 3 fun v25 =>
 storeV tab 24 v25 v24 H9 fun H10 =>
 J16_3 K v1 v2 v16 v5 H10))
 (J16_3 K v1 v2 v16 v5 H7))
theorem W16_wp (v0 : AV) (H : Heap) (K : AV → Heap → Prop) : wpC Try.prog tab D16 (bodyOf Try.f16) (retF tab [.cell 2 30, .tmp 3] K) (nthA [v0]) H = W16 v0 H K := by kernel_rfl
theorem W16_ok {v0 : AV} {H : Heap} {K : AV → Heap → Prop} (h : W16 v0 H K) : CallT Try.prog 16 [v0] H K :=
  CallT.of_wp (D := D16) tab_ok mixed Try.func16 (c := bodyOf Try.f16) (by kernel_rfl) rfl (by kernel_rfl) (rs := #[.cell 2 30, .tmp 3]) rfl (by decide +kernel) (by kernel_rfl) (W16_wp v0 H K) h
theorem W16_hb : HasBody Try.prog 16 := ⟨_, bodyOf Try.f16, Try.func16, by kernel_rfl, rfl⟩
theorem L16_1_rule {K : AV → Heap → Prop} {N1 : AV → Heap → Prop} {v1 v2 v4 v5 v6 v49 v50 v51 : AV} {H : Heap} {σ : Type} (s0 : σ) (f51 : σ → AV) (TH : σ → Heap) (pre : σ → Prop) (μ : σ → Nat)
    (h0 : pre s0 ∧ AV.wk v51 (f51 s0) ∧ Heap.le (TH s0) H)
    (round : ∀ s, pre s → B16_1 K N1 (fun w51 H' => ∃ s', pre s' ∧ μ s' < μ s ∧ AV.wk w51 (f51 s') ∧ Heap.le (TH s') H') v1 v2 v4 v5 v6 v49 v50 (f51 s) (TH s)) :
    L16_1 K N1 v1 v2 v4 v5 v6 v49 v50 v51 H := by
  unfold L16_1
  exact LoopV.mk s0 (fun s => [f51 s]) TH pre μ (fun _ => rfl) (Eq.mp (by kernel_rfl) h0) (fun s hs => Eq.mp (by kernel_rfl) (round s hs))
theorem L16_1_ruleG {K : AV → Heap → Prop} {N1 : AV → Heap → Prop} {v1 v2 v4 v5 v6 v49 v50 v51 : AV} {H : Heap} {σ : Type} (s0 : σ) (f51 : σ → AV) (TH : σ → Heap) (pre : σ → Prop) (μ : σ → Nat)
    (h0 : pre s0 ∧ AV.wk v51 (f51 s0) ∧ Heap.le (TH s0) H)
    (round : ∀ s, pre s → ∀ q, TH s q = none → B16_1 K N1 (fun w51 H' => ∃ s', pre s' ∧ μ s' < μ s ∧ AV.wk w51 (f51 s') ∧ Heap.le (TH s') H') v1 v2 v4 v5 v6 v49 v50 (f51 s) ((TH s).set q [])) :
    L16_1 K N1 v1 v2 v4 v5 v6 v49 v50 v51 H := by
  unfold L16_1
  exact LoopV.mkG s0 (fun s => [f51 s]) TH pre μ (fun _ => rfl) (Eq.mp (by kernel_rfl) h0) (fun s hs q hq => Eq.mp (by kernel_rfl) (round s hs q hq))
theorem L16_0_rule {K : AV → Heap → Prop} {v1 v2 v4 v5 v6 : AV} {H : Heap} {σ : Type} (s0 : σ) (f6 : σ → AV) (TH : σ → Heap) (pre : σ → Prop) (μ : σ → Nat)
    (h0 : pre s0 ∧ AV.wk v6 (f6 s0) ∧ Heap.le (TH s0) H)
    (round : ∀ s, pre s → B16_0 K (fun w6 H' => ∃ s', pre s' ∧ μ s' < μ s ∧ AV.wk w6 (f6 s') ∧ Heap.le (TH s') H') v1 v2 v4 v5 (f6 s) (TH s)) :
    L16_0 K v1 v2 v4 v5 v6 H := by
  unfold L16_0
  exact LoopV.mk s0 (fun s => [f6 s]) TH pre μ (fun _ => rfl) (Eq.mp (by kernel_rfl) h0) (fun s hs => Eq.mp (by kernel_rfl) (round s hs))
theorem L16_0_ruleG {K : AV → Heap → Prop} {v1 v2 v4 v5 v6 : AV} {H : Heap} {σ : Type} (s0 : σ) (f6 : σ → AV) (TH : σ → Heap) (pre : σ → Prop) (μ : σ → Nat)
    (h0 : pre s0 ∧ AV.wk v6 (f6 s0) ∧ Heap.le (TH s0) H)
    (round : ∀ s, pre s → ∀ q, TH s q = none → B16_0 K (fun w6 H' => ∃ s', pre s' ∧ μ s' < μ s ∧ AV.wk w6 (f6 s') ∧ Heap.le (TH s') H') v1 v2 v4 v5 (f6 s) ((TH s).set q [])) :
    L16_0 K v1 v2 v4 v5 v6 H := by
  unfold L16_0
  exact LoopV.mkG s0 (fun s => [f6 s]) TH pre μ (fun _ => rfl) (Eq.mp (by kernel_rfl) h0) (fun s hs q hq => Eq.mp (by kernel_rfl) (round s hs q hq))
end Go.Proofs.Ytfbaijpanbjmpaa
