/- What each function's code is asked for, as a formula. Written by wgen.py (a program of this session's) out of Lean's print of the program. -/
import Derived.KernelRfl
import Derived.Test.YtfbaijpanbjmpaaTab
import Derived.Test.YtfbaijpanbjmpaaSepC
namespace Go.Proofs.Ytfbaijpanbjmpaa
open Go Go.Sep
set_option linter.unusedVariables false
attribute [local irreducible] wpC headF
/-- loop.example/g00649/laws.FnExactBothAutos -/
def D7 : Info := ⟨119, fun i => if i = 8 then ([[], [0], [], [0, 1, 2], [0, 1, 2, 3], [0, 1, 2, 3, 4], [0, 1, 2, 3, 4, 5], [0, 1, 2, 3, 4, 5], [], [0, 1, 2, 3, 4, 5, 6, 8], [0, 1, 2, 3, 4, 5, 6, 7, 8, 9]], [(0, []), (2, []), (1, [2]), (3, []), (4, []), (5, []), (6, []), (7, []), (8, []), (9, []), (10, [])]) else if i = 14 then ([[], [], [1], [0, 1, 2], [0, 1, 2, 3]], [(0, []), (1, []), (2, [0]), (3, []), (4, [])]) else if i = 16 then ([[], [], [1], [0, 1, 2], [0, 1, 2, 3]], [(0, []), (1, []), (2, [0]), (3, []), (4, [])]) else if i = 31 then ([[], [0], [], [0, 1, 2], [0, 1, 2, 3], [0, 1, 2, 3, 4], [0, 1, 2, 3, 4, 5], [0, 1, 2, 3, 4, 5], [], [0, 1, 2, 3, 4, 5, 6, 8], [0, 1, 2, 3, 4, 5, 6, 7, 8, 9]], [(0, []), (2, []), (1, [2]), (3, []), (4, []), (5, []), (6, []), (7, []), (8, []), (9, []), (10, [])]) else ([], []), fun i => ([], [])⟩
def W7 (v0 : AV) (v1 : AV) (H : Heap) (K : AV → Heap → Prop) : Prop :=
 boxV v0 H fun v2 H1 =>
 boxV v1 H1 fun v3 H2 =>
 loadV tab 26 v2 H2 fun v17 =>
 CallT Try.prog 9 [v17, (AV.p (.int .i64 1048576))] H2 fun v19 H3 =>
 binV tab .lss 3 v19 (AV.p (.int .i64 0)) fun v21 =>
 condV v21 (K (AV.p (.bool true)) H3)
 (loadV tab 26 v3 H3 fun v22 =>
 CallT Try.prog 9 [v22, v19] H3 fun v24 H4 =>
 binV tab .lss 3 v24 (AV.p (.int .i64 0)) fun v26 =>
 condV v26 (K (AV.p (.bool true)) H4)
 (loadV tab 26 v2 H4 fun v28 =>
 loadV tab 26 v3 H4 fun v30 =>
 CallT Try.prog 11 [v28] H4 fun v29 H5 =>
 (loadV tab 26 v3 H5 fun v9030 =>
 v30 = v9030) ∧
 CallT Try.prog 11 [v30] H5 fun v31 H6 =>
 CallT Try.prog 28 [v29, v31] H6 fun v32 H7 =>
 extractV v32 0 fun v33 =>
 extractV v32 1 fun v34 =>
 allocV tab 30 H7 fun v6 H8 =>
 storeV tab 30 v6 v33 H8 fun H9 =>
 loadV tab 26 v2 H9 fun v35 =>
 CallT Try.prog 11 [v35] H9 fun v36 H10 =>
 allocV tab 30 H10 fun v8 H11 =>
 storeV tab 30 v8 v36 H11 fun H12 =>
 loadV tab 26 v3 H12 fun v37 =>
 CallT Try.prog 11 [v37] H12 fun v38 H13 =>
 allocV tab 30 H13 fun v9 H14 =>
 storeV tab 30 v9 v38 H14 fun H15 =>
 loadV tab 30 v8 H15 fun v40 =>
 loadV tab 30 v9 H15 fun v41 =>
 CallT Try.prog 29 [v40, v41] H15 fun v42 H16 =>
 extractV v42 0 fun v43 =>
 extractV v42 1 fun v44 =>
 allocV tab 30 H16 fun v10 H17 =>
 storeV tab 30 v10 v43 H17 fun H18 =>
 loadV tab 30 v10 H18 fun v45 =>
 loadV tab 30 v6 H18 fun v46 =>
 CallT Try.prog 13 [v45, v46] H18 fun v47 H19 =>
 unV .not v47 fun v48 =>
 grdV v48 false (binV tab .neq 4 v44 v34 fun v52 =>
 condV v52 (K (AV.p (.bool false)) H19)
 (loadV tab 30 v8 H19 fun v54 =>
 loadV tab 26 v2 H19 fun v55 =>
 CallT Try.prog 11 [v55] H19 fun v56 H20 =>
 (loadV tab 30 v8 H20 fun v9054 =>
 v54 = v9054) ∧
 CallT Try.prog 13 [v54, v56] H20 fun v57 H21 =>
 unV .not v57 fun v58 =>
 condV v58 (K (AV.p (.bool false)) H21)
 (loadV tab 30 v9 H21 fun v59 =>
 loadV tab 26 v3 H21 fun v60 =>
 CallT Try.prog 11 [v60] H21 fun v61 H22 =>
 (loadV tab 30 v9 H22 fun v9059 =>
 v59 = v9059) ∧
 CallT Try.prog 13 [v59, v61] H22 fun v62 H23 =>
 unV .not v62 fun v63 =>
 condV v63 (K (AV.p (.bool false)) H23)
 (loadV tab 30 v8 H23 fun v64 =>
 CallT Try.prog 14 [v64, (AV.p (.int .i64 1))] H23 fun v66 H24 =>
 loadV tab 30 v9 H24 fun v67 =>
 CallT Try.prog 14 [v67, v66] H24 fun v69 H25 =>
 binV tab .lss 3 v69 (AV.p (.int .i64 0)) fun v71 =>
 grdV v71 false (loadV tab 30 v10 H25 fun v73 =>
 loadV tab 30 v6 H25 fun v74 =>
 CallT Try.prog 13 [v73, v74] H25 fun v75 H26 =>
 unV .not v75 fun v76 =>
 grdV v76 false (binV tab .neq 4 v44 v34 fun v81 =>
 condV v81 (K (AV.p (.bool false)) H26)
 (loadV tab 30 v10 H26 fun v83 =>
 CallT Try.prog 14 [v83, (AV.p (.int .i64 1))] H26 fun v85 H27 =>
 loadV tab 30 v10 H27 fun v86 =>
 CallT Try.prog 15 [v86, (AV.p (.int .i64 1))] H27 fun v88 H28 =>
 binV tab .lss 3 v88 (AV.p (.int .i64 0)) fun v90 =>
 condV v90 (K (AV.p (.bool false)) H28)
 (binV tab .neq 3 v88 v85 fun v93 =>
 condV v93 (K (AV.p (.bool false)) H28)
 (loadV tab 26 v2 H28 fun v95 =>
 loadV tab 26 v3 H28 fun v97 =>
 CallT Try.prog 11 [v95] H28 fun v96 H29 =>
 (loadV tab 26 v3 H29 fun v9097 =>
 v97 = v9097) ∧
 CallT Try.prog 11 [v97] H29 fun v98 H30 =>
 CallT Try.prog 29 [v96, v98] H30 fun v99 H31 =>
 extractV v99 0 fun v100 =>
 extractV v99 1 fun v101 =>
 allocV tab 30 H31 fun v15 H32 =>
 storeV tab 30 v15 v100 H32 fun H33 =>
 loadV tab 30 v15 H33 fun v102 =>
 loadV tab 30 v6 H33 fun v103 =>
 CallT Try.prog 13 [v102, v103] H33 fun v104 H34 =>
 unV .not v104 fun v105 =>
 grdV v105 false (binV tab .neq 4 v101 v34 fun v109 =>
 condV v109 (K (AV.p (.bool false)) H34)
 (loadV tab 30 v10 H34 fun v111 =>
 CallT Try.prog 15 [v111, (AV.p (.int .i64 1))] H34 fun v113 H35 =>
 binV tab .lss 3 v113 (AV.p (.int .i64 0)) fun v115 =>
 condV v115 (K (AV.p (.bool false)) H35)
 (binV tab .neq 3 v113 v85 fun v118 =>
 condV v118 (K (AV.p (.bool false)) H35)
 (K (AV.p (.bool true)) H35))))
 (K (AV.p (.bool false)) H34)))))
 (K (AV.p (.bool false)) H26))
 (K (AV.p (.bool false)) H25)))))
 (K (AV.p (.bool false)) H19)))
theorem W7_wp (v0 : AV) (v1 : AV) (H : Heap) (K : AV → Heap → Prop) : wpC Try.prog tab D7 (bodyOf Try.f7) (retF tab [.tmp 4] K) (nthA [v0, v1]) H = W7 v0 v1 H K := by kernel_rfl
theorem W7_ok {v0 v1 : AV} {H : Heap} {K : AV → Heap → Prop} (h : W7 v0 v1 H K) : CallT Try.prog 7 [v0, v1] H K :=
  CallT.of_wp (D := D7) tab_ok mixed Try.func7 (c := bodyOf Try.f7) (by kernel_rfl) rfl (by kernel_rfl) (rs := #[.tmp 4]) rfl (by decide +kernel) (by kernel_rfl) (W7_wp v0 v1 H K) h
theorem W7_hb : HasBody Try.prog 7 := ⟨_, bodyOf Try.f7, Try.func7, by kernel_rfl, rfl⟩
/-- loop.example/g00649/laws.szAuto -/
def D9 : Info := ⟨24, fun i => ([], []), fun i => ([], [])⟩
def W9 (v0 : AV) (v1 : AV) (H : Heap) (K : AV → Heap → Prop) : Prop :=
 boxV v0 H fun v2 H1 =>
 fieldAddrV tab 26 v2 1 fun v5 =>
 loadV tab 22 v5 H1 fun v6 =>
 CallT Try.prog 32 [v6, v1] H1 fun v8 H2 =>
 binV tab .lss 3 v8 (AV.p (.int .i64 0)) fun v10 =>
 condV v10 (K (AV.p (.int .i64 (-1))) H2)
 (fieldAddrV tab 26 v2 2 fun v11 =>
 loadV tab 23 v11 H2 fun v12 =>
 CallT Try.prog 33 [v12, v8] H2 fun v14 H3 =>
 binV tab .lss 3 v14 (AV.p (.int .i64 0)) fun v16 =>
 condV v16 (K (AV.p (.int .i64 (-1))) H3)
 (fieldAddrV tab 26 v2 3 fun v17 =>
 loadV tab 24 v17 H3 fun v18 =>
 CallT Try.prog 34 [v18, v14] H3 fun v20 H4 =>
 binV tab .lss 3 v20 (AV.p (.int .i64 0)) fun v22 =>
 condV v22 (K (AV.p (.int .i64 (-1))) H4)
 (K v20 H4)))
theorem W9_wp (v0 : AV) (v1 : AV) (H : Heap) (K : AV → Heap → Prop) : wpC Try.prog tab D9 (bodyOf Try.f9) (retF tab [.tmp 4] K) (nthA [v0, v1]) H = W9 v0 v1 H K := by kernel_rfl
theorem W9_ok {v0 v1 : AV} {H : Heap} {K : AV → Heap → Prop} (h : W9 v0 v1 H K) : CallT Try.prog 9 [v0, v1] H K :=
  CallT.of_wp (D := D9) tab_ok mixed Try.func9 (c := bodyOf Try.f9) (by kernel_rfl) rfl (by kernel_rfl) (rs := #[.tmp 4]) rfl (by decide +kernel) (by kernel_rfl) (W9_wp v0 v1 H K) h
theorem W9_hb : HasBody Try.prog 9 := ⟨_, bodyOf Try.f9, Try.func9, by kernel_rfl, rfl⟩
/-- loop.example/g00649/laws.toAuto -/
def D11 : Info := ⟨20, fun i => ([], []), fun i => ([], [])⟩
def W11 (v0 : AV) (H : Heap) (K : AV → Heap → Prop) : Prop :=
 boxV v0 H fun v1 H1 =>
 allocV tab 30 H1 fun v2 H2 =>
 allocV tab 30 H2 fun v3 H3 =>
 fieldAddrV tab 26 v1 0 fun v4 =>
 loadV tab 3 v4 H3 fun v5 =>
 fieldAddrV tab 30 v3 0 fun v6 =>
 storeV tab 3 v6 v5 H3 fun H4 =>
 fieldAddrV tab 26 v1 1 fun v7 =>
 loadV tab 22 v7 H4 fun v8 =>
 CallT Try.prog 39 [v8] H4 fun v9 H5 =>
 fieldAddrV tab 30 v3 1 fun v10 =>
 storeV tab 22 v10 v9 H5 fun H6 =>
 fieldAddrV tab 26 v1 2 fun v11 =>
 loadV tab 23 v11 H6 fun v12 =>
 CallT Try.prog 40 [v12] H6 fun v13 H7 =>
 fieldAddrV tab 30 v3 2 fun v14 =>
 storeV tab 28 v14 v13 H7 fun H8 =>
 fieldAddrV tab 26 v1 3 fun v15 =>
 loadV tab 24 v15 H8 fun v16 =>
 CallT Try.prog 41 [v16] H8 fun v17 H9 =>
 fieldAddrV tab 30 v3 3 fun v18 =>
 storeV tab 24 v18 v17 H9 fun H10 =>
 loadV tab 30 v3 H10 fun v19 =>
 storeV tab 30 v2 v19 H10 fun H11 =>
 loadV tab 30 v2 H11 fun r0 =>
 K r0 H11
theorem W11_wp (v0 : AV) (H : Heap) (K : AV → Heap → Prop) : wpC Try.prog tab D11 (bodyOf Try.f11) (retF tab [.cell 2 30] K) (nthA [v0]) H = W11 v0 H K := by kernel_rfl
theorem W11_ok {v0 : AV} {H : Heap} {K : AV → Heap → Prop} (h : W11 v0 H K) : CallT Try.prog 11 [v0] H K :=
  CallT.of_wp (D := D11) tab_ok mixed Try.func11 (c := bodyOf Try.f11) (by kernel_rfl) rfl (by kernel_rfl) (rs := #[.cell 2 30]) rfl (by decide +kernel) (by kernel_rfl) (W11_wp v0 H K) h
theorem W11_hb : HasBody Try.prog 11 := ⟨_, bodyOf Try.f11, Try.func11, by kernel_rfl, rfl⟩
/-- loop.example/g00649/laws.eqAuto -/
def D13 : Info := ⟨28, fun i => ([], []), fun i => ([], [])⟩
def W13 (v0 : AV) (v1 : AV) (H : Heap) (K : AV → Heap → Prop) : Prop :=
 boxV v0 H fun v2 H1 =>
 boxV v1 H1 fun v3 H2 =>
 fieldAddrV tab 30 v2 0 fun v5 =>
 loadV tab 3 v5 H2 fun v6 =>
 fieldAddrV tab 30 v3 0 fun v7 =>
 loadV tab 3 v7 H2 fun v8 =>
 binV tab .neq 3 v6 v8 fun v9 =>
 condV v9 (K (AV.p (.bool false)) H2)
 (fieldAddrV tab 30 v2 1 fun v10 =>
 loadV tab 22 v10 H2 fun v11 =>
 fieldAddrV tab 30 v3 1 fun v12 =>
 loadV tab 22 v12 H2 fun v13 =>
 CallT Try.prog 48 [v11, v13] H2 fun v14 H3 =>
 unV .not v14 fun v15 =>
 condV v15 (K (AV.p (.bool false)) H3)
 (fieldAddrV tab 30 v2 2 fun v16 =>
 loadV tab 28 v16 H3 fun v17 =>
 fieldAddrV tab 30 v3 2 fun v18 =>
 loadV tab 28 v18 H3 fun v19 =>
 CallT Try.prog 49 [v17, v19] H3 fun v20 H4 =>
 unV .not v20 fun v21 =>
 condV v21 (K (AV.p (.bool false)) H4)
 (fieldAddrV tab 30 v2 3 fun v22 =>
 loadV tab 24 v22 H4 fun v23 =>
 fieldAddrV tab 30 v3 3 fun v24 =>
 loadV tab 24 v24 H4 fun v25 =>
 CallT Try.prog 50 [v23, v25] H4 fun v26 H5 =>
 unV .not v26 fun v27 =>
 condV v27 (K (AV.p (.bool false)) H5)
 (K (AV.p (.bool true)) H5))))
theorem W13_wp (v0 : AV) (v1 : AV) (H : Heap) (K : AV → Heap → Prop) : wpC Try.prog tab D13 (bodyOf Try.f13) (retF tab [.tmp 4] K) (nthA [v0, v1]) H = W13 v0 v1 H K := by kernel_rfl
theorem W13_ok {v0 v1 : AV} {H : Heap} {K : AV → Heap → Prop} (h : W13 v0 v1 H K) : CallT Try.prog 13 [v0, v1] H K :=
  CallT.of_wp (D := D13) tab_ok mixed Try.func13 (c := bodyOf Try.f13) (by kernel_rfl) rfl (by kernel_rfl) (rs := #[.tmp 4]) rfl (by decide +kernel) (by kernel_rfl) (W13_wp v0 v1 H K) h
theorem W13_hb : HasBody Try.prog 13 := ⟨_, bodyOf Try.f13, Try.func13, by kernel_rfl, rfl⟩
/-- loop.example/g00649/laws.markAuto -/
def D14 : Info := ⟨18, fun i => ([], []), fun i => ([], [])⟩
def W14 (v0 : AV) (v1 : AV) (H : Heap) (K : AV → Heap → Prop) : Prop :=
 boxV v0 H fun v2 H1 =>
 fieldAddrV tab 30 v2 1 fun v5 =>
 loadV tab 22 v5 H1 fun v6 =>
 CallT Try.prog 51 [v6, v1] H1 fun v8 H2 =>
 fieldAddrV tab 30 v2 2 fun v9 =>
 loadV tab 28 v9 H2 fun v10 =>
 CallT Try.prog 52 [v10, v8] H2 fun v12 H3 =>
 fieldAddrV tab 30 v2 3 fun v13 =>
 loadV tab 24 v13 H3 fun v14 =>
 CallT Try.prog 53 [v14, v12] H3 fun v16 H4 =>
 K v16 H4
theorem W14_wp (v0 : AV) (v1 : AV) (H : Heap) (K : AV → Heap → Prop) : wpC Try.prog tab D14 (bodyOf Try.f14) (retF tab [.tmp 4] K) (nthA [v0, v1]) H = W14 v0 v1 H K := by kernel_rfl
theorem W14_ok {v0 v1 : AV} {H : Heap} {K : AV → Heap → Prop} (h : W14 v0 v1 H K) : CallT Try.prog 14 [v0, v1] H K :=
  CallT.of_wp (D := D14) tab_ok mixed Try.func14 (c := bodyOf Try.f14) (by kernel_rfl) rfl (by kernel_rfl) (rs := #[.tmp 4]) rfl (by decide +kernel) (by kernel_rfl) (W14_wp v0 v1 H K) h
theorem W14_hb : HasBody Try.prog 14 := ⟨_, bodyOf Try.f14, Try.func14, by kernel_rfl, rfl⟩
/-- loop.example/g00649/laws.heldAuto -/
def D15 : Info := ⟨24, fun i => ([], []), fun i => ([], [])⟩
def W15 (v0 : AV) (v1 : AV) (H : Heap) (K : AV → Heap → Prop) : Prop :=
 boxV v0 H fun v2 H1 =>
 fieldAddrV tab 30 v2 1 fun v5 =>
 loadV tab 22 v5 H1 fun v6 =>
 CallT Try.prog 54 [v6, v1] H1 fun v8 H2 =>
 binV tab .lss 3 v8 (AV.p (.int .i64 0)) fun v10 =>
 condV v10 (K (AV.p (.int .i64 (-1))) H2)
 (fieldAddrV tab 30 v2 2 fun v11 =>
 loadV tab 28 v11 H2 fun v12 =>
 CallT Try.prog 55 [v12, v8] H2 fun v14 H3 =>
 binV tab .lss 3 v14 (AV.p (.int .i64 0)) fun v16 =>
 condV v16 (K (AV.p (.int .i64 (-1))) H3)
 (fieldAddrV tab 30 v2 3 fun v17 =>
 loadV tab 24 v17 H3 fun v18 =>
 CallT Try.prog 56 [v18, v14] H3 fun v20 H4 =>
 binV tab .lss 3 v20 (AV.p (.int .i64 0)) fun v22 =>
 condV v22 (K (AV.p (.int .i64 (-1))) H4)
 (K v20 H4)))
theorem W15_wp (v0 : AV) (v1 : AV) (H : Heap) (K : AV → Heap → Prop) : wpC Try.prog tab D15 (bodyOf Try.f15) (retF tab [.tmp 4] K) (nthA [v0, v1]) H = W15 v0 v1 H K := by kernel_rfl
theorem W15_ok {v0 v1 : AV} {H : Heap} {K : AV → Heap → Prop} (h : W15 v0 v1 H K) : CallT Try.prog 15 [v0, v1] H K :=
  CallT.of_wp (D := D15) tab_ok mixed Try.func15 (c := bodyOf Try.f15) (by kernel_rfl) rfl (by kernel_rfl) (rs := #[.tmp 4]) rfl (by decide +kernel) (by kernel_rfl) (W15_wp v0 v1 H K) h
theorem W15_hb : HasBody Try.prog 15 := ⟨_, bodyOf Try.f15, Try.func15, by kernel_rfl, rfl⟩
/-- loop.example/g00649/spec.BothAutos -/
def D28 : Info := ⟨137, fun i => if i = 3 then ([[], [0], [], [2], [0, 1, 2, 3], [], [5], [], [7], [], [9], [5, 6, 7, 8, 9, 10], [0, 1, 2, 3, 4, 5, 6, 7, 8, 9, 10, 11], [], [0, 1, 2, 3, 4, 5, 6, 7, 8, 9, 10, 11, 12, 13]], [(0, []), (1, []), (2, []), (3, []), (4, []), (5, []), (6, []), (7, []), (8, []), (9, []), (10, []), (11, [1, 3]), (12, []), (13, []), (14, [])]) else if i = 10 then ([[], [], [], [2], [1, 2, 3], [1, 2, 3, 4], [], [0, 1, 2, 3, 4, 5, 6], [0, 1, 2, 3, 4, 5, 6, 7]], [(0, []), (1, []), (2, []), (3, []), (4, []), (6, []), (5, [0]), (7, []), (8, [])]) else if i = 11 then ([[], [], [], [2], [1, 2, 3], [1, 2, 3, 4], [], [0, 1, 2, 3, 4, 5, 6], [0, 1, 2, 3, 4, 5, 6, 7]], [(0, []), (1, []), (2, []), (3, []), (4, []), (6, []), (5, [0]), (7, []), (8, [])]) else if i = 20 then ([[], [0], [], [], [3], [3, 4], [], [6], [2, 3, 4, 5, 6, 7], [2, 3, 4, 5, 6, 7, 8], [0, 1, 2, 3, 4, 5, 6, 7, 8, 9], [0, 1, 2, 3, 4, 5, 6, 7, 8, 9, 10], [0, 1, 2, 3, 4, 5, 6, 7, 8, 9, 10, 11]], [(0, []), (1, []), (2, []), (3, []), (4, []), (6, []), (7, []), (5, [1, 7]), (8, [1]), (9, [1]), (10, []), (11, []), (12, [])]) else if i = 25 then ([[], [0], [], [2], [2, 3], [], [], [6], [2, 3, 4, 5, 6, 7], [2, 3, 4, 5, 6, 7, 8], [0, 1, 2, 3, 4, 5, 6, 7, 8, 9], [0, 1, 2, 3, 4, 5, 6, 7, 8, 9, 10], [0, 1, 2, 3, 4, 5, 6, 7, 8, 9, 10, 11]], [(0, []), (1, []), (2, []), (3, []), (5, []), (6, []), (7, []), (4, [1, 7]), (8, [1]), (9, [1]), (10, []), (11, []), (12, [])]) else ([], []), fun i => if i = 5 then ([2, 3, 4, 6], [7]) else if i = 8 then ([2, 3, 4, 6, 7], [8]) else if i = 13 then ([2, 3, 4, 6, 7, 8, 77, 78], [79]) else if i = 18 then ([2, 3, 4, 6, 94, 95], [96]) else if i = 23 then ([2, 3, 4, 6, 114, 115], [116]) else ([], [])⟩
def L28_0 (K : AV → Heap → Prop) (v2 : AV) (v3 : AV) (v4 : AV) (v6 : AV) (v7 : AV) (H : Heap) : Prop := LoopV (wpC Try.prog tab D28 (cAt [1, 1, 1, 0, 1, 0, 0] (bodyOf Try.f28))) [2, 3, 4, 6] (PostF.block 0 (PostF.thenA (wpC Try.prog tab D28 (cAt [1, 1, 1, 1] (bodyOf Try.f28))) (retF tab [.cell 4 30, .tmp 5] K))) [7] [AV.any, AV.any, v2, v3, v4, AV.any, v6, v7, AV.any, AV.any, AV.any, AV.any, AV.any, AV.any, AV.any, AV.any, AV.any, AV.any, AV.any, AV.any, AV.any, AV.any, AV.any, AV.any, AV.any, AV.any, AV.any, AV.any, AV.any, AV.any, AV.any, AV.any, AV.any, AV.any, AV.any, AV.any, AV.any, AV.any, AV.any, AV.any, AV.any, AV.any, AV.any, AV.any, AV.any, AV.any, AV.any, AV.any, AV.any, AV.any, AV.any, AV.any, AV.any, AV.any, AV.any, AV.any, AV.any, AV.any, AV.any, AV.any, AV.any, AV.any, AV.any, AV.any, AV.any, AV.any, AV.any, AV.any, AV.any, AV.any, AV.any, AV.any, AV.any, AV.any, AV.any, AV.any, AV.any, AV.any, AV.any, AV.any, AV.any, AV.any, AV.any, AV.any, AV.any, AV.any, AV.any, AV.any, AV.any, AV.any, AV.any, AV.any, AV.any, AV.any, AV.any, AV.any, AV.any, AV.any, AV.any, AV.any, AV.any, AV.any, AV.any, AV.any, AV.any, AV.any, AV.any, AV.any, AV.any, AV.any, AV.any, AV.any, AV.any, AV.any, AV.any, AV.any, AV.any, AV.any, AV.any, AV.any, AV.any, AV.any, AV.any, AV.any, AV.any, AV.any, AV.any, AV.any, AV.any, AV.any, AV.any, AV.any, AV.any, AV.any, AV.any, AV.any, AV.any] H
def L28_1 (K : AV → Heap → Prop) (N1 : AV → Heap → Prop) (v2 : AV) (v3 : AV) (v4 : AV) (v6 : AV) (v7 : AV) (v8 : AV) (H : Heap) : Prop := LoopV (wpC Try.prog tab D28 (cAt [1, 1, 1, 0, 1, 0, 0, 1, 0, 0, 1, 0, 0] (bodyOf Try.f28))) [2, 3, 4, 6, 7] (PostF.block 2 (PostF.block 1 (PostF.thenA (wpC Try.prog tab D28 (cAt [1, 1, 1, 0, 1, 0, 0, 1, 1] (bodyOf Try.f28))) (loopF (PostF.block 0 (PostF.thenA (wpC Try.prog tab D28 (cAt [1, 1, 1, 1] (bodyOf Try.f28))) (retF tab [.cell 4 30, .tmp 5] K))) (fun e h => N1 (e 7) h))))) [8] [AV.any, AV.any, v2, v3, v4, AV.any, v6, v7, v8, AV.any, AV.any, AV.any, AV.any, AV.any, AV.any, AV.any, AV.any, AV.any, AV.any, AV.any, AV.any, AV.any, AV.any, AV.any, AV.any, AV.any, AV.any, AV.any, AV.any, AV.any, AV.any, AV.any, AV.any, AV.any, AV.any, AV.any, AV.any, AV.any, AV.any, AV.any, AV.any, AV.any, AV.any, AV.any, AV.any, AV.any, AV.any, AV.any, AV.any, AV.any, AV.any, AV.any, AV.any, AV.any, AV.any, AV.any, AV.any, AV.any, AV.any, AV.any, AV.any, AV.any, AV.any, AV.any, AV.any, AV.any, AV.any, AV.any, AV.any, AV.any, AV.any, AV.any, AV.any, AV.any, AV.any, AV.any, AV.any, AV.any, AV.any, AV.any, AV.any, AV.any, AV.any, AV.any, AV.any, AV.any, AV.any, AV.any, AV.any, AV.any, AV.any, AV.any, AV.any, AV.any, AV.any, AV.any, AV.any, AV.any, AV.any, AV.any, AV.any, AV.any, AV.any, AV.any, AV.any, AV.any, AV.any, AV.any, AV.any, AV.any, AV.any, AV.any, AV.any, AV.any, AV.any, AV.any, AV.any, AV.any, AV.any, AV.any, AV.any, AV.any, AV.any, AV.any, AV.any, AV.any, AV.any, AV.any, AV.any, AV.any, AV.any, AV.any, AV.any, AV.any, AV.any, AV.any, AV.any] H
def L28_2 (K : AV → Heap → Prop) (N1 : AV → Heap → Prop) (N2 : AV → Heap → Prop) (v2 : AV) (v3 : AV) (v4 : AV) (v6 : AV) (v7 : AV) (v8 : AV) (v77 : AV) (v78 : AV) (v79 : AV) (H : Heap) : Prop := LoopV (wpC Try.prog tab D28 (cAt [1, 1, 1, 0, 1, 0, 0, 1, 0, 0, 1, 0, 0, 1, 0, 0, 1, 1, 1, 0, 0] (bodyOf Try.f28))) [2, 3, 4, 6, 7, 8, 77, 78] (PostF.block 4 (PostF.block 3 (PostF.thenA (wpC Try.prog tab D28 (cAt [1, 1, 1, 0, 1, 0, 0, 1, 0, 0, 1, 0, 0, 1, 1] (bodyOf Try.f28))) (loopF (PostF.block 2 (PostF.block 1 (PostF.thenA (wpC Try.prog tab D28 (cAt [1, 1, 1, 0, 1, 0, 0, 1, 1] (bodyOf Try.f28))) (loopF (PostF.block 0 (PostF.thenA (wpC Try.prog tab D28 (cAt [1, 1, 1, 1] (bodyOf Try.f28))) (retF tab [.cell 4 30, .tmp 5] K))) (fun e h => N1 (e 7) h))))) (fun e h => N2 (e 8) h))))) [79] [AV.any, AV.any, v2, v3, v4, AV.any, v6, v7, v8, AV.any, AV.any, AV.any, AV.any, AV.any, AV.any, AV.any, AV.any, AV.any, AV.any, AV.any, AV.any, AV.any, AV.any, AV.any, AV.any, AV.any, AV.any, AV.any, AV.any, AV.any, AV.any, AV.any, AV.any, AV.any, AV.any, AV.any, AV.any, AV.any, AV.any, AV.any, AV.any, AV.any, AV.any, AV.any, AV.any, AV.any, AV.any, AV.any, AV.any, AV.any, AV.any, AV.any, AV.any, AV.any, AV.any, AV.any, AV.any, AV.any, AV.any, AV.any, AV.any, AV.any, AV.any, AV.any, AV.any, AV.any, AV.any, AV.any, AV.any, AV.any, AV.any, AV.any, AV.any, AV.any, AV.any, AV.any, AV.any, v77, v78, v79, AV.any, AV.any, AV.any, AV.any, AV.any, AV.any, AV.any, AV.any, AV.any, AV.any, AV.any, AV.any, AV.any, AV.any, AV.any, AV.any, AV.any, AV.any, AV.any, AV.any, AV.any, AV.any, AV.any, AV.any, AV.any, AV.any, AV.any, AV.any, AV.any, AV.any, AV.any, AV.any, AV.any, AV.any, AV.any, AV.any, AV.any, AV.any, AV.any, AV.any, AV.any, AV.any, AV.any, AV.any, AV.any, AV.any, AV.any, AV.any, AV.any, AV.any, AV.any, AV.any, AV.any, AV.any, AV.any, AV.any, AV.any] H
def B28_2 (K : AV → Heap → Prop) (N1 : AV → Heap → Prop) (N2 : AV → Heap → Prop) (N3 : AV → Heap → Prop) (v2 : AV) (v3 : AV) (v4 : AV) (v6 : AV) (v7 : AV) (v8 : AV) (v77 : AV) (v78 : AV) (v79 : AV) (H : Heap) : Prop :=
 binV tab .lss 3 v79 v78 fun v80 =>
 condV v80 (indexAddrV tab 22 v77 v79 fun v81 =>
 loadV tab 3 v81 H fun v82 =>
 fieldAddrV tab 30 v6 2 fun v83 =>
 loadV tab 28 v83 H fun v84 =>
 buildV tab 61 [(0, v7), (1, v8), (2, v82)] fun v88 =>
 buildSliceV tab 28 1 [(0, v88)] H (wkK fun v89 H15 =>
 appendV tab 28 28 v84 v89 H15 (wkK fun v90 H16 =>
 fieldAddrV tab 30 v6 2 fun v91 =>
 storeV tab 28 v91 v90 H16 fun H17 =>
 binV tab .add 3 v79 (AV.p (.int .i64 1)) fun v92 =>
 N3 v92 H17)))
 (binV tab .add 3 v8 (AV.p (.int .i64 1)) fun v56 =>
 N2 v56 H)
def B28_1 (K : AV → Heap → Prop) (N1 : AV → Heap → Prop) (N2 : AV → Heap → Prop) (v2 : AV) (v3 : AV) (v4 : AV) (v6 : AV) (v7 : AV) (v8 : AV) (H : Heap) : Prop :=
 binV tab .lss 3 v8 (AV.p (.int .i64 8)) fun v54 =>
 condV v54 (loadV tab 30 v2 H fun v57 =>
 fieldAddrV tab 30 v3 0 fun v59 =>
 loadV tab 3 v59 H fun v60 =>
 binV tab .quo 3 v7 v60 fun v61 =>
 buildSliceV tab 22 1 [(0, v61)] H (wkK fun v62 H10 =>
 (loadV tab 30 v2 H10 fun v9057 =>
 v57 = v9057) ∧
 CallT Try.prog 73 [v57, v62, v8] H10 fun v64 H11 =>
 loadV tab 30 v3 H11 fun v65 =>
 fieldAddrV tab 30 v3 0 fun v67 =>
 loadV tab 3 v67 H11 fun v68 =>
 binV tab .rem 3 v7 v68 fun v69 =>
 buildSliceV tab 22 1 [(0, v69)] H11 (wkK fun v70 H12 =>
 (loadV tab 30 v3 H12 fun v9065 =>
 v65 = v9065) ∧
 CallT Try.prog 73 [v65, v70, v8] H12 fun v72 H13 =>
 fieldAddrV tab 30 v3 0 fun v75 =>
 loadV tab 3 v75 H13 fun v76 =>
 CallT Try.prog 72 [v64, v72, v76] H13 fun v77 H14 =>
 lenV tab 22 v77 fun v78 =>
 L28_2 K N1 N2 v2 v3 v4 v6 v7 v8 v77 v78 (AV.p (.int .i64 0)) H14)))
 (binV tab .add 3 v7 (AV.p (.int .i64 1)) fun v52 =>
 N1 v52 H)
def L28_3 (K : AV → Heap → Prop) (v2 : AV) (v3 : AV) (v4 : AV) (v6 : AV) (v94 : AV) (v95 : AV) (v96 : AV) (H : Heap) : Prop := LoopV (wpC Try.prog tab D28 (cAt [1, 1, 1, 1, 0, 1, 0, 0] (bodyOf Try.f28))) [2, 3, 4, 6, 94, 95] (PostF.block 6 (PostF.thenA (wpC Try.prog tab D28 (cAt [1, 1, 1, 1, 1] (bodyOf Try.f28))) (retF tab [.cell 4 30, .tmp 5] K))) [96] [AV.any, AV.any, v2, v3, v4, AV.any, v6, AV.any, AV.any, AV.any, AV.any, AV.any, AV.any, AV.any, AV.any, AV.any, AV.any, AV.any, AV.any, AV.any, AV.any, AV.any, AV.any, AV.any, AV.any, AV.any, AV.any, AV.any, AV.any, AV.any, AV.any, AV.any, AV.any, AV.any, AV.any, AV.any, AV.any, AV.any, AV.any, AV.any, AV.any, AV.any, AV.any, AV.any, AV.any, AV.any, AV.any, AV.any, AV.any, AV.any, AV.any, AV.any, AV.any, AV.any, AV.any, AV.any, AV.any, AV.any, AV.any, AV.any, AV.any, AV.any, AV.any, AV.any, AV.any, AV.any, AV.any, AV.any, AV.any, AV.any, AV.any, AV.any, AV.any, AV.any, AV.any, AV.any, AV.any, AV.any, AV.any, AV.any, AV.any, AV.any, AV.any, AV.any, AV.any, AV.any, AV.any, AV.any, AV.any, AV.any, AV.any, AV.any, AV.any, AV.any, v94, v95, v96, AV.any, AV.any, AV.any, AV.any, AV.any, AV.any, AV.any, AV.any, AV.any, AV.any, AV.any, AV.any, AV.any, AV.any, AV.any, AV.any, AV.any, AV.any, AV.any, AV.any, AV.any, AV.any, AV.any, AV.any, AV.any, AV.any, AV.any, AV.any, AV.any, AV.any, AV.any, AV.any, AV.any, AV.any, AV.any, AV.any, AV.any, AV.any, AV.any, AV.any] H
def L28_4 (K : AV → Heap → Prop) (v2 : AV) (v3 : AV) (v4 : AV) (v6 : AV) (v114 : AV) (v115 : AV) (v116 : AV) (H : Heap) : Prop := LoopV (wpC Try.prog tab D28 (cAt [1, 1, 1, 1, 1, 0, 1, 0, 0] (bodyOf Try.f28))) [2, 3, 4, 6, 114, 115] (PostF.block 8 (PostF.thenA (wpC Try.prog tab D28 (cAt [1, 1, 1, 1, 1, 1] (bodyOf Try.f28))) (retF tab [.cell 4 30, .tmp 5] K))) [116] [AV.any, AV.any, v2, v3, v4, AV.any, v6, AV.any, AV.any, AV.any, AV.any, AV.any, AV.any, AV.any, AV.any, AV.any, AV.any, AV.any, AV.any, AV.any, AV.any, AV.any, AV.any, AV.any, AV.any, AV.any, AV.any, AV.any, AV.any, AV.any, AV.any, AV.any, AV.any, AV.any, AV.any, AV.any, AV.any, AV.any, AV.any, AV.any, AV.any, AV.any, AV.any, AV.any, AV.any, AV.any, AV.any, AV.any, AV.any, AV.any, AV.any, AV.any, AV.any, AV.any, AV.any, AV.any, AV.any, AV.any, AV.any, AV.any, AV.any, AV.any, AV.any, AV.any, AV.any, AV.any, AV.any, AV.any, AV.any, AV.any, AV.any, AV.any, AV.any, AV.any, AV.any, AV.any, AV.any, AV.any, AV.any, AV.any, AV.any, AV.any, AV.any, AV.any, AV.any, AV.any, AV.any, AV.any, AV.any, AV.any, AV.any, AV.any, AV.any, AV.any, AV.any, AV.any, AV.any, AV.any, AV.any, AV.any, AV.any, AV.any, AV.any, AV.any, AV.any, AV.any, AV.any, AV.any, AV.any, AV.any, AV.any, AV.any, AV.any, AV.any, v114, v115, v116, AV.any, AV.any, AV.any, AV.any, AV.any, AV.any, AV.any, AV.any, AV.any, AV.any, AV.any, AV.any, AV.any, AV.any, AV.any, AV.any, AV.any, AV.any, AV.any, AV.any] H
def B28_4 (K : AV → Heap → Prop) (N1 : AV → Heap → Prop) (v2 : AV) (v3 : AV) (v4 : AV) (v6 : AV) (v114 : AV) (v115 : AV) (v116 : AV) (H : Heap) : Prop :=
 binV tab .lss 3 v116 v115 fun v117 =>
 condV v117 (indexAddrV tab 24 v114 v116 fun v118 =>
 loadV tab 22 v118 H fun v119 =>
 fieldAddrV tab 30 v6 3 fun v120 =>
 loadV tab 24 v120 H fun v121 =>
 fieldAddrV tab 30 v2 0 fun v122 =>
 loadV tab 3 v122 H fun v123 =>
 fieldAddrV tab 30 v3 0 fun v126 =>
 loadV tab 3 v126 H fun v127 =>
 CallT Try.prog 58 [v123] H fun v124 H23 =>
 (loadV tab 24 v120 H23 fun v9121 =>
 v121 = v9121) ∧
 (loadV tab 3 v126 H23 fun v9127 =>
 v127 = v9127) ∧
 CallT Try.prog 72 [v124, v119, v127] H23 fun v128 H24 =>
 (loadV tab 24 v120 H24 fun v9121 =>
 v121 = v9121) ∧
 buildSliceV tab 24 1 [(0, v128)] H24 (wkK fun v129 H25 =>
 (loadV tab 24 v120 H25 fun v9121 =>
 v121 = v9121) ∧
 appendV tab 24 24 v121 v129 H25 (wkK fun v130 H26 =>
 fieldAddrV tab 30 v6 3 fun v131 =>
 storeV tab 24 v131 v130 H26 fun H27 =>
 binV tab .add 3 v116 (AV.p (.int .i64 1)) fun v132 =>
 N1 v132 H27)))
 (loadV tab 30 v6 H fun v133 =>
 CallT Try.prog 38 [v133] H fun v134 H28 =>
 extractV v134 0 fun v135 =>
 extractV v134 1 fun v136 =>
 storeV tab 30 v4 v135 H28 fun H29 =>
 loadV tab 30 v4 H29 fun r0 =>
 K (.tup [r0, v136]) H29)
def B28_3 (K : AV → Heap → Prop) (N1 : AV → Heap → Prop) (v2 : AV) (v3 : AV) (v4 : AV) (v6 : AV) (v94 : AV) (v95 : AV) (v96 : AV) (H : Heap) : Prop :=
 binV tab .lss 3 v96 v95 fun v97 =>
 condV v97 (indexAddrV tab 24 v94 v96 fun v98 =>
 loadV tab 22 v98 H fun v99 =>
 fieldAddrV tab 30 v6 3 fun v100 =>
 loadV tab 24 v100 H fun v101 =>
 fieldAddrV tab 30 v3 0 fun v103 =>
 loadV tab 3 v103 H fun v104 =>
 fieldAddrV tab 30 v3 0 fun v106 =>
 loadV tab 3 v106 H fun v107 =>
 CallT Try.prog 58 [v104] H fun v105 H18 =>
 (loadV tab 24 v100 H18 fun v9101 =>
 v101 = v9101) ∧
 (loadV tab 3 v106 H18 fun v9107 =>
 v107 = v9107) ∧
 CallT Try.prog 72 [v99, v105, v107] H18 fun v108 H19 =>
 (loadV tab 24 v100 H19 fun v9101 =>
 v101 = v9101) ∧
 buildSliceV tab 24 1 [(0, v108)] H19 (wkK fun v109 H20 =>
 (loadV tab 24 v100 H20 fun v9101 =>
 v101 = v9101) ∧
 appendV tab 24 24 v101 v109 H20 (wkK fun v110 H21 =>
 fieldAddrV tab 30 v6 3 fun v111 =>
 storeV tab 24 v111 v110 H21 fun H22 =>
 binV tab .add 3 v96 (AV.p (.int .i64 1)) fun v112 =>
 N1 v112 H22)))
 (fieldAddrV tab 30 v3 3 fun v113 =>
 loadV tab 24 v113 H fun v114 =>
 lenV tab 24 v114 fun v115 =>
 L28_4 K v2 v3 v4 v6 v114 v115 (AV.p (.int .i64 0)) H)
def B28_0 (K : AV → Heap → Prop) (N1 : AV → Heap → Prop) (v2 : AV) (v3 : AV) (v4 : AV) (v6 : AV) (v7 : AV) (H : Heap) : Prop :=
 fieldAddrV tab 30 v6 0 fun v48 =>
 loadV tab 3 v48 H fun v49 =>
 binV tab .lss 3 v7 v49 fun v50 =>
 condV v50 (L28_1 K N1 v2 v3 v4 v6 v7 (AV.p (.int .i64 0)) H)
 (fieldAddrV tab 30 v2 3 fun v93 =>
 loadV tab 24 v93 H fun v94 =>
 lenV tab 24 v94 fun v95 =>
 L28_3 K v2 v3 v4 v6 v94 v95 (AV.p (.int .i64 0)) H)
def W28 (v0 : AV) (v1 : AV) (H : Heap) (K : AV → Heap → Prop) : Prop :=
 boxV v0 H fun v2 H1 =>
 boxV v1 H1 fun v3 H2 =>
 allocV tab 30 H2 fun v4 H3 =>
 loadV tab 30 v2 H3 fun v17 =>
 CallT Try.prog 35 [v17] H3 fun v18 H4 =>
 unV .not v18 fun v19 =>
 grdV v19 false (loadV tab 30 v3 H4 fun v21 =>
 CallT Try.prog 35 [v21] H4 fun v22 H5 =>
 unV .not v22 fun v23 =>
 grdV v23 false (fieldAddrV tab 30 v2 0 fun v26 =>
 loadV tab 3 v26 H5 fun v27 =>
 fieldAddrV tab 30 v3 0 fun v28 =>
 loadV tab 3 v28 H5 fun v29 =>
 binV tab .mul 3 v27 v29 fun v30 =>
 binV tab .gtr 3 v30 (AV.p (.int .i64 96)) fun v31 =>
 condV v31 (buildV tab 30 [] fun v33 =>
 storeV tab 30 v4 v33 H5 fun H6 =>
 loadV tab 30 v4 H6 fun r0 =>
 K (.tup [r0, (AV.p (.bool false))]) H6)
 (fieldAddrV tab 30 v2 0 fun v34 =>
 loadV tab 3 v34 H5 fun v35 =>
 fieldAddrV tab 30 v3 0 fun v36 =>
 loadV tab 3 v36 H5 fun v37 =>
 binV tab .mul 3 v35 v37 fun v38 =>
 fieldAddrV tab 30 v2 1 fun v39 =>
 loadV tab 22 v39 H5 fun v40 =>
 fieldAddrV tab 30 v3 1 fun v41 =>
 loadV tab 22 v41 H5 fun v42 =>
 fieldAddrV tab 30 v3 0 fun v43 =>
 loadV tab 3 v43 H5 fun v44 =>
 CallT Try.prog 72 [v40, v42, v44] H5 fun v45 H7 =>
 (loadV tab 3 v34 H7 fun v9035 =>
 v35 = v9035) ∧
 (loadV tab 3 v36 H7 fun v9037 =>
 v37 = v9037) ∧
 buildV tab 30 [(0, v38), (1, v45)] fun v46 =>
 allocV tab 30 H7 fun v6 H8 =>
 storeV tab 30 v6 v46 H8 fun H9 =>
 L28_0 K v2 v3 v4 v6 (AV.p (.int .i64 0)) H9))
 (buildV tab 30 [] fun v33 =>
 storeV tab 30 v4 v33 H5 fun H31 =>
 loadV tab 30 v4 H31 fun r0 =>
 K (.tup [r0, (AV.p (.bool false))]) H31))
 (buildV tab 30 [] fun v33 =>
 storeV tab 30 v4 v33 H4 fun H32 =>
 loadV tab 30 v4 H32 fun r0 =>
 K (.tup [r0, (AV.p (.bool false))]) H32)
theorem W28_wp (v0 : AV) (v1 : AV) (H : Heap) (K : AV → Heap → Prop) : wpC Try.prog tab D28 (bodyOf Try.f28) (retF tab [.cell 4 30, .tmp 5] K) (nthA [v0, v1]) H = W28 v0 v1 H K := by kernel_rfl
theorem W28_ok {v0 v1 : AV} {H : Heap} {K : AV → Heap → Prop} (h : W28 v0 v1 H K) : CallT Try.prog 28 [v0, v1] H K :=
  CallT.of_wp (D := D28) tab_ok mixed Try.func28 (c := bodyOf Try.f28) (by kernel_rfl) rfl (by kernel_rfl) (rs := #[.cell 4 30, .tmp 5]) rfl (by decide +kernel) (by kernel_rfl) (W28_wp v0 v1 H K) h
theorem W28_hb : HasBody Try.prog 28 := ⟨_, bodyOf Try.f28, Try.func28, by kernel_rfl, rfl⟩
theorem L28_2_rule {K : AV → Heap → Prop} {N1 : AV → Heap → Prop} {N2 : AV → Heap → Prop} {v2 v3 v4 v6 v7 v8 v77 v78 v79 : AV} {H : Heap} {σ : Type} (s0 : σ) (f79 : σ → AV) (TH : σ → Heap) (pre : σ → Prop) (μ : σ → Nat)
    (h0 : pre s0 ∧ AV.wk v79 (f79 s0) ∧ Heap.le (TH s0) H)
    (round : ∀ s, pre s → B28_2 K N1 N2 (fun w79 H' => ∃ s', pre s' ∧ μ s' < μ s ∧ AV.wk w79 (f79 s') ∧ Heap.le (TH s') H') v2 v3 v4 v6 v7 v8 v77 v78 (f79 s) (TH s)) :
    L28_2 K N1 N2 v2 v3 v4 v6 v7 v8 v77 v78 v79 H := by
  unfold L28_2
  exact LoopV.mk s0 (fun s => [f79 s]) TH pre μ (fun _ => rfl) (Eq.mp (by kernel_rfl) h0) (fun s hs => Eq.mp (by kernel_rfl) (round s hs))
theorem L28_2_ruleG {K : AV → Heap → Prop} {N1 : AV → Heap → Prop} {N2 : AV → Heap → Prop} {v2 v3 v4 v6 v7 v8 v77 v78 v79 : AV} {H : Heap} {σ : Type} (s0 : σ) (f79 : σ → AV) (TH : σ → Heap) (pre : σ → Prop) (μ : σ → Nat)
    (h0 : pre s0 ∧ AV.wk v79 (f79 s0) ∧ Heap.le (TH s0) H)
    (round : ∀ s, pre s → ∀ q, TH s q = none → B28_2 K N1 N2 (fun w79 H' => ∃ s', pre s' ∧ μ s' < μ s ∧ AV.wk w79 (f79 s') ∧ Heap.le (TH s') H') v2 v3 v4 v6 v7 v8 v77 v78 (f79 s) ((TH s).set q [])) :
    L28_2 K N1 N2 v2 v3 v4 v6 v7 v8 v77 v78 v79 H := by
  unfold L28_2
  exact LoopV.mkG s0 (fun s => [f79 s]) TH pre μ (fun _ => rfl) (Eq.mp (by kernel_rfl) h0) (fun s hs q hq => Eq.mp (by kernel_rfl) (round s hs q hq))
theorem L28_1_rule {K : AV → Heap → Prop} {N1 : AV → Heap → Prop} {v2 v3 v4 v6 v7 v8 : AV} {H : Heap} {σ : Type} (s0 : σ) (f8 : σ → AV) (TH : σ → Heap) (pre : σ → Prop) (μ : σ → Nat)
    (h0 : pre s0 ∧ AV.wk v8 (f8 s0) ∧ Heap.le (TH s0) H)
    (round : ∀ s, pre s → B28_1 K N1 (fun w8 H' => ∃ s', pre s' ∧ μ s' < μ s ∧ AV.wk w8 (f8 s') ∧ Heap.le (TH s') H') v2 v3 v4 v6 v7 (f8 s) (TH s)) :
    L28_1 K N1 v2 v3 v4 v6 v7 v8 H := by
  unfold L28_1
  exact LoopV.mk s0 (fun s => [f8 s]) TH pre μ (fun _ => rfl) (Eq.mp (by kernel_rfl) h0) (fun s hs => Eq.mp (by kernel_rfl) (round s hs))
theorem L28_1_ruleG {K : AV → Heap → Prop} {N1 : AV → Heap → Prop} {v2 v3 v4 v6 v7 v8 : AV} {H : Heap} {σ : Type} (s0 : σ) (f8 : σ → AV) (TH : σ → Heap) (pre : σ → Prop) (μ : σ → Nat)
    (h0 : pre s0 ∧ AV.wk v8 (f8 s0) ∧ Heap.le (TH s0) H)
    (round : ∀ s, pre s → ∀ q, TH s q = none → B28_1 K N1 (fun w8 H' => ∃ s', pre s' ∧ μ s' < μ s ∧ AV.wk w8 (f8 s') ∧ Heap.le (TH s') H') v2 v3 v4 v6 v7 (f8 s) ((TH s).set q [])) :
    L28_1 K N1 v2 v3 v4 v6 v7 v8 H := by
  unfold L28_1
  exact LoopV.mkG s0 (fun s => [f8 s]) TH pre μ (fun _ => rfl) (Eq.mp (by kernel_rfl) h0) (fun s hs q hq => Eq.mp (by kernel_rfl) (round s hs q hq))
theorem L28_4_rule {K : AV → Heap → Prop} {v2 v3 v4 v6 v114 v115 v116 : AV} {H : Heap} {σ : Type} (s0 : σ) (f116 : σ → AV) (TH : σ → Heap) (pre : σ → Prop) (μ : σ → Nat)
    (h0 : pre s0 ∧ AV.wk v116 (f116 s0) ∧ Heap.le (TH s0) H)
    (round : ∀ s, pre s → B28_4 K (fun w116 H' => ∃ s', pre s' ∧ μ s' < μ s ∧ AV.wk w116 (f116 s') ∧ Heap.le (TH s') H') v2 v3 v4 v6 v114 v115 (f116 s) (TH s)) :
    L28_4 K v2 v3 v4 v6 v114 v115 v116 H := by
  unfold L28_4
  exact LoopV.mk s0 (fun s => [f116 s]) TH pre μ (fun _ => rfl) (Eq.mp (by kernel_rfl) h0) (fun s hs => Eq.mp (by kernel_rfl) (round s hs))
theorem L28_4_ruleG {K : AV → Heap → Prop} {v2 v3 v4 v6 v114 v115 v116 : AV} {H : Heap} {σ : Type} (s0 : σ) (f116 : σ → AV) (TH : σ → Heap) (pre : σ → Prop) (μ : σ → Nat)
    (h0 : pre s0 ∧ AV.wk v116 (f116 s0) ∧ Heap.le (TH s0) H)
    (round : ∀ s, pre s → ∀ q, TH s q = none → B28_4 K (fun w116 H' => ∃ s', pre s' ∧ μ s' < μ s ∧ AV.wk w116 (f116 s') ∧ Heap.le (TH s') H') v2 v3 v4 v6 v114 v115 (f116 s) ((TH s).set q [])) :
    L28_4 K v2 v3 v4 v6 v114 v115 v116 H := by
  unfold L28_4
  exact LoopV.mkG s0 (fun s => [f116 s]) TH pre μ (fun _ => rfl) (Eq.mp (by kernel_rfl) h0) (fun s hs q hq => Eq.mp (by kernel_rfl) (round s hs q hq))
theorem L28_3_rule {K : AV → Heap → Prop} {v2 v3 v4 v6 v94 v95 v96 : AV} {H : Heap} {σ : Type} (s0 : σ) (f96 : σ → AV) (TH : σ → Heap) (pre : σ → Prop) (μ : σ → Nat)
    (h0 : pre s0 ∧ AV.wk v96 (f96 s0) ∧ Heap.le (TH s0) H)
    (round : ∀ s, pre s → B28_3 K (fun w96 H' => ∃ s', pre s' ∧ μ s' < μ s ∧ AV.wk w96 (f96 s') ∧ Heap.le (TH s') H') v2 v3 v4 v6 v94 v95 (f96 s) (TH s)) :
    L28_3 K v2 v3 v4 v6 v94 v95 v96 H := by
  unfold L28_3
  exact LoopV.mk s0 (fun s => [f96 s]) TH pre μ (fun _ => rfl) (Eq.mp (by kernel_rfl) h0) (fun s hs => Eq.mp (by kernel_rfl) (round s hs))
theorem L28_3_ruleG {K : AV → Heap → Prop} {v2 v3 v4 v6 v94 v95 v96 : AV} {H : Heap} {σ : Type} (s0 : σ) (f96 : σ → AV) (TH : σ → Heap) (pre : σ → Prop) (μ : σ → Nat)
    (h0 : pre s0 ∧ AV.wk v96 (f96 s0) ∧ Heap.le (TH s0) H)
    (round : ∀ s, pre s → ∀ q, TH s q = none → B28_3 K (fun w96 H' => ∃ s', pre s' ∧ μ s' < μ s ∧ AV.wk w96 (f96 s') ∧ Heap.le (TH s') H') v2 v3 v4 v6 v94 v95 (f96 s) ((TH s).set q [])) :
    L28_3 K v2 v3 v4 v6 v94 v95 v96 H := by
  unfold L28_3
  exact LoopV.mkG s0 (fun s => [f96 s]) TH pre μ (fun _ => rfl) (Eq.mp (by kernel_rfl) h0) (fun s hs q hq => Eq.mp (by kernel_rfl) (round s hs q hq))
theorem L28_0_rule {K : AV → Heap → Prop} {v2 v3 v4 v6 v7 : AV} {H : Heap} {σ : Type} (s0 : σ) (f7 : σ → AV) (TH : σ → Heap) (pre : σ → Prop) (μ : σ → Nat)
    (h0 : pre s0 ∧ AV.wk v7 (f7 s0) ∧ Heap.le (TH s0) H)
    (round : ∀ s, pre s → B28_0 K (fun w7 H' => ∃ s', pre s' ∧ μ s' < μ s ∧ AV.wk w7 (f7 s') ∧ Heap.le (TH s') H') v2 v3 v4 v6 (f7 s) (TH s)) :
    L28_0 K v2 v3 v4 v6 v7 H := by
  unfold L28_0
  exact LoopV.mk s0 (fun s => [f7 s]) TH pre μ (fun _ => rfl) (Eq.mp (by kernel_rfl) h0) (fun s hs => Eq.mp (by kernel_rfl) (round s hs))
theorem L28_0_ruleG {K : AV → Heap → Prop} {v2 v3 v4 v6 v7 : AV} {H : Heap} {σ : Type} (s0 : σ) (f7 : σ → AV) (TH : σ → Heap) (pre : σ → Prop) (μ : σ → Nat)
    (h0 : pre s0 ∧ AV.wk v7 (f7 s0) ∧ Heap.le (TH s0) H)
    (round : ∀ s, pre s → ∀ q, TH s q = none → B28_0 K (fun w7 H' => ∃ s', pre s' ∧ μ s' < μ s ∧ AV.wk w7 (f7 s') ∧ Heap.le (TH s') H') v2 v3 v4 v6 (f7 s) ((TH s).set q [])) :
    L28_0 K v2 v3 v4 v6 v7 H := by
  unfold L28_0
  exact LoopV.mkG s0 (fun s => [f7 s]) TH pre μ (fun _ => rfl) (Eq.mp (by kernel_rfl) h0) (fun s hs q hq => Eq.mp (by kernel_rfl) (round s hs q hq))
/-- loop.example/g00649/impl.BothAutos -/
def D29 : Info := ⟨29, fun i => ([], []), fun i => ([], [])⟩
def W29 (v0 : AV) (v1 : AV) (H : Heap) (K : AV → Heap → Prop) : Prop :=
 boxV v0 H fun v2 H1 =>
 boxV v1 H1 fun v3 H2 =>
 allocV tab 30 H2 fun v4 H3 =>
 loadV tab 30 v2 H3 fun v6 =>
 CallT Try.prog 42 [v6] H3 fun v7 H4 =>
 unV .not v7 fun v8 =>
 grdV v8 false (loadV tab 30 v3 H4 fun v10 =>
 CallT Try.prog 42 [v10] H4 fun v11 H5 =>
 unV .not v11 fun v12 =>
 grdV v12 false (fieldAddrV tab 30 v2 0 fun v15 =>
 loadV tab 3 v15 H5 fun v16 =>
 fieldAddrV tab 30 v3 0 fun v17 =>
 loadV tab 3 v17 H5 fun v18 =>
 binV tab .mul 3 v16 v18 fun v19 =>
 binV tab .gtr 3 v19 (AV.p (.int .i64 96)) fun v20 =>
 condV v20 (buildV tab 30 [] fun v22 =>
 storeV tab 30 v4 v22 H5 fun H6 =>
 loadV tab 30 v4 H6 fun r0 =>
 K (.tup [r0, (AV.p (.bool false))]) H6)
 (loadV tab 30 v2 H5 fun v23 =>
 loadV tab 30 v3 H5 fun v24 =>
 CallT Try.prog 74 [v23, v24] H5 fun v25 H7 =>
 CallT Try.prog 47 [v25] H7 fun v26 H8 =>
 extractV v26 0 fun v27 =>
 extractV v26 1 fun v28 =>
 storeV tab 30 v4 v27 H8 fun H9 =>
 loadV tab 30 v4 H9 fun r0 =>
 K (.tup [r0, v28]) H9))
 (buildV tab 30 [] fun v22 =>
 storeV tab 30 v4 v22 H5 fun H11 =>
 loadV tab 30 v4 H11 fun r0 =>
 K (.tup [r0, (AV.p (.bool false))]) H11))
 (buildV tab 30 [] fun v22 =>
 storeV tab 30 v4 v22 H4 fun H12 =>
 loadV tab 30 v4 H12 fun r0 =>
 K (.tup [r0, (AV.p (.bool false))]) H12)
theorem W29_wp (v0 : AV) (v1 : AV) (H : Heap) (K : AV → Heap → Prop) : wpC Try.prog tab D29 (bodyOf Try.f29) (retF tab [.cell 4 30, .tmp 5] K) (nthA [v0, v1]) H = W29 v0 v1 H K := by kernel_rfl
theorem W29_ok {v0 v1 : AV} {H : Heap} {K : AV → Heap → Prop} (h : W29 v0 v1 H K) : CallT Try.prog 29 [v0, v1] H K :=
  CallT.of_wp (D := D29) tab_ok mixed Try.func29 (c := bodyOf Try.f29) (by kernel_rfl) rfl (by kernel_rfl) (rs := #[.cell 4 30, .tmp 5]) rfl (by decide +kernel) (by kernel_rfl) (W29_wp v0 v1 H K) h
theorem W29_hb : HasBody Try.prog 29 := ⟨_, bodyOf Try.f29, Try.func29, by kernel_rfl, rfl⟩
/-- loop.example/g00649/laws.szIntS -/
def D32 : Info := ⟨12, fun i => ([], []), fun i => ([], [])⟩
def W32 (v0 : AV) (v1 : AV) (H : Heap) (K : AV → Heap → Prop) : Prop :=
 lenV tab 22 v0 fun v7 =>
 binV tab .sub 3 v1 v7 fun v8 =>
 binV tab .lss 3 v8 (AV.p (.int .i64 0)) fun v10 =>
 condV v10 (K (AV.p (.int .i64 (-1))) H)
 (K v8 H)
theorem W32_wp (v0 : AV) (v1 : AV) (H : Heap) (K : AV → Heap → Prop) : wpC Try.prog tab D32 (bodyOf Try.f32) (retF tab [.tmp 4] K) (nthA [v0, v1]) H = W32 v0 v1 H K := by kernel_rfl
theorem W32_ok {v0 v1 : AV} {H : Heap} {K : AV → Heap → Prop} (h : W32 v0 v1 H K) : CallT Try.prog 32 [v0, v1] H K :=
  CallT.of_wp (D := D32) tab_ok mixed Try.func32 (c := bodyOf Try.f32) (by kernel_rfl) rfl (by kernel_rfl) (rs := #[.tmp 4]) rfl (by decide +kernel) (by kernel_rfl) (W32_wp v0 v1 H K) h
theorem W32_hb : HasBody Try.prog 32 := ⟨_, bodyOf Try.f32, Try.func32, by kernel_rfl, rfl⟩
/-- loop.example/g00649/laws.szEdgeS -/
def D33 : Info := ⟨12, fun i => ([], []), fun i => ([], [])⟩
def W33 (v0 : AV) (v1 : AV) (H : Heap) (K : AV → Heap → Prop) : Prop :=
 lenV tab 23 v0 fun v7 =>
 binV tab .sub 3 v1 v7 fun v8 =>
 binV tab .lss 3 v8 (AV.p (.int .i64 0)) fun v10 =>
 condV v10 (K (AV.p (.int .i64 (-1))) H)
 (K v8 H)
theorem W33_wp (v0 : AV) (v1 : AV) (H : Heap) (K : AV → Heap → Prop) : wpC Try.prog tab D33 (bodyOf Try.f33) (retF tab [.tmp 4] K) (nthA [v0, v1]) H = W33 v0 v1 H K := by kernel_rfl
theorem W33_ok {v0 v1 : AV} {H : Heap} {K : AV → Heap → Prop} (h : W33 v0 v1 H K) : CallT Try.prog 33 [v0, v1] H K :=
  CallT.of_wp (D := D33) tab_ok mixed Try.func33 (c := bodyOf Try.f33) (by kernel_rfl) rfl (by kernel_rfl) (rs := #[.tmp 4]) rfl (by decide +kernel) (by kernel_rfl) (W33_wp v0 v1 H K) h
theorem W33_hb : HasBody Try.prog 33 := ⟨_, bodyOf Try.f33, Try.func33, by kernel_rfl, rfl⟩
/-- loop.example/g00649/laws.szIntSS -/
def D34 : Info := ⟨27, fun i => ([], []), fun i => if i = 5 then ([0], [1, 5]) else ([], [])⟩
def L34_0 (K : AV → Heap → Prop) (v0 : AV) (v1 : AV) (v5 : AV) (H : Heap) : Prop := LoopV (wpC Try.prog tab D34 (cAt [1, 1, 1, 0, 1, 0, 0] (bodyOf Try.f34))) [0] (PostF.block 0 (PostF.thenA (wpC Try.prog tab D34 (cAt [1, 1, 1, 1] (bodyOf Try.f34))) (retF tab [.tmp 4] K))) [1, 5] [v0, v1, AV.any, AV.any, AV.any, v5, AV.any, AV.any, AV.any, AV.any, AV.any, AV.any, AV.any, AV.any, AV.any, AV.any, AV.any, AV.any, AV.any, AV.any, AV.any, AV.any, AV.any, AV.any, AV.any, AV.any, AV.any] H
def B34_0 (K : AV → Heap → Prop) (N1 : AV → AV → Heap → Prop) (v0 : AV) (v1 : AV) (v5 : AV) (H : Heap) : Prop :=
 lenV tab 24 v0 fun v14 =>
 binV tab .lss 3 v5 v14 fun v15 =>
 condV v15 (indexAddrV tab 24 v0 v5 fun v20 =>
 loadV tab 22 v20 H fun v21 =>
 CallT Try.prog 32 [v21, v1] H fun v23 H1 =>
 binV tab .lss 3 v23 (AV.p (.int .i64 0)) fun v25 =>
 condV v25 (K (AV.p (.int .i64 (-1))) H1)
 (binV tab .add 3 v5 (AV.p (.int .i64 1)) fun v17 =>
 N1 v23 v17 H1))
 (K v1 H)
def W34 (v0 : AV) (v1 : AV) (H : Heap) (K : AV → Heap → Prop) : Prop :=
 lenV tab 24 v0 fun v8 =>
 binV tab .sub 3 v1 v8 fun v9 =>
 binV tab .lss 3 v9 (AV.p (.int .i64 0)) fun v11 =>
 condV v11 (K (AV.p (.int .i64 (-1))) H)
 (L34_0 K v0 v9 (AV.p (.int .i64 0)) H)
theorem W34_wp (v0 : AV) (v1 : AV) (H : Heap) (K : AV → Heap → Prop) : wpC Try.prog tab D34 (bodyOf Try.f34) (retF tab [.tmp 4] K) (nthA [v0, v1]) H = W34 v0 v1 H K := by kernel_rfl
theorem W34_ok {v0 v1 : AV} {H : Heap} {K : AV → Heap → Prop} (h : W34 v0 v1 H K) : CallT Try.prog 34 [v0, v1] H K :=
  CallT.of_wp (D := D34) tab_ok mixed Try.func34 (c := bodyOf Try.f34) (by kernel_rfl) rfl (by kernel_rfl) (rs := #[.tmp 4]) rfl (by decide +kernel) (by kernel_rfl) (W34_wp v0 v1 H K) h
theorem W34_hb : HasBody Try.prog 34 := ⟨_, bodyOf Try.f34, Try.func34, by kernel_rfl, rfl⟩
theorem L34_0_rule {K : AV → Heap → Prop} {v0 v1 v5 : AV} {H : Heap} {σ : Type} (s0 : σ) (f1 : σ → AV) (f5 : σ → AV) (TH : σ → Heap) (pre : σ → Prop) (μ : σ → Nat)
    (h0 : pre s0 ∧ AV.wk v1 (f1 s0) ∧ AV.wk v5 (f5 s0) ∧ Heap.le (TH s0) H)
    (round : ∀ s, pre s → B34_0 K (fun w1 w5 H' => ∃ s', pre s' ∧ μ s' < μ s ∧ AV.wk w1 (f1 s') ∧ AV.wk w5 (f5 s') ∧ Heap.le (TH s') H') v0 (f1 s) (f5 s) (TH s)) :
    L34_0 K v0 v1 v5 H := by
  unfold L34_0
  exact LoopV.mk s0 (fun s => [f1 s, f5 s]) TH pre μ (fun _ => rfl) (Eq.mp (by kernel_rfl) h0) (fun s hs => Eq.mp (by kernel_rfl) (round s hs))
theorem L34_0_ruleG {K : AV → Heap → Prop} {v0 v1 v5 : AV} {H : Heap} {σ : Type} (s0 : σ) (f1 : σ → AV) (f5 : σ → AV) (TH : σ → Heap) (pre : σ → Prop) (μ : σ → Nat)
    (h0 : pre s0 ∧ AV.wk v1 (f1 s0) ∧ AV.wk v5 (f5 s0) ∧ Heap.le (TH s0) H)
    (round : ∀ s, pre s → ∀ q, TH s q = none → B34_0 K (fun w1 w5 H' => ∃ s', pre s' ∧ μ s' < μ s ∧ AV.wk w1 (f1 s') ∧ AV.wk w5 (f5 s') ∧ Heap.le (TH s') H') v0 (f1 s) (f5 s) ((TH s).set q [])) :
    L34_0 K v0 v1 v5 H := by
  unfold L34_0
  exact LoopV.mkG s0 (fun s => [f1 s, f5 s]) TH pre μ (fun _ => rfl) (Eq.mp (by kernel_rfl) h0) (fun s hs q hq => Eq.mp (by kernel_rfl) (round s hs q hq))
/-- loop.example/g00649/spec.GoodAuto -/
def D35 : Info := ⟨77, fun i => if i = 6 then ([[], [0], [], [2], [2, 3], [0, 1, 2, 3, 4], [0, 1, 2, 3, 4, 5], [0, 1, 2, 3, 4, 5, 6], [0, 1, 2, 3, 4, 5, 6, 7], [0, 1, 2, 3, 4, 5, 6, 7, 8], [0, 1, 2, 3, 4, 5, 6, 7, 8, 9], [0, 1, 2, 3, 4, 5, 6, 7, 8, 9, 10], [0, 1, 2, 3, 4, 5, 6, 7, 8, 9, 10, 11], [0, 1, 2, 3, 4, 5, 6, 7, 8, 9, 10, 11, 12], [0, 1, 2, 3, 4, 5, 6, 7, 8, 9, 10, 11, 12, 13], [0, 1, 2, 3, 4, 5, 6, 7, 8, 9, 10, 11, 12, 13, 14], [0, 1, 2, 3, 4, 5, 6, 7, 8, 9, 10, 11, 12, 13], [0, 1, 2, 3, 4, 5, 6, 7, 8, 9, 10, 11, 12, 13, 16], [0, 1, 2, 3, 4, 5, 6, 7, 8, 9, 10, 11, 12, 13, 16, 17], [0, 1, 2, 3, 4, 5, 6, 7, 8, 9, 10, 11, 12, 13, 14, 15, 16, 17, 18], [0, 1, 2, 3, 4, 5, 6, 7, 8, 9, 10, 11, 12, 13, 14, 15, 16, 17, 18, 19], [0, 1, 2, 3, 4, 5, 6, 7, 8, 9, 10, 11, 12, 13, 14, 15, 16, 17, 18, 19, 20], [0, 1, 2, 3, 4, 5, 6, 7, 8, 9, 10, 11, 12, 13, 14, 15, 16, 17, 18, 19, 20, 21], [0, 1, 2, 3, 4, 5, 6, 7, 8, 9, 10, 11, 12, 13, 14, 15, 16, 17, 18, 19, 20, 21, 22], [0, 1, 2, 3, 4, 5, 6, 7, 8, 9, 10, 11, 12, 13, 14, 15, 16, 17, 18, 19, 20, 21, 22, 23], [0, 1, 2, 3, 4, 5, 6, 7, 8, 9, 10, 11, 12, 13, 14, 15, 16, 17, 18, 19, 20, 21, 22, 23, 24], [0, 1, 2, 3, 4, 5, 6, 7, 8, 9, 10, 11, 12, 13, 14, 15, 16, 17, 18, 19, 20, 21, 22, 23, 24, 25], [0, 1, 2, 3, 4, 5, 6, 7, 8, 9, 10, 11, 12, 13, 14, 15, 16, 17, 18, 19, 20, 21, 22, 23, 24, 25, 26], [0, 1, 2, 3, 4, 5, 6, 7, 8, 9, 10, 11, 12, 13, 14, 15, 16, 17, 18, 19, 20, 21, 22, 23, 24, 25], [0, 1, 2, 3, 4, 5, 6, 7, 8, 9, 10, 11, 12, 13, 14, 15, 16, 17, 18, 19, 20, 21, 22, 23, 24, 25, 28], [0, 1, 2, 3, 4, 5, 6, 7, 8, 9, 10, 11, 12, 13, 14, 15, 16, 17, 18, 19, 20, 21, 22, 23, 24, 25, 26, 27, 28, 29], [0, 1, 2, 3, 4, 5, 6, 7, 8, 9, 10, 11, 12, 13, 14, 15, 16, 17, 18, 19, 20, 21, 22, 23, 24, 25, 26, 27, 28, 29, 30], [0, 1, 2, 3, 4, 5, 6, 7, 8, 9, 10, 11, 12, 13, 14, 15, 16, 17, 18, 19, 20, 21, 22, 23, 24, 25], [0, 1, 2, 3, 4, 5, 6, 7, 8, 9, 10, 11, 12, 13, 14, 15, 16, 17, 18, 19, 20, 21, 22, 23, 24, 25, 26, 27, 28, 29, 30, 31, 32], [0, 1, 2, 3, 4, 5, 6, 7, 8, 9, 10, 11, 12, 13, 14, 15, 16, 17, 18, 19, 20, 21, 22, 23, 24, 25, 26, 27, 28, 29, 30, 31, 32, 33], [0, 1, 2, 3, 4, 5, 6, 7, 8, 9, 10, 11, 12, 13, 14, 15, 16, 17, 18, 19, 20, 21, 22, 23, 24, 25, 26, 27, 28, 29, 30, 31, 32, 33, 34], [0, 1, 2, 3, 4, 5, 6, 7, 8, 9, 10, 11, 12, 13, 14, 15, 16, 17, 18, 19, 20, 21, 22, 23, 24, 25, 26, 27, 28, 29, 30, 31, 32, 33, 34, 35]], [(0, []), (1, []), (2, []), (3, []), (4, []), (5, []), (6, []), (7, []), (8, []), (9, []), (10, []), (11, []), (12, []), (13, []), (14, []), (15, []), (16, []), (17, []), (18, []), (19, []), (20, []), (21, []), (22, []), (23, []), (24, []), (25, []), (26, []), (27, []), (28, []), (29, []), (30, []), (31, []), (32, []), (33, []), (34, []), (35, []), (36, [])]) else ([], []), fun i => if i = 4 then ([1, 32, 33], [34]) else ([], [])⟩
def L35_0 (K : AV → Heap → Prop) (v1 : AV) (v32 : AV) (v33 : AV) (v34 : AV) (H : Heap) : Prop := LoopV (wpC Try.prog tab D35 (cAt [1, 1, 0, 1, 0, 0] (bodyOf Try.f35))) [1, 32, 33] (PostF.block 0 (PostF.thenA (wpC Try.prog tab D35 (cAt [1, 1, 1] (bodyOf Try.f35))) (retF tab [.tmp 2] K))) [34] [AV.any, v1, AV.any, AV.any, AV.any, AV.any, AV.any, AV.any, AV.any, AV.any, AV.any, AV.any, AV.any, AV.any, AV.any, AV.any, AV.any, AV.any, AV.any, AV.any, AV.any, AV.any, AV.any, AV.any, AV.any, AV.any, AV.any, AV.any, AV.any, AV.any, AV.any, AV.any, v32, v33, v34, AV.any, AV.any, AV.any, AV.any, AV.any, AV.any, AV.any, AV.any, AV.any, AV.any, AV.any, AV.any, AV.any, AV.any, AV.any, AV.any, AV.any, AV.any, AV.any, AV.any, AV.any, AV.any, AV.any, AV.any, AV.any, AV.any, AV.any, AV.any, AV.any, AV.any, AV.any, AV.any, AV.any, AV.any, AV.any, AV.any, AV.any, AV.any, AV.any, AV.any, AV.any, AV.any] H
def B35_0 (K : AV → Heap → Prop) (N1 : AV → Heap → Prop) (v1 : AV) (v32 : AV) (v33 : AV) (v34 : AV) (H : Heap) : Prop :=
 binV tab .lss 3 v34 v33 fun v35 =>
 condV v35 (indexAddrV tab 28 v32 v34 fun v37 =>
 loadV tab 61 v37 H fun v38 =>
 allocV tab 61 H fun v4 H5 =>
 storeV tab 61 v4 v38 H5 fun H6 =>
 fieldAddrV tab 61 v4 0 fun v39 =>
 loadV tab 3 v39 H6 fun v40 =>
 fieldAddrV tab 30 v1 0 fun v41 =>
 loadV tab 3 v41 H6 fun v42 =>
 binV tab .sub 3 v42 (AV.p (.int .i64 1)) fun v43 =>
 CallT Try.prog 76 [v40, (AV.p (.int .i64 0)), v43] H6 fun v44 H7 =>
 unV .not v44 fun v45 =>
 grdV v45 false (fieldAddrV tab 61 v4 1 fun v47 =>
 loadV tab 3 v47 H7 fun v48 =>
 CallT Try.prog 76 [v48, (AV.p (.int .i64 0)), (AV.p (.int .i64 7))] H7 fun v49 H8 =>
 unV .not v49 fun v50 =>
 grdV v50 false (fieldAddrV tab 61 v4 2 fun v53 =>
 loadV tab 3 v53 H8 fun v54 =>
 fieldAddrV tab 30 v1 0 fun v55 =>
 loadV tab 3 v55 H8 fun v56 =>
 binV tab .sub 3 v56 (AV.p (.int .i64 1)) fun v57 =>
 CallT Try.prog 76 [v54, (AV.p (.int .i64 0)), v57] H8 fun v58 H9 =>
 unV .not v58 fun v59 =>
 grdV v59 false (binV tab .gtr 3 v34 (AV.p (.int .i64 0)) fun v63 =>
 grdV v63 true (fieldAddrV tab 30 v1 2 fun v65 =>
 loadV tab 28 v65 H9 fun v66 =>
 binV tab .sub 3 v34 (AV.p (.int .i64 1)) fun v68 =>
 indexAddrV tab 28 v66 v68 fun v69 =>
 loadV tab 61 v69 H9 fun v70 =>
 loadV tab 61 v4 H9 fun v71 =>
 CallT Try.prog 79 [v70, v71] H9 fun v72 H10 =>
 unV .not v72 fun v73 =>
 condV v73 (K (AV.p (.bool false)) H10)
 (binV tab .add 3 v34 (AV.p (.int .i64 1)) fun v76 =>
 N1 v76 H10))
 (binV tab .add 3 v34 (AV.p (.int .i64 1)) fun v76 =>
 N1 v76 H9))
 (K (AV.p (.bool false)) H9))
 (K (AV.p (.bool false)) H8))
 (K (AV.p (.bool false)) H7))
 (K (AV.p (.bool true)) H)
def W35 (v0 : AV) (H : Heap) (K : AV → Heap → Prop) : Prop :=
 boxV v0 H fun v1 H1 =>
 fieldAddrV tab 30 v1 0 fun v5 =>
 loadV tab 3 v5 H1 fun v6 =>
 CallT Try.prog 76 [v6, (AV.p (.int .i64 1)), (AV.p (.int .i64 96))] H1 fun v7 H2 =>
 unV .not v7 fun v8 =>
 grdV v8 false (fieldAddrV tab 30 v1 1 fun v10 =>
 loadV tab 22 v10 H2 fun v11 =>
 fieldAddrV tab 30 v1 0 fun v12 =>
 loadV tab 3 v12 H2 fun v13 =>
 CallT Try.prog 77 [v11, v13] H2 fun v14 H3 =>
 unV .not v14 fun v15 =>
 grdV v15 false (fieldAddrV tab 30 v1 2 fun v18 =>
 loadV tab 28 v18 H3 fun v19 =>
 lenV tab 28 v19 fun v20 =>
 binV tab .gtr 3 v20 (AV.p (.int .i64 2400)) fun v21 =>
 grdV v21 false (fieldAddrV tab 30 v1 3 fun v24 =>
 loadV tab 24 v24 H3 fun v25 =>
 fieldAddrV tab 30 v1 0 fun v26 =>
 loadV tab 3 v26 H3 fun v27 =>
 CallT Try.prog 78 [v25, v27] H3 fun v28 H4 =>
 unV .not v28 fun v29 =>
 condV v29 (K (AV.p (.bool false)) H4)
 (fieldAddrV tab 30 v1 2 fun v31 =>
 loadV tab 28 v31 H4 fun v32 =>
 lenV tab 28 v32 fun v33 =>
 L35_0 K v1 v32 v33 (AV.p (.int .i64 0)) H4))
 (K (AV.p (.bool false)) H3))
 (K (AV.p (.bool false)) H3))
 (K (AV.p (.bool false)) H2)
theorem W35_wp (v0 : AV) (H : Heap) (K : AV → Heap → Prop) : wpC Try.prog tab D35 (bodyOf Try.f35) (retF tab [.tmp 2] K) (nthA [v0]) H = W35 v0 H K := by kernel_rfl
theorem W35_ok {v0 : AV} {H : Heap} {K : AV → Heap → Prop} (h : W35 v0 H K) : CallT Try.prog 35 [v0] H K :=
  CallT.of_wp (D := D35) tab_ok mixed Try.func35 (c := bodyOf Try.f35) (by kernel_rfl) rfl (by kernel_rfl) (rs := #[.tmp 2]) rfl (by decide +kernel) (by kernel_rfl) (W35_wp v0 H K) h
theorem W35_hb : HasBody Try.prog 35 := ⟨_, bodyOf Try.f35, Try.func35, by kernel_rfl, rfl⟩
theorem L35_0_rule {K : AV → Heap → Prop} {v1 v32 v33 v34 : AV} {H : Heap} {σ : Type} (s0 : σ) (f34 : σ → AV) (TH : σ → Heap) (pre : σ → Prop) (μ : σ → Nat)
    (h0 : pre s0 ∧ AV.wk v34 (f34 s0) ∧ Heap.le (TH s0) H)
    (round : ∀ s, pre s → B35_0 K (fun w34 H' => ∃ s', pre s' ∧ μ s' < μ s ∧ AV.wk w34 (f34 s') ∧ Heap.le (TH s') H') v1 v32 v33 (f34 s) (TH s)) :
    L35_0 K v1 v32 v33 v34 H := by
  unfold L35_0
  exact LoopV.mk s0 (fun s => [f34 s]) TH pre μ (fun _ => rfl) (Eq.mp (by kernel_rfl) h0) (fun s hs => Eq.mp (by kernel_rfl) (round s hs))
theorem L35_0_ruleG {K : AV → Heap → Prop} {v1 v32 v33 v34 : AV} {H : Heap} {σ : Type} (s0 : σ) (f34 : σ → AV) (TH : σ → Heap) (pre : σ → Prop) (μ : σ → Nat)
    (h0 : pre s0 ∧ AV.wk v34 (f34 s0) ∧ Heap.le (TH s0) H)
    (round : ∀ s, pre s → ∀ q, TH s q = none → B35_0 K (fun w34 H' => ∃ s', pre s' ∧ μ s' < μ s ∧ AV.wk w34 (f34 s') ∧ Heap.le (TH s') H') v1 v32 v33 (f34 s) ((TH s).set q [])) :
    L35_0 K v1 v32 v33 v34 H := by
  unfold L35_0
  exact LoopV.mkG s0 (fun s => [f34 s]) TH pre μ (fun _ => rfl) (Eq.mp (by kernel_rfl) h0) (fun s hs q hq => Eq.mp (by kernel_rfl) (round s hs q hq))
/-- loop.example/g00649/spec.l12Made -/
def D38 : Info := ⟨9, fun i => ([], []), fun i => ([], [])⟩
def W38 (v0 : AV) (H : Heap) (K : AV → Heap → Prop) : Prop :=
 boxV v0 H fun v1 H1 =>
 allocV tab 30 H1 fun v2 H2 =>
 loadV tab 30 v1 H2 fun v4 =>
 CallT Try.prog 35 [v4] H2 fun v5 H3 =>
 unV .not v5 fun v6 =>
 condV v6 (buildV tab 30 [] fun v7 =>
 storeV tab 30 v2 v7 H3 fun H4 =>
 loadV tab 30 v2 H4 fun r0 =>
 K (.tup [r0, (AV.p (.bool false))]) H4)
 (loadV tab 30 v1 H3 fun v8 =>
 storeV tab 30 v2 v8 H3 fun H5 =>
 loadV tab 30 v2 H5 fun r0 =>
 K (.tup [r0, (AV.p (.bool true))]) H5)
theorem W38_wp (v0 : AV) (H : Heap) (K : AV → Heap → Prop) : wpC Try.prog tab D38 (bodyOf Try.f38) (retF tab [.cell 2 30, .tmp 3] K) (nthA [v0]) H = W38 v0 H K := by kernel_rfl
theorem W38_ok {v0 : AV} {H : Heap} {K : AV → Heap → Prop} (h : W38 v0 H K) : CallT Try.prog 38 [v0] H K :=
  CallT.of_wp (D := D38) tab_ok mixed Try.func38 (c := bodyOf Try.f38) (by kernel_rfl) rfl (by kernel_rfl) (rs := #[.cell 2 30, .tmp 3]) rfl (by decide +kernel) (by kernel_rfl) (W38_wp v0 H K) h
theorem W38_hb : HasBody Try.prog 38 := ⟨_, bodyOf Try.f38, Try.func38, by kernel_rfl, rfl⟩
/-- loop.example/g00649/laws.toIntS -/
def D39 : Info := ⟨22, fun i => ([], []), fun i => if i = 3 then ([0, 3], [4]) else ([], [])⟩
def L39_0 (K : AV → Heap → Prop) (v0 : AV) (v3 : AV) (v4 : AV) (H : Heap) : Prop := LoopV (wpC Try.prog tab D39 (cAt [1, 1, 0, 1, 0, 0] (bodyOf Try.f39))) [0, 3] (PostF.block 0 (PostF.thenA (wpC Try.prog tab D39 (cAt [1, 1, 1] (bodyOf Try.f39))) (retF tab [.tmp 2] K))) [4] [v0, AV.any, AV.any, v3, v4, AV.any, AV.any, AV.any, AV.any, AV.any, AV.any, AV.any, AV.any, AV.any, AV.any, AV.any, AV.any, AV.any, AV.any, AV.any, AV.any, AV.any] H
def B39_0 (K : AV → Heap → Prop) (N1 : AV → Heap → Prop) (v0 : AV) (v3 : AV) (v4 : AV) (H : Heap) : Prop :=
 lenV tab 22 v0 fun v10 =>
 binV tab .lss 3 v4 v10 fun v11 =>
 condV v11 (indexAddrV tab 22 v0 v4 fun v18 =>
 loadV tab 3 v18 H fun v19 =>
 indexAddrV tab 22 v3 v4 fun v20 =>
 storeV tab 3 v20 v19 H fun H2 =>
 binV tab .add 3 v4 (AV.p (.int .i64 1)) fun v13 =>
 N1 v13 H2)
 (K v3 H)
def W39 (v0 : AV) (H : Heap) (K : AV → Heap → Prop) : Prop :=
 lenV tab 22 v0 fun v6 =>
 makeSliceV tab 22 v6 v6 H fun v7 H1 =>
 L39_0 K v0 v7 (AV.p (.int .i64 0)) H1
theorem W39_wp (v0 : AV) (H : Heap) (K : AV → Heap → Prop) : wpC Try.prog tab D39 (bodyOf Try.f39) (retF tab [.tmp 2] K) (nthA [v0]) H = W39 v0 H K := by kernel_rfl
theorem W39_ok {v0 : AV} {H : Heap} {K : AV → Heap → Prop} (h : W39 v0 H K) : CallT Try.prog 39 [v0] H K :=
  CallT.of_wp (D := D39) tab_ok mixed Try.func39 (c := bodyOf Try.f39) (by kernel_rfl) rfl (by kernel_rfl) (rs := #[.tmp 2]) rfl (by decide +kernel) (by kernel_rfl) (W39_wp v0 H K) h
theorem W39_hb : HasBody Try.prog 39 := ⟨_, bodyOf Try.f39, Try.func39, by kernel_rfl, rfl⟩
theorem L39_0_rule {K : AV → Heap → Prop} {v0 v3 v4 : AV} {H : Heap} {σ : Type} (s0 : σ) (f4 : σ → AV) (TH : σ → Heap) (pre : σ → Prop) (μ : σ → Nat)
    (h0 : pre s0 ∧ AV.wk v4 (f4 s0) ∧ Heap.le (TH s0) H)
    (round : ∀ s, pre s → B39_0 K (fun w4 H' => ∃ s', pre s' ∧ μ s' < μ s ∧ AV.wk w4 (f4 s') ∧ Heap.le (TH s') H') v0 v3 (f4 s) (TH s)) :
    L39_0 K v0 v3 v4 H := by
  unfold L39_0
  exact LoopV.mk s0 (fun s => [f4 s]) TH pre μ (fun _ => rfl) (Eq.mp (by kernel_rfl) h0) (fun s hs => Eq.mp (by kernel_rfl) (round s hs))
theorem L39_0_ruleG {K : AV → Heap → Prop} {v0 v3 v4 : AV} {H : Heap} {σ : Type} (s0 : σ) (f4 : σ → AV) (TH : σ → Heap) (pre : σ → Prop) (μ : σ → Nat)
    (h0 : pre s0 ∧ AV.wk v4 (f4 s0) ∧ Heap.le (TH s0) H)
    (round : ∀ s, pre s → ∀ q, TH s q = none → B39_0 K (fun w4 H' => ∃ s', pre s' ∧ μ s' < μ s ∧ AV.wk w4 (f4 s') ∧ Heap.le (TH s') H') v0 v3 (f4 s) ((TH s).set q [])) :
    L39_0 K v0 v3 v4 H := by
  unfold L39_0
  exact LoopV.mkG s0 (fun s => [f4 s]) TH pre μ (fun _ => rfl) (Eq.mp (by kernel_rfl) h0) (fun s hs q hq => Eq.mp (by kernel_rfl) (round s hs q hq))
/-- loop.example/g00649/laws.toEdgeS -/
def D40 : Info := ⟨23, fun i => ([], []), fun i => if i = 3 then ([0, 3], [4]) else ([], [])⟩
def L40_0 (K : AV → Heap → Prop) (v0 : AV) (v3 : AV) (v4 : AV) (H : Heap) : Prop := LoopV (wpC Try.prog tab D40 (cAt [1, 1, 0, 1, 0, 0] (bodyOf Try.f40))) [0, 3] (PostF.block 0 (PostF.thenA (wpC Try.prog tab D40 (cAt [1, 1, 1] (bodyOf Try.f40))) (retF tab [.tmp 2] K))) [4] [v0, AV.any, AV.any, v3, v4, AV.any, AV.any, AV.any, AV.any, AV.any, AV.any, AV.any, AV.any, AV.any, AV.any, AV.any, AV.any, AV.any, AV.any, AV.any, AV.any, AV.any, AV.any] H
def B40_0 (K : AV → Heap → Prop) (N1 : AV → Heap → Prop) (v0 : AV) (v3 : AV) (v4 : AV) (H : Heap) : Prop :=
 lenV tab 23 v0 fun v10 =>
 binV tab .lss 3 v4 v10 fun v11 =>
 condV v11 (indexAddrV tab 23 v0 v4 fun v18 =>
 loadV tab 90 v18 H fun v19 =>
 CallT Try.prog 80 [v19] H fun v20 H2 =>
 indexAddrV tab 28 v3 v4 fun v21 =>
 storeV tab 61 v21 v20 H2 fun H3 =>
 binV tab .add 3 v4 (AV.p (.int .i64 1)) fun v13 =>
 N1 v13 H3)
 (K v3 H)
def W40 (v0 : AV) (H : Heap) (K : AV → Heap → Prop) : Prop :=
 lenV tab 23 v0 fun v6 =>
 makeSliceV tab 28 v6 v6 H fun v7 H1 =>
 L40_0 K v0 v7 (AV.p (.int .i64 0)) H1
theorem W40_wp (v0 : AV) (H : Heap) (K : AV → Heap → Prop) : wpC Try.prog tab D40 (bodyOf Try.f40) (retF tab [.tmp 2] K) (nthA [v0]) H = W40 v0 H K := by kernel_rfl
theorem W40_ok {v0 : AV} {H : Heap} {K : AV → Heap → Prop} (h : W40 v0 H K) : CallT Try.prog 40 [v0] H K :=
  CallT.of_wp (D := D40) tab_ok mixed Try.func40 (c := bodyOf Try.f40) (by kernel_rfl) rfl (by kernel_rfl) (rs := #[.tmp 2]) rfl (by decide +kernel) (by kernel_rfl) (W40_wp v0 H K) h
theorem W40_hb : HasBody Try.prog 40 := ⟨_, bodyOf Try.f40, Try.func40, by kernel_rfl, rfl⟩
theorem L40_0_rule {K : AV → Heap → Prop} {v0 v3 v4 : AV} {H : Heap} {σ : Type} (s0 : σ) (f4 : σ → AV) (TH : σ → Heap) (pre : σ → Prop) (μ : σ → Nat)
    (h0 : pre s0 ∧ AV.wk v4 (f4 s0) ∧ Heap.le (TH s0) H)
    (round : ∀ s, pre s → B40_0 K (fun w4 H' => ∃ s', pre s' ∧ μ s' < μ s ∧ AV.wk w4 (f4 s') ∧ Heap.le (TH s') H') v0 v3 (f4 s) (TH s)) :
    L40_0 K v0 v3 v4 H := by
  unfold L40_0
  exact LoopV.mk s0 (fun s => [f4 s]) TH pre μ (fun _ => rfl) (Eq.mp (by kernel_rfl) h0) (fun s hs => Eq.mp (by kernel_rfl) (round s hs))
theorem L40_0_ruleG {K : AV → Heap → Prop} {v0 v3 v4 : AV} {H : Heap} {σ : Type} (s0 : σ) (f4 : σ → AV) (TH : σ → Heap) (pre : σ → Prop) (μ : σ → Nat)
    (h0 : pre s0 ∧ AV.wk v4 (f4 s0) ∧ Heap.le (TH s0) H)
    (round : ∀ s, pre s → ∀ q, TH s q = none → B40_0 K (fun w4 H' => ∃ s', pre s' ∧ μ s' < μ s ∧ AV.wk w4 (f4 s') ∧ Heap.le (TH s') H') v0 v3 (f4 s) ((TH s).set q [])) :
    L40_0 K v0 v3 v4 H := by
  unfold L40_0
  exact LoopV.mkG s0 (fun s => [f4 s]) TH pre μ (fun _ => rfl) (Eq.mp (by kernel_rfl) h0) (fun s hs q hq => Eq.mp (by kernel_rfl) (round s hs q hq))
end Go.Proofs.Ytfbaijpanbjmpaa
