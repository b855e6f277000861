/- What each function's code is asked for, as a formula. Written by wgen.py (a program of this session's) out of Lean's print of the program. -/
import Derived.KernelRfl
import Derived.Test.YtlcnoflmlonikaaTab
import Derived.Test.YtlcnoflmlonikaaSepC
namespace Go.Proofs.Ytlcnoflmlonikaa
open Go Go.Sep
set_option linter.unusedVariables false
attribute [local irreducible] wpC headF
/-- loop.example/g00649/laws.FnExactBeforeOne -/
def D3 : Info := ⟨124, fun i => if i = 14 then ([[], [], [1], [0, 1, 2], [0, 1, 2, 3]], [(0, []), (1, []), (2, [0]), (3, []), (4, [])]) else ([], []), fun i => ([], [])⟩
def W3 (v0 : AV) (v1 : AV) (v2 : AV) (H : Heap) (K : AV → Heap → Prop) : Prop :=
 boxV v0 H fun v3 H1 =>
 loadV tab 25 v3 H1 fun v19 =>
 CallT Try.prog 6 [v19, (AV.p (.int .i64 1048576))] H1 fun v21 H2 =>
 binV tab .lss 3 v21 (AV.p (.int .i64 0)) fun v23 =>
 condV v23 (K (AV.p (.bool true)) H2)
 (CallT Try.prog 7 [v2, v21] H2 fun v26 H3 =>
 binV tab .lss 3 v26 (AV.p (.int .i64 0)) fun v28 =>
 condV v28 (K (AV.p (.bool true)) H3)
 (loadV tab 25 v3 H3 fun v30 =>
 CallT Try.prog 9 [v30] H3 fun v31 H4 =>
 CallT Try.prog 10 [v2] H4 fun v34 H5 =>
 CallT Try.prog 8 [v31, v1, v34] H5 fun v35 H6 =>
 extractV v35 0 fun v36 =>
 extractV v35 1 fun v37 =>
 loadV tab 25 v3 H6 fun v38 =>
 CallT Try.prog 9 [v38] H6 fun v39 H7 =>
 allocV tab 33 H7 fun v10 H8 =>
 storeV tab 33 v10 v39 H8 fun H9 =>
 CallT Try.prog 10 [v2] H9 fun v41 H10 =>
 loadV tab 33 v10 H10 fun v43 =>
 CallT Try.prog 11 [v43, v1, v41] H10 fun v46 H11 =>
 extractV v46 0 fun v47 =>
 extractV v46 1 fun v48 =>
 CallT Try.prog 12 [v47, v36] H11 fun v51 H12 =>
 unV .not v51 fun v52 =>
 grdV v52 false (binV tab .neq 4 v48 v37 fun v56 =>
 condV v56 (K (AV.p (.bool false)) H12)
 (loadV tab 33 v10 H12 fun v58 =>
 loadV tab 25 v3 H12 fun v59 =>
 CallT Try.prog 9 [v59] H12 fun v60 H13 =>
 (loadV tab 33 v10 H13 fun v9058 =>
 v58 = v9058) ∧
 CallT Try.prog 13 [v58, v60] H13 fun v61 H14 =>
 unV .not v61 fun v62 =>
 condV v62 (K (AV.p (.bool false)) H14)
 (CallT Try.prog 10 [v2] H14 fun v65 H15 =>
 CallT Try.prog 12 [v41, v65] H15 fun v66 H16 =>
 unV .not v66 fun v67 =>
 condV v67 (K (AV.p (.bool false)) H16)
 (loadV tab 33 v10 H16 fun v68 =>
 CallT Try.prog 14 [v68, (AV.p (.int .i64 1))] H16 fun v70 H17 =>
 CallT Try.prog 15 [v41, v70] H17 fun v73 H18 =>
 binV tab .lss 3 v73 (AV.p (.int .i64 0)) fun v75 =>
 grdV v75 false (CallT Try.prog 12 [v47, v36] H18 fun v79 H19 =>
 unV .not v79 fun v80 =>
 grdV v80 false (binV tab .neq 4 v48 v37 fun v85 =>
 condV v85 (K (AV.p (.bool false)) H19)
 (CallT Try.prog 15 [v47, (AV.p (.int .i64 1))] H19 fun v89 H20 =>
 CallT Try.prog 16 [v47, (AV.p (.int .i64 1))] H20 fun v92 H21 =>
 binV tab .lss 3 v92 (AV.p (.int .i64 0)) fun v94 =>
 condV v94 (K (AV.p (.bool false)) H21)
 (binV tab .neq 3 v92 v89 fun v97 =>
 condV v97 (K (AV.p (.bool false)) H21)
 (loadV tab 25 v3 H21 fun v99 =>
 CallT Try.prog 9 [v99] H21 fun v100 H22 =>
 CallT Try.prog 10 [v2] H22 fun v103 H23 =>
 CallT Try.prog 11 [v100, v1, v103] H23 fun v104 H24 =>
 extractV v104 0 fun v105 =>
 extractV v104 1 fun v106 =>
 CallT Try.prog 12 [v105, v36] H24 fun v109 H25 =>
 unV .not v109 fun v110 =>
 grdV v110 false (binV tab .neq 4 v106 v37 fun v114 =>
 condV v114 (K (AV.p (.bool false)) H25)
 (CallT Try.prog 16 [v47, (AV.p (.int .i64 1))] H25 fun v118 H26 =>
 binV tab .lss 3 v118 (AV.p (.int .i64 0)) fun v120 =>
 condV v120 (K (AV.p (.bool false)) H26)
 (binV tab .neq 3 v118 v89 fun v123 =>
 condV v123 (K (AV.p (.bool false)) H26)
 (K (AV.p (.bool true)) H26))))
 (K (AV.p (.bool false)) H25)))))
 (K (AV.p (.bool false)) H19))
 (K (AV.p (.bool false)) H18)))))
 (K (AV.p (.bool false)) H12)))
theorem W3_wp (v0 : AV) (v1 : AV) (v2 : AV) (H : Heap) (K : AV → Heap → Prop) : wpC Try.prog tab D3 (bodyOf Try.f3) (retF tab [.tmp 6] K) (nthA [v0, v1, v2]) H = W3 v0 v1 v2 H K := by kernel_rfl
theorem W3_ok {v0 v1 v2 : AV} {H : Heap} {K : AV → Heap → Prop} (h : W3 v0 v1 v2 H K) : CallT Try.prog 3 [v0, v1, v2] H K :=
  CallT.of_wp (D := D3) tab_ok mixed Try.func3 (c := bodyOf Try.f3) (by kernel_rfl) rfl (by kernel_rfl) (rs := #[.tmp 6]) rfl (by decide +kernel) (by kernel_rfl) (W3_wp v0 v1 v2 H K) h
theorem W3_hb : HasBody Try.prog 3 := ⟨_, bodyOf Try.f3, Try.func3, by kernel_rfl, rfl⟩
/-- loop.example/g00649/laws.FnExactBeforeIf -/
def D4 : Info := ⟨124, fun i => if i = 14 then ([[], [], [1], [0, 1, 2], [0, 1, 2, 3]], [(0, []), (1, []), (2, [0]), (3, []), (4, [])]) else ([], []), fun i => ([], [])⟩
def W4 (v0 : AV) (v1 : AV) (v2 : AV) (H : Heap) (K : AV → Heap → Prop) : Prop :=
 boxV v0 H fun v3 H1 =>
 loadV tab 25 v3 H1 fun v19 =>
 CallT Try.prog 6 [v19, (AV.p (.int .i64 1048576))] H1 fun v21 H2 =>
 binV tab .lss 3 v21 (AV.p (.int .i64 0)) fun v23 =>
 condV v23 (K (AV.p (.bool true)) H2)
 (CallT Try.prog 7 [v2, v21] H2 fun v26 H3 =>
 binV tab .lss 3 v26 (AV.p (.int .i64 0)) fun v28 =>
 condV v28 (K (AV.p (.bool true)) H3)
 (loadV tab 25 v3 H3 fun v30 =>
 CallT Try.prog 9 [v30] H3 fun v31 H4 =>
 CallT Try.prog 10 [v2] H4 fun v34 H5 =>
 CallT Try.prog 17 [v31, v1, v34] H5 fun v35 H6 =>
 extractV v35 0 fun v36 =>
 extractV v35 1 fun v37 =>
 loadV tab 25 v3 H6 fun v38 =>
 CallT Try.prog 9 [v38] H6 fun v39 H7 =>
 allocV tab 33 H7 fun v10 H8 =>
 storeV tab 33 v10 v39 H8 fun H9 =>
 CallT Try.prog 10 [v2] H9 fun v41 H10 =>
 loadV tab 33 v10 H10 fun v43 =>
 CallT Try.prog 18 [v43, v1, v41] H10 fun v46 H11 =>
 extractV v46 0 fun v47 =>
 extractV v46 1 fun v48 =>
 CallT Try.prog 12 [v47, v36] H11 fun v51 H12 =>
 unV .not v51 fun v52 =>
 grdV v52 false (binV tab .neq 4 v48 v37 fun v56 =>
 condV v56 (K (AV.p (.bool false)) H12)
 (loadV tab 33 v10 H12 fun v58 =>
 loadV tab 25 v3 H12 fun v59 =>
 CallT Try.prog 9 [v59] H12 fun v60 H13 =>
 (loadV tab 33 v10 H13 fun v9058 =>
 v58 = v9058) ∧
 CallT Try.prog 13 [v58, v60] H13 fun v61 H14 =>
 unV .not v61 fun v62 =>
 condV v62 (K (AV.p (.bool false)) H14)
 (CallT Try.prog 10 [v2] H14 fun v65 H15 =>
 CallT Try.prog 12 [v41, v65] H15 fun v66 H16 =>
 unV .not v66 fun v67 =>
 condV v67 (K (AV.p (.bool false)) H16)
 (loadV tab 33 v10 H16 fun v68 =>
 CallT Try.prog 14 [v68, (AV.p (.int .i64 1))] H16 fun v70 H17 =>
 CallT Try.prog 15 [v41, v70] H17 fun v73 H18 =>
 binV tab .lss 3 v73 (AV.p (.int .i64 0)) fun v75 =>
 grdV v75 false (CallT Try.prog 12 [v47, v36] H18 fun v79 H19 =>
 unV .not v79 fun v80 =>
 grdV v80 false (binV tab .neq 4 v48 v37 fun v85 =>
 condV v85 (K (AV.p (.bool false)) H19)
 (CallT Try.prog 15 [v47, (AV.p (.int .i64 1))] H19 fun v89 H20 =>
 CallT Try.prog 16 [v47, (AV.p (.int .i64 1))] H20 fun v92 H21 =>
 binV tab .lss 3 v92 (AV.p (.int .i64 0)) fun v94 =>
 condV v94 (K (AV.p (.bool false)) H21)
 (binV tab .neq 3 v92 v89 fun v97 =>
 condV v97 (K (AV.p (.bool false)) H21)
 (loadV tab 25 v3 H21 fun v99 =>
 CallT Try.prog 9 [v99] H21 fun v100 H22 =>
 CallT Try.prog 10 [v2] H22 fun v103 H23 =>
 CallT Try.prog 18 [v100, v1, v103] H23 fun v104 H24 =>
 extractV v104 0 fun v105 =>
 extractV v104 1 fun v106 =>
 CallT Try.prog 12 [v105, v36] H24 fun v109 H25 =>
 unV .not v109 fun v110 =>
 grdV v110 false (binV tab .neq 4 v106 v37 fun v114 =>
 condV v114 (K (AV.p (.bool false)) H25)
 (CallT Try.prog 16 [v47, (AV.p (.int .i64 1))] H25 fun v118 H26 =>
 binV tab .lss 3 v118 (AV.p (.int .i64 0)) fun v120 =>
 condV v120 (K (AV.p (.bool false)) H26)
 (binV tab .neq 3 v118 v89 fun v123 =>
 condV v123 (K (AV.p (.bool false)) H26)
 (K (AV.p (.bool true)) H26))))
 (K (AV.p (.bool false)) H25)))))
 (K (AV.p (.bool false)) H19))
 (K (AV.p (.bool false)) H18)))))
 (K (AV.p (.bool false)) H12)))
theorem W4_wp (v0 : AV) (v1 : AV) (v2 : AV) (H : Heap) (K : AV → Heap → Prop) : wpC Try.prog tab D4 (bodyOf Try.f4) (retF tab [.tmp 6] K) (nthA [v0, v1, v2]) H = W4 v0 v1 v2 H K := by kernel_rfl
theorem W4_ok {v0 v1 v2 : AV} {H : Heap} {K : AV → Heap → Prop} (h : W4 v0 v1 v2 H K) : CallT Try.prog 4 [v0, v1, v2] H K :=
  CallT.of_wp (D := D4) tab_ok mixed Try.func4 (c := bodyOf Try.f4) (by kernel_rfl) rfl (by kernel_rfl) (rs := #[.tmp 6]) rfl (by decide +kernel) (by kernel_rfl) (W4_wp v0 v1 v2 H K) h
theorem W4_hb : HasBody Try.prog 4 := ⟨_, bodyOf Try.f4, Try.func4, by kernel_rfl, rfl⟩
/-- loop.example/g00649/laws.FnExactBeforeAll -/
def D5 : Info := ⟨119, fun i => if i = 14 then ([[], [], [1], [0, 1, 2], [0, 1, 2, 3]], [(0, []), (1, []), (2, [0]), (3, []), (4, [])]) else ([], []), fun i => ([], [])⟩
def W5 (v0 : AV) (v1 : AV) (H : Heap) (K : AV → Heap → Prop) : Prop :=
 boxV v0 H fun v2 H1 =>
 loadV tab 25 v2 H1 fun v17 =>
 CallT Try.prog 6 [v17, (AV.p (.int .i64 1048576))] H1 fun v19 H2 =>
 binV tab .lss 3 v19 (AV.p (.int .i64 0)) fun v21 =>
 condV v21 (K (AV.p (.bool true)) H2)
 (CallT Try.prog 7 [v1, v19] H2 fun v24 H3 =>
 binV tab .lss 3 v24 (AV.p (.int .i64 0)) fun v26 =>
 condV v26 (K (AV.p (.bool true)) H3)
 (loadV tab 25 v2 H3 fun v28 =>
 CallT Try.prog 9 [v28] H3 fun v29 H4 =>
 CallT Try.prog 10 [v1] H4 fun v31 H5 =>
 CallT Try.prog 19 [v29, v31] H5 fun v32 H6 =>
 extractV v32 0 fun v33 =>
 extractV v32 1 fun v34 =>
 loadV tab 25 v2 H6 fun v35 =>
 CallT Try.prog 9 [v35] H6 fun v36 H7 =>
 allocV tab 33 H7 fun v8 H8 =>
 storeV tab 33 v8 v36 H8 fun H9 =>
 CallT Try.prog 10 [v1] H9 fun v38 H10 =>
 loadV tab 33 v8 H10 fun v40 =>
 CallT Try.prog 20 [v40, v38] H10 fun v42 H11 =>
 extractV v42 0 fun v43 =>
 extractV v42 1 fun v44 =>
 CallT Try.prog 12 [v43, v33] H11 fun v47 H12 =>
 unV .not v47 fun v48 =>
 grdV v48 false (binV tab .neq 4 v44 v34 fun v52 =>
 condV v52 (K (AV.p (.bool false)) H12)
 (loadV tab 33 v8 H12 fun v54 =>
 loadV tab 25 v2 H12 fun v55 =>
 CallT Try.prog 9 [v55] H12 fun v56 H13 =>
 (loadV tab 33 v8 H13 fun v9054 =>
 v54 = v9054) ∧
 CallT Try.prog 13 [v54, v56] H13 fun v57 H14 =>
 unV .not v57 fun v58 =>
 condV v58 (K (AV.p (.bool false)) H14)
 (CallT Try.prog 10 [v1] H14 fun v61 H15 =>
 CallT Try.prog 12 [v38, v61] H15 fun v62 H16 =>
 unV .not v62 fun v63 =>
 condV v63 (K (AV.p (.bool false)) H16)
 (loadV tab 33 v8 H16 fun v64 =>
 CallT Try.prog 14 [v64, (AV.p (.int .i64 1))] H16 fun v66 H17 =>
 CallT Try.prog 15 [v38, v66] H17 fun v69 H18 =>
 binV tab .lss 3 v69 (AV.p (.int .i64 0)) fun v71 =>
 grdV v71 false (CallT Try.prog 12 [v43, v33] H18 fun v75 H19 =>
 unV .not v75 fun v76 =>
 grdV v76 false (binV tab .neq 4 v44 v34 fun v81 =>
 condV v81 (K (AV.p (.bool false)) H19)
 (CallT Try.prog 15 [v43, (AV.p (.int .i64 1))] H19 fun v85 H20 =>
 CallT Try.prog 16 [v43, (AV.p (.int .i64 1))] H20 fun v88 H21 =>
 binV tab .lss 3 v88 (AV.p (.int .i64 0)) fun v90 =>
 condV v90 (K (AV.p (.bool false)) H21)
 (binV tab .neq 3 v88 v85 fun v93 =>
 condV v93 (K (AV.p (.bool false)) H21)
 (loadV tab 25 v2 H21 fun v95 =>
 CallT Try.prog 9 [v95] H21 fun v96 H22 =>
 CallT Try.prog 10 [v1] H22 fun v98 H23 =>
 CallT Try.prog 20 [v96, v98] H23 fun v99 H24 =>
 extractV v99 0 fun v100 =>
 extractV v99 1 fun v101 =>
 CallT Try.prog 12 [v100, v33] H24 fun v104 H25 =>
 unV .not v104 fun v105 =>
 grdV v105 false (binV tab .neq 4 v101 v34 fun v109 =>
 condV v109 (K (AV.p (.bool false)) H25)
 (CallT Try.prog 16 [v43, (AV.p (.int .i64 1))] H25 fun v113 H26 =>
 binV tab .lss 3 v113 (AV.p (.int .i64 0)) fun v115 =>
 condV v115 (K (AV.p (.bool false)) H26)
 (binV tab .neq 3 v113 v85 fun v118 =>
 condV v118 (K (AV.p (.bool false)) H26)
 (K (AV.p (.bool true)) H26))))
 (K (AV.p (.bool false)) H25)))))
 (K (AV.p (.bool false)) H19))
 (K (AV.p (.bool false)) H18)))))
 (K (AV.p (.bool false)) H12)))
theorem W5_wp (v0 : AV) (v1 : AV) (H : Heap) (K : AV → Heap → Prop) : wpC Try.prog tab D5 (bodyOf Try.f5) (retF tab [.tmp 4] K) (nthA [v0, v1]) H = W5 v0 v1 H K := by kernel_rfl
theorem W5_ok {v0 v1 : AV} {H : Heap} {K : AV → Heap → Prop} (h : W5 v0 v1 H K) : CallT Try.prog 5 [v0, v1] H K :=
  CallT.of_wp (D := D5) tab_ok mixed Try.func5 (c := bodyOf Try.f5) (by kernel_rfl) rfl (by kernel_rfl) (rs := #[.tmp 4]) rfl (by decide +kernel) (by kernel_rfl) (W5_wp v0 v1 H K) h
theorem W5_hb : HasBody Try.prog 5 := ⟨_, bodyOf Try.f5, Try.func5, by kernel_rfl, rfl⟩
/-- loop.example/g00649/laws.szProgram -/
def D6 : Info := ⟨18, fun i => ([], []), fun i => ([], [])⟩
def W6 (v0 : AV) (v1 : AV) (H : Heap) (K : AV → Heap → Prop) : Prop :=
 boxV v0 H fun v2 H1 =>
 fieldAddrV tab 25 v2 2 fun v5 =>
 loadV tab 22 v5 H1 fun v6 =>
 CallT Try.prog 7 [v6, v1] H1 fun v8 H2 =>
 binV tab .lss 3 v8 (AV.p (.int .i64 0)) fun v10 =>
 condV v10 (K (AV.p (.int .i64 (-1))) H2)
 (fieldAddrV tab 25 v2 3 fun v11 =>
 loadV tab 23 v11 H2 fun v12 =>
 CallT Try.prog 21 [v12, v8] H2 fun v14 H3 =>
 binV tab .lss 3 v14 (AV.p (.int .i64 0)) fun v16 =>
 condV v16 (K (AV.p (.int .i64 (-1))) H3)
 (K v14 H3))
theorem W6_wp (v0 : AV) (v1 : AV) (H : Heap) (K : AV → Heap → Prop) : wpC Try.prog tab D6 (bodyOf Try.f6) (retF tab [.tmp 4] K) (nthA [v0, v1]) H = W6 v0 v1 H K := by kernel_rfl
theorem W6_ok {v0 v1 : AV} {H : Heap} {K : AV → Heap → Prop} (h : W6 v0 v1 H K) : CallT Try.prog 6 [v0, v1] H K :=
  CallT.of_wp (D := D6) tab_ok mixed Try.func6 (c := bodyOf Try.f6) (by kernel_rfl) rfl (by kernel_rfl) (rs := #[.tmp 4]) rfl (by decide +kernel) (by kernel_rfl) (W6_wp v0 v1 H K) h
theorem W6_hb : HasBody Try.prog 6 := ⟨_, bodyOf Try.f6, Try.func6, by kernel_rfl, rfl⟩
/-- loop.example/g00649/laws.szNodeS -/
def D7 : Info := ⟨12, fun i => ([], []), fun i => ([], [])⟩
def W7 (v0 : AV) (v1 : AV) (H : Heap) (K : AV → Heap → Prop) : Prop :=
 lenV tab 22 v0 fun v7 =>
 binV tab .sub 3 v1 v7 fun v8 =>
 binV tab .lss 3 v8 (AV.p (.int .i64 0)) fun v10 =>
 condV v10 (K (AV.p (.int .i64 (-1))) H)
 (K v8 H)
theorem W7_wp (v0 : AV) (v1 : AV) (H : Heap) (K : AV → Heap → Prop) : wpC Try.prog tab D7 (bodyOf Try.f7) (retF tab [.tmp 4] K) (nthA [v0, v1]) H = W7 v0 v1 H K := by kernel_rfl
theorem W7_ok {v0 v1 : AV} {H : Heap} {K : AV → Heap → Prop} (h : W7 v0 v1 H K) : CallT Try.prog 7 [v0, v1] H K :=
  CallT.of_wp (D := D7) tab_ok mixed Try.func7 (c := bodyOf Try.f7) (by kernel_rfl) rfl (by kernel_rfl) (rs := #[.tmp 4]) rfl (by decide +kernel) (by kernel_rfl) (W7_wp v0 v1 H K) h
theorem W7_hb : HasBody Try.prog 7 := ⟨_, bodyOf Try.f7, Try.func7, by kernel_rfl, rfl⟩
/-- loop.example/g00649/spec.BeforeOne -/
def D8 : Info := ⟨19, fun i => ([], []), fun i => ([], [])⟩
def W8 (v0 : AV) (v1 : AV) (v2 : AV) (H : Heap) (K : AV → Heap → Prop) : Prop :=
 boxV v0 H fun v3 H1 =>
 loadV tab 33 v3 H1 fun v8 =>
 CallT Try.prog 22 [v8, v1, v2] H1 fun v11 H2 =>
 unV .not v11 fun v12 =>
 condV v12 (K (.tup [(AV.p .nil), (AV.p (.bool false))]) H2)
 (loadV tab 33 v3 H2 fun v13 =>
 CallT Try.prog 23 [v13, v1, v2] H2 fun v16 H3 =>
 extractV v16 0 fun v17 =>
 extractV v16 1 fun v18 =>
 K (.tup [v17, v18]) H3)
theorem W8_wp (v0 : AV) (v1 : AV) (v2 : AV) (H : Heap) (K : AV → Heap → Prop) : wpC Try.prog tab D8 (bodyOf Try.f8) (retF tab [.tmp 6, .tmp 7] K) (nthA [v0, v1, v2]) H = W8 v0 v1 v2 H K := by kernel_rfl
theorem W8_ok {v0 v1 v2 : AV} {H : Heap} {K : AV → Heap → Prop} (h : W8 v0 v1 v2 H K) : CallT Try.prog 8 [v0, v1, v2] H K :=
  CallT.of_wp (D := D8) tab_ok mixed Try.func8 (c := bodyOf Try.f8) (by kernel_rfl) rfl (by kernel_rfl) (rs := #[.tmp 6, .tmp 7]) rfl (by decide +kernel) (by kernel_rfl) (W8_wp v0 v1 v2 H K) h
theorem W8_hb : HasBody Try.prog 8 := ⟨_, bodyOf Try.f8, Try.func8, by kernel_rfl, rfl⟩
/-- loop.example/g00649/laws.toProgram -/
def D9 : Info := ⟨19, fun i => ([], []), fun i => ([], [])⟩
def W9 (v0 : AV) (H : Heap) (K : AV → Heap → Prop) : Prop :=
 boxV v0 H fun v1 H1 =>
 allocV tab 33 H1 fun v2 H2 =>
 allocV tab 33 H2 fun v3 H3 =>
 fieldAddrV tab 25 v1 0 fun v4 =>
 loadV tab 3 v4 H3 fun v5 =>
 fieldAddrV tab 33 v3 0 fun v6 =>
 storeV tab 3 v6 v5 H3 fun H4 =>
 fieldAddrV tab 25 v1 1 fun v7 =>
 loadV tab 3 v7 H4 fun v8 =>
 fieldAddrV tab 33 v3 1 fun v9 =>
 storeV tab 3 v9 v8 H4 fun H5 =>
 fieldAddrV tab 25 v1 2 fun v10 =>
 loadV tab 22 v10 H5 fun v11 =>
 CallT Try.prog 10 [v11] H5 fun v12 H6 =>
 fieldAddrV tab 33 v3 2 fun v13 =>
 storeV tab 28 v13 v12 H6 fun H7 =>
 fieldAddrV tab 25 v1 3 fun v14 =>
 loadV tab 23 v14 H7 fun v15 =>
 CallT Try.prog 24 [v15] H7 fun v16 H8 =>
 fieldAddrV tab 33 v3 3 fun v17 =>
 storeV tab 31 v17 v16 H8 fun H9 =>
 loadV tab 33 v3 H9 fun v18 =>
 storeV tab 33 v2 v18 H9 fun H10 =>
 loadV tab 33 v2 H10 fun r0 =>
 K r0 H10
theorem W9_wp (v0 : AV) (H : Heap) (K : AV → Heap → Prop) : wpC Try.prog tab D9 (bodyOf Try.f9) (retF tab [.cell 2 33] K) (nthA [v0]) H = W9 v0 H K := by kernel_rfl
theorem W9_ok {v0 : AV} {H : Heap} {K : AV → Heap → Prop} (h : W9 v0 H K) : CallT Try.prog 9 [v0] H K :=
  CallT.of_wp (D := D9) tab_ok mixed Try.func9 (c := bodyOf Try.f9) (by kernel_rfl) rfl (by kernel_rfl) (rs := #[.cell 2 33]) rfl (by decide +kernel) (by kernel_rfl) (W9_wp v0 H K) h
theorem W9_hb : HasBody Try.prog 9 := ⟨_, bodyOf Try.f9, Try.func9, by kernel_rfl, rfl⟩
/-- loop.example/g00649/laws.toNodeS -/
def D10 : Info := ⟨23, fun i => ([], []), fun i => if i = 3 then ([0, 3], [4]) else ([], [])⟩
def L10_0 (K : AV → Heap → Prop) (v0 : AV) (v3 : AV) (v4 : AV) (H : Heap) : Prop := LoopV (wpC Try.prog tab D10 (cAt [1, 1, 0, 1, 0, 0] (bodyOf Try.f10))) [0, 3] (PostF.block 0 (PostF.thenA (wpC Try.prog tab D10 (cAt [1, 1, 1] (bodyOf Try.f10))) (retF tab [.tmp 2] K))) [4] [v0, AV.any, AV.any, v3, v4, AV.any, AV.any, AV.any, AV.any, AV.any, AV.any, AV.any, AV.any, AV.any, AV.any, AV.any, AV.any, AV.any, AV.any, AV.any, AV.any, AV.any, AV.any] H
def B10_0 (K : AV → Heap → Prop) (N1 : AV → Heap → Prop) (v0 : AV) (v3 : AV) (v4 : AV) (H : Heap) : Prop :=
 lenV tab 22 v0 fun v10 =>
 binV tab .lss 3 v4 v10 fun v11 =>
 condV v11 (indexAddrV tab 22 v0 v4 fun v18 =>
 loadV tab 50 v18 H fun v19 =>
 CallT Try.prog 25 [v19] H fun v20 H2 =>
 indexAddrV tab 28 v3 v4 fun v21 =>
 storeV tab 48 v21 v20 H2 fun H3 =>
 binV tab .add 3 v4 (AV.p (.int .i64 1)) fun v13 =>
 N1 v13 H3)
 (K v3 H)
def W10 (v0 : AV) (H : Heap) (K : AV → Heap → Prop) : Prop :=
 lenV tab 22 v0 fun v6 =>
 makeSliceV tab 28 v6 v6 H fun v7 H1 =>
 L10_0 K v0 v7 (AV.p (.int .i64 0)) H1
theorem W10_wp (v0 : AV) (H : Heap) (K : AV → Heap → Prop) : wpC Try.prog tab D10 (bodyOf Try.f10) (retF tab [.tmp 2] K) (nthA [v0]) H = W10 v0 H K := by kernel_rfl
theorem W10_ok {v0 : AV} {H : Heap} {K : AV → Heap → Prop} (h : W10 v0 H K) : CallT Try.prog 10 [v0] H K :=
  CallT.of_wp (D := D10) tab_ok mixed Try.func10 (c := bodyOf Try.f10) (by kernel_rfl) rfl (by kernel_rfl) (rs := #[.tmp 2]) rfl (by decide +kernel) (by kernel_rfl) (W10_wp v0 H K) h
theorem W10_hb : HasBody Try.prog 10 := ⟨_, bodyOf Try.f10, Try.func10, by kernel_rfl, rfl⟩
theorem L10_0_rule {K : AV → Heap → Prop} {v0 v3 v4 : AV} {H : Heap} {σ : Type} (s0 : σ) (f4 : σ → AV) (TH : σ → Heap) (pre : σ → Prop) (μ : σ → Nat)
    (h0 : pre s0 ∧ AV.wk v4 (f4 s0) ∧ Heap.le (TH s0) H)
    (round : ∀ s, pre s → B10_0 K (fun w4 H' => ∃ s', pre s' ∧ μ s' < μ s ∧ AV.wk w4 (f4 s') ∧ Heap.le (TH s') H') v0 v3 (f4 s) (TH s)) :
    L10_0 K v0 v3 v4 H := by
  unfold L10_0
  exact LoopV.mk s0 (fun s => [f4 s]) TH pre μ (fun _ => rfl) (Eq.mp (by kernel_rfl) h0) (fun s hs => Eq.mp (by kernel_rfl) (round s hs))
theorem L10_0_ruleG {K : AV → Heap → Prop} {v0 v3 v4 : AV} {H : Heap} {σ : Type} (s0 : σ) (f4 : σ → AV) (TH : σ → Heap) (pre : σ → Prop) (μ : σ → Nat)
    (h0 : pre s0 ∧ AV.wk v4 (f4 s0) ∧ Heap.le (TH s0) H)
    (round : ∀ s, pre s → ∀ q, TH s q = none → B10_0 K (fun w4 H' => ∃ s', pre s' ∧ μ s' < μ s ∧ AV.wk w4 (f4 s') ∧ Heap.le (TH s') H') v0 v3 (f4 s) ((TH s).set q [])) :
    L10_0 K v0 v3 v4 H := by
  unfold L10_0
  exact LoopV.mkG s0 (fun s => [f4 s]) TH pre μ (fun _ => rfl) (Eq.mp (by kernel_rfl) h0) (fun s hs q hq => Eq.mp (by kernel_rfl) (round s hs q hq))
/-- loop.example/g00649/impl.BeforeOne -/
def D11 : Info := ⟨19, fun i => ([], []), fun i => ([], [])⟩
def W11 (v0 : AV) (v1 : AV) (v2 : AV) (H : Heap) (K : AV → Heap → Prop) : Prop :=
 boxV v0 H fun v3 H1 =>
 loadV tab 33 v3 H1 fun v8 =>
 CallT Try.prog 26 [v8, v1, v2] H1 fun v11 H2 =>
 unV .not v11 fun v12 =>
 condV v12 (K (.tup [(AV.p .nil), (AV.p (.bool false))]) H2)
 (loadV tab 33 v3 H2 fun v13 =>
 CallT Try.prog 27 [v13, v1, v2] H2 fun v16 H3 =>
 extractV v16 0 fun v17 =>
 extractV v16 1 fun v18 =>
 K (.tup [v17, v18]) H3)
theorem W11_wp (v0 : AV) (v1 : AV) (v2 : AV) (H : Heap) (K : AV → Heap → Prop) : wpC Try.prog tab D11 (bodyOf Try.f11) (retF tab [.tmp 6, .tmp 7] K) (nthA [v0, v1, v2]) H = W11 v0 v1 v2 H K := by kernel_rfl
theorem W11_ok {v0 v1 v2 : AV} {H : Heap} {K : AV → Heap → Prop} (h : W11 v0 v1 v2 H K) : CallT Try.prog 11 [v0, v1, v2] H K :=
  CallT.of_wp (D := D11) tab_ok mixed Try.func11 (c := bodyOf Try.f11) (by kernel_rfl) rfl (by kernel_rfl) (rs := #[.tmp 6, .tmp 7]) rfl (by decide +kernel) (by kernel_rfl) (W11_wp v0 v1 v2 H K) h
theorem W11_hb : HasBody Try.prog 11 := ⟨_, bodyOf Try.f11, Try.func11, by kernel_rfl, rfl⟩
/-- loop.example/g00649/laws.eqNodeS -/
def D12 : Info := ⟨27, fun i => if i = 6 then ([[], [], [0, 1], [0, 1, 2], [], [], [4, 5], [4, 5, 6], [0, 1, 2, 3, 4, 5, 6, 7], [0, 1, 2, 3, 4, 5, 6, 7, 8]], [(0, []), (1, []), (2, []), (3, []), (4, []), (5, []), (6, []), (7, []), (8, []), (9, [])]) else ([], []), fun i => if i = 4 then ([0, 1], [5]) else ([], [])⟩
def L12_0 (K : AV → Heap → Prop) (v0 : AV) (v1 : AV) (v5 : AV) (H : Heap) : Prop := LoopV (wpC Try.prog tab D12 (cAt [1, 1, 0, 1, 0, 0] (bodyOf Try.f12))) [0, 1] (PostF.block 0 (PostF.thenA (wpC Try.prog tab D12 (cAt [1, 1, 1] (bodyOf Try.f12))) (retF tab [.tmp 4] K))) [5] [v0, v1, AV.any, AV.any, AV.any, v5, AV.any, AV.any, AV.any, AV.any, AV.any, AV.any, AV.any, AV.any, AV.any, AV.any, AV.any, AV.any, AV.any, AV.any, AV.any, AV.any, AV.any, AV.any, AV.any, AV.any, AV.any] H
def B12_0 (K : AV → Heap → Prop) (N1 : AV → Heap → Prop) (v0 : AV) (v1 : AV) (v5 : AV) (H : Heap) : Prop :=
 lenV tab 28 v0 fun v13 =>
 binV tab .lss 3 v5 v13 fun v14 =>
 condV v14 (indexAddrV tab 28 v0 v5 fun v19 =>
 loadV tab 48 v19 H fun v20 =>
 indexAddrV tab 28 v1 v5 fun v23 =>
 loadV tab 48 v23 H fun v24 =>
 CallT Try.prog 28 [v20, v24] H fun v25 H1 =>
 unV .not v25 fun v26 =>
 condV v26 (K (AV.p (.bool false)) H1)
 (binV tab .add 3 v5 (AV.p (.int .i64 1)) fun v16 =>
 N1 v16 H1))
 (K (AV.p (.bool true)) H)
def W12 (v0 : AV) (v1 : AV) (H : Heap) (K : AV → Heap → Prop) : Prop :=
 lenV tab 28 v0 fun v7 =>
 lenV tab 28 v1 fun v9 =>
 binV tab .neq 3 v7 v9 fun v10 =>
 condV v10 (K (AV.p (.bool false)) H)
 (L12_0 K v0 v1 (AV.p (.int .i64 0)) H)
theorem W12_wp (v0 : AV) (v1 : AV) (H : Heap) (K : AV → Heap → Prop) : wpC Try.prog tab D12 (bodyOf Try.f12) (retF tab [.tmp 4] K) (nthA [v0, v1]) H = W12 v0 v1 H K := by kernel_rfl
theorem W12_ok {v0 v1 : AV} {H : Heap} {K : AV → Heap → Prop} (h : W12 v0 v1 H K) : CallT Try.prog 12 [v0, v1] H K :=
  CallT.of_wp (D := D12) tab_ok mixed Try.func12 (c := bodyOf Try.f12) (by kernel_rfl) rfl (by kernel_rfl) (rs := #[.tmp 4]) rfl (by decide +kernel) (by kernel_rfl) (W12_wp v0 v1 H K) h
theorem W12_hb : HasBody Try.prog 12 := ⟨_, bodyOf Try.f12, Try.func12, by kernel_rfl, rfl⟩
theorem L12_0_rule {K : AV → Heap → Prop} {v0 v1 v5 : AV} {H : Heap} {σ : Type} (s0 : σ) (f5 : σ → AV) (TH : σ → Heap) (pre : σ → Prop) (μ : σ → Nat)
    (h0 : pre s0 ∧ AV.wk v5 (f5 s0) ∧ Heap.le (TH s0) H)
    (round : ∀ s, pre s → B12_0 K (fun w5 H' => ∃ s', pre s' ∧ μ s' < μ s ∧ AV.wk w5 (f5 s') ∧ Heap.le (TH s') H') v0 v1 (f5 s) (TH s)) :
    L12_0 K v0 v1 v5 H := by
  unfold L12_0
  exact LoopV.mk s0 (fun s => [f5 s]) TH pre μ (fun _ => rfl) (Eq.mp (by kernel_rfl) h0) (fun s hs => Eq.mp (by kernel_rfl) (round s hs))
theorem L12_0_ruleG {K : AV → Heap → Prop} {v0 v1 v5 : AV} {H : Heap} {σ : Type} (s0 : σ) (f5 : σ → AV) (TH : σ → Heap) (pre : σ → Prop) (μ : σ → Nat)
    (h0 : pre s0 ∧ AV.wk v5 (f5 s0) ∧ Heap.le (TH s0) H)
    (round : ∀ s, pre s → ∀ q, TH s q = none → B12_0 K (fun w5 H' => ∃ s', pre s' ∧ μ s' < μ s ∧ AV.wk w5 (f5 s') ∧ Heap.le (TH s') H') v0 v1 (f5 s) ((TH s).set q [])) :
    L12_0 K v0 v1 v5 H := by
  unfold L12_0
  exact LoopV.mkG s0 (fun s => [f5 s]) TH pre μ (fun _ => rfl) (Eq.mp (by kernel_rfl) h0) (fun s hs q hq => Eq.mp (by kernel_rfl) (round s hs q hq))
/-- loop.example/g00649/laws.eqProgram -/
def D13 : Info := ⟨27, fun i => ([], []), fun i => ([], [])⟩
def W13 (v0 : AV) (v1 : AV) (H : Heap) (K : AV → Heap → Prop) : Prop :=
 boxV v0 H fun v2 H1 =>
 boxV v1 H1 fun v3 H2 =>
 fieldAddrV tab 33 v2 0 fun v5 =>
 loadV tab 3 v5 H2 fun v6 =>
 fieldAddrV tab 33 v3 0 fun v7 =>
 loadV tab 3 v7 H2 fun v8 =>
 binV tab .neq 3 v6 v8 fun v9 =>
 condV v9 (K (AV.p (.bool false)) H2)
 (fieldAddrV tab 33 v2 1 fun v10 =>
 loadV tab 3 v10 H2 fun v11 =>
 fieldAddrV tab 33 v3 1 fun v12 =>
 loadV tab 3 v12 H2 fun v13 =>
 binV tab .neq 3 v11 v13 fun v14 =>
 condV v14 (K (AV.p (.bool false)) H2)
 (fieldAddrV tab 33 v2 2 fun v15 =>
 loadV tab 28 v15 H2 fun v16 =>
 fieldAddrV tab 33 v3 2 fun v17 =>
 loadV tab 28 v17 H2 fun v18 =>
 CallT Try.prog 12 [v16, v18] H2 fun v19 H3 =>
 unV .not v19 fun v20 =>
 condV v20 (K (AV.p (.bool false)) H3)
 (fieldAddrV tab 33 v2 3 fun v21 =>
 loadV tab 31 v21 H3 fun v22 =>
 fieldAddrV tab 33 v3 3 fun v23 =>
 loadV tab 31 v23 H3 fun v24 =>
 CallT Try.prog 29 [v22, v24] H3 fun v25 H4 =>
 unV .not v25 fun v26 =>
 condV v26 (K (AV.p (.bool false)) H4)
 (K (AV.p (.bool true)) H4))))
theorem W13_wp (v0 : AV) (v1 : AV) (H : Heap) (K : AV → Heap → Prop) : wpC Try.prog tab D13 (bodyOf Try.f13) (retF tab [.tmp 4] K) (nthA [v0, v1]) H = W13 v0 v1 H K := by kernel_rfl
theorem W13_ok {v0 v1 : AV} {H : Heap} {K : AV → Heap → Prop} (h : W13 v0 v1 H K) : CallT Try.prog 13 [v0, v1] H K :=
  CallT.of_wp (D := D13) tab_ok mixed Try.func13 (c := bodyOf Try.f13) (by kernel_rfl) rfl (by kernel_rfl) (rs := #[.tmp 4]) rfl (by decide +kernel) (by kernel_rfl) (W13_wp v0 v1 H K) h
theorem W13_hb : HasBody Try.prog 13 := ⟨_, bodyOf Try.f13, Try.func13, by kernel_rfl, rfl⟩
/-- loop.example/g00649/laws.markProgram -/
def D14 : Info := ⟨14, fun i => ([], []), fun i => ([], [])⟩
def W14 (v0 : AV) (v1 : AV) (H : Heap) (K : AV → Heap → Prop) : Prop :=
 boxV v0 H fun v2 H1 =>
 fieldAddrV tab 33 v2 2 fun v5 =>
 loadV tab 28 v5 H1 fun v6 =>
 CallT Try.prog 15 [v6, v1] H1 fun v8 H2 =>
 fieldAddrV tab 33 v2 3 fun v9 =>
 loadV tab 31 v9 H2 fun v10 =>
 CallT Try.prog 30 [v10, v8] H2 fun v12 H3 =>
 K v12 H3
theorem W14_wp (v0 : AV) (v1 : AV) (H : Heap) (K : AV → Heap → Prop) : wpC Try.prog tab D14 (bodyOf Try.f14) (retF tab [.tmp 4] K) (nthA [v0, v1]) H = W14 v0 v1 H K := by kernel_rfl
theorem W14_ok {v0 v1 : AV} {H : Heap} {K : AV → Heap → Prop} (h : W14 v0 v1 H K) : CallT Try.prog 14 [v0, v1] H K :=
  CallT.of_wp (D := D14) tab_ok mixed Try.func14 (c := bodyOf Try.f14) (by kernel_rfl) rfl (by kernel_rfl) (rs := #[.tmp 4]) rfl (by decide +kernel) (by kernel_rfl) (W14_wp v0 v1 H K) h
theorem W14_hb : HasBody Try.prog 14 := ⟨_, bodyOf Try.f14, Try.func14, by kernel_rfl, rfl⟩
/-- loop.example/g00649/laws.markNodeS -/
def D15 : Info := ⟨28, fun i => ([], []), fun i => if i = 2 then ([0], [1, 5]) else ([], [])⟩
def L15_0 (K : AV → Heap → Prop) (v0 : AV) (v1 : AV) (v5 : AV) (H : Heap) : Prop := LoopV (wpC Try.prog tab D15 (cAt [1, 0, 1, 0, 0] (bodyOf Try.f15))) [0] (PostF.block 0 (PostF.thenA (wpC Try.prog tab D15 (cAt [1, 1] (bodyOf Try.f15))) (retF tab [.tmp 4] K))) [1, 5] [v0, v1, AV.any, AV.any, AV.any, v5, AV.any, AV.any, AV.any, AV.any, AV.any, AV.any, AV.any, AV.any, AV.any, AV.any, AV.any, AV.any, AV.any, AV.any, AV.any, AV.any, AV.any, AV.any, AV.any, AV.any, AV.any, AV.any] H
def B15_0 (K : AV → Heap → Prop) (N1 : AV → AV → Heap → Prop) (v0 : AV) (v1 : AV) (v5 : AV) (H : Heap) : Prop :=
 lenV tab 28 v0 fun v8 =>
 binV tab .lss 3 v5 v8 fun v9 =>
 condV v9 (indexAddrV tab 28 v0 v5 fun v15 =>
 fieldAddrV tab 48 v15 0 fun v16 =>
 storeV tab 3 v16 v1 H fun H1 =>
 binV tab .add 3 v1 (AV.p (.int .i64 1)) fun v18 =>
 convV tab 3 46 v18 fun v22 =>
 indexAddrV tab 28 v0 v5 fun v23 =>
 fieldAddrV tab 48 v23 1 fun v24 =>
 storeV tab 46 v24 v22 H1 fun H2 =>
 binV tab .add 3 v18 (AV.p (.int .i64 1)) fun v26 =>
 binV tab .add 3 v5 (AV.p (.int .i64 1)) fun v11 =>
 N1 v26 v11 H2)
 (K v1 H)
def W15 (v0 : AV) (v1 : AV) (H : Heap) (K : AV → Heap → Prop) : Prop :=
 L15_0 K v0 v1 (AV.p (.int .i64 0)) H
theorem W15_wp (v0 : AV) (v1 : AV) (H : Heap) (K : AV → Heap → Prop) : wpC Try.prog tab D15 (bodyOf Try.f15) (retF tab [.tmp 4] K) (nthA [v0, v1]) H = W15 v0 v1 H K := by kernel_rfl
theorem W15_ok {v0 v1 : AV} {H : Heap} {K : AV → Heap → Prop} (h : W15 v0 v1 H K) : CallT Try.prog 15 [v0, v1] H K :=
  CallT.of_wp (D := D15) tab_ok mixed Try.func15 (c := bodyOf Try.f15) (by kernel_rfl) rfl (by kernel_rfl) (rs := #[.tmp 4]) rfl (by decide +kernel) (by kernel_rfl) (W15_wp v0 v1 H K) h
theorem W15_hb : HasBody Try.prog 15 := ⟨_, bodyOf Try.f15, Try.func15, by kernel_rfl, rfl⟩
theorem L15_0_rule {K : AV → Heap → Prop} {v0 v1 v5 : AV} {H : Heap} {σ : Type} (s0 : σ) (f1 : σ → AV) (f5 : σ → AV) (TH : σ → Heap) (pre : σ → Prop) (μ : σ → Nat)
    (h0 : pre s0 ∧ AV.wk v1 (f1 s0) ∧ AV.wk v5 (f5 s0) ∧ Heap.le (TH s0) H)
    (round : ∀ s, pre s → B15_0 K (fun w1 w5 H' => ∃ s', pre s' ∧ μ s' < μ s ∧ AV.wk w1 (f1 s') ∧ AV.wk w5 (f5 s') ∧ Heap.le (TH s') H') v0 (f1 s) (f5 s) (TH s)) :
    L15_0 K v0 v1 v5 H := by
  unfold L15_0
  exact LoopV.mk s0 (fun s => [f1 s, f5 s]) TH pre μ (fun _ => rfl) (Eq.mp (by kernel_rfl) h0) (fun s hs => Eq.mp (by kernel_rfl) (round s hs))
theorem L15_0_ruleG {K : AV → Heap → Prop} {v0 v1 v5 : AV} {H : Heap} {σ : Type} (s0 : σ) (f1 : σ → AV) (f5 : σ → AV) (TH : σ → Heap) (pre : σ → Prop) (μ : σ → Nat)
    (h0 : pre s0 ∧ AV.wk v1 (f1 s0) ∧ AV.wk v5 (f5 s0) ∧ Heap.le (TH s0) H)
    (round : ∀ s, pre s → ∀ q, TH s q = none → B15_0 K (fun w1 w5 H' => ∃ s', pre s' ∧ μ s' < μ s ∧ AV.wk w1 (f1 s') ∧ AV.wk w5 (f5 s') ∧ Heap.le (TH s') H') v0 (f1 s) (f5 s) ((TH s).set q [])) :
    L15_0 K v0 v1 v5 H := by
  unfold L15_0
  exact LoopV.mkG s0 (fun s => [f1 s, f5 s]) TH pre μ (fun _ => rfl) (Eq.mp (by kernel_rfl) h0) (fun s hs q hq => Eq.mp (by kernel_rfl) (round s hs q hq))
/-- loop.example/g00649/laws.heldNodeS -/
def D16 : Info := ⟨32, fun i => ([], []), fun i => if i = 2 then ([0], [1, 5]) else ([], [])⟩
def L16_0 (K : AV → Heap → Prop) (v0 : AV) (v1 : AV) (v5 : AV) (H : Heap) : Prop := LoopV (wpC Try.prog tab D16 (cAt [1, 0, 1, 0, 0] (bodyOf Try.f16))) [0] (PostF.block 0 (PostF.thenA (wpC Try.prog tab D16 (cAt [1, 1] (bodyOf Try.f16))) (retF tab [.tmp 4] K))) [1, 5] [v0, v1, AV.any, AV.any, AV.any, v5, AV.any, AV.any, AV.any, AV.any, AV.any, AV.any, AV.any, AV.any, AV.any, AV.any, AV.any, AV.any, AV.any, AV.any, AV.any, AV.any, AV.any, AV.any, AV.any, AV.any, AV.any, AV.any, AV.any, AV.any, AV.any, AV.any] H
def B16_0 (K : AV → Heap → Prop) (N1 : AV → AV → Heap → Prop) (v0 : AV) (v1 : AV) (v5 : AV) (H : Heap) : Prop :=
 lenV tab 28 v0 fun v8 =>
 binV tab .lss 3 v5 v8 fun v9 =>
 condV v9 (indexAddrV tab 28 v0 v5 fun v14 =>
 fieldAddrV tab 48 v14 0 fun v15 =>
 loadV tab 3 v15 H fun v16 =>
 binV tab .neq 3 v16 v1 fun v18 =>
 condV v18 (K (AV.p (.int .i64 (-1))) H)
 (binV tab .add 3 v1 (AV.p (.int .i64 1)) fun v20 =>
 indexAddrV tab 28 v0 v5 fun v23 =>
 fieldAddrV tab 48 v23 1 fun v24 =>
 loadV tab 46 v24 H fun v25 =>
 convV tab 3 46 v20 fun v27 =>
 binV tab .neq 46 v25 v27 fun v28 =>
 condV v28 (K (AV.p (.int .i64 (-1))) H)
 (binV tab .add 3 v20 (AV.p (.int .i64 1)) fun v30 =>
 binV tab .add 3 v5 (AV.p (.int .i64 1)) fun v11 =>
 N1 v30 v11 H)))
 (K v1 H)
def W16 (v0 : AV) (v1 : AV) (H : Heap) (K : AV → Heap → Prop) : Prop :=
 L16_0 K v0 v1 (AV.p (.int .i64 0)) H
theorem W16_wp (v0 : AV) (v1 : AV) (H : Heap) (K : AV → Heap → Prop) : wpC Try.prog tab D16 (bodyOf Try.f16) (retF tab [.tmp 4] K) (nthA [v0, v1]) H = W16 v0 v1 H K := by kernel_rfl
theorem W16_ok {v0 v1 : AV} {H : Heap} {K : AV → Heap → Prop} (h : W16 v0 v1 H K) : CallT Try.prog 16 [v0, v1] H K :=
  CallT.of_wp (D := D16) tab_ok mixed Try.func16 (c := bodyOf Try.f16) (by kernel_rfl) rfl (by kernel_rfl) (rs := #[.tmp 4]) rfl (by decide +kernel) (by kernel_rfl) (W16_wp v0 v1 H K) h
theorem W16_hb : HasBody Try.prog 16 := ⟨_, bodyOf Try.f16, Try.func16, by kernel_rfl, rfl⟩
theorem L16_0_rule {K : AV → Heap → Prop} {v0 v1 v5 : AV} {H : Heap} {σ : Type} (s0 : σ) (f1 : σ → AV) (f5 : σ → AV) (TH : σ → Heap) (pre : σ → Prop) (μ : σ → Nat)
    (h0 : pre s0 ∧ AV.wk v1 (f1 s0) ∧ AV.wk v5 (f5 s0) ∧ Heap.le (TH s0) H)
    (round : ∀ s, pre s → B16_0 K (fun w1 w5 H' => ∃ s', pre s' ∧ μ s' < μ s ∧ AV.wk w1 (f1 s') ∧ AV.wk w5 (f5 s') ∧ Heap.le (TH s') H') v0 (f1 s) (f5 s) (TH s)) :
    L16_0 K v0 v1 v5 H := by
  unfold L16_0
  exact LoopV.mk s0 (fun s => [f1 s, f5 s]) TH pre μ (fun _ => rfl) (Eq.mp (by kernel_rfl) h0) (fun s hs => Eq.mp (by kernel_rfl) (round s hs))
theorem L16_0_ruleG {K : AV → Heap → Prop} {v0 v1 v5 : AV} {H : Heap} {σ : Type} (s0 : σ) (f1 : σ → AV) (f5 : σ → AV) (TH : σ → Heap) (pre : σ → Prop) (μ : σ → Nat)
    (h0 : pre s0 ∧ AV.wk v1 (f1 s0) ∧ AV.wk v5 (f5 s0) ∧ Heap.le (TH s0) H)
    (round : ∀ s, pre s → ∀ q, TH s q = none → B16_0 K (fun w1 w5 H' => ∃ s', pre s' ∧ μ s' < μ s ∧ AV.wk w1 (f1 s') ∧ AV.wk w5 (f5 s') ∧ Heap.le (TH s') H') v0 (f1 s) (f5 s) ((TH s).set q [])) :
    L16_0 K v0 v1 v5 H := by
  unfold L16_0
  exact LoopV.mkG s0 (fun s => [f1 s, f5 s]) TH pre μ (fun _ => rfl) (Eq.mp (by kernel_rfl) h0) (fun s hs q hq => Eq.mp (by kernel_rfl) (round s hs q hq))
/-- loop.example/g00649/spec.BeforeIf -/
def D17 : Info := ⟨19, fun i => ([], []), fun i => ([], [])⟩
def W17 (v0 : AV) (v1 : AV) (v2 : AV) (H : Heap) (K : AV → Heap → Prop) : Prop :=
 boxV v0 H fun v3 H1 =>
 loadV tab 33 v3 H1 fun v8 =>
 CallT Try.prog 22 [v8, v1, v2] H1 fun v11 H2 =>
 unV .not v11 fun v12 =>
 condV v12 (K (.tup [(AV.p .nil), (AV.p (.bool false))]) H2)
 (loadV tab 33 v3 H2 fun v13 =>
 CallT Try.prog 31 [v13, v1, v2] H2 fun v16 H3 =>
 extractV v16 0 fun v17 =>
 extractV v16 1 fun v18 =>
 K (.tup [v17, v18]) H3)
theorem W17_wp (v0 : AV) (v1 : AV) (v2 : AV) (H : Heap) (K : AV → Heap → Prop) : wpC Try.prog tab D17 (bodyOf Try.f17) (retF tab [.tmp 6, .tmp 7] K) (nthA [v0, v1, v2]) H = W17 v0 v1 v2 H K := by kernel_rfl
theorem W17_ok {v0 v1 v2 : AV} {H : Heap} {K : AV → Heap → Prop} (h : W17 v0 v1 v2 H K) : CallT Try.prog 17 [v0, v1, v2] H K :=
  CallT.of_wp (D := D17) tab_ok mixed Try.func17 (c := bodyOf Try.f17) (by kernel_rfl) rfl (by kernel_rfl) (rs := #[.tmp 6, .tmp 7]) rfl (by decide +kernel) (by kernel_rfl) (W17_wp v0 v1 v2 H K) h
theorem W17_hb : HasBody Try.prog 17 := ⟨_, bodyOf Try.f17, Try.func17, by kernel_rfl, rfl⟩
/-- loop.example/g00649/impl.BeforeIf -/
def D18 : Info := ⟨19, fun i => ([], []), fun i => ([], [])⟩
def W18 (v0 : AV) (v1 : AV) (v2 : AV) (H : Heap) (K : AV → Heap → Prop) : Prop :=
 boxV v0 H fun v3 H1 =>
 loadV tab 33 v3 H1 fun v8 =>
 CallT Try.prog 26 [v8, v1, v2] H1 fun v11 H2 =>
 unV .not v11 fun v12 =>
 condV v12 (K (.tup [(AV.p .nil), (AV.p (.bool false))]) H2)
 (loadV tab 33 v3 H2 fun v13 =>
 CallT Try.prog 32 [v13, v1, v2] H2 fun v16 H3 =>
 extractV v16 0 fun v17 =>
 extractV v16 1 fun v18 =>
 K (.tup [v17, v18]) H3)
theorem W18_wp (v0 : AV) (v1 : AV) (v2 : AV) (H : Heap) (K : AV → Heap → Prop) : wpC Try.prog tab D18 (bodyOf Try.f18) (retF tab [.tmp 6, .tmp 7] K) (nthA [v0, v1, v2]) H = W18 v0 v1 v2 H K := by kernel_rfl
theorem W18_ok {v0 v1 v2 : AV} {H : Heap} {K : AV → Heap → Prop} (h : W18 v0 v1 v2 H K) : CallT Try.prog 18 [v0, v1, v2] H K :=
  CallT.of_wp (D := D18) tab_ok mixed Try.func18 (c := bodyOf Try.f18) (by kernel_rfl) rfl (by kernel_rfl) (rs := #[.tmp 6, .tmp 7]) rfl (by decide +kernel) (by kernel_rfl) (W18_wp v0 v1 v2 H K) h
theorem W18_hb : HasBody Try.prog 18 := ⟨_, bodyOf Try.f18, Try.func18, by kernel_rfl, rfl⟩
/-- loop.example/g00649/spec.BeforeAll -/
def D19 : Info := ⟨71, fun i => ([], []), fun i => if i = 5 then ([1, 2, 17, 18], [6, 7, 19]) else ([], [])⟩
def L19_0 (K : AV → Heap → Prop) (v1 : AV) (v2 : AV) (v6 : AV) (v7 : AV) (v17 : AV) (v18 : AV) (v19 : AV) (H : Heap) : Prop := LoopV (wpC Try.prog tab D19 (cAt [1, 1, 1, 0, 1, 0, 0] (bodyOf Try.f19))) [1, 2, 17, 18] (PostF.block 0 (PostF.thenA (wpC Try.prog tab D19 (cAt [1, 1, 1, 1] (bodyOf Try.f19))) (retF tab [.tmp 4, .tmp 5] K))) [6, 7, 19] [AV.any, v1, v2, AV.any, AV.any, AV.any, v6, v7, AV.any, AV.any, AV.any, AV.any, AV.any, AV.any, AV.any, AV.any, AV.any, v17, v18, v19, AV.any, AV.any, AV.any, AV.any, AV.any, AV.any, AV.any, AV.any, AV.any, AV.any, AV.any, AV.any, AV.any, AV.any, AV.any, AV.any, AV.any, AV.any, AV.any, AV.any, AV.any, AV.any, AV.any, AV.any, AV.any, AV.any, AV.any, AV.any, AV.any, AV.any, AV.any, AV.any, AV.any, AV.any, AV.any, AV.any, AV.any, AV.any, AV.any, AV.any, AV.any, AV.any, AV.any, AV.any, AV.any, AV.any, AV.any, AV.any, AV.any, AV.any, AV.any] H
def B19_0 (K : AV → Heap → Prop) (N1 : AV → AV → AV → Heap → Prop) (v1 : AV) (v2 : AV) (v6 : AV) (v7 : AV) (v17 : AV) (v18 : AV) (v19 : AV) (H : Heap) : Prop :=
 binV tab .lss 3 v19 v18 fun v20 =>
 condV v20 (indexAddrV tab 31 v17 v19 fun v22 =>
 loadV tab 57 v22 H fun v23 =>
 allocV tab 57 H fun v9 H3 =>
 storeV tab 57 v9 v23 H3 fun H4 =>
 loadV tab 33 v2 H4 fun v25 =>
 CallT Try.prog 31 [v25, v19, v1] H4 fun v28 H5 =>
 extractV v28 0 fun v29 =>
 extractV v28 1 fun v30 =>
 unV .not v30 fun v32 =>
 condV v32 (K (.tup [(AV.p .nil), (AV.p (.bool false))]) H5)
 (appendV tab 28 28 v6 v29 H5 (wkK fun v35 H6 =>
 fieldAddrV tab 57 v9 0 fun v37 =>
 loadV tab 28 v37 H6 fun v38 =>
 appendV tab 28 28 v7 v38 H6 (wkK fun v39 H7 =>
 binV tab .gtr 3 v19 (AV.p (.int .i64 0)) fun v41 =>
 condV v41 (buildV tab 48 [(0, (AV.p (.int .i64 17)))] fun v43 =>
 buildSliceV tab 28 1 [(0, v43)] H7 (wkK fun v44 H8 =>
 appendV tab 28 28 v35 v44 H8 (wkK fun v45 H9 =>
 buildV tab 48 [(0, (AV.p (.int .i64 18)))] fun v47 =>
 buildSliceV tab 28 1 [(0, v47)] H9 (wkK fun v48 H10 =>
 appendV tab 28 28 v39 v48 H10 (wkK fun v49 H11 =>
 binV tab .add 3 v19 (AV.p (.int .i64 1)) fun v50 =>
 N1 v45 v49 v50 H11)))))
 (binV tab .add 3 v19 (AV.p (.int .i64 1)) fun v50 =>
 N1 v35 v39 v50 H7)))))
 (appendV tab 28 28 v7 v1 H (wkK fun v53 H12 =>
 buildV tab 48 [(0, (AV.p (.int .i64 18)))] fun v54 =>
 buildSliceV tab 28 1 [(0, v54)] H12 (wkK fun v55 H13 =>
 appendV tab 28 28 v53 v55 H13 (wkK fun v56 H14 =>
 appendV tab 28 28 v6 v56 H14 (wkK fun v59 H15 =>
 buildV tab 48 [(0, (AV.p (.int .i64 17)))] fun v60 =>
 buildSliceV tab 28 1 [(0, v60)] H15 (wkK fun v61 H16 =>
 appendV tab 28 28 v59 v61 H16 (wkK fun v62 H17 =>
 fieldAddrV tab 33 v2 0 fun v63 =>
 loadV tab 3 v63 H17 fun v64 =>
 fieldAddrV tab 33 v2 1 fun v65 =>
 loadV tab 3 v65 H17 fun v66 =>
 CallT Try.prog 33 [v64, v66, v62] H17 fun v68 H18 =>
 extractV v68 0 fun v69 =>
 extractV v68 1 fun v70 =>
 K (.tup [v69, v70]) H18)))))))
def W19 (v0 : AV) (v1 : AV) (H : Heap) (K : AV → Heap → Prop) : Prop :=
 boxV v0 H fun v2 H1 =>
 loadV tab 33 v2 H1 fun v12 =>
 CallT Try.prog 22 [v12, (AV.p (.int .i64 0)), v1] H1 fun v14 H2 =>
 unV .not v14 fun v15 =>
 condV v15 (K (.tup [(AV.p .nil), (AV.p (.bool false))]) H2)
 (fieldAddrV tab 33 v2 3 fun v16 =>
 loadV tab 31 v16 H2 fun v17 =>
 lenV tab 31 v17 fun v18 =>
 L19_0 K v1 v2 (AV.p .nil) (AV.p .nil) v17 v18 (AV.p (.int .i64 0)) H2)
theorem W19_wp (v0 : AV) (v1 : AV) (H : Heap) (K : AV → Heap → Prop) : wpC Try.prog tab D19 (bodyOf Try.f19) (retF tab [.tmp 4, .tmp 5] K) (nthA [v0, v1]) H = W19 v0 v1 H K := by kernel_rfl
theorem W19_ok {v0 v1 : AV} {H : Heap} {K : AV → Heap → Prop} (h : W19 v0 v1 H K) : CallT Try.prog 19 [v0, v1] H K :=
  CallT.of_wp (D := D19) tab_ok mixed Try.func19 (c := bodyOf Try.f19) (by kernel_rfl) rfl (by kernel_rfl) (rs := #[.tmp 4, .tmp 5]) rfl (by decide +kernel) (by kernel_rfl) (W19_wp v0 v1 H K) h
theorem W19_hb : HasBody Try.prog 19 := ⟨_, bodyOf Try.f19, Try.func19, by kernel_rfl, rfl⟩
theorem L19_0_rule {K : AV → Heap → Prop} {v1 v2 v6 v7 v17 v18 v19 : AV} {H : Heap} {σ : Type} (s0 : σ) (f6 : σ → AV) (f7 : σ → AV) (f19 : σ → AV) (TH : σ → Heap) (pre : σ → Prop) (μ : σ → Nat)
    (h0 : pre s0 ∧ AV.wk v6 (f6 s0) ∧ AV.wk v7 (f7 s0) ∧ AV.wk v19 (f19 s0) ∧ Heap.le (TH s0) H)
    (round : ∀ s, pre s → B19_0 K (fun w6 w7 w19 H' => ∃ s', pre s' ∧ μ s' < μ s ∧ AV.wk w6 (f6 s') ∧ AV.wk w7 (f7 s') ∧ AV.wk w19 (f19 s') ∧ Heap.le (TH s') H') v1 v2 (f6 s) (f7 s) v17 v18 (f19 s) (TH s)) :
    L19_0 K v1 v2 v6 v7 v17 v18 v19 H := by
  unfold L19_0
  exact LoopV.mk s0 (fun s => [f6 s, f7 s, f19 s]) TH pre μ (fun _ => rfl) (Eq.mp (by kernel_rfl) h0) (fun s hs => Eq.mp (by kernel_rfl) (round s hs))
theorem L19_0_ruleG {K : AV → Heap → Prop} {v1 v2 v6 v7 v17 v18 v19 : AV} {H : Heap} {σ : Type} (s0 : σ) (f6 : σ → AV) (f7 : σ → AV) (f19 : σ → AV) (TH : σ → Heap) (pre : σ → Prop) (μ : σ → Nat)
    (h0 : pre s0 ∧ AV.wk v6 (f6 s0) ∧ AV.wk v7 (f7 s0) ∧ AV.wk v19 (f19 s0) ∧ Heap.le (TH s0) H)
    (round : ∀ s, pre s → ∀ q, TH s q = none → B19_0 K (fun w6 w7 w19 H' => ∃ s', pre s' ∧ μ s' < μ s ∧ AV.wk w6 (f6 s') ∧ AV.wk w7 (f7 s') ∧ AV.wk w19 (f19 s') ∧ Heap.le (TH s') H') v1 v2 (f6 s) (f7 s) v17 v18 (f19 s) ((TH s).set q [])) :
    L19_0 K v1 v2 v6 v7 v17 v18 v19 H := by
  unfold L19_0
  exact LoopV.mkG s0 (fun s => [f6 s, f7 s, f19 s]) TH pre μ (fun _ => rfl) (Eq.mp (by kernel_rfl) h0) (fun s hs q hq => Eq.mp (by kernel_rfl) (round s hs q hq))
/-- loop.example/g00649/impl.BeforeAll -/
def D20 : Info := ⟨68, fun i => if i = 10 then ([[], [], [0, 1], [], [], [4], [0, 1, 2, 3, 4, 5], [0, 1, 2, 3, 4, 5, 6], [0, 1, 2, 3, 4, 5, 6, 7]], [(0, []), (1, []), (3, []), (4, []), (5, []), (2, [5]), (6, []), (7, []), (8, [])]) else if i = 14 then ([[], [0], [], [2], [], [], [], [], [], [7, 8], [4, 5, 6, 7, 8, 9], [4, 5, 6, 7, 8, 9, 10], [0, 1, 2, 3, 4, 5, 6, 7, 8, 9, 10, 11], [0, 1, 2, 3, 4, 5, 6, 7, 8, 9, 10, 11, 12], [0, 1, 2, 3, 4, 5, 6, 7, 8, 9, 10, 11, 12], [0, 1, 2, 3, 4, 5, 6, 7, 8, 9, 10, 11, 12, 13, 14], [0, 1, 2, 3, 4, 5, 6, 7, 8, 9, 10, 11, 12, 13, 14, 15]], [(0, []), (1, []), (2, []), (3, []), (4, []), (5, []), (6, []), (7, []), (8, []), (9, [1, 3]), (10, [1, 3]), (11, [1, 3]), (12, []), (13, []), (14, []), (15, []), (16, [])]) else ([], []), fun i => if i = 5 then ([1, 2, 19, 20], [6, 7, 21]) else ([], [])⟩
def L20_0 (K : AV → Heap → Prop) (v1 : AV) (v2 : AV) (v6 : AV) (v7 : AV) (v19 : AV) (v20 : AV) (v21 : AV) (H : Heap) : Prop := LoopV (wpC Try.prog tab D20 (cAt [1, 1, 1, 0, 1, 0, 0] (bodyOf Try.f20))) [1, 2, 19, 20] (PostF.block 0 (PostF.thenA (wpC Try.prog tab D20 (cAt [1, 1, 1, 1] (bodyOf Try.f20))) (retF tab [.tmp 4, .tmp 5] K))) [6, 7, 21] [AV.any, v1, v2, AV.any, AV.any, AV.any, v6, v7, AV.any, AV.any, AV.any, AV.any, AV.any, AV.any, AV.any, AV.any, AV.any, AV.any, AV.any, v19, v20, v21, AV.any, AV.any, AV.any, AV.any, AV.any, AV.any, AV.any, AV.any, AV.any, AV.any, AV.any, AV.any, AV.any, AV.any, AV.any, AV.any, AV.any, AV.any, AV.any, AV.any, AV.any, AV.any, AV.any, AV.any, AV.any, AV.any, AV.any, AV.any, AV.any, AV.any, AV.any, AV.any, AV.any, AV.any, AV.any, AV.any, AV.any, AV.any, AV.any, AV.any, AV.any, AV.any, AV.any, AV.any, AV.any, AV.any] H
def B20_0 (K : AV → Heap → Prop) (N1 : AV → AV → AV → Heap → Prop) (v1 : AV) (v2 : AV) (v6 : AV) (v7 : AV) (v19 : AV) (v20 : AV) (v21 : AV) (H : Heap) : Prop :=
 binV tab .lss 3 v21 v20 fun v22 =>
 condV v22 (indexAddrV tab 31 v19 v21 fun v24 =>
 loadV tab 57 v24 H fun v25 =>
 allocV tab 57 H fun v9 H5 =>
 storeV tab 57 v9 v25 H5 fun H6 =>
 loadV tab 33 v2 H6 fun v27 =>
 CallT Try.prog 32 [v27, v21, v1] H6 fun v30 H7 =>
 extractV v30 0 fun v31 =>
 extractV v30 1 fun v32 =>
 unV .not v32 fun v34 =>
 condV v34 (K (.tup [(AV.p .nil), (AV.p (.bool false))]) H7)
 (fieldAddrV tab 57 v9 0 fun v39 =>
 loadV tab 28 v39 H7 fun v40 =>
 appendV tab 28 28 v6 v31 H7 (wkK fun v37 H8 =>
 (loadV tab 28 v39 H8 fun v9040 =>
 v40 = v9040) ∧
 appendV tab 28 28 v7 v40 H8 (wkK fun v41 H9 =>
 binV tab .gtr 3 v21 (AV.p (.int .i64 0)) fun v43 =>
 condV v43 (buildV tab 48 [(0, (AV.p (.int .i64 17)))] fun v45 =>
 buildSliceV tab 28 1 [(0, v45)] H9 (wkK fun v46 H10 =>
 appendV tab 28 28 v37 v46 H10 (wkK fun v47 H11 =>
 buildV tab 48 [(0, (AV.p (.int .i64 18)))] fun v49 =>
 buildSliceV tab 28 1 [(0, v49)] H11 (wkK fun v50 H12 =>
 appendV tab 28 28 v41 v50 H12 (wkK fun v51 H13 =>
 binV tab .add 3 v21 (AV.p (.int .i64 1)) fun v52 =>
 N1 v47 v51 v52 H13)))))
 (binV tab .add 3 v21 (AV.p (.int .i64 1)) fun v52 =>
 N1 v37 v41 v52 H9)))))
 (fieldAddrV tab 33 v2 0 fun v53 =>
 loadV tab 3 v53 H fun v54 =>
 fieldAddrV tab 33 v2 1 fun v55 =>
 loadV tab 3 v55 H fun v56 =>
 buildV tab 48 [(0, (AV.p (.int .i64 18)))] fun v60 =>
 buildV tab 48 [(0, (AV.p (.int .i64 17)))] fun v61 =>
 buildSliceV tab 28 2 [(0, v60), (1, v61)] H (wkK fun v62 H14 =>
 (loadV tab 3 v53 H14 fun v9054 =>
 v54 = v9054) ∧
 (loadV tab 3 v55 H14 fun v9056 =>
 v56 = v9056) ∧
 buildSliceV tab 67 4 [(0, v6), (1, v7), (2, v1), (3, v62)] H14 (wkK fun v63 H15 =>
 (loadV tab 3 v53 H15 fun v9054 =>
 v54 = v9054) ∧
 (loadV tab 3 v55 H15 fun v9056 =>
 v56 = v9056) ∧
 CallT Try.prog 35 [v63] H15 fun v64 H16 =>
 (loadV tab 3 v53 H16 fun v9054 =>
 v54 = v9054) ∧
 (loadV tab 3 v55 H16 fun v9056 =>
 v56 = v9056) ∧
 CallT Try.prog 34 [v54, v56, v64] H16 fun v65 H17 =>
 extractV v65 0 fun v66 =>
 extractV v65 1 fun v67 =>
 K (.tup [v66, v67]) H17)))
def W20 (v0 : AV) (v1 : AV) (H : Heap) (K : AV → Heap → Prop) : Prop :=
 boxV v0 H fun v2 H1 =>
 loadV tab 33 v2 H1 fun v12 =>
 CallT Try.prog 26 [v12, (AV.p (.int .i64 0)), v1] H1 fun v14 H2 =>
 unV .not v14 fun v15 =>
 condV v15 (K (.tup [(AV.p .nil), (AV.p (.bool false))]) H2)
 (buildSliceV tab 28 0 [] H2 (wkK fun v16 H3 =>
 buildSliceV tab 28 0 [] H3 (wkK fun v17 H4 =>
 fieldAddrV tab 33 v2 3 fun v18 =>
 loadV tab 31 v18 H4 fun v19 =>
 lenV tab 31 v19 fun v20 =>
 L20_0 K v1 v2 v16 v17 v19 v20 (AV.p (.int .i64 0)) H4)))
theorem W20_wp (v0 : AV) (v1 : AV) (H : Heap) (K : AV → Heap → Prop) : wpC Try.prog tab D20 (bodyOf Try.f20) (retF tab [.tmp 4, .tmp 5] K) (nthA [v0, v1]) H = W20 v0 v1 H K := by kernel_rfl
theorem W20_ok {v0 v1 : AV} {H : Heap} {K : AV → Heap → Prop} (h : W20 v0 v1 H K) : CallT Try.prog 20 [v0, v1] H K :=
  CallT.of_wp (D := D20) tab_ok mixed Try.func20 (c := bodyOf Try.f20) (by kernel_rfl) rfl (by kernel_rfl) (rs := #[.tmp 4, .tmp 5]) rfl (by decide +kernel) (by kernel_rfl) (W20_wp v0 v1 H K) h
theorem W20_hb : HasBody Try.prog 20 := ⟨_, bodyOf Try.f20, Try.func20, by kernel_rfl, rfl⟩
theorem L20_0_rule {K : AV → Heap → Prop} {v1 v2 v6 v7 v19 v20 v21 : AV} {H : Heap} {σ : Type} (s0 : σ) (f6 : σ → AV) (f7 : σ → AV) (f21 : σ → AV) (TH : σ → Heap) (pre : σ → Prop) (μ : σ → Nat)
    (h0 : pre s0 ∧ AV.wk v6 (f6 s0) ∧ AV.wk v7 (f7 s0) ∧ AV.wk v21 (f21 s0) ∧ Heap.le (TH s0) H)
    (round : ∀ s, pre s → B20_0 K (fun w6 w7 w21 H' => ∃ s', pre s' ∧ μ s' < μ s ∧ AV.wk w6 (f6 s') ∧ AV.wk w7 (f7 s') ∧ AV.wk w21 (f21 s') ∧ Heap.le (TH s') H') v1 v2 (f6 s) (f7 s) v19 v20 (f21 s) (TH s)) :
    L20_0 K v1 v2 v6 v7 v19 v20 v21 H := by
  unfold L20_0
  exact LoopV.mk s0 (fun s => [f6 s, f7 s, f21 s]) TH pre μ (fun _ => rfl) (Eq.mp (by kernel_rfl) h0) (fun s hs => Eq.mp (by kernel_rfl) (round s hs))
theorem L20_0_ruleG {K : AV → Heap → Prop} {v1 v2 v6 v7 v19 v20 v21 : AV} {H : Heap} {σ : Type} (s0 : σ) (f6 : σ → AV) (f7 : σ → AV) (f21 : σ → AV) (TH : σ → Heap) (pre : σ → Prop) (μ : σ → Nat)
    (h0 : pre s0 ∧ AV.wk v6 (f6 s0) ∧ AV.wk v7 (f7 s0) ∧ AV.wk v21 (f21 s0) ∧ Heap.le (TH s0) H)
    (round : ∀ s, pre s → ∀ q, TH s q = none → B20_0 K (fun w6 w7 w21 H' => ∃ s', pre s' ∧ μ s' < μ s ∧ AV.wk w6 (f6 s') ∧ AV.wk w7 (f7 s') ∧ AV.wk w21 (f21 s') ∧ Heap.le (TH s') H') v1 v2 (f6 s) (f7 s) v19 v20 (f21 s) ((TH s).set q [])) :
    L20_0 K v1 v2 v6 v7 v19 v20 v21 H := by
  unfold L20_0
  exact LoopV.mkG s0 (fun s => [f6 s, f7 s, f21 s]) TH pre μ (fun _ => rfl) (Eq.mp (by kernel_rfl) h0) (fun s hs q hq => Eq.mp (by kernel_rfl) (round s hs q hq))
/-- loop.example/g00649/laws.szCommandS -/
def D21 : Info := ⟨27, fun i => ([], []), fun i => if i = 5 then ([0], [1, 5]) else ([], [])⟩
def L21_0 (K : AV → Heap → Prop) (v0 : AV) (v1 : AV) (v5 : AV) (H : Heap) : Prop := LoopV (wpC Try.prog tab D21 (cAt [1, 1, 1, 0, 1, 0, 0] (bodyOf Try.f21))) [0] (PostF.block 0 (PostF.thenA (wpC Try.prog tab D21 (cAt [1, 1, 1, 1] (bodyOf Try.f21))) (retF tab [.tmp 4] K))) [1, 5] [v0, v1, AV.any, AV.any, AV.any, v5, AV.any, AV.any, AV.any, AV.any, AV.any, AV.any, AV.any, AV.any, AV.any, AV.any, AV.any, AV.any, AV.any, AV.any, AV.any, AV.any, AV.any, AV.any, AV.any, AV.any, AV.any] H
def B21_0 (K : AV → Heap → Prop) (N1 : AV → AV → Heap → Prop) (v0 : AV) (v1 : AV) (v5 : AV) (H : Heap) : Prop :=
 lenV tab 23 v0 fun v14 =>
 binV tab .lss 3 v5 v14 fun v15 =>
 condV v15 (indexAddrV tab 23 v0 v5 fun v20 =>
 loadV tab 63 v20 H fun v21 =>
 CallT Try.prog 36 [v21, v1] H fun v23 H1 =>
 binV tab .lss 3 v23 (AV.p (.int .i64 0)) fun v25 =>
 condV v25 (K (AV.p (.int .i64 (-1))) H1)
 (binV tab .add 3 v5 (AV.p (.int .i64 1)) fun v17 =>
 N1 v23 v17 H1))
 (K v1 H)
def W21 (v0 : AV) (v1 : AV) (H : Heap) (K : AV → Heap → Prop) : Prop :=
 lenV tab 23 v0 fun v8 =>
 binV tab .sub 3 v1 v8 fun v9 =>
 binV tab .lss 3 v9 (AV.p (.int .i64 0)) fun v11 =>
 condV v11 (K (AV.p (.int .i64 (-1))) H)
 (L21_0 K v0 v9 (AV.p (.int .i64 0)) H)
theorem W21_wp (v0 : AV) (v1 : AV) (H : Heap) (K : AV → Heap → Prop) : wpC Try.prog tab D21 (bodyOf Try.f21) (retF tab [.tmp 4] K) (nthA [v0, v1]) H = W21 v0 v1 H K := by kernel_rfl
theorem W21_ok {v0 v1 : AV} {H : Heap} {K : AV → Heap → Prop} (h : W21 v0 v1 H K) : CallT Try.prog 21 [v0, v1] H K :=
  CallT.of_wp (D := D21) tab_ok mixed Try.func21 (c := bodyOf Try.f21) (by kernel_rfl) rfl (by kernel_rfl) (rs := #[.tmp 4]) rfl (by decide +kernel) (by kernel_rfl) (W21_wp v0 v1 H K) h
theorem W21_hb : HasBody Try.prog 21 := ⟨_, bodyOf Try.f21, Try.func21, by kernel_rfl, rfl⟩
theorem L21_0_rule {K : AV → Heap → Prop} {v0 v1 v5 : AV} {H : Heap} {σ : Type} (s0 : σ) (f1 : σ → AV) (f5 : σ → AV) (TH : σ → Heap) (pre : σ → Prop) (μ : σ → Nat)
    (h0 : pre s0 ∧ AV.wk v1 (f1 s0) ∧ AV.wk v5 (f5 s0) ∧ Heap.le (TH s0) H)
    (round : ∀ s, pre s → B21_0 K (fun w1 w5 H' => ∃ s', pre s' ∧ μ s' < μ s ∧ AV.wk w1 (f1 s') ∧ AV.wk w5 (f5 s') ∧ Heap.le (TH s') H') v0 (f1 s) (f5 s) (TH s)) :
    L21_0 K v0 v1 v5 H := by
  unfold L21_0
  exact LoopV.mk s0 (fun s => [f1 s, f5 s]) TH pre μ (fun _ => rfl) (Eq.mp (by kernel_rfl) h0) (fun s hs => Eq.mp (by kernel_rfl) (round s hs))
theorem L21_0_ruleG {K : AV → Heap → Prop} {v0 v1 v5 : AV} {H : Heap} {σ : Type} (s0 : σ) (f1 : σ → AV) (f5 : σ → AV) (TH : σ → Heap) (pre : σ → Prop) (μ : σ → Nat)
    (h0 : pre s0 ∧ AV.wk v1 (f1 s0) ∧ AV.wk v5 (f5 s0) ∧ Heap.le (TH s0) H)
    (round : ∀ s, pre s → ∀ q, TH s q = none → B21_0 K (fun w1 w5 H' => ∃ s', pre s' ∧ μ s' < μ s ∧ AV.wk w1 (f1 s') ∧ AV.wk w5 (f5 s') ∧ Heap.le (TH s') H') v0 (f1 s) (f5 s) ((TH s).set q [])) :
    L21_0 K v0 v1 v5 H := by
  unfold L21_0
  exact LoopV.mkG s0 (fun s => [f1 s, f5 s]) TH pre μ (fun _ => rfl) (Eq.mp (by kernel_rfl) h0) (fun s hs q hq => Eq.mp (by kernel_rfl) (round s hs q hq))
/-- loop.example/g00649/spec.l16Asked -/
def D22 : Info := ⟨22, fun i => ([], []), fun i => ([], [])⟩
def W22 (v0 : AV) (v1 : AV) (v2 : AV) (H : Heap) (K : AV → Heap → Prop) : Prop :=
 boxV v0 H fun v3 H1 =>
 loadV tab 33 v3 H1 fun v7 =>
 CallT Try.prog 37 [v7] H1 fun v8 H2 =>
 grdV v8 true (fieldAddrV tab 33 v3 3 fun v11 =>
 loadV tab 31 v11 H2 fun v12 =>
 lenV tab 31 v12 fun v13 =>
 binV tab .sub 3 v13 (AV.p (.int .i64 1)) fun v14 =>
 CallT Try.prog 38 [v1, (AV.p (.int .i64 0)), v14] H2 fun v15 H3 =>
 grdV v15 true (loadV tab 33 v3 H3 fun v18 =>
 CallT Try.prog 39 [v18, v2] H3 fun v20 H4 =>
 K v20 H4)
 (K (AV.p (.bool false)) H3))
 (K (AV.p (.bool false)) H2)
theorem W22_wp (v0 : AV) (v1 : AV) (v2 : AV) (H : Heap) (K : AV → Heap → Prop) : wpC Try.prog tab D22 (bodyOf Try.f22) (retF tab [.tmp 6] K) (nthA [v0, v1, v2]) H = W22 v0 v1 v2 H K := by kernel_rfl
theorem W22_ok {v0 v1 v2 : AV} {H : Heap} {K : AV → Heap → Prop} (h : W22 v0 v1 v2 H K) : CallT Try.prog 22 [v0, v1, v2] H K :=
  CallT.of_wp (D := D22) tab_ok mixed Try.func22 (c := bodyOf Try.f22) (by kernel_rfl) rfl (by kernel_rfl) (rs := #[.tmp 6]) rfl (by decide +kernel) (by kernel_rfl) (W22_wp v0 v1 v2 H K) h
theorem W22_hb : HasBody Try.prog 22 := ⟨_, bodyOf Try.f22, Try.func22, by kernel_rfl, rfl⟩
/-- loop.example/g00649/spec.l16One -/
def D23 : Info := ⟨52, fun i => ([], []), fun i => if i = 3 then ([1, 2, 3], [8, 9]) else if i = 7 then ([2, 3, 8, 30, 31], [32]) else ([], [])⟩
def L23_0 (K : AV → Heap → Prop) (v1 : AV) (v2 : AV) (v3 : AV) (v8 : AV) (v9 : AV) (H : Heap) : Prop := LoopV (wpC Try.prog tab D23 (cAt [1, 1, 0, 1, 0, 0] (bodyOf Try.f23))) [1, 2, 3] (PostF.block 0 (PostF.thenA (wpC Try.prog tab D23 (cAt [1, 1, 1] (bodyOf Try.f23))) (retF tab [.tmp 6, .tmp 7] K))) [8, 9] [AV.any, v1, v2, v3, AV.any, AV.any, AV.any, AV.any, v8, v9, AV.any, AV.any, AV.any, AV.any, AV.any, AV.any, AV.any, AV.any, AV.any, AV.any, AV.any, AV.any, AV.any, AV.any, AV.any, AV.any, AV.any, AV.any, AV.any, AV.any, AV.any, AV.any, AV.any, AV.any, AV.any, AV.any, AV.any, AV.any, AV.any, AV.any, AV.any, AV.any, AV.any, AV.any, AV.any, AV.any, AV.any, AV.any, AV.any, AV.any, AV.any, AV.any] H
def L23_1 (K : AV → Heap → Prop) (v2 : AV) (v3 : AV) (v8 : AV) (v30 : AV) (v31 : AV) (v32 : AV) (H : Heap) : Prop := LoopV (wpC Try.prog tab D23 (cAt [1, 1, 1, 0, 1, 0, 0] (bodyOf Try.f23))) [2, 3, 8, 30, 31] (PostF.block 2 (PostF.thenA (wpC Try.prog tab D23 (cAt [1, 1, 1, 1] (bodyOf Try.f23))) (retF tab [.tmp 6, .tmp 7] K))) [32] [AV.any, AV.any, v2, v3, AV.any, AV.any, AV.any, AV.any, v8, AV.any, AV.any, AV.any, AV.any, AV.any, AV.any, AV.any, AV.any, AV.any, AV.any, AV.any, AV.any, AV.any, AV.any, AV.any, AV.any, AV.any, AV.any, AV.any, AV.any, AV.any, v30, v31, v32, AV.any, AV.any, AV.any, AV.any, AV.any, AV.any, AV.any, AV.any, AV.any, AV.any, AV.any, AV.any, AV.any, AV.any, AV.any, AV.any, AV.any, AV.any, AV.any] H
def B23_1 (K : AV → Heap → Prop) (N1 : AV → Heap → Prop) (v2 : AV) (v3 : AV) (v8 : AV) (v30 : AV) (v31 : AV) (v32 : AV) (H : Heap) : Prop :=
 binV tab .lss 3 v32 v31 fun v33 =>
 condV v33 (indexAddrV tab 55 v30 v32 fun v34 =>
 loadV tab 69 v34 H fun v35 =>
 allocV tab 69 H fun v11 H5 =>
 storeV tab 69 v11 v35 H5 fun H6 =>
 fieldAddrV tab 69 v11 0 fun v37 =>
 loadV tab 3 v37 H6 fun v38 =>
 fieldAddrV tab 69 v11 1 fun v39 =>
 loadV tab 28 v39 H6 fun v40 =>
 indexAddrV tab 67 v8 v38 fun v41 =>
 storeV tab 28 v41 v40 H6 fun H7 =>
 binV tab .add 3 v32 (AV.p (.int .i64 1)) fun v42 =>
 N1 v42 H7)
 (fieldAddrV tab 33 v3 0 fun v43 =>
 loadV tab 3 v43 H fun v44 =>
 fieldAddrV tab 33 v3 1 fun v45 =>
 loadV tab 3 v45 H fun v46 =>
 CallT Try.prog 40 [v44, v46, v2, v8] H fun v49 H8 =>
 extractV v49 0 fun v50 =>
 extractV v49 1 fun v51 =>
 K (.tup [v50, v51]) H8)
def B23_0 (K : AV → Heap → Prop) (N1 : AV → AV → Heap → Prop) (v1 : AV) (v2 : AV) (v3 : AV) (v8 : AV) (v9 : AV) (H : Heap) : Prop :=
 fieldAddrV tab 33 v3 1 fun v13 =>
 loadV tab 3 v13 H fun v14 =>
 binV tab .lss 3 v9 v14 fun v15 =>
 condV v15 (convV tab 3 46 v9 fun v20 =>
 buildV tab 48 [(0, (AV.p (.int .i64 2))), (1, v20)] fun v21 =>
 buildSliceV tab 28 1 [(0, v21)] H (wkK fun v22 H2 =>
 buildSliceV tab 67 1 [(0, v22)] H2 (wkK fun v23 H3 =>
 appendV tab 67 67 v8 v23 H3 (wkK fun v24 H4 =>
 binV tab .add 3 v9 (AV.p (.int .i64 1)) fun v17 =>
 N1 v24 v17 H4))))
 (fieldAddrV tab 33 v3 3 fun v25 =>
 loadV tab 31 v25 H fun v26 =>
 indexAddrV tab 31 v26 v1 fun v28 =>
 fieldAddrV tab 57 v28 1 fun v29 =>
 loadV tab 55 v29 H fun v30 =>
 lenV tab 55 v30 fun v31 =>
 L23_1 K v2 v3 v8 v30 v31 (AV.p (.int .i64 0)) H)
def W23 (v0 : AV) (v1 : AV) (v2 : AV) (H : Heap) (K : AV → Heap → Prop) : Prop :=
 boxV v0 H fun v3 H1 =>
 L23_0 K v1 v2 v3 (AV.p .nil) (AV.p (.int .i64 0)) H1
theorem W23_wp (v0 : AV) (v1 : AV) (v2 : AV) (H : Heap) (K : AV → Heap → Prop) : wpC Try.prog tab D23 (bodyOf Try.f23) (retF tab [.tmp 6, .tmp 7] K) (nthA [v0, v1, v2]) H = W23 v0 v1 v2 H K := by kernel_rfl
theorem W23_ok {v0 v1 v2 : AV} {H : Heap} {K : AV → Heap → Prop} (h : W23 v0 v1 v2 H K) : CallT Try.prog 23 [v0, v1, v2] H K :=
  CallT.of_wp (D := D23) tab_ok mixed Try.func23 (c := bodyOf Try.f23) (by kernel_rfl) rfl (by kernel_rfl) (rs := #[.tmp 6, .tmp 7]) rfl (by decide +kernel) (by kernel_rfl) (W23_wp v0 v1 v2 H K) h
theorem W23_hb : HasBody Try.prog 23 := ⟨_, bodyOf Try.f23, Try.func23, by kernel_rfl, rfl⟩
theorem L23_1_rule {K : AV → Heap → Prop} {v2 v3 v8 v30 v31 v32 : AV} {H : Heap} {σ : Type} (s0 : σ) (f32 : σ → AV) (TH : σ → Heap) (pre : σ → Prop) (μ : σ → Nat)
    (h0 : pre s0 ∧ AV.wk v32 (f32 s0) ∧ Heap.le (TH s0) H)
    (round : ∀ s, pre s → B23_1 K (fun w32 H' => ∃ s', pre s' ∧ μ s' < μ s ∧ AV.wk w32 (f32 s') ∧ Heap.le (TH s') H') v2 v3 v8 v30 v31 (f32 s) (TH s)) :
    L23_1 K v2 v3 v8 v30 v31 v32 H := by
  unfold L23_1
  exact LoopV.mk s0 (fun s => [f32 s]) TH pre μ (fun _ => rfl) (Eq.mp (by kernel_rfl) h0) (fun s hs => Eq.mp (by kernel_rfl) (round s hs))
theorem L23_1_ruleG {K : AV → Heap → Prop} {v2 v3 v8 v30 v31 v32 : AV} {H : Heap} {σ : Type} (s0 : σ) (f32 : σ → AV) (TH : σ → Heap) (pre : σ → Prop) (μ : σ → Nat)
    (h0 : pre s0 ∧ AV.wk v32 (f32 s0) ∧ Heap.le (TH s0) H)
    (round : ∀ s, pre s → ∀ q, TH s q = none → B23_1 K (fun w32 H' => ∃ s', pre s' ∧ μ s' < μ s ∧ AV.wk w32 (f32 s') ∧ Heap.le (TH s') H') v2 v3 v8 v30 v31 (f32 s) ((TH s).set q [])) :
    L23_1 K v2 v3 v8 v30 v31 v32 H := by
  unfold L23_1
  exact LoopV.mkG s0 (fun s => [f32 s]) TH pre μ (fun _ => rfl) (Eq.mp (by kernel_rfl) h0) (fun s hs q hq => Eq.mp (by kernel_rfl) (round s hs q hq))
theorem L23_0_rule {K : AV → Heap → Prop} {v1 v2 v3 v8 v9 : AV} {H : Heap} {σ : Type} (s0 : σ) (f8 : σ → AV) (f9 : σ → AV) (TH : σ → Heap) (pre : σ → Prop) (μ : σ → Nat)
    (h0 : pre s0 ∧ AV.wk v8 (f8 s0) ∧ AV.wk v9 (f9 s0) ∧ Heap.le (TH s0) H)
    (round : ∀ s, pre s → B23_0 K (fun w8 w9 H' => ∃ s', pre s' ∧ μ s' < μ s ∧ AV.wk w8 (f8 s') ∧ AV.wk w9 (f9 s') ∧ Heap.le (TH s') H') v1 v2 v3 (f8 s) (f9 s) (TH s)) :
    L23_0 K v1 v2 v3 v8 v9 H := by
  unfold L23_0
  exact LoopV.mk s0 (fun s => [f8 s, f9 s]) TH pre μ (fun _ => rfl) (Eq.mp (by kernel_rfl) h0) (fun s hs => Eq.mp (by kernel_rfl) (round s hs))
theorem L23_0_ruleG {K : AV → Heap → Prop} {v1 v2 v3 v8 v9 : AV} {H : Heap} {σ : Type} (s0 : σ) (f8 : σ → AV) (f9 : σ → AV) (TH : σ → Heap) (pre : σ → Prop) (μ : σ → Nat)
    (h0 : pre s0 ∧ AV.wk v8 (f8 s0) ∧ AV.wk v9 (f9 s0) ∧ Heap.le (TH s0) H)
    (round : ∀ s, pre s → ∀ q, TH s q = none → B23_0 K (fun w8 w9 H' => ∃ s', pre s' ∧ μ s' < μ s ∧ AV.wk w8 (f8 s') ∧ AV.wk w9 (f9 s') ∧ Heap.le (TH s') H') v1 v2 v3 (f8 s) (f9 s) ((TH s).set q [])) :
    L23_0 K v1 v2 v3 v8 v9 H := by
  unfold L23_0
  exact LoopV.mkG s0 (fun s => [f8 s, f9 s]) TH pre μ (fun _ => rfl) (Eq.mp (by kernel_rfl) h0) (fun s hs q hq => Eq.mp (by kernel_rfl) (round s hs q hq))
end Go.Proofs.Ytlcnoflmlonikaa
