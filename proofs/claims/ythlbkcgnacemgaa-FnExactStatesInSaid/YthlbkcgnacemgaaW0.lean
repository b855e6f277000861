/- What each function's code is asked for, as a formula. Written by wgen.py (a program of this session's) out of Lean's print of the program. -/
import Derived.KernelRfl
import Derived.Test.YthlbkcgnacemgaaTab
import Derived.Test.YthlbkcgnacemgaaSepC
namespace Go.Proofs.Ythlbkcgnacemgaa
open Go Go.Sep
set_option linter.unusedVariables false
attribute [local irreducible] wpC headF
/-- loop.example/g00649/laws.FnExactGoodSight -/
def D3 : Info := ⟨45, fun i => if i = 8 then ([[], [0], [], [0, 1, 2], [0, 1, 2, 3], [0, 1, 2, 3, 4]], [(0, []), (2, []), (1, [2]), (3, []), (4, []), (5, [])]) else if i = 14 then ([[], [], [1], [0, 1, 2], [0, 1, 2, 3]], [(0, []), (1, []), (2, [0]), (3, []), (4, [])]) else if i = 16 then ([[], [], [1], [0, 1, 2], [0, 1, 2, 3]], [(0, []), (1, []), (2, [0]), (3, []), (4, [])]) else ([], []), fun i => ([], [])⟩
def W3 (v0 : AV) (v1 : AV) (H : Heap) (K : AV → Heap → Prop) : Prop :=
 boxV v0 H fun v2 H1 =>
 boxV v1 H1 fun v3 H2 =>
 loadV tab 25 v2 H2 fun v10 =>
 CallT Try.prog 7 [v10, (AV.p (.int .i64 1048576))] H2 fun v12 H3 =>
 binV tab .lss 3 v12 (AV.p (.int .i64 0)) fun v14 =>
 condV v14 (K (AV.p (.bool true)) H3)
 (loadV tab 28 v3 H3 fun v15 =>
 CallT Try.prog 8 [v15, v12] H3 fun v17 H4 =>
 binV tab .lss 3 v17 (AV.p (.int .i64 0)) fun v19 =>
 condV v19 (K (AV.p (.bool true)) H4)
 (loadV tab 25 v2 H4 fun v20 =>
 loadV tab 28 v3 H4 fun v22 =>
 CallT Try.prog 10 [v20] H4 fun v21 H5 =>
 (loadV tab 28 v3 H5 fun v9022 =>
 v22 = v9022) ∧
 CallT Try.prog 11 [v22] H5 fun v23 H6 =>
 CallT Try.prog 9 [v21, v23] H6 fun v24 H7 =>
 loadV tab 25 v2 H7 fun v25 =>
 CallT Try.prog 10 [v25] H7 fun v26 H8 =>
 allocV tab 35 H8 fun v7 H9 =>
 storeV tab 35 v7 v26 H9 fun H10 =>
 loadV tab 28 v3 H10 fun v27 =>
 CallT Try.prog 11 [v27] H10 fun v28 H11 =>
 allocV tab 37 H11 fun v8 H12 =>
 storeV tab 37 v8 v28 H12 fun H13 =>
 loadV tab 35 v7 H13 fun v29 =>
 loadV tab 37 v8 H13 fun v30 =>
 CallT Try.prog 12 [v29, v30] H13 fun v31 H14 =>
 binV tab .neq 4 v31 v24 fun v34 =>
 condV v34 (K (AV.p (.bool false)) H14)
 (loadV tab 35 v7 H14 fun v35 =>
 loadV tab 25 v2 H14 fun v36 =>
 CallT Try.prog 10 [v36] H14 fun v37 H15 =>
 (loadV tab 35 v7 H15 fun v9035 =>
 v35 = v9035) ∧
 CallT Try.prog 13 [v35, v37] H15 fun v38 H16 =>
 unV .not v38 fun v39 =>
 condV v39 (K (AV.p (.bool false)) H16)
 (loadV tab 37 v8 H16 fun v40 =>
 loadV tab 28 v3 H16 fun v41 =>
 CallT Try.prog 11 [v41] H16 fun v42 H17 =>
 (loadV tab 37 v8 H17 fun v9040 =>
 v40 = v9040) ∧
 CallT Try.prog 14 [v40, v42] H17 fun v43 H18 =>
 unV .not v43 fun v44 =>
 condV v44 (K (AV.p (.bool false)) H18)
 (K (AV.p (.bool true)) H18)))))
theorem W3_wp (v0 : AV) (v1 : AV) (H : Heap) (K : AV → Heap → Prop) : wpC Try.prog tab D3 (bodyOf Try.f3) (retF tab [.tmp 4] K) (nthA [v0, v1]) H = W3 v0 v1 H K := by kernel_rfl
theorem W3_ok {v0 v1 : AV} {H : Heap} {K : AV → Heap → Prop} (h : W3 v0 v1 H K) : CallT Try.prog 3 [v0, v1] H K :=
  CallT.of_wp (D := D3) tab_ok mixed Try.func3 (c := bodyOf Try.f3) (by kernel_rfl) rfl (by kernel_rfl) (rs := #[.tmp 4]) rfl (by decide +kernel) (by kernel_rfl) (W3_wp v0 v1 H K) h
theorem W3_hb : HasBody Try.prog 3 := ⟨_, bodyOf Try.f3, Try.func3, by kernel_rfl, rfl⟩
/-- loop.example/g00649/laws.FnExactClassOf -/
def D4 : Info := ⟨62, fun i => if i = 8 then ([[], [0], [], [0, 1, 2], [], [0, 1, 2, 3, 4], [0, 1, 2, 3, 4, 5], [0, 1, 2, 3, 4, 5, 6], [0, 1, 2, 3, 4, 5, 6], [0, 1, 2, 3, 4, 5, 6, 7], [0, 1, 2, 3, 4, 5, 6, 7, 8, 9]], [(0, []), (2, []), (4, []), (1, [2]), (3, []), (5, []), (6, []), (7, []), (8, []), (9, []), (10, [])]) else if i = 14 then ([[], [], [1], [0, 1, 2], [0, 1, 2, 3]], [(0, []), (1, []), (2, [0]), (3, []), (4, [])]) else if i = 16 then ([[], [], [1], [0, 1, 2], [0, 1, 2, 3]], [(0, []), (1, []), (2, [0]), (3, []), (4, [])]) else ([], []), fun i => ([], [])⟩
def W4 (v0 : AV) (v1 : AV) (v2 : AV) (H : Heap) (K : AV → Heap → Prop) : Prop :=
 boxV v0 H fun v3 H1 =>
 boxV v1 H1 fun v4 H2 =>
 loadV tab 25 v3 H2 fun v14 =>
 CallT Try.prog 7 [v14, (AV.p (.int .i64 1048576))] H2 fun v16 H3 =>
 binV tab .lss 3 v16 (AV.p (.int .i64 0)) fun v18 =>
 condV v18 (K (AV.p (.bool true)) H3)
 (loadV tab 28 v4 H3 fun v19 =>
 CallT Try.prog 8 [v19, v16] H3 fun v21 H4 =>
 binV tab .lss 3 v21 (AV.p (.int .i64 0)) fun v23 =>
 condV v23 (K (AV.p (.bool true)) H4)
 (loadV tab 25 v3 H4 fun v25 =>
 loadV tab 28 v4 H4 fun v27 =>
 CallT Try.prog 10 [v25] H4 fun v26 H5 =>
 (loadV tab 28 v4 H5 fun v9027 =>
 v27 = v9027) ∧
 CallT Try.prog 11 [v27] H5 fun v28 H6 =>
 CallT Try.prog 15 [v26, v28, v2] H6 fun v30 H7 =>
 extractV v30 0 fun v31 =>
 extractV v30 1 fun v32 =>
 loadV tab 25 v3 H7 fun v33 =>
 CallT Try.prog 10 [v33] H7 fun v34 H8 =>
 allocV tab 35 H8 fun v10 H9 =>
 storeV tab 35 v10 v34 H9 fun H10 =>
 loadV tab 28 v4 H10 fun v35 =>
 CallT Try.prog 11 [v35] H10 fun v36 H11 =>
 allocV tab 37 H11 fun v11 H12 =>
 storeV tab 37 v11 v36 H12 fun H13 =>
 loadV tab 35 v10 H13 fun v38 =>
 loadV tab 37 v11 H13 fun v39 =>
 CallT Try.prog 16 [v38, v39, v2] H13 fun v41 H14 =>
 extractV v41 0 fun v42 =>
 extractV v41 1 fun v43 =>
 binV tab .neq 3 v42 v31 fun v46 =>
 grdV v46 false (binV tab .neq 4 v43 v32 fun v50 =>
 condV v50 (K (AV.p (.bool false)) H14)
 (loadV tab 35 v10 H14 fun v52 =>
 loadV tab 25 v3 H14 fun v53 =>
 CallT Try.prog 10 [v53] H14 fun v54 H15 =>
 (loadV tab 35 v10 H15 fun v9052 =>
 v52 = v9052) ∧
 CallT Try.prog 13 [v52, v54] H15 fun v55 H16 =>
 unV .not v55 fun v56 =>
 condV v56 (K (AV.p (.bool false)) H16)
 (loadV tab 37 v11 H16 fun v57 =>
 loadV tab 28 v4 H16 fun v58 =>
 CallT Try.prog 11 [v58] H16 fun v59 H17 =>
 (loadV tab 37 v11 H17 fun v9057 =>
 v57 = v9057) ∧
 CallT Try.prog 14 [v57, v59] H17 fun v60 H18 =>
 unV .not v60 fun v61 =>
 condV v61 (K (AV.p (.bool false)) H18)
 (K (AV.p (.bool true)) H18))))
 (K (AV.p (.bool false)) H14)))
theorem W4_wp (v0 : AV) (v1 : AV) (v2 : AV) (H : Heap) (K : AV → Heap → Prop) : wpC Try.prog tab D4 (bodyOf Try.f4) (retF tab [.tmp 6] K) (nthA [v0, v1, v2]) H = W4 v0 v1 v2 H K := by kernel_rfl
theorem W4_ok {v0 v1 v2 : AV} {H : Heap} {K : AV → Heap → Prop} (h : W4 v0 v1 v2 H K) : CallT Try.prog 4 [v0, v1, v2] H K :=
  CallT.of_wp (D := D4) tab_ok mixed Try.func4 (c := bodyOf Try.f4) (by kernel_rfl) rfl (by kernel_rfl) (rs := #[.tmp 6]) rfl (by decide +kernel) (by kernel_rfl) (W4_wp v0 v1 v2 H K) h
theorem W4_hb : HasBody Try.prog 4 := ⟨_, bodyOf Try.f4, Try.func4, by kernel_rfl, rfl⟩
/-- loop.example/g00649/laws.FnExactClassesIn -/
def D5 : Info := ⟨58, fun i => if i = 8 then ([[], [0], [], [0, 1, 2], [0, 1, 2, 3], [0, 1, 2, 3, 4], [0, 1, 2, 3, 4, 5], [0, 1, 2, 3, 4, 5], [0, 1, 2, 3, 4, 5, 6], [0, 1, 2, 3, 4, 5, 6, 7, 8]], [(0, []), (2, []), (1, [2]), (3, []), (4, []), (5, []), (6, []), (7, []), (8, []), (9, [])]) else if i = 14 then ([[], [], [1], [0, 1, 2], [0, 1, 2, 3]], [(0, []), (1, []), (2, [0]), (3, []), (4, [])]) else if i = 16 then ([[], [], [1], [0, 1, 2], [0, 1, 2, 3]], [(0, []), (1, []), (2, [0]), (3, []), (4, [])]) else ([], []), fun i => ([], [])⟩
def W5 (v0 : AV) (v1 : AV) (H : Heap) (K : AV → Heap → Prop) : Prop :=
 boxV v0 H fun v2 H1 =>
 boxV v1 H1 fun v3 H2 =>
 loadV tab 25 v2 H2 fun v12 =>
 CallT Try.prog 7 [v12, (AV.p (.int .i64 1048576))] H2 fun v14 H3 =>
 binV tab .lss 3 v14 (AV.p (.int .i64 0)) fun v16 =>
 condV v16 (K (AV.p (.bool true)) H3)
 (loadV tab 28 v3 H3 fun v17 =>
 CallT Try.prog 8 [v17, v14] H3 fun v19 H4 =>
 binV tab .lss 3 v19 (AV.p (.int .i64 0)) fun v21 =>
 condV v21 (K (AV.p (.bool true)) H4)
 (loadV tab 25 v2 H4 fun v23 =>
 loadV tab 28 v3 H4 fun v25 =>
 CallT Try.prog 10 [v23] H4 fun v24 H5 =>
 (loadV tab 28 v3 H5 fun v9025 =>
 v25 = v9025) ∧
 CallT Try.prog 11 [v25] H5 fun v26 H6 =>
 CallT Try.prog 17 [v24, v26] H6 fun v27 H7 =>
 extractV v27 0 fun v28 =>
 extractV v27 1 fun v29 =>
 loadV tab 25 v2 H7 fun v30 =>
 CallT Try.prog 10 [v30] H7 fun v31 H8 =>
 allocV tab 35 H8 fun v8 H9 =>
 storeV tab 35 v8 v31 H9 fun H10 =>
 loadV tab 28 v3 H10 fun v32 =>
 CallT Try.prog 11 [v32] H10 fun v33 H11 =>
 allocV tab 37 H11 fun v9 H12 =>
 storeV tab 37 v9 v33 H12 fun H13 =>
 loadV tab 35 v8 H13 fun v35 =>
 loadV tab 37 v9 H13 fun v36 =>
 CallT Try.prog 18 [v35, v36] H13 fun v37 H14 =>
 extractV v37 0 fun v38 =>
 extractV v37 1 fun v39 =>
 binV tab .neq 3 v38 v28 fun v42 =>
 grdV v42 false (binV tab .neq 4 v39 v29 fun v46 =>
 condV v46 (K (AV.p (.bool false)) H14)
 (loadV tab 35 v8 H14 fun v48 =>
 loadV tab 25 v2 H14 fun v49 =>
 CallT Try.prog 10 [v49] H14 fun v50 H15 =>
 (loadV tab 35 v8 H15 fun v9048 =>
 v48 = v9048) ∧
 CallT Try.prog 13 [v48, v50] H15 fun v51 H16 =>
 unV .not v51 fun v52 =>
 condV v52 (K (AV.p (.bool false)) H16)
 (loadV tab 37 v9 H16 fun v53 =>
 loadV tab 28 v3 H16 fun v54 =>
 CallT Try.prog 11 [v54] H16 fun v55 H17 =>
 (loadV tab 37 v9 H17 fun v9053 =>
 v53 = v9053) ∧
 CallT Try.prog 14 [v53, v55] H17 fun v56 H18 =>
 unV .not v56 fun v57 =>
 condV v57 (K (AV.p (.bool false)) H18)
 (K (AV.p (.bool true)) H18))))
 (K (AV.p (.bool false)) H14)))
theorem W5_wp (v0 : AV) (v1 : AV) (H : Heap) (K : AV → Heap → Prop) : wpC Try.prog tab D5 (bodyOf Try.f5) (retF tab [.tmp 4] K) (nthA [v0, v1]) H = W5 v0 v1 H K := by kernel_rfl
theorem W5_ok {v0 v1 : AV} {H : Heap} {K : AV → Heap → Prop} (h : W5 v0 v1 H K) : CallT Try.prog 5 [v0, v1] H K :=
  CallT.of_wp (D := D5) tab_ok mixed Try.func5 (c := bodyOf Try.f5) (by kernel_rfl) rfl (by kernel_rfl) (rs := #[.tmp 4]) rfl (by decide +kernel) (by kernel_rfl) (W5_wp v0 v1 H K) h
theorem W5_hb : HasBody Try.prog 5 := ⟨_, bodyOf Try.f5, Try.func5, by kernel_rfl, rfl⟩
/-- loop.example/g00649/laws.szProgram -/
def D7 : Info := ⟨18, fun i => ([], []), fun i => ([], [])⟩
def W7 (v0 : AV) (v1 : AV) (H : Heap) (K : AV → Heap → Prop) : Prop :=
 boxV v0 H fun v2 H1 =>
 fieldAddrV tab 25 v2 2 fun v5 =>
 loadV tab 22 v5 H1 fun v6 =>
 CallT Try.prog 26 [v6, v1] H1 fun v8 H2 =>
 binV tab .lss 3 v8 (AV.p (.int .i64 0)) fun v10 =>
 condV v10 (K (AV.p (.int .i64 (-1))) H2)
 (fieldAddrV tab 25 v2 3 fun v11 =>
 loadV tab 23 v11 H2 fun v12 =>
 CallT Try.prog 27 [v12, v8] H2 fun v14 H3 =>
 binV tab .lss 3 v14 (AV.p (.int .i64 0)) fun v16 =>
 condV v16 (K (AV.p (.int .i64 (-1))) H3)
 (K v14 H3))
theorem W7_wp (v0 : AV) (v1 : AV) (H : Heap) (K : AV → Heap → Prop) : wpC Try.prog tab D7 (bodyOf Try.f7) (retF tab [.tmp 4] K) (nthA [v0, v1]) H = W7 v0 v1 H K := by kernel_rfl
theorem W7_ok {v0 v1 : AV} {H : Heap} {K : AV → Heap → Prop} (h : W7 v0 v1 H K) : CallT Try.prog 7 [v0, v1] H K :=
  CallT.of_wp (D := D7) tab_ok mixed Try.func7 (c := bodyOf Try.f7) (by kernel_rfl) rfl (by kernel_rfl) (rs := #[.tmp 4]) rfl (by decide +kernel) (by kernel_rfl) (W7_wp v0 v1 H K) h
theorem W7_hb : HasBody Try.prog 7 := ⟨_, bodyOf Try.f7, Try.func7, by kernel_rfl, rfl⟩
/-- loop.example/g00649/laws.szSight -/
def D8 : Info := ⟨12, fun i => ([], []), fun i => ([], [])⟩
def W8 (v0 : AV) (v1 : AV) (H : Heap) (K : AV → Heap → Prop) : Prop :=
 boxV v0 H fun v2 H1 =>
 fieldAddrV tab 28 v2 0 fun v5 =>
 loadV tab 26 v5 H1 fun v6 =>
 CallT Try.prog 28 [v6, v1] H1 fun v8 H2 =>
 binV tab .lss 3 v8 (AV.p (.int .i64 0)) fun v10 =>
 condV v10 (K (AV.p (.int .i64 (-1))) H2)
 (K v8 H2)
theorem W8_wp (v0 : AV) (v1 : AV) (H : Heap) (K : AV → Heap → Prop) : wpC Try.prog tab D8 (bodyOf Try.f8) (retF tab [.tmp 4] K) (nthA [v0, v1]) H = W8 v0 v1 H K := by kernel_rfl
theorem W8_ok {v0 v1 : AV} {H : Heap} {K : AV → Heap → Prop} (h : W8 v0 v1 H K) : CallT Try.prog 8 [v0, v1] H K :=
  CallT.of_wp (D := D8) tab_ok mixed Try.func8 (c := bodyOf Try.f8) (by kernel_rfl) rfl (by kernel_rfl) (rs := #[.tmp 4]) rfl (by decide +kernel) (by kernel_rfl) (W8_wp v0 v1 H K) h
theorem W8_hb : HasBody Try.prog 8 := ⟨_, bodyOf Try.f8, Try.func8, by kernel_rfl, rfl⟩
/-- loop.example/g00649/spec.GoodSight -/
def D9 : Info := ⟨36, fun i => if i = 1 then ([[], [0], [0, 1], [0, 1, 2], [0, 1, 2, 3], [0, 1, 2, 3, 4], [0, 1, 2, 3, 4, 5], [0, 1, 2, 3], [0, 1, 2, 3, 7], [0, 1, 2, 3, 4, 5, 6, 7, 8], [0, 1, 2, 3, 4, 5, 6, 7, 8, 9]], [(0, []), (1, []), (2, []), (3, []), (4, []), (5, []), (6, []), (7, []), (8, [5]), (9, []), (10, [])]) else ([], []), fun i => if i = 5 then ([20, 21], [5, 22]) else ([], [])⟩
def L9_0 (K : AV → Heap → Prop) (v5 : AV) (v20 : AV) (v21 : AV) (v22 : AV) (H : Heap) : Prop := LoopV (wpC Try.prog tab D9 (cAt [1, 1, 1, 0, 1, 0, 0] (bodyOf Try.f9))) [20, 21] (PostF.block 0 (PostF.thenA (wpC Try.prog tab D9 (cAt [1, 1, 1, 1] (bodyOf Try.f9))) (retF tab [.tmp 4] K))) [5, 22] [AV.any, AV.any, AV.any, AV.any, AV.any, v5, AV.any, AV.any, AV.any, AV.any, AV.any, AV.any, AV.any, AV.any, AV.any, AV.any, AV.any, AV.any, AV.any, AV.any, v20, v21, v22, AV.any, AV.any, AV.any, AV.any, AV.any, AV.any, AV.any, AV.any, AV.any, AV.any, AV.any, AV.any, AV.any] H
def B9_0 (K : AV → Heap → Prop) (N1 : AV → AV → Heap → Prop) (v5 : AV) (v20 : AV) (v21 : AV) (v22 : AV) (H : Heap) : Prop :=
 binV tab .lss 3 v22 v21 fun v23 =>
 condV v23 (indexAddrV tab 26 v20 v22 fun v24 =>
 loadV tab 3 v24 H fun v25 =>
 CallT Try.prog 31 [v25, (AV.p (.int .i64 0)), v5] H fun v28 H5 =>
 unV .not v28 fun v29 =>
 condV v29 (K (AV.p (.bool false)) H5)
 (binV tab .eql 3 v25 v5 fun v32 =>
 condV v32 (binV tab .add 3 v5 (AV.p (.int .i64 1)) fun v34 =>
 binV tab .add 3 v22 (AV.p (.int .i64 1)) fun v35 =>
 N1 v34 v35 H5)
 (binV tab .add 3 v22 (AV.p (.int .i64 1)) fun v35 =>
 N1 v5 v35 H5)))
 (K (AV.p (.bool true)) H)
def W9 (v0 : AV) (v1 : AV) (H : Heap) (K : AV → Heap → Prop) : Prop :=
 boxV v0 H fun v2 H1 =>
 boxV v1 H1 fun v3 H2 =>
 loadV tab 35 v2 H2 fun v8 =>
 CallT Try.prog 29 [v8] H2 fun v9 H3 =>
 unV .not v9 fun v10 =>
 grdV v10 false (fieldAddrV tab 37 v3 0 fun v12 =>
 loadV tab 26 v12 H3 fun v13 =>
 lenV tab 26 v13 fun v14 =>
 loadV tab 35 v2 H3 fun v15 =>
 CallT Try.prog 30 [v15] H3 fun v16 H4 =>
 (loadV tab 26 v12 H4 fun v9013 =>
 v13 = v9013) ∧
 binV tab .neq 3 v14 v16 fun v17 =>
 condV v17 (K (AV.p (.bool false)) H4)
 (fieldAddrV tab 37 v3 0 fun v19 =>
 loadV tab 26 v19 H4 fun v20 =>
 lenV tab 26 v20 fun v21 =>
 L9_0 K (AV.p (.int .i64 0)) v20 v21 (AV.p (.int .i64 0)) H4))
 ((AV.und = AV.und) ∧
 K (AV.p (.bool false)) H3)
theorem W9_wp (v0 : AV) (v1 : AV) (H : Heap) (K : AV → Heap → Prop) : wpC Try.prog tab D9 (bodyOf Try.f9) (retF tab [.tmp 4] K) (nthA [v0, v1]) H = W9 v0 v1 H K := by kernel_rfl
theorem W9_ok {v0 v1 : AV} {H : Heap} {K : AV → Heap → Prop} (h : W9 v0 v1 H K) : CallT Try.prog 9 [v0, v1] H K :=
  CallT.of_wp (D := D9) tab_ok mixed Try.func9 (c := bodyOf Try.f9) (by kernel_rfl) rfl (by kernel_rfl) (rs := #[.tmp 4]) rfl (by decide +kernel) (by kernel_rfl) (W9_wp v0 v1 H K) h
theorem W9_hb : HasBody Try.prog 9 := ⟨_, bodyOf Try.f9, Try.func9, by kernel_rfl, rfl⟩
theorem L9_0_rule {K : AV → Heap → Prop} {v5 v20 v21 v22 : AV} {H : Heap} {σ : Type} (s0 : σ) (f5 : σ → AV) (f22 : σ → AV) (TH : σ → Heap) (pre : σ → Prop) (μ : σ → Nat)
    (h0 : pre s0 ∧ AV.wk v5 (f5 s0) ∧ AV.wk v22 (f22 s0) ∧ Heap.le (TH s0) H)
    (round : ∀ s, pre s → B9_0 K (fun w5 w22 H' => ∃ s', pre s' ∧ μ s' < μ s ∧ AV.wk w5 (f5 s') ∧ AV.wk w22 (f22 s') ∧ Heap.le (TH s') H') (f5 s) v20 v21 (f22 s) (TH s)) :
    L9_0 K v5 v20 v21 v22 H := by
  unfold L9_0
  exact LoopV.mk s0 (fun s => [f5 s, f22 s]) TH pre μ (fun _ => rfl) (Eq.mp (by kernel_rfl) h0) (fun s hs => Eq.mp (by kernel_rfl) (round s hs))
theorem L9_0_ruleG {K : AV → Heap → Prop} {v5 v20 v21 v22 : AV} {H : Heap} {σ : Type} (s0 : σ) (f5 : σ → AV) (f22 : σ → AV) (TH : σ → Heap) (pre : σ → Prop) (μ : σ → Nat)
    (h0 : pre s0 ∧ AV.wk v5 (f5 s0) ∧ AV.wk v22 (f22 s0) ∧ Heap.le (TH s0) H)
    (round : ∀ s, pre s → ∀ q, TH s q = none → B9_0 K (fun w5 w22 H' => ∃ s', pre s' ∧ μ s' < μ s ∧ AV.wk w5 (f5 s') ∧ AV.wk w22 (f22 s') ∧ Heap.le (TH s') H') (f5 s) v20 v21 (f22 s) ((TH s).set q [])) :
    L9_0 K v5 v20 v21 v22 H := by
  unfold L9_0
  exact LoopV.mkG s0 (fun s => [f5 s, f22 s]) TH pre μ (fun _ => rfl) (Eq.mp (by kernel_rfl) h0) (fun s hs q hq => Eq.mp (by kernel_rfl) (round s hs q hq))
/-- loop.example/g00649/laws.toProgram -/
def D10 : Info := ⟨19, fun i => ([], []), fun i => ([], [])⟩
def W10 (v0 : AV) (H : Heap) (K : AV → Heap → Prop) : Prop :=
 boxV v0 H fun v1 H1 =>
 allocV tab 35 H1 fun v2 H2 =>
 allocV tab 35 H2 fun v3 H3 =>
 fieldAddrV tab 25 v1 0 fun v4 =>
 loadV tab 3 v4 H3 fun v5 =>
 fieldAddrV tab 35 v3 0 fun v6 =>
 storeV tab 3 v6 v5 H3 fun H4 =>
 fieldAddrV tab 25 v1 1 fun v7 =>
 loadV tab 3 v7 H4 fun v8 =>
 fieldAddrV tab 35 v3 1 fun v9 =>
 storeV tab 3 v9 v8 H4 fun H5 =>
 fieldAddrV tab 25 v1 2 fun v10 =>
 loadV tab 22 v10 H5 fun v11 =>
 CallT Try.prog 32 [v11] H5 fun v12 H6 =>
 fieldAddrV tab 35 v3 2 fun v13 =>
 storeV tab 32 v13 v12 H6 fun H7 =>
 fieldAddrV tab 25 v1 3 fun v14 =>
 loadV tab 23 v14 H7 fun v15 =>
 CallT Try.prog 33 [v15] H7 fun v16 H8 =>
 fieldAddrV tab 35 v3 3 fun v17 =>
 storeV tab 33 v17 v16 H8 fun H9 =>
 loadV tab 35 v3 H9 fun v18 =>
 storeV tab 35 v2 v18 H9 fun H10 =>
 loadV tab 35 v2 H10 fun r0 =>
 K r0 H10
theorem W10_wp (v0 : AV) (H : Heap) (K : AV → Heap → Prop) : wpC Try.prog tab D10 (bodyOf Try.f10) (retF tab [.cell 2 35] K) (nthA [v0]) H = W10 v0 H K := by kernel_rfl
theorem W10_ok {v0 : AV} {H : Heap} {K : AV → Heap → Prop} (h : W10 v0 H K) : CallT Try.prog 10 [v0] H K :=
  CallT.of_wp (D := D10) tab_ok mixed Try.func10 (c := bodyOf Try.f10) (by kernel_rfl) rfl (by kernel_rfl) (rs := #[.cell 2 35]) rfl (by decide +kernel) (by kernel_rfl) (W10_wp v0 H K) h
theorem W10_hb : HasBody Try.prog 10 := ⟨_, bodyOf Try.f10, Try.func10, by kernel_rfl, rfl⟩
/-- loop.example/g00649/laws.toSight -/
def D11 : Info := ⟨9, fun i => ([], []), fun i => ([], [])⟩
def W11 (v0 : AV) (H : Heap) (K : AV → Heap → Prop) : Prop :=
 boxV v0 H fun v1 H1 =>
 allocV tab 37 H1 fun v2 H2 =>
 allocV tab 37 H2 fun v3 H3 =>
 fieldAddrV tab 28 v1 0 fun v4 =>
 loadV tab 26 v4 H3 fun v5 =>
 CallT Try.prog 34 [v5] H3 fun v6 H4 =>
 fieldAddrV tab 37 v3 0 fun v7 =>
 storeV tab 26 v7 v6 H4 fun H5 =>
 loadV tab 37 v3 H5 fun v8 =>
 storeV tab 37 v2 v8 H5 fun H6 =>
 loadV tab 37 v2 H6 fun r0 =>
 K r0 H6
theorem W11_wp (v0 : AV) (H : Heap) (K : AV → Heap → Prop) : wpC Try.prog tab D11 (bodyOf Try.f11) (retF tab [.cell 2 37] K) (nthA [v0]) H = W11 v0 H K := by kernel_rfl
theorem W11_ok {v0 : AV} {H : Heap} {K : AV → Heap → Prop} (h : W11 v0 H K) : CallT Try.prog 11 [v0] H K :=
  CallT.of_wp (D := D11) tab_ok mixed Try.func11 (c := bodyOf Try.f11) (by kernel_rfl) rfl (by kernel_rfl) (rs := #[.cell 2 37]) rfl (by decide +kernel) (by kernel_rfl) (W11_wp v0 H K) h
theorem W11_hb : HasBody Try.prog 11 := ⟨_, bodyOf Try.f11, Try.func11, by kernel_rfl, rfl⟩
/-- loop.example/g00649/impl.GoodSight -/
def D12 : Info := ⟨13, fun i => if i = 1 then ([[], [0], [0, 1], [0, 1, 2], [0, 1, 2], [0, 1, 2, 4], [0, 1, 2, 3, 4, 5], [0, 1, 2, 3, 4, 5, 6], [0, 1, 2, 3, 4, 5, 6, 7]], [(0, []), (1, []), (2, []), (3, []), (4, []), (5, [3]), (6, []), (7, []), (8, [])]) else ([], []), fun i => ([], [])⟩
def W12 (v0 : AV) (v1 : AV) (H : Heap) (K : AV → Heap → Prop) : Prop :=
 boxV v0 H fun v2 H1 =>
 boxV v1 H1 fun v3 H2 =>
 loadV tab 35 v2 H2 fun v5 =>
 CallT Try.prog 35 [v5] H2 fun v6 H3 =>
 grdV v6 true (loadV tab 37 v3 H3 fun v8 =>
 loadV tab 35 v2 H3 fun v9 =>
 CallT Try.prog 37 [v9] H3 fun v10 H4 =>
 (loadV tab 37 v3 H4 fun v9008 =>
 v8 = v9008) ∧
 CallT Try.prog 36 [v8, v10] H4 fun v11 H5 =>
 K v11 H5)
 ((AV.und = AV.und) ∧
 K (AV.p (.bool false)) H3)
theorem W12_wp (v0 : AV) (v1 : AV) (H : Heap) (K : AV → Heap → Prop) : wpC Try.prog tab D12 (bodyOf Try.f12) (retF tab [.tmp 4] K) (nthA [v0, v1]) H = W12 v0 v1 H K := by kernel_rfl
theorem W12_ok {v0 v1 : AV} {H : Heap} {K : AV → Heap → Prop} (h : W12 v0 v1 H K) : CallT Try.prog 12 [v0, v1] H K :=
  CallT.of_wp (D := D12) tab_ok mixed Try.func12 (c := bodyOf Try.f12) (by kernel_rfl) rfl (by kernel_rfl) (rs := #[.tmp 4]) rfl (by decide +kernel) (by kernel_rfl) (W12_wp v0 v1 H K) h
theorem W12_hb : HasBody Try.prog 12 := ⟨_, bodyOf Try.f12, Try.func12, by kernel_rfl, rfl⟩
/-- loop.example/g00649/laws.eqProgram -/
def D13 : Info := ⟨27, fun i => ([], []), fun i => ([], [])⟩
def W13 (v0 : AV) (v1 : AV) (H : Heap) (K : AV → Heap → Prop) : Prop :=
 boxV v0 H fun v2 H1 =>
 boxV v1 H1 fun v3 H2 =>
 fieldAddrV tab 35 v2 0 fun v5 =>
 loadV tab 3 v5 H2 fun v6 =>
 fieldAddrV tab 35 v3 0 fun v7 =>
 loadV tab 3 v7 H2 fun v8 =>
 binV tab .neq 3 v6 v8 fun v9 =>
 condV v9 (K (AV.p (.bool false)) H2)
 (fieldAddrV tab 35 v2 1 fun v10 =>
 loadV tab 3 v10 H2 fun v11 =>
 fieldAddrV tab 35 v3 1 fun v12 =>
 loadV tab 3 v12 H2 fun v13 =>
 binV tab .neq 3 v11 v13 fun v14 =>
 condV v14 (K (AV.p (.bool false)) H2)
 (fieldAddrV tab 35 v2 2 fun v15 =>
 loadV tab 32 v15 H2 fun v16 =>
 fieldAddrV tab 35 v3 2 fun v17 =>
 loadV tab 32 v17 H2 fun v18 =>
 CallT Try.prog 38 [v16, v18] H2 fun v19 H3 =>
 unV .not v19 fun v20 =>
 condV v20 (K (AV.p (.bool false)) H3)
 (fieldAddrV tab 35 v2 3 fun v21 =>
 loadV tab 33 v21 H3 fun v22 =>
 fieldAddrV tab 35 v3 3 fun v23 =>
 loadV tab 33 v23 H3 fun v24 =>
 CallT Try.prog 39 [v22, v24] H3 fun v25 H4 =>
 unV .not v25 fun v26 =>
 condV v26 (K (AV.p (.bool false)) H4)
 (K (AV.p (.bool true)) H4))))
theorem W13_wp (v0 : AV) (v1 : AV) (H : Heap) (K : AV → Heap → Prop) : wpC Try.prog tab D13 (bodyOf Try.f13) (retF tab [.tmp 4] K) (nthA [v0, v1]) H = W13 v0 v1 H K := by kernel_rfl
theorem W13_ok {v0 v1 : AV} {H : Heap} {K : AV → Heap → Prop} (h : W13 v0 v1 H K) : CallT Try.prog 13 [v0, v1] H K :=
  CallT.of_wp (D := D13) tab_ok mixed Try.func13 (c := bodyOf Try.f13) (by kernel_rfl) rfl (by kernel_rfl) (rs := #[.tmp 4]) rfl (by decide +kernel) (by kernel_rfl) (W13_wp v0 v1 H K) h
theorem W13_hb : HasBody Try.prog 13 := ⟨_, bodyOf Try.f13, Try.func13, by kernel_rfl, rfl⟩
/-- loop.example/g00649/laws.eqSight -/
def D14 : Info := ⟨11, fun i => ([], []), fun i => ([], [])⟩
def W14 (v0 : AV) (v1 : AV) (H : Heap) (K : AV → Heap → Prop) : Prop :=
 boxV v0 H fun v2 H1 =>
 boxV v1 H1 fun v3 H2 =>
 fieldAddrV tab 37 v2 0 fun v5 =>
 loadV tab 26 v5 H2 fun v6 =>
 fieldAddrV tab 37 v3 0 fun v7 =>
 loadV tab 26 v7 H2 fun v8 =>
 CallT Try.prog 21 [v6, v8] H2 fun v9 H3 =>
 unV .not v9 fun v10 =>
 condV v10 (K (AV.p (.bool false)) H3)
 (K (AV.p (.bool true)) H3)
theorem W14_wp (v0 : AV) (v1 : AV) (H : Heap) (K : AV → Heap → Prop) : wpC Try.prog tab D14 (bodyOf Try.f14) (retF tab [.tmp 4] K) (nthA [v0, v1]) H = W14 v0 v1 H K := by kernel_rfl
theorem W14_ok {v0 v1 : AV} {H : Heap} {K : AV → Heap → Prop} (h : W14 v0 v1 H K) : CallT Try.prog 14 [v0, v1] H K :=
  CallT.of_wp (D := D14) tab_ok mixed Try.func14 (c := bodyOf Try.f14) (by kernel_rfl) rfl (by kernel_rfl) (rs := #[.tmp 4]) rfl (by decide +kernel) (by kernel_rfl) (W14_wp v0 v1 H K) h
theorem W14_hb : HasBody Try.prog 14 := ⟨_, bodyOf Try.f14, Try.func14, by kernel_rfl, rfl⟩
/-- loop.example/g00649/spec.ClassOf -/
def D15 : Info := ⟨26, fun i => ([], []), fun i => ([], [])⟩
def W15 (v0 : AV) (v1 : AV) (v2 : AV) (H : Heap) (K : AV → Heap → Prop) : Prop :=
 boxV v0 H fun v3 H1 =>
 boxV v1 H1 fun v4 H2 =>
 loadV tab 35 v3 H2 fun v8 =>
 loadV tab 37 v4 H2 fun v9 =>
 CallT Try.prog 9 [v8, v9] H2 fun v10 H3 =>
 unV .not v10 fun v11 =>
 grdV v11 false (fieldAddrV tab 37 v4 0 fun v14 =>
 loadV tab 26 v14 H3 fun v15 =>
 lenV tab 26 v15 fun v16 =>
 binV tab .sub 3 v16 (AV.p (.int .i64 1)) fun v17 =>
 CallT Try.prog 31 [v2, (AV.p (.int .i64 0)), v17] H3 fun v18 H4 =>
 unV .not v18 fun v19 =>
 condV v19 (K (.tup [(AV.p (.int .i64 0)), (AV.p (.bool false))]) H4)
 (fieldAddrV tab 37 v4 0 fun v21 =>
 loadV tab 26 v21 H4 fun v22 =>
 indexAddrV tab 26 v22 v2 fun v24 =>
 loadV tab 3 v24 H4 fun v25 =>
 K (.tup [v25, (AV.p (.bool true))]) H4))
 (K (.tup [(AV.p (.int .i64 0)), (AV.p (.bool false))]) H3)
theorem W15_wp (v0 : AV) (v1 : AV) (v2 : AV) (H : Heap) (K : AV → Heap → Prop) : wpC Try.prog tab D15 (bodyOf Try.f15) (retF tab [.tmp 6, .tmp 7] K) (nthA [v0, v1, v2]) H = W15 v0 v1 v2 H K := by kernel_rfl
theorem W15_ok {v0 v1 v2 : AV} {H : Heap} {K : AV → Heap → Prop} (h : W15 v0 v1 v2 H K) : CallT Try.prog 15 [v0, v1, v2] H K :=
  CallT.of_wp (D := D15) tab_ok mixed Try.func15 (c := bodyOf Try.f15) (by kernel_rfl) rfl (by kernel_rfl) (rs := #[.tmp 6, .tmp 7]) rfl (by decide +kernel) (by kernel_rfl) (W15_wp v0 v1 v2 H K) h
theorem W15_hb : HasBody Try.prog 15 := ⟨_, bodyOf Try.f15, Try.func15, by kernel_rfl, rfl⟩
/-- loop.example/g00649/impl.ClassOf -/
def D16 : Info := ⟨23, fun i => ([], []), fun i => ([], [])⟩
def W16 (v0 : AV) (v1 : AV) (v2 : AV) (H : Heap) (K : AV → Heap → Prop) : Prop :=
 boxV v0 H fun v3 H1 =>
 boxV v1 H1 fun v4 H2 =>
 loadV tab 35 v3 H2 fun v8 =>
 loadV tab 37 v4 H2 fun v9 =>
 CallT Try.prog 12 [v8, v9] H2 fun v10 H3 =>
 unV .not v10 fun v11 =>
 grdV v11 false (loadV tab 35 v3 H3 fun v13 =>
 CallT Try.prog 40 [v13, v2] H3 fun v15 H4 =>
 unV .not v15 fun v16 =>
 condV v16 (K (.tup [(AV.p (.int .i64 0)), (AV.p (.bool false))]) H4)
 (fieldAddrV tab 37 v4 0 fun v18 =>
 loadV tab 26 v18 H4 fun v19 =>
 indexAddrV tab 26 v19 v2 fun v21 =>
 loadV tab 3 v21 H4 fun v22 =>
 K (.tup [v22, (AV.p (.bool true))]) H4))
 (K (.tup [(AV.p (.int .i64 0)), (AV.p (.bool false))]) H3)
theorem W16_wp (v0 : AV) (v1 : AV) (v2 : AV) (H : Heap) (K : AV → Heap → Prop) : wpC Try.prog tab D16 (bodyOf Try.f16) (retF tab [.tmp 6, .tmp 7] K) (nthA [v0, v1, v2]) H = W16 v0 v1 v2 H K := by kernel_rfl
theorem W16_ok {v0 v1 v2 : AV} {H : Heap} {K : AV → Heap → Prop} (h : W16 v0 v1 v2 H K) : CallT Try.prog 16 [v0, v1, v2] H K :=
  CallT.of_wp (D := D16) tab_ok mixed Try.func16 (c := bodyOf Try.f16) (by kernel_rfl) rfl (by kernel_rfl) (rs := #[.tmp 6, .tmp 7]) rfl (by decide +kernel) (by kernel_rfl) (W16_wp v0 v1 v2 H K) h
theorem W16_hb : HasBody Try.prog 16 := ⟨_, bodyOf Try.f16, Try.func16, by kernel_rfl, rfl⟩
/-- loop.example/g00649/spec.ClassesIn -/
def D17 : Info := ⟨12, fun i => ([], []), fun i => ([], [])⟩
def W17 (v0 : AV) (v1 : AV) (H : Heap) (K : AV → Heap → Prop) : Prop :=
 boxV v0 H fun v2 H1 =>
 boxV v1 H1 fun v3 H2 =>
 loadV tab 35 v2 H2 fun v6 =>
 loadV tab 37 v3 H2 fun v7 =>
 CallT Try.prog 9 [v6, v7] H2 fun v8 H3 =>
 unV .not v8 fun v9 =>
 condV v9 (K (.tup [(AV.p (.int .i64 0)), (AV.p (.bool false))]) H3)
 (loadV tab 37 v3 H3 fun v10 =>
 CallT Try.prog 41 [v10] H3 fun v11 H4 =>
 K (.tup [v11, (AV.p (.bool true))]) H4)
theorem W17_wp (v0 : AV) (v1 : AV) (H : Heap) (K : AV → Heap → Prop) : wpC Try.prog tab D17 (bodyOf Try.f17) (retF tab [.tmp 4, .tmp 5] K) (nthA [v0, v1]) H = W17 v0 v1 H K := by kernel_rfl
theorem W17_ok {v0 v1 : AV} {H : Heap} {K : AV → Heap → Prop} (h : W17 v0 v1 H K) : CallT Try.prog 17 [v0, v1] H K :=
  CallT.of_wp (D := D17) tab_ok mixed Try.func17 (c := bodyOf Try.f17) (by kernel_rfl) rfl (by kernel_rfl) (rs := #[.tmp 4, .tmp 5]) rfl (by decide +kernel) (by kernel_rfl) (W17_wp v0 v1 H K) h
theorem W17_hb : HasBody Try.prog 17 := ⟨_, bodyOf Try.f17, Try.func17, by kernel_rfl, rfl⟩
/-- loop.example/g00649/impl.ClassesIn -/
def D18 : Info := ⟨12, fun i => ([], []), fun i => ([], [])⟩
def W18 (v0 : AV) (v1 : AV) (H : Heap) (K : AV → Heap → Prop) : Prop :=
 boxV v0 H fun v2 H1 =>
 boxV v1 H1 fun v3 H2 =>
 loadV tab 35 v2 H2 fun v6 =>
 loadV tab 37 v3 H2 fun v7 =>
 CallT Try.prog 12 [v6, v7] H2 fun v8 H3 =>
 unV .not v8 fun v9 =>
 condV v9 (K (.tup [(AV.p (.int .i64 0)), (AV.p (.bool false))]) H3)
 (loadV tab 37 v3 H3 fun v10 =>
 CallT Try.prog 42 [v10] H3 fun v11 H4 =>
 K (.tup [v11, (AV.p (.bool true))]) H4)
theorem W18_wp (v0 : AV) (v1 : AV) (H : Heap) (K : AV → Heap → Prop) : wpC Try.prog tab D18 (bodyOf Try.f18) (retF tab [.tmp 4, .tmp 5] K) (nthA [v0, v1]) H = W18 v0 v1 H K := by kernel_rfl
theorem W18_ok {v0 v1 : AV} {H : Heap} {K : AV → Heap → Prop} (h : W18 v0 v1 H K) : CallT Try.prog 18 [v0, v1] H K :=
  CallT.of_wp (D := D18) tab_ok mixed Try.func18 (c := bodyOf Try.f18) (by kernel_rfl) rfl (by kernel_rfl) (rs := #[.tmp 4, .tmp 5]) rfl (by decide +kernel) (by kernel_rfl) (W18_wp v0 v1 H K) h
theorem W18_hb : HasBody Try.prog 18 := ⟨_, bodyOf Try.f18, Try.func18, by kernel_rfl, rfl⟩
/-- loop.example/g00649/laws.eqIntS -/
def D21 : Info := ⟨26, fun i => if i = 6 then ([[], [], [0, 1], [0, 1, 2], [], [], [4, 5], [4, 5, 6], [0, 1, 2, 3, 4, 5, 6, 7]], [(0, []), (1, []), (2, []), (3, []), (4, []), (5, []), (6, []), (7, []), (8, [])]) else ([], []), fun i => if i = 4 then ([0, 1], [5]) else ([], [])⟩
def L21_0 (K : AV → Heap → Prop) (v0 : AV) (v1 : AV) (v5 : AV) (H : Heap) : Prop := LoopV (wpC Try.prog tab D21 (cAt [1, 1, 0, 1, 0, 0] (bodyOf Try.f21))) [0, 1] (PostF.block 0 (PostF.thenA (wpC Try.prog tab D21 (cAt [1, 1, 1] (bodyOf Try.f21))) (retF tab [.tmp 4] K))) [5] [v0, v1, AV.any, AV.any, AV.any, v5, AV.any, AV.any, AV.any, AV.any, AV.any, AV.any, AV.any, AV.any, AV.any, AV.any, AV.any, AV.any, AV.any, AV.any, AV.any, AV.any, AV.any, AV.any, AV.any, AV.any] H
def B21_0 (K : AV → Heap → Prop) (N1 : AV → Heap → Prop) (v0 : AV) (v1 : AV) (v5 : AV) (H : Heap) : Prop :=
 lenV tab 26 v0 fun v13 =>
 binV tab .lss 3 v5 v13 fun v14 =>
 condV v14 (indexAddrV tab 26 v0 v5 fun v19 =>
 loadV tab 3 v19 H fun v20 =>
 indexAddrV tab 26 v1 v5 fun v23 =>
 loadV tab 3 v23 H fun v24 =>
 binV tab .neq 3 v20 v24 fun v25 =>
 condV v25 (K (AV.p (.bool false)) H)
 (binV tab .add 3 v5 (AV.p (.int .i64 1)) fun v16 =>
 N1 v16 H))
 (K (AV.p (.bool true)) H)
def W21 (v0 : AV) (v1 : AV) (H : Heap) (K : AV → Heap → Prop) : Prop :=
 lenV tab 26 v0 fun v7 =>
 lenV tab 26 v1 fun v9 =>
 binV tab .neq 3 v7 v9 fun v10 =>
 condV v10 (K (AV.p (.bool false)) H)
 (L21_0 K v0 v1 (AV.p (.int .i64 0)) H)
theorem W21_wp (v0 : AV) (v1 : AV) (H : Heap) (K : AV → Heap → Prop) : wpC Try.prog tab D21 (bodyOf Try.f21) (retF tab [.tmp 4] K) (nthA [v0, v1]) H = W21 v0 v1 H K := by kernel_rfl
theorem W21_ok {v0 v1 : AV} {H : Heap} {K : AV → Heap → Prop} (h : W21 v0 v1 H K) : CallT Try.prog 21 [v0, v1] H K :=
  CallT.of_wp (D := D21) tab_ok mixed Try.func21 (c := bodyOf Try.f21) (by kernel_rfl) rfl (by kernel_rfl) (rs := #[.tmp 4]) rfl (by decide +kernel) (by kernel_rfl) (W21_wp v0 v1 H K) h
theorem W21_hb : HasBody Try.prog 21 := ⟨_, bodyOf Try.f21, Try.func21, by kernel_rfl, rfl⟩
theorem L21_0_rule {K : AV → Heap → Prop} {v0 v1 v5 : AV} {H : Heap} {σ : Type} (s0 : σ) (f5 : σ → AV) (TH : σ → Heap) (pre : σ → Prop) (μ : σ → Nat)
    (h0 : pre s0 ∧ AV.wk v5 (f5 s0) ∧ Heap.le (TH s0) H)
    (round : ∀ s, pre s → B21_0 K (fun w5 H' => ∃ s', pre s' ∧ μ s' < μ s ∧ AV.wk w5 (f5 s') ∧ Heap.le (TH s') H') v0 v1 (f5 s) (TH s)) :
    L21_0 K v0 v1 v5 H := by
  unfold L21_0
  exact LoopV.mk s0 (fun s => [f5 s]) TH pre μ (fun _ => rfl) (Eq.mp (by kernel_rfl) h0) (fun s hs => Eq.mp (by kernel_rfl) (round s hs))
theorem L21_0_ruleG {K : AV → Heap → Prop} {v0 v1 v5 : AV} {H : Heap} {σ : Type} (s0 : σ) (f5 : σ → AV) (TH : σ → Heap) (pre : σ → Prop) (μ : σ → Nat)
    (h0 : pre s0 ∧ AV.wk v5 (f5 s0) ∧ Heap.le (TH s0) H)
    (round : ∀ s, pre s → ∀ q, TH s q = none → B21_0 K (fun w5 H' => ∃ s', pre s' ∧ μ s' < μ s ∧ AV.wk w5 (f5 s') ∧ Heap.le (TH s') H') v0 v1 (f5 s) ((TH s).set q [])) :
    L21_0 K v0 v1 v5 H := by
  unfold L21_0
  exact LoopV.mkG s0 (fun s => [f5 s]) TH pre μ (fun _ => rfl) (Eq.mp (by kernel_rfl) h0) (fun s hs q hq => Eq.mp (by kernel_rfl) (round s hs q hq))
/-- loop.example/g00649/laws.szNodeS -/
def D26 : Info := ⟨12, fun i => ([], []), fun i => ([], [])⟩
def W26 (v0 : AV) (v1 : AV) (H : Heap) (K : AV → Heap → Prop) : Prop :=
 lenV tab 22 v0 fun v7 =>
 binV tab .sub 3 v1 v7 fun v8 =>
 binV tab .lss 3 v8 (AV.p (.int .i64 0)) fun v10 =>
 condV v10 (K (AV.p (.int .i64 (-1))) H)
 (K v8 H)
theorem W26_wp (v0 : AV) (v1 : AV) (H : Heap) (K : AV → Heap → Prop) : wpC Try.prog tab D26 (bodyOf Try.f26) (retF tab [.tmp 4] K) (nthA [v0, v1]) H = W26 v0 v1 H K := by kernel_rfl
theorem W26_ok {v0 v1 : AV} {H : Heap} {K : AV → Heap → Prop} (h : W26 v0 v1 H K) : CallT Try.prog 26 [v0, v1] H K :=
  CallT.of_wp (D := D26) tab_ok mixed Try.func26 (c := bodyOf Try.f26) (by kernel_rfl) rfl (by kernel_rfl) (rs := #[.tmp 4]) rfl (by decide +kernel) (by kernel_rfl) (W26_wp v0 v1 H K) h
theorem W26_hb : HasBody Try.prog 26 := ⟨_, bodyOf Try.f26, Try.func26, by kernel_rfl, rfl⟩
/-- loop.example/g00649/laws.szCommandS -/
def D27 : Info := ⟨27, fun i => ([], []), fun i => if i = 5 then ([0], [1, 5]) else ([], [])⟩
def L27_0 (K : AV → Heap → Prop) (v0 : AV) (v1 : AV) (v5 : AV) (H : Heap) : Prop := LoopV (wpC Try.prog tab D27 (cAt [1, 1, 1, 0, 1, 0, 0] (bodyOf Try.f27))) [0] (PostF.block 0 (PostF.thenA (wpC Try.prog tab D27 (cAt [1, 1, 1, 1] (bodyOf Try.f27))) (retF tab [.tmp 4] K))) [1, 5] [v0, v1, AV.any, AV.any, AV.any, v5, AV.any, AV.any, AV.any, AV.any, AV.any, AV.any, AV.any, AV.any, AV.any, AV.any, AV.any, AV.any, AV.any, AV.any, AV.any, AV.any, AV.any, AV.any, AV.any, AV.any, AV.any] H
def B27_0 (K : AV → Heap → Prop) (N1 : AV → AV → Heap → Prop) (v0 : AV) (v1 : AV) (v5 : AV) (H : Heap) : Prop :=
 lenV tab 23 v0 fun v14 =>
 binV tab .lss 3 v5 v14 fun v15 =>
 condV v15 (indexAddrV tab 23 v0 v5 fun v20 =>
 loadV tab 74 v20 H fun v21 =>
 CallT Try.prog 48 [v21, v1] H fun v23 H1 =>
 binV tab .lss 3 v23 (AV.p (.int .i64 0)) fun v25 =>
 condV v25 (K (AV.p (.int .i64 (-1))) H1)
 (binV tab .add 3 v5 (AV.p (.int .i64 1)) fun v17 =>
 N1 v23 v17 H1))
 (K v1 H)
def W27 (v0 : AV) (v1 : AV) (H : Heap) (K : AV → Heap → Prop) : Prop :=
 lenV tab 23 v0 fun v8 =>
 binV tab .sub 3 v1 v8 fun v9 =>
 binV tab .lss 3 v9 (AV.p (.int .i64 0)) fun v11 =>
 condV v11 (K (AV.p (.int .i64 (-1))) H)
 (L27_0 K v0 v9 (AV.p (.int .i64 0)) H)
theorem W27_wp (v0 : AV) (v1 : AV) (H : Heap) (K : AV → Heap → Prop) : wpC Try.prog tab D27 (bodyOf Try.f27) (retF tab [.tmp 4] K) (nthA [v0, v1]) H = W27 v0 v1 H K := by kernel_rfl
theorem W27_ok {v0 v1 : AV} {H : Heap} {K : AV → Heap → Prop} (h : W27 v0 v1 H K) : CallT Try.prog 27 [v0, v1] H K :=
  CallT.of_wp (D := D27) tab_ok mixed Try.func27 (c := bodyOf Try.f27) (by kernel_rfl) rfl (by kernel_rfl) (rs := #[.tmp 4]) rfl (by decide +kernel) (by kernel_rfl) (W27_wp v0 v1 H K) h
theorem W27_hb : HasBody Try.prog 27 := ⟨_, bodyOf Try.f27, Try.func27, by kernel_rfl, rfl⟩
theorem L27_0_rule {K : AV → Heap → Prop} {v0 v1 v5 : AV} {H : Heap} {σ : Type} (s0 : σ) (f1 : σ → AV) (f5 : σ → AV) (TH : σ → Heap) (pre : σ → Prop) (μ : σ → Nat)
    (h0 : pre s0 ∧ AV.wk v1 (f1 s0) ∧ AV.wk v5 (f5 s0) ∧ Heap.le (TH s0) H)
    (round : ∀ s, pre s → B27_0 K (fun w1 w5 H' => ∃ s', pre s' ∧ μ s' < μ s ∧ AV.wk w1 (f1 s') ∧ AV.wk w5 (f5 s') ∧ Heap.le (TH s') H') v0 (f1 s) (f5 s) (TH s)) :
    L27_0 K v0 v1 v5 H := by
  unfold L27_0
  exact LoopV.mk s0 (fun s => [f1 s, f5 s]) TH pre μ (fun _ => rfl) (Eq.mp (by kernel_rfl) h0) (fun s hs => Eq.mp (by kernel_rfl) (round s hs))
theorem L27_0_ruleG {K : AV → Heap → Prop} {v0 v1 v5 : AV} {H : Heap} {σ : Type} (s0 : σ) (f1 : σ → AV) (f5 : σ → AV) (TH : σ → Heap) (pre : σ → Prop) (μ : σ → Nat)
    (h0 : pre s0 ∧ AV.wk v1 (f1 s0) ∧ AV.wk v5 (f5 s0) ∧ Heap.le (TH s0) H)
    (round : ∀ s, pre s → ∀ q, TH s q = none → B27_0 K (fun w1 w5 H' => ∃ s', pre s' ∧ μ s' < μ s ∧ AV.wk w1 (f1 s') ∧ AV.wk w5 (f5 s') ∧ Heap.le (TH s') H') v0 (f1 s) (f5 s) ((TH s).set q [])) :
    L27_0 K v0 v1 v5 H := by
  unfold L27_0
  exact LoopV.mkG s0 (fun s => [f1 s, f5 s]) TH pre μ (fun _ => rfl) (Eq.mp (by kernel_rfl) h0) (fun s hs q hq => Eq.mp (by kernel_rfl) (round s hs q hq))
/-- loop.example/g00649/laws.szIntS -/
def D28 : Info := ⟨12, fun i => ([], []), fun i => ([], [])⟩
def W28 (v0 : AV) (v1 : AV) (H : Heap) (K : AV → Heap → Prop) : Prop :=
 lenV tab 26 v0 fun v7 =>
 binV tab .sub 3 v1 v7 fun v8 =>
 binV tab .lss 3 v8 (AV.p (.int .i64 0)) fun v10 =>
 condV v10 (K (AV.p (.int .i64 (-1))) H)
 (K v8 H)
theorem W28_wp (v0 : AV) (v1 : AV) (H : Heap) (K : AV → Heap → Prop) : wpC Try.prog tab D28 (bodyOf Try.f28) (retF tab [.tmp 4] K) (nthA [v0, v1]) H = W28 v0 v1 H K := by kernel_rfl
theorem W28_ok {v0 v1 : AV} {H : Heap} {K : AV → Heap → Prop} (h : W28 v0 v1 H K) : CallT Try.prog 28 [v0, v1] H K :=
  CallT.of_wp (D := D28) tab_ok mixed Try.func28 (c := bodyOf Try.f28) (by kernel_rfl) rfl (by kernel_rfl) (rs := #[.tmp 4]) rfl (by decide +kernel) (by kernel_rfl) (W28_wp v0 v1 H K) h
theorem W28_hb : HasBody Try.prog 28 := ⟨_, bodyOf Try.f28, Try.func28, by kernel_rfl, rfl⟩
/-- loop.example/g00649/spec.l7Small -/
def D29 : Info := ⟨13, fun i => ([], []), fun i => ([], [])⟩
def W29 (v0 : AV) (H : Heap) (K : AV → Heap → Prop) : Prop :=
 boxV v0 H fun v1 H1 =>
 loadV tab 35 v1 H1 fun v3 =>
 CallT Try.prog 49 [v3] H1 fun v4 H2 =>
 grdV v4 true (fieldAddrV tab 35 v1 0 fun v6 =>
 loadV tab 3 v6 H2 fun v7 =>
 fieldAddrV tab 35 v1 1 fun v8 =>
 loadV tab 3 v8 H2 fun v9 =>
 binV tab .mul 3 v7 v9 fun v10 =>
 binV tab .leq 3 v10 (AV.p (.int .i64 5)) fun v11 =>
 K v11 H2)
 (K (AV.p (.bool false)) H2)
theorem W29_wp (v0 : AV) (H : Heap) (K : AV → Heap → Prop) : wpC Try.prog tab D29 (bodyOf Try.f29) (retF tab [.tmp 2] K) (nthA [v0]) H = W29 v0 H K := by kernel_rfl
theorem W29_ok {v0 : AV} {H : Heap} {K : AV → Heap → Prop} (h : W29 v0 H K) : CallT Try.prog 29 [v0] H K :=
  CallT.of_wp (D := D29) tab_ok mixed Try.func29 (c := bodyOf Try.f29) (by kernel_rfl) rfl (by kernel_rfl) (rs := #[.tmp 2]) rfl (by decide +kernel) (by kernel_rfl) (W29_wp v0 H K) h
theorem W29_hb : HasBody Try.prog 29 := ⟨_, bodyOf Try.f29, Try.func29, by kernel_rfl, rfl⟩
/-- loop.example/g00649/spec.l7Many -/
def D30 : Info := ⟨10, fun i => ([], []), fun i => ([], [])⟩
def W30 (v0 : AV) (H : Heap) (K : AV → Heap → Prop) : Prop :=
 boxV v0 H fun v1 H1 =>
 fieldAddrV tab 35 v1 0 fun v3 =>
 loadV tab 3 v3 H1 fun v4 =>
 fieldAddrV tab 35 v1 1 fun v5 =>
 loadV tab 3 v5 H1 fun v6 =>
 binV tab .mul 3 v4 v6 fun v7 =>
 convV tab 3 75 v7 fun v8 =>
 binV tab .shl 3 (AV.p (.int .i64 1)) v8 fun v9 =>
 K v9 H1
theorem W30_wp (v0 : AV) (H : Heap) (K : AV → Heap → Prop) : wpC Try.prog tab D30 (bodyOf Try.f30) (retF tab [.tmp 2] K) (nthA [v0]) H = W30 v0 H K := by kernel_rfl
theorem W30_ok {v0 : AV} {H : Heap} {K : AV → Heap → Prop} (h : W30 v0 H K) : CallT Try.prog 30 [v0] H K :=
  CallT.of_wp (D := D30) tab_ok mixed Try.func30 (c := bodyOf Try.f30) (by kernel_rfl) rfl (by kernel_rfl) (rs := #[.tmp 2]) rfl (by decide +kernel) (by kernel_rfl) (W30_wp v0 H K) h
theorem W30_hb : HasBody Try.prog 30 := ⟨_, bodyOf Try.f30, Try.func30, by kernel_rfl, rfl⟩
/-- loop.example/g00649/spec.l1In -/
def D31 : Info := ⟨15, fun i => ([], []), fun i => ([], [])⟩
def W31 (v0 : AV) (v1 : AV) (v2 : AV) (H : Heap) (K : AV → Heap → Prop) : Prop :=
 binV tab .geq 3 v0 v1 fun v9 =>
 grdV v9 true (binV tab .leq 3 v0 v2 fun v13 =>
 K v13 H)
 (K (AV.p (.bool false)) H)
theorem W31_wp (v0 : AV) (v1 : AV) (v2 : AV) (H : Heap) (K : AV → Heap → Prop) : wpC Try.prog tab D31 (bodyOf Try.f31) (retF tab [.tmp 6] K) (nthA [v0, v1, v2]) H = W31 v0 v1 v2 H K := by kernel_rfl
theorem W31_ok {v0 v1 v2 : AV} {H : Heap} {K : AV → Heap → Prop} (h : W31 v0 v1 v2 H K) : CallT Try.prog 31 [v0, v1, v2] H K :=
  CallT.of_wp (D := D31) tab_ok mixed Try.func31 (c := bodyOf Try.f31) (by kernel_rfl) rfl (by kernel_rfl) (rs := #[.tmp 6]) rfl (by decide +kernel) (by kernel_rfl) (W31_wp v0 v1 v2 H K) h
theorem W31_hb : HasBody Try.prog 31 := ⟨_, bodyOf Try.f31, Try.func31, by kernel_rfl, rfl⟩
/-- loop.example/g00649/laws.toNodeS -/
def D32 : Info := ⟨23, fun i => ([], []), fun i => if i = 3 then ([0, 3], [4]) else ([], [])⟩
def L32_0 (K : AV → Heap → Prop) (v0 : AV) (v3 : AV) (v4 : AV) (H : Heap) : Prop := LoopV (wpC Try.prog tab D32 (cAt [1, 1, 0, 1, 0, 0] (bodyOf Try.f32))) [0, 3] (PostF.block 0 (PostF.thenA (wpC Try.prog tab D32 (cAt [1, 1, 1] (bodyOf Try.f32))) (retF tab [.tmp 2] K))) [4] [v0, AV.any, AV.any, v3, v4, AV.any, AV.any, AV.any, AV.any, AV.any, AV.any, AV.any, AV.any, AV.any, AV.any, AV.any, AV.any, AV.any, AV.any, AV.any, AV.any, AV.any, AV.any] H
def B32_0 (K : AV → Heap → Prop) (N1 : AV → Heap → Prop) (v0 : AV) (v3 : AV) (v4 : AV) (H : Heap) : Prop :=
 lenV tab 22 v0 fun v10 =>
 binV tab .lss 3 v4 v10 fun v11 =>
 condV v11 (indexAddrV tab 22 v0 v4 fun v18 =>
 loadV tab 80 v18 H fun v19 =>
 CallT Try.prog 50 [v19] H fun v20 H2 =>
 indexAddrV tab 32 v3 v4 fun v21 =>
 storeV tab 78 v21 v20 H2 fun H3 =>
 binV tab .add 3 v4 (AV.p (.int .i64 1)) fun v13 =>
 N1 v13 H3)
 (K v3 H)
def W32 (v0 : AV) (H : Heap) (K : AV → Heap → Prop) : Prop :=
 lenV tab 22 v0 fun v6 =>
 makeSliceV tab 32 v6 v6 H fun v7 H1 =>
 L32_0 K v0 v7 (AV.p (.int .i64 0)) H1
theorem W32_wp (v0 : AV) (H : Heap) (K : AV → Heap → Prop) : wpC Try.prog tab D32 (bodyOf Try.f32) (retF tab [.tmp 2] K) (nthA [v0]) H = W32 v0 H K := by kernel_rfl
theorem W32_ok {v0 : AV} {H : Heap} {K : AV → Heap → Prop} (h : W32 v0 H K) : CallT Try.prog 32 [v0] H K :=
  CallT.of_wp (D := D32) tab_ok mixed Try.func32 (c := bodyOf Try.f32) (by kernel_rfl) rfl (by kernel_rfl) (rs := #[.tmp 2]) rfl (by decide +kernel) (by kernel_rfl) (W32_wp v0 H K) h
theorem W32_hb : HasBody Try.prog 32 := ⟨_, bodyOf Try.f32, Try.func32, by kernel_rfl, rfl⟩
theorem L32_0_rule {K : AV → Heap → Prop} {v0 v3 v4 : AV} {H : Heap} {σ : Type} (s0 : σ) (f4 : σ → AV) (TH : σ → Heap) (pre : σ → Prop) (μ : σ → Nat)
    (h0 : pre s0 ∧ AV.wk v4 (f4 s0) ∧ Heap.le (TH s0) H)
    (round : ∀ s, pre s → B32_0 K (fun w4 H' => ∃ s', pre s' ∧ μ s' < μ s ∧ AV.wk w4 (f4 s') ∧ Heap.le (TH s') H') v0 v3 (f4 s) (TH s)) :
    L32_0 K v0 v3 v4 H := by
  unfold L32_0
  exact LoopV.mk s0 (fun s => [f4 s]) TH pre μ (fun _ => rfl) (Eq.mp (by kernel_rfl) h0) (fun s hs => Eq.mp (by kernel_rfl) (round s hs))
theorem L32_0_ruleG {K : AV → Heap → Prop} {v0 v3 v4 : AV} {H : Heap} {σ : Type} (s0 : σ) (f4 : σ → AV) (TH : σ → Heap) (pre : σ → Prop) (μ : σ → Nat)
    (h0 : pre s0 ∧ AV.wk v4 (f4 s0) ∧ Heap.le (TH s0) H)
    (round : ∀ s, pre s → ∀ q, TH s q = none → B32_0 K (fun w4 H' => ∃ s', pre s' ∧ μ s' < μ s ∧ AV.wk w4 (f4 s') ∧ Heap.le (TH s') H') v0 v3 (f4 s) ((TH s).set q [])) :
    L32_0 K v0 v3 v4 H := by
  unfold L32_0
  exact LoopV.mkG s0 (fun s => [f4 s]) TH pre μ (fun _ => rfl) (Eq.mp (by kernel_rfl) h0) (fun s hs q hq => Eq.mp (by kernel_rfl) (round s hs q hq))
/-- loop.example/g00649/laws.toCommandS -/
def D33 : Info := ⟨23, fun i => ([], []), fun i => if i = 3 then ([0, 3], [4]) else ([], [])⟩
def L33_0 (K : AV → Heap → Prop) (v0 : AV) (v3 : AV) (v4 : AV) (H : Heap) : Prop := LoopV (wpC Try.prog tab D33 (cAt [1, 1, 0, 1, 0, 0] (bodyOf Try.f33))) [0, 3] (PostF.block 0 (PostF.thenA (wpC Try.prog tab D33 (cAt [1, 1, 1] (bodyOf Try.f33))) (retF tab [.tmp 2] K))) [4] [v0, AV.any, AV.any, v3, v4, AV.any, AV.any, AV.any, AV.any, AV.any, AV.any, AV.any, AV.any, AV.any, AV.any, AV.any, AV.any, AV.any, AV.any, AV.any, AV.any, AV.any, AV.any] H
def B33_0 (K : AV → Heap → Prop) (N1 : AV → Heap → Prop) (v0 : AV) (v3 : AV) (v4 : AV) (H : Heap) : Prop :=
 lenV tab 23 v0 fun v10 =>
 binV tab .lss 3 v4 v10 fun v11 =>
 condV v11 (indexAddrV tab 23 v0 v4 fun v18 =>
 loadV tab 74 v18 H fun v19 =>
 CallT Try.prog 51 [v19] H fun v20 H2 =>
 indexAddrV tab 33 v3 v4 fun v21 =>
 storeV tab 83 v21 v20 H2 fun H3 =>
 binV tab .add 3 v4 (AV.p (.int .i64 1)) fun v13 =>
 N1 v13 H3)
 (K v3 H)
def W33 (v0 : AV) (H : Heap) (K : AV → Heap → Prop) : Prop :=
 lenV tab 23 v0 fun v6 =>
 makeSliceV tab 33 v6 v6 H fun v7 H1 =>
 L33_0 K v0 v7 (AV.p (.int .i64 0)) H1
theorem W33_wp (v0 : AV) (H : Heap) (K : AV → Heap → Prop) : wpC Try.prog tab D33 (bodyOf Try.f33) (retF tab [.tmp 2] K) (nthA [v0]) H = W33 v0 H K := by kernel_rfl
theorem W33_ok {v0 : AV} {H : Heap} {K : AV → Heap → Prop} (h : W33 v0 H K) : CallT Try.prog 33 [v0] H K :=
  CallT.of_wp (D := D33) tab_ok mixed Try.func33 (c := bodyOf Try.f33) (by kernel_rfl) rfl (by kernel_rfl) (rs := #[.tmp 2]) rfl (by decide +kernel) (by kernel_rfl) (W33_wp v0 H K) h
theorem W33_hb : HasBody Try.prog 33 := ⟨_, bodyOf Try.f33, Try.func33, by kernel_rfl, rfl⟩
theorem L33_0_rule {K : AV → Heap → Prop} {v0 v3 v4 : AV} {H : Heap} {σ : Type} (s0 : σ) (f4 : σ → AV) (TH : σ → Heap) (pre : σ → Prop) (μ : σ → Nat)
    (h0 : pre s0 ∧ AV.wk v4 (f4 s0) ∧ Heap.le (TH s0) H)
    (round : ∀ s, pre s → B33_0 K (fun w4 H' => ∃ s', pre s' ∧ μ s' < μ s ∧ AV.wk w4 (f4 s') ∧ Heap.le (TH s') H') v0 v3 (f4 s) (TH s)) :
    L33_0 K v0 v3 v4 H := by
  unfold L33_0
  exact LoopV.mk s0 (fun s => [f4 s]) TH pre μ (fun _ => rfl) (Eq.mp (by kernel_rfl) h0) (fun s hs => Eq.mp (by kernel_rfl) (round s hs))
theorem L33_0_ruleG {K : AV → Heap → Prop} {v0 v3 v4 : AV} {H : Heap} {σ : Type} (s0 : σ) (f4 : σ → AV) (TH : σ → Heap) (pre : σ → Prop) (μ : σ → Nat)
    (h0 : pre s0 ∧ AV.wk v4 (f4 s0) ∧ Heap.le (TH s0) H)
    (round : ∀ s, pre s → ∀ q, TH s q = none → B33_0 K (fun w4 H' => ∃ s', pre s' ∧ μ s' < μ s ∧ AV.wk w4 (f4 s') ∧ Heap.le (TH s') H') v0 v3 (f4 s) ((TH s).set q [])) :
    L33_0 K v0 v3 v4 H := by
  unfold L33_0
  exact LoopV.mkG s0 (fun s => [f4 s]) TH pre μ (fun _ => rfl) (Eq.mp (by kernel_rfl) h0) (fun s hs q hq => Eq.mp (by kernel_rfl) (round s hs q hq))
/-- loop.example/g00649/laws.toIntS -/
def D34 : Info := ⟨22, fun i => ([], []), fun i => if i = 3 then ([0, 3], [4]) else ([], [])⟩
def L34_0 (K : AV → Heap → Prop) (v0 : AV) (v3 : AV) (v4 : AV) (H : Heap) : Prop := LoopV (wpC Try.prog tab D34 (cAt [1, 1, 0, 1, 0, 0] (bodyOf Try.f34))) [0, 3] (PostF.block 0 (PostF.thenA (wpC Try.prog tab D34 (cAt [1, 1, 1] (bodyOf Try.f34))) (retF tab [.tmp 2] K))) [4] [v0, AV.any, AV.any, v3, v4, AV.any, AV.any, AV.any, AV.any, AV.any, AV.any, AV.any, AV.any, AV.any, AV.any, AV.any, AV.any, AV.any, AV.any, AV.any, AV.any, AV.any] H
def B34_0 (K : AV → Heap → Prop) (N1 : AV → Heap → Prop) (v0 : AV) (v3 : AV) (v4 : AV) (H : Heap) : Prop :=
 lenV tab 26 v0 fun v10 =>
 binV tab .lss 3 v4 v10 fun v11 =>
 condV v11 (indexAddrV tab 26 v0 v4 fun v18 =>
 loadV tab 3 v18 H fun v19 =>
 indexAddrV tab 26 v3 v4 fun v20 =>
 storeV tab 3 v20 v19 H fun H2 =>
 binV tab .add 3 v4 (AV.p (.int .i64 1)) fun v13 =>
 N1 v13 H2)
 (K v3 H)
def W34 (v0 : AV) (H : Heap) (K : AV → Heap → Prop) : Prop :=
 lenV tab 26 v0 fun v6 =>
 makeSliceV tab 26 v6 v6 H fun v7 H1 =>
 L34_0 K v0 v7 (AV.p (.int .i64 0)) H1
theorem W34_wp (v0 : AV) (H : Heap) (K : AV → Heap → Prop) : wpC Try.prog tab D34 (bodyOf Try.f34) (retF tab [.tmp 2] K) (nthA [v0]) H = W34 v0 H K := by kernel_rfl
theorem W34_ok {v0 : AV} {H : Heap} {K : AV → Heap → Prop} (h : W34 v0 H K) : CallT Try.prog 34 [v0] H K :=
  CallT.of_wp (D := D34) tab_ok mixed Try.func34 (c := bodyOf Try.f34) (by kernel_rfl) rfl (by kernel_rfl) (rs := #[.tmp 2]) rfl (by decide +kernel) (by kernel_rfl) (W34_wp v0 H K) h
theorem W34_hb : HasBody Try.prog 34 := ⟨_, bodyOf Try.f34, Try.func34, by kernel_rfl, rfl⟩
theorem L34_0_rule {K : AV → Heap → Prop} {v0 v3 v4 : AV} {H : Heap} {σ : Type} (s0 : σ) (f4 : σ → AV) (TH : σ → Heap) (pre : σ → Prop) (μ : σ → Nat)
    (h0 : pre s0 ∧ AV.wk v4 (f4 s0) ∧ Heap.le (TH s0) H)
    (round : ∀ s, pre s → B34_0 K (fun w4 H' => ∃ s', pre s' ∧ μ s' < μ s ∧ AV.wk w4 (f4 s') ∧ Heap.le (TH s') H') v0 v3 (f4 s) (TH s)) :
    L34_0 K v0 v3 v4 H := by
  unfold L34_0
  exact LoopV.mk s0 (fun s => [f4 s]) TH pre μ (fun _ => rfl) (Eq.mp (by kernel_rfl) h0) (fun s hs => Eq.mp (by kernel_rfl) (round s hs))
theorem L34_0_ruleG {K : AV → Heap → Prop} {v0 v3 v4 : AV} {H : Heap} {σ : Type} (s0 : σ) (f4 : σ → AV) (TH : σ → Heap) (pre : σ → Prop) (μ : σ → Nat)
    (h0 : pre s0 ∧ AV.wk v4 (f4 s0) ∧ Heap.le (TH s0) H)
    (round : ∀ s, pre s → ∀ q, TH s q = none → B34_0 K (fun w4 H' => ∃ s', pre s' ∧ μ s' < μ s ∧ AV.wk w4 (f4 s') ∧ Heap.le (TH s') H') v0 v3 (f4 s) ((TH s).set q [])) :
    L34_0 K v0 v3 v4 H := by
  unfold L34_0
  exact LoopV.mkG s0 (fun s => [f4 s]) TH pre μ (fun _ => rfl) (Eq.mp (by kernel_rfl) h0) (fun s hs q hq => Eq.mp (by kernel_rfl) (round s hs q hq))
/-- loop.example/g00649/impl.isSmall -/
def D35 : Info := ⟨13, fun i => ([], []), fun i => ([], [])⟩
def W35 (v0 : AV) (H : Heap) (K : AV → Heap → Prop) : Prop :=
 boxV v0 H fun v1 H1 =>
 loadV tab 35 v1 H1 fun v3 =>
 CallT Try.prog 52 [v3] H1 fun v4 H2 =>
 grdV v4 true (fieldAddrV tab 35 v1 0 fun v6 =>
 loadV tab 3 v6 H2 fun v7 =>
 fieldAddrV tab 35 v1 1 fun v8 =>
 loadV tab 3 v8 H2 fun v9 =>
 binV tab .mul 3 v7 v9 fun v10 =>
 binV tab .leq 3 v10 (AV.p (.int .i64 5)) fun v11 =>
 K v11 H2)
 (K (AV.p (.bool false)) H2)
theorem W35_wp (v0 : AV) (H : Heap) (K : AV → Heap → Prop) : wpC Try.prog tab D35 (bodyOf Try.f35) (retF tab [.tmp 2] K) (nthA [v0]) H = W35 v0 H K := by kernel_rfl
theorem W35_ok {v0 : AV} {H : Heap} {K : AV → Heap → Prop} (h : W35 v0 H K) : CallT Try.prog 35 [v0] H K :=
  CallT.of_wp (D := D35) tab_ok mixed Try.func35 (c := bodyOf Try.f35) (by kernel_rfl) rfl (by kernel_rfl) (rs := #[.tmp 2]) rfl (by decide +kernel) (by kernel_rfl) (W35_wp v0 H K) h
theorem W35_hb : HasBody Try.prog 35 := ⟨_, bodyOf Try.f35, Try.func35, by kernel_rfl, rfl⟩
/-- loop.example/g00649/impl.isSight -/
def D36 : Info := ⟨33, fun i => ([], []), fun i => if i = 3 then ([1, 2, 9, 10], [5, 11]) else ([], [])⟩
def L36_0 (K : AV → Heap → Prop) (v1 : AV) (v2 : AV) (v5 : AV) (v9 : AV) (v10 : AV) (v11 : AV) (H : Heap) : Prop := LoopV (wpC Try.prog tab D36 (cAt [1, 1, 0, 1, 0, 0] (bodyOf Try.f36))) [1, 2, 9, 10] (PostF.block 0 (PostF.thenA (wpC Try.prog tab D36 (cAt [1, 1, 1] (bodyOf Try.f36))) (retF tab [.tmp 4] K))) [5, 11] [AV.any, v1, v2, AV.any, AV.any, v5, AV.any, AV.any, AV.any, v9, v10, v11, AV.any, AV.any, AV.any, AV.any, AV.any, AV.any, AV.any, AV.any, AV.any, AV.any, AV.any, AV.any, AV.any, AV.any, AV.any, AV.any, AV.any, AV.any, AV.any, AV.any, AV.any] H
def B36_0 (K : AV → Heap → Prop) (N1 : AV → AV → Heap → Prop) (v1 : AV) (v2 : AV) (v5 : AV) (v9 : AV) (v10 : AV) (v11 : AV) (H : Heap) : Prop :=
 binV tab .lss 3 v11 v10 fun v12 =>
 condV v12 (indexAddrV tab 26 v9 v11 fun v13 =>
 loadV tab 3 v13 H fun v14 =>
 binV tab .lss 3 v14 (AV.p (.int .i64 0)) fun v16 =>
 grdV v16 false (binV tab .gtr 3 v14 v5 fun v20 =>
 condV v20 (K (AV.p (.bool false)) H)
 (binV tab .eql 3 v14 v5 fun v24 =>
 condV v24 (binV tab .add 3 v5 (AV.p (.int .i64 1)) fun v26 =>
 binV tab .add 3 v11 (AV.p (.int .i64 1)) fun v27 =>
 N1 v26 v27 H)
 (binV tab .add 3 v11 (AV.p (.int .i64 1)) fun v27 =>
 N1 v5 v27 H)))
 (K (AV.p (.bool false)) H))
 (fieldAddrV tab 37 v2 0 fun v28 =>
 loadV tab 26 v28 H fun v29 =>
 lenV tab 26 v29 fun v30 =>
 binV tab .eql 3 v30 v1 fun v32 =>
 K v32 H)
def W36 (v0 : AV) (v1 : AV) (H : Heap) (K : AV → Heap → Prop) : Prop :=
 boxV v0 H fun v2 H1 =>
 fieldAddrV tab 37 v2 0 fun v8 =>
 loadV tab 26 v8 H1 fun v9 =>
 lenV tab 26 v9 fun v10 =>
 L36_0 K v1 v2 (AV.p (.int .i64 0)) v9 v10 (AV.p (.int .i64 0)) H1
theorem W36_wp (v0 : AV) (v1 : AV) (H : Heap) (K : AV → Heap → Prop) : wpC Try.prog tab D36 (bodyOf Try.f36) (retF tab [.tmp 4] K) (nthA [v0, v1]) H = W36 v0 v1 H K := by kernel_rfl
theorem W36_ok {v0 v1 : AV} {H : Heap} {K : AV → Heap → Prop} (h : W36 v0 v1 H K) : CallT Try.prog 36 [v0, v1] H K :=
  CallT.of_wp (D := D36) tab_ok mixed Try.func36 (c := bodyOf Try.f36) (by kernel_rfl) rfl (by kernel_rfl) (rs := #[.tmp 4]) rfl (by decide +kernel) (by kernel_rfl) (W36_wp v0 v1 H K) h
theorem W36_hb : HasBody Try.prog 36 := ⟨_, bodyOf Try.f36, Try.func36, by kernel_rfl, rfl⟩
theorem L36_0_rule {K : AV → Heap → Prop} {v1 v2 v5 v9 v10 v11 : AV} {H : Heap} {σ : Type} (s0 : σ) (f5 : σ → AV) (f11 : σ → AV) (TH : σ → Heap) (pre : σ → Prop) (μ : σ → Nat)
    (h0 : pre s0 ∧ AV.wk v5 (f5 s0) ∧ AV.wk v11 (f11 s0) ∧ Heap.le (TH s0) H)
    (round : ∀ s, pre s → B36_0 K (fun w5 w11 H' => ∃ s', pre s' ∧ μ s' < μ s ∧ AV.wk w5 (f5 s') ∧ AV.wk w11 (f11 s') ∧ Heap.le (TH s') H') v1 v2 (f5 s) v9 v10 (f11 s) (TH s)) :
    L36_0 K v1 v2 v5 v9 v10 v11 H := by
  unfold L36_0
  exact LoopV.mk s0 (fun s => [f5 s, f11 s]) TH pre μ (fun _ => rfl) (Eq.mp (by kernel_rfl) h0) (fun s hs => Eq.mp (by kernel_rfl) (round s hs))
theorem L36_0_ruleG {K : AV → Heap → Prop} {v1 v2 v5 v9 v10 v11 : AV} {H : Heap} {σ : Type} (s0 : σ) (f5 : σ → AV) (f11 : σ → AV) (TH : σ → Heap) (pre : σ → Prop) (μ : σ → Nat)
    (h0 : pre s0 ∧ AV.wk v5 (f5 s0) ∧ AV.wk v11 (f11 s0) ∧ Heap.le (TH s0) H)
    (round : ∀ s, pre s → ∀ q, TH s q = none → B36_0 K (fun w5 w11 H' => ∃ s', pre s' ∧ μ s' < μ s ∧ AV.wk w5 (f5 s') ∧ AV.wk w11 (f11 s') ∧ Heap.le (TH s') H') v1 v2 (f5 s) v9 v10 (f11 s) ((TH s).set q [])) :
    L36_0 K v1 v2 v5 v9 v10 v11 H := by
  unfold L36_0
  exact LoopV.mkG s0 (fun s => [f5 s, f11 s]) TH pre μ (fun _ => rfl) (Eq.mp (by kernel_rfl) h0) (fun s hs q hq => Eq.mp (by kernel_rfl) (round s hs q hq))
/-- (loop.example/g00649/impl.Program).states -/
def D37 : Info := ⟨9, fun i => ([], []), fun i => ([], [])⟩
def W37 (v0 : AV) (H : Heap) (K : AV → Heap → Prop) : Prop :=
 boxV v0 H fun v1 H1 =>
 fieldAddrV tab 35 v1 0 fun v3 =>
 loadV tab 3 v3 H1 fun v4 =>
 fieldAddrV tab 35 v1 1 fun v5 =>
 loadV tab 3 v5 H1 fun v6 =>
 binV tab .mul 3 v4 v6 fun v7 =>
 binV tab .shl 3 (AV.p (.int .i64 1)) v7 fun v8 =>
 K v8 H1
theorem W37_wp (v0 : AV) (H : Heap) (K : AV → Heap → Prop) : wpC Try.prog tab D37 (bodyOf Try.f37) (retF tab [.tmp 2] K) (nthA [v0]) H = W37 v0 H K := by kernel_rfl
theorem W37_ok {v0 : AV} {H : Heap} {K : AV → Heap → Prop} (h : W37 v0 H K) : CallT Try.prog 37 [v0] H K :=
  CallT.of_wp (D := D37) tab_ok mixed Try.func37 (c := bodyOf Try.f37) (by kernel_rfl) rfl (by kernel_rfl) (rs := #[.tmp 2]) rfl (by decide +kernel) (by kernel_rfl) (W37_wp v0 H K) h
theorem W37_hb : HasBody Try.prog 37 := ⟨_, bodyOf Try.f37, Try.func37, by kernel_rfl, rfl⟩
/-- loop.example/g00649/laws.eqNodeS -/
def D38 : Info := ⟨27, fun i => if i = 6 then ([[], [], [0, 1], [0, 1, 2], [], [], [4, 5], [4, 5, 6], [0, 1, 2, 3, 4, 5, 6, 7], [0, 1, 2, 3, 4, 5, 6, 7, 8]], [(0, []), (1, []), (2, []), (3, []), (4, []), (5, []), (6, []), (7, []), (8, []), (9, [])]) else ([], []), fun i => if i = 4 then ([0, 1], [5]) else ([], [])⟩
def L38_0 (K : AV → Heap → Prop) (v0 : AV) (v1 : AV) (v5 : AV) (H : Heap) : Prop := LoopV (wpC Try.prog tab D38 (cAt [1, 1, 0, 1, 0, 0] (bodyOf Try.f38))) [0, 1] (PostF.block 0 (PostF.thenA (wpC Try.prog tab D38 (cAt [1, 1, 1] (bodyOf Try.f38))) (retF tab [.tmp 4] K))) [5] [v0, v1, AV.any, AV.any, AV.any, v5, AV.any, AV.any, AV.any, AV.any, AV.any, AV.any, AV.any, AV.any, AV.any, AV.any, AV.any, AV.any, AV.any, AV.any, AV.any, AV.any, AV.any, AV.any, AV.any, AV.any, AV.any] H
def B38_0 (K : AV → Heap → Prop) (N1 : AV → Heap → Prop) (v0 : AV) (v1 : AV) (v5 : AV) (H : Heap) : Prop :=
 lenV tab 32 v0 fun v13 =>
 binV tab .lss 3 v5 v13 fun v14 =>
 condV v14 (indexAddrV tab 32 v0 v5 fun v19 =>
 loadV tab 78 v19 H fun v20 =>
 indexAddrV tab 32 v1 v5 fun v23 =>
 loadV tab 78 v23 H fun v24 =>
 CallT Try.prog 53 [v20, v24] H fun v25 H1 =>
 unV .not v25 fun v26 =>
 condV v26 (K (AV.p (.bool false)) H1)
 (binV tab .add 3 v5 (AV.p (.int .i64 1)) fun v16 =>
 N1 v16 H1))
 (K (AV.p (.bool true)) H)
def W38 (v0 : AV) (v1 : AV) (H : Heap) (K : AV → Heap → Prop) : Prop :=
 lenV tab 32 v0 fun v7 =>
 lenV tab 32 v1 fun v9 =>
 binV tab .neq 3 v7 v9 fun v10 =>
 condV v10 (K (AV.p (.bool false)) H)
 (L38_0 K v0 v1 (AV.p (.int .i64 0)) H)
theorem W38_wp (v0 : AV) (v1 : AV) (H : Heap) (K : AV → Heap → Prop) : wpC Try.prog tab D38 (bodyOf Try.f38) (retF tab [.tmp 4] K) (nthA [v0, v1]) H = W38 v0 v1 H K := by kernel_rfl
theorem W38_ok {v0 v1 : AV} {H : Heap} {K : AV → Heap → Prop} (h : W38 v0 v1 H K) : CallT Try.prog 38 [v0, v1] H K :=
  CallT.of_wp (D := D38) tab_ok mixed Try.func38 (c := bodyOf Try.f38) (by kernel_rfl) rfl (by kernel_rfl) (rs := #[.tmp 4]) rfl (by decide +kernel) (by kernel_rfl) (W38_wp v0 v1 H K) h
theorem W38_hb : HasBody Try.prog 38 := ⟨_, bodyOf Try.f38, Try.func38, by kernel_rfl, rfl⟩
theorem L38_0_rule {K : AV → Heap → Prop} {v0 v1 v5 : AV} {H : Heap} {σ : Type} (s0 : σ) (f5 : σ → AV) (TH : σ → Heap) (pre : σ → Prop) (μ : σ → Nat)
    (h0 : pre s0 ∧ AV.wk v5 (f5 s0) ∧ Heap.le (TH s0) H)
    (round : ∀ s, pre s → B38_0 K (fun w5 H' => ∃ s', pre s' ∧ μ s' < μ s ∧ AV.wk w5 (f5 s') ∧ Heap.le (TH s') H') v0 v1 (f5 s) (TH s)) :
    L38_0 K v0 v1 v5 H := by
  unfold L38_0
  exact LoopV.mk s0 (fun s => [f5 s]) TH pre μ (fun _ => rfl) (Eq.mp (by kernel_rfl) h0) (fun s hs => Eq.mp (by kernel_rfl) (round s hs))
theorem L38_0_ruleG {K : AV → Heap → Prop} {v0 v1 v5 : AV} {H : Heap} {σ : Type} (s0 : σ) (f5 : σ → AV) (TH : σ → Heap) (pre : σ → Prop) (μ : σ → Nat)
    (h0 : pre s0 ∧ AV.wk v5 (f5 s0) ∧ Heap.le (TH s0) H)
    (round : ∀ s, pre s → ∀ q, TH s q = none → B38_0 K (fun w5 H' => ∃ s', pre s' ∧ μ s' < μ s ∧ AV.wk w5 (f5 s') ∧ Heap.le (TH s') H') v0 v1 (f5 s) ((TH s).set q [])) :
    L38_0 K v0 v1 v5 H := by
  unfold L38_0
  exact LoopV.mkG s0 (fun s => [f5 s]) TH pre μ (fun _ => rfl) (Eq.mp (by kernel_rfl) h0) (fun s hs q hq => Eq.mp (by kernel_rfl) (round s hs q hq))
end Go.Proofs.Ythlbkcgnacemgaa
