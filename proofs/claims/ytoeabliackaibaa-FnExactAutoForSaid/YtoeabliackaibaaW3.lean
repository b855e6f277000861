/- What each function's code is asked for, as a formula. Written by wgen.py (a program of this session's) out of Lean's print of the program. -/
import Derived.KernelRfl
import Derived.Test.YtoeabliackaibaaTab
import Derived.Test.YtoeabliackaibaaSepC
namespace Go.Proofs.Ytoeabliackaibaa
open Go Go.Sep
set_option linter.unusedVariables false
attribute [local irreducible] wpC headF
/-- loop.example/g00649/laws.FnExactAutoFor -/
def D7 : Info := ⟨96, fun i => ([], []), fun i => ([], [])⟩
def W7 (v0 : AV) (H : Heap) (K : AV → Heap → Prop) : Prop :=
 CallT Try.prog 9 [v0, (AV.p (.int .i64 1048576))] H fun v16 H1 =>
 binV tab .lss 3 v16 (AV.p (.int .i64 0)) fun v18 =>
 condV v18 (K (AV.p (.bool true)) H1)
 (CallT Try.prog 11 [v0] H1 fun v21 H2 =>
 CallT Try.prog 31 [v21] H2 fun v22 H3 =>
 extractV v22 0 fun v23 =>
 extractV v22 1 fun v24 =>
 allocV tab 55 H3 fun v4 H4 =>
 storeV tab 55 v4 v23 H4 fun H5 =>
 CallT Try.prog 11 [v0] H5 fun v26 H6 =>
 CallT Try.prog 32 [v26] H6 fun v29 H7 =>
 extractV v29 0 fun v30 =>
 extractV v29 1 fun v31 =>
 allocV tab 55 H7 fun v7 H8 =>
 storeV tab 55 v7 v30 H8 fun H9 =>
 loadV tab 55 v7 H9 fun v32 =>
 loadV tab 55 v4 H9 fun v33 =>
 CallT Try.prog 33 [v32, v33] H9 fun v34 H10 =>
 unV .not v34 fun v35 =>
 grdV v35 false (binV tab .neq 4 v31 v24 fun v39 =>
 condV v39 (K (AV.p (.bool false)) H10)
 (CallT Try.prog 11 [v0] H10 fun v43 H11 =>
 CallT Try.prog 14 [v26, v43] H11 fun v44 H12 =>
 unV .not v44 fun v45 =>
 condV v45 (K (AV.p (.bool false)) H12)
 (CallT Try.prog 15 [v26, (AV.p (.int .i64 1))] H12 fun v48 H13 =>
 binV tab .lss 3 v48 (AV.p (.int .i64 0)) fun v50 =>
 grdV v50 false (loadV tab 55 v7 H13 fun v52 =>
 loadV tab 55 v4 H13 fun v53 =>
 CallT Try.prog 33 [v52, v53] H13 fun v54 H14 =>
 unV .not v54 fun v55 =>
 grdV v55 false (binV tab .neq 4 v31 v24 fun v60 =>
 condV v60 (K (AV.p (.bool false)) H14)
 (loadV tab 55 v7 H14 fun v62 =>
 CallT Try.prog 34 [v62, (AV.p (.int .i64 1))] H14 fun v64 H15 =>
 loadV tab 55 v7 H15 fun v65 =>
 CallT Try.prog 35 [v65, (AV.p (.int .i64 1))] H15 fun v67 H16 =>
 binV tab .lss 3 v67 (AV.p (.int .i64 0)) fun v69 =>
 condV v69 (K (AV.p (.bool false)) H16)
 (binV tab .neq 3 v67 v64 fun v72 =>
 condV v72 (K (AV.p (.bool false)) H16)
 (CallT Try.prog 11 [v0] H16 fun v75 H17 =>
 CallT Try.prog 32 [v75] H17 fun v76 H18 =>
 extractV v76 0 fun v77 =>
 extractV v76 1 fun v78 =>
 allocV tab 55 H18 fun v12 H19 =>
 storeV tab 55 v12 v77 H19 fun H20 =>
 loadV tab 55 v12 H20 fun v79 =>
 loadV tab 55 v4 H20 fun v80 =>
 CallT Try.prog 33 [v79, v80] H20 fun v81 H21 =>
 unV .not v81 fun v82 =>
 grdV v82 false (binV tab .neq 4 v78 v24 fun v86 =>
 condV v86 (K (AV.p (.bool false)) H21)
 (loadV tab 55 v7 H21 fun v88 =>
 CallT Try.prog 35 [v88, (AV.p (.int .i64 1))] H21 fun v90 H22 =>
 binV tab .lss 3 v90 (AV.p (.int .i64 0)) fun v92 =>
 condV v92 (K (AV.p (.bool false)) H22)
 (binV tab .neq 3 v90 v64 fun v95 =>
 condV v95 (K (AV.p (.bool false)) H22)
 (K (AV.p (.bool true)) H22))))
 (K (AV.p (.bool false)) H21)))))
 (K (AV.p (.bool false)) H14))
 (K (AV.p (.bool false)) H13))))
 (K (AV.p (.bool false)) H10))
theorem W7_wp (v0 : AV) (H : Heap) (K : AV → Heap → Prop) : wpC Try.prog tab D7 (bodyOf Try.f7) (retF tab [.tmp 2] K) (nthA [v0]) H = W7 v0 H K := by kernel_rfl
theorem W7_ok {v0 : AV} {H : Heap} {K : AV → Heap → Prop} (h : W7 v0 H K) : CallT Try.prog 7 [v0] H K :=
  CallT.of_wp (D := D7) tab_ok mixed Try.func7 (c := bodyOf Try.f7) (by kernel_rfl) rfl (by kernel_rfl) (rs := #[.tmp 2]) rfl (by decide +kernel) (by kernel_rfl) (W7_wp v0 H K) h
theorem W7_hb : HasBody Try.prog 7 := ⟨_, bodyOf Try.f7, Try.func7, by kernel_rfl, rfl⟩
/-- loop.example/g00649/spec.AutoFor -/
def D31 : Info := ⟨10, fun i => ([], []), fun i => ([], [])⟩
def W31 (v0 : AV) (H : Heap) (K : AV → Heap → Prop) : Prop :=
 allocV tab 55 H fun v2 H1 =>
 CallT Try.prog 47 [v0] H1 fun v5 H2 =>
 unV .not v5 fun v6 =>
 condV v6 (buildV tab 55 [] fun v7 =>
 storeV tab 55 v2 v7 H2 fun H3 =>
 loadV tab 55 v2 H3 fun r0 =>
 K (.tup [r0, (AV.p (.bool false))]) H3)
 (CallT Try.prog 68 [v0, (AV.p (.bool false))] H2 fun v9 H4 =>
 storeV tab 55 v2 v9 H4 fun H5 =>
 loadV tab 55 v2 H5 fun r0 =>
 K (.tup [r0, (AV.p (.bool true))]) H5)
theorem W31_wp (v0 : AV) (H : Heap) (K : AV → Heap → Prop) : wpC Try.prog tab D31 (bodyOf Try.f31) (retF tab [.cell 2 55, .tmp 3] K) (nthA [v0]) H = W31 v0 H K := by kernel_rfl
theorem W31_ok {v0 : AV} {H : Heap} {K : AV → Heap → Prop} (h : W31 v0 H K) : CallT Try.prog 31 [v0] H K :=
  CallT.of_wp (D := D31) tab_ok mixed Try.func31 (c := bodyOf Try.f31) (by kernel_rfl) rfl (by kernel_rfl) (rs := #[.cell 2 55, .tmp 3]) rfl (by decide +kernel) (by kernel_rfl) (W31_wp v0 H K) h
theorem W31_hb : HasBody Try.prog 31 := ⟨_, bodyOf Try.f31, Try.func31, by kernel_rfl, rfl⟩
/-- loop.example/g00649/impl.AutoFor -/
def D32 : Info := ⟨13, fun i => ([], []), fun i => ([], [])⟩
def W32 (v0 : AV) (H : Heap) (K : AV → Heap → Prop) : Prop :=
 allocV tab 55 H fun v2 H1 =>
 CallT Try.prog 50 [v0] H1 fun v5 H2 =>
 unV .not v5 fun v6 =>
 condV v6 (buildV tab 55 [] fun v7 =>
 storeV tab 55 v2 v7 H2 fun H3 =>
 loadV tab 55 v2 H3 fun r0 =>
 K (.tup [r0, (AV.p (.bool false))]) H3)
 (CallT Try.prog 70 [v0, (AV.p (.bool true))] H2 fun v9 H4 =>
 CallT Try.prog 69 [v9] H4 fun v10 H5 =>
 extractV v10 0 fun v11 =>
 extractV v10 1 fun v12 =>
 storeV tab 55 v2 v11 H5 fun H6 =>
 loadV tab 55 v2 H6 fun r0 =>
 K (.tup [r0, v12]) H6)
theorem W32_wp (v0 : AV) (H : Heap) (K : AV → Heap → Prop) : wpC Try.prog tab D32 (bodyOf Try.f32) (retF tab [.cell 2 55, .tmp 3] K) (nthA [v0]) H = W32 v0 H K := by kernel_rfl
theorem W32_ok {v0 : AV} {H : Heap} {K : AV → Heap → Prop} (h : W32 v0 H K) : CallT Try.prog 32 [v0] H K :=
  CallT.of_wp (D := D32) tab_ok mixed Try.func32 (c := bodyOf Try.f32) (by kernel_rfl) rfl (by kernel_rfl) (rs := #[.cell 2 55, .tmp 3]) rfl (by decide +kernel) (by kernel_rfl) (W32_wp v0 H K) h
theorem W32_hb : HasBody Try.prog 32 := ⟨_, bodyOf Try.f32, Try.func32, by kernel_rfl, rfl⟩
/-- loop.example/g00649/laws.eqAuto -/
def D33 : Info := ⟨28, fun i => ([], []), fun i => ([], [])⟩
def W33 (v0 : AV) (v1 : AV) (H : Heap) (K : AV → Heap → Prop) : Prop :=
 boxV v0 H fun v2 H1 =>
 boxV v1 H1 fun v3 H2 =>
 fieldAddrV tab 55 v2 0 fun v5 =>
 loadV tab 3 v5 H2 fun v6 =>
 fieldAddrV tab 55 v3 0 fun v7 =>
 loadV tab 3 v7 H2 fun v8 =>
 binV tab .neq 3 v6 v8 fun v9 =>
 condV v9 (K (AV.p (.bool false)) H2)
 (fieldAddrV tab 55 v2 1 fun v10 =>
 loadV tab 24 v10 H2 fun v11 =>
 fieldAddrV tab 55 v3 1 fun v12 =>
 loadV tab 24 v12 H2 fun v13 =>
 CallT Try.prog 13 [v11, v13] H2 fun v14 H3 =>
 unV .not v14 fun v15 =>
 condV v15 (K (AV.p (.bool false)) H3)
 (fieldAddrV tab 55 v2 2 fun v16 =>
 loadV tab 52 v16 H3 fun v17 =>
 fieldAddrV tab 55 v3 2 fun v18 =>
 loadV tab 52 v18 H3 fun v19 =>
 CallT Try.prog 71 [v17, v19] H3 fun v20 H4 =>
 unV .not v20 fun v21 =>
 condV v21 (K (AV.p (.bool false)) H4)
 (fieldAddrV tab 55 v2 3 fun v22 =>
 loadV tab 53 v22 H4 fun v23 =>
 fieldAddrV tab 55 v3 3 fun v24 =>
 loadV tab 53 v24 H4 fun v25 =>
 CallT Try.prog 72 [v23, v25] H4 fun v26 H5 =>
 unV .not v26 fun v27 =>
 condV v27 (K (AV.p (.bool false)) H5)
 (K (AV.p (.bool true)) H5))))
theorem W33_wp (v0 : AV) (v1 : AV) (H : Heap) (K : AV → Heap → Prop) : wpC Try.prog tab D33 (bodyOf Try.f33) (retF tab [.tmp 4] K) (nthA [v0, v1]) H = W33 v0 v1 H K := by kernel_rfl
theorem W33_ok {v0 v1 : AV} {H : Heap} {K : AV → Heap → Prop} (h : W33 v0 v1 H K) : CallT Try.prog 33 [v0, v1] H K :=
  CallT.of_wp (D := D33) tab_ok mixed Try.func33 (c := bodyOf Try.f33) (by kernel_rfl) rfl (by kernel_rfl) (rs := #[.tmp 4]) rfl (by decide +kernel) (by kernel_rfl) (W33_wp v0 v1 H K) h
theorem W33_hb : HasBody Try.prog 33 := ⟨_, bodyOf Try.f33, Try.func33, by kernel_rfl, rfl⟩
/-- loop.example/g00649/laws.markAuto -/
def D34 : Info := ⟨18, fun i => ([], []), fun i => ([], [])⟩
def W34 (v0 : AV) (v1 : AV) (H : Heap) (K : AV → Heap → Prop) : Prop :=
 boxV v0 H fun v2 H1 =>
 fieldAddrV tab 55 v2 1 fun v5 =>
 loadV tab 24 v5 H1 fun v6 =>
 CallT Try.prog 16 [v6, v1] H1 fun v8 H2 =>
 fieldAddrV tab 55 v2 2 fun v9 =>
 loadV tab 52 v9 H2 fun v10 =>
 CallT Try.prog 73 [v10, v8] H2 fun v12 H3 =>
 fieldAddrV tab 55 v2 3 fun v13 =>
 loadV tab 53 v13 H3 fun v14 =>
 CallT Try.prog 74 [v14, v12] H3 fun v16 H4 =>
 K v16 H4
theorem W34_wp (v0 : AV) (v1 : AV) (H : Heap) (K : AV → Heap → Prop) : wpC Try.prog tab D34 (bodyOf Try.f34) (retF tab [.tmp 4] K) (nthA [v0, v1]) H = W34 v0 v1 H K := by kernel_rfl
theorem W34_ok {v0 v1 : AV} {H : Heap} {K : AV → Heap → Prop} (h : W34 v0 v1 H K) : CallT Try.prog 34 [v0, v1] H K :=
  CallT.of_wp (D := D34) tab_ok mixed Try.func34 (c := bodyOf Try.f34) (by kernel_rfl) rfl (by kernel_rfl) (rs := #[.tmp 4]) rfl (by decide +kernel) (by kernel_rfl) (W34_wp v0 v1 H K) h
theorem W34_hb : HasBody Try.prog 34 := ⟨_, bodyOf Try.f34, Try.func34, by kernel_rfl, rfl⟩
/-- loop.example/g00649/laws.heldAuto -/
def D35 : Info := ⟨24, fun i => ([], []), fun i => ([], [])⟩
def W35 (v0 : AV) (v1 : AV) (H : Heap) (K : AV → Heap → Prop) : Prop :=
 boxV v0 H fun v2 H1 =>
 fieldAddrV tab 55 v2 1 fun v5 =>
 loadV tab 24 v5 H1 fun v6 =>
 CallT Try.prog 17 [v6, v1] H1 fun v8 H2 =>
 binV tab .lss 3 v8 (AV.p (.int .i64 0)) fun v10 =>
 condV v10 (K (AV.p (.int .i64 (-1))) H2)
 (fieldAddrV tab 55 v2 2 fun v11 =>
 loadV tab 52 v11 H2 fun v12 =>
 CallT Try.prog 75 [v12, v8] H2 fun v14 H3 =>
 binV tab .lss 3 v14 (AV.p (.int .i64 0)) fun v16 =>
 condV v16 (K (AV.p (.int .i64 (-1))) H3)
 (fieldAddrV tab 55 v2 3 fun v17 =>
 loadV tab 53 v17 H3 fun v18 =>
 CallT Try.prog 76 [v18, v14] H3 fun v20 H4 =>
 binV tab .lss 3 v20 (AV.p (.int .i64 0)) fun v22 =>
 condV v22 (K (AV.p (.int .i64 (-1))) H4)
 (K v20 H4)))
theorem W35_wp (v0 : AV) (v1 : AV) (H : Heap) (K : AV → Heap → Prop) : wpC Try.prog tab D35 (bodyOf Try.f35) (retF tab [.tmp 4] K) (nthA [v0, v1]) H = W35 v0 v1 H K := by kernel_rfl
theorem W35_ok {v0 v1 : AV} {H : Heap} {K : AV → Heap → Prop} (h : W35 v0 v1 H K) : CallT Try.prog 35 [v0, v1] H K :=
  CallT.of_wp (D := D35) tab_ok mixed Try.func35 (c := bodyOf Try.f35) (by kernel_rfl) rfl (by kernel_rfl) (rs := #[.tmp 4]) rfl (by decide +kernel) (by kernel_rfl) (W35_wp v0 v1 H K) h
theorem W35_hb : HasBody Try.prog 35 := ⟨_, bodyOf Try.f35, Try.func35, by kernel_rfl, rfl⟩
/-- loop.example/g00649/spec.l13Auto -/
def D68 : Info := ⟨67, fun i => ([], []), fun i => if i = 5 then ([0, 1, 4, 5, 6, 7], [8]) else if i = 10 then ([0, 1, 4, 5, 6, 7, 8], [9]) else if i = 13 then ([0, 1, 4, 5, 6, 7, 8, 9], [10]) else ([], [])⟩
def L68_0 (K : AV → Heap → Prop) (v0 : AV) (v1 : AV) (v4 : AV) (v5 : AV) (v6 : AV) (v7 : AV) (v8 : AV) (H : Heap) : Prop := LoopV (wpC Try.prog tab D68 (cAt [1, 1, 1, 1, 0, 1, 0, 0] (bodyOf Try.f68))) [0, 1, 4, 5, 6, 7] (PostF.block 0 (PostF.thenA (wpC Try.prog tab D68 (cAt [1, 1, 1, 1, 1] (bodyOf Try.f68))) (retF tab [.cell 4 55] K))) [8] [v0, v1, AV.any, AV.any, v4, v5, v6, v7, v8, AV.any, AV.any, AV.any, AV.any, AV.any, AV.any, AV.any, AV.any, AV.any, AV.any, AV.any, AV.any, AV.any, AV.any, AV.any, AV.any, AV.any, AV.any, AV.any, AV.any, AV.any, AV.any, AV.any, AV.any, AV.any, AV.any, AV.any, AV.any, AV.any, AV.any, AV.any, AV.any, AV.any, AV.any, AV.any, AV.any, AV.any, AV.any, AV.any, AV.any, AV.any, AV.any, AV.any, AV.any, AV.any, AV.any, AV.any, AV.any, AV.any, AV.any, AV.any, AV.any, AV.any, AV.any, AV.any, AV.any, AV.any, AV.any] H
def L68_1 (K : AV → Heap → Prop) (N1 : AV → Heap → Prop) (v0 : AV) (v1 : AV) (v4 : AV) (v5 : AV) (v6 : AV) (v7 : AV) (v8 : AV) (v9 : AV) (H : Heap) : Prop := LoopV (wpC Try.prog tab D68 (cAt [1, 1, 1, 1, 0, 1, 0, 0, 1, 0, 0, 1, 1, 0, 0] (bodyOf Try.f68))) [0, 1, 4, 5, 6, 7, 8] (PostF.block 2 (PostF.block 1 (PostF.thenA (wpC Try.prog tab D68 (cAt [1, 1, 1, 1, 0, 1, 0, 0, 1, 1] (bodyOf Try.f68))) (loopF (PostF.block 0 (PostF.thenA (wpC Try.prog tab D68 (cAt [1, 1, 1, 1, 1] (bodyOf Try.f68))) (retF tab [.cell 4 55] K))) (fun e h => N1 (e 8) h))))) [9] [v0, v1, AV.any, AV.any, v4, v5, v6, v7, v8, v9, AV.any, AV.any, AV.any, AV.any, AV.any, AV.any, AV.any, AV.any, AV.any, AV.any, AV.any, AV.any, AV.any, AV.any, AV.any, AV.any, AV.any, AV.any, AV.any, AV.any, AV.any, AV.any, AV.any, AV.any, AV.any, AV.any, AV.any, AV.any, AV.any, AV.any, AV.any, AV.any, AV.any, AV.any, AV.any, AV.any, AV.any, AV.any, AV.any, AV.any, AV.any, AV.any, AV.any, AV.any, AV.any, AV.any, AV.any, AV.any, AV.any, AV.any, AV.any, AV.any, AV.any, AV.any, AV.any, AV.any, AV.any] H
def L68_2 (K : AV → Heap → Prop) (N1 : AV → Heap → Prop) (N2 : AV → Heap → Prop) (v0 : AV) (v1 : AV) (v4 : AV) (v5 : AV) (v6 : AV) (v7 : AV) (v8 : AV) (v9 : AV) (v10 : AV) (H : Heap) : Prop := LoopV (wpC Try.prog tab D68 (cAt [1, 1, 1, 1, 0, 1, 0, 0, 1, 0, 0, 1, 1, 0, 0, 1, 0, 0, 1, 0, 0] (bodyOf Try.f68))) [0, 1, 4, 5, 6, 7, 8, 9] (PostF.block 4 (PostF.block 3 (PostF.thenA (wpC Try.prog tab D68 (cAt [1, 1, 1, 1, 0, 1, 0, 0, 1, 0, 0, 1, 1, 0, 0, 1, 1] (bodyOf Try.f68))) (loopF (PostF.block 2 (PostF.block 1 (PostF.thenA (wpC Try.prog tab D68 (cAt [1, 1, 1, 1, 0, 1, 0, 0, 1, 1] (bodyOf Try.f68))) (loopF (PostF.block 0 (PostF.thenA (wpC Try.prog tab D68 (cAt [1, 1, 1, 1, 1] (bodyOf Try.f68))) (retF tab [.cell 4 55] K))) (fun e h => N1 (e 8) h))))) (fun e h => N2 (e 9) h))))) [10] [v0, v1, AV.any, AV.any, v4, v5, v6, v7, v8, v9, v10, AV.any, AV.any, AV.any, AV.any, AV.any, AV.any, AV.any, AV.any, AV.any, AV.any, AV.any, AV.any, AV.any, AV.any, AV.any, AV.any, AV.any, AV.any, AV.any, AV.any, AV.any, AV.any, AV.any, AV.any, AV.any, AV.any, AV.any, AV.any, AV.any, AV.any, AV.any, AV.any, AV.any, AV.any, AV.any, AV.any, AV.any, AV.any, AV.any, AV.any, AV.any, AV.any, AV.any, AV.any, AV.any, AV.any, AV.any, AV.any, AV.any, AV.any, AV.any, AV.any, AV.any, AV.any, AV.any, AV.any] H
def B68_2 (K : AV → Heap → Prop) (N1 : AV → Heap → Prop) (N2 : AV → Heap → Prop) (N3 : AV → Heap → Prop) (v0 : AV) (v1 : AV) (v4 : AV) (v5 : AV) (v6 : AV) (v7 : AV) (v8 : AV) (v9 : AV) (v10 : AV) (H : Heap) : Prop :=
 binV tab .lss 3 v10 v6 fun v47 =>
 condV v47 (CallT Try.prog 57 [v0, v5, v9, v10] H fun v54 H10 =>
 binV tab .eql 3 v54 v8 fun v56 =>
 condV v56 (fieldAddrV tab 55 v7 2 fun v57 =>
 loadV tab 52 v57 H10 fun v58 =>
 buildV tab 125 [(0, v8), (1, v9), (2, v10)] fun v62 =>
 buildSliceV tab 52 1 [(0, v62)] H10 (wkK fun v63 H11 =>
 appendV tab 52 52 v58 v63 H11 (wkK fun v64 H12 =>
 fieldAddrV tab 55 v7 2 fun v65 =>
 storeV tab 52 v65 v64 H12 fun H13 =>
 binV tab .add 3 v10 (AV.p (.int .i64 1)) fun v49 =>
 N3 v49 H13)))
 (binV tab .add 3 v10 (AV.p (.int .i64 1)) fun v49 =>
 N3 v49 H10))
 (binV tab .add 3 v9 (AV.p (.int .i64 1)) fun v44 =>
 N2 v44 H)
def B68_1 (K : AV → Heap → Prop) (N1 : AV → Heap → Prop) (N2 : AV → Heap → Prop) (v0 : AV) (v1 : AV) (v4 : AV) (v5 : AV) (v6 : AV) (v7 : AV) (v8 : AV) (v9 : AV) (H : Heap) : Prop :=
 binV tab .lss 3 v9 (AV.p (.int .i64 8)) fun v42 =>
 condV v42 (L68_2 K N1 N2 v0 v1 v4 v5 v6 v7 v8 v9 (AV.p (.int .i64 0)) H)
 (binV tab .add 3 v8 (AV.p (.int .i64 1)) fun v26 =>
 N1 v26 H)
def B68_0 (K : AV → Heap → Prop) (N1 : AV → Heap → Prop) (v0 : AV) (v1 : AV) (v4 : AV) (v5 : AV) (v6 : AV) (v7 : AV) (v8 : AV) (H : Heap) : Prop :=
 binV tab .lss 3 v8 v6 fun v24 =>
 condV v24 (lenV tab 27 v0 fun v30 =>
 binV tab .sub 3 v30 (AV.p (.int .i64 1)) fun v31 =>
 CallT Try.prog 98 [v5, v8, v31] H fun v32 H6 =>
 binV tab .neq 4 v32 v1 fun v34 =>
 condV v34 (fieldAddrV tab 55 v7 1 fun v35 =>
 loadV tab 24 v35 H6 fun v36 =>
 buildSliceV tab 24 1 [(0, v8)] H6 (wkK fun v38 H7 =>
 appendV tab 24 24 v36 v38 H7 (wkK fun v39 H8 =>
 fieldAddrV tab 55 v7 1 fun v40 =>
 storeV tab 24 v40 v39 H8 fun H9 =>
 L68_1 K N1 v0 v1 v4 v5 v6 v7 v8 (AV.p (.int .i64 0)) H9)))
 (L68_1 K N1 v0 v1 v4 v5 v6 v7 v8 (AV.p (.int .i64 0)) H6))
 (loadV tab 55 v7 H fun v66 =>
 storeV tab 55 v4 v66 H fun H14 =>
 loadV tab 55 v4 H14 fun r0 =>
 K r0 H14)
def W68 (v0 : AV) (v1 : AV) (H : Heap) (K : AV → Heap → Prop) : Prop :=
 allocV tab 55 H fun v4 H1 =>
 CallT Try.prog 48 [v0] H1 fun v12 H2 =>
 lenV tab 24 v12 fun v14 =>
 convV tab 3 90 v14 fun v15 =>
 binV tab .shl 3 (AV.p (.int .i64 1)) v15 fun v16 =>
 CallT Try.prog 108 [v0, v12] H2 fun v20 H3 =>
 buildV tab 55 [(0, v16), (3, v20)] fun v21 =>
 allocV tab 55 H3 fun v7 H4 =>
 storeV tab 55 v7 v21 H4 fun H5 =>
 L68_0 K v0 v1 v4 v12 v16 v7 (AV.p (.int .i64 0)) H5
theorem W68_wp (v0 : AV) (v1 : AV) (H : Heap) (K : AV → Heap → Prop) : wpC Try.prog tab D68 (bodyOf Try.f68) (retF tab [.cell 4 55] K) (nthA [v0, v1]) H = W68 v0 v1 H K := by kernel_rfl
theorem W68_ok {v0 v1 : AV} {H : Heap} {K : AV → Heap → Prop} (h : W68 v0 v1 H K) : CallT Try.prog 68 [v0, v1] H K :=
  CallT.of_wp (D := D68) tab_ok mixed Try.func68 (c := bodyOf Try.f68) (by kernel_rfl) rfl (by kernel_rfl) (rs := #[.cell 4 55]) rfl (by decide +kernel) (by kernel_rfl) (W68_wp v0 v1 H K) h
theorem W68_hb : HasBody Try.prog 68 := ⟨_, bodyOf Try.f68, Try.func68, by kernel_rfl, rfl⟩
theorem L68_2_rule {K : AV → Heap → Prop} {N1 : AV → Heap → Prop} {N2 : AV → Heap → Prop} {v0 v1 v4 v5 v6 v7 v8 v9 v10 : AV} {H : Heap} {σ : Type} (s0 : σ) (f10 : σ → AV) (TH : σ → Heap) (pre : σ → Prop) (μ : σ → Nat)
    (h0 : pre s0 ∧ AV.wk v10 (f10 s0) ∧ Heap.le (TH s0) H)
    (round : ∀ s, pre s → B68_2 K N1 N2 (fun w10 H' => ∃ s', pre s' ∧ μ s' < μ s ∧ AV.wk w10 (f10 s') ∧ Heap.le (TH s') H') v0 v1 v4 v5 v6 v7 v8 v9 (f10 s) (TH s)) :
    L68_2 K N1 N2 v0 v1 v4 v5 v6 v7 v8 v9 v10 H := by
  unfold L68_2
  exact LoopV.mk s0 (fun s => [f10 s]) TH pre μ (fun _ => rfl) (Eq.mp (by kernel_rfl) h0) (fun s hs => Eq.mp (by kernel_rfl) (round s hs))
theorem L68_2_ruleG {K : AV → Heap → Prop} {N1 : AV → Heap → Prop} {N2 : AV → Heap → Prop} {v0 v1 v4 v5 v6 v7 v8 v9 v10 : AV} {H : Heap} {σ : Type} (s0 : σ) (f10 : σ → AV) (TH : σ → Heap) (pre : σ → Prop) (μ : σ → Nat)
    (h0 : pre s0 ∧ AV.wk v10 (f10 s0) ∧ Heap.le (TH s0) H)
    (round : ∀ s, pre s → ∀ q, TH s q = none → B68_2 K N1 N2 (fun w10 H' => ∃ s', pre s' ∧ μ s' < μ s ∧ AV.wk w10 (f10 s') ∧ Heap.le (TH s') H') v0 v1 v4 v5 v6 v7 v8 v9 (f10 s) ((TH s).set q [])) :
    L68_2 K N1 N2 v0 v1 v4 v5 v6 v7 v8 v9 v10 H := by
  unfold L68_2
  exact LoopV.mkG s0 (fun s => [f10 s]) TH pre μ (fun _ => rfl) (Eq.mp (by kernel_rfl) h0) (fun s hs q hq => Eq.mp (by kernel_rfl) (round s hs q hq))
theorem L68_1_rule {K : AV → Heap → Prop} {N1 : AV → Heap → Prop} {v0 v1 v4 v5 v6 v7 v8 v9 : AV} {H : Heap} {σ : Type} (s0 : σ) (f9 : σ → AV) (TH : σ → Heap) (pre : σ → Prop) (μ : σ → Nat)
    (h0 : pre s0 ∧ AV.wk v9 (f9 s0) ∧ Heap.le (TH s0) H)
    (round : ∀ s, pre s → B68_1 K N1 (fun w9 H' => ∃ s', pre s' ∧ μ s' < μ s ∧ AV.wk w9 (f9 s') ∧ Heap.le (TH s') H') v0 v1 v4 v5 v6 v7 v8 (f9 s) (TH s)) :
    L68_1 K N1 v0 v1 v4 v5 v6 v7 v8 v9 H := by
  unfold L68_1
  exact LoopV.mk s0 (fun s => [f9 s]) TH pre μ (fun _ => rfl) (Eq.mp (by kernel_rfl) h0) (fun s hs => Eq.mp (by kernel_rfl) (round s hs))
theorem L68_1_ruleG {K : AV → Heap → Prop} {N1 : AV → Heap → Prop} {v0 v1 v4 v5 v6 v7 v8 v9 : AV} {H : Heap} {σ : Type} (s0 : σ) (f9 : σ → AV) (TH : σ → Heap) (pre : σ → Prop) (μ : σ → Nat)
    (h0 : pre s0 ∧ AV.wk v9 (f9 s0) ∧ Heap.le (TH s0) H)
    (round : ∀ s, pre s → ∀ q, TH s q = none → B68_1 K N1 (fun w9 H' => ∃ s', pre s' ∧ μ s' < μ s ∧ AV.wk w9 (f9 s') ∧ Heap.le (TH s') H') v0 v1 v4 v5 v6 v7 v8 (f9 s) ((TH s).set q [])) :
    L68_1 K N1 v0 v1 v4 v5 v6 v7 v8 v9 H := by
  unfold L68_1
  exact LoopV.mkG s0 (fun s => [f9 s]) TH pre μ (fun _ => rfl) (Eq.mp (by kernel_rfl) h0) (fun s hs q hq => Eq.mp (by kernel_rfl) (round s hs q hq))
theorem L68_0_rule {K : AV → Heap → Prop} {v0 v1 v4 v5 v6 v7 v8 : AV} {H : Heap} {σ : Type} (s0 : σ) (f8 : σ → AV) (TH : σ → Heap) (pre : σ → Prop) (μ : σ → Nat)
    (h0 : pre s0 ∧ AV.wk v8 (f8 s0) ∧ Heap.le (TH s0) H)
    (round : ∀ s, pre s → B68_0 K (fun w8 H' => ∃ s', pre s' ∧ μ s' < μ s ∧ AV.wk w8 (f8 s') ∧ Heap.le (TH s') H') v0 v1 v4 v5 v6 v7 (f8 s) (TH s)) :
    L68_0 K v0 v1 v4 v5 v6 v7 v8 H := by
  unfold L68_0
  exact LoopV.mk s0 (fun s => [f8 s]) TH pre μ (fun _ => rfl) (Eq.mp (by kernel_rfl) h0) (fun s hs => Eq.mp (by kernel_rfl) (round s hs))
theorem L68_0_ruleG {K : AV → Heap → Prop} {v0 v1 v4 v5 v6 v7 v8 : AV} {H : Heap} {σ : Type} (s0 : σ) (f8 : σ → AV) (TH : σ → Heap) (pre : σ → Prop) (μ : σ → Nat)
    (h0 : pre s0 ∧ AV.wk v8 (f8 s0) ∧ Heap.le (TH s0) H)
    (round : ∀ s, pre s → ∀ q, TH s q = none → B68_0 K (fun w8 H' => ∃ s', pre s' ∧ μ s' < μ s ∧ AV.wk w8 (f8 s') ∧ Heap.le (TH s') H') v0 v1 v4 v5 v6 v7 (f8 s) ((TH s).set q [])) :
    L68_0 K v0 v1 v4 v5 v6 v7 v8 H := by
  unfold L68_0
  exact LoopV.mkG s0 (fun s => [f8 s]) TH pre μ (fun _ => rfl) (Eq.mp (by kernel_rfl) h0) (fun s hs q hq => Eq.mp (by kernel_rfl) (round s hs q hq))
/-- loop.example/g00649/impl.checkedAuto -/
def D69 : Info := ⟨9, fun i => ([], []), fun i => ([], [])⟩
def W69 (v0 : AV) (H : Heap) (K : AV → Heap → Prop) : Prop :=
 boxV v0 H fun v1 H1 =>
 allocV tab 55 H1 fun v2 H2 =>
 loadV tab 55 v1 H2 fun v4 =>
 CallT Try.prog 109 [v4] H2 fun v5 H3 =>
 unV .not v5 fun v6 =>
 condV v6 (buildV tab 55 [] fun v7 =>
 storeV tab 55 v2 v7 H3 fun H4 =>
 loadV tab 55 v2 H4 fun r0 =>
 K (.tup [r0, (AV.p (.bool false))]) H4)
 (loadV tab 55 v1 H3 fun v8 =>
 storeV tab 55 v2 v8 H3 fun H5 =>
 loadV tab 55 v2 H5 fun r0 =>
 K (.tup [r0, (AV.p (.bool true))]) H5)
theorem W69_wp (v0 : AV) (H : Heap) (K : AV → Heap → Prop) : wpC Try.prog tab D69 (bodyOf Try.f69) (retF tab [.cell 2 55, .tmp 3] K) (nthA [v0]) H = W69 v0 H K := by kernel_rfl
theorem W69_ok {v0 : AV} {H : Heap} {K : AV → Heap → Prop} (h : W69 v0 H K) : CallT Try.prog 69 [v0] H K :=
  CallT.of_wp (D := D69) tab_ok mixed Try.func69 (c := bodyOf Try.f69) (by kernel_rfl) rfl (by kernel_rfl) (rs := #[.cell 2 55, .tmp 3]) rfl (by decide +kernel) (by kernel_rfl) (W69_wp v0 H K) h
theorem W69_hb : HasBody Try.prog 69 := ⟨_, bodyOf Try.f69, Try.func69, by kernel_rfl, rfl⟩
/-- loop.example/g00649/impl.autoFor -/
def D70 : Info := ⟨42, fun i => if i = 8 then ([[], [0], [], [], [], [2, 3, 4], [], [], [2, 3, 4, 5, 6, 7], [2, 3, 4, 5, 6, 7, 8], [0, 1, 2, 3, 4, 5, 6, 7, 8, 9], [0, 1, 2, 3, 4, 5, 6, 7, 8, 9, 10], [0, 1, 2, 3, 4, 5, 6, 7, 8, 9, 10, 11]], [(0, []), (1, []), (2, []), (3, []), (4, []), (6, []), (7, []), (5, [1]), (8, []), (9, [1]), (10, []), (11, []), (12, [])]) else ([], []), fun i => if i = 3 then ([0, 4, 5], [16]) else if i = 6 then ([0, 4, 5, 6, 16, 20], [21]) else ([], [])⟩
def L70_0 (K : AV → Heap → Prop) (v0 : AV) (v4 : AV) (v5 : AV) (v16 : AV) (H : Heap) : Prop := LoopV (wpC Try.prog tab D70 (cAt [1, 1, 0, 1, 0, 0] (bodyOf Try.f70))) [0, 4, 5] (PostF.block 0 (PostF.thenA (wpC Try.prog tab D70 (cAt [1, 1, 1] (bodyOf Try.f70))) (retF tab [.cell 4 55] K))) [16] [v0, AV.any, AV.any, AV.any, v4, v5, AV.any, AV.any, AV.any, AV.any, AV.any, AV.any, AV.any, AV.any, AV.any, AV.any, v16, AV.any, AV.any, AV.any, AV.any, AV.any, AV.any, AV.any, AV.any, AV.any, AV.any, AV.any, AV.any, AV.any, AV.any, AV.any, AV.any, AV.any, AV.any, AV.any, AV.any, AV.any, AV.any, AV.any, AV.any, AV.any] H
def L70_1 (K : AV → Heap → Prop) (N1 : AV → Heap → Prop) (v0 : AV) (v4 : AV) (v5 : AV) (v6 : AV) (v16 : AV) (v20 : AV) (v21 : AV) (H : Heap) : Prop := LoopV (wpC Try.prog tab D70 (cAt [1, 1, 0, 1, 0, 0, 1, 1, 0, 0, 1, 1, 0, 0] (bodyOf Try.f70))) [0, 4, 5, 6, 16, 20] (PostF.block 2 (PostF.block 1 (PostF.thenA (wpC Try.prog tab D70 (cAt [1, 1, 0, 1, 0, 0, 1, 1, 1] (bodyOf Try.f70))) (loopF (PostF.block 0 (PostF.thenA (wpC Try.prog tab D70 (cAt [1, 1, 1] (bodyOf Try.f70))) (retF tab [.cell 4 55] K))) (fun e h => N1 (e 16) h))))) [21] [v0, AV.any, AV.any, AV.any, v4, v5, v6, AV.any, AV.any, AV.any, AV.any, AV.any, AV.any, AV.any, AV.any, AV.any, v16, AV.any, AV.any, AV.any, v20, v21, AV.any, AV.any, AV.any, AV.any, AV.any, AV.any, AV.any, AV.any, AV.any, AV.any, AV.any, AV.any, AV.any, AV.any, AV.any, AV.any, AV.any, AV.any, AV.any, AV.any] H
def B70_1 (K : AV → Heap → Prop) (N1 : AV → Heap → Prop) (N2 : AV → Heap → Prop) (v0 : AV) (v4 : AV) (v5 : AV) (v6 : AV) (v16 : AV) (v20 : AV) (v21 : AV) (H : Heap) : Prop :=
 binV tab .lss 3 v21 v20 fun v22 =>
 condV v22 (fieldAddrV tab 55 v5 2 fun v24 =>
 loadV tab 52 v24 H fun v25 =>
 CallT Try.prog 58 [v0, v6, v21] H fun v29 H7 =>
 (loadV tab 52 v24 H7 fun v9025 =>
 v25 = v9025) ∧
 buildV tab 125 [(0, v29), (1, v6), (2, v21)] fun v32 =>
 buildSliceV tab 52 1 [(0, v32)] H7 (wkK fun v33 H8 =>
 (loadV tab 52 v24 H8 fun v9025 =>
 v25 = v9025) ∧
 appendV tab 52 52 v25 v33 H8 (wkK fun v34 H9 =>
 fieldAddrV tab 55 v5 2 fun v35 =>
 storeV tab 52 v35 v34 H9 fun H10 =>
 binV tab .add 3 v21 (AV.p (.int .i64 1)) fun v36 =>
 N2 v36 H10)))
 (binV tab .add 3 v16 (AV.p (.int .i64 1)) fun v37 =>
 N1 v37 H)
def B70_0 (K : AV → Heap → Prop) (N1 : AV → Heap → Prop) (v0 : AV) (v4 : AV) (v5 : AV) (v16 : AV) (H : Heap) : Prop :=
 binV tab .lss 3 v16 (AV.p (.int .i64 8)) fun v17 =>
 condV v17 (fieldAddrV tab 55 v5 0 fun v19 =>
 loadV tab 3 v19 H fun v20 =>
 L70_1 K N1 v0 v4 v5 v16 v16 v20 (AV.p (.int .i64 0)) H)
 (fieldAddrV tab 55 v5 2 fun v38 =>
 loadV tab 52 v38 H fun v39 =>
 CallT Try.prog 112 [v39, (.fn 113 [])] H fun v40 H11 =>
 loadV tab 55 v5 H11 fun v41 =>
 storeV tab 55 v4 v41 H11 fun H12 =>
 loadV tab 55 v4 H12 fun r0 =>
 K r0 H12)
def W70 (v0 : AV) (v1 : AV) (H : Heap) (K : AV → Heap → Prop) : Prop :=
 allocV tab 55 H fun v4 H1 =>
 CallT Try.prog 101 [v0] H1 fun v9 H2 =>
 CallT Try.prog 110 [v0, v1] H2 fun v12 H3 =>
 CallT Try.prog 111 [v0] H3 fun v14 H4 =>
 buildV tab 55 [(0, v9), (1, v12), (3, v14)] fun v15 =>
 allocV tab 55 H4 fun v5 H5 =>
 storeV tab 55 v5 v15 H5 fun H6 =>
 L70_0 K v0 v4 v5 (AV.p (.int .i64 0)) H6
theorem W70_wp (v0 : AV) (v1 : AV) (H : Heap) (K : AV → Heap → Prop) : wpC Try.prog tab D70 (bodyOf Try.f70) (retF tab [.cell 4 55] K) (nthA [v0, v1]) H = W70 v0 v1 H K := by kernel_rfl
theorem W70_ok {v0 v1 : AV} {H : Heap} {K : AV → Heap → Prop} (h : W70 v0 v1 H K) : CallT Try.prog 70 [v0, v1] H K :=
  CallT.of_wp (D := D70) tab_ok mixed Try.func70 (c := bodyOf Try.f70) (by kernel_rfl) rfl (by kernel_rfl) (rs := #[.cell 4 55]) rfl (by decide +kernel) (by kernel_rfl) (W70_wp v0 v1 H K) h
theorem W70_hb : HasBody Try.prog 70 := ⟨_, bodyOf Try.f70, Try.func70, by kernel_rfl, rfl⟩
theorem L70_1_rule {K : AV → Heap → Prop} {N1 : AV → Heap → Prop} {v0 v4 v5 v6 v16 v20 v21 : AV} {H : Heap} {σ : Type} (s0 : σ) (f21 : σ → AV) (TH : σ → Heap) (pre : σ → Prop) (μ : σ → Nat)
    (h0 : pre s0 ∧ AV.wk v21 (f21 s0) ∧ Heap.le (TH s0) H)
    (round : ∀ s, pre s → B70_1 K N1 (fun w21 H' => ∃ s', pre s' ∧ μ s' < μ s ∧ AV.wk w21 (f21 s') ∧ Heap.le (TH s') H') v0 v4 v5 v6 v16 v20 (f21 s) (TH s)) :
    L70_1 K N1 v0 v4 v5 v6 v16 v20 v21 H := by
  unfold L70_1
  exact LoopV.mk s0 (fun s => [f21 s]) TH pre μ (fun _ => rfl) (Eq.mp (by kernel_rfl) h0) (fun s hs => Eq.mp (by kernel_rfl) (round s hs))
theorem L70_1_ruleG {K : AV → Heap → Prop} {N1 : AV → Heap → Prop} {v0 v4 v5 v6 v16 v20 v21 : AV} {H : Heap} {σ : Type} (s0 : σ) (f21 : σ → AV) (TH : σ → Heap) (pre : σ → Prop) (μ : σ → Nat)
    (h0 : pre s0 ∧ AV.wk v21 (f21 s0) ∧ Heap.le (TH s0) H)
    (round : ∀ s, pre s → ∀ q, TH s q = none → B70_1 K N1 (fun w21 H' => ∃ s', pre s' ∧ μ s' < μ s ∧ AV.wk w21 (f21 s') ∧ Heap.le (TH s') H') v0 v4 v5 v6 v16 v20 (f21 s) ((TH s).set q [])) :
    L70_1 K N1 v0 v4 v5 v6 v16 v20 v21 H := by
  unfold L70_1
  exact LoopV.mkG s0 (fun s => [f21 s]) TH pre μ (fun _ => rfl) (Eq.mp (by kernel_rfl) h0) (fun s hs q hq => Eq.mp (by kernel_rfl) (round s hs q hq))
theorem L70_0_rule {K : AV → Heap → Prop} {v0 v4 v5 v16 : AV} {H : Heap} {σ : Type} (s0 : σ) (f16 : σ → AV) (TH : σ → Heap) (pre : σ → Prop) (μ : σ → Nat)
    (h0 : pre s0 ∧ AV.wk v16 (f16 s0) ∧ Heap.le (TH s0) H)
    (round : ∀ s, pre s → B70_0 K (fun w16 H' => ∃ s', pre s' ∧ μ s' < μ s ∧ AV.wk w16 (f16 s') ∧ Heap.le (TH s') H') v0 v4 v5 (f16 s) (TH s)) :
    L70_0 K v0 v4 v5 v16 H := by
  unfold L70_0
  exact LoopV.mk s0 (fun s => [f16 s]) TH pre μ (fun _ => rfl) (Eq.mp (by kernel_rfl) h0) (fun s hs => Eq.mp (by kernel_rfl) (round s hs))
theorem L70_0_ruleG {K : AV → Heap → Prop} {v0 v4 v5 v16 : AV} {H : Heap} {σ : Type} (s0 : σ) (f16 : σ → AV) (TH : σ → Heap) (pre : σ → Prop) (μ : σ → Nat)
    (h0 : pre s0 ∧ AV.wk v16 (f16 s0) ∧ Heap.le (TH s0) H)
    (round : ∀ s, pre s → ∀ q, TH s q = none → B70_0 K (fun w16 H' => ∃ s', pre s' ∧ μ s' < μ s ∧ AV.wk w16 (f16 s') ∧ Heap.le (TH s') H') v0 v4 v5 (f16 s) ((TH s).set q [])) :
    L70_0 K v0 v4 v5 v16 H := by
  unfold L70_0
  exact LoopV.mkG s0 (fun s => [f16 s]) TH pre μ (fun _ => rfl) (Eq.mp (by kernel_rfl) h0) (fun s hs q hq => Eq.mp (by kernel_rfl) (round s hs q hq))
/-- loop.example/g00649/laws.eqEdgeS -/
def D71 : Info := ⟨27, fun i => if i = 6 then ([[], [], [0, 1], [0, 1, 2], [], [], [4, 5], [4, 5, 6], [0, 1, 2, 3, 4, 5, 6, 7], [0, 1, 2, 3, 4, 5, 6, 7, 8]], [(0, []), (1, []), (2, []), (3, []), (4, []), (5, []), (6, []), (7, []), (8, []), (9, [])]) else ([], []), fun i => if i = 4 then ([0, 1], [5]) else ([], [])⟩
def L71_0 (K : AV → Heap → Prop) (v0 : AV) (v1 : AV) (v5 : AV) (H : Heap) : Prop := LoopV (wpC Try.prog tab D71 (cAt [1, 1, 0, 1, 0, 0] (bodyOf Try.f71))) [0, 1] (PostF.block 0 (PostF.thenA (wpC Try.prog tab D71 (cAt [1, 1, 1] (bodyOf Try.f71))) (retF tab [.tmp 4] K))) [5] [v0, v1, AV.any, AV.any, AV.any, v5, AV.any, AV.any, AV.any, AV.any, AV.any, AV.any, AV.any, AV.any, AV.any, AV.any, AV.any, AV.any, AV.any, AV.any, AV.any, AV.any, AV.any, AV.any, AV.any, AV.any, AV.any] H
def B71_0 (K : AV → Heap → Prop) (N1 : AV → Heap → Prop) (v0 : AV) (v1 : AV) (v5 : AV) (H : Heap) : Prop :=
 lenV tab 52 v0 fun v13 =>
 binV tab .lss 3 v5 v13 fun v14 =>
 condV v14 (indexAddrV tab 52 v0 v5 fun v19 =>
 loadV tab 125 v19 H fun v20 =>
 indexAddrV tab 52 v1 v5 fun v23 =>
 loadV tab 125 v23 H fun v24 =>
 CallT Try.prog 114 [v20, v24] H fun v25 H1 =>
 unV .not v25 fun v26 =>
 condV v26 (K (AV.p (.bool false)) H1)
 (binV tab .add 3 v5 (AV.p (.int .i64 1)) fun v16 =>
 N1 v16 H1))
 (K (AV.p (.bool true)) H)
def W71 (v0 : AV) (v1 : AV) (H : Heap) (K : AV → Heap → Prop) : Prop :=
 lenV tab 52 v0 fun v7 =>
 lenV tab 52 v1 fun v9 =>
 binV tab .neq 3 v7 v9 fun v10 =>
 condV v10 (K (AV.p (.bool false)) H)
 (L71_0 K v0 v1 (AV.p (.int .i64 0)) H)
theorem W71_wp (v0 : AV) (v1 : AV) (H : Heap) (K : AV → Heap → Prop) : wpC Try.prog tab D71 (bodyOf Try.f71) (retF tab [.tmp 4] K) (nthA [v0, v1]) H = W71 v0 v1 H K := by kernel_rfl
theorem W71_ok {v0 v1 : AV} {H : Heap} {K : AV → Heap → Prop} (h : W71 v0 v1 H K) : CallT Try.prog 71 [v0, v1] H K :=
  CallT.of_wp (D := D71) tab_ok mixed Try.func71 (c := bodyOf Try.f71) (by kernel_rfl) rfl (by kernel_rfl) (rs := #[.tmp 4]) rfl (by decide +kernel) (by kernel_rfl) (W71_wp v0 v1 H K) h
theorem W71_hb : HasBody Try.prog 71 := ⟨_, bodyOf Try.f71, Try.func71, by kernel_rfl, rfl⟩
theorem L71_0_rule {K : AV → Heap → Prop} {v0 v1 v5 : AV} {H : Heap} {σ : Type} (s0 : σ) (f5 : σ → AV) (TH : σ → Heap) (pre : σ → Prop) (μ : σ → Nat)
    (h0 : pre s0 ∧ AV.wk v5 (f5 s0) ∧ Heap.le (TH s0) H)
    (round : ∀ s, pre s → B71_0 K (fun w5 H' => ∃ s', pre s' ∧ μ s' < μ s ∧ AV.wk w5 (f5 s') ∧ Heap.le (TH s') H') v0 v1 (f5 s) (TH s)) :
    L71_0 K v0 v1 v5 H := by
  unfold L71_0
  exact LoopV.mk s0 (fun s => [f5 s]) TH pre μ (fun _ => rfl) (Eq.mp (by kernel_rfl) h0) (fun s hs => Eq.mp (by kernel_rfl) (round s hs))
theorem L71_0_ruleG {K : AV → Heap → Prop} {v0 v1 v5 : AV} {H : Heap} {σ : Type} (s0 : σ) (f5 : σ → AV) (TH : σ → Heap) (pre : σ → Prop) (μ : σ → Nat)
    (h0 : pre s0 ∧ AV.wk v5 (f5 s0) ∧ Heap.le (TH s0) H)
    (round : ∀ s, pre s → ∀ q, TH s q = none → B71_0 K (fun w5 H' => ∃ s', pre s' ∧ μ s' < μ s ∧ AV.wk w5 (f5 s') ∧ Heap.le (TH s') H') v0 v1 (f5 s) ((TH s).set q [])) :
    L71_0 K v0 v1 v5 H := by
  unfold L71_0
  exact LoopV.mkG s0 (fun s => [f5 s]) TH pre μ (fun _ => rfl) (Eq.mp (by kernel_rfl) h0) (fun s hs q hq => Eq.mp (by kernel_rfl) (round s hs q hq))
/-- loop.example/g00649/laws.eqIntSS -/
def D72 : Info := ⟨27, fun i => if i = 6 then ([[], [], [0, 1], [0, 1, 2], [], [], [4, 5], [4, 5, 6], [0, 1, 2, 3, 4, 5, 6, 7], [0, 1, 2, 3, 4, 5, 6, 7, 8]], [(0, []), (1, []), (2, []), (3, []), (4, []), (5, []), (6, []), (7, []), (8, []), (9, [])]) else ([], []), fun i => if i = 4 then ([0, 1], [5]) else ([], [])⟩
def L72_0 (K : AV → Heap → Prop) (v0 : AV) (v1 : AV) (v5 : AV) (H : Heap) : Prop := LoopV (wpC Try.prog tab D72 (cAt [1, 1, 0, 1, 0, 0] (bodyOf Try.f72))) [0, 1] (PostF.block 0 (PostF.thenA (wpC Try.prog tab D72 (cAt [1, 1, 1] (bodyOf Try.f72))) (retF tab [.tmp 4] K))) [5] [v0, v1, AV.any, AV.any, AV.any, v5, AV.any, AV.any, AV.any, AV.any, AV.any, AV.any, AV.any, AV.any, AV.any, AV.any, AV.any, AV.any, AV.any, AV.any, AV.any, AV.any, AV.any, AV.any, AV.any, AV.any, AV.any] H
def B72_0 (K : AV → Heap → Prop) (N1 : AV → Heap → Prop) (v0 : AV) (v1 : AV) (v5 : AV) (H : Heap) : Prop :=
 lenV tab 53 v0 fun v13 =>
 binV tab .lss 3 v5 v13 fun v14 =>
 condV v14 (indexAddrV tab 53 v0 v5 fun v19 =>
 loadV tab 24 v19 H fun v20 =>
 indexAddrV tab 53 v1 v5 fun v23 =>
 loadV tab 24 v23 H fun v24 =>
 CallT Try.prog 13 [v20, v24] H fun v25 H1 =>
 unV .not v25 fun v26 =>
 condV v26 (K (AV.p (.bool false)) H1)
 (binV tab .add 3 v5 (AV.p (.int .i64 1)) fun v16 =>
 N1 v16 H1))
 (K (AV.p (.bool true)) H)
def W72 (v0 : AV) (v1 : AV) (H : Heap) (K : AV → Heap → Prop) : Prop :=
 lenV tab 53 v0 fun v7 =>
 lenV tab 53 v1 fun v9 =>
 binV tab .neq 3 v7 v9 fun v10 =>
 condV v10 (K (AV.p (.bool false)) H)
 (L72_0 K v0 v1 (AV.p (.int .i64 0)) H)
theorem W72_wp (v0 : AV) (v1 : AV) (H : Heap) (K : AV → Heap → Prop) : wpC Try.prog tab D72 (bodyOf Try.f72) (retF tab [.tmp 4] K) (nthA [v0, v1]) H = W72 v0 v1 H K := by kernel_rfl
theorem W72_ok {v0 v1 : AV} {H : Heap} {K : AV → Heap → Prop} (h : W72 v0 v1 H K) : CallT Try.prog 72 [v0, v1] H K :=
  CallT.of_wp (D := D72) tab_ok mixed Try.func72 (c := bodyOf Try.f72) (by kernel_rfl) rfl (by kernel_rfl) (rs := #[.tmp 4]) rfl (by decide +kernel) (by kernel_rfl) (W72_wp v0 v1 H K) h
theorem W72_hb : HasBody Try.prog 72 := ⟨_, bodyOf Try.f72, Try.func72, by kernel_rfl, rfl⟩
theorem L72_0_rule {K : AV → Heap → Prop} {v0 v1 v5 : AV} {H : Heap} {σ : Type} (s0 : σ) (f5 : σ → AV) (TH : σ → Heap) (pre : σ → Prop) (μ : σ → Nat)
    (h0 : pre s0 ∧ AV.wk v5 (f5 s0) ∧ Heap.le (TH s0) H)
    (round : ∀ s, pre s → B72_0 K (fun w5 H' => ∃ s', pre s' ∧ μ s' < μ s ∧ AV.wk w5 (f5 s') ∧ Heap.le (TH s') H') v0 v1 (f5 s) (TH s)) :
    L72_0 K v0 v1 v5 H := by
  unfold L72_0
  exact LoopV.mk s0 (fun s => [f5 s]) TH pre μ (fun _ => rfl) (Eq.mp (by kernel_rfl) h0) (fun s hs => Eq.mp (by kernel_rfl) (round s hs))
theorem L72_0_ruleG {K : AV → Heap → Prop} {v0 v1 v5 : AV} {H : Heap} {σ : Type} (s0 : σ) (f5 : σ → AV) (TH : σ → Heap) (pre : σ → Prop) (μ : σ → Nat)
    (h0 : pre s0 ∧ AV.wk v5 (f5 s0) ∧ Heap.le (TH s0) H)
    (round : ∀ s, pre s → ∀ q, TH s q = none → B72_0 K (fun w5 H' => ∃ s', pre s' ∧ μ s' < μ s ∧ AV.wk w5 (f5 s') ∧ Heap.le (TH s') H') v0 v1 (f5 s) ((TH s).set q [])) :
    L72_0 K v0 v1 v5 H := by
  unfold L72_0
  exact LoopV.mkG s0 (fun s => [f5 s]) TH pre μ (fun _ => rfl) (Eq.mp (by kernel_rfl) h0) (fun s hs q hq => Eq.mp (by kernel_rfl) (round s hs q hq))
/-- loop.example/g00649/laws.markEdgeS -/
def D73 : Info := ⟨34, fun i => ([], []), fun i => if i = 2 then ([0], [1, 5]) else ([], [])⟩
def L73_0 (K : AV → Heap → Prop) (v0 : AV) (v1 : AV) (v5 : AV) (H : Heap) : Prop := LoopV (wpC Try.prog tab D73 (cAt [1, 0, 1, 0, 0] (bodyOf Try.f73))) [0] (PostF.block 0 (PostF.thenA (wpC Try.prog tab D73 (cAt [1, 1] (bodyOf Try.f73))) (retF tab [.tmp 4] K))) [1, 5] [v0, v1, AV.any, AV.any, AV.any, v5, AV.any, AV.any, AV.any, AV.any, AV.any, AV.any, AV.any, AV.any, AV.any, AV.any, AV.any, AV.any, AV.any, AV.any, AV.any, AV.any, AV.any, AV.any, AV.any, AV.any, AV.any, AV.any, AV.any, AV.any, AV.any, AV.any, AV.any, AV.any] H
def B73_0 (K : AV → Heap → Prop) (N1 : AV → AV → Heap → Prop) (v0 : AV) (v1 : AV) (v5 : AV) (H : Heap) : Prop :=
 lenV tab 52 v0 fun v8 =>
 binV tab .lss 3 v5 v8 fun v9 =>
 condV v9 (indexAddrV tab 52 v0 v5 fun v15 =>
 fieldAddrV tab 125 v15 0 fun v16 =>
 storeV tab 3 v16 v1 H fun H1 =>
 binV tab .add 3 v1 (AV.p (.int .i64 1)) fun v18 =>
 indexAddrV tab 52 v0 v5 fun v22 =>
 fieldAddrV tab 125 v22 1 fun v23 =>
 storeV tab 3 v23 v18 H1 fun H2 =>
 binV tab .add 3 v18 (AV.p (.int .i64 1)) fun v25 =>
 indexAddrV tab 52 v0 v5 fun v29 =>
 fieldAddrV tab 125 v29 2 fun v30 =>
 storeV tab 3 v30 v25 H2 fun H3 =>
 binV tab .add 3 v25 (AV.p (.int .i64 1)) fun v32 =>
 binV tab .add 3 v5 (AV.p (.int .i64 1)) fun v11 =>
 N1 v32 v11 H3)
 (K v1 H)
def W73 (v0 : AV) (v1 : AV) (H : Heap) (K : AV → Heap → Prop) : Prop :=
 L73_0 K v0 v1 (AV.p (.int .i64 0)) H
theorem W73_wp (v0 : AV) (v1 : AV) (H : Heap) (K : AV → Heap → Prop) : wpC Try.prog tab D73 (bodyOf Try.f73) (retF tab [.tmp 4] K) (nthA [v0, v1]) H = W73 v0 v1 H K := by kernel_rfl
theorem W73_ok {v0 v1 : AV} {H : Heap} {K : AV → Heap → Prop} (h : W73 v0 v1 H K) : CallT Try.prog 73 [v0, v1] H K :=
  CallT.of_wp (D := D73) tab_ok mixed Try.func73 (c := bodyOf Try.f73) (by kernel_rfl) rfl (by kernel_rfl) (rs := #[.tmp 4]) rfl (by decide +kernel) (by kernel_rfl) (W73_wp v0 v1 H K) h
theorem W73_hb : HasBody Try.prog 73 := ⟨_, bodyOf Try.f73, Try.func73, by kernel_rfl, rfl⟩
theorem L73_0_rule {K : AV → Heap → Prop} {v0 v1 v5 : AV} {H : Heap} {σ : Type} (s0 : σ) (f1 : σ → AV) (f5 : σ → AV) (TH : σ → Heap) (pre : σ → Prop) (μ : σ → Nat)
    (h0 : pre s0 ∧ AV.wk v1 (f1 s0) ∧ AV.wk v5 (f5 s0) ∧ Heap.le (TH s0) H)
    (round : ∀ s, pre s → B73_0 K (fun w1 w5 H' => ∃ s', pre s' ∧ μ s' < μ s ∧ AV.wk w1 (f1 s') ∧ AV.wk w5 (f5 s') ∧ Heap.le (TH s') H') v0 (f1 s) (f5 s) (TH s)) :
    L73_0 K v0 v1 v5 H := by
  unfold L73_0
  exact LoopV.mk s0 (fun s => [f1 s, f5 s]) TH pre μ (fun _ => rfl) (Eq.mp (by kernel_rfl) h0) (fun s hs => Eq.mp (by kernel_rfl) (round s hs))
theorem L73_0_ruleG {K : AV → Heap → Prop} {v0 v1 v5 : AV} {H : Heap} {σ : Type} (s0 : σ) (f1 : σ → AV) (f5 : σ → AV) (TH : σ → Heap) (pre : σ → Prop) (μ : σ → Nat)
    (h0 : pre s0 ∧ AV.wk v1 (f1 s0) ∧ AV.wk v5 (f5 s0) ∧ Heap.le (TH s0) H)
    (round : ∀ s, pre s → ∀ q, TH s q = none → B73_0 K (fun w1 w5 H' => ∃ s', pre s' ∧ μ s' < μ s ∧ AV.wk w1 (f1 s') ∧ AV.wk w5 (f5 s') ∧ Heap.le (TH s') H') v0 (f1 s) (f5 s) ((TH s).set q [])) :
    L73_0 K v0 v1 v5 H := by
  unfold L73_0
  exact LoopV.mkG s0 (fun s => [f1 s, f5 s]) TH pre μ (fun _ => rfl) (Eq.mp (by kernel_rfl) h0) (fun s hs q hq => Eq.mp (by kernel_rfl) (round s hs q hq))
/-- loop.example/g00649/laws.markIntSS -/
def D74 : Info := ⟨19, fun i => ([], []), fun i => if i = 2 then ([0], [1, 5]) else ([], [])⟩
def L74_0 (K : AV → Heap → Prop) (v0 : AV) (v1 : AV) (v5 : AV) (H : Heap) : Prop := LoopV (wpC Try.prog tab D74 (cAt [1, 0, 1, 0, 0] (bodyOf Try.f74))) [0] (PostF.block 0 (PostF.thenA (wpC Try.prog tab D74 (cAt [1, 1] (bodyOf Try.f74))) (retF tab [.tmp 4] K))) [1, 5] [v0, v1, AV.any, AV.any, AV.any, v5, AV.any, AV.any, AV.any, AV.any, AV.any, AV.any, AV.any, AV.any, AV.any, AV.any, AV.any, AV.any, AV.any] H
def B74_0 (K : AV → Heap → Prop) (N1 : AV → AV → Heap → Prop) (v0 : AV) (v1 : AV) (v5 : AV) (H : Heap) : Prop :=
 lenV tab 53 v0 fun v8 =>
 binV tab .lss 3 v5 v8 fun v9 =>
 condV v9 (indexAddrV tab 53 v0 v5 fun v14 =>
 loadV tab 24 v14 H fun v15 =>
 CallT Try.prog 16 [v15, v1] H fun v17 H1 =>
 binV tab .add 3 v5 (AV.p (.int .i64 1)) fun v11 =>
 N1 v17 v11 H1)
 (K v1 H)
def W74 (v0 : AV) (v1 : AV) (H : Heap) (K : AV → Heap → Prop) : Prop :=
 L74_0 K v0 v1 (AV.p (.int .i64 0)) H
theorem W74_wp (v0 : AV) (v1 : AV) (H : Heap) (K : AV → Heap → Prop) : wpC Try.prog tab D74 (bodyOf Try.f74) (retF tab [.tmp 4] K) (nthA [v0, v1]) H = W74 v0 v1 H K := by kernel_rfl
theorem W74_ok {v0 v1 : AV} {H : Heap} {K : AV → Heap → Prop} (h : W74 v0 v1 H K) : CallT Try.prog 74 [v0, v1] H K :=
  CallT.of_wp (D := D74) tab_ok mixed Try.func74 (c := bodyOf Try.f74) (by kernel_rfl) rfl (by kernel_rfl) (rs := #[.tmp 4]) rfl (by decide +kernel) (by kernel_rfl) (W74_wp v0 v1 H K) h
theorem W74_hb : HasBody Try.prog 74 := ⟨_, bodyOf Try.f74, Try.func74, by kernel_rfl, rfl⟩
theorem L74_0_rule {K : AV → Heap → Prop} {v0 v1 v5 : AV} {H : Heap} {σ : Type} (s0 : σ) (f1 : σ → AV) (f5 : σ → AV) (TH : σ → Heap) (pre : σ → Prop) (μ : σ → Nat)
    (h0 : pre s0 ∧ AV.wk v1 (f1 s0) ∧ AV.wk v5 (f5 s0) ∧ Heap.le (TH s0) H)
    (round : ∀ s, pre s → B74_0 K (fun w1 w5 H' => ∃ s', pre s' ∧ μ s' < μ s ∧ AV.wk w1 (f1 s') ∧ AV.wk w5 (f5 s') ∧ Heap.le (TH s') H') v0 (f1 s) (f5 s) (TH s)) :
    L74_0 K v0 v1 v5 H := by
  unfold L74_0
  exact LoopV.mk s0 (fun s => [f1 s, f5 s]) TH pre μ (fun _ => rfl) (Eq.mp (by kernel_rfl) h0) (fun s hs => Eq.mp (by kernel_rfl) (round s hs))
theorem L74_0_ruleG {K : AV → Heap → Prop} {v0 v1 v5 : AV} {H : Heap} {σ : Type} (s0 : σ) (f1 : σ → AV) (f5 : σ → AV) (TH : σ → Heap) (pre : σ → Prop) (μ : σ → Nat)
    (h0 : pre s0 ∧ AV.wk v1 (f1 s0) ∧ AV.wk v5 (f5 s0) ∧ Heap.le (TH s0) H)
    (round : ∀ s, pre s → ∀ q, TH s q = none → B74_0 K (fun w1 w5 H' => ∃ s', pre s' ∧ μ s' < μ s ∧ AV.wk w1 (f1 s') ∧ AV.wk w5 (f5 s') ∧ Heap.le (TH s') H') v0 (f1 s) (f5 s) ((TH s).set q [])) :
    L74_0 K v0 v1 v5 H := by
  unfold L74_0
  exact LoopV.mkG s0 (fun s => [f1 s, f5 s]) TH pre μ (fun _ => rfl) (Eq.mp (by kernel_rfl) h0) (fun s hs q hq => Eq.mp (by kernel_rfl) (round s hs q hq))
/-- loop.example/g00649/laws.heldEdgeS -/
def D75 : Info := ⟨40, fun i => ([], []), fun i => if i = 2 then ([0], [1, 5]) else ([], [])⟩
def L75_0 (K : AV → Heap → Prop) (v0 : AV) (v1 : AV) (v5 : AV) (H : Heap) : Prop := LoopV (wpC Try.prog tab D75 (cAt [1, 0, 1, 0, 0] (bodyOf Try.f75))) [0] (PostF.block 0 (PostF.thenA (wpC Try.prog tab D75 (cAt [1, 1] (bodyOf Try.f75))) (retF tab [.tmp 4] K))) [1, 5] [v0, v1, AV.any, AV.any, AV.any, v5, AV.any, AV.any, AV.any, AV.any, AV.any, AV.any, AV.any, AV.any, AV.any, AV.any, AV.any, AV.any, AV.any, AV.any, AV.any, AV.any, AV.any, AV.any, AV.any, AV.any, AV.any, AV.any, AV.any, AV.any, AV.any, AV.any, AV.any, AV.any, AV.any, AV.any, AV.any, AV.any, AV.any, AV.any] H
def B75_0 (K : AV → Heap → Prop) (N1 : AV → AV → Heap → Prop) (v0 : AV) (v1 : AV) (v5 : AV) (H : Heap) : Prop :=
 lenV tab 52 v0 fun v8 =>
 binV tab .lss 3 v5 v8 fun v9 =>
 condV v9 (indexAddrV tab 52 v0 v5 fun v14 =>
 fieldAddrV tab 125 v14 0 fun v15 =>
 loadV tab 3 v15 H fun v16 =>
 binV tab .neq 3 v16 v1 fun v18 =>
 condV v18 (K (AV.p (.int .i64 (-1))) H)
 (binV tab .add 3 v1 (AV.p (.int .i64 1)) fun v20 =>
 indexAddrV tab 52 v0 v5 fun v23 =>
 fieldAddrV tab 125 v23 1 fun v24 =>
 loadV tab 3 v24 H fun v25 =>
 binV tab .neq 3 v25 v20 fun v27 =>
 condV v27 (K (AV.p (.int .i64 (-1))) H)
 (binV tab .add 3 v20 (AV.p (.int .i64 1)) fun v29 =>
 indexAddrV tab 52 v0 v5 fun v32 =>
 fieldAddrV tab 125 v32 2 fun v33 =>
 loadV tab 3 v33 H fun v34 =>
 binV tab .neq 3 v34 v29 fun v36 =>
 condV v36 (K (AV.p (.int .i64 (-1))) H)
 (binV tab .add 3 v29 (AV.p (.int .i64 1)) fun v38 =>
 binV tab .add 3 v5 (AV.p (.int .i64 1)) fun v11 =>
 N1 v38 v11 H))))
 (K v1 H)
def W75 (v0 : AV) (v1 : AV) (H : Heap) (K : AV → Heap → Prop) : Prop :=
 L75_0 K v0 v1 (AV.p (.int .i64 0)) H
theorem W75_wp (v0 : AV) (v1 : AV) (H : Heap) (K : AV → Heap → Prop) : wpC Try.prog tab D75 (bodyOf Try.f75) (retF tab [.tmp 4] K) (nthA [v0, v1]) H = W75 v0 v1 H K := by kernel_rfl
theorem W75_ok {v0 v1 : AV} {H : Heap} {K : AV → Heap → Prop} (h : W75 v0 v1 H K) : CallT Try.prog 75 [v0, v1] H K :=
  CallT.of_wp (D := D75) tab_ok mixed Try.func75 (c := bodyOf Try.f75) (by kernel_rfl) rfl (by kernel_rfl) (rs := #[.tmp 4]) rfl (by decide +kernel) (by kernel_rfl) (W75_wp v0 v1 H K) h
theorem W75_hb : HasBody Try.prog 75 := ⟨_, bodyOf Try.f75, Try.func75, by kernel_rfl, rfl⟩
theorem L75_0_rule {K : AV → Heap → Prop} {v0 v1 v5 : AV} {H : Heap} {σ : Type} (s0 : σ) (f1 : σ → AV) (f5 : σ → AV) (TH : σ → Heap) (pre : σ → Prop) (μ : σ → Nat)
    (h0 : pre s0 ∧ AV.wk v1 (f1 s0) ∧ AV.wk v5 (f5 s0) ∧ Heap.le (TH s0) H)
    (round : ∀ s, pre s → B75_0 K (fun w1 w5 H' => ∃ s', pre s' ∧ μ s' < μ s ∧ AV.wk w1 (f1 s') ∧ AV.wk w5 (f5 s') ∧ Heap.le (TH s') H') v0 (f1 s) (f5 s) (TH s)) :
    L75_0 K v0 v1 v5 H := by
  unfold L75_0
  exact LoopV.mk s0 (fun s => [f1 s, f5 s]) TH pre μ (fun _ => rfl) (Eq.mp (by kernel_rfl) h0) (fun s hs => Eq.mp (by kernel_rfl) (round s hs))
theorem L75_0_ruleG {K : AV → Heap → Prop} {v0 v1 v5 : AV} {H : Heap} {σ : Type} (s0 : σ) (f1 : σ → AV) (f5 : σ → AV) (TH : σ → Heap) (pre : σ → Prop) (μ : σ → Nat)
    (h0 : pre s0 ∧ AV.wk v1 (f1 s0) ∧ AV.wk v5 (f5 s0) ∧ Heap.le (TH s0) H)
    (round : ∀ s, pre s → ∀ q, TH s q = none → B75_0 K (fun w1 w5 H' => ∃ s', pre s' ∧ μ s' < μ s ∧ AV.wk w1 (f1 s') ∧ AV.wk w5 (f5 s') ∧ Heap.le (TH s') H') v0 (f1 s) (f5 s) ((TH s).set q [])) :
    L75_0 K v0 v1 v5 H := by
  unfold L75_0
  exact LoopV.mkG s0 (fun s => [f1 s, f5 s]) TH pre μ (fun _ => rfl) (Eq.mp (by kernel_rfl) h0) (fun s hs q hq => Eq.mp (by kernel_rfl) (round s hs q hq))
/-- loop.example/g00649/laws.heldIntSS -/
def D76 : Info := ⟨21, fun i => ([], []), fun i => if i = 2 then ([0], [1, 5]) else ([], [])⟩
def L76_0 (K : AV → Heap → Prop) (v0 : AV) (v1 : AV) (v5 : AV) (H : Heap) : Prop := LoopV (wpC Try.prog tab D76 (cAt [1, 0, 1, 0, 0] (bodyOf Try.f76))) [0] (PostF.block 0 (PostF.thenA (wpC Try.prog tab D76 (cAt [1, 1] (bodyOf Try.f76))) (retF tab [.tmp 4] K))) [1, 5] [v0, v1, AV.any, AV.any, AV.any, v5, AV.any, AV.any, AV.any, AV.any, AV.any, AV.any, AV.any, AV.any, AV.any, AV.any, AV.any, AV.any, AV.any, AV.any, AV.any] H
def B76_0 (K : AV → Heap → Prop) (N1 : AV → AV → Heap → Prop) (v0 : AV) (v1 : AV) (v5 : AV) (H : Heap) : Prop :=
 lenV tab 53 v0 fun v8 =>
 binV tab .lss 3 v5 v8 fun v9 =>
 condV v9 (indexAddrV tab 53 v0 v5 fun v14 =>
 loadV tab 24 v14 H fun v15 =>
 CallT Try.prog 17 [v15, v1] H fun v17 H1 =>
 binV tab .lss 3 v17 (AV.p (.int .i64 0)) fun v19 =>
 condV v19 (K (AV.p (.int .i64 (-1))) H1)
 (binV tab .add 3 v5 (AV.p (.int .i64 1)) fun v11 =>
 N1 v17 v11 H1))
 (K v1 H)
def W76 (v0 : AV) (v1 : AV) (H : Heap) (K : AV → Heap → Prop) : Prop :=
 L76_0 K v0 v1 (AV.p (.int .i64 0)) H
theorem W76_wp (v0 : AV) (v1 : AV) (H : Heap) (K : AV → Heap → Prop) : wpC Try.prog tab D76 (bodyOf Try.f76) (retF tab [.tmp 4] K) (nthA [v0, v1]) H = W76 v0 v1 H K := by kernel_rfl
theorem W76_ok {v0 v1 : AV} {H : Heap} {K : AV → Heap → Prop} (h : W76 v0 v1 H K) : CallT Try.prog 76 [v0, v1] H K :=
  CallT.of_wp (D := D76) tab_ok mixed Try.func76 (c := bodyOf Try.f76) (by kernel_rfl) rfl (by kernel_rfl) (rs := #[.tmp 4]) rfl (by decide +kernel) (by kernel_rfl) (W76_wp v0 v1 H K) h
theorem W76_hb : HasBody Try.prog 76 := ⟨_, bodyOf Try.f76, Try.func76, by kernel_rfl, rfl⟩
theorem L76_0_rule {K : AV → Heap → Prop} {v0 v1 v5 : AV} {H : Heap} {σ : Type} (s0 : σ) (f1 : σ → AV) (f5 : σ → AV) (TH : σ → Heap) (pre : σ → Prop) (μ : σ → Nat)
    (h0 : pre s0 ∧ AV.wk v1 (f1 s0) ∧ AV.wk v5 (f5 s0) ∧ Heap.le (TH s0) H)
    (round : ∀ s, pre s → B76_0 K (fun w1 w5 H' => ∃ s', pre s' ∧ μ s' < μ s ∧ AV.wk w1 (f1 s') ∧ AV.wk w5 (f5 s') ∧ Heap.le (TH s') H') v0 (f1 s) (f5 s) (TH s)) :
    L76_0 K v0 v1 v5 H := by
  unfold L76_0
  exact LoopV.mk s0 (fun s => [f1 s, f5 s]) TH pre μ (fun _ => rfl) (Eq.mp (by kernel_rfl) h0) (fun s hs => Eq.mp (by kernel_rfl) (round s hs))
theorem L76_0_ruleG {K : AV → Heap → Prop} {v0 v1 v5 : AV} {H : Heap} {σ : Type} (s0 : σ) (f1 : σ → AV) (f5 : σ → AV) (TH : σ → Heap) (pre : σ → Prop) (μ : σ → Nat)
    (h0 : pre s0 ∧ AV.wk v1 (f1 s0) ∧ AV.wk v5 (f5 s0) ∧ Heap.le (TH s0) H)
    (round : ∀ s, pre s → ∀ q, TH s q = none → B76_0 K (fun w1 w5 H' => ∃ s', pre s' ∧ μ s' < μ s ∧ AV.wk w1 (f1 s') ∧ AV.wk w5 (f5 s') ∧ Heap.le (TH s') H') v0 (f1 s) (f5 s) ((TH s).set q [])) :
    L76_0 K v0 v1 v5 H := by
  unfold L76_0
  exact LoopV.mkG s0 (fun s => [f1 s, f5 s]) TH pre μ (fun _ => rfl) (Eq.mp (by kernel_rfl) h0) (fun s hs q hq => Eq.mp (by kernel_rfl) (round s hs q hq))
/-- loop.example/g00649/spec.l13Goals -/
def D108 : Info := ⟨76, fun i => ([], []), fun i => if i = 3 then ([1, 12, 13], [5, 14]) else if i = 8 then ([1, 5, 6, 7, 12, 13, 14], [8, 9]) else ([], [])⟩
def L108_0 (K : AV → Heap → Prop) (v1 : AV) (v5 : AV) (v12 : AV) (v13 : AV) (v14 : AV) (H : Heap) : Prop := LoopV (wpC Try.prog tab D108 (cAt [1, 1, 0, 1, 0, 0] (bodyOf Try.f108))) [1, 12, 13] (PostF.block 0 (PostF.thenA (wpC Try.prog tab D108 (cAt [1, 1, 1] (bodyOf Try.f108))) (retF tab [.tmp 4] K))) [5, 14] [AV.any, v1, AV.any, AV.any, AV.any, v5, AV.any, AV.any, AV.any, AV.any, AV.any, AV.any, v12, v13, v14, AV.any, AV.any, AV.any, AV.any, AV.any, AV.any, AV.any, AV.any, AV.any, AV.any, AV.any, AV.any, AV.any, AV.any, AV.any, AV.any, AV.any, AV.any, AV.any, AV.any, AV.any, AV.any, AV.any, AV.any, AV.any, AV.any, AV.any, AV.any, AV.any, AV.any, AV.any, AV.any, AV.any, AV.any, AV.any, AV.any, AV.any, AV.any, AV.any, AV.any, AV.any, AV.any, AV.any, AV.any, AV.any, AV.any, AV.any, AV.any, AV.any, AV.any, AV.any, AV.any, AV.any, AV.any, AV.any, AV.any, AV.any, AV.any, AV.any, AV.any, AV.any] H
def L108_1 (K : AV → Heap → Prop) (N1 : AV → AV → Heap → Prop) (v1 : AV) (v5 : AV) (v6 : AV) (v7 : AV) (v8 : AV) (v9 : AV) (v12 : AV) (v13 : AV) (v14 : AV) (H : Heap) : Prop := LoopV (wpC Try.prog tab D108 (cAt [1, 1, 0, 1, 0, 0, 1, 1, 0, 0, 1, 1, 1, 0, 1, 0, 0] (bodyOf Try.f108))) [1, 5, 6, 7, 12, 13, 14] (PostF.block 2 (PostF.thenA (wpC Try.prog tab D108 (cAt [1, 1, 0, 1, 0, 0, 1, 1, 0, 0, 1, 1, 1, 1] (bodyOf Try.f108))) (PostF.block 1 (PostF.thenA (wpC Try.prog tab D108 (cAt [1, 1, 0, 1, 0, 0, 1, 1, 1] (bodyOf Try.f108))) (loopF (PostF.block 0 (PostF.thenA (wpC Try.prog tab D108 (cAt [1, 1, 1] (bodyOf Try.f108))) (retF tab [.tmp 4] K))) (fun e h => N1 (e 5) (e 14) h)))))) [8, 9] [AV.any, v1, AV.any, AV.any, AV.any, v5, v6, v7, v8, v9, AV.any, AV.any, v12, v13, v14, AV.any, AV.any, AV.any, AV.any, AV.any, AV.any, AV.any, AV.any, AV.any, AV.any, AV.any, AV.any, AV.any, AV.any, AV.any, AV.any, AV.any, AV.any, AV.any, AV.any, AV.any, AV.any, AV.any, AV.any, AV.any, AV.any, AV.any, AV.any, AV.any, AV.any, AV.any, AV.any, AV.any, AV.any, AV.any, AV.any, AV.any, AV.any, AV.any, AV.any, AV.any, AV.any, AV.any, AV.any, AV.any, AV.any, AV.any, AV.any, AV.any, AV.any, AV.any, AV.any, AV.any, AV.any, AV.any, AV.any, AV.any, AV.any, AV.any, AV.any, AV.any] H
def J108_2 (K : AV → Heap → Prop) (N1 : AV → AV → Heap → Prop) (N2 : AV → AV → Heap → Prop) (v1 : AV) (v5 : AV) (v6 : AV) (v7 : AV) (v8 : AV) (v9 : AV) (v12 : AV) (v13 : AV) (v14 : AV) (H : Heap) : Prop :=
 buildSliceV tab 24 1 [(0, v9)] H (wkK fun v68 H7 =>
 appendV tab 24 24 v8 v68 H7 (wkK fun v69 H8 =>
 binV tab .add 3 v9 (AV.p (.int .i64 1)) fun v34 =>
 N2 v69 v34 H8))
def J108_3 (K : AV → Heap → Prop) (N1 : AV → AV → Heap → Prop) (N2 : AV → AV → Heap → Prop) (v1 : AV) (v5 : AV) (v6 : AV) (v7 : AV) (v8 : AV) (v9 : AV) (v10 : AV) (v11 : AV) (v12 : AV) (v13 : AV) (v14 : AV) (v58 : AV) (H : Heap) : Prop :=
 grdV v58 true (grdV v10 false (unV .not v11 fun v62 =>
 condV v62 (buildSliceV tab 24 1 [(0, v9)] H (wkK fun v68 H5 =>
 appendV tab 24 24 v8 v68 H5 (wkK fun v69 H6 =>
 binV tab .add 3 v9 (AV.p (.int .i64 1)) fun v34 =>
 N2 v69 v34 H6)))
 (binV tab .add 3 v9 (AV.p (.int .i64 1)) fun v34 =>
 N2 v8 v34 H))
 (J108_2 K N1 N2 v1 v5 v6 v7 v8 v9 v12 v13 v14 H))
 (binV tab .add 3 v9 (AV.p (.int .i64 1)) fun v34 =>
 N2 v8 v34 H)
def B108_1 (K : AV → Heap → Prop) (N1 : AV → AV → Heap → Prop) (N2 : AV → AV → Heap → Prop) (v1 : AV) (v5 : AV) (v6 : AV) (v7 : AV) (v8 : AV) (v9 : AV) (v12 : AV) (v13 : AV) (v14 : AV) (H : Heap) : Prop :=
 lenV tab 24 v1 fun v29 =>
 convV tab 3 90 v29 fun v30 =>
 binV tab .shl 3 (AV.p (.int .i64 1)) v30 fun v31 =>
 binV tab .lss 3 v9 v31 fun v32 =>
 condV v32 (CallT Try.prog 98 [v1, v9, v6] H fun v38 H3 =>
 binV tab .sub 3 v6 (AV.p (.int .i64 1)) fun v42 =>
 CallT Try.prog 98 [v1, v9, v42] H3 fun v43 H4 =>
 fieldAddrV tab 77 v7 0 fun v44 =>
 loadV tab 3 v44 H4 fun v45 =>
 binV tab .eql 3 v45 (AV.p (.int .i64 7)) fun v46 =>
 grdV v46 true (unV .not v38 fun v49 =>
 grdV v49 false (grdV v43 false (fieldAddrV tab 77 v7 0 fun v55 =>
 loadV tab 3 v55 H4 fun v56 =>
 binV tab .eql 3 v56 (AV.p (.int .i64 8)) fun v57 =>
 J108_3 K N1 N2 v1 v5 v6 v7 v8 v9 v38 v43 v12 v13 v14 v57 H4)
 (J108_2 K N1 N2 v1 v5 v6 v7 v8 v9 v12 v13 v14 H4))
 (J108_2 K N1 N2 v1 v5 v6 v7 v8 v9 v12 v13 v14 H4))
 (fieldAddrV tab 77 v7 0 fun v55 =>
 loadV tab 3 v55 H4 fun v56 =>
 binV tab .eql 3 v56 (AV.p (.int .i64 8)) fun v57 =>
 J108_3 K N1 N2 v1 v5 v6 v7 v8 v9 v38 v43 v12 v13 v14 v57 H4))
 (buildSliceV tab 53 1 [(0, v8)] H (wkK fun v72 H9 =>
 appendV tab 53 53 v5 v72 H9 (wkK fun v73 H10 =>
 binV tab .add 3 v14 (AV.p (.int .i64 1)) fun v74 =>
 N1 v73 v74 H10)))
def B108_0 (K : AV → Heap → Prop) (N1 : AV → AV → Heap → Prop) (v1 : AV) (v5 : AV) (v12 : AV) (v13 : AV) (v14 : AV) (H : Heap) : Prop :=
 binV tab .lss 3 v14 v13 fun v15 =>
 condV v15 (indexAddrV tab 27 v12 v14 fun v17 =>
 loadV tab 77 v17 H fun v18 =>
 allocV tab 77 H fun v7 H1 =>
 storeV tab 77 v7 v18 H1 fun H2 =>
 fieldAddrV tab 77 v7 0 fun v19 =>
 loadV tab 3 v19 H2 fun v20 =>
 binV tab .neq 3 v20 (AV.p (.int .i64 7)) fun v21 =>
 grdV v21 true (fieldAddrV tab 77 v7 0 fun v23 =>
 loadV tab 3 v23 H2 fun v24 =>
 binV tab .neq 3 v24 (AV.p (.int .i64 8)) fun v25 =>
 condV v25 (binV tab .add 3 v14 (AV.p (.int .i64 1)) fun v74 =>
 N1 v5 v74 H2)
 (L108_1 K N1 v1 v5 v14 v7 (AV.p .nil) (AV.p (.int .i64 0)) v12 v13 v14 H2))
 (L108_1 K N1 v1 v5 v14 v7 (AV.p .nil) (AV.p (.int .i64 0)) v12 v13 v14 H2))
 (K v5 H)
def W108 (v0 : AV) (v1 : AV) (H : Heap) (K : AV → Heap → Prop) : Prop :=
 lenV tab 27 v0 fun v13 =>
 L108_0 K v1 (AV.p .nil) v0 v13 (AV.p (.int .i64 0)) H
theorem W108_wp (v0 : AV) (v1 : AV) (H : Heap) (K : AV → Heap → Prop) : wpC Try.prog tab D108 (bodyOf Try.f108) (retF tab [.tmp 4] K) (nthA [v0, v1]) H = W108 v0 v1 H K := by kernel_rfl
theorem W108_ok {v0 v1 : AV} {H : Heap} {K : AV → Heap → Prop} (h : W108 v0 v1 H K) : CallT Try.prog 108 [v0, v1] H K :=
  CallT.of_wp (D := D108) tab_ok mixed Try.func108 (c := bodyOf Try.f108) (by kernel_rfl) rfl (by kernel_rfl) (rs := #[.tmp 4]) rfl (by decide +kernel) (by kernel_rfl) (W108_wp v0 v1 H K) h
theorem W108_hb : HasBody Try.prog 108 := ⟨_, bodyOf Try.f108, Try.func108, by kernel_rfl, rfl⟩
theorem L108_1_rule {K : AV → Heap → Prop} {N1 : AV → AV → Heap → Prop} {v1 v5 v6 v7 v8 v9 v12 v13 v14 : AV} {H : Heap} {σ : Type} (s0 : σ) (f8 : σ → AV) (f9 : σ → AV) (TH : σ → Heap) (pre : σ → Prop) (μ : σ → Nat)
    (h0 : pre s0 ∧ AV.wk v8 (f8 s0) ∧ AV.wk v9 (f9 s0) ∧ Heap.le (TH s0) H)
    (round : ∀ s, pre s → B108_1 K N1 (fun w8 w9 H' => ∃ s', pre s' ∧ μ s' < μ s ∧ AV.wk w8 (f8 s') ∧ AV.wk w9 (f9 s') ∧ Heap.le (TH s') H') v1 v5 v6 v7 (f8 s) (f9 s) v12 v13 v14 (TH s)) :
    L108_1 K N1 v1 v5 v6 v7 v8 v9 v12 v13 v14 H := by
  unfold L108_1
  exact LoopV.mk s0 (fun s => [f8 s, f9 s]) TH pre μ (fun _ => rfl) (Eq.mp (by kernel_rfl) h0) (fun s hs => Eq.mp (by kernel_rfl) (round s hs))
theorem L108_1_ruleG {K : AV → Heap → Prop} {N1 : AV → AV → Heap → Prop} {v1 v5 v6 v7 v8 v9 v12 v13 v14 : AV} {H : Heap} {σ : Type} (s0 : σ) (f8 : σ → AV) (f9 : σ → AV) (TH : σ → Heap) (pre : σ → Prop) (μ : σ → Nat)
    (h0 : pre s0 ∧ AV.wk v8 (f8 s0) ∧ AV.wk v9 (f9 s0) ∧ Heap.le (TH s0) H)
    (round : ∀ s, pre s → ∀ q, TH s q = none → B108_1 K N1 (fun w8 w9 H' => ∃ s', pre s' ∧ μ s' < μ s ∧ AV.wk w8 (f8 s') ∧ AV.wk w9 (f9 s') ∧ Heap.le (TH s') H') v1 v5 v6 v7 (f8 s) (f9 s) v12 v13 v14 ((TH s).set q [])) :
    L108_1 K N1 v1 v5 v6 v7 v8 v9 v12 v13 v14 H := by
  unfold L108_1
  exact LoopV.mkG s0 (fun s => [f8 s, f9 s]) TH pre μ (fun _ => rfl) (Eq.mp (by kernel_rfl) h0) (fun s hs q hq => Eq.mp (by kernel_rfl) (round s hs q hq))
theorem L108_0_rule {K : AV → Heap → Prop} {v1 v5 v12 v13 v14 : AV} {H : Heap} {σ : Type} (s0 : σ) (f5 : σ → AV) (f14 : σ → AV) (TH : σ → Heap) (pre : σ → Prop) (μ : σ → Nat)
    (h0 : pre s0 ∧ AV.wk v5 (f5 s0) ∧ AV.wk v14 (f14 s0) ∧ Heap.le (TH s0) H)
    (round : ∀ s, pre s → B108_0 K (fun w5 w14 H' => ∃ s', pre s' ∧ μ s' < μ s ∧ AV.wk w5 (f5 s') ∧ AV.wk w14 (f14 s') ∧ Heap.le (TH s') H') v1 (f5 s) v12 v13 (f14 s) (TH s)) :
    L108_0 K v1 v5 v12 v13 v14 H := by
  unfold L108_0
  exact LoopV.mk s0 (fun s => [f5 s, f14 s]) TH pre μ (fun _ => rfl) (Eq.mp (by kernel_rfl) h0) (fun s hs => Eq.mp (by kernel_rfl) (round s hs))
theorem L108_0_ruleG {K : AV → Heap → Prop} {v1 v5 v12 v13 v14 : AV} {H : Heap} {σ : Type} (s0 : σ) (f5 : σ → AV) (f14 : σ → AV) (TH : σ → Heap) (pre : σ → Prop) (μ : σ → Nat)
    (h0 : pre s0 ∧ AV.wk v5 (f5 s0) ∧ AV.wk v14 (f14 s0) ∧ Heap.le (TH s0) H)
    (round : ∀ s, pre s → ∀ q, TH s q = none → B108_0 K (fun w5 w14 H' => ∃ s', pre s' ∧ μ s' < μ s ∧ AV.wk w5 (f5 s') ∧ AV.wk w14 (f14 s') ∧ Heap.le (TH s') H') v1 (f5 s) v12 v13 (f14 s) ((TH s).set q [])) :
    L108_0 K v1 v5 v12 v13 v14 H := by
  unfold L108_0
  exact LoopV.mkG s0 (fun s => [f5 s, f14 s]) TH pre μ (fun _ => rfl) (Eq.mp (by kernel_rfl) h0) (fun s hs q hq => Eq.mp (by kernel_rfl) (round s hs q hq))
end Go.Proofs.Ytoeabliackaibaa
