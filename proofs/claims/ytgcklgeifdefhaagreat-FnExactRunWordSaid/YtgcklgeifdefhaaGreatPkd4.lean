/- Texts laid together: W20 W21. -/
import Derived.Test.YtgcklgeifdefhaaGreatPkd3
import Derived.KernelRfl
set_option linter.unusedVariables false
set_option linter.unusedSimpArgs false
open Nat renaming reduceAdd → ν1, reduceLeDiff → ν2, reduceLT → ν3, reduceMul → ν4, reduceSub → ν5
open Int renaming reduceToNat → ι1, reduceSub → ι2, reduceAdd → ι3, reduceNeg → ι4
open Array renaming toList → ι5
open Ne renaming symm → ν6
open List renaming forall_mem_cons → ν7
namespace Go.Proofs.YtgcklgeifdefhaaGreat
open Go Go.Sep
attribute [local irreducible] wpC headF
def D6 : Info := ⟨138, fun i => if i = 16 then ([[], [], [1], [0, 1, 2], [0, 1, 2, 3]], [(0, []), (1, []), (2, [0]), (3, []), (4, [])]) else ([], []), fun i => ([], [])⟩
def W6 (v0 : AV) (v1 : AV) (v2 : AV) (H : Heap) (K : AV → Heap → Prop) : Prop :=
 boxV v0 H fun v3 H1 =>
 lenV tab 46 v1 fun v21 =>
 binV tab .gtr 3 v21 (AV.p (.int .i64 1048576)) fun v22 =>
 condV v22 (K (AV.p (.bool true)) H1)
 (lenV tab 46 v2 fun v24 =>
 binV tab .gtr 3 v24 (AV.p (.int .i64 1048576)) fun v25 =>
 condV v25 (K (AV.p (.bool true)) H1)
 (loadV tab 29 v3 H1 fun v26 =>
 CallT Tryz.prog 8 [v26, (AV.p (.int .i64 1048576))] H1 fun v28 H2 =>
 binV tab .lss 3 v28 (AV.p (.int .i64 0)) fun v30 =>
 condV v30 (K (AV.p (.bool true)) H2)
 (loadV tab 29 v3 H2 fun v32 =>
 CallT Tryz.prog 10 [v32] H2 fun v33 H3 =>
 CallT Tryz.prog 16 [v1] H3 fun v35 H4 =>
 CallT Tryz.prog 16 [v2] H4 fun v37 H5 =>
 CallT Tryz.prog 19 [v33, v35, v37] H5 fun v38 H6 =>
 extractV v38 0 fun v39 =>
 extractV v38 1 fun v40 =>
 allocV tab 53 H6 fun v8 H7 =>
 storeV tab 53 v8 v39 H7 fun H8 =>
 loadV tab 29 v3 H8 fun v41 =>
 CallT Tryz.prog 10 [v41] H8 fun v42 H9 =>
 allocV tab 39 H9 fun v10 H10 =>
 storeV tab 39 v10 v42 H10 fun H11 =>
 CallT Tryz.prog 16 [v1] H11 fun v44 H12 =>
 CallT Tryz.prog 16 [v2] H12 fun v46 H13 =>
 loadV tab 39 v10 H13 fun v48 =>
 CallT Tryz.prog 20 [v48, v44, v46] H13 fun v51 H14 =>
 extractV v51 0 fun v52 =>
 extractV v51 1 fun v53 =>
 allocV tab 53 H14 fun v13 H15 =>
 storeV tab 53 v13 v52 H15 fun H16 =>
 loadV tab 53 v13 H16 fun v54 =>
 loadV tab 53 v8 H16 fun v55 =>
 CallT Tryz.prog 21 [v54, v55] H16 fun v56 H17 =>
 unV .not v56 fun v57 =>
 grdV v57 false (binV tab .neq 4 v53 v40 fun v61 =>
 condV v61 (K (AV.p (.bool false)) H17)
 (loadV tab 39 v10 H17 fun v63 =>
 loadV tab 29 v3 H17 fun v64 =>
 CallT Tryz.prog 10 [v64] H17 fun v65 H18 =>
 (loadV tab 39 v10 H18 fun v9063 =>
 v63 = v9063) ∧
 CallT Tryz.prog 12 [v63, v65] H18 fun v66 H19 =>
 unV .not v66 fun v67 =>
 condV v67 (K (AV.p (.bool false)) H19)
 (CallT Tryz.prog 16 [v1] H19 fun v70 H20 =>
 CallT Tryz.prog 18 [v44, v70] H20 fun v71 H21 =>
 unV .not v71 fun v72 =>
 condV v72 (K (AV.p (.bool false)) H21)
 (CallT Tryz.prog 16 [v2] H21 fun v75 H22 =>
 CallT Tryz.prog 18 [v46, v75] H22 fun v76 H23 =>
 unV .not v76 fun v77 =>
 condV v77 (K (AV.p (.bool false)) H23)
 (loadV tab 39 v10 H23 fun v78 =>
 CallT Tryz.prog 22 [v78, (AV.p (.int .i64 1))] H23 fun v80 H24 =>
 CallT Tryz.prog 23 [v44, v80] H24 fun v83 H25 =>
 CallT Tryz.prog 23 [v46, v83] H25 fun v86 H26 =>
 binV tab .lss 3 v86 (AV.p (.int .i64 0)) fun v88 =>
 grdV v88 false (loadV tab 53 v13 H26 fun v90 =>
 loadV tab 53 v8 H26 fun v91 =>
 CallT Tryz.prog 21 [v90, v91] H26 fun v92 H27 =>
 unV .not v92 fun v93 =>
 grdV v93 false (binV tab .neq 4 v53 v40 fun v98 =>
 condV v98 (K (AV.p (.bool false)) H27)
 (loadV tab 53 v13 H27 fun v100 =>
 CallT Tryz.prog 24 [v100, (AV.p (.int .i64 1))] H27 fun v102 H28 =>
 loadV tab 53 v13 H28 fun v103 =>
 CallT Tryz.prog 25 [v103, (AV.p (.int .i64 1))] H28 fun v105 H29 =>
 binV tab .lss 3 v105 (AV.p (.int .i64 0)) fun v107 =>
 condV v107 (K (AV.p (.bool false)) H29)
 (binV tab .neq 3 v105 v102 fun v110 =>
 condV v110 (K (AV.p (.bool false)) H29)
 (loadV tab 29 v3 H29 fun v112 =>
 CallT Tryz.prog 10 [v112] H29 fun v113 H30 =>
 CallT Tryz.prog 16 [v1] H30 fun v115 H31 =>
 CallT Tryz.prog 16 [v2] H31 fun v117 H32 =>
 CallT Tryz.prog 20 [v113, v115, v117] H32 fun v118 H33 =>
 extractV v118 0 fun v119 =>
 extractV v118 1 fun v120 =>
 allocV tab 53 H33 fun v18 H34 =>
 storeV tab 53 v18 v119 H34 fun H35 =>
 loadV tab 53 v18 H35 fun v121 =>
 loadV tab 53 v8 H35 fun v122 =>
 CallT Tryz.prog 21 [v121, v122] H35 fun v123 H36 =>
 unV .not v123 fun v124 =>
 grdV v124 false (binV tab .neq 4 v120 v40 fun v128 =>
 condV v128 (K (AV.p (.bool false)) H36)
 (loadV tab 53 v13 H36 fun v130 =>
 CallT Tryz.prog 25 [v130, (AV.p (.int .i64 1))] H36 fun v132 H37 =>
 binV tab .lss 3 v132 (AV.p (.int .i64 0)) fun v134 =>
 condV v134 (K (AV.p (.bool false)) H37)
 (binV tab .neq 3 v132 v102 fun v137 =>
 condV v137 (K (AV.p (.bool false)) H37)
 (K (AV.p (.bool true)) H37))))
 (K (AV.p (.bool false)) H36)))))
 (K (AV.p (.bool false)) H27))
 (K (AV.p (.bool false)) H26))))))
 (K (AV.p (.bool false)) H17))))
theorem W6_wp (v0 : AV) (v1 : AV) (v2 : AV) (H : Heap) (K : AV → Heap → Prop) : wpC Tryz.prog tab D6 (bodyOf Tryz.f6) (retF tab [.tmp 6] K) (nthA [v0, v1, v2]) H = W6 v0 v1 v2 H K := by kernel_rfl
theorem W6_ok {v0 v1 v2 : AV} {H : Heap} {K : AV → Heap → Prop} (h : W6 v0 v1 v2 H K) : CallT Tryz.prog 6 [v0, v1, v2] H K :=
  CallT.of_wp (D := D6) tab_ok mixed Tryz.func6 (c := bodyOf Tryz.f6) (by kernel_rfl) rfl (by kernel_rfl) (rs := #[.tmp 6]) rfl (by decide +kernel) (by kernel_rfl) (W6_wp v0 v1 v2 H K) h
def D8 : Info := ⟨24, fun i => ([], []), fun i => ([], [])⟩
def W8 (v0 : AV) (v1 : AV) (H : Heap) (K : AV → Heap → Prop) : Prop :=
 boxV v0 H fun v2 H1 =>
 fieldAddrV tab 29 v2 0 fun v5 =>
 loadV tab 25 v5 H1 fun v6 =>
 CallT Tryz.prog 35 [v6, v1] H1 fun v8 H2 =>
 binV tab .lss 3 v8 (AV.p (.int .i64 0)) fun v10 =>
 condV v10 (K (AV.p (.int .i64 (-1))) H2)
 (fieldAddrV tab 29 v2 1 fun v11 =>
 loadV tab 26 v11 H2 fun v12 =>
 CallT Tryz.prog 36 [v12, v8] H2 fun v14 H3 =>
 binV tab .lss 3 v14 (AV.p (.int .i64 0)) fun v16 =>
 condV v16 (K (AV.p (.int .i64 (-1))) H3)
 (fieldAddrV tab 29 v2 2 fun v17 =>
 loadV tab 27 v17 H3 fun v18 =>
 CallT Tryz.prog 37 [v18, v14] H3 fun v20 H4 =>
 binV tab .lss 3 v20 (AV.p (.int .i64 0)) fun v22 =>
 condV v22 (K (AV.p (.int .i64 (-1))) H4)
 (K v20 H4)))
theorem W8_wp (v0 : AV) (v1 : AV) (H : Heap) (K : AV → Heap → Prop) : wpC Tryz.prog tab D8 (bodyOf Tryz.f8) (retF tab [.tmp 4] K) (nthA [v0, v1]) H = W8 v0 v1 H K := by kernel_rfl
theorem W8_ok {v0 v1 : AV} {H : Heap} {K : AV → Heap → Prop} (h : W8 v0 v1 H K) : CallT Tryz.prog 8 [v0, v1] H K :=
  CallT.of_wp (D := D8) tab_ok mixed Tryz.func8 (c := bodyOf Tryz.f8) (by kernel_rfl) rfl (by kernel_rfl) (rs := #[.tmp 4]) rfl (by decide +kernel) (by kernel_rfl) (W8_wp v0 v1 H K) h
def D9 : Info := ⟨34, fun i => ([], []), fun i => if i = 4 then ([1, 22, 23], [24]) else ([], [])⟩
def L9_0 (K : AV → Heap → Prop) (v1 : AV) (v22 : AV) (v23 : AV) (v24 : AV) (H : Heap) : Prop := LoopV (wpC Tryz.prog tab D9 (cAt [1, 1, 0, 1, 0, 0] (bodyOf Tryz.f9))) [1, 22, 23] (PostF.block 0 (PostF.thenA (wpC Tryz.prog tab D9 (cAt [1, 1, 1] (bodyOf Tryz.f9))) (retF tab [.tmp 2] K))) [24] [AV.any, v1, AV.any, AV.any, AV.any, AV.any, AV.any, AV.any, AV.any, AV.any, AV.any, AV.any, AV.any, AV.any, AV.any, AV.any, AV.any, AV.any, AV.any, AV.any, AV.any, AV.any, v22, v23, v24, AV.any, AV.any, AV.any, AV.any, AV.any, AV.any, AV.any, AV.any, AV.any] H
def B9_0 (K : AV → Heap → Prop) (N1 : AV → Heap → Prop) (v1 : AV) (v22 : AV) (v23 : AV) (v24 : AV) (H : Heap) : Prop :=
 binV tab .lss 3 v24 v23 fun v25 =>
 condV v25 (indexAddrV tab 36 v22 v24 fun v26 =>
 loadV tab 32 v26 H fun v27 =>
 fieldAddrV tab 39 v1 0 fun v28 =>
 loadV tab 35 v28 H fun v29 =>
 CallT Tryz.prog 40 [v29, v27] H fun v31 H4 =>
 unV .not v31 fun v32 =>
 condV v32 (K (AV.p (.bool false)) H4)
 (binV tab .add 3 v24 (AV.p (.int .i64 1)) fun v33 =>
 N1 v33 H4))
 (K (AV.p (.bool true)) H)
def W9 (v0 : AV) (H : Heap) (K : AV → Heap → Prop) : Prop :=
 boxV v0 H fun v1 H1 =>
 fieldAddrV tab 39 v1 0 fun v5 =>
 loadV tab 35 v5 H1 fun v6 =>
 CallT Tryz.prog 38 [v6] H1 fun v7 H2 =>
 unV .not v7 fun v8 =>
 grdV v8 false (fieldAddrV tab 39 v1 1 fun v10 =>
 loadV tab 36 v10 H2 fun v11 =>
 lenV tab 36 v11 fun v12 =>
 binV tab .neq 3 v12 (AV.p (.int .i64 3)) fun v13 =>
 grdV v13 false (fieldAddrV tab 39 v1 2 fun v16 =>
 loadV tab 37 v16 H2 fun v17 =>
 CallT Tryz.prog 39 [v17] H2 fun v18 H3 =>
 unV .not v18 fun v19 =>
 condV v19 (K (AV.p (.bool false)) H3)
 (fieldAddrV tab 39 v1 1 fun v21 =>
 loadV tab 36 v21 H3 fun v22 =>
 lenV tab 36 v22 fun v23 =>
 L9_0 K v1 v22 v23 (AV.p (.int .i64 0)) H3))
 (K (AV.p (.bool false)) H2))
 (K (AV.p (.bool false)) H2)
theorem W9_wp (v0 : AV) (H : Heap) (K : AV → Heap → Prop) : wpC Tryz.prog tab D9 (bodyOf Tryz.f9) (retF tab [.tmp 2] K) (nthA [v0]) H = W9 v0 H K := by kernel_rfl
theorem W9_ok {v0 : AV} {H : Heap} {K : AV → Heap → Prop} (h : W9 v0 H K) : CallT Tryz.prog 9 [v0] H K :=
  CallT.of_wp (D := D9) tab_ok mixed Tryz.func9 (c := bodyOf Tryz.f9) (by kernel_rfl) rfl (by kernel_rfl) (rs := #[.tmp 2]) rfl (by decide +kernel) (by kernel_rfl) (W9_wp v0 H K) h
theorem L9_0_rule {K : AV → Heap → Prop} {v1 v22 v23 v24 : AV} {H : Heap} {σ : Type} (s0 : σ) (f24 : σ → AV) (TH : σ → Heap) (pre : σ → Prop) (μ : σ → Nat)
    (h0 : pre s0 ∧ AV.wk v24 (f24 s0) ∧ Heap.le (TH s0) H)
    (round : ∀ s, pre s → B9_0 K (fun w24 H' => ∃ s', pre s' ∧ μ s' < μ s ∧ AV.wk w24 (f24 s') ∧ Heap.le (TH s') H') v1 v22 v23 (f24 s) (TH s)) :
    L9_0 K v1 v22 v23 v24 H := by
  unfold L9_0
  exact LoopV.mk s0 (fun s => [f24 s]) TH pre μ (fun _ => rfl) (Eq.mp (by kernel_rfl) h0) (fun s hs => Eq.mp (by kernel_rfl) (round s hs))
def D10 : Info := ⟨17, fun i => ([], []), fun i => ([], [])⟩
def W10 (v0 : AV) (H : Heap) (K : AV → Heap → Prop) : Prop :=
 boxV v0 H fun v1 H1 =>
 allocV tab 39 H1 fun v2 H2 =>
 allocV tab 39 H2 fun v3 H3 =>
 fieldAddrV tab 29 v1 0 fun v4 =>
 loadV tab 25 v4 H3 fun v5 =>
 CallT Tryz.prog 41 [v5] H3 fun v6 H4 =>
 fieldAddrV tab 39 v3 0 fun v7 =>
 storeV tab 35 v7 v6 H4 fun H5 =>
 fieldAddrV tab 29 v1 1 fun v8 =>
 loadV tab 26 v8 H5 fun v9 =>
 CallT Tryz.prog 42 [v9] H5 fun v10 H6 =>
 fieldAddrV tab 39 v3 1 fun v11 =>
 storeV tab 36 v11 v10 H6 fun H7 =>
 fieldAddrV tab 29 v1 2 fun v12 =>
 loadV tab 27 v12 H7 fun v13 =>
 CallT Tryz.prog 43 [v13] H7 fun v14 H8 =>
 fieldAddrV tab 39 v3 2 fun v15 =>
 storeV tab 37 v15 v14 H8 fun H9 =>
 loadV tab 39 v3 H9 fun v16 =>
 storeV tab 39 v2 v16 H9 fun H10 =>
 loadV tab 39 v2 H10 fun r0 =>
 K r0 H10
theorem W10_wp (v0 : AV) (H : Heap) (K : AV → Heap → Prop) : wpC Tryz.prog tab D10 (bodyOf Tryz.f10) (retF tab [.cell 2 39] K) (nthA [v0]) H = W10 v0 H K := by kernel_rfl
theorem W10_ok {v0 : AV} {H : Heap} {K : AV → Heap → Prop} (h : W10 v0 H K) : CallT Tryz.prog 10 [v0] H K :=
  CallT.of_wp (D := D10) tab_ok mixed Tryz.func10 (c := bodyOf Tryz.f10) (by kernel_rfl) rfl (by kernel_rfl) (rs := #[.cell 2 39]) rfl (by decide +kernel) (by kernel_rfl) (W10_wp v0 H K) h
def D11 : Info := ⟨24, fun i => ([], []), fun i => ([], [])⟩
def W11 (v0 : AV) (H : Heap) (K : AV → Heap → Prop) : Prop :=
 boxV v0 H fun v1 H1 =>
 fieldAddrV tab 39 v1 0 fun v3 =>
 loadV tab 35 v3 H1 fun v4 =>
 CallT Tryz.prog 44 [v4] H1 fun v5 H2 =>
 unV .not v5 fun v6 =>
 grdV v6 false (fieldAddrV tab 39 v1 1 fun v8 =>
 loadV tab 36 v8 H2 fun v9 =>
 lenV tab 36 v9 fun v10 =>
 binV tab .neq 3 v10 (AV.p (.int .i64 3)) fun v11 =>
 grdV v11 false (fieldAddrV tab 39 v1 2 fun v14 =>
 loadV tab 37 v14 H2 fun v15 =>
 CallT Tryz.prog 45 [v15] H2 fun v16 H3 =>
 unV .not v16 fun v17 =>
 condV v17 (K (AV.p (.bool false)) H3)
 (fieldAddrV tab 39 v1 1 fun v19 =>
 loadV tab 36 v19 H3 fun v20 =>
 CallT Tryz.prog 46 [v20, (.fn 47 [v1])] H3 fun v22 H4 =>
 unV .not v22 fun v23 =>
 K v23 H4))
 (K (AV.p (.bool false)) H2))
 (K (AV.p (.bool false)) H2)
theorem W11_wp (v0 : AV) (H : Heap) (K : AV → Heap → Prop) : wpC Tryz.prog tab D11 (bodyOf Tryz.f11) (retF tab [.tmp 2] K) (nthA [v0]) H = W11 v0 H K := by kernel_rfl
theorem W11_ok {v0 : AV} {H : Heap} {K : AV → Heap → Prop} (h : W11 v0 H K) : CallT Tryz.prog 11 [v0] H K :=
  CallT.of_wp (D := D11) tab_ok mixed Tryz.func11 (c := bodyOf Tryz.f11) (by kernel_rfl) rfl (by kernel_rfl) (rs := #[.tmp 2]) rfl (by decide +kernel) (by kernel_rfl) (W11_wp v0 H K) h
def D12 : Info := ⟨23, fun i => ([], []), fun i => ([], [])⟩
def W12 (v0 : AV) (v1 : AV) (H : Heap) (K : AV → Heap → Prop) : Prop :=
 boxV v0 H fun v2 H1 =>
 boxV v1 H1 fun v3 H2 =>
 fieldAddrV tab 39 v2 0 fun v5 =>
 loadV tab 35 v5 H2 fun v6 =>
 fieldAddrV tab 39 v3 0 fun v7 =>
 loadV tab 35 v7 H2 fun v8 =>
 CallT Tryz.prog 49 [v6, v8] H2 fun v9 H3 =>
 unV .not v9 fun v10 =>
 condV v10 (K (AV.p (.bool false)) H3)
 (fieldAddrV tab 39 v2 1 fun v11 =>
 loadV tab 36 v11 H3 fun v12 =>
 fieldAddrV tab 39 v3 1 fun v13 =>
 loadV tab 36 v13 H3 fun v14 =>
 CallT Tryz.prog 50 [v12, v14] H3 fun v15 H4 =>
 unV .not v15 fun v16 =>
 condV v16 (K (AV.p (.bool false)) H4)
 (fieldAddrV tab 39 v2 2 fun v17 =>
 loadV tab 37 v17 H4 fun v18 =>
 fieldAddrV tab 39 v3 2 fun v19 =>
 loadV tab 37 v19 H4 fun v20 =>
 CallT Tryz.prog 51 [v18, v20] H4 fun v21 H5 =>
 unV .not v21 fun v22 =>
 condV v22 (K (AV.p (.bool false)) H5)
 (K (AV.p (.bool true)) H5)))
theorem W12_wp (v0 : AV) (v1 : AV) (H : Heap) (K : AV → Heap → Prop) : wpC Tryz.prog tab D12 (bodyOf Tryz.f12) (retF tab [.tmp 4] K) (nthA [v0, v1]) H = W12 v0 v1 H K := by kernel_rfl
theorem W12_ok {v0 v1 : AV} {H : Heap} {K : AV → Heap → Prop} (h : W12 v0 v1 H K) : CallT Tryz.prog 12 [v0, v1] H K :=
  CallT.of_wp (D := D12) tab_ok mixed Tryz.func12 (c := bodyOf Tryz.f12) (by kernel_rfl) rfl (by kernel_rfl) (rs := #[.tmp 4]) rfl (by decide +kernel) (by kernel_rfl) (W12_wp v0 v1 H K) h
def D15 : Info := ⟨17, fun i => ([], []), fun i => ([], [])⟩
def W15 (v0 : AV) (v1 : AV) (v2 : AV) (H : Heap) (K : AV → Heap → Prop) : Prop :=
 boxV v0 H fun v3 H1 =>
 loadV tab 39 v3 H1 fun v8 =>
 CallT Tryz.prog 57 [v8, v1, v2] H1 fun v11 H2 =>
 unV .not v11 fun v12 =>
 condV v12 (K (.tup [(AV.p (.bool false)), (AV.p (.bool false))]) H2)
 (loadV tab 39 v3 H2 fun v13 =>
 CallT Tryz.prog 58 [v13, v1, v2] H2 fun v16 H3 =>
 K (.tup [v16, (AV.p (.bool true))]) H3)
theorem W15_wp (v0 : AV) (v1 : AV) (v2 : AV) (H : Heap) (K : AV → Heap → Prop) : wpC Tryz.prog tab D15 (bodyOf Tryz.f15) (retF tab [.tmp 6, .tmp 7] K) (nthA [v0, v1, v2]) H = W15 v0 v1 v2 H K := by kernel_rfl
theorem W15_ok {v0 v1 v2 : AV} {H : Heap} {K : AV → Heap → Prop} (h : W15 v0 v1 v2 H K) : CallT Tryz.prog 15 [v0, v1, v2] H K :=
  CallT.of_wp (D := D15) tab_ok mixed Tryz.func15 (c := bodyOf Tryz.f15) (by kernel_rfl) rfl (by kernel_rfl) (rs := #[.tmp 6, .tmp 7]) rfl (by decide +kernel) (by kernel_rfl) (W15_wp v0 v1 v2 H K) h
def D16 : Info := ⟨22, fun i => ([], []), fun i => if i = 3 then ([0, 3], [4]) else ([], [])⟩
def L16_0 (K : AV → Heap → Prop) (v0 : AV) (v3 : AV) (v4 : AV) (H : Heap) : Prop := LoopV (wpC Tryz.prog tab D16 (cAt [1, 1, 0, 1, 0, 0] (bodyOf Tryz.f16))) [0, 3] (PostF.block 0 (PostF.thenA (wpC Tryz.prog tab D16 (cAt [1, 1, 1] (bodyOf Tryz.f16))) (retF tab [.tmp 2] K))) [4] [v0, AV.any, AV.any, v3, v4, AV.any, AV.any, AV.any, AV.any, AV.any, AV.any, AV.any, AV.any, AV.any, AV.any, AV.any, AV.any, AV.any, AV.any, AV.any, AV.any, AV.any] H
def B16_0 (K : AV → Heap → Prop) (N1 : AV → Heap → Prop) (v0 : AV) (v3 : AV) (v4 : AV) (H : Heap) : Prop :=
 lenV tab 46 v0 fun v10 =>
 binV tab .lss 3 v4 v10 fun v11 =>
 condV v11 (indexAddrV tab 46 v0 v4 fun v18 =>
 loadV tab 3 v18 H fun v19 =>
 indexAddrV tab 46 v3 v4 fun v20 =>
 storeV tab 3 v20 v19 H fun H2 =>
 binV tab .add 3 v4 (AV.p (.int .i64 1)) fun v13 =>
 N1 v13 H2)
 (K v3 H)
def W16 (v0 : AV) (H : Heap) (K : AV → Heap → Prop) : Prop :=
 lenV tab 46 v0 fun v6 =>
 makeSliceV tab 46 v6 v6 H fun v7 H1 =>
 L16_0 K v0 v7 (AV.p (.int .i64 0)) H1
theorem W16_wp (v0 : AV) (H : Heap) (K : AV → Heap → Prop) : wpC Tryz.prog tab D16 (bodyOf Tryz.f16) (retF tab [.tmp 2] K) (nthA [v0]) H = W16 v0 H K := by kernel_rfl
theorem W16_ok {v0 : AV} {H : Heap} {K : AV → Heap → Prop} (h : W16 v0 H K) : CallT Tryz.prog 16 [v0] H K :=
  CallT.of_wp (D := D16) tab_ok mixed Tryz.func16 (c := bodyOf Tryz.f16) (by kernel_rfl) rfl (by kernel_rfl) (rs := #[.tmp 2]) rfl (by decide +kernel) (by kernel_rfl) (W16_wp v0 H K) h
theorem L16_0_rule {K : AV → Heap → Prop} {v0 v3 v4 : AV} {H : Heap} {σ : Type} (s0 : σ) (f4 : σ → AV) (TH : σ → Heap) (pre : σ → Prop) (μ : σ → Nat)
    (h0 : pre s0 ∧ AV.wk v4 (f4 s0) ∧ Heap.le (TH s0) H)
    (round : ∀ s, pre s → B16_0 K (fun w4 H' => ∃ s', pre s' ∧ μ s' < μ s ∧ AV.wk w4 (f4 s') ∧ Heap.le (TH s') H') v0 v3 (f4 s) (TH s)) :
    L16_0 K v0 v3 v4 H := by
  unfold L16_0
  exact LoopV.mk s0 (fun s => [f4 s]) TH pre μ (fun _ => rfl) (Eq.mp (by kernel_rfl) h0) (fun s hs => Eq.mp (by kernel_rfl) (round s hs))
def D18 : Info := ⟨26, fun i => if i = 6 then ([[], [], [0, 1], [0, 1, 2], [], [], [4, 5], [4, 5, 6], [0, 1, 2, 3, 4, 5, 6, 7]], [(0, []), (1, []), (2, []), (3, []), (4, []), (5, []), (6, []), (7, []), (8, [])]) else ([], []), fun i => if i = 4 then ([0, 1], [5]) else ([], [])⟩
def L18_0 (K : AV → Heap → Prop) (v0 : AV) (v1 : AV) (v5 : AV) (H : Heap) : Prop := LoopV (wpC Tryz.prog tab D18 (cAt [1, 1, 0, 1, 0, 0] (bodyOf Tryz.f18))) [0, 1] (PostF.block 0 (PostF.thenA (wpC Tryz.prog tab D18 (cAt [1, 1, 1] (bodyOf Tryz.f18))) (retF tab [.tmp 4] K))) [5] [v0, v1, AV.any, AV.any, AV.any, v5, AV.any, AV.any, AV.any, AV.any, AV.any, AV.any, AV.any, AV.any, AV.any, AV.any, AV.any, AV.any, AV.any, AV.any, AV.any, AV.any, AV.any, AV.any, AV.any, AV.any] H
def B18_0 (K : AV → Heap → Prop) (N1 : AV → Heap → Prop) (v0 : AV) (v1 : AV) (v5 : AV) (H : Heap) : Prop :=
 lenV tab 46 v0 fun v13 =>
 binV tab .lss 3 v5 v13 fun v14 =>
 condV v14 (indexAddrV tab 46 v0 v5 fun v19 =>
 loadV tab 3 v19 H fun v20 =>
 indexAddrV tab 46 v1 v5 fun v23 =>
 loadV tab 3 v23 H fun v24 =>
 binV tab .neq 3 v20 v24 fun v25 =>
 condV v25 (K (AV.p (.bool false)) H)
 (binV tab .add 3 v5 (AV.p (.int .i64 1)) fun v16 =>
 N1 v16 H))
 (K (AV.p (.bool true)) H)
def W18 (v0 : AV) (v1 : AV) (H : Heap) (K : AV → Heap → Prop) : Prop :=
 lenV tab 46 v0 fun v7 =>
 lenV tab 46 v1 fun v9 =>
 binV tab .neq 3 v7 v9 fun v10 =>
 condV v10 (K (AV.p (.bool false)) H)
 (L18_0 K v0 v1 (AV.p (.int .i64 0)) H)
theorem W18_wp (v0 : AV) (v1 : AV) (H : Heap) (K : AV → Heap → Prop) : wpC Tryz.prog tab D18 (bodyOf Tryz.f18) (retF tab [.tmp 4] K) (nthA [v0, v1]) H = W18 v0 v1 H K := by kernel_rfl
theorem W18_ok {v0 v1 : AV} {H : Heap} {K : AV → Heap → Prop} (h : W18 v0 v1 H K) : CallT Tryz.prog 18 [v0, v1] H K :=
  CallT.of_wp (D := D18) tab_ok mixed Tryz.func18 (c := bodyOf Tryz.f18) (by kernel_rfl) rfl (by kernel_rfl) (rs := #[.tmp 4]) rfl (by decide +kernel) (by kernel_rfl) (W18_wp v0 v1 H K) h
theorem L18_0_rule {K : AV → Heap → Prop} {v0 v1 v5 : AV} {H : Heap} {σ : Type} (s0 : σ) (f5 : σ → AV) (TH : σ → Heap) (pre : σ → Prop) (μ : σ → Nat)
    (h0 : pre s0 ∧ AV.wk v5 (f5 s0) ∧ Heap.le (TH s0) H)
    (round : ∀ s, pre s → B18_0 K (fun w5 H' => ∃ s', pre s' ∧ μ s' < μ s ∧ AV.wk w5 (f5 s') ∧ Heap.le (TH s') H') v0 v1 (f5 s) (TH s)) :
    L18_0 K v0 v1 v5 H := by
  unfold L18_0
  exact LoopV.mk s0 (fun s => [f5 s]) TH pre μ (fun _ => rfl) (Eq.mp (by kernel_rfl) h0) (fun s hs => Eq.mp (by kernel_rfl) (round s hs))
def D19 : Info := ⟨31, fun i => ([], []), fun i => ([], [])⟩
def W19 (v0 : AV) (v1 : AV) (v2 : AV) (H : Heap) (K : AV → Heap → Prop) : Prop :=
 boxV v0 H fun v3 H1 =>
 allocV tab 53 H1 fun v6 H2 =>
 loadV tab 39 v3 H2 fun v11 =>
 CallT Tryz.prog 15 [v11, v1, v2] H2 fun v14 H3 =>
 extractV v14 0 fun v15 =>
 extractV v14 1 fun v16 =>
 unV .not v15 fun v18 =>
 grdV v18 false (unV .not v16 fun v21 =>
 condV v21 (buildV tab 53 [] fun v23 =>
 storeV tab 53 v6 v23 H3 fun H4 =>
 loadV tab 53 v6 H4 fun r0 =>
 K (.tup [r0, (AV.p (.bool false))]) H4)
 (loadV tab 39 v3 H3 fun v24 =>
 CallT Tryz.prog 62 [v24, v1, v2] H3 fun v27 H5 =>
 CallT Tryz.prog 61 [v27] H5 fun v28 H6 =>
 extractV v28 0 fun v29 =>
 extractV v28 1 fun v30 =>
 storeV tab 53 v6 v29 H6 fun H7 =>
 loadV tab 53 v6 H7 fun r0 =>
 K (.tup [r0, v30]) H7))
 (buildV tab 53 [] fun v23 =>
 storeV tab 53 v6 v23 H3 fun H8 =>
 loadV tab 53 v6 H8 fun r0 =>
 K (.tup [r0, (AV.p (.bool false))]) H8)
theorem W19_wp (v0 : AV) (v1 : AV) (v2 : AV) (H : Heap) (K : AV → Heap → Prop) : wpC Tryz.prog tab D19 (bodyOf Tryz.f19) (retF tab [.cell 6 53, .tmp 7] K) (nthA [v0, v1, v2]) H = W19 v0 v1 v2 H K := by kernel_rfl
theorem W19_ok {v0 v1 v2 : AV} {H : Heap} {K : AV → Heap → Prop} (h : W19 v0 v1 v2 H K) : CallT Tryz.prog 19 [v0, v1, v2] H K :=
  CallT.of_wp (D := D19) tab_ok mixed Tryz.func19 (c := bodyOf Tryz.f19) (by kernel_rfl) rfl (by kernel_rfl) (rs := #[.cell 6 53, .tmp 7]) rfl (by decide +kernel) (by kernel_rfl) (W19_wp v0 v1 v2 H K) h
def D20 : Info := ⟨31, fun i => if i = 3 then ([[], [], [0, 1], [], [], [0, 1, 2, 3, 4], [0, 1, 2, 3, 4, 5], [0, 1, 2, 3, 4, 5, 6], [0, 1, 2, 3, 4, 5, 6, 7], [0, 1, 2, 3, 4, 5, 6, 7], [0, 1, 2, 3, 4, 5, 6, 7, 8, 9], [0, 1, 2, 3, 4, 5, 6, 7, 8, 9, 10]], [(0, []), (1, []), (3, []), (4, []), (2, [3]), (5, []), (6, []), (7, []), (8, []), (9, []), (10, []), (11, [])]) else ([], []), fun i => ([], [])⟩
def W20 (v0 : AV) (v1 : AV) (v2 : AV) (H : Heap) (K : AV → Heap → Prop) : Prop :=
 boxV v0 H fun v3 H1 =>
 allocV tab 53 H1 fun v6 H2 =>
 loadV tab 39 v3 H2 fun v8 =>
 CallT Tryz.prog 59 [v8, v1, v2] H2 fun v11 H3 =>
 unV .not v11 fun v12 =>
 grdV v12 false (loadV tab 39 v3 H3 fun v14 =>
 CallT Tryz.prog 60 [v14, v1, v2] H3 fun v17 H4 =>
 unV .not v17 fun v18 =>
 condV v18 (buildV tab 53 [] fun v20 =>
 storeV tab 53 v6 v20 H4 fun H5 =>
 loadV tab 53 v6 H5 fun r0 =>
 K (.tup [r0, (AV.p (.bool false))]) H5)
 (loadV tab 39 v3 H4 fun v21 =>
 loadV tab 39 v3 H4 fun v24 =>
 CallT Tryz.prog 64 [v21, v1] H4 fun v23 H6 =>
 (loadV tab 39 v3 H6 fun v9024 =>
 v24 = v9024) ∧
 CallT Tryz.prog 64 [v24, v2] H6 fun v26 H7 =>
 buildV tab 53 [(0, v23), (1, v26)] fun v27 =>
 CallT Tryz.prog 63 [v27] H7 fun v28 H8 =>
 extractV v28 0 fun v29 =>
 extractV v28 1 fun v30 =>
 storeV tab 53 v6 v29 H8 fun H9 =>
 loadV tab 53 v6 H9 fun r0 =>
 K (.tup [r0, v30]) H9))
 (buildV tab 53 [] fun v20 =>
 storeV tab 53 v6 v20 H3 fun H10 =>
 loadV tab 53 v6 H10 fun r0 =>
 K (.tup [r0, (AV.p (.bool false))]) H10)
theorem W20_wp (v0 : AV) (v1 : AV) (v2 : AV) (H : Heap) (K : AV → Heap → Prop) : wpC Tryz.prog tab D20 (bodyOf Tryz.f20) (retF tab [.cell 6 53, .tmp 7] K) (nthA [v0, v1, v2]) H = W20 v0 v1 v2 H K := by kernel_rfl
theorem W20_ok {v0 v1 v2 : AV} {H : Heap} {K : AV → Heap → Prop} (h : W20 v0 v1 v2 H K) : CallT Tryz.prog 20 [v0, v1, v2] H K :=
  CallT.of_wp (D := D20) tab_ok mixed Tryz.func20 (c := bodyOf Tryz.f20) (by kernel_rfl) rfl (by kernel_rfl) (rs := #[.cell 6 53, .tmp 7]) rfl (by decide +kernel) (by kernel_rfl) (W20_wp v0 v1 v2 H K) h
def D21 : Info := ⟨17, fun i => ([], []), fun i => ([], [])⟩
def W21 (v0 : AV) (v1 : AV) (H : Heap) (K : AV → Heap → Prop) : Prop :=
 boxV v0 H fun v2 H1 =>
 boxV v1 H1 fun v3 H2 =>
 fieldAddrV tab 53 v2 0 fun v5 =>
 loadV tab 46 v5 H2 fun v6 =>
 fieldAddrV tab 53 v3 0 fun v7 =>
 loadV tab 46 v7 H2 fun v8 =>
 CallT Tryz.prog 18 [v6, v8] H2 fun v9 H3 =>
 unV .not v9 fun v10 =>
 condV v10 (K (AV.p (.bool false)) H3)
 (fieldAddrV tab 53 v2 1 fun v11 =>
 loadV tab 46 v11 H3 fun v12 =>
 fieldAddrV tab 53 v3 1 fun v13 =>
 loadV tab 46 v13 H3 fun v14 =>
 CallT Tryz.prog 18 [v12, v14] H3 fun v15 H4 =>
 unV .not v15 fun v16 =>
 condV v16 (K (AV.p (.bool false)) H4)
 (K (AV.p (.bool true)) H4))
theorem W21_wp (v0 : AV) (v1 : AV) (H : Heap) (K : AV → Heap → Prop) : wpC Tryz.prog tab D21 (bodyOf Tryz.f21) (retF tab [.tmp 4] K) (nthA [v0, v1]) H = W21 v0 v1 H K := by kernel_rfl
theorem W21_ok {v0 v1 : AV} {H : Heap} {K : AV → Heap → Prop} (h : W21 v0 v1 H K) : CallT Tryz.prog 21 [v0, v1] H K :=
  CallT.of_wp (D := D21) tab_ok mixed Tryz.func21 (c := bodyOf Tryz.f21) (by kernel_rfl) rfl (by kernel_rfl) (rs := #[.tmp 4]) rfl (by decide +kernel) (by kernel_rfl) (W21_wp v0 v1 H K) h
def D22 : Info := ⟨18, fun i => ([], []), fun i => ([], [])⟩
def W22 (v0 : AV) (v1 : AV) (H : Heap) (K : AV → Heap → Prop) : Prop :=
 boxV v0 H fun v2 H1 =>
 fieldAddrV tab 39 v2 0 fun v5 =>
 loadV tab 35 v5 H1 fun v6 =>
 CallT Tryz.prog 65 [v6, v1] H1 fun v8 H2 =>
 fieldAddrV tab 39 v2 1 fun v9 =>
 loadV tab 36 v9 H2 fun v10 =>
 CallT Tryz.prog 66 [v10, v8] H2 fun v12 H3 =>
 fieldAddrV tab 39 v2 2 fun v13 =>
 loadV tab 37 v13 H3 fun v14 =>
 CallT Tryz.prog 67 [v14, v12] H3 fun v16 H4 =>
 K v16 H4
theorem W22_wp (v0 : AV) (v1 : AV) (H : Heap) (K : AV → Heap → Prop) : wpC Tryz.prog tab D22 (bodyOf Tryz.f22) (retF tab [.tmp 4] K) (nthA [v0, v1]) H = W22 v0 v1 H K := by kernel_rfl
theorem W22_ok {v0 v1 : AV} {H : Heap} {K : AV → Heap → Prop} (h : W22 v0 v1 H K) : CallT Tryz.prog 22 [v0, v1] H K :=
  CallT.of_wp (D := D22) tab_ok mixed Tryz.func22 (c := bodyOf Tryz.f22) (by kernel_rfl) rfl (by kernel_rfl) (rs := #[.tmp 4]) rfl (by decide +kernel) (by kernel_rfl) (W22_wp v0 v1 H K) h
def D23 : Info := ⟨19, fun i => ([], []), fun i => if i = 2 then ([0], [1, 5]) else ([], [])⟩
def L23_0 (K : AV → Heap → Prop) (v0 : AV) (v1 : AV) (v5 : AV) (H : Heap) : Prop := LoopV (wpC Tryz.prog tab D23 (cAt [1, 0, 1, 0, 0] (bodyOf Tryz.f23))) [0] (PostF.block 0 (PostF.thenA (wpC Tryz.prog tab D23 (cAt [1, 1] (bodyOf Tryz.f23))) (retF tab [.tmp 4] K))) [1, 5] [v0, v1, AV.any, AV.any, AV.any, v5, AV.any, AV.any, AV.any, AV.any, AV.any, AV.any, AV.any, AV.any, AV.any, AV.any, AV.any, AV.any, AV.any] H
def B23_0 (K : AV → Heap → Prop) (N1 : AV → AV → Heap → Prop) (v0 : AV) (v1 : AV) (v5 : AV) (H : Heap) : Prop :=
 lenV tab 46 v0 fun v8 =>
 binV tab .lss 3 v5 v8 fun v9 =>
 condV v9 (indexAddrV tab 46 v0 v5 fun v15 =>
 storeV tab 3 v15 v1 H fun H1 =>
 binV tab .add 3 v1 (AV.p (.int .i64 1)) fun v17 =>
 binV tab .add 3 v5 (AV.p (.int .i64 1)) fun v11 =>
 N1 v17 v11 H1)
 (K v1 H)
def W23 (v0 : AV) (v1 : AV) (H : Heap) (K : AV → Heap → Prop) : Prop :=
 L23_0 K v0 v1 (AV.p (.int .i64 0)) H
theorem W23_wp (v0 : AV) (v1 : AV) (H : Heap) (K : AV → Heap → Prop) : wpC Tryz.prog tab D23 (bodyOf Tryz.f23) (retF tab [.tmp 4] K) (nthA [v0, v1]) H = W23 v0 v1 H K := by kernel_rfl
theorem W23_ok {v0 v1 : AV} {H : Heap} {K : AV → Heap → Prop} (h : W23 v0 v1 H K) : CallT Tryz.prog 23 [v0, v1] H K :=
  CallT.of_wp (D := D23) tab_ok mixed Tryz.func23 (c := bodyOf Tryz.f23) (by kernel_rfl) rfl (by kernel_rfl) (rs := #[.tmp 4]) rfl (by decide +kernel) (by kernel_rfl) (W23_wp v0 v1 H K) h
theorem L23_0_rule {K : AV → Heap → Prop} {v0 v1 v5 : AV} {H : Heap} {σ : Type} (s0 : σ) (f1 : σ → AV) (f5 : σ → AV) (TH : σ → Heap) (pre : σ → Prop) (μ : σ → Nat)
    (h0 : pre s0 ∧ AV.wk v1 (f1 s0) ∧ AV.wk v5 (f5 s0) ∧ Heap.le (TH s0) H)
    (round : ∀ s, pre s → B23_0 K (fun w1 w5 H' => ∃ s', pre s' ∧ μ s' < μ s ∧ AV.wk w1 (f1 s') ∧ AV.wk w5 (f5 s') ∧ Heap.le (TH s') H') v0 (f1 s) (f5 s) (TH s)) :
    L23_0 K v0 v1 v5 H := by
  unfold L23_0
  exact LoopV.mk s0 (fun s => [f1 s, f5 s]) TH pre μ (fun _ => rfl) (Eq.mp (by kernel_rfl) h0) (fun s hs => Eq.mp (by kernel_rfl) (round s hs))
def D24 : Info := ⟨14, fun i => ([], []), fun i => ([], [])⟩
def W24 (v0 : AV) (v1 : AV) (H : Heap) (K : AV → Heap → Prop) : Prop :=
 boxV v0 H fun v2 H1 =>
 fieldAddrV tab 53 v2 0 fun v5 =>
 loadV tab 46 v5 H1 fun v6 =>
 CallT Tryz.prog 23 [v6, v1] H1 fun v8 H2 =>
 fieldAddrV tab 53 v2 1 fun v9 =>
 loadV tab 46 v9 H2 fun v10 =>
 CallT Tryz.prog 23 [v10, v8] H2 fun v12 H3 =>
 K v12 H3
theorem W24_wp (v0 : AV) (v1 : AV) (H : Heap) (K : AV → Heap → Prop) : wpC Tryz.prog tab D24 (bodyOf Tryz.f24) (retF tab [.tmp 4] K) (nthA [v0, v1]) H = W24 v0 v1 H K := by kernel_rfl
theorem W24_ok {v0 v1 : AV} {H : Heap} {K : AV → Heap → Prop} (h : W24 v0 v1 H K) : CallT Tryz.prog 24 [v0, v1] H K :=
  CallT.of_wp (D := D24) tab_ok mixed Tryz.func24 (c := bodyOf Tryz.f24) (by kernel_rfl) rfl (by kernel_rfl) (rs := #[.tmp 4]) rfl (by decide +kernel) (by kernel_rfl) (W24_wp v0 v1 H K) h
def D25 : Info := ⟨18, fun i => ([], []), fun i => ([], [])⟩
def W25 (v0 : AV) (v1 : AV) (H : Heap) (K : AV → Heap → Prop) : Prop :=
 boxV v0 H fun v2 H1 =>
 fieldAddrV tab 53 v2 0 fun v5 =>
 loadV tab 46 v5 H1 fun v6 =>
 CallT Tryz.prog 33 [v6, v1] H1 fun v8 H2 =>
 binV tab .lss 3 v8 (AV.p (.int .i64 0)) fun v10 =>
 condV v10 (K (AV.p (.int .i64 (-1))) H2)
 (fieldAddrV tab 53 v2 1 fun v11 =>
 loadV tab 46 v11 H2 fun v12 =>
 CallT Tryz.prog 33 [v12, v8] H2 fun v14 H3 =>
 binV tab .lss 3 v14 (AV.p (.int .i64 0)) fun v16 =>
 condV v16 (K (AV.p (.int .i64 (-1))) H3)
 (K v14 H3))
theorem W25_wp (v0 : AV) (v1 : AV) (H : Heap) (K : AV → Heap → Prop) : wpC Tryz.prog tab D25 (bodyOf Tryz.f25) (retF tab [.tmp 4] K) (nthA [v0, v1]) H = W25 v0 v1 H K := by kernel_rfl
theorem W25_ok {v0 v1 : AV} {H : Heap} {K : AV → Heap → Prop} (h : W25 v0 v1 H K) : CallT Tryz.prog 25 [v0, v1] H K :=
  CallT.of_wp (D := D25) tab_ok mixed Tryz.func25 (c := bodyOf Tryz.f25) (by kernel_rfl) rfl (by kernel_rfl) (rs := #[.tmp 4]) rfl (by decide +kernel) (by kernel_rfl) (W25_wp v0 v1 H K) h
def D33 : Info := ⟨21, fun i => ([], []), fun i => if i = 2 then ([0], [1, 5]) else ([], [])⟩
def L33_0 (K : AV → Heap → Prop) (v0 : AV) (v1 : AV) (v5 : AV) (H : Heap) : Prop := LoopV (wpC Tryz.prog tab D33 (cAt [1, 0, 1, 0, 0] (bodyOf Tryz.f33))) [0] (PostF.block 0 (PostF.thenA (wpC Tryz.prog tab D33 (cAt [1, 1] (bodyOf Tryz.f33))) (retF tab [.tmp 4] K))) [1, 5] [v0, v1, AV.any, AV.any, AV.any, v5, AV.any, AV.any, AV.any, AV.any, AV.any, AV.any, AV.any, AV.any, AV.any, AV.any, AV.any, AV.any, AV.any, AV.any, AV.any] H
def B33_0 (K : AV → Heap → Prop) (N1 : AV → AV → Heap → Prop) (v0 : AV) (v1 : AV) (v5 : AV) (H : Heap) : Prop :=
 lenV tab 46 v0 fun v8 =>
 binV tab .lss 3 v5 v8 fun v9 =>
 condV v9 (indexAddrV tab 46 v0 v5 fun v14 =>
 loadV tab 3 v14 H fun v15 =>
 binV tab .neq 3 v15 v1 fun v17 =>
 condV v17 (K (AV.p (.int .i64 (-1))) H)
 (binV tab .add 3 v1 (AV.p (.int .i64 1)) fun v19 =>
 binV tab .add 3 v5 (AV.p (.int .i64 1)) fun v11 =>
 N1 v19 v11 H))
 (K v1 H)
def W33 (v0 : AV) (v1 : AV) (H : Heap) (K : AV → Heap → Prop) : Prop :=
 L33_0 K v0 v1 (AV.p (.int .i64 0)) H
theorem W33_wp (v0 : AV) (v1 : AV) (H : Heap) (K : AV → Heap → Prop) : wpC Tryz.prog tab D33 (bodyOf Tryz.f33) (retF tab [.tmp 4] K) (nthA [v0, v1]) H = W33 v0 v1 H K := by kernel_rfl
theorem W33_ok {v0 v1 : AV} {H : Heap} {K : AV → Heap → Prop} (h : W33 v0 v1 H K) : CallT Tryz.prog 33 [v0, v1] H K :=
  CallT.of_wp (D := D33) tab_ok mixed Tryz.func33 (c := bodyOf Tryz.f33) (by kernel_rfl) rfl (by kernel_rfl) (rs := #[.tmp 4]) rfl (by decide +kernel) (by kernel_rfl) (W33_wp v0 v1 H K) h
theorem L33_0_rule {K : AV → Heap → Prop} {v0 v1 v5 : AV} {H : Heap} {σ : Type} (s0 : σ) (f1 : σ → AV) (f5 : σ → AV) (TH : σ → Heap) (pre : σ → Prop) (μ : σ → Nat)
    (h0 : pre s0 ∧ AV.wk v1 (f1 s0) ∧ AV.wk v5 (f5 s0) ∧ Heap.le (TH s0) H)
    (round : ∀ s, pre s → B33_0 K (fun w1 w5 H' => ∃ s', pre s' ∧ μ s' < μ s ∧ AV.wk w1 (f1 s') ∧ AV.wk w5 (f5 s') ∧ Heap.le (TH s') H') v0 (f1 s) (f5 s) (TH s)) :
    L33_0 K v0 v1 v5 H := by
  unfold L33_0
  exact LoopV.mk s0 (fun s => [f1 s, f5 s]) TH pre μ (fun _ => rfl) (Eq.mp (by kernel_rfl) h0) (fun s hs => Eq.mp (by kernel_rfl) (round s hs))
def D35 : Info := ⟨18, fun i => ([], []), fun i => ([], [])⟩
def W35 (v0 : AV) (v1 : AV) (H : Heap) (K : AV → Heap → Prop) : Prop :=
 boxV v0 H fun v2 H1 =>
 fieldAddrV tab 25 v2 2 fun v5 =>
 loadV tab 22 v5 H1 fun v6 =>
 CallT Tryz.prog 74 [v6, v1] H1 fun v8 H2 =>
 binV tab .lss 3 v8 (AV.p (.int .i64 0)) fun v10 =>
 condV v10 (K (AV.p (.int .i64 (-1))) H2)
 (fieldAddrV tab 25 v2 3 fun v11 =>
 loadV tab 23 v11 H2 fun v12 =>
 CallT Tryz.prog 75 [v12, v8] H2 fun v14 H3 =>
 binV tab .lss 3 v14 (AV.p (.int .i64 0)) fun v16 =>
 condV v16 (K (AV.p (.int .i64 (-1))) H3)
 (K v14 H3))
theorem W35_wp (v0 : AV) (v1 : AV) (H : Heap) (K : AV → Heap → Prop) : wpC Tryz.prog tab D35 (bodyOf Tryz.f35) (retF tab [.tmp 4] K) (nthA [v0, v1]) H = W35 v0 v1 H K := by kernel_rfl
theorem W35_ok {v0 v1 : AV} {H : Heap} {K : AV → Heap → Prop} (h : W35 v0 v1 H K) : CallT Tryz.prog 35 [v0, v1] H K :=
  CallT.of_wp (D := D35) tab_ok mixed Tryz.func35 (c := bodyOf Tryz.f35) (by kernel_rfl) rfl (by kernel_rfl) (rs := #[.tmp 4]) rfl (by decide +kernel) (by kernel_rfl) (W35_wp v0 v1 H K) h
def D36 : Info := ⟨27, fun i => ([], []), fun i => if i = 5 then ([0], [1, 5]) else ([], [])⟩
def L36_0 (K : AV → Heap → Prop) (v0 : AV) (v1 : AV) (v5 : AV) (H : Heap) : Prop := LoopV (wpC Tryz.prog tab D36 (cAt [1, 1, 1, 0, 1, 0, 0] (bodyOf Tryz.f36))) [0] (PostF.block 0 (PostF.thenA (wpC Tryz.prog tab D36 (cAt [1, 1, 1, 1] (bodyOf Tryz.f36))) (retF tab [.tmp 4] K))) [1, 5] [v0, v1, AV.any, AV.any, AV.any, v5, AV.any, AV.any, AV.any, AV.any, AV.any, AV.any, AV.any, AV.any, AV.any, AV.any, AV.any, AV.any, AV.any, AV.any, AV.any, AV.any, AV.any, AV.any, AV.any, AV.any, AV.any] H
def B36_0 (K : AV → Heap → Prop) (N1 : AV → AV → Heap → Prop) (v0 : AV) (v1 : AV) (v5 : AV) (H : Heap) : Prop :=
 lenV tab 26 v0 fun v14 =>
 binV tab .lss 3 v5 v14 fun v15 =>
 condV v15 (indexAddrV tab 26 v0 v5 fun v20 =>
 loadV tab 22 v20 H fun v21 =>
 CallT Tryz.prog 74 [v21, v1] H fun v23 H1 =>
 binV tab .lss 3 v23 (AV.p (.int .i64 0)) fun v25 =>
 condV v25 (K (AV.p (.int .i64 (-1))) H1)
 (binV tab .add 3 v5 (AV.p (.int .i64 1)) fun v17 =>
 N1 v23 v17 H1))
 (K v1 H)
def W36 (v0 : AV) (v1 : AV) (H : Heap) (K : AV → Heap → Prop) : Prop :=
 lenV tab 26 v0 fun v8 =>
 binV tab .sub 3 v1 v8 fun v9 =>
 binV tab .lss 3 v9 (AV.p (.int .i64 0)) fun v11 =>
 condV v11 (K (AV.p (.int .i64 (-1))) H)
 (L36_0 K v0 v9 (AV.p (.int .i64 0)) H)
theorem W36_wp (v0 : AV) (v1 : AV) (H : Heap) (K : AV → Heap → Prop) : wpC Tryz.prog tab D36 (bodyOf Tryz.f36) (retF tab [.tmp 4] K) (nthA [v0, v1]) H = W36 v0 v1 H K := by kernel_rfl
theorem W36_ok {v0 v1 : AV} {H : Heap} {K : AV → Heap → Prop} (h : W36 v0 v1 H K) : CallT Tryz.prog 36 [v0, v1] H K :=
  CallT.of_wp (D := D36) tab_ok mixed Tryz.func36 (c := bodyOf Tryz.f36) (by kernel_rfl) rfl (by kernel_rfl) (rs := #[.tmp 4]) rfl (by decide +kernel) (by kernel_rfl) (W36_wp v0 v1 H K) h
theorem L36_0_rule {K : AV → Heap → Prop} {v0 v1 v5 : AV} {H : Heap} {σ : Type} (s0 : σ) (f1 : σ → AV) (f5 : σ → AV) (TH : σ → Heap) (pre : σ → Prop) (μ : σ → Nat)
    (h0 : pre s0 ∧ AV.wk v1 (f1 s0) ∧ AV.wk v5 (f5 s0) ∧ Heap.le (TH s0) H)
    (round : ∀ s, pre s → B36_0 K (fun w1 w5 H' => ∃ s', pre s' ∧ μ s' < μ s ∧ AV.wk w1 (f1 s') ∧ AV.wk w5 (f5 s') ∧ Heap.le (TH s') H') v0 (f1 s) (f5 s) (TH s)) :
    L36_0 K v0 v1 v5 H := by
  unfold L36_0
  exact LoopV.mk s0 (fun s => [f1 s, f5 s]) TH pre μ (fun _ => rfl) (Eq.mp (by kernel_rfl) h0) (fun s hs => Eq.mp (by kernel_rfl) (round s hs))
def D37 : Info := ⟨12, fun i => ([], []), fun i => ([], [])⟩
def W37 (v0 : AV) (v1 : AV) (H : Heap) (K : AV → Heap → Prop) : Prop :=
 lenV tab 27 v0 fun v7 =>
 binV tab .sub 3 v1 v7 fun v8 =>
 binV tab .lss 3 v8 (AV.p (.int .i64 0)) fun v10 =>
 condV v10 (K (AV.p (.int .i64 (-1))) H)
 (K v8 H)
theorem W37_wp (v0 : AV) (v1 : AV) (H : Heap) (K : AV → Heap → Prop) : wpC Tryz.prog tab D37 (bodyOf Tryz.f37) (retF tab [.tmp 4] K) (nthA [v0, v1]) H = W37 v0 v1 H K := by kernel_rfl
theorem W37_ok {v0 v1 : AV} {H : Heap} {K : AV → Heap → Prop} (h : W37 v0 v1 H K) : CallT Tryz.prog 37 [v0, v1] H K :=
  CallT.of_wp (D := D37) tab_ok mixed Tryz.func37 (c := bodyOf Tryz.f37) (by kernel_rfl) rfl (by kernel_rfl) (rs := #[.tmp 4]) rfl (by decide +kernel) (by kernel_rfl) (W37_wp v0 v1 H K) h
def D38 : Info := ⟨13, fun i => ([], []), fun i => ([], [])⟩
def W38 (v0 : AV) (H : Heap) (K : AV → Heap → Prop) : Prop :=
 boxV v0 H fun v1 H1 =>
 loadV tab 35 v1 H1 fun v3 =>
 CallT Tryz.prog 76 [v3] H1 fun v4 H2 =>
 grdV v4 true (fieldAddrV tab 35 v1 0 fun v6 =>
 loadV tab 3 v6 H2 fun v7 =>
 fieldAddrV tab 35 v1 1 fun v8 =>
 loadV tab 3 v8 H2 fun v9 =>
 binV tab .mul 3 v7 v9 fun v10 =>
 binV tab .leq 3 v10 (AV.p (.int .i64 5)) fun v11 =>
 K v11 H2)
 (K (AV.p (.bool false)) H2)
theorem W38_wp (v0 : AV) (H : Heap) (K : AV → Heap → Prop) : wpC Tryz.prog tab D38 (bodyOf Tryz.f38) (retF tab [.tmp 2] K) (nthA [v0]) H = W38 v0 H K := by kernel_rfl
theorem W38_ok {v0 : AV} {H : Heap} {K : AV → Heap → Prop} (h : W38 v0 H K) : CallT Tryz.prog 38 [v0] H K :=
  CallT.of_wp (D := D38) tab_ok mixed Tryz.func38 (c := bodyOf Tryz.f38) (by kernel_rfl) rfl (by kernel_rfl) (rs := #[.tmp 2]) rfl (by decide +kernel) (by kernel_rfl) (W38_wp v0 H K) h
def D39 : Info := ⟨11, fun i => ([], []), fun i => ([], [])⟩
def W39 (v0 : AV) (H : Heap) (K : AV → Heap → Prop) : Prop :=
 CallT Tryz.prog 77 [v0] H fun v4 H1 =>
 grdV v4 true (CallT Tryz.prog 78 [v0] H1 fun v7 H2 =>
 lenV tab 46 v7 fun v8 =>
 binV tab .leq 3 v8 (AV.p (.int .i64 5)) fun v9 =>
 K v9 H2)
 (K (AV.p (.bool false)) H1)
theorem W39_wp (v0 : AV) (H : Heap) (K : AV → Heap → Prop) : wpC Tryz.prog tab D39 (bodyOf Tryz.f39) (retF tab [.tmp 2] K) (nthA [v0]) H = W39 v0 H K := by kernel_rfl
theorem W39_ok {v0 : AV} {H : Heap} {K : AV → Heap → Prop} (h : W39 v0 H K) : CallT Tryz.prog 39 [v0] H K :=
  CallT.of_wp (D := D39) tab_ok mixed Tryz.func39 (c := bodyOf Tryz.f39) (by kernel_rfl) rfl (by kernel_rfl) (rs := #[.tmp 2]) rfl (by decide +kernel) (by kernel_rfl) (W39_wp v0 H K) h
def D40 : Info := ⟨12, fun i => ([], []), fun i => ([], [])⟩
def W40 (v0 : AV) (v1 : AV) (H : Heap) (K : AV → Heap → Prop) : Prop :=
 boxV v0 H fun v2 H1 =>
 fieldAddrV tab 35 v2 0 fun v5 =>
 loadV tab 3 v5 H1 fun v6 =>
 fieldAddrV tab 35 v2 1 fun v7 =>
 loadV tab 3 v7 H1 fun v8 =>
 CallT Tryz.prog 79 [v6, v8, v1] H1 fun v10 H2 =>
 binV tab .eql 3 v10 (AV.p (.int .i64 2)) fun v11 =>
 K v11 H2
theorem W40_wp (v0 : AV) (v1 : AV) (H : Heap) (K : AV → Heap → Prop) : wpC Tryz.prog tab D40 (bodyOf Tryz.f40) (retF tab [.tmp 4] K) (nthA [v0, v1]) H = W40 v0 v1 H K := by kernel_rfl
theorem W40_ok {v0 v1 : AV} {H : Heap} {K : AV → Heap → Prop} (h : W40 v0 v1 H K) : CallT Tryz.prog 40 [v0, v1] H K :=
  CallT.of_wp (D := D40) tab_ok mixed Tryz.func40 (c := bodyOf Tryz.f40) (by kernel_rfl) rfl (by kernel_rfl) (rs := #[.tmp 4]) rfl (by decide +kernel) (by kernel_rfl) (W40_wp v0 v1 H K) h
def D41 : Info := ⟨19, fun i => ([], []), fun i => ([], [])⟩
def W41 (v0 : AV) (H : Heap) (K : AV → Heap → Prop) : Prop :=
 boxV v0 H fun v1 H1 =>
 allocV tab 35 H1 fun v2 H2 =>
 allocV tab 35 H2 fun v3 H3 =>
 fieldAddrV tab 25 v1 0 fun v4 =>
 loadV tab 3 v4 H3 fun v5 =>
 fieldAddrV tab 35 v3 0 fun v6 =>
 storeV tab 3 v6 v5 H3 fun H4 =>
 fieldAddrV tab 25 v1 1 fun v7 =>
 loadV tab 3 v7 H4 fun v8 =>
 fieldAddrV tab 35 v3 1 fun v9 =>
 storeV tab 3 v9 v8 H4 fun H5 =>
 fieldAddrV tab 25 v1 2 fun v10 =>
 loadV tab 22 v10 H5 fun v11 =>
 CallT Tryz.prog 80 [v11] H5 fun v12 H6 =>
 fieldAddrV tab 35 v3 2 fun v13 =>
 storeV tab 32 v13 v12 H6 fun H7 =>
 fieldAddrV tab 25 v1 3 fun v14 =>
 loadV tab 23 v14 H7 fun v15 =>
 CallT Tryz.prog 81 [v15] H7 fun v16 H8 =>
 fieldAddrV tab 35 v3 3 fun v17 =>
 storeV tab 33 v17 v16 H8 fun H9 =>
 loadV tab 35 v3 H9 fun v18 =>
 storeV tab 35 v2 v18 H9 fun H10 =>
 loadV tab 35 v2 H10 fun r0 =>
 K r0 H10
theorem W41_wp (v0 : AV) (H : Heap) (K : AV → Heap → Prop) : wpC Tryz.prog tab D41 (bodyOf Tryz.f41) (retF tab [.cell 2 35] K) (nthA [v0]) H = W41 v0 H K := by kernel_rfl
theorem W41_ok {v0 : AV} {H : Heap} {K : AV → Heap → Prop} (h : W41 v0 H K) : CallT Tryz.prog 41 [v0] H K :=
  CallT.of_wp (D := D41) tab_ok mixed Tryz.func41 (c := bodyOf Tryz.f41) (by kernel_rfl) rfl (by kernel_rfl) (rs := #[.cell 2 35]) rfl (by decide +kernel) (by kernel_rfl) (W41_wp v0 H K) h
def D42 : Info := ⟨23, fun i => ([], []), fun i => if i = 3 then ([0, 3], [4]) else ([], [])⟩
def L42_0 (K : AV → Heap → Prop) (v0 : AV) (v3 : AV) (v4 : AV) (H : Heap) : Prop := LoopV (wpC Tryz.prog tab D42 (cAt [1, 1, 0, 1, 0, 0] (bodyOf Tryz.f42))) [0, 3] (PostF.block 0 (PostF.thenA (wpC Tryz.prog tab D42 (cAt [1, 1, 1] (bodyOf Tryz.f42))) (retF tab [.tmp 2] K))) [4] [v0, AV.any, AV.any, v3, v4, AV.any, AV.any, AV.any, AV.any, AV.any, AV.any, AV.any, AV.any, AV.any, AV.any, AV.any, AV.any, AV.any, AV.any, AV.any, AV.any, AV.any, AV.any] H
def B42_0 (K : AV → Heap → Prop) (N1 : AV → Heap → Prop) (v0 : AV) (v3 : AV) (v4 : AV) (H : Heap) : Prop :=
 lenV tab 26 v0 fun v10 =>
 binV tab .lss 3 v4 v10 fun v11 =>
 condV v11 (indexAddrV tab 26 v0 v4 fun v18 =>
 loadV tab 22 v18 H fun v19 =>
 CallT Tryz.prog 80 [v19] H fun v20 H2 =>
 indexAddrV tab 36 v3 v4 fun v21 =>
 storeV tab 32 v21 v20 H2 fun H3 =>
 binV tab .add 3 v4 (AV.p (.int .i64 1)) fun v13 =>
 N1 v13 H3)
 (K v3 H)
def W42 (v0 : AV) (H : Heap) (K : AV → Heap → Prop) : Prop :=
 lenV tab 26 v0 fun v6 =>
 makeSliceV tab 36 v6 v6 H fun v7 H1 =>
 L42_0 K v0 v7 (AV.p (.int .i64 0)) H1
theorem W42_wp (v0 : AV) (H : Heap) (K : AV → Heap → Prop) : wpC Tryz.prog tab D42 (bodyOf Tryz.f42) (retF tab [.tmp 2] K) (nthA [v0]) H = W42 v0 H K := by kernel_rfl
theorem W42_ok {v0 : AV} {H : Heap} {K : AV → Heap → Prop} (h : W42 v0 H K) : CallT Tryz.prog 42 [v0] H K :=
  CallT.of_wp (D := D42) tab_ok mixed Tryz.func42 (c := bodyOf Tryz.f42) (by kernel_rfl) rfl (by kernel_rfl) (rs := #[.tmp 2]) rfl (by decide +kernel) (by kernel_rfl) (W42_wp v0 H K) h
theorem L42_0_rule {K : AV → Heap → Prop} {v0 v3 v4 : AV} {H : Heap} {σ : Type} (s0 : σ) (f4 : σ → AV) (TH : σ → Heap) (pre : σ → Prop) (μ : σ → Nat)
    (h0 : pre s0 ∧ AV.wk v4 (f4 s0) ∧ Heap.le (TH s0) H)
    (round : ∀ s, pre s → B42_0 K (fun w4 H' => ∃ s', pre s' ∧ μ s' < μ s ∧ AV.wk w4 (f4 s') ∧ Heap.le (TH s') H') v0 v3 (f4 s) (TH s)) :
    L42_0 K v0 v3 v4 H := by
  unfold L42_0
  exact LoopV.mk s0 (fun s => [f4 s]) TH pre μ (fun _ => rfl) (Eq.mp (by kernel_rfl) h0) (fun s hs => Eq.mp (by kernel_rfl) (round s hs))
def D43 : Info := ⟨23, fun i => ([], []), fun i => if i = 3 then ([0, 3], [4]) else ([], [])⟩
def L43_0 (K : AV → Heap → Prop) (v0 : AV) (v3 : AV) (v4 : AV) (H : Heap) : Prop := LoopV (wpC Tryz.prog tab D43 (cAt [1, 1, 0, 1, 0, 0] (bodyOf Tryz.f43))) [0, 3] (PostF.block 0 (PostF.thenA (wpC Tryz.prog tab D43 (cAt [1, 1, 1] (bodyOf Tryz.f43))) (retF tab [.tmp 2] K))) [4] [v0, AV.any, AV.any, v3, v4, AV.any, AV.any, AV.any, AV.any, AV.any, AV.any, AV.any, AV.any, AV.any, AV.any, AV.any, AV.any, AV.any, AV.any, AV.any, AV.any, AV.any, AV.any] H
def B43_0 (K : AV → Heap → Prop) (N1 : AV → Heap → Prop) (v0 : AV) (v3 : AV) (v4 : AV) (H : Heap) : Prop :=
 lenV tab 27 v0 fun v10 =>
 binV tab .lss 3 v4 v10 fun v11 =>
 condV v11 (indexAddrV tab 27 v0 v4 fun v18 =>
 loadV tab 108 v18 H fun v19 =>
 CallT Tryz.prog 82 [v19] H fun v20 H2 =>
 indexAddrV tab 37 v3 v4 fun v21 =>
 storeV tab 106 v21 v20 H2 fun H3 =>
 binV tab .add 3 v4 (AV.p (.int .i64 1)) fun v13 =>
 N1 v13 H3)
 (K v3 H)
def W43 (v0 : AV) (H : Heap) (K : AV → Heap → Prop) : Prop :=
 lenV tab 27 v0 fun v6 =>
 makeSliceV tab 37 v6 v6 H fun v7 H1 =>
 L43_0 K v0 v7 (AV.p (.int .i64 0)) H1
theorem W43_wp (v0 : AV) (H : Heap) (K : AV → Heap → Prop) : wpC Tryz.prog tab D43 (bodyOf Tryz.f43) (retF tab [.tmp 2] K) (nthA [v0]) H = W43 v0 H K := by kernel_rfl
theorem W43_ok {v0 : AV} {H : Heap} {K : AV → Heap → Prop} (h : W43 v0 H K) : CallT Tryz.prog 43 [v0] H K :=
  CallT.of_wp (D := D43) tab_ok mixed Tryz.func43 (c := bodyOf Tryz.f43) (by kernel_rfl) rfl (by kernel_rfl) (rs := #[.tmp 2]) rfl (by decide +kernel) (by kernel_rfl) (W43_wp v0 H K) h
theorem L43_0_rule {K : AV → Heap → Prop} {v0 v3 v4 : AV} {H : Heap} {σ : Type} (s0 : σ) (f4 : σ → AV) (TH : σ → Heap) (pre : σ → Prop) (μ : σ → Nat)
    (h0 : pre s0 ∧ AV.wk v4 (f4 s0) ∧ Heap.le (TH s0) H)
    (round : ∀ s, pre s → B43_0 K (fun w4 H' => ∃ s', pre s' ∧ μ s' < μ s ∧ AV.wk w4 (f4 s') ∧ Heap.le (TH s') H') v0 v3 (f4 s) (TH s)) :
    L43_0 K v0 v3 v4 H := by
  unfold L43_0
  exact LoopV.mk s0 (fun s => [f4 s]) TH pre μ (fun _ => rfl) (Eq.mp (by kernel_rfl) h0) (fun s hs => Eq.mp (by kernel_rfl) (round s hs))
def D44 : Info := ⟨13, fun i => ([], []), fun i => ([], [])⟩
def W44 (v0 : AV) (H : Heap) (K : AV → Heap → Prop) : Prop :=
 boxV v0 H fun v1 H1 =>
 loadV tab 35 v1 H1 fun v3 =>
 CallT Tryz.prog 83 [v3] H1 fun v4 H2 =>
 grdV v4 true (fieldAddrV tab 35 v1 0 fun v6 =>
 loadV tab 3 v6 H2 fun v7 =>
 fieldAddrV tab 35 v1 1 fun v8 =>
 loadV tab 3 v8 H2 fun v9 =>
 binV tab .mul 3 v7 v9 fun v10 =>
 binV tab .leq 3 v10 (AV.p (.int .i64 5)) fun v11 =>
 K v11 H2)
 (K (AV.p (.bool false)) H2)
theorem W44_wp (v0 : AV) (H : Heap) (K : AV → Heap → Prop) : wpC Tryz.prog tab D44 (bodyOf Tryz.f44) (retF tab [.tmp 2] K) (nthA [v0]) H = W44 v0 H K := by kernel_rfl
theorem W44_ok {v0 : AV} {H : Heap} {K : AV → Heap → Prop} (h : W44 v0 H K) : CallT Tryz.prog 44 [v0] H K :=
  CallT.of_wp (D := D44) tab_ok mixed Tryz.func44 (c := bodyOf Tryz.f44) (by kernel_rfl) rfl (by kernel_rfl) (rs := #[.tmp 2]) rfl (by decide +kernel) (by kernel_rfl) (W44_wp v0 H K) h
def D45 : Info := ⟨11, fun i => ([], []), fun i => ([], [])⟩
def W45 (v0 : AV) (H : Heap) (K : AV → Heap → Prop) : Prop :=
 CallT Tryz.prog 84 [v0] H fun v4 H1 =>
 grdV v4 true (CallT Tryz.prog 85 [v0] H1 fun v7 H2 =>
 lenV tab 46 v7 fun v8 =>
 binV tab .leq 3 v8 (AV.p (.int .i64 5)) fun v9 =>
 K v9 H2)
 (K (AV.p (.bool false)) H1)
theorem W45_wp (v0 : AV) (H : Heap) (K : AV → Heap → Prop) : wpC Tryz.prog tab D45 (bodyOf Tryz.f45) (retF tab [.tmp 2] K) (nthA [v0]) H = W45 v0 H K := by kernel_rfl
theorem W45_ok {v0 : AV} {H : Heap} {K : AV → Heap → Prop} (h : W45 v0 H K) : CallT Tryz.prog 45 [v0] H K :=
  CallT.of_wp (D := D45) tab_ok mixed Tryz.func45 (c := bodyOf Tryz.f45) (by kernel_rfl) rfl (by kernel_rfl) (rs := #[.tmp 2]) rfl (by decide +kernel) (by kernel_rfl) (W45_wp v0 H K) h
def D46 : Info := ⟨9, fun i => ([], []), fun i => ([], [])⟩
def W46 (v0 : AV) (v1 : AV) (H : Heap) (K : AV → Heap → Prop) : Prop :=
 CallT Tryz.prog 86 [v0, v1] H fun v7 H1 =>
 binV tab .geq 3 v7 (AV.p (.int .i64 0)) fun v8 =>
 K v8 H1
theorem W46_wp (v0 : AV) (v1 : AV) (H : Heap) (K : AV → Heap → Prop) : wpC Tryz.prog tab D46 (bodyOf Tryz.f46) (retF tab [.tmp 4] K) (nthA [v0, v1]) H = W46 v0 v1 H K := by kernel_rfl
theorem W46_ok {v0 v1 : AV} {H : Heap} {K : AV → Heap → Prop} (h : W46 v0 v1 H K) : CallT Tryz.prog 46 [v0, v1] H K :=
  CallT.of_wp (D := D46) tab_ok mixed Tryz.func46 (c := bodyOf Tryz.f46) (by kernel_rfl) rfl (by kernel_rfl) (rs := #[.tmp 4]) rfl (by decide +kernel) (by kernel_rfl) (W46_wp v0 v1 H K) h
def D47 : Info := ⟨9, fun i => ([], []), fun i => ([], [])⟩
def W47 (v0 : AV) (v1 : AV) (H : Heap) (K : AV → Heap → Prop) : Prop :=
 fieldAddrV tab 39 v1 0 fun v4 =>
 loadV tab 35 v4 H fun v5 =>
 CallT Tryz.prog 48 [v5, v0] H fun v7 H1 =>
 unV .not v7 fun v8 =>
 K v8 H1
theorem W47_wp (v0 : AV) (v1 : AV) (H : Heap) (K : AV → Heap → Prop) : wpC Tryz.prog tab D47 (bodyOf Tryz.f47) (retF tab [.tmp 3] K) (nthA [v0, v1]) H = W47 v0 v1 H K := by kernel_rfl
theorem W47_ok {v0 v1 : AV} {H : Heap} {K : AV → Heap → Prop} (h : W47 v0 v1 H K) : CallT Tryz.prog 47 [v0, v1] H K :=
  CallT.of_wp (D := D47) tab_ok mixed Tryz.func47 (c := bodyOf Tryz.f47) (by kernel_rfl) rfl (by kernel_rfl) (rs := #[.tmp 3]) rfl (by decide +kernel) (by kernel_rfl) (W47_wp v0 v1 H K) h
def D48 : Info := ⟨11, fun i => ([], []), fun i => ([], [])⟩
def W48 (v0 : AV) (v1 : AV) (H : Heap) (K : AV → Heap → Prop) : Prop :=
 boxV v0 H fun v2 H1 =>
 fieldAddrV tab 35 v2 0 fun v5 =>
 loadV tab 3 v5 H1 fun v6 =>
 fieldAddrV tab 35 v2 1 fun v7 =>
 loadV tab 3 v7 H1 fun v8 =>
 CallT Tryz.prog 87 [v6, v8, v1, (AV.p (.int .i64 2))] H1 fun v10 H2 =>
 K v10 H2
theorem W48_wp (v0 : AV) (v1 : AV) (H : Heap) (K : AV → Heap → Prop) : wpC Tryz.prog tab D48 (bodyOf Tryz.f48) (retF tab [.tmp 4] K) (nthA [v0, v1]) H = W48 v0 v1 H K := by kernel_rfl
theorem W48_ok {v0 v1 : AV} {H : Heap} {K : AV → Heap → Prop} (h : W48 v0 v1 H K) : CallT Tryz.prog 48 [v0, v1] H K :=
  CallT.of_wp (D := D48) tab_ok mixed Tryz.func48 (c := bodyOf Tryz.f48) (by kernel_rfl) rfl (by kernel_rfl) (rs := #[.tmp 4]) rfl (by decide +kernel) (by kernel_rfl) (W48_wp v0 v1 H K) h
def D49 : Info := ⟨27, fun i => ([], []), fun i => ([], [])⟩
def W49 (v0 : AV) (v1 : AV) (H : Heap) (K : AV → Heap → Prop) : Prop :=
 boxV v0 H fun v2 H1 =>
 boxV v1 H1 fun v3 H2 =>
 fieldAddrV tab 35 v2 0 fun v5 =>
 loadV tab 3 v5 H2 fun v6 =>
 fieldAddrV tab 35 v3 0 fun v7 =>
 loadV tab 3 v7 H2 fun v8 =>
 binV tab .neq 3 v6 v8 fun v9 =>
 condV v9 (K (AV.p (.bool false)) H2)
 (fieldAddrV tab 35 v2 1 fun v10 =>
 loadV tab 3 v10 H2 fun v11 =>
 fieldAddrV tab 35 v3 1 fun v12 =>
 loadV tab 3 v12 H2 fun v13 =>
 binV tab .neq 3 v11 v13 fun v14 =>
 condV v14 (K (AV.p (.bool false)) H2)
 (fieldAddrV tab 35 v2 2 fun v15 =>
 loadV tab 32 v15 H2 fun v16 =>
 fieldAddrV tab 35 v3 2 fun v17 =>
 loadV tab 32 v17 H2 fun v18 =>
 CallT Tryz.prog 88 [v16, v18] H2 fun v19 H3 =>
 unV .not v19 fun v20 =>
 condV v20 (K (AV.p (.bool false)) H3)
 (fieldAddrV tab 35 v2 3 fun v21 =>
 loadV tab 33 v21 H3 fun v22 =>
 fieldAddrV tab 35 v3 3 fun v23 =>
 loadV tab 33 v23 H3 fun v24 =>
 CallT Tryz.prog 89 [v22, v24] H3 fun v25 H4 =>
 unV .not v25 fun v26 =>
 condV v26 (K (AV.p (.bool false)) H4)
 (K (AV.p (.bool true)) H4))))
theorem W49_wp (v0 : AV) (v1 : AV) (H : Heap) (K : AV → Heap → Prop) : wpC Tryz.prog tab D49 (bodyOf Tryz.f49) (retF tab [.tmp 4] K) (nthA [v0, v1]) H = W49 v0 v1 H K := by kernel_rfl
theorem W49_ok {v0 v1 : AV} {H : Heap} {K : AV → Heap → Prop} (h : W49 v0 v1 H K) : CallT Tryz.prog 49 [v0, v1] H K :=
  CallT.of_wp (D := D49) tab_ok mixed Tryz.func49 (c := bodyOf Tryz.f49) (by kernel_rfl) rfl (by kernel_rfl) (rs := #[.tmp 4]) rfl (by decide +kernel) (by kernel_rfl) (W49_wp v0 v1 H K) h
end Go.Proofs.YtgcklgeifdefhaaGreat
namespace Go.Proofs.YtgcklgeifdefhaaGreat
open Go Go.Sep
attribute [local irreducible] wpC headF
def D50 : Info := ⟨27, fun i => if i = 6 then ([[], [], [0, 1], [0, 1, 2], [], [], [4, 5], [4, 5, 6], [0, 1, 2, 3, 4, 5, 6, 7], [0, 1, 2, 3, 4, 5, 6, 7, 8]], [(0, []), (1, []), (2, []), (3, []), (4, []), (5, []), (6, []), (7, []), (8, []), (9, [])]) else ([], []), fun i => if i = 4 then ([0, 1], [5]) else ([], [])⟩
def L50_0 (K : AV → Heap → Prop) (v0 : AV) (v1 : AV) (v5 : AV) (H : Heap) : Prop := LoopV (wpC Tryz.prog tab D50 (cAt [1, 1, 0, 1, 0, 0] (bodyOf Tryz.f50))) [0, 1] (PostF.block 0 (PostF.thenA (wpC Tryz.prog tab D50 (cAt [1, 1, 1] (bodyOf Tryz.f50))) (retF tab [.tmp 4] K))) [5] [v0, v1, AV.any, AV.any, AV.any, v5, AV.any, AV.any, AV.any, AV.any, AV.any, AV.any, AV.any, AV.any, AV.any, AV.any, AV.any, AV.any, AV.any, AV.any, AV.any, AV.any, AV.any, AV.any, AV.any, AV.any, AV.any] H
def B50_0 (K : AV → Heap → Prop) (N1 : AV → Heap → Prop) (v0 : AV) (v1 : AV) (v5 : AV) (H : Heap) : Prop :=
 lenV tab 36 v0 fun v13 =>
 binV tab .lss 3 v5 v13 fun v14 =>
 condV v14 (indexAddrV tab 36 v0 v5 fun v19 =>
 loadV tab 32 v19 H fun v20 =>
 indexAddrV tab 36 v1 v5 fun v23 =>
 loadV tab 32 v23 H fun v24 =>
 CallT Tryz.prog 88 [v20, v24] H fun v25 H1 =>
 unV .not v25 fun v26 =>
 condV v26 (K (AV.p (.bool false)) H1)
 (binV tab .add 3 v5 (AV.p (.int .i64 1)) fun v16 =>
 N1 v16 H1))
 (K (AV.p (.bool true)) H)
def W50 (v0 : AV) (v1 : AV) (H : Heap) (K : AV → Heap → Prop) : Prop :=
 lenV tab 36 v0 fun v7 =>
 lenV tab 36 v1 fun v9 =>
 binV tab .neq 3 v7 v9 fun v10 =>
 condV v10 (K (AV.p (.bool false)) H)
 (L50_0 K v0 v1 (AV.p (.int .i64 0)) H)
theorem W50_wp (v0 : AV) (v1 : AV) (H : Heap) (K : AV → Heap → Prop) : wpC Tryz.prog tab D50 (bodyOf Tryz.f50) (retF tab [.tmp 4] K) (nthA [v0, v1]) H = W50 v0 v1 H K := by kernel_rfl
theorem W50_ok {v0 v1 : AV} {H : Heap} {K : AV → Heap → Prop} (h : W50 v0 v1 H K) : CallT Tryz.prog 50 [v0, v1] H K :=
  CallT.of_wp (D := D50) tab_ok mixed Tryz.func50 (c := bodyOf Tryz.f50) (by kernel_rfl) rfl (by kernel_rfl) (rs := #[.tmp 4]) rfl (by decide +kernel) (by kernel_rfl) (W50_wp v0 v1 H K) h
theorem L50_0_rule {K : AV → Heap → Prop} {v0 v1 v5 : AV} {H : Heap} {σ : Type} (s0 : σ) (f5 : σ → AV) (TH : σ → Heap) (pre : σ → Prop) (μ : σ → Nat)
    (h0 : pre s0 ∧ AV.wk v5 (f5 s0) ∧ Heap.le (TH s0) H)
    (round : ∀ s, pre s → B50_0 K (fun w5 H' => ∃ s', pre s' ∧ μ s' < μ s ∧ AV.wk w5 (f5 s') ∧ Heap.le (TH s') H') v0 v1 (f5 s) (TH s)) :
    L50_0 K v0 v1 v5 H := by
  unfold L50_0
  exact LoopV.mk s0 (fun s => [f5 s]) TH pre μ (fun _ => rfl) (Eq.mp (by kernel_rfl) h0) (fun s hs => Eq.mp (by kernel_rfl) (round s hs))
def D51 : Info := ⟨27, fun i => if i = 6 then ([[], [], [0, 1], [0, 1, 2], [], [], [4, 5], [4, 5, 6], [0, 1, 2, 3, 4, 5, 6, 7], [0, 1, 2, 3, 4, 5, 6, 7, 8]], [(0, []), (1, []), (2, []), (3, []), (4, []), (5, []), (6, []), (7, []), (8, []), (9, [])]) else ([], []), fun i => if i = 4 then ([0, 1], [5]) else ([], [])⟩
def L51_0 (K : AV → Heap → Prop) (v0 : AV) (v1 : AV) (v5 : AV) (H : Heap) : Prop := LoopV (wpC Tryz.prog tab D51 (cAt [1, 1, 0, 1, 0, 0] (bodyOf Tryz.f51))) [0, 1] (PostF.block 0 (PostF.thenA (wpC Tryz.prog tab D51 (cAt [1, 1, 1] (bodyOf Tryz.f51))) (retF tab [.tmp 4] K))) [5] [v0, v1, AV.any, AV.any, AV.any, v5, AV.any, AV.any, AV.any, AV.any, AV.any, AV.any, AV.any, AV.any, AV.any, AV.any, AV.any, AV.any, AV.any, AV.any, AV.any, AV.any, AV.any, AV.any, AV.any, AV.any, AV.any] H
def B51_0 (K : AV → Heap → Prop) (N1 : AV → Heap → Prop) (v0 : AV) (v1 : AV) (v5 : AV) (H : Heap) : Prop :=
 lenV tab 37 v0 fun v13 =>
 binV tab .lss 3 v5 v13 fun v14 =>
 condV v14 (indexAddrV tab 37 v0 v5 fun v19 =>
 loadV tab 106 v19 H fun v20 =>
 indexAddrV tab 37 v1 v5 fun v23 =>
 loadV tab 106 v23 H fun v24 =>
 CallT Tryz.prog 90 [v20, v24] H fun v25 H1 =>
 unV .not v25 fun v26 =>
 condV v26 (K (AV.p (.bool false)) H1)
 (binV tab .add 3 v5 (AV.p (.int .i64 1)) fun v16 =>
 N1 v16 H1))
 (K (AV.p (.bool true)) H)
def W51 (v0 : AV) (v1 : AV) (H : Heap) (K : AV → Heap → Prop) : Prop :=
 lenV tab 37 v0 fun v7 =>
 lenV tab 37 v1 fun v9 =>
 binV tab .neq 3 v7 v9 fun v10 =>
 condV v10 (K (AV.p (.bool false)) H)
 (L51_0 K v0 v1 (AV.p (.int .i64 0)) H)
theorem W51_wp (v0 : AV) (v1 : AV) (H : Heap) (K : AV → Heap → Prop) : wpC Tryz.prog tab D51 (bodyOf Tryz.f51) (retF tab [.tmp 4] K) (nthA [v0, v1]) H = W51 v0 v1 H K := by kernel_rfl
theorem W51_ok {v0 v1 : AV} {H : Heap} {K : AV → Heap → Prop} (h : W51 v0 v1 H K) : CallT Tryz.prog 51 [v0, v1] H K :=
  CallT.of_wp (D := D51) tab_ok mixed Tryz.func51 (c := bodyOf Tryz.f51) (by kernel_rfl) rfl (by kernel_rfl) (rs := #[.tmp 4]) rfl (by decide +kernel) (by kernel_rfl) (W51_wp v0 v1 H K) h
theorem L51_0_rule {K : AV → Heap → Prop} {v0 v1 v5 : AV} {H : Heap} {σ : Type} (s0 : σ) (f5 : σ → AV) (TH : σ → Heap) (pre : σ → Prop) (μ : σ → Nat)
    (h0 : pre s0 ∧ AV.wk v5 (f5 s0) ∧ Heap.le (TH s0) H)
    (round : ∀ s, pre s → B51_0 K (fun w5 H' => ∃ s', pre s' ∧ μ s' < μ s ∧ AV.wk w5 (f5 s') ∧ Heap.le (TH s') H') v0 v1 (f5 s) (TH s)) :
    L51_0 K v0 v1 v5 H := by
  unfold L51_0
  exact LoopV.mk s0 (fun s => [f5 s]) TH pre μ (fun _ => rfl) (Eq.mp (by kernel_rfl) h0) (fun s hs => Eq.mp (by kernel_rfl) (round s hs))
def D52 : Info := ⟨15, fun i => ([], []), fun i => ([], [])⟩
def W52 (v0 : AV) (v1 : AV) (v2 : AV) (H : Heap) (K : AV → Heap → Prop) : Prop :=
 binV tab .geq 3 v0 v1 fun v9 =>
 grdV v9 true (binV tab .leq 3 v0 v2 fun v13 =>
 K v13 H)
 (K (AV.p (.bool false)) H)
theorem W52_wp (v0 : AV) (v1 : AV) (v2 : AV) (H : Heap) (K : AV → Heap → Prop) : wpC Tryz.prog tab D52 (bodyOf Tryz.f52) (retF tab [.tmp 6] K) (nthA [v0, v1, v2]) H = W52 v0 v1 v2 H K := by kernel_rfl
theorem W52_ok {v0 v1 v2 : AV} {H : Heap} {K : AV → Heap → Prop} (h : W52 v0 v1 v2 H K) : CallT Tryz.prog 52 [v0, v1, v2] H K :=
  CallT.of_wp (D := D52) tab_ok mixed Tryz.func52 (c := bodyOf Tryz.f52) (by kernel_rfl) rfl (by kernel_rfl) (rs := #[.tmp 6]) rfl (by decide +kernel) (by kernel_rfl) (W52_wp v0 v1 v2 H K) h
def D53 : Info := ⟨10, fun i => ([], []), fun i => ([], [])⟩
def W53 (v0 : AV) (H : Heap) (K : AV → Heap → Prop) : Prop :=
 boxV v0 H fun v1 H1 =>
 fieldAddrV tab 35 v1 0 fun v3 =>
 loadV tab 3 v3 H1 fun v4 =>
 fieldAddrV tab 35 v1 1 fun v5 =>
 loadV tab 3 v5 H1 fun v6 =>
 binV tab .mul 3 v4 v6 fun v7 =>
 convV tab 3 114 v7 fun v8 =>
 binV tab .shl 3 (AV.p (.int .i64 1)) v8 fun v9 =>
 K v9 H1
theorem W53_wp (v0 : AV) (H : Heap) (K : AV → Heap → Prop) : wpC Tryz.prog tab D53 (bodyOf Tryz.f53) (retF tab [.tmp 2] K) (nthA [v0]) H = W53 v0 H K := by kernel_rfl
theorem W53_ok {v0 : AV} {H : Heap} {K : AV → Heap → Prop} (h : W53 v0 H K) : CallT Tryz.prog 53 [v0] H K :=
  CallT.of_wp (D := D53) tab_ok mixed Tryz.func53 (c := bodyOf Tryz.f53) (by kernel_rfl) rfl (by kernel_rfl) (rs := #[.tmp 2]) rfl (by decide +kernel) (by kernel_rfl) (W53_wp v0 H K) h
def D54 : Info := ⟨31, fun i => if i = 5 then ([[], [0], [], [], [3], [], [3, 4, 5], [0, 1, 2, 3, 4, 5, 6]], [(0, []), (1, []), (2, []), (3, []), (4, []), (5, []), (6, [1]), (7, [])]) else ([], []), fun i => if i = 3 then ([1, 2, 9, 10], [5, 11]) else ([], [])⟩
def L54_0 (K : AV → Heap → Prop) (v1 : AV) (v2 : AV) (v5 : AV) (v9 : AV) (v10 : AV) (v11 : AV) (H : Heap) : Prop := LoopV (wpC Tryz.prog tab D54 (cAt [1, 1, 0, 1, 0, 0] (bodyOf Tryz.f54))) [1, 2, 9, 10] (PostF.block 0 (PostF.thenA (wpC Tryz.prog tab D54 (cAt [1, 1, 1] (bodyOf Tryz.f54))) (retF tab [.tmp 4] K))) [5, 11] [AV.any, v1, v2, AV.any, AV.any, v5, AV.any, AV.any, AV.any, v9, v10, v11, AV.any, AV.any, AV.any, AV.any, AV.any, AV.any, AV.any, AV.any, AV.any, AV.any, AV.any, AV.any, AV.any, AV.any, AV.any, AV.any, AV.any, AV.any, AV.any] H
def B54_0 (K : AV → Heap → Prop) (N1 : AV → AV → Heap → Prop) (v1 : AV) (v2 : AV) (v5 : AV) (v9 : AV) (v10 : AV) (v11 : AV) (H : Heap) : Prop :=
 binV tab .lss 3 v11 v10 fun v12 =>
 condV v12 (indexAddrV tab 36 v9 v11 fun v14 =>
 loadV tab 32 v14 H fun v15 =>
 fieldAddrV tab 39 v2 0 fun v16 =>
 loadV tab 35 v16 H fun v17 =>
 fieldAddrV tab 39 v2 0 fun v19 =>
 loadV tab 35 v19 H fun v20 =>
 CallT Tryz.prog 92 [v20, v1] H fun v22 H2 =>
 (loadV tab 35 v16 H2 fun v9017 =>
 v17 = v9017) ∧
 CallT Tryz.prog 91 [v17, v15, v22] H2 fun v23 H3 =>
 condV v23 (convV tab 3 114 v11 fun v26 =>
 binV tab .shl 3 (AV.p (.int .i64 1)) v26 fun v27 =>
 binV tab .or 3 v5 v27 fun v28 =>
 binV tab .add 3 v11 (AV.p (.int .i64 1)) fun v29 =>
 N1 v28 v29 H3)
 (binV tab .add 3 v11 (AV.p (.int .i64 1)) fun v29 =>
 N1 v5 v29 H3))
 (K v5 H)
def W54 (v0 : AV) (v1 : AV) (H : Heap) (K : AV → Heap → Prop) : Prop :=
 boxV v0 H fun v2 H1 =>
 fieldAddrV tab 39 v2 1 fun v8 =>
 loadV tab 36 v8 H1 fun v9 =>
 lenV tab 36 v9 fun v10 =>
 L54_0 K v1 v2 (AV.p (.int .i64 0)) v9 v10 (AV.p (.int .i64 0)) H1
theorem W54_wp (v0 : AV) (v1 : AV) (H : Heap) (K : AV → Heap → Prop) : wpC Tryz.prog tab D54 (bodyOf Tryz.f54) (retF tab [.tmp 4] K) (nthA [v0, v1]) H = W54 v0 v1 H K := by kernel_rfl
theorem W54_ok {v0 v1 : AV} {H : Heap} {K : AV → Heap → Prop} (h : W54 v0 v1 H K) : CallT Tryz.prog 54 [v0, v1] H K :=
  CallT.of_wp (D := D54) tab_ok mixed Tryz.func54 (c := bodyOf Tryz.f54) (by kernel_rfl) rfl (by kernel_rfl) (rs := #[.tmp 4]) rfl (by decide +kernel) (by kernel_rfl) (W54_wp v0 v1 H K) h
theorem L54_0_rule {K : AV → Heap → Prop} {v1 v2 v5 v9 v10 v11 : AV} {H : Heap} {σ : Type} (s0 : σ) (f5 : σ → AV) (f11 : σ → AV) (TH : σ → Heap) (pre : σ → Prop) (μ : σ → Nat)
    (h0 : pre s0 ∧ AV.wk v5 (f5 s0) ∧ AV.wk v11 (f11 s0) ∧ Heap.le (TH s0) H)
    (round : ∀ s, pre s → B54_0 K (fun w5 w11 H' => ∃ s', pre s' ∧ μ s' < μ s ∧ AV.wk w5 (f5 s') ∧ AV.wk w11 (f11 s') ∧ Heap.le (TH s') H') v1 v2 (f5 s) v9 v10 (f11 s) (TH s)) :
    L54_0 K v1 v2 v5 v9 v10 v11 H := by
  unfold L54_0
  exact LoopV.mk s0 (fun s => [f5 s, f11 s]) TH pre μ (fun _ => rfl) (Eq.mp (by kernel_rfl) h0) (fun s hs => Eq.mp (by kernel_rfl) (round s hs))
def D56 : Info := ⟨32, fun i => ([], []), fun i => if i = 3 then ([2, 5, 14, 15], [6, 16]) else ([], [])⟩
def L56_0 (K : AV → Heap → Prop) (v2 : AV) (v5 : AV) (v6 : AV) (v14 : AV) (v15 : AV) (v16 : AV) (H : Heap) : Prop := LoopV (wpC Tryz.prog tab D56 (cAt [1, 1, 0, 1, 0, 0] (bodyOf Tryz.f56))) [2, 5, 14, 15] (PostF.block 0 (PostF.thenA (wpC Tryz.prog tab D56 (cAt [1, 1, 1] (bodyOf Tryz.f56))) (retF tab [.tmp 4] K))) [6, 16] [AV.any, AV.any, v2, AV.any, AV.any, v5, v6, AV.any, AV.any, AV.any, AV.any, AV.any, AV.any, AV.any, v14, v15, v16, AV.any, AV.any, AV.any, AV.any, AV.any, AV.any, AV.any, AV.any, AV.any, AV.any, AV.any, AV.any, AV.any, AV.any, AV.any] H
def B56_0 (K : AV → Heap → Prop) (N1 : AV → AV → Heap → Prop) (v2 : AV) (v5 : AV) (v6 : AV) (v14 : AV) (v15 : AV) (v16 : AV) (H : Heap) : Prop :=
 binV tab .lss 3 v16 v15 fun v17 =>
 condV v17 (indexAddrV tab 36 v14 v16 fun v19 =>
 loadV tab 32 v19 H fun v20 =>
 fieldAddrV tab 39 v2 0 fun v21 =>
 loadV tab 35 v21 H fun v22 =>
 CallT Tryz.prog 95 [v22, v20, v5] H fun v25 H3 =>
 condV v25 (binV tab .shl 3 (AV.p (.int .i64 1)) v16 fun v28 =>
 binV tab .or 3 v6 v28 fun v29 =>
 binV tab .add 3 v16 (AV.p (.int .i64 1)) fun v30 =>
 N1 v29 v30 H3)
 (binV tab .add 3 v16 (AV.p (.int .i64 1)) fun v30 =>
 N1 v6 v30 H3))
 (K v6 H)
def W56 (v0 : AV) (v1 : AV) (H : Heap) (K : AV → Heap → Prop) : Prop :=
 boxV v0 H fun v2 H1 =>
 fieldAddrV tab 39 v2 0 fun v9 =>
 loadV tab 35 v9 H1 fun v10 =>
 CallT Tryz.prog 94 [v10, v1] H1 fun v12 H2 =>
 fieldAddrV tab 39 v2 1 fun v13 =>
 loadV tab 36 v13 H2 fun v14 =>
 lenV tab 36 v14 fun v15 =>
 L56_0 K v2 v12 (AV.p (.int .i64 0)) v14 v15 (AV.p (.int .i64 0)) H2
theorem W56_wp (v0 : AV) (v1 : AV) (H : Heap) (K : AV → Heap → Prop) : wpC Tryz.prog tab D56 (bodyOf Tryz.f56) (retF tab [.tmp 4] K) (nthA [v0, v1]) H = W56 v0 v1 H K := by kernel_rfl
theorem W56_ok {v0 v1 : AV} {H : Heap} {K : AV → Heap → Prop} (h : W56 v0 v1 H K) : CallT Tryz.prog 56 [v0, v1] H K :=
  CallT.of_wp (D := D56) tab_ok mixed Tryz.func56 (c := bodyOf Tryz.f56) (by kernel_rfl) rfl (by kernel_rfl) (rs := #[.tmp 4]) rfl (by decide +kernel) (by kernel_rfl) (W56_wp v0 v1 H K) h
theorem L56_0_rule {K : AV → Heap → Prop} {v2 v5 v6 v14 v15 v16 : AV} {H : Heap} {σ : Type} (s0 : σ) (f6 : σ → AV) (f16 : σ → AV) (TH : σ → Heap) (pre : σ → Prop) (μ : σ → Nat)
    (h0 : pre s0 ∧ AV.wk v6 (f6 s0) ∧ AV.wk v16 (f16 s0) ∧ Heap.le (TH s0) H)
    (round : ∀ s, pre s → B56_0 K (fun w6 w16 H' => ∃ s', pre s' ∧ μ s' < μ s ∧ AV.wk w6 (f6 s') ∧ AV.wk w16 (f16 s') ∧ Heap.le (TH s') H') v2 v5 (f6 s) v14 v15 (f16 s) (TH s)) :
    L56_0 K v2 v5 v6 v14 v15 v16 H := by
  unfold L56_0
  exact LoopV.mk s0 (fun s => [f6 s, f16 s]) TH pre μ (fun _ => rfl) (Eq.mp (by kernel_rfl) h0) (fun s hs => Eq.mp (by kernel_rfl) (round s hs))
def D57 : Info := ⟨24, fun i => ([], []), fun i => ([], [])⟩
def W57 (v0 : AV) (v1 : AV) (v2 : AV) (H : Heap) (K : AV → Heap → Prop) : Prop :=
 boxV v0 H fun v3 H1 =>
 loadV tab 39 v3 H1 fun v7 =>
 CallT Tryz.prog 9 [v7] H1 fun v8 H2 =>
 grdV v8 true (loadV tab 39 v3 H2 fun v10 =>
 CallT Tryz.prog 96 [v10, v1] H2 fun v12 H3 =>
 grdV v12 true (loadV tab 39 v3 H3 fun v15 =>
 CallT Tryz.prog 96 [v15, v2] H3 fun v17 H4 =>
 grdV v17 true (lenV tab 46 v2 fun v21 =>
 binV tab .gtr 3 v21 (AV.p (.int .i64 0)) fun v22 =>
 K v22 H4)
 (K (AV.p (.bool false)) H4))
 (K (AV.p (.bool false)) H3))
 (K (AV.p (.bool false)) H2)
theorem W57_wp (v0 : AV) (v1 : AV) (v2 : AV) (H : Heap) (K : AV → Heap → Prop) : wpC Tryz.prog tab D57 (bodyOf Tryz.f57) (retF tab [.tmp 6] K) (nthA [v0, v1, v2]) H = W57 v0 v1 v2 H K := by kernel_rfl
theorem W57_ok {v0 v1 v2 : AV} {H : Heap} {K : AV → Heap → Prop} (h : W57 v0 v1 v2 H K) : CallT Tryz.prog 57 [v0, v1, v2] H K :=
  CallT.of_wp (D := D57) tab_ok mixed Tryz.func57 (c := bodyOf Tryz.f57) (by kernel_rfl) rfl (by kernel_rfl) (rs := #[.tmp 6]) rfl (by decide +kernel) (by kernel_rfl) (W57_wp v0 v1 v2 H K) h
def D58 : Info := ⟨49, fun i => if i = 1 then ([[], [0], [], [0, 1, 2], [], [4], [4, 5], [4, 5, 6], [0, 1, 2, 3, 4, 5, 6, 7], [0, 1, 2, 3, 4, 5, 6, 7, 8]], [(0, []), (2, []), (4, []), (5, []), (6, []), (1, [7, 6]), (3, [7, 6]), (7, [7]), (8, []), (9, [])]) else if i = 2 then ([[], [0], [], [2], [2, 3], [0, 1, 2, 3, 4], [], [6], [6, 7], [0, 1, 2, 3, 4, 5, 6, 7, 8], [0, 1, 2, 3, 4, 5, 6, 7, 8, 9]], [(0, []), (1, []), (2, []), (3, []), (4, []), (6, []), (7, []), (8, []), (5, [8]), (9, []), (10, [])]) else if i = 7 then ([[], [0], [], [], [3], [2, 3, 4], [2, 3, 4, 5], [0, 1, 2, 3, 4, 5, 6], [], [], [8, 9], [8, 9, 10], [0, 1, 2, 3, 4, 5, 6, 7, 8, 9, 10, 11], [0, 1, 2, 3, 4, 5, 6, 7, 8, 9, 10, 11, 12]], [(0, []), (1, []), (2, []), (3, []), (4, []), (5, []), (6, []), (8, []), (9, []), (10, []), (11, []), (7, [11]), (12, []), (13, [])]) else ([], []), fun i => if i = 5 then ([3, 7], [8]) else ([], [])⟩
def L58_0 (K : AV → Heap → Prop) (v3 : AV) (v7 : AV) (v8 : AV) (H : Heap) : Prop := LoopV (wpC Tryz.prog tab D58 (cAt [1, 1, 1, 0, 1, 0, 0] (bodyOf Tryz.f58))) [3, 7] (PostF.block 0 (PostF.thenA (wpC Tryz.prog tab D58 (cAt [1, 1, 1, 1] (bodyOf Tryz.f58))) (retF tab [.tmp 6] K))) [8] [AV.any, AV.any, AV.any, v3, AV.any, AV.any, AV.any, v7, v8, AV.any, AV.any, AV.any, AV.any, AV.any, AV.any, AV.any, AV.any, AV.any, AV.any, AV.any, AV.any, AV.any, AV.any, AV.any, AV.any, AV.any, AV.any, AV.any, AV.any, AV.any, AV.any, AV.any, AV.any, AV.any, AV.any, AV.any, AV.any, AV.any, AV.any, AV.any, AV.any, AV.any, AV.any, AV.any, AV.any, AV.any, AV.any, AV.any, AV.any] H
def B58_0 (K : AV → Heap → Prop) (N1 : AV → Heap → Prop) (v3 : AV) (v7 : AV) (v8 : AV) (H : Heap) : Prop :=
 lenV tab 46 v7 fun v31 =>
 binV tab .lss 3 v8 v31 fun v32 =>
 condV v32 (fieldAddrV tab 39 v3 0 fun v35 =>
 loadV tab 35 v35 H fun v36 =>
 binV tab .sub 3 v8 (AV.p (.int .i64 1)) fun v39 =>
 indexAddrV tab 46 v7 v39 fun v40 =>
 loadV tab 3 v40 H fun v41 =>
 indexAddrV tab 46 v7 v8 fun v45 =>
 loadV tab 3 v45 H fun v46 =>
 CallT Tryz.prog 99 [v36, v41] H fun v42 H8 =>
 (loadV tab 3 v45 H8 fun v9046 =>
 v46 = v9046) ∧
 CallT Tryz.prog 98 [v42, v46] H8 fun v47 H9 =>
 unV .not v47 fun v48 =>
 condV v48 (K (AV.p (.bool false)) H9)
 (binV tab .add 3 v8 (AV.p (.int .i64 1)) fun v34 =>
 N1 v34 H9))
 (K (AV.p (.bool true)) H)
def W58 (v0 : AV) (v1 : AV) (v2 : AV) (H : Heap) (K : AV → Heap → Prop) : Prop :=
 boxV v0 H fun v3 H1 =>
 indexAddrV tab 46 v2 (AV.p (.int .i64 0)) fun v14 =>
 loadV tab 3 v14 H1 fun v15 =>
 safeV (buildN tab 46 1 [(0, v15)]) ∧
 CallT Tryz.prog 97 [v1] H1 fun v10 H2 =>
 (loadV tab 3 v14 H2 fun v9015 =>
 v15 = v9015) ∧
 safeV (buildN tab 46 1 [(0, v15)]) ∧
 appendV tab 46 46 v10 v2 H2 (wkK fun v12 H3 =>
 (loadV tab 3 v14 H3 fun v9015 =>
 v15 = v9015) ∧
 newV (buildN tab 46 1 [(0, v15)]) H3 fun v16 H4 =>
 appendV tab 46 46 v12 v16 H4 (wkK fun v17 H5 =>
 fieldAddrV tab 39 v3 0 fun v18 =>
 loadV tab 35 v18 H5 fun v19 =>
 fieldAddrV tab 39 v3 0 fun v20 =>
 fieldAddrV tab 35 v20 2 fun v21 =>
 loadV tab 32 v21 H5 fun v22 =>
 indexAddrV tab 46 v17 (AV.p (.int .i64 0)) fun v25 =>
 loadV tab 3 v25 H5 fun v26 =>
 CallT Tryz.prog 70 [v19, v22] H5 fun v23 H6 =>
 (loadV tab 3 v25 H6 fun v9026 =>
 v26 = v9026) ∧
 CallT Tryz.prog 98 [v23, v26] H6 fun v27 H7 =>
 unV .not v27 fun v28 =>
 condV v28 (K (AV.p (.bool false)) H7)
 (L58_0 K v3 v17 (AV.p (.int .i64 1)) H7)))
theorem W58_wp (v0 : AV) (v1 : AV) (v2 : AV) (H : Heap) (K : AV → Heap → Prop) : wpC Tryz.prog tab D58 (bodyOf Tryz.f58) (retF tab [.tmp 6] K) (nthA [v0, v1, v2]) H = W58 v0 v1 v2 H K := by kernel_rfl
theorem W58_ok {v0 v1 v2 : AV} {H : Heap} {K : AV → Heap → Prop} (h : W58 v0 v1 v2 H K) : CallT Tryz.prog 58 [v0, v1, v2] H K :=
  CallT.of_wp (D := D58) tab_ok mixed Tryz.func58 (c := bodyOf Tryz.f58) (by kernel_rfl) rfl (by kernel_rfl) (rs := #[.tmp 6]) rfl (by decide +kernel) (by kernel_rfl) (W58_wp v0 v1 v2 H K) h
theorem L58_0_rule {K : AV → Heap → Prop} {v3 v7 v8 : AV} {H : Heap} {σ : Type} (s0 : σ) (f8 : σ → AV) (TH : σ → Heap) (pre : σ → Prop) (μ : σ → Nat)
    (h0 : pre s0 ∧ AV.wk v8 (f8 s0) ∧ Heap.le (TH s0) H)
    (round : ∀ s, pre s → B58_0 K (fun w8 H' => ∃ s', pre s' ∧ μ s' < μ s ∧ AV.wk w8 (f8 s') ∧ Heap.le (TH s') H') v3 v7 (f8 s) (TH s)) :
    L58_0 K v3 v7 v8 H := by
  unfold L58_0
  exact LoopV.mk s0 (fun s => [f8 s]) TH pre μ (fun _ => rfl) (Eq.mp (by kernel_rfl) h0) (fun s hs => Eq.mp (by kernel_rfl) (round s hs))
def D59 : Info := ⟨36, fun i => ([], []), fun i => ([], [])⟩
def W59 (v0 : AV) (v1 : AV) (v2 : AV) (H : Heap) (K : AV → Heap → Prop) : Prop :=
 boxV v0 H fun v3 H1 =>
 loadV tab 39 v3 H1 fun v8 =>
 CallT Tryz.prog 11 [v8] H1 fun v9 H2 =>
 unV .not v9 fun v10 =>
 grdV v10 false (lenV tab 46 v1 fun v13 =>
 binV tab .gtr 3 v13 (AV.p (.int .i64 2000)) fun v14 =>
 grdV v14 false (lenV tab 46 v2 fun v18 =>
 binV tab .lss 3 v18 (AV.p (.int .i64 1)) fun v19 =>
 grdV v19 false (lenV tab 46 v2 fun v23 =>
 binV tab .gtr 3 v23 (AV.p (.int .i64 2000)) fun v24 =>
 condV v24 (K (AV.p (.bool false)) H2)
 (fieldAddrV tab 39 v3 0 fun v26 =>
 loadV tab 35 v26 H2 fun v27 =>
 CallT Tryz.prog 93 [v27] H2 fun v28 H3 =>
 allocV tab 3 H3 fun v7 H4 =>
 storeV tab 3 v7 v28 H4 fun H5 =>
 buildSliceV tab 60 2 [(0, v1), (1, v2)] H5 (wkK fun v31 H6 =>
 CallT Tryz.prog 101 [v31] H6 fun v32 H7 =>
 CallT Tryz.prog 100 [v32, (.fn 102 [v7])] H7 fun v34 H8 =>
 unV .not v34 fun v35 =>
 K v35 H8)))
 (K (AV.p (.bool false)) H2))
 (K (AV.p (.bool false)) H2))
 (K (AV.p (.bool false)) H2)
theorem W59_wp (v0 : AV) (v1 : AV) (v2 : AV) (H : Heap) (K : AV → Heap → Prop) : wpC Tryz.prog tab D59 (bodyOf Tryz.f59) (retF tab [.tmp 6] K) (nthA [v0, v1, v2]) H = W59 v0 v1 v2 H K := by kernel_rfl
theorem W59_ok {v0 v1 v2 : AV} {H : Heap} {K : AV → Heap → Prop} (h : W59 v0 v1 v2 H K) : CallT Tryz.prog 59 [v0, v1, v2] H K :=
  CallT.of_wp (D := D59) tab_ok mixed Tryz.func59 (c := bodyOf Tryz.f59) (by kernel_rfl) rfl (by kernel_rfl) (rs := #[.tmp 6]) rfl (by decide +kernel) (by kernel_rfl) (W59_wp v0 v1 v2 H K) h
def D60 : Info := ⟨51, fun i => if i = 1 then ([[], [], [], [2], [0, 1, 2, 3], [0, 1, 2, 3, 4], [], [6], [0, 1, 2, 3, 4, 5, 6, 7], [0, 1, 2, 3, 4, 5, 6, 7, 8], [0, 1, 2, 3, 4, 5, 6, 7, 8, 9]], [(0, []), (1, []), (2, []), (3, []), (6, []), (7, []), (4, [7]), (5, [7]), (8, []), (9, []), (10, [])]) else if i = 5 then ([[], [], [], [2], [1, 2, 3], [1, 2, 3, 4], [0, 1, 2, 3, 4, 5], [0, 1, 2, 3, 4, 5, 6], [], [], [8, 9], [8, 9, 10], [0, 1, 2, 3, 4, 5, 6, 7, 8, 9, 10, 11], [0, 1, 2, 3, 4, 5, 6, 7, 8, 9, 10, 11, 12]], [(0, []), (1, []), (2, []), (3, []), (4, []), (5, []), (6, []), (7, []), (8, []), (9, []), (10, []), (11, []), (12, []), (13, [])]) else if i = 7 then ([[], [0], [], [2], [2, 3], [], [5], [], [7], [7, 8], [5, 6, 7, 8, 9], [0, 1, 2, 3, 4, 5, 6, 7, 8, 9, 10], [0, 1, 2, 3, 4, 5, 6, 7, 8, 9, 10, 11]], [(0, []), (1, []), (2, []), (3, []), (4, []), (5, []), (6, []), (7, []), (8, []), (9, []), (10, [1, 4]), (11, []), (12, [])]) else ([], []), fun i => if i = 3 then ([3, 7, 8], [9]) else ([], [])⟩
def L60_0 (K : AV → Heap → Prop) (v3 : AV) (v7 : AV) (v8 : AV) (v9 : AV) (H : Heap) : Prop := LoopV (wpC Tryz.prog tab D60 (cAt [1, 1, 0, 1, 0, 0] (bodyOf Tryz.f60))) [3, 7, 8] (PostF.block 0 (PostF.thenA (wpC Tryz.prog tab D60 (cAt [1, 1, 1] (bodyOf Tryz.f60))) (retF tab [.tmp 6] K))) [9] [AV.any, AV.any, AV.any, v3, AV.any, AV.any, AV.any, v7, v8, v9, AV.any, AV.any, AV.any, AV.any, AV.any, AV.any, AV.any, AV.any, AV.any, AV.any, AV.any, AV.any, AV.any, AV.any, AV.any, AV.any, AV.any, AV.any, AV.any, AV.any, AV.any, AV.any, AV.any, AV.any, AV.any, AV.any, AV.any, AV.any, AV.any, AV.any, AV.any, AV.any, AV.any, AV.any, AV.any, AV.any, AV.any, AV.any, AV.any, AV.any, AV.any] H
def B60_0 (K : AV → Heap → Prop) (N1 : AV → Heap → Prop) (v3 : AV) (v7 : AV) (v8 : AV) (v9 : AV) (H : Heap) : Prop :=
 lenV tab 46 v7 fun v21 =>
 binV tab .lss 3 v9 v21 fun v22 =>
 condV v22 (binV tab .sub 3 v9 (AV.p (.int .i64 1)) fun v28 =>
 indexAddrV tab 46 v7 v28 fun v29 =>
 loadV tab 3 v29 H fun v30 =>
 indexAddrV tab 60 v8 v30 fun v31 =>
 loadV tab 46 v31 H fun v32 =>
 indexAddrV tab 46 v7 v9 fun v35 =>
 loadV tab 3 v35 H fun v36 =>
 CallT Tryz.prog 104 [v32, v36] H fun v37 H5 =>
 unV .not v37 fun v38 =>
 condV v38 (K (AV.p (.bool false)) H5)
 (binV tab .add 3 v9 (AV.p (.int .i64 1)) fun v24 =>
 N1 v24 H5))
 (fieldAddrV tab 39 v3 0 fun v39 =>
 loadV tab 35 v39 H fun v40 =>
 fieldAddrV tab 39 v3 0 fun v41 =>
 fieldAddrV tab 35 v41 2 fun v42 =>
 loadV tab 32 v42 H fun v43 =>
 fieldAddrV tab 39 v3 0 fun v44 =>
 loadV tab 35 v44 H fun v45 =>
 indexAddrV tab 46 v7 (AV.p (.int .i64 0)) fun v47 =>
 loadV tab 3 v47 H fun v48 =>
 CallT Tryz.prog 94 [v45, v48] H fun v49 H6 =>
 (loadV tab 35 v39 H6 fun v9040 =>
 v40 = v9040) ∧
 (loadV tab 32 v42 H6 fun v9043 =>
 v43 = v9043) ∧
 CallT Tryz.prog 95 [v40, v43, v49] H6 fun v50 H7 =>
 K v50 H7)
def W60 (v0 : AV) (v1 : AV) (v2 : AV) (H : Heap) (K : AV → Heap → Prop) : Prop :=
 boxV v0 H fun v3 H1 =>
 sliceV tab 46 v2 none (some (AV.p (.int .i64 1))) none fun v13 =>
 fieldAddrV tab 39 v3 0 fun v16 =>
 loadV tab 35 v16 H1 fun v17 =>
 buildSliceV tab 60 3 [(0, v1), (1, v2), (2, v13)] H1 (wkK fun v14 H2 =>
 (loadV tab 35 v16 H2 fun v9017 =>
 v17 = v9017) ∧
 CallT Tryz.prog 101 [v14] H2 fun v15 H3 =>
 (loadV tab 35 v16 H3 fun v9017 =>
 v17 = v9017) ∧
 CallT Tryz.prog 103 [v17] H3 fun v18 H4 =>
 L60_0 K v3 v15 v18 (AV.p (.int .i64 1)) H4)
theorem W60_wp (v0 : AV) (v1 : AV) (v2 : AV) (H : Heap) (K : AV → Heap → Prop) : wpC Tryz.prog tab D60 (bodyOf Tryz.f60) (retF tab [.tmp 6] K) (nthA [v0, v1, v2]) H = W60 v0 v1 v2 H K := by kernel_rfl
theorem W60_ok {v0 v1 v2 : AV} {H : Heap} {K : AV → Heap → Prop} (h : W60 v0 v1 v2 H K) : CallT Tryz.prog 60 [v0, v1, v2] H K :=
  CallT.of_wp (D := D60) tab_ok mixed Tryz.func60 (c := bodyOf Tryz.f60) (by kernel_rfl) rfl (by kernel_rfl) (rs := #[.tmp 6]) rfl (by decide +kernel) (by kernel_rfl) (W60_wp v0 v1 v2 H K) h
theorem L60_0_rule {K : AV → Heap → Prop} {v3 v7 v8 v9 : AV} {H : Heap} {σ : Type} (s0 : σ) (f9 : σ → AV) (TH : σ → Heap) (pre : σ → Prop) (μ : σ → Nat)
    (h0 : pre s0 ∧ AV.wk v9 (f9 s0) ∧ Heap.le (TH s0) H)
    (round : ∀ s, pre s → B60_0 K (fun w9 H' => ∃ s', pre s' ∧ μ s' < μ s ∧ AV.wk w9 (f9 s') ∧ Heap.le (TH s') H') v3 v7 v8 (f9 s) (TH s)) :
    L60_0 K v3 v7 v8 v9 H := by
  unfold L60_0
  exact LoopV.mk s0 (fun s => [f9 s]) TH pre μ (fun _ => rfl) (Eq.mp (by kernel_rfl) h0) (fun s hs => Eq.mp (by kernel_rfl) (round s hs))
def D61 : Info := ⟨9, fun i => ([], []), fun i => ([], [])⟩
def W61 (v0 : AV) (H : Heap) (K : AV → Heap → Prop) : Prop :=
 boxV v0 H fun v1 H1 =>
 allocV tab 53 H1 fun v2 H2 =>
 loadV tab 53 v1 H2 fun v4 =>
 CallT Tryz.prog 105 [v4] H2 fun v5 H3 =>
 unV .not v5 fun v6 =>
 condV v6 (buildV tab 53 [] fun v7 =>
 storeV tab 53 v2 v7 H3 fun H4 =>
 loadV tab 53 v2 H4 fun r0 =>
 K (.tup [r0, (AV.p (.bool false))]) H4)
 (loadV tab 53 v1 H3 fun v8 =>
 storeV tab 53 v2 v8 H3 fun H5 =>
 loadV tab 53 v2 H5 fun r0 =>
 K (.tup [r0, (AV.p (.bool true))]) H5)
theorem W61_wp (v0 : AV) (H : Heap) (K : AV → Heap → Prop) : wpC Tryz.prog tab D61 (bodyOf Tryz.f61) (retF tab [.cell 2 53, .tmp 3] K) (nthA [v0]) H = W61 v0 H K := by kernel_rfl
theorem W61_ok {v0 : AV} {H : Heap} {K : AV → Heap → Prop} (h : W61 v0 H K) : CallT Tryz.prog 61 [v0] H K :=
  CallT.of_wp (D := D61) tab_ok mixed Tryz.func61 (c := bodyOf Tryz.f61) (by kernel_rfl) rfl (by kernel_rfl) (rs := #[.cell 2 53, .tmp 3]) rfl (by decide +kernel) (by kernel_rfl) (W61_wp v0 H K) h
def D62 : Info := ⟨43, fun i => if i = 5 then ([[], [0], [], [], [2, 3], [2, 3, 4], [0, 1, 2, 3, 4, 5], [0, 1, 2, 3, 4, 5, 6], [0, 1, 2, 3, 4, 5, 6, 7]], [(0, []), (1, []), (2, []), (3, []), (4, [1]), (5, [1]), (6, []), (7, []), (8, [])]) else if i = 10 then ([[], [0], [], [], [2, 3], [2, 3, 4], [0, 1, 2, 3, 4, 5], [0, 1, 2, 3, 4, 5, 6], [0, 1, 2, 3, 4, 5, 6, 7]], [(0, []), (1, []), (2, []), (3, []), (4, [1]), (5, [1]), (6, []), (7, []), (8, [])]) else ([], []), fun i => if i = 3 then ([2, 3, 6, 7, 12, 13], [14]) else if i = 8 then ([3, 6, 7, 27, 28], [29]) else ([], [])⟩
def L62_0 (K : AV → Heap → Prop) (v2 : AV) (v3 : AV) (v6 : AV) (v7 : AV) (v12 : AV) (v13 : AV) (v14 : AV) (H : Heap) : Prop := LoopV (wpC Tryz.prog tab D62 (cAt [1, 1, 0, 1, 0, 0] (bodyOf Tryz.f62))) [2, 3, 6, 7, 12, 13] (PostF.block 0 (PostF.thenA (wpC Tryz.prog tab D62 (cAt [1, 1, 1] (bodyOf Tryz.f62))) (retF tab [.cell 6 53] K))) [14] [AV.any, AV.any, v2, v3, AV.any, AV.any, v6, v7, AV.any, AV.any, AV.any, AV.any, v12, v13, v14, AV.any, AV.any, AV.any, AV.any, AV.any, AV.any, AV.any, AV.any, AV.any, AV.any, AV.any, AV.any, AV.any, AV.any, AV.any, AV.any, AV.any, AV.any, AV.any, AV.any, AV.any, AV.any, AV.any, AV.any, AV.any, AV.any, AV.any, AV.any] H
def L62_1 (K : AV → Heap → Prop) (v3 : AV) (v6 : AV) (v7 : AV) (v27 : AV) (v28 : AV) (v29 : AV) (H : Heap) : Prop := LoopV (wpC Tryz.prog tab D62 (cAt [1, 1, 1, 0, 1, 0, 0] (bodyOf Tryz.f62))) [3, 6, 7, 27, 28] (PostF.block 2 (PostF.thenA (wpC Tryz.prog tab D62 (cAt [1, 1, 1, 1] (bodyOf Tryz.f62))) (retF tab [.cell 6 53] K))) [29] [AV.any, AV.any, AV.any, v3, AV.any, AV.any, v6, v7, AV.any, AV.any, AV.any, AV.any, AV.any, AV.any, AV.any, AV.any, AV.any, AV.any, AV.any, AV.any, AV.any, AV.any, AV.any, AV.any, AV.any, AV.any, AV.any, v27, v28, v29, AV.any, AV.any, AV.any, AV.any, AV.any, AV.any, AV.any, AV.any, AV.any, AV.any, AV.any, AV.any, AV.any] H
def B62_1 (K : AV → Heap → Prop) (N1 : AV → Heap → Prop) (v3 : AV) (v6 : AV) (v7 : AV) (v27 : AV) (v28 : AV) (v29 : AV) (H : Heap) : Prop :=
 binV tab .lss 3 v29 v28 fun v30 =>
 condV v30 (indexAddrV tab 46 v27 v29 fun v31 =>
 loadV tab 3 v31 H fun v32 =>
 fieldAddrV tab 53 v7 1 fun v33 =>
 loadV tab 46 v33 H fun v34 =>
 loadV tab 39 v3 H fun v35 =>
 CallT Tryz.prog 54 [v35, v32] H fun v37 H8 =>
 (loadV tab 46 v33 H8 fun v9034 =>
 v34 = v9034) ∧
 buildSliceV tab 46 1 [(0, v37)] H8 (wkK fun v38 H9 =>
 (loadV tab 46 v33 H9 fun v9034 =>
 v34 = v9034) ∧
 appendV tab 46 46 v34 v38 H9 (wkK fun v39 H10 =>
 fieldAddrV tab 53 v7 1 fun v40 =>
 storeV tab 46 v40 v39 H10 fun H11 =>
 binV tab .add 3 v29 (AV.p (.int .i64 1)) fun v41 =>
 N1 v41 H11)))
 (loadV tab 53 v7 H fun v42 =>
 storeV tab 53 v6 v42 H fun H12 =>
 loadV tab 53 v6 H12 fun r0 =>
 K r0 H12)
def B62_0 (K : AV → Heap → Prop) (N1 : AV → Heap → Prop) (v2 : AV) (v3 : AV) (v6 : AV) (v7 : AV) (v12 : AV) (v13 : AV) (v14 : AV) (H : Heap) : Prop :=
 binV tab .lss 3 v14 v13 fun v15 =>
 condV v15 (indexAddrV tab 46 v12 v14 fun v16 =>
 loadV tab 3 v16 H fun v17 =>
 fieldAddrV tab 53 v7 0 fun v18 =>
 loadV tab 46 v18 H fun v19 =>
 loadV tab 39 v3 H fun v20 =>
 CallT Tryz.prog 54 [v20, v17] H fun v22 H4 =>
 (loadV tab 46 v18 H4 fun v9019 =>
 v19 = v9019) ∧
 buildSliceV tab 46 1 [(0, v22)] H4 (wkK fun v23 H5 =>
 (loadV tab 46 v18 H5 fun v9019 =>
 v19 = v9019) ∧
 appendV tab 46 46 v19 v23 H5 (wkK fun v24 H6 =>
 fieldAddrV tab 53 v7 0 fun v25 =>
 storeV tab 46 v25 v24 H6 fun H7 =>
 binV tab .add 3 v14 (AV.p (.int .i64 1)) fun v26 =>
 N1 v26 H7)))
 (lenV tab 46 v2 fun v28 =>
 L62_1 K v3 v6 v7 v2 v28 (AV.p (.int .i64 0)) H)
def W62 (v0 : AV) (v1 : AV) (v2 : AV) (H : Heap) (K : AV → Heap → Prop) : Prop :=
 boxV v0 H fun v3 H1 =>
 allocV tab 53 H1 fun v6 H2 =>
 allocV tab 53 H2 fun v7 H3 =>
 lenV tab 46 v1 fun v13 =>
 L62_0 K v2 v3 v6 v7 v1 v13 (AV.p (.int .i64 0)) H3
theorem W62_wp (v0 : AV) (v1 : AV) (v2 : AV) (H : Heap) (K : AV → Heap → Prop) : wpC Tryz.prog tab D62 (bodyOf Tryz.f62) (retF tab [.cell 6 53] K) (nthA [v0, v1, v2]) H = W62 v0 v1 v2 H K := by kernel_rfl
theorem W62_ok {v0 v1 v2 : AV} {H : Heap} {K : AV → Heap → Prop} (h : W62 v0 v1 v2 H K) : CallT Tryz.prog 62 [v0, v1, v2] H K :=
  CallT.of_wp (D := D62) tab_ok mixed Tryz.func62 (c := bodyOf Tryz.f62) (by kernel_rfl) rfl (by kernel_rfl) (rs := #[.cell 6 53]) rfl (by decide +kernel) (by kernel_rfl) (W62_wp v0 v1 v2 H K) h
theorem L62_1_rule {K : AV → Heap → Prop} {v3 v6 v7 v27 v28 v29 : AV} {H : Heap} {σ : Type} (s0 : σ) (f29 : σ → AV) (TH : σ → Heap) (pre : σ → Prop) (μ : σ → Nat)
    (h0 : pre s0 ∧ AV.wk v29 (f29 s0) ∧ Heap.le (TH s0) H)
    (round : ∀ s, pre s → B62_1 K (fun w29 H' => ∃ s', pre s' ∧ μ s' < μ s ∧ AV.wk w29 (f29 s') ∧ Heap.le (TH s') H') v3 v6 v7 v27 v28 (f29 s) (TH s)) :
    L62_1 K v3 v6 v7 v27 v28 v29 H := by
  unfold L62_1
  exact LoopV.mk s0 (fun s => [f29 s]) TH pre μ (fun _ => rfl) (Eq.mp (by kernel_rfl) h0) (fun s hs => Eq.mp (by kernel_rfl) (round s hs))
theorem L62_0_rule {K : AV → Heap → Prop} {v2 v3 v6 v7 v12 v13 v14 : AV} {H : Heap} {σ : Type} (s0 : σ) (f14 : σ → AV) (TH : σ → Heap) (pre : σ → Prop) (μ : σ → Nat)
    (h0 : pre s0 ∧ AV.wk v14 (f14 s0) ∧ Heap.le (TH s0) H)
    (round : ∀ s, pre s → B62_0 K (fun w14 H' => ∃ s', pre s' ∧ μ s' < μ s ∧ AV.wk w14 (f14 s') ∧ Heap.le (TH s') H') v2 v3 v6 v7 v12 v13 (f14 s) (TH s)) :
    L62_0 K v2 v3 v6 v7 v12 v13 v14 H := by
  unfold L62_0
  exact LoopV.mk s0 (fun s => [f14 s]) TH pre μ (fun _ => rfl) (Eq.mp (by kernel_rfl) h0) (fun s hs => Eq.mp (by kernel_rfl) (round s hs))
def D63 : Info := ⟨9, fun i => ([], []), fun i => ([], [])⟩
def W63 (v0 : AV) (H : Heap) (K : AV → Heap → Prop) : Prop :=
 boxV v0 H fun v1 H1 =>
 allocV tab 53 H1 fun v2 H2 =>
 loadV tab 53 v1 H2 fun v4 =>
 CallT Tryz.prog 106 [v4] H2 fun v5 H3 =>
 unV .not v5 fun v6 =>
 condV v6 (buildV tab 53 [] fun v7 =>
 storeV tab 53 v2 v7 H3 fun H4 =>
 loadV tab 53 v2 H4 fun r0 =>
 K (.tup [r0, (AV.p (.bool false))]) H4)
 (loadV tab 53 v1 H3 fun v8 =>
 storeV tab 53 v2 v8 H3 fun H5 =>
 loadV tab 53 v2 H5 fun r0 =>
 K (.tup [r0, (AV.p (.bool true))]) H5)
theorem W63_wp (v0 : AV) (H : Heap) (K : AV → Heap → Prop) : wpC Tryz.prog tab D63 (bodyOf Tryz.f63) (retF tab [.cell 2 53, .tmp 3] K) (nthA [v0]) H = W63 v0 H K := by kernel_rfl
theorem W63_ok {v0 : AV} {H : Heap} {K : AV → Heap → Prop} (h : W63 v0 H K) : CallT Tryz.prog 63 [v0] H K :=
  CallT.of_wp (D := D63) tab_ok mixed Tryz.func63 (c := bodyOf Tryz.f63) (by kernel_rfl) rfl (by kernel_rfl) (rs := #[.cell 2 53, .tmp 3]) rfl (by decide +kernel) (by kernel_rfl) (W63_wp v0 H K) h
def D64 : Info := ⟨23, fun i => ([], []), fun i => if i = 3 then ([2, 9, 10], [5, 11]) else ([], [])⟩
def L64_0 (K : AV → Heap → Prop) (v2 : AV) (v5 : AV) (v9 : AV) (v10 : AV) (v11 : AV) (H : Heap) : Prop := LoopV (wpC Tryz.prog tab D64 (cAt [1, 1, 0, 1, 0, 0] (bodyOf Tryz.f64))) [2, 9, 10] (PostF.block 0 (PostF.thenA (wpC Tryz.prog tab D64 (cAt [1, 1, 1] (bodyOf Tryz.f64))) (retF tab [.tmp 4] K))) [5, 11] [AV.any, AV.any, v2, AV.any, AV.any, v5, AV.any, AV.any, AV.any, v9, v10, v11, AV.any, AV.any, AV.any, AV.any, AV.any, AV.any, AV.any, AV.any, AV.any, AV.any, AV.any] H
def B64_0 (K : AV → Heap → Prop) (N1 : AV → AV → Heap → Prop) (v2 : AV) (v5 : AV) (v9 : AV) (v10 : AV) (v11 : AV) (H : Heap) : Prop :=
 binV tab .lss 3 v11 v10 fun v12 =>
 condV v12 (indexAddrV tab 46 v9 v11 fun v13 =>
 loadV tab 3 v13 H fun v14 =>
 loadV tab 39 v2 H fun v16 =>
 CallT Tryz.prog 56 [v16, v14] H fun v18 H3 =>
 buildSliceV tab 46 1 [(0, v18)] H3 (wkK fun v19 H4 =>
 appendV tab 46 46 v5 v19 H4 (wkK fun v20 H5 =>
 binV tab .add 3 v11 (AV.p (.int .i64 1)) fun v21 =>
 N1 v20 v21 H5)))
 (K v5 H)
def W64 (v0 : AV) (v1 : AV) (H : Heap) (K : AV → Heap → Prop) : Prop :=
 boxV v0 H fun v2 H1 =>
 buildSliceV tab 46 0 [] H1 (wkK fun v8 H2 =>
 lenV tab 46 v1 fun v10 =>
 L64_0 K v2 v8 v1 v10 (AV.p (.int .i64 0)) H2)
theorem W64_wp (v0 : AV) (v1 : AV) (H : Heap) (K : AV → Heap → Prop) : wpC Tryz.prog tab D64 (bodyOf Tryz.f64) (retF tab [.tmp 4] K) (nthA [v0, v1]) H = W64 v0 v1 H K := by kernel_rfl
theorem W64_ok {v0 v1 : AV} {H : Heap} {K : AV → Heap → Prop} (h : W64 v0 v1 H K) : CallT Tryz.prog 64 [v0, v1] H K :=
  CallT.of_wp (D := D64) tab_ok mixed Tryz.func64 (c := bodyOf Tryz.f64) (by kernel_rfl) rfl (by kernel_rfl) (rs := #[.tmp 4]) rfl (by decide +kernel) (by kernel_rfl) (W64_wp v0 v1 H K) h
theorem L64_0_rule {K : AV → Heap → Prop} {v2 v5 v9 v10 v11 : AV} {H : Heap} {σ : Type} (s0 : σ) (f5 : σ → AV) (f11 : σ → AV) (TH : σ → Heap) (pre : σ → Prop) (μ : σ → Nat)
    (h0 : pre s0 ∧ AV.wk v5 (f5 s0) ∧ AV.wk v11 (f11 s0) ∧ Heap.le (TH s0) H)
    (round : ∀ s, pre s → B64_0 K (fun w5 w11 H' => ∃ s', pre s' ∧ μ s' < μ s ∧ AV.wk w5 (f5 s') ∧ AV.wk w11 (f11 s') ∧ Heap.le (TH s') H') v2 (f5 s) v9 v10 (f11 s) (TH s)) :
    L64_0 K v2 v5 v9 v10 v11 H := by
  unfold L64_0
  exact LoopV.mk s0 (fun s => [f5 s, f11 s]) TH pre μ (fun _ => rfl) (Eq.mp (by kernel_rfl) h0) (fun s hs => Eq.mp (by kernel_rfl) (round s hs))
def D65 : Info := ⟨14, fun i => ([], []), fun i => ([], [])⟩
def W65 (v0 : AV) (v1 : AV) (H : Heap) (K : AV → Heap → Prop) : Prop :=
 boxV v0 H fun v2 H1 =>
 fieldAddrV tab 35 v2 2 fun v5 =>
 loadV tab 32 v5 H1 fun v6 =>
 CallT Tryz.prog 107 [v6, v1] H1 fun v8 H2 =>
 fieldAddrV tab 35 v2 3 fun v9 =>
 loadV tab 33 v9 H2 fun v10 =>
 CallT Tryz.prog 108 [v10, v8] H2 fun v12 H3 =>
 K v12 H3
theorem W65_wp (v0 : AV) (v1 : AV) (H : Heap) (K : AV → Heap → Prop) : wpC Tryz.prog tab D65 (bodyOf Tryz.f65) (retF tab [.tmp 4] K) (nthA [v0, v1]) H = W65 v0 v1 H K := by kernel_rfl
theorem W65_ok {v0 v1 : AV} {H : Heap} {K : AV → Heap → Prop} (h : W65 v0 v1 H K) : CallT Tryz.prog 65 [v0, v1] H K :=
  CallT.of_wp (D := D65) tab_ok mixed Tryz.func65 (c := bodyOf Tryz.f65) (by kernel_rfl) rfl (by kernel_rfl) (rs := #[.tmp 4]) rfl (by decide +kernel) (by kernel_rfl) (W65_wp v0 v1 H K) h
def D66 : Info := ⟨19, fun i => ([], []), fun i => if i = 2 then ([0], [1, 5]) else ([], [])⟩
def L66_0 (K : AV → Heap → Prop) (v0 : AV) (v1 : AV) (v5 : AV) (H : Heap) : Prop := LoopV (wpC Tryz.prog tab D66 (cAt [1, 0, 1, 0, 0] (bodyOf Tryz.f66))) [0] (PostF.block 0 (PostF.thenA (wpC Tryz.prog tab D66 (cAt [1, 1] (bodyOf Tryz.f66))) (retF tab [.tmp 4] K))) [1, 5] [v0, v1, AV.any, AV.any, AV.any, v5, AV.any, AV.any, AV.any, AV.any, AV.any, AV.any, AV.any, AV.any, AV.any, AV.any, AV.any, AV.any, AV.any] H
def B66_0 (K : AV → Heap → Prop) (N1 : AV → AV → Heap → Prop) (v0 : AV) (v1 : AV) (v5 : AV) (H : Heap) : Prop :=
 lenV tab 36 v0 fun v8 =>
 binV tab .lss 3 v5 v8 fun v9 =>
 condV v9 (indexAddrV tab 36 v0 v5 fun v14 =>
 loadV tab 32 v14 H fun v15 =>
 CallT Tryz.prog 107 [v15, v1] H fun v17 H1 =>
 binV tab .add 3 v5 (AV.p (.int .i64 1)) fun v11 =>
 N1 v17 v11 H1)
 (K v1 H)
def W66 (v0 : AV) (v1 : AV) (H : Heap) (K : AV → Heap → Prop) : Prop :=
 L66_0 K v0 v1 (AV.p (.int .i64 0)) H
theorem W66_wp (v0 : AV) (v1 : AV) (H : Heap) (K : AV → Heap → Prop) : wpC Tryz.prog tab D66 (bodyOf Tryz.f66) (retF tab [.tmp 4] K) (nthA [v0, v1]) H = W66 v0 v1 H K := by kernel_rfl
theorem W66_ok {v0 v1 : AV} {H : Heap} {K : AV → Heap → Prop} (h : W66 v0 v1 H K) : CallT Tryz.prog 66 [v0, v1] H K :=
  CallT.of_wp (D := D66) tab_ok mixed Tryz.func66 (c := bodyOf Tryz.f66) (by kernel_rfl) rfl (by kernel_rfl) (rs := #[.tmp 4]) rfl (by decide +kernel) (by kernel_rfl) (W66_wp v0 v1 H K) h
theorem L66_0_rule {K : AV → Heap → Prop} {v0 v1 v5 : AV} {H : Heap} {σ : Type} (s0 : σ) (f1 : σ → AV) (f5 : σ → AV) (TH : σ → Heap) (pre : σ → Prop) (μ : σ → Nat)
    (h0 : pre s0 ∧ AV.wk v1 (f1 s0) ∧ AV.wk v5 (f5 s0) ∧ Heap.le (TH s0) H)
    (round : ∀ s, pre s → B66_0 K (fun w1 w5 H' => ∃ s', pre s' ∧ μ s' < μ s ∧ AV.wk w1 (f1 s') ∧ AV.wk w5 (f5 s') ∧ Heap.le (TH s') H') v0 (f1 s) (f5 s) (TH s)) :
    L66_0 K v0 v1 v5 H := by
  unfold L66_0
  exact LoopV.mk s0 (fun s => [f1 s, f5 s]) TH pre μ (fun _ => rfl) (Eq.mp (by kernel_rfl) h0) (fun s hs => Eq.mp (by kernel_rfl) (round s hs))
def D67 : Info := ⟨27, fun i => ([], []), fun i => if i = 2 then ([0], [1, 5]) else ([], [])⟩
def L67_0 (K : AV → Heap → Prop) (v0 : AV) (v1 : AV) (v5 : AV) (H : Heap) : Prop := LoopV (wpC Tryz.prog tab D67 (cAt [1, 0, 1, 0, 0] (bodyOf Tryz.f67))) [0] (PostF.block 0 (PostF.thenA (wpC Tryz.prog tab D67 (cAt [1, 1] (bodyOf Tryz.f67))) (retF tab [.tmp 4] K))) [1, 5] [v0, v1, AV.any, AV.any, AV.any, v5, AV.any, AV.any, AV.any, AV.any, AV.any, AV.any, AV.any, AV.any, AV.any, AV.any, AV.any, AV.any, AV.any, AV.any, AV.any, AV.any, AV.any, AV.any, AV.any, AV.any, AV.any] H
def B67_0 (K : AV → Heap → Prop) (N1 : AV → AV → Heap → Prop) (v0 : AV) (v1 : AV) (v5 : AV) (H : Heap) : Prop :=
 lenV tab 37 v0 fun v8 =>
 binV tab .lss 3 v5 v8 fun v9 =>
 condV v9 (indexAddrV tab 37 v0 v5 fun v15 =>
 fieldAddrV tab 106 v15 0 fun v16 =>
 storeV tab 3 v16 v1 H fun H1 =>
 binV tab .add 3 v1 (AV.p (.int .i64 1)) fun v18 =>
 indexAddrV tab 37 v0 v5 fun v22 =>
 fieldAddrV tab 106 v22 1 fun v23 =>
 storeV tab 3 v23 v18 H1 fun H2 =>
 binV tab .add 3 v18 (AV.p (.int .i64 1)) fun v25 =>
 binV tab .add 3 v5 (AV.p (.int .i64 1)) fun v11 =>
 N1 v25 v11 H2)
 (K v1 H)
def W67 (v0 : AV) (v1 : AV) (H : Heap) (K : AV → Heap → Prop) : Prop :=
 L67_0 K v0 v1 (AV.p (.int .i64 0)) H
theorem W67_wp (v0 : AV) (v1 : AV) (H : Heap) (K : AV → Heap → Prop) : wpC Tryz.prog tab D67 (bodyOf Tryz.f67) (retF tab [.tmp 4] K) (nthA [v0, v1]) H = W67 v0 v1 H K := by kernel_rfl
theorem W67_ok {v0 v1 : AV} {H : Heap} {K : AV → Heap → Prop} (h : W67 v0 v1 H K) : CallT Tryz.prog 67 [v0, v1] H K :=
  CallT.of_wp (D := D67) tab_ok mixed Tryz.func67 (c := bodyOf Tryz.f67) (by kernel_rfl) rfl (by kernel_rfl) (rs := #[.tmp 4]) rfl (by decide +kernel) (by kernel_rfl) (W67_wp v0 v1 H K) h
theorem L67_0_rule {K : AV → Heap → Prop} {v0 v1 v5 : AV} {H : Heap} {σ : Type} (s0 : σ) (f1 : σ → AV) (f5 : σ → AV) (TH : σ → Heap) (pre : σ → Prop) (μ : σ → Nat)
    (h0 : pre s0 ∧ AV.wk v1 (f1 s0) ∧ AV.wk v5 (f5 s0) ∧ Heap.le (TH s0) H)
    (round : ∀ s, pre s → B67_0 K (fun w1 w5 H' => ∃ s', pre s' ∧ μ s' < μ s ∧ AV.wk w1 (f1 s') ∧ AV.wk w5 (f5 s') ∧ Heap.le (TH s') H') v0 (f1 s) (f5 s) (TH s)) :
    L67_0 K v0 v1 v5 H := by
  unfold L67_0
  exact LoopV.mk s0 (fun s => [f1 s, f5 s]) TH pre μ (fun _ => rfl) (Eq.mp (by kernel_rfl) h0) (fun s hs => Eq.mp (by kernel_rfl) (round s hs))
def D70 : Info := ⟨24, fun i => if i = 5 then ([[], [], [], [], [2, 3], [0, 1, 2, 3, 4]], [(0, []), (1, []), (2, []), (3, []), (4, [0]), (5, [])]) else ([], []), fun i => if i = 3 then ([1, 2], [5, 6]) else ([], [])⟩
def L70_0 (K : AV → Heap → Prop) (v1 : AV) (v2 : AV) (v5 : AV) (v6 : AV) (H : Heap) : Prop := LoopV (wpC Tryz.prog tab D70 (cAt [1, 1, 0, 1, 0, 0] (bodyOf Tryz.f70))) [1, 2] (PostF.block 0 (PostF.thenA (wpC Tryz.prog tab D70 (cAt [1, 1, 1] (bodyOf Tryz.f70))) (retF tab [.tmp 4] K))) [5, 6] [AV.any, v1, v2, AV.any, AV.any, v5, v6, AV.any, AV.any, AV.any, AV.any, AV.any, AV.any, AV.any, AV.any, AV.any, AV.any, AV.any, AV.any, AV.any, AV.any, AV.any, AV.any, AV.any] H
def B70_0 (K : AV → Heap → Prop) (N1 : AV → AV → Heap → Prop) (v1 : AV) (v2 : AV) (v5 : AV) (v6 : AV) (H : Heap) : Prop :=
 loadV tab 35 v2 H fun v8 =>
 CallT Tryz.prog 53 [v8] H fun v9 H2 =>
 binV tab .lss 3 v6 v9 fun v10 =>
 condV v10 (loadV tab 35 v2 H2 fun v13 =>
 loadV tab 35 v2 H2 fun v15 =>
 CallT Tryz.prog 92 [v15, v6] H2 fun v17 H3 =>
 (loadV tab 35 v2 H3 fun v9013 =>
 v13 = v9013) ∧
 CallT Tryz.prog 91 [v13, v1, v17] H3 fun v18 H4 =>
 condV v18 (buildSliceV tab 46 1 [(0, v6)] H4 (wkK fun v21 H5 =>
 appendV tab 46 46 v5 v21 H5 (wkK fun v22 H6 =>
 binV tab .add 3 v6 (AV.p (.int .i64 1)) fun v12 =>
 N1 v22 v12 H6)))
 (binV tab .add 3 v6 (AV.p (.int .i64 1)) fun v12 =>
 N1 v5 v12 H4))
 (K v5 H2)
def W70 (v0 : AV) (v1 : AV) (H : Heap) (K : AV → Heap → Prop) : Prop :=
 boxV v0 H fun v2 H1 =>
 L70_0 K v1 v2 (AV.p .nil) (AV.p (.int .i64 0)) H1
theorem W70_wp (v0 : AV) (v1 : AV) (H : Heap) (K : AV → Heap → Prop) : wpC Tryz.prog tab D70 (bodyOf Tryz.f70) (retF tab [.tmp 4] K) (nthA [v0, v1]) H = W70 v0 v1 H K := by kernel_rfl
theorem W70_ok {v0 v1 : AV} {H : Heap} {K : AV → Heap → Prop} (h : W70 v0 v1 H K) : CallT Tryz.prog 70 [v0, v1] H K :=
  CallT.of_wp (D := D70) tab_ok mixed Tryz.func70 (c := bodyOf Tryz.f70) (by kernel_rfl) rfl (by kernel_rfl) (rs := #[.tmp 4]) rfl (by decide +kernel) (by kernel_rfl) (W70_wp v0 v1 H K) h
theorem W70_hb : HasBody Tryz.prog 70 := ⟨_, bodyOf Tryz.f70, Tryz.func70, by kernel_rfl, rfl⟩
theorem L70_0_rule {K : AV → Heap → Prop} {v1 v2 v5 v6 : AV} {H : Heap} {σ : Type} (s0 : σ) (f5 : σ → AV) (f6 : σ → AV) (TH : σ → Heap) (pre : σ → Prop) (μ : σ → Nat)
    (h0 : pre s0 ∧ AV.wk v5 (f5 s0) ∧ AV.wk v6 (f6 s0) ∧ Heap.le (TH s0) H)
    (round : ∀ s, pre s → B70_0 K (fun w5 w6 H' => ∃ s', pre s' ∧ μ s' < μ s ∧ AV.wk w5 (f5 s') ∧ AV.wk w6 (f6 s') ∧ Heap.le (TH s') H') v1 v2 (f5 s) (f6 s) (TH s)) :
    L70_0 K v1 v2 v5 v6 H := by
  unfold L70_0
  exact LoopV.mk s0 (fun s => [f5 s, f6 s]) TH pre μ (fun _ => rfl) (Eq.mp (by kernel_rfl) h0) (fun s hs => Eq.mp (by kernel_rfl) (round s hs))
def D74 : Info := ⟨12, fun i => ([], []), fun i => ([], [])⟩
def W74 (v0 : AV) (v1 : AV) (H : Heap) (K : AV → Heap → Prop) : Prop :=
 lenV tab 22 v0 fun v7 =>
 binV tab .sub 3 v1 v7 fun v8 =>
 binV tab .lss 3 v8 (AV.p (.int .i64 0)) fun v10 =>
 condV v10 (K (AV.p (.int .i64 (-1))) H)
 (K v8 H)
theorem W74_wp (v0 : AV) (v1 : AV) (H : Heap) (K : AV → Heap → Prop) : wpC Tryz.prog tab D74 (bodyOf Tryz.f74) (retF tab [.tmp 4] K) (nthA [v0, v1]) H = W74 v0 v1 H K := by kernel_rfl
theorem W74_ok {v0 v1 : AV} {H : Heap} {K : AV → Heap → Prop} (h : W74 v0 v1 H K) : CallT Tryz.prog 74 [v0, v1] H K :=
  CallT.of_wp (D := D74) tab_ok mixed Tryz.func74 (c := bodyOf Tryz.f74) (by kernel_rfl) rfl (by kernel_rfl) (rs := #[.tmp 4]) rfl (by decide +kernel) (by kernel_rfl) (W74_wp v0 v1 H K) h
def D75 : Info := ⟨27, fun i => ([], []), fun i => if i = 5 then ([0], [1, 5]) else ([], [])⟩
def L75_0 (K : AV → Heap → Prop) (v0 : AV) (v1 : AV) (v5 : AV) (H : Heap) : Prop := LoopV (wpC Tryz.prog tab D75 (cAt [1, 1, 1, 0, 1, 0, 0] (bodyOf Tryz.f75))) [0] (PostF.block 0 (PostF.thenA (wpC Tryz.prog tab D75 (cAt [1, 1, 1, 1] (bodyOf Tryz.f75))) (retF tab [.tmp 4] K))) [1, 5] [v0, v1, AV.any, AV.any, AV.any, v5, AV.any, AV.any, AV.any, AV.any, AV.any, AV.any, AV.any, AV.any, AV.any, AV.any, AV.any, AV.any, AV.any, AV.any, AV.any, AV.any, AV.any, AV.any, AV.any, AV.any, AV.any] H
def B75_0 (K : AV → Heap → Prop) (N1 : AV → AV → Heap → Prop) (v0 : AV) (v1 : AV) (v5 : AV) (H : Heap) : Prop :=
 lenV tab 23 v0 fun v14 =>
 binV tab .lss 3 v5 v14 fun v15 =>
 condV v15 (indexAddrV tab 23 v0 v5 fun v20 =>
 loadV tab 147 v20 H fun v21 =>
 CallT Tryz.prog 119 [v21, v1] H fun v23 H1 =>
 binV tab .lss 3 v23 (AV.p (.int .i64 0)) fun v25 =>
 condV v25 (K (AV.p (.int .i64 (-1))) H1)
 (binV tab .add 3 v5 (AV.p (.int .i64 1)) fun v17 =>
 N1 v23 v17 H1))
 (K v1 H)
def W75 (v0 : AV) (v1 : AV) (H : Heap) (K : AV → Heap → Prop) : Prop :=
 lenV tab 23 v0 fun v8 =>
 binV tab .sub 3 v1 v8 fun v9 =>
 binV tab .lss 3 v9 (AV.p (.int .i64 0)) fun v11 =>
 condV v11 (K (AV.p (.int .i64 (-1))) H)
 (L75_0 K v0 v9 (AV.p (.int .i64 0)) H)
theorem W75_wp (v0 : AV) (v1 : AV) (H : Heap) (K : AV → Heap → Prop) : wpC Tryz.prog tab D75 (bodyOf Tryz.f75) (retF tab [.tmp 4] K) (nthA [v0, v1]) H = W75 v0 v1 H K := by kernel_rfl
theorem W75_ok {v0 v1 : AV} {H : Heap} {K : AV → Heap → Prop} (h : W75 v0 v1 H K) : CallT Tryz.prog 75 [v0, v1] H K :=
  CallT.of_wp (D := D75) tab_ok mixed Tryz.func75 (c := bodyOf Tryz.f75) (by kernel_rfl) rfl (by kernel_rfl) (rs := #[.tmp 4]) rfl (by decide +kernel) (by kernel_rfl) (W75_wp v0 v1 H K) h
theorem L75_0_rule {K : AV → Heap → Prop} {v0 v1 v5 : AV} {H : Heap} {σ : Type} (s0 : σ) (f1 : σ → AV) (f5 : σ → AV) (TH : σ → Heap) (pre : σ → Prop) (μ : σ → Nat)
    (h0 : pre s0 ∧ AV.wk v1 (f1 s0) ∧ AV.wk v5 (f5 s0) ∧ Heap.le (TH s0) H)
    (round : ∀ s, pre s → B75_0 K (fun w1 w5 H' => ∃ s', pre s' ∧ μ s' < μ s ∧ AV.wk w1 (f1 s') ∧ AV.wk w5 (f5 s') ∧ Heap.le (TH s') H') v0 (f1 s) (f5 s) (TH s)) :
    L75_0 K v0 v1 v5 H := by
  unfold L75_0
  exact LoopV.mk s0 (fun s => [f1 s, f5 s]) TH pre μ (fun _ => rfl) (Eq.mp (by kernel_rfl) h0) (fun s hs => Eq.mp (by kernel_rfl) (round s hs))
end Go.Proofs.YtgcklgeifdefhaaGreat
