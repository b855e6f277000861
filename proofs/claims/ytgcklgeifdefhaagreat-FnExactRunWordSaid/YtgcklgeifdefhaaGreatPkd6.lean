/- Texts laid together: W24 W25 W26 WA Lb0 Lb1a Lb3 Pt1. -/
import Derived.Test.YtgcklgeifdefhaaGreatPkd5
import Derived.KernelRfl
set_option linter.unusedVariables false
set_option linter.unusedSimpArgs false
open Nat renaming reduceAdd → ν1, reduceLeDiff → ν2, reduceLT → ν3, reduceMul → ν4, reduceSub → ν5
open Int renaming reduceToNat → ι1, reduceSub → ι2, reduceAdd → ι3, reduceNeg → ι4
open Array renaming toList → ι5
open Ne renaming symm → ν6
open List renaming forall_mem_cons → ν7
namespace Go.Proofs.YtgcklgeifdefhaaGreat
open Go Go.Sep
attribute [local irreducible] wpC headF
def D126 : Info := ⟨30, fun i => ([], []), fun i => ([], [])⟩
def W126 (v0 : AV) (v1 : AV) (v2 : AV) (H : Heap) (K : AV → Heap → Prop) : Prop :=
 boxV v2 H fun v5 H1 =>
 fieldAddrV tab 155 v5 0 fun v7 =>
 loadV tab 3 v7 H1 fun v8 =>
 binV tab .eql 3 v8 (AV.p (.int .i64 1)) fun v10 =>
 condV v10 (fieldAddrV tab 155 v5 1 fun v12 =>
 loadV tab 153 v12 H1 fun v13 =>
 CallT Tryz.prog 166 [v0, v13] H1 fun v14 H2 =>
 K v14 H2)
 (binV tab .eql 3 v8 (AV.p (.int .i64 2)) fun v16 =>
 condV v16 (fieldAddrV tab 155 v5 1 fun v17 =>
 loadV tab 153 v17 H1 fun v18 =>
 convV tab 3 153 v1 fun v20 =>
 binV tab .lss 153 v18 v20 fun v21 =>
 K v21 H1)
 (binV tab .eql 3 v8 (AV.p (.int .i64 20)) fun v23 =>
 condV v23 (fieldAddrV tab 155 v5 1 fun v24 =>
 loadV tab 153 v24 H1 fun v25 =>
 binV tab .lss 153 v25 (AV.p (.int .u64 2)) fun v26 =>
 K v26 H1)
 (fieldAddrV tab 155 v5 1 fun v27 =>
 loadV tab 153 v27 H1 fun v28 =>
 binV tab .eql 153 v28 (AV.p (.int .u64 0)) fun v29 =>
 K v29 H1)))
theorem W126_wp (v0 : AV) (v1 : AV) (v2 : AV) (H : Heap) (K : AV → Heap → Prop) : wpC Tryz.prog tab D126 (bodyOf Tryz.f126) (retF tab [.tmp 6] K) (nthA [v0, v1, v2]) H = W126 v0 v1 v2 H K := by kernel_rfl
theorem W126_ok {v0 v1 v2 : AV} {H : Heap} {K : AV → Heap → Prop} (h : W126 v0 v1 v2 H K) : CallT Tryz.prog 126 [v0, v1, v2] H K :=
  CallT.of_wp (D := D126) tab_ok mixed Tryz.func126 (c := bodyOf Tryz.f126) (by kernel_rfl) rfl (by kernel_rfl) (rs := #[.tmp 6]) rfl (by decide +kernel) (by kernel_rfl) (W126_wp v0 v1 v2 H K) h
def D127 : Info := ⟨11, fun i => ([], []), fun i => ([], [])⟩
def W127 (v0 : AV) (H : Heap) (K : AV → Heap → Prop) : Prop :=
 boxV v0 H fun v1 H1 =>
 allocV tab 155 H1 fun v2 H2 =>
 allocV tab 155 H2 fun v3 H3 =>
 fieldAddrV tab 160 v1 0 fun v4 =>
 loadV tab 3 v4 H3 fun v5 =>
 fieldAddrV tab 155 v3 0 fun v6 =>
 storeV tab 3 v6 v5 H3 fun H4 =>
 fieldAddrV tab 160 v1 1 fun v7 =>
 loadV tab 153 v7 H4 fun v8 =>
 fieldAddrV tab 155 v3 1 fun v9 =>
 storeV tab 153 v9 v8 H4 fun H5 =>
 loadV tab 155 v3 H5 fun v10 =>
 storeV tab 155 v2 v10 H5 fun H6 =>
 loadV tab 155 v2 H6 fun r0 =>
 K r0 H6
theorem W127_wp (v0 : AV) (H : Heap) (K : AV → Heap → Prop) : wpC Tryz.prog tab D127 (bodyOf Tryz.f127) (retF tab [.cell 2 155] K) (nthA [v0]) H = W127 v0 H K := by kernel_rfl
theorem W127_ok {v0 : AV} {H : Heap} {K : AV → Heap → Prop} (h : W127 v0 H K) : CallT Tryz.prog 127 [v0] H K :=
  CallT.of_wp (D := D127) tab_ok mixed Tryz.func127 (c := bodyOf Tryz.f127) (by kernel_rfl) rfl (by kernel_rfl) (rs := #[.cell 2 155]) rfl (by decide +kernel) (by kernel_rfl) (W127_wp v0 H K) h
def D128 : Info := ⟨13, fun i => ([], []), fun i => ([], [])⟩
def W128 (v0 : AV) (H : Heap) (K : AV → Heap → Prop) : Prop :=
 boxV v0 H fun v1 H1 =>
 allocV tab 150 H1 fun v2 H2 =>
 allocV tab 150 H2 fun v3 H3 =>
 fieldAddrV tab 147 v1 0 fun v4 =>
 loadV tab 22 v4 H3 fun v5 =>
 CallT Tryz.prog 80 [v5] H3 fun v6 H4 =>
 fieldAddrV tab 150 v3 0 fun v7 =>
 storeV tab 32 v7 v6 H4 fun H5 =>
 fieldAddrV tab 147 v1 1 fun v8 =>
 loadV tab 145 v8 H5 fun v9 =>
 CallT Tryz.prog 167 [v9] H5 fun v10 H6 =>
 fieldAddrV tab 150 v3 1 fun v11 =>
 storeV tab 148 v11 v10 H6 fun H7 =>
 loadV tab 150 v3 H7 fun v12 =>
 storeV tab 150 v2 v12 H7 fun H8 =>
 loadV tab 150 v2 H8 fun r0 =>
 K r0 H8
theorem W128_wp (v0 : AV) (H : Heap) (K : AV → Heap → Prop) : wpC Tryz.prog tab D128 (bodyOf Tryz.f128) (retF tab [.cell 2 150] K) (nthA [v0]) H = W128 v0 H K := by kernel_rfl
theorem W128_ok {v0 : AV} {H : Heap} {K : AV → Heap → Prop} (h : W128 v0 H K) : CallT Tryz.prog 128 [v0] H K :=
  CallT.of_wp (D := D128) tab_ok mixed Tryz.func128 (c := bodyOf Tryz.f128) (by kernel_rfl) rfl (by kernel_rfl) (rs := #[.cell 2 150]) rfl (by decide +kernel) (by kernel_rfl) (W128_wp v0 H K) h
def D129 : Info := ⟨9, fun i => ([], []), fun i => ([], [])⟩
def W129 (v0 : AV) (H : Heap) (K : AV → Heap → Prop) : Prop :=
 binV tab .geq 3 v0 (AV.p (.int .i64 1)) fun v4 =>
 grdV v4 true (binV tab .leq 3 v0 (AV.p (.int .i64 64)) fun v7 =>
 K v7 H)
 (K (AV.p (.bool false)) H)
theorem W129_wp (v0 : AV) (H : Heap) (K : AV → Heap → Prop) : wpC Tryz.prog tab D129 (bodyOf Tryz.f129) (retF tab [.tmp 2] K) (nthA [v0]) H = W129 v0 H K := by kernel_rfl
theorem W129_ok {v0 : AV} {H : Heap} {K : AV → Heap → Prop} (h : W129 v0 H K) : CallT Tryz.prog 129 [v0] H K :=
  CallT.of_wp (D := D129) tab_ok mixed Tryz.func129 (c := bodyOf Tryz.f129) (by kernel_rfl) rfl (by kernel_rfl) (rs := #[.tmp 2]) rfl (by decide +kernel) (by kernel_rfl) (W129_wp v0 H K) h
def D130 : Info := ⟨9, fun i => ([], []), fun i => ([], [])⟩
def W130 (v0 : AV) (H : Heap) (K : AV → Heap → Prop) : Prop :=
 binV tab .geq 3 v0 (AV.p (.int .i64 1)) fun v4 =>
 grdV v4 true (binV tab .leq 3 v0 (AV.p (.int .i64 4)) fun v7 =>
 K v7 H)
 (K (AV.p (.bool false)) H)
theorem W130_wp (v0 : AV) (H : Heap) (K : AV → Heap → Prop) : wpC Tryz.prog tab D130 (bodyOf Tryz.f130) (retF tab [.tmp 2] K) (nthA [v0]) H = W130 v0 H K := by kernel_rfl
theorem W130_ok {v0 : AV} {H : Heap} {K : AV → Heap → Prop} (h : W130 v0 H K) : CallT Tryz.prog 130 [v0] H K :=
  CallT.of_wp (D := D130) tab_ok mixed Tryz.func130 (c := bodyOf Tryz.f130) (by kernel_rfl) rfl (by kernel_rfl) (rs := #[.tmp 2]) rfl (by decide +kernel) (by kernel_rfl) (W130_wp v0 H K) h
def D131 : Info := ⟨9, fun i => ([], []), fun i => ([], [])⟩
def W131 (v0 : AV) (v1 : AV) (H : Heap) (K : AV → Heap → Prop) : Prop :=
 CallT Tryz.prog 168 [v0, v1] H fun v7 H1 =>
 binV tab .geq 3 v7 (AV.p (.int .i64 0)) fun v8 =>
 K v8 H1
theorem W131_wp (v0 : AV) (v1 : AV) (H : Heap) (K : AV → Heap → Prop) : wpC Tryz.prog tab D131 (bodyOf Tryz.f131) (retF tab [.tmp 4] K) (nthA [v0, v1]) H = W131 v0 v1 H K := by kernel_rfl
theorem W131_ok {v0 v1 : AV} {H : Heap} {K : AV → Heap → Prop} (h : W131 v0 v1 H K) : CallT Tryz.prog 131 [v0, v1] H K :=
  CallT.of_wp (D := D131) tab_ok mixed Tryz.func131 (c := bodyOf Tryz.f131) (by kernel_rfl) rfl (by kernel_rfl) (rs := #[.tmp 4]) rfl (by decide +kernel) (by kernel_rfl) (W131_wp v0 v1 H K) h
def D132 : Info := ⟨8, fun i => ([], []), fun i => ([], [])⟩
def W132 (v0 : AV) (v1 : AV) (H : Heap) (K : AV → Heap → Prop) : Prop :=
 boxV v0 H fun v2 H1 =>
 loadV tab 35 v1 H1 fun v4 =>
 loadV tab 150 v2 H1 fun v5 =>
 CallT Tryz.prog 133 [v4, v5] H1 fun v6 H2 =>
 unV .not v6 fun v7 =>
 K v7 H2
theorem W132_wp (v0 : AV) (v1 : AV) (H : Heap) (K : AV → Heap → Prop) : wpC Tryz.prog tab D132 (bodyOf Tryz.f132) (retF tab [.tmp 3] K) (nthA [v0, v1]) H = W132 v0 v1 H K := by kernel_rfl
theorem W132_ok {v0 v1 : AV} {H : Heap} {K : AV → Heap → Prop} (h : W132 v0 v1 H K) : CallT Tryz.prog 132 [v0, v1] H K :=
  CallT.of_wp (D := D132) tab_ok mixed Tryz.func132 (c := bodyOf Tryz.f132) (by kernel_rfl) rfl (by kernel_rfl) (rs := #[.tmp 3]) rfl (by decide +kernel) (by kernel_rfl) (W132_wp v0 v1 H K) h
def D133 : Info := ⟨57, fun i => if i = 6 then ([[], [0], [0, 1], [0, 1, 2], [0, 1, 2, 3], [0, 1, 2, 3, 4], [0, 1, 2, 3], [0, 1, 2, 3, 6], [0, 1, 2, 3, 4, 5, 6, 7], [0, 1, 2, 3, 4, 5, 6, 7, 8], [0, 1, 2, 3, 4, 5, 6, 7, 8, 9], [0, 1, 2, 3, 4, 5, 6, 7, 8, 9, 10], [0, 1, 2, 3, 4, 5, 6, 7, 8, 9, 10, 11], [0, 1, 2, 3, 4, 5, 6, 7, 8, 9, 10, 11, 12], [0, 1, 2, 3, 4, 5, 6, 7, 8, 9, 10, 11, 12, 13], [0, 1, 2, 3, 4, 5, 6, 7, 8, 9, 10, 11, 12, 13, 14], [0, 1, 2, 3, 4, 5, 6, 7, 8, 9, 10, 11, 12, 13], [0, 1, 2, 3, 4, 5, 6, 7, 8, 9, 10, 11, 12, 13, 16], [0, 1, 2, 3, 4, 5, 6, 7, 8, 9, 10, 11, 12, 13, 14, 15, 16, 17], [0, 1, 2, 3, 4, 5, 6, 7, 8, 9, 10, 11, 12, 13, 14, 15, 16, 17, 18], [0, 1, 2, 3, 4, 5, 6, 7, 8, 9, 10, 11, 12, 13, 14, 15, 16, 17, 18, 19], [0, 1, 2, 3, 4, 5, 6, 7, 8, 9, 10, 11, 12, 13], [0, 1, 2, 3, 4, 5, 6, 7, 8, 9, 10, 11, 12, 13, 21], [0, 1, 2, 3, 4, 5, 6, 7, 8, 9, 10, 11, 12, 13, 14, 15, 16, 17, 18, 19, 20, 21, 22], [0, 1, 2, 3, 4, 5, 6, 7, 8, 9, 10, 11, 12, 13, 14, 15, 16, 17, 18, 19, 20, 21, 22, 23], [0, 1, 2, 3, 4, 5, 6, 7, 8, 9, 10, 11, 12, 13, 14, 15, 16, 17, 18, 19, 20, 21, 22, 23, 24], [0, 1, 2, 3, 4, 5, 6, 7, 8, 9, 10, 11, 12, 13, 14, 15, 16, 17, 18, 19, 20, 21, 22, 23, 24, 25], [0, 1, 2, 3, 4, 5, 6, 7, 8, 9, 10, 11, 12, 13, 14, 15, 16, 17, 18, 19, 20, 21, 22, 23, 24, 25, 26], [0, 1, 2, 3, 4, 5, 6, 7, 8, 9, 10, 11, 12, 13, 14, 15, 16, 17, 18, 19, 20, 21, 22, 23, 24, 25, 26, 27], [0, 1, 2, 3, 4, 5, 6, 7, 8, 9, 10, 11, 12, 13, 14, 15, 16, 17, 18, 19, 20, 21, 22, 23, 24, 25, 26], [0, 1, 2, 3, 4, 5, 6, 7, 8, 9, 10, 11, 12, 13, 14, 15, 16, 17, 18, 19, 20, 21, 22, 23, 24, 25, 26, 29], [0, 1, 2, 3, 4, 5, 6, 7, 8, 9, 10, 11, 12, 13, 14, 15, 16, 17, 18, 19, 20, 21, 22, 23, 24, 25, 26], [0, 1, 2, 3, 4, 5, 6, 7, 8, 9, 10, 11, 12, 13, 14, 15, 16, 17, 18, 19, 20, 21, 22, 23, 24, 25, 26, 31], [0, 1, 2, 3, 4, 5, 6, 7, 8, 9, 10, 11, 12, 13, 14, 15, 16, 17, 18, 19, 20, 21, 22, 23, 24, 25, 26, 27, 28, 29, 30, 31, 32], [0, 1, 2, 3, 4, 5, 6, 7, 8, 9, 10, 11, 12, 13, 14, 15, 16, 17, 18, 19, 20, 21, 22, 23, 24, 25, 26, 27, 28, 29, 30, 31, 32, 33], [0, 1, 2, 3, 4, 5, 6, 7, 8, 9, 10, 11, 12, 13, 14, 15, 16, 17, 18, 19, 20, 21, 22, 23, 24, 25, 26, 27, 28, 29, 30, 31, 32, 33, 34]], [(0, []), (1, []), (2, []), (3, []), (4, []), (5, []), (6, []), (7, []), (8, []), (9, []), (10, []), (11, []), (12, []), (13, []), (14, []), (15, []), (16, []), (17, []), (18, []), (19, []), (20, []), (21, []), (22, []), (23, []), (24, []), (25, []), (26, []), (27, []), (28, []), (29, []), (30, []), (31, []), (32, []), (33, []), (34, []), (35, [])]) else ([], []), fun i => if i = 4 then ([2, 3, 13, 14], [15]) else ([], [])⟩
def L133_0 (K : AV → Heap → Prop) (v2 : AV) (v3 : AV) (v13 : AV) (v14 : AV) (v15 : AV) (H : Heap) : Prop := LoopV (wpC Tryz.prog tab D133 (cAt [1, 1, 0, 1, 0, 0] (bodyOf Tryz.f133))) [2, 3, 13, 14] (PostF.block 0 (PostF.thenA (wpC Tryz.prog tab D133 (cAt [1, 1, 1] (bodyOf Tryz.f133))) (retF tab [.tmp 4] K))) [15] [AV.any, AV.any, v2, v3, AV.any, AV.any, AV.any, AV.any, AV.any, AV.any, AV.any, AV.any, AV.any, v13, v14, v15, AV.any, AV.any, AV.any, AV.any, AV.any, AV.any, AV.any, AV.any, AV.any, AV.any, AV.any, AV.any, AV.any, AV.any, AV.any, AV.any, AV.any, AV.any, AV.any, AV.any, AV.any, AV.any, AV.any, AV.any, AV.any, AV.any, AV.any, AV.any, AV.any, AV.any, AV.any, AV.any, AV.any, AV.any, AV.any, AV.any, AV.any, AV.any, AV.any, AV.any, AV.any] H
def B133_0 (K : AV → Heap → Prop) (N1 : AV → Heap → Prop) (v2 : AV) (v3 : AV) (v13 : AV) (v14 : AV) (v15 : AV) (H : Heap) : Prop :=
 binV tab .lss 3 v15 v14 fun v16 =>
 condV v16 (indexAddrV tab 148 v13 v15 fun v18 =>
 loadV tab 188 v18 H fun v19 =>
 allocV tab 188 H fun v6 H4 =>
 storeV tab 188 v6 v19 H4 fun H5 =>
 fieldAddrV tab 188 v6 0 fun v20 =>
 loadV tab 3 v20 H5 fun v21 =>
 binV tab .lss 3 v21 (AV.p (.int .i64 0)) fun v22 =>
 grdV v22 false (fieldAddrV tab 188 v6 0 fun v24 =>
 loadV tab 3 v24 H5 fun v25 =>
 fieldAddrV tab 35 v2 1 fun v26 =>
 loadV tab 3 v26 H5 fun v27 =>
 binV tab .geq 3 v25 v27 fun v28 =>
 grdV v28 false (binV tab .gtr 3 v15 (AV.p (.int .i64 0)) fun v32 =>
 grdV v32 true (fieldAddrV tab 150 v3 1 fun v34 =>
 loadV tab 148 v34 H5 fun v35 =>
 binV tab .sub 3 v15 (AV.p (.int .i64 1)) fun v37 =>
 indexAddrV tab 148 v35 v37 fun v38 =>
 fieldAddrV tab 188 v38 0 fun v39 =>
 loadV tab 3 v39 H5 fun v40 =>
 fieldAddrV tab 188 v6 0 fun v41 =>
 loadV tab 3 v41 H5 fun v42 =>
 binV tab .geq 3 v40 v42 fun v43 =>
 grdV v43 false (fieldAddrV tab 35 v2 0 fun v47 =>
 loadV tab 3 v47 H5 fun v48 =>
 fieldAddrV tab 35 v2 1 fun v49 =>
 loadV tab 3 v49 H5 fun v50 =>
 fieldAddrV tab 188 v6 1 fun v51 =>
 loadV tab 32 v51 H5 fun v52 =>
 CallT Tryz.prog 87 [v48, v50, v52, (AV.p (.int .i64 1))] H5 fun v53 H6 =>
 unV .not v53 fun v54 =>
 condV v54 (K (AV.p (.bool false)) H6)
 (binV tab .add 3 v15 (AV.p (.int .i64 1)) fun v56 =>
 N1 v56 H6))
 (K (AV.p (.bool false)) H5))
 (fieldAddrV tab 35 v2 0 fun v47 =>
 loadV tab 3 v47 H5 fun v48 =>
 fieldAddrV tab 35 v2 1 fun v49 =>
 loadV tab 3 v49 H5 fun v50 =>
 fieldAddrV tab 188 v6 1 fun v51 =>
 loadV tab 32 v51 H5 fun v52 =>
 CallT Tryz.prog 87 [v48, v50, v52, (AV.p (.int .i64 1))] H5 fun v53 H7 =>
 unV .not v53 fun v54 =>
 condV v54 (K (AV.p (.bool false)) H7)
 (binV tab .add 3 v15 (AV.p (.int .i64 1)) fun v56 =>
 N1 v56 H7)))
 (K (AV.p (.bool false)) H5))
 (K (AV.p (.bool false)) H5))
 (K (AV.p (.bool true)) H)
def W133 (v0 : AV) (v1 : AV) (H : Heap) (K : AV → Heap → Prop) : Prop :=
 boxV v0 H fun v2 H1 =>
 boxV v1 H1 fun v3 H2 =>
 loadV tab 35 v2 H2 fun v7 =>
 fieldAddrV tab 150 v3 0 fun v8 =>
 loadV tab 32 v8 H2 fun v9 =>
 CallT Tryz.prog 48 [v7, v9] H2 fun v10 H3 =>
 unV .not v10 fun v11 =>
 condV v11 (K (AV.p (.bool false)) H3)
 (fieldAddrV tab 150 v3 1 fun v12 =>
 loadV tab 148 v12 H3 fun v13 =>
 lenV tab 148 v13 fun v14 =>
 L133_0 K v2 v3 v13 v14 (AV.p (.int .i64 0)) H3)
theorem W133_wp (v0 : AV) (v1 : AV) (H : Heap) (K : AV → Heap → Prop) : wpC Tryz.prog tab D133 (bodyOf Tryz.f133) (retF tab [.tmp 4] K) (nthA [v0, v1]) H = W133 v0 v1 H K := by kernel_rfl
theorem W133_ok {v0 v1 : AV} {H : Heap} {K : AV → Heap → Prop} (h : W133 v0 v1 H K) : CallT Tryz.prog 133 [v0, v1] H K :=
  CallT.of_wp (D := D133) tab_ok mixed Tryz.func133 (c := bodyOf Tryz.f133) (by kernel_rfl) rfl (by kernel_rfl) (rs := #[.tmp 4]) rfl (by decide +kernel) (by kernel_rfl) (W133_wp v0 v1 H K) h
theorem L133_0_rule {K : AV → Heap → Prop} {v2 v3 v13 v14 v15 : AV} {H : Heap} {σ : Type} (s0 : σ) (f15 : σ → AV) (TH : σ → Heap) (pre : σ → Prop) (μ : σ → Nat)
    (h0 : pre s0 ∧ AV.wk v15 (f15 s0) ∧ Heap.le (TH s0) H)
    (round : ∀ s, pre s → B133_0 K (fun w15 H' => ∃ s', pre s' ∧ μ s' < μ s ∧ AV.wk w15 (f15 s') ∧ Heap.le (TH s') H') v2 v3 v13 v14 (f15 s) (TH s)) :
    L133_0 K v2 v3 v13 v14 v15 H := by
  unfold L133_0
  exact LoopV.mk s0 (fun s => [f15 s]) TH pre μ (fun _ => rfl) (Eq.mp (by kernel_rfl) h0) (fun s hs => Eq.mp (by kernel_rfl) (round s hs))
def D134 : Info := ⟨15, fun i => ([], []), fun i => ([], [])⟩
def J134_0 (K : AV → Heap → Prop) (v3 : AV) (v7 : AV) (H : Heap) : Prop :=
 condV v7 (K (AV.p (.int .i64 1)) H)
 (binV tab .eql 3 v3 (AV.p (.int .i64 5)) fun v11 =>
 condV v11 (condV v11 (K (AV.p (.int .i64 2)) H)
 (K (AV.p (.int .i64 (-1))) H))
 (binV tab .eql 3 v3 (AV.p (.int .i64 6)) fun v12 =>
 condV v12 (condV v12 (K (AV.p (.int .i64 2)) H)
 (K (AV.p (.int .i64 (-1))) H))
 (binV tab .eql 3 v3 (AV.p (.int .i64 7)) fun v13 =>
 condV v13 (condV v13 (K (AV.p (.int .i64 2)) H)
 (K (AV.p (.int .i64 (-1))) H))
 (binV tab .eql 3 v3 (AV.p (.int .i64 8)) fun v14 =>
 condV v14 (K (AV.p (.int .i64 2)) H)
 (K (AV.p (.int .i64 (-1))) H)))))
def J134_1 (K : AV → Heap → Prop) (v3 : AV) (v4 : AV) (H : Heap) : Prop :=
 condV v4 (K (AV.p (.int .i64 0)) H)
 (binV tab .eql 3 v3 (AV.p (.int .i64 3)) fun v8 =>
 condV v8 (J134_0 K v3 v8 H)
 (binV tab .eql 3 v3 (AV.p (.int .i64 4)) fun v9 =>
 J134_0 K v3 v9 H))
def W134 (v0 : AV) (H : Heap) (K : AV → Heap → Prop) : Prop :=
 binV tab .eql 3 v0 (AV.p (.int .i64 1)) fun v5 =>
 condV v5 (J134_1 K v0 v5 H)
 (binV tab .eql 3 v0 (AV.p (.int .i64 2)) fun v6 =>
 J134_1 K v0 v6 H)
theorem W134_wp (v0 : AV) (H : Heap) (K : AV → Heap → Prop) : wpC Tryz.prog tab D134 (bodyOf Tryz.f134) (retF tab [.tmp 2] K) (nthA [v0]) H = W134 v0 H K := by kernel_rfl
theorem W134_ok {v0 : AV} {H : Heap} {K : AV → Heap → Prop} (h : W134 v0 H K) : CallT Tryz.prog 134 [v0] H K :=
  CallT.of_wp (D := D134) tab_ok mixed Tryz.func134 (c := bodyOf Tryz.f134) (by kernel_rfl) rfl (by kernel_rfl) (rs := #[.tmp 2]) rfl (by decide +kernel) (by kernel_rfl) (W134_wp v0 H K) h
def D135 : Info := ⟨34, fun i => ([], []), fun i => ([], [])⟩
def W135 (v0 : AV) (H : Heap) (K : AV → Heap → Prop) : Prop :=
 boxV v0 H fun v1 H1 =>
 fieldAddrV tab 106 v1 0 fun v3 =>
 loadV tab 3 v3 H1 fun v4 =>
 binV tab .eql 3 v4 (AV.p (.int .i64 1)) fun v6 =>
 condV v6 (fieldAddrV tab 106 v1 1 fun v7 =>
 loadV tab 3 v7 H1 fun v8 =>
 binV tab .geq 3 v8 (AV.p (.int .i64 0)) fun v9 =>
 grdV v9 true (fieldAddrV tab 106 v1 1 fun v11 =>
 loadV tab 3 v11 H1 fun v12 =>
 binV tab .lss 3 v12 (AV.p (.int .i64 3)) fun v13 =>
 K v13 H1)
 (K (AV.p (.bool false)) H1))
 (binV tab .eql 3 v4 (AV.p (.int .i64 2)) fun v16 =>
 condV v16 (fieldAddrV tab 106 v1 1 fun v17 =>
 loadV tab 3 v17 H1 fun v18 =>
 binV tab .eql 3 v18 (AV.p (.int .i64 0)) fun v19 =>
 grdV v19 false (fieldAddrV tab 106 v1 1 fun v21 =>
 loadV tab 3 v21 H1 fun v22 =>
 binV tab .eql 3 v22 (AV.p (.int .i64 1)) fun v23 =>
 K v23 H1)
 (K (AV.p (.bool true)) H1))
 (fieldAddrV tab 106 v1 0 fun v25 =>
 loadV tab 3 v25 H1 fun v26 =>
 CallT Tryz.prog 134 [v26] H1 fun v27 H2 =>
 binV tab .gtr 3 v27 (AV.p (.int .i64 0)) fun v28 =>
 grdV v28 true (fieldAddrV tab 106 v1 1 fun v30 =>
 loadV tab 3 v30 H2 fun v31 =>
 binV tab .eql 3 v31 (AV.p (.int .i64 0)) fun v32 =>
 K v32 H2)
 (K (AV.p (.bool false)) H2)))
theorem W135_wp (v0 : AV) (H : Heap) (K : AV → Heap → Prop) : wpC Tryz.prog tab D135 (bodyOf Tryz.f135) (retF tab [.tmp 2] K) (nthA [v0]) H = W135 v0 H K := by kernel_rfl
theorem W135_ok {v0 : AV} {H : Heap} {K : AV → Heap → Prop} (h : W135 v0 H K) : CallT Tryz.prog 135 [v0] H K :=
  CallT.of_wp (D := D135) tab_ok mixed Tryz.func135 (c := bodyOf Tryz.f135) (by kernel_rfl) rfl (by kernel_rfl) (rs := #[.tmp 2]) rfl (by decide +kernel) (by kernel_rfl) (W135_wp v0 H K) h
def D136 : Info := ⟨38, fun i => ([], []), fun i => if i = 3 then ([10, 11], [3, 4, 12]) else ([], [])⟩
def L136_0 (K : AV → Heap → Prop) (v3 : AV) (v4 : AV) (v10 : AV) (v11 : AV) (v12 : AV) (H : Heap) : Prop := LoopV (wpC Tryz.prog tab D136 (cAt [1, 1, 0, 1, 0, 0] (bodyOf Tryz.f136))) [10, 11] (PostF.block 0 (PostF.thenA (wpC Tryz.prog tab D136 (cAt [1, 1, 1] (bodyOf Tryz.f136))) (retF tab [.tmp 2] K))) [3, 4, 12] [AV.any, AV.any, AV.any, v3, v4, AV.any, AV.any, AV.any, AV.any, AV.any, v10, v11, v12, AV.any, AV.any, AV.any, AV.any, AV.any, AV.any, AV.any, AV.any, AV.any, AV.any, AV.any, AV.any, AV.any, AV.any, AV.any, AV.any, AV.any, AV.any, AV.any, AV.any, AV.any, AV.any, AV.any, AV.any, AV.any] H
def B136_0 (K : AV → Heap → Prop) (N1 : AV → AV → AV → Heap → Prop) (v3 : AV) (v4 : AV) (v10 : AV) (v11 : AV) (v12 : AV) (H : Heap) : Prop :=
 binV tab .lss 3 v12 v11 fun v13 =>
 condV v13 (indexAddrV tab 37 v10 v12 fun v15 =>
 loadV tab 106 v15 H fun v16 =>
 allocV tab 106 H fun v6 H3 =>
 storeV tab 106 v6 v16 H3 fun H4 =>
 lenV tab 46 v4 fun v18 =>
 fieldAddrV tab 106 v6 0 fun v19 =>
 loadV tab 3 v19 H4 fun v20 =>
 CallT Tryz.prog 134 [v20] H4 fun v21 H5 =>
 binV tab .sub 3 v18 v21 fun v22 =>
 sliceV tab 46 v4 (some v22) none none fun v26 =>
 CallT Tryz.prog 169 [v26] H5 fun v27 H6 =>
 buildSliceV tab 60 1 [(0, v27)] H6 (wkK fun v28 H7 =>
 appendV tab 60 60 v3 v28 H7 (wkK fun v29 H8 =>
 sliceV tab 46 v4 none (some v22) none fun v32 =>
 buildSliceV tab 46 1 [(0, v12)] H8 (wkK fun v34 H9 =>
 appendV tab 46 46 v32 v34 H9 (wkK fun v35 H10 =>
 binV tab .add 3 v12 (AV.p (.int .i64 1)) fun v36 =>
 N1 v29 v35 v36 H10)))))
 (K v3 H)
def W136 (v0 : AV) (H : Heap) (K : AV → Heap → Prop) : Prop :=
 buildSliceV tab 60 0 [] H (wkK fun v8 H1 =>
 buildSliceV tab 46 0 [] H1 (wkK fun v9 H2 =>
 lenV tab 37 v0 fun v11 =>
 L136_0 K v8 v9 v0 v11 (AV.p (.int .i64 0)) H2))
theorem W136_wp (v0 : AV) (H : Heap) (K : AV → Heap → Prop) : wpC Tryz.prog tab D136 (bodyOf Tryz.f136) (retF tab [.tmp 2] K) (nthA [v0]) H = W136 v0 H K := by kernel_rfl
theorem W136_ok {v0 : AV} {H : Heap} {K : AV → Heap → Prop} (h : W136 v0 H K) : CallT Tryz.prog 136 [v0] H K :=
  CallT.of_wp (D := D136) tab_ok mixed Tryz.func136 (c := bodyOf Tryz.f136) (by kernel_rfl) rfl (by kernel_rfl) (rs := #[.tmp 2]) rfl (by decide +kernel) (by kernel_rfl) (W136_wp v0 H K) h
theorem L136_0_rule {K : AV → Heap → Prop} {v3 v4 v10 v11 v12 : AV} {H : Heap} {σ : Type} (s0 : σ) (f3 : σ → AV) (f4 : σ → AV) (f12 : σ → AV) (TH : σ → Heap) (pre : σ → Prop) (μ : σ → Nat)
    (h0 : pre s0 ∧ AV.wk v3 (f3 s0) ∧ AV.wk v4 (f4 s0) ∧ AV.wk v12 (f12 s0) ∧ Heap.le (TH s0) H)
    (round : ∀ s, pre s → B136_0 K (fun w3 w4 w12 H' => ∃ s', pre s' ∧ μ s' < μ s ∧ AV.wk w3 (f3 s') ∧ AV.wk w4 (f4 s') ∧ AV.wk w12 (f12 s') ∧ Heap.le (TH s') H') (f3 s) (f4 s) v10 v11 (f12 s) (TH s)) :
    L136_0 K v3 v4 v10 v11 v12 H := by
  unfold L136_0
  exact LoopV.mk s0 (fun s => [f3 s, f4 s, f12 s]) TH pre μ (fun _ => rfl) (Eq.mp (by kernel_rfl) h0) (fun s hs => Eq.mp (by kernel_rfl) (round s hs))
def D139 : Info := ⟨80, fun i => ([], []), fun i => if i = 5 then ([0, 1, 33, 34], [7, 35]) else ([], [])⟩
def L139_0 (K : AV → Heap → Prop) (v0 : AV) (v1 : AV) (v7 : AV) (v33 : AV) (v34 : AV) (v35 : AV) (H : Heap) : Prop := LoopV (wpC Tryz.prog tab D139 (cAt [1, 1, 1, 0, 1, 0, 0] (bodyOf Tryz.f139))) [0, 1, 33, 34] (PostF.block 0 (PostF.thenA (wpC Tryz.prog tab D139 (cAt [1, 1, 1, 1] (bodyOf Tryz.f139))) (retF tab [.tmp 6] K))) [7, 35] [v0, v1, AV.any, AV.any, AV.any, AV.any, AV.any, v7, AV.any, AV.any, AV.any, AV.any, AV.any, AV.any, AV.any, AV.any, AV.any, AV.any, AV.any, AV.any, AV.any, AV.any, AV.any, AV.any, AV.any, AV.any, AV.any, AV.any, AV.any, AV.any, AV.any, AV.any, AV.any, v33, v34, v35, AV.any, AV.any, AV.any, AV.any, AV.any, AV.any, AV.any, AV.any, AV.any, AV.any, AV.any, AV.any, AV.any, AV.any, AV.any, AV.any, AV.any, AV.any, AV.any, AV.any, AV.any, AV.any, AV.any, AV.any, AV.any, AV.any, AV.any, AV.any, AV.any, AV.any, AV.any, AV.any, AV.any, AV.any, AV.any, AV.any, AV.any, AV.any, AV.any, AV.any, AV.any, AV.any, AV.any, AV.any] H
def B139_0 (K : AV → Heap → Prop) (N1 : AV → AV → Heap → Prop) (v0 : AV) (v1 : AV) (v7 : AV) (v33 : AV) (v34 : AV) (v35 : AV) (H : Heap) : Prop :=
 binV tab .lss 3 v35 v34 fun v36 =>
 condV v36 (indexAddrV tab 32 v33 v35 fun v37 =>
 loadV tab 155 v37 H fun v38 =>
 allocV tab 155 H fun v9 H4 =>
 storeV tab 155 v9 v38 H4 fun H5 =>
 fieldAddrV tab 155 v9 0 fun v40 =>
 loadV tab 3 v40 H5 fun v41 =>
 CallT Tryz.prog 172 [v41] H5 fun v42 H6 =>
 extractV v42 0 fun v43 =>
 extractV v42 1 fun v44 =>
 extractV v42 2 fun v45 =>
 allocV tab 3 H6 fun v11 H7 =>
 storeV tab 3 v11 v44 H7 fun H8 =>
 lenV tab 46 v7 fun v47 =>
 binV tab .sub 3 v47 v43 fun v49 =>
 binV tab .eql 3 v45 (AV.p (.int .i64 0)) fun v51 =>
 grdV v51 false (loadV tab 155 v9 H8 fun v55 =>
 CallT Tryz.prog 173 [v0, v1, v55] H8 fun v56 H9 =>
 unV .not v56 fun v57 =>
 grdV v57 false (binV tab .lss 3 v49 (AV.p (.int .i64 0)) fun v61 =>
 grdV v61 false (sliceV tab 46 v7 (some v49) none none fun v66 =>
 CallT Tryz.prog 100 [v66, (.fn 174 [v11])] H9 fun v68 H10 =>
 condV v68 (K (AV.p (.bool false)) H10)
 (sliceV tab 46 v7 none (some v49) none fun v72 =>
 buildSliceV tab 46 1 [(0, v45)] H10 (wkK fun v74 H11 =>
 appendV tab 46 46 v72 v74 H11 (wkK fun v75 H12 =>
 binV tab .add 3 v35 (AV.p (.int .i64 1)) fun v76 =>
 N1 v75 v76 H12))))
 (K (AV.p (.bool false)) H9))
 (K (AV.p (.bool false)) H9))
 (K (AV.p (.bool false)) H8))
 (lenV tab 46 v7 fun v78 =>
 binV tab .eql 3 v78 (AV.p (.int .i64 1)) fun v79 =>
 K v79 H)
def W139 (v0 : AV) (v1 : AV) (v2 : AV) (H : Heap) (K : AV → Heap → Prop) : Prop :=
 CallT Tryz.prog 129 [v0] H fun v15 H1 =>
 unV .not v15 fun v16 =>
 grdV v16 false (CallT Tryz.prog 130 [v1] H1 fun v19 H2 =>
 unV .not v19 fun v20 =>
 grdV v20 false (lenV tab 32 v2 fun v24 =>
 binV tab .lss 3 v24 (AV.p (.int .i64 1)) fun v25 =>
 grdV v25 false (lenV tab 32 v2 fun v29 =>
 binV tab .gtr 3 v29 (AV.p (.int .i64 48)) fun v30 =>
 condV v30 (K (AV.p (.bool false)) H2)
 (buildSliceV tab 46 0 [] H2 (wkK fun v32 H3 =>
 lenV tab 32 v2 fun v34 =>
 L139_0 K v0 v1 v32 v2 v34 (AV.p (.int .i64 0)) H3)))
 (K (AV.p (.bool false)) H2))
 (K (AV.p (.bool false)) H2))
 (K (AV.p (.bool false)) H1)
theorem W139_wp (v0 : AV) (v1 : AV) (v2 : AV) (H : Heap) (K : AV → Heap → Prop) : wpC Tryz.prog tab D139 (bodyOf Tryz.f139) (retF tab [.tmp 6] K) (nthA [v0, v1, v2]) H = W139 v0 v1 v2 H K := by kernel_rfl
theorem W139_ok {v0 v1 v2 : AV} {H : Heap} {K : AV → Heap → Prop} (h : W139 v0 v1 v2 H K) : CallT Tryz.prog 139 [v0, v1, v2] H K :=
  CallT.of_wp (D := D139) tab_ok mixed Tryz.func139 (c := bodyOf Tryz.f139) (by kernel_rfl) rfl (by kernel_rfl) (rs := #[.tmp 6]) rfl (by decide +kernel) (by kernel_rfl) (W139_wp v0 v1 v2 H K) h
theorem L139_0_rule {K : AV → Heap → Prop} {v0 v1 v7 v33 v34 v35 : AV} {H : Heap} {σ : Type} (s0 : σ) (f7 : σ → AV) (f35 : σ → AV) (TH : σ → Heap) (pre : σ → Prop) (μ : σ → Nat)
    (h0 : pre s0 ∧ AV.wk v7 (f7 s0) ∧ AV.wk v35 (f35 s0) ∧ Heap.le (TH s0) H)
    (round : ∀ s, pre s → B139_0 K (fun w7 w35 H' => ∃ s', pre s' ∧ μ s' < μ s ∧ AV.wk w7 (f7 s') ∧ AV.wk w35 (f35 s') ∧ Heap.le (TH s') H') v0 v1 (f7 s) v33 v34 (f35 s) (TH s)) :
    L139_0 K v0 v1 v7 v33 v34 v35 H := by
  unfold L139_0
  exact LoopV.mk s0 (fun s => [f7 s, f35 s]) TH pre μ (fun _ => rfl) (Eq.mp (by kernel_rfl) h0) (fun s hs => Eq.mp (by kernel_rfl) (round s hs))
def D140 : Info := ⟨19, fun i => ([], []), fun i => ([], [])⟩
def W140 (v0 : AV) (H : Heap) (K : AV → Heap → Prop) : Prop :=
 lenV tab 32 v0 fun v9 =>
 binV tab .sub 3 v9 (AV.p (.int .i64 1)) fun v10 =>
 indexAddrV tab 32 v0 v10 fun v11 =>
 fieldAddrV tab 155 v11 0 fun v12 =>
 loadV tab 3 v12 H fun v13 =>
 CallT Tryz.prog 172 [v13] H fun v14 H1 =>
 extractV v14 0 fun v15 =>
 extractV v14 1 fun v16 =>
 extractV v14 2 fun v17 =>
 K v17 H1
theorem W140_wp (v0 : AV) (H : Heap) (K : AV → Heap → Prop) : wpC Tryz.prog tab D140 (bodyOf Tryz.f140) (retF tab [.tmp 2] K) (nthA [v0]) H = W140 v0 H K := by kernel_rfl
theorem W140_ok {v0 : AV} {H : Heap} {K : AV → Heap → Prop} (h : W140 v0 H K) : CallT Tryz.prog 140 [v0] H K :=
  CallT.of_wp (D := D140) tab_ok mixed Tryz.func140 (c := bodyOf Tryz.f140) (by kernel_rfl) rfl (by kernel_rfl) (rs := #[.tmp 2]) rfl (by decide +kernel) (by kernel_rfl) (W140_wp v0 H K) h
def D141 : Info := ⟨15, fun i => ([], []), fun i => ([], [])⟩
def W141 (v0 : AV) (v1 : AV) (H : Heap) (K : AV → Heap → Prop) : Prop :=
 boxV v0 H fun v2 H1 =>
 boxV v1 H1 fun v3 H2 =>
 fieldAddrV tab 155 v2 0 fun v5 =>
 loadV tab 3 v5 H2 fun v6 =>
 fieldAddrV tab 155 v3 0 fun v7 =>
 loadV tab 3 v7 H2 fun v8 =>
 binV tab .neq 3 v6 v8 fun v9 =>
 condV v9 (K (AV.p (.bool false)) H2)
 (fieldAddrV tab 155 v2 1 fun v10 =>
 loadV tab 153 v10 H2 fun v11 =>
 fieldAddrV tab 155 v3 1 fun v12 =>
 loadV tab 153 v12 H2 fun v13 =>
 binV tab .neq 153 v11 v13 fun v14 =>
 condV v14 (K (AV.p (.bool false)) H2)
 (K (AV.p (.bool true)) H2))
theorem W141_wp (v0 : AV) (v1 : AV) (H : Heap) (K : AV → Heap → Prop) : wpC Tryz.prog tab D141 (bodyOf Tryz.f141) (retF tab [.tmp 4] K) (nthA [v0, v1]) H = W141 v0 v1 H K := by kernel_rfl
theorem W141_ok {v0 v1 : AV} {H : Heap} {K : AV → Heap → Prop} (h : W141 v0 v1 H K) : CallT Tryz.prog 141 [v0, v1] H K :=
  CallT.of_wp (D := D141) tab_ok mixed Tryz.func141 (c := bodyOf Tryz.f141) (by kernel_rfl) rfl (by kernel_rfl) (rs := #[.tmp 4]) rfl (by decide +kernel) (by kernel_rfl) (W141_wp v0 v1 H K) h
def D142 : Info := ⟨17, fun i => ([], []), fun i => ([], [])⟩
def W142 (v0 : AV) (v1 : AV) (H : Heap) (K : AV → Heap → Prop) : Prop :=
 boxV v0 H fun v2 H1 =>
 boxV v1 H1 fun v3 H2 =>
 fieldAddrV tab 150 v2 0 fun v5 =>
 loadV tab 32 v5 H2 fun v6 =>
 fieldAddrV tab 150 v3 0 fun v7 =>
 loadV tab 32 v7 H2 fun v8 =>
 CallT Tryz.prog 88 [v6, v8] H2 fun v9 H3 =>
 unV .not v9 fun v10 =>
 condV v10 (K (AV.p (.bool false)) H3)
 (fieldAddrV tab 150 v2 1 fun v11 =>
 loadV tab 148 v11 H3 fun v12 =>
 fieldAddrV tab 150 v3 1 fun v13 =>
 loadV tab 148 v13 H3 fun v14 =>
 CallT Tryz.prog 175 [v12, v14] H3 fun v15 H4 =>
 unV .not v15 fun v16 =>
 condV v16 (K (AV.p (.bool false)) H4)
 (K (AV.p (.bool true)) H4))
theorem W142_wp (v0 : AV) (v1 : AV) (H : Heap) (K : AV → Heap → Prop) : wpC Tryz.prog tab D142 (bodyOf Tryz.f142) (retF tab [.tmp 4] K) (nthA [v0, v1]) H = W142 v0 v1 H K := by kernel_rfl
theorem W142_ok {v0 v1 : AV} {H : Heap} {K : AV → Heap → Prop} (h : W142 v0 v1 H K) : CallT Tryz.prog 142 [v0, v1] H K :=
  CallT.of_wp (D := D142) tab_ok mixed Tryz.func142 (c := bodyOf Tryz.f142) (by kernel_rfl) rfl (by kernel_rfl) (rs := #[.tmp 4]) rfl (by decide +kernel) (by kernel_rfl) (W142_wp v0 v1 H K) h
def D143 : Info := ⟨81, fun i => if i = 11 then ([[], [], [1], [], [], [], [], [6], [5, 6, 7], [5, 6, 7, 8], [], [3, 4, 5, 6, 7, 8, 9, 10], [], [], [], [14], [], [3, 4, 5, 6, 7, 8, 9, 10, 11, 12, 13, 14, 15, 16], [0, 1, 2, 3, 4, 5, 6, 7, 8, 9, 10, 11, 12, 13, 14, 15, 16, 17], [0, 1, 2, 3, 4, 5, 6, 7, 8, 9, 10, 11, 12, 13, 14, 15, 16, 17, 18]], [(0, []), (1, []), (2, []), (3, []), (4, []), (5, []), (6, []), (7, []), (10, []), (12, []), (13, []), (14, []), (15, []), (16, []), (8, [2]), (9, []), (11, [2]), (17, [2]), (18, []), (19, [])]) else ([], []), fun i => ([], [])⟩
def W143 (v0 : AV) (v1 : AV) (v2 : AV) (v3 : AV) (H : Heap) (K : AV → Heap → Prop) : Prop :=
 indexAddrV tab 32 v1 v2 fun v15 =>
 loadV tab 155 v15 H fun v16 =>
 allocV tab 155 H fun v9 H1 =>
 storeV tab 155 v9 v16 H1 fun H2 =>
 fieldAddrV tab 155 v9 0 fun v18 =>
 loadV tab 3 v18 H2 fun v19 =>
 CallT Tryz.prog 125 [v19] H2 fun v20 H3 =>
 extractV v20 0 fun v21 =>
 extractV v20 1 fun v22 =>
 extractV v20 2 fun v23 =>
 fieldAddrV tab 155 v9 0 fun v25 =>
 loadV tab 3 v25 H3 fun v26 =>
 binV tab .eql 3 v26 (AV.p (.int .i64 2)) fun v27 =>
 condV v27 (fieldAddrV tab 155 v9 1 fun v29 =>
 loadV tab 153 v29 H3 fun v30 =>
 indexAddrV tab 116 v3 v30 fun v31 =>
 loadV tab 153 v31 H3 fun v32 =>
 K v32 H3)
 (binV tab .eql 3 v21 (AV.p (.int .i64 0)) fun v35 =>
 condV v35 (fieldAddrV tab 155 v9 1 fun v36 =>
 loadV tab 153 v36 H3 fun v37 =>
 K v37 H3)
 (fieldAddrV tab 155 v9 0 fun v39 =>
 loadV tab 3 v39 H3 fun v40 =>
 binV tab .eql 3 v40 (AV.p (.int .i64 13)) fun v41 =>
 condV v41 (binV tab .sub 3 v2 (AV.p (.int .i64 1)) fun v46 =>
 CallT Tryz.prog 143 [v0, v1, v46, v3] H3 fun v48 H4 =>
 unV .xor v48 fun v49 =>
 CallT Tryz.prog 176 [v0, v49] H4 fun v50 H5 =>
 K v50 H5)
 (fieldAddrV tab 155 v9 0 fun v52 =>
 loadV tab 3 v52 H3 fun v53 =>
 binV tab .eql 3 v53 (AV.p (.int .i64 19)) fun v54 =>
 condV v54 (binV tab .sub 3 v2 (AV.p (.int .i64 1)) fun v58 =>
 CallT Tryz.prog 143 [v0, v1, v58, v3] H3 fun v60 H6 =>
 binV tab .sub 153 (AV.p (.int .u64 1)) v60 fun v61 =>
 K v61 H6)
 (fieldAddrV tab 155 v9 0 fun v63 =>
 loadV tab 3 v63 H3 fun v64 =>
 binV tab .sub 3 v2 (AV.p (.int .i64 1)) fun v69 =>
 binV tab .sub 3 v2 (AV.p (.int .i64 1)) fun v77 =>
 CallT Tryz.prog 178 [v1, v69] H3 fun v70 H7 =>
 (loadV tab 3 v63 H7 fun v9064 =>
 v64 = v9064) ∧
 binV tab .sub 3 v70 (AV.p (.int .i64 1)) fun v71 =>
 CallT Tryz.prog 143 [v0, v1, v71, v3] H7 fun v73 H8 =>
 (loadV tab 3 v63 H8 fun v9064 =>
 v64 = v9064) ∧
 CallT Tryz.prog 143 [v0, v1, v77, v3] H8 fun v79 H9 =>
 (loadV tab 3 v63 H9 fun v9064 =>
 v64 = v9064) ∧
 CallT Tryz.prog 177 [v0, v64, v73, v79] H9 fun v80 H10 =>
 K v80 H10))))
theorem W143_wp (v0 : AV) (v1 : AV) (v2 : AV) (v3 : AV) (H : Heap) (K : AV → Heap → Prop) : wpC Tryz.prog tab D143 (bodyOf Tryz.f143) (retF tab [.tmp 8] K) (nthA [v0, v1, v2, v3]) H = W143 v0 v1 v2 v3 H K := by kernel_rfl
theorem W143_ok {v0 v1 v2 v3 : AV} {H : Heap} {K : AV → Heap → Prop} (h : W143 v0 v1 v2 v3 H K) : CallT Tryz.prog 143 [v0, v1, v2, v3] H K :=
  CallT.of_wp (D := D143) tab_ok mixed Tryz.func143 (c := bodyOf Tryz.f143) (by kernel_rfl) rfl (by kernel_rfl) (rs := #[.tmp 8]) rfl (by decide +kernel) (by kernel_rfl) (W143_wp v0 v1 v2 v3 H K) h
def D144 : Info := ⟨6, fun i => ([], []), fun i => ([], [])⟩
def W144 (v0 : AV) (H : Heap) (K : AV → Heap → Prop) : Prop :=
 binV tab .sub 3 (AV.p (.int .i64 64)) v0 fun v4 =>
 binV tab .shr 153 (AV.p (.int .u64 18446744073709551615)) v4 fun v5 =>
 K v5 H
theorem W144_wp (v0 : AV) (H : Heap) (K : AV → Heap → Prop) : wpC Tryz.prog tab D144 (bodyOf Tryz.f144) (retF tab [.tmp 2] K) (nthA [v0]) H = W144 v0 H K := by kernel_rfl
theorem W144_ok {v0 : AV} {H : Heap} {K : AV → Heap → Prop} (h : W144 v0 H K) : CallT Tryz.prog 144 [v0] H K :=
  CallT.of_wp (D := D144) tab_ok mixed Tryz.func144 (c := bodyOf Tryz.f144) (by kernel_rfl) rfl (by kernel_rfl) (rs := #[.tmp 2]) rfl (by decide +kernel) (by kernel_rfl) (W144_wp v0 H K) h
def D145 : Info := ⟨87, fun i => if i = 7 then ([[], [], [1], [0, 1, 2], [], [], [5], [], [], [8], [7, 8, 9], [7, 8, 9, 10], [], [], [12, 13], [12, 13, 14], [4, 5, 6, 7, 8, 9, 10, 11, 12, 13, 14, 15], [4, 5, 6, 7, 8, 9, 10, 11, 12, 13, 14, 15, 16], [0, 1, 2, 3, 4, 5, 6, 7, 8, 9, 10, 11, 12, 13, 14, 15, 16, 17], [0, 1, 2, 3, 4, 5, 6, 7, 8, 9, 10, 11, 12, 13, 14, 15, 16, 17, 18]], [(0, []), (1, []), (2, []), (3, []), (4, []), (5, []), (6, []), (7, []), (8, []), (9, []), (10, []), (11, []), (12, []), (13, []), (14, []), (15, []), (16, []), (17, []), (18, []), (19, [])]) else if i = 14 then ([[], [], [], [], [2, 3], [2, 3, 4], [2, 3, 4, 5], [], [7], [2, 3, 4, 5, 6, 7, 8], [0, 1, 2, 3, 4, 5, 6, 7, 8, 9], [0, 1, 2, 3, 4, 5, 6, 7, 8, 9, 10]], [(0, []), (1, []), (2, []), (3, []), (4, []), (5, []), (6, []), (7, []), (8, [5]), (9, []), (10, []), (11, [])]) else ([], []), fun i => if i = 3 then ([0, 2, 12, 13], [7, 14]) else ([], [])⟩
def L145_0 (K : AV → Heap → Prop) (v0 : AV) (v2 : AV) (v7 : AV) (v12 : AV) (v13 : AV) (v14 : AV) (H : Heap) : Prop := LoopV (wpC Tryz.prog tab D145 (cAt [1, 1, 0, 1, 0, 0] (bodyOf Tryz.f145))) [0, 2, 12, 13] (PostF.block 0 (PostF.thenA (wpC Tryz.prog tab D145 (cAt [1, 1, 1] (bodyOf Tryz.f145))) (retF tab [.tmp 6] K))) [7, 14] [v0, AV.any, v2, AV.any, AV.any, AV.any, AV.any, v7, AV.any, AV.any, AV.any, AV.any, v12, v13, v14, AV.any, AV.any, AV.any, AV.any, AV.any, AV.any, AV.any, AV.any, AV.any, AV.any, AV.any, AV.any, AV.any, AV.any, AV.any, AV.any, AV.any, AV.any, AV.any, AV.any, AV.any, AV.any, AV.any, AV.any, AV.any, AV.any, AV.any, AV.any, AV.any, AV.any, AV.any, AV.any, AV.any, AV.any, AV.any, AV.any, AV.any, AV.any, AV.any, AV.any, AV.any, AV.any, AV.any, AV.any, AV.any, AV.any, AV.any, AV.any, AV.any, AV.any, AV.any, AV.any, AV.any, AV.any, AV.any, AV.any, AV.any, AV.any, AV.any, AV.any, AV.any, AV.any, AV.any, AV.any, AV.any, AV.any, AV.any, AV.any, AV.any, AV.any, AV.any, AV.any] H
def J145_1 (K : AV → Heap → Prop) (N1 : AV → AV → Heap → Prop) (v0 : AV) (v2 : AV) (v7 : AV) (v9 : AV) (v10 : AV) (v12 : AV) (v13 : AV) (v14 : AV) (v22 : AV) (v42 : AV) (H : Heap) : Prop :=
 condV v42 (fieldAddrV tab 155 v9 1 fun v46 =>
 loadV tab 153 v46 H fun v47 =>
 buildSliceV tab 116 1 [(0, v47)] H (wkK fun v48 H4 =>
 appendV tab 116 116 v7 v48 H4 (wkK fun v49 H5 =>
 binV tab .add 3 v14 (AV.p (.int .i64 1)) fun v83 =>
 N1 v49 v83 H5)))
 (binV tab .eql 3 v22 (AV.p (.int .i64 2)) fun v51 =>
 condV v51 (fieldAddrV tab 155 v9 1 fun v54 =>
 loadV tab 153 v54 H fun v55 =>
 indexAddrV tab 116 v2 v55 fun v56 =>
 loadV tab 153 v56 H fun v57 =>
 buildSliceV tab 116 1 [(0, v57)] H (wkK fun v58 H6 =>
 appendV tab 116 116 v7 v58 H6 (wkK fun v59 H7 =>
 binV tab .add 3 v14 (AV.p (.int .i64 1)) fun v83 =>
 N1 v59 v83 H7)))
 (binV tab .eql 3 v22 (AV.p (.int .i64 13)) fun v61 =>
 condV v61 (indexAddrV tab 116 v7 v10 fun v66 =>
 loadV tab 153 v66 H fun v67 =>
 unV .xor v67 fun v68 =>
 CallT Tryz.prog 144 [v0] H fun v70 H8 =>
 (loadV tab 153 v66 H8 fun v9067 =>
 v67 = v9067) ∧
 binV tab .and 153 v68 v70 fun v71 =>
 indexAddrV tab 116 v7 v10 fun v72 =>
 storeV tab 153 v72 v71 H8 fun H9 =>
 binV tab .add 3 v14 (AV.p (.int .i64 1)) fun v83 =>
 N1 v7 v83 H9)
 (binV tab .eql 3 v22 (AV.p (.int .i64 19)) fun v74 =>
 condV v74 (indexAddrV tab 116 v7 v10 fun v79 =>
 loadV tab 153 v79 H fun v80 =>
 binV tab .sub 153 (AV.p (.int .u64 1)) v80 fun v81 =>
 indexAddrV tab 116 v7 v10 fun v82 =>
 storeV tab 153 v82 v81 H fun H10 =>
 binV tab .add 3 v14 (AV.p (.int .i64 1)) fun v83 =>
 N1 v7 v83 H10)
 (binV tab .sub 3 v10 (AV.p (.int .i64 1)) fun v25 =>
 sliceV tab 116 v7 none (some v25) none fun v26 =>
 fieldAddrV tab 155 v9 0 fun v28 =>
 loadV tab 3 v28 H fun v29 =>
 binV tab .sub 3 v10 (AV.p (.int .i64 1)) fun v32 =>
 indexAddrV tab 116 v7 v32 fun v33 =>
 loadV tab 153 v33 H fun v34 =>
 indexAddrV tab 116 v7 v10 fun v37 =>
 loadV tab 153 v37 H fun v38 =>
 CallT Tryz.prog 179 [v0, v29, v34, v38] H fun v39 H11 =>
 buildSliceV tab 116 1 [(0, v39)] H11 (wkK fun v40 H12 =>
 appendV tab 116 116 v26 v40 H12 (wkK fun v41 H13 =>
 binV tab .add 3 v14 (AV.p (.int .i64 1)) fun v83 =>
 N1 v41 v83 H13))))))
def B145_0 (K : AV → Heap → Prop) (N1 : AV → AV → Heap → Prop) (v0 : AV) (v2 : AV) (v7 : AV) (v12 : AV) (v13 : AV) (v14 : AV) (H : Heap) : Prop :=
 binV tab .lss 3 v14 v13 fun v15 =>
 condV v15 (indexAddrV tab 32 v12 v14 fun v16 =>
 loadV tab 155 v16 H fun v17 =>
 allocV tab 155 H fun v9 H2 =>
 storeV tab 155 v9 v17 H2 fun H3 =>
 lenV tab 116 v7 fun v19 =>
 binV tab .sub 3 v19 (AV.p (.int .i64 1)) fun v20 =>
 fieldAddrV tab 155 v9 0 fun v21 =>
 loadV tab 3 v21 H3 fun v22 =>
 binV tab .eql 3 v22 (AV.p (.int .i64 1)) fun v43 =>
 condV v43 (J145_1 K N1 v0 v2 v7 v9 v20 v12 v13 v14 v22 v43 H3)
 (binV tab .eql 3 v22 (AV.p (.int .i64 20)) fun v44 =>
 J145_1 K N1 v0 v2 v7 v9 v20 v12 v13 v14 v22 v44 H3))
 (indexAddrV tab 116 v7 (AV.p (.int .i64 0)) fun v85 =>
 loadV tab 153 v85 H fun v86 =>
 K v86 H)
def W145 (v0 : AV) (v1 : AV) (v2 : AV) (H : Heap) (K : AV → Heap → Prop) : Prop :=
 buildSliceV tab 116 0 [] H (wkK fun v11 H1 =>
 lenV tab 32 v1 fun v13 =>
 L145_0 K v0 v2 v11 v1 v13 (AV.p (.int .i64 0)) H1)
theorem W145_wp (v0 : AV) (v1 : AV) (v2 : AV) (H : Heap) (K : AV → Heap → Prop) : wpC Tryz.prog tab D145 (bodyOf Tryz.f145) (retF tab [.tmp 6] K) (nthA [v0, v1, v2]) H = W145 v0 v1 v2 H K := by kernel_rfl
theorem W145_ok {v0 v1 v2 : AV} {H : Heap} {K : AV → Heap → Prop} (h : W145 v0 v1 v2 H K) : CallT Tryz.prog 145 [v0, v1, v2] H K :=
  CallT.of_wp (D := D145) tab_ok mixed Tryz.func145 (c := bodyOf Tryz.f145) (by kernel_rfl) rfl (by kernel_rfl) (rs := #[.tmp 6]) rfl (by decide +kernel) (by kernel_rfl) (W145_wp v0 v1 v2 H K) h
theorem L145_0_rule {K : AV → Heap → Prop} {v0 v2 v7 v12 v13 v14 : AV} {H : Heap} {σ : Type} (s0 : σ) (f7 : σ → AV) (f14 : σ → AV) (TH : σ → Heap) (pre : σ → Prop) (μ : σ → Nat)
    (h0 : pre s0 ∧ AV.wk v7 (f7 s0) ∧ AV.wk v14 (f14 s0) ∧ Heap.le (TH s0) H)
    (round : ∀ s, pre s → B145_0 K (fun w7 w14 H' => ∃ s', pre s' ∧ μ s' < μ s ∧ AV.wk w7 (f7 s') ∧ AV.wk w14 (f14 s') ∧ Heap.le (TH s') H') v0 v2 (f7 s) v12 v13 (f14 s) (TH s)) :
    L145_0 K v0 v2 v7 v12 v13 v14 H := by
  unfold L145_0
  exact LoopV.mk s0 (fun s => [f7 s, f14 s]) TH pre μ (fun _ => rfl) (Eq.mp (by kernel_rfl) h0) (fun s hs => Eq.mp (by kernel_rfl) (round s hs))
def D146 : Info := ⟨21, fun i => ([], []), fun i => if i = 2 then ([1, 2, 9, 10], [11]) else ([], [])⟩
def L146_0 (K : AV → Heap → Prop) (v1 : AV) (v2 : AV) (v9 : AV) (v10 : AV) (v11 : AV) (H : Heap) : Prop := LoopV (wpC Tryz.prog tab D146 (cAt [1, 0, 1, 0, 0] (bodyOf Tryz.f146))) [1, 2, 9, 10] (PostF.block 0 (PostF.thenA (wpC Tryz.prog tab D146 (cAt [1, 1] (bodyOf Tryz.f146))) (retF tab [.tmp 6] K))) [11] [AV.any, v1, v2, AV.any, AV.any, AV.any, AV.any, AV.any, AV.any, v9, v10, v11, AV.any, AV.any, AV.any, AV.any, AV.any, AV.any, AV.any, AV.any, AV.any] H
def B146_0 (K : AV → Heap → Prop) (N1 : AV → Heap → Prop) (v1 : AV) (v2 : AV) (v9 : AV) (v10 : AV) (v11 : AV) (H : Heap) : Prop :=
 binV tab .lss 3 v11 v10 fun v12 =>
 condV v12 (indexAddrV tab 46 v9 v11 fun v13 =>
 loadV tab 3 v13 H fun v14 =>
 CallT Tryz.prog 52 [v14, v1, v2] H fun v18 H1 =>
 unV .not v18 fun v19 =>
 condV v19 (K (AV.p (.bool false)) H1)
 (binV tab .add 3 v11 (AV.p (.int .i64 1)) fun v20 =>
 N1 v20 H1))
 (K (AV.p (.bool true)) H)
def W146 (v0 : AV) (v1 : AV) (v2 : AV) (H : Heap) (K : AV → Heap → Prop) : Prop :=
 lenV tab 46 v0 fun v10 =>
 L146_0 K v1 v2 v0 v10 (AV.p (.int .i64 0)) H
theorem W146_wp (v0 : AV) (v1 : AV) (v2 : AV) (H : Heap) (K : AV → Heap → Prop) : wpC Tryz.prog tab D146 (bodyOf Tryz.f146) (retF tab [.tmp 6] K) (nthA [v0, v1, v2]) H = W146 v0 v1 v2 H K := by kernel_rfl
theorem W146_ok {v0 v1 v2 : AV} {H : Heap} {K : AV → Heap → Prop} (h : W146 v0 v1 v2 H K) : CallT Tryz.prog 146 [v0, v1, v2] H K :=
  CallT.of_wp (D := D146) tab_ok mixed Tryz.func146 (c := bodyOf Tryz.f146) (by kernel_rfl) rfl (by kernel_rfl) (rs := #[.tmp 6]) rfl (by decide +kernel) (by kernel_rfl) (W146_wp v0 v1 v2 H K) h
theorem L146_0_rule {K : AV → Heap → Prop} {v1 v2 v9 v10 v11 : AV} {H : Heap} {σ : Type} (s0 : σ) (f11 : σ → AV) (TH : σ → Heap) (pre : σ → Prop) (μ : σ → Nat)
    (h0 : pre s0 ∧ AV.wk v11 (f11 s0) ∧ Heap.le (TH s0) H)
    (round : ∀ s, pre s → B146_0 K (fun w11 H' => ∃ s', pre s' ∧ μ s' < μ s ∧ AV.wk w11 (f11 s') ∧ Heap.le (TH s') H') v1 v2 v9 v10 (f11 s) (TH s)) :
    L146_0 K v1 v2 v9 v10 v11 H := by
  unfold L146_0
  exact LoopV.mk s0 (fun s => [f11 s]) TH pre μ (fun _ => rfl) (Eq.mp (by kernel_rfl) h0) (fun s hs => Eq.mp (by kernel_rfl) (round s hs))
def D147 : Info := ⟨27, fun i => ([], []), fun i => if i = 3 then ([1, 2, 9, 10], [5, 11]) else ([], [])⟩
def L147_0 (K : AV → Heap → Prop) (v1 : AV) (v2 : AV) (v5 : AV) (v9 : AV) (v10 : AV) (v11 : AV) (H : Heap) : Prop := LoopV (wpC Tryz.prog tab D147 (cAt [1, 1, 0, 1, 0, 0] (bodyOf Tryz.f147))) [1, 2, 9, 10] (PostF.block 0 (PostF.thenA (wpC Tryz.prog tab D147 (cAt [1, 1, 1] (bodyOf Tryz.f147))) (retF tab [.tmp 4] K))) [5, 11] [AV.any, v1, v2, AV.any, AV.any, v5, AV.any, AV.any, AV.any, v9, v10, v11, AV.any, AV.any, AV.any, AV.any, AV.any, AV.any, AV.any, AV.any, AV.any, AV.any, AV.any, AV.any, AV.any, AV.any, AV.any] H
def B147_0 (K : AV → Heap → Prop) (N1 : AV → AV → Heap → Prop) (v1 : AV) (v2 : AV) (v5 : AV) (v9 : AV) (v10 : AV) (v11 : AV) (H : Heap) : Prop :=
 binV tab .lss 3 v11 v10 fun v12 =>
 condV v12 (indexAddrV tab 33 v9 v11 fun v14 =>
 loadV tab 150 v14 H fun v15 =>
 allocV tab 150 H fun v7 H2 =>
 storeV tab 150 v7 v15 H2 fun H3 =>
 loadV tab 35 v2 H3 fun v16 =>
 fieldAddrV tab 150 v7 0 fun v17 =>
 loadV tab 32 v17 H3 fun v18 =>
 CallT Tryz.prog 91 [v16, v18, v1] H3 fun v20 H4 =>
 condV v20 (buildSliceV tab 46 1 [(0, v11)] H4 (wkK fun v23 H5 =>
 appendV tab 46 46 v5 v23 H5 (wkK fun v24 H6 =>
 binV tab .add 3 v11 (AV.p (.int .i64 1)) fun v25 =>
 N1 v24 v25 H6)))
 (binV tab .add 3 v11 (AV.p (.int .i64 1)) fun v25 =>
 N1 v5 v25 H4))
 (K v5 H)
def W147 (v0 : AV) (v1 : AV) (H : Heap) (K : AV → Heap → Prop) : Prop :=
 boxV v0 H fun v2 H1 =>
 fieldAddrV tab 35 v2 3 fun v8 =>
 loadV tab 33 v8 H1 fun v9 =>
 lenV tab 33 v9 fun v10 =>
 L147_0 K v1 v2 (AV.p .nil) v9 v10 (AV.p (.int .i64 0)) H1
theorem W147_wp (v0 : AV) (v1 : AV) (H : Heap) (K : AV → Heap → Prop) : wpC Tryz.prog tab D147 (bodyOf Tryz.f147) (retF tab [.tmp 4] K) (nthA [v0, v1]) H = W147 v0 v1 H K := by kernel_rfl
theorem W147_ok {v0 v1 : AV} {H : Heap} {K : AV → Heap → Prop} (h : W147 v0 v1 H K) : CallT Tryz.prog 147 [v0, v1] H K :=
  CallT.of_wp (D := D147) tab_ok mixed Tryz.func147 (c := bodyOf Tryz.f147) (by kernel_rfl) rfl (by kernel_rfl) (rs := #[.tmp 4]) rfl (by decide +kernel) (by kernel_rfl) (W147_wp v0 v1 H K) h
theorem W147_hb : HasBody Tryz.prog 147 := ⟨_, bodyOf Tryz.f147, Tryz.func147, by kernel_rfl, rfl⟩
theorem L147_0_rule {K : AV → Heap → Prop} {v1 v2 v5 v9 v10 v11 : AV} {H : Heap} {σ : Type} (s0 : σ) (f5 : σ → AV) (f11 : σ → AV) (TH : σ → Heap) (pre : σ → Prop) (μ : σ → Nat)
    (h0 : pre s0 ∧ AV.wk v5 (f5 s0) ∧ AV.wk v11 (f11 s0) ∧ Heap.le (TH s0) H)
    (round : ∀ s, pre s → B147_0 K (fun w5 w11 H' => ∃ s', pre s' ∧ μ s' < μ s ∧ AV.wk w5 (f5 s') ∧ AV.wk w11 (f11 s') ∧ Heap.le (TH s') H') v1 v2 (f5 s) v9 v10 (f11 s) (TH s)) :
    L147_0 K v1 v2 v5 v9 v10 v11 H := by
  unfold L147_0
  exact LoopV.mk s0 (fun s => [f5 s, f11 s]) TH pre μ (fun _ => rfl) (Eq.mp (by kernel_rfl) h0) (fun s hs => Eq.mp (by kernel_rfl) (round s hs))
def D148 : Info := ⟨26, fun i => if i = 5 then ([[], [], [1], [1, 2], [0, 1, 2, 3], [], [], [5, 6], [5, 6, 7], [5, 6, 7, 8], [0, 1, 2, 3, 4, 5, 6, 7, 8, 9], [0, 1, 2, 3, 4, 5, 6, 7, 8, 9, 10]], [(0, []), (1, []), (2, []), (3, []), (4, []), (5, []), (6, []), (7, []), (8, []), (9, []), (10, []), (11, [])]) else ([], []), fun i => if i = 3 then ([1, 2], [5, 6]) else ([], [])⟩
def L148_0 (K : AV → Heap → Prop) (v1 : AV) (v2 : AV) (v5 : AV) (v6 : AV) (H : Heap) : Prop := LoopV (wpC Tryz.prog tab D148 (cAt [1, 1, 0, 1, 0, 0] (bodyOf Tryz.f148))) [1, 2] (PostF.block 0 (PostF.thenA (wpC Tryz.prog tab D148 (cAt [1, 1, 1] (bodyOf Tryz.f148))) (retF tab [.tmp 4] K))) [5, 6] [AV.any, v1, v2, AV.any, AV.any, v5, v6, AV.any, AV.any, AV.any, AV.any, AV.any, AV.any, AV.any, AV.any, AV.any, AV.any, AV.any, AV.any, AV.any, AV.any, AV.any, AV.any, AV.any, AV.any, AV.any] H
def B148_0 (K : AV → Heap → Prop) (N1 : AV → AV → Heap → Prop) (v1 : AV) (v2 : AV) (v5 : AV) (v6 : AV) (H : Heap) : Prop :=
 binV tab .geq 3 v6 (AV.p (.int .i64 0)) fun v11 =>
 condV v11 (fieldAddrV tab 35 v2 0 fun v15 =>
 loadV tab 3 v15 H fun v16 =>
 convV tab 3 114 v16 fun v17 =>
 binV tab .shl 3 v5 v17 fun v18 =>
 indexAddrV tab 116 v1 v6 fun v21 =>
 loadV tab 153 v21 H fun v22 =>
 convV tab 153 3 v22 fun v23 =>
 binV tab .add 3 v18 v23 fun v24 =>
 binV tab .sub 3 v6 (AV.p (.int .i64 1)) fun v13 =>
 N1 v24 v13 H)
 (K v5 H)
def W148 (v0 : AV) (v1 : AV) (H : Heap) (K : AV → Heap → Prop) : Prop :=
 boxV v0 H fun v2 H1 =>
 fieldAddrV tab 35 v2 1 fun v7 =>
 loadV tab 3 v7 H1 fun v8 =>
 binV tab .sub 3 v8 (AV.p (.int .i64 1)) fun v9 =>
 L148_0 K v1 v2 (AV.p (.int .i64 0)) v9 H1
theorem W148_wp (v0 : AV) (v1 : AV) (H : Heap) (K : AV → Heap → Prop) : wpC Tryz.prog tab D148 (bodyOf Tryz.f148) (retF tab [.tmp 4] K) (nthA [v0, v1]) H = W148 v0 v1 H K := by kernel_rfl
theorem W148_ok {v0 v1 : AV} {H : Heap} {K : AV → Heap → Prop} (h : W148 v0 v1 H K) : CallT Tryz.prog 148 [v0, v1] H K :=
  CallT.of_wp (D := D148) tab_ok mixed Tryz.func148 (c := bodyOf Tryz.f148) (by kernel_rfl) rfl (by kernel_rfl) (rs := #[.tmp 4]) rfl (by decide +kernel) (by kernel_rfl) (W148_wp v0 v1 H K) h
theorem L148_0_rule {K : AV → Heap → Prop} {v1 v2 v5 v6 : AV} {H : Heap} {σ : Type} (s0 : σ) (f5 : σ → AV) (f6 : σ → AV) (TH : σ → Heap) (pre : σ → Prop) (μ : σ → Nat)
    (h0 : pre s0 ∧ AV.wk v5 (f5 s0) ∧ AV.wk v6 (f6 s0) ∧ Heap.le (TH s0) H)
    (round : ∀ s, pre s → B148_0 K (fun w5 w6 H' => ∃ s', pre s' ∧ μ s' < μ s ∧ AV.wk w5 (f5 s') ∧ AV.wk w6 (f6 s') ∧ Heap.le (TH s') H') v1 v2 (f5 s) (f6 s) (TH s)) :
    L148_0 K v1 v2 v5 v6 H := by
  unfold L148_0
  exact LoopV.mk s0 (fun s => [f5 s, f6 s]) TH pre μ (fun _ => rfl) (Eq.mp (by kernel_rfl) h0) (fun s hs => Eq.mp (by kernel_rfl) (round s hs))
def D149 : Info := ⟨40, fun i => if i = 5 then ([[], [], [1], [], [3], [], [5], [], [7], [7, 8], [7, 8, 9], [], [3, 4, 5, 6, 7, 8, 9, 10, 11], [0, 1, 2, 3, 4, 5, 6, 7, 8, 9, 10, 11, 12], [0, 1, 2, 3, 4, 5, 6, 7, 8, 9, 10, 11, 12, 13]], [(0, []), (1, []), (2, []), (3, []), (4, []), (5, []), (6, []), (7, []), (8, []), (9, []), (10, []), (11, []), (12, [2]), (13, []), (14, [])]) else ([], []), fun i => if i = 3 then ([1, 3, 7, 18, 19], [20]) else ([], [])⟩
def L149_0 (K : AV → Heap → Prop) (v1 : AV) (v3 : AV) (v7 : AV) (v18 : AV) (v19 : AV) (v20 : AV) (H : Heap) : Prop := LoopV (wpC Tryz.prog tab D149 (cAt [1, 1, 0, 1, 0, 0] (bodyOf Tryz.f149))) [1, 3, 7, 18, 19] (PostF.block 0 (PostF.thenA (wpC Tryz.prog tab D149 (cAt [1, 1, 1] (bodyOf Tryz.f149))) (retF tab [.tmp 6] K))) [20] [AV.any, v1, AV.any, v3, AV.any, AV.any, AV.any, v7, AV.any, AV.any, AV.any, AV.any, AV.any, AV.any, AV.any, AV.any, AV.any, AV.any, v18, v19, v20, AV.any, AV.any, AV.any, AV.any, AV.any, AV.any, AV.any, AV.any, AV.any, AV.any, AV.any, AV.any, AV.any, AV.any, AV.any, AV.any, AV.any, AV.any, AV.any] H
def B149_0 (K : AV → Heap → Prop) (N1 : AV → Heap → Prop) (v1 : AV) (v3 : AV) (v7 : AV) (v18 : AV) (v19 : AV) (v20 : AV) (H : Heap) : Prop :=
 binV tab .lss 3 v20 v19 fun v21 =>
 condV v21 (indexAddrV tab 148 v18 v20 fun v22 =>
 loadV tab 188 v22 H fun v23 =>
 allocV tab 188 H fun v9 H4 =>
 storeV tab 188 v9 v23 H4 fun H5 =>
 fieldAddrV tab 188 v9 0 fun v25 =>
 loadV tab 3 v25 H5 fun v26 =>
 fieldAddrV tab 35 v3 0 fun v27 =>
 loadV tab 3 v27 H5 fun v28 =>
 fieldAddrV tab 188 v9 1 fun v29 =>
 loadV tab 32 v29 H5 fun v30 =>
 fieldAddrV tab 188 v9 1 fun v31 =>
 loadV tab 32 v31 H5 fun v32 =>
 lenV tab 32 v32 fun v33 =>
 binV tab .sub 3 v33 (AV.p (.int .i64 1)) fun v34 =>
 CallT Tryz.prog 143 [v28, v30, v34, v1] H5 fun v36 H6 =>
 (loadV tab 3 v25 H6 fun v9026 =>
 v26 = v9026) ∧
 indexAddrV tab 116 v7 v26 fun v37 =>
 storeV tab 153 v37 v36 H6 fun H7 =>
 binV tab .add 3 v20 (AV.p (.int .i64 1)) fun v38 =>
 N1 v38 H7)
 (K v7 H)
def W149 (v0 : AV) (v1 : AV) (v2 : AV) (H : Heap) (K : AV → Heap → Prop) : Prop :=
 boxV v0 H fun v3 H1 =>
 buildSliceV tab 116 0 [] H1 (wkK fun v10 H2 =>
 appendV tab 116 116 v10 v1 H2 (wkK fun v12 H3 =>
 fieldAddrV tab 35 v3 3 fun v13 =>
 loadV tab 33 v13 H3 fun v14 =>
 indexAddrV tab 33 v14 v2 fun v16 =>
 fieldAddrV tab 150 v16 1 fun v17 =>
 loadV tab 148 v17 H3 fun v18 =>
 lenV tab 148 v18 fun v19 =>
 L149_0 K v1 v3 v12 v18 v19 (AV.p (.int .i64 0)) H3))
theorem W149_wp (v0 : AV) (v1 : AV) (v2 : AV) (H : Heap) (K : AV → Heap → Prop) : wpC Tryz.prog tab D149 (bodyOf Tryz.f149) (retF tab [.tmp 6] K) (nthA [v0, v1, v2]) H = W149 v0 v1 v2 H K := by kernel_rfl
theorem W149_ok {v0 v1 v2 : AV} {H : Heap} {K : AV → Heap → Prop} (h : W149 v0 v1 v2 H K) : CallT Tryz.prog 149 [v0, v1, v2] H K :=
  CallT.of_wp (D := D149) tab_ok mixed Tryz.func149 (c := bodyOf Tryz.f149) (by kernel_rfl) rfl (by kernel_rfl) (rs := #[.tmp 6]) rfl (by decide +kernel) (by kernel_rfl) (W149_wp v0 v1 v2 H K) h
theorem L149_0_rule {K : AV → Heap → Prop} {v1 v3 v7 v18 v19 v20 : AV} {H : Heap} {σ : Type} (s0 : σ) (f20 : σ → AV) (TH : σ → Heap) (pre : σ → Prop) (μ : σ → Nat)
    (h0 : pre s0 ∧ AV.wk v20 (f20 s0) ∧ Heap.le (TH s0) H)
    (round : ∀ s, pre s → B149_0 K (fun w20 H' => ∃ s', pre s' ∧ μ s' < μ s ∧ AV.wk w20 (f20 s') ∧ Heap.le (TH s') H') v1 v3 v7 v18 v19 (f20 s) (TH s)) :
    L149_0 K v1 v3 v7 v18 v19 v20 H := by
  unfold L149_0
  exact LoopV.mk s0 (fun s => [f20 s]) TH pre μ (fun _ => rfl) (Eq.mp (by kernel_rfl) h0) (fun s hs => Eq.mp (by kernel_rfl) (round s hs))
end Go.Proofs.YtgcklgeifdefhaaGreat
namespace Go.Proofs.YtgcklgeifdefhaaGreat
open Go Go.Sep
attribute [local irreducible] wpC headF
def D150 : Info := ⟨19, fun i => ([], []), fun i => if i = 2 then ([0, 1, 7], [8]) else ([], [])⟩
def L150_0 (K : AV → Heap → Prop) (v0 : AV) (v1 : AV) (v7 : AV) (v8 : AV) (H : Heap) : Prop := LoopV (wpC Tryz.prog tab D150 (cAt [1, 0, 1, 0, 0] (bodyOf Tryz.f150))) [0, 1, 7] (PostF.block 0 (PostF.thenA (wpC Tryz.prog tab D150 (cAt [1, 1] (bodyOf Tryz.f150))) (retF tab [.tmp 4] K))) [8] [v0, v1, AV.any, AV.any, AV.any, AV.any, AV.any, v7, v8, AV.any, AV.any, AV.any, AV.any, AV.any, AV.any, AV.any, AV.any, AV.any, AV.any] H
def B150_0 (K : AV → Heap → Prop) (N1 : AV → Heap → Prop) (v0 : AV) (v1 : AV) (v7 : AV) (v8 : AV) (H : Heap) : Prop :=
 binV tab .lss 3 v8 v7 fun v9 =>
 condV v9 (indexAddrV tab 46 v0 v8 fun v14 =>
 loadV tab 3 v14 H fun v15 =>
 callF Tryz.prog v1 [v15] H fun v16 H1 =>
 condV v16 (K v8 H1)
 (binV tab .add 3 v8 (AV.p (.int .i64 1)) fun v18 =>
 N1 v18 H1))
 (K (AV.p (.int .i64 (-1))) H)
def W150 (v0 : AV) (v1 : AV) (H : Heap) (K : AV → Heap → Prop) : Prop :=
 lenV tab 46 v0 fun v7 =>
 L150_0 K v0 v1 v7 (AV.p (.int .i64 0)) H
theorem W150_wp (v0 : AV) (v1 : AV) (H : Heap) (K : AV → Heap → Prop) : wpC Tryz.prog tab D150 (bodyOf Tryz.f150) (retF tab [.tmp 4] K) (nthA [v0, v1]) H = W150 v0 v1 H K := by kernel_rfl
theorem W150_ok {v0 v1 : AV} {H : Heap} {K : AV → Heap → Prop} (h : W150 v0 v1 H K) : CallT Tryz.prog 150 [v0, v1] H K :=
  CallT.of_wp (D := D150) tab_ok mixed Tryz.func150 (c := bodyOf Tryz.f150) (by kernel_rfl) rfl (by kernel_rfl) (rs := #[.tmp 4]) rfl (by decide +kernel) (by kernel_rfl) (W150_wp v0 v1 H K) h
theorem L150_0_rule {K : AV → Heap → Prop} {v0 v1 v7 v8 : AV} {H : Heap} {σ : Type} (s0 : σ) (f8 : σ → AV) (TH : σ → Heap) (pre : σ → Prop) (μ : σ → Nat)
    (h0 : pre s0 ∧ AV.wk v8 (f8 s0) ∧ Heap.le (TH s0) H)
    (round : ∀ s, pre s → B150_0 K (fun w8 H' => ∃ s', pre s' ∧ μ s' < μ s ∧ AV.wk w8 (f8 s') ∧ Heap.le (TH s') H') v0 v1 v7 (f8 s) (TH s)) :
    L150_0 K v0 v1 v7 v8 H := by
  unfold L150_0
  exact LoopV.mk s0 (fun s => [f8 s]) TH pre μ (fun _ => rfl) (Eq.mp (by kernel_rfl) h0) (fun s hs => Eq.mp (by kernel_rfl) (round s hs))
def D151 : Info := ⟨27, fun i => ([], []), fun i => ([], [])⟩
def W151 (v0 : AV) (v1 : AV) (H : Heap) (K : AV → Heap → Prop) : Prop :=
 binV tab .lss 3 v1 (AV.p (.int .i64 0)) fun v6 =>
 condV v6 (False)
 (capV tab 46 v0 fun v10 =>
 lenV tab 46 v0 fun v12 =>
 binV tab .sub 3 v10 v12 fun v13 =>
 binV tab .sub 3 v1 v13 fun v14 =>
 binV tab .gtr 3 v14 (AV.p (.int .i64 0)) fun v16 =>
 condV v16 (capV tab 46 v0 fun v19 =>
 sliceV tab 46 v0 none (some v19) none fun v20 =>
 appendV tab 46 3 v20 v14 H (wkK fun v22 H1 =>
 lenV tab 46 v0 fun v24 =>
 sliceV tab 46 v22 none (some v24) none fun v25 =>
 K v25 H1))
 (K v0 H))
theorem W151_wp (v0 : AV) (v1 : AV) (H : Heap) (K : AV → Heap → Prop) : wpC Tryz.prog tab D151 (bodyOf Tryz.f151) (retF tab [.tmp 4] K) (nthA [v0, v1]) H = W151 v0 v1 H K := by kernel_rfl
theorem W151_ok {v0 v1 : AV} {H : Heap} {K : AV → Heap → Prop} (h : W151 v0 v1 H K) : CallT Tryz.prog 151 [v0, v1] H K :=
  CallT.of_wp (D := D151) tab_ok mixed Tryz.func151 (c := bodyOf Tryz.f151) (by kernel_rfl) rfl (by kernel_rfl) (rs := #[.tmp 4]) rfl (by decide +kernel) (by kernel_rfl) (W151_wp v0 v1 H K) h
def D152 : Info := ⟨19, fun i => ([], []), fun i => if i = 2 then ([0, 1, 7], [8]) else ([], [])⟩
def L152_0 (K : AV → Heap → Prop) (v0 : AV) (v1 : AV) (v7 : AV) (v8 : AV) (H : Heap) : Prop := LoopV (wpC Tryz.prog tab D152 (cAt [1, 0, 1, 0, 0] (bodyOf Tryz.f152))) [0, 1, 7] (PostF.block 0 (PostF.thenA (wpC Tryz.prog tab D152 (cAt [1, 1] (bodyOf Tryz.f152))) (retF tab [.tmp 4] K))) [8] [v0, v1, AV.any, AV.any, AV.any, AV.any, AV.any, v7, v8, AV.any, AV.any, AV.any, AV.any, AV.any, AV.any, AV.any, AV.any, AV.any, AV.any] H
def B152_0 (K : AV → Heap → Prop) (N1 : AV → Heap → Prop) (v0 : AV) (v1 : AV) (v7 : AV) (v8 : AV) (H : Heap) : Prop :=
 binV tab .lss 3 v8 v7 fun v9 =>
 condV v9 (indexAddrV tab 46 v0 v8 fun v14 =>
 loadV tab 3 v14 H fun v15 =>
 binV tab .eql 3 v1 v15 fun v16 =>
 condV v16 (K v8 H)
 (binV tab .add 3 v8 (AV.p (.int .i64 1)) fun v18 =>
 N1 v18 H))
 (K (AV.p (.int .i64 (-1))) H)
def W152 (v0 : AV) (v1 : AV) (H : Heap) (K : AV → Heap → Prop) : Prop :=
 lenV tab 46 v0 fun v7 =>
 L152_0 K v0 v1 v7 (AV.p (.int .i64 0)) H
theorem W152_wp (v0 : AV) (v1 : AV) (H : Heap) (K : AV → Heap → Prop) : wpC Tryz.prog tab D152 (bodyOf Tryz.f152) (retF tab [.tmp 4] K) (nthA [v0, v1]) H = W152 v0 v1 H K := by kernel_rfl
theorem W152_ok {v0 v1 : AV} {H : Heap} {K : AV → Heap → Prop} (h : W152 v0 v1 H K) : CallT Tryz.prog 152 [v0, v1] H K :=
  CallT.of_wp (D := D152) tab_ok mixed Tryz.func152 (c := bodyOf Tryz.f152) (by kernel_rfl) rfl (by kernel_rfl) (rs := #[.tmp 4]) rfl (by decide +kernel) (by kernel_rfl) (W152_wp v0 v1 H K) h
theorem L152_0_rule {K : AV → Heap → Prop} {v0 v1 v7 v8 : AV} {H : Heap} {σ : Type} (s0 : σ) (f8 : σ → AV) (TH : σ → Heap) (pre : σ → Prop) (μ : σ → Nat)
    (h0 : pre s0 ∧ AV.wk v8 (f8 s0) ∧ Heap.le (TH s0) H)
    (round : ∀ s, pre s → B152_0 K (fun w8 H' => ∃ s', pre s' ∧ μ s' < μ s ∧ AV.wk w8 (f8 s') ∧ Heap.le (TH s') H') v0 v1 v7 (f8 s) (TH s)) :
    L152_0 K v0 v1 v7 v8 H := by
  unfold L152_0
  exact LoopV.mk s0 (fun s => [f8 s]) TH pre μ (fun _ => rfl) (Eq.mp (by kernel_rfl) h0) (fun s hs => Eq.mp (by kernel_rfl) (round s hs))
def D153 : Info := ⟨6, fun i => ([], []), fun i => ([], [])⟩
def W153 (v0 : AV) (H : Heap) (K : AV → Heap → Prop) : Prop :=
 CallT Tryz.prog 100 [v0, (.fn 180 [])] H fun v4 H1 =>
 unV .not v4 fun v5 =>
 K v5 H1
theorem W153_wp (v0 : AV) (H : Heap) (K : AV → Heap → Prop) : wpC Tryz.prog tab D153 (bodyOf Tryz.f153) (retF tab [.tmp 2] K) (nthA [v0]) H = W153 v0 H K := by kernel_rfl
theorem W153_ok {v0 : AV} {H : Heap} {K : AV → Heap → Prop} (h : W153 v0 H K) : CallT Tryz.prog 153 [v0] H K :=
  CallT.of_wp (D := D153) tab_ok mixed Tryz.func153 (c := bodyOf Tryz.f153) (by kernel_rfl) rfl (by kernel_rfl) (rs := #[.tmp 2]) rfl (by decide +kernel) (by kernel_rfl) (W153_wp v0 H K) h
def D154 : Info := ⟨27, fun i => ([], []), fun i => if i = 2 then ([0], [1, 5]) else ([], [])⟩
def L154_0 (K : AV → Heap → Prop) (v0 : AV) (v1 : AV) (v5 : AV) (H : Heap) : Prop := LoopV (wpC Tryz.prog tab D154 (cAt [1, 0, 1, 0, 0] (bodyOf Tryz.f154))) [0] (PostF.block 0 (PostF.thenA (wpC Tryz.prog tab D154 (cAt [1, 1] (bodyOf Tryz.f154))) (retF tab [.tmp 4] K))) [1, 5] [v0, v1, AV.any, AV.any, AV.any, v5, AV.any, AV.any, AV.any, AV.any, AV.any, AV.any, AV.any, AV.any, AV.any, AV.any, AV.any, AV.any, AV.any, AV.any, AV.any, AV.any, AV.any, AV.any, AV.any, AV.any, AV.any] H
def B154_0 (K : AV → Heap → Prop) (N1 : AV → AV → Heap → Prop) (v0 : AV) (v1 : AV) (v5 : AV) (H : Heap) : Prop :=
 lenV tab 148 v0 fun v8 =>
 binV tab .lss 3 v5 v8 fun v9 =>
 condV v9 (indexAddrV tab 148 v0 v5 fun v15 =>
 fieldAddrV tab 188 v15 0 fun v16 =>
 storeV tab 3 v16 v1 H fun H1 =>
 binV tab .add 3 v1 (AV.p (.int .i64 1)) fun v18 =>
 indexAddrV tab 148 v0 v5 fun v21 =>
 fieldAddrV tab 188 v21 1 fun v22 =>
 loadV tab 32 v22 H1 fun v23 =>
 CallT Tryz.prog 107 [v23, v18] H1 fun v25 H2 =>
 binV tab .add 3 v5 (AV.p (.int .i64 1)) fun v11 =>
 N1 v25 v11 H2)
 (K v1 H)
def W154 (v0 : AV) (v1 : AV) (H : Heap) (K : AV → Heap → Prop) : Prop :=
 L154_0 K v0 v1 (AV.p (.int .i64 0)) H
theorem W154_wp (v0 : AV) (v1 : AV) (H : Heap) (K : AV → Heap → Prop) : wpC Tryz.prog tab D154 (bodyOf Tryz.f154) (retF tab [.tmp 4] K) (nthA [v0, v1]) H = W154 v0 v1 H K := by kernel_rfl
theorem W154_ok {v0 v1 : AV} {H : Heap} {K : AV → Heap → Prop} (h : W154 v0 v1 H K) : CallT Tryz.prog 154 [v0, v1] H K :=
  CallT.of_wp (D := D154) tab_ok mixed Tryz.func154 (c := bodyOf Tryz.f154) (by kernel_rfl) rfl (by kernel_rfl) (rs := #[.tmp 4]) rfl (by decide +kernel) (by kernel_rfl) (W154_wp v0 v1 H K) h
theorem L154_0_rule {K : AV → Heap → Prop} {v0 v1 v5 : AV} {H : Heap} {σ : Type} (s0 : σ) (f1 : σ → AV) (f5 : σ → AV) (TH : σ → Heap) (pre : σ → Prop) (μ : σ → Nat)
    (h0 : pre s0 ∧ AV.wk v1 (f1 s0) ∧ AV.wk v5 (f5 s0) ∧ Heap.le (TH s0) H)
    (round : ∀ s, pre s → B154_0 K (fun w1 w5 H' => ∃ s', pre s' ∧ μ s' < μ s ∧ AV.wk w1 (f1 s') ∧ AV.wk w5 (f5 s') ∧ Heap.le (TH s') H') v0 (f1 s) (f5 s) (TH s)) :
    L154_0 K v0 v1 v5 H := by
  unfold L154_0
  exact LoopV.mk s0 (fun s => [f1 s, f5 s]) TH pre μ (fun _ => rfl) (Eq.mp (by kernel_rfl) h0) (fun s hs => Eq.mp (by kernel_rfl) (round s hs))
def D158 : Info := ⟨26, fun i => ([], []), fun i => if i = 3 then ([2, 8, 9], [5, 10]) else ([], [])⟩
def L158_0 (K : AV → Heap → Prop) (v2 : AV) (v5 : AV) (v8 : AV) (v9 : AV) (v10 : AV) (H : Heap) : Prop := LoopV (wpC Tryz.prog tab D158 (cAt [1, 1, 0, 1, 0, 0] (bodyOf Tryz.f158))) [2, 8, 9] (PostF.block 0 (PostF.thenA (wpC Tryz.prog tab D158 (cAt [1, 1, 1] (bodyOf Tryz.f158))) (retF tab [.tmp 4] K))) [5, 10] [AV.any, AV.any, v2, AV.any, AV.any, v5, AV.any, AV.any, v8, v9, v10, AV.any, AV.any, AV.any, AV.any, AV.any, AV.any, AV.any, AV.any, AV.any, AV.any, AV.any, AV.any, AV.any, AV.any, AV.any] H
def B158_0 (K : AV → Heap → Prop) (N1 : AV → AV → Heap → Prop) (v2 : AV) (v5 : AV) (v8 : AV) (v9 : AV) (v10 : AV) (H : Heap) : Prop :=
 binV tab .lss 3 v10 v9 fun v11 =>
 condV v11 (indexAddrV tab 116 v8 v10 fun v13 =>
 loadV tab 153 v13 H fun v14 =>
 convV tab 153 3 v14 fun v17 =>
 fieldAddrV tab 35 v2 0 fun v18 =>
 loadV tab 3 v18 H fun v19 =>
 binV tab .mul 3 v19 v10 fun v21 =>
 binV tab .shl 3 v17 v21 fun v22 =>
 binV tab .or 3 v5 v22 fun v23 =>
 binV tab .add 3 v10 (AV.p (.int .i64 1)) fun v24 =>
 N1 v23 v24 H)
 (K v5 H)
def W158 (v0 : AV) (v1 : AV) (H : Heap) (K : AV → Heap → Prop) : Prop :=
 boxV v0 H fun v2 H1 =>
 lenV tab 116 v1 fun v9 =>
 L158_0 K v2 (AV.p (.int .i64 0)) v1 v9 (AV.p (.int .i64 0)) H1
theorem W158_wp (v0 : AV) (v1 : AV) (H : Heap) (K : AV → Heap → Prop) : wpC Tryz.prog tab D158 (bodyOf Tryz.f158) (retF tab [.tmp 4] K) (nthA [v0, v1]) H = W158 v0 v1 H K := by kernel_rfl
theorem W158_ok {v0 v1 : AV} {H : Heap} {K : AV → Heap → Prop} (h : W158 v0 v1 H K) : CallT Tryz.prog 158 [v0, v1] H K :=
  CallT.of_wp (D := D158) tab_ok mixed Tryz.func158 (c := bodyOf Tryz.f158) (by kernel_rfl) rfl (by kernel_rfl) (rs := #[.tmp 4]) rfl (by decide +kernel) (by kernel_rfl) (W158_wp v0 v1 H K) h
theorem L158_0_rule {K : AV → Heap → Prop} {v2 v5 v8 v9 v10 : AV} {H : Heap} {σ : Type} (s0 : σ) (f5 : σ → AV) (f10 : σ → AV) (TH : σ → Heap) (pre : σ → Prop) (μ : σ → Nat)
    (h0 : pre s0 ∧ AV.wk v5 (f5 s0) ∧ AV.wk v10 (f10 s0) ∧ Heap.le (TH s0) H)
    (round : ∀ s, pre s → B158_0 K (fun w5 w10 H' => ∃ s', pre s' ∧ μ s' < μ s ∧ AV.wk w5 (f5 s') ∧ AV.wk w10 (f10 s') ∧ Heap.le (TH s') H') v2 (f5 s) v8 v9 (f10 s) (TH s)) :
    L158_0 K v2 v5 v8 v9 v10 H := by
  unfold L158_0
  exact LoopV.mk s0 (fun s => [f5 s, f10 s]) TH pre μ (fun _ => rfl) (Eq.mp (by kernel_rfl) h0) (fun s hs => Eq.mp (by kernel_rfl) (round s hs))
def D159 : Info := ⟨31, fun i => if i = 5 then ([[], [], [1], [], [3], [], [5], [], [3, 4, 5, 6, 7], [0, 1, 2, 3, 4, 5, 6, 7, 8], [0, 1, 2, 3, 4, 5, 6, 7, 8, 9]], [(0, []), (1, []), (2, []), (3, []), (4, []), (5, []), (6, []), (7, []), (8, [2]), (9, []), (10, [])]) else ([], []), fun i => if i = 3 then ([2, 3, 7, 13, 14], [15]) else ([], [])⟩
def L159_0 (K : AV → Heap → Prop) (v2 : AV) (v3 : AV) (v7 : AV) (v13 : AV) (v14 : AV) (v15 : AV) (H : Heap) : Prop := LoopV (wpC Tryz.prog tab D159 (cAt [1, 1, 0, 1, 0, 0] (bodyOf Tryz.f159))) [2, 3, 7, 13, 14] (PostF.block 0 (PostF.thenA (wpC Tryz.prog tab D159 (cAt [1, 1, 1] (bodyOf Tryz.f159))) (retF tab [.tmp 6] K))) [15] [AV.any, AV.any, v2, v3, AV.any, AV.any, AV.any, v7, AV.any, AV.any, AV.any, AV.any, AV.any, v13, v14, v15, AV.any, AV.any, AV.any, AV.any, AV.any, AV.any, AV.any, AV.any, AV.any, AV.any, AV.any, AV.any, AV.any, AV.any, AV.any] H
def B159_0 (K : AV → Heap → Prop) (N1 : AV → Heap → Prop) (v2 : AV) (v3 : AV) (v7 : AV) (v13 : AV) (v14 : AV) (v15 : AV) (H : Heap) : Prop :=
 binV tab .lss 3 v15 v14 fun v16 =>
 condV v16 (indexAddrV tab 148 v13 v15 fun v17 =>
 loadV tab 188 v17 H fun v18 =>
 allocV tab 188 H fun v9 H4 =>
 storeV tab 188 v9 v18 H4 fun H5 =>
 fieldAddrV tab 188 v9 0 fun v20 =>
 loadV tab 3 v20 H5 fun v21 =>
 fieldAddrV tab 35 v3 0 fun v22 =>
 loadV tab 3 v22 H5 fun v23 =>
 fieldAddrV tab 188 v9 1 fun v24 =>
 loadV tab 32 v24 H5 fun v25 =>
 CallT Tryz.prog 145 [v23, v25, v2] H5 fun v27 H6 =>
 (loadV tab 3 v20 H6 fun v9021 =>
 v21 = v9021) ∧
 indexAddrV tab 116 v7 v21 fun v28 =>
 storeV tab 153 v28 v27 H6 fun H7 =>
 binV tab .add 3 v15 (AV.p (.int .i64 1)) fun v29 =>
 N1 v29 H7)
 (K v7 H)
def W159 (v0 : AV) (v1 : AV) (v2 : AV) (H : Heap) (K : AV → Heap → Prop) : Prop :=
 boxV v0 H fun v3 H1 =>
 boxV v1 H1 fun v4 H2 =>
 CallT Tryz.prog 182 [v2] H2 fun v11 H3 =>
 fieldAddrV tab 150 v4 1 fun v12 =>
 loadV tab 148 v12 H3 fun v13 =>
 lenV tab 148 v13 fun v14 =>
 L159_0 K v2 v3 v11 v13 v14 (AV.p (.int .i64 0)) H3
theorem W159_wp (v0 : AV) (v1 : AV) (v2 : AV) (H : Heap) (K : AV → Heap → Prop) : wpC Tryz.prog tab D159 (bodyOf Tryz.f159) (retF tab [.tmp 6] K) (nthA [v0, v1, v2]) H = W159 v0 v1 v2 H K := by kernel_rfl
theorem W159_ok {v0 v1 v2 : AV} {H : Heap} {K : AV → Heap → Prop} (h : W159 v0 v1 v2 H K) : CallT Tryz.prog 159 [v0, v1, v2] H K :=
  CallT.of_wp (D := D159) tab_ok mixed Tryz.func159 (c := bodyOf Tryz.f159) (by kernel_rfl) rfl (by kernel_rfl) (rs := #[.tmp 6]) rfl (by decide +kernel) (by kernel_rfl) (W159_wp v0 v1 v2 H K) h
theorem L159_0_rule {K : AV → Heap → Prop} {v2 v3 v7 v13 v14 v15 : AV} {H : Heap} {σ : Type} (s0 : σ) (f15 : σ → AV) (TH : σ → Heap) (pre : σ → Prop) (μ : σ → Nat)
    (h0 : pre s0 ∧ AV.wk v15 (f15 s0) ∧ Heap.le (TH s0) H)
    (round : ∀ s, pre s → B159_0 K (fun w15 H' => ∃ s', pre s' ∧ μ s' < μ s ∧ AV.wk w15 (f15 s') ∧ Heap.le (TH s') H') v2 v3 v7 v13 v14 (f15 s) (TH s)) :
    L159_0 K v2 v3 v7 v13 v14 v15 H := by
  unfold L159_0
  exact LoopV.mk s0 (fun s => [f15 s]) TH pre μ (fun _ => rfl) (Eq.mp (by kernel_rfl) h0) (fun s hs => Eq.mp (by kernel_rfl) (round s hs))
def D165 : Info := ⟨27, fun i => ([], []), fun i => if i = 5 then ([0], [1, 5]) else ([], [])⟩
def L165_0 (K : AV → Heap → Prop) (v0 : AV) (v1 : AV) (v5 : AV) (H : Heap) : Prop := LoopV (wpC Tryz.prog tab D165 (cAt [1, 1, 1, 0, 1, 0, 0] (bodyOf Tryz.f165))) [0] (PostF.block 0 (PostF.thenA (wpC Tryz.prog tab D165 (cAt [1, 1, 1, 1] (bodyOf Tryz.f165))) (retF tab [.tmp 4] K))) [1, 5] [v0, v1, AV.any, AV.any, AV.any, v5, AV.any, AV.any, AV.any, AV.any, AV.any, AV.any, AV.any, AV.any, AV.any, AV.any, AV.any, AV.any, AV.any, AV.any, AV.any, AV.any, AV.any, AV.any, AV.any, AV.any, AV.any] H
def B165_0 (K : AV → Heap → Prop) (N1 : AV → AV → Heap → Prop) (v0 : AV) (v1 : AV) (v5 : AV) (H : Heap) : Prop :=
 lenV tab 145 v0 fun v14 =>
 binV tab .lss 3 v5 v14 fun v15 =>
 condV v15 (indexAddrV tab 145 v0 v5 fun v20 =>
 loadV tab 201 v20 H fun v21 =>
 CallT Tryz.prog 183 [v21, v1] H fun v23 H1 =>
 binV tab .lss 3 v23 (AV.p (.int .i64 0)) fun v25 =>
 condV v25 (K (AV.p (.int .i64 (-1))) H1)
 (binV tab .add 3 v5 (AV.p (.int .i64 1)) fun v17 =>
 N1 v23 v17 H1))
 (K v1 H)
def W165 (v0 : AV) (v1 : AV) (H : Heap) (K : AV → Heap → Prop) : Prop :=
 lenV tab 145 v0 fun v8 =>
 binV tab .sub 3 v1 v8 fun v9 =>
 binV tab .lss 3 v9 (AV.p (.int .i64 0)) fun v11 =>
 condV v11 (K (AV.p (.int .i64 (-1))) H)
 (L165_0 K v0 v9 (AV.p (.int .i64 0)) H)
theorem W165_wp (v0 : AV) (v1 : AV) (H : Heap) (K : AV → Heap → Prop) : wpC Tryz.prog tab D165 (bodyOf Tryz.f165) (retF tab [.tmp 4] K) (nthA [v0, v1]) H = W165 v0 v1 H K := by kernel_rfl
theorem W165_ok {v0 v1 : AV} {H : Heap} {K : AV → Heap → Prop} (h : W165 v0 v1 H K) : CallT Tryz.prog 165 [v0, v1] H K :=
  CallT.of_wp (D := D165) tab_ok mixed Tryz.func165 (c := bodyOf Tryz.f165) (by kernel_rfl) rfl (by kernel_rfl) (rs := #[.tmp 4]) rfl (by decide +kernel) (by kernel_rfl) (W165_wp v0 v1 H K) h
theorem L165_0_rule {K : AV → Heap → Prop} {v0 v1 v5 : AV} {H : Heap} {σ : Type} (s0 : σ) (f1 : σ → AV) (f5 : σ → AV) (TH : σ → Heap) (pre : σ → Prop) (μ : σ → Nat)
    (h0 : pre s0 ∧ AV.wk v1 (f1 s0) ∧ AV.wk v5 (f5 s0) ∧ Heap.le (TH s0) H)
    (round : ∀ s, pre s → B165_0 K (fun w1 w5 H' => ∃ s', pre s' ∧ μ s' < μ s ∧ AV.wk w1 (f1 s') ∧ AV.wk w5 (f5 s') ∧ Heap.le (TH s') H') v0 (f1 s) (f5 s) (TH s)) :
    L165_0 K v0 v1 v5 H := by
  unfold L165_0
  exact LoopV.mk s0 (fun s => [f1 s, f5 s]) TH pre μ (fun _ => rfl) (Eq.mp (by kernel_rfl) h0) (fun s hs => Eq.mp (by kernel_rfl) (round s hs))
def D166 : Info := ⟨14, fun i => ([], []), fun i => ([], [])⟩
def W166 (v0 : AV) (v1 : AV) (H : Heap) (K : AV → Heap → Prop) : Prop :=
 CallT Tryz.prog 124 [v0] H fun v6 H1 =>
 grdV v6 true (CallT Tryz.prog 176 [v0, v1] H1 fun v10 H2 =>
 binV tab .eql 153 v10 v1 fun v12 =>
 K v12 H2)
 (K (AV.p (.bool false)) H1)
theorem W166_wp (v0 : AV) (v1 : AV) (H : Heap) (K : AV → Heap → Prop) : wpC Tryz.prog tab D166 (bodyOf Tryz.f166) (retF tab [.tmp 4] K) (nthA [v0, v1]) H = W166 v0 v1 H K := by kernel_rfl
theorem W166_ok {v0 v1 : AV} {H : Heap} {K : AV → Heap → Prop} (h : W166 v0 v1 H K) : CallT Tryz.prog 166 [v0, v1] H K :=
  CallT.of_wp (D := D166) tab_ok mixed Tryz.func166 (c := bodyOf Tryz.f166) (by kernel_rfl) rfl (by kernel_rfl) (rs := #[.tmp 4]) rfl (by decide +kernel) (by kernel_rfl) (W166_wp v0 v1 H K) h
def D167 : Info := ⟨23, fun i => ([], []), fun i => if i = 3 then ([0, 3], [4]) else ([], [])⟩
def L167_0 (K : AV → Heap → Prop) (v0 : AV) (v3 : AV) (v4 : AV) (H : Heap) : Prop := LoopV (wpC Tryz.prog tab D167 (cAt [1, 1, 0, 1, 0, 0] (bodyOf Tryz.f167))) [0, 3] (PostF.block 0 (PostF.thenA (wpC Tryz.prog tab D167 (cAt [1, 1, 1] (bodyOf Tryz.f167))) (retF tab [.tmp 2] K))) [4] [v0, AV.any, AV.any, v3, v4, AV.any, AV.any, AV.any, AV.any, AV.any, AV.any, AV.any, AV.any, AV.any, AV.any, AV.any, AV.any, AV.any, AV.any, AV.any, AV.any, AV.any, AV.any] H
def B167_0 (K : AV → Heap → Prop) (N1 : AV → Heap → Prop) (v0 : AV) (v3 : AV) (v4 : AV) (H : Heap) : Prop :=
 lenV tab 145 v0 fun v10 =>
 binV tab .lss 3 v4 v10 fun v11 =>
 condV v11 (indexAddrV tab 145 v0 v4 fun v18 =>
 loadV tab 201 v18 H fun v19 =>
 CallT Tryz.prog 184 [v19] H fun v20 H2 =>
 indexAddrV tab 148 v3 v4 fun v21 =>
 storeV tab 188 v21 v20 H2 fun H3 =>
 binV tab .add 3 v4 (AV.p (.int .i64 1)) fun v13 =>
 N1 v13 H3)
 (K v3 H)
def W167 (v0 : AV) (H : Heap) (K : AV → Heap → Prop) : Prop :=
 lenV tab 145 v0 fun v6 =>
 makeSliceV tab 148 v6 v6 H fun v7 H1 =>
 L167_0 K v0 v7 (AV.p (.int .i64 0)) H1
theorem W167_wp (v0 : AV) (H : Heap) (K : AV → Heap → Prop) : wpC Tryz.prog tab D167 (bodyOf Tryz.f167) (retF tab [.tmp 2] K) (nthA [v0]) H = W167 v0 H K := by kernel_rfl
theorem W167_ok {v0 : AV} {H : Heap} {K : AV → Heap → Prop} (h : W167 v0 H K) : CallT Tryz.prog 167 [v0] H K :=
  CallT.of_wp (D := D167) tab_ok mixed Tryz.func167 (c := bodyOf Tryz.f167) (by kernel_rfl) rfl (by kernel_rfl) (rs := #[.tmp 2]) rfl (by decide +kernel) (by kernel_rfl) (W167_wp v0 H K) h
theorem L167_0_rule {K : AV → Heap → Prop} {v0 v3 v4 : AV} {H : Heap} {σ : Type} (s0 : σ) (f4 : σ → AV) (TH : σ → Heap) (pre : σ → Prop) (μ : σ → Nat)
    (h0 : pre s0 ∧ AV.wk v4 (f4 s0) ∧ Heap.le (TH s0) H)
    (round : ∀ s, pre s → B167_0 K (fun w4 H' => ∃ s', pre s' ∧ μ s' < μ s ∧ AV.wk w4 (f4 s') ∧ Heap.le (TH s') H') v0 v3 (f4 s) (TH s)) :
    L167_0 K v0 v3 v4 H := by
  unfold L167_0
  exact LoopV.mk s0 (fun s => [f4 s]) TH pre μ (fun _ => rfl) (Eq.mp (by kernel_rfl) h0) (fun s hs => Eq.mp (by kernel_rfl) (round s hs))
def D168 : Info := ⟨19, fun i => ([], []), fun i => if i = 2 then ([0, 1, 7], [8]) else ([], [])⟩
def L168_0 (K : AV → Heap → Prop) (v0 : AV) (v1 : AV) (v7 : AV) (v8 : AV) (H : Heap) : Prop := LoopV (wpC Tryz.prog tab D168 (cAt [1, 0, 1, 0, 0] (bodyOf Tryz.f168))) [0, 1, 7] (PostF.block 0 (PostF.thenA (wpC Tryz.prog tab D168 (cAt [1, 1] (bodyOf Tryz.f168))) (retF tab [.tmp 4] K))) [8] [v0, v1, AV.any, AV.any, AV.any, AV.any, AV.any, v7, v8, AV.any, AV.any, AV.any, AV.any, AV.any, AV.any, AV.any, AV.any, AV.any, AV.any] H
def B168_0 (K : AV → Heap → Prop) (N1 : AV → Heap → Prop) (v0 : AV) (v1 : AV) (v7 : AV) (v8 : AV) (H : Heap) : Prop :=
 binV tab .lss 3 v8 v7 fun v9 =>
 condV v9 (indexAddrV tab 33 v0 v8 fun v14 =>
 loadV tab 150 v14 H fun v15 =>
 callF Tryz.prog v1 [v15] H fun v16 H1 =>
 condV v16 (K v8 H1)
 (binV tab .add 3 v8 (AV.p (.int .i64 1)) fun v18 =>
 N1 v18 H1))
 (K (AV.p (.int .i64 (-1))) H)
def W168 (v0 : AV) (v1 : AV) (H : Heap) (K : AV → Heap → Prop) : Prop :=
 lenV tab 33 v0 fun v7 =>
 L168_0 K v0 v1 v7 (AV.p (.int .i64 0)) H
theorem W168_wp (v0 : AV) (v1 : AV) (H : Heap) (K : AV → Heap → Prop) : wpC Tryz.prog tab D168 (bodyOf Tryz.f168) (retF tab [.tmp 4] K) (nthA [v0, v1]) H = W168 v0 v1 H K := by kernel_rfl
theorem W168_ok {v0 v1 : AV} {H : Heap} {K : AV → Heap → Prop} (h : W168 v0 v1 H K) : CallT Tryz.prog 168 [v0, v1] H K :=
  CallT.of_wp (D := D168) tab_ok mixed Tryz.func168 (c := bodyOf Tryz.f168) (by kernel_rfl) rfl (by kernel_rfl) (rs := #[.tmp 4]) rfl (by decide +kernel) (by kernel_rfl) (W168_wp v0 v1 H K) h
theorem L168_0_rule {K : AV → Heap → Prop} {v0 v1 v7 v8 : AV} {H : Heap} {σ : Type} (s0 : σ) (f8 : σ → AV) (TH : σ → Heap) (pre : σ → Prop) (μ : σ → Nat)
    (h0 : pre s0 ∧ AV.wk v8 (f8 s0) ∧ Heap.le (TH s0) H)
    (round : ∀ s, pre s → B168_0 K (fun w8 H' => ∃ s', pre s' ∧ μ s' < μ s ∧ AV.wk w8 (f8 s') ∧ Heap.le (TH s') H') v0 v1 v7 (f8 s) (TH s)) :
    L168_0 K v0 v1 v7 v8 H := by
  unfold L168_0
  exact LoopV.mk s0 (fun s => [f8 s]) TH pre μ (fun _ => rfl) (Eq.mp (by kernel_rfl) h0) (fun s hs => Eq.mp (by kernel_rfl) (round s hs))
def D169 : Info := ⟨8, fun i => ([], []), fun i => ([], [])⟩
def W169 (v0 : AV) (H : Heap) (K : AV → Heap → Prop) : Prop :=
 binV tab .eql 46 v0 (AV.p .nil) fun v4 =>
 condV v4 (K (AV.p .nil) H)
 (buildSliceV tab 46 0 [] H (wkK fun v5 H1 =>
 appendV tab 46 46 v5 v0 H1 (wkK fun v7 H2 =>
 K v7 H2)))
theorem W169_wp (v0 : AV) (H : Heap) (K : AV → Heap → Prop) : wpC Tryz.prog tab D169 (bodyOf Tryz.f169) (retF tab [.tmp 2] K) (nthA [v0]) H = W169 v0 H K := by kernel_rfl
theorem W169_ok {v0 : AV} {H : Heap} {K : AV → Heap → Prop} (h : W169 v0 H K) : CallT Tryz.prog 169 [v0] H K :=
  CallT.of_wp (D := D169) tab_ok mixed Tryz.func169 (c := bodyOf Tryz.f169) (by kernel_rfl) rfl (by kernel_rfl) (rs := #[.tmp 2]) rfl (by decide +kernel) (by kernel_rfl) (W169_wp v0 H K) h
theorem W169_hb : HasBody Tryz.prog 169 := ⟨_, bodyOf Tryz.f169, Tryz.func169, by kernel_rfl, rfl⟩
def D172 : Info := ⟨42, fun i => ([], []), fun i => ([], [])⟩
def J172_0 (K : AV → Heap → Prop) (v40 : AV) (H : Heap) : Prop :=
 condV v40 (K (.tup [(AV.p (.int .i64 2)), (AV.p (.int .i64 2)), (AV.p (.int .i64 2))]) H)
 (K (.tup [(AV.p (.int .i64 0)), (AV.p (.int .i64 0)), (AV.p (.int .i64 0))]) H)
def J172_1 (K : AV → Heap → Prop) (v0 : AV) (v33 : AV) (H : Heap) : Prop :=
 condV v33 (K (.tup [(AV.p (.int .i64 2)), (AV.p (.int .i64 1)), (AV.p (.int .i64 2))]) H)
 (binV tab .eql 3 v0 (AV.p (.int .i64 17)) fun v37 =>
 grdV v37 false (binV tab .eql 3 v0 (AV.p (.int .i64 18)) fun v40 =>
 J172_0 K v40 H)
 (K (.tup [(AV.p (.int .i64 2)), (AV.p (.int .i64 2)), (AV.p (.int .i64 2))]) H))
def J172_2 (K : AV → Heap → Prop) (v0 : AV) (H : Heap) : Prop :=
 binV tab .eql 3 v0 (AV.p (.int .i64 17)) fun v37 =>
 grdV v37 false (binV tab .eql 3 v0 (AV.p (.int .i64 18)) fun v40 =>
 J172_0 K v40 H)
 (K (.tup [(AV.p (.int .i64 2)), (AV.p (.int .i64 2)), (AV.p (.int .i64 2))]) H)
def W172 (v0 : AV) (H : Heap) (K : AV → Heap → Prop) : Prop :=
 binV tab .eql 3 v0 (AV.p (.int .i64 1)) fun v7 =>
 grdV v7 false (binV tab .eql 3 v0 (AV.p (.int .i64 2)) fun v10 =>
 condV v10 (K (.tup [(AV.p (.int .i64 0)), (AV.p (.int .i64 0)), (AV.p (.int .i64 1))]) H)
 (binV tab .eql 3 v0 (AV.p (.int .i64 20)) fun v14 =>
 condV v14 (K (.tup [(AV.p (.int .i64 0)), (AV.p (.int .i64 0)), (AV.p (.int .i64 2))]) H)
 (binV tab .eql 3 v0 (AV.p (.int .i64 13)) fun v17 =>
 condV v17 (K (.tup [(AV.p (.int .i64 1)), (AV.p (.int .i64 1)), (AV.p (.int .i64 1))]) H)
 (binV tab .eql 3 v0 (AV.p (.int .i64 19)) fun v20 =>
 condV v20 (K (.tup [(AV.p (.int .i64 1)), (AV.p (.int .i64 2)), (AV.p (.int .i64 2))]) H)
 (binV tab .geq 3 v0 (AV.p (.int .i64 3)) fun v23 =>
 grdV v23 true (binV tab .leq 3 v0 (AV.p (.int .i64 12)) fun v26 =>
 condV v26 (K (.tup [(AV.p (.int .i64 2)), (AV.p (.int .i64 1)), (AV.p (.int .i64 1))]) H)
 (binV tab .geq 3 v0 (AV.p (.int .i64 14)) fun v30 =>
 grdV v30 true (binV tab .leq 3 v0 (AV.p (.int .i64 16)) fun v33 =>
 J172_1 K v0 v33 H)
 (J172_2 K v0 H)))
 (binV tab .geq 3 v0 (AV.p (.int .i64 14)) fun v30 =>
 grdV v30 true (binV tab .leq 3 v0 (AV.p (.int .i64 16)) fun v33 =>
 J172_1 K v0 v33 H)
 (J172_2 K v0 H)))))))
 (K (.tup [(AV.p (.int .i64 0)), (AV.p (.int .i64 0)), (AV.p (.int .i64 1))]) H)
theorem W172_wp (v0 : AV) (H : Heap) (K : AV → Heap → Prop) : wpC Tryz.prog tab D172 (bodyOf Tryz.f172) (retF tab [.tmp 2, .tmp 3, .tmp 4] K) (nthA [v0]) H = W172 v0 H K := by kernel_rfl
theorem W172_ok {v0 : AV} {H : Heap} {K : AV → Heap → Prop} (h : W172 v0 H K) : CallT Tryz.prog 172 [v0] H K :=
  CallT.of_wp (D := D172) tab_ok mixed Tryz.func172 (c := bodyOf Tryz.f172) (by kernel_rfl) rfl (by kernel_rfl) (rs := #[.tmp 2, .tmp 3, .tmp 4]) rfl (by decide +kernel) (by kernel_rfl) (W172_wp v0 H K) h
def D173 : Info := ⟨30, fun i => ([], []), fun i => ([], [])⟩
def W173 (v0 : AV) (v1 : AV) (v2 : AV) (H : Heap) (K : AV → Heap → Prop) : Prop :=
 boxV v2 H fun v5 H1 =>
 fieldAddrV tab 155 v5 0 fun v7 =>
 loadV tab 3 v7 H1 fun v8 =>
 binV tab .eql 3 v8 (AV.p (.int .i64 1)) fun v10 =>
 condV v10 (fieldAddrV tab 155 v5 1 fun v12 =>
 loadV tab 153 v12 H1 fun v13 =>
 CallT Tryz.prog 196 [v0, v13] H1 fun v14 H2 =>
 K v14 H2)
 (binV tab .eql 3 v8 (AV.p (.int .i64 2)) fun v16 =>
 condV v16 (fieldAddrV tab 155 v5 1 fun v17 =>
 loadV tab 153 v17 H1 fun v18 =>
 convV tab 3 153 v1 fun v20 =>
 binV tab .lss 153 v18 v20 fun v21 =>
 K v21 H1)
 (binV tab .eql 3 v8 (AV.p (.int .i64 20)) fun v23 =>
 condV v23 (fieldAddrV tab 155 v5 1 fun v24 =>
 loadV tab 153 v24 H1 fun v25 =>
 binV tab .leq 153 v25 (AV.p (.int .u64 1)) fun v26 =>
 K v26 H1)
 (fieldAddrV tab 155 v5 1 fun v27 =>
 loadV tab 153 v27 H1 fun v28 =>
 binV tab .eql 153 v28 (AV.p (.int .u64 0)) fun v29 =>
 K v29 H1)))
theorem W173_wp (v0 : AV) (v1 : AV) (v2 : AV) (H : Heap) (K : AV → Heap → Prop) : wpC Tryz.prog tab D173 (bodyOf Tryz.f173) (retF tab [.tmp 6] K) (nthA [v0, v1, v2]) H = W173 v0 v1 v2 H K := by kernel_rfl
theorem W173_ok {v0 v1 v2 : AV} {H : Heap} {K : AV → Heap → Prop} (h : W173 v0 v1 v2 H K) : CallT Tryz.prog 173 [v0, v1, v2] H K :=
  CallT.of_wp (D := D173) tab_ok mixed Tryz.func173 (c := bodyOf Tryz.f173) (by kernel_rfl) rfl (by kernel_rfl) (rs := #[.tmp 6]) rfl (by decide +kernel) (by kernel_rfl) (W173_wp v0 v1 v2 H K) h
def D174 : Info := ⟨7, fun i => ([], []), fun i => ([], [])⟩
def W174 (v0 : AV) (v1 : AV) (H : Heap) (K : AV → Heap → Prop) : Prop :=
 loadV tab 3 v1 H fun v5 =>
 binV tab .neq 3 v0 v5 fun v6 =>
 K v6 H
theorem W174_wp (v0 : AV) (v1 : AV) (H : Heap) (K : AV → Heap → Prop) : wpC Tryz.prog tab D174 (bodyOf Tryz.f174) (retF tab [.tmp 3] K) (nthA [v0, v1]) H = W174 v0 v1 H K := by kernel_rfl
theorem W174_ok {v0 v1 : AV} {H : Heap} {K : AV → Heap → Prop} (h : W174 v0 v1 H K) : CallT Tryz.prog 174 [v0, v1] H K :=
  CallT.of_wp (D := D174) tab_ok mixed Tryz.func174 (c := bodyOf Tryz.f174) (by kernel_rfl) rfl (by kernel_rfl) (rs := #[.tmp 3]) rfl (by decide +kernel) (by kernel_rfl) (W174_wp v0 v1 H K) h
def D175 : Info := ⟨27, fun i => if i = 6 then ([[], [], [0, 1], [0, 1, 2], [], [], [4, 5], [4, 5, 6], [0, 1, 2, 3, 4, 5, 6, 7], [0, 1, 2, 3, 4, 5, 6, 7, 8]], [(0, []), (1, []), (2, []), (3, []), (4, []), (5, []), (6, []), (7, []), (8, []), (9, [])]) else ([], []), fun i => if i = 4 then ([0, 1], [5]) else ([], [])⟩
def L175_0 (K : AV → Heap → Prop) (v0 : AV) (v1 : AV) (v5 : AV) (H : Heap) : Prop := LoopV (wpC Tryz.prog tab D175 (cAt [1, 1, 0, 1, 0, 0] (bodyOf Tryz.f175))) [0, 1] (PostF.block 0 (PostF.thenA (wpC Tryz.prog tab D175 (cAt [1, 1, 1] (bodyOf Tryz.f175))) (retF tab [.tmp 4] K))) [5] [v0, v1, AV.any, AV.any, AV.any, v5, AV.any, AV.any, AV.any, AV.any, AV.any, AV.any, AV.any, AV.any, AV.any, AV.any, AV.any, AV.any, AV.any, AV.any, AV.any, AV.any, AV.any, AV.any, AV.any, AV.any, AV.any] H
def B175_0 (K : AV → Heap → Prop) (N1 : AV → Heap → Prop) (v0 : AV) (v1 : AV) (v5 : AV) (H : Heap) : Prop :=
 lenV tab 148 v0 fun v13 =>
 binV tab .lss 3 v5 v13 fun v14 =>
 condV v14 (indexAddrV tab 148 v0 v5 fun v19 =>
 loadV tab 188 v19 H fun v20 =>
 indexAddrV tab 148 v1 v5 fun v23 =>
 loadV tab 188 v23 H fun v24 =>
 CallT Tryz.prog 197 [v20, v24] H fun v25 H1 =>
 unV .not v25 fun v26 =>
 condV v26 (K (AV.p (.bool false)) H1)
 (binV tab .add 3 v5 (AV.p (.int .i64 1)) fun v16 =>
 N1 v16 H1))
 (K (AV.p (.bool true)) H)
def W175 (v0 : AV) (v1 : AV) (H : Heap) (K : AV → Heap → Prop) : Prop :=
 lenV tab 148 v0 fun v7 =>
 lenV tab 148 v1 fun v9 =>
 binV tab .neq 3 v7 v9 fun v10 =>
 condV v10 (K (AV.p (.bool false)) H)
 (L175_0 K v0 v1 (AV.p (.int .i64 0)) H)
theorem W175_wp (v0 : AV) (v1 : AV) (H : Heap) (K : AV → Heap → Prop) : wpC Tryz.prog tab D175 (bodyOf Tryz.f175) (retF tab [.tmp 4] K) (nthA [v0, v1]) H = W175 v0 v1 H K := by kernel_rfl
theorem W175_ok {v0 v1 : AV} {H : Heap} {K : AV → Heap → Prop} (h : W175 v0 v1 H K) : CallT Tryz.prog 175 [v0, v1] H K :=
  CallT.of_wp (D := D175) tab_ok mixed Tryz.func175 (c := bodyOf Tryz.f175) (by kernel_rfl) rfl (by kernel_rfl) (rs := #[.tmp 4]) rfl (by decide +kernel) (by kernel_rfl) (W175_wp v0 v1 H K) h
theorem L175_0_rule {K : AV → Heap → Prop} {v0 v1 v5 : AV} {H : Heap} {σ : Type} (s0 : σ) (f5 : σ → AV) (TH : σ → Heap) (pre : σ → Prop) (μ : σ → Nat)
    (h0 : pre s0 ∧ AV.wk v5 (f5 s0) ∧ Heap.le (TH s0) H)
    (round : ∀ s, pre s → B175_0 K (fun w5 H' => ∃ s', pre s' ∧ μ s' < μ s ∧ AV.wk w5 (f5 s') ∧ Heap.le (TH s') H') v0 v1 (f5 s) (TH s)) :
    L175_0 K v0 v1 v5 H := by
  unfold L175_0
  exact LoopV.mk s0 (fun s => [f5 s]) TH pre μ (fun _ => rfl) (Eq.mp (by kernel_rfl) h0) (fun s hs => Eq.mp (by kernel_rfl) (round s hs))
def D176 : Info := ⟨20, fun i => ([], []), fun i => if i = 3 then ([0, 1], [5, 6]) else ([], [])⟩
def L176_0 (K : AV → Heap → Prop) (v0 : AV) (v1 : AV) (v5 : AV) (v6 : AV) (H : Heap) : Prop := LoopV (wpC Tryz.prog tab D176 (cAt [1, 1, 0, 1, 0, 0] (bodyOf Tryz.f176))) [0, 1] (PostF.block 0 (PostF.thenA (wpC Tryz.prog tab D176 (cAt [1, 1, 1] (bodyOf Tryz.f176))) (retF tab [.tmp 4] K))) [5, 6] [v0, v1, AV.any, AV.any, AV.any, v5, v6, AV.any, AV.any, AV.any, AV.any, AV.any, AV.any, AV.any, AV.any, AV.any, AV.any, AV.any, AV.any, AV.any] H
def B176_0 (K : AV → Heap → Prop) (N1 : AV → AV → Heap → Prop) (v0 : AV) (v1 : AV) (v5 : AV) (v6 : AV) (H : Heap) : Prop :=
 binV tab .lss 3 v6 v0 fun v9 =>
 condV v9 (convV tab 3 114 v6 fun v15 =>
 binV tab .shl 153 (AV.p (.int .u64 1)) v15 fun v16 =>
 binV tab .and 153 v1 v16 fun v17 =>
 binV tab .or 153 v5 v17 fun v18 =>
 binV tab .add 3 v6 (AV.p (.int .i64 1)) fun v11 =>
 N1 v18 v11 H)
 (K v5 H)
def W176 (v0 : AV) (v1 : AV) (H : Heap) (K : AV → Heap → Prop) : Prop :=
 L176_0 K v0 v1 (AV.p (.int .u64 0)) (AV.p (.int .i64 0)) H
theorem W176_wp (v0 : AV) (v1 : AV) (H : Heap) (K : AV → Heap → Prop) : wpC Tryz.prog tab D176 (bodyOf Tryz.f176) (retF tab [.tmp 4] K) (nthA [v0, v1]) H = W176 v0 v1 H K := by kernel_rfl
theorem W176_ok {v0 v1 : AV} {H : Heap} {K : AV → Heap → Prop} (h : W176 v0 v1 H K) : CallT Tryz.prog 176 [v0, v1] H K :=
  CallT.of_wp (D := D176) tab_ok mixed Tryz.func176 (c := bodyOf Tryz.f176) (by kernel_rfl) rfl (by kernel_rfl) (rs := #[.tmp 4]) rfl (by decide +kernel) (by kernel_rfl) (W176_wp v0 v1 H K) h
theorem L176_0_rule {K : AV → Heap → Prop} {v0 v1 v5 v6 : AV} {H : Heap} {σ : Type} (s0 : σ) (f5 : σ → AV) (f6 : σ → AV) (TH : σ → Heap) (pre : σ → Prop) (μ : σ → Nat)
    (h0 : pre s0 ∧ AV.wk v5 (f5 s0) ∧ AV.wk v6 (f6 s0) ∧ Heap.le (TH s0) H)
    (round : ∀ s, pre s → B176_0 K (fun w5 w6 H' => ∃ s', pre s' ∧ μ s' < μ s ∧ AV.wk w5 (f5 s') ∧ AV.wk w6 (f6 s') ∧ Heap.le (TH s') H') v0 v1 (f5 s) (f6 s) (TH s)) :
    L176_0 K v0 v1 v5 v6 H := by
  unfold L176_0
  exact LoopV.mk s0 (fun s => [f5 s, f6 s]) TH pre μ (fun _ => rfl) (Eq.mp (by kernel_rfl) h0) (fun s hs => Eq.mp (by kernel_rfl) (round s hs))
def D177 : Info := ⟨99, fun i => ([], []), fun i => ([], [])⟩
def J177_0 (K : AV → Heap → Prop) (v0 : AV) (v2 : AV) (v3 : AV) (v20 : AV) (v54 : AV) (H : Heap) : Prop :=
 condV v54 (binV tab .or 153 v2 v3 fun v59 =>
 K v59 H)
 (binV tab .eql 3 v20 (AV.p (.int .i64 10)) fun v61 =>
 condV v61 (binV tab .xor 153 v2 v3 fun v64 =>
 K v64 H)
 (binV tab .eql 3 v20 (AV.p (.int .i64 11)) fun v66 =>
 condV v66 (CallT Tryz.prog 199 [v0, v2, v3, (AV.p (.bool true))] H fun v70 H5 =>
 K v70 H5)
 (binV tab .eql 3 v20 (AV.p (.int .i64 12)) fun v72 =>
 condV v72 (CallT Tryz.prog 199 [v0, v2, v3, (AV.p (.bool false))] H fun v76 H6 =>
 K v76 H6)
 (binV tab .eql 3 v20 (AV.p (.int .i64 14)) fun v78 =>
 condV v78 (binV tab .eql 153 v2 v3 fun v81 =>
 CallT Tryz.prog 200 [v81] H fun v82 H7 =>
 K v82 H7)
 (binV tab .eql 3 v20 (AV.p (.int .i64 15)) fun v84 =>
 condV v84 (binV tab .lss 153 v2 v3 fun v87 =>
 CallT Tryz.prog 200 [v87] H fun v88 H8 =>
 K v88 H8)
 (binV tab .eql 3 v20 (AV.p (.int .i64 16)) fun v90 =>
 condV v90 (CallT Tryz.prog 201 [v0, v2] H fun v93 H9 =>
 CallT Tryz.prog 201 [v0, v3] H9 fun v96 H10 =>
 binV tab .lss 2 v93 v96 fun v97 =>
 CallT Tryz.prog 200 [v97] H10 fun v98 H11 =>
 K v98 H11)
 (K (AV.p (.int .u64 0)) H)))))))
def J177_1 (K : AV → Heap → Prop) (v0 : AV) (v2 : AV) (v3 : AV) (v20 : AV) (v48 : AV) (H : Heap) : Prop :=
 condV v48 (binV tab .and 153 v2 v3 fun v53 =>
 K v53 H)
 (binV tab .eql 3 v20 (AV.p (.int .i64 9)) fun v55 =>
 condV v55 (J177_0 K v0 v2 v3 v20 v55 H)
 (binV tab .eql 3 v20 (AV.p (.int .i64 18)) fun v56 =>
 J177_0 K v0 v2 v3 v20 v56 H))
def W177 (v0 : AV) (v1 : AV) (v2 : AV) (v3 : AV) (H : Heap) (K : AV → Heap → Prop) : Prop :=
 CallT Tryz.prog 198 [v0, v2, v3] H fun v16 H1 =>
 extractV v16 0 fun v17 =>
 extractV v16 1 fun v18 =>
 extractV v16 2 fun v19 =>
 binV tab .eql 3 v1 (AV.p (.int .i64 3)) fun v22 =>
 condV v22 (binV tab .add 153 v2 v3 fun v26 =>
 CallT Tryz.prog 176 [v0, v26] H1 fun v27 H2 =>
 K v27 H2)
 (binV tab .eql 3 v1 (AV.p (.int .i64 4)) fun v29 =>
 condV v29 (binV tab .sub 153 v2 v3 fun v33 =>
 CallT Tryz.prog 176 [v0, v33] H1 fun v34 H3 =>
 K v34 H3)
 (binV tab .eql 3 v1 (AV.p (.int .i64 5)) fun v36 =>
 condV v36 (binV tab .mul 153 v2 v3 fun v40 =>
 CallT Tryz.prog 176 [v0, v40] H1 fun v41 H4 =>
 K v41 H4)
 (binV tab .eql 3 v1 (AV.p (.int .i64 6)) fun v43 =>
 condV v43 (K v17 H1)
 (binV tab .eql 3 v1 (AV.p (.int .i64 7)) fun v46 =>
 condV v46 (K v18 H1)
 (binV tab .eql 3 v1 (AV.p (.int .i64 8)) fun v49 =>
 condV v49 (J177_1 K v0 v2 v3 v1 v49 H1)
 (binV tab .eql 3 v1 (AV.p (.int .i64 17)) fun v50 =>
 J177_1 K v0 v2 v3 v1 v50 H1))))))
theorem W177_wp (v0 : AV) (v1 : AV) (v2 : AV) (v3 : AV) (H : Heap) (K : AV → Heap → Prop) : wpC Tryz.prog tab D177 (bodyOf Tryz.f177) (retF tab [.tmp 8] K) (nthA [v0, v1, v2, v3]) H = W177 v0 v1 v2 v3 H K := by kernel_rfl
theorem W177_ok {v0 v1 v2 v3 : AV} {H : Heap} {K : AV → Heap → Prop} (h : W177 v0 v1 v2 v3 H K) : CallT Tryz.prog 177 [v0, v1, v2, v3] H K :=
  CallT.of_wp (D := D177) tab_ok mixed Tryz.func177 (c := bodyOf Tryz.f177) (by kernel_rfl) rfl (by kernel_rfl) (rs := #[.tmp 8]) rfl (by decide +kernel) (by kernel_rfl) (W177_wp v0 v1 v2 v3 H K) h
def D178 : Info := ⟨29, fun i => ([], []), fun i => if i = 3 then ([0], [5, 8]) else ([], [])⟩
def L178_0 (K : AV → Heap → Prop) (v0 : AV) (v5 : AV) (v8 : AV) (H : Heap) : Prop := LoopV (wpC Tryz.prog tab D178 (cAt [1, 1, 1, 0, 0, 0] (bodyOf Tryz.f178))) [0] (PostF.block 0 (PostF.thenA (wpC Tryz.prog tab D178 (cAt [1, 1, 1, 1] (bodyOf Tryz.f178))) (retF tab [.tmp 4] K))) [5, 8] [v0, AV.any, AV.any, AV.any, AV.any, v5, AV.any, AV.any, v8, AV.any, AV.any, AV.any, AV.any, AV.any, AV.any, AV.any, AV.any, AV.any, AV.any, AV.any, AV.any, AV.any, AV.any, AV.any, AV.any, AV.any, AV.any, AV.any, AV.any] H
def B178_0 (K : AV → Heap → Prop) (N1 : AV → AV → Heap → Prop) (v0 : AV) (v5 : AV) (v8 : AV) (H : Heap) : Prop :=
 binV tab .gtr 3 v5 (AV.p (.int .i64 0)) fun v21 =>
 condV v21 (binV tab .sub 3 v8 (AV.p (.int .i64 1)) fun v26 =>
 CallT Tryz.prog 178 [v0, v26] H fun v27 H2 =>
 binV tab .sub 3 v5 (AV.p (.int .i64 1)) fun v23 =>
 N1 v23 v27 H2)
 (K v8 H)
def W178 (v0 : AV) (v1 : AV) (H : Heap) (K : AV → Heap → Prop) : Prop :=
 indexAddrV tab 32 v0 v1 fun v12 =>
 fieldAddrV tab 155 v12 0 fun v13 =>
 loadV tab 3 v13 H fun v14 =>
 CallT Tryz.prog 125 [v14] H fun v15 H1 =>
 extractV v15 0 fun v16 =>
 extractV v15 1 fun v17 =>
 extractV v15 2 fun v18 =>
 L178_0 K v0 v16 v1 H1
theorem W178_wp (v0 : AV) (v1 : AV) (H : Heap) (K : AV → Heap → Prop) : wpC Tryz.prog tab D178 (bodyOf Tryz.f178) (retF tab [.tmp 4] K) (nthA [v0, v1]) H = W178 v0 v1 H K := by kernel_rfl
theorem W178_ok {v0 v1 : AV} {H : Heap} {K : AV → Heap → Prop} (h : W178 v0 v1 H K) : CallT Tryz.prog 178 [v0, v1] H K :=
  CallT.of_wp (D := D178) tab_ok mixed Tryz.func178 (c := bodyOf Tryz.f178) (by kernel_rfl) rfl (by kernel_rfl) (rs := #[.tmp 4]) rfl (by decide +kernel) (by kernel_rfl) (W178_wp v0 v1 H K) h
theorem L178_0_rule {K : AV → Heap → Prop} {v0 v5 v8 : AV} {H : Heap} {σ : Type} (s0 : σ) (f5 : σ → AV) (f8 : σ → AV) (TH : σ → Heap) (pre : σ → Prop) (μ : σ → Nat)
    (h0 : pre s0 ∧ AV.wk v5 (f5 s0) ∧ AV.wk v8 (f8 s0) ∧ Heap.le (TH s0) H)
    (round : ∀ s, pre s → B178_0 K (fun w5 w8 H' => ∃ s', pre s' ∧ μ s' < μ s ∧ AV.wk w5 (f5 s') ∧ AV.wk w8 (f8 s') ∧ Heap.le (TH s') H') v0 (f5 s) (f8 s) (TH s)) :
    L178_0 K v0 v5 v8 H := by
  unfold L178_0
  exact LoopV.mk s0 (fun s => [f5 s, f8 s]) TH pre μ (fun _ => rfl) (Eq.mp (by kernel_rfl) h0) (fun s hs => Eq.mp (by kernel_rfl) (round s hs))
def D179 : Info := ⟨98, fun i => ([], []), fun i => ([], [])⟩
def J179_0 (K : AV → Heap → Prop) (v0 : AV) (v1 : AV) (v2 : AV) (v3 : AV) (v9 : AV) (v10 : AV) (v63 : AV) (H : Heap) : Prop :=
 condV v63 (binV tab .eql 3 v1 (AV.p (.int .i64 11)) fun v70 =>
 CallT Tryz.prog 203 [v0, v2, v3, v70] H fun v71 H12 =>
 CallT Tryz.prog 144 [v0] H12 fun v96 H13 =>
 binV tab .and 153 v71 v96 fun v97 =>
 K v97 H13)
 (binV tab .eql 3 v10 (AV.p (.int .i64 14)) fun v73 =>
 condV v73 (binV tab .eql 153 v2 v3 fun v76 =>
 CallT Tryz.prog 204 [v76] H fun v77 H14 =>
 CallT Tryz.prog 144 [v0] H14 fun v96 H15 =>
 binV tab .and 153 v77 v96 fun v97 =>
 K v97 H15)
 (binV tab .eql 3 v10 (AV.p (.int .i64 15)) fun v79 =>
 condV v79 (binV tab .lss 153 v2 v3 fun v82 =>
 CallT Tryz.prog 204 [v82] H fun v83 H16 =>
 CallT Tryz.prog 144 [v0] H16 fun v96 H17 =>
 binV tab .and 153 v83 v96 fun v97 =>
 K v97 H17)
 (binV tab .eql 3 v10 (AV.p (.int .i64 16)) fun v85 =>
 condV v85 (CallT Tryz.prog 205 [v0, v2] H fun v88 H18 =>
 CallT Tryz.prog 205 [v0, v3] H18 fun v91 H19 =>
 binV tab .lss 2 v88 v91 fun v92 =>
 CallT Tryz.prog 204 [v92] H19 fun v93 H20 =>
 CallT Tryz.prog 144 [v0] H20 fun v96 H21 =>
 binV tab .and 153 v93 v96 fun v97 =>
 K v97 H21)
 (CallT Tryz.prog 144 [v0] H fun v96 H22 =>
 binV tab .and 153 v9 v96 fun v97 =>
 K v97 H22))))
def J179_1 (K : AV → Heap → Prop) (v0 : AV) (v1 : AV) (v2 : AV) (v3 : AV) (v9 : AV) (v10 : AV) (v52 : AV) (H : Heap) : Prop :=
 condV v52 (binV tab .or 153 v2 v3 fun v57 =>
 CallT Tryz.prog 144 [v0] H fun v96 H10 =>
 binV tab .and 153 v57 v96 fun v97 =>
 K v97 H10)
 (binV tab .eql 3 v10 (AV.p (.int .i64 10)) fun v59 =>
 condV v59 (binV tab .xor 153 v2 v3 fun v62 =>
 CallT Tryz.prog 144 [v0] H fun v96 H11 =>
 binV tab .and 153 v62 v96 fun v97 =>
 K v97 H11)
 (binV tab .eql 3 v10 (AV.p (.int .i64 11)) fun v64 =>
 condV v64 (J179_0 K v0 v1 v2 v3 v9 v10 v64 H)
 (binV tab .eql 3 v10 (AV.p (.int .i64 12)) fun v65 =>
 J179_0 K v0 v1 v2 v3 v9 v10 v65 H)))
def J179_2 (K : AV → Heap → Prop) (v0 : AV) (v1 : AV) (v2 : AV) (v3 : AV) (v9 : AV) (v10 : AV) (v46 : AV) (H : Heap) : Prop :=
 condV v46 (binV tab .and 153 v2 v3 fun v51 =>
 CallT Tryz.prog 144 [v0] H fun v96 H9 =>
 binV tab .and 153 v51 v96 fun v97 =>
 K v97 H9)
 (binV tab .eql 3 v10 (AV.p (.int .i64 9)) fun v53 =>
 condV v53 (J179_1 K v0 v1 v2 v3 v9 v10 v53 H)
 (binV tab .eql 3 v10 (AV.p (.int .i64 18)) fun v54 =>
 J179_1 K v0 v1 v2 v3 v9 v10 v54 H))
def W179 (v0 : AV) (v1 : AV) (v2 : AV) (v3 : AV) (H : Heap) (K : AV → Heap → Prop) : Prop :=
 binV tab .eql 3 v1 (AV.p (.int .i64 3)) fun v12 =>
 condV v12 (binV tab .add 153 v2 v3 fun v15 =>
 CallT Tryz.prog 144 [v0] H fun v96 H2 =>
 binV tab .and 153 v15 v96 fun v97 =>
 K v97 H2)
 (binV tab .eql 3 v1 (AV.p (.int .i64 4)) fun v17 =>
 condV v17 (binV tab .sub 153 v2 v3 fun v20 =>
 CallT Tryz.prog 144 [v0] H fun v96 H3 =>
 binV tab .and 153 v20 v96 fun v97 =>
 K v97 H3)
 (binV tab .eql 3 v1 (AV.p (.int .i64 5)) fun v22 =>
 condV v22 (binV tab .mul 153 v2 v3 fun v25 =>
 CallT Tryz.prog 144 [v0] H fun v96 H4 =>
 binV tab .and 153 v25 v96 fun v97 =>
 K v97 H4)
 (binV tab .eql 3 v1 (AV.p (.int .i64 6)) fun v27 =>
 condV v27 (CallT Tryz.prog 202 [v0, v2, v3] H fun v32 H5 =>
 extractV v32 0 fun v33 =>
 extractV v32 1 fun v34 =>
 extractV v32 2 fun v35 =>
 CallT Tryz.prog 144 [v0] H5 fun v96 H6 =>
 binV tab .and 153 v33 v96 fun v97 =>
 K v97 H6)
 (binV tab .eql 3 v1 (AV.p (.int .i64 7)) fun v37 =>
 condV v37 (CallT Tryz.prog 202 [v0, v2, v3] H fun v42 H7 =>
 extractV v42 0 fun v43 =>
 extractV v42 1 fun v44 =>
 extractV v42 2 fun v45 =>
 CallT Tryz.prog 144 [v0] H7 fun v96 H8 =>
 binV tab .and 153 v44 v96 fun v97 =>
 K v97 H8)
 (binV tab .eql 3 v1 (AV.p (.int .i64 8)) fun v47 =>
 condV v47 (J179_2 K v0 v1 v2 v3 (AV.p (.int .u64 0)) v1 v47 H)
 (binV tab .eql 3 v1 (AV.p (.int .i64 17)) fun v48 =>
 J179_2 K v0 v1 v2 v3 (AV.p (.int .u64 0)) v1 v48 H))))))
theorem W179_wp (v0 : AV) (v1 : AV) (v2 : AV) (v3 : AV) (H : Heap) (K : AV → Heap → Prop) : wpC Tryz.prog tab D179 (bodyOf Tryz.f179) (retF tab [.tmp 8] K) (nthA [v0, v1, v2, v3]) H = W179 v0 v1 v2 v3 H K := by kernel_rfl
theorem W179_ok {v0 v1 v2 v3 : AV} {H : Heap} {K : AV → Heap → Prop} (h : W179 v0 v1 v2 v3 H K) : CallT Tryz.prog 179 [v0, v1, v2, v3] H K :=
  CallT.of_wp (D := D179) tab_ok mixed Tryz.func179 (c := bodyOf Tryz.f179) (by kernel_rfl) rfl (by kernel_rfl) (rs := #[.tmp 8]) rfl (by decide +kernel) (by kernel_rfl) (W179_wp v0 v1 v2 v3 H K) h
def D180 : Info := ⟨9, fun i => ([], []), fun i => ([], [])⟩
def W180 (v0 : AV) (H : Heap) (K : AV → Heap → Prop) : Prop :=
 binV tab .lss 3 v0 (AV.p (.int .i64 0)) fun v4 =>
 grdV v4 false (binV tab .geq 3 v0 (AV.p (.int .i64 8)) fun v7 =>
 K v7 H)
 (K (AV.p (.bool true)) H)
theorem W180_wp (v0 : AV) (H : Heap) (K : AV → Heap → Prop) : wpC Tryz.prog tab D180 (bodyOf Tryz.f180) (retF tab [.tmp 2] K) (nthA [v0]) H = W180 v0 H K := by kernel_rfl
theorem W180_ok {v0 : AV} {H : Heap} {K : AV → Heap → Prop} (h : W180 v0 H K) : CallT Tryz.prog 180 [v0] H K :=
  CallT.of_wp (D := D180) tab_ok mixed Tryz.func180 (c := bodyOf Tryz.f180) (by kernel_rfl) rfl (by kernel_rfl) (rs := #[.tmp 2]) rfl (by decide +kernel) (by kernel_rfl) (W180_wp v0 H K) h
def D182 : Info := ⟨8, fun i => ([], []), fun i => ([], [])⟩
def W182 (v0 : AV) (H : Heap) (K : AV → Heap → Prop) : Prop :=
 binV tab .eql 116 v0 (AV.p .nil) fun v4 =>
 condV v4 (K (AV.p .nil) H)
 (buildSliceV tab 116 0 [] H (wkK fun v5 H1 =>
 appendV tab 116 116 v5 v0 H1 (wkK fun v7 H2 =>
 K v7 H2)))
theorem W182_wp (v0 : AV) (H : Heap) (K : AV → Heap → Prop) : wpC Tryz.prog tab D182 (bodyOf Tryz.f182) (retF tab [.tmp 2] K) (nthA [v0]) H = W182 v0 H K := by kernel_rfl
theorem W182_ok {v0 : AV} {H : Heap} {K : AV → Heap → Prop} (h : W182 v0 H K) : CallT Tryz.prog 182 [v0] H K :=
  CallT.of_wp (D := D182) tab_ok mixed Tryz.func182 (c := bodyOf Tryz.f182) (by kernel_rfl) rfl (by kernel_rfl) (rs := #[.tmp 2]) rfl (by decide +kernel) (by kernel_rfl) (W182_wp v0 H K) h
theorem W182_hb : HasBody Tryz.prog 182 := ⟨_, bodyOf Tryz.f182, Tryz.func182, by kernel_rfl, rfl⟩
def D183 : Info := ⟨12, fun i => ([], []), fun i => ([], [])⟩
def W183 (v0 : AV) (v1 : AV) (H : Heap) (K : AV → Heap → Prop) : Prop :=
 boxV v0 H fun v2 H1 =>
 fieldAddrV tab 201 v2 1 fun v5 =>
 loadV tab 22 v5 H1 fun v6 =>
 CallT Tryz.prog 74 [v6, v1] H1 fun v8 H2 =>
 binV tab .lss 3 v8 (AV.p (.int .i64 0)) fun v10 =>
 condV v10 (K (AV.p (.int .i64 (-1))) H2)
 (K v8 H2)
theorem W183_wp (v0 : AV) (v1 : AV) (H : Heap) (K : AV → Heap → Prop) : wpC Tryz.prog tab D183 (bodyOf Tryz.f183) (retF tab [.tmp 4] K) (nthA [v0, v1]) H = W183 v0 v1 H K := by kernel_rfl
theorem W183_ok {v0 v1 : AV} {H : Heap} {K : AV → Heap → Prop} (h : W183 v0 v1 H K) : CallT Tryz.prog 183 [v0, v1] H K :=
  CallT.of_wp (D := D183) tab_ok mixed Tryz.func183 (c := bodyOf Tryz.f183) (by kernel_rfl) rfl (by kernel_rfl) (rs := #[.tmp 4]) rfl (by decide +kernel) (by kernel_rfl) (W183_wp v0 v1 H K) h
def D184 : Info := ⟨12, fun i => ([], []), fun i => ([], [])⟩
def W184 (v0 : AV) (H : Heap) (K : AV → Heap → Prop) : Prop :=
 boxV v0 H fun v1 H1 =>
 allocV tab 188 H1 fun v2 H2 =>
 allocV tab 188 H2 fun v3 H3 =>
 fieldAddrV tab 201 v1 0 fun v4 =>
 loadV tab 3 v4 H3 fun v5 =>
 fieldAddrV tab 188 v3 0 fun v6 =>
 storeV tab 3 v6 v5 H3 fun H4 =>
 fieldAddrV tab 201 v1 1 fun v7 =>
 loadV tab 22 v7 H4 fun v8 =>
 CallT Tryz.prog 80 [v8] H4 fun v9 H5 =>
 fieldAddrV tab 188 v3 1 fun v10 =>
 storeV tab 32 v10 v9 H5 fun H6 =>
 loadV tab 188 v3 H6 fun v11 =>
 storeV tab 188 v2 v11 H6 fun H7 =>
 loadV tab 188 v2 H7 fun r0 =>
 K r0 H7
theorem W184_wp (v0 : AV) (H : Heap) (K : AV → Heap → Prop) : wpC Tryz.prog tab D184 (bodyOf Tryz.f184) (retF tab [.cell 2 188] K) (nthA [v0]) H = W184 v0 H K := by kernel_rfl
theorem W184_ok {v0 : AV} {H : Heap} {K : AV → Heap → Prop} (h : W184 v0 H K) : CallT Tryz.prog 184 [v0] H K :=
  CallT.of_wp (D := D184) tab_ok mixed Tryz.func184 (c := bodyOf Tryz.f184) (by kernel_rfl) rfl (by kernel_rfl) (rs := #[.cell 2 188]) rfl (by decide +kernel) (by kernel_rfl) (W184_wp v0 H K) h
def D196 : Info := ⟨13, fun i => ([], []), fun i => ([], [])⟩
def W196 (v0 : AV) (v1 : AV) (H : Heap) (K : AV → Heap → Prop) : Prop :=
 CallT Tryz.prog 129 [v0] H fun v6 H1 =>
 grdV v6 true (CallT Tryz.prog 144 [v0] H1 fun v10 H2 =>
 binV tab .leq 153 v1 v10 fun v11 =>
 K v11 H2)
 (K (AV.p (.bool false)) H1)
theorem W196_wp (v0 : AV) (v1 : AV) (H : Heap) (K : AV → Heap → Prop) : wpC Tryz.prog tab D196 (bodyOf Tryz.f196) (retF tab [.tmp 4] K) (nthA [v0, v1]) H = W196 v0 v1 H K := by kernel_rfl
theorem W196_ok {v0 v1 : AV} {H : Heap} {K : AV → Heap → Prop} (h : W196 v0 v1 H K) : CallT Tryz.prog 196 [v0, v1] H K :=
  CallT.of_wp (D := D196) tab_ok mixed Tryz.func196 (c := bodyOf Tryz.f196) (by kernel_rfl) rfl (by kernel_rfl) (rs := #[.tmp 4]) rfl (by decide +kernel) (by kernel_rfl) (W196_wp v0 v1 H K) h
def D197 : Info := ⟨16, fun i => ([], []), fun i => ([], [])⟩
def W197 (v0 : AV) (v1 : AV) (H : Heap) (K : AV → Heap → Prop) : Prop :=
 boxV v0 H fun v2 H1 =>
 boxV v1 H1 fun v3 H2 =>
 fieldAddrV tab 188 v2 0 fun v5 =>
 loadV tab 3 v5 H2 fun v6 =>
 fieldAddrV tab 188 v3 0 fun v7 =>
 loadV tab 3 v7 H2 fun v8 =>
 binV tab .neq 3 v6 v8 fun v9 =>
 condV v9 (K (AV.p (.bool false)) H2)
 (fieldAddrV tab 188 v2 1 fun v10 =>
 loadV tab 32 v10 H2 fun v11 =>
 fieldAddrV tab 188 v3 1 fun v12 =>
 loadV tab 32 v12 H2 fun v13 =>
 CallT Tryz.prog 88 [v11, v13] H2 fun v14 H3 =>
 unV .not v14 fun v15 =>
 condV v15 (K (AV.p (.bool false)) H3)
 (K (AV.p (.bool true)) H3))
theorem W197_wp (v0 : AV) (v1 : AV) (H : Heap) (K : AV → Heap → Prop) : wpC Tryz.prog tab D197 (bodyOf Tryz.f197) (retF tab [.tmp 4] K) (nthA [v0, v1]) H = W197 v0 v1 H K := by kernel_rfl
theorem W197_ok {v0 v1 : AV} {H : Heap} {K : AV → Heap → Prop} (h : W197 v0 v1 H K) : CallT Tryz.prog 197 [v0, v1] H K :=
  CallT.of_wp (D := D197) tab_ok mixed Tryz.func197 (c := bodyOf Tryz.f197) (by kernel_rfl) rfl (by kernel_rfl) (rs := #[.tmp 4]) rfl (by decide +kernel) (by kernel_rfl) (W197_wp v0 v1 H K) h
end Go.Proofs.YtgcklgeifdefhaaGreat
namespace Go.Proofs.YtgcklgeifdefhaaGreat
open Go Go.Sep
attribute [local irreducible] wpC headF
def D198 : Info := ⟨25, fun i => if i = 5 then ([[], [], [0, 1], [], [], [3, 4], [0, 1, 2], [0, 1, 2, 3, 4, 5, 6], [0, 1, 2, 3, 4, 5, 6, 7]], [(0, []), (1, []), (2, []), (3, []), (4, []), (5, []), (6, []), (7, []), (8, [])]) else ([], []), fun i => ([], [])⟩
def W198 (v0 : AV) (v1 : AV) (v2 : AV) (H : Heap) (K : AV → Heap → Prop) : Prop :=
 CallT Tryz.prog 213 [v0, v1, v2] H fun v12 H1 =>
 unV .not v12 fun v13 =>
 condV v13 (K (.tup [(AV.p (.int .u64 0)), (AV.p (.int .u64 0)), (AV.p (.bool false))]) H1)
 (binV tab .eql 153 v2 (AV.p (.int .u64 0)) fun v15 =>
 condV v15 (CallT Tryz.prog 176 [v0, (AV.p (.int .u64 18446744073709551615))] H1 fun v17 H2 =>
 K (.tup [v17, v1, (AV.p (.bool true))]) H2)
 (binV tab .quo 153 v1 v2 fun v21 =>
 binV tab .rem 153 v1 v2 fun v24 =>
 K (.tup [v21, v24, (AV.p (.bool true))]) H1))
theorem W198_wp (v0 : AV) (v1 : AV) (v2 : AV) (H : Heap) (K : AV → Heap → Prop) : wpC Tryz.prog tab D198 (bodyOf Tryz.f198) (retF tab [.tmp 6, .tmp 7, .tmp 8] K) (nthA [v0, v1, v2]) H = W198 v0 v1 v2 H K := by kernel_rfl
theorem W198_ok {v0 v1 v2 : AV} {H : Heap} {K : AV → Heap → Prop} (h : W198 v0 v1 v2 H K) : CallT Tryz.prog 198 [v0, v1, v2] H K :=
  CallT.of_wp (D := D198) tab_ok mixed Tryz.func198 (c := bodyOf Tryz.f198) (by kernel_rfl) rfl (by kernel_rfl) (rs := #[.tmp 6, .tmp 7, .tmp 8]) rfl (by decide +kernel) (by kernel_rfl) (W198_wp v0 v1 v2 H K) h
def D199 : Info := ⟨25, fun i => ([], []), fun i => if i = 3 then ([0, 3], [1, 2]) else ([], [])⟩
def L199_0 (K : AV → Heap → Prop) (v0 : AV) (v1 : AV) (v2 : AV) (v3 : AV) (H : Heap) : Prop := LoopV (wpC Tryz.prog tab D199 (cAt [1, 1, 0, 0, 0] (bodyOf Tryz.f199))) [0, 3] (PostF.block 0 (PostF.thenA (wpC Tryz.prog tab D199 (cAt [1, 1, 1] (bodyOf Tryz.f199))) (retF tab [.tmp 8] K))) [1, 2] [v0, v1, v2, v3, AV.any, AV.any, AV.any, AV.any, AV.any, AV.any, AV.any, AV.any, AV.any, AV.any, AV.any, AV.any, AV.any, AV.any, AV.any, AV.any, AV.any, AV.any, AV.any, AV.any, AV.any] H
def B199_0 (K : AV → Heap → Prop) (N1 : AV → AV → Heap → Prop) (v0 : AV) (v1 : AV) (v2 : AV) (v3 : AV) (H : Heap) : Prop :=
 binV tab .gtr 153 v2 (AV.p (.int .u64 0)) fun v14 =>
 condV v14 (condV v3 (binV tab .shl 153 v1 (AV.p (.int .u64 1)) fun v20 =>
 CallT Tryz.prog 176 [v0, v20] H fun v21 H1 =>
 binV tab .sub 153 v2 (AV.p (.int .u64 1)) fun v16 =>
 N1 v21 v16 H1)
 (binV tab .shr 153 v1 (AV.p (.int .u64 1)) fun v23 =>
 binV tab .sub 153 v2 (AV.p (.int .u64 1)) fun v16 =>
 N1 v23 v16 H))
 (K v1 H)
def W199 (v0 : AV) (v1 : AV) (v2 : AV) (v3 : AV) (H : Heap) (K : AV → Heap → Prop) : Prop :=
 convV tab 3 153 v0 fun v11 =>
 binV tab .geq 153 v2 v11 fun v12 =>
 condV v12 (K (AV.p (.int .u64 0)) H)
 (L199_0 K v0 v1 v2 v3 H)
theorem W199_wp (v0 : AV) (v1 : AV) (v2 : AV) (v3 : AV) (H : Heap) (K : AV → Heap → Prop) : wpC Tryz.prog tab D199 (bodyOf Tryz.f199) (retF tab [.tmp 8] K) (nthA [v0, v1, v2, v3]) H = W199 v0 v1 v2 v3 H K := by kernel_rfl
theorem W199_ok {v0 v1 v2 v3 : AV} {H : Heap} {K : AV → Heap → Prop} (h : W199 v0 v1 v2 v3 H K) : CallT Tryz.prog 199 [v0, v1, v2, v3] H K :=
  CallT.of_wp (D := D199) tab_ok mixed Tryz.func199 (c := bodyOf Tryz.f199) (by kernel_rfl) rfl (by kernel_rfl) (rs := #[.tmp 8]) rfl (by decide +kernel) (by kernel_rfl) (W199_wp v0 v1 v2 v3 H K) h
theorem L199_0_rule {K : AV → Heap → Prop} {v0 v1 v2 v3 : AV} {H : Heap} {σ : Type} (s0 : σ) (f1 : σ → AV) (f2 : σ → AV) (TH : σ → Heap) (pre : σ → Prop) (μ : σ → Nat)
    (h0 : pre s0 ∧ AV.wk v1 (f1 s0) ∧ AV.wk v2 (f2 s0) ∧ Heap.le (TH s0) H)
    (round : ∀ s, pre s → B199_0 K (fun w1 w2 H' => ∃ s', pre s' ∧ μ s' < μ s ∧ AV.wk w1 (f1 s') ∧ AV.wk w2 (f2 s') ∧ Heap.le (TH s') H') v0 (f1 s) (f2 s) v3 (TH s)) :
    L199_0 K v0 v1 v2 v3 H := by
  unfold L199_0
  exact LoopV.mk s0 (fun s => [f1 s, f2 s]) TH pre μ (fun _ => rfl) (Eq.mp (by kernel_rfl) h0) (fun s hs => Eq.mp (by kernel_rfl) (round s hs))
def D200 : Info := ⟨4, fun i => ([], []), fun i => ([], [])⟩
def W200 (v0 : AV) (H : Heap) (K : AV → Heap → Prop) : Prop :=
 condV v0 (K (AV.p (.int .u64 1)) H)
 (K (AV.p (.int .u64 0)) H)
theorem W200_wp (v0 : AV) (H : Heap) (K : AV → Heap → Prop) : wpC Tryz.prog tab D200 (bodyOf Tryz.f200) (retF tab [.tmp 2] K) (nthA [v0]) H = W200 v0 H K := by kernel_rfl
theorem W200_ok {v0 : AV} {H : Heap} {K : AV → Heap → Prop} (h : W200 v0 H K) : CallT Tryz.prog 200 [v0] H K :=
  CallT.of_wp (D := D200) tab_ok mixed Tryz.func200 (c := bodyOf Tryz.f200) (by kernel_rfl) rfl (by kernel_rfl) (rs := #[.tmp 2]) rfl (by decide +kernel) (by kernel_rfl) (W200_wp v0 H K) h
def D201 : Info := ⟨20, fun i => ([], []), fun i => ([], [])⟩
def W201 (v0 : AV) (v1 : AV) (H : Heap) (K : AV → Heap → Prop) : Prop :=
 binV tab .sub 3 v0 (AV.p (.int .i64 1)) fun v7 =>
 convV tab 3 114 v7 fun v8 =>
 binV tab .shr 153 v1 v8 fun v9 =>
 binV tab .and 153 v9 (AV.p (.int .u64 1)) fun v10 =>
 binV tab .eql 153 v10 (AV.p (.int .u64 1)) fun v11 =>
 condV v11 (CallT Tryz.prog 176 [v0, (AV.p (.int .u64 18446744073709551615))] H fun v14 H1 =>
 unV .xor v14 fun v15 =>
 binV tab .or 153 v1 v15 fun v16 =>
 convV tab 153 2 v16 fun v17 =>
 K v17 H1)
 (convV tab 153 2 v1 fun v19 =>
 K v19 H)
theorem W201_wp (v0 : AV) (v1 : AV) (H : Heap) (K : AV → Heap → Prop) : wpC Tryz.prog tab D201 (bodyOf Tryz.f201) (retF tab [.tmp 4] K) (nthA [v0, v1]) H = W201 v0 v1 H K := by kernel_rfl
theorem W201_ok {v0 v1 : AV} {H : Heap} {K : AV → Heap → Prop} (h : W201 v0 v1 H K) : CallT Tryz.prog 201 [v0, v1] H K :=
  CallT.of_wp (D := D201) tab_ok mixed Tryz.func201 (c := bodyOf Tryz.f201) (by kernel_rfl) rfl (by kernel_rfl) (rs := #[.tmp 4]) rfl (by decide +kernel) (by kernel_rfl) (W201_wp v0 v1 H K) h
def D202 : Info := ⟨31, fun i => ([], []), fun i => ([], [])⟩
def W202 (v0 : AV) (v1 : AV) (v2 : AV) (H : Heap) (K : AV → Heap → Prop) : Prop :=
 CallT Tryz.prog 214 [v0, v1, v2] H fun v15 H1 =>
 unV .not v15 fun v16 =>
 condV v16 (K (.tup [(AV.p (.int .u64 0)), (AV.p (.int .u64 0)), (AV.p (.bool false))]) H1)
 (binV tab .eql 153 v2 (AV.p (.int .u64 0)) fun v19 =>
 condV v19 (CallT Tryz.prog 144 [v0] H1 fun v21 H2 =>
 K (.tup [v21, v1, (AV.p (.bool true))]) H2)
 (CallT Tryz.prog 215 [(AV.p (.int .u64 0)), v1, v2] H1 fun v26 H3 =>
 extractV v26 0 fun v27 =>
 extractV v26 1 fun v28 =>
 K (.tup [v27, v28, (AV.p (.bool true))]) H3))
theorem W202_wp (v0 : AV) (v1 : AV) (v2 : AV) (H : Heap) (K : AV → Heap → Prop) : wpC Tryz.prog tab D202 (bodyOf Tryz.f202) (retF tab [.tmp 6, .tmp 7, .tmp 8] K) (nthA [v0, v1, v2]) H = W202 v0 v1 v2 H K := by kernel_rfl
theorem W202_ok {v0 v1 v2 : AV} {H : Heap} {K : AV → Heap → Prop} (h : W202 v0 v1 v2 H K) : CallT Tryz.prog 202 [v0, v1, v2] H K :=
  CallT.of_wp (D := D202) tab_ok mixed Tryz.func202 (c := bodyOf Tryz.f202) (by kernel_rfl) rfl (by kernel_rfl) (rs := #[.tmp 6, .tmp 7, .tmp 8]) rfl (by decide +kernel) (by kernel_rfl) (W202_wp v0 v1 v2 H K) h
def D203 : Info := ⟨25, fun i => ([], []), fun i => ([], [])⟩
def W203 (v0 : AV) (v1 : AV) (v2 : AV) (v3 : AV) (H : Heap) (K : AV → Heap → Prop) : Prop :=
 convV tab 3 153 v0 fun v12 =>
 binV tab .geq 153 v2 v12 fun v13 =>
 condV v13 (K (AV.p (.int .u64 0)) H)
 (condV v3 (binV tab .shl 153 v1 v2 fun v18 =>
 CallT Tryz.prog 144 [v0] H fun v20 H1 =>
 binV tab .and 153 v18 v20 fun v21 =>
 K v21 H1)
 (binV tab .shr 153 v1 v2 fun v24 =>
 K v24 H))
theorem W203_wp (v0 : AV) (v1 : AV) (v2 : AV) (v3 : AV) (H : Heap) (K : AV → Heap → Prop) : wpC Tryz.prog tab D203 (bodyOf Tryz.f203) (retF tab [.tmp 8] K) (nthA [v0, v1, v2, v3]) H = W203 v0 v1 v2 v3 H K := by kernel_rfl
theorem W203_ok {v0 v1 v2 v3 : AV} {H : Heap} {K : AV → Heap → Prop} (h : W203 v0 v1 v2 v3 H K) : CallT Tryz.prog 203 [v0, v1, v2, v3] H K :=
  CallT.of_wp (D := D203) tab_ok mixed Tryz.func203 (c := bodyOf Tryz.f203) (by kernel_rfl) rfl (by kernel_rfl) (rs := #[.tmp 8]) rfl (by decide +kernel) (by kernel_rfl) (W203_wp v0 v1 v2 v3 H K) h
def D204 : Info := ⟨4, fun i => ([], []), fun i => ([], [])⟩
def W204 (v0 : AV) (H : Heap) (K : AV → Heap → Prop) : Prop :=
 condV v0 (K (AV.p (.int .u64 1)) H)
 (K (AV.p (.int .u64 0)) H)
theorem W204_wp (v0 : AV) (H : Heap) (K : AV → Heap → Prop) : wpC Tryz.prog tab D204 (bodyOf Tryz.f204) (retF tab [.tmp 2] K) (nthA [v0]) H = W204 v0 H K := by kernel_rfl
theorem W204_ok {v0 : AV} {H : Heap} {K : AV → Heap → Prop} (h : W204 v0 H K) : CallT Tryz.prog 204 [v0] H K :=
  CallT.of_wp (D := D204) tab_ok mixed Tryz.func204 (c := bodyOf Tryz.f204) (by kernel_rfl) rfl (by kernel_rfl) (rs := #[.tmp 2]) rfl (by decide +kernel) (by kernel_rfl) (W204_wp v0 H K) h
def D205 : Info := ⟨13, fun i => ([], []), fun i => ([], [])⟩
def W205 (v0 : AV) (v1 : AV) (H : Heap) (K : AV → Heap → Prop) : Prop :=
 binV tab .sub 3 (AV.p (.int .i64 64)) v0 fun v7 =>
 binV tab .shl 153 v1 v7 fun v8 =>
 convV tab 153 2 v8 fun v9 =>
 binV tab .sub 3 (AV.p (.int .i64 64)) v0 fun v11 =>
 binV tab .shr 2 v9 v11 fun v12 =>
 K v12 H
theorem W205_wp (v0 : AV) (v1 : AV) (H : Heap) (K : AV → Heap → Prop) : wpC Tryz.prog tab D205 (bodyOf Tryz.f205) (retF tab [.tmp 4] K) (nthA [v0, v1]) H = W205 v0 v1 H K := by kernel_rfl
theorem W205_ok {v0 v1 : AV} {H : Heap} {K : AV → Heap → Prop} (h : W205 v0 v1 H K) : CallT Tryz.prog 205 [v0, v1] H K :=
  CallT.of_wp (D := D205) tab_ok mixed Tryz.func205 (c := bodyOf Tryz.f205) (by kernel_rfl) rfl (by kernel_rfl) (rs := #[.tmp 4]) rfl (by decide +kernel) (by kernel_rfl) (W205_wp v0 v1 H K) h
def D213 : Info := ⟨15, fun i => ([], []), fun i => ([], [])⟩
def W213 (v0 : AV) (v1 : AV) (v2 : AV) (H : Heap) (K : AV → Heap → Prop) : Prop :=
 CallT Tryz.prog 166 [v0, v1] H fun v9 H1 =>
 grdV v9 true (CallT Tryz.prog 166 [v0, v2] H1 fun v13 H2 =>
 K v13 H2)
 (K (AV.p (.bool false)) H1)
theorem W213_wp (v0 : AV) (v1 : AV) (v2 : AV) (H : Heap) (K : AV → Heap → Prop) : wpC Tryz.prog tab D213 (bodyOf Tryz.f213) (retF tab [.tmp 6] K) (nthA [v0, v1, v2]) H = W213 v0 v1 v2 H K := by kernel_rfl
theorem W213_ok {v0 v1 v2 : AV} {H : Heap} {K : AV → Heap → Prop} (h : W213 v0 v1 v2 H K) : CallT Tryz.prog 213 [v0, v1, v2] H K :=
  CallT.of_wp (D := D213) tab_ok mixed Tryz.func213 (c := bodyOf Tryz.f213) (by kernel_rfl) rfl (by kernel_rfl) (rs := #[.tmp 6]) rfl (by decide +kernel) (by kernel_rfl) (W213_wp v0 v1 v2 H K) h
def D214 : Info := ⟨15, fun i => ([], []), fun i => ([], [])⟩
def W214 (v0 : AV) (v1 : AV) (v2 : AV) (H : Heap) (K : AV → Heap → Prop) : Prop :=
 CallT Tryz.prog 196 [v0, v1] H fun v9 H1 =>
 grdV v9 true (CallT Tryz.prog 196 [v0, v2] H1 fun v13 H2 =>
 K v13 H2)
 (K (AV.p (.bool false)) H1)
theorem W214_wp (v0 : AV) (v1 : AV) (v2 : AV) (H : Heap) (K : AV → Heap → Prop) : wpC Tryz.prog tab D214 (bodyOf Tryz.f214) (retF tab [.tmp 6] K) (nthA [v0, v1, v2]) H = W214 v0 v1 v2 H K := by kernel_rfl
theorem W214_ok {v0 v1 v2 : AV} {H : Heap} {K : AV → Heap → Prop} (h : W214 v0 v1 v2 H K) : CallT Tryz.prog 214 [v0, v1, v2] H K :=
  CallT.of_wp (D := D214) tab_ok mixed Tryz.func214 (c := bodyOf Tryz.f214) (by kernel_rfl) rfl (by kernel_rfl) (rs := #[.tmp 6]) rfl (by decide +kernel) (by kernel_rfl) (W214_wp v0 v1 v2 H K) h
def D215 : Info := ⟨135, fun i => if i = 6 then ([[], [], [0, 1], [], [], [3, 4], [0, 1, 2], [0, 1, 2, 3, 4, 5, 6]], [(0, []), (1, []), (2, []), (3, []), (4, []), (5, []), (6, []), (7, [])]) else ([], []), fun i => if i = 17 then ([2, 8, 9, 10, 11, 13, 14], [15, 16]) else if i = 24 then ([2, 8, 9, 10, 14, 15, 17], [16, 18]) else ([], [])⟩
def L215_0 (K : AV → Heap → Prop) (v2 : AV) (v8 : AV) (v9 : AV) (v10 : AV) (v11 : AV) (v13 : AV) (v14 : AV) (v15 : AV) (v16 : AV) (H : Heap) : Prop := LoopV (wpC Tryz.prog tab D215 (cAt [1, 1, 1, 1, 1, 1, 1, 1, 1, 1, 1, 1, 1, 1, 0, 0, 0] (bodyOf Tryz.f215))) [2, 8, 9, 10, 11, 13, 14] (PostF.block 0 (PostF.thenA (wpC Tryz.prog tab D215 (cAt [1, 1, 1, 1, 1, 1, 1, 1, 1, 1, 1, 1, 1, 1, 1] (bodyOf Tryz.f215))) (retF tab [.tmp 6, .tmp 7] K))) [15, 16] [AV.any, AV.any, v2, AV.any, AV.any, AV.any, AV.any, AV.any, v8, v9, v10, v11, AV.any, v13, v14, v15, v16, AV.any, AV.any, AV.any, AV.any, AV.any, AV.any, AV.any, AV.any, AV.any, AV.any, AV.any, AV.any, AV.any, AV.any, AV.any, AV.any, AV.any, AV.any, AV.any, AV.any, AV.any, AV.any, AV.any, AV.any, AV.any, AV.any, AV.any, AV.any, AV.any, AV.any, AV.any, AV.any, AV.any, AV.any, AV.any, AV.any, AV.any, AV.any, AV.any, AV.any, AV.any, AV.any, AV.any, AV.any, AV.any, AV.any, AV.any, AV.any, AV.any, AV.any, AV.any, AV.any, AV.any, AV.any, AV.any, AV.any, AV.any, AV.any, AV.any, AV.any, AV.any, AV.any, AV.any, AV.any, AV.any, AV.any, AV.any, AV.any, AV.any, AV.any, AV.any, AV.any, AV.any, AV.any, AV.any, AV.any, AV.any, AV.any, AV.any, AV.any, AV.any, AV.any, AV.any, AV.any, AV.any, AV.any, AV.any, AV.any, AV.any, AV.any, AV.any, AV.any, AV.any, AV.any, AV.any, AV.any, AV.any, AV.any, AV.any, AV.any, AV.any, AV.any, AV.any, AV.any, AV.any, AV.any, AV.any, AV.any, AV.any, AV.any, AV.any, AV.any, AV.any, AV.any, AV.any, AV.any, AV.any, AV.any] H
def W215 (v0 : AV) (v1 : AV) (v2 : AV) (H : Heap) (K : AV → Heap → Prop) : Prop :=
 binV tab .eql 153 v2 (AV.p (.int .u64 0)) fun v20 =>
 condV v20 (loadV tab 232 AV.any H fun v21 =>
 False)
 (binV tab .leq 153 v2 v0 fun v24 =>
 condV v24 (loadV tab 232 AV.any H fun v25 =>
 False)
 (binV tab .eql 153 v0 (AV.p (.int .u64 0)) fun v27 =>
 condV v27 (binV tab .quo 153 v1 v2 fun v30 =>
 binV tab .rem 153 v1 v2 fun v33 =>
 K (.tup [v30, v33]) H)
 (CallT Tryz.prog 217 [v2] H fun v35 H1 =>
 convV tab 3 114 v35 fun v36 =>
 binV tab .shl 153 v2 v36 fun v39 =>
 binV tab .shr 153 v39 (AV.p (.int .u64 32)) fun v41 =>
 binV tab .and 153 v39 (AV.p (.int .u64 4294967295)) fun v43 =>
 binV tab .shl 153 v0 v36 fun v46 =>
 binV tab .sub 114 (AV.p (.int .u64 64)) v36 fun v49 =>
 binV tab .shr 153 v1 v49 fun v50 =>
 binV tab .or 153 v46 v50 fun v51 =>
 binV tab .shl 153 v1 v36 fun v54 =>
 binV tab .shr 153 v54 (AV.p (.int .u64 32)) fun v56 =>
 binV tab .and 153 v54 (AV.p (.int .u64 4294967295)) fun v58 =>
 binV tab .quo 153 v51 v41 fun v61 =>
 binV tab .mul 153 v61 v41 fun v65 =>
 binV tab .sub 153 v51 v65 fun v66 =>
 L215_0 K v39 v36 v41 v43 v51 v56 v58 v61 v66 H1)))
theorem W215_wp (v0 : AV) (v1 : AV) (v2 : AV) (H : Heap) (K : AV → Heap → Prop) : wpC Tryz.prog tab D215 (bodyOf Tryz.f215) (retF tab [.tmp 6, .tmp 7] K) (nthA [v0, v1, v2]) H = W215 v0 v1 v2 H K := by kernel_rfl
theorem W215_ok {v0 v1 v2 : AV} {H : Heap} {K : AV → Heap → Prop} (h : W215 v0 v1 v2 H K) : CallT Tryz.prog 215 [v0, v1, v2] H K :=
  CallT.of_wp (D := D215) tab_ok mixed Tryz.func215 (c := bodyOf Tryz.f215) (by kernel_rfl) rfl (by kernel_rfl) (rs := #[.tmp 6, .tmp 7]) rfl (by decide +kernel) (by kernel_rfl) (W215_wp v0 v1 v2 H K) h
end Go.Proofs.YtgcklgeifdefhaaGreat
namespace Go.Proofs.YtgcklgeifdefhaaGreat
open Go Go.Sep
attribute [local irreducible] CallT
theorem i64_id {n : Int} (h0 : -9223372036854775808 ≤ n) (h1 : n ≤ 9223372036854775807) : IntKind.i64.wrap n = n := wrap64_id h0 h1
theorem wk_int {k : IntKind} {a b : Int} : AV.wk (.p (.int k a)) (.p (.int k b)) = (a = b) := by
  apply propext; constructor
  · intro h; cases h; rfl
  · rintro rfl; exact .refl _
theorem take_all_succ {α : Type} {p : α → Bool} {xs : List α} {i : Nat} (h : i < xs.length) : (xs.take (i + 1)).all p = ((xs.take i).all p && p xs[i]) := by
  rw [List.take_succ_eq_append_getElem h, List.all_append]; simp
theorem getD_lt {α : Type} {xs : List α} {i : Nat} {d : α} (h : i < xs.length) : xs.getD i d = xs[i] := by simp [List.getD, h]
theorem getD_all {α : Type} {p : α → Prop} {l : List α} {d : α} (h : ∀ b ∈ l, p b) {i : Nat} (hi : i < l.length) : p (l.getD i d) := by
  simp only [List.getD, List.getElem?_eq_getElem hi, Option.getD_some]; exact h _ (List.getElem_mem hi)
theorem range_all_succ {p : Nat → Bool} {n : Nat} : (List.range (n + 1)).all p = ((List.range n).all p && p n) := by
  rw [List.range_succ, List.all_append]; simp
theorem range_all_false {p : Nat → Bool} {n i : Nat} (hi : i < n) (h : p i = false) : (List.range n).all p = false := by
  rw [List.all_eq_false]; exact ⟨i, List.mem_range.2 hi, by simp [h]⟩
theorem Wk.own_le {q sz : Nat} {es : List (List PV)} {H H' : Heap} (hpos : 0 < sz) (hs : Sized sz es) (hq : H q = none) (hle : Heap.le (H.set q (cells es)) H') : Wk (own q sz es) H' (.p (.sl es)) H := by
  have h1 : H' q = some (cells es) := hle q _ (Heap.set_same _ _ _)
  refine .trans (.own hpos hs h1) (.forget (Heap.le_del (fun x b hx => hle x b ?_) hq))
  rw [Heap.set_other (fun e => by rw [e, hq] at hx; cases hx)]; exact hx
theorem CallT.fin {P : Program} {f : Nat} {args : List AV} {H : Heap} {K : AV → Heap → Prop} (h : CallT P f args H (wkK K)) : CallT P f args H K :=
  h.wk fun v H1 ⟨v', H2, hw, hk⟩ => ⟨v', H2, hw, hk⟩
theorem szI (xs : List Int) : Sized 1 (xs.map eI) := sized_map (f := eI) (fun _ => rfl) xs
theorem cells_I (xs : List Int) : cells (xs.map eI) = xs.map fun n => I n := by
  induction xs with
  | nil => rfl
  | cons x xs ih => simp only [cells, List.map_cons, List.flatten_cons, List.map_append] at ih ⊢; rw [ih]; rfl
abbrev eL (l : List Int) : List PV := [.sl (l.map eI)]
abbrev Ls (cs : List (List Int)) : AV := .p (.sl (cs.map eL))
theorem szL (xs : List (List Int)) : Sized 1 (xs.map eL) := sized_map (f := eL) (fun _ => rfl) xs
theorem fin_own {q sz : Nat} {es : List (List PV)} {H H' : Heap} {K : AV → Heap → Prop} (hpos : 0 < sz) (hs : Sized sz es) (hq : H q = none) (hle : Heap.le (H.set q (cells es)) H') (h : K (.p (.sl es)) H) : wkK K (own q sz es) H' :=
  ⟨_, _, Wk.own_le hpos hs hq hle, h⟩
theorem fin_le {v : AV} {H H' : Heap} {K : AV → Heap → Prop} (hle : Heap.le H H') (h : K v H) : wkK K v H' := ⟨_, _, .forget hle, h⟩
def PuAt (P : Program) (f : Nat) (args : List AV) (H : Heap) (v : AV) : Prop := ∀ K : AV → Heap → Prop, K v H → CallT P f args H K
theorem Pu.at {P : Program} {f : Nat} {args : List AV} {v : AV} (h : Pu P f args v) (H : Heap) : PuAt P f args H v := fun K hk => h.use hk
theorem PuAt.use {P : Program} {f : Nat} {args : List AV} {v : AV} {H : Heap} (h : PuAt P f args H v) {K : AV → Heap → Prop} (k : K v H) : CallT P f args H K := h K k
def enumP : Nat → List PV → List (Nat × AV)
  | _, [] => []
  | k, v :: vs => (k, .p v) :: enumP (k + 1) vs
theorem fill_enum : ∀ (vs : List PV) (k : Nat) (a : List AV) (b : List AV), a.length = k → vs.length ≤ b.length →
    fillV (fun i => some (i * 1, 1)) (a ++ b) (enumP k vs) = some (a ++ vs.map .p ++ b.drop vs.length)
  | [], k, a, b, h1, h2 => by simp [enumP, fillV]
  | v :: vs, k, a, b, h1, h2 => by
    match b, h2 with
    | x :: b, h2 =>
      have hb : vs.length ≤ b.length := by simpa using h2
      have ih := fill_enum vs (k + 1) (a ++ [.p v]) b (by simp [h1]) hb
      simp only [enumP, fillV, AV.cells, List.length_cons, List.length_nil, Nat.zero_add, Nat.mul_one]
      rw [if_pos ⟨trivial, by simp [h1]⟩]
      have hs : splice (a ++ x :: b) k [AV.p v] = (a ++ [AV.p v]) ++ b := by
        subst h1
        simp [splice, List.append_assoc, List.drop_append]
      rw [hs]
      simp only [Nat.mul_one] at ih
      rw [ih]
      simp
theorem lit_gen {tab : Tab} {t e : Nat} {d ed : TD} {H : Heap} {K : AV → Heap → Prop} (h1 : tab t = some d) (h2 : d.k = .slice e) (h3 : tab e = some ed) (h4 : ed.size = 1 ∧ ed.zero.length = 1) (vs : List PV)
    (hsm : vs.length ≤ 1000)
    (h : K (.p (.sl (vs.map fun v => [v]))) H) : buildSliceV tab t vs.length (enumP 0 vs) H (wkK K) := by
  obtain ⟨z, hz⟩ : ∃ z, ed.zero = [z] := by
    match ed.zero, h4.2 with
    | [z], _ => exact ⟨z, rfl⟩
  simp only [buildSliceV, h1, h2, h3, h4.1]
  refine ⟨by omega, ?_⟩
  have hzl : (zerosA vs.length ed.zero).length = vs.length := by rw [zerosA_len, hz]; simp
  have := fill_enum vs 0 [] (zerosA vs.length ed.zero) rfl (by omega)
  rw [List.nil_append, List.nil_append, List.drop_of_length_le (by omega), List.append_nil] at this
  rw [this]
  intro r hr
  have hf : ∀ vs : List PV, (vs.map fun v => [v]).flatten = vs := by
    intro vs
    induction vs with
    | nil => rfl
    | cons v vs ih => simp only [List.map_cons, List.flatten_cons, ih, List.singleton_append]
  refine ⟨_, _, Wk.trans (Wk.frz (r := r) (sz := 1) (es := vs.map fun v => [v]) (v := .sl r 1 0 vs.length) (v' := .p (.sl (vs.map fun v => [v]))) (by omega) ?_ ?_ ?_) (.forget ?_), h⟩
  · rw [Heap.set_same, hf vs]
  · intro e he; obtain ⟨v, _, rfl⟩ := List.mem_map.1 he; rfl
  · have : FrzR r 1 (vs.map fun v => [v]) (.sl r 1 0 (vs.map fun v => [v]).length) (.p (.sl (vs.map fun v => [v]))) := .here
    rwa [List.length_map] at this
  · rw [Heap.del_set hr]; exact Heap.le_refl _
theorem lit2 {tab : Tab} {t e : Nat} {d ed : TD} {a b : PV} {H : Heap} {K : AV → Heap → Prop} (h1 : tab t = some d) (h2 : d.k = .slice e) (h3 : tab e = some ed) (h4 : ed.size = 1 ∧ ed.zero.length = 1)
    (h : K (.p (.sl [[a], [b]])) H) : buildSliceV tab t 2 [(0, .p a), (1, .p b)] H (wkK K) := lit_gen h1 h2 h3 h4 [a, b] (by simp) h
theorem lit3 {tab : Tab} {t e : Nat} {d ed : TD} {a b c : PV} {H : Heap} {K : AV → Heap → Prop} (h1 : tab t = some d) (h2 : d.k = .slice e) (h3 : tab e = some ed) (h4 : ed.size = 1 ∧ ed.zero.length = 1)
    (h : K (.p (.sl [[a], [b], [c]])) H) : buildSliceV tab t 3 [(0, .p a), (1, .p b), (2, .p c)] H (wkK K) := lit_gen h1 h2 h3 h4 [a, b, c] (by simp) h
end Go.Proofs.YtgcklgeifdefhaaGreat
namespace Go.Proofs.YtgcklgeifdefhaaGreat
open Go Go.Sep
attribute [local irreducible] CallT
theorem l1In_spec (a lo hi : Int) : Pu Tryz.prog 52 [I a, I lo, I hi] (B (decide (lo ≤ a) && decide (a ≤ hi))) := by
  refine Pu.of fun H => ?_
  refine W52_ok ?_; simp (maxSteps := 1000000) (disch := first | assumption | (apply ν6; assumption)) only [W52, vz, vu, vv, eqS, eF_, ↓c1_, ↓c2_, tabs, reduceCtorEq, ι5, ↓reduceIte, ν1, ν2, ν3, ν4, ν5, ι1, ι2, ι3, ι4]
  exact ⟨fun h => by simp [h], fun h => by simp [h]⟩
end Go.Proofs.YtgcklgeifdefhaaGreat
namespace Go.Proofs.YtgcklgeifdefhaaGreat
open Go Go.Sep
def rowZ {α : Type} (e : α → List PV) (zero : List AV) (xs : List α) (i : Nat) : List AV := cells ((xs.take i).map e) ++ zerosA (xs.length - i) zero
theorem rowZ_zero {α : Type} {e : α → List PV} {zero : List AV} {xs : List α} : rowZ e zero xs 0 = zerosA xs.length zero := by simp [rowZ, cells]
theorem rowZ_end {α : Type} {e : α → List PV} {zero : List AV} {xs : List α} : rowZ e zero xs xs.length = cells (xs.map e) := by
  simp [rowZ, zerosA]
theorem cells_map_len {α : Type} {e : α → List PV} {sz : Nat} (h : ∀ a, (e a).length = sz) (xs : List α) : (cells (xs.map e)).length = xs.length * sz := by
  rw [cells_len (sized_map h xs), List.length_map]
theorem rowZ_len {α : Type} {e : α → List PV} {zero : List AV} {xs : List α} {i sz : Nat} (h : ∀ a, (e a).length = sz) (hz : zero.length = sz) (hi : i ≤ xs.length) : (rowZ e zero xs i).length = xs.length * sz := by
  rw [rowZ, List.length_append, cells_map_len h, zerosA_len, hz, List.length_take, Nat.min_eq_left hi, ← Nat.add_mul]
  congr 1; omega
theorem zerosA_succ (n : Nat) (z : List AV) : zerosA (n + 1) z = z ++ zerosA n z := by simp [zerosA, List.replicate_succ]
theorem rowZ_put {α : Type} [Inhabited α] {e : α → List PV} {zero : List AV} {xs : List α} {i sz : Nat} (h : ∀ a, (e a).length = sz) (hz : zero.length = sz) (hi : i < xs.length) {off : Nat} (ho : off = i * sz) {n : Nat} (hn : n = sz) :
    List.take off (rowZ e zero xs i) ++ (e (xs.getD i default)).map .p ++ List.drop (off + n) (rowZ e zero xs i) = rowZ e zero xs (i + 1) := by
  subst ho; subst hn
  have hl : (cells ((xs.take i).map e)).length = i * n := by rw [cells_map_len h, List.length_take, Nat.min_eq_left (Nat.le_of_lt hi)]
  have e1 : List.take (i * n) (rowZ e zero xs i) = cells ((xs.take i).map e) := by
    rw [rowZ, List.take_append_of_le_length (by omega), List.take_of_length_le (by omega)]
  have e2 : List.drop (i * n + n) (rowZ e zero xs i) = zerosA (xs.length - (i + 1)) zero := by
    rw [rowZ, List.drop_append, List.drop_of_length_le (by omega), List.nil_append, hl, Nat.add_sub_cancel_left]
    obtain ⟨m, hm⟩ : ∃ m, xs.length - i = m + 1 := ⟨xs.length - i - 1, by omega⟩
    rw [hm, zerosA_succ, List.drop_append_of_le_length (by omega), List.drop_of_length_le (by omega), List.nil_append]
    congr 1; omega
  rw [e1, e2, rowZ]
  congr 1
  rw [List.take_succ_eq_append_getElem hi, List.map_append, cells_app]
  congr 1
  simp [cells, List.getD, hi]
end Go.Proofs.YtgcklgeifdefhaaGreat
namespace Go.Pt
structure Nd where
  op : Int
  n : Int
deriving Inhabited, DecidableEq
structure Ch where
  var : Int
  by_ : List Nd
deriving Inhabited, DecidableEq
structure Cm where
  when_ : List Nd
  chs : List Ch
deriving Inhabited, DecidableEq
structure Pg where
  wide : Int
  vars : Int
  start : List Nd
  cmds : List Cm
deriving Inhabited, DecidableEq
def inB (n lo hi : Int) : Bool := decide (lo ≤ n) && decide (n ≤ hi)
theorem inB_iff {n lo hi : Int} : inB n lo hi = true ↔ lo ≤ n ∧ n ≤ hi := by simp [inB]
def own (op : Int) : Int :=
  if op = 1 ∨ op = 2 ∨ op = 13 ∨ (3 ≤ op ∧ op ≤ 12) then 1
  else if op = 20 ∨ op = 19 ∨ (14 ≤ op ∧ op ≤ 16) ∨ op = 17 ∨ op = 18 then 2 else 0
def many (op : Int) : Nat :=
  if op = 13 ∨ op = 19 then 1 else if (3 ≤ op ∧ op ≤ 12) ∨ (14 ≤ op ∧ op ≤ 16) ∨ op = 17 ∨ op = 18 then 2 else 0
def part (op : Int) : Int :=
  if op = 13 ∨ (3 ≤ op ∧ op ≤ 12) ∨ (14 ≤ op ∧ op ≤ 16) then 1 else 2
def leafOk (wide vars : Int) (x : Nd) : Bool :=
  if x.op = 1 then inB wide 1 64 && decide (x.n < 2 ^ wide.toNat)
  else if x.op = 2 then decide (x.n < vars)
  else if x.op = 20 then decide (x.n ≤ 1)
  else decide (x.n = 0)
def step (w v : Int) (p : List Int) (x : Nd) : Option (List Int) :=
  if own x.op = 0 ∨ leafOk w v x = false ∨ p.length < many x.op then none
  else if (p.drop (p.length - many x.op)).any (fun k => decide (k ≠ part x.op)) then none
  else some (p.take (p.length - many x.op) ++ [own x.op])
def run (w v : Int) : List Int → List Nd → Option (List Int)
  | p, [] => some p
  | p, x :: xs => (step w v p x).bind fun p' => run w v p' xs
theorem run_app (w v : Int) : ∀ (p : List Int) (xs ys : List Nd), run w v p (xs ++ ys) = (run w v p xs).bind fun p' => run w v p' ys
  | p, [], ys => rfl
  | p, x :: xs, ys => by
    simp only [List.cons_append, run]
    cases step w v p x with
    | none => rfl
    | some p' => simp only [Option.bind_some]; exact run_app w v p' xs ys
theorem run_snoc (w v : Int) (p : List Int) (xs : List Nd) (x : Nd) : run w v p (xs ++ [x]) = (run w v p xs).bind fun p' => step w v p' x := by
  rw [run_app]
  cases run w v p xs with
  | none => rfl
  | some p' =>
    simp only [Option.bind_some, run]
    cases step w v p' x <;> rfl
def frame (w v : Int) (t : List Nd) : Bool := inB w 1 64 && inB v 1 4 && (decide (1 ≤ t.length) && decide (t.length ≤ 48))
def kind (w v : Int) (t : List Nd) : Int :=
  if frame w v t then (match run w v [] t with
    | some [k] => k
    | _ => 0) else 0
theorem take_succ_snoc {α : Type} [Inhabited α] {xs : List α} {i : Nat} (h : i < xs.length) : xs.take (i + 1) = xs.take i ++ [xs.getD i default] := by
  rw [List.take_succ_eq_append_getElem h]; simp [List.getD, h]
theorem run_none (w v : Int) {t : List Nd} {i : Nat} (hi : i < t.length) {p : List Int} (h : run w v [] (t.take i) = some p) (hs : step w v p (t.getD i default) = none) : run w v [] t = none := by
  have e : t = t.take (i + 1) ++ t.drop (i + 1) := (List.take_append_drop _ _).symm
  rw [e, run_app, take_succ_snoc hi, run_snoc, h]
  simp only [Option.bind_some]
  rw [hs]; rfl
theorem step_last {w v : Int} {p p' : List Int} {x : Nd} (h : step w v p x = some p') : ∃ q, p' = q ++ [own x.op] ∧ own x.op ≠ 0 := by
  unfold step at h
  split at h
  · cases h
  · rename_i h1
    split at h
    · cases h
    · injection h with h
      exact ⟨_, h.symm, fun e => h1 (.inl e)⟩
theorem run_last {w v : Int} {t : List Nd} (ht : t ≠ []) {p : List Int} (h : run w v [] t = some p) : ∃ q, p = q ++ [own (t.getD (t.length - 1) default).op] ∧ own (t.getD (t.length - 1) default).op ≠ 0 := by
  have hpos : 0 < t.length := List.length_pos_iff.2 ht
  have e : t = t.take (t.length - 1) ++ [t.getD (t.length - 1) default] := by
    have := take_succ_snoc (xs := t) (i := t.length - 1) (by omega)
    rw [show t.length - 1 + 1 = t.length by omega, List.take_length] at this
    exact this
  generalize t.getD (t.length - 1) default = x at e ⊢
  rw [e, run_snoc] at h
  cases h1 : run w v [] (t.take (t.length - 1)) with
  | none => rw [h1] at h; cases h
  | some p1 => rw [h1] at h; exact step_last h
theorem kind_eq {w v : Int} {t : List Nd} (hf : frame w v t = true) (k : Int) (hk : k ≠ 0) :
    decide (kind w v t = k) = (match run w v [] t with
      | some p => decide (p.length = 1) && decide (own (t.getD (t.length - 1) default).op = k)
      | none => false) := by
  have ht : t ≠ [] := by
    intro e; subst e
    simp [frame] at hf
  unfold kind
  rw [if_pos hf]
  cases h : run w v [] t with
  | none => simp [Ne.symm hk]
  | some p =>
    obtain ⟨q, e, _⟩ := run_last ht h
    dsimp only
    generalize own (t.getD (t.length - 1) default).op = o at e ⊢
    subst e
    cases q with
    | nil => simp
    | cons a q => 
      cases q with
      | nil => simp [Ne.symm hk]
      | cons b q => simp [Ne.symm hk]
theorem kind_f {w v : Int} {t : List Nd} (hf : frame w v t = false) : kind w v t = 0 := by simp [kind, hf]
def goodCh (w v : Int) (prev : Option Int) (c : Ch) : Bool := inB c.var 0 (v - 1) && (match prev with
  | some p => decide (p < c.var)
  | none => true) && decide (kind w v c.by_ = 1)
def goodCm (w v : Int) (c : Cm) : Bool := decide (kind w v c.when_ = 2) && ((List.range c.chs.length).all fun i => goodCh w v (if i = 0 then none else some (c.chs.getD (i - 1) default).var) (c.chs.getD i default))
def goodP (p : Pg) : Bool := decide (kind p.wide p.vars p.start = 2) && (decide (1 ≤ p.cmds.length) && decide (p.cmds.length ≤ 6)) && p.cmds.all (goodCm p.wide p.vars)
def smallP (p : Pg) : Bool := goodP p && decide (p.wide * p.vars ≤ 5)
def statesP (p : Pg) : Int := 2 ^ (p.wide * p.vars).toNat
theorem kind2_frame {w v : Int} {t : List Nd} (h : kind w v t = 2) : (1 ≤ w ∧ w ≤ 64) ∧ (1 ≤ v ∧ v ≤ 4) := by
  unfold kind at h
  split at h
  · rename_i hf
    simp only [frame, Bool.and_eq_true, inB_iff] at hf
    exact hf.1
  · cases h
theorem goodP_rng {p : Pg} (h : goodP p = true) : (1 ≤ p.wide ∧ p.wide ≤ 64) ∧ (1 ≤ p.vars ∧ p.vars ≤ 4) := by
  simp only [goodP, Bool.and_eq_true, decide_eq_true_eq] at h
  exact kind2_frame h.1.1
theorem goodCm_len {w v : Int} {c : Cm} (h : goodCm w v c = true) : (c.chs.length : Int) ≤ v ∨ c.chs.length = 0 := by
  simp only [goodCm, Bool.and_eq_true, List.all_eq_true, List.mem_range] at h
  have key : ∀ i, i < c.chs.length → (i : Int) ≤ (c.chs.getD i default).var := by
    intro i
    induction i with
    | zero =>
      intro hi
      have := h.2 0 hi
      simp only [goodCh, Bool.and_eq_true, inB_iff] at this
      omega
    | succ i ih =>
      intro hi
      have h1 := ih (by omega)
      have := h.2 (i + 1) hi
      simp only [goodCh, Bool.and_eq_true, inB_iff, Nat.succ_ne_zero, if_false, Nat.add_sub_cancel, decide_eq_true_eq] at this
      omega
  by_cases h0 : c.chs.length = 0
  · exact .inr h0
  · left
    have h1 := key (c.chs.length - 1) (by omega)
    have := h.2 (c.chs.length - 1) (by omega)
    simp only [goodCh, Bool.and_eq_true, inB_iff] at this
    omega
end Go.Pt
