/- What each function's code is asked for, as a formula. Written by wgen.py (a program of this session's) out of Lean's print of the program. -/
import Derived.KernelRfl
import Derived.Test.YtgcklgeifdefhaaGreatTab
import Derived.Test.YtgcklgeifdefhaaGreatSepC
namespace Go.Proofs.YtgcklgeifdefhaaGreat
open Go Go.Sep
set_option linter.unusedVariables false
attribute [local irreducible] wpC headF
/-- loop.example/g00649/spec.l2N -/
def D126 : Info := ⟨30, fun i => ([], []), fun i => ([], [])⟩
def W126 (v0 : AV) (v1 : AV) (v2 : AV) (H : Heap) (K : AV → Heap → Prop) : Prop :=
 boxV v2 H fun v5 H1 =>
 fieldAddrV tab 155 v5 0 fun v7 =>
 loadV tab 3 v7 H1 fun v8 =>
 binV tab .eql 3 v8 (AV.p (.int .i64 1)) fun v10 =>
 condV v10 (fieldAddrV tab 155 v5 1 fun v12 =>
 loadV tab 153 v12 H1 fun v13 =>
 CallT Tryz.prog 166 [v0, v13] H1 fun v14 H2 =>
 K v14 H2)
 (binV tab .eql 3 v8 (AV.p (.int .i64 2)) fun v16 =>
 condV v16 (fieldAddrV tab 155 v5 1 fun v17 =>
 loadV tab 153 v17 H1 fun v18 =>
 convV tab 3 153 v1 fun v20 =>
 binV tab .lss 153 v18 v20 fun v21 =>
 K v21 H1)
 (binV tab .eql 3 v8 (AV.p (.int .i64 20)) fun v23 =>
 condV v23 (fieldAddrV tab 155 v5 1 fun v24 =>
 loadV tab 153 v24 H1 fun v25 =>
 binV tab .lss 153 v25 (AV.p (.int .u64 2)) fun v26 =>
 K v26 H1)
 (fieldAddrV tab 155 v5 1 fun v27 =>
 loadV tab 153 v27 H1 fun v28 =>
 binV tab .eql 153 v28 (AV.p (.int .u64 0)) fun v29 =>
 K v29 H1)))
theorem W126_wp (v0 : AV) (v1 : AV) (v2 : AV) (H : Heap) (K : AV → Heap → Prop) : wpC Tryz.prog tab D126 (bodyOf Tryz.f126) (retF tab [.tmp 6] K) (nthA [v0, v1, v2]) H = W126 v0 v1 v2 H K := by kernel_rfl
theorem W126_ok {v0 v1 v2 : AV} {H : Heap} {K : AV → Heap → Prop} (h : W126 v0 v1 v2 H K) : CallT Tryz.prog 126 [v0, v1, v2] H K :=
  CallT.of_wp (D := D126) tab_ok mixed Tryz.func126 (c := bodyOf Tryz.f126) (by kernel_rfl) rfl (by kernel_rfl) (rs := #[.tmp 6]) rfl (by decide +kernel) (by kernel_rfl) (W126_wp v0 v1 v2 H K) h
theorem W126_hb : HasBody Tryz.prog 126 := ⟨_, bodyOf Tryz.f126, Tryz.func126, by kernel_rfl, rfl⟩
/-- loop.example/g00649/laws.toNode -/
def D127 : Info := ⟨11, fun i => ([], []), fun i => ([], [])⟩
def W127 (v0 : AV) (H : Heap) (K : AV → Heap → Prop) : Prop :=
 boxV v0 H fun v1 H1 =>
 allocV tab 155 H1 fun v2 H2 =>
 allocV tab 155 H2 fun v3 H3 =>
 fieldAddrV tab 160 v1 0 fun v4 =>
 loadV tab 3 v4 H3 fun v5 =>
 fieldAddrV tab 155 v3 0 fun v6 =>
 storeV tab 3 v6 v5 H3 fun H4 =>
 fieldAddrV tab 160 v1 1 fun v7 =>
 loadV tab 153 v7 H4 fun v8 =>
 fieldAddrV tab 155 v3 1 fun v9 =>
 storeV tab 153 v9 v8 H4 fun H5 =>
 loadV tab 155 v3 H5 fun v10 =>
 storeV tab 155 v2 v10 H5 fun H6 =>
 loadV tab 155 v2 H6 fun r0 =>
 K r0 H6
theorem W127_wp (v0 : AV) (H : Heap) (K : AV → Heap → Prop) : wpC Tryz.prog tab D127 (bodyOf Tryz.f127) (retF tab [.cell 2 155] K) (nthA [v0]) H = W127 v0 H K := by kernel_rfl
theorem W127_ok {v0 : AV} {H : Heap} {K : AV → Heap → Prop} (h : W127 v0 H K) : CallT Tryz.prog 127 [v0] H K :=
  CallT.of_wp (D := D127) tab_ok mixed Tryz.func127 (c := bodyOf Tryz.f127) (by kernel_rfl) rfl (by kernel_rfl) (rs := #[.cell 2 155]) rfl (by decide +kernel) (by kernel_rfl) (W127_wp v0 H K) h
theorem W127_hb : HasBody Tryz.prog 127 := ⟨_, bodyOf Tryz.f127, Tryz.func127, by kernel_rfl, rfl⟩
/-- loop.example/g00649/laws.toCommand -/
def D128 : Info := ⟨13, fun i => ([], []), fun i => ([], [])⟩
def W128 (v0 : AV) (H : Heap) (K : AV → Heap → Prop) : Prop :=
 boxV v0 H fun v1 H1 =>
 allocV tab 150 H1 fun v2 H2 =>
 allocV tab 150 H2 fun v3 H3 =>
 fieldAddrV tab 147 v1 0 fun v4 =>
 loadV tab 22 v4 H3 fun v5 =>
 CallT Tryz.prog 80 [v5] H3 fun v6 H4 =>
 fieldAddrV tab 150 v3 0 fun v7 =>
 storeV tab 32 v7 v6 H4 fun H5 =>
 fieldAddrV tab 147 v1 1 fun v8 =>
 loadV tab 145 v8 H5 fun v9 =>
 CallT Tryz.prog 167 [v9] H5 fun v10 H6 =>
 fieldAddrV tab 150 v3 1 fun v11 =>
 storeV tab 148 v11 v10 H6 fun H7 =>
 loadV tab 150 v3 H7 fun v12 =>
 storeV tab 150 v2 v12 H7 fun H8 =>
 loadV tab 150 v2 H8 fun r0 =>
 K r0 H8
theorem W128_wp (v0 : AV) (H : Heap) (K : AV → Heap → Prop) : wpC Tryz.prog tab D128 (bodyOf Tryz.f128) (retF tab [.cell 2 150] K) (nthA [v0]) H = W128 v0 H K := by kernel_rfl
theorem W128_ok {v0 : AV} {H : Heap} {K : AV → Heap → Prop} (h : W128 v0 H K) : CallT Tryz.prog 128 [v0] H K :=
  CallT.of_wp (D := D128) tab_ok mixed Tryz.func128 (c := bodyOf Tryz.f128) (by kernel_rfl) rfl (by kernel_rfl) (rs := #[.cell 2 150]) rfl (by decide +kernel) (by kernel_rfl) (W128_wp v0 H K) h
theorem W128_hb : HasBody Tryz.prog 128 := ⟨_, bodyOf Tryz.f128, Tryz.func128, by kernel_rfl, rfl⟩
/-- loop.example/g00649/impl.isWide -/
def D129 : Info := ⟨9, fun i => ([], []), fun i => ([], [])⟩
def W129 (v0 : AV) (H : Heap) (K : AV → Heap → Prop) : Prop :=
 binV tab .geq 3 v0 (AV.p (.int .i64 1)) fun v4 =>
 grdV v4 true (binV tab .leq 3 v0 (AV.p (.int .i64 64)) fun v7 =>
 K v7 H)
 (K (AV.p (.bool false)) H)
theorem W129_wp (v0 : AV) (H : Heap) (K : AV → Heap → Prop) : wpC Tryz.prog tab D129 (bodyOf Tryz.f129) (retF tab [.tmp 2] K) (nthA [v0]) H = W129 v0 H K := by kernel_rfl
theorem W129_ok {v0 : AV} {H : Heap} {K : AV → Heap → Prop} (h : W129 v0 H K) : CallT Tryz.prog 129 [v0] H K :=
  CallT.of_wp (D := D129) tab_ok mixed Tryz.func129 (c := bodyOf Tryz.f129) (by kernel_rfl) rfl (by kernel_rfl) (rs := #[.tmp 2]) rfl (by decide +kernel) (by kernel_rfl) (W129_wp v0 H K) h
theorem W129_hb : HasBody Tryz.prog 129 := ⟨_, bodyOf Tryz.f129, Tryz.func129, by kernel_rfl, rfl⟩
/-- loop.example/g00649/impl.isVars -/
def D130 : Info := ⟨9, fun i => ([], []), fun i => ([], [])⟩
def W130 (v0 : AV) (H : Heap) (K : AV → Heap → Prop) : Prop :=
 binV tab .geq 3 v0 (AV.p (.int .i64 1)) fun v4 =>
 grdV v4 true (binV tab .leq 3 v0 (AV.p (.int .i64 4)) fun v7 =>
 K v7 H)
 (K (AV.p (.bool false)) H)
theorem W130_wp (v0 : AV) (H : Heap) (K : AV → Heap → Prop) : wpC Tryz.prog tab D130 (bodyOf Tryz.f130) (retF tab [.tmp 2] K) (nthA [v0]) H = W130 v0 H K := by kernel_rfl
theorem W130_ok {v0 : AV} {H : Heap} {K : AV → Heap → Prop} (h : W130 v0 H K) : CallT Tryz.prog 130 [v0] H K :=
  CallT.of_wp (D := D130) tab_ok mixed Tryz.func130 (c := bodyOf Tryz.f130) (by kernel_rfl) rfl (by kernel_rfl) (rs := #[.tmp 2]) rfl (by decide +kernel) (by kernel_rfl) (W130_wp v0 H K) h
theorem W130_hb : HasBody Tryz.prog 130 := ⟨_, bodyOf Tryz.f130, Tryz.func130, by kernel_rfl, rfl⟩
/-- slices.ContainsFunc[[]loop.example/g00649/impl.Command,loop.example/g00649/impl.Command] -/
def D131 : Info := ⟨9, fun i => ([], []), fun i => ([], [])⟩
def W131 (v0 : AV) (v1 : AV) (H : Heap) (K : AV → Heap → Prop) : Prop :=
 CallT Tryz.prog 168 [v0, v1] H fun v7 H1 =>
 binV tab .geq 3 v7 (AV.p (.int .i64 0)) fun v8 =>
 K v8 H1
theorem W131_wp (v0 : AV) (v1 : AV) (H : Heap) (K : AV → Heap → Prop) : wpC Tryz.prog tab D131 (bodyOf Tryz.f131) (retF tab [.tmp 4] K) (nthA [v0, v1]) H = W131 v0 v1 H K := by kernel_rfl
theorem W131_ok {v0 v1 : AV} {H : Heap} {K : AV → Heap → Prop} (h : W131 v0 v1 H K) : CallT Tryz.prog 131 [v0, v1] H K :=
  CallT.of_wp (D := D131) tab_ok mixed Tryz.func131 (c := bodyOf Tryz.f131) (by kernel_rfl) rfl (by kernel_rfl) (rs := #[.tmp 4]) rfl (by decide +kernel) (by kernel_rfl) (W131_wp v0 v1 H K) h
theorem W131_hb : HasBody Tryz.prog 131 := ⟨_, bodyOf Tryz.f131, Tryz.func131, by kernel_rfl, rfl⟩
/-- loop.example/g00649/impl.GoodProgram$1 -/
def D132 : Info := ⟨8, fun i => ([], []), fun i => ([], [])⟩
def W132 (v0 : AV) (v1 : AV) (H : Heap) (K : AV → Heap → Prop) : Prop :=
 boxV v0 H fun v2 H1 =>
 loadV tab 35 v1 H1 fun v4 =>
 loadV tab 150 v2 H1 fun v5 =>
 CallT Tryz.prog 133 [v4, v5] H1 fun v6 H2 =>
 unV .not v6 fun v7 =>
 K v7 H2
theorem W132_wp (v0 : AV) (v1 : AV) (H : Heap) (K : AV → Heap → Prop) : wpC Tryz.prog tab D132 (bodyOf Tryz.f132) (retF tab [.tmp 3] K) (nthA [v0, v1]) H = W132 v0 v1 H K := by kernel_rfl
theorem W132_ok {v0 v1 : AV} {H : Heap} {K : AV → Heap → Prop} (h : W132 v0 v1 H K) : CallT Tryz.prog 132 [v0, v1] H K :=
  CallT.of_wp (D := D132) tab_ok mixed Tryz.func132 (c := bodyOf Tryz.f132) (by kernel_rfl) rfl (by kernel_rfl) (rs := #[.tmp 3]) rfl (by decide +kernel) (by kernel_rfl) (W132_wp v0 v1 H K) h
theorem W132_hb : HasBody Tryz.prog 132 := ⟨_, bodyOf Tryz.f132, Tryz.func132, by kernel_rfl, rfl⟩
/-- (loop.example/g00649/impl.Program).isCommand -/
def D133 : Info := ⟨57, fun i => if i = 6 then ([[], [0], [0, 1], [0, 1, 2], [0, 1, 2, 3], [0, 1, 2, 3, 4], [0, 1, 2, 3], [0, 1, 2, 3, 6], [0, 1, 2, 3, 4, 5, 6, 7], [0, 1, 2, 3, 4, 5, 6, 7, 8], [0, 1, 2, 3, 4, 5, 6, 7, 8, 9], [0, 1, 2, 3, 4, 5, 6, 7, 8, 9, 10], [0, 1, 2, 3, 4, 5, 6, 7, 8, 9, 10, 11], [0, 1, 2, 3, 4, 5, 6, 7, 8, 9, 10, 11, 12], [0, 1, 2, 3, 4, 5, 6, 7, 8, 9, 10, 11, 12, 13], [0, 1, 2, 3, 4, 5, 6, 7, 8, 9, 10, 11, 12, 13, 14], [0, 1, 2, 3, 4, 5, 6, 7, 8, 9, 10, 11, 12, 13], [0, 1, 2, 3, 4, 5, 6, 7, 8, 9, 10, 11, 12, 13, 16], [0, 1, 2, 3, 4, 5, 6, 7, 8, 9, 10, 11, 12, 13, 14, 15, 16, 17], [0, 1, 2, 3, 4, 5, 6, 7, 8, 9, 10, 11, 12, 13, 14, 15, 16, 17, 18], [0, 1, 2, 3, 4, 5, 6, 7, 8, 9, 10, 11, 12, 13, 14, 15, 16, 17, 18, 19], [0, 1, 2, 3, 4, 5, 6, 7, 8, 9, 10, 11, 12, 13], [0, 1, 2, 3, 4, 5, 6, 7, 8, 9, 10, 11, 12, 13, 21], [0, 1, 2, 3, 4, 5, 6, 7, 8, 9, 10, 11, 12, 13, 14, 15, 16, 17, 18, 19, 20, 21, 22], [0, 1, 2, 3, 4, 5, 6, 7, 8, 9, 10, 11, 12, 13, 14, 15, 16, 17, 18, 19, 20, 21, 22, 23], [0, 1, 2, 3, 4, 5, 6, 7, 8, 9, 10, 11, 12, 13, 14, 15, 16, 17, 18, 19, 20, 21, 22, 23, 24], [0, 1, 2, 3, 4, 5, 6, 7, 8, 9, 10, 11, 12, 13, 14, 15, 16, 17, 18, 19, 20, 21, 22, 23, 24, 25], [0, 1, 2, 3, 4, 5, 6, 7, 8, 9, 10, 11, 12, 13, 14, 15, 16, 17, 18, 19, 20, 21, 22, 23, 24, 25, 26], [0, 1, 2, 3, 4, 5, 6, 7, 8, 9, 10, 11, 12, 13, 14, 15, 16, 17, 18, 19, 20, 21, 22, 23, 24, 25, 26, 27], [0, 1, 2, 3, 4, 5, 6, 7, 8, 9, 10, 11, 12, 13, 14, 15, 16, 17, 18, 19, 20, 21, 22, 23, 24, 25, 26], [0, 1, 2, 3, 4, 5, 6, 7, 8, 9, 10, 11, 12, 13, 14, 15, 16, 17, 18, 19, 20, 21, 22, 23, 24, 25, 26, 29], [0, 1, 2, 3, 4, 5, 6, 7, 8, 9, 10, 11, 12, 13, 14, 15, 16, 17, 18, 19, 20, 21, 22, 23, 24, 25, 26], [0, 1, 2, 3, 4, 5, 6, 7, 8, 9, 10, 11, 12, 13, 14, 15, 16, 17, 18, 19, 20, 21, 22, 23, 24, 25, 26, 31], [0, 1, 2, 3, 4, 5, 6, 7, 8, 9, 10, 11, 12, 13, 14, 15, 16, 17, 18, 19, 20, 21, 22, 23, 24, 25, 26, 27, 28, 29, 30, 31, 32], [0, 1, 2, 3, 4, 5, 6, 7, 8, 9, 10, 11, 12, 13, 14, 15, 16, 17, 18, 19, 20, 21, 22, 23, 24, 25, 26, 27, 28, 29, 30, 31, 32, 33], [0, 1, 2, 3, 4, 5, 6, 7, 8, 9, 10, 11, 12, 13, 14, 15, 16, 17, 18, 19, 20, 21, 22, 23, 24, 25, 26, 27, 28, 29, 30, 31, 32, 33, 34]], [(0, []), (1, []), (2, []), (3, []), (4, []), (5, []), (6, []), (7, []), (8, []), (9, []), (10, []), (11, []), (12, []), (13, []), (14, []), (15, []), (16, []), (17, []), (18, []), (19, []), (20, []), (21, []), (22, []), (23, []), (24, []), (25, []), (26, []), (27, []), (28, []), (29, []), (30, []), (31, []), (32, []), (33, []), (34, []), (35, [])]) else ([], []), fun i => if i = 4 then ([2, 3, 13, 14], [15]) else ([], [])⟩
def L133_0 (K : AV → Heap → Prop) (v2 : AV) (v3 : AV) (v13 : AV) (v14 : AV) (v15 : AV) (H : Heap) : Prop := LoopV (wpC Tryz.prog tab D133 (cAt [1, 1, 0, 1, 0, 0] (bodyOf Tryz.f133))) [2, 3, 13, 14] (PostF.block 0 (PostF.thenA (wpC Tryz.prog tab D133 (cAt [1, 1, 1] (bodyOf Tryz.f133))) (retF tab [.tmp 4] K))) [15] [AV.any, AV.any, v2, v3, AV.any, AV.any, AV.any, AV.any, AV.any, AV.any, AV.any, AV.any, AV.any, v13, v14, v15, AV.any, AV.any, AV.any, AV.any, AV.any, AV.any, AV.any, AV.any, AV.any, AV.any, AV.any, AV.any, AV.any, AV.any, AV.any, AV.any, AV.any, AV.any, AV.any, AV.any, AV.any, AV.any, AV.any, AV.any, AV.any, AV.any, AV.any, AV.any, AV.any, AV.any, AV.any, AV.any, AV.any, AV.any, AV.any, AV.any, AV.any, AV.any, AV.any, AV.any, AV.any] H
def B133_0 (K : AV → Heap → Prop) (N1 : AV → Heap → Prop) (v2 : AV) (v3 : AV) (v13 : AV) (v14 : AV) (v15 : AV) (H : Heap) : Prop :=
 binV tab .lss 3 v15 v14 fun v16 =>
 condV v16 (indexAddrV tab 148 v13 v15 fun v18 =>
 loadV tab 188 v18 H fun v19 =>
 allocV tab 188 H fun v6 H4 =>
 storeV tab 188 v6 v19 H4 fun H5 =>
 fieldAddrV tab 188 v6 0 fun v20 =>
 loadV tab 3 v20 H5 fun v21 =>
 binV tab .lss 3 v21 (AV.p (.int .i64 0)) fun v22 =>
 grdV v22 false (fieldAddrV tab 188 v6 0 fun v24 =>
 loadV tab 3 v24 H5 fun v25 =>
 fieldAddrV tab 35 v2 1 fun v26 =>
 loadV tab 3 v26 H5 fun v27 =>
 binV tab .geq 3 v25 v27 fun v28 =>
 grdV v28 false (binV tab .gtr 3 v15 (AV.p (.int .i64 0)) fun v32 =>
 grdV v32 true (fieldAddrV tab 150 v3 1 fun v34 =>
 loadV tab 148 v34 H5 fun v35 =>
 binV tab .sub 3 v15 (AV.p (.int .i64 1)) fun v37 =>
 indexAddrV tab 148 v35 v37 fun v38 =>
 fieldAddrV tab 188 v38 0 fun v39 =>
 loadV tab 3 v39 H5 fun v40 =>
 fieldAddrV tab 188 v6 0 fun v41 =>
 loadV tab 3 v41 H5 fun v42 =>
 binV tab .geq 3 v40 v42 fun v43 =>
 grdV v43 false (fieldAddrV tab 35 v2 0 fun v47 =>
 loadV tab 3 v47 H5 fun v48 =>
 fieldAddrV tab 35 v2 1 fun v49 =>
 loadV tab 3 v49 H5 fun v50 =>
 fieldAddrV tab 188 v6 1 fun v51 =>
 loadV tab 32 v51 H5 fun v52 =>
 CallT Tryz.prog 87 [v48, v50, v52, (AV.p (.int .i64 1))] H5 fun v53 H6 =>
 unV .not v53 fun v54 =>
 condV v54 (K (AV.p (.bool false)) H6)
 (binV tab .add 3 v15 (AV.p (.int .i64 1)) fun v56 =>
 N1 v56 H6))
 (K (AV.p (.bool false)) H5))
 (fieldAddrV tab 35 v2 0 fun v47 =>
 loadV tab 3 v47 H5 fun v48 =>
 fieldAddrV tab 35 v2 1 fun v49 =>
 loadV tab 3 v49 H5 fun v50 =>
 fieldAddrV tab 188 v6 1 fun v51 =>
 loadV tab 32 v51 H5 fun v52 =>
 CallT Tryz.prog 87 [v48, v50, v52, (AV.p (.int .i64 1))] H5 fun v53 H7 =>
 unV .not v53 fun v54 =>
 condV v54 (K (AV.p (.bool false)) H7)
 (binV tab .add 3 v15 (AV.p (.int .i64 1)) fun v56 =>
 N1 v56 H7)))
 (K (AV.p (.bool false)) H5))
 (K (AV.p (.bool false)) H5))
 (K (AV.p (.bool true)) H)
def W133 (v0 : AV) (v1 : AV) (H : Heap) (K : AV → Heap → Prop) : Prop :=
 boxV v0 H fun v2 H1 =>
 boxV v1 H1 fun v3 H2 =>
 loadV tab 35 v2 H2 fun v7 =>
 fieldAddrV tab 150 v3 0 fun v8 =>
 loadV tab 32 v8 H2 fun v9 =>
 CallT Tryz.prog 48 [v7, v9] H2 fun v10 H3 =>
 unV .not v10 fun v11 =>
 condV v11 (K (AV.p (.bool false)) H3)
 (fieldAddrV tab 150 v3 1 fun v12 =>
 loadV tab 148 v12 H3 fun v13 =>
 lenV tab 148 v13 fun v14 =>
 L133_0 K v2 v3 v13 v14 (AV.p (.int .i64 0)) H3)
theorem W133_wp (v0 : AV) (v1 : AV) (H : Heap) (K : AV → Heap → Prop) : wpC Tryz.prog tab D133 (bodyOf Tryz.f133) (retF tab [.tmp 4] K) (nthA [v0, v1]) H = W133 v0 v1 H K := by kernel_rfl
theorem W133_ok {v0 v1 : AV} {H : Heap} {K : AV → Heap → Prop} (h : W133 v0 v1 H K) : CallT Tryz.prog 133 [v0, v1] H K :=
  CallT.of_wp (D := D133) tab_ok mixed Tryz.func133 (c := bodyOf Tryz.f133) (by kernel_rfl) rfl (by kernel_rfl) (rs := #[.tmp 4]) rfl (by decide +kernel) (by kernel_rfl) (W133_wp v0 v1 H K) h
theorem W133_hb : HasBody Tryz.prog 133 := ⟨_, bodyOf Tryz.f133, Tryz.func133, by kernel_rfl, rfl⟩
theorem L133_0_rule {K : AV → Heap → Prop} {v2 v3 v13 v14 v15 : AV} {H : Heap} {σ : Type} (s0 : σ) (f15 : σ → AV) (TH : σ → Heap) (pre : σ → Prop) (μ : σ → Nat)
    (h0 : pre s0 ∧ AV.wk v15 (f15 s0) ∧ Heap.le (TH s0) H)
    (round : ∀ s, pre s → B133_0 K (fun w15 H' => ∃ s', pre s' ∧ μ s' < μ s ∧ AV.wk w15 (f15 s') ∧ Heap.le (TH s') H') v2 v3 v13 v14 (f15 s) (TH s)) :
    L133_0 K v2 v3 v13 v14 v15 H := by
  unfold L133_0
  exact LoopV.mk s0 (fun s => [f15 s]) TH pre μ (fun _ => rfl) (Eq.mp (by kernel_rfl) h0) (fun s hs => Eq.mp (by kernel_rfl) (round s hs))
theorem L133_0_ruleG {K : AV → Heap → Prop} {v2 v3 v13 v14 v15 : AV} {H : Heap} {σ : Type} (s0 : σ) (f15 : σ → AV) (TH : σ → Heap) (pre : σ → Prop) (μ : σ → Nat)
    (h0 : pre s0 ∧ AV.wk v15 (f15 s0) ∧ Heap.le (TH s0) H)
    (round : ∀ s, pre s → ∀ q, TH s q = none → B133_0 K (fun w15 H' => ∃ s', pre s' ∧ μ s' < μ s ∧ AV.wk w15 (f15 s') ∧ Heap.le (TH s') H') v2 v3 v13 v14 (f15 s) ((TH s).set q [])) :
    L133_0 K v2 v3 v13 v14 v15 H := by
  unfold L133_0
  exact LoopV.mkG s0 (fun s => [f15 s]) TH pre μ (fun _ => rfl) (Eq.mp (by kernel_rfl) h0) (fun s hs q hq => Eq.mp (by kernel_rfl) (round s hs q hq))
/-- loop.example/g00649/impl.operandsOfSaid -/
def D134 : Info := ⟨15, fun i => ([], []), fun i => ([], [])⟩
def J134_0 (K : AV → Heap → Prop) (v3 : AV) (v7 : AV) (H : Heap) : Prop :=
 condV v7 (K (AV.p (.int .i64 1)) H)
 (binV tab .eql 3 v3 (AV.p (.int .i64 5)) fun v11 =>
 condV v11 (condV v11 (K (AV.p (.int .i64 2)) H)
 (K (AV.p (.int .i64 (-1))) H))
 (binV tab .eql 3 v3 (AV.p (.int .i64 6)) fun v12 =>
 condV v12 (condV v12 (K (AV.p (.int .i64 2)) H)
 (K (AV.p (.int .i64 (-1))) H))
 (binV tab .eql 3 v3 (AV.p (.int .i64 7)) fun v13 =>
 condV v13 (condV v13 (K (AV.p (.int .i64 2)) H)
 (K (AV.p (.int .i64 (-1))) H))
 (binV tab .eql 3 v3 (AV.p (.int .i64 8)) fun v14 =>
 condV v14 (K (AV.p (.int .i64 2)) H)
 (K (AV.p (.int .i64 (-1))) H)))))
def J134_1 (K : AV → Heap → Prop) (v3 : AV) (v4 : AV) (H : Heap) : Prop :=
 condV v4 (K (AV.p (.int .i64 0)) H)
 (binV tab .eql 3 v3 (AV.p (.int .i64 3)) fun v8 =>
 condV v8 (J134_0 K v3 v8 H)
 (binV tab .eql 3 v3 (AV.p (.int .i64 4)) fun v9 =>
 J134_0 K v3 v9 H))
def W134 (v0 : AV) (H : Heap) (K : AV → Heap → Prop) : Prop :=
 binV tab .eql 3 v0 (AV.p (.int .i64 1)) fun v5 =>
 condV v5 (J134_1 K v0 v5 H)
 (binV tab .eql 3 v0 (AV.p (.int .i64 2)) fun v6 =>
 J134_1 K v0 v6 H)
theorem W134_wp (v0 : AV) (H : Heap) (K : AV → Heap → Prop) : wpC Tryz.prog tab D134 (bodyOf Tryz.f134) (retF tab [.tmp 2] K) (nthA [v0]) H = W134 v0 H K := by kernel_rfl
theorem W134_ok {v0 : AV} {H : Heap} {K : AV → Heap → Prop} (h : W134 v0 H K) : CallT Tryz.prog 134 [v0] H K :=
  CallT.of_wp (D := D134) tab_ok mixed Tryz.func134 (c := bodyOf Tryz.f134) (by kernel_rfl) rfl (by kernel_rfl) (rs := #[.tmp 2]) rfl (by decide +kernel) (by kernel_rfl) (W134_wp v0 H K) h
theorem W134_hb : HasBody Tryz.prog 134 := ⟨_, bodyOf Tryz.f134, Tryz.func134, by kernel_rfl, rfl⟩
/-- loop.example/g00649/impl.isSaid -/
def D135 : Info := ⟨34, fun i => ([], []), fun i => ([], [])⟩
def W135 (v0 : AV) (H : Heap) (K : AV → Heap → Prop) : Prop :=
 boxV v0 H fun v1 H1 =>
 fieldAddrV tab 106 v1 0 fun v3 =>
 loadV tab 3 v3 H1 fun v4 =>
 binV tab .eql 3 v4 (AV.p (.int .i64 1)) fun v6 =>
 condV v6 (fieldAddrV tab 106 v1 1 fun v7 =>
 loadV tab 3 v7 H1 fun v8 =>
 binV tab .geq 3 v8 (AV.p (.int .i64 0)) fun v9 =>
 grdV v9 true (fieldAddrV tab 106 v1 1 fun v11 =>
 loadV tab 3 v11 H1 fun v12 =>
 binV tab .lss 3 v12 (AV.p (.int .i64 3)) fun v13 =>
 K v13 H1)
 (K (AV.p (.bool false)) H1))
 (binV tab .eql 3 v4 (AV.p (.int .i64 2)) fun v16 =>
 condV v16 (fieldAddrV tab 106 v1 1 fun v17 =>
 loadV tab 3 v17 H1 fun v18 =>
 binV tab .eql 3 v18 (AV.p (.int .i64 0)) fun v19 =>
 grdV v19 false (fieldAddrV tab 106 v1 1 fun v21 =>
 loadV tab 3 v21 H1 fun v22 =>
 binV tab .eql 3 v22 (AV.p (.int .i64 1)) fun v23 =>
 K v23 H1)
 (K (AV.p (.bool true)) H1))
 (fieldAddrV tab 106 v1 0 fun v25 =>
 loadV tab 3 v25 H1 fun v26 =>
 CallT Tryz.prog 134 [v26] H1 fun v27 H2 =>
 binV tab .gtr 3 v27 (AV.p (.int .i64 0)) fun v28 =>
 grdV v28 true (fieldAddrV tab 106 v1 1 fun v30 =>
 loadV tab 3 v30 H2 fun v31 =>
 binV tab .eql 3 v31 (AV.p (.int .i64 0)) fun v32 =>
 K v32 H2)
 (K (AV.p (.bool false)) H2)))
theorem W135_wp (v0 : AV) (H : Heap) (K : AV → Heap → Prop) : wpC Tryz.prog tab D135 (bodyOf Tryz.f135) (retF tab [.tmp 2] K) (nthA [v0]) H = W135 v0 H K := by kernel_rfl
theorem W135_ok {v0 : AV} {H : Heap} {K : AV → Heap → Prop} (h : W135 v0 H K) : CallT Tryz.prog 135 [v0] H K :=
  CallT.of_wp (D := D135) tab_ok mixed Tryz.func135 (c := bodyOf Tryz.f135) (by kernel_rfl) rfl (by kernel_rfl) (rs := #[.tmp 2]) rfl (by decide +kernel) (by kernel_rfl) (W135_wp v0 H K) h
theorem W135_hb : HasBody Tryz.prog 135 := ⟨_, bodyOf Tryz.f135, Tryz.func135, by kernel_rfl, rfl⟩
/-- loop.example/g00649/impl.operandIndexes -/
def D136 : Info := ⟨38, fun i => ([], []), fun i => if i = 3 then ([10, 11], [3, 4, 12]) else ([], [])⟩
def L136_0 (K : AV → Heap → Prop) (v3 : AV) (v4 : AV) (v10 : AV) (v11 : AV) (v12 : AV) (H : Heap) : Prop := LoopV (wpC Tryz.prog tab D136 (cAt [1, 1, 0, 1, 0, 0] (bodyOf Tryz.f136))) [10, 11] (PostF.block 0 (PostF.thenA (wpC Tryz.prog tab D136 (cAt [1, 1, 1] (bodyOf Tryz.f136))) (retF tab [.tmp 2] K))) [3, 4, 12] [AV.any, AV.any, AV.any, v3, v4, AV.any, AV.any, AV.any, AV.any, AV.any, v10, v11, v12, AV.any, AV.any, AV.any, AV.any, AV.any, AV.any, AV.any, AV.any, AV.any, AV.any, AV.any, AV.any, AV.any, AV.any, AV.any, AV.any, AV.any, AV.any, AV.any, AV.any, AV.any, AV.any, AV.any, AV.any, AV.any] H
def B136_0 (K : AV → Heap → Prop) (N1 : AV → AV → AV → Heap → Prop) (v3 : AV) (v4 : AV) (v10 : AV) (v11 : AV) (v12 : AV) (H : Heap) : Prop :=
 binV tab .lss 3 v12 v11 fun v13 =>
 condV v13 (indexAddrV tab 37 v10 v12 fun v15 =>
 loadV tab 106 v15 H fun v16 =>
 allocV tab 106 H fun v6 H3 =>
 storeV tab 106 v6 v16 H3 fun H4 =>
 lenV tab 46 v4 fun v18 =>
 fieldAddrV tab 106 v6 0 fun v19 =>
 loadV tab 3 v19 H4 fun v20 =>
 CallT Tryz.prog 134 [v20] H4 fun v21 H5 =>
 binV tab .sub 3 v18 v21 fun v22 =>
 sliceV tab 46 v4 (some v22) none none fun v26 =>
 CallT Tryz.prog 169 [v26] H5 fun v27 H6 =>
 buildSliceV tab 60 1 [(0, v27)] H6 (wkK fun v28 H7 =>
 appendV tab 60 60 v3 v28 H7 (wkK fun v29 H8 =>
 sliceV tab 46 v4 none (some v22) none fun v32 =>
 buildSliceV tab 46 1 [(0, v12)] H8 (wkK fun v34 H9 =>
 appendV tab 46 46 v32 v34 H9 (wkK fun v35 H10 =>
 binV tab .add 3 v12 (AV.p (.int .i64 1)) fun v36 =>
 N1 v29 v35 v36 H10)))))
 (K v3 H)
def W136 (v0 : AV) (H : Heap) (K : AV → Heap → Prop) : Prop :=
 buildSliceV tab 60 0 [] H (wkK fun v8 H1 =>
 buildSliceV tab 46 0 [] H1 (wkK fun v9 H2 =>
 lenV tab 37 v0 fun v11 =>
 L136_0 K v8 v9 v0 v11 (AV.p (.int .i64 0)) H2))
theorem W136_wp (v0 : AV) (H : Heap) (K : AV → Heap → Prop) : wpC Tryz.prog tab D136 (bodyOf Tryz.f136) (retF tab [.tmp 2] K) (nthA [v0]) H = W136 v0 H K := by kernel_rfl
theorem W136_ok {v0 : AV} {H : Heap} {K : AV → Heap → Prop} (h : W136 v0 H K) : CallT Tryz.prog 136 [v0] H K :=
  CallT.of_wp (D := D136) tab_ok mixed Tryz.func136 (c := bodyOf Tryz.f136) (by kernel_rfl) rfl (by kernel_rfl) (rs := #[.tmp 2]) rfl (by decide +kernel) (by kernel_rfl) (W136_wp v0 H K) h
theorem W136_hb : HasBody Tryz.prog 136 := ⟨_, bodyOf Tryz.f136, Tryz.func136, by kernel_rfl, rfl⟩
theorem L136_0_rule {K : AV → Heap → Prop} {v3 v4 v10 v11 v12 : AV} {H : Heap} {σ : Type} (s0 : σ) (f3 : σ → AV) (f4 : σ → AV) (f12 : σ → AV) (TH : σ → Heap) (pre : σ → Prop) (μ : σ → Nat)
    (h0 : pre s0 ∧ AV.wk v3 (f3 s0) ∧ AV.wk v4 (f4 s0) ∧ AV.wk v12 (f12 s0) ∧ Heap.le (TH s0) H)
    (round : ∀ s, pre s → B136_0 K (fun w3 w4 w12 H' => ∃ s', pre s' ∧ μ s' < μ s ∧ AV.wk w3 (f3 s') ∧ AV.wk w4 (f4 s') ∧ AV.wk w12 (f12 s') ∧ Heap.le (TH s') H') (f3 s) (f4 s) v10 v11 (f12 s) (TH s)) :
    L136_0 K v3 v4 v10 v11 v12 H := by
  unfold L136_0
  exact LoopV.mk s0 (fun s => [f3 s, f4 s, f12 s]) TH pre μ (fun _ => rfl) (Eq.mp (by kernel_rfl) h0) (fun s hs => Eq.mp (by kernel_rfl) (round s hs))
theorem L136_0_ruleG {K : AV → Heap → Prop} {v3 v4 v10 v11 v12 : AV} {H : Heap} {σ : Type} (s0 : σ) (f3 : σ → AV) (f4 : σ → AV) (f12 : σ → AV) (TH : σ → Heap) (pre : σ → Prop) (μ : σ → Nat)
    (h0 : pre s0 ∧ AV.wk v3 (f3 s0) ∧ AV.wk v4 (f4 s0) ∧ AV.wk v12 (f12 s0) ∧ Heap.le (TH s0) H)
    (round : ∀ s, pre s → ∀ q, TH s q = none → B136_0 K (fun w3 w4 w12 H' => ∃ s', pre s' ∧ μ s' < μ s ∧ AV.wk w3 (f3 s') ∧ AV.wk w4 (f4 s') ∧ AV.wk w12 (f12 s') ∧ Heap.le (TH s') H') (f3 s) (f4 s) v10 v11 (f12 s) ((TH s).set q [])) :
    L136_0 K v3 v4 v10 v11 v12 H := by
  unfold L136_0
  exact LoopV.mkG s0 (fun s => [f3 s, f4 s, f12 s]) TH pre μ (fun _ => rfl) (Eq.mp (by kernel_rfl) h0) (fun s hs q hq => Eq.mp (by kernel_rfl) (round s hs q hq))
/-- loop.example/g00649/impl.GoodTerm -/
def D139 : Info := ⟨80, fun i => ([], []), fun i => if i = 5 then ([0, 1, 33, 34], [7, 35]) else ([], [])⟩
def L139_0 (K : AV → Heap → Prop) (v0 : AV) (v1 : AV) (v7 : AV) (v33 : AV) (v34 : AV) (v35 : AV) (H : Heap) : Prop := LoopV (wpC Tryz.prog tab D139 (cAt [1, 1, 1, 0, 1, 0, 0] (bodyOf Tryz.f139))) [0, 1, 33, 34] (PostF.block 0 (PostF.thenA (wpC Tryz.prog tab D139 (cAt [1, 1, 1, 1] (bodyOf Tryz.f139))) (retF tab [.tmp 6] K))) [7, 35] [v0, v1, AV.any, AV.any, AV.any, AV.any, AV.any, v7, AV.any, AV.any, AV.any, AV.any, AV.any, AV.any, AV.any, AV.any, AV.any, AV.any, AV.any, AV.any, AV.any, AV.any, AV.any, AV.any, AV.any, AV.any, AV.any, AV.any, AV.any, AV.any, AV.any, AV.any, AV.any, v33, v34, v35, AV.any, AV.any, AV.any, AV.any, AV.any, AV.any, AV.any, AV.any, AV.any, AV.any, AV.any, AV.any, AV.any, AV.any, AV.any, AV.any, AV.any, AV.any, AV.any, AV.any, AV.any, AV.any, AV.any, AV.any, AV.any, AV.any, AV.any, AV.any, AV.any, AV.any, AV.any, AV.any, AV.any, AV.any, AV.any, AV.any, AV.any, AV.any, AV.any, AV.any, AV.any, AV.any, AV.any, AV.any] H
def B139_0 (K : AV → Heap → Prop) (N1 : AV → AV → Heap → Prop) (v0 : AV) (v1 : AV) (v7 : AV) (v33 : AV) (v34 : AV) (v35 : AV) (H : Heap) : Prop :=
 binV tab .lss 3 v35 v34 fun v36 =>
 condV v36 (indexAddrV tab 32 v33 v35 fun v37 =>
 loadV tab 155 v37 H fun v38 =>
 allocV tab 155 H fun v9 H4 =>
 storeV tab 155 v9 v38 H4 fun H5 =>
 fieldAddrV tab 155 v9 0 fun v40 =>
 loadV tab 3 v40 H5 fun v41 =>
 CallT Tryz.prog 172 [v41] H5 fun v42 H6 =>
 extractV v42 0 fun v43 =>
 extractV v42 1 fun v44 =>
 extractV v42 2 fun v45 =>
 allocV tab 3 H6 fun v11 H7 =>
 storeV tab 3 v11 v44 H7 fun H8 =>
 lenV tab 46 v7 fun v47 =>
 binV tab .sub 3 v47 v43 fun v49 =>
 binV tab .eql 3 v45 (AV.p (.int .i64 0)) fun v51 =>
 grdV v51 false (loadV tab 155 v9 H8 fun v55 =>
 CallT Tryz.prog 173 [v0, v1, v55] H8 fun v56 H9 =>
 unV .not v56 fun v57 =>
 grdV v57 false (binV tab .lss 3 v49 (AV.p (.int .i64 0)) fun v61 =>
 grdV v61 false (sliceV tab 46 v7 (some v49) none none fun v66 =>
 CallT Tryz.prog 100 [v66, (.fn 174 [v11])] H9 fun v68 H10 =>
 condV v68 (K (AV.p (.bool false)) H10)
 (sliceV tab 46 v7 none (some v49) none fun v72 =>
 buildSliceV tab 46 1 [(0, v45)] H10 (wkK fun v74 H11 =>
 appendV tab 46 46 v72 v74 H11 (wkK fun v75 H12 =>
 binV tab .add 3 v35 (AV.p (.int .i64 1)) fun v76 =>
 N1 v75 v76 H12))))
 (K (AV.p (.bool false)) H9))
 (K (AV.p (.bool false)) H9))
 (K (AV.p (.bool false)) H8))
 (lenV tab 46 v7 fun v78 =>
 binV tab .eql 3 v78 (AV.p (.int .i64 1)) fun v79 =>
 K v79 H)
def W139 (v0 : AV) (v1 : AV) (v2 : AV) (H : Heap) (K : AV → Heap → Prop) : Prop :=
 CallT Tryz.prog 129 [v0] H fun v15 H1 =>
 unV .not v15 fun v16 =>
 grdV v16 false (CallT Tryz.prog 130 [v1] H1 fun v19 H2 =>
 unV .not v19 fun v20 =>
 grdV v20 false (lenV tab 32 v2 fun v24 =>
 binV tab .lss 3 v24 (AV.p (.int .i64 1)) fun v25 =>
 grdV v25 false (lenV tab 32 v2 fun v29 =>
 binV tab .gtr 3 v29 (AV.p (.int .i64 48)) fun v30 =>
 condV v30 (K (AV.p (.bool false)) H2)
 (buildSliceV tab 46 0 [] H2 (wkK fun v32 H3 =>
 lenV tab 32 v2 fun v34 =>
 L139_0 K v0 v1 v32 v2 v34 (AV.p (.int .i64 0)) H3)))
 (K (AV.p (.bool false)) H2))
 (K (AV.p (.bool false)) H2))
 (K (AV.p (.bool false)) H1)
theorem W139_wp (v0 : AV) (v1 : AV) (v2 : AV) (H : Heap) (K : AV → Heap → Prop) : wpC Tryz.prog tab D139 (bodyOf Tryz.f139) (retF tab [.tmp 6] K) (nthA [v0, v1, v2]) H = W139 v0 v1 v2 H K := by kernel_rfl
theorem W139_ok {v0 v1 v2 : AV} {H : Heap} {K : AV → Heap → Prop} (h : W139 v0 v1 v2 H K) : CallT Tryz.prog 139 [v0, v1, v2] H K :=
  CallT.of_wp (D := D139) tab_ok mixed Tryz.func139 (c := bodyOf Tryz.f139) (by kernel_rfl) rfl (by kernel_rfl) (rs := #[.tmp 6]) rfl (by decide +kernel) (by kernel_rfl) (W139_wp v0 v1 v2 H K) h
theorem W139_hb : HasBody Tryz.prog 139 := ⟨_, bodyOf Tryz.f139, Tryz.func139, by kernel_rfl, rfl⟩
theorem L139_0_rule {K : AV → Heap → Prop} {v0 v1 v7 v33 v34 v35 : AV} {H : Heap} {σ : Type} (s0 : σ) (f7 : σ → AV) (f35 : σ → AV) (TH : σ → Heap) (pre : σ → Prop) (μ : σ → Nat)
    (h0 : pre s0 ∧ AV.wk v7 (f7 s0) ∧ AV.wk v35 (f35 s0) ∧ Heap.le (TH s0) H)
    (round : ∀ s, pre s → B139_0 K (fun w7 w35 H' => ∃ s', pre s' ∧ μ s' < μ s ∧ AV.wk w7 (f7 s') ∧ AV.wk w35 (f35 s') ∧ Heap.le (TH s') H') v0 v1 (f7 s) v33 v34 (f35 s) (TH s)) :
    L139_0 K v0 v1 v7 v33 v34 v35 H := by
  unfold L139_0
  exact LoopV.mk s0 (fun s => [f7 s, f35 s]) TH pre μ (fun _ => rfl) (Eq.mp (by kernel_rfl) h0) (fun s hs => Eq.mp (by kernel_rfl) (round s hs))
theorem L139_0_ruleG {K : AV → Heap → Prop} {v0 v1 v7 v33 v34 v35 : AV} {H : Heap} {σ : Type} (s0 : σ) (f7 : σ → AV) (f35 : σ → AV) (TH : σ → Heap) (pre : σ → Prop) (μ : σ → Nat)
    (h0 : pre s0 ∧ AV.wk v7 (f7 s0) ∧ AV.wk v35 (f35 s0) ∧ Heap.le (TH s0) H)
    (round : ∀ s, pre s → ∀ q, TH s q = none → B139_0 K (fun w7 w35 H' => ∃ s', pre s' ∧ μ s' < μ s ∧ AV.wk w7 (f7 s') ∧ AV.wk w35 (f35 s') ∧ Heap.le (TH s') H') v0 v1 (f7 s) v33 v34 (f35 s) ((TH s).set q [])) :
    L139_0 K v0 v1 v7 v33 v34 v35 H := by
  unfold L139_0
  exact LoopV.mkG s0 (fun s => [f7 s, f35 s]) TH pre μ (fun _ => rfl) (Eq.mp (by kernel_rfl) h0) (fun s hs q hq => Eq.mp (by kernel_rfl) (round s hs q hq))
/-- loop.example/g00649/impl.kindOf -/
def D140 : Info := ⟨19, fun i => ([], []), fun i => ([], [])⟩
def W140 (v0 : AV) (H : Heap) (K : AV → Heap → Prop) : Prop :=
 lenV tab 32 v0 fun v9 =>
 binV tab .sub 3 v9 (AV.p (.int .i64 1)) fun v10 =>
 indexAddrV tab 32 v0 v10 fun v11 =>
 fieldAddrV tab 155 v11 0 fun v12 =>
 loadV tab 3 v12 H fun v13 =>
 CallT Tryz.prog 172 [v13] H fun v14 H1 =>
 extractV v14 0 fun v15 =>
 extractV v14 1 fun v16 =>
 extractV v14 2 fun v17 =>
 K v17 H1
theorem W140_wp (v0 : AV) (H : Heap) (K : AV → Heap → Prop) : wpC Tryz.prog tab D140 (bodyOf Tryz.f140) (retF tab [.tmp 2] K) (nthA [v0]) H = W140 v0 H K := by kernel_rfl
theorem W140_ok {v0 : AV} {H : Heap} {K : AV → Heap → Prop} (h : W140 v0 H K) : CallT Tryz.prog 140 [v0] H K :=
  CallT.of_wp (D := D140) tab_ok mixed Tryz.func140 (c := bodyOf Tryz.f140) (by kernel_rfl) rfl (by kernel_rfl) (rs := #[.tmp 2]) rfl (by decide +kernel) (by kernel_rfl) (W140_wp v0 H K) h
theorem W140_hb : HasBody Tryz.prog 140 := ⟨_, bodyOf Tryz.f140, Tryz.func140, by kernel_rfl, rfl⟩
/-- loop.example/g00649/laws.eqNode -/
def D141 : Info := ⟨15, fun i => ([], []), fun i => ([], [])⟩
def W141 (v0 : AV) (v1 : AV) (H : Heap) (K : AV → Heap → Prop) : Prop :=
 boxV v0 H fun v2 H1 =>
 boxV v1 H1 fun v3 H2 =>
 fieldAddrV tab 155 v2 0 fun v5 =>
 loadV tab 3 v5 H2 fun v6 =>
 fieldAddrV tab 155 v3 0 fun v7 =>
 loadV tab 3 v7 H2 fun v8 =>
 binV tab .neq 3 v6 v8 fun v9 =>
 condV v9 (K (AV.p (.bool false)) H2)
 (fieldAddrV tab 155 v2 1 fun v10 =>
 loadV tab 153 v10 H2 fun v11 =>
 fieldAddrV tab 155 v3 1 fun v12 =>
 loadV tab 153 v12 H2 fun v13 =>
 binV tab .neq 153 v11 v13 fun v14 =>
 condV v14 (K (AV.p (.bool false)) H2)
 (K (AV.p (.bool true)) H2))
theorem W141_wp (v0 : AV) (v1 : AV) (H : Heap) (K : AV → Heap → Prop) : wpC Tryz.prog tab D141 (bodyOf Tryz.f141) (retF tab [.tmp 4] K) (nthA [v0, v1]) H = W141 v0 v1 H K := by kernel_rfl
theorem W141_ok {v0 v1 : AV} {H : Heap} {K : AV → Heap → Prop} (h : W141 v0 v1 H K) : CallT Tryz.prog 141 [v0, v1] H K :=
  CallT.of_wp (D := D141) tab_ok mixed Tryz.func141 (c := bodyOf Tryz.f141) (by kernel_rfl) rfl (by kernel_rfl) (rs := #[.tmp 4]) rfl (by decide +kernel) (by kernel_rfl) (W141_wp v0 v1 H K) h
theorem W141_hb : HasBody Tryz.prog 141 := ⟨_, bodyOf Tryz.f141, Tryz.func141, by kernel_rfl, rfl⟩
/-- loop.example/g00649/laws.eqCommand -/
def D142 : Info := ⟨17, fun i => ([], []), fun i => ([], [])⟩
def W142 (v0 : AV) (v1 : AV) (H : Heap) (K : AV → Heap → Prop) : Prop :=
 boxV v0 H fun v2 H1 =>
 boxV v1 H1 fun v3 H2 =>
 fieldAddrV tab 150 v2 0 fun v5 =>
 loadV tab 32 v5 H2 fun v6 =>
 fieldAddrV tab 150 v3 0 fun v7 =>
 loadV tab 32 v7 H2 fun v8 =>
 CallT Tryz.prog 88 [v6, v8] H2 fun v9 H3 =>
 unV .not v9 fun v10 =>
 condV v10 (K (AV.p (.bool false)) H3)
 (fieldAddrV tab 150 v2 1 fun v11 =>
 loadV tab 148 v11 H3 fun v12 =>
 fieldAddrV tab 150 v3 1 fun v13 =>
 loadV tab 148 v13 H3 fun v14 =>
 CallT Tryz.prog 175 [v12, v14] H3 fun v15 H4 =>
 unV .not v15 fun v16 =>
 condV v16 (K (AV.p (.bool false)) H4)
 (K (AV.p (.bool true)) H4))
theorem W142_wp (v0 : AV) (v1 : AV) (H : Heap) (K : AV → Heap → Prop) : wpC Tryz.prog tab D142 (bodyOf Tryz.f142) (retF tab [.tmp 4] K) (nthA [v0, v1]) H = W142 v0 v1 H K := by kernel_rfl
theorem W142_ok {v0 v1 : AV} {H : Heap} {K : AV → Heap → Prop} (h : W142 v0 v1 H K) : CallT Tryz.prog 142 [v0, v1] H K :=
  CallT.of_wp (D := D142) tab_ok mixed Tryz.func142 (c := bodyOf Tryz.f142) (by kernel_rfl) rfl (by kernel_rfl) (rs := #[.tmp 4]) rfl (by decide +kernel) (by kernel_rfl) (W142_wp v0 v1 H K) h
theorem W142_hb : HasBody Tryz.prog 142 := ⟨_, bodyOf Tryz.f142, Tryz.func142, by kernel_rfl, rfl⟩
/-- loop.example/g00649/impl.mask -/
def D144 : Info := ⟨6, fun i => ([], []), fun i => ([], [])⟩
def W144 (v0 : AV) (H : Heap) (K : AV → Heap → Prop) : Prop :=
 binV tab .sub 3 (AV.p (.int .i64 64)) v0 fun v4 =>
 binV tab .shr 153 (AV.p (.int .u64 18446744073709551615)) v4 fun v5 =>
 K v5 H
theorem W144_wp (v0 : AV) (H : Heap) (K : AV → Heap → Prop) : wpC Tryz.prog tab D144 (bodyOf Tryz.f144) (retF tab [.tmp 2] K) (nthA [v0]) H = W144 v0 H K := by kernel_rfl
theorem W144_ok {v0 : AV} {H : Heap} {K : AV → Heap → Prop} (h : W144 v0 H K) : CallT Tryz.prog 144 [v0] H K :=
  CallT.of_wp (D := D144) tab_ok mixed Tryz.func144 (c := bodyOf Tryz.f144) (by kernel_rfl) rfl (by kernel_rfl) (rs := #[.tmp 2]) rfl (by decide +kernel) (by kernel_rfl) (W144_wp v0 H K) h
theorem W144_hb : HasBody Tryz.prog 144 := ⟨_, bodyOf Tryz.f144, Tryz.func144, by kernel_rfl, rfl⟩
/-- slices.IndexFunc[[]int,int] -/
def D150 : Info := ⟨19, fun i => ([], []), fun i => if i = 2 then ([0, 1, 7], [8]) else ([], [])⟩
def L150_0 (K : AV → Heap → Prop) (v0 : AV) (v1 : AV) (v7 : AV) (v8 : AV) (H : Heap) : Prop := LoopV (wpC Tryz.prog tab D150 (cAt [1, 0, 1, 0, 0] (bodyOf Tryz.f150))) [0, 1, 7] (PostF.block 0 (PostF.thenA (wpC Tryz.prog tab D150 (cAt [1, 1] (bodyOf Tryz.f150))) (retF tab [.tmp 4] K))) [8] [v0, v1, AV.any, AV.any, AV.any, AV.any, AV.any, v7, v8, AV.any, AV.any, AV.any, AV.any, AV.any, AV.any, AV.any, AV.any, AV.any, AV.any] H
def B150_0 (K : AV → Heap → Prop) (N1 : AV → Heap → Prop) (v0 : AV) (v1 : AV) (v7 : AV) (v8 : AV) (H : Heap) : Prop :=
 binV tab .lss 3 v8 v7 fun v9 =>
 condV v9 (indexAddrV tab 46 v0 v8 fun v14 =>
 loadV tab 3 v14 H fun v15 =>
 callF Tryz.prog v1 [v15] H fun v16 H1 =>
 condV v16 (K v8 H1)
 (binV tab .add 3 v8 (AV.p (.int .i64 1)) fun v18 =>
 N1 v18 H1))
 (K (AV.p (.int .i64 (-1))) H)
def W150 (v0 : AV) (v1 : AV) (H : Heap) (K : AV → Heap → Prop) : Prop :=
 lenV tab 46 v0 fun v7 =>
 L150_0 K v0 v1 v7 (AV.p (.int .i64 0)) H
theorem W150_wp (v0 : AV) (v1 : AV) (H : Heap) (K : AV → Heap → Prop) : wpC Tryz.prog tab D150 (bodyOf Tryz.f150) (retF tab [.tmp 4] K) (nthA [v0, v1]) H = W150 v0 v1 H K := by kernel_rfl
theorem W150_ok {v0 v1 : AV} {H : Heap} {K : AV → Heap → Prop} (h : W150 v0 v1 H K) : CallT Tryz.prog 150 [v0, v1] H K :=
  CallT.of_wp (D := D150) tab_ok mixed Tryz.func150 (c := bodyOf Tryz.f150) (by kernel_rfl) rfl (by kernel_rfl) (rs := #[.tmp 4]) rfl (by decide +kernel) (by kernel_rfl) (W150_wp v0 v1 H K) h
theorem W150_hb : HasBody Tryz.prog 150 := ⟨_, bodyOf Tryz.f150, Tryz.func150, by kernel_rfl, rfl⟩
theorem L150_0_rule {K : AV → Heap → Prop} {v0 v1 v7 v8 : AV} {H : Heap} {σ : Type} (s0 : σ) (f8 : σ → AV) (TH : σ → Heap) (pre : σ → Prop) (μ : σ → Nat)
    (h0 : pre s0 ∧ AV.wk v8 (f8 s0) ∧ Heap.le (TH s0) H)
    (round : ∀ s, pre s → B150_0 K (fun w8 H' => ∃ s', pre s' ∧ μ s' < μ s ∧ AV.wk w8 (f8 s') ∧ Heap.le (TH s') H') v0 v1 v7 (f8 s) (TH s)) :
    L150_0 K v0 v1 v7 v8 H := by
  unfold L150_0
  exact LoopV.mk s0 (fun s => [f8 s]) TH pre μ (fun _ => rfl) (Eq.mp (by kernel_rfl) h0) (fun s hs => Eq.mp (by kernel_rfl) (round s hs))
theorem L150_0_ruleG {K : AV → Heap → Prop} {v0 v1 v7 v8 : AV} {H : Heap} {σ : Type} (s0 : σ) (f8 : σ → AV) (TH : σ → Heap) (pre : σ → Prop) (μ : σ → Nat)
    (h0 : pre s0 ∧ AV.wk v8 (f8 s0) ∧ Heap.le (TH s0) H)
    (round : ∀ s, pre s → ∀ q, TH s q = none → B150_0 K (fun w8 H' => ∃ s', pre s' ∧ μ s' < μ s ∧ AV.wk w8 (f8 s') ∧ Heap.le (TH s') H') v0 v1 v7 (f8 s) ((TH s).set q [])) :
    L150_0 K v0 v1 v7 v8 H := by
  unfold L150_0
  exact LoopV.mkG s0 (fun s => [f8 s]) TH pre μ (fun _ => rfl) (Eq.mp (by kernel_rfl) h0) (fun s hs q hq => Eq.mp (by kernel_rfl) (round s hs q hq))
/-- loop.example/g00649/laws.szChangeS -/
def D165 : Info := ⟨27, fun i => ([], []), fun i => if i = 5 then ([0], [1, 5]) else ([], [])⟩
def L165_0 (K : AV → Heap → Prop) (v0 : AV) (v1 : AV) (v5 : AV) (H : Heap) : Prop := LoopV (wpC Tryz.prog tab D165 (cAt [1, 1, 1, 0, 1, 0, 0] (bodyOf Tryz.f165))) [0] (PostF.block 0 (PostF.thenA (wpC Tryz.prog tab D165 (cAt [1, 1, 1, 1] (bodyOf Tryz.f165))) (retF tab [.tmp 4] K))) [1, 5] [v0, v1, AV.any, AV.any, AV.any, v5, AV.any, AV.any, AV.any, AV.any, AV.any, AV.any, AV.any, AV.any, AV.any, AV.any, AV.any, AV.any, AV.any, AV.any, AV.any, AV.any, AV.any, AV.any, AV.any, AV.any, AV.any] H
def B165_0 (K : AV → Heap → Prop) (N1 : AV → AV → Heap → Prop) (v0 : AV) (v1 : AV) (v5 : AV) (H : Heap) : Prop :=
 lenV tab 145 v0 fun v14 =>
 binV tab .lss 3 v5 v14 fun v15 =>
 condV v15 (indexAddrV tab 145 v0 v5 fun v20 =>
 loadV tab 201 v20 H fun v21 =>
 CallT Tryz.prog 183 [v21, v1] H fun v23 H1 =>
 binV tab .lss 3 v23 (AV.p (.int .i64 0)) fun v25 =>
 condV v25 (K (AV.p (.int .i64 (-1))) H1)
 (binV tab .add 3 v5 (AV.p (.int .i64 1)) fun v17 =>
 N1 v23 v17 H1))
 (K v1 H)
def W165 (v0 : AV) (v1 : AV) (H : Heap) (K : AV → Heap → Prop) : Prop :=
 lenV tab 145 v0 fun v8 =>
 binV tab .sub 3 v1 v8 fun v9 =>
 binV tab .lss 3 v9 (AV.p (.int .i64 0)) fun v11 =>
 condV v11 (K (AV.p (.int .i64 (-1))) H)
 (L165_0 K v0 v9 (AV.p (.int .i64 0)) H)
theorem W165_wp (v0 : AV) (v1 : AV) (H : Heap) (K : AV → Heap → Prop) : wpC Tryz.prog tab D165 (bodyOf Tryz.f165) (retF tab [.tmp 4] K) (nthA [v0, v1]) H = W165 v0 v1 H K := by kernel_rfl
theorem W165_ok {v0 v1 : AV} {H : Heap} {K : AV → Heap → Prop} (h : W165 v0 v1 H K) : CallT Tryz.prog 165 [v0, v1] H K :=
  CallT.of_wp (D := D165) tab_ok mixed Tryz.func165 (c := bodyOf Tryz.f165) (by kernel_rfl) rfl (by kernel_rfl) (rs := #[.tmp 4]) rfl (by decide +kernel) (by kernel_rfl) (W165_wp v0 v1 H K) h
theorem W165_hb : HasBody Tryz.prog 165 := ⟨_, bodyOf Tryz.f165, Tryz.func165, by kernel_rfl, rfl⟩
theorem L165_0_rule {K : AV → Heap → Prop} {v0 v1 v5 : AV} {H : Heap} {σ : Type} (s0 : σ) (f1 : σ → AV) (f5 : σ → AV) (TH : σ → Heap) (pre : σ → Prop) (μ : σ → Nat)
    (h0 : pre s0 ∧ AV.wk v1 (f1 s0) ∧ AV.wk v5 (f5 s0) ∧ Heap.le (TH s0) H)
    (round : ∀ s, pre s → B165_0 K (fun w1 w5 H' => ∃ s', pre s' ∧ μ s' < μ s ∧ AV.wk w1 (f1 s') ∧ AV.wk w5 (f5 s') ∧ Heap.le (TH s') H') v0 (f1 s) (f5 s) (TH s)) :
    L165_0 K v0 v1 v5 H := by
  unfold L165_0
  exact LoopV.mk s0 (fun s => [f1 s, f5 s]) TH pre μ (fun _ => rfl) (Eq.mp (by kernel_rfl) h0) (fun s hs => Eq.mp (by kernel_rfl) (round s hs))
theorem L165_0_ruleG {K : AV → Heap → Prop} {v0 v1 v5 : AV} {H : Heap} {σ : Type} (s0 : σ) (f1 : σ → AV) (f5 : σ → AV) (TH : σ → Heap) (pre : σ → Prop) (μ : σ → Nat)
    (h0 : pre s0 ∧ AV.wk v1 (f1 s0) ∧ AV.wk v5 (f5 s0) ∧ Heap.le (TH s0) H)
    (round : ∀ s, pre s → ∀ q, TH s q = none → B165_0 K (fun w1 w5 H' => ∃ s', pre s' ∧ μ s' < μ s ∧ AV.wk w1 (f1 s') ∧ AV.wk w5 (f5 s') ∧ Heap.le (TH s') H') v0 (f1 s) (f5 s) ((TH s).set q [])) :
    L165_0 K v0 v1 v5 H := by
  unfold L165_0
  exact LoopV.mkG s0 (fun s => [f1 s, f5 s]) TH pre μ (fun _ => rfl) (Eq.mp (by kernel_rfl) h0) (fun s hs q hq => Eq.mp (by kernel_rfl) (round s hs q hq))
/-- loop.example/g00649/spec.GoodWord -/
def D166 : Info := ⟨14, fun i => ([], []), fun i => ([], [])⟩
def W166 (v0 : AV) (v1 : AV) (H : Heap) (K : AV → Heap → Prop) : Prop :=
 CallT Tryz.prog 124 [v0] H fun v6 H1 =>
 grdV v6 true (CallT Tryz.prog 176 [v0, v1] H1 fun v10 H2 =>
 binV tab .eql 153 v10 v1 fun v12 =>
 K v12 H2)
 (K (AV.p (.bool false)) H1)
theorem W166_wp (v0 : AV) (v1 : AV) (H : Heap) (K : AV → Heap → Prop) : wpC Tryz.prog tab D166 (bodyOf Tryz.f166) (retF tab [.tmp 4] K) (nthA [v0, v1]) H = W166 v0 v1 H K := by kernel_rfl
theorem W166_ok {v0 v1 : AV} {H : Heap} {K : AV → Heap → Prop} (h : W166 v0 v1 H K) : CallT Tryz.prog 166 [v0, v1] H K :=
  CallT.of_wp (D := D166) tab_ok mixed Tryz.func166 (c := bodyOf Tryz.f166) (by kernel_rfl) rfl (by kernel_rfl) (rs := #[.tmp 4]) rfl (by decide +kernel) (by kernel_rfl) (W166_wp v0 v1 H K) h
theorem W166_hb : HasBody Tryz.prog 166 := ⟨_, bodyOf Tryz.f166, Tryz.func166, by kernel_rfl, rfl⟩
/-- loop.example/g00649/laws.toChangeS -/
def D167 : Info := ⟨23, fun i => ([], []), fun i => if i = 3 then ([0, 3], [4]) else ([], [])⟩
def L167_0 (K : AV → Heap → Prop) (v0 : AV) (v3 : AV) (v4 : AV) (H : Heap) : Prop := LoopV (wpC Tryz.prog tab D167 (cAt [1, 1, 0, 1, 0, 0] (bodyOf Tryz.f167))) [0, 3] (PostF.block 0 (PostF.thenA (wpC Tryz.prog tab D167 (cAt [1, 1, 1] (bodyOf Tryz.f167))) (retF tab [.tmp 2] K))) [4] [v0, AV.any, AV.any, v3, v4, AV.any, AV.any, AV.any, AV.any, AV.any, AV.any, AV.any, AV.any, AV.any, AV.any, AV.any, AV.any, AV.any, AV.any, AV.any, AV.any, AV.any, AV.any] H
def B167_0 (K : AV → Heap → Prop) (N1 : AV → Heap → Prop) (v0 : AV) (v3 : AV) (v4 : AV) (H : Heap) : Prop :=
 lenV tab 145 v0 fun v10 =>
 binV tab .lss 3 v4 v10 fun v11 =>
 condV v11 (indexAddrV tab 145 v0 v4 fun v18 =>
 loadV tab 201 v18 H fun v19 =>
 CallT Tryz.prog 184 [v19] H fun v20 H2 =>
 indexAddrV tab 148 v3 v4 fun v21 =>
 storeV tab 188 v21 v20 H2 fun H3 =>
 binV tab .add 3 v4 (AV.p (.int .i64 1)) fun v13 =>
 N1 v13 H3)
 (K v3 H)
def W167 (v0 : AV) (H : Heap) (K : AV → Heap → Prop) : Prop :=
 lenV tab 145 v0 fun v6 =>
 makeSliceV tab 148 v6 v6 H fun v7 H1 =>
 L167_0 K v0 v7 (AV.p (.int .i64 0)) H1
theorem W167_wp (v0 : AV) (H : Heap) (K : AV → Heap → Prop) : wpC Tryz.prog tab D167 (bodyOf Tryz.f167) (retF tab [.tmp 2] K) (nthA [v0]) H = W167 v0 H K := by kernel_rfl
theorem W167_ok {v0 : AV} {H : Heap} {K : AV → Heap → Prop} (h : W167 v0 H K) : CallT Tryz.prog 167 [v0] H K :=
  CallT.of_wp (D := D167) tab_ok mixed Tryz.func167 (c := bodyOf Tryz.f167) (by kernel_rfl) rfl (by kernel_rfl) (rs := #[.tmp 2]) rfl (by decide +kernel) (by kernel_rfl) (W167_wp v0 H K) h
theorem W167_hb : HasBody Tryz.prog 167 := ⟨_, bodyOf Tryz.f167, Tryz.func167, by kernel_rfl, rfl⟩
theorem L167_0_rule {K : AV → Heap → Prop} {v0 v3 v4 : AV} {H : Heap} {σ : Type} (s0 : σ) (f4 : σ → AV) (TH : σ → Heap) (pre : σ → Prop) (μ : σ → Nat)
    (h0 : pre s0 ∧ AV.wk v4 (f4 s0) ∧ Heap.le (TH s0) H)
    (round : ∀ s, pre s → B167_0 K (fun w4 H' => ∃ s', pre s' ∧ μ s' < μ s ∧ AV.wk w4 (f4 s') ∧ Heap.le (TH s') H') v0 v3 (f4 s) (TH s)) :
    L167_0 K v0 v3 v4 H := by
  unfold L167_0
  exact LoopV.mk s0 (fun s => [f4 s]) TH pre μ (fun _ => rfl) (Eq.mp (by kernel_rfl) h0) (fun s hs => Eq.mp (by kernel_rfl) (round s hs))
theorem L167_0_ruleG {K : AV → Heap → Prop} {v0 v3 v4 : AV} {H : Heap} {σ : Type} (s0 : σ) (f4 : σ → AV) (TH : σ → Heap) (pre : σ → Prop) (μ : σ → Nat)
    (h0 : pre s0 ∧ AV.wk v4 (f4 s0) ∧ Heap.le (TH s0) H)
    (round : ∀ s, pre s → ∀ q, TH s q = none → B167_0 K (fun w4 H' => ∃ s', pre s' ∧ μ s' < μ s ∧ AV.wk w4 (f4 s') ∧ Heap.le (TH s') H') v0 v3 (f4 s) ((TH s).set q [])) :
    L167_0 K v0 v3 v4 H := by
  unfold L167_0
  exact LoopV.mkG s0 (fun s => [f4 s]) TH pre μ (fun _ => rfl) (Eq.mp (by kernel_rfl) h0) (fun s hs q hq => Eq.mp (by kernel_rfl) (round s hs q hq))
/-- slices.IndexFunc[[]loop.example/g00649/impl.Command,loop.example/g00649/impl.Command] -/
def D168 : Info := ⟨19, fun i => ([], []), fun i => if i = 2 then ([0, 1, 7], [8]) else ([], [])⟩
def L168_0 (K : AV → Heap → Prop) (v0 : AV) (v1 : AV) (v7 : AV) (v8 : AV) (H : Heap) : Prop := LoopV (wpC Tryz.prog tab D168 (cAt [1, 0, 1, 0, 0] (bodyOf Tryz.f168))) [0, 1, 7] (PostF.block 0 (PostF.thenA (wpC Tryz.prog tab D168 (cAt [1, 1] (bodyOf Tryz.f168))) (retF tab [.tmp 4] K))) [8] [v0, v1, AV.any, AV.any, AV.any, AV.any, AV.any, v7, v8, AV.any, AV.any, AV.any, AV.any, AV.any, AV.any, AV.any, AV.any, AV.any, AV.any] H
def B168_0 (K : AV → Heap → Prop) (N1 : AV → Heap → Prop) (v0 : AV) (v1 : AV) (v7 : AV) (v8 : AV) (H : Heap) : Prop :=
 binV tab .lss 3 v8 v7 fun v9 =>
 condV v9 (indexAddrV tab 33 v0 v8 fun v14 =>
 loadV tab 150 v14 H fun v15 =>
 callF Tryz.prog v1 [v15] H fun v16 H1 =>
 condV v16 (K v8 H1)
 (binV tab .add 3 v8 (AV.p (.int .i64 1)) fun v18 =>
 N1 v18 H1))
 (K (AV.p (.int .i64 (-1))) H)
def W168 (v0 : AV) (v1 : AV) (H : Heap) (K : AV → Heap → Prop) : Prop :=
 lenV tab 33 v0 fun v7 =>
 L168_0 K v0 v1 v7 (AV.p (.int .i64 0)) H
theorem W168_wp (v0 : AV) (v1 : AV) (H : Heap) (K : AV → Heap → Prop) : wpC Tryz.prog tab D168 (bodyOf Tryz.f168) (retF tab [.tmp 4] K) (nthA [v0, v1]) H = W168 v0 v1 H K := by kernel_rfl
theorem W168_ok {v0 v1 : AV} {H : Heap} {K : AV → Heap → Prop} (h : W168 v0 v1 H K) : CallT Tryz.prog 168 [v0, v1] H K :=
  CallT.of_wp (D := D168) tab_ok mixed Tryz.func168 (c := bodyOf Tryz.f168) (by kernel_rfl) rfl (by kernel_rfl) (rs := #[.tmp 4]) rfl (by decide +kernel) (by kernel_rfl) (W168_wp v0 v1 H K) h
theorem W168_hb : HasBody Tryz.prog 168 := ⟨_, bodyOf Tryz.f168, Tryz.func168, by kernel_rfl, rfl⟩
theorem L168_0_rule {K : AV → Heap → Prop} {v0 v1 v7 v8 : AV} {H : Heap} {σ : Type} (s0 : σ) (f8 : σ → AV) (TH : σ → Heap) (pre : σ → Prop) (μ : σ → Nat)
    (h0 : pre s0 ∧ AV.wk v8 (f8 s0) ∧ Heap.le (TH s0) H)
    (round : ∀ s, pre s → B168_0 K (fun w8 H' => ∃ s', pre s' ∧ μ s' < μ s ∧ AV.wk w8 (f8 s') ∧ Heap.le (TH s') H') v0 v1 v7 (f8 s) (TH s)) :
    L168_0 K v0 v1 v7 v8 H := by
  unfold L168_0
  exact LoopV.mk s0 (fun s => [f8 s]) TH pre μ (fun _ => rfl) (Eq.mp (by kernel_rfl) h0) (fun s hs => Eq.mp (by kernel_rfl) (round s hs))
theorem L168_0_ruleG {K : AV → Heap → Prop} {v0 v1 v7 v8 : AV} {H : Heap} {σ : Type} (s0 : σ) (f8 : σ → AV) (TH : σ → Heap) (pre : σ → Prop) (μ : σ → Nat)
    (h0 : pre s0 ∧ AV.wk v8 (f8 s0) ∧ Heap.le (TH s0) H)
    (round : ∀ s, pre s → ∀ q, TH s q = none → B168_0 K (fun w8 H' => ∃ s', pre s' ∧ μ s' < μ s ∧ AV.wk w8 (f8 s') ∧ Heap.le (TH s') H') v0 v1 v7 (f8 s) ((TH s).set q [])) :
    L168_0 K v0 v1 v7 v8 H := by
  unfold L168_0
  exact LoopV.mkG s0 (fun s => [f8 s]) TH pre μ (fun _ => rfl) (Eq.mp (by kernel_rfl) h0) (fun s hs q hq => Eq.mp (by kernel_rfl) (round s hs q hq))
/-- slices.Clone[[]int,int] -/
def D169 : Info := ⟨8, fun i => ([], []), fun i => ([], [])⟩
def W169 (v0 : AV) (H : Heap) (K : AV → Heap → Prop) : Prop :=
 binV tab .eql 46 v0 (AV.p .nil) fun v4 =>
 condV v4 (K (AV.p .nil) H)
 (buildSliceV tab 46 0 [] H (wkK fun v5 H1 =>
 appendV tab 46 46 v5 v0 H1 (wkK fun v7 H2 =>
 K v7 H2)))
theorem W169_wp (v0 : AV) (H : Heap) (K : AV → Heap → Prop) : wpC Tryz.prog tab D169 (bodyOf Tryz.f169) (retF tab [.tmp 2] K) (nthA [v0]) H = W169 v0 H K := by kernel_rfl
theorem W169_ok {v0 : AV} {H : Heap} {K : AV → Heap → Prop} (h : W169 v0 H K) : CallT Tryz.prog 169 [v0] H K :=
  CallT.of_wp (D := D169) tab_ok mixed Tryz.func169 (c := bodyOf Tryz.f169) (by kernel_rfl) rfl (by kernel_rfl) (rs := #[.tmp 2]) rfl (by decide +kernel) (by kernel_rfl) (W169_wp v0 H K) h
theorem W169_hb : HasBody Tryz.prog 169 := ⟨_, bodyOf Tryz.f169, Tryz.func169, by kernel_rfl, rfl⟩
/-- loop.example/g00649/impl.operandsOf -/
def D172 : Info := ⟨42, fun i => ([], []), fun i => ([], [])⟩
def J172_0 (K : AV → Heap → Prop) (v40 : AV) (H : Heap) : Prop :=
 condV v40 (K (.tup [(AV.p (.int .i64 2)), (AV.p (.int .i64 2)), (AV.p (.int .i64 2))]) H)
 (K (.tup [(AV.p (.int .i64 0)), (AV.p (.int .i64 0)), (AV.p (.int .i64 0))]) H)
def J172_1 (K : AV → Heap → Prop) (v0 : AV) (v33 : AV) (H : Heap) : Prop :=
 condV v33 (K (.tup [(AV.p (.int .i64 2)), (AV.p (.int .i64 1)), (AV.p (.int .i64 2))]) H)
 (binV tab .eql 3 v0 (AV.p (.int .i64 17)) fun v37 =>
 grdV v37 false (binV tab .eql 3 v0 (AV.p (.int .i64 18)) fun v40 =>
 J172_0 K v40 H)
 (K (.tup [(AV.p (.int .i64 2)), (AV.p (.int .i64 2)), (AV.p (.int .i64 2))]) H))
def J172_2 (K : AV → Heap → Prop) (v0 : AV) (H : Heap) : Prop :=
 binV tab .eql 3 v0 (AV.p (.int .i64 17)) fun v37 =>
 grdV v37 false (binV tab .eql 3 v0 (AV.p (.int .i64 18)) fun v40 =>
 J172_0 K v40 H)
 (K (.tup [(AV.p (.int .i64 2)), (AV.p (.int .i64 2)), (AV.p (.int .i64 2))]) H)
def W172 (v0 : AV) (H : Heap) (K : AV → Heap → Prop) : Prop :=
 binV tab .eql 3 v0 (AV.p (.int .i64 1)) fun v7 =>
 grdV v7 false (binV tab .eql 3 v0 (AV.p (.int .i64 2)) fun v10 =>
 condV v10 (K (.tup [(AV.p (.int .i64 0)), (AV.p (.int .i64 0)), (AV.p (.int .i64 1))]) H)
 (binV tab .eql 3 v0 (AV.p (.int .i64 20)) fun v14 =>
 condV v14 (K (.tup [(AV.p (.int .i64 0)), (AV.p (.int .i64 0)), (AV.p (.int .i64 2))]) H)
 (binV tab .eql 3 v0 (AV.p (.int .i64 13)) fun v17 =>
 condV v17 (K (.tup [(AV.p (.int .i64 1)), (AV.p (.int .i64 1)), (AV.p (.int .i64 1))]) H)
 (binV tab .eql 3 v0 (AV.p (.int .i64 19)) fun v20 =>
 condV v20 (K (.tup [(AV.p (.int .i64 1)), (AV.p (.int .i64 2)), (AV.p (.int .i64 2))]) H)
 (binV tab .geq 3 v0 (AV.p (.int .i64 3)) fun v23 =>
 grdV v23 true (binV tab .leq 3 v0 (AV.p (.int .i64 12)) fun v26 =>
 condV v26 (K (.tup [(AV.p (.int .i64 2)), (AV.p (.int .i64 1)), (AV.p (.int .i64 1))]) H)
 (binV tab .geq 3 v0 (AV.p (.int .i64 14)) fun v30 =>
 grdV v30 true (binV tab .leq 3 v0 (AV.p (.int .i64 16)) fun v33 =>
 J172_1 K v0 v33 H)
 (J172_2 K v0 H)))
 (binV tab .geq 3 v0 (AV.p (.int .i64 14)) fun v30 =>
 grdV v30 true (binV tab .leq 3 v0 (AV.p (.int .i64 16)) fun v33 =>
 J172_1 K v0 v33 H)
 (J172_2 K v0 H)))))))
 (K (.tup [(AV.p (.int .i64 0)), (AV.p (.int .i64 0)), (AV.p (.int .i64 1))]) H)
theorem W172_wp (v0 : AV) (H : Heap) (K : AV → Heap → Prop) : wpC Tryz.prog tab D172 (bodyOf Tryz.f172) (retF tab [.tmp 2, .tmp 3, .tmp 4] K) (nthA [v0]) H = W172 v0 H K := by kernel_rfl
theorem W172_ok {v0 : AV} {H : Heap} {K : AV → Heap → Prop} (h : W172 v0 H K) : CallT Tryz.prog 172 [v0] H K :=
  CallT.of_wp (D := D172) tab_ok mixed Tryz.func172 (c := bodyOf Tryz.f172) (by kernel_rfl) rfl (by kernel_rfl) (rs := #[.tmp 2, .tmp 3, .tmp 4]) rfl (by decide +kernel) (by kernel_rfl) (W172_wp v0 H K) h
theorem W172_hb : HasBody Tryz.prog 172 := ⟨_, bodyOf Tryz.f172, Tryz.func172, by kernel_rfl, rfl⟩
/-- loop.example/g00649/impl.isLeafRight -/
def D173 : Info := ⟨30, fun i => ([], []), fun i => ([], [])⟩
def W173 (v0 : AV) (v1 : AV) (v2 : AV) (H : Heap) (K : AV → Heap → Prop) : Prop :=
 boxV v2 H fun v5 H1 =>
 fieldAddrV tab 155 v5 0 fun v7 =>
 loadV tab 3 v7 H1 fun v8 =>
 binV tab .eql 3 v8 (AV.p (.int .i64 1)) fun v10 =>
 condV v10 (fieldAddrV tab 155 v5 1 fun v12 =>
 loadV tab 153 v12 H1 fun v13 =>
 CallT Tryz.prog 196 [v0, v13] H1 fun v14 H2 =>
 K v14 H2)
 (binV tab .eql 3 v8 (AV.p (.int .i64 2)) fun v16 =>
 condV v16 (fieldAddrV tab 155 v5 1 fun v17 =>
 loadV tab 153 v17 H1 fun v18 =>
 convV tab 3 153 v1 fun v20 =>
 binV tab .lss 153 v18 v20 fun v21 =>
 K v21 H1)
 (binV tab .eql 3 v8 (AV.p (.int .i64 20)) fun v23 =>
 condV v23 (fieldAddrV tab 155 v5 1 fun v24 =>
 loadV tab 153 v24 H1 fun v25 =>
 binV tab .leq 153 v25 (AV.p (.int .u64 1)) fun v26 =>
 K v26 H1)
 (fieldAddrV tab 155 v5 1 fun v27 =>
 loadV tab 153 v27 H1 fun v28 =>
 binV tab .eql 153 v28 (AV.p (.int .u64 0)) fun v29 =>
 K v29 H1)))
theorem W173_wp (v0 : AV) (v1 : AV) (v2 : AV) (H : Heap) (K : AV → Heap → Prop) : wpC Tryz.prog tab D173 (bodyOf Tryz.f173) (retF tab [.tmp 6] K) (nthA [v0, v1, v2]) H = W173 v0 v1 v2 H K := by kernel_rfl
theorem W173_ok {v0 v1 v2 : AV} {H : Heap} {K : AV → Heap → Prop} (h : W173 v0 v1 v2 H K) : CallT Tryz.prog 173 [v0, v1, v2] H K :=
  CallT.of_wp (D := D173) tab_ok mixed Tryz.func173 (c := bodyOf Tryz.f173) (by kernel_rfl) rfl (by kernel_rfl) (rs := #[.tmp 6]) rfl (by decide +kernel) (by kernel_rfl) (W173_wp v0 v1 v2 H K) h
theorem W173_hb : HasBody Tryz.prog 173 := ⟨_, bodyOf Tryz.f173, Tryz.func173, by kernel_rfl, rfl⟩
/-- loop.example/g00649/impl.GoodTerm$1 -/
def D174 : Info := ⟨7, fun i => ([], []), fun i => ([], [])⟩
def W174 (v0 : AV) (v1 : AV) (H : Heap) (K : AV → Heap → Prop) : Prop :=
 loadV tab 3 v1 H fun v5 =>
 binV tab .neq 3 v0 v5 fun v6 =>
 K v6 H
theorem W174_wp (v0 : AV) (v1 : AV) (H : Heap) (K : AV → Heap → Prop) : wpC Tryz.prog tab D174 (bodyOf Tryz.f174) (retF tab [.tmp 3] K) (nthA [v0, v1]) H = W174 v0 v1 H K := by kernel_rfl
theorem W174_ok {v0 v1 : AV} {H : Heap} {K : AV → Heap → Prop} (h : W174 v0 v1 H K) : CallT Tryz.prog 174 [v0, v1] H K :=
  CallT.of_wp (D := D174) tab_ok mixed Tryz.func174 (c := bodyOf Tryz.f174) (by kernel_rfl) rfl (by kernel_rfl) (rs := #[.tmp 3]) rfl (by decide +kernel) (by kernel_rfl) (W174_wp v0 v1 H K) h
theorem W174_hb : HasBody Tryz.prog 174 := ⟨_, bodyOf Tryz.f174, Tryz.func174, by kernel_rfl, rfl⟩
/-- loop.example/g00649/laws.eqChangeS -/
def D175 : Info := ⟨27, fun i => if i = 6 then ([[], [], [0, 1], [0, 1, 2], [], [], [4, 5], [4, 5, 6], [0, 1, 2, 3, 4, 5, 6, 7], [0, 1, 2, 3, 4, 5, 6, 7, 8]], [(0, []), (1, []), (2, []), (3, []), (4, []), (5, []), (6, []), (7, []), (8, []), (9, [])]) else ([], []), fun i => if i = 4 then ([0, 1], [5]) else ([], [])⟩
def L175_0 (K : AV → Heap → Prop) (v0 : AV) (v1 : AV) (v5 : AV) (H : Heap) : Prop := LoopV (wpC Tryz.prog tab D175 (cAt [1, 1, 0, 1, 0, 0] (bodyOf Tryz.f175))) [0, 1] (PostF.block 0 (PostF.thenA (wpC Tryz.prog tab D175 (cAt [1, 1, 1] (bodyOf Tryz.f175))) (retF tab [.tmp 4] K))) [5] [v0, v1, AV.any, AV.any, AV.any, v5, AV.any, AV.any, AV.any, AV.any, AV.any, AV.any, AV.any, AV.any, AV.any, AV.any, AV.any, AV.any, AV.any, AV.any, AV.any, AV.any, AV.any, AV.any, AV.any, AV.any, AV.any] H
def B175_0 (K : AV → Heap → Prop) (N1 : AV → Heap → Prop) (v0 : AV) (v1 : AV) (v5 : AV) (H : Heap) : Prop :=
 lenV tab 148 v0 fun v13 =>
 binV tab .lss 3 v5 v13 fun v14 =>
 condV v14 (indexAddrV tab 148 v0 v5 fun v19 =>
 loadV tab 188 v19 H fun v20 =>
 indexAddrV tab 148 v1 v5 fun v23 =>
 loadV tab 188 v23 H fun v24 =>
 CallT Tryz.prog 197 [v20, v24] H fun v25 H1 =>
 unV .not v25 fun v26 =>
 condV v26 (K (AV.p (.bool false)) H1)
 (binV tab .add 3 v5 (AV.p (.int .i64 1)) fun v16 =>
 N1 v16 H1))
 (K (AV.p (.bool true)) H)
def W175 (v0 : AV) (v1 : AV) (H : Heap) (K : AV → Heap → Prop) : Prop :=
 lenV tab 148 v0 fun v7 =>
 lenV tab 148 v1 fun v9 =>
 binV tab .neq 3 v7 v9 fun v10 =>
 condV v10 (K (AV.p (.bool false)) H)
 (L175_0 K v0 v1 (AV.p (.int .i64 0)) H)
theorem W175_wp (v0 : AV) (v1 : AV) (H : Heap) (K : AV → Heap → Prop) : wpC Tryz.prog tab D175 (bodyOf Tryz.f175) (retF tab [.tmp 4] K) (nthA [v0, v1]) H = W175 v0 v1 H K := by kernel_rfl
theorem W175_ok {v0 v1 : AV} {H : Heap} {K : AV → Heap → Prop} (h : W175 v0 v1 H K) : CallT Tryz.prog 175 [v0, v1] H K :=
  CallT.of_wp (D := D175) tab_ok mixed Tryz.func175 (c := bodyOf Tryz.f175) (by kernel_rfl) rfl (by kernel_rfl) (rs := #[.tmp 4]) rfl (by decide +kernel) (by kernel_rfl) (W175_wp v0 v1 H K) h
theorem W175_hb : HasBody Tryz.prog 175 := ⟨_, bodyOf Tryz.f175, Tryz.func175, by kernel_rfl, rfl⟩
theorem L175_0_rule {K : AV → Heap → Prop} {v0 v1 v5 : AV} {H : Heap} {σ : Type} (s0 : σ) (f5 : σ → AV) (TH : σ → Heap) (pre : σ → Prop) (μ : σ → Nat)
    (h0 : pre s0 ∧ AV.wk v5 (f5 s0) ∧ Heap.le (TH s0) H)
    (round : ∀ s, pre s → B175_0 K (fun w5 H' => ∃ s', pre s' ∧ μ s' < μ s ∧ AV.wk w5 (f5 s') ∧ Heap.le (TH s') H') v0 v1 (f5 s) (TH s)) :
    L175_0 K v0 v1 v5 H := by
  unfold L175_0
  exact LoopV.mk s0 (fun s => [f5 s]) TH pre μ (fun _ => rfl) (Eq.mp (by kernel_rfl) h0) (fun s hs => Eq.mp (by kernel_rfl) (round s hs))
theorem L175_0_ruleG {K : AV → Heap → Prop} {v0 v1 v5 : AV} {H : Heap} {σ : Type} (s0 : σ) (f5 : σ → AV) (TH : σ → Heap) (pre : σ → Prop) (μ : σ → Nat)
    (h0 : pre s0 ∧ AV.wk v5 (f5 s0) ∧ Heap.le (TH s0) H)
    (round : ∀ s, pre s → ∀ q, TH s q = none → B175_0 K (fun w5 H' => ∃ s', pre s' ∧ μ s' < μ s ∧ AV.wk w5 (f5 s') ∧ Heap.le (TH s') H') v0 v1 (f5 s) ((TH s).set q [])) :
    L175_0 K v0 v1 v5 H := by
  unfold L175_0
  exact LoopV.mkG s0 (fun s => [f5 s]) TH pre μ (fun _ => rfl) (Eq.mp (by kernel_rfl) h0) (fun s hs q hq => Eq.mp (by kernel_rfl) (round s hs q hq))
/-- loop.example/g00649/spec.l1Cut -/
def D176 : Info := ⟨20, fun i => ([], []), fun i => if i = 3 then ([0, 1], [5, 6]) else ([], [])⟩
def L176_0 (K : AV → Heap → Prop) (v0 : AV) (v1 : AV) (v5 : AV) (v6 : AV) (H : Heap) : Prop := LoopV (wpC Tryz.prog tab D176 (cAt [1, 1, 0, 1, 0, 0] (bodyOf Tryz.f176))) [0, 1] (PostF.block 0 (PostF.thenA (wpC Tryz.prog tab D176 (cAt [1, 1, 1] (bodyOf Tryz.f176))) (retF tab [.tmp 4] K))) [5, 6] [v0, v1, AV.any, AV.any, AV.any, v5, v6, AV.any, AV.any, AV.any, AV.any, AV.any, AV.any, AV.any, AV.any, AV.any, AV.any, AV.any, AV.any, AV.any] H
def B176_0 (K : AV → Heap → Prop) (N1 : AV → AV → Heap → Prop) (v0 : AV) (v1 : AV) (v5 : AV) (v6 : AV) (H : Heap) : Prop :=
 binV tab .lss 3 v6 v0 fun v9 =>
 condV v9 (convV tab 3 114 v6 fun v15 =>
 binV tab .shl 153 (AV.p (.int .u64 1)) v15 fun v16 =>
 binV tab .and 153 v1 v16 fun v17 =>
 binV tab .or 153 v5 v17 fun v18 =>
 binV tab .add 3 v6 (AV.p (.int .i64 1)) fun v11 =>
 N1 v18 v11 H)
 (K v5 H)
def W176 (v0 : AV) (v1 : AV) (H : Heap) (K : AV → Heap → Prop) : Prop :=
 L176_0 K v0 v1 (AV.p (.int .u64 0)) (AV.p (.int .i64 0)) H
theorem W176_wp (v0 : AV) (v1 : AV) (H : Heap) (K : AV → Heap → Prop) : wpC Tryz.prog tab D176 (bodyOf Tryz.f176) (retF tab [.tmp 4] K) (nthA [v0, v1]) H = W176 v0 v1 H K := by kernel_rfl
theorem W176_ok {v0 v1 : AV} {H : Heap} {K : AV → Heap → Prop} (h : W176 v0 v1 H K) : CallT Tryz.prog 176 [v0, v1] H K :=
  CallT.of_wp (D := D176) tab_ok mixed Tryz.func176 (c := bodyOf Tryz.f176) (by kernel_rfl) rfl (by kernel_rfl) (rs := #[.tmp 4]) rfl (by decide +kernel) (by kernel_rfl) (W176_wp v0 v1 H K) h
theorem W176_hb : HasBody Tryz.prog 176 := ⟨_, bodyOf Tryz.f176, Tryz.func176, by kernel_rfl, rfl⟩
theorem L176_0_rule {K : AV → Heap → Prop} {v0 v1 v5 v6 : AV} {H : Heap} {σ : Type} (s0 : σ) (f5 : σ → AV) (f6 : σ → AV) (TH : σ → Heap) (pre : σ → Prop) (μ : σ → Nat)
    (h0 : pre s0 ∧ AV.wk v5 (f5 s0) ∧ AV.wk v6 (f6 s0) ∧ Heap.le (TH s0) H)
    (round : ∀ s, pre s → B176_0 K (fun w5 w6 H' => ∃ s', pre s' ∧ μ s' < μ s ∧ AV.wk w5 (f5 s') ∧ AV.wk w6 (f6 s') ∧ Heap.le (TH s') H') v0 v1 (f5 s) (f6 s) (TH s)) :
    L176_0 K v0 v1 v5 v6 H := by
  unfold L176_0
  exact LoopV.mk s0 (fun s => [f5 s, f6 s]) TH pre μ (fun _ => rfl) (Eq.mp (by kernel_rfl) h0) (fun s hs => Eq.mp (by kernel_rfl) (round s hs))
theorem L176_0_ruleG {K : AV → Heap → Prop} {v0 v1 v5 v6 : AV} {H : Heap} {σ : Type} (s0 : σ) (f5 : σ → AV) (f6 : σ → AV) (TH : σ → Heap) (pre : σ → Prop) (μ : σ → Nat)
    (h0 : pre s0 ∧ AV.wk v5 (f5 s0) ∧ AV.wk v6 (f6 s0) ∧ Heap.le (TH s0) H)
    (round : ∀ s, pre s → ∀ q, TH s q = none → B176_0 K (fun w5 w6 H' => ∃ s', pre s' ∧ μ s' < μ s ∧ AV.wk w5 (f5 s') ∧ AV.wk w6 (f6 s') ∧ Heap.le (TH s') H') v0 v1 (f5 s) (f6 s) ((TH s).set q [])) :
    L176_0 K v0 v1 v5 v6 H := by
  unfold L176_0
  exact LoopV.mkG s0 (fun s => [f5 s, f6 s]) TH pre μ (fun _ => rfl) (Eq.mp (by kernel_rfl) h0) (fun s hs q hq => Eq.mp (by kernel_rfl) (round s hs q hq))
end Go.Proofs.YtgcklgeifdefhaaGreat
