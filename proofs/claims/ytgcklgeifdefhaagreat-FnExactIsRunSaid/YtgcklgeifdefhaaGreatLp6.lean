/- Texts laid together: W6 W7 WA Lb0 Lb1a Lb3 Pt1 Le1 Le2 Pt2. -/
import Derived.Test.YtgcklgeifdefhaaGreatLp5
import Derived.KernelRfl
/- What each function's code is asked for, as a formula. Written by wgen.py (a program of this session's) out of Lean's print of the program. -/
namespace Go.Proofs.YtgcklgeifdefhaaGreat
open Go Go.Sep
set_option linter.unusedVariables false
attribute [local irreducible] wpC headF
/-- loop.example/g00649/laws.FnExactIsRun -/
def D5 : Info := ⟨72, fun i => if i = 16 then ([[], [], [1], [0, 1, 2], [0, 1, 2, 3]], [(0, []), (1, []), (2, [0]), (3, []), (4, [])]) else ([], []), fun i => ([], [])⟩
def W5 (v0 : AV) (v1 : AV) (v2 : AV) (H : Heap) (K : AV → Heap → Prop) : Prop :=
 boxV v0 H fun v3 H1 =>
 lenV tab 46 v1 fun v16 =>
 binV tab .gtr 3 v16 (AV.p (.int .i64 1048576)) fun v17 =>
 condV v17 (K (AV.p (.bool true)) H1)
 (lenV tab 46 v2 fun v19 =>
 binV tab .gtr 3 v19 (AV.p (.int .i64 1048576)) fun v20 =>
 condV v20 (K (AV.p (.bool true)) H1)
 (loadV tab 29 v3 H1 fun v21 =>
 CallT Tryz.prog 8 [v21, (AV.p (.int .i64 1048576))] H1 fun v23 H2 =>
 binV tab .lss 3 v23 (AV.p (.int .i64 0)) fun v25 =>
 condV v25 (K (AV.p (.bool true)) H2)
 (loadV tab 29 v3 H2 fun v27 =>
 CallT Tryz.prog 10 [v27] H2 fun v28 H3 =>
 CallT Tryz.prog 16 [v1] H3 fun v30 H4 =>
 CallT Tryz.prog 16 [v2] H4 fun v32 H5 =>
 CallT Tryz.prog 15 [v28, v30, v32] H5 fun v33 H6 =>
 extractV v33 0 fun v34 =>
 extractV v33 1 fun v35 =>
 loadV tab 29 v3 H6 fun v36 =>
 CallT Tryz.prog 10 [v36] H6 fun v37 H7 =>
 allocV tab 39 H7 fun v10 H8 =>
 storeV tab 39 v10 v37 H8 fun H9 =>
 CallT Tryz.prog 16 [v1] H9 fun v39 H10 =>
 CallT Tryz.prog 16 [v2] H10 fun v41 H11 =>
 loadV tab 39 v10 H11 fun v43 =>
 CallT Tryz.prog 17 [v43, v39, v41] H11 fun v46 H12 =>
 extractV v46 0 fun v47 =>
 extractV v46 1 fun v48 =>
 binV tab .neq 4 v47 v34 fun v51 =>
 grdV v51 false (binV tab .neq 4 v48 v35 fun v55 =>
 condV v55 (K (AV.p (.bool false)) H12)
 (loadV tab 39 v10 H12 fun v57 =>
 loadV tab 29 v3 H12 fun v58 =>
 CallT Tryz.prog 10 [v58] H12 fun v59 H13 =>
 (loadV tab 39 v10 H13 fun v9057 =>
 v57 = v9057) ∧
 CallT Tryz.prog 12 [v57, v59] H13 fun v60 H14 =>
 unV .not v60 fun v61 =>
 condV v61 (K (AV.p (.bool false)) H14)
 (CallT Tryz.prog 16 [v1] H14 fun v64 H15 =>
 CallT Tryz.prog 18 [v39, v64] H15 fun v65 H16 =>
 unV .not v65 fun v66 =>
 condV v66 (K (AV.p (.bool false)) H16)
 (CallT Tryz.prog 16 [v2] H16 fun v69 H17 =>
 CallT Tryz.prog 18 [v41, v69] H17 fun v70 H18 =>
 unV .not v70 fun v71 =>
 condV v71 (K (AV.p (.bool false)) H18)
 (K (AV.p (.bool true)) H18)))))
 (K (AV.p (.bool false)) H12))))
theorem W5_wp (v0 : AV) (v1 : AV) (v2 : AV) (H : Heap) (K : AV → Heap → Prop) : wpC Tryz.prog tab D5 (bodyOf Tryz.f5) (retF tab [.tmp 6] K) (nthA [v0, v1, v2]) H = W5 v0 v1 v2 H K := by kernel_rfl
theorem W5_ok {v0 v1 v2 : AV} {H : Heap} {K : AV → Heap → Prop} (h : W5 v0 v1 v2 H K) : CallT Tryz.prog 5 [v0, v1, v2] H K :=
  CallT.of_wp (D := D5) tab_ok mixed Tryz.func5 (c := bodyOf Tryz.f5) (by kernel_rfl) rfl (by kernel_rfl) (rs := #[.tmp 6]) rfl (by decide +kernel) (by kernel_rfl) (W5_wp v0 v1 v2 H K) h
/-- loop.example/g00649/spec.IsRun -/
def D15 : Info := ⟨17, fun i => ([], []), fun i => ([], [])⟩
def W15 (v0 : AV) (v1 : AV) (v2 : AV) (H : Heap) (K : AV → Heap → Prop) : Prop :=
 boxV v0 H fun v3 H1 =>
 loadV tab 39 v3 H1 fun v8 =>
 CallT Tryz.prog 57 [v8, v1, v2] H1 fun v11 H2 =>
 unV .not v11 fun v12 =>
 condV v12 (K (.tup [(AV.p (.bool false)), (AV.p (.bool false))]) H2)
 (loadV tab 39 v3 H2 fun v13 =>
 CallT Tryz.prog 58 [v13, v1, v2] H2 fun v16 H3 =>
 K (.tup [v16, (AV.p (.bool true))]) H3)
theorem W15_wp (v0 : AV) (v1 : AV) (v2 : AV) (H : Heap) (K : AV → Heap → Prop) : wpC Tryz.prog tab D15 (bodyOf Tryz.f15) (retF tab [.tmp 6, .tmp 7] K) (nthA [v0, v1, v2]) H = W15 v0 v1 v2 H K := by kernel_rfl
theorem W15_ok {v0 v1 v2 : AV} {H : Heap} {K : AV → Heap → Prop} (h : W15 v0 v1 v2 H K) : CallT Tryz.prog 15 [v0, v1, v2] H K :=
  CallT.of_wp (D := D15) tab_ok mixed Tryz.func15 (c := bodyOf Tryz.f15) (by kernel_rfl) rfl (by kernel_rfl) (rs := #[.tmp 6, .tmp 7]) rfl (by decide +kernel) (by kernel_rfl) (W15_wp v0 v1 v2 H K) h
/-- loop.example/g00649/laws.toIntS -/
def D16 : Info := ⟨22, fun i => ([], []), fun i => if i = 3 then ([0, 3], [4]) else ([], [])⟩
def L16_0 (K : AV → Heap → Prop) (v0 : AV) (v3 : AV) (v4 : AV) (H : Heap) : Prop := LoopV (wpC Tryz.prog tab D16 (cAt [1, 1, 0, 1, 0, 0] (bodyOf Tryz.f16))) [0, 3] (PostF.block 0 (PostF.thenA (wpC Tryz.prog tab D16 (cAt [1, 1, 1] (bodyOf Tryz.f16))) (retF tab [.tmp 2] K))) [4] [v0, AV.any, AV.any, v3, v4, AV.any, AV.any, AV.any, AV.any, AV.any, AV.any, AV.any, AV.any, AV.any, AV.any, AV.any, AV.any, AV.any, AV.any, AV.any, AV.any, AV.any] H
def B16_0 (K : AV → Heap → Prop) (N1 : AV → Heap → Prop) (v0 : AV) (v3 : AV) (v4 : AV) (H : Heap) : Prop :=
 lenV tab 46 v0 fun v10 =>
 binV tab .lss 3 v4 v10 fun v11 =>
 condV v11 (indexAddrV tab 46 v0 v4 fun v18 =>
 loadV tab 3 v18 H fun v19 =>
 indexAddrV tab 46 v3 v4 fun v20 =>
 storeV tab 3 v20 v19 H fun H2 =>
 binV tab .add 3 v4 (AV.p (.int .i64 1)) fun v13 =>
 N1 v13 H2)
 (K v3 H)
def W16 (v0 : AV) (H : Heap) (K : AV → Heap → Prop) : Prop :=
 lenV tab 46 v0 fun v6 =>
 makeSliceV tab 46 v6 v6 H fun v7 H1 =>
 L16_0 K v0 v7 (AV.p (.int .i64 0)) H1
theorem W16_wp (v0 : AV) (H : Heap) (K : AV → Heap → Prop) : wpC Tryz.prog tab D16 (bodyOf Tryz.f16) (retF tab [.tmp 2] K) (nthA [v0]) H = W16 v0 H K := by kernel_rfl
theorem W16_ok {v0 : AV} {H : Heap} {K : AV → Heap → Prop} (h : W16 v0 H K) : CallT Tryz.prog 16 [v0] H K :=
  CallT.of_wp (D := D16) tab_ok mixed Tryz.func16 (c := bodyOf Tryz.f16) (by kernel_rfl) rfl (by kernel_rfl) (rs := #[.tmp 2]) rfl (by decide +kernel) (by kernel_rfl) (W16_wp v0 H K) h
theorem L16_0_rule {K : AV → Heap → Prop} {v0 v3 v4 : AV} {H : Heap} {σ : Type} (s0 : σ) (f4 : σ → AV) (TH : σ → Heap) (pre : σ → Prop) (μ : σ → Nat)
    (h0 : pre s0 ∧ AV.wk v4 (f4 s0) ∧ Heap.le (TH s0) H)
    (round : ∀ s, pre s → B16_0 K (fun w4 H' => ∃ s', pre s' ∧ μ s' < μ s ∧ AV.wk w4 (f4 s') ∧ Heap.le (TH s') H') v0 v3 (f4 s) (TH s)) :
    L16_0 K v0 v3 v4 H := by
  unfold L16_0
  exact LoopV.mk s0 (fun s => [f4 s]) TH pre μ (fun _ => rfl) (Eq.mp (by kernel_rfl) h0) (fun s hs => Eq.mp (by kernel_rfl) (round s hs))
/-- loop.example/g00649/impl.IsRun -/
def D17 : Info := ⟨17, fun i => ([], []), fun i => ([], [])⟩
def W17 (v0 : AV) (v1 : AV) (v2 : AV) (H : Heap) (K : AV → Heap → Prop) : Prop :=
 boxV v0 H fun v3 H1 =>
 loadV tab 39 v3 H1 fun v8 =>
 CallT Tryz.prog 59 [v8, v1, v2] H1 fun v11 H2 =>
 unV .not v11 fun v12 =>
 condV v12 (K (.tup [(AV.p (.bool false)), (AV.p (.bool false))]) H2)
 (loadV tab 39 v3 H2 fun v13 =>
 CallT Tryz.prog 60 [v13, v1, v2] H2 fun v16 H3 =>
 K (.tup [v16, (AV.p (.bool true))]) H3)
theorem W17_wp (v0 : AV) (v1 : AV) (v2 : AV) (H : Heap) (K : AV → Heap → Prop) : wpC Tryz.prog tab D17 (bodyOf Tryz.f17) (retF tab [.tmp 6, .tmp 7] K) (nthA [v0, v1, v2]) H = W17 v0 v1 v2 H K := by kernel_rfl
theorem W17_ok {v0 v1 v2 : AV} {H : Heap} {K : AV → Heap → Prop} (h : W17 v0 v1 v2 H K) : CallT Tryz.prog 17 [v0, v1, v2] H K :=
  CallT.of_wp (D := D17) tab_ok mixed Tryz.func17 (c := bodyOf Tryz.f17) (by kernel_rfl) rfl (by kernel_rfl) (rs := #[.tmp 6, .tmp 7]) rfl (by decide +kernel) (by kernel_rfl) (W17_wp v0 v1 v2 H K) h
/-- loop.example/g00649/laws.eqIntS -/
def D18 : Info := ⟨26, fun i => if i = 6 then ([[], [], [0, 1], [0, 1, 2], [], [], [4, 5], [4, 5, 6], [0, 1, 2, 3, 4, 5, 6, 7]], [(0, []), (1, []), (2, []), (3, []), (4, []), (5, []), (6, []), (7, []), (8, [])]) else ([], []), fun i => if i = 4 then ([0, 1], [5]) else ([], [])⟩
def L18_0 (K : AV → Heap → Prop) (v0 : AV) (v1 : AV) (v5 : AV) (H : Heap) : Prop := LoopV (wpC Tryz.prog tab D18 (cAt [1, 1, 0, 1, 0, 0] (bodyOf Tryz.f18))) [0, 1] (PostF.block 0 (PostF.thenA (wpC Tryz.prog tab D18 (cAt [1, 1, 1] (bodyOf Tryz.f18))) (retF tab [.tmp 4] K))) [5] [v0, v1, AV.any, AV.any, AV.any, v5, AV.any, AV.any, AV.any, AV.any, AV.any, AV.any, AV.any, AV.any, AV.any, AV.any, AV.any, AV.any, AV.any, AV.any, AV.any, AV.any, AV.any, AV.any, AV.any, AV.any] H
def B18_0 (K : AV → Heap → Prop) (N1 : AV → Heap → Prop) (v0 : AV) (v1 : AV) (v5 : AV) (H : Heap) : Prop :=
 lenV tab 46 v0 fun v13 =>
 binV tab .lss 3 v5 v13 fun v14 =>
 condV v14 (indexAddrV tab 46 v0 v5 fun v19 =>
 loadV tab 3 v19 H fun v20 =>
 indexAddrV tab 46 v1 v5 fun v23 =>
 loadV tab 3 v23 H fun v24 =>
 binV tab .neq 3 v20 v24 fun v25 =>
 condV v25 (K (AV.p (.bool false)) H)
 (binV tab .add 3 v5 (AV.p (.int .i64 1)) fun v16 =>
 N1 v16 H))
 (K (AV.p (.bool true)) H)
def W18 (v0 : AV) (v1 : AV) (H : Heap) (K : AV → Heap → Prop) : Prop :=
 lenV tab 46 v0 fun v7 =>
 lenV tab 46 v1 fun v9 =>
 binV tab .neq 3 v7 v9 fun v10 =>
 condV v10 (K (AV.p (.bool false)) H)
 (L18_0 K v0 v1 (AV.p (.int .i64 0)) H)
theorem W18_wp (v0 : AV) (v1 : AV) (H : Heap) (K : AV → Heap → Prop) : wpC Tryz.prog tab D18 (bodyOf Tryz.f18) (retF tab [.tmp 4] K) (nthA [v0, v1]) H = W18 v0 v1 H K := by kernel_rfl
theorem W18_ok {v0 v1 : AV} {H : Heap} {K : AV → Heap → Prop} (h : W18 v0 v1 H K) : CallT Tryz.prog 18 [v0, v1] H K :=
  CallT.of_wp (D := D18) tab_ok mixed Tryz.func18 (c := bodyOf Tryz.f18) (by kernel_rfl) rfl (by kernel_rfl) (rs := #[.tmp 4]) rfl (by decide +kernel) (by kernel_rfl) (W18_wp v0 v1 H K) h
theorem L18_0_rule {K : AV → Heap → Prop} {v0 v1 v5 : AV} {H : Heap} {σ : Type} (s0 : σ) (f5 : σ → AV) (TH : σ → Heap) (pre : σ → Prop) (μ : σ → Nat)
    (h0 : pre s0 ∧ AV.wk v5 (f5 s0) ∧ Heap.le (TH s0) H)
    (round : ∀ s, pre s → B18_0 K (fun w5 H' => ∃ s', pre s' ∧ μ s' < μ s ∧ AV.wk w5 (f5 s') ∧ Heap.le (TH s') H') v0 v1 (f5 s) (TH s)) :
    L18_0 K v0 v1 v5 H := by
  unfold L18_0
  exact LoopV.mk s0 (fun s => [f5 s]) TH pre μ (fun _ => rfl) (Eq.mp (by kernel_rfl) h0) (fun s hs => Eq.mp (by kernel_rfl) (round s hs))
/-- loop.example/g00649/spec.l14Told -/
def D57 : Info := ⟨24, fun i => ([], []), fun i => ([], [])⟩
def W57 (v0 : AV) (v1 : AV) (v2 : AV) (H : Heap) (K : AV → Heap → Prop) : Prop :=
 boxV v0 H fun v3 H1 =>
 loadV tab 39 v3 H1 fun v7 =>
 CallT Tryz.prog 9 [v7] H1 fun v8 H2 =>
 grdV v8 true (loadV tab 39 v3 H2 fun v10 =>
 CallT Tryz.prog 96 [v10, v1] H2 fun v12 H3 =>
 grdV v12 true (loadV tab 39 v3 H3 fun v15 =>
 CallT Tryz.prog 96 [v15, v2] H3 fun v17 H4 =>
 grdV v17 true (lenV tab 46 v2 fun v21 =>
 binV tab .gtr 3 v21 (AV.p (.int .i64 0)) fun v22 =>
 K v22 H4)
 (K (AV.p (.bool false)) H4))
 (K (AV.p (.bool false)) H3))
 (K (AV.p (.bool false)) H2)
theorem W57_wp (v0 : AV) (v1 : AV) (v2 : AV) (H : Heap) (K : AV → Heap → Prop) : wpC Tryz.prog tab D57 (bodyOf Tryz.f57) (retF tab [.tmp 6] K) (nthA [v0, v1, v2]) H = W57 v0 v1 v2 H K := by kernel_rfl
theorem W57_ok {v0 v1 v2 : AV} {H : Heap} {K : AV → Heap → Prop} (h : W57 v0 v1 v2 H K) : CallT Tryz.prog 57 [v0, v1, v2] H K :=
  CallT.of_wp (D := D57) tab_ok mixed Tryz.func57 (c := bodyOf Tryz.f57) (by kernel_rfl) rfl (by kernel_rfl) (rs := #[.tmp 6]) rfl (by decide +kernel) (by kernel_rfl) (W57_wp v0 v1 v2 H K) h
/-- loop.example/g00649/spec.l14IsRun -/
def D58 : Info := ⟨49, fun i => if i = 1 then ([[], [0], [], [0, 1, 2], [], [4], [4, 5], [4, 5, 6], [0, 1, 2, 3, 4, 5, 6, 7], [0, 1, 2, 3, 4, 5, 6, 7, 8]], [(0, []), (2, []), (4, []), (5, []), (6, []), (1, [7, 6]), (3, [7, 6]), (7, [7]), (8, []), (9, [])]) else if i = 2 then ([[], [0], [], [2], [2, 3], [0, 1, 2, 3, 4], [], [6], [6, 7], [0, 1, 2, 3, 4, 5, 6, 7, 8], [0, 1, 2, 3, 4, 5, 6, 7, 8, 9]], [(0, []), (1, []), (2, []), (3, []), (4, []), (6, []), (7, []), (8, []), (5, [8]), (9, []), (10, [])]) else if i = 7 then ([[], [0], [], [], [3], [2, 3, 4], [2, 3, 4, 5], [0, 1, 2, 3, 4, 5, 6], [], [], [8, 9], [8, 9, 10], [0, 1, 2, 3, 4, 5, 6, 7, 8, 9, 10, 11], [0, 1, 2, 3, 4, 5, 6, 7, 8, 9, 10, 11, 12]], [(0, []), (1, []), (2, []), (3, []), (4, []), (5, []), (6, []), (8, []), (9, []), (10, []), (11, []), (7, [11]), (12, []), (13, [])]) else ([], []), fun i => if i = 5 then ([3, 7], [8]) else ([], [])⟩
def L58_0 (K : AV → Heap → Prop) (v3 : AV) (v7 : AV) (v8 : AV) (H : Heap) : Prop := LoopV (wpC Tryz.prog tab D58 (cAt [1, 1, 1, 0, 1, 0, 0] (bodyOf Tryz.f58))) [3, 7] (PostF.block 0 (PostF.thenA (wpC Tryz.prog tab D58 (cAt [1, 1, 1, 1] (bodyOf Tryz.f58))) (retF tab [.tmp 6] K))) [8] [AV.any, AV.any, AV.any, v3, AV.any, AV.any, AV.any, v7, v8, AV.any, AV.any, AV.any, AV.any, AV.any, AV.any, AV.any, AV.any, AV.any, AV.any, AV.any, AV.any, AV.any, AV.any, AV.any, AV.any, AV.any, AV.any, AV.any, AV.any, AV.any, AV.any, AV.any, AV.any, AV.any, AV.any, AV.any, AV.any, AV.any, AV.any, AV.any, AV.any, AV.any, AV.any, AV.any, AV.any, AV.any, AV.any, AV.any, AV.any] H
def B58_0 (K : AV → Heap → Prop) (N1 : AV → Heap → Prop) (v3 : AV) (v7 : AV) (v8 : AV) (H : Heap) : Prop :=
 lenV tab 46 v7 fun v31 =>
 binV tab .lss 3 v8 v31 fun v32 =>
 condV v32 (fieldAddrV tab 39 v3 0 fun v35 =>
 loadV tab 35 v35 H fun v36 =>
 binV tab .sub 3 v8 (AV.p (.int .i64 1)) fun v39 =>
 indexAddrV tab 46 v7 v39 fun v40 =>
 loadV tab 3 v40 H fun v41 =>
 indexAddrV tab 46 v7 v8 fun v45 =>
 loadV tab 3 v45 H fun v46 =>
 CallT Tryz.prog 99 [v36, v41] H fun v42 H8 =>
 (loadV tab 3 v45 H8 fun v9046 =>
 v46 = v9046) ∧
 CallT Tryz.prog 98 [v42, v46] H8 fun v47 H9 =>
 unV .not v47 fun v48 =>
 condV v48 (K (AV.p (.bool false)) H9)
 (binV tab .add 3 v8 (AV.p (.int .i64 1)) fun v34 =>
 N1 v34 H9))
 (K (AV.p (.bool true)) H)
def W58 (v0 : AV) (v1 : AV) (v2 : AV) (H : Heap) (K : AV → Heap → Prop) : Prop :=
 boxV v0 H fun v3 H1 =>
 indexAddrV tab 46 v2 (AV.p (.int .i64 0)) fun v14 =>
 loadV tab 3 v14 H1 fun v15 =>
 safeV (buildN tab 46 1 [(0, v15)]) ∧
 CallT Tryz.prog 97 [v1] H1 fun v10 H2 =>
 (loadV tab 3 v14 H2 fun v9015 =>
 v15 = v9015) ∧
 safeV (buildN tab 46 1 [(0, v15)]) ∧
 appendV tab 46 46 v10 v2 H2 (wkK fun v12 H3 =>
 (loadV tab 3 v14 H3 fun v9015 =>
 v15 = v9015) ∧
 newV (buildN tab 46 1 [(0, v15)]) H3 fun v16 H4 =>
 appendV tab 46 46 v12 v16 H4 (wkK fun v17 H5 =>
 fieldAddrV tab 39 v3 0 fun v18 =>
 loadV tab 35 v18 H5 fun v19 =>
 fieldAddrV tab 39 v3 0 fun v20 =>
 fieldAddrV tab 35 v20 2 fun v21 =>
 loadV tab 32 v21 H5 fun v22 =>
 indexAddrV tab 46 v17 (AV.p (.int .i64 0)) fun v25 =>
 loadV tab 3 v25 H5 fun v26 =>
 CallT Tryz.prog 70 [v19, v22] H5 fun v23 H6 =>
 (loadV tab 3 v25 H6 fun v9026 =>
 v26 = v9026) ∧
 CallT Tryz.prog 98 [v23, v26] H6 fun v27 H7 =>
 unV .not v27 fun v28 =>
 condV v28 (K (AV.p (.bool false)) H7)
 (L58_0 K v3 v17 (AV.p (.int .i64 1)) H7)))
theorem W58_wp (v0 : AV) (v1 : AV) (v2 : AV) (H : Heap) (K : AV → Heap → Prop) : wpC Tryz.prog tab D58 (bodyOf Tryz.f58) (retF tab [.tmp 6] K) (nthA [v0, v1, v2]) H = W58 v0 v1 v2 H K := by kernel_rfl
theorem W58_ok {v0 v1 v2 : AV} {H : Heap} {K : AV → Heap → Prop} (h : W58 v0 v1 v2 H K) : CallT Tryz.prog 58 [v0, v1, v2] H K :=
  CallT.of_wp (D := D58) tab_ok mixed Tryz.func58 (c := bodyOf Tryz.f58) (by kernel_rfl) rfl (by kernel_rfl) (rs := #[.tmp 6]) rfl (by decide +kernel) (by kernel_rfl) (W58_wp v0 v1 v2 H K) h
theorem L58_0_rule {K : AV → Heap → Prop} {v3 v7 v8 : AV} {H : Heap} {σ : Type} (s0 : σ) (f8 : σ → AV) (TH : σ → Heap) (pre : σ → Prop) (μ : σ → Nat)
    (h0 : pre s0 ∧ AV.wk v8 (f8 s0) ∧ Heap.le (TH s0) H)
    (round : ∀ s, pre s → B58_0 K (fun w8 H' => ∃ s', pre s' ∧ μ s' < μ s ∧ AV.wk w8 (f8 s') ∧ Heap.le (TH s') H') v3 v7 (f8 s) (TH s)) :
    L58_0 K v3 v7 v8 H := by
  unfold L58_0
  exact LoopV.mk s0 (fun s => [f8 s]) TH pre μ (fun _ => rfl) (Eq.mp (by kernel_rfl) h0) (fun s hs => Eq.mp (by kernel_rfl) (round s hs))
/-- (loop.example/g00649/impl.Question).areStates -/
def D59 : Info := ⟨36, fun i => ([], []), fun i => ([], [])⟩
def W59 (v0 : AV) (v1 : AV) (v2 : AV) (H : Heap) (K : AV → Heap → Prop) : Prop :=
 boxV v0 H fun v3 H1 =>
 loadV tab 39 v3 H1 fun v8 =>
 CallT Tryz.prog 11 [v8] H1 fun v9 H2 =>
 unV .not v9 fun v10 =>
 grdV v10 false (lenV tab 46 v1 fun v13 =>
 binV tab .gtr 3 v13 (AV.p (.int .i64 2000)) fun v14 =>
 grdV v14 false (lenV tab 46 v2 fun v18 =>
 binV tab .lss 3 v18 (AV.p (.int .i64 1)) fun v19 =>
 grdV v19 false (lenV tab 46 v2 fun v23 =>
 binV tab .gtr 3 v23 (AV.p (.int .i64 2000)) fun v24 =>
 condV v24 (K (AV.p (.bool false)) H2)
 (fieldAddrV tab 39 v3 0 fun v26 =>
 loadV tab 35 v26 H2 fun v27 =>
 CallT Tryz.prog 93 [v27] H2 fun v28 H3 =>
 allocV tab 3 H3 fun v7 H4 =>
 storeV tab 3 v7 v28 H4 fun H5 =>
 buildSliceV tab 60 2 [(0, v1), (1, v2)] H5 (wkK fun v31 H6 =>
 CallT Tryz.prog 101 [v31] H6 fun v32 H7 =>
 CallT Tryz.prog 100 [v32, (.fn 102 [v7])] H7 fun v34 H8 =>
 unV .not v34 fun v35 =>
 K v35 H8)))
 (K (AV.p (.bool false)) H2))
 (K (AV.p (.bool false)) H2))
 (K (AV.p (.bool false)) H2)
theorem W59_wp (v0 : AV) (v1 : AV) (v2 : AV) (H : Heap) (K : AV → Heap → Prop) : wpC Tryz.prog tab D59 (bodyOf Tryz.f59) (retF tab [.tmp 6] K) (nthA [v0, v1, v2]) H = W59 v0 v1 v2 H K := by kernel_rfl
theorem W59_ok {v0 v1 v2 : AV} {H : Heap} {K : AV → Heap → Prop} (h : W59 v0 v1 v2 H K) : CallT Tryz.prog 59 [v0, v1, v2] H K :=
  CallT.of_wp (D := D59) tab_ok mixed Tryz.func59 (c := bodyOf Tryz.f59) (by kernel_rfl) rfl (by kernel_rfl) (rs := #[.tmp 6]) rfl (by decide +kernel) (by kernel_rfl) (W59_wp v0 v1 v2 H K) h
/-- (loop.example/g00649/impl.Question).isRun -/
def D60 : Info := ⟨51, fun i => if i = 1 then ([[], [], [], [2], [0, 1, 2, 3], [0, 1, 2, 3, 4], [], [6], [0, 1, 2, 3, 4, 5, 6, 7], [0, 1, 2, 3, 4, 5, 6, 7, 8], [0, 1, 2, 3, 4, 5, 6, 7, 8, 9]], [(0, []), (1, []), (2, []), (3, []), (6, []), (7, []), (4, [7]), (5, [7]), (8, []), (9, []), (10, [])]) else if i = 5 then ([[], [], [], [2], [1, 2, 3], [1, 2, 3, 4], [0, 1, 2, 3, 4, 5], [0, 1, 2, 3, 4, 5, 6], [], [], [8, 9], [8, 9, 10], [0, 1, 2, 3, 4, 5, 6, 7, 8, 9, 10, 11], [0, 1, 2, 3, 4, 5, 6, 7, 8, 9, 10, 11, 12]], [(0, []), (1, []), (2, []), (3, []), (4, []), (5, []), (6, []), (7, []), (8, []), (9, []), (10, []), (11, []), (12, []), (13, [])]) else if i = 7 then ([[], [0], [], [2], [2, 3], [], [5], [], [7], [7, 8], [5, 6, 7, 8, 9], [0, 1, 2, 3, 4, 5, 6, 7, 8, 9, 10], [0, 1, 2, 3, 4, 5, 6, 7, 8, 9, 10, 11]], [(0, []), (1, []), (2, []), (3, []), (4, []), (5, []), (6, []), (7, []), (8, []), (9, []), (10, [1, 4]), (11, []), (12, [])]) else ([], []), fun i => if i = 3 then ([3, 7, 8], [9]) else ([], [])⟩
def L60_0 (K : AV → Heap → Prop) (v3 : AV) (v7 : AV) (v8 : AV) (v9 : AV) (H : Heap) : Prop := LoopV (wpC Tryz.prog tab D60 (cAt [1, 1, 0, 1, 0, 0] (bodyOf Tryz.f60))) [3, 7, 8] (PostF.block 0 (PostF.thenA (wpC Tryz.prog tab D60 (cAt [1, 1, 1] (bodyOf Tryz.f60))) (retF tab [.tmp 6] K))) [9] [AV.any, AV.any, AV.any, v3, AV.any, AV.any, AV.any, v7, v8, v9, AV.any, AV.any, AV.any, AV.any, AV.any, AV.any, AV.any, AV.any, AV.any, AV.any, AV.any, AV.any, AV.any, AV.any, AV.any, AV.any, AV.any, AV.any, AV.any, AV.any, AV.any, AV.any, AV.any, AV.any, AV.any, AV.any, AV.any, AV.any, AV.any, AV.any, AV.any, AV.any, AV.any, AV.any, AV.any, AV.any, AV.any, AV.any, AV.any, AV.any, AV.any] H
def B60_0 (K : AV → Heap → Prop) (N1 : AV → Heap → Prop) (v3 : AV) (v7 : AV) (v8 : AV) (v9 : AV) (H : Heap) : Prop :=
 lenV tab 46 v7 fun v21 =>
 binV tab .lss 3 v9 v21 fun v22 =>
 condV v22 (binV tab .sub 3 v9 (AV.p (.int .i64 1)) fun v28 =>
 indexAddrV tab 46 v7 v28 fun v29 =>
 loadV tab 3 v29 H fun v30 =>
 indexAddrV tab 60 v8 v30 fun v31 =>
 loadV tab 46 v31 H fun v32 =>
 indexAddrV tab 46 v7 v9 fun v35 =>
 loadV tab 3 v35 H fun v36 =>
 CallT Tryz.prog 104 [v32, v36] H fun v37 H5 =>
 unV .not v37 fun v38 =>
 condV v38 (K (AV.p (.bool false)) H5)
 (binV tab .add 3 v9 (AV.p (.int .i64 1)) fun v24 =>
 N1 v24 H5))
 (fieldAddrV tab 39 v3 0 fun v39 =>
 loadV tab 35 v39 H fun v40 =>
 fieldAddrV tab 39 v3 0 fun v41 =>
 fieldAddrV tab 35 v41 2 fun v42 =>
 loadV tab 32 v42 H fun v43 =>
 fieldAddrV tab 39 v3 0 fun v44 =>
 loadV tab 35 v44 H fun v45 =>
 indexAddrV tab 46 v7 (AV.p (.int .i64 0)) fun v47 =>
 loadV tab 3 v47 H fun v48 =>
 CallT Tryz.prog 94 [v45, v48] H fun v49 H6 =>
 (loadV tab 35 v39 H6 fun v9040 =>
 v40 = v9040) ∧
 (loadV tab 32 v42 H6 fun v9043 =>
 v43 = v9043) ∧
 CallT Tryz.prog 95 [v40, v43, v49] H6 fun v50 H7 =>
 K v50 H7)
def W60 (v0 : AV) (v1 : AV) (v2 : AV) (H : Heap) (K : AV → Heap → Prop) : Prop :=
 boxV v0 H fun v3 H1 =>
 sliceV tab 46 v2 none (some (AV.p (.int .i64 1))) none fun v13 =>
 fieldAddrV tab 39 v3 0 fun v16 =>
 loadV tab 35 v16 H1 fun v17 =>
 buildSliceV tab 60 3 [(0, v1), (1, v2), (2, v13)] H1 (wkK fun v14 H2 =>
 (loadV tab 35 v16 H2 fun v9017 =>
 v17 = v9017) ∧
 CallT Tryz.prog 101 [v14] H2 fun v15 H3 =>
 (loadV tab 35 v16 H3 fun v9017 =>
 v17 = v9017) ∧
 CallT Tryz.prog 103 [v17] H3 fun v18 H4 =>
 L60_0 K v3 v15 v18 (AV.p (.int .i64 1)) H4)
theorem W60_wp (v0 : AV) (v1 : AV) (v2 : AV) (H : Heap) (K : AV → Heap → Prop) : wpC Tryz.prog tab D60 (bodyOf Tryz.f60) (retF tab [.tmp 6] K) (nthA [v0, v1, v2]) H = W60 v0 v1 v2 H K := by kernel_rfl
theorem W60_ok {v0 v1 v2 : AV} {H : Heap} {K : AV → Heap → Prop} (h : W60 v0 v1 v2 H K) : CallT Tryz.prog 60 [v0, v1, v2] H K :=
  CallT.of_wp (D := D60) tab_ok mixed Tryz.func60 (c := bodyOf Tryz.f60) (by kernel_rfl) rfl (by kernel_rfl) (rs := #[.tmp 6]) rfl (by decide +kernel) (by kernel_rfl) (W60_wp v0 v1 v2 H K) h
theorem L60_0_rule {K : AV → Heap → Prop} {v3 v7 v8 v9 : AV} {H : Heap} {σ : Type} (s0 : σ) (f9 : σ → AV) (TH : σ → Heap) (pre : σ → Prop) (μ : σ → Nat)
    (h0 : pre s0 ∧ AV.wk v9 (f9 s0) ∧ Heap.le (TH s0) H)
    (round : ∀ s, pre s → B60_0 K (fun w9 H' => ∃ s', pre s' ∧ μ s' < μ s ∧ AV.wk w9 (f9 s') ∧ Heap.le (TH s') H') v3 v7 v8 (f9 s) (TH s)) :
    L60_0 K v3 v7 v8 v9 H := by
  unfold L60_0
  exact LoopV.mk s0 (fun s => [f9 s]) TH pre μ (fun _ => rfl) (Eq.mp (by kernel_rfl) h0) (fun s hs => Eq.mp (by kernel_rfl) (round s hs))
/-- loop.example/g00649/spec.l8Those -/
def D70 : Info := ⟨24, fun i => if i = 5 then ([[], [], [], [], [2, 3], [0, 1, 2, 3, 4]], [(0, []), (1, []), (2, []), (3, []), (4, [0]), (5, [])]) else ([], []), fun i => if i = 3 then ([1, 2], [5, 6]) else ([], [])⟩
def L70_0 (K : AV → Heap → Prop) (v1 : AV) (v2 : AV) (v5 : AV) (v6 : AV) (H : Heap) : Prop := LoopV (wpC Tryz.prog tab D70 (cAt [1, 1, 0, 1, 0, 0] (bodyOf Tryz.f70))) [1, 2] (PostF.block 0 (PostF.thenA (wpC Tryz.prog tab D70 (cAt [1, 1, 1] (bodyOf Tryz.f70))) (retF tab [.tmp 4] K))) [5, 6] [AV.any, v1, v2, AV.any, AV.any, v5, v6, AV.any, AV.any, AV.any, AV.any, AV.any, AV.any, AV.any, AV.any, AV.any, AV.any, AV.any, AV.any, AV.any, AV.any, AV.any, AV.any, AV.any] H
def B70_0 (K : AV → Heap → Prop) (N1 : AV → AV → Heap → Prop) (v1 : AV) (v2 : AV) (v5 : AV) (v6 : AV) (H : Heap) : Prop :=
 loadV tab 35 v2 H fun v8 =>
 CallT Tryz.prog 53 [v8] H fun v9 H2 =>
 binV tab .lss 3 v6 v9 fun v10 =>
 condV v10 (loadV tab 35 v2 H2 fun v13 =>
 loadV tab 35 v2 H2 fun v15 =>
 CallT Tryz.prog 92 [v15, v6] H2 fun v17 H3 =>
 (loadV tab 35 v2 H3 fun v9013 =>
 v13 = v9013) ∧
 CallT Tryz.prog 91 [v13, v1, v17] H3 fun v18 H4 =>
 condV v18 (buildSliceV tab 46 1 [(0, v6)] H4 (wkK fun v21 H5 =>
 appendV tab 46 46 v5 v21 H5 (wkK fun v22 H6 =>
 binV tab .add 3 v6 (AV.p (.int .i64 1)) fun v12 =>
 N1 v22 v12 H6)))
 (binV tab .add 3 v6 (AV.p (.int .i64 1)) fun v12 =>
 N1 v5 v12 H4))
 (K v5 H2)
def W70 (v0 : AV) (v1 : AV) (H : Heap) (K : AV → Heap → Prop) : Prop :=
 boxV v0 H fun v2 H1 =>
 L70_0 K v1 v2 (AV.p .nil) (AV.p (.int .i64 0)) H1
theorem W70_wp (v0 : AV) (v1 : AV) (H : Heap) (K : AV → Heap → Prop) : wpC Tryz.prog tab D70 (bodyOf Tryz.f70) (retF tab [.tmp 4] K) (nthA [v0, v1]) H = W70 v0 v1 H K := by kernel_rfl
theorem W70_ok {v0 v1 : AV} {H : Heap} {K : AV → Heap → Prop} (h : W70 v0 v1 H K) : CallT Tryz.prog 70 [v0, v1] H K :=
  CallT.of_wp (D := D70) tab_ok mixed Tryz.func70 (c := bodyOf Tryz.f70) (by kernel_rfl) rfl (by kernel_rfl) (rs := #[.tmp 4]) rfl (by decide +kernel) (by kernel_rfl) (W70_wp v0 v1 H K) h
theorem W70_hb : HasBody Tryz.prog 70 := ⟨_, bodyOf Tryz.f70, Tryz.func70, by kernel_rfl, rfl⟩
theorem L70_0_rule {K : AV → Heap → Prop} {v1 v2 v5 v6 : AV} {H : Heap} {σ : Type} (s0 : σ) (f5 : σ → AV) (f6 : σ → AV) (TH : σ → Heap) (pre : σ → Prop) (μ : σ → Nat)
    (h0 : pre s0 ∧ AV.wk v5 (f5 s0) ∧ AV.wk v6 (f6 s0) ∧ Heap.le (TH s0) H)
    (round : ∀ s, pre s → B70_0 K (fun w5 w6 H' => ∃ s', pre s' ∧ μ s' < μ s ∧ AV.wk w5 (f5 s') ∧ AV.wk w6 (f6 s') ∧ Heap.le (TH s') H') v1 v2 (f5 s) (f6 s) (TH s)) :
    L70_0 K v1 v2 v5 v6 H := by
  unfold L70_0
  exact LoopV.mk s0 (fun s => [f5 s, f6 s]) TH pre μ (fun _ => rfl) (Eq.mp (by kernel_rfl) h0) (fun s hs => Eq.mp (by kernel_rfl) (round s hs))
/-- loop.example/g00649/spec.l14States -/
def D96 : Info := ⟨16, fun i => ([], []), fun i => ([], [])⟩
def W96 (v0 : AV) (v1 : AV) (H : Heap) (K : AV → Heap → Prop) : Prop :=
 boxV v0 H fun v2 H1 =>
 lenV tab 46 v1 fun v6 =>
 binV tab .leq 3 v6 (AV.p (.int .i64 2000)) fun v7 =>
 grdV v7 true (fieldAddrV tab 39 v2 0 fun v10 =>
 loadV tab 35 v10 H1 fun v11 =>
 CallT Tryz.prog 53 [v11] H1 fun v12 H2 =>
 binV tab .sub 3 v12 (AV.p (.int .i64 1)) fun v13 =>
 CallT Tryz.prog 146 [v1, (AV.p (.int .i64 0)), v13] H2 fun v14 H3 =>
 K v14 H3)
 (K (AV.p (.bool false)) H1)
theorem W96_wp (v0 : AV) (v1 : AV) (H : Heap) (K : AV → Heap → Prop) : wpC Tryz.prog tab D96 (bodyOf Tryz.f96) (retF tab [.tmp 4] K) (nthA [v0, v1]) H = W96 v0 v1 H K := by kernel_rfl
theorem W96_ok {v0 v1 : AV} {H : Heap} {K : AV → Heap → Prop} (h : W96 v0 v1 H K) : CallT Tryz.prog 96 [v0, v1] H K :=
  CallT.of_wp (D := D96) tab_ok mixed Tryz.func96 (c := bodyOf Tryz.f96) (by kernel_rfl) rfl (by kernel_rfl) (rs := #[.tmp 4]) rfl (by decide +kernel) (by kernel_rfl) (W96_wp v0 v1 H K) h
/-- loop.example/g00649/spec.l1Own -/
def D97 : Info := ⟨6, fun i => ([], []), fun i => ([], [])⟩
def W97 (v0 : AV) (H : Heap) (K : AV → Heap → Prop) : Prop :=
 buildSliceV tab 46 0 [] H (wkK fun v3 H1 =>
 appendV tab 46 46 v3 v0 H1 (wkK fun v5 H2 =>
 K v5 H2))
theorem W97_wp (v0 : AV) (H : Heap) (K : AV → Heap → Prop) : wpC Tryz.prog tab D97 (bodyOf Tryz.f97) (retF tab [.tmp 2] K) (nthA [v0]) H = W97 v0 H K := by kernel_rfl
theorem W97_ok {v0 : AV} {H : Heap} {K : AV → Heap → Prop} (h : W97 v0 H K) : CallT Tryz.prog 97 [v0] H K :=
  CallT.of_wp (D := D97) tab_ok mixed Tryz.func97 (c := bodyOf Tryz.f97) (by kernel_rfl) rfl (by kernel_rfl) (rs := #[.tmp 2]) rfl (by decide +kernel) (by kernel_rfl) (W97_wp v0 H K) h
/-- loop.example/g00649/spec.l1Has -/
def D98 : Info := ⟨17, fun i => ([], []), fun i => if i = 2 then ([1, 7, 8], [9]) else ([], [])⟩
def L98_0 (K : AV → Heap → Prop) (v1 : AV) (v7 : AV) (v8 : AV) (v9 : AV) (H : Heap) : Prop := LoopV (wpC Tryz.prog tab D98 (cAt [1, 0, 1, 0, 0] (bodyOf Tryz.f98))) [1, 7, 8] (PostF.block 0 (PostF.thenA (wpC Tryz.prog tab D98 (cAt [1, 1] (bodyOf Tryz.f98))) (retF tab [.tmp 4] K))) [9] [AV.any, v1, AV.any, AV.any, AV.any, AV.any, AV.any, v7, v8, v9, AV.any, AV.any, AV.any, AV.any, AV.any, AV.any, AV.any] H
def B98_0 (K : AV → Heap → Prop) (N1 : AV → Heap → Prop) (v1 : AV) (v7 : AV) (v8 : AV) (v9 : AV) (H : Heap) : Prop :=
 binV tab .lss 3 v9 v8 fun v10 =>
 condV v10 (indexAddrV tab 46 v7 v9 fun v11 =>
 loadV tab 3 v11 H fun v12 =>
 binV tab .eql 3 v12 v1 fun v15 =>
 condV v15 (K (AV.p (.bool true)) H)
 (binV tab .add 3 v9 (AV.p (.int .i64 1)) fun v16 =>
 N1 v16 H))
 (K (AV.p (.bool false)) H)
def W98 (v0 : AV) (v1 : AV) (H : Heap) (K : AV → Heap → Prop) : Prop :=
 lenV tab 46 v0 fun v8 =>
 L98_0 K v1 v0 v8 (AV.p (.int .i64 0)) H
theorem W98_wp (v0 : AV) (v1 : AV) (H : Heap) (K : AV → Heap → Prop) : wpC Tryz.prog tab D98 (bodyOf Tryz.f98) (retF tab [.tmp 4] K) (nthA [v0, v1]) H = W98 v0 v1 H K := by kernel_rfl
theorem W98_ok {v0 v1 : AV} {H : Heap} {K : AV → Heap → Prop} (h : W98 v0 v1 H K) : CallT Tryz.prog 98 [v0, v1] H K :=
  CallT.of_wp (D := D98) tab_ok mixed Tryz.func98 (c := bodyOf Tryz.f98) (by kernel_rfl) rfl (by kernel_rfl) (rs := #[.tmp 4]) rfl (by decide +kernel) (by kernel_rfl) (W98_wp v0 v1 H K) h
theorem L98_0_rule {K : AV → Heap → Prop} {v1 v7 v8 v9 : AV} {H : Heap} {σ : Type} (s0 : σ) (f9 : σ → AV) (TH : σ → Heap) (pre : σ → Prop) (μ : σ → Nat)
    (h0 : pre s0 ∧ AV.wk v9 (f9 s0) ∧ Heap.le (TH s0) H)
    (round : ∀ s, pre s → B98_0 K (fun w9 H' => ∃ s', pre s' ∧ μ s' < μ s ∧ AV.wk w9 (f9 s') ∧ Heap.le (TH s') H') v1 v7 v8 (f9 s) (TH s)) :
    L98_0 K v1 v7 v8 v9 H := by
  unfold L98_0
  exact LoopV.mk s0 (fun s => [f9 s]) TH pre μ (fun _ => rfl) (Eq.mp (by kernel_rfl) h0) (fun s hs => Eq.mp (by kernel_rfl) (round s hs))
/-- loop.example/g00649/spec.l8Next -/
def D99 : Info := ⟨35, fun i => if i = 6 then ([[], [], [], [], [], [2, 3, 4], [1, 2, 3, 4, 5], [0, 1, 2, 3, 4, 5, 6], [0, 1, 2, 3, 4, 5, 6, 7]], [(0, []), (1, []), (2, []), (3, []), (4, []), (5, [1]), (6, []), (7, []), (8, [])]) else ([], []), fun i => if i = 4 then ([1, 2, 5, 14, 15], [6, 16]) else ([], [])⟩
def L99_0 (K : AV → Heap → Prop) (v1 : AV) (v2 : AV) (v5 : AV) (v6 : AV) (v14 : AV) (v15 : AV) (v16 : AV) (H : Heap) : Prop := LoopV (wpC Tryz.prog tab D99 (cAt [1, 1, 1, 0, 1, 0, 0] (bodyOf Tryz.f99))) [1, 2, 5, 14, 15] (PostF.block 0 (PostF.thenA (wpC Tryz.prog tab D99 (cAt [1, 1, 1, 1] (bodyOf Tryz.f99))) (retF tab [.tmp 4] K))) [6, 16] [AV.any, v1, v2, AV.any, AV.any, v5, v6, AV.any, AV.any, AV.any, AV.any, AV.any, AV.any, AV.any, v14, v15, v16, AV.any, AV.any, AV.any, AV.any, AV.any, AV.any, AV.any, AV.any, AV.any, AV.any, AV.any, AV.any, AV.any, AV.any, AV.any, AV.any, AV.any, AV.any] H
def B99_0 (K : AV → Heap → Prop) (N1 : AV → AV → Heap → Prop) (v1 : AV) (v2 : AV) (v5 : AV) (v6 : AV) (v14 : AV) (v15 : AV) (v16 : AV) (H : Heap) : Prop :=
 binV tab .lss 3 v16 v15 fun v17 =>
 condV v17 (indexAddrV tab 46 v14 v16 fun v18 =>
 loadV tab 3 v18 H fun v19 =>
 loadV tab 35 v2 H fun v21 =>
 loadV tab 35 v2 H fun v22 =>
 CallT Tryz.prog 149 [v22, v5, v19] H fun v25 H4 =>
 (loadV tab 35 v2 H4 fun v9021 =>
 v21 = v9021) ∧
 CallT Tryz.prog 148 [v21, v25] H4 fun v26 H5 =>
 CallT Tryz.prog 123 [v6, v26] H5 fun v27 H6 =>
 binV tab .add 3 v16 (AV.p (.int .i64 1)) fun v28 =>
 N1 v27 v28 H6)
 (lenV tab 46 v6 fun v30 =>
 binV tab .eql 3 v30 (AV.p (.int .i64 0)) fun v31 =>
 condV v31 (buildSliceV tab 46 1 [(0, v1)] H (wkK fun v33 H7 =>
 K v33 H7))
 (K v6 H))
def W99 (v0 : AV) (v1 : AV) (H : Heap) (K : AV → Heap → Prop) : Prop :=
 boxV v0 H fun v2 H1 =>
 loadV tab 35 v2 H1 fun v9 =>
 CallT Tryz.prog 92 [v9, v1] H1 fun v11 H2 =>
 loadV tab 35 v2 H2 fun v12 =>
 CallT Tryz.prog 147 [v12, v11] H2 fun v14 H3 =>
 lenV tab 46 v14 fun v15 =>
 L99_0 K v1 v2 v11 (AV.p .nil) v14 v15 (AV.p (.int .i64 0)) H3
theorem W99_wp (v0 : AV) (v1 : AV) (H : Heap) (K : AV → Heap → Prop) : wpC Tryz.prog tab D99 (bodyOf Tryz.f99) (retF tab [.tmp 4] K) (nthA [v0, v1]) H = W99 v0 v1 H K := by kernel_rfl
theorem W99_ok {v0 v1 : AV} {H : Heap} {K : AV → Heap → Prop} (h : W99 v0 v1 H K) : CallT Tryz.prog 99 [v0, v1] H K :=
  CallT.of_wp (D := D99) tab_ok mixed Tryz.func99 (c := bodyOf Tryz.f99) (by kernel_rfl) rfl (by kernel_rfl) (rs := #[.tmp 4]) rfl (by decide +kernel) (by kernel_rfl) (W99_wp v0 v1 H K) h
theorem L99_0_rule {K : AV → Heap → Prop} {v1 v2 v5 v6 v14 v15 v16 : AV} {H : Heap} {σ : Type} (s0 : σ) (f6 : σ → AV) (f16 : σ → AV) (TH : σ → Heap) (pre : σ → Prop) (μ : σ → Nat)
    (h0 : pre s0 ∧ AV.wk v6 (f6 s0) ∧ AV.wk v16 (f16 s0) ∧ Heap.le (TH s0) H)
    (round : ∀ s, pre s → B99_0 K (fun w6 w16 H' => ∃ s', pre s' ∧ μ s' < μ s ∧ AV.wk w6 (f6 s') ∧ AV.wk w16 (f16 s') ∧ Heap.le (TH s') H') v1 v2 v5 (f6 s) v14 v15 (f16 s) (TH s)) :
    L99_0 K v1 v2 v5 v6 v14 v15 v16 H := by
  unfold L99_0
  exact LoopV.mk s0 (fun s => [f6 s, f16 s]) TH pre μ (fun _ => rfl) (Eq.mp (by kernel_rfl) h0) (fun s hs => Eq.mp (by kernel_rfl) (round s hs))
/-- slices.Concat[[]int,int] -/
def D101 : Info := ⟨36, fun i => ([], []), fun i => if i = 3 then ([0, 9, 10], [3, 11]) else if i = 11 then ([25, 26], [6, 27]) else ([], [])⟩
def L101_0 (K : AV → Heap → Prop) (v0 : AV) (v3 : AV) (v9 : AV) (v10 : AV) (v11 : AV) (H : Heap) : Prop := LoopV (wpC Tryz.prog tab D101 (cAt [1, 1, 0, 1, 0, 0] (bodyOf Tryz.f101))) [0, 9, 10] (PostF.block 0 (PostF.thenA (wpC Tryz.prog tab D101 (cAt [1, 1, 1] (bodyOf Tryz.f101))) (retF tab [.tmp 2] K))) [3, 11] [v0, AV.any, AV.any, v3, AV.any, AV.any, AV.any, AV.any, AV.any, v9, v10, v11, AV.any, AV.any, AV.any, AV.any, AV.any, AV.any, AV.any, AV.any, AV.any, AV.any, AV.any, AV.any, AV.any, AV.any, AV.any, AV.any, AV.any, AV.any, AV.any, AV.any, AV.any, AV.any, AV.any, AV.any] H
def L101_1 (K : AV → Heap → Prop) (v6 : AV) (v25 : AV) (v26 : AV) (v27 : AV) (H : Heap) : Prop := LoopV (wpC Tryz.prog tab D101 (cAt [1, 1, 1, 1, 0, 1, 0, 0] (bodyOf Tryz.f101))) [25, 26] (PostF.block 2 (PostF.thenA (wpC Tryz.prog tab D101 (cAt [1, 1, 1, 1, 1] (bodyOf Tryz.f101))) (retF tab [.tmp 2] K))) [6, 27] [AV.any, AV.any, AV.any, AV.any, AV.any, AV.any, v6, AV.any, AV.any, AV.any, AV.any, AV.any, AV.any, AV.any, AV.any, AV.any, AV.any, AV.any, AV.any, AV.any, AV.any, AV.any, AV.any, AV.any, AV.any, v25, v26, v27, AV.any, AV.any, AV.any, AV.any, AV.any, AV.any, AV.any, AV.any] H
def B101_1 (K : AV → Heap → Prop) (N1 : AV → AV → Heap → Prop) (v6 : AV) (v25 : AV) (v26 : AV) (v27 : AV) (H : Heap) : Prop :=
 binV tab .lss 3 v27 v26 fun v28 =>
 condV v28 (indexAddrV tab 60 v25 v27 fun v29 =>
 loadV tab 46 v29 H fun v30 =>
 appendV tab 46 46 v6 v30 H (wkK fun v33 H2 =>
 binV tab .add 3 v27 (AV.p (.int .i64 1)) fun v34 =>
 N1 v33 v34 H2))
 (K v6 H)
def B101_0 (K : AV → Heap → Prop) (N1 : AV → AV → Heap → Prop) (v0 : AV) (v3 : AV) (v9 : AV) (v10 : AV) (v11 : AV) (H : Heap) : Prop :=
 binV tab .lss 3 v11 v10 fun v12 =>
 condV v12 (indexAddrV tab 60 v9 v11 fun v13 =>
 loadV tab 46 v13 H fun v14 =>
 lenV tab 46 v14 fun v17 =>
 binV tab .add 3 v3 v17 fun v18 =>
 binV tab .lss 3 v18 (AV.p (.int .i64 0)) fun v20 =>
 condV v20 (False)
 (binV tab .add 3 v11 (AV.p (.int .i64 1)) fun v22 =>
 N1 v18 v22 H))
 (CallT Tryz.prog 151 [(AV.p .nil), v3] H fun v24 H1 =>
 lenV tab 60 v0 fun v26 =>
 L101_1 K v24 v0 v26 (AV.p (.int .i64 0)) H1)
def W101 (v0 : AV) (H : Heap) (K : AV → Heap → Prop) : Prop :=
 lenV tab 60 v0 fun v10 =>
 L101_0 K v0 (AV.p (.int .i64 0)) v0 v10 (AV.p (.int .i64 0)) H
theorem W101_wp (v0 : AV) (H : Heap) (K : AV → Heap → Prop) : wpC Tryz.prog tab D101 (bodyOf Tryz.f101) (retF tab [.tmp 2] K) (nthA [v0]) H = W101 v0 H K := by kernel_rfl
theorem W101_ok {v0 : AV} {H : Heap} {K : AV → Heap → Prop} (h : W101 v0 H K) : CallT Tryz.prog 101 [v0] H K :=
  CallT.of_wp (D := D101) tab_ok mixed Tryz.func101 (c := bodyOf Tryz.f101) (by kernel_rfl) rfl (by kernel_rfl) (rs := #[.tmp 2]) rfl (by decide +kernel) (by kernel_rfl) (W101_wp v0 H K) h
theorem W101_hb : HasBody Tryz.prog 101 := ⟨_, bodyOf Tryz.f101, Tryz.func101, by kernel_rfl, rfl⟩
theorem L101_1_rule {K : AV → Heap → Prop} {v6 v25 v26 v27 : AV} {H : Heap} {σ : Type} (s0 : σ) (f6 : σ → AV) (f27 : σ → AV) (TH : σ → Heap) (pre : σ → Prop) (μ : σ → Nat)
    (h0 : pre s0 ∧ AV.wk v6 (f6 s0) ∧ AV.wk v27 (f27 s0) ∧ Heap.le (TH s0) H)
    (round : ∀ s, pre s → B101_1 K (fun w6 w27 H' => ∃ s', pre s' ∧ μ s' < μ s ∧ AV.wk w6 (f6 s') ∧ AV.wk w27 (f27 s') ∧ Heap.le (TH s') H') (f6 s) v25 v26 (f27 s) (TH s)) :
    L101_1 K v6 v25 v26 v27 H := by
  unfold L101_1
  exact LoopV.mk s0 (fun s => [f6 s, f27 s]) TH pre μ (fun _ => rfl) (Eq.mp (by kernel_rfl) h0) (fun s hs => Eq.mp (by kernel_rfl) (round s hs))
theorem L101_0_rule {K : AV → Heap → Prop} {v0 v3 v9 v10 v11 : AV} {H : Heap} {σ : Type} (s0 : σ) (f3 : σ → AV) (f11 : σ → AV) (TH : σ → Heap) (pre : σ → Prop) (μ : σ → Nat)
    (h0 : pre s0 ∧ AV.wk v3 (f3 s0) ∧ AV.wk v11 (f11 s0) ∧ Heap.le (TH s0) H)
    (round : ∀ s, pre s → B101_0 K (fun w3 w11 H' => ∃ s', pre s' ∧ μ s' < μ s ∧ AV.wk w3 (f3 s') ∧ AV.wk w11 (f11 s') ∧ Heap.le (TH s') H') v0 (f3 s) v9 v10 (f11 s) (TH s)) :
    L101_0 K v0 v3 v9 v10 v11 H := by
  unfold L101_0
  exact LoopV.mk s0 (fun s => [f3 s, f11 s]) TH pre μ (fun _ => rfl) (Eq.mp (by kernel_rfl) h0) (fun s hs => Eq.mp (by kernel_rfl) (round s hs))
/-- (loop.example/g00649/impl.Question).areStates$1 -/
def D102 : Info := ⟨11, fun i => ([], []), fun i => ([], [])⟩
def W102 (v0 : AV) (v1 : AV) (H : Heap) (K : AV → Heap → Prop) : Prop :=
 binV tab .lss 3 v0 (AV.p (.int .i64 0)) fun v5 =>
 grdV v5 false (loadV tab 3 v1 H fun v8 =>
 binV tab .geq 3 v0 v8 fun v9 =>
 K v9 H)
 (K (AV.p (.bool true)) H)
theorem W102_wp (v0 : AV) (v1 : AV) (H : Heap) (K : AV → Heap → Prop) : wpC Tryz.prog tab D102 (bodyOf Tryz.f102) (retF tab [.tmp 3] K) (nthA [v0, v1]) H = W102 v0 v1 H K := by kernel_rfl
theorem W102_ok {v0 v1 : AV} {H : Heap} {K : AV → Heap → Prop} (h : W102 v0 v1 H K) : CallT Tryz.prog 102 [v0, v1] H K :=
  CallT.of_wp (D := D102) tab_ok mixed Tryz.func102 (c := bodyOf Tryz.f102) (by kernel_rfl) rfl (by kernel_rfl) (rs := #[.tmp 3]) rfl (by decide +kernel) (by kernel_rfl) (W102_wp v0 v1 H K) h
/-- (loop.example/g00649/impl.Program).graph -/
def D103 : Info := ⟨19, fun i => ([], []), fun i => if i = 3 then ([1, 7], [3, 8]) else ([], [])⟩
def L103_0 (K : AV → Heap → Prop) (v1 : AV) (v3 : AV) (v7 : AV) (v8 : AV) (H : Heap) : Prop := LoopV (wpC Tryz.prog tab D103 (cAt [1, 1, 0, 1, 0, 0] (bodyOf Tryz.f103))) [1, 7] (PostF.block 0 (PostF.thenA (wpC Tryz.prog tab D103 (cAt [1, 1, 1] (bodyOf Tryz.f103))) (retF tab [.tmp 2] K))) [3, 8] [AV.any, v1, AV.any, v3, AV.any, AV.any, AV.any, v7, v8, AV.any, AV.any, AV.any, AV.any, AV.any, AV.any, AV.any, AV.any, AV.any, AV.any] H
def B103_0 (K : AV → Heap → Prop) (N1 : AV → AV → Heap → Prop) (v1 : AV) (v3 : AV) (v7 : AV) (v8 : AV) (H : Heap) : Prop :=
 binV tab .lss 3 v8 v7 fun v9 =>
 condV v9 (loadV tab 35 v1 H fun v12 =>
 CallT Tryz.prog 114 [v12, v8] H fun v14 H4 =>
 buildSliceV tab 60 1 [(0, v14)] H4 (wkK fun v15 H5 =>
 appendV tab 60 60 v3 v15 H5 (wkK fun v16 H6 =>
 binV tab .add 3 v8 (AV.p (.int .i64 1)) fun v17 =>
 N1 v16 v17 H6)))
 (K v3 H)
def W103 (v0 : AV) (H : Heap) (K : AV → Heap → Prop) : Prop :=
 boxV v0 H fun v1 H1 =>
 buildSliceV tab 60 0 [] H1 (wkK fun v5 H2 =>
 loadV tab 35 v1 H2 fun v6 =>
 CallT Tryz.prog 93 [v6] H2 fun v7 H3 =>
 L103_0 K v1 v5 v7 (AV.p (.int .i64 0)) H3)
theorem W103_wp (v0 : AV) (H : Heap) (K : AV → Heap → Prop) : wpC Tryz.prog tab D103 (bodyOf Tryz.f103) (retF tab [.tmp 2] K) (nthA [v0]) H = W103 v0 H K := by kernel_rfl
theorem W103_ok {v0 : AV} {H : Heap} {K : AV → Heap → Prop} (h : W103 v0 H K) : CallT Tryz.prog 103 [v0] H K :=
  CallT.of_wp (D := D103) tab_ok mixed Tryz.func103 (c := bodyOf Tryz.f103) (by kernel_rfl) rfl (by kernel_rfl) (rs := #[.tmp 2]) rfl (by decide +kernel) (by kernel_rfl) (W103_wp v0 H K) h
theorem L103_0_rule {K : AV → Heap → Prop} {v1 v3 v7 v8 : AV} {H : Heap} {σ : Type} (s0 : σ) (f3 : σ → AV) (f8 : σ → AV) (TH : σ → Heap) (pre : σ → Prop) (μ : σ → Nat)
    (h0 : pre s0 ∧ AV.wk v3 (f3 s0) ∧ AV.wk v8 (f8 s0) ∧ Heap.le (TH s0) H)
    (round : ∀ s, pre s → B103_0 K (fun w3 w8 H' => ∃ s', pre s' ∧ μ s' < μ s ∧ AV.wk w3 (f3 s') ∧ AV.wk w8 (f8 s') ∧ Heap.le (TH s') H') v1 (f3 s) v7 (f8 s) (TH s)) :
    L103_0 K v1 v3 v7 v8 H := by
  unfold L103_0
  exact LoopV.mk s0 (fun s => [f3 s, f8 s]) TH pre μ (fun _ => rfl) (Eq.mp (by kernel_rfl) h0) (fun s hs => Eq.mp (by kernel_rfl) (round s hs))
/-- slices.Contains[[]int,int] -/
def D104 : Info := ⟨9, fun i => ([], []), fun i => ([], [])⟩
def W104 (v0 : AV) (v1 : AV) (H : Heap) (K : AV → Heap → Prop) : Prop :=
 CallT Tryz.prog 152 [v0, v1] H fun v7 H1 =>
 binV tab .geq 3 v7 (AV.p (.int .i64 0)) fun v8 =>
 K v8 H1
theorem W104_wp (v0 : AV) (v1 : AV) (H : Heap) (K : AV → Heap → Prop) : wpC Tryz.prog tab D104 (bodyOf Tryz.f104) (retF tab [.tmp 4] K) (nthA [v0, v1]) H = W104 v0 v1 H K := by kernel_rfl
theorem W104_ok {v0 v1 : AV} {H : Heap} {K : AV → Heap → Prop} (h : W104 v0 v1 H K) : CallT Tryz.prog 104 [v0, v1] H K :=
  CallT.of_wp (D := D104) tab_ok mixed Tryz.func104 (c := bodyOf Tryz.f104) (by kernel_rfl) rfl (by kernel_rfl) (rs := #[.tmp 4]) rfl (by decide +kernel) (by kernel_rfl) (W104_wp v0 v1 H K) h
/-- (loop.example/g00649/impl.Program).nextOf -/
def D114 : Info := ⟨44, fun i => if i = 6 then ([[], [], [], [], [], [2, 3, 4], [1, 2, 3, 4, 5], [1, 2, 3, 4, 5, 6], [0, 1, 2, 3, 4, 5, 6, 7], [0, 1, 2, 3, 4, 5, 6, 7, 8]], [(0, []), (1, []), (2, []), (3, []), (4, []), (5, [1]), (6, []), (7, []), (8, []), (9, [])]) else ([], []), fun i => if i = 3 then ([1, 2, 5, 14, 15], [6, 16]) else ([], [])⟩
def L114_0 (K : AV → Heap → Prop) (v1 : AV) (v2 : AV) (v5 : AV) (v6 : AV) (v14 : AV) (v15 : AV) (v16 : AV) (H : Heap) : Prop := LoopV (wpC Tryz.prog tab D114 (cAt [1, 1, 0, 1, 0, 0] (bodyOf Tryz.f114))) [1, 2, 5, 14, 15] (PostF.block 0 (PostF.thenA (wpC Tryz.prog tab D114 (cAt [1, 1, 1] (bodyOf Tryz.f114))) (retF tab [.tmp 4] K))) [6, 16] [AV.any, v1, v2, AV.any, AV.any, v5, v6, AV.any, AV.any, AV.any, AV.any, AV.any, AV.any, AV.any, v14, v15, v16, AV.any, AV.any, AV.any, AV.any, AV.any, AV.any, AV.any, AV.any, AV.any, AV.any, AV.any, AV.any, AV.any, AV.any, AV.any, AV.any, AV.any, AV.any, AV.any, AV.any, AV.any, AV.any, AV.any, AV.any, AV.any, AV.any, AV.any] H
def B114_0 (K : AV → Heap → Prop) (N1 : AV → AV → Heap → Prop) (v1 : AV) (v2 : AV) (v5 : AV) (v6 : AV) (v14 : AV) (v15 : AV) (v16 : AV) (H : Heap) : Prop :=
 binV tab .lss 3 v16 v15 fun v17 =>
 condV v17 (indexAddrV tab 33 v14 v16 fun v18 =>
 loadV tab 150 v18 H fun v19 =>
 allocV tab 150 H fun v8 H4 =>
 storeV tab 150 v8 v19 H4 fun H5 =>
 loadV tab 35 v2 H5 fun v20 =>
 fieldAddrV tab 150 v8 0 fun v21 =>
 loadV tab 32 v21 H5 fun v22 =>
 CallT Tryz.prog 95 [v20, v22, v5] H5 fun v24 H6 =>
 condV v24 (loadV tab 35 v2 H6 fun v26 =>
 loadV tab 35 v2 H6 fun v27 =>
 loadV tab 150 v8 H6 fun v28 =>
 CallT Tryz.prog 159 [v27, v28, v5] H6 fun v30 H7 =>
 (loadV tab 35 v2 H7 fun v9026 =>
 v26 = v9026) ∧
 CallT Tryz.prog 158 [v26, v30] H7 fun v31 H8 =>
 buildSliceV tab 46 1 [(0, v31)] H8 (wkK fun v32 H9 =>
 appendV tab 46 46 v6 v32 H9 (wkK fun v33 H10 =>
 binV tab .add 3 v16 (AV.p (.int .i64 1)) fun v34 =>
 N1 v33 v34 H10)))
 (binV tab .add 3 v16 (AV.p (.int .i64 1)) fun v34 =>
 N1 v6 v34 H6))
 (lenV tab 46 v6 fun v36 =>
 binV tab .eql 3 v36 (AV.p (.int .i64 0)) fun v37 =>
 condV v37 (buildSliceV tab 46 1 [(0, v1)] H (wkK fun v39 H11 =>
 K v39 H11))
 (CallT Tryz.prog 137 [v6] H fun v41 H12 =>
 CallT Tryz.prog 138 [v6] H12 fun v43 H13 =>
 K v43 H13))
def W114 (v0 : AV) (v1 : AV) (H : Heap) (K : AV → Heap → Prop) : Prop :=
 boxV v0 H fun v2 H1 =>
 loadV tab 35 v2 H1 fun v9 =>
 CallT Tryz.prog 94 [v9, v1] H1 fun v11 H2 =>
 buildSliceV tab 46 0 [] H2 (wkK fun v12 H3 =>
 fieldAddrV tab 35 v2 3 fun v13 =>
 loadV tab 33 v13 H3 fun v14 =>
 lenV tab 33 v14 fun v15 =>
 L114_0 K v1 v2 v11 v12 v14 v15 (AV.p (.int .i64 0)) H3)
theorem W114_wp (v0 : AV) (v1 : AV) (H : Heap) (K : AV → Heap → Prop) : wpC Tryz.prog tab D114 (bodyOf Tryz.f114) (retF tab [.tmp 4] K) (nthA [v0, v1]) H = W114 v0 v1 H K := by kernel_rfl
theorem W114_ok {v0 v1 : AV} {H : Heap} {K : AV → Heap → Prop} (h : W114 v0 v1 H K) : CallT Tryz.prog 114 [v0, v1] H K :=
  CallT.of_wp (D := D114) tab_ok mixed Tryz.func114 (c := bodyOf Tryz.f114) (by kernel_rfl) rfl (by kernel_rfl) (rs := #[.tmp 4]) rfl (by decide +kernel) (by kernel_rfl) (W114_wp v0 v1 H K) h
theorem L114_0_rule {K : AV → Heap → Prop} {v1 v2 v5 v6 v14 v15 v16 : AV} {H : Heap} {σ : Type} (s0 : σ) (f6 : σ → AV) (f16 : σ → AV) (TH : σ → Heap) (pre : σ → Prop) (μ : σ → Nat)
    (h0 : pre s0 ∧ AV.wk v6 (f6 s0) ∧ AV.wk v16 (f16 s0) ∧ Heap.le (TH s0) H)
    (round : ∀ s, pre s → B114_0 K (fun w6 w16 H' => ∃ s', pre s' ∧ μ s' < μ s ∧ AV.wk w6 (f6 s') ∧ AV.wk w16 (f16 s') ∧ Heap.le (TH s') H') v1 v2 v5 (f6 s) v14 v15 (f16 s) (TH s)) :
    L114_0 K v1 v2 v5 v6 v14 v15 v16 H := by
  unfold L114_0
  exact LoopV.mk s0 (fun s => [f6 s, f16 s]) TH pre μ (fun _ => rfl) (Eq.mp (by kernel_rfl) h0) (fun s hs => Eq.mp (by kernel_rfl) (round s hs))
/-- loop.example/g00649/spec.l1All -/
def D146 : Info := ⟨21, fun i => ([], []), fun i => if i = 2 then ([1, 2, 9, 10], [11]) else ([], [])⟩
def L146_0 (K : AV → Heap → Prop) (v1 : AV) (v2 : AV) (v9 : AV) (v10 : AV) (v11 : AV) (H : Heap) : Prop := LoopV (wpC Tryz.prog tab D146 (cAt [1, 0, 1, 0, 0] (bodyOf Tryz.f146))) [1, 2, 9, 10] (PostF.block 0 (PostF.thenA (wpC Tryz.prog tab D146 (cAt [1, 1] (bodyOf Tryz.f146))) (retF tab [.tmp 6] K))) [11] [AV.any, v1, v2, AV.any, AV.any, AV.any, AV.any, AV.any, AV.any, v9, v10, v11, AV.any, AV.any, AV.any, AV.any, AV.any, AV.any, AV.any, AV.any, AV.any] H
def B146_0 (K : AV → Heap → Prop) (N1 : AV → Heap → Prop) (v1 : AV) (v2 : AV) (v9 : AV) (v10 : AV) (v11 : AV) (H : Heap) : Prop :=
 binV tab .lss 3 v11 v10 fun v12 =>
 condV v12 (indexAddrV tab 46 v9 v11 fun v13 =>
 loadV tab 3 v13 H fun v14 =>
 CallT Tryz.prog 52 [v14, v1, v2] H fun v18 H1 =>
 unV .not v18 fun v19 =>
 condV v19 (K (AV.p (.bool false)) H1)
 (binV tab .add 3 v11 (AV.p (.int .i64 1)) fun v20 =>
 N1 v20 H1))
 (K (AV.p (.bool true)) H)
def W146 (v0 : AV) (v1 : AV) (v2 : AV) (H : Heap) (K : AV → Heap → Prop) : Prop :=
 lenV tab 46 v0 fun v10 =>
 L146_0 K v1 v2 v0 v10 (AV.p (.int .i64 0)) H
theorem W146_wp (v0 : AV) (v1 : AV) (v2 : AV) (H : Heap) (K : AV → Heap → Prop) : wpC Tryz.prog tab D146 (bodyOf Tryz.f146) (retF tab [.tmp 6] K) (nthA [v0, v1, v2]) H = W146 v0 v1 v2 H K := by kernel_rfl
theorem W146_ok {v0 v1 v2 : AV} {H : Heap} {K : AV → Heap → Prop} (h : W146 v0 v1 v2 H K) : CallT Tryz.prog 146 [v0, v1, v2] H K :=
  CallT.of_wp (D := D146) tab_ok mixed Tryz.func146 (c := bodyOf Tryz.f146) (by kernel_rfl) rfl (by kernel_rfl) (rs := #[.tmp 6]) rfl (by decide +kernel) (by kernel_rfl) (W146_wp v0 v1 v2 H K) h
theorem L146_0_rule {K : AV → Heap → Prop} {v1 v2 v9 v10 v11 : AV} {H : Heap} {σ : Type} (s0 : σ) (f11 : σ → AV) (TH : σ → Heap) (pre : σ → Prop) (μ : σ → Nat)
    (h0 : pre s0 ∧ AV.wk v11 (f11 s0) ∧ Heap.le (TH s0) H)
    (round : ∀ s, pre s → B146_0 K (fun w11 H' => ∃ s', pre s' ∧ μ s' < μ s ∧ AV.wk w11 (f11 s') ∧ Heap.le (TH s') H') v1 v2 v9 v10 (f11 s) (TH s)) :
    L146_0 K v1 v2 v9 v10 v11 H := by
  unfold L146_0
  exact LoopV.mk s0 (fun s => [f11 s]) TH pre μ (fun _ => rfl) (Eq.mp (by kernel_rfl) h0) (fun s hs => Eq.mp (by kernel_rfl) (round s hs))
/-- loop.example/g00649/spec.l7Enabled -/
def D147 : Info := ⟨27, fun i => ([], []), fun i => if i = 3 then ([1, 2, 9, 10], [5, 11]) else ([], [])⟩
def L147_0 (K : AV → Heap → Prop) (v1 : AV) (v2 : AV) (v5 : AV) (v9 : AV) (v10 : AV) (v11 : AV) (H : Heap) : Prop := LoopV (wpC Tryz.prog tab D147 (cAt [1, 1, 0, 1, 0, 0] (bodyOf Tryz.f147))) [1, 2, 9, 10] (PostF.block 0 (PostF.thenA (wpC Tryz.prog tab D147 (cAt [1, 1, 1] (bodyOf Tryz.f147))) (retF tab [.tmp 4] K))) [5, 11] [AV.any, v1, v2, AV.any, AV.any, v5, AV.any, AV.any, AV.any, v9, v10, v11, AV.any, AV.any, AV.any, AV.any, AV.any, AV.any, AV.any, AV.any, AV.any, AV.any, AV.any, AV.any, AV.any, AV.any, AV.any] H
def B147_0 (K : AV → Heap → Prop) (N1 : AV → AV → Heap → Prop) (v1 : AV) (v2 : AV) (v5 : AV) (v9 : AV) (v10 : AV) (v11 : AV) (H : Heap) : Prop :=
 binV tab .lss 3 v11 v10 fun v12 =>
 condV v12 (indexAddrV tab 33 v9 v11 fun v14 =>
 loadV tab 150 v14 H fun v15 =>
 allocV tab 150 H fun v7 H2 =>
 storeV tab 150 v7 v15 H2 fun H3 =>
 loadV tab 35 v2 H3 fun v16 =>
 fieldAddrV tab 150 v7 0 fun v17 =>
 loadV tab 32 v17 H3 fun v18 =>
 CallT Tryz.prog 91 [v16, v18, v1] H3 fun v20 H4 =>
 condV v20 (buildSliceV tab 46 1 [(0, v11)] H4 (wkK fun v23 H5 =>
 appendV tab 46 46 v5 v23 H5 (wkK fun v24 H6 =>
 binV tab .add 3 v11 (AV.p (.int .i64 1)) fun v25 =>
 N1 v24 v25 H6)))
 (binV tab .add 3 v11 (AV.p (.int .i64 1)) fun v25 =>
 N1 v5 v25 H4))
 (K v5 H)
def W147 (v0 : AV) (v1 : AV) (H : Heap) (K : AV → Heap → Prop) : Prop :=
 boxV v0 H fun v2 H1 =>
 fieldAddrV tab 35 v2 3 fun v8 =>
 loadV tab 33 v8 H1 fun v9 =>
 lenV tab 33 v9 fun v10 =>
 L147_0 K v1 v2 (AV.p .nil) v9 v10 (AV.p (.int .i64 0)) H1
theorem W147_wp (v0 : AV) (v1 : AV) (H : Heap) (K : AV → Heap → Prop) : wpC Tryz.prog tab D147 (bodyOf Tryz.f147) (retF tab [.tmp 4] K) (nthA [v0, v1]) H = W147 v0 v1 H K := by kernel_rfl
theorem W147_ok {v0 v1 : AV} {H : Heap} {K : AV → Heap → Prop} (h : W147 v0 v1 H K) : CallT Tryz.prog 147 [v0, v1] H K :=
  CallT.of_wp (D := D147) tab_ok mixed Tryz.func147 (c := bodyOf Tryz.f147) (by kernel_rfl) rfl (by kernel_rfl) (rs := #[.tmp 4]) rfl (by decide +kernel) (by kernel_rfl) (W147_wp v0 v1 H K) h
theorem W147_hb : HasBody Tryz.prog 147 := ⟨_, bodyOf Tryz.f147, Tryz.func147, by kernel_rfl, rfl⟩
theorem L147_0_rule {K : AV → Heap → Prop} {v1 v2 v5 v9 v10 v11 : AV} {H : Heap} {σ : Type} (s0 : σ) (f5 : σ → AV) (f11 : σ → AV) (TH : σ → Heap) (pre : σ → Prop) (μ : σ → Nat)
    (h0 : pre s0 ∧ AV.wk v5 (f5 s0) ∧ AV.wk v11 (f11 s0) ∧ Heap.le (TH s0) H)
    (round : ∀ s, pre s → B147_0 K (fun w5 w11 H' => ∃ s', pre s' ∧ μ s' < μ s ∧ AV.wk w5 (f5 s') ∧ AV.wk w11 (f11 s') ∧ Heap.le (TH s') H') v1 v2 (f5 s) v9 v10 (f11 s) (TH s)) :
    L147_0 K v1 v2 v5 v9 v10 v11 H := by
  unfold L147_0
  exact LoopV.mk s0 (fun s => [f5 s, f11 s]) TH pre μ (fun _ => rfl) (Eq.mp (by kernel_rfl) h0) (fun s hs => Eq.mp (by kernel_rfl) (round s hs))
end Go.Proofs.YtgcklgeifdefhaaGreat
/- What each function's code is asked for, as a formula. Written by wgen.py (a program of this session's) out of Lean's print of the program. -/
namespace Go.Proofs.YtgcklgeifdefhaaGreat
open Go Go.Sep
set_option linter.unusedVariables false
attribute [local irreducible] wpC headF
/-- loop.example/g00649/spec.l7No -/
def D148 : Info := ⟨26, fun i => if i = 5 then ([[], [], [1], [1, 2], [0, 1, 2, 3], [], [], [5, 6], [5, 6, 7], [5, 6, 7, 8], [0, 1, 2, 3, 4, 5, 6, 7, 8, 9], [0, 1, 2, 3, 4, 5, 6, 7, 8, 9, 10]], [(0, []), (1, []), (2, []), (3, []), (4, []), (5, []), (6, []), (7, []), (8, []), (9, []), (10, []), (11, [])]) else ([], []), fun i => if i = 3 then ([1, 2], [5, 6]) else ([], [])⟩
def L148_0 (K : AV → Heap → Prop) (v1 : AV) (v2 : AV) (v5 : AV) (v6 : AV) (H : Heap) : Prop := LoopV (wpC Tryz.prog tab D148 (cAt [1, 1, 0, 1, 0, 0] (bodyOf Tryz.f148))) [1, 2] (PostF.block 0 (PostF.thenA (wpC Tryz.prog tab D148 (cAt [1, 1, 1] (bodyOf Tryz.f148))) (retF tab [.tmp 4] K))) [5, 6] [AV.any, v1, v2, AV.any, AV.any, v5, v6, AV.any, AV.any, AV.any, AV.any, AV.any, AV.any, AV.any, AV.any, AV.any, AV.any, AV.any, AV.any, AV.any, AV.any, AV.any, AV.any, AV.any, AV.any, AV.any] H
def B148_0 (K : AV → Heap → Prop) (N1 : AV → AV → Heap → Prop) (v1 : AV) (v2 : AV) (v5 : AV) (v6 : AV) (H : Heap) : Prop :=
 binV tab .geq 3 v6 (AV.p (.int .i64 0)) fun v11 =>
 condV v11 (fieldAddrV tab 35 v2 0 fun v15 =>
 loadV tab 3 v15 H fun v16 =>
 convV tab 3 114 v16 fun v17 =>
 binV tab .shl 3 v5 v17 fun v18 =>
 indexAddrV tab 116 v1 v6 fun v21 =>
 loadV tab 153 v21 H fun v22 =>
 convV tab 153 3 v22 fun v23 =>
 binV tab .add 3 v18 v23 fun v24 =>
 binV tab .sub 3 v6 (AV.p (.int .i64 1)) fun v13 =>
 N1 v24 v13 H)
 (K v5 H)
def W148 (v0 : AV) (v1 : AV) (H : Heap) (K : AV → Heap → Prop) : Prop :=
 boxV v0 H fun v2 H1 =>
 fieldAddrV tab 35 v2 1 fun v7 =>
 loadV tab 3 v7 H1 fun v8 =>
 binV tab .sub 3 v8 (AV.p (.int .i64 1)) fun v9 =>
 L148_0 K v1 v2 (AV.p (.int .i64 0)) v9 H1
theorem W148_wp (v0 : AV) (v1 : AV) (H : Heap) (K : AV → Heap → Prop) : wpC Tryz.prog tab D148 (bodyOf Tryz.f148) (retF tab [.tmp 4] K) (nthA [v0, v1]) H = W148 v0 v1 H K := by kernel_rfl
theorem W148_ok {v0 v1 : AV} {H : Heap} {K : AV → Heap → Prop} (h : W148 v0 v1 H K) : CallT Tryz.prog 148 [v0, v1] H K :=
  CallT.of_wp (D := D148) tab_ok mixed Tryz.func148 (c := bodyOf Tryz.f148) (by kernel_rfl) rfl (by kernel_rfl) (rs := #[.tmp 4]) rfl (by decide +kernel) (by kernel_rfl) (W148_wp v0 v1 H K) h
theorem L148_0_rule {K : AV → Heap → Prop} {v1 v2 v5 v6 : AV} {H : Heap} {σ : Type} (s0 : σ) (f5 : σ → AV) (f6 : σ → AV) (TH : σ → Heap) (pre : σ → Prop) (μ : σ → Nat)
    (h0 : pre s0 ∧ AV.wk v5 (f5 s0) ∧ AV.wk v6 (f6 s0) ∧ Heap.le (TH s0) H)
    (round : ∀ s, pre s → B148_0 K (fun w5 w6 H' => ∃ s', pre s' ∧ μ s' < μ s ∧ AV.wk w5 (f5 s') ∧ AV.wk w6 (f6 s') ∧ Heap.le (TH s') H') v1 v2 (f5 s) (f6 s) (TH s)) :
    L148_0 K v1 v2 v5 v6 H := by
  unfold L148_0
  exact LoopV.mk s0 (fun s => [f5 s, f6 s]) TH pre μ (fun _ => rfl) (Eq.mp (by kernel_rfl) h0) (fun s hs => Eq.mp (by kernel_rfl) (round s hs))
/-- loop.example/g00649/spec.l7Do -/
def D149 : Info := ⟨40, fun i => if i = 5 then ([[], [], [1], [], [3], [], [5], [], [7], [7, 8], [7, 8, 9], [], [3, 4, 5, 6, 7, 8, 9, 10, 11], [0, 1, 2, 3, 4, 5, 6, 7, 8, 9, 10, 11, 12], [0, 1, 2, 3, 4, 5, 6, 7, 8, 9, 10, 11, 12, 13]], [(0, []), (1, []), (2, []), (3, []), (4, []), (5, []), (6, []), (7, []), (8, []), (9, []), (10, []), (11, []), (12, [2]), (13, []), (14, [])]) else ([], []), fun i => if i = 3 then ([1, 3, 7, 18, 19], [20]) else ([], [])⟩
def L149_0 (K : AV → Heap → Prop) (v1 : AV) (v3 : AV) (v7 : AV) (v18 : AV) (v19 : AV) (v20 : AV) (H : Heap) : Prop := LoopV (wpC Tryz.prog tab D149 (cAt [1, 1, 0, 1, 0, 0] (bodyOf Tryz.f149))) [1, 3, 7, 18, 19] (PostF.block 0 (PostF.thenA (wpC Tryz.prog tab D149 (cAt [1, 1, 1] (bodyOf Tryz.f149))) (retF tab [.tmp 6] K))) [20] [AV.any, v1, AV.any, v3, AV.any, AV.any, AV.any, v7, AV.any, AV.any, AV.any, AV.any, AV.any, AV.any, AV.any, AV.any, AV.any, AV.any, v18, v19, v20, AV.any, AV.any, AV.any, AV.any, AV.any, AV.any, AV.any, AV.any, AV.any, AV.any, AV.any, AV.any, AV.any, AV.any, AV.any, AV.any, AV.any, AV.any, AV.any] H
def B149_0 (K : AV → Heap → Prop) (N1 : AV → Heap → Prop) (v1 : AV) (v3 : AV) (v7 : AV) (v18 : AV) (v19 : AV) (v20 : AV) (H : Heap) : Prop :=
 binV tab .lss 3 v20 v19 fun v21 =>
 condV v21 (indexAddrV tab 148 v18 v20 fun v22 =>
 loadV tab 188 v22 H fun v23 =>
 allocV tab 188 H fun v9 H4 =>
 storeV tab 188 v9 v23 H4 fun H5 =>
 fieldAddrV tab 188 v9 0 fun v25 =>
 loadV tab 3 v25 H5 fun v26 =>
 fieldAddrV tab 35 v3 0 fun v27 =>
 loadV tab 3 v27 H5 fun v28 =>
 fieldAddrV tab 188 v9 1 fun v29 =>
 loadV tab 32 v29 H5 fun v30 =>
 fieldAddrV tab 188 v9 1 fun v31 =>
 loadV tab 32 v31 H5 fun v32 =>
 lenV tab 32 v32 fun v33 =>
 binV tab .sub 3 v33 (AV.p (.int .i64 1)) fun v34 =>
 CallT Tryz.prog 143 [v28, v30, v34, v1] H5 fun v36 H6 =>
 (loadV tab 3 v25 H6 fun v9026 =>
 v26 = v9026) ∧
 indexAddrV tab 116 v7 v26 fun v37 =>
 storeV tab 153 v37 v36 H6 fun H7 =>
 binV tab .add 3 v20 (AV.p (.int .i64 1)) fun v38 =>
 N1 v38 H7)
 (K v7 H)
def W149 (v0 : AV) (v1 : AV) (v2 : AV) (H : Heap) (K : AV → Heap → Prop) : Prop :=
 boxV v0 H fun v3 H1 =>
 buildSliceV tab 116 0 [] H1 (wkK fun v10 H2 =>
 appendV tab 116 116 v10 v1 H2 (wkK fun v12 H3 =>
 fieldAddrV tab 35 v3 3 fun v13 =>
 loadV tab 33 v13 H3 fun v14 =>
 indexAddrV tab 33 v14 v2 fun v16 =>
 fieldAddrV tab 150 v16 1 fun v17 =>
 loadV tab 148 v17 H3 fun v18 =>
 lenV tab 148 v18 fun v19 =>
 L149_0 K v1 v3 v12 v18 v19 (AV.p (.int .i64 0)) H3))
theorem W149_wp (v0 : AV) (v1 : AV) (v2 : AV) (H : Heap) (K : AV → Heap → Prop) : wpC Tryz.prog tab D149 (bodyOf Tryz.f149) (retF tab [.tmp 6] K) (nthA [v0, v1, v2]) H = W149 v0 v1 v2 H K := by kernel_rfl
theorem W149_ok {v0 v1 v2 : AV} {H : Heap} {K : AV → Heap → Prop} (h : W149 v0 v1 v2 H K) : CallT Tryz.prog 149 [v0, v1, v2] H K :=
  CallT.of_wp (D := D149) tab_ok mixed Tryz.func149 (c := bodyOf Tryz.f149) (by kernel_rfl) rfl (by kernel_rfl) (rs := #[.tmp 6]) rfl (by decide +kernel) (by kernel_rfl) (W149_wp v0 v1 v2 H K) h
theorem L149_0_rule {K : AV → Heap → Prop} {v1 v3 v7 v18 v19 v20 : AV} {H : Heap} {σ : Type} (s0 : σ) (f20 : σ → AV) (TH : σ → Heap) (pre : σ → Prop) (μ : σ → Nat)
    (h0 : pre s0 ∧ AV.wk v20 (f20 s0) ∧ Heap.le (TH s0) H)
    (round : ∀ s, pre s → B149_0 K (fun w20 H' => ∃ s', pre s' ∧ μ s' < μ s ∧ AV.wk w20 (f20 s') ∧ Heap.le (TH s') H') v1 v3 v7 v18 v19 (f20 s) (TH s)) :
    L149_0 K v1 v3 v7 v18 v19 v20 H := by
  unfold L149_0
  exact LoopV.mk s0 (fun s => [f20 s]) TH pre μ (fun _ => rfl) (Eq.mp (by kernel_rfl) h0) (fun s hs => Eq.mp (by kernel_rfl) (round s hs))
/-- slices.Grow[[]int,int] -/
def D151 : Info := ⟨27, fun i => ([], []), fun i => ([], [])⟩
def W151 (v0 : AV) (v1 : AV) (H : Heap) (K : AV → Heap → Prop) : Prop :=
 binV tab .lss 3 v1 (AV.p (.int .i64 0)) fun v6 =>
 condV v6 (False)
 (capV tab 46 v0 fun v10 =>
 lenV tab 46 v0 fun v12 =>
 binV tab .sub 3 v10 v12 fun v13 =>
 binV tab .sub 3 v1 v13 fun v14 =>
 binV tab .gtr 3 v14 (AV.p (.int .i64 0)) fun v16 =>
 condV v16 (capV tab 46 v0 fun v19 =>
 sliceV tab 46 v0 none (some v19) none fun v20 =>
 appendV tab 46 3 v20 v14 H (wkK fun v22 H1 =>
 lenV tab 46 v0 fun v24 =>
 sliceV tab 46 v22 none (some v24) none fun v25 =>
 K v25 H1))
 (K v0 H))
theorem W151_wp (v0 : AV) (v1 : AV) (H : Heap) (K : AV → Heap → Prop) : wpC Tryz.prog tab D151 (bodyOf Tryz.f151) (retF tab [.tmp 4] K) (nthA [v0, v1]) H = W151 v0 v1 H K := by kernel_rfl
theorem W151_ok {v0 v1 : AV} {H : Heap} {K : AV → Heap → Prop} (h : W151 v0 v1 H K) : CallT Tryz.prog 151 [v0, v1] H K :=
  CallT.of_wp (D := D151) tab_ok mixed Tryz.func151 (c := bodyOf Tryz.f151) (by kernel_rfl) rfl (by kernel_rfl) (rs := #[.tmp 4]) rfl (by decide +kernel) (by kernel_rfl) (W151_wp v0 v1 H K) h
/-- slices.Index[[]int,int] -/
def D152 : Info := ⟨19, fun i => ([], []), fun i => if i = 2 then ([0, 1, 7], [8]) else ([], [])⟩
def L152_0 (K : AV → Heap → Prop) (v0 : AV) (v1 : AV) (v7 : AV) (v8 : AV) (H : Heap) : Prop := LoopV (wpC Tryz.prog tab D152 (cAt [1, 0, 1, 0, 0] (bodyOf Tryz.f152))) [0, 1, 7] (PostF.block 0 (PostF.thenA (wpC Tryz.prog tab D152 (cAt [1, 1] (bodyOf Tryz.f152))) (retF tab [.tmp 4] K))) [8] [v0, v1, AV.any, AV.any, AV.any, AV.any, AV.any, v7, v8, AV.any, AV.any, AV.any, AV.any, AV.any, AV.any, AV.any, AV.any, AV.any, AV.any] H
def B152_0 (K : AV → Heap → Prop) (N1 : AV → Heap → Prop) (v0 : AV) (v1 : AV) (v7 : AV) (v8 : AV) (H : Heap) : Prop :=
 binV tab .lss 3 v8 v7 fun v9 =>
 condV v9 (indexAddrV tab 46 v0 v8 fun v14 =>
 loadV tab 3 v14 H fun v15 =>
 binV tab .eql 3 v1 v15 fun v16 =>
 condV v16 (K v8 H)
 (binV tab .add 3 v8 (AV.p (.int .i64 1)) fun v18 =>
 N1 v18 H))
 (K (AV.p (.int .i64 (-1))) H)
def W152 (v0 : AV) (v1 : AV) (H : Heap) (K : AV → Heap → Prop) : Prop :=
 lenV tab 46 v0 fun v7 =>
 L152_0 K v0 v1 v7 (AV.p (.int .i64 0)) H
theorem W152_wp (v0 : AV) (v1 : AV) (H : Heap) (K : AV → Heap → Prop) : wpC Tryz.prog tab D152 (bodyOf Tryz.f152) (retF tab [.tmp 4] K) (nthA [v0, v1]) H = W152 v0 v1 H K := by kernel_rfl
theorem W152_ok {v0 v1 : AV} {H : Heap} {K : AV → Heap → Prop} (h : W152 v0 v1 H K) : CallT Tryz.prog 152 [v0, v1] H K :=
  CallT.of_wp (D := D152) tab_ok mixed Tryz.func152 (c := bodyOf Tryz.f152) (by kernel_rfl) rfl (by kernel_rfl) (rs := #[.tmp 4]) rfl (by decide +kernel) (by kernel_rfl) (W152_wp v0 v1 H K) h
theorem L152_0_rule {K : AV → Heap → Prop} {v0 v1 v7 v8 : AV} {H : Heap} {σ : Type} (s0 : σ) (f8 : σ → AV) (TH : σ → Heap) (pre : σ → Prop) (μ : σ → Nat)
    (h0 : pre s0 ∧ AV.wk v8 (f8 s0) ∧ Heap.le (TH s0) H)
    (round : ∀ s, pre s → B152_0 K (fun w8 H' => ∃ s', pre s' ∧ μ s' < μ s ∧ AV.wk w8 (f8 s') ∧ Heap.le (TH s') H') v0 v1 v7 (f8 s) (TH s)) :
    L152_0 K v0 v1 v7 v8 H := by
  unfold L152_0
  exact LoopV.mk s0 (fun s => [f8 s]) TH pre μ (fun _ => rfl) (Eq.mp (by kernel_rfl) h0) (fun s hs => Eq.mp (by kernel_rfl) (round s hs))
/-- (loop.example/g00649/impl.Program).stateNo -/
def D158 : Info := ⟨26, fun i => ([], []), fun i => if i = 3 then ([2, 8, 9], [5, 10]) else ([], [])⟩
def L158_0 (K : AV → Heap → Prop) (v2 : AV) (v5 : AV) (v8 : AV) (v9 : AV) (v10 : AV) (H : Heap) : Prop := LoopV (wpC Tryz.prog tab D158 (cAt [1, 1, 0, 1, 0, 0] (bodyOf Tryz.f158))) [2, 8, 9] (PostF.block 0 (PostF.thenA (wpC Tryz.prog tab D158 (cAt [1, 1, 1] (bodyOf Tryz.f158))) (retF tab [.tmp 4] K))) [5, 10] [AV.any, AV.any, v2, AV.any, AV.any, v5, AV.any, AV.any, v8, v9, v10, AV.any, AV.any, AV.any, AV.any, AV.any, AV.any, AV.any, AV.any, AV.any, AV.any, AV.any, AV.any, AV.any, AV.any, AV.any] H
def B158_0 (K : AV → Heap → Prop) (N1 : AV → AV → Heap → Prop) (v2 : AV) (v5 : AV) (v8 : AV) (v9 : AV) (v10 : AV) (H : Heap) : Prop :=
 binV tab .lss 3 v10 v9 fun v11 =>
 condV v11 (indexAddrV tab 116 v8 v10 fun v13 =>
 loadV tab 153 v13 H fun v14 =>
 convV tab 153 3 v14 fun v17 =>
 fieldAddrV tab 35 v2 0 fun v18 =>
 loadV tab 3 v18 H fun v19 =>
 binV tab .mul 3 v19 v10 fun v21 =>
 binV tab .shl 3 v17 v21 fun v22 =>
 binV tab .or 3 v5 v22 fun v23 =>
 binV tab .add 3 v10 (AV.p (.int .i64 1)) fun v24 =>
 N1 v23 v24 H)
 (K v5 H)
def W158 (v0 : AV) (v1 : AV) (H : Heap) (K : AV → Heap → Prop) : Prop :=
 boxV v0 H fun v2 H1 =>
 lenV tab 116 v1 fun v9 =>
 L158_0 K v2 (AV.p (.int .i64 0)) v1 v9 (AV.p (.int .i64 0)) H1
theorem W158_wp (v0 : AV) (v1 : AV) (H : Heap) (K : AV → Heap → Prop) : wpC Tryz.prog tab D158 (bodyOf Tryz.f158) (retF tab [.tmp 4] K) (nthA [v0, v1]) H = W158 v0 v1 H K := by kernel_rfl
theorem W158_ok {v0 v1 : AV} {H : Heap} {K : AV → Heap → Prop} (h : W158 v0 v1 H K) : CallT Tryz.prog 158 [v0, v1] H K :=
  CallT.of_wp (D := D158) tab_ok mixed Tryz.func158 (c := bodyOf Tryz.f158) (by kernel_rfl) rfl (by kernel_rfl) (rs := #[.tmp 4]) rfl (by decide +kernel) (by kernel_rfl) (W158_wp v0 v1 H K) h
theorem L158_0_rule {K : AV → Heap → Prop} {v2 v5 v8 v9 v10 : AV} {H : Heap} {σ : Type} (s0 : σ) (f5 : σ → AV) (f10 : σ → AV) (TH : σ → Heap) (pre : σ → Prop) (μ : σ → Nat)
    (h0 : pre s0 ∧ AV.wk v5 (f5 s0) ∧ AV.wk v10 (f10 s0) ∧ Heap.le (TH s0) H)
    (round : ∀ s, pre s → B158_0 K (fun w5 w10 H' => ∃ s', pre s' ∧ μ s' < μ s ∧ AV.wk w5 (f5 s') ∧ AV.wk w10 (f10 s') ∧ Heap.le (TH s') H') v2 (f5 s) v8 v9 (f10 s) (TH s)) :
    L158_0 K v2 v5 v8 v9 v10 H := by
  unfold L158_0
  exact LoopV.mk s0 (fun s => [f5 s, f10 s]) TH pre μ (fun _ => rfl) (Eq.mp (by kernel_rfl) h0) (fun s hs => Eq.mp (by kernel_rfl) (round s hs))
/-- (loop.example/g00649/impl.Program).after -/
def D159 : Info := ⟨31, fun i => if i = 5 then ([[], [], [1], [], [3], [], [5], [], [3, 4, 5, 6, 7], [0, 1, 2, 3, 4, 5, 6, 7, 8], [0, 1, 2, 3, 4, 5, 6, 7, 8, 9]], [(0, []), (1, []), (2, []), (3, []), (4, []), (5, []), (6, []), (7, []), (8, [2]), (9, []), (10, [])]) else ([], []), fun i => if i = 3 then ([2, 3, 7, 13, 14], [15]) else ([], [])⟩
def L159_0 (K : AV → Heap → Prop) (v2 : AV) (v3 : AV) (v7 : AV) (v13 : AV) (v14 : AV) (v15 : AV) (H : Heap) : Prop := LoopV (wpC Tryz.prog tab D159 (cAt [1, 1, 0, 1, 0, 0] (bodyOf Tryz.f159))) [2, 3, 7, 13, 14] (PostF.block 0 (PostF.thenA (wpC Tryz.prog tab D159 (cAt [1, 1, 1] (bodyOf Tryz.f159))) (retF tab [.tmp 6] K))) [15] [AV.any, AV.any, v2, v3, AV.any, AV.any, AV.any, v7, AV.any, AV.any, AV.any, AV.any, AV.any, v13, v14, v15, AV.any, AV.any, AV.any, AV.any, AV.any, AV.any, AV.any, AV.any, AV.any, AV.any, AV.any, AV.any, AV.any, AV.any, AV.any] H
def B159_0 (K : AV → Heap → Prop) (N1 : AV → Heap → Prop) (v2 : AV) (v3 : AV) (v7 : AV) (v13 : AV) (v14 : AV) (v15 : AV) (H : Heap) : Prop :=
 binV tab .lss 3 v15 v14 fun v16 =>
 condV v16 (indexAddrV tab 148 v13 v15 fun v17 =>
 loadV tab 188 v17 H fun v18 =>
 allocV tab 188 H fun v9 H4 =>
 storeV tab 188 v9 v18 H4 fun H5 =>
 fieldAddrV tab 188 v9 0 fun v20 =>
 loadV tab 3 v20 H5 fun v21 =>
 fieldAddrV tab 35 v3 0 fun v22 =>
 loadV tab 3 v22 H5 fun v23 =>
 fieldAddrV tab 188 v9 1 fun v24 =>
 loadV tab 32 v24 H5 fun v25 =>
 CallT Tryz.prog 145 [v23, v25, v2] H5 fun v27 H6 =>
 (loadV tab 3 v20 H6 fun v9021 =>
 v21 = v9021) ∧
 indexAddrV tab 116 v7 v21 fun v28 =>
 storeV tab 153 v28 v27 H6 fun H7 =>
 binV tab .add 3 v15 (AV.p (.int .i64 1)) fun v29 =>
 N1 v29 H7)
 (K v7 H)
def W159 (v0 : AV) (v1 : AV) (v2 : AV) (H : Heap) (K : AV → Heap → Prop) : Prop :=
 boxV v0 H fun v3 H1 =>
 boxV v1 H1 fun v4 H2 =>
 CallT Tryz.prog 182 [v2] H2 fun v11 H3 =>
 fieldAddrV tab 150 v4 1 fun v12 =>
 loadV tab 148 v12 H3 fun v13 =>
 lenV tab 148 v13 fun v14 =>
 L159_0 K v2 v3 v11 v13 v14 (AV.p (.int .i64 0)) H3
theorem W159_wp (v0 : AV) (v1 : AV) (v2 : AV) (H : Heap) (K : AV → Heap → Prop) : wpC Tryz.prog tab D159 (bodyOf Tryz.f159) (retF tab [.tmp 6] K) (nthA [v0, v1, v2]) H = W159 v0 v1 v2 H K := by kernel_rfl
theorem W159_ok {v0 v1 v2 : AV} {H : Heap} {K : AV → Heap → Prop} (h : W159 v0 v1 v2 H K) : CallT Tryz.prog 159 [v0, v1, v2] H K :=
  CallT.of_wp (D := D159) tab_ok mixed Tryz.func159 (c := bodyOf Tryz.f159) (by kernel_rfl) rfl (by kernel_rfl) (rs := #[.tmp 6]) rfl (by decide +kernel) (by kernel_rfl) (W159_wp v0 v1 v2 H K) h
theorem L159_0_rule {K : AV → Heap → Prop} {v2 v3 v7 v13 v14 v15 : AV} {H : Heap} {σ : Type} (s0 : σ) (f15 : σ → AV) (TH : σ → Heap) (pre : σ → Prop) (μ : σ → Nat)
    (h0 : pre s0 ∧ AV.wk v15 (f15 s0) ∧ Heap.le (TH s0) H)
    (round : ∀ s, pre s → B159_0 K (fun w15 H' => ∃ s', pre s' ∧ μ s' < μ s ∧ AV.wk w15 (f15 s') ∧ Heap.le (TH s') H') v2 v3 v7 v13 v14 (f15 s) (TH s)) :
    L159_0 K v2 v3 v7 v13 v14 v15 H := by
  unfold L159_0
  exact LoopV.mk s0 (fun s => [f15 s]) TH pre μ (fun _ => rfl) (Eq.mp (by kernel_rfl) h0) (fun s hs => Eq.mp (by kernel_rfl) (round s hs))
/-- slices.Clone[[]uint64,uint64] -/
def D182 : Info := ⟨8, fun i => ([], []), fun i => ([], [])⟩
def W182 (v0 : AV) (H : Heap) (K : AV → Heap → Prop) : Prop :=
 binV tab .eql 116 v0 (AV.p .nil) fun v4 =>
 condV v4 (K (AV.p .nil) H)
 (buildSliceV tab 116 0 [] H (wkK fun v5 H1 =>
 appendV tab 116 116 v5 v0 H1 (wkK fun v7 H2 =>
 K v7 H2)))
theorem W182_wp (v0 : AV) (H : Heap) (K : AV → Heap → Prop) : wpC Tryz.prog tab D182 (bodyOf Tryz.f182) (retF tab [.tmp 2] K) (nthA [v0]) H = W182 v0 H K := by kernel_rfl
theorem W182_ok {v0 : AV} {H : Heap} {K : AV → Heap → Prop} (h : W182 v0 H K) : CallT Tryz.prog 182 [v0] H K :=
  CallT.of_wp (D := D182) tab_ok mixed Tryz.func182 (c := bodyOf Tryz.f182) (by kernel_rfl) rfl (by kernel_rfl) (rs := #[.tmp 2]) rfl (by decide +kernel) (by kernel_rfl) (W182_wp v0 H K) h
theorem W182_hb : HasBody Tryz.prog 182 := ⟨_, bodyOf Tryz.f182, Tryz.func182, by kernel_rfl, rfl⟩
end Go.Proofs.YtgcklgeifdefhaaGreat

/- General rules for specs: numbers, weakenings, literals, functions of values at a heap. -/
namespace Go.Proofs.YtgcklgeifdefhaaGreat
open Go Go.Sep
set_option linter.unusedSimpArgs false
set_option linter.unusedVariables false
attribute [local irreducible] CallT
theorem i64_id {n : Int} (h0 : -9223372036854775808 ≤ n) (h1 : n ≤ 9223372036854775807) : IntKind.i64.wrap n = n := wrap64_id h0 h1
theorem wk_int {k : IntKind} {a b : Int} : AV.wk (.p (.int k a)) (.p (.int k b)) = (a = b) := by
  apply propext; constructor
  · intro h; cases h; rfl
  · rintro rfl; exact .refl _
theorem take_all_succ {α : Type} {p : α → Bool} {xs : List α} {i : Nat} (h : i < xs.length) : (xs.take (i + 1)).all p = ((xs.take i).all p && p xs[i]) := by
  rw [List.take_succ_eq_append_getElem h, List.all_append]; simp
theorem getD_lt {α : Type} {xs : List α} {i : Nat} {d : α} (h : i < xs.length) : xs.getD i d = xs[i] := by simp [List.getD, h]
theorem getD_all {α : Type} {p : α → Prop} {l : List α} {d : α} (h : ∀ b ∈ l, p b) {i : Nat} (hi : i < l.length) : p (l.getD i d) := by
  simp only [List.getD, List.getElem?_eq_getElem hi, Option.getD_some]; exact h _ (List.getElem_mem hi)
theorem range_all_succ {p : Nat → Bool} {n : Nat} : (List.range (n + 1)).all p = ((List.range n).all p && p n) := by
  rw [List.range_succ, List.all_append]; simp
theorem range_all_false {p : Nat → Bool} {n i : Nat} (hi : i < n) (h : p i = false) : (List.range n).all p = false := by
  rw [List.all_eq_false]; exact ⟨i, List.mem_range.2 hi, by simp [h]⟩

theorem Wk.own_le {q sz : Nat} {es : List (List PV)} {H H' : Heap} (hpos : 0 < sz) (hs : Sized sz es) (hq : H q = none) (hle : Heap.le (H.set q (cells es)) H') : Wk (own q sz es) H' (.p (.sl es)) H := by
  have h1 : H' q = some (cells es) := hle q _ (Heap.set_same _ _ _)
  refine .trans (.own hpos hs h1) (.forget (Heap.le_del (fun x b hx => hle x b ?_) hq))
  rw [Heap.set_other (fun e => by rw [e, hq] at hx; cases hx)]; exact hx
/-- What is asked may be told of less. -/
theorem CallT.fin {P : Program} {f : Nat} {args : List AV} {H : Heap} {K : AV → Heap → Prop} (h : CallT P f args H (wkK K)) : CallT P f args H K :=
  h.wk fun v H1 ⟨v', H2, hw, hk⟩ => ⟨v', H2, hw, hk⟩
theorem szI (xs : List Int) : Sized 1 (xs.map eI) := sized_map (f := eI) (fun _ => rfl) xs
/-- A list of lists, a list of booleans. -/
abbrev eL (l : List Int) : List PV := [.sl (l.map eI)]
abbrev Ls (cs : List (List Int)) : AV := .p (.sl (cs.map eL))
theorem szL (xs : List (List Int)) : Sized 1 (xs.map eL) := sized_map (f := eL) (fun _ => rfl) xs
/-- A row that is told by value at the end. -/
theorem fin_own {q sz : Nat} {es : List (List PV)} {H H' : Heap} {K : AV → Heap → Prop} (hpos : 0 < sz) (hs : Sized sz es) (hq : H q = none) (hle : Heap.le (H.set q (cells es)) H') (h : K (.p (.sl es)) H) : wkK K (own q sz es) H' :=
  ⟨_, _, Wk.own_le hpos hs hq hle, h⟩
theorem fin_le {v : AV} {H H' : Heap} {K : AV → Heap → Prop} (hle : Heap.le H H') (h : K v H) : wkK K v H' := ⟨_, _, .forget hle, h⟩

/-- A function of values alone at one heap. -/
def PuAt (P : Program) (f : Nat) (args : List AV) (H : Heap) (v : AV) : Prop := ∀ K : AV → Heap → Prop, K v H → CallT P f args H K
theorem Pu.at {P : Program} {f : Nat} {args : List AV} {v : AV} (h : Pu P f args v) (H : Heap) : PuAt P f args H v := fun K hk => h.use hk
theorem PuAt.use {P : Program} {f : Nat} {args : List AV} {v : AV} {H : Heap} (h : PuAt P f args H v) {K : AV → Heap → Prop} (k : K v H) : CallT P f args H K := h K k

/-! ### Literals of plain elements -/
def enumP : Nat → List PV → List (Nat × AV)
  | _, [] => []
  | k, v :: vs => (k, .p v) :: enumP (k + 1) vs
theorem fill_enum : ∀ (vs : List PV) (k : Nat) (a : List AV) (b : List AV), a.length = k → vs.length ≤ b.length →
    fillV (fun i => some (i * 1, 1)) (a ++ b) (enumP k vs) = some (a ++ vs.map .p ++ b.drop vs.length)
  | [], k, a, b, h1, h2 => by simp [enumP, fillV]
  | v :: vs, k, a, b, h1, h2 => by
    match b, h2 with
    | x :: b, h2 =>
      have hb : vs.length ≤ b.length := by simpa using h2
      have ih := fill_enum vs (k + 1) (a ++ [.p v]) b (by simp [h1]) hb
      simp only [enumP, fillV, AV.cells, List.length_cons, List.length_nil, Nat.zero_add, Nat.mul_one]
      rw [if_pos ⟨trivial, by simp [h1]⟩]
      have hs : splice (a ++ x :: b) k [AV.p v] = (a ++ [AV.p v]) ++ b := by
        subst h1
        simp [splice, List.append_assoc, List.drop_append]
      rw [hs]
      simp only [Nat.mul_one] at ih
      rw [ih]
      simp
theorem lit_gen {tab : Tab} {t e : Nat} {d ed : TD} {H : Heap} {K : AV → Heap → Prop} (h1 : tab t = some d) (h2 : d.k = .slice e) (h3 : tab e = some ed) (h4 : ed.size = 1 ∧ ed.zero.length = 1) (vs : List PV)
    (hsm : vs.length ≤ 1000)
    (h : K (.p (.sl (vs.map fun v => [v]))) H) : buildSliceV tab t vs.length (enumP 0 vs) H (wkK K) := by
  obtain ⟨z, hz⟩ : ∃ z, ed.zero = [z] := by
    match ed.zero, h4.2 with
    | [z], _ => exact ⟨z, rfl⟩
  simp only [buildSliceV, h1, h2, h3, h4.1]
  refine ⟨by omega, ?_⟩
  have hzl : (zerosA vs.length ed.zero).length = vs.length := by rw [zerosA_len, hz]; simp
  have := fill_enum vs 0 [] (zerosA vs.length ed.zero) rfl (by omega)
  rw [List.nil_append, List.nil_append, List.drop_of_length_le (by omega), List.append_nil] at this
  rw [this]
  intro r hr
  have hf : ∀ vs : List PV, (vs.map fun v => [v]).flatten = vs := by
    intro vs
    induction vs with
    | nil => rfl
    | cons v vs ih => simp only [List.map_cons, List.flatten_cons, ih, List.singleton_append]
  refine ⟨_, _, Wk.trans (Wk.frz (r := r) (sz := 1) (es := vs.map fun v => [v]) (v := .sl r 1 0 vs.length) (v' := .p (.sl (vs.map fun v => [v]))) (by omega) ?_ ?_ ?_) (.forget ?_), h⟩
  · rw [Heap.set_same, hf vs]
  · intro e he; obtain ⟨v, _, rfl⟩ := List.mem_map.1 he; rfl
  · have : FrzR r 1 (vs.map fun v => [v]) (.sl r 1 0 (vs.map fun v => [v]).length) (.p (.sl (vs.map fun v => [v]))) := .here
    rwa [List.length_map] at this
  · rw [Heap.del_set hr]; exact Heap.le_refl _
theorem lit2 {tab : Tab} {t e : Nat} {d ed : TD} {a b : PV} {H : Heap} {K : AV → Heap → Prop} (h1 : tab t = some d) (h2 : d.k = .slice e) (h3 : tab e = some ed) (h4 : ed.size = 1 ∧ ed.zero.length = 1)
    (h : K (.p (.sl [[a], [b]])) H) : buildSliceV tab t 2 [(0, .p a), (1, .p b)] H (wkK K) := lit_gen h1 h2 h3 h4 [a, b] (by simp) h
theorem lit3 {tab : Tab} {t e : Nat} {d ed : TD} {a b c : PV} {H : Heap} {K : AV → Heap → Prop} (h1 : tab t = some d) (h2 : d.k = .slice e) (h3 : tab e = some ed) (h4 : ed.size = 1 ∧ ed.zero.length = 1)
    (h : K (.p (.sl [[a], [b], [c]])) H) : buildSliceV tab t 3 [(0, .p a), (1, .p b), (2, .p c)] H (wkK K) := lit_gen h1 h2 h3 h4 [a, b, c] (by simp) h
end Go.Proofs.YtgcklgeifdefhaaGreat
/- Spec: numbers in ranges. -/
namespace Go.Proofs.YtgcklgeifdefhaaGreat
open Go Go.Sep
set_option linter.unusedSimpArgs false
set_option linter.unusedVariables false
attribute [local irreducible] CallT
theorem l1In_spec (a lo hi : Int) : Pu Tryz.prog 52 [I a, I lo, I hi] (B (decide (lo ≤ a) && decide (a ≤ hi))) := by
  refine Pu.of fun H => ?_
  refine W52_ok ?_; simp (maxSteps := 1000000) (disch := first | assumption | (apply Ne.symm; assumption)) only [W52, vz, vu, vv, eqS, eqFieldsV, ↓condV_t, ↓condV_f, tabs, reduceCtorEq, Array.toList, ↓reduceIte, Nat.reduceAdd, Nat.reduceLeDiff, Nat.reduceLT, Nat.reduceMul, Nat.reduceSub, Int.reduceToNat, Int.reduceSub, Int.reduceAdd, Int.reduceNeg]
  exact ⟨fun h => by simp [h], fun h => by simp [h]⟩

end Go.Proofs.YtgcklgeifdefhaaGreat
/- Rules for rows that are filled one element after the other. -/
namespace Go.Proofs.YtgcklgeifdefhaaGreat
open Go Go.Sep
set_option linter.unusedSimpArgs false
set_option linter.unusedVariables false

/-- The cells of a row whose first i elements are told. -/
def rowZ {α : Type} (e : α → List PV) (zero : List AV) (xs : List α) (i : Nat) : List AV := cells ((xs.take i).map e) ++ zerosA (xs.length - i) zero
theorem rowZ_zero {α : Type} {e : α → List PV} {zero : List AV} {xs : List α} : rowZ e zero xs 0 = zerosA xs.length zero := by simp [rowZ, cells]
theorem rowZ_end {α : Type} {e : α → List PV} {zero : List AV} {xs : List α} : rowZ e zero xs xs.length = cells (xs.map e) := by
  simp [rowZ, zerosA]
theorem cells_map_len {α : Type} {e : α → List PV} {sz : Nat} (h : ∀ a, (e a).length = sz) (xs : List α) : (cells (xs.map e)).length = xs.length * sz := by
  rw [cells_len (sized_map h xs), List.length_map]
theorem rowZ_len {α : Type} {e : α → List PV} {zero : List AV} {xs : List α} {i sz : Nat} (h : ∀ a, (e a).length = sz) (hz : zero.length = sz) (hi : i ≤ xs.length) : (rowZ e zero xs i).length = xs.length * sz := by
  rw [rowZ, List.length_append, cells_map_len h, zerosA_len, hz, List.length_take, Nat.min_eq_left hi, ← Nat.add_mul]
  congr 1; omega
theorem zerosA_succ (n : Nat) (z : List AV) : zerosA (n + 1) z = z ++ zerosA n z := by simp [zerosA, List.replicate_succ]
theorem rowZ_put {α : Type} [Inhabited α] {e : α → List PV} {zero : List AV} {xs : List α} {i sz : Nat} (h : ∀ a, (e a).length = sz) (hz : zero.length = sz) (hi : i < xs.length) {off : Nat} (ho : off = i * sz) {n : Nat} (hn : n = sz) :
    List.take off (rowZ e zero xs i) ++ (e (xs.getD i default)).map .p ++ List.drop (off + n) (rowZ e zero xs i) = rowZ e zero xs (i + 1) := by
  subst ho; subst hn
  have hl : (cells ((xs.take i).map e)).length = i * n := by rw [cells_map_len h, List.length_take, Nat.min_eq_left (Nat.le_of_lt hi)]
  have e1 : List.take (i * n) (rowZ e zero xs i) = cells ((xs.take i).map e) := by
    rw [rowZ, List.take_append_of_le_length (by omega), List.take_of_length_le (by omega)]
  have e2 : List.drop (i * n + n) (rowZ e zero xs i) = zerosA (xs.length - (i + 1)) zero := by
    rw [rowZ, List.drop_append, List.drop_of_length_le (by omega), List.nil_append, hl, Nat.add_sub_cancel_left]
    obtain ⟨m, hm⟩ : ∃ m, xs.length - i = m + 1 := ⟨xs.length - i - 1, by omega⟩
    rw [hm, zerosA_succ, List.drop_append_of_le_length (by omega), List.drop_of_length_le (by omega), List.nil_append]
    congr 1; omega
  rw [e1, e2, rowZ]
  congr 1
  rw [List.take_succ_eq_append_getElem hi, List.map_append, cells_app]
  congr 1
  simp [cells, List.getD, hi]
end Go.Proofs.YtgcklgeifdefhaaGreat
/- Plain facts: terms and their kinds; classes of states. -/
namespace Go.Pt
structure Nd where
  op : Int
  n : Int
deriving Inhabited, DecidableEq
structure Ch where
  var : Int
  by_ : List Nd
deriving Inhabited, DecidableEq
structure Cm where
  when_ : List Nd
  chs : List Ch
deriving Inhabited, DecidableEq
structure Pg where
  wide : Int
  vars : Int
  start : List Nd
  cmds : List Cm
deriving Inhabited, DecidableEq

def inB (n lo hi : Int) : Bool := decide (lo ≤ n) && decide (n ≤ hi)
theorem inB_iff {n lo hi : Int} : inB n lo hi = true ↔ lo ≤ n ∧ n ≤ hi := by simp [inB]
def own (op : Int) : Int :=
  if op = 1 ∨ op = 2 ∨ op = 13 ∨ (3 ≤ op ∧ op ≤ 12) then 1
  else if op = 20 ∨ op = 19 ∨ (14 ≤ op ∧ op ≤ 16) ∨ op = 17 ∨ op = 18 then 2 else 0
def many (op : Int) : Nat :=
  if op = 13 ∨ op = 19 then 1 else if (3 ≤ op ∧ op ≤ 12) ∨ (14 ≤ op ∧ op ≤ 16) ∨ op = 17 ∨ op = 18 then 2 else 0
def part (op : Int) : Int :=
  if op = 13 ∨ (3 ≤ op ∧ op ≤ 12) ∨ (14 ≤ op ∧ op ≤ 16) then 1 else 2
def leafOk (wide vars : Int) (x : Nd) : Bool :=
  if x.op = 1 then inB wide 1 64 && decide (x.n < 2 ^ wide.toNat)
  else if x.op = 2 then decide (x.n < vars)
  else if x.op = 20 then decide (x.n ≤ 1)
  else decide (x.n = 0)

def step (w v : Int) (p : List Int) (x : Nd) : Option (List Int) :=
  if own x.op = 0 ∨ leafOk w v x = false ∨ p.length < many x.op then none
  else if (p.drop (p.length - many x.op)).any (fun k => decide (k ≠ part x.op)) then none
  else some (p.take (p.length - many x.op) ++ [own x.op])
def run (w v : Int) : List Int → List Nd → Option (List Int)
  | p, [] => some p
  | p, x :: xs => (step w v p x).bind fun p' => run w v p' xs
theorem run_app (w v : Int) : ∀ (p : List Int) (xs ys : List Nd), run w v p (xs ++ ys) = (run w v p xs).bind fun p' => run w v p' ys
  | p, [], ys => rfl
  | p, x :: xs, ys => by
    simp only [List.cons_append, run]
    cases step w v p x with
    | none => rfl
    | some p' => simp only [Option.bind_some]; exact run_app w v p' xs ys
theorem run_snoc (w v : Int) (p : List Int) (xs : List Nd) (x : Nd) : run w v p (xs ++ [x]) = (run w v p xs).bind fun p' => step w v p' x := by
  rw [run_app]
  cases run w v p xs with
  | none => rfl
  | some p' =>
    simp only [Option.bind_some, run]
    cases step w v p' x <;> rfl

def frame (w v : Int) (t : List Nd) : Bool := inB w 1 64 && inB v 1 4 && (decide (1 ≤ t.length) && decide (t.length ≤ 48))
def kind (w v : Int) (t : List Nd) : Int :=
  if frame w v t then (match run w v [] t with
    | some [k] => k
    | _ => 0) else 0

theorem take_succ_snoc {α : Type} [Inhabited α] {xs : List α} {i : Nat} (h : i < xs.length) : xs.take (i + 1) = xs.take i ++ [xs.getD i default] := by
  rw [List.take_succ_eq_append_getElem h]; simp [List.getD, h]
theorem run_none (w v : Int) {t : List Nd} {i : Nat} (hi : i < t.length) {p : List Int} (h : run w v [] (t.take i) = some p) (hs : step w v p (t.getD i default) = none) : run w v [] t = none := by
  have e : t = t.take (i + 1) ++ t.drop (i + 1) := (List.take_append_drop _ _).symm
  rw [e, run_app, take_succ_snoc hi, run_snoc, h]
  simp only [Option.bind_some]
  rw [hs]; rfl

theorem step_last {w v : Int} {p p' : List Int} {x : Nd} (h : step w v p x = some p') : ∃ q, p' = q ++ [own x.op] ∧ own x.op ≠ 0 := by
  unfold step at h
  split at h
  · cases h
  · rename_i h1
    split at h
    · cases h
    · injection h with h
      exact ⟨_, h.symm, fun e => h1 (.inl e)⟩
/-- The last of the pile is the kind of the last node. -/
theorem run_last {w v : Int} {t : List Nd} (ht : t ≠ []) {p : List Int} (h : run w v [] t = some p) : ∃ q, p = q ++ [own (t.getD (t.length - 1) default).op] ∧ own (t.getD (t.length - 1) default).op ≠ 0 := by
  have hpos : 0 < t.length := List.length_pos_iff.2 ht
  have e : t = t.take (t.length - 1) ++ [t.getD (t.length - 1) default] := by
    have := take_succ_snoc (xs := t) (i := t.length - 1) (by omega)
    rw [show t.length - 1 + 1 = t.length by omega, List.take_length] at this
    exact this
  generalize t.getD (t.length - 1) default = x at e ⊢
  rw [e, run_snoc] at h
  cases h1 : run w v [] (t.take (t.length - 1)) with
  | none => rw [h1] at h; cases h
  | some p1 => rw [h1] at h; exact step_last h

/-- A term is good, and of a kind. -/
theorem kind_eq {w v : Int} {t : List Nd} (hf : frame w v t = true) (k : Int) (hk : k ≠ 0) :
    decide (kind w v t = k) = (match run w v [] t with
      | some p => decide (p.length = 1) && decide (own (t.getD (t.length - 1) default).op = k)
      | none => false) := by
  have ht : t ≠ [] := by
    intro e; subst e
    simp [frame] at hf
  unfold kind
  rw [if_pos hf]
  cases h : run w v [] t with
  | none => simp [Ne.symm hk]
  | some p =>
    obtain ⟨q, e, _⟩ := run_last ht h
    dsimp only
    generalize own (t.getD (t.length - 1) default).op = o at e ⊢
    subst e
    cases q with
    | nil => simp
    | cons a q => 
      cases q with
      | nil => simp [Ne.symm hk]
      | cons b q => simp [Ne.symm hk]
theorem kind_f {w v : Int} {t : List Nd} (hf : frame w v t = false) : kind w v t = 0 := by simp [kind, hf]

/-! ### Programs -/
def goodCh (w v : Int) (prev : Option Int) (c : Ch) : Bool := inB c.var 0 (v - 1) && (match prev with
  | some p => decide (p < c.var)
  | none => true) && decide (kind w v c.by_ = 1)
def goodCm (w v : Int) (c : Cm) : Bool := decide (kind w v c.when_ = 2) && ((List.range c.chs.length).all fun i => goodCh w v (if i = 0 then none else some (c.chs.getD (i - 1) default).var) (c.chs.getD i default))
def goodP (p : Pg) : Bool := decide (kind p.wide p.vars p.start = 2) && (decide (1 ≤ p.cmds.length) && decide (p.cmds.length ≤ 6)) && p.cmds.all (goodCm p.wide p.vars)
def smallP (p : Pg) : Bool := goodP p && decide (p.wide * p.vars ≤ 5)
def statesP (p : Pg) : Int := 2 ^ (p.wide * p.vars).toNat

theorem kind2_frame {w v : Int} {t : List Nd} (h : kind w v t = 2) : (1 ≤ w ∧ w ≤ 64) ∧ (1 ≤ v ∧ v ≤ 4) := by
  unfold kind at h
  split at h
  · rename_i hf
    simp only [frame, Bool.and_eq_true, inB_iff] at hf
    exact hf.1
  · cases h
theorem goodP_rng {p : Pg} (h : goodP p = true) : (1 ≤ p.wide ∧ p.wide ≤ 64) ∧ (1 ≤ p.vars ∧ p.vars ≤ 4) := by
  simp only [goodP, Bool.and_eq_true, decide_eq_true_eq] at h
  exact kind2_frame h.1.1

/-- The changes of a command are at rising variables: there are no more of them than variables. -/
theorem goodCm_len {w v : Int} {c : Cm} (h : goodCm w v c = true) : (c.chs.length : Int) ≤ v ∨ c.chs.length = 0 := by
  simp only [goodCm, Bool.and_eq_true, List.all_eq_true, List.mem_range] at h
  have key : ∀ i, i < c.chs.length → (i : Int) ≤ (c.chs.getD i default).var := by
    intro i
    induction i with
    | zero =>
      intro hi
      have := h.2 0 hi
      simp only [goodCh, Bool.and_eq_true, inB_iff] at this
      omega
    | succ i ih =>
      intro hi
      have h1 := ih (by omega)
      have := h.2 (i + 1) hi
      simp only [goodCh, Bool.and_eq_true, inB_iff, Nat.succ_ne_zero, if_false, Nat.add_sub_cancel, decide_eq_true_eq] at this
      omega
  by_cases h0 : c.chs.length = 0
  · exact .inr h0
  · left
    have h1 := key (c.chs.length - 1) (by omega)
    have := h.2 (c.chs.length - 1) (by omega)
    simp only [goodCh, Bool.and_eq_true, inB_iff] at this
    omega

/-! ### Classes -/
end Go.Pt
/- Specs: sizes, copies and comparisons of programs and of lists of classes. -/
namespace Go.Proofs.YtgcklgeifdefhaaGreat
open Go Go.Sep Go.Pt
set_option linter.unusedSimpArgs false
set_option linter.unusedVariables false
attribute [local irreducible] CallT

abbrev eN (x : Nd) : List PV := [.int .i64 x.op, .int .u64 x.n]
abbrev aN (x : Nd) : AV := .agg [I x.op, U x.n]
abbrev Ns (xs : List Nd) : AV := .p (.sl (xs.map eN))
abbrev eCh (c : Ch) : List PV := [.int .i64 c.var, .sl (c.by_.map eN)]
abbrev aCh (c : Ch) : AV := .agg [I c.var, Ns c.by_]
abbrev Chs (cs : List Ch) : AV := .p (.sl (cs.map eCh))
abbrev eCm (c : Cm) : List PV := [.sl (c.when_.map eN), .sl (c.chs.map eCh)]
abbrev aCm (c : Cm) : AV := .agg [Ns c.when_, Chs c.chs]
abbrev Cms (cs : List Cm) : AV := .p (.sl (cs.map eCm))
abbrev aPg (p : Pg) : AV := .agg [I p.wide, I p.vars, Ns p.start, Cms p.cmds]
abbrev aS (of : List Int) : AV := .agg [Is of]

/-- As long as a list can be. -/
def ok (n : Nat) : Prop := n ≤ 9223372036854775807
def okCh (c : Ch) : Prop := ok c.by_.length
def okChs (cs : List Ch) : Prop := ok cs.length ∧ ∀ c ∈ cs, okCh c
def okCm (c : Cm) : Prop := ok c.when_.length ∧ okChs c.chs
def okCms (cs : List Cm) : Prop := ok cs.length ∧ ∀ c ∈ cs, okCm c
def okPg (p : Pg) : Prop := ok p.start.length ∧ okCms p.cmds
def psum {α : Type} (f : α → Nat) (xs : List α) (i : Nat) : Nat := ((xs.take i).map f).sum
theorem psum_succ {α : Type} [Inhabited α] {f : α → Nat} {xs : List α} {i : Nat} (h : i < xs.length) : psum f xs (i + 1) = psum f xs i + f (xs.getD i default) := by
  rw [psum, take_succ_snoc h, List.map_append, List.sum_append]; simp [psum]
theorem psum_le {α : Type} {f : α → Nat} {xs : List α} (i : Nat) : psum f xs i ≤ psum f xs xs.length := by
  rw [psum, psum, List.take_length]
  conv => rhs; rw [← List.take_append_drop i xs]
  rw [List.map_append, List.sum_append]; omega
def totCh (c : Ch) : Nat := c.by_.length
def totChs (cs : List Ch) : Nat := cs.length + psum totCh cs cs.length
def totCm (c : Cm) : Nat := c.when_.length + totChs c.chs
def totCms (cs : List Cm) : Nat := cs.length + psum totCm cs cs.length
def totPg (p : Pg) : Nat := p.start.length + totCms p.cmds
/-- What is left of a size. -/
def szR (left : Int) (n : Nat) : Int := if (n : Int) ≤ left then left - n else -1
theorem szR_neg {left : Int} {n : Nat} (h : left < n) : szR left n = -1 := by rw [szR, if_neg (by omega)]
theorem szR_pos {left : Int} {n : Nat} (h : (n : Int) ≤ left) : szR left n = left - n := by rw [szR, if_pos h]

theorem szNodeS_spec (t : List Nd) (left : Int) (h0 : 0 ≤ left) (h1 : left ≤ 1048576) (hl : ok t.length) : Pu Tryz.prog 74 [Ns t, I left] (I (szR left t.length)) := by
  refine Pu.of fun H => ?_
  unfold ok at hl
  have e : IntKind.i64.wrap (left - t.length) = left - t.length := i64_id (by omega) (by omega)
  refine W74_ok ?_; simp (maxSteps := 1000000) (disch := first | assumption | (apply Ne.symm; assumption)) only [W74, vz, vu, vv, eqS, eqFieldsV, ↓condV_t, ↓condV_f, tabs, reduceCtorEq, Array.toList, ↓reduceIte, Nat.reduceAdd, Nat.reduceLeDiff, Nat.reduceLT, Nat.reduceMul, Nat.reduceSub, Int.reduceToNat, Int.reduceSub, Int.reduceAdd, Int.reduceNeg, e]
  refine ⟨fun h => by rw [szR_neg (by omega)], fun h => by rw [szR_pos (by omega)]⟩
theorem szChange_spec (c : Ch) (left : Int) (h0 : 0 ≤ left) (h1 : left ≤ 1048576) (hl : okCh c) : Pu Tryz.prog 183 [aCh c, I left] (I (szR left (totCh c))) := by
  refine Pu.of fun H => ?_
  refine W183_ok ?_; simp (maxSteps := 1000000) (disch := first | assumption | (apply Ne.symm; assumption)) only [W183, vz, vu, vv, eqS, eqFieldsV, ↓condV_t, ↓condV_f, tabs, reduceCtorEq, Array.toList, ↓reduceIte, Nat.reduceAdd, Nat.reduceLeDiff, Nat.reduceLT, Nat.reduceMul, Nat.reduceSub, Int.reduceToNat, Int.reduceSub, Int.reduceAdd, Int.reduceNeg]
  intro r hr
  refine Pu.use (szNodeS_spec c.by_ left h0 h1 hl) ?_
  (try simp (maxSteps := 1000000) (disch := first | assumption | (apply Ne.symm; assumption)) only [vz, vu, vv, eqS, eqFieldsV, ↓condV_t, ↓condV_f, tabs, reduceCtorEq, Array.toList, ↓reduceIte, Nat.reduceAdd, Nat.reduceLeDiff, Nat.reduceLT, Nat.reduceMul, Nat.reduceSub, Int.reduceToNat, Int.reduceSub, Int.reduceAdd, Int.reduceNeg])
  refine ⟨fun h => ⟨?_, Heap.le_set hr⟩, fun h => ⟨rfl, Heap.le_set hr⟩⟩
  unfold totCh szR at *
  split at h
  · omega
  · rename_i h2; rw [if_neg h2]

theorem szChangeS_spec (cs : List Ch) (left : Int) (h0 : 0 ≤ left) (h1 : left ≤ 1048576) (hl : okChs cs) : Pu Tryz.prog 165 [Chs cs, I left] (I (szR left (totChs cs))) := by
  refine Pu.of fun H => ?_
  have hl1 := hl.1
  unfold ok at hl1
  have e : IntKind.i64.wrap (left - cs.length) = left - cs.length := i64_id (by omega) (by omega)
  refine W165_ok ?_; simp (maxSteps := 1000000) (disch := first | assumption | (apply Ne.symm; assumption)) only [W165, vz, vu, vv, eqS, eqFieldsV, ↓condV_t, ↓condV_f, tabs, reduceCtorEq, Array.toList, ↓reduceIte, Nat.reduceAdd, Nat.reduceLeDiff, Nat.reduceLT, Nat.reduceMul, Nat.reduceSub, Int.reduceToNat, Int.reduceSub, Int.reduceAdd, Int.reduceNeg, e]
  refine ⟨fun h => by rw [szR_neg (by unfold totChs; omega)], fun h => ?_⟩
  refine L165_0_rule (0 : Nat) (fun i => I (left - cs.length - psum totCh cs i)) (fun i => I i) (fun _ => H) (fun i => i ≤ cs.length ∧ (cs.length : Int) + psum totCh cs i ≤ left) (fun i => cs.length - i) ⟨⟨by omega, by simp [psum]; omega⟩, ?_, .refl _, Heap.le_refl _⟩ ?_
  · rw [wk_int]; simp [psum]
  rintro i ⟨hi, hs⟩
  (try simp (maxSteps := 1000000) (disch := first | assumption | (apply Ne.symm; assumption)) only [vz, vu, vv, eqS, eqFieldsV, ↓condV_t, ↓condV_f, tabs, reduceCtorEq, Array.toList, ↓reduceIte, Nat.reduceAdd, Nat.reduceLeDiff, Nat.reduceLT, Nat.reduceMul, Nat.reduceSub, Int.reduceToNat, Int.reduceSub, Int.reduceAdd, Int.reduceNeg, B165_0])
  refine ⟨fun h2 => ⟨by omega, h2, ?_⟩, fun h2 => ?_⟩
  · have hlt : i < cs.length := by omega
    have hm : cs.getD i default ∈ cs := getD_all (p := fun x => x ∈ cs) (fun _ h => h) hlt
    refine Pu.use (szChange_spec (cs.getD i default) _ (by omega) (by omega) (hl.2 _ hm)) ?_
    have hsucc := psum_succ (f := totCh) hlt
    have hle := psum_le (f := totCh) (xs := cs) (i + 1)
    (try simp (maxSteps := 1000000) (disch := first | assumption | (apply Ne.symm; assumption)) only [vz, vu, vv, eqS, eqFieldsV, ↓condV_t, ↓condV_f, tabs, reduceCtorEq, Array.toList, ↓reduceIte, Nat.reduceAdd, Nat.reduceLeDiff, Nat.reduceLT, Nat.reduceMul, Nat.reduceSub, Int.reduceToNat, Int.reduceSub, Int.reduceAdd, Int.reduceNeg])
    refine ⟨fun h3 => ?_, fun h3 => ⟨i + 1, ⟨by omega, ?_⟩, by omega, ?_, ?_⟩⟩
    · rw [szR_neg]
      unfold szR at h3
      unfold totChs
      split at h3 <;> omega
    · unfold szR at h3
      split at h3 <;> omega
    · rw [wk_int]
      unfold szR at h3 ⊢
      split at h3
      · rename_i h4; rw [if_pos h4]; omega
      · omega
    · rw [wk_int, i64_id (by omega) (by omega)]; simp
  · have : i = cs.length := by omega
    subst this
    rw [szR_pos (by unfold totChs; omega)]
    unfold totChs
    exact congrArg (fun n : Int => I n) (by omega)

theorem szCommand_spec (c : Cm) (left : Int) (h0 : 0 ≤ left) (h1 : left ≤ 1048576) (hl : okCm c) : Pu Tryz.prog 119 [aCm c, I left] (I (szR left (totCm c))) := by
  refine Pu.of fun H => ?_
  refine W119_ok ?_; simp (maxSteps := 1000000) (disch := first | assumption | (apply Ne.symm; assumption)) only [W119, vz, vu, vv, eqS, eqFieldsV, ↓condV_t, ↓condV_f, tabs, reduceCtorEq, Array.toList, ↓reduceIte, Nat.reduceAdd, Nat.reduceLeDiff, Nat.reduceLT, Nat.reduceMul, Nat.reduceSub, Int.reduceToNat, Int.reduceSub, Int.reduceAdd, Int.reduceNeg]
  intro r hr
  refine Pu.use (szNodeS_spec c.when_ left h0 h1 hl.1) ?_
  (try simp (maxSteps := 1000000) (disch := first | assumption | (apply Ne.symm; assumption)) only [vz, vu, vv, eqS, eqFieldsV, ↓condV_t, ↓condV_f, tabs, reduceCtorEq, Array.toList, ↓reduceIte, Nat.reduceAdd, Nat.reduceLeDiff, Nat.reduceLT, Nat.reduceMul, Nat.reduceSub, Int.reduceToNat, Int.reduceSub, Int.reduceAdd, Int.reduceNeg])
  refine ⟨fun h => ⟨?_, Heap.le_set hr⟩, fun h => ?_⟩
  · unfold szR at h
    rw [szR_neg]
    unfold totCm
    split at h <;> omega
  · have h4 : (c.when_.length : Int) ≤ left := by
      unfold szR at h
      split at h <;> omega
    rw [szR_pos h4]
    refine Pu.use (szChangeS_spec c.chs _ (by omega) (by omega) hl.2) ?_
    (try simp (maxSteps := 1000000) (disch := first | assumption | (apply Ne.symm; assumption)) only [vz, vu, vv, eqS, eqFieldsV, ↓condV_t, ↓condV_f, tabs, reduceCtorEq, Array.toList, ↓reduceIte, Nat.reduceAdd, Nat.reduceLeDiff, Nat.reduceLT, Nat.reduceMul, Nat.reduceSub, Int.reduceToNat, Int.reduceSub, Int.reduceAdd, Int.reduceNeg])
    refine ⟨fun h => ⟨?_, Heap.le_set hr⟩, fun h => ⟨?_, Heap.le_set hr⟩⟩
    · unfold szR at h
      rw [szR_neg]
      unfold totCm
      split at h <;> omega
    · unfold szR at h
      split at h
      · rename_i h5
        rw [szR_pos h5, szR_pos (by unfold totCm; omega)]
        unfold totCm
        exact congrArg (fun n : Int => I n) (by omega)
      · omega

theorem szCommandS_spec (cs : List Cm) (left : Int) (h0 : 0 ≤ left) (h1 : left ≤ 1048576) (hl : okCms cs) : Pu Tryz.prog 75 [Cms cs, I left] (I (szR left (totCms cs))) := by
  refine Pu.of fun H => ?_
  have hl1 := hl.1
  unfold ok at hl1
  have e : IntKind.i64.wrap (left - cs.length) = left - cs.length := i64_id (by omega) (by omega)
  refine W75_ok ?_; simp (maxSteps := 1000000) (disch := first | assumption | (apply Ne.symm; assumption)) only [W75, vz, vu, vv, eqS, eqFieldsV, ↓condV_t, ↓condV_f, tabs, reduceCtorEq, Array.toList, ↓reduceIte, Nat.reduceAdd, Nat.reduceLeDiff, Nat.reduceLT, Nat.reduceMul, Nat.reduceSub, Int.reduceToNat, Int.reduceSub, Int.reduceAdd, Int.reduceNeg, e]
  refine ⟨fun h => by rw [szR_neg (by unfold totCms; omega)], fun h => ?_⟩
  refine L75_0_rule (0 : Nat) (fun i => I (left - cs.length - psum totCm cs i)) (fun i => I i) (fun _ => H) (fun i => i ≤ cs.length ∧ (cs.length : Int) + psum totCm cs i ≤ left) (fun i => cs.length - i) ⟨⟨by omega, by simp [psum]; omega⟩, ?_, .refl _, Heap.le_refl _⟩ ?_
  · rw [wk_int]; simp [psum]
  rintro i ⟨hi, hs⟩
  (try simp (maxSteps := 1000000) (disch := first | assumption | (apply Ne.symm; assumption)) only [vz, vu, vv, eqS, eqFieldsV, ↓condV_t, ↓condV_f, tabs, reduceCtorEq, Array.toList, ↓reduceIte, Nat.reduceAdd, Nat.reduceLeDiff, Nat.reduceLT, Nat.reduceMul, Nat.reduceSub, Int.reduceToNat, Int.reduceSub, Int.reduceAdd, Int.reduceNeg, B75_0])
  refine ⟨fun h2 => ⟨by omega, h2, ?_⟩, fun h2 => ?_⟩
  · have hlt : i < cs.length := by omega
    have hm : cs.getD i default ∈ cs := getD_all (p := fun x => x ∈ cs) (fun _ h => h) hlt
    refine Pu.use (szCommand_spec (cs.getD i default) _ (by omega) (by omega) (hl.2 _ hm)) ?_
    have hsucc := psum_succ (f := totCm) hlt
    have hle := psum_le (f := totCm) (xs := cs) (i + 1)
    (try simp (maxSteps := 1000000) (disch := first | assumption | (apply Ne.symm; assumption)) only [vz, vu, vv, eqS, eqFieldsV, ↓condV_t, ↓condV_f, tabs, reduceCtorEq, Array.toList, ↓reduceIte, Nat.reduceAdd, Nat.reduceLeDiff, Nat.reduceLT, Nat.reduceMul, Nat.reduceSub, Int.reduceToNat, Int.reduceSub, Int.reduceAdd, Int.reduceNeg])
    refine ⟨fun h3 => ?_, fun h3 => ⟨i + 1, ⟨by omega, ?_⟩, by omega, ?_, ?_⟩⟩
    · rw [szR_neg]
      unfold szR at h3
      unfold totCms
      split at h3 <;> omega
    · unfold szR at h3
      split at h3 <;> omega
    · rw [wk_int]
      unfold szR at h3 ⊢
      split at h3
      · rename_i h4; rw [if_pos h4]; omega
      · omega
    · rw [wk_int, i64_id (by omega) (by omega)]; simp
  · have : i = cs.length := by omega
    subst this
    rw [szR_pos (by unfold totCms; omega)]
    unfold totCms
    exact congrArg (fun n : Int => I n) (by omega)

theorem szProgram_spec (c : Pg) (left : Int) (h0 : 0 ≤ left) (h1 : left ≤ 1048576) (hl : okPg c) : Pu Tryz.prog 35 [aPg c, I left] (I (szR left (totPg c))) := by
  refine Pu.of fun H => ?_
  refine W35_ok ?_; simp (maxSteps := 1000000) (disch := first | assumption | (apply Ne.symm; assumption)) only [W35, vz, vu, vv, eqS, eqFieldsV, ↓condV_t, ↓condV_f, tabs, reduceCtorEq, Array.toList, ↓reduceIte, Nat.reduceAdd, Nat.reduceLeDiff, Nat.reduceLT, Nat.reduceMul, Nat.reduceSub, Int.reduceToNat, Int.reduceSub, Int.reduceAdd, Int.reduceNeg]
  intro r hr
  refine Pu.use (szNodeS_spec c.start left h0 h1 hl.1) ?_
  (try simp (maxSteps := 1000000) (disch := first | assumption | (apply Ne.symm; assumption)) only [vz, vu, vv, eqS, eqFieldsV, ↓condV_t, ↓condV_f, tabs, reduceCtorEq, Array.toList, ↓reduceIte, Nat.reduceAdd, Nat.reduceLeDiff, Nat.reduceLT, Nat.reduceMul, Nat.reduceSub, Int.reduceToNat, Int.reduceSub, Int.reduceAdd, Int.reduceNeg])
  refine ⟨fun h => ⟨?_, Heap.le_set hr⟩, fun h => ?_⟩
  · unfold szR at h
    rw [szR_neg]
    unfold totPg
    split at h <;> omega
  · have h4 : (c.start.length : Int) ≤ left := by
      unfold szR at h
      split at h <;> omega
    rw [szR_pos h4]
    refine Pu.use (szCommandS_spec c.cmds _ (by omega) (by omega) hl.2) ?_
    (try simp (maxSteps := 1000000) (disch := first | assumption | (apply Ne.symm; assumption)) only [vz, vu, vv, eqS, eqFieldsV, ↓condV_t, ↓condV_f, tabs, reduceCtorEq, Array.toList, ↓reduceIte, Nat.reduceAdd, Nat.reduceLeDiff, Nat.reduceLT, Nat.reduceMul, Nat.reduceSub, Int.reduceToNat, Int.reduceSub, Int.reduceAdd, Int.reduceNeg])
    refine ⟨fun h => ⟨?_, Heap.le_set hr⟩, fun h => ⟨?_, Heap.le_set hr⟩⟩
    · unfold szR at h
      rw [szR_neg]
      unfold totPg
      split at h <;> omega
    · unfold szR at h
      split at h
      · rename_i h5
        rw [szR_pos h5, szR_pos (by unfold totPg; omega)]
        unfold totPg
        exact congrArg (fun n : Int => I n) (by omega)
      · omega

end Go.Proofs.YtgcklgeifdefhaaGreat
/- Specs: copies and comparisons of programs. -/
namespace Go.Proofs.YtgcklgeifdefhaaGreat
open Go Go.Sep Go.Pt
set_option linter.unusedSimpArgs false
set_option linter.unusedVariables false
attribute [local irreducible] CallT
/-- Lists short enough to be copied. -/
def smCh (c : Ch) : Prop := c.by_.length ≤ 1048576
def smCm (c : Cm) : Prop := c.when_.length ≤ 1048576 ∧ c.chs.length ≤ 1048576 ∧ ∀ x ∈ c.chs, smCh x
def smPg (p : Pg) : Prop := p.start.length ≤ 1048576 ∧ p.cmds.length ≤ 1048576 ∧ ∀ x ∈ p.cmds, smCm x
theorem psum_mem {α : Type} {f : α → Nat} {xs : List α} {x : α} (h : x ∈ xs) : f x ≤ psum f xs xs.length := by
  rw [psum, List.take_length]
  induction xs with
  | nil => cases h
  | cons y ys ih =>
    simp only [List.map_cons, List.sum_cons]
    rcases List.mem_cons.1 h with rfl | h
    · omega
    · have := ih h; omega
theorem sm_of_tot {p : Pg} (h : (totPg p : Int) ≤ 1048576) : smPg p := by
  have h0 : totPg p ≤ 1048576 := by omega
  unfold totPg totCms at h0
  refine ⟨by omega, by omega, fun c hc => ?_⟩
  have h1 := psum_mem (f := totCm) hc
  have e1 : totCm c = c.when_.length + (c.chs.length + psum totCh c.chs c.chs.length) := rfl
  refine ⟨by omega, by omega, fun x hx => ?_⟩
  have h2 := psum_mem (f := totCh) hx
  have e2 : totCh x = x.by_.length := rfl
  unfold smCh
  omega

theorem toNode_spec (c : Nd) : Pu Tryz.prog 127 [aN c] (aN c) := by
  refine Pu.of fun H => ?_
  refine W127_ok ?_; simp (maxSteps := 1000000) (disch := first | assumption | (apply Ne.symm; assumption)) only [W127, vz, vu, vv, eqS, eqFieldsV, ↓condV_t, ↓condV_f, tabs, reduceCtorEq, Array.toList, ↓reduceIte, Nat.reduceAdd, Nat.reduceLeDiff, Nat.reduceLT, Nat.reduceMul, Nat.reduceSub, Int.reduceToNat, Int.reduceSub, Int.reduceAdd, Int.reduceNeg]
  intro r hr r2 n1 h2 r3 n2 n3 h3
  (try simp (maxSteps := 1000000) (disch := first | assumption | (apply Ne.symm; assumption)) only [vz, vu, vv, eqS, eqFieldsV, ↓condV_t, ↓condV_f, tabs, reduceCtorEq, Array.toList, ↓reduceIte, Nat.reduceAdd, Nat.reduceLeDiff, Nat.reduceLT, Nat.reduceMul, Nat.reduceSub, Int.reduceToNat, Int.reduceSub, Int.reduceAdd, Int.reduceNeg])
  (repeat first | exact Heap.le_refl _ | refine Heap.le_setN ?_ (by assumption))

theorem toNodeS_spec (xs : List Nd) (hl : xs.length ≤ 1048576) : Pu Tryz.prog 80 [Ns xs] (Ns xs) := by
  refine ⟨fun H => CallT.fin ?_⟩
  refine W80_ok ?_; simp (maxSteps := 1000000) (disch := first | assumption | (apply Ne.symm; assumption)) only [W80, vz, vu, vv, eqS, eqFieldsV, ↓condV_t, ↓condV_f, tabs, reduceCtorEq, Array.toList, ↓reduceIte, Nat.reduceAdd, Nat.reduceLeDiff, Nat.reduceLT, Nat.reduceMul, Nat.reduceSub, Int.reduceToNat, Int.reduceSub, Int.reduceAdd, Int.reduceNeg, makeSliceV]
  refine ⟨by omega, by omega, by omega, by omega, fun q hq => ?_⟩
  have z0 : rowZ eN [I 0, U 0] xs 0 = zerosA xs.length [I 0, U 0] := rowZ_zero
  rw [← z0]
  refine L80_0_rule (0 : Nat) (fun i => I i) (fun i => H.set q (rowZ eN [I 0, U 0] xs i)) (fun i => i ≤ xs.length) (fun i => xs.length - i) ⟨by omega, .refl _, Heap.le_refl _⟩ ?_
  intro i hi
  have hrl := rowZ_len (e := eN) (zero := [I 0, U 0]) (xs := xs) (i := i) (sz := 2) (fun _ => rfl) rfl hi
  (try simp (maxSteps := 1000000) (disch := first | assumption | (apply Ne.symm; assumption)) only [vz, vu, vv, eqS, eqFieldsV, ↓condV_t, ↓condV_f, tabs, reduceCtorEq, Array.toList, ↓reduceIte, Nat.reduceAdd, Nat.reduceLeDiff, Nat.reduceLT, Nat.reduceMul, Nat.reduceSub, Int.reduceToNat, Int.reduceSub, Int.reduceAdd, Int.reduceNeg, B80_0])
  refine ⟨fun h => ⟨by omega, h, ?_⟩, fun h => ?_⟩
  · have hlt : i < xs.length := by omega
    have hput := rowZ_put (e := eN) (zero := [I 0, U 0]) (xs := xs) (i := i) (sz := 2) (fun _ => rfl) rfl hlt rfl rfl
    refine Pu.use (toNode_spec (xs.getD i default)) ?_
    (try simp (maxSteps := 1000000) (disch := first | assumption | (apply Ne.symm; assumption)) only [vz, vu, vv, eqS, eqFieldsV, ↓condV_t, ↓condV_f, tabs, reduceCtorEq, Array.toList, ↓reduceIte, Nat.reduceAdd, Nat.reduceLeDiff, Nat.reduceLT, Nat.reduceMul, Nat.reduceSub, Int.reduceToNat, Int.reduceSub, Int.reduceAdd, Int.reduceNeg])
    refine ⟨by omega, h, by omega, i + 1, by omega, by omega, ?_, ?_⟩
    · rw [wk_int, i64_id (by omega) (by omega)]; simp
    · rw [← hput]; exact Heap.le_refl _
  · have : i = xs.length := by omega
    subst this
    have := fin_own (sz := 2) (es := xs.map eN) (q := q) (H := H) (H' := H.set q (rowZ eN [I 0, U 0] xs xs.length)) (K := fun r H' => r = Ns xs ∧ H' = H) (by omega) (sized_map (f := eN) (fun _ => rfl) xs) hq (by rw [rowZ_end]; exact Heap.le_refl _) ⟨rfl, rfl⟩
    simpa only [Go.Sep.own, List.length_map] using this

theorem toChange_spec (c : Ch) (h : smCh c) : Pu Tryz.prog 184 [aCh c] (aCh c) := by
  refine Pu.of fun H => ?_
  refine W184_ok ?_; simp (maxSteps := 1000000) (disch := first | assumption | (apply Ne.symm; assumption)) only [W184, vz, vu, vv, eqS, eqFieldsV, ↓condV_t, ↓condV_f, tabs, reduceCtorEq, Array.toList, ↓reduceIte, Nat.reduceAdd, Nat.reduceLeDiff, Nat.reduceLT, Nat.reduceMul, Nat.reduceSub, Int.reduceToNat, Int.reduceSub, Int.reduceAdd, Int.reduceNeg]
  intro r hr r2 n1 h2 r3 n2 n3 h3
  (try simp (maxSteps := 1000000) (disch := first | assumption | (apply Ne.symm; assumption)) only [vz, vu, vv, eqS, eqFieldsV, ↓condV_t, ↓condV_f, tabs, reduceCtorEq, Array.toList, ↓reduceIte, Nat.reduceAdd, Nat.reduceLeDiff, Nat.reduceLT, Nat.reduceMul, Nat.reduceSub, Int.reduceToNat, Int.reduceSub, Int.reduceAdd, Int.reduceNeg])
  refine Pu.use (toNodeS_spec c.by_ h) ?_
  (try simp (maxSteps := 1000000) (disch := first | assumption | (apply Ne.symm; assumption)) only [vz, vu, vv, eqS, eqFieldsV, ↓condV_t, ↓condV_f, tabs, reduceCtorEq, Array.toList, ↓reduceIte, Nat.reduceAdd, Nat.reduceLeDiff, Nat.reduceLT, Nat.reduceMul, Nat.reduceSub, Int.reduceToNat, Int.reduceSub, Int.reduceAdd, Int.reduceNeg])
  (repeat first | exact Heap.le_refl _ | refine Heap.le_setN ?_ (by assumption))

theorem toChangeS_spec (xs : List Ch) (hl : xs.length ≤ 1048576) (hs : ∀ x ∈ xs, smCh x) : Pu Tryz.prog 167 [Chs xs] (Chs xs) := by
  refine ⟨fun H => CallT.fin ?_⟩
  refine W167_ok ?_; simp (maxSteps := 1000000) (disch := first | assumption | (apply Ne.symm; assumption)) only [W167, vz, vu, vv, eqS, eqFieldsV, ↓condV_t, ↓condV_f, tabs, reduceCtorEq, Array.toList, ↓reduceIte, Nat.reduceAdd, Nat.reduceLeDiff, Nat.reduceLT, Nat.reduceMul, Nat.reduceSub, Int.reduceToNat, Int.reduceSub, Int.reduceAdd, Int.reduceNeg, makeSliceV]
  refine ⟨by omega, by omega, by omega, by omega, fun q hq => ?_⟩
  have z0 : rowZ eCh [I 0, .p .nil] xs 0 = zerosA xs.length [I 0, .p .nil] := rowZ_zero
  rw [← z0]
  refine L167_0_rule (0 : Nat) (fun i => I i) (fun i => H.set q (rowZ eCh [I 0, .p .nil] xs i)) (fun i => i ≤ xs.length) (fun i => xs.length - i) ⟨by omega, .refl _, Heap.le_refl _⟩ ?_
  intro i hi
  have hrl := rowZ_len (e := eCh) (zero := [I 0, .p .nil]) (xs := xs) (i := i) (sz := 2) (fun _ => rfl) rfl hi
  (try simp (maxSteps := 1000000) (disch := first | assumption | (apply Ne.symm; assumption)) only [vz, vu, vv, eqS, eqFieldsV, ↓condV_t, ↓condV_f, tabs, reduceCtorEq, Array.toList, ↓reduceIte, Nat.reduceAdd, Nat.reduceLeDiff, Nat.reduceLT, Nat.reduceMul, Nat.reduceSub, Int.reduceToNat, Int.reduceSub, Int.reduceAdd, Int.reduceNeg, B167_0])
  refine ⟨fun h => ⟨by omega, h, ?_⟩, fun h => ?_⟩
  · have hlt : i < xs.length := by omega
    have hput := rowZ_put (e := eCh) (zero := [I 0, .p .nil]) (xs := xs) (i := i) (sz := 2) (fun _ => rfl) rfl hlt rfl rfl
    have hm : xs.getD i default ∈ xs := getD_all (p := fun x => x ∈ xs) (fun _ h => h) hlt
    refine Pu.use (toChange_spec (xs.getD i default) (hs _ hm)) ?_
    (try simp (maxSteps := 1000000) (disch := first | assumption | (apply Ne.symm; assumption)) only [vz, vu, vv, eqS, eqFieldsV, ↓condV_t, ↓condV_f, tabs, reduceCtorEq, Array.toList, ↓reduceIte, Nat.reduceAdd, Nat.reduceLeDiff, Nat.reduceLT, Nat.reduceMul, Nat.reduceSub, Int.reduceToNat, Int.reduceSub, Int.reduceAdd, Int.reduceNeg])
    refine ⟨by omega, h, by omega, i + 1, by omega, by omega, ?_, ?_⟩
    · rw [wk_int, i64_id (by omega) (by omega)]; simp
    · rw [← hput]; exact Heap.le_refl _
  · have : i = xs.length := by omega
    subst this
    have := fin_own (sz := 2) (es := xs.map eCh) (q := q) (H := H) (H' := H.set q (rowZ eCh [I 0, .p .nil] xs xs.length)) (K := fun r H' => r = Chs xs ∧ H' = H) (by omega) (sized_map (f := eCh) (fun _ => rfl) xs) hq (by rw [rowZ_end]; exact Heap.le_refl _) ⟨rfl, rfl⟩
    simpa only [Go.Sep.own, List.length_map] using this

theorem toCommand_spec (c : Cm) (h : smCm c) : Pu Tryz.prog 128 [aCm c] (aCm c) := by
  refine Pu.of fun H => ?_
  refine W128_ok ?_; simp (maxSteps := 1000000) (disch := first | assumption | (apply Ne.symm; assumption)) only [W128, vz, vu, vv, eqS, eqFieldsV, ↓condV_t, ↓condV_f, tabs, reduceCtorEq, Array.toList, ↓reduceIte, Nat.reduceAdd, Nat.reduceLeDiff, Nat.reduceLT, Nat.reduceMul, Nat.reduceSub, Int.reduceToNat, Int.reduceSub, Int.reduceAdd, Int.reduceNeg]
  intro r hr r2 n1 h2 r3 n2 n3 h3
  (try simp (maxSteps := 1000000) (disch := first | assumption | (apply Ne.symm; assumption)) only [vz, vu, vv, eqS, eqFieldsV, ↓condV_t, ↓condV_f, tabs, reduceCtorEq, Array.toList, ↓reduceIte, Nat.reduceAdd, Nat.reduceLeDiff, Nat.reduceLT, Nat.reduceMul, Nat.reduceSub, Int.reduceToNat, Int.reduceSub, Int.reduceAdd, Int.reduceNeg])
  refine Pu.use (toNodeS_spec c.when_ h.1) ?_
  (try simp (maxSteps := 1000000) (disch := first | assumption | (apply Ne.symm; assumption)) only [vz, vu, vv, eqS, eqFieldsV, ↓condV_t, ↓condV_f, tabs, reduceCtorEq, Array.toList, ↓reduceIte, Nat.reduceAdd, Nat.reduceLeDiff, Nat.reduceLT, Nat.reduceMul, Nat.reduceSub, Int.reduceToNat, Int.reduceSub, Int.reduceAdd, Int.reduceNeg])
  refine Pu.use (toChangeS_spec c.chs h.2.1 h.2.2) ?_
  (try simp (maxSteps := 1000000) (disch := first | assumption | (apply Ne.symm; assumption)) only [vz, vu, vv, eqS, eqFieldsV, ↓condV_t, ↓condV_f, tabs, reduceCtorEq, Array.toList, ↓reduceIte, Nat.reduceAdd, Nat.reduceLeDiff, Nat.reduceLT, Nat.reduceMul, Nat.reduceSub, Int.reduceToNat, Int.reduceSub, Int.reduceAdd, Int.reduceNeg])
  (repeat first | exact Heap.le_refl _ | refine Heap.le_setN ?_ (by assumption))

theorem toCommandS_spec (xs : List Cm) (hl : xs.length ≤ 1048576) (hs : ∀ x ∈ xs, smCm x) : Pu Tryz.prog 81 [Cms xs] (Cms xs) := by
  refine ⟨fun H => CallT.fin ?_⟩
  refine W81_ok ?_; simp (maxSteps := 1000000) (disch := first | assumption | (apply Ne.symm; assumption)) only [W81, vz, vu, vv, eqS, eqFieldsV, ↓condV_t, ↓condV_f, tabs, reduceCtorEq, Array.toList, ↓reduceIte, Nat.reduceAdd, Nat.reduceLeDiff, Nat.reduceLT, Nat.reduceMul, Nat.reduceSub, Int.reduceToNat, Int.reduceSub, Int.reduceAdd, Int.reduceNeg, makeSliceV]
  refine ⟨by omega, by omega, by omega, by omega, fun q hq => ?_⟩
  have z0 : rowZ eCm [.p .nil, .p .nil] xs 0 = zerosA xs.length [.p .nil, .p .nil] := rowZ_zero
  rw [← z0]
  refine L81_0_rule (0 : Nat) (fun i => I i) (fun i => H.set q (rowZ eCm [.p .nil, .p .nil] xs i)) (fun i => i ≤ xs.length) (fun i => xs.length - i) ⟨by omega, .refl _, Heap.le_refl _⟩ ?_
  intro i hi
  have hrl := rowZ_len (e := eCm) (zero := [.p .nil, .p .nil]) (xs := xs) (i := i) (sz := 2) (fun _ => rfl) rfl hi
  (try simp (maxSteps := 1000000) (disch := first | assumption | (apply Ne.symm; assumption)) only [vz, vu, vv, eqS, eqFieldsV, ↓condV_t, ↓condV_f, tabs, reduceCtorEq, Array.toList, ↓reduceIte, Nat.reduceAdd, Nat.reduceLeDiff, Nat.reduceLT, Nat.reduceMul, Nat.reduceSub, Int.reduceToNat, Int.reduceSub, Int.reduceAdd, Int.reduceNeg, B81_0])
  refine ⟨fun h => ⟨by omega, h, ?_⟩, fun h => ?_⟩
  · have hlt : i < xs.length := by omega
    have hput := rowZ_put (e := eCm) (zero := [.p .nil, .p .nil]) (xs := xs) (i := i) (sz := 2) (fun _ => rfl) rfl hlt rfl rfl
    have hm : xs.getD i default ∈ xs := getD_all (p := fun x => x ∈ xs) (fun _ h => h) hlt
    refine Pu.use (toCommand_spec (xs.getD i default) (hs _ hm)) ?_
    (try simp (maxSteps := 1000000) (disch := first | assumption | (apply Ne.symm; assumption)) only [vz, vu, vv, eqS, eqFieldsV, ↓condV_t, ↓condV_f, tabs, reduceCtorEq, Array.toList, ↓reduceIte, Nat.reduceAdd, Nat.reduceLeDiff, Nat.reduceLT, Nat.reduceMul, Nat.reduceSub, Int.reduceToNat, Int.reduceSub, Int.reduceAdd, Int.reduceNeg])
    refine ⟨by omega, h, by omega, i + 1, by omega, by omega, ?_, ?_⟩
    · rw [wk_int, i64_id (by omega) (by omega)]; simp
    · rw [← hput]; exact Heap.le_refl _
  · have : i = xs.length := by omega
    subst this
    have := fin_own (sz := 2) (es := xs.map eCm) (q := q) (H := H) (H' := H.set q (rowZ eCm [.p .nil, .p .nil] xs xs.length)) (K := fun r H' => r = Cms xs ∧ H' = H) (by omega) (sized_map (f := eCm) (fun _ => rfl) xs) hq (by rw [rowZ_end]; exact Heap.le_refl _) ⟨rfl, rfl⟩
    simpa only [Go.Sep.own, List.length_map] using this

theorem toProgram_spec (c : Pg) (h : smPg c) : Pu Tryz.prog 41 [aPg c] (aPg c) := by
  refine Pu.of fun H => ?_
  refine W41_ok ?_; simp (maxSteps := 1000000) (disch := first | assumption | (apply Ne.symm; assumption)) only [W41, vz, vu, vv, eqS, eqFieldsV, ↓condV_t, ↓condV_f, tabs, reduceCtorEq, Array.toList, ↓reduceIte, Nat.reduceAdd, Nat.reduceLeDiff, Nat.reduceLT, Nat.reduceMul, Nat.reduceSub, Int.reduceToNat, Int.reduceSub, Int.reduceAdd, Int.reduceNeg]
  intro r hr r2 n1 h2 r3 n2 n3 h3
  (try simp (maxSteps := 1000000) (disch := first | assumption | (apply Ne.symm; assumption)) only [vz, vu, vv, eqS, eqFieldsV, ↓condV_t, ↓condV_f, tabs, reduceCtorEq, Array.toList, ↓reduceIte, Nat.reduceAdd, Nat.reduceLeDiff, Nat.reduceLT, Nat.reduceMul, Nat.reduceSub, Int.reduceToNat, Int.reduceSub, Int.reduceAdd, Int.reduceNeg])
  refine Pu.use (toNodeS_spec c.start h.1) ?_
  (try simp (maxSteps := 1000000) (disch := first | assumption | (apply Ne.symm; assumption)) only [vz, vu, vv, eqS, eqFieldsV, ↓condV_t, ↓condV_f, tabs, reduceCtorEq, Array.toList, ↓reduceIte, Nat.reduceAdd, Nat.reduceLeDiff, Nat.reduceLT, Nat.reduceMul, Nat.reduceSub, Int.reduceToNat, Int.reduceSub, Int.reduceAdd, Int.reduceNeg])
  refine Pu.use (toCommandS_spec c.cmds h.2.1 h.2.2) ?_
  (try simp (maxSteps := 1000000) (disch := first | assumption | (apply Ne.symm; assumption)) only [vz, vu, vv, eqS, eqFieldsV, ↓condV_t, ↓condV_f, tabs, reduceCtorEq, Array.toList, ↓reduceIte, Nat.reduceAdd, Nat.reduceLeDiff, Nat.reduceLT, Nat.reduceMul, Nat.reduceSub, Int.reduceToNat, Int.reduceSub, Int.reduceAdd, Int.reduceNeg])
  (repeat first | exact Heap.le_refl _ | refine Heap.le_setN ?_ (by assumption))

theorem toIntS_spec (xs : List Int) (hl : xs.length ≤ 1048576) : Pu Tryz.prog 16 [Is xs] (Is xs) := by
  refine ⟨fun H => CallT.fin ?_⟩
  refine W16_ok ?_; simp (maxSteps := 1000000) (disch := first | assumption | (apply Ne.symm; assumption)) only [W16, vz, vu, vv, eqS, eqFieldsV, ↓condV_t, ↓condV_f, tabs, reduceCtorEq, Array.toList, ↓reduceIte, Nat.reduceAdd, Nat.reduceLeDiff, Nat.reduceLT, Nat.reduceMul, Nat.reduceSub, Int.reduceToNat, Int.reduceSub, Int.reduceAdd, Int.reduceNeg, makeSliceV]
  refine ⟨by omega, by omega, by omega, by omega, fun q hq => ?_⟩
  have z0 : rowZ eI [I 0] xs 0 = zerosA xs.length [I 0] := rowZ_zero
  rw [← z0]
  refine L16_0_rule (0 : Nat) (fun i => I i) (fun i => H.set q (rowZ eI [I 0] xs i)) (fun i => i ≤ xs.length) (fun i => xs.length - i) ⟨by omega, .refl _, Heap.le_refl _⟩ ?_
  intro i hi
  have hrl := rowZ_len (e := eI) (zero := [I 0]) (xs := xs) (i := i) (sz := 1) (fun _ => rfl) rfl hi
  (try simp (maxSteps := 1000000) (disch := first | assumption | (apply Ne.symm; assumption)) only [vz, vu, vv, eqS, eqFieldsV, ↓condV_t, ↓condV_f, tabs, reduceCtorEq, Array.toList, ↓reduceIte, Nat.reduceAdd, Nat.reduceLeDiff, Nat.reduceLT, Nat.reduceMul, Nat.reduceSub, Int.reduceToNat, Int.reduceSub, Int.reduceAdd, Int.reduceNeg, B16_0])
  refine ⟨fun h => ⟨by omega, h, ?_⟩, fun h => ?_⟩
  · have hlt : i < xs.length := by omega
    have hput := rowZ_put (e := eI) (zero := [I 0]) (xs := xs) (i := i) (sz := 1) (fun _ => rfl) rfl hlt rfl rfl
    (try simp (maxSteps := 1000000) (disch := first | assumption | (apply Ne.symm; assumption)) only [vz, vu, vv, eqS, eqFieldsV, ↓condV_t, ↓condV_f, tabs, reduceCtorEq, Array.toList, ↓reduceIte, Nat.reduceAdd, Nat.reduceLeDiff, Nat.reduceLT, Nat.reduceMul, Nat.reduceSub, Int.reduceToNat, Int.reduceSub, Int.reduceAdd, Int.reduceNeg])
    refine ⟨by omega, h, by omega, i + 1, by omega, by omega, ?_, ?_⟩
    · rw [wk_int, i64_id (by omega) (by omega)]; simp
    · rw [← hput]; exact Heap.le_refl _
  · have : i = xs.length := by omega
    subst this
    have := fin_own (sz := 1) (es := xs.map eI) (q := q) (H := H) (H' := H.set q (rowZ eI [I 0] xs xs.length)) (K := fun r H' => r = Is xs ∧ H' = H) (by omega) (sized_map (f := eI) (fun _ => rfl) xs) hq (by rw [rowZ_end]; exact Heap.le_refl _) ⟨rfl, rfl⟩
    simpa only [Go.Sep.own, List.length_map] using this

theorem eqNode_spec (c : Nd) : Pu Tryz.prog 141 [aN c, aN c] (B true) := by
  refine Pu.of fun H => ?_
  refine W141_ok ?_; simp (maxSteps := 1000000) (disch := first | assumption | (apply Ne.symm; assumption)) only [W141, vz, vu, vv, eqS, eqFieldsV, ↓condV_t, ↓condV_f, tabs, reduceCtorEq, Array.toList, ↓reduceIte, Nat.reduceAdd, Nat.reduceLeDiff, Nat.reduceLT, Nat.reduceMul, Nat.reduceSub, Int.reduceToNat, Int.reduceSub, Int.reduceAdd, Int.reduceNeg]
  intro r hr r2 n1 h2
  (try simp (maxSteps := 1000000) (disch := first | assumption | (apply Ne.symm; assumption)) only [vz, vu, vv, eqS, eqFieldsV, ↓condV_t, ↓condV_f, tabs, reduceCtorEq, Array.toList, ↓reduceIte, Nat.reduceAdd, Nat.reduceLeDiff, Nat.reduceLT, Nat.reduceMul, Nat.reduceSub, Int.reduceToNat, Int.reduceSub, Int.reduceAdd, Int.reduceNeg])
  (repeat first | exact Heap.le_refl _ | refine Heap.le_setN ?_ (by assumption))

theorem eqNodeS_spec (xs : List Nd) (hl : xs.length ≤ 1048576) : Pu Tryz.prog 88 [Ns xs, Ns xs] (B true) := by
  refine Pu.of fun H => ?_
  refine W88_ok ?_; simp (maxSteps := 1000000) (disch := first | assumption | (apply Ne.symm; assumption)) only [W88, vz, vu, vv, eqS, eqFieldsV, ↓condV_t, ↓condV_f, tabs, reduceCtorEq, Array.toList, ↓reduceIte, Nat.reduceAdd, Nat.reduceLeDiff, Nat.reduceLT, Nat.reduceMul, Nat.reduceSub, Int.reduceToNat, Int.reduceSub, Int.reduceAdd, Int.reduceNeg]
  refine L88_0_rule (0 : Nat) (fun i => I i) (fun _ => H) (fun i => i ≤ xs.length) (fun i => xs.length - i) ⟨by omega, .refl _, Heap.le_refl _⟩ ?_
  intro i hi
  (try simp (maxSteps := 1000000) (disch := first | assumption | (apply Ne.symm; assumption)) only [vz, vu, vv, eqS, eqFieldsV, ↓condV_t, ↓condV_f, tabs, reduceCtorEq, Array.toList, ↓reduceIte, Nat.reduceAdd, Nat.reduceLeDiff, Nat.reduceLT, Nat.reduceMul, Nat.reduceSub, Int.reduceToNat, Int.reduceSub, Int.reduceAdd, Int.reduceNeg, B88_0])
  intro h
  have hlt : i < xs.length := by omega
  refine ⟨by omega, h, by omega, h, ?_⟩
  refine Pu.use (eqNode_spec (xs.getD i default)) ?_
  (try simp (maxSteps := 1000000) (disch := first | assumption | (apply Ne.symm; assumption)) only [vz, vu, vv, eqS, eqFieldsV, ↓condV_t, ↓condV_f, tabs, reduceCtorEq, Array.toList, ↓reduceIte, Nat.reduceAdd, Nat.reduceLeDiff, Nat.reduceLT, Nat.reduceMul, Nat.reduceSub, Int.reduceToNat, Int.reduceSub, Int.reduceAdd, Int.reduceNeg])
  refine ⟨i + 1, by omega, by omega, ?_⟩
  rw [wk_int, i64_id (by omega) (by omega)]; simp

theorem eqChange_spec (c : Ch) (h : smCh c) : Pu Tryz.prog 197 [aCh c, aCh c] (B true) := by
  refine Pu.of fun H => ?_
  refine W197_ok ?_; simp (maxSteps := 1000000) (disch := first | assumption | (apply Ne.symm; assumption)) only [W197, vz, vu, vv, eqS, eqFieldsV, ↓condV_t, ↓condV_f, tabs, reduceCtorEq, Array.toList, ↓reduceIte, Nat.reduceAdd, Nat.reduceLeDiff, Nat.reduceLT, Nat.reduceMul, Nat.reduceSub, Int.reduceToNat, Int.reduceSub, Int.reduceAdd, Int.reduceNeg]
  intro r hr r2 n1 h2
  (try simp (maxSteps := 1000000) (disch := first | assumption | (apply Ne.symm; assumption)) only [vz, vu, vv, eqS, eqFieldsV, ↓condV_t, ↓condV_f, tabs, reduceCtorEq, Array.toList, ↓reduceIte, Nat.reduceAdd, Nat.reduceLeDiff, Nat.reduceLT, Nat.reduceMul, Nat.reduceSub, Int.reduceToNat, Int.reduceSub, Int.reduceAdd, Int.reduceNeg])
  refine Pu.use (eqNodeS_spec c.by_ h) ?_
  (try simp (maxSteps := 1000000) (disch := first | assumption | (apply Ne.symm; assumption)) only [vz, vu, vv, eqS, eqFieldsV, ↓condV_t, ↓condV_f, tabs, reduceCtorEq, Array.toList, ↓reduceIte, Nat.reduceAdd, Nat.reduceLeDiff, Nat.reduceLT, Nat.reduceMul, Nat.reduceSub, Int.reduceToNat, Int.reduceSub, Int.reduceAdd, Int.reduceNeg])
  (repeat first | exact Heap.le_refl _ | refine Heap.le_setN ?_ (by assumption))

theorem eqChangeS_spec (xs : List Ch) (hl : xs.length ≤ 1048576) (hs : ∀ x ∈ xs, smCh x) : Pu Tryz.prog 175 [Chs xs, Chs xs] (B true) := by
  refine Pu.of fun H => ?_
  refine W175_ok ?_; simp (maxSteps := 1000000) (disch := first | assumption | (apply Ne.symm; assumption)) only [W175, vz, vu, vv, eqS, eqFieldsV, ↓condV_t, ↓condV_f, tabs, reduceCtorEq, Array.toList, ↓reduceIte, Nat.reduceAdd, Nat.reduceLeDiff, Nat.reduceLT, Nat.reduceMul, Nat.reduceSub, Int.reduceToNat, Int.reduceSub, Int.reduceAdd, Int.reduceNeg]
  refine L175_0_rule (0 : Nat) (fun i => I i) (fun _ => H) (fun i => i ≤ xs.length) (fun i => xs.length - i) ⟨by omega, .refl _, Heap.le_refl _⟩ ?_
  intro i hi
  (try simp (maxSteps := 1000000) (disch := first | assumption | (apply Ne.symm; assumption)) only [vz, vu, vv, eqS, eqFieldsV, ↓condV_t, ↓condV_f, tabs, reduceCtorEq, Array.toList, ↓reduceIte, Nat.reduceAdd, Nat.reduceLeDiff, Nat.reduceLT, Nat.reduceMul, Nat.reduceSub, Int.reduceToNat, Int.reduceSub, Int.reduceAdd, Int.reduceNeg, B175_0])
  intro h
  have hlt : i < xs.length := by omega
  refine ⟨by omega, h, by omega, h, ?_⟩
  have hm : xs.getD i default ∈ xs := getD_all (p := fun x => x ∈ xs) (fun _ h => h) hlt
  refine Pu.use (eqChange_spec (xs.getD i default) (hs _ hm)) ?_
  (try simp (maxSteps := 1000000) (disch := first | assumption | (apply Ne.symm; assumption)) only [vz, vu, vv, eqS, eqFieldsV, ↓condV_t, ↓condV_f, tabs, reduceCtorEq, Array.toList, ↓reduceIte, Nat.reduceAdd, Nat.reduceLeDiff, Nat.reduceLT, Nat.reduceMul, Nat.reduceSub, Int.reduceToNat, Int.reduceSub, Int.reduceAdd, Int.reduceNeg])
  refine ⟨i + 1, by omega, by omega, ?_⟩
  rw [wk_int, i64_id (by omega) (by omega)]; simp

theorem eqCommand_spec (c : Cm) (h : smCm c) : Pu Tryz.prog 142 [aCm c, aCm c] (B true) := by
  refine Pu.of fun H => ?_
  refine W142_ok ?_; simp (maxSteps := 1000000) (disch := first | assumption | (apply Ne.symm; assumption)) only [W142, vz, vu, vv, eqS, eqFieldsV, ↓condV_t, ↓condV_f, tabs, reduceCtorEq, Array.toList, ↓reduceIte, Nat.reduceAdd, Nat.reduceLeDiff, Nat.reduceLT, Nat.reduceMul, Nat.reduceSub, Int.reduceToNat, Int.reduceSub, Int.reduceAdd, Int.reduceNeg]
  intro r hr r2 n1 h2
  (try simp (maxSteps := 1000000) (disch := first | assumption | (apply Ne.symm; assumption)) only [vz, vu, vv, eqS, eqFieldsV, ↓condV_t, ↓condV_f, tabs, reduceCtorEq, Array.toList, ↓reduceIte, Nat.reduceAdd, Nat.reduceLeDiff, Nat.reduceLT, Nat.reduceMul, Nat.reduceSub, Int.reduceToNat, Int.reduceSub, Int.reduceAdd, Int.reduceNeg])
  refine Pu.use (eqNodeS_spec c.when_ h.1) ?_
  (try simp (maxSteps := 1000000) (disch := first | assumption | (apply Ne.symm; assumption)) only [vz, vu, vv, eqS, eqFieldsV, ↓condV_t, ↓condV_f, tabs, reduceCtorEq, Array.toList, ↓reduceIte, Nat.reduceAdd, Nat.reduceLeDiff, Nat.reduceLT, Nat.reduceMul, Nat.reduceSub, Int.reduceToNat, Int.reduceSub, Int.reduceAdd, Int.reduceNeg])
  refine Pu.use (eqChangeS_spec c.chs h.2.1 h.2.2) ?_
  (try simp (maxSteps := 1000000) (disch := first | assumption | (apply Ne.symm; assumption)) only [vz, vu, vv, eqS, eqFieldsV, ↓condV_t, ↓condV_f, tabs, reduceCtorEq, Array.toList, ↓reduceIte, Nat.reduceAdd, Nat.reduceLeDiff, Nat.reduceLT, Nat.reduceMul, Nat.reduceSub, Int.reduceToNat, Int.reduceSub, Int.reduceAdd, Int.reduceNeg])
  (repeat first | exact Heap.le_refl _ | refine Heap.le_setN ?_ (by assumption))

theorem eqCommandS_spec (xs : List Cm) (hl : xs.length ≤ 1048576) (hs : ∀ x ∈ xs, smCm x) : Pu Tryz.prog 89 [Cms xs, Cms xs] (B true) := by
  refine Pu.of fun H => ?_
  refine W89_ok ?_; simp (maxSteps := 1000000) (disch := first | assumption | (apply Ne.symm; assumption)) only [W89, vz, vu, vv, eqS, eqFieldsV, ↓condV_t, ↓condV_f, tabs, reduceCtorEq, Array.toList, ↓reduceIte, Nat.reduceAdd, Nat.reduceLeDiff, Nat.reduceLT, Nat.reduceMul, Nat.reduceSub, Int.reduceToNat, Int.reduceSub, Int.reduceAdd, Int.reduceNeg]
  refine L89_0_rule (0 : Nat) (fun i => I i) (fun _ => H) (fun i => i ≤ xs.length) (fun i => xs.length - i) ⟨by omega, .refl _, Heap.le_refl _⟩ ?_
  intro i hi
  (try simp (maxSteps := 1000000) (disch := first | assumption | (apply Ne.symm; assumption)) only [vz, vu, vv, eqS, eqFieldsV, ↓condV_t, ↓condV_f, tabs, reduceCtorEq, Array.toList, ↓reduceIte, Nat.reduceAdd, Nat.reduceLeDiff, Nat.reduceLT, Nat.reduceMul, Nat.reduceSub, Int.reduceToNat, Int.reduceSub, Int.reduceAdd, Int.reduceNeg, B89_0])
  intro h
  have hlt : i < xs.length := by omega
  refine ⟨by omega, h, by omega, h, ?_⟩
  have hm : xs.getD i default ∈ xs := getD_all (p := fun x => x ∈ xs) (fun _ h => h) hlt
  refine Pu.use (eqCommand_spec (xs.getD i default) (hs _ hm)) ?_
  (try simp (maxSteps := 1000000) (disch := first | assumption | (apply Ne.symm; assumption)) only [vz, vu, vv, eqS, eqFieldsV, ↓condV_t, ↓condV_f, tabs, reduceCtorEq, Array.toList, ↓reduceIte, Nat.reduceAdd, Nat.reduceLeDiff, Nat.reduceLT, Nat.reduceMul, Nat.reduceSub, Int.reduceToNat, Int.reduceSub, Int.reduceAdd, Int.reduceNeg])
  refine ⟨i + 1, by omega, by omega, ?_⟩
  rw [wk_int, i64_id (by omega) (by omega)]; simp

theorem eqProgram_spec (c : Pg) (h : smPg c) : Pu Tryz.prog 49 [aPg c, aPg c] (B true) := by
  refine Pu.of fun H => ?_
  refine W49_ok ?_; simp (maxSteps := 1000000) (disch := first | assumption | (apply Ne.symm; assumption)) only [W49, vz, vu, vv, eqS, eqFieldsV, ↓condV_t, ↓condV_f, tabs, reduceCtorEq, Array.toList, ↓reduceIte, Nat.reduceAdd, Nat.reduceLeDiff, Nat.reduceLT, Nat.reduceMul, Nat.reduceSub, Int.reduceToNat, Int.reduceSub, Int.reduceAdd, Int.reduceNeg]
  intro r hr r2 n1 h2
  (try simp (maxSteps := 1000000) (disch := first | assumption | (apply Ne.symm; assumption)) only [vz, vu, vv, eqS, eqFieldsV, ↓condV_t, ↓condV_f, tabs, reduceCtorEq, Array.toList, ↓reduceIte, Nat.reduceAdd, Nat.reduceLeDiff, Nat.reduceLT, Nat.reduceMul, Nat.reduceSub, Int.reduceToNat, Int.reduceSub, Int.reduceAdd, Int.reduceNeg])
  refine Pu.use (eqNodeS_spec c.start h.1) ?_
  (try simp (maxSteps := 1000000) (disch := first | assumption | (apply Ne.symm; assumption)) only [vz, vu, vv, eqS, eqFieldsV, ↓condV_t, ↓condV_f, tabs, reduceCtorEq, Array.toList, ↓reduceIte, Nat.reduceAdd, Nat.reduceLeDiff, Nat.reduceLT, Nat.reduceMul, Nat.reduceSub, Int.reduceToNat, Int.reduceSub, Int.reduceAdd, Int.reduceNeg])
  refine Pu.use (eqCommandS_spec c.cmds h.2.1 h.2.2) ?_
  (try simp (maxSteps := 1000000) (disch := first | assumption | (apply Ne.symm; assumption)) only [vz, vu, vv, eqS, eqFieldsV, ↓condV_t, ↓condV_f, tabs, reduceCtorEq, Array.toList, ↓reduceIte, Nat.reduceAdd, Nat.reduceLeDiff, Nat.reduceLT, Nat.reduceMul, Nat.reduceSub, Int.reduceToNat, Int.reduceSub, Int.reduceAdd, Int.reduceNeg])
  (repeat first | exact Heap.le_refl _ | refine Heap.le_setN ?_ (by assumption))

theorem eqIntS_spec (xs : List Int) (hl : xs.length ≤ 1048576) : Pu Tryz.prog 18 [Is xs, Is xs] (B true) := by
  refine Pu.of fun H => ?_
  refine W18_ok ?_; simp (maxSteps := 1000000) (disch := first | assumption | (apply Ne.symm; assumption)) only [W18, vz, vu, vv, eqS, eqFieldsV, ↓condV_t, ↓condV_f, tabs, reduceCtorEq, Array.toList, ↓reduceIte, Nat.reduceAdd, Nat.reduceLeDiff, Nat.reduceLT, Nat.reduceMul, Nat.reduceSub, Int.reduceToNat, Int.reduceSub, Int.reduceAdd, Int.reduceNeg]
  refine L18_0_rule (0 : Nat) (fun i => I i) (fun _ => H) (fun i => i ≤ xs.length) (fun i => xs.length - i) ⟨by omega, .refl _, Heap.le_refl _⟩ ?_
  intro i hi
  (try simp (maxSteps := 1000000) (disch := first | assumption | (apply Ne.symm; assumption)) only [vz, vu, vv, eqS, eqFieldsV, ↓condV_t, ↓condV_f, tabs, reduceCtorEq, Array.toList, ↓reduceIte, Nat.reduceAdd, Nat.reduceLeDiff, Nat.reduceLT, Nat.reduceMul, Nat.reduceSub, Int.reduceToNat, Int.reduceSub, Int.reduceAdd, Int.reduceNeg, B18_0])
  intro h
  have hlt : i < xs.length := by omega
  refine ⟨by omega, h, by omega, h, ?_⟩
  (try simp (maxSteps := 1000000) (disch := first | assumption | (apply Ne.symm; assumption)) only [vz, vu, vv, eqS, eqFieldsV, ↓condV_t, ↓condV_f, tabs, reduceCtorEq, Array.toList, ↓reduceIte, Nat.reduceAdd, Nat.reduceLeDiff, Nat.reduceLT, Nat.reduceMul, Nat.reduceSub, Int.reduceToNat, Int.reduceSub, Int.reduceAdd, Int.reduceNeg])
  refine ⟨i + 1, by omega, by omega, ?_⟩
  rw [wk_int, i64_id (by omega) (by omega)]; simp

end Go.Proofs.YtgcklgeifdefhaaGreat
/- Plain facts: words and their lower bits. -/
namespace Go.Pt
open Go Go.Sep
theorem mask_eq : ∀ w : Nat, w ≤ 64 → (2 ^ 64 - 1) / 2 ^ (64 - w) = 2 ^ w - 1 := by decide +kernel

theorem or_step (a k : Nat) : (a % 2 ^ k) ||| (a &&& 2 ^ k) = a % 2 ^ (k + 1) := by
  apply Nat.eq_of_testBit_eq
  intro i
  rw [Nat.testBit_or, Nat.testBit_and, Nat.testBit_mod_two_pow, Nat.testBit_mod_two_pow, Nat.testBit_two_pow]
  cases a.testBit i
  · simp
  · simp only [Bool.and_true, Bool.true_and]
    rw [Bool.eq_iff_iff]
    simp only [Bool.or_eq_true, decide_eq_true_eq]
    omega

theorem bitsU (a b : Nat) (ha : a < 2 ^ 64) (hb : b < 2 ^ 64) :
    bitsI .and .u64 a b = ((a &&& b : Nat) : Int) ∧ bitsI .or .u64 a b = ((a ||| b : Nat) : Int) := by
  have e : ∀ x : Nat, x < 2 ^ 64 → (BitVec.ofInt IntKind.u64.bits (x : Int)).toNat = x := by
    intro x hx
    have : BitVec.ofInt IntKind.u64.bits (x : Int) = BitVec.ofNat 64 x := by
      apply BitVec.eq_of_toNat_eq; simp [IntKind.bits]
    rw [this]
    show (BitVec.ofNat 64 x).toNat = x
    rw [BitVec.toNat_ofNat, Nat.mod_eq_of_lt hx]
  constructor
  · simp only [bitsI]
    rw [BitVec.toNat_and, e a ha, e b hb, IntKind.wrap_u64]
    have := Nat.and_lt_two_pow a hb
    omega
  · simp only [bitsI]
    rw [BitVec.toNat_or, e a ha, e b hb, IntKind.wrap_u64]
    have := Nat.or_lt_two_pow ha hb
    omega
end Go.Pt
