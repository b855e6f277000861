/- What each function's code is asked for, as a formula. Written by wgen.py (a program of this session's) out of Lean's print of the program. -/
import Derived.KernelRfl
import Derived.Test.YtfbaijpanbjmpaaTab
import Derived.Test.YtfbaijpanbjmpaaSepC
namespace Go.Proofs.Ytfbaijpanbjmpaa
open Go Go.Sep
set_option linter.unusedVariables false
attribute [local irreducible] wpC headF
/-- loop.example/g00649/laws.FnExactAutoGraph -/
def D6 : Info := ⟨96, fun i => if i = 10 then ([[], [], [1], [0, 1, 2], [0, 1, 2, 3]], [(0, []), (1, []), (2, [0]), (3, []), (4, [])]) else ([], []), fun i => ([], [])⟩
def W6 (v0 : AV) (H : Heap) (K : AV → Heap → Prop) : Prop :=
 boxV v0 H fun v1 H1 =>
 loadV tab 26 v1 H1 fun v14 =>
 CallT Try.prog 9 [v14, (AV.p (.int .i64 1048576))] H1 fun v16 H2 =>
 binV tab .lss 3 v16 (AV.p (.int .i64 0)) fun v18 =>
 condV v18 (K (AV.p (.bool true)) H2)
 (loadV tab 26 v1 H2 fun v20 =>
 CallT Try.prog 11 [v20] H2 fun v21 H3 =>
 CallT Try.prog 23 [v21] H3 fun v22 H4 =>
 extractV v22 0 fun v23 =>
 extractV v22 1 fun v24 =>
 allocV tab 49 H4 fun v4 H5 =>
 storeV tab 49 v4 v23 H5 fun H6 =>
 loadV tab 26 v1 H6 fun v25 =>
 CallT Try.prog 11 [v25] H6 fun v26 H7 =>
 allocV tab 30 H7 fun v6 H8 =>
 storeV tab 30 v6 v26 H8 fun H9 =>
 loadV tab 30 v6 H9 fun v28 =>
 CallT Try.prog 24 [v28] H9 fun v29 H10 =>
 extractV v29 0 fun v30 =>
 extractV v29 1 fun v31 =>
 allocV tab 49 H10 fun v7 H11 =>
 storeV tab 49 v7 v30 H11 fun H12 =>
 loadV tab 49 v7 H12 fun v32 =>
 loadV tab 49 v4 H12 fun v33 =>
 CallT Try.prog 25 [v32, v33] H12 fun v34 H13 =>
 unV .not v34 fun v35 =>
 grdV v35 false (binV tab .neq 4 v31 v24 fun v39 =>
 condV v39 (K (AV.p (.bool false)) H13)
 (loadV tab 30 v6 H13 fun v41 =>
 loadV tab 26 v1 H13 fun v42 =>
 CallT Try.prog 11 [v42] H13 fun v43 H14 =>
 (loadV tab 30 v6 H14 fun v9041 =>
 v41 = v9041) ∧
 CallT Try.prog 13 [v41, v43] H14 fun v44 H15 =>
 unV .not v44 fun v45 =>
 condV v45 (K (AV.p (.bool false)) H15)
 (loadV tab 30 v6 H15 fun v46 =>
 CallT Try.prog 14 [v46, (AV.p (.int .i64 1))] H15 fun v48 H16 =>
 binV tab .lss 3 v48 (AV.p (.int .i64 0)) fun v50 =>
 grdV v50 false (loadV tab 49 v7 H16 fun v52 =>
 loadV tab 49 v4 H16 fun v53 =>
 CallT Try.prog 25 [v52, v53] H16 fun v54 H17 =>
 unV .not v54 fun v55 =>
 grdV v55 false (binV tab .neq 4 v31 v24 fun v60 =>
 condV v60 (K (AV.p (.bool false)) H17)
 (loadV tab 49 v7 H17 fun v62 =>
 CallT Try.prog 26 [v62, (AV.p (.int .i64 1))] H17 fun v64 H18 =>
 loadV tab 49 v7 H18 fun v65 =>
 CallT Try.prog 27 [v65, (AV.p (.int .i64 1))] H18 fun v67 H19 =>
 binV tab .lss 3 v67 (AV.p (.int .i64 0)) fun v69 =>
 condV v69 (K (AV.p (.bool false)) H19)
 (binV tab .neq 3 v67 v64 fun v72 =>
 condV v72 (K (AV.p (.bool false)) H19)
 (loadV tab 26 v1 H19 fun v74 =>
 CallT Try.prog 11 [v74] H19 fun v75 H20 =>
 CallT Try.prog 24 [v75] H20 fun v76 H21 =>
 extractV v76 0 fun v77 =>
 extractV v76 1 fun v78 =>
 allocV tab 49 H21 fun v12 H22 =>
 storeV tab 49 v12 v77 H22 fun H23 =>
 loadV tab 49 v12 H23 fun v79 =>
 loadV tab 49 v4 H23 fun v80 =>
 CallT Try.prog 25 [v79, v80] H23 fun v81 H24 =>
 unV .not v81 fun v82 =>
 grdV v82 false (binV tab .neq 4 v78 v24 fun v86 =>
 condV v86 (K (AV.p (.bool false)) H24)
 (loadV tab 49 v7 H24 fun v88 =>
 CallT Try.prog 27 [v88, (AV.p (.int .i64 1))] H24 fun v90 H25 =>
 binV tab .lss 3 v90 (AV.p (.int .i64 0)) fun v92 =>
 condV v92 (K (AV.p (.bool false)) H25)
 (binV tab .neq 3 v90 v64 fun v95 =>
 condV v95 (K (AV.p (.bool false)) H25)
 (K (AV.p (.bool true)) H25))))
 (K (AV.p (.bool false)) H24)))))
 (K (AV.p (.bool false)) H17))
 (K (AV.p (.bool false)) H16))))
 (K (AV.p (.bool false)) H13))
theorem W6_wp (v0 : AV) (H : Heap) (K : AV → Heap → Prop) : wpC Try.prog tab D6 (bodyOf Try.f6) (retF tab [.tmp 2] K) (nthA [v0]) H = W6 v0 H K := by kernel_rfl
theorem W6_ok {v0 : AV} {H : Heap} {K : AV → Heap → Prop} (h : W6 v0 H K) : CallT Try.prog 6 [v0] H K :=
  CallT.of_wp (D := D6) tab_ok mixed Try.func6 (c := bodyOf Try.f6) (by kernel_rfl) rfl (by kernel_rfl) (rs := #[.tmp 2]) rfl (by decide +kernel) (by kernel_rfl) (W6_wp v0 H K) h
theorem W6_hb : HasBody Try.prog 6 := ⟨_, bodyOf Try.f6, Try.func6, by kernel_rfl, rfl⟩
/-- loop.example/g00649/spec.AutoGraph -/
def D23 : Info := ⟨11, fun i => ([], []), fun i => ([], [])⟩
def W23 (v0 : AV) (H : Heap) (K : AV → Heap → Prop) : Prop :=
 boxV v0 H fun v1 H1 =>
 allocV tab 49 H1 fun v2 H2 =>
 loadV tab 30 v1 H2 fun v4 =>
 CallT Try.prog 35 [v4] H2 fun v5 H3 =>
 unV .not v5 fun v6 =>
 condV v6 (buildV tab 49 [] fun v7 =>
 storeV tab 49 v2 v7 H3 fun H4 =>
 loadV tab 49 v2 H4 fun r0 =>
 K (.tup [r0, (AV.p (.bool false))]) H4)
 (loadV tab 30 v1 H3 fun v8 =>
 CallT Try.prog 70 [v8] H3 fun v9 H5 =>
 buildV tab 49 [(0, v9)] fun v10 =>
 storeV tab 49 v2 v10 H5 fun H6 =>
 loadV tab 49 v2 H6 fun r0 =>
 K (.tup [r0, (AV.p (.bool true))]) H6)
theorem W23_wp (v0 : AV) (H : Heap) (K : AV → Heap → Prop) : wpC Try.prog tab D23 (bodyOf Try.f23) (retF tab [.cell 2 49, .tmp 3] K) (nthA [v0]) H = W23 v0 H K := by kernel_rfl
theorem W23_ok {v0 : AV} {H : Heap} {K : AV → Heap → Prop} (h : W23 v0 H K) : CallT Try.prog 23 [v0] H K :=
  CallT.of_wp (D := D23) tab_ok mixed Try.func23 (c := bodyOf Try.f23) (by kernel_rfl) rfl (by kernel_rfl) (rs := #[.cell 2 49, .tmp 3]) rfl (by decide +kernel) (by kernel_rfl) (W23_wp v0 H K) h
theorem W23_hb : HasBody Try.prog 23 := ⟨_, bodyOf Try.f23, Try.func23, by kernel_rfl, rfl⟩
/-- loop.example/g00649/impl.AutoGraph -/
def D24 : Info := ⟨11, fun i => ([], []), fun i => ([], [])⟩
def W24 (v0 : AV) (H : Heap) (K : AV → Heap → Prop) : Prop :=
 boxV v0 H fun v1 H1 =>
 allocV tab 49 H1 fun v2 H2 =>
 loadV tab 30 v1 H2 fun v4 =>
 CallT Try.prog 42 [v4] H2 fun v5 H3 =>
 unV .not v5 fun v6 =>
 condV v6 (buildV tab 49 [] fun v7 =>
 storeV tab 49 v2 v7 H3 fun H4 =>
 loadV tab 49 v2 H4 fun r0 =>
 K (.tup [r0, (AV.p (.bool false))]) H4)
 (loadV tab 30 v1 H3 fun v8 =>
 CallT Try.prog 71 [v8] H3 fun v9 H5 =>
 buildV tab 49 [(0, v9)] fun v10 =>
 storeV tab 49 v2 v10 H5 fun H6 =>
 loadV tab 49 v2 H6 fun r0 =>
 K (.tup [r0, (AV.p (.bool true))]) H6)
theorem W24_wp (v0 : AV) (H : Heap) (K : AV → Heap → Prop) : wpC Try.prog tab D24 (bodyOf Try.f24) (retF tab [.cell 2 49, .tmp 3] K) (nthA [v0]) H = W24 v0 H K := by kernel_rfl
theorem W24_ok {v0 : AV} {H : Heap} {K : AV → Heap → Prop} (h : W24 v0 H K) : CallT Try.prog 24 [v0] H K :=
  CallT.of_wp (D := D24) tab_ok mixed Try.func24 (c := bodyOf Try.f24) (by kernel_rfl) rfl (by kernel_rfl) (rs := #[.cell 2 49, .tmp 3]) rfl (by decide +kernel) (by kernel_rfl) (W24_wp v0 H K) h
theorem W24_hb : HasBody Try.prog 24 := ⟨_, bodyOf Try.f24, Try.func24, by kernel_rfl, rfl⟩
/-- loop.example/g00649/laws.eqGraph -/
def D25 : Info := ⟨11, fun i => ([], []), fun i => ([], [])⟩
def W25 (v0 : AV) (v1 : AV) (H : Heap) (K : AV → Heap → Prop) : Prop :=
 boxV v0 H fun v2 H1 =>
 boxV v1 H1 fun v3 H2 =>
 fieldAddrV tab 49 v2 0 fun v5 =>
 loadV tab 24 v5 H2 fun v6 =>
 fieldAddrV tab 49 v3 0 fun v7 =>
 loadV tab 24 v7 H2 fun v8 =>
 CallT Try.prog 50 [v6, v8] H2 fun v9 H3 =>
 unV .not v9 fun v10 =>
 condV v10 (K (AV.p (.bool false)) H3)
 (K (AV.p (.bool true)) H3)
theorem W25_wp (v0 : AV) (v1 : AV) (H : Heap) (K : AV → Heap → Prop) : wpC Try.prog tab D25 (bodyOf Try.f25) (retF tab [.tmp 4] K) (nthA [v0, v1]) H = W25 v0 v1 H K := by kernel_rfl
theorem W25_ok {v0 v1 : AV} {H : Heap} {K : AV → Heap → Prop} (h : W25 v0 v1 H K) : CallT Try.prog 25 [v0, v1] H K :=
  CallT.of_wp (D := D25) tab_ok mixed Try.func25 (c := bodyOf Try.f25) (by kernel_rfl) rfl (by kernel_rfl) (rs := #[.tmp 4]) rfl (by decide +kernel) (by kernel_rfl) (W25_wp v0 v1 H K) h
theorem W25_hb : HasBody Try.prog 25 := ⟨_, bodyOf Try.f25, Try.func25, by kernel_rfl, rfl⟩
/-- loop.example/g00649/laws.markGraph -/
def D26 : Info := ⟨10, fun i => ([], []), fun i => ([], [])⟩
def W26 (v0 : AV) (v1 : AV) (H : Heap) (K : AV → Heap → Prop) : Prop :=
 boxV v0 H fun v2 H1 =>
 fieldAddrV tab 49 v2 0 fun v5 =>
 loadV tab 24 v5 H1 fun v6 =>
 CallT Try.prog 53 [v6, v1] H1 fun v8 H2 =>
 K v8 H2
theorem W26_wp (v0 : AV) (v1 : AV) (H : Heap) (K : AV → Heap → Prop) : wpC Try.prog tab D26 (bodyOf Try.f26) (retF tab [.tmp 4] K) (nthA [v0, v1]) H = W26 v0 v1 H K := by kernel_rfl
theorem W26_ok {v0 v1 : AV} {H : Heap} {K : AV → Heap → Prop} (h : W26 v0 v1 H K) : CallT Try.prog 26 [v0, v1] H K :=
  CallT.of_wp (D := D26) tab_ok mixed Try.func26 (c := bodyOf Try.f26) (by kernel_rfl) rfl (by kernel_rfl) (rs := #[.tmp 4]) rfl (by decide +kernel) (by kernel_rfl) (W26_wp v0 v1 H K) h
theorem W26_hb : HasBody Try.prog 26 := ⟨_, bodyOf Try.f26, Try.func26, by kernel_rfl, rfl⟩
/-- loop.example/g00649/laws.heldGraph -/
def D27 : Info := ⟨12, fun i => ([], []), fun i => ([], [])⟩
def W27 (v0 : AV) (v1 : AV) (H : Heap) (K : AV → Heap → Prop) : Prop :=
 boxV v0 H fun v2 H1 =>
 fieldAddrV tab 49 v2 0 fun v5 =>
 loadV tab 24 v5 H1 fun v6 =>
 CallT Try.prog 56 [v6, v1] H1 fun v8 H2 =>
 binV tab .lss 3 v8 (AV.p (.int .i64 0)) fun v10 =>
 condV v10 (K (AV.p (.int .i64 (-1))) H2)
 (K v8 H2)
theorem W27_wp (v0 : AV) (v1 : AV) (H : Heap) (K : AV → Heap → Prop) : wpC Try.prog tab D27 (bodyOf Try.f27) (retF tab [.tmp 4] K) (nthA [v0, v1]) H = W27 v0 v1 H K := by kernel_rfl
theorem W27_ok {v0 v1 : AV} {H : Heap} {K : AV → Heap → Prop} (h : W27 v0 v1 H K) : CallT Try.prog 27 [v0, v1] H K :=
  CallT.of_wp (D := D27) tab_ok mixed Try.func27 (c := bodyOf Try.f27) (by kernel_rfl) rfl (by kernel_rfl) (rs := #[.tmp 4]) rfl (by decide +kernel) (by kernel_rfl) (W27_wp v0 v1 H K) h
theorem W27_hb : HasBody Try.prog 27 := ⟨_, bodyOf Try.f27, Try.func27, by kernel_rfl, rfl⟩
/-- loop.example/g00649/spec.l12Graph -/
def D70 : Info := ⟨30, fun i => if i = 5 then ([[], [], [1], [], [], [4], [3, 4, 5], [3, 4, 5, 6], [], [8], [3, 4, 5, 6, 7, 8, 9], [0, 1, 2, 3, 4, 5, 6, 7, 8, 9, 10], [0, 1, 2, 3, 4, 5, 6, 7, 8, 9, 10, 11]], [(0, []), (1, []), (2, []), (3, []), (4, []), (5, []), (6, []), (7, []), (8, []), (9, []), (10, [2]), (11, []), (12, [])]) else ([], []), fun i => if i = 3 then ([3, 10, 11], [12]) else ([], [])⟩
def L70_0 (K : AV → Heap → Prop) (v3 : AV) (v10 : AV) (v11 : AV) (v12 : AV) (H : Heap) : Prop := LoopV (wpC Try.prog tab D70 (cAt [1, 1, 0, 1, 0, 0] (bodyOf Try.f70))) [3, 10, 11] (PostF.block 0 (PostF.thenA (wpC Try.prog tab D70 (cAt [1, 1, 1] (bodyOf Try.f70))) (retF tab [.tmp 2] K))) [12] [AV.any, AV.any, AV.any, v3, AV.any, AV.any, AV.any, AV.any, AV.any, AV.any, v10, v11, v12, AV.any, AV.any, AV.any, AV.any, AV.any, AV.any, AV.any, AV.any, AV.any, AV.any, AV.any, AV.any, AV.any, AV.any, AV.any, AV.any, AV.any] H
def B70_0 (K : AV → Heap → Prop) (N1 : AV → Heap → Prop) (v3 : AV) (v10 : AV) (v11 : AV) (v12 : AV) (H : Heap) : Prop :=
 binV tab .lss 3 v12 v11 fun v13 =>
 condV v13 (indexAddrV tab 28 v10 v12 fun v14 =>
 loadV tab 61 v14 H fun v15 =>
 allocV tab 61 H fun v5 H3 =>
 storeV tab 61 v5 v15 H3 fun H4 =>
 fieldAddrV tab 61 v5 0 fun v17 =>
 loadV tab 3 v17 H4 fun v18 =>
 fieldAddrV tab 61 v5 0 fun v20 =>
 loadV tab 3 v20 H4 fun v21 =>
 indexAddrV tab 24 v3 v21 fun v22 =>
 loadV tab 22 v22 H4 fun v23 =>
 fieldAddrV tab 61 v5 2 fun v24 =>
 loadV tab 3 v24 H4 fun v25 =>
 CallT Try.prog 96 [v23, v25] H4 fun v26 H5 =>
 (loadV tab 3 v17 H5 fun v9018 =>
 v18 = v9018) ∧
 indexAddrV tab 24 v3 v18 fun v27 =>
 storeV tab 22 v27 v26 H5 fun H6 =>
 binV tab .add 3 v12 (AV.p (.int .i64 1)) fun v28 =>
 N1 v28 H6)
 (K v3 H)
def W70 (v0 : AV) (H : Heap) (K : AV → Heap → Prop) : Prop :=
 boxV v0 H fun v1 H1 =>
 fieldAddrV tab 30 v1 0 fun v6 =>
 loadV tab 3 v6 H1 fun v7 =>
 makeSliceV tab 24 v7 v7 H1 fun v8 H2 =>
 fieldAddrV tab 30 v1 2 fun v9 =>
 loadV tab 28 v9 H2 fun v10 =>
 lenV tab 28 v10 fun v11 =>
 L70_0 K v8 v10 v11 (AV.p (.int .i64 0)) H2
theorem W70_wp (v0 : AV) (H : Heap) (K : AV → Heap → Prop) : wpC Try.prog tab D70 (bodyOf Try.f70) (retF tab [.tmp 2] K) (nthA [v0]) H = W70 v0 H K := by kernel_rfl
theorem W70_ok {v0 : AV} {H : Heap} {K : AV → Heap → Prop} (h : W70 v0 H K) : CallT Try.prog 70 [v0] H K :=
  CallT.of_wp (D := D70) tab_ok mixed Try.func70 (c := bodyOf Try.f70) (by kernel_rfl) rfl (by kernel_rfl) (rs := #[.tmp 2]) rfl (by decide +kernel) (by kernel_rfl) (W70_wp v0 H K) h
theorem W70_hb : HasBody Try.prog 70 := ⟨_, bodyOf Try.f70, Try.func70, by kernel_rfl, rfl⟩
theorem L70_0_rule {K : AV → Heap → Prop} {v3 v10 v11 v12 : AV} {H : Heap} {σ : Type} (s0 : σ) (f12 : σ → AV) (TH : σ → Heap) (pre : σ → Prop) (μ : σ → Nat)
    (h0 : pre s0 ∧ AV.wk v12 (f12 s0) ∧ Heap.le (TH s0) H)
    (round : ∀ s, pre s → B70_0 K (fun w12 H' => ∃ s', pre s' ∧ μ s' < μ s ∧ AV.wk w12 (f12 s') ∧ Heap.le (TH s') H') v3 v10 v11 (f12 s) (TH s)) :
    L70_0 K v3 v10 v11 v12 H := by
  unfold L70_0
  exact LoopV.mk s0 (fun s => [f12 s]) TH pre μ (fun _ => rfl) (Eq.mp (by kernel_rfl) h0) (fun s hs => Eq.mp (by kernel_rfl) (round s hs))
theorem L70_0_ruleG {K : AV → Heap → Prop} {v3 v10 v11 v12 : AV} {H : Heap} {σ : Type} (s0 : σ) (f12 : σ → AV) (TH : σ → Heap) (pre : σ → Prop) (μ : σ → Nat)
    (h0 : pre s0 ∧ AV.wk v12 (f12 s0) ∧ Heap.le (TH s0) H)
    (round : ∀ s, pre s → ∀ q, TH s q = none → B70_0 K (fun w12 H' => ∃ s', pre s' ∧ μ s' < μ s ∧ AV.wk w12 (f12 s') ∧ Heap.le (TH s') H') v3 v10 v11 (f12 s) ((TH s).set q [])) :
    L70_0 K v3 v10 v11 v12 H := by
  unfold L70_0
  exact LoopV.mkG s0 (fun s => [f12 s]) TH pre μ (fun _ => rfl) (Eq.mp (by kernel_rfl) h0) (fun s hs q hq => Eq.mp (by kernel_rfl) (round s hs q hq))
/-- (loop.example/g00649/impl.Auto).next -/
def D71 : Info := ⟨51, fun i => if i = 5 then ([[], [], [1], [], [], [4], [3, 4, 5], [3, 4, 5, 6], [], [8], [8, 9], [3, 4, 5, 6, 7, 8, 9, 10], [0, 1, 2, 3, 4, 5, 6, 7, 8, 9, 10, 11], [0, 1, 2, 3, 4, 5, 6, 7, 8, 9, 10, 11, 12]], [(0, []), (1, []), (2, []), (3, []), (4, []), (5, []), (6, []), (7, []), (8, []), (9, []), (10, [2, 5, 7]), (11, [2]), (12, []), (13, [])]) else ([], []), fun i => if i = 3 then ([3, 11, 12], [13]) else if i = 8 then ([3, 32], [33]) else ([], [])⟩
def L71_0 (K : AV → Heap → Prop) (v3 : AV) (v11 : AV) (v12 : AV) (v13 : AV) (H : Heap) : Prop := LoopV (wpC Try.prog tab D71 (cAt [1, 1, 0, 1, 0, 0] (bodyOf Try.f71))) [3, 11, 12] (PostF.block 0 (PostF.thenA (wpC Try.prog tab D71 (cAt [1, 1, 1] (bodyOf Try.f71))) (retF tab [.tmp 2] K))) [13] [AV.any, AV.any, AV.any, v3, AV.any, AV.any, AV.any, AV.any, AV.any, AV.any, AV.any, v11, v12, v13, AV.any, AV.any, AV.any, AV.any, AV.any, AV.any, AV.any, AV.any, AV.any, AV.any, AV.any, AV.any, AV.any, AV.any, AV.any, AV.any, AV.any, AV.any, AV.any, AV.any, AV.any, AV.any, AV.any, AV.any, AV.any, AV.any, AV.any, AV.any, AV.any, AV.any, AV.any, AV.any, AV.any, AV.any, AV.any, AV.any, AV.any] H
def L71_1 (K : AV → Heap → Prop) (v3 : AV) (v32 : AV) (v33 : AV) (H : Heap) : Prop := LoopV (wpC Try.prog tab D71 (cAt [1, 1, 1, 0, 1, 0, 0] (bodyOf Try.f71))) [3, 32] (PostF.block 2 (PostF.thenA (wpC Try.prog tab D71 (cAt [1, 1, 1, 1] (bodyOf Try.f71))) (retF tab [.tmp 2] K))) [33] [AV.any, AV.any, AV.any, v3, AV.any, AV.any, AV.any, AV.any, AV.any, AV.any, AV.any, AV.any, AV.any, AV.any, AV.any, AV.any, AV.any, AV.any, AV.any, AV.any, AV.any, AV.any, AV.any, AV.any, AV.any, AV.any, AV.any, AV.any, AV.any, AV.any, AV.any, AV.any, v32, v33, AV.any, AV.any, AV.any, AV.any, AV.any, AV.any, AV.any, AV.any, AV.any, AV.any, AV.any, AV.any, AV.any, AV.any, AV.any, AV.any, AV.any] H
def B71_1 (K : AV → Heap → Prop) (N1 : AV → Heap → Prop) (v3 : AV) (v32 : AV) (v33 : AV) (H : Heap) : Prop :=
 binV tab .lss 3 v33 v32 fun v34 =>
 condV v34 (indexAddrV tab 24 v3 v33 fun v38 =>
 loadV tab 22 v38 H fun v39 =>
 CallT Try.prog 97 [v39] H fun v40 H8 =>
 indexAddrV tab 24 v3 v33 fun v45 =>
 loadV tab 22 v45 H8 fun v46 =>
 CallT Try.prog 98 [v46] H8 fun v47 H9 =>
 indexAddrV tab 24 v3 v33 fun v48 =>
 storeV tab 22 v48 v47 H9 fun H10 =>
 binV tab .add 3 v33 (AV.p (.int .i64 1)) fun v49 =>
 N1 v49 H10)
 (K v3 H)
def B71_0 (K : AV → Heap → Prop) (N1 : AV → Heap → Prop) (v3 : AV) (v11 : AV) (v12 : AV) (v13 : AV) (H : Heap) : Prop :=
 binV tab .lss 3 v13 v12 fun v14 =>
 condV v14 (indexAddrV tab 28 v11 v13 fun v15 =>
 loadV tab 61 v15 H fun v16 =>
 allocV tab 61 H fun v5 H3 =>
 storeV tab 61 v5 v16 H3 fun H4 =>
 fieldAddrV tab 61 v5 0 fun v18 =>
 loadV tab 3 v18 H4 fun v19 =>
 fieldAddrV tab 61 v5 0 fun v21 =>
 loadV tab 3 v21 H4 fun v22 =>
 indexAddrV tab 24 v3 v22 fun v23 =>
 loadV tab 22 v23 H4 fun v24 =>
 fieldAddrV tab 61 v5 2 fun v25 =>
 loadV tab 3 v25 H4 fun v26 =>
 buildSliceV tab 22 1 [(0, v26)] H4 (wkK fun v27 H5 =>
 (loadV tab 3 v18 H5 fun v9019 =>
 v19 = v9019) ∧
 (loadV tab 3 v21 H5 fun v9022 =>
 v22 = v9022) ∧
 (loadV tab 22 v23 H5 fun v9024 =>
 v24 = v9024) ∧
 appendV tab 22 22 v24 v27 H5 (wkK fun v28 H6 =>
 (loadV tab 3 v18 H6 fun v9019 =>
 v19 = v9019) ∧
 indexAddrV tab 24 v3 v19 fun v29 =>
 storeV tab 22 v29 v28 H6 fun H7 =>
 binV tab .add 3 v13 (AV.p (.int .i64 1)) fun v30 =>
 N1 v30 H7)))
 (lenV tab 24 v3 fun v32 =>
 L71_1 K v3 v32 (AV.p (.int .i64 0)) H)
def W71 (v0 : AV) (H : Heap) (K : AV → Heap → Prop) : Prop :=
 boxV v0 H fun v1 H1 =>
 fieldAddrV tab 30 v1 0 fun v7 =>
 loadV tab 3 v7 H1 fun v8 =>
 makeSliceV tab 24 v8 v8 H1 fun v9 H2 =>
 fieldAddrV tab 30 v1 2 fun v10 =>
 loadV tab 28 v10 H2 fun v11 =>
 lenV tab 28 v11 fun v12 =>
 L71_0 K v9 v11 v12 (AV.p (.int .i64 0)) H2
theorem W71_wp (v0 : AV) (H : Heap) (K : AV → Heap → Prop) : wpC Try.prog tab D71 (bodyOf Try.f71) (retF tab [.tmp 2] K) (nthA [v0]) H = W71 v0 H K := by kernel_rfl
theorem W71_ok {v0 : AV} {H : Heap} {K : AV → Heap → Prop} (h : W71 v0 H K) : CallT Try.prog 71 [v0] H K :=
  CallT.of_wp (D := D71) tab_ok mixed Try.func71 (c := bodyOf Try.f71) (by kernel_rfl) rfl (by kernel_rfl) (rs := #[.tmp 2]) rfl (by decide +kernel) (by kernel_rfl) (W71_wp v0 H K) h
theorem W71_hb : HasBody Try.prog 71 := ⟨_, bodyOf Try.f71, Try.func71, by kernel_rfl, rfl⟩
theorem L71_1_rule {K : AV → Heap → Prop} {v3 v32 v33 : AV} {H : Heap} {σ : Type} (s0 : σ) (f33 : σ → AV) (TH : σ → Heap) (pre : σ → Prop) (μ : σ → Nat)
    (h0 : pre s0 ∧ AV.wk v33 (f33 s0) ∧ Heap.le (TH s0) H)
    (round : ∀ s, pre s → B71_1 K (fun w33 H' => ∃ s', pre s' ∧ μ s' < μ s ∧ AV.wk w33 (f33 s') ∧ Heap.le (TH s') H') v3 v32 (f33 s) (TH s)) :
    L71_1 K v3 v32 v33 H := by
  unfold L71_1
  exact LoopV.mk s0 (fun s => [f33 s]) TH pre μ (fun _ => rfl) (Eq.mp (by kernel_rfl) h0) (fun s hs => Eq.mp (by kernel_rfl) (round s hs))
theorem L71_1_ruleG {K : AV → Heap → Prop} {v3 v32 v33 : AV} {H : Heap} {σ : Type} (s0 : σ) (f33 : σ → AV) (TH : σ → Heap) (pre : σ → Prop) (μ : σ → Nat)
    (h0 : pre s0 ∧ AV.wk v33 (f33 s0) ∧ Heap.le (TH s0) H)
    (round : ∀ s, pre s → ∀ q, TH s q = none → B71_1 K (fun w33 H' => ∃ s', pre s' ∧ μ s' < μ s ∧ AV.wk w33 (f33 s') ∧ Heap.le (TH s') H') v3 v32 (f33 s) ((TH s).set q [])) :
    L71_1 K v3 v32 v33 H := by
  unfold L71_1
  exact LoopV.mkG s0 (fun s => [f33 s]) TH pre μ (fun _ => rfl) (Eq.mp (by kernel_rfl) h0) (fun s hs q hq => Eq.mp (by kernel_rfl) (round s hs q hq))
theorem L71_0_rule {K : AV → Heap → Prop} {v3 v11 v12 v13 : AV} {H : Heap} {σ : Type} (s0 : σ) (f13 : σ → AV) (TH : σ → Heap) (pre : σ → Prop) (μ : σ → Nat)
    (h0 : pre s0 ∧ AV.wk v13 (f13 s0) ∧ Heap.le (TH s0) H)
    (round : ∀ s, pre s → B71_0 K (fun w13 H' => ∃ s', pre s' ∧ μ s' < μ s ∧ AV.wk w13 (f13 s') ∧ Heap.le (TH s') H') v3 v11 v12 (f13 s) (TH s)) :
    L71_0 K v3 v11 v12 v13 H := by
  unfold L71_0
  exact LoopV.mk s0 (fun s => [f13 s]) TH pre μ (fun _ => rfl) (Eq.mp (by kernel_rfl) h0) (fun s hs => Eq.mp (by kernel_rfl) (round s hs))
theorem L71_0_ruleG {K : AV → Heap → Prop} {v3 v11 v12 v13 : AV} {H : Heap} {σ : Type} (s0 : σ) (f13 : σ → AV) (TH : σ → Heap) (pre : σ → Prop) (μ : σ → Nat)
    (h0 : pre s0 ∧ AV.wk v13 (f13 s0) ∧ Heap.le (TH s0) H)
    (round : ∀ s, pre s → ∀ q, TH s q = none → B71_0 K (fun w13 H' => ∃ s', pre s' ∧ μ s' < μ s ∧ AV.wk w13 (f13 s') ∧ Heap.le (TH s') H') v3 v11 v12 (f13 s) ((TH s).set q [])) :
    L71_0 K v3 v11 v12 v13 H := by
  unfold L71_0
  exact LoopV.mkG s0 (fun s => [f13 s]) TH pre μ (fun _ => rfl) (Eq.mp (by kernel_rfl) h0) (fun s hs q hq => Eq.mp (by kernel_rfl) (round s hs q hq))
/-- loop.example/g00649/spec.l1Put -/
def D96 : Info := ⟨48, fun i => ([], []), fun i => if i = 2 then ([0, 1], [5]) else ([], [])⟩
def L96_0 (K : AV → Heap → Prop) (v0 : AV) (v1 : AV) (v5 : AV) (H : Heap) : Prop := LoopV (wpC Try.prog tab D96 (cAt [1, 1, 0, 0, 0] (bodyOf Try.f96))) [0, 1] (PostF.block 0 (PostF.thenA (wpC Try.prog tab D96 (cAt [1, 1, 1] (bodyOf Try.f96))) (retF tab [.tmp 4] K))) [5] [v0, v1, AV.any, AV.any, AV.any, v5, AV.any, AV.any, AV.any, AV.any, AV.any, AV.any, AV.any, AV.any, AV.any, AV.any, AV.any, AV.any, AV.any, AV.any, AV.any, AV.any, AV.any, AV.any, AV.any, AV.any, AV.any, AV.any, AV.any, AV.any, AV.any, AV.any, AV.any, AV.any, AV.any, AV.any, AV.any, AV.any, AV.any, AV.any, AV.any, AV.any, AV.any, AV.any, AV.any, AV.any, AV.any, AV.any] H
def J96_1 (K : AV → Heap → Prop) (v0 : AV) (v1 : AV) (v5 : AV) (H : Heap) : Prop :=
 buildSliceV tab 22 0 [] H (wkK fun v34 H1 =>
 sliceV tab 22 v0 none (some v5) none fun v37 =>
 appendV tab 22 22 v34 v37 H1 (wkK fun v38 H2 =>
 buildSliceV tab 22 1 [(0, v1)] H2 (wkK fun v41 H3 =>
 appendV tab 22 22 v38 v41 H3 (wkK fun v42 H4 =>
 sliceV tab 22 v0 (some v5) none none fun v46 =>
 appendV tab 22 22 v42 v46 H4 (wkK fun v47 H5 =>
 K v47 H5)))))
def J96_2 (K : AV → Heap → Prop) (v0 : AV) (v1 : AV) (v5 : AV) (H : Heap) : Prop :=
 lenV tab 22 v0 fun v23 =>
 binV tab .lss 3 v5 v23 fun v24 =>
 grdV v24 true (indexAddrV tab 22 v0 v5 fun v28 =>
 loadV tab 3 v28 H fun v29 =>
 binV tab .eql 3 v29 v1 fun v31 =>
 condV v31 (K v0 H)
 (J96_1 K v0 v1 v5 H))
 (J96_1 K v0 v1 v5 H)
def B96_0 (K : AV → Heap → Prop) (N1 : AV → Heap → Prop) (v0 : AV) (v1 : AV) (v5 : AV) (H : Heap) : Prop :=
 lenV tab 22 v0 fun v9 =>
 binV tab .lss 3 v5 v9 fun v10 =>
 grdV v10 true (indexAddrV tab 22 v0 v5 fun v14 =>
 loadV tab 3 v14 H fun v15 =>
 binV tab .lss 3 v15 v1 fun v17 =>
 condV v17 (binV tab .add 3 v5 (AV.p (.int .i64 1)) fun v20 =>
 N1 v20 H)
 (J96_2 K v0 v1 v5 H))
 (J96_2 K v0 v1 v5 H)
def W96 (v0 : AV) (v1 : AV) (H : Heap) (K : AV → Heap → Prop) : Prop :=
 L96_0 K v0 v1 (AV.p (.int .i64 0)) H
theorem W96_wp (v0 : AV) (v1 : AV) (H : Heap) (K : AV → Heap → Prop) : wpC Try.prog tab D96 (bodyOf Try.f96) (retF tab [.tmp 4] K) (nthA [v0, v1]) H = W96 v0 v1 H K := by kernel_rfl
theorem W96_ok {v0 v1 : AV} {H : Heap} {K : AV → Heap → Prop} (h : W96 v0 v1 H K) : CallT Try.prog 96 [v0, v1] H K :=
  CallT.of_wp (D := D96) tab_ok mixed Try.func96 (c := bodyOf Try.f96) (by kernel_rfl) rfl (by kernel_rfl) (rs := #[.tmp 4]) rfl (by decide +kernel) (by kernel_rfl) (W96_wp v0 v1 H K) h
theorem W96_hb : HasBody Try.prog 96 := ⟨_, bodyOf Try.f96, Try.func96, by kernel_rfl, rfl⟩
theorem L96_0_rule {K : AV → Heap → Prop} {v0 v1 v5 : AV} {H : Heap} {σ : Type} (s0 : σ) (f5 : σ → AV) (TH : σ → Heap) (pre : σ → Prop) (μ : σ → Nat)
    (h0 : pre s0 ∧ AV.wk v5 (f5 s0) ∧ Heap.le (TH s0) H)
    (round : ∀ s, pre s → B96_0 K (fun w5 H' => ∃ s', pre s' ∧ μ s' < μ s ∧ AV.wk w5 (f5 s') ∧ Heap.le (TH s') H') v0 v1 (f5 s) (TH s)) :
    L96_0 K v0 v1 v5 H := by
  unfold L96_0
  exact LoopV.mk s0 (fun s => [f5 s]) TH pre μ (fun _ => rfl) (Eq.mp (by kernel_rfl) h0) (fun s hs => Eq.mp (by kernel_rfl) (round s hs))
theorem L96_0_ruleG {K : AV → Heap → Prop} {v0 v1 v5 : AV} {H : Heap} {σ : Type} (s0 : σ) (f5 : σ → AV) (TH : σ → Heap) (pre : σ → Prop) (μ : σ → Nat)
    (h0 : pre s0 ∧ AV.wk v5 (f5 s0) ∧ Heap.le (TH s0) H)
    (round : ∀ s, pre s → ∀ q, TH s q = none → B96_0 K (fun w5 H' => ∃ s', pre s' ∧ μ s' < μ s ∧ AV.wk w5 (f5 s') ∧ Heap.le (TH s') H') v0 v1 (f5 s) ((TH s).set q [])) :
    L96_0 K v0 v1 v5 H := by
  unfold L96_0
  exact LoopV.mkG s0 (fun s => [f5 s]) TH pre μ (fun _ => rfl) (Eq.mp (by kernel_rfl) h0) (fun s hs q hq => Eq.mp (by kernel_rfl) (round s hs q hq))
end Go.Proofs.Ytfbaijpanbjmpaa
