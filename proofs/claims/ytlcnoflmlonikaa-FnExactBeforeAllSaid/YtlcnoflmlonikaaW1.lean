/- What each function's code is asked for, as a formula. Written by wgen.py (a program of this session's) out of Lean's print of the program. -/
import Derived.KernelRfl
import Derived.Test.YtlcnoflmlonikaaTab
import Derived.Test.YtlcnoflmlonikaaSepC
namespace Go.Proofs.Ytlcnoflmlonikaa
open Go Go.Sep
set_option linter.unusedVariables false
attribute [local irreducible] wpC headF
/-- loop.example/g00649/laws.toCommandS -/
def D24 : Info := ⟨23, fun i => ([], []), fun i => if i = 3 then ([0, 3], [4]) else ([], [])⟩
def L24_0 (K : AV → Heap → Prop) (v0 : AV) (v3 : AV) (v4 : AV) (H : Heap) : Prop := LoopV (wpC Try.prog tab D24 (cAt [1, 1, 0, 1, 0, 0] (bodyOf Try.f24))) [0, 3] (PostF.block 0 (PostF.thenA (wpC Try.prog tab D24 (cAt [1, 1, 1] (bodyOf Try.f24))) (retF tab [.tmp 2] K))) [4] [v0, AV.any, AV.any, v3, v4, AV.any, AV.any, AV.any, AV.any, AV.any, AV.any, AV.any, AV.any, AV.any, AV.any, AV.any, AV.any, AV.any, AV.any, AV.any, AV.any, AV.any, AV.any] H
def B24_0 (K : AV → Heap → Prop) (N1 : AV → Heap → Prop) (v0 : AV) (v3 : AV) (v4 : AV) (H : Heap) : Prop :=
 lenV tab 23 v0 fun v10 =>
 binV tab .lss 3 v4 v10 fun v11 =>
 condV v11 (indexAddrV tab 23 v0 v4 fun v18 =>
 loadV tab 63 v18 H fun v19 =>
 CallT Try.prog 41 [v19] H fun v20 H2 =>
 indexAddrV tab 31 v3 v4 fun v21 =>
 storeV tab 57 v21 v20 H2 fun H3 =>
 binV tab .add 3 v4 (AV.p (.int .i64 1)) fun v13 =>
 N1 v13 H3)
 (K v3 H)
def W24 (v0 : AV) (H : Heap) (K : AV → Heap → Prop) : Prop :=
 lenV tab 23 v0 fun v6 =>
 makeSliceV tab 31 v6 v6 H fun v7 H1 =>
 L24_0 K v0 v7 (AV.p (.int .i64 0)) H1
theorem W24_wp (v0 : AV) (H : Heap) (K : AV → Heap → Prop) : wpC Try.prog tab D24 (bodyOf Try.f24) (retF tab [.tmp 2] K) (nthA [v0]) H = W24 v0 H K := by kernel_rfl
theorem W24_ok {v0 : AV} {H : Heap} {K : AV → Heap → Prop} (h : W24 v0 H K) : CallT Try.prog 24 [v0] H K :=
  CallT.of_wp (D := D24) tab_ok mixed Try.func24 (c := bodyOf Try.f24) (by kernel_rfl) rfl (by kernel_rfl) (rs := #[.tmp 2]) rfl (by decide +kernel) (by kernel_rfl) (W24_wp v0 H K) h
theorem W24_hb : HasBody Try.prog 24 := ⟨_, bodyOf Try.f24, Try.func24, by kernel_rfl, rfl⟩
theorem L24_0_rule {K : AV → Heap → Prop} {v0 v3 v4 : AV} {H : Heap} {σ : Type} (s0 : σ) (f4 : σ → AV) (TH : σ → Heap) (pre : σ → Prop) (μ : σ → Nat)
    (h0 : pre s0 ∧ AV.wk v4 (f4 s0) ∧ Heap.le (TH s0) H)
    (round : ∀ s, pre s → B24_0 K (fun w4 H' => ∃ s', pre s' ∧ μ s' < μ s ∧ AV.wk w4 (f4 s') ∧ Heap.le (TH s') H') v0 v3 (f4 s) (TH s)) :
    L24_0 K v0 v3 v4 H := by
  unfold L24_0
  exact LoopV.mk s0 (fun s => [f4 s]) TH pre μ (fun _ => rfl) (Eq.mp (by kernel_rfl) h0) (fun s hs => Eq.mp (by kernel_rfl) (round s hs))
theorem L24_0_ruleG {K : AV → Heap → Prop} {v0 v3 v4 : AV} {H : Heap} {σ : Type} (s0 : σ) (f4 : σ → AV) (TH : σ → Heap) (pre : σ → Prop) (μ : σ → Nat)
    (h0 : pre s0 ∧ AV.wk v4 (f4 s0) ∧ Heap.le (TH s0) H)
    (round : ∀ s, pre s → ∀ q, TH s q = none → B24_0 K (fun w4 H' => ∃ s', pre s' ∧ μ s' < μ s ∧ AV.wk w4 (f4 s') ∧ Heap.le (TH s') H') v0 v3 (f4 s) ((TH s).set q [])) :
    L24_0 K v0 v3 v4 H := by
  unfold L24_0
  exact LoopV.mkG s0 (fun s => [f4 s]) TH pre μ (fun _ => rfl) (Eq.mp (by kernel_rfl) h0) (fun s hs q hq => Eq.mp (by kernel_rfl) (round s hs q hq))
/-- loop.example/g00649/laws.toNode -/
def D25 : Info := ⟨11, fun i => ([], []), fun i => ([], [])⟩
def W25 (v0 : AV) (H : Heap) (K : AV → Heap → Prop) : Prop :=
 boxV v0 H fun v1 H1 =>
 allocV tab 48 H1 fun v2 H2 =>
 allocV tab 48 H2 fun v3 H3 =>
 fieldAddrV tab 50 v1 0 fun v4 =>
 loadV tab 3 v4 H3 fun v5 =>
 fieldAddrV tab 48 v3 0 fun v6 =>
 storeV tab 3 v6 v5 H3 fun H4 =>
 fieldAddrV tab 50 v1 1 fun v7 =>
 loadV tab 46 v7 H4 fun v8 =>
 fieldAddrV tab 48 v3 1 fun v9 =>
 storeV tab 46 v9 v8 H4 fun H5 =>
 loadV tab 48 v3 H5 fun v10 =>
 storeV tab 48 v2 v10 H5 fun H6 =>
 loadV tab 48 v2 H6 fun r0 =>
 K r0 H6
theorem W25_wp (v0 : AV) (H : Heap) (K : AV → Heap → Prop) : wpC Try.prog tab D25 (bodyOf Try.f25) (retF tab [.cell 2 48] K) (nthA [v0]) H = W25 v0 H K := by kernel_rfl
theorem W25_ok {v0 : AV} {H : Heap} {K : AV → Heap → Prop} (h : W25 v0 H K) : CallT Try.prog 25 [v0] H K :=
  CallT.of_wp (D := D25) tab_ok mixed Try.func25 (c := bodyOf Try.f25) (by kernel_rfl) rfl (by kernel_rfl) (rs := #[.cell 2 48]) rfl (by decide +kernel) (by kernel_rfl) (W25_wp v0 H K) h
theorem W25_hb : HasBody Try.prog 25 := ⟨_, bodyOf Try.f25, Try.func25, by kernel_rfl, rfl⟩
/-- loop.example/g00649/impl.isBefore -/
def D26 : Info := ⟨19, fun i => ([], []), fun i => ([], [])⟩
def W26 (v0 : AV) (v1 : AV) (v2 : AV) (H : Heap) (K : AV → Heap → Prop) : Prop :=
 boxV v0 H fun v3 H1 =>
 loadV tab 33 v3 H1 fun v7 =>
 CallT Try.prog 42 [v7] H1 fun v8 H2 =>
 grdV v8 true (loadV tab 33 v3 H2 fun v10 =>
 CallT Try.prog 43 [v10, v1] H2 fun v12 H3 =>
 grdV v12 true (loadV tab 33 v3 H3 fun v15 =>
 CallT Try.prog 44 [v15, v2] H3 fun v17 H4 =>
 K v17 H4)
 (K (AV.p (.bool false)) H3))
 (K (AV.p (.bool false)) H2)
theorem W26_wp (v0 : AV) (v1 : AV) (v2 : AV) (H : Heap) (K : AV → Heap → Prop) : wpC Try.prog tab D26 (bodyOf Try.f26) (retF tab [.tmp 6] K) (nthA [v0, v1, v2]) H = W26 v0 v1 v2 H K := by kernel_rfl
theorem W26_ok {v0 v1 v2 : AV} {H : Heap} {K : AV → Heap → Prop} (h : W26 v0 v1 v2 H K) : CallT Try.prog 26 [v0, v1, v2] H K :=
  CallT.of_wp (D := D26) tab_ok mixed Try.func26 (c := bodyOf Try.f26) (by kernel_rfl) rfl (by kernel_rfl) (rs := #[.tmp 6]) rfl (by decide +kernel) (by kernel_rfl) (W26_wp v0 v1 v2 H K) h
theorem W26_hb : HasBody Try.prog 26 := ⟨_, bodyOf Try.f26, Try.func26, by kernel_rfl, rfl⟩
/-- (loop.example/g00649/impl.Program).beforeOne -/
def D27 : Info := ⟨53, fun i => ([], []), fun i => if i = 3 then ([1, 2, 3, 14], [8, 15]) else if i = 8 then ([2, 3, 8, 31, 32], [33]) else ([], [])⟩
def L27_0 (K : AV → Heap → Prop) (v1 : AV) (v2 : AV) (v3 : AV) (v8 : AV) (v14 : AV) (v15 : AV) (H : Heap) : Prop := LoopV (wpC Try.prog tab D27 (cAt [1, 1, 0, 1, 0, 0] (bodyOf Try.f27))) [1, 2, 3, 14] (PostF.block 0 (PostF.thenA (wpC Try.prog tab D27 (cAt [1, 1, 1] (bodyOf Try.f27))) (retF tab [.tmp 6, .tmp 7] K))) [8, 15] [AV.any, v1, v2, v3, AV.any, AV.any, AV.any, AV.any, v8, AV.any, AV.any, AV.any, AV.any, AV.any, v14, v15, AV.any, AV.any, AV.any, AV.any, AV.any, AV.any, AV.any, AV.any, AV.any, AV.any, AV.any, AV.any, AV.any, AV.any, AV.any, AV.any, AV.any, AV.any, AV.any, AV.any, AV.any, AV.any, AV.any, AV.any, AV.any, AV.any, AV.any, AV.any, AV.any, AV.any, AV.any, AV.any, AV.any, AV.any, AV.any, AV.any, AV.any] H
def L27_1 (K : AV → Heap → Prop) (v2 : AV) (v3 : AV) (v8 : AV) (v31 : AV) (v32 : AV) (v33 : AV) (H : Heap) : Prop := LoopV (wpC Try.prog tab D27 (cAt [1, 1, 1, 0, 1, 0, 0] (bodyOf Try.f27))) [2, 3, 8, 31, 32] (PostF.block 2 (PostF.thenA (wpC Try.prog tab D27 (cAt [1, 1, 1, 1] (bodyOf Try.f27))) (retF tab [.tmp 6, .tmp 7] K))) [33] [AV.any, AV.any, v2, v3, AV.any, AV.any, AV.any, AV.any, v8, AV.any, AV.any, AV.any, AV.any, AV.any, AV.any, AV.any, AV.any, AV.any, AV.any, AV.any, AV.any, AV.any, AV.any, AV.any, AV.any, AV.any, AV.any, AV.any, AV.any, AV.any, AV.any, v31, v32, v33, AV.any, AV.any, AV.any, AV.any, AV.any, AV.any, AV.any, AV.any, AV.any, AV.any, AV.any, AV.any, AV.any, AV.any, AV.any, AV.any, AV.any, AV.any, AV.any] H
def B27_1 (K : AV → Heap → Prop) (N1 : AV → Heap → Prop) (v2 : AV) (v3 : AV) (v8 : AV) (v31 : AV) (v32 : AV) (v33 : AV) (H : Heap) : Prop :=
 binV tab .lss 3 v33 v32 fun v34 =>
 condV v34 (indexAddrV tab 55 v31 v33 fun v35 =>
 loadV tab 69 v35 H fun v36 =>
 allocV tab 69 H fun v11 H6 =>
 storeV tab 69 v11 v36 H6 fun H7 =>
 fieldAddrV tab 69 v11 0 fun v38 =>
 loadV tab 3 v38 H7 fun v39 =>
 fieldAddrV tab 69 v11 1 fun v40 =>
 loadV tab 28 v40 H7 fun v41 =>
 indexAddrV tab 67 v8 v39 fun v42 =>
 storeV tab 28 v42 v41 H7 fun H8 =>
 binV tab .add 3 v33 (AV.p (.int .i64 1)) fun v43 =>
 N1 v43 H8)
 (fieldAddrV tab 33 v3 0 fun v44 =>
 loadV tab 3 v44 H fun v45 =>
 fieldAddrV tab 33 v3 1 fun v46 =>
 loadV tab 3 v46 H fun v47 =>
 CallT Try.prog 45 [v45, v47, v2, v8] H fun v50 H9 =>
 extractV v50 0 fun v51 =>
 extractV v50 1 fun v52 =>
 K (.tup [v51, v52]) H9)
def B27_0 (K : AV → Heap → Prop) (N1 : AV → AV → Heap → Prop) (v1 : AV) (v2 : AV) (v3 : AV) (v8 : AV) (v14 : AV) (v15 : AV) (H : Heap) : Prop :=
 binV tab .lss 3 v15 v14 fun v16 =>
 condV v16 (convV tab 3 46 v15 fun v20 =>
 buildV tab 48 [(0, (AV.p (.int .i64 2))), (1, v20)] fun v21 =>
 buildSliceV tab 28 1 [(0, v21)] H (wkK fun v22 H3 =>
 buildSliceV tab 67 1 [(0, v22)] H3 (wkK fun v23 H4 =>
 appendV tab 67 67 v8 v23 H4 (wkK fun v24 H5 =>
 binV tab .add 3 v15 (AV.p (.int .i64 1)) fun v25 =>
 N1 v24 v25 H5))))
 (fieldAddrV tab 33 v3 3 fun v26 =>
 loadV tab 31 v26 H fun v27 =>
 indexAddrV tab 31 v27 v1 fun v29 =>
 fieldAddrV tab 57 v29 1 fun v30 =>
 loadV tab 55 v30 H fun v31 =>
 lenV tab 55 v31 fun v32 =>
 L27_1 K v2 v3 v8 v31 v32 (AV.p (.int .i64 0)) H)
def W27 (v0 : AV) (v1 : AV) (v2 : AV) (H : Heap) (K : AV → Heap → Prop) : Prop :=
 boxV v0 H fun v3 H1 =>
 buildSliceV tab 67 0 [] H1 (wkK fun v12 H2 =>
 fieldAddrV tab 33 v3 1 fun v13 =>
 loadV tab 3 v13 H2 fun v14 =>
 L27_0 K v1 v2 v3 v12 v14 (AV.p (.int .i64 0)) H2)
theorem W27_wp (v0 : AV) (v1 : AV) (v2 : AV) (H : Heap) (K : AV → Heap → Prop) : wpC Try.prog tab D27 (bodyOf Try.f27) (retF tab [.tmp 6, .tmp 7] K) (nthA [v0, v1, v2]) H = W27 v0 v1 v2 H K := by kernel_rfl
theorem W27_ok {v0 v1 v2 : AV} {H : Heap} {K : AV → Heap → Prop} (h : W27 v0 v1 v2 H K) : CallT Try.prog 27 [v0, v1, v2] H K :=
  CallT.of_wp (D := D27) tab_ok mixed Try.func27 (c := bodyOf Try.f27) (by kernel_rfl) rfl (by kernel_rfl) (rs := #[.tmp 6, .tmp 7]) rfl (by decide +kernel) (by kernel_rfl) (W27_wp v0 v1 v2 H K) h
theorem W27_hb : HasBody Try.prog 27 := ⟨_, bodyOf Try.f27, Try.func27, by kernel_rfl, rfl⟩
theorem L27_1_rule {K : AV → Heap → Prop} {v2 v3 v8 v31 v32 v33 : AV} {H : Heap} {σ : Type} (s0 : σ) (f33 : σ → AV) (TH : σ → Heap) (pre : σ → Prop) (μ : σ → Nat)
    (h0 : pre s0 ∧ AV.wk v33 (f33 s0) ∧ Heap.le (TH s0) H)
    (round : ∀ s, pre s → B27_1 K (fun w33 H' => ∃ s', pre s' ∧ μ s' < μ s ∧ AV.wk w33 (f33 s') ∧ Heap.le (TH s') H') v2 v3 v8 v31 v32 (f33 s) (TH s)) :
    L27_1 K v2 v3 v8 v31 v32 v33 H := by
  unfold L27_1
  exact LoopV.mk s0 (fun s => [f33 s]) TH pre μ (fun _ => rfl) (Eq.mp (by kernel_rfl) h0) (fun s hs => Eq.mp (by kernel_rfl) (round s hs))
theorem L27_1_ruleG {K : AV → Heap → Prop} {v2 v3 v8 v31 v32 v33 : AV} {H : Heap} {σ : Type} (s0 : σ) (f33 : σ → AV) (TH : σ → Heap) (pre : σ → Prop) (μ : σ → Nat)
    (h0 : pre s0 ∧ AV.wk v33 (f33 s0) ∧ Heap.le (TH s0) H)
    (round : ∀ s, pre s → ∀ q, TH s q = none → B27_1 K (fun w33 H' => ∃ s', pre s' ∧ μ s' < μ s ∧ AV.wk w33 (f33 s') ∧ Heap.le (TH s') H') v2 v3 v8 v31 v32 (f33 s) ((TH s).set q [])) :
    L27_1 K v2 v3 v8 v31 v32 v33 H := by
  unfold L27_1
  exact LoopV.mkG s0 (fun s => [f33 s]) TH pre μ (fun _ => rfl) (Eq.mp (by kernel_rfl) h0) (fun s hs q hq => Eq.mp (by kernel_rfl) (round s hs q hq))
theorem L27_0_rule {K : AV → Heap → Prop} {v1 v2 v3 v8 v14 v15 : AV} {H : Heap} {σ : Type} (s0 : σ) (f8 : σ → AV) (f15 : σ → AV) (TH : σ → Heap) (pre : σ → Prop) (μ : σ → Nat)
    (h0 : pre s0 ∧ AV.wk v8 (f8 s0) ∧ AV.wk v15 (f15 s0) ∧ Heap.le (TH s0) H)
    (round : ∀ s, pre s → B27_0 K (fun w8 w15 H' => ∃ s', pre s' ∧ μ s' < μ s ∧ AV.wk w8 (f8 s') ∧ AV.wk w15 (f15 s') ∧ Heap.le (TH s') H') v1 v2 v3 (f8 s) v14 (f15 s) (TH s)) :
    L27_0 K v1 v2 v3 v8 v14 v15 H := by
  unfold L27_0
  exact LoopV.mk s0 (fun s => [f8 s, f15 s]) TH pre μ (fun _ => rfl) (Eq.mp (by kernel_rfl) h0) (fun s hs => Eq.mp (by kernel_rfl) (round s hs))
theorem L27_0_ruleG {K : AV → Heap → Prop} {v1 v2 v3 v8 v14 v15 : AV} {H : Heap} {σ : Type} (s0 : σ) (f8 : σ → AV) (f15 : σ → AV) (TH : σ → Heap) (pre : σ → Prop) (μ : σ → Nat)
    (h0 : pre s0 ∧ AV.wk v8 (f8 s0) ∧ AV.wk v15 (f15 s0) ∧ Heap.le (TH s0) H)
    (round : ∀ s, pre s → ∀ q, TH s q = none → B27_0 K (fun w8 w15 H' => ∃ s', pre s' ∧ μ s' < μ s ∧ AV.wk w8 (f8 s') ∧ AV.wk w15 (f15 s') ∧ Heap.le (TH s') H') v1 v2 v3 (f8 s) v14 (f15 s) ((TH s).set q [])) :
    L27_0 K v1 v2 v3 v8 v14 v15 H := by
  unfold L27_0
  exact LoopV.mkG s0 (fun s => [f8 s, f15 s]) TH pre μ (fun _ => rfl) (Eq.mp (by kernel_rfl) h0) (fun s hs q hq => Eq.mp (by kernel_rfl) (round s hs q hq))
/-- loop.example/g00649/laws.eqNode -/
def D28 : Info := ⟨15, fun i => ([], []), fun i => ([], [])⟩
def W28 (v0 : AV) (v1 : AV) (H : Heap) (K : AV → Heap → Prop) : Prop :=
 boxV v0 H fun v2 H1 =>
 boxV v1 H1 fun v3 H2 =>
 fieldAddrV tab 48 v2 0 fun v5 =>
 loadV tab 3 v5 H2 fun v6 =>
 fieldAddrV tab 48 v3 0 fun v7 =>
 loadV tab 3 v7 H2 fun v8 =>
 binV tab .neq 3 v6 v8 fun v9 =>
 condV v9 (K (AV.p (.bool false)) H2)
 (fieldAddrV tab 48 v2 1 fun v10 =>
 loadV tab 46 v10 H2 fun v11 =>
 fieldAddrV tab 48 v3 1 fun v12 =>
 loadV tab 46 v12 H2 fun v13 =>
 binV tab .neq 46 v11 v13 fun v14 =>
 condV v14 (K (AV.p (.bool false)) H2)
 (K (AV.p (.bool true)) H2))
theorem W28_wp (v0 : AV) (v1 : AV) (H : Heap) (K : AV → Heap → Prop) : wpC Try.prog tab D28 (bodyOf Try.f28) (retF tab [.tmp 4] K) (nthA [v0, v1]) H = W28 v0 v1 H K := by kernel_rfl
theorem W28_ok {v0 v1 : AV} {H : Heap} {K : AV → Heap → Prop} (h : W28 v0 v1 H K) : CallT Try.prog 28 [v0, v1] H K :=
  CallT.of_wp (D := D28) tab_ok mixed Try.func28 (c := bodyOf Try.f28) (by kernel_rfl) rfl (by kernel_rfl) (rs := #[.tmp 4]) rfl (by decide +kernel) (by kernel_rfl) (W28_wp v0 v1 H K) h
theorem W28_hb : HasBody Try.prog 28 := ⟨_, bodyOf Try.f28, Try.func28, by kernel_rfl, rfl⟩
/-- loop.example/g00649/laws.eqCommandS -/
def D29 : Info := ⟨27, fun i => if i = 6 then ([[], [], [0, 1], [0, 1, 2], [], [], [4, 5], [4, 5, 6], [0, 1, 2, 3, 4, 5, 6, 7], [0, 1, 2, 3, 4, 5, 6, 7, 8]], [(0, []), (1, []), (2, []), (3, []), (4, []), (5, []), (6, []), (7, []), (8, []), (9, [])]) else ([], []), fun i => if i = 4 then ([0, 1], [5]) else ([], [])⟩
def L29_0 (K : AV → Heap → Prop) (v0 : AV) (v1 : AV) (v5 : AV) (H : Heap) : Prop := LoopV (wpC Try.prog tab D29 (cAt [1, 1, 0, 1, 0, 0] (bodyOf Try.f29))) [0, 1] (PostF.block 0 (PostF.thenA (wpC Try.prog tab D29 (cAt [1, 1, 1] (bodyOf Try.f29))) (retF tab [.tmp 4] K))) [5] [v0, v1, AV.any, AV.any, AV.any, v5, AV.any, AV.any, AV.any, AV.any, AV.any, AV.any, AV.any, AV.any, AV.any, AV.any, AV.any, AV.any, AV.any, AV.any, AV.any, AV.any, AV.any, AV.any, AV.any, AV.any, AV.any] H
def B29_0 (K : AV → Heap → Prop) (N1 : AV → Heap → Prop) (v0 : AV) (v1 : AV) (v5 : AV) (H : Heap) : Prop :=
 lenV tab 31 v0 fun v13 =>
 binV tab .lss 3 v5 v13 fun v14 =>
 condV v14 (indexAddrV tab 31 v0 v5 fun v19 =>
 loadV tab 57 v19 H fun v20 =>
 indexAddrV tab 31 v1 v5 fun v23 =>
 loadV tab 57 v23 H fun v24 =>
 CallT Try.prog 46 [v20, v24] H fun v25 H1 =>
 unV .not v25 fun v26 =>
 condV v26 (K (AV.p (.bool false)) H1)
 (binV tab .add 3 v5 (AV.p (.int .i64 1)) fun v16 =>
 N1 v16 H1))
 (K (AV.p (.bool true)) H)
def W29 (v0 : AV) (v1 : AV) (H : Heap) (K : AV → Heap → Prop) : Prop :=
 lenV tab 31 v0 fun v7 =>
 lenV tab 31 v1 fun v9 =>
 binV tab .neq 3 v7 v9 fun v10 =>
 condV v10 (K (AV.p (.bool false)) H)
 (L29_0 K v0 v1 (AV.p (.int .i64 0)) H)
theorem W29_wp (v0 : AV) (v1 : AV) (H : Heap) (K : AV → Heap → Prop) : wpC Try.prog tab D29 (bodyOf Try.f29) (retF tab [.tmp 4] K) (nthA [v0, v1]) H = W29 v0 v1 H K := by kernel_rfl
theorem W29_ok {v0 v1 : AV} {H : Heap} {K : AV → Heap → Prop} (h : W29 v0 v1 H K) : CallT Try.prog 29 [v0, v1] H K :=
  CallT.of_wp (D := D29) tab_ok mixed Try.func29 (c := bodyOf Try.f29) (by kernel_rfl) rfl (by kernel_rfl) (rs := #[.tmp 4]) rfl (by decide +kernel) (by kernel_rfl) (W29_wp v0 v1 H K) h
theorem W29_hb : HasBody Try.prog 29 := ⟨_, bodyOf Try.f29, Try.func29, by kernel_rfl, rfl⟩
theorem L29_0_rule {K : AV → Heap → Prop} {v0 v1 v5 : AV} {H : Heap} {σ : Type} (s0 : σ) (f5 : σ → AV) (TH : σ → Heap) (pre : σ → Prop) (μ : σ → Nat)
    (h0 : pre s0 ∧ AV.wk v5 (f5 s0) ∧ Heap.le (TH s0) H)
    (round : ∀ s, pre s → B29_0 K (fun w5 H' => ∃ s', pre s' ∧ μ s' < μ s ∧ AV.wk w5 (f5 s') ∧ Heap.le (TH s') H') v0 v1 (f5 s) (TH s)) :
    L29_0 K v0 v1 v5 H := by
  unfold L29_0
  exact LoopV.mk s0 (fun s => [f5 s]) TH pre μ (fun _ => rfl) (Eq.mp (by kernel_rfl) h0) (fun s hs => Eq.mp (by kernel_rfl) (round s hs))
theorem L29_0_ruleG {K : AV → Heap → Prop} {v0 v1 v5 : AV} {H : Heap} {σ : Type} (s0 : σ) (f5 : σ → AV) (TH : σ → Heap) (pre : σ → Prop) (μ : σ → Nat)
    (h0 : pre s0 ∧ AV.wk v5 (f5 s0) ∧ Heap.le (TH s0) H)
    (round : ∀ s, pre s → ∀ q, TH s q = none → B29_0 K (fun w5 H' => ∃ s', pre s' ∧ μ s' < μ s ∧ AV.wk w5 (f5 s') ∧ Heap.le (TH s') H') v0 v1 (f5 s) ((TH s).set q [])) :
    L29_0 K v0 v1 v5 H := by
  unfold L29_0
  exact LoopV.mkG s0 (fun s => [f5 s]) TH pre μ (fun _ => rfl) (Eq.mp (by kernel_rfl) h0) (fun s hs q hq => Eq.mp (by kernel_rfl) (round s hs q hq))
/-- loop.example/g00649/laws.markCommandS -/
def D30 : Info := ⟨27, fun i => ([], []), fun i => if i = 2 then ([0], [1, 5]) else ([], [])⟩
def L30_0 (K : AV → Heap → Prop) (v0 : AV) (v1 : AV) (v5 : AV) (H : Heap) : Prop := LoopV (wpC Try.prog tab D30 (cAt [1, 0, 1, 0, 0] (bodyOf Try.f30))) [0] (PostF.block 0 (PostF.thenA (wpC Try.prog tab D30 (cAt [1, 1] (bodyOf Try.f30))) (retF tab [.tmp 4] K))) [1, 5] [v0, v1, AV.any, AV.any, AV.any, v5, AV.any, AV.any, AV.any, AV.any, AV.any, AV.any, AV.any, AV.any, AV.any, AV.any, AV.any, AV.any, AV.any, AV.any, AV.any, AV.any, AV.any, AV.any, AV.any, AV.any, AV.any] H
def B30_0 (K : AV → Heap → Prop) (N1 : AV → AV → Heap → Prop) (v0 : AV) (v1 : AV) (v5 : AV) (H : Heap) : Prop :=
 lenV tab 31 v0 fun v8 =>
 binV tab .lss 3 v5 v8 fun v9 =>
 condV v9 (indexAddrV tab 31 v0 v5 fun v14 =>
 fieldAddrV tab 57 v14 0 fun v15 =>
 loadV tab 28 v15 H fun v16 =>
 CallT Try.prog 15 [v16, v1] H fun v18 H1 =>
 indexAddrV tab 31 v0 v5 fun v21 =>
 fieldAddrV tab 57 v21 1 fun v22 =>
 loadV tab 55 v22 H1 fun v23 =>
 CallT Try.prog 47 [v23, v18] H1 fun v25 H2 =>
 binV tab .add 3 v5 (AV.p (.int .i64 1)) fun v11 =>
 N1 v25 v11 H2)
 (K v1 H)
def W30 (v0 : AV) (v1 : AV) (H : Heap) (K : AV → Heap → Prop) : Prop :=
 L30_0 K v0 v1 (AV.p (.int .i64 0)) H
theorem W30_wp (v0 : AV) (v1 : AV) (H : Heap) (K : AV → Heap → Prop) : wpC Try.prog tab D30 (bodyOf Try.f30) (retF tab [.tmp 4] K) (nthA [v0, v1]) H = W30 v0 v1 H K := by kernel_rfl
theorem W30_ok {v0 v1 : AV} {H : Heap} {K : AV → Heap → Prop} (h : W30 v0 v1 H K) : CallT Try.prog 30 [v0, v1] H K :=
  CallT.of_wp (D := D30) tab_ok mixed Try.func30 (c := bodyOf Try.f30) (by kernel_rfl) rfl (by kernel_rfl) (rs := #[.tmp 4]) rfl (by decide +kernel) (by kernel_rfl) (W30_wp v0 v1 H K) h
theorem W30_hb : HasBody Try.prog 30 := ⟨_, bodyOf Try.f30, Try.func30, by kernel_rfl, rfl⟩
theorem L30_0_rule {K : AV → Heap → Prop} {v0 v1 v5 : AV} {H : Heap} {σ : Type} (s0 : σ) (f1 : σ → AV) (f5 : σ → AV) (TH : σ → Heap) (pre : σ → Prop) (μ : σ → Nat)
    (h0 : pre s0 ∧ AV.wk v1 (f1 s0) ∧ AV.wk v5 (f5 s0) ∧ Heap.le (TH s0) H)
    (round : ∀ s, pre s → B30_0 K (fun w1 w5 H' => ∃ s', pre s' ∧ μ s' < μ s ∧ AV.wk w1 (f1 s') ∧ AV.wk w5 (f5 s') ∧ Heap.le (TH s') H') v0 (f1 s) (f5 s) (TH s)) :
    L30_0 K v0 v1 v5 H := by
  unfold L30_0
  exact LoopV.mk s0 (fun s => [f1 s, f5 s]) TH pre μ (fun _ => rfl) (Eq.mp (by kernel_rfl) h0) (fun s hs => Eq.mp (by kernel_rfl) (round s hs))
theorem L30_0_ruleG {K : AV → Heap → Prop} {v0 v1 v5 : AV} {H : Heap} {σ : Type} (s0 : σ) (f1 : σ → AV) (f5 : σ → AV) (TH : σ → Heap) (pre : σ → Prop) (μ : σ → Nat)
    (h0 : pre s0 ∧ AV.wk v1 (f1 s0) ∧ AV.wk v5 (f5 s0) ∧ Heap.le (TH s0) H)
    (round : ∀ s, pre s → ∀ q, TH s q = none → B30_0 K (fun w1 w5 H' => ∃ s', pre s' ∧ μ s' < μ s ∧ AV.wk w1 (f1 s') ∧ AV.wk w5 (f5 s') ∧ Heap.le (TH s') H') v0 (f1 s) (f5 s) ((TH s).set q [])) :
    L30_0 K v0 v1 v5 H := by
  unfold L30_0
  exact LoopV.mkG s0 (fun s => [f1 s, f5 s]) TH pre μ (fun _ => rfl) (Eq.mp (by kernel_rfl) h0) (fun s hs q hq => Eq.mp (by kernel_rfl) (round s hs q hq))
/-- loop.example/g00649/spec.l16If -/
def D31 : Info := ⟨46, fun i => if i = 7 then ([[], [0], [], [2], [], [], [5], [4, 5, 6], [0, 1, 2, 3, 4, 5, 6, 7], [0, 1, 2, 3, 4, 5, 6, 7, 8], [0, 1, 2, 3, 4, 5, 6, 7, 8], [0, 1, 2, 3, 4, 5, 6, 7, 8, 9, 10], [0, 1, 2, 3, 4, 5, 6, 7, 8, 9, 10, 11]], [(0, []), (1, []), (2, []), (3, []), (4, []), (5, []), (6, [1, 3]), (7, [1, 3]), (8, []), (9, []), (10, []), (11, []), (12, [])]) else ([], []), fun i => ([], [])⟩
def W31 (v0 : AV) (v1 : AV) (v2 : AV) (H : Heap) (K : AV → Heap → Prop) : Prop :=
 boxV v0 H fun v3 H1 =>
 loadV tab 33 v3 H1 fun v12 =>
 CallT Try.prog 23 [v12, v1, v2] H1 fun v15 H2 =>
 extractV v15 0 fun v16 =>
 extractV v15 1 fun v17 =>
 unV .not v17 fun v19 =>
 condV v19 (K (.tup [(AV.p .nil), (AV.p (.bool false))]) H2)
 (buildSliceV tab 28 0 [] H2 (wkK fun v20 H3 =>
 fieldAddrV tab 33 v3 3 fun v21 =>
 loadV tab 31 v21 H3 fun v22 =>
 indexAddrV tab 31 v22 v1 fun v24 =>
 fieldAddrV tab 57 v24 0 fun v25 =>
 loadV tab 28 v25 H3 fun v26 =>
 appendV tab 28 28 v20 v26 H3 (wkK fun v27 H4 =>
 buildV tab 48 [(0, (AV.p (.int .i64 19)))] fun v29 =>
 buildSliceV tab 28 1 [(0, v29)] H4 (wkK fun v30 H5 =>
 appendV tab 28 28 v27 v30 H5 (wkK fun v31 H6 =>
 appendV tab 28 28 v31 v16 H6 (wkK fun v34 H7 =>
 fieldAddrV tab 33 v3 0 fun v35 =>
 loadV tab 3 v35 H7 fun v36 =>
 fieldAddrV tab 33 v3 1 fun v37 =>
 loadV tab 3 v37 H7 fun v38 =>
 buildV tab 48 [(0, (AV.p (.int .i64 18)))] fun v40 =>
 buildSliceV tab 28 1 [(0, v40)] H7 (wkK fun v41 H8 =>
 (loadV tab 3 v35 H8 fun v9036 =>
 v36 = v9036) ∧
 (loadV tab 3 v37 H8 fun v9038 =>
 v38 = v9038) ∧
 appendV tab 28 28 v34 v41 H8 (wkK fun v42 H9 =>
 (loadV tab 3 v35 H9 fun v9036 =>
 v36 = v9036) ∧
 (loadV tab 3 v37 H9 fun v9038 =>
 v38 = v9038) ∧
 CallT Try.prog 33 [v36, v38, v42] H9 fun v43 H10 =>
 extractV v43 0 fun v44 =>
 extractV v43 1 fun v45 =>
 K (.tup [v44, v45]) H10))))))))
theorem W31_wp (v0 : AV) (v1 : AV) (v2 : AV) (H : Heap) (K : AV → Heap → Prop) : wpC Try.prog tab D31 (bodyOf Try.f31) (retF tab [.tmp 6, .tmp 7] K) (nthA [v0, v1, v2]) H = W31 v0 v1 v2 H K := by kernel_rfl
theorem W31_ok {v0 v1 v2 : AV} {H : Heap} {K : AV → Heap → Prop} (h : W31 v0 v1 v2 H K) : CallT Try.prog 31 [v0, v1, v2] H K :=
  CallT.of_wp (D := D31) tab_ok mixed Try.func31 (c := bodyOf Try.f31) (by kernel_rfl) rfl (by kernel_rfl) (rs := #[.tmp 6, .tmp 7]) rfl (by decide +kernel) (by kernel_rfl) (W31_wp v0 v1 v2 H K) h
theorem W31_hb : HasBody Try.prog 31 := ⟨_, bodyOf Try.f31, Try.func31, by kernel_rfl, rfl⟩
/-- (loop.example/g00649/impl.Program).beforeIf -/
def D32 : Info := ⟨39, fun i => if i = 4 then ([[], [0], [], [2], [], [4], [], [4, 5, 6], [4, 5, 6, 7], [4, 5, 6, 7, 8], [], [10], [], [], [13], [4, 5, 6, 7, 8, 9, 10, 11, 12, 13, 14], [4, 5, 6, 7, 8, 9, 10, 11, 12, 13, 14, 15], [0, 1, 2, 3, 4, 5, 6, 7, 8, 9, 10, 11, 12, 13, 14, 15, 16], [0, 1, 2, 3, 4, 5, 6, 7, 8, 9, 10, 11, 12, 13, 14, 15, 16, 17], [0, 1, 2, 3, 4, 5, 6, 7, 8, 9, 10, 11, 12, 13, 14, 15, 16, 17], [0, 1, 2, 3, 4, 5, 6, 7, 8, 9, 10, 11, 12, 13, 14, 15, 16, 17, 18, 19], [0, 1, 2, 3, 4, 5, 6, 7, 8, 9, 10, 11, 12, 13, 14, 15, 16, 17, 18, 19, 20]], [(0, []), (1, []), (2, []), (3, []), (4, []), (5, []), (6, []), (7, []), (8, []), (9, []), (10, []), (12, []), (13, []), (11, [14, 1, 3, 5, 9]), (14, [14]), (15, [1, 3]), (16, [1, 3]), (17, []), (18, []), (19, []), (20, []), (21, [])]) else ([], []), fun i => ([], [])⟩
def W32 (v0 : AV) (v1 : AV) (v2 : AV) (H : Heap) (K : AV → Heap → Prop) : Prop :=
 boxV v0 H fun v3 H1 =>
 loadV tab 33 v3 H1 fun v11 =>
 CallT Try.prog 27 [v11, v1, v2] H1 fun v14 H2 =>
 extractV v14 0 fun v15 =>
 extractV v14 1 fun v16 =>
 unV .not v16 fun v18 =>
 condV v18 (K (.tup [(AV.p .nil), (AV.p (.bool false))]) H2)
 (fieldAddrV tab 33 v3 0 fun v19 =>
 loadV tab 3 v19 H2 fun v20 =>
 fieldAddrV tab 33 v3 1 fun v21 =>
 loadV tab 3 v21 H2 fun v22 =>
 fieldAddrV tab 33 v3 3 fun v23 =>
 loadV tab 31 v23 H2 fun v24 =>
 indexAddrV tab 31 v24 v1 fun v26 =>
 fieldAddrV tab 57 v26 0 fun v27 =>
 loadV tab 28 v27 H2 fun v28 =>
 buildV tab 48 [(0, (AV.p (.int .i64 19)))] fun v29 =>
 buildV tab 48 [(0, (AV.p (.int .i64 18)))] fun v32 =>
 safeV (buildN tab 28 1 [(0, v32)]) ∧
 buildSliceV tab 28 1 [(0, v29)] H2 (wkK fun v30 H3 =>
 (loadV tab 3 v19 H3 fun v9020 =>
 v20 = v9020) ∧
 (loadV tab 3 v21 H3 fun v9022 =>
 v22 = v9022) ∧
 (loadV tab 31 v23 H3 fun v9024 =>
 v24 = v9024) ∧
 (loadV tab 28 v27 H3 fun v9028 =>
 v28 = v9028) ∧
 newV (buildN tab 28 1 [(0, v32)]) H3 fun v33 H4 =>
 buildSliceV tab 67 4 [(0, v28), (1, v30), (2, v15), (3, v33)] H4 (wkK fun v34 H5 =>
 (loadV tab 3 v19 H5 fun v9020 =>
 v20 = v9020) ∧
 (loadV tab 3 v21 H5 fun v9022 =>
 v22 = v9022) ∧
 CallT Try.prog 35 [v34] H5 fun v35 H6 =>
 (loadV tab 3 v19 H6 fun v9020 =>
 v20 = v9020) ∧
 (loadV tab 3 v21 H6 fun v9022 =>
 v22 = v9022) ∧
 CallT Try.prog 34 [v20, v22, v35] H6 fun v36 H7 =>
 extractV v36 0 fun v37 =>
 extractV v36 1 fun v38 =>
 K (.tup [v37, v38]) H7)))
theorem W32_wp (v0 : AV) (v1 : AV) (v2 : AV) (H : Heap) (K : AV → Heap → Prop) : wpC Try.prog tab D32 (bodyOf Try.f32) (retF tab [.tmp 6, .tmp 7] K) (nthA [v0, v1, v2]) H = W32 v0 v1 v2 H K := by kernel_rfl
theorem W32_ok {v0 v1 v2 : AV} {H : Heap} {K : AV → Heap → Prop} (h : W32 v0 v1 v2 H K) : CallT Try.prog 32 [v0, v1, v2] H K :=
  CallT.of_wp (D := D32) tab_ok mixed Try.func32 (c := bodyOf Try.f32) (by kernel_rfl) rfl (by kernel_rfl) (rs := #[.tmp 6, .tmp 7]) rfl (by decide +kernel) (by kernel_rfl) (W32_wp v0 v1 v2 H K) h
theorem W32_hb : HasBody Try.prog 32 := ⟨_, bodyOf Try.f32, Try.func32, by kernel_rfl, rfl⟩
/-- loop.example/g00649/spec.l2Made -/
def D33 : Info := ⟨14, fun i => ([], []), fun i => ([], [])⟩
def W33 (v0 : AV) (v1 : AV) (v2 : AV) (H : Heap) (K : AV → Heap → Prop) : Prop :=
 CallT Try.prog 48 [v0, v1, v2] H fun v11 H1 =>
 unV .not v11 fun v12 =>
 condV v12 (K (.tup [(AV.p .nil), (AV.p (.bool false))]) H1)
 (K (.tup [v2, (AV.p (.bool true))]) H1)
theorem W33_wp (v0 : AV) (v1 : AV) (v2 : AV) (H : Heap) (K : AV → Heap → Prop) : wpC Try.prog tab D33 (bodyOf Try.f33) (retF tab [.tmp 6, .tmp 7] K) (nthA [v0, v1, v2]) H = W33 v0 v1 v2 H K := by kernel_rfl
theorem W33_ok {v0 v1 v2 : AV} {H : Heap} {K : AV → Heap → Prop} (h : W33 v0 v1 v2 H K) : CallT Try.prog 33 [v0, v1, v2] H K :=
  CallT.of_wp (D := D33) tab_ok mixed Try.func33 (c := bodyOf Try.f33) (by kernel_rfl) rfl (by kernel_rfl) (rs := #[.tmp 6, .tmp 7]) rfl (by decide +kernel) (by kernel_rfl) (W33_wp v0 v1 v2 H K) h
theorem W33_hb : HasBody Try.prog 33 := ⟨_, bodyOf Try.f33, Try.func33, by kernel_rfl, rfl⟩
/-- loop.example/g00649/impl.checkedTerm -/
def D34 : Info := ⟨14, fun i => ([], []), fun i => ([], [])⟩
def W34 (v0 : AV) (v1 : AV) (v2 : AV) (H : Heap) (K : AV → Heap → Prop) : Prop :=
 CallT Try.prog 49 [v0, v1, v2] H fun v11 H1 =>
 unV .not v11 fun v12 =>
 condV v12 (K (.tup [(AV.p .nil), (AV.p (.bool false))]) H1)
 (K (.tup [v2, (AV.p (.bool true))]) H1)
theorem W34_wp (v0 : AV) (v1 : AV) (v2 : AV) (H : Heap) (K : AV → Heap → Prop) : wpC Try.prog tab D34 (bodyOf Try.f34) (retF tab [.tmp 6, .tmp 7] K) (nthA [v0, v1, v2]) H = W34 v0 v1 v2 H K := by kernel_rfl
theorem W34_ok {v0 v1 v2 : AV} {H : Heap} {K : AV → Heap → Prop} (h : W34 v0 v1 v2 H K) : CallT Try.prog 34 [v0, v1, v2] H K :=
  CallT.of_wp (D := D34) tab_ok mixed Try.func34 (c := bodyOf Try.f34) (by kernel_rfl) rfl (by kernel_rfl) (rs := #[.tmp 6, .tmp 7]) rfl (by decide +kernel) (by kernel_rfl) (W34_wp v0 v1 v2 H K) h
theorem W34_hb : HasBody Try.prog 34 := ⟨_, bodyOf Try.f34, Try.func34, by kernel_rfl, rfl⟩
/-- slices.Concat[[]loop.example/g00649/impl.Node,loop.example/g00649/impl.Node] -/
def D35 : Info := ⟨36, fun i => ([], []), fun i => if i = 3 then ([0, 9, 10], [3, 11]) else if i = 11 then ([25, 26], [6, 27]) else ([], [])⟩
def L35_0 (K : AV → Heap → Prop) (v0 : AV) (v3 : AV) (v9 : AV) (v10 : AV) (v11 : AV) (H : Heap) : Prop := LoopV (wpC Try.prog tab D35 (cAt [1, 1, 0, 1, 0, 0] (bodyOf Try.f35))) [0, 9, 10] (PostF.block 0 (PostF.thenA (wpC Try.prog tab D35 (cAt [1, 1, 1] (bodyOf Try.f35))) (retF tab [.tmp 2] K))) [3, 11] [v0, AV.any, AV.any, v3, AV.any, AV.any, AV.any, AV.any, AV.any, v9, v10, v11, AV.any, AV.any, AV.any, AV.any, AV.any, AV.any, AV.any, AV.any, AV.any, AV.any, AV.any, AV.any, AV.any, AV.any, AV.any, AV.any, AV.any, AV.any, AV.any, AV.any, AV.any, AV.any, AV.any, AV.any] H
def L35_1 (K : AV → Heap → Prop) (v6 : AV) (v25 : AV) (v26 : AV) (v27 : AV) (H : Heap) : Prop := LoopV (wpC Try.prog tab D35 (cAt [1, 1, 1, 1, 0, 1, 0, 0] (bodyOf Try.f35))) [25, 26] (PostF.block 2 (PostF.thenA (wpC Try.prog tab D35 (cAt [1, 1, 1, 1, 1] (bodyOf Try.f35))) (retF tab [.tmp 2] K))) [6, 27] [AV.any, AV.any, AV.any, AV.any, AV.any, AV.any, v6, AV.any, AV.any, AV.any, AV.any, AV.any, AV.any, AV.any, AV.any, AV.any, AV.any, AV.any, AV.any, AV.any, AV.any, AV.any, AV.any, AV.any, AV.any, v25, v26, v27, AV.any, AV.any, AV.any, AV.any, AV.any, AV.any, AV.any, AV.any] H
def B35_1 (K : AV → Heap → Prop) (N1 : AV → AV → Heap → Prop) (v6 : AV) (v25 : AV) (v26 : AV) (v27 : AV) (H : Heap) : Prop :=
 binV tab .lss 3 v27 v26 fun v28 =>
 condV v28 (indexAddrV tab 67 v25 v27 fun v29 =>
 loadV tab 28 v29 H fun v30 =>
 appendV tab 28 28 v6 v30 H (wkK fun v33 H2 =>
 binV tab .add 3 v27 (AV.p (.int .i64 1)) fun v34 =>
 N1 v33 v34 H2))
 (K v6 H)
def B35_0 (K : AV → Heap → Prop) (N1 : AV → AV → Heap → Prop) (v0 : AV) (v3 : AV) (v9 : AV) (v10 : AV) (v11 : AV) (H : Heap) : Prop :=
 binV tab .lss 3 v11 v10 fun v12 =>
 condV v12 (indexAddrV tab 67 v9 v11 fun v13 =>
 loadV tab 28 v13 H fun v14 =>
 lenV tab 28 v14 fun v17 =>
 binV tab .add 3 v3 v17 fun v18 =>
 binV tab .lss 3 v18 (AV.p (.int .i64 0)) fun v20 =>
 condV v20 (False)
 (binV tab .add 3 v11 (AV.p (.int .i64 1)) fun v22 =>
 N1 v18 v22 H))
 (CallT Try.prog 50 [(AV.p .nil), v3] H fun v24 H1 =>
 lenV tab 67 v0 fun v26 =>
 L35_1 K v24 v0 v26 (AV.p (.int .i64 0)) H1)
def W35 (v0 : AV) (H : Heap) (K : AV → Heap → Prop) : Prop :=
 lenV tab 67 v0 fun v10 =>
 L35_0 K v0 (AV.p (.int .i64 0)) v0 v10 (AV.p (.int .i64 0)) H
theorem W35_wp (v0 : AV) (H : Heap) (K : AV → Heap → Prop) : wpC Try.prog tab D35 (bodyOf Try.f35) (retF tab [.tmp 2] K) (nthA [v0]) H = W35 v0 H K := by kernel_rfl
theorem W35_ok {v0 : AV} {H : Heap} {K : AV → Heap → Prop} (h : W35 v0 H K) : CallT Try.prog 35 [v0] H K :=
  CallT.of_wp (D := D35) tab_ok mixed Try.func35 (c := bodyOf Try.f35) (by kernel_rfl) rfl (by kernel_rfl) (rs := #[.tmp 2]) rfl (by decide +kernel) (by kernel_rfl) (W35_wp v0 H K) h
theorem W35_hb : HasBody Try.prog 35 := ⟨_, bodyOf Try.f35, Try.func35, by kernel_rfl, rfl⟩
theorem L35_1_rule {K : AV → Heap → Prop} {v6 v25 v26 v27 : AV} {H : Heap} {σ : Type} (s0 : σ) (f6 : σ → AV) (f27 : σ → AV) (TH : σ → Heap) (pre : σ → Prop) (μ : σ → Nat)
    (h0 : pre s0 ∧ AV.wk v6 (f6 s0) ∧ AV.wk v27 (f27 s0) ∧ Heap.le (TH s0) H)
    (round : ∀ s, pre s → B35_1 K (fun w6 w27 H' => ∃ s', pre s' ∧ μ s' < μ s ∧ AV.wk w6 (f6 s') ∧ AV.wk w27 (f27 s') ∧ Heap.le (TH s') H') (f6 s) v25 v26 (f27 s) (TH s)) :
    L35_1 K v6 v25 v26 v27 H := by
  unfold L35_1
  exact LoopV.mk s0 (fun s => [f6 s, f27 s]) TH pre μ (fun _ => rfl) (Eq.mp (by kernel_rfl) h0) (fun s hs => Eq.mp (by kernel_rfl) (round s hs))
theorem L35_1_ruleG {K : AV → Heap → Prop} {v6 v25 v26 v27 : AV} {H : Heap} {σ : Type} (s0 : σ) (f6 : σ → AV) (f27 : σ → AV) (TH : σ → Heap) (pre : σ → Prop) (μ : σ → Nat)
    (h0 : pre s0 ∧ AV.wk v6 (f6 s0) ∧ AV.wk v27 (f27 s0) ∧ Heap.le (TH s0) H)
    (round : ∀ s, pre s → ∀ q, TH s q = none → B35_1 K (fun w6 w27 H' => ∃ s', pre s' ∧ μ s' < μ s ∧ AV.wk w6 (f6 s') ∧ AV.wk w27 (f27 s') ∧ Heap.le (TH s') H') (f6 s) v25 v26 (f27 s) ((TH s).set q [])) :
    L35_1 K v6 v25 v26 v27 H := by
  unfold L35_1
  exact LoopV.mkG s0 (fun s => [f6 s, f27 s]) TH pre μ (fun _ => rfl) (Eq.mp (by kernel_rfl) h0) (fun s hs q hq => Eq.mp (by kernel_rfl) (round s hs q hq))
theorem L35_0_rule {K : AV → Heap → Prop} {v0 v3 v9 v10 v11 : AV} {H : Heap} {σ : Type} (s0 : σ) (f3 : σ → AV) (f11 : σ → AV) (TH : σ → Heap) (pre : σ → Prop) (μ : σ → Nat)
    (h0 : pre s0 ∧ AV.wk v3 (f3 s0) ∧ AV.wk v11 (f11 s0) ∧ Heap.le (TH s0) H)
    (round : ∀ s, pre s → B35_0 K (fun w3 w11 H' => ∃ s', pre s' ∧ μ s' < μ s ∧ AV.wk w3 (f3 s') ∧ AV.wk w11 (f11 s') ∧ Heap.le (TH s') H') v0 (f3 s) v9 v10 (f11 s) (TH s)) :
    L35_0 K v0 v3 v9 v10 v11 H := by
  unfold L35_0
  exact LoopV.mk s0 (fun s => [f3 s, f11 s]) TH pre μ (fun _ => rfl) (Eq.mp (by kernel_rfl) h0) (fun s hs => Eq.mp (by kernel_rfl) (round s hs))
theorem L35_0_ruleG {K : AV → Heap → Prop} {v0 v3 v9 v10 v11 : AV} {H : Heap} {σ : Type} (s0 : σ) (f3 : σ → AV) (f11 : σ → AV) (TH : σ → Heap) (pre : σ → Prop) (μ : σ → Nat)
    (h0 : pre s0 ∧ AV.wk v3 (f3 s0) ∧ AV.wk v11 (f11 s0) ∧ Heap.le (TH s0) H)
    (round : ∀ s, pre s → ∀ q, TH s q = none → B35_0 K (fun w3 w11 H' => ∃ s', pre s' ∧ μ s' < μ s ∧ AV.wk w3 (f3 s') ∧ AV.wk w11 (f11 s') ∧ Heap.le (TH s') H') v0 (f3 s) v9 v10 (f11 s) ((TH s).set q [])) :
    L35_0 K v0 v3 v9 v10 v11 H := by
  unfold L35_0
  exact LoopV.mkG s0 (fun s => [f3 s, f11 s]) TH pre μ (fun _ => rfl) (Eq.mp (by kernel_rfl) h0) (fun s hs q hq => Eq.mp (by kernel_rfl) (round s hs q hq))
/-- loop.example/g00649/laws.szCommand -/
def D36 : Info := ⟨18, fun i => ([], []), fun i => ([], [])⟩
def W36 (v0 : AV) (v1 : AV) (H : Heap) (K : AV → Heap → Prop) : Prop :=
 boxV v0 H fun v2 H1 =>
 fieldAddrV tab 63 v2 0 fun v5 =>
 loadV tab 22 v5 H1 fun v6 =>
 CallT Try.prog 7 [v6, v1] H1 fun v8 H2 =>
 binV tab .lss 3 v8 (AV.p (.int .i64 0)) fun v10 =>
 condV v10 (K (AV.p (.int .i64 (-1))) H2)
 (fieldAddrV tab 63 v2 1 fun v11 =>
 loadV tab 61 v11 H2 fun v12 =>
 CallT Try.prog 51 [v12, v8] H2 fun v14 H3 =>
 binV tab .lss 3 v14 (AV.p (.int .i64 0)) fun v16 =>
 condV v16 (K (AV.p (.int .i64 (-1))) H3)
 (K v14 H3))
theorem W36_wp (v0 : AV) (v1 : AV) (H : Heap) (K : AV → Heap → Prop) : wpC Try.prog tab D36 (bodyOf Try.f36) (retF tab [.tmp 4] K) (nthA [v0, v1]) H = W36 v0 v1 H K := by kernel_rfl
theorem W36_ok {v0 v1 : AV} {H : Heap} {K : AV → Heap → Prop} (h : W36 v0 v1 H K) : CallT Try.prog 36 [v0, v1] H K :=
  CallT.of_wp (D := D36) tab_ok mixed Try.func36 (c := bodyOf Try.f36) (by kernel_rfl) rfl (by kernel_rfl) (rs := #[.tmp 4]) rfl (by decide +kernel) (by kernel_rfl) (W36_wp v0 v1 H K) h
theorem W36_hb : HasBody Try.prog 36 := ⟨_, bodyOf Try.f36, Try.func36, by kernel_rfl, rfl⟩
/-- loop.example/g00649/spec.GoodProgram -/
def D37 : Info := ⟨29, fun i => ([], []), fun i => if i = 4 then ([1, 18, 19], [20]) else ([], [])⟩
def L37_0 (K : AV → Heap → Prop) (v1 : AV) (v18 : AV) (v19 : AV) (v20 : AV) (H : Heap) : Prop := LoopV (wpC Try.prog tab D37 (cAt [1, 1, 0, 1, 0, 0] (bodyOf Try.f37))) [1, 18, 19] (PostF.block 0 (PostF.thenA (wpC Try.prog tab D37 (cAt [1, 1, 1] (bodyOf Try.f37))) (retF tab [.tmp 2] K))) [20] [AV.any, v1, AV.any, AV.any, AV.any, AV.any, AV.any, AV.any, AV.any, AV.any, AV.any, AV.any, AV.any, AV.any, AV.any, AV.any, AV.any, AV.any, v18, v19, v20, AV.any, AV.any, AV.any, AV.any, AV.any, AV.any, AV.any, AV.any] H
def B37_0 (K : AV → Heap → Prop) (N1 : AV → Heap → Prop) (v1 : AV) (v18 : AV) (v19 : AV) (v20 : AV) (H : Heap) : Prop :=
 binV tab .lss 3 v20 v19 fun v21 =>
 condV v21 (indexAddrV tab 31 v18 v20 fun v22 =>
 loadV tab 57 v22 H fun v23 =>
 allocV tab 57 H fun v4 H4 =>
 storeV tab 57 v4 v23 H4 fun H5 =>
 loadV tab 33 v1 H5 fun v24 =>
 loadV tab 57 v4 H5 fun v25 =>
 CallT Try.prog 52 [v24, v25] H5 fun v26 H6 =>
 unV .not v26 fun v27 =>
 condV v27 (K (AV.p (.bool false)) H6)
 (binV tab .add 3 v20 (AV.p (.int .i64 1)) fun v28 =>
 N1 v28 H6))
 (K (AV.p (.bool true)) H)
def W37 (v0 : AV) (H : Heap) (K : AV → Heap → Prop) : Prop :=
 boxV v0 H fun v1 H1 =>
 loadV tab 33 v1 H1 fun v5 =>
 fieldAddrV tab 33 v1 2 fun v6 =>
 loadV tab 28 v6 H1 fun v7 =>
 CallT Try.prog 39 [v5, v7] H1 fun v8 H2 =>
 unV .not v8 fun v9 =>
 grdV v9 false (fieldAddrV tab 33 v1 3 fun v11 =>
 loadV tab 31 v11 H2 fun v12 =>
 lenV tab 31 v12 fun v13 =>
 CallT Try.prog 38 [v13, (AV.p (.int .i64 1)), (AV.p (.int .i64 6))] H2 fun v14 H3 =>
 unV .not v14 fun v15 =>
 condV v15 (K (AV.p (.bool false)) H3)
 (fieldAddrV tab 33 v1 3 fun v17 =>
 loadV tab 31 v17 H3 fun v18 =>
 lenV tab 31 v18 fun v19 =>
 L37_0 K v1 v18 v19 (AV.p (.int .i64 0)) H3))
 (K (AV.p (.bool false)) H2)
theorem W37_wp (v0 : AV) (H : Heap) (K : AV → Heap → Prop) : wpC Try.prog tab D37 (bodyOf Try.f37) (retF tab [.tmp 2] K) (nthA [v0]) H = W37 v0 H K := by kernel_rfl
theorem W37_ok {v0 : AV} {H : Heap} {K : AV → Heap → Prop} (h : W37 v0 H K) : CallT Try.prog 37 [v0] H K :=
  CallT.of_wp (D := D37) tab_ok mixed Try.func37 (c := bodyOf Try.f37) (by kernel_rfl) rfl (by kernel_rfl) (rs := #[.tmp 2]) rfl (by decide +kernel) (by kernel_rfl) (W37_wp v0 H K) h
theorem W37_hb : HasBody Try.prog 37 := ⟨_, bodyOf Try.f37, Try.func37, by kernel_rfl, rfl⟩
theorem L37_0_rule {K : AV → Heap → Prop} {v1 v18 v19 v20 : AV} {H : Heap} {σ : Type} (s0 : σ) (f20 : σ → AV) (TH : σ → Heap) (pre : σ → Prop) (μ : σ → Nat)
    (h0 : pre s0 ∧ AV.wk v20 (f20 s0) ∧ Heap.le (TH s0) H)
    (round : ∀ s, pre s → B37_0 K (fun w20 H' => ∃ s', pre s' ∧ μ s' < μ s ∧ AV.wk w20 (f20 s') ∧ Heap.le (TH s') H') v1 v18 v19 (f20 s) (TH s)) :
    L37_0 K v1 v18 v19 v20 H := by
  unfold L37_0
  exact LoopV.mk s0 (fun s => [f20 s]) TH pre μ (fun _ => rfl) (Eq.mp (by kernel_rfl) h0) (fun s hs => Eq.mp (by kernel_rfl) (round s hs))
theorem L37_0_ruleG {K : AV → Heap → Prop} {v1 v18 v19 v20 : AV} {H : Heap} {σ : Type} (s0 : σ) (f20 : σ → AV) (TH : σ → Heap) (pre : σ → Prop) (μ : σ → Nat)
    (h0 : pre s0 ∧ AV.wk v20 (f20 s0) ∧ Heap.le (TH s0) H)
    (round : ∀ s, pre s → ∀ q, TH s q = none → B37_0 K (fun w20 H' => ∃ s', pre s' ∧ μ s' < μ s ∧ AV.wk w20 (f20 s') ∧ Heap.le (TH s') H') v1 v18 v19 (f20 s) ((TH s).set q [])) :
    L37_0 K v1 v18 v19 v20 H := by
  unfold L37_0
  exact LoopV.mkG s0 (fun s => [f20 s]) TH pre μ (fun _ => rfl) (Eq.mp (by kernel_rfl) h0) (fun s hs q hq => Eq.mp (by kernel_rfl) (round s hs q hq))
/-- loop.example/g00649/spec.l1In -/
def D38 : Info := ⟨15, fun i => ([], []), fun i => ([], [])⟩
def W38 (v0 : AV) (v1 : AV) (v2 : AV) (H : Heap) (K : AV → Heap → Prop) : Prop :=
 binV tab .geq 3 v0 v1 fun v9 =>
 grdV v9 true (binV tab .leq 3 v0 v2 fun v13 =>
 K v13 H)
 (K (AV.p (.bool false)) H)
theorem W38_wp (v0 : AV) (v1 : AV) (v2 : AV) (H : Heap) (K : AV → Heap → Prop) : wpC Try.prog tab D38 (bodyOf Try.f38) (retF tab [.tmp 6] K) (nthA [v0, v1, v2]) H = W38 v0 v1 v2 H K := by kernel_rfl
theorem W38_ok {v0 v1 v2 : AV} {H : Heap} {K : AV → Heap → Prop} (h : W38 v0 v1 v2 H K) : CallT Try.prog 38 [v0, v1, v2] H K :=
  CallT.of_wp (D := D38) tab_ok mixed Try.func38 (c := bodyOf Try.f38) (by kernel_rfl) rfl (by kernel_rfl) (rs := #[.tmp 6]) rfl (by decide +kernel) (by kernel_rfl) (W38_wp v0 v1 v2 H K) h
theorem W38_hb : HasBody Try.prog 38 := ⟨_, bodyOf Try.f38, Try.func38, by kernel_rfl, rfl⟩
/-- loop.example/g00649/spec.l7Asks -/
def D39 : Info := ⟨12, fun i => ([], []), fun i => ([], [])⟩
def W39 (v0 : AV) (v1 : AV) (H : Heap) (K : AV → Heap → Prop) : Prop :=
 boxV v0 H fun v2 H1 =>
 fieldAddrV tab 33 v2 0 fun v5 =>
 loadV tab 3 v5 H1 fun v6 =>
 fieldAddrV tab 33 v2 1 fun v7 =>
 loadV tab 3 v7 H1 fun v8 =>
 CallT Try.prog 53 [v6, v8, v1] H1 fun v10 H2 =>
 binV tab .eql 3 v10 (AV.p (.int .i64 2)) fun v11 =>
 K v11 H2
theorem W39_wp (v0 : AV) (v1 : AV) (H : Heap) (K : AV → Heap → Prop) : wpC Try.prog tab D39 (bodyOf Try.f39) (retF tab [.tmp 4] K) (nthA [v0, v1]) H = W39 v0 v1 H K := by kernel_rfl
theorem W39_ok {v0 v1 : AV} {H : Heap} {K : AV → Heap → Prop} (h : W39 v0 v1 H K) : CallT Try.prog 39 [v0, v1] H K :=
  CallT.of_wp (D := D39) tab_ok mixed Try.func39 (c := bodyOf Try.f39) (by kernel_rfl) rfl (by kernel_rfl) (rs := #[.tmp 4]) rfl (by decide +kernel) (by kernel_rfl) (W39_wp v0 v1 H K) h
theorem W39_hb : HasBody Try.prog 39 := ⟨_, bodyOf Try.f39, Try.func39, by kernel_rfl, rfl⟩
/-- loop.example/g00649/spec.PutAll -/
def D40 : Info := ⟨65, fun i => ([], []), fun i => if i = 4 then ([0, 1, 2, 3, 26, 27], [28]) else if i = 11 then ([0, 1, 3, 38, 39], [12, 40]) else ([], [])⟩
def L40_0 (K : AV → Heap → Prop) (v0 : AV) (v1 : AV) (v2 : AV) (v3 : AV) (v26 : AV) (v27 : AV) (v28 : AV) (H : Heap) : Prop := LoopV (wpC Try.prog tab D40 (cAt [1, 1, 0, 1, 0, 0] (bodyOf Try.f40))) [0, 1, 2, 3, 26, 27] (PostF.block 0 (PostF.thenA (wpC Try.prog tab D40 (cAt [1, 1, 1] (bodyOf Try.f40))) (retF tab [.tmp 8, .tmp 9] K))) [28] [v0, v1, v2, v3, AV.any, AV.any, AV.any, AV.any, AV.any, AV.any, AV.any, AV.any, AV.any, AV.any, AV.any, AV.any, AV.any, AV.any, AV.any, AV.any, AV.any, AV.any, AV.any, AV.any, AV.any, AV.any, v26, v27, v28, AV.any, AV.any, AV.any, AV.any, AV.any, AV.any, AV.any, AV.any, AV.any, AV.any, AV.any, AV.any, AV.any, AV.any, AV.any, AV.any, AV.any, AV.any, AV.any, AV.any, AV.any, AV.any, AV.any, AV.any, AV.any, AV.any, AV.any, AV.any, AV.any, AV.any, AV.any, AV.any, AV.any, AV.any, AV.any, AV.any] H
def L40_1 (K : AV → Heap → Prop) (v0 : AV) (v1 : AV) (v3 : AV) (v12 : AV) (v38 : AV) (v39 : AV) (v40 : AV) (H : Heap) : Prop := LoopV (wpC Try.prog tab D40 (cAt [1, 1, 1, 1, 0, 1, 0, 0] (bodyOf Try.f40))) [0, 1, 3, 38, 39] (PostF.block 2 (PostF.thenA (wpC Try.prog tab D40 (cAt [1, 1, 1, 1, 1] (bodyOf Try.f40))) (retF tab [.tmp 8, .tmp 9] K))) [12, 40] [v0, v1, AV.any, v3, AV.any, AV.any, AV.any, AV.any, AV.any, AV.any, AV.any, AV.any, v12, AV.any, AV.any, AV.any, AV.any, AV.any, AV.any, AV.any, AV.any, AV.any, AV.any, AV.any, AV.any, AV.any, AV.any, AV.any, AV.any, AV.any, AV.any, AV.any, AV.any, AV.any, AV.any, AV.any, AV.any, AV.any, v38, v39, v40, AV.any, AV.any, AV.any, AV.any, AV.any, AV.any, AV.any, AV.any, AV.any, AV.any, AV.any, AV.any, AV.any, AV.any, AV.any, AV.any, AV.any, AV.any, AV.any, AV.any, AV.any, AV.any, AV.any, AV.any] H
def B40_1 (K : AV → Heap → Prop) (N1 : AV → AV → Heap → Prop) (v0 : AV) (v1 : AV) (v3 : AV) (v12 : AV) (v38 : AV) (v39 : AV) (v40 : AV) (H : Heap) : Prop :=
 binV tab .lss 3 v40 v39 fun v41 =>
 condV v41 (indexAddrV tab 28 v38 v40 fun v42 =>
 loadV tab 48 v42 H fun v43 =>
 allocV tab 48 H fun v14 H3 =>
 storeV tab 48 v14 v43 H3 fun H4 =>
 fieldAddrV tab 48 v14 0 fun v44 =>
 loadV tab 3 v44 H4 fun v45 =>
 binV tab .eql 3 v45 (AV.p (.int .i64 2)) fun v46 =>
 condV v46 (fieldAddrV tab 48 v14 1 fun v49 =>
 loadV tab 46 v49 H4 fun v50 =>
 indexAddrV tab 67 v3 v50 fun v51 =>
 loadV tab 28 v51 H4 fun v52 =>
 appendV tab 28 28 v12 v52 H4 (wkK fun v53 H5 =>
 binV tab .add 3 v40 (AV.p (.int .i64 1)) fun v58 =>
 N1 v53 v58 H5))
 (loadV tab 48 v14 H4 fun v55 =>
 buildSliceV tab 28 1 [(0, v55)] H4 (wkK fun v56 H6 =>
 appendV tab 28 28 v12 v56 H6 (wkK fun v57 H7 =>
 binV tab .add 3 v40 (AV.p (.int .i64 1)) fun v58 =>
 N1 v57 v58 H7))))
 (CallT Try.prog 33 [v0, v1, v12] H fun v62 H8 =>
 extractV v62 0 fun v63 =>
 extractV v62 1 fun v64 =>
 K (.tup [v63, v64]) H8)
def B40_0 (K : AV → Heap → Prop) (N1 : AV → Heap → Prop) (v0 : AV) (v1 : AV) (v2 : AV) (v3 : AV) (v26 : AV) (v27 : AV) (v28 : AV) (H : Heap) : Prop :=
 binV tab .lss 3 v28 v27 fun v29 =>
 condV v29 (indexAddrV tab 67 v26 v28 fun v30 =>
 loadV tab 28 v30 H fun v31 =>
 CallT Try.prog 53 [v0, v1, v31] H fun v35 H2 =>
 binV tab .neq 3 v35 (AV.p (.int .i64 1)) fun v36 =>
 condV v36 (K (.tup [(AV.p .nil), (AV.p (.bool false))]) H2)
 (binV tab .add 3 v28 (AV.p (.int .i64 1)) fun v37 =>
 N1 v37 H2))
 (lenV tab 28 v2 fun v39 =>
 L40_1 K v0 v1 v3 (AV.p .nil) v2 v39 (AV.p (.int .i64 0)) H)
def W40 (v0 : AV) (v1 : AV) (v2 : AV) (v3 : AV) (H : Heap) (K : AV → Heap → Prop) : Prop :=
 CallT Try.prog 48 [v0, v1, v2] H fun v18 H1 =>
 unV .not v18 fun v19 =>
 grdV v19 false (lenV tab 67 v3 fun v22 =>
 binV tab .neq 3 v22 v1 fun v24 =>
 condV v24 (K (.tup [(AV.p .nil), (AV.p (.bool false))]) H1)
 (lenV tab 67 v3 fun v27 =>
 L40_0 K v0 v1 v2 v3 v3 v27 (AV.p (.int .i64 0)) H1))
 (K (.tup [(AV.p .nil), (AV.p (.bool false))]) H1)
theorem W40_wp (v0 : AV) (v1 : AV) (v2 : AV) (v3 : AV) (H : Heap) (K : AV → Heap → Prop) : wpC Try.prog tab D40 (bodyOf Try.f40) (retF tab [.tmp 8, .tmp 9] K) (nthA [v0, v1, v2, v3]) H = W40 v0 v1 v2 v3 H K := by kernel_rfl
theorem W40_ok {v0 v1 v2 v3 : AV} {H : Heap} {K : AV → Heap → Prop} (h : W40 v0 v1 v2 v3 H K) : CallT Try.prog 40 [v0, v1, v2, v3] H K :=
  CallT.of_wp (D := D40) tab_ok mixed Try.func40 (c := bodyOf Try.f40) (by kernel_rfl) rfl (by kernel_rfl) (rs := #[.tmp 8, .tmp 9]) rfl (by decide +kernel) (by kernel_rfl) (W40_wp v0 v1 v2 v3 H K) h
theorem W40_hb : HasBody Try.prog 40 := ⟨_, bodyOf Try.f40, Try.func40, by kernel_rfl, rfl⟩
theorem L40_1_rule {K : AV → Heap → Prop} {v0 v1 v3 v12 v38 v39 v40 : AV} {H : Heap} {σ : Type} (s0 : σ) (f12 : σ → AV) (f40 : σ → AV) (TH : σ → Heap) (pre : σ → Prop) (μ : σ → Nat)
    (h0 : pre s0 ∧ AV.wk v12 (f12 s0) ∧ AV.wk v40 (f40 s0) ∧ Heap.le (TH s0) H)
    (round : ∀ s, pre s → B40_1 K (fun w12 w40 H' => ∃ s', pre s' ∧ μ s' < μ s ∧ AV.wk w12 (f12 s') ∧ AV.wk w40 (f40 s') ∧ Heap.le (TH s') H') v0 v1 v3 (f12 s) v38 v39 (f40 s) (TH s)) :
    L40_1 K v0 v1 v3 v12 v38 v39 v40 H := by
  unfold L40_1
  exact LoopV.mk s0 (fun s => [f12 s, f40 s]) TH pre μ (fun _ => rfl) (Eq.mp (by kernel_rfl) h0) (fun s hs => Eq.mp (by kernel_rfl) (round s hs))
theorem L40_1_ruleG {K : AV → Heap → Prop} {v0 v1 v3 v12 v38 v39 v40 : AV} {H : Heap} {σ : Type} (s0 : σ) (f12 : σ → AV) (f40 : σ → AV) (TH : σ → Heap) (pre : σ → Prop) (μ : σ → Nat)
    (h0 : pre s0 ∧ AV.wk v12 (f12 s0) ∧ AV.wk v40 (f40 s0) ∧ Heap.le (TH s0) H)
    (round : ∀ s, pre s → ∀ q, TH s q = none → B40_1 K (fun w12 w40 H' => ∃ s', pre s' ∧ μ s' < μ s ∧ AV.wk w12 (f12 s') ∧ AV.wk w40 (f40 s') ∧ Heap.le (TH s') H') v0 v1 v3 (f12 s) v38 v39 (f40 s) ((TH s).set q [])) :
    L40_1 K v0 v1 v3 v12 v38 v39 v40 H := by
  unfold L40_1
  exact LoopV.mkG s0 (fun s => [f12 s, f40 s]) TH pre μ (fun _ => rfl) (Eq.mp (by kernel_rfl) h0) (fun s hs q hq => Eq.mp (by kernel_rfl) (round s hs q hq))
theorem L40_0_rule {K : AV → Heap → Prop} {v0 v1 v2 v3 v26 v27 v28 : AV} {H : Heap} {σ : Type} (s0 : σ) (f28 : σ → AV) (TH : σ → Heap) (pre : σ → Prop) (μ : σ → Nat)
    (h0 : pre s0 ∧ AV.wk v28 (f28 s0) ∧ Heap.le (TH s0) H)
    (round : ∀ s, pre s → B40_0 K (fun w28 H' => ∃ s', pre s' ∧ μ s' < μ s ∧ AV.wk w28 (f28 s') ∧ Heap.le (TH s') H') v0 v1 v2 v3 v26 v27 (f28 s) (TH s)) :
    L40_0 K v0 v1 v2 v3 v26 v27 v28 H := by
  unfold L40_0
  exact LoopV.mk s0 (fun s => [f28 s]) TH pre μ (fun _ => rfl) (Eq.mp (by kernel_rfl) h0) (fun s hs => Eq.mp (by kernel_rfl) (round s hs))
theorem L40_0_ruleG {K : AV → Heap → Prop} {v0 v1 v2 v3 v26 v27 v28 : AV} {H : Heap} {σ : Type} (s0 : σ) (f28 : σ → AV) (TH : σ → Heap) (pre : σ → Prop) (μ : σ → Nat)
    (h0 : pre s0 ∧ AV.wk v28 (f28 s0) ∧ Heap.le (TH s0) H)
    (round : ∀ s, pre s → ∀ q, TH s q = none → B40_0 K (fun w28 H' => ∃ s', pre s' ∧ μ s' < μ s ∧ AV.wk w28 (f28 s') ∧ Heap.le (TH s') H') v0 v1 v2 v3 v26 v27 (f28 s) ((TH s).set q [])) :
    L40_0 K v0 v1 v2 v3 v26 v27 v28 H := by
  unfold L40_0
  exact LoopV.mkG s0 (fun s => [f28 s]) TH pre μ (fun _ => rfl) (Eq.mp (by kernel_rfl) h0) (fun s hs q hq => Eq.mp (by kernel_rfl) (round s hs q hq))
/-- loop.example/g00649/laws.toCommand -/
def D41 : Info := ⟨13, fun i => ([], []), fun i => ([], [])⟩
def W41 (v0 : AV) (H : Heap) (K : AV → Heap → Prop) : Prop :=
 boxV v0 H fun v1 H1 =>
 allocV tab 57 H1 fun v2 H2 =>
 allocV tab 57 H2 fun v3 H3 =>
 fieldAddrV tab 63 v1 0 fun v4 =>
 loadV tab 22 v4 H3 fun v5 =>
 CallT Try.prog 10 [v5] H3 fun v6 H4 =>
 fieldAddrV tab 57 v3 0 fun v7 =>
 storeV tab 28 v7 v6 H4 fun H5 =>
 fieldAddrV tab 63 v1 1 fun v8 =>
 loadV tab 61 v8 H5 fun v9 =>
 CallT Try.prog 54 [v9] H5 fun v10 H6 =>
 fieldAddrV tab 57 v3 1 fun v11 =>
 storeV tab 55 v11 v10 H6 fun H7 =>
 loadV tab 57 v3 H7 fun v12 =>
 storeV tab 57 v2 v12 H7 fun H8 =>
 loadV tab 57 v2 H8 fun r0 =>
 K r0 H8
theorem W41_wp (v0 : AV) (H : Heap) (K : AV → Heap → Prop) : wpC Try.prog tab D41 (bodyOf Try.f41) (retF tab [.cell 2 57] K) (nthA [v0]) H = W41 v0 H K := by kernel_rfl
theorem W41_ok {v0 : AV} {H : Heap} {K : AV → Heap → Prop} (h : W41 v0 H K) : CallT Try.prog 41 [v0] H K :=
  CallT.of_wp (D := D41) tab_ok mixed Try.func41 (c := bodyOf Try.f41) (by kernel_rfl) rfl (by kernel_rfl) (rs := #[.cell 2 57]) rfl (by decide +kernel) (by kernel_rfl) (W41_wp v0 H K) h
theorem W41_hb : HasBody Try.prog 41 := ⟨_, bodyOf Try.f41, Try.func41, by kernel_rfl, rfl⟩
/-- loop.example/g00649/impl.GoodProgram -/
def D42 : Info := ⟨37, fun i => ([], []), fun i => ([], [])⟩
def W42 (v0 : AV) (H : Heap) (K : AV → Heap → Prop) : Prop :=
 boxV v0 H fun v1 H1 =>
 fieldAddrV tab 33 v1 0 fun v3 =>
 loadV tab 3 v3 H1 fun v4 =>
 CallT Try.prog 55 [v4] H1 fun v5 H2 =>
 unV .not v5 fun v6 =>
 grdV v6 false (fieldAddrV tab 33 v1 1 fun v8 =>
 loadV tab 3 v8 H2 fun v9 =>
 CallT Try.prog 56 [v9] H2 fun v10 H3 =>
 unV .not v10 fun v11 =>
 grdV v11 false (loadV tab 33 v1 H3 fun v14 =>
 fieldAddrV tab 33 v1 2 fun v15 =>
 loadV tab 28 v15 H3 fun v16 =>
 CallT Try.prog 44 [v14, v16] H3 fun v17 H4 =>
 unV .not v17 fun v18 =>
 grdV v18 false (fieldAddrV tab 33 v1 3 fun v21 =>
 loadV tab 31 v21 H4 fun v22 =>
 lenV tab 31 v22 fun v23 =>
 binV tab .lss 3 v23 (AV.p (.int .i64 1)) fun v24 =>
 grdV v24 false (fieldAddrV tab 33 v1 3 fun v27 =>
 loadV tab 31 v27 H4 fun v28 =>
 lenV tab 31 v28 fun v29 =>
 binV tab .gtr 3 v29 (AV.p (.int .i64 6)) fun v30 =>
 condV v30 (K (AV.p (.bool false)) H4)
 (fieldAddrV tab 33 v1 3 fun v32 =>
 loadV tab 31 v32 H4 fun v33 =>
 CallT Try.prog 57 [v33, (.fn 58 [v1])] H4 fun v35 H5 =>
 unV .not v35 fun v36 =>
 K v36 H5))
 (K (AV.p (.bool false)) H4))
 (K (AV.p (.bool false)) H4))
 (K (AV.p (.bool false)) H3))
 (K (AV.p (.bool false)) H2)
theorem W42_wp (v0 : AV) (H : Heap) (K : AV → Heap → Prop) : wpC Try.prog tab D42 (bodyOf Try.f42) (retF tab [.tmp 2] K) (nthA [v0]) H = W42 v0 H K := by kernel_rfl
theorem W42_ok {v0 : AV} {H : Heap} {K : AV → Heap → Prop} (h : W42 v0 H K) : CallT Try.prog 42 [v0] H K :=
  CallT.of_wp (D := D42) tab_ok mixed Try.func42 (c := bodyOf Try.f42) (by kernel_rfl) rfl (by kernel_rfl) (rs := #[.tmp 2]) rfl (by decide +kernel) (by kernel_rfl) (W42_wp v0 H K) h
theorem W42_hb : HasBody Try.prog 42 := ⟨_, bodyOf Try.f42, Try.func42, by kernel_rfl, rfl⟩
/-- (loop.example/g00649/impl.Program).isCommandNo -/
def D43 : Info := ⟨14, fun i => ([], []), fun i => ([], [])⟩
def W43 (v0 : AV) (v1 : AV) (H : Heap) (K : AV → Heap → Prop) : Prop :=
 boxV v0 H fun v2 H1 =>
 binV tab .geq 3 v1 (AV.p (.int .i64 0)) fun v6 =>
 grdV v6 true (fieldAddrV tab 33 v2 3 fun v9 =>
 loadV tab 31 v9 H1 fun v10 =>
 lenV tab 31 v10 fun v11 =>
 binV tab .lss 3 v1 v11 fun v12 =>
 K v12 H1)
 (K (AV.p (.bool false)) H1)
theorem W43_wp (v0 : AV) (v1 : AV) (H : Heap) (K : AV → Heap → Prop) : wpC Try.prog tab D43 (bodyOf Try.f43) (retF tab [.tmp 4] K) (nthA [v0, v1]) H = W43 v0 v1 H K := by kernel_rfl
theorem W43_ok {v0 v1 : AV} {H : Heap} {K : AV → Heap → Prop} (h : W43 v0 v1 H K) : CallT Try.prog 43 [v0, v1] H K :=
  CallT.of_wp (D := D43) tab_ok mixed Try.func43 (c := bodyOf Try.f43) (by kernel_rfl) rfl (by kernel_rfl) (rs := #[.tmp 4]) rfl (by decide +kernel) (by kernel_rfl) (W43_wp v0 v1 H K) h
theorem W43_hb : HasBody Try.prog 43 := ⟨_, bodyOf Try.f43, Try.func43, by kernel_rfl, rfl⟩
/-- (loop.example/g00649/impl.Program).isCondition -/
def D44 : Info := ⟨11, fun i => ([], []), fun i => ([], [])⟩
def W44 (v0 : AV) (v1 : AV) (H : Heap) (K : AV → Heap → Prop) : Prop :=
 boxV v0 H fun v2 H1 =>
 fieldAddrV tab 33 v2 0 fun v5 =>
 loadV tab 3 v5 H1 fun v6 =>
 fieldAddrV tab 33 v2 1 fun v7 =>
 loadV tab 3 v7 H1 fun v8 =>
 CallT Try.prog 60 [v6, v8, v1, (AV.p (.int .i64 2))] H1 fun v10 H2 =>
 K v10 H2
theorem W44_wp (v0 : AV) (v1 : AV) (H : Heap) (K : AV → Heap → Prop) : wpC Try.prog tab D44 (bodyOf Try.f44) (retF tab [.tmp 4] K) (nthA [v0, v1]) H = W44 v0 v1 H K := by kernel_rfl
theorem W44_ok {v0 v1 : AV} {H : Heap} {K : AV → Heap → Prop} (h : W44 v0 v1 H K) : CallT Try.prog 44 [v0, v1] H K :=
  CallT.of_wp (D := D44) tab_ok mixed Try.func44 (c := bodyOf Try.f44) (by kernel_rfl) rfl (by kernel_rfl) (rs := #[.tmp 4]) rfl (by decide +kernel) (by kernel_rfl) (W44_wp v0 v1 H K) h
theorem W44_hb : HasBody Try.prog 44 := ⟨_, bodyOf Try.f44, Try.func44, by kernel_rfl, rfl⟩
/-- loop.example/g00649/impl.PutAll -/
def D45 : Info := ⟨57, fun i => ([], []), fun i => if i = 5 then ([3, 4, 5, 30, 31], [10, 32]) else ([], [])⟩
def L45_0 (K : AV → Heap → Prop) (v3 : AV) (v4 : AV) (v5 : AV) (v10 : AV) (v30 : AV) (v31 : AV) (v32 : AV) (H : Heap) : Prop := LoopV (wpC Try.prog tab D45 (cAt [1, 1, 1, 0, 1, 0, 0] (bodyOf Try.f45))) [3, 4, 5, 30, 31] (PostF.block 0 (PostF.thenA (wpC Try.prog tab D45 (cAt [1, 1, 1, 1] (bodyOf Try.f45))) (retF tab [.tmp 8, .tmp 9] K))) [10, 32] [AV.any, AV.any, AV.any, v3, v4, v5, AV.any, AV.any, AV.any, AV.any, v10, AV.any, AV.any, AV.any, AV.any, AV.any, AV.any, AV.any, AV.any, AV.any, AV.any, AV.any, AV.any, AV.any, AV.any, AV.any, AV.any, AV.any, AV.any, AV.any, v30, v31, v32, AV.any, AV.any, AV.any, AV.any, AV.any, AV.any, AV.any, AV.any, AV.any, AV.any, AV.any, AV.any, AV.any, AV.any, AV.any, AV.any, AV.any, AV.any, AV.any, AV.any, AV.any, AV.any, AV.any, AV.any] H
def B45_0 (K : AV → Heap → Prop) (N1 : AV → AV → Heap → Prop) (v3 : AV) (v4 : AV) (v5 : AV) (v10 : AV) (v30 : AV) (v31 : AV) (v32 : AV) (H : Heap) : Prop :=
 binV tab .lss 3 v32 v31 fun v33 =>
 condV v33 (indexAddrV tab 28 v30 v32 fun v34 =>
 loadV tab 48 v34 H fun v35 =>
 allocV tab 48 H fun v12 H6 =>
 storeV tab 48 v12 v35 H6 fun H7 =>
 fieldAddrV tab 48 v12 0 fun v36 =>
 loadV tab 3 v36 H7 fun v37 =>
 binV tab .eql 3 v37 (AV.p (.int .i64 2)) fun v38 =>
 condV v38 (fieldAddrV tab 48 v12 1 fun v41 =>
 loadV tab 46 v41 H7 fun v42 =>
 indexAddrV tab 67 v3 v42 fun v43 =>
 loadV tab 28 v43 H7 fun v44 =>
 appendV tab 28 28 v10 v44 H7 (wkK fun v45 H8 =>
 binV tab .add 3 v32 (AV.p (.int .i64 1)) fun v50 =>
 N1 v45 v50 H8))
 (loadV tab 48 v12 H7 fun v47 =>
 buildSliceV tab 28 1 [(0, v47)] H7 (wkK fun v48 H9 =>
 appendV tab 28 28 v10 v48 H9 (wkK fun v49 H10 =>
 binV tab .add 3 v32 (AV.p (.int .i64 1)) fun v50 =>
 N1 v49 v50 H10))))
 (loadV tab 3 v4 H fun v51 =>
 loadV tab 3 v5 H fun v52 =>
 CallT Try.prog 34 [v51, v52, v10] H fun v54 H11 =>
 extractV v54 0 fun v55 =>
 extractV v54 1 fun v56 =>
 K (.tup [v55, v56]) H11)
def W45 (v0 : AV) (v1 : AV) (v2 : AV) (v3 : AV) (H : Heap) (K : AV → Heap → Prop) : Prop :=
 boxV v0 H fun v4 H1 =>
 boxV v1 H1 fun v5 H2 =>
 loadV tab 3 v4 H2 fun v13 =>
 loadV tab 3 v5 H2 fun v14 =>
 CallT Try.prog 49 [v13, v14, v2] H2 fun v16 H3 =>
 unV .not v16 fun v17 =>
 grdV v17 false (lenV tab 67 v3 fun v20 =>
 loadV tab 3 v5 H3 fun v21 =>
 binV tab .neq 3 v20 v21 fun v22 =>
 grdV v22 false (CallT Try.prog 61 [v3, (.fn 62 [v4, v5])] H3 fun v27 H4 =>
 condV v27 (K (.tup [(AV.p .nil), (AV.p (.bool false))]) H4)
 (buildSliceV tab 28 0 [] H4 (wkK fun v29 H5 =>
 lenV tab 28 v2 fun v31 =>
 L45_0 K v3 v4 v5 v29 v2 v31 (AV.p (.int .i64 0)) H5)))
 (K (.tup [(AV.p .nil), (AV.p (.bool false))]) H3))
 (K (.tup [(AV.p .nil), (AV.p (.bool false))]) H3)
theorem W45_wp (v0 : AV) (v1 : AV) (v2 : AV) (v3 : AV) (H : Heap) (K : AV → Heap → Prop) : wpC Try.prog tab D45 (bodyOf Try.f45) (retF tab [.tmp 8, .tmp 9] K) (nthA [v0, v1, v2, v3]) H = W45 v0 v1 v2 v3 H K := by kernel_rfl
theorem W45_ok {v0 v1 v2 v3 : AV} {H : Heap} {K : AV → Heap → Prop} (h : W45 v0 v1 v2 v3 H K) : CallT Try.prog 45 [v0, v1, v2, v3] H K :=
  CallT.of_wp (D := D45) tab_ok mixed Try.func45 (c := bodyOf Try.f45) (by kernel_rfl) rfl (by kernel_rfl) (rs := #[.tmp 8, .tmp 9]) rfl (by decide +kernel) (by kernel_rfl) (W45_wp v0 v1 v2 v3 H K) h
theorem W45_hb : HasBody Try.prog 45 := ⟨_, bodyOf Try.f45, Try.func45, by kernel_rfl, rfl⟩
theorem L45_0_rule {K : AV → Heap → Prop} {v3 v4 v5 v10 v30 v31 v32 : AV} {H : Heap} {σ : Type} (s0 : σ) (f10 : σ → AV) (f32 : σ → AV) (TH : σ → Heap) (pre : σ → Prop) (μ : σ → Nat)
    (h0 : pre s0 ∧ AV.wk v10 (f10 s0) ∧ AV.wk v32 (f32 s0) ∧ Heap.le (TH s0) H)
    (round : ∀ s, pre s → B45_0 K (fun w10 w32 H' => ∃ s', pre s' ∧ μ s' < μ s ∧ AV.wk w10 (f10 s') ∧ AV.wk w32 (f32 s') ∧ Heap.le (TH s') H') v3 v4 v5 (f10 s) v30 v31 (f32 s) (TH s)) :
    L45_0 K v3 v4 v5 v10 v30 v31 v32 H := by
  unfold L45_0
  exact LoopV.mk s0 (fun s => [f10 s, f32 s]) TH pre μ (fun _ => rfl) (Eq.mp (by kernel_rfl) h0) (fun s hs => Eq.mp (by kernel_rfl) (round s hs))
theorem L45_0_ruleG {K : AV → Heap → Prop} {v3 v4 v5 v10 v30 v31 v32 : AV} {H : Heap} {σ : Type} (s0 : σ) (f10 : σ → AV) (f32 : σ → AV) (TH : σ → Heap) (pre : σ → Prop) (μ : σ → Nat)
    (h0 : pre s0 ∧ AV.wk v10 (f10 s0) ∧ AV.wk v32 (f32 s0) ∧ Heap.le (TH s0) H)
    (round : ∀ s, pre s → ∀ q, TH s q = none → B45_0 K (fun w10 w32 H' => ∃ s', pre s' ∧ μ s' < μ s ∧ AV.wk w10 (f10 s') ∧ AV.wk w32 (f32 s') ∧ Heap.le (TH s') H') v3 v4 v5 (f10 s) v30 v31 (f32 s) ((TH s).set q [])) :
    L45_0 K v3 v4 v5 v10 v30 v31 v32 H := by
  unfold L45_0
  exact LoopV.mkG s0 (fun s => [f10 s, f32 s]) TH pre μ (fun _ => rfl) (Eq.mp (by kernel_rfl) h0) (fun s hs q hq => Eq.mp (by kernel_rfl) (round s hs q hq))
/-- loop.example/g00649/laws.eqCommand -/
def D46 : Info := ⟨17, fun i => ([], []), fun i => ([], [])⟩
def W46 (v0 : AV) (v1 : AV) (H : Heap) (K : AV → Heap → Prop) : Prop :=
 boxV v0 H fun v2 H1 =>
 boxV v1 H1 fun v3 H2 =>
 fieldAddrV tab 57 v2 0 fun v5 =>
 loadV tab 28 v5 H2 fun v6 =>
 fieldAddrV tab 57 v3 0 fun v7 =>
 loadV tab 28 v7 H2 fun v8 =>
 CallT Try.prog 12 [v6, v8] H2 fun v9 H3 =>
 unV .not v9 fun v10 =>
 condV v10 (K (AV.p (.bool false)) H3)
 (fieldAddrV tab 57 v2 1 fun v11 =>
 loadV tab 55 v11 H3 fun v12 =>
 fieldAddrV tab 57 v3 1 fun v13 =>
 loadV tab 55 v13 H3 fun v14 =>
 CallT Try.prog 63 [v12, v14] H3 fun v15 H4 =>
 unV .not v15 fun v16 =>
 condV v16 (K (AV.p (.bool false)) H4)
 (K (AV.p (.bool true)) H4))
theorem W46_wp (v0 : AV) (v1 : AV) (H : Heap) (K : AV → Heap → Prop) : wpC Try.prog tab D46 (bodyOf Try.f46) (retF tab [.tmp 4] K) (nthA [v0, v1]) H = W46 v0 v1 H K := by kernel_rfl
theorem W46_ok {v0 v1 : AV} {H : Heap} {K : AV → Heap → Prop} (h : W46 v0 v1 H K) : CallT Try.prog 46 [v0, v1] H K :=
  CallT.of_wp (D := D46) tab_ok mixed Try.func46 (c := bodyOf Try.f46) (by kernel_rfl) rfl (by kernel_rfl) (rs := #[.tmp 4]) rfl (by decide +kernel) (by kernel_rfl) (W46_wp v0 v1 H K) h
theorem W46_hb : HasBody Try.prog 46 := ⟨_, bodyOf Try.f46, Try.func46, by kernel_rfl, rfl⟩
end Go.Proofs.Ytlcnoflmlonikaa
