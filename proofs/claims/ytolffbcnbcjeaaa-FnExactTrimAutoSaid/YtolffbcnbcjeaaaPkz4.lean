/- Texts laid together: W2 W3 W4 W5. -/
import Derived.Test.YtolffbcnbcjeaaaPkz3
import Derived.KernelRfl
set_option linter.unusedVariables false
set_option linter.unusedSimpArgs false
open Nat renaming reduceAdd → ν1, reduceLeDiff → ν2, reduceLT → ν3, reduceMul → ν4, reduceSub → ν5
open Int renaming reduceToNat → ι1, reduceSub → ι2, reduceAdd → ι3, reduceNeg → ι4
open Array renaming toList → ι5
open Ne renaming symm → ν6
open List renaming forall_mem_cons → ν7
namespace Go.Proofs.Ytolffbcnbcjeaaa
open Go Go.Sep
attribute [local irreducible] wpC headF
def D25 : Info := ⟨30, fun i => if i = 5 then ([[], [], [1], [], [], [4], [3, 4, 5], [3, 4, 5, 6], [], [8], [3, 4, 5, 6, 7, 8, 9], [0, 1, 2, 3, 4, 5, 6, 7, 8, 9, 10], [0, 1, 2, 3, 4, 5, 6, 7, 8, 9, 10, 11]], [(0, []), (1, []), (2, []), (3, []), (4, []), (5, []), (6, []), (7, []), (8, []), (9, []), (10, [2]), (11, []), (12, [])]) else ([], []), fun i => if i = 3 then ([3, 10, 11], [12]) else ([], [])⟩
def L25_0 (K : AV → Heap → Prop) (v3 : AV) (v10 : AV) (v11 : AV) (v12 : AV) (H : Heap) : Prop := LoopV (wpC Try.prog tab D25 (cAt [1, 1, 0, 1, 0, 0] (bodyOf Try.f25))) [3, 10, 11] (PostF.block 0 (PostF.thenA (wpC Try.prog tab D25 (cAt [1, 1, 1] (bodyOf Try.f25))) (retF tab [.tmp 2] K))) [12] [AV.any, AV.any, AV.any, v3, AV.any, AV.any, AV.any, AV.any, AV.any, AV.any, v10, v11, v12, AV.any, AV.any, AV.any, AV.any, AV.any, AV.any, AV.any, AV.any, AV.any, AV.any, AV.any, AV.any, AV.any, AV.any, AV.any, AV.any, AV.any] H
def B25_0 (K : AV → Heap → Prop) (N1 : AV → Heap → Prop) (v3 : AV) (v10 : AV) (v11 : AV) (v12 : AV) (H : Heap) : Prop :=
 binV tab .lss 3 v12 v11 fun v13 =>
 condV v13 (indexAddrV tab 30 v10 v12 fun v14 =>
 loadV tab 65 v14 H fun v15 =>
 allocV tab 65 H fun v5 H3 =>
 storeV tab 65 v5 v15 H3 fun H4 =>
 fieldAddrV tab 65 v5 0 fun v17 =>
 loadV tab 3 v17 H4 fun v18 =>
 fieldAddrV tab 65 v5 0 fun v20 =>
 loadV tab 3 v20 H4 fun v21 =>
 indexAddrV tab 24 v3 v21 fun v22 =>
 loadV tab 22 v22 H4 fun v23 =>
 fieldAddrV tab 65 v5 2 fun v24 =>
 loadV tab 3 v24 H4 fun v25 =>
 CallT Try.prog 63 [v23, v25] H4 fun v26 H5 =>
 (loadV tab 3 v17 H5 fun v9018 =>
 v18 = v9018) ∧
 indexAddrV tab 24 v3 v18 fun v27 =>
 storeV tab 22 v27 v26 H5 fun H6 =>
 binV tab .add 3 v12 (AV.p (.int .i64 1)) fun v28 =>
 N1 v28 H6)
 (K v3 H)
def W25 (v0 : AV) (H : Heap) (K : AV → Heap → Prop) : Prop :=
 boxV v0 H fun v1 H1 =>
 fieldAddrV tab 32 v1 0 fun v6 =>
 loadV tab 3 v6 H1 fun v7 =>
 makeSliceV tab 24 v7 v7 H1 fun v8 H2 =>
 fieldAddrV tab 32 v1 2 fun v9 =>
 loadV tab 30 v9 H2 fun v10 =>
 lenV tab 30 v10 fun v11 =>
 L25_0 K v8 v10 v11 (AV.p (.int .i64 0)) H2
theorem W25_wp (v0 : AV) (H : Heap) (K : AV → Heap → Prop) : wpC Try.prog tab D25 (bodyOf Try.f25) (retF tab [.tmp 2] K) (nthA [v0]) H = W25 v0 H K := by kernel_rfl
theorem W25_ok {v0 : AV} {H : Heap} {K : AV → Heap → Prop} (h : W25 v0 H K) : CallT Try.prog 25 [v0] H K :=
  CallT.of_wp (D := D25) tab_ok mixed Try.func25 (c := bodyOf Try.f25) (by kernel_rfl) rfl (by kernel_rfl) (rs := #[.tmp 2]) rfl (by decide +kernel) (by kernel_rfl) (W25_wp v0 H K) h
theorem L25_0_rule {K : AV → Heap → Prop} {v3 v10 v11 v12 : AV} {H : Heap} {σ : Type} (s0 : σ) (f12 : σ → AV) (TH : σ → Heap) (pre : σ → Prop) (μ : σ → Nat)
    (h0 : pre s0 ∧ AV.wk v12 (f12 s0) ∧ Heap.le (TH s0) H)
    (round : ∀ s, pre s → B25_0 K (fun w12 H' => ∃ s', pre s' ∧ μ s' < μ s ∧ AV.wk w12 (f12 s') ∧ Heap.le (TH s') H') v3 v10 v11 (f12 s) (TH s)) :
    L25_0 K v3 v10 v11 v12 H := by
  unfold L25_0
  exact LoopV.mk s0 (fun s => [f12 s]) TH pre μ (fun _ => rfl) (Eq.mp (by kernel_rfl) h0) (fun s hs => Eq.mp (by kernel_rfl) (round s hs))
def D26 : Info := ⟨22, fun i => ([], []), fun i => if i = 3 then ([0, 3], [4]) else ([], [])⟩
def L26_0 (K : AV → Heap → Prop) (v0 : AV) (v3 : AV) (v4 : AV) (H : Heap) : Prop := LoopV (wpC Try.prog tab D26 (cAt [1, 1, 0, 1, 0, 0] (bodyOf Try.f26))) [0, 3] (PostF.block 0 (PostF.thenA (wpC Try.prog tab D26 (cAt [1, 1, 1] (bodyOf Try.f26))) (retF tab [.tmp 2] K))) [4] [v0, AV.any, AV.any, v3, v4, AV.any, AV.any, AV.any, AV.any, AV.any, AV.any, AV.any, AV.any, AV.any, AV.any, AV.any, AV.any, AV.any, AV.any, AV.any, AV.any, AV.any] H
def B26_0 (K : AV → Heap → Prop) (N1 : AV → Heap → Prop) (v0 : AV) (v3 : AV) (v4 : AV) (H : Heap) : Prop :=
 lenV tab 22 v0 fun v10 =>
 binV tab .lss 3 v4 v10 fun v11 =>
 condV v11 (indexAddrV tab 22 v0 v4 fun v18 =>
 loadV tab 3 v18 H fun v19 =>
 indexAddrV tab 22 v3 v4 fun v20 =>
 storeV tab 3 v20 v19 H fun H2 =>
 binV tab .add 3 v4 (AV.p (.int .i64 1)) fun v13 =>
 N1 v13 H2)
 (K v3 H)
def W26 (v0 : AV) (H : Heap) (K : AV → Heap → Prop) : Prop :=
 lenV tab 22 v0 fun v6 =>
 makeSliceV tab 22 v6 v6 H fun v7 H1 =>
 L26_0 K v0 v7 (AV.p (.int .i64 0)) H1
theorem W26_wp (v0 : AV) (H : Heap) (K : AV → Heap → Prop) : wpC Try.prog tab D26 (bodyOf Try.f26) (retF tab [.tmp 2] K) (nthA [v0]) H = W26 v0 H K := by kernel_rfl
theorem W26_ok {v0 : AV} {H : Heap} {K : AV → Heap → Prop} (h : W26 v0 H K) : CallT Try.prog 26 [v0] H K :=
  CallT.of_wp (D := D26) tab_ok mixed Try.func26 (c := bodyOf Try.f26) (by kernel_rfl) rfl (by kernel_rfl) (rs := #[.tmp 2]) rfl (by decide +kernel) (by kernel_rfl) (W26_wp v0 H K) h
theorem L26_0_rule {K : AV → Heap → Prop} {v0 v3 v4 : AV} {H : Heap} {σ : Type} (s0 : σ) (f4 : σ → AV) (TH : σ → Heap) (pre : σ → Prop) (μ : σ → Nat)
    (h0 : pre s0 ∧ AV.wk v4 (f4 s0) ∧ Heap.le (TH s0) H)
    (round : ∀ s, pre s → B26_0 K (fun w4 H' => ∃ s', pre s' ∧ μ s' < μ s ∧ AV.wk w4 (f4 s') ∧ Heap.le (TH s') H') v0 v3 (f4 s) (TH s)) :
    L26_0 K v0 v3 v4 H := by
  unfold L26_0
  exact LoopV.mk s0 (fun s => [f4 s]) TH pre μ (fun _ => rfl) (Eq.mp (by kernel_rfl) h0) (fun s hs => Eq.mp (by kernel_rfl) (round s hs))
def D27 : Info := ⟨23, fun i => ([], []), fun i => if i = 3 then ([0, 3], [4]) else ([], [])⟩
def L27_0 (K : AV → Heap → Prop) (v0 : AV) (v3 : AV) (v4 : AV) (H : Heap) : Prop := LoopV (wpC Try.prog tab D27 (cAt [1, 1, 0, 1, 0, 0] (bodyOf Try.f27))) [0, 3] (PostF.block 0 (PostF.thenA (wpC Try.prog tab D27 (cAt [1, 1, 1] (bodyOf Try.f27))) (retF tab [.tmp 2] K))) [4] [v0, AV.any, AV.any, v3, v4, AV.any, AV.any, AV.any, AV.any, AV.any, AV.any, AV.any, AV.any, AV.any, AV.any, AV.any, AV.any, AV.any, AV.any, AV.any, AV.any, AV.any, AV.any] H
def B27_0 (K : AV → Heap → Prop) (N1 : AV → Heap → Prop) (v0 : AV) (v3 : AV) (v4 : AV) (H : Heap) : Prop :=
 lenV tab 23 v0 fun v10 =>
 binV tab .lss 3 v4 v10 fun v11 =>
 condV v11 (indexAddrV tab 23 v0 v4 fun v18 =>
 loadV tab 81 v18 H fun v19 =>
 CallT Try.prog 64 [v19] H fun v20 H2 =>
 indexAddrV tab 30 v3 v4 fun v21 =>
 storeV tab 65 v21 v20 H2 fun H3 =>
 binV tab .add 3 v4 (AV.p (.int .i64 1)) fun v13 =>
 N1 v13 H3)
 (K v3 H)
def W27 (v0 : AV) (H : Heap) (K : AV → Heap → Prop) : Prop :=
 lenV tab 23 v0 fun v6 =>
 makeSliceV tab 30 v6 v6 H fun v7 H1 =>
 L27_0 K v0 v7 (AV.p (.int .i64 0)) H1
theorem W27_wp (v0 : AV) (H : Heap) (K : AV → Heap → Prop) : wpC Try.prog tab D27 (bodyOf Try.f27) (retF tab [.tmp 2] K) (nthA [v0]) H = W27 v0 H K := by kernel_rfl
theorem W27_ok {v0 : AV} {H : Heap} {K : AV → Heap → Prop} (h : W27 v0 H K) : CallT Try.prog 27 [v0] H K :=
  CallT.of_wp (D := D27) tab_ok mixed Try.func27 (c := bodyOf Try.f27) (by kernel_rfl) rfl (by kernel_rfl) (rs := #[.tmp 2]) rfl (by decide +kernel) (by kernel_rfl) (W27_wp v0 H K) h
theorem L27_0_rule {K : AV → Heap → Prop} {v0 v3 v4 : AV} {H : Heap} {σ : Type} (s0 : σ) (f4 : σ → AV) (TH : σ → Heap) (pre : σ → Prop) (μ : σ → Nat)
    (h0 : pre s0 ∧ AV.wk v4 (f4 s0) ∧ Heap.le (TH s0) H)
    (round : ∀ s, pre s → B27_0 K (fun w4 H' => ∃ s', pre s' ∧ μ s' < μ s ∧ AV.wk w4 (f4 s') ∧ Heap.le (TH s') H') v0 v3 (f4 s) (TH s)) :
    L27_0 K v0 v3 v4 H := by
  unfold L27_0
  exact LoopV.mk s0 (fun s => [f4 s]) TH pre μ (fun _ => rfl) (Eq.mp (by kernel_rfl) h0) (fun s hs => Eq.mp (by kernel_rfl) (round s hs))
def D28 : Info := ⟨23, fun i => ([], []), fun i => if i = 3 then ([0, 3], [4]) else ([], [])⟩
def L28_0 (K : AV → Heap → Prop) (v0 : AV) (v3 : AV) (v4 : AV) (H : Heap) : Prop := LoopV (wpC Try.prog tab D28 (cAt [1, 1, 0, 1, 0, 0] (bodyOf Try.f28))) [0, 3] (PostF.block 0 (PostF.thenA (wpC Try.prog tab D28 (cAt [1, 1, 1] (bodyOf Try.f28))) (retF tab [.tmp 2] K))) [4] [v0, AV.any, AV.any, v3, v4, AV.any, AV.any, AV.any, AV.any, AV.any, AV.any, AV.any, AV.any, AV.any, AV.any, AV.any, AV.any, AV.any, AV.any, AV.any, AV.any, AV.any, AV.any] H
def B28_0 (K : AV → Heap → Prop) (N1 : AV → Heap → Prop) (v0 : AV) (v3 : AV) (v4 : AV) (H : Heap) : Prop :=
 lenV tab 24 v0 fun v10 =>
 binV tab .lss 3 v4 v10 fun v11 =>
 condV v11 (indexAddrV tab 24 v0 v4 fun v18 =>
 loadV tab 22 v18 H fun v19 =>
 CallT Try.prog 26 [v19] H fun v20 H2 =>
 indexAddrV tab 24 v3 v4 fun v21 =>
 storeV tab 22 v21 v20 H2 fun H3 =>
 binV tab .add 3 v4 (AV.p (.int .i64 1)) fun v13 =>
 N1 v13 H3)
 (K v3 H)
def W28 (v0 : AV) (H : Heap) (K : AV → Heap → Prop) : Prop :=
 lenV tab 24 v0 fun v6 =>
 makeSliceV tab 24 v6 v6 H fun v7 H1 =>
 L28_0 K v0 v7 (AV.p (.int .i64 0)) H1
theorem W28_wp (v0 : AV) (H : Heap) (K : AV → Heap → Prop) : wpC Try.prog tab D28 (bodyOf Try.f28) (retF tab [.tmp 2] K) (nthA [v0]) H = W28 v0 H K := by kernel_rfl
theorem W28_ok {v0 : AV} {H : Heap} {K : AV → Heap → Prop} (h : W28 v0 H K) : CallT Try.prog 28 [v0] H K :=
  CallT.of_wp (D := D28) tab_ok mixed Try.func28 (c := bodyOf Try.f28) (by kernel_rfl) rfl (by kernel_rfl) (rs := #[.tmp 2]) rfl (by decide +kernel) (by kernel_rfl) (W28_wp v0 H K) h
theorem L28_0_rule {K : AV → Heap → Prop} {v0 v3 v4 : AV} {H : Heap} {σ : Type} (s0 : σ) (f4 : σ → AV) (TH : σ → Heap) (pre : σ → Prop) (μ : σ → Nat)
    (h0 : pre s0 ∧ AV.wk v4 (f4 s0) ∧ Heap.le (TH s0) H)
    (round : ∀ s, pre s → B28_0 K (fun w4 H' => ∃ s', pre s' ∧ μ s' < μ s ∧ AV.wk w4 (f4 s') ∧ Heap.le (TH s') H') v0 v3 (f4 s) (TH s)) :
    L28_0 K v0 v3 v4 H := by
  unfold L28_0
  exact LoopV.mk s0 (fun s => [f4 s]) TH pre μ (fun _ => rfl) (Eq.mp (by kernel_rfl) h0) (fun s hs => Eq.mp (by kernel_rfl) (round s hs))
def D29 : Info := ⟨91, fun i => if i = 6 then ([[], [0], [0, 1], [0, 1, 2], [0, 1, 2, 3], [0, 1, 2, 3, 4], [0, 1, 2, 3], [0, 1, 2, 3, 6], [0, 1, 2, 3, 4, 5, 6, 7], [0, 1, 2, 3, 4, 5, 6, 7, 8], [0, 1, 2, 3, 4, 5, 6, 7, 8, 9], [0, 1, 2, 3, 4, 5, 6, 7, 8, 9, 10], [0, 1, 2, 3, 4, 5, 6, 7, 8, 9, 10, 11], [0, 1, 2, 3, 4, 5, 6, 7, 8, 9, 10, 11, 12], [0, 1, 2, 3, 4, 5, 6, 7, 8, 9, 10, 11, 12, 13], [0, 1, 2, 3, 4, 5, 6, 7, 8, 9, 10, 11, 12, 13, 14], [0, 1, 2, 3, 4, 5, 6, 7, 8, 9, 10, 11, 12, 13, 14, 15], [0, 1, 2, 3, 4, 5, 6, 7, 8, 9, 10, 11, 12, 13, 14, 15, 16], [0, 1, 2, 3, 4, 5, 6, 7, 8, 9, 10, 11, 12, 13, 14, 15], [0, 1, 2, 3, 4, 5, 6, 7, 8, 9, 10, 11, 12, 13, 14, 15, 18], [0, 1, 2, 3, 4, 5, 6, 7, 8, 9, 10, 11, 12, 13, 14, 15, 16, 17, 18, 19], [0, 1, 2, 3, 4, 5, 6, 7, 8, 9, 10, 11, 12, 13, 14, 15, 16, 17, 18, 19, 20], [0, 1, 2, 3, 4, 5, 6, 7, 8, 9, 10, 11, 12, 13, 14, 15, 16, 17, 18, 19, 20, 21], [0, 1, 2, 3, 4, 5, 6, 7, 8, 9, 10, 11, 12, 13, 14, 15, 16, 17, 18, 19, 20, 21, 22], [0, 1, 2, 3, 4, 5, 6, 7, 8, 9, 10, 11, 12, 13, 14, 15, 16, 17, 18, 19, 20, 21, 22, 23], [0, 1, 2, 3, 4, 5, 6, 7, 8, 9, 10, 11, 12, 13, 14, 15, 16, 17, 18, 19, 20, 21, 22, 23, 24], [0, 1, 2, 3, 4, 5, 6, 7, 8, 9, 10, 11, 12, 13, 14, 15, 16, 17, 18, 19, 20, 21, 22, 23, 24, 25], [0, 1, 2, 3, 4, 5, 6, 7, 8, 9, 10, 11, 12, 13, 14, 15, 16, 17, 18, 19, 20, 21, 22, 23, 24, 25, 26], [0, 1, 2, 3, 4, 5, 6, 7, 8, 9, 10, 11, 12, 13, 14, 15, 16, 17, 18, 19, 20, 21, 22, 23, 24, 25, 26, 27], [0, 1, 2, 3, 4, 5, 6, 7, 8, 9, 10, 11, 12, 13, 14, 15, 16, 17, 18, 19, 20, 21, 22, 23, 24, 25, 26, 27, 28], [0, 1, 2, 3, 4, 5, 6, 7, 8, 9, 10, 11, 12, 13, 14, 15, 16, 17, 18, 19, 20, 21, 22, 23, 24, 25, 26, 27, 28, 29], [0, 1, 2, 3, 4, 5, 6, 7, 8, 9, 10, 11, 12, 13, 14, 15, 16, 17, 18, 19, 20, 21, 22, 23, 24, 25, 26, 27, 28, 29, 30], [0, 1, 2, 3, 4, 5, 6, 7, 8, 9, 10, 11, 12, 13, 14, 15, 16, 17, 18, 19, 20, 21, 22, 23, 24, 25, 26, 27, 28, 29, 30, 31], [0, 1, 2, 3, 4, 5, 6, 7, 8, 9, 10, 11, 12, 13, 14, 15, 16, 17, 18, 19, 20, 21, 22, 23, 24, 25, 26, 27, 28, 29, 30, 31, 32], [0, 1, 2, 3, 4, 5, 6, 7, 8, 9, 10, 11, 12, 13, 14, 15, 16, 17, 18, 19, 20, 21, 22, 23, 24, 25, 26, 27, 28, 29, 30, 31, 32, 33], [0, 1, 2, 3, 4, 5, 6, 7, 8, 9, 10, 11, 12, 13, 14, 15, 16, 17, 18, 19, 20, 21, 22, 23, 24, 25, 26, 27, 28, 29, 30, 31, 32, 33, 34], [0, 1, 2, 3, 4, 5, 6, 7, 8, 9, 10, 11, 12, 13, 14, 15, 16, 17, 18, 19, 20, 21, 22, 23, 24, 25, 26, 27, 28, 29, 30, 31, 32, 33, 34, 35], [0, 1, 2, 3, 4, 5, 6, 7, 8, 9, 10, 11, 12, 13, 14, 15, 16, 17, 18, 19, 20, 21, 22, 23, 24, 25, 26, 27, 28, 29, 30, 31, 32, 33, 34, 35, 36], [0, 1, 2, 3, 4, 5, 6, 7, 8, 9, 10, 11, 12, 13, 14, 15, 16, 17, 18, 19, 20, 21, 22, 23, 24, 25, 26, 27, 28, 29, 30, 31, 32, 33, 34, 35], [0, 1, 2, 3, 4, 5, 6, 7, 8, 9, 10, 11, 12, 13, 14, 15, 16, 17, 18, 19, 20, 21, 22, 23, 24, 25, 26, 27, 28, 29, 30, 31, 32, 33, 34, 35, 38], [0, 1, 2, 3, 4, 5, 6, 7, 8, 9, 10, 11, 12, 13, 14, 15, 16, 17, 18, 19, 20, 21, 22, 23, 24, 25, 26, 27, 28, 29, 30, 31, 32, 33, 34, 35, 36, 37, 38, 39], [0, 1, 2, 3, 4, 5, 6, 7, 8, 9, 10, 11, 12, 13, 14, 15, 16, 17, 18, 19, 20, 21, 22, 23, 24, 25, 26, 27, 28, 29, 30, 31, 32, 33, 34, 35, 36, 37, 38, 39, 40], [0, 1, 2, 3, 4, 5, 6, 7, 8, 9, 10, 11, 12, 13, 14, 15, 16, 17, 18, 19, 20, 21, 22, 23, 24, 25, 26, 27, 28, 29, 30, 31, 32, 33, 34, 35], [0, 1, 2, 3, 4, 5, 6, 7, 8, 9, 10, 11, 12, 13, 14, 15, 16, 17, 18, 19, 20, 21, 22, 23, 24, 25, 26, 27, 28, 29, 30, 31, 32, 33, 34, 35, 36, 37, 38, 39, 40, 41, 42], [0, 1, 2, 3, 4, 5, 6, 7, 8, 9, 10, 11, 12, 13, 14, 15, 16, 17, 18, 19, 20, 21, 22, 23, 24, 25, 26, 27, 28, 29, 30, 31, 32, 33, 34, 35, 36, 37, 38, 39, 40, 41, 42, 43], [0, 1, 2, 3, 4, 5, 6, 7, 8, 9, 10, 11, 12, 13, 14, 15, 16, 17, 18, 19, 20, 21, 22, 23, 24, 25, 26, 27, 28, 29, 30, 31, 32, 33, 34, 35, 36, 37, 38, 39, 40, 41, 42, 43, 44], [0, 1, 2, 3, 4, 5, 6, 7, 8, 9, 10, 11, 12, 13, 14, 15, 16, 17, 18, 19, 20, 21, 22, 23, 24, 25, 26, 27, 28, 29, 30, 31, 32, 33, 34, 35, 36, 37, 38, 39, 40, 41, 42, 43, 44, 45]], [(0, []), (1, []), (2, []), (3, []), (4, []), (5, []), (6, []), (7, []), (8, []), (9, []), (10, []), (11, []), (12, []), (13, []), (14, []), (15, []), (16, []), (17, []), (18, []), (19, []), (20, []), (21, []), (22, []), (23, []), (24, []), (25, []), (26, []), (27, []), (28, []), (29, []), (30, []), (31, []), (32, []), (33, []), (34, []), (35, []), (36, []), (37, []), (38, []), (39, []), (40, []), (41, []), (42, []), (43, []), (44, []), (45, []), (46, [])]) else ([], []), fun i => if i = 4 then ([1, 36, 37], [38]) else ([], [])⟩
def L29_0 (K : AV → Heap → Prop) (v1 : AV) (v36 : AV) (v37 : AV) (v38 : AV) (H : Heap) : Prop := LoopV (wpC Try.prog tab D29 (cAt [1, 1, 0, 1, 0, 0] (bodyOf Try.f29))) [1, 36, 37] (PostF.block 0 (PostF.thenA (wpC Try.prog tab D29 (cAt [1, 1, 1] (bodyOf Try.f29))) (retF tab [.tmp 2] K))) [38] [AV.any, v1, AV.any, AV.any, AV.any, AV.any, AV.any, AV.any, AV.any, AV.any, AV.any, AV.any, AV.any, AV.any, AV.any, AV.any, AV.any, AV.any, AV.any, AV.any, AV.any, AV.any, AV.any, AV.any, AV.any, AV.any, AV.any, AV.any, AV.any, AV.any, AV.any, AV.any, AV.any, AV.any, AV.any, AV.any, v36, v37, v38, AV.any, AV.any, AV.any, AV.any, AV.any, AV.any, AV.any, AV.any, AV.any, AV.any, AV.any, AV.any, AV.any, AV.any, AV.any, AV.any, AV.any, AV.any, AV.any, AV.any, AV.any, AV.any, AV.any, AV.any, AV.any, AV.any, AV.any, AV.any, AV.any, AV.any, AV.any, AV.any, AV.any, AV.any, AV.any, AV.any, AV.any, AV.any, AV.any, AV.any, AV.any, AV.any, AV.any, AV.any, AV.any, AV.any, AV.any, AV.any, AV.any, AV.any, AV.any, AV.any] H
def B29_0 (K : AV → Heap → Prop) (N1 : AV → Heap → Prop) (v1 : AV) (v36 : AV) (v37 : AV) (v38 : AV) (H : Heap) : Prop :=
 binV tab .lss 3 v38 v37 fun v39 =>
 condV v39 (indexAddrV tab 30 v36 v38 fun v41 =>
 loadV tab 65 v41 H fun v42 =>
 allocV tab 65 H fun v4 H4 =>
 storeV tab 65 v4 v42 H4 fun H5 =>
 fieldAddrV tab 65 v4 0 fun v43 =>
 loadV tab 3 v43 H5 fun v44 =>
 binV tab .lss 3 v44 (AV.p (.int .i64 0)) fun v45 =>
 grdV v45 false (fieldAddrV tab 65 v4 0 fun v47 =>
 loadV tab 3 v47 H5 fun v48 =>
 fieldAddrV tab 32 v1 0 fun v49 =>
 loadV tab 3 v49 H5 fun v50 =>
 binV tab .geq 3 v48 v50 fun v51 =>
 grdV v51 false (fieldAddrV tab 65 v4 2 fun v54 =>
 loadV tab 3 v54 H5 fun v55 =>
 binV tab .lss 3 v55 (AV.p (.int .i64 0)) fun v56 =>
 grdV v56 false (fieldAddrV tab 65 v4 2 fun v59 =>
 loadV tab 3 v59 H5 fun v60 =>
 fieldAddrV tab 32 v1 0 fun v61 =>
 loadV tab 3 v61 H5 fun v62 =>
 binV tab .geq 3 v60 v62 fun v63 =>
 grdV v63 false (fieldAddrV tab 65 v4 1 fun v66 =>
 loadV tab 3 v66 H5 fun v67 =>
 binV tab .lss 3 v67 (AV.p (.int .i64 0)) fun v68 =>
 grdV v68 false (fieldAddrV tab 65 v4 1 fun v71 =>
 loadV tab 3 v71 H5 fun v72 =>
 binV tab .geq 3 v72 (AV.p (.int .i64 8)) fun v73 =>
 grdV v73 false (binV tab .gtr 3 v38 (AV.p (.int .i64 0)) fun v77 =>
 grdV v77 true (fieldAddrV tab 32 v1 2 fun v79 =>
 loadV tab 30 v79 H5 fun v80 =>
 binV tab .sub 3 v38 (AV.p (.int .i64 1)) fun v82 =>
 indexAddrV tab 30 v80 v82 fun v83 =>
 loadV tab 65 v83 H5 fun v84 =>
 loadV tab 65 v4 H5 fun v85 =>
 CallT Try.prog 67 [v84, v85] H5 fun v86 H6 =>
 binV tab .geq 3 v86 (AV.p (.int .i64 0)) fun v87 =>
 condV v87 (K (AV.p (.bool false)) H6)
 (binV tab .add 3 v38 (AV.p (.int .i64 1)) fun v90 =>
 N1 v90 H6))
 (binV tab .add 3 v38 (AV.p (.int .i64 1)) fun v90 =>
 N1 v90 H5))
 (K (AV.p (.bool false)) H5))
 (K (AV.p (.bool false)) H5))
 (K (AV.p (.bool false)) H5))
 (K (AV.p (.bool false)) H5))
 (K (AV.p (.bool false)) H5))
 (K (AV.p (.bool false)) H5))
 (K (AV.p (.bool true)) H)
def W29 (v0 : AV) (H : Heap) (K : AV → Heap → Prop) : Prop :=
 boxV v0 H fun v1 H1 =>
 fieldAddrV tab 32 v1 0 fun v5 =>
 loadV tab 3 v5 H1 fun v6 =>
 binV tab .lss 3 v6 (AV.p (.int .i64 1)) fun v7 =>
 grdV v7 false (fieldAddrV tab 32 v1 0 fun v9 =>
 loadV tab 3 v9 H1 fun v10 =>
 binV tab .gtr 3 v10 (AV.p (.int .i64 96)) fun v11 =>
 grdV v11 false (fieldAddrV tab 32 v1 1 fun v14 =>
 loadV tab 22 v14 H1 fun v15 =>
 fieldAddrV tab 32 v1 0 fun v16 =>
 loadV tab 3 v16 H1 fun v17 =>
 CallT Try.prog 65 [v15, v17] H1 fun v18 H2 =>
 unV .not v18 fun v19 =>
 grdV v19 false (fieldAddrV tab 32 v1 2 fun v22 =>
 loadV tab 30 v22 H2 fun v23 =>
 lenV tab 30 v23 fun v24 =>
 binV tab .gtr 3 v24 (AV.p (.int .i64 2400)) fun v25 =>
 grdV v25 false (fieldAddrV tab 32 v1 3 fun v28 =>
 loadV tab 24 v28 H2 fun v29 =>
 fieldAddrV tab 32 v1 0 fun v30 =>
 loadV tab 3 v30 H2 fun v31 =>
 CallT Try.prog 66 [v29, v31] H2 fun v32 H3 =>
 unV .not v32 fun v33 =>
 condV v33 (K (AV.p (.bool false)) H3)
 (fieldAddrV tab 32 v1 2 fun v35 =>
 loadV tab 30 v35 H3 fun v36 =>
 lenV tab 30 v36 fun v37 =>
 L29_0 K v1 v36 v37 (AV.p (.int .i64 0)) H3))
 (K (AV.p (.bool false)) H2))
 (K (AV.p (.bool false)) H2))
 (K (AV.p (.bool false)) H1))
 (K (AV.p (.bool false)) H1)
theorem W29_wp (v0 : AV) (H : Heap) (K : AV → Heap → Prop) : wpC Try.prog tab D29 (bodyOf Try.f29) (retF tab [.tmp 2] K) (nthA [v0]) H = W29 v0 H K := by kernel_rfl
theorem W29_ok {v0 : AV} {H : Heap} {K : AV → Heap → Prop} (h : W29 v0 H K) : CallT Try.prog 29 [v0] H K :=
  CallT.of_wp (D := D29) tab_ok mixed Try.func29 (c := bodyOf Try.f29) (by kernel_rfl) rfl (by kernel_rfl) (rs := #[.tmp 2]) rfl (by decide +kernel) (by kernel_rfl) (W29_wp v0 H K) h
theorem L29_0_rule {K : AV → Heap → Prop} {v1 v36 v37 v38 : AV} {H : Heap} {σ : Type} (s0 : σ) (f38 : σ → AV) (TH : σ → Heap) (pre : σ → Prop) (μ : σ → Nat)
    (h0 : pre s0 ∧ AV.wk v38 (f38 s0) ∧ Heap.le (TH s0) H)
    (round : ∀ s, pre s → B29_0 K (fun w38 H' => ∃ s', pre s' ∧ μ s' < μ s ∧ AV.wk w38 (f38 s') ∧ Heap.le (TH s') H') v1 v36 v37 (f38 s) (TH s)) :
    L29_0 K v1 v36 v37 v38 H := by
  unfold L29_0
  exact LoopV.mk s0 (fun s => [f38 s]) TH pre μ (fun _ => rfl) (Eq.mp (by kernel_rfl) h0) (fun s hs => Eq.mp (by kernel_rfl) (round s hs))
def D31 : Info := ⟨51, fun i => if i = 5 then ([[], [], [1], [], [], [4], [3, 4, 5], [3, 4, 5, 6], [], [8], [8, 9], [3, 4, 5, 6, 7, 8, 9, 10], [0, 1, 2, 3, 4, 5, 6, 7, 8, 9, 10, 11], [0, 1, 2, 3, 4, 5, 6, 7, 8, 9, 10, 11, 12]], [(0, []), (1, []), (2, []), (3, []), (4, []), (5, []), (6, []), (7, []), (8, []), (9, []), (10, [2, 5, 7]), (11, [2]), (12, []), (13, [])]) else ([], []), fun i => if i = 3 then ([3, 11, 12], [13]) else if i = 8 then ([3, 32], [33]) else ([], [])⟩
def L31_0 (K : AV → Heap → Prop) (v3 : AV) (v11 : AV) (v12 : AV) (v13 : AV) (H : Heap) : Prop := LoopV (wpC Try.prog tab D31 (cAt [1, 1, 0, 1, 0, 0] (bodyOf Try.f31))) [3, 11, 12] (PostF.block 0 (PostF.thenA (wpC Try.prog tab D31 (cAt [1, 1, 1] (bodyOf Try.f31))) (retF tab [.tmp 2] K))) [13] [AV.any, AV.any, AV.any, v3, AV.any, AV.any, AV.any, AV.any, AV.any, AV.any, AV.any, v11, v12, v13, AV.any, AV.any, AV.any, AV.any, AV.any, AV.any, AV.any, AV.any, AV.any, AV.any, AV.any, AV.any, AV.any, AV.any, AV.any, AV.any, AV.any, AV.any, AV.any, AV.any, AV.any, AV.any, AV.any, AV.any, AV.any, AV.any, AV.any, AV.any, AV.any, AV.any, AV.any, AV.any, AV.any, AV.any, AV.any, AV.any, AV.any] H
def L31_1 (K : AV → Heap → Prop) (v3 : AV) (v32 : AV) (v33 : AV) (H : Heap) : Prop := LoopV (wpC Try.prog tab D31 (cAt [1, 1, 1, 0, 1, 0, 0] (bodyOf Try.f31))) [3, 32] (PostF.block 2 (PostF.thenA (wpC Try.prog tab D31 (cAt [1, 1, 1, 1] (bodyOf Try.f31))) (retF tab [.tmp 2] K))) [33] [AV.any, AV.any, AV.any, v3, AV.any, AV.any, AV.any, AV.any, AV.any, AV.any, AV.any, AV.any, AV.any, AV.any, AV.any, AV.any, AV.any, AV.any, AV.any, AV.any, AV.any, AV.any, AV.any, AV.any, AV.any, AV.any, AV.any, AV.any, AV.any, AV.any, AV.any, AV.any, v32, v33, AV.any, AV.any, AV.any, AV.any, AV.any, AV.any, AV.any, AV.any, AV.any, AV.any, AV.any, AV.any, AV.any, AV.any, AV.any, AV.any, AV.any] H
def B31_1 (K : AV → Heap → Prop) (N1 : AV → Heap → Prop) (v3 : AV) (v32 : AV) (v33 : AV) (H : Heap) : Prop :=
 binV tab .lss 3 v33 v32 fun v34 =>
 condV v34 (indexAddrV tab 24 v3 v33 fun v38 =>
 loadV tab 22 v38 H fun v39 =>
 CallT Try.prog 69 [v39] H fun v40 H8 =>
 indexAddrV tab 24 v3 v33 fun v45 =>
 loadV tab 22 v45 H8 fun v46 =>
 CallT Try.prog 70 [v46] H8 fun v47 H9 =>
 indexAddrV tab 24 v3 v33 fun v48 =>
 storeV tab 22 v48 v47 H9 fun H10 =>
 binV tab .add 3 v33 (AV.p (.int .i64 1)) fun v49 =>
 N1 v49 H10)
 (K v3 H)
def B31_0 (K : AV → Heap → Prop) (N1 : AV → Heap → Prop) (v3 : AV) (v11 : AV) (v12 : AV) (v13 : AV) (H : Heap) : Prop :=
 binV tab .lss 3 v13 v12 fun v14 =>
 condV v14 (indexAddrV tab 30 v11 v13 fun v15 =>
 loadV tab 65 v15 H fun v16 =>
 allocV tab 65 H fun v5 H3 =>
 storeV tab 65 v5 v16 H3 fun H4 =>
 fieldAddrV tab 65 v5 0 fun v18 =>
 loadV tab 3 v18 H4 fun v19 =>
 fieldAddrV tab 65 v5 0 fun v21 =>
 loadV tab 3 v21 H4 fun v22 =>
 indexAddrV tab 24 v3 v22 fun v23 =>
 loadV tab 22 v23 H4 fun v24 =>
 fieldAddrV tab 65 v5 2 fun v25 =>
 loadV tab 3 v25 H4 fun v26 =>
 buildSliceV tab 22 1 [(0, v26)] H4 (wkK fun v27 H5 =>
 (loadV tab 3 v18 H5 fun v9019 =>
 v19 = v9019) ∧
 (loadV tab 3 v21 H5 fun v9022 =>
 v22 = v9022) ∧
 (loadV tab 22 v23 H5 fun v9024 =>
 v24 = v9024) ∧
 appendV tab 22 22 v24 v27 H5 (wkK fun v28 H6 =>
 (loadV tab 3 v18 H6 fun v9019 =>
 v19 = v9019) ∧
 indexAddrV tab 24 v3 v19 fun v29 =>
 storeV tab 22 v29 v28 H6 fun H7 =>
 binV tab .add 3 v13 (AV.p (.int .i64 1)) fun v30 =>
 N1 v30 H7)))
 (lenV tab 24 v3 fun v32 =>
 L31_1 K v3 v32 (AV.p (.int .i64 0)) H)
def W31 (v0 : AV) (H : Heap) (K : AV → Heap → Prop) : Prop :=
 boxV v0 H fun v1 H1 =>
 fieldAddrV tab 32 v1 0 fun v7 =>
 loadV tab 3 v7 H1 fun v8 =>
 makeSliceV tab 24 v8 v8 H1 fun v9 H2 =>
 fieldAddrV tab 32 v1 2 fun v10 =>
 loadV tab 30 v10 H2 fun v11 =>
 lenV tab 30 v11 fun v12 =>
 L31_0 K v9 v11 v12 (AV.p (.int .i64 0)) H2
theorem W31_wp (v0 : AV) (H : Heap) (K : AV → Heap → Prop) : wpC Try.prog tab D31 (bodyOf Try.f31) (retF tab [.tmp 2] K) (nthA [v0]) H = W31 v0 H K := by kernel_rfl
theorem W31_ok {v0 : AV} {H : Heap} {K : AV → Heap → Prop} (h : W31 v0 H K) : CallT Try.prog 31 [v0] H K :=
  CallT.of_wp (D := D31) tab_ok mixed Try.func31 (c := bodyOf Try.f31) (by kernel_rfl) rfl (by kernel_rfl) (rs := #[.tmp 2]) rfl (by decide +kernel) (by kernel_rfl) (W31_wp v0 H K) h
theorem L31_1_rule {K : AV → Heap → Prop} {v3 v32 v33 : AV} {H : Heap} {σ : Type} (s0 : σ) (f33 : σ → AV) (TH : σ → Heap) (pre : σ → Prop) (μ : σ → Nat)
    (h0 : pre s0 ∧ AV.wk v33 (f33 s0) ∧ Heap.le (TH s0) H)
    (round : ∀ s, pre s → B31_1 K (fun w33 H' => ∃ s', pre s' ∧ μ s' < μ s ∧ AV.wk w33 (f33 s') ∧ Heap.le (TH s') H') v3 v32 (f33 s) (TH s)) :
    L31_1 K v3 v32 v33 H := by
  unfold L31_1
  exact LoopV.mk s0 (fun s => [f33 s]) TH pre μ (fun _ => rfl) (Eq.mp (by kernel_rfl) h0) (fun s hs => Eq.mp (by kernel_rfl) (round s hs))
theorem L31_0_rule {K : AV → Heap → Prop} {v3 v11 v12 v13 : AV} {H : Heap} {σ : Type} (s0 : σ) (f13 : σ → AV) (TH : σ → Heap) (pre : σ → Prop) (μ : σ → Nat)
    (h0 : pre s0 ∧ AV.wk v13 (f13 s0) ∧ Heap.le (TH s0) H)
    (round : ∀ s, pre s → B31_0 K (fun w13 H' => ∃ s', pre s' ∧ μ s' < μ s ∧ AV.wk w13 (f13 s') ∧ Heap.le (TH s') H') v3 v11 v12 (f13 s) (TH s)) :
    L31_0 K v3 v11 v12 v13 H := by
  unfold L31_0
  exact LoopV.mk s0 (fun s => [f13 s]) TH pre μ (fun _ => rfl) (Eq.mp (by kernel_rfl) h0) (fun s hs => Eq.mp (by kernel_rfl) (round s hs))
def D32 : Info := ⟨26, fun i => if i = 6 then ([[], [], [0, 1], [0, 1, 2], [], [], [4, 5], [4, 5, 6], [0, 1, 2, 3, 4, 5, 6, 7]], [(0, []), (1, []), (2, []), (3, []), (4, []), (5, []), (6, []), (7, []), (8, [])]) else ([], []), fun i => if i = 4 then ([0, 1], [5]) else ([], [])⟩
def L32_0 (K : AV → Heap → Prop) (v0 : AV) (v1 : AV) (v5 : AV) (H : Heap) : Prop := LoopV (wpC Try.prog tab D32 (cAt [1, 1, 0, 1, 0, 0] (bodyOf Try.f32))) [0, 1] (PostF.block 0 (PostF.thenA (wpC Try.prog tab D32 (cAt [1, 1, 1] (bodyOf Try.f32))) (retF tab [.tmp 4] K))) [5] [v0, v1, AV.any, AV.any, AV.any, v5, AV.any, AV.any, AV.any, AV.any, AV.any, AV.any, AV.any, AV.any, AV.any, AV.any, AV.any, AV.any, AV.any, AV.any, AV.any, AV.any, AV.any, AV.any, AV.any, AV.any] H
def B32_0 (K : AV → Heap → Prop) (N1 : AV → Heap → Prop) (v0 : AV) (v1 : AV) (v5 : AV) (H : Heap) : Prop :=
 lenV tab 22 v0 fun v13 =>
 binV tab .lss 3 v5 v13 fun v14 =>
 condV v14 (indexAddrV tab 22 v0 v5 fun v19 =>
 loadV tab 3 v19 H fun v20 =>
 indexAddrV tab 22 v1 v5 fun v23 =>
 loadV tab 3 v23 H fun v24 =>
 binV tab .neq 3 v20 v24 fun v25 =>
 condV v25 (K (AV.p (.bool false)) H)
 (binV tab .add 3 v5 (AV.p (.int .i64 1)) fun v16 =>
 N1 v16 H))
 (K (AV.p (.bool true)) H)
def W32 (v0 : AV) (v1 : AV) (H : Heap) (K : AV → Heap → Prop) : Prop :=
 lenV tab 22 v0 fun v7 =>
 lenV tab 22 v1 fun v9 =>
 binV tab .neq 3 v7 v9 fun v10 =>
 condV v10 (K (AV.p (.bool false)) H)
 (L32_0 K v0 v1 (AV.p (.int .i64 0)) H)
theorem W32_wp (v0 : AV) (v1 : AV) (H : Heap) (K : AV → Heap → Prop) : wpC Try.prog tab D32 (bodyOf Try.f32) (retF tab [.tmp 4] K) (nthA [v0, v1]) H = W32 v0 v1 H K := by kernel_rfl
theorem W32_ok {v0 v1 : AV} {H : Heap} {K : AV → Heap → Prop} (h : W32 v0 v1 H K) : CallT Try.prog 32 [v0, v1] H K :=
  CallT.of_wp (D := D32) tab_ok mixed Try.func32 (c := bodyOf Try.f32) (by kernel_rfl) rfl (by kernel_rfl) (rs := #[.tmp 4]) rfl (by decide +kernel) (by kernel_rfl) (W32_wp v0 v1 H K) h
theorem L32_0_rule {K : AV → Heap → Prop} {v0 v1 v5 : AV} {H : Heap} {σ : Type} (s0 : σ) (f5 : σ → AV) (TH : σ → Heap) (pre : σ → Prop) (μ : σ → Nat)
    (h0 : pre s0 ∧ AV.wk v5 (f5 s0) ∧ Heap.le (TH s0) H)
    (round : ∀ s, pre s → B32_0 K (fun w5 H' => ∃ s', pre s' ∧ μ s' < μ s ∧ AV.wk w5 (f5 s') ∧ Heap.le (TH s') H') v0 v1 (f5 s) (TH s)) :
    L32_0 K v0 v1 v5 H := by
  unfold L32_0
  exact LoopV.mk s0 (fun s => [f5 s]) TH pre μ (fun _ => rfl) (Eq.mp (by kernel_rfl) h0) (fun s hs => Eq.mp (by kernel_rfl) (round s hs))
def D33 : Info := ⟨27, fun i => if i = 6 then ([[], [], [0, 1], [0, 1, 2], [], [], [4, 5], [4, 5, 6], [0, 1, 2, 3, 4, 5, 6, 7], [0, 1, 2, 3, 4, 5, 6, 7, 8]], [(0, []), (1, []), (2, []), (3, []), (4, []), (5, []), (6, []), (7, []), (8, []), (9, [])]) else ([], []), fun i => if i = 4 then ([0, 1], [5]) else ([], [])⟩
def L33_0 (K : AV → Heap → Prop) (v0 : AV) (v1 : AV) (v5 : AV) (H : Heap) : Prop := LoopV (wpC Try.prog tab D33 (cAt [1, 1, 0, 1, 0, 0] (bodyOf Try.f33))) [0, 1] (PostF.block 0 (PostF.thenA (wpC Try.prog tab D33 (cAt [1, 1, 1] (bodyOf Try.f33))) (retF tab [.tmp 4] K))) [5] [v0, v1, AV.any, AV.any, AV.any, v5, AV.any, AV.any, AV.any, AV.any, AV.any, AV.any, AV.any, AV.any, AV.any, AV.any, AV.any, AV.any, AV.any, AV.any, AV.any, AV.any, AV.any, AV.any, AV.any, AV.any, AV.any] H
def B33_0 (K : AV → Heap → Prop) (N1 : AV → Heap → Prop) (v0 : AV) (v1 : AV) (v5 : AV) (H : Heap) : Prop :=
 lenV tab 30 v0 fun v13 =>
 binV tab .lss 3 v5 v13 fun v14 =>
 condV v14 (indexAddrV tab 30 v0 v5 fun v19 =>
 loadV tab 65 v19 H fun v20 =>
 indexAddrV tab 30 v1 v5 fun v23 =>
 loadV tab 65 v23 H fun v24 =>
 CallT Try.prog 71 [v20, v24] H fun v25 H1 =>
 unV .not v25 fun v26 =>
 condV v26 (K (AV.p (.bool false)) H1)
 (binV tab .add 3 v5 (AV.p (.int .i64 1)) fun v16 =>
 N1 v16 H1))
 (K (AV.p (.bool true)) H)
def W33 (v0 : AV) (v1 : AV) (H : Heap) (K : AV → Heap → Prop) : Prop :=
 lenV tab 30 v0 fun v7 =>
 lenV tab 30 v1 fun v9 =>
 binV tab .neq 3 v7 v9 fun v10 =>
 condV v10 (K (AV.p (.bool false)) H)
 (L33_0 K v0 v1 (AV.p (.int .i64 0)) H)
theorem W33_wp (v0 : AV) (v1 : AV) (H : Heap) (K : AV → Heap → Prop) : wpC Try.prog tab D33 (bodyOf Try.f33) (retF tab [.tmp 4] K) (nthA [v0, v1]) H = W33 v0 v1 H K := by kernel_rfl
theorem W33_ok {v0 v1 : AV} {H : Heap} {K : AV → Heap → Prop} (h : W33 v0 v1 H K) : CallT Try.prog 33 [v0, v1] H K :=
  CallT.of_wp (D := D33) tab_ok mixed Try.func33 (c := bodyOf Try.f33) (by kernel_rfl) rfl (by kernel_rfl) (rs := #[.tmp 4]) rfl (by decide +kernel) (by kernel_rfl) (W33_wp v0 v1 H K) h
theorem L33_0_rule {K : AV → Heap → Prop} {v0 v1 v5 : AV} {H : Heap} {σ : Type} (s0 : σ) (f5 : σ → AV) (TH : σ → Heap) (pre : σ → Prop) (μ : σ → Nat)
    (h0 : pre s0 ∧ AV.wk v5 (f5 s0) ∧ Heap.le (TH s0) H)
    (round : ∀ s, pre s → B33_0 K (fun w5 H' => ∃ s', pre s' ∧ μ s' < μ s ∧ AV.wk w5 (f5 s') ∧ Heap.le (TH s') H') v0 v1 (f5 s) (TH s)) :
    L33_0 K v0 v1 v5 H := by
  unfold L33_0
  exact LoopV.mk s0 (fun s => [f5 s]) TH pre μ (fun _ => rfl) (Eq.mp (by kernel_rfl) h0) (fun s hs => Eq.mp (by kernel_rfl) (round s hs))
end Go.Proofs.Ytolffbcnbcjeaaa
namespace Go.Proofs.Ytolffbcnbcjeaaa
open Go Go.Sep
attribute [local irreducible] wpC headF
def D34 : Info := ⟨27, fun i => if i = 6 then ([[], [], [0, 1], [0, 1, 2], [], [], [4, 5], [4, 5, 6], [0, 1, 2, 3, 4, 5, 6, 7], [0, 1, 2, 3, 4, 5, 6, 7, 8]], [(0, []), (1, []), (2, []), (3, []), (4, []), (5, []), (6, []), (7, []), (8, []), (9, [])]) else ([], []), fun i => if i = 4 then ([0, 1], [5]) else ([], [])⟩
def L34_0 (K : AV → Heap → Prop) (v0 : AV) (v1 : AV) (v5 : AV) (H : Heap) : Prop := LoopV (wpC Try.prog tab D34 (cAt [1, 1, 0, 1, 0, 0] (bodyOf Try.f34))) [0, 1] (PostF.block 0 (PostF.thenA (wpC Try.prog tab D34 (cAt [1, 1, 1] (bodyOf Try.f34))) (retF tab [.tmp 4] K))) [5] [v0, v1, AV.any, AV.any, AV.any, v5, AV.any, AV.any, AV.any, AV.any, AV.any, AV.any, AV.any, AV.any, AV.any, AV.any, AV.any, AV.any, AV.any, AV.any, AV.any, AV.any, AV.any, AV.any, AV.any, AV.any, AV.any] H
def B34_0 (K : AV → Heap → Prop) (N1 : AV → Heap → Prop) (v0 : AV) (v1 : AV) (v5 : AV) (H : Heap) : Prop :=
 lenV tab 24 v0 fun v13 =>
 binV tab .lss 3 v5 v13 fun v14 =>
 condV v14 (indexAddrV tab 24 v0 v5 fun v19 =>
 loadV tab 22 v19 H fun v20 =>
 indexAddrV tab 24 v1 v5 fun v23 =>
 loadV tab 22 v23 H fun v24 =>
 CallT Try.prog 32 [v20, v24] H fun v25 H1 =>
 unV .not v25 fun v26 =>
 condV v26 (K (AV.p (.bool false)) H1)
 (binV tab .add 3 v5 (AV.p (.int .i64 1)) fun v16 =>
 N1 v16 H1))
 (K (AV.p (.bool true)) H)
def W34 (v0 : AV) (v1 : AV) (H : Heap) (K : AV → Heap → Prop) : Prop :=
 lenV tab 24 v0 fun v7 =>
 lenV tab 24 v1 fun v9 =>
 binV tab .neq 3 v7 v9 fun v10 =>
 condV v10 (K (AV.p (.bool false)) H)
 (L34_0 K v0 v1 (AV.p (.int .i64 0)) H)
theorem W34_wp (v0 : AV) (v1 : AV) (H : Heap) (K : AV → Heap → Prop) : wpC Try.prog tab D34 (bodyOf Try.f34) (retF tab [.tmp 4] K) (nthA [v0, v1]) H = W34 v0 v1 H K := by kernel_rfl
theorem W34_ok {v0 v1 : AV} {H : Heap} {K : AV → Heap → Prop} (h : W34 v0 v1 H K) : CallT Try.prog 34 [v0, v1] H K :=
  CallT.of_wp (D := D34) tab_ok mixed Try.func34 (c := bodyOf Try.f34) (by kernel_rfl) rfl (by kernel_rfl) (rs := #[.tmp 4]) rfl (by decide +kernel) (by kernel_rfl) (W34_wp v0 v1 H K) h
theorem L34_0_rule {K : AV → Heap → Prop} {v0 v1 v5 : AV} {H : Heap} {σ : Type} (s0 : σ) (f5 : σ → AV) (TH : σ → Heap) (pre : σ → Prop) (μ : σ → Nat)
    (h0 : pre s0 ∧ AV.wk v5 (f5 s0) ∧ Heap.le (TH s0) H)
    (round : ∀ s, pre s → B34_0 K (fun w5 H' => ∃ s', pre s' ∧ μ s' < μ s ∧ AV.wk w5 (f5 s') ∧ Heap.le (TH s') H') v0 v1 (f5 s) (TH s)) :
    L34_0 K v0 v1 v5 H := by
  unfold L34_0
  exact LoopV.mk s0 (fun s => [f5 s]) TH pre μ (fun _ => rfl) (Eq.mp (by kernel_rfl) h0) (fun s hs => Eq.mp (by kernel_rfl) (round s hs))
def D40 : Info := ⟨25, fun i => ([], []), fun i => if i = 3 then ([10, 11], [5, 12]) else ([], [])⟩
def L40_0 (K : AV → Heap → Prop) (v5 : AV) (v10 : AV) (v11 : AV) (v12 : AV) (H : Heap) : Prop := LoopV (wpC Try.prog tab D40 (cAt [1, 1, 0, 1, 0, 0] (bodyOf Try.f40))) [10, 11] (PostF.block 0 (PostF.thenA (wpC Try.prog tab D40 (cAt [1, 1, 1] (bodyOf Try.f40))) (retF tab [.tmp 4] K))) [5, 12] [AV.any, AV.any, AV.any, AV.any, AV.any, v5, AV.any, AV.any, AV.any, AV.any, v10, v11, v12, AV.any, AV.any, AV.any, AV.any, AV.any, AV.any, AV.any, AV.any, AV.any, AV.any, AV.any, AV.any] H
def B40_0 (K : AV → Heap → Prop) (N1 : AV → AV → Heap → Prop) (v5 : AV) (v10 : AV) (v11 : AV) (v12 : AV) (H : Heap) : Prop :=
 binV tab .lss 3 v12 v11 fun v13 =>
 condV v13 (indexAddrV tab 22 v10 v12 fun v15 =>
 loadV tab 3 v15 H fun v16 =>
 binV tab .geq 3 v16 (AV.p (.int .i64 0)) fun v18 =>
 condV v18 (buildSliceV tab 22 1 [(0, v12)] H (wkK fun v21 H2 =>
 appendV tab 22 22 v5 v21 H2 (wkK fun v22 H3 =>
 binV tab .add 3 v12 (AV.p (.int .i64 1)) fun v23 =>
 N1 v22 v23 H3)))
 (binV tab .add 3 v12 (AV.p (.int .i64 1)) fun v23 =>
 N1 v5 v23 H))
 (K v5 H)
def W40 (v0 : AV) (v1 : AV) (H : Heap) (K : AV → Heap → Prop) : Prop :=
 CallT Try.prog 59 [v0, v1] H fun v10 H1 =>
 lenV tab 22 v10 fun v11 =>
 L40_0 K (AV.p .nil) v10 v11 (AV.p (.int .i64 0)) H1
theorem W40_wp (v0 : AV) (v1 : AV) (H : Heap) (K : AV → Heap → Prop) : wpC Try.prog tab D40 (bodyOf Try.f40) (retF tab [.tmp 4] K) (nthA [v0, v1]) H = W40 v0 v1 H K := by kernel_rfl
theorem W40_ok {v0 v1 : AV} {H : Heap} {K : AV → Heap → Prop} (h : W40 v0 v1 H K) : CallT Try.prog 40 [v0, v1] H K :=
  CallT.of_wp (D := D40) tab_ok mixed Try.func40 (c := bodyOf Try.f40) (by kernel_rfl) rfl (by kernel_rfl) (rs := #[.tmp 4]) rfl (by decide +kernel) (by kernel_rfl) (W40_wp v0 v1 H K) h
theorem W40_hb : HasBody Try.prog 40 := ⟨_, bodyOf Try.f40, Try.func40, by kernel_rfl, rfl⟩
theorem L40_0_rule {K : AV → Heap → Prop} {v5 v10 v11 v12 : AV} {H : Heap} {σ : Type} (s0 : σ) (f5 : σ → AV) (f12 : σ → AV) (TH : σ → Heap) (pre : σ → Prop) (μ : σ → Nat)
    (h0 : pre s0 ∧ AV.wk v5 (f5 s0) ∧ AV.wk v12 (f12 s0) ∧ Heap.le (TH s0) H)
    (round : ∀ s, pre s → B40_0 K (fun w5 w12 H' => ∃ s', pre s' ∧ μ s' < μ s ∧ AV.wk w5 (f5 s') ∧ AV.wk w12 (f12 s') ∧ Heap.le (TH s') H') (f5 s) v10 v11 (f12 s) (TH s)) :
    L40_0 K v5 v10 v11 v12 H := by
  unfold L40_0
  exact LoopV.mk s0 (fun s => [f5 s, f12 s]) TH pre μ (fun _ => rfl) (Eq.mp (by kernel_rfl) h0) (fun s hs => Eq.mp (by kernel_rfl) (round s hs))
def D41 : Info := ⟨37, fun i => ([], []), fun i => if i = 3 then ([3, 11, 12], [13]) else if i = 6 then ([3, 4, 11, 12, 13, 18, 19], [20]) else ([], [])⟩
def L41_0 (K : AV → Heap → Prop) (v3 : AV) (v11 : AV) (v12 : AV) (v13 : AV) (H : Heap) : Prop := LoopV (wpC Try.prog tab D41 (cAt [1, 1, 0, 1, 0, 0] (bodyOf Try.f41))) [3, 11, 12] (PostF.block 0 (PostF.thenA (wpC Try.prog tab D41 (cAt [1, 1, 1] (bodyOf Try.f41))) (retF tab [.tmp 2] K))) [13] [AV.any, AV.any, AV.any, v3, AV.any, AV.any, AV.any, AV.any, AV.any, AV.any, AV.any, v11, v12, v13, AV.any, AV.any, AV.any, AV.any, AV.any, AV.any, AV.any, AV.any, AV.any, AV.any, AV.any, AV.any, AV.any, AV.any, AV.any, AV.any, AV.any, AV.any, AV.any, AV.any, AV.any, AV.any, AV.any] H
def L41_1 (K : AV → Heap → Prop) (N1 : AV → Heap → Prop) (v3 : AV) (v4 : AV) (v11 : AV) (v12 : AV) (v13 : AV) (v18 : AV) (v19 : AV) (v20 : AV) (H : Heap) : Prop := LoopV (wpC Try.prog tab D41 (cAt [1, 1, 0, 1, 0, 0, 1, 1, 0, 0, 1, 1, 0, 0] (bodyOf Try.f41))) [3, 4, 11, 12, 13, 18, 19] (PostF.block 2 (PostF.block 1 (PostF.thenA (wpC Try.prog tab D41 (cAt [1, 1, 0, 1, 0, 0, 1, 1, 1] (bodyOf Try.f41))) (loopF (PostF.block 0 (PostF.thenA (wpC Try.prog tab D41 (cAt [1, 1, 1] (bodyOf Try.f41))) (retF tab [.tmp 2] K))) (fun e h => N1 (e 13) h))))) [20] [AV.any, AV.any, AV.any, v3, v4, AV.any, AV.any, AV.any, AV.any, AV.any, AV.any, v11, v12, v13, AV.any, AV.any, AV.any, AV.any, v18, v19, v20, AV.any, AV.any, AV.any, AV.any, AV.any, AV.any, AV.any, AV.any, AV.any, AV.any, AV.any, AV.any, AV.any, AV.any, AV.any, AV.any] H
def B41_1 (K : AV → Heap → Prop) (N1 : AV → Heap → Prop) (N2 : AV → Heap → Prop) (v3 : AV) (v4 : AV) (v11 : AV) (v12 : AV) (v13 : AV) (v18 : AV) (v19 : AV) (v20 : AV) (H : Heap) : Prop :=
 binV tab .lss 3 v20 v19 fun v21 =>
 condV v21 (indexAddrV tab 22 v18 v20 fun v22 =>
 loadV tab 3 v22 H fun v23 =>
 indexAddrV tab 24 v3 v23 fun v28 =>
 loadV tab 22 v28 H fun v29 =>
 buildSliceV tab 22 1 [(0, v4)] H (wkK fun v31 H2 =>
 appendV tab 22 22 v29 v31 H2 (wkK fun v32 H3 =>
 indexAddrV tab 24 v3 v23 fun v33 =>
 storeV tab 22 v33 v32 H3 fun H4 =>
 binV tab .add 3 v20 (AV.p (.int .i64 1)) fun v34 =>
 N2 v34 H4)))
 (binV tab .add 3 v13 (AV.p (.int .i64 1)) fun v35 =>
 N1 v35 H)
def B41_0 (K : AV → Heap → Prop) (N1 : AV → Heap → Prop) (v3 : AV) (v11 : AV) (v12 : AV) (v13 : AV) (H : Heap) : Prop :=
 binV tab .lss 3 v13 v12 fun v14 =>
 condV v14 (indexAddrV tab 24 v11 v13 fun v16 =>
 loadV tab 22 v16 H fun v17 =>
 lenV tab 22 v17 fun v19 =>
 L41_1 K N1 v3 v13 v11 v12 v13 v17 v19 (AV.p (.int .i64 0)) H)
 (K v3 H)
def W41 (v0 : AV) (H : Heap) (K : AV → Heap → Prop) : Prop :=
 lenV tab 24 v0 fun v9 =>
 makeSliceV tab 24 v9 v9 H fun v10 H1 =>
 lenV tab 24 v0 fun v12 =>
 L41_0 K v10 v0 v12 (AV.p (.int .i64 0)) H1
theorem W41_wp (v0 : AV) (H : Heap) (K : AV → Heap → Prop) : wpC Try.prog tab D41 (bodyOf Try.f41) (retF tab [.tmp 2] K) (nthA [v0]) H = W41 v0 H K := by kernel_rfl
theorem W41_ok {v0 : AV} {H : Heap} {K : AV → Heap → Prop} (h : W41 v0 H K) : CallT Try.prog 41 [v0] H K :=
  CallT.of_wp (D := D41) tab_ok mixed Try.func41 (c := bodyOf Try.f41) (by kernel_rfl) rfl (by kernel_rfl) (rs := #[.tmp 2]) rfl (by decide +kernel) (by kernel_rfl) (W41_wp v0 H K) h
theorem L41_1_rule {K : AV → Heap → Prop} {N1 : AV → Heap → Prop} {v3 v4 v11 v12 v13 v18 v19 v20 : AV} {H : Heap} {σ : Type} (s0 : σ) (f20 : σ → AV) (TH : σ → Heap) (pre : σ → Prop) (μ : σ → Nat)
    (h0 : pre s0 ∧ AV.wk v20 (f20 s0) ∧ Heap.le (TH s0) H)
    (round : ∀ s, pre s → B41_1 K N1 (fun w20 H' => ∃ s', pre s' ∧ μ s' < μ s ∧ AV.wk w20 (f20 s') ∧ Heap.le (TH s') H') v3 v4 v11 v12 v13 v18 v19 (f20 s) (TH s)) :
    L41_1 K N1 v3 v4 v11 v12 v13 v18 v19 v20 H := by
  unfold L41_1
  exact LoopV.mk s0 (fun s => [f20 s]) TH pre μ (fun _ => rfl) (Eq.mp (by kernel_rfl) h0) (fun s hs => Eq.mp (by kernel_rfl) (round s hs))
theorem L41_0_rule {K : AV → Heap → Prop} {v3 v11 v12 v13 : AV} {H : Heap} {σ : Type} (s0 : σ) (f13 : σ → AV) (TH : σ → Heap) (pre : σ → Prop) (μ : σ → Nat)
    (h0 : pre s0 ∧ AV.wk v13 (f13 s0) ∧ Heap.le (TH s0) H)
    (round : ∀ s, pre s → B41_0 K (fun w13 H' => ∃ s', pre s' ∧ μ s' < μ s ∧ AV.wk w13 (f13 s') ∧ Heap.le (TH s') H') v3 v11 v12 (f13 s) (TH s)) :
    L41_0 K v3 v11 v12 v13 H := by
  unfold L41_0
  exact LoopV.mk s0 (fun s => [f13 s]) TH pre μ (fun _ => rfl) (Eq.mp (by kernel_rfl) h0) (fun s hs => Eq.mp (by kernel_rfl) (round s hs))
def D42 : Info := ⟨116, fun i => if i = 8 then ([[], [], [], [1, 2], [1, 2, 3], [], [], [], [6, 7], [6, 7, 8], [5, 6, 7, 8, 9], [5, 6, 7, 8, 9, 10], [5, 6, 7, 8, 9, 10, 11], [5, 6, 7, 8, 9, 10, 11, 12], [5, 6, 7, 8, 9, 10, 11, 12, 13], [5, 6, 7, 8, 9, 10, 11, 12, 13, 14], [5, 6, 7, 8, 9, 10, 11, 12, 13, 14, 15], [0, 1, 2, 3, 4, 5, 6, 7, 8, 9, 10, 11, 12, 13, 14, 15, 16], [0, 1, 2, 3, 4, 5, 6, 7, 8, 9, 10, 11, 12, 13, 14, 15, 16, 17]], [(0, []), (1, []), (2, []), (3, []), (4, []), (5, []), (6, []), (7, []), (8, []), (9, []), (10, []), (11, []), (12, []), (13, []), (14, []), (15, []), (16, []), (17, []), (18, [])]) else ([], []), fun i => if i = 6 then ([0, 1, 5, 7, 8, 28, 29], [30]) else if i = 11 then ([0, 1, 5, 7, 8, 54, 55], [56]) else if i = 14 then ([0, 1, 5, 7, 8, 11, 54, 55, 56, 61, 62], [63]) else if i = 22 then ([1, 5, 7, 8, 87], [15, 88]) else ([], [])⟩
def L42_0 (K : AV → Heap → Prop) (v0 : AV) (v1 : AV) (v5 : AV) (v7 : AV) (v8 : AV) (v28 : AV) (v29 : AV) (v30 : AV) (H : Heap) : Prop := LoopV (wpC Try.prog tab D42 (cAt [1, 1, 1, 1, 1, 0, 1, 0, 0] (bodyOf Try.f42))) [0, 1, 5, 7, 8, 28, 29] (PostF.block 0 (PostF.thenA (wpC Try.prog tab D42 (cAt [1, 1, 1, 1, 1, 1] (bodyOf Try.f42))) (retF tab [.tmp 4] K))) [30] [v0, v1, AV.any, AV.any, AV.any, v5, AV.any, v7, v8, AV.any, AV.any, AV.any, AV.any, AV.any, AV.any, AV.any, AV.any, AV.any, AV.any, AV.any, AV.any, AV.any, AV.any, AV.any, AV.any, AV.any, AV.any, AV.any, v28, v29, v30, AV.any, AV.any, AV.any, AV.any, AV.any, AV.any, AV.any, AV.any, AV.any, AV.any, AV.any, AV.any, AV.any, AV.any, AV.any, AV.any, AV.any, AV.any, AV.any, AV.any, AV.any, AV.any, AV.any, AV.any, AV.any, AV.any, AV.any, AV.any, AV.any, AV.any, AV.any, AV.any, AV.any, AV.any, AV.any, AV.any, AV.any, AV.any, AV.any, AV.any, AV.any, AV.any, AV.any, AV.any, AV.any, AV.any, AV.any, AV.any, AV.any, AV.any, AV.any, AV.any, AV.any, AV.any, AV.any, AV.any, AV.any, AV.any, AV.any, AV.any, AV.any, AV.any, AV.any, AV.any, AV.any, AV.any, AV.any, AV.any, AV.any, AV.any, AV.any, AV.any, AV.any, AV.any, AV.any, AV.any, AV.any, AV.any, AV.any, AV.any, AV.any, AV.any, AV.any, AV.any, AV.any] H
def L42_1 (K : AV → Heap → Prop) (v0 : AV) (v1 : AV) (v5 : AV) (v7 : AV) (v8 : AV) (v54 : AV) (v55 : AV) (v56 : AV) (H : Heap) : Prop := LoopV (wpC Try.prog tab D42 (cAt [1, 1, 1, 1, 1, 1, 0, 1, 0, 0] (bodyOf Try.f42))) [0, 1, 5, 7, 8, 54, 55] (PostF.block 2 (PostF.thenA (wpC Try.prog tab D42 (cAt [1, 1, 1, 1, 1, 1, 1] (bodyOf Try.f42))) (retF tab [.tmp 4] K))) [56] [v0, v1, AV.any, AV.any, AV.any, v5, AV.any, v7, v8, AV.any, AV.any, AV.any, AV.any, AV.any, AV.any, AV.any, AV.any, AV.any, AV.any, AV.any, AV.any, AV.any, AV.any, AV.any, AV.any, AV.any, AV.any, AV.any, AV.any, AV.any, AV.any, AV.any, AV.any, AV.any, AV.any, AV.any, AV.any, AV.any, AV.any, AV.any, AV.any, AV.any, AV.any, AV.any, AV.any, AV.any, AV.any, AV.any, AV.any, AV.any, AV.any, AV.any, AV.any, AV.any, v54, v55, v56, AV.any, AV.any, AV.any, AV.any, AV.any, AV.any, AV.any, AV.any, AV.any, AV.any, AV.any, AV.any, AV.any, AV.any, AV.any, AV.any, AV.any, AV.any, AV.any, AV.any, AV.any, AV.any, AV.any, AV.any, AV.any, AV.any, AV.any, AV.any, AV.any, AV.any, AV.any, AV.any, AV.any, AV.any, AV.any, AV.any, AV.any, AV.any, AV.any, AV.any, AV.any, AV.any, AV.any, AV.any, AV.any, AV.any, AV.any, AV.any, AV.any, AV.any, AV.any, AV.any, AV.any, AV.any, AV.any, AV.any, AV.any, AV.any, AV.any] H
def L42_2 (K : AV → Heap → Prop) (N1 : AV → Heap → Prop) (v0 : AV) (v1 : AV) (v5 : AV) (v7 : AV) (v8 : AV) (v11 : AV) (v54 : AV) (v55 : AV) (v56 : AV) (v61 : AV) (v62 : AV) (v63 : AV) (H : Heap) : Prop := LoopV (wpC Try.prog tab D42 (cAt [1, 1, 1, 1, 1, 1, 0, 1, 0, 0, 1, 1, 0, 0, 1, 1, 0, 0] (bodyOf Try.f42))) [0, 1, 5, 7, 8, 11, 54, 55, 56, 61, 62] (PostF.block 4 (PostF.block 3 (PostF.thenA (wpC Try.prog tab D42 (cAt [1, 1, 1, 1, 1, 1, 0, 1, 0, 0, 1, 1, 1] (bodyOf Try.f42))) (loopF (PostF.block 2 (PostF.thenA (wpC Try.prog tab D42 (cAt [1, 1, 1, 1, 1, 1, 1] (bodyOf Try.f42))) (retF tab [.tmp 4] K))) (fun e h => N1 (e 56) h))))) [63] [v0, v1, AV.any, AV.any, AV.any, v5, AV.any, v7, v8, AV.any, AV.any, v11, AV.any, AV.any, AV.any, AV.any, AV.any, AV.any, AV.any, AV.any, AV.any, AV.any, AV.any, AV.any, AV.any, AV.any, AV.any, AV.any, AV.any, AV.any, AV.any, AV.any, AV.any, AV.any, AV.any, AV.any, AV.any, AV.any, AV.any, AV.any, AV.any, AV.any, AV.any, AV.any, AV.any, AV.any, AV.any, AV.any, AV.any, AV.any, AV.any, AV.any, AV.any, AV.any, v54, v55, v56, AV.any, AV.any, AV.any, AV.any, v61, v62, v63, AV.any, AV.any, AV.any, AV.any, AV.any, AV.any, AV.any, AV.any, AV.any, AV.any, AV.any, AV.any, AV.any, AV.any, AV.any, AV.any, AV.any, AV.any, AV.any, AV.any, AV.any, AV.any, AV.any, AV.any, AV.any, AV.any, AV.any, AV.any, AV.any, AV.any, AV.any, AV.any, AV.any, AV.any, AV.any, AV.any, AV.any, AV.any, AV.any, AV.any, AV.any, AV.any, AV.any, AV.any, AV.any, AV.any, AV.any, AV.any, AV.any, AV.any, AV.any, AV.any] H
def B42_2 (K : AV → Heap → Prop) (N1 : AV → Heap → Prop) (N2 : AV → Heap → Prop) (v0 : AV) (v1 : AV) (v5 : AV) (v7 : AV) (v8 : AV) (v11 : AV) (v54 : AV) (v55 : AV) (v56 : AV) (v61 : AV) (v62 : AV) (v63 : AV) (H : Heap) : Prop :=
 binV tab .lss 3 v63 v62 fun v64 =>
 condV v64 (indexAddrV tab 22 v61 v63 fun v65 =>
 loadV tab 3 v65 H fun v66 =>
 indexAddrV tab 22 v5 v66 fun v70 =>
 loadV tab 3 v70 H fun v71 =>
 indexAddrV tab 22 v8 v71 fun v72 =>
 loadV tab 3 v72 H fun v73 =>
 binV tab .eql 3 v73 v11 fun v75 =>
 condV v75 (indexAddrV tab 22 v5 v66 fun v79 =>
 loadV tab 3 v79 H fun v80 =>
 binV tab .add 3 v11 (AV.p (.int .i64 1)) fun v82 =>
 indexAddrV tab 22 v8 v80 fun v83 =>
 storeV tab 3 v83 v82 H fun H7 =>
 binV tab .add 3 v63 (AV.p (.int .i64 1)) fun v84 =>
 N2 v84 H7)
 (binV tab .add 3 v63 (AV.p (.int .i64 1)) fun v84 =>
 N2 v84 H))
 (binV tab .add 3 v56 (AV.p (.int .i64 1)) fun v85 =>
 N1 v85 H)
def L42_3 (K : AV → Heap → Prop) (v1 : AV) (v5 : AV) (v7 : AV) (v8 : AV) (v15 : AV) (v87 : AV) (v88 : AV) (H : Heap) : Prop := LoopV (wpC Try.prog tab D42 (cAt [1, 1, 1, 1, 1, 1, 1, 1, 0, 1, 0, 0] (bodyOf Try.f42))) [1, 5, 7, 8, 87] (PostF.block 6 (PostF.thenA (wpC Try.prog tab D42 (cAt [1, 1, 1, 1, 1, 1, 1, 1, 1] (bodyOf Try.f42))) (retF tab [.tmp 4] K))) [15, 88] [AV.any, v1, AV.any, AV.any, AV.any, v5, AV.any, v7, v8, AV.any, AV.any, AV.any, AV.any, AV.any, AV.any, v15, AV.any, AV.any, AV.any, AV.any, AV.any, AV.any, AV.any, AV.any, AV.any, AV.any, AV.any, AV.any, AV.any, AV.any, AV.any, AV.any, AV.any, AV.any, AV.any, AV.any, AV.any, AV.any, AV.any, AV.any, AV.any, AV.any, AV.any, AV.any, AV.any, AV.any, AV.any, AV.any, AV.any, AV.any, AV.any, AV.any, AV.any, AV.any, AV.any, AV.any, AV.any, AV.any, AV.any, AV.any, AV.any, AV.any, AV.any, AV.any, AV.any, AV.any, AV.any, AV.any, AV.any, AV.any, AV.any, AV.any, AV.any, AV.any, AV.any, AV.any, AV.any, AV.any, AV.any, AV.any, AV.any, AV.any, AV.any, AV.any, AV.any, AV.any, AV.any, v87, v88, AV.any, AV.any, AV.any, AV.any, AV.any, AV.any, AV.any, AV.any, AV.any, AV.any, AV.any, AV.any, AV.any, AV.any, AV.any, AV.any, AV.any, AV.any, AV.any, AV.any, AV.any, AV.any, AV.any, AV.any, AV.any, AV.any, AV.any] H
def B42_3 (K : AV → Heap → Prop) (N1 : AV → AV → Heap → Prop) (v1 : AV) (v5 : AV) (v7 : AV) (v8 : AV) (v15 : AV) (v87 : AV) (v88 : AV) (H : Heap) : Prop :=
 binV tab .lss 3 v88 v87 fun v89 =>
 condV v89 (indexAddrV tab 22 v5 v88 fun v94 =>
 loadV tab 3 v94 H fun v95 =>
 indexAddrV tab 83 v7 v95 fun v96 =>
 loadV tab 4 v96 H fun v97 =>
 grdV v97 true (indexAddrV tab 22 v5 v88 fun v102 =>
 loadV tab 3 v102 H fun v103 =>
 indexAddrV tab 22 v8 v103 fun v104 =>
 loadV tab 3 v104 H fun v105 =>
 lenV tab 24 v1 fun v107 =>
 binV tab .eql 3 v105 v107 fun v108 =>
 condV v108 (buildSliceV tab 22 1 [(0, v88)] H (wkK fun v112 H8 =>
 appendV tab 22 22 v15 v112 H8 (wkK fun v113 H9 =>
 binV tab .add 3 v88 (AV.p (.int .i64 1)) fun v114 =>
 N1 v113 v114 H9)))
 (binV tab .add 3 v88 (AV.p (.int .i64 1)) fun v114 =>
 N1 v15 v114 H))
 (binV tab .add 3 v88 (AV.p (.int .i64 1)) fun v114 =>
 N1 v15 v114 H))
 (K v15 H)
def B42_1 (K : AV → Heap → Prop) (N1 : AV → Heap → Prop) (v0 : AV) (v1 : AV) (v5 : AV) (v7 : AV) (v8 : AV) (v54 : AV) (v55 : AV) (v56 : AV) (H : Heap) : Prop :=
 binV tab .lss 3 v56 v55 fun v57 =>
 condV v57 (indexAddrV tab 24 v54 v56 fun v59 =>
 loadV tab 22 v59 H fun v60 =>
 lenV tab 22 v60 fun v62 =>
 L42_2 K N1 v0 v1 v5 v7 v8 v56 v54 v55 v56 v60 v62 (AV.p (.int .i64 0)) H)
 (lenV tab 24 v0 fun v87 =>
 L42_3 K v1 v5 v7 v8 (AV.p .nil) v87 (AV.p (.int .i64 0)) H)
def B42_0 (K : AV → Heap → Prop) (N1 : AV → Heap → Prop) (v0 : AV) (v1 : AV) (v5 : AV) (v7 : AV) (v8 : AV) (v28 : AV) (v29 : AV) (v30 : AV) (H : Heap) : Prop :=
 binV tab .lss 3 v30 v29 fun v31 =>
 condV v31 (indexAddrV tab 24 v28 v30 fun v33 =>
 loadV tab 22 v33 H fun v34 =>
 indexAddrV tab 22 v5 v30 fun v38 =>
 loadV tab 3 v38 H fun v39 =>
 indexAddrV tab 22 v5 v30 fun v43 =>
 loadV tab 3 v43 H fun v44 =>
 indexAddrV tab 83 v7 v44 fun v45 =>
 loadV tab 4 v45 H fun v46 =>
 grdV v46 false (lenV tab 22 v34 fun v49 =>
 binV tab .gtr 3 v49 (AV.p (.int .i64 0)) fun v50 =>
 indexAddrV tab 83 v7 v39 fun v52 =>
 storeV tab 4 v52 v50 H fun H5 =>
 binV tab .add 3 v30 (AV.p (.int .i64 1)) fun v53 =>
 N1 v53 H5)
 (indexAddrV tab 83 v7 v39 fun v52 =>
 storeV tab 4 v52 (AV.p (.bool true)) H fun H6 =>
 binV tab .add 3 v30 (AV.p (.int .i64 1)) fun v53 =>
 N1 v53 H6))
 (lenV tab 24 v1 fun v55 =>
 L42_1 K v0 v1 v5 v7 v8 v1 v55 (AV.p (.int .i64 0)) H)
def W42 (v0 : AV) (v1 : AV) (H : Heap) (K : AV → Heap → Prop) : Prop :=
 CallT Try.prog 61 [v0] H fun v18 H1 =>
 CallT Try.prog 62 [v0, v18] H1 fun v21 H2 =>
 lenV tab 24 v0 fun v23 =>
 makeSliceV tab 83 v23 v23 H2 fun v24 H3 =>
 lenV tab 24 v0 fun v26 =>
 makeSliceV tab 22 v26 v26 H3 fun v27 H4 =>
 lenV tab 24 v21 fun v29 =>
 L42_0 K v0 v1 v18 v24 v27 v21 v29 (AV.p (.int .i64 0)) H4
theorem W42_wp (v0 : AV) (v1 : AV) (H : Heap) (K : AV → Heap → Prop) : wpC Try.prog tab D42 (bodyOf Try.f42) (retF tab [.tmp 4] K) (nthA [v0, v1]) H = W42 v0 v1 H K := by kernel_rfl
theorem W42_ok {v0 v1 : AV} {H : Heap} {K : AV → Heap → Prop} (h : W42 v0 v1 H K) : CallT Try.prog 42 [v0, v1] H K :=
  CallT.of_wp (D := D42) tab_ok mixed Try.func42 (c := bodyOf Try.f42) (by kernel_rfl) rfl (by kernel_rfl) (rs := #[.tmp 4]) rfl (by decide +kernel) (by kernel_rfl) (W42_wp v0 v1 H K) h
theorem L42_2_rule {K : AV → Heap → Prop} {N1 : AV → Heap → Prop} {v0 v1 v5 v7 v8 v11 v54 v55 v56 v61 v62 v63 : AV} {H : Heap} {σ : Type} (s0 : σ) (f63 : σ → AV) (TH : σ → Heap) (pre : σ → Prop) (μ : σ → Nat)
    (h0 : pre s0 ∧ AV.wk v63 (f63 s0) ∧ Heap.le (TH s0) H)
    (round : ∀ s, pre s → B42_2 K N1 (fun w63 H' => ∃ s', pre s' ∧ μ s' < μ s ∧ AV.wk w63 (f63 s') ∧ Heap.le (TH s') H') v0 v1 v5 v7 v8 v11 v54 v55 v56 v61 v62 (f63 s) (TH s)) :
    L42_2 K N1 v0 v1 v5 v7 v8 v11 v54 v55 v56 v61 v62 v63 H := by
  unfold L42_2
  exact LoopV.mk s0 (fun s => [f63 s]) TH pre μ (fun _ => rfl) (Eq.mp (by kernel_rfl) h0) (fun s hs => Eq.mp (by kernel_rfl) (round s hs))
theorem L42_3_rule {K : AV → Heap → Prop} {v1 v5 v7 v8 v15 v87 v88 : AV} {H : Heap} {σ : Type} (s0 : σ) (f15 : σ → AV) (f88 : σ → AV) (TH : σ → Heap) (pre : σ → Prop) (μ : σ → Nat)
    (h0 : pre s0 ∧ AV.wk v15 (f15 s0) ∧ AV.wk v88 (f88 s0) ∧ Heap.le (TH s0) H)
    (round : ∀ s, pre s → B42_3 K (fun w15 w88 H' => ∃ s', pre s' ∧ μ s' < μ s ∧ AV.wk w15 (f15 s') ∧ AV.wk w88 (f88 s') ∧ Heap.le (TH s') H') v1 v5 v7 v8 (f15 s) v87 (f88 s) (TH s)) :
    L42_3 K v1 v5 v7 v8 v15 v87 v88 H := by
  unfold L42_3
  exact LoopV.mk s0 (fun s => [f15 s, f88 s]) TH pre μ (fun _ => rfl) (Eq.mp (by kernel_rfl) h0) (fun s hs => Eq.mp (by kernel_rfl) (round s hs))
theorem L42_1_rule {K : AV → Heap → Prop} {v0 v1 v5 v7 v8 v54 v55 v56 : AV} {H : Heap} {σ : Type} (s0 : σ) (f56 : σ → AV) (TH : σ → Heap) (pre : σ → Prop) (μ : σ → Nat)
    (h0 : pre s0 ∧ AV.wk v56 (f56 s0) ∧ Heap.le (TH s0) H)
    (round : ∀ s, pre s → B42_1 K (fun w56 H' => ∃ s', pre s' ∧ μ s' < μ s ∧ AV.wk w56 (f56 s') ∧ Heap.le (TH s') H') v0 v1 v5 v7 v8 v54 v55 (f56 s) (TH s)) :
    L42_1 K v0 v1 v5 v7 v8 v54 v55 v56 H := by
  unfold L42_1
  exact LoopV.mk s0 (fun s => [f56 s]) TH pre μ (fun _ => rfl) (Eq.mp (by kernel_rfl) h0) (fun s hs => Eq.mp (by kernel_rfl) (round s hs))
theorem L42_0_rule {K : AV → Heap → Prop} {v0 v1 v5 v7 v8 v28 v29 v30 : AV} {H : Heap} {σ : Type} (s0 : σ) (f30 : σ → AV) (TH : σ → Heap) (pre : σ → Prop) (μ : σ → Nat)
    (h0 : pre s0 ∧ AV.wk v30 (f30 s0) ∧ Heap.le (TH s0) H)
    (round : ∀ s, pre s → B42_0 K (fun w30 H' => ∃ s', pre s' ∧ μ s' < μ s ∧ AV.wk w30 (f30 s') ∧ Heap.le (TH s') H') v0 v1 v5 v7 v8 v28 v29 (f30 s) (TH s)) :
    L42_0 K v0 v1 v5 v7 v8 v28 v29 v30 H := by
  unfold L42_0
  exact LoopV.mk s0 (fun s => [f30 s]) TH pre μ (fun _ => rfl) (Eq.mp (by kernel_rfl) h0) (fun s hs => Eq.mp (by kernel_rfl) (round s hs))
def D43 : Info := ⟨17, fun i => ([], []), fun i => if i = 2 then ([1, 7, 8], [9]) else ([], [])⟩
def L43_0 (K : AV → Heap → Prop) (v1 : AV) (v7 : AV) (v8 : AV) (v9 : AV) (H : Heap) : Prop := LoopV (wpC Try.prog tab D43 (cAt [1, 0, 1, 0, 0] (bodyOf Try.f43))) [1, 7, 8] (PostF.block 0 (PostF.thenA (wpC Try.prog tab D43 (cAt [1, 1] (bodyOf Try.f43))) (retF tab [.tmp 4] K))) [9] [AV.any, v1, AV.any, AV.any, AV.any, AV.any, AV.any, v7, v8, v9, AV.any, AV.any, AV.any, AV.any, AV.any, AV.any, AV.any] H
def B43_0 (K : AV → Heap → Prop) (N1 : AV → Heap → Prop) (v1 : AV) (v7 : AV) (v8 : AV) (v9 : AV) (H : Heap) : Prop :=
 binV tab .lss 3 v9 v8 fun v10 =>
 condV v10 (indexAddrV tab 22 v7 v9 fun v11 =>
 loadV tab 3 v11 H fun v12 =>
 binV tab .eql 3 v12 v1 fun v15 =>
 condV v15 (K (AV.p (.bool true)) H)
 (binV tab .add 3 v9 (AV.p (.int .i64 1)) fun v16 =>
 N1 v16 H))
 (K (AV.p (.bool false)) H)
def W43 (v0 : AV) (v1 : AV) (H : Heap) (K : AV → Heap → Prop) : Prop :=
 lenV tab 22 v0 fun v8 =>
 L43_0 K v1 v0 v8 (AV.p (.int .i64 0)) H
theorem W43_wp (v0 : AV) (v1 : AV) (H : Heap) (K : AV → Heap → Prop) : wpC Try.prog tab D43 (bodyOf Try.f43) (retF tab [.tmp 4] K) (nthA [v0, v1]) H = W43 v0 v1 H K := by kernel_rfl
theorem W43_ok {v0 v1 : AV} {H : Heap} {K : AV → Heap → Prop} (h : W43 v0 v1 H K) : CallT Try.prog 43 [v0, v1] H K :=
  CallT.of_wp (D := D43) tab_ok mixed Try.func43 (c := bodyOf Try.f43) (by kernel_rfl) rfl (by kernel_rfl) (rs := #[.tmp 4]) rfl (by decide +kernel) (by kernel_rfl) (W43_wp v0 v1 H K) h
theorem L43_0_rule {K : AV → Heap → Prop} {v1 v7 v8 v9 : AV} {H : Heap} {σ : Type} (s0 : σ) (f9 : σ → AV) (TH : σ → Heap) (pre : σ → Prop) (μ : σ → Nat)
    (h0 : pre s0 ∧ AV.wk v9 (f9 s0) ∧ Heap.le (TH s0) H)
    (round : ∀ s, pre s → B43_0 K (fun w9 H' => ∃ s', pre s' ∧ μ s' < μ s ∧ AV.wk w9 (f9 s') ∧ Heap.le (TH s') H') v1 v7 v8 (f9 s) (TH s)) :
    L43_0 K v1 v7 v8 v9 H := by
  unfold L43_0
  exact LoopV.mk s0 (fun s => [f9 s]) TH pre μ (fun _ => rfl) (Eq.mp (by kernel_rfl) h0) (fun s hs => Eq.mp (by kernel_rfl) (round s hs))
def D44 : Info := ⟨28, fun i => ([], []), fun i => if i = 3 then ([1, 8, 9], [5, 10]) else ([], [])⟩
def L44_0 (K : AV → Heap → Prop) (v1 : AV) (v5 : AV) (v8 : AV) (v9 : AV) (v10 : AV) (H : Heap) : Prop := LoopV (wpC Try.prog tab D44 (cAt [1, 1, 0, 1, 0, 0] (bodyOf Try.f44))) [1, 8, 9] (PostF.block 0 (PostF.thenA (wpC Try.prog tab D44 (cAt [1, 1, 1] (bodyOf Try.f44))) (retF tab [.tmp 4] K))) [5, 10] [AV.any, v1, AV.any, AV.any, AV.any, v5, AV.any, AV.any, v8, v9, v10, AV.any, AV.any, AV.any, AV.any, AV.any, AV.any, AV.any, AV.any, AV.any, AV.any, AV.any, AV.any, AV.any, AV.any, AV.any, AV.any, AV.any] H
def B44_0 (K : AV → Heap → Prop) (N1 : AV → AV → Heap → Prop) (v1 : AV) (v5 : AV) (v8 : AV) (v9 : AV) (v10 : AV) (H : Heap) : Prop :=
 binV tab .lss 3 v10 v9 fun v11 =>
 condV v11 (indexAddrV tab 22 v8 v10 fun v12 =>
 loadV tab 3 v12 H fun v13 =>
 indexAddrV tab 22 v1 v13 fun v16 =>
 loadV tab 3 v16 H fun v17 =>
 binV tab .geq 3 v17 (AV.p (.int .i64 0)) fun v18 =>
 condV v18 (indexAddrV tab 22 v1 v13 fun v22 =>
 loadV tab 3 v22 H fun v23 =>
 buildSliceV tab 22 1 [(0, v23)] H (wkK fun v24 H1 =>
 appendV tab 22 22 v5 v24 H1 (wkK fun v25 H2 =>
 binV tab .add 3 v10 (AV.p (.int .i64 1)) fun v26 =>
 N1 v25 v26 H2)))
 (binV tab .add 3 v10 (AV.p (.int .i64 1)) fun v26 =>
 N1 v5 v26 H))
 (K v5 H)
def W44 (v0 : AV) (v1 : AV) (H : Heap) (K : AV → Heap → Prop) : Prop :=
 lenV tab 22 v0 fun v9 =>
 L44_0 K v1 (AV.p .nil) v0 v9 (AV.p (.int .i64 0)) H
theorem W44_wp (v0 : AV) (v1 : AV) (H : Heap) (K : AV → Heap → Prop) : wpC Try.prog tab D44 (bodyOf Try.f44) (retF tab [.tmp 4] K) (nthA [v0, v1]) H = W44 v0 v1 H K := by kernel_rfl
theorem W44_ok {v0 v1 : AV} {H : Heap} {K : AV → Heap → Prop} (h : W44 v0 v1 H K) : CallT Try.prog 44 [v0, v1] H K :=
  CallT.of_wp (D := D44) tab_ok mixed Try.func44 (c := bodyOf Try.f44) (by kernel_rfl) rfl (by kernel_rfl) (rs := #[.tmp 4]) rfl (by decide +kernel) (by kernel_rfl) (W44_wp v0 v1 H K) h
theorem W44_hb : HasBody Try.prog 44 := ⟨_, bodyOf Try.f44, Try.func44, by kernel_rfl, rfl⟩
theorem L44_0_rule {K : AV → Heap → Prop} {v1 v5 v8 v9 v10 : AV} {H : Heap} {σ : Type} (s0 : σ) (f5 : σ → AV) (f10 : σ → AV) (TH : σ → Heap) (pre : σ → Prop) (μ : σ → Nat)
    (h0 : pre s0 ∧ AV.wk v5 (f5 s0) ∧ AV.wk v10 (f10 s0) ∧ Heap.le (TH s0) H)
    (round : ∀ s, pre s → B44_0 K (fun w5 w10 H' => ∃ s', pre s' ∧ μ s' < μ s ∧ AV.wk w5 (f5 s') ∧ AV.wk w10 (f10 s') ∧ Heap.le (TH s') H') v1 (f5 s) v8 v9 (f10 s) (TH s)) :
    L44_0 K v1 v5 v8 v9 v10 H := by
  unfold L44_0
  exact LoopV.mk s0 (fun s => [f5 s, f10 s]) TH pre μ (fun _ => rfl) (Eq.mp (by kernel_rfl) h0) (fun s hs => Eq.mp (by kernel_rfl) (round s hs))
end Go.Proofs.Ytolffbcnbcjeaaa
namespace Go.Proofs.Ytolffbcnbcjeaaa
open Go Go.Sep
attribute [local irreducible] wpC headF
def D45 : Info := ⟨64, fun i => ([], []), fun i => if i = 4 then ([0, 5, 6, 17, 18], [19]) else if i = 8 then ([0, 5], [6]) else if i = 11 then ([0, 5, 37, 38], [6, 39]) else ([], [])⟩
def L45_0 (K : AV → Heap → Prop) (v0 : AV) (v5 : AV) (v6 : AV) (v17 : AV) (v18 : AV) (v19 : AV) (H : Heap) : Prop := LoopV (wpC Try.prog tab D45 (cAt [1, 1, 1, 0, 1, 0, 0] (bodyOf Try.f45))) [0, 5, 6, 17, 18] (PostF.block 0 (PostF.thenA (wpC Try.prog tab D45 (cAt [1, 1, 1, 1] (bodyOf Try.f45))) (retF tab [.tmp 4] K))) [19] [v0, AV.any, AV.any, AV.any, AV.any, v5, v6, AV.any, AV.any, AV.any, AV.any, AV.any, AV.any, AV.any, AV.any, AV.any, AV.any, v17, v18, v19, AV.any, AV.any, AV.any, AV.any, AV.any, AV.any, AV.any, AV.any, AV.any, AV.any, AV.any, AV.any, AV.any, AV.any, AV.any, AV.any, AV.any, AV.any, AV.any, AV.any, AV.any, AV.any, AV.any, AV.any, AV.any, AV.any, AV.any, AV.any, AV.any, AV.any, AV.any, AV.any, AV.any, AV.any, AV.any, AV.any, AV.any, AV.any, AV.any, AV.any, AV.any, AV.any, AV.any, AV.any] H
def L45_1 (K : AV → Heap → Prop) (v0 : AV) (v5 : AV) (v6 : AV) (H : Heap) : Prop := LoopV (wpC Try.prog tab D45 (cAt [1, 1, 1, 1, 0, 0, 0] (bodyOf Try.f45))) [0, 5] (PostF.block 2 (PostF.thenA (wpC Try.prog tab D45 (cAt [1, 1, 1, 1, 1] (bodyOf Try.f45))) (retF tab [.tmp 4] K))) [6] [v0, AV.any, AV.any, AV.any, AV.any, v5, v6, AV.any, AV.any, AV.any, AV.any, AV.any, AV.any, AV.any, AV.any, AV.any, AV.any, AV.any, AV.any, AV.any, AV.any, AV.any, AV.any, AV.any, AV.any, AV.any, AV.any, AV.any, AV.any, AV.any, AV.any, AV.any, AV.any, AV.any, AV.any, AV.any, AV.any, AV.any, AV.any, AV.any, AV.any, AV.any, AV.any, AV.any, AV.any, AV.any, AV.any, AV.any, AV.any, AV.any, AV.any, AV.any, AV.any, AV.any, AV.any, AV.any, AV.any, AV.any, AV.any, AV.any, AV.any, AV.any, AV.any, AV.any] H
def L45_2 (K : AV → Heap → Prop) (N1 : AV → Heap → Prop) (v0 : AV) (v5 : AV) (v6 : AV) (v37 : AV) (v38 : AV) (v39 : AV) (H : Heap) : Prop := LoopV (wpC Try.prog tab D45 (cAt [1, 1, 1, 1, 0, 0, 0, 1, 0, 0, 1, 0, 0] (bodyOf Try.f45))) [0, 5, 37, 38] (PostF.block 4 (PostF.block 3 (PostF.thenA (wpC Try.prog tab D45 (cAt [1, 1, 1, 1, 0, 0, 0, 1, 1] (bodyOf Try.f45))) (loopF (PostF.block 2 (PostF.thenA (wpC Try.prog tab D45 (cAt [1, 1, 1, 1, 1] (bodyOf Try.f45))) (retF tab [.tmp 4] K))) (fun e h => N1 (e 6) h))))) [6, 39] [v0, AV.any, AV.any, AV.any, AV.any, v5, v6, AV.any, AV.any, AV.any, AV.any, AV.any, AV.any, AV.any, AV.any, AV.any, AV.any, AV.any, AV.any, AV.any, AV.any, AV.any, AV.any, AV.any, AV.any, AV.any, AV.any, AV.any, AV.any, AV.any, AV.any, AV.any, AV.any, AV.any, AV.any, AV.any, AV.any, v37, v38, v39, AV.any, AV.any, AV.any, AV.any, AV.any, AV.any, AV.any, AV.any, AV.any, AV.any, AV.any, AV.any, AV.any, AV.any, AV.any, AV.any, AV.any, AV.any, AV.any, AV.any, AV.any, AV.any, AV.any, AV.any] H
def B45_2 (K : AV → Heap → Prop) (N1 : AV → Heap → Prop) (N2 : AV → AV → Heap → Prop) (v0 : AV) (v5 : AV) (v6 : AV) (v37 : AV) (v38 : AV) (v39 : AV) (H : Heap) : Prop :=
 binV tab .lss 3 v39 v38 fun v40 =>
 condV v40 (indexAddrV tab 22 v37 v39 fun v41 =>
 loadV tab 3 v41 H fun v42 =>
 indexAddrV tab 22 v5 v42 fun v45 =>
 loadV tab 3 v45 H fun v46 =>
 binV tab .lss 3 v46 (AV.p (.int .i64 0)) fun v47 =>
 condV v47 (indexAddrV tab 22 v6 (AV.p (.int .i64 0)) fun v52 =>
 loadV tab 3 v52 H fun v53 =>
 indexAddrV tab 22 v5 v53 fun v54 =>
 loadV tab 3 v54 H fun v55 =>
 binV tab .add 3 v55 (AV.p (.int .i64 1)) fun v56 =>
 indexAddrV tab 22 v5 v42 fun v57 =>
 storeV tab 3 v57 v56 H fun H5 =>
 buildSliceV tab 22 1 [(0, v42)] H5 (wkK fun v60 H6 =>
 appendV tab 22 22 v6 v60 H6 (wkK fun v61 H7 =>
 binV tab .add 3 v39 (AV.p (.int .i64 1)) fun v62 =>
 N2 v61 v62 H7)))
 (binV tab .add 3 v39 (AV.p (.int .i64 1)) fun v62 =>
 N2 v6 v62 H))
 (sliceV tab 22 v6 (some (AV.p (.int .i64 1))) none none fun v31 =>
 N1 v31 H)
def B45_1 (K : AV → Heap → Prop) (N1 : AV → Heap → Prop) (v0 : AV) (v5 : AV) (v6 : AV) (H : Heap) : Prop :=
 lenV tab 22 v6 fun v28 =>
 binV tab .gtr 3 v28 (AV.p (.int .i64 0)) fun v29 =>
 condV v29 (indexAddrV tab 22 v6 (AV.p (.int .i64 0)) fun v34 =>
 loadV tab 3 v34 H fun v35 =>
 indexAddrV tab 24 v0 v35 fun v36 =>
 loadV tab 22 v36 H fun v37 =>
 lenV tab 22 v37 fun v38 =>
 L45_2 K N1 v0 v5 v6 v37 v38 (AV.p (.int .i64 0)) H)
 (K v5 H)
def B45_0 (K : AV → Heap → Prop) (N1 : AV → Heap → Prop) (v0 : AV) (v5 : AV) (v6 : AV) (v17 : AV) (v18 : AV) (v19 : AV) (H : Heap) : Prop :=
 binV tab .lss 3 v19 v18 fun v20 =>
 condV v20 (indexAddrV tab 22 v17 v19 fun v21 =>
 loadV tab 3 v21 H fun v22 =>
 indexAddrV tab 22 v5 v22 fun v25 =>
 storeV tab 3 v25 (AV.p (.int .i64 0)) H fun H4 =>
 binV tab .add 3 v19 (AV.p (.int .i64 1)) fun v26 =>
 N1 v26 H4)
 (L45_1 K v0 v5 v6 H)
def W45 (v0 : AV) (v1 : AV) (H : Heap) (K : AV → Heap → Prop) : Prop :=
 buildSliceV tab 22 1 [(0, (AV.p (.int .i64 (-1))))] H (wkK fun v11 H1 =>
 lenV tab 24 v0 fun v13 =>
 CallT Try.prog 46 [v11, v13] H1 fun v14 H2 =>
 CallT Try.prog 76 [v1] H2 fun v16 H3 =>
 lenV tab 22 v1 fun v18 =>
 L45_0 K v0 v14 v16 v1 v18 (AV.p (.int .i64 0)) H3)
theorem W45_wp (v0 : AV) (v1 : AV) (H : Heap) (K : AV → Heap → Prop) : wpC Try.prog tab D45 (bodyOf Try.f45) (retF tab [.tmp 4] K) (nthA [v0, v1]) H = W45 v0 v1 H K := by kernel_rfl
theorem W45_ok {v0 v1 : AV} {H : Heap} {K : AV → Heap → Prop} (h : W45 v0 v1 H K) : CallT Try.prog 45 [v0, v1] H K :=
  CallT.of_wp (D := D45) tab_ok mixed Try.func45 (c := bodyOf Try.f45) (by kernel_rfl) rfl (by kernel_rfl) (rs := #[.tmp 4]) rfl (by decide +kernel) (by kernel_rfl) (W45_wp v0 v1 H K) h
theorem L45_2_rule {K : AV → Heap → Prop} {N1 : AV → Heap → Prop} {v0 v5 v6 v37 v38 v39 : AV} {H : Heap} {σ : Type} (s0 : σ) (f6 : σ → AV) (f39 : σ → AV) (TH : σ → Heap) (pre : σ → Prop) (μ : σ → Nat)
    (h0 : pre s0 ∧ AV.wk v6 (f6 s0) ∧ AV.wk v39 (f39 s0) ∧ Heap.le (TH s0) H)
    (round : ∀ s, pre s → B45_2 K N1 (fun w6 w39 H' => ∃ s', pre s' ∧ μ s' < μ s ∧ AV.wk w6 (f6 s') ∧ AV.wk w39 (f39 s') ∧ Heap.le (TH s') H') v0 v5 (f6 s) v37 v38 (f39 s) (TH s)) :
    L45_2 K N1 v0 v5 v6 v37 v38 v39 H := by
  unfold L45_2
  exact LoopV.mk s0 (fun s => [f6 s, f39 s]) TH pre μ (fun _ => rfl) (Eq.mp (by kernel_rfl) h0) (fun s hs => Eq.mp (by kernel_rfl) (round s hs))
theorem L45_1_rule {K : AV → Heap → Prop} {v0 v5 v6 : AV} {H : Heap} {σ : Type} (s0 : σ) (f6 : σ → AV) (TH : σ → Heap) (pre : σ → Prop) (μ : σ → Nat)
    (h0 : pre s0 ∧ AV.wk v6 (f6 s0) ∧ Heap.le (TH s0) H)
    (round : ∀ s, pre s → B45_1 K (fun w6 H' => ∃ s', pre s' ∧ μ s' < μ s ∧ AV.wk w6 (f6 s') ∧ Heap.le (TH s') H') v0 v5 (f6 s) (TH s)) :
    L45_1 K v0 v5 v6 H := by
  unfold L45_1
  exact LoopV.mk s0 (fun s => [f6 s]) TH pre μ (fun _ => rfl) (Eq.mp (by kernel_rfl) h0) (fun s hs => Eq.mp (by kernel_rfl) (round s hs))
theorem L45_0_rule {K : AV → Heap → Prop} {v0 v5 v6 v17 v18 v19 : AV} {H : Heap} {σ : Type} (s0 : σ) (f19 : σ → AV) (TH : σ → Heap) (pre : σ → Prop) (μ : σ → Nat)
    (h0 : pre s0 ∧ AV.wk v19 (f19 s0) ∧ Heap.le (TH s0) H)
    (round : ∀ s, pre s → B45_0 K (fun w19 H' => ∃ s', pre s' ∧ μ s' < μ s ∧ AV.wk w19 (f19 s') ∧ Heap.le (TH s') H') v0 v5 v6 v17 v18 (f19 s) (TH s)) :
    L45_0 K v0 v5 v6 v17 v18 v19 H := by
  unfold L45_0
  exact LoopV.mk s0 (fun s => [f19 s]) TH pre μ (fun _ => rfl) (Eq.mp (by kernel_rfl) h0) (fun s hs => Eq.mp (by kernel_rfl) (round s hs))
def D46 : Info := ⟨48, fun i => if i = 9 then ([[], [], [], [1, 2], [], [], [4, 5], [1, 2, 3, 4, 5, 6], [0, 1, 2, 3, 4, 5, 6, 7], [0, 1, 2, 3, 4, 5, 6, 7, 8]], [(0, []), (1, []), (2, []), (3, []), (4, []), (5, []), (6, []), (7, []), (8, []), (9, [])]) else ([], []), fun i => if i = 8 then ([7], [8]) else ([], [])⟩
def L46_0 (K : AV → Heap → Prop) (v7 : AV) (v8 : AV) (H : Heap) : Prop := LoopV (wpC Try.prog tab D46 (cAt [1, 1, 1, 1, 1, 1, 0, 0, 0] (bodyOf Try.f46))) [7] (PostF.block 0 (PostF.thenA (wpC Try.prog tab D46 (cAt [1, 1, 1, 1, 1, 1, 1] (bodyOf Try.f46))) (retF tab [.tmp 4] K))) [8] [AV.any, AV.any, AV.any, AV.any, AV.any, AV.any, AV.any, v7, v8, AV.any, AV.any, AV.any, AV.any, AV.any, AV.any, AV.any, AV.any, AV.any, AV.any, AV.any, AV.any, AV.any, AV.any, AV.any, AV.any, AV.any, AV.any, AV.any, AV.any, AV.any, AV.any, AV.any, AV.any, AV.any, AV.any, AV.any, AV.any, AV.any, AV.any, AV.any, AV.any, AV.any, AV.any, AV.any, AV.any, AV.any, AV.any, AV.any] H
def B46_0 (K : AV → Heap → Prop) (N1 : AV → Heap → Prop) (v7 : AV) (v8 : AV) (H : Heap) : Prop :=
 lenV tab 22 v7 fun v36 =>
 binV tab .lss 3 v8 v36 fun v37 =>
 condV v37 (sliceV tab 22 v7 (some v8) none none fun v41 =>
 sliceV tab 22 v7 none (some v8) none fun v44 =>
 copyV tab 22 v41 v44 H fun v45 H4 =>
 binV tab .add 3 v8 v45 fun v46 =>
 N1 v46 H4)
 (K v7 H)
def W46 (v0 : AV) (v1 : AV) (H : Heap) (K : AV → Heap → Prop) : Prop :=
 binV tab .lss 3 v1 (AV.p (.int .i64 0)) fun v10 =>
 condV v10 (False)
 (lenV tab 22 v0 fun v14 =>
 convV tab 3 90 v14 fun v15 =>
 convV tab 3 90 v1 fun v17 =>
 CallT Try.prog 77 [v15, v17] H fun v18 H1 =>
 extractV v18 0 fun v19 =>
 extractV v18 1 fun v20 =>
 binV tab .gtr 90 v19 (AV.p (.int .u64 0)) fun v22 =>
 grdV v22 false (binV tab .gtr 90 v20 (AV.p (.int .u64 9223372036854775807)) fun v25 =>
 condV v25 (False)
 (convV tab 90 3 v20 fun v29 =>
 makeSliceV tab 22 v29 v29 H1 fun v30 H2 =>
 copyV tab 22 v30 v0 H2 fun v33 H3 =>
 L46_0 K v30 v33 H3))
 (False))
theorem W46_wp (v0 : AV) (v1 : AV) (H : Heap) (K : AV → Heap → Prop) : wpC Try.prog tab D46 (bodyOf Try.f46) (retF tab [.tmp 4] K) (nthA [v0, v1]) H = W46 v0 v1 H K := by kernel_rfl
theorem W46_ok {v0 v1 : AV} {H : Heap} {K : AV → Heap → Prop} (h : W46 v0 v1 H K) : CallT Try.prog 46 [v0, v1] H K :=
  CallT.of_wp (D := D46) tab_ok mixed Try.func46 (c := bodyOf Try.f46) (by kernel_rfl) rfl (by kernel_rfl) (rs := #[.tmp 4]) rfl (by decide +kernel) (by kernel_rfl) (W46_wp v0 v1 H K) h
theorem L46_0_rule {K : AV → Heap → Prop} {v7 v8 : AV} {H : Heap} {σ : Type} (s0 : σ) (f8 : σ → AV) (TH : σ → Heap) (pre : σ → Prop) (μ : σ → Nat)
    (h0 : pre s0 ∧ AV.wk v8 (f8 s0) ∧ Heap.le (TH s0) H)
    (round : ∀ s, pre s → B46_0 K (fun w8 H' => ∃ s', pre s' ∧ μ s' < μ s ∧ AV.wk w8 (f8 s') ∧ Heap.le (TH s') H') v7 (f8 s) (TH s)) :
    L46_0 K v7 v8 H := by
  unfold L46_0
  exact LoopV.mk s0 (fun s => [f8 s]) TH pre μ (fun _ => rfl) (Eq.mp (by kernel_rfl) h0) (fun s hs => Eq.mp (by kernel_rfl) (round s hs))
def D47 : Info := ⟨12, fun i => ([], []), fun i => ([], [])⟩
def W47 (v0 : AV) (v1 : AV) (H : Heap) (K : AV → Heap → Prop) : Prop :=
 CallT Try.prog 79 [v0] H fun v6 H1 =>
 CallT Try.prog 68 [v0, v1] H1 fun v9 H2 =>
 CallT Try.prog 80 [v9] H2 fun v10 H3 =>
 CallT Try.prog 78 [v6, v10] H3 fun v11 H4 =>
 K v11 H4
theorem W47_wp (v0 : AV) (v1 : AV) (H : Heap) (K : AV → Heap → Prop) : wpC Try.prog tab D47 (bodyOf Try.f47) (retF tab [.tmp 4] K) (nthA [v0, v1]) H = W47 v0 v1 H K := by kernel_rfl
theorem W47_ok {v0 v1 : AV} {H : Heap} {K : AV → Heap → Prop} (h : W47 v0 v1 H K) : CallT Try.prog 47 [v0, v1] H K :=
  CallT.of_wp (D := D47) tab_ok mixed Try.func47 (c := bodyOf Try.f47) (by kernel_rfl) rfl (by kernel_rfl) (rs := #[.tmp 4]) rfl (by decide +kernel) (by kernel_rfl) (W47_wp v0 v1 H K) h
def D48 : Info := ⟨28, fun i => ([], []), fun i => if i = 3 then ([1, 8, 9], [4, 10]) else ([], [])⟩
def L48_0 (K : AV → Heap → Prop) (v1 : AV) (v4 : AV) (v8 : AV) (v9 : AV) (v10 : AV) (H : Heap) : Prop := LoopV (wpC Try.prog tab D48 (cAt [1, 1, 0, 1, 0, 0] (bodyOf Try.f48))) [1, 8, 9] (PostF.block 0 (PostF.thenA (wpC Try.prog tab D48 (cAt [1, 1, 1] (bodyOf Try.f48))) (retF tab [.tmp 3] K))) [4, 10] [AV.any, v1, AV.any, AV.any, v4, AV.any, AV.any, AV.any, v8, v9, v10, AV.any, AV.any, AV.any, AV.any, AV.any, AV.any, AV.any, AV.any, AV.any, AV.any, AV.any, AV.any, AV.any, AV.any, AV.any, AV.any, AV.any] H
def B48_0 (K : AV → Heap → Prop) (N1 : AV → AV → Heap → Prop) (v1 : AV) (v4 : AV) (v8 : AV) (v9 : AV) (v10 : AV) (H : Heap) : Prop :=
 binV tab .lss 3 v10 v9 fun v11 =>
 condV v11 (indexAddrV tab 22 v8 v10 fun v12 =>
 loadV tab 3 v12 H fun v13 =>
 loadV tab 22 v1 H fun v14 =>
 indexAddrV tab 22 v14 v13 fun v16 =>
 loadV tab 3 v16 H fun v17 =>
 binV tab .geq 3 v17 (AV.p (.int .i64 0)) fun v18 =>
 condV v18 (loadV tab 22 v1 H fun v20 =>
 indexAddrV tab 22 v20 v13 fun v22 =>
 loadV tab 3 v22 H fun v23 =>
 buildSliceV tab 22 1 [(0, v23)] H (wkK fun v24 H2 =>
 appendV tab 22 22 v4 v24 H2 (wkK fun v25 H3 =>
 binV tab .add 3 v10 (AV.p (.int .i64 1)) fun v26 =>
 N1 v25 v26 H3)))
 (binV tab .add 3 v10 (AV.p (.int .i64 1)) fun v26 =>
 N1 v4 v26 H))
 (K v4 H)
def W48 (v0 : AV) (v1 : AV) (H : Heap) (K : AV → Heap → Prop) : Prop :=
 buildSliceV tab 22 0 [] H (wkK fun v7 H1 =>
 lenV tab 22 v0 fun v9 =>
 L48_0 K v1 v7 v0 v9 (AV.p (.int .i64 0)) H1)
theorem W48_wp (v0 : AV) (v1 : AV) (H : Heap) (K : AV → Heap → Prop) : wpC Try.prog tab D48 (bodyOf Try.f48) (retF tab [.tmp 3] K) (nthA [v0, v1]) H = W48 v0 v1 H K := by kernel_rfl
theorem W48_ok {v0 v1 : AV} {H : Heap} {K : AV → Heap → Prop} (h : W48 v0 v1 H K) : CallT Try.prog 48 [v0, v1] H K :=
  CallT.of_wp (D := D48) tab_ok mixed Try.func48 (c := bodyOf Try.f48) (by kernel_rfl) rfl (by kernel_rfl) (rs := #[.tmp 3]) rfl (by decide +kernel) (by kernel_rfl) (W48_wp v0 v1 H K) h
theorem L48_0_rule {K : AV → Heap → Prop} {v1 v4 v8 v9 v10 : AV} {H : Heap} {σ : Type} (s0 : σ) (f4 : σ → AV) (f10 : σ → AV) (TH : σ → Heap) (pre : σ → Prop) (μ : σ → Nat)
    (h0 : pre s0 ∧ AV.wk v4 (f4 s0) ∧ AV.wk v10 (f10 s0) ∧ Heap.le (TH s0) H)
    (round : ∀ s, pre s → B48_0 K (fun w4 w10 H' => ∃ s', pre s' ∧ μ s' < μ s ∧ AV.wk w4 (f4 s') ∧ AV.wk w10 (f10 s') ∧ Heap.le (TH s') H') v1 (f4 s) v8 v9 (f10 s) (TH s)) :
    L48_0 K v1 v4 v8 v9 v10 H := by
  unfold L48_0
  exact LoopV.mk s0 (fun s => [f4 s, f10 s]) TH pre μ (fun _ => rfl) (Eq.mp (by kernel_rfl) h0) (fun s hs => Eq.mp (by kernel_rfl) (round s hs))
def D49 : Info := ⟨19, fun i => ([], []), fun i => if i = 2 then ([0], [1, 5]) else ([], [])⟩
def L49_0 (K : AV → Heap → Prop) (v0 : AV) (v1 : AV) (v5 : AV) (H : Heap) : Prop := LoopV (wpC Try.prog tab D49 (cAt [1, 0, 1, 0, 0] (bodyOf Try.f49))) [0] (PostF.block 0 (PostF.thenA (wpC Try.prog tab D49 (cAt [1, 1] (bodyOf Try.f49))) (retF tab [.tmp 4] K))) [1, 5] [v0, v1, AV.any, AV.any, AV.any, v5, AV.any, AV.any, AV.any, AV.any, AV.any, AV.any, AV.any, AV.any, AV.any, AV.any, AV.any, AV.any, AV.any] H
def B49_0 (K : AV → Heap → Prop) (N1 : AV → AV → Heap → Prop) (v0 : AV) (v1 : AV) (v5 : AV) (H : Heap) : Prop :=
 lenV tab 22 v0 fun v8 =>
 binV tab .lss 3 v5 v8 fun v9 =>
 condV v9 (indexAddrV tab 22 v0 v5 fun v15 =>
 storeV tab 3 v15 v1 H fun H1 =>
 binV tab .add 3 v1 (AV.p (.int .i64 1)) fun v17 =>
 binV tab .add 3 v5 (AV.p (.int .i64 1)) fun v11 =>
 N1 v17 v11 H1)
 (K v1 H)
def W49 (v0 : AV) (v1 : AV) (H : Heap) (K : AV → Heap → Prop) : Prop :=
 L49_0 K v0 v1 (AV.p (.int .i64 0)) H
theorem W49_wp (v0 : AV) (v1 : AV) (H : Heap) (K : AV → Heap → Prop) : wpC Try.prog tab D49 (bodyOf Try.f49) (retF tab [.tmp 4] K) (nthA [v0, v1]) H = W49 v0 v1 H K := by kernel_rfl
theorem W49_ok {v0 v1 : AV} {H : Heap} {K : AV → Heap → Prop} (h : W49 v0 v1 H K) : CallT Try.prog 49 [v0, v1] H K :=
  CallT.of_wp (D := D49) tab_ok mixed Try.func49 (c := bodyOf Try.f49) (by kernel_rfl) rfl (by kernel_rfl) (rs := #[.tmp 4]) rfl (by decide +kernel) (by kernel_rfl) (W49_wp v0 v1 H K) h
theorem L49_0_rule {K : AV → Heap → Prop} {v0 v1 v5 : AV} {H : Heap} {σ : Type} (s0 : σ) (f1 : σ → AV) (f5 : σ → AV) (TH : σ → Heap) (pre : σ → Prop) (μ : σ → Nat)
    (h0 : pre s0 ∧ AV.wk v1 (f1 s0) ∧ AV.wk v5 (f5 s0) ∧ Heap.le (TH s0) H)
    (round : ∀ s, pre s → B49_0 K (fun w1 w5 H' => ∃ s', pre s' ∧ μ s' < μ s ∧ AV.wk w1 (f1 s') ∧ AV.wk w5 (f5 s') ∧ Heap.le (TH s') H') v0 (f1 s) (f5 s) (TH s)) :
    L49_0 K v0 v1 v5 H := by
  unfold L49_0
  exact LoopV.mk s0 (fun s => [f1 s, f5 s]) TH pre μ (fun _ => rfl) (Eq.mp (by kernel_rfl) h0) (fun s hs => Eq.mp (by kernel_rfl) (round s hs))
def D50 : Info := ⟨34, fun i => ([], []), fun i => if i = 2 then ([0], [1, 5]) else ([], [])⟩
def L50_0 (K : AV → Heap → Prop) (v0 : AV) (v1 : AV) (v5 : AV) (H : Heap) : Prop := LoopV (wpC Try.prog tab D50 (cAt [1, 0, 1, 0, 0] (bodyOf Try.f50))) [0] (PostF.block 0 (PostF.thenA (wpC Try.prog tab D50 (cAt [1, 1] (bodyOf Try.f50))) (retF tab [.tmp 4] K))) [1, 5] [v0, v1, AV.any, AV.any, AV.any, v5, AV.any, AV.any, AV.any, AV.any, AV.any, AV.any, AV.any, AV.any, AV.any, AV.any, AV.any, AV.any, AV.any, AV.any, AV.any, AV.any, AV.any, AV.any, AV.any, AV.any, AV.any, AV.any, AV.any, AV.any, AV.any, AV.any, AV.any, AV.any] H
def B50_0 (K : AV → Heap → Prop) (N1 : AV → AV → Heap → Prop) (v0 : AV) (v1 : AV) (v5 : AV) (H : Heap) : Prop :=
 lenV tab 30 v0 fun v8 =>
 binV tab .lss 3 v5 v8 fun v9 =>
 condV v9 (indexAddrV tab 30 v0 v5 fun v15 =>
 fieldAddrV tab 65 v15 0 fun v16 =>
 storeV tab 3 v16 v1 H fun H1 =>
 binV tab .add 3 v1 (AV.p (.int .i64 1)) fun v18 =>
 indexAddrV tab 30 v0 v5 fun v22 =>
 fieldAddrV tab 65 v22 1 fun v23 =>
 storeV tab 3 v23 v18 H1 fun H2 =>
 binV tab .add 3 v18 (AV.p (.int .i64 1)) fun v25 =>
 indexAddrV tab 30 v0 v5 fun v29 =>
 fieldAddrV tab 65 v29 2 fun v30 =>
 storeV tab 3 v30 v25 H2 fun H3 =>
 binV tab .add 3 v25 (AV.p (.int .i64 1)) fun v32 =>
 binV tab .add 3 v5 (AV.p (.int .i64 1)) fun v11 =>
 N1 v32 v11 H3)
 (K v1 H)
def W50 (v0 : AV) (v1 : AV) (H : Heap) (K : AV → Heap → Prop) : Prop :=
 L50_0 K v0 v1 (AV.p (.int .i64 0)) H
theorem W50_wp (v0 : AV) (v1 : AV) (H : Heap) (K : AV → Heap → Prop) : wpC Try.prog tab D50 (bodyOf Try.f50) (retF tab [.tmp 4] K) (nthA [v0, v1]) H = W50 v0 v1 H K := by kernel_rfl
theorem W50_ok {v0 v1 : AV} {H : Heap} {K : AV → Heap → Prop} (h : W50 v0 v1 H K) : CallT Try.prog 50 [v0, v1] H K :=
  CallT.of_wp (D := D50) tab_ok mixed Try.func50 (c := bodyOf Try.f50) (by kernel_rfl) rfl (by kernel_rfl) (rs := #[.tmp 4]) rfl (by decide +kernel) (by kernel_rfl) (W50_wp v0 v1 H K) h
theorem L50_0_rule {K : AV → Heap → Prop} {v0 v1 v5 : AV} {H : Heap} {σ : Type} (s0 : σ) (f1 : σ → AV) (f5 : σ → AV) (TH : σ → Heap) (pre : σ → Prop) (μ : σ → Nat)
    (h0 : pre s0 ∧ AV.wk v1 (f1 s0) ∧ AV.wk v5 (f5 s0) ∧ Heap.le (TH s0) H)
    (round : ∀ s, pre s → B50_0 K (fun w1 w5 H' => ∃ s', pre s' ∧ μ s' < μ s ∧ AV.wk w1 (f1 s') ∧ AV.wk w5 (f5 s') ∧ Heap.le (TH s') H') v0 (f1 s) (f5 s) (TH s)) :
    L50_0 K v0 v1 v5 H := by
  unfold L50_0
  exact LoopV.mk s0 (fun s => [f1 s, f5 s]) TH pre μ (fun _ => rfl) (Eq.mp (by kernel_rfl) h0) (fun s hs => Eq.mp (by kernel_rfl) (round s hs))
def D51 : Info := ⟨19, fun i => ([], []), fun i => if i = 2 then ([0], [1, 5]) else ([], [])⟩
def L51_0 (K : AV → Heap → Prop) (v0 : AV) (v1 : AV) (v5 : AV) (H : Heap) : Prop := LoopV (wpC Try.prog tab D51 (cAt [1, 0, 1, 0, 0] (bodyOf Try.f51))) [0] (PostF.block 0 (PostF.thenA (wpC Try.prog tab D51 (cAt [1, 1] (bodyOf Try.f51))) (retF tab [.tmp 4] K))) [1, 5] [v0, v1, AV.any, AV.any, AV.any, v5, AV.any, AV.any, AV.any, AV.any, AV.any, AV.any, AV.any, AV.any, AV.any, AV.any, AV.any, AV.any, AV.any] H
def B51_0 (K : AV → Heap → Prop) (N1 : AV → AV → Heap → Prop) (v0 : AV) (v1 : AV) (v5 : AV) (H : Heap) : Prop :=
 lenV tab 24 v0 fun v8 =>
 binV tab .lss 3 v5 v8 fun v9 =>
 condV v9 (indexAddrV tab 24 v0 v5 fun v14 =>
 loadV tab 22 v14 H fun v15 =>
 CallT Try.prog 49 [v15, v1] H fun v17 H1 =>
 binV tab .add 3 v5 (AV.p (.int .i64 1)) fun v11 =>
 N1 v17 v11 H1)
 (K v1 H)
def W51 (v0 : AV) (v1 : AV) (H : Heap) (K : AV → Heap → Prop) : Prop :=
 L51_0 K v0 v1 (AV.p (.int .i64 0)) H
theorem W51_wp (v0 : AV) (v1 : AV) (H : Heap) (K : AV → Heap → Prop) : wpC Try.prog tab D51 (bodyOf Try.f51) (retF tab [.tmp 4] K) (nthA [v0, v1]) H = W51 v0 v1 H K := by kernel_rfl
theorem W51_ok {v0 v1 : AV} {H : Heap} {K : AV → Heap → Prop} (h : W51 v0 v1 H K) : CallT Try.prog 51 [v0, v1] H K :=
  CallT.of_wp (D := D51) tab_ok mixed Try.func51 (c := bodyOf Try.f51) (by kernel_rfl) rfl (by kernel_rfl) (rs := #[.tmp 4]) rfl (by decide +kernel) (by kernel_rfl) (W51_wp v0 v1 H K) h
theorem L51_0_rule {K : AV → Heap → Prop} {v0 v1 v5 : AV} {H : Heap} {σ : Type} (s0 : σ) (f1 : σ → AV) (f5 : σ → AV) (TH : σ → Heap) (pre : σ → Prop) (μ : σ → Nat)
    (h0 : pre s0 ∧ AV.wk v1 (f1 s0) ∧ AV.wk v5 (f5 s0) ∧ Heap.le (TH s0) H)
    (round : ∀ s, pre s → B51_0 K (fun w1 w5 H' => ∃ s', pre s' ∧ μ s' < μ s ∧ AV.wk w1 (f1 s') ∧ AV.wk w5 (f5 s') ∧ Heap.le (TH s') H') v0 (f1 s) (f5 s) (TH s)) :
    L51_0 K v0 v1 v5 H := by
  unfold L51_0
  exact LoopV.mk s0 (fun s => [f1 s, f5 s]) TH pre μ (fun _ => rfl) (Eq.mp (by kernel_rfl) h0) (fun s hs => Eq.mp (by kernel_rfl) (round s hs))
def D52 : Info := ⟨21, fun i => ([], []), fun i => if i = 2 then ([0], [1, 5]) else ([], [])⟩
def L52_0 (K : AV → Heap → Prop) (v0 : AV) (v1 : AV) (v5 : AV) (H : Heap) : Prop := LoopV (wpC Try.prog tab D52 (cAt [1, 0, 1, 0, 0] (bodyOf Try.f52))) [0] (PostF.block 0 (PostF.thenA (wpC Try.prog tab D52 (cAt [1, 1] (bodyOf Try.f52))) (retF tab [.tmp 4] K))) [1, 5] [v0, v1, AV.any, AV.any, AV.any, v5, AV.any, AV.any, AV.any, AV.any, AV.any, AV.any, AV.any, AV.any, AV.any, AV.any, AV.any, AV.any, AV.any, AV.any, AV.any] H
def B52_0 (K : AV → Heap → Prop) (N1 : AV → AV → Heap → Prop) (v0 : AV) (v1 : AV) (v5 : AV) (H : Heap) : Prop :=
 lenV tab 22 v0 fun v8 =>
 binV tab .lss 3 v5 v8 fun v9 =>
 condV v9 (indexAddrV tab 22 v0 v5 fun v14 =>
 loadV tab 3 v14 H fun v15 =>
 binV tab .neq 3 v15 v1 fun v17 =>
 condV v17 (K (AV.p (.int .i64 (-1))) H)
 (binV tab .add 3 v1 (AV.p (.int .i64 1)) fun v19 =>
 binV tab .add 3 v5 (AV.p (.int .i64 1)) fun v11 =>
 N1 v19 v11 H))
 (K v1 H)
def W52 (v0 : AV) (v1 : AV) (H : Heap) (K : AV → Heap → Prop) : Prop :=
 L52_0 K v0 v1 (AV.p (.int .i64 0)) H
theorem W52_wp (v0 : AV) (v1 : AV) (H : Heap) (K : AV → Heap → Prop) : wpC Try.prog tab D52 (bodyOf Try.f52) (retF tab [.tmp 4] K) (nthA [v0, v1]) H = W52 v0 v1 H K := by kernel_rfl
theorem W52_ok {v0 v1 : AV} {H : Heap} {K : AV → Heap → Prop} (h : W52 v0 v1 H K) : CallT Try.prog 52 [v0, v1] H K :=
  CallT.of_wp (D := D52) tab_ok mixed Try.func52 (c := bodyOf Try.f52) (by kernel_rfl) rfl (by kernel_rfl) (rs := #[.tmp 4]) rfl (by decide +kernel) (by kernel_rfl) (W52_wp v0 v1 H K) h
theorem L52_0_rule {K : AV → Heap → Prop} {v0 v1 v5 : AV} {H : Heap} {σ : Type} (s0 : σ) (f1 : σ → AV) (f5 : σ → AV) (TH : σ → Heap) (pre : σ → Prop) (μ : σ → Nat)
    (h0 : pre s0 ∧ AV.wk v1 (f1 s0) ∧ AV.wk v5 (f5 s0) ∧ Heap.le (TH s0) H)
    (round : ∀ s, pre s → B52_0 K (fun w1 w5 H' => ∃ s', pre s' ∧ μ s' < μ s ∧ AV.wk w1 (f1 s') ∧ AV.wk w5 (f5 s') ∧ Heap.le (TH s') H') v0 (f1 s) (f5 s) (TH s)) :
    L52_0 K v0 v1 v5 H := by
  unfold L52_0
  exact LoopV.mk s0 (fun s => [f1 s, f5 s]) TH pre μ (fun _ => rfl) (Eq.mp (by kernel_rfl) h0) (fun s hs => Eq.mp (by kernel_rfl) (round s hs))
def D53 : Info := ⟨40, fun i => ([], []), fun i => if i = 2 then ([0], [1, 5]) else ([], [])⟩
def L53_0 (K : AV → Heap → Prop) (v0 : AV) (v1 : AV) (v5 : AV) (H : Heap) : Prop := LoopV (wpC Try.prog tab D53 (cAt [1, 0, 1, 0, 0] (bodyOf Try.f53))) [0] (PostF.block 0 (PostF.thenA (wpC Try.prog tab D53 (cAt [1, 1] (bodyOf Try.f53))) (retF tab [.tmp 4] K))) [1, 5] [v0, v1, AV.any, AV.any, AV.any, v5, AV.any, AV.any, AV.any, AV.any, AV.any, AV.any, AV.any, AV.any, AV.any, AV.any, AV.any, AV.any, AV.any, AV.any, AV.any, AV.any, AV.any, AV.any, AV.any, AV.any, AV.any, AV.any, AV.any, AV.any, AV.any, AV.any, AV.any, AV.any, AV.any, AV.any, AV.any, AV.any, AV.any, AV.any] H
def B53_0 (K : AV → Heap → Prop) (N1 : AV → AV → Heap → Prop) (v0 : AV) (v1 : AV) (v5 : AV) (H : Heap) : Prop :=
 lenV tab 30 v0 fun v8 =>
 binV tab .lss 3 v5 v8 fun v9 =>
 condV v9 (indexAddrV tab 30 v0 v5 fun v14 =>
 fieldAddrV tab 65 v14 0 fun v15 =>
 loadV tab 3 v15 H fun v16 =>
 binV tab .neq 3 v16 v1 fun v18 =>
 condV v18 (K (AV.p (.int .i64 (-1))) H)
 (binV tab .add 3 v1 (AV.p (.int .i64 1)) fun v20 =>
 indexAddrV tab 30 v0 v5 fun v23 =>
 fieldAddrV tab 65 v23 1 fun v24 =>
 loadV tab 3 v24 H fun v25 =>
 binV tab .neq 3 v25 v20 fun v27 =>
 condV v27 (K (AV.p (.int .i64 (-1))) H)
 (binV tab .add 3 v20 (AV.p (.int .i64 1)) fun v29 =>
 indexAddrV tab 30 v0 v5 fun v32 =>
 fieldAddrV tab 65 v32 2 fun v33 =>
 loadV tab 3 v33 H fun v34 =>
 binV tab .neq 3 v34 v29 fun v36 =>
 condV v36 (K (AV.p (.int .i64 (-1))) H)
 (binV tab .add 3 v29 (AV.p (.int .i64 1)) fun v38 =>
 binV tab .add 3 v5 (AV.p (.int .i64 1)) fun v11 =>
 N1 v38 v11 H))))
 (K v1 H)
def W53 (v0 : AV) (v1 : AV) (H : Heap) (K : AV → Heap → Prop) : Prop :=
 L53_0 K v0 v1 (AV.p (.int .i64 0)) H
theorem W53_wp (v0 : AV) (v1 : AV) (H : Heap) (K : AV → Heap → Prop) : wpC Try.prog tab D53 (bodyOf Try.f53) (retF tab [.tmp 4] K) (nthA [v0, v1]) H = W53 v0 v1 H K := by kernel_rfl
theorem W53_ok {v0 v1 : AV} {H : Heap} {K : AV → Heap → Prop} (h : W53 v0 v1 H K) : CallT Try.prog 53 [v0, v1] H K :=
  CallT.of_wp (D := D53) tab_ok mixed Try.func53 (c := bodyOf Try.f53) (by kernel_rfl) rfl (by kernel_rfl) (rs := #[.tmp 4]) rfl (by decide +kernel) (by kernel_rfl) (W53_wp v0 v1 H K) h
theorem L53_0_rule {K : AV → Heap → Prop} {v0 v1 v5 : AV} {H : Heap} {σ : Type} (s0 : σ) (f1 : σ → AV) (f5 : σ → AV) (TH : σ → Heap) (pre : σ → Prop) (μ : σ → Nat)
    (h0 : pre s0 ∧ AV.wk v1 (f1 s0) ∧ AV.wk v5 (f5 s0) ∧ Heap.le (TH s0) H)
    (round : ∀ s, pre s → B53_0 K (fun w1 w5 H' => ∃ s', pre s' ∧ μ s' < μ s ∧ AV.wk w1 (f1 s') ∧ AV.wk w5 (f5 s') ∧ Heap.le (TH s') H') v0 (f1 s) (f5 s) (TH s)) :
    L53_0 K v0 v1 v5 H := by
  unfold L53_0
  exact LoopV.mk s0 (fun s => [f1 s, f5 s]) TH pre μ (fun _ => rfl) (Eq.mp (by kernel_rfl) h0) (fun s hs => Eq.mp (by kernel_rfl) (round s hs))
def D54 : Info := ⟨21, fun i => ([], []), fun i => if i = 2 then ([0], [1, 5]) else ([], [])⟩
def L54_0 (K : AV → Heap → Prop) (v0 : AV) (v1 : AV) (v5 : AV) (H : Heap) : Prop := LoopV (wpC Try.prog tab D54 (cAt [1, 0, 1, 0, 0] (bodyOf Try.f54))) [0] (PostF.block 0 (PostF.thenA (wpC Try.prog tab D54 (cAt [1, 1] (bodyOf Try.f54))) (retF tab [.tmp 4] K))) [1, 5] [v0, v1, AV.any, AV.any, AV.any, v5, AV.any, AV.any, AV.any, AV.any, AV.any, AV.any, AV.any, AV.any, AV.any, AV.any, AV.any, AV.any, AV.any, AV.any, AV.any] H
def B54_0 (K : AV → Heap → Prop) (N1 : AV → AV → Heap → Prop) (v0 : AV) (v1 : AV) (v5 : AV) (H : Heap) : Prop :=
 lenV tab 24 v0 fun v8 =>
 binV tab .lss 3 v5 v8 fun v9 =>
 condV v9 (indexAddrV tab 24 v0 v5 fun v14 =>
 loadV tab 22 v14 H fun v15 =>
 CallT Try.prog 52 [v15, v1] H fun v17 H1 =>
 binV tab .lss 3 v17 (AV.p (.int .i64 0)) fun v19 =>
 condV v19 (K (AV.p (.int .i64 (-1))) H1)
 (binV tab .add 3 v5 (AV.p (.int .i64 1)) fun v11 =>
 N1 v17 v11 H1))
 (K v1 H)
def W54 (v0 : AV) (v1 : AV) (H : Heap) (K : AV → Heap → Prop) : Prop :=
 L54_0 K v0 v1 (AV.p (.int .i64 0)) H
theorem W54_wp (v0 : AV) (v1 : AV) (H : Heap) (K : AV → Heap → Prop) : wpC Try.prog tab D54 (bodyOf Try.f54) (retF tab [.tmp 4] K) (nthA [v0, v1]) H = W54 v0 v1 H K := by kernel_rfl
theorem W54_ok {v0 v1 : AV} {H : Heap} {K : AV → Heap → Prop} (h : W54 v0 v1 H K) : CallT Try.prog 54 [v0, v1] H K :=
  CallT.of_wp (D := D54) tab_ok mixed Try.func54 (c := bodyOf Try.f54) (by kernel_rfl) rfl (by kernel_rfl) (rs := #[.tmp 4]) rfl (by decide +kernel) (by kernel_rfl) (W54_wp v0 v1 H K) h
theorem L54_0_rule {K : AV → Heap → Prop} {v0 v1 v5 : AV} {H : Heap} {σ : Type} (s0 : σ) (f1 : σ → AV) (f5 : σ → AV) (TH : σ → Heap) (pre : σ → Prop) (μ : σ → Nat)
    (h0 : pre s0 ∧ AV.wk v1 (f1 s0) ∧ AV.wk v5 (f5 s0) ∧ Heap.le (TH s0) H)
    (round : ∀ s, pre s → B54_0 K (fun w1 w5 H' => ∃ s', pre s' ∧ μ s' < μ s ∧ AV.wk w1 (f1 s') ∧ AV.wk w5 (f5 s') ∧ Heap.le (TH s') H') v0 (f1 s) (f5 s) (TH s)) :
    L54_0 K v0 v1 v5 H := by
  unfold L54_0
  exact LoopV.mk s0 (fun s => [f1 s, f5 s]) TH pre μ (fun _ => rfl) (Eq.mp (by kernel_rfl) h0) (fun s hs => Eq.mp (by kernel_rfl) (round s hs))
def D55 : Info := ⟨15, fun i => ([], []), fun i => ([], [])⟩
def W55 (v0 : AV) (v1 : AV) (v2 : AV) (H : Heap) (K : AV → Heap → Prop) : Prop :=
 binV tab .geq 3 v0 v1 fun v9 =>
 grdV v9 true (binV tab .leq 3 v0 v2 fun v13 =>
 K v13 H)
 (K (AV.p (.bool false)) H)
theorem W55_wp (v0 : AV) (v1 : AV) (v2 : AV) (H : Heap) (K : AV → Heap → Prop) : wpC Try.prog tab D55 (bodyOf Try.f55) (retF tab [.tmp 6] K) (nthA [v0, v1, v2]) H = W55 v0 v1 v2 H K := by kernel_rfl
theorem W55_ok {v0 v1 v2 : AV} {H : Heap} {K : AV → Heap → Prop} (h : W55 v0 v1 v2 H K) : CallT Try.prog 55 [v0, v1, v2] H K :=
  CallT.of_wp (D := D55) tab_ok mixed Try.func55 (c := bodyOf Try.f55) (by kernel_rfl) rfl (by kernel_rfl) (rs := #[.tmp 6]) rfl (by decide +kernel) (by kernel_rfl) (W55_wp v0 v1 v2 H K) h
def D56 : Info := ⟨9, fun i => ([], []), fun i => ([], [])⟩
def W56 (v0 : AV) (v1 : AV) (H : Heap) (K : AV → Heap → Prop) : Prop :=
 binV tab .sub 3 v1 (AV.p (.int .i64 1)) fun v7 =>
 CallT Try.prog 81 [v0, (AV.p (.int .i64 0)), v7] H fun v8 H1 =>
 K v8 H1
theorem W56_wp (v0 : AV) (v1 : AV) (H : Heap) (K : AV → Heap → Prop) : wpC Try.prog tab D56 (bodyOf Try.f56) (retF tab [.tmp 4] K) (nthA [v0, v1]) H = W56 v0 v1 H K := by kernel_rfl
theorem W56_ok {v0 v1 : AV} {H : Heap} {K : AV → Heap → Prop} (h : W56 v0 v1 H K) : CallT Try.prog 56 [v0, v1] H K :=
  CallT.of_wp (D := D56) tab_ok mixed Try.func56 (c := bodyOf Try.f56) (by kernel_rfl) rfl (by kernel_rfl) (rs := #[.tmp 4]) rfl (by decide +kernel) (by kernel_rfl) (W56_wp v0 v1 H K) h
def D57 : Info := ⟨21, fun i => ([], []), fun i => if i = 4 then ([1, 10, 11], [12]) else ([], [])⟩
def L57_0 (K : AV → Heap → Prop) (v1 : AV) (v10 : AV) (v11 : AV) (v12 : AV) (H : Heap) : Prop := LoopV (wpC Try.prog tab D57 (cAt [1, 1, 0, 1, 0, 0] (bodyOf Try.f57))) [1, 10, 11] (PostF.block 0 (PostF.thenA (wpC Try.prog tab D57 (cAt [1, 1, 1] (bodyOf Try.f57))) (retF tab [.tmp 4] K))) [12] [AV.any, v1, AV.any, AV.any, AV.any, AV.any, AV.any, AV.any, AV.any, AV.any, v10, v11, v12, AV.any, AV.any, AV.any, AV.any, AV.any, AV.any, AV.any, AV.any] H
def B57_0 (K : AV → Heap → Prop) (N1 : AV → Heap → Prop) (v1 : AV) (v10 : AV) (v11 : AV) (v12 : AV) (H : Heap) : Prop :=
 binV tab .lss 3 v12 v11 fun v13 =>
 condV v13 (indexAddrV tab 24 v10 v12 fun v14 =>
 loadV tab 22 v14 H fun v15 =>
 CallT Try.prog 56 [v15, v1] H fun v18 H1 =>
 unV .not v18 fun v19 =>
 condV v19 (K (AV.p (.bool false)) H1)
 (binV tab .add 3 v12 (AV.p (.int .i64 1)) fun v20 =>
 N1 v20 H1))
 (K (AV.p (.bool true)) H)
def W57 (v0 : AV) (v1 : AV) (H : Heap) (K : AV → Heap → Prop) : Prop :=
 lenV tab 24 v0 fun v8 =>
 binV tab .gtr 3 v8 (AV.p (.int .i64 6)) fun v9 =>
 condV v9 (K (AV.p (.bool false)) H)
 (lenV tab 24 v0 fun v11 =>
 L57_0 K v1 v0 v11 (AV.p (.int .i64 0)) H)
theorem W57_wp (v0 : AV) (v1 : AV) (H : Heap) (K : AV → Heap → Prop) : wpC Try.prog tab D57 (bodyOf Try.f57) (retF tab [.tmp 4] K) (nthA [v0, v1]) H = W57 v0 v1 H K := by kernel_rfl
theorem W57_ok {v0 v1 : AV} {H : Heap} {K : AV → Heap → Prop} (h : W57 v0 v1 H K) : CallT Try.prog 57 [v0, v1] H K :=
  CallT.of_wp (D := D57) tab_ok mixed Try.func57 (c := bodyOf Try.f57) (by kernel_rfl) rfl (by kernel_rfl) (rs := #[.tmp 4]) rfl (by decide +kernel) (by kernel_rfl) (W57_wp v0 v1 H K) h
theorem L57_0_rule {K : AV → Heap → Prop} {v1 v10 v11 v12 : AV} {H : Heap} {σ : Type} (s0 : σ) (f12 : σ → AV) (TH : σ → Heap) (pre : σ → Prop) (μ : σ → Nat)
    (h0 : pre s0 ∧ AV.wk v12 (f12 s0) ∧ Heap.le (TH s0) H)
    (round : ∀ s, pre s → B57_0 K (fun w12 H' => ∃ s', pre s' ∧ μ s' < μ s ∧ AV.wk w12 (f12 s') ∧ Heap.le (TH s') H') v1 v10 v11 (f12 s) (TH s)) :
    L57_0 K v1 v10 v11 v12 H := by
  unfold L57_0
  exact LoopV.mk s0 (fun s => [f12 s]) TH pre μ (fun _ => rfl) (Eq.mp (by kernel_rfl) h0) (fun s hs => Eq.mp (by kernel_rfl) (round s hs))
def D58 : Info := ⟨30, fun i => ([], []), fun i => ([], [])⟩
def W58 (v0 : AV) (v1 : AV) (H : Heap) (K : AV → Heap → Prop) : Prop :=
 boxV v0 H fun v2 H1 =>
 boxV v1 H1 fun v3 H2 =>
 fieldAddrV tab 65 v2 0 fun v5 =>
 loadV tab 3 v5 H2 fun v6 =>
 fieldAddrV tab 65 v3 0 fun v7 =>
 loadV tab 3 v7 H2 fun v8 =>
 binV tab .neq 3 v6 v8 fun v9 =>
 condV v9 (fieldAddrV tab 65 v2 0 fun v10 =>
 loadV tab 3 v10 H2 fun v11 =>
 fieldAddrV tab 65 v3 0 fun v12 =>
 loadV tab 3 v12 H2 fun v13 =>
 binV tab .lss 3 v11 v13 fun v14 =>
 K v14 H2)
 (fieldAddrV tab 65 v2 1 fun v15 =>
 loadV tab 3 v15 H2 fun v16 =>
 fieldAddrV tab 65 v3 1 fun v17 =>
 loadV tab 3 v17 H2 fun v18 =>
 binV tab .neq 3 v16 v18 fun v19 =>
 condV v19 (fieldAddrV tab 65 v2 1 fun v20 =>
 loadV tab 3 v20 H2 fun v21 =>
 fieldAddrV tab 65 v3 1 fun v22 =>
 loadV tab 3 v22 H2 fun v23 =>
 binV tab .lss 3 v21 v23 fun v24 =>
 K v24 H2)
 (fieldAddrV tab 65 v2 2 fun v25 =>
 loadV tab 3 v25 H2 fun v26 =>
 fieldAddrV tab 65 v3 2 fun v27 =>
 loadV tab 3 v27 H2 fun v28 =>
 binV tab .lss 3 v26 v28 fun v29 =>
 K v29 H2))
theorem W58_wp (v0 : AV) (v1 : AV) (H : Heap) (K : AV → Heap → Prop) : wpC Try.prog tab D58 (bodyOf Try.f58) (retF tab [.tmp 4] K) (nthA [v0, v1]) H = W58 v0 v1 H K := by kernel_rfl
theorem W58_ok {v0 v1 : AV} {H : Heap} {K : AV → Heap → Prop} (h : W58 v0 v1 H K) : CallT Try.prog 58 [v0, v1] H K :=
  CallT.of_wp (D := D58) tab_ok mixed Try.func58 (c := bodyOf Try.f58) (by kernel_rfl) rfl (by kernel_rfl) (rs := #[.tmp 4]) rfl (by decide +kernel) (by kernel_rfl) (W58_wp v0 v1 H K) h
def D59 : Info := ⟨73, fun i => ([], []), fun i => if i = 3 then ([0, 1, 5, 17], [18]) else if i = 8 then ([0, 1, 5, 25, 26], [27]) else if i = 13 then ([0, 5], [9]) else if i = 17 then ([0, 5, 10, 48, 49], [9, 50]) else ([], [])⟩
def L59_0 (K : AV → Heap → Prop) (v0 : AV) (v1 : AV) (v5 : AV) (v17 : AV) (v18 : AV) (H : Heap) : Prop := LoopV (wpC Try.prog tab D59 (cAt [1, 1, 0, 1, 0, 0] (bodyOf Try.f59))) [0, 1, 5, 17] (PostF.block 0 (PostF.thenA (wpC Try.prog tab D59 (cAt [1, 1, 1] (bodyOf Try.f59))) (retF tab [.tmp 4] K))) [18] [v0, v1, AV.any, AV.any, AV.any, v5, AV.any, AV.any, AV.any, AV.any, AV.any, AV.any, AV.any, AV.any, AV.any, AV.any, AV.any, v17, v18, AV.any, AV.any, AV.any, AV.any, AV.any, AV.any, AV.any, AV.any, AV.any, AV.any, AV.any, AV.any, AV.any, AV.any, AV.any, AV.any, AV.any, AV.any, AV.any, AV.any, AV.any, AV.any, AV.any, AV.any, AV.any, AV.any, AV.any, AV.any, AV.any, AV.any, AV.any, AV.any, AV.any, AV.any, AV.any, AV.any, AV.any, AV.any, AV.any, AV.any, AV.any, AV.any, AV.any, AV.any, AV.any, AV.any, AV.any, AV.any, AV.any, AV.any, AV.any, AV.any, AV.any, AV.any] H
def L59_1 (K : AV → Heap → Prop) (v0 : AV) (v1 : AV) (v5 : AV) (v25 : AV) (v26 : AV) (v27 : AV) (H : Heap) : Prop := LoopV (wpC Try.prog tab D59 (cAt [1, 1, 1, 0, 1, 0, 0] (bodyOf Try.f59))) [0, 1, 5, 25, 26] (PostF.block 2 (PostF.thenA (wpC Try.prog tab D59 (cAt [1, 1, 1, 1] (bodyOf Try.f59))) (retF tab [.tmp 4] K))) [27] [v0, v1, AV.any, AV.any, AV.any, v5, AV.any, AV.any, AV.any, AV.any, AV.any, AV.any, AV.any, AV.any, AV.any, AV.any, AV.any, AV.any, AV.any, AV.any, AV.any, AV.any, AV.any, AV.any, AV.any, v25, v26, v27, AV.any, AV.any, AV.any, AV.any, AV.any, AV.any, AV.any, AV.any, AV.any, AV.any, AV.any, AV.any, AV.any, AV.any, AV.any, AV.any, AV.any, AV.any, AV.any, AV.any, AV.any, AV.any, AV.any, AV.any, AV.any, AV.any, AV.any, AV.any, AV.any, AV.any, AV.any, AV.any, AV.any, AV.any, AV.any, AV.any, AV.any, AV.any, AV.any, AV.any, AV.any, AV.any, AV.any, AV.any, AV.any] H
def L59_2 (K : AV → Heap → Prop) (v0 : AV) (v5 : AV) (v9 : AV) (H : Heap) : Prop := LoopV (wpC Try.prog tab D59 (cAt [1, 1, 1, 1, 1, 0, 0, 0] (bodyOf Try.f59))) [0, 5] (PostF.block 4 (PostF.thenA (wpC Try.prog tab D59 (cAt [1, 1, 1, 1, 1, 1] (bodyOf Try.f59))) (retF tab [.tmp 4] K))) [9] [v0, AV.any, AV.any, AV.any, AV.any, v5, AV.any, AV.any, AV.any, v9, AV.any, AV.any, AV.any, AV.any, AV.any, AV.any, AV.any, AV.any, AV.any, AV.any, AV.any, AV.any, AV.any, AV.any, AV.any, AV.any, AV.any, AV.any, AV.any, AV.any, AV.any, AV.any, AV.any, AV.any, AV.any, AV.any, AV.any, AV.any, AV.any, AV.any, AV.any, AV.any, AV.any, AV.any, AV.any, AV.any, AV.any, AV.any, AV.any, AV.any, AV.any, AV.any, AV.any, AV.any, AV.any, AV.any, AV.any, AV.any, AV.any, AV.any, AV.any, AV.any, AV.any, AV.any, AV.any, AV.any, AV.any, AV.any, AV.any, AV.any, AV.any, AV.any, AV.any] H
def L59_3 (K : AV → Heap → Prop) (N1 : AV → Heap → Prop) (v0 : AV) (v5 : AV) (v9 : AV) (v10 : AV) (v48 : AV) (v49 : AV) (v50 : AV) (H : Heap) : Prop := LoopV (wpC Try.prog tab D59 (cAt [1, 1, 1, 1, 1, 0, 0, 0, 1, 0, 1, 1, 1, 0, 0] (bodyOf Try.f59))) [0, 5, 10, 48, 49] (PostF.block 6 (PostF.block 5 (loopF (PostF.block 4 (PostF.thenA (wpC Try.prog tab D59 (cAt [1, 1, 1, 1, 1, 1] (bodyOf Try.f59))) (retF tab [.tmp 4] K))) (fun e h => N1 (e 9) h)))) [9, 50] [v0, AV.any, AV.any, AV.any, AV.any, v5, AV.any, AV.any, AV.any, v9, v10, AV.any, AV.any, AV.any, AV.any, AV.any, AV.any, AV.any, AV.any, AV.any, AV.any, AV.any, AV.any, AV.any, AV.any, AV.any, AV.any, AV.any, AV.any, AV.any, AV.any, AV.any, AV.any, AV.any, AV.any, AV.any, AV.any, AV.any, AV.any, AV.any, AV.any, AV.any, AV.any, AV.any, AV.any, AV.any, AV.any, AV.any, v48, v49, v50, AV.any, AV.any, AV.any, AV.any, AV.any, AV.any, AV.any, AV.any, AV.any, AV.any, AV.any, AV.any, AV.any, AV.any, AV.any, AV.any, AV.any, AV.any, AV.any, AV.any, AV.any, AV.any] H
def B59_3 (K : AV → Heap → Prop) (N1 : AV → Heap → Prop) (N2 : AV → AV → Heap → Prop) (v0 : AV) (v5 : AV) (v9 : AV) (v10 : AV) (v48 : AV) (v49 : AV) (v50 : AV) (H : Heap) : Prop :=
 binV tab .lss 3 v50 v49 fun v51 =>
 condV v51 (indexAddrV tab 22 v48 v50 fun v52 =>
 loadV tab 3 v52 H fun v53 =>
 indexAddrV tab 22 v5 v53 fun v56 =>
 loadV tab 3 v56 H fun v57 =>
 binV tab .lss 3 v57 (AV.p (.int .i64 0)) fun v58 =>
 condV v58 (indexAddrV tab 22 v5 v10 fun v63 =>
 loadV tab 3 v63 H fun v64 =>
 binV tab .add 3 v64 (AV.p (.int .i64 1)) fun v65 =>
 indexAddrV tab 22 v5 v53 fun v66 =>
 storeV tab 3 v66 v65 H fun H5 =>
 buildSliceV tab 22 1 [(0, v53)] H5 (wkK fun v69 H6 =>
 appendV tab 22 22 v9 v69 H6 (wkK fun v70 H7 =>
 binV tab .add 3 v50 (AV.p (.int .i64 1)) fun v71 =>
 N2 v70 v71 H7)))
 (binV tab .add 3 v50 (AV.p (.int .i64 1)) fun v71 =>
 N2 v9 v71 H))
 (N1 v9 H)
def B59_2 (K : AV → Heap → Prop) (N1 : AV → Heap → Prop) (v0 : AV) (v5 : AV) (v9 : AV) (H : Heap) : Prop :=
 lenV tab 22 v9 fun v38 =>
 binV tab .gtr 3 v38 (AV.p (.int .i64 0)) fun v39 =>
 condV v39 (indexAddrV tab 22 v9 (AV.p (.int .i64 0)) fun v41 =>
 loadV tab 3 v41 H fun v42 =>
 sliceV tab 22 v9 (some (AV.p (.int .i64 1))) none none fun v44 =>
 indexAddrV tab 24 v0 v42 fun v47 =>
 loadV tab 22 v47 H fun v48 =>
 lenV tab 22 v48 fun v49 =>
 L59_3 K N1 v0 v5 v44 v42 v48 v49 (AV.p (.int .i64 0)) H)
 (K v5 H)
def B59_1 (K : AV → Heap → Prop) (N1 : AV → Heap → Prop) (v0 : AV) (v1 : AV) (v5 : AV) (v25 : AV) (v26 : AV) (v27 : AV) (H : Heap) : Prop :=
 binV tab .lss 3 v27 v26 fun v28 =>
 condV v28 (indexAddrV tab 22 v25 v27 fun v29 =>
 loadV tab 3 v29 H fun v30 =>
 indexAddrV tab 22 v5 v30 fun v33 =>
 storeV tab 3 v33 (AV.p (.int .i64 0)) H fun H3 =>
 binV tab .add 3 v27 (AV.p (.int .i64 1)) fun v34 =>
 N1 v34 H3)
 (CallT Try.prog 82 [v1] H fun v36 H4 =>
 L59_2 K v0 v5 v36 H4)
def B59_0 (K : AV → Heap → Prop) (N1 : AV → Heap → Prop) (v0 : AV) (v1 : AV) (v5 : AV) (v17 : AV) (v18 : AV) (H : Heap) : Prop :=
 binV tab .lss 3 v18 v17 fun v19 =>
 condV v19 (indexAddrV tab 22 v5 v18 fun v23 =>
 storeV tab 3 v23 (AV.p (.int .i64 (-1))) H fun H2 =>
 binV tab .add 3 v18 (AV.p (.int .i64 1)) fun v24 =>
 N1 v24 H2)
 (lenV tab 22 v1 fun v26 =>
 L59_1 K v0 v1 v5 v1 v26 (AV.p (.int .i64 0)) H)
def W59 (v0 : AV) (v1 : AV) (H : Heap) (K : AV → Heap → Prop) : Prop :=
 lenV tab 24 v0 fun v14 =>
 makeSliceV tab 22 v14 v14 H fun v15 H1 =>
 lenV tab 22 v15 fun v17 =>
 L59_0 K v0 v1 v15 v17 (AV.p (.int .i64 0)) H1
theorem W59_wp (v0 : AV) (v1 : AV) (H : Heap) (K : AV → Heap → Prop) : wpC Try.prog tab D59 (bodyOf Try.f59) (retF tab [.tmp 4] K) (nthA [v0, v1]) H = W59 v0 v1 H K := by kernel_rfl
theorem W59_ok {v0 v1 : AV} {H : Heap} {K : AV → Heap → Prop} (h : W59 v0 v1 H K) : CallT Try.prog 59 [v0, v1] H K :=
  CallT.of_wp (D := D59) tab_ok mixed Try.func59 (c := bodyOf Try.f59) (by kernel_rfl) rfl (by kernel_rfl) (rs := #[.tmp 4]) rfl (by decide +kernel) (by kernel_rfl) (W59_wp v0 v1 H K) h
theorem L59_3_rule {K : AV → Heap → Prop} {N1 : AV → Heap → Prop} {v0 v5 v9 v10 v48 v49 v50 : AV} {H : Heap} {σ : Type} (s0 : σ) (f9 : σ → AV) (f50 : σ → AV) (TH : σ → Heap) (pre : σ → Prop) (μ : σ → Nat)
    (h0 : pre s0 ∧ AV.wk v9 (f9 s0) ∧ AV.wk v50 (f50 s0) ∧ Heap.le (TH s0) H)
    (round : ∀ s, pre s → B59_3 K N1 (fun w9 w50 H' => ∃ s', pre s' ∧ μ s' < μ s ∧ AV.wk w9 (f9 s') ∧ AV.wk w50 (f50 s') ∧ Heap.le (TH s') H') v0 v5 (f9 s) v10 v48 v49 (f50 s) (TH s)) :
    L59_3 K N1 v0 v5 v9 v10 v48 v49 v50 H := by
  unfold L59_3
  exact LoopV.mk s0 (fun s => [f9 s, f50 s]) TH pre μ (fun _ => rfl) (Eq.mp (by kernel_rfl) h0) (fun s hs => Eq.mp (by kernel_rfl) (round s hs))
theorem L59_2_rule {K : AV → Heap → Prop} {v0 v5 v9 : AV} {H : Heap} {σ : Type} (s0 : σ) (f9 : σ → AV) (TH : σ → Heap) (pre : σ → Prop) (μ : σ → Nat)
    (h0 : pre s0 ∧ AV.wk v9 (f9 s0) ∧ Heap.le (TH s0) H)
    (round : ∀ s, pre s → B59_2 K (fun w9 H' => ∃ s', pre s' ∧ μ s' < μ s ∧ AV.wk w9 (f9 s') ∧ Heap.le (TH s') H') v0 v5 (f9 s) (TH s)) :
    L59_2 K v0 v5 v9 H := by
  unfold L59_2
  exact LoopV.mk s0 (fun s => [f9 s]) TH pre μ (fun _ => rfl) (Eq.mp (by kernel_rfl) h0) (fun s hs => Eq.mp (by kernel_rfl) (round s hs))
theorem L59_1_rule {K : AV → Heap → Prop} {v0 v1 v5 v25 v26 v27 : AV} {H : Heap} {σ : Type} (s0 : σ) (f27 : σ → AV) (TH : σ → Heap) (pre : σ → Prop) (μ : σ → Nat)
    (h0 : pre s0 ∧ AV.wk v27 (f27 s0) ∧ Heap.le (TH s0) H)
    (round : ∀ s, pre s → B59_1 K (fun w27 H' => ∃ s', pre s' ∧ μ s' < μ s ∧ AV.wk w27 (f27 s') ∧ Heap.le (TH s') H') v0 v1 v5 v25 v26 (f27 s) (TH s)) :
    L59_1 K v0 v1 v5 v25 v26 v27 H := by
  unfold L59_1
  exact LoopV.mk s0 (fun s => [f27 s]) TH pre μ (fun _ => rfl) (Eq.mp (by kernel_rfl) h0) (fun s hs => Eq.mp (by kernel_rfl) (round s hs))
theorem L59_0_rule {K : AV → Heap → Prop} {v0 v1 v5 v17 v18 : AV} {H : Heap} {σ : Type} (s0 : σ) (f18 : σ → AV) (TH : σ → Heap) (pre : σ → Prop) (μ : σ → Nat)
    (h0 : pre s0 ∧ AV.wk v18 (f18 s0) ∧ Heap.le (TH s0) H)
    (round : ∀ s, pre s → B59_0 K (fun w18 H' => ∃ s', pre s' ∧ μ s' < μ s ∧ AV.wk w18 (f18 s') ∧ Heap.le (TH s') H') v0 v1 v5 v17 (f18 s) (TH s)) :
    L59_0 K v0 v1 v5 v17 v18 H := by
  unfold L59_0
  exact LoopV.mk s0 (fun s => [f18 s]) TH pre μ (fun _ => rfl) (Eq.mp (by kernel_rfl) h0) (fun s hs => Eq.mp (by kernel_rfl) (round s hs))
end Go.Proofs.Ytolffbcnbcjeaaa
namespace Go.Proofs.Ytolffbcnbcjeaaa
open Go Go.Sep
attribute [local irreducible] wpC headF
def D61 : Info := ⟨91, fun i => if i = 7 then ([[], [0], [], [2], [2, 3], [0, 1, 2, 3, 4], [0, 1, 2, 3, 4, 5], [0, 1, 2, 3, 4, 5, 6]], [(0, []), (2, []), (3, []), (1, [4]), (4, [4]), (5, []), (6, []), (7, [])]) else ([], []), fun i => if i = 3 then ([0, 3, 20], [21]) else if i = 10 then ([0, 3, 5, 6], [7]) else if i = 16 then ([0, 3, 5, 6, 7, 65, 66], [8, 67]) else if i = 22 then ([0, 3, 5, 6, 7, 8, 79, 80], [81]) else ([], [])⟩
def L61_0 (K : AV → Heap → Prop) (v0 : AV) (v3 : AV) (v20 : AV) (v21 : AV) (H : Heap) : Prop := LoopV (wpC Try.prog tab D61 (cAt [1, 1, 0, 1, 0, 0] (bodyOf Try.f61))) [0, 3, 20] (PostF.block 0 (PostF.thenA (wpC Try.prog tab D61 (cAt [1, 1, 1] (bodyOf Try.f61))) (retF tab [.tmp 2] K))) [21] [v0, AV.any, AV.any, v3, AV.any, AV.any, AV.any, AV.any, AV.any, AV.any, AV.any, AV.any, AV.any, AV.any, AV.any, AV.any, AV.any, AV.any, AV.any, AV.any, v20, v21, AV.any, AV.any, AV.any, AV.any, AV.any, AV.any, AV.any, AV.any, AV.any, AV.any, AV.any, AV.any, AV.any, AV.any, AV.any, AV.any, AV.any, AV.any, AV.any, AV.any, AV.any, AV.any, AV.any, AV.any, AV.any, AV.any, AV.any, AV.any, AV.any, AV.any, AV.any, AV.any, AV.any, AV.any, AV.any, AV.any, AV.any, AV.any, AV.any, AV.any, AV.any, AV.any, AV.any, AV.any, AV.any, AV.any, AV.any, AV.any, AV.any, AV.any, AV.any, AV.any, AV.any, AV.any, AV.any, AV.any, AV.any, AV.any, AV.any, AV.any, AV.any, AV.any, AV.any, AV.any, AV.any, AV.any, AV.any, AV.any, AV.any] H
def L61_1 (K : AV → Heap → Prop) (v0 : AV) (v3 : AV) (v5 : AV) (v6 : AV) (v7 : AV) (H : Heap) : Prop := LoopV (wpC Try.prog tab D61 (cAt [1, 1, 1, 1, 1, 0, 1, 0, 0] (bodyOf Try.f61))) [0, 3, 5, 6] (PostF.block 2 (PostF.thenA (wpC Try.prog tab D61 (cAt [1, 1, 1, 1, 1, 1] (bodyOf Try.f61))) (retF tab [.tmp 2] K))) [7] [v0, AV.any, AV.any, v3, AV.any, v5, v6, v7, AV.any, AV.any, AV.any, AV.any, AV.any, AV.any, AV.any, AV.any, AV.any, AV.any, AV.any, AV.any, AV.any, AV.any, AV.any, AV.any, AV.any, AV.any, AV.any, AV.any, AV.any, AV.any, AV.any, AV.any, AV.any, AV.any, AV.any, AV.any, AV.any, AV.any, AV.any, AV.any, AV.any, AV.any, AV.any, AV.any, AV.any, AV.any, AV.any, AV.any, AV.any, AV.any, AV.any, AV.any, AV.any, AV.any, AV.any, AV.any, AV.any, AV.any, AV.any, AV.any, AV.any, AV.any, AV.any, AV.any, AV.any, AV.any, AV.any, AV.any, AV.any, AV.any, AV.any, AV.any, AV.any, AV.any, AV.any, AV.any, AV.any, AV.any, AV.any, AV.any, AV.any, AV.any, AV.any, AV.any, AV.any, AV.any, AV.any, AV.any, AV.any, AV.any, AV.any] H
def L61_2 (K : AV → Heap → Prop) (N1 : AV → Heap → Prop) (v0 : AV) (v3 : AV) (v5 : AV) (v6 : AV) (v7 : AV) (v8 : AV) (v65 : AV) (v66 : AV) (v67 : AV) (H : Heap) : Prop := LoopV (wpC Try.prog tab D61 (cAt [1, 1, 1, 1, 1, 0, 1, 0, 0, 1, 0, 0, 1, 1, 1, 0, 1, 0, 0] (bodyOf Try.f61))) [0, 3, 5, 6, 7, 65, 66] (PostF.block 4 (PostF.thenA (wpC Try.prog tab D61 (cAt [1, 1, 1, 1, 1, 0, 1, 0, 0, 1, 0, 0, 1, 1, 1, 1] (bodyOf Try.f61))) (PostF.block 3 (PostF.thenA (wpC Try.prog tab D61 (cAt [1, 1, 1, 1, 1, 0, 1, 0, 0, 1, 1] (bodyOf Try.f61))) (loopF (PostF.block 2 (PostF.thenA (wpC Try.prog tab D61 (cAt [1, 1, 1, 1, 1, 1] (bodyOf Try.f61))) (retF tab [.tmp 2] K))) (fun e h => N1 (e 7) h)))))) [8, 67] [v0, AV.any, AV.any, v3, AV.any, v5, v6, v7, v8, AV.any, AV.any, AV.any, AV.any, AV.any, AV.any, AV.any, AV.any, AV.any, AV.any, AV.any, AV.any, AV.any, AV.any, AV.any, AV.any, AV.any, AV.any, AV.any, AV.any, AV.any, AV.any, AV.any, AV.any, AV.any, AV.any, AV.any, AV.any, AV.any, AV.any, AV.any, AV.any, AV.any, AV.any, AV.any, AV.any, AV.any, AV.any, AV.any, AV.any, AV.any, AV.any, AV.any, AV.any, AV.any, AV.any, AV.any, AV.any, AV.any, AV.any, AV.any, AV.any, AV.any, AV.any, AV.any, AV.any, v65, v66, v67, AV.any, AV.any, AV.any, AV.any, AV.any, AV.any, AV.any, AV.any, AV.any, AV.any, AV.any, AV.any, AV.any, AV.any, AV.any, AV.any, AV.any, AV.any, AV.any, AV.any, AV.any, AV.any, AV.any] H
def L61_3 (K : AV → Heap → Prop) (N1 : AV → Heap → Prop) (v0 : AV) (v3 : AV) (v5 : AV) (v6 : AV) (v7 : AV) (v8 : AV) (v79 : AV) (v80 : AV) (v81 : AV) (H : Heap) : Prop := LoopV (wpC Try.prog tab D61 (cAt [1, 1, 1, 1, 1, 0, 1, 0, 0, 1, 0, 0, 1, 1, 1, 1, 1, 0, 0] (bodyOf Try.f61))) [0, 3, 5, 6, 7, 8, 79, 80] (PostF.block 6 (PostF.block 3 (PostF.thenA (wpC Try.prog tab D61 (cAt [1, 1, 1, 1, 1, 0, 1, 0, 0, 1, 1] (bodyOf Try.f61))) (loopF (PostF.block 2 (PostF.thenA (wpC Try.prog tab D61 (cAt [1, 1, 1, 1, 1, 1] (bodyOf Try.f61))) (retF tab [.tmp 2] K))) (fun e h => N1 (e 7) h))))) [81] [v0, AV.any, AV.any, v3, AV.any, v5, v6, v7, v8, AV.any, AV.any, AV.any, AV.any, AV.any, AV.any, AV.any, AV.any, AV.any, AV.any, AV.any, AV.any, AV.any, AV.any, AV.any, AV.any, AV.any, AV.any, AV.any, AV.any, AV.any, AV.any, AV.any, AV.any, AV.any, AV.any, AV.any, AV.any, AV.any, AV.any, AV.any, AV.any, AV.any, AV.any, AV.any, AV.any, AV.any, AV.any, AV.any, AV.any, AV.any, AV.any, AV.any, AV.any, AV.any, AV.any, AV.any, AV.any, AV.any, AV.any, AV.any, AV.any, AV.any, AV.any, AV.any, AV.any, AV.any, AV.any, AV.any, AV.any, AV.any, AV.any, AV.any, AV.any, AV.any, AV.any, AV.any, AV.any, AV.any, AV.any, v79, v80, v81, AV.any, AV.any, AV.any, AV.any, AV.any, AV.any, AV.any, AV.any, AV.any] H
def B61_3 (K : AV → Heap → Prop) (N1 : AV → Heap → Prop) (N2 : AV → Heap → Prop) (v0 : AV) (v3 : AV) (v5 : AV) (v6 : AV) (v7 : AV) (v8 : AV) (v79 : AV) (v80 : AV) (v81 : AV) (H : Heap) : Prop :=
 binV tab .lss 3 v81 v80 fun v82 =>
 condV v82 (indexAddrV tab 22 v79 v81 fun v83 =>
 loadV tab 3 v83 H fun v84 =>
 indexAddrV tab 22 v6 v84 fun v88 =>
 storeV tab 3 v88 v8 H fun H10 =>
 binV tab .add 3 v81 (AV.p (.int .i64 1)) fun v89 =>
 N2 v89 H10)
 (binV tab .sub 3 v7 (AV.p (.int .i64 1)) fun v47 =>
 N1 v47 H)
def B61_2 (K : AV → Heap → Prop) (N1 : AV → Heap → Prop) (N2 : AV → AV → Heap → Prop) (v0 : AV) (v3 : AV) (v5 : AV) (v6 : AV) (v7 : AV) (v8 : AV) (v65 : AV) (v66 : AV) (v67 : AV) (H : Heap) : Prop :=
 binV tab .lss 3 v67 v66 fun v68 =>
 condV v68 (indexAddrV tab 22 v65 v67 fun v69 =>
 loadV tab 3 v69 H fun v70 =>
 binV tab .lss 3 v70 v8 fun v73 =>
 condV v73 (binV tab .add 3 v67 (AV.p (.int .i64 1)) fun v75 =>
 N2 v70 v75 H)
 (binV tab .add 3 v67 (AV.p (.int .i64 1)) fun v75 =>
 N2 v8 v75 H))
 (nilCheckV v5 fun v77 =>
 fieldAddrV tab 96 v77 2 fun v78 =>
 loadV tab 22 v78 H fun v79 =>
 lenV tab 22 v79 fun v80 =>
 L61_3 K N1 v0 v3 v5 v6 v7 v8 v79 v80 (AV.p (.int .i64 0)) H)
def B61_1 (K : AV → Heap → Prop) (N1 : AV → Heap → Prop) (v0 : AV) (v3 : AV) (v5 : AV) (v6 : AV) (v7 : AV) (H : Heap) : Prop :=
 binV tab .geq 3 v7 (AV.p (.int .i64 0)) fun v45 =>
 condV v45 (nilCheckV v5 fun v49 =>
 fieldAddrV tab 96 v49 2 fun v50 =>
 storeV tab 22 v50 (AV.p .nil) H fun H8 =>
 nilCheckV v3 fun v53 =>
 fieldAddrV tab 96 v53 2 fun v54 =>
 loadV tab 22 v54 H8 fun v55 =>
 indexAddrV tab 22 v55 v7 fun v57 =>
 loadV tab 3 v57 H8 fun v58 =>
 CallT Try.prog 83 [v5, v58] H8 fun v59 H9 =>
 lenV tab 24 v0 fun v61 =>
 nilCheckV v5 fun v63 =>
 fieldAddrV tab 96 v63 2 fun v64 =>
 loadV tab 22 v64 H9 fun v65 =>
 lenV tab 22 v65 fun v66 =>
 L61_2 K N1 v0 v3 v5 v6 v7 v61 v65 v66 (AV.p (.int .i64 0)) H9)
 (K v6 H)
def B61_0 (K : AV → Heap → Prop) (N1 : AV → Heap → Prop) (v0 : AV) (v3 : AV) (v20 : AV) (v21 : AV) (H : Heap) : Prop :=
 binV tab .lss 3 v21 v20 fun v22 =>
 condV v22 (CallT Try.prog 83 [v3, v21] H fun v26 H3 =>
 binV tab .add 3 v21 (AV.p (.int .i64 1)) fun v27 =>
 N1 v27 H3)
 (lenV tab 24 v0 fun v31 =>
 safeV (makeN tab 83 v31 v31) ∧
 CallT Try.prog 41 [v0] H fun v29 H4 =>
 newV (makeN tab 83 v31 v31) H4 fun v32 H5 =>
 buildV tab 96 [(0, v29), (1, v32)] fun v33 =>
 boxV v33 H5 fun v34 H6 =>
 lenV tab 24 v0 fun v36 =>
 makeSliceV tab 22 v36 v36 H6 fun v37 H7 =>
 nilCheckV v3 fun v39 =>
 fieldAddrV tab 96 v39 2 fun v40 =>
 loadV tab 22 v40 H7 fun v41 =>
 lenV tab 22 v41 fun v42 =>
 binV tab .sub 3 v42 (AV.p (.int .i64 1)) fun v43 =>
 L61_1 K v0 v3 v34 v37 v43 H7)
def W61 (v0 : AV) (H : Heap) (K : AV → Heap → Prop) : Prop :=
 lenV tab 24 v0 fun v15 =>
 makeSliceV tab 83 v15 v15 H fun v16 H1 =>
 buildV tab 96 [(0, v0), (1, v16)] fun v17 =>
 boxV v17 H1 fun v18 H2 =>
 lenV tab 24 v0 fun v20 =>
 L61_0 K v0 v18 v20 (AV.p (.int .i64 0)) H2
theorem W61_wp (v0 : AV) (H : Heap) (K : AV → Heap → Prop) : wpC Try.prog tab D61 (bodyOf Try.f61) (retF tab [.tmp 2] K) (nthA [v0]) H = W61 v0 H K := by kernel_rfl
theorem W61_ok {v0 : AV} {H : Heap} {K : AV → Heap → Prop} (h : W61 v0 H K) : CallT Try.prog 61 [v0] H K :=
  CallT.of_wp (D := D61) tab_ok mixed Try.func61 (c := bodyOf Try.f61) (by kernel_rfl) rfl (by kernel_rfl) (rs := #[.tmp 2]) rfl (by decide +kernel) (by kernel_rfl) (W61_wp v0 H K) h
theorem L61_3_rule {K : AV → Heap → Prop} {N1 : AV → Heap → Prop} {v0 v3 v5 v6 v7 v8 v79 v80 v81 : AV} {H : Heap} {σ : Type} (s0 : σ) (f81 : σ → AV) (TH : σ → Heap) (pre : σ → Prop) (μ : σ → Nat)
    (h0 : pre s0 ∧ AV.wk v81 (f81 s0) ∧ Heap.le (TH s0) H)
    (round : ∀ s, pre s → B61_3 K N1 (fun w81 H' => ∃ s', pre s' ∧ μ s' < μ s ∧ AV.wk w81 (f81 s') ∧ Heap.le (TH s') H') v0 v3 v5 v6 v7 v8 v79 v80 (f81 s) (TH s)) :
    L61_3 K N1 v0 v3 v5 v6 v7 v8 v79 v80 v81 H := by
  unfold L61_3
  exact LoopV.mk s0 (fun s => [f81 s]) TH pre μ (fun _ => rfl) (Eq.mp (by kernel_rfl) h0) (fun s hs => Eq.mp (by kernel_rfl) (round s hs))
theorem L61_2_rule {K : AV → Heap → Prop} {N1 : AV → Heap → Prop} {v0 v3 v5 v6 v7 v8 v65 v66 v67 : AV} {H : Heap} {σ : Type} (s0 : σ) (f8 : σ → AV) (f67 : σ → AV) (TH : σ → Heap) (pre : σ → Prop) (μ : σ → Nat)
    (h0 : pre s0 ∧ AV.wk v8 (f8 s0) ∧ AV.wk v67 (f67 s0) ∧ Heap.le (TH s0) H)
    (round : ∀ s, pre s → B61_2 K N1 (fun w8 w67 H' => ∃ s', pre s' ∧ μ s' < μ s ∧ AV.wk w8 (f8 s') ∧ AV.wk w67 (f67 s') ∧ Heap.le (TH s') H') v0 v3 v5 v6 v7 (f8 s) v65 v66 (f67 s) (TH s)) :
    L61_2 K N1 v0 v3 v5 v6 v7 v8 v65 v66 v67 H := by
  unfold L61_2
  exact LoopV.mk s0 (fun s => [f8 s, f67 s]) TH pre μ (fun _ => rfl) (Eq.mp (by kernel_rfl) h0) (fun s hs => Eq.mp (by kernel_rfl) (round s hs))
theorem L61_1_rule {K : AV → Heap → Prop} {v0 v3 v5 v6 v7 : AV} {H : Heap} {σ : Type} (s0 : σ) (f7 : σ → AV) (TH : σ → Heap) (pre : σ → Prop) (μ : σ → Nat)
    (h0 : pre s0 ∧ AV.wk v7 (f7 s0) ∧ Heap.le (TH s0) H)
    (round : ∀ s, pre s → B61_1 K (fun w7 H' => ∃ s', pre s' ∧ μ s' < μ s ∧ AV.wk w7 (f7 s') ∧ Heap.le (TH s') H') v0 v3 v5 v6 (f7 s) (TH s)) :
    L61_1 K v0 v3 v5 v6 v7 H := by
  unfold L61_1
  exact LoopV.mk s0 (fun s => [f7 s]) TH pre μ (fun _ => rfl) (Eq.mp (by kernel_rfl) h0) (fun s hs => Eq.mp (by kernel_rfl) (round s hs))
theorem L61_0_rule {K : AV → Heap → Prop} {v0 v3 v20 v21 : AV} {H : Heap} {σ : Type} (s0 : σ) (f21 : σ → AV) (TH : σ → Heap) (pre : σ → Prop) (μ : σ → Nat)
    (h0 : pre s0 ∧ AV.wk v21 (f21 s0) ∧ Heap.le (TH s0) H)
    (round : ∀ s, pre s → B61_0 K (fun w21 H' => ∃ s', pre s' ∧ μ s' < μ s ∧ AV.wk w21 (f21 s') ∧ Heap.le (TH s') H') v0 v3 v20 (f21 s) (TH s)) :
    L61_0 K v0 v3 v20 v21 H := by
  unfold L61_0
  exact LoopV.mk s0 (fun s => [f21 s]) TH pre μ (fun _ => rfl) (Eq.mp (by kernel_rfl) h0) (fun s hs => Eq.mp (by kernel_rfl) (round s hs))
def D62 : Info := ⟨48, fun i => if i = 8 then ([[], [], [0, 1], [0, 1, 2], [], [], [4, 5], [4, 5, 6], [0, 1, 2, 3, 4, 5, 6, 7]], [(0, []), (1, []), (2, []), (3, []), (4, []), (5, []), (6, []), (7, []), (8, [])]) else ([], []), fun i => if i = 3 then ([1, 5, 13, 14], [15]) else if i = 6 then ([1, 5, 6, 13, 14, 15, 20, 21], [22]) else ([], [])⟩
def L62_0 (K : AV → Heap → Prop) (v1 : AV) (v5 : AV) (v13 : AV) (v14 : AV) (v15 : AV) (H : Heap) : Prop := LoopV (wpC Try.prog tab D62 (cAt [1, 1, 0, 1, 0, 0] (bodyOf Try.f62))) [1, 5, 13, 14] (PostF.block 0 (PostF.thenA (wpC Try.prog tab D62 (cAt [1, 1, 1] (bodyOf Try.f62))) (retF tab [.tmp 4] K))) [15] [AV.any, v1, AV.any, AV.any, AV.any, v5, AV.any, AV.any, AV.any, AV.any, AV.any, AV.any, AV.any, v13, v14, v15, AV.any, AV.any, AV.any, AV.any, AV.any, AV.any, AV.any, AV.any, AV.any, AV.any, AV.any, AV.any, AV.any, AV.any, AV.any, AV.any, AV.any, AV.any, AV.any, AV.any, AV.any, AV.any, AV.any, AV.any, AV.any, AV.any, AV.any, AV.any, AV.any, AV.any, AV.any, AV.any] H
def L62_1 (K : AV → Heap → Prop) (N1 : AV → Heap → Prop) (v1 : AV) (v5 : AV) (v6 : AV) (v13 : AV) (v14 : AV) (v15 : AV) (v20 : AV) (v21 : AV) (v22 : AV) (H : Heap) : Prop := LoopV (wpC Try.prog tab D62 (cAt [1, 1, 0, 1, 0, 0, 1, 1, 0, 0, 1, 1, 0, 0] (bodyOf Try.f62))) [1, 5, 6, 13, 14, 15, 20, 21] (PostF.block 2 (PostF.block 1 (PostF.thenA (wpC Try.prog tab D62 (cAt [1, 1, 0, 1, 0, 0, 1, 1, 1] (bodyOf Try.f62))) (loopF (PostF.block 0 (PostF.thenA (wpC Try.prog tab D62 (cAt [1, 1, 1] (bodyOf Try.f62))) (retF tab [.tmp 4] K))) (fun e h => N1 (e 15) h))))) [22] [AV.any, v1, AV.any, AV.any, AV.any, v5, v6, AV.any, AV.any, AV.any, AV.any, AV.any, AV.any, v13, v14, v15, AV.any, AV.any, AV.any, AV.any, v20, v21, v22, AV.any, AV.any, AV.any, AV.any, AV.any, AV.any, AV.any, AV.any, AV.any, AV.any, AV.any, AV.any, AV.any, AV.any, AV.any, AV.any, AV.any, AV.any, AV.any, AV.any, AV.any, AV.any, AV.any, AV.any, AV.any] H
def B62_1 (K : AV → Heap → Prop) (N1 : AV → Heap → Prop) (N2 : AV → Heap → Prop) (v1 : AV) (v5 : AV) (v6 : AV) (v13 : AV) (v14 : AV) (v15 : AV) (v20 : AV) (v21 : AV) (v22 : AV) (H : Heap) : Prop :=
 binV tab .lss 3 v22 v21 fun v23 =>
 condV v23 (indexAddrV tab 22 v20 v22 fun v24 =>
 loadV tab 3 v24 H fun v25 =>
 indexAddrV tab 22 v1 v6 fun v28 =>
 loadV tab 3 v28 H fun v29 =>
 indexAddrV tab 22 v1 v25 fun v32 =>
 loadV tab 3 v32 H fun v33 =>
 binV tab .eql 3 v29 v33 fun v34 =>
 condV v34 (indexAddrV tab 24 v5 v6 fun v39 =>
 loadV tab 22 v39 H fun v40 =>
 buildSliceV tab 22 1 [(0, v25)] H (wkK fun v42 H2 =>
 appendV tab 22 22 v40 v42 H2 (wkK fun v43 H3 =>
 indexAddrV tab 24 v5 v6 fun v44 =>
 storeV tab 22 v44 v43 H3 fun H4 =>
 binV tab .add 3 v22 (AV.p (.int .i64 1)) fun v45 =>
 N2 v45 H4)))
 (binV tab .add 3 v22 (AV.p (.int .i64 1)) fun v45 =>
 N2 v45 H))
 (binV tab .add 3 v15 (AV.p (.int .i64 1)) fun v46 =>
 N1 v46 H)
def B62_0 (K : AV → Heap → Prop) (N1 : AV → Heap → Prop) (v1 : AV) (v5 : AV) (v13 : AV) (v14 : AV) (v15 : AV) (H : Heap) : Prop :=
 binV tab .lss 3 v15 v14 fun v16 =>
 condV v16 (indexAddrV tab 24 v13 v15 fun v18 =>
 loadV tab 22 v18 H fun v19 =>
 lenV tab 22 v19 fun v21 =>
 L62_1 K N1 v1 v5 v15 v13 v14 v15 v19 v21 (AV.p (.int .i64 0)) H)
 (K v5 H)
def W62 (v0 : AV) (v1 : AV) (H : Heap) (K : AV → Heap → Prop) : Prop :=
 lenV tab 24 v0 fun v11 =>
 makeSliceV tab 24 v11 v11 H fun v12 H1 =>
 lenV tab 24 v0 fun v14 =>
 L62_0 K v1 v12 v0 v14 (AV.p (.int .i64 0)) H1
theorem W62_wp (v0 : AV) (v1 : AV) (H : Heap) (K : AV → Heap → Prop) : wpC Try.prog tab D62 (bodyOf Try.f62) (retF tab [.tmp 4] K) (nthA [v0, v1]) H = W62 v0 v1 H K := by kernel_rfl
theorem W62_ok {v0 v1 : AV} {H : Heap} {K : AV → Heap → Prop} (h : W62 v0 v1 H K) : CallT Try.prog 62 [v0, v1] H K :=
  CallT.of_wp (D := D62) tab_ok mixed Try.func62 (c := bodyOf Try.f62) (by kernel_rfl) rfl (by kernel_rfl) (rs := #[.tmp 4]) rfl (by decide +kernel) (by kernel_rfl) (W62_wp v0 v1 H K) h
theorem L62_1_rule {K : AV → Heap → Prop} {N1 : AV → Heap → Prop} {v1 v5 v6 v13 v14 v15 v20 v21 v22 : AV} {H : Heap} {σ : Type} (s0 : σ) (f22 : σ → AV) (TH : σ → Heap) (pre : σ → Prop) (μ : σ → Nat)
    (h0 : pre s0 ∧ AV.wk v22 (f22 s0) ∧ Heap.le (TH s0) H)
    (round : ∀ s, pre s → B62_1 K N1 (fun w22 H' => ∃ s', pre s' ∧ μ s' < μ s ∧ AV.wk w22 (f22 s') ∧ Heap.le (TH s') H') v1 v5 v6 v13 v14 v15 v20 v21 (f22 s) (TH s)) :
    L62_1 K N1 v1 v5 v6 v13 v14 v15 v20 v21 v22 H := by
  unfold L62_1
  exact LoopV.mk s0 (fun s => [f22 s]) TH pre μ (fun _ => rfl) (Eq.mp (by kernel_rfl) h0) (fun s hs => Eq.mp (by kernel_rfl) (round s hs))
theorem L62_0_rule {K : AV → Heap → Prop} {v1 v5 v13 v14 v15 : AV} {H : Heap} {σ : Type} (s0 : σ) (f15 : σ → AV) (TH : σ → Heap) (pre : σ → Prop) (μ : σ → Nat)
    (h0 : pre s0 ∧ AV.wk v15 (f15 s0) ∧ Heap.le (TH s0) H)
    (round : ∀ s, pre s → B62_0 K (fun w15 H' => ∃ s', pre s' ∧ μ s' < μ s ∧ AV.wk w15 (f15 s') ∧ Heap.le (TH s') H') v1 v5 v13 v14 (f15 s) (TH s)) :
    L62_0 K v1 v5 v13 v14 v15 H := by
  unfold L62_0
  exact LoopV.mk s0 (fun s => [f15 s]) TH pre μ (fun _ => rfl) (Eq.mp (by kernel_rfl) h0) (fun s hs => Eq.mp (by kernel_rfl) (round s hs))
def D63 : Info := ⟨48, fun i => ([], []), fun i => if i = 2 then ([0, 1], [5]) else ([], [])⟩
def L63_0 (K : AV → Heap → Prop) (v0 : AV) (v1 : AV) (v5 : AV) (H : Heap) : Prop := LoopV (wpC Try.prog tab D63 (cAt [1, 1, 0, 0, 0] (bodyOf Try.f63))) [0, 1] (PostF.block 0 (PostF.thenA (wpC Try.prog tab D63 (cAt [1, 1, 1] (bodyOf Try.f63))) (retF tab [.tmp 4] K))) [5] [v0, v1, AV.any, AV.any, AV.any, v5, AV.any, AV.any, AV.any, AV.any, AV.any, AV.any, AV.any, AV.any, AV.any, AV.any, AV.any, AV.any, AV.any, AV.any, AV.any, AV.any, AV.any, AV.any, AV.any, AV.any, AV.any, AV.any, AV.any, AV.any, AV.any, AV.any, AV.any, AV.any, AV.any, AV.any, AV.any, AV.any, AV.any, AV.any, AV.any, AV.any, AV.any, AV.any, AV.any, AV.any, AV.any, AV.any] H
def J63_1 (K : AV → Heap → Prop) (v0 : AV) (v1 : AV) (v5 : AV) (H : Heap) : Prop :=
 buildSliceV tab 22 0 [] H (wkK fun v34 H1 =>
 sliceV tab 22 v0 none (some v5) none fun v37 =>
 appendV tab 22 22 v34 v37 H1 (wkK fun v38 H2 =>
 buildSliceV tab 22 1 [(0, v1)] H2 (wkK fun v41 H3 =>
 appendV tab 22 22 v38 v41 H3 (wkK fun v42 H4 =>
 sliceV tab 22 v0 (some v5) none none fun v46 =>
 appendV tab 22 22 v42 v46 H4 (wkK fun v47 H5 =>
 K v47 H5)))))
def J63_2 (K : AV → Heap → Prop) (v0 : AV) (v1 : AV) (v5 : AV) (H : Heap) : Prop :=
 lenV tab 22 v0 fun v23 =>
 binV tab .lss 3 v5 v23 fun v24 =>
 grdV v24 true (indexAddrV tab 22 v0 v5 fun v28 =>
 loadV tab 3 v28 H fun v29 =>
 binV tab .eql 3 v29 v1 fun v31 =>
 condV v31 (K v0 H)
 (J63_1 K v0 v1 v5 H))
 (J63_1 K v0 v1 v5 H)
def B63_0 (K : AV → Heap → Prop) (N1 : AV → Heap → Prop) (v0 : AV) (v1 : AV) (v5 : AV) (H : Heap) : Prop :=
 lenV tab 22 v0 fun v9 =>
 binV tab .lss 3 v5 v9 fun v10 =>
 grdV v10 true (indexAddrV tab 22 v0 v5 fun v14 =>
 loadV tab 3 v14 H fun v15 =>
 binV tab .lss 3 v15 v1 fun v17 =>
 condV v17 (binV tab .add 3 v5 (AV.p (.int .i64 1)) fun v20 =>
 N1 v20 H)
 (J63_2 K v0 v1 v5 H))
 (J63_2 K v0 v1 v5 H)
def W63 (v0 : AV) (v1 : AV) (H : Heap) (K : AV → Heap → Prop) : Prop :=
 L63_0 K v0 v1 (AV.p (.int .i64 0)) H
theorem W63_wp (v0 : AV) (v1 : AV) (H : Heap) (K : AV → Heap → Prop) : wpC Try.prog tab D63 (bodyOf Try.f63) (retF tab [.tmp 4] K) (nthA [v0, v1]) H = W63 v0 v1 H K := by kernel_rfl
theorem W63_ok {v0 v1 : AV} {H : Heap} {K : AV → Heap → Prop} (h : W63 v0 v1 H K) : CallT Try.prog 63 [v0, v1] H K :=
  CallT.of_wp (D := D63) tab_ok mixed Try.func63 (c := bodyOf Try.f63) (by kernel_rfl) rfl (by kernel_rfl) (rs := #[.tmp 4]) rfl (by decide +kernel) (by kernel_rfl) (W63_wp v0 v1 H K) h
theorem L63_0_rule {K : AV → Heap → Prop} {v0 v1 v5 : AV} {H : Heap} {σ : Type} (s0 : σ) (f5 : σ → AV) (TH : σ → Heap) (pre : σ → Prop) (μ : σ → Nat)
    (h0 : pre s0 ∧ AV.wk v5 (f5 s0) ∧ Heap.le (TH s0) H)
    (round : ∀ s, pre s → B63_0 K (fun w5 H' => ∃ s', pre s' ∧ μ s' < μ s ∧ AV.wk w5 (f5 s') ∧ Heap.le (TH s') H') v0 v1 (f5 s) (TH s)) :
    L63_0 K v0 v1 v5 H := by
  unfold L63_0
  exact LoopV.mk s0 (fun s => [f5 s]) TH pre μ (fun _ => rfl) (Eq.mp (by kernel_rfl) h0) (fun s hs => Eq.mp (by kernel_rfl) (round s hs))
def D64 : Info := ⟨14, fun i => ([], []), fun i => ([], [])⟩
def W64 (v0 : AV) (H : Heap) (K : AV → Heap → Prop) : Prop :=
 boxV v0 H fun v1 H1 =>
 allocV tab 65 H1 fun v2 H2 =>
 allocV tab 65 H2 fun v3 H3 =>
 fieldAddrV tab 81 v1 0 fun v4 =>
 loadV tab 3 v4 H3 fun v5 =>
 fieldAddrV tab 65 v3 0 fun v6 =>
 storeV tab 3 v6 v5 H3 fun H4 =>
 fieldAddrV tab 81 v1 1 fun v7 =>
 loadV tab 3 v7 H4 fun v8 =>
 fieldAddrV tab 65 v3 1 fun v9 =>
 storeV tab 3 v9 v8 H4 fun H5 =>
 fieldAddrV tab 81 v1 2 fun v10 =>
 loadV tab 3 v10 H5 fun v11 =>
 fieldAddrV tab 65 v3 2 fun v12 =>
 storeV tab 3 v12 v11 H5 fun H6 =>
 loadV tab 65 v3 H6 fun v13 =>
 storeV tab 65 v2 v13 H6 fun H7 =>
 loadV tab 65 v2 H7 fun r0 =>
 K r0 H7
theorem W64_wp (v0 : AV) (H : Heap) (K : AV → Heap → Prop) : wpC Try.prog tab D64 (bodyOf Try.f64) (retF tab [.cell 2 65] K) (nthA [v0]) H = W64 v0 H K := by kernel_rfl
theorem W64_ok {v0 : AV} {H : Heap} {K : AV → Heap → Prop} (h : W64 v0 H K) : CallT Try.prog 64 [v0] H K :=
  CallT.of_wp (D := D64) tab_ok mixed Try.func64 (c := bodyOf Try.f64) (by kernel_rfl) rfl (by kernel_rfl) (rs := #[.cell 2 65]) rfl (by decide +kernel) (by kernel_rfl) (W64_wp v0 H K) h
def D65 : Info := ⟨35, fun i => ([], []), fun i => if i = 2 then ([0, 1, 7, 8], [9]) else ([], [])⟩
def L65_0 (K : AV → Heap → Prop) (v0 : AV) (v1 : AV) (v7 : AV) (v8 : AV) (v9 : AV) (H : Heap) : Prop := LoopV (wpC Try.prog tab D65 (cAt [1, 0, 1, 0, 0] (bodyOf Try.f65))) [0, 1, 7, 8] (PostF.block 0 (PostF.thenA (wpC Try.prog tab D65 (cAt [1, 1] (bodyOf Try.f65))) (retF tab [.tmp 4] K))) [9] [v0, v1, AV.any, AV.any, AV.any, AV.any, AV.any, v7, v8, v9, AV.any, AV.any, AV.any, AV.any, AV.any, AV.any, AV.any, AV.any, AV.any, AV.any, AV.any, AV.any, AV.any, AV.any, AV.any, AV.any, AV.any, AV.any, AV.any, AV.any, AV.any, AV.any, AV.any, AV.any, AV.any] H
def B65_0 (K : AV → Heap → Prop) (N1 : AV → Heap → Prop) (v0 : AV) (v1 : AV) (v7 : AV) (v8 : AV) (v9 : AV) (H : Heap) : Prop :=
 binV tab .lss 3 v9 v8 fun v10 =>
 condV v10 (indexAddrV tab 22 v7 v9 fun v12 =>
 loadV tab 3 v12 H fun v13 =>
 binV tab .lss 3 v13 (AV.p (.int .i64 0)) fun v15 =>
 grdV v15 false (binV tab .geq 3 v13 v1 fun v19 =>
 grdV v19 false (binV tab .gtr 3 v9 (AV.p (.int .i64 0)) fun v23 =>
 grdV v23 true (binV tab .sub 3 v9 (AV.p (.int .i64 1)) fun v27 =>
 indexAddrV tab 22 v0 v27 fun v28 =>
 loadV tab 3 v28 H fun v29 =>
 binV tab .geq 3 v29 v13 fun v31 =>
 condV v31 (K (AV.p (.bool false)) H)
 (binV tab .add 3 v9 (AV.p (.int .i64 1)) fun v34 =>
 N1 v34 H))
 (binV tab .add 3 v9 (AV.p (.int .i64 1)) fun v34 =>
 N1 v34 H))
 (K (AV.p (.bool false)) H))
 (K (AV.p (.bool false)) H))
 (K (AV.p (.bool true)) H)
def W65 (v0 : AV) (v1 : AV) (H : Heap) (K : AV → Heap → Prop) : Prop :=
 lenV tab 22 v0 fun v8 =>
 L65_0 K v0 v1 v0 v8 (AV.p (.int .i64 0)) H
theorem W65_wp (v0 : AV) (v1 : AV) (H : Heap) (K : AV → Heap → Prop) : wpC Try.prog tab D65 (bodyOf Try.f65) (retF tab [.tmp 4] K) (nthA [v0, v1]) H = W65 v0 v1 H K := by kernel_rfl
theorem W65_ok {v0 v1 : AV} {H : Heap} {K : AV → Heap → Prop} (h : W65 v0 v1 H K) : CallT Try.prog 65 [v0, v1] H K :=
  CallT.of_wp (D := D65) tab_ok mixed Try.func65 (c := bodyOf Try.f65) (by kernel_rfl) rfl (by kernel_rfl) (rs := #[.tmp 4]) rfl (by decide +kernel) (by kernel_rfl) (W65_wp v0 v1 H K) h
theorem L65_0_rule {K : AV → Heap → Prop} {v0 v1 v7 v8 v9 : AV} {H : Heap} {σ : Type} (s0 : σ) (f9 : σ → AV) (TH : σ → Heap) (pre : σ → Prop) (μ : σ → Nat)
    (h0 : pre s0 ∧ AV.wk v9 (f9 s0) ∧ Heap.le (TH s0) H)
    (round : ∀ s, pre s → B65_0 K (fun w9 H' => ∃ s', pre s' ∧ μ s' < μ s ∧ AV.wk w9 (f9 s') ∧ Heap.le (TH s') H') v0 v1 v7 v8 (f9 s) (TH s)) :
    L65_0 K v0 v1 v7 v8 v9 H := by
  unfold L65_0
  exact LoopV.mk s0 (fun s => [f9 s]) TH pre μ (fun _ => rfl) (Eq.mp (by kernel_rfl) h0) (fun s hs => Eq.mp (by kernel_rfl) (round s hs))
def D66 : Info := ⟨14, fun i => ([], []), fun i => ([], [])⟩
def W66 (v0 : AV) (v1 : AV) (H : Heap) (K : AV → Heap → Prop) : Prop :=
 boxV v1 H fun v3 H1 =>
 lenV tab 24 v0 fun v6 =>
 binV tab .leq 3 v6 (AV.p (.int .i64 6)) fun v7 =>
 grdV v7 true (CallT Try.prog 84 [v0, (.fn 85 [v3])] H1 fun v11 H2 =>
 unV .not v11 fun v12 =>
 K v12 H2)
 (K (AV.p (.bool false)) H1)
theorem W66_wp (v0 : AV) (v1 : AV) (H : Heap) (K : AV → Heap → Prop) : wpC Try.prog tab D66 (bodyOf Try.f66) (retF tab [.tmp 4] K) (nthA [v0, v1]) H = W66 v0 v1 H K := by kernel_rfl
theorem W66_ok {v0 v1 : AV} {H : Heap} {K : AV → Heap → Prop} (h : W66 v0 v1 H K) : CallT Try.prog 66 [v0, v1] H K :=
  CallT.of_wp (D := D66) tab_ok mixed Try.func66 (c := bodyOf Try.f66) (by kernel_rfl) rfl (by kernel_rfl) (rs := #[.tmp 4]) rfl (by decide +kernel) (by kernel_rfl) (W66_wp v0 v1 H K) h
def D67 : Info := ⟨22, fun i => if i = 1 then ([[], [0], [], [2], [0, 1, 2, 3], [], [5], [], [7], [0, 1, 2, 3, 4, 5, 6, 7, 8], [], [10], [], [12], [0, 1, 2, 3, 4, 5, 6, 7, 8, 9, 10, 11, 12, 13], [0, 1, 2, 3, 4, 5, 6, 7, 8, 9, 10, 11, 12, 13, 14], [0, 1, 2, 3, 4, 5, 6, 7, 8, 9, 10, 11, 12, 13, 14, 15], [0, 1, 2, 3, 4, 5, 6, 7, 8, 9, 10, 11, 12, 13, 14, 15, 16]], [(0, []), (1, []), (2, []), (3, []), (5, []), (6, []), (7, []), (8, []), (10, []), (11, []), (12, []), (13, []), (4, [6, 8, 11, 13]), (9, [11, 13]), (14, []), (15, []), (16, []), (17, [])]) else ([], []), fun i => ([], [])⟩
def W67 (v0 : AV) (v1 : AV) (H : Heap) (K : AV → Heap → Prop) : Prop :=
 boxV v0 H fun v2 H1 =>
 boxV v1 H1 fun v3 H2 =>
 fieldAddrV tab 65 v2 0 fun v5 =>
 loadV tab 3 v5 H2 fun v6 =>
 fieldAddrV tab 65 v3 0 fun v7 =>
 loadV tab 3 v7 H2 fun v8 =>
 fieldAddrV tab 65 v2 1 fun v10 =>
 loadV tab 3 v10 H2 fun v11 =>
 fieldAddrV tab 65 v3 1 fun v12 =>
 loadV tab 3 v12 H2 fun v13 =>
 fieldAddrV tab 65 v2 2 fun v15 =>
 loadV tab 3 v15 H2 fun v16 =>
 fieldAddrV tab 65 v3 2 fun v17 =>
 loadV tab 3 v17 H2 fun v18 =>
 CallT Try.prog 87 [v6, v8] H2 fun v9 H3 =>
 (loadV tab 3 v10 H3 fun v9011 =>
 v11 = v9011) ∧
 (loadV tab 3 v12 H3 fun v9013 =>
 v13 = v9013) ∧
 (loadV tab 3 v15 H3 fun v9016 =>
 v16 = v9016) ∧
 (loadV tab 3 v17 H3 fun v9018 =>
 v18 = v9018) ∧
 CallT Try.prog 87 [v11, v13] H3 fun v14 H4 =>
 (loadV tab 3 v15 H4 fun v9016 =>
 v16 = v9016) ∧
 (loadV tab 3 v17 H4 fun v9018 =>
 v18 = v9018) ∧
 CallT Try.prog 87 [v16, v18] H4 fun v19 H5 =>
 buildSliceV tab 22 3 [(0, v9), (1, v14), (2, v19)] H5 (wkK fun v20 H6 =>
 CallT Try.prog 86 [v20] H6 fun v21 H7 =>
 K v21 H7)
theorem W67_wp (v0 : AV) (v1 : AV) (H : Heap) (K : AV → Heap → Prop) : wpC Try.prog tab D67 (bodyOf Try.f67) (retF tab [.tmp 4] K) (nthA [v0, v1]) H = W67 v0 v1 H K := by kernel_rfl
theorem W67_ok {v0 v1 : AV} {H : Heap} {K : AV → Heap → Prop} (h : W67 v0 v1 H K) : CallT Try.prog 67 [v0, v1] H K :=
  CallT.of_wp (D := D67) tab_ok mixed Try.func67 (c := bodyOf Try.f67) (by kernel_rfl) rfl (by kernel_rfl) (rs := #[.tmp 4]) rfl (by decide +kernel) (by kernel_rfl) (W67_wp v0 v1 H K) h
end Go.Proofs.Ytolffbcnbcjeaaa
