/- Texts laid together: W22 W23. -/
import Derived.Test.YtgcklgeifdefhaaGreatPkd4
import Derived.KernelRfl
set_option linter.unusedVariables false
set_option linter.unusedSimpArgs false
open Nat renaming reduceAdd → ν1, reduceLeDiff → ν2, reduceLT → ν3, reduceMul → ν4, reduceSub → ν5
open Int renaming reduceToNat → ι1, reduceSub → ι2, reduceAdd → ι3, reduceNeg → ι4
open Array renaming toList → ι5
open Ne renaming symm → ν6
open List renaming forall_mem_cons → ν7
namespace Go.Proofs.YtgcklgeifdefhaaGreat
open Go Go.Sep
attribute [local irreducible] wpC headF
def D76 : Info := ⟨29, fun i => ([], []), fun i => if i = 4 then ([1, 18, 19], [20]) else ([], [])⟩
def L76_0 (K : AV → Heap → Prop) (v1 : AV) (v18 : AV) (v19 : AV) (v20 : AV) (H : Heap) : Prop := LoopV (wpC Tryz.prog tab D76 (cAt [1, 1, 0, 1, 0, 0] (bodyOf Tryz.f76))) [1, 18, 19] (PostF.block 0 (PostF.thenA (wpC Tryz.prog tab D76 (cAt [1, 1, 1] (bodyOf Tryz.f76))) (retF tab [.tmp 2] K))) [20] [AV.any, v1, AV.any, AV.any, AV.any, AV.any, AV.any, AV.any, AV.any, AV.any, AV.any, AV.any, AV.any, AV.any, AV.any, AV.any, AV.any, AV.any, v18, v19, v20, AV.any, AV.any, AV.any, AV.any, AV.any, AV.any, AV.any, AV.any] H
def B76_0 (K : AV → Heap → Prop) (N1 : AV → Heap → Prop) (v1 : AV) (v18 : AV) (v19 : AV) (v20 : AV) (H : Heap) : Prop :=
 binV tab .lss 3 v20 v19 fun v21 =>
 condV v21 (indexAddrV tab 33 v18 v20 fun v22 =>
 loadV tab 150 v22 H fun v23 =>
 allocV tab 150 H fun v4 H4 =>
 storeV tab 150 v4 v23 H4 fun H5 =>
 loadV tab 35 v1 H5 fun v24 =>
 loadV tab 150 v4 H5 fun v25 =>
 CallT Tryz.prog 120 [v24, v25] H5 fun v26 H6 =>
 unV .not v26 fun v27 =>
 condV v27 (K (AV.p (.bool false)) H6)
 (binV tab .add 3 v20 (AV.p (.int .i64 1)) fun v28 =>
 N1 v28 H6))
 (K (AV.p (.bool true)) H)
def W76 (v0 : AV) (H : Heap) (K : AV → Heap → Prop) : Prop :=
 boxV v0 H fun v1 H1 =>
 loadV tab 35 v1 H1 fun v5 =>
 fieldAddrV tab 35 v1 2 fun v6 =>
 loadV tab 32 v6 H1 fun v7 =>
 CallT Tryz.prog 40 [v5, v7] H1 fun v8 H2 =>
 unV .not v8 fun v9 =>
 grdV v9 false (fieldAddrV tab 35 v1 3 fun v11 =>
 loadV tab 33 v11 H2 fun v12 =>
 lenV tab 33 v12 fun v13 =>
 CallT Tryz.prog 52 [v13, (AV.p (.int .i64 1)), (AV.p (.int .i64 6))] H2 fun v14 H3 =>
 unV .not v14 fun v15 =>
 condV v15 (K (AV.p (.bool false)) H3)
 (fieldAddrV tab 35 v1 3 fun v17 =>
 loadV tab 33 v17 H3 fun v18 =>
 lenV tab 33 v18 fun v19 =>
 L76_0 K v1 v18 v19 (AV.p (.int .i64 0)) H3))
 (K (AV.p (.bool false)) H2)
theorem W76_wp (v0 : AV) (H : Heap) (K : AV → Heap → Prop) : wpC Tryz.prog tab D76 (bodyOf Tryz.f76) (retF tab [.tmp 2] K) (nthA [v0]) H = W76 v0 H K := by kernel_rfl
theorem W76_ok {v0 : AV} {H : Heap} {K : AV → Heap → Prop} (h : W76 v0 H K) : CallT Tryz.prog 76 [v0] H K :=
  CallT.of_wp (D := D76) tab_ok mixed Tryz.func76 (c := bodyOf Tryz.f76) (by kernel_rfl) rfl (by kernel_rfl) (rs := #[.tmp 2]) rfl (by decide +kernel) (by kernel_rfl) (W76_wp v0 H K) h
theorem L76_0_rule {K : AV → Heap → Prop} {v1 v18 v19 v20 : AV} {H : Heap} {σ : Type} (s0 : σ) (f20 : σ → AV) (TH : σ → Heap) (pre : σ → Prop) (μ : σ → Nat)
    (h0 : pre s0 ∧ AV.wk v20 (f20 s0) ∧ Heap.le (TH s0) H)
    (round : ∀ s, pre s → B76_0 K (fun w20 H' => ∃ s', pre s' ∧ μ s' < μ s ∧ AV.wk w20 (f20 s') ∧ Heap.le (TH s') H') v1 v18 v19 (f20 s) (TH s)) :
    L76_0 K v1 v18 v19 v20 H := by
  unfold L76_0
  exact LoopV.mk s0 (fun s => [f20 s]) TH pre μ (fun _ => rfl) (Eq.mp (by kernel_rfl) h0) (fun s hs => Eq.mp (by kernel_rfl) (round s hs))
def D77 : Info := ⟨39, fun i => ([], []), fun i => if i = 5 then ([11, 12], [3, 13]) else ([], [])⟩
def L77_0 (K : AV → Heap → Prop) (v3 : AV) (v11 : AV) (v12 : AV) (v13 : AV) (H : Heap) : Prop := LoopV (wpC Tryz.prog tab D77 (cAt [1, 1, 1, 0, 1, 0, 0] (bodyOf Tryz.f77))) [11, 12] (PostF.block 0 (PostF.thenA (wpC Tryz.prog tab D77 (cAt [1, 1, 1, 1] (bodyOf Tryz.f77))) (retF tab [.tmp 2] K))) [3, 13] [AV.any, AV.any, AV.any, v3, AV.any, AV.any, AV.any, AV.any, AV.any, AV.any, AV.any, v11, v12, v13, AV.any, AV.any, AV.any, AV.any, AV.any, AV.any, AV.any, AV.any, AV.any, AV.any, AV.any, AV.any, AV.any, AV.any, AV.any, AV.any, AV.any, AV.any, AV.any, AV.any, AV.any, AV.any, AV.any, AV.any, AV.any] H
def B77_0 (K : AV → Heap → Prop) (N1 : AV → AV → Heap → Prop) (v3 : AV) (v11 : AV) (v12 : AV) (v13 : AV) (H : Heap) : Prop :=
 binV tab .lss 3 v13 v12 fun v14 =>
 condV v14 (indexAddrV tab 37 v11 v13 fun v15 =>
 loadV tab 106 v15 H fun v16 =>
 allocV tab 106 H fun v5 H2 =>
 storeV tab 106 v5 v16 H2 fun H3 =>
 fieldAddrV tab 106 v5 0 fun v17 =>
 loadV tab 3 v17 H3 fun v18 =>
 CallT Tryz.prog 121 [v18] H3 fun v19 H4 =>
 binV tab .lss 3 v19 (AV.p (.int .i64 0)) fun v21 =>
 grdV v21 false (loadV tab 106 v5 H4 fun v23 =>
 CallT Tryz.prog 122 [v23] H4 fun v24 H5 =>
 unV .not v24 fun v25 =>
 grdV v25 false (binV tab .lss 3 v3 v19 fun v30 =>
 condV v30 (K (AV.p (.bool false)) H5)
 (binV tab .sub 3 (AV.p (.int .i64 1)) v19 fun v34 =>
 binV tab .add 3 v3 v34 fun v35 =>
 binV tab .add 3 v13 (AV.p (.int .i64 1)) fun v36 =>
 N1 v35 v36 H5))
 (K (AV.p (.bool false)) H5))
 (K (AV.p (.bool false)) H4))
 (binV tab .eql 3 v3 (AV.p (.int .i64 1)) fun v38 =>
 K v38 H)
def W77 (v0 : AV) (H : Heap) (K : AV → Heap → Prop) : Prop :=
 lenV tab 37 v0 fun v8 =>
 CallT Tryz.prog 52 [v8, (AV.p (.int .i64 1)), (AV.p (.int .i64 16))] H fun v9 H1 =>
 unV .not v9 fun v10 =>
 condV v10 (K (AV.p (.bool false)) H1)
 (lenV tab 37 v0 fun v12 =>
 L77_0 K (AV.p (.int .i64 0)) v0 v12 (AV.p (.int .i64 0)) H1)
theorem W77_wp (v0 : AV) (H : Heap) (K : AV → Heap → Prop) : wpC Tryz.prog tab D77 (bodyOf Tryz.f77) (retF tab [.tmp 2] K) (nthA [v0]) H = W77 v0 H K := by kernel_rfl
theorem W77_ok {v0 : AV} {H : Heap} {K : AV → Heap → Prop} (h : W77 v0 H K) : CallT Tryz.prog 77 [v0] H K :=
  CallT.of_wp (D := D77) tab_ok mixed Tryz.func77 (c := bodyOf Tryz.f77) (by kernel_rfl) rfl (by kernel_rfl) (rs := #[.tmp 2]) rfl (by decide +kernel) (by kernel_rfl) (W77_wp v0 H K) h
theorem L77_0_rule {K : AV → Heap → Prop} {v3 v11 v12 v13 : AV} {H : Heap} {σ : Type} (s0 : σ) (f3 : σ → AV) (f13 : σ → AV) (TH : σ → Heap) (pre : σ → Prop) (μ : σ → Nat)
    (h0 : pre s0 ∧ AV.wk v3 (f3 s0) ∧ AV.wk v13 (f13 s0) ∧ Heap.le (TH s0) H)
    (round : ∀ s, pre s → B77_0 K (fun w3 w13 H' => ∃ s', pre s' ∧ μ s' < μ s ∧ AV.wk w3 (f3 s') ∧ AV.wk w13 (f13 s') ∧ Heap.le (TH s') H') (f3 s) v11 v12 (f13 s) (TH s)) :
    L77_0 K v3 v11 v12 v13 H := by
  unfold L77_0
  exact LoopV.mk s0 (fun s => [f3 s, f13 s]) TH pre μ (fun _ => rfl) (Eq.mp (by kernel_rfl) h0) (fun s hs => Eq.mp (by kernel_rfl) (round s hs))
def D78 : Info := ⟨36, fun i => ([], []), fun i => if i = 3 then ([10, 11], [3, 12]) else ([], [])⟩
def L78_0 (K : AV → Heap → Prop) (v3 : AV) (v10 : AV) (v11 : AV) (v12 : AV) (H : Heap) : Prop := LoopV (wpC Tryz.prog tab D78 (cAt [1, 1, 0, 1, 0, 0] (bodyOf Tryz.f78))) [10, 11] (PostF.block 0 (PostF.thenA (wpC Tryz.prog tab D78 (cAt [1, 1, 1] (bodyOf Tryz.f78))) (retF tab [.tmp 2] K))) [3, 12] [AV.any, AV.any, AV.any, v3, AV.any, AV.any, AV.any, AV.any, AV.any, AV.any, v10, v11, v12, AV.any, AV.any, AV.any, AV.any, AV.any, AV.any, AV.any, AV.any, AV.any, AV.any, AV.any, AV.any, AV.any, AV.any, AV.any, AV.any, AV.any, AV.any, AV.any, AV.any, AV.any, AV.any, AV.any] H
def J78_1 (K : AV → Heap → Prop) (N1 : AV → AV → Heap → Prop) (v3 : AV) (v4 : AV) (v10 : AV) (v11 : AV) (v12 : AV) (v18 : AV) (v19 : AV) (H : Heap) : Prop :=
 condV v19 (CallT Tryz.prog 123 [v3, v4] H fun v24 H4 =>
 binV tab .sub 3 v4 (AV.p (.int .i64 1)) fun v26 =>
 CallT Tryz.prog 123 [v24, v26] H4 fun v27 H5 =>
 binV tab .add 3 v12 (AV.p (.int .i64 1)) fun v34 =>
 N1 v27 v34 H5)
 (binV tab .eql 3 v18 (AV.p (.int .i64 4)) fun v29 =>
 condV v29 (binV tab .sub 3 v4 (AV.p (.int .i64 1)) fun v32 =>
 CallT Tryz.prog 123 [v3, v32] H fun v33 H6 =>
 binV tab .add 3 v12 (AV.p (.int .i64 1)) fun v34 =>
 N1 v33 v34 H6)
 (binV tab .add 3 v12 (AV.p (.int .i64 1)) fun v34 =>
 N1 v3 v34 H))
def B78_0 (K : AV → Heap → Prop) (N1 : AV → AV → Heap → Prop) (v3 : AV) (v10 : AV) (v11 : AV) (v12 : AV) (H : Heap) : Prop :=
 binV tab .lss 3 v12 v11 fun v13 =>
 condV v13 (indexAddrV tab 37 v10 v12 fun v15 =>
 loadV tab 106 v15 H fun v16 =>
 allocV tab 106 H fun v5 H2 =>
 storeV tab 106 v5 v16 H2 fun H3 =>
 fieldAddrV tab 106 v5 0 fun v17 =>
 loadV tab 3 v17 H3 fun v18 =>
 binV tab .eql 3 v18 (AV.p (.int .i64 7)) fun v20 =>
 condV v20 (J78_1 K N1 v3 v12 v10 v11 v12 v18 v20 H3)
 (binV tab .eql 3 v18 (AV.p (.int .i64 8)) fun v21 =>
 J78_1 K N1 v3 v12 v10 v11 v12 v18 v21 H3))
 (K v3 H)
def W78 (v0 : AV) (H : Heap) (K : AV → Heap → Prop) : Prop :=
 lenV tab 37 v0 fun v7 =>
 binV tab .sub 3 v7 (AV.p (.int .i64 1)) fun v8 =>
 buildSliceV tab 46 1 [(0, v8)] H (wkK fun v9 H1 =>
 lenV tab 37 v0 fun v11 =>
 L78_0 K v9 v0 v11 (AV.p (.int .i64 0)) H1)
theorem W78_wp (v0 : AV) (H : Heap) (K : AV → Heap → Prop) : wpC Tryz.prog tab D78 (bodyOf Tryz.f78) (retF tab [.tmp 2] K) (nthA [v0]) H = W78 v0 H K := by kernel_rfl
theorem W78_ok {v0 : AV} {H : Heap} {K : AV → Heap → Prop} (h : W78 v0 H K) : CallT Tryz.prog 78 [v0] H K :=
  CallT.of_wp (D := D78) tab_ok mixed Tryz.func78 (c := bodyOf Tryz.f78) (by kernel_rfl) rfl (by kernel_rfl) (rs := #[.tmp 2]) rfl (by decide +kernel) (by kernel_rfl) (W78_wp v0 H K) h
theorem L78_0_rule {K : AV → Heap → Prop} {v3 v10 v11 v12 : AV} {H : Heap} {σ : Type} (s0 : σ) (f3 : σ → AV) (f12 : σ → AV) (TH : σ → Heap) (pre : σ → Prop) (μ : σ → Nat)
    (h0 : pre s0 ∧ AV.wk v3 (f3 s0) ∧ AV.wk v12 (f12 s0) ∧ Heap.le (TH s0) H)
    (round : ∀ s, pre s → B78_0 K (fun w3 w12 H' => ∃ s', pre s' ∧ μ s' < μ s ∧ AV.wk w3 (f3 s') ∧ AV.wk w12 (f12 s') ∧ Heap.le (TH s') H') (f3 s) v10 v11 (f12 s) (TH s)) :
    L78_0 K v3 v10 v11 v12 H := by
  unfold L78_0
  exact LoopV.mk s0 (fun s => [f3 s, f12 s]) TH pre μ (fun _ => rfl) (Eq.mp (by kernel_rfl) h0) (fun s hs => Eq.mp (by kernel_rfl) (round s hs))
def D79 : Info := ⟨83, fun i => ([], []), fun i => if i = 5 then ([0, 1, 27, 28], [7, 29]) else if i = 10 then ([0, 1, 11, 12, 27, 28, 29], [7, 10]) else ([], [])⟩
def L79_0 (K : AV → Heap → Prop) (v0 : AV) (v1 : AV) (v7 : AV) (v27 : AV) (v28 : AV) (v29 : AV) (H : Heap) : Prop := LoopV (wpC Tryz.prog tab D79 (cAt [1, 1, 1, 0, 1, 0, 0] (bodyOf Tryz.f79))) [0, 1, 27, 28] (PostF.block 0 (PostF.thenA (wpC Tryz.prog tab D79 (cAt [1, 1, 1, 1] (bodyOf Tryz.f79))) (retF tab [.tmp 6] K))) [7, 29] [v0, v1, AV.any, AV.any, AV.any, AV.any, AV.any, v7, AV.any, AV.any, AV.any, AV.any, AV.any, AV.any, AV.any, AV.any, AV.any, AV.any, AV.any, AV.any, AV.any, AV.any, AV.any, AV.any, AV.any, AV.any, AV.any, v27, v28, v29, AV.any, AV.any, AV.any, AV.any, AV.any, AV.any, AV.any, AV.any, AV.any, AV.any, AV.any, AV.any, AV.any, AV.any, AV.any, AV.any, AV.any, AV.any, AV.any, AV.any, AV.any, AV.any, AV.any, AV.any, AV.any, AV.any, AV.any, AV.any, AV.any, AV.any, AV.any, AV.any, AV.any, AV.any, AV.any, AV.any, AV.any, AV.any, AV.any, AV.any, AV.any, AV.any, AV.any, AV.any, AV.any, AV.any, AV.any, AV.any, AV.any, AV.any, AV.any, AV.any, AV.any] H
def L79_1 (K : AV → Heap → Prop) (N1 : AV → AV → Heap → Prop) (v0 : AV) (v1 : AV) (v7 : AV) (v10 : AV) (v11 : AV) (v12 : AV) (v27 : AV) (v28 : AV) (v29 : AV) (H : Heap) : Prop := LoopV (wpC Tryz.prog tab D79 (cAt [1, 1, 1, 0, 1, 0, 0, 1, 1, 0, 0, 1, 1, 1, 0, 0, 0] (bodyOf Tryz.f79))) [0, 1, 11, 12, 27, 28, 29] (PostF.block 2 (PostF.thenA (wpC Tryz.prog tab D79 (cAt [1, 1, 1, 0, 1, 0, 0, 1, 1, 0, 0, 1, 1, 1, 1] (bodyOf Tryz.f79))) (PostF.block 1 (PostF.thenA (wpC Tryz.prog tab D79 (cAt [1, 1, 1, 0, 1, 0, 0, 1, 1, 1] (bodyOf Tryz.f79))) (loopF (PostF.block 0 (PostF.thenA (wpC Tryz.prog tab D79 (cAt [1, 1, 1, 1] (bodyOf Tryz.f79))) (retF tab [.tmp 6] K))) (fun e h => N1 (e 7) (e 29) h)))))) [7, 10] [v0, v1, AV.any, AV.any, AV.any, AV.any, AV.any, v7, AV.any, AV.any, v10, v11, v12, AV.any, AV.any, AV.any, AV.any, AV.any, AV.any, AV.any, AV.any, AV.any, AV.any, AV.any, AV.any, AV.any, AV.any, v27, v28, v29, AV.any, AV.any, AV.any, AV.any, AV.any, AV.any, AV.any, AV.any, AV.any, AV.any, AV.any, AV.any, AV.any, AV.any, AV.any, AV.any, AV.any, AV.any, AV.any, AV.any, AV.any, AV.any, AV.any, AV.any, AV.any, AV.any, AV.any, AV.any, AV.any, AV.any, AV.any, AV.any, AV.any, AV.any, AV.any, AV.any, AV.any, AV.any, AV.any, AV.any, AV.any, AV.any, AV.any, AV.any, AV.any, AV.any, AV.any, AV.any, AV.any, AV.any, AV.any, AV.any, AV.any] H
def B79_1 (K : AV → Heap → Prop) (N1 : AV → AV → Heap → Prop) (N2 : AV → AV → Heap → Prop) (v0 : AV) (v1 : AV) (v7 : AV) (v10 : AV) (v11 : AV) (v12 : AV) (v27 : AV) (v28 : AV) (v29 : AV) (H : Heap) : Prop :=
 binV tab .gtr 3 v10 (AV.p (.int .i64 0)) fun v56 =>
 condV v56 (lenV tab 46 v7 fun v61 =>
 binV tab .sub 3 v61 (AV.p (.int .i64 1)) fun v62 =>
 indexAddrV tab 46 v7 v62 fun v63 =>
 loadV tab 3 v63 H fun v64 =>
 binV tab .neq 3 v64 v11 fun v66 =>
 condV v66 (K (AV.p (.int .i64 0)) H)
 (lenV tab 46 v7 fun v69 =>
 binV tab .sub 3 v69 (AV.p (.int .i64 1)) fun v70 =>
 sliceV tab 46 v7 none (some v70) none fun v71 =>
 binV tab .sub 3 v10 (AV.p (.int .i64 1)) fun v58 =>
 N2 v71 v58 H))
 (buildSliceV tab 46 1 [(0, v12)] H (wkK fun v74 H8 =>
 appendV tab 46 46 v7 v74 H8 (wkK fun v75 H9 =>
 binV tab .add 3 v29 (AV.p (.int .i64 1)) fun v76 =>
 N1 v75 v76 H9)))
def B79_0 (K : AV → Heap → Prop) (N1 : AV → AV → Heap → Prop) (v0 : AV) (v1 : AV) (v7 : AV) (v27 : AV) (v28 : AV) (v29 : AV) (H : Heap) : Prop :=
 binV tab .lss 3 v29 v28 fun v30 =>
 condV v30 (indexAddrV tab 32 v27 v29 fun v31 =>
 loadV tab 155 v31 H fun v32 =>
 allocV tab 155 H fun v9 H4 =>
 storeV tab 155 v9 v32 H4 fun H5 =>
 fieldAddrV tab 155 v9 0 fun v34 =>
 loadV tab 3 v34 H5 fun v35 =>
 CallT Tryz.prog 125 [v35] H5 fun v36 H6 =>
 extractV v36 0 fun v37 =>
 extractV v36 1 fun v38 =>
 extractV v36 2 fun v39 =>
 binV tab .eql 3 v39 (AV.p (.int .i64 0)) fun v41 =>
 grdV v41 false (loadV tab 155 v9 H6 fun v45 =>
 CallT Tryz.prog 126 [v0, v1, v45] H6 fun v46 H7 =>
 unV .not v46 fun v47 =>
 grdV v47 false (lenV tab 46 v7 fun v51 =>
 binV tab .lss 3 v51 v37 fun v53 =>
 condV v53 (K (AV.p (.int .i64 0)) H7)
 (L79_1 K N1 v0 v1 v7 v37 v38 v39 v27 v28 v29 H7))
 (K (AV.p (.int .i64 0)) H7))
 (K (AV.p (.int .i64 0)) H6))
 (lenV tab 46 v7 fun v78 =>
 binV tab .neq 3 v78 (AV.p (.int .i64 1)) fun v79 =>
 condV v79 (K (AV.p (.int .i64 0)) H)
 (indexAddrV tab 46 v7 (AV.p (.int .i64 0)) fun v81 =>
 loadV tab 3 v81 H fun v82 =>
 K v82 H))
def W79 (v0 : AV) (v1 : AV) (v2 : AV) (H : Heap) (K : AV → Heap → Prop) : Prop :=
 CallT Tryz.prog 124 [v0] H fun v14 H1 =>
 unV .not v14 fun v15 =>
 grdV v15 false (CallT Tryz.prog 52 [v1, (AV.p (.int .i64 1)), (AV.p (.int .i64 4))] H1 fun v18 H2 =>
 unV .not v18 fun v19 =>
 grdV v19 false (lenV tab 32 v2 fun v23 =>
 CallT Tryz.prog 52 [v23, (AV.p (.int .i64 1)), (AV.p (.int .i64 48))] H2 fun v24 H3 =>
 unV .not v24 fun v25 =>
 condV v25 (K (AV.p (.int .i64 0)) H3)
 (lenV tab 32 v2 fun v28 =>
 L79_0 K v0 v1 (AV.p .nil) v2 v28 (AV.p (.int .i64 0)) H3))
 (K (AV.p (.int .i64 0)) H2))
 (K (AV.p (.int .i64 0)) H1)
theorem W79_wp (v0 : AV) (v1 : AV) (v2 : AV) (H : Heap) (K : AV → Heap → Prop) : wpC Tryz.prog tab D79 (bodyOf Tryz.f79) (retF tab [.tmp 6] K) (nthA [v0, v1, v2]) H = W79 v0 v1 v2 H K := by kernel_rfl
theorem W79_ok {v0 v1 v2 : AV} {H : Heap} {K : AV → Heap → Prop} (h : W79 v0 v1 v2 H K) : CallT Tryz.prog 79 [v0, v1, v2] H K :=
  CallT.of_wp (D := D79) tab_ok mixed Tryz.func79 (c := bodyOf Tryz.f79) (by kernel_rfl) rfl (by kernel_rfl) (rs := #[.tmp 6]) rfl (by decide +kernel) (by kernel_rfl) (W79_wp v0 v1 v2 H K) h
theorem W79_hb : HasBody Tryz.prog 79 := ⟨_, bodyOf Tryz.f79, Tryz.func79, by kernel_rfl, rfl⟩
theorem L79_1_rule {K : AV → Heap → Prop} {N1 : AV → AV → Heap → Prop} {v0 v1 v7 v10 v11 v12 v27 v28 v29 : AV} {H : Heap} {σ : Type} (s0 : σ) (f7 : σ → AV) (f10 : σ → AV) (TH : σ → Heap) (pre : σ → Prop) (μ : σ → Nat)
    (h0 : pre s0 ∧ AV.wk v7 (f7 s0) ∧ AV.wk v10 (f10 s0) ∧ Heap.le (TH s0) H)
    (round : ∀ s, pre s → B79_1 K N1 (fun w7 w10 H' => ∃ s', pre s' ∧ μ s' < μ s ∧ AV.wk w7 (f7 s') ∧ AV.wk w10 (f10 s') ∧ Heap.le (TH s') H') v0 v1 (f7 s) (f10 s) v11 v12 v27 v28 v29 (TH s)) :
    L79_1 K N1 v0 v1 v7 v10 v11 v12 v27 v28 v29 H := by
  unfold L79_1
  exact LoopV.mk s0 (fun s => [f7 s, f10 s]) TH pre μ (fun _ => rfl) (Eq.mp (by kernel_rfl) h0) (fun s hs => Eq.mp (by kernel_rfl) (round s hs))
theorem L79_0_rule {K : AV → Heap → Prop} {v0 v1 v7 v27 v28 v29 : AV} {H : Heap} {σ : Type} (s0 : σ) (f7 : σ → AV) (f29 : σ → AV) (TH : σ → Heap) (pre : σ → Prop) (μ : σ → Nat)
    (h0 : pre s0 ∧ AV.wk v7 (f7 s0) ∧ AV.wk v29 (f29 s0) ∧ Heap.le (TH s0) H)
    (round : ∀ s, pre s → B79_0 K (fun w7 w29 H' => ∃ s', pre s' ∧ μ s' < μ s ∧ AV.wk w7 (f7 s') ∧ AV.wk w29 (f29 s') ∧ Heap.le (TH s') H') v0 v1 (f7 s) v27 v28 (f29 s) (TH s)) :
    L79_0 K v0 v1 v7 v27 v28 v29 H := by
  unfold L79_0
  exact LoopV.mk s0 (fun s => [f7 s, f29 s]) TH pre μ (fun _ => rfl) (Eq.mp (by kernel_rfl) h0) (fun s hs => Eq.mp (by kernel_rfl) (round s hs))
def D80 : Info := ⟨23, fun i => ([], []), fun i => if i = 3 then ([0, 3], [4]) else ([], [])⟩
def L80_0 (K : AV → Heap → Prop) (v0 : AV) (v3 : AV) (v4 : AV) (H : Heap) : Prop := LoopV (wpC Tryz.prog tab D80 (cAt [1, 1, 0, 1, 0, 0] (bodyOf Tryz.f80))) [0, 3] (PostF.block 0 (PostF.thenA (wpC Tryz.prog tab D80 (cAt [1, 1, 1] (bodyOf Tryz.f80))) (retF tab [.tmp 2] K))) [4] [v0, AV.any, AV.any, v3, v4, AV.any, AV.any, AV.any, AV.any, AV.any, AV.any, AV.any, AV.any, AV.any, AV.any, AV.any, AV.any, AV.any, AV.any, AV.any, AV.any, AV.any, AV.any] H
def B80_0 (K : AV → Heap → Prop) (N1 : AV → Heap → Prop) (v0 : AV) (v3 : AV) (v4 : AV) (H : Heap) : Prop :=
 lenV tab 22 v0 fun v10 =>
 binV tab .lss 3 v4 v10 fun v11 =>
 condV v11 (indexAddrV tab 22 v0 v4 fun v18 =>
 loadV tab 160 v18 H fun v19 =>
 CallT Tryz.prog 127 [v19] H fun v20 H2 =>
 indexAddrV tab 32 v3 v4 fun v21 =>
 storeV tab 155 v21 v20 H2 fun H3 =>
 binV tab .add 3 v4 (AV.p (.int .i64 1)) fun v13 =>
 N1 v13 H3)
 (K v3 H)
def W80 (v0 : AV) (H : Heap) (K : AV → Heap → Prop) : Prop :=
 lenV tab 22 v0 fun v6 =>
 makeSliceV tab 32 v6 v6 H fun v7 H1 =>
 L80_0 K v0 v7 (AV.p (.int .i64 0)) H1
theorem W80_wp (v0 : AV) (H : Heap) (K : AV → Heap → Prop) : wpC Tryz.prog tab D80 (bodyOf Tryz.f80) (retF tab [.tmp 2] K) (nthA [v0]) H = W80 v0 H K := by kernel_rfl
theorem W80_ok {v0 : AV} {H : Heap} {K : AV → Heap → Prop} (h : W80 v0 H K) : CallT Tryz.prog 80 [v0] H K :=
  CallT.of_wp (D := D80) tab_ok mixed Tryz.func80 (c := bodyOf Tryz.f80) (by kernel_rfl) rfl (by kernel_rfl) (rs := #[.tmp 2]) rfl (by decide +kernel) (by kernel_rfl) (W80_wp v0 H K) h
theorem L80_0_rule {K : AV → Heap → Prop} {v0 v3 v4 : AV} {H : Heap} {σ : Type} (s0 : σ) (f4 : σ → AV) (TH : σ → Heap) (pre : σ → Prop) (μ : σ → Nat)
    (h0 : pre s0 ∧ AV.wk v4 (f4 s0) ∧ Heap.le (TH s0) H)
    (round : ∀ s, pre s → B80_0 K (fun w4 H' => ∃ s', pre s' ∧ μ s' < μ s ∧ AV.wk w4 (f4 s') ∧ Heap.le (TH s') H') v0 v3 (f4 s) (TH s)) :
    L80_0 K v0 v3 v4 H := by
  unfold L80_0
  exact LoopV.mk s0 (fun s => [f4 s]) TH pre μ (fun _ => rfl) (Eq.mp (by kernel_rfl) h0) (fun s hs => Eq.mp (by kernel_rfl) (round s hs))
def D81 : Info := ⟨23, fun i => ([], []), fun i => if i = 3 then ([0, 3], [4]) else ([], [])⟩
def L81_0 (K : AV → Heap → Prop) (v0 : AV) (v3 : AV) (v4 : AV) (H : Heap) : Prop := LoopV (wpC Tryz.prog tab D81 (cAt [1, 1, 0, 1, 0, 0] (bodyOf Tryz.f81))) [0, 3] (PostF.block 0 (PostF.thenA (wpC Tryz.prog tab D81 (cAt [1, 1, 1] (bodyOf Tryz.f81))) (retF tab [.tmp 2] K))) [4] [v0, AV.any, AV.any, v3, v4, AV.any, AV.any, AV.any, AV.any, AV.any, AV.any, AV.any, AV.any, AV.any, AV.any, AV.any, AV.any, AV.any, AV.any, AV.any, AV.any, AV.any, AV.any] H
def B81_0 (K : AV → Heap → Prop) (N1 : AV → Heap → Prop) (v0 : AV) (v3 : AV) (v4 : AV) (H : Heap) : Prop :=
 lenV tab 23 v0 fun v10 =>
 binV tab .lss 3 v4 v10 fun v11 =>
 condV v11 (indexAddrV tab 23 v0 v4 fun v18 =>
 loadV tab 147 v18 H fun v19 =>
 CallT Tryz.prog 128 [v19] H fun v20 H2 =>
 indexAddrV tab 33 v3 v4 fun v21 =>
 storeV tab 150 v21 v20 H2 fun H3 =>
 binV tab .add 3 v4 (AV.p (.int .i64 1)) fun v13 =>
 N1 v13 H3)
 (K v3 H)
def W81 (v0 : AV) (H : Heap) (K : AV → Heap → Prop) : Prop :=
 lenV tab 23 v0 fun v6 =>
 makeSliceV tab 33 v6 v6 H fun v7 H1 =>
 L81_0 K v0 v7 (AV.p (.int .i64 0)) H1
theorem W81_wp (v0 : AV) (H : Heap) (K : AV → Heap → Prop) : wpC Tryz.prog tab D81 (bodyOf Tryz.f81) (retF tab [.tmp 2] K) (nthA [v0]) H = W81 v0 H K := by kernel_rfl
theorem W81_ok {v0 : AV} {H : Heap} {K : AV → Heap → Prop} (h : W81 v0 H K) : CallT Tryz.prog 81 [v0] H K :=
  CallT.of_wp (D := D81) tab_ok mixed Tryz.func81 (c := bodyOf Tryz.f81) (by kernel_rfl) rfl (by kernel_rfl) (rs := #[.tmp 2]) rfl (by decide +kernel) (by kernel_rfl) (W81_wp v0 H K) h
theorem L81_0_rule {K : AV → Heap → Prop} {v0 v3 v4 : AV} {H : Heap} {σ : Type} (s0 : σ) (f4 : σ → AV) (TH : σ → Heap) (pre : σ → Prop) (μ : σ → Nat)
    (h0 : pre s0 ∧ AV.wk v4 (f4 s0) ∧ Heap.le (TH s0) H)
    (round : ∀ s, pre s → B81_0 K (fun w4 H' => ∃ s', pre s' ∧ μ s' < μ s ∧ AV.wk w4 (f4 s') ∧ Heap.le (TH s') H') v0 v3 (f4 s) (TH s)) :
    L81_0 K v0 v3 v4 H := by
  unfold L81_0
  exact LoopV.mk s0 (fun s => [f4 s]) TH pre μ (fun _ => rfl) (Eq.mp (by kernel_rfl) h0) (fun s hs => Eq.mp (by kernel_rfl) (round s hs))
def D82 : Info := ⟨11, fun i => ([], []), fun i => ([], [])⟩
def W82 (v0 : AV) (H : Heap) (K : AV → Heap → Prop) : Prop :=
 boxV v0 H fun v1 H1 =>
 allocV tab 106 H1 fun v2 H2 =>
 allocV tab 106 H2 fun v3 H3 =>
 fieldAddrV tab 108 v1 0 fun v4 =>
 loadV tab 3 v4 H3 fun v5 =>
 fieldAddrV tab 106 v3 0 fun v6 =>
 storeV tab 3 v6 v5 H3 fun H4 =>
 fieldAddrV tab 108 v1 1 fun v7 =>
 loadV tab 3 v7 H4 fun v8 =>
 fieldAddrV tab 106 v3 1 fun v9 =>
 storeV tab 3 v9 v8 H4 fun H5 =>
 loadV tab 106 v3 H5 fun v10 =>
 storeV tab 106 v2 v10 H5 fun H6 =>
 loadV tab 106 v2 H6 fun r0 =>
 K r0 H6
theorem W82_wp (v0 : AV) (H : Heap) (K : AV → Heap → Prop) : wpC Tryz.prog tab D82 (bodyOf Tryz.f82) (retF tab [.cell 2 106] K) (nthA [v0]) H = W82 v0 H K := by kernel_rfl
theorem W82_ok {v0 : AV} {H : Heap} {K : AV → Heap → Prop} (h : W82 v0 H K) : CallT Tryz.prog 82 [v0] H K :=
  CallT.of_wp (D := D82) tab_ok mixed Tryz.func82 (c := bodyOf Tryz.f82) (by kernel_rfl) rfl (by kernel_rfl) (rs := #[.cell 2 106]) rfl (by decide +kernel) (by kernel_rfl) (W82_wp v0 H K) h
def D83 : Info := ⟨37, fun i => ([], []), fun i => ([], [])⟩
def W83 (v0 : AV) (H : Heap) (K : AV → Heap → Prop) : Prop :=
 boxV v0 H fun v1 H1 =>
 fieldAddrV tab 35 v1 0 fun v3 =>
 loadV tab 3 v3 H1 fun v4 =>
 CallT Tryz.prog 129 [v4] H1 fun v5 H2 =>
 unV .not v5 fun v6 =>
 grdV v6 false (fieldAddrV tab 35 v1 1 fun v8 =>
 loadV tab 3 v8 H2 fun v9 =>
 CallT Tryz.prog 130 [v9] H2 fun v10 H3 =>
 unV .not v10 fun v11 =>
 grdV v11 false (loadV tab 35 v1 H3 fun v14 =>
 fieldAddrV tab 35 v1 2 fun v15 =>
 loadV tab 32 v15 H3 fun v16 =>
 CallT Tryz.prog 48 [v14, v16] H3 fun v17 H4 =>
 unV .not v17 fun v18 =>
 grdV v18 false (fieldAddrV tab 35 v1 3 fun v21 =>
 loadV tab 33 v21 H4 fun v22 =>
 lenV tab 33 v22 fun v23 =>
 binV tab .lss 3 v23 (AV.p (.int .i64 1)) fun v24 =>
 grdV v24 false (fieldAddrV tab 35 v1 3 fun v27 =>
 loadV tab 33 v27 H4 fun v28 =>
 lenV tab 33 v28 fun v29 =>
 binV tab .gtr 3 v29 (AV.p (.int .i64 6)) fun v30 =>
 condV v30 (K (AV.p (.bool false)) H4)
 (fieldAddrV tab 35 v1 3 fun v32 =>
 loadV tab 33 v32 H4 fun v33 =>
 CallT Tryz.prog 131 [v33, (.fn 132 [v1])] H4 fun v35 H5 =>
 unV .not v35 fun v36 =>
 K v36 H5))
 (K (AV.p (.bool false)) H4))
 (K (AV.p (.bool false)) H4))
 (K (AV.p (.bool false)) H3))
 (K (AV.p (.bool false)) H2)
theorem W83_wp (v0 : AV) (H : Heap) (K : AV → Heap → Prop) : wpC Tryz.prog tab D83 (bodyOf Tryz.f83) (retF tab [.tmp 2] K) (nthA [v0]) H = W83 v0 H K := by kernel_rfl
theorem W83_ok {v0 : AV} {H : Heap} {K : AV → Heap → Prop} (h : W83 v0 H K) : CallT Tryz.prog 83 [v0] H K :=
  CallT.of_wp (D := D83) tab_ok mixed Tryz.func83 (c := bodyOf Tryz.f83) (by kernel_rfl) rfl (by kernel_rfl) (rs := #[.tmp 2]) rfl (by decide +kernel) (by kernel_rfl) (W83_wp v0 H K) h
def D84 : Info := ⟨39, fun i => ([], []), fun i => if i = 5 then ([15, 16], [3, 17]) else ([], [])⟩
def L84_0 (K : AV → Heap → Prop) (v3 : AV) (v15 : AV) (v16 : AV) (v17 : AV) (H : Heap) : Prop := LoopV (wpC Tryz.prog tab D84 (cAt [1, 1, 1, 0, 1, 0, 0] (bodyOf Tryz.f84))) [15, 16] (PostF.block 0 (PostF.thenA (wpC Tryz.prog tab D84 (cAt [1, 1, 1, 1] (bodyOf Tryz.f84))) (retF tab [.tmp 2] K))) [3, 17] [AV.any, AV.any, AV.any, v3, AV.any, AV.any, AV.any, AV.any, AV.any, AV.any, AV.any, AV.any, AV.any, AV.any, AV.any, v15, v16, v17, AV.any, AV.any, AV.any, AV.any, AV.any, AV.any, AV.any, AV.any, AV.any, AV.any, AV.any, AV.any, AV.any, AV.any, AV.any, AV.any, AV.any, AV.any, AV.any, AV.any, AV.any] H
def B84_0 (K : AV → Heap → Prop) (N1 : AV → AV → Heap → Prop) (v3 : AV) (v15 : AV) (v16 : AV) (v17 : AV) (H : Heap) : Prop :=
 binV tab .lss 3 v17 v16 fun v18 =>
 condV v18 (indexAddrV tab 37 v15 v17 fun v19 =>
 loadV tab 106 v19 H fun v20 =>
 allocV tab 106 H fun v5 H1 =>
 storeV tab 106 v5 v20 H1 fun H2 =>
 fieldAddrV tab 106 v5 0 fun v21 =>
 loadV tab 3 v21 H2 fun v22 =>
 CallT Tryz.prog 134 [v22] H2 fun v23 H3 =>
 loadV tab 106 v5 H3 fun v24 =>
 CallT Tryz.prog 135 [v24] H3 fun v25 H4 =>
 unV .not v25 fun v26 =>
 grdV v26 false (binV tab .lss 3 v3 v23 fun v30 =>
 condV v30 (K (AV.p (.bool false)) H4)
 (binV tab .sub 3 (AV.p (.int .i64 1)) v23 fun v34 =>
 binV tab .add 3 v3 v34 fun v35 =>
 binV tab .add 3 v17 (AV.p (.int .i64 1)) fun v36 =>
 N1 v35 v36 H4))
 (K (AV.p (.bool false)) H4))
 (binV tab .eql 3 v3 (AV.p (.int .i64 1)) fun v38 =>
 K v38 H)
def W84 (v0 : AV) (H : Heap) (K : AV → Heap → Prop) : Prop :=
 lenV tab 37 v0 fun v8 =>
 binV tab .lss 3 v8 (AV.p (.int .i64 1)) fun v9 =>
 grdV v9 false (lenV tab 37 v0 fun v12 =>
 binV tab .gtr 3 v12 (AV.p (.int .i64 16)) fun v13 =>
 condV v13 (K (AV.p (.bool false)) H)
 (lenV tab 37 v0 fun v16 =>
 L84_0 K (AV.p (.int .i64 0)) v0 v16 (AV.p (.int .i64 0)) H))
 (K (AV.p (.bool false)) H)
theorem W84_wp (v0 : AV) (H : Heap) (K : AV → Heap → Prop) : wpC Tryz.prog tab D84 (bodyOf Tryz.f84) (retF tab [.tmp 2] K) (nthA [v0]) H = W84 v0 H K := by kernel_rfl
theorem W84_ok {v0 : AV} {H : Heap} {K : AV → Heap → Prop} (h : W84 v0 H K) : CallT Tryz.prog 84 [v0] H K :=
  CallT.of_wp (D := D84) tab_ok mixed Tryz.func84 (c := bodyOf Tryz.f84) (by kernel_rfl) rfl (by kernel_rfl) (rs := #[.tmp 2]) rfl (by decide +kernel) (by kernel_rfl) (W84_wp v0 H K) h
theorem L84_0_rule {K : AV → Heap → Prop} {v3 v15 v16 v17 : AV} {H : Heap} {σ : Type} (s0 : σ) (f3 : σ → AV) (f17 : σ → AV) (TH : σ → Heap) (pre : σ → Prop) (μ : σ → Nat)
    (h0 : pre s0 ∧ AV.wk v3 (f3 s0) ∧ AV.wk v17 (f17 s0) ∧ Heap.le (TH s0) H)
    (round : ∀ s, pre s → B84_0 K (fun w3 w17 H' => ∃ s', pre s' ∧ μ s' < μ s ∧ AV.wk w3 (f3 s') ∧ AV.wk w17 (f17 s') ∧ Heap.le (TH s') H') (f3 s) v15 v16 (f17 s) (TH s)) :
    L84_0 K v3 v15 v16 v17 H := by
  unfold L84_0
  exact LoopV.mk s0 (fun s => [f3 s, f17 s]) TH pre μ (fun _ => rfl) (Eq.mp (by kernel_rfl) h0) (fun s hs => Eq.mp (by kernel_rfl) (round s hs))
def D85 : Info := ⟨51, fun i => ([], []), fun i => if i = 3 then ([4, 13, 14], [3, 15]) else ([], [])⟩
def L85_0 (K : AV → Heap → Prop) (v3 : AV) (v4 : AV) (v13 : AV) (v14 : AV) (v15 : AV) (H : Heap) : Prop := LoopV (wpC Tryz.prog tab D85 (cAt [1, 1, 0, 1, 0, 0] (bodyOf Tryz.f85))) [4, 13, 14] (PostF.block 0 (PostF.thenA (wpC Tryz.prog tab D85 (cAt [1, 1, 1] (bodyOf Tryz.f85))) (retF tab [.tmp 2] K))) [3, 15] [AV.any, AV.any, AV.any, v3, v4, AV.any, AV.any, AV.any, AV.any, AV.any, AV.any, AV.any, AV.any, v13, v14, v15, AV.any, AV.any, AV.any, AV.any, AV.any, AV.any, AV.any, AV.any, AV.any, AV.any, AV.any, AV.any, AV.any, AV.any, AV.any, AV.any, AV.any, AV.any, AV.any, AV.any, AV.any, AV.any, AV.any, AV.any, AV.any, AV.any, AV.any, AV.any, AV.any, AV.any, AV.any, AV.any, AV.any, AV.any, AV.any] H
def J85_1 (K : AV → Heap → Prop) (N1 : AV → AV → Heap → Prop) (v3 : AV) (v4 : AV) (v5 : AV) (v13 : AV) (v14 : AV) (v15 : AV) (v21 : AV) (v22 : AV) (H : Heap) : Prop :=
 condV v22 (indexAddrV tab 60 v4 v5 fun v29 =>
 loadV tab 46 v29 H fun v30 =>
 indexAddrV tab 46 v30 (AV.p (.int .i64 1)) fun v31 =>
 loadV tab 3 v31 H fun v32 =>
 buildSliceV tab 46 2 [(0, v5), (1, v32)] H (wkK fun v33 H5 =>
 appendV tab 46 46 v3 v33 H5 (wkK fun v34 H6 =>
 binV tab .add 3 v15 (AV.p (.int .i64 1)) fun v46 =>
 N1 v34 v46 H6)))
 (binV tab .eql 3 v21 (AV.p (.int .i64 4)) fun v36 =>
 condV v36 (indexAddrV tab 60 v4 v5 fun v40 =>
 loadV tab 46 v40 H fun v41 =>
 indexAddrV tab 46 v41 (AV.p (.int .i64 0)) fun v42 =>
 loadV tab 3 v42 H fun v43 =>
 buildSliceV tab 46 1 [(0, v43)] H (wkK fun v44 H7 =>
 appendV tab 46 46 v3 v44 H7 (wkK fun v45 H8 =>
 binV tab .add 3 v15 (AV.p (.int .i64 1)) fun v46 =>
 N1 v45 v46 H8)))
 (binV tab .add 3 v15 (AV.p (.int .i64 1)) fun v46 =>
 N1 v3 v46 H))
def B85_0 (K : AV → Heap → Prop) (N1 : AV → AV → Heap → Prop) (v3 : AV) (v4 : AV) (v13 : AV) (v14 : AV) (v15 : AV) (H : Heap) : Prop :=
 binV tab .lss 3 v15 v14 fun v16 =>
 condV v16 (indexAddrV tab 37 v13 v15 fun v18 =>
 loadV tab 106 v18 H fun v19 =>
 allocV tab 106 H fun v6 H3 =>
 storeV tab 106 v6 v19 H3 fun H4 =>
 fieldAddrV tab 106 v6 0 fun v20 =>
 loadV tab 3 v20 H4 fun v21 =>
 binV tab .eql 3 v21 (AV.p (.int .i64 7)) fun v23 =>
 condV v23 (J85_1 K N1 v3 v4 v15 v13 v14 v15 v21 v23 H4)
 (binV tab .eql 3 v21 (AV.p (.int .i64 8)) fun v24 =>
 J85_1 K N1 v3 v4 v15 v13 v14 v15 v21 v24 H4))
 (CallT Tryz.prog 137 [v3] H fun v48 H9 =>
 CallT Tryz.prog 138 [v3] H9 fun v50 H10 =>
 K v50 H10)
def W85 (v0 : AV) (H : Heap) (K : AV → Heap → Prop) : Prop :=
 lenV tab 37 v0 fun v8 =>
 binV tab .sub 3 v8 (AV.p (.int .i64 1)) fun v9 =>
 buildSliceV tab 46 1 [(0, v9)] H (wkK fun v10 H1 =>
 CallT Tryz.prog 136 [v0] H1 fun v12 H2 =>
 lenV tab 37 v0 fun v14 =>
 L85_0 K v10 v12 v0 v14 (AV.p (.int .i64 0)) H2)
theorem W85_wp (v0 : AV) (H : Heap) (K : AV → Heap → Prop) : wpC Tryz.prog tab D85 (bodyOf Tryz.f85) (retF tab [.tmp 2] K) (nthA [v0]) H = W85 v0 H K := by kernel_rfl
theorem W85_ok {v0 : AV} {H : Heap} {K : AV → Heap → Prop} (h : W85 v0 H K) : CallT Tryz.prog 85 [v0] H K :=
  CallT.of_wp (D := D85) tab_ok mixed Tryz.func85 (c := bodyOf Tryz.f85) (by kernel_rfl) rfl (by kernel_rfl) (rs := #[.tmp 2]) rfl (by decide +kernel) (by kernel_rfl) (W85_wp v0 H K) h
theorem L85_0_rule {K : AV → Heap → Prop} {v3 v4 v13 v14 v15 : AV} {H : Heap} {σ : Type} (s0 : σ) (f3 : σ → AV) (f15 : σ → AV) (TH : σ → Heap) (pre : σ → Prop) (μ : σ → Nat)
    (h0 : pre s0 ∧ AV.wk v3 (f3 s0) ∧ AV.wk v15 (f15 s0) ∧ Heap.le (TH s0) H)
    (round : ∀ s, pre s → B85_0 K (fun w3 w15 H' => ∃ s', pre s' ∧ μ s' < μ s ∧ AV.wk w3 (f3 s') ∧ AV.wk w15 (f15 s') ∧ Heap.le (TH s') H') (f3 s) v4 v13 v14 (f15 s) (TH s)) :
    L85_0 K v3 v4 v13 v14 v15 H := by
  unfold L85_0
  exact LoopV.mk s0 (fun s => [f3 s, f15 s]) TH pre μ (fun _ => rfl) (Eq.mp (by kernel_rfl) h0) (fun s hs => Eq.mp (by kernel_rfl) (round s hs))
def D86 : Info := ⟨19, fun i => ([], []), fun i => if i = 2 then ([0, 1, 7], [8]) else ([], [])⟩
def L86_0 (K : AV → Heap → Prop) (v0 : AV) (v1 : AV) (v7 : AV) (v8 : AV) (H : Heap) : Prop := LoopV (wpC Tryz.prog tab D86 (cAt [1, 0, 1, 0, 0] (bodyOf Tryz.f86))) [0, 1, 7] (PostF.block 0 (PostF.thenA (wpC Tryz.prog tab D86 (cAt [1, 1] (bodyOf Tryz.f86))) (retF tab [.tmp 4] K))) [8] [v0, v1, AV.any, AV.any, AV.any, AV.any, AV.any, v7, v8, AV.any, AV.any, AV.any, AV.any, AV.any, AV.any, AV.any, AV.any, AV.any, AV.any] H
def B86_0 (K : AV → Heap → Prop) (N1 : AV → Heap → Prop) (v0 : AV) (v1 : AV) (v7 : AV) (v8 : AV) (H : Heap) : Prop :=
 binV tab .lss 3 v8 v7 fun v9 =>
 condV v9 (indexAddrV tab 36 v0 v8 fun v14 =>
 loadV tab 32 v14 H fun v15 =>
 callF Tryz.prog v1 [v15] H fun v16 H1 =>
 condV v16 (K v8 H1)
 (binV tab .add 3 v8 (AV.p (.int .i64 1)) fun v18 =>
 N1 v18 H1))
 (K (AV.p (.int .i64 (-1))) H)
def W86 (v0 : AV) (v1 : AV) (H : Heap) (K : AV → Heap → Prop) : Prop :=
 lenV tab 36 v0 fun v7 =>
 L86_0 K v0 v1 v7 (AV.p (.int .i64 0)) H
theorem W86_wp (v0 : AV) (v1 : AV) (H : Heap) (K : AV → Heap → Prop) : wpC Tryz.prog tab D86 (bodyOf Tryz.f86) (retF tab [.tmp 4] K) (nthA [v0, v1]) H = W86 v0 v1 H K := by kernel_rfl
theorem W86_ok {v0 v1 : AV} {H : Heap} {K : AV → Heap → Prop} (h : W86 v0 v1 H K) : CallT Tryz.prog 86 [v0, v1] H K :=
  CallT.of_wp (D := D86) tab_ok mixed Tryz.func86 (c := bodyOf Tryz.f86) (by kernel_rfl) rfl (by kernel_rfl) (rs := #[.tmp 4]) rfl (by decide +kernel) (by kernel_rfl) (W86_wp v0 v1 H K) h
theorem L86_0_rule {K : AV → Heap → Prop} {v0 v1 v7 v8 : AV} {H : Heap} {σ : Type} (s0 : σ) (f8 : σ → AV) (TH : σ → Heap) (pre : σ → Prop) (μ : σ → Nat)
    (h0 : pre s0 ∧ AV.wk v8 (f8 s0) ∧ Heap.le (TH s0) H)
    (round : ∀ s, pre s → B86_0 K (fun w8 H' => ∃ s', pre s' ∧ μ s' < μ s ∧ AV.wk w8 (f8 s') ∧ Heap.le (TH s') H') v0 v1 v7 (f8 s) (TH s)) :
    L86_0 K v0 v1 v7 v8 H := by
  unfold L86_0
  exact LoopV.mk s0 (fun s => [f8 s]) TH pre μ (fun _ => rfl) (Eq.mp (by kernel_rfl) h0) (fun s hs => Eq.mp (by kernel_rfl) (round s hs))
def D87 : Info := ⟨19, fun i => ([], []), fun i => ([], [])⟩
def W87 (v0 : AV) (v1 : AV) (v2 : AV) (v3 : AV) (H : Heap) (K : AV → Heap → Prop) : Prop :=
 CallT Tryz.prog 139 [v0, v1, v2] H fun v12 H1 =>
 grdV v12 true (CallT Tryz.prog 140 [v2] H1 fun v15 H2 =>
 binV tab .eql 3 v15 v3 fun v17 =>
 K v17 H2)
 (K (AV.p (.bool false)) H1)
theorem W87_wp (v0 : AV) (v1 : AV) (v2 : AV) (v3 : AV) (H : Heap) (K : AV → Heap → Prop) : wpC Tryz.prog tab D87 (bodyOf Tryz.f87) (retF tab [.tmp 8] K) (nthA [v0, v1, v2, v3]) H = W87 v0 v1 v2 v3 H K := by kernel_rfl
theorem W87_ok {v0 v1 v2 v3 : AV} {H : Heap} {K : AV → Heap → Prop} (h : W87 v0 v1 v2 v3 H K) : CallT Tryz.prog 87 [v0, v1, v2, v3] H K :=
  CallT.of_wp (D := D87) tab_ok mixed Tryz.func87 (c := bodyOf Tryz.f87) (by kernel_rfl) rfl (by kernel_rfl) (rs := #[.tmp 8]) rfl (by decide +kernel) (by kernel_rfl) (W87_wp v0 v1 v2 v3 H K) h
def D88 : Info := ⟨27, fun i => if i = 6 then ([[], [], [0, 1], [0, 1, 2], [], [], [4, 5], [4, 5, 6], [0, 1, 2, 3, 4, 5, 6, 7], [0, 1, 2, 3, 4, 5, 6, 7, 8]], [(0, []), (1, []), (2, []), (3, []), (4, []), (5, []), (6, []), (7, []), (8, []), (9, [])]) else ([], []), fun i => if i = 4 then ([0, 1], [5]) else ([], [])⟩
def L88_0 (K : AV → Heap → Prop) (v0 : AV) (v1 : AV) (v5 : AV) (H : Heap) : Prop := LoopV (wpC Tryz.prog tab D88 (cAt [1, 1, 0, 1, 0, 0] (bodyOf Tryz.f88))) [0, 1] (PostF.block 0 (PostF.thenA (wpC Tryz.prog tab D88 (cAt [1, 1, 1] (bodyOf Tryz.f88))) (retF tab [.tmp 4] K))) [5] [v0, v1, AV.any, AV.any, AV.any, v5, AV.any, AV.any, AV.any, AV.any, AV.any, AV.any, AV.any, AV.any, AV.any, AV.any, AV.any, AV.any, AV.any, AV.any, AV.any, AV.any, AV.any, AV.any, AV.any, AV.any, AV.any] H
def B88_0 (K : AV → Heap → Prop) (N1 : AV → Heap → Prop) (v0 : AV) (v1 : AV) (v5 : AV) (H : Heap) : Prop :=
 lenV tab 32 v0 fun v13 =>
 binV tab .lss 3 v5 v13 fun v14 =>
 condV v14 (indexAddrV tab 32 v0 v5 fun v19 =>
 loadV tab 155 v19 H fun v20 =>
 indexAddrV tab 32 v1 v5 fun v23 =>
 loadV tab 155 v23 H fun v24 =>
 CallT Tryz.prog 141 [v20, v24] H fun v25 H1 =>
 unV .not v25 fun v26 =>
 condV v26 (K (AV.p (.bool false)) H1)
 (binV tab .add 3 v5 (AV.p (.int .i64 1)) fun v16 =>
 N1 v16 H1))
 (K (AV.p (.bool true)) H)
def W88 (v0 : AV) (v1 : AV) (H : Heap) (K : AV → Heap → Prop) : Prop :=
 lenV tab 32 v0 fun v7 =>
 lenV tab 32 v1 fun v9 =>
 binV tab .neq 3 v7 v9 fun v10 =>
 condV v10 (K (AV.p (.bool false)) H)
 (L88_0 K v0 v1 (AV.p (.int .i64 0)) H)
theorem W88_wp (v0 : AV) (v1 : AV) (H : Heap) (K : AV → Heap → Prop) : wpC Tryz.prog tab D88 (bodyOf Tryz.f88) (retF tab [.tmp 4] K) (nthA [v0, v1]) H = W88 v0 v1 H K := by kernel_rfl
theorem W88_ok {v0 v1 : AV} {H : Heap} {K : AV → Heap → Prop} (h : W88 v0 v1 H K) : CallT Tryz.prog 88 [v0, v1] H K :=
  CallT.of_wp (D := D88) tab_ok mixed Tryz.func88 (c := bodyOf Tryz.f88) (by kernel_rfl) rfl (by kernel_rfl) (rs := #[.tmp 4]) rfl (by decide +kernel) (by kernel_rfl) (W88_wp v0 v1 H K) h
theorem L88_0_rule {K : AV → Heap → Prop} {v0 v1 v5 : AV} {H : Heap} {σ : Type} (s0 : σ) (f5 : σ → AV) (TH : σ → Heap) (pre : σ → Prop) (μ : σ → Nat)
    (h0 : pre s0 ∧ AV.wk v5 (f5 s0) ∧ Heap.le (TH s0) H)
    (round : ∀ s, pre s → B88_0 K (fun w5 H' => ∃ s', pre s' ∧ μ s' < μ s ∧ AV.wk w5 (f5 s') ∧ Heap.le (TH s') H') v0 v1 (f5 s) (TH s)) :
    L88_0 K v0 v1 v5 H := by
  unfold L88_0
  exact LoopV.mk s0 (fun s => [f5 s]) TH pre μ (fun _ => rfl) (Eq.mp (by kernel_rfl) h0) (fun s hs => Eq.mp (by kernel_rfl) (round s hs))
def D89 : Info := ⟨27, fun i => if i = 6 then ([[], [], [0, 1], [0, 1, 2], [], [], [4, 5], [4, 5, 6], [0, 1, 2, 3, 4, 5, 6, 7], [0, 1, 2, 3, 4, 5, 6, 7, 8]], [(0, []), (1, []), (2, []), (3, []), (4, []), (5, []), (6, []), (7, []), (8, []), (9, [])]) else ([], []), fun i => if i = 4 then ([0, 1], [5]) else ([], [])⟩
def L89_0 (K : AV → Heap → Prop) (v0 : AV) (v1 : AV) (v5 : AV) (H : Heap) : Prop := LoopV (wpC Tryz.prog tab D89 (cAt [1, 1, 0, 1, 0, 0] (bodyOf Tryz.f89))) [0, 1] (PostF.block 0 (PostF.thenA (wpC Tryz.prog tab D89 (cAt [1, 1, 1] (bodyOf Tryz.f89))) (retF tab [.tmp 4] K))) [5] [v0, v1, AV.any, AV.any, AV.any, v5, AV.any, AV.any, AV.any, AV.any, AV.any, AV.any, AV.any, AV.any, AV.any, AV.any, AV.any, AV.any, AV.any, AV.any, AV.any, AV.any, AV.any, AV.any, AV.any, AV.any, AV.any] H
def B89_0 (K : AV → Heap → Prop) (N1 : AV → Heap → Prop) (v0 : AV) (v1 : AV) (v5 : AV) (H : Heap) : Prop :=
 lenV tab 33 v0 fun v13 =>
 binV tab .lss 3 v5 v13 fun v14 =>
 condV v14 (indexAddrV tab 33 v0 v5 fun v19 =>
 loadV tab 150 v19 H fun v20 =>
 indexAddrV tab 33 v1 v5 fun v23 =>
 loadV tab 150 v23 H fun v24 =>
 CallT Tryz.prog 142 [v20, v24] H fun v25 H1 =>
 unV .not v25 fun v26 =>
 condV v26 (K (AV.p (.bool false)) H1)
 (binV tab .add 3 v5 (AV.p (.int .i64 1)) fun v16 =>
 N1 v16 H1))
 (K (AV.p (.bool true)) H)
def W89 (v0 : AV) (v1 : AV) (H : Heap) (K : AV → Heap → Prop) : Prop :=
 lenV tab 33 v0 fun v7 =>
 lenV tab 33 v1 fun v9 =>
 binV tab .neq 3 v7 v9 fun v10 =>
 condV v10 (K (AV.p (.bool false)) H)
 (L89_0 K v0 v1 (AV.p (.int .i64 0)) H)
theorem W89_wp (v0 : AV) (v1 : AV) (H : Heap) (K : AV → Heap → Prop) : wpC Tryz.prog tab D89 (bodyOf Tryz.f89) (retF tab [.tmp 4] K) (nthA [v0, v1]) H = W89 v0 v1 H K := by kernel_rfl
theorem W89_ok {v0 v1 : AV} {H : Heap} {K : AV → Heap → Prop} (h : W89 v0 v1 H K) : CallT Tryz.prog 89 [v0, v1] H K :=
  CallT.of_wp (D := D89) tab_ok mixed Tryz.func89 (c := bodyOf Tryz.f89) (by kernel_rfl) rfl (by kernel_rfl) (rs := #[.tmp 4]) rfl (by decide +kernel) (by kernel_rfl) (W89_wp v0 v1 H K) h
theorem L89_0_rule {K : AV → Heap → Prop} {v0 v1 v5 : AV} {H : Heap} {σ : Type} (s0 : σ) (f5 : σ → AV) (TH : σ → Heap) (pre : σ → Prop) (μ : σ → Nat)
    (h0 : pre s0 ∧ AV.wk v5 (f5 s0) ∧ Heap.le (TH s0) H)
    (round : ∀ s, pre s → B89_0 K (fun w5 H' => ∃ s', pre s' ∧ μ s' < μ s ∧ AV.wk w5 (f5 s') ∧ Heap.le (TH s') H') v0 v1 (f5 s) (TH s)) :
    L89_0 K v0 v1 v5 H := by
  unfold L89_0
  exact LoopV.mk s0 (fun s => [f5 s]) TH pre μ (fun _ => rfl) (Eq.mp (by kernel_rfl) h0) (fun s hs => Eq.mp (by kernel_rfl) (round s hs))
def D90 : Info := ⟨15, fun i => ([], []), fun i => ([], [])⟩
def W90 (v0 : AV) (v1 : AV) (H : Heap) (K : AV → Heap → Prop) : Prop :=
 boxV v0 H fun v2 H1 =>
 boxV v1 H1 fun v3 H2 =>
 fieldAddrV tab 106 v2 0 fun v5 =>
 loadV tab 3 v5 H2 fun v6 =>
 fieldAddrV tab 106 v3 0 fun v7 =>
 loadV tab 3 v7 H2 fun v8 =>
 binV tab .neq 3 v6 v8 fun v9 =>
 condV v9 (K (AV.p (.bool false)) H2)
 (fieldAddrV tab 106 v2 1 fun v10 =>
 loadV tab 3 v10 H2 fun v11 =>
 fieldAddrV tab 106 v3 1 fun v12 =>
 loadV tab 3 v12 H2 fun v13 =>
 binV tab .neq 3 v11 v13 fun v14 =>
 condV v14 (K (AV.p (.bool false)) H2)
 (K (AV.p (.bool true)) H2))
theorem W90_wp (v0 : AV) (v1 : AV) (H : Heap) (K : AV → Heap → Prop) : wpC Tryz.prog tab D90 (bodyOf Tryz.f90) (retF tab [.tmp 4] K) (nthA [v0, v1]) H = W90 v0 v1 H K := by kernel_rfl
theorem W90_ok {v0 v1 : AV} {H : Heap} {K : AV → Heap → Prop} (h : W90 v0 v1 H K) : CallT Tryz.prog 90 [v0, v1] H K :=
  CallT.of_wp (D := D90) tab_ok mixed Tryz.func90 (c := bodyOf Tryz.f90) (by kernel_rfl) rfl (by kernel_rfl) (rs := #[.tmp 4]) rfl (by decide +kernel) (by kernel_rfl) (W90_wp v0 v1 H K) h
def D91 : Info := ⟨16, fun i => ([], []), fun i => ([], [])⟩
def W91 (v0 : AV) (v1 : AV) (v2 : AV) (H : Heap) (K : AV → Heap → Prop) : Prop :=
 boxV v0 H fun v3 H1 =>
 fieldAddrV tab 35 v3 0 fun v7 =>
 loadV tab 3 v7 H1 fun v8 =>
 lenV tab 32 v1 fun v11 =>
 binV tab .sub 3 v11 (AV.p (.int .i64 1)) fun v12 =>
 CallT Tryz.prog 143 [v8, v1, v12, v2] H1 fun v14 H2 =>
 binV tab .eql 153 v14 (AV.p (.int .u64 1)) fun v15 =>
 K v15 H2
theorem W91_wp (v0 : AV) (v1 : AV) (v2 : AV) (H : Heap) (K : AV → Heap → Prop) : wpC Tryz.prog tab D91 (bodyOf Tryz.f91) (retF tab [.tmp 6] K) (nthA [v0, v1, v2]) H = W91 v0 v1 v2 H K := by kernel_rfl
theorem W91_ok {v0 v1 v2 : AV} {H : Heap} {K : AV → Heap → Prop} (h : W91 v0 v1 v2 H K) : CallT Tryz.prog 91 [v0, v1, v2] H K :=
  CallT.of_wp (D := D91) tab_ok mixed Tryz.func91 (c := bodyOf Tryz.f91) (by kernel_rfl) rfl (by kernel_rfl) (rs := #[.tmp 6]) rfl (by decide +kernel) (by kernel_rfl) (W91_wp v0 v1 v2 H K) h
def D92 : Info := ⟨31, fun i => ([], []), fun i => if i = 3 then ([1, 2], [5, 6]) else ([], [])⟩
def L92_0 (K : AV → Heap → Prop) (v1 : AV) (v2 : AV) (v5 : AV) (v6 : AV) (H : Heap) : Prop := LoopV (wpC Tryz.prog tab D92 (cAt [1, 1, 0, 1, 0, 0] (bodyOf Tryz.f92))) [1, 2] (PostF.block 0 (PostF.thenA (wpC Tryz.prog tab D92 (cAt [1, 1, 1] (bodyOf Tryz.f92))) (retF tab [.tmp 4] K))) [5, 6] [AV.any, v1, v2, AV.any, AV.any, v5, v6, AV.any, AV.any, AV.any, AV.any, AV.any, AV.any, AV.any, AV.any, AV.any, AV.any, AV.any, AV.any, AV.any, AV.any, AV.any, AV.any, AV.any, AV.any, AV.any, AV.any, AV.any, AV.any, AV.any, AV.any] H
def B92_0 (K : AV → Heap → Prop) (N1 : AV → AV → Heap → Prop) (v1 : AV) (v2 : AV) (v5 : AV) (v6 : AV) (H : Heap) : Prop :=
 fieldAddrV tab 35 v2 1 fun v8 =>
 loadV tab 3 v8 H fun v9 =>
 binV tab .lss 3 v6 v9 fun v10 =>
 condV v10 (fieldAddrV tab 35 v2 0 fun v16 =>
 loadV tab 3 v16 H fun v17 =>
 binV tab .mul 3 v6 v17 fun v18 =>
 convV tab 3 114 v18 fun v19 =>
 binV tab .shr 3 v1 v19 fun v20 =>
 fieldAddrV tab 35 v2 0 fun v21 =>
 loadV tab 3 v21 H fun v22 =>
 convV tab 3 114 v22 fun v23 =>
 binV tab .shl 3 (AV.p (.int .i64 1)) v23 fun v24 =>
 binV tab .sub 3 v24 (AV.p (.int .i64 1)) fun v25 =>
 binV tab .and 3 v20 v25 fun v26 =>
 convV tab 3 153 v26 fun v27 =>
 buildSliceV tab 116 1 [(0, v27)] H (wkK fun v28 H2 =>
 appendV tab 116 116 v5 v28 H2 (wkK fun v29 H3 =>
 binV tab .add 3 v6 (AV.p (.int .i64 1)) fun v12 =>
 N1 v29 v12 H3)))
 (K v5 H)
def W92 (v0 : AV) (v1 : AV) (H : Heap) (K : AV → Heap → Prop) : Prop :=
 boxV v0 H fun v2 H1 =>
 L92_0 K v1 v2 (AV.p .nil) (AV.p (.int .i64 0)) H1
theorem W92_wp (v0 : AV) (v1 : AV) (H : Heap) (K : AV → Heap → Prop) : wpC Tryz.prog tab D92 (bodyOf Tryz.f92) (retF tab [.tmp 4] K) (nthA [v0, v1]) H = W92 v0 v1 H K := by kernel_rfl
theorem W92_ok {v0 v1 : AV} {H : Heap} {K : AV → Heap → Prop} (h : W92 v0 v1 H K) : CallT Tryz.prog 92 [v0, v1] H K :=
  CallT.of_wp (D := D92) tab_ok mixed Tryz.func92 (c := bodyOf Tryz.f92) (by kernel_rfl) rfl (by kernel_rfl) (rs := #[.tmp 4]) rfl (by decide +kernel) (by kernel_rfl) (W92_wp v0 v1 H K) h
theorem W92_hb : HasBody Tryz.prog 92 := ⟨_, bodyOf Tryz.f92, Tryz.func92, by kernel_rfl, rfl⟩
theorem L92_0_rule {K : AV → Heap → Prop} {v1 v2 v5 v6 : AV} {H : Heap} {σ : Type} (s0 : σ) (f5 : σ → AV) (f6 : σ → AV) (TH : σ → Heap) (pre : σ → Prop) (μ : σ → Nat)
    (h0 : pre s0 ∧ AV.wk v5 (f5 s0) ∧ AV.wk v6 (f6 s0) ∧ Heap.le (TH s0) H)
    (round : ∀ s, pre s → B92_0 K (fun w5 w6 H' => ∃ s', pre s' ∧ μ s' < μ s ∧ AV.wk w5 (f5 s') ∧ AV.wk w6 (f6 s') ∧ Heap.le (TH s') H') v1 v2 (f5 s) (f6 s) (TH s)) :
    L92_0 K v1 v2 v5 v6 H := by
  unfold L92_0
  exact LoopV.mk s0 (fun s => [f5 s, f6 s]) TH pre μ (fun _ => rfl) (Eq.mp (by kernel_rfl) h0) (fun s hs => Eq.mp (by kernel_rfl) (round s hs))
def D93 : Info := ⟨9, fun i => ([], []), fun i => ([], [])⟩
def W93 (v0 : AV) (H : Heap) (K : AV → Heap → Prop) : Prop :=
 boxV v0 H fun v1 H1 =>
 fieldAddrV tab 35 v1 0 fun v3 =>
 loadV tab 3 v3 H1 fun v4 =>
 fieldAddrV tab 35 v1 1 fun v5 =>
 loadV tab 3 v5 H1 fun v6 =>
 binV tab .mul 3 v4 v6 fun v7 =>
 binV tab .shl 3 (AV.p (.int .i64 1)) v7 fun v8 =>
 K v8 H1
theorem W93_wp (v0 : AV) (H : Heap) (K : AV → Heap → Prop) : wpC Tryz.prog tab D93 (bodyOf Tryz.f93) (retF tab [.tmp 2] K) (nthA [v0]) H = W93 v0 H K := by kernel_rfl
theorem W93_ok {v0 : AV} {H : Heap} {K : AV → Heap → Prop} (h : W93 v0 H K) : CallT Tryz.prog 93 [v0] H K :=
  CallT.of_wp (D := D93) tab_ok mixed Tryz.func93 (c := bodyOf Tryz.f93) (by kernel_rfl) rfl (by kernel_rfl) (rs := #[.tmp 2]) rfl (by decide +kernel) (by kernel_rfl) (W93_wp v0 H K) h
end Go.Proofs.YtgcklgeifdefhaaGreat
namespace Go.Proofs.YtgcklgeifdefhaaGreat
open Go Go.Sep
attribute [local irreducible] wpC headF
def D94 : Info := ⟨29, fun i => if i = 5 then ([[], [], [1], [], [3], [], [3, 4, 5], [1, 2, 3, 4, 5, 6], [], [8], [8, 9], [1, 2, 3, 4, 5, 6, 7, 8, 9, 10], [1, 2, 3, 4, 5, 6, 7, 8, 9, 10, 11], [0, 1, 2, 3, 4, 5, 6, 7, 8, 9, 10, 11, 12], [0, 1, 2, 3, 4, 5, 6, 7, 8, 9, 10, 11, 12, 13]], [(0, []), (1, []), (2, []), (3, []), (4, []), (5, []), (6, []), (7, []), (8, []), (9, []), (10, [4]), (11, []), (12, []), (13, []), (14, [])]) else ([], []), fun i => if i = 3 then ([1, 2, 9], [5, 10]) else ([], [])⟩
def L94_0 (K : AV → Heap → Prop) (v1 : AV) (v2 : AV) (v5 : AV) (v9 : AV) (v10 : AV) (H : Heap) : Prop := LoopV (wpC Tryz.prog tab D94 (cAt [1, 1, 0, 1, 0, 0] (bodyOf Tryz.f94))) [1, 2, 9] (PostF.block 0 (PostF.thenA (wpC Tryz.prog tab D94 (cAt [1, 1, 1] (bodyOf Tryz.f94))) (retF tab [.tmp 4] K))) [5, 10] [AV.any, v1, v2, AV.any, AV.any, v5, AV.any, AV.any, AV.any, v9, v10, AV.any, AV.any, AV.any, AV.any, AV.any, AV.any, AV.any, AV.any, AV.any, AV.any, AV.any, AV.any, AV.any, AV.any, AV.any, AV.any, AV.any, AV.any] H
def B94_0 (K : AV → Heap → Prop) (N1 : AV → AV → Heap → Prop) (v1 : AV) (v2 : AV) (v5 : AV) (v9 : AV) (v10 : AV) (H : Heap) : Prop :=
 binV tab .lss 3 v10 v9 fun v11 =>
 condV v11 (convV tab 3 153 v1 fun v15 =>
 fieldAddrV tab 35 v2 0 fun v16 =>
 loadV tab 3 v16 H fun v17 =>
 binV tab .mul 3 v17 v10 fun v19 =>
 binV tab .shr 153 v15 v19 fun v20 =>
 fieldAddrV tab 35 v2 0 fun v21 =>
 loadV tab 3 v21 H fun v22 =>
 CallT Tryz.prog 144 [v22] H fun v23 H3 =>
 (loadV tab 3 v16 H3 fun v9017 =>
 v17 = v9017) ∧
 binV tab .and 153 v20 v23 fun v24 =>
 buildSliceV tab 116 1 [(0, v24)] H3 (wkK fun v25 H4 =>
 appendV tab 116 116 v5 v25 H4 (wkK fun v26 H5 =>
 binV tab .add 3 v10 (AV.p (.int .i64 1)) fun v27 =>
 N1 v26 v27 H5)))
 (K v5 H)
def W94 (v0 : AV) (v1 : AV) (H : Heap) (K : AV → Heap → Prop) : Prop :=
 boxV v0 H fun v2 H1 =>
 buildSliceV tab 116 0 [] H1 (wkK fun v7 H2 =>
 fieldAddrV tab 35 v2 1 fun v8 =>
 loadV tab 3 v8 H2 fun v9 =>
 L94_0 K v1 v2 v7 v9 (AV.p (.int .i64 0)) H2)
theorem W94_wp (v0 : AV) (v1 : AV) (H : Heap) (K : AV → Heap → Prop) : wpC Tryz.prog tab D94 (bodyOf Tryz.f94) (retF tab [.tmp 4] K) (nthA [v0, v1]) H = W94 v0 v1 H K := by kernel_rfl
theorem W94_ok {v0 v1 : AV} {H : Heap} {K : AV → Heap → Prop} (h : W94 v0 v1 H K) : CallT Tryz.prog 94 [v0, v1] H K :=
  CallT.of_wp (D := D94) tab_ok mixed Tryz.func94 (c := bodyOf Tryz.f94) (by kernel_rfl) rfl (by kernel_rfl) (rs := #[.tmp 4]) rfl (by decide +kernel) (by kernel_rfl) (W94_wp v0 v1 H K) h
theorem L94_0_rule {K : AV → Heap → Prop} {v1 v2 v5 v9 v10 : AV} {H : Heap} {σ : Type} (s0 : σ) (f5 : σ → AV) (f10 : σ → AV) (TH : σ → Heap) (pre : σ → Prop) (μ : σ → Nat)
    (h0 : pre s0 ∧ AV.wk v5 (f5 s0) ∧ AV.wk v10 (f10 s0) ∧ Heap.le (TH s0) H)
    (round : ∀ s, pre s → B94_0 K (fun w5 w10 H' => ∃ s', pre s' ∧ μ s' < μ s ∧ AV.wk w5 (f5 s') ∧ AV.wk w10 (f10 s') ∧ Heap.le (TH s') H') v1 v2 (f5 s) v9 (f10 s) (TH s)) :
    L94_0 K v1 v2 v5 v9 v10 H := by
  unfold L94_0
  exact LoopV.mk s0 (fun s => [f5 s, f10 s]) TH pre μ (fun _ => rfl) (Eq.mp (by kernel_rfl) h0) (fun s hs => Eq.mp (by kernel_rfl) (round s hs))
def D95 : Info := ⟨13, fun i => ([], []), fun i => ([], [])⟩
def W95 (v0 : AV) (v1 : AV) (v2 : AV) (H : Heap) (K : AV → Heap → Prop) : Prop :=
 boxV v0 H fun v3 H1 =>
 fieldAddrV tab 35 v3 0 fun v7 =>
 loadV tab 3 v7 H1 fun v8 =>
 CallT Tryz.prog 145 [v8, v1, v2] H1 fun v11 H2 =>
 binV tab .eql 153 v11 (AV.p (.int .u64 1)) fun v12 =>
 K v12 H2
theorem W95_wp (v0 : AV) (v1 : AV) (v2 : AV) (H : Heap) (K : AV → Heap → Prop) : wpC Tryz.prog tab D95 (bodyOf Tryz.f95) (retF tab [.tmp 6] K) (nthA [v0, v1, v2]) H = W95 v0 v1 v2 H K := by kernel_rfl
theorem W95_ok {v0 v1 v2 : AV} {H : Heap} {K : AV → Heap → Prop} (h : W95 v0 v1 v2 H K) : CallT Tryz.prog 95 [v0, v1, v2] H K :=
  CallT.of_wp (D := D95) tab_ok mixed Tryz.func95 (c := bodyOf Tryz.f95) (by kernel_rfl) rfl (by kernel_rfl) (rs := #[.tmp 6]) rfl (by decide +kernel) (by kernel_rfl) (W95_wp v0 v1 v2 H K) h
def D96 : Info := ⟨16, fun i => ([], []), fun i => ([], [])⟩
def W96 (v0 : AV) (v1 : AV) (H : Heap) (K : AV → Heap → Prop) : Prop :=
 boxV v0 H fun v2 H1 =>
 lenV tab 46 v1 fun v6 =>
 binV tab .leq 3 v6 (AV.p (.int .i64 2000)) fun v7 =>
 grdV v7 true (fieldAddrV tab 39 v2 0 fun v10 =>
 loadV tab 35 v10 H1 fun v11 =>
 CallT Tryz.prog 53 [v11] H1 fun v12 H2 =>
 binV tab .sub 3 v12 (AV.p (.int .i64 1)) fun v13 =>
 CallT Tryz.prog 146 [v1, (AV.p (.int .i64 0)), v13] H2 fun v14 H3 =>
 K v14 H3)
 (K (AV.p (.bool false)) H1)
theorem W96_wp (v0 : AV) (v1 : AV) (H : Heap) (K : AV → Heap → Prop) : wpC Tryz.prog tab D96 (bodyOf Tryz.f96) (retF tab [.tmp 4] K) (nthA [v0, v1]) H = W96 v0 v1 H K := by kernel_rfl
theorem W96_ok {v0 v1 : AV} {H : Heap} {K : AV → Heap → Prop} (h : W96 v0 v1 H K) : CallT Tryz.prog 96 [v0, v1] H K :=
  CallT.of_wp (D := D96) tab_ok mixed Tryz.func96 (c := bodyOf Tryz.f96) (by kernel_rfl) rfl (by kernel_rfl) (rs := #[.tmp 4]) rfl (by decide +kernel) (by kernel_rfl) (W96_wp v0 v1 H K) h
def D97 : Info := ⟨6, fun i => ([], []), fun i => ([], [])⟩
def W97 (v0 : AV) (H : Heap) (K : AV → Heap → Prop) : Prop :=
 buildSliceV tab 46 0 [] H (wkK fun v3 H1 =>
 appendV tab 46 46 v3 v0 H1 (wkK fun v5 H2 =>
 K v5 H2))
theorem W97_wp (v0 : AV) (H : Heap) (K : AV → Heap → Prop) : wpC Tryz.prog tab D97 (bodyOf Tryz.f97) (retF tab [.tmp 2] K) (nthA [v0]) H = W97 v0 H K := by kernel_rfl
theorem W97_ok {v0 : AV} {H : Heap} {K : AV → Heap → Prop} (h : W97 v0 H K) : CallT Tryz.prog 97 [v0] H K :=
  CallT.of_wp (D := D97) tab_ok mixed Tryz.func97 (c := bodyOf Tryz.f97) (by kernel_rfl) rfl (by kernel_rfl) (rs := #[.tmp 2]) rfl (by decide +kernel) (by kernel_rfl) (W97_wp v0 H K) h
def D98 : Info := ⟨17, fun i => ([], []), fun i => if i = 2 then ([1, 7, 8], [9]) else ([], [])⟩
def L98_0 (K : AV → Heap → Prop) (v1 : AV) (v7 : AV) (v8 : AV) (v9 : AV) (H : Heap) : Prop := LoopV (wpC Tryz.prog tab D98 (cAt [1, 0, 1, 0, 0] (bodyOf Tryz.f98))) [1, 7, 8] (PostF.block 0 (PostF.thenA (wpC Tryz.prog tab D98 (cAt [1, 1] (bodyOf Tryz.f98))) (retF tab [.tmp 4] K))) [9] [AV.any, v1, AV.any, AV.any, AV.any, AV.any, AV.any, v7, v8, v9, AV.any, AV.any, AV.any, AV.any, AV.any, AV.any, AV.any] H
def B98_0 (K : AV → Heap → Prop) (N1 : AV → Heap → Prop) (v1 : AV) (v7 : AV) (v8 : AV) (v9 : AV) (H : Heap) : Prop :=
 binV tab .lss 3 v9 v8 fun v10 =>
 condV v10 (indexAddrV tab 46 v7 v9 fun v11 =>
 loadV tab 3 v11 H fun v12 =>
 binV tab .eql 3 v12 v1 fun v15 =>
 condV v15 (K (AV.p (.bool true)) H)
 (binV tab .add 3 v9 (AV.p (.int .i64 1)) fun v16 =>
 N1 v16 H))
 (K (AV.p (.bool false)) H)
def W98 (v0 : AV) (v1 : AV) (H : Heap) (K : AV → Heap → Prop) : Prop :=
 lenV tab 46 v0 fun v8 =>
 L98_0 K v1 v0 v8 (AV.p (.int .i64 0)) H
theorem W98_wp (v0 : AV) (v1 : AV) (H : Heap) (K : AV → Heap → Prop) : wpC Tryz.prog tab D98 (bodyOf Tryz.f98) (retF tab [.tmp 4] K) (nthA [v0, v1]) H = W98 v0 v1 H K := by kernel_rfl
theorem W98_ok {v0 v1 : AV} {H : Heap} {K : AV → Heap → Prop} (h : W98 v0 v1 H K) : CallT Tryz.prog 98 [v0, v1] H K :=
  CallT.of_wp (D := D98) tab_ok mixed Tryz.func98 (c := bodyOf Tryz.f98) (by kernel_rfl) rfl (by kernel_rfl) (rs := #[.tmp 4]) rfl (by decide +kernel) (by kernel_rfl) (W98_wp v0 v1 H K) h
theorem L98_0_rule {K : AV → Heap → Prop} {v1 v7 v8 v9 : AV} {H : Heap} {σ : Type} (s0 : σ) (f9 : σ → AV) (TH : σ → Heap) (pre : σ → Prop) (μ : σ → Nat)
    (h0 : pre s0 ∧ AV.wk v9 (f9 s0) ∧ Heap.le (TH s0) H)
    (round : ∀ s, pre s → B98_0 K (fun w9 H' => ∃ s', pre s' ∧ μ s' < μ s ∧ AV.wk w9 (f9 s') ∧ Heap.le (TH s') H') v1 v7 v8 (f9 s) (TH s)) :
    L98_0 K v1 v7 v8 v9 H := by
  unfold L98_0
  exact LoopV.mk s0 (fun s => [f9 s]) TH pre μ (fun _ => rfl) (Eq.mp (by kernel_rfl) h0) (fun s hs => Eq.mp (by kernel_rfl) (round s hs))
def D99 : Info := ⟨35, fun i => if i = 6 then ([[], [], [], [], [], [2, 3, 4], [1, 2, 3, 4, 5], [0, 1, 2, 3, 4, 5, 6], [0, 1, 2, 3, 4, 5, 6, 7]], [(0, []), (1, []), (2, []), (3, []), (4, []), (5, [1]), (6, []), (7, []), (8, [])]) else ([], []), fun i => if i = 4 then ([1, 2, 5, 14, 15], [6, 16]) else ([], [])⟩
def L99_0 (K : AV → Heap → Prop) (v1 : AV) (v2 : AV) (v5 : AV) (v6 : AV) (v14 : AV) (v15 : AV) (v16 : AV) (H : Heap) : Prop := LoopV (wpC Tryz.prog tab D99 (cAt [1, 1, 1, 0, 1, 0, 0] (bodyOf Tryz.f99))) [1, 2, 5, 14, 15] (PostF.block 0 (PostF.thenA (wpC Tryz.prog tab D99 (cAt [1, 1, 1, 1] (bodyOf Tryz.f99))) (retF tab [.tmp 4] K))) [6, 16] [AV.any, v1, v2, AV.any, AV.any, v5, v6, AV.any, AV.any, AV.any, AV.any, AV.any, AV.any, AV.any, v14, v15, v16, AV.any, AV.any, AV.any, AV.any, AV.any, AV.any, AV.any, AV.any, AV.any, AV.any, AV.any, AV.any, AV.any, AV.any, AV.any, AV.any, AV.any, AV.any] H
def B99_0 (K : AV → Heap → Prop) (N1 : AV → AV → Heap → Prop) (v1 : AV) (v2 : AV) (v5 : AV) (v6 : AV) (v14 : AV) (v15 : AV) (v16 : AV) (H : Heap) : Prop :=
 binV tab .lss 3 v16 v15 fun v17 =>
 condV v17 (indexAddrV tab 46 v14 v16 fun v18 =>
 loadV tab 3 v18 H fun v19 =>
 loadV tab 35 v2 H fun v21 =>
 loadV tab 35 v2 H fun v22 =>
 CallT Tryz.prog 149 [v22, v5, v19] H fun v25 H4 =>
 (loadV tab 35 v2 H4 fun v9021 =>
 v21 = v9021) ∧
 CallT Tryz.prog 148 [v21, v25] H4 fun v26 H5 =>
 CallT Tryz.prog 123 [v6, v26] H5 fun v27 H6 =>
 binV tab .add 3 v16 (AV.p (.int .i64 1)) fun v28 =>
 N1 v27 v28 H6)
 (lenV tab 46 v6 fun v30 =>
 binV tab .eql 3 v30 (AV.p (.int .i64 0)) fun v31 =>
 condV v31 (buildSliceV tab 46 1 [(0, v1)] H (wkK fun v33 H7 =>
 K v33 H7))
 (K v6 H))
def W99 (v0 : AV) (v1 : AV) (H : Heap) (K : AV → Heap → Prop) : Prop :=
 boxV v0 H fun v2 H1 =>
 loadV tab 35 v2 H1 fun v9 =>
 CallT Tryz.prog 92 [v9, v1] H1 fun v11 H2 =>
 loadV tab 35 v2 H2 fun v12 =>
 CallT Tryz.prog 147 [v12, v11] H2 fun v14 H3 =>
 lenV tab 46 v14 fun v15 =>
 L99_0 K v1 v2 v11 (AV.p .nil) v14 v15 (AV.p (.int .i64 0)) H3
theorem W99_wp (v0 : AV) (v1 : AV) (H : Heap) (K : AV → Heap → Prop) : wpC Tryz.prog tab D99 (bodyOf Tryz.f99) (retF tab [.tmp 4] K) (nthA [v0, v1]) H = W99 v0 v1 H K := by kernel_rfl
theorem W99_ok {v0 v1 : AV} {H : Heap} {K : AV → Heap → Prop} (h : W99 v0 v1 H K) : CallT Tryz.prog 99 [v0, v1] H K :=
  CallT.of_wp (D := D99) tab_ok mixed Tryz.func99 (c := bodyOf Tryz.f99) (by kernel_rfl) rfl (by kernel_rfl) (rs := #[.tmp 4]) rfl (by decide +kernel) (by kernel_rfl) (W99_wp v0 v1 H K) h
theorem L99_0_rule {K : AV → Heap → Prop} {v1 v2 v5 v6 v14 v15 v16 : AV} {H : Heap} {σ : Type} (s0 : σ) (f6 : σ → AV) (f16 : σ → AV) (TH : σ → Heap) (pre : σ → Prop) (μ : σ → Nat)
    (h0 : pre s0 ∧ AV.wk v6 (f6 s0) ∧ AV.wk v16 (f16 s0) ∧ Heap.le (TH s0) H)
    (round : ∀ s, pre s → B99_0 K (fun w6 w16 H' => ∃ s', pre s' ∧ μ s' < μ s ∧ AV.wk w6 (f6 s') ∧ AV.wk w16 (f16 s') ∧ Heap.le (TH s') H') v1 v2 v5 (f6 s) v14 v15 (f16 s) (TH s)) :
    L99_0 K v1 v2 v5 v6 v14 v15 v16 H := by
  unfold L99_0
  exact LoopV.mk s0 (fun s => [f6 s, f16 s]) TH pre μ (fun _ => rfl) (Eq.mp (by kernel_rfl) h0) (fun s hs => Eq.mp (by kernel_rfl) (round s hs))
def D100 : Info := ⟨9, fun i => ([], []), fun i => ([], [])⟩
def W100 (v0 : AV) (v1 : AV) (H : Heap) (K : AV → Heap → Prop) : Prop :=
 CallT Tryz.prog 150 [v0, v1] H fun v7 H1 =>
 binV tab .geq 3 v7 (AV.p (.int .i64 0)) fun v8 =>
 K v8 H1
theorem W100_wp (v0 : AV) (v1 : AV) (H : Heap) (K : AV → Heap → Prop) : wpC Tryz.prog tab D100 (bodyOf Tryz.f100) (retF tab [.tmp 4] K) (nthA [v0, v1]) H = W100 v0 v1 H K := by kernel_rfl
theorem W100_ok {v0 v1 : AV} {H : Heap} {K : AV → Heap → Prop} (h : W100 v0 v1 H K) : CallT Tryz.prog 100 [v0, v1] H K :=
  CallT.of_wp (D := D100) tab_ok mixed Tryz.func100 (c := bodyOf Tryz.f100) (by kernel_rfl) rfl (by kernel_rfl) (rs := #[.tmp 4]) rfl (by decide +kernel) (by kernel_rfl) (W100_wp v0 v1 H K) h
def D101 : Info := ⟨36, fun i => ([], []), fun i => if i = 3 then ([0, 9, 10], [3, 11]) else if i = 11 then ([25, 26], [6, 27]) else ([], [])⟩
def L101_0 (K : AV → Heap → Prop) (v0 : AV) (v3 : AV) (v9 : AV) (v10 : AV) (v11 : AV) (H : Heap) : Prop := LoopV (wpC Tryz.prog tab D101 (cAt [1, 1, 0, 1, 0, 0] (bodyOf Tryz.f101))) [0, 9, 10] (PostF.block 0 (PostF.thenA (wpC Tryz.prog tab D101 (cAt [1, 1, 1] (bodyOf Tryz.f101))) (retF tab [.tmp 2] K))) [3, 11] [v0, AV.any, AV.any, v3, AV.any, AV.any, AV.any, AV.any, AV.any, v9, v10, v11, AV.any, AV.any, AV.any, AV.any, AV.any, AV.any, AV.any, AV.any, AV.any, AV.any, AV.any, AV.any, AV.any, AV.any, AV.any, AV.any, AV.any, AV.any, AV.any, AV.any, AV.any, AV.any, AV.any, AV.any] H
def L101_1 (K : AV → Heap → Prop) (v6 : AV) (v25 : AV) (v26 : AV) (v27 : AV) (H : Heap) : Prop := LoopV (wpC Tryz.prog tab D101 (cAt [1, 1, 1, 1, 0, 1, 0, 0] (bodyOf Tryz.f101))) [25, 26] (PostF.block 2 (PostF.thenA (wpC Tryz.prog tab D101 (cAt [1, 1, 1, 1, 1] (bodyOf Tryz.f101))) (retF tab [.tmp 2] K))) [6, 27] [AV.any, AV.any, AV.any, AV.any, AV.any, AV.any, v6, AV.any, AV.any, AV.any, AV.any, AV.any, AV.any, AV.any, AV.any, AV.any, AV.any, AV.any, AV.any, AV.any, AV.any, AV.any, AV.any, AV.any, AV.any, v25, v26, v27, AV.any, AV.any, AV.any, AV.any, AV.any, AV.any, AV.any, AV.any] H
def B101_1 (K : AV → Heap → Prop) (N1 : AV → AV → Heap → Prop) (v6 : AV) (v25 : AV) (v26 : AV) (v27 : AV) (H : Heap) : Prop :=
 binV tab .lss 3 v27 v26 fun v28 =>
 condV v28 (indexAddrV tab 60 v25 v27 fun v29 =>
 loadV tab 46 v29 H fun v30 =>
 appendV tab 46 46 v6 v30 H (wkK fun v33 H2 =>
 binV tab .add 3 v27 (AV.p (.int .i64 1)) fun v34 =>
 N1 v33 v34 H2))
 (K v6 H)
def B101_0 (K : AV → Heap → Prop) (N1 : AV → AV → Heap → Prop) (v0 : AV) (v3 : AV) (v9 : AV) (v10 : AV) (v11 : AV) (H : Heap) : Prop :=
 binV tab .lss 3 v11 v10 fun v12 =>
 condV v12 (indexAddrV tab 60 v9 v11 fun v13 =>
 loadV tab 46 v13 H fun v14 =>
 lenV tab 46 v14 fun v17 =>
 binV tab .add 3 v3 v17 fun v18 =>
 binV tab .lss 3 v18 (AV.p (.int .i64 0)) fun v20 =>
 condV v20 (False)
 (binV tab .add 3 v11 (AV.p (.int .i64 1)) fun v22 =>
 N1 v18 v22 H))
 (CallT Tryz.prog 151 [(AV.p .nil), v3] H fun v24 H1 =>
 lenV tab 60 v0 fun v26 =>
 L101_1 K v24 v0 v26 (AV.p (.int .i64 0)) H1)
def W101 (v0 : AV) (H : Heap) (K : AV → Heap → Prop) : Prop :=
 lenV tab 60 v0 fun v10 =>
 L101_0 K v0 (AV.p (.int .i64 0)) v0 v10 (AV.p (.int .i64 0)) H
theorem W101_wp (v0 : AV) (H : Heap) (K : AV → Heap → Prop) : wpC Tryz.prog tab D101 (bodyOf Tryz.f101) (retF tab [.tmp 2] K) (nthA [v0]) H = W101 v0 H K := by kernel_rfl
theorem W101_ok {v0 : AV} {H : Heap} {K : AV → Heap → Prop} (h : W101 v0 H K) : CallT Tryz.prog 101 [v0] H K :=
  CallT.of_wp (D := D101) tab_ok mixed Tryz.func101 (c := bodyOf Tryz.f101) (by kernel_rfl) rfl (by kernel_rfl) (rs := #[.tmp 2]) rfl (by decide +kernel) (by kernel_rfl) (W101_wp v0 H K) h
theorem W101_hb : HasBody Tryz.prog 101 := ⟨_, bodyOf Tryz.f101, Tryz.func101, by kernel_rfl, rfl⟩
theorem L101_1_rule {K : AV → Heap → Prop} {v6 v25 v26 v27 : AV} {H : Heap} {σ : Type} (s0 : σ) (f6 : σ → AV) (f27 : σ → AV) (TH : σ → Heap) (pre : σ → Prop) (μ : σ → Nat)
    (h0 : pre s0 ∧ AV.wk v6 (f6 s0) ∧ AV.wk v27 (f27 s0) ∧ Heap.le (TH s0) H)
    (round : ∀ s, pre s → B101_1 K (fun w6 w27 H' => ∃ s', pre s' ∧ μ s' < μ s ∧ AV.wk w6 (f6 s') ∧ AV.wk w27 (f27 s') ∧ Heap.le (TH s') H') (f6 s) v25 v26 (f27 s) (TH s)) :
    L101_1 K v6 v25 v26 v27 H := by
  unfold L101_1
  exact LoopV.mk s0 (fun s => [f6 s, f27 s]) TH pre μ (fun _ => rfl) (Eq.mp (by kernel_rfl) h0) (fun s hs => Eq.mp (by kernel_rfl) (round s hs))
theorem L101_0_rule {K : AV → Heap → Prop} {v0 v3 v9 v10 v11 : AV} {H : Heap} {σ : Type} (s0 : σ) (f3 : σ → AV) (f11 : σ → AV) (TH : σ → Heap) (pre : σ → Prop) (μ : σ → Nat)
    (h0 : pre s0 ∧ AV.wk v3 (f3 s0) ∧ AV.wk v11 (f11 s0) ∧ Heap.le (TH s0) H)
    (round : ∀ s, pre s → B101_0 K (fun w3 w11 H' => ∃ s', pre s' ∧ μ s' < μ s ∧ AV.wk w3 (f3 s') ∧ AV.wk w11 (f11 s') ∧ Heap.le (TH s') H') v0 (f3 s) v9 v10 (f11 s) (TH s)) :
    L101_0 K v0 v3 v9 v10 v11 H := by
  unfold L101_0
  exact LoopV.mk s0 (fun s => [f3 s, f11 s]) TH pre μ (fun _ => rfl) (Eq.mp (by kernel_rfl) h0) (fun s hs => Eq.mp (by kernel_rfl) (round s hs))
def D102 : Info := ⟨11, fun i => ([], []), fun i => ([], [])⟩
def W102 (v0 : AV) (v1 : AV) (H : Heap) (K : AV → Heap → Prop) : Prop :=
 binV tab .lss 3 v0 (AV.p (.int .i64 0)) fun v5 =>
 grdV v5 false (loadV tab 3 v1 H fun v8 =>
 binV tab .geq 3 v0 v8 fun v9 =>
 K v9 H)
 (K (AV.p (.bool true)) H)
theorem W102_wp (v0 : AV) (v1 : AV) (H : Heap) (K : AV → Heap → Prop) : wpC Tryz.prog tab D102 (bodyOf Tryz.f102) (retF tab [.tmp 3] K) (nthA [v0, v1]) H = W102 v0 v1 H K := by kernel_rfl
theorem W102_ok {v0 v1 : AV} {H : Heap} {K : AV → Heap → Prop} (h : W102 v0 v1 H K) : CallT Tryz.prog 102 [v0, v1] H K :=
  CallT.of_wp (D := D102) tab_ok mixed Tryz.func102 (c := bodyOf Tryz.f102) (by kernel_rfl) rfl (by kernel_rfl) (rs := #[.tmp 3]) rfl (by decide +kernel) (by kernel_rfl) (W102_wp v0 v1 H K) h
def D103 : Info := ⟨19, fun i => ([], []), fun i => if i = 3 then ([1, 7], [3, 8]) else ([], [])⟩
def L103_0 (K : AV → Heap → Prop) (v1 : AV) (v3 : AV) (v7 : AV) (v8 : AV) (H : Heap) : Prop := LoopV (wpC Tryz.prog tab D103 (cAt [1, 1, 0, 1, 0, 0] (bodyOf Tryz.f103))) [1, 7] (PostF.block 0 (PostF.thenA (wpC Tryz.prog tab D103 (cAt [1, 1, 1] (bodyOf Tryz.f103))) (retF tab [.tmp 2] K))) [3, 8] [AV.any, v1, AV.any, v3, AV.any, AV.any, AV.any, v7, v8, AV.any, AV.any, AV.any, AV.any, AV.any, AV.any, AV.any, AV.any, AV.any, AV.any] H
def B103_0 (K : AV → Heap → Prop) (N1 : AV → AV → Heap → Prop) (v1 : AV) (v3 : AV) (v7 : AV) (v8 : AV) (H : Heap) : Prop :=
 binV tab .lss 3 v8 v7 fun v9 =>
 condV v9 (loadV tab 35 v1 H fun v12 =>
 CallT Tryz.prog 114 [v12, v8] H fun v14 H4 =>
 buildSliceV tab 60 1 [(0, v14)] H4 (wkK fun v15 H5 =>
 appendV tab 60 60 v3 v15 H5 (wkK fun v16 H6 =>
 binV tab .add 3 v8 (AV.p (.int .i64 1)) fun v17 =>
 N1 v16 v17 H6)))
 (K v3 H)
def W103 (v0 : AV) (H : Heap) (K : AV → Heap → Prop) : Prop :=
 boxV v0 H fun v1 H1 =>
 buildSliceV tab 60 0 [] H1 (wkK fun v5 H2 =>
 loadV tab 35 v1 H2 fun v6 =>
 CallT Tryz.prog 93 [v6] H2 fun v7 H3 =>
 L103_0 K v1 v5 v7 (AV.p (.int .i64 0)) H3)
theorem W103_wp (v0 : AV) (H : Heap) (K : AV → Heap → Prop) : wpC Tryz.prog tab D103 (bodyOf Tryz.f103) (retF tab [.tmp 2] K) (nthA [v0]) H = W103 v0 H K := by kernel_rfl
theorem W103_ok {v0 : AV} {H : Heap} {K : AV → Heap → Prop} (h : W103 v0 H K) : CallT Tryz.prog 103 [v0] H K :=
  CallT.of_wp (D := D103) tab_ok mixed Tryz.func103 (c := bodyOf Tryz.f103) (by kernel_rfl) rfl (by kernel_rfl) (rs := #[.tmp 2]) rfl (by decide +kernel) (by kernel_rfl) (W103_wp v0 H K) h
theorem L103_0_rule {K : AV → Heap → Prop} {v1 v3 v7 v8 : AV} {H : Heap} {σ : Type} (s0 : σ) (f3 : σ → AV) (f8 : σ → AV) (TH : σ → Heap) (pre : σ → Prop) (μ : σ → Nat)
    (h0 : pre s0 ∧ AV.wk v3 (f3 s0) ∧ AV.wk v8 (f8 s0) ∧ Heap.le (TH s0) H)
    (round : ∀ s, pre s → B103_0 K (fun w3 w8 H' => ∃ s', pre s' ∧ μ s' < μ s ∧ AV.wk w3 (f3 s') ∧ AV.wk w8 (f8 s') ∧ Heap.le (TH s') H') v1 (f3 s) v7 (f8 s) (TH s)) :
    L103_0 K v1 v3 v7 v8 H := by
  unfold L103_0
  exact LoopV.mk s0 (fun s => [f3 s, f8 s]) TH pre μ (fun _ => rfl) (Eq.mp (by kernel_rfl) h0) (fun s hs => Eq.mp (by kernel_rfl) (round s hs))
def D104 : Info := ⟨9, fun i => ([], []), fun i => ([], [])⟩
def W104 (v0 : AV) (v1 : AV) (H : Heap) (K : AV → Heap → Prop) : Prop :=
 CallT Tryz.prog 152 [v0, v1] H fun v7 H1 =>
 binV tab .geq 3 v7 (AV.p (.int .i64 0)) fun v8 =>
 K v8 H1
theorem W104_wp (v0 : AV) (v1 : AV) (H : Heap) (K : AV → Heap → Prop) : wpC Tryz.prog tab D104 (bodyOf Tryz.f104) (retF tab [.tmp 4] K) (nthA [v0, v1]) H = W104 v0 v1 H K := by kernel_rfl
theorem W104_ok {v0 v1 : AV} {H : Heap} {K : AV → Heap → Prop} (h : W104 v0 v1 H K) : CallT Tryz.prog 104 [v0, v1] H K :=
  CallT.of_wp (D := D104) tab_ok mixed Tryz.func104 (c := bodyOf Tryz.f104) (by kernel_rfl) rfl (by kernel_rfl) (rs := #[.tmp 4]) rfl (by decide +kernel) (by kernel_rfl) (W104_wp v0 v1 H K) h
def D105 : Info := ⟨23, fun i => ([], []), fun i => ([], [])⟩
def W105 (v0 : AV) (H : Heap) (K : AV → Heap → Prop) : Prop :=
 boxV v0 H fun v1 H1 =>
 fieldAddrV tab 53 v1 0 fun v3 =>
 loadV tab 46 v3 H1 fun v4 =>
 lenV tab 46 v4 fun v5 =>
 binV tab .leq 3 v5 (AV.p (.int .i64 24)) fun v6 =>
 grdV v6 true (fieldAddrV tab 53 v1 1 fun v8 =>
 loadV tab 46 v8 H1 fun v9 =>
 lenV tab 46 v9 fun v10 =>
 CallT Tryz.prog 52 [v10, (AV.p (.int .i64 1)), (AV.p (.int .i64 24))] H1 fun v11 H2 =>
 grdV v11 true (fieldAddrV tab 53 v1 0 fun v14 =>
 loadV tab 46 v14 H2 fun v15 =>
 CallT Tryz.prog 146 [v15, (AV.p (.int .i64 0)), (AV.p (.int .i64 7))] H2 fun v16 H3 =>
 grdV v16 true (fieldAddrV tab 53 v1 1 fun v19 =>
 loadV tab 46 v19 H3 fun v20 =>
 CallT Tryz.prog 146 [v20, (AV.p (.int .i64 0)), (AV.p (.int .i64 7))] H3 fun v21 H4 =>
 K v21 H4)
 (K (AV.p (.bool false)) H3))
 (K (AV.p (.bool false)) H2))
 (K (AV.p (.bool false)) H1)
theorem W105_wp (v0 : AV) (H : Heap) (K : AV → Heap → Prop) : wpC Tryz.prog tab D105 (bodyOf Tryz.f105) (retF tab [.tmp 2] K) (nthA [v0]) H = W105 v0 H K := by kernel_rfl
theorem W105_ok {v0 : AV} {H : Heap} {K : AV → Heap → Prop} (h : W105 v0 H K) : CallT Tryz.prog 105 [v0] H K :=
  CallT.of_wp (D := D105) tab_ok mixed Tryz.func105 (c := bodyOf Tryz.f105) (by kernel_rfl) rfl (by kernel_rfl) (rs := #[.tmp 2]) rfl (by decide +kernel) (by kernel_rfl) (W105_wp v0 H K) h
def D106 : Info := ⟨29, fun i => ([], []), fun i => ([], [])⟩
def W106 (v0 : AV) (H : Heap) (K : AV → Heap → Prop) : Prop :=
 boxV v0 H fun v1 H1 =>
 fieldAddrV tab 53 v1 0 fun v3 =>
 loadV tab 46 v3 H1 fun v4 =>
 lenV tab 46 v4 fun v5 =>
 binV tab .leq 3 v5 (AV.p (.int .i64 24)) fun v6 =>
 grdV v6 true (fieldAddrV tab 53 v1 1 fun v8 =>
 loadV tab 46 v8 H1 fun v9 =>
 lenV tab 46 v9 fun v10 =>
 binV tab .geq 3 v10 (AV.p (.int .i64 1)) fun v11 =>
 grdV v11 true (fieldAddrV tab 53 v1 1 fun v14 =>
 loadV tab 46 v14 H1 fun v15 =>
 lenV tab 46 v15 fun v16 =>
 binV tab .leq 3 v16 (AV.p (.int .i64 24)) fun v17 =>
 grdV v17 true (fieldAddrV tab 53 v1 0 fun v20 =>
 loadV tab 46 v20 H1 fun v21 =>
 CallT Tryz.prog 153 [v21] H1 fun v22 H2 =>
 grdV v22 true (fieldAddrV tab 53 v1 1 fun v25 =>
 loadV tab 46 v25 H2 fun v26 =>
 CallT Tryz.prog 153 [v26] H2 fun v27 H3 =>
 K v27 H3)
 (K (AV.p (.bool false)) H2))
 (K (AV.p (.bool false)) H1))
 (K (AV.p (.bool false)) H1))
 (K (AV.p (.bool false)) H1)
theorem W106_wp (v0 : AV) (H : Heap) (K : AV → Heap → Prop) : wpC Tryz.prog tab D106 (bodyOf Tryz.f106) (retF tab [.tmp 2] K) (nthA [v0]) H = W106 v0 H K := by kernel_rfl
theorem W106_ok {v0 : AV} {H : Heap} {K : AV → Heap → Prop} (h : W106 v0 H K) : CallT Tryz.prog 106 [v0] H K :=
  CallT.of_wp (D := D106) tab_ok mixed Tryz.func106 (c := bodyOf Tryz.f106) (by kernel_rfl) rfl (by kernel_rfl) (rs := #[.tmp 2]) rfl (by decide +kernel) (by kernel_rfl) (W106_wp v0 H K) h
def D107 : Info := ⟨28, fun i => ([], []), fun i => if i = 2 then ([0], [1, 5]) else ([], [])⟩
def L107_0 (K : AV → Heap → Prop) (v0 : AV) (v1 : AV) (v5 : AV) (H : Heap) : Prop := LoopV (wpC Tryz.prog tab D107 (cAt [1, 0, 1, 0, 0] (bodyOf Tryz.f107))) [0] (PostF.block 0 (PostF.thenA (wpC Tryz.prog tab D107 (cAt [1, 1] (bodyOf Tryz.f107))) (retF tab [.tmp 4] K))) [1, 5] [v0, v1, AV.any, AV.any, AV.any, v5, AV.any, AV.any, AV.any, AV.any, AV.any, AV.any, AV.any, AV.any, AV.any, AV.any, AV.any, AV.any, AV.any, AV.any, AV.any, AV.any, AV.any, AV.any, AV.any, AV.any, AV.any, AV.any] H
def B107_0 (K : AV → Heap → Prop) (N1 : AV → AV → Heap → Prop) (v0 : AV) (v1 : AV) (v5 : AV) (H : Heap) : Prop :=
 lenV tab 32 v0 fun v8 =>
 binV tab .lss 3 v5 v8 fun v9 =>
 condV v9 (indexAddrV tab 32 v0 v5 fun v15 =>
 fieldAddrV tab 155 v15 0 fun v16 =>
 storeV tab 3 v16 v1 H fun H1 =>
 binV tab .add 3 v1 (AV.p (.int .i64 1)) fun v18 =>
 convV tab 3 153 v18 fun v22 =>
 indexAddrV tab 32 v0 v5 fun v23 =>
 fieldAddrV tab 155 v23 1 fun v24 =>
 storeV tab 153 v24 v22 H1 fun H2 =>
 binV tab .add 3 v18 (AV.p (.int .i64 1)) fun v26 =>
 binV tab .add 3 v5 (AV.p (.int .i64 1)) fun v11 =>
 N1 v26 v11 H2)
 (K v1 H)
def W107 (v0 : AV) (v1 : AV) (H : Heap) (K : AV → Heap → Prop) : Prop :=
 L107_0 K v0 v1 (AV.p (.int .i64 0)) H
theorem W107_wp (v0 : AV) (v1 : AV) (H : Heap) (K : AV → Heap → Prop) : wpC Tryz.prog tab D107 (bodyOf Tryz.f107) (retF tab [.tmp 4] K) (nthA [v0, v1]) H = W107 v0 v1 H K := by kernel_rfl
theorem W107_ok {v0 v1 : AV} {H : Heap} {K : AV → Heap → Prop} (h : W107 v0 v1 H K) : CallT Tryz.prog 107 [v0, v1] H K :=
  CallT.of_wp (D := D107) tab_ok mixed Tryz.func107 (c := bodyOf Tryz.f107) (by kernel_rfl) rfl (by kernel_rfl) (rs := #[.tmp 4]) rfl (by decide +kernel) (by kernel_rfl) (W107_wp v0 v1 H K) h
theorem L107_0_rule {K : AV → Heap → Prop} {v0 v1 v5 : AV} {H : Heap} {σ : Type} (s0 : σ) (f1 : σ → AV) (f5 : σ → AV) (TH : σ → Heap) (pre : σ → Prop) (μ : σ → Nat)
    (h0 : pre s0 ∧ AV.wk v1 (f1 s0) ∧ AV.wk v5 (f5 s0) ∧ Heap.le (TH s0) H)
    (round : ∀ s, pre s → B107_0 K (fun w1 w5 H' => ∃ s', pre s' ∧ μ s' < μ s ∧ AV.wk w1 (f1 s') ∧ AV.wk w5 (f5 s') ∧ Heap.le (TH s') H') v0 (f1 s) (f5 s) (TH s)) :
    L107_0 K v0 v1 v5 H := by
  unfold L107_0
  exact LoopV.mk s0 (fun s => [f1 s, f5 s]) TH pre μ (fun _ => rfl) (Eq.mp (by kernel_rfl) h0) (fun s hs => Eq.mp (by kernel_rfl) (round s hs))
def D108 : Info := ⟨27, fun i => ([], []), fun i => if i = 2 then ([0], [1, 5]) else ([], [])⟩
def L108_0 (K : AV → Heap → Prop) (v0 : AV) (v1 : AV) (v5 : AV) (H : Heap) : Prop := LoopV (wpC Tryz.prog tab D108 (cAt [1, 0, 1, 0, 0] (bodyOf Tryz.f108))) [0] (PostF.block 0 (PostF.thenA (wpC Tryz.prog tab D108 (cAt [1, 1] (bodyOf Tryz.f108))) (retF tab [.tmp 4] K))) [1, 5] [v0, v1, AV.any, AV.any, AV.any, v5, AV.any, AV.any, AV.any, AV.any, AV.any, AV.any, AV.any, AV.any, AV.any, AV.any, AV.any, AV.any, AV.any, AV.any, AV.any, AV.any, AV.any, AV.any, AV.any, AV.any, AV.any] H
def B108_0 (K : AV → Heap → Prop) (N1 : AV → AV → Heap → Prop) (v0 : AV) (v1 : AV) (v5 : AV) (H : Heap) : Prop :=
 lenV tab 33 v0 fun v8 =>
 binV tab .lss 3 v5 v8 fun v9 =>
 condV v9 (indexAddrV tab 33 v0 v5 fun v14 =>
 fieldAddrV tab 150 v14 0 fun v15 =>
 loadV tab 32 v15 H fun v16 =>
 CallT Tryz.prog 107 [v16, v1] H fun v18 H1 =>
 indexAddrV tab 33 v0 v5 fun v21 =>
 fieldAddrV tab 150 v21 1 fun v22 =>
 loadV tab 148 v22 H1 fun v23 =>
 CallT Tryz.prog 154 [v23, v18] H1 fun v25 H2 =>
 binV tab .add 3 v5 (AV.p (.int .i64 1)) fun v11 =>
 N1 v25 v11 H2)
 (K v1 H)
def W108 (v0 : AV) (v1 : AV) (H : Heap) (K : AV → Heap → Prop) : Prop :=
 L108_0 K v0 v1 (AV.p (.int .i64 0)) H
theorem W108_wp (v0 : AV) (v1 : AV) (H : Heap) (K : AV → Heap → Prop) : wpC Tryz.prog tab D108 (bodyOf Tryz.f108) (retF tab [.tmp 4] K) (nthA [v0, v1]) H = W108 v0 v1 H K := by kernel_rfl
theorem W108_ok {v0 v1 : AV} {H : Heap} {K : AV → Heap → Prop} (h : W108 v0 v1 H K) : CallT Tryz.prog 108 [v0, v1] H K :=
  CallT.of_wp (D := D108) tab_ok mixed Tryz.func108 (c := bodyOf Tryz.f108) (by kernel_rfl) rfl (by kernel_rfl) (rs := #[.tmp 4]) rfl (by decide +kernel) (by kernel_rfl) (W108_wp v0 v1 H K) h
theorem L108_0_rule {K : AV → Heap → Prop} {v0 v1 v5 : AV} {H : Heap} {σ : Type} (s0 : σ) (f1 : σ → AV) (f5 : σ → AV) (TH : σ → Heap) (pre : σ → Prop) (μ : σ → Nat)
    (h0 : pre s0 ∧ AV.wk v1 (f1 s0) ∧ AV.wk v5 (f5 s0) ∧ Heap.le (TH s0) H)
    (round : ∀ s, pre s → B108_0 K (fun w1 w5 H' => ∃ s', pre s' ∧ μ s' < μ s ∧ AV.wk w1 (f1 s') ∧ AV.wk w5 (f5 s') ∧ Heap.le (TH s') H') v0 (f1 s) (f5 s) (TH s)) :
    L108_0 K v0 v1 v5 H := by
  unfold L108_0
  exact LoopV.mk s0 (fun s => [f1 s, f5 s]) TH pre μ (fun _ => rfl) (Eq.mp (by kernel_rfl) h0) (fun s hs => Eq.mp (by kernel_rfl) (round s hs))
def D114 : Info := ⟨44, fun i => if i = 6 then ([[], [], [], [], [], [2, 3, 4], [1, 2, 3, 4, 5], [1, 2, 3, 4, 5, 6], [0, 1, 2, 3, 4, 5, 6, 7], [0, 1, 2, 3, 4, 5, 6, 7, 8]], [(0, []), (1, []), (2, []), (3, []), (4, []), (5, [1]), (6, []), (7, []), (8, []), (9, [])]) else ([], []), fun i => if i = 3 then ([1, 2, 5, 14, 15], [6, 16]) else ([], [])⟩
def L114_0 (K : AV → Heap → Prop) (v1 : AV) (v2 : AV) (v5 : AV) (v6 : AV) (v14 : AV) (v15 : AV) (v16 : AV) (H : Heap) : Prop := LoopV (wpC Tryz.prog tab D114 (cAt [1, 1, 0, 1, 0, 0] (bodyOf Tryz.f114))) [1, 2, 5, 14, 15] (PostF.block 0 (PostF.thenA (wpC Tryz.prog tab D114 (cAt [1, 1, 1] (bodyOf Tryz.f114))) (retF tab [.tmp 4] K))) [6, 16] [AV.any, v1, v2, AV.any, AV.any, v5, v6, AV.any, AV.any, AV.any, AV.any, AV.any, AV.any, AV.any, v14, v15, v16, AV.any, AV.any, AV.any, AV.any, AV.any, AV.any, AV.any, AV.any, AV.any, AV.any, AV.any, AV.any, AV.any, AV.any, AV.any, AV.any, AV.any, AV.any, AV.any, AV.any, AV.any, AV.any, AV.any, AV.any, AV.any, AV.any, AV.any] H
def B114_0 (K : AV → Heap → Prop) (N1 : AV → AV → Heap → Prop) (v1 : AV) (v2 : AV) (v5 : AV) (v6 : AV) (v14 : AV) (v15 : AV) (v16 : AV) (H : Heap) : Prop :=
 binV tab .lss 3 v16 v15 fun v17 =>
 condV v17 (indexAddrV tab 33 v14 v16 fun v18 =>
 loadV tab 150 v18 H fun v19 =>
 allocV tab 150 H fun v8 H4 =>
 storeV tab 150 v8 v19 H4 fun H5 =>
 loadV tab 35 v2 H5 fun v20 =>
 fieldAddrV tab 150 v8 0 fun v21 =>
 loadV tab 32 v21 H5 fun v22 =>
 CallT Tryz.prog 95 [v20, v22, v5] H5 fun v24 H6 =>
 condV v24 (loadV tab 35 v2 H6 fun v26 =>
 loadV tab 35 v2 H6 fun v27 =>
 loadV tab 150 v8 H6 fun v28 =>
 CallT Tryz.prog 159 [v27, v28, v5] H6 fun v30 H7 =>
 (loadV tab 35 v2 H7 fun v9026 =>
 v26 = v9026) ∧
 CallT Tryz.prog 158 [v26, v30] H7 fun v31 H8 =>
 buildSliceV tab 46 1 [(0, v31)] H8 (wkK fun v32 H9 =>
 appendV tab 46 46 v6 v32 H9 (wkK fun v33 H10 =>
 binV tab .add 3 v16 (AV.p (.int .i64 1)) fun v34 =>
 N1 v33 v34 H10)))
 (binV tab .add 3 v16 (AV.p (.int .i64 1)) fun v34 =>
 N1 v6 v34 H6))
 (lenV tab 46 v6 fun v36 =>
 binV tab .eql 3 v36 (AV.p (.int .i64 0)) fun v37 =>
 condV v37 (buildSliceV tab 46 1 [(0, v1)] H (wkK fun v39 H11 =>
 K v39 H11))
 (CallT Tryz.prog 137 [v6] H fun v41 H12 =>
 CallT Tryz.prog 138 [v6] H12 fun v43 H13 =>
 K v43 H13))
def W114 (v0 : AV) (v1 : AV) (H : Heap) (K : AV → Heap → Prop) : Prop :=
 boxV v0 H fun v2 H1 =>
 loadV tab 35 v2 H1 fun v9 =>
 CallT Tryz.prog 94 [v9, v1] H1 fun v11 H2 =>
 buildSliceV tab 46 0 [] H2 (wkK fun v12 H3 =>
 fieldAddrV tab 35 v2 3 fun v13 =>
 loadV tab 33 v13 H3 fun v14 =>
 lenV tab 33 v14 fun v15 =>
 L114_0 K v1 v2 v11 v12 v14 v15 (AV.p (.int .i64 0)) H3)
theorem W114_wp (v0 : AV) (v1 : AV) (H : Heap) (K : AV → Heap → Prop) : wpC Tryz.prog tab D114 (bodyOf Tryz.f114) (retF tab [.tmp 4] K) (nthA [v0, v1]) H = W114 v0 v1 H K := by kernel_rfl
theorem W114_ok {v0 v1 : AV} {H : Heap} {K : AV → Heap → Prop} (h : W114 v0 v1 H K) : CallT Tryz.prog 114 [v0, v1] H K :=
  CallT.of_wp (D := D114) tab_ok mixed Tryz.func114 (c := bodyOf Tryz.f114) (by kernel_rfl) rfl (by kernel_rfl) (rs := #[.tmp 4]) rfl (by decide +kernel) (by kernel_rfl) (W114_wp v0 v1 H K) h
theorem L114_0_rule {K : AV → Heap → Prop} {v1 v2 v5 v6 v14 v15 v16 : AV} {H : Heap} {σ : Type} (s0 : σ) (f6 : σ → AV) (f16 : σ → AV) (TH : σ → Heap) (pre : σ → Prop) (μ : σ → Nat)
    (h0 : pre s0 ∧ AV.wk v6 (f6 s0) ∧ AV.wk v16 (f16 s0) ∧ Heap.le (TH s0) H)
    (round : ∀ s, pre s → B114_0 K (fun w6 w16 H' => ∃ s', pre s' ∧ μ s' < μ s ∧ AV.wk w6 (f6 s') ∧ AV.wk w16 (f16 s') ∧ Heap.le (TH s') H') v1 v2 v5 (f6 s) v14 v15 (f16 s) (TH s)) :
    L114_0 K v1 v2 v5 v6 v14 v15 v16 H := by
  unfold L114_0
  exact LoopV.mk s0 (fun s => [f6 s, f16 s]) TH pre μ (fun _ => rfl) (Eq.mp (by kernel_rfl) h0) (fun s hs => Eq.mp (by kernel_rfl) (round s hs))
def D119 : Info := ⟨18, fun i => ([], []), fun i => ([], [])⟩
def W119 (v0 : AV) (v1 : AV) (H : Heap) (K : AV → Heap → Prop) : Prop :=
 boxV v0 H fun v2 H1 =>
 fieldAddrV tab 147 v2 0 fun v5 =>
 loadV tab 22 v5 H1 fun v6 =>
 CallT Tryz.prog 74 [v6, v1] H1 fun v8 H2 =>
 binV tab .lss 3 v8 (AV.p (.int .i64 0)) fun v10 =>
 condV v10 (K (AV.p (.int .i64 (-1))) H2)
 (fieldAddrV tab 147 v2 1 fun v11 =>
 loadV tab 145 v11 H2 fun v12 =>
 CallT Tryz.prog 165 [v12, v8] H2 fun v14 H3 =>
 binV tab .lss 3 v14 (AV.p (.int .i64 0)) fun v16 =>
 condV v16 (K (AV.p (.int .i64 (-1))) H3)
 (K v14 H3))
theorem W119_wp (v0 : AV) (v1 : AV) (H : Heap) (K : AV → Heap → Prop) : wpC Tryz.prog tab D119 (bodyOf Tryz.f119) (retF tab [.tmp 4] K) (nthA [v0, v1]) H = W119 v0 v1 H K := by kernel_rfl
theorem W119_ok {v0 v1 : AV} {H : Heap} {K : AV → Heap → Prop} (h : W119 v0 v1 H K) : CallT Tryz.prog 119 [v0, v1] H K :=
  CallT.of_wp (D := D119) tab_ok mixed Tryz.func119 (c := bodyOf Tryz.f119) (by kernel_rfl) rfl (by kernel_rfl) (rs := #[.tmp 4]) rfl (by decide +kernel) (by kernel_rfl) (W119_wp v0 v1 H K) h
def D120 : Info := ⟨62, fun i => if i = 6 then ([[], [0], [], [2], [2, 3], [0, 1, 2, 3, 4], [0, 1, 2, 3, 4, 5], [0, 1, 2, 3, 4, 5, 6], [0, 1, 2, 3, 4, 5, 6, 7], [0, 1, 2, 3, 4, 5, 6, 7, 8], [0, 1, 2, 3, 4, 5, 6, 7, 8, 9], [0, 1, 2, 3, 4, 5, 6, 7, 8, 9, 10], [0, 1, 2, 3, 4, 5, 6, 7, 8, 9, 10, 11], [0, 1, 2, 3, 4, 5, 6, 7, 8, 9, 10], [0, 1, 2, 3, 4, 5, 6, 7, 8, 9, 10, 13], [0, 1, 2, 3, 4, 5, 6, 7, 8, 9, 10, 11, 12, 13, 14], [0, 1, 2, 3, 4, 5, 6, 7, 8, 9, 10, 11, 12, 13, 14, 15], [0, 1, 2, 3, 4, 5, 6, 7, 8, 9, 10, 11, 12, 13, 14, 15, 16], [0, 1, 2, 3, 4, 5, 6, 7, 8, 9, 10], [0, 1, 2, 3, 4, 5, 6, 7, 8, 9, 10, 18], [0, 1, 2, 3, 4, 5, 6, 7, 8, 9, 10, 11, 12, 13, 14, 15, 16, 17, 18, 19], [0, 1, 2, 3, 4, 5, 6, 7, 8, 9, 10, 11, 12, 13, 14, 15, 16, 17, 18, 19, 20], [0, 1, 2, 3, 4, 5, 6, 7, 8, 9, 10, 11, 12, 13, 14, 15, 16, 17, 18, 19, 20, 21], [0, 1, 2, 3, 4, 5, 6, 7, 8, 9, 10, 11, 12, 13, 14, 15, 16, 17, 18, 19, 20, 21, 22], [0, 1, 2, 3, 4, 5, 6, 7, 8, 9, 10, 11, 12, 13, 14, 15, 16, 17, 18, 19, 20, 21, 22, 23], [0, 1, 2, 3, 4, 5, 6, 7, 8, 9, 10, 11, 12, 13, 14, 15, 16, 17, 18, 19, 20, 21, 22, 23, 24], [0, 1, 2, 3, 4, 5, 6, 7, 8, 9, 10, 11, 12, 13, 14, 15, 16, 17, 18, 19, 20, 21, 22, 23], [0, 1, 2, 3, 4, 5, 6, 7, 8, 9, 10, 11, 12, 13, 14, 15, 16, 17, 18, 19, 20, 21, 22, 23, 26], [0, 1, 2, 3, 4, 5, 6, 7, 8, 9, 10, 11, 12, 13, 14, 15, 16, 17, 18, 19, 20, 21, 22, 23], [0, 1, 2, 3, 4, 5, 6, 7, 8, 9, 10, 11, 12, 13, 14, 15, 16, 17, 18, 19, 20, 21, 22, 23, 28], [0, 1, 2, 3, 4, 5, 6, 7, 8, 9, 10, 11, 12, 13, 14, 15, 16, 17, 18, 19, 20, 21, 22, 23, 24, 25, 26, 27, 28, 29], [0, 1, 2, 3, 4, 5, 6, 7, 8, 9, 10, 11, 12, 13, 14, 15, 16, 17, 18, 19, 20, 21, 22, 23, 24, 25, 26, 27, 28, 29, 30], [0, 1, 2, 3, 4, 5, 6, 7, 8, 9, 10, 11, 12, 13, 14, 15, 16, 17, 18, 19, 20, 21, 22, 23, 24, 25, 26, 27, 28, 29, 30, 31]], [(0, []), (1, []), (2, []), (3, []), (4, []), (5, []), (6, []), (7, []), (8, []), (9, []), (10, []), (11, []), (12, []), (13, []), (14, []), (15, []), (16, []), (17, []), (18, []), (19, []), (20, []), (21, []), (22, []), (23, []), (24, []), (25, []), (26, []), (27, []), (28, []), (29, []), (30, []), (31, []), (32, [])]) else ([], []), fun i => if i = 4 then ([2, 3, 21, 22], [23]) else ([], [])⟩
def L120_0 (K : AV → Heap → Prop) (v2 : AV) (v3 : AV) (v21 : AV) (v22 : AV) (v23 : AV) (H : Heap) : Prop := LoopV (wpC Tryz.prog tab D120 (cAt [1, 1, 0, 1, 0, 0] (bodyOf Tryz.f120))) [2, 3, 21, 22] (PostF.block 0 (PostF.thenA (wpC Tryz.prog tab D120 (cAt [1, 1, 1] (bodyOf Tryz.f120))) (retF tab [.tmp 4] K))) [23] [AV.any, AV.any, v2, v3, AV.any, AV.any, AV.any, AV.any, AV.any, AV.any, AV.any, AV.any, AV.any, AV.any, AV.any, AV.any, AV.any, AV.any, AV.any, AV.any, AV.any, v21, v22, v23, AV.any, AV.any, AV.any, AV.any, AV.any, AV.any, AV.any, AV.any, AV.any, AV.any, AV.any, AV.any, AV.any, AV.any, AV.any, AV.any, AV.any, AV.any, AV.any, AV.any, AV.any, AV.any, AV.any, AV.any, AV.any, AV.any, AV.any, AV.any, AV.any, AV.any, AV.any, AV.any, AV.any, AV.any, AV.any, AV.any, AV.any, AV.any] H
def B120_0 (K : AV → Heap → Prop) (N1 : AV → Heap → Prop) (v2 : AV) (v3 : AV) (v21 : AV) (v22 : AV) (v23 : AV) (H : Heap) : Prop :=
 binV tab .lss 3 v23 v22 fun v24 =>
 condV v24 (indexAddrV tab 148 v21 v23 fun v26 =>
 loadV tab 188 v26 H fun v27 =>
 allocV tab 188 H fun v6 H4 =>
 storeV tab 188 v6 v27 H4 fun H5 =>
 fieldAddrV tab 188 v6 0 fun v28 =>
 loadV tab 3 v28 H5 fun v29 =>
 fieldAddrV tab 35 v2 1 fun v30 =>
 loadV tab 3 v30 H5 fun v31 =>
 binV tab .sub 3 v31 (AV.p (.int .i64 1)) fun v32 =>
 CallT Tryz.prog 52 [v29, (AV.p (.int .i64 0)), v32] H5 fun v33 H6 =>
 unV .not v33 fun v34 =>
 grdV v34 false (binV tab .gtr 3 v23 (AV.p (.int .i64 0)) fun v37 =>
 grdV v37 true (fieldAddrV tab 150 v3 1 fun v39 =>
 loadV tab 148 v39 H6 fun v40 =>
 binV tab .sub 3 v23 (AV.p (.int .i64 1)) fun v42 =>
 indexAddrV tab 148 v40 v42 fun v43 =>
 fieldAddrV tab 188 v43 0 fun v44 =>
 loadV tab 3 v44 H6 fun v45 =>
 fieldAddrV tab 188 v6 0 fun v46 =>
 loadV tab 3 v46 H6 fun v47 =>
 binV tab .geq 3 v45 v47 fun v48 =>
 grdV v48 false (fieldAddrV tab 35 v2 0 fun v52 =>
 loadV tab 3 v52 H6 fun v53 =>
 fieldAddrV tab 35 v2 1 fun v54 =>
 loadV tab 3 v54 H6 fun v55 =>
 fieldAddrV tab 188 v6 1 fun v56 =>
 loadV tab 32 v56 H6 fun v57 =>
 CallT Tryz.prog 79 [v53, v55, v57] H6 fun v58 H7 =>
 binV tab .neq 3 v58 (AV.p (.int .i64 1)) fun v59 =>
 condV v59 (K (AV.p (.bool false)) H7)
 (binV tab .add 3 v23 (AV.p (.int .i64 1)) fun v61 =>
 N1 v61 H7))
 (K (AV.p (.bool false)) H6))
 (fieldAddrV tab 35 v2 0 fun v52 =>
 loadV tab 3 v52 H6 fun v53 =>
 fieldAddrV tab 35 v2 1 fun v54 =>
 loadV tab 3 v54 H6 fun v55 =>
 fieldAddrV tab 188 v6 1 fun v56 =>
 loadV tab 32 v56 H6 fun v57 =>
 CallT Tryz.prog 79 [v53, v55, v57] H6 fun v58 H8 =>
 binV tab .neq 3 v58 (AV.p (.int .i64 1)) fun v59 =>
 condV v59 (K (AV.p (.bool false)) H8)
 (binV tab .add 3 v23 (AV.p (.int .i64 1)) fun v61 =>
 N1 v61 H8)))
 (K (AV.p (.bool false)) H6))
 (K (AV.p (.bool true)) H)
def W120 (v0 : AV) (v1 : AV) (H : Heap) (K : AV → Heap → Prop) : Prop :=
 boxV v0 H fun v2 H1 =>
 boxV v1 H1 fun v3 H2 =>
 loadV tab 35 v2 H2 fun v7 =>
 fieldAddrV tab 150 v3 0 fun v8 =>
 loadV tab 32 v8 H2 fun v9 =>
 CallT Tryz.prog 40 [v7, v9] H2 fun v10 H3 =>
 unV .not v10 fun v11 =>
 grdV v11 false (fieldAddrV tab 150 v3 1 fun v13 =>
 loadV tab 148 v13 H3 fun v14 =>
 lenV tab 148 v14 fun v15 =>
 fieldAddrV tab 35 v2 1 fun v16 =>
 loadV tab 3 v16 H3 fun v17 =>
 binV tab .gtr 3 v15 v17 fun v18 =>
 condV v18 (K (AV.p (.bool false)) H3)
 (fieldAddrV tab 150 v3 1 fun v20 =>
 loadV tab 148 v20 H3 fun v21 =>
 lenV tab 148 v21 fun v22 =>
 L120_0 K v2 v3 v21 v22 (AV.p (.int .i64 0)) H3))
 (K (AV.p (.bool false)) H3)
theorem W120_wp (v0 : AV) (v1 : AV) (H : Heap) (K : AV → Heap → Prop) : wpC Tryz.prog tab D120 (bodyOf Tryz.f120) (retF tab [.tmp 4] K) (nthA [v0, v1]) H = W120 v0 v1 H K := by kernel_rfl
theorem W120_ok {v0 v1 : AV} {H : Heap} {K : AV → Heap → Prop} (h : W120 v0 v1 H K) : CallT Tryz.prog 120 [v0, v1] H K :=
  CallT.of_wp (D := D120) tab_ok mixed Tryz.func120 (c := bodyOf Tryz.f120) (by kernel_rfl) rfl (by kernel_rfl) (rs := #[.tmp 4]) rfl (by decide +kernel) (by kernel_rfl) (W120_wp v0 v1 H K) h
theorem L120_0_rule {K : AV → Heap → Prop} {v2 v3 v21 v22 v23 : AV} {H : Heap} {σ : Type} (s0 : σ) (f23 : σ → AV) (TH : σ → Heap) (pre : σ → Prop) (μ : σ → Nat)
    (h0 : pre s0 ∧ AV.wk v23 (f23 s0) ∧ Heap.le (TH s0) H)
    (round : ∀ s, pre s → B120_0 K (fun w23 H' => ∃ s', pre s' ∧ μ s' < μ s ∧ AV.wk w23 (f23 s') ∧ Heap.le (TH s') H') v2 v3 v21 v22 (f23 s) (TH s)) :
    L120_0 K v2 v3 v21 v22 v23 H := by
  unfold L120_0
  exact LoopV.mk s0 (fun s => [f23 s]) TH pre μ (fun _ => rfl) (Eq.mp (by kernel_rfl) h0) (fun s hs => Eq.mp (by kernel_rfl) (round s hs))
def D121 : Info := ⟨15, fun i => ([], []), fun i => ([], [])⟩
def J121_0 (K : AV → Heap → Prop) (v3 : AV) (v7 : AV) (H : Heap) : Prop :=
 condV v7 (K (AV.p (.int .i64 1)) H)
 (binV tab .eql 3 v3 (AV.p (.int .i64 5)) fun v11 =>
 condV v11 (condV v11 (K (AV.p (.int .i64 2)) H)
 (K (AV.p (.int .i64 (-1))) H))
 (binV tab .eql 3 v3 (AV.p (.int .i64 6)) fun v12 =>
 condV v12 (condV v12 (K (AV.p (.int .i64 2)) H)
 (K (AV.p (.int .i64 (-1))) H))
 (binV tab .eql 3 v3 (AV.p (.int .i64 7)) fun v13 =>
 condV v13 (condV v13 (K (AV.p (.int .i64 2)) H)
 (K (AV.p (.int .i64 (-1))) H))
 (binV tab .eql 3 v3 (AV.p (.int .i64 8)) fun v14 =>
 condV v14 (K (AV.p (.int .i64 2)) H)
 (K (AV.p (.int .i64 (-1))) H)))))
def J121_1 (K : AV → Heap → Prop) (v3 : AV) (v4 : AV) (H : Heap) : Prop :=
 condV v4 (K (AV.p (.int .i64 0)) H)
 (binV tab .eql 3 v3 (AV.p (.int .i64 3)) fun v8 =>
 condV v8 (J121_0 K v3 v8 H)
 (binV tab .eql 3 v3 (AV.p (.int .i64 4)) fun v9 =>
 J121_0 K v3 v9 H))
def W121 (v0 : AV) (H : Heap) (K : AV → Heap → Prop) : Prop :=
 binV tab .eql 3 v0 (AV.p (.int .i64 1)) fun v5 =>
 condV v5 (J121_1 K v0 v5 H)
 (binV tab .eql 3 v0 (AV.p (.int .i64 2)) fun v6 =>
 J121_1 K v0 v6 H)
theorem W121_wp (v0 : AV) (H : Heap) (K : AV → Heap → Prop) : wpC Tryz.prog tab D121 (bodyOf Tryz.f121) (retF tab [.tmp 2] K) (nthA [v0]) H = W121 v0 H K := by kernel_rfl
theorem W121_ok {v0 : AV} {H : Heap} {K : AV → Heap → Prop} (h : W121 v0 H K) : CallT Tryz.prog 121 [v0] H K :=
  CallT.of_wp (D := D121) tab_ok mixed Tryz.func121 (c := bodyOf Tryz.f121) (by kernel_rfl) rfl (by kernel_rfl) (rs := #[.tmp 2]) rfl (by decide +kernel) (by kernel_rfl) (W121_wp v0 H K) h
def D122 : Info := ⟨18, fun i => ([], []), fun i => ([], [])⟩
def W122 (v0 : AV) (H : Heap) (K : AV → Heap → Prop) : Prop :=
 boxV v0 H fun v1 H1 =>
 fieldAddrV tab 106 v1 0 fun v3 =>
 loadV tab 3 v3 H1 fun v4 =>
 binV tab .eql 3 v4 (AV.p (.int .i64 1)) fun v6 =>
 condV v6 (fieldAddrV tab 106 v1 1 fun v7 =>
 loadV tab 3 v7 H1 fun v8 =>
 CallT Tryz.prog 52 [v8, (AV.p (.int .i64 0)), (AV.p (.int .i64 2))] H1 fun v9 H2 =>
 K v9 H2)
 (binV tab .eql 3 v4 (AV.p (.int .i64 2)) fun v11 =>
 condV v11 (fieldAddrV tab 106 v1 1 fun v12 =>
 loadV tab 3 v12 H1 fun v13 =>
 CallT Tryz.prog 52 [v13, (AV.p (.int .i64 0)), (AV.p (.int .i64 1))] H1 fun v14 H3 =>
 K v14 H3)
 (fieldAddrV tab 106 v1 1 fun v15 =>
 loadV tab 3 v15 H1 fun v16 =>
 binV tab .eql 3 v16 (AV.p (.int .i64 0)) fun v17 =>
 K v17 H1))
theorem W122_wp (v0 : AV) (H : Heap) (K : AV → Heap → Prop) : wpC Tryz.prog tab D122 (bodyOf Tryz.f122) (retF tab [.tmp 2] K) (nthA [v0]) H = W122 v0 H K := by kernel_rfl
theorem W122_ok {v0 : AV} {H : Heap} {K : AV → Heap → Prop} (h : W122 v0 H K) : CallT Tryz.prog 122 [v0] H K :=
  CallT.of_wp (D := D122) tab_ok mixed Tryz.func122 (c := bodyOf Tryz.f122) (by kernel_rfl) rfl (by kernel_rfl) (rs := #[.tmp 2]) rfl (by decide +kernel) (by kernel_rfl) (W122_wp v0 H K) h
def D123 : Info := ⟨48, fun i => ([], []), fun i => if i = 2 then ([0, 1], [5]) else ([], [])⟩
def L123_0 (K : AV → Heap → Prop) (v0 : AV) (v1 : AV) (v5 : AV) (H : Heap) : Prop := LoopV (wpC Tryz.prog tab D123 (cAt [1, 1, 0, 0, 0] (bodyOf Tryz.f123))) [0, 1] (PostF.block 0 (PostF.thenA (wpC Tryz.prog tab D123 (cAt [1, 1, 1] (bodyOf Tryz.f123))) (retF tab [.tmp 4] K))) [5] [v0, v1, AV.any, AV.any, AV.any, v5, AV.any, AV.any, AV.any, AV.any, AV.any, AV.any, AV.any, AV.any, AV.any, AV.any, AV.any, AV.any, AV.any, AV.any, AV.any, AV.any, AV.any, AV.any, AV.any, AV.any, AV.any, AV.any, AV.any, AV.any, AV.any, AV.any, AV.any, AV.any, AV.any, AV.any, AV.any, AV.any, AV.any, AV.any, AV.any, AV.any, AV.any, AV.any, AV.any, AV.any, AV.any, AV.any] H
def J123_1 (K : AV → Heap → Prop) (v0 : AV) (v1 : AV) (v5 : AV) (H : Heap) : Prop :=
 buildSliceV tab 46 0 [] H (wkK fun v34 H1 =>
 sliceV tab 46 v0 none (some v5) none fun v37 =>
 appendV tab 46 46 v34 v37 H1 (wkK fun v38 H2 =>
 buildSliceV tab 46 1 [(0, v1)] H2 (wkK fun v41 H3 =>
 appendV tab 46 46 v38 v41 H3 (wkK fun v42 H4 =>
 sliceV tab 46 v0 (some v5) none none fun v46 =>
 appendV tab 46 46 v42 v46 H4 (wkK fun v47 H5 =>
 K v47 H5)))))
def J123_2 (K : AV → Heap → Prop) (v0 : AV) (v1 : AV) (v5 : AV) (H : Heap) : Prop :=
 lenV tab 46 v0 fun v23 =>
 binV tab .lss 3 v5 v23 fun v24 =>
 grdV v24 true (indexAddrV tab 46 v0 v5 fun v28 =>
 loadV tab 3 v28 H fun v29 =>
 binV tab .eql 3 v29 v1 fun v31 =>
 condV v31 (K v0 H)
 (J123_1 K v0 v1 v5 H))
 (J123_1 K v0 v1 v5 H)
def B123_0 (K : AV → Heap → Prop) (N1 : AV → Heap → Prop) (v0 : AV) (v1 : AV) (v5 : AV) (H : Heap) : Prop :=
 lenV tab 46 v0 fun v9 =>
 binV tab .lss 3 v5 v9 fun v10 =>
 grdV v10 true (indexAddrV tab 46 v0 v5 fun v14 =>
 loadV tab 3 v14 H fun v15 =>
 binV tab .lss 3 v15 v1 fun v17 =>
 condV v17 (binV tab .add 3 v5 (AV.p (.int .i64 1)) fun v20 =>
 N1 v20 H)
 (J123_2 K v0 v1 v5 H))
 (J123_2 K v0 v1 v5 H)
def W123 (v0 : AV) (v1 : AV) (H : Heap) (K : AV → Heap → Prop) : Prop :=
 L123_0 K v0 v1 (AV.p (.int .i64 0)) H
theorem W123_wp (v0 : AV) (v1 : AV) (H : Heap) (K : AV → Heap → Prop) : wpC Tryz.prog tab D123 (bodyOf Tryz.f123) (retF tab [.tmp 4] K) (nthA [v0, v1]) H = W123 v0 v1 H K := by kernel_rfl
theorem W123_ok {v0 v1 : AV} {H : Heap} {K : AV → Heap → Prop} (h : W123 v0 v1 H K) : CallT Tryz.prog 123 [v0, v1] H K :=
  CallT.of_wp (D := D123) tab_ok mixed Tryz.func123 (c := bodyOf Tryz.f123) (by kernel_rfl) rfl (by kernel_rfl) (rs := #[.tmp 4]) rfl (by decide +kernel) (by kernel_rfl) (W123_wp v0 v1 H K) h
theorem L123_0_rule {K : AV → Heap → Prop} {v0 v1 v5 : AV} {H : Heap} {σ : Type} (s0 : σ) (f5 : σ → AV) (TH : σ → Heap) (pre : σ → Prop) (μ : σ → Nat)
    (h0 : pre s0 ∧ AV.wk v5 (f5 s0) ∧ Heap.le (TH s0) H)
    (round : ∀ s, pre s → B123_0 K (fun w5 H' => ∃ s', pre s' ∧ μ s' < μ s ∧ AV.wk w5 (f5 s') ∧ Heap.le (TH s') H') v0 v1 (f5 s) (TH s)) :
    L123_0 K v0 v1 v5 H := by
  unfold L123_0
  exact LoopV.mk s0 (fun s => [f5 s]) TH pre μ (fun _ => rfl) (Eq.mp (by kernel_rfl) h0) (fun s hs => Eq.mp (by kernel_rfl) (round s hs))
def D124 : Info := ⟨5, fun i => ([], []), fun i => ([], [])⟩
def W124 (v0 : AV) (H : Heap) (K : AV → Heap → Prop) : Prop :=
 CallT Tryz.prog 52 [v0, (AV.p (.int .i64 1)), (AV.p (.int .i64 64))] H fun v4 H1 =>
 K v4 H1
theorem W124_wp (v0 : AV) (H : Heap) (K : AV → Heap → Prop) : wpC Tryz.prog tab D124 (bodyOf Tryz.f124) (retF tab [.tmp 2] K) (nthA [v0]) H = W124 v0 H K := by kernel_rfl
theorem W124_ok {v0 : AV} {H : Heap} {K : AV → Heap → Prop} (h : W124 v0 H K) : CallT Tryz.prog 124 [v0] H K :=
  CallT.of_wp (D := D124) tab_ok mixed Tryz.func124 (c := bodyOf Tryz.f124) (by kernel_rfl) rfl (by kernel_rfl) (rs := #[.tmp 2]) rfl (by decide +kernel) (by kernel_rfl) (W124_wp v0 H K) h
def D125 : Info := ⟨34, fun i => ([], []), fun i => ([], [])⟩
def W125 (v0 : AV) (H : Heap) (K : AV → Heap → Prop) : Prop :=
 binV tab .eql 3 v0 (AV.p (.int .i64 1)) fun v7 =>
 grdV v7 false (binV tab .eql 3 v0 (AV.p (.int .i64 2)) fun v10 =>
 condV v10 (K (.tup [(AV.p (.int .i64 0)), (AV.p (.int .i64 1)), (AV.p (.int .i64 1))]) H)
 (binV tab .eql 3 v0 (AV.p (.int .i64 20)) fun v14 =>
 condV v14 (K (.tup [(AV.p (.int .i64 0)), (AV.p (.int .i64 2)), (AV.p (.int .i64 2))]) H)
 (binV tab .eql 3 v0 (AV.p (.int .i64 13)) fun v17 =>
 condV v17 (K (.tup [(AV.p (.int .i64 1)), (AV.p (.int .i64 1)), (AV.p (.int .i64 1))]) H)
 (binV tab .eql 3 v0 (AV.p (.int .i64 19)) fun v20 =>
 condV v20 (K (.tup [(AV.p (.int .i64 1)), (AV.p (.int .i64 2)), (AV.p (.int .i64 2))]) H)
 (CallT Tryz.prog 52 [v0, (AV.p (.int .i64 3)), (AV.p (.int .i64 12))] H fun v23 H1 =>
 condV v23 (K (.tup [(AV.p (.int .i64 2)), (AV.p (.int .i64 1)), (AV.p (.int .i64 1))]) H1)
 (CallT Tryz.prog 52 [v0, (AV.p (.int .i64 14)), (AV.p (.int .i64 16))] H1 fun v26 H2 =>
 condV v26 (K (.tup [(AV.p (.int .i64 2)), (AV.p (.int .i64 1)), (AV.p (.int .i64 2))]) H2)
 (binV tab .eql 3 v0 (AV.p (.int .i64 17)) fun v29 =>
 grdV v29 false (binV tab .eql 3 v0 (AV.p (.int .i64 18)) fun v32 =>
 condV v32 (K (.tup [(AV.p (.int .i64 2)), (AV.p (.int .i64 2)), (AV.p (.int .i64 2))]) H2)
 (K (.tup [(AV.p (.int .i64 0)), (AV.p (.int .i64 0)), (AV.p (.int .i64 0))]) H2))
 (K (.tup [(AV.p (.int .i64 2)), (AV.p (.int .i64 2)), (AV.p (.int .i64 2))]) H2))))))))
 (K (.tup [(AV.p (.int .i64 0)), (AV.p (.int .i64 1)), (AV.p (.int .i64 1))]) H)
theorem W125_wp (v0 : AV) (H : Heap) (K : AV → Heap → Prop) : wpC Tryz.prog tab D125 (bodyOf Tryz.f125) (retF tab [.tmp 2, .tmp 3, .tmp 4] K) (nthA [v0]) H = W125 v0 H K := by kernel_rfl
theorem W125_ok {v0 : AV} {H : Heap} {K : AV → Heap → Prop} (h : W125 v0 H K) : CallT Tryz.prog 125 [v0] H K :=
  CallT.of_wp (D := D125) tab_ok mixed Tryz.func125 (c := bodyOf Tryz.f125) (by kernel_rfl) rfl (by kernel_rfl) (rs := #[.tmp 2, .tmp 3, .tmp 4]) rfl (by decide +kernel) (by kernel_rfl) (W125_wp v0 H K) h
end Go.Proofs.YtgcklgeifdefhaaGreat
