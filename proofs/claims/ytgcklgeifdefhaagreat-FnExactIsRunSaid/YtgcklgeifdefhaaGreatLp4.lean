/- Texts laid together: W0 W1. -/
import Derived.Test.YtgcklgeifdefhaaGreatLp3
import Derived.KernelRfl
/- What each function's code is asked for, as a formula. Written by wgen.py (a program of this session's) out of Lean's print of the program. -/
namespace Go.Proofs.YtgcklgeifdefhaaGreat
open Go Go.Sep
set_option linter.unusedVariables false
attribute [local irreducible] wpC headF
/-- loop.example/g00649/laws.FnExactGoodQuestion -/
def D3 : Info := ⟨27, fun i => if i = 10 then ([[], [], [1], [0, 1, 2], [0, 1, 2, 3]], [(0, []), (1, []), (2, [0]), (3, []), (4, [])]) else ([], []), fun i => ([], [])⟩
/-- loop.example/g00649/laws.szQuestion -/
def D8 : Info := ⟨24, fun i => ([], []), fun i => ([], [])⟩
def W8 (v0 : AV) (v1 : AV) (H : Heap) (K : AV → Heap → Prop) : Prop :=
 boxV v0 H fun v2 H1 =>
 fieldAddrV tab 29 v2 0 fun v5 =>
 loadV tab 25 v5 H1 fun v6 =>
 CallT Tryz.prog 35 [v6, v1] H1 fun v8 H2 =>
 binV tab .lss 3 v8 (AV.p (.int .i64 0)) fun v10 =>
 condV v10 (K (AV.p (.int .i64 (-1))) H2)
 (fieldAddrV tab 29 v2 1 fun v11 =>
 loadV tab 26 v11 H2 fun v12 =>
 CallT Tryz.prog 36 [v12, v8] H2 fun v14 H3 =>
 binV tab .lss 3 v14 (AV.p (.int .i64 0)) fun v16 =>
 condV v16 (K (AV.p (.int .i64 (-1))) H3)
 (fieldAddrV tab 29 v2 2 fun v17 =>
 loadV tab 27 v17 H3 fun v18 =>
 CallT Tryz.prog 37 [v18, v14] H3 fun v20 H4 =>
 binV tab .lss 3 v20 (AV.p (.int .i64 0)) fun v22 =>
 condV v22 (K (AV.p (.int .i64 (-1))) H4)
 (K v20 H4)))
theorem W8_wp (v0 : AV) (v1 : AV) (H : Heap) (K : AV → Heap → Prop) : wpC Tryz.prog tab D8 (bodyOf Tryz.f8) (retF tab [.tmp 4] K) (nthA [v0, v1]) H = W8 v0 v1 H K := by kernel_rfl
theorem W8_ok {v0 v1 : AV} {H : Heap} {K : AV → Heap → Prop} (h : W8 v0 v1 H K) : CallT Tryz.prog 8 [v0, v1] H K :=
  CallT.of_wp (D := D8) tab_ok mixed Tryz.func8 (c := bodyOf Tryz.f8) (by kernel_rfl) rfl (by kernel_rfl) (rs := #[.tmp 4]) rfl (by decide +kernel) (by kernel_rfl) (W8_wp v0 v1 H K) h
/-- loop.example/g00649/spec.GoodQuestion -/
def D9 : Info := ⟨34, fun i => ([], []), fun i => if i = 4 then ([1, 22, 23], [24]) else ([], [])⟩
def L9_0 (K : AV → Heap → Prop) (v1 : AV) (v22 : AV) (v23 : AV) (v24 : AV) (H : Heap) : Prop := LoopV (wpC Tryz.prog tab D9 (cAt [1, 1, 0, 1, 0, 0] (bodyOf Tryz.f9))) [1, 22, 23] (PostF.block 0 (PostF.thenA (wpC Tryz.prog tab D9 (cAt [1, 1, 1] (bodyOf Tryz.f9))) (retF tab [.tmp 2] K))) [24] [AV.any, v1, AV.any, AV.any, AV.any, AV.any, AV.any, AV.any, AV.any, AV.any, AV.any, AV.any, AV.any, AV.any, AV.any, AV.any, AV.any, AV.any, AV.any, AV.any, AV.any, AV.any, v22, v23, v24, AV.any, AV.any, AV.any, AV.any, AV.any, AV.any, AV.any, AV.any, AV.any] H
def B9_0 (K : AV → Heap → Prop) (N1 : AV → Heap → Prop) (v1 : AV) (v22 : AV) (v23 : AV) (v24 : AV) (H : Heap) : Prop :=
 binV tab .lss 3 v24 v23 fun v25 =>
 condV v25 (indexAddrV tab 36 v22 v24 fun v26 =>
 loadV tab 32 v26 H fun v27 =>
 fieldAddrV tab 39 v1 0 fun v28 =>
 loadV tab 35 v28 H fun v29 =>
 CallT Tryz.prog 40 [v29, v27] H fun v31 H4 =>
 unV .not v31 fun v32 =>
 condV v32 (K (AV.p (.bool false)) H4)
 (binV tab .add 3 v24 (AV.p (.int .i64 1)) fun v33 =>
 N1 v33 H4))
 (K (AV.p (.bool true)) H)
def W9 (v0 : AV) (H : Heap) (K : AV → Heap → Prop) : Prop :=
 boxV v0 H fun v1 H1 =>
 fieldAddrV tab 39 v1 0 fun v5 =>
 loadV tab 35 v5 H1 fun v6 =>
 CallT Tryz.prog 38 [v6] H1 fun v7 H2 =>
 unV .not v7 fun v8 =>
 grdV v8 false (fieldAddrV tab 39 v1 1 fun v10 =>
 loadV tab 36 v10 H2 fun v11 =>
 lenV tab 36 v11 fun v12 =>
 binV tab .neq 3 v12 (AV.p (.int .i64 3)) fun v13 =>
 grdV v13 false (fieldAddrV tab 39 v1 2 fun v16 =>
 loadV tab 37 v16 H2 fun v17 =>
 CallT Tryz.prog 39 [v17] H2 fun v18 H3 =>
 unV .not v18 fun v19 =>
 condV v19 (K (AV.p (.bool false)) H3)
 (fieldAddrV tab 39 v1 1 fun v21 =>
 loadV tab 36 v21 H3 fun v22 =>
 lenV tab 36 v22 fun v23 =>
 L9_0 K v1 v22 v23 (AV.p (.int .i64 0)) H3))
 (K (AV.p (.bool false)) H2))
 (K (AV.p (.bool false)) H2)
theorem W9_wp (v0 : AV) (H : Heap) (K : AV → Heap → Prop) : wpC Tryz.prog tab D9 (bodyOf Tryz.f9) (retF tab [.tmp 2] K) (nthA [v0]) H = W9 v0 H K := by kernel_rfl
theorem W9_ok {v0 : AV} {H : Heap} {K : AV → Heap → Prop} (h : W9 v0 H K) : CallT Tryz.prog 9 [v0] H K :=
  CallT.of_wp (D := D9) tab_ok mixed Tryz.func9 (c := bodyOf Tryz.f9) (by kernel_rfl) rfl (by kernel_rfl) (rs := #[.tmp 2]) rfl (by decide +kernel) (by kernel_rfl) (W9_wp v0 H K) h
theorem L9_0_rule {K : AV → Heap → Prop} {v1 v22 v23 v24 : AV} {H : Heap} {σ : Type} (s0 : σ) (f24 : σ → AV) (TH : σ → Heap) (pre : σ → Prop) (μ : σ → Nat)
    (h0 : pre s0 ∧ AV.wk v24 (f24 s0) ∧ Heap.le (TH s0) H)
    (round : ∀ s, pre s → B9_0 K (fun w24 H' => ∃ s', pre s' ∧ μ s' < μ s ∧ AV.wk w24 (f24 s') ∧ Heap.le (TH s') H') v1 v22 v23 (f24 s) (TH s)) :
    L9_0 K v1 v22 v23 v24 H := by
  unfold L9_0
  exact LoopV.mk s0 (fun s => [f24 s]) TH pre μ (fun _ => rfl) (Eq.mp (by kernel_rfl) h0) (fun s hs => Eq.mp (by kernel_rfl) (round s hs))
/-- loop.example/g00649/laws.toQuestion -/
def D10 : Info := ⟨17, fun i => ([], []), fun i => ([], [])⟩
def W10 (v0 : AV) (H : Heap) (K : AV → Heap → Prop) : Prop :=
 boxV v0 H fun v1 H1 =>
 allocV tab 39 H1 fun v2 H2 =>
 allocV tab 39 H2 fun v3 H3 =>
 fieldAddrV tab 29 v1 0 fun v4 =>
 loadV tab 25 v4 H3 fun v5 =>
 CallT Tryz.prog 41 [v5] H3 fun v6 H4 =>
 fieldAddrV tab 39 v3 0 fun v7 =>
 storeV tab 35 v7 v6 H4 fun H5 =>
 fieldAddrV tab 29 v1 1 fun v8 =>
 loadV tab 26 v8 H5 fun v9 =>
 CallT Tryz.prog 42 [v9] H5 fun v10 H6 =>
 fieldAddrV tab 39 v3 1 fun v11 =>
 storeV tab 36 v11 v10 H6 fun H7 =>
 fieldAddrV tab 29 v1 2 fun v12 =>
 loadV tab 27 v12 H7 fun v13 =>
 CallT Tryz.prog 43 [v13] H7 fun v14 H8 =>
 fieldAddrV tab 39 v3 2 fun v15 =>
 storeV tab 37 v15 v14 H8 fun H9 =>
 loadV tab 39 v3 H9 fun v16 =>
 storeV tab 39 v2 v16 H9 fun H10 =>
 loadV tab 39 v2 H10 fun r0 =>
 K r0 H10
theorem W10_wp (v0 : AV) (H : Heap) (K : AV → Heap → Prop) : wpC Tryz.prog tab D10 (bodyOf Tryz.f10) (retF tab [.cell 2 39] K) (nthA [v0]) H = W10 v0 H K := by kernel_rfl
theorem W10_ok {v0 : AV} {H : Heap} {K : AV → Heap → Prop} (h : W10 v0 H K) : CallT Tryz.prog 10 [v0] H K :=
  CallT.of_wp (D := D10) tab_ok mixed Tryz.func10 (c := bodyOf Tryz.f10) (by kernel_rfl) rfl (by kernel_rfl) (rs := #[.cell 2 39]) rfl (by decide +kernel) (by kernel_rfl) (W10_wp v0 H K) h
/-- loop.example/g00649/impl.GoodQuestion -/
def D11 : Info := ⟨24, fun i => ([], []), fun i => ([], [])⟩
def W11 (v0 : AV) (H : Heap) (K : AV → Heap → Prop) : Prop :=
 boxV v0 H fun v1 H1 =>
 fieldAddrV tab 39 v1 0 fun v3 =>
 loadV tab 35 v3 H1 fun v4 =>
 CallT Tryz.prog 44 [v4] H1 fun v5 H2 =>
 unV .not v5 fun v6 =>
 grdV v6 false (fieldAddrV tab 39 v1 1 fun v8 =>
 loadV tab 36 v8 H2 fun v9 =>
 lenV tab 36 v9 fun v10 =>
 binV tab .neq 3 v10 (AV.p (.int .i64 3)) fun v11 =>
 grdV v11 false (fieldAddrV tab 39 v1 2 fun v14 =>
 loadV tab 37 v14 H2 fun v15 =>
 CallT Tryz.prog 45 [v15] H2 fun v16 H3 =>
 unV .not v16 fun v17 =>
 condV v17 (K (AV.p (.bool false)) H3)
 (fieldAddrV tab 39 v1 1 fun v19 =>
 loadV tab 36 v19 H3 fun v20 =>
 CallT Tryz.prog 46 [v20, (.fn 47 [v1])] H3 fun v22 H4 =>
 unV .not v22 fun v23 =>
 K v23 H4))
 (K (AV.p (.bool false)) H2))
 (K (AV.p (.bool false)) H2)
theorem W11_wp (v0 : AV) (H : Heap) (K : AV → Heap → Prop) : wpC Tryz.prog tab D11 (bodyOf Tryz.f11) (retF tab [.tmp 2] K) (nthA [v0]) H = W11 v0 H K := by kernel_rfl
theorem W11_ok {v0 : AV} {H : Heap} {K : AV → Heap → Prop} (h : W11 v0 H K) : CallT Tryz.prog 11 [v0] H K :=
  CallT.of_wp (D := D11) tab_ok mixed Tryz.func11 (c := bodyOf Tryz.f11) (by kernel_rfl) rfl (by kernel_rfl) (rs := #[.tmp 2]) rfl (by decide +kernel) (by kernel_rfl) (W11_wp v0 H K) h
/-- loop.example/g00649/laws.eqQuestion -/
def D12 : Info := ⟨23, fun i => ([], []), fun i => ([], [])⟩
def W12 (v0 : AV) (v1 : AV) (H : Heap) (K : AV → Heap → Prop) : Prop :=
 boxV v0 H fun v2 H1 =>
 boxV v1 H1 fun v3 H2 =>
 fieldAddrV tab 39 v2 0 fun v5 =>
 loadV tab 35 v5 H2 fun v6 =>
 fieldAddrV tab 39 v3 0 fun v7 =>
 loadV tab 35 v7 H2 fun v8 =>
 CallT Tryz.prog 49 [v6, v8] H2 fun v9 H3 =>
 unV .not v9 fun v10 =>
 condV v10 (K (AV.p (.bool false)) H3)
 (fieldAddrV tab 39 v2 1 fun v11 =>
 loadV tab 36 v11 H3 fun v12 =>
 fieldAddrV tab 39 v3 1 fun v13 =>
 loadV tab 36 v13 H3 fun v14 =>
 CallT Tryz.prog 50 [v12, v14] H3 fun v15 H4 =>
 unV .not v15 fun v16 =>
 condV v16 (K (AV.p (.bool false)) H4)
 (fieldAddrV tab 39 v2 2 fun v17 =>
 loadV tab 37 v17 H4 fun v18 =>
 fieldAddrV tab 39 v3 2 fun v19 =>
 loadV tab 37 v19 H4 fun v20 =>
 CallT Tryz.prog 51 [v18, v20] H4 fun v21 H5 =>
 unV .not v21 fun v22 =>
 condV v22 (K (AV.p (.bool false)) H5)
 (K (AV.p (.bool true)) H5)))
theorem W12_wp (v0 : AV) (v1 : AV) (H : Heap) (K : AV → Heap → Prop) : wpC Tryz.prog tab D12 (bodyOf Tryz.f12) (retF tab [.tmp 4] K) (nthA [v0, v1]) H = W12 v0 v1 H K := by kernel_rfl
theorem W12_ok {v0 v1 : AV} {H : Heap} {K : AV → Heap → Prop} (h : W12 v0 v1 H K) : CallT Tryz.prog 12 [v0, v1] H K :=
  CallT.of_wp (D := D12) tab_ok mixed Tryz.func12 (c := bodyOf Tryz.f12) (by kernel_rfl) rfl (by kernel_rfl) (rs := #[.tmp 4]) rfl (by decide +kernel) (by kernel_rfl) (W12_wp v0 v1 H K) h
/-- loop.example/g00649/laws.szProgram -/
def D35 : Info := ⟨18, fun i => ([], []), fun i => ([], [])⟩
def W35 (v0 : AV) (v1 : AV) (H : Heap) (K : AV → Heap → Prop) : Prop :=
 boxV v0 H fun v2 H1 =>
 fieldAddrV tab 25 v2 2 fun v5 =>
 loadV tab 22 v5 H1 fun v6 =>
 CallT Tryz.prog 74 [v6, v1] H1 fun v8 H2 =>
 binV tab .lss 3 v8 (AV.p (.int .i64 0)) fun v10 =>
 condV v10 (K (AV.p (.int .i64 (-1))) H2)
 (fieldAddrV tab 25 v2 3 fun v11 =>
 loadV tab 23 v11 H2 fun v12 =>
 CallT Tryz.prog 75 [v12, v8] H2 fun v14 H3 =>
 binV tab .lss 3 v14 (AV.p (.int .i64 0)) fun v16 =>
 condV v16 (K (AV.p (.int .i64 (-1))) H3)
 (K v14 H3))
theorem W35_wp (v0 : AV) (v1 : AV) (H : Heap) (K : AV → Heap → Prop) : wpC Tryz.prog tab D35 (bodyOf Tryz.f35) (retF tab [.tmp 4] K) (nthA [v0, v1]) H = W35 v0 v1 H K := by kernel_rfl
theorem W35_ok {v0 v1 : AV} {H : Heap} {K : AV → Heap → Prop} (h : W35 v0 v1 H K) : CallT Tryz.prog 35 [v0, v1] H K :=
  CallT.of_wp (D := D35) tab_ok mixed Tryz.func35 (c := bodyOf Tryz.f35) (by kernel_rfl) rfl (by kernel_rfl) (rs := #[.tmp 4]) rfl (by decide +kernel) (by kernel_rfl) (W35_wp v0 v1 H K) h
/-- loop.example/g00649/laws.szNodeSS -/
def D36 : Info := ⟨27, fun i => ([], []), fun i => if i = 5 then ([0], [1, 5]) else ([], [])⟩
def L36_0 (K : AV → Heap → Prop) (v0 : AV) (v1 : AV) (v5 : AV) (H : Heap) : Prop := LoopV (wpC Tryz.prog tab D36 (cAt [1, 1, 1, 0, 1, 0, 0] (bodyOf Tryz.f36))) [0] (PostF.block 0 (PostF.thenA (wpC Tryz.prog tab D36 (cAt [1, 1, 1, 1] (bodyOf Tryz.f36))) (retF tab [.tmp 4] K))) [1, 5] [v0, v1, AV.any, AV.any, AV.any, v5, AV.any, AV.any, AV.any, AV.any, AV.any, AV.any, AV.any, AV.any, AV.any, AV.any, AV.any, AV.any, AV.any, AV.any, AV.any, AV.any, AV.any, AV.any, AV.any, AV.any, AV.any] H
def B36_0 (K : AV → Heap → Prop) (N1 : AV → AV → Heap → Prop) (v0 : AV) (v1 : AV) (v5 : AV) (H : Heap) : Prop :=
 lenV tab 26 v0 fun v14 =>
 binV tab .lss 3 v5 v14 fun v15 =>
 condV v15 (indexAddrV tab 26 v0 v5 fun v20 =>
 loadV tab 22 v20 H fun v21 =>
 CallT Tryz.prog 74 [v21, v1] H fun v23 H1 =>
 binV tab .lss 3 v23 (AV.p (.int .i64 0)) fun v25 =>
 condV v25 (K (AV.p (.int .i64 (-1))) H1)
 (binV tab .add 3 v5 (AV.p (.int .i64 1)) fun v17 =>
 N1 v23 v17 H1))
 (K v1 H)
def W36 (v0 : AV) (v1 : AV) (H : Heap) (K : AV → Heap → Prop) : Prop :=
 lenV tab 26 v0 fun v8 =>
 binV tab .sub 3 v1 v8 fun v9 =>
 binV tab .lss 3 v9 (AV.p (.int .i64 0)) fun v11 =>
 condV v11 (K (AV.p (.int .i64 (-1))) H)
 (L36_0 K v0 v9 (AV.p (.int .i64 0)) H)
theorem W36_wp (v0 : AV) (v1 : AV) (H : Heap) (K : AV → Heap → Prop) : wpC Tryz.prog tab D36 (bodyOf Tryz.f36) (retF tab [.tmp 4] K) (nthA [v0, v1]) H = W36 v0 v1 H K := by kernel_rfl
theorem W36_ok {v0 v1 : AV} {H : Heap} {K : AV → Heap → Prop} (h : W36 v0 v1 H K) : CallT Tryz.prog 36 [v0, v1] H K :=
  CallT.of_wp (D := D36) tab_ok mixed Tryz.func36 (c := bodyOf Tryz.f36) (by kernel_rfl) rfl (by kernel_rfl) (rs := #[.tmp 4]) rfl (by decide +kernel) (by kernel_rfl) (W36_wp v0 v1 H K) h
theorem L36_0_rule {K : AV → Heap → Prop} {v0 v1 v5 : AV} {H : Heap} {σ : Type} (s0 : σ) (f1 : σ → AV) (f5 : σ → AV) (TH : σ → Heap) (pre : σ → Prop) (μ : σ → Nat)
    (h0 : pre s0 ∧ AV.wk v1 (f1 s0) ∧ AV.wk v5 (f5 s0) ∧ Heap.le (TH s0) H)
    (round : ∀ s, pre s → B36_0 K (fun w1 w5 H' => ∃ s', pre s' ∧ μ s' < μ s ∧ AV.wk w1 (f1 s') ∧ AV.wk w5 (f5 s') ∧ Heap.le (TH s') H') v0 (f1 s) (f5 s) (TH s)) :
    L36_0 K v0 v1 v5 H := by
  unfold L36_0
  exact LoopV.mk s0 (fun s => [f1 s, f5 s]) TH pre μ (fun _ => rfl) (Eq.mp (by kernel_rfl) h0) (fun s hs => Eq.mp (by kernel_rfl) (round s hs))
/-- loop.example/g00649/laws.szSaidS -/
def D37 : Info := ⟨12, fun i => ([], []), fun i => ([], [])⟩
def W37 (v0 : AV) (v1 : AV) (H : Heap) (K : AV → Heap → Prop) : Prop :=
 lenV tab 27 v0 fun v7 =>
 binV tab .sub 3 v1 v7 fun v8 =>
 binV tab .lss 3 v8 (AV.p (.int .i64 0)) fun v10 =>
 condV v10 (K (AV.p (.int .i64 (-1))) H)
 (K v8 H)
theorem W37_wp (v0 : AV) (v1 : AV) (H : Heap) (K : AV → Heap → Prop) : wpC Tryz.prog tab D37 (bodyOf Tryz.f37) (retF tab [.tmp 4] K) (nthA [v0, v1]) H = W37 v0 v1 H K := by kernel_rfl
theorem W37_ok {v0 v1 : AV} {H : Heap} {K : AV → Heap → Prop} (h : W37 v0 v1 H K) : CallT Tryz.prog 37 [v0, v1] H K :=
  CallT.of_wp (D := D37) tab_ok mixed Tryz.func37 (c := bodyOf Tryz.f37) (by kernel_rfl) rfl (by kernel_rfl) (rs := #[.tmp 4]) rfl (by decide +kernel) (by kernel_rfl) (W37_wp v0 v1 H K) h
/-- loop.example/g00649/spec.l7Small -/
def D38 : Info := ⟨13, fun i => ([], []), fun i => ([], [])⟩
def W38 (v0 : AV) (H : Heap) (K : AV → Heap → Prop) : Prop :=
 boxV v0 H fun v1 H1 =>
 loadV tab 35 v1 H1 fun v3 =>
 CallT Tryz.prog 76 [v3] H1 fun v4 H2 =>
 grdV v4 true (fieldAddrV tab 35 v1 0 fun v6 =>
 loadV tab 3 v6 H2 fun v7 =>
 fieldAddrV tab 35 v1 1 fun v8 =>
 loadV tab 3 v8 H2 fun v9 =>
 binV tab .mul 3 v7 v9 fun v10 =>
 binV tab .leq 3 v10 (AV.p (.int .i64 5)) fun v11 =>
 K v11 H2)
 (K (AV.p (.bool false)) H2)
theorem W38_wp (v0 : AV) (H : Heap) (K : AV → Heap → Prop) : wpC Tryz.prog tab D38 (bodyOf Tryz.f38) (retF tab [.tmp 2] K) (nthA [v0]) H = W38 v0 H K := by kernel_rfl
theorem W38_ok {v0 : AV} {H : Heap} {K : AV → Heap → Prop} (h : W38 v0 H K) : CallT Tryz.prog 38 [v0] H K :=
  CallT.of_wp (D := D38) tab_ok mixed Tryz.func38 (c := bodyOf Tryz.f38) (by kernel_rfl) rfl (by kernel_rfl) (rs := #[.tmp 2]) rfl (by decide +kernel) (by kernel_rfl) (W38_wp v0 H K) h
/-- loop.example/g00649/spec.l13Good -/
def D39 : Info := ⟨11, fun i => ([], []), fun i => ([], [])⟩
def W39 (v0 : AV) (H : Heap) (K : AV → Heap → Prop) : Prop :=
 CallT Tryz.prog 77 [v0] H fun v4 H1 =>
 grdV v4 true (CallT Tryz.prog 78 [v0] H1 fun v7 H2 =>
 lenV tab 46 v7 fun v8 =>
 binV tab .leq 3 v8 (AV.p (.int .i64 5)) fun v9 =>
 K v9 H2)
 (K (AV.p (.bool false)) H1)
theorem W39_wp (v0 : AV) (H : Heap) (K : AV → Heap → Prop) : wpC Tryz.prog tab D39 (bodyOf Tryz.f39) (retF tab [.tmp 2] K) (nthA [v0]) H = W39 v0 H K := by kernel_rfl
theorem W39_ok {v0 : AV} {H : Heap} {K : AV → Heap → Prop} (h : W39 v0 H K) : CallT Tryz.prog 39 [v0] H K :=
  CallT.of_wp (D := D39) tab_ok mixed Tryz.func39 (c := bodyOf Tryz.f39) (by kernel_rfl) rfl (by kernel_rfl) (rs := #[.tmp 2]) rfl (by decide +kernel) (by kernel_rfl) (W39_wp v0 H K) h
/-- loop.example/g00649/spec.l7Asks -/
def D40 : Info := ⟨12, fun i => ([], []), fun i => ([], [])⟩
def W40 (v0 : AV) (v1 : AV) (H : Heap) (K : AV → Heap → Prop) : Prop :=
 boxV v0 H fun v2 H1 =>
 fieldAddrV tab 35 v2 0 fun v5 =>
 loadV tab 3 v5 H1 fun v6 =>
 fieldAddrV tab 35 v2 1 fun v7 =>
 loadV tab 3 v7 H1 fun v8 =>
 CallT Tryz.prog 79 [v6, v8, v1] H1 fun v10 H2 =>
 binV tab .eql 3 v10 (AV.p (.int .i64 2)) fun v11 =>
 K v11 H2
theorem W40_wp (v0 : AV) (v1 : AV) (H : Heap) (K : AV → Heap → Prop) : wpC Tryz.prog tab D40 (bodyOf Tryz.f40) (retF tab [.tmp 4] K) (nthA [v0, v1]) H = W40 v0 v1 H K := by kernel_rfl
theorem W40_ok {v0 v1 : AV} {H : Heap} {K : AV → Heap → Prop} (h : W40 v0 v1 H K) : CallT Tryz.prog 40 [v0, v1] H K :=
  CallT.of_wp (D := D40) tab_ok mixed Tryz.func40 (c := bodyOf Tryz.f40) (by kernel_rfl) rfl (by kernel_rfl) (rs := #[.tmp 4]) rfl (by decide +kernel) (by kernel_rfl) (W40_wp v0 v1 H K) h
/-- loop.example/g00649/laws.toProgram -/
def D41 : Info := ⟨19, fun i => ([], []), fun i => ([], [])⟩
def W41 (v0 : AV) (H : Heap) (K : AV → Heap → Prop) : Prop :=
 boxV v0 H fun v1 H1 =>
 allocV tab 35 H1 fun v2 H2 =>
 allocV tab 35 H2 fun v3 H3 =>
 fieldAddrV tab 25 v1 0 fun v4 =>
 loadV tab 3 v4 H3 fun v5 =>
 fieldAddrV tab 35 v3 0 fun v6 =>
 storeV tab 3 v6 v5 H3 fun H4 =>
 fieldAddrV tab 25 v1 1 fun v7 =>
 loadV tab 3 v7 H4 fun v8 =>
 fieldAddrV tab 35 v3 1 fun v9 =>
 storeV tab 3 v9 v8 H4 fun H5 =>
 fieldAddrV tab 25 v1 2 fun v10 =>
 loadV tab 22 v10 H5 fun v11 =>
 CallT Tryz.prog 80 [v11] H5 fun v12 H6 =>
 fieldAddrV tab 35 v3 2 fun v13 =>
 storeV tab 32 v13 v12 H6 fun H7 =>
 fieldAddrV tab 25 v1 3 fun v14 =>
 loadV tab 23 v14 H7 fun v15 =>
 CallT Tryz.prog 81 [v15] H7 fun v16 H8 =>
 fieldAddrV tab 35 v3 3 fun v17 =>
 storeV tab 33 v17 v16 H8 fun H9 =>
 loadV tab 35 v3 H9 fun v18 =>
 storeV tab 35 v2 v18 H9 fun H10 =>
 loadV tab 35 v2 H10 fun r0 =>
 K r0 H10
theorem W41_wp (v0 : AV) (H : Heap) (K : AV → Heap → Prop) : wpC Tryz.prog tab D41 (bodyOf Tryz.f41) (retF tab [.cell 2 35] K) (nthA [v0]) H = W41 v0 H K := by kernel_rfl
theorem W41_ok {v0 : AV} {H : Heap} {K : AV → Heap → Prop} (h : W41 v0 H K) : CallT Tryz.prog 41 [v0] H K :=
  CallT.of_wp (D := D41) tab_ok mixed Tryz.func41 (c := bodyOf Tryz.f41) (by kernel_rfl) rfl (by kernel_rfl) (rs := #[.cell 2 35]) rfl (by decide +kernel) (by kernel_rfl) (W41_wp v0 H K) h
/-- loop.example/g00649/laws.toNodeSS -/
def D42 : Info := ⟨23, fun i => ([], []), fun i => if i = 3 then ([0, 3], [4]) else ([], [])⟩
def L42_0 (K : AV → Heap → Prop) (v0 : AV) (v3 : AV) (v4 : AV) (H : Heap) : Prop := LoopV (wpC Tryz.prog tab D42 (cAt [1, 1, 0, 1, 0, 0] (bodyOf Tryz.f42))) [0, 3] (PostF.block 0 (PostF.thenA (wpC Tryz.prog tab D42 (cAt [1, 1, 1] (bodyOf Tryz.f42))) (retF tab [.tmp 2] K))) [4] [v0, AV.any, AV.any, v3, v4, AV.any, AV.any, AV.any, AV.any, AV.any, AV.any, AV.any, AV.any, AV.any, AV.any, AV.any, AV.any, AV.any, AV.any, AV.any, AV.any, AV.any, AV.any] H
def B42_0 (K : AV → Heap → Prop) (N1 : AV → Heap → Prop) (v0 : AV) (v3 : AV) (v4 : AV) (H : Heap) : Prop :=
 lenV tab 26 v0 fun v10 =>
 binV tab .lss 3 v4 v10 fun v11 =>
 condV v11 (indexAddrV tab 26 v0 v4 fun v18 =>
 loadV tab 22 v18 H fun v19 =>
 CallT Tryz.prog 80 [v19] H fun v20 H2 =>
 indexAddrV tab 36 v3 v4 fun v21 =>
 storeV tab 32 v21 v20 H2 fun H3 =>
 binV tab .add 3 v4 (AV.p (.int .i64 1)) fun v13 =>
 N1 v13 H3)
 (K v3 H)
def W42 (v0 : AV) (H : Heap) (K : AV → Heap → Prop) : Prop :=
 lenV tab 26 v0 fun v6 =>
 makeSliceV tab 36 v6 v6 H fun v7 H1 =>
 L42_0 K v0 v7 (AV.p (.int .i64 0)) H1
theorem W42_wp (v0 : AV) (H : Heap) (K : AV → Heap → Prop) : wpC Tryz.prog tab D42 (bodyOf Tryz.f42) (retF tab [.tmp 2] K) (nthA [v0]) H = W42 v0 H K := by kernel_rfl
theorem W42_ok {v0 : AV} {H : Heap} {K : AV → Heap → Prop} (h : W42 v0 H K) : CallT Tryz.prog 42 [v0] H K :=
  CallT.of_wp (D := D42) tab_ok mixed Tryz.func42 (c := bodyOf Tryz.f42) (by kernel_rfl) rfl (by kernel_rfl) (rs := #[.tmp 2]) rfl (by decide +kernel) (by kernel_rfl) (W42_wp v0 H K) h
theorem L42_0_rule {K : AV → Heap → Prop} {v0 v3 v4 : AV} {H : Heap} {σ : Type} (s0 : σ) (f4 : σ → AV) (TH : σ → Heap) (pre : σ → Prop) (μ : σ → Nat)
    (h0 : pre s0 ∧ AV.wk v4 (f4 s0) ∧ Heap.le (TH s0) H)
    (round : ∀ s, pre s → B42_0 K (fun w4 H' => ∃ s', pre s' ∧ μ s' < μ s ∧ AV.wk w4 (f4 s') ∧ Heap.le (TH s') H') v0 v3 (f4 s) (TH s)) :
    L42_0 K v0 v3 v4 H := by
  unfold L42_0
  exact LoopV.mk s0 (fun s => [f4 s]) TH pre μ (fun _ => rfl) (Eq.mp (by kernel_rfl) h0) (fun s hs => Eq.mp (by kernel_rfl) (round s hs))
/-- loop.example/g00649/laws.toSaidS -/
def D43 : Info := ⟨23, fun i => ([], []), fun i => if i = 3 then ([0, 3], [4]) else ([], [])⟩
def L43_0 (K : AV → Heap → Prop) (v0 : AV) (v3 : AV) (v4 : AV) (H : Heap) : Prop := LoopV (wpC Tryz.prog tab D43 (cAt [1, 1, 0, 1, 0, 0] (bodyOf Tryz.f43))) [0, 3] (PostF.block 0 (PostF.thenA (wpC Tryz.prog tab D43 (cAt [1, 1, 1] (bodyOf Tryz.f43))) (retF tab [.tmp 2] K))) [4] [v0, AV.any, AV.any, v3, v4, AV.any, AV.any, AV.any, AV.any, AV.any, AV.any, AV.any, AV.any, AV.any, AV.any, AV.any, AV.any, AV.any, AV.any, AV.any, AV.any, AV.any, AV.any] H
def B43_0 (K : AV → Heap → Prop) (N1 : AV → Heap → Prop) (v0 : AV) (v3 : AV) (v4 : AV) (H : Heap) : Prop :=
 lenV tab 27 v0 fun v10 =>
 binV tab .lss 3 v4 v10 fun v11 =>
 condV v11 (indexAddrV tab 27 v0 v4 fun v18 =>
 loadV tab 108 v18 H fun v19 =>
 CallT Tryz.prog 82 [v19] H fun v20 H2 =>
 indexAddrV tab 37 v3 v4 fun v21 =>
 storeV tab 106 v21 v20 H2 fun H3 =>
 binV tab .add 3 v4 (AV.p (.int .i64 1)) fun v13 =>
 N1 v13 H3)
 (K v3 H)
def W43 (v0 : AV) (H : Heap) (K : AV → Heap → Prop) : Prop :=
 lenV tab 27 v0 fun v6 =>
 makeSliceV tab 37 v6 v6 H fun v7 H1 =>
 L43_0 K v0 v7 (AV.p (.int .i64 0)) H1
theorem W43_wp (v0 : AV) (H : Heap) (K : AV → Heap → Prop) : wpC Tryz.prog tab D43 (bodyOf Tryz.f43) (retF tab [.tmp 2] K) (nthA [v0]) H = W43 v0 H K := by kernel_rfl
theorem W43_ok {v0 : AV} {H : Heap} {K : AV → Heap → Prop} (h : W43 v0 H K) : CallT Tryz.prog 43 [v0] H K :=
  CallT.of_wp (D := D43) tab_ok mixed Tryz.func43 (c := bodyOf Tryz.f43) (by kernel_rfl) rfl (by kernel_rfl) (rs := #[.tmp 2]) rfl (by decide +kernel) (by kernel_rfl) (W43_wp v0 H K) h
theorem L43_0_rule {K : AV → Heap → Prop} {v0 v3 v4 : AV} {H : Heap} {σ : Type} (s0 : σ) (f4 : σ → AV) (TH : σ → Heap) (pre : σ → Prop) (μ : σ → Nat)
    (h0 : pre s0 ∧ AV.wk v4 (f4 s0) ∧ Heap.le (TH s0) H)
    (round : ∀ s, pre s → B43_0 K (fun w4 H' => ∃ s', pre s' ∧ μ s' < μ s ∧ AV.wk w4 (f4 s') ∧ Heap.le (TH s') H') v0 v3 (f4 s) (TH s)) :
    L43_0 K v0 v3 v4 H := by
  unfold L43_0
  exact LoopV.mk s0 (fun s => [f4 s]) TH pre μ (fun _ => rfl) (Eq.mp (by kernel_rfl) h0) (fun s hs => Eq.mp (by kernel_rfl) (round s hs))
/-- loop.example/g00649/impl.isSmall -/
def D44 : Info := ⟨13, fun i => ([], []), fun i => ([], [])⟩
def W44 (v0 : AV) (H : Heap) (K : AV → Heap → Prop) : Prop :=
 boxV v0 H fun v1 H1 =>
 loadV tab 35 v1 H1 fun v3 =>
 CallT Tryz.prog 83 [v3] H1 fun v4 H2 =>
 grdV v4 true (fieldAddrV tab 35 v1 0 fun v6 =>
 loadV tab 3 v6 H2 fun v7 =>
 fieldAddrV tab 35 v1 1 fun v8 =>
 loadV tab 3 v8 H2 fun v9 =>
 binV tab .mul 3 v7 v9 fun v10 =>
 binV tab .leq 3 v10 (AV.p (.int .i64 5)) fun v11 =>
 K v11 H2)
 (K (AV.p (.bool false)) H2)
theorem W44_wp (v0 : AV) (H : Heap) (K : AV → Heap → Prop) : wpC Tryz.prog tab D44 (bodyOf Tryz.f44) (retF tab [.tmp 2] K) (nthA [v0]) H = W44 v0 H K := by kernel_rfl
theorem W44_ok {v0 : AV} {H : Heap} {K : AV → Heap → Prop} (h : W44 v0 H K) : CallT Tryz.prog 44 [v0] H K :=
  CallT.of_wp (D := D44) tab_ok mixed Tryz.func44 (c := bodyOf Tryz.f44) (by kernel_rfl) rfl (by kernel_rfl) (rs := #[.tmp 2]) rfl (by decide +kernel) (by kernel_rfl) (W44_wp v0 H K) h
/-- loop.example/g00649/impl.isTracked -/
def D45 : Info := ⟨11, fun i => ([], []), fun i => ([], [])⟩
def W45 (v0 : AV) (H : Heap) (K : AV → Heap → Prop) : Prop :=
 CallT Tryz.prog 84 [v0] H fun v4 H1 =>
 grdV v4 true (CallT Tryz.prog 85 [v0] H1 fun v7 H2 =>
 lenV tab 46 v7 fun v8 =>
 binV tab .leq 3 v8 (AV.p (.int .i64 5)) fun v9 =>
 K v9 H2)
 (K (AV.p (.bool false)) H1)
theorem W45_wp (v0 : AV) (H : Heap) (K : AV → Heap → Prop) : wpC Tryz.prog tab D45 (bodyOf Tryz.f45) (retF tab [.tmp 2] K) (nthA [v0]) H = W45 v0 H K := by kernel_rfl
theorem W45_ok {v0 : AV} {H : Heap} {K : AV → Heap → Prop} (h : W45 v0 H K) : CallT Tryz.prog 45 [v0] H K :=
  CallT.of_wp (D := D45) tab_ok mixed Tryz.func45 (c := bodyOf Tryz.f45) (by kernel_rfl) rfl (by kernel_rfl) (rs := #[.tmp 2]) rfl (by decide +kernel) (by kernel_rfl) (W45_wp v0 H K) h
/-- slices.ContainsFunc[[][]loop.example/g00649/impl.Node,[]loop.example/g00649/impl.Node] -/
def D46 : Info := ⟨9, fun i => ([], []), fun i => ([], [])⟩
def W46 (v0 : AV) (v1 : AV) (H : Heap) (K : AV → Heap → Prop) : Prop :=
 CallT Tryz.prog 86 [v0, v1] H fun v7 H1 =>
 binV tab .geq 3 v7 (AV.p (.int .i64 0)) fun v8 =>
 K v8 H1
theorem W46_wp (v0 : AV) (v1 : AV) (H : Heap) (K : AV → Heap → Prop) : wpC Tryz.prog tab D46 (bodyOf Tryz.f46) (retF tab [.tmp 4] K) (nthA [v0, v1]) H = W46 v0 v1 H K := by kernel_rfl
theorem W46_ok {v0 v1 : AV} {H : Heap} {K : AV → Heap → Prop} (h : W46 v0 v1 H K) : CallT Tryz.prog 46 [v0, v1] H K :=
  CallT.of_wp (D := D46) tab_ok mixed Tryz.func46 (c := bodyOf Tryz.f46) (by kernel_rfl) rfl (by kernel_rfl) (rs := #[.tmp 4]) rfl (by decide +kernel) (by kernel_rfl) (W46_wp v0 v1 H K) h
/-- loop.example/g00649/impl.GoodQuestion$1 -/
def D47 : Info := ⟨9, fun i => ([], []), fun i => ([], [])⟩
def W47 (v0 : AV) (v1 : AV) (H : Heap) (K : AV → Heap → Prop) : Prop :=
 fieldAddrV tab 39 v1 0 fun v4 =>
 loadV tab 35 v4 H fun v5 =>
 CallT Tryz.prog 48 [v5, v0] H fun v7 H1 =>
 unV .not v7 fun v8 =>
 K v8 H1
theorem W47_wp (v0 : AV) (v1 : AV) (H : Heap) (K : AV → Heap → Prop) : wpC Tryz.prog tab D47 (bodyOf Tryz.f47) (retF tab [.tmp 3] K) (nthA [v0, v1]) H = W47 v0 v1 H K := by kernel_rfl
theorem W47_ok {v0 v1 : AV} {H : Heap} {K : AV → Heap → Prop} (h : W47 v0 v1 H K) : CallT Tryz.prog 47 [v0, v1] H K :=
  CallT.of_wp (D := D47) tab_ok mixed Tryz.func47 (c := bodyOf Tryz.f47) (by kernel_rfl) rfl (by kernel_rfl) (rs := #[.tmp 3]) rfl (by decide +kernel) (by kernel_rfl) (W47_wp v0 v1 H K) h
/-- (loop.example/g00649/impl.Program).isCondition -/
def D48 : Info := ⟨11, fun i => ([], []), fun i => ([], [])⟩
def W48 (v0 : AV) (v1 : AV) (H : Heap) (K : AV → Heap → Prop) : Prop :=
 boxV v0 H fun v2 H1 =>
 fieldAddrV tab 35 v2 0 fun v5 =>
 loadV tab 3 v5 H1 fun v6 =>
 fieldAddrV tab 35 v2 1 fun v7 =>
 loadV tab 3 v7 H1 fun v8 =>
 CallT Tryz.prog 87 [v6, v8, v1, (AV.p (.int .i64 2))] H1 fun v10 H2 =>
 K v10 H2
theorem W48_wp (v0 : AV) (v1 : AV) (H : Heap) (K : AV → Heap → Prop) : wpC Tryz.prog tab D48 (bodyOf Tryz.f48) (retF tab [.tmp 4] K) (nthA [v0, v1]) H = W48 v0 v1 H K := by kernel_rfl
theorem W48_ok {v0 v1 : AV} {H : Heap} {K : AV → Heap → Prop} (h : W48 v0 v1 H K) : CallT Tryz.prog 48 [v0, v1] H K :=
  CallT.of_wp (D := D48) tab_ok mixed Tryz.func48 (c := bodyOf Tryz.f48) (by kernel_rfl) rfl (by kernel_rfl) (rs := #[.tmp 4]) rfl (by decide +kernel) (by kernel_rfl) (W48_wp v0 v1 H K) h
/-- loop.example/g00649/laws.eqProgram -/
def D49 : Info := ⟨27, fun i => ([], []), fun i => ([], [])⟩
def W49 (v0 : AV) (v1 : AV) (H : Heap) (K : AV → Heap → Prop) : Prop :=
 boxV v0 H fun v2 H1 =>
 boxV v1 H1 fun v3 H2 =>
 fieldAddrV tab 35 v2 0 fun v5 =>
 loadV tab 3 v5 H2 fun v6 =>
 fieldAddrV tab 35 v3 0 fun v7 =>
 loadV tab 3 v7 H2 fun v8 =>
 binV tab .neq 3 v6 v8 fun v9 =>
 condV v9 (K (AV.p (.bool false)) H2)
 (fieldAddrV tab 35 v2 1 fun v10 =>
 loadV tab 3 v10 H2 fun v11 =>
 fieldAddrV tab 35 v3 1 fun v12 =>
 loadV tab 3 v12 H2 fun v13 =>
 binV tab .neq 3 v11 v13 fun v14 =>
 condV v14 (K (AV.p (.bool false)) H2)
 (fieldAddrV tab 35 v2 2 fun v15 =>
 loadV tab 32 v15 H2 fun v16 =>
 fieldAddrV tab 35 v3 2 fun v17 =>
 loadV tab 32 v17 H2 fun v18 =>
 CallT Tryz.prog 88 [v16, v18] H2 fun v19 H3 =>
 unV .not v19 fun v20 =>
 condV v20 (K (AV.p (.bool false)) H3)
 (fieldAddrV tab 35 v2 3 fun v21 =>
 loadV tab 33 v21 H3 fun v22 =>
 fieldAddrV tab 35 v3 3 fun v23 =>
 loadV tab 33 v23 H3 fun v24 =>
 CallT Tryz.prog 89 [v22, v24] H3 fun v25 H4 =>
 unV .not v25 fun v26 =>
 condV v26 (K (AV.p (.bool false)) H4)
 (K (AV.p (.bool true)) H4))))
theorem W49_wp (v0 : AV) (v1 : AV) (H : Heap) (K : AV → Heap → Prop) : wpC Tryz.prog tab D49 (bodyOf Tryz.f49) (retF tab [.tmp 4] K) (nthA [v0, v1]) H = W49 v0 v1 H K := by kernel_rfl
theorem W49_ok {v0 v1 : AV} {H : Heap} {K : AV → Heap → Prop} (h : W49 v0 v1 H K) : CallT Tryz.prog 49 [v0, v1] H K :=
  CallT.of_wp (D := D49) tab_ok mixed Tryz.func49 (c := bodyOf Tryz.f49) (by kernel_rfl) rfl (by kernel_rfl) (rs := #[.tmp 4]) rfl (by decide +kernel) (by kernel_rfl) (W49_wp v0 v1 H K) h
/-- loop.example/g00649/laws.eqNodeSS -/
def D50 : Info := ⟨27, fun i => if i = 6 then ([[], [], [0, 1], [0, 1, 2], [], [], [4, 5], [4, 5, 6], [0, 1, 2, 3, 4, 5, 6, 7], [0, 1, 2, 3, 4, 5, 6, 7, 8]], [(0, []), (1, []), (2, []), (3, []), (4, []), (5, []), (6, []), (7, []), (8, []), (9, [])]) else ([], []), fun i => if i = 4 then ([0, 1], [5]) else ([], [])⟩
def L50_0 (K : AV → Heap → Prop) (v0 : AV) (v1 : AV) (v5 : AV) (H : Heap) : Prop := LoopV (wpC Tryz.prog tab D50 (cAt [1, 1, 0, 1, 0, 0] (bodyOf Tryz.f50))) [0, 1] (PostF.block 0 (PostF.thenA (wpC Tryz.prog tab D50 (cAt [1, 1, 1] (bodyOf Tryz.f50))) (retF tab [.tmp 4] K))) [5] [v0, v1, AV.any, AV.any, AV.any, v5, AV.any, AV.any, AV.any, AV.any, AV.any, AV.any, AV.any, AV.any, AV.any, AV.any, AV.any, AV.any, AV.any, AV.any, AV.any, AV.any, AV.any, AV.any, AV.any, AV.any, AV.any] H
def B50_0 (K : AV → Heap → Prop) (N1 : AV → Heap → Prop) (v0 : AV) (v1 : AV) (v5 : AV) (H : Heap) : Prop :=
 lenV tab 36 v0 fun v13 =>
 binV tab .lss 3 v5 v13 fun v14 =>
 condV v14 (indexAddrV tab 36 v0 v5 fun v19 =>
 loadV tab 32 v19 H fun v20 =>
 indexAddrV tab 36 v1 v5 fun v23 =>
 loadV tab 32 v23 H fun v24 =>
 CallT Tryz.prog 88 [v20, v24] H fun v25 H1 =>
 unV .not v25 fun v26 =>
 condV v26 (K (AV.p (.bool false)) H1)
 (binV tab .add 3 v5 (AV.p (.int .i64 1)) fun v16 =>
 N1 v16 H1))
 (K (AV.p (.bool true)) H)
def W50 (v0 : AV) (v1 : AV) (H : Heap) (K : AV → Heap → Prop) : Prop :=
 lenV tab 36 v0 fun v7 =>
 lenV tab 36 v1 fun v9 =>
 binV tab .neq 3 v7 v9 fun v10 =>
 condV v10 (K (AV.p (.bool false)) H)
 (L50_0 K v0 v1 (AV.p (.int .i64 0)) H)
theorem W50_wp (v0 : AV) (v1 : AV) (H : Heap) (K : AV → Heap → Prop) : wpC Tryz.prog tab D50 (bodyOf Tryz.f50) (retF tab [.tmp 4] K) (nthA [v0, v1]) H = W50 v0 v1 H K := by kernel_rfl
theorem W50_ok {v0 v1 : AV} {H : Heap} {K : AV → Heap → Prop} (h : W50 v0 v1 H K) : CallT Tryz.prog 50 [v0, v1] H K :=
  CallT.of_wp (D := D50) tab_ok mixed Tryz.func50 (c := bodyOf Tryz.f50) (by kernel_rfl) rfl (by kernel_rfl) (rs := #[.tmp 4]) rfl (by decide +kernel) (by kernel_rfl) (W50_wp v0 v1 H K) h
theorem L50_0_rule {K : AV → Heap → Prop} {v0 v1 v5 : AV} {H : Heap} {σ : Type} (s0 : σ) (f5 : σ → AV) (TH : σ → Heap) (pre : σ → Prop) (μ : σ → Nat)
    (h0 : pre s0 ∧ AV.wk v5 (f5 s0) ∧ Heap.le (TH s0) H)
    (round : ∀ s, pre s → B50_0 K (fun w5 H' => ∃ s', pre s' ∧ μ s' < μ s ∧ AV.wk w5 (f5 s') ∧ Heap.le (TH s') H') v0 v1 (f5 s) (TH s)) :
    L50_0 K v0 v1 v5 H := by
  unfold L50_0
  exact LoopV.mk s0 (fun s => [f5 s]) TH pre μ (fun _ => rfl) (Eq.mp (by kernel_rfl) h0) (fun s hs => Eq.mp (by kernel_rfl) (round s hs))
/-- loop.example/g00649/laws.eqSaidS -/
def D51 : Info := ⟨27, fun i => if i = 6 then ([[], [], [0, 1], [0, 1, 2], [], [], [4, 5], [4, 5, 6], [0, 1, 2, 3, 4, 5, 6, 7], [0, 1, 2, 3, 4, 5, 6, 7, 8]], [(0, []), (1, []), (2, []), (3, []), (4, []), (5, []), (6, []), (7, []), (8, []), (9, [])]) else ([], []), fun i => if i = 4 then ([0, 1], [5]) else ([], [])⟩
def L51_0 (K : AV → Heap → Prop) (v0 : AV) (v1 : AV) (v5 : AV) (H : Heap) : Prop := LoopV (wpC Tryz.prog tab D51 (cAt [1, 1, 0, 1, 0, 0] (bodyOf Tryz.f51))) [0, 1] (PostF.block 0 (PostF.thenA (wpC Tryz.prog tab D51 (cAt [1, 1, 1] (bodyOf Tryz.f51))) (retF tab [.tmp 4] K))) [5] [v0, v1, AV.any, AV.any, AV.any, v5, AV.any, AV.any, AV.any, AV.any, AV.any, AV.any, AV.any, AV.any, AV.any, AV.any, AV.any, AV.any, AV.any, AV.any, AV.any, AV.any, AV.any, AV.any, AV.any, AV.any, AV.any] H
def B51_0 (K : AV → Heap → Prop) (N1 : AV → Heap → Prop) (v0 : AV) (v1 : AV) (v5 : AV) (H : Heap) : Prop :=
 lenV tab 37 v0 fun v13 =>
 binV tab .lss 3 v5 v13 fun v14 =>
 condV v14 (indexAddrV tab 37 v0 v5 fun v19 =>
 loadV tab 106 v19 H fun v20 =>
 indexAddrV tab 37 v1 v5 fun v23 =>
 loadV tab 106 v23 H fun v24 =>
 CallT Tryz.prog 90 [v20, v24] H fun v25 H1 =>
 unV .not v25 fun v26 =>
 condV v26 (K (AV.p (.bool false)) H1)
 (binV tab .add 3 v5 (AV.p (.int .i64 1)) fun v16 =>
 N1 v16 H1))
 (K (AV.p (.bool true)) H)
def W51 (v0 : AV) (v1 : AV) (H : Heap) (K : AV → Heap → Prop) : Prop :=
 lenV tab 37 v0 fun v7 =>
 lenV tab 37 v1 fun v9 =>
 binV tab .neq 3 v7 v9 fun v10 =>
 condV v10 (K (AV.p (.bool false)) H)
 (L51_0 K v0 v1 (AV.p (.int .i64 0)) H)
theorem W51_wp (v0 : AV) (v1 : AV) (H : Heap) (K : AV → Heap → Prop) : wpC Tryz.prog tab D51 (bodyOf Tryz.f51) (retF tab [.tmp 4] K) (nthA [v0, v1]) H = W51 v0 v1 H K := by kernel_rfl
theorem W51_ok {v0 v1 : AV} {H : Heap} {K : AV → Heap → Prop} (h : W51 v0 v1 H K) : CallT Tryz.prog 51 [v0, v1] H K :=
  CallT.of_wp (D := D51) tab_ok mixed Tryz.func51 (c := bodyOf Tryz.f51) (by kernel_rfl) rfl (by kernel_rfl) (rs := #[.tmp 4]) rfl (by decide +kernel) (by kernel_rfl) (W51_wp v0 v1 H K) h
theorem L51_0_rule {K : AV → Heap → Prop} {v0 v1 v5 : AV} {H : Heap} {σ : Type} (s0 : σ) (f5 : σ → AV) (TH : σ → Heap) (pre : σ → Prop) (μ : σ → Nat)
    (h0 : pre s0 ∧ AV.wk v5 (f5 s0) ∧ Heap.le (TH s0) H)
    (round : ∀ s, pre s → B51_0 K (fun w5 H' => ∃ s', pre s' ∧ μ s' < μ s ∧ AV.wk w5 (f5 s') ∧ Heap.le (TH s') H') v0 v1 (f5 s) (TH s)) :
    L51_0 K v0 v1 v5 H := by
  unfold L51_0
  exact LoopV.mk s0 (fun s => [f5 s]) TH pre μ (fun _ => rfl) (Eq.mp (by kernel_rfl) h0) (fun s hs => Eq.mp (by kernel_rfl) (round s hs))
/-- loop.example/g00649/spec.l1In -/
def D52 : Info := ⟨15, fun i => ([], []), fun i => ([], [])⟩
def W52 (v0 : AV) (v1 : AV) (v2 : AV) (H : Heap) (K : AV → Heap → Prop) : Prop :=
 binV tab .geq 3 v0 v1 fun v9 =>
 grdV v9 true (binV tab .leq 3 v0 v2 fun v13 =>
 K v13 H)
 (K (AV.p (.bool false)) H)
theorem W52_wp (v0 : AV) (v1 : AV) (v2 : AV) (H : Heap) (K : AV → Heap → Prop) : wpC Tryz.prog tab D52 (bodyOf Tryz.f52) (retF tab [.tmp 6] K) (nthA [v0, v1, v2]) H = W52 v0 v1 v2 H K := by kernel_rfl
theorem W52_ok {v0 v1 v2 : AV} {H : Heap} {K : AV → Heap → Prop} (h : W52 v0 v1 v2 H K) : CallT Tryz.prog 52 [v0, v1, v2] H K :=
  CallT.of_wp (D := D52) tab_ok mixed Tryz.func52 (c := bodyOf Tryz.f52) (by kernel_rfl) rfl (by kernel_rfl) (rs := #[.tmp 6]) rfl (by decide +kernel) (by kernel_rfl) (W52_wp v0 v1 v2 H K) h
/-- loop.example/g00649/laws.szNodeS -/
def D74 : Info := ⟨12, fun i => ([], []), fun i => ([], [])⟩
def W74 (v0 : AV) (v1 : AV) (H : Heap) (K : AV → Heap → Prop) : Prop :=
 lenV tab 22 v0 fun v7 =>
 binV tab .sub 3 v1 v7 fun v8 =>
 binV tab .lss 3 v8 (AV.p (.int .i64 0)) fun v10 =>
 condV v10 (K (AV.p (.int .i64 (-1))) H)
 (K v8 H)
theorem W74_wp (v0 : AV) (v1 : AV) (H : Heap) (K : AV → Heap → Prop) : wpC Tryz.prog tab D74 (bodyOf Tryz.f74) (retF tab [.tmp 4] K) (nthA [v0, v1]) H = W74 v0 v1 H K := by kernel_rfl
theorem W74_ok {v0 v1 : AV} {H : Heap} {K : AV → Heap → Prop} (h : W74 v0 v1 H K) : CallT Tryz.prog 74 [v0, v1] H K :=
  CallT.of_wp (D := D74) tab_ok mixed Tryz.func74 (c := bodyOf Tryz.f74) (by kernel_rfl) rfl (by kernel_rfl) (rs := #[.tmp 4]) rfl (by decide +kernel) (by kernel_rfl) (W74_wp v0 v1 H K) h
/-- loop.example/g00649/laws.szCommandS -/
def D75 : Info := ⟨27, fun i => ([], []), fun i => if i = 5 then ([0], [1, 5]) else ([], [])⟩
def L75_0 (K : AV → Heap → Prop) (v0 : AV) (v1 : AV) (v5 : AV) (H : Heap) : Prop := LoopV (wpC Tryz.prog tab D75 (cAt [1, 1, 1, 0, 1, 0, 0] (bodyOf Tryz.f75))) [0] (PostF.block 0 (PostF.thenA (wpC Tryz.prog tab D75 (cAt [1, 1, 1, 1] (bodyOf Tryz.f75))) (retF tab [.tmp 4] K))) [1, 5] [v0, v1, AV.any, AV.any, AV.any, v5, AV.any, AV.any, AV.any, AV.any, AV.any, AV.any, AV.any, AV.any, AV.any, AV.any, AV.any, AV.any, AV.any, AV.any, AV.any, AV.any, AV.any, AV.any, AV.any, AV.any, AV.any] H
def B75_0 (K : AV → Heap → Prop) (N1 : AV → AV → Heap → Prop) (v0 : AV) (v1 : AV) (v5 : AV) (H : Heap) : Prop :=
 lenV tab 23 v0 fun v14 =>
 binV tab .lss 3 v5 v14 fun v15 =>
 condV v15 (indexAddrV tab 23 v0 v5 fun v20 =>
 loadV tab 147 v20 H fun v21 =>
 CallT Tryz.prog 119 [v21, v1] H fun v23 H1 =>
 binV tab .lss 3 v23 (AV.p (.int .i64 0)) fun v25 =>
 condV v25 (K (AV.p (.int .i64 (-1))) H1)
 (binV tab .add 3 v5 (AV.p (.int .i64 1)) fun v17 =>
 N1 v23 v17 H1))
 (K v1 H)
def W75 (v0 : AV) (v1 : AV) (H : Heap) (K : AV → Heap → Prop) : Prop :=
 lenV tab 23 v0 fun v8 =>
 binV tab .sub 3 v1 v8 fun v9 =>
 binV tab .lss 3 v9 (AV.p (.int .i64 0)) fun v11 =>
 condV v11 (K (AV.p (.int .i64 (-1))) H)
 (L75_0 K v0 v9 (AV.p (.int .i64 0)) H)
theorem W75_wp (v0 : AV) (v1 : AV) (H : Heap) (K : AV → Heap → Prop) : wpC Tryz.prog tab D75 (bodyOf Tryz.f75) (retF tab [.tmp 4] K) (nthA [v0, v1]) H = W75 v0 v1 H K := by kernel_rfl
theorem W75_ok {v0 v1 : AV} {H : Heap} {K : AV → Heap → Prop} (h : W75 v0 v1 H K) : CallT Tryz.prog 75 [v0, v1] H K :=
  CallT.of_wp (D := D75) tab_ok mixed Tryz.func75 (c := bodyOf Tryz.f75) (by kernel_rfl) rfl (by kernel_rfl) (rs := #[.tmp 4]) rfl (by decide +kernel) (by kernel_rfl) (W75_wp v0 v1 H K) h
theorem L75_0_rule {K : AV → Heap → Prop} {v0 v1 v5 : AV} {H : Heap} {σ : Type} (s0 : σ) (f1 : σ → AV) (f5 : σ → AV) (TH : σ → Heap) (pre : σ → Prop) (μ : σ → Nat)
    (h0 : pre s0 ∧ AV.wk v1 (f1 s0) ∧ AV.wk v5 (f5 s0) ∧ Heap.le (TH s0) H)
    (round : ∀ s, pre s → B75_0 K (fun w1 w5 H' => ∃ s', pre s' ∧ μ s' < μ s ∧ AV.wk w1 (f1 s') ∧ AV.wk w5 (f5 s') ∧ Heap.le (TH s') H') v0 (f1 s) (f5 s) (TH s)) :
    L75_0 K v0 v1 v5 H := by
  unfold L75_0
  exact LoopV.mk s0 (fun s => [f1 s, f5 s]) TH pre μ (fun _ => rfl) (Eq.mp (by kernel_rfl) h0) (fun s hs => Eq.mp (by kernel_rfl) (round s hs))
/-- loop.example/g00649/spec.GoodProgram -/
def D76 : Info := ⟨29, fun i => ([], []), fun i => if i = 4 then ([1, 18, 19], [20]) else ([], [])⟩
def L76_0 (K : AV → Heap → Prop) (v1 : AV) (v18 : AV) (v19 : AV) (v20 : AV) (H : Heap) : Prop := LoopV (wpC Tryz.prog tab D76 (cAt [1, 1, 0, 1, 0, 0] (bodyOf Tryz.f76))) [1, 18, 19] (PostF.block 0 (PostF.thenA (wpC Tryz.prog tab D76 (cAt [1, 1, 1] (bodyOf Tryz.f76))) (retF tab [.tmp 2] K))) [20] [AV.any, v1, AV.any, AV.any, AV.any, AV.any, AV.any, AV.any, AV.any, AV.any, AV.any, AV.any, AV.any, AV.any, AV.any, AV.any, AV.any, AV.any, v18, v19, v20, AV.any, AV.any, AV.any, AV.any, AV.any, AV.any, AV.any, AV.any] H
def B76_0 (K : AV → Heap → Prop) (N1 : AV → Heap → Prop) (v1 : AV) (v18 : AV) (v19 : AV) (v20 : AV) (H : Heap) : Prop :=
 binV tab .lss 3 v20 v19 fun v21 =>
 condV v21 (indexAddrV tab 33 v18 v20 fun v22 =>
 loadV tab 150 v22 H fun v23 =>
 allocV tab 150 H fun v4 H4 =>
 storeV tab 150 v4 v23 H4 fun H5 =>
 loadV tab 35 v1 H5 fun v24 =>
 loadV tab 150 v4 H5 fun v25 =>
 CallT Tryz.prog 120 [v24, v25] H5 fun v26 H6 =>
 unV .not v26 fun v27 =>
 condV v27 (K (AV.p (.bool false)) H6)
 (binV tab .add 3 v20 (AV.p (.int .i64 1)) fun v28 =>
 N1 v28 H6))
 (K (AV.p (.bool true)) H)
def W76 (v0 : AV) (H : Heap) (K : AV → Heap → Prop) : Prop :=
 boxV v0 H fun v1 H1 =>
 loadV tab 35 v1 H1 fun v5 =>
 fieldAddrV tab 35 v1 2 fun v6 =>
 loadV tab 32 v6 H1 fun v7 =>
 CallT Tryz.prog 40 [v5, v7] H1 fun v8 H2 =>
 unV .not v8 fun v9 =>
 grdV v9 false (fieldAddrV tab 35 v1 3 fun v11 =>
 loadV tab 33 v11 H2 fun v12 =>
 lenV tab 33 v12 fun v13 =>
 CallT Tryz.prog 52 [v13, (AV.p (.int .i64 1)), (AV.p (.int .i64 6))] H2 fun v14 H3 =>
 unV .not v14 fun v15 =>
 condV v15 (K (AV.p (.bool false)) H3)
 (fieldAddrV tab 35 v1 3 fun v17 =>
 loadV tab 33 v17 H3 fun v18 =>
 lenV tab 33 v18 fun v19 =>
 L76_0 K v1 v18 v19 (AV.p (.int .i64 0)) H3))
 (K (AV.p (.bool false)) H2)
theorem W76_wp (v0 : AV) (H : Heap) (K : AV → Heap → Prop) : wpC Tryz.prog tab D76 (bodyOf Tryz.f76) (retF tab [.tmp 2] K) (nthA [v0]) H = W76 v0 H K := by kernel_rfl
theorem W76_ok {v0 : AV} {H : Heap} {K : AV → Heap → Prop} (h : W76 v0 H K) : CallT Tryz.prog 76 [v0] H K :=
  CallT.of_wp (D := D76) tab_ok mixed Tryz.func76 (c := bodyOf Tryz.f76) (by kernel_rfl) rfl (by kernel_rfl) (rs := #[.tmp 2]) rfl (by decide +kernel) (by kernel_rfl) (W76_wp v0 H K) h
theorem L76_0_rule {K : AV → Heap → Prop} {v1 v18 v19 v20 : AV} {H : Heap} {σ : Type} (s0 : σ) (f20 : σ → AV) (TH : σ → Heap) (pre : σ → Prop) (μ : σ → Nat)
    (h0 : pre s0 ∧ AV.wk v20 (f20 s0) ∧ Heap.le (TH s0) H)
    (round : ∀ s, pre s → B76_0 K (fun w20 H' => ∃ s', pre s' ∧ μ s' < μ s ∧ AV.wk w20 (f20 s') ∧ Heap.le (TH s') H') v1 v18 v19 (f20 s) (TH s)) :
    L76_0 K v1 v18 v19 v20 H := by
  unfold L76_0
  exact LoopV.mk s0 (fun s => [f20 s]) TH pre μ (fun _ => rfl) (Eq.mp (by kernel_rfl) h0) (fun s hs => Eq.mp (by kernel_rfl) (round s hs))
/-- loop.example/g00649/spec.GoodSaid -/
def D77 : Info := ⟨39, fun i => ([], []), fun i => if i = 5 then ([11, 12], [3, 13]) else ([], [])⟩
def L77_0 (K : AV → Heap → Prop) (v3 : AV) (v11 : AV) (v12 : AV) (v13 : AV) (H : Heap) : Prop := LoopV (wpC Tryz.prog tab D77 (cAt [1, 1, 1, 0, 1, 0, 0] (bodyOf Tryz.f77))) [11, 12] (PostF.block 0 (PostF.thenA (wpC Tryz.prog tab D77 (cAt [1, 1, 1, 1] (bodyOf Tryz.f77))) (retF tab [.tmp 2] K))) [3, 13] [AV.any, AV.any, AV.any, v3, AV.any, AV.any, AV.any, AV.any, AV.any, AV.any, AV.any, v11, v12, v13, AV.any, AV.any, AV.any, AV.any, AV.any, AV.any, AV.any, AV.any, AV.any, AV.any, AV.any, AV.any, AV.any, AV.any, AV.any, AV.any, AV.any, AV.any, AV.any, AV.any, AV.any, AV.any, AV.any, AV.any, AV.any] H
def B77_0 (K : AV → Heap → Prop) (N1 : AV → AV → Heap → Prop) (v3 : AV) (v11 : AV) (v12 : AV) (v13 : AV) (H : Heap) : Prop :=
 binV tab .lss 3 v13 v12 fun v14 =>
 condV v14 (indexAddrV tab 37 v11 v13 fun v15 =>
 loadV tab 106 v15 H fun v16 =>
 allocV tab 106 H fun v5 H2 =>
 storeV tab 106 v5 v16 H2 fun H3 =>
 fieldAddrV tab 106 v5 0 fun v17 =>
 loadV tab 3 v17 H3 fun v18 =>
 CallT Tryz.prog 121 [v18] H3 fun v19 H4 =>
 binV tab .lss 3 v19 (AV.p (.int .i64 0)) fun v21 =>
 grdV v21 false (loadV tab 106 v5 H4 fun v23 =>
 CallT Tryz.prog 122 [v23] H4 fun v24 H5 =>
 unV .not v24 fun v25 =>
 grdV v25 false (binV tab .lss 3 v3 v19 fun v30 =>
 condV v30 (K (AV.p (.bool false)) H5)
 (binV tab .sub 3 (AV.p (.int .i64 1)) v19 fun v34 =>
 binV tab .add 3 v3 v34 fun v35 =>
 binV tab .add 3 v13 (AV.p (.int .i64 1)) fun v36 =>
 N1 v35 v36 H5))
 (K (AV.p (.bool false)) H5))
 (K (AV.p (.bool false)) H4))
 (binV tab .eql 3 v3 (AV.p (.int .i64 1)) fun v38 =>
 K v38 H)
def W77 (v0 : AV) (H : Heap) (K : AV → Heap → Prop) : Prop :=
 lenV tab 37 v0 fun v8 =>
 CallT Tryz.prog 52 [v8, (AV.p (.int .i64 1)), (AV.p (.int .i64 16))] H fun v9 H1 =>
 unV .not v9 fun v10 =>
 condV v10 (K (AV.p (.bool false)) H1)
 (lenV tab 37 v0 fun v12 =>
 L77_0 K (AV.p (.int .i64 0)) v0 v12 (AV.p (.int .i64 0)) H1)
theorem W77_wp (v0 : AV) (H : Heap) (K : AV → Heap → Prop) : wpC Tryz.prog tab D77 (bodyOf Tryz.f77) (retF tab [.tmp 2] K) (nthA [v0]) H = W77 v0 H K := by kernel_rfl
theorem W77_ok {v0 : AV} {H : Heap} {K : AV → Heap → Prop} (h : W77 v0 H K) : CallT Tryz.prog 77 [v0] H K :=
  CallT.of_wp (D := D77) tab_ok mixed Tryz.func77 (c := bodyOf Tryz.f77) (by kernel_rfl) rfl (by kernel_rfl) (rs := #[.tmp 2]) rfl (by decide +kernel) (by kernel_rfl) (W77_wp v0 H K) h
theorem L77_0_rule {K : AV → Heap → Prop} {v3 v11 v12 v13 : AV} {H : Heap} {σ : Type} (s0 : σ) (f3 : σ → AV) (f13 : σ → AV) (TH : σ → Heap) (pre : σ → Prop) (μ : σ → Nat)
    (h0 : pre s0 ∧ AV.wk v3 (f3 s0) ∧ AV.wk v13 (f13 s0) ∧ Heap.le (TH s0) H)
    (round : ∀ s, pre s → B77_0 K (fun w3 w13 H' => ∃ s', pre s' ∧ μ s' < μ s ∧ AV.wk w3 (f3 s') ∧ AV.wk w13 (f13 s') ∧ Heap.le (TH s') H') (f3 s) v11 v12 (f13 s) (TH s)) :
    L77_0 K v3 v11 v12 v13 H := by
  unfold L77_0
  exact LoopV.mk s0 (fun s => [f3 s, f13 s]) TH pre μ (fun _ => rfl) (Eq.mp (by kernel_rfl) h0) (fun s hs => Eq.mp (by kernel_rfl) (round s hs))
/-- loop.example/g00649/spec.l13Tracked -/
def D78 : Info := ⟨36, fun i => ([], []), fun i => if i = 3 then ([10, 11], [3, 12]) else ([], [])⟩
def L78_0 (K : AV → Heap → Prop) (v3 : AV) (v10 : AV) (v11 : AV) (v12 : AV) (H : Heap) : Prop := LoopV (wpC Tryz.prog tab D78 (cAt [1, 1, 0, 1, 0, 0] (bodyOf Tryz.f78))) [10, 11] (PostF.block 0 (PostF.thenA (wpC Tryz.prog tab D78 (cAt [1, 1, 1] (bodyOf Tryz.f78))) (retF tab [.tmp 2] K))) [3, 12] [AV.any, AV.any, AV.any, v3, AV.any, AV.any, AV.any, AV.any, AV.any, AV.any, v10, v11, v12, AV.any, AV.any, AV.any, AV.any, AV.any, AV.any, AV.any, AV.any, AV.any, AV.any, AV.any, AV.any, AV.any, AV.any, AV.any, AV.any, AV.any, AV.any, AV.any, AV.any, AV.any, AV.any, AV.any] H
def J78_1 (K : AV → Heap → Prop) (N1 : AV → AV → Heap → Prop) (v3 : AV) (v4 : AV) (v10 : AV) (v11 : AV) (v12 : AV) (v18 : AV) (v19 : AV) (H : Heap) : Prop :=
 condV v19 (CallT Tryz.prog 123 [v3, v4] H fun v24 H4 =>
 binV tab .sub 3 v4 (AV.p (.int .i64 1)) fun v26 =>
 CallT Tryz.prog 123 [v24, v26] H4 fun v27 H5 =>
 binV tab .add 3 v12 (AV.p (.int .i64 1)) fun v34 =>
 N1 v27 v34 H5)
 (binV tab .eql 3 v18 (AV.p (.int .i64 4)) fun v29 =>
 condV v29 (binV tab .sub 3 v4 (AV.p (.int .i64 1)) fun v32 =>
 CallT Tryz.prog 123 [v3, v32] H fun v33 H6 =>
 binV tab .add 3 v12 (AV.p (.int .i64 1)) fun v34 =>
 N1 v33 v34 H6)
 (binV tab .add 3 v12 (AV.p (.int .i64 1)) fun v34 =>
 N1 v3 v34 H))
def B78_0 (K : AV → Heap → Prop) (N1 : AV → AV → Heap → Prop) (v3 : AV) (v10 : AV) (v11 : AV) (v12 : AV) (H : Heap) : Prop :=
 binV tab .lss 3 v12 v11 fun v13 =>
 condV v13 (indexAddrV tab 37 v10 v12 fun v15 =>
 loadV tab 106 v15 H fun v16 =>
 allocV tab 106 H fun v5 H2 =>
 storeV tab 106 v5 v16 H2 fun H3 =>
 fieldAddrV tab 106 v5 0 fun v17 =>
 loadV tab 3 v17 H3 fun v18 =>
 binV tab .eql 3 v18 (AV.p (.int .i64 7)) fun v20 =>
 condV v20 (J78_1 K N1 v3 v12 v10 v11 v12 v18 v20 H3)
 (binV tab .eql 3 v18 (AV.p (.int .i64 8)) fun v21 =>
 J78_1 K N1 v3 v12 v10 v11 v12 v18 v21 H3))
 (K v3 H)
def W78 (v0 : AV) (H : Heap) (K : AV → Heap → Prop) : Prop :=
 lenV tab 37 v0 fun v7 =>
 binV tab .sub 3 v7 (AV.p (.int .i64 1)) fun v8 =>
 buildSliceV tab 46 1 [(0, v8)] H (wkK fun v9 H1 =>
 lenV tab 37 v0 fun v11 =>
 L78_0 K v9 v0 v11 (AV.p (.int .i64 0)) H1)
theorem W78_wp (v0 : AV) (H : Heap) (K : AV → Heap → Prop) : wpC Tryz.prog tab D78 (bodyOf Tryz.f78) (retF tab [.tmp 2] K) (nthA [v0]) H = W78 v0 H K := by kernel_rfl
theorem W78_ok {v0 : AV} {H : Heap} {K : AV → Heap → Prop} (h : W78 v0 H K) : CallT Tryz.prog 78 [v0] H K :=
  CallT.of_wp (D := D78) tab_ok mixed Tryz.func78 (c := bodyOf Tryz.f78) (by kernel_rfl) rfl (by kernel_rfl) (rs := #[.tmp 2]) rfl (by decide +kernel) (by kernel_rfl) (W78_wp v0 H K) h
theorem L78_0_rule {K : AV → Heap → Prop} {v3 v10 v11 v12 : AV} {H : Heap} {σ : Type} (s0 : σ) (f3 : σ → AV) (f12 : σ → AV) (TH : σ → Heap) (pre : σ → Prop) (μ : σ → Nat)
    (h0 : pre s0 ∧ AV.wk v3 (f3 s0) ∧ AV.wk v12 (f12 s0) ∧ Heap.le (TH s0) H)
    (round : ∀ s, pre s → B78_0 K (fun w3 w12 H' => ∃ s', pre s' ∧ μ s' < μ s ∧ AV.wk w3 (f3 s') ∧ AV.wk w12 (f12 s') ∧ Heap.le (TH s') H') (f3 s) v10 v11 (f12 s) (TH s)) :
    L78_0 K v3 v10 v11 v12 H := by
  unfold L78_0
  exact LoopV.mk s0 (fun s => [f3 s, f12 s]) TH pre μ (fun _ => rfl) (Eq.mp (by kernel_rfl) h0) (fun s hs => Eq.mp (by kernel_rfl) (round s hs))
end Go.Proofs.YtgcklgeifdefhaaGreat
/- What each function's code is asked for, as a formula. Written by wgen.py (a program of this session's) out of Lean's print of the program. -/
namespace Go.Proofs.YtgcklgeifdefhaaGreat
open Go Go.Sep
set_option linter.unusedVariables false
attribute [local irreducible] wpC headF
/-- loop.example/g00649/spec.l2Kind -/
def D79 : Info := ⟨83, fun i => ([], []), fun i => if i = 5 then ([0, 1, 27, 28], [7, 29]) else if i = 10 then ([0, 1, 11, 12, 27, 28, 29], [7, 10]) else ([], [])⟩
def L79_0 (K : AV → Heap → Prop) (v0 : AV) (v1 : AV) (v7 : AV) (v27 : AV) (v28 : AV) (v29 : AV) (H : Heap) : Prop := LoopV (wpC Tryz.prog tab D79 (cAt [1, 1, 1, 0, 1, 0, 0] (bodyOf Tryz.f79))) [0, 1, 27, 28] (PostF.block 0 (PostF.thenA (wpC Tryz.prog tab D79 (cAt [1, 1, 1, 1] (bodyOf Tryz.f79))) (retF tab [.tmp 6] K))) [7, 29] [v0, v1, AV.any, AV.any, AV.any, AV.any, AV.any, v7, AV.any, AV.any, AV.any, AV.any, AV.any, AV.any, AV.any, AV.any, AV.any, AV.any, AV.any, AV.any, AV.any, AV.any, AV.any, AV.any, AV.any, AV.any, AV.any, v27, v28, v29, AV.any, AV.any, AV.any, AV.any, AV.any, AV.any, AV.any, AV.any, AV.any, AV.any, AV.any, AV.any, AV.any, AV.any, AV.any, AV.any, AV.any, AV.any, AV.any, AV.any, AV.any, AV.any, AV.any, AV.any, AV.any, AV.any, AV.any, AV.any, AV.any, AV.any, AV.any, AV.any, AV.any, AV.any, AV.any, AV.any, AV.any, AV.any, AV.any, AV.any, AV.any, AV.any, AV.any, AV.any, AV.any, AV.any, AV.any, AV.any, AV.any, AV.any, AV.any, AV.any, AV.any] H
def L79_1 (K : AV → Heap → Prop) (N1 : AV → AV → Heap → Prop) (v0 : AV) (v1 : AV) (v7 : AV) (v10 : AV) (v11 : AV) (v12 : AV) (v27 : AV) (v28 : AV) (v29 : AV) (H : Heap) : Prop := LoopV (wpC Tryz.prog tab D79 (cAt [1, 1, 1, 0, 1, 0, 0, 1, 1, 0, 0, 1, 1, 1, 0, 0, 0] (bodyOf Tryz.f79))) [0, 1, 11, 12, 27, 28, 29] (PostF.block 2 (PostF.thenA (wpC Tryz.prog tab D79 (cAt [1, 1, 1, 0, 1, 0, 0, 1, 1, 0, 0, 1, 1, 1, 1] (bodyOf Tryz.f79))) (PostF.block 1 (PostF.thenA (wpC Tryz.prog tab D79 (cAt [1, 1, 1, 0, 1, 0, 0, 1, 1, 1] (bodyOf Tryz.f79))) (loopF (PostF.block 0 (PostF.thenA (wpC Tryz.prog tab D79 (cAt [1, 1, 1, 1] (bodyOf Tryz.f79))) (retF tab [.tmp 6] K))) (fun e h => N1 (e 7) (e 29) h)))))) [7, 10] [v0, v1, AV.any, AV.any, AV.any, AV.any, AV.any, v7, AV.any, AV.any, v10, v11, v12, AV.any, AV.any, AV.any, AV.any, AV.any, AV.any, AV.any, AV.any, AV.any, AV.any, AV.any, AV.any, AV.any, AV.any, v27, v28, v29, AV.any, AV.any, AV.any, AV.any, AV.any, AV.any, AV.any, AV.any, AV.any, AV.any, AV.any, AV.any, AV.any, AV.any, AV.any, AV.any, AV.any, AV.any, AV.any, AV.any, AV.any, AV.any, AV.any, AV.any, AV.any, AV.any, AV.any, AV.any, AV.any, AV.any, AV.any, AV.any, AV.any, AV.any, AV.any, AV.any, AV.any, AV.any, AV.any, AV.any, AV.any, AV.any, AV.any, AV.any, AV.any, AV.any, AV.any, AV.any, AV.any, AV.any, AV.any, AV.any, AV.any] H
def B79_1 (K : AV → Heap → Prop) (N1 : AV → AV → Heap → Prop) (N2 : AV → AV → Heap → Prop) (v0 : AV) (v1 : AV) (v7 : AV) (v10 : AV) (v11 : AV) (v12 : AV) (v27 : AV) (v28 : AV) (v29 : AV) (H : Heap) : Prop :=
 binV tab .gtr 3 v10 (AV.p (.int .i64 0)) fun v56 =>
 condV v56 (lenV tab 46 v7 fun v61 =>
 binV tab .sub 3 v61 (AV.p (.int .i64 1)) fun v62 =>
 indexAddrV tab 46 v7 v62 fun v63 =>
 loadV tab 3 v63 H fun v64 =>
 binV tab .neq 3 v64 v11 fun v66 =>
 condV v66 (K (AV.p (.int .i64 0)) H)
 (lenV tab 46 v7 fun v69 =>
 binV tab .sub 3 v69 (AV.p (.int .i64 1)) fun v70 =>
 sliceV tab 46 v7 none (some v70) none fun v71 =>
 binV tab .sub 3 v10 (AV.p (.int .i64 1)) fun v58 =>
 N2 v71 v58 H))
 (buildSliceV tab 46 1 [(0, v12)] H (wkK fun v74 H8 =>
 appendV tab 46 46 v7 v74 H8 (wkK fun v75 H9 =>
 binV tab .add 3 v29 (AV.p (.int .i64 1)) fun v76 =>
 N1 v75 v76 H9)))
def B79_0 (K : AV → Heap → Prop) (N1 : AV → AV → Heap → Prop) (v0 : AV) (v1 : AV) (v7 : AV) (v27 : AV) (v28 : AV) (v29 : AV) (H : Heap) : Prop :=
 binV tab .lss 3 v29 v28 fun v30 =>
 condV v30 (indexAddrV tab 32 v27 v29 fun v31 =>
 loadV tab 155 v31 H fun v32 =>
 allocV tab 155 H fun v9 H4 =>
 storeV tab 155 v9 v32 H4 fun H5 =>
 fieldAddrV tab 155 v9 0 fun v34 =>
 loadV tab 3 v34 H5 fun v35 =>
 CallT Tryz.prog 125 [v35] H5 fun v36 H6 =>
 extractV v36 0 fun v37 =>
 extractV v36 1 fun v38 =>
 extractV v36 2 fun v39 =>
 binV tab .eql 3 v39 (AV.p (.int .i64 0)) fun v41 =>
 grdV v41 false (loadV tab 155 v9 H6 fun v45 =>
 CallT Tryz.prog 126 [v0, v1, v45] H6 fun v46 H7 =>
 unV .not v46 fun v47 =>
 grdV v47 false (lenV tab 46 v7 fun v51 =>
 binV tab .lss 3 v51 v37 fun v53 =>
 condV v53 (K (AV.p (.int .i64 0)) H7)
 (L79_1 K N1 v0 v1 v7 v37 v38 v39 v27 v28 v29 H7))
 (K (AV.p (.int .i64 0)) H7))
 (K (AV.p (.int .i64 0)) H6))
 (lenV tab 46 v7 fun v78 =>
 binV tab .neq 3 v78 (AV.p (.int .i64 1)) fun v79 =>
 condV v79 (K (AV.p (.int .i64 0)) H)
 (indexAddrV tab 46 v7 (AV.p (.int .i64 0)) fun v81 =>
 loadV tab 3 v81 H fun v82 =>
 K v82 H))
def W79 (v0 : AV) (v1 : AV) (v2 : AV) (H : Heap) (K : AV → Heap → Prop) : Prop :=
 CallT Tryz.prog 124 [v0] H fun v14 H1 =>
 unV .not v14 fun v15 =>
 grdV v15 false (CallT Tryz.prog 52 [v1, (AV.p (.int .i64 1)), (AV.p (.int .i64 4))] H1 fun v18 H2 =>
 unV .not v18 fun v19 =>
 grdV v19 false (lenV tab 32 v2 fun v23 =>
 CallT Tryz.prog 52 [v23, (AV.p (.int .i64 1)), (AV.p (.int .i64 48))] H2 fun v24 H3 =>
 unV .not v24 fun v25 =>
 condV v25 (K (AV.p (.int .i64 0)) H3)
 (lenV tab 32 v2 fun v28 =>
 L79_0 K v0 v1 (AV.p .nil) v2 v28 (AV.p (.int .i64 0)) H3))
 (K (AV.p (.int .i64 0)) H2))
 (K (AV.p (.int .i64 0)) H1)
theorem W79_wp (v0 : AV) (v1 : AV) (v2 : AV) (H : Heap) (K : AV → Heap → Prop) : wpC Tryz.prog tab D79 (bodyOf Tryz.f79) (retF tab [.tmp 6] K) (nthA [v0, v1, v2]) H = W79 v0 v1 v2 H K := by kernel_rfl
theorem W79_ok {v0 v1 v2 : AV} {H : Heap} {K : AV → Heap → Prop} (h : W79 v0 v1 v2 H K) : CallT Tryz.prog 79 [v0, v1, v2] H K :=
  CallT.of_wp (D := D79) tab_ok mixed Tryz.func79 (c := bodyOf Tryz.f79) (by kernel_rfl) rfl (by kernel_rfl) (rs := #[.tmp 6]) rfl (by decide +kernel) (by kernel_rfl) (W79_wp v0 v1 v2 H K) h
theorem W79_hb : HasBody Tryz.prog 79 := ⟨_, bodyOf Tryz.f79, Tryz.func79, by kernel_rfl, rfl⟩
theorem L79_1_rule {K : AV → Heap → Prop} {N1 : AV → AV → Heap → Prop} {v0 v1 v7 v10 v11 v12 v27 v28 v29 : AV} {H : Heap} {σ : Type} (s0 : σ) (f7 : σ → AV) (f10 : σ → AV) (TH : σ → Heap) (pre : σ → Prop) (μ : σ → Nat)
    (h0 : pre s0 ∧ AV.wk v7 (f7 s0) ∧ AV.wk v10 (f10 s0) ∧ Heap.le (TH s0) H)
    (round : ∀ s, pre s → B79_1 K N1 (fun w7 w10 H' => ∃ s', pre s' ∧ μ s' < μ s ∧ AV.wk w7 (f7 s') ∧ AV.wk w10 (f10 s') ∧ Heap.le (TH s') H') v0 v1 (f7 s) (f10 s) v11 v12 v27 v28 v29 (TH s)) :
    L79_1 K N1 v0 v1 v7 v10 v11 v12 v27 v28 v29 H := by
  unfold L79_1
  exact LoopV.mk s0 (fun s => [f7 s, f10 s]) TH pre μ (fun _ => rfl) (Eq.mp (by kernel_rfl) h0) (fun s hs => Eq.mp (by kernel_rfl) (round s hs))
theorem L79_0_rule {K : AV → Heap → Prop} {v0 v1 v7 v27 v28 v29 : AV} {H : Heap} {σ : Type} (s0 : σ) (f7 : σ → AV) (f29 : σ → AV) (TH : σ → Heap) (pre : σ → Prop) (μ : σ → Nat)
    (h0 : pre s0 ∧ AV.wk v7 (f7 s0) ∧ AV.wk v29 (f29 s0) ∧ Heap.le (TH s0) H)
    (round : ∀ s, pre s → B79_0 K (fun w7 w29 H' => ∃ s', pre s' ∧ μ s' < μ s ∧ AV.wk w7 (f7 s') ∧ AV.wk w29 (f29 s') ∧ Heap.le (TH s') H') v0 v1 (f7 s) v27 v28 (f29 s) (TH s)) :
    L79_0 K v0 v1 v7 v27 v28 v29 H := by
  unfold L79_0
  exact LoopV.mk s0 (fun s => [f7 s, f29 s]) TH pre μ (fun _ => rfl) (Eq.mp (by kernel_rfl) h0) (fun s hs => Eq.mp (by kernel_rfl) (round s hs))
/-- loop.example/g00649/laws.toNodeS -/
def D80 : Info := ⟨23, fun i => ([], []), fun i => if i = 3 then ([0, 3], [4]) else ([], [])⟩
def L80_0 (K : AV → Heap → Prop) (v0 : AV) (v3 : AV) (v4 : AV) (H : Heap) : Prop := LoopV (wpC Tryz.prog tab D80 (cAt [1, 1, 0, 1, 0, 0] (bodyOf Tryz.f80))) [0, 3] (PostF.block 0 (PostF.thenA (wpC Tryz.prog tab D80 (cAt [1, 1, 1] (bodyOf Tryz.f80))) (retF tab [.tmp 2] K))) [4] [v0, AV.any, AV.any, v3, v4, AV.any, AV.any, AV.any, AV.any, AV.any, AV.any, AV.any, AV.any, AV.any, AV.any, AV.any, AV.any, AV.any, AV.any, AV.any, AV.any, AV.any, AV.any] H
def B80_0 (K : AV → Heap → Prop) (N1 : AV → Heap → Prop) (v0 : AV) (v3 : AV) (v4 : AV) (H : Heap) : Prop :=
 lenV tab 22 v0 fun v10 =>
 binV tab .lss 3 v4 v10 fun v11 =>
 condV v11 (indexAddrV tab 22 v0 v4 fun v18 =>
 loadV tab 160 v18 H fun v19 =>
 CallT Tryz.prog 127 [v19] H fun v20 H2 =>
 indexAddrV tab 32 v3 v4 fun v21 =>
 storeV tab 155 v21 v20 H2 fun H3 =>
 binV tab .add 3 v4 (AV.p (.int .i64 1)) fun v13 =>
 N1 v13 H3)
 (K v3 H)
def W80 (v0 : AV) (H : Heap) (K : AV → Heap → Prop) : Prop :=
 lenV tab 22 v0 fun v6 =>
 makeSliceV tab 32 v6 v6 H fun v7 H1 =>
 L80_0 K v0 v7 (AV.p (.int .i64 0)) H1
theorem W80_wp (v0 : AV) (H : Heap) (K : AV → Heap → Prop) : wpC Tryz.prog tab D80 (bodyOf Tryz.f80) (retF tab [.tmp 2] K) (nthA [v0]) H = W80 v0 H K := by kernel_rfl
theorem W80_ok {v0 : AV} {H : Heap} {K : AV → Heap → Prop} (h : W80 v0 H K) : CallT Tryz.prog 80 [v0] H K :=
  CallT.of_wp (D := D80) tab_ok mixed Tryz.func80 (c := bodyOf Tryz.f80) (by kernel_rfl) rfl (by kernel_rfl) (rs := #[.tmp 2]) rfl (by decide +kernel) (by kernel_rfl) (W80_wp v0 H K) h
theorem L80_0_rule {K : AV → Heap → Prop} {v0 v3 v4 : AV} {H : Heap} {σ : Type} (s0 : σ) (f4 : σ → AV) (TH : σ → Heap) (pre : σ → Prop) (μ : σ → Nat)
    (h0 : pre s0 ∧ AV.wk v4 (f4 s0) ∧ Heap.le (TH s0) H)
    (round : ∀ s, pre s → B80_0 K (fun w4 H' => ∃ s', pre s' ∧ μ s' < μ s ∧ AV.wk w4 (f4 s') ∧ Heap.le (TH s') H') v0 v3 (f4 s) (TH s)) :
    L80_0 K v0 v3 v4 H := by
  unfold L80_0
  exact LoopV.mk s0 (fun s => [f4 s]) TH pre μ (fun _ => rfl) (Eq.mp (by kernel_rfl) h0) (fun s hs => Eq.mp (by kernel_rfl) (round s hs))
/-- loop.example/g00649/laws.toCommandS -/
def D81 : Info := ⟨23, fun i => ([], []), fun i => if i = 3 then ([0, 3], [4]) else ([], [])⟩
def L81_0 (K : AV → Heap → Prop) (v0 : AV) (v3 : AV) (v4 : AV) (H : Heap) : Prop := LoopV (wpC Tryz.prog tab D81 (cAt [1, 1, 0, 1, 0, 0] (bodyOf Tryz.f81))) [0, 3] (PostF.block 0 (PostF.thenA (wpC Tryz.prog tab D81 (cAt [1, 1, 1] (bodyOf Tryz.f81))) (retF tab [.tmp 2] K))) [4] [v0, AV.any, AV.any, v3, v4, AV.any, AV.any, AV.any, AV.any, AV.any, AV.any, AV.any, AV.any, AV.any, AV.any, AV.any, AV.any, AV.any, AV.any, AV.any, AV.any, AV.any, AV.any] H
def B81_0 (K : AV → Heap → Prop) (N1 : AV → Heap → Prop) (v0 : AV) (v3 : AV) (v4 : AV) (H : Heap) : Prop :=
 lenV tab 23 v0 fun v10 =>
 binV tab .lss 3 v4 v10 fun v11 =>
 condV v11 (indexAddrV tab 23 v0 v4 fun v18 =>
 loadV tab 147 v18 H fun v19 =>
 CallT Tryz.prog 128 [v19] H fun v20 H2 =>
 indexAddrV tab 33 v3 v4 fun v21 =>
 storeV tab 150 v21 v20 H2 fun H3 =>
 binV tab .add 3 v4 (AV.p (.int .i64 1)) fun v13 =>
 N1 v13 H3)
 (K v3 H)
def W81 (v0 : AV) (H : Heap) (K : AV → Heap → Prop) : Prop :=
 lenV tab 23 v0 fun v6 =>
 makeSliceV tab 33 v6 v6 H fun v7 H1 =>
 L81_0 K v0 v7 (AV.p (.int .i64 0)) H1
theorem W81_wp (v0 : AV) (H : Heap) (K : AV → Heap → Prop) : wpC Tryz.prog tab D81 (bodyOf Tryz.f81) (retF tab [.tmp 2] K) (nthA [v0]) H = W81 v0 H K := by kernel_rfl
theorem W81_ok {v0 : AV} {H : Heap} {K : AV → Heap → Prop} (h : W81 v0 H K) : CallT Tryz.prog 81 [v0] H K :=
  CallT.of_wp (D := D81) tab_ok mixed Tryz.func81 (c := bodyOf Tryz.f81) (by kernel_rfl) rfl (by kernel_rfl) (rs := #[.tmp 2]) rfl (by decide +kernel) (by kernel_rfl) (W81_wp v0 H K) h
theorem L81_0_rule {K : AV → Heap → Prop} {v0 v3 v4 : AV} {H : Heap} {σ : Type} (s0 : σ) (f4 : σ → AV) (TH : σ → Heap) (pre : σ → Prop) (μ : σ → Nat)
    (h0 : pre s0 ∧ AV.wk v4 (f4 s0) ∧ Heap.le (TH s0) H)
    (round : ∀ s, pre s → B81_0 K (fun w4 H' => ∃ s', pre s' ∧ μ s' < μ s ∧ AV.wk w4 (f4 s') ∧ Heap.le (TH s') H') v0 v3 (f4 s) (TH s)) :
    L81_0 K v0 v3 v4 H := by
  unfold L81_0
  exact LoopV.mk s0 (fun s => [f4 s]) TH pre μ (fun _ => rfl) (Eq.mp (by kernel_rfl) h0) (fun s hs => Eq.mp (by kernel_rfl) (round s hs))
/-- loop.example/g00649/laws.toSaid -/
def D82 : Info := ⟨11, fun i => ([], []), fun i => ([], [])⟩
def W82 (v0 : AV) (H : Heap) (K : AV → Heap → Prop) : Prop :=
 boxV v0 H fun v1 H1 =>
 allocV tab 106 H1 fun v2 H2 =>
 allocV tab 106 H2 fun v3 H3 =>
 fieldAddrV tab 108 v1 0 fun v4 =>
 loadV tab 3 v4 H3 fun v5 =>
 fieldAddrV tab 106 v3 0 fun v6 =>
 storeV tab 3 v6 v5 H3 fun H4 =>
 fieldAddrV tab 108 v1 1 fun v7 =>
 loadV tab 3 v7 H4 fun v8 =>
 fieldAddrV tab 106 v3 1 fun v9 =>
 storeV tab 3 v9 v8 H4 fun H5 =>
 loadV tab 106 v3 H5 fun v10 =>
 storeV tab 106 v2 v10 H5 fun H6 =>
 loadV tab 106 v2 H6 fun r0 =>
 K r0 H6
theorem W82_wp (v0 : AV) (H : Heap) (K : AV → Heap → Prop) : wpC Tryz.prog tab D82 (bodyOf Tryz.f82) (retF tab [.cell 2 106] K) (nthA [v0]) H = W82 v0 H K := by kernel_rfl
theorem W82_ok {v0 : AV} {H : Heap} {K : AV → Heap → Prop} (h : W82 v0 H K) : CallT Tryz.prog 82 [v0] H K :=
  CallT.of_wp (D := D82) tab_ok mixed Tryz.func82 (c := bodyOf Tryz.f82) (by kernel_rfl) rfl (by kernel_rfl) (rs := #[.cell 2 106]) rfl (by decide +kernel) (by kernel_rfl) (W82_wp v0 H K) h
/-- loop.example/g00649/impl.GoodProgram -/
def D83 : Info := ⟨37, fun i => ([], []), fun i => ([], [])⟩
def W83 (v0 : AV) (H : Heap) (K : AV → Heap → Prop) : Prop :=
 boxV v0 H fun v1 H1 =>
 fieldAddrV tab 35 v1 0 fun v3 =>
 loadV tab 3 v3 H1 fun v4 =>
 CallT Tryz.prog 129 [v4] H1 fun v5 H2 =>
 unV .not v5 fun v6 =>
 grdV v6 false (fieldAddrV tab 35 v1 1 fun v8 =>
 loadV tab 3 v8 H2 fun v9 =>
 CallT Tryz.prog 130 [v9] H2 fun v10 H3 =>
 unV .not v10 fun v11 =>
 grdV v11 false (loadV tab 35 v1 H3 fun v14 =>
 fieldAddrV tab 35 v1 2 fun v15 =>
 loadV tab 32 v15 H3 fun v16 =>
 CallT Tryz.prog 48 [v14, v16] H3 fun v17 H4 =>
 unV .not v17 fun v18 =>
 grdV v18 false (fieldAddrV tab 35 v1 3 fun v21 =>
 loadV tab 33 v21 H4 fun v22 =>
 lenV tab 33 v22 fun v23 =>
 binV tab .lss 3 v23 (AV.p (.int .i64 1)) fun v24 =>
 grdV v24 false (fieldAddrV tab 35 v1 3 fun v27 =>
 loadV tab 33 v27 H4 fun v28 =>
 lenV tab 33 v28 fun v29 =>
 binV tab .gtr 3 v29 (AV.p (.int .i64 6)) fun v30 =>
 condV v30 (K (AV.p (.bool false)) H4)
 (fieldAddrV tab 35 v1 3 fun v32 =>
 loadV tab 33 v32 H4 fun v33 =>
 CallT Tryz.prog 131 [v33, (.fn 132 [v1])] H4 fun v35 H5 =>
 unV .not v35 fun v36 =>
 K v36 H5))
 (K (AV.p (.bool false)) H4))
 (K (AV.p (.bool false)) H4))
 (K (AV.p (.bool false)) H3))
 (K (AV.p (.bool false)) H2)
theorem W83_wp (v0 : AV) (H : Heap) (K : AV → Heap → Prop) : wpC Tryz.prog tab D83 (bodyOf Tryz.f83) (retF tab [.tmp 2] K) (nthA [v0]) H = W83 v0 H K := by kernel_rfl
theorem W83_ok {v0 : AV} {H : Heap} {K : AV → Heap → Prop} (h : W83 v0 H K) : CallT Tryz.prog 83 [v0] H K :=
  CallT.of_wp (D := D83) tab_ok mixed Tryz.func83 (c := bodyOf Tryz.f83) (by kernel_rfl) rfl (by kernel_rfl) (rs := #[.tmp 2]) rfl (by decide +kernel) (by kernel_rfl) (W83_wp v0 H K) h
/-- loop.example/g00649/impl.GoodSaid -/
def D84 : Info := ⟨39, fun i => ([], []), fun i => if i = 5 then ([15, 16], [3, 17]) else ([], [])⟩
def L84_0 (K : AV → Heap → Prop) (v3 : AV) (v15 : AV) (v16 : AV) (v17 : AV) (H : Heap) : Prop := LoopV (wpC Tryz.prog tab D84 (cAt [1, 1, 1, 0, 1, 0, 0] (bodyOf Tryz.f84))) [15, 16] (PostF.block 0 (PostF.thenA (wpC Tryz.prog tab D84 (cAt [1, 1, 1, 1] (bodyOf Tryz.f84))) (retF tab [.tmp 2] K))) [3, 17] [AV.any, AV.any, AV.any, v3, AV.any, AV.any, AV.any, AV.any, AV.any, AV.any, AV.any, AV.any, AV.any, AV.any, AV.any, v15, v16, v17, AV.any, AV.any, AV.any, AV.any, AV.any, AV.any, AV.any, AV.any, AV.any, AV.any, AV.any, AV.any, AV.any, AV.any, AV.any, AV.any, AV.any, AV.any, AV.any, AV.any, AV.any] H
def B84_0 (K : AV → Heap → Prop) (N1 : AV → AV → Heap → Prop) (v3 : AV) (v15 : AV) (v16 : AV) (v17 : AV) (H : Heap) : Prop :=
 binV tab .lss 3 v17 v16 fun v18 =>
 condV v18 (indexAddrV tab 37 v15 v17 fun v19 =>
 loadV tab 106 v19 H fun v20 =>
 allocV tab 106 H fun v5 H1 =>
 storeV tab 106 v5 v20 H1 fun H2 =>
 fieldAddrV tab 106 v5 0 fun v21 =>
 loadV tab 3 v21 H2 fun v22 =>
 CallT Tryz.prog 134 [v22] H2 fun v23 H3 =>
 loadV tab 106 v5 H3 fun v24 =>
 CallT Tryz.prog 135 [v24] H3 fun v25 H4 =>
 unV .not v25 fun v26 =>
 grdV v26 false (binV tab .lss 3 v3 v23 fun v30 =>
 condV v30 (K (AV.p (.bool false)) H4)
 (binV tab .sub 3 (AV.p (.int .i64 1)) v23 fun v34 =>
 binV tab .add 3 v3 v34 fun v35 =>
 binV tab .add 3 v17 (AV.p (.int .i64 1)) fun v36 =>
 N1 v35 v36 H4))
 (K (AV.p (.bool false)) H4))
 (binV tab .eql 3 v3 (AV.p (.int .i64 1)) fun v38 =>
 K v38 H)
def W84 (v0 : AV) (H : Heap) (K : AV → Heap → Prop) : Prop :=
 lenV tab 37 v0 fun v8 =>
 binV tab .lss 3 v8 (AV.p (.int .i64 1)) fun v9 =>
 grdV v9 false (lenV tab 37 v0 fun v12 =>
 binV tab .gtr 3 v12 (AV.p (.int .i64 16)) fun v13 =>
 condV v13 (K (AV.p (.bool false)) H)
 (lenV tab 37 v0 fun v16 =>
 L84_0 K (AV.p (.int .i64 0)) v0 v16 (AV.p (.int .i64 0)) H))
 (K (AV.p (.bool false)) H)
theorem W84_wp (v0 : AV) (H : Heap) (K : AV → Heap → Prop) : wpC Tryz.prog tab D84 (bodyOf Tryz.f84) (retF tab [.tmp 2] K) (nthA [v0]) H = W84 v0 H K := by kernel_rfl
theorem W84_ok {v0 : AV} {H : Heap} {K : AV → Heap → Prop} (h : W84 v0 H K) : CallT Tryz.prog 84 [v0] H K :=
  CallT.of_wp (D := D84) tab_ok mixed Tryz.func84 (c := bodyOf Tryz.f84) (by kernel_rfl) rfl (by kernel_rfl) (rs := #[.tmp 2]) rfl (by decide +kernel) (by kernel_rfl) (W84_wp v0 H K) h
theorem L84_0_rule {K : AV → Heap → Prop} {v3 v15 v16 v17 : AV} {H : Heap} {σ : Type} (s0 : σ) (f3 : σ → AV) (f17 : σ → AV) (TH : σ → Heap) (pre : σ → Prop) (μ : σ → Nat)
    (h0 : pre s0 ∧ AV.wk v3 (f3 s0) ∧ AV.wk v17 (f17 s0) ∧ Heap.le (TH s0) H)
    (round : ∀ s, pre s → B84_0 K (fun w3 w17 H' => ∃ s', pre s' ∧ μ s' < μ s ∧ AV.wk w3 (f3 s') ∧ AV.wk w17 (f17 s') ∧ Heap.le (TH s') H') (f3 s) v15 v16 (f17 s) (TH s)) :
    L84_0 K v3 v15 v16 v17 H := by
  unfold L84_0
  exact LoopV.mk s0 (fun s => [f3 s, f17 s]) TH pre μ (fun _ => rfl) (Eq.mp (by kernel_rfl) h0) (fun s hs => Eq.mp (by kernel_rfl) (round s hs))
/-- loop.example/g00649/impl.tracked -/
def D85 : Info := ⟨51, fun i => ([], []), fun i => if i = 3 then ([4, 13, 14], [3, 15]) else ([], [])⟩
def L85_0 (K : AV → Heap → Prop) (v3 : AV) (v4 : AV) (v13 : AV) (v14 : AV) (v15 : AV) (H : Heap) : Prop := LoopV (wpC Tryz.prog tab D85 (cAt [1, 1, 0, 1, 0, 0] (bodyOf Tryz.f85))) [4, 13, 14] (PostF.block 0 (PostF.thenA (wpC Tryz.prog tab D85 (cAt [1, 1, 1] (bodyOf Tryz.f85))) (retF tab [.tmp 2] K))) [3, 15] [AV.any, AV.any, AV.any, v3, v4, AV.any, AV.any, AV.any, AV.any, AV.any, AV.any, AV.any, AV.any, v13, v14, v15, AV.any, AV.any, AV.any, AV.any, AV.any, AV.any, AV.any, AV.any, AV.any, AV.any, AV.any, AV.any, AV.any, AV.any, AV.any, AV.any, AV.any, AV.any, AV.any, AV.any, AV.any, AV.any, AV.any, AV.any, AV.any, AV.any, AV.any, AV.any, AV.any, AV.any, AV.any, AV.any, AV.any, AV.any, AV.any] H
def J85_1 (K : AV → Heap → Prop) (N1 : AV → AV → Heap → Prop) (v3 : AV) (v4 : AV) (v5 : AV) (v13 : AV) (v14 : AV) (v15 : AV) (v21 : AV) (v22 : AV) (H : Heap) : Prop :=
 condV v22 (indexAddrV tab 60 v4 v5 fun v29 =>
 loadV tab 46 v29 H fun v30 =>
 indexAddrV tab 46 v30 (AV.p (.int .i64 1)) fun v31 =>
 loadV tab 3 v31 H fun v32 =>
 buildSliceV tab 46 2 [(0, v5), (1, v32)] H (wkK fun v33 H5 =>
 appendV tab 46 46 v3 v33 H5 (wkK fun v34 H6 =>
 binV tab .add 3 v15 (AV.p (.int .i64 1)) fun v46 =>
 N1 v34 v46 H6)))
 (binV tab .eql 3 v21 (AV.p (.int .i64 4)) fun v36 =>
 condV v36 (indexAddrV tab 60 v4 v5 fun v40 =>
 loadV tab 46 v40 H fun v41 =>
 indexAddrV tab 46 v41 (AV.p (.int .i64 0)) fun v42 =>
 loadV tab 3 v42 H fun v43 =>
 buildSliceV tab 46 1 [(0, v43)] H (wkK fun v44 H7 =>
 appendV tab 46 46 v3 v44 H7 (wkK fun v45 H8 =>
 binV tab .add 3 v15 (AV.p (.int .i64 1)) fun v46 =>
 N1 v45 v46 H8)))
 (binV tab .add 3 v15 (AV.p (.int .i64 1)) fun v46 =>
 N1 v3 v46 H))
def B85_0 (K : AV → Heap → Prop) (N1 : AV → AV → Heap → Prop) (v3 : AV) (v4 : AV) (v13 : AV) (v14 : AV) (v15 : AV) (H : Heap) : Prop :=
 binV tab .lss 3 v15 v14 fun v16 =>
 condV v16 (indexAddrV tab 37 v13 v15 fun v18 =>
 loadV tab 106 v18 H fun v19 =>
 allocV tab 106 H fun v6 H3 =>
 storeV tab 106 v6 v19 H3 fun H4 =>
 fieldAddrV tab 106 v6 0 fun v20 =>
 loadV tab 3 v20 H4 fun v21 =>
 binV tab .eql 3 v21 (AV.p (.int .i64 7)) fun v23 =>
 condV v23 (J85_1 K N1 v3 v4 v15 v13 v14 v15 v21 v23 H4)
 (binV tab .eql 3 v21 (AV.p (.int .i64 8)) fun v24 =>
 J85_1 K N1 v3 v4 v15 v13 v14 v15 v21 v24 H4))
 (CallT Tryz.prog 137 [v3] H fun v48 H9 =>
 CallT Tryz.prog 138 [v3] H9 fun v50 H10 =>
 K v50 H10)
def W85 (v0 : AV) (H : Heap) (K : AV → Heap → Prop) : Prop :=
 lenV tab 37 v0 fun v8 =>
 binV tab .sub 3 v8 (AV.p (.int .i64 1)) fun v9 =>
 buildSliceV tab 46 1 [(0, v9)] H (wkK fun v10 H1 =>
 CallT Tryz.prog 136 [v0] H1 fun v12 H2 =>
 lenV tab 37 v0 fun v14 =>
 L85_0 K v10 v12 v0 v14 (AV.p (.int .i64 0)) H2)
theorem W85_wp (v0 : AV) (H : Heap) (K : AV → Heap → Prop) : wpC Tryz.prog tab D85 (bodyOf Tryz.f85) (retF tab [.tmp 2] K) (nthA [v0]) H = W85 v0 H K := by kernel_rfl
theorem W85_ok {v0 : AV} {H : Heap} {K : AV → Heap → Prop} (h : W85 v0 H K) : CallT Tryz.prog 85 [v0] H K :=
  CallT.of_wp (D := D85) tab_ok mixed Tryz.func85 (c := bodyOf Tryz.f85) (by kernel_rfl) rfl (by kernel_rfl) (rs := #[.tmp 2]) rfl (by decide +kernel) (by kernel_rfl) (W85_wp v0 H K) h
theorem L85_0_rule {K : AV → Heap → Prop} {v3 v4 v13 v14 v15 : AV} {H : Heap} {σ : Type} (s0 : σ) (f3 : σ → AV) (f15 : σ → AV) (TH : σ → Heap) (pre : σ → Prop) (μ : σ → Nat)
    (h0 : pre s0 ∧ AV.wk v3 (f3 s0) ∧ AV.wk v15 (f15 s0) ∧ Heap.le (TH s0) H)
    (round : ∀ s, pre s → B85_0 K (fun w3 w15 H' => ∃ s', pre s' ∧ μ s' < μ s ∧ AV.wk w3 (f3 s') ∧ AV.wk w15 (f15 s') ∧ Heap.le (TH s') H') (f3 s) v4 v13 v14 (f15 s) (TH s)) :
    L85_0 K v3 v4 v13 v14 v15 H := by
  unfold L85_0
  exact LoopV.mk s0 (fun s => [f3 s, f15 s]) TH pre μ (fun _ => rfl) (Eq.mp (by kernel_rfl) h0) (fun s hs => Eq.mp (by kernel_rfl) (round s hs))
/-- slices.IndexFunc[[][]loop.example/g00649/impl.Node,[]loop.example/g00649/impl.Node] -/
def D86 : Info := ⟨19, fun i => ([], []), fun i => if i = 2 then ([0, 1, 7], [8]) else ([], [])⟩
def L86_0 (K : AV → Heap → Prop) (v0 : AV) (v1 : AV) (v7 : AV) (v8 : AV) (H : Heap) : Prop := LoopV (wpC Tryz.prog tab D86 (cAt [1, 0, 1, 0, 0] (bodyOf Tryz.f86))) [0, 1, 7] (PostF.block 0 (PostF.thenA (wpC Tryz.prog tab D86 (cAt [1, 1] (bodyOf Tryz.f86))) (retF tab [.tmp 4] K))) [8] [v0, v1, AV.any, AV.any, AV.any, AV.any, AV.any, v7, v8, AV.any, AV.any, AV.any, AV.any, AV.any, AV.any, AV.any, AV.any, AV.any, AV.any] H
def B86_0 (K : AV → Heap → Prop) (N1 : AV → Heap → Prop) (v0 : AV) (v1 : AV) (v7 : AV) (v8 : AV) (H : Heap) : Prop :=
 binV tab .lss 3 v8 v7 fun v9 =>
 condV v9 (indexAddrV tab 36 v0 v8 fun v14 =>
 loadV tab 32 v14 H fun v15 =>
 callF Tryz.prog v1 [v15] H fun v16 H1 =>
 condV v16 (K v8 H1)
 (binV tab .add 3 v8 (AV.p (.int .i64 1)) fun v18 =>
 N1 v18 H1))
 (K (AV.p (.int .i64 (-1))) H)
def W86 (v0 : AV) (v1 : AV) (H : Heap) (K : AV → Heap → Prop) : Prop :=
 lenV tab 36 v0 fun v7 =>
 L86_0 K v0 v1 v7 (AV.p (.int .i64 0)) H
theorem W86_wp (v0 : AV) (v1 : AV) (H : Heap) (K : AV → Heap → Prop) : wpC Tryz.prog tab D86 (bodyOf Tryz.f86) (retF tab [.tmp 4] K) (nthA [v0, v1]) H = W86 v0 v1 H K := by kernel_rfl
theorem W86_ok {v0 v1 : AV} {H : Heap} {K : AV → Heap → Prop} (h : W86 v0 v1 H K) : CallT Tryz.prog 86 [v0, v1] H K :=
  CallT.of_wp (D := D86) tab_ok mixed Tryz.func86 (c := bodyOf Tryz.f86) (by kernel_rfl) rfl (by kernel_rfl) (rs := #[.tmp 4]) rfl (by decide +kernel) (by kernel_rfl) (W86_wp v0 v1 H K) h
theorem L86_0_rule {K : AV → Heap → Prop} {v0 v1 v7 v8 : AV} {H : Heap} {σ : Type} (s0 : σ) (f8 : σ → AV) (TH : σ → Heap) (pre : σ → Prop) (μ : σ → Nat)
    (h0 : pre s0 ∧ AV.wk v8 (f8 s0) ∧ Heap.le (TH s0) H)
    (round : ∀ s, pre s → B86_0 K (fun w8 H' => ∃ s', pre s' ∧ μ s' < μ s ∧ AV.wk w8 (f8 s') ∧ Heap.le (TH s') H') v0 v1 v7 (f8 s) (TH s)) :
    L86_0 K v0 v1 v7 v8 H := by
  unfold L86_0
  exact LoopV.mk s0 (fun s => [f8 s]) TH pre μ (fun _ => rfl) (Eq.mp (by kernel_rfl) h0) (fun s hs => Eq.mp (by kernel_rfl) (round s hs))
/-- loop.example/g00649/impl.isTermOf -/
def D87 : Info := ⟨19, fun i => ([], []), fun i => ([], [])⟩
def W87 (v0 : AV) (v1 : AV) (v2 : AV) (v3 : AV) (H : Heap) (K : AV → Heap → Prop) : Prop :=
 CallT Tryz.prog 139 [v0, v1, v2] H fun v12 H1 =>
 grdV v12 true (CallT Tryz.prog 140 [v2] H1 fun v15 H2 =>
 binV tab .eql 3 v15 v3 fun v17 =>
 K v17 H2)
 (K (AV.p (.bool false)) H1)
theorem W87_wp (v0 : AV) (v1 : AV) (v2 : AV) (v3 : AV) (H : Heap) (K : AV → Heap → Prop) : wpC Tryz.prog tab D87 (bodyOf Tryz.f87) (retF tab [.tmp 8] K) (nthA [v0, v1, v2, v3]) H = W87 v0 v1 v2 v3 H K := by kernel_rfl
theorem W87_ok {v0 v1 v2 v3 : AV} {H : Heap} {K : AV → Heap → Prop} (h : W87 v0 v1 v2 v3 H K) : CallT Tryz.prog 87 [v0, v1, v2, v3] H K :=
  CallT.of_wp (D := D87) tab_ok mixed Tryz.func87 (c := bodyOf Tryz.f87) (by kernel_rfl) rfl (by kernel_rfl) (rs := #[.tmp 8]) rfl (by decide +kernel) (by kernel_rfl) (W87_wp v0 v1 v2 v3 H K) h
/-- loop.example/g00649/laws.eqNodeS -/
def D88 : Info := ⟨27, fun i => if i = 6 then ([[], [], [0, 1], [0, 1, 2], [], [], [4, 5], [4, 5, 6], [0, 1, 2, 3, 4, 5, 6, 7], [0, 1, 2, 3, 4, 5, 6, 7, 8]], [(0, []), (1, []), (2, []), (3, []), (4, []), (5, []), (6, []), (7, []), (8, []), (9, [])]) else ([], []), fun i => if i = 4 then ([0, 1], [5]) else ([], [])⟩
def L88_0 (K : AV → Heap → Prop) (v0 : AV) (v1 : AV) (v5 : AV) (H : Heap) : Prop := LoopV (wpC Tryz.prog tab D88 (cAt [1, 1, 0, 1, 0, 0] (bodyOf Tryz.f88))) [0, 1] (PostF.block 0 (PostF.thenA (wpC Tryz.prog tab D88 (cAt [1, 1, 1] (bodyOf Tryz.f88))) (retF tab [.tmp 4] K))) [5] [v0, v1, AV.any, AV.any, AV.any, v5, AV.any, AV.any, AV.any, AV.any, AV.any, AV.any, AV.any, AV.any, AV.any, AV.any, AV.any, AV.any, AV.any, AV.any, AV.any, AV.any, AV.any, AV.any, AV.any, AV.any, AV.any] H
def B88_0 (K : AV → Heap → Prop) (N1 : AV → Heap → Prop) (v0 : AV) (v1 : AV) (v5 : AV) (H : Heap) : Prop :=
 lenV tab 32 v0 fun v13 =>
 binV tab .lss 3 v5 v13 fun v14 =>
 condV v14 (indexAddrV tab 32 v0 v5 fun v19 =>
 loadV tab 155 v19 H fun v20 =>
 indexAddrV tab 32 v1 v5 fun v23 =>
 loadV tab 155 v23 H fun v24 =>
 CallT Tryz.prog 141 [v20, v24] H fun v25 H1 =>
 unV .not v25 fun v26 =>
 condV v26 (K (AV.p (.bool false)) H1)
 (binV tab .add 3 v5 (AV.p (.int .i64 1)) fun v16 =>
 N1 v16 H1))
 (K (AV.p (.bool true)) H)
def W88 (v0 : AV) (v1 : AV) (H : Heap) (K : AV → Heap → Prop) : Prop :=
 lenV tab 32 v0 fun v7 =>
 lenV tab 32 v1 fun v9 =>
 binV tab .neq 3 v7 v9 fun v10 =>
 condV v10 (K (AV.p (.bool false)) H)
 (L88_0 K v0 v1 (AV.p (.int .i64 0)) H)
theorem W88_wp (v0 : AV) (v1 : AV) (H : Heap) (K : AV → Heap → Prop) : wpC Tryz.prog tab D88 (bodyOf Tryz.f88) (retF tab [.tmp 4] K) (nthA [v0, v1]) H = W88 v0 v1 H K := by kernel_rfl
theorem W88_ok {v0 v1 : AV} {H : Heap} {K : AV → Heap → Prop} (h : W88 v0 v1 H K) : CallT Tryz.prog 88 [v0, v1] H K :=
  CallT.of_wp (D := D88) tab_ok mixed Tryz.func88 (c := bodyOf Tryz.f88) (by kernel_rfl) rfl (by kernel_rfl) (rs := #[.tmp 4]) rfl (by decide +kernel) (by kernel_rfl) (W88_wp v0 v1 H K) h
theorem L88_0_rule {K : AV → Heap → Prop} {v0 v1 v5 : AV} {H : Heap} {σ : Type} (s0 : σ) (f5 : σ → AV) (TH : σ → Heap) (pre : σ → Prop) (μ : σ → Nat)
    (h0 : pre s0 ∧ AV.wk v5 (f5 s0) ∧ Heap.le (TH s0) H)
    (round : ∀ s, pre s → B88_0 K (fun w5 H' => ∃ s', pre s' ∧ μ s' < μ s ∧ AV.wk w5 (f5 s') ∧ Heap.le (TH s') H') v0 v1 (f5 s) (TH s)) :
    L88_0 K v0 v1 v5 H := by
  unfold L88_0
  exact LoopV.mk s0 (fun s => [f5 s]) TH pre μ (fun _ => rfl) (Eq.mp (by kernel_rfl) h0) (fun s hs => Eq.mp (by kernel_rfl) (round s hs))
/-- loop.example/g00649/laws.eqCommandS -/
def D89 : Info := ⟨27, fun i => if i = 6 then ([[], [], [0, 1], [0, 1, 2], [], [], [4, 5], [4, 5, 6], [0, 1, 2, 3, 4, 5, 6, 7], [0, 1, 2, 3, 4, 5, 6, 7, 8]], [(0, []), (1, []), (2, []), (3, []), (4, []), (5, []), (6, []), (7, []), (8, []), (9, [])]) else ([], []), fun i => if i = 4 then ([0, 1], [5]) else ([], [])⟩
def L89_0 (K : AV → Heap → Prop) (v0 : AV) (v1 : AV) (v5 : AV) (H : Heap) : Prop := LoopV (wpC Tryz.prog tab D89 (cAt [1, 1, 0, 1, 0, 0] (bodyOf Tryz.f89))) [0, 1] (PostF.block 0 (PostF.thenA (wpC Tryz.prog tab D89 (cAt [1, 1, 1] (bodyOf Tryz.f89))) (retF tab [.tmp 4] K))) [5] [v0, v1, AV.any, AV.any, AV.any, v5, AV.any, AV.any, AV.any, AV.any, AV.any, AV.any, AV.any, AV.any, AV.any, AV.any, AV.any, AV.any, AV.any, AV.any, AV.any, AV.any, AV.any, AV.any, AV.any, AV.any, AV.any] H
def B89_0 (K : AV → Heap → Prop) (N1 : AV → Heap → Prop) (v0 : AV) (v1 : AV) (v5 : AV) (H : Heap) : Prop :=
 lenV tab 33 v0 fun v13 =>
 binV tab .lss 3 v5 v13 fun v14 =>
 condV v14 (indexAddrV tab 33 v0 v5 fun v19 =>
 loadV tab 150 v19 H fun v20 =>
 indexAddrV tab 33 v1 v5 fun v23 =>
 loadV tab 150 v23 H fun v24 =>
 CallT Tryz.prog 142 [v20, v24] H fun v25 H1 =>
 unV .not v25 fun v26 =>
 condV v26 (K (AV.p (.bool false)) H1)
 (binV tab .add 3 v5 (AV.p (.int .i64 1)) fun v16 =>
 N1 v16 H1))
 (K (AV.p (.bool true)) H)
def W89 (v0 : AV) (v1 : AV) (H : Heap) (K : AV → Heap → Prop) : Prop :=
 lenV tab 33 v0 fun v7 =>
 lenV tab 33 v1 fun v9 =>
 binV tab .neq 3 v7 v9 fun v10 =>
 condV v10 (K (AV.p (.bool false)) H)
 (L89_0 K v0 v1 (AV.p (.int .i64 0)) H)
theorem W89_wp (v0 : AV) (v1 : AV) (H : Heap) (K : AV → Heap → Prop) : wpC Tryz.prog tab D89 (bodyOf Tryz.f89) (retF tab [.tmp 4] K) (nthA [v0, v1]) H = W89 v0 v1 H K := by kernel_rfl
theorem W89_ok {v0 v1 : AV} {H : Heap} {K : AV → Heap → Prop} (h : W89 v0 v1 H K) : CallT Tryz.prog 89 [v0, v1] H K :=
  CallT.of_wp (D := D89) tab_ok mixed Tryz.func89 (c := bodyOf Tryz.f89) (by kernel_rfl) rfl (by kernel_rfl) (rs := #[.tmp 4]) rfl (by decide +kernel) (by kernel_rfl) (W89_wp v0 v1 H K) h
theorem L89_0_rule {K : AV → Heap → Prop} {v0 v1 v5 : AV} {H : Heap} {σ : Type} (s0 : σ) (f5 : σ → AV) (TH : σ → Heap) (pre : σ → Prop) (μ : σ → Nat)
    (h0 : pre s0 ∧ AV.wk v5 (f5 s0) ∧ Heap.le (TH s0) H)
    (round : ∀ s, pre s → B89_0 K (fun w5 H' => ∃ s', pre s' ∧ μ s' < μ s ∧ AV.wk w5 (f5 s') ∧ Heap.le (TH s') H') v0 v1 (f5 s) (TH s)) :
    L89_0 K v0 v1 v5 H := by
  unfold L89_0
  exact LoopV.mk s0 (fun s => [f5 s]) TH pre μ (fun _ => rfl) (Eq.mp (by kernel_rfl) h0) (fun s hs => Eq.mp (by kernel_rfl) (round s hs))
/-- loop.example/g00649/laws.eqSaid -/
def D90 : Info := ⟨15, fun i => ([], []), fun i => ([], [])⟩
def W90 (v0 : AV) (v1 : AV) (H : Heap) (K : AV → Heap → Prop) : Prop :=
 boxV v0 H fun v2 H1 =>
 boxV v1 H1 fun v3 H2 =>
 fieldAddrV tab 106 v2 0 fun v5 =>
 loadV tab 3 v5 H2 fun v6 =>
 fieldAddrV tab 106 v3 0 fun v7 =>
 loadV tab 3 v7 H2 fun v8 =>
 binV tab .neq 3 v6 v8 fun v9 =>
 condV v9 (K (AV.p (.bool false)) H2)
 (fieldAddrV tab 106 v2 1 fun v10 =>
 loadV tab 3 v10 H2 fun v11 =>
 fieldAddrV tab 106 v3 1 fun v12 =>
 loadV tab 3 v12 H2 fun v13 =>
 binV tab .neq 3 v11 v13 fun v14 =>
 condV v14 (K (AV.p (.bool false)) H2)
 (K (AV.p (.bool true)) H2))
theorem W90_wp (v0 : AV) (v1 : AV) (H : Heap) (K : AV → Heap → Prop) : wpC Tryz.prog tab D90 (bodyOf Tryz.f90) (retF tab [.tmp 4] K) (nthA [v0, v1]) H = W90 v0 v1 H K := by kernel_rfl
theorem W90_ok {v0 v1 : AV} {H : Heap} {K : AV → Heap → Prop} (h : W90 v0 v1 H K) : CallT Tryz.prog 90 [v0, v1] H K :=
  CallT.of_wp (D := D90) tab_ok mixed Tryz.func90 (c := bodyOf Tryz.f90) (by kernel_rfl) rfl (by kernel_rfl) (rs := #[.tmp 4]) rfl (by decide +kernel) (by kernel_rfl) (W90_wp v0 v1 H K) h
/-- slices.ContainsFunc[[]int,int] -/
def D100 : Info := ⟨9, fun i => ([], []), fun i => ([], [])⟩
def W100 (v0 : AV) (v1 : AV) (H : Heap) (K : AV → Heap → Prop) : Prop :=
 CallT Tryz.prog 150 [v0, v1] H fun v7 H1 =>
 binV tab .geq 3 v7 (AV.p (.int .i64 0)) fun v8 =>
 K v8 H1
theorem W100_wp (v0 : AV) (v1 : AV) (H : Heap) (K : AV → Heap → Prop) : wpC Tryz.prog tab D100 (bodyOf Tryz.f100) (retF tab [.tmp 4] K) (nthA [v0, v1]) H = W100 v0 v1 H K := by kernel_rfl
theorem W100_ok {v0 v1 : AV} {H : Heap} {K : AV → Heap → Prop} (h : W100 v0 v1 H K) : CallT Tryz.prog 100 [v0, v1] H K :=
  CallT.of_wp (D := D100) tab_ok mixed Tryz.func100 (c := bodyOf Tryz.f100) (by kernel_rfl) rfl (by kernel_rfl) (rs := #[.tmp 4]) rfl (by decide +kernel) (by kernel_rfl) (W100_wp v0 v1 H K) h
/-- loop.example/g00649/laws.szCommand -/
def D119 : Info := ⟨18, fun i => ([], []), fun i => ([], [])⟩
def W119 (v0 : AV) (v1 : AV) (H : Heap) (K : AV → Heap → Prop) : Prop :=
 boxV v0 H fun v2 H1 =>
 fieldAddrV tab 147 v2 0 fun v5 =>
 loadV tab 22 v5 H1 fun v6 =>
 CallT Tryz.prog 74 [v6, v1] H1 fun v8 H2 =>
 binV tab .lss 3 v8 (AV.p (.int .i64 0)) fun v10 =>
 condV v10 (K (AV.p (.int .i64 (-1))) H2)
 (fieldAddrV tab 147 v2 1 fun v11 =>
 loadV tab 145 v11 H2 fun v12 =>
 CallT Tryz.prog 165 [v12, v8] H2 fun v14 H3 =>
 binV tab .lss 3 v14 (AV.p (.int .i64 0)) fun v16 =>
 condV v16 (K (AV.p (.int .i64 (-1))) H3)
 (K v14 H3))
theorem W119_wp (v0 : AV) (v1 : AV) (H : Heap) (K : AV → Heap → Prop) : wpC Tryz.prog tab D119 (bodyOf Tryz.f119) (retF tab [.tmp 4] K) (nthA [v0, v1]) H = W119 v0 v1 H K := by kernel_rfl
theorem W119_ok {v0 v1 : AV} {H : Heap} {K : AV → Heap → Prop} (h : W119 v0 v1 H K) : CallT Tryz.prog 119 [v0, v1] H K :=
  CallT.of_wp (D := D119) tab_ok mixed Tryz.func119 (c := bodyOf Tryz.f119) (by kernel_rfl) rfl (by kernel_rfl) (rs := #[.tmp 4]) rfl (by decide +kernel) (by kernel_rfl) (W119_wp v0 v1 H K) h
/-- loop.example/g00649/spec.l7Command -/
def D120 : Info := ⟨62, fun i => if i = 6 then ([[], [0], [], [2], [2, 3], [0, 1, 2, 3, 4], [0, 1, 2, 3, 4, 5], [0, 1, 2, 3, 4, 5, 6], [0, 1, 2, 3, 4, 5, 6, 7], [0, 1, 2, 3, 4, 5, 6, 7, 8], [0, 1, 2, 3, 4, 5, 6, 7, 8, 9], [0, 1, 2, 3, 4, 5, 6, 7, 8, 9, 10], [0, 1, 2, 3, 4, 5, 6, 7, 8, 9, 10, 11], [0, 1, 2, 3, 4, 5, 6, 7, 8, 9, 10], [0, 1, 2, 3, 4, 5, 6, 7, 8, 9, 10, 13], [0, 1, 2, 3, 4, 5, 6, 7, 8, 9, 10, 11, 12, 13, 14], [0, 1, 2, 3, 4, 5, 6, 7, 8, 9, 10, 11, 12, 13, 14, 15], [0, 1, 2, 3, 4, 5, 6, 7, 8, 9, 10, 11, 12, 13, 14, 15, 16], [0, 1, 2, 3, 4, 5, 6, 7, 8, 9, 10], [0, 1, 2, 3, 4, 5, 6, 7, 8, 9, 10, 18], [0, 1, 2, 3, 4, 5, 6, 7, 8, 9, 10, 11, 12, 13, 14, 15, 16, 17, 18, 19], [0, 1, 2, 3, 4, 5, 6, 7, 8, 9, 10, 11, 12, 13, 14, 15, 16, 17, 18, 19, 20], [0, 1, 2, 3, 4, 5, 6, 7, 8, 9, 10, 11, 12, 13, 14, 15, 16, 17, 18, 19, 20, 21], [0, 1, 2, 3, 4, 5, 6, 7, 8, 9, 10, 11, 12, 13, 14, 15, 16, 17, 18, 19, 20, 21, 22], [0, 1, 2, 3, 4, 5, 6, 7, 8, 9, 10, 11, 12, 13, 14, 15, 16, 17, 18, 19, 20, 21, 22, 23], [0, 1, 2, 3, 4, 5, 6, 7, 8, 9, 10, 11, 12, 13, 14, 15, 16, 17, 18, 19, 20, 21, 22, 23, 24], [0, 1, 2, 3, 4, 5, 6, 7, 8, 9, 10, 11, 12, 13, 14, 15, 16, 17, 18, 19, 20, 21, 22, 23], [0, 1, 2, 3, 4, 5, 6, 7, 8, 9, 10, 11, 12, 13, 14, 15, 16, 17, 18, 19, 20, 21, 22, 23, 26], [0, 1, 2, 3, 4, 5, 6, 7, 8, 9, 10, 11, 12, 13, 14, 15, 16, 17, 18, 19, 20, 21, 22, 23], [0, 1, 2, 3, 4, 5, 6, 7, 8, 9, 10, 11, 12, 13, 14, 15, 16, 17, 18, 19, 20, 21, 22, 23, 28], [0, 1, 2, 3, 4, 5, 6, 7, 8, 9, 10, 11, 12, 13, 14, 15, 16, 17, 18, 19, 20, 21, 22, 23, 24, 25, 26, 27, 28, 29], [0, 1, 2, 3, 4, 5, 6, 7, 8, 9, 10, 11, 12, 13, 14, 15, 16, 17, 18, 19, 20, 21, 22, 23, 24, 25, 26, 27, 28, 29, 30], [0, 1, 2, 3, 4, 5, 6, 7, 8, 9, 10, 11, 12, 13, 14, 15, 16, 17, 18, 19, 20, 21, 22, 23, 24, 25, 26, 27, 28, 29, 30, 31]], [(0, []), (1, []), (2, []), (3, []), (4, []), (5, []), (6, []), (7, []), (8, []), (9, []), (10, []), (11, []), (12, []), (13, []), (14, []), (15, []), (16, []), (17, []), (18, []), (19, []), (20, []), (21, []), (22, []), (23, []), (24, []), (25, []), (26, []), (27, []), (28, []), (29, []), (30, []), (31, []), (32, [])]) else ([], []), fun i => if i = 4 then ([2, 3, 21, 22], [23]) else ([], [])⟩
def L120_0 (K : AV → Heap → Prop) (v2 : AV) (v3 : AV) (v21 : AV) (v22 : AV) (v23 : AV) (H : Heap) : Prop := LoopV (wpC Tryz.prog tab D120 (cAt [1, 1, 0, 1, 0, 0] (bodyOf Tryz.f120))) [2, 3, 21, 22] (PostF.block 0 (PostF.thenA (wpC Tryz.prog tab D120 (cAt [1, 1, 1] (bodyOf Tryz.f120))) (retF tab [.tmp 4] K))) [23] [AV.any, AV.any, v2, v3, AV.any, AV.any, AV.any, AV.any, AV.any, AV.any, AV.any, AV.any, AV.any, AV.any, AV.any, AV.any, AV.any, AV.any, AV.any, AV.any, AV.any, v21, v22, v23, AV.any, AV.any, AV.any, AV.any, AV.any, AV.any, AV.any, AV.any, AV.any, AV.any, AV.any, AV.any, AV.any, AV.any, AV.any, AV.any, AV.any, AV.any, AV.any, AV.any, AV.any, AV.any, AV.any, AV.any, AV.any, AV.any, AV.any, AV.any, AV.any, AV.any, AV.any, AV.any, AV.any, AV.any, AV.any, AV.any, AV.any, AV.any] H
def B120_0 (K : AV → Heap → Prop) (N1 : AV → Heap → Prop) (v2 : AV) (v3 : AV) (v21 : AV) (v22 : AV) (v23 : AV) (H : Heap) : Prop :=
 binV tab .lss 3 v23 v22 fun v24 =>
 condV v24 (indexAddrV tab 148 v21 v23 fun v26 =>
 loadV tab 188 v26 H fun v27 =>
 allocV tab 188 H fun v6 H4 =>
 storeV tab 188 v6 v27 H4 fun H5 =>
 fieldAddrV tab 188 v6 0 fun v28 =>
 loadV tab 3 v28 H5 fun v29 =>
 fieldAddrV tab 35 v2 1 fun v30 =>
 loadV tab 3 v30 H5 fun v31 =>
 binV tab .sub 3 v31 (AV.p (.int .i64 1)) fun v32 =>
 CallT Tryz.prog 52 [v29, (AV.p (.int .i64 0)), v32] H5 fun v33 H6 =>
 unV .not v33 fun v34 =>
 grdV v34 false (binV tab .gtr 3 v23 (AV.p (.int .i64 0)) fun v37 =>
 grdV v37 true (fieldAddrV tab 150 v3 1 fun v39 =>
 loadV tab 148 v39 H6 fun v40 =>
 binV tab .sub 3 v23 (AV.p (.int .i64 1)) fun v42 =>
 indexAddrV tab 148 v40 v42 fun v43 =>
 fieldAddrV tab 188 v43 0 fun v44 =>
 loadV tab 3 v44 H6 fun v45 =>
 fieldAddrV tab 188 v6 0 fun v46 =>
 loadV tab 3 v46 H6 fun v47 =>
 binV tab .geq 3 v45 v47 fun v48 =>
 grdV v48 false (fieldAddrV tab 35 v2 0 fun v52 =>
 loadV tab 3 v52 H6 fun v53 =>
 fieldAddrV tab 35 v2 1 fun v54 =>
 loadV tab 3 v54 H6 fun v55 =>
 fieldAddrV tab 188 v6 1 fun v56 =>
 loadV tab 32 v56 H6 fun v57 =>
 CallT Tryz.prog 79 [v53, v55, v57] H6 fun v58 H7 =>
 binV tab .neq 3 v58 (AV.p (.int .i64 1)) fun v59 =>
 condV v59 (K (AV.p (.bool false)) H7)
 (binV tab .add 3 v23 (AV.p (.int .i64 1)) fun v61 =>
 N1 v61 H7))
 (K (AV.p (.bool false)) H6))
 (fieldAddrV tab 35 v2 0 fun v52 =>
 loadV tab 3 v52 H6 fun v53 =>
 fieldAddrV tab 35 v2 1 fun v54 =>
 loadV tab 3 v54 H6 fun v55 =>
 fieldAddrV tab 188 v6 1 fun v56 =>
 loadV tab 32 v56 H6 fun v57 =>
 CallT Tryz.prog 79 [v53, v55, v57] H6 fun v58 H8 =>
 binV tab .neq 3 v58 (AV.p (.int .i64 1)) fun v59 =>
 condV v59 (K (AV.p (.bool false)) H8)
 (binV tab .add 3 v23 (AV.p (.int .i64 1)) fun v61 =>
 N1 v61 H8)))
 (K (AV.p (.bool false)) H6))
 (K (AV.p (.bool true)) H)
def W120 (v0 : AV) (v1 : AV) (H : Heap) (K : AV → Heap → Prop) : Prop :=
 boxV v0 H fun v2 H1 =>
 boxV v1 H1 fun v3 H2 =>
 loadV tab 35 v2 H2 fun v7 =>
 fieldAddrV tab 150 v3 0 fun v8 =>
 loadV tab 32 v8 H2 fun v9 =>
 CallT Tryz.prog 40 [v7, v9] H2 fun v10 H3 =>
 unV .not v10 fun v11 =>
 grdV v11 false (fieldAddrV tab 150 v3 1 fun v13 =>
 loadV tab 148 v13 H3 fun v14 =>
 lenV tab 148 v14 fun v15 =>
 fieldAddrV tab 35 v2 1 fun v16 =>
 loadV tab 3 v16 H3 fun v17 =>
 binV tab .gtr 3 v15 v17 fun v18 =>
 condV v18 (K (AV.p (.bool false)) H3)
 (fieldAddrV tab 150 v3 1 fun v20 =>
 loadV tab 148 v20 H3 fun v21 =>
 lenV tab 148 v21 fun v22 =>
 L120_0 K v2 v3 v21 v22 (AV.p (.int .i64 0)) H3))
 (K (AV.p (.bool false)) H3)
theorem W120_wp (v0 : AV) (v1 : AV) (H : Heap) (K : AV → Heap → Prop) : wpC Tryz.prog tab D120 (bodyOf Tryz.f120) (retF tab [.tmp 4] K) (nthA [v0, v1]) H = W120 v0 v1 H K := by kernel_rfl
theorem W120_ok {v0 v1 : AV} {H : Heap} {K : AV → Heap → Prop} (h : W120 v0 v1 H K) : CallT Tryz.prog 120 [v0, v1] H K :=
  CallT.of_wp (D := D120) tab_ok mixed Tryz.func120 (c := bodyOf Tryz.f120) (by kernel_rfl) rfl (by kernel_rfl) (rs := #[.tmp 4]) rfl (by decide +kernel) (by kernel_rfl) (W120_wp v0 v1 H K) h
theorem L120_0_rule {K : AV → Heap → Prop} {v2 v3 v21 v22 v23 : AV} {H : Heap} {σ : Type} (s0 : σ) (f23 : σ → AV) (TH : σ → Heap) (pre : σ → Prop) (μ : σ → Nat)
    (h0 : pre s0 ∧ AV.wk v23 (f23 s0) ∧ Heap.le (TH s0) H)
    (round : ∀ s, pre s → B120_0 K (fun w23 H' => ∃ s', pre s' ∧ μ s' < μ s ∧ AV.wk w23 (f23 s') ∧ Heap.le (TH s') H') v2 v3 v21 v22 (f23 s) (TH s)) :
    L120_0 K v2 v3 v21 v22 v23 H := by
  unfold L120_0
  exact LoopV.mk s0 (fun s => [f23 s]) TH pre μ (fun _ => rfl) (Eq.mp (by kernel_rfl) h0) (fun s hs => Eq.mp (by kernel_rfl) (round s hs))
/-- loop.example/g00649/spec.l10Need -/
def D121 : Info := ⟨15, fun i => ([], []), fun i => ([], [])⟩
def J121_0 (K : AV → Heap → Prop) (v3 : AV) (v7 : AV) (H : Heap) : Prop :=
 condV v7 (K (AV.p (.int .i64 1)) H)
 (binV tab .eql 3 v3 (AV.p (.int .i64 5)) fun v11 =>
 condV v11 (condV v11 (K (AV.p (.int .i64 2)) H)
 (K (AV.p (.int .i64 (-1))) H))
 (binV tab .eql 3 v3 (AV.p (.int .i64 6)) fun v12 =>
 condV v12 (condV v12 (K (AV.p (.int .i64 2)) H)
 (K (AV.p (.int .i64 (-1))) H))
 (binV tab .eql 3 v3 (AV.p (.int .i64 7)) fun v13 =>
 condV v13 (condV v13 (K (AV.p (.int .i64 2)) H)
 (K (AV.p (.int .i64 (-1))) H))
 (binV tab .eql 3 v3 (AV.p (.int .i64 8)) fun v14 =>
 condV v14 (K (AV.p (.int .i64 2)) H)
 (K (AV.p (.int .i64 (-1))) H)))))
def J121_1 (K : AV → Heap → Prop) (v3 : AV) (v4 : AV) (H : Heap) : Prop :=
 condV v4 (K (AV.p (.int .i64 0)) H)
 (binV tab .eql 3 v3 (AV.p (.int .i64 3)) fun v8 =>
 condV v8 (J121_0 K v3 v8 H)
 (binV tab .eql 3 v3 (AV.p (.int .i64 4)) fun v9 =>
 J121_0 K v3 v9 H))
def W121 (v0 : AV) (H : Heap) (K : AV → Heap → Prop) : Prop :=
 binV tab .eql 3 v0 (AV.p (.int .i64 1)) fun v5 =>
 condV v5 (J121_1 K v0 v5 H)
 (binV tab .eql 3 v0 (AV.p (.int .i64 2)) fun v6 =>
 J121_1 K v0 v6 H)
theorem W121_wp (v0 : AV) (H : Heap) (K : AV → Heap → Prop) : wpC Tryz.prog tab D121 (bodyOf Tryz.f121) (retF tab [.tmp 2] K) (nthA [v0]) H = W121 v0 H K := by kernel_rfl
theorem W121_ok {v0 : AV} {H : Heap} {K : AV → Heap → Prop} (h : W121 v0 H K) : CallT Tryz.prog 121 [v0] H K :=
  CallT.of_wp (D := D121) tab_ok mixed Tryz.func121 (c := bodyOf Tryz.f121) (by kernel_rfl) rfl (by kernel_rfl) (rs := #[.tmp 2]) rfl (by decide +kernel) (by kernel_rfl) (W121_wp v0 H K) h
/-- loop.example/g00649/spec.l10N -/
def D122 : Info := ⟨18, fun i => ([], []), fun i => ([], [])⟩
def W122 (v0 : AV) (H : Heap) (K : AV → Heap → Prop) : Prop :=
 boxV v0 H fun v1 H1 =>
 fieldAddrV tab 106 v1 0 fun v3 =>
 loadV tab 3 v3 H1 fun v4 =>
 binV tab .eql 3 v4 (AV.p (.int .i64 1)) fun v6 =>
 condV v6 (fieldAddrV tab 106 v1 1 fun v7 =>
 loadV tab 3 v7 H1 fun v8 =>
 CallT Tryz.prog 52 [v8, (AV.p (.int .i64 0)), (AV.p (.int .i64 2))] H1 fun v9 H2 =>
 K v9 H2)
 (binV tab .eql 3 v4 (AV.p (.int .i64 2)) fun v11 =>
 condV v11 (fieldAddrV tab 106 v1 1 fun v12 =>
 loadV tab 3 v12 H1 fun v13 =>
 CallT Tryz.prog 52 [v13, (AV.p (.int .i64 0)), (AV.p (.int .i64 1))] H1 fun v14 H3 =>
 K v14 H3)
 (fieldAddrV tab 106 v1 1 fun v15 =>
 loadV tab 3 v15 H1 fun v16 =>
 binV tab .eql 3 v16 (AV.p (.int .i64 0)) fun v17 =>
 K v17 H1))
theorem W122_wp (v0 : AV) (H : Heap) (K : AV → Heap → Prop) : wpC Tryz.prog tab D122 (bodyOf Tryz.f122) (retF tab [.tmp 2] K) (nthA [v0]) H = W122 v0 H K := by kernel_rfl
theorem W122_ok {v0 : AV} {H : Heap} {K : AV → Heap → Prop} (h : W122 v0 H K) : CallT Tryz.prog 122 [v0] H K :=
  CallT.of_wp (D := D122) tab_ok mixed Tryz.func122 (c := bodyOf Tryz.f122) (by kernel_rfl) rfl (by kernel_rfl) (rs := #[.tmp 2]) rfl (by decide +kernel) (by kernel_rfl) (W122_wp v0 H K) h
/-- loop.example/g00649/spec.l1Put -/
def D123 : Info := ⟨48, fun i => ([], []), fun i => if i = 2 then ([0, 1], [5]) else ([], [])⟩
def L123_0 (K : AV → Heap → Prop) (v0 : AV) (v1 : AV) (v5 : AV) (H : Heap) : Prop := LoopV (wpC Tryz.prog tab D123 (cAt [1, 1, 0, 0, 0] (bodyOf Tryz.f123))) [0, 1] (PostF.block 0 (PostF.thenA (wpC Tryz.prog tab D123 (cAt [1, 1, 1] (bodyOf Tryz.f123))) (retF tab [.tmp 4] K))) [5] [v0, v1, AV.any, AV.any, AV.any, v5, AV.any, AV.any, AV.any, AV.any, AV.any, AV.any, AV.any, AV.any, AV.any, AV.any, AV.any, AV.any, AV.any, AV.any, AV.any, AV.any, AV.any, AV.any, AV.any, AV.any, AV.any, AV.any, AV.any, AV.any, AV.any, AV.any, AV.any, AV.any, AV.any, AV.any, AV.any, AV.any, AV.any, AV.any, AV.any, AV.any, AV.any, AV.any, AV.any, AV.any, AV.any, AV.any] H
def J123_1 (K : AV → Heap → Prop) (v0 : AV) (v1 : AV) (v5 : AV) (H : Heap) : Prop :=
 buildSliceV tab 46 0 [] H (wkK fun v34 H1 =>
 sliceV tab 46 v0 none (some v5) none fun v37 =>
 appendV tab 46 46 v34 v37 H1 (wkK fun v38 H2 =>
 buildSliceV tab 46 1 [(0, v1)] H2 (wkK fun v41 H3 =>
 appendV tab 46 46 v38 v41 H3 (wkK fun v42 H4 =>
 sliceV tab 46 v0 (some v5) none none fun v46 =>
 appendV tab 46 46 v42 v46 H4 (wkK fun v47 H5 =>
 K v47 H5)))))
def J123_2 (K : AV → Heap → Prop) (v0 : AV) (v1 : AV) (v5 : AV) (H : Heap) : Prop :=
 lenV tab 46 v0 fun v23 =>
 binV tab .lss 3 v5 v23 fun v24 =>
 grdV v24 true (indexAddrV tab 46 v0 v5 fun v28 =>
 loadV tab 3 v28 H fun v29 =>
 binV tab .eql 3 v29 v1 fun v31 =>
 condV v31 (K v0 H)
 (J123_1 K v0 v1 v5 H))
 (J123_1 K v0 v1 v5 H)
def B123_0 (K : AV → Heap → Prop) (N1 : AV → Heap → Prop) (v0 : AV) (v1 : AV) (v5 : AV) (H : Heap) : Prop :=
 lenV tab 46 v0 fun v9 =>
 binV tab .lss 3 v5 v9 fun v10 =>
 grdV v10 true (indexAddrV tab 46 v0 v5 fun v14 =>
 loadV tab 3 v14 H fun v15 =>
 binV tab .lss 3 v15 v1 fun v17 =>
 condV v17 (binV tab .add 3 v5 (AV.p (.int .i64 1)) fun v20 =>
 N1 v20 H)
 (J123_2 K v0 v1 v5 H))
 (J123_2 K v0 v1 v5 H)
def W123 (v0 : AV) (v1 : AV) (H : Heap) (K : AV → Heap → Prop) : Prop :=
 L123_0 K v0 v1 (AV.p (.int .i64 0)) H
theorem W123_wp (v0 : AV) (v1 : AV) (H : Heap) (K : AV → Heap → Prop) : wpC Tryz.prog tab D123 (bodyOf Tryz.f123) (retF tab [.tmp 4] K) (nthA [v0, v1]) H = W123 v0 v1 H K := by kernel_rfl
theorem W123_ok {v0 v1 : AV} {H : Heap} {K : AV → Heap → Prop} (h : W123 v0 v1 H K) : CallT Tryz.prog 123 [v0, v1] H K :=
  CallT.of_wp (D := D123) tab_ok mixed Tryz.func123 (c := bodyOf Tryz.f123) (by kernel_rfl) rfl (by kernel_rfl) (rs := #[.tmp 4]) rfl (by decide +kernel) (by kernel_rfl) (W123_wp v0 v1 H K) h
theorem L123_0_rule {K : AV → Heap → Prop} {v0 v1 v5 : AV} {H : Heap} {σ : Type} (s0 : σ) (f5 : σ → AV) (TH : σ → Heap) (pre : σ → Prop) (μ : σ → Nat)
    (h0 : pre s0 ∧ AV.wk v5 (f5 s0) ∧ Heap.le (TH s0) H)
    (round : ∀ s, pre s → B123_0 K (fun w5 H' => ∃ s', pre s' ∧ μ s' < μ s ∧ AV.wk w5 (f5 s') ∧ Heap.le (TH s') H') v0 v1 (f5 s) (TH s)) :
    L123_0 K v0 v1 v5 H := by
  unfold L123_0
  exact LoopV.mk s0 (fun s => [f5 s]) TH pre μ (fun _ => rfl) (Eq.mp (by kernel_rfl) h0) (fun s hs => Eq.mp (by kernel_rfl) (round s hs))
/-- loop.example/g00649/spec.l1Wide -/
def D124 : Info := ⟨5, fun i => ([], []), fun i => ([], [])⟩
def W124 (v0 : AV) (H : Heap) (K : AV → Heap → Prop) : Prop :=
 CallT Tryz.prog 52 [v0, (AV.p (.int .i64 1)), (AV.p (.int .i64 64))] H fun v4 H1 =>
 K v4 H1
theorem W124_wp (v0 : AV) (H : Heap) (K : AV → Heap → Prop) : wpC Tryz.prog tab D124 (bodyOf Tryz.f124) (retF tab [.tmp 2] K) (nthA [v0]) H = W124 v0 H K := by kernel_rfl
theorem W124_ok {v0 : AV} {H : Heap} {K : AV → Heap → Prop} (h : W124 v0 H K) : CallT Tryz.prog 124 [v0] H K :=
  CallT.of_wp (D := D124) tab_ok mixed Tryz.func124 (c := bodyOf Tryz.f124) (by kernel_rfl) rfl (by kernel_rfl) (rs := #[.tmp 2]) rfl (by decide +kernel) (by kernel_rfl) (W124_wp v0 H K) h
/-- loop.example/g00649/spec.l2Need -/
def D125 : Info := ⟨34, fun i => ([], []), fun i => ([], [])⟩
def W125 (v0 : AV) (H : Heap) (K : AV → Heap → Prop) : Prop :=
 binV tab .eql 3 v0 (AV.p (.int .i64 1)) fun v7 =>
 grdV v7 false (binV tab .eql 3 v0 (AV.p (.int .i64 2)) fun v10 =>
 condV v10 (K (.tup [(AV.p (.int .i64 0)), (AV.p (.int .i64 1)), (AV.p (.int .i64 1))]) H)
 (binV tab .eql 3 v0 (AV.p (.int .i64 20)) fun v14 =>
 condV v14 (K (.tup [(AV.p (.int .i64 0)), (AV.p (.int .i64 2)), (AV.p (.int .i64 2))]) H)
 (binV tab .eql 3 v0 (AV.p (.int .i64 13)) fun v17 =>
 condV v17 (K (.tup [(AV.p (.int .i64 1)), (AV.p (.int .i64 1)), (AV.p (.int .i64 1))]) H)
 (binV tab .eql 3 v0 (AV.p (.int .i64 19)) fun v20 =>
 condV v20 (K (.tup [(AV.p (.int .i64 1)), (AV.p (.int .i64 2)), (AV.p (.int .i64 2))]) H)
 (CallT Tryz.prog 52 [v0, (AV.p (.int .i64 3)), (AV.p (.int .i64 12))] H fun v23 H1 =>
 condV v23 (K (.tup [(AV.p (.int .i64 2)), (AV.p (.int .i64 1)), (AV.p (.int .i64 1))]) H1)
 (CallT Tryz.prog 52 [v0, (AV.p (.int .i64 14)), (AV.p (.int .i64 16))] H1 fun v26 H2 =>
 condV v26 (K (.tup [(AV.p (.int .i64 2)), (AV.p (.int .i64 1)), (AV.p (.int .i64 2))]) H2)
 (binV tab .eql 3 v0 (AV.p (.int .i64 17)) fun v29 =>
 grdV v29 false (binV tab .eql 3 v0 (AV.p (.int .i64 18)) fun v32 =>
 condV v32 (K (.tup [(AV.p (.int .i64 2)), (AV.p (.int .i64 2)), (AV.p (.int .i64 2))]) H2)
 (K (.tup [(AV.p (.int .i64 0)), (AV.p (.int .i64 0)), (AV.p (.int .i64 0))]) H2))
 (K (.tup [(AV.p (.int .i64 2)), (AV.p (.int .i64 2)), (AV.p (.int .i64 2))]) H2))))))))
 (K (.tup [(AV.p (.int .i64 0)), (AV.p (.int .i64 1)), (AV.p (.int .i64 1))]) H)
theorem W125_wp (v0 : AV) (H : Heap) (K : AV → Heap → Prop) : wpC Tryz.prog tab D125 (bodyOf Tryz.f125) (retF tab [.tmp 2, .tmp 3, .tmp 4] K) (nthA [v0]) H = W125 v0 H K := by kernel_rfl
theorem W125_ok {v0 : AV} {H : Heap} {K : AV → Heap → Prop} (h : W125 v0 H K) : CallT Tryz.prog 125 [v0] H K :=
  CallT.of_wp (D := D125) tab_ok mixed Tryz.func125 (c := bodyOf Tryz.f125) (by kernel_rfl) rfl (by kernel_rfl) (rs := #[.tmp 2, .tmp 3, .tmp 4]) rfl (by decide +kernel) (by kernel_rfl) (W125_wp v0 H K) h
end Go.Proofs.YtgcklgeifdefhaaGreat
