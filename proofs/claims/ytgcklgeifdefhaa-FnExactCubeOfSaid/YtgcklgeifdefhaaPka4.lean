/- Texts laid together: W1 W2 W3 WA Lb0 Lb1a. -/
import Derived.Test.YtgcklgeifdefhaaPka3
import Derived.KernelRfl
set_option linter.unusedVariables false
set_option linter.unusedSimpArgs false
/- What each function's code is asked for, as a formula. Written by wgen.py (a program of this session's) out of Lean's print of the program. -/
namespace Go.Proofs.Ytgcklgeifdefhaa
open Go Go.Sep
set_option linter.unusedVariables false
attribute [local irreducible] wpC headF
/-- loop.example/g00649/laws.toCommandS -/
def D25 : Info := ⟨23, fun i => ([], []), fun i => if i = 3 then ([0, 3], [4]) else ([], [])⟩
def L25_0 (K : AV → Heap → Prop) (v0 : AV) (v3 : AV) (v4 : AV) (H : Heap) : Prop := LoopV (wpC Try.prog tab D25 (cAt [1, 1, 0, 1, 0, 0] (bodyOf Try.f25))) [0, 3] (PostF.block 0 (PostF.thenA (wpC Try.prog tab D25 (cAt [1, 1, 1] (bodyOf Try.f25))) (retF tab [.tmp 2] K))) [4] [v0, AV.any, AV.any, v3, v4, AV.any, AV.any, AV.any, AV.any, AV.any, AV.any, AV.any, AV.any, AV.any, AV.any, AV.any, AV.any, AV.any, AV.any, AV.any, AV.any, AV.any, AV.any] H
def B25_0 (K : AV → Heap → Prop) (N1 : AV → Heap → Prop) (v0 : AV) (v3 : AV) (v4 : AV) (H : Heap) : Prop :=
 lenV tab 23 v0 fun v10 =>
 binV tab .lss 3 v4 v10 fun v11 =>
 condV v11 (indexAddrV tab 23 v0 v4 fun v18 =>
 loadV tab 67 v18 H fun v19 =>
 CallT Try.prog 42 [v19] H fun v20 H2 =>
 indexAddrV tab 32 v3 v4 fun v21 =>
 storeV tab 79 v21 v20 H2 fun H3 =>
 binV tab .add 3 v4 (AV.p (.int .i64 1)) fun v13 =>
 N1 v13 H3)
 (K v3 H)
def W25 (v0 : AV) (H : Heap) (K : AV → Heap → Prop) : Prop :=
 lenV tab 23 v0 fun v6 =>
 makeSliceV tab 32 v6 v6 H fun v7 H1 =>
 L25_0 K v0 v7 (AV.p (.int .i64 0)) H1
theorem W25_wp (v0 : AV) (H : Heap) (K : AV → Heap → Prop) : wpC Try.prog tab D25 (bodyOf Try.f25) (retF tab [.tmp 2] K) (nthA [v0]) H = W25 v0 H K := by kernel_rfl
theorem W25_ok {v0 : AV} {H : Heap} {K : AV → Heap → Prop} (h : W25 v0 H K) : CallT Try.prog 25 [v0] H K :=
  CallT.of_wp (D := D25) tab_ok mixed Try.func25 (c := bodyOf Try.f25) (by kernel_rfl) rfl (by kernel_rfl) (rs := #[.tmp 2]) rfl (by decide +kernel) (by kernel_rfl) (W25_wp v0 H K) h
theorem L25_0_rule {K : AV → Heap → Prop} {v0 v3 v4 : AV} {H : Heap} {σ : Type} (s0 : σ) (f4 : σ → AV) (TH : σ → Heap) (pre : σ → Prop) (μ : σ → Nat)
    (h0 : pre s0 ∧ AV.wk v4 (f4 s0) ∧ Heap.le (TH s0) H)
    (round : ∀ s, pre s → B25_0 K (fun w4 H' => ∃ s', pre s' ∧ μ s' < μ s ∧ AV.wk w4 (f4 s') ∧ Heap.le (TH s') H') v0 v3 (f4 s) (TH s)) :
    L25_0 K v0 v3 v4 H := by
  unfold L25_0
  exact LoopV.mk s0 (fun s => [f4 s]) TH pre μ (fun _ => rfl) (Eq.mp (by kernel_rfl) h0) (fun s hs => Eq.mp (by kernel_rfl) (round s hs))
/-- loop.example/g00649/impl.isNo -/
def D26 : Info := ⟨17, fun i => ([], []), fun i => ([], [])⟩
def W26 (v0 : AV) (v1 : AV) (H : Heap) (K : AV → Heap → Prop) : Prop :=
 boxV v0 H fun v2 H1 =>
 loadV tab 34 v2 H1 fun v5 =>
 CallT Try.prog 43 [v5] H1 fun v6 H2 =>
 grdV v6 true (binV tab .geq 3 v1 (AV.p (.int .i64 0)) fun v9 =>
 grdV v9 true (loadV tab 34 v2 H2 fun v13 =>
 CallT Try.prog 44 [v13] H2 fun v14 H3 =>
 binV tab .lss 3 v1 v14 fun v15 =>
 K v15 H3)
 (K (AV.p (.bool false)) H2))
 (K (AV.p (.bool false)) H2)
theorem W26_wp (v0 : AV) (v1 : AV) (H : Heap) (K : AV → Heap → Prop) : wpC Try.prog tab D26 (bodyOf Try.f26) (retF tab [.tmp 4] K) (nthA [v0, v1]) H = W26 v0 v1 H K := by kernel_rfl
theorem W26_ok {v0 v1 : AV} {H : Heap} {K : AV → Heap → Prop} (h : W26 v0 v1 H K) : CallT Try.prog 26 [v0, v1] H K :=
  CallT.of_wp (D := D26) tab_ok mixed Try.func26 (c := bodyOf Try.f26) (by kernel_rfl) rfl (by kernel_rfl) (rs := #[.tmp 4]) rfl (by decide +kernel) (by kernel_rfl) (W26_wp v0 v1 H K) h
/-- (loop.example/g00649/impl.Program).arePreds -/
def D27 : Info := ⟨22, fun i => ([], []), fun i => ([], [])⟩
def W27 (v0 : AV) (v1 : AV) (v2 : AV) (H : Heap) (K : AV → Heap → Prop) : Prop :=
 boxV v0 H fun v3 H1 =>
 lenV tab 36 v1 fun v8 =>
 binV tab .geq 3 v8 v2 fun v10 =>
 grdV v10 true (lenV tab 36 v1 fun v13 =>
 binV tab .leq 3 v13 (AV.p (.int .i64 8)) fun v14 =>
 grdV v14 true (CallT Try.prog 45 [v1, (.fn 46 [v3])] H1 fun v19 H2 =>
 unV .not v19 fun v20 =>
 K v20 H2)
 (K (AV.p (.bool false)) H1))
 (K (AV.p (.bool false)) H1)
theorem W27_wp (v0 : AV) (v1 : AV) (v2 : AV) (H : Heap) (K : AV → Heap → Prop) : wpC Try.prog tab D27 (bodyOf Try.f27) (retF tab [.tmp 6] K) (nthA [v0, v1, v2]) H = W27 v0 v1 v2 H K := by kernel_rfl
theorem W27_ok {v0 v1 v2 : AV} {H : Heap} {K : AV → Heap → Prop} (h : W27 v0 v1 v2 H K) : CallT Try.prog 27 [v0, v1, v2] H K :=
  CallT.of_wp (D := D27) tab_ok mixed Try.func27 (c := bodyOf Try.f27) (by kernel_rfl) rfl (by kernel_rfl) (rs := #[.tmp 6]) rfl (by decide +kernel) (by kernel_rfl) (W27_wp v0 v1 v2 H K) h
/-- (loop.example/g00649/impl.Program).holds -/
def D28 : Info := ⟨13, fun i => ([], []), fun i => ([], [])⟩
def W28 (v0 : AV) (v1 : AV) (v2 : AV) (H : Heap) (K : AV → Heap → Prop) : Prop :=
 boxV v0 H fun v3 H1 =>
 fieldAddrV tab 34 v3 0 fun v7 =>
 loadV tab 3 v7 H1 fun v8 =>
 CallT Try.prog 48 [v8, v1, v2] H1 fun v11 H2 =>
 binV tab .eql 52 v11 (AV.p (.int .u64 1)) fun v12 =>
 K v12 H2
theorem W28_wp (v0 : AV) (v1 : AV) (v2 : AV) (H : Heap) (K : AV → Heap → Prop) : wpC Try.prog tab D28 (bodyOf Try.f28) (retF tab [.tmp 6] K) (nthA [v0, v1, v2]) H = W28 v0 v1 v2 H K := by kernel_rfl
theorem W28_ok {v0 v1 v2 : AV} {H : Heap} {K : AV → Heap → Prop} (h : W28 v0 v1 v2 H K) : CallT Try.prog 28 [v0, v1, v2] H K :=
  CallT.of_wp (D := D28) tab_ok mixed Try.func28 (c := bodyOf Try.f28) (by kernel_rfl) rfl (by kernel_rfl) (rs := #[.tmp 6]) rfl (by decide +kernel) (by kernel_rfl) (W28_wp v0 v1 v2 H K) h
/-- (loop.example/g00649/impl.Program).stateOf -/
def D29 : Info := ⟨29, fun i => if i = 5 then ([[], [], [1], [], [3], [], [3, 4, 5], [1, 2, 3, 4, 5, 6], [], [8], [8, 9], [1, 2, 3, 4, 5, 6, 7, 8, 9, 10], [1, 2, 3, 4, 5, 6, 7, 8, 9, 10, 11], [0, 1, 2, 3, 4, 5, 6, 7, 8, 9, 10, 11, 12], [0, 1, 2, 3, 4, 5, 6, 7, 8, 9, 10, 11, 12, 13]], [(0, []), (1, []), (2, []), (3, []), (4, []), (5, []), (6, []), (7, []), (8, []), (9, []), (10, [4]), (11, []), (12, []), (13, []), (14, [])]) else ([], []), fun i => if i = 3 then ([1, 2, 9], [5, 10]) else ([], [])⟩
def L29_0 (K : AV → Heap → Prop) (v1 : AV) (v2 : AV) (v5 : AV) (v9 : AV) (v10 : AV) (H : Heap) : Prop := LoopV (wpC Try.prog tab D29 (cAt [1, 1, 0, 1, 0, 0] (bodyOf Try.f29))) [1, 2, 9] (PostF.block 0 (PostF.thenA (wpC Try.prog tab D29 (cAt [1, 1, 1] (bodyOf Try.f29))) (retF tab [.tmp 4] K))) [5, 10] [AV.any, v1, v2, AV.any, AV.any, v5, AV.any, AV.any, AV.any, v9, v10, AV.any, AV.any, AV.any, AV.any, AV.any, AV.any, AV.any, AV.any, AV.any, AV.any, AV.any, AV.any, AV.any, AV.any, AV.any, AV.any, AV.any, AV.any] H
def B29_0 (K : AV → Heap → Prop) (N1 : AV → AV → Heap → Prop) (v1 : AV) (v2 : AV) (v5 : AV) (v9 : AV) (v10 : AV) (H : Heap) : Prop :=
 binV tab .lss 3 v10 v9 fun v11 =>
 condV v11 (convV tab 3 52 v1 fun v15 =>
 fieldAddrV tab 34 v2 0 fun v16 =>
 loadV tab 3 v16 H fun v17 =>
 binV tab .mul 3 v17 v10 fun v19 =>
 binV tab .shr 52 v15 v19 fun v20 =>
 fieldAddrV tab 34 v2 0 fun v21 =>
 loadV tab 3 v21 H fun v22 =>
 CallT Try.prog 49 [v22] H fun v23 H3 =>
 (loadV tab 3 v16 H3 fun v9017 =>
 v17 = v9017) ∧
 binV tab .and 52 v20 v23 fun v24 =>
 buildSliceV tab 50 1 [(0, v24)] H3 (wkK fun v25 H4 =>
 appendV tab 50 50 v5 v25 H4 (wkK fun v26 H5 =>
 binV tab .add 3 v10 (AV.p (.int .i64 1)) fun v27 =>
 N1 v26 v27 H5)))
 (K v5 H)
def W29 (v0 : AV) (v1 : AV) (H : Heap) (K : AV → Heap → Prop) : Prop :=
 boxV v0 H fun v2 H1 =>
 buildSliceV tab 50 0 [] H1 (wkK fun v7 H2 =>
 fieldAddrV tab 34 v2 1 fun v8 =>
 loadV tab 3 v8 H2 fun v9 =>
 L29_0 K v1 v2 v7 v9 (AV.p (.int .i64 0)) H2)
theorem W29_wp (v0 : AV) (v1 : AV) (H : Heap) (K : AV → Heap → Prop) : wpC Try.prog tab D29 (bodyOf Try.f29) (retF tab [.tmp 4] K) (nthA [v0, v1]) H = W29 v0 v1 H K := by kernel_rfl
theorem W29_ok {v0 v1 : AV} {H : Heap} {K : AV → Heap → Prop} (h : W29 v0 v1 H K) : CallT Try.prog 29 [v0, v1] H K :=
  CallT.of_wp (D := D29) tab_ok mixed Try.func29 (c := bodyOf Try.f29) (by kernel_rfl) rfl (by kernel_rfl) (rs := #[.tmp 4]) rfl (by decide +kernel) (by kernel_rfl) (W29_wp v0 v1 H K) h
theorem L29_0_rule {K : AV → Heap → Prop} {v1 v2 v5 v9 v10 : AV} {H : Heap} {σ : Type} (s0 : σ) (f5 : σ → AV) (f10 : σ → AV) (TH : σ → Heap) (pre : σ → Prop) (μ : σ → Nat)
    (h0 : pre s0 ∧ AV.wk v5 (f5 s0) ∧ AV.wk v10 (f10 s0) ∧ Heap.le (TH s0) H)
    (round : ∀ s, pre s → B29_0 K (fun w5 w10 H' => ∃ s', pre s' ∧ μ s' < μ s ∧ AV.wk w5 (f5 s') ∧ AV.wk w10 (f10 s') ∧ Heap.le (TH s') H') v1 v2 (f5 s) v9 (f10 s) (TH s)) :
    L29_0 K v1 v2 v5 v9 v10 H := by
  unfold L29_0
  exact LoopV.mk s0 (fun s => [f5 s, f10 s]) TH pre μ (fun _ => rfl) (Eq.mp (by kernel_rfl) h0) (fun s hs => Eq.mp (by kernel_rfl) (round s hs))
/-- loop.example/g00649/impl.checkedTerm -/
def D30 : Info := ⟨14, fun i => ([], []), fun i => ([], [])⟩
def W30 (v0 : AV) (v1 : AV) (v2 : AV) (H : Heap) (K : AV → Heap → Prop) : Prop :=
 CallT Try.prog 50 [v0, v1, v2] H fun v11 H1 =>
 unV .not v11 fun v12 =>
 condV v12 (K (.tup [(AV.p .nil), (AV.p (.bool false))]) H1)
 (K (.tup [v2, (AV.p (.bool true))]) H1)
theorem W30_wp (v0 : AV) (v1 : AV) (v2 : AV) (H : Heap) (K : AV → Heap → Prop) : wpC Try.prog tab D30 (bodyOf Try.f30) (retF tab [.tmp 6, .tmp 7] K) (nthA [v0, v1, v2]) H = W30 v0 v1 v2 H K := by kernel_rfl
theorem W30_ok {v0 v1 v2 : AV} {H : Heap} {K : AV → Heap → Prop} (h : W30 v0 v1 v2 H K) : CallT Try.prog 30 [v0, v1, v2] H K :=
  CallT.of_wp (D := D30) tab_ok mixed Try.func30 (c := bodyOf Try.f30) (by kernel_rfl) rfl (by kernel_rfl) (rs := #[.tmp 6, .tmp 7]) rfl (by decide +kernel) (by kernel_rfl) (W30_wp v0 v1 v2 H K) h
/-- loop.example/g00649/laws.eqNode -/
def D31 : Info := ⟨15, fun i => ([], []), fun i => ([], [])⟩
def W31 (v0 : AV) (v1 : AV) (H : Heap) (K : AV → Heap → Prop) : Prop :=
 boxV v0 H fun v2 H1 =>
 boxV v1 H1 fun v3 H2 =>
 fieldAddrV tab 54 v2 0 fun v5 =>
 loadV tab 3 v5 H2 fun v6 =>
 fieldAddrV tab 54 v3 0 fun v7 =>
 loadV tab 3 v7 H2 fun v8 =>
 binV tab .neq 3 v6 v8 fun v9 =>
 condV v9 (K (AV.p (.bool false)) H2)
 (fieldAddrV tab 54 v2 1 fun v10 =>
 loadV tab 52 v10 H2 fun v11 =>
 fieldAddrV tab 54 v3 1 fun v12 =>
 loadV tab 52 v12 H2 fun v13 =>
 binV tab .neq 52 v11 v13 fun v14 =>
 condV v14 (K (AV.p (.bool false)) H2)
 (K (AV.p (.bool true)) H2))
theorem W31_wp (v0 : AV) (v1 : AV) (H : Heap) (K : AV → Heap → Prop) : wpC Try.prog tab D31 (bodyOf Try.f31) (retF tab [.tmp 4] K) (nthA [v0, v1]) H = W31 v0 v1 H K := by kernel_rfl
theorem W31_ok {v0 v1 : AV} {H : Heap} {K : AV → Heap → Prop} (h : W31 v0 v1 H K) : CallT Try.prog 31 [v0, v1] H K :=
  CallT.of_wp (D := D31) tab_ok mixed Try.func31 (c := bodyOf Try.f31) (by kernel_rfl) rfl (by kernel_rfl) (rs := #[.tmp 4]) rfl (by decide +kernel) (by kernel_rfl) (W31_wp v0 v1 H K) h
/-- loop.example/g00649/laws.eqCommandS -/
def D32 : Info := ⟨27, fun i => if i = 6 then ([[], [], [0, 1], [0, 1, 2], [], [], [4, 5], [4, 5, 6], [0, 1, 2, 3, 4, 5, 6, 7], [0, 1, 2, 3, 4, 5, 6, 7, 8]], [(0, []), (1, []), (2, []), (3, []), (4, []), (5, []), (6, []), (7, []), (8, []), (9, [])]) else ([], []), fun i => if i = 4 then ([0, 1], [5]) else ([], [])⟩
def L32_0 (K : AV → Heap → Prop) (v0 : AV) (v1 : AV) (v5 : AV) (H : Heap) : Prop := LoopV (wpC Try.prog tab D32 (cAt [1, 1, 0, 1, 0, 0] (bodyOf Try.f32))) [0, 1] (PostF.block 0 (PostF.thenA (wpC Try.prog tab D32 (cAt [1, 1, 1] (bodyOf Try.f32))) (retF tab [.tmp 4] K))) [5] [v0, v1, AV.any, AV.any, AV.any, v5, AV.any, AV.any, AV.any, AV.any, AV.any, AV.any, AV.any, AV.any, AV.any, AV.any, AV.any, AV.any, AV.any, AV.any, AV.any, AV.any, AV.any, AV.any, AV.any, AV.any, AV.any] H
def B32_0 (K : AV → Heap → Prop) (N1 : AV → Heap → Prop) (v0 : AV) (v1 : AV) (v5 : AV) (H : Heap) : Prop :=
 lenV tab 32 v0 fun v13 =>
 binV tab .lss 3 v5 v13 fun v14 =>
 condV v14 (indexAddrV tab 32 v0 v5 fun v19 =>
 loadV tab 79 v19 H fun v20 =>
 indexAddrV tab 32 v1 v5 fun v23 =>
 loadV tab 79 v23 H fun v24 =>
 CallT Try.prog 51 [v20, v24] H fun v25 H1 =>
 unV .not v25 fun v26 =>
 condV v26 (K (AV.p (.bool false)) H1)
 (binV tab .add 3 v5 (AV.p (.int .i64 1)) fun v16 =>
 N1 v16 H1))
 (K (AV.p (.bool true)) H)
def W32 (v0 : AV) (v1 : AV) (H : Heap) (K : AV → Heap → Prop) : Prop :=
 lenV tab 32 v0 fun v7 =>
 lenV tab 32 v1 fun v9 =>
 binV tab .neq 3 v7 v9 fun v10 =>
 condV v10 (K (AV.p (.bool false)) H)
 (L32_0 K v0 v1 (AV.p (.int .i64 0)) H)
theorem W32_wp (v0 : AV) (v1 : AV) (H : Heap) (K : AV → Heap → Prop) : wpC Try.prog tab D32 (bodyOf Try.f32) (retF tab [.tmp 4] K) (nthA [v0, v1]) H = W32 v0 v1 H K := by kernel_rfl
theorem W32_ok {v0 v1 : AV} {H : Heap} {K : AV → Heap → Prop} (h : W32 v0 v1 H K) : CallT Try.prog 32 [v0, v1] H K :=
  CallT.of_wp (D := D32) tab_ok mixed Try.func32 (c := bodyOf Try.f32) (by kernel_rfl) rfl (by kernel_rfl) (rs := #[.tmp 4]) rfl (by decide +kernel) (by kernel_rfl) (W32_wp v0 v1 H K) h
theorem L32_0_rule {K : AV → Heap → Prop} {v0 v1 v5 : AV} {H : Heap} {σ : Type} (s0 : σ) (f5 : σ → AV) (TH : σ → Heap) (pre : σ → Prop) (μ : σ → Nat)
    (h0 : pre s0 ∧ AV.wk v5 (f5 s0) ∧ Heap.le (TH s0) H)
    (round : ∀ s, pre s → B32_0 K (fun w5 H' => ∃ s', pre s' ∧ μ s' < μ s ∧ AV.wk w5 (f5 s') ∧ Heap.le (TH s') H') v0 v1 (f5 s) (TH s)) :
    L32_0 K v0 v1 v5 H := by
  unfold L32_0
  exact LoopV.mk s0 (fun s => [f5 s]) TH pre μ (fun _ => rfl) (Eq.mp (by kernel_rfl) h0) (fun s hs => Eq.mp (by kernel_rfl) (round s hs))
/-- loop.example/g00649/laws.markCommandS -/
def D33 : Info := ⟨27, fun i => ([], []), fun i => if i = 2 then ([0], [1, 5]) else ([], [])⟩
def L33_0 (K : AV → Heap → Prop) (v0 : AV) (v1 : AV) (v5 : AV) (H : Heap) : Prop := LoopV (wpC Try.prog tab D33 (cAt [1, 0, 1, 0, 0] (bodyOf Try.f33))) [0] (PostF.block 0 (PostF.thenA (wpC Try.prog tab D33 (cAt [1, 1] (bodyOf Try.f33))) (retF tab [.tmp 4] K))) [1, 5] [v0, v1, AV.any, AV.any, AV.any, v5, AV.any, AV.any, AV.any, AV.any, AV.any, AV.any, AV.any, AV.any, AV.any, AV.any, AV.any, AV.any, AV.any, AV.any, AV.any, AV.any, AV.any, AV.any, AV.any, AV.any, AV.any] H
def B33_0 (K : AV → Heap → Prop) (N1 : AV → AV → Heap → Prop) (v0 : AV) (v1 : AV) (v5 : AV) (H : Heap) : Prop :=
 lenV tab 32 v0 fun v8 =>
 binV tab .lss 3 v5 v8 fun v9 =>
 condV v9 (indexAddrV tab 32 v0 v5 fun v14 =>
 fieldAddrV tab 79 v14 0 fun v15 =>
 loadV tab 29 v15 H fun v16 =>
 CallT Try.prog 15 [v16, v1] H fun v18 H1 =>
 indexAddrV tab 32 v0 v5 fun v21 =>
 fieldAddrV tab 79 v21 1 fun v22 =>
 loadV tab 77 v22 H1 fun v23 =>
 CallT Try.prog 52 [v23, v18] H1 fun v25 H2 =>
 binV tab .add 3 v5 (AV.p (.int .i64 1)) fun v11 =>
 N1 v25 v11 H2)
 (K v1 H)
def W33 (v0 : AV) (v1 : AV) (H : Heap) (K : AV → Heap → Prop) : Prop :=
 L33_0 K v0 v1 (AV.p (.int .i64 0)) H
theorem W33_wp (v0 : AV) (v1 : AV) (H : Heap) (K : AV → Heap → Prop) : wpC Try.prog tab D33 (bodyOf Try.f33) (retF tab [.tmp 4] K) (nthA [v0, v1]) H = W33 v0 v1 H K := by kernel_rfl
theorem W33_ok {v0 v1 : AV} {H : Heap} {K : AV → Heap → Prop} (h : W33 v0 v1 H K) : CallT Try.prog 33 [v0, v1] H K :=
  CallT.of_wp (D := D33) tab_ok mixed Try.func33 (c := bodyOf Try.f33) (by kernel_rfl) rfl (by kernel_rfl) (rs := #[.tmp 4]) rfl (by decide +kernel) (by kernel_rfl) (W33_wp v0 v1 H K) h
theorem L33_0_rule {K : AV → Heap → Prop} {v0 v1 v5 : AV} {H : Heap} {σ : Type} (s0 : σ) (f1 : σ → AV) (f5 : σ → AV) (TH : σ → Heap) (pre : σ → Prop) (μ : σ → Nat)
    (h0 : pre s0 ∧ AV.wk v1 (f1 s0) ∧ AV.wk v5 (f5 s0) ∧ Heap.le (TH s0) H)
    (round : ∀ s, pre s → B33_0 K (fun w1 w5 H' => ∃ s', pre s' ∧ μ s' < μ s ∧ AV.wk w1 (f1 s') ∧ AV.wk w5 (f5 s') ∧ Heap.le (TH s') H') v0 (f1 s) (f5 s) (TH s)) :
    L33_0 K v0 v1 v5 H := by
  unfold L33_0
  exact LoopV.mk s0 (fun s => [f1 s, f5 s]) TH pre μ (fun _ => rfl) (Eq.mp (by kernel_rfl) h0) (fun s hs => Eq.mp (by kernel_rfl) (round s hs))
/-- loop.example/g00649/laws.szCommand -/
def D34 : Info := ⟨18, fun i => ([], []), fun i => ([], [])⟩
def W34 (v0 : AV) (v1 : AV) (H : Heap) (K : AV → Heap → Prop) : Prop :=
 boxV v0 H fun v2 H1 =>
 fieldAddrV tab 67 v2 0 fun v5 =>
 loadV tab 22 v5 H1 fun v6 =>
 CallT Try.prog 17 [v6, v1] H1 fun v8 H2 =>
 binV tab .lss 3 v8 (AV.p (.int .i64 0)) fun v10 =>
 condV v10 (K (AV.p (.int .i64 (-1))) H2)
 (fieldAddrV tab 67 v2 1 fun v11 =>
 loadV tab 65 v11 H2 fun v12 =>
 CallT Try.prog 53 [v12, v8] H2 fun v14 H3 =>
 binV tab .lss 3 v14 (AV.p (.int .i64 0)) fun v16 =>
 condV v16 (K (AV.p (.int .i64 (-1))) H3)
 (K v14 H3))
theorem W34_wp (v0 : AV) (v1 : AV) (H : Heap) (K : AV → Heap → Prop) : wpC Try.prog tab D34 (bodyOf Try.f34) (retF tab [.tmp 4] K) (nthA [v0, v1]) H = W34 v0 v1 H K := by kernel_rfl
theorem W34_ok {v0 v1 : AV} {H : Heap} {K : AV → Heap → Prop} (h : W34 v0 v1 H K) : CallT Try.prog 34 [v0, v1] H K :=
  CallT.of_wp (D := D34) tab_ok mixed Try.func34 (c := bodyOf Try.f34) (by kernel_rfl) rfl (by kernel_rfl) (rs := #[.tmp 4]) rfl (by decide +kernel) (by kernel_rfl) (W34_wp v0 v1 H K) h
/-- loop.example/g00649/spec.l7Small -/
def D35 : Info := ⟨13, fun i => ([], []), fun i => ([], [])⟩
def W35 (v0 : AV) (H : Heap) (K : AV → Heap → Prop) : Prop :=
 boxV v0 H fun v1 H1 =>
 loadV tab 34 v1 H1 fun v3 =>
 CallT Try.prog 54 [v3] H1 fun v4 H2 =>
 grdV v4 true (fieldAddrV tab 34 v1 0 fun v6 =>
 loadV tab 3 v6 H2 fun v7 =>
 fieldAddrV tab 34 v1 1 fun v8 =>
 loadV tab 3 v8 H2 fun v9 =>
 binV tab .mul 3 v7 v9 fun v10 =>
 binV tab .leq 3 v10 (AV.p (.int .i64 5)) fun v11 =>
 K v11 H2)
 (K (AV.p (.bool false)) H2)
theorem W35_wp (v0 : AV) (H : Heap) (K : AV → Heap → Prop) : wpC Try.prog tab D35 (bodyOf Try.f35) (retF tab [.tmp 2] K) (nthA [v0]) H = W35 v0 H K := by kernel_rfl
theorem W35_ok {v0 : AV} {H : Heap} {K : AV → Heap → Prop} (h : W35 v0 H K) : CallT Try.prog 35 [v0] H K :=
  CallT.of_wp (D := D35) tab_ok mixed Try.func35 (c := bodyOf Try.f35) (by kernel_rfl) rfl (by kernel_rfl) (rs := #[.tmp 2]) rfl (by decide +kernel) (by kernel_rfl) (W35_wp v0 H K) h
/-- loop.example/g00649/spec.l1In -/
def D36 : Info := ⟨15, fun i => ([], []), fun i => ([], [])⟩
def W36 (v0 : AV) (v1 : AV) (v2 : AV) (H : Heap) (K : AV → Heap → Prop) : Prop :=
 binV tab .geq 3 v0 v1 fun v9 =>
 grdV v9 true (binV tab .leq 3 v0 v2 fun v13 =>
 K v13 H)
 (K (AV.p (.bool false)) H)
theorem W36_wp (v0 : AV) (v1 : AV) (v2 : AV) (H : Heap) (K : AV → Heap → Prop) : wpC Try.prog tab D36 (bodyOf Try.f36) (retF tab [.tmp 6] K) (nthA [v0, v1, v2]) H = W36 v0 v1 v2 H K := by kernel_rfl
theorem W36_ok {v0 v1 v2 : AV} {H : Heap} {K : AV → Heap → Prop} (h : W36 v0 v1 v2 H K) : CallT Try.prog 36 [v0, v1, v2] H K :=
  CallT.of_wp (D := D36) tab_ok mixed Try.func36 (c := bodyOf Try.f36) (by kernel_rfl) rfl (by kernel_rfl) (rs := #[.tmp 6]) rfl (by decide +kernel) (by kernel_rfl) (W36_wp v0 v1 v2 H K) h
/-- loop.example/g00649/spec.l7Many -/
def D37 : Info := ⟨10, fun i => ([], []), fun i => ([], [])⟩
def W37 (v0 : AV) (H : Heap) (K : AV → Heap → Prop) : Prop :=
 boxV v0 H fun v1 H1 =>
 fieldAddrV tab 34 v1 0 fun v3 =>
 loadV tab 3 v3 H1 fun v4 =>
 fieldAddrV tab 34 v1 1 fun v5 =>
 loadV tab 3 v5 H1 fun v6 =>
 binV tab .mul 3 v4 v6 fun v7 =>
 convV tab 3 73 v7 fun v8 =>
 binV tab .shl 3 (AV.p (.int .i64 1)) v8 fun v9 =>
 K v9 H1
theorem W37_wp (v0 : AV) (H : Heap) (K : AV → Heap → Prop) : wpC Try.prog tab D37 (bodyOf Try.f37) (retF tab [.tmp 2] K) (nthA [v0]) H = W37 v0 H K := by kernel_rfl
theorem W37_ok {v0 : AV} {H : Heap} {K : AV → Heap → Prop} (h : W37 v0 H K) : CallT Try.prog 37 [v0] H K :=
  CallT.of_wp (D := D37) tab_ok mixed Try.func37 (c := bodyOf Try.f37) (by kernel_rfl) rfl (by kernel_rfl) (rs := #[.tmp 2]) rfl (by decide +kernel) (by kernel_rfl) (W37_wp v0 H K) h
/-- loop.example/g00649/spec.l7Asks -/
def D38 : Info := ⟨12, fun i => ([], []), fun i => ([], [])⟩
def W38 (v0 : AV) (v1 : AV) (H : Heap) (K : AV → Heap → Prop) : Prop :=
 boxV v0 H fun v2 H1 =>
 fieldAddrV tab 34 v2 0 fun v5 =>
 loadV tab 3 v5 H1 fun v6 =>
 fieldAddrV tab 34 v2 1 fun v7 =>
 loadV tab 3 v7 H1 fun v8 =>
 CallT Try.prog 55 [v6, v8, v1] H1 fun v10 H2 =>
 binV tab .eql 3 v10 (AV.p (.int .i64 2)) fun v11 =>
 K v11 H2
theorem W38_wp (v0 : AV) (v1 : AV) (H : Heap) (K : AV → Heap → Prop) : wpC Try.prog tab D38 (bodyOf Try.f38) (retF tab [.tmp 4] K) (nthA [v0, v1]) H = W38 v0 v1 H K := by kernel_rfl
theorem W38_ok {v0 v1 : AV} {H : Heap} {K : AV → Heap → Prop} (h : W38 v0 v1 H K) : CallT Try.prog 38 [v0, v1] H K :=
  CallT.of_wp (D := D38) tab_ok mixed Try.func38 (c := bodyOf Try.f38) (by kernel_rfl) rfl (by kernel_rfl) (rs := #[.tmp 4]) rfl (by decide +kernel) (by kernel_rfl) (W38_wp v0 v1 H K) h
/-- loop.example/g00649/spec.l2Value -/
def D39 : Info := ⟨81, fun i => if i = 11 then ([[], [], [1], [], [], [], [], [6], [5, 6, 7], [5, 6, 7, 8], [], [3, 4, 5, 6, 7, 8, 9, 10], [], [], [], [14], [], [3, 4, 5, 6, 7, 8, 9, 10, 11, 12, 13, 14, 15, 16], [0, 1, 2, 3, 4, 5, 6, 7, 8, 9, 10, 11, 12, 13, 14, 15, 16, 17], [0, 1, 2, 3, 4, 5, 6, 7, 8, 9, 10, 11, 12, 13, 14, 15, 16, 17, 18]], [(0, []), (1, []), (2, []), (3, []), (4, []), (5, []), (6, []), (7, []), (10, []), (12, []), (13, []), (14, []), (15, []), (16, []), (8, [2]), (9, []), (11, [2]), (17, [2]), (18, []), (19, [])]) else ([], []), fun i => ([], [])⟩
def W39 (v0 : AV) (v1 : AV) (v2 : AV) (v3 : AV) (H : Heap) (K : AV → Heap → Prop) : Prop :=
 indexAddrV tab 29 v1 v2 fun v15 =>
 loadV tab 54 v15 H fun v16 =>
 allocV tab 54 H fun v9 H1 =>
 storeV tab 54 v9 v16 H1 fun H2 =>
 fieldAddrV tab 54 v9 0 fun v18 =>
 loadV tab 3 v18 H2 fun v19 =>
 CallT Try.prog 56 [v19] H2 fun v20 H3 =>
 extractV v20 0 fun v21 =>
 extractV v20 1 fun v22 =>
 extractV v20 2 fun v23 =>
 fieldAddrV tab 54 v9 0 fun v25 =>
 loadV tab 3 v25 H3 fun v26 =>
 binV tab .eql 3 v26 (AV.p (.int .i64 2)) fun v27 =>
 condV v27 (fieldAddrV tab 54 v9 1 fun v29 =>
 loadV tab 52 v29 H3 fun v30 =>
 indexAddrV tab 50 v3 v30 fun v31 =>
 loadV tab 52 v31 H3 fun v32 =>
 K v32 H3)
 (binV tab .eql 3 v21 (AV.p (.int .i64 0)) fun v35 =>
 condV v35 (fieldAddrV tab 54 v9 1 fun v36 =>
 loadV tab 52 v36 H3 fun v37 =>
 K v37 H3)
 (fieldAddrV tab 54 v9 0 fun v39 =>
 loadV tab 3 v39 H3 fun v40 =>
 binV tab .eql 3 v40 (AV.p (.int .i64 13)) fun v41 =>
 condV v41 (binV tab .sub 3 v2 (AV.p (.int .i64 1)) fun v46 =>
 CallT Try.prog 39 [v0, v1, v46, v3] H3 fun v48 H4 =>
 unV .xor v48 fun v49 =>
 CallT Try.prog 57 [v0, v49] H4 fun v50 H5 =>
 K v50 H5)
 (fieldAddrV tab 54 v9 0 fun v52 =>
 loadV tab 3 v52 H3 fun v53 =>
 binV tab .eql 3 v53 (AV.p (.int .i64 19)) fun v54 =>
 condV v54 (binV tab .sub 3 v2 (AV.p (.int .i64 1)) fun v58 =>
 CallT Try.prog 39 [v0, v1, v58, v3] H3 fun v60 H6 =>
 binV tab .sub 52 (AV.p (.int .u64 1)) v60 fun v61 =>
 K v61 H6)
 (fieldAddrV tab 54 v9 0 fun v63 =>
 loadV tab 3 v63 H3 fun v64 =>
 binV tab .sub 3 v2 (AV.p (.int .i64 1)) fun v69 =>
 binV tab .sub 3 v2 (AV.p (.int .i64 1)) fun v77 =>
 CallT Try.prog 59 [v1, v69] H3 fun v70 H7 =>
 (loadV tab 3 v63 H7 fun v9064 =>
 v64 = v9064) ∧
 binV tab .sub 3 v70 (AV.p (.int .i64 1)) fun v71 =>
 CallT Try.prog 39 [v0, v1, v71, v3] H7 fun v73 H8 =>
 (loadV tab 3 v63 H8 fun v9064 =>
 v64 = v9064) ∧
 CallT Try.prog 39 [v0, v1, v77, v3] H8 fun v79 H9 =>
 (loadV tab 3 v63 H9 fun v9064 =>
 v64 = v9064) ∧
 CallT Try.prog 58 [v0, v64, v73, v79] H9 fun v80 H10 =>
 K v80 H10))))
theorem W39_wp (v0 : AV) (v1 : AV) (v2 : AV) (v3 : AV) (H : Heap) (K : AV → Heap → Prop) : wpC Try.prog tab D39 (bodyOf Try.f39) (retF tab [.tmp 8] K) (nthA [v0, v1, v2, v3]) H = W39 v0 v1 v2 v3 H K := by kernel_rfl
theorem W39_ok {v0 v1 v2 v3 : AV} {H : Heap} {K : AV → Heap → Prop} (h : W39 v0 v1 v2 v3 H K) : CallT Try.prog 39 [v0, v1, v2, v3] H K :=
  CallT.of_wp (D := D39) tab_ok mixed Try.func39 (c := bodyOf Try.f39) (by kernel_rfl) rfl (by kernel_rfl) (rs := #[.tmp 8]) rfl (by decide +kernel) (by kernel_rfl) (W39_wp v0 v1 v2 v3 H K) h
/-- loop.example/g00649/spec.GoodTerm -/
def D40 : Info := ⟨12, fun i => ([], []), fun i => ([], [])⟩
def W40 (v0 : AV) (v1 : AV) (v2 : AV) (H : Heap) (K : AV → Heap → Prop) : Prop :=
 CallT Try.prog 55 [v0, v1, v2] H fun v10 H1 =>
 binV tab .gtr 3 v10 (AV.p (.int .i64 0)) fun v11 =>
 K v11 H1
theorem W40_wp (v0 : AV) (v1 : AV) (v2 : AV) (H : Heap) (K : AV → Heap → Prop) : wpC Try.prog tab D40 (bodyOf Try.f40) (retF tab [.tmp 6] K) (nthA [v0, v1, v2]) H = W40 v0 v1 v2 H K := by kernel_rfl
theorem W40_ok {v0 v1 v2 : AV} {H : Heap} {K : AV → Heap → Prop} (h : W40 v0 v1 v2 H K) : CallT Try.prog 40 [v0, v1, v2] H K :=
  CallT.of_wp (D := D40) tab_ok mixed Try.func40 (c := bodyOf Try.f40) (by kernel_rfl) rfl (by kernel_rfl) (rs := #[.tmp 6]) rfl (by decide +kernel) (by kernel_rfl) (W40_wp v0 v1 v2 H K) h
/-- loop.example/g00649/laws.toNode -/
def D41 : Info := ⟨11, fun i => ([], []), fun i => ([], [])⟩
def W41 (v0 : AV) (H : Heap) (K : AV → Heap → Prop) : Prop :=
 boxV v0 H fun v1 H1 =>
 allocV tab 54 H1 fun v2 H2 =>
 allocV tab 54 H2 fun v3 H3 =>
 fieldAddrV tab 76 v1 0 fun v4 =>
 loadV tab 3 v4 H3 fun v5 =>
 fieldAddrV tab 54 v3 0 fun v6 =>
 storeV tab 3 v6 v5 H3 fun H4 =>
 fieldAddrV tab 76 v1 1 fun v7 =>
 loadV tab 52 v7 H4 fun v8 =>
 fieldAddrV tab 54 v3 1 fun v9 =>
 storeV tab 52 v9 v8 H4 fun H5 =>
 loadV tab 54 v3 H5 fun v10 =>
 storeV tab 54 v2 v10 H5 fun H6 =>
 loadV tab 54 v2 H6 fun r0 =>
 K r0 H6
theorem W41_wp (v0 : AV) (H : Heap) (K : AV → Heap → Prop) : wpC Try.prog tab D41 (bodyOf Try.f41) (retF tab [.cell 2 54] K) (nthA [v0]) H = W41 v0 H K := by kernel_rfl
theorem W41_ok {v0 : AV} {H : Heap} {K : AV → Heap → Prop} (h : W41 v0 H K) : CallT Try.prog 41 [v0] H K :=
  CallT.of_wp (D := D41) tab_ok mixed Try.func41 (c := bodyOf Try.f41) (by kernel_rfl) rfl (by kernel_rfl) (rs := #[.cell 2 54]) rfl (by decide +kernel) (by kernel_rfl) (W41_wp v0 H K) h
/-- loop.example/g00649/laws.toCommand -/
def D42 : Info := ⟨13, fun i => ([], []), fun i => ([], [])⟩
def W42 (v0 : AV) (H : Heap) (K : AV → Heap → Prop) : Prop :=
 boxV v0 H fun v1 H1 =>
 allocV tab 79 H1 fun v2 H2 =>
 allocV tab 79 H2 fun v3 H3 =>
 fieldAddrV tab 67 v1 0 fun v4 =>
 loadV tab 22 v4 H3 fun v5 =>
 CallT Try.prog 24 [v5] H3 fun v6 H4 =>
 fieldAddrV tab 79 v3 0 fun v7 =>
 storeV tab 29 v7 v6 H4 fun H5 =>
 fieldAddrV tab 67 v1 1 fun v8 =>
 loadV tab 65 v8 H5 fun v9 =>
 CallT Try.prog 60 [v9] H5 fun v10 H6 =>
 fieldAddrV tab 79 v3 1 fun v11 =>
 storeV tab 77 v11 v10 H6 fun H7 =>
 loadV tab 79 v3 H7 fun v12 =>
 storeV tab 79 v2 v12 H7 fun H8 =>
 loadV tab 79 v2 H8 fun r0 =>
 K r0 H8
theorem W42_wp (v0 : AV) (H : Heap) (K : AV → Heap → Prop) : wpC Try.prog tab D42 (bodyOf Try.f42) (retF tab [.cell 2 79] K) (nthA [v0]) H = W42 v0 H K := by kernel_rfl
theorem W42_ok {v0 : AV} {H : Heap} {K : AV → Heap → Prop} (h : W42 v0 H K) : CallT Try.prog 42 [v0] H K :=
  CallT.of_wp (D := D42) tab_ok mixed Try.func42 (c := bodyOf Try.f42) (by kernel_rfl) rfl (by kernel_rfl) (rs := #[.cell 2 79]) rfl (by decide +kernel) (by kernel_rfl) (W42_wp v0 H K) h
/-- loop.example/g00649/impl.isSmall -/
def D43 : Info := ⟨13, fun i => ([], []), fun i => ([], [])⟩
def W43 (v0 : AV) (H : Heap) (K : AV → Heap → Prop) : Prop :=
 boxV v0 H fun v1 H1 =>
 loadV tab 34 v1 H1 fun v3 =>
 CallT Try.prog 61 [v3] H1 fun v4 H2 =>
 grdV v4 true (fieldAddrV tab 34 v1 0 fun v6 =>
 loadV tab 3 v6 H2 fun v7 =>
 fieldAddrV tab 34 v1 1 fun v8 =>
 loadV tab 3 v8 H2 fun v9 =>
 binV tab .mul 3 v7 v9 fun v10 =>
 binV tab .leq 3 v10 (AV.p (.int .i64 5)) fun v11 =>
 K v11 H2)
 (K (AV.p (.bool false)) H2)
theorem W43_wp (v0 : AV) (H : Heap) (K : AV → Heap → Prop) : wpC Try.prog tab D43 (bodyOf Try.f43) (retF tab [.tmp 2] K) (nthA [v0]) H = W43 v0 H K := by kernel_rfl
theorem W43_ok {v0 : AV} {H : Heap} {K : AV → Heap → Prop} (h : W43 v0 H K) : CallT Try.prog 43 [v0] H K :=
  CallT.of_wp (D := D43) tab_ok mixed Try.func43 (c := bodyOf Try.f43) (by kernel_rfl) rfl (by kernel_rfl) (rs := #[.tmp 2]) rfl (by decide +kernel) (by kernel_rfl) (W43_wp v0 H K) h
/-- (loop.example/g00649/impl.Program).states -/
def D44 : Info := ⟨9, fun i => ([], []), fun i => ([], [])⟩
def W44 (v0 : AV) (H : Heap) (K : AV → Heap → Prop) : Prop :=
 boxV v0 H fun v1 H1 =>
 fieldAddrV tab 34 v1 0 fun v3 =>
 loadV tab 3 v3 H1 fun v4 =>
 fieldAddrV tab 34 v1 1 fun v5 =>
 loadV tab 3 v5 H1 fun v6 =>
 binV tab .mul 3 v4 v6 fun v7 =>
 binV tab .shl 3 (AV.p (.int .i64 1)) v7 fun v8 =>
 K v8 H1
theorem W44_wp (v0 : AV) (H : Heap) (K : AV → Heap → Prop) : wpC Try.prog tab D44 (bodyOf Try.f44) (retF tab [.tmp 2] K) (nthA [v0]) H = W44 v0 H K := by kernel_rfl
theorem W44_ok {v0 : AV} {H : Heap} {K : AV → Heap → Prop} (h : W44 v0 H K) : CallT Try.prog 44 [v0] H K :=
  CallT.of_wp (D := D44) tab_ok mixed Try.func44 (c := bodyOf Try.f44) (by kernel_rfl) rfl (by kernel_rfl) (rs := #[.tmp 2]) rfl (by decide +kernel) (by kernel_rfl) (W44_wp v0 H K) h
/-- slices.ContainsFunc[[][]loop.example/g00649/impl.Node,[]loop.example/g00649/impl.Node] -/
def D45 : Info := ⟨9, fun i => ([], []), fun i => ([], [])⟩
def W45 (v0 : AV) (v1 : AV) (H : Heap) (K : AV → Heap → Prop) : Prop :=
 CallT Try.prog 62 [v0, v1] H fun v7 H1 =>
 binV tab .geq 3 v7 (AV.p (.int .i64 0)) fun v8 =>
 K v8 H1
theorem W45_wp (v0 : AV) (v1 : AV) (H : Heap) (K : AV → Heap → Prop) : wpC Try.prog tab D45 (bodyOf Try.f45) (retF tab [.tmp 4] K) (nthA [v0, v1]) H = W45 v0 v1 H K := by kernel_rfl
theorem W45_ok {v0 v1 : AV} {H : Heap} {K : AV → Heap → Prop} (h : W45 v0 v1 H K) : CallT Try.prog 45 [v0, v1] H K :=
  CallT.of_wp (D := D45) tab_ok mixed Try.func45 (c := bodyOf Try.f45) (by kernel_rfl) rfl (by kernel_rfl) (rs := #[.tmp 4]) rfl (by decide +kernel) (by kernel_rfl) (W45_wp v0 v1 H K) h
/-- (loop.example/g00649/impl.Program).arePreds$1 -/
def D46 : Info := ⟨8, fun i => ([], []), fun i => ([], [])⟩
def W46 (v0 : AV) (v1 : AV) (H : Heap) (K : AV → Heap → Prop) : Prop :=
 loadV tab 34 v1 H fun v4 =>
 CallT Try.prog 47 [v4, v0] H fun v6 H1 =>
 unV .not v6 fun v7 =>
 K v7 H1
theorem W46_wp (v0 : AV) (v1 : AV) (H : Heap) (K : AV → Heap → Prop) : wpC Try.prog tab D46 (bodyOf Try.f46) (retF tab [.tmp 3] K) (nthA [v0, v1]) H = W46 v0 v1 H K := by kernel_rfl
theorem W46_ok {v0 v1 : AV} {H : Heap} {K : AV → Heap → Prop} (h : W46 v0 v1 H K) : CallT Try.prog 46 [v0, v1] H K :=
  CallT.of_wp (D := D46) tab_ok mixed Try.func46 (c := bodyOf Try.f46) (by kernel_rfl) rfl (by kernel_rfl) (rs := #[.tmp 3]) rfl (by decide +kernel) (by kernel_rfl) (W46_wp v0 v1 H K) h
/-- (loop.example/g00649/impl.Program).isCondition -/
def D47 : Info := ⟨11, fun i => ([], []), fun i => ([], [])⟩
def W47 (v0 : AV) (v1 : AV) (H : Heap) (K : AV → Heap → Prop) : Prop :=
 boxV v0 H fun v2 H1 =>
 fieldAddrV tab 34 v2 0 fun v5 =>
 loadV tab 3 v5 H1 fun v6 =>
 fieldAddrV tab 34 v2 1 fun v7 =>
 loadV tab 3 v7 H1 fun v8 =>
 CallT Try.prog 63 [v6, v8, v1, (AV.p (.int .i64 2))] H1 fun v10 H2 =>
 K v10 H2
theorem W47_wp (v0 : AV) (v1 : AV) (H : Heap) (K : AV → Heap → Prop) : wpC Try.prog tab D47 (bodyOf Try.f47) (retF tab [.tmp 4] K) (nthA [v0, v1]) H = W47 v0 v1 H K := by kernel_rfl
theorem W47_ok {v0 v1 : AV} {H : Heap} {K : AV → Heap → Prop} (h : W47 v0 v1 H K) : CallT Try.prog 47 [v0, v1] H K :=
  CallT.of_wp (D := D47) tab_ok mixed Try.func47 (c := bodyOf Try.f47) (by kernel_rfl) rfl (by kernel_rfl) (rs := #[.tmp 4]) rfl (by decide +kernel) (by kernel_rfl) (W47_wp v0 v1 H K) h
/-- loop.example/g00649/impl.valueOf -/
def D48 : Info := ⟨87, fun i => if i = 7 then ([[], [], [1], [0, 1, 2], [], [], [5], [], [], [8], [7, 8, 9], [7, 8, 9, 10], [], [], [12, 13], [12, 13, 14], [4, 5, 6, 7, 8, 9, 10, 11, 12, 13, 14, 15], [4, 5, 6, 7, 8, 9, 10, 11, 12, 13, 14, 15, 16], [0, 1, 2, 3, 4, 5, 6, 7, 8, 9, 10, 11, 12, 13, 14, 15, 16, 17], [0, 1, 2, 3, 4, 5, 6, 7, 8, 9, 10, 11, 12, 13, 14, 15, 16, 17, 18]], [(0, []), (1, []), (2, []), (3, []), (4, []), (5, []), (6, []), (7, []), (8, []), (9, []), (10, []), (11, []), (12, []), (13, []), (14, []), (15, []), (16, []), (17, []), (18, []), (19, [])]) else if i = 14 then ([[], [], [], [], [2, 3], [2, 3, 4], [2, 3, 4, 5], [], [7], [2, 3, 4, 5, 6, 7, 8], [0, 1, 2, 3, 4, 5, 6, 7, 8, 9], [0, 1, 2, 3, 4, 5, 6, 7, 8, 9, 10]], [(0, []), (1, []), (2, []), (3, []), (4, []), (5, []), (6, []), (7, []), (8, [5]), (9, []), (10, []), (11, [])]) else ([], []), fun i => if i = 3 then ([0, 2, 12, 13], [7, 14]) else ([], [])⟩
def L48_0 (K : AV → Heap → Prop) (v0 : AV) (v2 : AV) (v7 : AV) (v12 : AV) (v13 : AV) (v14 : AV) (H : Heap) : Prop := LoopV (wpC Try.prog tab D48 (cAt [1, 1, 0, 1, 0, 0] (bodyOf Try.f48))) [0, 2, 12, 13] (PostF.block 0 (PostF.thenA (wpC Try.prog tab D48 (cAt [1, 1, 1] (bodyOf Try.f48))) (retF tab [.tmp 6] K))) [7, 14] [v0, AV.any, v2, AV.any, AV.any, AV.any, AV.any, v7, AV.any, AV.any, AV.any, AV.any, v12, v13, v14, AV.any, AV.any, AV.any, AV.any, AV.any, AV.any, AV.any, AV.any, AV.any, AV.any, AV.any, AV.any, AV.any, AV.any, AV.any, AV.any, AV.any, AV.any, AV.any, AV.any, AV.any, AV.any, AV.any, AV.any, AV.any, AV.any, AV.any, AV.any, AV.any, AV.any, AV.any, AV.any, AV.any, AV.any, AV.any, AV.any, AV.any, AV.any, AV.any, AV.any, AV.any, AV.any, AV.any, AV.any, AV.any, AV.any, AV.any, AV.any, AV.any, AV.any, AV.any, AV.any, AV.any, AV.any, AV.any, AV.any, AV.any, AV.any, AV.any, AV.any, AV.any, AV.any, AV.any, AV.any, AV.any, AV.any, AV.any, AV.any, AV.any, AV.any, AV.any, AV.any] H
def J48_1 (K : AV → Heap → Prop) (N1 : AV → AV → Heap → Prop) (v0 : AV) (v2 : AV) (v7 : AV) (v9 : AV) (v10 : AV) (v12 : AV) (v13 : AV) (v14 : AV) (v22 : AV) (v42 : AV) (H : Heap) : Prop :=
 condV v42 (fieldAddrV tab 54 v9 1 fun v46 =>
 loadV tab 52 v46 H fun v47 =>
 buildSliceV tab 50 1 [(0, v47)] H (wkK fun v48 H4 =>
 appendV tab 50 50 v7 v48 H4 (wkK fun v49 H5 =>
 binV tab .add 3 v14 (AV.p (.int .i64 1)) fun v83 =>
 N1 v49 v83 H5)))
 (binV tab .eql 3 v22 (AV.p (.int .i64 2)) fun v51 =>
 condV v51 (fieldAddrV tab 54 v9 1 fun v54 =>
 loadV tab 52 v54 H fun v55 =>
 indexAddrV tab 50 v2 v55 fun v56 =>
 loadV tab 52 v56 H fun v57 =>
 buildSliceV tab 50 1 [(0, v57)] H (wkK fun v58 H6 =>
 appendV tab 50 50 v7 v58 H6 (wkK fun v59 H7 =>
 binV tab .add 3 v14 (AV.p (.int .i64 1)) fun v83 =>
 N1 v59 v83 H7)))
 (binV tab .eql 3 v22 (AV.p (.int .i64 13)) fun v61 =>
 condV v61 (indexAddrV tab 50 v7 v10 fun v66 =>
 loadV tab 52 v66 H fun v67 =>
 unV .xor v67 fun v68 =>
 CallT Try.prog 49 [v0] H fun v70 H8 =>
 (loadV tab 52 v66 H8 fun v9067 =>
 v67 = v9067) ∧
 binV tab .and 52 v68 v70 fun v71 =>
 indexAddrV tab 50 v7 v10 fun v72 =>
 storeV tab 52 v72 v71 H8 fun H9 =>
 binV tab .add 3 v14 (AV.p (.int .i64 1)) fun v83 =>
 N1 v7 v83 H9)
 (binV tab .eql 3 v22 (AV.p (.int .i64 19)) fun v74 =>
 condV v74 (indexAddrV tab 50 v7 v10 fun v79 =>
 loadV tab 52 v79 H fun v80 =>
 binV tab .sub 52 (AV.p (.int .u64 1)) v80 fun v81 =>
 indexAddrV tab 50 v7 v10 fun v82 =>
 storeV tab 52 v82 v81 H fun H10 =>
 binV tab .add 3 v14 (AV.p (.int .i64 1)) fun v83 =>
 N1 v7 v83 H10)
 (binV tab .sub 3 v10 (AV.p (.int .i64 1)) fun v25 =>
 sliceV tab 50 v7 none (some v25) none fun v26 =>
 fieldAddrV tab 54 v9 0 fun v28 =>
 loadV tab 3 v28 H fun v29 =>
 binV tab .sub 3 v10 (AV.p (.int .i64 1)) fun v32 =>
 indexAddrV tab 50 v7 v32 fun v33 =>
 loadV tab 52 v33 H fun v34 =>
 indexAddrV tab 50 v7 v10 fun v37 =>
 loadV tab 52 v37 H fun v38 =>
 CallT Try.prog 64 [v0, v29, v34, v38] H fun v39 H11 =>
 buildSliceV tab 50 1 [(0, v39)] H11 (wkK fun v40 H12 =>
 appendV tab 50 50 v26 v40 H12 (wkK fun v41 H13 =>
 binV tab .add 3 v14 (AV.p (.int .i64 1)) fun v83 =>
 N1 v41 v83 H13))))))
def B48_0 (K : AV → Heap → Prop) (N1 : AV → AV → Heap → Prop) (v0 : AV) (v2 : AV) (v7 : AV) (v12 : AV) (v13 : AV) (v14 : AV) (H : Heap) : Prop :=
 binV tab .lss 3 v14 v13 fun v15 =>
 condV v15 (indexAddrV tab 29 v12 v14 fun v16 =>
 loadV tab 54 v16 H fun v17 =>
 allocV tab 54 H fun v9 H2 =>
 storeV tab 54 v9 v17 H2 fun H3 =>
 lenV tab 50 v7 fun v19 =>
 binV tab .sub 3 v19 (AV.p (.int .i64 1)) fun v20 =>
 fieldAddrV tab 54 v9 0 fun v21 =>
 loadV tab 3 v21 H3 fun v22 =>
 binV tab .eql 3 v22 (AV.p (.int .i64 1)) fun v43 =>
 condV v43 (J48_1 K N1 v0 v2 v7 v9 v20 v12 v13 v14 v22 v43 H3)
 (binV tab .eql 3 v22 (AV.p (.int .i64 20)) fun v44 =>
 J48_1 K N1 v0 v2 v7 v9 v20 v12 v13 v14 v22 v44 H3))
 (indexAddrV tab 50 v7 (AV.p (.int .i64 0)) fun v85 =>
 loadV tab 52 v85 H fun v86 =>
 K v86 H)
def W48 (v0 : AV) (v1 : AV) (v2 : AV) (H : Heap) (K : AV → Heap → Prop) : Prop :=
 buildSliceV tab 50 0 [] H (wkK fun v11 H1 =>
 lenV tab 29 v1 fun v13 =>
 L48_0 K v0 v2 v11 v1 v13 (AV.p (.int .i64 0)) H1)
theorem W48_wp (v0 : AV) (v1 : AV) (v2 : AV) (H : Heap) (K : AV → Heap → Prop) : wpC Try.prog tab D48 (bodyOf Try.f48) (retF tab [.tmp 6] K) (nthA [v0, v1, v2]) H = W48 v0 v1 v2 H K := by kernel_rfl
theorem W48_ok {v0 v1 v2 : AV} {H : Heap} {K : AV → Heap → Prop} (h : W48 v0 v1 v2 H K) : CallT Try.prog 48 [v0, v1, v2] H K :=
  CallT.of_wp (D := D48) tab_ok mixed Try.func48 (c := bodyOf Try.f48) (by kernel_rfl) rfl (by kernel_rfl) (rs := #[.tmp 6]) rfl (by decide +kernel) (by kernel_rfl) (W48_wp v0 v1 v2 H K) h
theorem L48_0_rule {K : AV → Heap → Prop} {v0 v2 v7 v12 v13 v14 : AV} {H : Heap} {σ : Type} (s0 : σ) (f7 : σ → AV) (f14 : σ → AV) (TH : σ → Heap) (pre : σ → Prop) (μ : σ → Nat)
    (h0 : pre s0 ∧ AV.wk v7 (f7 s0) ∧ AV.wk v14 (f14 s0) ∧ Heap.le (TH s0) H)
    (round : ∀ s, pre s → B48_0 K (fun w7 w14 H' => ∃ s', pre s' ∧ μ s' < μ s ∧ AV.wk w7 (f7 s') ∧ AV.wk w14 (f14 s') ∧ Heap.le (TH s') H') v0 v2 (f7 s) v12 v13 (f14 s) (TH s)) :
    L48_0 K v0 v2 v7 v12 v13 v14 H := by
  unfold L48_0
  exact LoopV.mk s0 (fun s => [f7 s, f14 s]) TH pre μ (fun _ => rfl) (Eq.mp (by kernel_rfl) h0) (fun s hs => Eq.mp (by kernel_rfl) (round s hs))
/-- loop.example/g00649/impl.mask -/
def D49 : Info := ⟨6, fun i => ([], []), fun i => ([], [])⟩
def W49 (v0 : AV) (H : Heap) (K : AV → Heap → Prop) : Prop :=
 binV tab .sub 3 (AV.p (.int .i64 64)) v0 fun v4 =>
 binV tab .shr 52 (AV.p (.int .u64 18446744073709551615)) v4 fun v5 =>
 K v5 H
theorem W49_wp (v0 : AV) (H : Heap) (K : AV → Heap → Prop) : wpC Try.prog tab D49 (bodyOf Try.f49) (retF tab [.tmp 2] K) (nthA [v0]) H = W49 v0 H K := by kernel_rfl
theorem W49_ok {v0 : AV} {H : Heap} {K : AV → Heap → Prop} (h : W49 v0 H K) : CallT Try.prog 49 [v0] H K :=
  CallT.of_wp (D := D49) tab_ok mixed Try.func49 (c := bodyOf Try.f49) (by kernel_rfl) rfl (by kernel_rfl) (rs := #[.tmp 2]) rfl (by decide +kernel) (by kernel_rfl) (W49_wp v0 H K) h
/-- loop.example/g00649/impl.GoodTerm -/
def D50 : Info := ⟨80, fun i => ([], []), fun i => if i = 5 then ([0, 1, 33, 34], [7, 35]) else ([], [])⟩
def L50_0 (K : AV → Heap → Prop) (v0 : AV) (v1 : AV) (v7 : AV) (v33 : AV) (v34 : AV) (v35 : AV) (H : Heap) : Prop := LoopV (wpC Try.prog tab D50 (cAt [1, 1, 1, 0, 1, 0, 0] (bodyOf Try.f50))) [0, 1, 33, 34] (PostF.block 0 (PostF.thenA (wpC Try.prog tab D50 (cAt [1, 1, 1, 1] (bodyOf Try.f50))) (retF tab [.tmp 6] K))) [7, 35] [v0, v1, AV.any, AV.any, AV.any, AV.any, AV.any, v7, AV.any, AV.any, AV.any, AV.any, AV.any, AV.any, AV.any, AV.any, AV.any, AV.any, AV.any, AV.any, AV.any, AV.any, AV.any, AV.any, AV.any, AV.any, AV.any, AV.any, AV.any, AV.any, AV.any, AV.any, AV.any, v33, v34, v35, AV.any, AV.any, AV.any, AV.any, AV.any, AV.any, AV.any, AV.any, AV.any, AV.any, AV.any, AV.any, AV.any, AV.any, AV.any, AV.any, AV.any, AV.any, AV.any, AV.any, AV.any, AV.any, AV.any, AV.any, AV.any, AV.any, AV.any, AV.any, AV.any, AV.any, AV.any, AV.any, AV.any, AV.any, AV.any, AV.any, AV.any, AV.any, AV.any, AV.any, AV.any, AV.any, AV.any, AV.any] H
def B50_0 (K : AV → Heap → Prop) (N1 : AV → AV → Heap → Prop) (v0 : AV) (v1 : AV) (v7 : AV) (v33 : AV) (v34 : AV) (v35 : AV) (H : Heap) : Prop :=
 binV tab .lss 3 v35 v34 fun v36 =>
 condV v36 (indexAddrV tab 29 v33 v35 fun v37 =>
 loadV tab 54 v37 H fun v38 =>
 allocV tab 54 H fun v9 H4 =>
 storeV tab 54 v9 v38 H4 fun H5 =>
 fieldAddrV tab 54 v9 0 fun v40 =>
 loadV tab 3 v40 H5 fun v41 =>
 CallT Try.prog 67 [v41] H5 fun v42 H6 =>
 extractV v42 0 fun v43 =>
 extractV v42 1 fun v44 =>
 extractV v42 2 fun v45 =>
 allocV tab 3 H6 fun v11 H7 =>
 storeV tab 3 v11 v44 H7 fun H8 =>
 lenV tab 98 v7 fun v47 =>
 binV tab .sub 3 v47 v43 fun v49 =>
 binV tab .eql 3 v45 (AV.p (.int .i64 0)) fun v51 =>
 grdV v51 false (loadV tab 54 v9 H8 fun v55 =>
 CallT Try.prog 68 [v0, v1, v55] H8 fun v56 H9 =>
 unV .not v56 fun v57 =>
 grdV v57 false (binV tab .lss 3 v49 (AV.p (.int .i64 0)) fun v61 =>
 grdV v61 false (sliceV tab 98 v7 (some v49) none none fun v66 =>
 CallT Try.prog 69 [v66, (.fn 70 [v11])] H9 fun v68 H10 =>
 condV v68 (K (AV.p (.bool false)) H10)
 (sliceV tab 98 v7 none (some v49) none fun v72 =>
 buildSliceV tab 98 1 [(0, v45)] H10 (wkK fun v74 H11 =>
 appendV tab 98 98 v72 v74 H11 (wkK fun v75 H12 =>
 binV tab .add 3 v35 (AV.p (.int .i64 1)) fun v76 =>
 N1 v75 v76 H12))))
 (K (AV.p (.bool false)) H9))
 (K (AV.p (.bool false)) H9))
 (K (AV.p (.bool false)) H8))
 (lenV tab 98 v7 fun v78 =>
 binV tab .eql 3 v78 (AV.p (.int .i64 1)) fun v79 =>
 K v79 H)
def W50 (v0 : AV) (v1 : AV) (v2 : AV) (H : Heap) (K : AV → Heap → Prop) : Prop :=
 CallT Try.prog 65 [v0] H fun v15 H1 =>
 unV .not v15 fun v16 =>
 grdV v16 false (CallT Try.prog 66 [v1] H1 fun v19 H2 =>
 unV .not v19 fun v20 =>
 grdV v20 false (lenV tab 29 v2 fun v24 =>
 binV tab .lss 3 v24 (AV.p (.int .i64 1)) fun v25 =>
 grdV v25 false (lenV tab 29 v2 fun v29 =>
 binV tab .gtr 3 v29 (AV.p (.int .i64 48)) fun v30 =>
 condV v30 (K (AV.p (.bool false)) H2)
 (buildSliceV tab 98 0 [] H2 (wkK fun v32 H3 =>
 lenV tab 29 v2 fun v34 =>
 L50_0 K v0 v1 v32 v2 v34 (AV.p (.int .i64 0)) H3)))
 (K (AV.p (.bool false)) H2))
 (K (AV.p (.bool false)) H2))
 (K (AV.p (.bool false)) H1)
theorem W50_wp (v0 : AV) (v1 : AV) (v2 : AV) (H : Heap) (K : AV → Heap → Prop) : wpC Try.prog tab D50 (bodyOf Try.f50) (retF tab [.tmp 6] K) (nthA [v0, v1, v2]) H = W50 v0 v1 v2 H K := by kernel_rfl
theorem W50_ok {v0 v1 v2 : AV} {H : Heap} {K : AV → Heap → Prop} (h : W50 v0 v1 v2 H K) : CallT Try.prog 50 [v0, v1, v2] H K :=
  CallT.of_wp (D := D50) tab_ok mixed Try.func50 (c := bodyOf Try.f50) (by kernel_rfl) rfl (by kernel_rfl) (rs := #[.tmp 6]) rfl (by decide +kernel) (by kernel_rfl) (W50_wp v0 v1 v2 H K) h
theorem L50_0_rule {K : AV → Heap → Prop} {v0 v1 v7 v33 v34 v35 : AV} {H : Heap} {σ : Type} (s0 : σ) (f7 : σ → AV) (f35 : σ → AV) (TH : σ → Heap) (pre : σ → Prop) (μ : σ → Nat)
    (h0 : pre s0 ∧ AV.wk v7 (f7 s0) ∧ AV.wk v35 (f35 s0) ∧ Heap.le (TH s0) H)
    (round : ∀ s, pre s → B50_0 K (fun w7 w35 H' => ∃ s', pre s' ∧ μ s' < μ s ∧ AV.wk w7 (f7 s') ∧ AV.wk w35 (f35 s') ∧ Heap.le (TH s') H') v0 v1 (f7 s) v33 v34 (f35 s) (TH s)) :
    L50_0 K v0 v1 v7 v33 v34 v35 H := by
  unfold L50_0
  exact LoopV.mk s0 (fun s => [f7 s, f35 s]) TH pre μ (fun _ => rfl) (Eq.mp (by kernel_rfl) h0) (fun s hs => Eq.mp (by kernel_rfl) (round s hs))
/-- loop.example/g00649/laws.eqCommand -/
def D51 : Info := ⟨17, fun i => ([], []), fun i => ([], [])⟩
def W51 (v0 : AV) (v1 : AV) (H : Heap) (K : AV → Heap → Prop) : Prop :=
 boxV v0 H fun v2 H1 =>
 boxV v1 H1 fun v3 H2 =>
 fieldAddrV tab 79 v2 0 fun v5 =>
 loadV tab 29 v5 H2 fun v6 =>
 fieldAddrV tab 79 v3 0 fun v7 =>
 loadV tab 29 v7 H2 fun v8 =>
 CallT Try.prog 10 [v6, v8] H2 fun v9 H3 =>
 unV .not v9 fun v10 =>
 condV v10 (K (AV.p (.bool false)) H3)
 (fieldAddrV tab 79 v2 1 fun v11 =>
 loadV tab 77 v11 H3 fun v12 =>
 fieldAddrV tab 79 v3 1 fun v13 =>
 loadV tab 77 v13 H3 fun v14 =>
 CallT Try.prog 71 [v12, v14] H3 fun v15 H4 =>
 unV .not v15 fun v16 =>
 condV v16 (K (AV.p (.bool false)) H4)
 (K (AV.p (.bool true)) H4))
theorem W51_wp (v0 : AV) (v1 : AV) (H : Heap) (K : AV → Heap → Prop) : wpC Try.prog tab D51 (bodyOf Try.f51) (retF tab [.tmp 4] K) (nthA [v0, v1]) H = W51 v0 v1 H K := by kernel_rfl
theorem W51_ok {v0 v1 : AV} {H : Heap} {K : AV → Heap → Prop} (h : W51 v0 v1 H K) : CallT Try.prog 51 [v0, v1] H K :=
  CallT.of_wp (D := D51) tab_ok mixed Try.func51 (c := bodyOf Try.f51) (by kernel_rfl) rfl (by kernel_rfl) (rs := #[.tmp 4]) rfl (by decide +kernel) (by kernel_rfl) (W51_wp v0 v1 H K) h
/-- loop.example/g00649/laws.markChangeS -/
def D52 : Info := ⟨27, fun i => ([], []), fun i => if i = 2 then ([0], [1, 5]) else ([], [])⟩
def L52_0 (K : AV → Heap → Prop) (v0 : AV) (v1 : AV) (v5 : AV) (H : Heap) : Prop := LoopV (wpC Try.prog tab D52 (cAt [1, 0, 1, 0, 0] (bodyOf Try.f52))) [0] (PostF.block 0 (PostF.thenA (wpC Try.prog tab D52 (cAt [1, 1] (bodyOf Try.f52))) (retF tab [.tmp 4] K))) [1, 5] [v0, v1, AV.any, AV.any, AV.any, v5, AV.any, AV.any, AV.any, AV.any, AV.any, AV.any, AV.any, AV.any, AV.any, AV.any, AV.any, AV.any, AV.any, AV.any, AV.any, AV.any, AV.any, AV.any, AV.any, AV.any, AV.any] H
def B52_0 (K : AV → Heap → Prop) (N1 : AV → AV → Heap → Prop) (v0 : AV) (v1 : AV) (v5 : AV) (H : Heap) : Prop :=
 lenV tab 77 v0 fun v8 =>
 binV tab .lss 3 v5 v8 fun v9 =>
 condV v9 (indexAddrV tab 77 v0 v5 fun v15 =>
 fieldAddrV tab 103 v15 0 fun v16 =>
 storeV tab 3 v16 v1 H fun H1 =>
 binV tab .add 3 v1 (AV.p (.int .i64 1)) fun v18 =>
 indexAddrV tab 77 v0 v5 fun v21 =>
 fieldAddrV tab 103 v21 1 fun v22 =>
 loadV tab 29 v22 H1 fun v23 =>
 CallT Try.prog 15 [v23, v18] H1 fun v25 H2 =>
 binV tab .add 3 v5 (AV.p (.int .i64 1)) fun v11 =>
 N1 v25 v11 H2)
 (K v1 H)
def W52 (v0 : AV) (v1 : AV) (H : Heap) (K : AV → Heap → Prop) : Prop :=
 L52_0 K v0 v1 (AV.p (.int .i64 0)) H
theorem W52_wp (v0 : AV) (v1 : AV) (H : Heap) (K : AV → Heap → Prop) : wpC Try.prog tab D52 (bodyOf Try.f52) (retF tab [.tmp 4] K) (nthA [v0, v1]) H = W52 v0 v1 H K := by kernel_rfl
theorem W52_ok {v0 v1 : AV} {H : Heap} {K : AV → Heap → Prop} (h : W52 v0 v1 H K) : CallT Try.prog 52 [v0, v1] H K :=
  CallT.of_wp (D := D52) tab_ok mixed Try.func52 (c := bodyOf Try.f52) (by kernel_rfl) rfl (by kernel_rfl) (rs := #[.tmp 4]) rfl (by decide +kernel) (by kernel_rfl) (W52_wp v0 v1 H K) h
theorem L52_0_rule {K : AV → Heap → Prop} {v0 v1 v5 : AV} {H : Heap} {σ : Type} (s0 : σ) (f1 : σ → AV) (f5 : σ → AV) (TH : σ → Heap) (pre : σ → Prop) (μ : σ → Nat)
    (h0 : pre s0 ∧ AV.wk v1 (f1 s0) ∧ AV.wk v5 (f5 s0) ∧ Heap.le (TH s0) H)
    (round : ∀ s, pre s → B52_0 K (fun w1 w5 H' => ∃ s', pre s' ∧ μ s' < μ s ∧ AV.wk w1 (f1 s') ∧ AV.wk w5 (f5 s') ∧ Heap.le (TH s') H') v0 (f1 s) (f5 s) (TH s)) :
    L52_0 K v0 v1 v5 H := by
  unfold L52_0
  exact LoopV.mk s0 (fun s => [f1 s, f5 s]) TH pre μ (fun _ => rfl) (Eq.mp (by kernel_rfl) h0) (fun s hs => Eq.mp (by kernel_rfl) (round s hs))
/-- loop.example/g00649/laws.szChangeS -/
def D53 : Info := ⟨27, fun i => ([], []), fun i => if i = 5 then ([0], [1, 5]) else ([], [])⟩
def L53_0 (K : AV → Heap → Prop) (v0 : AV) (v1 : AV) (v5 : AV) (H : Heap) : Prop := LoopV (wpC Try.prog tab D53 (cAt [1, 1, 1, 0, 1, 0, 0] (bodyOf Try.f53))) [0] (PostF.block 0 (PostF.thenA (wpC Try.prog tab D53 (cAt [1, 1, 1, 1] (bodyOf Try.f53))) (retF tab [.tmp 4] K))) [1, 5] [v0, v1, AV.any, AV.any, AV.any, v5, AV.any, AV.any, AV.any, AV.any, AV.any, AV.any, AV.any, AV.any, AV.any, AV.any, AV.any, AV.any, AV.any, AV.any, AV.any, AV.any, AV.any, AV.any, AV.any, AV.any, AV.any] H
def B53_0 (K : AV → Heap → Prop) (N1 : AV → AV → Heap → Prop) (v0 : AV) (v1 : AV) (v5 : AV) (H : Heap) : Prop :=
 lenV tab 65 v0 fun v14 =>
 binV tab .lss 3 v5 v14 fun v15 =>
 condV v15 (indexAddrV tab 65 v0 v5 fun v20 =>
 loadV tab 106 v20 H fun v21 =>
 CallT Try.prog 72 [v21, v1] H fun v23 H1 =>
 binV tab .lss 3 v23 (AV.p (.int .i64 0)) fun v25 =>
 condV v25 (K (AV.p (.int .i64 (-1))) H1)
 (binV tab .add 3 v5 (AV.p (.int .i64 1)) fun v17 =>
 N1 v23 v17 H1))
 (K v1 H)
def W53 (v0 : AV) (v1 : AV) (H : Heap) (K : AV → Heap → Prop) : Prop :=
 lenV tab 65 v0 fun v8 =>
 binV tab .sub 3 v1 v8 fun v9 =>
 binV tab .lss 3 v9 (AV.p (.int .i64 0)) fun v11 =>
 condV v11 (K (AV.p (.int .i64 (-1))) H)
 (L53_0 K v0 v9 (AV.p (.int .i64 0)) H)
theorem W53_wp (v0 : AV) (v1 : AV) (H : Heap) (K : AV → Heap → Prop) : wpC Try.prog tab D53 (bodyOf Try.f53) (retF tab [.tmp 4] K) (nthA [v0, v1]) H = W53 v0 v1 H K := by kernel_rfl
theorem W53_ok {v0 v1 : AV} {H : Heap} {K : AV → Heap → Prop} (h : W53 v0 v1 H K) : CallT Try.prog 53 [v0, v1] H K :=
  CallT.of_wp (D := D53) tab_ok mixed Try.func53 (c := bodyOf Try.f53) (by kernel_rfl) rfl (by kernel_rfl) (rs := #[.tmp 4]) rfl (by decide +kernel) (by kernel_rfl) (W53_wp v0 v1 H K) h
theorem L53_0_rule {K : AV → Heap → Prop} {v0 v1 v5 : AV} {H : Heap} {σ : Type} (s0 : σ) (f1 : σ → AV) (f5 : σ → AV) (TH : σ → Heap) (pre : σ → Prop) (μ : σ → Nat)
    (h0 : pre s0 ∧ AV.wk v1 (f1 s0) ∧ AV.wk v5 (f5 s0) ∧ Heap.le (TH s0) H)
    (round : ∀ s, pre s → B53_0 K (fun w1 w5 H' => ∃ s', pre s' ∧ μ s' < μ s ∧ AV.wk w1 (f1 s') ∧ AV.wk w5 (f5 s') ∧ Heap.le (TH s') H') v0 (f1 s) (f5 s) (TH s)) :
    L53_0 K v0 v1 v5 H := by
  unfold L53_0
  exact LoopV.mk s0 (fun s => [f1 s, f5 s]) TH pre μ (fun _ => rfl) (Eq.mp (by kernel_rfl) h0) (fun s hs => Eq.mp (by kernel_rfl) (round s hs))
end Go.Proofs.Ytgcklgeifdefhaa
/- What each function's code is asked for, as a formula. Written by wgen.py (a program of this session's) out of Lean's print of the program. -/
namespace Go.Proofs.Ytgcklgeifdefhaa
open Go Go.Sep
set_option linter.unusedVariables false
attribute [local irreducible] wpC headF
/-- loop.example/g00649/spec.GoodProgram -/
def D54 : Info := ⟨29, fun i => ([], []), fun i => if i = 4 then ([1, 18, 19], [20]) else ([], [])⟩
def L54_0 (K : AV → Heap → Prop) (v1 : AV) (v18 : AV) (v19 : AV) (v20 : AV) (H : Heap) : Prop := LoopV (wpC Try.prog tab D54 (cAt [1, 1, 0, 1, 0, 0] (bodyOf Try.f54))) [1, 18, 19] (PostF.block 0 (PostF.thenA (wpC Try.prog tab D54 (cAt [1, 1, 1] (bodyOf Try.f54))) (retF tab [.tmp 2] K))) [20] [AV.any, v1, AV.any, AV.any, AV.any, AV.any, AV.any, AV.any, AV.any, AV.any, AV.any, AV.any, AV.any, AV.any, AV.any, AV.any, AV.any, AV.any, v18, v19, v20, AV.any, AV.any, AV.any, AV.any, AV.any, AV.any, AV.any, AV.any] H
def B54_0 (K : AV → Heap → Prop) (N1 : AV → Heap → Prop) (v1 : AV) (v18 : AV) (v19 : AV) (v20 : AV) (H : Heap) : Prop :=
 binV tab .lss 3 v20 v19 fun v21 =>
 condV v21 (indexAddrV tab 32 v18 v20 fun v22 =>
 loadV tab 79 v22 H fun v23 =>
 allocV tab 79 H fun v4 H4 =>
 storeV tab 79 v4 v23 H4 fun H5 =>
 loadV tab 34 v1 H5 fun v24 =>
 loadV tab 79 v4 H5 fun v25 =>
 CallT Try.prog 73 [v24, v25] H5 fun v26 H6 =>
 unV .not v26 fun v27 =>
 condV v27 (K (AV.p (.bool false)) H6)
 (binV tab .add 3 v20 (AV.p (.int .i64 1)) fun v28 =>
 N1 v28 H6))
 (K (AV.p (.bool true)) H)
def W54 (v0 : AV) (H : Heap) (K : AV → Heap → Prop) : Prop :=
 boxV v0 H fun v1 H1 =>
 loadV tab 34 v1 H1 fun v5 =>
 fieldAddrV tab 34 v1 2 fun v6 =>
 loadV tab 29 v6 H1 fun v7 =>
 CallT Try.prog 38 [v5, v7] H1 fun v8 H2 =>
 unV .not v8 fun v9 =>
 grdV v9 false (fieldAddrV tab 34 v1 3 fun v11 =>
 loadV tab 32 v11 H2 fun v12 =>
 lenV tab 32 v12 fun v13 =>
 CallT Try.prog 36 [v13, (AV.p (.int .i64 1)), (AV.p (.int .i64 6))] H2 fun v14 H3 =>
 unV .not v14 fun v15 =>
 condV v15 (K (AV.p (.bool false)) H3)
 (fieldAddrV tab 34 v1 3 fun v17 =>
 loadV tab 32 v17 H3 fun v18 =>
 lenV tab 32 v18 fun v19 =>
 L54_0 K v1 v18 v19 (AV.p (.int .i64 0)) H3))
 (K (AV.p (.bool false)) H2)
theorem W54_wp (v0 : AV) (H : Heap) (K : AV → Heap → Prop) : wpC Try.prog tab D54 (bodyOf Try.f54) (retF tab [.tmp 2] K) (nthA [v0]) H = W54 v0 H K := by kernel_rfl
theorem W54_ok {v0 : AV} {H : Heap} {K : AV → Heap → Prop} (h : W54 v0 H K) : CallT Try.prog 54 [v0] H K :=
  CallT.of_wp (D := D54) tab_ok mixed Try.func54 (c := bodyOf Try.f54) (by kernel_rfl) rfl (by kernel_rfl) (rs := #[.tmp 2]) rfl (by decide +kernel) (by kernel_rfl) (W54_wp v0 H K) h
theorem L54_0_rule {K : AV → Heap → Prop} {v1 v18 v19 v20 : AV} {H : Heap} {σ : Type} (s0 : σ) (f20 : σ → AV) (TH : σ → Heap) (pre : σ → Prop) (μ : σ → Nat)
    (h0 : pre s0 ∧ AV.wk v20 (f20 s0) ∧ Heap.le (TH s0) H)
    (round : ∀ s, pre s → B54_0 K (fun w20 H' => ∃ s', pre s' ∧ μ s' < μ s ∧ AV.wk w20 (f20 s') ∧ Heap.le (TH s') H') v1 v18 v19 (f20 s) (TH s)) :
    L54_0 K v1 v18 v19 v20 H := by
  unfold L54_0
  exact LoopV.mk s0 (fun s => [f20 s]) TH pre μ (fun _ => rfl) (Eq.mp (by kernel_rfl) h0) (fun s hs => Eq.mp (by kernel_rfl) (round s hs))
/-- loop.example/g00649/spec.l2Kind -/
def D55 : Info := ⟨83, fun i => ([], []), fun i => if i = 5 then ([0, 1, 27, 28], [7, 29]) else if i = 10 then ([0, 1, 11, 12, 27, 28, 29], [7, 10]) else ([], [])⟩
def L55_0 (K : AV → Heap → Prop) (v0 : AV) (v1 : AV) (v7 : AV) (v27 : AV) (v28 : AV) (v29 : AV) (H : Heap) : Prop := LoopV (wpC Try.prog tab D55 (cAt [1, 1, 1, 0, 1, 0, 0] (bodyOf Try.f55))) [0, 1, 27, 28] (PostF.block 0 (PostF.thenA (wpC Try.prog tab D55 (cAt [1, 1, 1, 1] (bodyOf Try.f55))) (retF tab [.tmp 6] K))) [7, 29] [v0, v1, AV.any, AV.any, AV.any, AV.any, AV.any, v7, AV.any, AV.any, AV.any, AV.any, AV.any, AV.any, AV.any, AV.any, AV.any, AV.any, AV.any, AV.any, AV.any, AV.any, AV.any, AV.any, AV.any, AV.any, AV.any, v27, v28, v29, AV.any, AV.any, AV.any, AV.any, AV.any, AV.any, AV.any, AV.any, AV.any, AV.any, AV.any, AV.any, AV.any, AV.any, AV.any, AV.any, AV.any, AV.any, AV.any, AV.any, AV.any, AV.any, AV.any, AV.any, AV.any, AV.any, AV.any, AV.any, AV.any, AV.any, AV.any, AV.any, AV.any, AV.any, AV.any, AV.any, AV.any, AV.any, AV.any, AV.any, AV.any, AV.any, AV.any, AV.any, AV.any, AV.any, AV.any, AV.any, AV.any, AV.any, AV.any, AV.any, AV.any] H
def L55_1 (K : AV → Heap → Prop) (N1 : AV → AV → Heap → Prop) (v0 : AV) (v1 : AV) (v7 : AV) (v10 : AV) (v11 : AV) (v12 : AV) (v27 : AV) (v28 : AV) (v29 : AV) (H : Heap) : Prop := LoopV (wpC Try.prog tab D55 (cAt [1, 1, 1, 0, 1, 0, 0, 1, 1, 0, 0, 1, 1, 1, 0, 0, 0] (bodyOf Try.f55))) [0, 1, 11, 12, 27, 28, 29] (PostF.block 2 (PostF.thenA (wpC Try.prog tab D55 (cAt [1, 1, 1, 0, 1, 0, 0, 1, 1, 0, 0, 1, 1, 1, 1] (bodyOf Try.f55))) (PostF.block 1 (PostF.thenA (wpC Try.prog tab D55 (cAt [1, 1, 1, 0, 1, 0, 0, 1, 1, 1] (bodyOf Try.f55))) (loopF (PostF.block 0 (PostF.thenA (wpC Try.prog tab D55 (cAt [1, 1, 1, 1] (bodyOf Try.f55))) (retF tab [.tmp 6] K))) (fun e h => N1 (e 7) (e 29) h)))))) [7, 10] [v0, v1, AV.any, AV.any, AV.any, AV.any, AV.any, v7, AV.any, AV.any, v10, v11, v12, AV.any, AV.any, AV.any, AV.any, AV.any, AV.any, AV.any, AV.any, AV.any, AV.any, AV.any, AV.any, AV.any, AV.any, v27, v28, v29, AV.any, AV.any, AV.any, AV.any, AV.any, AV.any, AV.any, AV.any, AV.any, AV.any, AV.any, AV.any, AV.any, AV.any, AV.any, AV.any, AV.any, AV.any, AV.any, AV.any, AV.any, AV.any, AV.any, AV.any, AV.any, AV.any, AV.any, AV.any, AV.any, AV.any, AV.any, AV.any, AV.any, AV.any, AV.any, AV.any, AV.any, AV.any, AV.any, AV.any, AV.any, AV.any, AV.any, AV.any, AV.any, AV.any, AV.any, AV.any, AV.any, AV.any, AV.any, AV.any, AV.any] H
def B55_1 (K : AV → Heap → Prop) (N1 : AV → AV → Heap → Prop) (N2 : AV → AV → Heap → Prop) (v0 : AV) (v1 : AV) (v7 : AV) (v10 : AV) (v11 : AV) (v12 : AV) (v27 : AV) (v28 : AV) (v29 : AV) (H : Heap) : Prop :=
 binV tab .gtr 3 v10 (AV.p (.int .i64 0)) fun v56 =>
 condV v56 (lenV tab 98 v7 fun v61 =>
 binV tab .sub 3 v61 (AV.p (.int .i64 1)) fun v62 =>
 indexAddrV tab 98 v7 v62 fun v63 =>
 loadV tab 3 v63 H fun v64 =>
 binV tab .neq 3 v64 v11 fun v66 =>
 condV v66 (K (AV.p (.int .i64 0)) H)
 (lenV tab 98 v7 fun v69 =>
 binV tab .sub 3 v69 (AV.p (.int .i64 1)) fun v70 =>
 sliceV tab 98 v7 none (some v70) none fun v71 =>
 binV tab .sub 3 v10 (AV.p (.int .i64 1)) fun v58 =>
 N2 v71 v58 H))
 (buildSliceV tab 98 1 [(0, v12)] H (wkK fun v74 H8 =>
 appendV tab 98 98 v7 v74 H8 (wkK fun v75 H9 =>
 binV tab .add 3 v29 (AV.p (.int .i64 1)) fun v76 =>
 N1 v75 v76 H9)))
def B55_0 (K : AV → Heap → Prop) (N1 : AV → AV → Heap → Prop) (v0 : AV) (v1 : AV) (v7 : AV) (v27 : AV) (v28 : AV) (v29 : AV) (H : Heap) : Prop :=
 binV tab .lss 3 v29 v28 fun v30 =>
 condV v30 (indexAddrV tab 29 v27 v29 fun v31 =>
 loadV tab 54 v31 H fun v32 =>
 allocV tab 54 H fun v9 H4 =>
 storeV tab 54 v9 v32 H4 fun H5 =>
 fieldAddrV tab 54 v9 0 fun v34 =>
 loadV tab 3 v34 H5 fun v35 =>
 CallT Try.prog 56 [v35] H5 fun v36 H6 =>
 extractV v36 0 fun v37 =>
 extractV v36 1 fun v38 =>
 extractV v36 2 fun v39 =>
 binV tab .eql 3 v39 (AV.p (.int .i64 0)) fun v41 =>
 grdV v41 false (loadV tab 54 v9 H6 fun v45 =>
 CallT Try.prog 75 [v0, v1, v45] H6 fun v46 H7 =>
 unV .not v46 fun v47 =>
 grdV v47 false (lenV tab 98 v7 fun v51 =>
 binV tab .lss 3 v51 v37 fun v53 =>
 condV v53 (K (AV.p (.int .i64 0)) H7)
 (L55_1 K N1 v0 v1 v7 v37 v38 v39 v27 v28 v29 H7))
 (K (AV.p (.int .i64 0)) H7))
 (K (AV.p (.int .i64 0)) H6))
 (lenV tab 98 v7 fun v78 =>
 binV tab .neq 3 v78 (AV.p (.int .i64 1)) fun v79 =>
 condV v79 (K (AV.p (.int .i64 0)) H)
 (indexAddrV tab 98 v7 (AV.p (.int .i64 0)) fun v81 =>
 loadV tab 3 v81 H fun v82 =>
 K v82 H))
def W55 (v0 : AV) (v1 : AV) (v2 : AV) (H : Heap) (K : AV → Heap → Prop) : Prop :=
 CallT Try.prog 74 [v0] H fun v14 H1 =>
 unV .not v14 fun v15 =>
 grdV v15 false (CallT Try.prog 36 [v1, (AV.p (.int .i64 1)), (AV.p (.int .i64 4))] H1 fun v18 H2 =>
 unV .not v18 fun v19 =>
 grdV v19 false (lenV tab 29 v2 fun v23 =>
 CallT Try.prog 36 [v23, (AV.p (.int .i64 1)), (AV.p (.int .i64 48))] H2 fun v24 H3 =>
 unV .not v24 fun v25 =>
 condV v25 (K (AV.p (.int .i64 0)) H3)
 (lenV tab 29 v2 fun v28 =>
 L55_0 K v0 v1 (AV.p .nil) v2 v28 (AV.p (.int .i64 0)) H3))
 (K (AV.p (.int .i64 0)) H2))
 (K (AV.p (.int .i64 0)) H1)
theorem W55_wp (v0 : AV) (v1 : AV) (v2 : AV) (H : Heap) (K : AV → Heap → Prop) : wpC Try.prog tab D55 (bodyOf Try.f55) (retF tab [.tmp 6] K) (nthA [v0, v1, v2]) H = W55 v0 v1 v2 H K := by kernel_rfl
theorem W55_ok {v0 v1 v2 : AV} {H : Heap} {K : AV → Heap → Prop} (h : W55 v0 v1 v2 H K) : CallT Try.prog 55 [v0, v1, v2] H K :=
  CallT.of_wp (D := D55) tab_ok mixed Try.func55 (c := bodyOf Try.f55) (by kernel_rfl) rfl (by kernel_rfl) (rs := #[.tmp 6]) rfl (by decide +kernel) (by kernel_rfl) (W55_wp v0 v1 v2 H K) h
theorem W55_hb : HasBody Try.prog 55 := ⟨_, bodyOf Try.f55, Try.func55, by kernel_rfl, rfl⟩
theorem L55_1_rule {K : AV → Heap → Prop} {N1 : AV → AV → Heap → Prop} {v0 v1 v7 v10 v11 v12 v27 v28 v29 : AV} {H : Heap} {σ : Type} (s0 : σ) (f7 : σ → AV) (f10 : σ → AV) (TH : σ → Heap) (pre : σ → Prop) (μ : σ → Nat)
    (h0 : pre s0 ∧ AV.wk v7 (f7 s0) ∧ AV.wk v10 (f10 s0) ∧ Heap.le (TH s0) H)
    (round : ∀ s, pre s → B55_1 K N1 (fun w7 w10 H' => ∃ s', pre s' ∧ μ s' < μ s ∧ AV.wk w7 (f7 s') ∧ AV.wk w10 (f10 s') ∧ Heap.le (TH s') H') v0 v1 (f7 s) (f10 s) v11 v12 v27 v28 v29 (TH s)) :
    L55_1 K N1 v0 v1 v7 v10 v11 v12 v27 v28 v29 H := by
  unfold L55_1
  exact LoopV.mk s0 (fun s => [f7 s, f10 s]) TH pre μ (fun _ => rfl) (Eq.mp (by kernel_rfl) h0) (fun s hs => Eq.mp (by kernel_rfl) (round s hs))
theorem L55_0_rule {K : AV → Heap → Prop} {v0 v1 v7 v27 v28 v29 : AV} {H : Heap} {σ : Type} (s0 : σ) (f7 : σ → AV) (f29 : σ → AV) (TH : σ → Heap) (pre : σ → Prop) (μ : σ → Nat)
    (h0 : pre s0 ∧ AV.wk v7 (f7 s0) ∧ AV.wk v29 (f29 s0) ∧ Heap.le (TH s0) H)
    (round : ∀ s, pre s → B55_0 K (fun w7 w29 H' => ∃ s', pre s' ∧ μ s' < μ s ∧ AV.wk w7 (f7 s') ∧ AV.wk w29 (f29 s') ∧ Heap.le (TH s') H') v0 v1 (f7 s) v27 v28 (f29 s) (TH s)) :
    L55_0 K v0 v1 v7 v27 v28 v29 H := by
  unfold L55_0
  exact LoopV.mk s0 (fun s => [f7 s, f29 s]) TH pre μ (fun _ => rfl) (Eq.mp (by kernel_rfl) h0) (fun s hs => Eq.mp (by kernel_rfl) (round s hs))
/-- loop.example/g00649/spec.l2Need -/
def D56 : Info := ⟨34, fun i => ([], []), fun i => ([], [])⟩
def W56 (v0 : AV) (H : Heap) (K : AV → Heap → Prop) : Prop :=
 binV tab .eql 3 v0 (AV.p (.int .i64 1)) fun v7 =>
 grdV v7 false (binV tab .eql 3 v0 (AV.p (.int .i64 2)) fun v10 =>
 condV v10 (K (.tup [(AV.p (.int .i64 0)), (AV.p (.int .i64 1)), (AV.p (.int .i64 1))]) H)
 (binV tab .eql 3 v0 (AV.p (.int .i64 20)) fun v14 =>
 condV v14 (K (.tup [(AV.p (.int .i64 0)), (AV.p (.int .i64 2)), (AV.p (.int .i64 2))]) H)
 (binV tab .eql 3 v0 (AV.p (.int .i64 13)) fun v17 =>
 condV v17 (K (.tup [(AV.p (.int .i64 1)), (AV.p (.int .i64 1)), (AV.p (.int .i64 1))]) H)
 (binV tab .eql 3 v0 (AV.p (.int .i64 19)) fun v20 =>
 condV v20 (K (.tup [(AV.p (.int .i64 1)), (AV.p (.int .i64 2)), (AV.p (.int .i64 2))]) H)
 (CallT Try.prog 36 [v0, (AV.p (.int .i64 3)), (AV.p (.int .i64 12))] H fun v23 H1 =>
 condV v23 (K (.tup [(AV.p (.int .i64 2)), (AV.p (.int .i64 1)), (AV.p (.int .i64 1))]) H1)
 (CallT Try.prog 36 [v0, (AV.p (.int .i64 14)), (AV.p (.int .i64 16))] H1 fun v26 H2 =>
 condV v26 (K (.tup [(AV.p (.int .i64 2)), (AV.p (.int .i64 1)), (AV.p (.int .i64 2))]) H2)
 (binV tab .eql 3 v0 (AV.p (.int .i64 17)) fun v29 =>
 grdV v29 false (binV tab .eql 3 v0 (AV.p (.int .i64 18)) fun v32 =>
 condV v32 (K (.tup [(AV.p (.int .i64 2)), (AV.p (.int .i64 2)), (AV.p (.int .i64 2))]) H2)
 (K (.tup [(AV.p (.int .i64 0)), (AV.p (.int .i64 0)), (AV.p (.int .i64 0))]) H2))
 (K (.tup [(AV.p (.int .i64 2)), (AV.p (.int .i64 2)), (AV.p (.int .i64 2))]) H2))))))))
 (K (.tup [(AV.p (.int .i64 0)), (AV.p (.int .i64 1)), (AV.p (.int .i64 1))]) H)
theorem W56_wp (v0 : AV) (H : Heap) (K : AV → Heap → Prop) : wpC Try.prog tab D56 (bodyOf Try.f56) (retF tab [.tmp 2, .tmp 3, .tmp 4] K) (nthA [v0]) H = W56 v0 H K := by kernel_rfl
theorem W56_ok {v0 : AV} {H : Heap} {K : AV → Heap → Prop} (h : W56 v0 H K) : CallT Try.prog 56 [v0] H K :=
  CallT.of_wp (D := D56) tab_ok mixed Try.func56 (c := bodyOf Try.f56) (by kernel_rfl) rfl (by kernel_rfl) (rs := #[.tmp 2, .tmp 3, .tmp 4]) rfl (by decide +kernel) (by kernel_rfl) (W56_wp v0 H K) h
/-- loop.example/g00649/spec.l1Cut -/
def D57 : Info := ⟨20, fun i => ([], []), fun i => if i = 3 then ([0, 1], [5, 6]) else ([], [])⟩
def L57_0 (K : AV → Heap → Prop) (v0 : AV) (v1 : AV) (v5 : AV) (v6 : AV) (H : Heap) : Prop := LoopV (wpC Try.prog tab D57 (cAt [1, 1, 0, 1, 0, 0] (bodyOf Try.f57))) [0, 1] (PostF.block 0 (PostF.thenA (wpC Try.prog tab D57 (cAt [1, 1, 1] (bodyOf Try.f57))) (retF tab [.tmp 4] K))) [5, 6] [v0, v1, AV.any, AV.any, AV.any, v5, v6, AV.any, AV.any, AV.any, AV.any, AV.any, AV.any, AV.any, AV.any, AV.any, AV.any, AV.any, AV.any, AV.any] H
def B57_0 (K : AV → Heap → Prop) (N1 : AV → AV → Heap → Prop) (v0 : AV) (v1 : AV) (v5 : AV) (v6 : AV) (H : Heap) : Prop :=
 binV tab .lss 3 v6 v0 fun v9 =>
 condV v9 (convV tab 3 73 v6 fun v15 =>
 binV tab .shl 52 (AV.p (.int .u64 1)) v15 fun v16 =>
 binV tab .and 52 v1 v16 fun v17 =>
 binV tab .or 52 v5 v17 fun v18 =>
 binV tab .add 3 v6 (AV.p (.int .i64 1)) fun v11 =>
 N1 v18 v11 H)
 (K v5 H)
def W57 (v0 : AV) (v1 : AV) (H : Heap) (K : AV → Heap → Prop) : Prop :=
 L57_0 K v0 v1 (AV.p (.int .u64 0)) (AV.p (.int .i64 0)) H
theorem W57_wp (v0 : AV) (v1 : AV) (H : Heap) (K : AV → Heap → Prop) : wpC Try.prog tab D57 (bodyOf Try.f57) (retF tab [.tmp 4] K) (nthA [v0, v1]) H = W57 v0 v1 H K := by kernel_rfl
theorem W57_ok {v0 v1 : AV} {H : Heap} {K : AV → Heap → Prop} (h : W57 v0 v1 H K) : CallT Try.prog 57 [v0, v1] H K :=
  CallT.of_wp (D := D57) tab_ok mixed Try.func57 (c := bodyOf Try.f57) (by kernel_rfl) rfl (by kernel_rfl) (rs := #[.tmp 4]) rfl (by decide +kernel) (by kernel_rfl) (W57_wp v0 v1 H K) h
theorem L57_0_rule {K : AV → Heap → Prop} {v0 v1 v5 v6 : AV} {H : Heap} {σ : Type} (s0 : σ) (f5 : σ → AV) (f6 : σ → AV) (TH : σ → Heap) (pre : σ → Prop) (μ : σ → Nat)
    (h0 : pre s0 ∧ AV.wk v5 (f5 s0) ∧ AV.wk v6 (f6 s0) ∧ Heap.le (TH s0) H)
    (round : ∀ s, pre s → B57_0 K (fun w5 w6 H' => ∃ s', pre s' ∧ μ s' < μ s ∧ AV.wk w5 (f5 s') ∧ AV.wk w6 (f6 s') ∧ Heap.le (TH s') H') v0 v1 (f5 s) (f6 s) (TH s)) :
    L57_0 K v0 v1 v5 v6 H := by
  unfold L57_0
  exact LoopV.mk s0 (fun s => [f5 s, f6 s]) TH pre μ (fun _ => rfl) (Eq.mp (by kernel_rfl) h0) (fun s hs => Eq.mp (by kernel_rfl) (round s hs))
/-- loop.example/g00649/spec.l2Do -/
def D58 : Info := ⟨99, fun i => ([], []), fun i => ([], [])⟩
def J58_0 (K : AV → Heap → Prop) (v0 : AV) (v2 : AV) (v3 : AV) (v20 : AV) (v54 : AV) (H : Heap) : Prop :=
 condV v54 (binV tab .or 52 v2 v3 fun v59 =>
 K v59 H)
 (binV tab .eql 3 v20 (AV.p (.int .i64 10)) fun v61 =>
 condV v61 (binV tab .xor 52 v2 v3 fun v64 =>
 K v64 H)
 (binV tab .eql 3 v20 (AV.p (.int .i64 11)) fun v66 =>
 condV v66 (CallT Try.prog 77 [v0, v2, v3, (AV.p (.bool true))] H fun v70 H5 =>
 K v70 H5)
 (binV tab .eql 3 v20 (AV.p (.int .i64 12)) fun v72 =>
 condV v72 (CallT Try.prog 77 [v0, v2, v3, (AV.p (.bool false))] H fun v76 H6 =>
 K v76 H6)
 (binV tab .eql 3 v20 (AV.p (.int .i64 14)) fun v78 =>
 condV v78 (binV tab .eql 52 v2 v3 fun v81 =>
 CallT Try.prog 78 [v81] H fun v82 H7 =>
 K v82 H7)
 (binV tab .eql 3 v20 (AV.p (.int .i64 15)) fun v84 =>
 condV v84 (binV tab .lss 52 v2 v3 fun v87 =>
 CallT Try.prog 78 [v87] H fun v88 H8 =>
 K v88 H8)
 (binV tab .eql 3 v20 (AV.p (.int .i64 16)) fun v90 =>
 condV v90 (CallT Try.prog 79 [v0, v2] H fun v93 H9 =>
 CallT Try.prog 79 [v0, v3] H9 fun v96 H10 =>
 binV tab .lss 2 v93 v96 fun v97 =>
 CallT Try.prog 78 [v97] H10 fun v98 H11 =>
 K v98 H11)
 (K (AV.p (.int .u64 0)) H)))))))
def J58_1 (K : AV → Heap → Prop) (v0 : AV) (v2 : AV) (v3 : AV) (v20 : AV) (v48 : AV) (H : Heap) : Prop :=
 condV v48 (binV tab .and 52 v2 v3 fun v53 =>
 K v53 H)
 (binV tab .eql 3 v20 (AV.p (.int .i64 9)) fun v55 =>
 condV v55 (J58_0 K v0 v2 v3 v20 v55 H)
 (binV tab .eql 3 v20 (AV.p (.int .i64 18)) fun v56 =>
 J58_0 K v0 v2 v3 v20 v56 H))
def W58 (v0 : AV) (v1 : AV) (v2 : AV) (v3 : AV) (H : Heap) (K : AV → Heap → Prop) : Prop :=
 CallT Try.prog 76 [v0, v2, v3] H fun v16 H1 =>
 extractV v16 0 fun v17 =>
 extractV v16 1 fun v18 =>
 extractV v16 2 fun v19 =>
 binV tab .eql 3 v1 (AV.p (.int .i64 3)) fun v22 =>
 condV v22 (binV tab .add 52 v2 v3 fun v26 =>
 CallT Try.prog 57 [v0, v26] H1 fun v27 H2 =>
 K v27 H2)
 (binV tab .eql 3 v1 (AV.p (.int .i64 4)) fun v29 =>
 condV v29 (binV tab .sub 52 v2 v3 fun v33 =>
 CallT Try.prog 57 [v0, v33] H1 fun v34 H3 =>
 K v34 H3)
 (binV tab .eql 3 v1 (AV.p (.int .i64 5)) fun v36 =>
 condV v36 (binV tab .mul 52 v2 v3 fun v40 =>
 CallT Try.prog 57 [v0, v40] H1 fun v41 H4 =>
 K v41 H4)
 (binV tab .eql 3 v1 (AV.p (.int .i64 6)) fun v43 =>
 condV v43 (K v17 H1)
 (binV tab .eql 3 v1 (AV.p (.int .i64 7)) fun v46 =>
 condV v46 (K v18 H1)
 (binV tab .eql 3 v1 (AV.p (.int .i64 8)) fun v49 =>
 condV v49 (J58_1 K v0 v2 v3 v1 v49 H1)
 (binV tab .eql 3 v1 (AV.p (.int .i64 17)) fun v50 =>
 J58_1 K v0 v2 v3 v1 v50 H1))))))
theorem W58_wp (v0 : AV) (v1 : AV) (v2 : AV) (v3 : AV) (H : Heap) (K : AV → Heap → Prop) : wpC Try.prog tab D58 (bodyOf Try.f58) (retF tab [.tmp 8] K) (nthA [v0, v1, v2, v3]) H = W58 v0 v1 v2 v3 H K := by kernel_rfl
theorem W58_ok {v0 v1 v2 v3 : AV} {H : Heap} {K : AV → Heap → Prop} (h : W58 v0 v1 v2 v3 H K) : CallT Try.prog 58 [v0, v1, v2, v3] H K :=
  CallT.of_wp (D := D58) tab_ok mixed Try.func58 (c := bodyOf Try.f58) (by kernel_rfl) rfl (by kernel_rfl) (rs := #[.tmp 8]) rfl (by decide +kernel) (by kernel_rfl) (W58_wp v0 v1 v2 v3 H K) h
/-- loop.example/g00649/spec.l2From -/
def D59 : Info := ⟨29, fun i => ([], []), fun i => if i = 3 then ([0], [5, 8]) else ([], [])⟩
def L59_0 (K : AV → Heap → Prop) (v0 : AV) (v5 : AV) (v8 : AV) (H : Heap) : Prop := LoopV (wpC Try.prog tab D59 (cAt [1, 1, 1, 0, 0, 0] (bodyOf Try.f59))) [0] (PostF.block 0 (PostF.thenA (wpC Try.prog tab D59 (cAt [1, 1, 1, 1] (bodyOf Try.f59))) (retF tab [.tmp 4] K))) [5, 8] [v0, AV.any, AV.any, AV.any, AV.any, v5, AV.any, AV.any, v8, AV.any, AV.any, AV.any, AV.any, AV.any, AV.any, AV.any, AV.any, AV.any, AV.any, AV.any, AV.any, AV.any, AV.any, AV.any, AV.any, AV.any, AV.any, AV.any, AV.any] H
def B59_0 (K : AV → Heap → Prop) (N1 : AV → AV → Heap → Prop) (v0 : AV) (v5 : AV) (v8 : AV) (H : Heap) : Prop :=
 binV tab .gtr 3 v5 (AV.p (.int .i64 0)) fun v21 =>
 condV v21 (binV tab .sub 3 v8 (AV.p (.int .i64 1)) fun v26 =>
 CallT Try.prog 59 [v0, v26] H fun v27 H2 =>
 binV tab .sub 3 v5 (AV.p (.int .i64 1)) fun v23 =>
 N1 v23 v27 H2)
 (K v8 H)
def W59 (v0 : AV) (v1 : AV) (H : Heap) (K : AV → Heap → Prop) : Prop :=
 indexAddrV tab 29 v0 v1 fun v12 =>
 fieldAddrV tab 54 v12 0 fun v13 =>
 loadV tab 3 v13 H fun v14 =>
 CallT Try.prog 56 [v14] H fun v15 H1 =>
 extractV v15 0 fun v16 =>
 extractV v15 1 fun v17 =>
 extractV v15 2 fun v18 =>
 L59_0 K v0 v16 v1 H1
theorem W59_wp (v0 : AV) (v1 : AV) (H : Heap) (K : AV → Heap → Prop) : wpC Try.prog tab D59 (bodyOf Try.f59) (retF tab [.tmp 4] K) (nthA [v0, v1]) H = W59 v0 v1 H K := by kernel_rfl
theorem W59_ok {v0 v1 : AV} {H : Heap} {K : AV → Heap → Prop} (h : W59 v0 v1 H K) : CallT Try.prog 59 [v0, v1] H K :=
  CallT.of_wp (D := D59) tab_ok mixed Try.func59 (c := bodyOf Try.f59) (by kernel_rfl) rfl (by kernel_rfl) (rs := #[.tmp 4]) rfl (by decide +kernel) (by kernel_rfl) (W59_wp v0 v1 H K) h
theorem L59_0_rule {K : AV → Heap → Prop} {v0 v5 v8 : AV} {H : Heap} {σ : Type} (s0 : σ) (f5 : σ → AV) (f8 : σ → AV) (TH : σ → Heap) (pre : σ → Prop) (μ : σ → Nat)
    (h0 : pre s0 ∧ AV.wk v5 (f5 s0) ∧ AV.wk v8 (f8 s0) ∧ Heap.le (TH s0) H)
    (round : ∀ s, pre s → B59_0 K (fun w5 w8 H' => ∃ s', pre s' ∧ μ s' < μ s ∧ AV.wk w5 (f5 s') ∧ AV.wk w8 (f8 s') ∧ Heap.le (TH s') H') v0 (f5 s) (f8 s) (TH s)) :
    L59_0 K v0 v5 v8 H := by
  unfold L59_0
  exact LoopV.mk s0 (fun s => [f5 s, f8 s]) TH pre μ (fun _ => rfl) (Eq.mp (by kernel_rfl) h0) (fun s hs => Eq.mp (by kernel_rfl) (round s hs))
/-- loop.example/g00649/laws.toChangeS -/
def D60 : Info := ⟨23, fun i => ([], []), fun i => if i = 3 then ([0, 3], [4]) else ([], [])⟩
def L60_0 (K : AV → Heap → Prop) (v0 : AV) (v3 : AV) (v4 : AV) (H : Heap) : Prop := LoopV (wpC Try.prog tab D60 (cAt [1, 1, 0, 1, 0, 0] (bodyOf Try.f60))) [0, 3] (PostF.block 0 (PostF.thenA (wpC Try.prog tab D60 (cAt [1, 1, 1] (bodyOf Try.f60))) (retF tab [.tmp 2] K))) [4] [v0, AV.any, AV.any, v3, v4, AV.any, AV.any, AV.any, AV.any, AV.any, AV.any, AV.any, AV.any, AV.any, AV.any, AV.any, AV.any, AV.any, AV.any, AV.any, AV.any, AV.any, AV.any] H
def B60_0 (K : AV → Heap → Prop) (N1 : AV → Heap → Prop) (v0 : AV) (v3 : AV) (v4 : AV) (H : Heap) : Prop :=
 lenV tab 65 v0 fun v10 =>
 binV tab .lss 3 v4 v10 fun v11 =>
 condV v11 (indexAddrV tab 65 v0 v4 fun v18 =>
 loadV tab 106 v18 H fun v19 =>
 CallT Try.prog 80 [v19] H fun v20 H2 =>
 indexAddrV tab 77 v3 v4 fun v21 =>
 storeV tab 103 v21 v20 H2 fun H3 =>
 binV tab .add 3 v4 (AV.p (.int .i64 1)) fun v13 =>
 N1 v13 H3)
 (K v3 H)
def W60 (v0 : AV) (H : Heap) (K : AV → Heap → Prop) : Prop :=
 lenV tab 65 v0 fun v6 =>
 makeSliceV tab 77 v6 v6 H fun v7 H1 =>
 L60_0 K v0 v7 (AV.p (.int .i64 0)) H1
theorem W60_wp (v0 : AV) (H : Heap) (K : AV → Heap → Prop) : wpC Try.prog tab D60 (bodyOf Try.f60) (retF tab [.tmp 2] K) (nthA [v0]) H = W60 v0 H K := by kernel_rfl
theorem W60_ok {v0 : AV} {H : Heap} {K : AV → Heap → Prop} (h : W60 v0 H K) : CallT Try.prog 60 [v0] H K :=
  CallT.of_wp (D := D60) tab_ok mixed Try.func60 (c := bodyOf Try.f60) (by kernel_rfl) rfl (by kernel_rfl) (rs := #[.tmp 2]) rfl (by decide +kernel) (by kernel_rfl) (W60_wp v0 H K) h
theorem L60_0_rule {K : AV → Heap → Prop} {v0 v3 v4 : AV} {H : Heap} {σ : Type} (s0 : σ) (f4 : σ → AV) (TH : σ → Heap) (pre : σ → Prop) (μ : σ → Nat)
    (h0 : pre s0 ∧ AV.wk v4 (f4 s0) ∧ Heap.le (TH s0) H)
    (round : ∀ s, pre s → B60_0 K (fun w4 H' => ∃ s', pre s' ∧ μ s' < μ s ∧ AV.wk w4 (f4 s') ∧ Heap.le (TH s') H') v0 v3 (f4 s) (TH s)) :
    L60_0 K v0 v3 v4 H := by
  unfold L60_0
  exact LoopV.mk s0 (fun s => [f4 s]) TH pre μ (fun _ => rfl) (Eq.mp (by kernel_rfl) h0) (fun s hs => Eq.mp (by kernel_rfl) (round s hs))
/-- loop.example/g00649/impl.GoodProgram -/
def D61 : Info := ⟨37, fun i => ([], []), fun i => ([], [])⟩
def W61 (v0 : AV) (H : Heap) (K : AV → Heap → Prop) : Prop :=
 boxV v0 H fun v1 H1 =>
 fieldAddrV tab 34 v1 0 fun v3 =>
 loadV tab 3 v3 H1 fun v4 =>
 CallT Try.prog 65 [v4] H1 fun v5 H2 =>
 unV .not v5 fun v6 =>
 grdV v6 false (fieldAddrV tab 34 v1 1 fun v8 =>
 loadV tab 3 v8 H2 fun v9 =>
 CallT Try.prog 66 [v9] H2 fun v10 H3 =>
 unV .not v10 fun v11 =>
 grdV v11 false (loadV tab 34 v1 H3 fun v14 =>
 fieldAddrV tab 34 v1 2 fun v15 =>
 loadV tab 29 v15 H3 fun v16 =>
 CallT Try.prog 47 [v14, v16] H3 fun v17 H4 =>
 unV .not v17 fun v18 =>
 grdV v18 false (fieldAddrV tab 34 v1 3 fun v21 =>
 loadV tab 32 v21 H4 fun v22 =>
 lenV tab 32 v22 fun v23 =>
 binV tab .lss 3 v23 (AV.p (.int .i64 1)) fun v24 =>
 grdV v24 false (fieldAddrV tab 34 v1 3 fun v27 =>
 loadV tab 32 v27 H4 fun v28 =>
 lenV tab 32 v28 fun v29 =>
 binV tab .gtr 3 v29 (AV.p (.int .i64 6)) fun v30 =>
 condV v30 (K (AV.p (.bool false)) H4)
 (fieldAddrV tab 34 v1 3 fun v32 =>
 loadV tab 32 v32 H4 fun v33 =>
 CallT Try.prog 81 [v33, (.fn 82 [v1])] H4 fun v35 H5 =>
 unV .not v35 fun v36 =>
 K v36 H5))
 (K (AV.p (.bool false)) H4))
 (K (AV.p (.bool false)) H4))
 (K (AV.p (.bool false)) H3))
 (K (AV.p (.bool false)) H2)
theorem W61_wp (v0 : AV) (H : Heap) (K : AV → Heap → Prop) : wpC Try.prog tab D61 (bodyOf Try.f61) (retF tab [.tmp 2] K) (nthA [v0]) H = W61 v0 H K := by kernel_rfl
theorem W61_ok {v0 : AV} {H : Heap} {K : AV → Heap → Prop} (h : W61 v0 H K) : CallT Try.prog 61 [v0] H K :=
  CallT.of_wp (D := D61) tab_ok mixed Try.func61 (c := bodyOf Try.f61) (by kernel_rfl) rfl (by kernel_rfl) (rs := #[.tmp 2]) rfl (by decide +kernel) (by kernel_rfl) (W61_wp v0 H K) h
/-- slices.IndexFunc[[][]loop.example/g00649/impl.Node,[]loop.example/g00649/impl.Node] -/
def D62 : Info := ⟨19, fun i => ([], []), fun i => if i = 2 then ([0, 1, 7], [8]) else ([], [])⟩
def L62_0 (K : AV → Heap → Prop) (v0 : AV) (v1 : AV) (v7 : AV) (v8 : AV) (H : Heap) : Prop := LoopV (wpC Try.prog tab D62 (cAt [1, 0, 1, 0, 0] (bodyOf Try.f62))) [0, 1, 7] (PostF.block 0 (PostF.thenA (wpC Try.prog tab D62 (cAt [1, 1] (bodyOf Try.f62))) (retF tab [.tmp 4] K))) [8] [v0, v1, AV.any, AV.any, AV.any, AV.any, AV.any, v7, v8, AV.any, AV.any, AV.any, AV.any, AV.any, AV.any, AV.any, AV.any, AV.any, AV.any] H
def B62_0 (K : AV → Heap → Prop) (N1 : AV → Heap → Prop) (v0 : AV) (v1 : AV) (v7 : AV) (v8 : AV) (H : Heap) : Prop :=
 binV tab .lss 3 v8 v7 fun v9 =>
 condV v9 (indexAddrV tab 36 v0 v8 fun v14 =>
 loadV tab 29 v14 H fun v15 =>
 callF Try.prog v1 [v15] H fun v16 H1 =>
 condV v16 (K v8 H1)
 (binV tab .add 3 v8 (AV.p (.int .i64 1)) fun v18 =>
 N1 v18 H1))
 (K (AV.p (.int .i64 (-1))) H)
def W62 (v0 : AV) (v1 : AV) (H : Heap) (K : AV → Heap → Prop) : Prop :=
 lenV tab 36 v0 fun v7 =>
 L62_0 K v0 v1 v7 (AV.p (.int .i64 0)) H
theorem W62_wp (v0 : AV) (v1 : AV) (H : Heap) (K : AV → Heap → Prop) : wpC Try.prog tab D62 (bodyOf Try.f62) (retF tab [.tmp 4] K) (nthA [v0, v1]) H = W62 v0 v1 H K := by kernel_rfl
theorem W62_ok {v0 v1 : AV} {H : Heap} {K : AV → Heap → Prop} (h : W62 v0 v1 H K) : CallT Try.prog 62 [v0, v1] H K :=
  CallT.of_wp (D := D62) tab_ok mixed Try.func62 (c := bodyOf Try.f62) (by kernel_rfl) rfl (by kernel_rfl) (rs := #[.tmp 4]) rfl (by decide +kernel) (by kernel_rfl) (W62_wp v0 v1 H K) h
theorem L62_0_rule {K : AV → Heap → Prop} {v0 v1 v7 v8 : AV} {H : Heap} {σ : Type} (s0 : σ) (f8 : σ → AV) (TH : σ → Heap) (pre : σ → Prop) (μ : σ → Nat)
    (h0 : pre s0 ∧ AV.wk v8 (f8 s0) ∧ Heap.le (TH s0) H)
    (round : ∀ s, pre s → B62_0 K (fun w8 H' => ∃ s', pre s' ∧ μ s' < μ s ∧ AV.wk w8 (f8 s') ∧ Heap.le (TH s') H') v0 v1 v7 (f8 s) (TH s)) :
    L62_0 K v0 v1 v7 v8 H := by
  unfold L62_0
  exact LoopV.mk s0 (fun s => [f8 s]) TH pre μ (fun _ => rfl) (Eq.mp (by kernel_rfl) h0) (fun s hs => Eq.mp (by kernel_rfl) (round s hs))
/-- loop.example/g00649/impl.isTermOf -/
def D63 : Info := ⟨19, fun i => ([], []), fun i => ([], [])⟩
def W63 (v0 : AV) (v1 : AV) (v2 : AV) (v3 : AV) (H : Heap) (K : AV → Heap → Prop) : Prop :=
 CallT Try.prog 50 [v0, v1, v2] H fun v12 H1 =>
 grdV v12 true (CallT Try.prog 84 [v2] H1 fun v15 H2 =>
 binV tab .eql 3 v15 v3 fun v17 =>
 K v17 H2)
 (K (AV.p (.bool false)) H1)
theorem W63_wp (v0 : AV) (v1 : AV) (v2 : AV) (v3 : AV) (H : Heap) (K : AV → Heap → Prop) : wpC Try.prog tab D63 (bodyOf Try.f63) (retF tab [.tmp 8] K) (nthA [v0, v1, v2, v3]) H = W63 v0 v1 v2 v3 H K := by kernel_rfl
theorem W63_ok {v0 v1 v2 v3 : AV} {H : Heap} {K : AV → Heap → Prop} (h : W63 v0 v1 v2 v3 H K) : CallT Try.prog 63 [v0, v1, v2, v3] H K :=
  CallT.of_wp (D := D63) tab_ok mixed Try.func63 (c := bodyOf Try.f63) (by kernel_rfl) rfl (by kernel_rfl) (rs := #[.tmp 8]) rfl (by decide +kernel) (by kernel_rfl) (W63_wp v0 v1 v2 v3 H K) h
/-- loop.example/g00649/impl.apply -/
def D64 : Info := ⟨98, fun i => ([], []), fun i => ([], [])⟩
def J64_0 (K : AV → Heap → Prop) (v0 : AV) (v1 : AV) (v2 : AV) (v3 : AV) (v9 : AV) (v10 : AV) (v63 : AV) (H : Heap) : Prop :=
 condV v63 (binV tab .eql 3 v1 (AV.p (.int .i64 11)) fun v70 =>
 CallT Try.prog 86 [v0, v2, v3, v70] H fun v71 H12 =>
 CallT Try.prog 49 [v0] H12 fun v96 H13 =>
 binV tab .and 52 v71 v96 fun v97 =>
 K v97 H13)
 (binV tab .eql 3 v10 (AV.p (.int .i64 14)) fun v73 =>
 condV v73 (binV tab .eql 52 v2 v3 fun v76 =>
 CallT Try.prog 87 [v76] H fun v77 H14 =>
 CallT Try.prog 49 [v0] H14 fun v96 H15 =>
 binV tab .and 52 v77 v96 fun v97 =>
 K v97 H15)
 (binV tab .eql 3 v10 (AV.p (.int .i64 15)) fun v79 =>
 condV v79 (binV tab .lss 52 v2 v3 fun v82 =>
 CallT Try.prog 87 [v82] H fun v83 H16 =>
 CallT Try.prog 49 [v0] H16 fun v96 H17 =>
 binV tab .and 52 v83 v96 fun v97 =>
 K v97 H17)
 (binV tab .eql 3 v10 (AV.p (.int .i64 16)) fun v85 =>
 condV v85 (CallT Try.prog 88 [v0, v2] H fun v88 H18 =>
 CallT Try.prog 88 [v0, v3] H18 fun v91 H19 =>
 binV tab .lss 2 v88 v91 fun v92 =>
 CallT Try.prog 87 [v92] H19 fun v93 H20 =>
 CallT Try.prog 49 [v0] H20 fun v96 H21 =>
 binV tab .and 52 v93 v96 fun v97 =>
 K v97 H21)
 (CallT Try.prog 49 [v0] H fun v96 H22 =>
 binV tab .and 52 v9 v96 fun v97 =>
 K v97 H22))))
def J64_1 (K : AV → Heap → Prop) (v0 : AV) (v1 : AV) (v2 : AV) (v3 : AV) (v9 : AV) (v10 : AV) (v52 : AV) (H : Heap) : Prop :=
 condV v52 (binV tab .or 52 v2 v3 fun v57 =>
 CallT Try.prog 49 [v0] H fun v96 H10 =>
 binV tab .and 52 v57 v96 fun v97 =>
 K v97 H10)
 (binV tab .eql 3 v10 (AV.p (.int .i64 10)) fun v59 =>
 condV v59 (binV tab .xor 52 v2 v3 fun v62 =>
 CallT Try.prog 49 [v0] H fun v96 H11 =>
 binV tab .and 52 v62 v96 fun v97 =>
 K v97 H11)
 (binV tab .eql 3 v10 (AV.p (.int .i64 11)) fun v64 =>
 condV v64 (J64_0 K v0 v1 v2 v3 v9 v10 v64 H)
 (binV tab .eql 3 v10 (AV.p (.int .i64 12)) fun v65 =>
 J64_0 K v0 v1 v2 v3 v9 v10 v65 H)))
def J64_2 (K : AV → Heap → Prop) (v0 : AV) (v1 : AV) (v2 : AV) (v3 : AV) (v9 : AV) (v10 : AV) (v46 : AV) (H : Heap) : Prop :=
 condV v46 (binV tab .and 52 v2 v3 fun v51 =>
 CallT Try.prog 49 [v0] H fun v96 H9 =>
 binV tab .and 52 v51 v96 fun v97 =>
 K v97 H9)
 (binV tab .eql 3 v10 (AV.p (.int .i64 9)) fun v53 =>
 condV v53 (J64_1 K v0 v1 v2 v3 v9 v10 v53 H)
 (binV tab .eql 3 v10 (AV.p (.int .i64 18)) fun v54 =>
 J64_1 K v0 v1 v2 v3 v9 v10 v54 H))
def W64 (v0 : AV) (v1 : AV) (v2 : AV) (v3 : AV) (H : Heap) (K : AV → Heap → Prop) : Prop :=
 binV tab .eql 3 v1 (AV.p (.int .i64 3)) fun v12 =>
 condV v12 (binV tab .add 52 v2 v3 fun v15 =>
 CallT Try.prog 49 [v0] H fun v96 H2 =>
 binV tab .and 52 v15 v96 fun v97 =>
 K v97 H2)
 (binV tab .eql 3 v1 (AV.p (.int .i64 4)) fun v17 =>
 condV v17 (binV tab .sub 52 v2 v3 fun v20 =>
 CallT Try.prog 49 [v0] H fun v96 H3 =>
 binV tab .and 52 v20 v96 fun v97 =>
 K v97 H3)
 (binV tab .eql 3 v1 (AV.p (.int .i64 5)) fun v22 =>
 condV v22 (binV tab .mul 52 v2 v3 fun v25 =>
 CallT Try.prog 49 [v0] H fun v96 H4 =>
 binV tab .and 52 v25 v96 fun v97 =>
 K v97 H4)
 (binV tab .eql 3 v1 (AV.p (.int .i64 6)) fun v27 =>
 condV v27 (CallT Try.prog 85 [v0, v2, v3] H fun v32 H5 =>
 extractV v32 0 fun v33 =>
 extractV v32 1 fun v34 =>
 extractV v32 2 fun v35 =>
 CallT Try.prog 49 [v0] H5 fun v96 H6 =>
 binV tab .and 52 v33 v96 fun v97 =>
 K v97 H6)
 (binV tab .eql 3 v1 (AV.p (.int .i64 7)) fun v37 =>
 condV v37 (CallT Try.prog 85 [v0, v2, v3] H fun v42 H7 =>
 extractV v42 0 fun v43 =>
 extractV v42 1 fun v44 =>
 extractV v42 2 fun v45 =>
 CallT Try.prog 49 [v0] H7 fun v96 H8 =>
 binV tab .and 52 v44 v96 fun v97 =>
 K v97 H8)
 (binV tab .eql 3 v1 (AV.p (.int .i64 8)) fun v47 =>
 condV v47 (J64_2 K v0 v1 v2 v3 (AV.p (.int .u64 0)) v1 v47 H)
 (binV tab .eql 3 v1 (AV.p (.int .i64 17)) fun v48 =>
 J64_2 K v0 v1 v2 v3 (AV.p (.int .u64 0)) v1 v48 H))))))
theorem W64_wp (v0 : AV) (v1 : AV) (v2 : AV) (v3 : AV) (H : Heap) (K : AV → Heap → Prop) : wpC Try.prog tab D64 (bodyOf Try.f64) (retF tab [.tmp 8] K) (nthA [v0, v1, v2, v3]) H = W64 v0 v1 v2 v3 H K := by kernel_rfl
theorem W64_ok {v0 v1 v2 v3 : AV} {H : Heap} {K : AV → Heap → Prop} (h : W64 v0 v1 v2 v3 H K) : CallT Try.prog 64 [v0, v1, v2, v3] H K :=
  CallT.of_wp (D := D64) tab_ok mixed Try.func64 (c := bodyOf Try.f64) (by kernel_rfl) rfl (by kernel_rfl) (rs := #[.tmp 8]) rfl (by decide +kernel) (by kernel_rfl) (W64_wp v0 v1 v2 v3 H K) h
/-- loop.example/g00649/impl.isWide -/
def D65 : Info := ⟨9, fun i => ([], []), fun i => ([], [])⟩
def W65 (v0 : AV) (H : Heap) (K : AV → Heap → Prop) : Prop :=
 binV tab .geq 3 v0 (AV.p (.int .i64 1)) fun v4 =>
 grdV v4 true (binV tab .leq 3 v0 (AV.p (.int .i64 64)) fun v7 =>
 K v7 H)
 (K (AV.p (.bool false)) H)
theorem W65_wp (v0 : AV) (H : Heap) (K : AV → Heap → Prop) : wpC Try.prog tab D65 (bodyOf Try.f65) (retF tab [.tmp 2] K) (nthA [v0]) H = W65 v0 H K := by kernel_rfl
theorem W65_ok {v0 : AV} {H : Heap} {K : AV → Heap → Prop} (h : W65 v0 H K) : CallT Try.prog 65 [v0] H K :=
  CallT.of_wp (D := D65) tab_ok mixed Try.func65 (c := bodyOf Try.f65) (by kernel_rfl) rfl (by kernel_rfl) (rs := #[.tmp 2]) rfl (by decide +kernel) (by kernel_rfl) (W65_wp v0 H K) h
/-- loop.example/g00649/impl.isVars -/
def D66 : Info := ⟨9, fun i => ([], []), fun i => ([], [])⟩
def W66 (v0 : AV) (H : Heap) (K : AV → Heap → Prop) : Prop :=
 binV tab .geq 3 v0 (AV.p (.int .i64 1)) fun v4 =>
 grdV v4 true (binV tab .leq 3 v0 (AV.p (.int .i64 4)) fun v7 =>
 K v7 H)
 (K (AV.p (.bool false)) H)
theorem W66_wp (v0 : AV) (H : Heap) (K : AV → Heap → Prop) : wpC Try.prog tab D66 (bodyOf Try.f66) (retF tab [.tmp 2] K) (nthA [v0]) H = W66 v0 H K := by kernel_rfl
theorem W66_ok {v0 : AV} {H : Heap} {K : AV → Heap → Prop} (h : W66 v0 H K) : CallT Try.prog 66 [v0] H K :=
  CallT.of_wp (D := D66) tab_ok mixed Try.func66 (c := bodyOf Try.f66) (by kernel_rfl) rfl (by kernel_rfl) (rs := #[.tmp 2]) rfl (by decide +kernel) (by kernel_rfl) (W66_wp v0 H K) h
/-- loop.example/g00649/impl.operandsOf -/
def D67 : Info := ⟨42, fun i => ([], []), fun i => ([], [])⟩
def J67_0 (K : AV → Heap → Prop) (v40 : AV) (H : Heap) : Prop :=
 condV v40 (K (.tup [(AV.p (.int .i64 2)), (AV.p (.int .i64 2)), (AV.p (.int .i64 2))]) H)
 (K (.tup [(AV.p (.int .i64 0)), (AV.p (.int .i64 0)), (AV.p (.int .i64 0))]) H)
def J67_1 (K : AV → Heap → Prop) (v0 : AV) (v33 : AV) (H : Heap) : Prop :=
 condV v33 (K (.tup [(AV.p (.int .i64 2)), (AV.p (.int .i64 1)), (AV.p (.int .i64 2))]) H)
 (binV tab .eql 3 v0 (AV.p (.int .i64 17)) fun v37 =>
 grdV v37 false (binV tab .eql 3 v0 (AV.p (.int .i64 18)) fun v40 =>
 J67_0 K v40 H)
 (K (.tup [(AV.p (.int .i64 2)), (AV.p (.int .i64 2)), (AV.p (.int .i64 2))]) H))
def J67_2 (K : AV → Heap → Prop) (v0 : AV) (H : Heap) : Prop :=
 binV tab .eql 3 v0 (AV.p (.int .i64 17)) fun v37 =>
 grdV v37 false (binV tab .eql 3 v0 (AV.p (.int .i64 18)) fun v40 =>
 J67_0 K v40 H)
 (K (.tup [(AV.p (.int .i64 2)), (AV.p (.int .i64 2)), (AV.p (.int .i64 2))]) H)
def W67 (v0 : AV) (H : Heap) (K : AV → Heap → Prop) : Prop :=
 binV tab .eql 3 v0 (AV.p (.int .i64 1)) fun v7 =>
 grdV v7 false (binV tab .eql 3 v0 (AV.p (.int .i64 2)) fun v10 =>
 condV v10 (K (.tup [(AV.p (.int .i64 0)), (AV.p (.int .i64 0)), (AV.p (.int .i64 1))]) H)
 (binV tab .eql 3 v0 (AV.p (.int .i64 20)) fun v14 =>
 condV v14 (K (.tup [(AV.p (.int .i64 0)), (AV.p (.int .i64 0)), (AV.p (.int .i64 2))]) H)
 (binV tab .eql 3 v0 (AV.p (.int .i64 13)) fun v17 =>
 condV v17 (K (.tup [(AV.p (.int .i64 1)), (AV.p (.int .i64 1)), (AV.p (.int .i64 1))]) H)
 (binV tab .eql 3 v0 (AV.p (.int .i64 19)) fun v20 =>
 condV v20 (K (.tup [(AV.p (.int .i64 1)), (AV.p (.int .i64 2)), (AV.p (.int .i64 2))]) H)
 (binV tab .geq 3 v0 (AV.p (.int .i64 3)) fun v23 =>
 grdV v23 true (binV tab .leq 3 v0 (AV.p (.int .i64 12)) fun v26 =>
 condV v26 (K (.tup [(AV.p (.int .i64 2)), (AV.p (.int .i64 1)), (AV.p (.int .i64 1))]) H)
 (binV tab .geq 3 v0 (AV.p (.int .i64 14)) fun v30 =>
 grdV v30 true (binV tab .leq 3 v0 (AV.p (.int .i64 16)) fun v33 =>
 J67_1 K v0 v33 H)
 (J67_2 K v0 H)))
 (binV tab .geq 3 v0 (AV.p (.int .i64 14)) fun v30 =>
 grdV v30 true (binV tab .leq 3 v0 (AV.p (.int .i64 16)) fun v33 =>
 J67_1 K v0 v33 H)
 (J67_2 K v0 H)))))))
 (K (.tup [(AV.p (.int .i64 0)), (AV.p (.int .i64 0)), (AV.p (.int .i64 1))]) H)
theorem W67_wp (v0 : AV) (H : Heap) (K : AV → Heap → Prop) : wpC Try.prog tab D67 (bodyOf Try.f67) (retF tab [.tmp 2, .tmp 3, .tmp 4] K) (nthA [v0]) H = W67 v0 H K := by kernel_rfl
theorem W67_ok {v0 : AV} {H : Heap} {K : AV → Heap → Prop} (h : W67 v0 H K) : CallT Try.prog 67 [v0] H K :=
  CallT.of_wp (D := D67) tab_ok mixed Try.func67 (c := bodyOf Try.f67) (by kernel_rfl) rfl (by kernel_rfl) (rs := #[.tmp 2, .tmp 3, .tmp 4]) rfl (by decide +kernel) (by kernel_rfl) (W67_wp v0 H K) h
/-- loop.example/g00649/impl.isLeafRight -/
def D68 : Info := ⟨30, fun i => ([], []), fun i => ([], [])⟩
def W68 (v0 : AV) (v1 : AV) (v2 : AV) (H : Heap) (K : AV → Heap → Prop) : Prop :=
 boxV v2 H fun v5 H1 =>
 fieldAddrV tab 54 v5 0 fun v7 =>
 loadV tab 3 v7 H1 fun v8 =>
 binV tab .eql 3 v8 (AV.p (.int .i64 1)) fun v10 =>
 condV v10 (fieldAddrV tab 54 v5 1 fun v12 =>
 loadV tab 52 v12 H1 fun v13 =>
 CallT Try.prog 89 [v0, v13] H1 fun v14 H2 =>
 K v14 H2)
 (binV tab .eql 3 v8 (AV.p (.int .i64 2)) fun v16 =>
 condV v16 (fieldAddrV tab 54 v5 1 fun v17 =>
 loadV tab 52 v17 H1 fun v18 =>
 convV tab 3 52 v1 fun v20 =>
 binV tab .lss 52 v18 v20 fun v21 =>
 K v21 H1)
 (binV tab .eql 3 v8 (AV.p (.int .i64 20)) fun v23 =>
 condV v23 (fieldAddrV tab 54 v5 1 fun v24 =>
 loadV tab 52 v24 H1 fun v25 =>
 binV tab .leq 52 v25 (AV.p (.int .u64 1)) fun v26 =>
 K v26 H1)
 (fieldAddrV tab 54 v5 1 fun v27 =>
 loadV tab 52 v27 H1 fun v28 =>
 binV tab .eql 52 v28 (AV.p (.int .u64 0)) fun v29 =>
 K v29 H1)))
theorem W68_wp (v0 : AV) (v1 : AV) (v2 : AV) (H : Heap) (K : AV → Heap → Prop) : wpC Try.prog tab D68 (bodyOf Try.f68) (retF tab [.tmp 6] K) (nthA [v0, v1, v2]) H = W68 v0 v1 v2 H K := by kernel_rfl
theorem W68_ok {v0 v1 v2 : AV} {H : Heap} {K : AV → Heap → Prop} (h : W68 v0 v1 v2 H K) : CallT Try.prog 68 [v0, v1, v2] H K :=
  CallT.of_wp (D := D68) tab_ok mixed Try.func68 (c := bodyOf Try.f68) (by kernel_rfl) rfl (by kernel_rfl) (rs := #[.tmp 6]) rfl (by decide +kernel) (by kernel_rfl) (W68_wp v0 v1 v2 H K) h
/-- slices.ContainsFunc[[]int,int] -/
def D69 : Info := ⟨9, fun i => ([], []), fun i => ([], [])⟩
def W69 (v0 : AV) (v1 : AV) (H : Heap) (K : AV → Heap → Prop) : Prop :=
 CallT Try.prog 90 [v0, v1] H fun v7 H1 =>
 binV tab .geq 3 v7 (AV.p (.int .i64 0)) fun v8 =>
 K v8 H1
theorem W69_wp (v0 : AV) (v1 : AV) (H : Heap) (K : AV → Heap → Prop) : wpC Try.prog tab D69 (bodyOf Try.f69) (retF tab [.tmp 4] K) (nthA [v0, v1]) H = W69 v0 v1 H K := by kernel_rfl
theorem W69_ok {v0 v1 : AV} {H : Heap} {K : AV → Heap → Prop} (h : W69 v0 v1 H K) : CallT Try.prog 69 [v0, v1] H K :=
  CallT.of_wp (D := D69) tab_ok mixed Try.func69 (c := bodyOf Try.f69) (by kernel_rfl) rfl (by kernel_rfl) (rs := #[.tmp 4]) rfl (by decide +kernel) (by kernel_rfl) (W69_wp v0 v1 H K) h
/-- loop.example/g00649/impl.GoodTerm$1 -/
def D70 : Info := ⟨7, fun i => ([], []), fun i => ([], [])⟩
def W70 (v0 : AV) (v1 : AV) (H : Heap) (K : AV → Heap → Prop) : Prop :=
 loadV tab 3 v1 H fun v5 =>
 binV tab .neq 3 v0 v5 fun v6 =>
 K v6 H
theorem W70_wp (v0 : AV) (v1 : AV) (H : Heap) (K : AV → Heap → Prop) : wpC Try.prog tab D70 (bodyOf Try.f70) (retF tab [.tmp 3] K) (nthA [v0, v1]) H = W70 v0 v1 H K := by kernel_rfl
theorem W70_ok {v0 v1 : AV} {H : Heap} {K : AV → Heap → Prop} (h : W70 v0 v1 H K) : CallT Try.prog 70 [v0, v1] H K :=
  CallT.of_wp (D := D70) tab_ok mixed Try.func70 (c := bodyOf Try.f70) (by kernel_rfl) rfl (by kernel_rfl) (rs := #[.tmp 3]) rfl (by decide +kernel) (by kernel_rfl) (W70_wp v0 v1 H K) h
/-- loop.example/g00649/laws.eqChangeS -/
def D71 : Info := ⟨27, fun i => if i = 6 then ([[], [], [0, 1], [0, 1, 2], [], [], [4, 5], [4, 5, 6], [0, 1, 2, 3, 4, 5, 6, 7], [0, 1, 2, 3, 4, 5, 6, 7, 8]], [(0, []), (1, []), (2, []), (3, []), (4, []), (5, []), (6, []), (7, []), (8, []), (9, [])]) else ([], []), fun i => if i = 4 then ([0, 1], [5]) else ([], [])⟩
def L71_0 (K : AV → Heap → Prop) (v0 : AV) (v1 : AV) (v5 : AV) (H : Heap) : Prop := LoopV (wpC Try.prog tab D71 (cAt [1, 1, 0, 1, 0, 0] (bodyOf Try.f71))) [0, 1] (PostF.block 0 (PostF.thenA (wpC Try.prog tab D71 (cAt [1, 1, 1] (bodyOf Try.f71))) (retF tab [.tmp 4] K))) [5] [v0, v1, AV.any, AV.any, AV.any, v5, AV.any, AV.any, AV.any, AV.any, AV.any, AV.any, AV.any, AV.any, AV.any, AV.any, AV.any, AV.any, AV.any, AV.any, AV.any, AV.any, AV.any, AV.any, AV.any, AV.any, AV.any] H
def B71_0 (K : AV → Heap → Prop) (N1 : AV → Heap → Prop) (v0 : AV) (v1 : AV) (v5 : AV) (H : Heap) : Prop :=
 lenV tab 77 v0 fun v13 =>
 binV tab .lss 3 v5 v13 fun v14 =>
 condV v14 (indexAddrV tab 77 v0 v5 fun v19 =>
 loadV tab 103 v19 H fun v20 =>
 indexAddrV tab 77 v1 v5 fun v23 =>
 loadV tab 103 v23 H fun v24 =>
 CallT Try.prog 91 [v20, v24] H fun v25 H1 =>
 unV .not v25 fun v26 =>
 condV v26 (K (AV.p (.bool false)) H1)
 (binV tab .add 3 v5 (AV.p (.int .i64 1)) fun v16 =>
 N1 v16 H1))
 (K (AV.p (.bool true)) H)
def W71 (v0 : AV) (v1 : AV) (H : Heap) (K : AV → Heap → Prop) : Prop :=
 lenV tab 77 v0 fun v7 =>
 lenV tab 77 v1 fun v9 =>
 binV tab .neq 3 v7 v9 fun v10 =>
 condV v10 (K (AV.p (.bool false)) H)
 (L71_0 K v0 v1 (AV.p (.int .i64 0)) H)
theorem W71_wp (v0 : AV) (v1 : AV) (H : Heap) (K : AV → Heap → Prop) : wpC Try.prog tab D71 (bodyOf Try.f71) (retF tab [.tmp 4] K) (nthA [v0, v1]) H = W71 v0 v1 H K := by kernel_rfl
theorem W71_ok {v0 v1 : AV} {H : Heap} {K : AV → Heap → Prop} (h : W71 v0 v1 H K) : CallT Try.prog 71 [v0, v1] H K :=
  CallT.of_wp (D := D71) tab_ok mixed Try.func71 (c := bodyOf Try.f71) (by kernel_rfl) rfl (by kernel_rfl) (rs := #[.tmp 4]) rfl (by decide +kernel) (by kernel_rfl) (W71_wp v0 v1 H K) h
theorem L71_0_rule {K : AV → Heap → Prop} {v0 v1 v5 : AV} {H : Heap} {σ : Type} (s0 : σ) (f5 : σ → AV) (TH : σ → Heap) (pre : σ → Prop) (μ : σ → Nat)
    (h0 : pre s0 ∧ AV.wk v5 (f5 s0) ∧ Heap.le (TH s0) H)
    (round : ∀ s, pre s → B71_0 K (fun w5 H' => ∃ s', pre s' ∧ μ s' < μ s ∧ AV.wk w5 (f5 s') ∧ Heap.le (TH s') H') v0 v1 (f5 s) (TH s)) :
    L71_0 K v0 v1 v5 H := by
  unfold L71_0
  exact LoopV.mk s0 (fun s => [f5 s]) TH pre μ (fun _ => rfl) (Eq.mp (by kernel_rfl) h0) (fun s hs => Eq.mp (by kernel_rfl) (round s hs))
/-- loop.example/g00649/laws.szChange -/
def D72 : Info := ⟨12, fun i => ([], []), fun i => ([], [])⟩
def W72 (v0 : AV) (v1 : AV) (H : Heap) (K : AV → Heap → Prop) : Prop :=
 boxV v0 H fun v2 H1 =>
 fieldAddrV tab 106 v2 1 fun v5 =>
 loadV tab 22 v5 H1 fun v6 =>
 CallT Try.prog 17 [v6, v1] H1 fun v8 H2 =>
 binV tab .lss 3 v8 (AV.p (.int .i64 0)) fun v10 =>
 condV v10 (K (AV.p (.int .i64 (-1))) H2)
 (K v8 H2)
theorem W72_wp (v0 : AV) (v1 : AV) (H : Heap) (K : AV → Heap → Prop) : wpC Try.prog tab D72 (bodyOf Try.f72) (retF tab [.tmp 4] K) (nthA [v0, v1]) H = W72 v0 v1 H K := by kernel_rfl
theorem W72_ok {v0 v1 : AV} {H : Heap} {K : AV → Heap → Prop} (h : W72 v0 v1 H K) : CallT Try.prog 72 [v0, v1] H K :=
  CallT.of_wp (D := D72) tab_ok mixed Try.func72 (c := bodyOf Try.f72) (by kernel_rfl) rfl (by kernel_rfl) (rs := #[.tmp 4]) rfl (by decide +kernel) (by kernel_rfl) (W72_wp v0 v1 H K) h
/-- loop.example/g00649/spec.l7Command -/
def D73 : Info := ⟨62, fun i => if i = 6 then ([[], [0], [], [2], [2, 3], [0, 1, 2, 3, 4], [0, 1, 2, 3, 4, 5], [0, 1, 2, 3, 4, 5, 6], [0, 1, 2, 3, 4, 5, 6, 7], [0, 1, 2, 3, 4, 5, 6, 7, 8], [0, 1, 2, 3, 4, 5, 6, 7, 8, 9], [0, 1, 2, 3, 4, 5, 6, 7, 8, 9, 10], [0, 1, 2, 3, 4, 5, 6, 7, 8, 9, 10, 11], [0, 1, 2, 3, 4, 5, 6, 7, 8, 9, 10], [0, 1, 2, 3, 4, 5, 6, 7, 8, 9, 10, 13], [0, 1, 2, 3, 4, 5, 6, 7, 8, 9, 10, 11, 12, 13, 14], [0, 1, 2, 3, 4, 5, 6, 7, 8, 9, 10, 11, 12, 13, 14, 15], [0, 1, 2, 3, 4, 5, 6, 7, 8, 9, 10, 11, 12, 13, 14, 15, 16], [0, 1, 2, 3, 4, 5, 6, 7, 8, 9, 10], [0, 1, 2, 3, 4, 5, 6, 7, 8, 9, 10, 18], [0, 1, 2, 3, 4, 5, 6, 7, 8, 9, 10, 11, 12, 13, 14, 15, 16, 17, 18, 19], [0, 1, 2, 3, 4, 5, 6, 7, 8, 9, 10, 11, 12, 13, 14, 15, 16, 17, 18, 19, 20], [0, 1, 2, 3, 4, 5, 6, 7, 8, 9, 10, 11, 12, 13, 14, 15, 16, 17, 18, 19, 20, 21], [0, 1, 2, 3, 4, 5, 6, 7, 8, 9, 10, 11, 12, 13, 14, 15, 16, 17, 18, 19, 20, 21, 22], [0, 1, 2, 3, 4, 5, 6, 7, 8, 9, 10, 11, 12, 13, 14, 15, 16, 17, 18, 19, 20, 21, 22, 23], [0, 1, 2, 3, 4, 5, 6, 7, 8, 9, 10, 11, 12, 13, 14, 15, 16, 17, 18, 19, 20, 21, 22, 23, 24], [0, 1, 2, 3, 4, 5, 6, 7, 8, 9, 10, 11, 12, 13, 14, 15, 16, 17, 18, 19, 20, 21, 22, 23], [0, 1, 2, 3, 4, 5, 6, 7, 8, 9, 10, 11, 12, 13, 14, 15, 16, 17, 18, 19, 20, 21, 22, 23, 26], [0, 1, 2, 3, 4, 5, 6, 7, 8, 9, 10, 11, 12, 13, 14, 15, 16, 17, 18, 19, 20, 21, 22, 23], [0, 1, 2, 3, 4, 5, 6, 7, 8, 9, 10, 11, 12, 13, 14, 15, 16, 17, 18, 19, 20, 21, 22, 23, 28], [0, 1, 2, 3, 4, 5, 6, 7, 8, 9, 10, 11, 12, 13, 14, 15, 16, 17, 18, 19, 20, 21, 22, 23, 24, 25, 26, 27, 28, 29], [0, 1, 2, 3, 4, 5, 6, 7, 8, 9, 10, 11, 12, 13, 14, 15, 16, 17, 18, 19, 20, 21, 22, 23, 24, 25, 26, 27, 28, 29, 30], [0, 1, 2, 3, 4, 5, 6, 7, 8, 9, 10, 11, 12, 13, 14, 15, 16, 17, 18, 19, 20, 21, 22, 23, 24, 25, 26, 27, 28, 29, 30, 31]], [(0, []), (1, []), (2, []), (3, []), (4, []), (5, []), (6, []), (7, []), (8, []), (9, []), (10, []), (11, []), (12, []), (13, []), (14, []), (15, []), (16, []), (17, []), (18, []), (19, []), (20, []), (21, []), (22, []), (23, []), (24, []), (25, []), (26, []), (27, []), (28, []), (29, []), (30, []), (31, []), (32, [])]) else ([], []), fun i => if i = 4 then ([2, 3, 21, 22], [23]) else ([], [])⟩
def L73_0 (K : AV → Heap → Prop) (v2 : AV) (v3 : AV) (v21 : AV) (v22 : AV) (v23 : AV) (H : Heap) : Prop := LoopV (wpC Try.prog tab D73 (cAt [1, 1, 0, 1, 0, 0] (bodyOf Try.f73))) [2, 3, 21, 22] (PostF.block 0 (PostF.thenA (wpC Try.prog tab D73 (cAt [1, 1, 1] (bodyOf Try.f73))) (retF tab [.tmp 4] K))) [23] [AV.any, AV.any, v2, v3, AV.any, AV.any, AV.any, AV.any, AV.any, AV.any, AV.any, AV.any, AV.any, AV.any, AV.any, AV.any, AV.any, AV.any, AV.any, AV.any, AV.any, v21, v22, v23, AV.any, AV.any, AV.any, AV.any, AV.any, AV.any, AV.any, AV.any, AV.any, AV.any, AV.any, AV.any, AV.any, AV.any, AV.any, AV.any, AV.any, AV.any, AV.any, AV.any, AV.any, AV.any, AV.any, AV.any, AV.any, AV.any, AV.any, AV.any, AV.any, AV.any, AV.any, AV.any, AV.any, AV.any, AV.any, AV.any, AV.any, AV.any] H
def B73_0 (K : AV → Heap → Prop) (N1 : AV → Heap → Prop) (v2 : AV) (v3 : AV) (v21 : AV) (v22 : AV) (v23 : AV) (H : Heap) : Prop :=
 binV tab .lss 3 v23 v22 fun v24 =>
 condV v24 (indexAddrV tab 77 v21 v23 fun v26 =>
 loadV tab 103 v26 H fun v27 =>
 allocV tab 103 H fun v6 H4 =>
 storeV tab 103 v6 v27 H4 fun H5 =>
 fieldAddrV tab 103 v6 0 fun v28 =>
 loadV tab 3 v28 H5 fun v29 =>
 fieldAddrV tab 34 v2 1 fun v30 =>
 loadV tab 3 v30 H5 fun v31 =>
 binV tab .sub 3 v31 (AV.p (.int .i64 1)) fun v32 =>
 CallT Try.prog 36 [v29, (AV.p (.int .i64 0)), v32] H5 fun v33 H6 =>
 unV .not v33 fun v34 =>
 grdV v34 false (binV tab .gtr 3 v23 (AV.p (.int .i64 0)) fun v37 =>
 grdV v37 true (fieldAddrV tab 79 v3 1 fun v39 =>
 loadV tab 77 v39 H6 fun v40 =>
 binV tab .sub 3 v23 (AV.p (.int .i64 1)) fun v42 =>
 indexAddrV tab 77 v40 v42 fun v43 =>
 fieldAddrV tab 103 v43 0 fun v44 =>
 loadV tab 3 v44 H6 fun v45 =>
 fieldAddrV tab 103 v6 0 fun v46 =>
 loadV tab 3 v46 H6 fun v47 =>
 binV tab .geq 3 v45 v47 fun v48 =>
 grdV v48 false (fieldAddrV tab 34 v2 0 fun v52 =>
 loadV tab 3 v52 H6 fun v53 =>
 fieldAddrV tab 34 v2 1 fun v54 =>
 loadV tab 3 v54 H6 fun v55 =>
 fieldAddrV tab 103 v6 1 fun v56 =>
 loadV tab 29 v56 H6 fun v57 =>
 CallT Try.prog 55 [v53, v55, v57] H6 fun v58 H7 =>
 binV tab .neq 3 v58 (AV.p (.int .i64 1)) fun v59 =>
 condV v59 (K (AV.p (.bool false)) H7)
 (binV tab .add 3 v23 (AV.p (.int .i64 1)) fun v61 =>
 N1 v61 H7))
 (K (AV.p (.bool false)) H6))
 (fieldAddrV tab 34 v2 0 fun v52 =>
 loadV tab 3 v52 H6 fun v53 =>
 fieldAddrV tab 34 v2 1 fun v54 =>
 loadV tab 3 v54 H6 fun v55 =>
 fieldAddrV tab 103 v6 1 fun v56 =>
 loadV tab 29 v56 H6 fun v57 =>
 CallT Try.prog 55 [v53, v55, v57] H6 fun v58 H8 =>
 binV tab .neq 3 v58 (AV.p (.int .i64 1)) fun v59 =>
 condV v59 (K (AV.p (.bool false)) H8)
 (binV tab .add 3 v23 (AV.p (.int .i64 1)) fun v61 =>
 N1 v61 H8)))
 (K (AV.p (.bool false)) H6))
 (K (AV.p (.bool true)) H)
def W73 (v0 : AV) (v1 : AV) (H : Heap) (K : AV → Heap → Prop) : Prop :=
 boxV v0 H fun v2 H1 =>
 boxV v1 H1 fun v3 H2 =>
 loadV tab 34 v2 H2 fun v7 =>
 fieldAddrV tab 79 v3 0 fun v8 =>
 loadV tab 29 v8 H2 fun v9 =>
 CallT Try.prog 38 [v7, v9] H2 fun v10 H3 =>
 unV .not v10 fun v11 =>
 grdV v11 false (fieldAddrV tab 79 v3 1 fun v13 =>
 loadV tab 77 v13 H3 fun v14 =>
 lenV tab 77 v14 fun v15 =>
 fieldAddrV tab 34 v2 1 fun v16 =>
 loadV tab 3 v16 H3 fun v17 =>
 binV tab .gtr 3 v15 v17 fun v18 =>
 condV v18 (K (AV.p (.bool false)) H3)
 (fieldAddrV tab 79 v3 1 fun v20 =>
 loadV tab 77 v20 H3 fun v21 =>
 lenV tab 77 v21 fun v22 =>
 L73_0 K v2 v3 v21 v22 (AV.p (.int .i64 0)) H3))
 (K (AV.p (.bool false)) H3)
theorem W73_wp (v0 : AV) (v1 : AV) (H : Heap) (K : AV → Heap → Prop) : wpC Try.prog tab D73 (bodyOf Try.f73) (retF tab [.tmp 4] K) (nthA [v0, v1]) H = W73 v0 v1 H K := by kernel_rfl
theorem W73_ok {v0 v1 : AV} {H : Heap} {K : AV → Heap → Prop} (h : W73 v0 v1 H K) : CallT Try.prog 73 [v0, v1] H K :=
  CallT.of_wp (D := D73) tab_ok mixed Try.func73 (c := bodyOf Try.f73) (by kernel_rfl) rfl (by kernel_rfl) (rs := #[.tmp 4]) rfl (by decide +kernel) (by kernel_rfl) (W73_wp v0 v1 H K) h
theorem L73_0_rule {K : AV → Heap → Prop} {v2 v3 v21 v22 v23 : AV} {H : Heap} {σ : Type} (s0 : σ) (f23 : σ → AV) (TH : σ → Heap) (pre : σ → Prop) (μ : σ → Nat)
    (h0 : pre s0 ∧ AV.wk v23 (f23 s0) ∧ Heap.le (TH s0) H)
    (round : ∀ s, pre s → B73_0 K (fun w23 H' => ∃ s', pre s' ∧ μ s' < μ s ∧ AV.wk w23 (f23 s') ∧ Heap.le (TH s') H') v2 v3 v21 v22 (f23 s) (TH s)) :
    L73_0 K v2 v3 v21 v22 v23 H := by
  unfold L73_0
  exact LoopV.mk s0 (fun s => [f23 s]) TH pre μ (fun _ => rfl) (Eq.mp (by kernel_rfl) h0) (fun s hs => Eq.mp (by kernel_rfl) (round s hs))
/-- loop.example/g00649/spec.l1Wide -/
def D74 : Info := ⟨5, fun i => ([], []), fun i => ([], [])⟩
def W74 (v0 : AV) (H : Heap) (K : AV → Heap → Prop) : Prop :=
 CallT Try.prog 36 [v0, (AV.p (.int .i64 1)), (AV.p (.int .i64 64))] H fun v4 H1 =>
 K v4 H1
theorem W74_wp (v0 : AV) (H : Heap) (K : AV → Heap → Prop) : wpC Try.prog tab D74 (bodyOf Try.f74) (retF tab [.tmp 2] K) (nthA [v0]) H = W74 v0 H K := by kernel_rfl
theorem W74_ok {v0 : AV} {H : Heap} {K : AV → Heap → Prop} (h : W74 v0 H K) : CallT Try.prog 74 [v0] H K :=
  CallT.of_wp (D := D74) tab_ok mixed Try.func74 (c := bodyOf Try.f74) (by kernel_rfl) rfl (by kernel_rfl) (rs := #[.tmp 2]) rfl (by decide +kernel) (by kernel_rfl) (W74_wp v0 H K) h
end Go.Proofs.Ytgcklgeifdefhaa
/- What each function's code is asked for, as a formula. Written by wgen.py (a program of this session's) out of Lean's print of the program. -/
namespace Go.Proofs.Ytgcklgeifdefhaa
open Go Go.Sep
set_option linter.unusedVariables false
attribute [local irreducible] wpC headF
/-- loop.example/g00649/spec.l2N -/
def D75 : Info := ⟨30, fun i => ([], []), fun i => ([], [])⟩
def W75 (v0 : AV) (v1 : AV) (v2 : AV) (H : Heap) (K : AV → Heap → Prop) : Prop :=
 boxV v2 H fun v5 H1 =>
 fieldAddrV tab 54 v5 0 fun v7 =>
 loadV tab 3 v7 H1 fun v8 =>
 binV tab .eql 3 v8 (AV.p (.int .i64 1)) fun v10 =>
 condV v10 (fieldAddrV tab 54 v5 1 fun v12 =>
 loadV tab 52 v12 H1 fun v13 =>
 CallT Try.prog 92 [v0, v13] H1 fun v14 H2 =>
 K v14 H2)
 (binV tab .eql 3 v8 (AV.p (.int .i64 2)) fun v16 =>
 condV v16 (fieldAddrV tab 54 v5 1 fun v17 =>
 loadV tab 52 v17 H1 fun v18 =>
 convV tab 3 52 v1 fun v20 =>
 binV tab .lss 52 v18 v20 fun v21 =>
 K v21 H1)
 (binV tab .eql 3 v8 (AV.p (.int .i64 20)) fun v23 =>
 condV v23 (fieldAddrV tab 54 v5 1 fun v24 =>
 loadV tab 52 v24 H1 fun v25 =>
 binV tab .lss 52 v25 (AV.p (.int .u64 2)) fun v26 =>
 K v26 H1)
 (fieldAddrV tab 54 v5 1 fun v27 =>
 loadV tab 52 v27 H1 fun v28 =>
 binV tab .eql 52 v28 (AV.p (.int .u64 0)) fun v29 =>
 K v29 H1)))
theorem W75_wp (v0 : AV) (v1 : AV) (v2 : AV) (H : Heap) (K : AV → Heap → Prop) : wpC Try.prog tab D75 (bodyOf Try.f75) (retF tab [.tmp 6] K) (nthA [v0, v1, v2]) H = W75 v0 v1 v2 H K := by kernel_rfl
theorem W75_ok {v0 v1 v2 : AV} {H : Heap} {K : AV → Heap → Prop} (h : W75 v0 v1 v2 H K) : CallT Try.prog 75 [v0, v1, v2] H K :=
  CallT.of_wp (D := D75) tab_ok mixed Try.func75 (c := bodyOf Try.f75) (by kernel_rfl) rfl (by kernel_rfl) (rs := #[.tmp 6]) rfl (by decide +kernel) (by kernel_rfl) (W75_wp v0 v1 v2 H K) h
/-- loop.example/g00649/spec.DivWord -/
def D76 : Info := ⟨25, fun i => if i = 5 then ([[], [], [0, 1], [], [], [3, 4], [0, 1, 2], [0, 1, 2, 3, 4, 5, 6], [0, 1, 2, 3, 4, 5, 6, 7]], [(0, []), (1, []), (2, []), (3, []), (4, []), (5, []), (6, []), (7, []), (8, [])]) else ([], []), fun i => ([], [])⟩
def W76 (v0 : AV) (v1 : AV) (v2 : AV) (H : Heap) (K : AV → Heap → Prop) : Prop :=
 CallT Try.prog 93 [v0, v1, v2] H fun v12 H1 =>
 unV .not v12 fun v13 =>
 condV v13 (K (.tup [(AV.p (.int .u64 0)), (AV.p (.int .u64 0)), (AV.p (.bool false))]) H1)
 (binV tab .eql 52 v2 (AV.p (.int .u64 0)) fun v15 =>
 condV v15 (CallT Try.prog 57 [v0, (AV.p (.int .u64 18446744073709551615))] H1 fun v17 H2 =>
 K (.tup [v17, v1, (AV.p (.bool true))]) H2)
 (binV tab .quo 52 v1 v2 fun v21 =>
 binV tab .rem 52 v1 v2 fun v24 =>
 K (.tup [v21, v24, (AV.p (.bool true))]) H1))
theorem W76_wp (v0 : AV) (v1 : AV) (v2 : AV) (H : Heap) (K : AV → Heap → Prop) : wpC Try.prog tab D76 (bodyOf Try.f76) (retF tab [.tmp 6, .tmp 7, .tmp 8] K) (nthA [v0, v1, v2]) H = W76 v0 v1 v2 H K := by kernel_rfl
theorem W76_ok {v0 v1 v2 : AV} {H : Heap} {K : AV → Heap → Prop} (h : W76 v0 v1 v2 H K) : CallT Try.prog 76 [v0, v1, v2] H K :=
  CallT.of_wp (D := D76) tab_ok mixed Try.func76 (c := bodyOf Try.f76) (by kernel_rfl) rfl (by kernel_rfl) (rs := #[.tmp 6, .tmp 7, .tmp 8]) rfl (by decide +kernel) (by kernel_rfl) (W76_wp v0 v1 v2 H K) h
/-- loop.example/g00649/spec.l1Shift -/
def D77 : Info := ⟨25, fun i => ([], []), fun i => if i = 3 then ([0, 3], [1, 2]) else ([], [])⟩
def L77_0 (K : AV → Heap → Prop) (v0 : AV) (v1 : AV) (v2 : AV) (v3 : AV) (H : Heap) : Prop := LoopV (wpC Try.prog tab D77 (cAt [1, 1, 0, 0, 0] (bodyOf Try.f77))) [0, 3] (PostF.block 0 (PostF.thenA (wpC Try.prog tab D77 (cAt [1, 1, 1] (bodyOf Try.f77))) (retF tab [.tmp 8] K))) [1, 2] [v0, v1, v2, v3, AV.any, AV.any, AV.any, AV.any, AV.any, AV.any, AV.any, AV.any, AV.any, AV.any, AV.any, AV.any, AV.any, AV.any, AV.any, AV.any, AV.any, AV.any, AV.any, AV.any, AV.any] H
def B77_0 (K : AV → Heap → Prop) (N1 : AV → AV → Heap → Prop) (v0 : AV) (v1 : AV) (v2 : AV) (v3 : AV) (H : Heap) : Prop :=
 binV tab .gtr 52 v2 (AV.p (.int .u64 0)) fun v14 =>
 condV v14 (condV v3 (binV tab .shl 52 v1 (AV.p (.int .u64 1)) fun v20 =>
 CallT Try.prog 57 [v0, v20] H fun v21 H1 =>
 binV tab .sub 52 v2 (AV.p (.int .u64 1)) fun v16 =>
 N1 v21 v16 H1)
 (binV tab .shr 52 v1 (AV.p (.int .u64 1)) fun v23 =>
 binV tab .sub 52 v2 (AV.p (.int .u64 1)) fun v16 =>
 N1 v23 v16 H))
 (K v1 H)
def W77 (v0 : AV) (v1 : AV) (v2 : AV) (v3 : AV) (H : Heap) (K : AV → Heap → Prop) : Prop :=
 convV tab 3 52 v0 fun v11 =>
 binV tab .geq 52 v2 v11 fun v12 =>
 condV v12 (K (AV.p (.int .u64 0)) H)
 (L77_0 K v0 v1 v2 v3 H)
theorem W77_wp (v0 : AV) (v1 : AV) (v2 : AV) (v3 : AV) (H : Heap) (K : AV → Heap → Prop) : wpC Try.prog tab D77 (bodyOf Try.f77) (retF tab [.tmp 8] K) (nthA [v0, v1, v2, v3]) H = W77 v0 v1 v2 v3 H K := by kernel_rfl
theorem W77_ok {v0 v1 v2 v3 : AV} {H : Heap} {K : AV → Heap → Prop} (h : W77 v0 v1 v2 v3 H K) : CallT Try.prog 77 [v0, v1, v2, v3] H K :=
  CallT.of_wp (D := D77) tab_ok mixed Try.func77 (c := bodyOf Try.f77) (by kernel_rfl) rfl (by kernel_rfl) (rs := #[.tmp 8]) rfl (by decide +kernel) (by kernel_rfl) (W77_wp v0 v1 v2 v3 H K) h
theorem L77_0_rule {K : AV → Heap → Prop} {v0 v1 v2 v3 : AV} {H : Heap} {σ : Type} (s0 : σ) (f1 : σ → AV) (f2 : σ → AV) (TH : σ → Heap) (pre : σ → Prop) (μ : σ → Nat)
    (h0 : pre s0 ∧ AV.wk v1 (f1 s0) ∧ AV.wk v2 (f2 s0) ∧ Heap.le (TH s0) H)
    (round : ∀ s, pre s → B77_0 K (fun w1 w2 H' => ∃ s', pre s' ∧ μ s' < μ s ∧ AV.wk w1 (f1 s') ∧ AV.wk w2 (f2 s') ∧ Heap.le (TH s') H') v0 (f1 s) (f2 s) v3 (TH s)) :
    L77_0 K v0 v1 v2 v3 H := by
  unfold L77_0
  exact LoopV.mk s0 (fun s => [f1 s, f2 s]) TH pre μ (fun _ => rfl) (Eq.mp (by kernel_rfl) h0) (fun s hs => Eq.mp (by kernel_rfl) (round s hs))
/-- loop.example/g00649/spec.l2Bool -/
def D78 : Info := ⟨4, fun i => ([], []), fun i => ([], [])⟩
def W78 (v0 : AV) (H : Heap) (K : AV → Heap → Prop) : Prop :=
 condV v0 (K (AV.p (.int .u64 1)) H)
 (K (AV.p (.int .u64 0)) H)
theorem W78_wp (v0 : AV) (H : Heap) (K : AV → Heap → Prop) : wpC Try.prog tab D78 (bodyOf Try.f78) (retF tab [.tmp 2] K) (nthA [v0]) H = W78 v0 H K := by kernel_rfl
theorem W78_ok {v0 : AV} {H : Heap} {K : AV → Heap → Prop} (h : W78 v0 H K) : CallT Try.prog 78 [v0] H K :=
  CallT.of_wp (D := D78) tab_ok mixed Try.func78 (c := bodyOf Try.f78) (by kernel_rfl) rfl (by kernel_rfl) (rs := #[.tmp 2]) rfl (by decide +kernel) (by kernel_rfl) (W78_wp v0 H K) h
/-- loop.example/g00649/spec.l1Signed -/
def D79 : Info := ⟨20, fun i => ([], []), fun i => ([], [])⟩
def W79 (v0 : AV) (v1 : AV) (H : Heap) (K : AV → Heap → Prop) : Prop :=
 binV tab .sub 3 v0 (AV.p (.int .i64 1)) fun v7 =>
 convV tab 3 73 v7 fun v8 =>
 binV tab .shr 52 v1 v8 fun v9 =>
 binV tab .and 52 v9 (AV.p (.int .u64 1)) fun v10 =>
 binV tab .eql 52 v10 (AV.p (.int .u64 1)) fun v11 =>
 condV v11 (CallT Try.prog 57 [v0, (AV.p (.int .u64 18446744073709551615))] H fun v14 H1 =>
 unV .xor v14 fun v15 =>
 binV tab .or 52 v1 v15 fun v16 =>
 convV tab 52 2 v16 fun v17 =>
 K v17 H1)
 (convV tab 52 2 v1 fun v19 =>
 K v19 H)
theorem W79_wp (v0 : AV) (v1 : AV) (H : Heap) (K : AV → Heap → Prop) : wpC Try.prog tab D79 (bodyOf Try.f79) (retF tab [.tmp 4] K) (nthA [v0, v1]) H = W79 v0 v1 H K := by kernel_rfl
theorem W79_ok {v0 v1 : AV} {H : Heap} {K : AV → Heap → Prop} (h : W79 v0 v1 H K) : CallT Try.prog 79 [v0, v1] H K :=
  CallT.of_wp (D := D79) tab_ok mixed Try.func79 (c := bodyOf Try.f79) (by kernel_rfl) rfl (by kernel_rfl) (rs := #[.tmp 4]) rfl (by decide +kernel) (by kernel_rfl) (W79_wp v0 v1 H K) h
/-- loop.example/g00649/laws.toChange -/
def D80 : Info := ⟨12, fun i => ([], []), fun i => ([], [])⟩
def W80 (v0 : AV) (H : Heap) (K : AV → Heap → Prop) : Prop :=
 boxV v0 H fun v1 H1 =>
 allocV tab 103 H1 fun v2 H2 =>
 allocV tab 103 H2 fun v3 H3 =>
 fieldAddrV tab 106 v1 0 fun v4 =>
 loadV tab 3 v4 H3 fun v5 =>
 fieldAddrV tab 103 v3 0 fun v6 =>
 storeV tab 3 v6 v5 H3 fun H4 =>
 fieldAddrV tab 106 v1 1 fun v7 =>
 loadV tab 22 v7 H4 fun v8 =>
 CallT Try.prog 24 [v8] H4 fun v9 H5 =>
 fieldAddrV tab 103 v3 1 fun v10 =>
 storeV tab 29 v10 v9 H5 fun H6 =>
 loadV tab 103 v3 H6 fun v11 =>
 storeV tab 103 v2 v11 H6 fun H7 =>
 loadV tab 103 v2 H7 fun r0 =>
 K r0 H7
theorem W80_wp (v0 : AV) (H : Heap) (K : AV → Heap → Prop) : wpC Try.prog tab D80 (bodyOf Try.f80) (retF tab [.cell 2 103] K) (nthA [v0]) H = W80 v0 H K := by kernel_rfl
theorem W80_ok {v0 : AV} {H : Heap} {K : AV → Heap → Prop} (h : W80 v0 H K) : CallT Try.prog 80 [v0] H K :=
  CallT.of_wp (D := D80) tab_ok mixed Try.func80 (c := bodyOf Try.f80) (by kernel_rfl) rfl (by kernel_rfl) (rs := #[.cell 2 103]) rfl (by decide +kernel) (by kernel_rfl) (W80_wp v0 H K) h
/-- slices.ContainsFunc[[]loop.example/g00649/impl.Command,loop.example/g00649/impl.Command] -/
def D81 : Info := ⟨9, fun i => ([], []), fun i => ([], [])⟩
def W81 (v0 : AV) (v1 : AV) (H : Heap) (K : AV → Heap → Prop) : Prop :=
 CallT Try.prog 94 [v0, v1] H fun v7 H1 =>
 binV tab .geq 3 v7 (AV.p (.int .i64 0)) fun v8 =>
 K v8 H1
theorem W81_wp (v0 : AV) (v1 : AV) (H : Heap) (K : AV → Heap → Prop) : wpC Try.prog tab D81 (bodyOf Try.f81) (retF tab [.tmp 4] K) (nthA [v0, v1]) H = W81 v0 v1 H K := by kernel_rfl
theorem W81_ok {v0 v1 : AV} {H : Heap} {K : AV → Heap → Prop} (h : W81 v0 v1 H K) : CallT Try.prog 81 [v0, v1] H K :=
  CallT.of_wp (D := D81) tab_ok mixed Try.func81 (c := bodyOf Try.f81) (by kernel_rfl) rfl (by kernel_rfl) (rs := #[.tmp 4]) rfl (by decide +kernel) (by kernel_rfl) (W81_wp v0 v1 H K) h
/-- loop.example/g00649/impl.GoodProgram$1 -/
def D82 : Info := ⟨8, fun i => ([], []), fun i => ([], [])⟩
def W82 (v0 : AV) (v1 : AV) (H : Heap) (K : AV → Heap → Prop) : Prop :=
 boxV v0 H fun v2 H1 =>
 loadV tab 34 v1 H1 fun v4 =>
 loadV tab 79 v2 H1 fun v5 =>
 CallT Try.prog 83 [v4, v5] H1 fun v6 H2 =>
 unV .not v6 fun v7 =>
 K v7 H2
theorem W82_wp (v0 : AV) (v1 : AV) (H : Heap) (K : AV → Heap → Prop) : wpC Try.prog tab D82 (bodyOf Try.f82) (retF tab [.tmp 3] K) (nthA [v0, v1]) H = W82 v0 v1 H K := by kernel_rfl
theorem W82_ok {v0 v1 : AV} {H : Heap} {K : AV → Heap → Prop} (h : W82 v0 v1 H K) : CallT Try.prog 82 [v0, v1] H K :=
  CallT.of_wp (D := D82) tab_ok mixed Try.func82 (c := bodyOf Try.f82) (by kernel_rfl) rfl (by kernel_rfl) (rs := #[.tmp 3]) rfl (by decide +kernel) (by kernel_rfl) (W82_wp v0 v1 H K) h
/-- (loop.example/g00649/impl.Program).isCommand -/
def D83 : Info := ⟨57, fun i => if i = 6 then ([[], [0], [0, 1], [0, 1, 2], [0, 1, 2, 3], [0, 1, 2, 3, 4], [0, 1, 2, 3], [0, 1, 2, 3, 6], [0, 1, 2, 3, 4, 5, 6, 7], [0, 1, 2, 3, 4, 5, 6, 7, 8], [0, 1, 2, 3, 4, 5, 6, 7, 8, 9], [0, 1, 2, 3, 4, 5, 6, 7, 8, 9, 10], [0, 1, 2, 3, 4, 5, 6, 7, 8, 9, 10, 11], [0, 1, 2, 3, 4, 5, 6, 7, 8, 9, 10, 11, 12], [0, 1, 2, 3, 4, 5, 6, 7, 8, 9, 10, 11, 12, 13], [0, 1, 2, 3, 4, 5, 6, 7, 8, 9, 10, 11, 12, 13, 14], [0, 1, 2, 3, 4, 5, 6, 7, 8, 9, 10, 11, 12, 13], [0, 1, 2, 3, 4, 5, 6, 7, 8, 9, 10, 11, 12, 13, 16], [0, 1, 2, 3, 4, 5, 6, 7, 8, 9, 10, 11, 12, 13, 14, 15, 16, 17], [0, 1, 2, 3, 4, 5, 6, 7, 8, 9, 10, 11, 12, 13, 14, 15, 16, 17, 18], [0, 1, 2, 3, 4, 5, 6, 7, 8, 9, 10, 11, 12, 13, 14, 15, 16, 17, 18, 19], [0, 1, 2, 3, 4, 5, 6, 7, 8, 9, 10, 11, 12, 13], [0, 1, 2, 3, 4, 5, 6, 7, 8, 9, 10, 11, 12, 13, 21], [0, 1, 2, 3, 4, 5, 6, 7, 8, 9, 10, 11, 12, 13, 14, 15, 16, 17, 18, 19, 20, 21, 22], [0, 1, 2, 3, 4, 5, 6, 7, 8, 9, 10, 11, 12, 13, 14, 15, 16, 17, 18, 19, 20, 21, 22, 23], [0, 1, 2, 3, 4, 5, 6, 7, 8, 9, 10, 11, 12, 13, 14, 15, 16, 17, 18, 19, 20, 21, 22, 23, 24], [0, 1, 2, 3, 4, 5, 6, 7, 8, 9, 10, 11, 12, 13, 14, 15, 16, 17, 18, 19, 20, 21, 22, 23, 24, 25], [0, 1, 2, 3, 4, 5, 6, 7, 8, 9, 10, 11, 12, 13, 14, 15, 16, 17, 18, 19, 20, 21, 22, 23, 24, 25, 26], [0, 1, 2, 3, 4, 5, 6, 7, 8, 9, 10, 11, 12, 13, 14, 15, 16, 17, 18, 19, 20, 21, 22, 23, 24, 25, 26, 27], [0, 1, 2, 3, 4, 5, 6, 7, 8, 9, 10, 11, 12, 13, 14, 15, 16, 17, 18, 19, 20, 21, 22, 23, 24, 25, 26], [0, 1, 2, 3, 4, 5, 6, 7, 8, 9, 10, 11, 12, 13, 14, 15, 16, 17, 18, 19, 20, 21, 22, 23, 24, 25, 26, 29], [0, 1, 2, 3, 4, 5, 6, 7, 8, 9, 10, 11, 12, 13, 14, 15, 16, 17, 18, 19, 20, 21, 22, 23, 24, 25, 26], [0, 1, 2, 3, 4, 5, 6, 7, 8, 9, 10, 11, 12, 13, 14, 15, 16, 17, 18, 19, 20, 21, 22, 23, 24, 25, 26, 31], [0, 1, 2, 3, 4, 5, 6, 7, 8, 9, 10, 11, 12, 13, 14, 15, 16, 17, 18, 19, 20, 21, 22, 23, 24, 25, 26, 27, 28, 29, 30, 31, 32], [0, 1, 2, 3, 4, 5, 6, 7, 8, 9, 10, 11, 12, 13, 14, 15, 16, 17, 18, 19, 20, 21, 22, 23, 24, 25, 26, 27, 28, 29, 30, 31, 32, 33], [0, 1, 2, 3, 4, 5, 6, 7, 8, 9, 10, 11, 12, 13, 14, 15, 16, 17, 18, 19, 20, 21, 22, 23, 24, 25, 26, 27, 28, 29, 30, 31, 32, 33, 34]], [(0, []), (1, []), (2, []), (3, []), (4, []), (5, []), (6, []), (7, []), (8, []), (9, []), (10, []), (11, []), (12, []), (13, []), (14, []), (15, []), (16, []), (17, []), (18, []), (19, []), (20, []), (21, []), (22, []), (23, []), (24, []), (25, []), (26, []), (27, []), (28, []), (29, []), (30, []), (31, []), (32, []), (33, []), (34, []), (35, [])]) else ([], []), fun i => if i = 4 then ([2, 3, 13, 14], [15]) else ([], [])⟩
def L83_0 (K : AV → Heap → Prop) (v2 : AV) (v3 : AV) (v13 : AV) (v14 : AV) (v15 : AV) (H : Heap) : Prop := LoopV (wpC Try.prog tab D83 (cAt [1, 1, 0, 1, 0, 0] (bodyOf Try.f83))) [2, 3, 13, 14] (PostF.block 0 (PostF.thenA (wpC Try.prog tab D83 (cAt [1, 1, 1] (bodyOf Try.f83))) (retF tab [.tmp 4] K))) [15] [AV.any, AV.any, v2, v3, AV.any, AV.any, AV.any, AV.any, AV.any, AV.any, AV.any, AV.any, AV.any, v13, v14, v15, AV.any, AV.any, AV.any, AV.any, AV.any, AV.any, AV.any, AV.any, AV.any, AV.any, AV.any, AV.any, AV.any, AV.any, AV.any, AV.any, AV.any, AV.any, AV.any, AV.any, AV.any, AV.any, AV.any, AV.any, AV.any, AV.any, AV.any, AV.any, AV.any, AV.any, AV.any, AV.any, AV.any, AV.any, AV.any, AV.any, AV.any, AV.any, AV.any, AV.any, AV.any] H
def B83_0 (K : AV → Heap → Prop) (N1 : AV → Heap → Prop) (v2 : AV) (v3 : AV) (v13 : AV) (v14 : AV) (v15 : AV) (H : Heap) : Prop :=
 binV tab .lss 3 v15 v14 fun v16 =>
 condV v16 (indexAddrV tab 77 v13 v15 fun v18 =>
 loadV tab 103 v18 H fun v19 =>
 allocV tab 103 H fun v6 H4 =>
 storeV tab 103 v6 v19 H4 fun H5 =>
 fieldAddrV tab 103 v6 0 fun v20 =>
 loadV tab 3 v20 H5 fun v21 =>
 binV tab .lss 3 v21 (AV.p (.int .i64 0)) fun v22 =>
 grdV v22 false (fieldAddrV tab 103 v6 0 fun v24 =>
 loadV tab 3 v24 H5 fun v25 =>
 fieldAddrV tab 34 v2 1 fun v26 =>
 loadV tab 3 v26 H5 fun v27 =>
 binV tab .geq 3 v25 v27 fun v28 =>
 grdV v28 false (binV tab .gtr 3 v15 (AV.p (.int .i64 0)) fun v32 =>
 grdV v32 true (fieldAddrV tab 79 v3 1 fun v34 =>
 loadV tab 77 v34 H5 fun v35 =>
 binV tab .sub 3 v15 (AV.p (.int .i64 1)) fun v37 =>
 indexAddrV tab 77 v35 v37 fun v38 =>
 fieldAddrV tab 103 v38 0 fun v39 =>
 loadV tab 3 v39 H5 fun v40 =>
 fieldAddrV tab 103 v6 0 fun v41 =>
 loadV tab 3 v41 H5 fun v42 =>
 binV tab .geq 3 v40 v42 fun v43 =>
 grdV v43 false (fieldAddrV tab 34 v2 0 fun v47 =>
 loadV tab 3 v47 H5 fun v48 =>
 fieldAddrV tab 34 v2 1 fun v49 =>
 loadV tab 3 v49 H5 fun v50 =>
 fieldAddrV tab 103 v6 1 fun v51 =>
 loadV tab 29 v51 H5 fun v52 =>
 CallT Try.prog 63 [v48, v50, v52, (AV.p (.int .i64 1))] H5 fun v53 H6 =>
 unV .not v53 fun v54 =>
 condV v54 (K (AV.p (.bool false)) H6)
 (binV tab .add 3 v15 (AV.p (.int .i64 1)) fun v56 =>
 N1 v56 H6))
 (K (AV.p (.bool false)) H5))
 (fieldAddrV tab 34 v2 0 fun v47 =>
 loadV tab 3 v47 H5 fun v48 =>
 fieldAddrV tab 34 v2 1 fun v49 =>
 loadV tab 3 v49 H5 fun v50 =>
 fieldAddrV tab 103 v6 1 fun v51 =>
 loadV tab 29 v51 H5 fun v52 =>
 CallT Try.prog 63 [v48, v50, v52, (AV.p (.int .i64 1))] H5 fun v53 H7 =>
 unV .not v53 fun v54 =>
 condV v54 (K (AV.p (.bool false)) H7)
 (binV tab .add 3 v15 (AV.p (.int .i64 1)) fun v56 =>
 N1 v56 H7)))
 (K (AV.p (.bool false)) H5))
 (K (AV.p (.bool false)) H5))
 (K (AV.p (.bool true)) H)
def W83 (v0 : AV) (v1 : AV) (H : Heap) (K : AV → Heap → Prop) : Prop :=
 boxV v0 H fun v2 H1 =>
 boxV v1 H1 fun v3 H2 =>
 loadV tab 34 v2 H2 fun v7 =>
 fieldAddrV tab 79 v3 0 fun v8 =>
 loadV tab 29 v8 H2 fun v9 =>
 CallT Try.prog 47 [v7, v9] H2 fun v10 H3 =>
 unV .not v10 fun v11 =>
 condV v11 (K (AV.p (.bool false)) H3)
 (fieldAddrV tab 79 v3 1 fun v12 =>
 loadV tab 77 v12 H3 fun v13 =>
 lenV tab 77 v13 fun v14 =>
 L83_0 K v2 v3 v13 v14 (AV.p (.int .i64 0)) H3)
theorem W83_wp (v0 : AV) (v1 : AV) (H : Heap) (K : AV → Heap → Prop) : wpC Try.prog tab D83 (bodyOf Try.f83) (retF tab [.tmp 4] K) (nthA [v0, v1]) H = W83 v0 v1 H K := by kernel_rfl
theorem W83_ok {v0 v1 : AV} {H : Heap} {K : AV → Heap → Prop} (h : W83 v0 v1 H K) : CallT Try.prog 83 [v0, v1] H K :=
  CallT.of_wp (D := D83) tab_ok mixed Try.func83 (c := bodyOf Try.f83) (by kernel_rfl) rfl (by kernel_rfl) (rs := #[.tmp 4]) rfl (by decide +kernel) (by kernel_rfl) (W83_wp v0 v1 H K) h
theorem L83_0_rule {K : AV → Heap → Prop} {v2 v3 v13 v14 v15 : AV} {H : Heap} {σ : Type} (s0 : σ) (f15 : σ → AV) (TH : σ → Heap) (pre : σ → Prop) (μ : σ → Nat)
    (h0 : pre s0 ∧ AV.wk v15 (f15 s0) ∧ Heap.le (TH s0) H)
    (round : ∀ s, pre s → B83_0 K (fun w15 H' => ∃ s', pre s' ∧ μ s' < μ s ∧ AV.wk w15 (f15 s') ∧ Heap.le (TH s') H') v2 v3 v13 v14 (f15 s) (TH s)) :
    L83_0 K v2 v3 v13 v14 v15 H := by
  unfold L83_0
  exact LoopV.mk s0 (fun s => [f15 s]) TH pre μ (fun _ => rfl) (Eq.mp (by kernel_rfl) h0) (fun s hs => Eq.mp (by kernel_rfl) (round s hs))
/-- loop.example/g00649/impl.kindOf -/
def D84 : Info := ⟨19, fun i => ([], []), fun i => ([], [])⟩
def W84 (v0 : AV) (H : Heap) (K : AV → Heap → Prop) : Prop :=
 lenV tab 29 v0 fun v9 =>
 binV tab .sub 3 v9 (AV.p (.int .i64 1)) fun v10 =>
 indexAddrV tab 29 v0 v10 fun v11 =>
 fieldAddrV tab 54 v11 0 fun v12 =>
 loadV tab 3 v12 H fun v13 =>
 CallT Try.prog 67 [v13] H fun v14 H1 =>
 extractV v14 0 fun v15 =>
 extractV v14 1 fun v16 =>
 extractV v14 2 fun v17 =>
 K v17 H1
theorem W84_wp (v0 : AV) (H : Heap) (K : AV → Heap → Prop) : wpC Try.prog tab D84 (bodyOf Try.f84) (retF tab [.tmp 2] K) (nthA [v0]) H = W84 v0 H K := by kernel_rfl
theorem W84_ok {v0 : AV} {H : Heap} {K : AV → Heap → Prop} (h : W84 v0 H K) : CallT Try.prog 84 [v0] H K :=
  CallT.of_wp (D := D84) tab_ok mixed Try.func84 (c := bodyOf Try.f84) (by kernel_rfl) rfl (by kernel_rfl) (rs := #[.tmp 2]) rfl (by decide +kernel) (by kernel_rfl) (W84_wp v0 H K) h
/-- loop.example/g00649/impl.DivWord -/
def D85 : Info := ⟨31, fun i => ([], []), fun i => ([], [])⟩
def W85 (v0 : AV) (v1 : AV) (v2 : AV) (H : Heap) (K : AV → Heap → Prop) : Prop :=
 CallT Try.prog 95 [v0, v1, v2] H fun v15 H1 =>
 unV .not v15 fun v16 =>
 condV v16 (K (.tup [(AV.p (.int .u64 0)), (AV.p (.int .u64 0)), (AV.p (.bool false))]) H1)
 (binV tab .eql 52 v2 (AV.p (.int .u64 0)) fun v19 =>
 condV v19 (CallT Try.prog 49 [v0] H1 fun v21 H2 =>
 K (.tup [v21, v1, (AV.p (.bool true))]) H2)
 (CallT Try.prog 96 [(AV.p (.int .u64 0)), v1, v2] H1 fun v26 H3 =>
 extractV v26 0 fun v27 =>
 extractV v26 1 fun v28 =>
 K (.tup [v27, v28, (AV.p (.bool true))]) H3))
theorem W85_wp (v0 : AV) (v1 : AV) (v2 : AV) (H : Heap) (K : AV → Heap → Prop) : wpC Try.prog tab D85 (bodyOf Try.f85) (retF tab [.tmp 6, .tmp 7, .tmp 8] K) (nthA [v0, v1, v2]) H = W85 v0 v1 v2 H K := by kernel_rfl
theorem W85_ok {v0 v1 v2 : AV} {H : Heap} {K : AV → Heap → Prop} (h : W85 v0 v1 v2 H K) : CallT Try.prog 85 [v0, v1, v2] H K :=
  CallT.of_wp (D := D85) tab_ok mixed Try.func85 (c := bodyOf Try.f85) (by kernel_rfl) rfl (by kernel_rfl) (rs := #[.tmp 6, .tmp 7, .tmp 8]) rfl (by decide +kernel) (by kernel_rfl) (W85_wp v0 v1 v2 H K) h
/-- loop.example/g00649/impl.shift -/
def D86 : Info := ⟨25, fun i => ([], []), fun i => ([], [])⟩
def W86 (v0 : AV) (v1 : AV) (v2 : AV) (v3 : AV) (H : Heap) (K : AV → Heap → Prop) : Prop :=
 convV tab 3 52 v0 fun v12 =>
 binV tab .geq 52 v2 v12 fun v13 =>
 condV v13 (K (AV.p (.int .u64 0)) H)
 (condV v3 (binV tab .shl 52 v1 v2 fun v18 =>
 CallT Try.prog 49 [v0] H fun v20 H1 =>
 binV tab .and 52 v18 v20 fun v21 =>
 K v21 H1)
 (binV tab .shr 52 v1 v2 fun v24 =>
 K v24 H))
theorem W86_wp (v0 : AV) (v1 : AV) (v2 : AV) (v3 : AV) (H : Heap) (K : AV → Heap → Prop) : wpC Try.prog tab D86 (bodyOf Try.f86) (retF tab [.tmp 8] K) (nthA [v0, v1, v2, v3]) H = W86 v0 v1 v2 v3 H K := by kernel_rfl
theorem W86_ok {v0 v1 v2 v3 : AV} {H : Heap} {K : AV → Heap → Prop} (h : W86 v0 v1 v2 v3 H K) : CallT Try.prog 86 [v0, v1, v2, v3] H K :=
  CallT.of_wp (D := D86) tab_ok mixed Try.func86 (c := bodyOf Try.f86) (by kernel_rfl) rfl (by kernel_rfl) (rs := #[.tmp 8]) rfl (by decide +kernel) (by kernel_rfl) (W86_wp v0 v1 v2 v3 H K) h
/-- loop.example/g00649/impl.truth -/
def D87 : Info := ⟨4, fun i => ([], []), fun i => ([], [])⟩
def W87 (v0 : AV) (H : Heap) (K : AV → Heap → Prop) : Prop :=
 condV v0 (K (AV.p (.int .u64 1)) H)
 (K (AV.p (.int .u64 0)) H)
theorem W87_wp (v0 : AV) (H : Heap) (K : AV → Heap → Prop) : wpC Try.prog tab D87 (bodyOf Try.f87) (retF tab [.tmp 2] K) (nthA [v0]) H = W87 v0 H K := by kernel_rfl
theorem W87_ok {v0 : AV} {H : Heap} {K : AV → Heap → Prop} (h : W87 v0 H K) : CallT Try.prog 87 [v0] H K :=
  CallT.of_wp (D := D87) tab_ok mixed Try.func87 (c := bodyOf Try.f87) (by kernel_rfl) rfl (by kernel_rfl) (rs := #[.tmp 2]) rfl (by decide +kernel) (by kernel_rfl) (W87_wp v0 H K) h
/-- loop.example/g00649/impl.signed -/
def D88 : Info := ⟨13, fun i => ([], []), fun i => ([], [])⟩
def W88 (v0 : AV) (v1 : AV) (H : Heap) (K : AV → Heap → Prop) : Prop :=
 binV tab .sub 3 (AV.p (.int .i64 64)) v0 fun v7 =>
 binV tab .shl 52 v1 v7 fun v8 =>
 convV tab 52 2 v8 fun v9 =>
 binV tab .sub 3 (AV.p (.int .i64 64)) v0 fun v11 =>
 binV tab .shr 2 v9 v11 fun v12 =>
 K v12 H
theorem W88_wp (v0 : AV) (v1 : AV) (H : Heap) (K : AV → Heap → Prop) : wpC Try.prog tab D88 (bodyOf Try.f88) (retF tab [.tmp 4] K) (nthA [v0, v1]) H = W88 v0 v1 H K := by kernel_rfl
theorem W88_ok {v0 v1 : AV} {H : Heap} {K : AV → Heap → Prop} (h : W88 v0 v1 H K) : CallT Try.prog 88 [v0, v1] H K :=
  CallT.of_wp (D := D88) tab_ok mixed Try.func88 (c := bodyOf Try.f88) (by kernel_rfl) rfl (by kernel_rfl) (rs := #[.tmp 4]) rfl (by decide +kernel) (by kernel_rfl) (W88_wp v0 v1 H K) h
/-- loop.example/g00649/impl.GoodWord -/
def D89 : Info := ⟨13, fun i => ([], []), fun i => ([], [])⟩
def W89 (v0 : AV) (v1 : AV) (H : Heap) (K : AV → Heap → Prop) : Prop :=
 CallT Try.prog 65 [v0] H fun v6 H1 =>
 grdV v6 true (CallT Try.prog 49 [v0] H1 fun v10 H2 =>
 binV tab .leq 52 v1 v10 fun v11 =>
 K v11 H2)
 (K (AV.p (.bool false)) H1)
theorem W89_wp (v0 : AV) (v1 : AV) (H : Heap) (K : AV → Heap → Prop) : wpC Try.prog tab D89 (bodyOf Try.f89) (retF tab [.tmp 4] K) (nthA [v0, v1]) H = W89 v0 v1 H K := by kernel_rfl
theorem W89_ok {v0 v1 : AV} {H : Heap} {K : AV → Heap → Prop} (h : W89 v0 v1 H K) : CallT Try.prog 89 [v0, v1] H K :=
  CallT.of_wp (D := D89) tab_ok mixed Try.func89 (c := bodyOf Try.f89) (by kernel_rfl) rfl (by kernel_rfl) (rs := #[.tmp 4]) rfl (by decide +kernel) (by kernel_rfl) (W89_wp v0 v1 H K) h
/-- slices.IndexFunc[[]int,int] -/
def D90 : Info := ⟨19, fun i => ([], []), fun i => if i = 2 then ([0, 1, 7], [8]) else ([], [])⟩
def L90_0 (K : AV → Heap → Prop) (v0 : AV) (v1 : AV) (v7 : AV) (v8 : AV) (H : Heap) : Prop := LoopV (wpC Try.prog tab D90 (cAt [1, 0, 1, 0, 0] (bodyOf Try.f90))) [0, 1, 7] (PostF.block 0 (PostF.thenA (wpC Try.prog tab D90 (cAt [1, 1] (bodyOf Try.f90))) (retF tab [.tmp 4] K))) [8] [v0, v1, AV.any, AV.any, AV.any, AV.any, AV.any, v7, v8, AV.any, AV.any, AV.any, AV.any, AV.any, AV.any, AV.any, AV.any, AV.any, AV.any] H
def B90_0 (K : AV → Heap → Prop) (N1 : AV → Heap → Prop) (v0 : AV) (v1 : AV) (v7 : AV) (v8 : AV) (H : Heap) : Prop :=
 binV tab .lss 3 v8 v7 fun v9 =>
 condV v9 (indexAddrV tab 98 v0 v8 fun v14 =>
 loadV tab 3 v14 H fun v15 =>
 callF Try.prog v1 [v15] H fun v16 H1 =>
 condV v16 (K v8 H1)
 (binV tab .add 3 v8 (AV.p (.int .i64 1)) fun v18 =>
 N1 v18 H1))
 (K (AV.p (.int .i64 (-1))) H)
def W90 (v0 : AV) (v1 : AV) (H : Heap) (K : AV → Heap → Prop) : Prop :=
 lenV tab 98 v0 fun v7 =>
 L90_0 K v0 v1 v7 (AV.p (.int .i64 0)) H
theorem W90_wp (v0 : AV) (v1 : AV) (H : Heap) (K : AV → Heap → Prop) : wpC Try.prog tab D90 (bodyOf Try.f90) (retF tab [.tmp 4] K) (nthA [v0, v1]) H = W90 v0 v1 H K := by kernel_rfl
theorem W90_ok {v0 v1 : AV} {H : Heap} {K : AV → Heap → Prop} (h : W90 v0 v1 H K) : CallT Try.prog 90 [v0, v1] H K :=
  CallT.of_wp (D := D90) tab_ok mixed Try.func90 (c := bodyOf Try.f90) (by kernel_rfl) rfl (by kernel_rfl) (rs := #[.tmp 4]) rfl (by decide +kernel) (by kernel_rfl) (W90_wp v0 v1 H K) h
theorem L90_0_rule {K : AV → Heap → Prop} {v0 v1 v7 v8 : AV} {H : Heap} {σ : Type} (s0 : σ) (f8 : σ → AV) (TH : σ → Heap) (pre : σ → Prop) (μ : σ → Nat)
    (h0 : pre s0 ∧ AV.wk v8 (f8 s0) ∧ Heap.le (TH s0) H)
    (round : ∀ s, pre s → B90_0 K (fun w8 H' => ∃ s', pre s' ∧ μ s' < μ s ∧ AV.wk w8 (f8 s') ∧ Heap.le (TH s') H') v0 v1 v7 (f8 s) (TH s)) :
    L90_0 K v0 v1 v7 v8 H := by
  unfold L90_0
  exact LoopV.mk s0 (fun s => [f8 s]) TH pre μ (fun _ => rfl) (Eq.mp (by kernel_rfl) h0) (fun s hs => Eq.mp (by kernel_rfl) (round s hs))
/-- loop.example/g00649/laws.eqChange -/
def D91 : Info := ⟨16, fun i => ([], []), fun i => ([], [])⟩
def W91 (v0 : AV) (v1 : AV) (H : Heap) (K : AV → Heap → Prop) : Prop :=
 boxV v0 H fun v2 H1 =>
 boxV v1 H1 fun v3 H2 =>
 fieldAddrV tab 103 v2 0 fun v5 =>
 loadV tab 3 v5 H2 fun v6 =>
 fieldAddrV tab 103 v3 0 fun v7 =>
 loadV tab 3 v7 H2 fun v8 =>
 binV tab .neq 3 v6 v8 fun v9 =>
 condV v9 (K (AV.p (.bool false)) H2)
 (fieldAddrV tab 103 v2 1 fun v10 =>
 loadV tab 29 v10 H2 fun v11 =>
 fieldAddrV tab 103 v3 1 fun v12 =>
 loadV tab 29 v12 H2 fun v13 =>
 CallT Try.prog 10 [v11, v13] H2 fun v14 H3 =>
 unV .not v14 fun v15 =>
 condV v15 (K (AV.p (.bool false)) H3)
 (K (AV.p (.bool true)) H3))
theorem W91_wp (v0 : AV) (v1 : AV) (H : Heap) (K : AV → Heap → Prop) : wpC Try.prog tab D91 (bodyOf Try.f91) (retF tab [.tmp 4] K) (nthA [v0, v1]) H = W91 v0 v1 H K := by kernel_rfl
theorem W91_ok {v0 v1 : AV} {H : Heap} {K : AV → Heap → Prop} (h : W91 v0 v1 H K) : CallT Try.prog 91 [v0, v1] H K :=
  CallT.of_wp (D := D91) tab_ok mixed Try.func91 (c := bodyOf Try.f91) (by kernel_rfl) rfl (by kernel_rfl) (rs := #[.tmp 4]) rfl (by decide +kernel) (by kernel_rfl) (W91_wp v0 v1 H K) h
/-- loop.example/g00649/spec.GoodWord -/
def D92 : Info := ⟨14, fun i => ([], []), fun i => ([], [])⟩
def W92 (v0 : AV) (v1 : AV) (H : Heap) (K : AV → Heap → Prop) : Prop :=
 CallT Try.prog 74 [v0] H fun v6 H1 =>
 grdV v6 true (CallT Try.prog 57 [v0, v1] H1 fun v10 H2 =>
 binV tab .eql 52 v10 v1 fun v12 =>
 K v12 H2)
 (K (AV.p (.bool false)) H1)
theorem W92_wp (v0 : AV) (v1 : AV) (H : Heap) (K : AV → Heap → Prop) : wpC Try.prog tab D92 (bodyOf Try.f92) (retF tab [.tmp 4] K) (nthA [v0, v1]) H = W92 v0 v1 H K := by kernel_rfl
theorem W92_ok {v0 v1 : AV} {H : Heap} {K : AV → Heap → Prop} (h : W92 v0 v1 H K) : CallT Try.prog 92 [v0, v1] H K :=
  CallT.of_wp (D := D92) tab_ok mixed Try.func92 (c := bodyOf Try.f92) (by kernel_rfl) rfl (by kernel_rfl) (rs := #[.tmp 4]) rfl (by decide +kernel) (by kernel_rfl) (W92_wp v0 v1 H K) h
/-- loop.example/g00649/spec.l1Both -/
def D93 : Info := ⟨15, fun i => ([], []), fun i => ([], [])⟩
def W93 (v0 : AV) (v1 : AV) (v2 : AV) (H : Heap) (K : AV → Heap → Prop) : Prop :=
 CallT Try.prog 92 [v0, v1] H fun v9 H1 =>
 grdV v9 true (CallT Try.prog 92 [v0, v2] H1 fun v13 H2 =>
 K v13 H2)
 (K (AV.p (.bool false)) H1)
theorem W93_wp (v0 : AV) (v1 : AV) (v2 : AV) (H : Heap) (K : AV → Heap → Prop) : wpC Try.prog tab D93 (bodyOf Try.f93) (retF tab [.tmp 6] K) (nthA [v0, v1, v2]) H = W93 v0 v1 v2 H K := by kernel_rfl
theorem W93_ok {v0 v1 v2 : AV} {H : Heap} {K : AV → Heap → Prop} (h : W93 v0 v1 v2 H K) : CallT Try.prog 93 [v0, v1, v2] H K :=
  CallT.of_wp (D := D93) tab_ok mixed Try.func93 (c := bodyOf Try.f93) (by kernel_rfl) rfl (by kernel_rfl) (rs := #[.tmp 6]) rfl (by decide +kernel) (by kernel_rfl) (W93_wp v0 v1 v2 H K) h
/-- slices.IndexFunc[[]loop.example/g00649/impl.Command,loop.example/g00649/impl.Command] -/
def D94 : Info := ⟨19, fun i => ([], []), fun i => if i = 2 then ([0, 1, 7], [8]) else ([], [])⟩
def L94_0 (K : AV → Heap → Prop) (v0 : AV) (v1 : AV) (v7 : AV) (v8 : AV) (H : Heap) : Prop := LoopV (wpC Try.prog tab D94 (cAt [1, 0, 1, 0, 0] (bodyOf Try.f94))) [0, 1, 7] (PostF.block 0 (PostF.thenA (wpC Try.prog tab D94 (cAt [1, 1] (bodyOf Try.f94))) (retF tab [.tmp 4] K))) [8] [v0, v1, AV.any, AV.any, AV.any, AV.any, AV.any, v7, v8, AV.any, AV.any, AV.any, AV.any, AV.any, AV.any, AV.any, AV.any, AV.any, AV.any] H
def B94_0 (K : AV → Heap → Prop) (N1 : AV → Heap → Prop) (v0 : AV) (v1 : AV) (v7 : AV) (v8 : AV) (H : Heap) : Prop :=
 binV tab .lss 3 v8 v7 fun v9 =>
 condV v9 (indexAddrV tab 32 v0 v8 fun v14 =>
 loadV tab 79 v14 H fun v15 =>
 callF Try.prog v1 [v15] H fun v16 H1 =>
 condV v16 (K v8 H1)
 (binV tab .add 3 v8 (AV.p (.int .i64 1)) fun v18 =>
 N1 v18 H1))
 (K (AV.p (.int .i64 (-1))) H)
def W94 (v0 : AV) (v1 : AV) (H : Heap) (K : AV → Heap → Prop) : Prop :=
 lenV tab 32 v0 fun v7 =>
 L94_0 K v0 v1 v7 (AV.p (.int .i64 0)) H
theorem W94_wp (v0 : AV) (v1 : AV) (H : Heap) (K : AV → Heap → Prop) : wpC Try.prog tab D94 (bodyOf Try.f94) (retF tab [.tmp 4] K) (nthA [v0, v1]) H = W94 v0 v1 H K := by kernel_rfl
theorem W94_ok {v0 v1 : AV} {H : Heap} {K : AV → Heap → Prop} (h : W94 v0 v1 H K) : CallT Try.prog 94 [v0, v1] H K :=
  CallT.of_wp (D := D94) tab_ok mixed Try.func94 (c := bodyOf Try.f94) (by kernel_rfl) rfl (by kernel_rfl) (rs := #[.tmp 4]) rfl (by decide +kernel) (by kernel_rfl) (W94_wp v0 v1 H K) h
theorem L94_0_rule {K : AV → Heap → Prop} {v0 v1 v7 v8 : AV} {H : Heap} {σ : Type} (s0 : σ) (f8 : σ → AV) (TH : σ → Heap) (pre : σ → Prop) (μ : σ → Nat)
    (h0 : pre s0 ∧ AV.wk v8 (f8 s0) ∧ Heap.le (TH s0) H)
    (round : ∀ s, pre s → B94_0 K (fun w8 H' => ∃ s', pre s' ∧ μ s' < μ s ∧ AV.wk w8 (f8 s') ∧ Heap.le (TH s') H') v0 v1 v7 (f8 s) (TH s)) :
    L94_0 K v0 v1 v7 v8 H := by
  unfold L94_0
  exact LoopV.mk s0 (fun s => [f8 s]) TH pre μ (fun _ => rfl) (Eq.mp (by kernel_rfl) h0) (fun s hs => Eq.mp (by kernel_rfl) (round s hs))
/-- loop.example/g00649/impl.areWords -/
def D95 : Info := ⟨15, fun i => ([], []), fun i => ([], [])⟩
def W95 (v0 : AV) (v1 : AV) (v2 : AV) (H : Heap) (K : AV → Heap → Prop) : Prop :=
 CallT Try.prog 89 [v0, v1] H fun v9 H1 =>
 grdV v9 true (CallT Try.prog 89 [v0, v2] H1 fun v13 H2 =>
 K v13 H2)
 (K (AV.p (.bool false)) H1)
theorem W95_wp (v0 : AV) (v1 : AV) (v2 : AV) (H : Heap) (K : AV → Heap → Prop) : wpC Try.prog tab D95 (bodyOf Try.f95) (retF tab [.tmp 6] K) (nthA [v0, v1, v2]) H = W95 v0 v1 v2 H K := by kernel_rfl
theorem W95_ok {v0 v1 v2 : AV} {H : Heap} {K : AV → Heap → Prop} (h : W95 v0 v1 v2 H K) : CallT Try.prog 95 [v0, v1, v2] H K :=
  CallT.of_wp (D := D95) tab_ok mixed Try.func95 (c := bodyOf Try.f95) (by kernel_rfl) rfl (by kernel_rfl) (rs := #[.tmp 6]) rfl (by decide +kernel) (by kernel_rfl) (W95_wp v0 v1 v2 H K) h
/-- math/bits.Div64 -/
def D96 : Info := ⟨135, fun i => if i = 6 then ([[], [], [0, 1], [], [], [3, 4], [0, 1, 2], [0, 1, 2, 3, 4, 5, 6]], [(0, []), (1, []), (2, []), (3, []), (4, []), (5, []), (6, []), (7, [])]) else ([], []), fun i => if i = 17 then ([2, 8, 9, 10, 11, 13, 14], [15, 16]) else if i = 24 then ([2, 8, 9, 10, 14, 15, 17], [16, 18]) else ([], [])⟩
def L96_0 (K : AV → Heap → Prop) (v2 : AV) (v8 : AV) (v9 : AV) (v10 : AV) (v11 : AV) (v13 : AV) (v14 : AV) (v15 : AV) (v16 : AV) (H : Heap) : Prop := LoopV (wpC Try.prog tab D96 (cAt [1, 1, 1, 1, 1, 1, 1, 1, 1, 1, 1, 1, 1, 1, 0, 0, 0] (bodyOf Try.f96))) [2, 8, 9, 10, 11, 13, 14] (PostF.block 0 (PostF.thenA (wpC Try.prog tab D96 (cAt [1, 1, 1, 1, 1, 1, 1, 1, 1, 1, 1, 1, 1, 1, 1] (bodyOf Try.f96))) (retF tab [.tmp 6, .tmp 7] K))) [15, 16] [AV.any, AV.any, v2, AV.any, AV.any, AV.any, AV.any, AV.any, v8, v9, v10, v11, AV.any, v13, v14, v15, v16, AV.any, AV.any, AV.any, AV.any, AV.any, AV.any, AV.any, AV.any, AV.any, AV.any, AV.any, AV.any, AV.any, AV.any, AV.any, AV.any, AV.any, AV.any, AV.any, AV.any, AV.any, AV.any, AV.any, AV.any, AV.any, AV.any, AV.any, AV.any, AV.any, AV.any, AV.any, AV.any, AV.any, AV.any, AV.any, AV.any, AV.any, AV.any, AV.any, AV.any, AV.any, AV.any, AV.any, AV.any, AV.any, AV.any, AV.any, AV.any, AV.any, AV.any, AV.any, AV.any, AV.any, AV.any, AV.any, AV.any, AV.any, AV.any, AV.any, AV.any, AV.any, AV.any, AV.any, AV.any, AV.any, AV.any, AV.any, AV.any, AV.any, AV.any, AV.any, AV.any, AV.any, AV.any, AV.any, AV.any, AV.any, AV.any, AV.any, AV.any, AV.any, AV.any, AV.any, AV.any, AV.any, AV.any, AV.any, AV.any, AV.any, AV.any, AV.any, AV.any, AV.any, AV.any, AV.any, AV.any, AV.any, AV.any, AV.any, AV.any, AV.any, AV.any, AV.any, AV.any, AV.any, AV.any, AV.any, AV.any, AV.any, AV.any, AV.any, AV.any, AV.any, AV.any, AV.any, AV.any, AV.any, AV.any] H
def W96 (v0 : AV) (v1 : AV) (v2 : AV) (H : Heap) (K : AV → Heap → Prop) : Prop :=
 binV tab .eql 52 v2 (AV.p (.int .u64 0)) fun v20 =>
 condV v20 (loadV tab 125 AV.any H fun v21 =>
 False)
 (binV tab .leq 52 v2 v0 fun v24 =>
 condV v24 (loadV tab 125 AV.any H fun v25 =>
 False)
 (binV tab .eql 52 v0 (AV.p (.int .u64 0)) fun v27 =>
 condV v27 (binV tab .quo 52 v1 v2 fun v30 =>
 binV tab .rem 52 v1 v2 fun v33 =>
 K (.tup [v30, v33]) H)
 (CallT Try.prog 97 [v2] H fun v35 H1 =>
 convV tab 3 73 v35 fun v36 =>
 binV tab .shl 52 v2 v36 fun v39 =>
 binV tab .shr 52 v39 (AV.p (.int .u64 32)) fun v41 =>
 binV tab .and 52 v39 (AV.p (.int .u64 4294967295)) fun v43 =>
 binV tab .shl 52 v0 v36 fun v46 =>
 binV tab .sub 73 (AV.p (.int .u64 64)) v36 fun v49 =>
 binV tab .shr 52 v1 v49 fun v50 =>
 binV tab .or 52 v46 v50 fun v51 =>
 binV tab .shl 52 v1 v36 fun v54 =>
 binV tab .shr 52 v54 (AV.p (.int .u64 32)) fun v56 =>
 binV tab .and 52 v54 (AV.p (.int .u64 4294967295)) fun v58 =>
 binV tab .quo 52 v51 v41 fun v61 =>
 binV tab .mul 52 v61 v41 fun v65 =>
 binV tab .sub 52 v51 v65 fun v66 =>
 L96_0 K v39 v36 v41 v43 v51 v56 v58 v61 v66 H1)))
theorem W96_wp (v0 : AV) (v1 : AV) (v2 : AV) (H : Heap) (K : AV → Heap → Prop) : wpC Try.prog tab D96 (bodyOf Try.f96) (retF tab [.tmp 6, .tmp 7] K) (nthA [v0, v1, v2]) H = W96 v0 v1 v2 H K := by kernel_rfl
theorem W96_ok {v0 v1 v2 : AV} {H : Heap} {K : AV → Heap → Prop} (h : W96 v0 v1 v2 H K) : CallT Try.prog 96 [v0, v1, v2] H K :=
  CallT.of_wp (D := D96) tab_ok mixed Try.func96 (c := bodyOf Try.f96) (by kernel_rfl) rfl (by kernel_rfl) (rs := #[.tmp 6, .tmp 7]) rfl (by decide +kernel) (by kernel_rfl) (W96_wp v0 v1 v2 H K) h
end Go.Proofs.Ytgcklgeifdefhaa

/- General rules for specs: numbers, weakenings, literals, functions of values at a heap. -/
namespace Go.Proofs.Ytgcklgeifdefhaa
open Go Go.Sep
set_option linter.unusedSimpArgs false
set_option linter.unusedVariables false
attribute [local irreducible] CallT
theorem i64_id {n : Int} (h0 : -9223372036854775808 ≤ n) (h1 : n ≤ 9223372036854775807) : IntKind.i64.wrap n = n := wrap64_id h0 h1
theorem wk_int {k : IntKind} {a b : Int} : AV.wk (.p (.int k a)) (.p (.int k b)) = (a = b) := by
  apply propext; constructor
  · intro h; cases h; rfl
  · rintro rfl; exact .refl _
theorem take_all_succ {α : Type} {p : α → Bool} {xs : List α} {i : Nat} (h : i < xs.length) : (xs.take (i + 1)).all p = ((xs.take i).all p && p xs[i]) := by
  rw [List.take_succ_eq_append_getElem h, List.all_append]; simp
theorem getD_lt {α : Type} {xs : List α} {i : Nat} {d : α} (h : i < xs.length) : xs.getD i d = xs[i] := by simp [List.getD, h]
theorem getD_all {α : Type} {p : α → Prop} {l : List α} {d : α} (h : ∀ b ∈ l, p b) {i : Nat} (hi : i < l.length) : p (l.getD i d) := by
  simp only [List.getD, List.getElem?_eq_getElem hi, Option.getD_some]; exact h _ (List.getElem_mem hi)
theorem range_all_succ {p : Nat → Bool} {n : Nat} : (List.range (n + 1)).all p = ((List.range n).all p && p n) := by
  rw [List.range_succ, List.all_append]; simp
theorem range_all_false {p : Nat → Bool} {n i : Nat} (hi : i < n) (h : p i = false) : (List.range n).all p = false := by
  rw [List.all_eq_false]; exact ⟨i, List.mem_range.2 hi, by simp [h]⟩

theorem Wk.own_le {q sz : Nat} {es : List (List PV)} {H H' : Heap} (hpos : 0 < sz) (hs : Sized sz es) (hq : H q = none) (hle : Heap.le (H.set q (cells es)) H') : Wk (own q sz es) H' (.p (.sl es)) H := by
  have h1 : H' q = some (cells es) := hle q _ (Heap.set_same _ _ _)
  refine .trans (.own hpos hs h1) (.forget (Heap.le_del (fun x b hx => hle x b ?_) hq))
  rw [Heap.set_other (fun e => by rw [e, hq] at hx; cases hx)]; exact hx
/-- What is asked may be told of less. -/
theorem CallT.fin {P : Program} {f : Nat} {args : List AV} {H : Heap} {K : AV → Heap → Prop} (h : CallT P f args H (wkK K)) : CallT P f args H K :=
  h.wk fun v H1 ⟨v', H2, hw, hk⟩ => ⟨v', H2, hw, hk⟩
/-- A list of lists, a list of booleans. -/
abbrev eL (l : List Int) : List PV := [.sl (l.map eI)]
abbrev Ls (cs : List (List Int)) : AV := .p (.sl (cs.map eL))
/-- A row that is told by value at the end. -/
theorem fin_own {q sz : Nat} {es : List (List PV)} {H H' : Heap} {K : AV → Heap → Prop} (hpos : 0 < sz) (hs : Sized sz es) (hq : H q = none) (hle : Heap.le (H.set q (cells es)) H') (h : K (.p (.sl es)) H) : wkK K (own q sz es) H' :=
  ⟨_, _, Wk.own_le hpos hs hq hle, h⟩
theorem fin_le {v : AV} {H H' : Heap} {K : AV → Heap → Prop} (hle : Heap.le H H') (h : K v H) : wkK K v H' := ⟨_, _, .forget hle, h⟩

/-- A function of values alone at one heap. -/
def PuAt (P : Program) (f : Nat) (args : List AV) (H : Heap) (v : AV) : Prop := ∀ K : AV → Heap → Prop, K v H → CallT P f args H K
theorem Pu.at {P : Program} {f : Nat} {args : List AV} {v : AV} (h : Pu P f args v) (H : Heap) : PuAt P f args H v := fun K hk => h.use hk
theorem PuAt.use {P : Program} {f : Nat} {args : List AV} {v : AV} {H : Heap} (h : PuAt P f args H v) {K : AV → Heap → Prop} (k : K v H) : CallT P f args H K := h K k

/-! ### Literals of plain elements -/
end Go.Proofs.Ytgcklgeifdefhaa
/- Spec: numbers in ranges. -/
namespace Go.Proofs.Ytgcklgeifdefhaa
open Go Go.Sep
set_option linter.unusedSimpArgs false
set_option linter.unusedVariables false
attribute [local irreducible] CallT
theorem l1In_spec (a lo hi : Int) : Pu Try.prog 36 [I a, I lo, I hi] (B (decide (lo ≤ a) && decide (a ≤ hi))) := by
  refine Pu.of fun H => ?_
  refine W36_ok ?_; simp (maxSteps := 1000000) (disch := first | assumption | (apply Ne.symm; assumption)) only [W36, vz, vu, vv, eqS, eqFieldsV, ↓condV_t, ↓condV_f, tabs, reduceCtorEq, Array.toList, ↓reduceIte, Nat.reduceAdd, Nat.reduceLeDiff, Nat.reduceLT, Nat.reduceMul, Nat.reduceSub, Int.reduceToNat, Int.reduceSub, Int.reduceAdd, Int.reduceNeg]
  exact ⟨fun h => by simp [h], fun h => by simp [h]⟩

end Go.Proofs.Ytgcklgeifdefhaa
