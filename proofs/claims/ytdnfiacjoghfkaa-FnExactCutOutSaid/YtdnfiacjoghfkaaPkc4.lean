/- Texts laid together: W1 W2 W3 W4 W5 WA Lb0 Lb1a Lb3. -/
import Derived.Test.YtdnfiacjoghfkaaPkc3
import Derived.KernelRfl
/- What each function's code is asked for, as a formula. Written by wgen.py (a program of this session's) out of Lean's print of the program. -/
namespace Go.Proofs.Ytdnfiacjoghfkaa
open Go Go.Sep
set_option linter.unusedVariables false
attribute [local irreducible] wpC headF
/-- loop.example/g00649/impl.meetOf -/
def D32 : Info := ⟨30, fun i => ([], []), fun i => if i = 3 then ([3, 4, 10, 11], [5, 12]) else ([], [])⟩
def L32_0 (K : AV → Heap → Prop) (v3 : AV) (v4 : AV) (v5 : AV) (v10 : AV) (v11 : AV) (v12 : AV) (H : Heap) : Prop := LoopV (wpC Try.prog tab D32 (cAt [1, 1, 0, 1, 0, 0] (bodyOf Try.f32))) [3, 4, 10, 11] (PostF.block 0 (PostF.thenA (wpC Try.prog tab D32 (cAt [1, 1, 1] (bodyOf Try.f32))) (retF tab [.cell 4 31] K))) [5, 12] [AV.any, AV.any, AV.any, v3, v4, v5, AV.any, AV.any, AV.any, AV.any, v10, v11, v12, AV.any, AV.any, AV.any, AV.any, AV.any, AV.any, AV.any, AV.any, AV.any, AV.any, AV.any, AV.any, AV.any, AV.any, AV.any, AV.any, AV.any] H
def B32_0 (K : AV → Heap → Prop) (N1 : AV → AV → Heap → Prop) (v3 : AV) (v4 : AV) (v5 : AV) (v10 : AV) (v11 : AV) (v12 : AV) (H : Heap) : Prop :=
 binV tab .lss 3 v12 v11 fun v13 =>
 condV v13 (indexAddrV tab 26 v10 v12 fun v15 =>
 loadV tab 3 v15 H fun v16 =>
 fieldAddrV tab 31 v3 0 fun v19 =>
 loadV tab 26 v19 H fun v20 =>
 indexAddrV tab 26 v20 v12 fun v22 =>
 loadV tab 3 v22 H fun v23 =>
 buildV tab 85 [(0, v16), (1, v23)] fun v24 =>
 buildSliceV tab 84 1 [(0, v24)] H (wkK fun v25 H5 =>
 appendV tab 84 84 v5 v25 H5 (wkK fun v26 H6 =>
 binV tab .add 3 v12 (AV.p (.int .i64 1)) fun v27 =>
 N1 v26 v27 H6)))
 (CallT Try.prog 53 [v5] H fun v29 H7 =>
 storeV tab 31 v4 v29 H7 fun H8 =>
 loadV tab 31 v4 H8 fun r0 =>
 K r0 H8)
def W32 (v0 : AV) (v1 : AV) (H : Heap) (K : AV → Heap → Prop) : Prop :=
 boxV v0 H fun v2 H1 =>
 boxV v1 H1 fun v3 H2 =>
 allocV tab 31 H2 fun v4 H3 =>
 buildSliceV tab 84 0 [] H3 (wkK fun v8 H4 =>
 fieldAddrV tab 31 v2 0 fun v9 =>
 loadV tab 26 v9 H4 fun v10 =>
 lenV tab 26 v10 fun v11 =>
 L32_0 K v3 v4 v8 v10 v11 (AV.p (.int .i64 0)) H4)
theorem W32_wp (v0 : AV) (v1 : AV) (H : Heap) (K : AV → Heap → Prop) : wpC Try.prog tab D32 (bodyOf Try.f32) (retF tab [.cell 4 31] K) (nthA [v0, v1]) H = W32 v0 v1 H K := by kernel_rfl
theorem W32_ok {v0 v1 : AV} {H : Heap} {K : AV → Heap → Prop} (h : W32 v0 v1 H K) : CallT Try.prog 32 [v0, v1] H K :=
  CallT.of_wp (D := D32) tab_ok mixed Try.func32 (c := bodyOf Try.f32) (by kernel_rfl) rfl (by kernel_rfl) (rs := #[.cell 4 31]) rfl (by decide +kernel) (by kernel_rfl) (W32_wp v0 v1 H K) h
theorem L32_0_rule {K : AV → Heap → Prop} {v3 v4 v5 v10 v11 v12 : AV} {H : Heap} {σ : Type} (s0 : σ) (f5 : σ → AV) (f12 : σ → AV) (TH : σ → Heap) (pre : σ → Prop) (μ : σ → Nat)
    (h0 : pre s0 ∧ AV.wk v5 (f5 s0) ∧ AV.wk v12 (f12 s0) ∧ Heap.le (TH s0) H)
    (round : ∀ s, pre s → B32_0 K (fun w5 w12 H' => ∃ s', pre s' ∧ μ s' < μ s ∧ AV.wk w5 (f5 s') ∧ AV.wk w12 (f12 s') ∧ Heap.le (TH s') H') v3 v4 (f5 s) v10 v11 (f12 s) (TH s)) :
    L32_0 K v3 v4 v5 v10 v11 v12 H := by
  unfold L32_0
  exact LoopV.mk s0 (fun s => [f5 s, f12 s]) TH pre μ (fun _ => rfl) (Eq.mp (by kernel_rfl) h0) (fun s hs => Eq.mp (by kernel_rfl) (round s hs))
/-- loop.example/g00649/laws.eqNodeS -/
def D33 : Info := ⟨27, fun i => if i = 6 then ([[], [], [0, 1], [0, 1, 2], [], [], [4, 5], [4, 5, 6], [0, 1, 2, 3, 4, 5, 6, 7], [0, 1, 2, 3, 4, 5, 6, 7, 8]], [(0, []), (1, []), (2, []), (3, []), (4, []), (5, []), (6, []), (7, []), (8, []), (9, [])]) else ([], []), fun i => if i = 4 then ([0, 1], [5]) else ([], [])⟩
def L33_0 (K : AV → Heap → Prop) (v0 : AV) (v1 : AV) (v5 : AV) (H : Heap) : Prop := LoopV (wpC Try.prog tab D33 (cAt [1, 1, 0, 1, 0, 0] (bodyOf Try.f33))) [0, 1] (PostF.block 0 (PostF.thenA (wpC Try.prog tab D33 (cAt [1, 1, 1] (bodyOf Try.f33))) (retF tab [.tmp 4] K))) [5] [v0, v1, AV.any, AV.any, AV.any, v5, AV.any, AV.any, AV.any, AV.any, AV.any, AV.any, AV.any, AV.any, AV.any, AV.any, AV.any, AV.any, AV.any, AV.any, AV.any, AV.any, AV.any, AV.any, AV.any, AV.any, AV.any] H
def B33_0 (K : AV → Heap → Prop) (N1 : AV → Heap → Prop) (v0 : AV) (v1 : AV) (v5 : AV) (H : Heap) : Prop :=
 lenV tab 34 v0 fun v13 =>
 binV tab .lss 3 v5 v13 fun v14 =>
 condV v14 (indexAddrV tab 34 v0 v5 fun v19 =>
 loadV tab 76 v19 H fun v20 =>
 indexAddrV tab 34 v1 v5 fun v23 =>
 loadV tab 76 v23 H fun v24 =>
 CallT Try.prog 54 [v20, v24] H fun v25 H1 =>
 unV .not v25 fun v26 =>
 condV v26 (K (AV.p (.bool false)) H1)
 (binV tab .add 3 v5 (AV.p (.int .i64 1)) fun v16 =>
 N1 v16 H1))
 (K (AV.p (.bool true)) H)
def W33 (v0 : AV) (v1 : AV) (H : Heap) (K : AV → Heap → Prop) : Prop :=
 lenV tab 34 v0 fun v7 =>
 lenV tab 34 v1 fun v9 =>
 binV tab .neq 3 v7 v9 fun v10 =>
 condV v10 (K (AV.p (.bool false)) H)
 (L33_0 K v0 v1 (AV.p (.int .i64 0)) H)
theorem W33_wp (v0 : AV) (v1 : AV) (H : Heap) (K : AV → Heap → Prop) : wpC Try.prog tab D33 (bodyOf Try.f33) (retF tab [.tmp 4] K) (nthA [v0, v1]) H = W33 v0 v1 H K := by kernel_rfl
theorem W33_ok {v0 v1 : AV} {H : Heap} {K : AV → Heap → Prop} (h : W33 v0 v1 H K) : CallT Try.prog 33 [v0, v1] H K :=
  CallT.of_wp (D := D33) tab_ok mixed Try.func33 (c := bodyOf Try.f33) (by kernel_rfl) rfl (by kernel_rfl) (rs := #[.tmp 4]) rfl (by decide +kernel) (by kernel_rfl) (W33_wp v0 v1 H K) h
theorem L33_0_rule {K : AV → Heap → Prop} {v0 v1 v5 : AV} {H : Heap} {σ : Type} (s0 : σ) (f5 : σ → AV) (TH : σ → Heap) (pre : σ → Prop) (μ : σ → Nat)
    (h0 : pre s0 ∧ AV.wk v5 (f5 s0) ∧ Heap.le (TH s0) H)
    (round : ∀ s, pre s → B33_0 K (fun w5 H' => ∃ s', pre s' ∧ μ s' < μ s ∧ AV.wk w5 (f5 s') ∧ Heap.le (TH s') H') v0 v1 (f5 s) (TH s)) :
    L33_0 K v0 v1 v5 H := by
  unfold L33_0
  exact LoopV.mk s0 (fun s => [f5 s]) TH pre μ (fun _ => rfl) (Eq.mp (by kernel_rfl) h0) (fun s hs => Eq.mp (by kernel_rfl) (round s hs))
/-- loop.example/g00649/laws.eqCommandS -/
def D34 : Info := ⟨27, fun i => if i = 6 then ([[], [], [0, 1], [0, 1, 2], [], [], [4, 5], [4, 5, 6], [0, 1, 2, 3, 4, 5, 6, 7], [0, 1, 2, 3, 4, 5, 6, 7, 8]], [(0, []), (1, []), (2, []), (3, []), (4, []), (5, []), (6, []), (7, []), (8, []), (9, [])]) else ([], []), fun i => if i = 4 then ([0, 1], [5]) else ([], [])⟩
def L34_0 (K : AV → Heap → Prop) (v0 : AV) (v1 : AV) (v5 : AV) (H : Heap) : Prop := LoopV (wpC Try.prog tab D34 (cAt [1, 1, 0, 1, 0, 0] (bodyOf Try.f34))) [0, 1] (PostF.block 0 (PostF.thenA (wpC Try.prog tab D34 (cAt [1, 1, 1] (bodyOf Try.f34))) (retF tab [.tmp 4] K))) [5] [v0, v1, AV.any, AV.any, AV.any, v5, AV.any, AV.any, AV.any, AV.any, AV.any, AV.any, AV.any, AV.any, AV.any, AV.any, AV.any, AV.any, AV.any, AV.any, AV.any, AV.any, AV.any, AV.any, AV.any, AV.any, AV.any] H
def B34_0 (K : AV → Heap → Prop) (N1 : AV → Heap → Prop) (v0 : AV) (v1 : AV) (v5 : AV) (H : Heap) : Prop :=
 lenV tab 35 v0 fun v13 =>
 binV tab .lss 3 v5 v13 fun v14 =>
 condV v14 (indexAddrV tab 35 v0 v5 fun v19 =>
 loadV tab 81 v19 H fun v20 =>
 indexAddrV tab 35 v1 v5 fun v23 =>
 loadV tab 81 v23 H fun v24 =>
 CallT Try.prog 55 [v20, v24] H fun v25 H1 =>
 unV .not v25 fun v26 =>
 condV v26 (K (AV.p (.bool false)) H1)
 (binV tab .add 3 v5 (AV.p (.int .i64 1)) fun v16 =>
 N1 v16 H1))
 (K (AV.p (.bool true)) H)
def W34 (v0 : AV) (v1 : AV) (H : Heap) (K : AV → Heap → Prop) : Prop :=
 lenV tab 35 v0 fun v7 =>
 lenV tab 35 v1 fun v9 =>
 binV tab .neq 3 v7 v9 fun v10 =>
 condV v10 (K (AV.p (.bool false)) H)
 (L34_0 K v0 v1 (AV.p (.int .i64 0)) H)
theorem W34_wp (v0 : AV) (v1 : AV) (H : Heap) (K : AV → Heap → Prop) : wpC Try.prog tab D34 (bodyOf Try.f34) (retF tab [.tmp 4] K) (nthA [v0, v1]) H = W34 v0 v1 H K := by kernel_rfl
theorem W34_ok {v0 v1 : AV} {H : Heap} {K : AV → Heap → Prop} (h : W34 v0 v1 H K) : CallT Try.prog 34 [v0, v1] H K :=
  CallT.of_wp (D := D34) tab_ok mixed Try.func34 (c := bodyOf Try.f34) (by kernel_rfl) rfl (by kernel_rfl) (rs := #[.tmp 4]) rfl (by decide +kernel) (by kernel_rfl) (W34_wp v0 v1 H K) h
theorem L34_0_rule {K : AV → Heap → Prop} {v0 v1 v5 : AV} {H : Heap} {σ : Type} (s0 : σ) (f5 : σ → AV) (TH : σ → Heap) (pre : σ → Prop) (μ : σ → Nat)
    (h0 : pre s0 ∧ AV.wk v5 (f5 s0) ∧ Heap.le (TH s0) H)
    (round : ∀ s, pre s → B34_0 K (fun w5 H' => ∃ s', pre s' ∧ μ s' < μ s ∧ AV.wk w5 (f5 s') ∧ Heap.le (TH s') H') v0 v1 (f5 s) (TH s)) :
    L34_0 K v0 v1 v5 H := by
  unfold L34_0
  exact LoopV.mk s0 (fun s => [f5 s]) TH pre μ (fun _ => rfl) (Eq.mp (by kernel_rfl) h0) (fun s hs => Eq.mp (by kernel_rfl) (round s hs))
/-- loop.example/g00649/laws.markNodeS -/
def D35 : Info := ⟨28, fun i => ([], []), fun i => if i = 2 then ([0], [1, 5]) else ([], [])⟩
def L35_0 (K : AV → Heap → Prop) (v0 : AV) (v1 : AV) (v5 : AV) (H : Heap) : Prop := LoopV (wpC Try.prog tab D35 (cAt [1, 0, 1, 0, 0] (bodyOf Try.f35))) [0] (PostF.block 0 (PostF.thenA (wpC Try.prog tab D35 (cAt [1, 1] (bodyOf Try.f35))) (retF tab [.tmp 4] K))) [1, 5] [v0, v1, AV.any, AV.any, AV.any, v5, AV.any, AV.any, AV.any, AV.any, AV.any, AV.any, AV.any, AV.any, AV.any, AV.any, AV.any, AV.any, AV.any, AV.any, AV.any, AV.any, AV.any, AV.any, AV.any, AV.any, AV.any, AV.any] H
def B35_0 (K : AV → Heap → Prop) (N1 : AV → AV → Heap → Prop) (v0 : AV) (v1 : AV) (v5 : AV) (H : Heap) : Prop :=
 lenV tab 34 v0 fun v8 =>
 binV tab .lss 3 v5 v8 fun v9 =>
 condV v9 (indexAddrV tab 34 v0 v5 fun v15 =>
 fieldAddrV tab 76 v15 0 fun v16 =>
 storeV tab 3 v16 v1 H fun H1 =>
 binV tab .add 3 v1 (AV.p (.int .i64 1)) fun v18 =>
 convV tab 3 74 v18 fun v22 =>
 indexAddrV tab 34 v0 v5 fun v23 =>
 fieldAddrV tab 76 v23 1 fun v24 =>
 storeV tab 74 v24 v22 H1 fun H2 =>
 binV tab .add 3 v18 (AV.p (.int .i64 1)) fun v26 =>
 binV tab .add 3 v5 (AV.p (.int .i64 1)) fun v11 =>
 N1 v26 v11 H2)
 (K v1 H)
def W35 (v0 : AV) (v1 : AV) (H : Heap) (K : AV → Heap → Prop) : Prop :=
 L35_0 K v0 v1 (AV.p (.int .i64 0)) H
theorem W35_wp (v0 : AV) (v1 : AV) (H : Heap) (K : AV → Heap → Prop) : wpC Try.prog tab D35 (bodyOf Try.f35) (retF tab [.tmp 4] K) (nthA [v0, v1]) H = W35 v0 v1 H K := by kernel_rfl
theorem W35_ok {v0 v1 : AV} {H : Heap} {K : AV → Heap → Prop} (h : W35 v0 v1 H K) : CallT Try.prog 35 [v0, v1] H K :=
  CallT.of_wp (D := D35) tab_ok mixed Try.func35 (c := bodyOf Try.f35) (by kernel_rfl) rfl (by kernel_rfl) (rs := #[.tmp 4]) rfl (by decide +kernel) (by kernel_rfl) (W35_wp v0 v1 H K) h
theorem L35_0_rule {K : AV → Heap → Prop} {v0 v1 v5 : AV} {H : Heap} {σ : Type} (s0 : σ) (f1 : σ → AV) (f5 : σ → AV) (TH : σ → Heap) (pre : σ → Prop) (μ : σ → Nat)
    (h0 : pre s0 ∧ AV.wk v1 (f1 s0) ∧ AV.wk v5 (f5 s0) ∧ Heap.le (TH s0) H)
    (round : ∀ s, pre s → B35_0 K (fun w1 w5 H' => ∃ s', pre s' ∧ μ s' < μ s ∧ AV.wk w1 (f1 s') ∧ AV.wk w5 (f5 s') ∧ Heap.le (TH s') H') v0 (f1 s) (f5 s) (TH s)) :
    L35_0 K v0 v1 v5 H := by
  unfold L35_0
  exact LoopV.mk s0 (fun s => [f1 s, f5 s]) TH pre μ (fun _ => rfl) (Eq.mp (by kernel_rfl) h0) (fun s hs => Eq.mp (by kernel_rfl) (round s hs))
/-- loop.example/g00649/laws.markCommandS -/
def D36 : Info := ⟨27, fun i => ([], []), fun i => if i = 2 then ([0], [1, 5]) else ([], [])⟩
def L36_0 (K : AV → Heap → Prop) (v0 : AV) (v1 : AV) (v5 : AV) (H : Heap) : Prop := LoopV (wpC Try.prog tab D36 (cAt [1, 0, 1, 0, 0] (bodyOf Try.f36))) [0] (PostF.block 0 (PostF.thenA (wpC Try.prog tab D36 (cAt [1, 1] (bodyOf Try.f36))) (retF tab [.tmp 4] K))) [1, 5] [v0, v1, AV.any, AV.any, AV.any, v5, AV.any, AV.any, AV.any, AV.any, AV.any, AV.any, AV.any, AV.any, AV.any, AV.any, AV.any, AV.any, AV.any, AV.any, AV.any, AV.any, AV.any, AV.any, AV.any, AV.any, AV.any] H
def B36_0 (K : AV → Heap → Prop) (N1 : AV → AV → Heap → Prop) (v0 : AV) (v1 : AV) (v5 : AV) (H : Heap) : Prop :=
 lenV tab 35 v0 fun v8 =>
 binV tab .lss 3 v5 v8 fun v9 =>
 condV v9 (indexAddrV tab 35 v0 v5 fun v14 =>
 fieldAddrV tab 81 v14 0 fun v15 =>
 loadV tab 34 v15 H fun v16 =>
 CallT Try.prog 35 [v16, v1] H fun v18 H1 =>
 indexAddrV tab 35 v0 v5 fun v21 =>
 fieldAddrV tab 81 v21 1 fun v22 =>
 loadV tab 79 v22 H1 fun v23 =>
 CallT Try.prog 56 [v23, v18] H1 fun v25 H2 =>
 binV tab .add 3 v5 (AV.p (.int .i64 1)) fun v11 =>
 N1 v25 v11 H2)
 (K v1 H)
def W36 (v0 : AV) (v1 : AV) (H : Heap) (K : AV → Heap → Prop) : Prop :=
 L36_0 K v0 v1 (AV.p (.int .i64 0)) H
theorem W36_wp (v0 : AV) (v1 : AV) (H : Heap) (K : AV → Heap → Prop) : wpC Try.prog tab D36 (bodyOf Try.f36) (retF tab [.tmp 4] K) (nthA [v0, v1]) H = W36 v0 v1 H K := by kernel_rfl
theorem W36_ok {v0 v1 : AV} {H : Heap} {K : AV → Heap → Prop} (h : W36 v0 v1 H K) : CallT Try.prog 36 [v0, v1] H K :=
  CallT.of_wp (D := D36) tab_ok mixed Try.func36 (c := bodyOf Try.f36) (by kernel_rfl) rfl (by kernel_rfl) (rs := #[.tmp 4]) rfl (by decide +kernel) (by kernel_rfl) (W36_wp v0 v1 H K) h
theorem L36_0_rule {K : AV → Heap → Prop} {v0 v1 v5 : AV} {H : Heap} {σ : Type} (s0 : σ) (f1 : σ → AV) (f5 : σ → AV) (TH : σ → Heap) (pre : σ → Prop) (μ : σ → Nat)
    (h0 : pre s0 ∧ AV.wk v1 (f1 s0) ∧ AV.wk v5 (f5 s0) ∧ Heap.le (TH s0) H)
    (round : ∀ s, pre s → B36_0 K (fun w1 w5 H' => ∃ s', pre s' ∧ μ s' < μ s ∧ AV.wk w1 (f1 s') ∧ AV.wk w5 (f5 s') ∧ Heap.le (TH s') H') v0 (f1 s) (f5 s) (TH s)) :
    L36_0 K v0 v1 v5 H := by
  unfold L36_0
  exact LoopV.mk s0 (fun s => [f1 s, f5 s]) TH pre μ (fun _ => rfl) (Eq.mp (by kernel_rfl) h0) (fun s hs => Eq.mp (by kernel_rfl) (round s hs))
/-- loop.example/g00649/laws.heldIntS -/
def D37 : Info := ⟨21, fun i => ([], []), fun i => if i = 2 then ([0], [1, 5]) else ([], [])⟩
def L37_0 (K : AV → Heap → Prop) (v0 : AV) (v1 : AV) (v5 : AV) (H : Heap) : Prop := LoopV (wpC Try.prog tab D37 (cAt [1, 0, 1, 0, 0] (bodyOf Try.f37))) [0] (PostF.block 0 (PostF.thenA (wpC Try.prog tab D37 (cAt [1, 1] (bodyOf Try.f37))) (retF tab [.tmp 4] K))) [1, 5] [v0, v1, AV.any, AV.any, AV.any, v5, AV.any, AV.any, AV.any, AV.any, AV.any, AV.any, AV.any, AV.any, AV.any, AV.any, AV.any, AV.any, AV.any, AV.any, AV.any] H
def B37_0 (K : AV → Heap → Prop) (N1 : AV → AV → Heap → Prop) (v0 : AV) (v1 : AV) (v5 : AV) (H : Heap) : Prop :=
 lenV tab 26 v0 fun v8 =>
 binV tab .lss 3 v5 v8 fun v9 =>
 condV v9 (indexAddrV tab 26 v0 v5 fun v14 =>
 loadV tab 3 v14 H fun v15 =>
 binV tab .neq 3 v15 v1 fun v17 =>
 condV v17 (K (AV.p (.int .i64 (-1))) H)
 (binV tab .add 3 v1 (AV.p (.int .i64 1)) fun v19 =>
 binV tab .add 3 v5 (AV.p (.int .i64 1)) fun v11 =>
 N1 v19 v11 H))
 (K v1 H)
def W37 (v0 : AV) (v1 : AV) (H : Heap) (K : AV → Heap → Prop) : Prop :=
 L37_0 K v0 v1 (AV.p (.int .i64 0)) H
theorem W37_wp (v0 : AV) (v1 : AV) (H : Heap) (K : AV → Heap → Prop) : wpC Try.prog tab D37 (bodyOf Try.f37) (retF tab [.tmp 4] K) (nthA [v0, v1]) H = W37 v0 v1 H K := by kernel_rfl
theorem W37_ok {v0 v1 : AV} {H : Heap} {K : AV → Heap → Prop} (h : W37 v0 v1 H K) : CallT Try.prog 37 [v0, v1] H K :=
  CallT.of_wp (D := D37) tab_ok mixed Try.func37 (c := bodyOf Try.f37) (by kernel_rfl) rfl (by kernel_rfl) (rs := #[.tmp 4]) rfl (by decide +kernel) (by kernel_rfl) (W37_wp v0 v1 H K) h
theorem L37_0_rule {K : AV → Heap → Prop} {v0 v1 v5 : AV} {H : Heap} {σ : Type} (s0 : σ) (f1 : σ → AV) (f5 : σ → AV) (TH : σ → Heap) (pre : σ → Prop) (μ : σ → Nat)
    (h0 : pre s0 ∧ AV.wk v1 (f1 s0) ∧ AV.wk v5 (f5 s0) ∧ Heap.le (TH s0) H)
    (round : ∀ s, pre s → B37_0 K (fun w1 w5 H' => ∃ s', pre s' ∧ μ s' < μ s ∧ AV.wk w1 (f1 s') ∧ AV.wk w5 (f5 s') ∧ Heap.le (TH s') H') v0 (f1 s) (f5 s) (TH s)) :
    L37_0 K v0 v1 v5 H := by
  unfold L37_0
  exact LoopV.mk s0 (fun s => [f1 s, f5 s]) TH pre μ (fun _ => rfl) (Eq.mp (by kernel_rfl) h0) (fun s hs => Eq.mp (by kernel_rfl) (round s hs))
/-- (loop.example/g00649/impl.Program).states -/
def D43 : Info := ⟨9, fun i => ([], []), fun i => ([], [])⟩
def W43 (v0 : AV) (H : Heap) (K : AV → Heap → Prop) : Prop :=
 boxV v0 H fun v1 H1 =>
 fieldAddrV tab 37 v1 0 fun v3 =>
 loadV tab 3 v3 H1 fun v4 =>
 fieldAddrV tab 37 v1 1 fun v5 =>
 loadV tab 3 v5 H1 fun v6 =>
 binV tab .mul 3 v4 v6 fun v7 =>
 binV tab .shl 3 (AV.p (.int .i64 1)) v7 fun v8 =>
 K v8 H1
theorem W43_wp (v0 : AV) (H : Heap) (K : AV → Heap → Prop) : wpC Try.prog tab D43 (bodyOf Try.f43) (retF tab [.tmp 2] K) (nthA [v0]) H = W43 v0 H K := by kernel_rfl
theorem W43_ok {v0 : AV} {H : Heap} {K : AV → Heap → Prop} (h : W43 v0 H K) : CallT Try.prog 43 [v0] H K :=
  CallT.of_wp (D := D43) tab_ok mixed Try.func43 (c := bodyOf Try.f43) (by kernel_rfl) rfl (by kernel_rfl) (rs := #[.tmp 2]) rfl (by decide +kernel) (by kernel_rfl) (W43_wp v0 H K) h
/-- loop.example/g00649/laws.szCommand -/
def D45 : Info := ⟨18, fun i => ([], []), fun i => ([], [])⟩
def W45 (v0 : AV) (v1 : AV) (H : Heap) (K : AV → Heap → Prop) : Prop :=
 boxV v0 H fun v2 H1 =>
 fieldAddrV tab 70 v2 0 fun v5 =>
 loadV tab 22 v5 H1 fun v6 =>
 CallT Try.prog 24 [v6, v1] H1 fun v8 H2 =>
 binV tab .lss 3 v8 (AV.p (.int .i64 0)) fun v10 =>
 condV v10 (K (AV.p (.int .i64 (-1))) H2)
 (fieldAddrV tab 70 v2 1 fun v11 =>
 loadV tab 68 v11 H2 fun v12 =>
 CallT Try.prog 58 [v12, v8] H2 fun v14 H3 =>
 binV tab .lss 3 v14 (AV.p (.int .i64 0)) fun v16 =>
 condV v16 (K (AV.p (.int .i64 (-1))) H3)
 (K v14 H3))
theorem W45_wp (v0 : AV) (v1 : AV) (H : Heap) (K : AV → Heap → Prop) : wpC Try.prog tab D45 (bodyOf Try.f45) (retF tab [.tmp 4] K) (nthA [v0, v1]) H = W45 v0 v1 H K := by kernel_rfl
theorem W45_ok {v0 v1 : AV} {H : Heap} {K : AV → Heap → Prop} (h : W45 v0 v1 H K) : CallT Try.prog 45 [v0, v1] H K :=
  CallT.of_wp (D := D45) tab_ok mixed Try.func45 (c := bodyOf Try.f45) (by kernel_rfl) rfl (by kernel_rfl) (rs := #[.tmp 4]) rfl (by decide +kernel) (by kernel_rfl) (W45_wp v0 v1 H K) h
/-- loop.example/g00649/spec.l7Small -/
def D46 : Info := ⟨13, fun i => ([], []), fun i => ([], [])⟩
def W46 (v0 : AV) (H : Heap) (K : AV → Heap → Prop) : Prop :=
 boxV v0 H fun v1 H1 =>
 loadV tab 37 v1 H1 fun v3 =>
 CallT Try.prog 59 [v3] H1 fun v4 H2 =>
 grdV v4 true (fieldAddrV tab 37 v1 0 fun v6 =>
 loadV tab 3 v6 H2 fun v7 =>
 fieldAddrV tab 37 v1 1 fun v8 =>
 loadV tab 3 v8 H2 fun v9 =>
 binV tab .mul 3 v7 v9 fun v10 =>
 binV tab .leq 3 v10 (AV.p (.int .i64 5)) fun v11 =>
 K v11 H2)
 (K (AV.p (.bool false)) H2)
theorem W46_wp (v0 : AV) (H : Heap) (K : AV → Heap → Prop) : wpC Try.prog tab D46 (bodyOf Try.f46) (retF tab [.tmp 2] K) (nthA [v0]) H = W46 v0 H K := by kernel_rfl
theorem W46_ok {v0 : AV} {H : Heap} {K : AV → Heap → Prop} (h : W46 v0 H K) : CallT Try.prog 46 [v0] H K :=
  CallT.of_wp (D := D46) tab_ok mixed Try.func46 (c := bodyOf Try.f46) (by kernel_rfl) rfl (by kernel_rfl) (rs := #[.tmp 2]) rfl (by decide +kernel) (by kernel_rfl) (W46_wp v0 H K) h
/-- loop.example/g00649/spec.l7Many -/
def D47 : Info := ⟨10, fun i => ([], []), fun i => ([], [])⟩
def W47 (v0 : AV) (H : Heap) (K : AV → Heap → Prop) : Prop :=
 boxV v0 H fun v1 H1 =>
 fieldAddrV tab 37 v1 0 fun v3 =>
 loadV tab 3 v3 H1 fun v4 =>
 fieldAddrV tab 37 v1 1 fun v5 =>
 loadV tab 3 v5 H1 fun v6 =>
 binV tab .mul 3 v4 v6 fun v7 =>
 convV tab 3 91 v7 fun v8 =>
 binV tab .shl 3 (AV.p (.int .i64 1)) v8 fun v9 =>
 K v9 H1
theorem W47_wp (v0 : AV) (H : Heap) (K : AV → Heap → Prop) : wpC Try.prog tab D47 (bodyOf Try.f47) (retF tab [.tmp 2] K) (nthA [v0]) H = W47 v0 H K := by kernel_rfl
theorem W47_ok {v0 : AV} {H : Heap} {K : AV → Heap → Prop} (h : W47 v0 H K) : CallT Try.prog 47 [v0] H K :=
  CallT.of_wp (D := D47) tab_ok mixed Try.func47 (c := bodyOf Try.f47) (by kernel_rfl) rfl (by kernel_rfl) (rs := #[.tmp 2]) rfl (by decide +kernel) (by kernel_rfl) (W47_wp v0 H K) h
/-- loop.example/g00649/spec.l1In -/
def D48 : Info := ⟨15, fun i => ([], []), fun i => ([], [])⟩
def W48 (v0 : AV) (v1 : AV) (v2 : AV) (H : Heap) (K : AV → Heap → Prop) : Prop :=
 binV tab .geq 3 v0 v1 fun v9 =>
 grdV v9 true (binV tab .leq 3 v0 v2 fun v13 =>
 K v13 H)
 (K (AV.p (.bool false)) H)
theorem W48_wp (v0 : AV) (v1 : AV) (v2 : AV) (H : Heap) (K : AV → Heap → Prop) : wpC Try.prog tab D48 (bodyOf Try.f48) (retF tab [.tmp 6] K) (nthA [v0, v1, v2]) H = W48 v0 v1 v2 H K := by kernel_rfl
theorem W48_ok {v0 v1 v2 : AV} {H : Heap} {K : AV → Heap → Prop} (h : W48 v0 v1 v2 H K) : CallT Try.prog 48 [v0, v1, v2] H K :=
  CallT.of_wp (D := D48) tab_ok mixed Try.func48 (c := bodyOf Try.f48) (by kernel_rfl) rfl (by kernel_rfl) (rs := #[.tmp 6]) rfl (by decide +kernel) (by kernel_rfl) (W48_wp v0 v1 v2 H K) h
/-- loop.example/g00649/laws.toNode -/
def D49 : Info := ⟨11, fun i => ([], []), fun i => ([], [])⟩
def W49 (v0 : AV) (H : Heap) (K : AV → Heap → Prop) : Prop :=
 boxV v0 H fun v1 H1 =>
 allocV tab 76 H1 fun v2 H2 =>
 allocV tab 76 H2 fun v3 H3 =>
 fieldAddrV tab 78 v1 0 fun v4 =>
 loadV tab 3 v4 H3 fun v5 =>
 fieldAddrV tab 76 v3 0 fun v6 =>
 storeV tab 3 v6 v5 H3 fun H4 =>
 fieldAddrV tab 78 v1 1 fun v7 =>
 loadV tab 74 v7 H4 fun v8 =>
 fieldAddrV tab 76 v3 1 fun v9 =>
 storeV tab 74 v9 v8 H4 fun H5 =>
 loadV tab 76 v3 H5 fun v10 =>
 storeV tab 76 v2 v10 H5 fun H6 =>
 loadV tab 76 v2 H6 fun r0 =>
 K r0 H6
theorem W49_wp (v0 : AV) (H : Heap) (K : AV → Heap → Prop) : wpC Try.prog tab D49 (bodyOf Try.f49) (retF tab [.cell 2 76] K) (nthA [v0]) H = W49 v0 H K := by kernel_rfl
theorem W49_ok {v0 : AV} {H : Heap} {K : AV → Heap → Prop} (h : W49 v0 H K) : CallT Try.prog 49 [v0] H K :=
  CallT.of_wp (D := D49) tab_ok mixed Try.func49 (c := bodyOf Try.f49) (by kernel_rfl) rfl (by kernel_rfl) (rs := #[.cell 2 76]) rfl (by decide +kernel) (by kernel_rfl) (W49_wp v0 H K) h
/-- loop.example/g00649/laws.toCommand -/
def D50 : Info := ⟨13, fun i => ([], []), fun i => ([], [])⟩
def W50 (v0 : AV) (H : Heap) (K : AV → Heap → Prop) : Prop :=
 boxV v0 H fun v1 H1 =>
 allocV tab 81 H1 fun v2 H2 =>
 allocV tab 81 H2 fun v3 H3 =>
 fieldAddrV tab 70 v1 0 fun v4 =>
 loadV tab 22 v4 H3 fun v5 =>
 CallT Try.prog 29 [v5] H3 fun v6 H4 =>
 fieldAddrV tab 81 v3 0 fun v7 =>
 storeV tab 34 v7 v6 H4 fun H5 =>
 fieldAddrV tab 70 v1 1 fun v8 =>
 loadV tab 68 v8 H5 fun v9 =>
 CallT Try.prog 60 [v9] H5 fun v10 H6 =>
 fieldAddrV tab 81 v3 1 fun v11 =>
 storeV tab 79 v11 v10 H6 fun H7 =>
 loadV tab 81 v3 H7 fun v12 =>
 storeV tab 81 v2 v12 H7 fun H8 =>
 loadV tab 81 v2 H8 fun r0 =>
 K r0 H8
theorem W50_wp (v0 : AV) (H : Heap) (K : AV → Heap → Prop) : wpC Try.prog tab D50 (bodyOf Try.f50) (retF tab [.cell 2 81] K) (nthA [v0]) H = W50 v0 H K := by kernel_rfl
theorem W50_ok {v0 : AV} {H : Heap} {K : AV → Heap → Prop} (h : W50 v0 H K) : CallT Try.prog 50 [v0] H K :=
  CallT.of_wp (D := D50) tab_ok mixed Try.func50 (c := bodyOf Try.f50) (by kernel_rfl) rfl (by kernel_rfl) (rs := #[.cell 2 81]) rfl (by decide +kernel) (by kernel_rfl) (W50_wp v0 H K) h
/-- loop.example/g00649/impl.isSmall -/
def D51 : Info := ⟨13, fun i => ([], []), fun i => ([], [])⟩
def W51 (v0 : AV) (H : Heap) (K : AV → Heap → Prop) : Prop :=
 boxV v0 H fun v1 H1 =>
 loadV tab 37 v1 H1 fun v3 =>
 CallT Try.prog 61 [v3] H1 fun v4 H2 =>
 grdV v4 true (fieldAddrV tab 37 v1 0 fun v6 =>
 loadV tab 3 v6 H2 fun v7 =>
 fieldAddrV tab 37 v1 1 fun v8 =>
 loadV tab 3 v8 H2 fun v9 =>
 binV tab .mul 3 v7 v9 fun v10 =>
 binV tab .leq 3 v10 (AV.p (.int .i64 5)) fun v11 =>
 K v11 H2)
 (K (AV.p (.bool false)) H2)
theorem W51_wp (v0 : AV) (H : Heap) (K : AV → Heap → Prop) : wpC Try.prog tab D51 (bodyOf Try.f51) (retF tab [.tmp 2] K) (nthA [v0]) H = W51 v0 H K := by kernel_rfl
theorem W51_ok {v0 : AV} {H : Heap} {K : AV → Heap → Prop} (h : W51 v0 H K) : CallT Try.prog 51 [v0] H K :=
  CallT.of_wp (D := D51) tab_ok mixed Try.func51 (c := bodyOf Try.f51) (by kernel_rfl) rfl (by kernel_rfl) (rs := #[.tmp 2]) rfl (by decide +kernel) (by kernel_rfl) (W51_wp v0 H K) h
/-- loop.example/g00649/impl.isSight -/
def D52 : Info := ⟨33, fun i => ([], []), fun i => if i = 3 then ([1, 2, 9, 10], [5, 11]) else ([], [])⟩
def L52_0 (K : AV → Heap → Prop) (v1 : AV) (v2 : AV) (v5 : AV) (v9 : AV) (v10 : AV) (v11 : AV) (H : Heap) : Prop := LoopV (wpC Try.prog tab D52 (cAt [1, 1, 0, 1, 0, 0] (bodyOf Try.f52))) [1, 2, 9, 10] (PostF.block 0 (PostF.thenA (wpC Try.prog tab D52 (cAt [1, 1, 1] (bodyOf Try.f52))) (retF tab [.tmp 4] K))) [5, 11] [AV.any, v1, v2, AV.any, AV.any, v5, AV.any, AV.any, AV.any, v9, v10, v11, AV.any, AV.any, AV.any, AV.any, AV.any, AV.any, AV.any, AV.any, AV.any, AV.any, AV.any, AV.any, AV.any, AV.any, AV.any, AV.any, AV.any, AV.any, AV.any, AV.any, AV.any] H
def B52_0 (K : AV → Heap → Prop) (N1 : AV → AV → Heap → Prop) (v1 : AV) (v2 : AV) (v5 : AV) (v9 : AV) (v10 : AV) (v11 : AV) (H : Heap) : Prop :=
 binV tab .lss 3 v11 v10 fun v12 =>
 condV v12 (indexAddrV tab 26 v9 v11 fun v13 =>
 loadV tab 3 v13 H fun v14 =>
 binV tab .lss 3 v14 (AV.p (.int .i64 0)) fun v16 =>
 grdV v16 false (binV tab .gtr 3 v14 v5 fun v20 =>
 condV v20 (K (AV.p (.bool false)) H)
 (binV tab .eql 3 v14 v5 fun v24 =>
 condV v24 (binV tab .add 3 v5 (AV.p (.int .i64 1)) fun v26 =>
 binV tab .add 3 v11 (AV.p (.int .i64 1)) fun v27 =>
 N1 v26 v27 H)
 (binV tab .add 3 v11 (AV.p (.int .i64 1)) fun v27 =>
 N1 v5 v27 H)))
 (K (AV.p (.bool false)) H))
 (fieldAddrV tab 31 v2 0 fun v28 =>
 loadV tab 26 v28 H fun v29 =>
 lenV tab 26 v29 fun v30 =>
 binV tab .eql 3 v30 v1 fun v32 =>
 K v32 H)
def W52 (v0 : AV) (v1 : AV) (H : Heap) (K : AV → Heap → Prop) : Prop :=
 boxV v0 H fun v2 H1 =>
 fieldAddrV tab 31 v2 0 fun v8 =>
 loadV tab 26 v8 H1 fun v9 =>
 lenV tab 26 v9 fun v10 =>
 L52_0 K v1 v2 (AV.p (.int .i64 0)) v9 v10 (AV.p (.int .i64 0)) H1
theorem W52_wp (v0 : AV) (v1 : AV) (H : Heap) (K : AV → Heap → Prop) : wpC Try.prog tab D52 (bodyOf Try.f52) (retF tab [.tmp 4] K) (nthA [v0, v1]) H = W52 v0 v1 H K := by kernel_rfl
theorem W52_ok {v0 v1 : AV} {H : Heap} {K : AV → Heap → Prop} (h : W52 v0 v1 H K) : CallT Try.prog 52 [v0, v1] H K :=
  CallT.of_wp (D := D52) tab_ok mixed Try.func52 (c := bodyOf Try.f52) (by kernel_rfl) rfl (by kernel_rfl) (rs := #[.tmp 4]) rfl (by decide +kernel) (by kernel_rfl) (W52_wp v0 v1 H K) h
theorem L52_0_rule {K : AV → Heap → Prop} {v1 v2 v5 v9 v10 v11 : AV} {H : Heap} {σ : Type} (s0 : σ) (f5 : σ → AV) (f11 : σ → AV) (TH : σ → Heap) (pre : σ → Prop) (μ : σ → Nat)
    (h0 : pre s0 ∧ AV.wk v5 (f5 s0) ∧ AV.wk v11 (f11 s0) ∧ Heap.le (TH s0) H)
    (round : ∀ s, pre s → B52_0 K (fun w5 w11 H' => ∃ s', pre s' ∧ μ s' < μ s ∧ AV.wk w5 (f5 s') ∧ AV.wk w11 (f11 s') ∧ Heap.le (TH s') H') v1 v2 (f5 s) v9 v10 (f11 s) (TH s)) :
    L52_0 K v1 v2 v5 v9 v10 v11 H := by
  unfold L52_0
  exact LoopV.mk s0 (fun s => [f5 s, f11 s]) TH pre μ (fun _ => rfl) (Eq.mp (by kernel_rfl) h0) (fun s hs => Eq.mp (by kernel_rfl) (round s hs))
/-- loop.example/g00649/laws.eqNode -/
def D54 : Info := ⟨15, fun i => ([], []), fun i => ([], [])⟩
def W54 (v0 : AV) (v1 : AV) (H : Heap) (K : AV → Heap → Prop) : Prop :=
 boxV v0 H fun v2 H1 =>
 boxV v1 H1 fun v3 H2 =>
 fieldAddrV tab 76 v2 0 fun v5 =>
 loadV tab 3 v5 H2 fun v6 =>
 fieldAddrV tab 76 v3 0 fun v7 =>
 loadV tab 3 v7 H2 fun v8 =>
 binV tab .neq 3 v6 v8 fun v9 =>
 condV v9 (K (AV.p (.bool false)) H2)
 (fieldAddrV tab 76 v2 1 fun v10 =>
 loadV tab 74 v10 H2 fun v11 =>
 fieldAddrV tab 76 v3 1 fun v12 =>
 loadV tab 74 v12 H2 fun v13 =>
 binV tab .neq 74 v11 v13 fun v14 =>
 condV v14 (K (AV.p (.bool false)) H2)
 (K (AV.p (.bool true)) H2))
theorem W54_wp (v0 : AV) (v1 : AV) (H : Heap) (K : AV → Heap → Prop) : wpC Try.prog tab D54 (bodyOf Try.f54) (retF tab [.tmp 4] K) (nthA [v0, v1]) H = W54 v0 v1 H K := by kernel_rfl
theorem W54_ok {v0 v1 : AV} {H : Heap} {K : AV → Heap → Prop} (h : W54 v0 v1 H K) : CallT Try.prog 54 [v0, v1] H K :=
  CallT.of_wp (D := D54) tab_ok mixed Try.func54 (c := bodyOf Try.f54) (by kernel_rfl) rfl (by kernel_rfl) (rs := #[.tmp 4]) rfl (by decide +kernel) (by kernel_rfl) (W54_wp v0 v1 H K) h
/-- loop.example/g00649/laws.eqCommand -/
def D55 : Info := ⟨17, fun i => ([], []), fun i => ([], [])⟩
def W55 (v0 : AV) (v1 : AV) (H : Heap) (K : AV → Heap → Prop) : Prop :=
 boxV v0 H fun v2 H1 =>
 boxV v1 H1 fun v3 H2 =>
 fieldAddrV tab 81 v2 0 fun v5 =>
 loadV tab 34 v5 H2 fun v6 =>
 fieldAddrV tab 81 v3 0 fun v7 =>
 loadV tab 34 v7 H2 fun v8 =>
 CallT Try.prog 33 [v6, v8] H2 fun v9 H3 =>
 unV .not v9 fun v10 =>
 condV v10 (K (AV.p (.bool false)) H3)
 (fieldAddrV tab 81 v2 1 fun v11 =>
 loadV tab 79 v11 H3 fun v12 =>
 fieldAddrV tab 81 v3 1 fun v13 =>
 loadV tab 79 v13 H3 fun v14 =>
 CallT Try.prog 62 [v12, v14] H3 fun v15 H4 =>
 unV .not v15 fun v16 =>
 condV v16 (K (AV.p (.bool false)) H4)
 (K (AV.p (.bool true)) H4))
theorem W55_wp (v0 : AV) (v1 : AV) (H : Heap) (K : AV → Heap → Prop) : wpC Try.prog tab D55 (bodyOf Try.f55) (retF tab [.tmp 4] K) (nthA [v0, v1]) H = W55 v0 v1 H K := by kernel_rfl
theorem W55_ok {v0 v1 : AV} {H : Heap} {K : AV → Heap → Prop} (h : W55 v0 v1 H K) : CallT Try.prog 55 [v0, v1] H K :=
  CallT.of_wp (D := D55) tab_ok mixed Try.func55 (c := bodyOf Try.f55) (by kernel_rfl) rfl (by kernel_rfl) (rs := #[.tmp 4]) rfl (by decide +kernel) (by kernel_rfl) (W55_wp v0 v1 H K) h
/-- loop.example/g00649/laws.markChangeS -/
def D56 : Info := ⟨27, fun i => ([], []), fun i => if i = 2 then ([0], [1, 5]) else ([], [])⟩
def L56_0 (K : AV → Heap → Prop) (v0 : AV) (v1 : AV) (v5 : AV) (H : Heap) : Prop := LoopV (wpC Try.prog tab D56 (cAt [1, 0, 1, 0, 0] (bodyOf Try.f56))) [0] (PostF.block 0 (PostF.thenA (wpC Try.prog tab D56 (cAt [1, 1] (bodyOf Try.f56))) (retF tab [.tmp 4] K))) [1, 5] [v0, v1, AV.any, AV.any, AV.any, v5, AV.any, AV.any, AV.any, AV.any, AV.any, AV.any, AV.any, AV.any, AV.any, AV.any, AV.any, AV.any, AV.any, AV.any, AV.any, AV.any, AV.any, AV.any, AV.any, AV.any, AV.any] H
def B56_0 (K : AV → Heap → Prop) (N1 : AV → AV → Heap → Prop) (v0 : AV) (v1 : AV) (v5 : AV) (H : Heap) : Prop :=
 lenV tab 79 v0 fun v8 =>
 binV tab .lss 3 v5 v8 fun v9 =>
 condV v9 (indexAddrV tab 79 v0 v5 fun v15 =>
 fieldAddrV tab 97 v15 0 fun v16 =>
 storeV tab 3 v16 v1 H fun H1 =>
 binV tab .add 3 v1 (AV.p (.int .i64 1)) fun v18 =>
 indexAddrV tab 79 v0 v5 fun v21 =>
 fieldAddrV tab 97 v21 1 fun v22 =>
 loadV tab 34 v22 H1 fun v23 =>
 CallT Try.prog 35 [v23, v18] H1 fun v25 H2 =>
 binV tab .add 3 v5 (AV.p (.int .i64 1)) fun v11 =>
 N1 v25 v11 H2)
 (K v1 H)
def W56 (v0 : AV) (v1 : AV) (H : Heap) (K : AV → Heap → Prop) : Prop :=
 L56_0 K v0 v1 (AV.p (.int .i64 0)) H
theorem W56_wp (v0 : AV) (v1 : AV) (H : Heap) (K : AV → Heap → Prop) : wpC Try.prog tab D56 (bodyOf Try.f56) (retF tab [.tmp 4] K) (nthA [v0, v1]) H = W56 v0 v1 H K := by kernel_rfl
theorem W56_ok {v0 v1 : AV} {H : Heap} {K : AV → Heap → Prop} (h : W56 v0 v1 H K) : CallT Try.prog 56 [v0, v1] H K :=
  CallT.of_wp (D := D56) tab_ok mixed Try.func56 (c := bodyOf Try.f56) (by kernel_rfl) rfl (by kernel_rfl) (rs := #[.tmp 4]) rfl (by decide +kernel) (by kernel_rfl) (W56_wp v0 v1 H K) h
theorem L56_0_rule {K : AV → Heap → Prop} {v0 v1 v5 : AV} {H : Heap} {σ : Type} (s0 : σ) (f1 : σ → AV) (f5 : σ → AV) (TH : σ → Heap) (pre : σ → Prop) (μ : σ → Nat)
    (h0 : pre s0 ∧ AV.wk v1 (f1 s0) ∧ AV.wk v5 (f5 s0) ∧ Heap.le (TH s0) H)
    (round : ∀ s, pre s → B56_0 K (fun w1 w5 H' => ∃ s', pre s' ∧ μ s' < μ s ∧ AV.wk w1 (f1 s') ∧ AV.wk w5 (f5 s') ∧ Heap.le (TH s') H') v0 (f1 s) (f5 s) (TH s)) :
    L56_0 K v0 v1 v5 H := by
  unfold L56_0
  exact LoopV.mk s0 (fun s => [f1 s, f5 s]) TH pre μ (fun _ => rfl) (Eq.mp (by kernel_rfl) h0) (fun s hs => Eq.mp (by kernel_rfl) (round s hs))
/-- loop.example/g00649/laws.szChangeS -/
def D58 : Info := ⟨27, fun i => ([], []), fun i => if i = 5 then ([0], [1, 5]) else ([], [])⟩
def L58_0 (K : AV → Heap → Prop) (v0 : AV) (v1 : AV) (v5 : AV) (H : Heap) : Prop := LoopV (wpC Try.prog tab D58 (cAt [1, 1, 1, 0, 1, 0, 0] (bodyOf Try.f58))) [0] (PostF.block 0 (PostF.thenA (wpC Try.prog tab D58 (cAt [1, 1, 1, 1] (bodyOf Try.f58))) (retF tab [.tmp 4] K))) [1, 5] [v0, v1, AV.any, AV.any, AV.any, v5, AV.any, AV.any, AV.any, AV.any, AV.any, AV.any, AV.any, AV.any, AV.any, AV.any, AV.any, AV.any, AV.any, AV.any, AV.any, AV.any, AV.any, AV.any, AV.any, AV.any, AV.any] H
def B58_0 (K : AV → Heap → Prop) (N1 : AV → AV → Heap → Prop) (v0 : AV) (v1 : AV) (v5 : AV) (H : Heap) : Prop :=
 lenV tab 68 v0 fun v14 =>
 binV tab .lss 3 v5 v14 fun v15 =>
 condV v15 (indexAddrV tab 68 v0 v5 fun v20 =>
 loadV tab 100 v20 H fun v21 =>
 CallT Try.prog 63 [v21, v1] H fun v23 H1 =>
 binV tab .lss 3 v23 (AV.p (.int .i64 0)) fun v25 =>
 condV v25 (K (AV.p (.int .i64 (-1))) H1)
 (binV tab .add 3 v5 (AV.p (.int .i64 1)) fun v17 =>
 N1 v23 v17 H1))
 (K v1 H)
def W58 (v0 : AV) (v1 : AV) (H : Heap) (K : AV → Heap → Prop) : Prop :=
 lenV tab 68 v0 fun v8 =>
 binV tab .sub 3 v1 v8 fun v9 =>
 binV tab .lss 3 v9 (AV.p (.int .i64 0)) fun v11 =>
 condV v11 (K (AV.p (.int .i64 (-1))) H)
 (L58_0 K v0 v9 (AV.p (.int .i64 0)) H)
theorem W58_wp (v0 : AV) (v1 : AV) (H : Heap) (K : AV → Heap → Prop) : wpC Try.prog tab D58 (bodyOf Try.f58) (retF tab [.tmp 4] K) (nthA [v0, v1]) H = W58 v0 v1 H K := by kernel_rfl
theorem W58_ok {v0 v1 : AV} {H : Heap} {K : AV → Heap → Prop} (h : W58 v0 v1 H K) : CallT Try.prog 58 [v0, v1] H K :=
  CallT.of_wp (D := D58) tab_ok mixed Try.func58 (c := bodyOf Try.f58) (by kernel_rfl) rfl (by kernel_rfl) (rs := #[.tmp 4]) rfl (by decide +kernel) (by kernel_rfl) (W58_wp v0 v1 H K) h
theorem L58_0_rule {K : AV → Heap → Prop} {v0 v1 v5 : AV} {H : Heap} {σ : Type} (s0 : σ) (f1 : σ → AV) (f5 : σ → AV) (TH : σ → Heap) (pre : σ → Prop) (μ : σ → Nat)
    (h0 : pre s0 ∧ AV.wk v1 (f1 s0) ∧ AV.wk v5 (f5 s0) ∧ Heap.le (TH s0) H)
    (round : ∀ s, pre s → B58_0 K (fun w1 w5 H' => ∃ s', pre s' ∧ μ s' < μ s ∧ AV.wk w1 (f1 s') ∧ AV.wk w5 (f5 s') ∧ Heap.le (TH s') H') v0 (f1 s) (f5 s) (TH s)) :
    L58_0 K v0 v1 v5 H := by
  unfold L58_0
  exact LoopV.mk s0 (fun s => [f1 s, f5 s]) TH pre μ (fun _ => rfl) (Eq.mp (by kernel_rfl) h0) (fun s hs => Eq.mp (by kernel_rfl) (round s hs))
/-- loop.example/g00649/spec.GoodProgram -/
def D59 : Info := ⟨29, fun i => ([], []), fun i => if i = 4 then ([1, 18, 19], [20]) else ([], [])⟩
def L59_0 (K : AV → Heap → Prop) (v1 : AV) (v18 : AV) (v19 : AV) (v20 : AV) (H : Heap) : Prop := LoopV (wpC Try.prog tab D59 (cAt [1, 1, 0, 1, 0, 0] (bodyOf Try.f59))) [1, 18, 19] (PostF.block 0 (PostF.thenA (wpC Try.prog tab D59 (cAt [1, 1, 1] (bodyOf Try.f59))) (retF tab [.tmp 2] K))) [20] [AV.any, v1, AV.any, AV.any, AV.any, AV.any, AV.any, AV.any, AV.any, AV.any, AV.any, AV.any, AV.any, AV.any, AV.any, AV.any, AV.any, AV.any, v18, v19, v20, AV.any, AV.any, AV.any, AV.any, AV.any, AV.any, AV.any, AV.any] H
def B59_0 (K : AV → Heap → Prop) (N1 : AV → Heap → Prop) (v1 : AV) (v18 : AV) (v19 : AV) (v20 : AV) (H : Heap) : Prop :=
 binV tab .lss 3 v20 v19 fun v21 =>
 condV v21 (indexAddrV tab 35 v18 v20 fun v22 =>
 loadV tab 81 v22 H fun v23 =>
 allocV tab 81 H fun v4 H4 =>
 storeV tab 81 v4 v23 H4 fun H5 =>
 loadV tab 37 v1 H5 fun v24 =>
 loadV tab 81 v4 H5 fun v25 =>
 CallT Try.prog 65 [v24, v25] H5 fun v26 H6 =>
 unV .not v26 fun v27 =>
 condV v27 (K (AV.p (.bool false)) H6)
 (binV tab .add 3 v20 (AV.p (.int .i64 1)) fun v28 =>
 N1 v28 H6))
 (K (AV.p (.bool true)) H)
def W59 (v0 : AV) (H : Heap) (K : AV → Heap → Prop) : Prop :=
 boxV v0 H fun v1 H1 =>
 loadV tab 37 v1 H1 fun v5 =>
 fieldAddrV tab 37 v1 2 fun v6 =>
 loadV tab 34 v6 H1 fun v7 =>
 CallT Try.prog 64 [v5, v7] H1 fun v8 H2 =>
 unV .not v8 fun v9 =>
 grdV v9 false (fieldAddrV tab 37 v1 3 fun v11 =>
 loadV tab 35 v11 H2 fun v12 =>
 lenV tab 35 v12 fun v13 =>
 CallT Try.prog 48 [v13, (AV.p (.int .i64 1)), (AV.p (.int .i64 6))] H2 fun v14 H3 =>
 unV .not v14 fun v15 =>
 condV v15 (K (AV.p (.bool false)) H3)
 (fieldAddrV tab 37 v1 3 fun v17 =>
 loadV tab 35 v17 H3 fun v18 =>
 lenV tab 35 v18 fun v19 =>
 L59_0 K v1 v18 v19 (AV.p (.int .i64 0)) H3))
 (K (AV.p (.bool false)) H2)
theorem W59_wp (v0 : AV) (H : Heap) (K : AV → Heap → Prop) : wpC Try.prog tab D59 (bodyOf Try.f59) (retF tab [.tmp 2] K) (nthA [v0]) H = W59 v0 H K := by kernel_rfl
theorem W59_ok {v0 : AV} {H : Heap} {K : AV → Heap → Prop} (h : W59 v0 H K) : CallT Try.prog 59 [v0] H K :=
  CallT.of_wp (D := D59) tab_ok mixed Try.func59 (c := bodyOf Try.f59) (by kernel_rfl) rfl (by kernel_rfl) (rs := #[.tmp 2]) rfl (by decide +kernel) (by kernel_rfl) (W59_wp v0 H K) h
theorem L59_0_rule {K : AV → Heap → Prop} {v1 v18 v19 v20 : AV} {H : Heap} {σ : Type} (s0 : σ) (f20 : σ → AV) (TH : σ → Heap) (pre : σ → Prop) (μ : σ → Nat)
    (h0 : pre s0 ∧ AV.wk v20 (f20 s0) ∧ Heap.le (TH s0) H)
    (round : ∀ s, pre s → B59_0 K (fun w20 H' => ∃ s', pre s' ∧ μ s' < μ s ∧ AV.wk w20 (f20 s') ∧ Heap.le (TH s') H') v1 v18 v19 (f20 s) (TH s)) :
    L59_0 K v1 v18 v19 v20 H := by
  unfold L59_0
  exact LoopV.mk s0 (fun s => [f20 s]) TH pre μ (fun _ => rfl) (Eq.mp (by kernel_rfl) h0) (fun s hs => Eq.mp (by kernel_rfl) (round s hs))
/-- loop.example/g00649/laws.toChangeS -/
def D60 : Info := ⟨23, fun i => ([], []), fun i => if i = 3 then ([0, 3], [4]) else ([], [])⟩
def L60_0 (K : AV → Heap → Prop) (v0 : AV) (v3 : AV) (v4 : AV) (H : Heap) : Prop := LoopV (wpC Try.prog tab D60 (cAt [1, 1, 0, 1, 0, 0] (bodyOf Try.f60))) [0, 3] (PostF.block 0 (PostF.thenA (wpC Try.prog tab D60 (cAt [1, 1, 1] (bodyOf Try.f60))) (retF tab [.tmp 2] K))) [4] [v0, AV.any, AV.any, v3, v4, AV.any, AV.any, AV.any, AV.any, AV.any, AV.any, AV.any, AV.any, AV.any, AV.any, AV.any, AV.any, AV.any, AV.any, AV.any, AV.any, AV.any, AV.any] H
def B60_0 (K : AV → Heap → Prop) (N1 : AV → Heap → Prop) (v0 : AV) (v3 : AV) (v4 : AV) (H : Heap) : Prop :=
 lenV tab 68 v0 fun v10 =>
 binV tab .lss 3 v4 v10 fun v11 =>
 condV v11 (indexAddrV tab 68 v0 v4 fun v18 =>
 loadV tab 100 v18 H fun v19 =>
 CallT Try.prog 66 [v19] H fun v20 H2 =>
 indexAddrV tab 79 v3 v4 fun v21 =>
 storeV tab 97 v21 v20 H2 fun H3 =>
 binV tab .add 3 v4 (AV.p (.int .i64 1)) fun v13 =>
 N1 v13 H3)
 (K v3 H)
def W60 (v0 : AV) (H : Heap) (K : AV → Heap → Prop) : Prop :=
 lenV tab 68 v0 fun v6 =>
 makeSliceV tab 79 v6 v6 H fun v7 H1 =>
 L60_0 K v0 v7 (AV.p (.int .i64 0)) H1
theorem W60_wp (v0 : AV) (H : Heap) (K : AV → Heap → Prop) : wpC Try.prog tab D60 (bodyOf Try.f60) (retF tab [.tmp 2] K) (nthA [v0]) H = W60 v0 H K := by kernel_rfl
theorem W60_ok {v0 : AV} {H : Heap} {K : AV → Heap → Prop} (h : W60 v0 H K) : CallT Try.prog 60 [v0] H K :=
  CallT.of_wp (D := D60) tab_ok mixed Try.func60 (c := bodyOf Try.f60) (by kernel_rfl) rfl (by kernel_rfl) (rs := #[.tmp 2]) rfl (by decide +kernel) (by kernel_rfl) (W60_wp v0 H K) h
theorem L60_0_rule {K : AV → Heap → Prop} {v0 v3 v4 : AV} {H : Heap} {σ : Type} (s0 : σ) (f4 : σ → AV) (TH : σ → Heap) (pre : σ → Prop) (μ : σ → Nat)
    (h0 : pre s0 ∧ AV.wk v4 (f4 s0) ∧ Heap.le (TH s0) H)
    (round : ∀ s, pre s → B60_0 K (fun w4 H' => ∃ s', pre s' ∧ μ s' < μ s ∧ AV.wk w4 (f4 s') ∧ Heap.le (TH s') H') v0 v3 (f4 s) (TH s)) :
    L60_0 K v0 v3 v4 H := by
  unfold L60_0
  exact LoopV.mk s0 (fun s => [f4 s]) TH pre μ (fun _ => rfl) (Eq.mp (by kernel_rfl) h0) (fun s hs => Eq.mp (by kernel_rfl) (round s hs))
/-- loop.example/g00649/impl.GoodProgram -/
def D61 : Info := ⟨37, fun i => ([], []), fun i => ([], [])⟩
def W61 (v0 : AV) (H : Heap) (K : AV → Heap → Prop) : Prop :=
 boxV v0 H fun v1 H1 =>
 fieldAddrV tab 37 v1 0 fun v3 =>
 loadV tab 3 v3 H1 fun v4 =>
 CallT Try.prog 67 [v4] H1 fun v5 H2 =>
 unV .not v5 fun v6 =>
 grdV v6 false (fieldAddrV tab 37 v1 1 fun v8 =>
 loadV tab 3 v8 H2 fun v9 =>
 CallT Try.prog 68 [v9] H2 fun v10 H3 =>
 unV .not v10 fun v11 =>
 grdV v11 false (loadV tab 37 v1 H3 fun v14 =>
 fieldAddrV tab 37 v1 2 fun v15 =>
 loadV tab 34 v15 H3 fun v16 =>
 CallT Try.prog 69 [v14, v16] H3 fun v17 H4 =>
 unV .not v17 fun v18 =>
 grdV v18 false (fieldAddrV tab 37 v1 3 fun v21 =>
 loadV tab 35 v21 H4 fun v22 =>
 lenV tab 35 v22 fun v23 =>
 binV tab .lss 3 v23 (AV.p (.int .i64 1)) fun v24 =>
 grdV v24 false (fieldAddrV tab 37 v1 3 fun v27 =>
 loadV tab 35 v27 H4 fun v28 =>
 lenV tab 35 v28 fun v29 =>
 binV tab .gtr 3 v29 (AV.p (.int .i64 6)) fun v30 =>
 condV v30 (K (AV.p (.bool false)) H4)
 (fieldAddrV tab 37 v1 3 fun v32 =>
 loadV tab 35 v32 H4 fun v33 =>
 CallT Try.prog 70 [v33, (.fn 71 [v1])] H4 fun v35 H5 =>
 unV .not v35 fun v36 =>
 K v36 H5))
 (K (AV.p (.bool false)) H4))
 (K (AV.p (.bool false)) H4))
 (K (AV.p (.bool false)) H3))
 (K (AV.p (.bool false)) H2)
theorem W61_wp (v0 : AV) (H : Heap) (K : AV → Heap → Prop) : wpC Try.prog tab D61 (bodyOf Try.f61) (retF tab [.tmp 2] K) (nthA [v0]) H = W61 v0 H K := by kernel_rfl
theorem W61_ok {v0 : AV} {H : Heap} {K : AV → Heap → Prop} (h : W61 v0 H K) : CallT Try.prog 61 [v0] H K :=
  CallT.of_wp (D := D61) tab_ok mixed Try.func61 (c := bodyOf Try.f61) (by kernel_rfl) rfl (by kernel_rfl) (rs := #[.tmp 2]) rfl (by decide +kernel) (by kernel_rfl) (W61_wp v0 H K) h
/-- loop.example/g00649/laws.eqChangeS -/
def D62 : Info := ⟨27, fun i => if i = 6 then ([[], [], [0, 1], [0, 1, 2], [], [], [4, 5], [4, 5, 6], [0, 1, 2, 3, 4, 5, 6, 7], [0, 1, 2, 3, 4, 5, 6, 7, 8]], [(0, []), (1, []), (2, []), (3, []), (4, []), (5, []), (6, []), (7, []), (8, []), (9, [])]) else ([], []), fun i => if i = 4 then ([0, 1], [5]) else ([], [])⟩
def L62_0 (K : AV → Heap → Prop) (v0 : AV) (v1 : AV) (v5 : AV) (H : Heap) : Prop := LoopV (wpC Try.prog tab D62 (cAt [1, 1, 0, 1, 0, 0] (bodyOf Try.f62))) [0, 1] (PostF.block 0 (PostF.thenA (wpC Try.prog tab D62 (cAt [1, 1, 1] (bodyOf Try.f62))) (retF tab [.tmp 4] K))) [5] [v0, v1, AV.any, AV.any, AV.any, v5, AV.any, AV.any, AV.any, AV.any, AV.any, AV.any, AV.any, AV.any, AV.any, AV.any, AV.any, AV.any, AV.any, AV.any, AV.any, AV.any, AV.any, AV.any, AV.any, AV.any, AV.any] H
def B62_0 (K : AV → Heap → Prop) (N1 : AV → Heap → Prop) (v0 : AV) (v1 : AV) (v5 : AV) (H : Heap) : Prop :=
 lenV tab 79 v0 fun v13 =>
 binV tab .lss 3 v5 v13 fun v14 =>
 condV v14 (indexAddrV tab 79 v0 v5 fun v19 =>
 loadV tab 97 v19 H fun v20 =>
 indexAddrV tab 79 v1 v5 fun v23 =>
 loadV tab 97 v23 H fun v24 =>
 CallT Try.prog 73 [v20, v24] H fun v25 H1 =>
 unV .not v25 fun v26 =>
 condV v26 (K (AV.p (.bool false)) H1)
 (binV tab .add 3 v5 (AV.p (.int .i64 1)) fun v16 =>
 N1 v16 H1))
 (K (AV.p (.bool true)) H)
def W62 (v0 : AV) (v1 : AV) (H : Heap) (K : AV → Heap → Prop) : Prop :=
 lenV tab 79 v0 fun v7 =>
 lenV tab 79 v1 fun v9 =>
 binV tab .neq 3 v7 v9 fun v10 =>
 condV v10 (K (AV.p (.bool false)) H)
 (L62_0 K v0 v1 (AV.p (.int .i64 0)) H)
theorem W62_wp (v0 : AV) (v1 : AV) (H : Heap) (K : AV → Heap → Prop) : wpC Try.prog tab D62 (bodyOf Try.f62) (retF tab [.tmp 4] K) (nthA [v0, v1]) H = W62 v0 v1 H K := by kernel_rfl
theorem W62_ok {v0 v1 : AV} {H : Heap} {K : AV → Heap → Prop} (h : W62 v0 v1 H K) : CallT Try.prog 62 [v0, v1] H K :=
  CallT.of_wp (D := D62) tab_ok mixed Try.func62 (c := bodyOf Try.f62) (by kernel_rfl) rfl (by kernel_rfl) (rs := #[.tmp 4]) rfl (by decide +kernel) (by kernel_rfl) (W62_wp v0 v1 H K) h
theorem L62_0_rule {K : AV → Heap → Prop} {v0 v1 v5 : AV} {H : Heap} {σ : Type} (s0 : σ) (f5 : σ → AV) (TH : σ → Heap) (pre : σ → Prop) (μ : σ → Nat)
    (h0 : pre s0 ∧ AV.wk v5 (f5 s0) ∧ Heap.le (TH s0) H)
    (round : ∀ s, pre s → B62_0 K (fun w5 H' => ∃ s', pre s' ∧ μ s' < μ s ∧ AV.wk w5 (f5 s') ∧ Heap.le (TH s') H') v0 v1 (f5 s) (TH s)) :
    L62_0 K v0 v1 v5 H := by
  unfold L62_0
  exact LoopV.mk s0 (fun s => [f5 s]) TH pre μ (fun _ => rfl) (Eq.mp (by kernel_rfl) h0) (fun s hs => Eq.mp (by kernel_rfl) (round s hs))
/-- loop.example/g00649/laws.szChange -/
def D63 : Info := ⟨12, fun i => ([], []), fun i => ([], [])⟩
def W63 (v0 : AV) (v1 : AV) (H : Heap) (K : AV → Heap → Prop) : Prop :=
 boxV v0 H fun v2 H1 =>
 fieldAddrV tab 100 v2 1 fun v5 =>
 loadV tab 22 v5 H1 fun v6 =>
 CallT Try.prog 24 [v6, v1] H1 fun v8 H2 =>
 binV tab .lss 3 v8 (AV.p (.int .i64 0)) fun v10 =>
 condV v10 (K (AV.p (.int .i64 (-1))) H2)
 (K v8 H2)
theorem W63_wp (v0 : AV) (v1 : AV) (H : Heap) (K : AV → Heap → Prop) : wpC Try.prog tab D63 (bodyOf Try.f63) (retF tab [.tmp 4] K) (nthA [v0, v1]) H = W63 v0 v1 H K := by kernel_rfl
theorem W63_ok {v0 v1 : AV} {H : Heap} {K : AV → Heap → Prop} (h : W63 v0 v1 H K) : CallT Try.prog 63 [v0, v1] H K :=
  CallT.of_wp (D := D63) tab_ok mixed Try.func63 (c := bodyOf Try.f63) (by kernel_rfl) rfl (by kernel_rfl) (rs := #[.tmp 4]) rfl (by decide +kernel) (by kernel_rfl) (W63_wp v0 v1 H K) h
/-- loop.example/g00649/spec.l7Asks -/
def D64 : Info := ⟨12, fun i => ([], []), fun i => ([], [])⟩
def W64 (v0 : AV) (v1 : AV) (H : Heap) (K : AV → Heap → Prop) : Prop :=
 boxV v0 H fun v2 H1 =>
 fieldAddrV tab 37 v2 0 fun v5 =>
 loadV tab 3 v5 H1 fun v6 =>
 fieldAddrV tab 37 v2 1 fun v7 =>
 loadV tab 3 v7 H1 fun v8 =>
 CallT Try.prog 74 [v6, v8, v1] H1 fun v10 H2 =>
 binV tab .eql 3 v10 (AV.p (.int .i64 2)) fun v11 =>
 K v11 H2
theorem W64_wp (v0 : AV) (v1 : AV) (H : Heap) (K : AV → Heap → Prop) : wpC Try.prog tab D64 (bodyOf Try.f64) (retF tab [.tmp 4] K) (nthA [v0, v1]) H = W64 v0 v1 H K := by kernel_rfl
theorem W64_ok {v0 v1 : AV} {H : Heap} {K : AV → Heap → Prop} (h : W64 v0 v1 H K) : CallT Try.prog 64 [v0, v1] H K :=
  CallT.of_wp (D := D64) tab_ok mixed Try.func64 (c := bodyOf Try.f64) (by kernel_rfl) rfl (by kernel_rfl) (rs := #[.tmp 4]) rfl (by decide +kernel) (by kernel_rfl) (W64_wp v0 v1 H K) h
end Go.Proofs.Ytdnfiacjoghfkaa
/- What each function's code is asked for, as a formula. Written by wgen.py (a program of this session's) out of Lean's print of the program. -/
namespace Go.Proofs.Ytdnfiacjoghfkaa
open Go Go.Sep
set_option linter.unusedVariables false
attribute [local irreducible] wpC headF
/-- loop.example/g00649/spec.l7Command -/
def D65 : Info := ⟨62, fun i => if i = 6 then ([[], [0], [], [2], [2, 3], [0, 1, 2, 3, 4], [0, 1, 2, 3, 4, 5], [0, 1, 2, 3, 4, 5, 6], [0, 1, 2, 3, 4, 5, 6, 7], [0, 1, 2, 3, 4, 5, 6, 7, 8], [0, 1, 2, 3, 4, 5, 6, 7, 8, 9], [0, 1, 2, 3, 4, 5, 6, 7, 8, 9, 10], [0, 1, 2, 3, 4, 5, 6, 7, 8, 9, 10, 11], [0, 1, 2, 3, 4, 5, 6, 7, 8, 9, 10], [0, 1, 2, 3, 4, 5, 6, 7, 8, 9, 10, 13], [0, 1, 2, 3, 4, 5, 6, 7, 8, 9, 10, 11, 12, 13, 14], [0, 1, 2, 3, 4, 5, 6, 7, 8, 9, 10, 11, 12, 13, 14, 15], [0, 1, 2, 3, 4, 5, 6, 7, 8, 9, 10, 11, 12, 13, 14, 15, 16], [0, 1, 2, 3, 4, 5, 6, 7, 8, 9, 10], [0, 1, 2, 3, 4, 5, 6, 7, 8, 9, 10, 18], [0, 1, 2, 3, 4, 5, 6, 7, 8, 9, 10, 11, 12, 13, 14, 15, 16, 17, 18, 19], [0, 1, 2, 3, 4, 5, 6, 7, 8, 9, 10, 11, 12, 13, 14, 15, 16, 17, 18, 19, 20], [0, 1, 2, 3, 4, 5, 6, 7, 8, 9, 10, 11, 12, 13, 14, 15, 16, 17, 18, 19, 20, 21], [0, 1, 2, 3, 4, 5, 6, 7, 8, 9, 10, 11, 12, 13, 14, 15, 16, 17, 18, 19, 20, 21, 22], [0, 1, 2, 3, 4, 5, 6, 7, 8, 9, 10, 11, 12, 13, 14, 15, 16, 17, 18, 19, 20, 21, 22, 23], [0, 1, 2, 3, 4, 5, 6, 7, 8, 9, 10, 11, 12, 13, 14, 15, 16, 17, 18, 19, 20, 21, 22, 23, 24], [0, 1, 2, 3, 4, 5, 6, 7, 8, 9, 10, 11, 12, 13, 14, 15, 16, 17, 18, 19, 20, 21, 22, 23], [0, 1, 2, 3, 4, 5, 6, 7, 8, 9, 10, 11, 12, 13, 14, 15, 16, 17, 18, 19, 20, 21, 22, 23, 26], [0, 1, 2, 3, 4, 5, 6, 7, 8, 9, 10, 11, 12, 13, 14, 15, 16, 17, 18, 19, 20, 21, 22, 23], [0, 1, 2, 3, 4, 5, 6, 7, 8, 9, 10, 11, 12, 13, 14, 15, 16, 17, 18, 19, 20, 21, 22, 23, 28], [0, 1, 2, 3, 4, 5, 6, 7, 8, 9, 10, 11, 12, 13, 14, 15, 16, 17, 18, 19, 20, 21, 22, 23, 24, 25, 26, 27, 28, 29], [0, 1, 2, 3, 4, 5, 6, 7, 8, 9, 10, 11, 12, 13, 14, 15, 16, 17, 18, 19, 20, 21, 22, 23, 24, 25, 26, 27, 28, 29, 30], [0, 1, 2, 3, 4, 5, 6, 7, 8, 9, 10, 11, 12, 13, 14, 15, 16, 17, 18, 19, 20, 21, 22, 23, 24, 25, 26, 27, 28, 29, 30, 31]], [(0, []), (1, []), (2, []), (3, []), (4, []), (5, []), (6, []), (7, []), (8, []), (9, []), (10, []), (11, []), (12, []), (13, []), (14, []), (15, []), (16, []), (17, []), (18, []), (19, []), (20, []), (21, []), (22, []), (23, []), (24, []), (25, []), (26, []), (27, []), (28, []), (29, []), (30, []), (31, []), (32, [])]) else ([], []), fun i => if i = 4 then ([2, 3, 21, 22], [23]) else ([], [])⟩
def L65_0 (K : AV → Heap → Prop) (v2 : AV) (v3 : AV) (v21 : AV) (v22 : AV) (v23 : AV) (H : Heap) : Prop := LoopV (wpC Try.prog tab D65 (cAt [1, 1, 0, 1, 0, 0] (bodyOf Try.f65))) [2, 3, 21, 22] (PostF.block 0 (PostF.thenA (wpC Try.prog tab D65 (cAt [1, 1, 1] (bodyOf Try.f65))) (retF tab [.tmp 4] K))) [23] [AV.any, AV.any, v2, v3, AV.any, AV.any, AV.any, AV.any, AV.any, AV.any, AV.any, AV.any, AV.any, AV.any, AV.any, AV.any, AV.any, AV.any, AV.any, AV.any, AV.any, v21, v22, v23, AV.any, AV.any, AV.any, AV.any, AV.any, AV.any, AV.any, AV.any, AV.any, AV.any, AV.any, AV.any, AV.any, AV.any, AV.any, AV.any, AV.any, AV.any, AV.any, AV.any, AV.any, AV.any, AV.any, AV.any, AV.any, AV.any, AV.any, AV.any, AV.any, AV.any, AV.any, AV.any, AV.any, AV.any, AV.any, AV.any, AV.any, AV.any] H
def B65_0 (K : AV → Heap → Prop) (N1 : AV → Heap → Prop) (v2 : AV) (v3 : AV) (v21 : AV) (v22 : AV) (v23 : AV) (H : Heap) : Prop :=
 binV tab .lss 3 v23 v22 fun v24 =>
 condV v24 (indexAddrV tab 79 v21 v23 fun v26 =>
 loadV tab 97 v26 H fun v27 =>
 allocV tab 97 H fun v6 H4 =>
 storeV tab 97 v6 v27 H4 fun H5 =>
 fieldAddrV tab 97 v6 0 fun v28 =>
 loadV tab 3 v28 H5 fun v29 =>
 fieldAddrV tab 37 v2 1 fun v30 =>
 loadV tab 3 v30 H5 fun v31 =>
 binV tab .sub 3 v31 (AV.p (.int .i64 1)) fun v32 =>
 CallT Try.prog 48 [v29, (AV.p (.int .i64 0)), v32] H5 fun v33 H6 =>
 unV .not v33 fun v34 =>
 grdV v34 false (binV tab .gtr 3 v23 (AV.p (.int .i64 0)) fun v37 =>
 grdV v37 true (fieldAddrV tab 81 v3 1 fun v39 =>
 loadV tab 79 v39 H6 fun v40 =>
 binV tab .sub 3 v23 (AV.p (.int .i64 1)) fun v42 =>
 indexAddrV tab 79 v40 v42 fun v43 =>
 fieldAddrV tab 97 v43 0 fun v44 =>
 loadV tab 3 v44 H6 fun v45 =>
 fieldAddrV tab 97 v6 0 fun v46 =>
 loadV tab 3 v46 H6 fun v47 =>
 binV tab .geq 3 v45 v47 fun v48 =>
 grdV v48 false (fieldAddrV tab 37 v2 0 fun v52 =>
 loadV tab 3 v52 H6 fun v53 =>
 fieldAddrV tab 37 v2 1 fun v54 =>
 loadV tab 3 v54 H6 fun v55 =>
 fieldAddrV tab 97 v6 1 fun v56 =>
 loadV tab 34 v56 H6 fun v57 =>
 CallT Try.prog 74 [v53, v55, v57] H6 fun v58 H7 =>
 binV tab .neq 3 v58 (AV.p (.int .i64 1)) fun v59 =>
 condV v59 (K (AV.p (.bool false)) H7)
 (binV tab .add 3 v23 (AV.p (.int .i64 1)) fun v61 =>
 N1 v61 H7))
 (K (AV.p (.bool false)) H6))
 (fieldAddrV tab 37 v2 0 fun v52 =>
 loadV tab 3 v52 H6 fun v53 =>
 fieldAddrV tab 37 v2 1 fun v54 =>
 loadV tab 3 v54 H6 fun v55 =>
 fieldAddrV tab 97 v6 1 fun v56 =>
 loadV tab 34 v56 H6 fun v57 =>
 CallT Try.prog 74 [v53, v55, v57] H6 fun v58 H8 =>
 binV tab .neq 3 v58 (AV.p (.int .i64 1)) fun v59 =>
 condV v59 (K (AV.p (.bool false)) H8)
 (binV tab .add 3 v23 (AV.p (.int .i64 1)) fun v61 =>
 N1 v61 H8)))
 (K (AV.p (.bool false)) H6))
 (K (AV.p (.bool true)) H)
def W65 (v0 : AV) (v1 : AV) (H : Heap) (K : AV → Heap → Prop) : Prop :=
 boxV v0 H fun v2 H1 =>
 boxV v1 H1 fun v3 H2 =>
 loadV tab 37 v2 H2 fun v7 =>
 fieldAddrV tab 81 v3 0 fun v8 =>
 loadV tab 34 v8 H2 fun v9 =>
 CallT Try.prog 64 [v7, v9] H2 fun v10 H3 =>
 unV .not v10 fun v11 =>
 grdV v11 false (fieldAddrV tab 81 v3 1 fun v13 =>
 loadV tab 79 v13 H3 fun v14 =>
 lenV tab 79 v14 fun v15 =>
 fieldAddrV tab 37 v2 1 fun v16 =>
 loadV tab 3 v16 H3 fun v17 =>
 binV tab .gtr 3 v15 v17 fun v18 =>
 condV v18 (K (AV.p (.bool false)) H3)
 (fieldAddrV tab 81 v3 1 fun v20 =>
 loadV tab 79 v20 H3 fun v21 =>
 lenV tab 79 v21 fun v22 =>
 L65_0 K v2 v3 v21 v22 (AV.p (.int .i64 0)) H3))
 (K (AV.p (.bool false)) H3)
theorem W65_wp (v0 : AV) (v1 : AV) (H : Heap) (K : AV → Heap → Prop) : wpC Try.prog tab D65 (bodyOf Try.f65) (retF tab [.tmp 4] K) (nthA [v0, v1]) H = W65 v0 v1 H K := by kernel_rfl
theorem W65_ok {v0 v1 : AV} {H : Heap} {K : AV → Heap → Prop} (h : W65 v0 v1 H K) : CallT Try.prog 65 [v0, v1] H K :=
  CallT.of_wp (D := D65) tab_ok mixed Try.func65 (c := bodyOf Try.f65) (by kernel_rfl) rfl (by kernel_rfl) (rs := #[.tmp 4]) rfl (by decide +kernel) (by kernel_rfl) (W65_wp v0 v1 H K) h
theorem L65_0_rule {K : AV → Heap → Prop} {v2 v3 v21 v22 v23 : AV} {H : Heap} {σ : Type} (s0 : σ) (f23 : σ → AV) (TH : σ → Heap) (pre : σ → Prop) (μ : σ → Nat)
    (h0 : pre s0 ∧ AV.wk v23 (f23 s0) ∧ Heap.le (TH s0) H)
    (round : ∀ s, pre s → B65_0 K (fun w23 H' => ∃ s', pre s' ∧ μ s' < μ s ∧ AV.wk w23 (f23 s') ∧ Heap.le (TH s') H') v2 v3 v21 v22 (f23 s) (TH s)) :
    L65_0 K v2 v3 v21 v22 v23 H := by
  unfold L65_0
  exact LoopV.mk s0 (fun s => [f23 s]) TH pre μ (fun _ => rfl) (Eq.mp (by kernel_rfl) h0) (fun s hs => Eq.mp (by kernel_rfl) (round s hs))
/-- loop.example/g00649/laws.toChange -/
def D66 : Info := ⟨12, fun i => ([], []), fun i => ([], [])⟩
def W66 (v0 : AV) (H : Heap) (K : AV → Heap → Prop) : Prop :=
 boxV v0 H fun v1 H1 =>
 allocV tab 97 H1 fun v2 H2 =>
 allocV tab 97 H2 fun v3 H3 =>
 fieldAddrV tab 100 v1 0 fun v4 =>
 loadV tab 3 v4 H3 fun v5 =>
 fieldAddrV tab 97 v3 0 fun v6 =>
 storeV tab 3 v6 v5 H3 fun H4 =>
 fieldAddrV tab 100 v1 1 fun v7 =>
 loadV tab 22 v7 H4 fun v8 =>
 CallT Try.prog 29 [v8] H4 fun v9 H5 =>
 fieldAddrV tab 97 v3 1 fun v10 =>
 storeV tab 34 v10 v9 H5 fun H6 =>
 loadV tab 97 v3 H6 fun v11 =>
 storeV tab 97 v2 v11 H6 fun H7 =>
 loadV tab 97 v2 H7 fun r0 =>
 K r0 H7
theorem W66_wp (v0 : AV) (H : Heap) (K : AV → Heap → Prop) : wpC Try.prog tab D66 (bodyOf Try.f66) (retF tab [.cell 2 97] K) (nthA [v0]) H = W66 v0 H K := by kernel_rfl
theorem W66_ok {v0 : AV} {H : Heap} {K : AV → Heap → Prop} (h : W66 v0 H K) : CallT Try.prog 66 [v0] H K :=
  CallT.of_wp (D := D66) tab_ok mixed Try.func66 (c := bodyOf Try.f66) (by kernel_rfl) rfl (by kernel_rfl) (rs := #[.cell 2 97]) rfl (by decide +kernel) (by kernel_rfl) (W66_wp v0 H K) h
/-- loop.example/g00649/impl.isWide -/
def D67 : Info := ⟨9, fun i => ([], []), fun i => ([], [])⟩
def W67 (v0 : AV) (H : Heap) (K : AV → Heap → Prop) : Prop :=
 binV tab .geq 3 v0 (AV.p (.int .i64 1)) fun v4 =>
 grdV v4 true (binV tab .leq 3 v0 (AV.p (.int .i64 64)) fun v7 =>
 K v7 H)
 (K (AV.p (.bool false)) H)
theorem W67_wp (v0 : AV) (H : Heap) (K : AV → Heap → Prop) : wpC Try.prog tab D67 (bodyOf Try.f67) (retF tab [.tmp 2] K) (nthA [v0]) H = W67 v0 H K := by kernel_rfl
theorem W67_ok {v0 : AV} {H : Heap} {K : AV → Heap → Prop} (h : W67 v0 H K) : CallT Try.prog 67 [v0] H K :=
  CallT.of_wp (D := D67) tab_ok mixed Try.func67 (c := bodyOf Try.f67) (by kernel_rfl) rfl (by kernel_rfl) (rs := #[.tmp 2]) rfl (by decide +kernel) (by kernel_rfl) (W67_wp v0 H K) h
/-- loop.example/g00649/impl.isVars -/
def D68 : Info := ⟨9, fun i => ([], []), fun i => ([], [])⟩
def W68 (v0 : AV) (H : Heap) (K : AV → Heap → Prop) : Prop :=
 binV tab .geq 3 v0 (AV.p (.int .i64 1)) fun v4 =>
 grdV v4 true (binV tab .leq 3 v0 (AV.p (.int .i64 4)) fun v7 =>
 K v7 H)
 (K (AV.p (.bool false)) H)
theorem W68_wp (v0 : AV) (H : Heap) (K : AV → Heap → Prop) : wpC Try.prog tab D68 (bodyOf Try.f68) (retF tab [.tmp 2] K) (nthA [v0]) H = W68 v0 H K := by kernel_rfl
theorem W68_ok {v0 : AV} {H : Heap} {K : AV → Heap → Prop} (h : W68 v0 H K) : CallT Try.prog 68 [v0] H K :=
  CallT.of_wp (D := D68) tab_ok mixed Try.func68 (c := bodyOf Try.f68) (by kernel_rfl) rfl (by kernel_rfl) (rs := #[.tmp 2]) rfl (by decide +kernel) (by kernel_rfl) (W68_wp v0 H K) h
/-- (loop.example/g00649/impl.Program).isCondition -/
def D69 : Info := ⟨11, fun i => ([], []), fun i => ([], [])⟩
def W69 (v0 : AV) (v1 : AV) (H : Heap) (K : AV → Heap → Prop) : Prop :=
 boxV v0 H fun v2 H1 =>
 fieldAddrV tab 37 v2 0 fun v5 =>
 loadV tab 3 v5 H1 fun v6 =>
 fieldAddrV tab 37 v2 1 fun v7 =>
 loadV tab 3 v7 H1 fun v8 =>
 CallT Try.prog 75 [v6, v8, v1, (AV.p (.int .i64 2))] H1 fun v10 H2 =>
 K v10 H2
theorem W69_wp (v0 : AV) (v1 : AV) (H : Heap) (K : AV → Heap → Prop) : wpC Try.prog tab D69 (bodyOf Try.f69) (retF tab [.tmp 4] K) (nthA [v0, v1]) H = W69 v0 v1 H K := by kernel_rfl
theorem W69_ok {v0 v1 : AV} {H : Heap} {K : AV → Heap → Prop} (h : W69 v0 v1 H K) : CallT Try.prog 69 [v0, v1] H K :=
  CallT.of_wp (D := D69) tab_ok mixed Try.func69 (c := bodyOf Try.f69) (by kernel_rfl) rfl (by kernel_rfl) (rs := #[.tmp 4]) rfl (by decide +kernel) (by kernel_rfl) (W69_wp v0 v1 H K) h
/-- slices.ContainsFunc[[]loop.example/g00649/impl.Command,loop.example/g00649/impl.Command] -/
def D70 : Info := ⟨9, fun i => ([], []), fun i => ([], [])⟩
def W70 (v0 : AV) (v1 : AV) (H : Heap) (K : AV → Heap → Prop) : Prop :=
 CallT Try.prog 76 [v0, v1] H fun v7 H1 =>
 binV tab .geq 3 v7 (AV.p (.int .i64 0)) fun v8 =>
 K v8 H1
theorem W70_wp (v0 : AV) (v1 : AV) (H : Heap) (K : AV → Heap → Prop) : wpC Try.prog tab D70 (bodyOf Try.f70) (retF tab [.tmp 4] K) (nthA [v0, v1]) H = W70 v0 v1 H K := by kernel_rfl
theorem W70_ok {v0 v1 : AV} {H : Heap} {K : AV → Heap → Prop} (h : W70 v0 v1 H K) : CallT Try.prog 70 [v0, v1] H K :=
  CallT.of_wp (D := D70) tab_ok mixed Try.func70 (c := bodyOf Try.f70) (by kernel_rfl) rfl (by kernel_rfl) (rs := #[.tmp 4]) rfl (by decide +kernel) (by kernel_rfl) (W70_wp v0 v1 H K) h
/-- loop.example/g00649/impl.GoodProgram$1 -/
def D71 : Info := ⟨8, fun i => ([], []), fun i => ([], [])⟩
def W71 (v0 : AV) (v1 : AV) (H : Heap) (K : AV → Heap → Prop) : Prop :=
 boxV v0 H fun v2 H1 =>
 loadV tab 37 v1 H1 fun v4 =>
 loadV tab 81 v2 H1 fun v5 =>
 CallT Try.prog 72 [v4, v5] H1 fun v6 H2 =>
 unV .not v6 fun v7 =>
 K v7 H2
theorem W71_wp (v0 : AV) (v1 : AV) (H : Heap) (K : AV → Heap → Prop) : wpC Try.prog tab D71 (bodyOf Try.f71) (retF tab [.tmp 3] K) (nthA [v0, v1]) H = W71 v0 v1 H K := by kernel_rfl
theorem W71_ok {v0 v1 : AV} {H : Heap} {K : AV → Heap → Prop} (h : W71 v0 v1 H K) : CallT Try.prog 71 [v0, v1] H K :=
  CallT.of_wp (D := D71) tab_ok mixed Try.func71 (c := bodyOf Try.f71) (by kernel_rfl) rfl (by kernel_rfl) (rs := #[.tmp 3]) rfl (by decide +kernel) (by kernel_rfl) (W71_wp v0 v1 H K) h
/-- (loop.example/g00649/impl.Program).isCommand -/
def D72 : Info := ⟨57, fun i => if i = 6 then ([[], [0], [0, 1], [0, 1, 2], [0, 1, 2, 3], [0, 1, 2, 3, 4], [0, 1, 2, 3], [0, 1, 2, 3, 6], [0, 1, 2, 3, 4, 5, 6, 7], [0, 1, 2, 3, 4, 5, 6, 7, 8], [0, 1, 2, 3, 4, 5, 6, 7, 8, 9], [0, 1, 2, 3, 4, 5, 6, 7, 8, 9, 10], [0, 1, 2, 3, 4, 5, 6, 7, 8, 9, 10, 11], [0, 1, 2, 3, 4, 5, 6, 7, 8, 9, 10, 11, 12], [0, 1, 2, 3, 4, 5, 6, 7, 8, 9, 10, 11, 12, 13], [0, 1, 2, 3, 4, 5, 6, 7, 8, 9, 10, 11, 12, 13, 14], [0, 1, 2, 3, 4, 5, 6, 7, 8, 9, 10, 11, 12, 13], [0, 1, 2, 3, 4, 5, 6, 7, 8, 9, 10, 11, 12, 13, 16], [0, 1, 2, 3, 4, 5, 6, 7, 8, 9, 10, 11, 12, 13, 14, 15, 16, 17], [0, 1, 2, 3, 4, 5, 6, 7, 8, 9, 10, 11, 12, 13, 14, 15, 16, 17, 18], [0, 1, 2, 3, 4, 5, 6, 7, 8, 9, 10, 11, 12, 13, 14, 15, 16, 17, 18, 19], [0, 1, 2, 3, 4, 5, 6, 7, 8, 9, 10, 11, 12, 13], [0, 1, 2, 3, 4, 5, 6, 7, 8, 9, 10, 11, 12, 13, 21], [0, 1, 2, 3, 4, 5, 6, 7, 8, 9, 10, 11, 12, 13, 14, 15, 16, 17, 18, 19, 20, 21, 22], [0, 1, 2, 3, 4, 5, 6, 7, 8, 9, 10, 11, 12, 13, 14, 15, 16, 17, 18, 19, 20, 21, 22, 23], [0, 1, 2, 3, 4, 5, 6, 7, 8, 9, 10, 11, 12, 13, 14, 15, 16, 17, 18, 19, 20, 21, 22, 23, 24], [0, 1, 2, 3, 4, 5, 6, 7, 8, 9, 10, 11, 12, 13, 14, 15, 16, 17, 18, 19, 20, 21, 22, 23, 24, 25], [0, 1, 2, 3, 4, 5, 6, 7, 8, 9, 10, 11, 12, 13, 14, 15, 16, 17, 18, 19, 20, 21, 22, 23, 24, 25, 26], [0, 1, 2, 3, 4, 5, 6, 7, 8, 9, 10, 11, 12, 13, 14, 15, 16, 17, 18, 19, 20, 21, 22, 23, 24, 25, 26, 27], [0, 1, 2, 3, 4, 5, 6, 7, 8, 9, 10, 11, 12, 13, 14, 15, 16, 17, 18, 19, 20, 21, 22, 23, 24, 25, 26], [0, 1, 2, 3, 4, 5, 6, 7, 8, 9, 10, 11, 12, 13, 14, 15, 16, 17, 18, 19, 20, 21, 22, 23, 24, 25, 26, 29], [0, 1, 2, 3, 4, 5, 6, 7, 8, 9, 10, 11, 12, 13, 14, 15, 16, 17, 18, 19, 20, 21, 22, 23, 24, 25, 26], [0, 1, 2, 3, 4, 5, 6, 7, 8, 9, 10, 11, 12, 13, 14, 15, 16, 17, 18, 19, 20, 21, 22, 23, 24, 25, 26, 31], [0, 1, 2, 3, 4, 5, 6, 7, 8, 9, 10, 11, 12, 13, 14, 15, 16, 17, 18, 19, 20, 21, 22, 23, 24, 25, 26, 27, 28, 29, 30, 31, 32], [0, 1, 2, 3, 4, 5, 6, 7, 8, 9, 10, 11, 12, 13, 14, 15, 16, 17, 18, 19, 20, 21, 22, 23, 24, 25, 26, 27, 28, 29, 30, 31, 32, 33], [0, 1, 2, 3, 4, 5, 6, 7, 8, 9, 10, 11, 12, 13, 14, 15, 16, 17, 18, 19, 20, 21, 22, 23, 24, 25, 26, 27, 28, 29, 30, 31, 32, 33, 34]], [(0, []), (1, []), (2, []), (3, []), (4, []), (5, []), (6, []), (7, []), (8, []), (9, []), (10, []), (11, []), (12, []), (13, []), (14, []), (15, []), (16, []), (17, []), (18, []), (19, []), (20, []), (21, []), (22, []), (23, []), (24, []), (25, []), (26, []), (27, []), (28, []), (29, []), (30, []), (31, []), (32, []), (33, []), (34, []), (35, [])]) else ([], []), fun i => if i = 4 then ([2, 3, 13, 14], [15]) else ([], [])⟩
def L72_0 (K : AV → Heap → Prop) (v2 : AV) (v3 : AV) (v13 : AV) (v14 : AV) (v15 : AV) (H : Heap) : Prop := LoopV (wpC Try.prog tab D72 (cAt [1, 1, 0, 1, 0, 0] (bodyOf Try.f72))) [2, 3, 13, 14] (PostF.block 0 (PostF.thenA (wpC Try.prog tab D72 (cAt [1, 1, 1] (bodyOf Try.f72))) (retF tab [.tmp 4] K))) [15] [AV.any, AV.any, v2, v3, AV.any, AV.any, AV.any, AV.any, AV.any, AV.any, AV.any, AV.any, AV.any, v13, v14, v15, AV.any, AV.any, AV.any, AV.any, AV.any, AV.any, AV.any, AV.any, AV.any, AV.any, AV.any, AV.any, AV.any, AV.any, AV.any, AV.any, AV.any, AV.any, AV.any, AV.any, AV.any, AV.any, AV.any, AV.any, AV.any, AV.any, AV.any, AV.any, AV.any, AV.any, AV.any, AV.any, AV.any, AV.any, AV.any, AV.any, AV.any, AV.any, AV.any, AV.any, AV.any] H
def B72_0 (K : AV → Heap → Prop) (N1 : AV → Heap → Prop) (v2 : AV) (v3 : AV) (v13 : AV) (v14 : AV) (v15 : AV) (H : Heap) : Prop :=
 binV tab .lss 3 v15 v14 fun v16 =>
 condV v16 (indexAddrV tab 79 v13 v15 fun v18 =>
 loadV tab 97 v18 H fun v19 =>
 allocV tab 97 H fun v6 H4 =>
 storeV tab 97 v6 v19 H4 fun H5 =>
 fieldAddrV tab 97 v6 0 fun v20 =>
 loadV tab 3 v20 H5 fun v21 =>
 binV tab .lss 3 v21 (AV.p (.int .i64 0)) fun v22 =>
 grdV v22 false (fieldAddrV tab 97 v6 0 fun v24 =>
 loadV tab 3 v24 H5 fun v25 =>
 fieldAddrV tab 37 v2 1 fun v26 =>
 loadV tab 3 v26 H5 fun v27 =>
 binV tab .geq 3 v25 v27 fun v28 =>
 grdV v28 false (binV tab .gtr 3 v15 (AV.p (.int .i64 0)) fun v32 =>
 grdV v32 true (fieldAddrV tab 81 v3 1 fun v34 =>
 loadV tab 79 v34 H5 fun v35 =>
 binV tab .sub 3 v15 (AV.p (.int .i64 1)) fun v37 =>
 indexAddrV tab 79 v35 v37 fun v38 =>
 fieldAddrV tab 97 v38 0 fun v39 =>
 loadV tab 3 v39 H5 fun v40 =>
 fieldAddrV tab 97 v6 0 fun v41 =>
 loadV tab 3 v41 H5 fun v42 =>
 binV tab .geq 3 v40 v42 fun v43 =>
 grdV v43 false (fieldAddrV tab 37 v2 0 fun v47 =>
 loadV tab 3 v47 H5 fun v48 =>
 fieldAddrV tab 37 v2 1 fun v49 =>
 loadV tab 3 v49 H5 fun v50 =>
 fieldAddrV tab 97 v6 1 fun v51 =>
 loadV tab 34 v51 H5 fun v52 =>
 CallT Try.prog 75 [v48, v50, v52, (AV.p (.int .i64 1))] H5 fun v53 H6 =>
 unV .not v53 fun v54 =>
 condV v54 (K (AV.p (.bool false)) H6)
 (binV tab .add 3 v15 (AV.p (.int .i64 1)) fun v56 =>
 N1 v56 H6))
 (K (AV.p (.bool false)) H5))
 (fieldAddrV tab 37 v2 0 fun v47 =>
 loadV tab 3 v47 H5 fun v48 =>
 fieldAddrV tab 37 v2 1 fun v49 =>
 loadV tab 3 v49 H5 fun v50 =>
 fieldAddrV tab 97 v6 1 fun v51 =>
 loadV tab 34 v51 H5 fun v52 =>
 CallT Try.prog 75 [v48, v50, v52, (AV.p (.int .i64 1))] H5 fun v53 H7 =>
 unV .not v53 fun v54 =>
 condV v54 (K (AV.p (.bool false)) H7)
 (binV tab .add 3 v15 (AV.p (.int .i64 1)) fun v56 =>
 N1 v56 H7)))
 (K (AV.p (.bool false)) H5))
 (K (AV.p (.bool false)) H5))
 (K (AV.p (.bool true)) H)
def W72 (v0 : AV) (v1 : AV) (H : Heap) (K : AV → Heap → Prop) : Prop :=
 boxV v0 H fun v2 H1 =>
 boxV v1 H1 fun v3 H2 =>
 loadV tab 37 v2 H2 fun v7 =>
 fieldAddrV tab 81 v3 0 fun v8 =>
 loadV tab 34 v8 H2 fun v9 =>
 CallT Try.prog 69 [v7, v9] H2 fun v10 H3 =>
 unV .not v10 fun v11 =>
 condV v11 (K (AV.p (.bool false)) H3)
 (fieldAddrV tab 81 v3 1 fun v12 =>
 loadV tab 79 v12 H3 fun v13 =>
 lenV tab 79 v13 fun v14 =>
 L72_0 K v2 v3 v13 v14 (AV.p (.int .i64 0)) H3)
theorem W72_wp (v0 : AV) (v1 : AV) (H : Heap) (K : AV → Heap → Prop) : wpC Try.prog tab D72 (bodyOf Try.f72) (retF tab [.tmp 4] K) (nthA [v0, v1]) H = W72 v0 v1 H K := by kernel_rfl
theorem W72_ok {v0 v1 : AV} {H : Heap} {K : AV → Heap → Prop} (h : W72 v0 v1 H K) : CallT Try.prog 72 [v0, v1] H K :=
  CallT.of_wp (D := D72) tab_ok mixed Try.func72 (c := bodyOf Try.f72) (by kernel_rfl) rfl (by kernel_rfl) (rs := #[.tmp 4]) rfl (by decide +kernel) (by kernel_rfl) (W72_wp v0 v1 H K) h
theorem L72_0_rule {K : AV → Heap → Prop} {v2 v3 v13 v14 v15 : AV} {H : Heap} {σ : Type} (s0 : σ) (f15 : σ → AV) (TH : σ → Heap) (pre : σ → Prop) (μ : σ → Nat)
    (h0 : pre s0 ∧ AV.wk v15 (f15 s0) ∧ Heap.le (TH s0) H)
    (round : ∀ s, pre s → B72_0 K (fun w15 H' => ∃ s', pre s' ∧ μ s' < μ s ∧ AV.wk w15 (f15 s') ∧ Heap.le (TH s') H') v2 v3 v13 v14 (f15 s) (TH s)) :
    L72_0 K v2 v3 v13 v14 v15 H := by
  unfold L72_0
  exact LoopV.mk s0 (fun s => [f15 s]) TH pre μ (fun _ => rfl) (Eq.mp (by kernel_rfl) h0) (fun s hs => Eq.mp (by kernel_rfl) (round s hs))
/-- loop.example/g00649/laws.eqChange -/
def D73 : Info := ⟨16, fun i => ([], []), fun i => ([], [])⟩
def W73 (v0 : AV) (v1 : AV) (H : Heap) (K : AV → Heap → Prop) : Prop :=
 boxV v0 H fun v2 H1 =>
 boxV v1 H1 fun v3 H2 =>
 fieldAddrV tab 97 v2 0 fun v5 =>
 loadV tab 3 v5 H2 fun v6 =>
 fieldAddrV tab 97 v3 0 fun v7 =>
 loadV tab 3 v7 H2 fun v8 =>
 binV tab .neq 3 v6 v8 fun v9 =>
 condV v9 (K (AV.p (.bool false)) H2)
 (fieldAddrV tab 97 v2 1 fun v10 =>
 loadV tab 34 v10 H2 fun v11 =>
 fieldAddrV tab 97 v3 1 fun v12 =>
 loadV tab 34 v12 H2 fun v13 =>
 CallT Try.prog 33 [v11, v13] H2 fun v14 H3 =>
 unV .not v14 fun v15 =>
 condV v15 (K (AV.p (.bool false)) H3)
 (K (AV.p (.bool true)) H3))
theorem W73_wp (v0 : AV) (v1 : AV) (H : Heap) (K : AV → Heap → Prop) : wpC Try.prog tab D73 (bodyOf Try.f73) (retF tab [.tmp 4] K) (nthA [v0, v1]) H = W73 v0 v1 H K := by kernel_rfl
theorem W73_ok {v0 v1 : AV} {H : Heap} {K : AV → Heap → Prop} (h : W73 v0 v1 H K) : CallT Try.prog 73 [v0, v1] H K :=
  CallT.of_wp (D := D73) tab_ok mixed Try.func73 (c := bodyOf Try.f73) (by kernel_rfl) rfl (by kernel_rfl) (rs := #[.tmp 4]) rfl (by decide +kernel) (by kernel_rfl) (W73_wp v0 v1 H K) h
/-- loop.example/g00649/spec.l2Kind -/
def D74 : Info := ⟨83, fun i => ([], []), fun i => if i = 5 then ([0, 1, 27, 28], [7, 29]) else if i = 10 then ([0, 1, 11, 12, 27, 28, 29], [7, 10]) else ([], [])⟩
def L74_0 (K : AV → Heap → Prop) (v0 : AV) (v1 : AV) (v7 : AV) (v27 : AV) (v28 : AV) (v29 : AV) (H : Heap) : Prop := LoopV (wpC Try.prog tab D74 (cAt [1, 1, 1, 0, 1, 0, 0] (bodyOf Try.f74))) [0, 1, 27, 28] (PostF.block 0 (PostF.thenA (wpC Try.prog tab D74 (cAt [1, 1, 1, 1] (bodyOf Try.f74))) (retF tab [.tmp 6] K))) [7, 29] [v0, v1, AV.any, AV.any, AV.any, AV.any, AV.any, v7, AV.any, AV.any, AV.any, AV.any, AV.any, AV.any, AV.any, AV.any, AV.any, AV.any, AV.any, AV.any, AV.any, AV.any, AV.any, AV.any, AV.any, AV.any, AV.any, v27, v28, v29, AV.any, AV.any, AV.any, AV.any, AV.any, AV.any, AV.any, AV.any, AV.any, AV.any, AV.any, AV.any, AV.any, AV.any, AV.any, AV.any, AV.any, AV.any, AV.any, AV.any, AV.any, AV.any, AV.any, AV.any, AV.any, AV.any, AV.any, AV.any, AV.any, AV.any, AV.any, AV.any, AV.any, AV.any, AV.any, AV.any, AV.any, AV.any, AV.any, AV.any, AV.any, AV.any, AV.any, AV.any, AV.any, AV.any, AV.any, AV.any, AV.any, AV.any, AV.any, AV.any, AV.any] H
def L74_1 (K : AV → Heap → Prop) (N1 : AV → AV → Heap → Prop) (v0 : AV) (v1 : AV) (v7 : AV) (v10 : AV) (v11 : AV) (v12 : AV) (v27 : AV) (v28 : AV) (v29 : AV) (H : Heap) : Prop := LoopV (wpC Try.prog tab D74 (cAt [1, 1, 1, 0, 1, 0, 0, 1, 1, 0, 0, 1, 1, 1, 0, 0, 0] (bodyOf Try.f74))) [0, 1, 11, 12, 27, 28, 29] (PostF.block 2 (PostF.thenA (wpC Try.prog tab D74 (cAt [1, 1, 1, 0, 1, 0, 0, 1, 1, 0, 0, 1, 1, 1, 1] (bodyOf Try.f74))) (PostF.block 1 (PostF.thenA (wpC Try.prog tab D74 (cAt [1, 1, 1, 0, 1, 0, 0, 1, 1, 1] (bodyOf Try.f74))) (loopF (PostF.block 0 (PostF.thenA (wpC Try.prog tab D74 (cAt [1, 1, 1, 1] (bodyOf Try.f74))) (retF tab [.tmp 6] K))) (fun e h => N1 (e 7) (e 29) h)))))) [7, 10] [v0, v1, AV.any, AV.any, AV.any, AV.any, AV.any, v7, AV.any, AV.any, v10, v11, v12, AV.any, AV.any, AV.any, AV.any, AV.any, AV.any, AV.any, AV.any, AV.any, AV.any, AV.any, AV.any, AV.any, AV.any, v27, v28, v29, AV.any, AV.any, AV.any, AV.any, AV.any, AV.any, AV.any, AV.any, AV.any, AV.any, AV.any, AV.any, AV.any, AV.any, AV.any, AV.any, AV.any, AV.any, AV.any, AV.any, AV.any, AV.any, AV.any, AV.any, AV.any, AV.any, AV.any, AV.any, AV.any, AV.any, AV.any, AV.any, AV.any, AV.any, AV.any, AV.any, AV.any, AV.any, AV.any, AV.any, AV.any, AV.any, AV.any, AV.any, AV.any, AV.any, AV.any, AV.any, AV.any, AV.any, AV.any, AV.any, AV.any] H
def B74_1 (K : AV → Heap → Prop) (N1 : AV → AV → Heap → Prop) (N2 : AV → AV → Heap → Prop) (v0 : AV) (v1 : AV) (v7 : AV) (v10 : AV) (v11 : AV) (v12 : AV) (v27 : AV) (v28 : AV) (v29 : AV) (H : Heap) : Prop :=
 binV tab .gtr 3 v10 (AV.p (.int .i64 0)) fun v56 =>
 condV v56 (lenV tab 26 v7 fun v61 =>
 binV tab .sub 3 v61 (AV.p (.int .i64 1)) fun v62 =>
 indexAddrV tab 26 v7 v62 fun v63 =>
 loadV tab 3 v63 H fun v64 =>
 binV tab .neq 3 v64 v11 fun v66 =>
 condV v66 (K (AV.p (.int .i64 0)) H)
 (lenV tab 26 v7 fun v69 =>
 binV tab .sub 3 v69 (AV.p (.int .i64 1)) fun v70 =>
 sliceV tab 26 v7 none (some v70) none fun v71 =>
 binV tab .sub 3 v10 (AV.p (.int .i64 1)) fun v58 =>
 N2 v71 v58 H))
 (buildSliceV tab 26 1 [(0, v12)] H (wkK fun v74 H8 =>
 appendV tab 26 26 v7 v74 H8 (wkK fun v75 H9 =>
 binV tab .add 3 v29 (AV.p (.int .i64 1)) fun v76 =>
 N1 v75 v76 H9)))
def B74_0 (K : AV → Heap → Prop) (N1 : AV → AV → Heap → Prop) (v0 : AV) (v1 : AV) (v7 : AV) (v27 : AV) (v28 : AV) (v29 : AV) (H : Heap) : Prop :=
 binV tab .lss 3 v29 v28 fun v30 =>
 condV v30 (indexAddrV tab 34 v27 v29 fun v31 =>
 loadV tab 76 v31 H fun v32 =>
 allocV tab 76 H fun v9 H4 =>
 storeV tab 76 v9 v32 H4 fun H5 =>
 fieldAddrV tab 76 v9 0 fun v34 =>
 loadV tab 3 v34 H5 fun v35 =>
 CallT Try.prog 78 [v35] H5 fun v36 H6 =>
 extractV v36 0 fun v37 =>
 extractV v36 1 fun v38 =>
 extractV v36 2 fun v39 =>
 binV tab .eql 3 v39 (AV.p (.int .i64 0)) fun v41 =>
 grdV v41 false (loadV tab 76 v9 H6 fun v45 =>
 CallT Try.prog 79 [v0, v1, v45] H6 fun v46 H7 =>
 unV .not v46 fun v47 =>
 grdV v47 false (lenV tab 26 v7 fun v51 =>
 binV tab .lss 3 v51 v37 fun v53 =>
 condV v53 (K (AV.p (.int .i64 0)) H7)
 (L74_1 K N1 v0 v1 v7 v37 v38 v39 v27 v28 v29 H7))
 (K (AV.p (.int .i64 0)) H7))
 (K (AV.p (.int .i64 0)) H6))
 (lenV tab 26 v7 fun v78 =>
 binV tab .neq 3 v78 (AV.p (.int .i64 1)) fun v79 =>
 condV v79 (K (AV.p (.int .i64 0)) H)
 (indexAddrV tab 26 v7 (AV.p (.int .i64 0)) fun v81 =>
 loadV tab 3 v81 H fun v82 =>
 K v82 H))
def W74 (v0 : AV) (v1 : AV) (v2 : AV) (H : Heap) (K : AV → Heap → Prop) : Prop :=
 CallT Try.prog 77 [v0] H fun v14 H1 =>
 unV .not v14 fun v15 =>
 grdV v15 false (CallT Try.prog 48 [v1, (AV.p (.int .i64 1)), (AV.p (.int .i64 4))] H1 fun v18 H2 =>
 unV .not v18 fun v19 =>
 grdV v19 false (lenV tab 34 v2 fun v23 =>
 CallT Try.prog 48 [v23, (AV.p (.int .i64 1)), (AV.p (.int .i64 48))] H2 fun v24 H3 =>
 unV .not v24 fun v25 =>
 condV v25 (K (AV.p (.int .i64 0)) H3)
 (lenV tab 34 v2 fun v28 =>
 L74_0 K v0 v1 (AV.p .nil) v2 v28 (AV.p (.int .i64 0)) H3))
 (K (AV.p (.int .i64 0)) H2))
 (K (AV.p (.int .i64 0)) H1)
theorem W74_wp (v0 : AV) (v1 : AV) (v2 : AV) (H : Heap) (K : AV → Heap → Prop) : wpC Try.prog tab D74 (bodyOf Try.f74) (retF tab [.tmp 6] K) (nthA [v0, v1, v2]) H = W74 v0 v1 v2 H K := by kernel_rfl
theorem W74_ok {v0 v1 v2 : AV} {H : Heap} {K : AV → Heap → Prop} (h : W74 v0 v1 v2 H K) : CallT Try.prog 74 [v0, v1, v2] H K :=
  CallT.of_wp (D := D74) tab_ok mixed Try.func74 (c := bodyOf Try.f74) (by kernel_rfl) rfl (by kernel_rfl) (rs := #[.tmp 6]) rfl (by decide +kernel) (by kernel_rfl) (W74_wp v0 v1 v2 H K) h
theorem W74_hb : HasBody Try.prog 74 := ⟨_, bodyOf Try.f74, Try.func74, by kernel_rfl, rfl⟩
theorem L74_1_rule {K : AV → Heap → Prop} {N1 : AV → AV → Heap → Prop} {v0 v1 v7 v10 v11 v12 v27 v28 v29 : AV} {H : Heap} {σ : Type} (s0 : σ) (f7 : σ → AV) (f10 : σ → AV) (TH : σ → Heap) (pre : σ → Prop) (μ : σ → Nat)
    (h0 : pre s0 ∧ AV.wk v7 (f7 s0) ∧ AV.wk v10 (f10 s0) ∧ Heap.le (TH s0) H)
    (round : ∀ s, pre s → B74_1 K N1 (fun w7 w10 H' => ∃ s', pre s' ∧ μ s' < μ s ∧ AV.wk w7 (f7 s') ∧ AV.wk w10 (f10 s') ∧ Heap.le (TH s') H') v0 v1 (f7 s) (f10 s) v11 v12 v27 v28 v29 (TH s)) :
    L74_1 K N1 v0 v1 v7 v10 v11 v12 v27 v28 v29 H := by
  unfold L74_1
  exact LoopV.mk s0 (fun s => [f7 s, f10 s]) TH pre μ (fun _ => rfl) (Eq.mp (by kernel_rfl) h0) (fun s hs => Eq.mp (by kernel_rfl) (round s hs))
theorem L74_0_rule {K : AV → Heap → Prop} {v0 v1 v7 v27 v28 v29 : AV} {H : Heap} {σ : Type} (s0 : σ) (f7 : σ → AV) (f29 : σ → AV) (TH : σ → Heap) (pre : σ → Prop) (μ : σ → Nat)
    (h0 : pre s0 ∧ AV.wk v7 (f7 s0) ∧ AV.wk v29 (f29 s0) ∧ Heap.le (TH s0) H)
    (round : ∀ s, pre s → B74_0 K (fun w7 w29 H' => ∃ s', pre s' ∧ μ s' < μ s ∧ AV.wk w7 (f7 s') ∧ AV.wk w29 (f29 s') ∧ Heap.le (TH s') H') v0 v1 (f7 s) v27 v28 (f29 s) (TH s)) :
    L74_0 K v0 v1 v7 v27 v28 v29 H := by
  unfold L74_0
  exact LoopV.mk s0 (fun s => [f7 s, f29 s]) TH pre μ (fun _ => rfl) (Eq.mp (by kernel_rfl) h0) (fun s hs => Eq.mp (by kernel_rfl) (round s hs))
/-- loop.example/g00649/impl.isTermOf -/
def D75 : Info := ⟨19, fun i => ([], []), fun i => ([], [])⟩
def W75 (v0 : AV) (v1 : AV) (v2 : AV) (v3 : AV) (H : Heap) (K : AV → Heap → Prop) : Prop :=
 CallT Try.prog 80 [v0, v1, v2] H fun v12 H1 =>
 grdV v12 true (CallT Try.prog 81 [v2] H1 fun v15 H2 =>
 binV tab .eql 3 v15 v3 fun v17 =>
 K v17 H2)
 (K (AV.p (.bool false)) H1)
theorem W75_wp (v0 : AV) (v1 : AV) (v2 : AV) (v3 : AV) (H : Heap) (K : AV → Heap → Prop) : wpC Try.prog tab D75 (bodyOf Try.f75) (retF tab [.tmp 8] K) (nthA [v0, v1, v2, v3]) H = W75 v0 v1 v2 v3 H K := by kernel_rfl
theorem W75_ok {v0 v1 v2 v3 : AV} {H : Heap} {K : AV → Heap → Prop} (h : W75 v0 v1 v2 v3 H K) : CallT Try.prog 75 [v0, v1, v2, v3] H K :=
  CallT.of_wp (D := D75) tab_ok mixed Try.func75 (c := bodyOf Try.f75) (by kernel_rfl) rfl (by kernel_rfl) (rs := #[.tmp 8]) rfl (by decide +kernel) (by kernel_rfl) (W75_wp v0 v1 v2 v3 H K) h
/-- slices.IndexFunc[[]loop.example/g00649/impl.Command,loop.example/g00649/impl.Command] -/
def D76 : Info := ⟨19, fun i => ([], []), fun i => if i = 2 then ([0, 1, 7], [8]) else ([], [])⟩
def L76_0 (K : AV → Heap → Prop) (v0 : AV) (v1 : AV) (v7 : AV) (v8 : AV) (H : Heap) : Prop := LoopV (wpC Try.prog tab D76 (cAt [1, 0, 1, 0, 0] (bodyOf Try.f76))) [0, 1, 7] (PostF.block 0 (PostF.thenA (wpC Try.prog tab D76 (cAt [1, 1] (bodyOf Try.f76))) (retF tab [.tmp 4] K))) [8] [v0, v1, AV.any, AV.any, AV.any, AV.any, AV.any, v7, v8, AV.any, AV.any, AV.any, AV.any, AV.any, AV.any, AV.any, AV.any, AV.any, AV.any] H
def B76_0 (K : AV → Heap → Prop) (N1 : AV → Heap → Prop) (v0 : AV) (v1 : AV) (v7 : AV) (v8 : AV) (H : Heap) : Prop :=
 binV tab .lss 3 v8 v7 fun v9 =>
 condV v9 (indexAddrV tab 35 v0 v8 fun v14 =>
 loadV tab 81 v14 H fun v15 =>
 callF Try.prog v1 [v15] H fun v16 H1 =>
 condV v16 (K v8 H1)
 (binV tab .add 3 v8 (AV.p (.int .i64 1)) fun v18 =>
 N1 v18 H1))
 (K (AV.p (.int .i64 (-1))) H)
def W76 (v0 : AV) (v1 : AV) (H : Heap) (K : AV → Heap → Prop) : Prop :=
 lenV tab 35 v0 fun v7 =>
 L76_0 K v0 v1 v7 (AV.p (.int .i64 0)) H
theorem W76_wp (v0 : AV) (v1 : AV) (H : Heap) (K : AV → Heap → Prop) : wpC Try.prog tab D76 (bodyOf Try.f76) (retF tab [.tmp 4] K) (nthA [v0, v1]) H = W76 v0 v1 H K := by kernel_rfl
theorem W76_ok {v0 v1 : AV} {H : Heap} {K : AV → Heap → Prop} (h : W76 v0 v1 H K) : CallT Try.prog 76 [v0, v1] H K :=
  CallT.of_wp (D := D76) tab_ok mixed Try.func76 (c := bodyOf Try.f76) (by kernel_rfl) rfl (by kernel_rfl) (rs := #[.tmp 4]) rfl (by decide +kernel) (by kernel_rfl) (W76_wp v0 v1 H K) h
theorem L76_0_rule {K : AV → Heap → Prop} {v0 v1 v7 v8 : AV} {H : Heap} {σ : Type} (s0 : σ) (f8 : σ → AV) (TH : σ → Heap) (pre : σ → Prop) (μ : σ → Nat)
    (h0 : pre s0 ∧ AV.wk v8 (f8 s0) ∧ Heap.le (TH s0) H)
    (round : ∀ s, pre s → B76_0 K (fun w8 H' => ∃ s', pre s' ∧ μ s' < μ s ∧ AV.wk w8 (f8 s') ∧ Heap.le (TH s') H') v0 v1 v7 (f8 s) (TH s)) :
    L76_0 K v0 v1 v7 v8 H := by
  unfold L76_0
  exact LoopV.mk s0 (fun s => [f8 s]) TH pre μ (fun _ => rfl) (Eq.mp (by kernel_rfl) h0) (fun s hs => Eq.mp (by kernel_rfl) (round s hs))
/-- loop.example/g00649/spec.l1Wide -/
def D77 : Info := ⟨5, fun i => ([], []), fun i => ([], [])⟩
def W77 (v0 : AV) (H : Heap) (K : AV → Heap → Prop) : Prop :=
 CallT Try.prog 48 [v0, (AV.p (.int .i64 1)), (AV.p (.int .i64 64))] H fun v4 H1 =>
 K v4 H1
theorem W77_wp (v0 : AV) (H : Heap) (K : AV → Heap → Prop) : wpC Try.prog tab D77 (bodyOf Try.f77) (retF tab [.tmp 2] K) (nthA [v0]) H = W77 v0 H K := by kernel_rfl
theorem W77_ok {v0 : AV} {H : Heap} {K : AV → Heap → Prop} (h : W77 v0 H K) : CallT Try.prog 77 [v0] H K :=
  CallT.of_wp (D := D77) tab_ok mixed Try.func77 (c := bodyOf Try.f77) (by kernel_rfl) rfl (by kernel_rfl) (rs := #[.tmp 2]) rfl (by decide +kernel) (by kernel_rfl) (W77_wp v0 H K) h
/-- loop.example/g00649/spec.l2Need -/
def D78 : Info := ⟨34, fun i => ([], []), fun i => ([], [])⟩
def W78 (v0 : AV) (H : Heap) (K : AV → Heap → Prop) : Prop :=
 binV tab .eql 3 v0 (AV.p (.int .i64 1)) fun v7 =>
 grdV v7 false (binV tab .eql 3 v0 (AV.p (.int .i64 2)) fun v10 =>
 condV v10 (K (.tup [(AV.p (.int .i64 0)), (AV.p (.int .i64 1)), (AV.p (.int .i64 1))]) H)
 (binV tab .eql 3 v0 (AV.p (.int .i64 20)) fun v14 =>
 condV v14 (K (.tup [(AV.p (.int .i64 0)), (AV.p (.int .i64 2)), (AV.p (.int .i64 2))]) H)
 (binV tab .eql 3 v0 (AV.p (.int .i64 13)) fun v17 =>
 condV v17 (K (.tup [(AV.p (.int .i64 1)), (AV.p (.int .i64 1)), (AV.p (.int .i64 1))]) H)
 (binV tab .eql 3 v0 (AV.p (.int .i64 19)) fun v20 =>
 condV v20 (K (.tup [(AV.p (.int .i64 1)), (AV.p (.int .i64 2)), (AV.p (.int .i64 2))]) H)
 (CallT Try.prog 48 [v0, (AV.p (.int .i64 3)), (AV.p (.int .i64 12))] H fun v23 H1 =>
 condV v23 (K (.tup [(AV.p (.int .i64 2)), (AV.p (.int .i64 1)), (AV.p (.int .i64 1))]) H1)
 (CallT Try.prog 48 [v0, (AV.p (.int .i64 14)), (AV.p (.int .i64 16))] H1 fun v26 H2 =>
 condV v26 (K (.tup [(AV.p (.int .i64 2)), (AV.p (.int .i64 1)), (AV.p (.int .i64 2))]) H2)
 (binV tab .eql 3 v0 (AV.p (.int .i64 17)) fun v29 =>
 grdV v29 false (binV tab .eql 3 v0 (AV.p (.int .i64 18)) fun v32 =>
 condV v32 (K (.tup [(AV.p (.int .i64 2)), (AV.p (.int .i64 2)), (AV.p (.int .i64 2))]) H2)
 (K (.tup [(AV.p (.int .i64 0)), (AV.p (.int .i64 0)), (AV.p (.int .i64 0))]) H2))
 (K (.tup [(AV.p (.int .i64 2)), (AV.p (.int .i64 2)), (AV.p (.int .i64 2))]) H2))))))))
 (K (.tup [(AV.p (.int .i64 0)), (AV.p (.int .i64 1)), (AV.p (.int .i64 1))]) H)
theorem W78_wp (v0 : AV) (H : Heap) (K : AV → Heap → Prop) : wpC Try.prog tab D78 (bodyOf Try.f78) (retF tab [.tmp 2, .tmp 3, .tmp 4] K) (nthA [v0]) H = W78 v0 H K := by kernel_rfl
theorem W78_ok {v0 : AV} {H : Heap} {K : AV → Heap → Prop} (h : W78 v0 H K) : CallT Try.prog 78 [v0] H K :=
  CallT.of_wp (D := D78) tab_ok mixed Try.func78 (c := bodyOf Try.f78) (by kernel_rfl) rfl (by kernel_rfl) (rs := #[.tmp 2, .tmp 3, .tmp 4]) rfl (by decide +kernel) (by kernel_rfl) (W78_wp v0 H K) h
/-- loop.example/g00649/spec.l2N -/
def D79 : Info := ⟨30, fun i => ([], []), fun i => ([], [])⟩
def W79 (v0 : AV) (v1 : AV) (v2 : AV) (H : Heap) (K : AV → Heap → Prop) : Prop :=
 boxV v2 H fun v5 H1 =>
 fieldAddrV tab 76 v5 0 fun v7 =>
 loadV tab 3 v7 H1 fun v8 =>
 binV tab .eql 3 v8 (AV.p (.int .i64 1)) fun v10 =>
 condV v10 (fieldAddrV tab 76 v5 1 fun v12 =>
 loadV tab 74 v12 H1 fun v13 =>
 CallT Try.prog 82 [v0, v13] H1 fun v14 H2 =>
 K v14 H2)
 (binV tab .eql 3 v8 (AV.p (.int .i64 2)) fun v16 =>
 condV v16 (fieldAddrV tab 76 v5 1 fun v17 =>
 loadV tab 74 v17 H1 fun v18 =>
 convV tab 3 74 v1 fun v20 =>
 binV tab .lss 74 v18 v20 fun v21 =>
 K v21 H1)
 (binV tab .eql 3 v8 (AV.p (.int .i64 20)) fun v23 =>
 condV v23 (fieldAddrV tab 76 v5 1 fun v24 =>
 loadV tab 74 v24 H1 fun v25 =>
 binV tab .lss 74 v25 (AV.p (.int .u64 2)) fun v26 =>
 K v26 H1)
 (fieldAddrV tab 76 v5 1 fun v27 =>
 loadV tab 74 v27 H1 fun v28 =>
 binV tab .eql 74 v28 (AV.p (.int .u64 0)) fun v29 =>
 K v29 H1)))
theorem W79_wp (v0 : AV) (v1 : AV) (v2 : AV) (H : Heap) (K : AV → Heap → Prop) : wpC Try.prog tab D79 (bodyOf Try.f79) (retF tab [.tmp 6] K) (nthA [v0, v1, v2]) H = W79 v0 v1 v2 H K := by kernel_rfl
theorem W79_ok {v0 v1 v2 : AV} {H : Heap} {K : AV → Heap → Prop} (h : W79 v0 v1 v2 H K) : CallT Try.prog 79 [v0, v1, v2] H K :=
  CallT.of_wp (D := D79) tab_ok mixed Try.func79 (c := bodyOf Try.f79) (by kernel_rfl) rfl (by kernel_rfl) (rs := #[.tmp 6]) rfl (by decide +kernel) (by kernel_rfl) (W79_wp v0 v1 v2 H K) h
/-- loop.example/g00649/impl.GoodTerm -/
def D80 : Info := ⟨80, fun i => ([], []), fun i => if i = 5 then ([0, 1, 33, 34], [7, 35]) else ([], [])⟩
def L80_0 (K : AV → Heap → Prop) (v0 : AV) (v1 : AV) (v7 : AV) (v33 : AV) (v34 : AV) (v35 : AV) (H : Heap) : Prop := LoopV (wpC Try.prog tab D80 (cAt [1, 1, 1, 0, 1, 0, 0] (bodyOf Try.f80))) [0, 1, 33, 34] (PostF.block 0 (PostF.thenA (wpC Try.prog tab D80 (cAt [1, 1, 1, 1] (bodyOf Try.f80))) (retF tab [.tmp 6] K))) [7, 35] [v0, v1, AV.any, AV.any, AV.any, AV.any, AV.any, v7, AV.any, AV.any, AV.any, AV.any, AV.any, AV.any, AV.any, AV.any, AV.any, AV.any, AV.any, AV.any, AV.any, AV.any, AV.any, AV.any, AV.any, AV.any, AV.any, AV.any, AV.any, AV.any, AV.any, AV.any, AV.any, v33, v34, v35, AV.any, AV.any, AV.any, AV.any, AV.any, AV.any, AV.any, AV.any, AV.any, AV.any, AV.any, AV.any, AV.any, AV.any, AV.any, AV.any, AV.any, AV.any, AV.any, AV.any, AV.any, AV.any, AV.any, AV.any, AV.any, AV.any, AV.any, AV.any, AV.any, AV.any, AV.any, AV.any, AV.any, AV.any, AV.any, AV.any, AV.any, AV.any, AV.any, AV.any, AV.any, AV.any, AV.any, AV.any] H
def B80_0 (K : AV → Heap → Prop) (N1 : AV → AV → Heap → Prop) (v0 : AV) (v1 : AV) (v7 : AV) (v33 : AV) (v34 : AV) (v35 : AV) (H : Heap) : Prop :=
 binV tab .lss 3 v35 v34 fun v36 =>
 condV v36 (indexAddrV tab 34 v33 v35 fun v37 =>
 loadV tab 76 v37 H fun v38 =>
 allocV tab 76 H fun v9 H4 =>
 storeV tab 76 v9 v38 H4 fun H5 =>
 fieldAddrV tab 76 v9 0 fun v40 =>
 loadV tab 3 v40 H5 fun v41 =>
 CallT Try.prog 83 [v41] H5 fun v42 H6 =>
 extractV v42 0 fun v43 =>
 extractV v42 1 fun v44 =>
 extractV v42 2 fun v45 =>
 allocV tab 3 H6 fun v11 H7 =>
 storeV tab 3 v11 v44 H7 fun H8 =>
 lenV tab 26 v7 fun v47 =>
 binV tab .sub 3 v47 v43 fun v49 =>
 binV tab .eql 3 v45 (AV.p (.int .i64 0)) fun v51 =>
 grdV v51 false (loadV tab 76 v9 H8 fun v55 =>
 CallT Try.prog 84 [v0, v1, v55] H8 fun v56 H9 =>
 unV .not v56 fun v57 =>
 grdV v57 false (binV tab .lss 3 v49 (AV.p (.int .i64 0)) fun v61 =>
 grdV v61 false (sliceV tab 26 v7 (some v49) none none fun v66 =>
 CallT Try.prog 85 [v66, (.fn 86 [v11])] H9 fun v68 H10 =>
 condV v68 (K (AV.p (.bool false)) H10)
 (sliceV tab 26 v7 none (some v49) none fun v72 =>
 buildSliceV tab 26 1 [(0, v45)] H10 (wkK fun v74 H11 =>
 appendV tab 26 26 v72 v74 H11 (wkK fun v75 H12 =>
 binV tab .add 3 v35 (AV.p (.int .i64 1)) fun v76 =>
 N1 v75 v76 H12))))
 (K (AV.p (.bool false)) H9))
 (K (AV.p (.bool false)) H9))
 (K (AV.p (.bool false)) H8))
 (lenV tab 26 v7 fun v78 =>
 binV tab .eql 3 v78 (AV.p (.int .i64 1)) fun v79 =>
 K v79 H)
def W80 (v0 : AV) (v1 : AV) (v2 : AV) (H : Heap) (K : AV → Heap → Prop) : Prop :=
 CallT Try.prog 67 [v0] H fun v15 H1 =>
 unV .not v15 fun v16 =>
 grdV v16 false (CallT Try.prog 68 [v1] H1 fun v19 H2 =>
 unV .not v19 fun v20 =>
 grdV v20 false (lenV tab 34 v2 fun v24 =>
 binV tab .lss 3 v24 (AV.p (.int .i64 1)) fun v25 =>
 grdV v25 false (lenV tab 34 v2 fun v29 =>
 binV tab .gtr 3 v29 (AV.p (.int .i64 48)) fun v30 =>
 condV v30 (K (AV.p (.bool false)) H2)
 (buildSliceV tab 26 0 [] H2 (wkK fun v32 H3 =>
 lenV tab 34 v2 fun v34 =>
 L80_0 K v0 v1 v32 v2 v34 (AV.p (.int .i64 0)) H3)))
 (K (AV.p (.bool false)) H2))
 (K (AV.p (.bool false)) H2))
 (K (AV.p (.bool false)) H1)
theorem W80_wp (v0 : AV) (v1 : AV) (v2 : AV) (H : Heap) (K : AV → Heap → Prop) : wpC Try.prog tab D80 (bodyOf Try.f80) (retF tab [.tmp 6] K) (nthA [v0, v1, v2]) H = W80 v0 v1 v2 H K := by kernel_rfl
theorem W80_ok {v0 v1 v2 : AV} {H : Heap} {K : AV → Heap → Prop} (h : W80 v0 v1 v2 H K) : CallT Try.prog 80 [v0, v1, v2] H K :=
  CallT.of_wp (D := D80) tab_ok mixed Try.func80 (c := bodyOf Try.f80) (by kernel_rfl) rfl (by kernel_rfl) (rs := #[.tmp 6]) rfl (by decide +kernel) (by kernel_rfl) (W80_wp v0 v1 v2 H K) h
theorem L80_0_rule {K : AV → Heap → Prop} {v0 v1 v7 v33 v34 v35 : AV} {H : Heap} {σ : Type} (s0 : σ) (f7 : σ → AV) (f35 : σ → AV) (TH : σ → Heap) (pre : σ → Prop) (μ : σ → Nat)
    (h0 : pre s0 ∧ AV.wk v7 (f7 s0) ∧ AV.wk v35 (f35 s0) ∧ Heap.le (TH s0) H)
    (round : ∀ s, pre s → B80_0 K (fun w7 w35 H' => ∃ s', pre s' ∧ μ s' < μ s ∧ AV.wk w7 (f7 s') ∧ AV.wk w35 (f35 s') ∧ Heap.le (TH s') H') v0 v1 (f7 s) v33 v34 (f35 s) (TH s)) :
    L80_0 K v0 v1 v7 v33 v34 v35 H := by
  unfold L80_0
  exact LoopV.mk s0 (fun s => [f7 s, f35 s]) TH pre μ (fun _ => rfl) (Eq.mp (by kernel_rfl) h0) (fun s hs => Eq.mp (by kernel_rfl) (round s hs))
/-- loop.example/g00649/impl.kindOf -/
def D81 : Info := ⟨19, fun i => ([], []), fun i => ([], [])⟩
def W81 (v0 : AV) (H : Heap) (K : AV → Heap → Prop) : Prop :=
 lenV tab 34 v0 fun v9 =>
 binV tab .sub 3 v9 (AV.p (.int .i64 1)) fun v10 =>
 indexAddrV tab 34 v0 v10 fun v11 =>
 fieldAddrV tab 76 v11 0 fun v12 =>
 loadV tab 3 v12 H fun v13 =>
 CallT Try.prog 83 [v13] H fun v14 H1 =>
 extractV v14 0 fun v15 =>
 extractV v14 1 fun v16 =>
 extractV v14 2 fun v17 =>
 K v17 H1
theorem W81_wp (v0 : AV) (H : Heap) (K : AV → Heap → Prop) : wpC Try.prog tab D81 (bodyOf Try.f81) (retF tab [.tmp 2] K) (nthA [v0]) H = W81 v0 H K := by kernel_rfl
theorem W81_ok {v0 : AV} {H : Heap} {K : AV → Heap → Prop} (h : W81 v0 H K) : CallT Try.prog 81 [v0] H K :=
  CallT.of_wp (D := D81) tab_ok mixed Try.func81 (c := bodyOf Try.f81) (by kernel_rfl) rfl (by kernel_rfl) (rs := #[.tmp 2]) rfl (by decide +kernel) (by kernel_rfl) (W81_wp v0 H K) h
/-- loop.example/g00649/spec.GoodWord -/
def D82 : Info := ⟨14, fun i => ([], []), fun i => ([], [])⟩
def W82 (v0 : AV) (v1 : AV) (H : Heap) (K : AV → Heap → Prop) : Prop :=
 CallT Try.prog 77 [v0] H fun v6 H1 =>
 grdV v6 true (CallT Try.prog 87 [v0, v1] H1 fun v10 H2 =>
 binV tab .eql 74 v10 v1 fun v12 =>
 K v12 H2)
 (K (AV.p (.bool false)) H1)
theorem W82_wp (v0 : AV) (v1 : AV) (H : Heap) (K : AV → Heap → Prop) : wpC Try.prog tab D82 (bodyOf Try.f82) (retF tab [.tmp 4] K) (nthA [v0, v1]) H = W82 v0 v1 H K := by kernel_rfl
theorem W82_ok {v0 v1 : AV} {H : Heap} {K : AV → Heap → Prop} (h : W82 v0 v1 H K) : CallT Try.prog 82 [v0, v1] H K :=
  CallT.of_wp (D := D82) tab_ok mixed Try.func82 (c := bodyOf Try.f82) (by kernel_rfl) rfl (by kernel_rfl) (rs := #[.tmp 4]) rfl (by decide +kernel) (by kernel_rfl) (W82_wp v0 v1 H K) h
/-- loop.example/g00649/impl.operandsOf -/
def D83 : Info := ⟨42, fun i => ([], []), fun i => ([], [])⟩
def J83_0 (K : AV → Heap → Prop) (v40 : AV) (H : Heap) : Prop :=
 condV v40 (K (.tup [(AV.p (.int .i64 2)), (AV.p (.int .i64 2)), (AV.p (.int .i64 2))]) H)
 (K (.tup [(AV.p (.int .i64 0)), (AV.p (.int .i64 0)), (AV.p (.int .i64 0))]) H)
def J83_1 (K : AV → Heap → Prop) (v0 : AV) (v33 : AV) (H : Heap) : Prop :=
 condV v33 (K (.tup [(AV.p (.int .i64 2)), (AV.p (.int .i64 1)), (AV.p (.int .i64 2))]) H)
 (binV tab .eql 3 v0 (AV.p (.int .i64 17)) fun v37 =>
 grdV v37 false (binV tab .eql 3 v0 (AV.p (.int .i64 18)) fun v40 =>
 J83_0 K v40 H)
 (K (.tup [(AV.p (.int .i64 2)), (AV.p (.int .i64 2)), (AV.p (.int .i64 2))]) H))
def J83_2 (K : AV → Heap → Prop) (v0 : AV) (H : Heap) : Prop :=
 binV tab .eql 3 v0 (AV.p (.int .i64 17)) fun v37 =>
 grdV v37 false (binV tab .eql 3 v0 (AV.p (.int .i64 18)) fun v40 =>
 J83_0 K v40 H)
 (K (.tup [(AV.p (.int .i64 2)), (AV.p (.int .i64 2)), (AV.p (.int .i64 2))]) H)
def W83 (v0 : AV) (H : Heap) (K : AV → Heap → Prop) : Prop :=
 binV tab .eql 3 v0 (AV.p (.int .i64 1)) fun v7 =>
 grdV v7 false (binV tab .eql 3 v0 (AV.p (.int .i64 2)) fun v10 =>
 condV v10 (K (.tup [(AV.p (.int .i64 0)), (AV.p (.int .i64 0)), (AV.p (.int .i64 1))]) H)
 (binV tab .eql 3 v0 (AV.p (.int .i64 20)) fun v14 =>
 condV v14 (K (.tup [(AV.p (.int .i64 0)), (AV.p (.int .i64 0)), (AV.p (.int .i64 2))]) H)
 (binV tab .eql 3 v0 (AV.p (.int .i64 13)) fun v17 =>
 condV v17 (K (.tup [(AV.p (.int .i64 1)), (AV.p (.int .i64 1)), (AV.p (.int .i64 1))]) H)
 (binV tab .eql 3 v0 (AV.p (.int .i64 19)) fun v20 =>
 condV v20 (K (.tup [(AV.p (.int .i64 1)), (AV.p (.int .i64 2)), (AV.p (.int .i64 2))]) H)
 (binV tab .geq 3 v0 (AV.p (.int .i64 3)) fun v23 =>
 grdV v23 true (binV tab .leq 3 v0 (AV.p (.int .i64 12)) fun v26 =>
 condV v26 (K (.tup [(AV.p (.int .i64 2)), (AV.p (.int .i64 1)), (AV.p (.int .i64 1))]) H)
 (binV tab .geq 3 v0 (AV.p (.int .i64 14)) fun v30 =>
 grdV v30 true (binV tab .leq 3 v0 (AV.p (.int .i64 16)) fun v33 =>
 J83_1 K v0 v33 H)
 (J83_2 K v0 H)))
 (binV tab .geq 3 v0 (AV.p (.int .i64 14)) fun v30 =>
 grdV v30 true (binV tab .leq 3 v0 (AV.p (.int .i64 16)) fun v33 =>
 J83_1 K v0 v33 H)
 (J83_2 K v0 H)))))))
 (K (.tup [(AV.p (.int .i64 0)), (AV.p (.int .i64 0)), (AV.p (.int .i64 1))]) H)
theorem W83_wp (v0 : AV) (H : Heap) (K : AV → Heap → Prop) : wpC Try.prog tab D83 (bodyOf Try.f83) (retF tab [.tmp 2, .tmp 3, .tmp 4] K) (nthA [v0]) H = W83 v0 H K := by kernel_rfl
theorem W83_ok {v0 : AV} {H : Heap} {K : AV → Heap → Prop} (h : W83 v0 H K) : CallT Try.prog 83 [v0] H K :=
  CallT.of_wp (D := D83) tab_ok mixed Try.func83 (c := bodyOf Try.f83) (by kernel_rfl) rfl (by kernel_rfl) (rs := #[.tmp 2, .tmp 3, .tmp 4]) rfl (by decide +kernel) (by kernel_rfl) (W83_wp v0 H K) h
/-- loop.example/g00649/impl.isLeafRight -/
def D84 : Info := ⟨30, fun i => ([], []), fun i => ([], [])⟩
def W84 (v0 : AV) (v1 : AV) (v2 : AV) (H : Heap) (K : AV → Heap → Prop) : Prop :=
 boxV v2 H fun v5 H1 =>
 fieldAddrV tab 76 v5 0 fun v7 =>
 loadV tab 3 v7 H1 fun v8 =>
 binV tab .eql 3 v8 (AV.p (.int .i64 1)) fun v10 =>
 condV v10 (fieldAddrV tab 76 v5 1 fun v12 =>
 loadV tab 74 v12 H1 fun v13 =>
 CallT Try.prog 88 [v0, v13] H1 fun v14 H2 =>
 K v14 H2)
 (binV tab .eql 3 v8 (AV.p (.int .i64 2)) fun v16 =>
 condV v16 (fieldAddrV tab 76 v5 1 fun v17 =>
 loadV tab 74 v17 H1 fun v18 =>
 convV tab 3 74 v1 fun v20 =>
 binV tab .lss 74 v18 v20 fun v21 =>
 K v21 H1)
 (binV tab .eql 3 v8 (AV.p (.int .i64 20)) fun v23 =>
 condV v23 (fieldAddrV tab 76 v5 1 fun v24 =>
 loadV tab 74 v24 H1 fun v25 =>
 binV tab .leq 74 v25 (AV.p (.int .u64 1)) fun v26 =>
 K v26 H1)
 (fieldAddrV tab 76 v5 1 fun v27 =>
 loadV tab 74 v27 H1 fun v28 =>
 binV tab .eql 74 v28 (AV.p (.int .u64 0)) fun v29 =>
 K v29 H1)))
theorem W84_wp (v0 : AV) (v1 : AV) (v2 : AV) (H : Heap) (K : AV → Heap → Prop) : wpC Try.prog tab D84 (bodyOf Try.f84) (retF tab [.tmp 6] K) (nthA [v0, v1, v2]) H = W84 v0 v1 v2 H K := by kernel_rfl
theorem W84_ok {v0 v1 v2 : AV} {H : Heap} {K : AV → Heap → Prop} (h : W84 v0 v1 v2 H K) : CallT Try.prog 84 [v0, v1, v2] H K :=
  CallT.of_wp (D := D84) tab_ok mixed Try.func84 (c := bodyOf Try.f84) (by kernel_rfl) rfl (by kernel_rfl) (rs := #[.tmp 6]) rfl (by decide +kernel) (by kernel_rfl) (W84_wp v0 v1 v2 H K) h
/-- slices.ContainsFunc[[]int,int] -/
def D85 : Info := ⟨9, fun i => ([], []), fun i => ([], [])⟩
def W85 (v0 : AV) (v1 : AV) (H : Heap) (K : AV → Heap → Prop) : Prop :=
 CallT Try.prog 89 [v0, v1] H fun v7 H1 =>
 binV tab .geq 3 v7 (AV.p (.int .i64 0)) fun v8 =>
 K v8 H1
theorem W85_wp (v0 : AV) (v1 : AV) (H : Heap) (K : AV → Heap → Prop) : wpC Try.prog tab D85 (bodyOf Try.f85) (retF tab [.tmp 4] K) (nthA [v0, v1]) H = W85 v0 v1 H K := by kernel_rfl
theorem W85_ok {v0 v1 : AV} {H : Heap} {K : AV → Heap → Prop} (h : W85 v0 v1 H K) : CallT Try.prog 85 [v0, v1] H K :=
  CallT.of_wp (D := D85) tab_ok mixed Try.func85 (c := bodyOf Try.f85) (by kernel_rfl) rfl (by kernel_rfl) (rs := #[.tmp 4]) rfl (by decide +kernel) (by kernel_rfl) (W85_wp v0 v1 H K) h
/-- loop.example/g00649/impl.GoodTerm$1 -/
def D86 : Info := ⟨7, fun i => ([], []), fun i => ([], [])⟩
def W86 (v0 : AV) (v1 : AV) (H : Heap) (K : AV → Heap → Prop) : Prop :=
 loadV tab 3 v1 H fun v5 =>
 binV tab .neq 3 v0 v5 fun v6 =>
 K v6 H
theorem W86_wp (v0 : AV) (v1 : AV) (H : Heap) (K : AV → Heap → Prop) : wpC Try.prog tab D86 (bodyOf Try.f86) (retF tab [.tmp 3] K) (nthA [v0, v1]) H = W86 v0 v1 H K := by kernel_rfl
theorem W86_ok {v0 v1 : AV} {H : Heap} {K : AV → Heap → Prop} (h : W86 v0 v1 H K) : CallT Try.prog 86 [v0, v1] H K :=
  CallT.of_wp (D := D86) tab_ok mixed Try.func86 (c := bodyOf Try.f86) (by kernel_rfl) rfl (by kernel_rfl) (rs := #[.tmp 3]) rfl (by decide +kernel) (by kernel_rfl) (W86_wp v0 v1 H K) h
/-- loop.example/g00649/spec.l1Cut -/
def D87 : Info := ⟨20, fun i => ([], []), fun i => if i = 3 then ([0, 1], [5, 6]) else ([], [])⟩
def L87_0 (K : AV → Heap → Prop) (v0 : AV) (v1 : AV) (v5 : AV) (v6 : AV) (H : Heap) : Prop := LoopV (wpC Try.prog tab D87 (cAt [1, 1, 0, 1, 0, 0] (bodyOf Try.f87))) [0, 1] (PostF.block 0 (PostF.thenA (wpC Try.prog tab D87 (cAt [1, 1, 1] (bodyOf Try.f87))) (retF tab [.tmp 4] K))) [5, 6] [v0, v1, AV.any, AV.any, AV.any, v5, v6, AV.any, AV.any, AV.any, AV.any, AV.any, AV.any, AV.any, AV.any, AV.any, AV.any, AV.any, AV.any, AV.any] H
def B87_0 (K : AV → Heap → Prop) (N1 : AV → AV → Heap → Prop) (v0 : AV) (v1 : AV) (v5 : AV) (v6 : AV) (H : Heap) : Prop :=
 binV tab .lss 3 v6 v0 fun v9 =>
 condV v9 (convV tab 3 91 v6 fun v15 =>
 binV tab .shl 74 (AV.p (.int .u64 1)) v15 fun v16 =>
 binV tab .and 74 v1 v16 fun v17 =>
 binV tab .or 74 v5 v17 fun v18 =>
 binV tab .add 3 v6 (AV.p (.int .i64 1)) fun v11 =>
 N1 v18 v11 H)
 (K v5 H)
def W87 (v0 : AV) (v1 : AV) (H : Heap) (K : AV → Heap → Prop) : Prop :=
 L87_0 K v0 v1 (AV.p (.int .u64 0)) (AV.p (.int .i64 0)) H
theorem W87_wp (v0 : AV) (v1 : AV) (H : Heap) (K : AV → Heap → Prop) : wpC Try.prog tab D87 (bodyOf Try.f87) (retF tab [.tmp 4] K) (nthA [v0, v1]) H = W87 v0 v1 H K := by kernel_rfl
theorem W87_ok {v0 v1 : AV} {H : Heap} {K : AV → Heap → Prop} (h : W87 v0 v1 H K) : CallT Try.prog 87 [v0, v1] H K :=
  CallT.of_wp (D := D87) tab_ok mixed Try.func87 (c := bodyOf Try.f87) (by kernel_rfl) rfl (by kernel_rfl) (rs := #[.tmp 4]) rfl (by decide +kernel) (by kernel_rfl) (W87_wp v0 v1 H K) h
theorem L87_0_rule {K : AV → Heap → Prop} {v0 v1 v5 v6 : AV} {H : Heap} {σ : Type} (s0 : σ) (f5 : σ → AV) (f6 : σ → AV) (TH : σ → Heap) (pre : σ → Prop) (μ : σ → Nat)
    (h0 : pre s0 ∧ AV.wk v5 (f5 s0) ∧ AV.wk v6 (f6 s0) ∧ Heap.le (TH s0) H)
    (round : ∀ s, pre s → B87_0 K (fun w5 w6 H' => ∃ s', pre s' ∧ μ s' < μ s ∧ AV.wk w5 (f5 s') ∧ AV.wk w6 (f6 s') ∧ Heap.le (TH s') H') v0 v1 (f5 s) (f6 s) (TH s)) :
    L87_0 K v0 v1 v5 v6 H := by
  unfold L87_0
  exact LoopV.mk s0 (fun s => [f5 s, f6 s]) TH pre μ (fun _ => rfl) (Eq.mp (by kernel_rfl) h0) (fun s hs => Eq.mp (by kernel_rfl) (round s hs))
/-- loop.example/g00649/impl.GoodWord -/
def D88 : Info := ⟨13, fun i => ([], []), fun i => ([], [])⟩
def W88 (v0 : AV) (v1 : AV) (H : Heap) (K : AV → Heap → Prop) : Prop :=
 CallT Try.prog 67 [v0] H fun v6 H1 =>
 grdV v6 true (CallT Try.prog 90 [v0] H1 fun v10 H2 =>
 binV tab .leq 74 v1 v10 fun v11 =>
 K v11 H2)
 (K (AV.p (.bool false)) H1)
theorem W88_wp (v0 : AV) (v1 : AV) (H : Heap) (K : AV → Heap → Prop) : wpC Try.prog tab D88 (bodyOf Try.f88) (retF tab [.tmp 4] K) (nthA [v0, v1]) H = W88 v0 v1 H K := by kernel_rfl
theorem W88_ok {v0 v1 : AV} {H : Heap} {K : AV → Heap → Prop} (h : W88 v0 v1 H K) : CallT Try.prog 88 [v0, v1] H K :=
  CallT.of_wp (D := D88) tab_ok mixed Try.func88 (c := bodyOf Try.f88) (by kernel_rfl) rfl (by kernel_rfl) (rs := #[.tmp 4]) rfl (by decide +kernel) (by kernel_rfl) (W88_wp v0 v1 H K) h
end Go.Proofs.Ytdnfiacjoghfkaa
/- What each function's code is asked for, as a formula. Written by wgen.py (a program of this session's) out of Lean's print of the program. -/
namespace Go.Proofs.Ytdnfiacjoghfkaa
open Go Go.Sep
set_option linter.unusedVariables false
attribute [local irreducible] wpC headF
/-- slices.IndexFunc[[]int,int] -/
def D89 : Info := ⟨19, fun i => ([], []), fun i => if i = 2 then ([0, 1, 7], [8]) else ([], [])⟩
def L89_0 (K : AV → Heap → Prop) (v0 : AV) (v1 : AV) (v7 : AV) (v8 : AV) (H : Heap) : Prop := LoopV (wpC Try.prog tab D89 (cAt [1, 0, 1, 0, 0] (bodyOf Try.f89))) [0, 1, 7] (PostF.block 0 (PostF.thenA (wpC Try.prog tab D89 (cAt [1, 1] (bodyOf Try.f89))) (retF tab [.tmp 4] K))) [8] [v0, v1, AV.any, AV.any, AV.any, AV.any, AV.any, v7, v8, AV.any, AV.any, AV.any, AV.any, AV.any, AV.any, AV.any, AV.any, AV.any, AV.any] H
def B89_0 (K : AV → Heap → Prop) (N1 : AV → Heap → Prop) (v0 : AV) (v1 : AV) (v7 : AV) (v8 : AV) (H : Heap) : Prop :=
 binV tab .lss 3 v8 v7 fun v9 =>
 condV v9 (indexAddrV tab 26 v0 v8 fun v14 =>
 loadV tab 3 v14 H fun v15 =>
 callF Try.prog v1 [v15] H fun v16 H1 =>
 condV v16 (K v8 H1)
 (binV tab .add 3 v8 (AV.p (.int .i64 1)) fun v18 =>
 N1 v18 H1))
 (K (AV.p (.int .i64 (-1))) H)
def W89 (v0 : AV) (v1 : AV) (H : Heap) (K : AV → Heap → Prop) : Prop :=
 lenV tab 26 v0 fun v7 =>
 L89_0 K v0 v1 v7 (AV.p (.int .i64 0)) H
theorem W89_wp (v0 : AV) (v1 : AV) (H : Heap) (K : AV → Heap → Prop) : wpC Try.prog tab D89 (bodyOf Try.f89) (retF tab [.tmp 4] K) (nthA [v0, v1]) H = W89 v0 v1 H K := by kernel_rfl
theorem W89_ok {v0 v1 : AV} {H : Heap} {K : AV → Heap → Prop} (h : W89 v0 v1 H K) : CallT Try.prog 89 [v0, v1] H K :=
  CallT.of_wp (D := D89) tab_ok mixed Try.func89 (c := bodyOf Try.f89) (by kernel_rfl) rfl (by kernel_rfl) (rs := #[.tmp 4]) rfl (by decide +kernel) (by kernel_rfl) (W89_wp v0 v1 H K) h
theorem L89_0_rule {K : AV → Heap → Prop} {v0 v1 v7 v8 : AV} {H : Heap} {σ : Type} (s0 : σ) (f8 : σ → AV) (TH : σ → Heap) (pre : σ → Prop) (μ : σ → Nat)
    (h0 : pre s0 ∧ AV.wk v8 (f8 s0) ∧ Heap.le (TH s0) H)
    (round : ∀ s, pre s → B89_0 K (fun w8 H' => ∃ s', pre s' ∧ μ s' < μ s ∧ AV.wk w8 (f8 s') ∧ Heap.le (TH s') H') v0 v1 v7 (f8 s) (TH s)) :
    L89_0 K v0 v1 v7 v8 H := by
  unfold L89_0
  exact LoopV.mk s0 (fun s => [f8 s]) TH pre μ (fun _ => rfl) (Eq.mp (by kernel_rfl) h0) (fun s hs => Eq.mp (by kernel_rfl) (round s hs))
/-- loop.example/g00649/impl.mask -/
def D90 : Info := ⟨6, fun i => ([], []), fun i => ([], [])⟩
def W90 (v0 : AV) (H : Heap) (K : AV → Heap → Prop) : Prop :=
 binV tab .sub 3 (AV.p (.int .i64 64)) v0 fun v4 =>
 binV tab .shr 74 (AV.p (.int .u64 18446744073709551615)) v4 fun v5 =>
 K v5 H
theorem W90_wp (v0 : AV) (H : Heap) (K : AV → Heap → Prop) : wpC Try.prog tab D90 (bodyOf Try.f90) (retF tab [.tmp 2] K) (nthA [v0]) H = W90 v0 H K := by kernel_rfl
theorem W90_ok {v0 : AV} {H : Heap} {K : AV → Heap → Prop} (h : W90 v0 H K) : CallT Try.prog 90 [v0] H K :=
  CallT.of_wp (D := D90) tab_ok mixed Try.func90 (c := bodyOf Try.f90) (by kernel_rfl) rfl (by kernel_rfl) (rs := #[.tmp 2]) rfl (by decide +kernel) (by kernel_rfl) (W90_wp v0 H K) h
end Go.Proofs.Ytdnfiacjoghfkaa
/- What each function's code is asked for, as a formula. Written by wgen.py (a program of this session's) out of Lean's print of the program. -/
namespace Go.Proofs.Ytdnfiacjoghfkaa
open Go Go.Sep
set_option linter.unusedVariables false
attribute [local irreducible] wpC headF
end Go.Proofs.Ytdnfiacjoghfkaa
/- What each function's code is asked for, as a formula. Written by wgen.py (a program of this session's) out of Lean's print of the program. -/
namespace Go.Proofs.Ytdnfiacjoghfkaa
open Go Go.Sep
set_option linter.unusedVariables false
attribute [local irreducible] wpC headF
/-- loop.example/g00649/laws.FnExactCutOut -/
def D5 : Info := ⟨140, fun i => if i = 10 then ([[], [0], [], [0, 1, 2], [], [0, 1, 2, 3, 4], [0, 1, 2, 3, 4, 5], [0, 1, 2, 3, 4, 5, 6], [0, 1, 2, 3, 4, 5, 6, 7], [0, 1, 2, 3, 4, 5, 6, 7], [], [0, 1, 2, 3, 4, 5, 6, 7, 8, 10], [0, 1, 2, 3, 4, 5, 6, 7, 8, 9, 10, 11]], [(0, []), (2, []), (4, []), (1, [2]), (3, []), (5, []), (6, []), (7, []), (8, []), (9, []), (10, []), (11, []), (12, [])]) else if i = 17 then ([[], [], [1], [0, 1, 2], [0, 1, 2, 3]], [(0, []), (1, []), (2, [0]), (3, []), (4, [])]) else if i = 19 then ([[], [], [1], [0, 1, 2], [0, 1, 2, 3]], [(0, []), (1, []), (2, [0]), (3, []), (4, [])]) else if i = 37 then ([[], [0], [], [0, 1, 2], [], [0, 1, 2, 3, 4], [0, 1, 2, 3, 4, 5], [0, 1, 2, 3, 4, 5, 6], [0, 1, 2, 3, 4, 5, 6, 7], [0, 1, 2, 3, 4, 5, 6, 7], [], [0, 1, 2, 3, 4, 5, 6, 7, 8, 10], [0, 1, 2, 3, 4, 5, 6, 7, 8, 9, 10, 11]], [(0, []), (2, []), (4, []), (1, [2]), (3, []), (5, []), (6, []), (7, []), (8, []), (9, []), (10, []), (11, []), (12, [])]) else ([], []), fun i => ([], [])⟩
def W5 (v0 : AV) (v1 : AV) (v2 : AV) (H : Heap) (K : AV → Heap → Prop) : Prop :=
 boxV v0 H fun v3 H1 =>
 boxV v1 H1 fun v4 H2 =>
 lenV tab 26 v2 fun v21 =>
 binV tab .gtr 3 v21 (AV.p (.int .i64 1048576)) fun v22 =>
 condV v22 (K (AV.p (.bool true)) H2)
 (loadV tab 25 v3 H2 fun v23 =>
 CallT Try.prog 6 [v23, (AV.p (.int .i64 1048576))] H2 fun v25 H3 =>
 binV tab .lss 3 v25 (AV.p (.int .i64 0)) fun v27 =>
 condV v27 (K (AV.p (.bool true)) H3)
 (loadV tab 28 v4 H3 fun v28 =>
 CallT Try.prog 7 [v28, v25] H3 fun v30 H4 =>
 binV tab .lss 3 v30 (AV.p (.int .i64 0)) fun v32 =>
 condV v32 (K (AV.p (.bool true)) H4)
 (loadV tab 25 v3 H4 fun v34 =>
 loadV tab 28 v4 H4 fun v36 =>
 CallT Try.prog 9 [v34] H4 fun v35 H5 =>
 (loadV tab 28 v4 H5 fun v9036 =>
 v36 = v9036) ∧
 CallT Try.prog 10 [v36] H5 fun v37 H6 =>
 CallT Try.prog 20 [v2] H6 fun v39 H7 =>
 CallT Try.prog 19 [v35, v37, v39] H7 fun v40 H8 =>
 extractV v40 0 fun v41 =>
 extractV v40 1 fun v42 =>
 allocV tab 31 H8 fun v8 H9 =>
 storeV tab 31 v8 v41 H9 fun H10 =>
 loadV tab 25 v3 H10 fun v43 =>
 CallT Try.prog 9 [v43] H10 fun v44 H11 =>
 allocV tab 37 H11 fun v10 H12 =>
 storeV tab 37 v10 v44 H12 fun H13 =>
 loadV tab 28 v4 H13 fun v45 =>
 CallT Try.prog 10 [v45] H13 fun v46 H14 =>
 allocV tab 31 H14 fun v11 H15 =>
 storeV tab 31 v11 v46 H15 fun H16 =>
 CallT Try.prog 20 [v2] H16 fun v48 H17 =>
 loadV tab 37 v10 H17 fun v50 =>
 loadV tab 31 v11 H17 fun v51 =>
 CallT Try.prog 21 [v50, v51, v48] H17 fun v53 H18 =>
 extractV v53 0 fun v54 =>
 extractV v53 1 fun v55 =>
 allocV tab 31 H18 fun v13 H19 =>
 storeV tab 31 v13 v54 H19 fun H20 =>
 loadV tab 31 v13 H20 fun v56 =>
 loadV tab 31 v8 H20 fun v57 =>
 CallT Try.prog 12 [v56, v57] H20 fun v58 H21 =>
 unV .not v58 fun v59 =>
 grdV v59 false (binV tab .neq 4 v55 v42 fun v63 =>
 condV v63 (K (AV.p (.bool false)) H21)
 (loadV tab 37 v10 H21 fun v65 =>
 loadV tab 25 v3 H21 fun v66 =>
 CallT Try.prog 9 [v66] H21 fun v67 H22 =>
 (loadV tab 37 v10 H22 fun v9065 =>
 v65 = v9065) ∧
 CallT Try.prog 13 [v65, v67] H22 fun v68 H23 =>
 unV .not v68 fun v69 =>
 condV v69 (K (AV.p (.bool false)) H23)
 (loadV tab 31 v11 H23 fun v70 =>
 loadV tab 28 v4 H23 fun v71 =>
 CallT Try.prog 10 [v71] H23 fun v72 H24 =>
 (loadV tab 31 v11 H24 fun v9070 =>
 v70 = v9070) ∧
 CallT Try.prog 12 [v70, v72] H24 fun v73 H25 =>
 unV .not v73 fun v74 =>
 condV v74 (K (AV.p (.bool false)) H25)
 (CallT Try.prog 20 [v2] H25 fun v77 H26 =>
 CallT Try.prog 22 [v48, v77] H26 fun v78 H27 =>
 unV .not v78 fun v79 =>
 condV v79 (K (AV.p (.bool false)) H27)
 (loadV tab 37 v10 H27 fun v80 =>
 CallT Try.prog 14 [v80, (AV.p (.int .i64 1))] H27 fun v82 H28 =>
 loadV tab 31 v11 H28 fun v83 =>
 CallT Try.prog 15 [v83, v82] H28 fun v85 H29 =>
 CallT Try.prog 23 [v48, v85] H29 fun v88 H30 =>
 binV tab .lss 3 v88 (AV.p (.int .i64 0)) fun v90 =>
 grdV v90 false (loadV tab 31 v13 H30 fun v92 =>
 loadV tab 31 v8 H30 fun v93 =>
 CallT Try.prog 12 [v92, v93] H30 fun v94 H31 =>
 unV .not v94 fun v95 =>
 grdV v95 false (binV tab .neq 4 v55 v42 fun v100 =>
 condV v100 (K (AV.p (.bool false)) H31)
 (loadV tab 31 v13 H31 fun v102 =>
 CallT Try.prog 15 [v102, (AV.p (.int .i64 1))] H31 fun v104 H32 =>
 loadV tab 31 v13 H32 fun v105 =>
 CallT Try.prog 16 [v105, (AV.p (.int .i64 1))] H32 fun v107 H33 =>
 binV tab .lss 3 v107 (AV.p (.int .i64 0)) fun v109 =>
 condV v109 (K (AV.p (.bool false)) H33)
 (binV tab .neq 3 v107 v104 fun v112 =>
 condV v112 (K (AV.p (.bool false)) H33)
 (loadV tab 25 v3 H33 fun v114 =>
 loadV tab 28 v4 H33 fun v116 =>
 CallT Try.prog 9 [v114] H33 fun v115 H34 =>
 (loadV tab 28 v4 H34 fun v9116 =>
 v116 = v9116) ∧
 CallT Try.prog 10 [v116] H34 fun v117 H35 =>
 CallT Try.prog 20 [v2] H35 fun v119 H36 =>
 CallT Try.prog 21 [v115, v117, v119] H36 fun v120 H37 =>
 extractV v120 0 fun v121 =>
 extractV v120 1 fun v122 =>
 allocV tab 31 H37 fun v18 H38 =>
 storeV tab 31 v18 v121 H38 fun H39 =>
 loadV tab 31 v18 H39 fun v123 =>
 loadV tab 31 v8 H39 fun v124 =>
 CallT Try.prog 12 [v123, v124] H39 fun v125 H40 =>
 unV .not v125 fun v126 =>
 grdV v126 false (binV tab .neq 4 v122 v42 fun v130 =>
 condV v130 (K (AV.p (.bool false)) H40)
 (loadV tab 31 v13 H40 fun v132 =>
 CallT Try.prog 16 [v132, (AV.p (.int .i64 1))] H40 fun v134 H41 =>
 binV tab .lss 3 v134 (AV.p (.int .i64 0)) fun v136 =>
 condV v136 (K (AV.p (.bool false)) H41)
 (binV tab .neq 3 v134 v104 fun v139 =>
 condV v139 (K (AV.p (.bool false)) H41)
 (K (AV.p (.bool true)) H41))))
 (K (AV.p (.bool false)) H40)))))
 (K (AV.p (.bool false)) H31))
 (K (AV.p (.bool false)) H30))))))
 (K (AV.p (.bool false)) H21))))
theorem W5_wp (v0 : AV) (v1 : AV) (v2 : AV) (H : Heap) (K : AV → Heap → Prop) : wpC Try.prog tab D5 (bodyOf Try.f5) (retF tab [.tmp 6] K) (nthA [v0, v1, v2]) H = W5 v0 v1 v2 H K := by kernel_rfl
theorem W5_ok {v0 v1 v2 : AV} {H : Heap} {K : AV → Heap → Prop} (h : W5 v0 v1 v2 H K) : CallT Try.prog 5 [v0, v1, v2] H K :=
  CallT.of_wp (D := D5) tab_ok mixed Try.func5 (c := bodyOf Try.f5) (by kernel_rfl) rfl (by kernel_rfl) (rs := #[.tmp 6]) rfl (by decide +kernel) (by kernel_rfl) (W5_wp v0 v1 v2 H K) h
/-- loop.example/g00649/spec.CutOut -/
def D19 : Info := ⟨25, fun i => ([], []), fun i => ([], [])⟩
def W19 (v0 : AV) (v1 : AV) (v2 : AV) (H : Heap) (K : AV → Heap → Prop) : Prop :=
 boxV v0 H fun v3 H1 =>
 boxV v1 H1 fun v4 H2 =>
 allocV tab 31 H2 fun v6 H3 =>
 loadV tab 37 v3 H3 fun v8 =>
 loadV tab 31 v4 H3 fun v9 =>
 CallT Try.prog 27 [v8, v9] H3 fun v10 H4 =>
 unV .not v10 fun v11 =>
 grdV v11 false (fieldAddrV tab 31 v4 0 fun v14 =>
 loadV tab 26 v14 H4 fun v15 =>
 lenV tab 26 v15 fun v16 =>
 binV tab .sub 3 v16 (AV.p (.int .i64 1)) fun v17 =>
 CallT Try.prog 40 [v2, (AV.p (.int .i64 0)), v17] H4 fun v18 H5 =>
 unV .not v18 fun v19 =>
 condV v19 (buildV tab 31 [] fun v21 =>
 storeV tab 31 v6 v21 H5 fun H6 =>
 loadV tab 31 v6 H6 fun r0 =>
 K (.tup [r0, (AV.p (.bool false))]) H6)
 (loadV tab 31 v4 H5 fun v22 =>
 CallT Try.prog 41 [v22, v2] H5 fun v24 H7 =>
 storeV tab 31 v6 v24 H7 fun H8 =>
 loadV tab 31 v6 H8 fun r0 =>
 K (.tup [r0, (AV.p (.bool true))]) H8))
 (buildV tab 31 [] fun v21 =>
 storeV tab 31 v6 v21 H4 fun H9 =>
 loadV tab 31 v6 H9 fun r0 =>
 K (.tup [r0, (AV.p (.bool false))]) H9)
theorem W19_wp (v0 : AV) (v1 : AV) (v2 : AV) (H : Heap) (K : AV → Heap → Prop) : wpC Try.prog tab D19 (bodyOf Try.f19) (retF tab [.cell 6 31, .tmp 7] K) (nthA [v0, v1, v2]) H = W19 v0 v1 v2 H K := by kernel_rfl
theorem W19_ok {v0 v1 v2 : AV} {H : Heap} {K : AV → Heap → Prop} (h : W19 v0 v1 v2 H K) : CallT Try.prog 19 [v0, v1, v2] H K :=
  CallT.of_wp (D := D19) tab_ok mixed Try.func19 (c := bodyOf Try.f19) (by kernel_rfl) rfl (by kernel_rfl) (rs := #[.cell 6 31, .tmp 7]) rfl (by decide +kernel) (by kernel_rfl) (W19_wp v0 v1 v2 H K) h
/-- loop.example/g00649/impl.CutOut -/
def D21 : Info := ⟨23, fun i => ([], []), fun i => ([], [])⟩
def W21 (v0 : AV) (v1 : AV) (v2 : AV) (H : Heap) (K : AV → Heap → Prop) : Prop :=
 boxV v0 H fun v3 H1 =>
 boxV v1 H1 fun v4 H2 =>
 allocV tab 31 H2 fun v6 H3 =>
 loadV tab 37 v3 H3 fun v8 =>
 loadV tab 31 v4 H3 fun v9 =>
 CallT Try.prog 31 [v8, v9] H3 fun v10 H4 =>
 unV .not v10 fun v11 =>
 grdV v11 false (loadV tab 37 v3 H4 fun v14 =>
 CallT Try.prog 43 [v14] H4 fun v15 H5 =>
 CallT Try.prog 42 [v2, v15] H5 fun v16 H6 =>
 unV .not v16 fun v17 =>
 condV v17 (buildV tab 31 [] fun v19 =>
 storeV tab 31 v6 v19 H6 fun H7 =>
 loadV tab 31 v6 H7 fun r0 =>
 K (.tup [r0, (AV.p (.bool false))]) H7)
 (loadV tab 31 v4 H6 fun v20 =>
 CallT Try.prog 44 [v20, v2] H6 fun v22 H8 =>
 storeV tab 31 v6 v22 H8 fun H9 =>
 loadV tab 31 v6 H9 fun r0 =>
 K (.tup [r0, (AV.p (.bool true))]) H9))
 (buildV tab 31 [] fun v19 =>
 storeV tab 31 v6 v19 H4 fun H10 =>
 loadV tab 31 v6 H10 fun r0 =>
 K (.tup [r0, (AV.p (.bool false))]) H10)
theorem W21_wp (v0 : AV) (v1 : AV) (v2 : AV) (H : Heap) (K : AV → Heap → Prop) : wpC Try.prog tab D21 (bodyOf Try.f21) (retF tab [.cell 6 31, .tmp 7] K) (nthA [v0, v1, v2]) H = W21 v0 v1 v2 H K := by kernel_rfl
theorem W21_ok {v0 v1 v2 : AV} {H : Heap} {K : AV → Heap → Prop} (h : W21 v0 v1 v2 H K) : CallT Try.prog 21 [v0, v1, v2] H K :=
  CallT.of_wp (D := D21) tab_ok mixed Try.func21 (c := bodyOf Try.f21) (by kernel_rfl) rfl (by kernel_rfl) (rs := #[.cell 6 31, .tmp 7]) rfl (by decide +kernel) (by kernel_rfl) (W21_wp v0 v1 v2 H K) h
/-- loop.example/g00649/spec.l1Rising -/
def D40 : Info := ⟨35, fun i => ([], []), fun i => if i = 2 then ([0, 1, 2, 9, 10], [11]) else ([], [])⟩
def L40_0 (K : AV → Heap → Prop) (v0 : AV) (v1 : AV) (v2 : AV) (v9 : AV) (v10 : AV) (v11 : AV) (H : Heap) : Prop := LoopV (wpC Try.prog tab D40 (cAt [1, 0, 1, 0, 0] (bodyOf Try.f40))) [0, 1, 2, 9, 10] (PostF.block 0 (PostF.thenA (wpC Try.prog tab D40 (cAt [1, 1] (bodyOf Try.f40))) (retF tab [.tmp 6] K))) [11] [v0, v1, v2, AV.any, AV.any, AV.any, AV.any, AV.any, AV.any, v9, v10, v11, AV.any, AV.any, AV.any, AV.any, AV.any, AV.any, AV.any, AV.any, AV.any, AV.any, AV.any, AV.any, AV.any, AV.any, AV.any, AV.any, AV.any, AV.any, AV.any, AV.any, AV.any, AV.any, AV.any] H
def B40_0 (K : AV → Heap → Prop) (N1 : AV → Heap → Prop) (v0 : AV) (v1 : AV) (v2 : AV) (v9 : AV) (v10 : AV) (v11 : AV) (H : Heap) : Prop :=
 binV tab .lss 3 v11 v10 fun v12 =>
 condV v12 (indexAddrV tab 26 v9 v11 fun v14 =>
 loadV tab 3 v14 H fun v15 =>
 CallT Try.prog 48 [v15, v1, v2] H fun v19 H1 =>
 unV .not v19 fun v20 =>
 grdV v20 false (binV tab .gtr 3 v11 (AV.p (.int .i64 0)) fun v23 =>
 grdV v23 true (binV tab .sub 3 v11 (AV.p (.int .i64 1)) fun v27 =>
 indexAddrV tab 26 v0 v27 fun v28 =>
 loadV tab 3 v28 H1 fun v29 =>
 binV tab .geq 3 v29 v15 fun v31 =>
 condV v31 (K (AV.p (.bool false)) H1)
 (binV tab .add 3 v11 (AV.p (.int .i64 1)) fun v34 =>
 N1 v34 H1))
 (binV tab .add 3 v11 (AV.p (.int .i64 1)) fun v34 =>
 N1 v34 H1))
 (K (AV.p (.bool false)) H1))
 (K (AV.p (.bool true)) H)
def W40 (v0 : AV) (v1 : AV) (v2 : AV) (H : Heap) (K : AV → Heap → Prop) : Prop :=
 lenV tab 26 v0 fun v10 =>
 L40_0 K v0 v1 v2 v0 v10 (AV.p (.int .i64 0)) H
theorem W40_wp (v0 : AV) (v1 : AV) (v2 : AV) (H : Heap) (K : AV → Heap → Prop) : wpC Try.prog tab D40 (bodyOf Try.f40) (retF tab [.tmp 6] K) (nthA [v0, v1, v2]) H = W40 v0 v1 v2 H K := by kernel_rfl
theorem W40_ok {v0 v1 v2 : AV} {H : Heap} {K : AV → Heap → Prop} (h : W40 v0 v1 v2 H K) : CallT Try.prog 40 [v0, v1, v2] H K :=
  CallT.of_wp (D := D40) tab_ok mixed Try.func40 (c := bodyOf Try.f40) (by kernel_rfl) rfl (by kernel_rfl) (rs := #[.tmp 6]) rfl (by decide +kernel) (by kernel_rfl) (W40_wp v0 v1 v2 H K) h
theorem L40_0_rule {K : AV → Heap → Prop} {v0 v1 v2 v9 v10 v11 : AV} {H : Heap} {σ : Type} (s0 : σ) (f11 : σ → AV) (TH : σ → Heap) (pre : σ → Prop) (μ : σ → Nat)
    (h0 : pre s0 ∧ AV.wk v11 (f11 s0) ∧ Heap.le (TH s0) H)
    (round : ∀ s, pre s → B40_0 K (fun w11 H' => ∃ s', pre s' ∧ μ s' < μ s ∧ AV.wk w11 (f11 s') ∧ Heap.le (TH s') H') v0 v1 v2 v9 v10 (f11 s) (TH s)) :
    L40_0 K v0 v1 v2 v9 v10 v11 H := by
  unfold L40_0
  exact LoopV.mk s0 (fun s => [f11 s]) TH pre μ (fun _ => rfl) (Eq.mp (by kernel_rfl) h0) (fun s hs => Eq.mp (by kernel_rfl) (round s hs))
/-- loop.example/g00649/spec.l15Cut -/
def D41 : Info := ⟨33, fun i => ([], []), fun i => if i = 3 then ([1, 4, 9, 10], [5, 11]) else ([], [])⟩
def L41_0 (K : AV → Heap → Prop) (v1 : AV) (v4 : AV) (v5 : AV) (v9 : AV) (v10 : AV) (v11 : AV) (H : Heap) : Prop := LoopV (wpC Try.prog tab D41 (cAt [1, 1, 0, 1, 0, 0] (bodyOf Try.f41))) [1, 4, 9, 10] (PostF.block 0 (PostF.thenA (wpC Try.prog tab D41 (cAt [1, 1, 1] (bodyOf Try.f41))) (retF tab [.cell 4 31] K))) [5, 11] [AV.any, v1, AV.any, AV.any, v4, v5, AV.any, AV.any, AV.any, v9, v10, v11, AV.any, AV.any, AV.any, AV.any, AV.any, AV.any, AV.any, AV.any, AV.any, AV.any, AV.any, AV.any, AV.any, AV.any, AV.any, AV.any, AV.any, AV.any, AV.any, AV.any, AV.any] H
def B41_0 (K : AV → Heap → Prop) (N1 : AV → AV → Heap → Prop) (v1 : AV) (v4 : AV) (v5 : AV) (v9 : AV) (v10 : AV) (v11 : AV) (H : Heap) : Prop :=
 binV tab .lss 3 v11 v10 fun v12 =>
 condV v12 (indexAddrV tab 26 v9 v11 fun v14 =>
 loadV tab 3 v14 H fun v15 =>
 CallT Try.prog 57 [v1, v11] H fun v18 H3 =>
 condV v18 (binV tab .mul 3 (AV.p (.int .i64 2)) v15 fun v21 =>
 binV tab .add 3 v21 (AV.p (.int .i64 1)) fun v22 =>
 buildSliceV tab 26 1 [(0, v22)] H3 (wkK fun v23 H4 =>
 appendV tab 26 26 v5 v23 H4 (wkK fun v24 H5 =>
 binV tab .add 3 v11 (AV.p (.int .i64 1)) fun v30 =>
 N1 v24 v30 H5)))
 (binV tab .mul 3 (AV.p (.int .i64 2)) v15 fun v27 =>
 buildSliceV tab 26 1 [(0, v27)] H3 (wkK fun v28 H6 =>
 appendV tab 26 26 v5 v28 H6 (wkK fun v29 H7 =>
 binV tab .add 3 v11 (AV.p (.int .i64 1)) fun v30 =>
 N1 v29 v30 H7))))
 (CallT Try.prog 28 [v5] H fun v32 H8 =>
 storeV tab 31 v4 v32 H8 fun H9 =>
 loadV tab 31 v4 H9 fun r0 =>
 K r0 H9)
def W41 (v0 : AV) (v1 : AV) (H : Heap) (K : AV → Heap → Prop) : Prop :=
 boxV v0 H fun v2 H1 =>
 allocV tab 31 H1 fun v4 H2 =>
 fieldAddrV tab 31 v2 0 fun v8 =>
 loadV tab 26 v8 H2 fun v9 =>
 lenV tab 26 v9 fun v10 =>
 L41_0 K v1 v4 (AV.p .nil) v9 v10 (AV.p (.int .i64 0)) H2
theorem W41_wp (v0 : AV) (v1 : AV) (H : Heap) (K : AV → Heap → Prop) : wpC Try.prog tab D41 (bodyOf Try.f41) (retF tab [.cell 4 31] K) (nthA [v0, v1]) H = W41 v0 v1 H K := by kernel_rfl
theorem W41_ok {v0 v1 : AV} {H : Heap} {K : AV → Heap → Prop} (h : W41 v0 v1 H K) : CallT Try.prog 41 [v0, v1] H K :=
  CallT.of_wp (D := D41) tab_ok mixed Try.func41 (c := bodyOf Try.f41) (by kernel_rfl) rfl (by kernel_rfl) (rs := #[.cell 4 31]) rfl (by decide +kernel) (by kernel_rfl) (W41_wp v0 v1 H K) h
theorem W41_hb : HasBody Try.prog 41 := ⟨_, bodyOf Try.f41, Try.func41, by kernel_rfl, rfl⟩
theorem L41_0_rule {K : AV → Heap → Prop} {v1 v4 v5 v9 v10 v11 : AV} {H : Heap} {σ : Type} (s0 : σ) (f5 : σ → AV) (f11 : σ → AV) (TH : σ → Heap) (pre : σ → Prop) (μ : σ → Nat)
    (h0 : pre s0 ∧ AV.wk v5 (f5 s0) ∧ AV.wk v11 (f11 s0) ∧ Heap.le (TH s0) H)
    (round : ∀ s, pre s → B41_0 K (fun w5 w11 H' => ∃ s', pre s' ∧ μ s' < μ s ∧ AV.wk w5 (f5 s') ∧ AV.wk w11 (f11 s') ∧ Heap.le (TH s') H') v1 v4 (f5 s) v9 v10 (f11 s) (TH s)) :
    L41_0 K v1 v4 v5 v9 v10 v11 H := by
  unfold L41_0
  exact LoopV.mk s0 (fun s => [f5 s, f11 s]) TH pre μ (fun _ => rfl) (Eq.mp (by kernel_rfl) h0) (fun s hs => Eq.mp (by kernel_rfl) (round s hs))
/-- loop.example/g00649/impl.isIncreasing -/
def D42 : Info := ⟨35, fun i => ([], []), fun i => if i = 2 then ([0, 1, 7, 8], [9]) else ([], [])⟩
def L42_0 (K : AV → Heap → Prop) (v0 : AV) (v1 : AV) (v7 : AV) (v8 : AV) (v9 : AV) (H : Heap) : Prop := LoopV (wpC Try.prog tab D42 (cAt [1, 0, 1, 0, 0] (bodyOf Try.f42))) [0, 1, 7, 8] (PostF.block 0 (PostF.thenA (wpC Try.prog tab D42 (cAt [1, 1] (bodyOf Try.f42))) (retF tab [.tmp 4] K))) [9] [v0, v1, AV.any, AV.any, AV.any, AV.any, AV.any, v7, v8, v9, AV.any, AV.any, AV.any, AV.any, AV.any, AV.any, AV.any, AV.any, AV.any, AV.any, AV.any, AV.any, AV.any, AV.any, AV.any, AV.any, AV.any, AV.any, AV.any, AV.any, AV.any, AV.any, AV.any, AV.any, AV.any] H
def B42_0 (K : AV → Heap → Prop) (N1 : AV → Heap → Prop) (v0 : AV) (v1 : AV) (v7 : AV) (v8 : AV) (v9 : AV) (H : Heap) : Prop :=
 binV tab .lss 3 v9 v8 fun v10 =>
 condV v10 (indexAddrV tab 26 v7 v9 fun v12 =>
 loadV tab 3 v12 H fun v13 =>
 binV tab .lss 3 v13 (AV.p (.int .i64 0)) fun v15 =>
 grdV v15 false (binV tab .geq 3 v13 v1 fun v19 =>
 grdV v19 false (binV tab .gtr 3 v9 (AV.p (.int .i64 0)) fun v23 =>
 grdV v23 true (binV tab .sub 3 v9 (AV.p (.int .i64 1)) fun v27 =>
 indexAddrV tab 26 v0 v27 fun v28 =>
 loadV tab 3 v28 H fun v29 =>
 binV tab .geq 3 v29 v13 fun v31 =>
 condV v31 (K (AV.p (.bool false)) H)
 (binV tab .add 3 v9 (AV.p (.int .i64 1)) fun v34 =>
 N1 v34 H))
 (binV tab .add 3 v9 (AV.p (.int .i64 1)) fun v34 =>
 N1 v34 H))
 (K (AV.p (.bool false)) H))
 (K (AV.p (.bool false)) H))
 (K (AV.p (.bool true)) H)
def W42 (v0 : AV) (v1 : AV) (H : Heap) (K : AV → Heap → Prop) : Prop :=
 lenV tab 26 v0 fun v8 =>
 L42_0 K v0 v1 v0 v8 (AV.p (.int .i64 0)) H
theorem W42_wp (v0 : AV) (v1 : AV) (H : Heap) (K : AV → Heap → Prop) : wpC Try.prog tab D42 (bodyOf Try.f42) (retF tab [.tmp 4] K) (nthA [v0, v1]) H = W42 v0 v1 H K := by kernel_rfl
theorem W42_ok {v0 v1 : AV} {H : Heap} {K : AV → Heap → Prop} (h : W42 v0 v1 H K) : CallT Try.prog 42 [v0, v1] H K :=
  CallT.of_wp (D := D42) tab_ok mixed Try.func42 (c := bodyOf Try.f42) (by kernel_rfl) rfl (by kernel_rfl) (rs := #[.tmp 4]) rfl (by decide +kernel) (by kernel_rfl) (W42_wp v0 v1 H K) h
theorem L42_0_rule {K : AV → Heap → Prop} {v0 v1 v7 v8 v9 : AV} {H : Heap} {σ : Type} (s0 : σ) (f9 : σ → AV) (TH : σ → Heap) (pre : σ → Prop) (μ : σ → Nat)
    (h0 : pre s0 ∧ AV.wk v9 (f9 s0) ∧ Heap.le (TH s0) H)
    (round : ∀ s, pre s → B42_0 K (fun w9 H' => ∃ s', pre s' ∧ μ s' < μ s ∧ AV.wk w9 (f9 s') ∧ Heap.le (TH s') H') v0 v1 v7 v8 (f9 s) (TH s)) :
    L42_0 K v0 v1 v7 v8 v9 H := by
  unfold L42_0
  exact LoopV.mk s0 (fun s => [f9 s]) TH pre μ (fun _ => rfl) (Eq.mp (by kernel_rfl) h0) (fun s hs => Eq.mp (by kernel_rfl) (round s hs))
/-- loop.example/g00649/impl.cutOut -/
def D44 : Info := ⟨27, fun i => ([], []), fun i => if i = 3 then ([2, 4, 5, 13, 14], [15]) else ([], [])⟩
def L44_0 (K : AV → Heap → Prop) (v2 : AV) (v4 : AV) (v5 : AV) (v13 : AV) (v14 : AV) (v15 : AV) (H : Heap) : Prop := LoopV (wpC Try.prog tab D44 (cAt [1, 1, 0, 1, 0, 0] (bodyOf Try.f44))) [2, 4, 5, 13, 14] (PostF.block 0 (PostF.thenA (wpC Try.prog tab D44 (cAt [1, 1, 1] (bodyOf Try.f44))) (retF tab [.cell 4 31] K))) [15] [AV.any, AV.any, v2, AV.any, v4, v5, AV.any, AV.any, AV.any, AV.any, AV.any, AV.any, AV.any, v13, v14, v15, AV.any, AV.any, AV.any, AV.any, AV.any, AV.any, AV.any, AV.any, AV.any, AV.any, AV.any] H
def B44_0 (K : AV → Heap → Prop) (N1 : AV → Heap → Prop) (v2 : AV) (v4 : AV) (v5 : AV) (v13 : AV) (v14 : AV) (v15 : AV) (H : Heap) : Prop :=
 binV tab .lss 3 v15 v14 fun v16 =>
 condV v16 (indexAddrV tab 26 v13 v15 fun v17 =>
 loadV tab 3 v17 H fun v18 =>
 fieldAddrV tab 31 v5 0 fun v19 =>
 loadV tab 26 v19 H fun v20 =>
 indexAddrV tab 26 v20 v18 fun v22 =>
 storeV tab 3 v22 (AV.p (.int .i64 1)) H fun H6 =>
 binV tab .add 3 v15 (AV.p (.int .i64 1)) fun v23 =>
 N1 v23 H6)
 (loadV tab 31 v2 H fun v24 =>
 loadV tab 31 v5 H fun v25 =>
 CallT Try.prog 32 [v24, v25] H fun v26 H7 =>
 storeV tab 31 v4 v26 H7 fun H8 =>
 loadV tab 31 v4 H8 fun r0 =>
 K r0 H8)
def W44 (v0 : AV) (v1 : AV) (H : Heap) (K : AV → Heap → Prop) : Prop :=
 boxV v0 H fun v2 H1 =>
 allocV tab 31 H1 fun v4 H2 =>
 fieldAddrV tab 31 v2 0 fun v8 =>
 loadV tab 26 v8 H2 fun v9 =>
 lenV tab 26 v9 fun v10 =>
 makeSliceV tab 26 v10 v10 H2 fun v11 H3 =>
 buildV tab 31 [(0, v11)] fun v12 =>
 allocV tab 31 H3 fun v5 H4 =>
 storeV tab 31 v5 v12 H4 fun H5 =>
 lenV tab 26 v1 fun v14 =>
 L44_0 K v2 v4 v5 v1 v14 (AV.p (.int .i64 0)) H5
theorem W44_wp (v0 : AV) (v1 : AV) (H : Heap) (K : AV → Heap → Prop) : wpC Try.prog tab D44 (bodyOf Try.f44) (retF tab [.cell 4 31] K) (nthA [v0, v1]) H = W44 v0 v1 H K := by kernel_rfl
theorem W44_ok {v0 v1 : AV} {H : Heap} {K : AV → Heap → Prop} (h : W44 v0 v1 H K) : CallT Try.prog 44 [v0, v1] H K :=
  CallT.of_wp (D := D44) tab_ok mixed Try.func44 (c := bodyOf Try.f44) (by kernel_rfl) rfl (by kernel_rfl) (rs := #[.cell 4 31]) rfl (by decide +kernel) (by kernel_rfl) (W44_wp v0 v1 H K) h
theorem L44_0_rule {K : AV → Heap → Prop} {v2 v4 v5 v13 v14 v15 : AV} {H : Heap} {σ : Type} (s0 : σ) (f15 : σ → AV) (TH : σ → Heap) (pre : σ → Prop) (μ : σ → Nat)
    (h0 : pre s0 ∧ AV.wk v15 (f15 s0) ∧ Heap.le (TH s0) H)
    (round : ∀ s, pre s → B44_0 K (fun w15 H' => ∃ s', pre s' ∧ μ s' < μ s ∧ AV.wk w15 (f15 s') ∧ Heap.le (TH s') H') v2 v4 v5 v13 v14 (f15 s) (TH s)) :
    L44_0 K v2 v4 v5 v13 v14 v15 H := by
  unfold L44_0
  exact LoopV.mk s0 (fun s => [f15 s]) TH pre μ (fun _ => rfl) (Eq.mp (by kernel_rfl) h0) (fun s hs => Eq.mp (by kernel_rfl) (round s hs))
/-- loop.example/g00649/spec.l1Has -/
def D57 : Info := ⟨17, fun i => ([], []), fun i => if i = 2 then ([1, 7, 8], [9]) else ([], [])⟩
def L57_0 (K : AV → Heap → Prop) (v1 : AV) (v7 : AV) (v8 : AV) (v9 : AV) (H : Heap) : Prop := LoopV (wpC Try.prog tab D57 (cAt [1, 0, 1, 0, 0] (bodyOf Try.f57))) [1, 7, 8] (PostF.block 0 (PostF.thenA (wpC Try.prog tab D57 (cAt [1, 1] (bodyOf Try.f57))) (retF tab [.tmp 4] K))) [9] [AV.any, v1, AV.any, AV.any, AV.any, AV.any, AV.any, v7, v8, v9, AV.any, AV.any, AV.any, AV.any, AV.any, AV.any, AV.any] H
def B57_0 (K : AV → Heap → Prop) (N1 : AV → Heap → Prop) (v1 : AV) (v7 : AV) (v8 : AV) (v9 : AV) (H : Heap) : Prop :=
 binV tab .lss 3 v9 v8 fun v10 =>
 condV v10 (indexAddrV tab 26 v7 v9 fun v11 =>
 loadV tab 3 v11 H fun v12 =>
 binV tab .eql 3 v12 v1 fun v15 =>
 condV v15 (K (AV.p (.bool true)) H)
 (binV tab .add 3 v9 (AV.p (.int .i64 1)) fun v16 =>
 N1 v16 H))
 (K (AV.p (.bool false)) H)
def W57 (v0 : AV) (v1 : AV) (H : Heap) (K : AV → Heap → Prop) : Prop :=
 lenV tab 26 v0 fun v8 =>
 L57_0 K v1 v0 v8 (AV.p (.int .i64 0)) H
theorem W57_wp (v0 : AV) (v1 : AV) (H : Heap) (K : AV → Heap → Prop) : wpC Try.prog tab D57 (bodyOf Try.f57) (retF tab [.tmp 4] K) (nthA [v0, v1]) H = W57 v0 v1 H K := by kernel_rfl
theorem W57_ok {v0 v1 : AV} {H : Heap} {K : AV → Heap → Prop} (h : W57 v0 v1 H K) : CallT Try.prog 57 [v0, v1] H K :=
  CallT.of_wp (D := D57) tab_ok mixed Try.func57 (c := bodyOf Try.f57) (by kernel_rfl) rfl (by kernel_rfl) (rs := #[.tmp 4]) rfl (by decide +kernel) (by kernel_rfl) (W57_wp v0 v1 H K) h
theorem L57_0_rule {K : AV → Heap → Prop} {v1 v7 v8 v9 : AV} {H : Heap} {σ : Type} (s0 : σ) (f9 : σ → AV) (TH : σ → Heap) (pre : σ → Prop) (μ : σ → Nat)
    (h0 : pre s0 ∧ AV.wk v9 (f9 s0) ∧ Heap.le (TH s0) H)
    (round : ∀ s, pre s → B57_0 K (fun w9 H' => ∃ s', pre s' ∧ μ s' < μ s ∧ AV.wk w9 (f9 s') ∧ Heap.le (TH s') H') v1 v7 v8 (f9 s) (TH s)) :
    L57_0 K v1 v7 v8 v9 H := by
  unfold L57_0
  exact LoopV.mk s0 (fun s => [f9 s]) TH pre μ (fun _ => rfl) (Eq.mp (by kernel_rfl) h0) (fun s hs => Eq.mp (by kernel_rfl) (round s hs))
end Go.Proofs.Ytdnfiacjoghfkaa

/- General rules for specs: numbers, weakenings, literals, functions of values at a heap. -/
namespace Go.Proofs.Ytdnfiacjoghfkaa
open Go Go.Sep
set_option linter.unusedSimpArgs false
set_option linter.unusedVariables false
attribute [local irreducible] CallT
theorem i64_id {n : Int} (h0 : -9223372036854775808 ≤ n) (h1 : n ≤ 9223372036854775807) : IntKind.i64.wrap n = n := wrap64_id h0 h1
theorem wk_int {k : IntKind} {a b : Int} : AV.wk (.p (.int k a)) (.p (.int k b)) = (a = b) := by
  apply propext; constructor
  · intro h; cases h; rfl
  · rintro rfl; exact .refl _
theorem take_all_succ {α : Type} {p : α → Bool} {xs : List α} {i : Nat} (h : i < xs.length) : (xs.take (i + 1)).all p = ((xs.take i).all p && p xs[i]) := by
  rw [List.take_succ_eq_append_getElem h, List.all_append]; simp
theorem getD_lt {α : Type} {xs : List α} {i : Nat} {d : α} (h : i < xs.length) : xs.getD i d = xs[i] := by simp [List.getD, h]
theorem getD_all {α : Type} {p : α → Prop} {l : List α} {d : α} (h : ∀ b ∈ l, p b) {i : Nat} (hi : i < l.length) : p (l.getD i d) := by
  simp only [List.getD, List.getElem?_eq_getElem hi, Option.getD_some]; exact h _ (List.getElem_mem hi)
theorem range_all_succ {p : Nat → Bool} {n : Nat} : (List.range (n + 1)).all p = ((List.range n).all p && p n) := by
  rw [List.range_succ, List.all_append]; simp
theorem range_all_false {p : Nat → Bool} {n i : Nat} (hi : i < n) (h : p i = false) : (List.range n).all p = false := by
  rw [List.all_eq_false]; exact ⟨i, List.mem_range.2 hi, by simp [h]⟩

theorem Wk.own_le {q sz : Nat} {es : List (List PV)} {H H' : Heap} (hpos : 0 < sz) (hs : Sized sz es) (hq : H q = none) (hle : Heap.le (H.set q (cells es)) H') : Wk (own q sz es) H' (.p (.sl es)) H := by
  have h1 : H' q = some (cells es) := hle q _ (Heap.set_same _ _ _)
  refine .trans (.own hpos hs h1) (.forget (Heap.le_del (fun x b hx => hle x b ?_) hq))
  rw [Heap.set_other (fun e => by rw [e, hq] at hx; cases hx)]; exact hx
/-- What is asked may be told of less. -/
theorem CallT.fin {P : Program} {f : Nat} {args : List AV} {H : Heap} {K : AV → Heap → Prop} (h : CallT P f args H (wkK K)) : CallT P f args H K :=
  h.wk fun v H1 ⟨v', H2, hw, hk⟩ => ⟨v', H2, hw, hk⟩
theorem szI (xs : List Int) : Sized 1 (xs.map eI) := sized_map (f := eI) (fun _ => rfl) xs
theorem cells_I (xs : List Int) : cells (xs.map eI) = xs.map fun n => I n := by
  induction xs with
  | nil => rfl
  | cons x xs ih => simp only [cells, List.map_cons, List.flatten_cons, List.map_append] at ih ⊢; rw [ih]; rfl

/-- A list of lists, a list of booleans. -/
abbrev eL (l : List Int) : List PV := [.sl (l.map eI)]
abbrev Ls (cs : List (List Int)) : AV := .p (.sl (cs.map eL))
/-- A row that is told by value at the end. -/
theorem fin_own {q sz : Nat} {es : List (List PV)} {H H' : Heap} {K : AV → Heap → Prop} (hpos : 0 < sz) (hs : Sized sz es) (hq : H q = none) (hle : Heap.le (H.set q (cells es)) H') (h : K (.p (.sl es)) H) : wkK K (own q sz es) H' :=
  ⟨_, _, Wk.own_le hpos hs hq hle, h⟩
theorem fin_le {v : AV} {H H' : Heap} {K : AV → Heap → Prop} (hle : Heap.le H H') (h : K v H) : wkK K v H' := ⟨_, _, .forget hle, h⟩

/-- A function of values alone at one heap. -/
def PuAt (P : Program) (f : Nat) (args : List AV) (H : Heap) (v : AV) : Prop := ∀ K : AV → Heap → Prop, K v H → CallT P f args H K
theorem Pu.at {P : Program} {f : Nat} {args : List AV} {v : AV} (h : Pu P f args v) (H : Heap) : PuAt P f args H v := fun K hk => h.use hk
theorem PuAt.use {P : Program} {f : Nat} {args : List AV} {v : AV} {H : Heap} (h : PuAt P f args H v) {K : AV → Heap → Prop} (k : K v H) : CallT P f args H K := h K k

/-! ### Literals of plain elements -/
end Go.Proofs.Ytdnfiacjoghfkaa
/- Spec: numbers in ranges. -/
namespace Go.Proofs.Ytdnfiacjoghfkaa
open Go Go.Sep
set_option linter.unusedSimpArgs false
set_option linter.unusedVariables false
attribute [local irreducible] CallT
theorem l1In_spec (a lo hi : Int) : Pu Try.prog 48 [I a, I lo, I hi] (B (decide (lo ≤ a) && decide (a ≤ hi))) := by
  refine Pu.of fun H => ?_
  refine W48_ok ?_; simp (maxSteps := 1000000) (disch := first | assumption | (apply Ne.symm; assumption)) only [W48, vz, vu, vv, eqS, eqFieldsV, ↓condV_t, ↓condV_f, tabs, reduceCtorEq, Array.toList, ↓reduceIte, Nat.reduceAdd, Nat.reduceLeDiff, Nat.reduceLT, Nat.reduceMul, Nat.reduceSub, Int.reduceToNat, Int.reduceSub, Int.reduceAdd, Int.reduceNeg]
  exact ⟨fun h => by simp [h], fun h => by simp [h]⟩

end Go.Proofs.Ytdnfiacjoghfkaa
/- Rules for rows that are filled one element after the other. -/
namespace Go.Proofs.Ytdnfiacjoghfkaa
open Go Go.Sep
set_option linter.unusedSimpArgs false
set_option linter.unusedVariables false

/-- The cells of a row whose first i elements are told. -/
def rowZ {α : Type} (e : α → List PV) (zero : List AV) (xs : List α) (i : Nat) : List AV := cells ((xs.take i).map e) ++ zerosA (xs.length - i) zero
theorem rowZ_zero {α : Type} {e : α → List PV} {zero : List AV} {xs : List α} : rowZ e zero xs 0 = zerosA xs.length zero := by simp [rowZ, cells]
theorem rowZ_end {α : Type} {e : α → List PV} {zero : List AV} {xs : List α} : rowZ e zero xs xs.length = cells (xs.map e) := by
  simp [rowZ, zerosA]
theorem cells_map_len {α : Type} {e : α → List PV} {sz : Nat} (h : ∀ a, (e a).length = sz) (xs : List α) : (cells (xs.map e)).length = xs.length * sz := by
  rw [cells_len (sized_map h xs), List.length_map]
theorem rowZ_len {α : Type} {e : α → List PV} {zero : List AV} {xs : List α} {i sz : Nat} (h : ∀ a, (e a).length = sz) (hz : zero.length = sz) (hi : i ≤ xs.length) : (rowZ e zero xs i).length = xs.length * sz := by
  rw [rowZ, List.length_append, cells_map_len h, zerosA_len, hz, List.length_take, Nat.min_eq_left hi, ← Nat.add_mul]
  congr 1; omega
theorem zerosA_succ (n : Nat) (z : List AV) : zerosA (n + 1) z = z ++ zerosA n z := by simp [zerosA, List.replicate_succ]
theorem rowZ_put {α : Type} [Inhabited α] {e : α → List PV} {zero : List AV} {xs : List α} {i sz : Nat} (h : ∀ a, (e a).length = sz) (hz : zero.length = sz) (hi : i < xs.length) {off : Nat} (ho : off = i * sz) {n : Nat} (hn : n = sz) :
    List.take off (rowZ e zero xs i) ++ (e (xs.getD i default)).map .p ++ List.drop (off + n) (rowZ e zero xs i) = rowZ e zero xs (i + 1) := by
  subst ho; subst hn
  have hl : (cells ((xs.take i).map e)).length = i * n := by rw [cells_map_len h, List.length_take, Nat.min_eq_left (Nat.le_of_lt hi)]
  have e1 : List.take (i * n) (rowZ e zero xs i) = cells ((xs.take i).map e) := by
    rw [rowZ, List.take_append_of_le_length (by omega), List.take_of_length_le (by omega)]
  have e2 : List.drop (i * n + n) (rowZ e zero xs i) = zerosA (xs.length - (i + 1)) zero := by
    rw [rowZ, List.drop_append, List.drop_of_length_le (by omega), List.nil_append, hl, Nat.add_sub_cancel_left]
    obtain ⟨m, hm⟩ : ∃ m, xs.length - i = m + 1 := ⟨xs.length - i - 1, by omega⟩
    rw [hm, zerosA_succ, List.drop_append_of_le_length (by omega), List.drop_of_length_le (by omega), List.nil_append]
    congr 1; omega
  rw [e1, e2, rowZ]
  congr 1
  rw [List.take_succ_eq_append_getElem hi, List.map_append, cells_app]
  congr 1
  simp [cells, List.getD, hi]
end Go.Proofs.Ytdnfiacjoghfkaa
