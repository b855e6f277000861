/- Texts laid together: W3 W4 W5 WA Lb0 Lb1a Lb3 Pt1 Le1. -/
import Derived.Test.YtdnfiacjoghfkaaGreatPkb4
import Derived.KernelRfl
set_option linter.unusedVariables false
set_option linter.unusedSimpArgs false
/- What each function's code is asked for, as a formula. Written by wgen.py (a program of this session's) out of Lean's print of the program. -/
namespace Go.Proofs.YtdnfiacjoghfkaaGreat
open Go Go.Sep
set_option linter.unusedVariables false
attribute [local irreducible] wpC headF
/-- loop.example/g00649/spec.l1Has -/
def D86 : Info := ⟨17, fun i => ([], []), fun i => if i = 2 then ([1, 7, 8], [9]) else ([], [])⟩
def L86_0 (K : AV → Heap → Prop) (v1 : AV) (v7 : AV) (v8 : AV) (v9 : AV) (H : Heap) : Prop := LoopV (wpC Tryz.prog tab D86 (cAt [1, 0, 1, 0, 0] (bodyOf Tryz.f86))) [1, 7, 8] (PostF.block 0 (PostF.thenA (wpC Tryz.prog tab D86 (cAt [1, 1] (bodyOf Tryz.f86))) (retF tab [.tmp 4] K))) [9] [AV.any, v1, AV.any, AV.any, AV.any, AV.any, AV.any, v7, v8, v9, AV.any, AV.any, AV.any, AV.any, AV.any, AV.any, AV.any] H
def B86_0 (K : AV → Heap → Prop) (N1 : AV → Heap → Prop) (v1 : AV) (v7 : AV) (v8 : AV) (v9 : AV) (H : Heap) : Prop :=
 binV tab .lss 3 v9 v8 fun v10 =>
 condV v10 (indexAddrV tab 29 v7 v9 fun v11 =>
 loadV tab 3 v11 H fun v12 =>
 binV tab .eql 3 v12 v1 fun v15 =>
 condV v15 (K (AV.p (.bool true)) H)
 (binV tab .add 3 v9 (AV.p (.int .i64 1)) fun v16 =>
 N1 v16 H))
 (K (AV.p (.bool false)) H)
def W86 (v0 : AV) (v1 : AV) (H : Heap) (K : AV → Heap → Prop) : Prop :=
 lenV tab 29 v0 fun v8 =>
 L86_0 K v1 v0 v8 (AV.p (.int .i64 0)) H
theorem W86_wp (v0 : AV) (v1 : AV) (H : Heap) (K : AV → Heap → Prop) : wpC Tryz.prog tab D86 (bodyOf Tryz.f86) (retF tab [.tmp 4] K) (nthA [v0, v1]) H = W86 v0 v1 H K := by kernel_rfl
theorem W86_ok {v0 v1 : AV} {H : Heap} {K : AV → Heap → Prop} (h : W86 v0 v1 H K) : CallT Tryz.prog 86 [v0, v1] H K :=
  CallT.of_wp (D := D86) tab_ok mixed Tryz.func86 (c := bodyOf Tryz.f86) (by kernel_rfl) rfl (by kernel_rfl) (rs := #[.tmp 4]) rfl (by decide +kernel) (by kernel_rfl) (W86_wp v0 v1 H K) h
theorem L86_0_rule {K : AV → Heap → Prop} {v1 v7 v8 v9 : AV} {H : Heap} {σ : Type} (s0 : σ) (f9 : σ → AV) (TH : σ → Heap) (pre : σ → Prop) (μ : σ → Nat)
    (h0 : pre s0 ∧ AV.wk v9 (f9 s0) ∧ Heap.le (TH s0) H)
    (round : ∀ s, pre s → B86_0 K (fun w9 H' => ∃ s', pre s' ∧ μ s' < μ s ∧ AV.wk w9 (f9 s') ∧ Heap.le (TH s') H') v1 v7 v8 (f9 s) (TH s)) :
    L86_0 K v1 v7 v8 v9 H := by
  unfold L86_0
  exact LoopV.mk s0 (fun s => [f9 s]) TH pre μ (fun _ => rfl) (Eq.mp (by kernel_rfl) h0) (fun s hs => Eq.mp (by kernel_rfl) (round s hs))
/-- loop.example/g00649/spec.l15Of -/
def D87 : Info := ⟨46, fun i => ([], []), fun i => if i = 4 then ([0, 2, 3, 9, 10], [4, 11]) else if i = 8 then ([0, 2, 3, 4, 5, 6, 9, 10, 11], [7, 8]) else ([], [])⟩
def L87_0 (K : AV → Heap → Prop) (v0 : AV) (v2 : AV) (v3 : AV) (v4 : AV) (v9 : AV) (v10 : AV) (v11 : AV) (H : Heap) : Prop := LoopV (wpC Tryz.prog tab D87 (cAt [1, 1, 1, 0, 1, 0, 0] (bodyOf Tryz.f87))) [0, 2, 3, 9, 10] (PostF.block 0 (PostF.thenA (wpC Tryz.prog tab D87 (cAt [1, 1, 1, 1] (bodyOf Tryz.f87))) (retF tab [.cell 2 31] K))) [4, 11] [v0, AV.any, v2, v3, v4, AV.any, AV.any, AV.any, AV.any, v9, v10, v11, AV.any, AV.any, AV.any, AV.any, AV.any, AV.any, AV.any, AV.any, AV.any, AV.any, AV.any, AV.any, AV.any, AV.any, AV.any, AV.any, AV.any, AV.any, AV.any, AV.any, AV.any, AV.any, AV.any, AV.any, AV.any, AV.any, AV.any, AV.any, AV.any, AV.any, AV.any, AV.any, AV.any, AV.any] H
def L87_1 (K : AV → Heap → Prop) (N1 : AV → AV → Heap → Prop) (v0 : AV) (v2 : AV) (v3 : AV) (v4 : AV) (v5 : AV) (v6 : AV) (v7 : AV) (v8 : AV) (v9 : AV) (v10 : AV) (v11 : AV) (H : Heap) : Prop := LoopV (wpC Tryz.prog tab D87 (cAt [1, 1, 1, 0, 1, 0, 0, 1, 1, 0, 0, 1, 1, 0, 1, 0, 0] (bodyOf Tryz.f87))) [0, 2, 3, 4, 5, 6, 9, 10, 11] (PostF.block 2 (PostF.thenA (wpC Tryz.prog tab D87 (cAt [1, 1, 1, 0, 1, 0, 0, 1, 1, 0, 0, 1, 1, 1] (bodyOf Tryz.f87))) (PostF.block 1 (PostF.thenA (wpC Tryz.prog tab D87 (cAt [1, 1, 1, 0, 1, 0, 0, 1, 1, 1] (bodyOf Tryz.f87))) (loopF (PostF.block 0 (PostF.thenA (wpC Tryz.prog tab D87 (cAt [1, 1, 1, 1] (bodyOf Tryz.f87))) (retF tab [.cell 2 31] K))) (fun e h => N1 (e 4) (e 11) h)))))) [7, 8] [v0, AV.any, v2, v3, v4, v5, v6, v7, v8, v9, v10, v11, AV.any, AV.any, AV.any, AV.any, AV.any, AV.any, AV.any, AV.any, AV.any, AV.any, AV.any, AV.any, AV.any, AV.any, AV.any, AV.any, AV.any, AV.any, AV.any, AV.any, AV.any, AV.any, AV.any, AV.any, AV.any, AV.any, AV.any, AV.any, AV.any, AV.any, AV.any, AV.any, AV.any, AV.any] H
def J87_2 (K : AV → Heap → Prop) (N1 : AV → AV → Heap → Prop) (v0 : AV) (v2 : AV) (v3 : AV) (v4 : AV) (v7 : AV) (v9 : AV) (v10 : AV) (v11 : AV) (H : Heap) : Prop :=
 fieldAddrV tab 31 v3 0 fun v38 =>
 loadV tab 29 v38 H fun v39 =>
 buildSliceV tab 29 1 [(0, v7)] H (wkK fun v41 H3 =>
 appendV tab 29 29 v39 v41 H3 (wkK fun v42 H4 =>
 fieldAddrV tab 31 v3 0 fun v43 =>
 storeV tab 29 v43 v42 H4 fun H5 =>
 binV tab .add 3 v11 (AV.p (.int .i64 1)) fun v44 =>
 N1 v4 v44 H5))
def J87_3 (K : AV → Heap → Prop) (N1 : AV → AV → Heap → Prop) (v0 : AV) (v2 : AV) (v3 : AV) (v4 : AV) (v7 : AV) (v9 : AV) (v10 : AV) (v11 : AV) (H : Heap) : Prop :=
 binV tab .eql 3 v7 v4 fun v35 =>
 condV v35 (binV tab .add 3 v4 (AV.p (.int .i64 1)) fun v37 =>
 J87_2 K N1 v0 v2 v3 v37 v7 v9 v10 v11 H)
 (J87_2 K N1 v0 v2 v3 v4 v7 v9 v10 v11 H)
def B87_1 (K : AV → Heap → Prop) (N1 : AV → AV → Heap → Prop) (N2 : AV → AV → Heap → Prop) (v0 : AV) (v2 : AV) (v3 : AV) (v4 : AV) (v5 : AV) (v6 : AV) (v7 : AV) (v8 : AV) (v9 : AV) (v10 : AV) (v11 : AV) (H : Heap) : Prop :=
 binV tab .lss 3 v8 v5 fun v19 =>
 condV v19 (indexAddrV tab 29 v0 v8 fun v24 =>
 loadV tab 3 v24 H fun v25 =>
 binV tab .eql 3 v25 v6 fun v27 =>
 condV v27 (fieldAddrV tab 31 v3 0 fun v28 =>
 loadV tab 29 v28 H fun v29 =>
 indexAddrV tab 29 v29 v8 fun v31 =>
 loadV tab 3 v31 H fun v32 =>
 J87_3 K N1 v0 v2 v3 v4 v32 v9 v10 v11 H)
 (binV tab .add 3 v8 (AV.p (.int .i64 1)) fun v21 =>
 N2 v7 v21 H))
 (J87_3 K N1 v0 v2 v3 v4 v7 v9 v10 v11 H)
def B87_0 (K : AV → Heap → Prop) (N1 : AV → AV → Heap → Prop) (v0 : AV) (v2 : AV) (v3 : AV) (v4 : AV) (v9 : AV) (v10 : AV) (v11 : AV) (H : Heap) : Prop :=
 binV tab .lss 3 v11 v10 fun v12 =>
 condV v12 (indexAddrV tab 29 v9 v11 fun v14 =>
 loadV tab 3 v14 H fun v15 =>
 L87_1 K N1 v0 v2 v3 v4 v11 v15 v4 (AV.p (.int .i64 0)) v9 v10 v11 H)
 (loadV tab 31 v3 H fun v45 =>
 storeV tab 31 v2 v45 H fun H6 =>
 loadV tab 31 v2 H6 fun r0 =>
 K r0 H6)
def W87 (v0 : AV) (H : Heap) (K : AV → Heap → Prop) : Prop :=
 allocV tab 31 H fun v2 H1 =>
 allocV tab 31 H1 fun v3 H2 =>
 lenV tab 29 v0 fun v10 =>
 L87_0 K v0 v2 v3 (AV.p (.int .i64 0)) v0 v10 (AV.p (.int .i64 0)) H2
theorem W87_wp (v0 : AV) (H : Heap) (K : AV → Heap → Prop) : wpC Tryz.prog tab D87 (bodyOf Tryz.f87) (retF tab [.cell 2 31] K) (nthA [v0]) H = W87 v0 H K := by kernel_rfl
theorem W87_ok {v0 : AV} {H : Heap} {K : AV → Heap → Prop} (h : W87 v0 H K) : CallT Tryz.prog 87 [v0] H K :=
  CallT.of_wp (D := D87) tab_ok mixed Tryz.func87 (c := bodyOf Tryz.f87) (by kernel_rfl) rfl (by kernel_rfl) (rs := #[.cell 2 31]) rfl (by decide +kernel) (by kernel_rfl) (W87_wp v0 H K) h
theorem L87_1_rule {K : AV → Heap → Prop} {N1 : AV → AV → Heap → Prop} {v0 v2 v3 v4 v5 v6 v7 v8 v9 v10 v11 : AV} {H : Heap} {σ : Type} (s0 : σ) (f7 : σ → AV) (f8 : σ → AV) (TH : σ → Heap) (pre : σ → Prop) (μ : σ → Nat)
    (h0 : pre s0 ∧ AV.wk v7 (f7 s0) ∧ AV.wk v8 (f8 s0) ∧ Heap.le (TH s0) H)
    (round : ∀ s, pre s → B87_1 K N1 (fun w7 w8 H' => ∃ s', pre s' ∧ μ s' < μ s ∧ AV.wk w7 (f7 s') ∧ AV.wk w8 (f8 s') ∧ Heap.le (TH s') H') v0 v2 v3 v4 v5 v6 (f7 s) (f8 s) v9 v10 v11 (TH s)) :
    L87_1 K N1 v0 v2 v3 v4 v5 v6 v7 v8 v9 v10 v11 H := by
  unfold L87_1
  exact LoopV.mk s0 (fun s => [f7 s, f8 s]) TH pre μ (fun _ => rfl) (Eq.mp (by kernel_rfl) h0) (fun s hs => Eq.mp (by kernel_rfl) (round s hs))
theorem L87_0_rule {K : AV → Heap → Prop} {v0 v2 v3 v4 v9 v10 v11 : AV} {H : Heap} {σ : Type} (s0 : σ) (f4 : σ → AV) (f11 : σ → AV) (TH : σ → Heap) (pre : σ → Prop) (μ : σ → Nat)
    (h0 : pre s0 ∧ AV.wk v4 (f4 s0) ∧ AV.wk v11 (f11 s0) ∧ Heap.le (TH s0) H)
    (round : ∀ s, pre s → B87_0 K (fun w4 w11 H' => ∃ s', pre s' ∧ μ s' < μ s ∧ AV.wk w4 (f4 s') ∧ AV.wk w11 (f11 s') ∧ Heap.le (TH s') H') v0 v2 v3 (f4 s) v9 v10 (f11 s) (TH s)) :
    L87_0 K v0 v2 v3 v4 v9 v10 v11 H := by
  unfold L87_0
  exact LoopV.mk s0 (fun s => [f4 s, f11 s]) TH pre μ (fun _ => rfl) (Eq.mp (by kernel_rfl) h0) (fun s hs => Eq.mp (by kernel_rfl) (round s hs))
/-- loop.example/g00649/spec.l7Holds -/
def D88 : Info := ⟨16, fun i => ([], []), fun i => ([], [])⟩
def W88 (v0 : AV) (v1 : AV) (v2 : AV) (H : Heap) (K : AV → Heap → Prop) : Prop :=
 boxV v0 H fun v3 H1 =>
 fieldAddrV tab 37 v3 0 fun v7 =>
 loadV tab 3 v7 H1 fun v8 =>
 lenV tab 34 v1 fun v11 =>
 binV tab .sub 3 v11 (AV.p (.int .i64 1)) fun v12 =>
 CallT Tryz.prog 99 [v8, v1, v12, v2] H1 fun v14 H2 =>
 binV tab .eql 68 v14 (AV.p (.int .u64 1)) fun v15 =>
 K v15 H2
theorem W88_wp (v0 : AV) (v1 : AV) (v2 : AV) (H : Heap) (K : AV → Heap → Prop) : wpC Tryz.prog tab D88 (bodyOf Tryz.f88) (retF tab [.tmp 6] K) (nthA [v0, v1, v2]) H = W88 v0 v1 v2 H K := by kernel_rfl
theorem W88_ok {v0 v1 v2 : AV} {H : Heap} {K : AV → Heap → Prop} (h : W88 v0 v1 v2 H K) : CallT Tryz.prog 88 [v0, v1, v2] H K :=
  CallT.of_wp (D := D88) tab_ok mixed Tryz.func88 (c := bodyOf Tryz.f88) (by kernel_rfl) rfl (by kernel_rfl) (rs := #[.tmp 6]) rfl (by decide +kernel) (by kernel_rfl) (W88_wp v0 v1 v2 H K) h
/-- loop.example/g00649/spec.l7Of -/
def D89 : Info := ⟨31, fun i => ([], []), fun i => if i = 3 then ([1, 2], [5, 6]) else ([], [])⟩
def L89_0 (K : AV → Heap → Prop) (v1 : AV) (v2 : AV) (v5 : AV) (v6 : AV) (H : Heap) : Prop := LoopV (wpC Tryz.prog tab D89 (cAt [1, 1, 0, 1, 0, 0] (bodyOf Tryz.f89))) [1, 2] (PostF.block 0 (PostF.thenA (wpC Tryz.prog tab D89 (cAt [1, 1, 1] (bodyOf Tryz.f89))) (retF tab [.tmp 4] K))) [5, 6] [AV.any, v1, v2, AV.any, AV.any, v5, v6, AV.any, AV.any, AV.any, AV.any, AV.any, AV.any, AV.any, AV.any, AV.any, AV.any, AV.any, AV.any, AV.any, AV.any, AV.any, AV.any, AV.any, AV.any, AV.any, AV.any, AV.any, AV.any, AV.any, AV.any] H
def B89_0 (K : AV → Heap → Prop) (N1 : AV → AV → Heap → Prop) (v1 : AV) (v2 : AV) (v5 : AV) (v6 : AV) (H : Heap) : Prop :=
 fieldAddrV tab 37 v2 1 fun v8 =>
 loadV tab 3 v8 H fun v9 =>
 binV tab .lss 3 v6 v9 fun v10 =>
 condV v10 (fieldAddrV tab 37 v2 0 fun v16 =>
 loadV tab 3 v16 H fun v17 =>
 binV tab .mul 3 v6 v17 fun v18 =>
 convV tab 3 109 v18 fun v19 =>
 binV tab .shr 3 v1 v19 fun v20 =>
 fieldAddrV tab 37 v2 0 fun v21 =>
 loadV tab 3 v21 H fun v22 =>
 convV tab 3 109 v22 fun v23 =>
 binV tab .shl 3 (AV.p (.int .i64 1)) v23 fun v24 =>
 binV tab .sub 3 v24 (AV.p (.int .i64 1)) fun v25 =>
 binV tab .and 3 v20 v25 fun v26 =>
 convV tab 3 68 v26 fun v27 =>
 buildSliceV tab 65 1 [(0, v27)] H (wkK fun v28 H2 =>
 appendV tab 65 65 v5 v28 H2 (wkK fun v29 H3 =>
 binV tab .add 3 v6 (AV.p (.int .i64 1)) fun v12 =>
 N1 v29 v12 H3)))
 (K v5 H)
def W89 (v0 : AV) (v1 : AV) (H : Heap) (K : AV → Heap → Prop) : Prop :=
 boxV v0 H fun v2 H1 =>
 L89_0 K v1 v2 (AV.p .nil) (AV.p (.int .i64 0)) H1
theorem W89_wp (v0 : AV) (v1 : AV) (H : Heap) (K : AV → Heap → Prop) : wpC Tryz.prog tab D89 (bodyOf Tryz.f89) (retF tab [.tmp 4] K) (nthA [v0, v1]) H = W89 v0 v1 H K := by kernel_rfl
theorem W89_ok {v0 v1 : AV} {H : Heap} {K : AV → Heap → Prop} (h : W89 v0 v1 H K) : CallT Tryz.prog 89 [v0, v1] H K :=
  CallT.of_wp (D := D89) tab_ok mixed Tryz.func89 (c := bodyOf Tryz.f89) (by kernel_rfl) rfl (by kernel_rfl) (rs := #[.tmp 4]) rfl (by decide +kernel) (by kernel_rfl) (W89_wp v0 v1 H K) h
theorem W89_hb : HasBody Tryz.prog 89 := ⟨_, bodyOf Tryz.f89, Tryz.func89, by kernel_rfl, rfl⟩
theorem L89_0_rule {K : AV → Heap → Prop} {v1 v2 v5 v6 : AV} {H : Heap} {σ : Type} (s0 : σ) (f5 : σ → AV) (f6 : σ → AV) (TH : σ → Heap) (pre : σ → Prop) (μ : σ → Nat)
    (h0 : pre s0 ∧ AV.wk v5 (f5 s0) ∧ AV.wk v6 (f6 s0) ∧ Heap.le (TH s0) H)
    (round : ∀ s, pre s → B89_0 K (fun w5 w6 H' => ∃ s', pre s' ∧ μ s' < μ s ∧ AV.wk w5 (f5 s') ∧ AV.wk w6 (f6 s') ∧ Heap.le (TH s') H') v1 v2 (f5 s) (f6 s) (TH s)) :
    L89_0 K v1 v2 v5 v6 H := by
  unfold L89_0
  exact LoopV.mk s0 (fun s => [f5 s, f6 s]) TH pre μ (fun _ => rfl) (Eq.mp (by kernel_rfl) h0) (fun s hs => Eq.mp (by kernel_rfl) (round s hs))
/-- loop.example/g00649/laws.szChange -/
def D90 : Info := ⟨12, fun i => ([], []), fun i => ([], [])⟩
def W90 (v0 : AV) (v1 : AV) (H : Heap) (K : AV → Heap → Prop) : Prop :=
 boxV v0 H fun v2 H1 =>
 fieldAddrV tab 133 v2 1 fun v5 =>
 loadV tab 22 v5 H1 fun v6 =>
 CallT Tryz.prog 19 [v6, v1] H1 fun v8 H2 =>
 binV tab .lss 3 v8 (AV.p (.int .i64 0)) fun v10 =>
 condV v10 (K (AV.p (.int .i64 (-1))) H2)
 (K v8 H2)
theorem W90_wp (v0 : AV) (v1 : AV) (H : Heap) (K : AV → Heap → Prop) : wpC Tryz.prog tab D90 (bodyOf Tryz.f90) (retF tab [.tmp 4] K) (nthA [v0, v1]) H = W90 v0 v1 H K := by kernel_rfl
theorem W90_ok {v0 v1 : AV} {H : Heap} {K : AV → Heap → Prop} (h : W90 v0 v1 H K) : CallT Tryz.prog 90 [v0, v1] H K :=
  CallT.of_wp (D := D90) tab_ok mixed Tryz.func90 (c := bodyOf Tryz.f90) (by kernel_rfl) rfl (by kernel_rfl) (rs := #[.tmp 4]) rfl (by decide +kernel) (by kernel_rfl) (W90_wp v0 v1 H K) h
/-- loop.example/g00649/laws.toChange -/
def D91 : Info := ⟨12, fun i => ([], []), fun i => ([], [])⟩
def W91 (v0 : AV) (H : Heap) (K : AV → Heap → Prop) : Prop :=
 boxV v0 H fun v1 H1 =>
 allocV tab 123 H1 fun v2 H2 =>
 allocV tab 123 H2 fun v3 H3 =>
 fieldAddrV tab 133 v1 0 fun v4 =>
 loadV tab 3 v4 H3 fun v5 =>
 fieldAddrV tab 123 v3 0 fun v6 =>
 storeV tab 3 v6 v5 H3 fun H4 =>
 fieldAddrV tab 133 v1 1 fun v7 =>
 loadV tab 22 v7 H4 fun v8 =>
 CallT Tryz.prog 22 [v8] H4 fun v9 H5 =>
 fieldAddrV tab 123 v3 1 fun v10 =>
 storeV tab 34 v10 v9 H5 fun H6 =>
 loadV tab 123 v3 H6 fun v11 =>
 storeV tab 123 v2 v11 H6 fun H7 =>
 loadV tab 123 v2 H7 fun r0 =>
 K r0 H7
theorem W91_wp (v0 : AV) (H : Heap) (K : AV → Heap → Prop) : wpC Tryz.prog tab D91 (bodyOf Tryz.f91) (retF tab [.cell 2 123] K) (nthA [v0]) H = W91 v0 H K := by kernel_rfl
theorem W91_ok {v0 : AV} {H : Heap} {K : AV → Heap → Prop} (h : W91 v0 H K) : CallT Tryz.prog 91 [v0] H K :=
  CallT.of_wp (D := D91) tab_ok mixed Tryz.func91 (c := bodyOf Tryz.f91) (by kernel_rfl) rfl (by kernel_rfl) (rs := #[.cell 2 123]) rfl (by decide +kernel) (by kernel_rfl) (W91_wp v0 H K) h
/-- slices.IndexFunc[[]loop.example/g00649/impl.Command,loop.example/g00649/impl.Command] -/
def D92 : Info := ⟨19, fun i => ([], []), fun i => if i = 2 then ([0, 1, 7], [8]) else ([], [])⟩
def L92_0 (K : AV → Heap → Prop) (v0 : AV) (v1 : AV) (v7 : AV) (v8 : AV) (H : Heap) : Prop := LoopV (wpC Tryz.prog tab D92 (cAt [1, 0, 1, 0, 0] (bodyOf Tryz.f92))) [0, 1, 7] (PostF.block 0 (PostF.thenA (wpC Tryz.prog tab D92 (cAt [1, 1] (bodyOf Tryz.f92))) (retF tab [.tmp 4] K))) [8] [v0, v1, AV.any, AV.any, AV.any, AV.any, AV.any, v7, v8, AV.any, AV.any, AV.any, AV.any, AV.any, AV.any, AV.any, AV.any, AV.any, AV.any] H
def B92_0 (K : AV → Heap → Prop) (N1 : AV → Heap → Prop) (v0 : AV) (v1 : AV) (v7 : AV) (v8 : AV) (H : Heap) : Prop :=
 binV tab .lss 3 v8 v7 fun v9 =>
 condV v9 (indexAddrV tab 35 v0 v8 fun v14 =>
 loadV tab 92 v14 H fun v15 =>
 callF Tryz.prog v1 [v15] H fun v16 H1 =>
 condV v16 (K v8 H1)
 (binV tab .add 3 v8 (AV.p (.int .i64 1)) fun v18 =>
 N1 v18 H1))
 (K (AV.p (.int .i64 (-1))) H)
def W92 (v0 : AV) (v1 : AV) (H : Heap) (K : AV → Heap → Prop) : Prop :=
 lenV tab 35 v0 fun v7 =>
 L92_0 K v0 v1 v7 (AV.p (.int .i64 0)) H
theorem W92_wp (v0 : AV) (v1 : AV) (H : Heap) (K : AV → Heap → Prop) : wpC Tryz.prog tab D92 (bodyOf Tryz.f92) (retF tab [.tmp 4] K) (nthA [v0, v1]) H = W92 v0 v1 H K := by kernel_rfl
theorem W92_ok {v0 v1 : AV} {H : Heap} {K : AV → Heap → Prop} (h : W92 v0 v1 H K) : CallT Tryz.prog 92 [v0, v1] H K :=
  CallT.of_wp (D := D92) tab_ok mixed Tryz.func92 (c := bodyOf Tryz.f92) (by kernel_rfl) rfl (by kernel_rfl) (rs := #[.tmp 4]) rfl (by decide +kernel) (by kernel_rfl) (W92_wp v0 v1 H K) h
theorem L92_0_rule {K : AV → Heap → Prop} {v0 v1 v7 v8 : AV} {H : Heap} {σ : Type} (s0 : σ) (f8 : σ → AV) (TH : σ → Heap) (pre : σ → Prop) (μ : σ → Nat)
    (h0 : pre s0 ∧ AV.wk v8 (f8 s0) ∧ Heap.le (TH s0) H)
    (round : ∀ s, pre s → B92_0 K (fun w8 H' => ∃ s', pre s' ∧ μ s' < μ s ∧ AV.wk w8 (f8 s') ∧ Heap.le (TH s') H') v0 v1 v7 (f8 s) (TH s)) :
    L92_0 K v0 v1 v7 v8 H := by
  unfold L92_0
  exact LoopV.mk s0 (fun s => [f8 s]) TH pre μ (fun _ => rfl) (Eq.mp (by kernel_rfl) h0) (fun s hs => Eq.mp (by kernel_rfl) (round s hs))
/-- loop.example/g00649/impl.GoodTerm -/
def D93 : Info := ⟨80, fun i => ([], []), fun i => if i = 5 then ([0, 1, 33, 34], [7, 35]) else ([], [])⟩
def L93_0 (K : AV → Heap → Prop) (v0 : AV) (v1 : AV) (v7 : AV) (v33 : AV) (v34 : AV) (v35 : AV) (H : Heap) : Prop := LoopV (wpC Tryz.prog tab D93 (cAt [1, 1, 1, 0, 1, 0, 0] (bodyOf Tryz.f93))) [0, 1, 33, 34] (PostF.block 0 (PostF.thenA (wpC Tryz.prog tab D93 (cAt [1, 1, 1, 1] (bodyOf Tryz.f93))) (retF tab [.tmp 6] K))) [7, 35] [v0, v1, AV.any, AV.any, AV.any, AV.any, AV.any, v7, AV.any, AV.any, AV.any, AV.any, AV.any, AV.any, AV.any, AV.any, AV.any, AV.any, AV.any, AV.any, AV.any, AV.any, AV.any, AV.any, AV.any, AV.any, AV.any, AV.any, AV.any, AV.any, AV.any, AV.any, AV.any, v33, v34, v35, AV.any, AV.any, AV.any, AV.any, AV.any, AV.any, AV.any, AV.any, AV.any, AV.any, AV.any, AV.any, AV.any, AV.any, AV.any, AV.any, AV.any, AV.any, AV.any, AV.any, AV.any, AV.any, AV.any, AV.any, AV.any, AV.any, AV.any, AV.any, AV.any, AV.any, AV.any, AV.any, AV.any, AV.any, AV.any, AV.any, AV.any, AV.any, AV.any, AV.any, AV.any, AV.any, AV.any, AV.any] H
def B93_0 (K : AV → Heap → Prop) (N1 : AV → AV → Heap → Prop) (v0 : AV) (v1 : AV) (v7 : AV) (v33 : AV) (v34 : AV) (v35 : AV) (H : Heap) : Prop :=
 binV tab .lss 3 v35 v34 fun v36 =>
 condV v36 (indexAddrV tab 34 v33 v35 fun v37 =>
 loadV tab 80 v37 H fun v38 =>
 allocV tab 80 H fun v9 H4 =>
 storeV tab 80 v9 v38 H4 fun H5 =>
 fieldAddrV tab 80 v9 0 fun v40 =>
 loadV tab 3 v40 H5 fun v41 =>
 CallT Tryz.prog 100 [v41] H5 fun v42 H6 =>
 extractV v42 0 fun v43 =>
 extractV v42 1 fun v44 =>
 extractV v42 2 fun v45 =>
 allocV tab 3 H6 fun v11 H7 =>
 storeV tab 3 v11 v44 H7 fun H8 =>
 lenV tab 29 v7 fun v47 =>
 binV tab .sub 3 v47 v43 fun v49 =>
 binV tab .eql 3 v45 (AV.p (.int .i64 0)) fun v51 =>
 grdV v51 false (loadV tab 80 v9 H8 fun v55 =>
 CallT Tryz.prog 101 [v0, v1, v55] H8 fun v56 H9 =>
 unV .not v56 fun v57 =>
 grdV v57 false (binV tab .lss 3 v49 (AV.p (.int .i64 0)) fun v61 =>
 grdV v61 false (sliceV tab 29 v7 (some v49) none none fun v66 =>
 CallT Tryz.prog 102 [v66, (.fn 103 [v11])] H9 fun v68 H10 =>
 condV v68 (K (AV.p (.bool false)) H10)
 (sliceV tab 29 v7 none (some v49) none fun v72 =>
 buildSliceV tab 29 1 [(0, v45)] H10 (wkK fun v74 H11 =>
 appendV tab 29 29 v72 v74 H11 (wkK fun v75 H12 =>
 binV tab .add 3 v35 (AV.p (.int .i64 1)) fun v76 =>
 N1 v75 v76 H12))))
 (K (AV.p (.bool false)) H9))
 (K (AV.p (.bool false)) H9))
 (K (AV.p (.bool false)) H8))
 (lenV tab 29 v7 fun v78 =>
 binV tab .eql 3 v78 (AV.p (.int .i64 1)) fun v79 =>
 K v79 H)
def W93 (v0 : AV) (v1 : AV) (v2 : AV) (H : Heap) (K : AV → Heap → Prop) : Prop :=
 CallT Tryz.prog 71 [v0] H fun v15 H1 =>
 unV .not v15 fun v16 =>
 grdV v16 false (CallT Tryz.prog 72 [v1] H1 fun v19 H2 =>
 unV .not v19 fun v20 =>
 grdV v20 false (lenV tab 34 v2 fun v24 =>
 binV tab .lss 3 v24 (AV.p (.int .i64 1)) fun v25 =>
 grdV v25 false (lenV tab 34 v2 fun v29 =>
 binV tab .gtr 3 v29 (AV.p (.int .i64 48)) fun v30 =>
 condV v30 (K (AV.p (.bool false)) H2)
 (buildSliceV tab 29 0 [] H2 (wkK fun v32 H3 =>
 lenV tab 34 v2 fun v34 =>
 L93_0 K v0 v1 v32 v2 v34 (AV.p (.int .i64 0)) H3)))
 (K (AV.p (.bool false)) H2))
 (K (AV.p (.bool false)) H2))
 (K (AV.p (.bool false)) H1)
theorem W93_wp (v0 : AV) (v1 : AV) (v2 : AV) (H : Heap) (K : AV → Heap → Prop) : wpC Tryz.prog tab D93 (bodyOf Tryz.f93) (retF tab [.tmp 6] K) (nthA [v0, v1, v2]) H = W93 v0 v1 v2 H K := by kernel_rfl
theorem W93_ok {v0 v1 v2 : AV} {H : Heap} {K : AV → Heap → Prop} (h : W93 v0 v1 v2 H K) : CallT Tryz.prog 93 [v0, v1, v2] H K :=
  CallT.of_wp (D := D93) tab_ok mixed Tryz.func93 (c := bodyOf Tryz.f93) (by kernel_rfl) rfl (by kernel_rfl) (rs := #[.tmp 6]) rfl (by decide +kernel) (by kernel_rfl) (W93_wp v0 v1 v2 H K) h
theorem L93_0_rule {K : AV → Heap → Prop} {v0 v1 v7 v33 v34 v35 : AV} {H : Heap} {σ : Type} (s0 : σ) (f7 : σ → AV) (f35 : σ → AV) (TH : σ → Heap) (pre : σ → Prop) (μ : σ → Nat)
    (h0 : pre s0 ∧ AV.wk v7 (f7 s0) ∧ AV.wk v35 (f35 s0) ∧ Heap.le (TH s0) H)
    (round : ∀ s, pre s → B93_0 K (fun w7 w35 H' => ∃ s', pre s' ∧ μ s' < μ s ∧ AV.wk w7 (f7 s') ∧ AV.wk w35 (f35 s') ∧ Heap.le (TH s') H') v0 v1 (f7 s) v33 v34 (f35 s) (TH s)) :
    L93_0 K v0 v1 v7 v33 v34 v35 H := by
  unfold L93_0
  exact LoopV.mk s0 (fun s => [f7 s, f35 s]) TH pre μ (fun _ => rfl) (Eq.mp (by kernel_rfl) h0) (fun s hs => Eq.mp (by kernel_rfl) (round s hs))
/-- loop.example/g00649/impl.kindOf -/
def D94 : Info := ⟨19, fun i => ([], []), fun i => ([], [])⟩
def W94 (v0 : AV) (H : Heap) (K : AV → Heap → Prop) : Prop :=
 lenV tab 34 v0 fun v9 =>
 binV tab .sub 3 v9 (AV.p (.int .i64 1)) fun v10 =>
 indexAddrV tab 34 v0 v10 fun v11 =>
 fieldAddrV tab 80 v11 0 fun v12 =>
 loadV tab 3 v12 H fun v13 =>
 CallT Tryz.prog 100 [v13] H fun v14 H1 =>
 extractV v14 0 fun v15 =>
 extractV v14 1 fun v16 =>
 extractV v14 2 fun v17 =>
 K v17 H1
theorem W94_wp (v0 : AV) (H : Heap) (K : AV → Heap → Prop) : wpC Tryz.prog tab D94 (bodyOf Tryz.f94) (retF tab [.tmp 2] K) (nthA [v0]) H = W94 v0 H K := by kernel_rfl
theorem W94_ok {v0 : AV} {H : Heap} {K : AV → Heap → Prop} (h : W94 v0 H K) : CallT Tryz.prog 94 [v0] H K :=
  CallT.of_wp (D := D94) tab_ok mixed Tryz.func94 (c := bodyOf Tryz.f94) (by kernel_rfl) rfl (by kernel_rfl) (rs := #[.tmp 2]) rfl (by decide +kernel) (by kernel_rfl) (W94_wp v0 H K) h
/-- loop.example/g00649/impl.areWords -/
def D95 : Info := ⟨15, fun i => ([], []), fun i => ([], [])⟩
def W95 (v0 : AV) (v1 : AV) (v2 : AV) (H : Heap) (K : AV → Heap → Prop) : Prop :=
 CallT Tryz.prog 104 [v0, v1] H fun v9 H1 =>
 grdV v9 true (CallT Tryz.prog 104 [v0, v2] H1 fun v13 H2 =>
 K v13 H2)
 (K (AV.p (.bool false)) H1)
theorem W95_wp (v0 : AV) (v1 : AV) (v2 : AV) (H : Heap) (K : AV → Heap → Prop) : wpC Tryz.prog tab D95 (bodyOf Tryz.f95) (retF tab [.tmp 6] K) (nthA [v0, v1, v2]) H = W95 v0 v1 v2 H K := by kernel_rfl
theorem W95_ok {v0 v1 v2 : AV} {H : Heap} {K : AV → Heap → Prop} (h : W95 v0 v1 v2 H K) : CallT Tryz.prog 95 [v0, v1, v2] H K :=
  CallT.of_wp (D := D95) tab_ok mixed Tryz.func95 (c := bodyOf Tryz.f95) (by kernel_rfl) rfl (by kernel_rfl) (rs := #[.tmp 6]) rfl (by decide +kernel) (by kernel_rfl) (W95_wp v0 v1 v2 H K) h
/-- math/bits.Div64 -/
def D96 : Info := ⟨135, fun i => if i = 6 then ([[], [], [0, 1], [], [], [3, 4], [0, 1, 2], [0, 1, 2, 3, 4, 5, 6]], [(0, []), (1, []), (2, []), (3, []), (4, []), (5, []), (6, []), (7, [])]) else ([], []), fun i => if i = 17 then ([2, 8, 9, 10, 11, 13, 14], [15, 16]) else if i = 24 then ([2, 8, 9, 10, 14, 15, 17], [16, 18]) else ([], [])⟩
def L96_0 (K : AV → Heap → Prop) (v2 : AV) (v8 : AV) (v9 : AV) (v10 : AV) (v11 : AV) (v13 : AV) (v14 : AV) (v15 : AV) (v16 : AV) (H : Heap) : Prop := LoopV (wpC Tryz.prog tab D96 (cAt [1, 1, 1, 1, 1, 1, 1, 1, 1, 1, 1, 1, 1, 1, 0, 0, 0] (bodyOf Tryz.f96))) [2, 8, 9, 10, 11, 13, 14] (PostF.block 0 (PostF.thenA (wpC Tryz.prog tab D96 (cAt [1, 1, 1, 1, 1, 1, 1, 1, 1, 1, 1, 1, 1, 1, 1] (bodyOf Tryz.f96))) (retF tab [.tmp 6, .tmp 7] K))) [15, 16] [AV.any, AV.any, v2, AV.any, AV.any, AV.any, AV.any, AV.any, v8, v9, v10, v11, AV.any, v13, v14, v15, v16, AV.any, AV.any, AV.any, AV.any, AV.any, AV.any, AV.any, AV.any, AV.any, AV.any, AV.any, AV.any, AV.any, AV.any, AV.any, AV.any, AV.any, AV.any, AV.any, AV.any, AV.any, AV.any, AV.any, AV.any, AV.any, AV.any, AV.any, AV.any, AV.any, AV.any, AV.any, AV.any, AV.any, AV.any, AV.any, AV.any, AV.any, AV.any, AV.any, AV.any, AV.any, AV.any, AV.any, AV.any, AV.any, AV.any, AV.any, AV.any, AV.any, AV.any, AV.any, AV.any, AV.any, AV.any, AV.any, AV.any, AV.any, AV.any, AV.any, AV.any, AV.any, AV.any, AV.any, AV.any, AV.any, AV.any, AV.any, AV.any, AV.any, AV.any, AV.any, AV.any, AV.any, AV.any, AV.any, AV.any, AV.any, AV.any, AV.any, AV.any, AV.any, AV.any, AV.any, AV.any, AV.any, AV.any, AV.any, AV.any, AV.any, AV.any, AV.any, AV.any, AV.any, AV.any, AV.any, AV.any, AV.any, AV.any, AV.any, AV.any, AV.any, AV.any, AV.any, AV.any, AV.any, AV.any, AV.any, AV.any, AV.any, AV.any, AV.any, AV.any, AV.any, AV.any, AV.any, AV.any, AV.any, AV.any] H
def W96 (v0 : AV) (v1 : AV) (v2 : AV) (H : Heap) (K : AV → Heap → Prop) : Prop :=
 binV tab .eql 68 v2 (AV.p (.int .u64 0)) fun v20 =>
 condV v20 (loadV tab 146 AV.any H fun v21 =>
 False)
 (binV tab .leq 68 v2 v0 fun v24 =>
 condV v24 (loadV tab 146 AV.any H fun v25 =>
 False)
 (binV tab .eql 68 v0 (AV.p (.int .u64 0)) fun v27 =>
 condV v27 (binV tab .quo 68 v1 v2 fun v30 =>
 binV tab .rem 68 v1 v2 fun v33 =>
 K (.tup [v30, v33]) H)
 (CallT Tryz.prog 105 [v2] H fun v35 H1 =>
 convV tab 3 109 v35 fun v36 =>
 binV tab .shl 68 v2 v36 fun v39 =>
 binV tab .shr 68 v39 (AV.p (.int .u64 32)) fun v41 =>
 binV tab .and 68 v39 (AV.p (.int .u64 4294967295)) fun v43 =>
 binV tab .shl 68 v0 v36 fun v46 =>
 binV tab .sub 109 (AV.p (.int .u64 64)) v36 fun v49 =>
 binV tab .shr 68 v1 v49 fun v50 =>
 binV tab .or 68 v46 v50 fun v51 =>
 binV tab .shl 68 v1 v36 fun v54 =>
 binV tab .shr 68 v54 (AV.p (.int .u64 32)) fun v56 =>
 binV tab .and 68 v54 (AV.p (.int .u64 4294967295)) fun v58 =>
 binV tab .quo 68 v51 v41 fun v61 =>
 binV tab .mul 68 v61 v41 fun v65 =>
 binV tab .sub 68 v51 v65 fun v66 =>
 L96_0 K v39 v36 v41 v43 v51 v56 v58 v61 v66 H1)))
theorem W96_wp (v0 : AV) (v1 : AV) (v2 : AV) (H : Heap) (K : AV → Heap → Prop) : wpC Tryz.prog tab D96 (bodyOf Tryz.f96) (retF tab [.tmp 6, .tmp 7] K) (nthA [v0, v1, v2]) H = W96 v0 v1 v2 H K := by kernel_rfl
theorem W96_ok {v0 v1 v2 : AV} {H : Heap} {K : AV → Heap → Prop} (h : W96 v0 v1 v2 H K) : CallT Tryz.prog 96 [v0, v1, v2] H K :=
  CallT.of_wp (D := D96) tab_ok mixed Tryz.func96 (c := bodyOf Tryz.f96) (by kernel_rfl) rfl (by kernel_rfl) (rs := #[.tmp 6, .tmp 7]) rfl (by decide +kernel) (by kernel_rfl) (W96_wp v0 v1 v2 H K) h
/-- loop.example/g00649/laws.eqChange -/
def D97 : Info := ⟨16, fun i => ([], []), fun i => ([], [])⟩
def W97 (v0 : AV) (v1 : AV) (H : Heap) (K : AV → Heap → Prop) : Prop :=
 boxV v0 H fun v2 H1 =>
 boxV v1 H1 fun v3 H2 =>
 fieldAddrV tab 123 v2 0 fun v5 =>
 loadV tab 3 v5 H2 fun v6 =>
 fieldAddrV tab 123 v3 0 fun v7 =>
 loadV tab 3 v7 H2 fun v8 =>
 binV tab .neq 3 v6 v8 fun v9 =>
 condV v9 (K (AV.p (.bool false)) H2)
 (fieldAddrV tab 123 v2 1 fun v10 =>
 loadV tab 34 v10 H2 fun v11 =>
 fieldAddrV tab 123 v3 1 fun v12 =>
 loadV tab 34 v12 H2 fun v13 =>
 CallT Tryz.prog 24 [v11, v13] H2 fun v14 H3 =>
 unV .not v14 fun v15 =>
 condV v15 (K (AV.p (.bool false)) H3)
 (K (AV.p (.bool true)) H3))
theorem W97_wp (v0 : AV) (v1 : AV) (H : Heap) (K : AV → Heap → Prop) : wpC Tryz.prog tab D97 (bodyOf Tryz.f97) (retF tab [.tmp 4] K) (nthA [v0, v1]) H = W97 v0 v1 H K := by kernel_rfl
theorem W97_ok {v0 v1 : AV} {H : Heap} {K : AV → Heap → Prop} (h : W97 v0 v1 H K) : CallT Tryz.prog 97 [v0, v1] H K :=
  CallT.of_wp (D := D97) tab_ok mixed Tryz.func97 (c := bodyOf Tryz.f97) (by kernel_rfl) rfl (by kernel_rfl) (rs := #[.tmp 4]) rfl (by decide +kernel) (by kernel_rfl) (W97_wp v0 v1 H K) h
/-- loop.example/g00649/spec.GoodWord -/
def D98 : Info := ⟨14, fun i => ([], []), fun i => ([], [])⟩
def W98 (v0 : AV) (v1 : AV) (H : Heap) (K : AV → Heap → Prop) : Prop :=
 CallT Tryz.prog 83 [v0] H fun v6 H1 =>
 grdV v6 true (CallT Tryz.prog 106 [v0, v1] H1 fun v10 H2 =>
 binV tab .eql 68 v10 v1 fun v12 =>
 K v12 H2)
 (K (AV.p (.bool false)) H1)
theorem W98_wp (v0 : AV) (v1 : AV) (H : Heap) (K : AV → Heap → Prop) : wpC Tryz.prog tab D98 (bodyOf Tryz.f98) (retF tab [.tmp 4] K) (nthA [v0, v1]) H = W98 v0 v1 H K := by kernel_rfl
theorem W98_ok {v0 v1 : AV} {H : Heap} {K : AV → Heap → Prop} (h : W98 v0 v1 H K) : CallT Tryz.prog 98 [v0, v1] H K :=
  CallT.of_wp (D := D98) tab_ok mixed Tryz.func98 (c := bodyOf Tryz.f98) (by kernel_rfl) rfl (by kernel_rfl) (rs := #[.tmp 4]) rfl (by decide +kernel) (by kernel_rfl) (W98_wp v0 v1 H K) h
/-- loop.example/g00649/spec.l2Value -/
def D99 : Info := ⟨81, fun i => if i = 11 then ([[], [], [1], [], [], [], [], [6], [5, 6, 7], [5, 6, 7, 8], [], [3, 4, 5, 6, 7, 8, 9, 10], [], [], [], [14], [], [3, 4, 5, 6, 7, 8, 9, 10, 11, 12, 13, 14, 15, 16], [0, 1, 2, 3, 4, 5, 6, 7, 8, 9, 10, 11, 12, 13, 14, 15, 16, 17], [0, 1, 2, 3, 4, 5, 6, 7, 8, 9, 10, 11, 12, 13, 14, 15, 16, 17, 18]], [(0, []), (1, []), (2, []), (3, []), (4, []), (5, []), (6, []), (7, []), (10, []), (12, []), (13, []), (14, []), (15, []), (16, []), (8, [2]), (9, []), (11, [2]), (17, [2]), (18, []), (19, [])]) else ([], []), fun i => ([], [])⟩
def W99 (v0 : AV) (v1 : AV) (v2 : AV) (v3 : AV) (H : Heap) (K : AV → Heap → Prop) : Prop :=
 indexAddrV tab 34 v1 v2 fun v15 =>
 loadV tab 80 v15 H fun v16 =>
 allocV tab 80 H fun v9 H1 =>
 storeV tab 80 v9 v16 H1 fun H2 =>
 fieldAddrV tab 80 v9 0 fun v18 =>
 loadV tab 3 v18 H2 fun v19 =>
 CallT Tryz.prog 84 [v19] H2 fun v20 H3 =>
 extractV v20 0 fun v21 =>
 extractV v20 1 fun v22 =>
 extractV v20 2 fun v23 =>
 fieldAddrV tab 80 v9 0 fun v25 =>
 loadV tab 3 v25 H3 fun v26 =>
 binV tab .eql 3 v26 (AV.p (.int .i64 2)) fun v27 =>
 condV v27 (fieldAddrV tab 80 v9 1 fun v29 =>
 loadV tab 68 v29 H3 fun v30 =>
 indexAddrV tab 65 v3 v30 fun v31 =>
 loadV tab 68 v31 H3 fun v32 =>
 K v32 H3)
 (binV tab .eql 3 v21 (AV.p (.int .i64 0)) fun v35 =>
 condV v35 (fieldAddrV tab 80 v9 1 fun v36 =>
 loadV tab 68 v36 H3 fun v37 =>
 K v37 H3)
 (fieldAddrV tab 80 v9 0 fun v39 =>
 loadV tab 3 v39 H3 fun v40 =>
 binV tab .eql 3 v40 (AV.p (.int .i64 13)) fun v41 =>
 condV v41 (binV tab .sub 3 v2 (AV.p (.int .i64 1)) fun v46 =>
 CallT Tryz.prog 99 [v0, v1, v46, v3] H3 fun v48 H4 =>
 unV .xor v48 fun v49 =>
 CallT Tryz.prog 106 [v0, v49] H4 fun v50 H5 =>
 K v50 H5)
 (fieldAddrV tab 80 v9 0 fun v52 =>
 loadV tab 3 v52 H3 fun v53 =>
 binV tab .eql 3 v53 (AV.p (.int .i64 19)) fun v54 =>
 condV v54 (binV tab .sub 3 v2 (AV.p (.int .i64 1)) fun v58 =>
 CallT Tryz.prog 99 [v0, v1, v58, v3] H3 fun v60 H6 =>
 binV tab .sub 68 (AV.p (.int .u64 1)) v60 fun v61 =>
 K v61 H6)
 (fieldAddrV tab 80 v9 0 fun v63 =>
 loadV tab 3 v63 H3 fun v64 =>
 binV tab .sub 3 v2 (AV.p (.int .i64 1)) fun v69 =>
 binV tab .sub 3 v2 (AV.p (.int .i64 1)) fun v77 =>
 CallT Tryz.prog 108 [v1, v69] H3 fun v70 H7 =>
 (loadV tab 3 v63 H7 fun v9064 =>
 v64 = v9064) ∧
 binV tab .sub 3 v70 (AV.p (.int .i64 1)) fun v71 =>
 CallT Tryz.prog 99 [v0, v1, v71, v3] H7 fun v73 H8 =>
 (loadV tab 3 v63 H8 fun v9064 =>
 v64 = v9064) ∧
 CallT Tryz.prog 99 [v0, v1, v77, v3] H8 fun v79 H9 =>
 (loadV tab 3 v63 H9 fun v9064 =>
 v64 = v9064) ∧
 CallT Tryz.prog 107 [v0, v64, v73, v79] H9 fun v80 H10 =>
 K v80 H10))))
theorem W99_wp (v0 : AV) (v1 : AV) (v2 : AV) (v3 : AV) (H : Heap) (K : AV → Heap → Prop) : wpC Tryz.prog tab D99 (bodyOf Tryz.f99) (retF tab [.tmp 8] K) (nthA [v0, v1, v2, v3]) H = W99 v0 v1 v2 v3 H K := by kernel_rfl
theorem W99_ok {v0 v1 v2 v3 : AV} {H : Heap} {K : AV → Heap → Prop} (h : W99 v0 v1 v2 v3 H K) : CallT Tryz.prog 99 [v0, v1, v2, v3] H K :=
  CallT.of_wp (D := D99) tab_ok mixed Tryz.func99 (c := bodyOf Tryz.f99) (by kernel_rfl) rfl (by kernel_rfl) (rs := #[.tmp 8]) rfl (by decide +kernel) (by kernel_rfl) (W99_wp v0 v1 v2 v3 H K) h
/-- loop.example/g00649/impl.operandsOf -/
def D100 : Info := ⟨42, fun i => ([], []), fun i => ([], [])⟩
def J100_0 (K : AV → Heap → Prop) (v40 : AV) (H : Heap) : Prop :=
 condV v40 (K (.tup [(AV.p (.int .i64 2)), (AV.p (.int .i64 2)), (AV.p (.int .i64 2))]) H)
 (K (.tup [(AV.p (.int .i64 0)), (AV.p (.int .i64 0)), (AV.p (.int .i64 0))]) H)
def J100_1 (K : AV → Heap → Prop) (v0 : AV) (v33 : AV) (H : Heap) : Prop :=
 condV v33 (K (.tup [(AV.p (.int .i64 2)), (AV.p (.int .i64 1)), (AV.p (.int .i64 2))]) H)
 (binV tab .eql 3 v0 (AV.p (.int .i64 17)) fun v37 =>
 grdV v37 false (binV tab .eql 3 v0 (AV.p (.int .i64 18)) fun v40 =>
 J100_0 K v40 H)
 (K (.tup [(AV.p (.int .i64 2)), (AV.p (.int .i64 2)), (AV.p (.int .i64 2))]) H))
def J100_2 (K : AV → Heap → Prop) (v0 : AV) (H : Heap) : Prop :=
 binV tab .eql 3 v0 (AV.p (.int .i64 17)) fun v37 =>
 grdV v37 false (binV tab .eql 3 v0 (AV.p (.int .i64 18)) fun v40 =>
 J100_0 K v40 H)
 (K (.tup [(AV.p (.int .i64 2)), (AV.p (.int .i64 2)), (AV.p (.int .i64 2))]) H)
def W100 (v0 : AV) (H : Heap) (K : AV → Heap → Prop) : Prop :=
 binV tab .eql 3 v0 (AV.p (.int .i64 1)) fun v7 =>
 grdV v7 false (binV tab .eql 3 v0 (AV.p (.int .i64 2)) fun v10 =>
 condV v10 (K (.tup [(AV.p (.int .i64 0)), (AV.p (.int .i64 0)), (AV.p (.int .i64 1))]) H)
 (binV tab .eql 3 v0 (AV.p (.int .i64 20)) fun v14 =>
 condV v14 (K (.tup [(AV.p (.int .i64 0)), (AV.p (.int .i64 0)), (AV.p (.int .i64 2))]) H)
 (binV tab .eql 3 v0 (AV.p (.int .i64 13)) fun v17 =>
 condV v17 (K (.tup [(AV.p (.int .i64 1)), (AV.p (.int .i64 1)), (AV.p (.int .i64 1))]) H)
 (binV tab .eql 3 v0 (AV.p (.int .i64 19)) fun v20 =>
 condV v20 (K (.tup [(AV.p (.int .i64 1)), (AV.p (.int .i64 2)), (AV.p (.int .i64 2))]) H)
 (binV tab .geq 3 v0 (AV.p (.int .i64 3)) fun v23 =>
 grdV v23 true (binV tab .leq 3 v0 (AV.p (.int .i64 12)) fun v26 =>
 condV v26 (K (.tup [(AV.p (.int .i64 2)), (AV.p (.int .i64 1)), (AV.p (.int .i64 1))]) H)
 (binV tab .geq 3 v0 (AV.p (.int .i64 14)) fun v30 =>
 grdV v30 true (binV tab .leq 3 v0 (AV.p (.int .i64 16)) fun v33 =>
 J100_1 K v0 v33 H)
 (J100_2 K v0 H)))
 (binV tab .geq 3 v0 (AV.p (.int .i64 14)) fun v30 =>
 grdV v30 true (binV tab .leq 3 v0 (AV.p (.int .i64 16)) fun v33 =>
 J100_1 K v0 v33 H)
 (J100_2 K v0 H)))))))
 (K (.tup [(AV.p (.int .i64 0)), (AV.p (.int .i64 0)), (AV.p (.int .i64 1))]) H)
theorem W100_wp (v0 : AV) (H : Heap) (K : AV → Heap → Prop) : wpC Tryz.prog tab D100 (bodyOf Tryz.f100) (retF tab [.tmp 2, .tmp 3, .tmp 4] K) (nthA [v0]) H = W100 v0 H K := by kernel_rfl
theorem W100_ok {v0 : AV} {H : Heap} {K : AV → Heap → Prop} (h : W100 v0 H K) : CallT Tryz.prog 100 [v0] H K :=
  CallT.of_wp (D := D100) tab_ok mixed Tryz.func100 (c := bodyOf Tryz.f100) (by kernel_rfl) rfl (by kernel_rfl) (rs := #[.tmp 2, .tmp 3, .tmp 4]) rfl (by decide +kernel) (by kernel_rfl) (W100_wp v0 H K) h
/-- loop.example/g00649/impl.isLeafRight -/
def D101 : Info := ⟨30, fun i => ([], []), fun i => ([], [])⟩
def W101 (v0 : AV) (v1 : AV) (v2 : AV) (H : Heap) (K : AV → Heap → Prop) : Prop :=
 boxV v2 H fun v5 H1 =>
 fieldAddrV tab 80 v5 0 fun v7 =>
 loadV tab 3 v7 H1 fun v8 =>
 binV tab .eql 3 v8 (AV.p (.int .i64 1)) fun v10 =>
 condV v10 (fieldAddrV tab 80 v5 1 fun v12 =>
 loadV tab 68 v12 H1 fun v13 =>
 CallT Tryz.prog 104 [v0, v13] H1 fun v14 H2 =>
 K v14 H2)
 (binV tab .eql 3 v8 (AV.p (.int .i64 2)) fun v16 =>
 condV v16 (fieldAddrV tab 80 v5 1 fun v17 =>
 loadV tab 68 v17 H1 fun v18 =>
 convV tab 3 68 v1 fun v20 =>
 binV tab .lss 68 v18 v20 fun v21 =>
 K v21 H1)
 (binV tab .eql 3 v8 (AV.p (.int .i64 20)) fun v23 =>
 condV v23 (fieldAddrV tab 80 v5 1 fun v24 =>
 loadV tab 68 v24 H1 fun v25 =>
 binV tab .leq 68 v25 (AV.p (.int .u64 1)) fun v26 =>
 K v26 H1)
 (fieldAddrV tab 80 v5 1 fun v27 =>
 loadV tab 68 v27 H1 fun v28 =>
 binV tab .eql 68 v28 (AV.p (.int .u64 0)) fun v29 =>
 K v29 H1)))
theorem W101_wp (v0 : AV) (v1 : AV) (v2 : AV) (H : Heap) (K : AV → Heap → Prop) : wpC Tryz.prog tab D101 (bodyOf Tryz.f101) (retF tab [.tmp 6] K) (nthA [v0, v1, v2]) H = W101 v0 v1 v2 H K := by kernel_rfl
theorem W101_ok {v0 v1 v2 : AV} {H : Heap} {K : AV → Heap → Prop} (h : W101 v0 v1 v2 H K) : CallT Tryz.prog 101 [v0, v1, v2] H K :=
  CallT.of_wp (D := D101) tab_ok mixed Tryz.func101 (c := bodyOf Tryz.f101) (by kernel_rfl) rfl (by kernel_rfl) (rs := #[.tmp 6]) rfl (by decide +kernel) (by kernel_rfl) (W101_wp v0 v1 v2 H K) h
/-- slices.ContainsFunc[[]int,int] -/
def D102 : Info := ⟨9, fun i => ([], []), fun i => ([], [])⟩
def W102 (v0 : AV) (v1 : AV) (H : Heap) (K : AV → Heap → Prop) : Prop :=
 CallT Tryz.prog 109 [v0, v1] H fun v7 H1 =>
 binV tab .geq 3 v7 (AV.p (.int .i64 0)) fun v8 =>
 K v8 H1
theorem W102_wp (v0 : AV) (v1 : AV) (H : Heap) (K : AV → Heap → Prop) : wpC Tryz.prog tab D102 (bodyOf Tryz.f102) (retF tab [.tmp 4] K) (nthA [v0, v1]) H = W102 v0 v1 H K := by kernel_rfl
theorem W102_ok {v0 v1 : AV} {H : Heap} {K : AV → Heap → Prop} (h : W102 v0 v1 H K) : CallT Tryz.prog 102 [v0, v1] H K :=
  CallT.of_wp (D := D102) tab_ok mixed Tryz.func102 (c := bodyOf Tryz.f102) (by kernel_rfl) rfl (by kernel_rfl) (rs := #[.tmp 4]) rfl (by decide +kernel) (by kernel_rfl) (W102_wp v0 v1 H K) h
/-- loop.example/g00649/impl.GoodTerm$1 -/
def D103 : Info := ⟨7, fun i => ([], []), fun i => ([], [])⟩
def W103 (v0 : AV) (v1 : AV) (H : Heap) (K : AV → Heap → Prop) : Prop :=
 loadV tab 3 v1 H fun v5 =>
 binV tab .neq 3 v0 v5 fun v6 =>
 K v6 H
theorem W103_wp (v0 : AV) (v1 : AV) (H : Heap) (K : AV → Heap → Prop) : wpC Tryz.prog tab D103 (bodyOf Tryz.f103) (retF tab [.tmp 3] K) (nthA [v0, v1]) H = W103 v0 v1 H K := by kernel_rfl
theorem W103_ok {v0 v1 : AV} {H : Heap} {K : AV → Heap → Prop} (h : W103 v0 v1 H K) : CallT Tryz.prog 103 [v0, v1] H K :=
  CallT.of_wp (D := D103) tab_ok mixed Tryz.func103 (c := bodyOf Tryz.f103) (by kernel_rfl) rfl (by kernel_rfl) (rs := #[.tmp 3]) rfl (by decide +kernel) (by kernel_rfl) (W103_wp v0 v1 H K) h
/-- loop.example/g00649/impl.GoodWord -/
def D104 : Info := ⟨13, fun i => ([], []), fun i => ([], [])⟩
def W104 (v0 : AV) (v1 : AV) (H : Heap) (K : AV → Heap → Prop) : Prop :=
 CallT Tryz.prog 71 [v0] H fun v6 H1 =>
 grdV v6 true (CallT Tryz.prog 59 [v0] H1 fun v10 H2 =>
 binV tab .leq 68 v1 v10 fun v11 =>
 K v11 H2)
 (K (AV.p (.bool false)) H1)
theorem W104_wp (v0 : AV) (v1 : AV) (H : Heap) (K : AV → Heap → Prop) : wpC Tryz.prog tab D104 (bodyOf Tryz.f104) (retF tab [.tmp 4] K) (nthA [v0, v1]) H = W104 v0 v1 H K := by kernel_rfl
theorem W104_ok {v0 v1 : AV} {H : Heap} {K : AV → Heap → Prop} (h : W104 v0 v1 H K) : CallT Tryz.prog 104 [v0, v1] H K :=
  CallT.of_wp (D := D104) tab_ok mixed Tryz.func104 (c := bodyOf Tryz.f104) (by kernel_rfl) rfl (by kernel_rfl) (rs := #[.tmp 4]) rfl (by decide +kernel) (by kernel_rfl) (W104_wp v0 v1 H K) h
/-- loop.example/g00649/spec.l1Cut -/
def D106 : Info := ⟨20, fun i => ([], []), fun i => if i = 3 then ([0, 1], [5, 6]) else ([], [])⟩
def L106_0 (K : AV → Heap → Prop) (v0 : AV) (v1 : AV) (v5 : AV) (v6 : AV) (H : Heap) : Prop := LoopV (wpC Tryz.prog tab D106 (cAt [1, 1, 0, 1, 0, 0] (bodyOf Tryz.f106))) [0, 1] (PostF.block 0 (PostF.thenA (wpC Tryz.prog tab D106 (cAt [1, 1, 1] (bodyOf Tryz.f106))) (retF tab [.tmp 4] K))) [5, 6] [v0, v1, AV.any, AV.any, AV.any, v5, v6, AV.any, AV.any, AV.any, AV.any, AV.any, AV.any, AV.any, AV.any, AV.any, AV.any, AV.any, AV.any, AV.any] H
def B106_0 (K : AV → Heap → Prop) (N1 : AV → AV → Heap → Prop) (v0 : AV) (v1 : AV) (v5 : AV) (v6 : AV) (H : Heap) : Prop :=
 binV tab .lss 3 v6 v0 fun v9 =>
 condV v9 (convV tab 3 109 v6 fun v15 =>
 binV tab .shl 68 (AV.p (.int .u64 1)) v15 fun v16 =>
 binV tab .and 68 v1 v16 fun v17 =>
 binV tab .or 68 v5 v17 fun v18 =>
 binV tab .add 3 v6 (AV.p (.int .i64 1)) fun v11 =>
 N1 v18 v11 H)
 (K v5 H)
def W106 (v0 : AV) (v1 : AV) (H : Heap) (K : AV → Heap → Prop) : Prop :=
 L106_0 K v0 v1 (AV.p (.int .u64 0)) (AV.p (.int .i64 0)) H
theorem W106_wp (v0 : AV) (v1 : AV) (H : Heap) (K : AV → Heap → Prop) : wpC Tryz.prog tab D106 (bodyOf Tryz.f106) (retF tab [.tmp 4] K) (nthA [v0, v1]) H = W106 v0 v1 H K := by kernel_rfl
theorem W106_ok {v0 v1 : AV} {H : Heap} {K : AV → Heap → Prop} (h : W106 v0 v1 H K) : CallT Tryz.prog 106 [v0, v1] H K :=
  CallT.of_wp (D := D106) tab_ok mixed Tryz.func106 (c := bodyOf Tryz.f106) (by kernel_rfl) rfl (by kernel_rfl) (rs := #[.tmp 4]) rfl (by decide +kernel) (by kernel_rfl) (W106_wp v0 v1 H K) h
theorem L106_0_rule {K : AV → Heap → Prop} {v0 v1 v5 v6 : AV} {H : Heap} {σ : Type} (s0 : σ) (f5 : σ → AV) (f6 : σ → AV) (TH : σ → Heap) (pre : σ → Prop) (μ : σ → Nat)
    (h0 : pre s0 ∧ AV.wk v5 (f5 s0) ∧ AV.wk v6 (f6 s0) ∧ Heap.le (TH s0) H)
    (round : ∀ s, pre s → B106_0 K (fun w5 w6 H' => ∃ s', pre s' ∧ μ s' < μ s ∧ AV.wk w5 (f5 s') ∧ AV.wk w6 (f6 s') ∧ Heap.le (TH s') H') v0 v1 (f5 s) (f6 s) (TH s)) :
    L106_0 K v0 v1 v5 v6 H := by
  unfold L106_0
  exact LoopV.mk s0 (fun s => [f5 s, f6 s]) TH pre μ (fun _ => rfl) (Eq.mp (by kernel_rfl) h0) (fun s hs => Eq.mp (by kernel_rfl) (round s hs))
/-- loop.example/g00649/spec.l2Do -/
def D107 : Info := ⟨99, fun i => ([], []), fun i => ([], [])⟩
def J107_0 (K : AV → Heap → Prop) (v0 : AV) (v2 : AV) (v3 : AV) (v20 : AV) (v54 : AV) (H : Heap) : Prop :=
 condV v54 (binV tab .or 68 v2 v3 fun v59 =>
 K v59 H)
 (binV tab .eql 3 v20 (AV.p (.int .i64 10)) fun v61 =>
 condV v61 (binV tab .xor 68 v2 v3 fun v64 =>
 K v64 H)
 (binV tab .eql 3 v20 (AV.p (.int .i64 11)) fun v66 =>
 condV v66 (CallT Tryz.prog 112 [v0, v2, v3, (AV.p (.bool true))] H fun v70 H5 =>
 K v70 H5)
 (binV tab .eql 3 v20 (AV.p (.int .i64 12)) fun v72 =>
 condV v72 (CallT Tryz.prog 112 [v0, v2, v3, (AV.p (.bool false))] H fun v76 H6 =>
 K v76 H6)
 (binV tab .eql 3 v20 (AV.p (.int .i64 14)) fun v78 =>
 condV v78 (binV tab .eql 68 v2 v3 fun v81 =>
 CallT Tryz.prog 113 [v81] H fun v82 H7 =>
 K v82 H7)
 (binV tab .eql 3 v20 (AV.p (.int .i64 15)) fun v84 =>
 condV v84 (binV tab .lss 68 v2 v3 fun v87 =>
 CallT Tryz.prog 113 [v87] H fun v88 H8 =>
 K v88 H8)
 (binV tab .eql 3 v20 (AV.p (.int .i64 16)) fun v90 =>
 condV v90 (CallT Tryz.prog 114 [v0, v2] H fun v93 H9 =>
 CallT Tryz.prog 114 [v0, v3] H9 fun v96 H10 =>
 binV tab .lss 2 v93 v96 fun v97 =>
 CallT Tryz.prog 113 [v97] H10 fun v98 H11 =>
 K v98 H11)
 (K (AV.p (.int .u64 0)) H)))))))
def J107_1 (K : AV → Heap → Prop) (v0 : AV) (v2 : AV) (v3 : AV) (v20 : AV) (v48 : AV) (H : Heap) : Prop :=
 condV v48 (binV tab .and 68 v2 v3 fun v53 =>
 K v53 H)
 (binV tab .eql 3 v20 (AV.p (.int .i64 9)) fun v55 =>
 condV v55 (J107_0 K v0 v2 v3 v20 v55 H)
 (binV tab .eql 3 v20 (AV.p (.int .i64 18)) fun v56 =>
 J107_0 K v0 v2 v3 v20 v56 H))
def W107 (v0 : AV) (v1 : AV) (v2 : AV) (v3 : AV) (H : Heap) (K : AV → Heap → Prop) : Prop :=
 CallT Tryz.prog 111 [v0, v2, v3] H fun v16 H1 =>
 extractV v16 0 fun v17 =>
 extractV v16 1 fun v18 =>
 extractV v16 2 fun v19 =>
 binV tab .eql 3 v1 (AV.p (.int .i64 3)) fun v22 =>
 condV v22 (binV tab .add 68 v2 v3 fun v26 =>
 CallT Tryz.prog 106 [v0, v26] H1 fun v27 H2 =>
 K v27 H2)
 (binV tab .eql 3 v1 (AV.p (.int .i64 4)) fun v29 =>
 condV v29 (binV tab .sub 68 v2 v3 fun v33 =>
 CallT Tryz.prog 106 [v0, v33] H1 fun v34 H3 =>
 K v34 H3)
 (binV tab .eql 3 v1 (AV.p (.int .i64 5)) fun v36 =>
 condV v36 (binV tab .mul 68 v2 v3 fun v40 =>
 CallT Tryz.prog 106 [v0, v40] H1 fun v41 H4 =>
 K v41 H4)
 (binV tab .eql 3 v1 (AV.p (.int .i64 6)) fun v43 =>
 condV v43 (K v17 H1)
 (binV tab .eql 3 v1 (AV.p (.int .i64 7)) fun v46 =>
 condV v46 (K v18 H1)
 (binV tab .eql 3 v1 (AV.p (.int .i64 8)) fun v49 =>
 condV v49 (J107_1 K v0 v2 v3 v1 v49 H1)
 (binV tab .eql 3 v1 (AV.p (.int .i64 17)) fun v50 =>
 J107_1 K v0 v2 v3 v1 v50 H1))))))
theorem W107_wp (v0 : AV) (v1 : AV) (v2 : AV) (v3 : AV) (H : Heap) (K : AV → Heap → Prop) : wpC Tryz.prog tab D107 (bodyOf Tryz.f107) (retF tab [.tmp 8] K) (nthA [v0, v1, v2, v3]) H = W107 v0 v1 v2 v3 H K := by kernel_rfl
theorem W107_ok {v0 v1 v2 v3 : AV} {H : Heap} {K : AV → Heap → Prop} (h : W107 v0 v1 v2 v3 H K) : CallT Tryz.prog 107 [v0, v1, v2, v3] H K :=
  CallT.of_wp (D := D107) tab_ok mixed Tryz.func107 (c := bodyOf Tryz.f107) (by kernel_rfl) rfl (by kernel_rfl) (rs := #[.tmp 8]) rfl (by decide +kernel) (by kernel_rfl) (W107_wp v0 v1 v2 v3 H K) h
end Go.Proofs.YtdnfiacjoghfkaaGreat
/- What each function's code is asked for, as a formula. Written by wgen.py (a program of this session's) out of Lean's print of the program. -/
namespace Go.Proofs.YtdnfiacjoghfkaaGreat
open Go Go.Sep
set_option linter.unusedVariables false
attribute [local irreducible] wpC headF
/-- loop.example/g00649/spec.l2From -/
def D108 : Info := ⟨29, fun i => ([], []), fun i => if i = 3 then ([0], [5, 8]) else ([], [])⟩
def L108_0 (K : AV → Heap → Prop) (v0 : AV) (v5 : AV) (v8 : AV) (H : Heap) : Prop := LoopV (wpC Tryz.prog tab D108 (cAt [1, 1, 1, 0, 0, 0] (bodyOf Tryz.f108))) [0] (PostF.block 0 (PostF.thenA (wpC Tryz.prog tab D108 (cAt [1, 1, 1, 1] (bodyOf Tryz.f108))) (retF tab [.tmp 4] K))) [5, 8] [v0, AV.any, AV.any, AV.any, AV.any, v5, AV.any, AV.any, v8, AV.any, AV.any, AV.any, AV.any, AV.any, AV.any, AV.any, AV.any, AV.any, AV.any, AV.any, AV.any, AV.any, AV.any, AV.any, AV.any, AV.any, AV.any, AV.any, AV.any] H
def B108_0 (K : AV → Heap → Prop) (N1 : AV → AV → Heap → Prop) (v0 : AV) (v5 : AV) (v8 : AV) (H : Heap) : Prop :=
 binV tab .gtr 3 v5 (AV.p (.int .i64 0)) fun v21 =>
 condV v21 (binV tab .sub 3 v8 (AV.p (.int .i64 1)) fun v26 =>
 CallT Tryz.prog 108 [v0, v26] H fun v27 H2 =>
 binV tab .sub 3 v5 (AV.p (.int .i64 1)) fun v23 =>
 N1 v23 v27 H2)
 (K v8 H)
def W108 (v0 : AV) (v1 : AV) (H : Heap) (K : AV → Heap → Prop) : Prop :=
 indexAddrV tab 34 v0 v1 fun v12 =>
 fieldAddrV tab 80 v12 0 fun v13 =>
 loadV tab 3 v13 H fun v14 =>
 CallT Tryz.prog 84 [v14] H fun v15 H1 =>
 extractV v15 0 fun v16 =>
 extractV v15 1 fun v17 =>
 extractV v15 2 fun v18 =>
 L108_0 K v0 v16 v1 H1
theorem W108_wp (v0 : AV) (v1 : AV) (H : Heap) (K : AV → Heap → Prop) : wpC Tryz.prog tab D108 (bodyOf Tryz.f108) (retF tab [.tmp 4] K) (nthA [v0, v1]) H = W108 v0 v1 H K := by kernel_rfl
theorem W108_ok {v0 v1 : AV} {H : Heap} {K : AV → Heap → Prop} (h : W108 v0 v1 H K) : CallT Tryz.prog 108 [v0, v1] H K :=
  CallT.of_wp (D := D108) tab_ok mixed Tryz.func108 (c := bodyOf Tryz.f108) (by kernel_rfl) rfl (by kernel_rfl) (rs := #[.tmp 4]) rfl (by decide +kernel) (by kernel_rfl) (W108_wp v0 v1 H K) h
theorem L108_0_rule {K : AV → Heap → Prop} {v0 v5 v8 : AV} {H : Heap} {σ : Type} (s0 : σ) (f5 : σ → AV) (f8 : σ → AV) (TH : σ → Heap) (pre : σ → Prop) (μ : σ → Nat)
    (h0 : pre s0 ∧ AV.wk v5 (f5 s0) ∧ AV.wk v8 (f8 s0) ∧ Heap.le (TH s0) H)
    (round : ∀ s, pre s → B108_0 K (fun w5 w8 H' => ∃ s', pre s' ∧ μ s' < μ s ∧ AV.wk w5 (f5 s') ∧ AV.wk w8 (f8 s') ∧ Heap.le (TH s') H') v0 (f5 s) (f8 s) (TH s)) :
    L108_0 K v0 v5 v8 H := by
  unfold L108_0
  exact LoopV.mk s0 (fun s => [f5 s, f8 s]) TH pre μ (fun _ => rfl) (Eq.mp (by kernel_rfl) h0) (fun s hs => Eq.mp (by kernel_rfl) (round s hs))
/-- slices.IndexFunc[[]int,int] -/
def D109 : Info := ⟨19, fun i => ([], []), fun i => if i = 2 then ([0, 1, 7], [8]) else ([], [])⟩
def L109_0 (K : AV → Heap → Prop) (v0 : AV) (v1 : AV) (v7 : AV) (v8 : AV) (H : Heap) : Prop := LoopV (wpC Tryz.prog tab D109 (cAt [1, 0, 1, 0, 0] (bodyOf Tryz.f109))) [0, 1, 7] (PostF.block 0 (PostF.thenA (wpC Tryz.prog tab D109 (cAt [1, 1] (bodyOf Tryz.f109))) (retF tab [.tmp 4] K))) [8] [v0, v1, AV.any, AV.any, AV.any, AV.any, AV.any, v7, v8, AV.any, AV.any, AV.any, AV.any, AV.any, AV.any, AV.any, AV.any, AV.any, AV.any] H
def B109_0 (K : AV → Heap → Prop) (N1 : AV → Heap → Prop) (v0 : AV) (v1 : AV) (v7 : AV) (v8 : AV) (H : Heap) : Prop :=
 binV tab .lss 3 v8 v7 fun v9 =>
 condV v9 (indexAddrV tab 29 v0 v8 fun v14 =>
 loadV tab 3 v14 H fun v15 =>
 callF Tryz.prog v1 [v15] H fun v16 H1 =>
 condV v16 (K v8 H1)
 (binV tab .add 3 v8 (AV.p (.int .i64 1)) fun v18 =>
 N1 v18 H1))
 (K (AV.p (.int .i64 (-1))) H)
def W109 (v0 : AV) (v1 : AV) (H : Heap) (K : AV → Heap → Prop) : Prop :=
 lenV tab 29 v0 fun v7 =>
 L109_0 K v0 v1 v7 (AV.p (.int .i64 0)) H
theorem W109_wp (v0 : AV) (v1 : AV) (H : Heap) (K : AV → Heap → Prop) : wpC Tryz.prog tab D109 (bodyOf Tryz.f109) (retF tab [.tmp 4] K) (nthA [v0, v1]) H = W109 v0 v1 H K := by kernel_rfl
theorem W109_ok {v0 v1 : AV} {H : Heap} {K : AV → Heap → Prop} (h : W109 v0 v1 H K) : CallT Tryz.prog 109 [v0, v1] H K :=
  CallT.of_wp (D := D109) tab_ok mixed Tryz.func109 (c := bodyOf Tryz.f109) (by kernel_rfl) rfl (by kernel_rfl) (rs := #[.tmp 4]) rfl (by decide +kernel) (by kernel_rfl) (W109_wp v0 v1 H K) h
theorem L109_0_rule {K : AV → Heap → Prop} {v0 v1 v7 v8 : AV} {H : Heap} {σ : Type} (s0 : σ) (f8 : σ → AV) (TH : σ → Heap) (pre : σ → Prop) (μ : σ → Nat)
    (h0 : pre s0 ∧ AV.wk v8 (f8 s0) ∧ Heap.le (TH s0) H)
    (round : ∀ s, pre s → B109_0 K (fun w8 H' => ∃ s', pre s' ∧ μ s' < μ s ∧ AV.wk w8 (f8 s') ∧ Heap.le (TH s') H') v0 v1 v7 (f8 s) (TH s)) :
    L109_0 K v0 v1 v7 v8 H := by
  unfold L109_0
  exact LoopV.mk s0 (fun s => [f8 s]) TH pre μ (fun _ => rfl) (Eq.mp (by kernel_rfl) h0) (fun s hs => Eq.mp (by kernel_rfl) (round s hs))
/-- loop.example/g00649/spec.DivWord -/
def D111 : Info := ⟨25, fun i => if i = 5 then ([[], [], [0, 1], [], [], [3, 4], [0, 1, 2], [0, 1, 2, 3, 4, 5, 6], [0, 1, 2, 3, 4, 5, 6, 7]], [(0, []), (1, []), (2, []), (3, []), (4, []), (5, []), (6, []), (7, []), (8, [])]) else ([], []), fun i => ([], [])⟩
def W111 (v0 : AV) (v1 : AV) (v2 : AV) (H : Heap) (K : AV → Heap → Prop) : Prop :=
 CallT Tryz.prog 115 [v0, v1, v2] H fun v12 H1 =>
 unV .not v12 fun v13 =>
 condV v13 (K (.tup [(AV.p (.int .u64 0)), (AV.p (.int .u64 0)), (AV.p (.bool false))]) H1)
 (binV tab .eql 68 v2 (AV.p (.int .u64 0)) fun v15 =>
 condV v15 (CallT Tryz.prog 106 [v0, (AV.p (.int .u64 18446744073709551615))] H1 fun v17 H2 =>
 K (.tup [v17, v1, (AV.p (.bool true))]) H2)
 (binV tab .quo 68 v1 v2 fun v21 =>
 binV tab .rem 68 v1 v2 fun v24 =>
 K (.tup [v21, v24, (AV.p (.bool true))]) H1))
theorem W111_wp (v0 : AV) (v1 : AV) (v2 : AV) (H : Heap) (K : AV → Heap → Prop) : wpC Tryz.prog tab D111 (bodyOf Tryz.f111) (retF tab [.tmp 6, .tmp 7, .tmp 8] K) (nthA [v0, v1, v2]) H = W111 v0 v1 v2 H K := by kernel_rfl
theorem W111_ok {v0 v1 v2 : AV} {H : Heap} {K : AV → Heap → Prop} (h : W111 v0 v1 v2 H K) : CallT Tryz.prog 111 [v0, v1, v2] H K :=
  CallT.of_wp (D := D111) tab_ok mixed Tryz.func111 (c := bodyOf Tryz.f111) (by kernel_rfl) rfl (by kernel_rfl) (rs := #[.tmp 6, .tmp 7, .tmp 8]) rfl (by decide +kernel) (by kernel_rfl) (W111_wp v0 v1 v2 H K) h
/-- loop.example/g00649/spec.l1Shift -/
def D112 : Info := ⟨25, fun i => ([], []), fun i => if i = 3 then ([0, 3], [1, 2]) else ([], [])⟩
def L112_0 (K : AV → Heap → Prop) (v0 : AV) (v1 : AV) (v2 : AV) (v3 : AV) (H : Heap) : Prop := LoopV (wpC Tryz.prog tab D112 (cAt [1, 1, 0, 0, 0] (bodyOf Tryz.f112))) [0, 3] (PostF.block 0 (PostF.thenA (wpC Tryz.prog tab D112 (cAt [1, 1, 1] (bodyOf Tryz.f112))) (retF tab [.tmp 8] K))) [1, 2] [v0, v1, v2, v3, AV.any, AV.any, AV.any, AV.any, AV.any, AV.any, AV.any, AV.any, AV.any, AV.any, AV.any, AV.any, AV.any, AV.any, AV.any, AV.any, AV.any, AV.any, AV.any, AV.any, AV.any] H
def B112_0 (K : AV → Heap → Prop) (N1 : AV → AV → Heap → Prop) (v0 : AV) (v1 : AV) (v2 : AV) (v3 : AV) (H : Heap) : Prop :=
 binV tab .gtr 68 v2 (AV.p (.int .u64 0)) fun v14 =>
 condV v14 (condV v3 (binV tab .shl 68 v1 (AV.p (.int .u64 1)) fun v20 =>
 CallT Tryz.prog 106 [v0, v20] H fun v21 H1 =>
 binV tab .sub 68 v2 (AV.p (.int .u64 1)) fun v16 =>
 N1 v21 v16 H1)
 (binV tab .shr 68 v1 (AV.p (.int .u64 1)) fun v23 =>
 binV tab .sub 68 v2 (AV.p (.int .u64 1)) fun v16 =>
 N1 v23 v16 H))
 (K v1 H)
def W112 (v0 : AV) (v1 : AV) (v2 : AV) (v3 : AV) (H : Heap) (K : AV → Heap → Prop) : Prop :=
 convV tab 3 68 v0 fun v11 =>
 binV tab .geq 68 v2 v11 fun v12 =>
 condV v12 (K (AV.p (.int .u64 0)) H)
 (L112_0 K v0 v1 v2 v3 H)
theorem W112_wp (v0 : AV) (v1 : AV) (v2 : AV) (v3 : AV) (H : Heap) (K : AV → Heap → Prop) : wpC Tryz.prog tab D112 (bodyOf Tryz.f112) (retF tab [.tmp 8] K) (nthA [v0, v1, v2, v3]) H = W112 v0 v1 v2 v3 H K := by kernel_rfl
theorem W112_ok {v0 v1 v2 v3 : AV} {H : Heap} {K : AV → Heap → Prop} (h : W112 v0 v1 v2 v3 H K) : CallT Tryz.prog 112 [v0, v1, v2, v3] H K :=
  CallT.of_wp (D := D112) tab_ok mixed Tryz.func112 (c := bodyOf Tryz.f112) (by kernel_rfl) rfl (by kernel_rfl) (rs := #[.tmp 8]) rfl (by decide +kernel) (by kernel_rfl) (W112_wp v0 v1 v2 v3 H K) h
theorem L112_0_rule {K : AV → Heap → Prop} {v0 v1 v2 v3 : AV} {H : Heap} {σ : Type} (s0 : σ) (f1 : σ → AV) (f2 : σ → AV) (TH : σ → Heap) (pre : σ → Prop) (μ : σ → Nat)
    (h0 : pre s0 ∧ AV.wk v1 (f1 s0) ∧ AV.wk v2 (f2 s0) ∧ Heap.le (TH s0) H)
    (round : ∀ s, pre s → B112_0 K (fun w1 w2 H' => ∃ s', pre s' ∧ μ s' < μ s ∧ AV.wk w1 (f1 s') ∧ AV.wk w2 (f2 s') ∧ Heap.le (TH s') H') v0 (f1 s) (f2 s) v3 (TH s)) :
    L112_0 K v0 v1 v2 v3 H := by
  unfold L112_0
  exact LoopV.mk s0 (fun s => [f1 s, f2 s]) TH pre μ (fun _ => rfl) (Eq.mp (by kernel_rfl) h0) (fun s hs => Eq.mp (by kernel_rfl) (round s hs))
/-- loop.example/g00649/spec.l2Bool -/
def D113 : Info := ⟨4, fun i => ([], []), fun i => ([], [])⟩
def W113 (v0 : AV) (H : Heap) (K : AV → Heap → Prop) : Prop :=
 condV v0 (K (AV.p (.int .u64 1)) H)
 (K (AV.p (.int .u64 0)) H)
theorem W113_wp (v0 : AV) (H : Heap) (K : AV → Heap → Prop) : wpC Tryz.prog tab D113 (bodyOf Tryz.f113) (retF tab [.tmp 2] K) (nthA [v0]) H = W113 v0 H K := by kernel_rfl
theorem W113_ok {v0 : AV} {H : Heap} {K : AV → Heap → Prop} (h : W113 v0 H K) : CallT Tryz.prog 113 [v0] H K :=
  CallT.of_wp (D := D113) tab_ok mixed Tryz.func113 (c := bodyOf Tryz.f113) (by kernel_rfl) rfl (by kernel_rfl) (rs := #[.tmp 2]) rfl (by decide +kernel) (by kernel_rfl) (W113_wp v0 H K) h
/-- loop.example/g00649/spec.l1Signed -/
def D114 : Info := ⟨20, fun i => ([], []), fun i => ([], [])⟩
def W114 (v0 : AV) (v1 : AV) (H : Heap) (K : AV → Heap → Prop) : Prop :=
 binV tab .sub 3 v0 (AV.p (.int .i64 1)) fun v7 =>
 convV tab 3 109 v7 fun v8 =>
 binV tab .shr 68 v1 v8 fun v9 =>
 binV tab .and 68 v9 (AV.p (.int .u64 1)) fun v10 =>
 binV tab .eql 68 v10 (AV.p (.int .u64 1)) fun v11 =>
 condV v11 (CallT Tryz.prog 106 [v0, (AV.p (.int .u64 18446744073709551615))] H fun v14 H1 =>
 unV .xor v14 fun v15 =>
 binV tab .or 68 v1 v15 fun v16 =>
 convV tab 68 2 v16 fun v17 =>
 K v17 H1)
 (convV tab 68 2 v1 fun v19 =>
 K v19 H)
theorem W114_wp (v0 : AV) (v1 : AV) (H : Heap) (K : AV → Heap → Prop) : wpC Tryz.prog tab D114 (bodyOf Tryz.f114) (retF tab [.tmp 4] K) (nthA [v0, v1]) H = W114 v0 v1 H K := by kernel_rfl
theorem W114_ok {v0 v1 : AV} {H : Heap} {K : AV → Heap → Prop} (h : W114 v0 v1 H K) : CallT Tryz.prog 114 [v0, v1] H K :=
  CallT.of_wp (D := D114) tab_ok mixed Tryz.func114 (c := bodyOf Tryz.f114) (by kernel_rfl) rfl (by kernel_rfl) (rs := #[.tmp 4]) rfl (by decide +kernel) (by kernel_rfl) (W114_wp v0 v1 H K) h
/-- loop.example/g00649/spec.l1Both -/
def D115 : Info := ⟨15, fun i => ([], []), fun i => ([], [])⟩
def W115 (v0 : AV) (v1 : AV) (v2 : AV) (H : Heap) (K : AV → Heap → Prop) : Prop :=
 CallT Tryz.prog 98 [v0, v1] H fun v9 H1 =>
 grdV v9 true (CallT Tryz.prog 98 [v0, v2] H1 fun v13 H2 =>
 K v13 H2)
 (K (AV.p (.bool false)) H1)
theorem W115_wp (v0 : AV) (v1 : AV) (v2 : AV) (H : Heap) (K : AV → Heap → Prop) : wpC Tryz.prog tab D115 (bodyOf Tryz.f115) (retF tab [.tmp 6] K) (nthA [v0, v1, v2]) H = W115 v0 v1 v2 H K := by kernel_rfl
theorem W115_ok {v0 v1 v2 : AV} {H : Heap} {K : AV → Heap → Prop} (h : W115 v0 v1 v2 H K) : CallT Tryz.prog 115 [v0, v1, v2] H K :=
  CallT.of_wp (D := D115) tab_ok mixed Tryz.func115 (c := bodyOf Tryz.f115) (by kernel_rfl) rfl (by kernel_rfl) (rs := #[.tmp 6]) rfl (by decide +kernel) (by kernel_rfl) (W115_wp v0 v1 v2 H K) h
end Go.Proofs.YtdnfiacjoghfkaaGreat
/- What each function's code is asked for, as a formula. Written by wgen.py (a program of this session's) out of Lean's print of the program. -/
namespace Go.Proofs.YtdnfiacjoghfkaaGreat
open Go Go.Sep
set_option linter.unusedVariables false
attribute [local irreducible] wpC headF
/-- loop.example/g00649/laws.FnExactSplitBy -/
def D4 : Info := ⟨142, fun i => if i = 11 then ([[], [0], [], [0, 1, 2], [], [0, 1, 2, 3, 4], [0, 1, 2, 3, 4, 5], [0, 1, 2, 3, 4, 5, 6], [0, 1, 2, 3, 4, 5, 6, 7], [0, 1, 2, 3, 4, 5, 6, 7], [], [0, 1, 2, 3, 4, 5, 6, 7, 8, 10], [0, 1, 2, 3, 4, 5, 6, 7, 8, 9, 10, 11]], [(0, []), (2, []), (4, []), (1, [2]), (3, []), (5, []), (6, []), (7, []), (8, []), (9, []), (10, []), (11, []), (12, [])]) else if i = 18 then ([[], [], [1], [0, 1, 2], [0, 1, 2, 3]], [(0, []), (1, []), (2, [0]), (3, []), (4, [])]) else if i = 20 then ([[], [], [1], [0, 1, 2], [0, 1, 2, 3]], [(0, []), (1, []), (2, [0]), (3, []), (4, [])]) else if i = 38 then ([[], [0], [], [0, 1, 2], [], [0, 1, 2, 3, 4], [0, 1, 2, 3, 4, 5], [0, 1, 2, 3, 4, 5, 6], [0, 1, 2, 3, 4, 5, 6, 7], [0, 1, 2, 3, 4, 5, 6, 7], [], [0, 1, 2, 3, 4, 5, 6, 7, 8, 10], [0, 1, 2, 3, 4, 5, 6, 7, 8, 9, 10, 11]], [(0, []), (2, []), (4, []), (1, [2]), (3, []), (5, []), (6, []), (7, []), (8, []), (9, []), (10, []), (11, []), (12, [])]) else ([], []), fun i => ([], [])⟩
def W4 (v0 : AV) (v1 : AV) (v2 : AV) (H : Heap) (K : AV → Heap → Prop) : Prop :=
 boxV v0 H fun v3 H1 =>
 boxV v1 H1 fun v4 H2 =>
 loadV tab 25 v3 H2 fun v20 =>
 CallT Tryz.prog 5 [v20, (AV.p (.int .i64 1048576))] H2 fun v22 H3 =>
 binV tab .lss 3 v22 (AV.p (.int .i64 0)) fun v24 =>
 condV v24 (K (AV.p (.bool true)) H3)
 (loadV tab 48 v4 H3 fun v25 =>
 CallT Tryz.prog 18 [v25, v22] H3 fun v27 H4 =>
 binV tab .lss 3 v27 (AV.p (.int .i64 0)) fun v29 =>
 condV v29 (K (AV.p (.bool true)) H4)
 (CallT Tryz.prog 19 [v2, v27] H4 fun v32 H5 =>
 binV tab .lss 3 v32 (AV.p (.int .i64 0)) fun v34 =>
 condV v34 (K (AV.p (.bool true)) H5)
 (loadV tab 25 v3 H5 fun v36 =>
 loadV tab 48 v4 H5 fun v38 =>
 CallT Tryz.prog 8 [v36] H5 fun v37 H6 =>
 (loadV tab 48 v4 H6 fun v9038 =>
 v38 = v9038) ∧
 CallT Tryz.prog 21 [v38] H6 fun v39 H7 =>
 CallT Tryz.prog 22 [v2] H7 fun v41 H8 =>
 CallT Tryz.prog 20 [v37, v39, v41] H8 fun v42 H9 =>
 extractV v42 0 fun v43 =>
 extractV v42 1 fun v44 =>
 allocV tab 31 H9 fun v8 H10 =>
 storeV tab 31 v8 v43 H10 fun H11 =>
 loadV tab 25 v3 H11 fun v45 =>
 CallT Tryz.prog 8 [v45] H11 fun v46 H12 =>
 allocV tab 37 H12 fun v10 H13 =>
 storeV tab 37 v10 v46 H13 fun H14 =>
 loadV tab 48 v4 H14 fun v47 =>
 CallT Tryz.prog 21 [v47] H14 fun v48 H15 =>
 allocV tab 31 H15 fun v11 H16 =>
 storeV tab 31 v11 v48 H16 fun H17 =>
 CallT Tryz.prog 22 [v2] H17 fun v50 H18 =>
 loadV tab 37 v10 H18 fun v52 =>
 loadV tab 31 v11 H18 fun v53 =>
 CallT Tryz.prog 23 [v52, v53, v50] H18 fun v55 H19 =>
 extractV v55 0 fun v56 =>
 extractV v55 1 fun v57 =>
 allocV tab 31 H19 fun v13 H20 =>
 storeV tab 31 v13 v56 H20 fun H21 =>
 loadV tab 31 v13 H21 fun v58 =>
 loadV tab 31 v8 H21 fun v59 =>
 CallT Tryz.prog 11 [v58, v59] H21 fun v60 H22 =>
 unV .not v60 fun v61 =>
 grdV v61 false (binV tab .neq 4 v57 v44 fun v65 =>
 condV v65 (K (AV.p (.bool false)) H22)
 (loadV tab 37 v10 H22 fun v67 =>
 loadV tab 25 v3 H22 fun v68 =>
 CallT Tryz.prog 8 [v68] H22 fun v69 H23 =>
 (loadV tab 37 v10 H23 fun v9067 =>
 v67 = v9067) ∧
 CallT Tryz.prog 12 [v67, v69] H23 fun v70 H24 =>
 unV .not v70 fun v71 =>
 condV v71 (K (AV.p (.bool false)) H24)
 (loadV tab 31 v11 H24 fun v72 =>
 loadV tab 48 v4 H24 fun v73 =>
 CallT Tryz.prog 21 [v73] H24 fun v74 H25 =>
 (loadV tab 31 v11 H25 fun v9072 =>
 v72 = v9072) ∧
 CallT Tryz.prog 11 [v72, v74] H25 fun v75 H26 =>
 unV .not v75 fun v76 =>
 condV v76 (K (AV.p (.bool false)) H26)
 (CallT Tryz.prog 22 [v2] H26 fun v79 H27 =>
 CallT Tryz.prog 24 [v50, v79] H27 fun v80 H28 =>
 unV .not v80 fun v81 =>
 condV v81 (K (AV.p (.bool false)) H28)
 (loadV tab 37 v10 H28 fun v82 =>
 CallT Tryz.prog 14 [v82, (AV.p (.int .i64 1))] H28 fun v84 H29 =>
 loadV tab 31 v11 H29 fun v85 =>
 CallT Tryz.prog 16 [v85, v84] H29 fun v87 H30 =>
 CallT Tryz.prog 25 [v50, v87] H30 fun v90 H31 =>
 binV tab .lss 3 v90 (AV.p (.int .i64 0)) fun v92 =>
 grdV v92 false (loadV tab 31 v13 H31 fun v94 =>
 loadV tab 31 v8 H31 fun v95 =>
 CallT Tryz.prog 11 [v94, v95] H31 fun v96 H32 =>
 unV .not v96 fun v97 =>
 grdV v97 false (binV tab .neq 4 v57 v44 fun v102 =>
 condV v102 (K (AV.p (.bool false)) H32)
 (loadV tab 31 v13 H32 fun v104 =>
 CallT Tryz.prog 16 [v104, (AV.p (.int .i64 1))] H32 fun v106 H33 =>
 loadV tab 31 v13 H33 fun v107 =>
 CallT Tryz.prog 17 [v107, (AV.p (.int .i64 1))] H33 fun v109 H34 =>
 binV tab .lss 3 v109 (AV.p (.int .i64 0)) fun v111 =>
 condV v111 (K (AV.p (.bool false)) H34)
 (binV tab .neq 3 v109 v106 fun v114 =>
 condV v114 (K (AV.p (.bool false)) H34)
 (loadV tab 25 v3 H34 fun v116 =>
 loadV tab 48 v4 H34 fun v118 =>
 CallT Tryz.prog 8 [v116] H34 fun v117 H35 =>
 (loadV tab 48 v4 H35 fun v9118 =>
 v118 = v9118) ∧
 CallT Tryz.prog 21 [v118] H35 fun v119 H36 =>
 CallT Tryz.prog 22 [v2] H36 fun v121 H37 =>
 CallT Tryz.prog 23 [v117, v119, v121] H37 fun v122 H38 =>
 extractV v122 0 fun v123 =>
 extractV v122 1 fun v124 =>
 allocV tab 31 H38 fun v18 H39 =>
 storeV tab 31 v18 v123 H39 fun H40 =>
 loadV tab 31 v18 H40 fun v125 =>
 loadV tab 31 v8 H40 fun v126 =>
 CallT Tryz.prog 11 [v125, v126] H40 fun v127 H41 =>
 unV .not v127 fun v128 =>
 grdV v128 false (binV tab .neq 4 v124 v44 fun v132 =>
 condV v132 (K (AV.p (.bool false)) H41)
 (loadV tab 31 v13 H41 fun v134 =>
 CallT Tryz.prog 17 [v134, (AV.p (.int .i64 1))] H41 fun v136 H42 =>
 binV tab .lss 3 v136 (AV.p (.int .i64 0)) fun v138 =>
 condV v138 (K (AV.p (.bool false)) H42)
 (binV tab .neq 3 v136 v106 fun v141 =>
 condV v141 (K (AV.p (.bool false)) H42)
 (K (AV.p (.bool true)) H42))))
 (K (AV.p (.bool false)) H41)))))
 (K (AV.p (.bool false)) H32))
 (K (AV.p (.bool false)) H31))))))
 (K (AV.p (.bool false)) H22))))
theorem W4_wp (v0 : AV) (v1 : AV) (v2 : AV) (H : Heap) (K : AV → Heap → Prop) : wpC Tryz.prog tab D4 (bodyOf Tryz.f4) (retF tab [.tmp 6] K) (nthA [v0, v1, v2]) H = W4 v0 v1 v2 H K := by kernel_rfl
theorem W4_ok {v0 v1 v2 : AV} {H : Heap} {K : AV → Heap → Prop} (h : W4 v0 v1 v2 H K) : CallT Tryz.prog 4 [v0, v1, v2] H K :=
  CallT.of_wp (D := D4) tab_ok mixed Tryz.func4 (c := bodyOf Tryz.f4) (by kernel_rfl) rfl (by kernel_rfl) (rs := #[.tmp 6]) rfl (by decide +kernel) (by kernel_rfl) (W4_wp v0 v1 v2 H K) h
/-- loop.example/g00649/laws.szSight -/
def D18 : Info := ⟨12, fun i => ([], []), fun i => ([], [])⟩
def W18 (v0 : AV) (v1 : AV) (H : Heap) (K : AV → Heap → Prop) : Prop :=
 boxV v0 H fun v2 H1 =>
 fieldAddrV tab 48 v2 0 fun v5 =>
 loadV tab 29 v5 H1 fun v6 =>
 CallT Tryz.prog 42 [v6, v1] H1 fun v8 H2 =>
 binV tab .lss 3 v8 (AV.p (.int .i64 0)) fun v10 =>
 condV v10 (K (AV.p (.int .i64 (-1))) H2)
 (K v8 H2)
theorem W18_wp (v0 : AV) (v1 : AV) (H : Heap) (K : AV → Heap → Prop) : wpC Tryz.prog tab D18 (bodyOf Tryz.f18) (retF tab [.tmp 4] K) (nthA [v0, v1]) H = W18 v0 v1 H K := by kernel_rfl
theorem W18_ok {v0 v1 : AV} {H : Heap} {K : AV → Heap → Prop} (h : W18 v0 v1 H K) : CallT Tryz.prog 18 [v0, v1] H K :=
  CallT.of_wp (D := D18) tab_ok mixed Tryz.func18 (c := bodyOf Tryz.f18) (by kernel_rfl) rfl (by kernel_rfl) (rs := #[.tmp 4]) rfl (by decide +kernel) (by kernel_rfl) (W18_wp v0 v1 H K) h
/-- loop.example/g00649/spec.SplitBy -/
def D20 : Info := ⟨23, fun i => ([], []), fun i => ([], [])⟩
def W20 (v0 : AV) (v1 : AV) (v2 : AV) (H : Heap) (K : AV → Heap → Prop) : Prop :=
 boxV v0 H fun v3 H1 =>
 boxV v1 H1 fun v4 H2 =>
 allocV tab 31 H2 fun v6 H3 =>
 loadV tab 37 v3 H3 fun v8 =>
 loadV tab 31 v4 H3 fun v9 =>
 CallT Tryz.prog 43 [v8, v9] H3 fun v10 H4 =>
 unV .not v10 fun v11 =>
 grdV v11 false (loadV tab 37 v3 H4 fun v13 =>
 CallT Tryz.prog 44 [v13, v2] H4 fun v15 H5 =>
 unV .not v15 fun v16 =>
 condV v16 (buildV tab 31 [] fun v18 =>
 storeV tab 31 v6 v18 H5 fun H6 =>
 loadV tab 31 v6 H6 fun r0 =>
 K (.tup [r0, (AV.p (.bool false))]) H6)
 (loadV tab 37 v3 H5 fun v19 =>
 loadV tab 31 v4 H5 fun v20 =>
 CallT Tryz.prog 45 [v19, v20, v2] H5 fun v22 H7 =>
 storeV tab 31 v6 v22 H7 fun H8 =>
 loadV tab 31 v6 H8 fun r0 =>
 K (.tup [r0, (AV.p (.bool true))]) H8))
 (buildV tab 31 [] fun v18 =>
 storeV tab 31 v6 v18 H4 fun H9 =>
 loadV tab 31 v6 H9 fun r0 =>
 K (.tup [r0, (AV.p (.bool false))]) H9)
theorem W20_wp (v0 : AV) (v1 : AV) (v2 : AV) (H : Heap) (K : AV → Heap → Prop) : wpC Tryz.prog tab D20 (bodyOf Tryz.f20) (retF tab [.cell 6 31, .tmp 7] K) (nthA [v0, v1, v2]) H = W20 v0 v1 v2 H K := by kernel_rfl
theorem W20_ok {v0 v1 v2 : AV} {H : Heap} {K : AV → Heap → Prop} (h : W20 v0 v1 v2 H K) : CallT Tryz.prog 20 [v0, v1, v2] H K :=
  CallT.of_wp (D := D20) tab_ok mixed Tryz.func20 (c := bodyOf Tryz.f20) (by kernel_rfl) rfl (by kernel_rfl) (rs := #[.cell 6 31, .tmp 7]) rfl (by decide +kernel) (by kernel_rfl) (W20_wp v0 v1 v2 H K) h
/-- loop.example/g00649/laws.toSight -/
def D21 : Info := ⟨9, fun i => ([], []), fun i => ([], [])⟩
def W21 (v0 : AV) (H : Heap) (K : AV → Heap → Prop) : Prop :=
 boxV v0 H fun v1 H1 =>
 allocV tab 31 H1 fun v2 H2 =>
 allocV tab 31 H2 fun v3 H3 =>
 fieldAddrV tab 48 v1 0 fun v4 =>
 loadV tab 29 v4 H3 fun v5 =>
 CallT Tryz.prog 46 [v5] H3 fun v6 H4 =>
 fieldAddrV tab 31 v3 0 fun v7 =>
 storeV tab 29 v7 v6 H4 fun H5 =>
 loadV tab 31 v3 H5 fun v8 =>
 storeV tab 31 v2 v8 H5 fun H6 =>
 loadV tab 31 v2 H6 fun r0 =>
 K r0 H6
theorem W21_wp (v0 : AV) (H : Heap) (K : AV → Heap → Prop) : wpC Tryz.prog tab D21 (bodyOf Tryz.f21) (retF tab [.cell 2 31] K) (nthA [v0]) H = W21 v0 H K := by kernel_rfl
theorem W21_ok {v0 : AV} {H : Heap} {K : AV → Heap → Prop} (h : W21 v0 H K) : CallT Tryz.prog 21 [v0] H K :=
  CallT.of_wp (D := D21) tab_ok mixed Tryz.func21 (c := bodyOf Tryz.f21) (by kernel_rfl) rfl (by kernel_rfl) (rs := #[.cell 2 31]) rfl (by decide +kernel) (by kernel_rfl) (W21_wp v0 H K) h
/-- loop.example/g00649/impl.SplitBy -/
def D23 : Info := ⟨29, fun i => ([], []), fun i => ([], [])⟩
def W23 (v0 : AV) (v1 : AV) (v2 : AV) (H : Heap) (K : AV → Heap → Prop) : Prop :=
 boxV v0 H fun v3 H1 =>
 boxV v1 H1 fun v4 H2 =>
 allocV tab 31 H2 fun v6 H3 =>
 loadV tab 37 v3 H3 fun v11 =>
 buildSliceV tab 39 1 [(0, v2)] H3 (wkK fun v13 H4 =>
 CallT Tryz.prog 10 [v11, v13] H4 fun v14 H5 =>
 extractV v14 0 fun v15 =>
 extractV v14 1 fun v16 =>
 allocV tab 31 H5 fun v8 H6 =>
 storeV tab 31 v8 v15 H6 fun H7 =>
 unV .not v16 fun v18 =>
 grdV v18 false (loadV tab 37 v3 H7 fun v20 =>
 loadV tab 31 v4 H7 fun v21 =>
 CallT Tryz.prog 48 [v20, v21] H7 fun v22 H8 =>
 unV .not v22 fun v23 =>
 condV v23 (buildV tab 31 [] fun v25 =>
 storeV tab 31 v6 v25 H8 fun H9 =>
 loadV tab 31 v6 H9 fun r0 =>
 K (.tup [r0, (AV.p (.bool false))]) H9)
 (loadV tab 31 v4 H8 fun v26 =>
 loadV tab 31 v8 H8 fun v27 =>
 CallT Tryz.prog 49 [v26, v27] H8 fun v28 H10 =>
 storeV tab 31 v6 v28 H10 fun H11 =>
 loadV tab 31 v6 H11 fun r0 =>
 K (.tup [r0, (AV.p (.bool true))]) H11))
 (buildV tab 31 [] fun v25 =>
 storeV tab 31 v6 v25 H7 fun H12 =>
 loadV tab 31 v6 H12 fun r0 =>
 K (.tup [r0, (AV.p (.bool false))]) H12))
theorem W23_wp (v0 : AV) (v1 : AV) (v2 : AV) (H : Heap) (K : AV → Heap → Prop) : wpC Tryz.prog tab D23 (bodyOf Tryz.f23) (retF tab [.cell 6 31, .tmp 7] K) (nthA [v0, v1, v2]) H = W23 v0 v1 v2 H K := by kernel_rfl
theorem W23_ok {v0 v1 v2 : AV} {H : Heap} {K : AV → Heap → Prop} (h : W23 v0 v1 v2 H K) : CallT Tryz.prog 23 [v0, v1, v2] H K :=
  CallT.of_wp (D := D23) tab_ok mixed Tryz.func23 (c := bodyOf Tryz.f23) (by kernel_rfl) rfl (by kernel_rfl) (rs := #[.cell 6 31, .tmp 7]) rfl (by decide +kernel) (by kernel_rfl) (W23_wp v0 v1 v2 H K) h
/-- loop.example/g00649/laws.szIntS -/
def D42 : Info := ⟨12, fun i => ([], []), fun i => ([], [])⟩
def W42 (v0 : AV) (v1 : AV) (H : Heap) (K : AV → Heap → Prop) : Prop :=
 lenV tab 29 v0 fun v7 =>
 binV tab .sub 3 v1 v7 fun v8 =>
 binV tab .lss 3 v8 (AV.p (.int .i64 0)) fun v10 =>
 condV v10 (K (AV.p (.int .i64 (-1))) H)
 (K v8 H)
theorem W42_wp (v0 : AV) (v1 : AV) (H : Heap) (K : AV → Heap → Prop) : wpC Tryz.prog tab D42 (bodyOf Tryz.f42) (retF tab [.tmp 4] K) (nthA [v0, v1]) H = W42 v0 v1 H K := by kernel_rfl
theorem W42_ok {v0 v1 : AV} {H : Heap} {K : AV → Heap → Prop} (h : W42 v0 v1 H K) : CallT Tryz.prog 42 [v0, v1] H K :=
  CallT.of_wp (D := D42) tab_ok mixed Tryz.func42 (c := bodyOf Tryz.f42) (by kernel_rfl) rfl (by kernel_rfl) (rs := #[.tmp 4]) rfl (by decide +kernel) (by kernel_rfl) (W42_wp v0 v1 H K) h
/-- loop.example/g00649/spec.GoodSight -/
def D43 : Info := ⟨36, fun i => if i = 1 then ([[], [0], [0, 1], [0, 1, 2], [0, 1, 2, 3], [0, 1, 2, 3, 4], [0, 1, 2, 3, 4, 5], [0, 1, 2, 3], [0, 1, 2, 3, 7], [0, 1, 2, 3, 4, 5, 6, 7, 8], [0, 1, 2, 3, 4, 5, 6, 7, 8, 9]], [(0, []), (1, []), (2, []), (3, []), (4, []), (5, []), (6, []), (7, []), (8, [5]), (9, []), (10, [])]) else ([], []), fun i => if i = 5 then ([20, 21], [5, 22]) else ([], [])⟩
def L43_0 (K : AV → Heap → Prop) (v5 : AV) (v20 : AV) (v21 : AV) (v22 : AV) (H : Heap) : Prop := LoopV (wpC Tryz.prog tab D43 (cAt [1, 1, 1, 0, 1, 0, 0] (bodyOf Tryz.f43))) [20, 21] (PostF.block 0 (PostF.thenA (wpC Tryz.prog tab D43 (cAt [1, 1, 1, 1] (bodyOf Tryz.f43))) (retF tab [.tmp 4] K))) [5, 22] [AV.any, AV.any, AV.any, AV.any, AV.any, v5, AV.any, AV.any, AV.any, AV.any, AV.any, AV.any, AV.any, AV.any, AV.any, AV.any, AV.any, AV.any, AV.any, AV.any, v20, v21, v22, AV.any, AV.any, AV.any, AV.any, AV.any, AV.any, AV.any, AV.any, AV.any, AV.any, AV.any, AV.any, AV.any] H
def B43_0 (K : AV → Heap → Prop) (N1 : AV → AV → Heap → Prop) (v5 : AV) (v20 : AV) (v21 : AV) (v22 : AV) (H : Heap) : Prop :=
 binV tab .lss 3 v22 v21 fun v23 =>
 condV v23 (indexAddrV tab 29 v20 v22 fun v24 =>
 loadV tab 3 v24 H fun v25 =>
 CallT Tryz.prog 63 [v25, (AV.p (.int .i64 0)), v5] H fun v28 H5 =>
 unV .not v28 fun v29 =>
 condV v29 (K (AV.p (.bool false)) H5)
 (binV tab .eql 3 v25 v5 fun v32 =>
 condV v32 (binV tab .add 3 v5 (AV.p (.int .i64 1)) fun v34 =>
 binV tab .add 3 v22 (AV.p (.int .i64 1)) fun v35 =>
 N1 v34 v35 H5)
 (binV tab .add 3 v22 (AV.p (.int .i64 1)) fun v35 =>
 N1 v5 v35 H5)))
 (K (AV.p (.bool true)) H)
def W43 (v0 : AV) (v1 : AV) (H : Heap) (K : AV → Heap → Prop) : Prop :=
 boxV v0 H fun v2 H1 =>
 boxV v1 H1 fun v3 H2 =>
 loadV tab 37 v2 H2 fun v8 =>
 CallT Tryz.prog 27 [v8] H2 fun v9 H3 =>
 unV .not v9 fun v10 =>
 grdV v10 false (fieldAddrV tab 31 v3 0 fun v12 =>
 loadV tab 29 v12 H3 fun v13 =>
 lenV tab 29 v13 fun v14 =>
 loadV tab 37 v2 H3 fun v15 =>
 CallT Tryz.prog 53 [v15] H3 fun v16 H4 =>
 (loadV tab 29 v12 H4 fun v9013 =>
 v13 = v9013) ∧
 binV tab .neq 3 v14 v16 fun v17 =>
 condV v17 (K (AV.p (.bool false)) H4)
 (fieldAddrV tab 31 v3 0 fun v19 =>
 loadV tab 29 v19 H4 fun v20 =>
 lenV tab 29 v20 fun v21 =>
 L43_0 K (AV.p (.int .i64 0)) v20 v21 (AV.p (.int .i64 0)) H4))
 ((AV.und = AV.und) ∧
 K (AV.p (.bool false)) H3)
theorem W43_wp (v0 : AV) (v1 : AV) (H : Heap) (K : AV → Heap → Prop) : wpC Tryz.prog tab D43 (bodyOf Tryz.f43) (retF tab [.tmp 4] K) (nthA [v0, v1]) H = W43 v0 v1 H K := by kernel_rfl
theorem W43_ok {v0 v1 : AV} {H : Heap} {K : AV → Heap → Prop} (h : W43 v0 v1 H K) : CallT Tryz.prog 43 [v0, v1] H K :=
  CallT.of_wp (D := D43) tab_ok mixed Tryz.func43 (c := bodyOf Tryz.f43) (by kernel_rfl) rfl (by kernel_rfl) (rs := #[.tmp 4]) rfl (by decide +kernel) (by kernel_rfl) (W43_wp v0 v1 H K) h
theorem L43_0_rule {K : AV → Heap → Prop} {v5 v20 v21 v22 : AV} {H : Heap} {σ : Type} (s0 : σ) (f5 : σ → AV) (f22 : σ → AV) (TH : σ → Heap) (pre : σ → Prop) (μ : σ → Nat)
    (h0 : pre s0 ∧ AV.wk v5 (f5 s0) ∧ AV.wk v22 (f22 s0) ∧ Heap.le (TH s0) H)
    (round : ∀ s, pre s → B43_0 K (fun w5 w22 H' => ∃ s', pre s' ∧ μ s' < μ s ∧ AV.wk w5 (f5 s') ∧ AV.wk w22 (f22 s') ∧ Heap.le (TH s') H') (f5 s) v20 v21 (f22 s) (TH s)) :
    L43_0 K v5 v20 v21 v22 H := by
  unfold L43_0
  exact LoopV.mk s0 (fun s => [f5 s, f22 s]) TH pre μ (fun _ => rfl) (Eq.mp (by kernel_rfl) h0) (fun s hs => Eq.mp (by kernel_rfl) (round s hs))
/-- loop.example/g00649/laws.toIntS -/
def D46 : Info := ⟨22, fun i => ([], []), fun i => if i = 3 then ([0, 3], [4]) else ([], [])⟩
def L46_0 (K : AV → Heap → Prop) (v0 : AV) (v3 : AV) (v4 : AV) (H : Heap) : Prop := LoopV (wpC Tryz.prog tab D46 (cAt [1, 1, 0, 1, 0, 0] (bodyOf Tryz.f46))) [0, 3] (PostF.block 0 (PostF.thenA (wpC Tryz.prog tab D46 (cAt [1, 1, 1] (bodyOf Tryz.f46))) (retF tab [.tmp 2] K))) [4] [v0, AV.any, AV.any, v3, v4, AV.any, AV.any, AV.any, AV.any, AV.any, AV.any, AV.any, AV.any, AV.any, AV.any, AV.any, AV.any, AV.any, AV.any, AV.any, AV.any, AV.any] H
def B46_0 (K : AV → Heap → Prop) (N1 : AV → Heap → Prop) (v0 : AV) (v3 : AV) (v4 : AV) (H : Heap) : Prop :=
 lenV tab 29 v0 fun v10 =>
 binV tab .lss 3 v4 v10 fun v11 =>
 condV v11 (indexAddrV tab 29 v0 v4 fun v18 =>
 loadV tab 3 v18 H fun v19 =>
 indexAddrV tab 29 v3 v4 fun v20 =>
 storeV tab 3 v20 v19 H fun H2 =>
 binV tab .add 3 v4 (AV.p (.int .i64 1)) fun v13 =>
 N1 v13 H2)
 (K v3 H)
def W46 (v0 : AV) (H : Heap) (K : AV → Heap → Prop) : Prop :=
 lenV tab 29 v0 fun v6 =>
 makeSliceV tab 29 v6 v6 H fun v7 H1 =>
 L46_0 K v0 v7 (AV.p (.int .i64 0)) H1
theorem W46_wp (v0 : AV) (H : Heap) (K : AV → Heap → Prop) : wpC Tryz.prog tab D46 (bodyOf Tryz.f46) (retF tab [.tmp 2] K) (nthA [v0]) H = W46 v0 H K := by kernel_rfl
theorem W46_ok {v0 : AV} {H : Heap} {K : AV → Heap → Prop} (h : W46 v0 H K) : CallT Tryz.prog 46 [v0] H K :=
  CallT.of_wp (D := D46) tab_ok mixed Tryz.func46 (c := bodyOf Tryz.f46) (by kernel_rfl) rfl (by kernel_rfl) (rs := #[.tmp 2]) rfl (by decide +kernel) (by kernel_rfl) (W46_wp v0 H K) h
theorem L46_0_rule {K : AV → Heap → Prop} {v0 v3 v4 : AV} {H : Heap} {σ : Type} (s0 : σ) (f4 : σ → AV) (TH : σ → Heap) (pre : σ → Prop) (μ : σ → Nat)
    (h0 : pre s0 ∧ AV.wk v4 (f4 s0) ∧ Heap.le (TH s0) H)
    (round : ∀ s, pre s → B46_0 K (fun w4 H' => ∃ s', pre s' ∧ μ s' < μ s ∧ AV.wk w4 (f4 s') ∧ Heap.le (TH s') H') v0 v3 (f4 s) (TH s)) :
    L46_0 K v0 v3 v4 H := by
  unfold L46_0
  exact LoopV.mk s0 (fun s => [f4 s]) TH pre μ (fun _ => rfl) (Eq.mp (by kernel_rfl) h0) (fun s hs => Eq.mp (by kernel_rfl) (round s hs))
/-- loop.example/g00649/impl.GoodSight -/
def D48 : Info := ⟨13, fun i => if i = 1 then ([[], [0], [0, 1], [0, 1, 2], [0, 1, 2], [0, 1, 2, 4], [0, 1, 2, 3, 4, 5], [0, 1, 2, 3, 4, 5, 6], [0, 1, 2, 3, 4, 5, 6, 7]], [(0, []), (1, []), (2, []), (3, []), (4, []), (5, [3]), (6, []), (7, []), (8, [])]) else ([], []), fun i => ([], [])⟩
def W48 (v0 : AV) (v1 : AV) (H : Heap) (K : AV → Heap → Prop) : Prop :=
 boxV v0 H fun v2 H1 =>
 boxV v1 H1 fun v3 H2 =>
 loadV tab 37 v2 H2 fun v5 =>
 CallT Tryz.prog 31 [v5] H2 fun v6 H3 =>
 grdV v6 true (loadV tab 31 v3 H3 fun v8 =>
 loadV tab 37 v2 H3 fun v9 =>
 CallT Tryz.prog 33 [v9] H3 fun v10 H4 =>
 (loadV tab 31 v3 H4 fun v9008 =>
 v8 = v9008) ∧
 CallT Tryz.prog 67 [v8, v10] H4 fun v11 H5 =>
 K v11 H5)
 ((AV.und = AV.und) ∧
 K (AV.p (.bool false)) H3)
theorem W48_wp (v0 : AV) (v1 : AV) (H : Heap) (K : AV → Heap → Prop) : wpC Tryz.prog tab D48 (bodyOf Tryz.f48) (retF tab [.tmp 4] K) (nthA [v0, v1]) H = W48 v0 v1 H K := by kernel_rfl
theorem W48_ok {v0 v1 : AV} {H : Heap} {K : AV → Heap → Prop} (h : W48 v0 v1 H K) : CallT Tryz.prog 48 [v0, v1] H K :=
  CallT.of_wp (D := D48) tab_ok mixed Tryz.func48 (c := bodyOf Tryz.f48) (by kernel_rfl) rfl (by kernel_rfl) (rs := #[.tmp 4]) rfl (by decide +kernel) (by kernel_rfl) (W48_wp v0 v1 H K) h
/-- loop.example/g00649/impl.meetOf -/
def D49 : Info := ⟨30, fun i => ([], []), fun i => if i = 3 then ([3, 4, 10, 11], [5, 12]) else ([], [])⟩
def L49_0 (K : AV → Heap → Prop) (v3 : AV) (v4 : AV) (v5 : AV) (v10 : AV) (v11 : AV) (v12 : AV) (H : Heap) : Prop := LoopV (wpC Tryz.prog tab D49 (cAt [1, 1, 0, 1, 0, 0] (bodyOf Tryz.f49))) [3, 4, 10, 11] (PostF.block 0 (PostF.thenA (wpC Tryz.prog tab D49 (cAt [1, 1, 1] (bodyOf Tryz.f49))) (retF tab [.cell 4 31] K))) [5, 12] [AV.any, AV.any, AV.any, v3, v4, v5, AV.any, AV.any, AV.any, AV.any, v10, v11, v12, AV.any, AV.any, AV.any, AV.any, AV.any, AV.any, AV.any, AV.any, AV.any, AV.any, AV.any, AV.any, AV.any, AV.any, AV.any, AV.any, AV.any] H
def B49_0 (K : AV → Heap → Prop) (N1 : AV → AV → Heap → Prop) (v3 : AV) (v4 : AV) (v5 : AV) (v10 : AV) (v11 : AV) (v12 : AV) (H : Heap) : Prop :=
 binV tab .lss 3 v12 v11 fun v13 =>
 condV v13 (indexAddrV tab 29 v10 v12 fun v15 =>
 loadV tab 3 v15 H fun v16 =>
 fieldAddrV tab 31 v3 0 fun v19 =>
 loadV tab 29 v19 H fun v20 =>
 indexAddrV tab 29 v20 v12 fun v22 =>
 loadV tab 3 v22 H fun v23 =>
 buildV tab 67 [(0, v16), (1, v23)] fun v24 =>
 buildSliceV tab 63 1 [(0, v24)] H (wkK fun v25 H5 =>
 appendV tab 63 63 v5 v25 H5 (wkK fun v26 H6 =>
 binV tab .add 3 v12 (AV.p (.int .i64 1)) fun v27 =>
 N1 v26 v27 H6)))
 (CallT Tryz.prog 36 [v5] H fun v29 H7 =>
 storeV tab 31 v4 v29 H7 fun H8 =>
 loadV tab 31 v4 H8 fun r0 =>
 K r0 H8)
def W49 (v0 : AV) (v1 : AV) (H : Heap) (K : AV → Heap → Prop) : Prop :=
 boxV v0 H fun v2 H1 =>
 boxV v1 H1 fun v3 H2 =>
 allocV tab 31 H2 fun v4 H3 =>
 buildSliceV tab 63 0 [] H3 (wkK fun v8 H4 =>
 fieldAddrV tab 31 v2 0 fun v9 =>
 loadV tab 29 v9 H4 fun v10 =>
 lenV tab 29 v10 fun v11 =>
 L49_0 K v3 v4 v8 v10 v11 (AV.p (.int .i64 0)) H4)
theorem W49_wp (v0 : AV) (v1 : AV) (H : Heap) (K : AV → Heap → Prop) : wpC Tryz.prog tab D49 (bodyOf Tryz.f49) (retF tab [.cell 4 31] K) (nthA [v0, v1]) H = W49 v0 v1 H K := by kernel_rfl
theorem W49_ok {v0 v1 : AV} {H : Heap} {K : AV → Heap → Prop} (h : W49 v0 v1 H K) : CallT Tryz.prog 49 [v0, v1] H K :=
  CallT.of_wp (D := D49) tab_ok mixed Tryz.func49 (c := bodyOf Tryz.f49) (by kernel_rfl) rfl (by kernel_rfl) (rs := #[.cell 4 31]) rfl (by decide +kernel) (by kernel_rfl) (W49_wp v0 v1 H K) h
theorem L49_0_rule {K : AV → Heap → Prop} {v3 v4 v5 v10 v11 v12 : AV} {H : Heap} {σ : Type} (s0 : σ) (f5 : σ → AV) (f12 : σ → AV) (TH : σ → Heap) (pre : σ → Prop) (μ : σ → Nat)
    (h0 : pre s0 ∧ AV.wk v5 (f5 s0) ∧ AV.wk v12 (f12 s0) ∧ Heap.le (TH s0) H)
    (round : ∀ s, pre s → B49_0 K (fun w5 w12 H' => ∃ s', pre s' ∧ μ s' < μ s ∧ AV.wk w5 (f5 s') ∧ AV.wk w12 (f12 s') ∧ Heap.le (TH s') H') v3 v4 (f5 s) v10 v11 (f12 s) (TH s)) :
    L49_0 K v3 v4 v5 v10 v11 v12 H := by
  unfold L49_0
  exact LoopV.mk s0 (fun s => [f5 s, f12 s]) TH pre μ (fun _ => rfl) (Eq.mp (by kernel_rfl) h0) (fun s hs => Eq.mp (by kernel_rfl) (round s hs))
/-- loop.example/g00649/impl.isSight -/
def D67 : Info := ⟨33, fun i => ([], []), fun i => if i = 3 then ([1, 2, 9, 10], [5, 11]) else ([], [])⟩
def L67_0 (K : AV → Heap → Prop) (v1 : AV) (v2 : AV) (v5 : AV) (v9 : AV) (v10 : AV) (v11 : AV) (H : Heap) : Prop := LoopV (wpC Tryz.prog tab D67 (cAt [1, 1, 0, 1, 0, 0] (bodyOf Tryz.f67))) [1, 2, 9, 10] (PostF.block 0 (PostF.thenA (wpC Tryz.prog tab D67 (cAt [1, 1, 1] (bodyOf Tryz.f67))) (retF tab [.tmp 4] K))) [5, 11] [AV.any, v1, v2, AV.any, AV.any, v5, AV.any, AV.any, AV.any, v9, v10, v11, AV.any, AV.any, AV.any, AV.any, AV.any, AV.any, AV.any, AV.any, AV.any, AV.any, AV.any, AV.any, AV.any, AV.any, AV.any, AV.any, AV.any, AV.any, AV.any, AV.any, AV.any] H
def B67_0 (K : AV → Heap → Prop) (N1 : AV → AV → Heap → Prop) (v1 : AV) (v2 : AV) (v5 : AV) (v9 : AV) (v10 : AV) (v11 : AV) (H : Heap) : Prop :=
 binV tab .lss 3 v11 v10 fun v12 =>
 condV v12 (indexAddrV tab 29 v9 v11 fun v13 =>
 loadV tab 3 v13 H fun v14 =>
 binV tab .lss 3 v14 (AV.p (.int .i64 0)) fun v16 =>
 grdV v16 false (binV tab .gtr 3 v14 v5 fun v20 =>
 condV v20 (K (AV.p (.bool false)) H)
 (binV tab .eql 3 v14 v5 fun v24 =>
 condV v24 (binV tab .add 3 v5 (AV.p (.int .i64 1)) fun v26 =>
 binV tab .add 3 v11 (AV.p (.int .i64 1)) fun v27 =>
 N1 v26 v27 H)
 (binV tab .add 3 v11 (AV.p (.int .i64 1)) fun v27 =>
 N1 v5 v27 H)))
 (K (AV.p (.bool false)) H))
 (fieldAddrV tab 31 v2 0 fun v28 =>
 loadV tab 29 v28 H fun v29 =>
 lenV tab 29 v29 fun v30 =>
 binV tab .eql 3 v30 v1 fun v32 =>
 K v32 H)
def W67 (v0 : AV) (v1 : AV) (H : Heap) (K : AV → Heap → Prop) : Prop :=
 boxV v0 H fun v2 H1 =>
 fieldAddrV tab 31 v2 0 fun v8 =>
 loadV tab 29 v8 H1 fun v9 =>
 lenV tab 29 v9 fun v10 =>
 L67_0 K v1 v2 (AV.p (.int .i64 0)) v9 v10 (AV.p (.int .i64 0)) H1
theorem W67_wp (v0 : AV) (v1 : AV) (H : Heap) (K : AV → Heap → Prop) : wpC Tryz.prog tab D67 (bodyOf Tryz.f67) (retF tab [.tmp 4] K) (nthA [v0, v1]) H = W67 v0 v1 H K := by kernel_rfl
theorem W67_ok {v0 v1 : AV} {H : Heap} {K : AV → Heap → Prop} (h : W67 v0 v1 H K) : CallT Tryz.prog 67 [v0, v1] H K :=
  CallT.of_wp (D := D67) tab_ok mixed Tryz.func67 (c := bodyOf Tryz.f67) (by kernel_rfl) rfl (by kernel_rfl) (rs := #[.tmp 4]) rfl (by decide +kernel) (by kernel_rfl) (W67_wp v0 v1 H K) h
theorem L67_0_rule {K : AV → Heap → Prop} {v1 v2 v5 v9 v10 v11 : AV} {H : Heap} {σ : Type} (s0 : σ) (f5 : σ → AV) (f11 : σ → AV) (TH : σ → Heap) (pre : σ → Prop) (μ : σ → Nat)
    (h0 : pre s0 ∧ AV.wk v5 (f5 s0) ∧ AV.wk v11 (f11 s0) ∧ Heap.le (TH s0) H)
    (round : ∀ s, pre s → B67_0 K (fun w5 w11 H' => ∃ s', pre s' ∧ μ s' < μ s ∧ AV.wk w5 (f5 s') ∧ AV.wk w11 (f11 s') ∧ Heap.le (TH s') H') v1 v2 (f5 s) v9 v10 (f11 s) (TH s)) :
    L67_0 K v1 v2 v5 v9 v10 v11 H := by
  unfold L67_0
  exact LoopV.mk s0 (fun s => [f5 s, f11 s]) TH pre μ (fun _ => rfl) (Eq.mp (by kernel_rfl) h0) (fun s hs => Eq.mp (by kernel_rfl) (round s hs))
end Go.Proofs.YtdnfiacjoghfkaaGreat

/- General rules for specs: numbers, weakenings, literals, functions of values at a heap. -/
namespace Go.Proofs.YtdnfiacjoghfkaaGreat
open Go Go.Sep
set_option linter.unusedSimpArgs false
set_option linter.unusedVariables false
attribute [local irreducible] CallT
theorem i64_id {n : Int} (h0 : -9223372036854775808 ≤ n) (h1 : n ≤ 9223372036854775807) : IntKind.i64.wrap n = n := wrap64_id h0 h1
theorem wk_int {k : IntKind} {a b : Int} : AV.wk (.p (.int k a)) (.p (.int k b)) = (a = b) := by
  apply propext; constructor
  · intro h; cases h; rfl
  · rintro rfl; exact .refl _
theorem take_all_succ {α : Type} {p : α → Bool} {xs : List α} {i : Nat} (h : i < xs.length) : (xs.take (i + 1)).all p = ((xs.take i).all p && p xs[i]) := by
  rw [List.take_succ_eq_append_getElem h, List.all_append]; simp
theorem getD_lt {α : Type} {xs : List α} {i : Nat} {d : α} (h : i < xs.length) : xs.getD i d = xs[i] := by simp [List.getD, h]
theorem getD_all {α : Type} {p : α → Prop} {l : List α} {d : α} (h : ∀ b ∈ l, p b) {i : Nat} (hi : i < l.length) : p (l.getD i d) := by
  simp only [List.getD, List.getElem?_eq_getElem hi, Option.getD_some]; exact h _ (List.getElem_mem hi)
theorem range_all_succ {p : Nat → Bool} {n : Nat} : (List.range (n + 1)).all p = ((List.range n).all p && p n) := by
  rw [List.range_succ, List.all_append]; simp
theorem range_all_false {p : Nat → Bool} {n i : Nat} (hi : i < n) (h : p i = false) : (List.range n).all p = false := by
  rw [List.all_eq_false]; exact ⟨i, List.mem_range.2 hi, by simp [h]⟩

theorem Wk.own_le {q sz : Nat} {es : List (List PV)} {H H' : Heap} (hpos : 0 < sz) (hs : Sized sz es) (hq : H q = none) (hle : Heap.le (H.set q (cells es)) H') : Wk (own q sz es) H' (.p (.sl es)) H := by
  have h1 : H' q = some (cells es) := hle q _ (Heap.set_same _ _ _)
  refine .trans (.own hpos hs h1) (.forget (Heap.le_del (fun x b hx => hle x b ?_) hq))
  rw [Heap.set_other (fun e => by rw [e, hq] at hx; cases hx)]; exact hx
/-- What is asked may be told of less. -/
theorem CallT.fin {P : Program} {f : Nat} {args : List AV} {H : Heap} {K : AV → Heap → Prop} (h : CallT P f args H (wkK K)) : CallT P f args H K :=
  h.wk fun v H1 ⟨v', H2, hw, hk⟩ => ⟨v', H2, hw, hk⟩
theorem szI (xs : List Int) : Sized 1 (xs.map eI) := sized_map (f := eI) (fun _ => rfl) xs
theorem cells_I (xs : List Int) : cells (xs.map eI) = xs.map fun n => I n := by
  induction xs with
  | nil => rfl
  | cons x xs ih => simp only [cells, List.map_cons, List.flatten_cons, List.map_append] at ih ⊢; rw [ih]; rfl

/-- A list of lists, a list of booleans. -/
abbrev eL (l : List Int) : List PV := [.sl (l.map eI)]
abbrev Ls (cs : List (List Int)) : AV := .p (.sl (cs.map eL))
/-- A row that is told by value at the end. -/
theorem fin_own {q sz : Nat} {es : List (List PV)} {H H' : Heap} {K : AV → Heap → Prop} (hpos : 0 < sz) (hs : Sized sz es) (hq : H q = none) (hle : Heap.le (H.set q (cells es)) H') (h : K (.p (.sl es)) H) : wkK K (own q sz es) H' :=
  ⟨_, _, Wk.own_le hpos hs hq hle, h⟩
theorem fin_le {v : AV} {H H' : Heap} {K : AV → Heap → Prop} (hle : Heap.le H H') (h : K v H) : wkK K v H' := ⟨_, _, .forget hle, h⟩

/-- A function of values alone at one heap. -/
def PuAt (P : Program) (f : Nat) (args : List AV) (H : Heap) (v : AV) : Prop := ∀ K : AV → Heap → Prop, K v H → CallT P f args H K
theorem Pu.at {P : Program} {f : Nat} {args : List AV} {v : AV} (h : Pu P f args v) (H : Heap) : PuAt P f args H v := fun K hk => h.use hk
theorem PuAt.use {P : Program} {f : Nat} {args : List AV} {v : AV} {H : Heap} (h : PuAt P f args H v) {K : AV → Heap → Prop} (k : K v H) : CallT P f args H K := h K k

/-! ### Literals of plain elements -/
end Go.Proofs.YtdnfiacjoghfkaaGreat
/- Spec: numbers in ranges. -/
namespace Go.Proofs.YtdnfiacjoghfkaaGreat
open Go Go.Sep
set_option linter.unusedSimpArgs false
set_option linter.unusedVariables false
attribute [local irreducible] CallT
theorem l1In_spec (a lo hi : Int) : Pu Tryz.prog 63 [I a, I lo, I hi] (B (decide (lo ≤ a) && decide (a ≤ hi))) := by
  refine Pu.of fun H => ?_
  refine W63_ok ?_; simp (maxSteps := 1000000) (disch := first | assumption | (apply Ne.symm; assumption)) only [W63, vz, vu, vv, eqS, eqFieldsV, ↓condV_t, ↓condV_f, tabs, reduceCtorEq, Array.toList, ↓reduceIte, Nat.reduceAdd, Nat.reduceLeDiff, Nat.reduceLT, Nat.reduceMul, Nat.reduceSub, Int.reduceToNat, Int.reduceSub, Int.reduceAdd, Int.reduceNeg]
  exact ⟨fun h => by simp [h], fun h => by simp [h]⟩

end Go.Proofs.YtdnfiacjoghfkaaGreat
/- Rules for rows that are filled one element after the other. -/
namespace Go.Proofs.YtdnfiacjoghfkaaGreat
open Go Go.Sep
set_option linter.unusedSimpArgs false
set_option linter.unusedVariables false

/-- The cells of a row whose first i elements are told. -/
def rowZ {α : Type} (e : α → List PV) (zero : List AV) (xs : List α) (i : Nat) : List AV := cells ((xs.take i).map e) ++ zerosA (xs.length - i) zero
theorem rowZ_zero {α : Type} {e : α → List PV} {zero : List AV} {xs : List α} : rowZ e zero xs 0 = zerosA xs.length zero := by simp [rowZ, cells]
theorem rowZ_end {α : Type} {e : α → List PV} {zero : List AV} {xs : List α} : rowZ e zero xs xs.length = cells (xs.map e) := by
  simp [rowZ, zerosA]
theorem cells_map_len {α : Type} {e : α → List PV} {sz : Nat} (h : ∀ a, (e a).length = sz) (xs : List α) : (cells (xs.map e)).length = xs.length * sz := by
  rw [cells_len (sized_map h xs), List.length_map]
theorem rowZ_len {α : Type} {e : α → List PV} {zero : List AV} {xs : List α} {i sz : Nat} (h : ∀ a, (e a).length = sz) (hz : zero.length = sz) (hi : i ≤ xs.length) : (rowZ e zero xs i).length = xs.length * sz := by
  rw [rowZ, List.length_append, cells_map_len h, zerosA_len, hz, List.length_take, Nat.min_eq_left hi, ← Nat.add_mul]
  congr 1; omega
theorem zerosA_succ (n : Nat) (z : List AV) : zerosA (n + 1) z = z ++ zerosA n z := by simp [zerosA, List.replicate_succ]
theorem rowZ_put {α : Type} [Inhabited α] {e : α → List PV} {zero : List AV} {xs : List α} {i sz : Nat} (h : ∀ a, (e a).length = sz) (hz : zero.length = sz) (hi : i < xs.length) {off : Nat} (ho : off = i * sz) {n : Nat} (hn : n = sz) :
    List.take off (rowZ e zero xs i) ++ (e (xs.getD i default)).map .p ++ List.drop (off + n) (rowZ e zero xs i) = rowZ e zero xs (i + 1) := by
  subst ho; subst hn
  have hl : (cells ((xs.take i).map e)).length = i * n := by rw [cells_map_len h, List.length_take, Nat.min_eq_left (Nat.le_of_lt hi)]
  have e1 : List.take (i * n) (rowZ e zero xs i) = cells ((xs.take i).map e) := by
    rw [rowZ, List.take_append_of_le_length (by omega), List.take_of_length_le (by omega)]
  have e2 : List.drop (i * n + n) (rowZ e zero xs i) = zerosA (xs.length - (i + 1)) zero := by
    rw [rowZ, List.drop_append, List.drop_of_length_le (by omega), List.nil_append, hl, Nat.add_sub_cancel_left]
    obtain ⟨m, hm⟩ : ∃ m, xs.length - i = m + 1 := ⟨xs.length - i - 1, by omega⟩
    rw [hm, zerosA_succ, List.drop_append_of_le_length (by omega), List.drop_of_length_le (by omega), List.nil_append]
    congr 1; omega
  rw [e1, e2, rowZ]
  congr 1
  rw [List.take_succ_eq_append_getElem hi, List.map_append, cells_app]
  congr 1
  simp [cells, List.getD, hi]
end Go.Proofs.YtdnfiacjoghfkaaGreat
/- Plain facts: terms and their kinds; classes of states. -/
namespace Go.Pt
structure Nd where
  op : Int
  n : Int
deriving Inhabited, DecidableEq
structure Ch where
  var : Int
  by_ : List Nd
deriving Inhabited, DecidableEq
structure Cm where
  when_ : List Nd
  chs : List Ch
deriving Inhabited, DecidableEq
structure Pg where
  wide : Int
  vars : Int
  start : List Nd
  cmds : List Cm
deriving Inhabited, DecidableEq

def inB (n lo hi : Int) : Bool := decide (lo ≤ n) && decide (n ≤ hi)
theorem inB_iff {n lo hi : Int} : inB n lo hi = true ↔ lo ≤ n ∧ n ≤ hi := by simp [inB]
def own (op : Int) : Int :=
  if op = 1 ∨ op = 2 ∨ op = 13 ∨ (3 ≤ op ∧ op ≤ 12) then 1
  else if op = 20 ∨ op = 19 ∨ (14 ≤ op ∧ op ≤ 16) ∨ op = 17 ∨ op = 18 then 2 else 0
def many (op : Int) : Nat :=
  if op = 13 ∨ op = 19 then 1 else if (3 ≤ op ∧ op ≤ 12) ∨ (14 ≤ op ∧ op ≤ 16) ∨ op = 17 ∨ op = 18 then 2 else 0
def part (op : Int) : Int :=
  if op = 13 ∨ (3 ≤ op ∧ op ≤ 12) ∨ (14 ≤ op ∧ op ≤ 16) then 1 else 2
def leafOk (wide vars : Int) (x : Nd) : Bool :=
  if x.op = 1 then inB wide 1 64 && decide (x.n < 2 ^ wide.toNat)
  else if x.op = 2 then decide (x.n < vars)
  else if x.op = 20 then decide (x.n ≤ 1)
  else decide (x.n = 0)

def step (w v : Int) (p : List Int) (x : Nd) : Option (List Int) :=
  if own x.op = 0 ∨ leafOk w v x = false ∨ p.length < many x.op then none
  else if (p.drop (p.length - many x.op)).any (fun k => decide (k ≠ part x.op)) then none
  else some (p.take (p.length - many x.op) ++ [own x.op])
def run (w v : Int) : List Int → List Nd → Option (List Int)
  | p, [] => some p
  | p, x :: xs => (step w v p x).bind fun p' => run w v p' xs
theorem run_app (w v : Int) : ∀ (p : List Int) (xs ys : List Nd), run w v p (xs ++ ys) = (run w v p xs).bind fun p' => run w v p' ys
  | p, [], ys => rfl
  | p, x :: xs, ys => by
    simp only [List.cons_append, run]
    cases step w v p x with
    | none => rfl
    | some p' => simp only [Option.bind_some]; exact run_app w v p' xs ys
theorem run_snoc (w v : Int) (p : List Int) (xs : List Nd) (x : Nd) : run w v p (xs ++ [x]) = (run w v p xs).bind fun p' => step w v p' x := by
  rw [run_app]
  cases run w v p xs with
  | none => rfl
  | some p' =>
    simp only [Option.bind_some, run]
    cases step w v p' x <;> rfl

def frame (w v : Int) (t : List Nd) : Bool := inB w 1 64 && inB v 1 4 && (decide (1 ≤ t.length) && decide (t.length ≤ 48))
def kind (w v : Int) (t : List Nd) : Int :=
  if frame w v t then (match run w v [] t with
    | some [k] => k
    | _ => 0) else 0

theorem take_succ_snoc {α : Type} [Inhabited α] {xs : List α} {i : Nat} (h : i < xs.length) : xs.take (i + 1) = xs.take i ++ [xs.getD i default] := by
  rw [List.take_succ_eq_append_getElem h]; simp [List.getD, h]
theorem run_none (w v : Int) {t : List Nd} {i : Nat} (hi : i < t.length) {p : List Int} (h : run w v [] (t.take i) = some p) (hs : step w v p (t.getD i default) = none) : run w v [] t = none := by
  have e : t = t.take (i + 1) ++ t.drop (i + 1) := (List.take_append_drop _ _).symm
  rw [e, run_app, take_succ_snoc hi, run_snoc, h]
  simp only [Option.bind_some]
  rw [hs]; rfl

theorem step_last {w v : Int} {p p' : List Int} {x : Nd} (h : step w v p x = some p') : ∃ q, p' = q ++ [own x.op] ∧ own x.op ≠ 0 := by
  unfold step at h
  split at h
  · cases h
  · rename_i h1
    split at h
    · cases h
    · injection h with h
      exact ⟨_, h.symm, fun e => h1 (.inl e)⟩
/-- The last of the pile is the kind of the last node. -/
theorem run_last {w v : Int} {t : List Nd} (ht : t ≠ []) {p : List Int} (h : run w v [] t = some p) : ∃ q, p = q ++ [own (t.getD (t.length - 1) default).op] ∧ own (t.getD (t.length - 1) default).op ≠ 0 := by
  have hpos : 0 < t.length := List.length_pos_iff.2 ht
  have e : t = t.take (t.length - 1) ++ [t.getD (t.length - 1) default] := by
    have := take_succ_snoc (xs := t) (i := t.length - 1) (by omega)
    rw [show t.length - 1 + 1 = t.length by omega, List.take_length] at this
    exact this
  generalize t.getD (t.length - 1) default = x at e ⊢
  rw [e, run_snoc] at h
  cases h1 : run w v [] (t.take (t.length - 1)) with
  | none => rw [h1] at h; cases h
  | some p1 => rw [h1] at h; exact step_last h

/-- A term is good, and of a kind. -/
theorem kind_eq {w v : Int} {t : List Nd} (hf : frame w v t = true) (k : Int) (hk : k ≠ 0) :
    decide (kind w v t = k) = (match run w v [] t with
      | some p => decide (p.length = 1) && decide (own (t.getD (t.length - 1) default).op = k)
      | none => false) := by
  have ht : t ≠ [] := by
    intro e; subst e
    simp [frame] at hf
  unfold kind
  rw [if_pos hf]
  cases h : run w v [] t with
  | none => simp [Ne.symm hk]
  | some p =>
    obtain ⟨q, e, _⟩ := run_last ht h
    dsimp only
    generalize own (t.getD (t.length - 1) default).op = o at e ⊢
    subst e
    cases q with
    | nil => simp
    | cons a q => 
      cases q with
      | nil => simp [Ne.symm hk]
      | cons b q => simp [Ne.symm hk]
theorem kind_f {w v : Int} {t : List Nd} (hf : frame w v t = false) : kind w v t = 0 := by simp [kind, hf]

/-! ### Programs -/
def goodCh (w v : Int) (prev : Option Int) (c : Ch) : Bool := inB c.var 0 (v - 1) && (match prev with
  | some p => decide (p < c.var)
  | none => true) && decide (kind w v c.by_ = 1)
def goodCm (w v : Int) (c : Cm) : Bool := decide (kind w v c.when_ = 2) && ((List.range c.chs.length).all fun i => goodCh w v (if i = 0 then none else some (c.chs.getD (i - 1) default).var) (c.chs.getD i default))
def goodP (p : Pg) : Bool := decide (kind p.wide p.vars p.start = 2) && (decide (1 ≤ p.cmds.length) && decide (p.cmds.length ≤ 6)) && p.cmds.all (goodCm p.wide p.vars)
def smallP (p : Pg) : Bool := goodP p && decide (p.wide * p.vars ≤ 5)
def statesP (p : Pg) : Int := 2 ^ (p.wide * p.vars).toNat

theorem kind2_frame {w v : Int} {t : List Nd} (h : kind w v t = 2) : (1 ≤ w ∧ w ≤ 64) ∧ (1 ≤ v ∧ v ≤ 4) := by
  unfold kind at h
  split at h
  · rename_i hf
    simp only [frame, Bool.and_eq_true, inB_iff] at hf
    exact hf.1
  · cases h
theorem goodP_rng {p : Pg} (h : goodP p = true) : (1 ≤ p.wide ∧ p.wide ≤ 64) ∧ (1 ≤ p.vars ∧ p.vars ≤ 4) := by
  simp only [goodP, Bool.and_eq_true, decide_eq_true_eq] at h
  exact kind2_frame h.1.1

/-- The changes of a command are at rising variables: there are no more of them than variables. -/
theorem goodCm_len {w v : Int} {c : Cm} (h : goodCm w v c = true) : (c.chs.length : Int) ≤ v ∨ c.chs.length = 0 := by
  simp only [goodCm, Bool.and_eq_true, List.all_eq_true, List.mem_range] at h
  have key : ∀ i, i < c.chs.length → (i : Int) ≤ (c.chs.getD i default).var := by
    intro i
    induction i with
    | zero =>
      intro hi
      have := h.2 0 hi
      simp only [goodCh, Bool.and_eq_true, inB_iff] at this
      omega
    | succ i ih =>
      intro hi
      have h1 := ih (by omega)
      have := h.2 (i + 1) hi
      simp only [goodCh, Bool.and_eq_true, inB_iff, Nat.succ_ne_zero, if_false, Nat.add_sub_cancel, decide_eq_true_eq] at this
      omega
  by_cases h0 : c.chs.length = 0
  · exact .inr h0
  · left
    have h1 := key (c.chs.length - 1) (by omega)
    have := h.2 (c.chs.length - 1) (by omega)
    simp only [goodCh, Bool.and_eq_true, inB_iff] at this
    omega

/-! ### Classes -/
def runS : Int → List Int → Option Int
  | c, [] => some c
  | c, k :: ks => if k < 0 ∨ c < k then none else runS (if k = c then c + 1 else c) ks
theorem runS_app : ∀ (c : Int) (xs ys : List Int), runS c (xs ++ ys) = (runS c xs).bind fun c' => runS c' ys
  | c, [], ys => rfl
  | c, k :: xs, ys => by
    simp only [List.cons_append, runS]
    split
    · rfl
    · exact runS_app _ xs ys
theorem runS_snoc (c : Int) (xs : List Int) (k : Int) : runS c (xs ++ [k]) = (runS c xs).bind fun c' => if k < 0 ∨ c' < k then none else some (if k = c' then c' + 1 else c') := by
  rw [runS_app]
  cases runS c xs with
  | none => rfl
  | some c' => simp only [Option.bind_some, runS]
theorem runS_none {xs : List Int} {i : Nat} (hi : i < xs.length) {c : Int} (h : runS 0 (xs.take i) = some c) (hb : xs.getD i default < 0 ∨ c < xs.getD i default) : runS 0 xs = none := by
  have e : xs = xs.take (i + 1) ++ xs.drop (i + 1) := (List.take_append_drop _ _).symm
  rw [e, runS_app, take_succ_snoc hi, runS_snoc, h]
  simp only [Option.bind_some]
  rw [if_pos hb]; rfl
theorem runS_rng : ∀ (xs : List Int) (c c' : Int), 0 ≤ c → runS c xs = some c' → c ≤ c' ∧ c' ≤ c + xs.length
  | [], c, c', _, h => by simp [runS] at h; simp; omega
  | k :: xs, c, c', h0, h => by
    simp only [runS] at h
    split at h
    · cases h
    · have := runS_rng xs _ c' (by split <;> omega) h
      simp only [List.length_cons]
      split at this <;> omega
def goodSt (p : Pg) (of : List Int) : Bool := smallP p && (decide ((of.length : Int) = statesP p) && (runS 0 of).isSome)
end Go.Pt
/- Specs: sizes, copies and comparisons of programs and of lists of classes. -/
namespace Go.Proofs.YtdnfiacjoghfkaaGreat
open Go Go.Sep Go.Pt
set_option linter.unusedSimpArgs false
set_option linter.unusedVariables false
attribute [local irreducible] CallT

abbrev eN (x : Nd) : List PV := [.int .i64 x.op, .int .u64 x.n]
abbrev aN (x : Nd) : AV := .agg [I x.op, U x.n]
abbrev Ns (xs : List Nd) : AV := .p (.sl (xs.map eN))
abbrev eCh (c : Ch) : List PV := [.int .i64 c.var, .sl (c.by_.map eN)]
abbrev aCh (c : Ch) : AV := .agg [I c.var, Ns c.by_]
abbrev Chs (cs : List Ch) : AV := .p (.sl (cs.map eCh))
abbrev eCm (c : Cm) : List PV := [.sl (c.when_.map eN), .sl (c.chs.map eCh)]
abbrev aCm (c : Cm) : AV := .agg [Ns c.when_, Chs c.chs]
abbrev Cms (cs : List Cm) : AV := .p (.sl (cs.map eCm))
abbrev aPg (p : Pg) : AV := .agg [I p.wide, I p.vars, Ns p.start, Cms p.cmds]
abbrev aS (of : List Int) : AV := .agg [Is of]

/-- As long as a list can be. -/
def ok (n : Nat) : Prop := n ≤ 9223372036854775807
def okCh (c : Ch) : Prop := ok c.by_.length
def okChs (cs : List Ch) : Prop := ok cs.length ∧ ∀ c ∈ cs, okCh c
def okCm (c : Cm) : Prop := ok c.when_.length ∧ okChs c.chs
def okCms (cs : List Cm) : Prop := ok cs.length ∧ ∀ c ∈ cs, okCm c
def okPg (p : Pg) : Prop := ok p.start.length ∧ okCms p.cmds
def psum {α : Type} (f : α → Nat) (xs : List α) (i : Nat) : Nat := ((xs.take i).map f).sum
theorem psum_succ {α : Type} [Inhabited α] {f : α → Nat} {xs : List α} {i : Nat} (h : i < xs.length) : psum f xs (i + 1) = psum f xs i + f (xs.getD i default) := by
  rw [psum, take_succ_snoc h, List.map_append, List.sum_append]; simp [psum]
theorem psum_le {α : Type} {f : α → Nat} {xs : List α} (i : Nat) : psum f xs i ≤ psum f xs xs.length := by
  rw [psum, psum, List.take_length]
  conv => rhs; rw [← List.take_append_drop i xs]
  rw [List.map_append, List.sum_append]; omega
def totCh (c : Ch) : Nat := c.by_.length
def totChs (cs : List Ch) : Nat := cs.length + psum totCh cs cs.length
def totCm (c : Cm) : Nat := c.when_.length + totChs c.chs
def totCms (cs : List Cm) : Nat := cs.length + psum totCm cs cs.length
def totPg (p : Pg) : Nat := p.start.length + totCms p.cmds
/-- What is left of a size. -/
def szR (left : Int) (n : Nat) : Int := if (n : Int) ≤ left then left - n else -1
theorem szR_neg {left : Int} {n : Nat} (h : left < n) : szR left n = -1 := by rw [szR, if_neg (by omega)]
theorem szR_pos {left : Int} {n : Nat} (h : (n : Int) ≤ left) : szR left n = left - n := by rw [szR, if_pos h]

theorem szNodeS_spec (t : List Nd) (left : Int) (h0 : 0 ≤ left) (h1 : left ≤ 1048576) (hl : ok t.length) : Pu Tryz.prog 19 [Ns t, I left] (I (szR left t.length)) := by
  refine Pu.of fun H => ?_
  unfold ok at hl
  have e : IntKind.i64.wrap (left - t.length) = left - t.length := i64_id (by omega) (by omega)
  refine W19_ok ?_; simp (maxSteps := 1000000) (disch := first | assumption | (apply Ne.symm; assumption)) only [W19, vz, vu, vv, eqS, eqFieldsV, ↓condV_t, ↓condV_f, tabs, reduceCtorEq, Array.toList, ↓reduceIte, Nat.reduceAdd, Nat.reduceLeDiff, Nat.reduceLT, Nat.reduceMul, Nat.reduceSub, Int.reduceToNat, Int.reduceSub, Int.reduceAdd, Int.reduceNeg, e]
  refine ⟨fun h => by rw [szR_neg (by omega)], fun h => by rw [szR_pos (by omega)]⟩
theorem szIntS_spec (t : List Int) (left : Int) (h0 : 0 ≤ left) (h1 : left ≤ 1048576) (hl : ok t.length) : Pu Tryz.prog 42 [Is t, I left] (I (szR left t.length)) := by
  refine Pu.of fun H => ?_
  unfold ok at hl
  have e : IntKind.i64.wrap (left - t.length) = left - t.length := i64_id (by omega) (by omega)
  refine W42_ok ?_; simp (maxSteps := 1000000) (disch := first | assumption | (apply Ne.symm; assumption)) only [W42, vz, vu, vv, eqS, eqFieldsV, ↓condV_t, ↓condV_f, tabs, reduceCtorEq, Array.toList, ↓reduceIte, Nat.reduceAdd, Nat.reduceLeDiff, Nat.reduceLT, Nat.reduceMul, Nat.reduceSub, Int.reduceToNat, Int.reduceSub, Int.reduceAdd, Int.reduceNeg, e]
  refine ⟨fun h => by rw [szR_neg (by omega)], fun h => by rw [szR_pos (by omega)]⟩
theorem szChange_spec (c : Ch) (left : Int) (h0 : 0 ≤ left) (h1 : left ≤ 1048576) (hl : okCh c) : Pu Tryz.prog 90 [aCh c, I left] (I (szR left (totCh c))) := by
  refine Pu.of fun H => ?_
  refine W90_ok ?_; simp (maxSteps := 1000000) (disch := first | assumption | (apply Ne.symm; assumption)) only [W90, vz, vu, vv, eqS, eqFieldsV, ↓condV_t, ↓condV_f, tabs, reduceCtorEq, Array.toList, ↓reduceIte, Nat.reduceAdd, Nat.reduceLeDiff, Nat.reduceLT, Nat.reduceMul, Nat.reduceSub, Int.reduceToNat, Int.reduceSub, Int.reduceAdd, Int.reduceNeg]
  intro r hr
  refine Pu.use (szNodeS_spec c.by_ left h0 h1 hl) ?_
  (try simp (maxSteps := 1000000) (disch := first | assumption | (apply Ne.symm; assumption)) only [vz, vu, vv, eqS, eqFieldsV, ↓condV_t, ↓condV_f, tabs, reduceCtorEq, Array.toList, ↓reduceIte, Nat.reduceAdd, Nat.reduceLeDiff, Nat.reduceLT, Nat.reduceMul, Nat.reduceSub, Int.reduceToNat, Int.reduceSub, Int.reduceAdd, Int.reduceNeg])
  refine ⟨fun h => ⟨?_, Heap.le_set hr⟩, fun h => ⟨rfl, Heap.le_set hr⟩⟩
  unfold totCh szR at *
  split at h
  · omega
  · rename_i h2; rw [if_neg h2]

theorem szChangeS_spec (cs : List Ch) (left : Int) (h0 : 0 ≤ left) (h1 : left ≤ 1048576) (hl : okChs cs) : Pu Tryz.prog 68 [Chs cs, I left] (I (szR left (totChs cs))) := by
  refine Pu.of fun H => ?_
  have hl1 := hl.1
  unfold ok at hl1
  have e : IntKind.i64.wrap (left - cs.length) = left - cs.length := i64_id (by omega) (by omega)
  refine W68_ok ?_; simp (maxSteps := 1000000) (disch := first | assumption | (apply Ne.symm; assumption)) only [W68, vz, vu, vv, eqS, eqFieldsV, ↓condV_t, ↓condV_f, tabs, reduceCtorEq, Array.toList, ↓reduceIte, Nat.reduceAdd, Nat.reduceLeDiff, Nat.reduceLT, Nat.reduceMul, Nat.reduceSub, Int.reduceToNat, Int.reduceSub, Int.reduceAdd, Int.reduceNeg, e]
  refine ⟨fun h => by rw [szR_neg (by unfold totChs; omega)], fun h => ?_⟩
  refine L68_0_rule (0 : Nat) (fun i => I (left - cs.length - psum totCh cs i)) (fun i => I i) (fun _ => H) (fun i => i ≤ cs.length ∧ (cs.length : Int) + psum totCh cs i ≤ left) (fun i => cs.length - i) ⟨⟨by omega, by simp [psum]; omega⟩, ?_, .refl _, Heap.le_refl _⟩ ?_
  · rw [wk_int]; simp [psum]
  rintro i ⟨hi, hs⟩
  (try simp (maxSteps := 1000000) (disch := first | assumption | (apply Ne.symm; assumption)) only [vz, vu, vv, eqS, eqFieldsV, ↓condV_t, ↓condV_f, tabs, reduceCtorEq, Array.toList, ↓reduceIte, Nat.reduceAdd, Nat.reduceLeDiff, Nat.reduceLT, Nat.reduceMul, Nat.reduceSub, Int.reduceToNat, Int.reduceSub, Int.reduceAdd, Int.reduceNeg, B68_0])
  refine ⟨fun h2 => ⟨by omega, h2, ?_⟩, fun h2 => ?_⟩
  · have hlt : i < cs.length := by omega
    have hm : cs.getD i default ∈ cs := getD_all (p := fun x => x ∈ cs) (fun _ h => h) hlt
    refine Pu.use (szChange_spec (cs.getD i default) _ (by omega) (by omega) (hl.2 _ hm)) ?_
    have hsucc := psum_succ (f := totCh) hlt
    have hle := psum_le (f := totCh) (xs := cs) (i + 1)
    (try simp (maxSteps := 1000000) (disch := first | assumption | (apply Ne.symm; assumption)) only [vz, vu, vv, eqS, eqFieldsV, ↓condV_t, ↓condV_f, tabs, reduceCtorEq, Array.toList, ↓reduceIte, Nat.reduceAdd, Nat.reduceLeDiff, Nat.reduceLT, Nat.reduceMul, Nat.reduceSub, Int.reduceToNat, Int.reduceSub, Int.reduceAdd, Int.reduceNeg])
    refine ⟨fun h3 => ?_, fun h3 => ⟨i + 1, ⟨by omega, ?_⟩, by omega, ?_, ?_⟩⟩
    · rw [szR_neg]
      unfold szR at h3
      unfold totChs
      split at h3 <;> omega
    · unfold szR at h3
      split at h3 <;> omega
    · rw [wk_int]
      unfold szR at h3 ⊢
      split at h3
      · rename_i h4; rw [if_pos h4]; omega
      · omega
    · rw [wk_int, i64_id (by omega) (by omega)]; simp
  · have : i = cs.length := by omega
    subst this
    rw [szR_pos (by unfold totChs; omega)]
    unfold totChs
    exact congrArg (fun n : Int => I n) (by omega)

theorem szCommand_spec (c : Cm) (left : Int) (h0 : 0 ≤ left) (h1 : left ≤ 1048576) (hl : okCm c) : Pu Tryz.prog 51 [aCm c, I left] (I (szR left (totCm c))) := by
  refine Pu.of fun H => ?_
  refine W51_ok ?_; simp (maxSteps := 1000000) (disch := first | assumption | (apply Ne.symm; assumption)) only [W51, vz, vu, vv, eqS, eqFieldsV, ↓condV_t, ↓condV_f, tabs, reduceCtorEq, Array.toList, ↓reduceIte, Nat.reduceAdd, Nat.reduceLeDiff, Nat.reduceLT, Nat.reduceMul, Nat.reduceSub, Int.reduceToNat, Int.reduceSub, Int.reduceAdd, Int.reduceNeg]
  intro r hr
  refine Pu.use (szNodeS_spec c.when_ left h0 h1 hl.1) ?_
  (try simp (maxSteps := 1000000) (disch := first | assumption | (apply Ne.symm; assumption)) only [vz, vu, vv, eqS, eqFieldsV, ↓condV_t, ↓condV_f, tabs, reduceCtorEq, Array.toList, ↓reduceIte, Nat.reduceAdd, Nat.reduceLeDiff, Nat.reduceLT, Nat.reduceMul, Nat.reduceSub, Int.reduceToNat, Int.reduceSub, Int.reduceAdd, Int.reduceNeg])
  refine ⟨fun h => ⟨?_, Heap.le_set hr⟩, fun h => ?_⟩
  · unfold szR at h
    rw [szR_neg]
    unfold totCm
    split at h <;> omega
  · have h4 : (c.when_.length : Int) ≤ left := by
      unfold szR at h
      split at h <;> omega
    rw [szR_pos h4]
    refine Pu.use (szChangeS_spec c.chs _ (by omega) (by omega) hl.2) ?_
    (try simp (maxSteps := 1000000) (disch := first | assumption | (apply Ne.symm; assumption)) only [vz, vu, vv, eqS, eqFieldsV, ↓condV_t, ↓condV_f, tabs, reduceCtorEq, Array.toList, ↓reduceIte, Nat.reduceAdd, Nat.reduceLeDiff, Nat.reduceLT, Nat.reduceMul, Nat.reduceSub, Int.reduceToNat, Int.reduceSub, Int.reduceAdd, Int.reduceNeg])
    refine ⟨fun h => ⟨?_, Heap.le_set hr⟩, fun h => ⟨?_, Heap.le_set hr⟩⟩
    · unfold szR at h
      rw [szR_neg]
      unfold totCm
      split at h <;> omega
    · unfold szR at h
      split at h
      · rename_i h5
        rw [szR_pos h5, szR_pos (by unfold totCm; omega)]
        unfold totCm
        exact congrArg (fun n : Int => I n) (by omega)
      · omega

theorem szCommandS_spec (cs : List Cm) (left : Int) (h0 : 0 ≤ left) (h1 : left ≤ 1048576) (hl : okCms cs) : Pu Tryz.prog 26 [Cms cs, I left] (I (szR left (totCms cs))) := by
  refine Pu.of fun H => ?_
  have hl1 := hl.1
  unfold ok at hl1
  have e : IntKind.i64.wrap (left - cs.length) = left - cs.length := i64_id (by omega) (by omega)
  refine W26_ok ?_; simp (maxSteps := 1000000) (disch := first | assumption | (apply Ne.symm; assumption)) only [W26, vz, vu, vv, eqS, eqFieldsV, ↓condV_t, ↓condV_f, tabs, reduceCtorEq, Array.toList, ↓reduceIte, Nat.reduceAdd, Nat.reduceLeDiff, Nat.reduceLT, Nat.reduceMul, Nat.reduceSub, Int.reduceToNat, Int.reduceSub, Int.reduceAdd, Int.reduceNeg, e]
  refine ⟨fun h => by rw [szR_neg (by unfold totCms; omega)], fun h => ?_⟩
  refine L26_0_rule (0 : Nat) (fun i => I (left - cs.length - psum totCm cs i)) (fun i => I i) (fun _ => H) (fun i => i ≤ cs.length ∧ (cs.length : Int) + psum totCm cs i ≤ left) (fun i => cs.length - i) ⟨⟨by omega, by simp [psum]; omega⟩, ?_, .refl _, Heap.le_refl _⟩ ?_
  · rw [wk_int]; simp [psum]
  rintro i ⟨hi, hs⟩
  (try simp (maxSteps := 1000000) (disch := first | assumption | (apply Ne.symm; assumption)) only [vz, vu, vv, eqS, eqFieldsV, ↓condV_t, ↓condV_f, tabs, reduceCtorEq, Array.toList, ↓reduceIte, Nat.reduceAdd, Nat.reduceLeDiff, Nat.reduceLT, Nat.reduceMul, Nat.reduceSub, Int.reduceToNat, Int.reduceSub, Int.reduceAdd, Int.reduceNeg, B26_0])
  refine ⟨fun h2 => ⟨by omega, h2, ?_⟩, fun h2 => ?_⟩
  · have hlt : i < cs.length := by omega
    have hm : cs.getD i default ∈ cs := getD_all (p := fun x => x ∈ cs) (fun _ h => h) hlt
    refine Pu.use (szCommand_spec (cs.getD i default) _ (by omega) (by omega) (hl.2 _ hm)) ?_
    have hsucc := psum_succ (f := totCm) hlt
    have hle := psum_le (f := totCm) (xs := cs) (i + 1)
    (try simp (maxSteps := 1000000) (disch := first | assumption | (apply Ne.symm; assumption)) only [vz, vu, vv, eqS, eqFieldsV, ↓condV_t, ↓condV_f, tabs, reduceCtorEq, Array.toList, ↓reduceIte, Nat.reduceAdd, Nat.reduceLeDiff, Nat.reduceLT, Nat.reduceMul, Nat.reduceSub, Int.reduceToNat, Int.reduceSub, Int.reduceAdd, Int.reduceNeg])
    refine ⟨fun h3 => ?_, fun h3 => ⟨i + 1, ⟨by omega, ?_⟩, by omega, ?_, ?_⟩⟩
    · rw [szR_neg]
      unfold szR at h3
      unfold totCms
      split at h3 <;> omega
    · unfold szR at h3
      split at h3 <;> omega
    · rw [wk_int]
      unfold szR at h3 ⊢
      split at h3
      · rename_i h4; rw [if_pos h4]; omega
      · omega
    · rw [wk_int, i64_id (by omega) (by omega)]; simp
  · have : i = cs.length := by omega
    subst this
    rw [szR_pos (by unfold totCms; omega)]
    unfold totCms
    exact congrArg (fun n : Int => I n) (by omega)

theorem szProgram_spec (c : Pg) (left : Int) (h0 : 0 ≤ left) (h1 : left ≤ 1048576) (hl : okPg c) : Pu Tryz.prog 5 [aPg c, I left] (I (szR left (totPg c))) := by
  refine Pu.of fun H => ?_
  refine W5_ok ?_; simp (maxSteps := 1000000) (disch := first | assumption | (apply Ne.symm; assumption)) only [W5, vz, vu, vv, eqS, eqFieldsV, ↓condV_t, ↓condV_f, tabs, reduceCtorEq, Array.toList, ↓reduceIte, Nat.reduceAdd, Nat.reduceLeDiff, Nat.reduceLT, Nat.reduceMul, Nat.reduceSub, Int.reduceToNat, Int.reduceSub, Int.reduceAdd, Int.reduceNeg]
  intro r hr
  refine Pu.use (szNodeS_spec c.start left h0 h1 hl.1) ?_
  (try simp (maxSteps := 1000000) (disch := first | assumption | (apply Ne.symm; assumption)) only [vz, vu, vv, eqS, eqFieldsV, ↓condV_t, ↓condV_f, tabs, reduceCtorEq, Array.toList, ↓reduceIte, Nat.reduceAdd, Nat.reduceLeDiff, Nat.reduceLT, Nat.reduceMul, Nat.reduceSub, Int.reduceToNat, Int.reduceSub, Int.reduceAdd, Int.reduceNeg])
  refine ⟨fun h => ⟨?_, Heap.le_set hr⟩, fun h => ?_⟩
  · unfold szR at h
    rw [szR_neg]
    unfold totPg
    split at h <;> omega
  · have h4 : (c.start.length : Int) ≤ left := by
      unfold szR at h
      split at h <;> omega
    rw [szR_pos h4]
    refine Pu.use (szCommandS_spec c.cmds _ (by omega) (by omega) hl.2) ?_
    (try simp (maxSteps := 1000000) (disch := first | assumption | (apply Ne.symm; assumption)) only [vz, vu, vv, eqS, eqFieldsV, ↓condV_t, ↓condV_f, tabs, reduceCtorEq, Array.toList, ↓reduceIte, Nat.reduceAdd, Nat.reduceLeDiff, Nat.reduceLT, Nat.reduceMul, Nat.reduceSub, Int.reduceToNat, Int.reduceSub, Int.reduceAdd, Int.reduceNeg])
    refine ⟨fun h => ⟨?_, Heap.le_set hr⟩, fun h => ⟨?_, Heap.le_set hr⟩⟩
    · unfold szR at h
      rw [szR_neg]
      unfold totPg
      split at h <;> omega
    · unfold szR at h
      split at h
      · rename_i h5
        rw [szR_pos h5, szR_pos (by unfold totPg; omega)]
        unfold totPg
        exact congrArg (fun n : Int => I n) (by omega)
      · omega

theorem szSight_spec (of : List Int) (left : Int) (h0 : 0 ≤ left) (h1 : left ≤ 1048576) (hl : ok of.length) : Pu Tryz.prog 18 [aS of, I left] (I (szR left of.length)) := by
  refine Pu.of fun H => ?_
  refine W18_ok ?_; simp (maxSteps := 1000000) (disch := first | assumption | (apply Ne.symm; assumption)) only [W18, vz, vu, vv, eqS, eqFieldsV, ↓condV_t, ↓condV_f, tabs, reduceCtorEq, Array.toList, ↓reduceIte, Nat.reduceAdd, Nat.reduceLeDiff, Nat.reduceLT, Nat.reduceMul, Nat.reduceSub, Int.reduceToNat, Int.reduceSub, Int.reduceAdd, Int.reduceNeg]
  intro r hr
  refine Pu.use (szIntS_spec of left h0 h1 hl) ?_
  (try simp (maxSteps := 1000000) (disch := first | assumption | (apply Ne.symm; assumption)) only [vz, vu, vv, eqS, eqFieldsV, ↓condV_t, ↓condV_f, tabs, reduceCtorEq, Array.toList, ↓reduceIte, Nat.reduceAdd, Nat.reduceLeDiff, Nat.reduceLT, Nat.reduceMul, Nat.reduceSub, Int.reduceToNat, Int.reduceSub, Int.reduceAdd, Int.reduceNeg])
  refine ⟨fun h => ⟨?_, Heap.le_set hr⟩, fun h => Heap.le_set hr⟩
  unfold szR at *
  split at h
  · omega
  · rename_i h2; rw [if_neg h2]
end Go.Proofs.YtdnfiacjoghfkaaGreat
