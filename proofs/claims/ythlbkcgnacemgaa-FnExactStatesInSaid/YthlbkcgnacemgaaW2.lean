/- What each function's code is asked for, as a formula. Written by wgen.py (a program of this session's) out of Lean's print of the program. -/
import Derived.KernelRfl
import Derived.Test.YthlbkcgnacemgaaTab
import Derived.Test.YthlbkcgnacemgaaSepC
namespace Go.Proofs.Ythlbkcgnacemgaa
open Go Go.Sep
set_option linter.unusedVariables false
attribute [local irreducible] wpC headF
/-- loop.example/g00649/spec.l2Kind -/
def D69 : Info := ⟨83, fun i => ([], []), fun i => if i = 5 then ([0, 1, 27, 28], [7, 29]) else if i = 10 then ([0, 1, 11, 12, 27, 28, 29], [7, 10]) else ([], [])⟩
def L69_0 (K : AV → Heap → Prop) (v0 : AV) (v1 : AV) (v7 : AV) (v27 : AV) (v28 : AV) (v29 : AV) (H : Heap) : Prop := LoopV (wpC Try.prog tab D69 (cAt [1, 1, 1, 0, 1, 0, 0] (bodyOf Try.f69))) [0, 1, 27, 28] (PostF.block 0 (PostF.thenA (wpC Try.prog tab D69 (cAt [1, 1, 1, 1] (bodyOf Try.f69))) (retF tab [.tmp 6] K))) [7, 29] [v0, v1, AV.any, AV.any, AV.any, AV.any, AV.any, v7, AV.any, AV.any, AV.any, AV.any, AV.any, AV.any, AV.any, AV.any, AV.any, AV.any, AV.any, AV.any, AV.any, AV.any, AV.any, AV.any, AV.any, AV.any, AV.any, v27, v28, v29, AV.any, AV.any, AV.any, AV.any, AV.any, AV.any, AV.any, AV.any, AV.any, AV.any, AV.any, AV.any, AV.any, AV.any, AV.any, AV.any, AV.any, AV.any, AV.any, AV.any, AV.any, AV.any, AV.any, AV.any, AV.any, AV.any, AV.any, AV.any, AV.any, AV.any, AV.any, AV.any, AV.any, AV.any, AV.any, AV.any, AV.any, AV.any, AV.any, AV.any, AV.any, AV.any, AV.any, AV.any, AV.any, AV.any, AV.any, AV.any, AV.any, AV.any, AV.any, AV.any, AV.any] H
def L69_1 (K : AV → Heap → Prop) (N1 : AV → AV → Heap → Prop) (v0 : AV) (v1 : AV) (v7 : AV) (v10 : AV) (v11 : AV) (v12 : AV) (v27 : AV) (v28 : AV) (v29 : AV) (H : Heap) : Prop := LoopV (wpC Try.prog tab D69 (cAt [1, 1, 1, 0, 1, 0, 0, 1, 1, 0, 0, 1, 1, 1, 0, 0, 0] (bodyOf Try.f69))) [0, 1, 11, 12, 27, 28, 29] (PostF.block 2 (PostF.thenA (wpC Try.prog tab D69 (cAt [1, 1, 1, 0, 1, 0, 0, 1, 1, 0, 0, 1, 1, 1, 1] (bodyOf Try.f69))) (PostF.block 1 (PostF.thenA (wpC Try.prog tab D69 (cAt [1, 1, 1, 0, 1, 0, 0, 1, 1, 1] (bodyOf Try.f69))) (loopF (PostF.block 0 (PostF.thenA (wpC Try.prog tab D69 (cAt [1, 1, 1, 1] (bodyOf Try.f69))) (retF tab [.tmp 6] K))) (fun e h => N1 (e 7) (e 29) h)))))) [7, 10] [v0, v1, AV.any, AV.any, AV.any, AV.any, AV.any, v7, AV.any, AV.any, v10, v11, v12, AV.any, AV.any, AV.any, AV.any, AV.any, AV.any, AV.any, AV.any, AV.any, AV.any, AV.any, AV.any, AV.any, AV.any, v27, v28, v29, AV.any, AV.any, AV.any, AV.any, AV.any, AV.any, AV.any, AV.any, AV.any, AV.any, AV.any, AV.any, AV.any, AV.any, AV.any, AV.any, AV.any, AV.any, AV.any, AV.any, AV.any, AV.any, AV.any, AV.any, AV.any, AV.any, AV.any, AV.any, AV.any, AV.any, AV.any, AV.any, AV.any, AV.any, AV.any, AV.any, AV.any, AV.any, AV.any, AV.any, AV.any, AV.any, AV.any, AV.any, AV.any, AV.any, AV.any, AV.any, AV.any, AV.any, AV.any, AV.any, AV.any] H
def B69_1 (K : AV → Heap → Prop) (N1 : AV → AV → Heap → Prop) (N2 : AV → AV → Heap → Prop) (v0 : AV) (v1 : AV) (v7 : AV) (v10 : AV) (v11 : AV) (v12 : AV) (v27 : AV) (v28 : AV) (v29 : AV) (H : Heap) : Prop :=
 binV tab .gtr 3 v10 (AV.p (.int .i64 0)) fun v56 =>
 condV v56 (lenV tab 26 v7 fun v61 =>
 binV tab .sub 3 v61 (AV.p (.int .i64 1)) fun v62 =>
 indexAddrV tab 26 v7 v62 fun v63 =>
 loadV tab 3 v63 H fun v64 =>
 binV tab .neq 3 v64 v11 fun v66 =>
 condV v66 (K (AV.p (.int .i64 0)) H)
 (lenV tab 26 v7 fun v69 =>
 binV tab .sub 3 v69 (AV.p (.int .i64 1)) fun v70 =>
 sliceV tab 26 v7 none (some v70) none fun v71 =>
 binV tab .sub 3 v10 (AV.p (.int .i64 1)) fun v58 =>
 N2 v71 v58 H))
 (buildSliceV tab 26 1 [(0, v12)] H (wkK fun v74 H8 =>
 appendV tab 26 26 v7 v74 H8 (wkK fun v75 H9 =>
 binV tab .add 3 v29 (AV.p (.int .i64 1)) fun v76 =>
 N1 v75 v76 H9)))
def B69_0 (K : AV → Heap → Prop) (N1 : AV → AV → Heap → Prop) (v0 : AV) (v1 : AV) (v7 : AV) (v27 : AV) (v28 : AV) (v29 : AV) (H : Heap) : Prop :=
 binV tab .lss 3 v29 v28 fun v30 =>
 condV v30 (indexAddrV tab 32 v27 v29 fun v31 =>
 loadV tab 78 v31 H fun v32 =>
 allocV tab 78 H fun v9 H4 =>
 storeV tab 78 v9 v32 H4 fun H5 =>
 fieldAddrV tab 78 v9 0 fun v34 =>
 loadV tab 3 v34 H5 fun v35 =>
 CallT Try.prog 75 [v35] H5 fun v36 H6 =>
 extractV v36 0 fun v37 =>
 extractV v36 1 fun v38 =>
 extractV v36 2 fun v39 =>
 binV tab .eql 3 v39 (AV.p (.int .i64 0)) fun v41 =>
 grdV v41 false (loadV tab 78 v9 H6 fun v45 =>
 CallT Try.prog 76 [v0, v1, v45] H6 fun v46 H7 =>
 unV .not v46 fun v47 =>
 grdV v47 false (lenV tab 26 v7 fun v51 =>
 binV tab .lss 3 v51 v37 fun v53 =>
 condV v53 (K (AV.p (.int .i64 0)) H7)
 (L69_1 K N1 v0 v1 v7 v37 v38 v39 v27 v28 v29 H7))
 (K (AV.p (.int .i64 0)) H7))
 (K (AV.p (.int .i64 0)) H6))
 (lenV tab 26 v7 fun v78 =>
 binV tab .neq 3 v78 (AV.p (.int .i64 1)) fun v79 =>
 condV v79 (K (AV.p (.int .i64 0)) H)
 (indexAddrV tab 26 v7 (AV.p (.int .i64 0)) fun v81 =>
 loadV tab 3 v81 H fun v82 =>
 K v82 H))
def W69 (v0 : AV) (v1 : AV) (v2 : AV) (H : Heap) (K : AV → Heap → Prop) : Prop :=
 CallT Try.prog 74 [v0] H fun v14 H1 =>
 unV .not v14 fun v15 =>
 grdV v15 false (CallT Try.prog 31 [v1, (AV.p (.int .i64 1)), (AV.p (.int .i64 4))] H1 fun v18 H2 =>
 unV .not v18 fun v19 =>
 grdV v19 false (lenV tab 32 v2 fun v23 =>
 CallT Try.prog 31 [v23, (AV.p (.int .i64 1)), (AV.p (.int .i64 48))] H2 fun v24 H3 =>
 unV .not v24 fun v25 =>
 condV v25 (K (AV.p (.int .i64 0)) H3)
 (lenV tab 32 v2 fun v28 =>
 L69_0 K v0 v1 (AV.p .nil) v2 v28 (AV.p (.int .i64 0)) H3))
 (K (AV.p (.int .i64 0)) H2))
 (K (AV.p (.int .i64 0)) H1)
theorem W69_wp (v0 : AV) (v1 : AV) (v2 : AV) (H : Heap) (K : AV → Heap → Prop) : wpC Try.prog tab D69 (bodyOf Try.f69) (retF tab [.tmp 6] K) (nthA [v0, v1, v2]) H = W69 v0 v1 v2 H K := by kernel_rfl
theorem W69_ok {v0 v1 v2 : AV} {H : Heap} {K : AV → Heap → Prop} (h : W69 v0 v1 v2 H K) : CallT Try.prog 69 [v0, v1, v2] H K :=
  CallT.of_wp (D := D69) tab_ok mixed Try.func69 (c := bodyOf Try.f69) (by kernel_rfl) rfl (by kernel_rfl) (rs := #[.tmp 6]) rfl (by decide +kernel) (by kernel_rfl) (W69_wp v0 v1 v2 H K) h
theorem W69_hb : HasBody Try.prog 69 := ⟨_, bodyOf Try.f69, Try.func69, by kernel_rfl, rfl⟩
theorem L69_1_rule {K : AV → Heap → Prop} {N1 : AV → AV → Heap → Prop} {v0 v1 v7 v10 v11 v12 v27 v28 v29 : AV} {H : Heap} {σ : Type} (s0 : σ) (f7 : σ → AV) (f10 : σ → AV) (TH : σ → Heap) (pre : σ → Prop) (μ : σ → Nat)
    (h0 : pre s0 ∧ AV.wk v7 (f7 s0) ∧ AV.wk v10 (f10 s0) ∧ Heap.le (TH s0) H)
    (round : ∀ s, pre s → B69_1 K N1 (fun w7 w10 H' => ∃ s', pre s' ∧ μ s' < μ s ∧ AV.wk w7 (f7 s') ∧ AV.wk w10 (f10 s') ∧ Heap.le (TH s') H') v0 v1 (f7 s) (f10 s) v11 v12 v27 v28 v29 (TH s)) :
    L69_1 K N1 v0 v1 v7 v10 v11 v12 v27 v28 v29 H := by
  unfold L69_1
  exact LoopV.mk s0 (fun s => [f7 s, f10 s]) TH pre μ (fun _ => rfl) (Eq.mp (by kernel_rfl) h0) (fun s hs => Eq.mp (by kernel_rfl) (round s hs))
theorem L69_1_ruleG {K : AV → Heap → Prop} {N1 : AV → AV → Heap → Prop} {v0 v1 v7 v10 v11 v12 v27 v28 v29 : AV} {H : Heap} {σ : Type} (s0 : σ) (f7 : σ → AV) (f10 : σ → AV) (TH : σ → Heap) (pre : σ → Prop) (μ : σ → Nat)
    (h0 : pre s0 ∧ AV.wk v7 (f7 s0) ∧ AV.wk v10 (f10 s0) ∧ Heap.le (TH s0) H)
    (round : ∀ s, pre s → ∀ q, TH s q = none → B69_1 K N1 (fun w7 w10 H' => ∃ s', pre s' ∧ μ s' < μ s ∧ AV.wk w7 (f7 s') ∧ AV.wk w10 (f10 s') ∧ Heap.le (TH s') H') v0 v1 (f7 s) (f10 s) v11 v12 v27 v28 v29 ((TH s).set q [])) :
    L69_1 K N1 v0 v1 v7 v10 v11 v12 v27 v28 v29 H := by
  unfold L69_1
  exact LoopV.mkG s0 (fun s => [f7 s, f10 s]) TH pre μ (fun _ => rfl) (Eq.mp (by kernel_rfl) h0) (fun s hs q hq => Eq.mp (by kernel_rfl) (round s hs q hq))
theorem L69_0_rule {K : AV → Heap → Prop} {v0 v1 v7 v27 v28 v29 : AV} {H : Heap} {σ : Type} (s0 : σ) (f7 : σ → AV) (f29 : σ → AV) (TH : σ → Heap) (pre : σ → Prop) (μ : σ → Nat)
    (h0 : pre s0 ∧ AV.wk v7 (f7 s0) ∧ AV.wk v29 (f29 s0) ∧ Heap.le (TH s0) H)
    (round : ∀ s, pre s → B69_0 K (fun w7 w29 H' => ∃ s', pre s' ∧ μ s' < μ s ∧ AV.wk w7 (f7 s') ∧ AV.wk w29 (f29 s') ∧ Heap.le (TH s') H') v0 v1 (f7 s) v27 v28 (f29 s) (TH s)) :
    L69_0 K v0 v1 v7 v27 v28 v29 H := by
  unfold L69_0
  exact LoopV.mk s0 (fun s => [f7 s, f29 s]) TH pre μ (fun _ => rfl) (Eq.mp (by kernel_rfl) h0) (fun s hs => Eq.mp (by kernel_rfl) (round s hs))
theorem L69_0_ruleG {K : AV → Heap → Prop} {v0 v1 v7 v27 v28 v29 : AV} {H : Heap} {σ : Type} (s0 : σ) (f7 : σ → AV) (f29 : σ → AV) (TH : σ → Heap) (pre : σ → Prop) (μ : σ → Nat)
    (h0 : pre s0 ∧ AV.wk v7 (f7 s0) ∧ AV.wk v29 (f29 s0) ∧ Heap.le (TH s0) H)
    (round : ∀ s, pre s → ∀ q, TH s q = none → B69_0 K (fun w7 w29 H' => ∃ s', pre s' ∧ μ s' < μ s ∧ AV.wk w7 (f7 s') ∧ AV.wk w29 (f29 s') ∧ Heap.le (TH s') H') v0 v1 (f7 s) v27 v28 (f29 s) ((TH s).set q [])) :
    L69_0 K v0 v1 v7 v27 v28 v29 H := by
  unfold L69_0
  exact LoopV.mkG s0 (fun s => [f7 s, f29 s]) TH pre μ (fun _ => rfl) (Eq.mp (by kernel_rfl) h0) (fun s hs q hq => Eq.mp (by kernel_rfl) (round s hs q hq))
/-- loop.example/g00649/laws.toChange -/
def D70 : Info := ⟨12, fun i => ([], []), fun i => ([], [])⟩
def W70 (v0 : AV) (H : Heap) (K : AV → Heap → Prop) : Prop :=
 boxV v0 H fun v1 H1 =>
 allocV tab 99 H1 fun v2 H2 =>
 allocV tab 99 H2 fun v3 H3 =>
 fieldAddrV tab 102 v1 0 fun v4 =>
 loadV tab 3 v4 H3 fun v5 =>
 fieldAddrV tab 99 v3 0 fun v6 =>
 storeV tab 3 v6 v5 H3 fun H4 =>
 fieldAddrV tab 102 v1 1 fun v7 =>
 loadV tab 22 v7 H4 fun v8 =>
 CallT Try.prog 32 [v8] H4 fun v9 H5 =>
 fieldAddrV tab 99 v3 1 fun v10 =>
 storeV tab 32 v10 v9 H5 fun H6 =>
 loadV tab 99 v3 H6 fun v11 =>
 storeV tab 99 v2 v11 H6 fun H7 =>
 loadV tab 99 v2 H7 fun r0 =>
 K r0 H7
theorem W70_wp (v0 : AV) (H : Heap) (K : AV → Heap → Prop) : wpC Try.prog tab D70 (bodyOf Try.f70) (retF tab [.cell 2 99] K) (nthA [v0]) H = W70 v0 H K := by kernel_rfl
theorem W70_ok {v0 : AV} {H : Heap} {K : AV → Heap → Prop} (h : W70 v0 H K) : CallT Try.prog 70 [v0] H K :=
  CallT.of_wp (D := D70) tab_ok mixed Try.func70 (c := bodyOf Try.f70) (by kernel_rfl) rfl (by kernel_rfl) (rs := #[.cell 2 99]) rfl (by decide +kernel) (by kernel_rfl) (W70_wp v0 H K) h
theorem W70_hb : HasBody Try.prog 70 := ⟨_, bodyOf Try.f70, Try.func70, by kernel_rfl, rfl⟩
/-- loop.example/g00649/impl.isTermOf -/
def D71 : Info := ⟨19, fun i => ([], []), fun i => ([], [])⟩
def W71 (v0 : AV) (v1 : AV) (v2 : AV) (v3 : AV) (H : Heap) (K : AV → Heap → Prop) : Prop :=
 CallT Try.prog 77 [v0, v1, v2] H fun v12 H1 =>
 grdV v12 true (CallT Try.prog 78 [v2] H1 fun v15 H2 =>
 binV tab .eql 3 v15 v3 fun v17 =>
 K v17 H2)
 (K (AV.p (.bool false)) H1)
theorem W71_wp (v0 : AV) (v1 : AV) (v2 : AV) (v3 : AV) (H : Heap) (K : AV → Heap → Prop) : wpC Try.prog tab D71 (bodyOf Try.f71) (retF tab [.tmp 8] K) (nthA [v0, v1, v2, v3]) H = W71 v0 v1 v2 v3 H K := by kernel_rfl
theorem W71_ok {v0 v1 v2 v3 : AV} {H : Heap} {K : AV → Heap → Prop} (h : W71 v0 v1 v2 v3 H K) : CallT Try.prog 71 [v0, v1, v2, v3] H K :=
  CallT.of_wp (D := D71) tab_ok mixed Try.func71 (c := bodyOf Try.f71) (by kernel_rfl) rfl (by kernel_rfl) (rs := #[.tmp 8]) rfl (by decide +kernel) (by kernel_rfl) (W71_wp v0 v1 v2 v3 H K) h
theorem W71_hb : HasBody Try.prog 71 := ⟨_, bodyOf Try.f71, Try.func71, by kernel_rfl, rfl⟩
/-- slices.IndexFunc[[]loop.example/g00649/impl.Command,loop.example/g00649/impl.Command] -/
def D72 : Info := ⟨19, fun i => ([], []), fun i => if i = 2 then ([0, 1, 7], [8]) else ([], [])⟩
def L72_0 (K : AV → Heap → Prop) (v0 : AV) (v1 : AV) (v7 : AV) (v8 : AV) (H : Heap) : Prop := LoopV (wpC Try.prog tab D72 (cAt [1, 0, 1, 0, 0] (bodyOf Try.f72))) [0, 1, 7] (PostF.block 0 (PostF.thenA (wpC Try.prog tab D72 (cAt [1, 1] (bodyOf Try.f72))) (retF tab [.tmp 4] K))) [8] [v0, v1, AV.any, AV.any, AV.any, AV.any, AV.any, v7, v8, AV.any, AV.any, AV.any, AV.any, AV.any, AV.any, AV.any, AV.any, AV.any, AV.any] H
def B72_0 (K : AV → Heap → Prop) (N1 : AV → Heap → Prop) (v0 : AV) (v1 : AV) (v7 : AV) (v8 : AV) (H : Heap) : Prop :=
 binV tab .lss 3 v8 v7 fun v9 =>
 condV v9 (indexAddrV tab 33 v0 v8 fun v14 =>
 loadV tab 83 v14 H fun v15 =>
 callF Try.prog v1 [v15] H fun v16 H1 =>
 condV v16 (K v8 H1)
 (binV tab .add 3 v8 (AV.p (.int .i64 1)) fun v18 =>
 N1 v18 H1))
 (K (AV.p (.int .i64 (-1))) H)
def W72 (v0 : AV) (v1 : AV) (H : Heap) (K : AV → Heap → Prop) : Prop :=
 lenV tab 33 v0 fun v7 =>
 L72_0 K v0 v1 v7 (AV.p (.int .i64 0)) H
theorem W72_wp (v0 : AV) (v1 : AV) (H : Heap) (K : AV → Heap → Prop) : wpC Try.prog tab D72 (bodyOf Try.f72) (retF tab [.tmp 4] K) (nthA [v0, v1]) H = W72 v0 v1 H K := by kernel_rfl
theorem W72_ok {v0 v1 : AV} {H : Heap} {K : AV → Heap → Prop} (h : W72 v0 v1 H K) : CallT Try.prog 72 [v0, v1] H K :=
  CallT.of_wp (D := D72) tab_ok mixed Try.func72 (c := bodyOf Try.f72) (by kernel_rfl) rfl (by kernel_rfl) (rs := #[.tmp 4]) rfl (by decide +kernel) (by kernel_rfl) (W72_wp v0 v1 H K) h
theorem W72_hb : HasBody Try.prog 72 := ⟨_, bodyOf Try.f72, Try.func72, by kernel_rfl, rfl⟩
theorem L72_0_rule {K : AV → Heap → Prop} {v0 v1 v7 v8 : AV} {H : Heap} {σ : Type} (s0 : σ) (f8 : σ → AV) (TH : σ → Heap) (pre : σ → Prop) (μ : σ → Nat)
    (h0 : pre s0 ∧ AV.wk v8 (f8 s0) ∧ Heap.le (TH s0) H)
    (round : ∀ s, pre s → B72_0 K (fun w8 H' => ∃ s', pre s' ∧ μ s' < μ s ∧ AV.wk w8 (f8 s') ∧ Heap.le (TH s') H') v0 v1 v7 (f8 s) (TH s)) :
    L72_0 K v0 v1 v7 v8 H := by
  unfold L72_0
  exact LoopV.mk s0 (fun s => [f8 s]) TH pre μ (fun _ => rfl) (Eq.mp (by kernel_rfl) h0) (fun s hs => Eq.mp (by kernel_rfl) (round s hs))
theorem L72_0_ruleG {K : AV → Heap → Prop} {v0 v1 v7 v8 : AV} {H : Heap} {σ : Type} (s0 : σ) (f8 : σ → AV) (TH : σ → Heap) (pre : σ → Prop) (μ : σ → Nat)
    (h0 : pre s0 ∧ AV.wk v8 (f8 s0) ∧ Heap.le (TH s0) H)
    (round : ∀ s, pre s → ∀ q, TH s q = none → B72_0 K (fun w8 H' => ∃ s', pre s' ∧ μ s' < μ s ∧ AV.wk w8 (f8 s') ∧ Heap.le (TH s') H') v0 v1 v7 (f8 s) ((TH s).set q [])) :
    L72_0 K v0 v1 v7 v8 H := by
  unfold L72_0
  exact LoopV.mkG s0 (fun s => [f8 s]) TH pre μ (fun _ => rfl) (Eq.mp (by kernel_rfl) h0) (fun s hs q hq => Eq.mp (by kernel_rfl) (round s hs q hq))
/-- loop.example/g00649/laws.eqChange -/
def D73 : Info := ⟨16, fun i => ([], []), fun i => ([], [])⟩
def W73 (v0 : AV) (v1 : AV) (H : Heap) (K : AV → Heap → Prop) : Prop :=
 boxV v0 H fun v2 H1 =>
 boxV v1 H1 fun v3 H2 =>
 fieldAddrV tab 99 v2 0 fun v5 =>
 loadV tab 3 v5 H2 fun v6 =>
 fieldAddrV tab 99 v3 0 fun v7 =>
 loadV tab 3 v7 H2 fun v8 =>
 binV tab .neq 3 v6 v8 fun v9 =>
 condV v9 (K (AV.p (.bool false)) H2)
 (fieldAddrV tab 99 v2 1 fun v10 =>
 loadV tab 32 v10 H2 fun v11 =>
 fieldAddrV tab 99 v3 1 fun v12 =>
 loadV tab 32 v12 H2 fun v13 =>
 CallT Try.prog 38 [v11, v13] H2 fun v14 H3 =>
 unV .not v14 fun v15 =>
 condV v15 (K (AV.p (.bool false)) H3)
 (K (AV.p (.bool true)) H3))
theorem W73_wp (v0 : AV) (v1 : AV) (H : Heap) (K : AV → Heap → Prop) : wpC Try.prog tab D73 (bodyOf Try.f73) (retF tab [.tmp 4] K) (nthA [v0, v1]) H = W73 v0 v1 H K := by kernel_rfl
theorem W73_ok {v0 v1 : AV} {H : Heap} {K : AV → Heap → Prop} (h : W73 v0 v1 H K) : CallT Try.prog 73 [v0, v1] H K :=
  CallT.of_wp (D := D73) tab_ok mixed Try.func73 (c := bodyOf Try.f73) (by kernel_rfl) rfl (by kernel_rfl) (rs := #[.tmp 4]) rfl (by decide +kernel) (by kernel_rfl) (W73_wp v0 v1 H K) h
theorem W73_hb : HasBody Try.prog 73 := ⟨_, bodyOf Try.f73, Try.func73, by kernel_rfl, rfl⟩
/-- loop.example/g00649/spec.l1Wide -/
def D74 : Info := ⟨5, fun i => ([], []), fun i => ([], [])⟩
def W74 (v0 : AV) (H : Heap) (K : AV → Heap → Prop) : Prop :=
 CallT Try.prog 31 [v0, (AV.p (.int .i64 1)), (AV.p (.int .i64 64))] H fun v4 H1 =>
 K v4 H1
theorem W74_wp (v0 : AV) (H : Heap) (K : AV → Heap → Prop) : wpC Try.prog tab D74 (bodyOf Try.f74) (retF tab [.tmp 2] K) (nthA [v0]) H = W74 v0 H K := by kernel_rfl
theorem W74_ok {v0 : AV} {H : Heap} {K : AV → Heap → Prop} (h : W74 v0 H K) : CallT Try.prog 74 [v0] H K :=
  CallT.of_wp (D := D74) tab_ok mixed Try.func74 (c := bodyOf Try.f74) (by kernel_rfl) rfl (by kernel_rfl) (rs := #[.tmp 2]) rfl (by decide +kernel) (by kernel_rfl) (W74_wp v0 H K) h
theorem W74_hb : HasBody Try.prog 74 := ⟨_, bodyOf Try.f74, Try.func74, by kernel_rfl, rfl⟩
/-- loop.example/g00649/spec.l2Need -/
def D75 : Info := ⟨34, fun i => ([], []), fun i => ([], [])⟩
def W75 (v0 : AV) (H : Heap) (K : AV → Heap → Prop) : Prop :=
 binV tab .eql 3 v0 (AV.p (.int .i64 1)) fun v7 =>
 grdV v7 false (binV tab .eql 3 v0 (AV.p (.int .i64 2)) fun v10 =>
 condV v10 (K (.tup [(AV.p (.int .i64 0)), (AV.p (.int .i64 1)), (AV.p (.int .i64 1))]) H)
 (binV tab .eql 3 v0 (AV.p (.int .i64 20)) fun v14 =>
 condV v14 (K (.tup [(AV.p (.int .i64 0)), (AV.p (.int .i64 2)), (AV.p (.int .i64 2))]) H)
 (binV tab .eql 3 v0 (AV.p (.int .i64 13)) fun v17 =>
 condV v17 (K (.tup [(AV.p (.int .i64 1)), (AV.p (.int .i64 1)), (AV.p (.int .i64 1))]) H)
 (binV tab .eql 3 v0 (AV.p (.int .i64 19)) fun v20 =>
 condV v20 (K (.tup [(AV.p (.int .i64 1)), (AV.p (.int .i64 2)), (AV.p (.int .i64 2))]) H)
 (CallT Try.prog 31 [v0, (AV.p (.int .i64 3)), (AV.p (.int .i64 12))] H fun v23 H1 =>
 condV v23 (K (.tup [(AV.p (.int .i64 2)), (AV.p (.int .i64 1)), (AV.p (.int .i64 1))]) H1)
 (CallT Try.prog 31 [v0, (AV.p (.int .i64 14)), (AV.p (.int .i64 16))] H1 fun v26 H2 =>
 condV v26 (K (.tup [(AV.p (.int .i64 2)), (AV.p (.int .i64 1)), (AV.p (.int .i64 2))]) H2)
 (binV tab .eql 3 v0 (AV.p (.int .i64 17)) fun v29 =>
 grdV v29 false (binV tab .eql 3 v0 (AV.p (.int .i64 18)) fun v32 =>
 condV v32 (K (.tup [(AV.p (.int .i64 2)), (AV.p (.int .i64 2)), (AV.p (.int .i64 2))]) H2)
 (K (.tup [(AV.p (.int .i64 0)), (AV.p (.int .i64 0)), (AV.p (.int .i64 0))]) H2))
 (K (.tup [(AV.p (.int .i64 2)), (AV.p (.int .i64 2)), (AV.p (.int .i64 2))]) H2))))))))
 (K (.tup [(AV.p (.int .i64 0)), (AV.p (.int .i64 1)), (AV.p (.int .i64 1))]) H)
theorem W75_wp (v0 : AV) (H : Heap) (K : AV → Heap → Prop) : wpC Try.prog tab D75 (bodyOf Try.f75) (retF tab [.tmp 2, .tmp 3, .tmp 4] K) (nthA [v0]) H = W75 v0 H K := by kernel_rfl
theorem W75_ok {v0 : AV} {H : Heap} {K : AV → Heap → Prop} (h : W75 v0 H K) : CallT Try.prog 75 [v0] H K :=
  CallT.of_wp (D := D75) tab_ok mixed Try.func75 (c := bodyOf Try.f75) (by kernel_rfl) rfl (by kernel_rfl) (rs := #[.tmp 2, .tmp 3, .tmp 4]) rfl (by decide +kernel) (by kernel_rfl) (W75_wp v0 H K) h
theorem W75_hb : HasBody Try.prog 75 := ⟨_, bodyOf Try.f75, Try.func75, by kernel_rfl, rfl⟩
/-- loop.example/g00649/spec.l2N -/
def D76 : Info := ⟨30, fun i => ([], []), fun i => ([], [])⟩
def W76 (v0 : AV) (v1 : AV) (v2 : AV) (H : Heap) (K : AV → Heap → Prop) : Prop :=
 boxV v2 H fun v5 H1 =>
 fieldAddrV tab 78 v5 0 fun v7 =>
 loadV tab 3 v7 H1 fun v8 =>
 binV tab .eql 3 v8 (AV.p (.int .i64 1)) fun v10 =>
 condV v10 (fieldAddrV tab 78 v5 1 fun v12 =>
 loadV tab 76 v12 H1 fun v13 =>
 CallT Try.prog 79 [v0, v13] H1 fun v14 H2 =>
 K v14 H2)
 (binV tab .eql 3 v8 (AV.p (.int .i64 2)) fun v16 =>
 condV v16 (fieldAddrV tab 78 v5 1 fun v17 =>
 loadV tab 76 v17 H1 fun v18 =>
 convV tab 3 76 v1 fun v20 =>
 binV tab .lss 76 v18 v20 fun v21 =>
 K v21 H1)
 (binV tab .eql 3 v8 (AV.p (.int .i64 20)) fun v23 =>
 condV v23 (fieldAddrV tab 78 v5 1 fun v24 =>
 loadV tab 76 v24 H1 fun v25 =>
 binV tab .lss 76 v25 (AV.p (.int .u64 2)) fun v26 =>
 K v26 H1)
 (fieldAddrV tab 78 v5 1 fun v27 =>
 loadV tab 76 v27 H1 fun v28 =>
 binV tab .eql 76 v28 (AV.p (.int .u64 0)) fun v29 =>
 K v29 H1)))
theorem W76_wp (v0 : AV) (v1 : AV) (v2 : AV) (H : Heap) (K : AV → Heap → Prop) : wpC Try.prog tab D76 (bodyOf Try.f76) (retF tab [.tmp 6] K) (nthA [v0, v1, v2]) H = W76 v0 v1 v2 H K := by kernel_rfl
theorem W76_ok {v0 v1 v2 : AV} {H : Heap} {K : AV → Heap → Prop} (h : W76 v0 v1 v2 H K) : CallT Try.prog 76 [v0, v1, v2] H K :=
  CallT.of_wp (D := D76) tab_ok mixed Try.func76 (c := bodyOf Try.f76) (by kernel_rfl) rfl (by kernel_rfl) (rs := #[.tmp 6]) rfl (by decide +kernel) (by kernel_rfl) (W76_wp v0 v1 v2 H K) h
theorem W76_hb : HasBody Try.prog 76 := ⟨_, bodyOf Try.f76, Try.func76, by kernel_rfl, rfl⟩
/-- loop.example/g00649/impl.GoodTerm -/
def D77 : Info := ⟨80, fun i => ([], []), fun i => if i = 5 then ([0, 1, 33, 34], [7, 35]) else ([], [])⟩
def L77_0 (K : AV → Heap → Prop) (v0 : AV) (v1 : AV) (v7 : AV) (v33 : AV) (v34 : AV) (v35 : AV) (H : Heap) : Prop := LoopV (wpC Try.prog tab D77 (cAt [1, 1, 1, 0, 1, 0, 0] (bodyOf Try.f77))) [0, 1, 33, 34] (PostF.block 0 (PostF.thenA (wpC Try.prog tab D77 (cAt [1, 1, 1, 1] (bodyOf Try.f77))) (retF tab [.tmp 6] K))) [7, 35] [v0, v1, AV.any, AV.any, AV.any, AV.any, AV.any, v7, AV.any, AV.any, AV.any, AV.any, AV.any, AV.any, AV.any, AV.any, AV.any, AV.any, AV.any, AV.any, AV.any, AV.any, AV.any, AV.any, AV.any, AV.any, AV.any, AV.any, AV.any, AV.any, AV.any, AV.any, AV.any, v33, v34, v35, AV.any, AV.any, AV.any, AV.any, AV.any, AV.any, AV.any, AV.any, AV.any, AV.any, AV.any, AV.any, AV.any, AV.any, AV.any, AV.any, AV.any, AV.any, AV.any, AV.any, AV.any, AV.any, AV.any, AV.any, AV.any, AV.any, AV.any, AV.any, AV.any, AV.any, AV.any, AV.any, AV.any, AV.any, AV.any, AV.any, AV.any, AV.any, AV.any, AV.any, AV.any, AV.any, AV.any, AV.any] H
def B77_0 (K : AV → Heap → Prop) (N1 : AV → AV → Heap → Prop) (v0 : AV) (v1 : AV) (v7 : AV) (v33 : AV) (v34 : AV) (v35 : AV) (H : Heap) : Prop :=
 binV tab .lss 3 v35 v34 fun v36 =>
 condV v36 (indexAddrV tab 32 v33 v35 fun v37 =>
 loadV tab 78 v37 H fun v38 =>
 allocV tab 78 H fun v9 H4 =>
 storeV tab 78 v9 v38 H4 fun H5 =>
 fieldAddrV tab 78 v9 0 fun v40 =>
 loadV tab 3 v40 H5 fun v41 =>
 CallT Try.prog 80 [v41] H5 fun v42 H6 =>
 extractV v42 0 fun v43 =>
 extractV v42 1 fun v44 =>
 extractV v42 2 fun v45 =>
 allocV tab 3 H6 fun v11 H7 =>
 storeV tab 3 v11 v44 H7 fun H8 =>
 lenV tab 26 v7 fun v47 =>
 binV tab .sub 3 v47 v43 fun v49 =>
 binV tab .eql 3 v45 (AV.p (.int .i64 0)) fun v51 =>
 grdV v51 false (loadV tab 78 v9 H8 fun v55 =>
 CallT Try.prog 81 [v0, v1, v55] H8 fun v56 H9 =>
 unV .not v56 fun v57 =>
 grdV v57 false (binV tab .lss 3 v49 (AV.p (.int .i64 0)) fun v61 =>
 grdV v61 false (sliceV tab 26 v7 (some v49) none none fun v66 =>
 CallT Try.prog 82 [v66, (.fn 83 [v11])] H9 fun v68 H10 =>
 condV v68 (K (AV.p (.bool false)) H10)
 (sliceV tab 26 v7 none (some v49) none fun v72 =>
 buildSliceV tab 26 1 [(0, v45)] H10 (wkK fun v74 H11 =>
 appendV tab 26 26 v72 v74 H11 (wkK fun v75 H12 =>
 binV tab .add 3 v35 (AV.p (.int .i64 1)) fun v76 =>
 N1 v75 v76 H12))))
 (K (AV.p (.bool false)) H9))
 (K (AV.p (.bool false)) H9))
 (K (AV.p (.bool false)) H8))
 (lenV tab 26 v7 fun v78 =>
 binV tab .eql 3 v78 (AV.p (.int .i64 1)) fun v79 =>
 K v79 H)
def W77 (v0 : AV) (v1 : AV) (v2 : AV) (H : Heap) (K : AV → Heap → Prop) : Prop :=
 CallT Try.prog 61 [v0] H fun v15 H1 =>
 unV .not v15 fun v16 =>
 grdV v16 false (CallT Try.prog 62 [v1] H1 fun v19 H2 =>
 unV .not v19 fun v20 =>
 grdV v20 false (lenV tab 32 v2 fun v24 =>
 binV tab .lss 3 v24 (AV.p (.int .i64 1)) fun v25 =>
 grdV v25 false (lenV tab 32 v2 fun v29 =>
 binV tab .gtr 3 v29 (AV.p (.int .i64 48)) fun v30 =>
 condV v30 (K (AV.p (.bool false)) H2)
 (buildSliceV tab 26 0 [] H2 (wkK fun v32 H3 =>
 lenV tab 32 v2 fun v34 =>
 L77_0 K v0 v1 v32 v2 v34 (AV.p (.int .i64 0)) H3)))
 (K (AV.p (.bool false)) H2))
 (K (AV.p (.bool false)) H2))
 (K (AV.p (.bool false)) H1)
theorem W77_wp (v0 : AV) (v1 : AV) (v2 : AV) (H : Heap) (K : AV → Heap → Prop) : wpC Try.prog tab D77 (bodyOf Try.f77) (retF tab [.tmp 6] K) (nthA [v0, v1, v2]) H = W77 v0 v1 v2 H K := by kernel_rfl
theorem W77_ok {v0 v1 v2 : AV} {H : Heap} {K : AV → Heap → Prop} (h : W77 v0 v1 v2 H K) : CallT Try.prog 77 [v0, v1, v2] H K :=
  CallT.of_wp (D := D77) tab_ok mixed Try.func77 (c := bodyOf Try.f77) (by kernel_rfl) rfl (by kernel_rfl) (rs := #[.tmp 6]) rfl (by decide +kernel) (by kernel_rfl) (W77_wp v0 v1 v2 H K) h
theorem W77_hb : HasBody Try.prog 77 := ⟨_, bodyOf Try.f77, Try.func77, by kernel_rfl, rfl⟩
theorem L77_0_rule {K : AV → Heap → Prop} {v0 v1 v7 v33 v34 v35 : AV} {H : Heap} {σ : Type} (s0 : σ) (f7 : σ → AV) (f35 : σ → AV) (TH : σ → Heap) (pre : σ → Prop) (μ : σ → Nat)
    (h0 : pre s0 ∧ AV.wk v7 (f7 s0) ∧ AV.wk v35 (f35 s0) ∧ Heap.le (TH s0) H)
    (round : ∀ s, pre s → B77_0 K (fun w7 w35 H' => ∃ s', pre s' ∧ μ s' < μ s ∧ AV.wk w7 (f7 s') ∧ AV.wk w35 (f35 s') ∧ Heap.le (TH s') H') v0 v1 (f7 s) v33 v34 (f35 s) (TH s)) :
    L77_0 K v0 v1 v7 v33 v34 v35 H := by
  unfold L77_0
  exact LoopV.mk s0 (fun s => [f7 s, f35 s]) TH pre μ (fun _ => rfl) (Eq.mp (by kernel_rfl) h0) (fun s hs => Eq.mp (by kernel_rfl) (round s hs))
theorem L77_0_ruleG {K : AV → Heap → Prop} {v0 v1 v7 v33 v34 v35 : AV} {H : Heap} {σ : Type} (s0 : σ) (f7 : σ → AV) (f35 : σ → AV) (TH : σ → Heap) (pre : σ → Prop) (μ : σ → Nat)
    (h0 : pre s0 ∧ AV.wk v7 (f7 s0) ∧ AV.wk v35 (f35 s0) ∧ Heap.le (TH s0) H)
    (round : ∀ s, pre s → ∀ q, TH s q = none → B77_0 K (fun w7 w35 H' => ∃ s', pre s' ∧ μ s' < μ s ∧ AV.wk w7 (f7 s') ∧ AV.wk w35 (f35 s') ∧ Heap.le (TH s') H') v0 v1 (f7 s) v33 v34 (f35 s) ((TH s).set q [])) :
    L77_0 K v0 v1 v7 v33 v34 v35 H := by
  unfold L77_0
  exact LoopV.mkG s0 (fun s => [f7 s, f35 s]) TH pre μ (fun _ => rfl) (Eq.mp (by kernel_rfl) h0) (fun s hs q hq => Eq.mp (by kernel_rfl) (round s hs q hq))
/-- loop.example/g00649/impl.kindOf -/
def D78 : Info := ⟨19, fun i => ([], []), fun i => ([], [])⟩
def W78 (v0 : AV) (H : Heap) (K : AV → Heap → Prop) : Prop :=
 lenV tab 32 v0 fun v9 =>
 binV tab .sub 3 v9 (AV.p (.int .i64 1)) fun v10 =>
 indexAddrV tab 32 v0 v10 fun v11 =>
 fieldAddrV tab 78 v11 0 fun v12 =>
 loadV tab 3 v12 H fun v13 =>
 CallT Try.prog 80 [v13] H fun v14 H1 =>
 extractV v14 0 fun v15 =>
 extractV v14 1 fun v16 =>
 extractV v14 2 fun v17 =>
 K v17 H1
theorem W78_wp (v0 : AV) (H : Heap) (K : AV → Heap → Prop) : wpC Try.prog tab D78 (bodyOf Try.f78) (retF tab [.tmp 2] K) (nthA [v0]) H = W78 v0 H K := by kernel_rfl
theorem W78_ok {v0 : AV} {H : Heap} {K : AV → Heap → Prop} (h : W78 v0 H K) : CallT Try.prog 78 [v0] H K :=
  CallT.of_wp (D := D78) tab_ok mixed Try.func78 (c := bodyOf Try.f78) (by kernel_rfl) rfl (by kernel_rfl) (rs := #[.tmp 2]) rfl (by decide +kernel) (by kernel_rfl) (W78_wp v0 H K) h
theorem W78_hb : HasBody Try.prog 78 := ⟨_, bodyOf Try.f78, Try.func78, by kernel_rfl, rfl⟩
/-- loop.example/g00649/spec.GoodWord -/
def D79 : Info := ⟨14, fun i => ([], []), fun i => ([], [])⟩
def W79 (v0 : AV) (v1 : AV) (H : Heap) (K : AV → Heap → Prop) : Prop :=
 CallT Try.prog 74 [v0] H fun v6 H1 =>
 grdV v6 true (CallT Try.prog 84 [v0, v1] H1 fun v10 H2 =>
 binV tab .eql 76 v10 v1 fun v12 =>
 K v12 H2)
 (K (AV.p (.bool false)) H1)
theorem W79_wp (v0 : AV) (v1 : AV) (H : Heap) (K : AV → Heap → Prop) : wpC Try.prog tab D79 (bodyOf Try.f79) (retF tab [.tmp 4] K) (nthA [v0, v1]) H = W79 v0 v1 H K := by kernel_rfl
theorem W79_ok {v0 v1 : AV} {H : Heap} {K : AV → Heap → Prop} (h : W79 v0 v1 H K) : CallT Try.prog 79 [v0, v1] H K :=
  CallT.of_wp (D := D79) tab_ok mixed Try.func79 (c := bodyOf Try.f79) (by kernel_rfl) rfl (by kernel_rfl) (rs := #[.tmp 4]) rfl (by decide +kernel) (by kernel_rfl) (W79_wp v0 v1 H K) h
theorem W79_hb : HasBody Try.prog 79 := ⟨_, bodyOf Try.f79, Try.func79, by kernel_rfl, rfl⟩
/-- loop.example/g00649/impl.operandsOf -/
def D80 : Info := ⟨42, fun i => ([], []), fun i => ([], [])⟩
def J80_0 (K : AV → Heap → Prop) (v40 : AV) (H : Heap) : Prop :=
 condV v40 (K (.tup [(AV.p (.int .i64 2)), (AV.p (.int .i64 2)), (AV.p (.int .i64 2))]) H)
 (K (.tup [(AV.p (.int .i64 0)), (AV.p (.int .i64 0)), (AV.p (.int .i64 0))]) H)
def J80_1 (K : AV → Heap → Prop) (v0 : AV) (v33 : AV) (H : Heap) : Prop :=
 condV v33 (K (.tup [(AV.p (.int .i64 2)), (AV.p (.int .i64 1)), (AV.p (.int .i64 2))]) H)
 (binV tab .eql 3 v0 (AV.p (.int .i64 17)) fun v37 =>
 grdV v37 false (binV tab .eql 3 v0 (AV.p (.int .i64 18)) fun v40 =>
 J80_0 K v40 H)
 (K (.tup [(AV.p (.int .i64 2)), (AV.p (.int .i64 2)), (AV.p (.int .i64 2))]) H))
def J80_2 (K : AV → Heap → Prop) (v0 : AV) (H : Heap) : Prop :=
 binV tab .eql 3 v0 (AV.p (.int .i64 17)) fun v37 =>
 grdV v37 false (binV tab .eql 3 v0 (AV.p (.int .i64 18)) fun v40 =>
 J80_0 K v40 H)
 (K (.tup [(AV.p (.int .i64 2)), (AV.p (.int .i64 2)), (AV.p (.int .i64 2))]) H)
def W80 (v0 : AV) (H : Heap) (K : AV → Heap → Prop) : Prop :=
 binV tab .eql 3 v0 (AV.p (.int .i64 1)) fun v7 =>
 grdV v7 false (binV tab .eql 3 v0 (AV.p (.int .i64 2)) fun v10 =>
 condV v10 (K (.tup [(AV.p (.int .i64 0)), (AV.p (.int .i64 0)), (AV.p (.int .i64 1))]) H)
 (binV tab .eql 3 v0 (AV.p (.int .i64 20)) fun v14 =>
 condV v14 (K (.tup [(AV.p (.int .i64 0)), (AV.p (.int .i64 0)), (AV.p (.int .i64 2))]) H)
 (binV tab .eql 3 v0 (AV.p (.int .i64 13)) fun v17 =>
 condV v17 (K (.tup [(AV.p (.int .i64 1)), (AV.p (.int .i64 1)), (AV.p (.int .i64 1))]) H)
 (binV tab .eql 3 v0 (AV.p (.int .i64 19)) fun v20 =>
 condV v20 (K (.tup [(AV.p (.int .i64 1)), (AV.p (.int .i64 2)), (AV.p (.int .i64 2))]) H)
 (binV tab .geq 3 v0 (AV.p (.int .i64 3)) fun v23 =>
 grdV v23 true (binV tab .leq 3 v0 (AV.p (.int .i64 12)) fun v26 =>
 condV v26 (K (.tup [(AV.p (.int .i64 2)), (AV.p (.int .i64 1)), (AV.p (.int .i64 1))]) H)
 (binV tab .geq 3 v0 (AV.p (.int .i64 14)) fun v30 =>
 grdV v30 true (binV tab .leq 3 v0 (AV.p (.int .i64 16)) fun v33 =>
 J80_1 K v0 v33 H)
 (J80_2 K v0 H)))
 (binV tab .geq 3 v0 (AV.p (.int .i64 14)) fun v30 =>
 grdV v30 true (binV tab .leq 3 v0 (AV.p (.int .i64 16)) fun v33 =>
 J80_1 K v0 v33 H)
 (J80_2 K v0 H)))))))
 (K (.tup [(AV.p (.int .i64 0)), (AV.p (.int .i64 0)), (AV.p (.int .i64 1))]) H)
theorem W80_wp (v0 : AV) (H : Heap) (K : AV → Heap → Prop) : wpC Try.prog tab D80 (bodyOf Try.f80) (retF tab [.tmp 2, .tmp 3, .tmp 4] K) (nthA [v0]) H = W80 v0 H K := by kernel_rfl
theorem W80_ok {v0 : AV} {H : Heap} {K : AV → Heap → Prop} (h : W80 v0 H K) : CallT Try.prog 80 [v0] H K :=
  CallT.of_wp (D := D80) tab_ok mixed Try.func80 (c := bodyOf Try.f80) (by kernel_rfl) rfl (by kernel_rfl) (rs := #[.tmp 2, .tmp 3, .tmp 4]) rfl (by decide +kernel) (by kernel_rfl) (W80_wp v0 H K) h
theorem W80_hb : HasBody Try.prog 80 := ⟨_, bodyOf Try.f80, Try.func80, by kernel_rfl, rfl⟩
/-- loop.example/g00649/impl.isLeafRight -/
def D81 : Info := ⟨30, fun i => ([], []), fun i => ([], [])⟩
def W81 (v0 : AV) (v1 : AV) (v2 : AV) (H : Heap) (K : AV → Heap → Prop) : Prop :=
 boxV v2 H fun v5 H1 =>
 fieldAddrV tab 78 v5 0 fun v7 =>
 loadV tab 3 v7 H1 fun v8 =>
 binV tab .eql 3 v8 (AV.p (.int .i64 1)) fun v10 =>
 condV v10 (fieldAddrV tab 78 v5 1 fun v12 =>
 loadV tab 76 v12 H1 fun v13 =>
 CallT Try.prog 85 [v0, v13] H1 fun v14 H2 =>
 K v14 H2)
 (binV tab .eql 3 v8 (AV.p (.int .i64 2)) fun v16 =>
 condV v16 (fieldAddrV tab 78 v5 1 fun v17 =>
 loadV tab 76 v17 H1 fun v18 =>
 convV tab 3 76 v1 fun v20 =>
 binV tab .lss 76 v18 v20 fun v21 =>
 K v21 H1)
 (binV tab .eql 3 v8 (AV.p (.int .i64 20)) fun v23 =>
 condV v23 (fieldAddrV tab 78 v5 1 fun v24 =>
 loadV tab 76 v24 H1 fun v25 =>
 binV tab .leq 76 v25 (AV.p (.int .u64 1)) fun v26 =>
 K v26 H1)
 (fieldAddrV tab 78 v5 1 fun v27 =>
 loadV tab 76 v27 H1 fun v28 =>
 binV tab .eql 76 v28 (AV.p (.int .u64 0)) fun v29 =>
 K v29 H1)))
theorem W81_wp (v0 : AV) (v1 : AV) (v2 : AV) (H : Heap) (K : AV → Heap → Prop) : wpC Try.prog tab D81 (bodyOf Try.f81) (retF tab [.tmp 6] K) (nthA [v0, v1, v2]) H = W81 v0 v1 v2 H K := by kernel_rfl
theorem W81_ok {v0 v1 v2 : AV} {H : Heap} {K : AV → Heap → Prop} (h : W81 v0 v1 v2 H K) : CallT Try.prog 81 [v0, v1, v2] H K :=
  CallT.of_wp (D := D81) tab_ok mixed Try.func81 (c := bodyOf Try.f81) (by kernel_rfl) rfl (by kernel_rfl) (rs := #[.tmp 6]) rfl (by decide +kernel) (by kernel_rfl) (W81_wp v0 v1 v2 H K) h
theorem W81_hb : HasBody Try.prog 81 := ⟨_, bodyOf Try.f81, Try.func81, by kernel_rfl, rfl⟩
/-- slices.ContainsFunc[[]int,int] -/
def D82 : Info := ⟨9, fun i => ([], []), fun i => ([], [])⟩
def W82 (v0 : AV) (v1 : AV) (H : Heap) (K : AV → Heap → Prop) : Prop :=
 CallT Try.prog 86 [v0, v1] H fun v7 H1 =>
 binV tab .geq 3 v7 (AV.p (.int .i64 0)) fun v8 =>
 K v8 H1
theorem W82_wp (v0 : AV) (v1 : AV) (H : Heap) (K : AV → Heap → Prop) : wpC Try.prog tab D82 (bodyOf Try.f82) (retF tab [.tmp 4] K) (nthA [v0, v1]) H = W82 v0 v1 H K := by kernel_rfl
theorem W82_ok {v0 v1 : AV} {H : Heap} {K : AV → Heap → Prop} (h : W82 v0 v1 H K) : CallT Try.prog 82 [v0, v1] H K :=
  CallT.of_wp (D := D82) tab_ok mixed Try.func82 (c := bodyOf Try.f82) (by kernel_rfl) rfl (by kernel_rfl) (rs := #[.tmp 4]) rfl (by decide +kernel) (by kernel_rfl) (W82_wp v0 v1 H K) h
theorem W82_hb : HasBody Try.prog 82 := ⟨_, bodyOf Try.f82, Try.func82, by kernel_rfl, rfl⟩
/-- loop.example/g00649/impl.GoodTerm$1 -/
def D83 : Info := ⟨7, fun i => ([], []), fun i => ([], [])⟩
def W83 (v0 : AV) (v1 : AV) (H : Heap) (K : AV → Heap → Prop) : Prop :=
 loadV tab 3 v1 H fun v5 =>
 binV tab .neq 3 v0 v5 fun v6 =>
 K v6 H
theorem W83_wp (v0 : AV) (v1 : AV) (H : Heap) (K : AV → Heap → Prop) : wpC Try.prog tab D83 (bodyOf Try.f83) (retF tab [.tmp 3] K) (nthA [v0, v1]) H = W83 v0 v1 H K := by kernel_rfl
theorem W83_ok {v0 v1 : AV} {H : Heap} {K : AV → Heap → Prop} (h : W83 v0 v1 H K) : CallT Try.prog 83 [v0, v1] H K :=
  CallT.of_wp (D := D83) tab_ok mixed Try.func83 (c := bodyOf Try.f83) (by kernel_rfl) rfl (by kernel_rfl) (rs := #[.tmp 3]) rfl (by decide +kernel) (by kernel_rfl) (W83_wp v0 v1 H K) h
theorem W83_hb : HasBody Try.prog 83 := ⟨_, bodyOf Try.f83, Try.func83, by kernel_rfl, rfl⟩
/-- loop.example/g00649/spec.l1Cut -/
def D84 : Info := ⟨20, fun i => ([], []), fun i => if i = 3 then ([0, 1], [5, 6]) else ([], [])⟩
def L84_0 (K : AV → Heap → Prop) (v0 : AV) (v1 : AV) (v5 : AV) (v6 : AV) (H : Heap) : Prop := LoopV (wpC Try.prog tab D84 (cAt [1, 1, 0, 1, 0, 0] (bodyOf Try.f84))) [0, 1] (PostF.block 0 (PostF.thenA (wpC Try.prog tab D84 (cAt [1, 1, 1] (bodyOf Try.f84))) (retF tab [.tmp 4] K))) [5, 6] [v0, v1, AV.any, AV.any, AV.any, v5, v6, AV.any, AV.any, AV.any, AV.any, AV.any, AV.any, AV.any, AV.any, AV.any, AV.any, AV.any, AV.any, AV.any] H
def B84_0 (K : AV → Heap → Prop) (N1 : AV → AV → Heap → Prop) (v0 : AV) (v1 : AV) (v5 : AV) (v6 : AV) (H : Heap) : Prop :=
 binV tab .lss 3 v6 v0 fun v9 =>
 condV v9 (convV tab 3 75 v6 fun v15 =>
 binV tab .shl 76 (AV.p (.int .u64 1)) v15 fun v16 =>
 binV tab .and 76 v1 v16 fun v17 =>
 binV tab .or 76 v5 v17 fun v18 =>
 binV tab .add 3 v6 (AV.p (.int .i64 1)) fun v11 =>
 N1 v18 v11 H)
 (K v5 H)
def W84 (v0 : AV) (v1 : AV) (H : Heap) (K : AV → Heap → Prop) : Prop :=
 L84_0 K v0 v1 (AV.p (.int .u64 0)) (AV.p (.int .i64 0)) H
theorem W84_wp (v0 : AV) (v1 : AV) (H : Heap) (K : AV → Heap → Prop) : wpC Try.prog tab D84 (bodyOf Try.f84) (retF tab [.tmp 4] K) (nthA [v0, v1]) H = W84 v0 v1 H K := by kernel_rfl
theorem W84_ok {v0 v1 : AV} {H : Heap} {K : AV → Heap → Prop} (h : W84 v0 v1 H K) : CallT Try.prog 84 [v0, v1] H K :=
  CallT.of_wp (D := D84) tab_ok mixed Try.func84 (c := bodyOf Try.f84) (by kernel_rfl) rfl (by kernel_rfl) (rs := #[.tmp 4]) rfl (by decide +kernel) (by kernel_rfl) (W84_wp v0 v1 H K) h
theorem W84_hb : HasBody Try.prog 84 := ⟨_, bodyOf Try.f84, Try.func84, by kernel_rfl, rfl⟩
theorem L84_0_rule {K : AV → Heap → Prop} {v0 v1 v5 v6 : AV} {H : Heap} {σ : Type} (s0 : σ) (f5 : σ → AV) (f6 : σ → AV) (TH : σ → Heap) (pre : σ → Prop) (μ : σ → Nat)
    (h0 : pre s0 ∧ AV.wk v5 (f5 s0) ∧ AV.wk v6 (f6 s0) ∧ Heap.le (TH s0) H)
    (round : ∀ s, pre s → B84_0 K (fun w5 w6 H' => ∃ s', pre s' ∧ μ s' < μ s ∧ AV.wk w5 (f5 s') ∧ AV.wk w6 (f6 s') ∧ Heap.le (TH s') H') v0 v1 (f5 s) (f6 s) (TH s)) :
    L84_0 K v0 v1 v5 v6 H := by
  unfold L84_0
  exact LoopV.mk s0 (fun s => [f5 s, f6 s]) TH pre μ (fun _ => rfl) (Eq.mp (by kernel_rfl) h0) (fun s hs => Eq.mp (by kernel_rfl) (round s hs))
theorem L84_0_ruleG {K : AV → Heap → Prop} {v0 v1 v5 v6 : AV} {H : Heap} {σ : Type} (s0 : σ) (f5 : σ → AV) (f6 : σ → AV) (TH : σ → Heap) (pre : σ → Prop) (μ : σ → Nat)
    (h0 : pre s0 ∧ AV.wk v5 (f5 s0) ∧ AV.wk v6 (f6 s0) ∧ Heap.le (TH s0) H)
    (round : ∀ s, pre s → ∀ q, TH s q = none → B84_0 K (fun w5 w6 H' => ∃ s', pre s' ∧ μ s' < μ s ∧ AV.wk w5 (f5 s') ∧ AV.wk w6 (f6 s') ∧ Heap.le (TH s') H') v0 v1 (f5 s) (f6 s) ((TH s).set q [])) :
    L84_0 K v0 v1 v5 v6 H := by
  unfold L84_0
  exact LoopV.mkG s0 (fun s => [f5 s, f6 s]) TH pre μ (fun _ => rfl) (Eq.mp (by kernel_rfl) h0) (fun s hs q hq => Eq.mp (by kernel_rfl) (round s hs q hq))
/-- loop.example/g00649/impl.GoodWord -/
def D85 : Info := ⟨13, fun i => ([], []), fun i => ([], [])⟩
def W85 (v0 : AV) (v1 : AV) (H : Heap) (K : AV → Heap → Prop) : Prop :=
 CallT Try.prog 61 [v0] H fun v6 H1 =>
 grdV v6 true (CallT Try.prog 87 [v0] H1 fun v10 H2 =>
 binV tab .leq 76 v1 v10 fun v11 =>
 K v11 H2)
 (K (AV.p (.bool false)) H1)
theorem W85_wp (v0 : AV) (v1 : AV) (H : Heap) (K : AV → Heap → Prop) : wpC Try.prog tab D85 (bodyOf Try.f85) (retF tab [.tmp 4] K) (nthA [v0, v1]) H = W85 v0 v1 H K := by kernel_rfl
theorem W85_ok {v0 v1 : AV} {H : Heap} {K : AV → Heap → Prop} (h : W85 v0 v1 H K) : CallT Try.prog 85 [v0, v1] H K :=
  CallT.of_wp (D := D85) tab_ok mixed Try.func85 (c := bodyOf Try.f85) (by kernel_rfl) rfl (by kernel_rfl) (rs := #[.tmp 4]) rfl (by decide +kernel) (by kernel_rfl) (W85_wp v0 v1 H K) h
theorem W85_hb : HasBody Try.prog 85 := ⟨_, bodyOf Try.f85, Try.func85, by kernel_rfl, rfl⟩
/-- slices.IndexFunc[[]int,int] -/
def D86 : Info := ⟨19, fun i => ([], []), fun i => if i = 2 then ([0, 1, 7], [8]) else ([], [])⟩
def L86_0 (K : AV → Heap → Prop) (v0 : AV) (v1 : AV) (v7 : AV) (v8 : AV) (H : Heap) : Prop := LoopV (wpC Try.prog tab D86 (cAt [1, 0, 1, 0, 0] (bodyOf Try.f86))) [0, 1, 7] (PostF.block 0 (PostF.thenA (wpC Try.prog tab D86 (cAt [1, 1] (bodyOf Try.f86))) (retF tab [.tmp 4] K))) [8] [v0, v1, AV.any, AV.any, AV.any, AV.any, AV.any, v7, v8, AV.any, AV.any, AV.any, AV.any, AV.any, AV.any, AV.any, AV.any, AV.any, AV.any] H
def B86_0 (K : AV → Heap → Prop) (N1 : AV → Heap → Prop) (v0 : AV) (v1 : AV) (v7 : AV) (v8 : AV) (H : Heap) : Prop :=
 binV tab .lss 3 v8 v7 fun v9 =>
 condV v9 (indexAddrV tab 26 v0 v8 fun v14 =>
 loadV tab 3 v14 H fun v15 =>
 callF Try.prog v1 [v15] H fun v16 H1 =>
 condV v16 (K v8 H1)
 (binV tab .add 3 v8 (AV.p (.int .i64 1)) fun v18 =>
 N1 v18 H1))
 (K (AV.p (.int .i64 (-1))) H)
def W86 (v0 : AV) (v1 : AV) (H : Heap) (K : AV → Heap → Prop) : Prop :=
 lenV tab 26 v0 fun v7 =>
 L86_0 K v0 v1 v7 (AV.p (.int .i64 0)) H
theorem W86_wp (v0 : AV) (v1 : AV) (H : Heap) (K : AV → Heap → Prop) : wpC Try.prog tab D86 (bodyOf Try.f86) (retF tab [.tmp 4] K) (nthA [v0, v1]) H = W86 v0 v1 H K := by kernel_rfl
theorem W86_ok {v0 v1 : AV} {H : Heap} {K : AV → Heap → Prop} (h : W86 v0 v1 H K) : CallT Try.prog 86 [v0, v1] H K :=
  CallT.of_wp (D := D86) tab_ok mixed Try.func86 (c := bodyOf Try.f86) (by kernel_rfl) rfl (by kernel_rfl) (rs := #[.tmp 4]) rfl (by decide +kernel) (by kernel_rfl) (W86_wp v0 v1 H K) h
theorem W86_hb : HasBody Try.prog 86 := ⟨_, bodyOf Try.f86, Try.func86, by kernel_rfl, rfl⟩
theorem L86_0_rule {K : AV → Heap → Prop} {v0 v1 v7 v8 : AV} {H : Heap} {σ : Type} (s0 : σ) (f8 : σ → AV) (TH : σ → Heap) (pre : σ → Prop) (μ : σ → Nat)
    (h0 : pre s0 ∧ AV.wk v8 (f8 s0) ∧ Heap.le (TH s0) H)
    (round : ∀ s, pre s → B86_0 K (fun w8 H' => ∃ s', pre s' ∧ μ s' < μ s ∧ AV.wk w8 (f8 s') ∧ Heap.le (TH s') H') v0 v1 v7 (f8 s) (TH s)) :
    L86_0 K v0 v1 v7 v8 H := by
  unfold L86_0
  exact LoopV.mk s0 (fun s => [f8 s]) TH pre μ (fun _ => rfl) (Eq.mp (by kernel_rfl) h0) (fun s hs => Eq.mp (by kernel_rfl) (round s hs))
theorem L86_0_ruleG {K : AV → Heap → Prop} {v0 v1 v7 v8 : AV} {H : Heap} {σ : Type} (s0 : σ) (f8 : σ → AV) (TH : σ → Heap) (pre : σ → Prop) (μ : σ → Nat)
    (h0 : pre s0 ∧ AV.wk v8 (f8 s0) ∧ Heap.le (TH s0) H)
    (round : ∀ s, pre s → ∀ q, TH s q = none → B86_0 K (fun w8 H' => ∃ s', pre s' ∧ μ s' < μ s ∧ AV.wk w8 (f8 s') ∧ Heap.le (TH s') H') v0 v1 v7 (f8 s) ((TH s).set q [])) :
    L86_0 K v0 v1 v7 v8 H := by
  unfold L86_0
  exact LoopV.mkG s0 (fun s => [f8 s]) TH pre μ (fun _ => rfl) (Eq.mp (by kernel_rfl) h0) (fun s hs q hq => Eq.mp (by kernel_rfl) (round s hs q hq))
/-- loop.example/g00649/impl.mask -/
def D87 : Info := ⟨6, fun i => ([], []), fun i => ([], [])⟩
def W87 (v0 : AV) (H : Heap) (K : AV → Heap → Prop) : Prop :=
 binV tab .sub 3 (AV.p (.int .i64 64)) v0 fun v4 =>
 binV tab .shr 76 (AV.p (.int .u64 18446744073709551615)) v4 fun v5 =>
 K v5 H
theorem W87_wp (v0 : AV) (H : Heap) (K : AV → Heap → Prop) : wpC Try.prog tab D87 (bodyOf Try.f87) (retF tab [.tmp 2] K) (nthA [v0]) H = W87 v0 H K := by kernel_rfl
theorem W87_ok {v0 : AV} {H : Heap} {K : AV → Heap → Prop} (h : W87 v0 H K) : CallT Try.prog 87 [v0] H K :=
  CallT.of_wp (D := D87) tab_ok mixed Try.func87 (c := bodyOf Try.f87) (by kernel_rfl) rfl (by kernel_rfl) (rs := #[.tmp 2]) rfl (by decide +kernel) (by kernel_rfl) (W87_wp v0 H K) h
theorem W87_hb : HasBody Try.prog 87 := ⟨_, bodyOf Try.f87, Try.func87, by kernel_rfl, rfl⟩
end Go.Proofs.Ythlbkcgnacemgaa
