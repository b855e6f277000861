/- What each function's code is asked for, as a formula. Written by wgen.py (a program of this session's) out of Lean's print of the program. -/
import Derived.KernelRfl
import Derived.Test.YtlcnoflmlonikaaTab
import Derived.Test.YtlcnoflmlonikaaSepC
namespace Go.Proofs.Ytlcnoflmlonikaa
open Go Go.Sep
set_option linter.unusedVariables false
attribute [local irreducible] wpC headF
/-- loop.example/g00649/laws.markChangeS -/
def D47 : Info := ⟨27, fun i => ([], []), fun i => if i = 2 then ([0], [1, 5]) else ([], [])⟩
def L47_0 (K : AV → Heap → Prop) (v0 : AV) (v1 : AV) (v5 : AV) (H : Heap) : Prop := LoopV (wpC Try.prog tab D47 (cAt [1, 0, 1, 0, 0] (bodyOf Try.f47))) [0] (PostF.block 0 (PostF.thenA (wpC Try.prog tab D47 (cAt [1, 1] (bodyOf Try.f47))) (retF tab [.tmp 4] K))) [1, 5] [v0, v1, AV.any, AV.any, AV.any, v5, AV.any, AV.any, AV.any, AV.any, AV.any, AV.any, AV.any, AV.any, AV.any, AV.any, AV.any, AV.any, AV.any, AV.any, AV.any, AV.any, AV.any, AV.any, AV.any, AV.any, AV.any] H
def B47_0 (K : AV → Heap → Prop) (N1 : AV → AV → Heap → Prop) (v0 : AV) (v1 : AV) (v5 : AV) (H : Heap) : Prop :=
 lenV tab 55 v0 fun v8 =>
 binV tab .lss 3 v5 v8 fun v9 =>
 condV v9 (indexAddrV tab 55 v0 v5 fun v15 =>
 fieldAddrV tab 69 v15 0 fun v16 =>
 storeV tab 3 v16 v1 H fun H1 =>
 binV tab .add 3 v1 (AV.p (.int .i64 1)) fun v18 =>
 indexAddrV tab 55 v0 v5 fun v21 =>
 fieldAddrV tab 69 v21 1 fun v22 =>
 loadV tab 28 v22 H1 fun v23 =>
 CallT Try.prog 15 [v23, v18] H1 fun v25 H2 =>
 binV tab .add 3 v5 (AV.p (.int .i64 1)) fun v11 =>
 N1 v25 v11 H2)
 (K v1 H)
def W47 (v0 : AV) (v1 : AV) (H : Heap) (K : AV → Heap → Prop) : Prop :=
 L47_0 K v0 v1 (AV.p (.int .i64 0)) H
theorem W47_wp (v0 : AV) (v1 : AV) (H : Heap) (K : AV → Heap → Prop) : wpC Try.prog tab D47 (bodyOf Try.f47) (retF tab [.tmp 4] K) (nthA [v0, v1]) H = W47 v0 v1 H K := by kernel_rfl
theorem W47_ok {v0 v1 : AV} {H : Heap} {K : AV → Heap → Prop} (h : W47 v0 v1 H K) : CallT Try.prog 47 [v0, v1] H K :=
  CallT.of_wp (D := D47) tab_ok mixed Try.func47 (c := bodyOf Try.f47) (by kernel_rfl) rfl (by kernel_rfl) (rs := #[.tmp 4]) rfl (by decide +kernel) (by kernel_rfl) (W47_wp v0 v1 H K) h
theorem W47_hb : HasBody Try.prog 47 := ⟨_, bodyOf Try.f47, Try.func47, by kernel_rfl, rfl⟩
theorem L47_0_rule {K : AV → Heap → Prop} {v0 v1 v5 : AV} {H : Heap} {σ : Type} (s0 : σ) (f1 : σ → AV) (f5 : σ → AV) (TH : σ → Heap) (pre : σ → Prop) (μ : σ → Nat)
    (h0 : pre s0 ∧ AV.wk v1 (f1 s0) ∧ AV.wk v5 (f5 s0) ∧ Heap.le (TH s0) H)
    (round : ∀ s, pre s → B47_0 K (fun w1 w5 H' => ∃ s', pre s' ∧ μ s' < μ s ∧ AV.wk w1 (f1 s') ∧ AV.wk w5 (f5 s') ∧ Heap.le (TH s') H') v0 (f1 s) (f5 s) (TH s)) :
    L47_0 K v0 v1 v5 H := by
  unfold L47_0
  exact LoopV.mk s0 (fun s => [f1 s, f5 s]) TH pre μ (fun _ => rfl) (Eq.mp (by kernel_rfl) h0) (fun s hs => Eq.mp (by kernel_rfl) (round s hs))
theorem L47_0_ruleG {K : AV → Heap → Prop} {v0 v1 v5 : AV} {H : Heap} {σ : Type} (s0 : σ) (f1 : σ → AV) (f5 : σ → AV) (TH : σ → Heap) (pre : σ → Prop) (μ : σ → Nat)
    (h0 : pre s0 ∧ AV.wk v1 (f1 s0) ∧ AV.wk v5 (f5 s0) ∧ Heap.le (TH s0) H)
    (round : ∀ s, pre s → ∀ q, TH s q = none → B47_0 K (fun w1 w5 H' => ∃ s', pre s' ∧ μ s' < μ s ∧ AV.wk w1 (f1 s') ∧ AV.wk w5 (f5 s') ∧ Heap.le (TH s') H') v0 (f1 s) (f5 s) ((TH s).set q [])) :
    L47_0 K v0 v1 v5 H := by
  unfold L47_0
  exact LoopV.mkG s0 (fun s => [f1 s, f5 s]) TH pre μ (fun _ => rfl) (Eq.mp (by kernel_rfl) h0) (fun s hs q hq => Eq.mp (by kernel_rfl) (round s hs q hq))
/-- loop.example/g00649/spec.GoodTerm -/
def D48 : Info := ⟨12, fun i => ([], []), fun i => ([], [])⟩
def W48 (v0 : AV) (v1 : AV) (v2 : AV) (H : Heap) (K : AV → Heap → Prop) : Prop :=
 CallT Try.prog 53 [v0, v1, v2] H fun v10 H1 =>
 binV tab .gtr 3 v10 (AV.p (.int .i64 0)) fun v11 =>
 K v11 H1
theorem W48_wp (v0 : AV) (v1 : AV) (v2 : AV) (H : Heap) (K : AV → Heap → Prop) : wpC Try.prog tab D48 (bodyOf Try.f48) (retF tab [.tmp 6] K) (nthA [v0, v1, v2]) H = W48 v0 v1 v2 H K := by kernel_rfl
theorem W48_ok {v0 v1 v2 : AV} {H : Heap} {K : AV → Heap → Prop} (h : W48 v0 v1 v2 H K) : CallT Try.prog 48 [v0, v1, v2] H K :=
  CallT.of_wp (D := D48) tab_ok mixed Try.func48 (c := bodyOf Try.f48) (by kernel_rfl) rfl (by kernel_rfl) (rs := #[.tmp 6]) rfl (by decide +kernel) (by kernel_rfl) (W48_wp v0 v1 v2 H K) h
theorem W48_hb : HasBody Try.prog 48 := ⟨_, bodyOf Try.f48, Try.func48, by kernel_rfl, rfl⟩
/-- loop.example/g00649/impl.GoodTerm -/
def D49 : Info := ⟨80, fun i => ([], []), fun i => if i = 5 then ([0, 1, 33, 34], [7, 35]) else ([], [])⟩
def L49_0 (K : AV → Heap → Prop) (v0 : AV) (v1 : AV) (v7 : AV) (v33 : AV) (v34 : AV) (v35 : AV) (H : Heap) : Prop := LoopV (wpC Try.prog tab D49 (cAt [1, 1, 1, 0, 1, 0, 0] (bodyOf Try.f49))) [0, 1, 33, 34] (PostF.block 0 (PostF.thenA (wpC Try.prog tab D49 (cAt [1, 1, 1, 1] (bodyOf Try.f49))) (retF tab [.tmp 6] K))) [7, 35] [v0, v1, AV.any, AV.any, AV.any, AV.any, AV.any, v7, AV.any, AV.any, AV.any, AV.any, AV.any, AV.any, AV.any, AV.any, AV.any, AV.any, AV.any, AV.any, AV.any, AV.any, AV.any, AV.any, AV.any, AV.any, AV.any, AV.any, AV.any, AV.any, AV.any, AV.any, AV.any, v33, v34, v35, AV.any, AV.any, AV.any, AV.any, AV.any, AV.any, AV.any, AV.any, AV.any, AV.any, AV.any, AV.any, AV.any, AV.any, AV.any, AV.any, AV.any, AV.any, AV.any, AV.any, AV.any, AV.any, AV.any, AV.any, AV.any, AV.any, AV.any, AV.any, AV.any, AV.any, AV.any, AV.any, AV.any, AV.any, AV.any, AV.any, AV.any, AV.any, AV.any, AV.any, AV.any, AV.any, AV.any, AV.any] H
def B49_0 (K : AV → Heap → Prop) (N1 : AV → AV → Heap → Prop) (v0 : AV) (v1 : AV) (v7 : AV) (v33 : AV) (v34 : AV) (v35 : AV) (H : Heap) : Prop :=
 binV tab .lss 3 v35 v34 fun v36 =>
 condV v36 (indexAddrV tab 28 v33 v35 fun v37 =>
 loadV tab 48 v37 H fun v38 =>
 allocV tab 48 H fun v9 H4 =>
 storeV tab 48 v9 v38 H4 fun H5 =>
 fieldAddrV tab 48 v9 0 fun v40 =>
 loadV tab 3 v40 H5 fun v41 =>
 CallT Try.prog 64 [v41] H5 fun v42 H6 =>
 extractV v42 0 fun v43 =>
 extractV v42 1 fun v44 =>
 extractV v42 2 fun v45 =>
 allocV tab 3 H6 fun v11 H7 =>
 storeV tab 3 v11 v44 H7 fun H8 =>
 lenV tab 87 v7 fun v47 =>
 binV tab .sub 3 v47 v43 fun v49 =>
 binV tab .eql 3 v45 (AV.p (.int .i64 0)) fun v51 =>
 grdV v51 false (loadV tab 48 v9 H8 fun v55 =>
 CallT Try.prog 65 [v0, v1, v55] H8 fun v56 H9 =>
 unV .not v56 fun v57 =>
 grdV v57 false (binV tab .lss 3 v49 (AV.p (.int .i64 0)) fun v61 =>
 grdV v61 false (sliceV tab 87 v7 (some v49) none none fun v66 =>
 CallT Try.prog 66 [v66, (.fn 67 [v11])] H9 fun v68 H10 =>
 condV v68 (K (AV.p (.bool false)) H10)
 (sliceV tab 87 v7 none (some v49) none fun v72 =>
 buildSliceV tab 87 1 [(0, v45)] H10 (wkK fun v74 H11 =>
 appendV tab 87 87 v72 v74 H11 (wkK fun v75 H12 =>
 binV tab .add 3 v35 (AV.p (.int .i64 1)) fun v76 =>
 N1 v75 v76 H12))))
 (K (AV.p (.bool false)) H9))
 (K (AV.p (.bool false)) H9))
 (K (AV.p (.bool false)) H8))
 (lenV tab 87 v7 fun v78 =>
 binV tab .eql 3 v78 (AV.p (.int .i64 1)) fun v79 =>
 K v79 H)
def W49 (v0 : AV) (v1 : AV) (v2 : AV) (H : Heap) (K : AV → Heap → Prop) : Prop :=
 CallT Try.prog 55 [v0] H fun v15 H1 =>
 unV .not v15 fun v16 =>
 grdV v16 false (CallT Try.prog 56 [v1] H1 fun v19 H2 =>
 unV .not v19 fun v20 =>
 grdV v20 false (lenV tab 28 v2 fun v24 =>
 binV tab .lss 3 v24 (AV.p (.int .i64 1)) fun v25 =>
 grdV v25 false (lenV tab 28 v2 fun v29 =>
 binV tab .gtr 3 v29 (AV.p (.int .i64 48)) fun v30 =>
 condV v30 (K (AV.p (.bool false)) H2)
 (buildSliceV tab 87 0 [] H2 (wkK fun v32 H3 =>
 lenV tab 28 v2 fun v34 =>
 L49_0 K v0 v1 v32 v2 v34 (AV.p (.int .i64 0)) H3)))
 (K (AV.p (.bool false)) H2))
 (K (AV.p (.bool false)) H2))
 (K (AV.p (.bool false)) H1)
theorem W49_wp (v0 : AV) (v1 : AV) (v2 : AV) (H : Heap) (K : AV → Heap → Prop) : wpC Try.prog tab D49 (bodyOf Try.f49) (retF tab [.tmp 6] K) (nthA [v0, v1, v2]) H = W49 v0 v1 v2 H K := by kernel_rfl
theorem W49_ok {v0 v1 v2 : AV} {H : Heap} {K : AV → Heap → Prop} (h : W49 v0 v1 v2 H K) : CallT Try.prog 49 [v0, v1, v2] H K :=
  CallT.of_wp (D := D49) tab_ok mixed Try.func49 (c := bodyOf Try.f49) (by kernel_rfl) rfl (by kernel_rfl) (rs := #[.tmp 6]) rfl (by decide +kernel) (by kernel_rfl) (W49_wp v0 v1 v2 H K) h
theorem W49_hb : HasBody Try.prog 49 := ⟨_, bodyOf Try.f49, Try.func49, by kernel_rfl, rfl⟩
theorem L49_0_rule {K : AV → Heap → Prop} {v0 v1 v7 v33 v34 v35 : AV} {H : Heap} {σ : Type} (s0 : σ) (f7 : σ → AV) (f35 : σ → AV) (TH : σ → Heap) (pre : σ → Prop) (μ : σ → Nat)
    (h0 : pre s0 ∧ AV.wk v7 (f7 s0) ∧ AV.wk v35 (f35 s0) ∧ Heap.le (TH s0) H)
    (round : ∀ s, pre s → B49_0 K (fun w7 w35 H' => ∃ s', pre s' ∧ μ s' < μ s ∧ AV.wk w7 (f7 s') ∧ AV.wk w35 (f35 s') ∧ Heap.le (TH s') H') v0 v1 (f7 s) v33 v34 (f35 s) (TH s)) :
    L49_0 K v0 v1 v7 v33 v34 v35 H := by
  unfold L49_0
  exact LoopV.mk s0 (fun s => [f7 s, f35 s]) TH pre μ (fun _ => rfl) (Eq.mp (by kernel_rfl) h0) (fun s hs => Eq.mp (by kernel_rfl) (round s hs))
theorem L49_0_ruleG {K : AV → Heap → Prop} {v0 v1 v7 v33 v34 v35 : AV} {H : Heap} {σ : Type} (s0 : σ) (f7 : σ → AV) (f35 : σ → AV) (TH : σ → Heap) (pre : σ → Prop) (μ : σ → Nat)
    (h0 : pre s0 ∧ AV.wk v7 (f7 s0) ∧ AV.wk v35 (f35 s0) ∧ Heap.le (TH s0) H)
    (round : ∀ s, pre s → ∀ q, TH s q = none → B49_0 K (fun w7 w35 H' => ∃ s', pre s' ∧ μ s' < μ s ∧ AV.wk w7 (f7 s') ∧ AV.wk w35 (f35 s') ∧ Heap.le (TH s') H') v0 v1 (f7 s) v33 v34 (f35 s) ((TH s).set q [])) :
    L49_0 K v0 v1 v7 v33 v34 v35 H := by
  unfold L49_0
  exact LoopV.mkG s0 (fun s => [f7 s, f35 s]) TH pre μ (fun _ => rfl) (Eq.mp (by kernel_rfl) h0) (fun s hs q hq => Eq.mp (by kernel_rfl) (round s hs q hq))
/-- slices.Grow[[]loop.example/g00649/impl.Node,loop.example/g00649/impl.Node] -/
def D50 : Info := ⟨27, fun i => ([], []), fun i => ([], [])⟩
def W50 (v0 : AV) (v1 : AV) (H : Heap) (K : AV → Heap → Prop) : Prop :=
 binV tab .lss 3 v1 (AV.p (.int .i64 0)) fun v6 =>
 condV v6 (False)
 (capV tab 28 v0 fun v10 =>
 lenV tab 28 v0 fun v12 =>
 binV tab .sub 3 v10 v12 fun v13 =>
 binV tab .sub 3 v1 v13 fun v14 =>
 binV tab .gtr 3 v14 (AV.p (.int .i64 0)) fun v16 =>
 condV v16 (capV tab 28 v0 fun v19 =>
 sliceV tab 28 v0 none (some v19) none fun v20 =>
 appendV tab 28 3 v20 v14 H (wkK fun v22 H1 =>
 lenV tab 28 v0 fun v24 =>
 sliceV tab 28 v22 none (some v24) none fun v25 =>
 K v25 H1))
 (K v0 H))
theorem W50_wp (v0 : AV) (v1 : AV) (H : Heap) (K : AV → Heap → Prop) : wpC Try.prog tab D50 (bodyOf Try.f50) (retF tab [.tmp 4] K) (nthA [v0, v1]) H = W50 v0 v1 H K := by kernel_rfl
theorem W50_ok {v0 v1 : AV} {H : Heap} {K : AV → Heap → Prop} (h : W50 v0 v1 H K) : CallT Try.prog 50 [v0, v1] H K :=
  CallT.of_wp (D := D50) tab_ok mixed Try.func50 (c := bodyOf Try.f50) (by kernel_rfl) rfl (by kernel_rfl) (rs := #[.tmp 4]) rfl (by decide +kernel) (by kernel_rfl) (W50_wp v0 v1 H K) h
theorem W50_hb : HasBody Try.prog 50 := ⟨_, bodyOf Try.f50, Try.func50, by kernel_rfl, rfl⟩
/-- loop.example/g00649/laws.szChangeS -/
def D51 : Info := ⟨27, fun i => ([], []), fun i => if i = 5 then ([0], [1, 5]) else ([], [])⟩
def L51_0 (K : AV → Heap → Prop) (v0 : AV) (v1 : AV) (v5 : AV) (H : Heap) : Prop := LoopV (wpC Try.prog tab D51 (cAt [1, 1, 1, 0, 1, 0, 0] (bodyOf Try.f51))) [0] (PostF.block 0 (PostF.thenA (wpC Try.prog tab D51 (cAt [1, 1, 1, 1] (bodyOf Try.f51))) (retF tab [.tmp 4] K))) [1, 5] [v0, v1, AV.any, AV.any, AV.any, v5, AV.any, AV.any, AV.any, AV.any, AV.any, AV.any, AV.any, AV.any, AV.any, AV.any, AV.any, AV.any, AV.any, AV.any, AV.any, AV.any, AV.any, AV.any, AV.any, AV.any, AV.any] H
def B51_0 (K : AV → Heap → Prop) (N1 : AV → AV → Heap → Prop) (v0 : AV) (v1 : AV) (v5 : AV) (H : Heap) : Prop :=
 lenV tab 61 v0 fun v14 =>
 binV tab .lss 3 v5 v14 fun v15 =>
 condV v15 (indexAddrV tab 61 v0 v5 fun v20 =>
 loadV tab 94 v20 H fun v21 =>
 CallT Try.prog 68 [v21, v1] H fun v23 H1 =>
 binV tab .lss 3 v23 (AV.p (.int .i64 0)) fun v25 =>
 condV v25 (K (AV.p (.int .i64 (-1))) H1)
 (binV tab .add 3 v5 (AV.p (.int .i64 1)) fun v17 =>
 N1 v23 v17 H1))
 (K v1 H)
def W51 (v0 : AV) (v1 : AV) (H : Heap) (K : AV → Heap → Prop) : Prop :=
 lenV tab 61 v0 fun v8 =>
 binV tab .sub 3 v1 v8 fun v9 =>
 binV tab .lss 3 v9 (AV.p (.int .i64 0)) fun v11 =>
 condV v11 (K (AV.p (.int .i64 (-1))) H)
 (L51_0 K v0 v9 (AV.p (.int .i64 0)) H)
theorem W51_wp (v0 : AV) (v1 : AV) (H : Heap) (K : AV → Heap → Prop) : wpC Try.prog tab D51 (bodyOf Try.f51) (retF tab [.tmp 4] K) (nthA [v0, v1]) H = W51 v0 v1 H K := by kernel_rfl
theorem W51_ok {v0 v1 : AV} {H : Heap} {K : AV → Heap → Prop} (h : W51 v0 v1 H K) : CallT Try.prog 51 [v0, v1] H K :=
  CallT.of_wp (D := D51) tab_ok mixed Try.func51 (c := bodyOf Try.f51) (by kernel_rfl) rfl (by kernel_rfl) (rs := #[.tmp 4]) rfl (by decide +kernel) (by kernel_rfl) (W51_wp v0 v1 H K) h
theorem W51_hb : HasBody Try.prog 51 := ⟨_, bodyOf Try.f51, Try.func51, by kernel_rfl, rfl⟩
theorem L51_0_rule {K : AV → Heap → Prop} {v0 v1 v5 : AV} {H : Heap} {σ : Type} (s0 : σ) (f1 : σ → AV) (f5 : σ → AV) (TH : σ → Heap) (pre : σ → Prop) (μ : σ → Nat)
    (h0 : pre s0 ∧ AV.wk v1 (f1 s0) ∧ AV.wk v5 (f5 s0) ∧ Heap.le (TH s0) H)
    (round : ∀ s, pre s → B51_0 K (fun w1 w5 H' => ∃ s', pre s' ∧ μ s' < μ s ∧ AV.wk w1 (f1 s') ∧ AV.wk w5 (f5 s') ∧ Heap.le (TH s') H') v0 (f1 s) (f5 s) (TH s)) :
    L51_0 K v0 v1 v5 H := by
  unfold L51_0
  exact LoopV.mk s0 (fun s => [f1 s, f5 s]) TH pre μ (fun _ => rfl) (Eq.mp (by kernel_rfl) h0) (fun s hs => Eq.mp (by kernel_rfl) (round s hs))
theorem L51_0_ruleG {K : AV → Heap → Prop} {v0 v1 v5 : AV} {H : Heap} {σ : Type} (s0 : σ) (f1 : σ → AV) (f5 : σ → AV) (TH : σ → Heap) (pre : σ → Prop) (μ : σ → Nat)
    (h0 : pre s0 ∧ AV.wk v1 (f1 s0) ∧ AV.wk v5 (f5 s0) ∧ Heap.le (TH s0) H)
    (round : ∀ s, pre s → ∀ q, TH s q = none → B51_0 K (fun w1 w5 H' => ∃ s', pre s' ∧ μ s' < μ s ∧ AV.wk w1 (f1 s') ∧ AV.wk w5 (f5 s') ∧ Heap.le (TH s') H') v0 (f1 s) (f5 s) ((TH s).set q [])) :
    L51_0 K v0 v1 v5 H := by
  unfold L51_0
  exact LoopV.mkG s0 (fun s => [f1 s, f5 s]) TH pre μ (fun _ => rfl) (Eq.mp (by kernel_rfl) h0) (fun s hs q hq => Eq.mp (by kernel_rfl) (round s hs q hq))
/-- loop.example/g00649/spec.l7Command -/
def D52 : Info := ⟨62, fun i => if i = 6 then ([[], [0], [], [2], [2, 3], [0, 1, 2, 3, 4], [0, 1, 2, 3, 4, 5], [0, 1, 2, 3, 4, 5, 6], [0, 1, 2, 3, 4, 5, 6, 7], [0, 1, 2, 3, 4, 5, 6, 7, 8], [0, 1, 2, 3, 4, 5, 6, 7, 8, 9], [0, 1, 2, 3, 4, 5, 6, 7, 8, 9, 10], [0, 1, 2, 3, 4, 5, 6, 7, 8, 9, 10, 11], [0, 1, 2, 3, 4, 5, 6, 7, 8, 9, 10], [0, 1, 2, 3, 4, 5, 6, 7, 8, 9, 10, 13], [0, 1, 2, 3, 4, 5, 6, 7, 8, 9, 10, 11, 12, 13, 14], [0, 1, 2, 3, 4, 5, 6, 7, 8, 9, 10, 11, 12, 13, 14, 15], [0, 1, 2, 3, 4, 5, 6, 7, 8, 9, 10, 11, 12, 13, 14, 15, 16], [0, 1, 2, 3, 4, 5, 6, 7, 8, 9, 10], [0, 1, 2, 3, 4, 5, 6, 7, 8, 9, 10, 18], [0, 1, 2, 3, 4, 5, 6, 7, 8, 9, 10, 11, 12, 13, 14, 15, 16, 17, 18, 19], [0, 1, 2, 3, 4, 5, 6, 7, 8, 9, 10, 11, 12, 13, 14, 15, 16, 17, 18, 19, 20], [0, 1, 2, 3, 4, 5, 6, 7, 8, 9, 10, 11, 12, 13, 14, 15, 16, 17, 18, 19, 20, 21], [0, 1, 2, 3, 4, 5, 6, 7, 8, 9, 10, 11, 12, 13, 14, 15, 16, 17, 18, 19, 20, 21, 22], [0, 1, 2, 3, 4, 5, 6, 7, 8, 9, 10, 11, 12, 13, 14, 15, 16, 17, 18, 19, 20, 21, 22, 23], [0, 1, 2, 3, 4, 5, 6, 7, 8, 9, 10, 11, 12, 13, 14, 15, 16, 17, 18, 19, 20, 21, 22, 23, 24], [0, 1, 2, 3, 4, 5, 6, 7, 8, 9, 10, 11, 12, 13, 14, 15, 16, 17, 18, 19, 20, 21, 22, 23], [0, 1, 2, 3, 4, 5, 6, 7, 8, 9, 10, 11, 12, 13, 14, 15, 16, 17, 18, 19, 20, 21, 22, 23, 26], [0, 1, 2, 3, 4, 5, 6, 7, 8, 9, 10, 11, 12, 13, 14, 15, 16, 17, 18, 19, 20, 21, 22, 23], [0, 1, 2, 3, 4, 5, 6, 7, 8, 9, 10, 11, 12, 13, 14, 15, 16, 17, 18, 19, 20, 21, 22, 23, 28], [0, 1, 2, 3, 4, 5, 6, 7, 8, 9, 10, 11, 12, 13, 14, 15, 16, 17, 18, 19, 20, 21, 22, 23, 24, 25, 26, 27, 28, 29], [0, 1, 2, 3, 4, 5, 6, 7, 8, 9, 10, 11, 12, 13, 14, 15, 16, 17, 18, 19, 20, 21, 22, 23, 24, 25, 26, 27, 28, 29, 30], [0, 1, 2, 3, 4, 5, 6, 7, 8, 9, 10, 11, 12, 13, 14, 15, 16, 17, 18, 19, 20, 21, 22, 23, 24, 25, 26, 27, 28, 29, 30, 31]], [(0, []), (1, []), (2, []), (3, []), (4, []), (5, []), (6, []), (7, []), (8, []), (9, []), (10, []), (11, []), (12, []), (13, []), (14, []), (15, []), (16, []), (17, []), (18, []), (19, []), (20, []), (21, []), (22, []), (23, []), (24, []), (25, []), (26, []), (27, []), (28, []), (29, []), (30, []), (31, []), (32, [])]) else ([], []), fun i => if i = 4 then ([2, 3, 21, 22], [23]) else ([], [])⟩
def L52_0 (K : AV → Heap → Prop) (v2 : AV) (v3 : AV) (v21 : AV) (v22 : AV) (v23 : AV) (H : Heap) : Prop := LoopV (wpC Try.prog tab D52 (cAt [1, 1, 0, 1, 0, 0] (bodyOf Try.f52))) [2, 3, 21, 22] (PostF.block 0 (PostF.thenA (wpC Try.prog tab D52 (cAt [1, 1, 1] (bodyOf Try.f52))) (retF tab [.tmp 4] K))) [23] [AV.any, AV.any, v2, v3, AV.any, AV.any, AV.any, AV.any, AV.any, AV.any, AV.any, AV.any, AV.any, AV.any, AV.any, AV.any, AV.any, AV.any, AV.any, AV.any, AV.any, v21, v22, v23, AV.any, AV.any, AV.any, AV.any, AV.any, AV.any, AV.any, AV.any, AV.any, AV.any, AV.any, AV.any, AV.any, AV.any, AV.any, AV.any, AV.any, AV.any, AV.any, AV.any, AV.any, AV.any, AV.any, AV.any, AV.any, AV.any, AV.any, AV.any, AV.any, AV.any, AV.any, AV.any, AV.any, AV.any, AV.any, AV.any, AV.any, AV.any] H
def B52_0 (K : AV → Heap → Prop) (N1 : AV → Heap → Prop) (v2 : AV) (v3 : AV) (v21 : AV) (v22 : AV) (v23 : AV) (H : Heap) : Prop :=
 binV tab .lss 3 v23 v22 fun v24 =>
 condV v24 (indexAddrV tab 55 v21 v23 fun v26 =>
 loadV tab 69 v26 H fun v27 =>
 allocV tab 69 H fun v6 H4 =>
 storeV tab 69 v6 v27 H4 fun H5 =>
 fieldAddrV tab 69 v6 0 fun v28 =>
 loadV tab 3 v28 H5 fun v29 =>
 fieldAddrV tab 33 v2 1 fun v30 =>
 loadV tab 3 v30 H5 fun v31 =>
 binV tab .sub 3 v31 (AV.p (.int .i64 1)) fun v32 =>
 CallT Try.prog 38 [v29, (AV.p (.int .i64 0)), v32] H5 fun v33 H6 =>
 unV .not v33 fun v34 =>
 grdV v34 false (binV tab .gtr 3 v23 (AV.p (.int .i64 0)) fun v37 =>
 grdV v37 true (fieldAddrV tab 57 v3 1 fun v39 =>
 loadV tab 55 v39 H6 fun v40 =>
 binV tab .sub 3 v23 (AV.p (.int .i64 1)) fun v42 =>
 indexAddrV tab 55 v40 v42 fun v43 =>
 fieldAddrV tab 69 v43 0 fun v44 =>
 loadV tab 3 v44 H6 fun v45 =>
 fieldAddrV tab 69 v6 0 fun v46 =>
 loadV tab 3 v46 H6 fun v47 =>
 binV tab .geq 3 v45 v47 fun v48 =>
 grdV v48 false (fieldAddrV tab 33 v2 0 fun v52 =>
 loadV tab 3 v52 H6 fun v53 =>
 fieldAddrV tab 33 v2 1 fun v54 =>
 loadV tab 3 v54 H6 fun v55 =>
 fieldAddrV tab 69 v6 1 fun v56 =>
 loadV tab 28 v56 H6 fun v57 =>
 CallT Try.prog 53 [v53, v55, v57] H6 fun v58 H7 =>
 binV tab .neq 3 v58 (AV.p (.int .i64 1)) fun v59 =>
 condV v59 (K (AV.p (.bool false)) H7)
 (binV tab .add 3 v23 (AV.p (.int .i64 1)) fun v61 =>
 N1 v61 H7))
 (K (AV.p (.bool false)) H6))
 (fieldAddrV tab 33 v2 0 fun v52 =>
 loadV tab 3 v52 H6 fun v53 =>
 fieldAddrV tab 33 v2 1 fun v54 =>
 loadV tab 3 v54 H6 fun v55 =>
 fieldAddrV tab 69 v6 1 fun v56 =>
 loadV tab 28 v56 H6 fun v57 =>
 CallT Try.prog 53 [v53, v55, v57] H6 fun v58 H8 =>
 binV tab .neq 3 v58 (AV.p (.int .i64 1)) fun v59 =>
 condV v59 (K (AV.p (.bool false)) H8)
 (binV tab .add 3 v23 (AV.p (.int .i64 1)) fun v61 =>
 N1 v61 H8)))
 (K (AV.p (.bool false)) H6))
 (K (AV.p (.bool true)) H)
def W52 (v0 : AV) (v1 : AV) (H : Heap) (K : AV → Heap → Prop) : Prop :=
 boxV v0 H fun v2 H1 =>
 boxV v1 H1 fun v3 H2 =>
 loadV tab 33 v2 H2 fun v7 =>
 fieldAddrV tab 57 v3 0 fun v8 =>
 loadV tab 28 v8 H2 fun v9 =>
 CallT Try.prog 39 [v7, v9] H2 fun v10 H3 =>
 unV .not v10 fun v11 =>
 grdV v11 false (fieldAddrV tab 57 v3 1 fun v13 =>
 loadV tab 55 v13 H3 fun v14 =>
 lenV tab 55 v14 fun v15 =>
 fieldAddrV tab 33 v2 1 fun v16 =>
 loadV tab 3 v16 H3 fun v17 =>
 binV tab .gtr 3 v15 v17 fun v18 =>
 condV v18 (K (AV.p (.bool false)) H3)
 (fieldAddrV tab 57 v3 1 fun v20 =>
 loadV tab 55 v20 H3 fun v21 =>
 lenV tab 55 v21 fun v22 =>
 L52_0 K v2 v3 v21 v22 (AV.p (.int .i64 0)) H3))
 (K (AV.p (.bool false)) H3)
theorem W52_wp (v0 : AV) (v1 : AV) (H : Heap) (K : AV → Heap → Prop) : wpC Try.prog tab D52 (bodyOf Try.f52) (retF tab [.tmp 4] K) (nthA [v0, v1]) H = W52 v0 v1 H K := by kernel_rfl
theorem W52_ok {v0 v1 : AV} {H : Heap} {K : AV → Heap → Prop} (h : W52 v0 v1 H K) : CallT Try.prog 52 [v0, v1] H K :=
  CallT.of_wp (D := D52) tab_ok mixed Try.func52 (c := bodyOf Try.f52) (by kernel_rfl) rfl (by kernel_rfl) (rs := #[.tmp 4]) rfl (by decide +kernel) (by kernel_rfl) (W52_wp v0 v1 H K) h
theorem W52_hb : HasBody Try.prog 52 := ⟨_, bodyOf Try.f52, Try.func52, by kernel_rfl, rfl⟩
theorem L52_0_rule {K : AV → Heap → Prop} {v2 v3 v21 v22 v23 : AV} {H : Heap} {σ : Type} (s0 : σ) (f23 : σ → AV) (TH : σ → Heap) (pre : σ → Prop) (μ : σ → Nat)
    (h0 : pre s0 ∧ AV.wk v23 (f23 s0) ∧ Heap.le (TH s0) H)
    (round : ∀ s, pre s → B52_0 K (fun w23 H' => ∃ s', pre s' ∧ μ s' < μ s ∧ AV.wk w23 (f23 s') ∧ Heap.le (TH s') H') v2 v3 v21 v22 (f23 s) (TH s)) :
    L52_0 K v2 v3 v21 v22 v23 H := by
  unfold L52_0
  exact LoopV.mk s0 (fun s => [f23 s]) TH pre μ (fun _ => rfl) (Eq.mp (by kernel_rfl) h0) (fun s hs => Eq.mp (by kernel_rfl) (round s hs))
theorem L52_0_ruleG {K : AV → Heap → Prop} {v2 v3 v21 v22 v23 : AV} {H : Heap} {σ : Type} (s0 : σ) (f23 : σ → AV) (TH : σ → Heap) (pre : σ → Prop) (μ : σ → Nat)
    (h0 : pre s0 ∧ AV.wk v23 (f23 s0) ∧ Heap.le (TH s0) H)
    (round : ∀ s, pre s → ∀ q, TH s q = none → B52_0 K (fun w23 H' => ∃ s', pre s' ∧ μ s' < μ s ∧ AV.wk w23 (f23 s') ∧ Heap.le (TH s') H') v2 v3 v21 v22 (f23 s) ((TH s).set q [])) :
    L52_0 K v2 v3 v21 v22 v23 H := by
  unfold L52_0
  exact LoopV.mkG s0 (fun s => [f23 s]) TH pre μ (fun _ => rfl) (Eq.mp (by kernel_rfl) h0) (fun s hs q hq => Eq.mp (by kernel_rfl) (round s hs q hq))
/-- loop.example/g00649/spec.l2Kind -/
def D53 : Info := ⟨83, fun i => ([], []), fun i => if i = 5 then ([0, 1, 27, 28], [7, 29]) else if i = 10 then ([0, 1, 11, 12, 27, 28, 29], [7, 10]) else ([], [])⟩
def L53_0 (K : AV → Heap → Prop) (v0 : AV) (v1 : AV) (v7 : AV) (v27 : AV) (v28 : AV) (v29 : AV) (H : Heap) : Prop := LoopV (wpC Try.prog tab D53 (cAt [1, 1, 1, 0, 1, 0, 0] (bodyOf Try.f53))) [0, 1, 27, 28] (PostF.block 0 (PostF.thenA (wpC Try.prog tab D53 (cAt [1, 1, 1, 1] (bodyOf Try.f53))) (retF tab [.tmp 6] K))) [7, 29] [v0, v1, AV.any, AV.any, AV.any, AV.any, AV.any, v7, AV.any, AV.any, AV.any, AV.any, AV.any, AV.any, AV.any, AV.any, AV.any, AV.any, AV.any, AV.any, AV.any, AV.any, AV.any, AV.any, AV.any, AV.any, AV.any, v27, v28, v29, AV.any, AV.any, AV.any, AV.any, AV.any, AV.any, AV.any, AV.any, AV.any, AV.any, AV.any, AV.any, AV.any, AV.any, AV.any, AV.any, AV.any, AV.any, AV.any, AV.any, AV.any, AV.any, AV.any, AV.any, AV.any, AV.any, AV.any, AV.any, AV.any, AV.any, AV.any, AV.any, AV.any, AV.any, AV.any, AV.any, AV.any, AV.any, AV.any, AV.any, AV.any, AV.any, AV.any, AV.any, AV.any, AV.any, AV.any, AV.any, AV.any, AV.any, AV.any, AV.any, AV.any] H
def L53_1 (K : AV → Heap → Prop) (N1 : AV → AV → Heap → Prop) (v0 : AV) (v1 : AV) (v7 : AV) (v10 : AV) (v11 : AV) (v12 : AV) (v27 : AV) (v28 : AV) (v29 : AV) (H : Heap) : Prop := LoopV (wpC Try.prog tab D53 (cAt [1, 1, 1, 0, 1, 0, 0, 1, 1, 0, 0, 1, 1, 1, 0, 0, 0] (bodyOf Try.f53))) [0, 1, 11, 12, 27, 28, 29] (PostF.block 2 (PostF.thenA (wpC Try.prog tab D53 (cAt [1, 1, 1, 0, 1, 0, 0, 1, 1, 0, 0, 1, 1, 1, 1] (bodyOf Try.f53))) (PostF.block 1 (PostF.thenA (wpC Try.prog tab D53 (cAt [1, 1, 1, 0, 1, 0, 0, 1, 1, 1] (bodyOf Try.f53))) (loopF (PostF.block 0 (PostF.thenA (wpC Try.prog tab D53 (cAt [1, 1, 1, 1] (bodyOf Try.f53))) (retF tab [.tmp 6] K))) (fun e h => N1 (e 7) (e 29) h)))))) [7, 10] [v0, v1, AV.any, AV.any, AV.any, AV.any, AV.any, v7, AV.any, AV.any, v10, v11, v12, AV.any, AV.any, AV.any, AV.any, AV.any, AV.any, AV.any, AV.any, AV.any, AV.any, AV.any, AV.any, AV.any, AV.any, v27, v28, v29, AV.any, AV.any, AV.any, AV.any, AV.any, AV.any, AV.any, AV.any, AV.any, AV.any, AV.any, AV.any, AV.any, AV.any, AV.any, AV.any, AV.any, AV.any, AV.any, AV.any, AV.any, AV.any, AV.any, AV.any, AV.any, AV.any, AV.any, AV.any, AV.any, AV.any, AV.any, AV.any, AV.any, AV.any, AV.any, AV.any, AV.any, AV.any, AV.any, AV.any, AV.any, AV.any, AV.any, AV.any, AV.any, AV.any, AV.any, AV.any, AV.any, AV.any, AV.any, AV.any, AV.any] H
def B53_1 (K : AV → Heap → Prop) (N1 : AV → AV → Heap → Prop) (N2 : AV → AV → Heap → Prop) (v0 : AV) (v1 : AV) (v7 : AV) (v10 : AV) (v11 : AV) (v12 : AV) (v27 : AV) (v28 : AV) (v29 : AV) (H : Heap) : Prop :=
 binV tab .gtr 3 v10 (AV.p (.int .i64 0)) fun v56 =>
 condV v56 (lenV tab 87 v7 fun v61 =>
 binV tab .sub 3 v61 (AV.p (.int .i64 1)) fun v62 =>
 indexAddrV tab 87 v7 v62 fun v63 =>
 loadV tab 3 v63 H fun v64 =>
 binV tab .neq 3 v64 v11 fun v66 =>
 condV v66 (K (AV.p (.int .i64 0)) H)
 (lenV tab 87 v7 fun v69 =>
 binV tab .sub 3 v69 (AV.p (.int .i64 1)) fun v70 =>
 sliceV tab 87 v7 none (some v70) none fun v71 =>
 binV tab .sub 3 v10 (AV.p (.int .i64 1)) fun v58 =>
 N2 v71 v58 H))
 (buildSliceV tab 87 1 [(0, v12)] H (wkK fun v74 H8 =>
 appendV tab 87 87 v7 v74 H8 (wkK fun v75 H9 =>
 binV tab .add 3 v29 (AV.p (.int .i64 1)) fun v76 =>
 N1 v75 v76 H9)))
def B53_0 (K : AV → Heap → Prop) (N1 : AV → AV → Heap → Prop) (v0 : AV) (v1 : AV) (v7 : AV) (v27 : AV) (v28 : AV) (v29 : AV) (H : Heap) : Prop :=
 binV tab .lss 3 v29 v28 fun v30 =>
 condV v30 (indexAddrV tab 28 v27 v29 fun v31 =>
 loadV tab 48 v31 H fun v32 =>
 allocV tab 48 H fun v9 H4 =>
 storeV tab 48 v9 v32 H4 fun H5 =>
 fieldAddrV tab 48 v9 0 fun v34 =>
 loadV tab 3 v34 H5 fun v35 =>
 CallT Try.prog 70 [v35] H5 fun v36 H6 =>
 extractV v36 0 fun v37 =>
 extractV v36 1 fun v38 =>
 extractV v36 2 fun v39 =>
 binV tab .eql 3 v39 (AV.p (.int .i64 0)) fun v41 =>
 grdV v41 false (loadV tab 48 v9 H6 fun v45 =>
 CallT Try.prog 71 [v0, v1, v45] H6 fun v46 H7 =>
 unV .not v46 fun v47 =>
 grdV v47 false (lenV tab 87 v7 fun v51 =>
 binV tab .lss 3 v51 v37 fun v53 =>
 condV v53 (K (AV.p (.int .i64 0)) H7)
 (L53_1 K N1 v0 v1 v7 v37 v38 v39 v27 v28 v29 H7))
 (K (AV.p (.int .i64 0)) H7))
 (K (AV.p (.int .i64 0)) H6))
 (lenV tab 87 v7 fun v78 =>
 binV tab .neq 3 v78 (AV.p (.int .i64 1)) fun v79 =>
 condV v79 (K (AV.p (.int .i64 0)) H)
 (indexAddrV tab 87 v7 (AV.p (.int .i64 0)) fun v81 =>
 loadV tab 3 v81 H fun v82 =>
 K v82 H))
def W53 (v0 : AV) (v1 : AV) (v2 : AV) (H : Heap) (K : AV → Heap → Prop) : Prop :=
 CallT Try.prog 69 [v0] H fun v14 H1 =>
 unV .not v14 fun v15 =>
 grdV v15 false (CallT Try.prog 38 [v1, (AV.p (.int .i64 1)), (AV.p (.int .i64 4))] H1 fun v18 H2 =>
 unV .not v18 fun v19 =>
 grdV v19 false (lenV tab 28 v2 fun v23 =>
 CallT Try.prog 38 [v23, (AV.p (.int .i64 1)), (AV.p (.int .i64 48))] H2 fun v24 H3 =>
 unV .not v24 fun v25 =>
 condV v25 (K (AV.p (.int .i64 0)) H3)
 (lenV tab 28 v2 fun v28 =>
 L53_0 K v0 v1 (AV.p .nil) v2 v28 (AV.p (.int .i64 0)) H3))
 (K (AV.p (.int .i64 0)) H2))
 (K (AV.p (.int .i64 0)) H1)
theorem W53_wp (v0 : AV) (v1 : AV) (v2 : AV) (H : Heap) (K : AV → Heap → Prop) : wpC Try.prog tab D53 (bodyOf Try.f53) (retF tab [.tmp 6] K) (nthA [v0, v1, v2]) H = W53 v0 v1 v2 H K := by kernel_rfl
theorem W53_ok {v0 v1 v2 : AV} {H : Heap} {K : AV → Heap → Prop} (h : W53 v0 v1 v2 H K) : CallT Try.prog 53 [v0, v1, v2] H K :=
  CallT.of_wp (D := D53) tab_ok mixed Try.func53 (c := bodyOf Try.f53) (by kernel_rfl) rfl (by kernel_rfl) (rs := #[.tmp 6]) rfl (by decide +kernel) (by kernel_rfl) (W53_wp v0 v1 v2 H K) h
theorem W53_hb : HasBody Try.prog 53 := ⟨_, bodyOf Try.f53, Try.func53, by kernel_rfl, rfl⟩
theorem L53_1_rule {K : AV → Heap → Prop} {N1 : AV → AV → Heap → Prop} {v0 v1 v7 v10 v11 v12 v27 v28 v29 : AV} {H : Heap} {σ : Type} (s0 : σ) (f7 : σ → AV) (f10 : σ → AV) (TH : σ → Heap) (pre : σ → Prop) (μ : σ → Nat)
    (h0 : pre s0 ∧ AV.wk v7 (f7 s0) ∧ AV.wk v10 (f10 s0) ∧ Heap.le (TH s0) H)
    (round : ∀ s, pre s → B53_1 K N1 (fun w7 w10 H' => ∃ s', pre s' ∧ μ s' < μ s ∧ AV.wk w7 (f7 s') ∧ AV.wk w10 (f10 s') ∧ Heap.le (TH s') H') v0 v1 (f7 s) (f10 s) v11 v12 v27 v28 v29 (TH s)) :
    L53_1 K N1 v0 v1 v7 v10 v11 v12 v27 v28 v29 H := by
  unfold L53_1
  exact LoopV.mk s0 (fun s => [f7 s, f10 s]) TH pre μ (fun _ => rfl) (Eq.mp (by kernel_rfl) h0) (fun s hs => Eq.mp (by kernel_rfl) (round s hs))
theorem L53_1_ruleG {K : AV → Heap → Prop} {N1 : AV → AV → Heap → Prop} {v0 v1 v7 v10 v11 v12 v27 v28 v29 : AV} {H : Heap} {σ : Type} (s0 : σ) (f7 : σ → AV) (f10 : σ → AV) (TH : σ → Heap) (pre : σ → Prop) (μ : σ → Nat)
    (h0 : pre s0 ∧ AV.wk v7 (f7 s0) ∧ AV.wk v10 (f10 s0) ∧ Heap.le (TH s0) H)
    (round : ∀ s, pre s → ∀ q, TH s q = none → B53_1 K N1 (fun w7 w10 H' => ∃ s', pre s' ∧ μ s' < μ s ∧ AV.wk w7 (f7 s') ∧ AV.wk w10 (f10 s') ∧ Heap.le (TH s') H') v0 v1 (f7 s) (f10 s) v11 v12 v27 v28 v29 ((TH s).set q [])) :
    L53_1 K N1 v0 v1 v7 v10 v11 v12 v27 v28 v29 H := by
  unfold L53_1
  exact LoopV.mkG s0 (fun s => [f7 s, f10 s]) TH pre μ (fun _ => rfl) (Eq.mp (by kernel_rfl) h0) (fun s hs q hq => Eq.mp (by kernel_rfl) (round s hs q hq))
theorem L53_0_rule {K : AV → Heap → Prop} {v0 v1 v7 v27 v28 v29 : AV} {H : Heap} {σ : Type} (s0 : σ) (f7 : σ → AV) (f29 : σ → AV) (TH : σ → Heap) (pre : σ → Prop) (μ : σ → Nat)
    (h0 : pre s0 ∧ AV.wk v7 (f7 s0) ∧ AV.wk v29 (f29 s0) ∧ Heap.le (TH s0) H)
    (round : ∀ s, pre s → B53_0 K (fun w7 w29 H' => ∃ s', pre s' ∧ μ s' < μ s ∧ AV.wk w7 (f7 s') ∧ AV.wk w29 (f29 s') ∧ Heap.le (TH s') H') v0 v1 (f7 s) v27 v28 (f29 s) (TH s)) :
    L53_0 K v0 v1 v7 v27 v28 v29 H := by
  unfold L53_0
  exact LoopV.mk s0 (fun s => [f7 s, f29 s]) TH pre μ (fun _ => rfl) (Eq.mp (by kernel_rfl) h0) (fun s hs => Eq.mp (by kernel_rfl) (round s hs))
theorem L53_0_ruleG {K : AV → Heap → Prop} {v0 v1 v7 v27 v28 v29 : AV} {H : Heap} {σ : Type} (s0 : σ) (f7 : σ → AV) (f29 : σ → AV) (TH : σ → Heap) (pre : σ → Prop) (μ : σ → Nat)
    (h0 : pre s0 ∧ AV.wk v7 (f7 s0) ∧ AV.wk v29 (f29 s0) ∧ Heap.le (TH s0) H)
    (round : ∀ s, pre s → ∀ q, TH s q = none → B53_0 K (fun w7 w29 H' => ∃ s', pre s' ∧ μ s' < μ s ∧ AV.wk w7 (f7 s') ∧ AV.wk w29 (f29 s') ∧ Heap.le (TH s') H') v0 v1 (f7 s) v27 v28 (f29 s) ((TH s).set q [])) :
    L53_0 K v0 v1 v7 v27 v28 v29 H := by
  unfold L53_0
  exact LoopV.mkG s0 (fun s => [f7 s, f29 s]) TH pre μ (fun _ => rfl) (Eq.mp (by kernel_rfl) h0) (fun s hs q hq => Eq.mp (by kernel_rfl) (round s hs q hq))
/-- loop.example/g00649/laws.toChangeS -/
def D54 : Info := ⟨23, fun i => ([], []), fun i => if i = 3 then ([0, 3], [4]) else ([], [])⟩
def L54_0 (K : AV → Heap → Prop) (v0 : AV) (v3 : AV) (v4 : AV) (H : Heap) : Prop := LoopV (wpC Try.prog tab D54 (cAt [1, 1, 0, 1, 0, 0] (bodyOf Try.f54))) [0, 3] (PostF.block 0 (PostF.thenA (wpC Try.prog tab D54 (cAt [1, 1, 1] (bodyOf Try.f54))) (retF tab [.tmp 2] K))) [4] [v0, AV.any, AV.any, v3, v4, AV.any, AV.any, AV.any, AV.any, AV.any, AV.any, AV.any, AV.any, AV.any, AV.any, AV.any, AV.any, AV.any, AV.any, AV.any, AV.any, AV.any, AV.any] H
def B54_0 (K : AV → Heap → Prop) (N1 : AV → Heap → Prop) (v0 : AV) (v3 : AV) (v4 : AV) (H : Heap) : Prop :=
 lenV tab 61 v0 fun v10 =>
 binV tab .lss 3 v4 v10 fun v11 =>
 condV v11 (indexAddrV tab 61 v0 v4 fun v18 =>
 loadV tab 94 v18 H fun v19 =>
 CallT Try.prog 72 [v19] H fun v20 H2 =>
 indexAddrV tab 55 v3 v4 fun v21 =>
 storeV tab 69 v21 v20 H2 fun H3 =>
 binV tab .add 3 v4 (AV.p (.int .i64 1)) fun v13 =>
 N1 v13 H3)
 (K v3 H)
def W54 (v0 : AV) (H : Heap) (K : AV → Heap → Prop) : Prop :=
 lenV tab 61 v0 fun v6 =>
 makeSliceV tab 55 v6 v6 H fun v7 H1 =>
 L54_0 K v0 v7 (AV.p (.int .i64 0)) H1
theorem W54_wp (v0 : AV) (H : Heap) (K : AV → Heap → Prop) : wpC Try.prog tab D54 (bodyOf Try.f54) (retF tab [.tmp 2] K) (nthA [v0]) H = W54 v0 H K := by kernel_rfl
theorem W54_ok {v0 : AV} {H : Heap} {K : AV → Heap → Prop} (h : W54 v0 H K) : CallT Try.prog 54 [v0] H K :=
  CallT.of_wp (D := D54) tab_ok mixed Try.func54 (c := bodyOf Try.f54) (by kernel_rfl) rfl (by kernel_rfl) (rs := #[.tmp 2]) rfl (by decide +kernel) (by kernel_rfl) (W54_wp v0 H K) h
theorem W54_hb : HasBody Try.prog 54 := ⟨_, bodyOf Try.f54, Try.func54, by kernel_rfl, rfl⟩
theorem L54_0_rule {K : AV → Heap → Prop} {v0 v3 v4 : AV} {H : Heap} {σ : Type} (s0 : σ) (f4 : σ → AV) (TH : σ → Heap) (pre : σ → Prop) (μ : σ → Nat)
    (h0 : pre s0 ∧ AV.wk v4 (f4 s0) ∧ Heap.le (TH s0) H)
    (round : ∀ s, pre s → B54_0 K (fun w4 H' => ∃ s', pre s' ∧ μ s' < μ s ∧ AV.wk w4 (f4 s') ∧ Heap.le (TH s') H') v0 v3 (f4 s) (TH s)) :
    L54_0 K v0 v3 v4 H := by
  unfold L54_0
  exact LoopV.mk s0 (fun s => [f4 s]) TH pre μ (fun _ => rfl) (Eq.mp (by kernel_rfl) h0) (fun s hs => Eq.mp (by kernel_rfl) (round s hs))
theorem L54_0_ruleG {K : AV → Heap → Prop} {v0 v3 v4 : AV} {H : Heap} {σ : Type} (s0 : σ) (f4 : σ → AV) (TH : σ → Heap) (pre : σ → Prop) (μ : σ → Nat)
    (h0 : pre s0 ∧ AV.wk v4 (f4 s0) ∧ Heap.le (TH s0) H)
    (round : ∀ s, pre s → ∀ q, TH s q = none → B54_0 K (fun w4 H' => ∃ s', pre s' ∧ μ s' < μ s ∧ AV.wk w4 (f4 s') ∧ Heap.le (TH s') H') v0 v3 (f4 s) ((TH s).set q [])) :
    L54_0 K v0 v3 v4 H := by
  unfold L54_0
  exact LoopV.mkG s0 (fun s => [f4 s]) TH pre μ (fun _ => rfl) (Eq.mp (by kernel_rfl) h0) (fun s hs q hq => Eq.mp (by kernel_rfl) (round s hs q hq))
/-- loop.example/g00649/impl.isWide -/
def D55 : Info := ⟨9, fun i => ([], []), fun i => ([], [])⟩
def W55 (v0 : AV) (H : Heap) (K : AV → Heap → Prop) : Prop :=
 binV tab .geq 3 v0 (AV.p (.int .i64 1)) fun v4 =>
 grdV v4 true (binV tab .leq 3 v0 (AV.p (.int .i64 64)) fun v7 =>
 K v7 H)
 (K (AV.p (.bool false)) H)
theorem W55_wp (v0 : AV) (H : Heap) (K : AV → Heap → Prop) : wpC Try.prog tab D55 (bodyOf Try.f55) (retF tab [.tmp 2] K) (nthA [v0]) H = W55 v0 H K := by kernel_rfl
theorem W55_ok {v0 : AV} {H : Heap} {K : AV → Heap → Prop} (h : W55 v0 H K) : CallT Try.prog 55 [v0] H K :=
  CallT.of_wp (D := D55) tab_ok mixed Try.func55 (c := bodyOf Try.f55) (by kernel_rfl) rfl (by kernel_rfl) (rs := #[.tmp 2]) rfl (by decide +kernel) (by kernel_rfl) (W55_wp v0 H K) h
theorem W55_hb : HasBody Try.prog 55 := ⟨_, bodyOf Try.f55, Try.func55, by kernel_rfl, rfl⟩
/-- loop.example/g00649/impl.isVars -/
def D56 : Info := ⟨9, fun i => ([], []), fun i => ([], [])⟩
def W56 (v0 : AV) (H : Heap) (K : AV → Heap → Prop) : Prop :=
 binV tab .geq 3 v0 (AV.p (.int .i64 1)) fun v4 =>
 grdV v4 true (binV tab .leq 3 v0 (AV.p (.int .i64 4)) fun v7 =>
 K v7 H)
 (K (AV.p (.bool false)) H)
theorem W56_wp (v0 : AV) (H : Heap) (K : AV → Heap → Prop) : wpC Try.prog tab D56 (bodyOf Try.f56) (retF tab [.tmp 2] K) (nthA [v0]) H = W56 v0 H K := by kernel_rfl
theorem W56_ok {v0 : AV} {H : Heap} {K : AV → Heap → Prop} (h : W56 v0 H K) : CallT Try.prog 56 [v0] H K :=
  CallT.of_wp (D := D56) tab_ok mixed Try.func56 (c := bodyOf Try.f56) (by kernel_rfl) rfl (by kernel_rfl) (rs := #[.tmp 2]) rfl (by decide +kernel) (by kernel_rfl) (W56_wp v0 H K) h
theorem W56_hb : HasBody Try.prog 56 := ⟨_, bodyOf Try.f56, Try.func56, by kernel_rfl, rfl⟩
/-- slices.ContainsFunc[[]loop.example/g00649/impl.Command,loop.example/g00649/impl.Command] -/
def D57 : Info := ⟨9, fun i => ([], []), fun i => ([], [])⟩
def W57 (v0 : AV) (v1 : AV) (H : Heap) (K : AV → Heap → Prop) : Prop :=
 CallT Try.prog 73 [v0, v1] H fun v7 H1 =>
 binV tab .geq 3 v7 (AV.p (.int .i64 0)) fun v8 =>
 K v8 H1
theorem W57_wp (v0 : AV) (v1 : AV) (H : Heap) (K : AV → Heap → Prop) : wpC Try.prog tab D57 (bodyOf Try.f57) (retF tab [.tmp 4] K) (nthA [v0, v1]) H = W57 v0 v1 H K := by kernel_rfl
theorem W57_ok {v0 v1 : AV} {H : Heap} {K : AV → Heap → Prop} (h : W57 v0 v1 H K) : CallT Try.prog 57 [v0, v1] H K :=
  CallT.of_wp (D := D57) tab_ok mixed Try.func57 (c := bodyOf Try.f57) (by kernel_rfl) rfl (by kernel_rfl) (rs := #[.tmp 4]) rfl (by decide +kernel) (by kernel_rfl) (W57_wp v0 v1 H K) h
theorem W57_hb : HasBody Try.prog 57 := ⟨_, bodyOf Try.f57, Try.func57, by kernel_rfl, rfl⟩
/-- loop.example/g00649/impl.GoodProgram$1 -/
def D58 : Info := ⟨8, fun i => ([], []), fun i => ([], [])⟩
def W58 (v0 : AV) (v1 : AV) (H : Heap) (K : AV → Heap → Prop) : Prop :=
 boxV v0 H fun v2 H1 =>
 loadV tab 33 v1 H1 fun v4 =>
 loadV tab 57 v2 H1 fun v5 =>
 CallT Try.prog 59 [v4, v5] H1 fun v6 H2 =>
 unV .not v6 fun v7 =>
 K v7 H2
theorem W58_wp (v0 : AV) (v1 : AV) (H : Heap) (K : AV → Heap → Prop) : wpC Try.prog tab D58 (bodyOf Try.f58) (retF tab [.tmp 3] K) (nthA [v0, v1]) H = W58 v0 v1 H K := by kernel_rfl
theorem W58_ok {v0 v1 : AV} {H : Heap} {K : AV → Heap → Prop} (h : W58 v0 v1 H K) : CallT Try.prog 58 [v0, v1] H K :=
  CallT.of_wp (D := D58) tab_ok mixed Try.func58 (c := bodyOf Try.f58) (by kernel_rfl) rfl (by kernel_rfl) (rs := #[.tmp 3]) rfl (by decide +kernel) (by kernel_rfl) (W58_wp v0 v1 H K) h
theorem W58_hb : HasBody Try.prog 58 := ⟨_, bodyOf Try.f58, Try.func58, by kernel_rfl, rfl⟩
/-- (loop.example/g00649/impl.Program).isCommand -/
def D59 : Info := ⟨57, fun i => if i = 6 then ([[], [0], [0, 1], [0, 1, 2], [0, 1, 2, 3], [0, 1, 2, 3, 4], [0, 1, 2, 3], [0, 1, 2, 3, 6], [0, 1, 2, 3, 4, 5, 6, 7], [0, 1, 2, 3, 4, 5, 6, 7, 8], [0, 1, 2, 3, 4, 5, 6, 7, 8, 9], [0, 1, 2, 3, 4, 5, 6, 7, 8, 9, 10], [0, 1, 2, 3, 4, 5, 6, 7, 8, 9, 10, 11], [0, 1, 2, 3, 4, 5, 6, 7, 8, 9, 10, 11, 12], [0, 1, 2, 3, 4, 5, 6, 7, 8, 9, 10, 11, 12, 13], [0, 1, 2, 3, 4, 5, 6, 7, 8, 9, 10, 11, 12, 13, 14], [0, 1, 2, 3, 4, 5, 6, 7, 8, 9, 10, 11, 12, 13], [0, 1, 2, 3, 4, 5, 6, 7, 8, 9, 10, 11, 12, 13, 16], [0, 1, 2, 3, 4, 5, 6, 7, 8, 9, 10, 11, 12, 13, 14, 15, 16, 17], [0, 1, 2, 3, 4, 5, 6, 7, 8, 9, 10, 11, 12, 13, 14, 15, 16, 17, 18], [0, 1, 2, 3, 4, 5, 6, 7, 8, 9, 10, 11, 12, 13, 14, 15, 16, 17, 18, 19], [0, 1, 2, 3, 4, 5, 6, 7, 8, 9, 10, 11, 12, 13], [0, 1, 2, 3, 4, 5, 6, 7, 8, 9, 10, 11, 12, 13, 21], [0, 1, 2, 3, 4, 5, 6, 7, 8, 9, 10, 11, 12, 13, 14, 15, 16, 17, 18, 19, 20, 21, 22], [0, 1, 2, 3, 4, 5, 6, 7, 8, 9, 10, 11, 12, 13, 14, 15, 16, 17, 18, 19, 20, 21, 22, 23], [0, 1, 2, 3, 4, 5, 6, 7, 8, 9, 10, 11, 12, 13, 14, 15, 16, 17, 18, 19, 20, 21, 22, 23, 24], [0, 1, 2, 3, 4, 5, 6, 7, 8, 9, 10, 11, 12, 13, 14, 15, 16, 17, 18, 19, 20, 21, 22, 23, 24, 25], [0, 1, 2, 3, 4, 5, 6, 7, 8, 9, 10, 11, 12, 13, 14, 15, 16, 17, 18, 19, 20, 21, 22, 23, 24, 25, 26], [0, 1, 2, 3, 4, 5, 6, 7, 8, 9, 10, 11, 12, 13, 14, 15, 16, 17, 18, 19, 20, 21, 22, 23, 24, 25, 26, 27], [0, 1, 2, 3, 4, 5, 6, 7, 8, 9, 10, 11, 12, 13, 14, 15, 16, 17, 18, 19, 20, 21, 22, 23, 24, 25, 26], [0, 1, 2, 3, 4, 5, 6, 7, 8, 9, 10, 11, 12, 13, 14, 15, 16, 17, 18, 19, 20, 21, 22, 23, 24, 25, 26, 29], [0, 1, 2, 3, 4, 5, 6, 7, 8, 9, 10, 11, 12, 13, 14, 15, 16, 17, 18, 19, 20, 21, 22, 23, 24, 25, 26], [0, 1, 2, 3, 4, 5, 6, 7, 8, 9, 10, 11, 12, 13, 14, 15, 16, 17, 18, 19, 20, 21, 22, 23, 24, 25, 26, 31], [0, 1, 2, 3, 4, 5, 6, 7, 8, 9, 10, 11, 12, 13, 14, 15, 16, 17, 18, 19, 20, 21, 22, 23, 24, 25, 26, 27, 28, 29, 30, 31, 32], [0, 1, 2, 3, 4, 5, 6, 7, 8, 9, 10, 11, 12, 13, 14, 15, 16, 17, 18, 19, 20, 21, 22, 23, 24, 25, 26, 27, 28, 29, 30, 31, 32, 33], [0, 1, 2, 3, 4, 5, 6, 7, 8, 9, 10, 11, 12, 13, 14, 15, 16, 17, 18, 19, 20, 21, 22, 23, 24, 25, 26, 27, 28, 29, 30, 31, 32, 33, 34]], [(0, []), (1, []), (2, []), (3, []), (4, []), (5, []), (6, []), (7, []), (8, []), (9, []), (10, []), (11, []), (12, []), (13, []), (14, []), (15, []), (16, []), (17, []), (18, []), (19, []), (20, []), (21, []), (22, []), (23, []), (24, []), (25, []), (26, []), (27, []), (28, []), (29, []), (30, []), (31, []), (32, []), (33, []), (34, []), (35, [])]) else ([], []), fun i => if i = 4 then ([2, 3, 13, 14], [15]) else ([], [])⟩
def L59_0 (K : AV → Heap → Prop) (v2 : AV) (v3 : AV) (v13 : AV) (v14 : AV) (v15 : AV) (H : Heap) : Prop := LoopV (wpC Try.prog tab D59 (cAt [1, 1, 0, 1, 0, 0] (bodyOf Try.f59))) [2, 3, 13, 14] (PostF.block 0 (PostF.thenA (wpC Try.prog tab D59 (cAt [1, 1, 1] (bodyOf Try.f59))) (retF tab [.tmp 4] K))) [15] [AV.any, AV.any, v2, v3, AV.any, AV.any, AV.any, AV.any, AV.any, AV.any, AV.any, AV.any, AV.any, v13, v14, v15, AV.any, AV.any, AV.any, AV.any, AV.any, AV.any, AV.any, AV.any, AV.any, AV.any, AV.any, AV.any, AV.any, AV.any, AV.any, AV.any, AV.any, AV.any, AV.any, AV.any, AV.any, AV.any, AV.any, AV.any, AV.any, AV.any, AV.any, AV.any, AV.any, AV.any, AV.any, AV.any, AV.any, AV.any, AV.any, AV.any, AV.any, AV.any, AV.any, AV.any, AV.any] H
def B59_0 (K : AV → Heap → Prop) (N1 : AV → Heap → Prop) (v2 : AV) (v3 : AV) (v13 : AV) (v14 : AV) (v15 : AV) (H : Heap) : Prop :=
 binV tab .lss 3 v15 v14 fun v16 =>
 condV v16 (indexAddrV tab 55 v13 v15 fun v18 =>
 loadV tab 69 v18 H fun v19 =>
 allocV tab 69 H fun v6 H4 =>
 storeV tab 69 v6 v19 H4 fun H5 =>
 fieldAddrV tab 69 v6 0 fun v20 =>
 loadV tab 3 v20 H5 fun v21 =>
 binV tab .lss 3 v21 (AV.p (.int .i64 0)) fun v22 =>
 grdV v22 false (fieldAddrV tab 69 v6 0 fun v24 =>
 loadV tab 3 v24 H5 fun v25 =>
 fieldAddrV tab 33 v2 1 fun v26 =>
 loadV tab 3 v26 H5 fun v27 =>
 binV tab .geq 3 v25 v27 fun v28 =>
 grdV v28 false (binV tab .gtr 3 v15 (AV.p (.int .i64 0)) fun v32 =>
 grdV v32 true (fieldAddrV tab 57 v3 1 fun v34 =>
 loadV tab 55 v34 H5 fun v35 =>
 binV tab .sub 3 v15 (AV.p (.int .i64 1)) fun v37 =>
 indexAddrV tab 55 v35 v37 fun v38 =>
 fieldAddrV tab 69 v38 0 fun v39 =>
 loadV tab 3 v39 H5 fun v40 =>
 fieldAddrV tab 69 v6 0 fun v41 =>
 loadV tab 3 v41 H5 fun v42 =>
 binV tab .geq 3 v40 v42 fun v43 =>
 grdV v43 false (fieldAddrV tab 33 v2 0 fun v47 =>
 loadV tab 3 v47 H5 fun v48 =>
 fieldAddrV tab 33 v2 1 fun v49 =>
 loadV tab 3 v49 H5 fun v50 =>
 fieldAddrV tab 69 v6 1 fun v51 =>
 loadV tab 28 v51 H5 fun v52 =>
 CallT Try.prog 60 [v48, v50, v52, (AV.p (.int .i64 1))] H5 fun v53 H6 =>
 unV .not v53 fun v54 =>
 condV v54 (K (AV.p (.bool false)) H6)
 (binV tab .add 3 v15 (AV.p (.int .i64 1)) fun v56 =>
 N1 v56 H6))
 (K (AV.p (.bool false)) H5))
 (fieldAddrV tab 33 v2 0 fun v47 =>
 loadV tab 3 v47 H5 fun v48 =>
 fieldAddrV tab 33 v2 1 fun v49 =>
 loadV tab 3 v49 H5 fun v50 =>
 fieldAddrV tab 69 v6 1 fun v51 =>
 loadV tab 28 v51 H5 fun v52 =>
 CallT Try.prog 60 [v48, v50, v52, (AV.p (.int .i64 1))] H5 fun v53 H7 =>
 unV .not v53 fun v54 =>
 condV v54 (K (AV.p (.bool false)) H7)
 (binV tab .add 3 v15 (AV.p (.int .i64 1)) fun v56 =>
 N1 v56 H7)))
 (K (AV.p (.bool false)) H5))
 (K (AV.p (.bool false)) H5))
 (K (AV.p (.bool true)) H)
def W59 (v0 : AV) (v1 : AV) (H : Heap) (K : AV → Heap → Prop) : Prop :=
 boxV v0 H fun v2 H1 =>
 boxV v1 H1 fun v3 H2 =>
 loadV tab 33 v2 H2 fun v7 =>
 fieldAddrV tab 57 v3 0 fun v8 =>
 loadV tab 28 v8 H2 fun v9 =>
 CallT Try.prog 44 [v7, v9] H2 fun v10 H3 =>
 unV .not v10 fun v11 =>
 condV v11 (K (AV.p (.bool false)) H3)
 (fieldAddrV tab 57 v3 1 fun v12 =>
 loadV tab 55 v12 H3 fun v13 =>
 lenV tab 55 v13 fun v14 =>
 L59_0 K v2 v3 v13 v14 (AV.p (.int .i64 0)) H3)
theorem W59_wp (v0 : AV) (v1 : AV) (H : Heap) (K : AV → Heap → Prop) : wpC Try.prog tab D59 (bodyOf Try.f59) (retF tab [.tmp 4] K) (nthA [v0, v1]) H = W59 v0 v1 H K := by kernel_rfl
theorem W59_ok {v0 v1 : AV} {H : Heap} {K : AV → Heap → Prop} (h : W59 v0 v1 H K) : CallT Try.prog 59 [v0, v1] H K :=
  CallT.of_wp (D := D59) tab_ok mixed Try.func59 (c := bodyOf Try.f59) (by kernel_rfl) rfl (by kernel_rfl) (rs := #[.tmp 4]) rfl (by decide +kernel) (by kernel_rfl) (W59_wp v0 v1 H K) h
theorem W59_hb : HasBody Try.prog 59 := ⟨_, bodyOf Try.f59, Try.func59, by kernel_rfl, rfl⟩
theorem L59_0_rule {K : AV → Heap → Prop} {v2 v3 v13 v14 v15 : AV} {H : Heap} {σ : Type} (s0 : σ) (f15 : σ → AV) (TH : σ → Heap) (pre : σ → Prop) (μ : σ → Nat)
    (h0 : pre s0 ∧ AV.wk v15 (f15 s0) ∧ Heap.le (TH s0) H)
    (round : ∀ s, pre s → B59_0 K (fun w15 H' => ∃ s', pre s' ∧ μ s' < μ s ∧ AV.wk w15 (f15 s') ∧ Heap.le (TH s') H') v2 v3 v13 v14 (f15 s) (TH s)) :
    L59_0 K v2 v3 v13 v14 v15 H := by
  unfold L59_0
  exact LoopV.mk s0 (fun s => [f15 s]) TH pre μ (fun _ => rfl) (Eq.mp (by kernel_rfl) h0) (fun s hs => Eq.mp (by kernel_rfl) (round s hs))
theorem L59_0_ruleG {K : AV → Heap → Prop} {v2 v3 v13 v14 v15 : AV} {H : Heap} {σ : Type} (s0 : σ) (f15 : σ → AV) (TH : σ → Heap) (pre : σ → Prop) (μ : σ → Nat)
    (h0 : pre s0 ∧ AV.wk v15 (f15 s0) ∧ Heap.le (TH s0) H)
    (round : ∀ s, pre s → ∀ q, TH s q = none → B59_0 K (fun w15 H' => ∃ s', pre s' ∧ μ s' < μ s ∧ AV.wk w15 (f15 s') ∧ Heap.le (TH s') H') v2 v3 v13 v14 (f15 s) ((TH s).set q [])) :
    L59_0 K v2 v3 v13 v14 v15 H := by
  unfold L59_0
  exact LoopV.mkG s0 (fun s => [f15 s]) TH pre μ (fun _ => rfl) (Eq.mp (by kernel_rfl) h0) (fun s hs q hq => Eq.mp (by kernel_rfl) (round s hs q hq))
/-- loop.example/g00649/impl.isTermOf -/
def D60 : Info := ⟨19, fun i => ([], []), fun i => ([], [])⟩
def W60 (v0 : AV) (v1 : AV) (v2 : AV) (v3 : AV) (H : Heap) (K : AV → Heap → Prop) : Prop :=
 CallT Try.prog 49 [v0, v1, v2] H fun v12 H1 =>
 grdV v12 true (CallT Try.prog 74 [v2] H1 fun v15 H2 =>
 binV tab .eql 3 v15 v3 fun v17 =>
 K v17 H2)
 (K (AV.p (.bool false)) H1)
theorem W60_wp (v0 : AV) (v1 : AV) (v2 : AV) (v3 : AV) (H : Heap) (K : AV → Heap → Prop) : wpC Try.prog tab D60 (bodyOf Try.f60) (retF tab [.tmp 8] K) (nthA [v0, v1, v2, v3]) H = W60 v0 v1 v2 v3 H K := by kernel_rfl
theorem W60_ok {v0 v1 v2 v3 : AV} {H : Heap} {K : AV → Heap → Prop} (h : W60 v0 v1 v2 v3 H K) : CallT Try.prog 60 [v0, v1, v2, v3] H K :=
  CallT.of_wp (D := D60) tab_ok mixed Try.func60 (c := bodyOf Try.f60) (by kernel_rfl) rfl (by kernel_rfl) (rs := #[.tmp 8]) rfl (by decide +kernel) (by kernel_rfl) (W60_wp v0 v1 v2 v3 H K) h
theorem W60_hb : HasBody Try.prog 60 := ⟨_, bodyOf Try.f60, Try.func60, by kernel_rfl, rfl⟩
/-- slices.ContainsFunc[[][]loop.example/g00649/impl.Node,[]loop.example/g00649/impl.Node] -/
def D61 : Info := ⟨9, fun i => ([], []), fun i => ([], [])⟩
def W61 (v0 : AV) (v1 : AV) (H : Heap) (K : AV → Heap → Prop) : Prop :=
 CallT Try.prog 75 [v0, v1] H fun v7 H1 =>
 binV tab .geq 3 v7 (AV.p (.int .i64 0)) fun v8 =>
 K v8 H1
theorem W61_wp (v0 : AV) (v1 : AV) (H : Heap) (K : AV → Heap → Prop) : wpC Try.prog tab D61 (bodyOf Try.f61) (retF tab [.tmp 4] K) (nthA [v0, v1]) H = W61 v0 v1 H K := by kernel_rfl
theorem W61_ok {v0 v1 : AV} {H : Heap} {K : AV → Heap → Prop} (h : W61 v0 v1 H K) : CallT Try.prog 61 [v0, v1] H K :=
  CallT.of_wp (D := D61) tab_ok mixed Try.func61 (c := bodyOf Try.f61) (by kernel_rfl) rfl (by kernel_rfl) (rs := #[.tmp 4]) rfl (by decide +kernel) (by kernel_rfl) (W61_wp v0 v1 H K) h
theorem W61_hb : HasBody Try.prog 61 := ⟨_, bodyOf Try.f61, Try.func61, by kernel_rfl, rfl⟩
/-- loop.example/g00649/impl.PutAll$1 -/
def D62 : Info := ⟨10, fun i => ([], []), fun i => ([], [])⟩
def W62 (v0 : AV) (v1 : AV) (v2 : AV) (H : Heap) (K : AV → Heap → Prop) : Prop :=
 loadV tab 3 v1 H fun v5 =>
 loadV tab 3 v2 H fun v6 =>
 CallT Try.prog 60 [v5, v6, v0, (AV.p (.int .i64 1))] H fun v8 H1 =>
 unV .not v8 fun v9 =>
 K v9 H1
theorem W62_wp (v0 : AV) (v1 : AV) (v2 : AV) (H : Heap) (K : AV → Heap → Prop) : wpC Try.prog tab D62 (bodyOf Try.f62) (retF tab [.tmp 4] K) (nthA [v0, v1, v2]) H = W62 v0 v1 v2 H K := by kernel_rfl
theorem W62_ok {v0 v1 v2 : AV} {H : Heap} {K : AV → Heap → Prop} (h : W62 v0 v1 v2 H K) : CallT Try.prog 62 [v0, v1, v2] H K :=
  CallT.of_wp (D := D62) tab_ok mixed Try.func62 (c := bodyOf Try.f62) (by kernel_rfl) rfl (by kernel_rfl) (rs := #[.tmp 4]) rfl (by decide +kernel) (by kernel_rfl) (W62_wp v0 v1 v2 H K) h
theorem W62_hb : HasBody Try.prog 62 := ⟨_, bodyOf Try.f62, Try.func62, by kernel_rfl, rfl⟩
/-- loop.example/g00649/laws.eqChangeS -/
def D63 : Info := ⟨27, fun i => if i = 6 then ([[], [], [0, 1], [0, 1, 2], [], [], [4, 5], [4, 5, 6], [0, 1, 2, 3, 4, 5, 6, 7], [0, 1, 2, 3, 4, 5, 6, 7, 8]], [(0, []), (1, []), (2, []), (3, []), (4, []), (5, []), (6, []), (7, []), (8, []), (9, [])]) else ([], []), fun i => if i = 4 then ([0, 1], [5]) else ([], [])⟩
def L63_0 (K : AV → Heap → Prop) (v0 : AV) (v1 : AV) (v5 : AV) (H : Heap) : Prop := LoopV (wpC Try.prog tab D63 (cAt [1, 1, 0, 1, 0, 0] (bodyOf Try.f63))) [0, 1] (PostF.block 0 (PostF.thenA (wpC Try.prog tab D63 (cAt [1, 1, 1] (bodyOf Try.f63))) (retF tab [.tmp 4] K))) [5] [v0, v1, AV.any, AV.any, AV.any, v5, AV.any, AV.any, AV.any, AV.any, AV.any, AV.any, AV.any, AV.any, AV.any, AV.any, AV.any, AV.any, AV.any, AV.any, AV.any, AV.any, AV.any, AV.any, AV.any, AV.any, AV.any] H
def B63_0 (K : AV → Heap → Prop) (N1 : AV → Heap → Prop) (v0 : AV) (v1 : AV) (v5 : AV) (H : Heap) : Prop :=
 lenV tab 55 v0 fun v13 =>
 binV tab .lss 3 v5 v13 fun v14 =>
 condV v14 (indexAddrV tab 55 v0 v5 fun v19 =>
 loadV tab 69 v19 H fun v20 =>
 indexAddrV tab 55 v1 v5 fun v23 =>
 loadV tab 69 v23 H fun v24 =>
 CallT Try.prog 76 [v20, v24] H fun v25 H1 =>
 unV .not v25 fun v26 =>
 condV v26 (K (AV.p (.bool false)) H1)
 (binV tab .add 3 v5 (AV.p (.int .i64 1)) fun v16 =>
 N1 v16 H1))
 (K (AV.p (.bool true)) H)
def W63 (v0 : AV) (v1 : AV) (H : Heap) (K : AV → Heap → Prop) : Prop :=
 lenV tab 55 v0 fun v7 =>
 lenV tab 55 v1 fun v9 =>
 binV tab .neq 3 v7 v9 fun v10 =>
 condV v10 (K (AV.p (.bool false)) H)
 (L63_0 K v0 v1 (AV.p (.int .i64 0)) H)
theorem W63_wp (v0 : AV) (v1 : AV) (H : Heap) (K : AV → Heap → Prop) : wpC Try.prog tab D63 (bodyOf Try.f63) (retF tab [.tmp 4] K) (nthA [v0, v1]) H = W63 v0 v1 H K := by kernel_rfl
theorem W63_ok {v0 v1 : AV} {H : Heap} {K : AV → Heap → Prop} (h : W63 v0 v1 H K) : CallT Try.prog 63 [v0, v1] H K :=
  CallT.of_wp (D := D63) tab_ok mixed Try.func63 (c := bodyOf Try.f63) (by kernel_rfl) rfl (by kernel_rfl) (rs := #[.tmp 4]) rfl (by decide +kernel) (by kernel_rfl) (W63_wp v0 v1 H K) h
theorem W63_hb : HasBody Try.prog 63 := ⟨_, bodyOf Try.f63, Try.func63, by kernel_rfl, rfl⟩
theorem L63_0_rule {K : AV → Heap → Prop} {v0 v1 v5 : AV} {H : Heap} {σ : Type} (s0 : σ) (f5 : σ → AV) (TH : σ → Heap) (pre : σ → Prop) (μ : σ → Nat)
    (h0 : pre s0 ∧ AV.wk v5 (f5 s0) ∧ Heap.le (TH s0) H)
    (round : ∀ s, pre s → B63_0 K (fun w5 H' => ∃ s', pre s' ∧ μ s' < μ s ∧ AV.wk w5 (f5 s') ∧ Heap.le (TH s') H') v0 v1 (f5 s) (TH s)) :
    L63_0 K v0 v1 v5 H := by
  unfold L63_0
  exact LoopV.mk s0 (fun s => [f5 s]) TH pre μ (fun _ => rfl) (Eq.mp (by kernel_rfl) h0) (fun s hs => Eq.mp (by kernel_rfl) (round s hs))
theorem L63_0_ruleG {K : AV → Heap → Prop} {v0 v1 v5 : AV} {H : Heap} {σ : Type} (s0 : σ) (f5 : σ → AV) (TH : σ → Heap) (pre : σ → Prop) (μ : σ → Nat)
    (h0 : pre s0 ∧ AV.wk v5 (f5 s0) ∧ Heap.le (TH s0) H)
    (round : ∀ s, pre s → ∀ q, TH s q = none → B63_0 K (fun w5 H' => ∃ s', pre s' ∧ μ s' < μ s ∧ AV.wk w5 (f5 s') ∧ Heap.le (TH s') H') v0 v1 (f5 s) ((TH s).set q [])) :
    L63_0 K v0 v1 v5 H := by
  unfold L63_0
  exact LoopV.mkG s0 (fun s => [f5 s]) TH pre μ (fun _ => rfl) (Eq.mp (by kernel_rfl) h0) (fun s hs q hq => Eq.mp (by kernel_rfl) (round s hs q hq))
/-- loop.example/g00649/impl.operandsOf -/
def D64 : Info := ⟨42, fun i => ([], []), fun i => ([], [])⟩
def J64_0 (K : AV → Heap → Prop) (v40 : AV) (H : Heap) : Prop :=
 condV v40 (K (.tup [(AV.p (.int .i64 2)), (AV.p (.int .i64 2)), (AV.p (.int .i64 2))]) H)
 (K (.tup [(AV.p (.int .i64 0)), (AV.p (.int .i64 0)), (AV.p (.int .i64 0))]) H)
def J64_1 (K : AV → Heap → Prop) (v0 : AV) (v33 : AV) (H : Heap) : Prop :=
 condV v33 (K (.tup [(AV.p (.int .i64 2)), (AV.p (.int .i64 1)), (AV.p (.int .i64 2))]) H)
 (binV tab .eql 3 v0 (AV.p (.int .i64 17)) fun v37 =>
 grdV v37 false (binV tab .eql 3 v0 (AV.p (.int .i64 18)) fun v40 =>
 J64_0 K v40 H)
 (K (.tup [(AV.p (.int .i64 2)), (AV.p (.int .i64 2)), (AV.p (.int .i64 2))]) H))
def J64_2 (K : AV → Heap → Prop) (v0 : AV) (H : Heap) : Prop :=
 binV tab .eql 3 v0 (AV.p (.int .i64 17)) fun v37 =>
 grdV v37 false (binV tab .eql 3 v0 (AV.p (.int .i64 18)) fun v40 =>
 J64_0 K v40 H)
 (K (.tup [(AV.p (.int .i64 2)), (AV.p (.int .i64 2)), (AV.p (.int .i64 2))]) H)
def W64 (v0 : AV) (H : Heap) (K : AV → Heap → Prop) : Prop :=
 binV tab .eql 3 v0 (AV.p (.int .i64 1)) fun v7 =>
 grdV v7 false (binV tab .eql 3 v0 (AV.p (.int .i64 2)) fun v10 =>
 condV v10 (K (.tup [(AV.p (.int .i64 0)), (AV.p (.int .i64 0)), (AV.p (.int .i64 1))]) H)
 (binV tab .eql 3 v0 (AV.p (.int .i64 20)) fun v14 =>
 condV v14 (K (.tup [(AV.p (.int .i64 0)), (AV.p (.int .i64 0)), (AV.p (.int .i64 2))]) H)
 (binV tab .eql 3 v0 (AV.p (.int .i64 13)) fun v17 =>
 condV v17 (K (.tup [(AV.p (.int .i64 1)), (AV.p (.int .i64 1)), (AV.p (.int .i64 1))]) H)
 (binV tab .eql 3 v0 (AV.p (.int .i64 19)) fun v20 =>
 condV v20 (K (.tup [(AV.p (.int .i64 1)), (AV.p (.int .i64 2)), (AV.p (.int .i64 2))]) H)
 (binV tab .geq 3 v0 (AV.p (.int .i64 3)) fun v23 =>
 grdV v23 true (binV tab .leq 3 v0 (AV.p (.int .i64 12)) fun v26 =>
 condV v26 (K (.tup [(AV.p (.int .i64 2)), (AV.p (.int .i64 1)), (AV.p (.int .i64 1))]) H)
 (binV tab .geq 3 v0 (AV.p (.int .i64 14)) fun v30 =>
 grdV v30 true (binV tab .leq 3 v0 (AV.p (.int .i64 16)) fun v33 =>
 J64_1 K v0 v33 H)
 (J64_2 K v0 H)))
 (binV tab .geq 3 v0 (AV.p (.int .i64 14)) fun v30 =>
 grdV v30 true (binV tab .leq 3 v0 (AV.p (.int .i64 16)) fun v33 =>
 J64_1 K v0 v33 H)
 (J64_2 K v0 H)))))))
 (K (.tup [(AV.p (.int .i64 0)), (AV.p (.int .i64 0)), (AV.p (.int .i64 1))]) H)
theorem W64_wp (v0 : AV) (H : Heap) (K : AV → Heap → Prop) : wpC Try.prog tab D64 (bodyOf Try.f64) (retF tab [.tmp 2, .tmp 3, .tmp 4] K) (nthA [v0]) H = W64 v0 H K := by kernel_rfl
theorem W64_ok {v0 : AV} {H : Heap} {K : AV → Heap → Prop} (h : W64 v0 H K) : CallT Try.prog 64 [v0] H K :=
  CallT.of_wp (D := D64) tab_ok mixed Try.func64 (c := bodyOf Try.f64) (by kernel_rfl) rfl (by kernel_rfl) (rs := #[.tmp 2, .tmp 3, .tmp 4]) rfl (by decide +kernel) (by kernel_rfl) (W64_wp v0 H K) h
theorem W64_hb : HasBody Try.prog 64 := ⟨_, bodyOf Try.f64, Try.func64, by kernel_rfl, rfl⟩
/-- loop.example/g00649/impl.isLeafRight -/
def D65 : Info := ⟨30, fun i => ([], []), fun i => ([], [])⟩
def W65 (v0 : AV) (v1 : AV) (v2 : AV) (H : Heap) (K : AV → Heap → Prop) : Prop :=
 boxV v2 H fun v5 H1 =>
 fieldAddrV tab 48 v5 0 fun v7 =>
 loadV tab 3 v7 H1 fun v8 =>
 binV tab .eql 3 v8 (AV.p (.int .i64 1)) fun v10 =>
 condV v10 (fieldAddrV tab 48 v5 1 fun v12 =>
 loadV tab 46 v12 H1 fun v13 =>
 CallT Try.prog 77 [v0, v13] H1 fun v14 H2 =>
 K v14 H2)
 (binV tab .eql 3 v8 (AV.p (.int .i64 2)) fun v16 =>
 condV v16 (fieldAddrV tab 48 v5 1 fun v17 =>
 loadV tab 46 v17 H1 fun v18 =>
 convV tab 3 46 v1 fun v20 =>
 binV tab .lss 46 v18 v20 fun v21 =>
 K v21 H1)
 (binV tab .eql 3 v8 (AV.p (.int .i64 20)) fun v23 =>
 condV v23 (fieldAddrV tab 48 v5 1 fun v24 =>
 loadV tab 46 v24 H1 fun v25 =>
 binV tab .leq 46 v25 (AV.p (.int .u64 1)) fun v26 =>
 K v26 H1)
 (fieldAddrV tab 48 v5 1 fun v27 =>
 loadV tab 46 v27 H1 fun v28 =>
 binV tab .eql 46 v28 (AV.p (.int .u64 0)) fun v29 =>
 K v29 H1)))
theorem W65_wp (v0 : AV) (v1 : AV) (v2 : AV) (H : Heap) (K : AV → Heap → Prop) : wpC Try.prog tab D65 (bodyOf Try.f65) (retF tab [.tmp 6] K) (nthA [v0, v1, v2]) H = W65 v0 v1 v2 H K := by kernel_rfl
theorem W65_ok {v0 v1 v2 : AV} {H : Heap} {K : AV → Heap → Prop} (h : W65 v0 v1 v2 H K) : CallT Try.prog 65 [v0, v1, v2] H K :=
  CallT.of_wp (D := D65) tab_ok mixed Try.func65 (c := bodyOf Try.f65) (by kernel_rfl) rfl (by kernel_rfl) (rs := #[.tmp 6]) rfl (by decide +kernel) (by kernel_rfl) (W65_wp v0 v1 v2 H K) h
theorem W65_hb : HasBody Try.prog 65 := ⟨_, bodyOf Try.f65, Try.func65, by kernel_rfl, rfl⟩
/-- slices.ContainsFunc[[]int,int] -/
def D66 : Info := ⟨9, fun i => ([], []), fun i => ([], [])⟩
def W66 (v0 : AV) (v1 : AV) (H : Heap) (K : AV → Heap → Prop) : Prop :=
 CallT Try.prog 78 [v0, v1] H fun v7 H1 =>
 binV tab .geq 3 v7 (AV.p (.int .i64 0)) fun v8 =>
 K v8 H1
theorem W66_wp (v0 : AV) (v1 : AV) (H : Heap) (K : AV → Heap → Prop) : wpC Try.prog tab D66 (bodyOf Try.f66) (retF tab [.tmp 4] K) (nthA [v0, v1]) H = W66 v0 v1 H K := by kernel_rfl
theorem W66_ok {v0 v1 : AV} {H : Heap} {K : AV → Heap → Prop} (h : W66 v0 v1 H K) : CallT Try.prog 66 [v0, v1] H K :=
  CallT.of_wp (D := D66) tab_ok mixed Try.func66 (c := bodyOf Try.f66) (by kernel_rfl) rfl (by kernel_rfl) (rs := #[.tmp 4]) rfl (by decide +kernel) (by kernel_rfl) (W66_wp v0 v1 H K) h
theorem W66_hb : HasBody Try.prog 66 := ⟨_, bodyOf Try.f66, Try.func66, by kernel_rfl, rfl⟩
/-- loop.example/g00649/impl.GoodTerm$1 -/
def D67 : Info := ⟨7, fun i => ([], []), fun i => ([], [])⟩
def W67 (v0 : AV) (v1 : AV) (H : Heap) (K : AV → Heap → Prop) : Prop :=
 loadV tab 3 v1 H fun v5 =>
 binV tab .neq 3 v0 v5 fun v6 =>
 K v6 H
theorem W67_wp (v0 : AV) (v1 : AV) (H : Heap) (K : AV → Heap → Prop) : wpC Try.prog tab D67 (bodyOf Try.f67) (retF tab [.tmp 3] K) (nthA [v0, v1]) H = W67 v0 v1 H K := by kernel_rfl
theorem W67_ok {v0 v1 : AV} {H : Heap} {K : AV → Heap → Prop} (h : W67 v0 v1 H K) : CallT Try.prog 67 [v0, v1] H K :=
  CallT.of_wp (D := D67) tab_ok mixed Try.func67 (c := bodyOf Try.f67) (by kernel_rfl) rfl (by kernel_rfl) (rs := #[.tmp 3]) rfl (by decide +kernel) (by kernel_rfl) (W67_wp v0 v1 H K) h
theorem W67_hb : HasBody Try.prog 67 := ⟨_, bodyOf Try.f67, Try.func67, by kernel_rfl, rfl⟩
/-- loop.example/g00649/laws.szChange -/
def D68 : Info := ⟨12, fun i => ([], []), fun i => ([], [])⟩
def W68 (v0 : AV) (v1 : AV) (H : Heap) (K : AV → Heap → Prop) : Prop :=
 boxV v0 H fun v2 H1 =>
 fieldAddrV tab 94 v2 1 fun v5 =>
 loadV tab 22 v5 H1 fun v6 =>
 CallT Try.prog 7 [v6, v1] H1 fun v8 H2 =>
 binV tab .lss 3 v8 (AV.p (.int .i64 0)) fun v10 =>
 condV v10 (K (AV.p (.int .i64 (-1))) H2)
 (K v8 H2)
theorem W68_wp (v0 : AV) (v1 : AV) (H : Heap) (K : AV → Heap → Prop) : wpC Try.prog tab D68 (bodyOf Try.f68) (retF tab [.tmp 4] K) (nthA [v0, v1]) H = W68 v0 v1 H K := by kernel_rfl
theorem W68_ok {v0 v1 : AV} {H : Heap} {K : AV → Heap → Prop} (h : W68 v0 v1 H K) : CallT Try.prog 68 [v0, v1] H K :=
  CallT.of_wp (D := D68) tab_ok mixed Try.func68 (c := bodyOf Try.f68) (by kernel_rfl) rfl (by kernel_rfl) (rs := #[.tmp 4]) rfl (by decide +kernel) (by kernel_rfl) (W68_wp v0 v1 H K) h
theorem W68_hb : HasBody Try.prog 68 := ⟨_, bodyOf Try.f68, Try.func68, by kernel_rfl, rfl⟩
/-- loop.example/g00649/spec.l1Wide -/
def D69 : Info := ⟨5, fun i => ([], []), fun i => ([], [])⟩
def W69 (v0 : AV) (H : Heap) (K : AV → Heap → Prop) : Prop :=
 CallT Try.prog 38 [v0, (AV.p (.int .i64 1)), (AV.p (.int .i64 64))] H fun v4 H1 =>
 K v4 H1
theorem W69_wp (v0 : AV) (H : Heap) (K : AV → Heap → Prop) : wpC Try.prog tab D69 (bodyOf Try.f69) (retF tab [.tmp 2] K) (nthA [v0]) H = W69 v0 H K := by kernel_rfl
theorem W69_ok {v0 : AV} {H : Heap} {K : AV → Heap → Prop} (h : W69 v0 H K) : CallT Try.prog 69 [v0] H K :=
  CallT.of_wp (D := D69) tab_ok mixed Try.func69 (c := bodyOf Try.f69) (by kernel_rfl) rfl (by kernel_rfl) (rs := #[.tmp 2]) rfl (by decide +kernel) (by kernel_rfl) (W69_wp v0 H K) h
theorem W69_hb : HasBody Try.prog 69 := ⟨_, bodyOf Try.f69, Try.func69, by kernel_rfl, rfl⟩
end Go.Proofs.Ytlcnoflmlonikaa
