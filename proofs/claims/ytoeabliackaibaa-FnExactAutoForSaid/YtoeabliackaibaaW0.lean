/- What each function's code is asked for, as a formula. Written by wgen.py (a program of this session's) out of Lean's print of the program. -/
import Derived.KernelRfl
import Derived.Test.YtoeabliackaibaaTab
import Derived.Test.YtoeabliackaibaaSepC
namespace Go.Proofs.Ytoeabliackaibaa
open Go Go.Sep
set_option linter.unusedVariables false
attribute [local irreducible] wpC headF
/-- loop.example/g00649/laws.FnExactTrackedOf -/
def D3 : Info := ⟨96, fun i => ([], []), fun i => ([], [])⟩
def W3 (v0 : AV) (H : Heap) (K : AV → Heap → Prop) : Prop :=
 CallT Try.prog 9 [v0, (AV.p (.int .i64 1048576))] H fun v16 H1 =>
 binV tab .lss 3 v16 (AV.p (.int .i64 0)) fun v18 =>
 condV v18 (K (AV.p (.bool true)) H1)
 (CallT Try.prog 11 [v0] H1 fun v21 H2 =>
 CallT Try.prog 10 [v21] H2 fun v22 H3 =>
 extractV v22 0 fun v23 =>
 extractV v22 1 fun v24 =>
 CallT Try.prog 11 [v0] H3 fun v26 H4 =>
 CallT Try.prog 12 [v26] H4 fun v29 H5 =>
 extractV v29 0 fun v30 =>
 extractV v29 1 fun v31 =>
 CallT Try.prog 13 [v30, v23] H5 fun v34 H6 =>
 unV .not v34 fun v35 =>
 grdV v35 false (binV tab .neq 4 v31 v24 fun v39 =>
 condV v39 (K (AV.p (.bool false)) H6)
 (CallT Try.prog 11 [v0] H6 fun v43 H7 =>
 CallT Try.prog 14 [v26, v43] H7 fun v44 H8 =>
 unV .not v44 fun v45 =>
 condV v45 (K (AV.p (.bool false)) H8)
 (CallT Try.prog 15 [v26, (AV.p (.int .i64 1))] H8 fun v48 H9 =>
 binV tab .lss 3 v48 (AV.p (.int .i64 0)) fun v50 =>
 grdV v50 false (CallT Try.prog 13 [v30, v23] H9 fun v54 H10 =>
 unV .not v54 fun v55 =>
 grdV v55 false (binV tab .neq 4 v31 v24 fun v60 =>
 condV v60 (K (AV.p (.bool false)) H10)
 (CallT Try.prog 16 [v30, (AV.p (.int .i64 1))] H10 fun v64 H11 =>
 CallT Try.prog 17 [v30, (AV.p (.int .i64 1))] H11 fun v67 H12 =>
 binV tab .lss 3 v67 (AV.p (.int .i64 0)) fun v69 =>
 condV v69 (K (AV.p (.bool false)) H12)
 (binV tab .neq 3 v67 v64 fun v72 =>
 condV v72 (K (AV.p (.bool false)) H12)
 (CallT Try.prog 11 [v0] H12 fun v75 H13 =>
 CallT Try.prog 12 [v75] H13 fun v76 H14 =>
 extractV v76 0 fun v77 =>
 extractV v76 1 fun v78 =>
 CallT Try.prog 13 [v77, v23] H14 fun v81 H15 =>
 unV .not v81 fun v82 =>
 grdV v82 false (binV tab .neq 4 v78 v24 fun v86 =>
 condV v86 (K (AV.p (.bool false)) H15)
 (CallT Try.prog 17 [v30, (AV.p (.int .i64 1))] H15 fun v90 H16 =>
 binV tab .lss 3 v90 (AV.p (.int .i64 0)) fun v92 =>
 condV v92 (K (AV.p (.bool false)) H16)
 (binV tab .neq 3 v90 v64 fun v95 =>
 condV v95 (K (AV.p (.bool false)) H16)
 (K (AV.p (.bool true)) H16))))
 (K (AV.p (.bool false)) H15)))))
 (K (AV.p (.bool false)) H10))
 (K (AV.p (.bool false)) H9))))
 (K (AV.p (.bool false)) H6))
theorem W3_wp (v0 : AV) (H : Heap) (K : AV → Heap → Prop) : wpC Try.prog tab D3 (bodyOf Try.f3) (retF tab [.tmp 2] K) (nthA [v0]) H = W3 v0 H K := by kernel_rfl
theorem W3_ok {v0 : AV} {H : Heap} {K : AV → Heap → Prop} (h : W3 v0 H K) : CallT Try.prog 3 [v0] H K :=
  CallT.of_wp (D := D3) tab_ok mixed Try.func3 (c := bodyOf Try.f3) (by kernel_rfl) rfl (by kernel_rfl) (rs := #[.tmp 2]) rfl (by decide +kernel) (by kernel_rfl) (W3_wp v0 H K) h
theorem W3_hb : HasBody Try.prog 3 := ⟨_, bodyOf Try.f3, Try.func3, by kernel_rfl, rfl⟩
/-- loop.example/g00649/laws.FnExactEvalNow -/
def D4 : Info := ⟨106, fun i => ([], []), fun i => ([], [])⟩
def W4 (v0 : AV) (v1 : AV) (v2 : AV) (H : Heap) (K : AV → Heap → Prop) : Prop :=
 CallT Try.prog 9 [v0, (AV.p (.int .i64 1048576))] H fun v20 H1 =>
 binV tab .lss 3 v20 (AV.p (.int .i64 0)) fun v22 =>
 condV v22 (K (AV.p (.bool true)) H1)
 (CallT Try.prog 11 [v0] H1 fun v25 H2 =>
 CallT Try.prog 18 [v25, v1, v2] H2 fun v28 H3 =>
 extractV v28 0 fun v29 =>
 extractV v28 1 fun v30 =>
 CallT Try.prog 11 [v0] H3 fun v32 H4 =>
 CallT Try.prog 19 [v32, v1, v2] H4 fun v37 H5 =>
 extractV v37 0 fun v38 =>
 extractV v37 1 fun v39 =>
 CallT Try.prog 20 [v38, v29] H5 fun v42 H6 =>
 unV .not v42 fun v43 =>
 grdV v43 false (binV tab .neq 4 v39 v30 fun v47 =>
 condV v47 (K (AV.p (.bool false)) H6)
 (CallT Try.prog 11 [v0] H6 fun v51 H7 =>
 CallT Try.prog 14 [v32, v51] H7 fun v52 H8 =>
 unV .not v52 fun v53 =>
 condV v53 (K (AV.p (.bool false)) H8)
 (CallT Try.prog 15 [v32, (AV.p (.int .i64 1))] H8 fun v56 H9 =>
 binV tab .lss 3 v56 (AV.p (.int .i64 0)) fun v58 =>
 grdV v58 false (CallT Try.prog 20 [v38, v29] H9 fun v62 H10 =>
 unV .not v62 fun v63 =>
 grdV v63 false (binV tab .neq 4 v39 v30 fun v68 =>
 condV v68 (K (AV.p (.bool false)) H10)
 (CallT Try.prog 21 [v38, (AV.p (.int .i64 1))] H10 fun v72 H11 =>
 CallT Try.prog 22 [v38, (AV.p (.int .i64 1))] H11 fun v75 H12 =>
 binV tab .lss 3 v75 (AV.p (.int .i64 0)) fun v77 =>
 condV v77 (K (AV.p (.bool false)) H12)
 (binV tab .neq 3 v75 v72 fun v80 =>
 condV v80 (K (AV.p (.bool false)) H12)
 (CallT Try.prog 11 [v0] H12 fun v83 H13 =>
 CallT Try.prog 19 [v83, v1, v2] H13 fun v86 H14 =>
 extractV v86 0 fun v87 =>
 extractV v86 1 fun v88 =>
 CallT Try.prog 20 [v87, v29] H14 fun v91 H15 =>
 unV .not v91 fun v92 =>
 grdV v92 false (binV tab .neq 4 v88 v30 fun v96 =>
 condV v96 (K (AV.p (.bool false)) H15)
 (CallT Try.prog 22 [v38, (AV.p (.int .i64 1))] H15 fun v100 H16 =>
 binV tab .lss 3 v100 (AV.p (.int .i64 0)) fun v102 =>
 condV v102 (K (AV.p (.bool false)) H16)
 (binV tab .neq 3 v100 v72 fun v105 =>
 condV v105 (K (AV.p (.bool false)) H16)
 (K (AV.p (.bool true)) H16))))
 (K (AV.p (.bool false)) H15)))))
 (K (AV.p (.bool false)) H10))
 (K (AV.p (.bool false)) H9))))
 (K (AV.p (.bool false)) H6))
theorem W4_wp (v0 : AV) (v1 : AV) (v2 : AV) (H : Heap) (K : AV → Heap → Prop) : wpC Try.prog tab D4 (bodyOf Try.f4) (retF tab [.tmp 6] K) (nthA [v0, v1, v2]) H = W4 v0 v1 v2 H K := by kernel_rfl
theorem W4_ok {v0 v1 v2 : AV} {H : Heap} {K : AV → Heap → Prop} (h : W4 v0 v1 v2 H K) : CallT Try.prog 4 [v0, v1, v2] H K :=
  CallT.of_wp (D := D4) tab_ok mixed Try.func4 (c := bodyOf Try.f4) (by kernel_rfl) rfl (by kernel_rfl) (rs := #[.tmp 6]) rfl (by decide +kernel) (by kernel_rfl) (W4_wp v0 v1 v2 H K) h
theorem W4_hb : HasBody Try.prog 4 := ⟨_, bodyOf Try.f4, Try.func4, by kernel_rfl, rfl⟩
/-- loop.example/g00649/laws.FnExactGuessOf -/
def D5 : Info := ⟨48, fun i => ([], []), fun i => ([], [])⟩
def W5 (v0 : AV) (v1 : AV) (v2 : AV) (H : Heap) (K : AV → Heap → Prop) : Prop :=
 CallT Try.prog 9 [v0, (AV.p (.int .i64 1048576))] H fun v15 H1 =>
 binV tab .lss 3 v15 (AV.p (.int .i64 0)) fun v17 =>
 condV v17 (K (AV.p (.bool true)) H1)
 (CallT Try.prog 11 [v0] H1 fun v20 H2 =>
 CallT Try.prog 23 [v20, v1, v2] H2 fun v23 H3 =>
 extractV v23 0 fun v24 =>
 extractV v23 1 fun v25 =>
 CallT Try.prog 11 [v0] H3 fun v27 H4 =>
 CallT Try.prog 24 [v27, v1, v2] H4 fun v32 H5 =>
 extractV v32 0 fun v33 =>
 extractV v32 1 fun v34 =>
 binV tab .neq 3 v33 v24 fun v37 =>
 grdV v37 false (binV tab .neq 4 v34 v25 fun v41 =>
 condV v41 (K (AV.p (.bool false)) H5)
 (CallT Try.prog 11 [v0] H5 fun v45 H6 =>
 CallT Try.prog 14 [v27, v45] H6 fun v46 H7 =>
 unV .not v46 fun v47 =>
 condV v47 (K (AV.p (.bool false)) H7)
 (K (AV.p (.bool true)) H7)))
 (K (AV.p (.bool false)) H5))
theorem W5_wp (v0 : AV) (v1 : AV) (v2 : AV) (H : Heap) (K : AV → Heap → Prop) : wpC Try.prog tab D5 (bodyOf Try.f5) (retF tab [.tmp 6] K) (nthA [v0, v1, v2]) H = W5 v0 v1 v2 H K := by kernel_rfl
theorem W5_ok {v0 v1 v2 : AV} {H : Heap} {K : AV → Heap → Prop} (h : W5 v0 v1 v2 H K) : CallT Try.prog 5 [v0, v1, v2] H K :=
  CallT.of_wp (D := D5) tab_ok mixed Try.func5 (c := bodyOf Try.f5) (by kernel_rfl) rfl (by kernel_rfl) (rs := #[.tmp 6]) rfl (by decide +kernel) (by kernel_rfl) (W5_wp v0 v1 v2 H K) h
theorem W5_hb : HasBody Try.prog 5 := ⟨_, bodyOf Try.f5, Try.func5, by kernel_rfl, rfl⟩
/-- loop.example/g00649/laws.szSaidS -/
def D9 : Info := ⟨12, fun i => ([], []), fun i => ([], [])⟩
def W9 (v0 : AV) (v1 : AV) (H : Heap) (K : AV → Heap → Prop) : Prop :=
 lenV tab 22 v0 fun v7 =>
 binV tab .sub 3 v1 v7 fun v8 =>
 binV tab .lss 3 v8 (AV.p (.int .i64 0)) fun v10 =>
 condV v10 (K (AV.p (.int .i64 (-1))) H)
 (K v8 H)
theorem W9_wp (v0 : AV) (v1 : AV) (H : Heap) (K : AV → Heap → Prop) : wpC Try.prog tab D9 (bodyOf Try.f9) (retF tab [.tmp 4] K) (nthA [v0, v1]) H = W9 v0 v1 H K := by kernel_rfl
theorem W9_ok {v0 v1 : AV} {H : Heap} {K : AV → Heap → Prop} (h : W9 v0 v1 H K) : CallT Try.prog 9 [v0, v1] H K :=
  CallT.of_wp (D := D9) tab_ok mixed Try.func9 (c := bodyOf Try.f9) (by kernel_rfl) rfl (by kernel_rfl) (rs := #[.tmp 4]) rfl (by decide +kernel) (by kernel_rfl) (W9_wp v0 v1 H K) h
theorem W9_hb : HasBody Try.prog 9 := ⟨_, bodyOf Try.f9, Try.func9, by kernel_rfl, rfl⟩
/-- loop.example/g00649/spec.TrackedOf -/
def D10 : Info := ⟨9, fun i => ([], []), fun i => ([], [])⟩
def W10 (v0 : AV) (H : Heap) (K : AV → Heap → Prop) : Prop :=
 CallT Try.prog 47 [v0] H fun v5 H1 =>
 unV .not v5 fun v6 =>
 condV v6 (K (.tup [(AV.p .nil), (AV.p (.bool false))]) H1)
 (CallT Try.prog 48 [v0] H1 fun v8 H2 =>
 K (.tup [v8, (AV.p (.bool true))]) H2)
theorem W10_wp (v0 : AV) (H : Heap) (K : AV → Heap → Prop) : wpC Try.prog tab D10 (bodyOf Try.f10) (retF tab [.tmp 2, .tmp 3] K) (nthA [v0]) H = W10 v0 H K := by kernel_rfl
theorem W10_ok {v0 : AV} {H : Heap} {K : AV → Heap → Prop} (h : W10 v0 H K) : CallT Try.prog 10 [v0] H K :=
  CallT.of_wp (D := D10) tab_ok mixed Try.func10 (c := bodyOf Try.f10) (by kernel_rfl) rfl (by kernel_rfl) (rs := #[.tmp 2, .tmp 3]) rfl (by decide +kernel) (by kernel_rfl) (W10_wp v0 H K) h
theorem W10_hb : HasBody Try.prog 10 := ⟨_, bodyOf Try.f10, Try.func10, by kernel_rfl, rfl⟩
/-- loop.example/g00649/laws.toSaidS -/
def D11 : Info := ⟨23, fun i => ([], []), fun i => if i = 3 then ([0, 3], [4]) else ([], [])⟩
def L11_0 (K : AV → Heap → Prop) (v0 : AV) (v3 : AV) (v4 : AV) (H : Heap) : Prop := LoopV (wpC Try.prog tab D11 (cAt [1, 1, 0, 1, 0, 0] (bodyOf Try.f11))) [0, 3] (PostF.block 0 (PostF.thenA (wpC Try.prog tab D11 (cAt [1, 1, 1] (bodyOf Try.f11))) (retF tab [.tmp 2] K))) [4] [v0, AV.any, AV.any, v3, v4, AV.any, AV.any, AV.any, AV.any, AV.any, AV.any, AV.any, AV.any, AV.any, AV.any, AV.any, AV.any, AV.any, AV.any, AV.any, AV.any, AV.any, AV.any] H
def B11_0 (K : AV → Heap → Prop) (N1 : AV → Heap → Prop) (v0 : AV) (v3 : AV) (v4 : AV) (H : Heap) : Prop :=
 lenV tab 22 v0 fun v10 =>
 binV tab .lss 3 v4 v10 fun v11 =>
 condV v11 (indexAddrV tab 22 v0 v4 fun v18 =>
 loadV tab 79 v18 H fun v19 =>
 CallT Try.prog 49 [v19] H fun v20 H2 =>
 indexAddrV tab 27 v3 v4 fun v21 =>
 storeV tab 77 v21 v20 H2 fun H3 =>
 binV tab .add 3 v4 (AV.p (.int .i64 1)) fun v13 =>
 N1 v13 H3)
 (K v3 H)
def W11 (v0 : AV) (H : Heap) (K : AV → Heap → Prop) : Prop :=
 lenV tab 22 v0 fun v6 =>
 makeSliceV tab 27 v6 v6 H fun v7 H1 =>
 L11_0 K v0 v7 (AV.p (.int .i64 0)) H1
theorem W11_wp (v0 : AV) (H : Heap) (K : AV → Heap → Prop) : wpC Try.prog tab D11 (bodyOf Try.f11) (retF tab [.tmp 2] K) (nthA [v0]) H = W11 v0 H K := by kernel_rfl
theorem W11_ok {v0 : AV} {H : Heap} {K : AV → Heap → Prop} (h : W11 v0 H K) : CallT Try.prog 11 [v0] H K :=
  CallT.of_wp (D := D11) tab_ok mixed Try.func11 (c := bodyOf Try.f11) (by kernel_rfl) rfl (by kernel_rfl) (rs := #[.tmp 2]) rfl (by decide +kernel) (by kernel_rfl) (W11_wp v0 H K) h
theorem W11_hb : HasBody Try.prog 11 := ⟨_, bodyOf Try.f11, Try.func11, by kernel_rfl, rfl⟩
theorem L11_0_rule {K : AV → Heap → Prop} {v0 v3 v4 : AV} {H : Heap} {σ : Type} (s0 : σ) (f4 : σ → AV) (TH : σ → Heap) (pre : σ → Prop) (μ : σ → Nat)
    (h0 : pre s0 ∧ AV.wk v4 (f4 s0) ∧ Heap.le (TH s0) H)
    (round : ∀ s, pre s → B11_0 K (fun w4 H' => ∃ s', pre s' ∧ μ s' < μ s ∧ AV.wk w4 (f4 s') ∧ Heap.le (TH s') H') v0 v3 (f4 s) (TH s)) :
    L11_0 K v0 v3 v4 H := by
  unfold L11_0
  exact LoopV.mk s0 (fun s => [f4 s]) TH pre μ (fun _ => rfl) (Eq.mp (by kernel_rfl) h0) (fun s hs => Eq.mp (by kernel_rfl) (round s hs))
theorem L11_0_ruleG {K : AV → Heap → Prop} {v0 v3 v4 : AV} {H : Heap} {σ : Type} (s0 : σ) (f4 : σ → AV) (TH : σ → Heap) (pre : σ → Prop) (μ : σ → Nat)
    (h0 : pre s0 ∧ AV.wk v4 (f4 s0) ∧ Heap.le (TH s0) H)
    (round : ∀ s, pre s → ∀ q, TH s q = none → B11_0 K (fun w4 H' => ∃ s', pre s' ∧ μ s' < μ s ∧ AV.wk w4 (f4 s') ∧ Heap.le (TH s') H') v0 v3 (f4 s) ((TH s).set q [])) :
    L11_0 K v0 v3 v4 H := by
  unfold L11_0
  exact LoopV.mkG s0 (fun s => [f4 s]) TH pre μ (fun _ => rfl) (Eq.mp (by kernel_rfl) h0) (fun s hs q hq => Eq.mp (by kernel_rfl) (round s hs q hq))
/-- loop.example/g00649/impl.TrackedOf -/
def D12 : Info := ⟨9, fun i => ([], []), fun i => ([], [])⟩
def W12 (v0 : AV) (H : Heap) (K : AV → Heap → Prop) : Prop :=
 CallT Try.prog 50 [v0] H fun v5 H1 =>
 unV .not v5 fun v6 =>
 condV v6 (K (.tup [(AV.p .nil), (AV.p (.bool false))]) H1)
 (CallT Try.prog 51 [v0] H1 fun v8 H2 =>
 K (.tup [v8, (AV.p (.bool true))]) H2)
theorem W12_wp (v0 : AV) (H : Heap) (K : AV → Heap → Prop) : wpC Try.prog tab D12 (bodyOf Try.f12) (retF tab [.tmp 2, .tmp 3] K) (nthA [v0]) H = W12 v0 H K := by kernel_rfl
theorem W12_ok {v0 : AV} {H : Heap} {K : AV → Heap → Prop} (h : W12 v0 H K) : CallT Try.prog 12 [v0] H K :=
  CallT.of_wp (D := D12) tab_ok mixed Try.func12 (c := bodyOf Try.f12) (by kernel_rfl) rfl (by kernel_rfl) (rs := #[.tmp 2, .tmp 3]) rfl (by decide +kernel) (by kernel_rfl) (W12_wp v0 H K) h
theorem W12_hb : HasBody Try.prog 12 := ⟨_, bodyOf Try.f12, Try.func12, by kernel_rfl, rfl⟩
/-- loop.example/g00649/laws.eqIntS -/
def D13 : Info := ⟨26, fun i => if i = 6 then ([[], [], [0, 1], [0, 1, 2], [], [], [4, 5], [4, 5, 6], [0, 1, 2, 3, 4, 5, 6, 7]], [(0, []), (1, []), (2, []), (3, []), (4, []), (5, []), (6, []), (7, []), (8, [])]) else ([], []), fun i => if i = 4 then ([0, 1], [5]) else ([], [])⟩
def L13_0 (K : AV → Heap → Prop) (v0 : AV) (v1 : AV) (v5 : AV) (H : Heap) : Prop := LoopV (wpC Try.prog tab D13 (cAt [1, 1, 0, 1, 0, 0] (bodyOf Try.f13))) [0, 1] (PostF.block 0 (PostF.thenA (wpC Try.prog tab D13 (cAt [1, 1, 1] (bodyOf Try.f13))) (retF tab [.tmp 4] K))) [5] [v0, v1, AV.any, AV.any, AV.any, v5, AV.any, AV.any, AV.any, AV.any, AV.any, AV.any, AV.any, AV.any, AV.any, AV.any, AV.any, AV.any, AV.any, AV.any, AV.any, AV.any, AV.any, AV.any, AV.any, AV.any] H
def B13_0 (K : AV → Heap → Prop) (N1 : AV → Heap → Prop) (v0 : AV) (v1 : AV) (v5 : AV) (H : Heap) : Prop :=
 lenV tab 24 v0 fun v13 =>
 binV tab .lss 3 v5 v13 fun v14 =>
 condV v14 (indexAddrV tab 24 v0 v5 fun v19 =>
 loadV tab 3 v19 H fun v20 =>
 indexAddrV tab 24 v1 v5 fun v23 =>
 loadV tab 3 v23 H fun v24 =>
 binV tab .neq 3 v20 v24 fun v25 =>
 condV v25 (K (AV.p (.bool false)) H)
 (binV tab .add 3 v5 (AV.p (.int .i64 1)) fun v16 =>
 N1 v16 H))
 (K (AV.p (.bool true)) H)
def W13 (v0 : AV) (v1 : AV) (H : Heap) (K : AV → Heap → Prop) : Prop :=
 lenV tab 24 v0 fun v7 =>
 lenV tab 24 v1 fun v9 =>
 binV tab .neq 3 v7 v9 fun v10 =>
 condV v10 (K (AV.p (.bool false)) H)
 (L13_0 K v0 v1 (AV.p (.int .i64 0)) H)
theorem W13_wp (v0 : AV) (v1 : AV) (H : Heap) (K : AV → Heap → Prop) : wpC Try.prog tab D13 (bodyOf Try.f13) (retF tab [.tmp 4] K) (nthA [v0, v1]) H = W13 v0 v1 H K := by kernel_rfl
theorem W13_ok {v0 v1 : AV} {H : Heap} {K : AV → Heap → Prop} (h : W13 v0 v1 H K) : CallT Try.prog 13 [v0, v1] H K :=
  CallT.of_wp (D := D13) tab_ok mixed Try.func13 (c := bodyOf Try.f13) (by kernel_rfl) rfl (by kernel_rfl) (rs := #[.tmp 4]) rfl (by decide +kernel) (by kernel_rfl) (W13_wp v0 v1 H K) h
theorem W13_hb : HasBody Try.prog 13 := ⟨_, bodyOf Try.f13, Try.func13, by kernel_rfl, rfl⟩
theorem L13_0_rule {K : AV → Heap → Prop} {v0 v1 v5 : AV} {H : Heap} {σ : Type} (s0 : σ) (f5 : σ → AV) (TH : σ → Heap) (pre : σ → Prop) (μ : σ → Nat)
    (h0 : pre s0 ∧ AV.wk v5 (f5 s0) ∧ Heap.le (TH s0) H)
    (round : ∀ s, pre s → B13_0 K (fun w5 H' => ∃ s', pre s' ∧ μ s' < μ s ∧ AV.wk w5 (f5 s') ∧ Heap.le (TH s') H') v0 v1 (f5 s) (TH s)) :
    L13_0 K v0 v1 v5 H := by
  unfold L13_0
  exact LoopV.mk s0 (fun s => [f5 s]) TH pre μ (fun _ => rfl) (Eq.mp (by kernel_rfl) h0) (fun s hs => Eq.mp (by kernel_rfl) (round s hs))
theorem L13_0_ruleG {K : AV → Heap → Prop} {v0 v1 v5 : AV} {H : Heap} {σ : Type} (s0 : σ) (f5 : σ → AV) (TH : σ → Heap) (pre : σ → Prop) (μ : σ → Nat)
    (h0 : pre s0 ∧ AV.wk v5 (f5 s0) ∧ Heap.le (TH s0) H)
    (round : ∀ s, pre s → ∀ q, TH s q = none → B13_0 K (fun w5 H' => ∃ s', pre s' ∧ μ s' < μ s ∧ AV.wk w5 (f5 s') ∧ Heap.le (TH s') H') v0 v1 (f5 s) ((TH s).set q [])) :
    L13_0 K v0 v1 v5 H := by
  unfold L13_0
  exact LoopV.mkG s0 (fun s => [f5 s]) TH pre μ (fun _ => rfl) (Eq.mp (by kernel_rfl) h0) (fun s hs q hq => Eq.mp (by kernel_rfl) (round s hs q hq))
/-- loop.example/g00649/laws.eqSaidS -/
def D14 : Info := ⟨27, fun i => if i = 6 then ([[], [], [0, 1], [0, 1, 2], [], [], [4, 5], [4, 5, 6], [0, 1, 2, 3, 4, 5, 6, 7], [0, 1, 2, 3, 4, 5, 6, 7, 8]], [(0, []), (1, []), (2, []), (3, []), (4, []), (5, []), (6, []), (7, []), (8, []), (9, [])]) else ([], []), fun i => if i = 4 then ([0, 1], [5]) else ([], [])⟩
def L14_0 (K : AV → Heap → Prop) (v0 : AV) (v1 : AV) (v5 : AV) (H : Heap) : Prop := LoopV (wpC Try.prog tab D14 (cAt [1, 1, 0, 1, 0, 0] (bodyOf Try.f14))) [0, 1] (PostF.block 0 (PostF.thenA (wpC Try.prog tab D14 (cAt [1, 1, 1] (bodyOf Try.f14))) (retF tab [.tmp 4] K))) [5] [v0, v1, AV.any, AV.any, AV.any, v5, AV.any, AV.any, AV.any, AV.any, AV.any, AV.any, AV.any, AV.any, AV.any, AV.any, AV.any, AV.any, AV.any, AV.any, AV.any, AV.any, AV.any, AV.any, AV.any, AV.any, AV.any] H
def B14_0 (K : AV → Heap → Prop) (N1 : AV → Heap → Prop) (v0 : AV) (v1 : AV) (v5 : AV) (H : Heap) : Prop :=
 lenV tab 27 v0 fun v13 =>
 binV tab .lss 3 v5 v13 fun v14 =>
 condV v14 (indexAddrV tab 27 v0 v5 fun v19 =>
 loadV tab 77 v19 H fun v20 =>
 indexAddrV tab 27 v1 v5 fun v23 =>
 loadV tab 77 v23 H fun v24 =>
 CallT Try.prog 52 [v20, v24] H fun v25 H1 =>
 unV .not v25 fun v26 =>
 condV v26 (K (AV.p (.bool false)) H1)
 (binV tab .add 3 v5 (AV.p (.int .i64 1)) fun v16 =>
 N1 v16 H1))
 (K (AV.p (.bool true)) H)
def W14 (v0 : AV) (v1 : AV) (H : Heap) (K : AV → Heap → Prop) : Prop :=
 lenV tab 27 v0 fun v7 =>
 lenV tab 27 v1 fun v9 =>
 binV tab .neq 3 v7 v9 fun v10 =>
 condV v10 (K (AV.p (.bool false)) H)
 (L14_0 K v0 v1 (AV.p (.int .i64 0)) H)
theorem W14_wp (v0 : AV) (v1 : AV) (H : Heap) (K : AV → Heap → Prop) : wpC Try.prog tab D14 (bodyOf Try.f14) (retF tab [.tmp 4] K) (nthA [v0, v1]) H = W14 v0 v1 H K := by kernel_rfl
theorem W14_ok {v0 v1 : AV} {H : Heap} {K : AV → Heap → Prop} (h : W14 v0 v1 H K) : CallT Try.prog 14 [v0, v1] H K :=
  CallT.of_wp (D := D14) tab_ok mixed Try.func14 (c := bodyOf Try.f14) (by kernel_rfl) rfl (by kernel_rfl) (rs := #[.tmp 4]) rfl (by decide +kernel) (by kernel_rfl) (W14_wp v0 v1 H K) h
theorem W14_hb : HasBody Try.prog 14 := ⟨_, bodyOf Try.f14, Try.func14, by kernel_rfl, rfl⟩
theorem L14_0_rule {K : AV → Heap → Prop} {v0 v1 v5 : AV} {H : Heap} {σ : Type} (s0 : σ) (f5 : σ → AV) (TH : σ → Heap) (pre : σ → Prop) (μ : σ → Nat)
    (h0 : pre s0 ∧ AV.wk v5 (f5 s0) ∧ Heap.le (TH s0) H)
    (round : ∀ s, pre s → B14_0 K (fun w5 H' => ∃ s', pre s' ∧ μ s' < μ s ∧ AV.wk w5 (f5 s') ∧ Heap.le (TH s') H') v0 v1 (f5 s) (TH s)) :
    L14_0 K v0 v1 v5 H := by
  unfold L14_0
  exact LoopV.mk s0 (fun s => [f5 s]) TH pre μ (fun _ => rfl) (Eq.mp (by kernel_rfl) h0) (fun s hs => Eq.mp (by kernel_rfl) (round s hs))
theorem L14_0_ruleG {K : AV → Heap → Prop} {v0 v1 v5 : AV} {H : Heap} {σ : Type} (s0 : σ) (f5 : σ → AV) (TH : σ → Heap) (pre : σ → Prop) (μ : σ → Nat)
    (h0 : pre s0 ∧ AV.wk v5 (f5 s0) ∧ Heap.le (TH s0) H)
    (round : ∀ s, pre s → ∀ q, TH s q = none → B14_0 K (fun w5 H' => ∃ s', pre s' ∧ μ s' < μ s ∧ AV.wk w5 (f5 s') ∧ Heap.le (TH s') H') v0 v1 (f5 s) ((TH s).set q [])) :
    L14_0 K v0 v1 v5 H := by
  unfold L14_0
  exact LoopV.mkG s0 (fun s => [f5 s]) TH pre μ (fun _ => rfl) (Eq.mp (by kernel_rfl) h0) (fun s hs q hq => Eq.mp (by kernel_rfl) (round s hs q hq))
/-- loop.example/g00649/laws.markSaidS -/
def D15 : Info := ⟨27, fun i => ([], []), fun i => if i = 2 then ([0], [1, 5]) else ([], [])⟩
def L15_0 (K : AV → Heap → Prop) (v0 : AV) (v1 : AV) (v5 : AV) (H : Heap) : Prop := LoopV (wpC Try.prog tab D15 (cAt [1, 0, 1, 0, 0] (bodyOf Try.f15))) [0] (PostF.block 0 (PostF.thenA (wpC Try.prog tab D15 (cAt [1, 1] (bodyOf Try.f15))) (retF tab [.tmp 4] K))) [1, 5] [v0, v1, AV.any, AV.any, AV.any, v5, AV.any, AV.any, AV.any, AV.any, AV.any, AV.any, AV.any, AV.any, AV.any, AV.any, AV.any, AV.any, AV.any, AV.any, AV.any, AV.any, AV.any, AV.any, AV.any, AV.any, AV.any] H
def B15_0 (K : AV → Heap → Prop) (N1 : AV → AV → Heap → Prop) (v0 : AV) (v1 : AV) (v5 : AV) (H : Heap) : Prop :=
 lenV tab 27 v0 fun v8 =>
 binV tab .lss 3 v5 v8 fun v9 =>
 condV v9 (indexAddrV tab 27 v0 v5 fun v15 =>
 fieldAddrV tab 77 v15 0 fun v16 =>
 storeV tab 3 v16 v1 H fun H1 =>
 binV tab .add 3 v1 (AV.p (.int .i64 1)) fun v18 =>
 indexAddrV tab 27 v0 v5 fun v22 =>
 fieldAddrV tab 77 v22 1 fun v23 =>
 storeV tab 3 v23 v18 H1 fun H2 =>
 binV tab .add 3 v18 (AV.p (.int .i64 1)) fun v25 =>
 binV tab .add 3 v5 (AV.p (.int .i64 1)) fun v11 =>
 N1 v25 v11 H2)
 (K v1 H)
def W15 (v0 : AV) (v1 : AV) (H : Heap) (K : AV → Heap → Prop) : Prop :=
 L15_0 K v0 v1 (AV.p (.int .i64 0)) H
theorem W15_wp (v0 : AV) (v1 : AV) (H : Heap) (K : AV → Heap → Prop) : wpC Try.prog tab D15 (bodyOf Try.f15) (retF tab [.tmp 4] K) (nthA [v0, v1]) H = W15 v0 v1 H K := by kernel_rfl
theorem W15_ok {v0 v1 : AV} {H : Heap} {K : AV → Heap → Prop} (h : W15 v0 v1 H K) : CallT Try.prog 15 [v0, v1] H K :=
  CallT.of_wp (D := D15) tab_ok mixed Try.func15 (c := bodyOf Try.f15) (by kernel_rfl) rfl (by kernel_rfl) (rs := #[.tmp 4]) rfl (by decide +kernel) (by kernel_rfl) (W15_wp v0 v1 H K) h
theorem W15_hb : HasBody Try.prog 15 := ⟨_, bodyOf Try.f15, Try.func15, by kernel_rfl, rfl⟩
theorem L15_0_rule {K : AV → Heap → Prop} {v0 v1 v5 : AV} {H : Heap} {σ : Type} (s0 : σ) (f1 : σ → AV) (f5 : σ → AV) (TH : σ → Heap) (pre : σ → Prop) (μ : σ → Nat)
    (h0 : pre s0 ∧ AV.wk v1 (f1 s0) ∧ AV.wk v5 (f5 s0) ∧ Heap.le (TH s0) H)
    (round : ∀ s, pre s → B15_0 K (fun w1 w5 H' => ∃ s', pre s' ∧ μ s' < μ s ∧ AV.wk w1 (f1 s') ∧ AV.wk w5 (f5 s') ∧ Heap.le (TH s') H') v0 (f1 s) (f5 s) (TH s)) :
    L15_0 K v0 v1 v5 H := by
  unfold L15_0
  exact LoopV.mk s0 (fun s => [f1 s, f5 s]) TH pre μ (fun _ => rfl) (Eq.mp (by kernel_rfl) h0) (fun s hs => Eq.mp (by kernel_rfl) (round s hs))
theorem L15_0_ruleG {K : AV → Heap → Prop} {v0 v1 v5 : AV} {H : Heap} {σ : Type} (s0 : σ) (f1 : σ → AV) (f5 : σ → AV) (TH : σ → Heap) (pre : σ → Prop) (μ : σ → Nat)
    (h0 : pre s0 ∧ AV.wk v1 (f1 s0) ∧ AV.wk v5 (f5 s0) ∧ Heap.le (TH s0) H)
    (round : ∀ s, pre s → ∀ q, TH s q = none → B15_0 K (fun w1 w5 H' => ∃ s', pre s' ∧ μ s' < μ s ∧ AV.wk w1 (f1 s') ∧ AV.wk w5 (f5 s') ∧ Heap.le (TH s') H') v0 (f1 s) (f5 s) ((TH s).set q [])) :
    L15_0 K v0 v1 v5 H := by
  unfold L15_0
  exact LoopV.mkG s0 (fun s => [f1 s, f5 s]) TH pre μ (fun _ => rfl) (Eq.mp (by kernel_rfl) h0) (fun s hs q hq => Eq.mp (by kernel_rfl) (round s hs q hq))
/-- loop.example/g00649/laws.markIntS -/
def D16 : Info := ⟨19, fun i => ([], []), fun i => if i = 2 then ([0], [1, 5]) else ([], [])⟩
def L16_0 (K : AV → Heap → Prop) (v0 : AV) (v1 : AV) (v5 : AV) (H : Heap) : Prop := LoopV (wpC Try.prog tab D16 (cAt [1, 0, 1, 0, 0] (bodyOf Try.f16))) [0] (PostF.block 0 (PostF.thenA (wpC Try.prog tab D16 (cAt [1, 1] (bodyOf Try.f16))) (retF tab [.tmp 4] K))) [1, 5] [v0, v1, AV.any, AV.any, AV.any, v5, AV.any, AV.any, AV.any, AV.any, AV.any, AV.any, AV.any, AV.any, AV.any, AV.any, AV.any, AV.any, AV.any] H
def B16_0 (K : AV → Heap → Prop) (N1 : AV → AV → Heap → Prop) (v0 : AV) (v1 : AV) (v5 : AV) (H : Heap) : Prop :=
 lenV tab 24 v0 fun v8 =>
 binV tab .lss 3 v5 v8 fun v9 =>
 condV v9 (indexAddrV tab 24 v0 v5 fun v15 =>
 storeV tab 3 v15 v1 H fun H1 =>
 binV tab .add 3 v1 (AV.p (.int .i64 1)) fun v17 =>
 binV tab .add 3 v5 (AV.p (.int .i64 1)) fun v11 =>
 N1 v17 v11 H1)
 (K v1 H)
def W16 (v0 : AV) (v1 : AV) (H : Heap) (K : AV → Heap → Prop) : Prop :=
 L16_0 K v0 v1 (AV.p (.int .i64 0)) H
theorem W16_wp (v0 : AV) (v1 : AV) (H : Heap) (K : AV → Heap → Prop) : wpC Try.prog tab D16 (bodyOf Try.f16) (retF tab [.tmp 4] K) (nthA [v0, v1]) H = W16 v0 v1 H K := by kernel_rfl
theorem W16_ok {v0 v1 : AV} {H : Heap} {K : AV → Heap → Prop} (h : W16 v0 v1 H K) : CallT Try.prog 16 [v0, v1] H K :=
  CallT.of_wp (D := D16) tab_ok mixed Try.func16 (c := bodyOf Try.f16) (by kernel_rfl) rfl (by kernel_rfl) (rs := #[.tmp 4]) rfl (by decide +kernel) (by kernel_rfl) (W16_wp v0 v1 H K) h
theorem W16_hb : HasBody Try.prog 16 := ⟨_, bodyOf Try.f16, Try.func16, by kernel_rfl, rfl⟩
theorem L16_0_rule {K : AV → Heap → Prop} {v0 v1 v5 : AV} {H : Heap} {σ : Type} (s0 : σ) (f1 : σ → AV) (f5 : σ → AV) (TH : σ → Heap) (pre : σ → Prop) (μ : σ → Nat)
    (h0 : pre s0 ∧ AV.wk v1 (f1 s0) ∧ AV.wk v5 (f5 s0) ∧ Heap.le (TH s0) H)
    (round : ∀ s, pre s → B16_0 K (fun w1 w5 H' => ∃ s', pre s' ∧ μ s' < μ s ∧ AV.wk w1 (f1 s') ∧ AV.wk w5 (f5 s') ∧ Heap.le (TH s') H') v0 (f1 s) (f5 s) (TH s)) :
    L16_0 K v0 v1 v5 H := by
  unfold L16_0
  exact LoopV.mk s0 (fun s => [f1 s, f5 s]) TH pre μ (fun _ => rfl) (Eq.mp (by kernel_rfl) h0) (fun s hs => Eq.mp (by kernel_rfl) (round s hs))
theorem L16_0_ruleG {K : AV → Heap → Prop} {v0 v1 v5 : AV} {H : Heap} {σ : Type} (s0 : σ) (f1 : σ → AV) (f5 : σ → AV) (TH : σ → Heap) (pre : σ → Prop) (μ : σ → Nat)
    (h0 : pre s0 ∧ AV.wk v1 (f1 s0) ∧ AV.wk v5 (f5 s0) ∧ Heap.le (TH s0) H)
    (round : ∀ s, pre s → ∀ q, TH s q = none → B16_0 K (fun w1 w5 H' => ∃ s', pre s' ∧ μ s' < μ s ∧ AV.wk w1 (f1 s') ∧ AV.wk w5 (f5 s') ∧ Heap.le (TH s') H') v0 (f1 s) (f5 s) ((TH s).set q [])) :
    L16_0 K v0 v1 v5 H := by
  unfold L16_0
  exact LoopV.mkG s0 (fun s => [f1 s, f5 s]) TH pre μ (fun _ => rfl) (Eq.mp (by kernel_rfl) h0) (fun s hs q hq => Eq.mp (by kernel_rfl) (round s hs q hq))
/-- loop.example/g00649/laws.heldIntS -/
def D17 : Info := ⟨21, fun i => ([], []), fun i => if i = 2 then ([0], [1, 5]) else ([], [])⟩
def L17_0 (K : AV → Heap → Prop) (v0 : AV) (v1 : AV) (v5 : AV) (H : Heap) : Prop := LoopV (wpC Try.prog tab D17 (cAt [1, 0, 1, 0, 0] (bodyOf Try.f17))) [0] (PostF.block 0 (PostF.thenA (wpC Try.prog tab D17 (cAt [1, 1] (bodyOf Try.f17))) (retF tab [.tmp 4] K))) [1, 5] [v0, v1, AV.any, AV.any, AV.any, v5, AV.any, AV.any, AV.any, AV.any, AV.any, AV.any, AV.any, AV.any, AV.any, AV.any, AV.any, AV.any, AV.any, AV.any, AV.any] H
def B17_0 (K : AV → Heap → Prop) (N1 : AV → AV → Heap → Prop) (v0 : AV) (v1 : AV) (v5 : AV) (H : Heap) : Prop :=
 lenV tab 24 v0 fun v8 =>
 binV tab .lss 3 v5 v8 fun v9 =>
 condV v9 (indexAddrV tab 24 v0 v5 fun v14 =>
 loadV tab 3 v14 H fun v15 =>
 binV tab .neq 3 v15 v1 fun v17 =>
 condV v17 (K (AV.p (.int .i64 (-1))) H)
 (binV tab .add 3 v1 (AV.p (.int .i64 1)) fun v19 =>
 binV tab .add 3 v5 (AV.p (.int .i64 1)) fun v11 =>
 N1 v19 v11 H))
 (K v1 H)
def W17 (v0 : AV) (v1 : AV) (H : Heap) (K : AV → Heap → Prop) : Prop :=
 L17_0 K v0 v1 (AV.p (.int .i64 0)) H
theorem W17_wp (v0 : AV) (v1 : AV) (H : Heap) (K : AV → Heap → Prop) : wpC Try.prog tab D17 (bodyOf Try.f17) (retF tab [.tmp 4] K) (nthA [v0, v1]) H = W17 v0 v1 H K := by kernel_rfl
theorem W17_ok {v0 v1 : AV} {H : Heap} {K : AV → Heap → Prop} (h : W17 v0 v1 H K) : CallT Try.prog 17 [v0, v1] H K :=
  CallT.of_wp (D := D17) tab_ok mixed Try.func17 (c := bodyOf Try.f17) (by kernel_rfl) rfl (by kernel_rfl) (rs := #[.tmp 4]) rfl (by decide +kernel) (by kernel_rfl) (W17_wp v0 v1 H K) h
theorem W17_hb : HasBody Try.prog 17 := ⟨_, bodyOf Try.f17, Try.func17, by kernel_rfl, rfl⟩
theorem L17_0_rule {K : AV → Heap → Prop} {v0 v1 v5 : AV} {H : Heap} {σ : Type} (s0 : σ) (f1 : σ → AV) (f5 : σ → AV) (TH : σ → Heap) (pre : σ → Prop) (μ : σ → Nat)
    (h0 : pre s0 ∧ AV.wk v1 (f1 s0) ∧ AV.wk v5 (f5 s0) ∧ Heap.le (TH s0) H)
    (round : ∀ s, pre s → B17_0 K (fun w1 w5 H' => ∃ s', pre s' ∧ μ s' < μ s ∧ AV.wk w1 (f1 s') ∧ AV.wk w5 (f5 s') ∧ Heap.le (TH s') H') v0 (f1 s) (f5 s) (TH s)) :
    L17_0 K v0 v1 v5 H := by
  unfold L17_0
  exact LoopV.mk s0 (fun s => [f1 s, f5 s]) TH pre μ (fun _ => rfl) (Eq.mp (by kernel_rfl) h0) (fun s hs => Eq.mp (by kernel_rfl) (round s hs))
theorem L17_0_ruleG {K : AV → Heap → Prop} {v0 v1 v5 : AV} {H : Heap} {σ : Type} (s0 : σ) (f1 : σ → AV) (f5 : σ → AV) (TH : σ → Heap) (pre : σ → Prop) (μ : σ → Nat)
    (h0 : pre s0 ∧ AV.wk v1 (f1 s0) ∧ AV.wk v5 (f5 s0) ∧ Heap.le (TH s0) H)
    (round : ∀ s, pre s → ∀ q, TH s q = none → B17_0 K (fun w1 w5 H' => ∃ s', pre s' ∧ μ s' < μ s ∧ AV.wk w1 (f1 s') ∧ AV.wk w5 (f5 s') ∧ Heap.le (TH s') H') v0 (f1 s) (f5 s) ((TH s).set q [])) :
    L17_0 K v0 v1 v5 H := by
  unfold L17_0
  exact LoopV.mkG s0 (fun s => [f1 s, f5 s]) TH pre μ (fun _ => rfl) (Eq.mp (by kernel_rfl) h0) (fun s hs q hq => Eq.mp (by kernel_rfl) (round s hs q hq))
/-- loop.example/g00649/spec.EvalNow -/
def D18 : Info := ⟨19, fun i => ([], []), fun i => ([], [])⟩
def W18 (v0 : AV) (v1 : AV) (v2 : AV) (H : Heap) (K : AV → Heap → Prop) : Prop :=
 CallT Try.prog 53 [v0, v1, v2] H fun v11 H1 =>
 unV .not v11 fun v12 =>
 condV v12 (K (.tup [(AV.p .nil), (AV.p (.bool false))]) H1)
 (CallT Try.prog 48 [v0] H1 fun v15 H2 =>
 CallT Try.prog 54 [v0, v15, v1, v2] H2 fun v18 H3 =>
 K (.tup [v18, (AV.p (.bool true))]) H3)
theorem W18_wp (v0 : AV) (v1 : AV) (v2 : AV) (H : Heap) (K : AV → Heap → Prop) : wpC Try.prog tab D18 (bodyOf Try.f18) (retF tab [.tmp 6, .tmp 7] K) (nthA [v0, v1, v2]) H = W18 v0 v1 v2 H K := by kernel_rfl
theorem W18_ok {v0 v1 v2 : AV} {H : Heap} {K : AV → Heap → Prop} (h : W18 v0 v1 v2 H K) : CallT Try.prog 18 [v0, v1, v2] H K :=
  CallT.of_wp (D := D18) tab_ok mixed Try.func18 (c := bodyOf Try.f18) (by kernel_rfl) rfl (by kernel_rfl) (rs := #[.tmp 6, .tmp 7]) rfl (by decide +kernel) (by kernel_rfl) (W18_wp v0 v1 v2 H K) h
theorem W18_hb : HasBody Try.prog 18 := ⟨_, bodyOf Try.f18, Try.func18, by kernel_rfl, rfl⟩
/-- loop.example/g00649/impl.EvalNow -/
def D19 : Info := ⟨17, fun i => ([], []), fun i => ([], [])⟩
def W19 (v0 : AV) (v1 : AV) (v2 : AV) (H : Heap) (K : AV → Heap → Prop) : Prop :=
 CallT Try.prog 55 [v0, v1, v2] H fun v11 H1 =>
 unV .not v11 fun v12 =>
 condV v12 (K (.tup [(AV.p .nil), (AV.p (.bool false))]) H1)
 (CallT Try.prog 56 [v0, v1, v2] H1 fun v16 H2 =>
 K (.tup [v16, (AV.p (.bool true))]) H2)
theorem W19_wp (v0 : AV) (v1 : AV) (v2 : AV) (H : Heap) (K : AV → Heap → Prop) : wpC Try.prog tab D19 (bodyOf Try.f19) (retF tab [.tmp 6, .tmp 7] K) (nthA [v0, v1, v2]) H = W19 v0 v1 v2 H K := by kernel_rfl
theorem W19_ok {v0 v1 v2 : AV} {H : Heap} {K : AV → Heap → Prop} (h : W19 v0 v1 v2 H K) : CallT Try.prog 19 [v0, v1, v2] H K :=
  CallT.of_wp (D := D19) tab_ok mixed Try.func19 (c := bodyOf Try.f19) (by kernel_rfl) rfl (by kernel_rfl) (rs := #[.tmp 6, .tmp 7]) rfl (by decide +kernel) (by kernel_rfl) (W19_wp v0 v1 v2 H K) h
theorem W19_hb : HasBody Try.prog 19 := ⟨_, bodyOf Try.f19, Try.func19, by kernel_rfl, rfl⟩
/-- loop.example/g00649/laws.eqBoolS -/
def D20 : Info := ⟨26, fun i => if i = 6 then ([[], [], [0, 1], [0, 1, 2], [], [], [4, 5], [4, 5, 6], [0, 1, 2, 3, 4, 5, 6, 7]], [(0, []), (1, []), (2, []), (3, []), (4, []), (5, []), (6, []), (7, []), (8, [])]) else ([], []), fun i => if i = 4 then ([0, 1], [5]) else ([], [])⟩
def L20_0 (K : AV → Heap → Prop) (v0 : AV) (v1 : AV) (v5 : AV) (H : Heap) : Prop := LoopV (wpC Try.prog tab D20 (cAt [1, 1, 0, 1, 0, 0] (bodyOf Try.f20))) [0, 1] (PostF.block 0 (PostF.thenA (wpC Try.prog tab D20 (cAt [1, 1, 1] (bodyOf Try.f20))) (retF tab [.tmp 4] K))) [5] [v0, v1, AV.any, AV.any, AV.any, v5, AV.any, AV.any, AV.any, AV.any, AV.any, AV.any, AV.any, AV.any, AV.any, AV.any, AV.any, AV.any, AV.any, AV.any, AV.any, AV.any, AV.any, AV.any, AV.any, AV.any] H
def B20_0 (K : AV → Heap → Prop) (N1 : AV → Heap → Prop) (v0 : AV) (v1 : AV) (v5 : AV) (H : Heap) : Prop :=
 lenV tab 34 v0 fun v13 =>
 binV tab .lss 3 v5 v13 fun v14 =>
 condV v14 (indexAddrV tab 34 v0 v5 fun v19 =>
 loadV tab 4 v19 H fun v20 =>
 indexAddrV tab 34 v1 v5 fun v23 =>
 loadV tab 4 v23 H fun v24 =>
 binV tab .neq 4 v20 v24 fun v25 =>
 condV v25 (K (AV.p (.bool false)) H)
 (binV tab .add 3 v5 (AV.p (.int .i64 1)) fun v16 =>
 N1 v16 H))
 (K (AV.p (.bool true)) H)
def W20 (v0 : AV) (v1 : AV) (H : Heap) (K : AV → Heap → Prop) : Prop :=
 lenV tab 34 v0 fun v7 =>
 lenV tab 34 v1 fun v9 =>
 binV tab .neq 3 v7 v9 fun v10 =>
 condV v10 (K (AV.p (.bool false)) H)
 (L20_0 K v0 v1 (AV.p (.int .i64 0)) H)
theorem W20_wp (v0 : AV) (v1 : AV) (H : Heap) (K : AV → Heap → Prop) : wpC Try.prog tab D20 (bodyOf Try.f20) (retF tab [.tmp 4] K) (nthA [v0, v1]) H = W20 v0 v1 H K := by kernel_rfl
theorem W20_ok {v0 v1 : AV} {H : Heap} {K : AV → Heap → Prop} (h : W20 v0 v1 H K) : CallT Try.prog 20 [v0, v1] H K :=
  CallT.of_wp (D := D20) tab_ok mixed Try.func20 (c := bodyOf Try.f20) (by kernel_rfl) rfl (by kernel_rfl) (rs := #[.tmp 4]) rfl (by decide +kernel) (by kernel_rfl) (W20_wp v0 v1 H K) h
theorem W20_hb : HasBody Try.prog 20 := ⟨_, bodyOf Try.f20, Try.func20, by kernel_rfl, rfl⟩
theorem L20_0_rule {K : AV → Heap → Prop} {v0 v1 v5 : AV} {H : Heap} {σ : Type} (s0 : σ) (f5 : σ → AV) (TH : σ → Heap) (pre : σ → Prop) (μ : σ → Nat)
    (h0 : pre s0 ∧ AV.wk v5 (f5 s0) ∧ Heap.le (TH s0) H)
    (round : ∀ s, pre s → B20_0 K (fun w5 H' => ∃ s', pre s' ∧ μ s' < μ s ∧ AV.wk w5 (f5 s') ∧ Heap.le (TH s') H') v0 v1 (f5 s) (TH s)) :
    L20_0 K v0 v1 v5 H := by
  unfold L20_0
  exact LoopV.mk s0 (fun s => [f5 s]) TH pre μ (fun _ => rfl) (Eq.mp (by kernel_rfl) h0) (fun s hs => Eq.mp (by kernel_rfl) (round s hs))
theorem L20_0_ruleG {K : AV → Heap → Prop} {v0 v1 v5 : AV} {H : Heap} {σ : Type} (s0 : σ) (f5 : σ → AV) (TH : σ → Heap) (pre : σ → Prop) (μ : σ → Nat)
    (h0 : pre s0 ∧ AV.wk v5 (f5 s0) ∧ Heap.le (TH s0) H)
    (round : ∀ s, pre s → ∀ q, TH s q = none → B20_0 K (fun w5 H' => ∃ s', pre s' ∧ μ s' < μ s ∧ AV.wk w5 (f5 s') ∧ Heap.le (TH s') H') v0 v1 (f5 s) ((TH s).set q [])) :
    L20_0 K v0 v1 v5 H := by
  unfold L20_0
  exact LoopV.mkG s0 (fun s => [f5 s]) TH pre μ (fun _ => rfl) (Eq.mp (by kernel_rfl) h0) (fun s hs q hq => Eq.mp (by kernel_rfl) (round s hs q hq))
/-- loop.example/g00649/laws.markBoolS -/
def D21 : Info := ⟨21, fun i => ([], []), fun i => if i = 2 then ([0], [1, 5]) else ([], [])⟩
def L21_0 (K : AV → Heap → Prop) (v0 : AV) (v1 : AV) (v5 : AV) (H : Heap) : Prop := LoopV (wpC Try.prog tab D21 (cAt [1, 0, 1, 0, 0] (bodyOf Try.f21))) [0] (PostF.block 0 (PostF.thenA (wpC Try.prog tab D21 (cAt [1, 1] (bodyOf Try.f21))) (retF tab [.tmp 4] K))) [1, 5] [v0, v1, AV.any, AV.any, AV.any, v5, AV.any, AV.any, AV.any, AV.any, AV.any, AV.any, AV.any, AV.any, AV.any, AV.any, AV.any, AV.any, AV.any, AV.any, AV.any] H
def B21_0 (K : AV → Heap → Prop) (N1 : AV → AV → Heap → Prop) (v0 : AV) (v1 : AV) (v5 : AV) (H : Heap) : Prop :=
 lenV tab 34 v0 fun v8 =>
 binV tab .lss 3 v5 v8 fun v9 =>
 condV v9 (binV tab .rem 3 v1 (AV.p (.int .i64 3)) fun v15 =>
 binV tab .eql 3 v15 (AV.p (.int .i64 0)) fun v16 =>
 indexAddrV tab 34 v0 v5 fun v17 =>
 storeV tab 4 v17 v16 H fun H1 =>
 binV tab .add 3 v1 (AV.p (.int .i64 1)) fun v19 =>
 binV tab .add 3 v5 (AV.p (.int .i64 1)) fun v11 =>
 N1 v19 v11 H1)
 (K v1 H)
def W21 (v0 : AV) (v1 : AV) (H : Heap) (K : AV → Heap → Prop) : Prop :=
 L21_0 K v0 v1 (AV.p (.int .i64 0)) H
theorem W21_wp (v0 : AV) (v1 : AV) (H : Heap) (K : AV → Heap → Prop) : wpC Try.prog tab D21 (bodyOf Try.f21) (retF tab [.tmp 4] K) (nthA [v0, v1]) H = W21 v0 v1 H K := by kernel_rfl
theorem W21_ok {v0 v1 : AV} {H : Heap} {K : AV → Heap → Prop} (h : W21 v0 v1 H K) : CallT Try.prog 21 [v0, v1] H K :=
  CallT.of_wp (D := D21) tab_ok mixed Try.func21 (c := bodyOf Try.f21) (by kernel_rfl) rfl (by kernel_rfl) (rs := #[.tmp 4]) rfl (by decide +kernel) (by kernel_rfl) (W21_wp v0 v1 H K) h
theorem W21_hb : HasBody Try.prog 21 := ⟨_, bodyOf Try.f21, Try.func21, by kernel_rfl, rfl⟩
theorem L21_0_rule {K : AV → Heap → Prop} {v0 v1 v5 : AV} {H : Heap} {σ : Type} (s0 : σ) (f1 : σ → AV) (f5 : σ → AV) (TH : σ → Heap) (pre : σ → Prop) (μ : σ → Nat)
    (h0 : pre s0 ∧ AV.wk v1 (f1 s0) ∧ AV.wk v5 (f5 s0) ∧ Heap.le (TH s0) H)
    (round : ∀ s, pre s → B21_0 K (fun w1 w5 H' => ∃ s', pre s' ∧ μ s' < μ s ∧ AV.wk w1 (f1 s') ∧ AV.wk w5 (f5 s') ∧ Heap.le (TH s') H') v0 (f1 s) (f5 s) (TH s)) :
    L21_0 K v0 v1 v5 H := by
  unfold L21_0
  exact LoopV.mk s0 (fun s => [f1 s, f5 s]) TH pre μ (fun _ => rfl) (Eq.mp (by kernel_rfl) h0) (fun s hs => Eq.mp (by kernel_rfl) (round s hs))
theorem L21_0_ruleG {K : AV → Heap → Prop} {v0 v1 v5 : AV} {H : Heap} {σ : Type} (s0 : σ) (f1 : σ → AV) (f5 : σ → AV) (TH : σ → Heap) (pre : σ → Prop) (μ : σ → Nat)
    (h0 : pre s0 ∧ AV.wk v1 (f1 s0) ∧ AV.wk v5 (f5 s0) ∧ Heap.le (TH s0) H)
    (round : ∀ s, pre s → ∀ q, TH s q = none → B21_0 K (fun w1 w5 H' => ∃ s', pre s' ∧ μ s' < μ s ∧ AV.wk w1 (f1 s') ∧ AV.wk w5 (f5 s') ∧ Heap.le (TH s') H') v0 (f1 s) (f5 s) ((TH s).set q [])) :
    L21_0 K v0 v1 v5 H := by
  unfold L21_0
  exact LoopV.mkG s0 (fun s => [f1 s, f5 s]) TH pre μ (fun _ => rfl) (Eq.mp (by kernel_rfl) h0) (fun s hs q hq => Eq.mp (by kernel_rfl) (round s hs q hq))
/-- loop.example/g00649/laws.heldBoolS -/
def D22 : Info := ⟨23, fun i => ([], []), fun i => if i = 2 then ([0], [1, 5]) else ([], [])⟩
def L22_0 (K : AV → Heap → Prop) (v0 : AV) (v1 : AV) (v5 : AV) (H : Heap) : Prop := LoopV (wpC Try.prog tab D22 (cAt [1, 0, 1, 0, 0] (bodyOf Try.f22))) [0] (PostF.block 0 (PostF.thenA (wpC Try.prog tab D22 (cAt [1, 1] (bodyOf Try.f22))) (retF tab [.tmp 4] K))) [1, 5] [v0, v1, AV.any, AV.any, AV.any, v5, AV.any, AV.any, AV.any, AV.any, AV.any, AV.any, AV.any, AV.any, AV.any, AV.any, AV.any, AV.any, AV.any, AV.any, AV.any, AV.any, AV.any] H
def B22_0 (K : AV → Heap → Prop) (N1 : AV → AV → Heap → Prop) (v0 : AV) (v1 : AV) (v5 : AV) (H : Heap) : Prop :=
 lenV tab 34 v0 fun v8 =>
 binV tab .lss 3 v5 v8 fun v9 =>
 condV v9 (indexAddrV tab 34 v0 v5 fun v14 =>
 loadV tab 4 v14 H fun v15 =>
 binV tab .rem 3 v1 (AV.p (.int .i64 3)) fun v17 =>
 binV tab .eql 3 v17 (AV.p (.int .i64 0)) fun v18 =>
 binV tab .neq 4 v15 v18 fun v19 =>
 condV v19 (K (AV.p (.int .i64 (-1))) H)
 (binV tab .add 3 v1 (AV.p (.int .i64 1)) fun v21 =>
 binV tab .add 3 v5 (AV.p (.int .i64 1)) fun v11 =>
 N1 v21 v11 H))
 (K v1 H)
def W22 (v0 : AV) (v1 : AV) (H : Heap) (K : AV → Heap → Prop) : Prop :=
 L22_0 K v0 v1 (AV.p (.int .i64 0)) H
theorem W22_wp (v0 : AV) (v1 : AV) (H : Heap) (K : AV → Heap → Prop) : wpC Try.prog tab D22 (bodyOf Try.f22) (retF tab [.tmp 4] K) (nthA [v0, v1]) H = W22 v0 v1 H K := by kernel_rfl
theorem W22_ok {v0 v1 : AV} {H : Heap} {K : AV → Heap → Prop} (h : W22 v0 v1 H K) : CallT Try.prog 22 [v0, v1] H K :=
  CallT.of_wp (D := D22) tab_ok mixed Try.func22 (c := bodyOf Try.f22) (by kernel_rfl) rfl (by kernel_rfl) (rs := #[.tmp 4]) rfl (by decide +kernel) (by kernel_rfl) (W22_wp v0 v1 H K) h
theorem W22_hb : HasBody Try.prog 22 := ⟨_, bodyOf Try.f22, Try.func22, by kernel_rfl, rfl⟩
theorem L22_0_rule {K : AV → Heap → Prop} {v0 v1 v5 : AV} {H : Heap} {σ : Type} (s0 : σ) (f1 : σ → AV) (f5 : σ → AV) (TH : σ → Heap) (pre : σ → Prop) (μ : σ → Nat)
    (h0 : pre s0 ∧ AV.wk v1 (f1 s0) ∧ AV.wk v5 (f5 s0) ∧ Heap.le (TH s0) H)
    (round : ∀ s, pre s → B22_0 K (fun w1 w5 H' => ∃ s', pre s' ∧ μ s' < μ s ∧ AV.wk w1 (f1 s') ∧ AV.wk w5 (f5 s') ∧ Heap.le (TH s') H') v0 (f1 s) (f5 s) (TH s)) :
    L22_0 K v0 v1 v5 H := by
  unfold L22_0
  exact LoopV.mk s0 (fun s => [f1 s, f5 s]) TH pre μ (fun _ => rfl) (Eq.mp (by kernel_rfl) h0) (fun s hs => Eq.mp (by kernel_rfl) (round s hs))
theorem L22_0_ruleG {K : AV → Heap → Prop} {v0 v1 v5 : AV} {H : Heap} {σ : Type} (s0 : σ) (f1 : σ → AV) (f5 : σ → AV) (TH : σ → Heap) (pre : σ → Prop) (μ : σ → Nat)
    (h0 : pre s0 ∧ AV.wk v1 (f1 s0) ∧ AV.wk v5 (f5 s0) ∧ Heap.le (TH s0) H)
    (round : ∀ s, pre s → ∀ q, TH s q = none → B22_0 K (fun w1 w5 H' => ∃ s', pre s' ∧ μ s' < μ s ∧ AV.wk w1 (f1 s') ∧ AV.wk w5 (f5 s') ∧ Heap.le (TH s') H') v0 (f1 s) (f5 s) ((TH s).set q [])) :
    L22_0 K v0 v1 v5 H := by
  unfold L22_0
  exact LoopV.mkG s0 (fun s => [f1 s, f5 s]) TH pre μ (fun _ => rfl) (Eq.mp (by kernel_rfl) h0) (fun s hs q hq => Eq.mp (by kernel_rfl) (round s hs q hq))
/-- loop.example/g00649/spec.GuessOf -/
def D23 : Info := ⟨19, fun i => ([], []), fun i => ([], [])⟩
def W23 (v0 : AV) (v1 : AV) (v2 : AV) (H : Heap) (K : AV → Heap → Prop) : Prop :=
 CallT Try.prog 53 [v0, v1, v2] H fun v11 H1 =>
 unV .not v11 fun v12 =>
 condV v12 (K (.tup [(AV.p (.int .i64 0)), (AV.p (.bool false))]) H1)
 (CallT Try.prog 48 [v0] H1 fun v15 H2 =>
 CallT Try.prog 57 [v0, v15, v1, v2] H2 fun v18 H3 =>
 K (.tup [v18, (AV.p (.bool true))]) H3)
theorem W23_wp (v0 : AV) (v1 : AV) (v2 : AV) (H : Heap) (K : AV → Heap → Prop) : wpC Try.prog tab D23 (bodyOf Try.f23) (retF tab [.tmp 6, .tmp 7] K) (nthA [v0, v1, v2]) H = W23 v0 v1 v2 H K := by kernel_rfl
theorem W23_ok {v0 v1 v2 : AV} {H : Heap} {K : AV → Heap → Prop} (h : W23 v0 v1 v2 H K) : CallT Try.prog 23 [v0, v1, v2] H K :=
  CallT.of_wp (D := D23) tab_ok mixed Try.func23 (c := bodyOf Try.f23) (by kernel_rfl) rfl (by kernel_rfl) (rs := #[.tmp 6, .tmp 7]) rfl (by decide +kernel) (by kernel_rfl) (W23_wp v0 v1 v2 H K) h
theorem W23_hb : HasBody Try.prog 23 := ⟨_, bodyOf Try.f23, Try.func23, by kernel_rfl, rfl⟩
/-- loop.example/g00649/impl.GuessOf -/
def D24 : Info := ⟨17, fun i => ([], []), fun i => ([], [])⟩
def W24 (v0 : AV) (v1 : AV) (v2 : AV) (H : Heap) (K : AV → Heap → Prop) : Prop :=
 CallT Try.prog 55 [v0, v1, v2] H fun v11 H1 =>
 unV .not v11 fun v12 =>
 condV v12 (K (.tup [(AV.p (.int .i64 0)), (AV.p (.bool false))]) H1)
 (CallT Try.prog 58 [v0, v1, v2] H1 fun v16 H2 =>
 K (.tup [v16, (AV.p (.bool true))]) H2)
theorem W24_wp (v0 : AV) (v1 : AV) (v2 : AV) (H : Heap) (K : AV → Heap → Prop) : wpC Try.prog tab D24 (bodyOf Try.f24) (retF tab [.tmp 6, .tmp 7] K) (nthA [v0, v1, v2]) H = W24 v0 v1 v2 H K := by kernel_rfl
theorem W24_ok {v0 v1 v2 : AV} {H : Heap} {K : AV → Heap → Prop} (h : W24 v0 v1 v2 H K) : CallT Try.prog 24 [v0, v1, v2] H K :=
  CallT.of_wp (D := D24) tab_ok mixed Try.func24 (c := bodyOf Try.f24) (by kernel_rfl) rfl (by kernel_rfl) (rs := #[.tmp 6, .tmp 7]) rfl (by decide +kernel) (by kernel_rfl) (W24_wp v0 v1 v2 H K) h
theorem W24_hb : HasBody Try.prog 24 := ⟨_, bodyOf Try.f24, Try.func24, by kernel_rfl, rfl⟩
/-- loop.example/g00649/spec.l13Good -/
def D47 : Info := ⟨11, fun i => ([], []), fun i => ([], [])⟩
def W47 (v0 : AV) (H : Heap) (K : AV → Heap → Prop) : Prop :=
 CallT Try.prog 84 [v0] H fun v4 H1 =>
 grdV v4 true (CallT Try.prog 48 [v0] H1 fun v7 H2 =>
 lenV tab 24 v7 fun v8 =>
 binV tab .leq 3 v8 (AV.p (.int .i64 5)) fun v9 =>
 K v9 H2)
 (K (AV.p (.bool false)) H1)
theorem W47_wp (v0 : AV) (H : Heap) (K : AV → Heap → Prop) : wpC Try.prog tab D47 (bodyOf Try.f47) (retF tab [.tmp 2] K) (nthA [v0]) H = W47 v0 H K := by kernel_rfl
theorem W47_ok {v0 : AV} {H : Heap} {K : AV → Heap → Prop} (h : W47 v0 H K) : CallT Try.prog 47 [v0] H K :=
  CallT.of_wp (D := D47) tab_ok mixed Try.func47 (c := bodyOf Try.f47) (by kernel_rfl) rfl (by kernel_rfl) (rs := #[.tmp 2]) rfl (by decide +kernel) (by kernel_rfl) (W47_wp v0 H K) h
theorem W47_hb : HasBody Try.prog 47 := ⟨_, bodyOf Try.f47, Try.func47, by kernel_rfl, rfl⟩
/-- loop.example/g00649/spec.l13Tracked -/
def D48 : Info := ⟨36, fun i => ([], []), fun i => if i = 3 then ([10, 11], [3, 12]) else ([], [])⟩
def L48_0 (K : AV → Heap → Prop) (v3 : AV) (v10 : AV) (v11 : AV) (v12 : AV) (H : Heap) : Prop := LoopV (wpC Try.prog tab D48 (cAt [1, 1, 0, 1, 0, 0] (bodyOf Try.f48))) [10, 11] (PostF.block 0 (PostF.thenA (wpC Try.prog tab D48 (cAt [1, 1, 1] (bodyOf Try.f48))) (retF tab [.tmp 2] K))) [3, 12] [AV.any, AV.any, AV.any, v3, AV.any, AV.any, AV.any, AV.any, AV.any, AV.any, v10, v11, v12, AV.any, AV.any, AV.any, AV.any, AV.any, AV.any, AV.any, AV.any, AV.any, AV.any, AV.any, AV.any, AV.any, AV.any, AV.any, AV.any, AV.any, AV.any, AV.any, AV.any, AV.any, AV.any, AV.any] H
def J48_1 (K : AV → Heap → Prop) (N1 : AV → AV → Heap → Prop) (v3 : AV) (v4 : AV) (v10 : AV) (v11 : AV) (v12 : AV) (v18 : AV) (v19 : AV) (H : Heap) : Prop :=
 condV v19 (CallT Try.prog 94 [v3, v4] H fun v24 H4 =>
 binV tab .sub 3 v4 (AV.p (.int .i64 1)) fun v26 =>
 CallT Try.prog 94 [v24, v26] H4 fun v27 H5 =>
 binV tab .add 3 v12 (AV.p (.int .i64 1)) fun v34 =>
 N1 v27 v34 H5)
 (binV tab .eql 3 v18 (AV.p (.int .i64 4)) fun v29 =>
 condV v29 (binV tab .sub 3 v4 (AV.p (.int .i64 1)) fun v32 =>
 CallT Try.prog 94 [v3, v32] H fun v33 H6 =>
 binV tab .add 3 v12 (AV.p (.int .i64 1)) fun v34 =>
 N1 v33 v34 H6)
 (binV tab .add 3 v12 (AV.p (.int .i64 1)) fun v34 =>
 N1 v3 v34 H))
def B48_0 (K : AV → Heap → Prop) (N1 : AV → AV → Heap → Prop) (v3 : AV) (v10 : AV) (v11 : AV) (v12 : AV) (H : Heap) : Prop :=
 binV tab .lss 3 v12 v11 fun v13 =>
 condV v13 (indexAddrV tab 27 v10 v12 fun v15 =>
 loadV tab 77 v15 H fun v16 =>
 allocV tab 77 H fun v5 H2 =>
 storeV tab 77 v5 v16 H2 fun H3 =>
 fieldAddrV tab 77 v5 0 fun v17 =>
 loadV tab 3 v17 H3 fun v18 =>
 binV tab .eql 3 v18 (AV.p (.int .i64 7)) fun v20 =>
 condV v20 (J48_1 K N1 v3 v12 v10 v11 v12 v18 v20 H3)
 (binV tab .eql 3 v18 (AV.p (.int .i64 8)) fun v21 =>
 J48_1 K N1 v3 v12 v10 v11 v12 v18 v21 H3))
 (K v3 H)
def W48 (v0 : AV) (H : Heap) (K : AV → Heap → Prop) : Prop :=
 lenV tab 27 v0 fun v7 =>
 binV tab .sub 3 v7 (AV.p (.int .i64 1)) fun v8 =>
 buildSliceV tab 24 1 [(0, v8)] H (wkK fun v9 H1 =>
 lenV tab 27 v0 fun v11 =>
 L48_0 K v9 v0 v11 (AV.p (.int .i64 0)) H1)
theorem W48_wp (v0 : AV) (H : Heap) (K : AV → Heap → Prop) : wpC Try.prog tab D48 (bodyOf Try.f48) (retF tab [.tmp 2] K) (nthA [v0]) H = W48 v0 H K := by kernel_rfl
theorem W48_ok {v0 : AV} {H : Heap} {K : AV → Heap → Prop} (h : W48 v0 H K) : CallT Try.prog 48 [v0] H K :=
  CallT.of_wp (D := D48) tab_ok mixed Try.func48 (c := bodyOf Try.f48) (by kernel_rfl) rfl (by kernel_rfl) (rs := #[.tmp 2]) rfl (by decide +kernel) (by kernel_rfl) (W48_wp v0 H K) h
theorem W48_hb : HasBody Try.prog 48 := ⟨_, bodyOf Try.f48, Try.func48, by kernel_rfl, rfl⟩
theorem L48_0_rule {K : AV → Heap → Prop} {v3 v10 v11 v12 : AV} {H : Heap} {σ : Type} (s0 : σ) (f3 : σ → AV) (f12 : σ → AV) (TH : σ → Heap) (pre : σ → Prop) (μ : σ → Nat)
    (h0 : pre s0 ∧ AV.wk v3 (f3 s0) ∧ AV.wk v12 (f12 s0) ∧ Heap.le (TH s0) H)
    (round : ∀ s, pre s → B48_0 K (fun w3 w12 H' => ∃ s', pre s' ∧ μ s' < μ s ∧ AV.wk w3 (f3 s') ∧ AV.wk w12 (f12 s') ∧ Heap.le (TH s') H') (f3 s) v10 v11 (f12 s) (TH s)) :
    L48_0 K v3 v10 v11 v12 H := by
  unfold L48_0
  exact LoopV.mk s0 (fun s => [f3 s, f12 s]) TH pre μ (fun _ => rfl) (Eq.mp (by kernel_rfl) h0) (fun s hs => Eq.mp (by kernel_rfl) (round s hs))
theorem L48_0_ruleG {K : AV → Heap → Prop} {v3 v10 v11 v12 : AV} {H : Heap} {σ : Type} (s0 : σ) (f3 : σ → AV) (f12 : σ → AV) (TH : σ → Heap) (pre : σ → Prop) (μ : σ → Nat)
    (h0 : pre s0 ∧ AV.wk v3 (f3 s0) ∧ AV.wk v12 (f12 s0) ∧ Heap.le (TH s0) H)
    (round : ∀ s, pre s → ∀ q, TH s q = none → B48_0 K (fun w3 w12 H' => ∃ s', pre s' ∧ μ s' < μ s ∧ AV.wk w3 (f3 s') ∧ AV.wk w12 (f12 s') ∧ Heap.le (TH s') H') (f3 s) v10 v11 (f12 s) ((TH s).set q [])) :
    L48_0 K v3 v10 v11 v12 H := by
  unfold L48_0
  exact LoopV.mkG s0 (fun s => [f3 s, f12 s]) TH pre μ (fun _ => rfl) (Eq.mp (by kernel_rfl) h0) (fun s hs q hq => Eq.mp (by kernel_rfl) (round s hs q hq))
/-- loop.example/g00649/laws.toSaid -/
def D49 : Info := ⟨11, fun i => ([], []), fun i => ([], [])⟩
def W49 (v0 : AV) (H : Heap) (K : AV → Heap → Prop) : Prop :=
 boxV v0 H fun v1 H1 =>
 allocV tab 77 H1 fun v2 H2 =>
 allocV tab 77 H2 fun v3 H3 =>
 fieldAddrV tab 79 v1 0 fun v4 =>
 loadV tab 3 v4 H3 fun v5 =>
 fieldAddrV tab 77 v3 0 fun v6 =>
 storeV tab 3 v6 v5 H3 fun H4 =>
 fieldAddrV tab 79 v1 1 fun v7 =>
 loadV tab 3 v7 H4 fun v8 =>
 fieldAddrV tab 77 v3 1 fun v9 =>
 storeV tab 3 v9 v8 H4 fun H5 =>
 loadV tab 77 v3 H5 fun v10 =>
 storeV tab 77 v2 v10 H5 fun H6 =>
 loadV tab 77 v2 H6 fun r0 =>
 K r0 H6
theorem W49_wp (v0 : AV) (H : Heap) (K : AV → Heap → Prop) : wpC Try.prog tab D49 (bodyOf Try.f49) (retF tab [.cell 2 77] K) (nthA [v0]) H = W49 v0 H K := by kernel_rfl
theorem W49_ok {v0 : AV} {H : Heap} {K : AV → Heap → Prop} (h : W49 v0 H K) : CallT Try.prog 49 [v0] H K :=
  CallT.of_wp (D := D49) tab_ok mixed Try.func49 (c := bodyOf Try.f49) (by kernel_rfl) rfl (by kernel_rfl) (rs := #[.cell 2 77]) rfl (by decide +kernel) (by kernel_rfl) (W49_wp v0 H K) h
theorem W49_hb : HasBody Try.prog 49 := ⟨_, bodyOf Try.f49, Try.func49, by kernel_rfl, rfl⟩
/-- loop.example/g00649/impl.isTracked -/
def D50 : Info := ⟨11, fun i => ([], []), fun i => ([], [])⟩
def W50 (v0 : AV) (H : Heap) (K : AV → Heap → Prop) : Prop :=
 CallT Try.prog 80 [v0] H fun v4 H1 =>
 grdV v4 true (CallT Try.prog 51 [v0] H1 fun v7 H2 =>
 lenV tab 24 v7 fun v8 =>
 binV tab .leq 3 v8 (AV.p (.int .i64 5)) fun v9 =>
 K v9 H2)
 (K (AV.p (.bool false)) H1)
theorem W50_wp (v0 : AV) (H : Heap) (K : AV → Heap → Prop) : wpC Try.prog tab D50 (bodyOf Try.f50) (retF tab [.tmp 2] K) (nthA [v0]) H = W50 v0 H K := by kernel_rfl
theorem W50_ok {v0 : AV} {H : Heap} {K : AV → Heap → Prop} (h : W50 v0 H K) : CallT Try.prog 50 [v0] H K :=
  CallT.of_wp (D := D50) tab_ok mixed Try.func50 (c := bodyOf Try.f50) (by kernel_rfl) rfl (by kernel_rfl) (rs := #[.tmp 2]) rfl (by decide +kernel) (by kernel_rfl) (W50_wp v0 H K) h
theorem W50_hb : HasBody Try.prog 50 := ⟨_, bodyOf Try.f50, Try.func50, by kernel_rfl, rfl⟩
/-- loop.example/g00649/impl.tracked -/
def D51 : Info := ⟨51, fun i => ([], []), fun i => if i = 3 then ([4, 13, 14], [3, 15]) else ([], [])⟩
def L51_0 (K : AV → Heap → Prop) (v3 : AV) (v4 : AV) (v13 : AV) (v14 : AV) (v15 : AV) (H : Heap) : Prop := LoopV (wpC Try.prog tab D51 (cAt [1, 1, 0, 1, 0, 0] (bodyOf Try.f51))) [4, 13, 14] (PostF.block 0 (PostF.thenA (wpC Try.prog tab D51 (cAt [1, 1, 1] (bodyOf Try.f51))) (retF tab [.tmp 2] K))) [3, 15] [AV.any, AV.any, AV.any, v3, v4, AV.any, AV.any, AV.any, AV.any, AV.any, AV.any, AV.any, AV.any, v13, v14, v15, AV.any, AV.any, AV.any, AV.any, AV.any, AV.any, AV.any, AV.any, AV.any, AV.any, AV.any, AV.any, AV.any, AV.any, AV.any, AV.any, AV.any, AV.any, AV.any, AV.any, AV.any, AV.any, AV.any, AV.any, AV.any, AV.any, AV.any, AV.any, AV.any, AV.any, AV.any, AV.any, AV.any, AV.any, AV.any] H
def J51_1 (K : AV → Heap → Prop) (N1 : AV → AV → Heap → Prop) (v3 : AV) (v4 : AV) (v5 : AV) (v13 : AV) (v14 : AV) (v15 : AV) (v21 : AV) (v22 : AV) (H : Heap) : Prop :=
 condV v22 (indexAddrV tab 53 v4 v5 fun v29 =>
 loadV tab 24 v29 H fun v30 =>
 indexAddrV tab 24 v30 (AV.p (.int .i64 1)) fun v31 =>
 loadV tab 3 v31 H fun v32 =>
 buildSliceV tab 24 2 [(0, v5), (1, v32)] H (wkK fun v33 H5 =>
 appendV tab 24 24 v3 v33 H5 (wkK fun v34 H6 =>
 binV tab .add 3 v15 (AV.p (.int .i64 1)) fun v46 =>
 N1 v34 v46 H6)))
 (binV tab .eql 3 v21 (AV.p (.int .i64 4)) fun v36 =>
 condV v36 (indexAddrV tab 53 v4 v5 fun v40 =>
 loadV tab 24 v40 H fun v41 =>
 indexAddrV tab 24 v41 (AV.p (.int .i64 0)) fun v42 =>
 loadV tab 3 v42 H fun v43 =>
 buildSliceV tab 24 1 [(0, v43)] H (wkK fun v44 H7 =>
 appendV tab 24 24 v3 v44 H7 (wkK fun v45 H8 =>
 binV tab .add 3 v15 (AV.p (.int .i64 1)) fun v46 =>
 N1 v45 v46 H8)))
 (binV tab .add 3 v15 (AV.p (.int .i64 1)) fun v46 =>
 N1 v3 v46 H))
def B51_0 (K : AV → Heap → Prop) (N1 : AV → AV → Heap → Prop) (v3 : AV) (v4 : AV) (v13 : AV) (v14 : AV) (v15 : AV) (H : Heap) : Prop :=
 binV tab .lss 3 v15 v14 fun v16 =>
 condV v16 (indexAddrV tab 27 v13 v15 fun v18 =>
 loadV tab 77 v18 H fun v19 =>
 allocV tab 77 H fun v6 H3 =>
 storeV tab 77 v6 v19 H3 fun H4 =>
 fieldAddrV tab 77 v6 0 fun v20 =>
 loadV tab 3 v20 H4 fun v21 =>
 binV tab .eql 3 v21 (AV.p (.int .i64 7)) fun v23 =>
 condV v23 (J51_1 K N1 v3 v4 v15 v13 v14 v15 v21 v23 H4)
 (binV tab .eql 3 v21 (AV.p (.int .i64 8)) fun v24 =>
 J51_1 K N1 v3 v4 v15 v13 v14 v15 v21 v24 H4))
 (CallT Try.prog 96 [v3] H fun v48 H9 =>
 CallT Try.prog 97 [v3] H9 fun v50 H10 =>
 K v50 H10)
def W51 (v0 : AV) (H : Heap) (K : AV → Heap → Prop) : Prop :=
 lenV tab 27 v0 fun v8 =>
 binV tab .sub 3 v8 (AV.p (.int .i64 1)) fun v9 =>
 buildSliceV tab 24 1 [(0, v9)] H (wkK fun v10 H1 =>
 CallT Try.prog 95 [v0] H1 fun v12 H2 =>
 lenV tab 27 v0 fun v14 =>
 L51_0 K v10 v12 v0 v14 (AV.p (.int .i64 0)) H2)
theorem W51_wp (v0 : AV) (H : Heap) (K : AV → Heap → Prop) : wpC Try.prog tab D51 (bodyOf Try.f51) (retF tab [.tmp 2] K) (nthA [v0]) H = W51 v0 H K := by kernel_rfl
theorem W51_ok {v0 : AV} {H : Heap} {K : AV → Heap → Prop} (h : W51 v0 H K) : CallT Try.prog 51 [v0] H K :=
  CallT.of_wp (D := D51) tab_ok mixed Try.func51 (c := bodyOf Try.f51) (by kernel_rfl) rfl (by kernel_rfl) (rs := #[.tmp 2]) rfl (by decide +kernel) (by kernel_rfl) (W51_wp v0 H K) h
theorem W51_hb : HasBody Try.prog 51 := ⟨_, bodyOf Try.f51, Try.func51, by kernel_rfl, rfl⟩
theorem L51_0_rule {K : AV → Heap → Prop} {v3 v4 v13 v14 v15 : AV} {H : Heap} {σ : Type} (s0 : σ) (f3 : σ → AV) (f15 : σ → AV) (TH : σ → Heap) (pre : σ → Prop) (μ : σ → Nat)
    (h0 : pre s0 ∧ AV.wk v3 (f3 s0) ∧ AV.wk v15 (f15 s0) ∧ Heap.le (TH s0) H)
    (round : ∀ s, pre s → B51_0 K (fun w3 w15 H' => ∃ s', pre s' ∧ μ s' < μ s ∧ AV.wk w3 (f3 s') ∧ AV.wk w15 (f15 s') ∧ Heap.le (TH s') H') (f3 s) v4 v13 v14 (f15 s) (TH s)) :
    L51_0 K v3 v4 v13 v14 v15 H := by
  unfold L51_0
  exact LoopV.mk s0 (fun s => [f3 s, f15 s]) TH pre μ (fun _ => rfl) (Eq.mp (by kernel_rfl) h0) (fun s hs => Eq.mp (by kernel_rfl) (round s hs))
theorem L51_0_ruleG {K : AV → Heap → Prop} {v3 v4 v13 v14 v15 : AV} {H : Heap} {σ : Type} (s0 : σ) (f3 : σ → AV) (f15 : σ → AV) (TH : σ → Heap) (pre : σ → Prop) (μ : σ → Nat)
    (h0 : pre s0 ∧ AV.wk v3 (f3 s0) ∧ AV.wk v15 (f15 s0) ∧ Heap.le (TH s0) H)
    (round : ∀ s, pre s → ∀ q, TH s q = none → B51_0 K (fun w3 w15 H' => ∃ s', pre s' ∧ μ s' < μ s ∧ AV.wk w3 (f3 s') ∧ AV.wk w15 (f15 s') ∧ Heap.le (TH s') H') (f3 s) v4 v13 v14 (f15 s) ((TH s).set q [])) :
    L51_0 K v3 v4 v13 v14 v15 H := by
  unfold L51_0
  exact LoopV.mkG s0 (fun s => [f3 s, f15 s]) TH pre μ (fun _ => rfl) (Eq.mp (by kernel_rfl) h0) (fun s hs q hq => Eq.mp (by kernel_rfl) (round s hs q hq))
/-- loop.example/g00649/laws.eqSaid -/
def D52 : Info := ⟨15, fun i => ([], []), fun i => ([], [])⟩
def W52 (v0 : AV) (v1 : AV) (H : Heap) (K : AV → Heap → Prop) : Prop :=
 boxV v0 H fun v2 H1 =>
 boxV v1 H1 fun v3 H2 =>
 fieldAddrV tab 77 v2 0 fun v5 =>
 loadV tab 3 v5 H2 fun v6 =>
 fieldAddrV tab 77 v3 0 fun v7 =>
 loadV tab 3 v7 H2 fun v8 =>
 binV tab .neq 3 v6 v8 fun v9 =>
 condV v9 (K (AV.p (.bool false)) H2)
 (fieldAddrV tab 77 v2 1 fun v10 =>
 loadV tab 3 v10 H2 fun v11 =>
 fieldAddrV tab 77 v3 1 fun v12 =>
 loadV tab 3 v12 H2 fun v13 =>
 binV tab .neq 3 v11 v13 fun v14 =>
 condV v14 (K (AV.p (.bool false)) H2)
 (K (AV.p (.bool true)) H2))
theorem W52_wp (v0 : AV) (v1 : AV) (H : Heap) (K : AV → Heap → Prop) : wpC Try.prog tab D52 (bodyOf Try.f52) (retF tab [.tmp 4] K) (nthA [v0, v1]) H = W52 v0 v1 H K := by kernel_rfl
theorem W52_ok {v0 v1 : AV} {H : Heap} {K : AV → Heap → Prop} (h : W52 v0 v1 H K) : CallT Try.prog 52 [v0, v1] H K :=
  CallT.of_wp (D := D52) tab_ok mixed Try.func52 (c := bodyOf Try.f52) (by kernel_rfl) rfl (by kernel_rfl) (rs := #[.tmp 4]) rfl (by decide +kernel) (by kernel_rfl) (W52_wp v0 v1 H K) h
theorem W52_hb : HasBody Try.prog 52 := ⟨_, bodyOf Try.f52, Try.func52, by kernel_rfl, rfl⟩
/-- loop.example/g00649/spec.l13Asked -/
def D53 : Info := ⟨23, fun i => ([], []), fun i => ([], [])⟩
def W53 (v0 : AV) (v1 : AV) (v2 : AV) (H : Heap) (K : AV → Heap → Prop) : Prop :=
 CallT Try.prog 47 [v0] H fun v8 H1 =>
 grdV v8 true (CallT Try.prog 89 [v1, (AV.p (.int .i64 0)), (AV.p (.int .i64 7))] H1 fun v11 H2 =>
 grdV v11 true (CallT Try.prog 48 [v0] H2 fun v16 H3 =>
 lenV tab 24 v16 fun v17 =>
 convV tab 3 90 v17 fun v18 =>
 binV tab .shl 3 (AV.p (.int .i64 1)) v18 fun v19 =>
 binV tab .sub 3 v19 (AV.p (.int .i64 1)) fun v20 =>
 CallT Try.prog 89 [v2, (AV.p (.int .i64 0)), v20] H3 fun v21 H4 =>
 K v21 H4)
 (K (AV.p (.bool false)) H2))
 (K (AV.p (.bool false)) H1)
theorem W53_wp (v0 : AV) (v1 : AV) (v2 : AV) (H : Heap) (K : AV → Heap → Prop) : wpC Try.prog tab D53 (bodyOf Try.f53) (retF tab [.tmp 6] K) (nthA [v0, v1, v2]) H = W53 v0 v1 v2 H K := by kernel_rfl
theorem W53_ok {v0 v1 v2 : AV} {H : Heap} {K : AV → Heap → Prop} (h : W53 v0 v1 v2 H K) : CallT Try.prog 53 [v0, v1, v2] H K :=
  CallT.of_wp (D := D53) tab_ok mixed Try.func53 (c := bodyOf Try.f53) (by kernel_rfl) rfl (by kernel_rfl) (rs := #[.tmp 6]) rfl (by decide +kernel) (by kernel_rfl) (W53_wp v0 v1 v2 H K) h
theorem W53_hb : HasBody Try.prog 53 := ⟨_, bodyOf Try.f53, Try.func53, by kernel_rfl, rfl⟩
end Go.Proofs.Ytoeabliackaibaa
