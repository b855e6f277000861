/- What each function's code is asked for, as a formula. Written by wgen.py (a program of this session's) out of Lean's print of the program. -/
import Derived.KernelRfl
import Derived.Test.YtoeabliackaibaaTab
import Derived.Test.YtoeabliackaibaaSepC
namespace Go.Proofs.Ytoeabliackaibaa
open Go Go.Sep
set_option linter.unusedVariables false
attribute [local irreducible] wpC headF
/-- loop.example/g00649/spec.l13Now -/
def D54 : Info := ⟨137, fun i => ([], []), fun i => if i = 3 then ([0, 1, 2, 3, 13, 14], [9, 15]) else ([], [])⟩
def L54_0 (K : AV → Heap → Prop) (v0 : AV) (v1 : AV) (v2 : AV) (v3 : AV) (v9 : AV) (v13 : AV) (v14 : AV) (v15 : AV) (H : Heap) : Prop := LoopV (wpC Try.prog tab D54 (cAt [1, 1, 0, 1, 0, 0] (bodyOf Try.f54))) [0, 1, 2, 3, 13, 14] (PostF.block 0 (PostF.thenA (wpC Try.prog tab D54 (cAt [1, 1, 1] (bodyOf Try.f54))) (retF tab [.tmp 8] K))) [9, 15] [v0, v1, v2, v3, AV.any, AV.any, AV.any, AV.any, AV.any, v9, AV.any, AV.any, AV.any, v13, v14, v15, AV.any, AV.any, AV.any, AV.any, AV.any, AV.any, AV.any, AV.any, AV.any, AV.any, AV.any, AV.any, AV.any, AV.any, AV.any, AV.any, AV.any, AV.any, AV.any, AV.any, AV.any, AV.any, AV.any, AV.any, AV.any, AV.any, AV.any, AV.any, AV.any, AV.any, AV.any, AV.any, AV.any, AV.any, AV.any, AV.any, AV.any, AV.any, AV.any, AV.any, AV.any, AV.any, AV.any, AV.any, AV.any, AV.any, AV.any, AV.any, AV.any, AV.any, AV.any, AV.any, AV.any, AV.any, AV.any, AV.any, AV.any, AV.any, AV.any, AV.any, AV.any, AV.any, AV.any, AV.any, AV.any, AV.any, AV.any, AV.any, AV.any, AV.any, AV.any, AV.any, AV.any, AV.any, AV.any, AV.any, AV.any, AV.any, AV.any, AV.any, AV.any, AV.any, AV.any, AV.any, AV.any, AV.any, AV.any, AV.any, AV.any, AV.any, AV.any, AV.any, AV.any, AV.any, AV.any, AV.any, AV.any, AV.any, AV.any, AV.any, AV.any, AV.any, AV.any, AV.any, AV.any, AV.any, AV.any, AV.any, AV.any, AV.any, AV.any, AV.any, AV.any, AV.any, AV.any, AV.any, AV.any, AV.any, AV.any, AV.any, AV.any] H
def J54_1 (K : AV → Heap → Prop) (N1 : AV → AV → Heap → Prop) (v0 : AV) (v1 : AV) (v2 : AV) (v3 : AV) (v9 : AV) (v12 : AV) (v13 : AV) (v14 : AV) (v15 : AV) (H : Heap) : Prop :=
 buildSliceV tab 34 1 [(0, v12)] H (wkK fun v133 H3 =>
 appendV tab 34 34 v9 v133 H3 (wkK fun v134 H4 =>
 binV tab .add 3 v15 (AV.p (.int .i64 1)) fun v135 =>
 N1 v134 v135 H4))
def J54_2 (K : AV → Heap → Prop) (N1 : AV → AV → Heap → Prop) (v0 : AV) (v1 : AV) (v2 : AV) (v3 : AV) (v9 : AV) (v13 : AV) (v14 : AV) (v15 : AV) (H : Heap) : Prop :=
 buildSliceV tab 34 1 [(0, (AV.p (.bool false)))] H (wkK fun v133 H7 =>
 appendV tab 34 34 v9 v133 H7 (wkK fun v134 H8 =>
 binV tab .add 3 v15 (AV.p (.int .i64 1)) fun v135 =>
 N1 v134 v135 H8))
def J54_3 (K : AV → Heap → Prop) (N1 : AV → AV → Heap → Prop) (v0 : AV) (v1 : AV) (v2 : AV) (v3 : AV) (v9 : AV) (v13 : AV) (v14 : AV) (v15 : AV) (H : Heap) : Prop :=
 buildSliceV tab 34 1 [(0, (AV.p (.bool true)))] H (wkK fun v133 H10 =>
 appendV tab 34 34 v9 v133 H10 (wkK fun v134 H11 =>
 binV tab .add 3 v15 (AV.p (.int .i64 1)) fun v135 =>
 N1 v134 v135 H11))
def B54_0 (K : AV → Heap → Prop) (N1 : AV → AV → Heap → Prop) (v0 : AV) (v1 : AV) (v2 : AV) (v3 : AV) (v9 : AV) (v13 : AV) (v14 : AV) (v15 : AV) (H : Heap) : Prop :=
 binV tab .lss 3 v15 v14 fun v16 =>
 condV v16 (indexAddrV tab 27 v13 v15 fun v18 =>
 loadV tab 77 v18 H fun v19 =>
 allocV tab 77 H fun v11 H1 =>
 storeV tab 77 v11 v19 H1 fun H2 =>
 fieldAddrV tab 77 v11 0 fun v20 =>
 loadV tab 3 v20 H2 fun v21 =>
 binV tab .eql 3 v21 (AV.p (.int .i64 1)) fun v23 =>
 condV v23 (fieldAddrV tab 77 v11 1 fun v25 =>
 loadV tab 3 v25 H2 fun v26 =>
 convV tab 3 90 v26 fun v27 =>
 binV tab .shr 3 v2 v27 fun v28 =>
 binV tab .and 3 v28 (AV.p (.int .i64 1)) fun v29 =>
 binV tab .eql 3 v29 (AV.p (.int .i64 1)) fun v30 =>
 J54_1 K N1 v0 v1 v2 v3 v9 v30 v13 v14 v15 H2)
 (binV tab .eql 3 v21 (AV.p (.int .i64 2)) fun v32 =>
 condV v32 (fieldAddrV tab 77 v11 1 fun v33 =>
 loadV tab 3 v33 H2 fun v34 =>
 binV tab .eql 3 v34 (AV.p (.int .i64 1)) fun v35 =>
 J54_1 K N1 v0 v1 v2 v3 v9 v35 v13 v14 v15 H2)
 (binV tab .eql 3 v21 (AV.p (.int .i64 3)) fun v37 =>
 condV v37 (binV tab .sub 3 v15 (AV.p (.int .i64 1)) fun v40 =>
 indexAddrV tab 34 v9 v40 fun v41 =>
 loadV tab 4 v41 H2 fun v42 =>
 unV .not v42 fun v43 =>
 J54_1 K N1 v0 v1 v2 v3 v9 v43 v13 v14 v15 H2)
 (binV tab .eql 3 v21 (AV.p (.int .i64 4)) fun v45 =>
 condV v45 (binV tab .sub 3 v15 (AV.p (.int .i64 1)) fun v49 =>
 CallT Try.prog 98 [v1, v3, v49] H2 fun v50 H5 =>
 J54_1 K N1 v0 v1 v2 v3 v9 v50 v13 v14 v15 H5)
 (binV tab .eql 3 v21 (AV.p (.int .i64 5)) fun v52 =>
 condV v52 (binV tab .sub 3 v15 (AV.p (.int .i64 1)) fun v56 =>
 CallT Try.prog 99 [v0, v56] H2 fun v57 H6 =>
 binV tab .sub 3 v57 (AV.p (.int .i64 1)) fun v58 =>
 indexAddrV tab 34 v9 v58 fun v59 =>
 loadV tab 4 v59 H6 fun v60 =>
 grdV v60 true (binV tab .sub 3 v15 (AV.p (.int .i64 1)) fun v64 =>
 indexAddrV tab 34 v9 v64 fun v65 =>
 loadV tab 4 v65 H6 fun v66 =>
 J54_1 K N1 v0 v1 v2 v3 v9 v66 v13 v14 v15 H6)
 (J54_2 K N1 v0 v1 v2 v3 v9 v13 v14 v15 H6))
 (binV tab .eql 3 v21 (AV.p (.int .i64 6)) fun v69 =>
 condV v69 (binV tab .sub 3 v15 (AV.p (.int .i64 1)) fun v73 =>
 CallT Try.prog 99 [v0, v73] H2 fun v74 H9 =>
 binV tab .sub 3 v74 (AV.p (.int .i64 1)) fun v75 =>
 indexAddrV tab 34 v9 v75 fun v76 =>
 loadV tab 4 v76 H9 fun v77 =>
 grdV v77 false (binV tab .sub 3 v15 (AV.p (.int .i64 1)) fun v81 =>
 indexAddrV tab 34 v9 v81 fun v82 =>
 loadV tab 4 v82 H9 fun v83 =>
 J54_1 K N1 v0 v1 v2 v3 v9 v83 v13 v14 v15 H9)
 (J54_3 K N1 v0 v1 v2 v3 v9 v13 v14 v15 H9))
 (binV tab .eql 3 v21 (AV.p (.int .i64 7)) fun v86 =>
 condV v86 (binV tab .sub 3 v15 (AV.p (.int .i64 1)) fun v89 =>
 indexAddrV tab 34 v9 v89 fun v90 =>
 loadV tab 4 v90 H2 fun v91 =>
 grdV v91 false (binV tab .sub 3 v15 (AV.p (.int .i64 1)) fun v96 =>
 CallT Try.prog 99 [v0, v96] H2 fun v97 H12 =>
 binV tab .sub 3 v97 (AV.p (.int .i64 1)) fun v98 =>
 indexAddrV tab 34 v9 v98 fun v99 =>
 loadV tab 4 v99 H12 fun v100 =>
 grdV v100 true (CallT Try.prog 98 [v1, v3, v15] H12 fun v105 H13 =>
 J54_1 K N1 v0 v1 v2 v3 v9 v105 v13 v14 v15 H13)
 (J54_2 K N1 v0 v1 v2 v3 v9 v13 v14 v15 H12))
 (J54_3 K N1 v0 v1 v2 v3 v9 v13 v14 v15 H2))
 (binV tab .eql 3 v21 (AV.p (.int .i64 8)) fun v109 =>
 condV v109 (binV tab .sub 3 v15 (AV.p (.int .i64 1)) fun v112 =>
 indexAddrV tab 34 v9 v112 fun v113 =>
 loadV tab 4 v113 H2 fun v114 =>
 grdV v114 true (binV tab .sub 3 v15 (AV.p (.int .i64 1)) fun v119 =>
 CallT Try.prog 99 [v0, v119] H2 fun v120 H14 =>
 binV tab .sub 3 v120 (AV.p (.int .i64 1)) fun v121 =>
 indexAddrV tab 34 v9 v121 fun v122 =>
 loadV tab 4 v122 H14 fun v123 =>
 grdV v123 false (CallT Try.prog 98 [v1, v3, v15] H14 fun v128 H15 =>
 J54_1 K N1 v0 v1 v2 v3 v9 v128 v13 v14 v15 H15)
 (J54_3 K N1 v0 v1 v2 v3 v9 v13 v14 v15 H14))
 (J54_2 K N1 v0 v1 v2 v3 v9 v13 v14 v15 H2))
 (J54_2 K N1 v0 v1 v2 v3 v9 v13 v14 v15 H2)))))))))
 (K v9 H)
def W54 (v0 : AV) (v1 : AV) (v2 : AV) (v3 : AV) (H : Heap) (K : AV → Heap → Prop) : Prop :=
 lenV tab 27 v0 fun v14 =>
 L54_0 K v0 v1 v2 v3 (AV.p .nil) v0 v14 (AV.p (.int .i64 0)) H
theorem W54_wp (v0 : AV) (v1 : AV) (v2 : AV) (v3 : AV) (H : Heap) (K : AV → Heap → Prop) : wpC Try.prog tab D54 (bodyOf Try.f54) (retF tab [.tmp 8] K) (nthA [v0, v1, v2, v3]) H = W54 v0 v1 v2 v3 H K := by kernel_rfl
theorem W54_ok {v0 v1 v2 v3 : AV} {H : Heap} {K : AV → Heap → Prop} (h : W54 v0 v1 v2 v3 H K) : CallT Try.prog 54 [v0, v1, v2, v3] H K :=
  CallT.of_wp (D := D54) tab_ok mixed Try.func54 (c := bodyOf Try.f54) (by kernel_rfl) rfl (by kernel_rfl) (rs := #[.tmp 8]) rfl (by decide +kernel) (by kernel_rfl) (W54_wp v0 v1 v2 v3 H K) h
theorem W54_hb : HasBody Try.prog 54 := ⟨_, bodyOf Try.f54, Try.func54, by kernel_rfl, rfl⟩
theorem L54_0_rule {K : AV → Heap → Prop} {v0 v1 v2 v3 v9 v13 v14 v15 : AV} {H : Heap} {σ : Type} (s0 : σ) (f9 : σ → AV) (f15 : σ → AV) (TH : σ → Heap) (pre : σ → Prop) (μ : σ → Nat)
    (h0 : pre s0 ∧ AV.wk v9 (f9 s0) ∧ AV.wk v15 (f15 s0) ∧ Heap.le (TH s0) H)
    (round : ∀ s, pre s → B54_0 K (fun w9 w15 H' => ∃ s', pre s' ∧ μ s' < μ s ∧ AV.wk w9 (f9 s') ∧ AV.wk w15 (f15 s') ∧ Heap.le (TH s') H') v0 v1 v2 v3 (f9 s) v13 v14 (f15 s) (TH s)) :
    L54_0 K v0 v1 v2 v3 v9 v13 v14 v15 H := by
  unfold L54_0
  exact LoopV.mk s0 (fun s => [f9 s, f15 s]) TH pre μ (fun _ => rfl) (Eq.mp (by kernel_rfl) h0) (fun s hs => Eq.mp (by kernel_rfl) (round s hs))
theorem L54_0_ruleG {K : AV → Heap → Prop} {v0 v1 v2 v3 v9 v13 v14 v15 : AV} {H : Heap} {σ : Type} (s0 : σ) (f9 : σ → AV) (f15 : σ → AV) (TH : σ → Heap) (pre : σ → Prop) (μ : σ → Nat)
    (h0 : pre s0 ∧ AV.wk v9 (f9 s0) ∧ AV.wk v15 (f15 s0) ∧ Heap.le (TH s0) H)
    (round : ∀ s, pre s → ∀ q, TH s q = none → B54_0 K (fun w9 w15 H' => ∃ s', pre s' ∧ μ s' < μ s ∧ AV.wk w9 (f9 s') ∧ AV.wk w15 (f15 s') ∧ Heap.le (TH s') H') v0 v1 v2 v3 (f9 s) v13 v14 (f15 s) ((TH s).set q [])) :
    L54_0 K v0 v1 v2 v3 v9 v13 v14 v15 H := by
  unfold L54_0
  exact LoopV.mkG s0 (fun s => [f9 s, f15 s]) TH pre μ (fun _ => rfl) (Eq.mp (by kernel_rfl) h0) (fun s hs q hq => Eq.mp (by kernel_rfl) (round s hs q hq))
/-- loop.example/g00649/impl.isNow -/
def D55 : Info := ⟨23, fun i => ([], []), fun i => ([], [])⟩
def W55 (v0 : AV) (v1 : AV) (v2 : AV) (H : Heap) (K : AV → Heap → Prop) : Prop :=
 CallT Try.prog 50 [v0] H fun v8 H1 =>
 grdV v8 true (CallT Try.prog 100 [v1] H1 fun v11 H2 =>
 grdV v11 true (binV tab .geq 3 v2 (AV.p (.int .i64 0)) fun v15 =>
 grdV v15 true (CallT Try.prog 101 [v0] H2 fun v20 H3 =>
 binV tab .lss 3 v2 v20 fun v21 =>
 K v21 H3)
 (K (AV.p (.bool false)) H2))
 (K (AV.p (.bool false)) H2))
 (K (AV.p (.bool false)) H1)
theorem W55_wp (v0 : AV) (v1 : AV) (v2 : AV) (H : Heap) (K : AV → Heap → Prop) : wpC Try.prog tab D55 (bodyOf Try.f55) (retF tab [.tmp 6] K) (nthA [v0, v1, v2]) H = W55 v0 v1 v2 H K := by kernel_rfl
theorem W55_ok {v0 v1 v2 : AV} {H : Heap} {K : AV → Heap → Prop} (h : W55 v0 v1 v2 H K) : CallT Try.prog 55 [v0, v1, v2] H K :=
  CallT.of_wp (D := D55) tab_ok mixed Try.func55 (c := bodyOf Try.f55) (by kernel_rfl) rfl (by kernel_rfl) (rs := #[.tmp 6]) rfl (by decide +kernel) (by kernel_rfl) (W55_wp v0 v1 v2 H K) h
theorem W55_hb : HasBody Try.prog 55 := ⟨_, bodyOf Try.f55, Try.func55, by kernel_rfl, rfl⟩
/-- loop.example/g00649/impl.evalNow -/
def D56 : Info := ⟨167, fun i => ([], []), fun i => if i = 3 then ([1, 2, 8, 9, 18, 19], [7, 20]) else ([], [])⟩
def L56_0 (K : AV → Heap → Prop) (v1 : AV) (v2 : AV) (v7 : AV) (v8 : AV) (v9 : AV) (v18 : AV) (v19 : AV) (v20 : AV) (H : Heap) : Prop := LoopV (wpC Try.prog tab D56 (cAt [1, 1, 0, 1, 0, 0] (bodyOf Try.f56))) [1, 2, 8, 9, 18, 19] (PostF.block 0 (PostF.thenA (wpC Try.prog tab D56 (cAt [1, 1, 1] (bodyOf Try.f56))) (retF tab [.tmp 6] K))) [7, 20] [AV.any, v1, v2, AV.any, AV.any, AV.any, AV.any, v7, v8, v9, AV.any, AV.any, AV.any, AV.any, AV.any, AV.any, AV.any, AV.any, v18, v19, v20, AV.any, AV.any, AV.any, AV.any, AV.any, AV.any, AV.any, AV.any, AV.any, AV.any, AV.any, AV.any, AV.any, AV.any, AV.any, AV.any, AV.any, AV.any, AV.any, AV.any, AV.any, AV.any, AV.any, AV.any, AV.any, AV.any, AV.any, AV.any, AV.any, AV.any, AV.any, AV.any, AV.any, AV.any, AV.any, AV.any, AV.any, AV.any, AV.any, AV.any, AV.any, AV.any, AV.any, AV.any, AV.any, AV.any, AV.any, AV.any, AV.any, AV.any, AV.any, AV.any, AV.any, AV.any, AV.any, AV.any, AV.any, AV.any, AV.any, AV.any, AV.any, AV.any, AV.any, AV.any, AV.any, AV.any, AV.any, AV.any, AV.any, AV.any, AV.any, AV.any, AV.any, AV.any, AV.any, AV.any, AV.any, AV.any, AV.any, AV.any, AV.any, AV.any, AV.any, AV.any, AV.any, AV.any, AV.any, AV.any, AV.any, AV.any, AV.any, AV.any, AV.any, AV.any, AV.any, AV.any, AV.any, AV.any, AV.any, AV.any, AV.any, AV.any, AV.any, AV.any, AV.any, AV.any, AV.any, AV.any, AV.any, AV.any, AV.any, AV.any, AV.any, AV.any, AV.any, AV.any, AV.any, AV.any, AV.any, AV.any, AV.any, AV.any, AV.any, AV.any, AV.any, AV.any, AV.any, AV.any, AV.any, AV.any, AV.any, AV.any, AV.any, AV.any, AV.any, AV.any, AV.any, AV.any, AV.any, AV.any, AV.any, AV.any, AV.any, AV.any, AV.any, AV.any] H
def J56_1 (K : AV → Heap → Prop) (N1 : AV → AV → Heap → Prop) (v1 : AV) (v2 : AV) (v7 : AV) (v8 : AV) (v9 : AV) (v12 : AV) (v18 : AV) (v19 : AV) (v20 : AV) (H : Heap) : Prop :=
 buildSliceV tab 34 1 [(0, v12)] H (wkK fun v163 H6 =>
 appendV tab 34 34 v7 v163 H6 (wkK fun v164 H7 =>
 binV tab .add 3 v20 (AV.p (.int .i64 1)) fun v165 =>
 N1 v164 v165 H7))
def J56_2 (K : AV → Heap → Prop) (N1 : AV → AV → Heap → Prop) (v1 : AV) (v2 : AV) (v7 : AV) (v8 : AV) (v9 : AV) (v18 : AV) (v19 : AV) (v20 : AV) (H : Heap) : Prop :=
 buildSliceV tab 34 1 [(0, (AV.p (.bool false)))] H (wkK fun v163 H9 =>
 appendV tab 34 34 v7 v163 H9 (wkK fun v164 H10 =>
 binV tab .add 3 v20 (AV.p (.int .i64 1)) fun v165 =>
 N1 v164 v165 H10))
def J56_3 (K : AV → Heap → Prop) (N1 : AV → AV → Heap → Prop) (v1 : AV) (v2 : AV) (v7 : AV) (v8 : AV) (v9 : AV) (v18 : AV) (v19 : AV) (v20 : AV) (H : Heap) : Prop :=
 buildSliceV tab 34 1 [(0, (AV.p (.bool true)))] H (wkK fun v163 H11 =>
 appendV tab 34 34 v7 v163 H11 (wkK fun v164 H12 =>
 binV tab .add 3 v20 (AV.p (.int .i64 1)) fun v165 =>
 N1 v164 v165 H12))
def B56_0 (K : AV → Heap → Prop) (N1 : AV → AV → Heap → Prop) (v1 : AV) (v2 : AV) (v7 : AV) (v8 : AV) (v9 : AV) (v18 : AV) (v19 : AV) (v20 : AV) (H : Heap) : Prop :=
 binV tab .lss 3 v20 v19 fun v21 =>
 condV v21 (indexAddrV tab 27 v18 v20 fun v23 =>
 loadV tab 77 v23 H fun v24 =>
 allocV tab 77 H fun v11 H4 =>
 storeV tab 77 v11 v24 H4 fun H5 =>
 fieldAddrV tab 77 v11 1 fun v25 =>
 loadV tab 3 v25 H5 fun v26 =>
 binV tab .eql 3 v26 (AV.p (.int .i64 1)) fun v27 =>
 fieldAddrV tab 77 v11 0 fun v28 =>
 loadV tab 3 v28 H5 fun v29 =>
 binV tab .eql 3 v29 (AV.p (.int .i64 1)) fun v31 =>
 condV v31 (fieldAddrV tab 77 v11 1 fun v33 =>
 loadV tab 3 v33 H5 fun v34 =>
 binV tab .shr 3 v1 v34 fun v35 =>
 binV tab .and 3 v35 (AV.p (.int .i64 1)) fun v36 =>
 binV tab .eql 3 v36 (AV.p (.int .i64 1)) fun v37 =>
 J56_1 K N1 v1 v2 v7 v8 v9 v37 v18 v19 v20 H5)
 (binV tab .eql 3 v29 (AV.p (.int .i64 3)) fun v39 =>
 condV v39 (indexAddrV tab 53 v8 v20 fun v43 =>
 loadV tab 24 v43 H5 fun v44 =>
 indexAddrV tab 24 v44 (AV.p (.int .i64 0)) fun v45 =>
 loadV tab 3 v45 H5 fun v46 =>
 indexAddrV tab 34 v7 v46 fun v47 =>
 loadV tab 4 v47 H5 fun v48 =>
 unV .not v48 fun v49 =>
 J56_1 K N1 v1 v2 v7 v8 v9 v49 v18 v19 v20 H5)
 (binV tab .eql 3 v29 (AV.p (.int .i64 4)) fun v51 =>
 condV v51 (indexAddrV tab 53 v8 v20 fun v56 =>
 loadV tab 24 v56 H5 fun v57 =>
 indexAddrV tab 24 v57 (AV.p (.int .i64 0)) fun v58 =>
 loadV tab 3 v58 H5 fun v59 =>
 CallT Try.prog 102 [v9, v2, v59] H5 fun v60 H8 =>
 J56_1 K N1 v1 v2 v7 v8 v9 v60 v18 v19 v20 H8)
 (binV tab .eql 3 v29 (AV.p (.int .i64 5)) fun v62 =>
 condV v62 (indexAddrV tab 53 v8 v20 fun v66 =>
 loadV tab 24 v66 H5 fun v67 =>
 indexAddrV tab 24 v67 (AV.p (.int .i64 0)) fun v68 =>
 loadV tab 3 v68 H5 fun v69 =>
 indexAddrV tab 34 v7 v69 fun v70 =>
 loadV tab 4 v70 H5 fun v71 =>
 grdV v71 true (indexAddrV tab 53 v8 v20 fun v76 =>
 loadV tab 24 v76 H5 fun v77 =>
 indexAddrV tab 24 v77 (AV.p (.int .i64 1)) fun v78 =>
 loadV tab 3 v78 H5 fun v79 =>
 indexAddrV tab 34 v7 v79 fun v80 =>
 loadV tab 4 v80 H5 fun v81 =>
 J56_1 K N1 v1 v2 v7 v8 v9 v81 v18 v19 v20 H5)
 (J56_2 K N1 v1 v2 v7 v8 v9 v18 v19 v20 H5))
 (binV tab .eql 3 v29 (AV.p (.int .i64 6)) fun v84 =>
 condV v84 (indexAddrV tab 53 v8 v20 fun v88 =>
 loadV tab 24 v88 H5 fun v89 =>
 indexAddrV tab 24 v89 (AV.p (.int .i64 0)) fun v90 =>
 loadV tab 3 v90 H5 fun v91 =>
 indexAddrV tab 34 v7 v91 fun v92 =>
 loadV tab 4 v92 H5 fun v93 =>
 grdV v93 false (indexAddrV tab 53 v8 v20 fun v98 =>
 loadV tab 24 v98 H5 fun v99 =>
 indexAddrV tab 24 v99 (AV.p (.int .i64 1)) fun v100 =>
 loadV tab 3 v100 H5 fun v101 =>
 indexAddrV tab 34 v7 v101 fun v102 =>
 loadV tab 4 v102 H5 fun v103 =>
 J56_1 K N1 v1 v2 v7 v8 v9 v103 v18 v19 v20 H5)
 (J56_3 K N1 v1 v2 v7 v8 v9 v18 v19 v20 H5))
 (binV tab .eql 3 v29 (AV.p (.int .i64 7)) fun v106 =>
 condV v106 (indexAddrV tab 53 v8 v20 fun v110 =>
 loadV tab 24 v110 H5 fun v111 =>
 indexAddrV tab 24 v111 (AV.p (.int .i64 1)) fun v112 =>
 loadV tab 3 v112 H5 fun v113 =>
 indexAddrV tab 34 v7 v113 fun v114 =>
 loadV tab 4 v114 H5 fun v115 =>
 grdV v115 false (indexAddrV tab 53 v8 v20 fun v120 =>
 loadV tab 24 v120 H5 fun v121 =>
 indexAddrV tab 24 v121 (AV.p (.int .i64 0)) fun v122 =>
 loadV tab 3 v122 H5 fun v123 =>
 indexAddrV tab 34 v7 v123 fun v124 =>
 loadV tab 4 v124 H5 fun v125 =>
 grdV v125 true (CallT Try.prog 102 [v9, v2, v20] H5 fun v130 H13 =>
 J56_1 K N1 v1 v2 v7 v8 v9 v130 v18 v19 v20 H13)
 (J56_2 K N1 v1 v2 v7 v8 v9 v18 v19 v20 H5))
 (J56_3 K N1 v1 v2 v7 v8 v9 v18 v19 v20 H5))
 (binV tab .eql 3 v29 (AV.p (.int .i64 8)) fun v134 =>
 condV v134 (indexAddrV tab 53 v8 v20 fun v138 =>
 loadV tab 24 v138 H5 fun v139 =>
 indexAddrV tab 24 v139 (AV.p (.int .i64 1)) fun v140 =>
 loadV tab 3 v140 H5 fun v141 =>
 indexAddrV tab 34 v7 v141 fun v142 =>
 loadV tab 4 v142 H5 fun v143 =>
 grdV v143 true (indexAddrV tab 53 v8 v20 fun v148 =>
 loadV tab 24 v148 H5 fun v149 =>
 indexAddrV tab 24 v149 (AV.p (.int .i64 0)) fun v150 =>
 loadV tab 3 v150 H5 fun v151 =>
 indexAddrV tab 34 v7 v151 fun v152 =>
 loadV tab 4 v152 H5 fun v153 =>
 grdV v153 false (CallT Try.prog 102 [v9, v2, v20] H5 fun v158 H14 =>
 J56_1 K N1 v1 v2 v7 v8 v9 v158 v18 v19 v20 H14)
 (J56_3 K N1 v1 v2 v7 v8 v9 v18 v19 v20 H5))
 (J56_2 K N1 v1 v2 v7 v8 v9 v18 v19 v20 H5))
 (J56_1 K N1 v1 v2 v7 v8 v9 v27 v18 v19 v20 H5))))))))
 (K v7 H)
def W56 (v0 : AV) (v1 : AV) (v2 : AV) (H : Heap) (K : AV → Heap → Prop) : Prop :=
 buildSliceV tab 34 0 [] H (wkK fun v13 H1 =>
 CallT Try.prog 95 [v0] H1 fun v15 H2 =>
 CallT Try.prog 51 [v0] H2 fun v17 H3 =>
 lenV tab 27 v0 fun v19 =>
 L56_0 K v1 v2 v13 v15 v17 v0 v19 (AV.p (.int .i64 0)) H3)
theorem W56_wp (v0 : AV) (v1 : AV) (v2 : AV) (H : Heap) (K : AV → Heap → Prop) : wpC Try.prog tab D56 (bodyOf Try.f56) (retF tab [.tmp 6] K) (nthA [v0, v1, v2]) H = W56 v0 v1 v2 H K := by kernel_rfl
theorem W56_ok {v0 v1 v2 : AV} {H : Heap} {K : AV → Heap → Prop} (h : W56 v0 v1 v2 H K) : CallT Try.prog 56 [v0, v1, v2] H K :=
  CallT.of_wp (D := D56) tab_ok mixed Try.func56 (c := bodyOf Try.f56) (by kernel_rfl) rfl (by kernel_rfl) (rs := #[.tmp 6]) rfl (by decide +kernel) (by kernel_rfl) (W56_wp v0 v1 v2 H K) h
theorem W56_hb : HasBody Try.prog 56 := ⟨_, bodyOf Try.f56, Try.func56, by kernel_rfl, rfl⟩
theorem L56_0_rule {K : AV → Heap → Prop} {v1 v2 v7 v8 v9 v18 v19 v20 : AV} {H : Heap} {σ : Type} (s0 : σ) (f7 : σ → AV) (f20 : σ → AV) (TH : σ → Heap) (pre : σ → Prop) (μ : σ → Nat)
    (h0 : pre s0 ∧ AV.wk v7 (f7 s0) ∧ AV.wk v20 (f20 s0) ∧ Heap.le (TH s0) H)
    (round : ∀ s, pre s → B56_0 K (fun w7 w20 H' => ∃ s', pre s' ∧ μ s' < μ s ∧ AV.wk w7 (f7 s') ∧ AV.wk w20 (f20 s') ∧ Heap.le (TH s') H') v1 v2 (f7 s) v8 v9 v18 v19 (f20 s) (TH s)) :
    L56_0 K v1 v2 v7 v8 v9 v18 v19 v20 H := by
  unfold L56_0
  exact LoopV.mk s0 (fun s => [f7 s, f20 s]) TH pre μ (fun _ => rfl) (Eq.mp (by kernel_rfl) h0) (fun s hs => Eq.mp (by kernel_rfl) (round s hs))
theorem L56_0_ruleG {K : AV → Heap → Prop} {v1 v2 v7 v8 v9 v18 v19 v20 : AV} {H : Heap} {σ : Type} (s0 : σ) (f7 : σ → AV) (f20 : σ → AV) (TH : σ → Heap) (pre : σ → Prop) (μ : σ → Nat)
    (h0 : pre s0 ∧ AV.wk v7 (f7 s0) ∧ AV.wk v20 (f20 s0) ∧ Heap.le (TH s0) H)
    (round : ∀ s, pre s → ∀ q, TH s q = none → B56_0 K (fun w7 w20 H' => ∃ s', pre s' ∧ μ s' < μ s ∧ AV.wk w7 (f7 s') ∧ AV.wk w20 (f20 s') ∧ Heap.le (TH s') H') v1 v2 (f7 s) v8 v9 v18 v19 (f20 s) ((TH s).set q [])) :
    L56_0 K v1 v2 v7 v8 v9 v18 v19 v20 H := by
  unfold L56_0
  exact LoopV.mkG s0 (fun s => [f7 s, f20 s]) TH pre μ (fun _ => rfl) (Eq.mp (by kernel_rfl) h0) (fun s hs q hq => Eq.mp (by kernel_rfl) (round s hs q hq))
/-- loop.example/g00649/spec.l13Guess -/
def D57 : Info := ⟨36, fun i => ([], []), fun i => if i = 4 then ([9, 18, 19], [10, 20]) else ([], [])⟩
def L57_0 (K : AV → Heap → Prop) (v9 : AV) (v10 : AV) (v18 : AV) (v19 : AV) (v20 : AV) (H : Heap) : Prop := LoopV (wpC Try.prog tab D57 (cAt [1, 1, 1, 0, 1, 0, 0] (bodyOf Try.f57))) [9, 18, 19] (PostF.block 0 (PostF.thenA (wpC Try.prog tab D57 (cAt [1, 1, 1, 1] (bodyOf Try.f57))) (retF tab [.tmp 8] K))) [10, 20] [AV.any, AV.any, AV.any, AV.any, AV.any, AV.any, AV.any, AV.any, AV.any, v9, v10, AV.any, AV.any, AV.any, AV.any, AV.any, AV.any, AV.any, v18, v19, v20, AV.any, AV.any, AV.any, AV.any, AV.any, AV.any, AV.any, AV.any, AV.any, AV.any, AV.any, AV.any, AV.any, AV.any, AV.any] H
def B57_0 (K : AV → Heap → Prop) (N1 : AV → AV → Heap → Prop) (v9 : AV) (v10 : AV) (v18 : AV) (v19 : AV) (v20 : AV) (H : Heap) : Prop :=
 binV tab .lss 3 v20 v19 fun v21 =>
 condV v21 (indexAddrV tab 24 v18 v20 fun v23 =>
 loadV tab 3 v23 H fun v24 =>
 indexAddrV tab 34 v9 v24 fun v27 =>
 loadV tab 4 v27 H fun v28 =>
 condV v28 (convV tab 3 90 v20 fun v31 =>
 binV tab .shl 3 (AV.p (.int .i64 1)) v31 fun v32 =>
 binV tab .or 3 v10 v32 fun v33 =>
 binV tab .add 3 v20 (AV.p (.int .i64 1)) fun v34 =>
 N1 v33 v34 H)
 (binV tab .add 3 v20 (AV.p (.int .i64 1)) fun v34 =>
 N1 v10 v34 H))
 (K v10 H)
def W57 (v0 : AV) (v1 : AV) (v2 : AV) (v3 : AV) (H : Heap) (K : AV → Heap → Prop) : Prop :=
 CallT Try.prog 54 [v0, v1, v2, v3] H fun v17 H1 =>
 lenV tab 24 v1 fun v19 =>
 L57_0 K v17 (AV.p (.int .i64 0)) v1 v19 (AV.p (.int .i64 0)) H1
theorem W57_wp (v0 : AV) (v1 : AV) (v2 : AV) (v3 : AV) (H : Heap) (K : AV → Heap → Prop) : wpC Try.prog tab D57 (bodyOf Try.f57) (retF tab [.tmp 8] K) (nthA [v0, v1, v2, v3]) H = W57 v0 v1 v2 v3 H K := by kernel_rfl
theorem W57_ok {v0 v1 v2 v3 : AV} {H : Heap} {K : AV → Heap → Prop} (h : W57 v0 v1 v2 v3 H K) : CallT Try.prog 57 [v0, v1, v2, v3] H K :=
  CallT.of_wp (D := D57) tab_ok mixed Try.func57 (c := bodyOf Try.f57) (by kernel_rfl) rfl (by kernel_rfl) (rs := #[.tmp 8]) rfl (by decide +kernel) (by kernel_rfl) (W57_wp v0 v1 v2 v3 H K) h
theorem W57_hb : HasBody Try.prog 57 := ⟨_, bodyOf Try.f57, Try.func57, by kernel_rfl, rfl⟩
theorem L57_0_rule {K : AV → Heap → Prop} {v9 v10 v18 v19 v20 : AV} {H : Heap} {σ : Type} (s0 : σ) (f10 : σ → AV) (f20 : σ → AV) (TH : σ → Heap) (pre : σ → Prop) (μ : σ → Nat)
    (h0 : pre s0 ∧ AV.wk v10 (f10 s0) ∧ AV.wk v20 (f20 s0) ∧ Heap.le (TH s0) H)
    (round : ∀ s, pre s → B57_0 K (fun w10 w20 H' => ∃ s', pre s' ∧ μ s' < μ s ∧ AV.wk w10 (f10 s') ∧ AV.wk w20 (f20 s') ∧ Heap.le (TH s') H') v9 (f10 s) v18 v19 (f20 s) (TH s)) :
    L57_0 K v9 v10 v18 v19 v20 H := by
  unfold L57_0
  exact LoopV.mk s0 (fun s => [f10 s, f20 s]) TH pre μ (fun _ => rfl) (Eq.mp (by kernel_rfl) h0) (fun s hs => Eq.mp (by kernel_rfl) (round s hs))
theorem L57_0_ruleG {K : AV → Heap → Prop} {v9 v10 v18 v19 v20 : AV} {H : Heap} {σ : Type} (s0 : σ) (f10 : σ → AV) (f20 : σ → AV) (TH : σ → Heap) (pre : σ → Prop) (μ : σ → Nat)
    (h0 : pre s0 ∧ AV.wk v10 (f10 s0) ∧ AV.wk v20 (f20 s0) ∧ Heap.le (TH s0) H)
    (round : ∀ s, pre s → ∀ q, TH s q = none → B57_0 K (fun w10 w20 H' => ∃ s', pre s' ∧ μ s' < μ s ∧ AV.wk w10 (f10 s') ∧ AV.wk w20 (f20 s') ∧ Heap.le (TH s') H') v9 (f10 s) v18 v19 (f20 s) ((TH s).set q [])) :
    L57_0 K v9 v10 v18 v19 v20 H := by
  unfold L57_0
  exact LoopV.mkG s0 (fun s => [f10 s, f20 s]) TH pre μ (fun _ => rfl) (Eq.mp (by kernel_rfl) h0) (fun s hs q hq => Eq.mp (by kernel_rfl) (round s hs q hq))
/-- loop.example/g00649/impl.guessOf -/
def D58 : Info := ⟨33, fun i => ([], []), fun i => if i = 3 then ([7, 16, 17], [8, 18]) else ([], [])⟩
def L58_0 (K : AV → Heap → Prop) (v7 : AV) (v8 : AV) (v16 : AV) (v17 : AV) (v18 : AV) (H : Heap) : Prop := LoopV (wpC Try.prog tab D58 (cAt [1, 1, 0, 1, 0, 0] (bodyOf Try.f58))) [7, 16, 17] (PostF.block 0 (PostF.thenA (wpC Try.prog tab D58 (cAt [1, 1, 1] (bodyOf Try.f58))) (retF tab [.tmp 6] K))) [8, 18] [AV.any, AV.any, AV.any, AV.any, AV.any, AV.any, AV.any, v7, v8, AV.any, AV.any, AV.any, AV.any, AV.any, AV.any, AV.any, v16, v17, v18, AV.any, AV.any, AV.any, AV.any, AV.any, AV.any, AV.any, AV.any, AV.any, AV.any, AV.any, AV.any, AV.any, AV.any] H
def B58_0 (K : AV → Heap → Prop) (N1 : AV → AV → Heap → Prop) (v7 : AV) (v8 : AV) (v16 : AV) (v17 : AV) (v18 : AV) (H : Heap) : Prop :=
 binV tab .lss 3 v18 v17 fun v19 =>
 condV v19 (indexAddrV tab 24 v16 v18 fun v21 =>
 loadV tab 3 v21 H fun v22 =>
 indexAddrV tab 34 v7 v22 fun v25 =>
 loadV tab 4 v25 H fun v26 =>
 condV v26 (binV tab .shl 3 (AV.p (.int .i64 1)) v18 fun v29 =>
 binV tab .or 3 v8 v29 fun v30 =>
 binV tab .add 3 v18 (AV.p (.int .i64 1)) fun v31 =>
 N1 v30 v31 H)
 (binV tab .add 3 v18 (AV.p (.int .i64 1)) fun v31 =>
 N1 v8 v31 H))
 (K v8 H)
def W58 (v0 : AV) (v1 : AV) (v2 : AV) (H : Heap) (K : AV → Heap → Prop) : Prop :=
 CallT Try.prog 56 [v0, v1, v2] H fun v14 H1 =>
 CallT Try.prog 51 [v0] H1 fun v16 H2 =>
 lenV tab 24 v16 fun v17 =>
 L58_0 K v14 (AV.p (.int .i64 0)) v16 v17 (AV.p (.int .i64 0)) H2
theorem W58_wp (v0 : AV) (v1 : AV) (v2 : AV) (H : Heap) (K : AV → Heap → Prop) : wpC Try.prog tab D58 (bodyOf Try.f58) (retF tab [.tmp 6] K) (nthA [v0, v1, v2]) H = W58 v0 v1 v2 H K := by kernel_rfl
theorem W58_ok {v0 v1 v2 : AV} {H : Heap} {K : AV → Heap → Prop} (h : W58 v0 v1 v2 H K) : CallT Try.prog 58 [v0, v1, v2] H K :=
  CallT.of_wp (D := D58) tab_ok mixed Try.func58 (c := bodyOf Try.f58) (by kernel_rfl) rfl (by kernel_rfl) (rs := #[.tmp 6]) rfl (by decide +kernel) (by kernel_rfl) (W58_wp v0 v1 v2 H K) h
theorem W58_hb : HasBody Try.prog 58 := ⟨_, bodyOf Try.f58, Try.func58, by kernel_rfl, rfl⟩
theorem L58_0_rule {K : AV → Heap → Prop} {v7 v8 v16 v17 v18 : AV} {H : Heap} {σ : Type} (s0 : σ) (f8 : σ → AV) (f18 : σ → AV) (TH : σ → Heap) (pre : σ → Prop) (μ : σ → Nat)
    (h0 : pre s0 ∧ AV.wk v8 (f8 s0) ∧ AV.wk v18 (f18 s0) ∧ Heap.le (TH s0) H)
    (round : ∀ s, pre s → B58_0 K (fun w8 w18 H' => ∃ s', pre s' ∧ μ s' < μ s ∧ AV.wk w8 (f8 s') ∧ AV.wk w18 (f18 s') ∧ Heap.le (TH s') H') v7 (f8 s) v16 v17 (f18 s) (TH s)) :
    L58_0 K v7 v8 v16 v17 v18 H := by
  unfold L58_0
  exact LoopV.mk s0 (fun s => [f8 s, f18 s]) TH pre μ (fun _ => rfl) (Eq.mp (by kernel_rfl) h0) (fun s hs => Eq.mp (by kernel_rfl) (round s hs))
theorem L58_0_ruleG {K : AV → Heap → Prop} {v7 v8 v16 v17 v18 : AV} {H : Heap} {σ : Type} (s0 : σ) (f8 : σ → AV) (f18 : σ → AV) (TH : σ → Heap) (pre : σ → Prop) (μ : σ → Nat)
    (h0 : pre s0 ∧ AV.wk v8 (f8 s0) ∧ AV.wk v18 (f18 s0) ∧ Heap.le (TH s0) H)
    (round : ∀ s, pre s → ∀ q, TH s q = none → B58_0 K (fun w8 w18 H' => ∃ s', pre s' ∧ μ s' < μ s ∧ AV.wk w8 (f8 s') ∧ AV.wk w18 (f18 s') ∧ Heap.le (TH s') H') v7 (f8 s) v16 v17 (f18 s) ((TH s).set q [])) :
    L58_0 K v7 v8 v16 v17 v18 H := by
  unfold L58_0
  exact LoopV.mkG s0 (fun s => [f8 s, f18 s]) TH pre μ (fun _ => rfl) (Eq.mp (by kernel_rfl) h0) (fun s hs q hq => Eq.mp (by kernel_rfl) (round s hs q hq))
/-- slices.Clone[[]int,int] -/
def D67 : Info := ⟨8, fun i => ([], []), fun i => ([], [])⟩
def W67 (v0 : AV) (H : Heap) (K : AV → Heap → Prop) : Prop :=
 binV tab .eql 24 v0 (AV.p .nil) fun v4 =>
 condV v4 (K (AV.p .nil) H)
 (buildSliceV tab 24 0 [] H (wkK fun v5 H1 =>
 appendV tab 24 24 v5 v0 H1 (wkK fun v7 H2 =>
 K v7 H2)))
theorem W67_wp (v0 : AV) (H : Heap) (K : AV → Heap → Prop) : wpC Try.prog tab D67 (bodyOf Try.f67) (retF tab [.tmp 2] K) (nthA [v0]) H = W67 v0 H K := by kernel_rfl
theorem W67_ok {v0 : AV} {H : Heap} {K : AV → Heap → Prop} (h : W67 v0 H K) : CallT Try.prog 67 [v0] H K :=
  CallT.of_wp (D := D67) tab_ok mixed Try.func67 (c := bodyOf Try.f67) (by kernel_rfl) rfl (by kernel_rfl) (rs := #[.tmp 2]) rfl (by decide +kernel) (by kernel_rfl) (W67_wp v0 H K) h
theorem W67_hb : HasBody Try.prog 67 := ⟨_, bodyOf Try.f67, Try.func67, by kernel_rfl, rfl⟩
/-- loop.example/g00649/impl.operandsOfSaid -/
def D79 : Info := ⟨15, fun i => ([], []), fun i => ([], [])⟩
def J79_0 (K : AV → Heap → Prop) (v3 : AV) (v7 : AV) (H : Heap) : Prop :=
 condV v7 (K (AV.p (.int .i64 1)) H)
 (binV tab .eql 3 v3 (AV.p (.int .i64 5)) fun v11 =>
 condV v11 (condV v11 (K (AV.p (.int .i64 2)) H)
 (K (AV.p (.int .i64 (-1))) H))
 (binV tab .eql 3 v3 (AV.p (.int .i64 6)) fun v12 =>
 condV v12 (condV v12 (K (AV.p (.int .i64 2)) H)
 (K (AV.p (.int .i64 (-1))) H))
 (binV tab .eql 3 v3 (AV.p (.int .i64 7)) fun v13 =>
 condV v13 (condV v13 (K (AV.p (.int .i64 2)) H)
 (K (AV.p (.int .i64 (-1))) H))
 (binV tab .eql 3 v3 (AV.p (.int .i64 8)) fun v14 =>
 condV v14 (K (AV.p (.int .i64 2)) H)
 (K (AV.p (.int .i64 (-1))) H)))))
def J79_1 (K : AV → Heap → Prop) (v3 : AV) (v4 : AV) (H : Heap) : Prop :=
 condV v4 (K (AV.p (.int .i64 0)) H)
 (binV tab .eql 3 v3 (AV.p (.int .i64 3)) fun v8 =>
 condV v8 (J79_0 K v3 v8 H)
 (binV tab .eql 3 v3 (AV.p (.int .i64 4)) fun v9 =>
 J79_0 K v3 v9 H))
def W79 (v0 : AV) (H : Heap) (K : AV → Heap → Prop) : Prop :=
 binV tab .eql 3 v0 (AV.p (.int .i64 1)) fun v5 =>
 condV v5 (J79_1 K v0 v5 H)
 (binV tab .eql 3 v0 (AV.p (.int .i64 2)) fun v6 =>
 J79_1 K v0 v6 H)
theorem W79_wp (v0 : AV) (H : Heap) (K : AV → Heap → Prop) : wpC Try.prog tab D79 (bodyOf Try.f79) (retF tab [.tmp 2] K) (nthA [v0]) H = W79 v0 H K := by kernel_rfl
theorem W79_ok {v0 : AV} {H : Heap} {K : AV → Heap → Prop} (h : W79 v0 H K) : CallT Try.prog 79 [v0] H K :=
  CallT.of_wp (D := D79) tab_ok mixed Try.func79 (c := bodyOf Try.f79) (by kernel_rfl) rfl (by kernel_rfl) (rs := #[.tmp 2]) rfl (by decide +kernel) (by kernel_rfl) (W79_wp v0 H K) h
theorem W79_hb : HasBody Try.prog 79 := ⟨_, bodyOf Try.f79, Try.func79, by kernel_rfl, rfl⟩
/-- loop.example/g00649/impl.GoodSaid -/
def D80 : Info := ⟨39, fun i => ([], []), fun i => if i = 5 then ([15, 16], [3, 17]) else ([], [])⟩
def L80_0 (K : AV → Heap → Prop) (v3 : AV) (v15 : AV) (v16 : AV) (v17 : AV) (H : Heap) : Prop := LoopV (wpC Try.prog tab D80 (cAt [1, 1, 1, 0, 1, 0, 0] (bodyOf Try.f80))) [15, 16] (PostF.block 0 (PostF.thenA (wpC Try.prog tab D80 (cAt [1, 1, 1, 1] (bodyOf Try.f80))) (retF tab [.tmp 2] K))) [3, 17] [AV.any, AV.any, AV.any, v3, AV.any, AV.any, AV.any, AV.any, AV.any, AV.any, AV.any, AV.any, AV.any, AV.any, AV.any, v15, v16, v17, AV.any, AV.any, AV.any, AV.any, AV.any, AV.any, AV.any, AV.any, AV.any, AV.any, AV.any, AV.any, AV.any, AV.any, AV.any, AV.any, AV.any, AV.any, AV.any, AV.any, AV.any] H
def B80_0 (K : AV → Heap → Prop) (N1 : AV → AV → Heap → Prop) (v3 : AV) (v15 : AV) (v16 : AV) (v17 : AV) (H : Heap) : Prop :=
 binV tab .lss 3 v17 v16 fun v18 =>
 condV v18 (indexAddrV tab 27 v15 v17 fun v19 =>
 loadV tab 77 v19 H fun v20 =>
 allocV tab 77 H fun v5 H1 =>
 storeV tab 77 v5 v20 H1 fun H2 =>
 fieldAddrV tab 77 v5 0 fun v21 =>
 loadV tab 3 v21 H2 fun v22 =>
 CallT Try.prog 79 [v22] H2 fun v23 H3 =>
 loadV tab 77 v5 H3 fun v24 =>
 CallT Try.prog 117 [v24] H3 fun v25 H4 =>
 unV .not v25 fun v26 =>
 grdV v26 false (binV tab .lss 3 v3 v23 fun v30 =>
 condV v30 (K (AV.p (.bool false)) H4)
 (binV tab .sub 3 (AV.p (.int .i64 1)) v23 fun v34 =>
 binV tab .add 3 v3 v34 fun v35 =>
 binV tab .add 3 v17 (AV.p (.int .i64 1)) fun v36 =>
 N1 v35 v36 H4))
 (K (AV.p (.bool false)) H4))
 (binV tab .eql 3 v3 (AV.p (.int .i64 1)) fun v38 =>
 K v38 H)
def W80 (v0 : AV) (H : Heap) (K : AV → Heap → Prop) : Prop :=
 lenV tab 27 v0 fun v8 =>
 binV tab .lss 3 v8 (AV.p (.int .i64 1)) fun v9 =>
 grdV v9 false (lenV tab 27 v0 fun v12 =>
 binV tab .gtr 3 v12 (AV.p (.int .i64 16)) fun v13 =>
 condV v13 (K (AV.p (.bool false)) H)
 (lenV tab 27 v0 fun v16 =>
 L80_0 K (AV.p (.int .i64 0)) v0 v16 (AV.p (.int .i64 0)) H))
 (K (AV.p (.bool false)) H)
theorem W80_wp (v0 : AV) (H : Heap) (K : AV → Heap → Prop) : wpC Try.prog tab D80 (bodyOf Try.f80) (retF tab [.tmp 2] K) (nthA [v0]) H = W80 v0 H K := by kernel_rfl
theorem W80_ok {v0 : AV} {H : Heap} {K : AV → Heap → Prop} (h : W80 v0 H K) : CallT Try.prog 80 [v0] H K :=
  CallT.of_wp (D := D80) tab_ok mixed Try.func80 (c := bodyOf Try.f80) (by kernel_rfl) rfl (by kernel_rfl) (rs := #[.tmp 2]) rfl (by decide +kernel) (by kernel_rfl) (W80_wp v0 H K) h
theorem W80_hb : HasBody Try.prog 80 := ⟨_, bodyOf Try.f80, Try.func80, by kernel_rfl, rfl⟩
theorem L80_0_rule {K : AV → Heap → Prop} {v3 v15 v16 v17 : AV} {H : Heap} {σ : Type} (s0 : σ) (f3 : σ → AV) (f17 : σ → AV) (TH : σ → Heap) (pre : σ → Prop) (μ : σ → Nat)
    (h0 : pre s0 ∧ AV.wk v3 (f3 s0) ∧ AV.wk v17 (f17 s0) ∧ Heap.le (TH s0) H)
    (round : ∀ s, pre s → B80_0 K (fun w3 w17 H' => ∃ s', pre s' ∧ μ s' < μ s ∧ AV.wk w3 (f3 s') ∧ AV.wk w17 (f17 s') ∧ Heap.le (TH s') H') (f3 s) v15 v16 (f17 s) (TH s)) :
    L80_0 K v3 v15 v16 v17 H := by
  unfold L80_0
  exact LoopV.mk s0 (fun s => [f3 s, f17 s]) TH pre μ (fun _ => rfl) (Eq.mp (by kernel_rfl) h0) (fun s hs => Eq.mp (by kernel_rfl) (round s hs))
theorem L80_0_ruleG {K : AV → Heap → Prop} {v3 v15 v16 v17 : AV} {H : Heap} {σ : Type} (s0 : σ) (f3 : σ → AV) (f17 : σ → AV) (TH : σ → Heap) (pre : σ → Prop) (μ : σ → Nat)
    (h0 : pre s0 ∧ AV.wk v3 (f3 s0) ∧ AV.wk v17 (f17 s0) ∧ Heap.le (TH s0) H)
    (round : ∀ s, pre s → ∀ q, TH s q = none → B80_0 K (fun w3 w17 H' => ∃ s', pre s' ∧ μ s' < μ s ∧ AV.wk w3 (f3 s') ∧ AV.wk w17 (f17 s') ∧ Heap.le (TH s') H') (f3 s) v15 v16 (f17 s) ((TH s).set q [])) :
    L80_0 K v3 v15 v16 v17 H := by
  unfold L80_0
  exact LoopV.mkG s0 (fun s => [f3 s, f17 s]) TH pre μ (fun _ => rfl) (Eq.mp (by kernel_rfl) h0) (fun s hs q hq => Eq.mp (by kernel_rfl) (round s hs q hq))
/-- loop.example/g00649/spec.l10Need -/
def D83 : Info := ⟨15, fun i => ([], []), fun i => ([], [])⟩
def J83_0 (K : AV → Heap → Prop) (v3 : AV) (v7 : AV) (H : Heap) : Prop :=
 condV v7 (K (AV.p (.int .i64 1)) H)
 (binV tab .eql 3 v3 (AV.p (.int .i64 5)) fun v11 =>
 condV v11 (condV v11 (K (AV.p (.int .i64 2)) H)
 (K (AV.p (.int .i64 (-1))) H))
 (binV tab .eql 3 v3 (AV.p (.int .i64 6)) fun v12 =>
 condV v12 (condV v12 (K (AV.p (.int .i64 2)) H)
 (K (AV.p (.int .i64 (-1))) H))
 (binV tab .eql 3 v3 (AV.p (.int .i64 7)) fun v13 =>
 condV v13 (condV v13 (K (AV.p (.int .i64 2)) H)
 (K (AV.p (.int .i64 (-1))) H))
 (binV tab .eql 3 v3 (AV.p (.int .i64 8)) fun v14 =>
 condV v14 (K (AV.p (.int .i64 2)) H)
 (K (AV.p (.int .i64 (-1))) H)))))
def J83_1 (K : AV → Heap → Prop) (v3 : AV) (v4 : AV) (H : Heap) : Prop :=
 condV v4 (K (AV.p (.int .i64 0)) H)
 (binV tab .eql 3 v3 (AV.p (.int .i64 3)) fun v8 =>
 condV v8 (J83_0 K v3 v8 H)
 (binV tab .eql 3 v3 (AV.p (.int .i64 4)) fun v9 =>
 J83_0 K v3 v9 H))
def W83 (v0 : AV) (H : Heap) (K : AV → Heap → Prop) : Prop :=
 binV tab .eql 3 v0 (AV.p (.int .i64 1)) fun v5 =>
 condV v5 (J83_1 K v0 v5 H)
 (binV tab .eql 3 v0 (AV.p (.int .i64 2)) fun v6 =>
 J83_1 K v0 v6 H)
theorem W83_wp (v0 : AV) (H : Heap) (K : AV → Heap → Prop) : wpC Try.prog tab D83 (bodyOf Try.f83) (retF tab [.tmp 2] K) (nthA [v0]) H = W83 v0 H K := by kernel_rfl
theorem W83_ok {v0 : AV} {H : Heap} {K : AV → Heap → Prop} (h : W83 v0 H K) : CallT Try.prog 83 [v0] H K :=
  CallT.of_wp (D := D83) tab_ok mixed Try.func83 (c := bodyOf Try.f83) (by kernel_rfl) rfl (by kernel_rfl) (rs := #[.tmp 2]) rfl (by decide +kernel) (by kernel_rfl) (W83_wp v0 H K) h
theorem W83_hb : HasBody Try.prog 83 := ⟨_, bodyOf Try.f83, Try.func83, by kernel_rfl, rfl⟩
/-- loop.example/g00649/spec.GoodSaid -/
def D84 : Info := ⟨39, fun i => ([], []), fun i => if i = 5 then ([11, 12], [3, 13]) else ([], [])⟩
def L84_0 (K : AV → Heap → Prop) (v3 : AV) (v11 : AV) (v12 : AV) (v13 : AV) (H : Heap) : Prop := LoopV (wpC Try.prog tab D84 (cAt [1, 1, 1, 0, 1, 0, 0] (bodyOf Try.f84))) [11, 12] (PostF.block 0 (PostF.thenA (wpC Try.prog tab D84 (cAt [1, 1, 1, 1] (bodyOf Try.f84))) (retF tab [.tmp 2] K))) [3, 13] [AV.any, AV.any, AV.any, v3, AV.any, AV.any, AV.any, AV.any, AV.any, AV.any, AV.any, v11, v12, v13, AV.any, AV.any, AV.any, AV.any, AV.any, AV.any, AV.any, AV.any, AV.any, AV.any, AV.any, AV.any, AV.any, AV.any, AV.any, AV.any, AV.any, AV.any, AV.any, AV.any, AV.any, AV.any, AV.any, AV.any, AV.any] H
def B84_0 (K : AV → Heap → Prop) (N1 : AV → AV → Heap → Prop) (v3 : AV) (v11 : AV) (v12 : AV) (v13 : AV) (H : Heap) : Prop :=
 binV tab .lss 3 v13 v12 fun v14 =>
 condV v14 (indexAddrV tab 27 v11 v13 fun v15 =>
 loadV tab 77 v15 H fun v16 =>
 allocV tab 77 H fun v5 H2 =>
 storeV tab 77 v5 v16 H2 fun H3 =>
 fieldAddrV tab 77 v5 0 fun v17 =>
 loadV tab 3 v17 H3 fun v18 =>
 CallT Try.prog 83 [v18] H3 fun v19 H4 =>
 binV tab .lss 3 v19 (AV.p (.int .i64 0)) fun v21 =>
 grdV v21 false (loadV tab 77 v5 H4 fun v23 =>
 CallT Try.prog 119 [v23] H4 fun v24 H5 =>
 unV .not v24 fun v25 =>
 grdV v25 false (binV tab .lss 3 v3 v19 fun v30 =>
 condV v30 (K (AV.p (.bool false)) H5)
 (binV tab .sub 3 (AV.p (.int .i64 1)) v19 fun v34 =>
 binV tab .add 3 v3 v34 fun v35 =>
 binV tab .add 3 v13 (AV.p (.int .i64 1)) fun v36 =>
 N1 v35 v36 H5))
 (K (AV.p (.bool false)) H5))
 (K (AV.p (.bool false)) H4))
 (binV tab .eql 3 v3 (AV.p (.int .i64 1)) fun v38 =>
 K v38 H)
def W84 (v0 : AV) (H : Heap) (K : AV → Heap → Prop) : Prop :=
 lenV tab 27 v0 fun v8 =>
 CallT Try.prog 89 [v8, (AV.p (.int .i64 1)), (AV.p (.int .i64 16))] H fun v9 H1 =>
 unV .not v9 fun v10 =>
 condV v10 (K (AV.p (.bool false)) H1)
 (lenV tab 27 v0 fun v12 =>
 L84_0 K (AV.p (.int .i64 0)) v0 v12 (AV.p (.int .i64 0)) H1)
theorem W84_wp (v0 : AV) (H : Heap) (K : AV → Heap → Prop) : wpC Try.prog tab D84 (bodyOf Try.f84) (retF tab [.tmp 2] K) (nthA [v0]) H = W84 v0 H K := by kernel_rfl
theorem W84_ok {v0 : AV} {H : Heap} {K : AV → Heap → Prop} (h : W84 v0 H K) : CallT Try.prog 84 [v0] H K :=
  CallT.of_wp (D := D84) tab_ok mixed Try.func84 (c := bodyOf Try.f84) (by kernel_rfl) rfl (by kernel_rfl) (rs := #[.tmp 2]) rfl (by decide +kernel) (by kernel_rfl) (W84_wp v0 H K) h
theorem W84_hb : HasBody Try.prog 84 := ⟨_, bodyOf Try.f84, Try.func84, by kernel_rfl, rfl⟩
theorem L84_0_rule {K : AV → Heap → Prop} {v3 v11 v12 v13 : AV} {H : Heap} {σ : Type} (s0 : σ) (f3 : σ → AV) (f13 : σ → AV) (TH : σ → Heap) (pre : σ → Prop) (μ : σ → Nat)
    (h0 : pre s0 ∧ AV.wk v3 (f3 s0) ∧ AV.wk v13 (f13 s0) ∧ Heap.le (TH s0) H)
    (round : ∀ s, pre s → B84_0 K (fun w3 w13 H' => ∃ s', pre s' ∧ μ s' < μ s ∧ AV.wk w3 (f3 s') ∧ AV.wk w13 (f13 s') ∧ Heap.le (TH s') H') (f3 s) v11 v12 (f13 s) (TH s)) :
    L84_0 K v3 v11 v12 v13 H := by
  unfold L84_0
  exact LoopV.mk s0 (fun s => [f3 s, f13 s]) TH pre μ (fun _ => rfl) (Eq.mp (by kernel_rfl) h0) (fun s hs => Eq.mp (by kernel_rfl) (round s hs))
theorem L84_0_ruleG {K : AV → Heap → Prop} {v3 v11 v12 v13 : AV} {H : Heap} {σ : Type} (s0 : σ) (f3 : σ → AV) (f13 : σ → AV) (TH : σ → Heap) (pre : σ → Prop) (μ : σ → Nat)
    (h0 : pre s0 ∧ AV.wk v3 (f3 s0) ∧ AV.wk v13 (f13 s0) ∧ Heap.le (TH s0) H)
    (round : ∀ s, pre s → ∀ q, TH s q = none → B84_0 K (fun w3 w13 H' => ∃ s', pre s' ∧ μ s' < μ s ∧ AV.wk w3 (f3 s') ∧ AV.wk w13 (f13 s') ∧ Heap.le (TH s') H') (f3 s) v11 v12 (f13 s) ((TH s).set q [])) :
    L84_0 K v3 v11 v12 v13 H := by
  unfold L84_0
  exact LoopV.mkG s0 (fun s => [f3 s, f13 s]) TH pre μ (fun _ => rfl) (Eq.mp (by kernel_rfl) h0) (fun s hs q hq => Eq.mp (by kernel_rfl) (round s hs q hq))
/-- loop.example/g00649/spec.l1In -/
def D89 : Info := ⟨15, fun i => ([], []), fun i => ([], [])⟩
def W89 (v0 : AV) (v1 : AV) (v2 : AV) (H : Heap) (K : AV → Heap → Prop) : Prop :=
 binV tab .geq 3 v0 v1 fun v9 =>
 grdV v9 true (binV tab .leq 3 v0 v2 fun v13 =>
 K v13 H)
 (K (AV.p (.bool false)) H)
theorem W89_wp (v0 : AV) (v1 : AV) (v2 : AV) (H : Heap) (K : AV → Heap → Prop) : wpC Try.prog tab D89 (bodyOf Try.f89) (retF tab [.tmp 6] K) (nthA [v0, v1, v2]) H = W89 v0 v1 v2 H K := by kernel_rfl
theorem W89_ok {v0 v1 v2 : AV} {H : Heap} {K : AV → Heap → Prop} (h : W89 v0 v1 v2 H K) : CallT Try.prog 89 [v0, v1, v2] H K :=
  CallT.of_wp (D := D89) tab_ok mixed Try.func89 (c := bodyOf Try.f89) (by kernel_rfl) rfl (by kernel_rfl) (rs := #[.tmp 6]) rfl (by decide +kernel) (by kernel_rfl) (W89_wp v0 v1 v2 H K) h
theorem W89_hb : HasBody Try.prog 89 := ⟨_, bodyOf Try.f89, Try.func89, by kernel_rfl, rfl⟩
/-- loop.example/g00649/spec.l1Put -/
def D94 : Info := ⟨48, fun i => ([], []), fun i => if i = 2 then ([0, 1], [5]) else ([], [])⟩
def L94_0 (K : AV → Heap → Prop) (v0 : AV) (v1 : AV) (v5 : AV) (H : Heap) : Prop := LoopV (wpC Try.prog tab D94 (cAt [1, 1, 0, 0, 0] (bodyOf Try.f94))) [0, 1] (PostF.block 0 (PostF.thenA (wpC Try.prog tab D94 (cAt [1, 1, 1] (bodyOf Try.f94))) (retF tab [.tmp 4] K))) [5] [v0, v1, AV.any, AV.any, AV.any, v5, AV.any, AV.any, AV.any, AV.any, AV.any, AV.any, AV.any, AV.any, AV.any, AV.any, AV.any, AV.any, AV.any, AV.any, AV.any, AV.any, AV.any, AV.any, AV.any, AV.any, AV.any, AV.any, AV.any, AV.any, AV.any, AV.any, AV.any, AV.any, AV.any, AV.any, AV.any, AV.any, AV.any, AV.any, AV.any, AV.any, AV.any, AV.any, AV.any, AV.any, AV.any, AV.any] H
def J94_1 (K : AV → Heap → Prop) (v0 : AV) (v1 : AV) (v5 : AV) (H : Heap) : Prop :=
 buildSliceV tab 24 0 [] H (wkK fun v34 H1 =>
 sliceV tab 24 v0 none (some v5) none fun v37 =>
 appendV tab 24 24 v34 v37 H1 (wkK fun v38 H2 =>
 buildSliceV tab 24 1 [(0, v1)] H2 (wkK fun v41 H3 =>
 appendV tab 24 24 v38 v41 H3 (wkK fun v42 H4 =>
 sliceV tab 24 v0 (some v5) none none fun v46 =>
 appendV tab 24 24 v42 v46 H4 (wkK fun v47 H5 =>
 K v47 H5)))))
def J94_2 (K : AV → Heap → Prop) (v0 : AV) (v1 : AV) (v5 : AV) (H : Heap) : Prop :=
 lenV tab 24 v0 fun v23 =>
 binV tab .lss 3 v5 v23 fun v24 =>
 grdV v24 true (indexAddrV tab 24 v0 v5 fun v28 =>
 loadV tab 3 v28 H fun v29 =>
 binV tab .eql 3 v29 v1 fun v31 =>
 condV v31 (K v0 H)
 (J94_1 K v0 v1 v5 H))
 (J94_1 K v0 v1 v5 H)
def B94_0 (K : AV → Heap → Prop) (N1 : AV → Heap → Prop) (v0 : AV) (v1 : AV) (v5 : AV) (H : Heap) : Prop :=
 lenV tab 24 v0 fun v9 =>
 binV tab .lss 3 v5 v9 fun v10 =>
 grdV v10 true (indexAddrV tab 24 v0 v5 fun v14 =>
 loadV tab 3 v14 H fun v15 =>
 binV tab .lss 3 v15 v1 fun v17 =>
 condV v17 (binV tab .add 3 v5 (AV.p (.int .i64 1)) fun v20 =>
 N1 v20 H)
 (J94_2 K v0 v1 v5 H))
 (J94_2 K v0 v1 v5 H)
def W94 (v0 : AV) (v1 : AV) (H : Heap) (K : AV → Heap → Prop) : Prop :=
 L94_0 K v0 v1 (AV.p (.int .i64 0)) H
theorem W94_wp (v0 : AV) (v1 : AV) (H : Heap) (K : AV → Heap → Prop) : wpC Try.prog tab D94 (bodyOf Try.f94) (retF tab [.tmp 4] K) (nthA [v0, v1]) H = W94 v0 v1 H K := by kernel_rfl
theorem W94_ok {v0 v1 : AV} {H : Heap} {K : AV → Heap → Prop} (h : W94 v0 v1 H K) : CallT Try.prog 94 [v0, v1] H K :=
  CallT.of_wp (D := D94) tab_ok mixed Try.func94 (c := bodyOf Try.f94) (by kernel_rfl) rfl (by kernel_rfl) (rs := #[.tmp 4]) rfl (by decide +kernel) (by kernel_rfl) (W94_wp v0 v1 H K) h
theorem W94_hb : HasBody Try.prog 94 := ⟨_, bodyOf Try.f94, Try.func94, by kernel_rfl, rfl⟩
theorem L94_0_rule {K : AV → Heap → Prop} {v0 v1 v5 : AV} {H : Heap} {σ : Type} (s0 : σ) (f5 : σ → AV) (TH : σ → Heap) (pre : σ → Prop) (μ : σ → Nat)
    (h0 : pre s0 ∧ AV.wk v5 (f5 s0) ∧ Heap.le (TH s0) H)
    (round : ∀ s, pre s → B94_0 K (fun w5 H' => ∃ s', pre s' ∧ μ s' < μ s ∧ AV.wk w5 (f5 s') ∧ Heap.le (TH s') H') v0 v1 (f5 s) (TH s)) :
    L94_0 K v0 v1 v5 H := by
  unfold L94_0
  exact LoopV.mk s0 (fun s => [f5 s]) TH pre μ (fun _ => rfl) (Eq.mp (by kernel_rfl) h0) (fun s hs => Eq.mp (by kernel_rfl) (round s hs))
theorem L94_0_ruleG {K : AV → Heap → Prop} {v0 v1 v5 : AV} {H : Heap} {σ : Type} (s0 : σ) (f5 : σ → AV) (TH : σ → Heap) (pre : σ → Prop) (μ : σ → Nat)
    (h0 : pre s0 ∧ AV.wk v5 (f5 s0) ∧ Heap.le (TH s0) H)
    (round : ∀ s, pre s → ∀ q, TH s q = none → B94_0 K (fun w5 H' => ∃ s', pre s' ∧ μ s' < μ s ∧ AV.wk w5 (f5 s') ∧ Heap.le (TH s') H') v0 v1 (f5 s) ((TH s).set q [])) :
    L94_0 K v0 v1 v5 H := by
  unfold L94_0
  exact LoopV.mkG s0 (fun s => [f5 s]) TH pre μ (fun _ => rfl) (Eq.mp (by kernel_rfl) h0) (fun s hs q hq => Eq.mp (by kernel_rfl) (round s hs q hq))
/-- loop.example/g00649/impl.operandIndexes -/
def D95 : Info := ⟨38, fun i => ([], []), fun i => if i = 3 then ([10, 11], [3, 4, 12]) else ([], [])⟩
def L95_0 (K : AV → Heap → Prop) (v3 : AV) (v4 : AV) (v10 : AV) (v11 : AV) (v12 : AV) (H : Heap) : Prop := LoopV (wpC Try.prog tab D95 (cAt [1, 1, 0, 1, 0, 0] (bodyOf Try.f95))) [10, 11] (PostF.block 0 (PostF.thenA (wpC Try.prog tab D95 (cAt [1, 1, 1] (bodyOf Try.f95))) (retF tab [.tmp 2] K))) [3, 4, 12] [AV.any, AV.any, AV.any, v3, v4, AV.any, AV.any, AV.any, AV.any, AV.any, v10, v11, v12, AV.any, AV.any, AV.any, AV.any, AV.any, AV.any, AV.any, AV.any, AV.any, AV.any, AV.any, AV.any, AV.any, AV.any, AV.any, AV.any, AV.any, AV.any, AV.any, AV.any, AV.any, AV.any, AV.any, AV.any, AV.any] H
def B95_0 (K : AV → Heap → Prop) (N1 : AV → AV → AV → Heap → Prop) (v3 : AV) (v4 : AV) (v10 : AV) (v11 : AV) (v12 : AV) (H : Heap) : Prop :=
 binV tab .lss 3 v12 v11 fun v13 =>
 condV v13 (indexAddrV tab 27 v10 v12 fun v15 =>
 loadV tab 77 v15 H fun v16 =>
 allocV tab 77 H fun v6 H3 =>
 storeV tab 77 v6 v16 H3 fun H4 =>
 lenV tab 24 v4 fun v18 =>
 fieldAddrV tab 77 v6 0 fun v19 =>
 loadV tab 3 v19 H4 fun v20 =>
 CallT Try.prog 79 [v20] H4 fun v21 H5 =>
 binV tab .sub 3 v18 v21 fun v22 =>
 sliceV tab 24 v4 (some v22) none none fun v26 =>
 CallT Try.prog 67 [v26] H5 fun v27 H6 =>
 buildSliceV tab 53 1 [(0, v27)] H6 (wkK fun v28 H7 =>
 appendV tab 53 53 v3 v28 H7 (wkK fun v29 H8 =>
 sliceV tab 24 v4 none (some v22) none fun v32 =>
 buildSliceV tab 24 1 [(0, v12)] H8 (wkK fun v34 H9 =>
 appendV tab 24 24 v32 v34 H9 (wkK fun v35 H10 =>
 binV tab .add 3 v12 (AV.p (.int .i64 1)) fun v36 =>
 N1 v29 v35 v36 H10)))))
 (K v3 H)
def W95 (v0 : AV) (H : Heap) (K : AV → Heap → Prop) : Prop :=
 buildSliceV tab 53 0 [] H (wkK fun v8 H1 =>
 buildSliceV tab 24 0 [] H1 (wkK fun v9 H2 =>
 lenV tab 27 v0 fun v11 =>
 L95_0 K v8 v9 v0 v11 (AV.p (.int .i64 0)) H2))
theorem W95_wp (v0 : AV) (H : Heap) (K : AV → Heap → Prop) : wpC Try.prog tab D95 (bodyOf Try.f95) (retF tab [.tmp 2] K) (nthA [v0]) H = W95 v0 H K := by kernel_rfl
theorem W95_ok {v0 : AV} {H : Heap} {K : AV → Heap → Prop} (h : W95 v0 H K) : CallT Try.prog 95 [v0] H K :=
  CallT.of_wp (D := D95) tab_ok mixed Try.func95 (c := bodyOf Try.f95) (by kernel_rfl) rfl (by kernel_rfl) (rs := #[.tmp 2]) rfl (by decide +kernel) (by kernel_rfl) (W95_wp v0 H K) h
theorem W95_hb : HasBody Try.prog 95 := ⟨_, bodyOf Try.f95, Try.func95, by kernel_rfl, rfl⟩
theorem L95_0_rule {K : AV → Heap → Prop} {v3 v4 v10 v11 v12 : AV} {H : Heap} {σ : Type} (s0 : σ) (f3 : σ → AV) (f4 : σ → AV) (f12 : σ → AV) (TH : σ → Heap) (pre : σ → Prop) (μ : σ → Nat)
    (h0 : pre s0 ∧ AV.wk v3 (f3 s0) ∧ AV.wk v4 (f4 s0) ∧ AV.wk v12 (f12 s0) ∧ Heap.le (TH s0) H)
    (round : ∀ s, pre s → B95_0 K (fun w3 w4 w12 H' => ∃ s', pre s' ∧ μ s' < μ s ∧ AV.wk w3 (f3 s') ∧ AV.wk w4 (f4 s') ∧ AV.wk w12 (f12 s') ∧ Heap.le (TH s') H') (f3 s) (f4 s) v10 v11 (f12 s) (TH s)) :
    L95_0 K v3 v4 v10 v11 v12 H := by
  unfold L95_0
  exact LoopV.mk s0 (fun s => [f3 s, f4 s, f12 s]) TH pre μ (fun _ => rfl) (Eq.mp (by kernel_rfl) h0) (fun s hs => Eq.mp (by kernel_rfl) (round s hs))
theorem L95_0_ruleG {K : AV → Heap → Prop} {v3 v4 v10 v11 v12 : AV} {H : Heap} {σ : Type} (s0 : σ) (f3 : σ → AV) (f4 : σ → AV) (f12 : σ → AV) (TH : σ → Heap) (pre : σ → Prop) (μ : σ → Nat)
    (h0 : pre s0 ∧ AV.wk v3 (f3 s0) ∧ AV.wk v4 (f4 s0) ∧ AV.wk v12 (f12 s0) ∧ Heap.le (TH s0) H)
    (round : ∀ s, pre s → ∀ q, TH s q = none → B95_0 K (fun w3 w4 w12 H' => ∃ s', pre s' ∧ μ s' < μ s ∧ AV.wk w3 (f3 s') ∧ AV.wk w4 (f4 s') ∧ AV.wk w12 (f12 s') ∧ Heap.le (TH s') H') (f3 s) (f4 s) v10 v11 (f12 s) ((TH s).set q [])) :
    L95_0 K v3 v4 v10 v11 v12 H := by
  unfold L95_0
  exact LoopV.mkG s0 (fun s => [f3 s, f4 s, f12 s]) TH pre μ (fun _ => rfl) (Eq.mp (by kernel_rfl) h0) (fun s hs q hq => Eq.mp (by kernel_rfl) (round s hs q hq))
/-- loop.example/g00649/spec.l13Says -/
def D98 : Info := ⟨26, fun i => ([], []), fun i => if i = 2 then ([1, 2, 9, 10], [11]) else ([], [])⟩
def L98_0 (K : AV → Heap → Prop) (v1 : AV) (v2 : AV) (v9 : AV) (v10 : AV) (v11 : AV) (H : Heap) : Prop := LoopV (wpC Try.prog tab D98 (cAt [1, 0, 1, 0, 0] (bodyOf Try.f98))) [1, 2, 9, 10] (PostF.block 0 (PostF.thenA (wpC Try.prog tab D98 (cAt [1, 1] (bodyOf Try.f98))) (retF tab [.tmp 6] K))) [11] [AV.any, v1, v2, AV.any, AV.any, AV.any, AV.any, AV.any, AV.any, v9, v10, v11, AV.any, AV.any, AV.any, AV.any, AV.any, AV.any, AV.any, AV.any, AV.any, AV.any, AV.any, AV.any, AV.any, AV.any] H
def B98_0 (K : AV → Heap → Prop) (N1 : AV → Heap → Prop) (v1 : AV) (v2 : AV) (v9 : AV) (v10 : AV) (v11 : AV) (H : Heap) : Prop :=
 binV tab .lss 3 v11 v10 fun v12 =>
 condV v12 (indexAddrV tab 24 v9 v11 fun v14 =>
 loadV tab 3 v14 H fun v15 =>
 binV tab .eql 3 v15 v2 fun v18 =>
 condV v18 (convV tab 3 90 v11 fun v21 =>
 binV tab .shr 3 v1 v21 fun v22 =>
 binV tab .and 3 v22 (AV.p (.int .i64 1)) fun v23 =>
 binV tab .eql 3 v23 (AV.p (.int .i64 1)) fun v24 =>
 K v24 H)
 (binV tab .add 3 v11 (AV.p (.int .i64 1)) fun v25 =>
 N1 v25 H))
 (K (AV.p (.bool false)) H)
def W98 (v0 : AV) (v1 : AV) (v2 : AV) (H : Heap) (K : AV → Heap → Prop) : Prop :=
 lenV tab 24 v0 fun v10 =>
 L98_0 K v1 v2 v0 v10 (AV.p (.int .i64 0)) H
theorem W98_wp (v0 : AV) (v1 : AV) (v2 : AV) (H : Heap) (K : AV → Heap → Prop) : wpC Try.prog tab D98 (bodyOf Try.f98) (retF tab [.tmp 6] K) (nthA [v0, v1, v2]) H = W98 v0 v1 v2 H K := by kernel_rfl
theorem W98_ok {v0 v1 v2 : AV} {H : Heap} {K : AV → Heap → Prop} (h : W98 v0 v1 v2 H K) : CallT Try.prog 98 [v0, v1, v2] H K :=
  CallT.of_wp (D := D98) tab_ok mixed Try.func98 (c := bodyOf Try.f98) (by kernel_rfl) rfl (by kernel_rfl) (rs := #[.tmp 6]) rfl (by decide +kernel) (by kernel_rfl) (W98_wp v0 v1 v2 H K) h
theorem W98_hb : HasBody Try.prog 98 := ⟨_, bodyOf Try.f98, Try.func98, by kernel_rfl, rfl⟩
theorem L98_0_rule {K : AV → Heap → Prop} {v1 v2 v9 v10 v11 : AV} {H : Heap} {σ : Type} (s0 : σ) (f11 : σ → AV) (TH : σ → Heap) (pre : σ → Prop) (μ : σ → Nat)
    (h0 : pre s0 ∧ AV.wk v11 (f11 s0) ∧ Heap.le (TH s0) H)
    (round : ∀ s, pre s → B98_0 K (fun w11 H' => ∃ s', pre s' ∧ μ s' < μ s ∧ AV.wk w11 (f11 s') ∧ Heap.le (TH s') H') v1 v2 v9 v10 (f11 s) (TH s)) :
    L98_0 K v1 v2 v9 v10 v11 H := by
  unfold L98_0
  exact LoopV.mk s0 (fun s => [f11 s]) TH pre μ (fun _ => rfl) (Eq.mp (by kernel_rfl) h0) (fun s hs => Eq.mp (by kernel_rfl) (round s hs))
theorem L98_0_ruleG {K : AV → Heap → Prop} {v1 v2 v9 v10 v11 : AV} {H : Heap} {σ : Type} (s0 : σ) (f11 : σ → AV) (TH : σ → Heap) (pre : σ → Prop) (μ : σ → Nat)
    (h0 : pre s0 ∧ AV.wk v11 (f11 s0) ∧ Heap.le (TH s0) H)
    (round : ∀ s, pre s → ∀ q, TH s q = none → B98_0 K (fun w11 H' => ∃ s', pre s' ∧ μ s' < μ s ∧ AV.wk w11 (f11 s') ∧ Heap.le (TH s') H') v1 v2 v9 v10 (f11 s) ((TH s).set q [])) :
    L98_0 K v1 v2 v9 v10 v11 H := by
  unfold L98_0
  exact LoopV.mkG s0 (fun s => [f11 s]) TH pre μ (fun _ => rfl) (Eq.mp (by kernel_rfl) h0) (fun s hs q hq => Eq.mp (by kernel_rfl) (round s hs q hq))
/-- loop.example/g00649/spec.l10From -/
def D99 : Info := ⟨23, fun i => ([], []), fun i => if i = 3 then ([0], [5, 6]) else ([], [])⟩
def L99_0 (K : AV → Heap → Prop) (v0 : AV) (v5 : AV) (v6 : AV) (H : Heap) : Prop := LoopV (wpC Try.prog tab D99 (cAt [1, 1, 0, 1, 0, 0] (bodyOf Try.f99))) [0] (PostF.block 0 (PostF.thenA (wpC Try.prog tab D99 (cAt [1, 1, 1] (bodyOf Try.f99))) (retF tab [.tmp 4] K))) [5, 6] [v0, AV.any, AV.any, AV.any, AV.any, v5, v6, AV.any, AV.any, AV.any, AV.any, AV.any, AV.any, AV.any, AV.any, AV.any, AV.any, AV.any, AV.any, AV.any, AV.any, AV.any, AV.any] H
def B99_0 (K : AV → Heap → Prop) (N1 : AV → AV → Heap → Prop) (v0 : AV) (v5 : AV) (v6 : AV) (H : Heap) : Prop :=
 binV tab .gtr 3 v6 (AV.p (.int .i64 0)) fun v15 =>
 condV v15 (binV tab .sub 3 v5 (AV.p (.int .i64 1)) fun v20 =>
 CallT Try.prog 99 [v0, v20] H fun v21 H2 =>
 binV tab .sub 3 v6 (AV.p (.int .i64 1)) fun v17 =>
 N1 v21 v17 H2)
 (K v5 H)
def W99 (v0 : AV) (v1 : AV) (H : Heap) (K : AV → Heap → Prop) : Prop :=
 indexAddrV tab 27 v0 v1 fun v10 =>
 fieldAddrV tab 77 v10 0 fun v11 =>
 loadV tab 3 v11 H fun v12 =>
 CallT Try.prog 83 [v12] H fun v13 H1 =>
 L99_0 K v0 v1 v13 H1
theorem W99_wp (v0 : AV) (v1 : AV) (H : Heap) (K : AV → Heap → Prop) : wpC Try.prog tab D99 (bodyOf Try.f99) (retF tab [.tmp 4] K) (nthA [v0, v1]) H = W99 v0 v1 H K := by kernel_rfl
theorem W99_ok {v0 v1 : AV} {H : Heap} {K : AV → Heap → Prop} (h : W99 v0 v1 H K) : CallT Try.prog 99 [v0, v1] H K :=
  CallT.of_wp (D := D99) tab_ok mixed Try.func99 (c := bodyOf Try.f99) (by kernel_rfl) rfl (by kernel_rfl) (rs := #[.tmp 4]) rfl (by decide +kernel) (by kernel_rfl) (W99_wp v0 v1 H K) h
theorem W99_hb : HasBody Try.prog 99 := ⟨_, bodyOf Try.f99, Try.func99, by kernel_rfl, rfl⟩
theorem L99_0_rule {K : AV → Heap → Prop} {v0 v5 v6 : AV} {H : Heap} {σ : Type} (s0 : σ) (f5 : σ → AV) (f6 : σ → AV) (TH : σ → Heap) (pre : σ → Prop) (μ : σ → Nat)
    (h0 : pre s0 ∧ AV.wk v5 (f5 s0) ∧ AV.wk v6 (f6 s0) ∧ Heap.le (TH s0) H)
    (round : ∀ s, pre s → B99_0 K (fun w5 w6 H' => ∃ s', pre s' ∧ μ s' < μ s ∧ AV.wk w5 (f5 s') ∧ AV.wk w6 (f6 s') ∧ Heap.le (TH s') H') v0 (f5 s) (f6 s) (TH s)) :
    L99_0 K v0 v5 v6 H := by
  unfold L99_0
  exact LoopV.mk s0 (fun s => [f5 s, f6 s]) TH pre μ (fun _ => rfl) (Eq.mp (by kernel_rfl) h0) (fun s hs => Eq.mp (by kernel_rfl) (round s hs))
theorem L99_0_ruleG {K : AV → Heap → Prop} {v0 v5 v6 : AV} {H : Heap} {σ : Type} (s0 : σ) (f5 : σ → AV) (f6 : σ → AV) (TH : σ → Heap) (pre : σ → Prop) (μ : σ → Nat)
    (h0 : pre s0 ∧ AV.wk v5 (f5 s0) ∧ AV.wk v6 (f6 s0) ∧ Heap.le (TH s0) H)
    (round : ∀ s, pre s → ∀ q, TH s q = none → B99_0 K (fun w5 w6 H' => ∃ s', pre s' ∧ μ s' < μ s ∧ AV.wk w5 (f5 s') ∧ AV.wk w6 (f6 s') ∧ Heap.le (TH s') H') v0 (f5 s) (f6 s) ((TH s).set q [])) :
    L99_0 K v0 v5 v6 H := by
  unfold L99_0
  exact LoopV.mkG s0 (fun s => [f5 s, f6 s]) TH pre μ (fun _ => rfl) (Eq.mp (by kernel_rfl) h0) (fun s hs q hq => Eq.mp (by kernel_rfl) (round s hs q hq))
/-- loop.example/g00649/impl.isOneLetter -/
def D100 : Info := ⟨9, fun i => ([], []), fun i => ([], [])⟩
def W100 (v0 : AV) (H : Heap) (K : AV → Heap → Prop) : Prop :=
 binV tab .geq 3 v0 (AV.p (.int .i64 0)) fun v4 =>
 grdV v4 true (binV tab .lss 3 v0 (AV.p (.int .i64 8)) fun v7 =>
 K v7 H)
 (K (AV.p (.bool false)) H)
theorem W100_wp (v0 : AV) (H : Heap) (K : AV → Heap → Prop) : wpC Try.prog tab D100 (bodyOf Try.f100) (retF tab [.tmp 2] K) (nthA [v0]) H = W100 v0 H K := by kernel_rfl
theorem W100_ok {v0 : AV} {H : Heap} {K : AV → Heap → Prop} (h : W100 v0 H K) : CallT Try.prog 100 [v0] H K :=
  CallT.of_wp (D := D100) tab_ok mixed Try.func100 (c := bodyOf Try.f100) (by kernel_rfl) rfl (by kernel_rfl) (rs := #[.tmp 2]) rfl (by decide +kernel) (by kernel_rfl) (W100_wp v0 H K) h
theorem W100_hb : HasBody Try.prog 100 := ⟨_, bodyOf Try.f100, Try.func100, by kernel_rfl, rfl⟩
/-- loop.example/g00649/impl.guesses -/
def D101 : Info := ⟨7, fun i => ([], []), fun i => ([], [])⟩
def W101 (v0 : AV) (H : Heap) (K : AV → Heap → Prop) : Prop :=
 CallT Try.prog 51 [v0] H fun v4 H1 =>
 lenV tab 24 v4 fun v5 =>
 binV tab .shl 3 (AV.p (.int .i64 1)) v5 fun v6 =>
 K v6 H1
theorem W101_wp (v0 : AV) (H : Heap) (K : AV → Heap → Prop) : wpC Try.prog tab D101 (bodyOf Try.f101) (retF tab [.tmp 2] K) (nthA [v0]) H = W101 v0 H K := by kernel_rfl
theorem W101_ok {v0 : AV} {H : Heap} {K : AV → Heap → Prop} (h : W101 v0 H K) : CallT Try.prog 101 [v0] H K :=
  CallT.of_wp (D := D101) tab_ok mixed Try.func101 (c := bodyOf Try.f101) (by kernel_rfl) rfl (by kernel_rfl) (rs := #[.tmp 2]) rfl (by decide +kernel) (by kernel_rfl) (W101_wp v0 H K) h
theorem W101_hb : HasBody Try.prog 101 := ⟨_, bodyOf Try.f101, Try.func101, by kernel_rfl, rfl⟩
/-- loop.example/g00649/impl.assumes -/
def D102 : Info := ⟨14, fun i => ([], []), fun i => ([], [])⟩
def W102 (v0 : AV) (v1 : AV) (v2 : AV) (H : Heap) (K : AV → Heap → Prop) : Prop :=
 CallT Try.prog 123 [v0, v2] H fun v10 H1 =>
 binV tab .shr 3 v1 v10 fun v11 =>
 binV tab .and 3 v11 (AV.p (.int .i64 1)) fun v12 =>
 binV tab .eql 3 v12 (AV.p (.int .i64 1)) fun v13 =>
 K v13 H1
theorem W102_wp (v0 : AV) (v1 : AV) (v2 : AV) (H : Heap) (K : AV → Heap → Prop) : wpC Try.prog tab D102 (bodyOf Try.f102) (retF tab [.tmp 6] K) (nthA [v0, v1, v2]) H = W102 v0 v1 v2 H K := by kernel_rfl
theorem W102_ok {v0 v1 v2 : AV} {H : Heap} {K : AV → Heap → Prop} (h : W102 v0 v1 v2 H K) : CallT Try.prog 102 [v0, v1, v2] H K :=
  CallT.of_wp (D := D102) tab_ok mixed Try.func102 (c := bodyOf Try.f102) (by kernel_rfl) rfl (by kernel_rfl) (rs := #[.tmp 6]) rfl (by decide +kernel) (by kernel_rfl) (W102_wp v0 v1 v2 H K) h
theorem W102_hb : HasBody Try.prog 102 := ⟨_, bodyOf Try.f102, Try.func102, by kernel_rfl, rfl⟩
/-- loop.example/g00649/impl.isSaid -/
def D117 : Info := ⟨34, fun i => ([], []), fun i => ([], [])⟩
def W117 (v0 : AV) (H : Heap) (K : AV → Heap → Prop) : Prop :=
 boxV v0 H fun v1 H1 =>
 fieldAddrV tab 77 v1 0 fun v3 =>
 loadV tab 3 v3 H1 fun v4 =>
 binV tab .eql 3 v4 (AV.p (.int .i64 1)) fun v6 =>
 condV v6 (fieldAddrV tab 77 v1 1 fun v7 =>
 loadV tab 3 v7 H1 fun v8 =>
 binV tab .geq 3 v8 (AV.p (.int .i64 0)) fun v9 =>
 grdV v9 true (fieldAddrV tab 77 v1 1 fun v11 =>
 loadV tab 3 v11 H1 fun v12 =>
 binV tab .lss 3 v12 (AV.p (.int .i64 3)) fun v13 =>
 K v13 H1)
 (K (AV.p (.bool false)) H1))
 (binV tab .eql 3 v4 (AV.p (.int .i64 2)) fun v16 =>
 condV v16 (fieldAddrV tab 77 v1 1 fun v17 =>
 loadV tab 3 v17 H1 fun v18 =>
 binV tab .eql 3 v18 (AV.p (.int .i64 0)) fun v19 =>
 grdV v19 false (fieldAddrV tab 77 v1 1 fun v21 =>
 loadV tab 3 v21 H1 fun v22 =>
 binV tab .eql 3 v22 (AV.p (.int .i64 1)) fun v23 =>
 K v23 H1)
 (K (AV.p (.bool true)) H1))
 (fieldAddrV tab 77 v1 0 fun v25 =>
 loadV tab 3 v25 H1 fun v26 =>
 CallT Try.prog 79 [v26] H1 fun v27 H2 =>
 binV tab .gtr 3 v27 (AV.p (.int .i64 0)) fun v28 =>
 grdV v28 true (fieldAddrV tab 77 v1 1 fun v30 =>
 loadV tab 3 v30 H2 fun v31 =>
 binV tab .eql 3 v31 (AV.p (.int .i64 0)) fun v32 =>
 K v32 H2)
 (K (AV.p (.bool false)) H2)))
theorem W117_wp (v0 : AV) (H : Heap) (K : AV → Heap → Prop) : wpC Try.prog tab D117 (bodyOf Try.f117) (retF tab [.tmp 2] K) (nthA [v0]) H = W117 v0 H K := by kernel_rfl
theorem W117_ok {v0 : AV} {H : Heap} {K : AV → Heap → Prop} (h : W117 v0 H K) : CallT Try.prog 117 [v0] H K :=
  CallT.of_wp (D := D117) tab_ok mixed Try.func117 (c := bodyOf Try.f117) (by kernel_rfl) rfl (by kernel_rfl) (rs := #[.tmp 2]) rfl (by decide +kernel) (by kernel_rfl) (W117_wp v0 H K) h
theorem W117_hb : HasBody Try.prog 117 := ⟨_, bodyOf Try.f117, Try.func117, by kernel_rfl, rfl⟩
end Go.Proofs.Ytoeabliackaibaa
