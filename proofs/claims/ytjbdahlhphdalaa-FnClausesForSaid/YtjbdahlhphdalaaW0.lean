/- What each function's code is asked for, as a formula. Written by wgen.py (a program of this session's) out of Lean's print of the program. -/
import Derived.KernelRfl
import Derived.Test.YtjbdahlhphdalaaTab
import Derived.Test.YtjbdahlhphdalaaSep27
namespace Go.Proofs.Ytjbdahlhphdalaa
open Go Go.Sep
set_option linter.unusedVariables false
attribute [local irreducible] wpC headF
/-- loop.example/g00649/laws.FnClausesFor -/
def D4 : Info := ⟨152, fun i => ([], []), fun i => if i = 12 then ([1, 5, 6, 7], [11, 12]) else if i = 21 then ([5, 7, 13, 114], [115]) else ([], [])⟩
def L4_0 (K : AV → Heap → Prop) (v1 : AV) (v5 : AV) (v6 : AV) (v7 : AV) (v11 : AV) (v12 : AV) (H : Heap) : Prop := LoopV (wpC Try.prog tab D4 (cAt [1, 1, 1, 1, 1, 1, 1, 1, 0, 1, 0, 0] (bodyOf Try.f4))) [1, 5, 6, 7] (PostF.block 0 (PostF.thenA (wpC Try.prog tab D4 (cAt [1, 1, 1, 1, 1, 1, 1, 1, 1] (bodyOf Try.f4))) (retF tab [.tmp 4] K))) [11, 12] [AV.any, v1, AV.any, AV.any, AV.any, v5, v6, v7, AV.any, AV.any, AV.any, v11, v12, AV.any, AV.any, AV.any, AV.any, AV.any, AV.any, AV.any, AV.any, AV.any, AV.any, AV.any, AV.any, AV.any, AV.any, AV.any, AV.any, AV.any, AV.any, AV.any, AV.any, AV.any, AV.any, AV.any, AV.any, AV.any, AV.any, AV.any, AV.any, AV.any, AV.any, AV.any, AV.any, AV.any, AV.any, AV.any, AV.any, AV.any, AV.any, AV.any, AV.any, AV.any, AV.any, AV.any, AV.any, AV.any, AV.any, AV.any, AV.any, AV.any, AV.any, AV.any, AV.any, AV.any, AV.any, AV.any, AV.any, AV.any, AV.any, AV.any, AV.any, AV.any, AV.any, AV.any, AV.any, AV.any, AV.any, AV.any, AV.any, AV.any, AV.any, AV.any, AV.any, AV.any, AV.any, AV.any, AV.any, AV.any, AV.any, AV.any, AV.any, AV.any, AV.any, AV.any, AV.any, AV.any, AV.any, AV.any, AV.any, AV.any, AV.any, AV.any, AV.any, AV.any, AV.any, AV.any, AV.any, AV.any, AV.any, AV.any, AV.any, AV.any, AV.any, AV.any, AV.any, AV.any, AV.any, AV.any, AV.any, AV.any, AV.any, AV.any, AV.any, AV.any, AV.any, AV.any, AV.any, AV.any, AV.any, AV.any, AV.any, AV.any, AV.any, AV.any, AV.any, AV.any, AV.any, AV.any, AV.any, AV.any, AV.any, AV.any, AV.any, AV.any, AV.any, AV.any, AV.any, AV.any, AV.any, AV.any] H
def L4_1 (K : AV → Heap → Prop) (v5 : AV) (v7 : AV) (v13 : AV) (v114 : AV) (v115 : AV) (H : Heap) : Prop := LoopV (wpC Try.prog tab D4 (cAt [1, 1, 1, 1, 1, 1, 1, 1, 1, 1, 1, 1, 1, 0, 1, 0, 0] (bodyOf Try.f4))) [5, 7, 13, 114] (PostF.block 2 (PostF.thenA (wpC Try.prog tab D4 (cAt [1, 1, 1, 1, 1, 1, 1, 1, 1, 1, 1, 1, 1, 1] (bodyOf Try.f4))) (retF tab [.tmp 4] K))) [115] [AV.any, AV.any, AV.any, AV.any, AV.any, v5, AV.any, v7, AV.any, AV.any, AV.any, AV.any, AV.any, v13, AV.any, AV.any, AV.any, AV.any, AV.any, AV.any, AV.any, AV.any, AV.any, AV.any, AV.any, AV.any, AV.any, AV.any, AV.any, AV.any, AV.any, AV.any, AV.any, AV.any, AV.any, AV.any, AV.any, AV.any, AV.any, AV.any, AV.any, AV.any, AV.any, AV.any, AV.any, AV.any, AV.any, AV.any, AV.any, AV.any, AV.any, AV.any, AV.any, AV.any, AV.any, AV.any, AV.any, AV.any, AV.any, AV.any, AV.any, AV.any, AV.any, AV.any, AV.any, AV.any, AV.any, AV.any, AV.any, AV.any, AV.any, AV.any, AV.any, AV.any, AV.any, AV.any, AV.any, AV.any, AV.any, AV.any, AV.any, AV.any, AV.any, AV.any, AV.any, AV.any, AV.any, AV.any, AV.any, AV.any, AV.any, AV.any, AV.any, AV.any, AV.any, AV.any, AV.any, AV.any, AV.any, AV.any, AV.any, AV.any, AV.any, AV.any, AV.any, AV.any, AV.any, AV.any, AV.any, AV.any, AV.any, AV.any, AV.any, AV.any, v114, v115, AV.any, AV.any, AV.any, AV.any, AV.any, AV.any, AV.any, AV.any, AV.any, AV.any, AV.any, AV.any, AV.any, AV.any, AV.any, AV.any, AV.any, AV.any, AV.any, AV.any, AV.any, AV.any, AV.any, AV.any, AV.any, AV.any, AV.any, AV.any, AV.any, AV.any, AV.any, AV.any, AV.any, AV.any, AV.any, AV.any] H
def B4_1 (K : AV → Heap → Prop) (N1 : AV → Heap → Prop) (v5 : AV) (v7 : AV) (v13 : AV) (v114 : AV) (v115 : AV) (H : Heap) : Prop :=
 binV tab .lss 3 v115 v114 fun v116 =>
 condV v116 (indexAddrV tab 38 v13 v115 fun v122 =>
 loadV tab 4 v122 H fun v123 =>
 unV .not v123 fun v124 =>
 indexAddrV tab 38 v13 v115 fun v125 =>
 storeV tab 4 v125 v124 H fun H19 =>
 loadV tab 43 v7 H19 fun v127 =>
 CallT Try.prog 25 [v127, v13] H19 fun v129 H20 =>
 extractV v129 0 fun v130 =>
 extractV v129 1 fun v131 =>
 indexAddrV tab 38 v13 v115 fun v136 =>
 loadV tab 4 v136 H20 fun v137 =>
 unV .not v137 fun v138 =>
 indexAddrV tab 38 v13 v115 fun v139 =>
 storeV tab 4 v139 v138 H20 fun H21 =>
 unV .not v131 fun v141 =>
 grdV v141 false (grdV v130 true (fieldAddrV tab 37 v5 0 fun v146 =>
 loadV tab 3 v146 H21 fun v147 =>
 binV tab .geq 3 v115 v147 fun v148 =>
 condV v148 (K (AV.p (.bool false)) H21)
 (binV tab .add 3 v115 (AV.p (.int .i64 1)) fun v151 =>
 N1 v151 H21))
 (binV tab .add 3 v115 (AV.p (.int .i64 1)) fun v151 =>
 N1 v151 H21))
 (K (AV.p (.bool false)) H21))
 (K (AV.p (.bool true)) H)
def B4_0 (K : AV → Heap → Prop) (N1 : AV → AV → Heap → Prop) (v1 : AV) (v5 : AV) (v6 : AV) (v7 : AV) (v11 : AV) (v12 : AV) (H : Heap) : Prop :=
 fieldAddrV tab 37 v5 0 fun v63 =>
 loadV tab 3 v63 H fun v64 =>
 binV tab .lss 3 v12 v64 fun v65 =>
 condV v65 (CallT Try.prog 22 [v1] H fun v70 H12 =>
 convV tab 3 48 v12 fun v72 =>
 binV tab .shr 3 v70 v72 fun v73 =>
 binV tab .and 3 v73 (AV.p (.int .i64 1)) fun v74 =>
 binV tab .eql 3 v74 (AV.p (.int .i64 1)) fun v75 =>
 buildSliceV tab 38 1 [(0, v75)] H12 (wkK fun v76 H13 =>
 appendV tab 38 38 v11 v76 H13 (wkK fun v77 H14 =>
 binV tab .add 3 v12 (AV.p (.int .i64 1)) fun v67 =>
 N1 v77 v67 H14)))
 (loadV tab 37 v5 H fun v79 =>
 CallT Try.prog 23 [v79, v11] H fun v81 H15 =>
 extractV v81 0 fun v82 =>
 extractV v81 1 fun v83 =>
 loadV tab 37 v5 H15 fun v85 =>
 CallT Try.prog 24 [v85, v11] H15 fun v87 H16 =>
 extractV v87 0 fun v88 =>
 extractV v87 1 fun v89 =>
 loadV tab 43 v7 H16 fun v91 =>
 CallT Try.prog 25 [v91, v82] H16 fun v93 H17 =>
 extractV v93 0 fun v94 =>
 extractV v93 1 fun v95 =>
 unV .not v83 fun v97 =>
 grdV v97 false (unV .not v89 fun v100 =>
 grdV v100 false (unV .not v95 fun v104 =>
 grdV v104 false (CallT Try.prog 26 [v88, v6] H17 fun v110 H18 =>
 binV tab .neq 4 v94 v110 fun v111 =>
 condV v111 (K (AV.p (.bool false)) H18)
 (lenV tab 38 v82 fun v114 =>
 L4_1 K v5 v7 v82 v114 (AV.p (.int .i64 0)) H18))
 (K (AV.p (.bool false)) H17))
 (K (AV.p (.bool false)) H17))
 (K (AV.p (.bool false)) H17))
def W4 (v0 : AV) (v1 : AV) (H : Heap) (K : AV → Heap → Prop) : Prop :=
 CallT Try.prog 9 [v0, v1] H fun v24 H1 =>
 condV v24 (K (AV.p (.bool true)) H1)
 (CallT Try.prog 18 [v0] H1 fun v27 H2 =>
 extractV v27 0 fun v28 =>
 extractV v27 1 fun v29 =>
 allocV tab 37 H2 fun v5 H3 =>
 storeV tab 37 v5 v28 H3 fun H4 =>
 loadV tab 37 v5 H4 fun v31 =>
 CallT Try.prog 19 [v31, v29] H4 fun v33 H5 =>
 extractV v33 0 fun v34 =>
 extractV v33 1 fun v35 =>
 allocV tab 43 H5 fun v7 H6 =>
 storeV tab 43 v7 v34 H6 fun H7 =>
 loadV tab 37 v5 H7 fun v37 =>
 CallT Try.prog 20 [v37, v29] H7 fun v39 H8 =>
 extractV v39 0 fun v40 =>
 extractV v39 1 fun v41 =>
 allocV tab 43 H8 fun v9 H9 =>
 storeV tab 43 v9 v40 H9 fun H10 =>
 binV tab .neq 4 v35 v41 fun v44 =>
 grdV v44 false (fieldAddrV tab 43 v7 0 fun v46 =>
 loadV tab 3 v46 H10 fun v47 =>
 fieldAddrV tab 43 v9 0 fun v48 =>
 loadV tab 3 v48 H10 fun v49 =>
 binV tab .neq 3 v47 v49 fun v50 =>
 grdV v50 false (fieldAddrV tab 43 v7 1 fun v53 =>
 loadV tab 41 v53 H10 fun v54 =>
 fieldAddrV tab 43 v9 1 fun v55 =>
 loadV tab 41 v55 H10 fun v56 =>
 CallT Try.prog 21 [v54, v56] H10 fun v57 H11 =>
 unV .not v57 fun v58 =>
 condV v58 (K (AV.p (.bool false)) H11)
 (unV .not v35 fun v61 =>
 condV v61 (K (AV.p (.bool true)) H11)
 (L4_0 K v1 v5 v29 v7 (AV.p .nil) (AV.p (.int .i64 0)) H11)))
 (K (AV.p (.bool false)) H10))
 (K (AV.p (.bool false)) H10))
theorem W4_wp (v0 : AV) (v1 : AV) (H : Heap) (K : AV → Heap → Prop) : wpC Try.prog tab D4 (bodyOf Try.f4) (retF tab [.tmp 4] K) (nthA [v0, v1]) H = W4 v0 v1 H K := by kernel_rfl
theorem W4_ok {v0 v1 : AV} {H : Heap} {K : AV → Heap → Prop} (h : W4 v0 v1 H K) : CallT Try.prog 4 [v0, v1] H K :=
  CallT.of_wp (D := D4) tab_ok mixed Try.func4 (c := bodyOf Try.f4) (by kernel_rfl) rfl (by kernel_rfl) (rs := #[.tmp 4]) rfl (by decide +kernel) (by kernel_rfl) (W4_wp v0 v1 H K) h
theorem W4_hb : HasBody Try.prog 4 := ⟨_, bodyOf Try.f4, Try.func4, by kernel_rfl, rfl⟩
theorem L4_1_rule {K : AV → Heap → Prop} {v5 v7 v13 v114 v115 : AV} {H : Heap} {σ : Type} (s0 : σ) (f115 : σ → AV) (TH : σ → Heap) (pre : σ → Prop) (μ : σ → Nat)
    (h0 : pre s0 ∧ AV.wk v115 (f115 s0) ∧ Heap.le (TH s0) H)
    (round : ∀ s, pre s → B4_1 K (fun w115 H' => ∃ s', pre s' ∧ μ s' < μ s ∧ AV.wk w115 (f115 s') ∧ Heap.le (TH s') H') v5 v7 v13 v114 (f115 s) (TH s)) :
    L4_1 K v5 v7 v13 v114 v115 H := by
  unfold L4_1
  exact LoopV.mk s0 (fun s => [f115 s]) TH pre μ (fun _ => rfl) (Eq.mp (by kernel_rfl) h0) (fun s hs => Eq.mp (by kernel_rfl) (round s hs))
theorem L4_1_ruleG {K : AV → Heap → Prop} {v5 v7 v13 v114 v115 : AV} {H : Heap} {σ : Type} (s0 : σ) (f115 : σ → AV) (TH : σ → Heap) (pre : σ → Prop) (μ : σ → Nat)
    (h0 : pre s0 ∧ AV.wk v115 (f115 s0) ∧ Heap.le (TH s0) H)
    (round : ∀ s, pre s → ∀ q, TH s q = none → B4_1 K (fun w115 H' => ∃ s', pre s' ∧ μ s' < μ s ∧ AV.wk w115 (f115 s') ∧ Heap.le (TH s') H') v5 v7 v13 v114 (f115 s) ((TH s).set q [])) :
    L4_1 K v5 v7 v13 v114 v115 H := by
  unfold L4_1
  exact LoopV.mkG s0 (fun s => [f115 s]) TH pre μ (fun _ => rfl) (Eq.mp (by kernel_rfl) h0) (fun s hs q hq => Eq.mp (by kernel_rfl) (round s hs q hq))
theorem L4_0_rule {K : AV → Heap → Prop} {v1 v5 v6 v7 v11 v12 : AV} {H : Heap} {σ : Type} (s0 : σ) (f11 : σ → AV) (f12 : σ → AV) (TH : σ → Heap) (pre : σ → Prop) (μ : σ → Nat)
    (h0 : pre s0 ∧ AV.wk v11 (f11 s0) ∧ AV.wk v12 (f12 s0) ∧ Heap.le (TH s0) H)
    (round : ∀ s, pre s → B4_0 K (fun w11 w12 H' => ∃ s', pre s' ∧ μ s' < μ s ∧ AV.wk w11 (f11 s') ∧ AV.wk w12 (f12 s') ∧ Heap.le (TH s') H') v1 v5 v6 v7 (f11 s) (f12 s) (TH s)) :
    L4_0 K v1 v5 v6 v7 v11 v12 H := by
  unfold L4_0
  exact LoopV.mk s0 (fun s => [f11 s, f12 s]) TH pre μ (fun _ => rfl) (Eq.mp (by kernel_rfl) h0) (fun s hs => Eq.mp (by kernel_rfl) (round s hs))
theorem L4_0_ruleG {K : AV → Heap → Prop} {v1 v5 v6 v7 v11 v12 : AV} {H : Heap} {σ : Type} (s0 : σ) (f11 : σ → AV) (f12 : σ → AV) (TH : σ → Heap) (pre : σ → Prop) (μ : σ → Nat)
    (h0 : pre s0 ∧ AV.wk v11 (f11 s0) ∧ AV.wk v12 (f12 s0) ∧ Heap.le (TH s0) H)
    (round : ∀ s, pre s → ∀ q, TH s q = none → B4_0 K (fun w11 w12 H' => ∃ s', pre s' ∧ μ s' < μ s ∧ AV.wk w11 (f11 s') ∧ AV.wk w12 (f12 s') ∧ Heap.le (TH s') H') v1 v5 v6 v7 (f11 s) (f12 s) ((TH s).set q [])) :
    L4_0 K v1 v5 v6 v7 v11 v12 H := by
  unfold L4_0
  exact LoopV.mkG s0 (fun s => [f11 s, f12 s]) TH pre μ (fun _ => rfl) (Eq.mp (by kernel_rfl) h0) (fun s hs q hq => Eq.mp (by kernel_rfl) (round s hs q hq))
/-- loop.example/g00649/laws.big -/
def D9 : Info := ⟨16, fun i => ([], []), fun i => ([], [])⟩
def W9 (v0 : AV) (v1 : AV) (H : Heap) (K : AV → Heap → Prop) : Prop :=
 lenV tab 22 v0 fun v6 =>
 binV tab .gtr 3 v6 (AV.p (.int .i64 1048576)) fun v7 =>
 grdV v7 false (lenV tab 22 v1 fun v10 =>
 lenV tab 22 v0 fun v12 =>
 binV tab .sub 3 (AV.p (.int .i64 1048576)) v12 fun v13 =>
 binV tab .gtr 3 v10 v13 fun v14 =>
 K v14 H)
 (K (AV.p (.bool true)) H)
theorem W9_wp (v0 : AV) (v1 : AV) (H : Heap) (K : AV → Heap → Prop) : wpC Try.prog tab D9 (bodyOf Try.f9) (retF tab [.tmp 4] K) (nthA [v0, v1]) H = W9 v0 v1 H K := by kernel_rfl
theorem W9_ok {v0 v1 : AV} {H : Heap} {K : AV → Heap → Prop} (h : W9 v0 v1 H K) : CallT Try.prog 9 [v0, v1] H K :=
  CallT.of_wp (D := D9) tab_ok mixed Try.func9 (c := bodyOf Try.f9) (by kernel_rfl) rfl (by kernel_rfl) (rs := #[.tmp 4]) rfl (by decide +kernel) (by kernel_rfl) (W9_wp v0 v1 H K) h
theorem W9_hb : HasBody Try.prog 9 := ⟨_, bodyOf Try.f9, Try.func9, by kernel_rfl, rfl⟩
/-- loop.example/g00649/spec.DrawCnfFor -/
def D18 : Info := ⟨21, fun i => if i = 3 then ([[], [], [], [2], [2, 3], [], [5], [5, 6], [2, 3, 4, 5, 6, 7], [1, 2, 3, 4, 5, 6, 7, 8], [0, 1, 2, 3, 4, 5, 6, 7, 8, 9], [0, 1, 2, 3, 4, 5, 6, 7, 8, 9, 10]], [(0, []), (1, []), (2, []), (3, []), (4, []), (5, []), (6, [0, 3]), (7, []), (8, []), (9, [0]), (10, []), (11, [])]) else ([], []), fun i => ([], [])⟩
def W18 (v0 : AV) (H : Heap) (K : AV → Heap → Prop) : Prop :=
 allocV tab 37 H fun v2 H1 =>
 buildV tab 92 [(0, v0)] fun v7 =>
 boxV v7 H1 fun v8 H2 =>
 CallT Try.prog 77 [v8] H2 fun v10 H3 =>
 allocV tab 37 H3 fun v5 H4 =>
 storeV tab 37 v5 v10 H4 fun H5 =>
 loadV tab 37 v5 H5 fun v11 =>
 fieldAddrV tab 37 v5 2 fun v13 =>
 loadV tab 24 v13 H5 fun v14 =>
 lenV tab 24 v14 fun v15 =>
 CallT Try.prog 67 [v8, (AV.p (.int .i64 20))] H5 fun v17 H6 =>
 (loadV tab 37 v5 H6 fun v9011 =>
 v11 = v9011) ∧
 (loadV tab 24 v13 H6 fun v9014 =>
 v14 = v9014) ∧
 binV tab .quo 3 v17 (AV.p (.int .i64 19)) fun v18 =>
 binV tab .add 3 v15 v18 fun v19 =>
 CallT Try.prog 78 [v8, v19] H6 fun v20 H7 =>
 (loadV tab 37 v5 H7 fun v9011 =>
 v11 = v9011) ∧
 storeV tab 37 v2 v11 H7 fun H8 =>
 loadV tab 37 v2 H8 fun r0 =>
 K (.tup [r0, v20]) H8
theorem W18_wp (v0 : AV) (H : Heap) (K : AV → Heap → Prop) : wpC Try.prog tab D18 (bodyOf Try.f18) (retF tab [.cell 2 37, .tmp 3] K) (nthA [v0]) H = W18 v0 H K := by kernel_rfl
theorem W18_ok {v0 : AV} {H : Heap} {K : AV → Heap → Prop} (h : W18 v0 H K) : CallT Try.prog 18 [v0] H K :=
  CallT.of_wp (D := D18) tab_ok mixed Try.func18 (c := bodyOf Try.f18) (by kernel_rfl) rfl (by kernel_rfl) (rs := #[.cell 2 37, .tmp 3]) rfl (by decide +kernel) (by kernel_rfl) (W18_wp v0 H K) h
theorem W18_hb : HasBody Try.prog 18 := ⟨_, bodyOf Try.f18, Try.func18, by kernel_rfl, rfl⟩
/-- loop.example/g00649/impl.CnfFor -/
def D19 : Info := ⟨81, fun i => if i = 7 then ([[], [0], [], [], [3], [], [3, 4, 5], [3, 4, 5, 6], [2, 3, 4, 5, 6, 7], [0, 1, 2, 3, 4, 5, 6, 7, 8], [0, 1, 2, 3, 4, 5, 6, 7, 8, 9], [0, 1, 2, 3, 4, 5, 6, 7, 8, 9, 10]], [(0, []), (1, []), (2, []), (3, []), (4, []), (5, []), (6, []), (7, []), (8, [1]), (9, []), (10, []), (11, [])]) else ([], []), fun i => if i = 5 then ([1, 2, 4, 6, 27, 28], [29]) else if i = 10 then ([1, 4, 6, 47, 48], [49]) else ([], [])⟩
def L19_0 (K : AV → Heap → Prop) (v1 : AV) (v2 : AV) (v4 : AV) (v6 : AV) (v27 : AV) (v28 : AV) (v29 : AV) (H : Heap) : Prop := LoopV (wpC Try.prog tab D19 (cAt [1, 1, 1, 0, 1, 0, 0] (bodyOf Try.f19))) [1, 2, 4, 6, 27, 28] (PostF.block 0 (PostF.thenA (wpC Try.prog tab D19 (cAt [1, 1, 1, 1] (bodyOf Try.f19))) (retF tab [.cell 4 43, .tmp 5] K))) [29] [AV.any, v1, v2, AV.any, v4, AV.any, v6, AV.any, AV.any, AV.any, AV.any, AV.any, AV.any, AV.any, AV.any, AV.any, AV.any, AV.any, AV.any, AV.any, AV.any, AV.any, AV.any, AV.any, AV.any, AV.any, AV.any, v27, v28, v29, AV.any, AV.any, AV.any, AV.any, AV.any, AV.any, AV.any, AV.any, AV.any, AV.any, AV.any, AV.any, AV.any, AV.any, AV.any, AV.any, AV.any, AV.any, AV.any, AV.any, AV.any, AV.any, AV.any, AV.any, AV.any, AV.any, AV.any, AV.any, AV.any, AV.any, AV.any, AV.any, AV.any, AV.any, AV.any, AV.any, AV.any, AV.any, AV.any, AV.any, AV.any, AV.any, AV.any, AV.any, AV.any, AV.any, AV.any, AV.any, AV.any, AV.any, AV.any] H
def L19_1 (K : AV → Heap → Prop) (v1 : AV) (v4 : AV) (v6 : AV) (v47 : AV) (v48 : AV) (v49 : AV) (H : Heap) : Prop := LoopV (wpC Try.prog tab D19 (cAt [1, 1, 1, 1, 0, 1, 0, 0] (bodyOf Try.f19))) [1, 4, 6, 47, 48] (PostF.block 2 (PostF.thenA (wpC Try.prog tab D19 (cAt [1, 1, 1, 1, 1] (bodyOf Try.f19))) (retF tab [.cell 4 43, .tmp 5] K))) [49] [AV.any, v1, AV.any, AV.any, v4, AV.any, v6, AV.any, AV.any, AV.any, AV.any, AV.any, AV.any, AV.any, AV.any, AV.any, AV.any, AV.any, AV.any, AV.any, AV.any, AV.any, AV.any, AV.any, AV.any, AV.any, AV.any, AV.any, AV.any, AV.any, AV.any, AV.any, AV.any, AV.any, AV.any, AV.any, AV.any, AV.any, AV.any, AV.any, AV.any, AV.any, AV.any, AV.any, AV.any, AV.any, AV.any, v47, v48, v49, AV.any, AV.any, AV.any, AV.any, AV.any, AV.any, AV.any, AV.any, AV.any, AV.any, AV.any, AV.any, AV.any, AV.any, AV.any, AV.any, AV.any, AV.any, AV.any, AV.any, AV.any, AV.any, AV.any, AV.any, AV.any, AV.any, AV.any, AV.any, AV.any, AV.any, AV.any] H
def B19_1 (K : AV → Heap → Prop) (N1 : AV → Heap → Prop) (v1 : AV) (v4 : AV) (v6 : AV) (v47 : AV) (v48 : AV) (v49 : AV) (H : Heap) : Prop :=
 binV tab .lss 3 v49 v48 fun v50 =>
 condV v50 (indexAddrV tab 24 v47 v49 fun v52 =>
 loadV tab 3 v52 H fun v53 =>
 indexAddrV tab 38 v1 v49 fun v56 =>
 loadV tab 4 v56 H fun v57 =>
 condV v57 (fieldAddrV tab 43 v6 1 fun v58 =>
 loadV tab 41 v58 H fun v59 =>
 binV tab .add 3 v53 (AV.p (.int .i64 1)) fun v61 =>
 buildSliceV tab 24 1 [(0, v61)] H (wkK fun v62 H13 =>
 buildSliceV tab 41 1 [(0, v62)] H13 (wkK fun v63 H14 =>
 appendV tab 41 41 v59 v63 H14 (wkK fun v64 H15 =>
 fieldAddrV tab 43 v6 1 fun v65 =>
 storeV tab 41 v65 v64 H15 fun H16 =>
 binV tab .add 3 v49 (AV.p (.int .i64 1)) fun v75 =>
 N1 v75 H16))))
 (fieldAddrV tab 43 v6 1 fun v66 =>
 loadV tab 41 v66 H fun v67 =>
 unV .neg v53 fun v69 =>
 binV tab .sub 3 v69 (AV.p (.int .i64 1)) fun v70 =>
 buildSliceV tab 24 1 [(0, v70)] H (wkK fun v71 H17 =>
 buildSliceV tab 41 1 [(0, v71)] H17 (wkK fun v72 H18 =>
 appendV tab 41 41 v67 v72 H18 (wkK fun v73 H19 =>
 fieldAddrV tab 43 v6 1 fun v74 =>
 storeV tab 41 v74 v73 H19 fun H20 =>
 binV tab .add 3 v49 (AV.p (.int .i64 1)) fun v75 =>
 N1 v75 H20)))))
 (loadV tab 43 v6 H fun v76 =>
 CallT Try.prog 57 [v76] H fun v77 H21 =>
 unV .not v77 fun v78 =>
 condV v78 (buildV tab 43 [] fun v79 =>
 storeV tab 43 v4 v79 H21 fun H22 =>
 loadV tab 43 v4 H22 fun r0 =>
 K (.tup [r0, (AV.p (.bool false))]) H22)
 (loadV tab 43 v6 H21 fun v80 =>
 storeV tab 43 v4 v80 H21 fun H23 =>
 loadV tab 43 v4 H23 fun r0 =>
 K (.tup [r0, (AV.p (.bool true))]) H23))
def B19_0 (K : AV → Heap → Prop) (N1 : AV → Heap → Prop) (v1 : AV) (v2 : AV) (v4 : AV) (v6 : AV) (v27 : AV) (v28 : AV) (v29 : AV) (H : Heap) : Prop :=
 binV tab .lss 3 v29 v28 fun v30 =>
 condV v30 (indexAddrV tab 35 v27 v29 fun v32 =>
 loadV tab 106 v32 H fun v33 =>
 allocV tab 106 H fun v8 H8 =>
 storeV tab 106 v8 v33 H8 fun H9 =>
 fieldAddrV tab 43 v6 1 fun v34 =>
 loadV tab 41 v34 H9 fun v35 =>
 loadV tab 106 v8 H9 fun v36 =>
 fieldAddrV tab 37 v2 0 fun v37 =>
 loadV tab 3 v37 H9 fun v38 =>
 binV tab .add 3 v38 v29 fun v40 =>
 binV tab .add 3 v40 (AV.p (.int .i64 1)) fun v41 =>
 CallT Try.prog 81 [v36, v41] H9 fun v42 H10 =>
 (loadV tab 41 v34 H10 fun v9035 =>
 v35 = v9035) ∧
 appendV tab 41 41 v35 v42 H10 (wkK fun v43 H11 =>
 fieldAddrV tab 43 v6 1 fun v44 =>
 storeV tab 41 v44 v43 H11 fun H12 =>
 binV tab .add 3 v29 (AV.p (.int .i64 1)) fun v45 =>
 N1 v45 H12))
 (fieldAddrV tab 37 v2 2 fun v46 =>
 loadV tab 24 v46 H fun v47 =>
 lenV tab 24 v47 fun v48 =>
 L19_1 K v1 v4 v6 v47 v48 (AV.p (.int .i64 0)) H)
def W19 (v0 : AV) (v1 : AV) (H : Heap) (K : AV → Heap → Prop) : Prop :=
 boxV v0 H fun v2 H1 =>
 allocV tab 43 H1 fun v4 H2 =>
 loadV tab 37 v2 H2 fun v11 =>
 CallT Try.prog 79 [v11] H2 fun v12 H3 =>
 unV .not v12 fun v13 =>
 grdV v13 false (lenV tab 38 v1 fun v16 =>
 fieldAddrV tab 37 v2 2 fun v17 =>
 loadV tab 24 v17 H3 fun v18 =>
 lenV tab 24 v18 fun v19 =>
 binV tab .neq 3 v16 v19 fun v20 =>
 condV v20 (buildV tab 43 [] fun v22 =>
 storeV tab 43 v4 v22 H3 fun H4 =>
 loadV tab 43 v4 H4 fun r0 =>
 K (.tup [r0, (AV.p (.bool false))]) H4)
 (loadV tab 37 v2 H3 fun v23 =>
 CallT Try.prog 80 [v23] H3 fun v24 H5 =>
 buildV tab 43 [(0, v24)] fun v25 =>
 allocV tab 43 H5 fun v6 H6 =>
 storeV tab 43 v6 v25 H6 fun H7 =>
 fieldAddrV tab 37 v2 1 fun v26 =>
 loadV tab 35 v26 H7 fun v27 =>
 lenV tab 35 v27 fun v28 =>
 L19_0 K v1 v2 v4 v6 v27 v28 (AV.p (.int .i64 0)) H7))
 (buildV tab 43 [] fun v22 =>
 storeV tab 43 v4 v22 H3 fun H24 =>
 loadV tab 43 v4 H24 fun r0 =>
 K (.tup [r0, (AV.p (.bool false))]) H24)
theorem W19_wp (v0 : AV) (v1 : AV) (H : Heap) (K : AV → Heap → Prop) : wpC Try.prog tab D19 (bodyOf Try.f19) (retF tab [.cell 4 43, .tmp 5] K) (nthA [v0, v1]) H = W19 v0 v1 H K := by kernel_rfl
theorem W19_ok {v0 v1 : AV} {H : Heap} {K : AV → Heap → Prop} (h : W19 v0 v1 H K) : CallT Try.prog 19 [v0, v1] H K :=
  CallT.of_wp (D := D19) tab_ok mixed Try.func19 (c := bodyOf Try.f19) (by kernel_rfl) rfl (by kernel_rfl) (rs := #[.cell 4 43, .tmp 5]) rfl (by decide +kernel) (by kernel_rfl) (W19_wp v0 v1 H K) h
theorem W19_hb : HasBody Try.prog 19 := ⟨_, bodyOf Try.f19, Try.func19, by kernel_rfl, rfl⟩
theorem L19_1_rule {K : AV → Heap → Prop} {v1 v4 v6 v47 v48 v49 : AV} {H : Heap} {σ : Type} (s0 : σ) (f49 : σ → AV) (TH : σ → Heap) (pre : σ → Prop) (μ : σ → Nat)
    (h0 : pre s0 ∧ AV.wk v49 (f49 s0) ∧ Heap.le (TH s0) H)
    (round : ∀ s, pre s → B19_1 K (fun w49 H' => ∃ s', pre s' ∧ μ s' < μ s ∧ AV.wk w49 (f49 s') ∧ Heap.le (TH s') H') v1 v4 v6 v47 v48 (f49 s) (TH s)) :
    L19_1 K v1 v4 v6 v47 v48 v49 H := by
  unfold L19_1
  exact LoopV.mk s0 (fun s => [f49 s]) TH pre μ (fun _ => rfl) (Eq.mp (by kernel_rfl) h0) (fun s hs => Eq.mp (by kernel_rfl) (round s hs))
theorem L19_1_ruleG {K : AV → Heap → Prop} {v1 v4 v6 v47 v48 v49 : AV} {H : Heap} {σ : Type} (s0 : σ) (f49 : σ → AV) (TH : σ → Heap) (pre : σ → Prop) (μ : σ → Nat)
    (h0 : pre s0 ∧ AV.wk v49 (f49 s0) ∧ Heap.le (TH s0) H)
    (round : ∀ s, pre s → ∀ q, TH s q = none → B19_1 K (fun w49 H' => ∃ s', pre s' ∧ μ s' < μ s ∧ AV.wk w49 (f49 s') ∧ Heap.le (TH s') H') v1 v4 v6 v47 v48 (f49 s) ((TH s).set q [])) :
    L19_1 K v1 v4 v6 v47 v48 v49 H := by
  unfold L19_1
  exact LoopV.mkG s0 (fun s => [f49 s]) TH pre μ (fun _ => rfl) (Eq.mp (by kernel_rfl) h0) (fun s hs q hq => Eq.mp (by kernel_rfl) (round s hs q hq))
theorem L19_0_rule {K : AV → Heap → Prop} {v1 v2 v4 v6 v27 v28 v29 : AV} {H : Heap} {σ : Type} (s0 : σ) (f29 : σ → AV) (TH : σ → Heap) (pre : σ → Prop) (μ : σ → Nat)
    (h0 : pre s0 ∧ AV.wk v29 (f29 s0) ∧ Heap.le (TH s0) H)
    (round : ∀ s, pre s → B19_0 K (fun w29 H' => ∃ s', pre s' ∧ μ s' < μ s ∧ AV.wk w29 (f29 s') ∧ Heap.le (TH s') H') v1 v2 v4 v6 v27 v28 (f29 s) (TH s)) :
    L19_0 K v1 v2 v4 v6 v27 v28 v29 H := by
  unfold L19_0
  exact LoopV.mk s0 (fun s => [f29 s]) TH pre μ (fun _ => rfl) (Eq.mp (by kernel_rfl) h0) (fun s hs => Eq.mp (by kernel_rfl) (round s hs))
theorem L19_0_ruleG {K : AV → Heap → Prop} {v1 v2 v4 v6 v27 v28 v29 : AV} {H : Heap} {σ : Type} (s0 : σ) (f29 : σ → AV) (TH : σ → Heap) (pre : σ → Prop) (μ : σ → Nat)
    (h0 : pre s0 ∧ AV.wk v29 (f29 s0) ∧ Heap.le (TH s0) H)
    (round : ∀ s, pre s → ∀ q, TH s q = none → B19_0 K (fun w29 H' => ∃ s', pre s' ∧ μ s' < μ s ∧ AV.wk w29 (f29 s') ∧ Heap.le (TH s') H') v1 v2 v4 v6 v27 v28 (f29 s) ((TH s).set q [])) :
    L19_0 K v1 v2 v4 v6 v27 v28 v29 H := by
  unfold L19_0
  exact LoopV.mkG s0 (fun s => [f29 s]) TH pre μ (fun _ => rfl) (Eq.mp (by kernel_rfl) h0) (fun s hs q hq => Eq.mp (by kernel_rfl) (round s hs q hq))
/-- loop.example/g00649/spec.CnfFor -/
def D20 : Info := ⟨27, fun i => ([], []), fun i => ([], [])⟩
def W20 (v0 : AV) (v1 : AV) (H : Heap) (K : AV → Heap → Prop) : Prop :=
 boxV v0 H fun v2 H1 =>
 allocV tab 43 H1 fun v4 H2 =>
 loadV tab 37 v2 H2 fun v7 =>
 CallT Try.prog 82 [v7] H2 fun v8 H3 =>
 unV .not v8 fun v9 =>
 grdV v9 false (lenV tab 38 v1 fun v12 =>
 fieldAddrV tab 37 v2 2 fun v13 =>
 loadV tab 24 v13 H3 fun v14 =>
 lenV tab 24 v14 fun v15 =>
 binV tab .neq 3 v12 v15 fun v16 =>
 condV v16 (buildV tab 43 [] fun v18 =>
 storeV tab 43 v4 v18 H3 fun H4 =>
 loadV tab 43 v4 H4 fun r0 =>
 K (.tup [r0, (AV.p (.bool false))]) H4)
 (loadV tab 37 v2 H3 fun v19 =>
 CallT Try.prog 83 [v19, v1] H3 fun v21 H5 =>
 allocV tab 43 H5 fun v6 H6 =>
 storeV tab 43 v6 v21 H6 fun H7 =>
 loadV tab 43 v6 H7 fun v22 =>
 CallT Try.prog 58 [v22] H7 fun v23 H8 =>
 unV .not v23 fun v24 =>
 condV v24 (buildV tab 43 [] fun v25 =>
 storeV tab 43 v4 v25 H8 fun H9 =>
 loadV tab 43 v4 H9 fun r0 =>
 K (.tup [r0, (AV.p (.bool false))]) H9)
 (loadV tab 43 v6 H8 fun v26 =>
 storeV tab 43 v4 v26 H8 fun H10 =>
 loadV tab 43 v4 H10 fun r0 =>
 K (.tup [r0, (AV.p (.bool true))]) H10)))
 (buildV tab 43 [] fun v18 =>
 storeV tab 43 v4 v18 H3 fun H11 =>
 loadV tab 43 v4 H11 fun r0 =>
 K (.tup [r0, (AV.p (.bool false))]) H11)
theorem W20_wp (v0 : AV) (v1 : AV) (H : Heap) (K : AV → Heap → Prop) : wpC Try.prog tab D20 (bodyOf Try.f20) (retF tab [.cell 4 43, .tmp 5] K) (nthA [v0, v1]) H = W20 v0 v1 H K := by kernel_rfl
theorem W20_ok {v0 v1 : AV} {H : Heap} {K : AV → Heap → Prop} (h : W20 v0 v1 H K) : CallT Try.prog 20 [v0, v1] H K :=
  CallT.of_wp (D := D20) tab_ok mixed Try.func20 (c := bodyOf Try.f20) (by kernel_rfl) rfl (by kernel_rfl) (rs := #[.cell 4 43, .tmp 5]) rfl (by decide +kernel) (by kernel_rfl) (W20_wp v0 v1 H K) h
theorem W20_hb : HasBody Try.prog 20 := ⟨_, bodyOf Try.f20, Try.func20, by kernel_rfl, rfl⟩
/-- loop.example/g00649/laws.sameLists -/
def D21 : Info := ⟨27, fun i => if i = 6 then ([[], [], [0, 1], [0, 1, 2], [], [], [4, 5], [4, 5, 6], [0, 1, 2, 3, 4, 5, 6, 7], [0, 1, 2, 3, 4, 5, 6, 7, 8]], [(0, []), (1, []), (2, []), (3, []), (4, []), (5, []), (6, []), (7, []), (8, []), (9, [])]) else ([], []), fun i => if i = 4 then ([0, 1, 12], [13]) else ([], [])⟩
def L21_0 (K : AV → Heap → Prop) (v0 : AV) (v1 : AV) (v12 : AV) (v13 : AV) (H : Heap) : Prop := LoopV (wpC Try.prog tab D21 (cAt [1, 1, 0, 1, 0, 0] (bodyOf Try.f21))) [0, 1, 12] (PostF.block 0 (PostF.thenA (wpC Try.prog tab D21 (cAt [1, 1, 1] (bodyOf Try.f21))) (retF tab [.tmp 4] K))) [13] [v0, v1, AV.any, AV.any, AV.any, AV.any, AV.any, AV.any, AV.any, AV.any, AV.any, AV.any, v12, v13, AV.any, AV.any, AV.any, AV.any, AV.any, AV.any, AV.any, AV.any, AV.any, AV.any, AV.any, AV.any, AV.any] H
def B21_0 (K : AV → Heap → Prop) (N1 : AV → Heap → Prop) (v0 : AV) (v1 : AV) (v12 : AV) (v13 : AV) (H : Heap) : Prop :=
 binV tab .lss 3 v13 v12 fun v14 =>
 condV v14 (indexAddrV tab 41 v0 v13 fun v18 =>
 loadV tab 24 v18 H fun v19 =>
 indexAddrV tab 41 v1 v13 fun v22 =>
 loadV tab 24 v22 H fun v23 =>
 CallT Try.prog 36 [v19, v23] H fun v24 H1 =>
 unV .not v24 fun v25 =>
 condV v25 (K (AV.p (.bool false)) H1)
 (binV tab .add 3 v13 (AV.p (.int .i64 1)) fun v26 =>
 N1 v26 H1))
 (K (AV.p (.bool true)) H)
def W21 (v0 : AV) (v1 : AV) (H : Heap) (K : AV → Heap → Prop) : Prop :=
 lenV tab 41 v0 fun v7 =>
 lenV tab 41 v1 fun v9 =>
 binV tab .neq 3 v7 v9 fun v10 =>
 condV v10 (K (AV.p (.bool false)) H)
 (lenV tab 41 v0 fun v12 =>
 L21_0 K v0 v1 v12 (AV.p (.int .i64 0)) H)
theorem W21_wp (v0 : AV) (v1 : AV) (H : Heap) (K : AV → Heap → Prop) : wpC Try.prog tab D21 (bodyOf Try.f21) (retF tab [.tmp 4] K) (nthA [v0, v1]) H = W21 v0 v1 H K := by kernel_rfl
theorem W21_ok {v0 v1 : AV} {H : Heap} {K : AV → Heap → Prop} (h : W21 v0 v1 H K) : CallT Try.prog 21 [v0, v1] H K :=
  CallT.of_wp (D := D21) tab_ok mixed Try.func21 (c := bodyOf Try.f21) (by kernel_rfl) rfl (by kernel_rfl) (rs := #[.tmp 4]) rfl (by decide +kernel) (by kernel_rfl) (W21_wp v0 v1 H K) h
theorem W21_hb : HasBody Try.prog 21 := ⟨_, bodyOf Try.f21, Try.func21, by kernel_rfl, rfl⟩
theorem L21_0_rule {K : AV → Heap → Prop} {v0 v1 v12 v13 : AV} {H : Heap} {σ : Type} (s0 : σ) (f13 : σ → AV) (TH : σ → Heap) (pre : σ → Prop) (μ : σ → Nat)
    (h0 : pre s0 ∧ AV.wk v13 (f13 s0) ∧ Heap.le (TH s0) H)
    (round : ∀ s, pre s → B21_0 K (fun w13 H' => ∃ s', pre s' ∧ μ s' < μ s ∧ AV.wk w13 (f13 s') ∧ Heap.le (TH s') H') v0 v1 v12 (f13 s) (TH s)) :
    L21_0 K v0 v1 v12 v13 H := by
  unfold L21_0
  exact LoopV.mk s0 (fun s => [f13 s]) TH pre μ (fun _ => rfl) (Eq.mp (by kernel_rfl) h0) (fun s hs => Eq.mp (by kernel_rfl) (round s hs))
theorem L21_0_ruleG {K : AV → Heap → Prop} {v0 v1 v12 v13 : AV} {H : Heap} {σ : Type} (s0 : σ) (f13 : σ → AV) (TH : σ → Heap) (pre : σ → Prop) (μ : σ → Nat)
    (h0 : pre s0 ∧ AV.wk v13 (f13 s0) ∧ Heap.le (TH s0) H)
    (round : ∀ s, pre s → ∀ q, TH s q = none → B21_0 K (fun w13 H' => ∃ s', pre s' ∧ μ s' < μ s ∧ AV.wk w13 (f13 s') ∧ Heap.le (TH s') H') v0 v1 v12 (f13 s) ((TH s).set q [])) :
    L21_0 K v0 v1 v12 v13 H := by
  unfold L21_0
  exact LoopV.mkG s0 (fun s => [f13 s]) TH pre μ (fun _ => rfl) (Eq.mp (by kernel_rfl) h0) (fun s hs q hq => Eq.mp (by kernel_rfl) (round s hs q hq))
/-- loop.example/g00649/laws.numberOf -/
def D22 : Info := ⟨20, fun i => ([], []), fun i => if i = 3 then ([6, 7], [3, 8]) else ([], [])⟩
def L22_0 (K : AV → Heap → Prop) (v3 : AV) (v6 : AV) (v7 : AV) (v8 : AV) (H : Heap) : Prop := LoopV (wpC Try.prog tab D22 (cAt [1, 1, 0, 1, 0, 0] (bodyOf Try.f22))) [6, 7] (PostF.block 0 (PostF.thenA (wpC Try.prog tab D22 (cAt [1, 1, 1] (bodyOf Try.f22))) (retF tab [.tmp 2] K))) [3, 8] [AV.any, AV.any, AV.any, v3, AV.any, AV.any, v6, v7, v8, AV.any, AV.any, AV.any, AV.any, AV.any, AV.any, AV.any, AV.any, AV.any, AV.any, AV.any] H
def B22_0 (K : AV → Heap → Prop) (N1 : AV → AV → Heap → Prop) (v3 : AV) (v6 : AV) (v7 : AV) (v8 : AV) (H : Heap) : Prop :=
 binV tab .lss 3 v8 v7 fun v9 =>
 condV v9 (indexAddrV tab 22 v6 v8 fun v10 =>
 loadV tab 5 v10 H fun v11 =>
 binV tab .mul 3 (AV.p (.int .i64 31)) v3 fun v13 =>
 convV tab 5 3 v11 fun v15 =>
 binV tab .add 3 v13 v15 fun v16 =>
 binV tab .rem 3 v16 (AV.p (.int .i64 1000003)) fun v17 =>
 binV tab .add 3 v8 (AV.p (.int .i64 1)) fun v18 =>
 N1 v17 v18 H)
 (K v3 H)
def W22 (v0 : AV) (H : Heap) (K : AV → Heap → Prop) : Prop :=
 lenV tab 22 v0 fun v7 =>
 L22_0 K (AV.p (.int .i64 0)) v0 v7 (AV.p (.int .i64 0)) H
theorem W22_wp (v0 : AV) (H : Heap) (K : AV → Heap → Prop) : wpC Try.prog tab D22 (bodyOf Try.f22) (retF tab [.tmp 2] K) (nthA [v0]) H = W22 v0 H K := by kernel_rfl
theorem W22_ok {v0 : AV} {H : Heap} {K : AV → Heap → Prop} (h : W22 v0 H K) : CallT Try.prog 22 [v0] H K :=
  CallT.of_wp (D := D22) tab_ok mixed Try.func22 (c := bodyOf Try.f22) (by kernel_rfl) rfl (by kernel_rfl) (rs := #[.tmp 2]) rfl (by decide +kernel) (by kernel_rfl) (W22_wp v0 H K) h
theorem W22_hb : HasBody Try.prog 22 := ⟨_, bodyOf Try.f22, Try.func22, by kernel_rfl, rfl⟩
theorem L22_0_rule {K : AV → Heap → Prop} {v3 v6 v7 v8 : AV} {H : Heap} {σ : Type} (s0 : σ) (f3 : σ → AV) (f8 : σ → AV) (TH : σ → Heap) (pre : σ → Prop) (μ : σ → Nat)
    (h0 : pre s0 ∧ AV.wk v3 (f3 s0) ∧ AV.wk v8 (f8 s0) ∧ Heap.le (TH s0) H)
    (round : ∀ s, pre s → B22_0 K (fun w3 w8 H' => ∃ s', pre s' ∧ μ s' < μ s ∧ AV.wk w3 (f3 s') ∧ AV.wk w8 (f8 s') ∧ Heap.le (TH s') H') (f3 s) v6 v7 (f8 s) (TH s)) :
    L22_0 K v3 v6 v7 v8 H := by
  unfold L22_0
  exact LoopV.mk s0 (fun s => [f3 s, f8 s]) TH pre μ (fun _ => rfl) (Eq.mp (by kernel_rfl) h0) (fun s hs => Eq.mp (by kernel_rfl) (round s hs))
theorem L22_0_ruleG {K : AV → Heap → Prop} {v3 v6 v7 v8 : AV} {H : Heap} {σ : Type} (s0 : σ) (f3 : σ → AV) (f8 : σ → AV) (TH : σ → Heap) (pre : σ → Prop) (μ : σ → Nat)
    (h0 : pre s0 ∧ AV.wk v3 (f3 s0) ∧ AV.wk v8 (f8 s0) ∧ Heap.le (TH s0) H)
    (round : ∀ s, pre s → ∀ q, TH s q = none → B22_0 K (fun w3 w8 H' => ∃ s', pre s' ∧ μ s' < μ s ∧ AV.wk w3 (f3 s') ∧ AV.wk w8 (f8 s') ∧ Heap.le (TH s') H') (f3 s) v6 v7 (f8 s) ((TH s).set q [])) :
    L22_0 K v3 v6 v7 v8 H := by
  unfold L22_0
  exact LoopV.mkG s0 (fun s => [f3 s, f8 s]) TH pre μ (fun _ => rfl) (Eq.mp (by kernel_rfl) h0) (fun s hs q hq => Eq.mp (by kernel_rfl) (round s hs q hq))
/-- loop.example/g00649/impl.AllWires -/
def D23 : Info := ⟨19, fun i => ([], []), fun i => ([], [])⟩
def W23 (v0 : AV) (v1 : AV) (H : Heap) (K : AV → Heap → Prop) : Prop :=
 boxV v0 H fun v2 H1 =>
 loadV tab 37 v2 H1 fun v6 =>
 CallT Try.prog 79 [v6] H1 fun v7 H2 =>
 unV .not v7 fun v8 =>
 grdV v8 false (lenV tab 38 v1 fun v11 =>
 fieldAddrV tab 37 v2 0 fun v12 =>
 loadV tab 3 v12 H2 fun v13 =>
 binV tab .neq 3 v11 v13 fun v14 =>
 condV v14 (K (.tup [(AV.p .nil), (AV.p (.bool false))]) H2)
 (loadV tab 37 v2 H2 fun v16 =>
 CallT Try.prog 84 [v16, v1] H2 fun v18 H3 =>
 K (.tup [v18, (AV.p (.bool true))]) H3))
 (K (.tup [(AV.p .nil), (AV.p (.bool false))]) H2)
theorem W23_wp (v0 : AV) (v1 : AV) (H : Heap) (K : AV → Heap → Prop) : wpC Try.prog tab D23 (bodyOf Try.f23) (retF tab [.tmp 4, .tmp 5] K) (nthA [v0, v1]) H = W23 v0 v1 H K := by kernel_rfl
theorem W23_ok {v0 v1 : AV} {H : Heap} {K : AV → Heap → Prop} (h : W23 v0 v1 H K) : CallT Try.prog 23 [v0, v1] H K :=
  CallT.of_wp (D := D23) tab_ok mixed Try.func23 (c := bodyOf Try.f23) (by kernel_rfl) rfl (by kernel_rfl) (rs := #[.tmp 4, .tmp 5]) rfl (by decide +kernel) (by kernel_rfl) (W23_wp v0 v1 H K) h
theorem W23_hb : HasBody Try.prog 23 := ⟨_, bodyOf Try.f23, Try.func23, by kernel_rfl, rfl⟩
/-- loop.example/g00649/impl.RunCircuit -/
def D24 : Info := ⟨36, fun i => ([], []), fun i => if i = 6 then ([6, 21, 22], [8, 23]) else ([], [])⟩
def L24_0 (K : AV → Heap → Prop) (v6 : AV) (v8 : AV) (v21 : AV) (v22 : AV) (v23 : AV) (H : Heap) : Prop := LoopV (wpC Try.prog tab D24 (cAt [1, 1, 1, 1, 0, 1, 0, 0] (bodyOf Try.f24))) [6, 21, 22] (PostF.block 0 (PostF.thenA (wpC Try.prog tab D24 (cAt [1, 1, 1, 1, 1] (bodyOf Try.f24))) (retF tab [.tmp 4, .tmp 5] K))) [8, 23] [AV.any, AV.any, AV.any, AV.any, AV.any, AV.any, v6, AV.any, v8, AV.any, AV.any, AV.any, AV.any, AV.any, AV.any, AV.any, AV.any, AV.any, AV.any, AV.any, AV.any, v21, v22, v23, AV.any, AV.any, AV.any, AV.any, AV.any, AV.any, AV.any, AV.any, AV.any, AV.any, AV.any, AV.any] H
def B24_0 (K : AV → Heap → Prop) (N1 : AV → AV → Heap → Prop) (v6 : AV) (v8 : AV) (v21 : AV) (v22 : AV) (v23 : AV) (H : Heap) : Prop :=
 binV tab .lss 3 v23 v22 fun v24 =>
 condV v24 (indexAddrV tab 24 v21 v23 fun v25 =>
 loadV tab 3 v25 H fun v26 =>
 indexAddrV tab 38 v6 v26 fun v30 =>
 loadV tab 4 v30 H fun v31 =>
 buildSliceV tab 38 1 [(0, v31)] H (wkK fun v32 H4 =>
 appendV tab 38 38 v8 v32 H4 (wkK fun v33 H5 =>
 binV tab .add 3 v23 (AV.p (.int .i64 1)) fun v34 =>
 N1 v33 v34 H5)))
 (K (.tup [v8, (AV.p (.bool true))]) H)
def W24 (v0 : AV) (v1 : AV) (H : Heap) (K : AV → Heap → Prop) : Prop :=
 boxV v0 H fun v2 H1 =>
 loadV tab 37 v2 H1 fun v12 =>
 CallT Try.prog 23 [v12, v1] H1 fun v14 H2 =>
 extractV v14 0 fun v15 =>
 extractV v14 1 fun v16 =>
 unV .not v16 fun v18 =>
 condV v18 (K (.tup [(AV.p .nil), (AV.p (.bool false))]) H2)
 (buildSliceV tab 38 0 [] H2 (wkK fun v19 H3 =>
 fieldAddrV tab 37 v2 2 fun v20 =>
 loadV tab 24 v20 H3 fun v21 =>
 lenV tab 24 v21 fun v22 =>
 L24_0 K v15 v19 v21 v22 (AV.p (.int .i64 0)) H3))
theorem W24_wp (v0 : AV) (v1 : AV) (H : Heap) (K : AV → Heap → Prop) : wpC Try.prog tab D24 (bodyOf Try.f24) (retF tab [.tmp 4, .tmp 5] K) (nthA [v0, v1]) H = W24 v0 v1 H K := by kernel_rfl
theorem W24_ok {v0 v1 : AV} {H : Heap} {K : AV → Heap → Prop} (h : W24 v0 v1 H K) : CallT Try.prog 24 [v0, v1] H K :=
  CallT.of_wp (D := D24) tab_ok mixed Try.func24 (c := bodyOf Try.f24) (by kernel_rfl) rfl (by kernel_rfl) (rs := #[.tmp 4, .tmp 5]) rfl (by decide +kernel) (by kernel_rfl) (W24_wp v0 v1 H K) h
theorem W24_hb : HasBody Try.prog 24 := ⟨_, bodyOf Try.f24, Try.func24, by kernel_rfl, rfl⟩
theorem L24_0_rule {K : AV → Heap → Prop} {v6 v8 v21 v22 v23 : AV} {H : Heap} {σ : Type} (s0 : σ) (f8 : σ → AV) (f23 : σ → AV) (TH : σ → Heap) (pre : σ → Prop) (μ : σ → Nat)
    (h0 : pre s0 ∧ AV.wk v8 (f8 s0) ∧ AV.wk v23 (f23 s0) ∧ Heap.le (TH s0) H)
    (round : ∀ s, pre s → B24_0 K (fun w8 w23 H' => ∃ s', pre s' ∧ μ s' < μ s ∧ AV.wk w8 (f8 s') ∧ AV.wk w23 (f23 s') ∧ Heap.le (TH s') H') v6 (f8 s) v21 v22 (f23 s) (TH s)) :
    L24_0 K v6 v8 v21 v22 v23 H := by
  unfold L24_0
  exact LoopV.mk s0 (fun s => [f8 s, f23 s]) TH pre μ (fun _ => rfl) (Eq.mp (by kernel_rfl) h0) (fun s hs => Eq.mp (by kernel_rfl) (round s hs))
theorem L24_0_ruleG {K : AV → Heap → Prop} {v6 v8 v21 v22 v23 : AV} {H : Heap} {σ : Type} (s0 : σ) (f8 : σ → AV) (f23 : σ → AV) (TH : σ → Heap) (pre : σ → Prop) (μ : σ → Nat)
    (h0 : pre s0 ∧ AV.wk v8 (f8 s0) ∧ AV.wk v23 (f23 s0) ∧ Heap.le (TH s0) H)
    (round : ∀ s, pre s → ∀ q, TH s q = none → B24_0 K (fun w8 w23 H' => ∃ s', pre s' ∧ μ s' < μ s ∧ AV.wk w8 (f8 s') ∧ AV.wk w23 (f23 s') ∧ Heap.le (TH s') H') v6 (f8 s) v21 v22 (f23 s) ((TH s).set q [])) :
    L24_0 K v6 v8 v21 v22 v23 H := by
  unfold L24_0
  exact LoopV.mkG s0 (fun s => [f8 s, f23 s]) TH pre μ (fun _ => rfl) (Eq.mp (by kernel_rfl) h0) (fun s hs q hq => Eq.mp (by kernel_rfl) (round s hs q hq))
/-- loop.example/g00649/impl.Meets -/
def D25 : Info := ⟨19, fun i => ([], []), fun i => ([], [])⟩
def W25 (v0 : AV) (v1 : AV) (H : Heap) (K : AV → Heap → Prop) : Prop :=
 boxV v0 H fun v2 H1 =>
 loadV tab 43 v2 H1 fun v6 =>
 CallT Try.prog 57 [v6] H1 fun v7 H2 =>
 unV .not v7 fun v8 =>
 grdV v8 false (lenV tab 38 v1 fun v11 =>
 fieldAddrV tab 43 v2 0 fun v12 =>
 loadV tab 3 v12 H2 fun v13 =>
 binV tab .neq 3 v11 v13 fun v14 =>
 condV v14 (K (.tup [(AV.p (.bool false)), (AV.p (.bool false))]) H2)
 (loadV tab 43 v2 H2 fun v16 =>
 CallT Try.prog 85 [v16, v1] H2 fun v18 H3 =>
 K (.tup [v18, (AV.p (.bool true))]) H3))
 (K (.tup [(AV.p (.bool false)), (AV.p (.bool false))]) H2)
theorem W25_wp (v0 : AV) (v1 : AV) (H : Heap) (K : AV → Heap → Prop) : wpC Try.prog tab D25 (bodyOf Try.f25) (retF tab [.tmp 4, .tmp 5] K) (nthA [v0, v1]) H = W25 v0 v1 H K := by kernel_rfl
theorem W25_ok {v0 v1 : AV} {H : Heap} {K : AV → Heap → Prop} (h : W25 v0 v1 H K) : CallT Try.prog 25 [v0, v1] H K :=
  CallT.of_wp (D := D25) tab_ok mixed Try.func25 (c := bodyOf Try.f25) (by kernel_rfl) rfl (by kernel_rfl) (rs := #[.tmp 4, .tmp 5]) rfl (by decide +kernel) (by kernel_rfl) (W25_wp v0 v1 H K) h
theorem W25_hb : HasBody Try.prog 25 := ⟨_, bodyOf Try.f25, Try.func25, by kernel_rfl, rfl⟩
/-- loop.example/g00649/laws.sameBools -/
def D26 : Info := ⟨26, fun i => if i = 6 then ([[], [], [0, 1], [0, 1, 2], [], [], [4, 5], [4, 5, 6], [0, 1, 2, 3, 4, 5, 6, 7]], [(0, []), (1, []), (2, []), (3, []), (4, []), (5, []), (6, []), (7, []), (8, [])]) else ([], []), fun i => if i = 4 then ([0, 1, 12], [13]) else ([], [])⟩
def L26_0 (K : AV → Heap → Prop) (v0 : AV) (v1 : AV) (v12 : AV) (v13 : AV) (H : Heap) : Prop := LoopV (wpC Try.prog tab D26 (cAt [1, 1, 0, 1, 0, 0] (bodyOf Try.f26))) [0, 1, 12] (PostF.block 0 (PostF.thenA (wpC Try.prog tab D26 (cAt [1, 1, 1] (bodyOf Try.f26))) (retF tab [.tmp 4] K))) [13] [v0, v1, AV.any, AV.any, AV.any, AV.any, AV.any, AV.any, AV.any, AV.any, AV.any, AV.any, v12, v13, AV.any, AV.any, AV.any, AV.any, AV.any, AV.any, AV.any, AV.any, AV.any, AV.any, AV.any, AV.any] H
def B26_0 (K : AV → Heap → Prop) (N1 : AV → Heap → Prop) (v0 : AV) (v1 : AV) (v12 : AV) (v13 : AV) (H : Heap) : Prop :=
 binV tab .lss 3 v13 v12 fun v14 =>
 condV v14 (indexAddrV tab 38 v0 v13 fun v18 =>
 loadV tab 4 v18 H fun v19 =>
 indexAddrV tab 38 v1 v13 fun v22 =>
 loadV tab 4 v22 H fun v23 =>
 binV tab .neq 4 v19 v23 fun v24 =>
 condV v24 (K (AV.p (.bool false)) H)
 (binV tab .add 3 v13 (AV.p (.int .i64 1)) fun v25 =>
 N1 v25 H))
 (K (AV.p (.bool true)) H)
def W26 (v0 : AV) (v1 : AV) (H : Heap) (K : AV → Heap → Prop) : Prop :=
 lenV tab 38 v0 fun v7 =>
 lenV tab 38 v1 fun v9 =>
 binV tab .neq 3 v7 v9 fun v10 =>
 condV v10 (K (AV.p (.bool false)) H)
 (lenV tab 38 v0 fun v12 =>
 L26_0 K v0 v1 v12 (AV.p (.int .i64 0)) H)
theorem W26_wp (v0 : AV) (v1 : AV) (H : Heap) (K : AV → Heap → Prop) : wpC Try.prog tab D26 (bodyOf Try.f26) (retF tab [.tmp 4] K) (nthA [v0, v1]) H = W26 v0 v1 H K := by kernel_rfl
theorem W26_ok {v0 v1 : AV} {H : Heap} {K : AV → Heap → Prop} (h : W26 v0 v1 H K) : CallT Try.prog 26 [v0, v1] H K :=
  CallT.of_wp (D := D26) tab_ok mixed Try.func26 (c := bodyOf Try.f26) (by kernel_rfl) rfl (by kernel_rfl) (rs := #[.tmp 4]) rfl (by decide +kernel) (by kernel_rfl) (W26_wp v0 v1 H K) h
theorem W26_hb : HasBody Try.prog 26 := ⟨_, bodyOf Try.f26, Try.func26, by kernel_rfl, rfl⟩
theorem L26_0_rule {K : AV → Heap → Prop} {v0 v1 v12 v13 : AV} {H : Heap} {σ : Type} (s0 : σ) (f13 : σ → AV) (TH : σ → Heap) (pre : σ → Prop) (μ : σ → Nat)
    (h0 : pre s0 ∧ AV.wk v13 (f13 s0) ∧ Heap.le (TH s0) H)
    (round : ∀ s, pre s → B26_0 K (fun w13 H' => ∃ s', pre s' ∧ μ s' < μ s ∧ AV.wk w13 (f13 s') ∧ Heap.le (TH s') H') v0 v1 v12 (f13 s) (TH s)) :
    L26_0 K v0 v1 v12 v13 H := by
  unfold L26_0
  exact LoopV.mk s0 (fun s => [f13 s]) TH pre μ (fun _ => rfl) (Eq.mp (by kernel_rfl) h0) (fun s hs => Eq.mp (by kernel_rfl) (round s hs))
theorem L26_0_ruleG {K : AV → Heap → Prop} {v0 v1 v12 v13 : AV} {H : Heap} {σ : Type} (s0 : σ) (f13 : σ → AV) (TH : σ → Heap) (pre : σ → Prop) (μ : σ → Nat)
    (h0 : pre s0 ∧ AV.wk v13 (f13 s0) ∧ Heap.le (TH s0) H)
    (round : ∀ s, pre s → ∀ q, TH s q = none → B26_0 K (fun w13 H' => ∃ s', pre s' ∧ μ s' < μ s ∧ AV.wk w13 (f13 s') ∧ Heap.le (TH s') H') v0 v1 v12 (f13 s) ((TH s).set q [])) :
    L26_0 K v0 v1 v12 v13 H := by
  unfold L26_0
  exact LoopV.mkG s0 (fun s => [f13 s]) TH pre μ (fun _ => rfl) (Eq.mp (by kernel_rfl) h0) (fun s hs q hq => Eq.mp (by kernel_rfl) (round s hs q hq))
/-- loop.example/g00649/laws.sameInts -/
def D36 : Info := ⟨26, fun i => if i = 6 then ([[], [], [0, 1], [0, 1, 2], [], [], [4, 5], [4, 5, 6], [0, 1, 2, 3, 4, 5, 6, 7]], [(0, []), (1, []), (2, []), (3, []), (4, []), (5, []), (6, []), (7, []), (8, [])]) else ([], []), fun i => if i = 4 then ([0, 1, 12], [13]) else ([], [])⟩
def L36_0 (K : AV → Heap → Prop) (v0 : AV) (v1 : AV) (v12 : AV) (v13 : AV) (H : Heap) : Prop := LoopV (wpC Try.prog tab D36 (cAt [1, 1, 0, 1, 0, 0] (bodyOf Try.f36))) [0, 1, 12] (PostF.block 0 (PostF.thenA (wpC Try.prog tab D36 (cAt [1, 1, 1] (bodyOf Try.f36))) (retF tab [.tmp 4] K))) [13] [v0, v1, AV.any, AV.any, AV.any, AV.any, AV.any, AV.any, AV.any, AV.any, AV.any, AV.any, v12, v13, AV.any, AV.any, AV.any, AV.any, AV.any, AV.any, AV.any, AV.any, AV.any, AV.any, AV.any, AV.any] H
def B36_0 (K : AV → Heap → Prop) (N1 : AV → Heap → Prop) (v0 : AV) (v1 : AV) (v12 : AV) (v13 : AV) (H : Heap) : Prop :=
 binV tab .lss 3 v13 v12 fun v14 =>
 condV v14 (indexAddrV tab 24 v0 v13 fun v18 =>
 loadV tab 3 v18 H fun v19 =>
 indexAddrV tab 24 v1 v13 fun v22 =>
 loadV tab 3 v22 H fun v23 =>
 binV tab .neq 3 v19 v23 fun v24 =>
 condV v24 (K (AV.p (.bool false)) H)
 (binV tab .add 3 v13 (AV.p (.int .i64 1)) fun v25 =>
 N1 v25 H))
 (K (AV.p (.bool true)) H)
def W36 (v0 : AV) (v1 : AV) (H : Heap) (K : AV → Heap → Prop) : Prop :=
 lenV tab 24 v0 fun v7 =>
 lenV tab 24 v1 fun v9 =>
 binV tab .neq 3 v7 v9 fun v10 =>
 condV v10 (K (AV.p (.bool false)) H)
 (lenV tab 24 v0 fun v12 =>
 L36_0 K v0 v1 v12 (AV.p (.int .i64 0)) H)
theorem W36_wp (v0 : AV) (v1 : AV) (H : Heap) (K : AV → Heap → Prop) : wpC Try.prog tab D36 (bodyOf Try.f36) (retF tab [.tmp 4] K) (nthA [v0, v1]) H = W36 v0 v1 H K := by kernel_rfl
theorem W36_ok {v0 v1 : AV} {H : Heap} {K : AV → Heap → Prop} (h : W36 v0 v1 H K) : CallT Try.prog 36 [v0, v1] H K :=
  CallT.of_wp (D := D36) tab_ok mixed Try.func36 (c := bodyOf Try.f36) (by kernel_rfl) rfl (by kernel_rfl) (rs := #[.tmp 4]) rfl (by decide +kernel) (by kernel_rfl) (W36_wp v0 v1 H K) h
theorem W36_hb : HasBody Try.prog 36 := ⟨_, bodyOf Try.f36, Try.func36, by kernel_rfl, rfl⟩
theorem L36_0_rule {K : AV → Heap → Prop} {v0 v1 v12 v13 : AV} {H : Heap} {σ : Type} (s0 : σ) (f13 : σ → AV) (TH : σ → Heap) (pre : σ → Prop) (μ : σ → Nat)
    (h0 : pre s0 ∧ AV.wk v13 (f13 s0) ∧ Heap.le (TH s0) H)
    (round : ∀ s, pre s → B36_0 K (fun w13 H' => ∃ s', pre s' ∧ μ s' < μ s ∧ AV.wk w13 (f13 s') ∧ Heap.le (TH s') H') v0 v1 v12 (f13 s) (TH s)) :
    L36_0 K v0 v1 v12 v13 H := by
  unfold L36_0
  exact LoopV.mk s0 (fun s => [f13 s]) TH pre μ (fun _ => rfl) (Eq.mp (by kernel_rfl) h0) (fun s hs => Eq.mp (by kernel_rfl) (round s hs))
theorem L36_0_ruleG {K : AV → Heap → Prop} {v0 v1 v12 v13 : AV} {H : Heap} {σ : Type} (s0 : σ) (f13 : σ → AV) (TH : σ → Heap) (pre : σ → Prop) (μ : σ → Nat)
    (h0 : pre s0 ∧ AV.wk v13 (f13 s0) ∧ Heap.le (TH s0) H)
    (round : ∀ s, pre s → ∀ q, TH s q = none → B36_0 K (fun w13 H' => ∃ s', pre s' ∧ μ s' < μ s ∧ AV.wk w13 (f13 s') ∧ Heap.le (TH s') H') v0 v1 v12 (f13 s) ((TH s).set q [])) :
    L36_0 K v0 v1 v12 v13 H := by
  unfold L36_0
  exact LoopV.mkG s0 (fun s => [f13 s]) TH pre μ (fun _ => rfl) (Eq.mp (by kernel_rfl) h0) (fun s hs q hq => Eq.mp (by kernel_rfl) (round s hs q hq))
/-- loop.example/g00649/impl.GoodCnf -/
def D57 : Info := ⟨22, fun i => ([], []), fun i => ([], [])⟩
def W57 (v0 : AV) (H : Heap) (K : AV → Heap → Prop) : Prop :=
 boxV v0 H fun v1 H1 =>
 fieldAddrV tab 43 v1 0 fun v3 =>
 loadV tab 3 v3 H1 fun v4 =>
 binV tab .lss 3 v4 (AV.p (.int .i64 0)) fun v5 =>
 grdV v5 false (fieldAddrV tab 43 v1 0 fun v7 =>
 loadV tab 3 v7 H1 fun v8 =>
 binV tab .gtr 3 v8 (AV.p (.int .i64 400)) fun v9 =>
 grdV v9 false (fieldAddrV tab 43 v1 1 fun v12 =>
 loadV tab 41 v12 H1 fun v13 =>
 lenV tab 41 v13 fun v14 =>
 binV tab .gtr 3 v14 (AV.p (.int .i64 1400)) fun v15 =>
 condV v15 (K (AV.p (.bool false)) H1)
 (fieldAddrV tab 43 v1 1 fun v17 =>
 loadV tab 41 v17 H1 fun v18 =>
 CallT Try.prog 116 [v18, (.fn 117 [v1])] H1 fun v20 H2 =>
 unV .not v20 fun v21 =>
 K v21 H2))
 (K (AV.p (.bool false)) H1))
 (K (AV.p (.bool false)) H1)
theorem W57_wp (v0 : AV) (H : Heap) (K : AV → Heap → Prop) : wpC Try.prog tab D57 (bodyOf Try.f57) (retF tab [.tmp 2] K) (nthA [v0]) H = W57 v0 H K := by kernel_rfl
theorem W57_ok {v0 : AV} {H : Heap} {K : AV → Heap → Prop} (h : W57 v0 H K) : CallT Try.prog 57 [v0] H K :=
  CallT.of_wp (D := D57) tab_ok mixed Try.func57 (c := bodyOf Try.f57) (by kernel_rfl) rfl (by kernel_rfl) (rs := #[.tmp 2]) rfl (by decide +kernel) (by kernel_rfl) (W57_wp v0 H K) h
theorem W57_hb : HasBody Try.prog 57 := ⟨_, bodyOf Try.f57, Try.func57, by kernel_rfl, rfl⟩
/-- loop.example/g00649/spec.GoodCnf -/
def D58 : Info := ⟨28, fun i => ([], []), fun i => if i = 4 then ([1, 16, 17], [18]) else ([], [])⟩
def L58_0 (K : AV → Heap → Prop) (v1 : AV) (v16 : AV) (v17 : AV) (v18 : AV) (H : Heap) : Prop := LoopV (wpC Try.prog tab D58 (cAt [1, 1, 0, 1, 0, 0] (bodyOf Try.f58))) [1, 16, 17] (PostF.block 0 (PostF.thenA (wpC Try.prog tab D58 (cAt [1, 1, 1] (bodyOf Try.f58))) (retF tab [.tmp 2] K))) [18] [AV.any, v1, AV.any, AV.any, AV.any, AV.any, AV.any, AV.any, AV.any, AV.any, AV.any, AV.any, AV.any, AV.any, AV.any, AV.any, v16, v17, v18, AV.any, AV.any, AV.any, AV.any, AV.any, AV.any, AV.any, AV.any, AV.any] H
def B58_0 (K : AV → Heap → Prop) (N1 : AV → Heap → Prop) (v1 : AV) (v16 : AV) (v17 : AV) (v18 : AV) (H : Heap) : Prop :=
 binV tab .lss 3 v18 v17 fun v19 =>
 condV v19 (indexAddrV tab 41 v16 v18 fun v20 =>
 loadV tab 24 v20 H fun v21 =>
 fieldAddrV tab 43 v1 0 fun v22 =>
 loadV tab 3 v22 H fun v23 =>
 CallT Try.prog 119 [v23, v21] H fun v25 H3 =>
 unV .not v25 fun v26 =>
 condV v26 (K (AV.p (.bool false)) H3)
 (binV tab .add 3 v18 (AV.p (.int .i64 1)) fun v27 =>
 N1 v27 H3))
 (K (AV.p (.bool true)) H)
def W58 (v0 : AV) (H : Heap) (K : AV → Heap → Prop) : Prop :=
 boxV v0 H fun v1 H1 =>
 fieldAddrV tab 43 v1 0 fun v5 =>
 loadV tab 3 v5 H1 fun v6 =>
 CallT Try.prog 75 [v6, (AV.p (.int .i64 0)), (AV.p (.int .i64 400))] H1 fun v7 H2 =>
 unV .not v7 fun v8 =>
 grdV v8 false (fieldAddrV tab 43 v1 1 fun v10 =>
 loadV tab 41 v10 H2 fun v11 =>
 lenV tab 41 v11 fun v12 =>
 binV tab .gtr 3 v12 (AV.p (.int .i64 1400)) fun v13 =>
 condV v13 (K (AV.p (.bool false)) H2)
 (fieldAddrV tab 43 v1 1 fun v15 =>
 loadV tab 41 v15 H2 fun v16 =>
 lenV tab 41 v16 fun v17 =>
 L58_0 K v1 v16 v17 (AV.p (.int .i64 0)) H2))
 (K (AV.p (.bool false)) H2)
theorem W58_wp (v0 : AV) (H : Heap) (K : AV → Heap → Prop) : wpC Try.prog tab D58 (bodyOf Try.f58) (retF tab [.tmp 2] K) (nthA [v0]) H = W58 v0 H K := by kernel_rfl
theorem W58_ok {v0 : AV} {H : Heap} {K : AV → Heap → Prop} (h : W58 v0 H K) : CallT Try.prog 58 [v0] H K :=
  CallT.of_wp (D := D58) tab_ok mixed Try.func58 (c := bodyOf Try.f58) (by kernel_rfl) rfl (by kernel_rfl) (rs := #[.tmp 2]) rfl (by decide +kernel) (by kernel_rfl) (W58_wp v0 H K) h
theorem W58_hb : HasBody Try.prog 58 := ⟨_, bodyOf Try.f58, Try.func58, by kernel_rfl, rfl⟩
theorem L58_0_rule {K : AV → Heap → Prop} {v1 v16 v17 v18 : AV} {H : Heap} {σ : Type} (s0 : σ) (f18 : σ → AV) (TH : σ → Heap) (pre : σ → Prop) (μ : σ → Nat)
    (h0 : pre s0 ∧ AV.wk v18 (f18 s0) ∧ Heap.le (TH s0) H)
    (round : ∀ s, pre s → B58_0 K (fun w18 H' => ∃ s', pre s' ∧ μ s' < μ s ∧ AV.wk w18 (f18 s') ∧ Heap.le (TH s') H') v1 v16 v17 (f18 s) (TH s)) :
    L58_0 K v1 v16 v17 v18 H := by
  unfold L58_0
  exact LoopV.mk s0 (fun s => [f18 s]) TH pre μ (fun _ => rfl) (Eq.mp (by kernel_rfl) h0) (fun s hs => Eq.mp (by kernel_rfl) (round s hs))
theorem L58_0_ruleG {K : AV → Heap → Prop} {v1 v16 v17 v18 : AV} {H : Heap} {σ : Type} (s0 : σ) (f18 : σ → AV) (TH : σ → Heap) (pre : σ → Prop) (μ : σ → Nat)
    (h0 : pre s0 ∧ AV.wk v18 (f18 s0) ∧ Heap.le (TH s0) H)
    (round : ∀ s, pre s → ∀ q, TH s q = none → B58_0 K (fun w18 H' => ∃ s', pre s' ∧ μ s' < μ s ∧ AV.wk w18 (f18 s') ∧ Heap.le (TH s') H') v1 v16 v17 (f18 s) ((TH s).set q [])) :
    L58_0 K v1 v16 v17 v18 H := by
  unfold L58_0
  exact LoopV.mkG s0 (fun s => [f18 s]) TH pre μ (fun _ => rfl) (Eq.mp (by kernel_rfl) h0) (fun s hs q hq => Eq.mp (by kernel_rfl) (round s hs q hq))
/-- (*loop.example/g00649/spec.l1Cur).pick -/
def D67 : Info := ⟨20, fun i => ([], []), fun i => ([], [])⟩
def W67 (v0 : AV) (v1 : AV) (H : Heap) (K : AV → Heap → Prop) : Prop :=
 binV tab .leq 3 v1 (AV.p (.int .i64 1)) fun v7 =>
 condV v7 (K (AV.p (.int .i64 0)) H)
 (CallT Try.prog 135 [v0] H fun v9 H1 =>
 binV tab .gtr 3 v1 (AV.p (.int .i64 200)) fun v11 =>
 condV v11 (binV tab .mul 3 v9 (AV.p (.int .i64 256)) fun v13 =>
 CallT Try.prog 135 [v0] H1 fun v15 H2 =>
 binV tab .add 3 v13 v15 fun v16 =>
 binV tab .rem 3 v16 v1 fun v19 =>
 K v19 H2)
 (binV tab .rem 3 v9 v1 fun v19 =>
 K v19 H1))
theorem W67_wp (v0 : AV) (v1 : AV) (H : Heap) (K : AV → Heap → Prop) : wpC Try.prog tab D67 (bodyOf Try.f67) (retF tab [.tmp 4] K) (nthA [v0, v1]) H = W67 v0 v1 H K := by kernel_rfl
theorem W67_ok {v0 v1 : AV} {H : Heap} {K : AV → Heap → Prop} (h : W67 v0 v1 H K) : CallT Try.prog 67 [v0, v1] H K :=
  CallT.of_wp (D := D67) tab_ok mixed Try.func67 (c := bodyOf Try.f67) (by kernel_rfl) rfl (by kernel_rfl) (rs := #[.tmp 4]) rfl (by decide +kernel) (by kernel_rfl) (W67_wp v0 v1 H K) h
theorem W67_hb : HasBody Try.prog 67 := ⟨_, bodyOf Try.f67, Try.func67, by kernel_rfl, rfl⟩
/-- loop.example/g00649/spec.l1In -/
def D75 : Info := ⟨15, fun i => ([], []), fun i => ([], [])⟩
def W75 (v0 : AV) (v1 : AV) (v2 : AV) (H : Heap) (K : AV → Heap → Prop) : Prop :=
 binV tab .geq 3 v0 v1 fun v9 =>
 grdV v9 true (binV tab .leq 3 v0 v2 fun v13 =>
 K v13 H)
 (K (AV.p (.bool false)) H)
theorem W75_wp (v0 : AV) (v1 : AV) (v2 : AV) (H : Heap) (K : AV → Heap → Prop) : wpC Try.prog tab D75 (bodyOf Try.f75) (retF tab [.tmp 6] K) (nthA [v0, v1, v2]) H = W75 v0 v1 v2 H K := by kernel_rfl
theorem W75_ok {v0 v1 v2 : AV} {H : Heap} {K : AV → Heap → Prop} (h : W75 v0 v1 v2 H K) : CallT Try.prog 75 [v0, v1, v2] H K :=
  CallT.of_wp (D := D75) tab_ok mixed Try.func75 (c := bodyOf Try.f75) (by kernel_rfl) rfl (by kernel_rfl) (rs := #[.tmp 6]) rfl (by decide +kernel) (by kernel_rfl) (W75_wp v0 v1 v2 H K) h
theorem W75_hb : HasBody Try.prog 75 := ⟨_, bodyOf Try.f75, Try.func75, by kernel_rfl, rfl⟩
/-- loop.example/g00649/spec.l1All -/
def D76 : Info := ⟨21, fun i => ([], []), fun i => if i = 2 then ([1, 2, 9, 10], [11]) else ([], [])⟩
def L76_0 (K : AV → Heap → Prop) (v1 : AV) (v2 : AV) (v9 : AV) (v10 : AV) (v11 : AV) (H : Heap) : Prop := LoopV (wpC Try.prog tab D76 (cAt [1, 0, 1, 0, 0] (bodyOf Try.f76))) [1, 2, 9, 10] (PostF.block 0 (PostF.thenA (wpC Try.prog tab D76 (cAt [1, 1] (bodyOf Try.f76))) (retF tab [.tmp 6] K))) [11] [AV.any, v1, v2, AV.any, AV.any, AV.any, AV.any, AV.any, AV.any, v9, v10, v11, AV.any, AV.any, AV.any, AV.any, AV.any, AV.any, AV.any, AV.any, AV.any] H
def B76_0 (K : AV → Heap → Prop) (N1 : AV → Heap → Prop) (v1 : AV) (v2 : AV) (v9 : AV) (v10 : AV) (v11 : AV) (H : Heap) : Prop :=
 binV tab .lss 3 v11 v10 fun v12 =>
 condV v12 (indexAddrV tab 24 v9 v11 fun v13 =>
 loadV tab 3 v13 H fun v14 =>
 CallT Try.prog 75 [v14, v1, v2] H fun v18 H1 =>
 unV .not v18 fun v19 =>
 condV v19 (K (AV.p (.bool false)) H1)
 (binV tab .add 3 v11 (AV.p (.int .i64 1)) fun v20 =>
 N1 v20 H1))
 (K (AV.p (.bool true)) H)
def W76 (v0 : AV) (v1 : AV) (v2 : AV) (H : Heap) (K : AV → Heap → Prop) : Prop :=
 lenV tab 24 v0 fun v10 =>
 L76_0 K v1 v2 v0 v10 (AV.p (.int .i64 0)) H
theorem W76_wp (v0 : AV) (v1 : AV) (v2 : AV) (H : Heap) (K : AV → Heap → Prop) : wpC Try.prog tab D76 (bodyOf Try.f76) (retF tab [.tmp 6] K) (nthA [v0, v1, v2]) H = W76 v0 v1 v2 H K := by kernel_rfl
theorem W76_ok {v0 v1 v2 : AV} {H : Heap} {K : AV → Heap → Prop} (h : W76 v0 v1 v2 H K) : CallT Try.prog 76 [v0, v1, v2] H K :=
  CallT.of_wp (D := D76) tab_ok mixed Try.func76 (c := bodyOf Try.f76) (by kernel_rfl) rfl (by kernel_rfl) (rs := #[.tmp 6]) rfl (by decide +kernel) (by kernel_rfl) (W76_wp v0 v1 v2 H K) h
theorem W76_hb : HasBody Try.prog 76 := ⟨_, bodyOf Try.f76, Try.func76, by kernel_rfl, rfl⟩
theorem L76_0_rule {K : AV → Heap → Prop} {v1 v2 v9 v10 v11 : AV} {H : Heap} {σ : Type} (s0 : σ) (f11 : σ → AV) (TH : σ → Heap) (pre : σ → Prop) (μ : σ → Nat)
    (h0 : pre s0 ∧ AV.wk v11 (f11 s0) ∧ Heap.le (TH s0) H)
    (round : ∀ s, pre s → B76_0 K (fun w11 H' => ∃ s', pre s' ∧ μ s' < μ s ∧ AV.wk w11 (f11 s') ∧ Heap.le (TH s') H') v1 v2 v9 v10 (f11 s) (TH s)) :
    L76_0 K v1 v2 v9 v10 v11 H := by
  unfold L76_0
  exact LoopV.mk s0 (fun s => [f11 s]) TH pre μ (fun _ => rfl) (Eq.mp (by kernel_rfl) h0) (fun s hs => Eq.mp (by kernel_rfl) (round s hs))
theorem L76_0_ruleG {K : AV → Heap → Prop} {v1 v2 v9 v10 v11 : AV} {H : Heap} {σ : Type} (s0 : σ) (f11 : σ → AV) (TH : σ → Heap) (pre : σ → Prop) (μ : σ → Nat)
    (h0 : pre s0 ∧ AV.wk v11 (f11 s0) ∧ Heap.le (TH s0) H)
    (round : ∀ s, pre s → ∀ q, TH s q = none → B76_0 K (fun w11 H' => ∃ s', pre s' ∧ μ s' < μ s ∧ AV.wk w11 (f11 s') ∧ Heap.le (TH s') H') v1 v2 v9 v10 (f11 s) ((TH s).set q [])) :
    L76_0 K v1 v2 v9 v10 v11 H := by
  unfold L76_0
  exact LoopV.mkG s0 (fun s => [f11 s]) TH pre μ (fun _ => rfl) (Eq.mp (by kernel_rfl) h0) (fun s hs q hq => Eq.mp (by kernel_rfl) (round s hs q hq))
end Go.Proofs.Ytjbdahlhphdalaa
