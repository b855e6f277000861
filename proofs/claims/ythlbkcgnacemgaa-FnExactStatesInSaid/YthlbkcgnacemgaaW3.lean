/- What each function's code is asked for, as a formula. Written by wgen.py (a program of this session's) out of Lean's print of the program. -/
import Derived.KernelRfl
import Derived.Test.YthlbkcgnacemgaaTab
import Derived.Test.YthlbkcgnacemgaaSepC
namespace Go.Proofs.Ythlbkcgnacemgaa
open Go Go.Sep
set_option linter.unusedVariables false
attribute [local irreducible] wpC headF
/-- loop.example/g00649/laws.FnExactStatesIn -/
def D6 : Info := ⟨124, fun i => if i = 8 then ([[], [0], [], [0, 1, 2], [], [0, 1, 2, 3, 4], [0, 1, 2, 3, 4, 5], [0, 1, 2, 3, 4, 5, 6], [0, 1, 2, 3, 4, 5, 6], [0, 1, 2, 3, 4, 5, 6, 7], [0, 1, 2, 3, 4, 5, 6, 7, 8, 9]], [(0, []), (2, []), (4, []), (1, [2]), (3, []), (5, []), (6, []), (7, []), (8, []), (9, []), (10, [])]) else if i = 14 then ([[], [], [1], [0, 1, 2], [0, 1, 2, 3]], [(0, []), (1, []), (2, [0]), (3, []), (4, [])]) else if i = 16 then ([[], [], [1], [0, 1, 2], [0, 1, 2, 3]], [(0, []), (1, []), (2, [0]), (3, []), (4, [])]) else if i = 31 then ([[], [0], [], [0, 1, 2], [], [0, 1, 2, 3, 4], [0, 1, 2, 3, 4, 5], [0, 1, 2, 3, 4, 5, 6], [0, 1, 2, 3, 4, 5, 6], [0, 1, 2, 3, 4, 5, 6, 7], [0, 1, 2, 3, 4, 5, 6, 7, 8, 9]], [(0, []), (2, []), (4, []), (1, [2]), (3, []), (5, []), (6, []), (7, []), (8, []), (9, []), (10, [])]) else ([], []), fun i => ([], [])⟩
def W6 (v0 : AV) (v1 : AV) (v2 : AV) (H : Heap) (K : AV → Heap → Prop) : Prop :=
 boxV v0 H fun v3 H1 =>
 boxV v1 H1 fun v4 H2 =>
 loadV tab 25 v3 H2 fun v19 =>
 CallT Try.prog 7 [v19, (AV.p (.int .i64 1048576))] H2 fun v21 H3 =>
 binV tab .lss 3 v21 (AV.p (.int .i64 0)) fun v23 =>
 condV v23 (K (AV.p (.bool true)) H3)
 (loadV tab 28 v4 H3 fun v24 =>
 CallT Try.prog 8 [v24, v21] H3 fun v26 H4 =>
 binV tab .lss 3 v26 (AV.p (.int .i64 0)) fun v28 =>
 condV v28 (K (AV.p (.bool true)) H4)
 (loadV tab 25 v3 H4 fun v30 =>
 loadV tab 28 v4 H4 fun v32 =>
 CallT Try.prog 10 [v30] H4 fun v31 H5 =>
 (loadV tab 28 v4 H5 fun v9032 =>
 v32 = v9032) ∧
 CallT Try.prog 11 [v32] H5 fun v33 H6 =>
 CallT Try.prog 19 [v31, v33, v2] H6 fun v35 H7 =>
 extractV v35 0 fun v36 =>
 extractV v35 1 fun v37 =>
 loadV tab 25 v3 H7 fun v38 =>
 CallT Try.prog 10 [v38] H7 fun v39 H8 =>
 allocV tab 35 H8 fun v10 H9 =>
 storeV tab 35 v10 v39 H9 fun H10 =>
 loadV tab 28 v4 H10 fun v40 =>
 CallT Try.prog 11 [v40] H10 fun v41 H11 =>
 allocV tab 37 H11 fun v11 H12 =>
 storeV tab 37 v11 v41 H12 fun H13 =>
 loadV tab 35 v10 H13 fun v43 =>
 loadV tab 37 v11 H13 fun v44 =>
 CallT Try.prog 20 [v43, v44, v2] H13 fun v46 H14 =>
 extractV v46 0 fun v47 =>
 extractV v46 1 fun v48 =>
 CallT Try.prog 21 [v47, v36] H14 fun v51 H15 =>
 unV .not v51 fun v52 =>
 grdV v52 false (binV tab .neq 4 v48 v37 fun v56 =>
 condV v56 (K (AV.p (.bool false)) H15)
 (loadV tab 35 v10 H15 fun v58 =>
 loadV tab 25 v3 H15 fun v59 =>
 CallT Try.prog 10 [v59] H15 fun v60 H16 =>
 (loadV tab 35 v10 H16 fun v9058 =>
 v58 = v9058) ∧
 CallT Try.prog 13 [v58, v60] H16 fun v61 H17 =>
 unV .not v61 fun v62 =>
 condV v62 (K (AV.p (.bool false)) H17)
 (loadV tab 37 v11 H17 fun v63 =>
 loadV tab 28 v4 H17 fun v64 =>
 CallT Try.prog 11 [v64] H17 fun v65 H18 =>
 (loadV tab 37 v11 H18 fun v9063 =>
 v63 = v9063) ∧
 CallT Try.prog 14 [v63, v65] H18 fun v66 H19 =>
 unV .not v66 fun v67 =>
 condV v67 (K (AV.p (.bool false)) H19)
 (loadV tab 35 v10 H19 fun v68 =>
 CallT Try.prog 22 [v68, (AV.p (.int .i64 1))] H19 fun v70 H20 =>
 loadV tab 37 v11 H20 fun v71 =>
 CallT Try.prog 23 [v71, v70] H20 fun v73 H21 =>
 binV tab .lss 3 v73 (AV.p (.int .i64 0)) fun v75 =>
 grdV v75 false (CallT Try.prog 21 [v47, v36] H21 fun v79 H22 =>
 unV .not v79 fun v80 =>
 grdV v80 false (binV tab .neq 4 v48 v37 fun v85 =>
 condV v85 (K (AV.p (.bool false)) H22)
 (CallT Try.prog 24 [v47, (AV.p (.int .i64 1))] H22 fun v89 H23 =>
 CallT Try.prog 25 [v47, (AV.p (.int .i64 1))] H23 fun v92 H24 =>
 binV tab .lss 3 v92 (AV.p (.int .i64 0)) fun v94 =>
 condV v94 (K (AV.p (.bool false)) H24)
 (binV tab .neq 3 v92 v89 fun v97 =>
 condV v97 (K (AV.p (.bool false)) H24)
 (loadV tab 25 v3 H24 fun v99 =>
 loadV tab 28 v4 H24 fun v101 =>
 CallT Try.prog 10 [v99] H24 fun v100 H25 =>
 (loadV tab 28 v4 H25 fun v9101 =>
 v101 = v9101) ∧
 CallT Try.prog 11 [v101] H25 fun v102 H26 =>
 CallT Try.prog 20 [v100, v102, v2] H26 fun v104 H27 =>
 extractV v104 0 fun v105 =>
 extractV v104 1 fun v106 =>
 CallT Try.prog 21 [v105, v36] H27 fun v109 H28 =>
 unV .not v109 fun v110 =>
 grdV v110 false (binV tab .neq 4 v106 v37 fun v114 =>
 condV v114 (K (AV.p (.bool false)) H28)
 (CallT Try.prog 25 [v47, (AV.p (.int .i64 1))] H28 fun v118 H29 =>
 binV tab .lss 3 v118 (AV.p (.int .i64 0)) fun v120 =>
 condV v120 (K (AV.p (.bool false)) H29)
 (binV tab .neq 3 v118 v89 fun v123 =>
 condV v123 (K (AV.p (.bool false)) H29)
 (K (AV.p (.bool true)) H29))))
 (K (AV.p (.bool false)) H28)))))
 (K (AV.p (.bool false)) H22))
 (K (AV.p (.bool false)) H21)))))
 (K (AV.p (.bool false)) H15)))
theorem W6_wp (v0 : AV) (v1 : AV) (v2 : AV) (H : Heap) (K : AV → Heap → Prop) : wpC Try.prog tab D6 (bodyOf Try.f6) (retF tab [.tmp 6] K) (nthA [v0, v1, v2]) H = W6 v0 v1 v2 H K := by kernel_rfl
theorem W6_ok {v0 v1 v2 : AV} {H : Heap} {K : AV → Heap → Prop} (h : W6 v0 v1 v2 H K) : CallT Try.prog 6 [v0, v1, v2] H K :=
  CallT.of_wp (D := D6) tab_ok mixed Try.func6 (c := bodyOf Try.f6) (by kernel_rfl) rfl (by kernel_rfl) (rs := #[.tmp 6]) rfl (by decide +kernel) (by kernel_rfl) (W6_wp v0 v1 v2 H K) h
theorem W6_hb : HasBody Try.prog 6 := ⟨_, bodyOf Try.f6, Try.func6, by kernel_rfl, rfl⟩
/-- loop.example/g00649/spec.StatesIn -/
def D19 : Info := ⟨23, fun i => ([], []), fun i => ([], [])⟩
def W19 (v0 : AV) (v1 : AV) (v2 : AV) (H : Heap) (K : AV → Heap → Prop) : Prop :=
 boxV v0 H fun v3 H1 =>
 boxV v1 H1 fun v4 H2 =>
 loadV tab 35 v3 H2 fun v8 =>
 loadV tab 37 v4 H2 fun v9 =>
 CallT Try.prog 9 [v8, v9] H2 fun v10 H3 =>
 unV .not v10 fun v11 =>
 grdV v11 false (loadV tab 37 v4 H3 fun v14 =>
 CallT Try.prog 41 [v14] H3 fun v15 H4 =>
 binV tab .sub 3 v15 (AV.p (.int .i64 1)) fun v16 =>
 CallT Try.prog 31 [v2, (AV.p (.int .i64 0)), v16] H4 fun v17 H5 =>
 unV .not v17 fun v18 =>
 condV v18 (K (.tup [(AV.p .nil), (AV.p (.bool false))]) H5)
 (loadV tab 37 v4 H5 fun v20 =>
 CallT Try.prog 43 [v20, v2] H5 fun v22 H6 =>
 K (.tup [v22, (AV.p (.bool true))]) H6))
 (K (.tup [(AV.p .nil), (AV.p (.bool false))]) H3)
theorem W19_wp (v0 : AV) (v1 : AV) (v2 : AV) (H : Heap) (K : AV → Heap → Prop) : wpC Try.prog tab D19 (bodyOf Try.f19) (retF tab [.tmp 6, .tmp 7] K) (nthA [v0, v1, v2]) H = W19 v0 v1 v2 H K := by kernel_rfl
theorem W19_ok {v0 v1 v2 : AV} {H : Heap} {K : AV → Heap → Prop} (h : W19 v0 v1 v2 H K) : CallT Try.prog 19 [v0, v1, v2] H K :=
  CallT.of_wp (D := D19) tab_ok mixed Try.func19 (c := bodyOf Try.f19) (by kernel_rfl) rfl (by kernel_rfl) (rs := #[.tmp 6, .tmp 7]) rfl (by decide +kernel) (by kernel_rfl) (W19_wp v0 v1 v2 H K) h
theorem W19_hb : HasBody Try.prog 19 := ⟨_, bodyOf Try.f19, Try.func19, by kernel_rfl, rfl⟩
/-- loop.example/g00649/impl.StatesIn -/
def D20 : Info := ⟨16, fun i => ([], []), fun i => ([], [])⟩
def W20 (v0 : AV) (v1 : AV) (v2 : AV) (H : Heap) (K : AV → Heap → Prop) : Prop :=
 boxV v0 H fun v3 H1 =>
 boxV v1 H1 fun v4 H2 =>
 loadV tab 35 v3 H2 fun v8 =>
 loadV tab 37 v4 H2 fun v9 =>
 CallT Try.prog 44 [v8, v9, v2] H2 fun v11 H3 =>
 unV .not v11 fun v12 =>
 condV v12 (K (.tup [(AV.p .nil), (AV.p (.bool false))]) H3)
 (loadV tab 37 v4 H3 fun v13 =>
 CallT Try.prog 45 [v13, v2] H3 fun v15 H4 =>
 K (.tup [v15, (AV.p (.bool true))]) H4)
theorem W20_wp (v0 : AV) (v1 : AV) (v2 : AV) (H : Heap) (K : AV → Heap → Prop) : wpC Try.prog tab D20 (bodyOf Try.f20) (retF tab [.tmp 6, .tmp 7] K) (nthA [v0, v1, v2]) H = W20 v0 v1 v2 H K := by kernel_rfl
theorem W20_ok {v0 v1 v2 : AV} {H : Heap} {K : AV → Heap → Prop} (h : W20 v0 v1 v2 H K) : CallT Try.prog 20 [v0, v1, v2] H K :=
  CallT.of_wp (D := D20) tab_ok mixed Try.func20 (c := bodyOf Try.f20) (by kernel_rfl) rfl (by kernel_rfl) (rs := #[.tmp 6, .tmp 7]) rfl (by decide +kernel) (by kernel_rfl) (W20_wp v0 v1 v2 H K) h
theorem W20_hb : HasBody Try.prog 20 := ⟨_, bodyOf Try.f20, Try.func20, by kernel_rfl, rfl⟩
/-- loop.example/g00649/laws.markProgram -/
def D22 : Info := ⟨14, fun i => ([], []), fun i => ([], [])⟩
def W22 (v0 : AV) (v1 : AV) (H : Heap) (K : AV → Heap → Prop) : Prop :=
 boxV v0 H fun v2 H1 =>
 fieldAddrV tab 35 v2 2 fun v5 =>
 loadV tab 32 v5 H1 fun v6 =>
 CallT Try.prog 46 [v6, v1] H1 fun v8 H2 =>
 fieldAddrV tab 35 v2 3 fun v9 =>
 loadV tab 33 v9 H2 fun v10 =>
 CallT Try.prog 47 [v10, v8] H2 fun v12 H3 =>
 K v12 H3
theorem W22_wp (v0 : AV) (v1 : AV) (H : Heap) (K : AV → Heap → Prop) : wpC Try.prog tab D22 (bodyOf Try.f22) (retF tab [.tmp 4] K) (nthA [v0, v1]) H = W22 v0 v1 H K := by kernel_rfl
theorem W22_ok {v0 v1 : AV} {H : Heap} {K : AV → Heap → Prop} (h : W22 v0 v1 H K) : CallT Try.prog 22 [v0, v1] H K :=
  CallT.of_wp (D := D22) tab_ok mixed Try.func22 (c := bodyOf Try.f22) (by kernel_rfl) rfl (by kernel_rfl) (rs := #[.tmp 4]) rfl (by decide +kernel) (by kernel_rfl) (W22_wp v0 v1 H K) h
theorem W22_hb : HasBody Try.prog 22 := ⟨_, bodyOf Try.f22, Try.func22, by kernel_rfl, rfl⟩
/-- loop.example/g00649/laws.markSight -/
def D23 : Info := ⟨10, fun i => ([], []), fun i => ([], [])⟩
def W23 (v0 : AV) (v1 : AV) (H : Heap) (K : AV → Heap → Prop) : Prop :=
 boxV v0 H fun v2 H1 =>
 fieldAddrV tab 37 v2 0 fun v5 =>
 loadV tab 26 v5 H1 fun v6 =>
 CallT Try.prog 24 [v6, v1] H1 fun v8 H2 =>
 K v8 H2
theorem W23_wp (v0 : AV) (v1 : AV) (H : Heap) (K : AV → Heap → Prop) : wpC Try.prog tab D23 (bodyOf Try.f23) (retF tab [.tmp 4] K) (nthA [v0, v1]) H = W23 v0 v1 H K := by kernel_rfl
theorem W23_ok {v0 v1 : AV} {H : Heap} {K : AV → Heap → Prop} (h : W23 v0 v1 H K) : CallT Try.prog 23 [v0, v1] H K :=
  CallT.of_wp (D := D23) tab_ok mixed Try.func23 (c := bodyOf Try.f23) (by kernel_rfl) rfl (by kernel_rfl) (rs := #[.tmp 4]) rfl (by decide +kernel) (by kernel_rfl) (W23_wp v0 v1 H K) h
theorem W23_hb : HasBody Try.prog 23 := ⟨_, bodyOf Try.f23, Try.func23, by kernel_rfl, rfl⟩
/-- loop.example/g00649/laws.markIntS -/
def D24 : Info := ⟨19, fun i => ([], []), fun i => if i = 2 then ([0], [1, 5]) else ([], [])⟩
def L24_0 (K : AV → Heap → Prop) (v0 : AV) (v1 : AV) (v5 : AV) (H : Heap) : Prop := LoopV (wpC Try.prog tab D24 (cAt [1, 0, 1, 0, 0] (bodyOf Try.f24))) [0] (PostF.block 0 (PostF.thenA (wpC Try.prog tab D24 (cAt [1, 1] (bodyOf Try.f24))) (retF tab [.tmp 4] K))) [1, 5] [v0, v1, AV.any, AV.any, AV.any, v5, AV.any, AV.any, AV.any, AV.any, AV.any, AV.any, AV.any, AV.any, AV.any, AV.any, AV.any, AV.any, AV.any] H
def B24_0 (K : AV → Heap → Prop) (N1 : AV → AV → Heap → Prop) (v0 : AV) (v1 : AV) (v5 : AV) (H : Heap) : Prop :=
 lenV tab 26 v0 fun v8 =>
 binV tab .lss 3 v5 v8 fun v9 =>
 condV v9 (indexAddrV tab 26 v0 v5 fun v15 =>
 storeV tab 3 v15 v1 H fun H1 =>
 binV tab .add 3 v1 (AV.p (.int .i64 1)) fun v17 =>
 binV tab .add 3 v5 (AV.p (.int .i64 1)) fun v11 =>
 N1 v17 v11 H1)
 (K v1 H)
def W24 (v0 : AV) (v1 : AV) (H : Heap) (K : AV → Heap → Prop) : Prop :=
 L24_0 K v0 v1 (AV.p (.int .i64 0)) H
theorem W24_wp (v0 : AV) (v1 : AV) (H : Heap) (K : AV → Heap → Prop) : wpC Try.prog tab D24 (bodyOf Try.f24) (retF tab [.tmp 4] K) (nthA [v0, v1]) H = W24 v0 v1 H K := by kernel_rfl
theorem W24_ok {v0 v1 : AV} {H : Heap} {K : AV → Heap → Prop} (h : W24 v0 v1 H K) : CallT Try.prog 24 [v0, v1] H K :=
  CallT.of_wp (D := D24) tab_ok mixed Try.func24 (c := bodyOf Try.f24) (by kernel_rfl) rfl (by kernel_rfl) (rs := #[.tmp 4]) rfl (by decide +kernel) (by kernel_rfl) (W24_wp v0 v1 H K) h
theorem W24_hb : HasBody Try.prog 24 := ⟨_, bodyOf Try.f24, Try.func24, by kernel_rfl, rfl⟩
theorem L24_0_rule {K : AV → Heap → Prop} {v0 v1 v5 : AV} {H : Heap} {σ : Type} (s0 : σ) (f1 : σ → AV) (f5 : σ → AV) (TH : σ → Heap) (pre : σ → Prop) (μ : σ → Nat)
    (h0 : pre s0 ∧ AV.wk v1 (f1 s0) ∧ AV.wk v5 (f5 s0) ∧ Heap.le (TH s0) H)
    (round : ∀ s, pre s → B24_0 K (fun w1 w5 H' => ∃ s', pre s' ∧ μ s' < μ s ∧ AV.wk w1 (f1 s') ∧ AV.wk w5 (f5 s') ∧ Heap.le (TH s') H') v0 (f1 s) (f5 s) (TH s)) :
    L24_0 K v0 v1 v5 H := by
  unfold L24_0
  exact LoopV.mk s0 (fun s => [f1 s, f5 s]) TH pre μ (fun _ => rfl) (Eq.mp (by kernel_rfl) h0) (fun s hs => Eq.mp (by kernel_rfl) (round s hs))
theorem L24_0_ruleG {K : AV → Heap → Prop} {v0 v1 v5 : AV} {H : Heap} {σ : Type} (s0 : σ) (f1 : σ → AV) (f5 : σ → AV) (TH : σ → Heap) (pre : σ → Prop) (μ : σ → Nat)
    (h0 : pre s0 ∧ AV.wk v1 (f1 s0) ∧ AV.wk v5 (f5 s0) ∧ Heap.le (TH s0) H)
    (round : ∀ s, pre s → ∀ q, TH s q = none → B24_0 K (fun w1 w5 H' => ∃ s', pre s' ∧ μ s' < μ s ∧ AV.wk w1 (f1 s') ∧ AV.wk w5 (f5 s') ∧ Heap.le (TH s') H') v0 (f1 s) (f5 s) ((TH s).set q [])) :
    L24_0 K v0 v1 v5 H := by
  unfold L24_0
  exact LoopV.mkG s0 (fun s => [f1 s, f5 s]) TH pre μ (fun _ => rfl) (Eq.mp (by kernel_rfl) h0) (fun s hs q hq => Eq.mp (by kernel_rfl) (round s hs q hq))
/-- loop.example/g00649/laws.heldIntS -/
def D25 : Info := ⟨21, fun i => ([], []), fun i => if i = 2 then ([0], [1, 5]) else ([], [])⟩
def L25_0 (K : AV → Heap → Prop) (v0 : AV) (v1 : AV) (v5 : AV) (H : Heap) : Prop := LoopV (wpC Try.prog tab D25 (cAt [1, 0, 1, 0, 0] (bodyOf Try.f25))) [0] (PostF.block 0 (PostF.thenA (wpC Try.prog tab D25 (cAt [1, 1] (bodyOf Try.f25))) (retF tab [.tmp 4] K))) [1, 5] [v0, v1, AV.any, AV.any, AV.any, v5, AV.any, AV.any, AV.any, AV.any, AV.any, AV.any, AV.any, AV.any, AV.any, AV.any, AV.any, AV.any, AV.any, AV.any, AV.any] H
def B25_0 (K : AV → Heap → Prop) (N1 : AV → AV → Heap → Prop) (v0 : AV) (v1 : AV) (v5 : AV) (H : Heap) : Prop :=
 lenV tab 26 v0 fun v8 =>
 binV tab .lss 3 v5 v8 fun v9 =>
 condV v9 (indexAddrV tab 26 v0 v5 fun v14 =>
 loadV tab 3 v14 H fun v15 =>
 binV tab .neq 3 v15 v1 fun v17 =>
 condV v17 (K (AV.p (.int .i64 (-1))) H)
 (binV tab .add 3 v1 (AV.p (.int .i64 1)) fun v19 =>
 binV tab .add 3 v5 (AV.p (.int .i64 1)) fun v11 =>
 N1 v19 v11 H))
 (K v1 H)
def W25 (v0 : AV) (v1 : AV) (H : Heap) (K : AV → Heap → Prop) : Prop :=
 L25_0 K v0 v1 (AV.p (.int .i64 0)) H
theorem W25_wp (v0 : AV) (v1 : AV) (H : Heap) (K : AV → Heap → Prop) : wpC Try.prog tab D25 (bodyOf Try.f25) (retF tab [.tmp 4] K) (nthA [v0, v1]) H = W25 v0 v1 H K := by kernel_rfl
theorem W25_ok {v0 v1 : AV} {H : Heap} {K : AV → Heap → Prop} (h : W25 v0 v1 H K) : CallT Try.prog 25 [v0, v1] H K :=
  CallT.of_wp (D := D25) tab_ok mixed Try.func25 (c := bodyOf Try.f25) (by kernel_rfl) rfl (by kernel_rfl) (rs := #[.tmp 4]) rfl (by decide +kernel) (by kernel_rfl) (W25_wp v0 v1 H K) h
theorem W25_hb : HasBody Try.prog 25 := ⟨_, bodyOf Try.f25, Try.func25, by kernel_rfl, rfl⟩
theorem L25_0_rule {K : AV → Heap → Prop} {v0 v1 v5 : AV} {H : Heap} {σ : Type} (s0 : σ) (f1 : σ → AV) (f5 : σ → AV) (TH : σ → Heap) (pre : σ → Prop) (μ : σ → Nat)
    (h0 : pre s0 ∧ AV.wk v1 (f1 s0) ∧ AV.wk v5 (f5 s0) ∧ Heap.le (TH s0) H)
    (round : ∀ s, pre s → B25_0 K (fun w1 w5 H' => ∃ s', pre s' ∧ μ s' < μ s ∧ AV.wk w1 (f1 s') ∧ AV.wk w5 (f5 s') ∧ Heap.le (TH s') H') v0 (f1 s) (f5 s) (TH s)) :
    L25_0 K v0 v1 v5 H := by
  unfold L25_0
  exact LoopV.mk s0 (fun s => [f1 s, f5 s]) TH pre μ (fun _ => rfl) (Eq.mp (by kernel_rfl) h0) (fun s hs => Eq.mp (by kernel_rfl) (round s hs))
theorem L25_0_ruleG {K : AV → Heap → Prop} {v0 v1 v5 : AV} {H : Heap} {σ : Type} (s0 : σ) (f1 : σ → AV) (f5 : σ → AV) (TH : σ → Heap) (pre : σ → Prop) (μ : σ → Nat)
    (h0 : pre s0 ∧ AV.wk v1 (f1 s0) ∧ AV.wk v5 (f5 s0) ∧ Heap.le (TH s0) H)
    (round : ∀ s, pre s → ∀ q, TH s q = none → B25_0 K (fun w1 w5 H' => ∃ s', pre s' ∧ μ s' < μ s ∧ AV.wk w1 (f1 s') ∧ AV.wk w5 (f5 s') ∧ Heap.le (TH s') H') v0 (f1 s) (f5 s) ((TH s).set q [])) :
    L25_0 K v0 v1 v5 H := by
  unfold L25_0
  exact LoopV.mkG s0 (fun s => [f1 s, f5 s]) TH pre μ (fun _ => rfl) (Eq.mp (by kernel_rfl) h0) (fun s hs q hq => Eq.mp (by kernel_rfl) (round s hs q hq))
/-- loop.example/g00649/spec.l15In -/
def D43 : Info := ⟨25, fun i => ([], []), fun i => if i = 3 then ([1, 9, 10], [5, 11]) else ([], [])⟩
def L43_0 (K : AV → Heap → Prop) (v1 : AV) (v5 : AV) (v9 : AV) (v10 : AV) (v11 : AV) (H : Heap) : Prop := LoopV (wpC Try.prog tab D43 (cAt [1, 1, 0, 1, 0, 0] (bodyOf Try.f43))) [1, 9, 10] (PostF.block 0 (PostF.thenA (wpC Try.prog tab D43 (cAt [1, 1, 1] (bodyOf Try.f43))) (retF tab [.tmp 4] K))) [5, 11] [AV.any, v1, AV.any, AV.any, AV.any, v5, AV.any, AV.any, AV.any, v9, v10, v11, AV.any, AV.any, AV.any, AV.any, AV.any, AV.any, AV.any, AV.any, AV.any, AV.any, AV.any, AV.any, AV.any] H
def B43_0 (K : AV → Heap → Prop) (N1 : AV → AV → Heap → Prop) (v1 : AV) (v5 : AV) (v9 : AV) (v10 : AV) (v11 : AV) (H : Heap) : Prop :=
 binV tab .lss 3 v11 v10 fun v12 =>
 condV v12 (indexAddrV tab 26 v9 v11 fun v14 =>
 loadV tab 3 v14 H fun v15 =>
 binV tab .eql 3 v15 v1 fun v18 =>
 condV v18 (buildSliceV tab 26 1 [(0, v11)] H (wkK fun v21 H2 =>
 appendV tab 26 26 v5 v21 H2 (wkK fun v22 H3 =>
 binV tab .add 3 v11 (AV.p (.int .i64 1)) fun v23 =>
 N1 v22 v23 H3)))
 (binV tab .add 3 v11 (AV.p (.int .i64 1)) fun v23 =>
 N1 v5 v23 H))
 (K v5 H)
def W43 (v0 : AV) (v1 : AV) (H : Heap) (K : AV → Heap → Prop) : Prop :=
 boxV v0 H fun v2 H1 =>
 fieldAddrV tab 37 v2 0 fun v8 =>
 loadV tab 26 v8 H1 fun v9 =>
 lenV tab 26 v9 fun v10 =>
 L43_0 K v1 (AV.p .nil) v9 v10 (AV.p (.int .i64 0)) H1
theorem W43_wp (v0 : AV) (v1 : AV) (H : Heap) (K : AV → Heap → Prop) : wpC Try.prog tab D43 (bodyOf Try.f43) (retF tab [.tmp 4] K) (nthA [v0, v1]) H = W43 v0 v1 H K := by kernel_rfl
theorem W43_ok {v0 v1 : AV} {H : Heap} {K : AV → Heap → Prop} (h : W43 v0 v1 H K) : CallT Try.prog 43 [v0, v1] H K :=
  CallT.of_wp (D := D43) tab_ok mixed Try.func43 (c := bodyOf Try.f43) (by kernel_rfl) rfl (by kernel_rfl) (rs := #[.tmp 4]) rfl (by decide +kernel) (by kernel_rfl) (W43_wp v0 v1 H K) h
theorem W43_hb : HasBody Try.prog 43 := ⟨_, bodyOf Try.f43, Try.func43, by kernel_rfl, rfl⟩
theorem L43_0_rule {K : AV → Heap → Prop} {v1 v5 v9 v10 v11 : AV} {H : Heap} {σ : Type} (s0 : σ) (f5 : σ → AV) (f11 : σ → AV) (TH : σ → Heap) (pre : σ → Prop) (μ : σ → Nat)
    (h0 : pre s0 ∧ AV.wk v5 (f5 s0) ∧ AV.wk v11 (f11 s0) ∧ Heap.le (TH s0) H)
    (round : ∀ s, pre s → B43_0 K (fun w5 w11 H' => ∃ s', pre s' ∧ μ s' < μ s ∧ AV.wk w5 (f5 s') ∧ AV.wk w11 (f11 s') ∧ Heap.le (TH s') H') v1 (f5 s) v9 v10 (f11 s) (TH s)) :
    L43_0 K v1 v5 v9 v10 v11 H := by
  unfold L43_0
  exact LoopV.mk s0 (fun s => [f5 s, f11 s]) TH pre μ (fun _ => rfl) (Eq.mp (by kernel_rfl) h0) (fun s hs => Eq.mp (by kernel_rfl) (round s hs))
theorem L43_0_ruleG {K : AV → Heap → Prop} {v1 v5 v9 v10 v11 : AV} {H : Heap} {σ : Type} (s0 : σ) (f5 : σ → AV) (f11 : σ → AV) (TH : σ → Heap) (pre : σ → Prop) (μ : σ → Nat)
    (h0 : pre s0 ∧ AV.wk v5 (f5 s0) ∧ AV.wk v11 (f11 s0) ∧ Heap.le (TH s0) H)
    (round : ∀ s, pre s → ∀ q, TH s q = none → B43_0 K (fun w5 w11 H' => ∃ s', pre s' ∧ μ s' < μ s ∧ AV.wk w5 (f5 s') ∧ AV.wk w11 (f11 s') ∧ Heap.le (TH s') H') v1 (f5 s) v9 v10 (f11 s) ((TH s).set q [])) :
    L43_0 K v1 v5 v9 v10 v11 H := by
  unfold L43_0
  exact LoopV.mkG s0 (fun s => [f5 s, f11 s]) TH pre μ (fun _ => rfl) (Eq.mp (by kernel_rfl) h0) (fun s hs q hq => Eq.mp (by kernel_rfl) (round s hs q hq))
/-- loop.example/g00649/impl.isClass -/
def D44 : Info := ⟨20, fun i => ([], []), fun i => ([], [])⟩
def W44 (v0 : AV) (v1 : AV) (v2 : AV) (H : Heap) (K : AV → Heap → Prop) : Prop :=
 boxV v0 H fun v3 H1 =>
 boxV v1 H1 fun v4 H2 =>
 loadV tab 35 v3 H2 fun v7 =>
 loadV tab 37 v4 H2 fun v8 =>
 CallT Try.prog 12 [v7, v8] H2 fun v9 H3 =>
 grdV v9 true (binV tab .geq 3 v2 (AV.p (.int .i64 0)) fun v12 =>
 grdV v12 true (loadV tab 37 v4 H3 fun v16 =>
 CallT Try.prog 42 [v16] H3 fun v17 H4 =>
 binV tab .lss 3 v2 v17 fun v18 =>
 K v18 H4)
 (K (AV.p (.bool false)) H3))
 (K (AV.p (.bool false)) H3)
theorem W44_wp (v0 : AV) (v1 : AV) (v2 : AV) (H : Heap) (K : AV → Heap → Prop) : wpC Try.prog tab D44 (bodyOf Try.f44) (retF tab [.tmp 6] K) (nthA [v0, v1, v2]) H = W44 v0 v1 v2 H K := by kernel_rfl
theorem W44_ok {v0 v1 v2 : AV} {H : Heap} {K : AV → Heap → Prop} (h : W44 v0 v1 v2 H K) : CallT Try.prog 44 [v0, v1, v2] H K :=
  CallT.of_wp (D := D44) tab_ok mixed Try.func44 (c := bodyOf Try.f44) (by kernel_rfl) rfl (by kernel_rfl) (rs := #[.tmp 6]) rfl (by decide +kernel) (by kernel_rfl) (W44_wp v0 v1 v2 H K) h
theorem W44_hb : HasBody Try.prog 44 := ⟨_, bodyOf Try.f44, Try.func44, by kernel_rfl, rfl⟩
/-- (loop.example/g00649/impl.Sight).statesIn -/
def D45 : Info := ⟨26, fun i => ([], []), fun i => if i = 3 then ([1, 10, 11], [5, 12]) else ([], [])⟩
def L45_0 (K : AV → Heap → Prop) (v1 : AV) (v5 : AV) (v10 : AV) (v11 : AV) (v12 : AV) (H : Heap) : Prop := LoopV (wpC Try.prog tab D45 (cAt [1, 1, 0, 1, 0, 0] (bodyOf Try.f45))) [1, 10, 11] (PostF.block 0 (PostF.thenA (wpC Try.prog tab D45 (cAt [1, 1, 1] (bodyOf Try.f45))) (retF tab [.tmp 4] K))) [5, 12] [AV.any, v1, AV.any, AV.any, AV.any, v5, AV.any, AV.any, AV.any, AV.any, v10, v11, v12, AV.any, AV.any, AV.any, AV.any, AV.any, AV.any, AV.any, AV.any, AV.any, AV.any, AV.any, AV.any, AV.any] H
def B45_0 (K : AV → Heap → Prop) (N1 : AV → AV → Heap → Prop) (v1 : AV) (v5 : AV) (v10 : AV) (v11 : AV) (v12 : AV) (H : Heap) : Prop :=
 binV tab .lss 3 v12 v11 fun v13 =>
 condV v13 (indexAddrV tab 26 v10 v12 fun v15 =>
 loadV tab 3 v15 H fun v16 =>
 binV tab .eql 3 v16 v1 fun v19 =>
 condV v19 (buildSliceV tab 26 1 [(0, v12)] H (wkK fun v22 H3 =>
 appendV tab 26 26 v5 v22 H3 (wkK fun v23 H4 =>
 binV tab .add 3 v12 (AV.p (.int .i64 1)) fun v24 =>
 N1 v23 v24 H4)))
 (binV tab .add 3 v12 (AV.p (.int .i64 1)) fun v24 =>
 N1 v5 v24 H))
 (K v5 H)
def W45 (v0 : AV) (v1 : AV) (H : Heap) (K : AV → Heap → Prop) : Prop :=
 boxV v0 H fun v2 H1 =>
 buildSliceV tab 26 0 [] H1 (wkK fun v8 H2 =>
 fieldAddrV tab 37 v2 0 fun v9 =>
 loadV tab 26 v9 H2 fun v10 =>
 lenV tab 26 v10 fun v11 =>
 L45_0 K v1 v8 v10 v11 (AV.p (.int .i64 0)) H2)
theorem W45_wp (v0 : AV) (v1 : AV) (H : Heap) (K : AV → Heap → Prop) : wpC Try.prog tab D45 (bodyOf Try.f45) (retF tab [.tmp 4] K) (nthA [v0, v1]) H = W45 v0 v1 H K := by kernel_rfl
theorem W45_ok {v0 v1 : AV} {H : Heap} {K : AV → Heap → Prop} (h : W45 v0 v1 H K) : CallT Try.prog 45 [v0, v1] H K :=
  CallT.of_wp (D := D45) tab_ok mixed Try.func45 (c := bodyOf Try.f45) (by kernel_rfl) rfl (by kernel_rfl) (rs := #[.tmp 4]) rfl (by decide +kernel) (by kernel_rfl) (W45_wp v0 v1 H K) h
theorem W45_hb : HasBody Try.prog 45 := ⟨_, bodyOf Try.f45, Try.func45, by kernel_rfl, rfl⟩
theorem L45_0_rule {K : AV → Heap → Prop} {v1 v5 v10 v11 v12 : AV} {H : Heap} {σ : Type} (s0 : σ) (f5 : σ → AV) (f12 : σ → AV) (TH : σ → Heap) (pre : σ → Prop) (μ : σ → Nat)
    (h0 : pre s0 ∧ AV.wk v5 (f5 s0) ∧ AV.wk v12 (f12 s0) ∧ Heap.le (TH s0) H)
    (round : ∀ s, pre s → B45_0 K (fun w5 w12 H' => ∃ s', pre s' ∧ μ s' < μ s ∧ AV.wk w5 (f5 s') ∧ AV.wk w12 (f12 s') ∧ Heap.le (TH s') H') v1 (f5 s) v10 v11 (f12 s) (TH s)) :
    L45_0 K v1 v5 v10 v11 v12 H := by
  unfold L45_0
  exact LoopV.mk s0 (fun s => [f5 s, f12 s]) TH pre μ (fun _ => rfl) (Eq.mp (by kernel_rfl) h0) (fun s hs => Eq.mp (by kernel_rfl) (round s hs))
theorem L45_0_ruleG {K : AV → Heap → Prop} {v1 v5 v10 v11 v12 : AV} {H : Heap} {σ : Type} (s0 : σ) (f5 : σ → AV) (f12 : σ → AV) (TH : σ → Heap) (pre : σ → Prop) (μ : σ → Nat)
    (h0 : pre s0 ∧ AV.wk v5 (f5 s0) ∧ AV.wk v12 (f12 s0) ∧ Heap.le (TH s0) H)
    (round : ∀ s, pre s → ∀ q, TH s q = none → B45_0 K (fun w5 w12 H' => ∃ s', pre s' ∧ μ s' < μ s ∧ AV.wk w5 (f5 s') ∧ AV.wk w12 (f12 s') ∧ Heap.le (TH s') H') v1 (f5 s) v10 v11 (f12 s) ((TH s).set q [])) :
    L45_0 K v1 v5 v10 v11 v12 H := by
  unfold L45_0
  exact LoopV.mkG s0 (fun s => [f5 s, f12 s]) TH pre μ (fun _ => rfl) (Eq.mp (by kernel_rfl) h0) (fun s hs q hq => Eq.mp (by kernel_rfl) (round s hs q hq))
/-- loop.example/g00649/laws.markNodeS -/
def D46 : Info := ⟨28, fun i => ([], []), fun i => if i = 2 then ([0], [1, 5]) else ([], [])⟩
def L46_0 (K : AV → Heap → Prop) (v0 : AV) (v1 : AV) (v5 : AV) (H : Heap) : Prop := LoopV (wpC Try.prog tab D46 (cAt [1, 0, 1, 0, 0] (bodyOf Try.f46))) [0] (PostF.block 0 (PostF.thenA (wpC Try.prog tab D46 (cAt [1, 1] (bodyOf Try.f46))) (retF tab [.tmp 4] K))) [1, 5] [v0, v1, AV.any, AV.any, AV.any, v5, AV.any, AV.any, AV.any, AV.any, AV.any, AV.any, AV.any, AV.any, AV.any, AV.any, AV.any, AV.any, AV.any, AV.any, AV.any, AV.any, AV.any, AV.any, AV.any, AV.any, AV.any, AV.any] H
def B46_0 (K : AV → Heap → Prop) (N1 : AV → AV → Heap → Prop) (v0 : AV) (v1 : AV) (v5 : AV) (H : Heap) : Prop :=
 lenV tab 32 v0 fun v8 =>
 binV tab .lss 3 v5 v8 fun v9 =>
 condV v9 (indexAddrV tab 32 v0 v5 fun v15 =>
 fieldAddrV tab 78 v15 0 fun v16 =>
 storeV tab 3 v16 v1 H fun H1 =>
 binV tab .add 3 v1 (AV.p (.int .i64 1)) fun v18 =>
 convV tab 3 76 v18 fun v22 =>
 indexAddrV tab 32 v0 v5 fun v23 =>
 fieldAddrV tab 78 v23 1 fun v24 =>
 storeV tab 76 v24 v22 H1 fun H2 =>
 binV tab .add 3 v18 (AV.p (.int .i64 1)) fun v26 =>
 binV tab .add 3 v5 (AV.p (.int .i64 1)) fun v11 =>
 N1 v26 v11 H2)
 (K v1 H)
def W46 (v0 : AV) (v1 : AV) (H : Heap) (K : AV → Heap → Prop) : Prop :=
 L46_0 K v0 v1 (AV.p (.int .i64 0)) H
theorem W46_wp (v0 : AV) (v1 : AV) (H : Heap) (K : AV → Heap → Prop) : wpC Try.prog tab D46 (bodyOf Try.f46) (retF tab [.tmp 4] K) (nthA [v0, v1]) H = W46 v0 v1 H K := by kernel_rfl
theorem W46_ok {v0 v1 : AV} {H : Heap} {K : AV → Heap → Prop} (h : W46 v0 v1 H K) : CallT Try.prog 46 [v0, v1] H K :=
  CallT.of_wp (D := D46) tab_ok mixed Try.func46 (c := bodyOf Try.f46) (by kernel_rfl) rfl (by kernel_rfl) (rs := #[.tmp 4]) rfl (by decide +kernel) (by kernel_rfl) (W46_wp v0 v1 H K) h
theorem W46_hb : HasBody Try.prog 46 := ⟨_, bodyOf Try.f46, Try.func46, by kernel_rfl, rfl⟩
theorem L46_0_rule {K : AV → Heap → Prop} {v0 v1 v5 : AV} {H : Heap} {σ : Type} (s0 : σ) (f1 : σ → AV) (f5 : σ → AV) (TH : σ → Heap) (pre : σ → Prop) (μ : σ → Nat)
    (h0 : pre s0 ∧ AV.wk v1 (f1 s0) ∧ AV.wk v5 (f5 s0) ∧ Heap.le (TH s0) H)
    (round : ∀ s, pre s → B46_0 K (fun w1 w5 H' => ∃ s', pre s' ∧ μ s' < μ s ∧ AV.wk w1 (f1 s') ∧ AV.wk w5 (f5 s') ∧ Heap.le (TH s') H') v0 (f1 s) (f5 s) (TH s)) :
    L46_0 K v0 v1 v5 H := by
  unfold L46_0
  exact LoopV.mk s0 (fun s => [f1 s, f5 s]) TH pre μ (fun _ => rfl) (Eq.mp (by kernel_rfl) h0) (fun s hs => Eq.mp (by kernel_rfl) (round s hs))
theorem L46_0_ruleG {K : AV → Heap → Prop} {v0 v1 v5 : AV} {H : Heap} {σ : Type} (s0 : σ) (f1 : σ → AV) (f5 : σ → AV) (TH : σ → Heap) (pre : σ → Prop) (μ : σ → Nat)
    (h0 : pre s0 ∧ AV.wk v1 (f1 s0) ∧ AV.wk v5 (f5 s0) ∧ Heap.le (TH s0) H)
    (round : ∀ s, pre s → ∀ q, TH s q = none → B46_0 K (fun w1 w5 H' => ∃ s', pre s' ∧ μ s' < μ s ∧ AV.wk w1 (f1 s') ∧ AV.wk w5 (f5 s') ∧ Heap.le (TH s') H') v0 (f1 s) (f5 s) ((TH s).set q [])) :
    L46_0 K v0 v1 v5 H := by
  unfold L46_0
  exact LoopV.mkG s0 (fun s => [f1 s, f5 s]) TH pre μ (fun _ => rfl) (Eq.mp (by kernel_rfl) h0) (fun s hs q hq => Eq.mp (by kernel_rfl) (round s hs q hq))
/-- loop.example/g00649/laws.markCommandS -/
def D47 : Info := ⟨27, fun i => ([], []), fun i => if i = 2 then ([0], [1, 5]) else ([], [])⟩
def L47_0 (K : AV → Heap → Prop) (v0 : AV) (v1 : AV) (v5 : AV) (H : Heap) : Prop := LoopV (wpC Try.prog tab D47 (cAt [1, 0, 1, 0, 0] (bodyOf Try.f47))) [0] (PostF.block 0 (PostF.thenA (wpC Try.prog tab D47 (cAt [1, 1] (bodyOf Try.f47))) (retF tab [.tmp 4] K))) [1, 5] [v0, v1, AV.any, AV.any, AV.any, v5, AV.any, AV.any, AV.any, AV.any, AV.any, AV.any, AV.any, AV.any, AV.any, AV.any, AV.any, AV.any, AV.any, AV.any, AV.any, AV.any, AV.any, AV.any, AV.any, AV.any, AV.any] H
def B47_0 (K : AV → Heap → Prop) (N1 : AV → AV → Heap → Prop) (v0 : AV) (v1 : AV) (v5 : AV) (H : Heap) : Prop :=
 lenV tab 33 v0 fun v8 =>
 binV tab .lss 3 v5 v8 fun v9 =>
 condV v9 (indexAddrV tab 33 v0 v5 fun v14 =>
 fieldAddrV tab 83 v14 0 fun v15 =>
 loadV tab 32 v15 H fun v16 =>
 CallT Try.prog 46 [v16, v1] H fun v18 H1 =>
 indexAddrV tab 33 v0 v5 fun v21 =>
 fieldAddrV tab 83 v21 1 fun v22 =>
 loadV tab 81 v22 H1 fun v23 =>
 CallT Try.prog 56 [v23, v18] H1 fun v25 H2 =>
 binV tab .add 3 v5 (AV.p (.int .i64 1)) fun v11 =>
 N1 v25 v11 H2)
 (K v1 H)
def W47 (v0 : AV) (v1 : AV) (H : Heap) (K : AV → Heap → Prop) : Prop :=
 L47_0 K v0 v1 (AV.p (.int .i64 0)) H
theorem W47_wp (v0 : AV) (v1 : AV) (H : Heap) (K : AV → Heap → Prop) : wpC Try.prog tab D47 (bodyOf Try.f47) (retF tab [.tmp 4] K) (nthA [v0, v1]) H = W47 v0 v1 H K := by kernel_rfl
theorem W47_ok {v0 v1 : AV} {H : Heap} {K : AV → Heap → Prop} (h : W47 v0 v1 H K) : CallT Try.prog 47 [v0, v1] H K :=
  CallT.of_wp (D := D47) tab_ok mixed Try.func47 (c := bodyOf Try.f47) (by kernel_rfl) rfl (by kernel_rfl) (rs := #[.tmp 4]) rfl (by decide +kernel) (by kernel_rfl) (W47_wp v0 v1 H K) h
theorem W47_hb : HasBody Try.prog 47 := ⟨_, bodyOf Try.f47, Try.func47, by kernel_rfl, rfl⟩
theorem L47_0_rule {K : AV → Heap → Prop} {v0 v1 v5 : AV} {H : Heap} {σ : Type} (s0 : σ) (f1 : σ → AV) (f5 : σ → AV) (TH : σ → Heap) (pre : σ → Prop) (μ : σ → Nat)
    (h0 : pre s0 ∧ AV.wk v1 (f1 s0) ∧ AV.wk v5 (f5 s0) ∧ Heap.le (TH s0) H)
    (round : ∀ s, pre s → B47_0 K (fun w1 w5 H' => ∃ s', pre s' ∧ μ s' < μ s ∧ AV.wk w1 (f1 s') ∧ AV.wk w5 (f5 s') ∧ Heap.le (TH s') H') v0 (f1 s) (f5 s) (TH s)) :
    L47_0 K v0 v1 v5 H := by
  unfold L47_0
  exact LoopV.mk s0 (fun s => [f1 s, f5 s]) TH pre μ (fun _ => rfl) (Eq.mp (by kernel_rfl) h0) (fun s hs => Eq.mp (by kernel_rfl) (round s hs))
theorem L47_0_ruleG {K : AV → Heap → Prop} {v0 v1 v5 : AV} {H : Heap} {σ : Type} (s0 : σ) (f1 : σ → AV) (f5 : σ → AV) (TH : σ → Heap) (pre : σ → Prop) (μ : σ → Nat)
    (h0 : pre s0 ∧ AV.wk v1 (f1 s0) ∧ AV.wk v5 (f5 s0) ∧ Heap.le (TH s0) H)
    (round : ∀ s, pre s → ∀ q, TH s q = none → B47_0 K (fun w1 w5 H' => ∃ s', pre s' ∧ μ s' < μ s ∧ AV.wk w1 (f1 s') ∧ AV.wk w5 (f5 s') ∧ Heap.le (TH s') H') v0 (f1 s) (f5 s) ((TH s).set q [])) :
    L47_0 K v0 v1 v5 H := by
  unfold L47_0
  exact LoopV.mkG s0 (fun s => [f1 s, f5 s]) TH pre μ (fun _ => rfl) (Eq.mp (by kernel_rfl) h0) (fun s hs q hq => Eq.mp (by kernel_rfl) (round s hs q hq))
/-- loop.example/g00649/laws.markChangeS -/
def D56 : Info := ⟨27, fun i => ([], []), fun i => if i = 2 then ([0], [1, 5]) else ([], [])⟩
def L56_0 (K : AV → Heap → Prop) (v0 : AV) (v1 : AV) (v5 : AV) (H : Heap) : Prop := LoopV (wpC Try.prog tab D56 (cAt [1, 0, 1, 0, 0] (bodyOf Try.f56))) [0] (PostF.block 0 (PostF.thenA (wpC Try.prog tab D56 (cAt [1, 1] (bodyOf Try.f56))) (retF tab [.tmp 4] K))) [1, 5] [v0, v1, AV.any, AV.any, AV.any, v5, AV.any, AV.any, AV.any, AV.any, AV.any, AV.any, AV.any, AV.any, AV.any, AV.any, AV.any, AV.any, AV.any, AV.any, AV.any, AV.any, AV.any, AV.any, AV.any, AV.any, AV.any] H
def B56_0 (K : AV → Heap → Prop) (N1 : AV → AV → Heap → Prop) (v0 : AV) (v1 : AV) (v5 : AV) (H : Heap) : Prop :=
 lenV tab 81 v0 fun v8 =>
 binV tab .lss 3 v5 v8 fun v9 =>
 condV v9 (indexAddrV tab 81 v0 v5 fun v15 =>
 fieldAddrV tab 99 v15 0 fun v16 =>
 storeV tab 3 v16 v1 H fun H1 =>
 binV tab .add 3 v1 (AV.p (.int .i64 1)) fun v18 =>
 indexAddrV tab 81 v0 v5 fun v21 =>
 fieldAddrV tab 99 v21 1 fun v22 =>
 loadV tab 32 v22 H1 fun v23 =>
 CallT Try.prog 46 [v23, v18] H1 fun v25 H2 =>
 binV tab .add 3 v5 (AV.p (.int .i64 1)) fun v11 =>
 N1 v25 v11 H2)
 (K v1 H)
def W56 (v0 : AV) (v1 : AV) (H : Heap) (K : AV → Heap → Prop) : Prop :=
 L56_0 K v0 v1 (AV.p (.int .i64 0)) H
theorem W56_wp (v0 : AV) (v1 : AV) (H : Heap) (K : AV → Heap → Prop) : wpC Try.prog tab D56 (bodyOf Try.f56) (retF tab [.tmp 4] K) (nthA [v0, v1]) H = W56 v0 v1 H K := by kernel_rfl
theorem W56_ok {v0 v1 : AV} {H : Heap} {K : AV → Heap → Prop} (h : W56 v0 v1 H K) : CallT Try.prog 56 [v0, v1] H K :=
  CallT.of_wp (D := D56) tab_ok mixed Try.func56 (c := bodyOf Try.f56) (by kernel_rfl) rfl (by kernel_rfl) (rs := #[.tmp 4]) rfl (by decide +kernel) (by kernel_rfl) (W56_wp v0 v1 H K) h
theorem W56_hb : HasBody Try.prog 56 := ⟨_, bodyOf Try.f56, Try.func56, by kernel_rfl, rfl⟩
theorem L56_0_rule {K : AV → Heap → Prop} {v0 v1 v5 : AV} {H : Heap} {σ : Type} (s0 : σ) (f1 : σ → AV) (f5 : σ → AV) (TH : σ → Heap) (pre : σ → Prop) (μ : σ → Nat)
    (h0 : pre s0 ∧ AV.wk v1 (f1 s0) ∧ AV.wk v5 (f5 s0) ∧ Heap.le (TH s0) H)
    (round : ∀ s, pre s → B56_0 K (fun w1 w5 H' => ∃ s', pre s' ∧ μ s' < μ s ∧ AV.wk w1 (f1 s') ∧ AV.wk w5 (f5 s') ∧ Heap.le (TH s') H') v0 (f1 s) (f5 s) (TH s)) :
    L56_0 K v0 v1 v5 H := by
  unfold L56_0
  exact LoopV.mk s0 (fun s => [f1 s, f5 s]) TH pre μ (fun _ => rfl) (Eq.mp (by kernel_rfl) h0) (fun s hs => Eq.mp (by kernel_rfl) (round s hs))
theorem L56_0_ruleG {K : AV → Heap → Prop} {v0 v1 v5 : AV} {H : Heap} {σ : Type} (s0 : σ) (f1 : σ → AV) (f5 : σ → AV) (TH : σ → Heap) (pre : σ → Prop) (μ : σ → Nat)
    (h0 : pre s0 ∧ AV.wk v1 (f1 s0) ∧ AV.wk v5 (f5 s0) ∧ Heap.le (TH s0) H)
    (round : ∀ s, pre s → ∀ q, TH s q = none → B56_0 K (fun w1 w5 H' => ∃ s', pre s' ∧ μ s' < μ s ∧ AV.wk w1 (f1 s') ∧ AV.wk w5 (f5 s') ∧ Heap.le (TH s') H') v0 (f1 s) (f5 s) ((TH s).set q [])) :
    L56_0 K v0 v1 v5 H := by
  unfold L56_0
  exact LoopV.mkG s0 (fun s => [f1 s, f5 s]) TH pre μ (fun _ => rfl) (Eq.mp (by kernel_rfl) h0) (fun s hs q hq => Eq.mp (by kernel_rfl) (round s hs q hq))
end Go.Proofs.Ythlbkcgnacemgaa
