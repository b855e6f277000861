/- What each function's code is asked for, as a formula. Written by wgen.py (a program of this session's) out of Lean's print of the program. -/
import Derived.KernelRfl
import Derived.Test.YtjbdahlhphdalaaTab
import Derived.Test.YtjbdahlhphdalaaSep27
namespace Go.Proofs.Ytjbdahlhphdalaa
open Go Go.Sep
set_option linter.unusedVariables false
attribute [local irreducible] wpC headF
/-- (*loop.example/g00649/spec.l1Cur).circuit -/
def D77 : Info := ⟨85, fun i => if i = 15 then ([[], [0], [], [2], [2, 3], [0, 1, 2, 3, 4], [0, 1, 2, 3, 4, 5], [0, 1, 2, 3, 4, 5, 6]], [(0, []), (1, []), (2, []), (3, [1]), (4, [1]), (5, []), (6, []), (7, [])]) else if i = 19 then ([[], [0], [0, 1], [], [3], [3, 4], [0, 1, 2, 3, 4, 5]], [(0, []), (1, []), (2, []), (3, []), (4, [1]), (5, []), (6, [])]) else ([], []), fun i => if i = 3 then ([0, 2, 3], [4]) else if i = 19 then ([0, 2, 3], []) else ([], [])⟩
def L77_0 (K : AV → Heap → Prop) (v0 : AV) (v2 : AV) (v3 : AV) (v4 : AV) (H : Heap) : Prop := LoopV (wpC Try.prog tab D77 (cAt [1, 1, 0, 1, 0, 0] (bodyOf Try.f77))) [0, 2, 3] (PostF.block 0 (PostF.thenA (wpC Try.prog tab D77 (cAt [1, 1, 1] (bodyOf Try.f77))) (retF tab [.cell 2 37] K))) [4] [v0, AV.any, v2, v3, v4, AV.any, AV.any, AV.any, AV.any, AV.any, AV.any, AV.any, AV.any, AV.any, AV.any, AV.any, AV.any, AV.any, AV.any, AV.any, AV.any, AV.any, AV.any, AV.any, AV.any, AV.any, AV.any, AV.any, AV.any, AV.any, AV.any, AV.any, AV.any, AV.any, AV.any, AV.any, AV.any, AV.any, AV.any, AV.any, AV.any, AV.any, AV.any, AV.any, AV.any, AV.any, AV.any, AV.any, AV.any, AV.any, AV.any, AV.any, AV.any, AV.any, AV.any, AV.any, AV.any, AV.any, AV.any, AV.any, AV.any, AV.any, AV.any, AV.any, AV.any, AV.any, AV.any, AV.any, AV.any, AV.any, AV.any, AV.any, AV.any, AV.any, AV.any, AV.any, AV.any, AV.any, AV.any, AV.any, AV.any, AV.any, AV.any, AV.any, AV.any] H
def J77_1 (K : AV → Heap → Prop) (N1 : AV → Heap → Prop) (v0 : AV) (v2 : AV) (v3 : AV) (v4 : AV) (v5 : AV) (H : Heap) : Prop :=
 fieldAddrV tab 37 v3 1 fun v39 =>
 loadV tab 35 v39 H fun v40 =>
 loadV tab 106 v5 H fun v41 =>
 buildSliceV tab 35 1 [(0, v41)] H (wkK fun v42 H14 =>
 appendV tab 35 35 v40 v42 H14 (wkK fun v43 H15 =>
 fieldAddrV tab 37 v3 1 fun v44 =>
 storeV tab 35 v44 v43 H15 fun H16 =>
 binV tab .sub 3 v4 (AV.p (.int .i64 1)) fun v15 =>
 N1 v15 H16))
def J77_2 (K : AV → Heap → Prop) (N1 : AV → Heap → Prop) (v0 : AV) (v2 : AV) (v3 : AV) (v4 : AV) (v5 : AV) (H : Heap) : Prop :=
 fieldAddrV tab 106 v5 0 fun v31 =>
 loadV tab 3 v31 H fun v32 =>
 binV tab .gtr 3 v32 (AV.p (.int .i64 2)) fun v33 =>
 condV v33 (loadV tab 37 v3 H fun v35 =>
 CallT Try.prog 139 [v35] H fun v36 H11 =>
 CallT Try.prog 67 [v0, v36] H11 fun v37 H12 =>
 fieldAddrV tab 106 v5 2 fun v38 =>
 storeV tab 3 v38 v37 H12 fun H13 =>
 J77_1 K N1 v0 v2 v3 v4 v5 H13)
 (J77_1 K N1 v0 v2 v3 v4 v5 H)
def L77_3 (K : AV → Heap → Prop) (v0 : AV) (v2 : AV) (v3 : AV) (H : Heap) : Prop := LoopV (wpC Try.prog tab D77 (cAt [1, 1, 1, 1, 0, 1, 0, 1, 1, 1, 1, 1, 0, 0, 0] (bodyOf Try.f77))) [0, 2, 3] (PostF.block 3 (PostF.block 2 (PostF.thenA (wpC Try.prog tab D77 (cAt [1, 1, 1, 1, 1] (bodyOf Try.f77))) (retF tab [.cell 2 37] K)))) [] [v0, AV.any, v2, v3, AV.any, AV.any, AV.any, AV.any, AV.any, AV.any, AV.any, AV.any, AV.any, AV.any, AV.any, AV.any, AV.any, AV.any, AV.any, AV.any, AV.any, AV.any, AV.any, AV.any, AV.any, AV.any, AV.any, AV.any, AV.any, AV.any, AV.any, AV.any, AV.any, AV.any, AV.any, AV.any, AV.any, AV.any, AV.any, AV.any, AV.any, AV.any, AV.any, AV.any, AV.any, AV.any, AV.any, AV.any, AV.any, AV.any, AV.any, AV.any, AV.any, AV.any, AV.any, AV.any, AV.any, AV.any, AV.any, AV.any, AV.any, AV.any, AV.any, AV.any, AV.any, AV.any, AV.any, AV.any, AV.any, AV.any, AV.any, AV.any, AV.any, AV.any, AV.any, AV.any, AV.any, AV.any, AV.any, AV.any, AV.any, AV.any, AV.any, AV.any, AV.any] H
def B77_3 (K : AV → Heap → Prop) (N1 : Heap → Prop) (v0 : AV) (v2 : AV) (v3 : AV) (H : Heap) : Prop :=
 fieldAddrV tab 37 v3 1 fun v71 =>
 loadV tab 35 v71 H fun v72 =>
 lenV tab 35 v72 fun v73 =>
 CallT Try.prog 67 [v0, (AV.p (.int .i64 2))] H fun v75 H35 =>
 (loadV tab 35 v71 H35 fun v9072 =>
 v72 = v9072) ∧
 binV tab .add 3 (AV.p (.int .i64 300)) v75 fun v76 =>
 binV tab .lss 3 v73 v76 fun v77 =>
 condV v77 (fieldAddrV tab 37 v3 1 fun v78 =>
 loadV tab 35 v78 H35 fun v79 =>
 buildV tab 106 [(0, (AV.p (.int .i64 2))), (1, (AV.p (.int .i64 0)))] fun v80 =>
 buildSliceV tab 35 1 [(0, v80)] H35 (wkK fun v81 H36 =>
 appendV tab 35 35 v79 v81 H36 (wkK fun v82 H37 =>
 fieldAddrV tab 37 v3 1 fun v83 =>
 storeV tab 35 v83 v82 H37 fun H38 =>
 N1 H38)))
 (loadV tab 37 v3 H35 fun v84 =>
 storeV tab 37 v2 v84 H35 fun H39 =>
 loadV tab 37 v2 H39 fun r0 =>
 K r0 H39)
def B77_0 (K : AV → Heap → Prop) (N1 : AV → Heap → Prop) (v0 : AV) (v2 : AV) (v3 : AV) (v4 : AV) (H : Heap) : Prop :=
 binV tab .gtr 3 v4 (AV.p (.int .i64 0)) fun v13 =>
 condV v13 (CallT Try.prog 67 [v0, (AV.p (.int .i64 5))] H fun v17 H6 =>
 binV tab .add 3 (AV.p (.int .i64 1)) v17 fun v18 =>
 buildV tab 106 [(0, v18)] fun v19 =>
 allocV tab 106 H6 fun v5 H7 =>
 storeV tab 106 v5 v19 H7 fun H8 =>
 fieldAddrV tab 106 v5 0 fun v20 =>
 loadV tab 3 v20 H8 fun v21 =>
 binV tab .eql 3 v21 (AV.p (.int .i64 1)) fun v22 =>
 condV v22 (CallT Try.prog 67 [v0, (AV.p (.int .i64 2))] H8 fun v24 H9 =>
 fieldAddrV tab 106 v5 1 fun v25 =>
 storeV tab 3 v25 v24 H9 fun H10 =>
 J77_2 K N1 v0 v2 v3 v4 v5 H10)
 (loadV tab 37 v3 H8 fun v27 =>
 CallT Try.prog 139 [v27] H8 fun v28 H17 =>
 CallT Try.prog 67 [v0, v28] H17 fun v29 H18 =>
 fieldAddrV tab 106 v5 1 fun v30 =>
 storeV tab 3 v30 v29 H18 fun H19 =>
 J77_2 K N1 v0 v2 v3 v4 v5 H19))
 (loadV tab 37 v3 H fun v46 =>
 CallT Try.prog 139 [v46] H fun v47 H20 =>
 CallT Try.prog 67 [v0, (AV.p (.int .i64 5))] H20 fun v49 H21 =>
 CallT Try.prog 140 [v0, v47, v49] H21 fun v50 H22 =>
 fieldAddrV tab 37 v3 2 fun v51 =>
 storeV tab 24 v51 v50 H22 fun H23 =>
 CallT Try.prog 67 [v0, (AV.p (.int .i64 30))] H23 fun v53 H24 =>
 binV tab .eql 3 v53 (AV.p (.int .i64 0)) fun v55 =>
 condV v55 (fieldAddrV tab 37 v3 2 fun v56 =>
 loadV tab 24 v56 H24 fun v57 =>
 loadV tab 37 v3 H24 fun v58 =>
 CallT Try.prog 139 [v58] H24 fun v59 H25 =>
 (loadV tab 24 v56 H25 fun v9057 =>
 v57 = v9057) ∧
 buildSliceV tab 24 1 [(0, v59)] H25 (wkK fun v60 H26 =>
 (loadV tab 24 v56 H26 fun v9057 =>
 v57 = v9057) ∧
 appendV tab 24 24 v57 v60 H26 (wkK fun v61 H27 =>
 fieldAddrV tab 37 v3 2 fun v62 =>
 storeV tab 24 v62 v61 H27 fun H28 =>
 loadV tab 37 v3 H28 fun v84 =>
 storeV tab 37 v2 v84 H28 fun H30 =>
 loadV tab 37 v2 H30 fun r0 =>
 K r0 H30)))
 (binV tab .eql 3 v53 (AV.p (.int .i64 1)) fun v64 =>
 condV v64 (buildSliceV tab 24 4 [(0, (AV.p (.int .i64 (-1)))), (1, (AV.p (.int .i64 0))), (2, (AV.p (.int .i64 16))), (3, (AV.p (.int .i64 17)))] H24 (wkK fun v66 H31 =>
 CallT Try.prog 108 [v0, v66] H31 fun v67 H32 =>
 fieldAddrV tab 37 v3 0 fun v68 =>
 storeV tab 3 v68 v67 H32 fun H33 =>
 loadV tab 37 v3 H33 fun v84 =>
 storeV tab 37 v2 v84 H33 fun H34 =>
 loadV tab 37 v2 H34 fun r0 =>
 K r0 H34))
 (binV tab .eql 3 v53 (AV.p (.int .i64 2)) fun v70 =>
 condV v70 (L77_3 K v0 v2 v3 H24)
 (loadV tab 37 v3 H24 fun v84 =>
 storeV tab 37 v2 v84 H24 fun H40 =>
 loadV tab 37 v2 H40 fun r0 =>
 K r0 H40))))
def W77 (v0 : AV) (H : Heap) (K : AV → Heap → Prop) : Prop :=
 allocV tab 37 H fun v2 H1 =>
 CallT Try.prog 67 [v0, (AV.p (.int .i64 8))] H1 fun v7 H2 =>
 binV tab .add 3 (AV.p (.int .i64 1)) v7 fun v8 =>
 buildV tab 37 [(0, v8)] fun v9 =>
 allocV tab 37 H2 fun v3 H3 =>
 storeV tab 37 v3 v9 H3 fun H4 =>
 CallT Try.prog 67 [v0, (AV.p (.int .i64 20))] H4 fun v11 H5 =>
 L77_0 K v0 v2 v3 v11 H5
theorem W77_wp (v0 : AV) (H : Heap) (K : AV → Heap → Prop) : wpC Try.prog tab D77 (bodyOf Try.f77) (retF tab [.cell 2 37] K) (nthA [v0]) H = W77 v0 H K := by kernel_rfl
theorem W77_ok {v0 : AV} {H : Heap} {K : AV → Heap → Prop} (h : W77 v0 H K) : CallT Try.prog 77 [v0] H K :=
  CallT.of_wp (D := D77) tab_ok mixed Try.func77 (c := bodyOf Try.f77) (by kernel_rfl) rfl (by kernel_rfl) (rs := #[.cell 2 37]) rfl (by decide +kernel) (by kernel_rfl) (W77_wp v0 H K) h
theorem W77_hb : HasBody Try.prog 77 := ⟨_, bodyOf Try.f77, Try.func77, by kernel_rfl, rfl⟩
theorem L77_3_rule {K : AV → Heap → Prop} {v0 v2 v3 : AV} {H : Heap} {σ : Type} (s0 : σ) (TH : σ → Heap) (pre : σ → Prop) (μ : σ → Nat)
    (h0 : pre s0 ∧ Heap.le (TH s0) H)
    (round : ∀ s, pre s → B77_3 K (fun H' => ∃ s', pre s' ∧ μ s' < μ s ∧ Heap.le (TH s') H') v0 v2 v3 (TH s)) :
    L77_3 K v0 v2 v3 H := by
  unfold L77_3
  exact LoopV.mk s0 (fun s => []) TH pre μ (fun _ => rfl) (Eq.mp (by kernel_rfl) h0) (fun s hs => Eq.mp (by kernel_rfl) (round s hs))
theorem L77_3_ruleG {K : AV → Heap → Prop} {v0 v2 v3 : AV} {H : Heap} {σ : Type} (s0 : σ) (TH : σ → Heap) (pre : σ → Prop) (μ : σ → Nat)
    (h0 : pre s0 ∧ Heap.le (TH s0) H)
    (round : ∀ s, pre s → ∀ q, TH s q = none → B77_3 K (fun H' => ∃ s', pre s' ∧ μ s' < μ s ∧ Heap.le (TH s') H') v0 v2 v3 ((TH s).set q [])) :
    L77_3 K v0 v2 v3 H := by
  unfold L77_3
  exact LoopV.mkG s0 (fun s => []) TH pre μ (fun _ => rfl) (Eq.mp (by kernel_rfl) h0) (fun s hs q hq => Eq.mp (by kernel_rfl) (round s hs q hq))
theorem L77_0_rule {K : AV → Heap → Prop} {v0 v2 v3 v4 : AV} {H : Heap} {σ : Type} (s0 : σ) (f4 : σ → AV) (TH : σ → Heap) (pre : σ → Prop) (μ : σ → Nat)
    (h0 : pre s0 ∧ AV.wk v4 (f4 s0) ∧ Heap.le (TH s0) H)
    (round : ∀ s, pre s → B77_0 K (fun w4 H' => ∃ s', pre s' ∧ μ s' < μ s ∧ AV.wk w4 (f4 s') ∧ Heap.le (TH s') H') v0 v2 v3 (f4 s) (TH s)) :
    L77_0 K v0 v2 v3 v4 H := by
  unfold L77_0
  exact LoopV.mk s0 (fun s => [f4 s]) TH pre μ (fun _ => rfl) (Eq.mp (by kernel_rfl) h0) (fun s hs => Eq.mp (by kernel_rfl) (round s hs))
theorem L77_0_ruleG {K : AV → Heap → Prop} {v0 v2 v3 v4 : AV} {H : Heap} {σ : Type} (s0 : σ) (f4 : σ → AV) (TH : σ → Heap) (pre : σ → Prop) (μ : σ → Nat)
    (h0 : pre s0 ∧ AV.wk v4 (f4 s0) ∧ Heap.le (TH s0) H)
    (round : ∀ s, pre s → ∀ q, TH s q = none → B77_0 K (fun w4 H' => ∃ s', pre s' ∧ μ s' < μ s ∧ AV.wk w4 (f4 s') ∧ Heap.le (TH s') H') v0 v2 v3 (f4 s) ((TH s).set q [])) :
    L77_0 K v0 v2 v3 v4 H := by
  unfold L77_0
  exact LoopV.mkG s0 (fun s => [f4 s]) TH pre μ (fun _ => rfl) (Eq.mp (by kernel_rfl) h0) (fun s hs q hq => Eq.mp (by kernel_rfl) (round s hs q hq))
/-- (*loop.example/g00649/spec.l1Cur).bools -/
def D78 : Info := ⟨16, fun i => ([], []), fun i => if i = 2 then ([0], [1, 5]) else ([], [])⟩
def L78_0 (K : AV → Heap → Prop) (v0 : AV) (v1 : AV) (v5 : AV) (H : Heap) : Prop := LoopV (wpC Try.prog tab D78 (cAt [1, 1, 0, 0, 0] (bodyOf Try.f78))) [0] (PostF.block 0 (PostF.thenA (wpC Try.prog tab D78 (cAt [1, 1, 1] (bodyOf Try.f78))) (retF tab [.tmp 4] K))) [1, 5] [v0, v1, AV.any, AV.any, AV.any, v5, AV.any, AV.any, AV.any, AV.any, AV.any, AV.any, AV.any, AV.any, AV.any, AV.any] H
def B78_0 (K : AV → Heap → Prop) (N1 : AV → AV → Heap → Prop) (v0 : AV) (v1 : AV) (v5 : AV) (H : Heap) : Prop :=
 binV tab .gtr 3 v1 (AV.p (.int .i64 0)) fun v7 =>
 condV v7 (CallT Try.prog 134 [v0, (AV.p (.int .i64 2))] H fun v12 H1 =>
 buildSliceV tab 38 1 [(0, v12)] H1 (wkK fun v13 H2 =>
 appendV tab 38 38 v5 v13 H2 (wkK fun v14 H3 =>
 binV tab .sub 3 v1 (AV.p (.int .i64 1)) fun v9 =>
 N1 v9 v14 H3)))
 (K v5 H)
def W78 (v0 : AV) (v1 : AV) (H : Heap) (K : AV → Heap → Prop) : Prop :=
 L78_0 K v0 v1 (AV.p .nil) H
theorem W78_wp (v0 : AV) (v1 : AV) (H : Heap) (K : AV → Heap → Prop) : wpC Try.prog tab D78 (bodyOf Try.f78) (retF tab [.tmp 4] K) (nthA [v0, v1]) H = W78 v0 v1 H K := by kernel_rfl
theorem W78_ok {v0 v1 : AV} {H : Heap} {K : AV → Heap → Prop} (h : W78 v0 v1 H K) : CallT Try.prog 78 [v0, v1] H K :=
  CallT.of_wp (D := D78) tab_ok mixed Try.func78 (c := bodyOf Try.f78) (by kernel_rfl) rfl (by kernel_rfl) (rs := #[.tmp 4]) rfl (by decide +kernel) (by kernel_rfl) (W78_wp v0 v1 H K) h
theorem W78_hb : HasBody Try.prog 78 := ⟨_, bodyOf Try.f78, Try.func78, by kernel_rfl, rfl⟩
theorem L78_0_rule {K : AV → Heap → Prop} {v0 v1 v5 : AV} {H : Heap} {σ : Type} (s0 : σ) (f1 : σ → AV) (f5 : σ → AV) (TH : σ → Heap) (pre : σ → Prop) (μ : σ → Nat)
    (h0 : pre s0 ∧ AV.wk v1 (f1 s0) ∧ AV.wk v5 (f5 s0) ∧ Heap.le (TH s0) H)
    (round : ∀ s, pre s → B78_0 K (fun w1 w5 H' => ∃ s', pre s' ∧ μ s' < μ s ∧ AV.wk w1 (f1 s') ∧ AV.wk w5 (f5 s') ∧ Heap.le (TH s') H') v0 (f1 s) (f5 s) (TH s)) :
    L78_0 K v0 v1 v5 H := by
  unfold L78_0
  exact LoopV.mk s0 (fun s => [f1 s, f5 s]) TH pre μ (fun _ => rfl) (Eq.mp (by kernel_rfl) h0) (fun s hs => Eq.mp (by kernel_rfl) (round s hs))
theorem L78_0_ruleG {K : AV → Heap → Prop} {v0 v1 v5 : AV} {H : Heap} {σ : Type} (s0 : σ) (f1 : σ → AV) (f5 : σ → AV) (TH : σ → Heap) (pre : σ → Prop) (μ : σ → Nat)
    (h0 : pre s0 ∧ AV.wk v1 (f1 s0) ∧ AV.wk v5 (f5 s0) ∧ Heap.le (TH s0) H)
    (round : ∀ s, pre s → ∀ q, TH s q = none → B78_0 K (fun w1 w5 H' => ∃ s', pre s' ∧ μ s' < μ s ∧ AV.wk w1 (f1 s') ∧ AV.wk w5 (f5 s') ∧ Heap.le (TH s') H') v0 (f1 s) (f5 s) ((TH s).set q [])) :
    L78_0 K v0 v1 v5 H := by
  unfold L78_0
  exact LoopV.mkG s0 (fun s => [f1 s, f5 s]) TH pre μ (fun _ => rfl) (Eq.mp (by kernel_rfl) h0) (fun s hs q hq => Eq.mp (by kernel_rfl) (round s hs q hq))
/-- loop.example/g00649/impl.GoodCircuit -/
def D79 : Info := ⟨46, fun i => if i = 9 then ([[], [0], [], [2], [0, 1, 2, 3], [0, 1, 2, 3, 4]], [(0, []), (1, []), (2, []), (3, [1]), (4, []), (5, [])]) else ([], []), fun i => if i = 4 then ([1, 26, 27], [28]) else ([], [])⟩
def L79_0 (K : AV → Heap → Prop) (v1 : AV) (v26 : AV) (v27 : AV) (v28 : AV) (H : Heap) : Prop := LoopV (wpC Try.prog tab D79 (cAt [1, 1, 0, 1, 0, 0] (bodyOf Try.f79))) [1, 26, 27] (PostF.block 0 (PostF.thenA (wpC Try.prog tab D79 (cAt [1, 1, 1] (bodyOf Try.f79))) (retF tab [.tmp 2] K))) [28] [AV.any, v1, AV.any, AV.any, AV.any, AV.any, AV.any, AV.any, AV.any, AV.any, AV.any, AV.any, AV.any, AV.any, AV.any, AV.any, AV.any, AV.any, AV.any, AV.any, AV.any, AV.any, AV.any, AV.any, AV.any, AV.any, v26, v27, v28, AV.any, AV.any, AV.any, AV.any, AV.any, AV.any, AV.any, AV.any, AV.any, AV.any, AV.any, AV.any, AV.any, AV.any, AV.any, AV.any, AV.any] H
def B79_0 (K : AV → Heap → Prop) (N1 : AV → Heap → Prop) (v1 : AV) (v26 : AV) (v27 : AV) (v28 : AV) (H : Heap) : Prop :=
 binV tab .lss 3 v28 v27 fun v29 =>
 condV v29 (indexAddrV tab 35 v26 v28 fun v31 =>
 loadV tab 106 v31 H fun v32 =>
 allocV tab 106 H fun v4 H2 =>
 storeV tab 106 v4 v32 H2 fun H3 =>
 loadV tab 106 v4 H3 fun v33 =>
 fieldAddrV tab 37 v1 0 fun v34 =>
 loadV tab 3 v34 H3 fun v35 =>
 binV tab .add 3 v35 v28 fun v37 =>
 CallT Try.prog 141 [v33, v37] H3 fun v38 H4 =>
 unV .not v38 fun v39 =>
 condV v39 (K (AV.p (.bool false)) H4)
 (binV tab .add 3 v28 (AV.p (.int .i64 1)) fun v40 =>
 N1 v40 H4))
 (fieldAddrV tab 37 v1 2 fun v41 =>
 loadV tab 24 v41 H fun v42 =>
 loadV tab 37 v1 H fun v43 =>
 CallT Try.prog 80 [v43] H fun v44 H5 =>
 (loadV tab 24 v41 H5 fun v9042 =>
 v42 = v9042) ∧
 CallT Try.prog 142 [v42, v44] H5 fun v45 H6 =>
 K v45 H6)
def W79 (v0 : AV) (H : Heap) (K : AV → Heap → Prop) : Prop :=
 boxV v0 H fun v1 H1 =>
 fieldAddrV tab 37 v1 0 fun v5 =>
 loadV tab 3 v5 H1 fun v6 =>
 binV tab .lss 3 v6 (AV.p (.int .i64 0)) fun v7 =>
 grdV v7 false (fieldAddrV tab 37 v1 0 fun v9 =>
 loadV tab 3 v9 H1 fun v10 =>
 binV tab .gtr 3 v10 (AV.p (.int .i64 16)) fun v11 =>
 grdV v11 false (fieldAddrV tab 37 v1 1 fun v14 =>
 loadV tab 35 v14 H1 fun v15 =>
 lenV tab 35 v15 fun v16 =>
 binV tab .gtr 3 v16 (AV.p (.int .i64 300)) fun v17 =>
 grdV v17 false (fieldAddrV tab 37 v1 2 fun v20 =>
 loadV tab 24 v20 H1 fun v21 =>
 lenV tab 24 v21 fun v22 =>
 binV tab .gtr 3 v22 (AV.p (.int .i64 16)) fun v23 =>
 condV v23 (K (AV.p (.bool false)) H1)
 (fieldAddrV tab 37 v1 1 fun v25 =>
 loadV tab 35 v25 H1 fun v26 =>
 lenV tab 35 v26 fun v27 =>
 L79_0 K v1 v26 v27 (AV.p (.int .i64 0)) H1))
 (K (AV.p (.bool false)) H1))
 (K (AV.p (.bool false)) H1))
 (K (AV.p (.bool false)) H1)
theorem W79_wp (v0 : AV) (H : Heap) (K : AV → Heap → Prop) : wpC Try.prog tab D79 (bodyOf Try.f79) (retF tab [.tmp 2] K) (nthA [v0]) H = W79 v0 H K := by kernel_rfl
theorem W79_ok {v0 : AV} {H : Heap} {K : AV → Heap → Prop} (h : W79 v0 H K) : CallT Try.prog 79 [v0] H K :=
  CallT.of_wp (D := D79) tab_ok mixed Try.func79 (c := bodyOf Try.f79) (by kernel_rfl) rfl (by kernel_rfl) (rs := #[.tmp 2]) rfl (by decide +kernel) (by kernel_rfl) (W79_wp v0 H K) h
theorem W79_hb : HasBody Try.prog 79 := ⟨_, bodyOf Try.f79, Try.func79, by kernel_rfl, rfl⟩
theorem L79_0_rule {K : AV → Heap → Prop} {v1 v26 v27 v28 : AV} {H : Heap} {σ : Type} (s0 : σ) (f28 : σ → AV) (TH : σ → Heap) (pre : σ → Prop) (μ : σ → Nat)
    (h0 : pre s0 ∧ AV.wk v28 (f28 s0) ∧ Heap.le (TH s0) H)
    (round : ∀ s, pre s → B79_0 K (fun w28 H' => ∃ s', pre s' ∧ μ s' < μ s ∧ AV.wk w28 (f28 s') ∧ Heap.le (TH s') H') v1 v26 v27 (f28 s) (TH s)) :
    L79_0 K v1 v26 v27 v28 H := by
  unfold L79_0
  exact LoopV.mk s0 (fun s => [f28 s]) TH pre μ (fun _ => rfl) (Eq.mp (by kernel_rfl) h0) (fun s hs => Eq.mp (by kernel_rfl) (round s hs))
theorem L79_0_ruleG {K : AV → Heap → Prop} {v1 v26 v27 v28 : AV} {H : Heap} {σ : Type} (s0 : σ) (f28 : σ → AV) (TH : σ → Heap) (pre : σ → Prop) (μ : σ → Nat)
    (h0 : pre s0 ∧ AV.wk v28 (f28 s0) ∧ Heap.le (TH s0) H)
    (round : ∀ s, pre s → ∀ q, TH s q = none → B79_0 K (fun w28 H' => ∃ s', pre s' ∧ μ s' < μ s ∧ AV.wk w28 (f28 s') ∧ Heap.le (TH s') H') v1 v26 v27 (f28 s) ((TH s).set q [])) :
    L79_0 K v1 v26 v27 v28 H := by
  unfold L79_0
  exact LoopV.mkG s0 (fun s => [f28 s]) TH pre μ (fun _ => rfl) (Eq.mp (by kernel_rfl) h0) (fun s hs q hq => Eq.mp (by kernel_rfl) (round s hs q hq))
/-- (loop.example/g00649/impl.Circuit).wires -/
def D80 : Info := ⟨9, fun i => ([], []), fun i => ([], [])⟩
def W80 (v0 : AV) (H : Heap) (K : AV → Heap → Prop) : Prop :=
 boxV v0 H fun v1 H1 =>
 fieldAddrV tab 37 v1 0 fun v3 =>
 loadV tab 3 v3 H1 fun v4 =>
 fieldAddrV tab 37 v1 1 fun v5 =>
 loadV tab 35 v5 H1 fun v6 =>
 lenV tab 35 v6 fun v7 =>
 binV tab .add 3 v4 v7 fun v8 =>
 K v8 H1
theorem W80_wp (v0 : AV) (H : Heap) (K : AV → Heap → Prop) : wpC Try.prog tab D80 (bodyOf Try.f80) (retF tab [.tmp 2] K) (nthA [v0]) H = W80 v0 H K := by kernel_rfl
theorem W80_ok {v0 : AV} {H : Heap} {K : AV → Heap → Prop} (h : W80 v0 H K) : CallT Try.prog 80 [v0] H K :=
  CallT.of_wp (D := D80) tab_ok mixed Try.func80 (c := bodyOf Try.f80) (by kernel_rfl) rfl (by kernel_rfl) (rs := #[.tmp 2]) rfl (by decide +kernel) (by kernel_rfl) (W80_wp v0 H K) h
theorem W80_hb : HasBody Try.prog 80 := ⟨_, bodyOf Try.f80, Try.func80, by kernel_rfl, rfl⟩
/-- loop.example/g00649/impl.clausesOf -/
def D81 : Info := ⟨94, fun i => if i = 1 then ([[], [0], [0, 1], [], [3], [3, 4], [0, 1, 2], [0, 1, 2, 3, 4, 5, 6]], [(0, []), (1, []), (2, []), (3, []), (4, []), (5, []), (6, []), (7, [])]) else ([], []), fun i => ([], [])⟩
def W81 (v0 : AV) (v1 : AV) (H : Heap) (K : AV → Heap → Prop) : Prop :=
 boxV v0 H fun v2 H1 =>
 fieldAddrV tab 106 v2 1 fun v7 =>
 loadV tab 3 v7 H1 fun v8 =>
 binV tab .add 3 v8 (AV.p (.int .i64 1)) fun v9 =>
 fieldAddrV tab 106 v2 2 fun v10 =>
 loadV tab 3 v10 H1 fun v11 =>
 binV tab .add 3 v11 (AV.p (.int .i64 1)) fun v12 =>
 fieldAddrV tab 106 v2 0 fun v13 =>
 loadV tab 3 v13 H1 fun v14 =>
 binV tab .eql 3 v14 (AV.p (.int .i64 1)) fun v16 =>
 condV v16 (fieldAddrV tab 106 v2 1 fun v17 =>
 loadV tab 3 v17 H1 fun v18 =>
 binV tab .eql 3 v18 (AV.p (.int .i64 1)) fun v19 =>
 condV v19 (buildSliceV tab 24 1 [(0, v1)] H1 (wkK fun v21 H2 =>
 buildSliceV tab 41 1 [(0, v21)] H2 (wkK fun v22 H3 =>
 K v22 H3)))
 (unV .neg v1 fun v24 =>
 buildSliceV tab 24 1 [(0, v24)] H1 (wkK fun v25 H4 =>
 buildSliceV tab 41 1 [(0, v25)] H4 (wkK fun v26 H5 =>
 K v26 H5))))
 (binV tab .eql 3 v14 (AV.p (.int .i64 2)) fun v28 =>
 condV v28 (buildSliceV tab 24 2 [(0, v1), (1, v9)] H1 (wkK fun v31 H6 =>
 unV .neg v1 fun v33 =>
 unV .neg v9 fun v35 =>
 buildSliceV tab 24 2 [(0, v33), (1, v35)] H6 (wkK fun v36 H7 =>
 buildSliceV tab 41 2 [(0, v31), (1, v36)] H7 (wkK fun v37 H8 =>
 K v37 H8))))
 (binV tab .eql 3 v14 (AV.p (.int .i64 3)) fun v39 =>
 condV v39 (unV .neg v1 fun v41 =>
 buildSliceV tab 24 2 [(0, v41), (1, v9)] H1 (wkK fun v43 H9 =>
 unV .neg v1 fun v45 =>
 buildSliceV tab 24 2 [(0, v45), (1, v12)] H9 (wkK fun v47 H10 =>
 unV .neg v9 fun v50 =>
 unV .neg v12 fun v52 =>
 buildSliceV tab 24 3 [(0, v1), (1, v50), (2, v52)] H10 (wkK fun v53 H11 =>
 buildSliceV tab 41 3 [(0, v43), (1, v47), (2, v53)] H11 (wkK fun v54 H12 =>
 K v54 H12)))))
 (binV tab .eql 3 v14 (AV.p (.int .i64 4)) fun v56 =>
 condV v56 (unV .neg v9 fun v59 =>
 buildSliceV tab 24 2 [(0, v1), (1, v59)] H1 (wkK fun v60 H13 =>
 unV .neg v12 fun v63 =>
 buildSliceV tab 24 2 [(0, v1), (1, v63)] H13 (wkK fun v64 H14 =>
 unV .neg v1 fun v66 =>
 buildSliceV tab 24 3 [(0, v66), (1, v9), (2, v12)] H14 (wkK fun v69 H15 =>
 buildSliceV tab 41 3 [(0, v60), (1, v64), (2, v69)] H15 (wkK fun v70 H16 =>
 K v70 H16)))))
 (unV .neg v1 fun v72 =>
 buildSliceV tab 24 3 [(0, v72), (1, v9), (2, v12)] H1 (wkK fun v75 H17 =>
 unV .neg v1 fun v77 =>
 unV .neg v9 fun v79 =>
 unV .neg v12 fun v81 =>
 buildSliceV tab 24 3 [(0, v77), (1, v79), (2, v81)] H17 (wkK fun v82 H18 =>
 unV .neg v9 fun v85 =>
 buildSliceV tab 24 3 [(0, v1), (1, v85), (2, v12)] H18 (wkK fun v87 H19 =>
 unV .neg v12 fun v91 =>
 buildSliceV tab 24 3 [(0, v1), (1, v9), (2, v91)] H19 (wkK fun v92 H20 =>
 buildSliceV tab 41 4 [(0, v75), (1, v82), (2, v87), (3, v92)] H20 (wkK fun v93 H21 =>
 K v93 H21)))))))))
theorem W81_wp (v0 : AV) (v1 : AV) (H : Heap) (K : AV → Heap → Prop) : wpC Try.prog tab D81 (bodyOf Try.f81) (retF tab [.tmp 4] K) (nthA [v0, v1]) H = W81 v0 v1 H K := by kernel_rfl
theorem W81_ok {v0 v1 : AV} {H : Heap} {K : AV → Heap → Prop} (h : W81 v0 v1 H K) : CallT Try.prog 81 [v0, v1] H K :=
  CallT.of_wp (D := D81) tab_ok mixed Try.func81 (c := bodyOf Try.f81) (by kernel_rfl) rfl (by kernel_rfl) (rs := #[.tmp 4]) rfl (by decide +kernel) (by kernel_rfl) (W81_wp v0 v1 H K) h
theorem W81_hb : HasBody Try.prog 81 := ⟨_, bodyOf Try.f81, Try.func81, by kernel_rfl, rfl⟩
/-- loop.example/g00649/spec.GoodCircuit -/
def D82 : Info := ⟨43, fun i => if i = 9 then ([[], [0], [], [2], [2, 3], [0, 1, 2, 3, 4], [0, 1, 2, 3, 4, 5]], [(0, []), (1, []), (2, []), (3, [1]), (4, []), (5, []), (6, [])]) else ([], []), fun i => if i = 4 then ([1, 22, 23], [24]) else ([], [])⟩
def L82_0 (K : AV → Heap → Prop) (v1 : AV) (v22 : AV) (v23 : AV) (v24 : AV) (H : Heap) : Prop := LoopV (wpC Try.prog tab D82 (cAt [1, 1, 0, 1, 0, 0] (bodyOf Try.f82))) [1, 22, 23] (PostF.block 0 (PostF.thenA (wpC Try.prog tab D82 (cAt [1, 1, 1] (bodyOf Try.f82))) (retF tab [.tmp 2] K))) [24] [AV.any, v1, AV.any, AV.any, AV.any, AV.any, AV.any, AV.any, AV.any, AV.any, AV.any, AV.any, AV.any, AV.any, AV.any, AV.any, AV.any, AV.any, AV.any, AV.any, AV.any, AV.any, v22, v23, v24, AV.any, AV.any, AV.any, AV.any, AV.any, AV.any, AV.any, AV.any, AV.any, AV.any, AV.any, AV.any, AV.any, AV.any, AV.any, AV.any, AV.any, AV.any] H
def B82_0 (K : AV → Heap → Prop) (N1 : AV → Heap → Prop) (v1 : AV) (v22 : AV) (v23 : AV) (v24 : AV) (H : Heap) : Prop :=
 binV tab .lss 3 v24 v23 fun v25 =>
 condV v25 (indexAddrV tab 35 v22 v24 fun v27 =>
 loadV tab 106 v27 H fun v28 =>
 allocV tab 106 H fun v4 H3 =>
 storeV tab 106 v4 v28 H3 fun H4 =>
 loadV tab 106 v4 H4 fun v29 =>
 fieldAddrV tab 37 v1 0 fun v30 =>
 loadV tab 3 v30 H4 fun v31 =>
 binV tab .add 3 v31 v24 fun v33 =>
 CallT Try.prog 143 [v29, v33] H4 fun v34 H5 =>
 unV .not v34 fun v35 =>
 condV v35 (K (AV.p (.bool false)) H5)
 (binV tab .add 3 v24 (AV.p (.int .i64 1)) fun v36 =>
 N1 v36 H5))
 (fieldAddrV tab 37 v1 2 fun v37 =>
 loadV tab 24 v37 H fun v38 =>
 loadV tab 37 v1 H fun v39 =>
 CallT Try.prog 139 [v39] H fun v40 H6 =>
 (loadV tab 24 v37 H6 fun v9038 =>
 v38 = v9038) ∧
 binV tab .sub 3 v40 (AV.p (.int .i64 1)) fun v41 =>
 CallT Try.prog 76 [v38, (AV.p (.int .i64 0)), v41] H6 fun v42 H7 =>
 K v42 H7)
def W82 (v0 : AV) (H : Heap) (K : AV → Heap → Prop) : Prop :=
 boxV v0 H fun v1 H1 =>
 fieldAddrV tab 37 v1 0 fun v5 =>
 loadV tab 3 v5 H1 fun v6 =>
 CallT Try.prog 75 [v6, (AV.p (.int .i64 0)), (AV.p (.int .i64 16))] H1 fun v7 H2 =>
 unV .not v7 fun v8 =>
 grdV v8 false (fieldAddrV tab 37 v1 1 fun v10 =>
 loadV tab 35 v10 H2 fun v11 =>
 lenV tab 35 v11 fun v12 =>
 binV tab .gtr 3 v12 (AV.p (.int .i64 300)) fun v13 =>
 grdV v13 false (fieldAddrV tab 37 v1 2 fun v16 =>
 loadV tab 24 v16 H2 fun v17 =>
 lenV tab 24 v17 fun v18 =>
 binV tab .gtr 3 v18 (AV.p (.int .i64 16)) fun v19 =>
 condV v19 (K (AV.p (.bool false)) H2)
 (fieldAddrV tab 37 v1 1 fun v21 =>
 loadV tab 35 v21 H2 fun v22 =>
 lenV tab 35 v22 fun v23 =>
 L82_0 K v1 v22 v23 (AV.p (.int .i64 0)) H2))
 (K (AV.p (.bool false)) H2))
 (K (AV.p (.bool false)) H2)
theorem W82_wp (v0 : AV) (H : Heap) (K : AV → Heap → Prop) : wpC Try.prog tab D82 (bodyOf Try.f82) (retF tab [.tmp 2] K) (nthA [v0]) H = W82 v0 H K := by kernel_rfl
theorem W82_ok {v0 : AV} {H : Heap} {K : AV → Heap → Prop} (h : W82 v0 H K) : CallT Try.prog 82 [v0] H K :=
  CallT.of_wp (D := D82) tab_ok mixed Try.func82 (c := bodyOf Try.f82) (by kernel_rfl) rfl (by kernel_rfl) (rs := #[.tmp 2]) rfl (by decide +kernel) (by kernel_rfl) (W82_wp v0 H K) h
theorem W82_hb : HasBody Try.prog 82 := ⟨_, bodyOf Try.f82, Try.func82, by kernel_rfl, rfl⟩
theorem L82_0_rule {K : AV → Heap → Prop} {v1 v22 v23 v24 : AV} {H : Heap} {σ : Type} (s0 : σ) (f24 : σ → AV) (TH : σ → Heap) (pre : σ → Prop) (μ : σ → Nat)
    (h0 : pre s0 ∧ AV.wk v24 (f24 s0) ∧ Heap.le (TH s0) H)
    (round : ∀ s, pre s → B82_0 K (fun w24 H' => ∃ s', pre s' ∧ μ s' < μ s ∧ AV.wk w24 (f24 s') ∧ Heap.le (TH s') H') v1 v22 v23 (f24 s) (TH s)) :
    L82_0 K v1 v22 v23 v24 H := by
  unfold L82_0
  exact LoopV.mk s0 (fun s => [f24 s]) TH pre μ (fun _ => rfl) (Eq.mp (by kernel_rfl) h0) (fun s hs => Eq.mp (by kernel_rfl) (round s hs))
theorem L82_0_ruleG {K : AV → Heap → Prop} {v1 v22 v23 v24 : AV} {H : Heap} {σ : Type} (s0 : σ) (f24 : σ → AV) (TH : σ → Heap) (pre : σ → Prop) (μ : σ → Nat)
    (h0 : pre s0 ∧ AV.wk v24 (f24 s0) ∧ Heap.le (TH s0) H)
    (round : ∀ s, pre s → ∀ q, TH s q = none → B82_0 K (fun w24 H' => ∃ s', pre s' ∧ μ s' < μ s ∧ AV.wk w24 (f24 s') ∧ Heap.le (TH s') H') v1 v22 v23 (f24 s) ((TH s).set q [])) :
    L82_0 K v1 v22 v23 v24 H := by
  unfold L82_0
  exact LoopV.mkG s0 (fun s => [f24 s]) TH pre μ (fun _ => rfl) (Eq.mp (by kernel_rfl) h0) (fun s hs q hq => Eq.mp (by kernel_rfl) (round s hs q hq))
/-- loop.example/g00649/spec.l6For -/
def D83 : Info := ⟨168, fun i => ([], []), fun i => if i = 3 then ([1, 2, 4, 5, 17, 18], [19]) else if i = 21 then ([1, 4, 5, 138, 139], [140]) else ([], [])⟩
def L83_0 (K : AV → Heap → Prop) (v1 : AV) (v2 : AV) (v4 : AV) (v5 : AV) (v17 : AV) (v18 : AV) (v19 : AV) (H : Heap) : Prop := LoopV (wpC Try.prog tab D83 (cAt [1, 1, 0, 1, 0, 0] (bodyOf Try.f83))) [1, 2, 4, 5, 17, 18] (PostF.block 0 (PostF.thenA (wpC Try.prog tab D83 (cAt [1, 1, 1] (bodyOf Try.f83))) (retF tab [.cell 4 43] K))) [19] [AV.any, v1, v2, AV.any, v4, v5, AV.any, AV.any, AV.any, AV.any, AV.any, AV.any, AV.any, AV.any, AV.any, AV.any, AV.any, v17, v18, v19, AV.any, AV.any, AV.any, AV.any, AV.any, AV.any, AV.any, AV.any, AV.any, AV.any, AV.any, AV.any, AV.any, AV.any, AV.any, AV.any, AV.any, AV.any, AV.any, AV.any, AV.any, AV.any, AV.any, AV.any, AV.any, AV.any, AV.any, AV.any, AV.any, AV.any, AV.any, AV.any, AV.any, AV.any, AV.any, AV.any, AV.any, AV.any, AV.any, AV.any, AV.any, AV.any, AV.any, AV.any, AV.any, AV.any, AV.any, AV.any, AV.any, AV.any, AV.any, AV.any, AV.any, AV.any, AV.any, AV.any, AV.any, AV.any, AV.any, AV.any, AV.any, AV.any, AV.any, AV.any, AV.any, AV.any, AV.any, AV.any, AV.any, AV.any, AV.any, AV.any, AV.any, AV.any, AV.any, AV.any, AV.any, AV.any, AV.any, AV.any, AV.any, AV.any, AV.any, AV.any, AV.any, AV.any, AV.any, AV.any, AV.any, AV.any, AV.any, AV.any, AV.any, AV.any, AV.any, AV.any, AV.any, AV.any, AV.any, AV.any, AV.any, AV.any, AV.any, AV.any, AV.any, AV.any, AV.any, AV.any, AV.any, AV.any, AV.any, AV.any, AV.any, AV.any, AV.any, AV.any, AV.any, AV.any, AV.any, AV.any, AV.any, AV.any, AV.any, AV.any, AV.any, AV.any, AV.any, AV.any, AV.any, AV.any, AV.any, AV.any, AV.any, AV.any, AV.any, AV.any, AV.any, AV.any, AV.any, AV.any, AV.any, AV.any, AV.any, AV.any, AV.any, AV.any, AV.any, AV.any] H
def L83_1 (K : AV → Heap → Prop) (v1 : AV) (v4 : AV) (v5 : AV) (v138 : AV) (v139 : AV) (v140 : AV) (H : Heap) : Prop := LoopV (wpC Try.prog tab D83 (cAt [1, 1, 1, 0, 1, 0, 0] (bodyOf Try.f83))) [1, 4, 5, 138, 139] (PostF.block 3 (PostF.thenA (wpC Try.prog tab D83 (cAt [1, 1, 1, 1] (bodyOf Try.f83))) (retF tab [.cell 4 43] K))) [140] [AV.any, v1, AV.any, AV.any, v4, v5, AV.any, AV.any, AV.any, AV.any, AV.any, AV.any, AV.any, AV.any, AV.any, AV.any, AV.any, AV.any, AV.any, AV.any, AV.any, AV.any, AV.any, AV.any, AV.any, AV.any, AV.any, AV.any, AV.any, AV.any, AV.any, AV.any, AV.any, AV.any, AV.any, AV.any, AV.any, AV.any, AV.any, AV.any, AV.any, AV.any, AV.any, AV.any, AV.any, AV.any, AV.any, AV.any, AV.any, AV.any, AV.any, AV.any, AV.any, AV.any, AV.any, AV.any, AV.any, AV.any, AV.any, AV.any, AV.any, AV.any, AV.any, AV.any, AV.any, AV.any, AV.any, AV.any, AV.any, AV.any, AV.any, AV.any, AV.any, AV.any, AV.any, AV.any, AV.any, AV.any, AV.any, AV.any, AV.any, AV.any, AV.any, AV.any, AV.any, AV.any, AV.any, AV.any, AV.any, AV.any, AV.any, AV.any, AV.any, AV.any, AV.any, AV.any, AV.any, AV.any, AV.any, AV.any, AV.any, AV.any, AV.any, AV.any, AV.any, AV.any, AV.any, AV.any, AV.any, AV.any, AV.any, AV.any, AV.any, AV.any, AV.any, AV.any, AV.any, AV.any, AV.any, AV.any, AV.any, AV.any, AV.any, AV.any, AV.any, AV.any, AV.any, AV.any, AV.any, AV.any, AV.any, AV.any, AV.any, AV.any, AV.any, AV.any, AV.any, AV.any, v138, v139, v140, AV.any, AV.any, AV.any, AV.any, AV.any, AV.any, AV.any, AV.any, AV.any, AV.any, AV.any, AV.any, AV.any, AV.any, AV.any, AV.any, AV.any, AV.any, AV.any, AV.any, AV.any, AV.any, AV.any, AV.any, AV.any, AV.any, AV.any] H
def B83_1 (K : AV → Heap → Prop) (N1 : AV → Heap → Prop) (v1 : AV) (v4 : AV) (v5 : AV) (v138 : AV) (v139 : AV) (v140 : AV) (H : Heap) : Prop :=
 binV tab .lss 3 v140 v139 fun v141 =>
 condV v141 (indexAddrV tab 24 v138 v140 fun v143 =>
 loadV tab 3 v143 H fun v144 =>
 indexAddrV tab 38 v1 v140 fun v147 =>
 loadV tab 4 v147 H fun v148 =>
 condV v148 (fieldAddrV tab 43 v5 1 fun v149 =>
 loadV tab 41 v149 H fun v150 =>
 binV tab .add 3 v144 (AV.p (.int .i64 1)) fun v152 =>
 buildSliceV tab 24 1 [(0, v152)] H (wkK fun v153 H36 =>
 buildSliceV tab 41 1 [(0, v153)] H36 (wkK fun v154 H37 =>
 appendV tab 41 41 v150 v154 H37 (wkK fun v155 H38 =>
 fieldAddrV tab 43 v5 1 fun v156 =>
 storeV tab 41 v156 v155 H38 fun H39 =>
 binV tab .add 3 v140 (AV.p (.int .i64 1)) fun v166 =>
 N1 v166 H39))))
 (fieldAddrV tab 43 v5 1 fun v157 =>
 loadV tab 41 v157 H fun v158 =>
 unV .neg v144 fun v160 =>
 binV tab .sub 3 v160 (AV.p (.int .i64 1)) fun v161 =>
 buildSliceV tab 24 1 [(0, v161)] H (wkK fun v162 H40 =>
 buildSliceV tab 41 1 [(0, v162)] H40 (wkK fun v163 H41 =>
 appendV tab 41 41 v158 v163 H41 (wkK fun v164 H42 =>
 fieldAddrV tab 43 v5 1 fun v165 =>
 storeV tab 41 v165 v164 H42 fun H43 =>
 binV tab .add 3 v140 (AV.p (.int .i64 1)) fun v166 =>
 N1 v166 H43)))))
 (loadV tab 43 v5 H fun v167 =>
 storeV tab 43 v4 v167 H fun H44 =>
 loadV tab 43 v4 H44 fun r0 =>
 K r0 H44)
def B83_0 (K : AV → Heap → Prop) (N1 : AV → Heap → Prop) (v1 : AV) (v2 : AV) (v4 : AV) (v5 : AV) (v17 : AV) (v18 : AV) (v19 : AV) (H : Heap) : Prop :=
 binV tab .lss 3 v19 v18 fun v20 =>
 condV v20 (indexAddrV tab 35 v17 v19 fun v22 =>
 loadV tab 106 v22 H fun v23 =>
 allocV tab 106 H fun v7 H6 =>
 storeV tab 106 v7 v23 H6 fun H7 =>
 fieldAddrV tab 37 v2 0 fun v24 =>
 loadV tab 3 v24 H7 fun v25 =>
 binV tab .add 3 v25 v19 fun v27 =>
 binV tab .add 3 v27 (AV.p (.int .i64 1)) fun v28 =>
 fieldAddrV tab 106 v7 1 fun v29 =>
 loadV tab 3 v29 H7 fun v30 =>
 binV tab .add 3 v30 (AV.p (.int .i64 1)) fun v31 =>
 fieldAddrV tab 106 v7 2 fun v32 =>
 loadV tab 3 v32 H7 fun v33 =>
 binV tab .add 3 v33 (AV.p (.int .i64 1)) fun v34 =>
 fieldAddrV tab 106 v7 0 fun v35 =>
 loadV tab 3 v35 H7 fun v36 =>
 binV tab .eql 3 v36 (AV.p (.int .i64 1)) fun v38 =>
 condV v38 (fieldAddrV tab 43 v5 1 fun v39 =>
 loadV tab 41 v39 H7 fun v40 =>
 fieldAddrV tab 106 v7 1 fun v42 =>
 loadV tab 3 v42 H7 fun v43 =>
 binV tab .mul 3 (AV.p (.int .i64 2)) v43 fun v44 =>
 binV tab .sub 3 v44 (AV.p (.int .i64 1)) fun v45 =>
 binV tab .mul 3 v28 v45 fun v46 =>
 buildSliceV tab 24 1 [(0, v46)] H7 (wkK fun v47 H8 =>
 buildSliceV tab 41 1 [(0, v47)] H8 (wkK fun v48 H9 =>
 appendV tab 41 41 v40 v48 H9 (wkK fun v49 H10 =>
 fieldAddrV tab 43 v5 1 fun v50 =>
 storeV tab 41 v50 v49 H10 fun H11 =>
 binV tab .add 3 v19 (AV.p (.int .i64 1)) fun v136 =>
 N1 v136 H11))))
 (binV tab .eql 3 v36 (AV.p (.int .i64 2)) fun v52 =>
 condV v52 (fieldAddrV tab 43 v5 1 fun v53 =>
 loadV tab 41 v53 H7 fun v54 =>
 buildSliceV tab 24 2 [(0, v28), (1, v31)] H7 (wkK fun v57 H12 =>
 unV .neg v28 fun v59 =>
 unV .neg v31 fun v61 =>
 buildSliceV tab 24 2 [(0, v59), (1, v61)] H12 (wkK fun v62 H13 =>
 buildSliceV tab 41 2 [(0, v57), (1, v62)] H13 (wkK fun v63 H14 =>
 appendV tab 41 41 v54 v63 H14 (wkK fun v64 H15 =>
 fieldAddrV tab 43 v5 1 fun v65 =>
 storeV tab 41 v65 v64 H15 fun H16 =>
 binV tab .add 3 v19 (AV.p (.int .i64 1)) fun v136 =>
 N1 v136 H16)))))
 (binV tab .eql 3 v36 (AV.p (.int .i64 3)) fun v67 =>
 condV v67 (fieldAddrV tab 43 v5 1 fun v68 =>
 loadV tab 41 v68 H7 fun v69 =>
 unV .neg v28 fun v71 =>
 buildSliceV tab 24 2 [(0, v71), (1, v31)] H7 (wkK fun v73 H17 =>
 unV .neg v28 fun v75 =>
 buildSliceV tab 24 2 [(0, v75), (1, v34)] H17 (wkK fun v77 H18 =>
 unV .neg v31 fun v80 =>
 unV .neg v34 fun v82 =>
 buildSliceV tab 24 3 [(0, v28), (1, v80), (2, v82)] H18 (wkK fun v83 H19 =>
 buildSliceV tab 41 3 [(0, v73), (1, v77), (2, v83)] H19 (wkK fun v84 H20 =>
 appendV tab 41 41 v69 v84 H20 (wkK fun v85 H21 =>
 fieldAddrV tab 43 v5 1 fun v86 =>
 storeV tab 41 v86 v85 H21 fun H22 =>
 binV tab .add 3 v19 (AV.p (.int .i64 1)) fun v136 =>
 N1 v136 H22))))))
 (binV tab .eql 3 v36 (AV.p (.int .i64 4)) fun v88 =>
 condV v88 (fieldAddrV tab 43 v5 1 fun v89 =>
 loadV tab 41 v89 H7 fun v90 =>
 unV .neg v31 fun v93 =>
 buildSliceV tab 24 2 [(0, v28), (1, v93)] H7 (wkK fun v94 H23 =>
 unV .neg v34 fun v97 =>
 buildSliceV tab 24 2 [(0, v28), (1, v97)] H23 (wkK fun v98 H24 =>
 unV .neg v28 fun v100 =>
 buildSliceV tab 24 3 [(0, v100), (1, v31), (2, v34)] H24 (wkK fun v103 H25 =>
 buildSliceV tab 41 3 [(0, v94), (1, v98), (2, v103)] H25 (wkK fun v104 H26 =>
 appendV tab 41 41 v90 v104 H26 (wkK fun v105 H27 =>
 fieldAddrV tab 43 v5 1 fun v106 =>
 storeV tab 41 v106 v105 H27 fun H28 =>
 binV tab .add 3 v19 (AV.p (.int .i64 1)) fun v136 =>
 N1 v136 H28))))))
 (binV tab .eql 3 v36 (AV.p (.int .i64 5)) fun v108 =>
 condV v108 (fieldAddrV tab 43 v5 1 fun v109 =>
 loadV tab 41 v109 H7 fun v110 =>
 unV .neg v28 fun v112 =>
 buildSliceV tab 24 3 [(0, v112), (1, v31), (2, v34)] H7 (wkK fun v115 H29 =>
 unV .neg v28 fun v117 =>
 unV .neg v31 fun v119 =>
 unV .neg v34 fun v121 =>
 buildSliceV tab 24 3 [(0, v117), (1, v119), (2, v121)] H29 (wkK fun v122 H30 =>
 unV .neg v31 fun v125 =>
 buildSliceV tab 24 3 [(0, v28), (1, v125), (2, v34)] H30 (wkK fun v127 H31 =>
 unV .neg v34 fun v131 =>
 buildSliceV tab 24 3 [(0, v28), (1, v31), (2, v131)] H31 (wkK fun v132 H32 =>
 buildSliceV tab 41 4 [(0, v115), (1, v122), (2, v127), (3, v132)] H32 (wkK fun v133 H33 =>
 appendV tab 41 41 v110 v133 H33 (wkK fun v134 H34 =>
 fieldAddrV tab 43 v5 1 fun v135 =>
 storeV tab 41 v135 v134 H34 fun H35 =>
 binV tab .add 3 v19 (AV.p (.int .i64 1)) fun v136 =>
 N1 v136 H35)))))))
 (binV tab .add 3 v19 (AV.p (.int .i64 1)) fun v136 =>
 N1 v136 H7))))))
 (fieldAddrV tab 37 v2 2 fun v137 =>
 loadV tab 24 v137 H fun v138 =>
 lenV tab 24 v138 fun v139 =>
 L83_1 K v1 v4 v5 v138 v139 (AV.p (.int .i64 0)) H)
def W83 (v0 : AV) (v1 : AV) (H : Heap) (K : AV → Heap → Prop) : Prop :=
 boxV v0 H fun v2 H1 =>
 allocV tab 43 H1 fun v4 H2 =>
 loadV tab 37 v2 H2 fun v13 =>
 CallT Try.prog 139 [v13] H2 fun v14 H3 =>
 buildV tab 43 [(0, v14)] fun v15 =>
 allocV tab 43 H3 fun v5 H4 =>
 storeV tab 43 v5 v15 H4 fun H5 =>
 fieldAddrV tab 37 v2 1 fun v16 =>
 loadV tab 35 v16 H5 fun v17 =>
 lenV tab 35 v17 fun v18 =>
 L83_0 K v1 v2 v4 v5 v17 v18 (AV.p (.int .i64 0)) H5
theorem W83_wp (v0 : AV) (v1 : AV) (H : Heap) (K : AV → Heap → Prop) : wpC Try.prog tab D83 (bodyOf Try.f83) (retF tab [.cell 4 43] K) (nthA [v0, v1]) H = W83 v0 v1 H K := by kernel_rfl
theorem W83_ok {v0 v1 : AV} {H : Heap} {K : AV → Heap → Prop} (h : W83 v0 v1 H K) : CallT Try.prog 83 [v0, v1] H K :=
  CallT.of_wp (D := D83) tab_ok mixed Try.func83 (c := bodyOf Try.f83) (by kernel_rfl) rfl (by kernel_rfl) (rs := #[.cell 4 43]) rfl (by decide +kernel) (by kernel_rfl) (W83_wp v0 v1 H K) h
theorem W83_hb : HasBody Try.prog 83 := ⟨_, bodyOf Try.f83, Try.func83, by kernel_rfl, rfl⟩
theorem L83_1_rule {K : AV → Heap → Prop} {v1 v4 v5 v138 v139 v140 : AV} {H : Heap} {σ : Type} (s0 : σ) (f140 : σ → AV) (TH : σ → Heap) (pre : σ → Prop) (μ : σ → Nat)
    (h0 : pre s0 ∧ AV.wk v140 (f140 s0) ∧ Heap.le (TH s0) H)
    (round : ∀ s, pre s → B83_1 K (fun w140 H' => ∃ s', pre s' ∧ μ s' < μ s ∧ AV.wk w140 (f140 s') ∧ Heap.le (TH s') H') v1 v4 v5 v138 v139 (f140 s) (TH s)) :
    L83_1 K v1 v4 v5 v138 v139 v140 H := by
  unfold L83_1
  exact LoopV.mk s0 (fun s => [f140 s]) TH pre μ (fun _ => rfl) (Eq.mp (by kernel_rfl) h0) (fun s hs => Eq.mp (by kernel_rfl) (round s hs))
theorem L83_1_ruleG {K : AV → Heap → Prop} {v1 v4 v5 v138 v139 v140 : AV} {H : Heap} {σ : Type} (s0 : σ) (f140 : σ → AV) (TH : σ → Heap) (pre : σ → Prop) (μ : σ → Nat)
    (h0 : pre s0 ∧ AV.wk v140 (f140 s0) ∧ Heap.le (TH s0) H)
    (round : ∀ s, pre s → ∀ q, TH s q = none → B83_1 K (fun w140 H' => ∃ s', pre s' ∧ μ s' < μ s ∧ AV.wk w140 (f140 s') ∧ Heap.le (TH s') H') v1 v4 v5 v138 v139 (f140 s) ((TH s).set q [])) :
    L83_1 K v1 v4 v5 v138 v139 v140 H := by
  unfold L83_1
  exact LoopV.mkG s0 (fun s => [f140 s]) TH pre μ (fun _ => rfl) (Eq.mp (by kernel_rfl) h0) (fun s hs q hq => Eq.mp (by kernel_rfl) (round s hs q hq))
theorem L83_0_rule {K : AV → Heap → Prop} {v1 v2 v4 v5 v17 v18 v19 : AV} {H : Heap} {σ : Type} (s0 : σ) (f19 : σ → AV) (TH : σ → Heap) (pre : σ → Prop) (μ : σ → Nat)
    (h0 : pre s0 ∧ AV.wk v19 (f19 s0) ∧ Heap.le (TH s0) H)
    (round : ∀ s, pre s → B83_0 K (fun w19 H' => ∃ s', pre s' ∧ μ s' < μ s ∧ AV.wk w19 (f19 s') ∧ Heap.le (TH s') H') v1 v2 v4 v5 v17 v18 (f19 s) (TH s)) :
    L83_0 K v1 v2 v4 v5 v17 v18 v19 H := by
  unfold L83_0
  exact LoopV.mk s0 (fun s => [f19 s]) TH pre μ (fun _ => rfl) (Eq.mp (by kernel_rfl) h0) (fun s hs => Eq.mp (by kernel_rfl) (round s hs))
theorem L83_0_ruleG {K : AV → Heap → Prop} {v1 v2 v4 v5 v17 v18 v19 : AV} {H : Heap} {σ : Type} (s0 : σ) (f19 : σ → AV) (TH : σ → Heap) (pre : σ → Prop) (μ : σ → Nat)
    (h0 : pre s0 ∧ AV.wk v19 (f19 s0) ∧ Heap.le (TH s0) H)
    (round : ∀ s, pre s → ∀ q, TH s q = none → B83_0 K (fun w19 H' => ∃ s', pre s' ∧ μ s' < μ s ∧ AV.wk w19 (f19 s') ∧ Heap.le (TH s') H') v1 v2 v4 v5 v17 v18 (f19 s) ((TH s).set q [])) :
    L83_0 K v1 v2 v4 v5 v17 v18 v19 H := by
  unfold L83_0
  exact LoopV.mkG s0 (fun s => [f19 s]) TH pre μ (fun _ => rfl) (Eq.mp (by kernel_rfl) h0) (fun s hs q hq => Eq.mp (by kernel_rfl) (round s hs q hq))
/-- (loop.example/g00649/impl.Circuit).allWires -/
def D84 : Info := ⟨78, fun i => if i = 14 then ([[], [], [1], [0, 1, 2], [0, 1, 2, 3], [], [], [6], [5, 6, 7], [5, 6, 7, 8], [0, 1, 2, 3, 4, 5, 6, 7, 8, 9], [0, 1, 2, 3, 4, 5, 6, 7, 8, 9, 10]], [(0, []), (1, []), (2, []), (3, []), (4, []), (5, []), (6, []), (7, []), (8, []), (9, []), (10, []), (11, [])]) else ([], []), fun i => if i = 3 then ([12, 13], [5, 14]) else ([], [])⟩
def L84_0 (K : AV → Heap → Prop) (v5 : AV) (v12 : AV) (v13 : AV) (v14 : AV) (H : Heap) : Prop := LoopV (wpC Try.prog tab D84 (cAt [1, 1, 0, 1, 0, 0] (bodyOf Try.f84))) [12, 13] (PostF.block 0 (PostF.thenA (wpC Try.prog tab D84 (cAt [1, 1, 1] (bodyOf Try.f84))) (retF tab [.tmp 4] K))) [5, 14] [AV.any, AV.any, AV.any, AV.any, AV.any, v5, AV.any, AV.any, AV.any, AV.any, AV.any, AV.any, v12, v13, v14, AV.any, AV.any, AV.any, AV.any, AV.any, AV.any, AV.any, AV.any, AV.any, AV.any, AV.any, AV.any, AV.any, AV.any, AV.any, AV.any, AV.any, AV.any, AV.any, AV.any, AV.any, AV.any, AV.any, AV.any, AV.any, AV.any, AV.any, AV.any, AV.any, AV.any, AV.any, AV.any, AV.any, AV.any, AV.any, AV.any, AV.any, AV.any, AV.any, AV.any, AV.any, AV.any, AV.any, AV.any, AV.any, AV.any, AV.any, AV.any, AV.any, AV.any, AV.any, AV.any, AV.any, AV.any, AV.any, AV.any, AV.any, AV.any, AV.any, AV.any, AV.any, AV.any, AV.any] H
def J84_1 (K : AV → Heap → Prop) (N1 : AV → AV → Heap → Prop) (v5 : AV) (v8 : AV) (v12 : AV) (v13 : AV) (v14 : AV) (H : Heap) : Prop :=
 buildSliceV tab 38 1 [(0, v8)] H (wkK fun v74 H5 =>
 appendV tab 38 38 v5 v74 H5 (wkK fun v75 H6 =>
 binV tab .add 3 v14 (AV.p (.int .i64 1)) fun v76 =>
 N1 v75 v76 H6))
def B84_0 (K : AV → Heap → Prop) (N1 : AV → AV → Heap → Prop) (v5 : AV) (v12 : AV) (v13 : AV) (v14 : AV) (H : Heap) : Prop :=
 binV tab .lss 3 v14 v13 fun v15 =>
 condV v15 (indexAddrV tab 35 v12 v14 fun v16 =>
 loadV tab 106 v16 H fun v17 =>
 allocV tab 106 H fun v7 H3 =>
 storeV tab 106 v7 v17 H3 fun H4 =>
 fieldAddrV tab 106 v7 1 fun v18 =>
 loadV tab 3 v18 H4 fun v19 =>
 binV tab .eql 3 v19 (AV.p (.int .i64 1)) fun v20 =>
 fieldAddrV tab 106 v7 0 fun v21 =>
 loadV tab 3 v21 H4 fun v22 =>
 binV tab .eql 3 v22 (AV.p (.int .i64 2)) fun v24 =>
 condV v24 (fieldAddrV tab 106 v7 1 fun v26 =>
 loadV tab 3 v26 H4 fun v27 =>
 indexAddrV tab 38 v5 v27 fun v28 =>
 loadV tab 4 v28 H4 fun v29 =>
 unV .not v29 fun v30 =>
 J84_1 K N1 v5 v30 v12 v13 v14 H4)
 (binV tab .eql 3 v22 (AV.p (.int .i64 3)) fun v32 =>
 condV v32 (fieldAddrV tab 106 v7 1 fun v34 =>
 loadV tab 3 v34 H4 fun v35 =>
 indexAddrV tab 38 v5 v35 fun v36 =>
 loadV tab 4 v36 H4 fun v37 =>
 grdV v37 true (fieldAddrV tab 106 v7 2 fun v40 =>
 loadV tab 3 v40 H4 fun v41 =>
 indexAddrV tab 38 v5 v41 fun v42 =>
 loadV tab 4 v42 H4 fun v43 =>
 J84_1 K N1 v5 v43 v12 v13 v14 H4)
 (buildSliceV tab 38 1 [(0, (AV.p (.bool false)))] H4 (wkK fun v74 H7 =>
 appendV tab 38 38 v5 v74 H7 (wkK fun v75 H8 =>
 binV tab .add 3 v14 (AV.p (.int .i64 1)) fun v76 =>
 N1 v75 v76 H8))))
 (binV tab .eql 3 v22 (AV.p (.int .i64 4)) fun v46 =>
 condV v46 (fieldAddrV tab 106 v7 1 fun v48 =>
 loadV tab 3 v48 H4 fun v49 =>
 indexAddrV tab 38 v5 v49 fun v50 =>
 loadV tab 4 v50 H4 fun v51 =>
 grdV v51 false (fieldAddrV tab 106 v7 2 fun v54 =>
 loadV tab 3 v54 H4 fun v55 =>
 indexAddrV tab 38 v5 v55 fun v56 =>
 loadV tab 4 v56 H4 fun v57 =>
 J84_1 K N1 v5 v57 v12 v13 v14 H4)
 (buildSliceV tab 38 1 [(0, (AV.p (.bool true)))] H4 (wkK fun v74 H9 =>
 appendV tab 38 38 v5 v74 H9 (wkK fun v75 H10 =>
 binV tab .add 3 v14 (AV.p (.int .i64 1)) fun v76 =>
 N1 v75 v76 H10))))
 (binV tab .eql 3 v22 (AV.p (.int .i64 5)) fun v60 =>
 condV v60 (fieldAddrV tab 106 v7 1 fun v62 =>
 loadV tab 3 v62 H4 fun v63 =>
 indexAddrV tab 38 v5 v63 fun v64 =>
 loadV tab 4 v64 H4 fun v65 =>
 fieldAddrV tab 106 v7 2 fun v67 =>
 loadV tab 3 v67 H4 fun v68 =>
 indexAddrV tab 38 v5 v68 fun v69 =>
 loadV tab 4 v69 H4 fun v70 =>
 binV tab .neq 4 v65 v70 fun v71 =>
 J84_1 K N1 v5 v71 v12 v13 v14 H4)
 (J84_1 K N1 v5 v20 v12 v13 v14 H4)))))
 (K v5 H)
def W84 (v0 : AV) (v1 : AV) (H : Heap) (K : AV → Heap → Prop) : Prop :=
 boxV v0 H fun v2 H1 =>
 CallT Try.prog 144 [v1] H1 fun v10 H2 =>
 fieldAddrV tab 37 v2 1 fun v11 =>
 loadV tab 35 v11 H2 fun v12 =>
 lenV tab 35 v12 fun v13 =>
 L84_0 K v10 v12 v13 (AV.p (.int .i64 0)) H2
theorem W84_wp (v0 : AV) (v1 : AV) (H : Heap) (K : AV → Heap → Prop) : wpC Try.prog tab D84 (bodyOf Try.f84) (retF tab [.tmp 4] K) (nthA [v0, v1]) H = W84 v0 v1 H K := by kernel_rfl
theorem W84_ok {v0 v1 : AV} {H : Heap} {K : AV → Heap → Prop} (h : W84 v0 v1 H K) : CallT Try.prog 84 [v0, v1] H K :=
  CallT.of_wp (D := D84) tab_ok mixed Try.func84 (c := bodyOf Try.f84) (by kernel_rfl) rfl (by kernel_rfl) (rs := #[.tmp 4]) rfl (by decide +kernel) (by kernel_rfl) (W84_wp v0 v1 H K) h
theorem W84_hb : HasBody Try.prog 84 := ⟨_, bodyOf Try.f84, Try.func84, by kernel_rfl, rfl⟩
theorem L84_0_rule {K : AV → Heap → Prop} {v5 v12 v13 v14 : AV} {H : Heap} {σ : Type} (s0 : σ) (f5 : σ → AV) (f14 : σ → AV) (TH : σ → Heap) (pre : σ → Prop) (μ : σ → Nat)
    (h0 : pre s0 ∧ AV.wk v5 (f5 s0) ∧ AV.wk v14 (f14 s0) ∧ Heap.le (TH s0) H)
    (round : ∀ s, pre s → B84_0 K (fun w5 w14 H' => ∃ s', pre s' ∧ μ s' < μ s ∧ AV.wk w5 (f5 s') ∧ AV.wk w14 (f14 s') ∧ Heap.le (TH s') H') (f5 s) v12 v13 (f14 s) (TH s)) :
    L84_0 K v5 v12 v13 v14 H := by
  unfold L84_0
  exact LoopV.mk s0 (fun s => [f5 s, f14 s]) TH pre μ (fun _ => rfl) (Eq.mp (by kernel_rfl) h0) (fun s hs => Eq.mp (by kernel_rfl) (round s hs))
theorem L84_0_ruleG {K : AV → Heap → Prop} {v5 v12 v13 v14 : AV} {H : Heap} {σ : Type} (s0 : σ) (f5 : σ → AV) (f14 : σ → AV) (TH : σ → Heap) (pre : σ → Prop) (μ : σ → Nat)
    (h0 : pre s0 ∧ AV.wk v5 (f5 s0) ∧ AV.wk v14 (f14 s0) ∧ Heap.le (TH s0) H)
    (round : ∀ s, pre s → ∀ q, TH s q = none → B84_0 K (fun w5 w14 H' => ∃ s', pre s' ∧ μ s' < μ s ∧ AV.wk w5 (f5 s') ∧ AV.wk w14 (f14 s') ∧ Heap.le (TH s') H') (f5 s) v12 v13 (f14 s) ((TH s).set q [])) :
    L84_0 K v5 v12 v13 v14 H := by
  unfold L84_0
  exact LoopV.mkG s0 (fun s => [f5 s, f14 s]) TH pre μ (fun _ => rfl) (Eq.mp (by kernel_rfl) h0) (fun s hs q hq => Eq.mp (by kernel_rfl) (round s hs q hq))
/-- (loop.example/g00649/impl.Cnf).meets -/
def D85 : Info := ⟨10, fun i => ([], []), fun i => ([], [])⟩
def W85 (v0 : AV) (v1 : AV) (H : Heap) (K : AV → Heap → Prop) : Prop :=
 boxV v0 H fun v2 H1 =>
 boxV v1 H1 fun v3 H2 =>
 fieldAddrV tab 43 v2 1 fun v5 =>
 loadV tab 41 v5 H2 fun v6 =>
 CallT Try.prog 116 [v6, (.fn 145 [v3])] H2 fun v8 H3 =>
 unV .not v8 fun v9 =>
 K v9 H3
theorem W85_wp (v0 : AV) (v1 : AV) (H : Heap) (K : AV → Heap → Prop) : wpC Try.prog tab D85 (bodyOf Try.f85) (retF tab [.tmp 4] K) (nthA [v0, v1]) H = W85 v0 v1 H K := by kernel_rfl
theorem W85_ok {v0 v1 : AV} {H : Heap} {K : AV → Heap → Prop} (h : W85 v0 v1 H K) : CallT Try.prog 85 [v0, v1] H K :=
  CallT.of_wp (D := D85) tab_ok mixed Try.func85 (c := bodyOf Try.f85) (by kernel_rfl) rfl (by kernel_rfl) (rs := #[.tmp 4]) rfl (by decide +kernel) (by kernel_rfl) (W85_wp v0 v1 H K) h
theorem W85_hb : HasBody Try.prog 85 := ⟨_, bodyOf Try.f85, Try.func85, by kernel_rfl, rfl⟩
/-- (*loop.example/g00649/spec.l1Cur).among -/
def D108 : Info := ⟨12, fun i => ([], []), fun i => ([], [])⟩
def W108 (v0 : AV) (v1 : AV) (H : Heap) (K : AV → Heap → Prop) : Prop :=
 lenV tab 24 v1 fun v8 =>
 CallT Try.prog 67 [v0, v8] H fun v9 H1 =>
 indexAddrV tab 24 v1 v9 fun v10 =>
 loadV tab 3 v10 H1 fun v11 =>
 K v11 H1
theorem W108_wp (v0 : AV) (v1 : AV) (H : Heap) (K : AV → Heap → Prop) : wpC Try.prog tab D108 (bodyOf Try.f108) (retF tab [.tmp 4] K) (nthA [v0, v1]) H = W108 v0 v1 H K := by kernel_rfl
theorem W108_ok {v0 v1 : AV} {H : Heap} {K : AV → Heap → Prop} (h : W108 v0 v1 H K) : CallT Try.prog 108 [v0, v1] H K :=
  CallT.of_wp (D := D108) tab_ok mixed Try.func108 (c := bodyOf Try.f108) (by kernel_rfl) rfl (by kernel_rfl) (rs := #[.tmp 4]) rfl (by decide +kernel) (by kernel_rfl) (W108_wp v0 v1 H K) h
theorem W108_hb : HasBody Try.prog 108 := ⟨_, bodyOf Try.f108, Try.func108, by kernel_rfl, rfl⟩
/-- slices.ContainsFunc[[][]int,[]int] -/
def D116 : Info := ⟨9, fun i => ([], []), fun i => ([], [])⟩
def W116 (v0 : AV) (v1 : AV) (H : Heap) (K : AV → Heap → Prop) : Prop :=
 CallT Try.prog 160 [v0, v1] H fun v7 H1 =>
 binV tab .geq 3 v7 (AV.p (.int .i64 0)) fun v8 =>
 K v8 H1
theorem W116_wp (v0 : AV) (v1 : AV) (H : Heap) (K : AV → Heap → Prop) : wpC Try.prog tab D116 (bodyOf Try.f116) (retF tab [.tmp 4] K) (nthA [v0, v1]) H = W116 v0 v1 H K := by kernel_rfl
theorem W116_ok {v0 v1 : AV} {H : Heap} {K : AV → Heap → Prop} (h : W116 v0 v1 H K) : CallT Try.prog 116 [v0, v1] H K :=
  CallT.of_wp (D := D116) tab_ok mixed Try.func116 (c := bodyOf Try.f116) (by kernel_rfl) rfl (by kernel_rfl) (rs := #[.tmp 4]) rfl (by decide +kernel) (by kernel_rfl) (W116_wp v0 v1 H K) h
theorem W116_hb : HasBody Try.prog 116 := ⟨_, bodyOf Try.f116, Try.func116, by kernel_rfl, rfl⟩
/-- loop.example/g00649/impl.GoodCnf$1 -/
def D117 : Info := ⟨9, fun i => ([], []), fun i => ([], [])⟩
def W117 (v0 : AV) (v1 : AV) (H : Heap) (K : AV → Heap → Prop) : Prop :=
 fieldAddrV tab 43 v1 0 fun v5 =>
 loadV tab 3 v5 H fun v6 =>
 CallT Try.prog 118 [v0, v6] H fun v7 H1 =>
 unV .not v7 fun v8 =>
 K v8 H1
theorem W117_wp (v0 : AV) (v1 : AV) (H : Heap) (K : AV → Heap → Prop) : wpC Try.prog tab D117 (bodyOf Try.f117) (retF tab [.tmp 3] K) (nthA [v0, v1]) H = W117 v0 v1 H K := by kernel_rfl
theorem W117_ok {v0 v1 : AV} {H : Heap} {K : AV → Heap → Prop} (h : W117 v0 v1 H K) : CallT Try.prog 117 [v0, v1] H K :=
  CallT.of_wp (D := D117) tab_ok mixed Try.func117 (c := bodyOf Try.f117) (by kernel_rfl) rfl (by kernel_rfl) (rs := #[.tmp 3]) rfl (by decide +kernel) (by kernel_rfl) (W117_wp v0 v1 H K) h
theorem W117_hb : HasBody Try.prog 117 := ⟨_, bodyOf Try.f117, Try.func117, by kernel_rfl, rfl⟩
/-- loop.example/g00649/impl.isClause -/
def D118 : Info := ⟨14, fun i => ([], []), fun i => ([], [])⟩
def W118 (v0 : AV) (v1 : AV) (H : Heap) (K : AV → Heap → Prop) : Prop :=
 boxV v1 H fun v3 H1 =>
 lenV tab 24 v0 fun v6 =>
 binV tab .leq 3 v6 (AV.p (.int .i64 8)) fun v7 =>
 grdV v7 true (CallT Try.prog 137 [v0, (.fn 161 [v3])] H1 fun v11 H2 =>
 unV .not v11 fun v12 =>
 K v12 H2)
 (K (AV.p (.bool false)) H1)
theorem W118_wp (v0 : AV) (v1 : AV) (H : Heap) (K : AV → Heap → Prop) : wpC Try.prog tab D118 (bodyOf Try.f118) (retF tab [.tmp 4] K) (nthA [v0, v1]) H = W118 v0 v1 H K := by kernel_rfl
theorem W118_ok {v0 v1 : AV} {H : Heap} {K : AV → Heap → Prop} (h : W118 v0 v1 H K) : CallT Try.prog 118 [v0, v1] H K :=
  CallT.of_wp (D := D118) tab_ok mixed Try.func118 (c := bodyOf Try.f118) (by kernel_rfl) rfl (by kernel_rfl) (rs := #[.tmp 4]) rfl (by decide +kernel) (by kernel_rfl) (W118_wp v0 v1 H K) h
theorem W118_hb : HasBody Try.prog 118 := ⟨_, bodyOf Try.f118, Try.func118, by kernel_rfl, rfl⟩
/-- loop.example/g00649/spec.l6Clause -/
def D119 : Info := ⟨27, fun i => ([], []), fun i => if i = 4 then ([0, 10, 11], [12]) else ([], [])⟩
def L119_0 (K : AV → Heap → Prop) (v0 : AV) (v10 : AV) (v11 : AV) (v12 : AV) (H : Heap) : Prop := LoopV (wpC Try.prog tab D119 (cAt [1, 1, 0, 1, 0, 0] (bodyOf Try.f119))) [0, 10, 11] (PostF.block 0 (PostF.thenA (wpC Try.prog tab D119 (cAt [1, 1, 1] (bodyOf Try.f119))) (retF tab [.tmp 4] K))) [12] [v0, AV.any, AV.any, AV.any, AV.any, AV.any, AV.any, AV.any, AV.any, AV.any, v10, v11, v12, AV.any, AV.any, AV.any, AV.any, AV.any, AV.any, AV.any, AV.any, AV.any, AV.any, AV.any, AV.any, AV.any, AV.any] H
def B119_0 (K : AV → Heap → Prop) (N1 : AV → Heap → Prop) (v0 : AV) (v10 : AV) (v11 : AV) (v12 : AV) (H : Heap) : Prop :=
 binV tab .lss 3 v12 v11 fun v13 =>
 condV v13 (indexAddrV tab 24 v10 v12 fun v14 =>
 loadV tab 3 v14 H fun v15 =>
 binV tab .eql 3 v15 (AV.p (.int .i64 0)) fun v17 =>
 grdV v17 false (unV .neg v0 fun v21 =>
 CallT Try.prog 75 [v15, v21, v0] H fun v23 H1 =>
 unV .not v23 fun v24 =>
 condV v24 (K (AV.p (.bool false)) H1)
 (binV tab .add 3 v12 (AV.p (.int .i64 1)) fun v26 =>
 N1 v26 H1))
 (K (AV.p (.bool false)) H))
 (K (AV.p (.bool true)) H)
def W119 (v0 : AV) (v1 : AV) (H : Heap) (K : AV → Heap → Prop) : Prop :=
 lenV tab 24 v1 fun v8 =>
 binV tab .gtr 3 v8 (AV.p (.int .i64 8)) fun v9 =>
 condV v9 (K (AV.p (.bool false)) H)
 (lenV tab 24 v1 fun v11 =>
 L119_0 K v0 v1 v11 (AV.p (.int .i64 0)) H)
theorem W119_wp (v0 : AV) (v1 : AV) (H : Heap) (K : AV → Heap → Prop) : wpC Try.prog tab D119 (bodyOf Try.f119) (retF tab [.tmp 4] K) (nthA [v0, v1]) H = W119 v0 v1 H K := by kernel_rfl
theorem W119_ok {v0 v1 : AV} {H : Heap} {K : AV → Heap → Prop} (h : W119 v0 v1 H K) : CallT Try.prog 119 [v0, v1] H K :=
  CallT.of_wp (D := D119) tab_ok mixed Try.func119 (c := bodyOf Try.f119) (by kernel_rfl) rfl (by kernel_rfl) (rs := #[.tmp 4]) rfl (by decide +kernel) (by kernel_rfl) (W119_wp v0 v1 H K) h
theorem W119_hb : HasBody Try.prog 119 := ⟨_, bodyOf Try.f119, Try.func119, by kernel_rfl, rfl⟩
theorem L119_0_rule {K : AV → Heap → Prop} {v0 v10 v11 v12 : AV} {H : Heap} {σ : Type} (s0 : σ) (f12 : σ → AV) (TH : σ → Heap) (pre : σ → Prop) (μ : σ → Nat)
    (h0 : pre s0 ∧ AV.wk v12 (f12 s0) ∧ Heap.le (TH s0) H)
    (round : ∀ s, pre s → B119_0 K (fun w12 H' => ∃ s', pre s' ∧ μ s' < μ s ∧ AV.wk w12 (f12 s') ∧ Heap.le (TH s') H') v0 v10 v11 (f12 s) (TH s)) :
    L119_0 K v0 v10 v11 v12 H := by
  unfold L119_0
  exact LoopV.mk s0 (fun s => [f12 s]) TH pre μ (fun _ => rfl) (Eq.mp (by kernel_rfl) h0) (fun s hs => Eq.mp (by kernel_rfl) (round s hs))
theorem L119_0_ruleG {K : AV → Heap → Prop} {v0 v10 v11 v12 : AV} {H : Heap} {σ : Type} (s0 : σ) (f12 : σ → AV) (TH : σ → Heap) (pre : σ → Prop) (μ : σ → Nat)
    (h0 : pre s0 ∧ AV.wk v12 (f12 s0) ∧ Heap.le (TH s0) H)
    (round : ∀ s, pre s → ∀ q, TH s q = none → B119_0 K (fun w12 H' => ∃ s', pre s' ∧ μ s' < μ s ∧ AV.wk w12 (f12 s') ∧ Heap.le (TH s') H') v0 v10 v11 (f12 s) ((TH s).set q [])) :
    L119_0 K v0 v10 v11 v12 H := by
  unfold L119_0
  exact LoopV.mkG s0 (fun s => [f12 s]) TH pre μ (fun _ => rfl) (Eq.mp (by kernel_rfl) h0) (fun s hs q hq => Eq.mp (by kernel_rfl) (round s hs q hq))
/-- (*loop.example/g00649/spec.l1Cur).one -/
def D134 : Info := ⟨9, fun i => ([], []), fun i => ([], [])⟩
def W134 (v0 : AV) (v1 : AV) (H : Heap) (K : AV → Heap → Prop) : Prop :=
 CallT Try.prog 67 [v0, v1] H fun v7 H1 =>
 binV tab .eql 3 v7 (AV.p (.int .i64 0)) fun v8 =>
 K v8 H1
theorem W134_wp (v0 : AV) (v1 : AV) (H : Heap) (K : AV → Heap → Prop) : wpC Try.prog tab D134 (bodyOf Try.f134) (retF tab [.tmp 4] K) (nthA [v0, v1]) H = W134 v0 v1 H K := by kernel_rfl
theorem W134_ok {v0 v1 : AV} {H : Heap} {K : AV → Heap → Prop} (h : W134 v0 v1 H K) : CallT Try.prog 134 [v0, v1] H K :=
  CallT.of_wp (D := D134) tab_ok mixed Try.func134 (c := bodyOf Try.f134) (by kernel_rfl) rfl (by kernel_rfl) (rs := #[.tmp 4]) rfl (by decide +kernel) (by kernel_rfl) (W134_wp v0 v1 H K) h
theorem W134_hb : HasBody Try.prog 134 := ⟨_, bodyOf Try.f134, Try.func134, by kernel_rfl, rfl⟩
/-- (*loop.example/g00649/spec.l1Cur).next -/
def D135 : Info := ⟨62, fun i => if i = 2 then ([[], [0], [0, 1], [0, 1, 2], [], [4], [4, 5], [4, 5, 6], [4, 5, 6, 7], [0, 1, 2, 3, 4, 5, 6, 7, 8]], [(0, []), (1, []), (2, []), (3, []), (4, []), (5, []), (6, []), (7, []), (8, []), (9, [])]) else if i = 3 then ([[], [0], [0, 1], [0, 1, 2], [], [4], [4, 5], [4, 5, 6], [0, 1, 2, 3, 4, 5, 6, 7], [0, 1, 2, 3, 4, 5, 6, 7, 8], [0, 1, 2, 3, 4, 5, 6, 7, 8, 9], [0, 1, 2, 3, 4, 5, 6, 7, 8, 9, 10]], [(0, []), (1, []), (2, []), (3, []), (4, []), (5, []), (6, []), (7, []), (8, []), (9, []), (10, []), (11, [])]) else if i = 6 then ([[], [0], [0, 1], [0, 1, 2], [], [4], [4, 5], [4, 5, 6], [4, 5, 6, 7], [0, 1, 2, 3, 4, 5, 6, 7, 8]], [(0, []), (1, []), (2, []), (3, []), (4, []), (5, []), (6, []), (7, []), (8, []), (9, [])]) else ([], []), fun i => ([], [])⟩
def J135_0 (K : AV → Heap → Prop) (v0 : AV) (v3 : AV) (H : Heap) : Prop :=
 nilCheckV v0 fun v26 =>
 fieldAddrV tab 92 v26 1 fun v27 =>
 loadV tab 3 v27 H fun v28 =>
 binV tab .add 3 v28 (AV.p (.int .i64 1)) fun v29 =>
 nilCheckV v0 fun v30 =>
 fieldAddrV tab 92 v30 1 fun v31 =>
 storeV tab 3 v31 v29 H fun H1 =>
 nilCheckV v0 fun v34 =>
 fieldAddrV tab 92 v34 2 fun v35 =>
 loadV tab 90 v35 H1 fun v36 =>
 binV tab .mul 90 v36 (AV.p (.int .u64 6364136223846793005)) fun v37 =>
 convV tab 3 90 v3 fun v39 =>
 binV tab .add 90 v37 v39 fun v40 =>
 binV tab .add 90 v40 (AV.p (.int .u64 1442695040888963407)) fun v41 =>
 nilCheckV v0 fun v42 =>
 fieldAddrV tab 92 v42 2 fun v43 =>
 storeV tab 90 v43 v41 H1 fun H2 =>
 nilCheckV v0 fun v45 =>
 fieldAddrV tab 92 v45 1 fun v46 =>
 loadV tab 3 v46 H2 fun v47 =>
 nilCheckV v0 fun v49 =>
 fieldAddrV tab 92 v49 0 fun v50 =>
 loadV tab 22 v50 H2 fun v51 =>
 lenV tab 22 v51 fun v52 =>
 binV tab .leq 3 v47 v52 fun v53 =>
 condV v53 (K v3 H2)
 (nilCheckV v0 fun v56 =>
 fieldAddrV tab 92 v56 2 fun v57 =>
 loadV tab 90 v57 H2 fun v58 =>
 binV tab .shr 90 v58 (AV.p (.int .u64 40)) fun v59 =>
 binV tab .and 90 v59 (AV.p (.int .u64 255)) fun v60 =>
 convV tab 90 3 v60 fun v61 =>
 K v61 H2)
def W135 (v0 : AV) (H : Heap) (K : AV → Heap → Prop) : Prop :=
 nilCheckV v0 fun v5 =>
 fieldAddrV tab 92 v5 1 fun v6 =>
 loadV tab 3 v6 H fun v7 =>
 nilCheckV v0 fun v9 =>
 fieldAddrV tab 92 v9 0 fun v10 =>
 loadV tab 22 v10 H fun v11 =>
 lenV tab 22 v11 fun v12 =>
 binV tab .lss 3 v7 v12 fun v13 =>
 condV v13 (nilCheckV v0 fun v15 =>
 fieldAddrV tab 92 v15 0 fun v16 =>
 loadV tab 22 v16 H fun v17 =>
 nilCheckV v0 fun v19 =>
 fieldAddrV tab 92 v19 1 fun v20 =>
 loadV tab 3 v20 H fun v21 =>
 indexAddrV tab 22 v17 v21 fun v22 =>
 loadV tab 5 v22 H fun v23 =>
 convV tab 5 3 v23 fun v24 =>
 J135_0 K v0 v24 H)
 (J135_0 K v0 (AV.p (.int .i64 0)) H)
theorem W135_wp (v0 : AV) (H : Heap) (K : AV → Heap → Prop) : wpC Try.prog tab D135 (bodyOf Try.f135) (retF tab [.tmp 2] K) (nthA [v0]) H = W135 v0 H K := by kernel_rfl
theorem W135_ok {v0 : AV} {H : Heap} {K : AV → Heap → Prop} (h : W135 v0 H K) : CallT Try.prog 135 [v0] H K :=
  CallT.of_wp (D := D135) tab_ok mixed Try.func135 (c := bodyOf Try.f135) (by kernel_rfl) rfl (by kernel_rfl) (rs := #[.tmp 2]) rfl (by decide +kernel) (by kernel_rfl) (W135_wp v0 H K) h
theorem W135_hb : HasBody Try.prog 135 := ⟨_, bodyOf Try.f135, Try.func135, by kernel_rfl, rfl⟩
/-- slices.ContainsFunc[[]int,int] -/
def D137 : Info := ⟨9, fun i => ([], []), fun i => ([], [])⟩
def W137 (v0 : AV) (v1 : AV) (H : Heap) (K : AV → Heap → Prop) : Prop :=
 CallT Try.prog 172 [v0, v1] H fun v7 H1 =>
 binV tab .geq 3 v7 (AV.p (.int .i64 0)) fun v8 =>
 K v8 H1
theorem W137_wp (v0 : AV) (v1 : AV) (H : Heap) (K : AV → Heap → Prop) : wpC Try.prog tab D137 (bodyOf Try.f137) (retF tab [.tmp 4] K) (nthA [v0, v1]) H = W137 v0 v1 H K := by kernel_rfl
theorem W137_ok {v0 v1 : AV} {H : Heap} {K : AV → Heap → Prop} (h : W137 v0 v1 H K) : CallT Try.prog 137 [v0, v1] H K :=
  CallT.of_wp (D := D137) tab_ok mixed Try.func137 (c := bodyOf Try.f137) (by kernel_rfl) rfl (by kernel_rfl) (rs := #[.tmp 4]) rfl (by decide +kernel) (by kernel_rfl) (W137_wp v0 v1 H K) h
theorem W137_hb : HasBody Try.prog 137 := ⟨_, bodyOf Try.f137, Try.func137, by kernel_rfl, rfl⟩
end Go.Proofs.Ytjbdahlhphdalaa
