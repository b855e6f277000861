/- What each function's code is asked for, as a formula. Written by wgen.py (a program of this session's) out of Lean's print of the program. -/
import Derived.KernelRfl
import Derived.Test.YtoeabliackaibaaTab
import Derived.Test.YtoeabliackaibaaSepC
namespace Go.Proofs.Ytoeabliackaibaa
open Go Go.Sep
set_option linter.unusedVariables false
attribute [local irreducible] wpC headF
/-- loop.example/g00649/impl.GoodAuto -/
def D109 : Info := ⟨91, fun i => if i = 6 then ([[], [0], [0, 1], [0, 1, 2], [0, 1, 2, 3], [0, 1, 2, 3, 4], [0, 1, 2, 3], [0, 1, 2, 3, 6], [0, 1, 2, 3, 4, 5, 6, 7], [0, 1, 2, 3, 4, 5, 6, 7, 8], [0, 1, 2, 3, 4, 5, 6, 7, 8, 9], [0, 1, 2, 3, 4, 5, 6, 7, 8, 9, 10], [0, 1, 2, 3, 4, 5, 6, 7, 8, 9, 10, 11], [0, 1, 2, 3, 4, 5, 6, 7, 8, 9, 10, 11, 12], [0, 1, 2, 3, 4, 5, 6, 7, 8, 9, 10, 11, 12, 13], [0, 1, 2, 3, 4, 5, 6, 7, 8, 9, 10, 11, 12, 13, 14], [0, 1, 2, 3, 4, 5, 6, 7, 8, 9, 10, 11, 12, 13, 14, 15], [0, 1, 2, 3, 4, 5, 6, 7, 8, 9, 10, 11, 12, 13, 14, 15, 16], [0, 1, 2, 3, 4, 5, 6, 7, 8, 9, 10, 11, 12, 13, 14, 15], [0, 1, 2, 3, 4, 5, 6, 7, 8, 9, 10, 11, 12, 13, 14, 15, 18], [0, 1, 2, 3, 4, 5, 6, 7, 8, 9, 10, 11, 12, 13, 14, 15, 16, 17, 18, 19], [0, 1, 2, 3, 4, 5, 6, 7, 8, 9, 10, 11, 12, 13, 14, 15, 16, 17, 18, 19, 20], [0, 1, 2, 3, 4, 5, 6, 7, 8, 9, 10, 11, 12, 13, 14, 15, 16, 17, 18, 19, 20, 21], [0, 1, 2, 3, 4, 5, 6, 7, 8, 9, 10, 11, 12, 13, 14, 15, 16, 17, 18, 19, 20, 21, 22], [0, 1, 2, 3, 4, 5, 6, 7, 8, 9, 10, 11, 12, 13, 14, 15, 16, 17, 18, 19, 20, 21, 22, 23], [0, 1, 2, 3, 4, 5, 6, 7, 8, 9, 10, 11, 12, 13, 14, 15, 16, 17, 18, 19, 20, 21, 22, 23, 24], [0, 1, 2, 3, 4, 5, 6, 7, 8, 9, 10, 11, 12, 13, 14, 15, 16, 17, 18, 19, 20, 21, 22, 23, 24, 25], [0, 1, 2, 3, 4, 5, 6, 7, 8, 9, 10, 11, 12, 13, 14, 15, 16, 17, 18, 19, 20, 21, 22, 23, 24, 25, 26], [0, 1, 2, 3, 4, 5, 6, 7, 8, 9, 10, 11, 12, 13, 14, 15, 16, 17, 18, 19, 20, 21, 22, 23, 24, 25, 26, 27], [0, 1, 2, 3, 4, 5, 6, 7, 8, 9, 10, 11, 12, 13, 14, 15, 16, 17, 18, 19, 20, 21, 22, 23, 24, 25, 26, 27, 28], [0, 1, 2, 3, 4, 5, 6, 7, 8, 9, 10, 11, 12, 13, 14, 15, 16, 17, 18, 19, 20, 21, 22, 23, 24, 25, 26, 27, 28, 29], [0, 1, 2, 3, 4, 5, 6, 7, 8, 9, 10, 11, 12, 13, 14, 15, 16, 17, 18, 19, 20, 21, 22, 23, 24, 25, 26, 27, 28, 29, 30], [0, 1, 2, 3, 4, 5, 6, 7, 8, 9, 10, 11, 12, 13, 14, 15, 16, 17, 18, 19, 20, 21, 22, 23, 24, 25, 26, 27, 28, 29, 30, 31], [0, 1, 2, 3, 4, 5, 6, 7, 8, 9, 10, 11, 12, 13, 14, 15, 16, 17, 18, 19, 20, 21, 22, 23, 24, 25, 26, 27, 28, 29, 30, 31, 32], [0, 1, 2, 3, 4, 5, 6, 7, 8, 9, 10, 11, 12, 13, 14, 15, 16, 17, 18, 19, 20, 21, 22, 23, 24, 25, 26, 27, 28, 29, 30, 31, 32, 33], [0, 1, 2, 3, 4, 5, 6, 7, 8, 9, 10, 11, 12, 13, 14, 15, 16, 17, 18, 19, 20, 21, 22, 23, 24, 25, 26, 27, 28, 29, 30, 31, 32, 33, 34], [0, 1, 2, 3, 4, 5, 6, 7, 8, 9, 10, 11, 12, 13, 14, 15, 16, 17, 18, 19, 20, 21, 22, 23, 24, 25, 26, 27, 28, 29, 30, 31, 32, 33, 34, 35], [0, 1, 2, 3, 4, 5, 6, 7, 8, 9, 10, 11, 12, 13, 14, 15, 16, 17, 18, 19, 20, 21, 22, 23, 24, 25, 26, 27, 28, 29, 30, 31, 32, 33, 34, 35, 36], [0, 1, 2, 3, 4, 5, 6, 7, 8, 9, 10, 11, 12, 13, 14, 15, 16, 17, 18, 19, 20, 21, 22, 23, 24, 25, 26, 27, 28, 29, 30, 31, 32, 33, 34, 35], [0, 1, 2, 3, 4, 5, 6, 7, 8, 9, 10, 11, 12, 13, 14, 15, 16, 17, 18, 19, 20, 21, 22, 23, 24, 25, 26, 27, 28, 29, 30, 31, 32, 33, 34, 35, 38], [0, 1, 2, 3, 4, 5, 6, 7, 8, 9, 10, 11, 12, 13, 14, 15, 16, 17, 18, 19, 20, 21, 22, 23, 24, 25, 26, 27, 28, 29, 30, 31, 32, 33, 34, 35, 36, 37, 38, 39], [0, 1, 2, 3, 4, 5, 6, 7, 8, 9, 10, 11, 12, 13, 14, 15, 16, 17, 18, 19, 20, 21, 22, 23, 24, 25, 26, 27, 28, 29, 30, 31, 32, 33, 34, 35, 36, 37, 38, 39, 40], [0, 1, 2, 3, 4, 5, 6, 7, 8, 9, 10, 11, 12, 13, 14, 15, 16, 17, 18, 19, 20, 21, 22, 23, 24, 25, 26, 27, 28, 29, 30, 31, 32, 33, 34, 35], [0, 1, 2, 3, 4, 5, 6, 7, 8, 9, 10, 11, 12, 13, 14, 15, 16, 17, 18, 19, 20, 21, 22, 23, 24, 25, 26, 27, 28, 29, 30, 31, 32, 33, 34, 35, 36, 37, 38, 39, 40, 41, 42], [0, 1, 2, 3, 4, 5, 6, 7, 8, 9, 10, 11, 12, 13, 14, 15, 16, 17, 18, 19, 20, 21, 22, 23, 24, 25, 26, 27, 28, 29, 30, 31, 32, 33, 34, 35, 36, 37, 38, 39, 40, 41, 42, 43], [0, 1, 2, 3, 4, 5, 6, 7, 8, 9, 10, 11, 12, 13, 14, 15, 16, 17, 18, 19, 20, 21, 22, 23, 24, 25, 26, 27, 28, 29, 30, 31, 32, 33, 34, 35, 36, 37, 38, 39, 40, 41, 42, 43, 44], [0, 1, 2, 3, 4, 5, 6, 7, 8, 9, 10, 11, 12, 13, 14, 15, 16, 17, 18, 19, 20, 21, 22, 23, 24, 25, 26, 27, 28, 29, 30, 31, 32, 33, 34, 35, 36, 37, 38, 39, 40, 41, 42, 43, 44, 45]], [(0, []), (1, []), (2, []), (3, []), (4, []), (5, []), (6, []), (7, []), (8, []), (9, []), (10, []), (11, []), (12, []), (13, []), (14, []), (15, []), (16, []), (17, []), (18, []), (19, []), (20, []), (21, []), (22, []), (23, []), (24, []), (25, []), (26, []), (27, []), (28, []), (29, []), (30, []), (31, []), (32, []), (33, []), (34, []), (35, []), (36, []), (37, []), (38, []), (39, []), (40, []), (41, []), (42, []), (43, []), (44, []), (45, []), (46, [])]) else ([], []), fun i => if i = 4 then ([1, 36, 37], [38]) else ([], [])⟩
def L109_0 (K : AV → Heap → Prop) (v1 : AV) (v36 : AV) (v37 : AV) (v38 : AV) (H : Heap) : Prop := LoopV (wpC Try.prog tab D109 (cAt [1, 1, 0, 1, 0, 0] (bodyOf Try.f109))) [1, 36, 37] (PostF.block 0 (PostF.thenA (wpC Try.prog tab D109 (cAt [1, 1, 1] (bodyOf Try.f109))) (retF tab [.tmp 2] K))) [38] [AV.any, v1, AV.any, AV.any, AV.any, AV.any, AV.any, AV.any, AV.any, AV.any, AV.any, AV.any, AV.any, AV.any, AV.any, AV.any, AV.any, AV.any, AV.any, AV.any, AV.any, AV.any, AV.any, AV.any, AV.any, AV.any, AV.any, AV.any, AV.any, AV.any, AV.any, AV.any, AV.any, AV.any, AV.any, AV.any, v36, v37, v38, AV.any, AV.any, AV.any, AV.any, AV.any, AV.any, AV.any, AV.any, AV.any, AV.any, AV.any, AV.any, AV.any, AV.any, AV.any, AV.any, AV.any, AV.any, AV.any, AV.any, AV.any, AV.any, AV.any, AV.any, AV.any, AV.any, AV.any, AV.any, AV.any, AV.any, AV.any, AV.any, AV.any, AV.any, AV.any, AV.any, AV.any, AV.any, AV.any, AV.any, AV.any, AV.any, AV.any, AV.any, AV.any, AV.any, AV.any, AV.any, AV.any, AV.any, AV.any, AV.any] H
def B109_0 (K : AV → Heap → Prop) (N1 : AV → Heap → Prop) (v1 : AV) (v36 : AV) (v37 : AV) (v38 : AV) (H : Heap) : Prop :=
 binV tab .lss 3 v38 v37 fun v39 =>
 condV v39 (indexAddrV tab 52 v36 v38 fun v41 =>
 loadV tab 125 v41 H fun v42 =>
 allocV tab 125 H fun v4 H4 =>
 storeV tab 125 v4 v42 H4 fun H5 =>
 fieldAddrV tab 125 v4 0 fun v43 =>
 loadV tab 3 v43 H5 fun v44 =>
 binV tab .lss 3 v44 (AV.p (.int .i64 0)) fun v45 =>
 grdV v45 false (fieldAddrV tab 125 v4 0 fun v47 =>
 loadV tab 3 v47 H5 fun v48 =>
 fieldAddrV tab 55 v1 0 fun v49 =>
 loadV tab 3 v49 H5 fun v50 =>
 binV tab .geq 3 v48 v50 fun v51 =>
 grdV v51 false (fieldAddrV tab 125 v4 2 fun v54 =>
 loadV tab 3 v54 H5 fun v55 =>
 binV tab .lss 3 v55 (AV.p (.int .i64 0)) fun v56 =>
 grdV v56 false (fieldAddrV tab 125 v4 2 fun v59 =>
 loadV tab 3 v59 H5 fun v60 =>
 fieldAddrV tab 55 v1 0 fun v61 =>
 loadV tab 3 v61 H5 fun v62 =>
 binV tab .geq 3 v60 v62 fun v63 =>
 grdV v63 false (fieldAddrV tab 125 v4 1 fun v66 =>
 loadV tab 3 v66 H5 fun v67 =>
 binV tab .lss 3 v67 (AV.p (.int .i64 0)) fun v68 =>
 grdV v68 false (fieldAddrV tab 125 v4 1 fun v71 =>
 loadV tab 3 v71 H5 fun v72 =>
 binV tab .geq 3 v72 (AV.p (.int .i64 8)) fun v73 =>
 grdV v73 false (binV tab .gtr 3 v38 (AV.p (.int .i64 0)) fun v77 =>
 grdV v77 true (fieldAddrV tab 55 v1 2 fun v79 =>
 loadV tab 52 v79 H5 fun v80 =>
 binV tab .sub 3 v38 (AV.p (.int .i64 1)) fun v82 =>
 indexAddrV tab 52 v80 v82 fun v83 =>
 loadV tab 125 v83 H5 fun v84 =>
 loadV tab 125 v4 H5 fun v85 =>
 CallT Try.prog 113 [v84, v85] H5 fun v86 H6 =>
 binV tab .geq 3 v86 (AV.p (.int .i64 0)) fun v87 =>
 condV v87 (K (AV.p (.bool false)) H6)
 (binV tab .add 3 v38 (AV.p (.int .i64 1)) fun v90 =>
 N1 v90 H6))
 (binV tab .add 3 v38 (AV.p (.int .i64 1)) fun v90 =>
 N1 v90 H5))
 (K (AV.p (.bool false)) H5))
 (K (AV.p (.bool false)) H5))
 (K (AV.p (.bool false)) H5))
 (K (AV.p (.bool false)) H5))
 (K (AV.p (.bool false)) H5))
 (K (AV.p (.bool false)) H5))
 (K (AV.p (.bool true)) H)
def W109 (v0 : AV) (H : Heap) (K : AV → Heap → Prop) : Prop :=
 boxV v0 H fun v1 H1 =>
 fieldAddrV tab 55 v1 0 fun v5 =>
 loadV tab 3 v5 H1 fun v6 =>
 binV tab .lss 3 v6 (AV.p (.int .i64 1)) fun v7 =>
 grdV v7 false (fieldAddrV tab 55 v1 0 fun v9 =>
 loadV tab 3 v9 H1 fun v10 =>
 binV tab .gtr 3 v10 (AV.p (.int .i64 96)) fun v11 =>
 grdV v11 false (fieldAddrV tab 55 v1 1 fun v14 =>
 loadV tab 24 v14 H1 fun v15 =>
 fieldAddrV tab 55 v1 0 fun v16 =>
 loadV tab 3 v16 H1 fun v17 =>
 CallT Try.prog 133 [v15, v17] H1 fun v18 H2 =>
 unV .not v18 fun v19 =>
 grdV v19 false (fieldAddrV tab 55 v1 2 fun v22 =>
 loadV tab 52 v22 H2 fun v23 =>
 lenV tab 52 v23 fun v24 =>
 binV tab .gtr 3 v24 (AV.p (.int .i64 2400)) fun v25 =>
 grdV v25 false (fieldAddrV tab 55 v1 3 fun v28 =>
 loadV tab 53 v28 H2 fun v29 =>
 fieldAddrV tab 55 v1 0 fun v30 =>
 loadV tab 3 v30 H2 fun v31 =>
 CallT Try.prog 134 [v29, v31] H2 fun v32 H3 =>
 unV .not v32 fun v33 =>
 condV v33 (K (AV.p (.bool false)) H3)
 (fieldAddrV tab 55 v1 2 fun v35 =>
 loadV tab 52 v35 H3 fun v36 =>
 lenV tab 52 v36 fun v37 =>
 L109_0 K v1 v36 v37 (AV.p (.int .i64 0)) H3))
 (K (AV.p (.bool false)) H2))
 (K (AV.p (.bool false)) H2))
 (K (AV.p (.bool false)) H1))
 (K (AV.p (.bool false)) H1)
theorem W109_wp (v0 : AV) (H : Heap) (K : AV → Heap → Prop) : wpC Try.prog tab D109 (bodyOf Try.f109) (retF tab [.tmp 2] K) (nthA [v0]) H = W109 v0 H K := by kernel_rfl
theorem W109_ok {v0 : AV} {H : Heap} {K : AV → Heap → Prop} (h : W109 v0 H K) : CallT Try.prog 109 [v0] H K :=
  CallT.of_wp (D := D109) tab_ok mixed Try.func109 (c := bodyOf Try.f109) (by kernel_rfl) rfl (by kernel_rfl) (rs := #[.tmp 2]) rfl (by decide +kernel) (by kernel_rfl) (W109_wp v0 H K) h
theorem W109_hb : HasBody Try.prog 109 := ⟨_, bodyOf Try.f109, Try.func109, by kernel_rfl, rfl⟩
theorem L109_0_rule {K : AV → Heap → Prop} {v1 v36 v37 v38 : AV} {H : Heap} {σ : Type} (s0 : σ) (f38 : σ → AV) (TH : σ → Heap) (pre : σ → Prop) (μ : σ → Nat)
    (h0 : pre s0 ∧ AV.wk v38 (f38 s0) ∧ Heap.le (TH s0) H)
    (round : ∀ s, pre s → B109_0 K (fun w38 H' => ∃ s', pre s' ∧ μ s' < μ s ∧ AV.wk w38 (f38 s') ∧ Heap.le (TH s') H') v1 v36 v37 (f38 s) (TH s)) :
    L109_0 K v1 v36 v37 v38 H := by
  unfold L109_0
  exact LoopV.mk s0 (fun s => [f38 s]) TH pre μ (fun _ => rfl) (Eq.mp (by kernel_rfl) h0) (fun s hs => Eq.mp (by kernel_rfl) (round s hs))
theorem L109_0_ruleG {K : AV → Heap → Prop} {v1 v36 v37 v38 : AV} {H : Heap} {σ : Type} (s0 : σ) (f38 : σ → AV) (TH : σ → Heap) (pre : σ → Prop) (μ : σ → Nat)
    (h0 : pre s0 ∧ AV.wk v38 (f38 s0) ∧ Heap.le (TH s0) H)
    (round : ∀ s, pre s → ∀ q, TH s q = none → B109_0 K (fun w38 H' => ∃ s', pre s' ∧ μ s' < μ s ∧ AV.wk w38 (f38 s') ∧ Heap.le (TH s') H') v1 v36 v37 (f38 s) ((TH s).set q [])) :
    L109_0 K v1 v36 v37 v38 H := by
  unfold L109_0
  exact LoopV.mkG s0 (fun s => [f38 s]) TH pre μ (fun _ => rfl) (Eq.mp (by kernel_rfl) h0) (fun s hs q hq => Eq.mp (by kernel_rfl) (round s hs q hq))
/-- loop.example/g00649/impl.rooted -/
def D110 : Info := ⟨11, fun i => ([], []), fun i => ([], [])⟩
def W110 (v0 : AV) (v1 : AV) (H : Heap) (K : AV → Heap → Prop) : Prop :=
 boxV v0 H fun v2 H1 =>
 boxV v1 H1 fun v3 H2 =>
 loadV tab 27 v2 H2 fun v6 =>
 CallT Try.prog 51 [v6] H2 fun v7 H3 =>
 allocV tab 24 H3 fun v5 H4 =>
 storeV tab 24 v5 v7 H4 fun H5 =>
 loadV tab 27 v2 H5 fun v8 =>
 CallT Try.prog 135 [v8, (.fn 136 [v5, v2, v3])] H5 fun v10 H6 =>
 K v10 H6
theorem W110_wp (v0 : AV) (v1 : AV) (H : Heap) (K : AV → Heap → Prop) : wpC Try.prog tab D110 (bodyOf Try.f110) (retF tab [.tmp 4] K) (nthA [v0, v1]) H = W110 v0 v1 H K := by kernel_rfl
theorem W110_ok {v0 v1 : AV} {H : Heap} {K : AV → Heap → Prop} (h : W110 v0 v1 H K) : CallT Try.prog 110 [v0, v1] H K :=
  CallT.of_wp (D := D110) tab_ok mixed Try.func110 (c := bodyOf Try.f110) (by kernel_rfl) rfl (by kernel_rfl) (rs := #[.tmp 4]) rfl (by decide +kernel) (by kernel_rfl) (W110_wp v0 v1 H K) h
theorem W110_hb : HasBody Try.prog 110 := ⟨_, bodyOf Try.f110, Try.func110, by kernel_rfl, rfl⟩
/-- loop.example/g00649/impl.goalsOf -/
def D111 : Info := ⟨36, fun i => ([], []), fun i => if i = 3 then ([0, 4, 5, 13, 14], [3, 15]) else ([], [])⟩
def L111_0 (K : AV → Heap → Prop) (v0 : AV) (v3 : AV) (v4 : AV) (v5 : AV) (v13 : AV) (v14 : AV) (v15 : AV) (H : Heap) : Prop := LoopV (wpC Try.prog tab D111 (cAt [1, 1, 0, 1, 0, 0] (bodyOf Try.f111))) [0, 4, 5, 13, 14] (PostF.block 0 (PostF.thenA (wpC Try.prog tab D111 (cAt [1, 1, 1] (bodyOf Try.f111))) (retF tab [.tmp 2] K))) [3, 15] [v0, AV.any, AV.any, v3, v4, v5, AV.any, AV.any, AV.any, AV.any, AV.any, AV.any, AV.any, v13, v14, v15, AV.any, AV.any, AV.any, AV.any, AV.any, AV.any, AV.any, AV.any, AV.any, AV.any, AV.any, AV.any, AV.any, AV.any, AV.any, AV.any, AV.any, AV.any, AV.any, AV.any] H
def J111_1 (K : AV → Heap → Prop) (N1 : AV → AV → Heap → Prop) (v0 : AV) (v3 : AV) (v4 : AV) (v5 : AV) (v6 : AV) (v7 : AV) (v13 : AV) (v14 : AV) (v15 : AV) (H : Heap) : Prop :=
 CallT Try.prog 135 [v0, (.fn 137 [v5, v6, v4, v7])] H fun v31 H12 =>
 buildSliceV tab 53 1 [(0, v31)] H12 (wkK fun v32 H13 =>
 appendV tab 53 53 v3 v32 H13 (wkK fun v33 H14 =>
 binV tab .add 3 v15 (AV.p (.int .i64 1)) fun v34 =>
 N1 v33 v34 H14))
def B111_0 (K : AV → Heap → Prop) (N1 : AV → AV → Heap → Prop) (v0 : AV) (v3 : AV) (v4 : AV) (v5 : AV) (v13 : AV) (v14 : AV) (v15 : AV) (H : Heap) : Prop :=
 binV tab .lss 3 v15 v14 fun v16 =>
 condV v16 (indexAddrV tab 27 v13 v15 fun v18 =>
 loadV tab 77 v18 H fun v19 =>
 allocV tab 3 H fun v6 H8 =>
 allocV tab 77 H8 fun v7 H9 =>
 storeV tab 3 v6 v15 H9 fun H10 =>
 storeV tab 77 v7 v19 H10 fun H11 =>
 fieldAddrV tab 77 v7 0 fun v20 =>
 loadV tab 3 v20 H11 fun v21 =>
 binV tab .neq 3 v21 (AV.p (.int .i64 7)) fun v22 =>
 grdV v22 true (fieldAddrV tab 77 v7 0 fun v24 =>
 loadV tab 3 v24 H11 fun v25 =>
 binV tab .neq 3 v25 (AV.p (.int .i64 8)) fun v26 =>
 condV v26 (binV tab .add 3 v15 (AV.p (.int .i64 1)) fun v34 =>
 N1 v3 v34 H11)
 (J111_1 K N1 v0 v3 v4 v5 v6 v7 v13 v14 v15 H11))
 (J111_1 K N1 v0 v3 v4 v5 v6 v7 v13 v14 v15 H11))
 (K v3 H)
def W111 (v0 : AV) (H : Heap) (K : AV → Heap → Prop) : Prop :=
 buildSliceV tab 53 0 [] H (wkK fun v8 H1 =>
 CallT Try.prog 95 [v0] H1 fun v10 H2 =>
 CallT Try.prog 51 [v0] H2 fun v12 H3 =>
 allocV tab 53 H3 fun v4 H4 =>
 allocV tab 24 H4 fun v5 H5 =>
 storeV tab 53 v4 v10 H5 fun H6 =>
 storeV tab 24 v5 v12 H6 fun H7 =>
 lenV tab 27 v0 fun v14 =>
 L111_0 K v0 v8 v4 v5 v0 v14 (AV.p (.int .i64 0)) H7)
theorem W111_wp (v0 : AV) (H : Heap) (K : AV → Heap → Prop) : wpC Try.prog tab D111 (bodyOf Try.f111) (retF tab [.tmp 2] K) (nthA [v0]) H = W111 v0 H K := by kernel_rfl
theorem W111_ok {v0 : AV} {H : Heap} {K : AV → Heap → Prop} (h : W111 v0 H K) : CallT Try.prog 111 [v0] H K :=
  CallT.of_wp (D := D111) tab_ok mixed Try.func111 (c := bodyOf Try.f111) (by kernel_rfl) rfl (by kernel_rfl) (rs := #[.tmp 2]) rfl (by decide +kernel) (by kernel_rfl) (W111_wp v0 H K) h
theorem W111_hb : HasBody Try.prog 111 := ⟨_, bodyOf Try.f111, Try.func111, by kernel_rfl, rfl⟩
theorem L111_0_rule {K : AV → Heap → Prop} {v0 v3 v4 v5 v13 v14 v15 : AV} {H : Heap} {σ : Type} (s0 : σ) (f3 : σ → AV) (f15 : σ → AV) (TH : σ → Heap) (pre : σ → Prop) (μ : σ → Nat)
    (h0 : pre s0 ∧ AV.wk v3 (f3 s0) ∧ AV.wk v15 (f15 s0) ∧ Heap.le (TH s0) H)
    (round : ∀ s, pre s → B111_0 K (fun w3 w15 H' => ∃ s', pre s' ∧ μ s' < μ s ∧ AV.wk w3 (f3 s') ∧ AV.wk w15 (f15 s') ∧ Heap.le (TH s') H') v0 (f3 s) v4 v5 v13 v14 (f15 s) (TH s)) :
    L111_0 K v0 v3 v4 v5 v13 v14 v15 H := by
  unfold L111_0
  exact LoopV.mk s0 (fun s => [f3 s, f15 s]) TH pre μ (fun _ => rfl) (Eq.mp (by kernel_rfl) h0) (fun s hs => Eq.mp (by kernel_rfl) (round s hs))
theorem L111_0_ruleG {K : AV → Heap → Prop} {v0 v3 v4 v5 v13 v14 v15 : AV} {H : Heap} {σ : Type} (s0 : σ) (f3 : σ → AV) (f15 : σ → AV) (TH : σ → Heap) (pre : σ → Prop) (μ : σ → Nat)
    (h0 : pre s0 ∧ AV.wk v3 (f3 s0) ∧ AV.wk v15 (f15 s0) ∧ Heap.le (TH s0) H)
    (round : ∀ s, pre s → ∀ q, TH s q = none → B111_0 K (fun w3 w15 H' => ∃ s', pre s' ∧ μ s' < μ s ∧ AV.wk w3 (f3 s') ∧ AV.wk w15 (f15 s') ∧ Heap.le (TH s') H') v0 (f3 s) v4 v5 v13 v14 (f15 s) ((TH s).set q [])) :
    L111_0 K v0 v3 v4 v5 v13 v14 v15 H := by
  unfold L111_0
  exact LoopV.mkG s0 (fun s => [f3 s, f15 s]) TH pre μ (fun _ => rfl) (Eq.mp (by kernel_rfl) h0) (fun s hs q hq => Eq.mp (by kernel_rfl) (round s hs q hq))
/-- loop.example/g00649/impl.compareEdges -/
def D113 : Info := ⟨22, fun i => if i = 1 then ([[], [0], [], [2], [0, 1, 2, 3], [], [5], [], [7], [0, 1, 2, 3, 4, 5, 6, 7, 8], [], [10], [], [12], [0, 1, 2, 3, 4, 5, 6, 7, 8, 9, 10, 11, 12, 13], [0, 1, 2, 3, 4, 5, 6, 7, 8, 9, 10, 11, 12, 13, 14], [0, 1, 2, 3, 4, 5, 6, 7, 8, 9, 10, 11, 12, 13, 14, 15], [0, 1, 2, 3, 4, 5, 6, 7, 8, 9, 10, 11, 12, 13, 14, 15, 16]], [(0, []), (1, []), (2, []), (3, []), (5, []), (6, []), (7, []), (8, []), (10, []), (11, []), (12, []), (13, []), (4, [6, 8, 11, 13]), (9, [11, 13]), (14, []), (15, []), (16, []), (17, [])]) else ([], []), fun i => ([], [])⟩
def W113 (v0 : AV) (v1 : AV) (H : Heap) (K : AV → Heap → Prop) : Prop :=
 boxV v0 H fun v2 H1 =>
 boxV v1 H1 fun v3 H2 =>
 fieldAddrV tab 125 v2 0 fun v5 =>
 loadV tab 3 v5 H2 fun v6 =>
 fieldAddrV tab 125 v3 0 fun v7 =>
 loadV tab 3 v7 H2 fun v8 =>
 fieldAddrV tab 125 v2 1 fun v10 =>
 loadV tab 3 v10 H2 fun v11 =>
 fieldAddrV tab 125 v3 1 fun v12 =>
 loadV tab 3 v12 H2 fun v13 =>
 fieldAddrV tab 125 v2 2 fun v15 =>
 loadV tab 3 v15 H2 fun v16 =>
 fieldAddrV tab 125 v3 2 fun v17 =>
 loadV tab 3 v17 H2 fun v18 =>
 CallT Try.prog 140 [v6, v8] H2 fun v9 H3 =>
 (loadV tab 3 v10 H3 fun v9011 =>
 v11 = v9011) ∧
 (loadV tab 3 v12 H3 fun v9013 =>
 v13 = v9013) ∧
 (loadV tab 3 v15 H3 fun v9016 =>
 v16 = v9016) ∧
 (loadV tab 3 v17 H3 fun v9018 =>
 v18 = v9018) ∧
 CallT Try.prog 140 [v11, v13] H3 fun v14 H4 =>
 (loadV tab 3 v15 H4 fun v9016 =>
 v16 = v9016) ∧
 (loadV tab 3 v17 H4 fun v9018 =>
 v18 = v9018) ∧
 CallT Try.prog 140 [v16, v18] H4 fun v19 H5 =>
 buildSliceV tab 24 3 [(0, v9), (1, v14), (2, v19)] H5 (wkK fun v20 H6 =>
 CallT Try.prog 139 [v20] H6 fun v21 H7 =>
 K v21 H7)
theorem W113_wp (v0 : AV) (v1 : AV) (H : Heap) (K : AV → Heap → Prop) : wpC Try.prog tab D113 (bodyOf Try.f113) (retF tab [.tmp 4] K) (nthA [v0, v1]) H = W113 v0 v1 H K := by kernel_rfl
theorem W113_ok {v0 v1 : AV} {H : Heap} {K : AV → Heap → Prop} (h : W113 v0 v1 H K) : CallT Try.prog 113 [v0, v1] H K :=
  CallT.of_wp (D := D113) tab_ok mixed Try.func113 (c := bodyOf Try.f113) (by kernel_rfl) rfl (by kernel_rfl) (rs := #[.tmp 4]) rfl (by decide +kernel) (by kernel_rfl) (W113_wp v0 v1 H K) h
theorem W113_hb : HasBody Try.prog 113 := ⟨_, bodyOf Try.f113, Try.func113, by kernel_rfl, rfl⟩
/-- loop.example/g00649/laws.eqEdge -/
def D114 : Info := ⟨20, fun i => ([], []), fun i => ([], [])⟩
def W114 (v0 : AV) (v1 : AV) (H : Heap) (K : AV → Heap → Prop) : Prop :=
 boxV v0 H fun v2 H1 =>
 boxV v1 H1 fun v3 H2 =>
 fieldAddrV tab 125 v2 0 fun v5 =>
 loadV tab 3 v5 H2 fun v6 =>
 fieldAddrV tab 125 v3 0 fun v7 =>
 loadV tab 3 v7 H2 fun v8 =>
 binV tab .neq 3 v6 v8 fun v9 =>
 condV v9 (K (AV.p (.bool false)) H2)
 (fieldAddrV tab 125 v2 1 fun v10 =>
 loadV tab 3 v10 H2 fun v11 =>
 fieldAddrV tab 125 v3 1 fun v12 =>
 loadV tab 3 v12 H2 fun v13 =>
 binV tab .neq 3 v11 v13 fun v14 =>
 condV v14 (K (AV.p (.bool false)) H2)
 (fieldAddrV tab 125 v2 2 fun v15 =>
 loadV tab 3 v15 H2 fun v16 =>
 fieldAddrV tab 125 v3 2 fun v17 =>
 loadV tab 3 v17 H2 fun v18 =>
 binV tab .neq 3 v16 v18 fun v19 =>
 condV v19 (K (AV.p (.bool false)) H2)
 (K (AV.p (.bool true)) H2)))
theorem W114_wp (v0 : AV) (v1 : AV) (H : Heap) (K : AV → Heap → Prop) : wpC Try.prog tab D114 (bodyOf Try.f114) (retF tab [.tmp 4] K) (nthA [v0, v1]) H = W114 v0 v1 H K := by kernel_rfl
theorem W114_ok {v0 v1 : AV} {H : Heap} {K : AV → Heap → Prop} (h : W114 v0 v1 H K) : CallT Try.prog 114 [v0, v1] H K :=
  CallT.of_wp (D := D114) tab_ok mixed Try.func114 (c := bodyOf Try.f114) (by kernel_rfl) rfl (by kernel_rfl) (rs := #[.tmp 4]) rfl (by decide +kernel) (by kernel_rfl) (W114_wp v0 v1 H K) h
theorem W114_hb : HasBody Try.prog 114 := ⟨_, bodyOf Try.f114, Try.func114, by kernel_rfl, rfl⟩
/-- loop.example/g00649/impl.isIncreasing -/
def D133 : Info := ⟨35, fun i => ([], []), fun i => if i = 2 then ([0, 1, 7, 8], [9]) else ([], [])⟩
def L133_0 (K : AV → Heap → Prop) (v0 : AV) (v1 : AV) (v7 : AV) (v8 : AV) (v9 : AV) (H : Heap) : Prop := LoopV (wpC Try.prog tab D133 (cAt [1, 0, 1, 0, 0] (bodyOf Try.f133))) [0, 1, 7, 8] (PostF.block 0 (PostF.thenA (wpC Try.prog tab D133 (cAt [1, 1] (bodyOf Try.f133))) (retF tab [.tmp 4] K))) [9] [v0, v1, AV.any, AV.any, AV.any, AV.any, AV.any, v7, v8, v9, AV.any, AV.any, AV.any, AV.any, AV.any, AV.any, AV.any, AV.any, AV.any, AV.any, AV.any, AV.any, AV.any, AV.any, AV.any, AV.any, AV.any, AV.any, AV.any, AV.any, AV.any, AV.any, AV.any, AV.any, AV.any] H
def B133_0 (K : AV → Heap → Prop) (N1 : AV → Heap → Prop) (v0 : AV) (v1 : AV) (v7 : AV) (v8 : AV) (v9 : AV) (H : Heap) : Prop :=
 binV tab .lss 3 v9 v8 fun v10 =>
 condV v10 (indexAddrV tab 24 v7 v9 fun v12 =>
 loadV tab 3 v12 H fun v13 =>
 binV tab .lss 3 v13 (AV.p (.int .i64 0)) fun v15 =>
 grdV v15 false (binV tab .geq 3 v13 v1 fun v19 =>
 grdV v19 false (binV tab .gtr 3 v9 (AV.p (.int .i64 0)) fun v23 =>
 grdV v23 true (binV tab .sub 3 v9 (AV.p (.int .i64 1)) fun v27 =>
 indexAddrV tab 24 v0 v27 fun v28 =>
 loadV tab 3 v28 H fun v29 =>
 binV tab .geq 3 v29 v13 fun v31 =>
 condV v31 (K (AV.p (.bool false)) H)
 (binV tab .add 3 v9 (AV.p (.int .i64 1)) fun v34 =>
 N1 v34 H))
 (binV tab .add 3 v9 (AV.p (.int .i64 1)) fun v34 =>
 N1 v34 H))
 (K (AV.p (.bool false)) H))
 (K (AV.p (.bool false)) H))
 (K (AV.p (.bool true)) H)
def W133 (v0 : AV) (v1 : AV) (H : Heap) (K : AV → Heap → Prop) : Prop :=
 lenV tab 24 v0 fun v8 =>
 L133_0 K v0 v1 v0 v8 (AV.p (.int .i64 0)) H
theorem W133_wp (v0 : AV) (v1 : AV) (H : Heap) (K : AV → Heap → Prop) : wpC Try.prog tab D133 (bodyOf Try.f133) (retF tab [.tmp 4] K) (nthA [v0, v1]) H = W133 v0 v1 H K := by kernel_rfl
theorem W133_ok {v0 v1 : AV} {H : Heap} {K : AV → Heap → Prop} (h : W133 v0 v1 H K) : CallT Try.prog 133 [v0, v1] H K :=
  CallT.of_wp (D := D133) tab_ok mixed Try.func133 (c := bodyOf Try.f133) (by kernel_rfl) rfl (by kernel_rfl) (rs := #[.tmp 4]) rfl (by decide +kernel) (by kernel_rfl) (W133_wp v0 v1 H K) h
theorem W133_hb : HasBody Try.prog 133 := ⟨_, bodyOf Try.f133, Try.func133, by kernel_rfl, rfl⟩
theorem L133_0_rule {K : AV → Heap → Prop} {v0 v1 v7 v8 v9 : AV} {H : Heap} {σ : Type} (s0 : σ) (f9 : σ → AV) (TH : σ → Heap) (pre : σ → Prop) (μ : σ → Nat)
    (h0 : pre s0 ∧ AV.wk v9 (f9 s0) ∧ Heap.le (TH s0) H)
    (round : ∀ s, pre s → B133_0 K (fun w9 H' => ∃ s', pre s' ∧ μ s' < μ s ∧ AV.wk w9 (f9 s') ∧ Heap.le (TH s') H') v0 v1 v7 v8 (f9 s) (TH s)) :
    L133_0 K v0 v1 v7 v8 v9 H := by
  unfold L133_0
  exact LoopV.mk s0 (fun s => [f9 s]) TH pre μ (fun _ => rfl) (Eq.mp (by kernel_rfl) h0) (fun s hs => Eq.mp (by kernel_rfl) (round s hs))
theorem L133_0_ruleG {K : AV → Heap → Prop} {v0 v1 v7 v8 v9 : AV} {H : Heap} {σ : Type} (s0 : σ) (f9 : σ → AV) (TH : σ → Heap) (pre : σ → Prop) (μ : σ → Nat)
    (h0 : pre s0 ∧ AV.wk v9 (f9 s0) ∧ Heap.le (TH s0) H)
    (round : ∀ s, pre s → ∀ q, TH s q = none → B133_0 K (fun w9 H' => ∃ s', pre s' ∧ μ s' < μ s ∧ AV.wk w9 (f9 s') ∧ Heap.le (TH s') H') v0 v1 v7 v8 (f9 s) ((TH s).set q [])) :
    L133_0 K v0 v1 v7 v8 v9 H := by
  unfold L133_0
  exact LoopV.mkG s0 (fun s => [f9 s]) TH pre μ (fun _ => rfl) (Eq.mp (by kernel_rfl) h0) (fun s hs q hq => Eq.mp (by kernel_rfl) (round s hs q hq))
/-- loop.example/g00649/impl.areGoals -/
def D134 : Info := ⟨14, fun i => ([], []), fun i => ([], [])⟩
def W134 (v0 : AV) (v1 : AV) (H : Heap) (K : AV → Heap → Prop) : Prop :=
 boxV v1 H fun v3 H1 =>
 lenV tab 53 v0 fun v6 =>
 binV tab .leq 3 v6 (AV.p (.int .i64 6)) fun v7 =>
 grdV v7 true (CallT Try.prog 155 [v0, (.fn 156 [v3])] H1 fun v11 H2 =>
 unV .not v11 fun v12 =>
 K v12 H2)
 (K (AV.p (.bool false)) H1)
theorem W134_wp (v0 : AV) (v1 : AV) (H : Heap) (K : AV → Heap → Prop) : wpC Try.prog tab D134 (bodyOf Try.f134) (retF tab [.tmp 4] K) (nthA [v0, v1]) H = W134 v0 v1 H K := by kernel_rfl
theorem W134_ok {v0 v1 : AV} {H : Heap} {K : AV → Heap → Prop} (h : W134 v0 v1 H K) : CallT Try.prog 134 [v0, v1] H K :=
  CallT.of_wp (D := D134) tab_ok mixed Try.func134 (c := bodyOf Try.f134) (by kernel_rfl) rfl (by kernel_rfl) (rs := #[.tmp 4]) rfl (by decide +kernel) (by kernel_rfl) (W134_wp v0 v1 H K) h
theorem W134_hb : HasBody Try.prog 134 := ⟨_, bodyOf Try.f134, Try.func134, by kernel_rfl, rfl⟩
/-- loop.example/g00649/impl.guessesWith -/
def D135 : Info := ⟨22, fun i => ([], []), fun i => if i = 3 then ([1, 9], [5, 10]) else ([], [])⟩
def L135_0 (K : AV → Heap → Prop) (v1 : AV) (v5 : AV) (v9 : AV) (v10 : AV) (H : Heap) : Prop := LoopV (wpC Try.prog tab D135 (cAt [1, 1, 0, 1, 0, 0] (bodyOf Try.f135))) [1, 9] (PostF.block 0 (PostF.thenA (wpC Try.prog tab D135 (cAt [1, 1, 1] (bodyOf Try.f135))) (retF tab [.tmp 4] K))) [5, 10] [AV.any, v1, AV.any, AV.any, AV.any, v5, AV.any, AV.any, AV.any, v9, v10, AV.any, AV.any, AV.any, AV.any, AV.any, AV.any, AV.any, AV.any, AV.any, AV.any, AV.any] H
def B135_0 (K : AV → Heap → Prop) (N1 : AV → AV → Heap → Prop) (v1 : AV) (v5 : AV) (v9 : AV) (v10 : AV) (H : Heap) : Prop :=
 binV tab .lss 3 v10 v9 fun v11 =>
 condV v11 (callF Try.prog v1 [v10] H fun v15 H3 =>
 condV v15 (buildSliceV tab 24 1 [(0, v10)] H3 (wkK fun v18 H4 =>
 appendV tab 24 24 v5 v18 H4 (wkK fun v19 H5 =>
 binV tab .add 3 v10 (AV.p (.int .i64 1)) fun v20 =>
 N1 v19 v20 H5)))
 (binV tab .add 3 v10 (AV.p (.int .i64 1)) fun v20 =>
 N1 v5 v20 H3))
 (K v5 H)
def W135 (v0 : AV) (v1 : AV) (H : Heap) (K : AV → Heap → Prop) : Prop :=
 buildSliceV tab 24 0 [] H (wkK fun v7 H1 =>
 CallT Try.prog 101 [v0] H1 fun v9 H2 =>
 L135_0 K v1 v7 v9 (AV.p (.int .i64 0)) H2)
theorem W135_wp (v0 : AV) (v1 : AV) (H : Heap) (K : AV → Heap → Prop) : wpC Try.prog tab D135 (bodyOf Try.f135) (retF tab [.tmp 4] K) (nthA [v0, v1]) H = W135 v0 v1 H K := by kernel_rfl
theorem W135_ok {v0 v1 : AV} {H : Heap} {K : AV → Heap → Prop} (h : W135 v0 v1 H K) : CallT Try.prog 135 [v0, v1] H K :=
  CallT.of_wp (D := D135) tab_ok mixed Try.func135 (c := bodyOf Try.f135) (by kernel_rfl) rfl (by kernel_rfl) (rs := #[.tmp 4]) rfl (by decide +kernel) (by kernel_rfl) (W135_wp v0 v1 H K) h
theorem W135_hb : HasBody Try.prog 135 := ⟨_, bodyOf Try.f135, Try.func135, by kernel_rfl, rfl⟩
theorem L135_0_rule {K : AV → Heap → Prop} {v1 v5 v9 v10 : AV} {H : Heap} {σ : Type} (s0 : σ) (f5 : σ → AV) (f10 : σ → AV) (TH : σ → Heap) (pre : σ → Prop) (μ : σ → Nat)
    (h0 : pre s0 ∧ AV.wk v5 (f5 s0) ∧ AV.wk v10 (f10 s0) ∧ Heap.le (TH s0) H)
    (round : ∀ s, pre s → B135_0 K (fun w5 w10 H' => ∃ s', pre s' ∧ μ s' < μ s ∧ AV.wk w5 (f5 s') ∧ AV.wk w10 (f10 s') ∧ Heap.le (TH s') H') v1 (f5 s) v9 (f10 s) (TH s)) :
    L135_0 K v1 v5 v9 v10 H := by
  unfold L135_0
  exact LoopV.mk s0 (fun s => [f5 s, f10 s]) TH pre μ (fun _ => rfl) (Eq.mp (by kernel_rfl) h0) (fun s hs => Eq.mp (by kernel_rfl) (round s hs))
theorem L135_0_ruleG {K : AV → Heap → Prop} {v1 v5 v9 v10 : AV} {H : Heap} {σ : Type} (s0 : σ) (f5 : σ → AV) (f10 : σ → AV) (TH : σ → Heap) (pre : σ → Prop) (μ : σ → Nat)
    (h0 : pre s0 ∧ AV.wk v5 (f5 s0) ∧ AV.wk v10 (f10 s0) ∧ Heap.le (TH s0) H)
    (round : ∀ s, pre s → ∀ q, TH s q = none → B135_0 K (fun w5 w10 H' => ∃ s', pre s' ∧ μ s' < μ s ∧ AV.wk w5 (f5 s') ∧ AV.wk w10 (f10 s') ∧ Heap.le (TH s') H') v1 (f5 s) v9 (f10 s) ((TH s).set q [])) :
    L135_0 K v1 v5 v9 v10 H := by
  unfold L135_0
  exact LoopV.mkG s0 (fun s => [f5 s, f10 s]) TH pre μ (fun _ => rfl) (Eq.mp (by kernel_rfl) h0) (fun s hs q hq => Eq.mp (by kernel_rfl) (round s hs q hq))
/-- loop.example/g00649/impl.rooted$1 -/
def D136 : Info := ⟨14, fun i => if i = 1 then ([[], [], [], [2], [2, 3], [0, 1, 2, 3, 4], [], [0, 1, 2, 3, 4, 5, 6], [0, 1, 2, 3, 4, 5, 6, 7]], [(0, []), (1, []), (2, []), (3, []), (4, []), (6, []), (5, [6]), (7, []), (8, [])]) else ([], []), fun i => ([], [])⟩
def W136 (v0 : AV) (v1 : AV) (v2 : AV) (v3 : AV) (H : Heap) (K : AV → Heap → Prop) : Prop :=
 loadV tab 24 v1 H fun v6 =>
 loadV tab 27 v2 H fun v8 =>
 lenV tab 27 v8 fun v9 =>
 binV tab .sub 3 v9 (AV.p (.int .i64 1)) fun v10 =>
 loadV tab 4 v3 H fun v12 =>
 CallT Try.prog 102 [v6, v0, v10] H fun v11 H1 =>
 (loadV tab 4 v3 H1 fun v9012 =>
 v12 = v9012) ∧
 binV tab .eql 4 v11 v12 fun v13 =>
 K v13 H1
theorem W136_wp (v0 : AV) (v1 : AV) (v2 : AV) (v3 : AV) (H : Heap) (K : AV → Heap → Prop) : wpC Try.prog tab D136 (bodyOf Try.f136) (retF tab [.tmp 5] K) (nthA [v0, v1, v2, v3]) H = W136 v0 v1 v2 v3 H K := by kernel_rfl
theorem W136_ok {v0 v1 v2 v3 : AV} {H : Heap} {K : AV → Heap → Prop} (h : W136 v0 v1 v2 v3 H K) : CallT Try.prog 136 [v0, v1, v2, v3] H K :=
  CallT.of_wp (D := D136) tab_ok mixed Try.func136 (c := bodyOf Try.f136) (by kernel_rfl) rfl (by kernel_rfl) (rs := #[.tmp 5]) rfl (by decide +kernel) (by kernel_rfl) (W136_wp v0 v1 v2 v3 H K) h
theorem W136_hb : HasBody Try.prog 136 := ⟨_, bodyOf Try.f136, Try.func136, by kernel_rfl, rfl⟩
/-- loop.example/g00649/impl.goalsOf$1 -/
def D137 : Info := ⟨44, fun i => if i = 1 then ([[], [], [], [0, 1, 2], [], [], [], [], [6, 7], [6, 7, 8], [6, 7, 8, 9], [6, 7, 8, 9, 10], [0, 1, 2, 3, 4, 5, 6, 7, 8, 9, 10, 11], [0, 1, 2, 3, 4, 5, 6, 7, 8, 9, 10, 11, 12], [0, 1, 2, 3, 4, 5, 6, 7, 8, 9, 10, 11, 12, 13]], [(0, []), (1, []), (2, []), (4, []), (5, []), (6, []), (7, []), (8, []), (9, []), (10, []), (11, []), (3, [4, 6, 7, 9, 11]), (12, []), (13, []), (14, [])]) else ([], []), fun i => ([], [])⟩
def W137 (v0 : AV) (v1 : AV) (v2 : AV) (v3 : AV) (v4 : AV) (H : Heap) (K : AV → Heap → Prop) : Prop :=
 loadV tab 24 v1 H fun v9 =>
 loadV tab 3 v2 H fun v11 =>
 loadV tab 24 v1 H fun v13 =>
 loadV tab 53 v3 H fun v15 =>
 loadV tab 3 v2 H fun v16 =>
 indexAddrV tab 53 v15 v16 fun v17 =>
 loadV tab 24 v17 H fun v18 =>
 indexAddrV tab 24 v18 (AV.p (.int .i64 1)) fun v19 =>
 loadV tab 3 v19 H fun v20 =>
 CallT Try.prog 102 [v9, v0, v11] H fun v12 H1 =>
 (loadV tab 24 v1 H1 fun v9013 =>
 v13 = v9013) ∧
 (loadV tab 53 v3 H1 fun v9015 =>
 v15 = v9015) ∧
 (loadV tab 3 v2 H1 fun v9016 =>
 v16 = v9016) ∧
 (loadV tab 24 v17 H1 fun v9018 =>
 v18 = v9018) ∧
 (loadV tab 3 v19 H1 fun v9020 =>
 v20 = v9020) ∧
 CallT Try.prog 102 [v13, v0, v20] H1 fun v21 H2 =>
 fieldAddrV tab 77 v4 0 fun v22 =>
 loadV tab 3 v22 H2 fun v23 =>
 binV tab .eql 3 v23 (AV.p (.int .i64 7)) fun v24 =>
 grdV v24 true (unV .not v12 fun v27 =>
 grdV v27 false (grdV v21 false (fieldAddrV tab 77 v4 0 fun v33 =>
 loadV tab 3 v33 H2 fun v34 =>
 binV tab .eql 3 v34 (AV.p (.int .i64 8)) fun v35 =>
 grdV v35 true (grdV v12 false (unV .not v21 fun v40 =>
 K v40 H2)
 (K (AV.p (.bool true)) H2))
 (K (AV.p (.bool false)) H2))
 (K (AV.p (.bool true)) H2))
 (K (AV.p (.bool true)) H2))
 (fieldAddrV tab 77 v4 0 fun v33 =>
 loadV tab 3 v33 H2 fun v34 =>
 binV tab .eql 3 v34 (AV.p (.int .i64 8)) fun v35 =>
 grdV v35 true (grdV v12 false (unV .not v21 fun v40 =>
 K v40 H2)
 (K (AV.p (.bool true)) H2))
 (K (AV.p (.bool false)) H2))
theorem W137_wp (v0 : AV) (v1 : AV) (v2 : AV) (v3 : AV) (v4 : AV) (H : Heap) (K : AV → Heap → Prop) : wpC Try.prog tab D137 (bodyOf Try.f137) (retF tab [.tmp 6] K) (nthA [v0, v1, v2, v3, v4]) H = W137 v0 v1 v2 v3 v4 H K := by kernel_rfl
theorem W137_ok {v0 v1 v2 v3 v4 : AV} {H : Heap} {K : AV → Heap → Prop} (h : W137 v0 v1 v2 v3 v4 H K) : CallT Try.prog 137 [v0, v1, v2, v3, v4] H K :=
  CallT.of_wp (D := D137) tab_ok mixed Try.func137 (c := bodyOf Try.f137) (by kernel_rfl) rfl (by kernel_rfl) (rs := #[.tmp 6]) rfl (by decide +kernel) (by kernel_rfl) (W137_wp v0 v1 v2 v3 v4 H K) h
theorem W137_hb : HasBody Try.prog 137 := ⟨_, bodyOf Try.f137, Try.func137, by kernel_rfl, rfl⟩
/-- cmp.Or[int] -/
def D139 : Info := ⟨18, fun i => ([], []), fun i => if i = 3 then ([3, 6, 7], [8]) else ([], [])⟩
def L139_0 (K : AV → Heap → Prop) (v3 : AV) (v6 : AV) (v7 : AV) (v8 : AV) (H : Heap) : Prop := LoopV (wpC Try.prog tab D139 (cAt [1, 1, 0, 1, 0, 0] (bodyOf Try.f139))) [3, 6, 7] (PostF.block 0 (PostF.thenA (wpC Try.prog tab D139 (cAt [1, 1, 1] (bodyOf Try.f139))) (retF tab [.tmp 2] K))) [8] [AV.any, AV.any, AV.any, v3, AV.any, AV.any, v6, v7, v8, AV.any, AV.any, AV.any, AV.any, AV.any, AV.any, AV.any, AV.any, AV.any] H
def B139_0 (K : AV → Heap → Prop) (N1 : AV → Heap → Prop) (v3 : AV) (v6 : AV) (v7 : AV) (v8 : AV) (H : Heap) : Prop :=
 binV tab .lss 3 v8 v7 fun v9 =>
 condV v9 (indexAddrV tab 24 v6 v8 fun v10 =>
 loadV tab 3 v10 H fun v11 =>
 binV tab .neq 3 v11 v3 fun v14 =>
 condV v14 (K v11 H)
 (binV tab .add 3 v8 (AV.p (.int .i64 1)) fun v16 =>
 N1 v16 H))
 (K v3 H)
def W139 (v0 : AV) (H : Heap) (K : AV → Heap → Prop) : Prop :=
 lenV tab 24 v0 fun v7 =>
 L139_0 K (AV.p (.int .i64 0)) v0 v7 (AV.p (.int .i64 0)) H
theorem W139_wp (v0 : AV) (H : Heap) (K : AV → Heap → Prop) : wpC Try.prog tab D139 (bodyOf Try.f139) (retF tab [.tmp 2] K) (nthA [v0]) H = W139 v0 H K := by kernel_rfl
theorem W139_ok {v0 : AV} {H : Heap} {K : AV → Heap → Prop} (h : W139 v0 H K) : CallT Try.prog 139 [v0] H K :=
  CallT.of_wp (D := D139) tab_ok mixed Try.func139 (c := bodyOf Try.f139) (by kernel_rfl) rfl (by kernel_rfl) (rs := #[.tmp 2]) rfl (by decide +kernel) (by kernel_rfl) (W139_wp v0 H K) h
theorem W139_hb : HasBody Try.prog 139 := ⟨_, bodyOf Try.f139, Try.func139, by kernel_rfl, rfl⟩
theorem L139_0_rule {K : AV → Heap → Prop} {v3 v6 v7 v8 : AV} {H : Heap} {σ : Type} (s0 : σ) (f8 : σ → AV) (TH : σ → Heap) (pre : σ → Prop) (μ : σ → Nat)
    (h0 : pre s0 ∧ AV.wk v8 (f8 s0) ∧ Heap.le (TH s0) H)
    (round : ∀ s, pre s → B139_0 K (fun w8 H' => ∃ s', pre s' ∧ μ s' < μ s ∧ AV.wk w8 (f8 s') ∧ Heap.le (TH s') H') v3 v6 v7 (f8 s) (TH s)) :
    L139_0 K v3 v6 v7 v8 H := by
  unfold L139_0
  exact LoopV.mk s0 (fun s => [f8 s]) TH pre μ (fun _ => rfl) (Eq.mp (by kernel_rfl) h0) (fun s hs => Eq.mp (by kernel_rfl) (round s hs))
theorem L139_0_ruleG {K : AV → Heap → Prop} {v3 v6 v7 v8 : AV} {H : Heap} {σ : Type} (s0 : σ) (f8 : σ → AV) (TH : σ → Heap) (pre : σ → Prop) (μ : σ → Nat)
    (h0 : pre s0 ∧ AV.wk v8 (f8 s0) ∧ Heap.le (TH s0) H)
    (round : ∀ s, pre s → ∀ q, TH s q = none → B139_0 K (fun w8 H' => ∃ s', pre s' ∧ μ s' < μ s ∧ AV.wk w8 (f8 s') ∧ Heap.le (TH s') H') v3 v6 v7 (f8 s) ((TH s).set q [])) :
    L139_0 K v3 v6 v7 v8 H := by
  unfold L139_0
  exact LoopV.mkG s0 (fun s => [f8 s]) TH pre μ (fun _ => rfl) (Eq.mp (by kernel_rfl) h0) (fun s hs q hq => Eq.mp (by kernel_rfl) (round s hs q hq))
/-- cmp.Compare[int] -/
def D140 : Info := ⟨20, fun i => ([], []), fun i => ([], [])⟩
def W140 (v0 : AV) (v1 : AV) (H : Heap) (K : AV → Heap → Prop) : Prop :=
 CallT Try.prog 165 [v0] H fun v8 H1 =>
 CallT Try.prog 165 [v1] H1 fun v10 H2 =>
 condV v8 (condV v10 (K (AV.p (.int .i64 0)) H2)
 (K (AV.p (.int .i64 (-1))) H2))
 (condV v10 (K (AV.p (.int .i64 1)) H2)
 (binV tab .lss 3 v0 v1 fun v16 =>
 condV v16 (K (AV.p (.int .i64 (-1))) H2)
 (binV tab .gtr 3 v0 v1 fun v19 =>
 condV v19 (K (AV.p (.int .i64 1)) H2)
 (K (AV.p (.int .i64 0)) H2))))
theorem W140_wp (v0 : AV) (v1 : AV) (H : Heap) (K : AV → Heap → Prop) : wpC Try.prog tab D140 (bodyOf Try.f140) (retF tab [.tmp 4] K) (nthA [v0, v1]) H = W140 v0 v1 H K := by kernel_rfl
theorem W140_ok {v0 v1 : AV} {H : Heap} {K : AV → Heap → Prop} (h : W140 v0 v1 H K) : CallT Try.prog 140 [v0, v1] H K :=
  CallT.of_wp (D := D140) tab_ok mixed Try.func140 (c := bodyOf Try.f140) (by kernel_rfl) rfl (by kernel_rfl) (rs := #[.tmp 4]) rfl (by decide +kernel) (by kernel_rfl) (W140_wp v0 v1 H K) h
theorem W140_hb : HasBody Try.prog 140 := ⟨_, bodyOf Try.f140, Try.func140, by kernel_rfl, rfl⟩
/-- slices.ContainsFunc[[][]int,[]int] -/
def D155 : Info := ⟨9, fun i => ([], []), fun i => ([], [])⟩
def W155 (v0 : AV) (v1 : AV) (H : Heap) (K : AV → Heap → Prop) : Prop :=
 CallT Try.prog 173 [v0, v1] H fun v7 H1 =>
 binV tab .geq 3 v7 (AV.p (.int .i64 0)) fun v8 =>
 K v8 H1
theorem W155_wp (v0 : AV) (v1 : AV) (H : Heap) (K : AV → Heap → Prop) : wpC Try.prog tab D155 (bodyOf Try.f155) (retF tab [.tmp 4] K) (nthA [v0, v1]) H = W155 v0 v1 H K := by kernel_rfl
theorem W155_ok {v0 v1 : AV} {H : Heap} {K : AV → Heap → Prop} (h : W155 v0 v1 H K) : CallT Try.prog 155 [v0, v1] H K :=
  CallT.of_wp (D := D155) tab_ok mixed Try.func155 (c := bodyOf Try.f155) (by kernel_rfl) rfl (by kernel_rfl) (rs := #[.tmp 4]) rfl (by decide +kernel) (by kernel_rfl) (W155_wp v0 v1 H K) h
theorem W155_hb : HasBody Try.prog 155 := ⟨_, bodyOf Try.f155, Try.func155, by kernel_rfl, rfl⟩
/-- loop.example/g00649/impl.areGoals$1 -/
def D156 : Info := ⟨8, fun i => ([], []), fun i => ([], [])⟩
def W156 (v0 : AV) (v1 : AV) (H : Heap) (K : AV → Heap → Prop) : Prop :=
 loadV tab 3 v1 H fun v5 =>
 CallT Try.prog 133 [v0, v5] H fun v6 H1 =>
 unV .not v6 fun v7 =>
 K v7 H1
theorem W156_wp (v0 : AV) (v1 : AV) (H : Heap) (K : AV → Heap → Prop) : wpC Try.prog tab D156 (bodyOf Try.f156) (retF tab [.tmp 3] K) (nthA [v0, v1]) H = W156 v0 v1 H K := by kernel_rfl
theorem W156_ok {v0 v1 : AV} {H : Heap} {K : AV → Heap → Prop} (h : W156 v0 v1 H K) : CallT Try.prog 156 [v0, v1] H K :=
  CallT.of_wp (D := D156) tab_ok mixed Try.func156 (c := bodyOf Try.f156) (by kernel_rfl) rfl (by kernel_rfl) (rs := #[.tmp 3]) rfl (by decide +kernel) (by kernel_rfl) (W156_wp v0 v1 H K) h
theorem W156_hb : HasBody Try.prog 156 := ⟨_, bodyOf Try.f156, Try.func156, by kernel_rfl, rfl⟩
/-- slices.IndexFunc[[][]int,[]int] -/
def D173 : Info := ⟨19, fun i => ([], []), fun i => if i = 2 then ([0, 1, 7], [8]) else ([], [])⟩
def L173_0 (K : AV → Heap → Prop) (v0 : AV) (v1 : AV) (v7 : AV) (v8 : AV) (H : Heap) : Prop := LoopV (wpC Try.prog tab D173 (cAt [1, 0, 1, 0, 0] (bodyOf Try.f173))) [0, 1, 7] (PostF.block 0 (PostF.thenA (wpC Try.prog tab D173 (cAt [1, 1] (bodyOf Try.f173))) (retF tab [.tmp 4] K))) [8] [v0, v1, AV.any, AV.any, AV.any, AV.any, AV.any, v7, v8, AV.any, AV.any, AV.any, AV.any, AV.any, AV.any, AV.any, AV.any, AV.any, AV.any] H
def B173_0 (K : AV → Heap → Prop) (N1 : AV → Heap → Prop) (v0 : AV) (v1 : AV) (v7 : AV) (v8 : AV) (H : Heap) : Prop :=
 binV tab .lss 3 v8 v7 fun v9 =>
 condV v9 (indexAddrV tab 53 v0 v8 fun v14 =>
 loadV tab 24 v14 H fun v15 =>
 callF Try.prog v1 [v15] H fun v16 H1 =>
 condV v16 (K v8 H1)
 (binV tab .add 3 v8 (AV.p (.int .i64 1)) fun v18 =>
 N1 v18 H1))
 (K (AV.p (.int .i64 (-1))) H)
def W173 (v0 : AV) (v1 : AV) (H : Heap) (K : AV → Heap → Prop) : Prop :=
 lenV tab 53 v0 fun v7 =>
 L173_0 K v0 v1 v7 (AV.p (.int .i64 0)) H
theorem W173_wp (v0 : AV) (v1 : AV) (H : Heap) (K : AV → Heap → Prop) : wpC Try.prog tab D173 (bodyOf Try.f173) (retF tab [.tmp 4] K) (nthA [v0, v1]) H = W173 v0 v1 H K := by kernel_rfl
theorem W173_ok {v0 v1 : AV} {H : Heap} {K : AV → Heap → Prop} (h : W173 v0 v1 H K) : CallT Try.prog 173 [v0, v1] H K :=
  CallT.of_wp (D := D173) tab_ok mixed Try.func173 (c := bodyOf Try.f173) (by kernel_rfl) rfl (by kernel_rfl) (rs := #[.tmp 4]) rfl (by decide +kernel) (by kernel_rfl) (W173_wp v0 v1 H K) h
theorem W173_hb : HasBody Try.prog 173 := ⟨_, bodyOf Try.f173, Try.func173, by kernel_rfl, rfl⟩
theorem L173_0_rule {K : AV → Heap → Prop} {v0 v1 v7 v8 : AV} {H : Heap} {σ : Type} (s0 : σ) (f8 : σ → AV) (TH : σ → Heap) (pre : σ → Prop) (μ : σ → Nat)
    (h0 : pre s0 ∧ AV.wk v8 (f8 s0) ∧ Heap.le (TH s0) H)
    (round : ∀ s, pre s → B173_0 K (fun w8 H' => ∃ s', pre s' ∧ μ s' < μ s ∧ AV.wk w8 (f8 s') ∧ Heap.le (TH s') H') v0 v1 v7 (f8 s) (TH s)) :
    L173_0 K v0 v1 v7 v8 H := by
  unfold L173_0
  exact LoopV.mk s0 (fun s => [f8 s]) TH pre μ (fun _ => rfl) (Eq.mp (by kernel_rfl) h0) (fun s hs => Eq.mp (by kernel_rfl) (round s hs))
theorem L173_0_ruleG {K : AV → Heap → Prop} {v0 v1 v7 v8 : AV} {H : Heap} {σ : Type} (s0 : σ) (f8 : σ → AV) (TH : σ → Heap) (pre : σ → Prop) (μ : σ → Nat)
    (h0 : pre s0 ∧ AV.wk v8 (f8 s0) ∧ Heap.le (TH s0) H)
    (round : ∀ s, pre s → ∀ q, TH s q = none → B173_0 K (fun w8 H' => ∃ s', pre s' ∧ μ s' < μ s ∧ AV.wk w8 (f8 s') ∧ Heap.le (TH s') H') v0 v1 v7 (f8 s) ((TH s).set q [])) :
    L173_0 K v0 v1 v7 v8 H := by
  unfold L173_0
  exact LoopV.mkG s0 (fun s => [f8 s]) TH pre μ (fun _ => rfl) (Eq.mp (by kernel_rfl) h0) (fun s hs q hq => Eq.mp (by kernel_rfl) (round s hs q hq))
end Go.Proofs.Ytoeabliackaibaa
