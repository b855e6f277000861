/- What each function's code is asked for, as a formula. Written by wgen.py (a program of this session's) out of Lean's print of the program. -/
import Derived.KernelRfl
import Derived.Test.YtfbaijpanbjmpaaTab
import Derived.Test.YtfbaijpanbjmpaaSepC
namespace Go.Proofs.Ytfbaijpanbjmpaa
open Go Go.Sep
set_option linter.unusedVariables false
attribute [local irreducible] wpC headF
/-- loop.example/g00649/laws.toIntSS -/
def D41 : Info := ⟨23, fun i => ([], []), fun i => if i = 3 then ([0, 3], [4]) else ([], [])⟩
def L41_0 (K : AV → Heap → Prop) (v0 : AV) (v3 : AV) (v4 : AV) (H : Heap) : Prop := LoopV (wpC Try.prog tab D41 (cAt [1, 1, 0, 1, 0, 0] (bodyOf Try.f41))) [0, 3] (PostF.block 0 (PostF.thenA (wpC Try.prog tab D41 (cAt [1, 1, 1] (bodyOf Try.f41))) (retF tab [.tmp 2] K))) [4] [v0, AV.any, AV.any, v3, v4, AV.any, AV.any, AV.any, AV.any, AV.any, AV.any, AV.any, AV.any, AV.any, AV.any, AV.any, AV.any, AV.any, AV.any, AV.any, AV.any, AV.any, AV.any] H
def B41_0 (K : AV → Heap → Prop) (N1 : AV → Heap → Prop) (v0 : AV) (v3 : AV) (v4 : AV) (H : Heap) : Prop :=
 lenV tab 24 v0 fun v10 =>
 binV tab .lss 3 v4 v10 fun v11 =>
 condV v11 (indexAddrV tab 24 v0 v4 fun v18 =>
 loadV tab 22 v18 H fun v19 =>
 CallT Try.prog 39 [v19] H fun v20 H2 =>
 indexAddrV tab 24 v3 v4 fun v21 =>
 storeV tab 22 v21 v20 H2 fun H3 =>
 binV tab .add 3 v4 (AV.p (.int .i64 1)) fun v13 =>
 N1 v13 H3)
 (K v3 H)
def W41 (v0 : AV) (H : Heap) (K : AV → Heap → Prop) : Prop :=
 lenV tab 24 v0 fun v6 =>
 makeSliceV tab 24 v6 v6 H fun v7 H1 =>
 L41_0 K v0 v7 (AV.p (.int .i64 0)) H1
theorem W41_wp (v0 : AV) (H : Heap) (K : AV → Heap → Prop) : wpC Try.prog tab D41 (bodyOf Try.f41) (retF tab [.tmp 2] K) (nthA [v0]) H = W41 v0 H K := by kernel_rfl
theorem W41_ok {v0 : AV} {H : Heap} {K : AV → Heap → Prop} (h : W41 v0 H K) : CallT Try.prog 41 [v0] H K :=
  CallT.of_wp (D := D41) tab_ok mixed Try.func41 (c := bodyOf Try.f41) (by kernel_rfl) rfl (by kernel_rfl) (rs := #[.tmp 2]) rfl (by decide +kernel) (by kernel_rfl) (W41_wp v0 H K) h
theorem W41_hb : HasBody Try.prog 41 := ⟨_, bodyOf Try.f41, Try.func41, by kernel_rfl, rfl⟩
theorem L41_0_rule {K : AV → Heap → Prop} {v0 v3 v4 : AV} {H : Heap} {σ : Type} (s0 : σ) (f4 : σ → AV) (TH : σ → Heap) (pre : σ → Prop) (μ : σ → Nat)
    (h0 : pre s0 ∧ AV.wk v4 (f4 s0) ∧ Heap.le (TH s0) H)
    (round : ∀ s, pre s → B41_0 K (fun w4 H' => ∃ s', pre s' ∧ μ s' < μ s ∧ AV.wk w4 (f4 s') ∧ Heap.le (TH s') H') v0 v3 (f4 s) (TH s)) :
    L41_0 K v0 v3 v4 H := by
  unfold L41_0
  exact LoopV.mk s0 (fun s => [f4 s]) TH pre μ (fun _ => rfl) (Eq.mp (by kernel_rfl) h0) (fun s hs => Eq.mp (by kernel_rfl) (round s hs))
theorem L41_0_ruleG {K : AV → Heap → Prop} {v0 v3 v4 : AV} {H : Heap} {σ : Type} (s0 : σ) (f4 : σ → AV) (TH : σ → Heap) (pre : σ → Prop) (μ : σ → Nat)
    (h0 : pre s0 ∧ AV.wk v4 (f4 s0) ∧ Heap.le (TH s0) H)
    (round : ∀ s, pre s → ∀ q, TH s q = none → B41_0 K (fun w4 H' => ∃ s', pre s' ∧ μ s' < μ s ∧ AV.wk w4 (f4 s') ∧ Heap.le (TH s') H') v0 v3 (f4 s) ((TH s).set q [])) :
    L41_0 K v0 v3 v4 H := by
  unfold L41_0
  exact LoopV.mkG s0 (fun s => [f4 s]) TH pre μ (fun _ => rfl) (Eq.mp (by kernel_rfl) h0) (fun s hs q hq => Eq.mp (by kernel_rfl) (round s hs q hq))
/-- loop.example/g00649/impl.GoodAuto -/
def D42 : Info := ⟨91, fun i => if i = 6 then ([[], [0], [0, 1], [0, 1, 2], [0, 1, 2, 3], [0, 1, 2, 3, 4], [0, 1, 2, 3], [0, 1, 2, 3, 6], [0, 1, 2, 3, 4, 5, 6, 7], [0, 1, 2, 3, 4, 5, 6, 7, 8], [0, 1, 2, 3, 4, 5, 6, 7, 8, 9], [0, 1, 2, 3, 4, 5, 6, 7, 8, 9, 10], [0, 1, 2, 3, 4, 5, 6, 7, 8, 9, 10, 11], [0, 1, 2, 3, 4, 5, 6, 7, 8, 9, 10, 11, 12], [0, 1, 2, 3, 4, 5, 6, 7, 8, 9, 10, 11, 12, 13], [0, 1, 2, 3, 4, 5, 6, 7, 8, 9, 10, 11, 12, 13, 14], [0, 1, 2, 3, 4, 5, 6, 7, 8, 9, 10, 11, 12, 13, 14, 15], [0, 1, 2, 3, 4, 5, 6, 7, 8, 9, 10, 11, 12, 13, 14, 15, 16], [0, 1, 2, 3, 4, 5, 6, 7, 8, 9, 10, 11, 12, 13, 14, 15], [0, 1, 2, 3, 4, 5, 6, 7, 8, 9, 10, 11, 12, 13, 14, 15, 18], [0, 1, 2, 3, 4, 5, 6, 7, 8, 9, 10, 11, 12, 13, 14, 15, 16, 17, 18, 19], [0, 1, 2, 3, 4, 5, 6, 7, 8, 9, 10, 11, 12, 13, 14, 15, 16, 17, 18, 19, 20], [0, 1, 2, 3, 4, 5, 6, 7, 8, 9, 10, 11, 12, 13, 14, 15, 16, 17, 18, 19, 20, 21], [0, 1, 2, 3, 4, 5, 6, 7, 8, 9, 10, 11, 12, 13, 14, 15, 16, 17, 18, 19, 20, 21, 22], [0, 1, 2, 3, 4, 5, 6, 7, 8, 9, 10, 11, 12, 13, 14, 15, 16, 17, 18, 19, 20, 21, 22, 23], [0, 1, 2, 3, 4, 5, 6, 7, 8, 9, 10, 11, 12, 13, 14, 15, 16, 17, 18, 19, 20, 21, 22, 23, 24], [0, 1, 2, 3, 4, 5, 6, 7, 8, 9, 10, 11, 12, 13, 14, 15, 16, 17, 18, 19, 20, 21, 22, 23, 24, 25], [0, 1, 2, 3, 4, 5, 6, 7, 8, 9, 10, 11, 12, 13, 14, 15, 16, 17, 18, 19, 20, 21, 22, 23, 24, 25, 26], [0, 1, 2, 3, 4, 5, 6, 7, 8, 9, 10, 11, 12, 13, 14, 15, 16, 17, 18, 19, 20, 21, 22, 23, 24, 25, 26, 27], [0, 1, 2, 3, 4, 5, 6, 7, 8, 9, 10, 11, 12, 13, 14, 15, 16, 17, 18, 19, 20, 21, 22, 23, 24, 25, 26, 27, 28], [0, 1, 2, 3, 4, 5, 6, 7, 8, 9, 10, 11, 12, 13, 14, 15, 16, 17, 18, 19, 20, 21, 22, 23, 24, 25, 26, 27, 28, 29], [0, 1, 2, 3, 4, 5, 6, 7, 8, 9, 10, 11, 12, 13, 14, 15, 16, 17, 18, 19, 20, 21, 22, 23, 24, 25, 26, 27, 28, 29, 30], [0, 1, 2, 3, 4, 5, 6, 7, 8, 9, 10, 11, 12, 13, 14, 15, 16, 17, 18, 19, 20, 21, 22, 23, 24, 25, 26, 27, 28, 29, 30, 31], [0, 1, 2, 3, 4, 5, 6, 7, 8, 9, 10, 11, 12, 13, 14, 15, 16, 17, 18, 19, 20, 21, 22, 23, 24, 25, 26, 27, 28, 29, 30, 31, 32], [0, 1, 2, 3, 4, 5, 6, 7, 8, 9, 10, 11, 12, 13, 14, 15, 16, 17, 18, 19, 20, 21, 22, 23, 24, 25, 26, 27, 28, 29, 30, 31, 32, 33], [0, 1, 2, 3, 4, 5, 6, 7, 8, 9, 10, 11, 12, 13, 14, 15, 16, 17, 18, 19, 20, 21, 22, 23, 24, 25, 26, 27, 28, 29, 30, 31, 32, 33, 34], [0, 1, 2, 3, 4, 5, 6, 7, 8, 9, 10, 11, 12, 13, 14, 15, 16, 17, 18, 19, 20, 21, 22, 23, 24, 25, 26, 27, 28, 29, 30, 31, 32, 33, 34, 35], [0, 1, 2, 3, 4, 5, 6, 7, 8, 9, 10, 11, 12, 13, 14, 15, 16, 17, 18, 19, 20, 21, 22, 23, 24, 25, 26, 27, 28, 29, 30, 31, 32, 33, 34, 35, 36], [0, 1, 2, 3, 4, 5, 6, 7, 8, 9, 10, 11, 12, 13, 14, 15, 16, 17, 18, 19, 20, 21, 22, 23, 24, 25, 26, 27, 28, 29, 30, 31, 32, 33, 34, 35], [0, 1, 2, 3, 4, 5, 6, 7, 8, 9, 10, 11, 12, 13, 14, 15, 16, 17, 18, 19, 20, 21, 22, 23, 24, 25, 26, 27, 28, 29, 30, 31, 32, 33, 34, 35, 38], [0, 1, 2, 3, 4, 5, 6, 7, 8, 9, 10, 11, 12, 13, 14, 15, 16, 17, 18, 19, 20, 21, 22, 23, 24, 25, 26, 27, 28, 29, 30, 31, 32, 33, 34, 35, 36, 37, 38, 39], [0, 1, 2, 3, 4, 5, 6, 7, 8, 9, 10, 11, 12, 13, 14, 15, 16, 17, 18, 19, 20, 21, 22, 23, 24, 25, 26, 27, 28, 29, 30, 31, 32, 33, 34, 35, 36, 37, 38, 39, 40], [0, 1, 2, 3, 4, 5, 6, 7, 8, 9, 10, 11, 12, 13, 14, 15, 16, 17, 18, 19, 20, 21, 22, 23, 24, 25, 26, 27, 28, 29, 30, 31, 32, 33, 34, 35], [0, 1, 2, 3, 4, 5, 6, 7, 8, 9, 10, 11, 12, 13, 14, 15, 16, 17, 18, 19, 20, 21, 22, 23, 24, 25, 26, 27, 28, 29, 30, 31, 32, 33, 34, 35, 36, 37, 38, 39, 40, 41, 42], [0, 1, 2, 3, 4, 5, 6, 7, 8, 9, 10, 11, 12, 13, 14, 15, 16, 17, 18, 19, 20, 21, 22, 23, 24, 25, 26, 27, 28, 29, 30, 31, 32, 33, 34, 35, 36, 37, 38, 39, 40, 41, 42, 43], [0, 1, 2, 3, 4, 5, 6, 7, 8, 9, 10, 11, 12, 13, 14, 15, 16, 17, 18, 19, 20, 21, 22, 23, 24, 25, 26, 27, 28, 29, 30, 31, 32, 33, 34, 35, 36, 37, 38, 39, 40, 41, 42, 43, 44], [0, 1, 2, 3, 4, 5, 6, 7, 8, 9, 10, 11, 12, 13, 14, 15, 16, 17, 18, 19, 20, 21, 22, 23, 24, 25, 26, 27, 28, 29, 30, 31, 32, 33, 34, 35, 36, 37, 38, 39, 40, 41, 42, 43, 44, 45]], [(0, []), (1, []), (2, []), (3, []), (4, []), (5, []), (6, []), (7, []), (8, []), (9, []), (10, []), (11, []), (12, []), (13, []), (14, []), (15, []), (16, []), (17, []), (18, []), (19, []), (20, []), (21, []), (22, []), (23, []), (24, []), (25, []), (26, []), (27, []), (28, []), (29, []), (30, []), (31, []), (32, []), (33, []), (34, []), (35, []), (36, []), (37, []), (38, []), (39, []), (40, []), (41, []), (42, []), (43, []), (44, []), (45, []), (46, [])]) else ([], []), fun i => if i = 4 then ([1, 36, 37], [38]) else ([], [])⟩
def L42_0 (K : AV → Heap → Prop) (v1 : AV) (v36 : AV) (v37 : AV) (v38 : AV) (H : Heap) : Prop := LoopV (wpC Try.prog tab D42 (cAt [1, 1, 0, 1, 0, 0] (bodyOf Try.f42))) [1, 36, 37] (PostF.block 0 (PostF.thenA (wpC Try.prog tab D42 (cAt [1, 1, 1] (bodyOf Try.f42))) (retF tab [.tmp 2] K))) [38] [AV.any, v1, AV.any, AV.any, AV.any, AV.any, AV.any, AV.any, AV.any, AV.any, AV.any, AV.any, AV.any, AV.any, AV.any, AV.any, AV.any, AV.any, AV.any, AV.any, AV.any, AV.any, AV.any, AV.any, AV.any, AV.any, AV.any, AV.any, AV.any, AV.any, AV.any, AV.any, AV.any, AV.any, AV.any, AV.any, v36, v37, v38, AV.any, AV.any, AV.any, AV.any, AV.any, AV.any, AV.any, AV.any, AV.any, AV.any, AV.any, AV.any, AV.any, AV.any, AV.any, AV.any, AV.any, AV.any, AV.any, AV.any, AV.any, AV.any, AV.any, AV.any, AV.any, AV.any, AV.any, AV.any, AV.any, AV.any, AV.any, AV.any, AV.any, AV.any, AV.any, AV.any, AV.any, AV.any, AV.any, AV.any, AV.any, AV.any, AV.any, AV.any, AV.any, AV.any, AV.any, AV.any, AV.any, AV.any, AV.any, AV.any] H
def B42_0 (K : AV → Heap → Prop) (N1 : AV → Heap → Prop) (v1 : AV) (v36 : AV) (v37 : AV) (v38 : AV) (H : Heap) : Prop :=
 binV tab .lss 3 v38 v37 fun v39 =>
 condV v39 (indexAddrV tab 28 v36 v38 fun v41 =>
 loadV tab 61 v41 H fun v42 =>
 allocV tab 61 H fun v4 H4 =>
 storeV tab 61 v4 v42 H4 fun H5 =>
 fieldAddrV tab 61 v4 0 fun v43 =>
 loadV tab 3 v43 H5 fun v44 =>
 binV tab .lss 3 v44 (AV.p (.int .i64 0)) fun v45 =>
 grdV v45 false (fieldAddrV tab 61 v4 0 fun v47 =>
 loadV tab 3 v47 H5 fun v48 =>
 fieldAddrV tab 30 v1 0 fun v49 =>
 loadV tab 3 v49 H5 fun v50 =>
 binV tab .geq 3 v48 v50 fun v51 =>
 grdV v51 false (fieldAddrV tab 61 v4 2 fun v54 =>
 loadV tab 3 v54 H5 fun v55 =>
 binV tab .lss 3 v55 (AV.p (.int .i64 0)) fun v56 =>
 grdV v56 false (fieldAddrV tab 61 v4 2 fun v59 =>
 loadV tab 3 v59 H5 fun v60 =>
 fieldAddrV tab 30 v1 0 fun v61 =>
 loadV tab 3 v61 H5 fun v62 =>
 binV tab .geq 3 v60 v62 fun v63 =>
 grdV v63 false (fieldAddrV tab 61 v4 1 fun v66 =>
 loadV tab 3 v66 H5 fun v67 =>
 binV tab .lss 3 v67 (AV.p (.int .i64 0)) fun v68 =>
 grdV v68 false (fieldAddrV tab 61 v4 1 fun v71 =>
 loadV tab 3 v71 H5 fun v72 =>
 binV tab .geq 3 v72 (AV.p (.int .i64 8)) fun v73 =>
 grdV v73 false (binV tab .gtr 3 v38 (AV.p (.int .i64 0)) fun v77 =>
 grdV v77 true (fieldAddrV tab 30 v1 2 fun v79 =>
 loadV tab 28 v79 H5 fun v80 =>
 binV tab .sub 3 v38 (AV.p (.int .i64 1)) fun v82 =>
 indexAddrV tab 28 v80 v82 fun v83 =>
 loadV tab 61 v83 H5 fun v84 =>
 loadV tab 61 v4 H5 fun v85 =>
 CallT Try.prog 83 [v84, v85] H5 fun v86 H6 =>
 binV tab .geq 3 v86 (AV.p (.int .i64 0)) fun v87 =>
 condV v87 (K (AV.p (.bool false)) H6)
 (binV tab .add 3 v38 (AV.p (.int .i64 1)) fun v90 =>
 N1 v90 H6))
 (binV tab .add 3 v38 (AV.p (.int .i64 1)) fun v90 =>
 N1 v90 H5))
 (K (AV.p (.bool false)) H5))
 (K (AV.p (.bool false)) H5))
 (K (AV.p (.bool false)) H5))
 (K (AV.p (.bool false)) H5))
 (K (AV.p (.bool false)) H5))
 (K (AV.p (.bool false)) H5))
 (K (AV.p (.bool true)) H)
def W42 (v0 : AV) (H : Heap) (K : AV → Heap → Prop) : Prop :=
 boxV v0 H fun v1 H1 =>
 fieldAddrV tab 30 v1 0 fun v5 =>
 loadV tab 3 v5 H1 fun v6 =>
 binV tab .lss 3 v6 (AV.p (.int .i64 1)) fun v7 =>
 grdV v7 false (fieldAddrV tab 30 v1 0 fun v9 =>
 loadV tab 3 v9 H1 fun v10 =>
 binV tab .gtr 3 v10 (AV.p (.int .i64 96)) fun v11 =>
 grdV v11 false (fieldAddrV tab 30 v1 1 fun v14 =>
 loadV tab 22 v14 H1 fun v15 =>
 fieldAddrV tab 30 v1 0 fun v16 =>
 loadV tab 3 v16 H1 fun v17 =>
 CallT Try.prog 81 [v15, v17] H1 fun v18 H2 =>
 unV .not v18 fun v19 =>
 grdV v19 false (fieldAddrV tab 30 v1 2 fun v22 =>
 loadV tab 28 v22 H2 fun v23 =>
 lenV tab 28 v23 fun v24 =>
 binV tab .gtr 3 v24 (AV.p (.int .i64 2400)) fun v25 =>
 grdV v25 false (fieldAddrV tab 30 v1 3 fun v28 =>
 loadV tab 24 v28 H2 fun v29 =>
 fieldAddrV tab 30 v1 0 fun v30 =>
 loadV tab 3 v30 H2 fun v31 =>
 CallT Try.prog 82 [v29, v31] H2 fun v32 H3 =>
 unV .not v32 fun v33 =>
 condV v33 (K (AV.p (.bool false)) H3)
 (fieldAddrV tab 30 v1 2 fun v35 =>
 loadV tab 28 v35 H3 fun v36 =>
 lenV tab 28 v36 fun v37 =>
 L42_0 K v1 v36 v37 (AV.p (.int .i64 0)) H3))
 (K (AV.p (.bool false)) H2))
 (K (AV.p (.bool false)) H2))
 (K (AV.p (.bool false)) H1))
 (K (AV.p (.bool false)) H1)
theorem W42_wp (v0 : AV) (H : Heap) (K : AV → Heap → Prop) : wpC Try.prog tab D42 (bodyOf Try.f42) (retF tab [.tmp 2] K) (nthA [v0]) H = W42 v0 H K := by kernel_rfl
theorem W42_ok {v0 : AV} {H : Heap} {K : AV → Heap → Prop} (h : W42 v0 H K) : CallT Try.prog 42 [v0] H K :=
  CallT.of_wp (D := D42) tab_ok mixed Try.func42 (c := bodyOf Try.f42) (by kernel_rfl) rfl (by kernel_rfl) (rs := #[.tmp 2]) rfl (by decide +kernel) (by kernel_rfl) (W42_wp v0 H K) h
theorem W42_hb : HasBody Try.prog 42 := ⟨_, bodyOf Try.f42, Try.func42, by kernel_rfl, rfl⟩
theorem L42_0_rule {K : AV → Heap → Prop} {v1 v36 v37 v38 : AV} {H : Heap} {σ : Type} (s0 : σ) (f38 : σ → AV) (TH : σ → Heap) (pre : σ → Prop) (μ : σ → Nat)
    (h0 : pre s0 ∧ AV.wk v38 (f38 s0) ∧ Heap.le (TH s0) H)
    (round : ∀ s, pre s → B42_0 K (fun w38 H' => ∃ s', pre s' ∧ μ s' < μ s ∧ AV.wk w38 (f38 s') ∧ Heap.le (TH s') H') v1 v36 v37 (f38 s) (TH s)) :
    L42_0 K v1 v36 v37 v38 H := by
  unfold L42_0
  exact LoopV.mk s0 (fun s => [f38 s]) TH pre μ (fun _ => rfl) (Eq.mp (by kernel_rfl) h0) (fun s hs => Eq.mp (by kernel_rfl) (round s hs))
theorem L42_0_ruleG {K : AV → Heap → Prop} {v1 v36 v37 v38 : AV} {H : Heap} {σ : Type} (s0 : σ) (f38 : σ → AV) (TH : σ → Heap) (pre : σ → Prop) (μ : σ → Nat)
    (h0 : pre s0 ∧ AV.wk v38 (f38 s0) ∧ Heap.le (TH s0) H)
    (round : ∀ s, pre s → ∀ q, TH s q = none → B42_0 K (fun w38 H' => ∃ s', pre s' ∧ μ s' < μ s ∧ AV.wk w38 (f38 s') ∧ Heap.le (TH s') H') v1 v36 v37 (f38 s) ((TH s).set q [])) :
    L42_0 K v1 v36 v37 v38 H := by
  unfold L42_0
  exact LoopV.mkG s0 (fun s => [f38 s]) TH pre μ (fun _ => rfl) (Eq.mp (by kernel_rfl) h0) (fun s hs q hq => Eq.mp (by kernel_rfl) (round s hs q hq))
/-- loop.example/g00649/impl.checkedAuto -/
def D47 : Info := ⟨9, fun i => ([], []), fun i => ([], [])⟩
def W47 (v0 : AV) (H : Heap) (K : AV → Heap → Prop) : Prop :=
 boxV v0 H fun v1 H1 =>
 allocV tab 30 H1 fun v2 H2 =>
 loadV tab 30 v1 H2 fun v4 =>
 CallT Try.prog 42 [v4] H2 fun v5 H3 =>
 unV .not v5 fun v6 =>
 condV v6 (buildV tab 30 [] fun v7 =>
 storeV tab 30 v2 v7 H3 fun H4 =>
 loadV tab 30 v2 H4 fun r0 =>
 K (.tup [r0, (AV.p (.bool false))]) H4)
 (loadV tab 30 v1 H3 fun v8 =>
 storeV tab 30 v2 v8 H3 fun H5 =>
 loadV tab 30 v2 H5 fun r0 =>
 K (.tup [r0, (AV.p (.bool true))]) H5)
theorem W47_wp (v0 : AV) (H : Heap) (K : AV → Heap → Prop) : wpC Try.prog tab D47 (bodyOf Try.f47) (retF tab [.cell 2 30, .tmp 3] K) (nthA [v0]) H = W47 v0 H K := by kernel_rfl
theorem W47_ok {v0 : AV} {H : Heap} {K : AV → Heap → Prop} (h : W47 v0 H K) : CallT Try.prog 47 [v0] H K :=
  CallT.of_wp (D := D47) tab_ok mixed Try.func47 (c := bodyOf Try.f47) (by kernel_rfl) rfl (by kernel_rfl) (rs := #[.cell 2 30, .tmp 3]) rfl (by decide +kernel) (by kernel_rfl) (W47_wp v0 H K) h
theorem W47_hb : HasBody Try.prog 47 := ⟨_, bodyOf Try.f47, Try.func47, by kernel_rfl, rfl⟩
/-- loop.example/g00649/laws.eqIntS -/
def D48 : Info := ⟨26, fun i => if i = 6 then ([[], [], [0, 1], [0, 1, 2], [], [], [4, 5], [4, 5, 6], [0, 1, 2, 3, 4, 5, 6, 7]], [(0, []), (1, []), (2, []), (3, []), (4, []), (5, []), (6, []), (7, []), (8, [])]) else ([], []), fun i => if i = 4 then ([0, 1], [5]) else ([], [])⟩
def L48_0 (K : AV → Heap → Prop) (v0 : AV) (v1 : AV) (v5 : AV) (H : Heap) : Prop := LoopV (wpC Try.prog tab D48 (cAt [1, 1, 0, 1, 0, 0] (bodyOf Try.f48))) [0, 1] (PostF.block 0 (PostF.thenA (wpC Try.prog tab D48 (cAt [1, 1, 1] (bodyOf Try.f48))) (retF tab [.tmp 4] K))) [5] [v0, v1, AV.any, AV.any, AV.any, v5, AV.any, AV.any, AV.any, AV.any, AV.any, AV.any, AV.any, AV.any, AV.any, AV.any, AV.any, AV.any, AV.any, AV.any, AV.any, AV.any, AV.any, AV.any, AV.any, AV.any] H
def B48_0 (K : AV → Heap → Prop) (N1 : AV → Heap → Prop) (v0 : AV) (v1 : AV) (v5 : AV) (H : Heap) : Prop :=
 lenV tab 22 v0 fun v13 =>
 binV tab .lss 3 v5 v13 fun v14 =>
 condV v14 (indexAddrV tab 22 v0 v5 fun v19 =>
 loadV tab 3 v19 H fun v20 =>
 indexAddrV tab 22 v1 v5 fun v23 =>
 loadV tab 3 v23 H fun v24 =>
 binV tab .neq 3 v20 v24 fun v25 =>
 condV v25 (K (AV.p (.bool false)) H)
 (binV tab .add 3 v5 (AV.p (.int .i64 1)) fun v16 =>
 N1 v16 H))
 (K (AV.p (.bool true)) H)
def W48 (v0 : AV) (v1 : AV) (H : Heap) (K : AV → Heap → Prop) : Prop :=
 lenV tab 22 v0 fun v7 =>
 lenV tab 22 v1 fun v9 =>
 binV tab .neq 3 v7 v9 fun v10 =>
 condV v10 (K (AV.p (.bool false)) H)
 (L48_0 K v0 v1 (AV.p (.int .i64 0)) H)
theorem W48_wp (v0 : AV) (v1 : AV) (H : Heap) (K : AV → Heap → Prop) : wpC Try.prog tab D48 (bodyOf Try.f48) (retF tab [.tmp 4] K) (nthA [v0, v1]) H = W48 v0 v1 H K := by kernel_rfl
theorem W48_ok {v0 v1 : AV} {H : Heap} {K : AV → Heap → Prop} (h : W48 v0 v1 H K) : CallT Try.prog 48 [v0, v1] H K :=
  CallT.of_wp (D := D48) tab_ok mixed Try.func48 (c := bodyOf Try.f48) (by kernel_rfl) rfl (by kernel_rfl) (rs := #[.tmp 4]) rfl (by decide +kernel) (by kernel_rfl) (W48_wp v0 v1 H K) h
theorem W48_hb : HasBody Try.prog 48 := ⟨_, bodyOf Try.f48, Try.func48, by kernel_rfl, rfl⟩
theorem L48_0_rule {K : AV → Heap → Prop} {v0 v1 v5 : AV} {H : Heap} {σ : Type} (s0 : σ) (f5 : σ → AV) (TH : σ → Heap) (pre : σ → Prop) (μ : σ → Nat)
    (h0 : pre s0 ∧ AV.wk v5 (f5 s0) ∧ Heap.le (TH s0) H)
    (round : ∀ s, pre s → B48_0 K (fun w5 H' => ∃ s', pre s' ∧ μ s' < μ s ∧ AV.wk w5 (f5 s') ∧ Heap.le (TH s') H') v0 v1 (f5 s) (TH s)) :
    L48_0 K v0 v1 v5 H := by
  unfold L48_0
  exact LoopV.mk s0 (fun s => [f5 s]) TH pre μ (fun _ => rfl) (Eq.mp (by kernel_rfl) h0) (fun s hs => Eq.mp (by kernel_rfl) (round s hs))
theorem L48_0_ruleG {K : AV → Heap → Prop} {v0 v1 v5 : AV} {H : Heap} {σ : Type} (s0 : σ) (f5 : σ → AV) (TH : σ → Heap) (pre : σ → Prop) (μ : σ → Nat)
    (h0 : pre s0 ∧ AV.wk v5 (f5 s0) ∧ Heap.le (TH s0) H)
    (round : ∀ s, pre s → ∀ q, TH s q = none → B48_0 K (fun w5 H' => ∃ s', pre s' ∧ μ s' < μ s ∧ AV.wk w5 (f5 s') ∧ Heap.le (TH s') H') v0 v1 (f5 s) ((TH s).set q [])) :
    L48_0 K v0 v1 v5 H := by
  unfold L48_0
  exact LoopV.mkG s0 (fun s => [f5 s]) TH pre μ (fun _ => rfl) (Eq.mp (by kernel_rfl) h0) (fun s hs q hq => Eq.mp (by kernel_rfl) (round s hs q hq))
/-- loop.example/g00649/laws.eqEdgeS -/
def D49 : Info := ⟨27, fun i => if i = 6 then ([[], [], [0, 1], [0, 1, 2], [], [], [4, 5], [4, 5, 6], [0, 1, 2, 3, 4, 5, 6, 7], [0, 1, 2, 3, 4, 5, 6, 7, 8]], [(0, []), (1, []), (2, []), (3, []), (4, []), (5, []), (6, []), (7, []), (8, []), (9, [])]) else ([], []), fun i => if i = 4 then ([0, 1], [5]) else ([], [])⟩
def L49_0 (K : AV → Heap → Prop) (v0 : AV) (v1 : AV) (v5 : AV) (H : Heap) : Prop := LoopV (wpC Try.prog tab D49 (cAt [1, 1, 0, 1, 0, 0] (bodyOf Try.f49))) [0, 1] (PostF.block 0 (PostF.thenA (wpC Try.prog tab D49 (cAt [1, 1, 1] (bodyOf Try.f49))) (retF tab [.tmp 4] K))) [5] [v0, v1, AV.any, AV.any, AV.any, v5, AV.any, AV.any, AV.any, AV.any, AV.any, AV.any, AV.any, AV.any, AV.any, AV.any, AV.any, AV.any, AV.any, AV.any, AV.any, AV.any, AV.any, AV.any, AV.any, AV.any, AV.any] H
def B49_0 (K : AV → Heap → Prop) (N1 : AV → Heap → Prop) (v0 : AV) (v1 : AV) (v5 : AV) (H : Heap) : Prop :=
 lenV tab 28 v0 fun v13 =>
 binV tab .lss 3 v5 v13 fun v14 =>
 condV v14 (indexAddrV tab 28 v0 v5 fun v19 =>
 loadV tab 61 v19 H fun v20 =>
 indexAddrV tab 28 v1 v5 fun v23 =>
 loadV tab 61 v23 H fun v24 =>
 CallT Try.prog 86 [v20, v24] H fun v25 H1 =>
 unV .not v25 fun v26 =>
 condV v26 (K (AV.p (.bool false)) H1)
 (binV tab .add 3 v5 (AV.p (.int .i64 1)) fun v16 =>
 N1 v16 H1))
 (K (AV.p (.bool true)) H)
def W49 (v0 : AV) (v1 : AV) (H : Heap) (K : AV → Heap → Prop) : Prop :=
 lenV tab 28 v0 fun v7 =>
 lenV tab 28 v1 fun v9 =>
 binV tab .neq 3 v7 v9 fun v10 =>
 condV v10 (K (AV.p (.bool false)) H)
 (L49_0 K v0 v1 (AV.p (.int .i64 0)) H)
theorem W49_wp (v0 : AV) (v1 : AV) (H : Heap) (K : AV → Heap → Prop) : wpC Try.prog tab D49 (bodyOf Try.f49) (retF tab [.tmp 4] K) (nthA [v0, v1]) H = W49 v0 v1 H K := by kernel_rfl
theorem W49_ok {v0 v1 : AV} {H : Heap} {K : AV → Heap → Prop} (h : W49 v0 v1 H K) : CallT Try.prog 49 [v0, v1] H K :=
  CallT.of_wp (D := D49) tab_ok mixed Try.func49 (c := bodyOf Try.f49) (by kernel_rfl) rfl (by kernel_rfl) (rs := #[.tmp 4]) rfl (by decide +kernel) (by kernel_rfl) (W49_wp v0 v1 H K) h
theorem W49_hb : HasBody Try.prog 49 := ⟨_, bodyOf Try.f49, Try.func49, by kernel_rfl, rfl⟩
theorem L49_0_rule {K : AV → Heap → Prop} {v0 v1 v5 : AV} {H : Heap} {σ : Type} (s0 : σ) (f5 : σ → AV) (TH : σ → Heap) (pre : σ → Prop) (μ : σ → Nat)
    (h0 : pre s0 ∧ AV.wk v5 (f5 s0) ∧ Heap.le (TH s0) H)
    (round : ∀ s, pre s → B49_0 K (fun w5 H' => ∃ s', pre s' ∧ μ s' < μ s ∧ AV.wk w5 (f5 s') ∧ Heap.le (TH s') H') v0 v1 (f5 s) (TH s)) :
    L49_0 K v0 v1 v5 H := by
  unfold L49_0
  exact LoopV.mk s0 (fun s => [f5 s]) TH pre μ (fun _ => rfl) (Eq.mp (by kernel_rfl) h0) (fun s hs => Eq.mp (by kernel_rfl) (round s hs))
theorem L49_0_ruleG {K : AV → Heap → Prop} {v0 v1 v5 : AV} {H : Heap} {σ : Type} (s0 : σ) (f5 : σ → AV) (TH : σ → Heap) (pre : σ → Prop) (μ : σ → Nat)
    (h0 : pre s0 ∧ AV.wk v5 (f5 s0) ∧ Heap.le (TH s0) H)
    (round : ∀ s, pre s → ∀ q, TH s q = none → B49_0 K (fun w5 H' => ∃ s', pre s' ∧ μ s' < μ s ∧ AV.wk w5 (f5 s') ∧ Heap.le (TH s') H') v0 v1 (f5 s) ((TH s).set q [])) :
    L49_0 K v0 v1 v5 H := by
  unfold L49_0
  exact LoopV.mkG s0 (fun s => [f5 s]) TH pre μ (fun _ => rfl) (Eq.mp (by kernel_rfl) h0) (fun s hs q hq => Eq.mp (by kernel_rfl) (round s hs q hq))
/-- loop.example/g00649/laws.eqIntSS -/
def D50 : Info := ⟨27, fun i => if i = 6 then ([[], [], [0, 1], [0, 1, 2], [], [], [4, 5], [4, 5, 6], [0, 1, 2, 3, 4, 5, 6, 7], [0, 1, 2, 3, 4, 5, 6, 7, 8]], [(0, []), (1, []), (2, []), (3, []), (4, []), (5, []), (6, []), (7, []), (8, []), (9, [])]) else ([], []), fun i => if i = 4 then ([0, 1], [5]) else ([], [])⟩
def L50_0 (K : AV → Heap → Prop) (v0 : AV) (v1 : AV) (v5 : AV) (H : Heap) : Prop := LoopV (wpC Try.prog tab D50 (cAt [1, 1, 0, 1, 0, 0] (bodyOf Try.f50))) [0, 1] (PostF.block 0 (PostF.thenA (wpC Try.prog tab D50 (cAt [1, 1, 1] (bodyOf Try.f50))) (retF tab [.tmp 4] K))) [5] [v0, v1, AV.any, AV.any, AV.any, v5, AV.any, AV.any, AV.any, AV.any, AV.any, AV.any, AV.any, AV.any, AV.any, AV.any, AV.any, AV.any, AV.any, AV.any, AV.any, AV.any, AV.any, AV.any, AV.any, AV.any, AV.any] H
def B50_0 (K : AV → Heap → Prop) (N1 : AV → Heap → Prop) (v0 : AV) (v1 : AV) (v5 : AV) (H : Heap) : Prop :=
 lenV tab 24 v0 fun v13 =>
 binV tab .lss 3 v5 v13 fun v14 =>
 condV v14 (indexAddrV tab 24 v0 v5 fun v19 =>
 loadV tab 22 v19 H fun v20 =>
 indexAddrV tab 24 v1 v5 fun v23 =>
 loadV tab 22 v23 H fun v24 =>
 CallT Try.prog 48 [v20, v24] H fun v25 H1 =>
 unV .not v25 fun v26 =>
 condV v26 (K (AV.p (.bool false)) H1)
 (binV tab .add 3 v5 (AV.p (.int .i64 1)) fun v16 =>
 N1 v16 H1))
 (K (AV.p (.bool true)) H)
def W50 (v0 : AV) (v1 : AV) (H : Heap) (K : AV → Heap → Prop) : Prop :=
 lenV tab 24 v0 fun v7 =>
 lenV tab 24 v1 fun v9 =>
 binV tab .neq 3 v7 v9 fun v10 =>
 condV v10 (K (AV.p (.bool false)) H)
 (L50_0 K v0 v1 (AV.p (.int .i64 0)) H)
theorem W50_wp (v0 : AV) (v1 : AV) (H : Heap) (K : AV → Heap → Prop) : wpC Try.prog tab D50 (bodyOf Try.f50) (retF tab [.tmp 4] K) (nthA [v0, v1]) H = W50 v0 v1 H K := by kernel_rfl
theorem W50_ok {v0 v1 : AV} {H : Heap} {K : AV → Heap → Prop} (h : W50 v0 v1 H K) : CallT Try.prog 50 [v0, v1] H K :=
  CallT.of_wp (D := D50) tab_ok mixed Try.func50 (c := bodyOf Try.f50) (by kernel_rfl) rfl (by kernel_rfl) (rs := #[.tmp 4]) rfl (by decide +kernel) (by kernel_rfl) (W50_wp v0 v1 H K) h
theorem W50_hb : HasBody Try.prog 50 := ⟨_, bodyOf Try.f50, Try.func50, by kernel_rfl, rfl⟩
theorem L50_0_rule {K : AV → Heap → Prop} {v0 v1 v5 : AV} {H : Heap} {σ : Type} (s0 : σ) (f5 : σ → AV) (TH : σ → Heap) (pre : σ → Prop) (μ : σ → Nat)
    (h0 : pre s0 ∧ AV.wk v5 (f5 s0) ∧ Heap.le (TH s0) H)
    (round : ∀ s, pre s → B50_0 K (fun w5 H' => ∃ s', pre s' ∧ μ s' < μ s ∧ AV.wk w5 (f5 s') ∧ Heap.le (TH s') H') v0 v1 (f5 s) (TH s)) :
    L50_0 K v0 v1 v5 H := by
  unfold L50_0
  exact LoopV.mk s0 (fun s => [f5 s]) TH pre μ (fun _ => rfl) (Eq.mp (by kernel_rfl) h0) (fun s hs => Eq.mp (by kernel_rfl) (round s hs))
theorem L50_0_ruleG {K : AV → Heap → Prop} {v0 v1 v5 : AV} {H : Heap} {σ : Type} (s0 : σ) (f5 : σ → AV) (TH : σ → Heap) (pre : σ → Prop) (μ : σ → Nat)
    (h0 : pre s0 ∧ AV.wk v5 (f5 s0) ∧ Heap.le (TH s0) H)
    (round : ∀ s, pre s → ∀ q, TH s q = none → B50_0 K (fun w5 H' => ∃ s', pre s' ∧ μ s' < μ s ∧ AV.wk w5 (f5 s') ∧ Heap.le (TH s') H') v0 v1 (f5 s) ((TH s).set q [])) :
    L50_0 K v0 v1 v5 H := by
  unfold L50_0
  exact LoopV.mkG s0 (fun s => [f5 s]) TH pre μ (fun _ => rfl) (Eq.mp (by kernel_rfl) h0) (fun s hs q hq => Eq.mp (by kernel_rfl) (round s hs q hq))
/-- loop.example/g00649/laws.markIntS -/
def D51 : Info := ⟨19, fun i => ([], []), fun i => if i = 2 then ([0], [1, 5]) else ([], [])⟩
def L51_0 (K : AV → Heap → Prop) (v0 : AV) (v1 : AV) (v5 : AV) (H : Heap) : Prop := LoopV (wpC Try.prog tab D51 (cAt [1, 0, 1, 0, 0] (bodyOf Try.f51))) [0] (PostF.block 0 (PostF.thenA (wpC Try.prog tab D51 (cAt [1, 1] (bodyOf Try.f51))) (retF tab [.tmp 4] K))) [1, 5] [v0, v1, AV.any, AV.any, AV.any, v5, AV.any, AV.any, AV.any, AV.any, AV.any, AV.any, AV.any, AV.any, AV.any, AV.any, AV.any, AV.any, AV.any] H
def B51_0 (K : AV → Heap → Prop) (N1 : AV → AV → Heap → Prop) (v0 : AV) (v1 : AV) (v5 : AV) (H : Heap) : Prop :=
 lenV tab 22 v0 fun v8 =>
 binV tab .lss 3 v5 v8 fun v9 =>
 condV v9 (indexAddrV tab 22 v0 v5 fun v15 =>
 storeV tab 3 v15 v1 H fun H1 =>
 binV tab .add 3 v1 (AV.p (.int .i64 1)) fun v17 =>
 binV tab .add 3 v5 (AV.p (.int .i64 1)) fun v11 =>
 N1 v17 v11 H1)
 (K v1 H)
def W51 (v0 : AV) (v1 : AV) (H : Heap) (K : AV → Heap → Prop) : Prop :=
 L51_0 K v0 v1 (AV.p (.int .i64 0)) H
theorem W51_wp (v0 : AV) (v1 : AV) (H : Heap) (K : AV → Heap → Prop) : wpC Try.prog tab D51 (bodyOf Try.f51) (retF tab [.tmp 4] K) (nthA [v0, v1]) H = W51 v0 v1 H K := by kernel_rfl
theorem W51_ok {v0 v1 : AV} {H : Heap} {K : AV → Heap → Prop} (h : W51 v0 v1 H K) : CallT Try.prog 51 [v0, v1] H K :=
  CallT.of_wp (D := D51) tab_ok mixed Try.func51 (c := bodyOf Try.f51) (by kernel_rfl) rfl (by kernel_rfl) (rs := #[.tmp 4]) rfl (by decide +kernel) (by kernel_rfl) (W51_wp v0 v1 H K) h
theorem W51_hb : HasBody Try.prog 51 := ⟨_, bodyOf Try.f51, Try.func51, by kernel_rfl, rfl⟩
theorem L51_0_rule {K : AV → Heap → Prop} {v0 v1 v5 : AV} {H : Heap} {σ : Type} (s0 : σ) (f1 : σ → AV) (f5 : σ → AV) (TH : σ → Heap) (pre : σ → Prop) (μ : σ → Nat)
    (h0 : pre s0 ∧ AV.wk v1 (f1 s0) ∧ AV.wk v5 (f5 s0) ∧ Heap.le (TH s0) H)
    (round : ∀ s, pre s → B51_0 K (fun w1 w5 H' => ∃ s', pre s' ∧ μ s' < μ s ∧ AV.wk w1 (f1 s') ∧ AV.wk w5 (f5 s') ∧ Heap.le (TH s') H') v0 (f1 s) (f5 s) (TH s)) :
    L51_0 K v0 v1 v5 H := by
  unfold L51_0
  exact LoopV.mk s0 (fun s => [f1 s, f5 s]) TH pre μ (fun _ => rfl) (Eq.mp (by kernel_rfl) h0) (fun s hs => Eq.mp (by kernel_rfl) (round s hs))
theorem L51_0_ruleG {K : AV → Heap → Prop} {v0 v1 v5 : AV} {H : Heap} {σ : Type} (s0 : σ) (f1 : σ → AV) (f5 : σ → AV) (TH : σ → Heap) (pre : σ → Prop) (μ : σ → Nat)
    (h0 : pre s0 ∧ AV.wk v1 (f1 s0) ∧ AV.wk v5 (f5 s0) ∧ Heap.le (TH s0) H)
    (round : ∀ s, pre s → ∀ q, TH s q = none → B51_0 K (fun w1 w5 H' => ∃ s', pre s' ∧ μ s' < μ s ∧ AV.wk w1 (f1 s') ∧ AV.wk w5 (f5 s') ∧ Heap.le (TH s') H') v0 (f1 s) (f5 s) ((TH s).set q [])) :
    L51_0 K v0 v1 v5 H := by
  unfold L51_0
  exact LoopV.mkG s0 (fun s => [f1 s, f5 s]) TH pre μ (fun _ => rfl) (Eq.mp (by kernel_rfl) h0) (fun s hs q hq => Eq.mp (by kernel_rfl) (round s hs q hq))
/-- loop.example/g00649/laws.markEdgeS -/
def D52 : Info := ⟨34, fun i => ([], []), fun i => if i = 2 then ([0], [1, 5]) else ([], [])⟩
def L52_0 (K : AV → Heap → Prop) (v0 : AV) (v1 : AV) (v5 : AV) (H : Heap) : Prop := LoopV (wpC Try.prog tab D52 (cAt [1, 0, 1, 0, 0] (bodyOf Try.f52))) [0] (PostF.block 0 (PostF.thenA (wpC Try.prog tab D52 (cAt [1, 1] (bodyOf Try.f52))) (retF tab [.tmp 4] K))) [1, 5] [v0, v1, AV.any, AV.any, AV.any, v5, AV.any, AV.any, AV.any, AV.any, AV.any, AV.any, AV.any, AV.any, AV.any, AV.any, AV.any, AV.any, AV.any, AV.any, AV.any, AV.any, AV.any, AV.any, AV.any, AV.any, AV.any, AV.any, AV.any, AV.any, AV.any, AV.any, AV.any, AV.any] H
def B52_0 (K : AV → Heap → Prop) (N1 : AV → AV → Heap → Prop) (v0 : AV) (v1 : AV) (v5 : AV) (H : Heap) : Prop :=
 lenV tab 28 v0 fun v8 =>
 binV tab .lss 3 v5 v8 fun v9 =>
 condV v9 (indexAddrV tab 28 v0 v5 fun v15 =>
 fieldAddrV tab 61 v15 0 fun v16 =>
 storeV tab 3 v16 v1 H fun H1 =>
 binV tab .add 3 v1 (AV.p (.int .i64 1)) fun v18 =>
 indexAddrV tab 28 v0 v5 fun v22 =>
 fieldAddrV tab 61 v22 1 fun v23 =>
 storeV tab 3 v23 v18 H1 fun H2 =>
 binV tab .add 3 v18 (AV.p (.int .i64 1)) fun v25 =>
 indexAddrV tab 28 v0 v5 fun v29 =>
 fieldAddrV tab 61 v29 2 fun v30 =>
 storeV tab 3 v30 v25 H2 fun H3 =>
 binV tab .add 3 v25 (AV.p (.int .i64 1)) fun v32 =>
 binV tab .add 3 v5 (AV.p (.int .i64 1)) fun v11 =>
 N1 v32 v11 H3)
 (K v1 H)
def W52 (v0 : AV) (v1 : AV) (H : Heap) (K : AV → Heap → Prop) : Prop :=
 L52_0 K v0 v1 (AV.p (.int .i64 0)) H
theorem W52_wp (v0 : AV) (v1 : AV) (H : Heap) (K : AV → Heap → Prop) : wpC Try.prog tab D52 (bodyOf Try.f52) (retF tab [.tmp 4] K) (nthA [v0, v1]) H = W52 v0 v1 H K := by kernel_rfl
theorem W52_ok {v0 v1 : AV} {H : Heap} {K : AV → Heap → Prop} (h : W52 v0 v1 H K) : CallT Try.prog 52 [v0, v1] H K :=
  CallT.of_wp (D := D52) tab_ok mixed Try.func52 (c := bodyOf Try.f52) (by kernel_rfl) rfl (by kernel_rfl) (rs := #[.tmp 4]) rfl (by decide +kernel) (by kernel_rfl) (W52_wp v0 v1 H K) h
theorem W52_hb : HasBody Try.prog 52 := ⟨_, bodyOf Try.f52, Try.func52, by kernel_rfl, rfl⟩
theorem L52_0_rule {K : AV → Heap → Prop} {v0 v1 v5 : AV} {H : Heap} {σ : Type} (s0 : σ) (f1 : σ → AV) (f5 : σ → AV) (TH : σ → Heap) (pre : σ → Prop) (μ : σ → Nat)
    (h0 : pre s0 ∧ AV.wk v1 (f1 s0) ∧ AV.wk v5 (f5 s0) ∧ Heap.le (TH s0) H)
    (round : ∀ s, pre s → B52_0 K (fun w1 w5 H' => ∃ s', pre s' ∧ μ s' < μ s ∧ AV.wk w1 (f1 s') ∧ AV.wk w5 (f5 s') ∧ Heap.le (TH s') H') v0 (f1 s) (f5 s) (TH s)) :
    L52_0 K v0 v1 v5 H := by
  unfold L52_0
  exact LoopV.mk s0 (fun s => [f1 s, f5 s]) TH pre μ (fun _ => rfl) (Eq.mp (by kernel_rfl) h0) (fun s hs => Eq.mp (by kernel_rfl) (round s hs))
theorem L52_0_ruleG {K : AV → Heap → Prop} {v0 v1 v5 : AV} {H : Heap} {σ : Type} (s0 : σ) (f1 : σ → AV) (f5 : σ → AV) (TH : σ → Heap) (pre : σ → Prop) (μ : σ → Nat)
    (h0 : pre s0 ∧ AV.wk v1 (f1 s0) ∧ AV.wk v5 (f5 s0) ∧ Heap.le (TH s0) H)
    (round : ∀ s, pre s → ∀ q, TH s q = none → B52_0 K (fun w1 w5 H' => ∃ s', pre s' ∧ μ s' < μ s ∧ AV.wk w1 (f1 s') ∧ AV.wk w5 (f5 s') ∧ Heap.le (TH s') H') v0 (f1 s) (f5 s) ((TH s).set q [])) :
    L52_0 K v0 v1 v5 H := by
  unfold L52_0
  exact LoopV.mkG s0 (fun s => [f1 s, f5 s]) TH pre μ (fun _ => rfl) (Eq.mp (by kernel_rfl) h0) (fun s hs q hq => Eq.mp (by kernel_rfl) (round s hs q hq))
/-- loop.example/g00649/laws.markIntSS -/
def D53 : Info := ⟨19, fun i => ([], []), fun i => if i = 2 then ([0], [1, 5]) else ([], [])⟩
def L53_0 (K : AV → Heap → Prop) (v0 : AV) (v1 : AV) (v5 : AV) (H : Heap) : Prop := LoopV (wpC Try.prog tab D53 (cAt [1, 0, 1, 0, 0] (bodyOf Try.f53))) [0] (PostF.block 0 (PostF.thenA (wpC Try.prog tab D53 (cAt [1, 1] (bodyOf Try.f53))) (retF tab [.tmp 4] K))) [1, 5] [v0, v1, AV.any, AV.any, AV.any, v5, AV.any, AV.any, AV.any, AV.any, AV.any, AV.any, AV.any, AV.any, AV.any, AV.any, AV.any, AV.any, AV.any] H
def B53_0 (K : AV → Heap → Prop) (N1 : AV → AV → Heap → Prop) (v0 : AV) (v1 : AV) (v5 : AV) (H : Heap) : Prop :=
 lenV tab 24 v0 fun v8 =>
 binV tab .lss 3 v5 v8 fun v9 =>
 condV v9 (indexAddrV tab 24 v0 v5 fun v14 =>
 loadV tab 22 v14 H fun v15 =>
 CallT Try.prog 51 [v15, v1] H fun v17 H1 =>
 binV tab .add 3 v5 (AV.p (.int .i64 1)) fun v11 =>
 N1 v17 v11 H1)
 (K v1 H)
def W53 (v0 : AV) (v1 : AV) (H : Heap) (K : AV → Heap → Prop) : Prop :=
 L53_0 K v0 v1 (AV.p (.int .i64 0)) H
theorem W53_wp (v0 : AV) (v1 : AV) (H : Heap) (K : AV → Heap → Prop) : wpC Try.prog tab D53 (bodyOf Try.f53) (retF tab [.tmp 4] K) (nthA [v0, v1]) H = W53 v0 v1 H K := by kernel_rfl
theorem W53_ok {v0 v1 : AV} {H : Heap} {K : AV → Heap → Prop} (h : W53 v0 v1 H K) : CallT Try.prog 53 [v0, v1] H K :=
  CallT.of_wp (D := D53) tab_ok mixed Try.func53 (c := bodyOf Try.f53) (by kernel_rfl) rfl (by kernel_rfl) (rs := #[.tmp 4]) rfl (by decide +kernel) (by kernel_rfl) (W53_wp v0 v1 H K) h
theorem W53_hb : HasBody Try.prog 53 := ⟨_, bodyOf Try.f53, Try.func53, by kernel_rfl, rfl⟩
theorem L53_0_rule {K : AV → Heap → Prop} {v0 v1 v5 : AV} {H : Heap} {σ : Type} (s0 : σ) (f1 : σ → AV) (f5 : σ → AV) (TH : σ → Heap) (pre : σ → Prop) (μ : σ → Nat)
    (h0 : pre s0 ∧ AV.wk v1 (f1 s0) ∧ AV.wk v5 (f5 s0) ∧ Heap.le (TH s0) H)
    (round : ∀ s, pre s → B53_0 K (fun w1 w5 H' => ∃ s', pre s' ∧ μ s' < μ s ∧ AV.wk w1 (f1 s') ∧ AV.wk w5 (f5 s') ∧ Heap.le (TH s') H') v0 (f1 s) (f5 s) (TH s)) :
    L53_0 K v0 v1 v5 H := by
  unfold L53_0
  exact LoopV.mk s0 (fun s => [f1 s, f5 s]) TH pre μ (fun _ => rfl) (Eq.mp (by kernel_rfl) h0) (fun s hs => Eq.mp (by kernel_rfl) (round s hs))
theorem L53_0_ruleG {K : AV → Heap → Prop} {v0 v1 v5 : AV} {H : Heap} {σ : Type} (s0 : σ) (f1 : σ → AV) (f5 : σ → AV) (TH : σ → Heap) (pre : σ → Prop) (μ : σ → Nat)
    (h0 : pre s0 ∧ AV.wk v1 (f1 s0) ∧ AV.wk v5 (f5 s0) ∧ Heap.le (TH s0) H)
    (round : ∀ s, pre s → ∀ q, TH s q = none → B53_0 K (fun w1 w5 H' => ∃ s', pre s' ∧ μ s' < μ s ∧ AV.wk w1 (f1 s') ∧ AV.wk w5 (f5 s') ∧ Heap.le (TH s') H') v0 (f1 s) (f5 s) ((TH s).set q [])) :
    L53_0 K v0 v1 v5 H := by
  unfold L53_0
  exact LoopV.mkG s0 (fun s => [f1 s, f5 s]) TH pre μ (fun _ => rfl) (Eq.mp (by kernel_rfl) h0) (fun s hs q hq => Eq.mp (by kernel_rfl) (round s hs q hq))
/-- loop.example/g00649/laws.heldIntS -/
def D54 : Info := ⟨21, fun i => ([], []), fun i => if i = 2 then ([0], [1, 5]) else ([], [])⟩
def L54_0 (K : AV → Heap → Prop) (v0 : AV) (v1 : AV) (v5 : AV) (H : Heap) : Prop := LoopV (wpC Try.prog tab D54 (cAt [1, 0, 1, 0, 0] (bodyOf Try.f54))) [0] (PostF.block 0 (PostF.thenA (wpC Try.prog tab D54 (cAt [1, 1] (bodyOf Try.f54))) (retF tab [.tmp 4] K))) [1, 5] [v0, v1, AV.any, AV.any, AV.any, v5, AV.any, AV.any, AV.any, AV.any, AV.any, AV.any, AV.any, AV.any, AV.any, AV.any, AV.any, AV.any, AV.any, AV.any, AV.any] H
def B54_0 (K : AV → Heap → Prop) (N1 : AV → AV → Heap → Prop) (v0 : AV) (v1 : AV) (v5 : AV) (H : Heap) : Prop :=
 lenV tab 22 v0 fun v8 =>
 binV tab .lss 3 v5 v8 fun v9 =>
 condV v9 (indexAddrV tab 22 v0 v5 fun v14 =>
 loadV tab 3 v14 H fun v15 =>
 binV tab .neq 3 v15 v1 fun v17 =>
 condV v17 (K (AV.p (.int .i64 (-1))) H)
 (binV tab .add 3 v1 (AV.p (.int .i64 1)) fun v19 =>
 binV tab .add 3 v5 (AV.p (.int .i64 1)) fun v11 =>
 N1 v19 v11 H))
 (K v1 H)
def W54 (v0 : AV) (v1 : AV) (H : Heap) (K : AV → Heap → Prop) : Prop :=
 L54_0 K v0 v1 (AV.p (.int .i64 0)) H
theorem W54_wp (v0 : AV) (v1 : AV) (H : Heap) (K : AV → Heap → Prop) : wpC Try.prog tab D54 (bodyOf Try.f54) (retF tab [.tmp 4] K) (nthA [v0, v1]) H = W54 v0 v1 H K := by kernel_rfl
theorem W54_ok {v0 v1 : AV} {H : Heap} {K : AV → Heap → Prop} (h : W54 v0 v1 H K) : CallT Try.prog 54 [v0, v1] H K :=
  CallT.of_wp (D := D54) tab_ok mixed Try.func54 (c := bodyOf Try.f54) (by kernel_rfl) rfl (by kernel_rfl) (rs := #[.tmp 4]) rfl (by decide +kernel) (by kernel_rfl) (W54_wp v0 v1 H K) h
theorem W54_hb : HasBody Try.prog 54 := ⟨_, bodyOf Try.f54, Try.func54, by kernel_rfl, rfl⟩
theorem L54_0_rule {K : AV → Heap → Prop} {v0 v1 v5 : AV} {H : Heap} {σ : Type} (s0 : σ) (f1 : σ → AV) (f5 : σ → AV) (TH : σ → Heap) (pre : σ → Prop) (μ : σ → Nat)
    (h0 : pre s0 ∧ AV.wk v1 (f1 s0) ∧ AV.wk v5 (f5 s0) ∧ Heap.le (TH s0) H)
    (round : ∀ s, pre s → B54_0 K (fun w1 w5 H' => ∃ s', pre s' ∧ μ s' < μ s ∧ AV.wk w1 (f1 s') ∧ AV.wk w5 (f5 s') ∧ Heap.le (TH s') H') v0 (f1 s) (f5 s) (TH s)) :
    L54_0 K v0 v1 v5 H := by
  unfold L54_0
  exact LoopV.mk s0 (fun s => [f1 s, f5 s]) TH pre μ (fun _ => rfl) (Eq.mp (by kernel_rfl) h0) (fun s hs => Eq.mp (by kernel_rfl) (round s hs))
theorem L54_0_ruleG {K : AV → Heap → Prop} {v0 v1 v5 : AV} {H : Heap} {σ : Type} (s0 : σ) (f1 : σ → AV) (f5 : σ → AV) (TH : σ → Heap) (pre : σ → Prop) (μ : σ → Nat)
    (h0 : pre s0 ∧ AV.wk v1 (f1 s0) ∧ AV.wk v5 (f5 s0) ∧ Heap.le (TH s0) H)
    (round : ∀ s, pre s → ∀ q, TH s q = none → B54_0 K (fun w1 w5 H' => ∃ s', pre s' ∧ μ s' < μ s ∧ AV.wk w1 (f1 s') ∧ AV.wk w5 (f5 s') ∧ Heap.le (TH s') H') v0 (f1 s) (f5 s) ((TH s).set q [])) :
    L54_0 K v0 v1 v5 H := by
  unfold L54_0
  exact LoopV.mkG s0 (fun s => [f1 s, f5 s]) TH pre μ (fun _ => rfl) (Eq.mp (by kernel_rfl) h0) (fun s hs q hq => Eq.mp (by kernel_rfl) (round s hs q hq))
/-- loop.example/g00649/laws.heldEdgeS -/
def D55 : Info := ⟨40, fun i => ([], []), fun i => if i = 2 then ([0], [1, 5]) else ([], [])⟩
def L55_0 (K : AV → Heap → Prop) (v0 : AV) (v1 : AV) (v5 : AV) (H : Heap) : Prop := LoopV (wpC Try.prog tab D55 (cAt [1, 0, 1, 0, 0] (bodyOf Try.f55))) [0] (PostF.block 0 (PostF.thenA (wpC Try.prog tab D55 (cAt [1, 1] (bodyOf Try.f55))) (retF tab [.tmp 4] K))) [1, 5] [v0, v1, AV.any, AV.any, AV.any, v5, AV.any, AV.any, AV.any, AV.any, AV.any, AV.any, AV.any, AV.any, AV.any, AV.any, AV.any, AV.any, AV.any, AV.any, AV.any, AV.any, AV.any, AV.any, AV.any, AV.any, AV.any, AV.any, AV.any, AV.any, AV.any, AV.any, AV.any, AV.any, AV.any, AV.any, AV.any, AV.any, AV.any, AV.any] H
def B55_0 (K : AV → Heap → Prop) (N1 : AV → AV → Heap → Prop) (v0 : AV) (v1 : AV) (v5 : AV) (H : Heap) : Prop :=
 lenV tab 28 v0 fun v8 =>
 binV tab .lss 3 v5 v8 fun v9 =>
 condV v9 (indexAddrV tab 28 v0 v5 fun v14 =>
 fieldAddrV tab 61 v14 0 fun v15 =>
 loadV tab 3 v15 H fun v16 =>
 binV tab .neq 3 v16 v1 fun v18 =>
 condV v18 (K (AV.p (.int .i64 (-1))) H)
 (binV tab .add 3 v1 (AV.p (.int .i64 1)) fun v20 =>
 indexAddrV tab 28 v0 v5 fun v23 =>
 fieldAddrV tab 61 v23 1 fun v24 =>
 loadV tab 3 v24 H fun v25 =>
 binV tab .neq 3 v25 v20 fun v27 =>
 condV v27 (K (AV.p (.int .i64 (-1))) H)
 (binV tab .add 3 v20 (AV.p (.int .i64 1)) fun v29 =>
 indexAddrV tab 28 v0 v5 fun v32 =>
 fieldAddrV tab 61 v32 2 fun v33 =>
 loadV tab 3 v33 H fun v34 =>
 binV tab .neq 3 v34 v29 fun v36 =>
 condV v36 (K (AV.p (.int .i64 (-1))) H)
 (binV tab .add 3 v29 (AV.p (.int .i64 1)) fun v38 =>
 binV tab .add 3 v5 (AV.p (.int .i64 1)) fun v11 =>
 N1 v38 v11 H))))
 (K v1 H)
def W55 (v0 : AV) (v1 : AV) (H : Heap) (K : AV → Heap → Prop) : Prop :=
 L55_0 K v0 v1 (AV.p (.int .i64 0)) H
theorem W55_wp (v0 : AV) (v1 : AV) (H : Heap) (K : AV → Heap → Prop) : wpC Try.prog tab D55 (bodyOf Try.f55) (retF tab [.tmp 4] K) (nthA [v0, v1]) H = W55 v0 v1 H K := by kernel_rfl
theorem W55_ok {v0 v1 : AV} {H : Heap} {K : AV → Heap → Prop} (h : W55 v0 v1 H K) : CallT Try.prog 55 [v0, v1] H K :=
  CallT.of_wp (D := D55) tab_ok mixed Try.func55 (c := bodyOf Try.f55) (by kernel_rfl) rfl (by kernel_rfl) (rs := #[.tmp 4]) rfl (by decide +kernel) (by kernel_rfl) (W55_wp v0 v1 H K) h
theorem W55_hb : HasBody Try.prog 55 := ⟨_, bodyOf Try.f55, Try.func55, by kernel_rfl, rfl⟩
theorem L55_0_rule {K : AV → Heap → Prop} {v0 v1 v5 : AV} {H : Heap} {σ : Type} (s0 : σ) (f1 : σ → AV) (f5 : σ → AV) (TH : σ → Heap) (pre : σ → Prop) (μ : σ → Nat)
    (h0 : pre s0 ∧ AV.wk v1 (f1 s0) ∧ AV.wk v5 (f5 s0) ∧ Heap.le (TH s0) H)
    (round : ∀ s, pre s → B55_0 K (fun w1 w5 H' => ∃ s', pre s' ∧ μ s' < μ s ∧ AV.wk w1 (f1 s') ∧ AV.wk w5 (f5 s') ∧ Heap.le (TH s') H') v0 (f1 s) (f5 s) (TH s)) :
    L55_0 K v0 v1 v5 H := by
  unfold L55_0
  exact LoopV.mk s0 (fun s => [f1 s, f5 s]) TH pre μ (fun _ => rfl) (Eq.mp (by kernel_rfl) h0) (fun s hs => Eq.mp (by kernel_rfl) (round s hs))
theorem L55_0_ruleG {K : AV → Heap → Prop} {v0 v1 v5 : AV} {H : Heap} {σ : Type} (s0 : σ) (f1 : σ → AV) (f5 : σ → AV) (TH : σ → Heap) (pre : σ → Prop) (μ : σ → Nat)
    (h0 : pre s0 ∧ AV.wk v1 (f1 s0) ∧ AV.wk v5 (f5 s0) ∧ Heap.le (TH s0) H)
    (round : ∀ s, pre s → ∀ q, TH s q = none → B55_0 K (fun w1 w5 H' => ∃ s', pre s' ∧ μ s' < μ s ∧ AV.wk w1 (f1 s') ∧ AV.wk w5 (f5 s') ∧ Heap.le (TH s') H') v0 (f1 s) (f5 s) ((TH s).set q [])) :
    L55_0 K v0 v1 v5 H := by
  unfold L55_0
  exact LoopV.mkG s0 (fun s => [f1 s, f5 s]) TH pre μ (fun _ => rfl) (Eq.mp (by kernel_rfl) h0) (fun s hs q hq => Eq.mp (by kernel_rfl) (round s hs q hq))
/-- loop.example/g00649/laws.heldIntSS -/
def D56 : Info := ⟨21, fun i => ([], []), fun i => if i = 2 then ([0], [1, 5]) else ([], [])⟩
def L56_0 (K : AV → Heap → Prop) (v0 : AV) (v1 : AV) (v5 : AV) (H : Heap) : Prop := LoopV (wpC Try.prog tab D56 (cAt [1, 0, 1, 0, 0] (bodyOf Try.f56))) [0] (PostF.block 0 (PostF.thenA (wpC Try.prog tab D56 (cAt [1, 1] (bodyOf Try.f56))) (retF tab [.tmp 4] K))) [1, 5] [v0, v1, AV.any, AV.any, AV.any, v5, AV.any, AV.any, AV.any, AV.any, AV.any, AV.any, AV.any, AV.any, AV.any, AV.any, AV.any, AV.any, AV.any, AV.any, AV.any] H
def B56_0 (K : AV → Heap → Prop) (N1 : AV → AV → Heap → Prop) (v0 : AV) (v1 : AV) (v5 : AV) (H : Heap) : Prop :=
 lenV tab 24 v0 fun v8 =>
 binV tab .lss 3 v5 v8 fun v9 =>
 condV v9 (indexAddrV tab 24 v0 v5 fun v14 =>
 loadV tab 22 v14 H fun v15 =>
 CallT Try.prog 54 [v15, v1] H fun v17 H1 =>
 binV tab .lss 3 v17 (AV.p (.int .i64 0)) fun v19 =>
 condV v19 (K (AV.p (.int .i64 (-1))) H1)
 (binV tab .add 3 v5 (AV.p (.int .i64 1)) fun v11 =>
 N1 v17 v11 H1))
 (K v1 H)
def W56 (v0 : AV) (v1 : AV) (H : Heap) (K : AV → Heap → Prop) : Prop :=
 L56_0 K v0 v1 (AV.p (.int .i64 0)) H
theorem W56_wp (v0 : AV) (v1 : AV) (H : Heap) (K : AV → Heap → Prop) : wpC Try.prog tab D56 (bodyOf Try.f56) (retF tab [.tmp 4] K) (nthA [v0, v1]) H = W56 v0 v1 H K := by kernel_rfl
theorem W56_ok {v0 v1 : AV} {H : Heap} {K : AV → Heap → Prop} (h : W56 v0 v1 H K) : CallT Try.prog 56 [v0, v1] H K :=
  CallT.of_wp (D := D56) tab_ok mixed Try.func56 (c := bodyOf Try.f56) (by kernel_rfl) rfl (by kernel_rfl) (rs := #[.tmp 4]) rfl (by decide +kernel) (by kernel_rfl) (W56_wp v0 v1 H K) h
theorem W56_hb : HasBody Try.prog 56 := ⟨_, bodyOf Try.f56, Try.func56, by kernel_rfl, rfl⟩
theorem L56_0_rule {K : AV → Heap → Prop} {v0 v1 v5 : AV} {H : Heap} {σ : Type} (s0 : σ) (f1 : σ → AV) (f5 : σ → AV) (TH : σ → Heap) (pre : σ → Prop) (μ : σ → Nat)
    (h0 : pre s0 ∧ AV.wk v1 (f1 s0) ∧ AV.wk v5 (f5 s0) ∧ Heap.le (TH s0) H)
    (round : ∀ s, pre s → B56_0 K (fun w1 w5 H' => ∃ s', pre s' ∧ μ s' < μ s ∧ AV.wk w1 (f1 s') ∧ AV.wk w5 (f5 s') ∧ Heap.le (TH s') H') v0 (f1 s) (f5 s) (TH s)) :
    L56_0 K v0 v1 v5 H := by
  unfold L56_0
  exact LoopV.mk s0 (fun s => [f1 s, f5 s]) TH pre μ (fun _ => rfl) (Eq.mp (by kernel_rfl) h0) (fun s hs => Eq.mp (by kernel_rfl) (round s hs))
theorem L56_0_ruleG {K : AV → Heap → Prop} {v0 v1 v5 : AV} {H : Heap} {σ : Type} (s0 : σ) (f1 : σ → AV) (f5 : σ → AV) (TH : σ → Heap) (pre : σ → Prop) (μ : σ → Nat)
    (h0 : pre s0 ∧ AV.wk v1 (f1 s0) ∧ AV.wk v5 (f5 s0) ∧ Heap.le (TH s0) H)
    (round : ∀ s, pre s → ∀ q, TH s q = none → B56_0 K (fun w1 w5 H' => ∃ s', pre s' ∧ μ s' < μ s ∧ AV.wk w1 (f1 s') ∧ AV.wk w5 (f5 s') ∧ Heap.le (TH s') H') v0 (f1 s) (f5 s) ((TH s).set q [])) :
    L56_0 K v0 v1 v5 H := by
  unfold L56_0
  exact LoopV.mkG s0 (fun s => [f1 s, f5 s]) TH pre μ (fun _ => rfl) (Eq.mp (by kernel_rfl) h0) (fun s hs q hq => Eq.mp (by kernel_rfl) (round s hs q hq))
/-- loop.example/g00649/spec.l12All -/
def D58 : Info := ⟨15, fun i => ([], []), fun i => if i = 3 then ([0], [3, 4]) else ([], [])⟩
def L58_0 (K : AV → Heap → Prop) (v0 : AV) (v3 : AV) (v4 : AV) (H : Heap) : Prop := LoopV (wpC Try.prog tab D58 (cAt [1, 1, 0, 1, 0, 0] (bodyOf Try.f58))) [0] (PostF.block 0 (PostF.thenA (wpC Try.prog tab D58 (cAt [1, 1, 1] (bodyOf Try.f58))) (retF tab [.tmp 2] K))) [3, 4] [v0, AV.any, AV.any, v3, v4, AV.any, AV.any, AV.any, AV.any, AV.any, AV.any, AV.any, AV.any, AV.any, AV.any] H
def B58_0 (K : AV → Heap → Prop) (N1 : AV → AV → Heap → Prop) (v0 : AV) (v3 : AV) (v4 : AV) (H : Heap) : Prop :=
 binV tab .lss 3 v4 v0 fun v7 =>
 condV v7 (buildSliceV tab 22 1 [(0, v4)] H (wkK fun v12 H1 =>
 appendV tab 22 22 v3 v12 H1 (wkK fun v13 H2 =>
 binV tab .add 3 v4 (AV.p (.int .i64 1)) fun v9 =>
 N1 v13 v9 H2)))
 (K v3 H)
def W58 (v0 : AV) (H : Heap) (K : AV → Heap → Prop) : Prop :=
 L58_0 K v0 (AV.p .nil) (AV.p (.int .i64 0)) H
theorem W58_wp (v0 : AV) (H : Heap) (K : AV → Heap → Prop) : wpC Try.prog tab D58 (bodyOf Try.f58) (retF tab [.tmp 2] K) (nthA [v0]) H = W58 v0 H K := by kernel_rfl
theorem W58_ok {v0 : AV} {H : Heap} {K : AV → Heap → Prop} (h : W58 v0 H K) : CallT Try.prog 58 [v0] H K :=
  CallT.of_wp (D := D58) tab_ok mixed Try.func58 (c := bodyOf Try.f58) (by kernel_rfl) rfl (by kernel_rfl) (rs := #[.tmp 2]) rfl (by decide +kernel) (by kernel_rfl) (W58_wp v0 H K) h
theorem W58_hb : HasBody Try.prog 58 := ⟨_, bodyOf Try.f58, Try.func58, by kernel_rfl, rfl⟩
theorem L58_0_rule {K : AV → Heap → Prop} {v0 v3 v4 : AV} {H : Heap} {σ : Type} (s0 : σ) (f3 : σ → AV) (f4 : σ → AV) (TH : σ → Heap) (pre : σ → Prop) (μ : σ → Nat)
    (h0 : pre s0 ∧ AV.wk v3 (f3 s0) ∧ AV.wk v4 (f4 s0) ∧ Heap.le (TH s0) H)
    (round : ∀ s, pre s → B58_0 K (fun w3 w4 H' => ∃ s', pre s' ∧ μ s' < μ s ∧ AV.wk w3 (f3 s') ∧ AV.wk w4 (f4 s') ∧ Heap.le (TH s') H') v0 (f3 s) (f4 s) (TH s)) :
    L58_0 K v0 v3 v4 H := by
  unfold L58_0
  exact LoopV.mk s0 (fun s => [f3 s, f4 s]) TH pre μ (fun _ => rfl) (Eq.mp (by kernel_rfl) h0) (fun s hs => Eq.mp (by kernel_rfl) (round s hs))
theorem L58_0_ruleG {K : AV → Heap → Prop} {v0 v3 v4 : AV} {H : Heap} {σ : Type} (s0 : σ) (f3 : σ → AV) (f4 : σ → AV) (TH : σ → Heap) (pre : σ → Prop) (μ : σ → Nat)
    (h0 : pre s0 ∧ AV.wk v3 (f3 s0) ∧ AV.wk v4 (f4 s0) ∧ Heap.le (TH s0) H)
    (round : ∀ s, pre s → ∀ q, TH s q = none → B58_0 K (fun w3 w4 H' => ∃ s', pre s' ∧ μ s' < μ s ∧ AV.wk w3 (f3 s') ∧ AV.wk w4 (f4 s') ∧ Heap.le (TH s') H') v0 (f3 s) (f4 s) ((TH s).set q [])) :
    L58_0 K v0 v3 v4 H := by
  unfold L58_0
  exact LoopV.mkG s0 (fun s => [f3 s, f4 s]) TH pre μ (fun _ => rfl) (Eq.mp (by kernel_rfl) h0) (fun s hs q hq => Eq.mp (by kernel_rfl) (round s hs q hq))
/-- loop.example/g00649/spec.l12Pairs -/
def D72 : Info := ⟨35, fun i => ([], []), fun i => if i = 3 then ([1, 2, 12, 13], [7, 14]) else if i = 6 then ([1, 2, 9, 12, 13, 14, 18, 19], [7, 20]) else ([], [])⟩
def L72_0 (K : AV → Heap → Prop) (v1 : AV) (v2 : AV) (v7 : AV) (v12 : AV) (v13 : AV) (v14 : AV) (H : Heap) : Prop := LoopV (wpC Try.prog tab D72 (cAt [1, 1, 0, 1, 0, 0] (bodyOf Try.f72))) [1, 2, 12, 13] (PostF.block 0 (PostF.thenA (wpC Try.prog tab D72 (cAt [1, 1, 1] (bodyOf Try.f72))) (retF tab [.tmp 6] K))) [7, 14] [AV.any, v1, v2, AV.any, AV.any, AV.any, AV.any, v7, AV.any, AV.any, AV.any, AV.any, v12, v13, v14, AV.any, AV.any, AV.any, AV.any, AV.any, AV.any, AV.any, AV.any, AV.any, AV.any, AV.any, AV.any, AV.any, AV.any, AV.any, AV.any, AV.any, AV.any, AV.any, AV.any] H
def L72_1 (K : AV → Heap → Prop) (N1 : AV → AV → Heap → Prop) (v1 : AV) (v2 : AV) (v7 : AV) (v9 : AV) (v12 : AV) (v13 : AV) (v14 : AV) (v18 : AV) (v19 : AV) (v20 : AV) (H : Heap) : Prop := LoopV (wpC Try.prog tab D72 (cAt [1, 1, 0, 1, 0, 0, 1, 1, 0, 0, 1, 1, 0, 0] (bodyOf Try.f72))) [1, 2, 9, 12, 13, 14, 18, 19] (PostF.block 2 (PostF.block 1 (PostF.thenA (wpC Try.prog tab D72 (cAt [1, 1, 0, 1, 0, 0, 1, 1, 1] (bodyOf Try.f72))) (loopF (PostF.block 0 (PostF.thenA (wpC Try.prog tab D72 (cAt [1, 1, 1] (bodyOf Try.f72))) (retF tab [.tmp 6] K))) (fun e h => N1 (e 7) (e 14) h))))) [7, 20] [AV.any, v1, v2, AV.any, AV.any, AV.any, AV.any, v7, AV.any, v9, AV.any, AV.any, v12, v13, v14, AV.any, AV.any, AV.any, v18, v19, v20, AV.any, AV.any, AV.any, AV.any, AV.any, AV.any, AV.any, AV.any, AV.any, AV.any, AV.any, AV.any, AV.any, AV.any] H
def B72_1 (K : AV → Heap → Prop) (N1 : AV → AV → Heap → Prop) (N2 : AV → AV → Heap → Prop) (v1 : AV) (v2 : AV) (v7 : AV) (v9 : AV) (v12 : AV) (v13 : AV) (v14 : AV) (v18 : AV) (v19 : AV) (v20 : AV) (H : Heap) : Prop :=
 binV tab .lss 3 v20 v19 fun v21 =>
 condV v21 (indexAddrV tab 22 v18 v20 fun v22 =>
 loadV tab 3 v22 H fun v23 =>
 binV tab .mul 3 v9 v2 fun v27 =>
 binV tab .add 3 v27 v23 fun v29 =>
 buildSliceV tab 22 1 [(0, v29)] H (wkK fun v30 H1 =>
 appendV tab 22 22 v7 v30 H1 (wkK fun v31 H2 =>
 binV tab .add 3 v20 (AV.p (.int .i64 1)) fun v32 =>
 N2 v31 v32 H2)))
 (binV tab .add 3 v14 (AV.p (.int .i64 1)) fun v33 =>
 N1 v7 v33 H)
def B72_0 (K : AV → Heap → Prop) (N1 : AV → AV → Heap → Prop) (v1 : AV) (v2 : AV) (v7 : AV) (v12 : AV) (v13 : AV) (v14 : AV) (H : Heap) : Prop :=
 binV tab .lss 3 v14 v13 fun v15 =>
 condV v15 (indexAddrV tab 22 v12 v14 fun v16 =>
 loadV tab 3 v16 H fun v17 =>
 lenV tab 22 v1 fun v19 =>
 L72_1 K N1 v1 v2 v7 v17 v12 v13 v14 v1 v19 (AV.p (.int .i64 0)) H)
 (K v7 H)
def W72 (v0 : AV) (v1 : AV) (v2 : AV) (H : Heap) (K : AV → Heap → Prop) : Prop :=
 lenV tab 22 v0 fun v13 =>
 L72_0 K v1 v2 (AV.p .nil) v0 v13 (AV.p (.int .i64 0)) H
theorem W72_wp (v0 : AV) (v1 : AV) (v2 : AV) (H : Heap) (K : AV → Heap → Prop) : wpC Try.prog tab D72 (bodyOf Try.f72) (retF tab [.tmp 6] K) (nthA [v0, v1, v2]) H = W72 v0 v1 v2 H K := by kernel_rfl
theorem W72_ok {v0 v1 v2 : AV} {H : Heap} {K : AV → Heap → Prop} (h : W72 v0 v1 v2 H K) : CallT Try.prog 72 [v0, v1, v2] H K :=
  CallT.of_wp (D := D72) tab_ok mixed Try.func72 (c := bodyOf Try.f72) (by kernel_rfl) rfl (by kernel_rfl) (rs := #[.tmp 6]) rfl (by decide +kernel) (by kernel_rfl) (W72_wp v0 v1 v2 H K) h
theorem W72_hb : HasBody Try.prog 72 := ⟨_, bodyOf Try.f72, Try.func72, by kernel_rfl, rfl⟩
theorem L72_1_rule {K : AV → Heap → Prop} {N1 : AV → AV → Heap → Prop} {v1 v2 v7 v9 v12 v13 v14 v18 v19 v20 : AV} {H : Heap} {σ : Type} (s0 : σ) (f7 : σ → AV) (f20 : σ → AV) (TH : σ → Heap) (pre : σ → Prop) (μ : σ → Nat)
    (h0 : pre s0 ∧ AV.wk v7 (f7 s0) ∧ AV.wk v20 (f20 s0) ∧ Heap.le (TH s0) H)
    (round : ∀ s, pre s → B72_1 K N1 (fun w7 w20 H' => ∃ s', pre s' ∧ μ s' < μ s ∧ AV.wk w7 (f7 s') ∧ AV.wk w20 (f20 s') ∧ Heap.le (TH s') H') v1 v2 (f7 s) v9 v12 v13 v14 v18 v19 (f20 s) (TH s)) :
    L72_1 K N1 v1 v2 v7 v9 v12 v13 v14 v18 v19 v20 H := by
  unfold L72_1
  exact LoopV.mk s0 (fun s => [f7 s, f20 s]) TH pre μ (fun _ => rfl) (Eq.mp (by kernel_rfl) h0) (fun s hs => Eq.mp (by kernel_rfl) (round s hs))
theorem L72_1_ruleG {K : AV → Heap → Prop} {N1 : AV → AV → Heap → Prop} {v1 v2 v7 v9 v12 v13 v14 v18 v19 v20 : AV} {H : Heap} {σ : Type} (s0 : σ) (f7 : σ → AV) (f20 : σ → AV) (TH : σ → Heap) (pre : σ → Prop) (μ : σ → Nat)
    (h0 : pre s0 ∧ AV.wk v7 (f7 s0) ∧ AV.wk v20 (f20 s0) ∧ Heap.le (TH s0) H)
    (round : ∀ s, pre s → ∀ q, TH s q = none → B72_1 K N1 (fun w7 w20 H' => ∃ s', pre s' ∧ μ s' < μ s ∧ AV.wk w7 (f7 s') ∧ AV.wk w20 (f20 s') ∧ Heap.le (TH s') H') v1 v2 (f7 s) v9 v12 v13 v14 v18 v19 (f20 s) ((TH s).set q [])) :
    L72_1 K N1 v1 v2 v7 v9 v12 v13 v14 v18 v19 v20 H := by
  unfold L72_1
  exact LoopV.mkG s0 (fun s => [f7 s, f20 s]) TH pre μ (fun _ => rfl) (Eq.mp (by kernel_rfl) h0) (fun s hs q hq => Eq.mp (by kernel_rfl) (round s hs q hq))
theorem L72_0_rule {K : AV → Heap → Prop} {v1 v2 v7 v12 v13 v14 : AV} {H : Heap} {σ : Type} (s0 : σ) (f7 : σ → AV) (f14 : σ → AV) (TH : σ → Heap) (pre : σ → Prop) (μ : σ → Nat)
    (h0 : pre s0 ∧ AV.wk v7 (f7 s0) ∧ AV.wk v14 (f14 s0) ∧ Heap.le (TH s0) H)
    (round : ∀ s, pre s → B72_0 K (fun w7 w14 H' => ∃ s', pre s' ∧ μ s' < μ s ∧ AV.wk w7 (f7 s') ∧ AV.wk w14 (f14 s') ∧ Heap.le (TH s') H') v1 v2 (f7 s) v12 v13 (f14 s) (TH s)) :
    L72_0 K v1 v2 v7 v12 v13 v14 H := by
  unfold L72_0
  exact LoopV.mk s0 (fun s => [f7 s, f14 s]) TH pre μ (fun _ => rfl) (Eq.mp (by kernel_rfl) h0) (fun s hs => Eq.mp (by kernel_rfl) (round s hs))
theorem L72_0_ruleG {K : AV → Heap → Prop} {v1 v2 v7 v12 v13 v14 : AV} {H : Heap} {σ : Type} (s0 : σ) (f7 : σ → AV) (f14 : σ → AV) (TH : σ → Heap) (pre : σ → Prop) (μ : σ → Nat)
    (h0 : pre s0 ∧ AV.wk v7 (f7 s0) ∧ AV.wk v14 (f14 s0) ∧ Heap.le (TH s0) H)
    (round : ∀ s, pre s → ∀ q, TH s q = none → B72_0 K (fun w7 w14 H' => ∃ s', pre s' ∧ μ s' < μ s ∧ AV.wk w7 (f7 s') ∧ AV.wk w14 (f14 s') ∧ Heap.le (TH s') H') v1 v2 (f7 s) v12 v13 (f14 s) ((TH s).set q [])) :
    L72_0 K v1 v2 v7 v12 v13 v14 H := by
  unfold L72_0
  exact LoopV.mkG s0 (fun s => [f7 s, f14 s]) TH pre μ (fun _ => rfl) (Eq.mp (by kernel_rfl) h0) (fun s hs q hq => Eq.mp (by kernel_rfl) (round s hs q hq))
/-- loop.example/g00649/spec.l12Step -/
def D73 : Info := ⟨43, fun i => ([], []), fun i => if i = 4 then ([2, 7, 8, 19, 20], [21]) else ([], [])⟩
def L73_0 (K : AV → Heap → Prop) (v2 : AV) (v7 : AV) (v8 : AV) (v19 : AV) (v20 : AV) (v21 : AV) (H : Heap) : Prop := LoopV (wpC Try.prog tab D73 (cAt [1, 1, 1, 0, 1, 0, 0] (bodyOf Try.f73))) [2, 7, 8, 19, 20] (PostF.block 0 (PostF.thenA (wpC Try.prog tab D73 (cAt [1, 1, 1, 1] (bodyOf Try.f73))) (retF tab [.tmp 6] K))) [21] [AV.any, AV.any, v2, AV.any, AV.any, AV.any, AV.any, v7, v8, AV.any, AV.any, AV.any, AV.any, AV.any, AV.any, AV.any, AV.any, AV.any, AV.any, v19, v20, v21, AV.any, AV.any, AV.any, AV.any, AV.any, AV.any, AV.any, AV.any, AV.any, AV.any, AV.any, AV.any, AV.any, AV.any, AV.any, AV.any, AV.any, AV.any, AV.any, AV.any, AV.any] H
def B73_0 (K : AV → Heap → Prop) (N1 : AV → Heap → Prop) (v2 : AV) (v7 : AV) (v8 : AV) (v19 : AV) (v20 : AV) (v21 : AV) (H : Heap) : Prop :=
 binV tab .lss 3 v21 v20 fun v22 =>
 condV v22 (indexAddrV tab 28 v19 v21 fun v23 =>
 loadV tab 61 v23 H fun v24 =>
 allocV tab 61 H fun v10 H4 =>
 storeV tab 61 v10 v24 H4 fun H5 =>
 fieldAddrV tab 61 v10 1 fun v25 =>
 loadV tab 3 v25 H5 fun v26 =>
 binV tab .eql 3 v26 v2 fun v28 =>
 grdV v28 true (fieldAddrV tab 61 v10 0 fun v31 =>
 loadV tab 3 v31 H5 fun v32 =>
 indexAddrV tab 94 v8 v32 fun v33 =>
 loadV tab 4 v33 H5 fun v34 =>
 condV v34 (fieldAddrV tab 61 v10 2 fun v37 =>
 loadV tab 3 v37 H5 fun v38 =>
 indexAddrV tab 94 v7 v38 fun v39 =>
 storeV tab 4 v39 (AV.p (.bool true)) H5 fun H6 =>
 binV tab .add 3 v21 (AV.p (.int .i64 1)) fun v40 =>
 N1 v40 H6)
 (binV tab .add 3 v21 (AV.p (.int .i64 1)) fun v40 =>
 N1 v40 H5))
 (binV tab .add 3 v21 (AV.p (.int .i64 1)) fun v40 =>
 N1 v40 H5))
 (CallT Try.prog 99 [v7] H fun v42 H7 =>
 K v42 H7)
def W73 (v0 : AV) (v1 : AV) (v2 : AV) (H : Heap) (K : AV → Heap → Prop) : Prop :=
 boxV v0 H fun v3 H1 =>
 fieldAddrV tab 30 v3 0 fun v11 =>
 loadV tab 3 v11 H1 fun v12 =>
 makeSliceV tab 94 v12 v12 H1 fun v13 H2 =>
 fieldAddrV tab 30 v3 0 fun v14 =>
 loadV tab 3 v14 H2 fun v15 =>
 CallT Try.prog 90 [v15, v1] H2 fun v17 H3 =>
 fieldAddrV tab 30 v3 2 fun v18 =>
 loadV tab 28 v18 H3 fun v19 =>
 lenV tab 28 v19 fun v20 =>
 L73_0 K v2 v13 v17 v19 v20 (AV.p (.int .i64 0)) H3
theorem W73_wp (v0 : AV) (v1 : AV) (v2 : AV) (H : Heap) (K : AV → Heap → Prop) : wpC Try.prog tab D73 (bodyOf Try.f73) (retF tab [.tmp 6] K) (nthA [v0, v1, v2]) H = W73 v0 v1 v2 H K := by kernel_rfl
theorem W73_ok {v0 v1 v2 : AV} {H : Heap} {K : AV → Heap → Prop} (h : W73 v0 v1 v2 H K) : CallT Try.prog 73 [v0, v1, v2] H K :=
  CallT.of_wp (D := D73) tab_ok mixed Try.func73 (c := bodyOf Try.f73) (by kernel_rfl) rfl (by kernel_rfl) (rs := #[.tmp 6]) rfl (by decide +kernel) (by kernel_rfl) (W73_wp v0 v1 v2 H K) h
theorem W73_hb : HasBody Try.prog 73 := ⟨_, bodyOf Try.f73, Try.func73, by kernel_rfl, rfl⟩
theorem L73_0_rule {K : AV → Heap → Prop} {v2 v7 v8 v19 v20 v21 : AV} {H : Heap} {σ : Type} (s0 : σ) (f21 : σ → AV) (TH : σ → Heap) (pre : σ → Prop) (μ : σ → Nat)
    (h0 : pre s0 ∧ AV.wk v21 (f21 s0) ∧ Heap.le (TH s0) H)
    (round : ∀ s, pre s → B73_0 K (fun w21 H' => ∃ s', pre s' ∧ μ s' < μ s ∧ AV.wk w21 (f21 s') ∧ Heap.le (TH s') H') v2 v7 v8 v19 v20 (f21 s) (TH s)) :
    L73_0 K v2 v7 v8 v19 v20 v21 H := by
  unfold L73_0
  exact LoopV.mk s0 (fun s => [f21 s]) TH pre μ (fun _ => rfl) (Eq.mp (by kernel_rfl) h0) (fun s hs => Eq.mp (by kernel_rfl) (round s hs))
theorem L73_0_ruleG {K : AV → Heap → Prop} {v2 v7 v8 v19 v20 v21 : AV} {H : Heap} {σ : Type} (s0 : σ) (f21 : σ → AV) (TH : σ → Heap) (pre : σ → Prop) (μ : σ → Nat)
    (h0 : pre s0 ∧ AV.wk v21 (f21 s0) ∧ Heap.le (TH s0) H)
    (round : ∀ s, pre s → ∀ q, TH s q = none → B73_0 K (fun w21 H' => ∃ s', pre s' ∧ μ s' < μ s ∧ AV.wk w21 (f21 s') ∧ Heap.le (TH s') H') v2 v7 v8 v19 v20 (f21 s) ((TH s).set q [])) :
    L73_0 K v2 v7 v8 v19 v20 v21 H := by
  unfold L73_0
  exact LoopV.mkG s0 (fun s => [f21 s]) TH pre μ (fun _ => rfl) (Eq.mp (by kernel_rfl) h0) (fun s hs q hq => Eq.mp (by kernel_rfl) (round s hs q hq))
end Go.Proofs.Ytfbaijpanbjmpaa
