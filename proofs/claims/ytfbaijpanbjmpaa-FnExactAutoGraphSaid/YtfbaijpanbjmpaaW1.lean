/- What each function's code is asked for, as a formula. Written by wgen.py (a program of this session's) out of Lean's print of the program. -/
import Derived.KernelRfl
import Derived.Test.YtfbaijpanbjmpaaTab
import Derived.Test.YtfbaijpanbjmpaaSepC
namespace Go.Proofs.Ytfbaijpanbjmpaa
open Go Go.Sep
set_option linter.unusedVariables false
attribute [local irreducible] wpC headF
/-- loop.example/g00649/impl.OneGoal -/
def D17 : Info := ⟨95, fun i => if i = 8 then ([[], [], [1], [0, 1, 2], [], [4], [4, 5], [], [7], [7, 8], [7, 8, 9], [4, 5, 6, 7, 8, 9, 10], [4, 5, 6, 7, 8, 9, 10, 11], [0, 1, 2, 3, 4, 5, 6, 7, 8, 9, 10, 11, 12], [], [0, 1, 2, 3, 4, 5, 6, 7, 8, 9, 10, 11, 12, 13, 14]], [(0, []), (1, []), (2, []), (3, []), (4, []), (5, []), (7, []), (8, []), (9, []), (10, []), (6, [2, 8, 10]), (11, [2]), (12, [2]), (13, []), (14, []), (15, [])]) else ([], []), fun i => if i = 10 then ([1, 2, 4, 6, 44, 45], [46]) else if i = 13 then ([1, 2, 4, 6, 7, 8, 44, 45, 46, 52, 53], [54]) else ([], [])⟩
def L17_0 (K : AV → Heap → Prop) (v1 : AV) (v2 : AV) (v4 : AV) (v6 : AV) (v44 : AV) (v45 : AV) (v46 : AV) (H : Heap) : Prop := LoopV (wpC Try.prog tab D17 (cAt [1, 1, 1, 1, 1, 0, 1, 0, 0] (bodyOf Try.f17))) [1, 2, 4, 6, 44, 45] (PostF.block 0 (PostF.thenA (wpC Try.prog tab D17 (cAt [1, 1, 1, 1, 1, 1] (bodyOf Try.f17))) (retF tab [.cell 2 30, .tmp 3] K))) [46] [AV.any, v1, v2, AV.any, v4, AV.any, v6, AV.any, AV.any, AV.any, AV.any, AV.any, AV.any, AV.any, AV.any, AV.any, AV.any, AV.any, AV.any, AV.any, AV.any, AV.any, AV.any, AV.any, AV.any, AV.any, AV.any, AV.any, AV.any, AV.any, AV.any, AV.any, AV.any, AV.any, AV.any, AV.any, AV.any, AV.any, AV.any, AV.any, AV.any, AV.any, AV.any, AV.any, v44, v45, v46, AV.any, AV.any, AV.any, AV.any, AV.any, AV.any, AV.any, AV.any, AV.any, AV.any, AV.any, AV.any, AV.any, AV.any, AV.any, AV.any, AV.any, AV.any, AV.any, AV.any, AV.any, AV.any, AV.any, AV.any, AV.any, AV.any, AV.any, AV.any, AV.any, AV.any, AV.any, AV.any, AV.any, AV.any, AV.any, AV.any, AV.any, AV.any, AV.any, AV.any, AV.any, AV.any, AV.any, AV.any, AV.any, AV.any, AV.any, AV.any] H
def L17_1 (K : AV → Heap → Prop) (N1 : AV → Heap → Prop) (v1 : AV) (v2 : AV) (v4 : AV) (v6 : AV) (v7 : AV) (v8 : AV) (v44 : AV) (v45 : AV) (v46 : AV) (v52 : AV) (v53 : AV) (v54 : AV) (H : Heap) : Prop := LoopV (wpC Try.prog tab D17 (cAt [1, 1, 1, 1, 1, 0, 1, 0, 0, 1, 1, 0, 0, 1, 1, 0, 0] (bodyOf Try.f17))) [1, 2, 4, 6, 7, 8, 44, 45, 46, 52, 53] (PostF.block 2 (PostF.block 1 (PostF.thenA (wpC Try.prog tab D17 (cAt [1, 1, 1, 1, 1, 0, 1, 0, 0, 1, 1, 1] (bodyOf Try.f17))) (loopF (PostF.block 0 (PostF.thenA (wpC Try.prog tab D17 (cAt [1, 1, 1, 1, 1, 1] (bodyOf Try.f17))) (retF tab [.cell 2 30, .tmp 3] K))) (fun e h => N1 (e 46) h))))) [54] [AV.any, v1, v2, AV.any, v4, AV.any, v6, v7, v8, AV.any, AV.any, AV.any, AV.any, AV.any, AV.any, AV.any, AV.any, AV.any, AV.any, AV.any, AV.any, AV.any, AV.any, AV.any, AV.any, AV.any, AV.any, AV.any, AV.any, AV.any, AV.any, AV.any, AV.any, AV.any, AV.any, AV.any, AV.any, AV.any, AV.any, AV.any, AV.any, AV.any, AV.any, AV.any, v44, v45, v46, AV.any, AV.any, AV.any, AV.any, AV.any, v52, v53, v54, AV.any, AV.any, AV.any, AV.any, AV.any, AV.any, AV.any, AV.any, AV.any, AV.any, AV.any, AV.any, AV.any, AV.any, AV.any, AV.any, AV.any, AV.any, AV.any, AV.any, AV.any, AV.any, AV.any, AV.any, AV.any, AV.any, AV.any, AV.any, AV.any, AV.any, AV.any, AV.any, AV.any, AV.any, AV.any, AV.any, AV.any, AV.any, AV.any, AV.any] H
def J17_2 (K : AV → Heap → Prop) (N1 : AV → Heap → Prop) (N2 : AV → Heap → Prop) (v1 : AV) (v2 : AV) (v4 : AV) (v6 : AV) (v7 : AV) (v8 : AV) (v10 : AV) (v11 : AV) (v44 : AV) (v45 : AV) (v46 : AV) (v52 : AV) (v53 : AV) (v54 : AV) (H : Heap) : Prop :=
 fieldAddrV tab 30 v6 2 fun v67 =>
 loadV tab 28 v67 H fun v68 =>
 fieldAddrV tab 61 v10 0 fun v69 =>
 loadV tab 3 v69 H fun v70 =>
 fieldAddrV tab 30 v1 0 fun v72 =>
 loadV tab 3 v72 H fun v73 =>
 binV tab .mul 3 v7 v73 fun v74 =>
 binV tab .add 3 v70 v74 fun v75 =>
 fieldAddrV tab 61 v10 1 fun v76 =>
 loadV tab 3 v76 H fun v77 =>
 fieldAddrV tab 61 v10 2 fun v78 =>
 loadV tab 3 v78 H fun v79 =>
 fieldAddrV tab 30 v1 0 fun v81 =>
 loadV tab 3 v81 H fun v82 =>
 binV tab .mul 3 v11 v82 fun v83 =>
 binV tab .add 3 v79 v83 fun v84 =>
 buildV tab 61 [(0, v75), (1, v77), (2, v84)] fun v85 =>
 buildSliceV tab 28 1 [(0, v85)] H (wkK fun v86 H21 =>
 appendV tab 28 28 v68 v86 H21 (wkK fun v87 H22 =>
 fieldAddrV tab 30 v6 2 fun v88 =>
 storeV tab 28 v88 v87 H22 fun H23 =>
 binV tab .add 3 v54 (AV.p (.int .i64 1)) fun v89 =>
 N2 v89 H23))
def B17_1 (K : AV → Heap → Prop) (N1 : AV → Heap → Prop) (N2 : AV → Heap → Prop) (v1 : AV) (v2 : AV) (v4 : AV) (v6 : AV) (v7 : AV) (v8 : AV) (v44 : AV) (v45 : AV) (v46 : AV) (v52 : AV) (v53 : AV) (v54 : AV) (H : Heap) : Prop :=
 binV tab .lss 3 v54 v53 fun v55 =>
 condV v55 (indexAddrV tab 28 v52 v54 fun v56 =>
 loadV tab 61 v56 H fun v57 =>
 allocV tab 61 H fun v10 H18 =>
 storeV tab 61 v10 v57 H18 fun H19 =>
 fieldAddrV tab 61 v10 0 fun v60 =>
 loadV tab 3 v60 H19 fun v61 =>
 CallT Try.prog 63 [v8, v61] H19 fun v62 H20 =>
 condV v62 (binV tab .add 3 v7 (AV.p (.int .i64 1)) fun v64 =>
 binV tab .rem 3 v64 v4 fun v66 =>
 J17_2 K N1 N2 v1 v2 v4 v6 v7 v8 v10 v66 v44 v45 v46 v52 v53 v54 H20)
 (J17_2 K N1 N2 v1 v2 v4 v6 v7 v8 v10 v7 v44 v45 v46 v52 v53 v54 H20))
 (binV tab .add 3 v46 (AV.p (.int .i64 1)) fun v90 =>
 N1 v90 H)
def B17_0 (K : AV → Heap → Prop) (N1 : AV → Heap → Prop) (v1 : AV) (v2 : AV) (v4 : AV) (v6 : AV) (v44 : AV) (v45 : AV) (v46 : AV) (H : Heap) : Prop :=
 binV tab .lss 3 v46 v45 fun v47 =>
 condV v47 (indexAddrV tab 24 v44 v46 fun v49 =>
 loadV tab 22 v49 H fun v50 =>
 fieldAddrV tab 30 v1 2 fun v51 =>
 loadV tab 28 v51 H fun v52 =>
 lenV tab 28 v52 fun v53 =>
 L17_1 K N1 v1 v2 v4 v6 v46 v50 v44 v45 v46 v52 v53 (AV.p (.int .i64 0)) H)
 (loadV tab 30 v6 H fun v91 =>
 CallT Try.prog 47 [v91] H fun v92 H24 =>
 extractV v92 0 fun v93 =>
 extractV v92 1 fun v94 =>
 storeV tab 30 v2 v93 H24 fun H25 =>
 loadV tab 30 v2 H25 fun r0 =>
 K (.tup [r0, v94]) H25)
def W17 (v0 : AV) (H : Heap) (K : AV → Heap → Prop) : Prop :=
 boxV v0 H fun v1 H1 =>
 allocV tab 30 H1 fun v2 H2 =>
 loadV tab 30 v1 H2 fun v12 =>
 CallT Try.prog 42 [v12] H2 fun v13 H3 =>
 unV .not v13 fun v14 =>
 condV v14 (buildV tab 30 [] fun v15 =>
 storeV tab 30 v2 v15 H3 fun H4 =>
 loadV tab 30 v2 H4 fun r0 =>
 K (.tup [r0, (AV.p (.bool false))]) H4)
 (fieldAddrV tab 30 v1 3 fun v16 =>
 loadV tab 24 v16 H3 fun v17 =>
 lenV tab 24 v17 fun v18 =>
 binV tab .lss 3 v18 (AV.p (.int .i64 2)) fun v20 =>
 condV v20 (loadV tab 30 v1 H3 fun v21 =>
 CallT Try.prog 61 [v21] H3 fun v22 H5 =>
 allocV tab 30 H5 fun v5 H6 =>
 storeV tab 30 v5 v22 H6 fun H7 =>
 loadV tab 30 v1 H7 fun v23 =>
 CallT Try.prog 46 [v23, (AV.p (.int .i64 0))] H7 fun v24 H8 =>
 CallT Try.prog 62 [v24] H8 fun v25 H9 =>
 buildSliceV tab 24 1 [(0, v25)] H9 (wkK fun v26 H10 =>
 fieldAddrV tab 30 v5 3 fun v27 =>
 storeV tab 24 v27 v26 H10 fun H11 =>
 loadV tab 30 v5 H11 fun v28 =>
 storeV tab 30 v2 v28 H11 fun H12 =>
 loadV tab 30 v2 H12 fun r0 =>
 K (.tup [r0, (AV.p (.bool true))]) H12))
 (fieldAddrV tab 30 v1 0 fun v30 =>
 loadV tab 3 v30 H3 fun v31 =>
 binV tab .mul 3 v18 v31 fun v32 =>
 fieldAddrV tab 30 v1 1 fun v33 =>
 loadV tab 22 v33 H3 fun v34 =>
 fieldAddrV tab 30 v1 3 fun v36 =>
 loadV tab 24 v36 H3 fun v37 =>
 indexAddrV tab 24 v37 (AV.p (.int .i64 0)) fun v38 =>
 loadV tab 22 v38 H3 fun v39 =>
 CallT Try.prog 62 [v34] H3 fun v35 H13 =>
 (loadV tab 3 v30 H13 fun v9031 =>
 v31 = v9031) ∧
 (loadV tab 24 v36 H13 fun v9037 =>
 v37 = v9037) ∧
 (loadV tab 22 v38 H13 fun v9039 =>
 v39 = v9039) ∧
 CallT Try.prog 62 [v39] H13 fun v40 H14 =>
 (loadV tab 3 v30 H14 fun v9031 =>
 v31 = v9031) ∧
 buildSliceV tab 24 1 [(0, v40)] H14 (wkK fun v41 H15 =>
 (loadV tab 3 v30 H15 fun v9031 =>
 v31 = v9031) ∧
 buildV tab 30 [(0, v32), (1, v35), (3, v41)] fun v42 =>
 allocV tab 30 H15 fun v6 H16 =>
 storeV tab 30 v6 v42 H16 fun H17 =>
 fieldAddrV tab 30 v1 3 fun v43 =>
 loadV tab 24 v43 H17 fun v44 =>
 lenV tab 24 v44 fun v45 =>
 L17_0 K v1 v2 v18 v6 v44 v45 (AV.p (.int .i64 0)) H17)))
theorem W17_wp (v0 : AV) (H : Heap) (K : AV → Heap → Prop) : wpC Try.prog tab D17 (bodyOf Try.f17) (retF tab [.cell 2 30, .tmp 3] K) (nthA [v0]) H = W17 v0 H K := by kernel_rfl
theorem W17_ok {v0 : AV} {H : Heap} {K : AV → Heap → Prop} (h : W17 v0 H K) : CallT Try.prog 17 [v0] H K :=
  CallT.of_wp (D := D17) tab_ok mixed Try.func17 (c := bodyOf Try.f17) (by kernel_rfl) rfl (by kernel_rfl) (rs := #[.cell 2 30, .tmp 3]) rfl (by decide +kernel) (by kernel_rfl) (W17_wp v0 H K) h
theorem W17_hb : HasBody Try.prog 17 := ⟨_, bodyOf Try.f17, Try.func17, by kernel_rfl, rfl⟩
theorem L17_1_rule {K : AV → Heap → Prop} {N1 : AV → Heap → Prop} {v1 v2 v4 v6 v7 v8 v44 v45 v46 v52 v53 v54 : AV} {H : Heap} {σ : Type} (s0 : σ) (f54 : σ → AV) (TH : σ → Heap) (pre : σ → Prop) (μ : σ → Nat)
    (h0 : pre s0 ∧ AV.wk v54 (f54 s0) ∧ Heap.le (TH s0) H)
    (round : ∀ s, pre s → B17_1 K N1 (fun w54 H' => ∃ s', pre s' ∧ μ s' < μ s ∧ AV.wk w54 (f54 s') ∧ Heap.le (TH s') H') v1 v2 v4 v6 v7 v8 v44 v45 v46 v52 v53 (f54 s) (TH s)) :
    L17_1 K N1 v1 v2 v4 v6 v7 v8 v44 v45 v46 v52 v53 v54 H := by
  unfold L17_1
  exact LoopV.mk s0 (fun s => [f54 s]) TH pre μ (fun _ => rfl) (Eq.mp (by kernel_rfl) h0) (fun s hs => Eq.mp (by kernel_rfl) (round s hs))
theorem L17_1_ruleG {K : AV → Heap → Prop} {N1 : AV → Heap → Prop} {v1 v2 v4 v6 v7 v8 v44 v45 v46 v52 v53 v54 : AV} {H : Heap} {σ : Type} (s0 : σ) (f54 : σ → AV) (TH : σ → Heap) (pre : σ → Prop) (μ : σ → Nat)
    (h0 : pre s0 ∧ AV.wk v54 (f54 s0) ∧ Heap.le (TH s0) H)
    (round : ∀ s, pre s → ∀ q, TH s q = none → B17_1 K N1 (fun w54 H' => ∃ s', pre s' ∧ μ s' < μ s ∧ AV.wk w54 (f54 s') ∧ Heap.le (TH s') H') v1 v2 v4 v6 v7 v8 v44 v45 v46 v52 v53 (f54 s) ((TH s).set q [])) :
    L17_1 K N1 v1 v2 v4 v6 v7 v8 v44 v45 v46 v52 v53 v54 H := by
  unfold L17_1
  exact LoopV.mkG s0 (fun s => [f54 s]) TH pre μ (fun _ => rfl) (Eq.mp (by kernel_rfl) h0) (fun s hs q hq => Eq.mp (by kernel_rfl) (round s hs q hq))
theorem L17_0_rule {K : AV → Heap → Prop} {v1 v2 v4 v6 v44 v45 v46 : AV} {H : Heap} {σ : Type} (s0 : σ) (f46 : σ → AV) (TH : σ → Heap) (pre : σ → Prop) (μ : σ → Nat)
    (h0 : pre s0 ∧ AV.wk v46 (f46 s0) ∧ Heap.le (TH s0) H)
    (round : ∀ s, pre s → B17_0 K (fun w46 H' => ∃ s', pre s' ∧ μ s' < μ s ∧ AV.wk w46 (f46 s') ∧ Heap.le (TH s') H') v1 v2 v4 v6 v44 v45 (f46 s) (TH s)) :
    L17_0 K v1 v2 v4 v6 v44 v45 v46 H := by
  unfold L17_0
  exact LoopV.mk s0 (fun s => [f46 s]) TH pre μ (fun _ => rfl) (Eq.mp (by kernel_rfl) h0) (fun s hs => Eq.mp (by kernel_rfl) (round s hs))
theorem L17_0_ruleG {K : AV → Heap → Prop} {v1 v2 v4 v6 v44 v45 v46 : AV} {H : Heap} {σ : Type} (s0 : σ) (f46 : σ → AV) (TH : σ → Heap) (pre : σ → Prop) (μ : σ → Nat)
    (h0 : pre s0 ∧ AV.wk v46 (f46 s0) ∧ Heap.le (TH s0) H)
    (round : ∀ s, pre s → ∀ q, TH s q = none → B17_0 K (fun w46 H' => ∃ s', pre s' ∧ μ s' < μ s ∧ AV.wk w46 (f46 s') ∧ Heap.le (TH s') H') v1 v2 v4 v6 v44 v45 (f46 s) ((TH s).set q [])) :
    L17_0 K v1 v2 v4 v6 v44 v45 v46 H := by
  unfold L17_0
  exact LoopV.mkG s0 (fun s => [f46 s]) TH pre μ (fun _ => rfl) (Eq.mp (by kernel_rfl) h0) (fun s hs q hq => Eq.mp (by kernel_rfl) (round s hs q hq))
/-- loop.example/g00649/laws.szIntS -/
def D32 : Info := ⟨12, fun i => ([], []), fun i => ([], [])⟩
def W32 (v0 : AV) (v1 : AV) (H : Heap) (K : AV → Heap → Prop) : Prop :=
 lenV tab 22 v0 fun v7 =>
 binV tab .sub 3 v1 v7 fun v8 =>
 binV tab .lss 3 v8 (AV.p (.int .i64 0)) fun v10 =>
 condV v10 (K (AV.p (.int .i64 (-1))) H)
 (K v8 H)
theorem W32_wp (v0 : AV) (v1 : AV) (H : Heap) (K : AV → Heap → Prop) : wpC Try.prog tab D32 (bodyOf Try.f32) (retF tab [.tmp 4] K) (nthA [v0, v1]) H = W32 v0 v1 H K := by kernel_rfl
theorem W32_ok {v0 v1 : AV} {H : Heap} {K : AV → Heap → Prop} (h : W32 v0 v1 H K) : CallT Try.prog 32 [v0, v1] H K :=
  CallT.of_wp (D := D32) tab_ok mixed Try.func32 (c := bodyOf Try.f32) (by kernel_rfl) rfl (by kernel_rfl) (rs := #[.tmp 4]) rfl (by decide +kernel) (by kernel_rfl) (W32_wp v0 v1 H K) h
theorem W32_hb : HasBody Try.prog 32 := ⟨_, bodyOf Try.f32, Try.func32, by kernel_rfl, rfl⟩
/-- loop.example/g00649/laws.szEdgeS -/
def D33 : Info := ⟨12, fun i => ([], []), fun i => ([], [])⟩
def W33 (v0 : AV) (v1 : AV) (H : Heap) (K : AV → Heap → Prop) : Prop :=
 lenV tab 23 v0 fun v7 =>
 binV tab .sub 3 v1 v7 fun v8 =>
 binV tab .lss 3 v8 (AV.p (.int .i64 0)) fun v10 =>
 condV v10 (K (AV.p (.int .i64 (-1))) H)
 (K v8 H)
theorem W33_wp (v0 : AV) (v1 : AV) (H : Heap) (K : AV → Heap → Prop) : wpC Try.prog tab D33 (bodyOf Try.f33) (retF tab [.tmp 4] K) (nthA [v0, v1]) H = W33 v0 v1 H K := by kernel_rfl
theorem W33_ok {v0 v1 : AV} {H : Heap} {K : AV → Heap → Prop} (h : W33 v0 v1 H K) : CallT Try.prog 33 [v0, v1] H K :=
  CallT.of_wp (D := D33) tab_ok mixed Try.func33 (c := bodyOf Try.f33) (by kernel_rfl) rfl (by kernel_rfl) (rs := #[.tmp 4]) rfl (by decide +kernel) (by kernel_rfl) (W33_wp v0 v1 H K) h
theorem W33_hb : HasBody Try.prog 33 := ⟨_, bodyOf Try.f33, Try.func33, by kernel_rfl, rfl⟩
/-- loop.example/g00649/laws.szIntSS -/
def D34 : Info := ⟨27, fun i => ([], []), fun i => if i = 5 then ([0], [1, 5]) else ([], [])⟩
def L34_0 (K : AV → Heap → Prop) (v0 : AV) (v1 : AV) (v5 : AV) (H : Heap) : Prop := LoopV (wpC Try.prog tab D34 (cAt [1, 1, 1, 0, 1, 0, 0] (bodyOf Try.f34))) [0] (PostF.block 0 (PostF.thenA (wpC Try.prog tab D34 (cAt [1, 1, 1, 1] (bodyOf Try.f34))) (retF tab [.tmp 4] K))) [1, 5] [v0, v1, AV.any, AV.any, AV.any, v5, AV.any, AV.any, AV.any, AV.any, AV.any, AV.any, AV.any, AV.any, AV.any, AV.any, AV.any, AV.any, AV.any, AV.any, AV.any, AV.any, AV.any, AV.any, AV.any, AV.any, AV.any] H
def B34_0 (K : AV → Heap → Prop) (N1 : AV → AV → Heap → Prop) (v0 : AV) (v1 : AV) (v5 : AV) (H : Heap) : Prop :=
 lenV tab 24 v0 fun v14 =>
 binV tab .lss 3 v5 v14 fun v15 =>
 condV v15 (indexAddrV tab 24 v0 v5 fun v20 =>
 loadV tab 22 v20 H fun v21 =>
 CallT Try.prog 32 [v21, v1] H fun v23 H1 =>
 binV tab .lss 3 v23 (AV.p (.int .i64 0)) fun v25 =>
 condV v25 (K (AV.p (.int .i64 (-1))) H1)
 (binV tab .add 3 v5 (AV.p (.int .i64 1)) fun v17 =>
 N1 v23 v17 H1))
 (K v1 H)
def W34 (v0 : AV) (v1 : AV) (H : Heap) (K : AV → Heap → Prop) : Prop :=
 lenV tab 24 v0 fun v8 =>
 binV tab .sub 3 v1 v8 fun v9 =>
 binV tab .lss 3 v9 (AV.p (.int .i64 0)) fun v11 =>
 condV v11 (K (AV.p (.int .i64 (-1))) H)
 (L34_0 K v0 v9 (AV.p (.int .i64 0)) H)
theorem W34_wp (v0 : AV) (v1 : AV) (H : Heap) (K : AV → Heap → Prop) : wpC Try.prog tab D34 (bodyOf Try.f34) (retF tab [.tmp 4] K) (nthA [v0, v1]) H = W34 v0 v1 H K := by kernel_rfl
theorem W34_ok {v0 v1 : AV} {H : Heap} {K : AV → Heap → Prop} (h : W34 v0 v1 H K) : CallT Try.prog 34 [v0, v1] H K :=
  CallT.of_wp (D := D34) tab_ok mixed Try.func34 (c := bodyOf Try.f34) (by kernel_rfl) rfl (by kernel_rfl) (rs := #[.tmp 4]) rfl (by decide +kernel) (by kernel_rfl) (W34_wp v0 v1 H K) h
theorem W34_hb : HasBody Try.prog 34 := ⟨_, bodyOf Try.f34, Try.func34, by kernel_rfl, rfl⟩
theorem L34_0_rule {K : AV → Heap → Prop} {v0 v1 v5 : AV} {H : Heap} {σ : Type} (s0 : σ) (f1 : σ → AV) (f5 : σ → AV) (TH : σ → Heap) (pre : σ → Prop) (μ : σ → Nat)
    (h0 : pre s0 ∧ AV.wk v1 (f1 s0) ∧ AV.wk v5 (f5 s0) ∧ Heap.le (TH s0) H)
    (round : ∀ s, pre s → B34_0 K (fun w1 w5 H' => ∃ s', pre s' ∧ μ s' < μ s ∧ AV.wk w1 (f1 s') ∧ AV.wk w5 (f5 s') ∧ Heap.le (TH s') H') v0 (f1 s) (f5 s) (TH s)) :
    L34_0 K v0 v1 v5 H := by
  unfold L34_0
  exact LoopV.mk s0 (fun s => [f1 s, f5 s]) TH pre μ (fun _ => rfl) (Eq.mp (by kernel_rfl) h0) (fun s hs => Eq.mp (by kernel_rfl) (round s hs))
theorem L34_0_ruleG {K : AV → Heap → Prop} {v0 v1 v5 : AV} {H : Heap} {σ : Type} (s0 : σ) (f1 : σ → AV) (f5 : σ → AV) (TH : σ → Heap) (pre : σ → Prop) (μ : σ → Nat)
    (h0 : pre s0 ∧ AV.wk v1 (f1 s0) ∧ AV.wk v5 (f5 s0) ∧ Heap.le (TH s0) H)
    (round : ∀ s, pre s → ∀ q, TH s q = none → B34_0 K (fun w1 w5 H' => ∃ s', pre s' ∧ μ s' < μ s ∧ AV.wk w1 (f1 s') ∧ AV.wk w5 (f5 s') ∧ Heap.le (TH s') H') v0 (f1 s) (f5 s) ((TH s).set q [])) :
    L34_0 K v0 v1 v5 H := by
  unfold L34_0
  exact LoopV.mkG s0 (fun s => [f1 s, f5 s]) TH pre μ (fun _ => rfl) (Eq.mp (by kernel_rfl) h0) (fun s hs q hq => Eq.mp (by kernel_rfl) (round s hs q hq))
/-- loop.example/g00649/spec.GoodAuto -/
def D35 : Info := ⟨77, fun i => if i = 6 then ([[], [0], [], [2], [2, 3], [0, 1, 2, 3, 4], [0, 1, 2, 3, 4, 5], [0, 1, 2, 3, 4, 5, 6], [0, 1, 2, 3, 4, 5, 6, 7], [0, 1, 2, 3, 4, 5, 6, 7, 8], [0, 1, 2, 3, 4, 5, 6, 7, 8, 9], [0, 1, 2, 3, 4, 5, 6, 7, 8, 9, 10], [0, 1, 2, 3, 4, 5, 6, 7, 8, 9, 10, 11], [0, 1, 2, 3, 4, 5, 6, 7, 8, 9, 10, 11, 12], [0, 1, 2, 3, 4, 5, 6, 7, 8, 9, 10, 11, 12, 13], [0, 1, 2, 3, 4, 5, 6, 7, 8, 9, 10, 11, 12, 13, 14], [0, 1, 2, 3, 4, 5, 6, 7, 8, 9, 10, 11, 12, 13], [0, 1, 2, 3, 4, 5, 6, 7, 8, 9, 10, 11, 12, 13, 16], [0, 1, 2, 3, 4, 5, 6, 7, 8, 9, 10, 11, 12, 13, 16, 17], [0, 1, 2, 3, 4, 5, 6, 7, 8, 9, 10, 11, 12, 13, 14, 15, 16, 17, 18], [0, 1, 2, 3, 4, 5, 6, 7, 8, 9, 10, 11, 12, 13, 14, 15, 16, 17, 18, 19], [0, 1, 2, 3, 4, 5, 6, 7, 8, 9, 10, 11, 12, 13, 14, 15, 16, 17, 18, 19, 20], [0, 1, 2, 3, 4, 5, 6, 7, 8, 9, 10, 11, 12, 13, 14, 15, 16, 17, 18, 19, 20, 21], [0, 1, 2, 3, 4, 5, 6, 7, 8, 9, 10, 11, 12, 13, 14, 15, 16, 17, 18, 19, 20, 21, 22], [0, 1, 2, 3, 4, 5, 6, 7, 8, 9, 10, 11, 12, 13, 14, 15, 16, 17, 18, 19, 20, 21, 22, 23], [0, 1, 2, 3, 4, 5, 6, 7, 8, 9, 10, 11, 12, 13, 14, 15, 16, 17, 18, 19, 20, 21, 22, 23, 24], [0, 1, 2, 3, 4, 5, 6, 7, 8, 9, 10, 11, 12, 13, 14, 15, 16, 17, 18, 19, 20, 21, 22, 23, 24, 25], [0, 1, 2, 3, 4, 5, 6, 7, 8, 9, 10, 11, 12, 13, 14, 15, 16, 17, 18, 19, 20, 21, 22, 23, 24, 25, 26], [0, 1, 2, 3, 4, 5, 6, 7, 8, 9, 10, 11, 12, 13, 14, 15, 16, 17, 18, 19, 20, 21, 22, 23, 24, 25], [0, 1, 2, 3, 4, 5, 6, 7, 8, 9, 10, 11, 12, 13, 14, 15, 16, 17, 18, 19, 20, 21, 22, 23, 24, 25, 28], [0, 1, 2, 3, 4, 5, 6, 7, 8, 9, 10, 11, 12, 13, 14, 15, 16, 17, 18, 19, 20, 21, 22, 23, 24, 25, 26, 27, 28, 29], [0, 1, 2, 3, 4, 5, 6, 7, 8, 9, 10, 11, 12, 13, 14, 15, 16, 17, 18, 19, 20, 21, 22, 23, 24, 25, 26, 27, 28, 29, 30], [0, 1, 2, 3, 4, 5, 6, 7, 8, 9, 10, 11, 12, 13, 14, 15, 16, 17, 18, 19, 20, 21, 22, 23, 24, 25], [0, 1, 2, 3, 4, 5, 6, 7, 8, 9, 10, 11, 12, 13, 14, 15, 16, 17, 18, 19, 20, 21, 22, 23, 24, 25, 26, 27, 28, 29, 30, 31, 32], [0, 1, 2, 3, 4, 5, 6, 7, 8, 9, 10, 11, 12, 13, 14, 15, 16, 17, 18, 19, 20, 21, 22, 23, 24, 25, 26, 27, 28, 29, 30, 31, 32, 33], [0, 1, 2, 3, 4, 5, 6, 7, 8, 9, 10, 11, 12, 13, 14, 15, 16, 17, 18, 19, 20, 21, 22, 23, 24, 25, 26, 27, 28, 29, 30, 31, 32, 33, 34], [0, 1, 2, 3, 4, 5, 6, 7, 8, 9, 10, 11, 12, 13, 14, 15, 16, 17, 18, 19, 20, 21, 22, 23, 24, 25, 26, 27, 28, 29, 30, 31, 32, 33, 34, 35]], [(0, []), (1, []), (2, []), (3, []), (4, []), (5, []), (6, []), (7, []), (8, []), (9, []), (10, []), (11, []), (12, []), (13, []), (14, []), (15, []), (16, []), (17, []), (18, []), (19, []), (20, []), (21, []), (22, []), (23, []), (24, []), (25, []), (26, []), (27, []), (28, []), (29, []), (30, []), (31, []), (32, []), (33, []), (34, []), (35, []), (36, [])]) else ([], []), fun i => if i = 4 then ([1, 32, 33], [34]) else ([], [])⟩
def L35_0 (K : AV → Heap → Prop) (v1 : AV) (v32 : AV) (v33 : AV) (v34 : AV) (H : Heap) : Prop := LoopV (wpC Try.prog tab D35 (cAt [1, 1, 0, 1, 0, 0] (bodyOf Try.f35))) [1, 32, 33] (PostF.block 0 (PostF.thenA (wpC Try.prog tab D35 (cAt [1, 1, 1] (bodyOf Try.f35))) (retF tab [.tmp 2] K))) [34] [AV.any, v1, AV.any, AV.any, AV.any, AV.any, AV.any, AV.any, AV.any, AV.any, AV.any, AV.any, AV.any, AV.any, AV.any, AV.any, AV.any, AV.any, AV.any, AV.any, AV.any, AV.any, AV.any, AV.any, AV.any, AV.any, AV.any, AV.any, AV.any, AV.any, AV.any, AV.any, v32, v33, v34, AV.any, AV.any, AV.any, AV.any, AV.any, AV.any, AV.any, AV.any, AV.any, AV.any, AV.any, AV.any, AV.any, AV.any, AV.any, AV.any, AV.any, AV.any, AV.any, AV.any, AV.any, AV.any, AV.any, AV.any, AV.any, AV.any, AV.any, AV.any, AV.any, AV.any, AV.any, AV.any, AV.any, AV.any, AV.any, AV.any, AV.any, AV.any, AV.any, AV.any, AV.any, AV.any] H
def B35_0 (K : AV → Heap → Prop) (N1 : AV → Heap → Prop) (v1 : AV) (v32 : AV) (v33 : AV) (v34 : AV) (H : Heap) : Prop :=
 binV tab .lss 3 v34 v33 fun v35 =>
 condV v35 (indexAddrV tab 28 v32 v34 fun v37 =>
 loadV tab 61 v37 H fun v38 =>
 allocV tab 61 H fun v4 H5 =>
 storeV tab 61 v4 v38 H5 fun H6 =>
 fieldAddrV tab 61 v4 0 fun v39 =>
 loadV tab 3 v39 H6 fun v40 =>
 fieldAddrV tab 30 v1 0 fun v41 =>
 loadV tab 3 v41 H6 fun v42 =>
 binV tab .sub 3 v42 (AV.p (.int .i64 1)) fun v43 =>
 CallT Try.prog 76 [v40, (AV.p (.int .i64 0)), v43] H6 fun v44 H7 =>
 unV .not v44 fun v45 =>
 grdV v45 false (fieldAddrV tab 61 v4 1 fun v47 =>
 loadV tab 3 v47 H7 fun v48 =>
 CallT Try.prog 76 [v48, (AV.p (.int .i64 0)), (AV.p (.int .i64 7))] H7 fun v49 H8 =>
 unV .not v49 fun v50 =>
 grdV v50 false (fieldAddrV tab 61 v4 2 fun v53 =>
 loadV tab 3 v53 H8 fun v54 =>
 fieldAddrV tab 30 v1 0 fun v55 =>
 loadV tab 3 v55 H8 fun v56 =>
 binV tab .sub 3 v56 (AV.p (.int .i64 1)) fun v57 =>
 CallT Try.prog 76 [v54, (AV.p (.int .i64 0)), v57] H8 fun v58 H9 =>
 unV .not v58 fun v59 =>
 grdV v59 false (binV tab .gtr 3 v34 (AV.p (.int .i64 0)) fun v63 =>
 grdV v63 true (fieldAddrV tab 30 v1 2 fun v65 =>
 loadV tab 28 v65 H9 fun v66 =>
 binV tab .sub 3 v34 (AV.p (.int .i64 1)) fun v68 =>
 indexAddrV tab 28 v66 v68 fun v69 =>
 loadV tab 61 v69 H9 fun v70 =>
 loadV tab 61 v4 H9 fun v71 =>
 CallT Try.prog 79 [v70, v71] H9 fun v72 H10 =>
 unV .not v72 fun v73 =>
 condV v73 (K (AV.p (.bool false)) H10)
 (binV tab .add 3 v34 (AV.p (.int .i64 1)) fun v76 =>
 N1 v76 H10))
 (binV tab .add 3 v34 (AV.p (.int .i64 1)) fun v76 =>
 N1 v76 H9))
 (K (AV.p (.bool false)) H9))
 (K (AV.p (.bool false)) H8))
 (K (AV.p (.bool false)) H7))
 (K (AV.p (.bool true)) H)
def W35 (v0 : AV) (H : Heap) (K : AV → Heap → Prop) : Prop :=
 boxV v0 H fun v1 H1 =>
 fieldAddrV tab 30 v1 0 fun v5 =>
 loadV tab 3 v5 H1 fun v6 =>
 CallT Try.prog 76 [v6, (AV.p (.int .i64 1)), (AV.p (.int .i64 96))] H1 fun v7 H2 =>
 unV .not v7 fun v8 =>
 grdV v8 false (fieldAddrV tab 30 v1 1 fun v10 =>
 loadV tab 22 v10 H2 fun v11 =>
 fieldAddrV tab 30 v1 0 fun v12 =>
 loadV tab 3 v12 H2 fun v13 =>
 CallT Try.prog 77 [v11, v13] H2 fun v14 H3 =>
 unV .not v14 fun v15 =>
 grdV v15 false (fieldAddrV tab 30 v1 2 fun v18 =>
 loadV tab 28 v18 H3 fun v19 =>
 lenV tab 28 v19 fun v20 =>
 binV tab .gtr 3 v20 (AV.p (.int .i64 2400)) fun v21 =>
 grdV v21 false (fieldAddrV tab 30 v1 3 fun v24 =>
 loadV tab 24 v24 H3 fun v25 =>
 fieldAddrV tab 30 v1 0 fun v26 =>
 loadV tab 3 v26 H3 fun v27 =>
 CallT Try.prog 78 [v25, v27] H3 fun v28 H4 =>
 unV .not v28 fun v29 =>
 condV v29 (K (AV.p (.bool false)) H4)
 (fieldAddrV tab 30 v1 2 fun v31 =>
 loadV tab 28 v31 H4 fun v32 =>
 lenV tab 28 v32 fun v33 =>
 L35_0 K v1 v32 v33 (AV.p (.int .i64 0)) H4))
 (K (AV.p (.bool false)) H3))
 (K (AV.p (.bool false)) H3))
 (K (AV.p (.bool false)) H2)
theorem W35_wp (v0 : AV) (H : Heap) (K : AV → Heap → Prop) : wpC Try.prog tab D35 (bodyOf Try.f35) (retF tab [.tmp 2] K) (nthA [v0]) H = W35 v0 H K := by kernel_rfl
theorem W35_ok {v0 : AV} {H : Heap} {K : AV → Heap → Prop} (h : W35 v0 H K) : CallT Try.prog 35 [v0] H K :=
  CallT.of_wp (D := D35) tab_ok mixed Try.func35 (c := bodyOf Try.f35) (by kernel_rfl) rfl (by kernel_rfl) (rs := #[.tmp 2]) rfl (by decide +kernel) (by kernel_rfl) (W35_wp v0 H K) h
theorem W35_hb : HasBody Try.prog 35 := ⟨_, bodyOf Try.f35, Try.func35, by kernel_rfl, rfl⟩
theorem L35_0_rule {K : AV → Heap → Prop} {v1 v32 v33 v34 : AV} {H : Heap} {σ : Type} (s0 : σ) (f34 : σ → AV) (TH : σ → Heap) (pre : σ → Prop) (μ : σ → Nat)
    (h0 : pre s0 ∧ AV.wk v34 (f34 s0) ∧ Heap.le (TH s0) H)
    (round : ∀ s, pre s → B35_0 K (fun w34 H' => ∃ s', pre s' ∧ μ s' < μ s ∧ AV.wk w34 (f34 s') ∧ Heap.le (TH s') H') v1 v32 v33 (f34 s) (TH s)) :
    L35_0 K v1 v32 v33 v34 H := by
  unfold L35_0
  exact LoopV.mk s0 (fun s => [f34 s]) TH pre μ (fun _ => rfl) (Eq.mp (by kernel_rfl) h0) (fun s hs => Eq.mp (by kernel_rfl) (round s hs))
theorem L35_0_ruleG {K : AV → Heap → Prop} {v1 v32 v33 v34 : AV} {H : Heap} {σ : Type} (s0 : σ) (f34 : σ → AV) (TH : σ → Heap) (pre : σ → Prop) (μ : σ → Nat)
    (h0 : pre s0 ∧ AV.wk v34 (f34 s0) ∧ Heap.le (TH s0) H)
    (round : ∀ s, pre s → ∀ q, TH s q = none → B35_0 K (fun w34 H' => ∃ s', pre s' ∧ μ s' < μ s ∧ AV.wk w34 (f34 s') ∧ Heap.le (TH s') H') v1 v32 v33 (f34 s) ((TH s).set q [])) :
    L35_0 K v1 v32 v33 v34 H := by
  unfold L35_0
  exact LoopV.mkG s0 (fun s => [f34 s]) TH pre μ (fun _ => rfl) (Eq.mp (by kernel_rfl) h0) (fun s hs q hq => Eq.mp (by kernel_rfl) (round s hs q hq))
/-- loop.example/g00649/spec.l12Behind -/
def D36 : Info := ⟨26, fun i => ([], []), fun i => if i = 3 then ([2, 12, 13], [7, 14]) else ([], [])⟩
def L36_0 (K : AV → Heap → Prop) (v2 : AV) (v7 : AV) (v12 : AV) (v13 : AV) (v14 : AV) (H : Heap) : Prop := LoopV (wpC Try.prog tab D36 (cAt [1, 1, 0, 1, 0, 0] (bodyOf Try.f36))) [2, 12, 13] (PostF.block 0 (PostF.thenA (wpC Try.prog tab D36 (cAt [1, 1, 1] (bodyOf Try.f36))) (retF tab [.tmp 6] K))) [7, 14] [AV.any, AV.any, v2, AV.any, AV.any, AV.any, AV.any, v7, AV.any, AV.any, AV.any, AV.any, v12, v13, v14, AV.any, AV.any, AV.any, AV.any, AV.any, AV.any, AV.any, AV.any, AV.any, AV.any, AV.any] H
def B36_0 (K : AV → Heap → Prop) (N1 : AV → AV → Heap → Prop) (v2 : AV) (v7 : AV) (v12 : AV) (v13 : AV) (v14 : AV) (H : Heap) : Prop :=
 binV tab .lss 3 v14 v13 fun v15 =>
 condV v15 (indexAddrV tab 22 v12 v14 fun v16 =>
 loadV tab 3 v16 H fun v17 =>
 binV tab .add 3 v17 v2 fun v21 =>
 buildSliceV tab 22 1 [(0, v21)] H (wkK fun v22 H2 =>
 appendV tab 22 22 v7 v22 H2 (wkK fun v23 H3 =>
 binV tab .add 3 v14 (AV.p (.int .i64 1)) fun v24 =>
 N1 v23 v24 H3)))
 (K v7 H)
def W36 (v0 : AV) (v1 : AV) (v2 : AV) (H : Heap) (K : AV → Heap → Prop) : Prop :=
 CallT Try.prog 59 [v0] H fun v11 H1 =>
 lenV tab 22 v1 fun v13 =>
 L36_0 K v2 v11 v1 v13 (AV.p (.int .i64 0)) H1
theorem W36_wp (v0 : AV) (v1 : AV) (v2 : AV) (H : Heap) (K : AV → Heap → Prop) : wpC Try.prog tab D36 (bodyOf Try.f36) (retF tab [.tmp 6] K) (nthA [v0, v1, v2]) H = W36 v0 v1 v2 H K := by kernel_rfl
theorem W36_ok {v0 v1 v2 : AV} {H : Heap} {K : AV → Heap → Prop} (h : W36 v0 v1 v2 H K) : CallT Try.prog 36 [v0, v1, v2] H K :=
  CallT.of_wp (D := D36) tab_ok mixed Try.func36 (c := bodyOf Try.f36) (by kernel_rfl) rfl (by kernel_rfl) (rs := #[.tmp 6]) rfl (by decide +kernel) (by kernel_rfl) (W36_wp v0 v1 v2 H K) h
theorem W36_hb : HasBody Try.prog 36 := ⟨_, bodyOf Try.f36, Try.func36, by kernel_rfl, rfl⟩
theorem L36_0_rule {K : AV → Heap → Prop} {v2 v7 v12 v13 v14 : AV} {H : Heap} {σ : Type} (s0 : σ) (f7 : σ → AV) (f14 : σ → AV) (TH : σ → Heap) (pre : σ → Prop) (μ : σ → Nat)
    (h0 : pre s0 ∧ AV.wk v7 (f7 s0) ∧ AV.wk v14 (f14 s0) ∧ Heap.le (TH s0) H)
    (round : ∀ s, pre s → B36_0 K (fun w7 w14 H' => ∃ s', pre s' ∧ μ s' < μ s ∧ AV.wk w7 (f7 s') ∧ AV.wk w14 (f14 s') ∧ Heap.le (TH s') H') v2 (f7 s) v12 v13 (f14 s) (TH s)) :
    L36_0 K v2 v7 v12 v13 v14 H := by
  unfold L36_0
  exact LoopV.mk s0 (fun s => [f7 s, f14 s]) TH pre μ (fun _ => rfl) (Eq.mp (by kernel_rfl) h0) (fun s hs => Eq.mp (by kernel_rfl) (round s hs))
theorem L36_0_ruleG {K : AV → Heap → Prop} {v2 v7 v12 v13 v14 : AV} {H : Heap} {σ : Type} (s0 : σ) (f7 : σ → AV) (f14 : σ → AV) (TH : σ → Heap) (pre : σ → Prop) (μ : σ → Nat)
    (h0 : pre s0 ∧ AV.wk v7 (f7 s0) ∧ AV.wk v14 (f14 s0) ∧ Heap.le (TH s0) H)
    (round : ∀ s, pre s → ∀ q, TH s q = none → B36_0 K (fun w7 w14 H' => ∃ s', pre s' ∧ μ s' < μ s ∧ AV.wk w7 (f7 s') ∧ AV.wk w14 (f14 s') ∧ Heap.le (TH s') H') v2 (f7 s) v12 v13 (f14 s) ((TH s).set q [])) :
    L36_0 K v2 v7 v12 v13 v14 H := by
  unfold L36_0
  exact LoopV.mkG s0 (fun s => [f7 s, f14 s]) TH pre μ (fun _ => rfl) (Eq.mp (by kernel_rfl) h0) (fun s hs q hq => Eq.mp (by kernel_rfl) (round s hs q hq))
/-- loop.example/g00649/spec.l12Goal -/
def D37 : Info := ⟨18, fun i => ([], []), fun i => ([], [])⟩
def W37 (v0 : AV) (v1 : AV) (H : Heap) (K : AV → Heap → Prop) : Prop :=
 boxV v0 H fun v2 H1 =>
 fieldAddrV tab 30 v2 3 fun v6 =>
 loadV tab 24 v6 H1 fun v7 =>
 lenV tab 24 v7 fun v8 =>
 binV tab .lss 3 v1 v8 fun v9 =>
 condV v9 (fieldAddrV tab 30 v2 3 fun v10 =>
 loadV tab 24 v10 H1 fun v11 =>
 indexAddrV tab 24 v11 v1 fun v13 =>
 loadV tab 22 v13 H1 fun v14 =>
 K v14 H1)
 (fieldAddrV tab 30 v2 0 fun v15 =>
 loadV tab 3 v15 H1 fun v16 =>
 CallT Try.prog 58 [v16] H1 fun v17 H2 =>
 K v17 H2)
theorem W37_wp (v0 : AV) (v1 : AV) (H : Heap) (K : AV → Heap → Prop) : wpC Try.prog tab D37 (bodyOf Try.f37) (retF tab [.tmp 4] K) (nthA [v0, v1]) H = W37 v0 v1 H K := by kernel_rfl
theorem W37_ok {v0 v1 : AV} {H : Heap} {K : AV → Heap → Prop} (h : W37 v0 v1 H K) : CallT Try.prog 37 [v0, v1] H K :=
  CallT.of_wp (D := D37) tab_ok mixed Try.func37 (c := bodyOf Try.f37) (by kernel_rfl) rfl (by kernel_rfl) (rs := #[.tmp 4]) rfl (by decide +kernel) (by kernel_rfl) (W37_wp v0 v1 H K) h
theorem W37_hb : HasBody Try.prog 37 := ⟨_, bodyOf Try.f37, Try.func37, by kernel_rfl, rfl⟩
/-- loop.example/g00649/spec.l12Made -/
def D38 : Info := ⟨9, fun i => ([], []), fun i => ([], [])⟩
def W38 (v0 : AV) (H : Heap) (K : AV → Heap → Prop) : Prop :=
 boxV v0 H fun v1 H1 =>
 allocV tab 30 H1 fun v2 H2 =>
 loadV tab 30 v1 H2 fun v4 =>
 CallT Try.prog 35 [v4] H2 fun v5 H3 =>
 unV .not v5 fun v6 =>
 condV v6 (buildV tab 30 [] fun v7 =>
 storeV tab 30 v2 v7 H3 fun H4 =>
 loadV tab 30 v2 H4 fun r0 =>
 K (.tup [r0, (AV.p (.bool false))]) H4)
 (loadV tab 30 v1 H3 fun v8 =>
 storeV tab 30 v2 v8 H3 fun H5 =>
 loadV tab 30 v2 H5 fun r0 =>
 K (.tup [r0, (AV.p (.bool true))]) H5)
theorem W38_wp (v0 : AV) (H : Heap) (K : AV → Heap → Prop) : wpC Try.prog tab D38 (bodyOf Try.f38) (retF tab [.cell 2 30, .tmp 3] K) (nthA [v0]) H = W38 v0 H K := by kernel_rfl
theorem W38_ok {v0 : AV} {H : Heap} {K : AV → Heap → Prop} (h : W38 v0 H K) : CallT Try.prog 38 [v0] H K :=
  CallT.of_wp (D := D38) tab_ok mixed Try.func38 (c := bodyOf Try.f38) (by kernel_rfl) rfl (by kernel_rfl) (rs := #[.cell 2 30, .tmp 3]) rfl (by decide +kernel) (by kernel_rfl) (W38_wp v0 H K) h
theorem W38_hb : HasBody Try.prog 38 := ⟨_, bodyOf Try.f38, Try.func38, by kernel_rfl, rfl⟩
/-- loop.example/g00649/laws.toIntS -/
def D39 : Info := ⟨22, fun i => ([], []), fun i => if i = 3 then ([0, 3], [4]) else ([], [])⟩
def L39_0 (K : AV → Heap → Prop) (v0 : AV) (v3 : AV) (v4 : AV) (H : Heap) : Prop := LoopV (wpC Try.prog tab D39 (cAt [1, 1, 0, 1, 0, 0] (bodyOf Try.f39))) [0, 3] (PostF.block 0 (PostF.thenA (wpC Try.prog tab D39 (cAt [1, 1, 1] (bodyOf Try.f39))) (retF tab [.tmp 2] K))) [4] [v0, AV.any, AV.any, v3, v4, AV.any, AV.any, AV.any, AV.any, AV.any, AV.any, AV.any, AV.any, AV.any, AV.any, AV.any, AV.any, AV.any, AV.any, AV.any, AV.any, AV.any] H
def B39_0 (K : AV → Heap → Prop) (N1 : AV → Heap → Prop) (v0 : AV) (v3 : AV) (v4 : AV) (H : Heap) : Prop :=
 lenV tab 22 v0 fun v10 =>
 binV tab .lss 3 v4 v10 fun v11 =>
 condV v11 (indexAddrV tab 22 v0 v4 fun v18 =>
 loadV tab 3 v18 H fun v19 =>
 indexAddrV tab 22 v3 v4 fun v20 =>
 storeV tab 3 v20 v19 H fun H2 =>
 binV tab .add 3 v4 (AV.p (.int .i64 1)) fun v13 =>
 N1 v13 H2)
 (K v3 H)
def W39 (v0 : AV) (H : Heap) (K : AV → Heap → Prop) : Prop :=
 lenV tab 22 v0 fun v6 =>
 makeSliceV tab 22 v6 v6 H fun v7 H1 =>
 L39_0 K v0 v7 (AV.p (.int .i64 0)) H1
theorem W39_wp (v0 : AV) (H : Heap) (K : AV → Heap → Prop) : wpC Try.prog tab D39 (bodyOf Try.f39) (retF tab [.tmp 2] K) (nthA [v0]) H = W39 v0 H K := by kernel_rfl
theorem W39_ok {v0 : AV} {H : Heap} {K : AV → Heap → Prop} (h : W39 v0 H K) : CallT Try.prog 39 [v0] H K :=
  CallT.of_wp (D := D39) tab_ok mixed Try.func39 (c := bodyOf Try.f39) (by kernel_rfl) rfl (by kernel_rfl) (rs := #[.tmp 2]) rfl (by decide +kernel) (by kernel_rfl) (W39_wp v0 H K) h
theorem W39_hb : HasBody Try.prog 39 := ⟨_, bodyOf Try.f39, Try.func39, by kernel_rfl, rfl⟩
theorem L39_0_rule {K : AV → Heap → Prop} {v0 v3 v4 : AV} {H : Heap} {σ : Type} (s0 : σ) (f4 : σ → AV) (TH : σ → Heap) (pre : σ → Prop) (μ : σ → Nat)
    (h0 : pre s0 ∧ AV.wk v4 (f4 s0) ∧ Heap.le (TH s0) H)
    (round : ∀ s, pre s → B39_0 K (fun w4 H' => ∃ s', pre s' ∧ μ s' < μ s ∧ AV.wk w4 (f4 s') ∧ Heap.le (TH s') H') v0 v3 (f4 s) (TH s)) :
    L39_0 K v0 v3 v4 H := by
  unfold L39_0
  exact LoopV.mk s0 (fun s => [f4 s]) TH pre μ (fun _ => rfl) (Eq.mp (by kernel_rfl) h0) (fun s hs => Eq.mp (by kernel_rfl) (round s hs))
theorem L39_0_ruleG {K : AV → Heap → Prop} {v0 v3 v4 : AV} {H : Heap} {σ : Type} (s0 : σ) (f4 : σ → AV) (TH : σ → Heap) (pre : σ → Prop) (μ : σ → Nat)
    (h0 : pre s0 ∧ AV.wk v4 (f4 s0) ∧ Heap.le (TH s0) H)
    (round : ∀ s, pre s → ∀ q, TH s q = none → B39_0 K (fun w4 H' => ∃ s', pre s' ∧ μ s' < μ s ∧ AV.wk w4 (f4 s') ∧ Heap.le (TH s') H') v0 v3 (f4 s) ((TH s).set q [])) :
    L39_0 K v0 v3 v4 H := by
  unfold L39_0
  exact LoopV.mkG s0 (fun s => [f4 s]) TH pre μ (fun _ => rfl) (Eq.mp (by kernel_rfl) h0) (fun s hs q hq => Eq.mp (by kernel_rfl) (round s hs q hq))
/-- loop.example/g00649/laws.toEdgeS -/
def D40 : Info := ⟨23, fun i => ([], []), fun i => if i = 3 then ([0, 3], [4]) else ([], [])⟩
def L40_0 (K : AV → Heap → Prop) (v0 : AV) (v3 : AV) (v4 : AV) (H : Heap) : Prop := LoopV (wpC Try.prog tab D40 (cAt [1, 1, 0, 1, 0, 0] (bodyOf Try.f40))) [0, 3] (PostF.block 0 (PostF.thenA (wpC Try.prog tab D40 (cAt [1, 1, 1] (bodyOf Try.f40))) (retF tab [.tmp 2] K))) [4] [v0, AV.any, AV.any, v3, v4, AV.any, AV.any, AV.any, AV.any, AV.any, AV.any, AV.any, AV.any, AV.any, AV.any, AV.any, AV.any, AV.any, AV.any, AV.any, AV.any, AV.any, AV.any] H
def B40_0 (K : AV → Heap → Prop) (N1 : AV → Heap → Prop) (v0 : AV) (v3 : AV) (v4 : AV) (H : Heap) : Prop :=
 lenV tab 23 v0 fun v10 =>
 binV tab .lss 3 v4 v10 fun v11 =>
 condV v11 (indexAddrV tab 23 v0 v4 fun v18 =>
 loadV tab 90 v18 H fun v19 =>
 CallT Try.prog 80 [v19] H fun v20 H2 =>
 indexAddrV tab 28 v3 v4 fun v21 =>
 storeV tab 61 v21 v20 H2 fun H3 =>
 binV tab .add 3 v4 (AV.p (.int .i64 1)) fun v13 =>
 N1 v13 H3)
 (K v3 H)
def W40 (v0 : AV) (H : Heap) (K : AV → Heap → Prop) : Prop :=
 lenV tab 23 v0 fun v6 =>
 makeSliceV tab 28 v6 v6 H fun v7 H1 =>
 L40_0 K v0 v7 (AV.p (.int .i64 0)) H1
theorem W40_wp (v0 : AV) (H : Heap) (K : AV → Heap → Prop) : wpC Try.prog tab D40 (bodyOf Try.f40) (retF tab [.tmp 2] K) (nthA [v0]) H = W40 v0 H K := by kernel_rfl
theorem W40_ok {v0 : AV} {H : Heap} {K : AV → Heap → Prop} (h : W40 v0 H K) : CallT Try.prog 40 [v0] H K :=
  CallT.of_wp (D := D40) tab_ok mixed Try.func40 (c := bodyOf Try.f40) (by kernel_rfl) rfl (by kernel_rfl) (rs := #[.tmp 2]) rfl (by decide +kernel) (by kernel_rfl) (W40_wp v0 H K) h
theorem W40_hb : HasBody Try.prog 40 := ⟨_, bodyOf Try.f40, Try.func40, by kernel_rfl, rfl⟩
theorem L40_0_rule {K : AV → Heap → Prop} {v0 v3 v4 : AV} {H : Heap} {σ : Type} (s0 : σ) (f4 : σ → AV) (TH : σ → Heap) (pre : σ → Prop) (μ : σ → Nat)
    (h0 : pre s0 ∧ AV.wk v4 (f4 s0) ∧ Heap.le (TH s0) H)
    (round : ∀ s, pre s → B40_0 K (fun w4 H' => ∃ s', pre s' ∧ μ s' < μ s ∧ AV.wk w4 (f4 s') ∧ Heap.le (TH s') H') v0 v3 (f4 s) (TH s)) :
    L40_0 K v0 v3 v4 H := by
  unfold L40_0
  exact LoopV.mk s0 (fun s => [f4 s]) TH pre μ (fun _ => rfl) (Eq.mp (by kernel_rfl) h0) (fun s hs => Eq.mp (by kernel_rfl) (round s hs))
theorem L40_0_ruleG {K : AV → Heap → Prop} {v0 v3 v4 : AV} {H : Heap} {σ : Type} (s0 : σ) (f4 : σ → AV) (TH : σ → Heap) (pre : σ → Prop) (μ : σ → Nat)
    (h0 : pre s0 ∧ AV.wk v4 (f4 s0) ∧ Heap.le (TH s0) H)
    (round : ∀ s, pre s → ∀ q, TH s q = none → B40_0 K (fun w4 H' => ∃ s', pre s' ∧ μ s' < μ s ∧ AV.wk w4 (f4 s') ∧ Heap.le (TH s') H') v0 v3 (f4 s) ((TH s).set q [])) :
    L40_0 K v0 v3 v4 H := by
  unfold L40_0
  exact LoopV.mkG s0 (fun s => [f4 s]) TH pre μ (fun _ => rfl) (Eq.mp (by kernel_rfl) h0) (fun s hs q hq => Eq.mp (by kernel_rfl) (round s hs q hq))
/-- loop.example/g00649/laws.toIntSS -/
def D41 : Info := ⟨23, fun i => ([], []), fun i => if i = 3 then ([0, 3], [4]) else ([], [])⟩
def L41_0 (K : AV → Heap → Prop) (v0 : AV) (v3 : AV) (v4 : AV) (H : Heap) : Prop := LoopV (wpC Try.prog tab D41 (cAt [1, 1, 0, 1, 0, 0] (bodyOf Try.f41))) [0, 3] (PostF.block 0 (PostF.thenA (wpC Try.prog tab D41 (cAt [1, 1, 1] (bodyOf Try.f41))) (retF tab [.tmp 2] K))) [4] [v0, AV.any, AV.any, v3, v4, AV.any, AV.any, AV.any, AV.any, AV.any, AV.any, AV.any, AV.any, AV.any, AV.any, AV.any, AV.any, AV.any, AV.any, AV.any, AV.any, AV.any, AV.any] H
def B41_0 (K : AV → Heap → Prop) (N1 : AV → Heap → Prop) (v0 : AV) (v3 : AV) (v4 : AV) (H : Heap) : Prop :=
 lenV tab 24 v0 fun v10 =>
 binV tab .lss 3 v4 v10 fun v11 =>
 condV v11 (indexAddrV tab 24 v0 v4 fun v18 =>
 loadV tab 22 v18 H fun v19 =>
 CallT Try.prog 39 [v19] H fun v20 H2 =>
 indexAddrV tab 24 v3 v4 fun v21 =>
 storeV tab 22 v21 v20 H2 fun H3 =>
 binV tab .add 3 v4 (AV.p (.int .i64 1)) fun v13 =>
 N1 v13 H3)
 (K v3 H)
def W41 (v0 : AV) (H : Heap) (K : AV → Heap → Prop) : Prop :=
 lenV tab 24 v0 fun v6 =>
 makeSliceV tab 24 v6 v6 H fun v7 H1 =>
 L41_0 K v0 v7 (AV.p (.int .i64 0)) H1
theorem W41_wp (v0 : AV) (H : Heap) (K : AV → Heap → Prop) : wpC Try.prog tab D41 (bodyOf Try.f41) (retF tab [.tmp 2] K) (nthA [v0]) H = W41 v0 H K := by kernel_rfl
theorem W41_ok {v0 : AV} {H : Heap} {K : AV → Heap → Prop} (h : W41 v0 H K) : CallT Try.prog 41 [v0] H K :=
  CallT.of_wp (D := D41) tab_ok mixed Try.func41 (c := bodyOf Try.f41) (by kernel_rfl) rfl (by kernel_rfl) (rs := #[.tmp 2]) rfl (by decide +kernel) (by kernel_rfl) (W41_wp v0 H K) h
theorem W41_hb : HasBody Try.prog 41 := ⟨_, bodyOf Try.f41, Try.func41, by kernel_rfl, rfl⟩
theorem L41_0_rule {K : AV → Heap → Prop} {v0 v3 v4 : AV} {H : Heap} {σ : Type} (s0 : σ) (f4 : σ → AV) (TH : σ → Heap) (pre : σ → Prop) (μ : σ → Nat)
    (h0 : pre s0 ∧ AV.wk v4 (f4 s0) ∧ Heap.le (TH s0) H)
    (round : ∀ s, pre s → B41_0 K (fun w4 H' => ∃ s', pre s' ∧ μ s' < μ s ∧ AV.wk w4 (f4 s') ∧ Heap.le (TH s') H') v0 v3 (f4 s) (TH s)) :
    L41_0 K v0 v3 v4 H := by
  unfold L41_0
  exact LoopV.mk s0 (fun s => [f4 s]) TH pre μ (fun _ => rfl) (Eq.mp (by kernel_rfl) h0) (fun s hs => Eq.mp (by kernel_rfl) (round s hs))
theorem L41_0_ruleG {K : AV → Heap → Prop} {v0 v3 v4 : AV} {H : Heap} {σ : Type} (s0 : σ) (f4 : σ → AV) (TH : σ → Heap) (pre : σ → Prop) (μ : σ → Nat)
    (h0 : pre s0 ∧ AV.wk v4 (f4 s0) ∧ Heap.le (TH s0) H)
    (round : ∀ s, pre s → ∀ q, TH s q = none → B41_0 K (fun w4 H' => ∃ s', pre s' ∧ μ s' < μ s ∧ AV.wk w4 (f4 s') ∧ Heap.le (TH s') H') v0 v3 (f4 s) ((TH s).set q [])) :
    L41_0 K v0 v3 v4 H := by
  unfold L41_0
  exact LoopV.mkG s0 (fun s => [f4 s]) TH pre μ (fun _ => rfl) (Eq.mp (by kernel_rfl) h0) (fun s hs q hq => Eq.mp (by kernel_rfl) (round s hs q hq))
/-- loop.example/g00649/impl.GoodAuto -/
def D42 : Info := ⟨91, fun i => if i = 6 then ([[], [0], [0, 1], [0, 1, 2], [0, 1, 2, 3], [0, 1, 2, 3, 4], [0, 1, 2, 3], [0, 1, 2, 3, 6], [0, 1, 2, 3, 4, 5, 6, 7], [0, 1, 2, 3, 4, 5, 6, 7, 8], [0, 1, 2, 3, 4, 5, 6, 7, 8, 9], [0, 1, 2, 3, 4, 5, 6, 7, 8, 9, 10], [0, 1, 2, 3, 4, 5, 6, 7, 8, 9, 10, 11], [0, 1, 2, 3, 4, 5, 6, 7, 8, 9, 10, 11, 12], [0, 1, 2, 3, 4, 5, 6, 7, 8, 9, 10, 11, 12, 13], [0, 1, 2, 3, 4, 5, 6, 7, 8, 9, 10, 11, 12, 13, 14], [0, 1, 2, 3, 4, 5, 6, 7, 8, 9, 10, 11, 12, 13, 14, 15], [0, 1, 2, 3, 4, 5, 6, 7, 8, 9, 10, 11, 12, 13, 14, 15, 16], [0, 1, 2, 3, 4, 5, 6, 7, 8, 9, 10, 11, 12, 13, 14, 15], [0, 1, 2, 3, 4, 5, 6, 7, 8, 9, 10, 11, 12, 13, 14, 15, 18], [0, 1, 2, 3, 4, 5, 6, 7, 8, 9, 10, 11, 12, 13, 14, 15, 16, 17, 18, 19], [0, 1, 2, 3, 4, 5, 6, 7, 8, 9, 10, 11, 12, 13, 14, 15, 16, 17, 18, 19, 20], [0, 1, 2, 3, 4, 5, 6, 7, 8, 9, 10, 11, 12, 13, 14, 15, 16, 17, 18, 19, 20, 21], [0, 1, 2, 3, 4, 5, 6, 7, 8, 9, 10, 11, 12, 13, 14, 15, 16, 17, 18, 19, 20, 21, 22], [0, 1, 2, 3, 4, 5, 6, 7, 8, 9, 10, 11, 12, 13, 14, 15, 16, 17, 18, 19, 20, 21, 22, 23], [0, 1, 2, 3, 4, 5, 6, 7, 8, 9, 10, 11, 12, 13, 14, 15, 16, 17, 18, 19, 20, 21, 22, 23, 24], [0, 1, 2, 3, 4, 5, 6, 7, 8, 9, 10, 11, 12, 13, 14, 15, 16, 17, 18, 19, 20, 21, 22, 23, 24, 25], [0, 1, 2, 3, 4, 5, 6, 7, 8, 9, 10, 11, 12, 13, 14, 15, 16, 17, 18, 19, 20, 21, 22, 23, 24, 25, 26], [0, 1, 2, 3, 4, 5, 6, 7, 8, 9, 10, 11, 12, 13, 14, 15, 16, 17, 18, 19, 20, 21, 22, 23, 24, 25, 26, 27], [0, 1, 2, 3, 4, 5, 6, 7, 8, 9, 10, 11, 12, 13, 14, 15, 16, 17, 18, 19, 20, 21, 22, 23, 24, 25, 26, 27, 28], [0, 1, 2, 3, 4, 5, 6, 7, 8, 9, 10, 11, 12, 13, 14, 15, 16, 17, 18, 19, 20, 21, 22, 23, 24, 25, 26, 27, 28, 29], [0, 1, 2, 3, 4, 5, 6, 7, 8, 9, 10, 11, 12, 13, 14, 15, 16, 17, 18, 19, 20, 21, 22, 23, 24, 25, 26, 27, 28, 29, 30], [0, 1, 2, 3, 4, 5, 6, 7, 8, 9, 10, 11, 12, 13, 14, 15, 16, 17, 18, 19, 20, 21, 22, 23, 24, 25, 26, 27, 28, 29, 30, 31], [0, 1, 2, 3, 4, 5, 6, 7, 8, 9, 10, 11, 12, 13, 14, 15, 16, 17, 18, 19, 20, 21, 22, 23, 24, 25, 26, 27, 28, 29, 30, 31, 32], [0, 1, 2, 3, 4, 5, 6, 7, 8, 9, 10, 11, 12, 13, 14, 15, 16, 17, 18, 19, 20, 21, 22, 23, 24, 25, 26, 27, 28, 29, 30, 31, 32, 33], [0, 1, 2, 3, 4, 5, 6, 7, 8, 9, 10, 11, 12, 13, 14, 15, 16, 17, 18, 19, 20, 21, 22, 23, 24, 25, 26, 27, 28, 29, 30, 31, 32, 33, 34], [0, 1, 2, 3, 4, 5, 6, 7, 8, 9, 10, 11, 12, 13, 14, 15, 16, 17, 18, 19, 20, 21, 22, 23, 24, 25, 26, 27, 28, 29, 30, 31, 32, 33, 34, 35], [0, 1, 2, 3, 4, 5, 6, 7, 8, 9, 10, 11, 12, 13, 14, 15, 16, 17, 18, 19, 20, 21, 22, 23, 24, 25, 26, 27, 28, 29, 30, 31, 32, 33, 34, 35, 36], [0, 1, 2, 3, 4, 5, 6, 7, 8, 9, 10, 11, 12, 13, 14, 15, 16, 17, 18, 19, 20, 21, 22, 23, 24, 25, 26, 27, 28, 29, 30, 31, 32, 33, 34, 35], [0, 1, 2, 3, 4, 5, 6, 7, 8, 9, 10, 11, 12, 13, 14, 15, 16, 17, 18, 19, 20, 21, 22, 23, 24, 25, 26, 27, 28, 29, 30, 31, 32, 33, 34, 35, 38], [0, 1, 2, 3, 4, 5, 6, 7, 8, 9, 10, 11, 12, 13, 14, 15, 16, 17, 18, 19, 20, 21, 22, 23, 24, 25, 26, 27, 28, 29, 30, 31, 32, 33, 34, 35, 36, 37, 38, 39], [0, 1, 2, 3, 4, 5, 6, 7, 8, 9, 10, 11, 12, 13, 14, 15, 16, 17, 18, 19, 20, 21, 22, 23, 24, 25, 26, 27, 28, 29, 30, 31, 32, 33, 34, 35, 36, 37, 38, 39, 40], [0, 1, 2, 3, 4, 5, 6, 7, 8, 9, 10, 11, 12, 13, 14, 15, 16, 17, 18, 19, 20, 21, 22, 23, 24, 25, 26, 27, 28, 29, 30, 31, 32, 33, 34, 35], [0, 1, 2, 3, 4, 5, 6, 7, 8, 9, 10, 11, 12, 13, 14, 15, 16, 17, 18, 19, 20, 21, 22, 23, 24, 25, 26, 27, 28, 29, 30, 31, 32, 33, 34, 35, 36, 37, 38, 39, 40, 41, 42], [0, 1, 2, 3, 4, 5, 6, 7, 8, 9, 10, 11, 12, 13, 14, 15, 16, 17, 18, 19, 20, 21, 22, 23, 24, 25, 26, 27, 28, 29, 30, 31, 32, 33, 34, 35, 36, 37, 38, 39, 40, 41, 42, 43], [0, 1, 2, 3, 4, 5, 6, 7, 8, 9, 10, 11, 12, 13, 14, 15, 16, 17, 18, 19, 20, 21, 22, 23, 24, 25, 26, 27, 28, 29, 30, 31, 32, 33, 34, 35, 36, 37, 38, 39, 40, 41, 42, 43, 44], [0, 1, 2, 3, 4, 5, 6, 7, 8, 9, 10, 11, 12, 13, 14, 15, 16, 17, 18, 19, 20, 21, 22, 23, 24, 25, 26, 27, 28, 29, 30, 31, 32, 33, 34, 35, 36, 37, 38, 39, 40, 41, 42, 43, 44, 45]], [(0, []), (1, []), (2, []), (3, []), (4, []), (5, []), (6, []), (7, []), (8, []), (9, []), (10, []), (11, []), (12, []), (13, []), (14, []), (15, []), (16, []), (17, []), (18, []), (19, []), (20, []), (21, []), (22, []), (23, []), (24, []), (25, []), (26, []), (27, []), (28, []), (29, []), (30, []), (31, []), (32, []), (33, []), (34, []), (35, []), (36, []), (37, []), (38, []), (39, []), (40, []), (41, []), (42, []), (43, []), (44, []), (45, []), (46, [])]) else ([], []), fun i => if i = 4 then ([1, 36, 37], [38]) else ([], [])⟩
def L42_0 (K : AV → Heap → Prop) (v1 : AV) (v36 : AV) (v37 : AV) (v38 : AV) (H : Heap) : Prop := LoopV (wpC Try.prog tab D42 (cAt [1, 1, 0, 1, 0, 0] (bodyOf Try.f42))) [1, 36, 37] (PostF.block 0 (PostF.thenA (wpC Try.prog tab D42 (cAt [1, 1, 1] (bodyOf Try.f42))) (retF tab [.tmp 2] K))) [38] [AV.any, v1, AV.any, AV.any, AV.any, AV.any, AV.any, AV.any, AV.any, AV.any, AV.any, AV.any, AV.any, AV.any, AV.any, AV.any, AV.any, AV.any, AV.any, AV.any, AV.any, AV.any, AV.any, AV.any, AV.any, AV.any, AV.any, AV.any, AV.any, AV.any, AV.any, AV.any, AV.any, AV.any, AV.any, AV.any, v36, v37, v38, AV.any, AV.any, AV.any, AV.any, AV.any, AV.any, AV.any, AV.any, AV.any, AV.any, AV.any, AV.any, AV.any, AV.any, AV.any, AV.any, AV.any, AV.any, AV.any, AV.any, AV.any, AV.any, AV.any, AV.any, AV.any, AV.any, AV.any, AV.any, AV.any, AV.any, AV.any, AV.any, AV.any, AV.any, AV.any, AV.any, AV.any, AV.any, AV.any, AV.any, AV.any, AV.any, AV.any, AV.any, AV.any, AV.any, AV.any, AV.any, AV.any, AV.any, AV.any, AV.any] H
def B42_0 (K : AV → Heap → Prop) (N1 : AV → Heap → Prop) (v1 : AV) (v36 : AV) (v37 : AV) (v38 : AV) (H : Heap) : Prop :=
 binV tab .lss 3 v38 v37 fun v39 =>
 condV v39 (indexAddrV tab 28 v36 v38 fun v41 =>
 loadV tab 61 v41 H fun v42 =>
 allocV tab 61 H fun v4 H4 =>
 storeV tab 61 v4 v42 H4 fun H5 =>
 fieldAddrV tab 61 v4 0 fun v43 =>
 loadV tab 3 v43 H5 fun v44 =>
 binV tab .lss 3 v44 (AV.p (.int .i64 0)) fun v45 =>
 grdV v45 false (fieldAddrV tab 61 v4 0 fun v47 =>
 loadV tab 3 v47 H5 fun v48 =>
 fieldAddrV tab 30 v1 0 fun v49 =>
 loadV tab 3 v49 H5 fun v50 =>
 binV tab .geq 3 v48 v50 fun v51 =>
 grdV v51 false (fieldAddrV tab 61 v4 2 fun v54 =>
 loadV tab 3 v54 H5 fun v55 =>
 binV tab .lss 3 v55 (AV.p (.int .i64 0)) fun v56 =>
 grdV v56 false (fieldAddrV tab 61 v4 2 fun v59 =>
 loadV tab 3 v59 H5 fun v60 =>
 fieldAddrV tab 30 v1 0 fun v61 =>
 loadV tab 3 v61 H5 fun v62 =>
 binV tab .geq 3 v60 v62 fun v63 =>
 grdV v63 false (fieldAddrV tab 61 v4 1 fun v66 =>
 loadV tab 3 v66 H5 fun v67 =>
 binV tab .lss 3 v67 (AV.p (.int .i64 0)) fun v68 =>
 grdV v68 false (fieldAddrV tab 61 v4 1 fun v71 =>
 loadV tab 3 v71 H5 fun v72 =>
 binV tab .geq 3 v72 (AV.p (.int .i64 8)) fun v73 =>
 grdV v73 false (binV tab .gtr 3 v38 (AV.p (.int .i64 0)) fun v77 =>
 grdV v77 true (fieldAddrV tab 30 v1 2 fun v79 =>
 loadV tab 28 v79 H5 fun v80 =>
 binV tab .sub 3 v38 (AV.p (.int .i64 1)) fun v82 =>
 indexAddrV tab 28 v80 v82 fun v83 =>
 loadV tab 61 v83 H5 fun v84 =>
 loadV tab 61 v4 H5 fun v85 =>
 CallT Try.prog 83 [v84, v85] H5 fun v86 H6 =>
 binV tab .geq 3 v86 (AV.p (.int .i64 0)) fun v87 =>
 condV v87 (K (AV.p (.bool false)) H6)
 (binV tab .add 3 v38 (AV.p (.int .i64 1)) fun v90 =>
 N1 v90 H6))
 (binV tab .add 3 v38 (AV.p (.int .i64 1)) fun v90 =>
 N1 v90 H5))
 (K (AV.p (.bool false)) H5))
 (K (AV.p (.bool false)) H5))
 (K (AV.p (.bool false)) H5))
 (K (AV.p (.bool false)) H5))
 (K (AV.p (.bool false)) H5))
 (K (AV.p (.bool false)) H5))
 (K (AV.p (.bool true)) H)
def W42 (v0 : AV) (H : Heap) (K : AV → Heap → Prop) : Prop :=
 boxV v0 H fun v1 H1 =>
 fieldAddrV tab 30 v1 0 fun v5 =>
 loadV tab 3 v5 H1 fun v6 =>
 binV tab .lss 3 v6 (AV.p (.int .i64 1)) fun v7 =>
 grdV v7 false (fieldAddrV tab 30 v1 0 fun v9 =>
 loadV tab 3 v9 H1 fun v10 =>
 binV tab .gtr 3 v10 (AV.p (.int .i64 96)) fun v11 =>
 grdV v11 false (fieldAddrV tab 30 v1 1 fun v14 =>
 loadV tab 22 v14 H1 fun v15 =>
 fieldAddrV tab 30 v1 0 fun v16 =>
 loadV tab 3 v16 H1 fun v17 =>
 CallT Try.prog 81 [v15, v17] H1 fun v18 H2 =>
 unV .not v18 fun v19 =>
 grdV v19 false (fieldAddrV tab 30 v1 2 fun v22 =>
 loadV tab 28 v22 H2 fun v23 =>
 lenV tab 28 v23 fun v24 =>
 binV tab .gtr 3 v24 (AV.p (.int .i64 2400)) fun v25 =>
 grdV v25 false (fieldAddrV tab 30 v1 3 fun v28 =>
 loadV tab 24 v28 H2 fun v29 =>
 fieldAddrV tab 30 v1 0 fun v30 =>
 loadV tab 3 v30 H2 fun v31 =>
 CallT Try.prog 82 [v29, v31] H2 fun v32 H3 =>
 unV .not v32 fun v33 =>
 condV v33 (K (AV.p (.bool false)) H3)
 (fieldAddrV tab 30 v1 2 fun v35 =>
 loadV tab 28 v35 H3 fun v36 =>
 lenV tab 28 v36 fun v37 =>
 L42_0 K v1 v36 v37 (AV.p (.int .i64 0)) H3))
 (K (AV.p (.bool false)) H2))
 (K (AV.p (.bool false)) H2))
 (K (AV.p (.bool false)) H1))
 (K (AV.p (.bool false)) H1)
theorem W42_wp (v0 : AV) (H : Heap) (K : AV → Heap → Prop) : wpC Try.prog tab D42 (bodyOf Try.f42) (retF tab [.tmp 2] K) (nthA [v0]) H = W42 v0 H K := by kernel_rfl
theorem W42_ok {v0 : AV} {H : Heap} {K : AV → Heap → Prop} (h : W42 v0 H K) : CallT Try.prog 42 [v0] H K :=
  CallT.of_wp (D := D42) tab_ok mixed Try.func42 (c := bodyOf Try.f42) (by kernel_rfl) rfl (by kernel_rfl) (rs := #[.tmp 2]) rfl (by decide +kernel) (by kernel_rfl) (W42_wp v0 H K) h
theorem W42_hb : HasBody Try.prog 42 := ⟨_, bodyOf Try.f42, Try.func42, by kernel_rfl, rfl⟩
theorem L42_0_rule {K : AV → Heap → Prop} {v1 v36 v37 v38 : AV} {H : Heap} {σ : Type} (s0 : σ) (f38 : σ → AV) (TH : σ → Heap) (pre : σ → Prop) (μ : σ → Nat)
    (h0 : pre s0 ∧ AV.wk v38 (f38 s0) ∧ Heap.le (TH s0) H)
    (round : ∀ s, pre s → B42_0 K (fun w38 H' => ∃ s', pre s' ∧ μ s' < μ s ∧ AV.wk w38 (f38 s') ∧ Heap.le (TH s') H') v1 v36 v37 (f38 s) (TH s)) :
    L42_0 K v1 v36 v37 v38 H := by
  unfold L42_0
  exact LoopV.mk s0 (fun s => [f38 s]) TH pre μ (fun _ => rfl) (Eq.mp (by kernel_rfl) h0) (fun s hs => Eq.mp (by kernel_rfl) (round s hs))
theorem L42_0_ruleG {K : AV → Heap → Prop} {v1 v36 v37 v38 : AV} {H : Heap} {σ : Type} (s0 : σ) (f38 : σ → AV) (TH : σ → Heap) (pre : σ → Prop) (μ : σ → Nat)
    (h0 : pre s0 ∧ AV.wk v38 (f38 s0) ∧ Heap.le (TH s0) H)
    (round : ∀ s, pre s → ∀ q, TH s q = none → B42_0 K (fun w38 H' => ∃ s', pre s' ∧ μ s' < μ s ∧ AV.wk w38 (f38 s') ∧ Heap.le (TH s') H') v1 v36 v37 (f38 s) ((TH s).set q [])) :
    L42_0 K v1 v36 v37 v38 H := by
  unfold L42_0
  exact LoopV.mkG s0 (fun s => [f38 s]) TH pre μ (fun _ => rfl) (Eq.mp (by kernel_rfl) h0) (fun s hs q hq => Eq.mp (by kernel_rfl) (round s hs q hq))
/-- slices.Concat[[]int,int] -/
def D43 : Info := ⟨36, fun i => ([], []), fun i => if i = 3 then ([0, 9, 10], [3, 11]) else if i = 11 then ([25, 26], [6, 27]) else ([], [])⟩
def L43_0 (K : AV → Heap → Prop) (v0 : AV) (v3 : AV) (v9 : AV) (v10 : AV) (v11 : AV) (H : Heap) : Prop := LoopV (wpC Try.prog tab D43 (cAt [1, 1, 0, 1, 0, 0] (bodyOf Try.f43))) [0, 9, 10] (PostF.block 0 (PostF.thenA (wpC Try.prog tab D43 (cAt [1, 1, 1] (bodyOf Try.f43))) (retF tab [.tmp 2] K))) [3, 11] [v0, AV.any, AV.any, v3, AV.any, AV.any, AV.any, AV.any, AV.any, v9, v10, v11, AV.any, AV.any, AV.any, AV.any, AV.any, AV.any, AV.any, AV.any, AV.any, AV.any, AV.any, AV.any, AV.any, AV.any, AV.any, AV.any, AV.any, AV.any, AV.any, AV.any, AV.any, AV.any, AV.any, AV.any] H
def L43_1 (K : AV → Heap → Prop) (v6 : AV) (v25 : AV) (v26 : AV) (v27 : AV) (H : Heap) : Prop := LoopV (wpC Try.prog tab D43 (cAt [1, 1, 1, 1, 0, 1, 0, 0] (bodyOf Try.f43))) [25, 26] (PostF.block 2 (PostF.thenA (wpC Try.prog tab D43 (cAt [1, 1, 1, 1, 1] (bodyOf Try.f43))) (retF tab [.tmp 2] K))) [6, 27] [AV.any, AV.any, AV.any, AV.any, AV.any, AV.any, v6, AV.any, AV.any, AV.any, AV.any, AV.any, AV.any, AV.any, AV.any, AV.any, AV.any, AV.any, AV.any, AV.any, AV.any, AV.any, AV.any, AV.any, AV.any, v25, v26, v27, AV.any, AV.any, AV.any, AV.any, AV.any, AV.any, AV.any, AV.any] H
def B43_1 (K : AV → Heap → Prop) (N1 : AV → AV → Heap → Prop) (v6 : AV) (v25 : AV) (v26 : AV) (v27 : AV) (H : Heap) : Prop :=
 binV tab .lss 3 v27 v26 fun v28 =>
 condV v28 (indexAddrV tab 24 v25 v27 fun v29 =>
 loadV tab 22 v29 H fun v30 =>
 appendV tab 22 22 v6 v30 H (wkK fun v33 H2 =>
 binV tab .add 3 v27 (AV.p (.int .i64 1)) fun v34 =>
 N1 v33 v34 H2))
 (K v6 H)
def B43_0 (K : AV → Heap → Prop) (N1 : AV → AV → Heap → Prop) (v0 : AV) (v3 : AV) (v9 : AV) (v10 : AV) (v11 : AV) (H : Heap) : Prop :=
 binV tab .lss 3 v11 v10 fun v12 =>
 condV v12 (indexAddrV tab 24 v9 v11 fun v13 =>
 loadV tab 22 v13 H fun v14 =>
 lenV tab 22 v14 fun v17 =>
 binV tab .add 3 v3 v17 fun v18 =>
 binV tab .lss 3 v18 (AV.p (.int .i64 0)) fun v20 =>
 condV v20 (False)
 (binV tab .add 3 v11 (AV.p (.int .i64 1)) fun v22 =>
 N1 v18 v22 H))
 (CallT Try.prog 84 [(AV.p .nil), v3] H fun v24 H1 =>
 lenV tab 24 v0 fun v26 =>
 L43_1 K v24 v0 v26 (AV.p (.int .i64 0)) H1)
def W43 (v0 : AV) (H : Heap) (K : AV → Heap → Prop) : Prop :=
 lenV tab 24 v0 fun v10 =>
 L43_0 K v0 (AV.p (.int .i64 0)) v0 v10 (AV.p (.int .i64 0)) H
theorem W43_wp (v0 : AV) (H : Heap) (K : AV → Heap → Prop) : wpC Try.prog tab D43 (bodyOf Try.f43) (retF tab [.tmp 2] K) (nthA [v0]) H = W43 v0 H K := by kernel_rfl
theorem W43_ok {v0 : AV} {H : Heap} {K : AV → Heap → Prop} (h : W43 v0 H K) : CallT Try.prog 43 [v0] H K :=
  CallT.of_wp (D := D43) tab_ok mixed Try.func43 (c := bodyOf Try.f43) (by kernel_rfl) rfl (by kernel_rfl) (rs := #[.tmp 2]) rfl (by decide +kernel) (by kernel_rfl) (W43_wp v0 H K) h
theorem W43_hb : HasBody Try.prog 43 := ⟨_, bodyOf Try.f43, Try.func43, by kernel_rfl, rfl⟩
theorem L43_1_rule {K : AV → Heap → Prop} {v6 v25 v26 v27 : AV} {H : Heap} {σ : Type} (s0 : σ) (f6 : σ → AV) (f27 : σ → AV) (TH : σ → Heap) (pre : σ → Prop) (μ : σ → Nat)
    (h0 : pre s0 ∧ AV.wk v6 (f6 s0) ∧ AV.wk v27 (f27 s0) ∧ Heap.le (TH s0) H)
    (round : ∀ s, pre s → B43_1 K (fun w6 w27 H' => ∃ s', pre s' ∧ μ s' < μ s ∧ AV.wk w6 (f6 s') ∧ AV.wk w27 (f27 s') ∧ Heap.le (TH s') H') (f6 s) v25 v26 (f27 s) (TH s)) :
    L43_1 K v6 v25 v26 v27 H := by
  unfold L43_1
  exact LoopV.mk s0 (fun s => [f6 s, f27 s]) TH pre μ (fun _ => rfl) (Eq.mp (by kernel_rfl) h0) (fun s hs => Eq.mp (by kernel_rfl) (round s hs))
theorem L43_1_ruleG {K : AV → Heap → Prop} {v6 v25 v26 v27 : AV} {H : Heap} {σ : Type} (s0 : σ) (f6 : σ → AV) (f27 : σ → AV) (TH : σ → Heap) (pre : σ → Prop) (μ : σ → Nat)
    (h0 : pre s0 ∧ AV.wk v6 (f6 s0) ∧ AV.wk v27 (f27 s0) ∧ Heap.le (TH s0) H)
    (round : ∀ s, pre s → ∀ q, TH s q = none → B43_1 K (fun w6 w27 H' => ∃ s', pre s' ∧ μ s' < μ s ∧ AV.wk w6 (f6 s') ∧ AV.wk w27 (f27 s') ∧ Heap.le (TH s') H') (f6 s) v25 v26 (f27 s) ((TH s).set q [])) :
    L43_1 K v6 v25 v26 v27 H := by
  unfold L43_1
  exact LoopV.mkG s0 (fun s => [f6 s, f27 s]) TH pre μ (fun _ => rfl) (Eq.mp (by kernel_rfl) h0) (fun s hs q hq => Eq.mp (by kernel_rfl) (round s hs q hq))
theorem L43_0_rule {K : AV → Heap → Prop} {v0 v3 v9 v10 v11 : AV} {H : Heap} {σ : Type} (s0 : σ) (f3 : σ → AV) (f11 : σ → AV) (TH : σ → Heap) (pre : σ → Prop) (μ : σ → Nat)
    (h0 : pre s0 ∧ AV.wk v3 (f3 s0) ∧ AV.wk v11 (f11 s0) ∧ Heap.le (TH s0) H)
    (round : ∀ s, pre s → B43_0 K (fun w3 w11 H' => ∃ s', pre s' ∧ μ s' < μ s ∧ AV.wk w3 (f3 s') ∧ AV.wk w11 (f11 s') ∧ Heap.le (TH s') H') v0 (f3 s) v9 v10 (f11 s) (TH s)) :
    L43_0 K v0 v3 v9 v10 v11 H := by
  unfold L43_0
  exact LoopV.mk s0 (fun s => [f3 s, f11 s]) TH pre μ (fun _ => rfl) (Eq.mp (by kernel_rfl) h0) (fun s hs => Eq.mp (by kernel_rfl) (round s hs))
theorem L43_0_ruleG {K : AV → Heap → Prop} {v0 v3 v9 v10 v11 : AV} {H : Heap} {σ : Type} (s0 : σ) (f3 : σ → AV) (f11 : σ → AV) (TH : σ → Heap) (pre : σ → Prop) (μ : σ → Nat)
    (h0 : pre s0 ∧ AV.wk v3 (f3 s0) ∧ AV.wk v11 (f11 s0) ∧ Heap.le (TH s0) H)
    (round : ∀ s, pre s → ∀ q, TH s q = none → B43_0 K (fun w3 w11 H' => ∃ s', pre s' ∧ μ s' < μ s ∧ AV.wk w3 (f3 s') ∧ AV.wk w11 (f11 s') ∧ Heap.le (TH s') H') v0 (f3 s) v9 v10 (f11 s) ((TH s).set q [])) :
    L43_0 K v0 v3 v9 v10 v11 H := by
  unfold L43_0
  exact LoopV.mkG s0 (fun s => [f3 s, f11 s]) TH pre μ (fun _ => rfl) (Eq.mp (by kernel_rfl) h0) (fun s hs q hq => Eq.mp (by kernel_rfl) (round s hs q hq))
/-- loop.example/g00649/impl.moved -/
def D44 : Info := ⟨23, fun i => ([], []), fun i => if i = 3 then ([1, 9, 10], [5, 11]) else ([], [])⟩
def L44_0 (K : AV → Heap → Prop) (v1 : AV) (v5 : AV) (v9 : AV) (v10 : AV) (v11 : AV) (H : Heap) : Prop := LoopV (wpC Try.prog tab D44 (cAt [1, 1, 0, 1, 0, 0] (bodyOf Try.f44))) [1, 9, 10] (PostF.block 0 (PostF.thenA (wpC Try.prog tab D44 (cAt [1, 1, 1] (bodyOf Try.f44))) (retF tab [.tmp 4] K))) [5, 11] [AV.any, v1, AV.any, AV.any, AV.any, v5, AV.any, AV.any, AV.any, v9, v10, v11, AV.any, AV.any, AV.any, AV.any, AV.any, AV.any, AV.any, AV.any, AV.any, AV.any, AV.any] H
def B44_0 (K : AV → Heap → Prop) (N1 : AV → AV → Heap → Prop) (v1 : AV) (v5 : AV) (v9 : AV) (v10 : AV) (v11 : AV) (H : Heap) : Prop :=
 binV tab .lss 3 v11 v10 fun v12 =>
 condV v12 (indexAddrV tab 22 v9 v11 fun v13 =>
 loadV tab 3 v13 H fun v14 =>
 binV tab .add 3 v14 v1 fun v18 =>
 buildSliceV tab 22 1 [(0, v18)] H (wkK fun v19 H2 =>
 appendV tab 22 22 v5 v19 H2 (wkK fun v20 H3 =>
 binV tab .add 3 v11 (AV.p (.int .i64 1)) fun v21 =>
 N1 v20 v21 H3)))
 (K v5 H)
def W44 (v0 : AV) (v1 : AV) (H : Heap) (K : AV → Heap → Prop) : Prop :=
 buildSliceV tab 22 0 [] H (wkK fun v8 H1 =>
 lenV tab 22 v0 fun v10 =>
 L44_0 K v1 v8 v0 v10 (AV.p (.int .i64 0)) H1)
theorem W44_wp (v0 : AV) (v1 : AV) (H : Heap) (K : AV → Heap → Prop) : wpC Try.prog tab D44 (bodyOf Try.f44) (retF tab [.tmp 4] K) (nthA [v0, v1]) H = W44 v0 v1 H K := by kernel_rfl
theorem W44_ok {v0 v1 : AV} {H : Heap} {K : AV → Heap → Prop} (h : W44 v0 v1 H K) : CallT Try.prog 44 [v0, v1] H K :=
  CallT.of_wp (D := D44) tab_ok mixed Try.func44 (c := bodyOf Try.f44) (by kernel_rfl) rfl (by kernel_rfl) (rs := #[.tmp 4]) rfl (by decide +kernel) (by kernel_rfl) (W44_wp v0 v1 H K) h
theorem W44_hb : HasBody Try.prog 44 := ⟨_, bodyOf Try.f44, Try.func44, by kernel_rfl, rfl⟩
theorem L44_0_rule {K : AV → Heap → Prop} {v1 v5 v9 v10 v11 : AV} {H : Heap} {σ : Type} (s0 : σ) (f5 : σ → AV) (f11 : σ → AV) (TH : σ → Heap) (pre : σ → Prop) (μ : σ → Nat)
    (h0 : pre s0 ∧ AV.wk v5 (f5 s0) ∧ AV.wk v11 (f11 s0) ∧ Heap.le (TH s0) H)
    (round : ∀ s, pre s → B44_0 K (fun w5 w11 H' => ∃ s', pre s' ∧ μ s' < μ s ∧ AV.wk w5 (f5 s') ∧ AV.wk w11 (f11 s') ∧ Heap.le (TH s') H') v1 (f5 s) v9 v10 (f11 s) (TH s)) :
    L44_0 K v1 v5 v9 v10 v11 H := by
  unfold L44_0
  exact LoopV.mk s0 (fun s => [f5 s, f11 s]) TH pre μ (fun _ => rfl) (Eq.mp (by kernel_rfl) h0) (fun s hs => Eq.mp (by kernel_rfl) (round s hs))
theorem L44_0_ruleG {K : AV → Heap → Prop} {v1 v5 v9 v10 v11 : AV} {H : Heap} {σ : Type} (s0 : σ) (f5 : σ → AV) (f11 : σ → AV) (TH : σ → Heap) (pre : σ → Prop) (μ : σ → Nat)
    (h0 : pre s0 ∧ AV.wk v5 (f5 s0) ∧ AV.wk v11 (f11 s0) ∧ Heap.le (TH s0) H)
    (round : ∀ s, pre s → ∀ q, TH s q = none → B44_0 K (fun w5 w11 H' => ∃ s', pre s' ∧ μ s' < μ s ∧ AV.wk w5 (f5 s') ∧ AV.wk w11 (f11 s') ∧ Heap.le (TH s') H') v1 (f5 s) v9 v10 (f11 s) ((TH s).set q [])) :
    L44_0 K v1 v5 v9 v10 v11 H := by
  unfold L44_0
  exact LoopV.mkG s0 (fun s => [f5 s, f11 s]) TH pre μ (fun _ => rfl) (Eq.mp (by kernel_rfl) h0) (fun s hs q hq => Eq.mp (by kernel_rfl) (round s hs q hq))
/-- slices.Clone[[]loop.example/g00649/impl.Edge,loop.example/g00649/impl.Edge] -/
def D45 : Info := ⟨8, fun i => ([], []), fun i => ([], [])⟩
def W45 (v0 : AV) (H : Heap) (K : AV → Heap → Prop) : Prop :=
 binV tab .eql 28 v0 (AV.p .nil) fun v4 =>
 condV v4 (K (AV.p .nil) H)
 (buildSliceV tab 28 0 [] H (wkK fun v5 H1 =>
 appendV tab 28 28 v5 v0 H1 (wkK fun v7 H2 =>
 K v7 H2)))
theorem W45_wp (v0 : AV) (H : Heap) (K : AV → Heap → Prop) : wpC Try.prog tab D45 (bodyOf Try.f45) (retF tab [.tmp 2] K) (nthA [v0]) H = W45 v0 H K := by kernel_rfl
theorem W45_ok {v0 : AV} {H : Heap} {K : AV → Heap → Prop} (h : W45 v0 H K) : CallT Try.prog 45 [v0] H K :=
  CallT.of_wp (D := D45) tab_ok mixed Try.func45 (c := bodyOf Try.f45) (by kernel_rfl) rfl (by kernel_rfl) (rs := #[.tmp 2]) rfl (by decide +kernel) (by kernel_rfl) (W45_wp v0 H K) h
theorem W45_hb : HasBody Try.prog 45 := ⟨_, bodyOf Try.f45, Try.func45, by kernel_rfl, rfl⟩
end Go.Proofs.Ytfbaijpanbjmpaa
