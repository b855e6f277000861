/- Texts laid together: W1 W2. -/
import Derived.Test.YtdnfiacjoghfkaaGreatPkb3
import Derived.KernelRfl
set_option linter.unusedVariables false
set_option linter.unusedSimpArgs false
/- What each function's code is asked for, as a formula. Written by wgen.py (a program of this session's) out of Lean's print of the program. -/
namespace Go.Proofs.YtdnfiacjoghfkaaGreat
open Go Go.Sep
set_option linter.unusedVariables false
attribute [local irreducible] wpC headF
/-- loop.example/g00649/impl.isSmall -/
def D31 : Info := ⟨13, fun i => ([], []), fun i => ([], [])⟩
def W31 (v0 : AV) (H : Heap) (K : AV → Heap → Prop) : Prop :=
 boxV v0 H fun v1 H1 =>
 loadV tab 37 v1 H1 fun v3 =>
 CallT Tryz.prog 55 [v3] H1 fun v4 H2 =>
 grdV v4 true (fieldAddrV tab 37 v1 0 fun v6 =>
 loadV tab 3 v6 H2 fun v7 =>
 fieldAddrV tab 37 v1 1 fun v8 =>
 loadV tab 3 v8 H2 fun v9 =>
 binV tab .mul 3 v7 v9 fun v10 =>
 binV tab .leq 3 v10 (AV.p (.int .i64 5)) fun v11 =>
 K v11 H2)
 (K (AV.p (.bool false)) H2)
theorem W31_wp (v0 : AV) (H : Heap) (K : AV → Heap → Prop) : wpC Tryz.prog tab D31 (bodyOf Tryz.f31) (retF tab [.tmp 2] K) (nthA [v0]) H = W31 v0 H K := by kernel_rfl
theorem W31_ok {v0 : AV} {H : Heap} {K : AV → Heap → Prop} (h : W31 v0 H K) : CallT Tryz.prog 31 [v0] H K :=
  CallT.of_wp (D := D31) tab_ok mixed Tryz.func31 (c := bodyOf Tryz.f31) (by kernel_rfl) rfl (by kernel_rfl) (rs := #[.tmp 2]) rfl (by decide +kernel) (by kernel_rfl) (W31_wp v0 H K) h
/-- (loop.example/g00649/impl.Program).arePreds -/
def D32 : Info := ⟨22, fun i => ([], []), fun i => ([], [])⟩
def W32 (v0 : AV) (v1 : AV) (v2 : AV) (H : Heap) (K : AV → Heap → Prop) : Prop :=
 boxV v0 H fun v3 H1 =>
 lenV tab 39 v1 fun v8 =>
 binV tab .geq 3 v8 v2 fun v10 =>
 grdV v10 true (lenV tab 39 v1 fun v13 =>
 binV tab .leq 3 v13 (AV.p (.int .i64 8)) fun v14 =>
 grdV v14 true (CallT Tryz.prog 56 [v1, (.fn 57 [v3])] H1 fun v19 H2 =>
 unV .not v19 fun v20 =>
 K v20 H2)
 (K (AV.p (.bool false)) H1))
 (K (AV.p (.bool false)) H1)
theorem W32_wp (v0 : AV) (v1 : AV) (v2 : AV) (H : Heap) (K : AV → Heap → Prop) : wpC Tryz.prog tab D32 (bodyOf Tryz.f32) (retF tab [.tmp 6] K) (nthA [v0, v1, v2]) H = W32 v0 v1 v2 H K := by kernel_rfl
theorem W32_ok {v0 v1 v2 : AV} {H : Heap} {K : AV → Heap → Prop} (h : W32 v0 v1 v2 H K) : CallT Tryz.prog 32 [v0, v1, v2] H K :=
  CallT.of_wp (D := D32) tab_ok mixed Tryz.func32 (c := bodyOf Tryz.f32) (by kernel_rfl) rfl (by kernel_rfl) (rs := #[.tmp 6]) rfl (by decide +kernel) (by kernel_rfl) (W32_wp v0 v1 v2 H K) h
/-- (loop.example/g00649/impl.Program).states -/
def D33 : Info := ⟨9, fun i => ([], []), fun i => ([], [])⟩
def W33 (v0 : AV) (H : Heap) (K : AV → Heap → Prop) : Prop :=
 boxV v0 H fun v1 H1 =>
 fieldAddrV tab 37 v1 0 fun v3 =>
 loadV tab 3 v3 H1 fun v4 =>
 fieldAddrV tab 37 v1 1 fun v5 =>
 loadV tab 3 v5 H1 fun v6 =>
 binV tab .mul 3 v4 v6 fun v7 =>
 binV tab .shl 3 (AV.p (.int .i64 1)) v7 fun v8 =>
 K v8 H1
theorem W33_wp (v0 : AV) (H : Heap) (K : AV → Heap → Prop) : wpC Tryz.prog tab D33 (bodyOf Tryz.f33) (retF tab [.tmp 2] K) (nthA [v0]) H = W33 v0 H K := by kernel_rfl
theorem W33_ok {v0 : AV} {H : Heap} {K : AV → Heap → Prop} (h : W33 v0 H K) : CallT Tryz.prog 33 [v0] H K :=
  CallT.of_wp (D := D33) tab_ok mixed Tryz.func33 (c := bodyOf Tryz.f33) (by kernel_rfl) rfl (by kernel_rfl) (rs := #[.tmp 2]) rfl (by decide +kernel) (by kernel_rfl) (W33_wp v0 H K) h
/-- (loop.example/g00649/impl.Program).stateOf -/
def D34 : Info := ⟨29, fun i => if i = 5 then ([[], [], [1], [], [3], [], [3, 4, 5], [1, 2, 3, 4, 5, 6], [], [8], [8, 9], [1, 2, 3, 4, 5, 6, 7, 8, 9, 10], [1, 2, 3, 4, 5, 6, 7, 8, 9, 10, 11], [0, 1, 2, 3, 4, 5, 6, 7, 8, 9, 10, 11, 12], [0, 1, 2, 3, 4, 5, 6, 7, 8, 9, 10, 11, 12, 13]], [(0, []), (1, []), (2, []), (3, []), (4, []), (5, []), (6, []), (7, []), (8, []), (9, []), (10, [4]), (11, []), (12, []), (13, []), (14, [])]) else ([], []), fun i => if i = 3 then ([1, 2, 9], [5, 10]) else ([], [])⟩
def L34_0 (K : AV → Heap → Prop) (v1 : AV) (v2 : AV) (v5 : AV) (v9 : AV) (v10 : AV) (H : Heap) : Prop := LoopV (wpC Tryz.prog tab D34 (cAt [1, 1, 0, 1, 0, 0] (bodyOf Tryz.f34))) [1, 2, 9] (PostF.block 0 (PostF.thenA (wpC Tryz.prog tab D34 (cAt [1, 1, 1] (bodyOf Tryz.f34))) (retF tab [.tmp 4] K))) [5, 10] [AV.any, v1, v2, AV.any, AV.any, v5, AV.any, AV.any, AV.any, v9, v10, AV.any, AV.any, AV.any, AV.any, AV.any, AV.any, AV.any, AV.any, AV.any, AV.any, AV.any, AV.any, AV.any, AV.any, AV.any, AV.any, AV.any, AV.any] H
def B34_0 (K : AV → Heap → Prop) (N1 : AV → AV → Heap → Prop) (v1 : AV) (v2 : AV) (v5 : AV) (v9 : AV) (v10 : AV) (H : Heap) : Prop :=
 binV tab .lss 3 v10 v9 fun v11 =>
 condV v11 (convV tab 3 68 v1 fun v15 =>
 fieldAddrV tab 37 v2 0 fun v16 =>
 loadV tab 3 v16 H fun v17 =>
 binV tab .mul 3 v17 v10 fun v19 =>
 binV tab .shr 68 v15 v19 fun v20 =>
 fieldAddrV tab 37 v2 0 fun v21 =>
 loadV tab 3 v21 H fun v22 =>
 CallT Tryz.prog 59 [v22] H fun v23 H3 =>
 (loadV tab 3 v16 H3 fun v9017 =>
 v17 = v9017) ∧
 binV tab .and 68 v20 v23 fun v24 =>
 buildSliceV tab 65 1 [(0, v24)] H3 (wkK fun v25 H4 =>
 appendV tab 65 65 v5 v25 H4 (wkK fun v26 H5 =>
 binV tab .add 3 v10 (AV.p (.int .i64 1)) fun v27 =>
 N1 v26 v27 H5)))
 (K v5 H)
def W34 (v0 : AV) (v1 : AV) (H : Heap) (K : AV → Heap → Prop) : Prop :=
 boxV v0 H fun v2 H1 =>
 buildSliceV tab 65 0 [] H1 (wkK fun v7 H2 =>
 fieldAddrV tab 37 v2 1 fun v8 =>
 loadV tab 3 v8 H2 fun v9 =>
 L34_0 K v1 v2 v7 v9 (AV.p (.int .i64 0)) H2)
theorem W34_wp (v0 : AV) (v1 : AV) (H : Heap) (K : AV → Heap → Prop) : wpC Tryz.prog tab D34 (bodyOf Tryz.f34) (retF tab [.tmp 4] K) (nthA [v0, v1]) H = W34 v0 v1 H K := by kernel_rfl
theorem W34_ok {v0 v1 : AV} {H : Heap} {K : AV → Heap → Prop} (h : W34 v0 v1 H K) : CallT Tryz.prog 34 [v0, v1] H K :=
  CallT.of_wp (D := D34) tab_ok mixed Tryz.func34 (c := bodyOf Tryz.f34) (by kernel_rfl) rfl (by kernel_rfl) (rs := #[.tmp 4]) rfl (by decide +kernel) (by kernel_rfl) (W34_wp v0 v1 H K) h
theorem L34_0_rule {K : AV → Heap → Prop} {v1 v2 v5 v9 v10 : AV} {H : Heap} {σ : Type} (s0 : σ) (f5 : σ → AV) (f10 : σ → AV) (TH : σ → Heap) (pre : σ → Prop) (μ : σ → Nat)
    (h0 : pre s0 ∧ AV.wk v5 (f5 s0) ∧ AV.wk v10 (f10 s0) ∧ Heap.le (TH s0) H)
    (round : ∀ s, pre s → B34_0 K (fun w5 w10 H' => ∃ s', pre s' ∧ μ s' < μ s ∧ AV.wk w5 (f5 s') ∧ AV.wk w10 (f10 s') ∧ Heap.le (TH s') H') v1 v2 (f5 s) v9 (f10 s) (TH s)) :
    L34_0 K v1 v2 v5 v9 v10 H := by
  unfold L34_0
  exact LoopV.mk s0 (fun s => [f5 s, f10 s]) TH pre μ (fun _ => rfl) (Eq.mp (by kernel_rfl) h0) (fun s hs => Eq.mp (by kernel_rfl) (round s hs))
/-- loop.example/g00649/impl.valueOf -/
def D35 : Info := ⟨87, fun i => if i = 7 then ([[], [], [1], [0, 1, 2], [], [], [5], [], [], [8], [7, 8, 9], [7, 8, 9, 10], [], [], [12, 13], [12, 13, 14], [4, 5, 6, 7, 8, 9, 10, 11, 12, 13, 14, 15], [4, 5, 6, 7, 8, 9, 10, 11, 12, 13, 14, 15, 16], [0, 1, 2, 3, 4, 5, 6, 7, 8, 9, 10, 11, 12, 13, 14, 15, 16, 17], [0, 1, 2, 3, 4, 5, 6, 7, 8, 9, 10, 11, 12, 13, 14, 15, 16, 17, 18]], [(0, []), (1, []), (2, []), (3, []), (4, []), (5, []), (6, []), (7, []), (8, []), (9, []), (10, []), (11, []), (12, []), (13, []), (14, []), (15, []), (16, []), (17, []), (18, []), (19, [])]) else if i = 14 then ([[], [], [], [], [2, 3], [2, 3, 4], [2, 3, 4, 5], [], [7], [2, 3, 4, 5, 6, 7, 8], [0, 1, 2, 3, 4, 5, 6, 7, 8, 9], [0, 1, 2, 3, 4, 5, 6, 7, 8, 9, 10]], [(0, []), (1, []), (2, []), (3, []), (4, []), (5, []), (6, []), (7, []), (8, [5]), (9, []), (10, []), (11, [])]) else ([], []), fun i => if i = 3 then ([0, 2, 12, 13], [7, 14]) else ([], [])⟩
def L35_0 (K : AV → Heap → Prop) (v0 : AV) (v2 : AV) (v7 : AV) (v12 : AV) (v13 : AV) (v14 : AV) (H : Heap) : Prop := LoopV (wpC Tryz.prog tab D35 (cAt [1, 1, 0, 1, 0, 0] (bodyOf Tryz.f35))) [0, 2, 12, 13] (PostF.block 0 (PostF.thenA (wpC Tryz.prog tab D35 (cAt [1, 1, 1] (bodyOf Tryz.f35))) (retF tab [.tmp 6] K))) [7, 14] [v0, AV.any, v2, AV.any, AV.any, AV.any, AV.any, v7, AV.any, AV.any, AV.any, AV.any, v12, v13, v14, AV.any, AV.any, AV.any, AV.any, AV.any, AV.any, AV.any, AV.any, AV.any, AV.any, AV.any, AV.any, AV.any, AV.any, AV.any, AV.any, AV.any, AV.any, AV.any, AV.any, AV.any, AV.any, AV.any, AV.any, AV.any, AV.any, AV.any, AV.any, AV.any, AV.any, AV.any, AV.any, AV.any, AV.any, AV.any, AV.any, AV.any, AV.any, AV.any, AV.any, AV.any, AV.any, AV.any, AV.any, AV.any, AV.any, AV.any, AV.any, AV.any, AV.any, AV.any, AV.any, AV.any, AV.any, AV.any, AV.any, AV.any, AV.any, AV.any, AV.any, AV.any, AV.any, AV.any, AV.any, AV.any, AV.any, AV.any, AV.any, AV.any, AV.any, AV.any, AV.any] H
def J35_1 (K : AV → Heap → Prop) (N1 : AV → AV → Heap → Prop) (v0 : AV) (v2 : AV) (v7 : AV) (v9 : AV) (v10 : AV) (v12 : AV) (v13 : AV) (v14 : AV) (v22 : AV) (v42 : AV) (H : Heap) : Prop :=
 condV v42 (fieldAddrV tab 80 v9 1 fun v46 =>
 loadV tab 68 v46 H fun v47 =>
 buildSliceV tab 65 1 [(0, v47)] H (wkK fun v48 H4 =>
 appendV tab 65 65 v7 v48 H4 (wkK fun v49 H5 =>
 binV tab .add 3 v14 (AV.p (.int .i64 1)) fun v83 =>
 N1 v49 v83 H5)))
 (binV tab .eql 3 v22 (AV.p (.int .i64 2)) fun v51 =>
 condV v51 (fieldAddrV tab 80 v9 1 fun v54 =>
 loadV tab 68 v54 H fun v55 =>
 indexAddrV tab 65 v2 v55 fun v56 =>
 loadV tab 68 v56 H fun v57 =>
 buildSliceV tab 65 1 [(0, v57)] H (wkK fun v58 H6 =>
 appendV tab 65 65 v7 v58 H6 (wkK fun v59 H7 =>
 binV tab .add 3 v14 (AV.p (.int .i64 1)) fun v83 =>
 N1 v59 v83 H7)))
 (binV tab .eql 3 v22 (AV.p (.int .i64 13)) fun v61 =>
 condV v61 (indexAddrV tab 65 v7 v10 fun v66 =>
 loadV tab 68 v66 H fun v67 =>
 unV .xor v67 fun v68 =>
 CallT Tryz.prog 59 [v0] H fun v70 H8 =>
 (loadV tab 68 v66 H8 fun v9067 =>
 v67 = v9067) ∧
 binV tab .and 68 v68 v70 fun v71 =>
 indexAddrV tab 65 v7 v10 fun v72 =>
 storeV tab 68 v72 v71 H8 fun H9 =>
 binV tab .add 3 v14 (AV.p (.int .i64 1)) fun v83 =>
 N1 v7 v83 H9)
 (binV tab .eql 3 v22 (AV.p (.int .i64 19)) fun v74 =>
 condV v74 (indexAddrV tab 65 v7 v10 fun v79 =>
 loadV tab 68 v79 H fun v80 =>
 binV tab .sub 68 (AV.p (.int .u64 1)) v80 fun v81 =>
 indexAddrV tab 65 v7 v10 fun v82 =>
 storeV tab 68 v82 v81 H fun H10 =>
 binV tab .add 3 v14 (AV.p (.int .i64 1)) fun v83 =>
 N1 v7 v83 H10)
 (binV tab .sub 3 v10 (AV.p (.int .i64 1)) fun v25 =>
 sliceV tab 65 v7 none (some v25) none fun v26 =>
 fieldAddrV tab 80 v9 0 fun v28 =>
 loadV tab 3 v28 H fun v29 =>
 binV tab .sub 3 v10 (AV.p (.int .i64 1)) fun v32 =>
 indexAddrV tab 65 v7 v32 fun v33 =>
 loadV tab 68 v33 H fun v34 =>
 indexAddrV tab 65 v7 v10 fun v37 =>
 loadV tab 68 v37 H fun v38 =>
 CallT Tryz.prog 60 [v0, v29, v34, v38] H fun v39 H11 =>
 buildSliceV tab 65 1 [(0, v39)] H11 (wkK fun v40 H12 =>
 appendV tab 65 65 v26 v40 H12 (wkK fun v41 H13 =>
 binV tab .add 3 v14 (AV.p (.int .i64 1)) fun v83 =>
 N1 v41 v83 H13))))))
def B35_0 (K : AV → Heap → Prop) (N1 : AV → AV → Heap → Prop) (v0 : AV) (v2 : AV) (v7 : AV) (v12 : AV) (v13 : AV) (v14 : AV) (H : Heap) : Prop :=
 binV tab .lss 3 v14 v13 fun v15 =>
 condV v15 (indexAddrV tab 34 v12 v14 fun v16 =>
 loadV tab 80 v16 H fun v17 =>
 allocV tab 80 H fun v9 H2 =>
 storeV tab 80 v9 v17 H2 fun H3 =>
 lenV tab 65 v7 fun v19 =>
 binV tab .sub 3 v19 (AV.p (.int .i64 1)) fun v20 =>
 fieldAddrV tab 80 v9 0 fun v21 =>
 loadV tab 3 v21 H3 fun v22 =>
 binV tab .eql 3 v22 (AV.p (.int .i64 1)) fun v43 =>
 condV v43 (J35_1 K N1 v0 v2 v7 v9 v20 v12 v13 v14 v22 v43 H3)
 (binV tab .eql 3 v22 (AV.p (.int .i64 20)) fun v44 =>
 J35_1 K N1 v0 v2 v7 v9 v20 v12 v13 v14 v22 v44 H3))
 (indexAddrV tab 65 v7 (AV.p (.int .i64 0)) fun v85 =>
 loadV tab 68 v85 H fun v86 =>
 K v86 H)
def W35 (v0 : AV) (v1 : AV) (v2 : AV) (H : Heap) (K : AV → Heap → Prop) : Prop :=
 buildSliceV tab 65 0 [] H (wkK fun v11 H1 =>
 lenV tab 34 v1 fun v13 =>
 L35_0 K v0 v2 v11 v1 v13 (AV.p (.int .i64 0)) H1)
theorem W35_wp (v0 : AV) (v1 : AV) (v2 : AV) (H : Heap) (K : AV → Heap → Prop) : wpC Tryz.prog tab D35 (bodyOf Tryz.f35) (retF tab [.tmp 6] K) (nthA [v0, v1, v2]) H = W35 v0 v1 v2 H K := by kernel_rfl
theorem W35_ok {v0 v1 v2 : AV} {H : Heap} {K : AV → Heap → Prop} (h : W35 v0 v1 v2 H K) : CallT Tryz.prog 35 [v0, v1, v2] H K :=
  CallT.of_wp (D := D35) tab_ok mixed Tryz.func35 (c := bodyOf Tryz.f35) (by kernel_rfl) rfl (by kernel_rfl) (rs := #[.tmp 6]) rfl (by decide +kernel) (by kernel_rfl) (W35_wp v0 v1 v2 H K) h
theorem L35_0_rule {K : AV → Heap → Prop} {v0 v2 v7 v12 v13 v14 : AV} {H : Heap} {σ : Type} (s0 : σ) (f7 : σ → AV) (f14 : σ → AV) (TH : σ → Heap) (pre : σ → Prop) (μ : σ → Nat)
    (h0 : pre s0 ∧ AV.wk v7 (f7 s0) ∧ AV.wk v14 (f14 s0) ∧ Heap.le (TH s0) H)
    (round : ∀ s, pre s → B35_0 K (fun w7 w14 H' => ∃ s', pre s' ∧ μ s' < μ s ∧ AV.wk w7 (f7 s') ∧ AV.wk w14 (f14 s') ∧ Heap.le (TH s') H') v0 v2 (f7 s) v12 v13 (f14 s) (TH s)) :
    L35_0 K v0 v2 v7 v12 v13 v14 H := by
  unfold L35_0
  exact LoopV.mk s0 (fun s => [f7 s, f14 s]) TH pre μ (fun _ => rfl) (Eq.mp (by kernel_rfl) h0) (fun s hs => Eq.mp (by kernel_rfl) (round s hs))
/-- loop.example/g00649/laws.eqIntS -/
def D37 : Info := ⟨26, fun i => if i = 6 then ([[], [], [0, 1], [0, 1, 2], [], [], [4, 5], [4, 5, 6], [0, 1, 2, 3, 4, 5, 6, 7]], [(0, []), (1, []), (2, []), (3, []), (4, []), (5, []), (6, []), (7, []), (8, [])]) else ([], []), fun i => if i = 4 then ([0, 1], [5]) else ([], [])⟩
def L37_0 (K : AV → Heap → Prop) (v0 : AV) (v1 : AV) (v5 : AV) (H : Heap) : Prop := LoopV (wpC Tryz.prog tab D37 (cAt [1, 1, 0, 1, 0, 0] (bodyOf Tryz.f37))) [0, 1] (PostF.block 0 (PostF.thenA (wpC Tryz.prog tab D37 (cAt [1, 1, 1] (bodyOf Tryz.f37))) (retF tab [.tmp 4] K))) [5] [v0, v1, AV.any, AV.any, AV.any, v5, AV.any, AV.any, AV.any, AV.any, AV.any, AV.any, AV.any, AV.any, AV.any, AV.any, AV.any, AV.any, AV.any, AV.any, AV.any, AV.any, AV.any, AV.any, AV.any, AV.any] H
def B37_0 (K : AV → Heap → Prop) (N1 : AV → Heap → Prop) (v0 : AV) (v1 : AV) (v5 : AV) (H : Heap) : Prop :=
 lenV tab 29 v0 fun v13 =>
 binV tab .lss 3 v5 v13 fun v14 =>
 condV v14 (indexAddrV tab 29 v0 v5 fun v19 =>
 loadV tab 3 v19 H fun v20 =>
 indexAddrV tab 29 v1 v5 fun v23 =>
 loadV tab 3 v23 H fun v24 =>
 binV tab .neq 3 v20 v24 fun v25 =>
 condV v25 (K (AV.p (.bool false)) H)
 (binV tab .add 3 v5 (AV.p (.int .i64 1)) fun v16 =>
 N1 v16 H))
 (K (AV.p (.bool true)) H)
def W37 (v0 : AV) (v1 : AV) (H : Heap) (K : AV → Heap → Prop) : Prop :=
 lenV tab 29 v0 fun v7 =>
 lenV tab 29 v1 fun v9 =>
 binV tab .neq 3 v7 v9 fun v10 =>
 condV v10 (K (AV.p (.bool false)) H)
 (L37_0 K v0 v1 (AV.p (.int .i64 0)) H)
theorem W37_wp (v0 : AV) (v1 : AV) (H : Heap) (K : AV → Heap → Prop) : wpC Tryz.prog tab D37 (bodyOf Tryz.f37) (retF tab [.tmp 4] K) (nthA [v0, v1]) H = W37 v0 v1 H K := by kernel_rfl
theorem W37_ok {v0 v1 : AV} {H : Heap} {K : AV → Heap → Prop} (h : W37 v0 v1 H K) : CallT Tryz.prog 37 [v0, v1] H K :=
  CallT.of_wp (D := D37) tab_ok mixed Tryz.func37 (c := bodyOf Tryz.f37) (by kernel_rfl) rfl (by kernel_rfl) (rs := #[.tmp 4]) rfl (by decide +kernel) (by kernel_rfl) (W37_wp v0 v1 H K) h
theorem L37_0_rule {K : AV → Heap → Prop} {v0 v1 v5 : AV} {H : Heap} {σ : Type} (s0 : σ) (f5 : σ → AV) (TH : σ → Heap) (pre : σ → Prop) (μ : σ → Nat)
    (h0 : pre s0 ∧ AV.wk v5 (f5 s0) ∧ Heap.le (TH s0) H)
    (round : ∀ s, pre s → B37_0 K (fun w5 H' => ∃ s', pre s' ∧ μ s' < μ s ∧ AV.wk w5 (f5 s') ∧ Heap.le (TH s') H') v0 v1 (f5 s) (TH s)) :
    L37_0 K v0 v1 v5 H := by
  unfold L37_0
  exact LoopV.mk s0 (fun s => [f5 s]) TH pre μ (fun _ => rfl) (Eq.mp (by kernel_rfl) h0) (fun s hs => Eq.mp (by kernel_rfl) (round s hs))
/-- loop.example/g00649/laws.eqCommandS -/
def D38 : Info := ⟨27, fun i => if i = 6 then ([[], [], [0, 1], [0, 1, 2], [], [], [4, 5], [4, 5, 6], [0, 1, 2, 3, 4, 5, 6, 7], [0, 1, 2, 3, 4, 5, 6, 7, 8]], [(0, []), (1, []), (2, []), (3, []), (4, []), (5, []), (6, []), (7, []), (8, []), (9, [])]) else ([], []), fun i => if i = 4 then ([0, 1], [5]) else ([], [])⟩
def L38_0 (K : AV → Heap → Prop) (v0 : AV) (v1 : AV) (v5 : AV) (H : Heap) : Prop := LoopV (wpC Tryz.prog tab D38 (cAt [1, 1, 0, 1, 0, 0] (bodyOf Tryz.f38))) [0, 1] (PostF.block 0 (PostF.thenA (wpC Tryz.prog tab D38 (cAt [1, 1, 1] (bodyOf Tryz.f38))) (retF tab [.tmp 4] K))) [5] [v0, v1, AV.any, AV.any, AV.any, v5, AV.any, AV.any, AV.any, AV.any, AV.any, AV.any, AV.any, AV.any, AV.any, AV.any, AV.any, AV.any, AV.any, AV.any, AV.any, AV.any, AV.any, AV.any, AV.any, AV.any, AV.any] H
def B38_0 (K : AV → Heap → Prop) (N1 : AV → Heap → Prop) (v0 : AV) (v1 : AV) (v5 : AV) (H : Heap) : Prop :=
 lenV tab 35 v0 fun v13 =>
 binV tab .lss 3 v5 v13 fun v14 =>
 condV v14 (indexAddrV tab 35 v0 v5 fun v19 =>
 loadV tab 92 v19 H fun v20 =>
 indexAddrV tab 35 v1 v5 fun v23 =>
 loadV tab 92 v23 H fun v24 =>
 CallT Tryz.prog 61 [v20, v24] H fun v25 H1 =>
 unV .not v25 fun v26 =>
 condV v26 (K (AV.p (.bool false)) H1)
 (binV tab .add 3 v5 (AV.p (.int .i64 1)) fun v16 =>
 N1 v16 H1))
 (K (AV.p (.bool true)) H)
def W38 (v0 : AV) (v1 : AV) (H : Heap) (K : AV → Heap → Prop) : Prop :=
 lenV tab 35 v0 fun v7 =>
 lenV tab 35 v1 fun v9 =>
 binV tab .neq 3 v7 v9 fun v10 =>
 condV v10 (K (AV.p (.bool false)) H)
 (L38_0 K v0 v1 (AV.p (.int .i64 0)) H)
theorem W38_wp (v0 : AV) (v1 : AV) (H : Heap) (K : AV → Heap → Prop) : wpC Tryz.prog tab D38 (bodyOf Tryz.f38) (retF tab [.tmp 4] K) (nthA [v0, v1]) H = W38 v0 v1 H K := by kernel_rfl
theorem W38_ok {v0 v1 : AV} {H : Heap} {K : AV → Heap → Prop} (h : W38 v0 v1 H K) : CallT Tryz.prog 38 [v0, v1] H K :=
  CallT.of_wp (D := D38) tab_ok mixed Tryz.func38 (c := bodyOf Tryz.f38) (by kernel_rfl) rfl (by kernel_rfl) (rs := #[.tmp 4]) rfl (by decide +kernel) (by kernel_rfl) (W38_wp v0 v1 H K) h
theorem L38_0_rule {K : AV → Heap → Prop} {v0 v1 v5 : AV} {H : Heap} {σ : Type} (s0 : σ) (f5 : σ → AV) (TH : σ → Heap) (pre : σ → Prop) (μ : σ → Nat)
    (h0 : pre s0 ∧ AV.wk v5 (f5 s0) ∧ Heap.le (TH s0) H)
    (round : ∀ s, pre s → B38_0 K (fun w5 H' => ∃ s', pre s' ∧ μ s' < μ s ∧ AV.wk w5 (f5 s') ∧ Heap.le (TH s') H') v0 v1 (f5 s) (TH s)) :
    L38_0 K v0 v1 v5 H := by
  unfold L38_0
  exact LoopV.mk s0 (fun s => [f5 s]) TH pre μ (fun _ => rfl) (Eq.mp (by kernel_rfl) h0) (fun s hs => Eq.mp (by kernel_rfl) (round s hs))
/-- loop.example/g00649/laws.markCommandS -/
def D39 : Info := ⟨27, fun i => ([], []), fun i => if i = 2 then ([0], [1, 5]) else ([], [])⟩
def L39_0 (K : AV → Heap → Prop) (v0 : AV) (v1 : AV) (v5 : AV) (H : Heap) : Prop := LoopV (wpC Tryz.prog tab D39 (cAt [1, 0, 1, 0, 0] (bodyOf Tryz.f39))) [0] (PostF.block 0 (PostF.thenA (wpC Tryz.prog tab D39 (cAt [1, 1] (bodyOf Tryz.f39))) (retF tab [.tmp 4] K))) [1, 5] [v0, v1, AV.any, AV.any, AV.any, v5, AV.any, AV.any, AV.any, AV.any, AV.any, AV.any, AV.any, AV.any, AV.any, AV.any, AV.any, AV.any, AV.any, AV.any, AV.any, AV.any, AV.any, AV.any, AV.any, AV.any, AV.any] H
def B39_0 (K : AV → Heap → Prop) (N1 : AV → AV → Heap → Prop) (v0 : AV) (v1 : AV) (v5 : AV) (H : Heap) : Prop :=
 lenV tab 35 v0 fun v8 =>
 binV tab .lss 3 v5 v8 fun v9 =>
 condV v9 (indexAddrV tab 35 v0 v5 fun v14 =>
 fieldAddrV tab 92 v14 0 fun v15 =>
 loadV tab 34 v15 H fun v16 =>
 CallT Tryz.prog 25 [v16, v1] H fun v18 H1 =>
 indexAddrV tab 35 v0 v5 fun v21 =>
 fieldAddrV tab 92 v21 1 fun v22 =>
 loadV tab 90 v22 H1 fun v23 =>
 CallT Tryz.prog 62 [v23, v18] H1 fun v25 H2 =>
 binV tab .add 3 v5 (AV.p (.int .i64 1)) fun v11 =>
 N1 v25 v11 H2)
 (K v1 H)
def W39 (v0 : AV) (v1 : AV) (H : Heap) (K : AV → Heap → Prop) : Prop :=
 L39_0 K v0 v1 (AV.p (.int .i64 0)) H
theorem W39_wp (v0 : AV) (v1 : AV) (H : Heap) (K : AV → Heap → Prop) : wpC Tryz.prog tab D39 (bodyOf Tryz.f39) (retF tab [.tmp 4] K) (nthA [v0, v1]) H = W39 v0 v1 H K := by kernel_rfl
theorem W39_ok {v0 v1 : AV} {H : Heap} {K : AV → Heap → Prop} (h : W39 v0 v1 H K) : CallT Tryz.prog 39 [v0, v1] H K :=
  CallT.of_wp (D := D39) tab_ok mixed Tryz.func39 (c := bodyOf Tryz.f39) (by kernel_rfl) rfl (by kernel_rfl) (rs := #[.tmp 4]) rfl (by decide +kernel) (by kernel_rfl) (W39_wp v0 v1 H K) h
theorem L39_0_rule {K : AV → Heap → Prop} {v0 v1 v5 : AV} {H : Heap} {σ : Type} (s0 : σ) (f1 : σ → AV) (f5 : σ → AV) (TH : σ → Heap) (pre : σ → Prop) (μ : σ → Nat)
    (h0 : pre s0 ∧ AV.wk v1 (f1 s0) ∧ AV.wk v5 (f5 s0) ∧ Heap.le (TH s0) H)
    (round : ∀ s, pre s → B39_0 K (fun w1 w5 H' => ∃ s', pre s' ∧ μ s' < μ s ∧ AV.wk w1 (f1 s') ∧ AV.wk w5 (f5 s') ∧ Heap.le (TH s') H') v0 (f1 s) (f5 s) (TH s)) :
    L39_0 K v0 v1 v5 H := by
  unfold L39_0
  exact LoopV.mk s0 (fun s => [f1 s, f5 s]) TH pre μ (fun _ => rfl) (Eq.mp (by kernel_rfl) h0) (fun s hs => Eq.mp (by kernel_rfl) (round s hs))
/-- loop.example/g00649/laws.markIntS -/
def D40 : Info := ⟨19, fun i => ([], []), fun i => if i = 2 then ([0], [1, 5]) else ([], [])⟩
def L40_0 (K : AV → Heap → Prop) (v0 : AV) (v1 : AV) (v5 : AV) (H : Heap) : Prop := LoopV (wpC Tryz.prog tab D40 (cAt [1, 0, 1, 0, 0] (bodyOf Tryz.f40))) [0] (PostF.block 0 (PostF.thenA (wpC Tryz.prog tab D40 (cAt [1, 1] (bodyOf Tryz.f40))) (retF tab [.tmp 4] K))) [1, 5] [v0, v1, AV.any, AV.any, AV.any, v5, AV.any, AV.any, AV.any, AV.any, AV.any, AV.any, AV.any, AV.any, AV.any, AV.any, AV.any, AV.any, AV.any] H
def B40_0 (K : AV → Heap → Prop) (N1 : AV → AV → Heap → Prop) (v0 : AV) (v1 : AV) (v5 : AV) (H : Heap) : Prop :=
 lenV tab 29 v0 fun v8 =>
 binV tab .lss 3 v5 v8 fun v9 =>
 condV v9 (indexAddrV tab 29 v0 v5 fun v15 =>
 storeV tab 3 v15 v1 H fun H1 =>
 binV tab .add 3 v1 (AV.p (.int .i64 1)) fun v17 =>
 binV tab .add 3 v5 (AV.p (.int .i64 1)) fun v11 =>
 N1 v17 v11 H1)
 (K v1 H)
def W40 (v0 : AV) (v1 : AV) (H : Heap) (K : AV → Heap → Prop) : Prop :=
 L40_0 K v0 v1 (AV.p (.int .i64 0)) H
theorem W40_wp (v0 : AV) (v1 : AV) (H : Heap) (K : AV → Heap → Prop) : wpC Tryz.prog tab D40 (bodyOf Tryz.f40) (retF tab [.tmp 4] K) (nthA [v0, v1]) H = W40 v0 v1 H K := by kernel_rfl
theorem W40_ok {v0 v1 : AV} {H : Heap} {K : AV → Heap → Prop} (h : W40 v0 v1 H K) : CallT Tryz.prog 40 [v0, v1] H K :=
  CallT.of_wp (D := D40) tab_ok mixed Tryz.func40 (c := bodyOf Tryz.f40) (by kernel_rfl) rfl (by kernel_rfl) (rs := #[.tmp 4]) rfl (by decide +kernel) (by kernel_rfl) (W40_wp v0 v1 H K) h
theorem L40_0_rule {K : AV → Heap → Prop} {v0 v1 v5 : AV} {H : Heap} {σ : Type} (s0 : σ) (f1 : σ → AV) (f5 : σ → AV) (TH : σ → Heap) (pre : σ → Prop) (μ : σ → Nat)
    (h0 : pre s0 ∧ AV.wk v1 (f1 s0) ∧ AV.wk v5 (f5 s0) ∧ Heap.le (TH s0) H)
    (round : ∀ s, pre s → B40_0 K (fun w1 w5 H' => ∃ s', pre s' ∧ μ s' < μ s ∧ AV.wk w1 (f1 s') ∧ AV.wk w5 (f5 s') ∧ Heap.le (TH s') H') v0 (f1 s) (f5 s) (TH s)) :
    L40_0 K v0 v1 v5 H := by
  unfold L40_0
  exact LoopV.mk s0 (fun s => [f1 s, f5 s]) TH pre μ (fun _ => rfl) (Eq.mp (by kernel_rfl) h0) (fun s hs => Eq.mp (by kernel_rfl) (round s hs))
/-- loop.example/g00649/laws.heldIntS -/
def D41 : Info := ⟨21, fun i => ([], []), fun i => if i = 2 then ([0], [1, 5]) else ([], [])⟩
def L41_0 (K : AV → Heap → Prop) (v0 : AV) (v1 : AV) (v5 : AV) (H : Heap) : Prop := LoopV (wpC Tryz.prog tab D41 (cAt [1, 0, 1, 0, 0] (bodyOf Tryz.f41))) [0] (PostF.block 0 (PostF.thenA (wpC Tryz.prog tab D41 (cAt [1, 1] (bodyOf Tryz.f41))) (retF tab [.tmp 4] K))) [1, 5] [v0, v1, AV.any, AV.any, AV.any, v5, AV.any, AV.any, AV.any, AV.any, AV.any, AV.any, AV.any, AV.any, AV.any, AV.any, AV.any, AV.any, AV.any, AV.any, AV.any] H
def B41_0 (K : AV → Heap → Prop) (N1 : AV → AV → Heap → Prop) (v0 : AV) (v1 : AV) (v5 : AV) (H : Heap) : Prop :=
 lenV tab 29 v0 fun v8 =>
 binV tab .lss 3 v5 v8 fun v9 =>
 condV v9 (indexAddrV tab 29 v0 v5 fun v14 =>
 loadV tab 3 v14 H fun v15 =>
 binV tab .neq 3 v15 v1 fun v17 =>
 condV v17 (K (AV.p (.int .i64 (-1))) H)
 (binV tab .add 3 v1 (AV.p (.int .i64 1)) fun v19 =>
 binV tab .add 3 v5 (AV.p (.int .i64 1)) fun v11 =>
 N1 v19 v11 H))
 (K v1 H)
def W41 (v0 : AV) (v1 : AV) (H : Heap) (K : AV → Heap → Prop) : Prop :=
 L41_0 K v0 v1 (AV.p (.int .i64 0)) H
theorem W41_wp (v0 : AV) (v1 : AV) (H : Heap) (K : AV → Heap → Prop) : wpC Tryz.prog tab D41 (bodyOf Tryz.f41) (retF tab [.tmp 4] K) (nthA [v0, v1]) H = W41 v0 v1 H K := by kernel_rfl
theorem W41_ok {v0 v1 : AV} {H : Heap} {K : AV → Heap → Prop} (h : W41 v0 v1 H K) : CallT Tryz.prog 41 [v0, v1] H K :=
  CallT.of_wp (D := D41) tab_ok mixed Tryz.func41 (c := bodyOf Tryz.f41) (by kernel_rfl) rfl (by kernel_rfl) (rs := #[.tmp 4]) rfl (by decide +kernel) (by kernel_rfl) (W41_wp v0 v1 H K) h
theorem L41_0_rule {K : AV → Heap → Prop} {v0 v1 v5 : AV} {H : Heap} {σ : Type} (s0 : σ) (f1 : σ → AV) (f5 : σ → AV) (TH : σ → Heap) (pre : σ → Prop) (μ : σ → Nat)
    (h0 : pre s0 ∧ AV.wk v1 (f1 s0) ∧ AV.wk v5 (f5 s0) ∧ Heap.le (TH s0) H)
    (round : ∀ s, pre s → B41_0 K (fun w1 w5 H' => ∃ s', pre s' ∧ μ s' < μ s ∧ AV.wk w1 (f1 s') ∧ AV.wk w5 (f5 s') ∧ Heap.le (TH s') H') v0 (f1 s) (f5 s) (TH s)) :
    L41_0 K v0 v1 v5 H := by
  unfold L41_0
  exact LoopV.mk s0 (fun s => [f1 s, f5 s]) TH pre μ (fun _ => rfl) (Eq.mp (by kernel_rfl) h0) (fun s hs => Eq.mp (by kernel_rfl) (round s hs))
/-- loop.example/g00649/spec.l7Asks -/
def D44 : Info := ⟨12, fun i => ([], []), fun i => ([], [])⟩
def W44 (v0 : AV) (v1 : AV) (H : Heap) (K : AV → Heap → Prop) : Prop :=
 boxV v0 H fun v2 H1 =>
 fieldAddrV tab 37 v2 0 fun v5 =>
 loadV tab 3 v5 H1 fun v6 =>
 fieldAddrV tab 37 v2 1 fun v7 =>
 loadV tab 3 v7 H1 fun v8 =>
 CallT Tryz.prog 64 [v6, v8, v1] H1 fun v10 H2 =>
 binV tab .eql 3 v10 (AV.p (.int .i64 2)) fun v11 =>
 K v11 H2
theorem W44_wp (v0 : AV) (v1 : AV) (H : Heap) (K : AV → Heap → Prop) : wpC Tryz.prog tab D44 (bodyOf Tryz.f44) (retF tab [.tmp 4] K) (nthA [v0, v1]) H = W44 v0 v1 H K := by kernel_rfl
theorem W44_ok {v0 v1 : AV} {H : Heap} {K : AV → Heap → Prop} (h : W44 v0 v1 H K) : CallT Tryz.prog 44 [v0, v1] H K :=
  CallT.of_wp (D := D44) tab_ok mixed Tryz.func44 (c := bodyOf Tryz.f44) (by kernel_rfl) rfl (by kernel_rfl) (rs := #[.tmp 4]) rfl (by decide +kernel) (by kernel_rfl) (W44_wp v0 v1 H K) h
/-- loop.example/g00649/spec.l15Split -/
def D45 : Info := ⟨12, fun i => if i = 1 then ([[], [], [], [1, 2], [0, 1, 2, 3], [0, 1, 2, 3, 4]], [(0, []), (1, []), (2, []), (3, [0]), (4, []), (5, [])]) else ([], []), fun i => ([], [])⟩
def W45 (v0 : AV) (v1 : AV) (v2 : AV) (H : Heap) (K : AV → Heap → Prop) : Prop :=
 boxV v0 H fun v3 H1 =>
 boxV v1 H1 fun v4 H2 =>
 allocV tab 31 H2 fun v6 H3 =>
 loadV tab 31 v4 H3 fun v7 =>
 loadV tab 37 v3 H3 fun v8 =>
 CallT Tryz.prog 66 [v8, v2] H3 fun v10 H4 =>
 (loadV tab 31 v4 H4 fun v9007 =>
 v7 = v9007) ∧
 CallT Tryz.prog 65 [v7, v10] H4 fun v11 H5 =>
 storeV tab 31 v6 v11 H5 fun H6 =>
 loadV tab 31 v6 H6 fun r0 =>
 K r0 H6
theorem W45_wp (v0 : AV) (v1 : AV) (v2 : AV) (H : Heap) (K : AV → Heap → Prop) : wpC Tryz.prog tab D45 (bodyOf Tryz.f45) (retF tab [.cell 6 31] K) (nthA [v0, v1, v2]) H = W45 v0 v1 v2 H K := by kernel_rfl
theorem W45_ok {v0 v1 v2 : AV} {H : Heap} {K : AV → Heap → Prop} (h : W45 v0 v1 v2 H K) : CallT Tryz.prog 45 [v0, v1, v2] H K :=
  CallT.of_wp (D := D45) tab_ok mixed Tryz.func45 (c := bodyOf Tryz.f45) (by kernel_rfl) rfl (by kernel_rfl) (rs := #[.cell 6 31]) rfl (by decide +kernel) (by kernel_rfl) (W45_wp v0 v1 v2 H K) h
/-- loop.example/g00649/laws.toNode -/
def D47 : Info := ⟨11, fun i => ([], []), fun i => ([], [])⟩
def W47 (v0 : AV) (H : Heap) (K : AV → Heap → Prop) : Prop :=
 boxV v0 H fun v1 H1 =>
 allocV tab 80 H1 fun v2 H2 =>
 allocV tab 80 H2 fun v3 H3 =>
 fieldAddrV tab 82 v1 0 fun v4 =>
 loadV tab 3 v4 H3 fun v5 =>
 fieldAddrV tab 80 v3 0 fun v6 =>
 storeV tab 3 v6 v5 H3 fun H4 =>
 fieldAddrV tab 82 v1 1 fun v7 =>
 loadV tab 68 v7 H4 fun v8 =>
 fieldAddrV tab 80 v3 1 fun v9 =>
 storeV tab 68 v9 v8 H4 fun H5 =>
 loadV tab 80 v3 H5 fun v10 =>
 storeV tab 80 v2 v10 H5 fun H6 =>
 loadV tab 80 v2 H6 fun r0 =>
 K r0 H6
theorem W47_wp (v0 : AV) (H : Heap) (K : AV → Heap → Prop) : wpC Tryz.prog tab D47 (bodyOf Tryz.f47) (retF tab [.cell 2 80] K) (nthA [v0]) H = W47 v0 H K := by kernel_rfl
theorem W47_ok {v0 : AV} {H : Heap} {K : AV → Heap → Prop} (h : W47 v0 H K) : CallT Tryz.prog 47 [v0] H K :=
  CallT.of_wp (D := D47) tab_ok mixed Tryz.func47 (c := bodyOf Tryz.f47) (by kernel_rfl) rfl (by kernel_rfl) (rs := #[.cell 2 80]) rfl (by decide +kernel) (by kernel_rfl) (W47_wp v0 H K) h
/-- loop.example/g00649/laws.eqNode -/
def D50 : Info := ⟨15, fun i => ([], []), fun i => ([], [])⟩
def W50 (v0 : AV) (v1 : AV) (H : Heap) (K : AV → Heap → Prop) : Prop :=
 boxV v0 H fun v2 H1 =>
 boxV v1 H1 fun v3 H2 =>
 fieldAddrV tab 80 v2 0 fun v5 =>
 loadV tab 3 v5 H2 fun v6 =>
 fieldAddrV tab 80 v3 0 fun v7 =>
 loadV tab 3 v7 H2 fun v8 =>
 binV tab .neq 3 v6 v8 fun v9 =>
 condV v9 (K (AV.p (.bool false)) H2)
 (fieldAddrV tab 80 v2 1 fun v10 =>
 loadV tab 68 v10 H2 fun v11 =>
 fieldAddrV tab 80 v3 1 fun v12 =>
 loadV tab 68 v12 H2 fun v13 =>
 binV tab .neq 68 v11 v13 fun v14 =>
 condV v14 (K (AV.p (.bool false)) H2)
 (K (AV.p (.bool true)) H2))
theorem W50_wp (v0 : AV) (v1 : AV) (H : Heap) (K : AV → Heap → Prop) : wpC Tryz.prog tab D50 (bodyOf Tryz.f50) (retF tab [.tmp 4] K) (nthA [v0, v1]) H = W50 v0 v1 H K := by kernel_rfl
theorem W50_ok {v0 v1 : AV} {H : Heap} {K : AV → Heap → Prop} (h : W50 v0 v1 H K) : CallT Tryz.prog 50 [v0, v1] H K :=
  CallT.of_wp (D := D50) tab_ok mixed Tryz.func50 (c := bodyOf Tryz.f50) (by kernel_rfl) rfl (by kernel_rfl) (rs := #[.tmp 4]) rfl (by decide +kernel) (by kernel_rfl) (W50_wp v0 v1 H K) h
/-- loop.example/g00649/laws.szCommand -/
def D51 : Info := ⟨18, fun i => ([], []), fun i => ([], [])⟩
def W51 (v0 : AV) (v1 : AV) (H : Heap) (K : AV → Heap → Prop) : Prop :=
 boxV v0 H fun v2 H1 =>
 fieldAddrV tab 88 v2 0 fun v5 =>
 loadV tab 22 v5 H1 fun v6 =>
 CallT Tryz.prog 19 [v6, v1] H1 fun v8 H2 =>
 binV tab .lss 3 v8 (AV.p (.int .i64 0)) fun v10 =>
 condV v10 (K (AV.p (.int .i64 (-1))) H2)
 (fieldAddrV tab 88 v2 1 fun v11 =>
 loadV tab 86 v11 H2 fun v12 =>
 CallT Tryz.prog 68 [v12, v8] H2 fun v14 H3 =>
 binV tab .lss 3 v14 (AV.p (.int .i64 0)) fun v16 =>
 condV v16 (K (AV.p (.int .i64 (-1))) H3)
 (K v14 H3))
theorem W51_wp (v0 : AV) (v1 : AV) (H : Heap) (K : AV → Heap → Prop) : wpC Tryz.prog tab D51 (bodyOf Tryz.f51) (retF tab [.tmp 4] K) (nthA [v0, v1]) H = W51 v0 v1 H K := by kernel_rfl
theorem W51_ok {v0 v1 : AV} {H : Heap} {K : AV → Heap → Prop} (h : W51 v0 v1 H K) : CallT Tryz.prog 51 [v0, v1] H K :=
  CallT.of_wp (D := D51) tab_ok mixed Tryz.func51 (c := bodyOf Tryz.f51) (by kernel_rfl) rfl (by kernel_rfl) (rs := #[.tmp 4]) rfl (by decide +kernel) (by kernel_rfl) (W51_wp v0 v1 H K) h
/-- loop.example/g00649/spec.GoodProgram -/
def D52 : Info := ⟨29, fun i => ([], []), fun i => if i = 4 then ([1, 18, 19], [20]) else ([], [])⟩
def L52_0 (K : AV → Heap → Prop) (v1 : AV) (v18 : AV) (v19 : AV) (v20 : AV) (H : Heap) : Prop := LoopV (wpC Tryz.prog tab D52 (cAt [1, 1, 0, 1, 0, 0] (bodyOf Tryz.f52))) [1, 18, 19] (PostF.block 0 (PostF.thenA (wpC Tryz.prog tab D52 (cAt [1, 1, 1] (bodyOf Tryz.f52))) (retF tab [.tmp 2] K))) [20] [AV.any, v1, AV.any, AV.any, AV.any, AV.any, AV.any, AV.any, AV.any, AV.any, AV.any, AV.any, AV.any, AV.any, AV.any, AV.any, AV.any, AV.any, v18, v19, v20, AV.any, AV.any, AV.any, AV.any, AV.any, AV.any, AV.any, AV.any] H
def B52_0 (K : AV → Heap → Prop) (N1 : AV → Heap → Prop) (v1 : AV) (v18 : AV) (v19 : AV) (v20 : AV) (H : Heap) : Prop :=
 binV tab .lss 3 v20 v19 fun v21 =>
 condV v21 (indexAddrV tab 35 v18 v20 fun v22 =>
 loadV tab 92 v22 H fun v23 =>
 allocV tab 92 H fun v4 H4 =>
 storeV tab 92 v4 v23 H4 fun H5 =>
 loadV tab 37 v1 H5 fun v24 =>
 loadV tab 92 v4 H5 fun v25 =>
 CallT Tryz.prog 69 [v24, v25] H5 fun v26 H6 =>
 unV .not v26 fun v27 =>
 condV v27 (K (AV.p (.bool false)) H6)
 (binV tab .add 3 v20 (AV.p (.int .i64 1)) fun v28 =>
 N1 v28 H6))
 (K (AV.p (.bool true)) H)
def W52 (v0 : AV) (H : Heap) (K : AV → Heap → Prop) : Prop :=
 boxV v0 H fun v1 H1 =>
 loadV tab 37 v1 H1 fun v5 =>
 fieldAddrV tab 37 v1 2 fun v6 =>
 loadV tab 34 v6 H1 fun v7 =>
 CallT Tryz.prog 44 [v5, v7] H1 fun v8 H2 =>
 unV .not v8 fun v9 =>
 grdV v9 false (fieldAddrV tab 37 v1 3 fun v11 =>
 loadV tab 35 v11 H2 fun v12 =>
 lenV tab 35 v12 fun v13 =>
 CallT Tryz.prog 63 [v13, (AV.p (.int .i64 1)), (AV.p (.int .i64 6))] H2 fun v14 H3 =>
 unV .not v14 fun v15 =>
 condV v15 (K (AV.p (.bool false)) H3)
 (fieldAddrV tab 37 v1 3 fun v17 =>
 loadV tab 35 v17 H3 fun v18 =>
 lenV tab 35 v18 fun v19 =>
 L52_0 K v1 v18 v19 (AV.p (.int .i64 0)) H3))
 (K (AV.p (.bool false)) H2)
theorem W52_wp (v0 : AV) (H : Heap) (K : AV → Heap → Prop) : wpC Tryz.prog tab D52 (bodyOf Tryz.f52) (retF tab [.tmp 2] K) (nthA [v0]) H = W52 v0 H K := by kernel_rfl
theorem W52_ok {v0 : AV} {H : Heap} {K : AV → Heap → Prop} (h : W52 v0 H K) : CallT Tryz.prog 52 [v0] H K :=
  CallT.of_wp (D := D52) tab_ok mixed Tryz.func52 (c := bodyOf Tryz.f52) (by kernel_rfl) rfl (by kernel_rfl) (rs := #[.tmp 2]) rfl (by decide +kernel) (by kernel_rfl) (W52_wp v0 H K) h
theorem L52_0_rule {K : AV → Heap → Prop} {v1 v18 v19 v20 : AV} {H : Heap} {σ : Type} (s0 : σ) (f20 : σ → AV) (TH : σ → Heap) (pre : σ → Prop) (μ : σ → Nat)
    (h0 : pre s0 ∧ AV.wk v20 (f20 s0) ∧ Heap.le (TH s0) H)
    (round : ∀ s, pre s → B52_0 K (fun w20 H' => ∃ s', pre s' ∧ μ s' < μ s ∧ AV.wk w20 (f20 s') ∧ Heap.le (TH s') H') v1 v18 v19 (f20 s) (TH s)) :
    L52_0 K v1 v18 v19 v20 H := by
  unfold L52_0
  exact LoopV.mk s0 (fun s => [f20 s]) TH pre μ (fun _ => rfl) (Eq.mp (by kernel_rfl) h0) (fun s hs => Eq.mp (by kernel_rfl) (round s hs))
/-- loop.example/g00649/spec.l7Many -/
def D53 : Info := ⟨10, fun i => ([], []), fun i => ([], [])⟩
def W53 (v0 : AV) (H : Heap) (K : AV → Heap → Prop) : Prop :=
 boxV v0 H fun v1 H1 =>
 fieldAddrV tab 37 v1 0 fun v3 =>
 loadV tab 3 v3 H1 fun v4 =>
 fieldAddrV tab 37 v1 1 fun v5 =>
 loadV tab 3 v5 H1 fun v6 =>
 binV tab .mul 3 v4 v6 fun v7 =>
 convV tab 3 109 v7 fun v8 =>
 binV tab .shl 3 (AV.p (.int .i64 1)) v8 fun v9 =>
 K v9 H1
theorem W53_wp (v0 : AV) (H : Heap) (K : AV → Heap → Prop) : wpC Tryz.prog tab D53 (bodyOf Tryz.f53) (retF tab [.tmp 2] K) (nthA [v0]) H = W53 v0 H K := by kernel_rfl
theorem W53_ok {v0 : AV} {H : Heap} {K : AV → Heap → Prop} (h : W53 v0 H K) : CallT Tryz.prog 53 [v0] H K :=
  CallT.of_wp (D := D53) tab_ok mixed Tryz.func53 (c := bodyOf Tryz.f53) (by kernel_rfl) rfl (by kernel_rfl) (rs := #[.tmp 2]) rfl (by decide +kernel) (by kernel_rfl) (W53_wp v0 H K) h
/-- loop.example/g00649/laws.toCommand -/
def D54 : Info := ⟨13, fun i => ([], []), fun i => ([], [])⟩
def W54 (v0 : AV) (H : Heap) (K : AV → Heap → Prop) : Prop :=
 boxV v0 H fun v1 H1 =>
 allocV tab 92 H1 fun v2 H2 =>
 allocV tab 92 H2 fun v3 H3 =>
 fieldAddrV tab 88 v1 0 fun v4 =>
 loadV tab 22 v4 H3 fun v5 =>
 CallT Tryz.prog 22 [v5] H3 fun v6 H4 =>
 fieldAddrV tab 92 v3 0 fun v7 =>
 storeV tab 34 v7 v6 H4 fun H5 =>
 fieldAddrV tab 88 v1 1 fun v8 =>
 loadV tab 86 v8 H5 fun v9 =>
 CallT Tryz.prog 70 [v9] H5 fun v10 H6 =>
 fieldAddrV tab 92 v3 1 fun v11 =>
 storeV tab 90 v11 v10 H6 fun H7 =>
 loadV tab 92 v3 H7 fun v12 =>
 storeV tab 92 v2 v12 H7 fun H8 =>
 loadV tab 92 v2 H8 fun r0 =>
 K r0 H8
theorem W54_wp (v0 : AV) (H : Heap) (K : AV → Heap → Prop) : wpC Tryz.prog tab D54 (bodyOf Tryz.f54) (retF tab [.cell 2 92] K) (nthA [v0]) H = W54 v0 H K := by kernel_rfl
theorem W54_ok {v0 : AV} {H : Heap} {K : AV → Heap → Prop} (h : W54 v0 H K) : CallT Tryz.prog 54 [v0] H K :=
  CallT.of_wp (D := D54) tab_ok mixed Tryz.func54 (c := bodyOf Tryz.f54) (by kernel_rfl) rfl (by kernel_rfl) (rs := #[.cell 2 92]) rfl (by decide +kernel) (by kernel_rfl) (W54_wp v0 H K) h
/-- loop.example/g00649/impl.GoodProgram -/
def D55 : Info := ⟨37, fun i => ([], []), fun i => ([], [])⟩
def W55 (v0 : AV) (H : Heap) (K : AV → Heap → Prop) : Prop :=
 boxV v0 H fun v1 H1 =>
 fieldAddrV tab 37 v1 0 fun v3 =>
 loadV tab 3 v3 H1 fun v4 =>
 CallT Tryz.prog 71 [v4] H1 fun v5 H2 =>
 unV .not v5 fun v6 =>
 grdV v6 false (fieldAddrV tab 37 v1 1 fun v8 =>
 loadV tab 3 v8 H2 fun v9 =>
 CallT Tryz.prog 72 [v9] H2 fun v10 H3 =>
 unV .not v10 fun v11 =>
 grdV v11 false (loadV tab 37 v1 H3 fun v14 =>
 fieldAddrV tab 37 v1 2 fun v15 =>
 loadV tab 34 v15 H3 fun v16 =>
 CallT Tryz.prog 58 [v14, v16] H3 fun v17 H4 =>
 unV .not v17 fun v18 =>
 grdV v18 false (fieldAddrV tab 37 v1 3 fun v21 =>
 loadV tab 35 v21 H4 fun v22 =>
 lenV tab 35 v22 fun v23 =>
 binV tab .lss 3 v23 (AV.p (.int .i64 1)) fun v24 =>
 grdV v24 false (fieldAddrV tab 37 v1 3 fun v27 =>
 loadV tab 35 v27 H4 fun v28 =>
 lenV tab 35 v28 fun v29 =>
 binV tab .gtr 3 v29 (AV.p (.int .i64 6)) fun v30 =>
 condV v30 (K (AV.p (.bool false)) H4)
 (fieldAddrV tab 37 v1 3 fun v32 =>
 loadV tab 35 v32 H4 fun v33 =>
 CallT Tryz.prog 73 [v33, (.fn 74 [v1])] H4 fun v35 H5 =>
 unV .not v35 fun v36 =>
 K v36 H5))
 (K (AV.p (.bool false)) H4))
 (K (AV.p (.bool false)) H4))
 (K (AV.p (.bool false)) H3))
 (K (AV.p (.bool false)) H2)
theorem W55_wp (v0 : AV) (H : Heap) (K : AV → Heap → Prop) : wpC Tryz.prog tab D55 (bodyOf Tryz.f55) (retF tab [.tmp 2] K) (nthA [v0]) H = W55 v0 H K := by kernel_rfl
theorem W55_ok {v0 : AV} {H : Heap} {K : AV → Heap → Prop} (h : W55 v0 H K) : CallT Tryz.prog 55 [v0] H K :=
  CallT.of_wp (D := D55) tab_ok mixed Tryz.func55 (c := bodyOf Tryz.f55) (by kernel_rfl) rfl (by kernel_rfl) (rs := #[.tmp 2]) rfl (by decide +kernel) (by kernel_rfl) (W55_wp v0 H K) h
/-- slices.ContainsFunc[[][]loop.example/g00649/impl.Node,[]loop.example/g00649/impl.Node] -/
def D56 : Info := ⟨9, fun i => ([], []), fun i => ([], [])⟩
def W56 (v0 : AV) (v1 : AV) (H : Heap) (K : AV → Heap → Prop) : Prop :=
 CallT Tryz.prog 76 [v0, v1] H fun v7 H1 =>
 binV tab .geq 3 v7 (AV.p (.int .i64 0)) fun v8 =>
 K v8 H1
theorem W56_wp (v0 : AV) (v1 : AV) (H : Heap) (K : AV → Heap → Prop) : wpC Tryz.prog tab D56 (bodyOf Tryz.f56) (retF tab [.tmp 4] K) (nthA [v0, v1]) H = W56 v0 v1 H K := by kernel_rfl
theorem W56_ok {v0 v1 : AV} {H : Heap} {K : AV → Heap → Prop} (h : W56 v0 v1 H K) : CallT Tryz.prog 56 [v0, v1] H K :=
  CallT.of_wp (D := D56) tab_ok mixed Tryz.func56 (c := bodyOf Tryz.f56) (by kernel_rfl) rfl (by kernel_rfl) (rs := #[.tmp 4]) rfl (by decide +kernel) (by kernel_rfl) (W56_wp v0 v1 H K) h
/-- (loop.example/g00649/impl.Program).arePreds$1 -/
def D57 : Info := ⟨8, fun i => ([], []), fun i => ([], [])⟩
def W57 (v0 : AV) (v1 : AV) (H : Heap) (K : AV → Heap → Prop) : Prop :=
 loadV tab 37 v1 H fun v4 =>
 CallT Tryz.prog 58 [v4, v0] H fun v6 H1 =>
 unV .not v6 fun v7 =>
 K v7 H1
theorem W57_wp (v0 : AV) (v1 : AV) (H : Heap) (K : AV → Heap → Prop) : wpC Tryz.prog tab D57 (bodyOf Tryz.f57) (retF tab [.tmp 3] K) (nthA [v0, v1]) H = W57 v0 v1 H K := by kernel_rfl
theorem W57_ok {v0 v1 : AV} {H : Heap} {K : AV → Heap → Prop} (h : W57 v0 v1 H K) : CallT Tryz.prog 57 [v0, v1] H K :=
  CallT.of_wp (D := D57) tab_ok mixed Tryz.func57 (c := bodyOf Tryz.f57) (by kernel_rfl) rfl (by kernel_rfl) (rs := #[.tmp 3]) rfl (by decide +kernel) (by kernel_rfl) (W57_wp v0 v1 H K) h
/-- (loop.example/g00649/impl.Program).isCondition -/
def D58 : Info := ⟨11, fun i => ([], []), fun i => ([], [])⟩
def W58 (v0 : AV) (v1 : AV) (H : Heap) (K : AV → Heap → Prop) : Prop :=
 boxV v0 H fun v2 H1 =>
 fieldAddrV tab 37 v2 0 fun v5 =>
 loadV tab 3 v5 H1 fun v6 =>
 fieldAddrV tab 37 v2 1 fun v7 =>
 loadV tab 3 v7 H1 fun v8 =>
 CallT Tryz.prog 77 [v6, v8, v1, (AV.p (.int .i64 2))] H1 fun v10 H2 =>
 K v10 H2
theorem W58_wp (v0 : AV) (v1 : AV) (H : Heap) (K : AV → Heap → Prop) : wpC Tryz.prog tab D58 (bodyOf Tryz.f58) (retF tab [.tmp 4] K) (nthA [v0, v1]) H = W58 v0 v1 H K := by kernel_rfl
theorem W58_ok {v0 v1 : AV} {H : Heap} {K : AV → Heap → Prop} (h : W58 v0 v1 H K) : CallT Tryz.prog 58 [v0, v1] H K :=
  CallT.of_wp (D := D58) tab_ok mixed Tryz.func58 (c := bodyOf Tryz.f58) (by kernel_rfl) rfl (by kernel_rfl) (rs := #[.tmp 4]) rfl (by decide +kernel) (by kernel_rfl) (W58_wp v0 v1 H K) h
/-- loop.example/g00649/impl.mask -/
def D59 : Info := ⟨6, fun i => ([], []), fun i => ([], [])⟩
def W59 (v0 : AV) (H : Heap) (K : AV → Heap → Prop) : Prop :=
 binV tab .sub 3 (AV.p (.int .i64 64)) v0 fun v4 =>
 binV tab .shr 68 (AV.p (.int .u64 18446744073709551615)) v4 fun v5 =>
 K v5 H
theorem W59_wp (v0 : AV) (H : Heap) (K : AV → Heap → Prop) : wpC Tryz.prog tab D59 (bodyOf Tryz.f59) (retF tab [.tmp 2] K) (nthA [v0]) H = W59 v0 H K := by kernel_rfl
theorem W59_ok {v0 : AV} {H : Heap} {K : AV → Heap → Prop} (h : W59 v0 H K) : CallT Tryz.prog 59 [v0] H K :=
  CallT.of_wp (D := D59) tab_ok mixed Tryz.func59 (c := bodyOf Tryz.f59) (by kernel_rfl) rfl (by kernel_rfl) (rs := #[.tmp 2]) rfl (by decide +kernel) (by kernel_rfl) (W59_wp v0 H K) h
/-- loop.example/g00649/impl.apply -/
def D60 : Info := ⟨98, fun i => ([], []), fun i => ([], [])⟩
def J60_0 (K : AV → Heap → Prop) (v0 : AV) (v1 : AV) (v2 : AV) (v3 : AV) (v9 : AV) (v10 : AV) (v63 : AV) (H : Heap) : Prop :=
 condV v63 (binV tab .eql 3 v1 (AV.p (.int .i64 11)) fun v70 =>
 CallT Tryz.prog 79 [v0, v2, v3, v70] H fun v71 H12 =>
 CallT Tryz.prog 59 [v0] H12 fun v96 H13 =>
 binV tab .and 68 v71 v96 fun v97 =>
 K v97 H13)
 (binV tab .eql 3 v10 (AV.p (.int .i64 14)) fun v73 =>
 condV v73 (binV tab .eql 68 v2 v3 fun v76 =>
 CallT Tryz.prog 80 [v76] H fun v77 H14 =>
 CallT Tryz.prog 59 [v0] H14 fun v96 H15 =>
 binV tab .and 68 v77 v96 fun v97 =>
 K v97 H15)
 (binV tab .eql 3 v10 (AV.p (.int .i64 15)) fun v79 =>
 condV v79 (binV tab .lss 68 v2 v3 fun v82 =>
 CallT Tryz.prog 80 [v82] H fun v83 H16 =>
 CallT Tryz.prog 59 [v0] H16 fun v96 H17 =>
 binV tab .and 68 v83 v96 fun v97 =>
 K v97 H17)
 (binV tab .eql 3 v10 (AV.p (.int .i64 16)) fun v85 =>
 condV v85 (CallT Tryz.prog 81 [v0, v2] H fun v88 H18 =>
 CallT Tryz.prog 81 [v0, v3] H18 fun v91 H19 =>
 binV tab .lss 2 v88 v91 fun v92 =>
 CallT Tryz.prog 80 [v92] H19 fun v93 H20 =>
 CallT Tryz.prog 59 [v0] H20 fun v96 H21 =>
 binV tab .and 68 v93 v96 fun v97 =>
 K v97 H21)
 (CallT Tryz.prog 59 [v0] H fun v96 H22 =>
 binV tab .and 68 v9 v96 fun v97 =>
 K v97 H22))))
def J60_1 (K : AV → Heap → Prop) (v0 : AV) (v1 : AV) (v2 : AV) (v3 : AV) (v9 : AV) (v10 : AV) (v52 : AV) (H : Heap) : Prop :=
 condV v52 (binV tab .or 68 v2 v3 fun v57 =>
 CallT Tryz.prog 59 [v0] H fun v96 H10 =>
 binV tab .and 68 v57 v96 fun v97 =>
 K v97 H10)
 (binV tab .eql 3 v10 (AV.p (.int .i64 10)) fun v59 =>
 condV v59 (binV tab .xor 68 v2 v3 fun v62 =>
 CallT Tryz.prog 59 [v0] H fun v96 H11 =>
 binV tab .and 68 v62 v96 fun v97 =>
 K v97 H11)
 (binV tab .eql 3 v10 (AV.p (.int .i64 11)) fun v64 =>
 condV v64 (J60_0 K v0 v1 v2 v3 v9 v10 v64 H)
 (binV tab .eql 3 v10 (AV.p (.int .i64 12)) fun v65 =>
 J60_0 K v0 v1 v2 v3 v9 v10 v65 H)))
def J60_2 (K : AV → Heap → Prop) (v0 : AV) (v1 : AV) (v2 : AV) (v3 : AV) (v9 : AV) (v10 : AV) (v46 : AV) (H : Heap) : Prop :=
 condV v46 (binV tab .and 68 v2 v3 fun v51 =>
 CallT Tryz.prog 59 [v0] H fun v96 H9 =>
 binV tab .and 68 v51 v96 fun v97 =>
 K v97 H9)
 (binV tab .eql 3 v10 (AV.p (.int .i64 9)) fun v53 =>
 condV v53 (J60_1 K v0 v1 v2 v3 v9 v10 v53 H)
 (binV tab .eql 3 v10 (AV.p (.int .i64 18)) fun v54 =>
 J60_1 K v0 v1 v2 v3 v9 v10 v54 H))
def W60 (v0 : AV) (v1 : AV) (v2 : AV) (v3 : AV) (H : Heap) (K : AV → Heap → Prop) : Prop :=
 binV tab .eql 3 v1 (AV.p (.int .i64 3)) fun v12 =>
 condV v12 (binV tab .add 68 v2 v3 fun v15 =>
 CallT Tryz.prog 59 [v0] H fun v96 H2 =>
 binV tab .and 68 v15 v96 fun v97 =>
 K v97 H2)
 (binV tab .eql 3 v1 (AV.p (.int .i64 4)) fun v17 =>
 condV v17 (binV tab .sub 68 v2 v3 fun v20 =>
 CallT Tryz.prog 59 [v0] H fun v96 H3 =>
 binV tab .and 68 v20 v96 fun v97 =>
 K v97 H3)
 (binV tab .eql 3 v1 (AV.p (.int .i64 5)) fun v22 =>
 condV v22 (binV tab .mul 68 v2 v3 fun v25 =>
 CallT Tryz.prog 59 [v0] H fun v96 H4 =>
 binV tab .and 68 v25 v96 fun v97 =>
 K v97 H4)
 (binV tab .eql 3 v1 (AV.p (.int .i64 6)) fun v27 =>
 condV v27 (CallT Tryz.prog 78 [v0, v2, v3] H fun v32 H5 =>
 extractV v32 0 fun v33 =>
 extractV v32 1 fun v34 =>
 extractV v32 2 fun v35 =>
 CallT Tryz.prog 59 [v0] H5 fun v96 H6 =>
 binV tab .and 68 v33 v96 fun v97 =>
 K v97 H6)
 (binV tab .eql 3 v1 (AV.p (.int .i64 7)) fun v37 =>
 condV v37 (CallT Tryz.prog 78 [v0, v2, v3] H fun v42 H7 =>
 extractV v42 0 fun v43 =>
 extractV v42 1 fun v44 =>
 extractV v42 2 fun v45 =>
 CallT Tryz.prog 59 [v0] H7 fun v96 H8 =>
 binV tab .and 68 v44 v96 fun v97 =>
 K v97 H8)
 (binV tab .eql 3 v1 (AV.p (.int .i64 8)) fun v47 =>
 condV v47 (J60_2 K v0 v1 v2 v3 (AV.p (.int .u64 0)) v1 v47 H)
 (binV tab .eql 3 v1 (AV.p (.int .i64 17)) fun v48 =>
 J60_2 K v0 v1 v2 v3 (AV.p (.int .u64 0)) v1 v48 H))))))
theorem W60_wp (v0 : AV) (v1 : AV) (v2 : AV) (v3 : AV) (H : Heap) (K : AV → Heap → Prop) : wpC Tryz.prog tab D60 (bodyOf Tryz.f60) (retF tab [.tmp 8] K) (nthA [v0, v1, v2, v3]) H = W60 v0 v1 v2 v3 H K := by kernel_rfl
theorem W60_ok {v0 v1 v2 v3 : AV} {H : Heap} {K : AV → Heap → Prop} (h : W60 v0 v1 v2 v3 H K) : CallT Tryz.prog 60 [v0, v1, v2, v3] H K :=
  CallT.of_wp (D := D60) tab_ok mixed Tryz.func60 (c := bodyOf Tryz.f60) (by kernel_rfl) rfl (by kernel_rfl) (rs := #[.tmp 8]) rfl (by decide +kernel) (by kernel_rfl) (W60_wp v0 v1 v2 v3 H K) h
/-- loop.example/g00649/laws.eqCommand -/
def D61 : Info := ⟨17, fun i => ([], []), fun i => ([], [])⟩
def W61 (v0 : AV) (v1 : AV) (H : Heap) (K : AV → Heap → Prop) : Prop :=
 boxV v0 H fun v2 H1 =>
 boxV v1 H1 fun v3 H2 =>
 fieldAddrV tab 92 v2 0 fun v5 =>
 loadV tab 34 v5 H2 fun v6 =>
 fieldAddrV tab 92 v3 0 fun v7 =>
 loadV tab 34 v7 H2 fun v8 =>
 CallT Tryz.prog 24 [v6, v8] H2 fun v9 H3 =>
 unV .not v9 fun v10 =>
 condV v10 (K (AV.p (.bool false)) H3)
 (fieldAddrV tab 92 v2 1 fun v11 =>
 loadV tab 90 v11 H3 fun v12 =>
 fieldAddrV tab 92 v3 1 fun v13 =>
 loadV tab 90 v13 H3 fun v14 =>
 CallT Tryz.prog 82 [v12, v14] H3 fun v15 H4 =>
 unV .not v15 fun v16 =>
 condV v16 (K (AV.p (.bool false)) H4)
 (K (AV.p (.bool true)) H4))
theorem W61_wp (v0 : AV) (v1 : AV) (H : Heap) (K : AV → Heap → Prop) : wpC Tryz.prog tab D61 (bodyOf Tryz.f61) (retF tab [.tmp 4] K) (nthA [v0, v1]) H = W61 v0 v1 H K := by kernel_rfl
theorem W61_ok {v0 v1 : AV} {H : Heap} {K : AV → Heap → Prop} (h : W61 v0 v1 H K) : CallT Tryz.prog 61 [v0, v1] H K :=
  CallT.of_wp (D := D61) tab_ok mixed Tryz.func61 (c := bodyOf Tryz.f61) (by kernel_rfl) rfl (by kernel_rfl) (rs := #[.tmp 4]) rfl (by decide +kernel) (by kernel_rfl) (W61_wp v0 v1 H K) h
/-- loop.example/g00649/laws.markChangeS -/
def D62 : Info := ⟨27, fun i => ([], []), fun i => if i = 2 then ([0], [1, 5]) else ([], [])⟩
def L62_0 (K : AV → Heap → Prop) (v0 : AV) (v1 : AV) (v5 : AV) (H : Heap) : Prop := LoopV (wpC Tryz.prog tab D62 (cAt [1, 0, 1, 0, 0] (bodyOf Tryz.f62))) [0] (PostF.block 0 (PostF.thenA (wpC Tryz.prog tab D62 (cAt [1, 1] (bodyOf Tryz.f62))) (retF tab [.tmp 4] K))) [1, 5] [v0, v1, AV.any, AV.any, AV.any, v5, AV.any, AV.any, AV.any, AV.any, AV.any, AV.any, AV.any, AV.any, AV.any, AV.any, AV.any, AV.any, AV.any, AV.any, AV.any, AV.any, AV.any, AV.any, AV.any, AV.any, AV.any] H
def B62_0 (K : AV → Heap → Prop) (N1 : AV → AV → Heap → Prop) (v0 : AV) (v1 : AV) (v5 : AV) (H : Heap) : Prop :=
 lenV tab 90 v0 fun v8 =>
 binV tab .lss 3 v5 v8 fun v9 =>
 condV v9 (indexAddrV tab 90 v0 v5 fun v15 =>
 fieldAddrV tab 123 v15 0 fun v16 =>
 storeV tab 3 v16 v1 H fun H1 =>
 binV tab .add 3 v1 (AV.p (.int .i64 1)) fun v18 =>
 indexAddrV tab 90 v0 v5 fun v21 =>
 fieldAddrV tab 123 v21 1 fun v22 =>
 loadV tab 34 v22 H1 fun v23 =>
 CallT Tryz.prog 25 [v23, v18] H1 fun v25 H2 =>
 binV tab .add 3 v5 (AV.p (.int .i64 1)) fun v11 =>
 N1 v25 v11 H2)
 (K v1 H)
def W62 (v0 : AV) (v1 : AV) (H : Heap) (K : AV → Heap → Prop) : Prop :=
 L62_0 K v0 v1 (AV.p (.int .i64 0)) H
theorem W62_wp (v0 : AV) (v1 : AV) (H : Heap) (K : AV → Heap → Prop) : wpC Tryz.prog tab D62 (bodyOf Tryz.f62) (retF tab [.tmp 4] K) (nthA [v0, v1]) H = W62 v0 v1 H K := by kernel_rfl
theorem W62_ok {v0 v1 : AV} {H : Heap} {K : AV → Heap → Prop} (h : W62 v0 v1 H K) : CallT Tryz.prog 62 [v0, v1] H K :=
  CallT.of_wp (D := D62) tab_ok mixed Tryz.func62 (c := bodyOf Tryz.f62) (by kernel_rfl) rfl (by kernel_rfl) (rs := #[.tmp 4]) rfl (by decide +kernel) (by kernel_rfl) (W62_wp v0 v1 H K) h
theorem L62_0_rule {K : AV → Heap → Prop} {v0 v1 v5 : AV} {H : Heap} {σ : Type} (s0 : σ) (f1 : σ → AV) (f5 : σ → AV) (TH : σ → Heap) (pre : σ → Prop) (μ : σ → Nat)
    (h0 : pre s0 ∧ AV.wk v1 (f1 s0) ∧ AV.wk v5 (f5 s0) ∧ Heap.le (TH s0) H)
    (round : ∀ s, pre s → B62_0 K (fun w1 w5 H' => ∃ s', pre s' ∧ μ s' < μ s ∧ AV.wk w1 (f1 s') ∧ AV.wk w5 (f5 s') ∧ Heap.le (TH s') H') v0 (f1 s) (f5 s) (TH s)) :
    L62_0 K v0 v1 v5 H := by
  unfold L62_0
  exact LoopV.mk s0 (fun s => [f1 s, f5 s]) TH pre μ (fun _ => rfl) (Eq.mp (by kernel_rfl) h0) (fun s hs => Eq.mp (by kernel_rfl) (round s hs))
/-- loop.example/g00649/spec.l1In -/
def D63 : Info := ⟨15, fun i => ([], []), fun i => ([], [])⟩
def W63 (v0 : AV) (v1 : AV) (v2 : AV) (H : Heap) (K : AV → Heap → Prop) : Prop :=
 binV tab .geq 3 v0 v1 fun v9 =>
 grdV v9 true (binV tab .leq 3 v0 v2 fun v13 =>
 K v13 H)
 (K (AV.p (.bool false)) H)
theorem W63_wp (v0 : AV) (v1 : AV) (v2 : AV) (H : Heap) (K : AV → Heap → Prop) : wpC Tryz.prog tab D63 (bodyOf Tryz.f63) (retF tab [.tmp 6] K) (nthA [v0, v1, v2]) H = W63 v0 v1 v2 H K := by kernel_rfl
theorem W63_ok {v0 v1 v2 : AV} {H : Heap} {K : AV → Heap → Prop} (h : W63 v0 v1 v2 H K) : CallT Tryz.prog 63 [v0, v1, v2] H K :=
  CallT.of_wp (D := D63) tab_ok mixed Tryz.func63 (c := bodyOf Tryz.f63) (by kernel_rfl) rfl (by kernel_rfl) (rs := #[.tmp 6]) rfl (by decide +kernel) (by kernel_rfl) (W63_wp v0 v1 v2 H K) h
end Go.Proofs.YtdnfiacjoghfkaaGreat
/- What each function's code is asked for, as a formula. Written by wgen.py (a program of this session's) out of Lean's print of the program. -/
namespace Go.Proofs.YtdnfiacjoghfkaaGreat
open Go Go.Sep
set_option linter.unusedVariables false
attribute [local irreducible] wpC headF
/-- loop.example/g00649/spec.l2Kind -/
def D64 : Info := ⟨83, fun i => ([], []), fun i => if i = 5 then ([0, 1, 27, 28], [7, 29]) else if i = 10 then ([0, 1, 11, 12, 27, 28, 29], [7, 10]) else ([], [])⟩
def L64_0 (K : AV → Heap → Prop) (v0 : AV) (v1 : AV) (v7 : AV) (v27 : AV) (v28 : AV) (v29 : AV) (H : Heap) : Prop := LoopV (wpC Tryz.prog tab D64 (cAt [1, 1, 1, 0, 1, 0, 0] (bodyOf Tryz.f64))) [0, 1, 27, 28] (PostF.block 0 (PostF.thenA (wpC Tryz.prog tab D64 (cAt [1, 1, 1, 1] (bodyOf Tryz.f64))) (retF tab [.tmp 6] K))) [7, 29] [v0, v1, AV.any, AV.any, AV.any, AV.any, AV.any, v7, AV.any, AV.any, AV.any, AV.any, AV.any, AV.any, AV.any, AV.any, AV.any, AV.any, AV.any, AV.any, AV.any, AV.any, AV.any, AV.any, AV.any, AV.any, AV.any, v27, v28, v29, AV.any, AV.any, AV.any, AV.any, AV.any, AV.any, AV.any, AV.any, AV.any, AV.any, AV.any, AV.any, AV.any, AV.any, AV.any, AV.any, AV.any, AV.any, AV.any, AV.any, AV.any, AV.any, AV.any, AV.any, AV.any, AV.any, AV.any, AV.any, AV.any, AV.any, AV.any, AV.any, AV.any, AV.any, AV.any, AV.any, AV.any, AV.any, AV.any, AV.any, AV.any, AV.any, AV.any, AV.any, AV.any, AV.any, AV.any, AV.any, AV.any, AV.any, AV.any, AV.any, AV.any] H
def L64_1 (K : AV → Heap → Prop) (N1 : AV → AV → Heap → Prop) (v0 : AV) (v1 : AV) (v7 : AV) (v10 : AV) (v11 : AV) (v12 : AV) (v27 : AV) (v28 : AV) (v29 : AV) (H : Heap) : Prop := LoopV (wpC Tryz.prog tab D64 (cAt [1, 1, 1, 0, 1, 0, 0, 1, 1, 0, 0, 1, 1, 1, 0, 0, 0] (bodyOf Tryz.f64))) [0, 1, 11, 12, 27, 28, 29] (PostF.block 2 (PostF.thenA (wpC Tryz.prog tab D64 (cAt [1, 1, 1, 0, 1, 0, 0, 1, 1, 0, 0, 1, 1, 1, 1] (bodyOf Tryz.f64))) (PostF.block 1 (PostF.thenA (wpC Tryz.prog tab D64 (cAt [1, 1, 1, 0, 1, 0, 0, 1, 1, 1] (bodyOf Tryz.f64))) (loopF (PostF.block 0 (PostF.thenA (wpC Tryz.prog tab D64 (cAt [1, 1, 1, 1] (bodyOf Tryz.f64))) (retF tab [.tmp 6] K))) (fun e h => N1 (e 7) (e 29) h)))))) [7, 10] [v0, v1, AV.any, AV.any, AV.any, AV.any, AV.any, v7, AV.any, AV.any, v10, v11, v12, AV.any, AV.any, AV.any, AV.any, AV.any, AV.any, AV.any, AV.any, AV.any, AV.any, AV.any, AV.any, AV.any, AV.any, v27, v28, v29, AV.any, AV.any, AV.any, AV.any, AV.any, AV.any, AV.any, AV.any, AV.any, AV.any, AV.any, AV.any, AV.any, AV.any, AV.any, AV.any, AV.any, AV.any, AV.any, AV.any, AV.any, AV.any, AV.any, AV.any, AV.any, AV.any, AV.any, AV.any, AV.any, AV.any, AV.any, AV.any, AV.any, AV.any, AV.any, AV.any, AV.any, AV.any, AV.any, AV.any, AV.any, AV.any, AV.any, AV.any, AV.any, AV.any, AV.any, AV.any, AV.any, AV.any, AV.any, AV.any, AV.any] H
def B64_1 (K : AV → Heap → Prop) (N1 : AV → AV → Heap → Prop) (N2 : AV → AV → Heap → Prop) (v0 : AV) (v1 : AV) (v7 : AV) (v10 : AV) (v11 : AV) (v12 : AV) (v27 : AV) (v28 : AV) (v29 : AV) (H : Heap) : Prop :=
 binV tab .gtr 3 v10 (AV.p (.int .i64 0)) fun v56 =>
 condV v56 (lenV tab 29 v7 fun v61 =>
 binV tab .sub 3 v61 (AV.p (.int .i64 1)) fun v62 =>
 indexAddrV tab 29 v7 v62 fun v63 =>
 loadV tab 3 v63 H fun v64 =>
 binV tab .neq 3 v64 v11 fun v66 =>
 condV v66 (K (AV.p (.int .i64 0)) H)
 (lenV tab 29 v7 fun v69 =>
 binV tab .sub 3 v69 (AV.p (.int .i64 1)) fun v70 =>
 sliceV tab 29 v7 none (some v70) none fun v71 =>
 binV tab .sub 3 v10 (AV.p (.int .i64 1)) fun v58 =>
 N2 v71 v58 H))
 (buildSliceV tab 29 1 [(0, v12)] H (wkK fun v74 H8 =>
 appendV tab 29 29 v7 v74 H8 (wkK fun v75 H9 =>
 binV tab .add 3 v29 (AV.p (.int .i64 1)) fun v76 =>
 N1 v75 v76 H9)))
def B64_0 (K : AV → Heap → Prop) (N1 : AV → AV → Heap → Prop) (v0 : AV) (v1 : AV) (v7 : AV) (v27 : AV) (v28 : AV) (v29 : AV) (H : Heap) : Prop :=
 binV tab .lss 3 v29 v28 fun v30 =>
 condV v30 (indexAddrV tab 34 v27 v29 fun v31 =>
 loadV tab 80 v31 H fun v32 =>
 allocV tab 80 H fun v9 H4 =>
 storeV tab 80 v9 v32 H4 fun H5 =>
 fieldAddrV tab 80 v9 0 fun v34 =>
 loadV tab 3 v34 H5 fun v35 =>
 CallT Tryz.prog 84 [v35] H5 fun v36 H6 =>
 extractV v36 0 fun v37 =>
 extractV v36 1 fun v38 =>
 extractV v36 2 fun v39 =>
 binV tab .eql 3 v39 (AV.p (.int .i64 0)) fun v41 =>
 grdV v41 false (loadV tab 80 v9 H6 fun v45 =>
 CallT Tryz.prog 85 [v0, v1, v45] H6 fun v46 H7 =>
 unV .not v46 fun v47 =>
 grdV v47 false (lenV tab 29 v7 fun v51 =>
 binV tab .lss 3 v51 v37 fun v53 =>
 condV v53 (K (AV.p (.int .i64 0)) H7)
 (L64_1 K N1 v0 v1 v7 v37 v38 v39 v27 v28 v29 H7))
 (K (AV.p (.int .i64 0)) H7))
 (K (AV.p (.int .i64 0)) H6))
 (lenV tab 29 v7 fun v78 =>
 binV tab .neq 3 v78 (AV.p (.int .i64 1)) fun v79 =>
 condV v79 (K (AV.p (.int .i64 0)) H)
 (indexAddrV tab 29 v7 (AV.p (.int .i64 0)) fun v81 =>
 loadV tab 3 v81 H fun v82 =>
 K v82 H))
def W64 (v0 : AV) (v1 : AV) (v2 : AV) (H : Heap) (K : AV → Heap → Prop) : Prop :=
 CallT Tryz.prog 83 [v0] H fun v14 H1 =>
 unV .not v14 fun v15 =>
 grdV v15 false (CallT Tryz.prog 63 [v1, (AV.p (.int .i64 1)), (AV.p (.int .i64 4))] H1 fun v18 H2 =>
 unV .not v18 fun v19 =>
 grdV v19 false (lenV tab 34 v2 fun v23 =>
 CallT Tryz.prog 63 [v23, (AV.p (.int .i64 1)), (AV.p (.int .i64 48))] H2 fun v24 H3 =>
 unV .not v24 fun v25 =>
 condV v25 (K (AV.p (.int .i64 0)) H3)
 (lenV tab 34 v2 fun v28 =>
 L64_0 K v0 v1 (AV.p .nil) v2 v28 (AV.p (.int .i64 0)) H3))
 (K (AV.p (.int .i64 0)) H2))
 (K (AV.p (.int .i64 0)) H1)
theorem W64_wp (v0 : AV) (v1 : AV) (v2 : AV) (H : Heap) (K : AV → Heap → Prop) : wpC Tryz.prog tab D64 (bodyOf Tryz.f64) (retF tab [.tmp 6] K) (nthA [v0, v1, v2]) H = W64 v0 v1 v2 H K := by kernel_rfl
theorem W64_ok {v0 v1 v2 : AV} {H : Heap} {K : AV → Heap → Prop} (h : W64 v0 v1 v2 H K) : CallT Tryz.prog 64 [v0, v1, v2] H K :=
  CallT.of_wp (D := D64) tab_ok mixed Tryz.func64 (c := bodyOf Tryz.f64) (by kernel_rfl) rfl (by kernel_rfl) (rs := #[.tmp 6]) rfl (by decide +kernel) (by kernel_rfl) (W64_wp v0 v1 v2 H K) h
theorem W64_hb : HasBody Tryz.prog 64 := ⟨_, bodyOf Tryz.f64, Tryz.func64, by kernel_rfl, rfl⟩
theorem L64_1_rule {K : AV → Heap → Prop} {N1 : AV → AV → Heap → Prop} {v0 v1 v7 v10 v11 v12 v27 v28 v29 : AV} {H : Heap} {σ : Type} (s0 : σ) (f7 : σ → AV) (f10 : σ → AV) (TH : σ → Heap) (pre : σ → Prop) (μ : σ → Nat)
    (h0 : pre s0 ∧ AV.wk v7 (f7 s0) ∧ AV.wk v10 (f10 s0) ∧ Heap.le (TH s0) H)
    (round : ∀ s, pre s → B64_1 K N1 (fun w7 w10 H' => ∃ s', pre s' ∧ μ s' < μ s ∧ AV.wk w7 (f7 s') ∧ AV.wk w10 (f10 s') ∧ Heap.le (TH s') H') v0 v1 (f7 s) (f10 s) v11 v12 v27 v28 v29 (TH s)) :
    L64_1 K N1 v0 v1 v7 v10 v11 v12 v27 v28 v29 H := by
  unfold L64_1
  exact LoopV.mk s0 (fun s => [f7 s, f10 s]) TH pre μ (fun _ => rfl) (Eq.mp (by kernel_rfl) h0) (fun s hs => Eq.mp (by kernel_rfl) (round s hs))
theorem L64_0_rule {K : AV → Heap → Prop} {v0 v1 v7 v27 v28 v29 : AV} {H : Heap} {σ : Type} (s0 : σ) (f7 : σ → AV) (f29 : σ → AV) (TH : σ → Heap) (pre : σ → Prop) (μ : σ → Nat)
    (h0 : pre s0 ∧ AV.wk v7 (f7 s0) ∧ AV.wk v29 (f29 s0) ∧ Heap.le (TH s0) H)
    (round : ∀ s, pre s → B64_0 K (fun w7 w29 H' => ∃ s', pre s' ∧ μ s' < μ s ∧ AV.wk w7 (f7 s') ∧ AV.wk w29 (f29 s') ∧ Heap.le (TH s') H') v0 v1 (f7 s) v27 v28 (f29 s) (TH s)) :
    L64_0 K v0 v1 v7 v27 v28 v29 H := by
  unfold L64_0
  exact LoopV.mk s0 (fun s => [f7 s, f29 s]) TH pre μ (fun _ => rfl) (Eq.mp (by kernel_rfl) h0) (fun s hs => Eq.mp (by kernel_rfl) (round s hs))
/-- loop.example/g00649/spec.l15Cut -/
def D65 : Info := ⟨33, fun i => ([], []), fun i => if i = 3 then ([1, 4, 9, 10], [5, 11]) else ([], [])⟩
def L65_0 (K : AV → Heap → Prop) (v1 : AV) (v4 : AV) (v5 : AV) (v9 : AV) (v10 : AV) (v11 : AV) (H : Heap) : Prop := LoopV (wpC Tryz.prog tab D65 (cAt [1, 1, 0, 1, 0, 0] (bodyOf Tryz.f65))) [1, 4, 9, 10] (PostF.block 0 (PostF.thenA (wpC Tryz.prog tab D65 (cAt [1, 1, 1] (bodyOf Tryz.f65))) (retF tab [.cell 4 31] K))) [5, 11] [AV.any, v1, AV.any, AV.any, v4, v5, AV.any, AV.any, AV.any, v9, v10, v11, AV.any, AV.any, AV.any, AV.any, AV.any, AV.any, AV.any, AV.any, AV.any, AV.any, AV.any, AV.any, AV.any, AV.any, AV.any, AV.any, AV.any, AV.any, AV.any, AV.any, AV.any] H
def B65_0 (K : AV → Heap → Prop) (N1 : AV → AV → Heap → Prop) (v1 : AV) (v4 : AV) (v5 : AV) (v9 : AV) (v10 : AV) (v11 : AV) (H : Heap) : Prop :=
 binV tab .lss 3 v11 v10 fun v12 =>
 condV v12 (indexAddrV tab 29 v9 v11 fun v14 =>
 loadV tab 3 v14 H fun v15 =>
 CallT Tryz.prog 86 [v1, v11] H fun v18 H3 =>
 condV v18 (binV tab .mul 3 (AV.p (.int .i64 2)) v15 fun v21 =>
 binV tab .add 3 v21 (AV.p (.int .i64 1)) fun v22 =>
 buildSliceV tab 29 1 [(0, v22)] H3 (wkK fun v23 H4 =>
 appendV tab 29 29 v5 v23 H4 (wkK fun v24 H5 =>
 binV tab .add 3 v11 (AV.p (.int .i64 1)) fun v30 =>
 N1 v24 v30 H5)))
 (binV tab .mul 3 (AV.p (.int .i64 2)) v15 fun v27 =>
 buildSliceV tab 29 1 [(0, v27)] H3 (wkK fun v28 H6 =>
 appendV tab 29 29 v5 v28 H6 (wkK fun v29 H7 =>
 binV tab .add 3 v11 (AV.p (.int .i64 1)) fun v30 =>
 N1 v29 v30 H7))))
 (CallT Tryz.prog 87 [v5] H fun v32 H8 =>
 storeV tab 31 v4 v32 H8 fun H9 =>
 loadV tab 31 v4 H9 fun r0 =>
 K r0 H9)
def W65 (v0 : AV) (v1 : AV) (H : Heap) (K : AV → Heap → Prop) : Prop :=
 boxV v0 H fun v2 H1 =>
 allocV tab 31 H1 fun v4 H2 =>
 fieldAddrV tab 31 v2 0 fun v8 =>
 loadV tab 29 v8 H2 fun v9 =>
 lenV tab 29 v9 fun v10 =>
 L65_0 K v1 v4 (AV.p .nil) v9 v10 (AV.p (.int .i64 0)) H2
theorem W65_wp (v0 : AV) (v1 : AV) (H : Heap) (K : AV → Heap → Prop) : wpC Tryz.prog tab D65 (bodyOf Tryz.f65) (retF tab [.cell 4 31] K) (nthA [v0, v1]) H = W65 v0 v1 H K := by kernel_rfl
theorem W65_ok {v0 v1 : AV} {H : Heap} {K : AV → Heap → Prop} (h : W65 v0 v1 H K) : CallT Tryz.prog 65 [v0, v1] H K :=
  CallT.of_wp (D := D65) tab_ok mixed Tryz.func65 (c := bodyOf Tryz.f65) (by kernel_rfl) rfl (by kernel_rfl) (rs := #[.cell 4 31]) rfl (by decide +kernel) (by kernel_rfl) (W65_wp v0 v1 H K) h
theorem W65_hb : HasBody Tryz.prog 65 := ⟨_, bodyOf Tryz.f65, Tryz.func65, by kernel_rfl, rfl⟩
theorem L65_0_rule {K : AV → Heap → Prop} {v1 v4 v5 v9 v10 v11 : AV} {H : Heap} {σ : Type} (s0 : σ) (f5 : σ → AV) (f11 : σ → AV) (TH : σ → Heap) (pre : σ → Prop) (μ : σ → Nat)
    (h0 : pre s0 ∧ AV.wk v5 (f5 s0) ∧ AV.wk v11 (f11 s0) ∧ Heap.le (TH s0) H)
    (round : ∀ s, pre s → B65_0 K (fun w5 w11 H' => ∃ s', pre s' ∧ μ s' < μ s ∧ AV.wk w5 (f5 s') ∧ AV.wk w11 (f11 s') ∧ Heap.le (TH s') H') v1 v4 (f5 s) v9 v10 (f11 s) (TH s)) :
    L65_0 K v1 v4 v5 v9 v10 v11 H := by
  unfold L65_0
  exact LoopV.mk s0 (fun s => [f5 s, f11 s]) TH pre μ (fun _ => rfl) (Eq.mp (by kernel_rfl) h0) (fun s hs => Eq.mp (by kernel_rfl) (round s hs))
/-- loop.example/g00649/spec.l8Those -/
def D66 : Info := ⟨24, fun i => if i = 5 then ([[], [], [], [], [2, 3], [0, 1, 2, 3, 4]], [(0, []), (1, []), (2, []), (3, []), (4, [0]), (5, [])]) else ([], []), fun i => if i = 3 then ([1, 2], [5, 6]) else ([], [])⟩
def L66_0 (K : AV → Heap → Prop) (v1 : AV) (v2 : AV) (v5 : AV) (v6 : AV) (H : Heap) : Prop := LoopV (wpC Tryz.prog tab D66 (cAt [1, 1, 0, 1, 0, 0] (bodyOf Tryz.f66))) [1, 2] (PostF.block 0 (PostF.thenA (wpC Tryz.prog tab D66 (cAt [1, 1, 1] (bodyOf Tryz.f66))) (retF tab [.tmp 4] K))) [5, 6] [AV.any, v1, v2, AV.any, AV.any, v5, v6, AV.any, AV.any, AV.any, AV.any, AV.any, AV.any, AV.any, AV.any, AV.any, AV.any, AV.any, AV.any, AV.any, AV.any, AV.any, AV.any, AV.any] H
def B66_0 (K : AV → Heap → Prop) (N1 : AV → AV → Heap → Prop) (v1 : AV) (v2 : AV) (v5 : AV) (v6 : AV) (H : Heap) : Prop :=
 loadV tab 37 v2 H fun v8 =>
 CallT Tryz.prog 53 [v8] H fun v9 H2 =>
 binV tab .lss 3 v6 v9 fun v10 =>
 condV v10 (loadV tab 37 v2 H2 fun v13 =>
 loadV tab 37 v2 H2 fun v15 =>
 CallT Tryz.prog 89 [v15, v6] H2 fun v17 H3 =>
 (loadV tab 37 v2 H3 fun v9013 =>
 v13 = v9013) ∧
 CallT Tryz.prog 88 [v13, v1, v17] H3 fun v18 H4 =>
 condV v18 (buildSliceV tab 29 1 [(0, v6)] H4 (wkK fun v21 H5 =>
 appendV tab 29 29 v5 v21 H5 (wkK fun v22 H6 =>
 binV tab .add 3 v6 (AV.p (.int .i64 1)) fun v12 =>
 N1 v22 v12 H6)))
 (binV tab .add 3 v6 (AV.p (.int .i64 1)) fun v12 =>
 N1 v5 v12 H4))
 (K v5 H2)
def W66 (v0 : AV) (v1 : AV) (H : Heap) (K : AV → Heap → Prop) : Prop :=
 boxV v0 H fun v2 H1 =>
 L66_0 K v1 v2 (AV.p .nil) (AV.p (.int .i64 0)) H1
theorem W66_wp (v0 : AV) (v1 : AV) (H : Heap) (K : AV → Heap → Prop) : wpC Tryz.prog tab D66 (bodyOf Tryz.f66) (retF tab [.tmp 4] K) (nthA [v0, v1]) H = W66 v0 v1 H K := by kernel_rfl
theorem W66_ok {v0 v1 : AV} {H : Heap} {K : AV → Heap → Prop} (h : W66 v0 v1 H K) : CallT Tryz.prog 66 [v0, v1] H K :=
  CallT.of_wp (D := D66) tab_ok mixed Tryz.func66 (c := bodyOf Tryz.f66) (by kernel_rfl) rfl (by kernel_rfl) (rs := #[.tmp 4]) rfl (by decide +kernel) (by kernel_rfl) (W66_wp v0 v1 H K) h
theorem W66_hb : HasBody Tryz.prog 66 := ⟨_, bodyOf Tryz.f66, Tryz.func66, by kernel_rfl, rfl⟩
theorem L66_0_rule {K : AV → Heap → Prop} {v1 v2 v5 v6 : AV} {H : Heap} {σ : Type} (s0 : σ) (f5 : σ → AV) (f6 : σ → AV) (TH : σ → Heap) (pre : σ → Prop) (μ : σ → Nat)
    (h0 : pre s0 ∧ AV.wk v5 (f5 s0) ∧ AV.wk v6 (f6 s0) ∧ Heap.le (TH s0) H)
    (round : ∀ s, pre s → B66_0 K (fun w5 w6 H' => ∃ s', pre s' ∧ μ s' < μ s ∧ AV.wk w5 (f5 s') ∧ AV.wk w6 (f6 s') ∧ Heap.le (TH s') H') v1 v2 (f5 s) (f6 s) (TH s)) :
    L66_0 K v1 v2 v5 v6 H := by
  unfold L66_0
  exact LoopV.mk s0 (fun s => [f5 s, f6 s]) TH pre μ (fun _ => rfl) (Eq.mp (by kernel_rfl) h0) (fun s hs => Eq.mp (by kernel_rfl) (round s hs))
/-- loop.example/g00649/laws.szChangeS -/
def D68 : Info := ⟨27, fun i => ([], []), fun i => if i = 5 then ([0], [1, 5]) else ([], [])⟩
def L68_0 (K : AV → Heap → Prop) (v0 : AV) (v1 : AV) (v5 : AV) (H : Heap) : Prop := LoopV (wpC Tryz.prog tab D68 (cAt [1, 1, 1, 0, 1, 0, 0] (bodyOf Tryz.f68))) [0] (PostF.block 0 (PostF.thenA (wpC Tryz.prog tab D68 (cAt [1, 1, 1, 1] (bodyOf Tryz.f68))) (retF tab [.tmp 4] K))) [1, 5] [v0, v1, AV.any, AV.any, AV.any, v5, AV.any, AV.any, AV.any, AV.any, AV.any, AV.any, AV.any, AV.any, AV.any, AV.any, AV.any, AV.any, AV.any, AV.any, AV.any, AV.any, AV.any, AV.any, AV.any, AV.any, AV.any] H
def B68_0 (K : AV → Heap → Prop) (N1 : AV → AV → Heap → Prop) (v0 : AV) (v1 : AV) (v5 : AV) (H : Heap) : Prop :=
 lenV tab 86 v0 fun v14 =>
 binV tab .lss 3 v5 v14 fun v15 =>
 condV v15 (indexAddrV tab 86 v0 v5 fun v20 =>
 loadV tab 133 v20 H fun v21 =>
 CallT Tryz.prog 90 [v21, v1] H fun v23 H1 =>
 binV tab .lss 3 v23 (AV.p (.int .i64 0)) fun v25 =>
 condV v25 (K (AV.p (.int .i64 (-1))) H1)
 (binV tab .add 3 v5 (AV.p (.int .i64 1)) fun v17 =>
 N1 v23 v17 H1))
 (K v1 H)
def W68 (v0 : AV) (v1 : AV) (H : Heap) (K : AV → Heap → Prop) : Prop :=
 lenV tab 86 v0 fun v8 =>
 binV tab .sub 3 v1 v8 fun v9 =>
 binV tab .lss 3 v9 (AV.p (.int .i64 0)) fun v11 =>
 condV v11 (K (AV.p (.int .i64 (-1))) H)
 (L68_0 K v0 v9 (AV.p (.int .i64 0)) H)
theorem W68_wp (v0 : AV) (v1 : AV) (H : Heap) (K : AV → Heap → Prop) : wpC Tryz.prog tab D68 (bodyOf Tryz.f68) (retF tab [.tmp 4] K) (nthA [v0, v1]) H = W68 v0 v1 H K := by kernel_rfl
theorem W68_ok {v0 v1 : AV} {H : Heap} {K : AV → Heap → Prop} (h : W68 v0 v1 H K) : CallT Tryz.prog 68 [v0, v1] H K :=
  CallT.of_wp (D := D68) tab_ok mixed Tryz.func68 (c := bodyOf Tryz.f68) (by kernel_rfl) rfl (by kernel_rfl) (rs := #[.tmp 4]) rfl (by decide +kernel) (by kernel_rfl) (W68_wp v0 v1 H K) h
theorem L68_0_rule {K : AV → Heap → Prop} {v0 v1 v5 : AV} {H : Heap} {σ : Type} (s0 : σ) (f1 : σ → AV) (f5 : σ → AV) (TH : σ → Heap) (pre : σ → Prop) (μ : σ → Nat)
    (h0 : pre s0 ∧ AV.wk v1 (f1 s0) ∧ AV.wk v5 (f5 s0) ∧ Heap.le (TH s0) H)
    (round : ∀ s, pre s → B68_0 K (fun w1 w5 H' => ∃ s', pre s' ∧ μ s' < μ s ∧ AV.wk w1 (f1 s') ∧ AV.wk w5 (f5 s') ∧ Heap.le (TH s') H') v0 (f1 s) (f5 s) (TH s)) :
    L68_0 K v0 v1 v5 H := by
  unfold L68_0
  exact LoopV.mk s0 (fun s => [f1 s, f5 s]) TH pre μ (fun _ => rfl) (Eq.mp (by kernel_rfl) h0) (fun s hs => Eq.mp (by kernel_rfl) (round s hs))
/-- loop.example/g00649/spec.l7Command -/
def D69 : Info := ⟨62, fun i => if i = 6 then ([[], [0], [], [2], [2, 3], [0, 1, 2, 3, 4], [0, 1, 2, 3, 4, 5], [0, 1, 2, 3, 4, 5, 6], [0, 1, 2, 3, 4, 5, 6, 7], [0, 1, 2, 3, 4, 5, 6, 7, 8], [0, 1, 2, 3, 4, 5, 6, 7, 8, 9], [0, 1, 2, 3, 4, 5, 6, 7, 8, 9, 10], [0, 1, 2, 3, 4, 5, 6, 7, 8, 9, 10, 11], [0, 1, 2, 3, 4, 5, 6, 7, 8, 9, 10], [0, 1, 2, 3, 4, 5, 6, 7, 8, 9, 10, 13], [0, 1, 2, 3, 4, 5, 6, 7, 8, 9, 10, 11, 12, 13, 14], [0, 1, 2, 3, 4, 5, 6, 7, 8, 9, 10, 11, 12, 13, 14, 15], [0, 1, 2, 3, 4, 5, 6, 7, 8, 9, 10, 11, 12, 13, 14, 15, 16], [0, 1, 2, 3, 4, 5, 6, 7, 8, 9, 10], [0, 1, 2, 3, 4, 5, 6, 7, 8, 9, 10, 18], [0, 1, 2, 3, 4, 5, 6, 7, 8, 9, 10, 11, 12, 13, 14, 15, 16, 17, 18, 19], [0, 1, 2, 3, 4, 5, 6, 7, 8, 9, 10, 11, 12, 13, 14, 15, 16, 17, 18, 19, 20], [0, 1, 2, 3, 4, 5, 6, 7, 8, 9, 10, 11, 12, 13, 14, 15, 16, 17, 18, 19, 20, 21], [0, 1, 2, 3, 4, 5, 6, 7, 8, 9, 10, 11, 12, 13, 14, 15, 16, 17, 18, 19, 20, 21, 22], [0, 1, 2, 3, 4, 5, 6, 7, 8, 9, 10, 11, 12, 13, 14, 15, 16, 17, 18, 19, 20, 21, 22, 23], [0, 1, 2, 3, 4, 5, 6, 7, 8, 9, 10, 11, 12, 13, 14, 15, 16, 17, 18, 19, 20, 21, 22, 23, 24], [0, 1, 2, 3, 4, 5, 6, 7, 8, 9, 10, 11, 12, 13, 14, 15, 16, 17, 18, 19, 20, 21, 22, 23], [0, 1, 2, 3, 4, 5, 6, 7, 8, 9, 10, 11, 12, 13, 14, 15, 16, 17, 18, 19, 20, 21, 22, 23, 26], [0, 1, 2, 3, 4, 5, 6, 7, 8, 9, 10, 11, 12, 13, 14, 15, 16, 17, 18, 19, 20, 21, 22, 23], [0, 1, 2, 3, 4, 5, 6, 7, 8, 9, 10, 11, 12, 13, 14, 15, 16, 17, 18, 19, 20, 21, 22, 23, 28], [0, 1, 2, 3, 4, 5, 6, 7, 8, 9, 10, 11, 12, 13, 14, 15, 16, 17, 18, 19, 20, 21, 22, 23, 24, 25, 26, 27, 28, 29], [0, 1, 2, 3, 4, 5, 6, 7, 8, 9, 10, 11, 12, 13, 14, 15, 16, 17, 18, 19, 20, 21, 22, 23, 24, 25, 26, 27, 28, 29, 30], [0, 1, 2, 3, 4, 5, 6, 7, 8, 9, 10, 11, 12, 13, 14, 15, 16, 17, 18, 19, 20, 21, 22, 23, 24, 25, 26, 27, 28, 29, 30, 31]], [(0, []), (1, []), (2, []), (3, []), (4, []), (5, []), (6, []), (7, []), (8, []), (9, []), (10, []), (11, []), (12, []), (13, []), (14, []), (15, []), (16, []), (17, []), (18, []), (19, []), (20, []), (21, []), (22, []), (23, []), (24, []), (25, []), (26, []), (27, []), (28, []), (29, []), (30, []), (31, []), (32, [])]) else ([], []), fun i => if i = 4 then ([2, 3, 21, 22], [23]) else ([], [])⟩
def L69_0 (K : AV → Heap → Prop) (v2 : AV) (v3 : AV) (v21 : AV) (v22 : AV) (v23 : AV) (H : Heap) : Prop := LoopV (wpC Tryz.prog tab D69 (cAt [1, 1, 0, 1, 0, 0] (bodyOf Tryz.f69))) [2, 3, 21, 22] (PostF.block 0 (PostF.thenA (wpC Tryz.prog tab D69 (cAt [1, 1, 1] (bodyOf Tryz.f69))) (retF tab [.tmp 4] K))) [23] [AV.any, AV.any, v2, v3, AV.any, AV.any, AV.any, AV.any, AV.any, AV.any, AV.any, AV.any, AV.any, AV.any, AV.any, AV.any, AV.any, AV.any, AV.any, AV.any, AV.any, v21, v22, v23, AV.any, AV.any, AV.any, AV.any, AV.any, AV.any, AV.any, AV.any, AV.any, AV.any, AV.any, AV.any, AV.any, AV.any, AV.any, AV.any, AV.any, AV.any, AV.any, AV.any, AV.any, AV.any, AV.any, AV.any, AV.any, AV.any, AV.any, AV.any, AV.any, AV.any, AV.any, AV.any, AV.any, AV.any, AV.any, AV.any, AV.any, AV.any] H
def B69_0 (K : AV → Heap → Prop) (N1 : AV → Heap → Prop) (v2 : AV) (v3 : AV) (v21 : AV) (v22 : AV) (v23 : AV) (H : Heap) : Prop :=
 binV tab .lss 3 v23 v22 fun v24 =>
 condV v24 (indexAddrV tab 90 v21 v23 fun v26 =>
 loadV tab 123 v26 H fun v27 =>
 allocV tab 123 H fun v6 H4 =>
 storeV tab 123 v6 v27 H4 fun H5 =>
 fieldAddrV tab 123 v6 0 fun v28 =>
 loadV tab 3 v28 H5 fun v29 =>
 fieldAddrV tab 37 v2 1 fun v30 =>
 loadV tab 3 v30 H5 fun v31 =>
 binV tab .sub 3 v31 (AV.p (.int .i64 1)) fun v32 =>
 CallT Tryz.prog 63 [v29, (AV.p (.int .i64 0)), v32] H5 fun v33 H6 =>
 unV .not v33 fun v34 =>
 grdV v34 false (binV tab .gtr 3 v23 (AV.p (.int .i64 0)) fun v37 =>
 grdV v37 true (fieldAddrV tab 92 v3 1 fun v39 =>
 loadV tab 90 v39 H6 fun v40 =>
 binV tab .sub 3 v23 (AV.p (.int .i64 1)) fun v42 =>
 indexAddrV tab 90 v40 v42 fun v43 =>
 fieldAddrV tab 123 v43 0 fun v44 =>
 loadV tab 3 v44 H6 fun v45 =>
 fieldAddrV tab 123 v6 0 fun v46 =>
 loadV tab 3 v46 H6 fun v47 =>
 binV tab .geq 3 v45 v47 fun v48 =>
 grdV v48 false (fieldAddrV tab 37 v2 0 fun v52 =>
 loadV tab 3 v52 H6 fun v53 =>
 fieldAddrV tab 37 v2 1 fun v54 =>
 loadV tab 3 v54 H6 fun v55 =>
 fieldAddrV tab 123 v6 1 fun v56 =>
 loadV tab 34 v56 H6 fun v57 =>
 CallT Tryz.prog 64 [v53, v55, v57] H6 fun v58 H7 =>
 binV tab .neq 3 v58 (AV.p (.int .i64 1)) fun v59 =>
 condV v59 (K (AV.p (.bool false)) H7)
 (binV tab .add 3 v23 (AV.p (.int .i64 1)) fun v61 =>
 N1 v61 H7))
 (K (AV.p (.bool false)) H6))
 (fieldAddrV tab 37 v2 0 fun v52 =>
 loadV tab 3 v52 H6 fun v53 =>
 fieldAddrV tab 37 v2 1 fun v54 =>
 loadV tab 3 v54 H6 fun v55 =>
 fieldAddrV tab 123 v6 1 fun v56 =>
 loadV tab 34 v56 H6 fun v57 =>
 CallT Tryz.prog 64 [v53, v55, v57] H6 fun v58 H8 =>
 binV tab .neq 3 v58 (AV.p (.int .i64 1)) fun v59 =>
 condV v59 (K (AV.p (.bool false)) H8)
 (binV tab .add 3 v23 (AV.p (.int .i64 1)) fun v61 =>
 N1 v61 H8)))
 (K (AV.p (.bool false)) H6))
 (K (AV.p (.bool true)) H)
def W69 (v0 : AV) (v1 : AV) (H : Heap) (K : AV → Heap → Prop) : Prop :=
 boxV v0 H fun v2 H1 =>
 boxV v1 H1 fun v3 H2 =>
 loadV tab 37 v2 H2 fun v7 =>
 fieldAddrV tab 92 v3 0 fun v8 =>
 loadV tab 34 v8 H2 fun v9 =>
 CallT Tryz.prog 44 [v7, v9] H2 fun v10 H3 =>
 unV .not v10 fun v11 =>
 grdV v11 false (fieldAddrV tab 92 v3 1 fun v13 =>
 loadV tab 90 v13 H3 fun v14 =>
 lenV tab 90 v14 fun v15 =>
 fieldAddrV tab 37 v2 1 fun v16 =>
 loadV tab 3 v16 H3 fun v17 =>
 binV tab .gtr 3 v15 v17 fun v18 =>
 condV v18 (K (AV.p (.bool false)) H3)
 (fieldAddrV tab 92 v3 1 fun v20 =>
 loadV tab 90 v20 H3 fun v21 =>
 lenV tab 90 v21 fun v22 =>
 L69_0 K v2 v3 v21 v22 (AV.p (.int .i64 0)) H3))
 (K (AV.p (.bool false)) H3)
theorem W69_wp (v0 : AV) (v1 : AV) (H : Heap) (K : AV → Heap → Prop) : wpC Tryz.prog tab D69 (bodyOf Tryz.f69) (retF tab [.tmp 4] K) (nthA [v0, v1]) H = W69 v0 v1 H K := by kernel_rfl
theorem W69_ok {v0 v1 : AV} {H : Heap} {K : AV → Heap → Prop} (h : W69 v0 v1 H K) : CallT Tryz.prog 69 [v0, v1] H K :=
  CallT.of_wp (D := D69) tab_ok mixed Tryz.func69 (c := bodyOf Tryz.f69) (by kernel_rfl) rfl (by kernel_rfl) (rs := #[.tmp 4]) rfl (by decide +kernel) (by kernel_rfl) (W69_wp v0 v1 H K) h
theorem L69_0_rule {K : AV → Heap → Prop} {v2 v3 v21 v22 v23 : AV} {H : Heap} {σ : Type} (s0 : σ) (f23 : σ → AV) (TH : σ → Heap) (pre : σ → Prop) (μ : σ → Nat)
    (h0 : pre s0 ∧ AV.wk v23 (f23 s0) ∧ Heap.le (TH s0) H)
    (round : ∀ s, pre s → B69_0 K (fun w23 H' => ∃ s', pre s' ∧ μ s' < μ s ∧ AV.wk w23 (f23 s') ∧ Heap.le (TH s') H') v2 v3 v21 v22 (f23 s) (TH s)) :
    L69_0 K v2 v3 v21 v22 v23 H := by
  unfold L69_0
  exact LoopV.mk s0 (fun s => [f23 s]) TH pre μ (fun _ => rfl) (Eq.mp (by kernel_rfl) h0) (fun s hs => Eq.mp (by kernel_rfl) (round s hs))
/-- loop.example/g00649/laws.toChangeS -/
def D70 : Info := ⟨23, fun i => ([], []), fun i => if i = 3 then ([0, 3], [4]) else ([], [])⟩
def L70_0 (K : AV → Heap → Prop) (v0 : AV) (v3 : AV) (v4 : AV) (H : Heap) : Prop := LoopV (wpC Tryz.prog tab D70 (cAt [1, 1, 0, 1, 0, 0] (bodyOf Tryz.f70))) [0, 3] (PostF.block 0 (PostF.thenA (wpC Tryz.prog tab D70 (cAt [1, 1, 1] (bodyOf Tryz.f70))) (retF tab [.tmp 2] K))) [4] [v0, AV.any, AV.any, v3, v4, AV.any, AV.any, AV.any, AV.any, AV.any, AV.any, AV.any, AV.any, AV.any, AV.any, AV.any, AV.any, AV.any, AV.any, AV.any, AV.any, AV.any, AV.any] H
def B70_0 (K : AV → Heap → Prop) (N1 : AV → Heap → Prop) (v0 : AV) (v3 : AV) (v4 : AV) (H : Heap) : Prop :=
 lenV tab 86 v0 fun v10 =>
 binV tab .lss 3 v4 v10 fun v11 =>
 condV v11 (indexAddrV tab 86 v0 v4 fun v18 =>
 loadV tab 133 v18 H fun v19 =>
 CallT Tryz.prog 91 [v19] H fun v20 H2 =>
 indexAddrV tab 90 v3 v4 fun v21 =>
 storeV tab 123 v21 v20 H2 fun H3 =>
 binV tab .add 3 v4 (AV.p (.int .i64 1)) fun v13 =>
 N1 v13 H3)
 (K v3 H)
def W70 (v0 : AV) (H : Heap) (K : AV → Heap → Prop) : Prop :=
 lenV tab 86 v0 fun v6 =>
 makeSliceV tab 90 v6 v6 H fun v7 H1 =>
 L70_0 K v0 v7 (AV.p (.int .i64 0)) H1
theorem W70_wp (v0 : AV) (H : Heap) (K : AV → Heap → Prop) : wpC Tryz.prog tab D70 (bodyOf Tryz.f70) (retF tab [.tmp 2] K) (nthA [v0]) H = W70 v0 H K := by kernel_rfl
theorem W70_ok {v0 : AV} {H : Heap} {K : AV → Heap → Prop} (h : W70 v0 H K) : CallT Tryz.prog 70 [v0] H K :=
  CallT.of_wp (D := D70) tab_ok mixed Tryz.func70 (c := bodyOf Tryz.f70) (by kernel_rfl) rfl (by kernel_rfl) (rs := #[.tmp 2]) rfl (by decide +kernel) (by kernel_rfl) (W70_wp v0 H K) h
theorem L70_0_rule {K : AV → Heap → Prop} {v0 v3 v4 : AV} {H : Heap} {σ : Type} (s0 : σ) (f4 : σ → AV) (TH : σ → Heap) (pre : σ → Prop) (μ : σ → Nat)
    (h0 : pre s0 ∧ AV.wk v4 (f4 s0) ∧ Heap.le (TH s0) H)
    (round : ∀ s, pre s → B70_0 K (fun w4 H' => ∃ s', pre s' ∧ μ s' < μ s ∧ AV.wk w4 (f4 s') ∧ Heap.le (TH s') H') v0 v3 (f4 s) (TH s)) :
    L70_0 K v0 v3 v4 H := by
  unfold L70_0
  exact LoopV.mk s0 (fun s => [f4 s]) TH pre μ (fun _ => rfl) (Eq.mp (by kernel_rfl) h0) (fun s hs => Eq.mp (by kernel_rfl) (round s hs))
/-- loop.example/g00649/impl.isWide -/
def D71 : Info := ⟨9, fun i => ([], []), fun i => ([], [])⟩
def W71 (v0 : AV) (H : Heap) (K : AV → Heap → Prop) : Prop :=
 binV tab .geq 3 v0 (AV.p (.int .i64 1)) fun v4 =>
 grdV v4 true (binV tab .leq 3 v0 (AV.p (.int .i64 64)) fun v7 =>
 K v7 H)
 (K (AV.p (.bool false)) H)
theorem W71_wp (v0 : AV) (H : Heap) (K : AV → Heap → Prop) : wpC Tryz.prog tab D71 (bodyOf Tryz.f71) (retF tab [.tmp 2] K) (nthA [v0]) H = W71 v0 H K := by kernel_rfl
theorem W71_ok {v0 : AV} {H : Heap} {K : AV → Heap → Prop} (h : W71 v0 H K) : CallT Tryz.prog 71 [v0] H K :=
  CallT.of_wp (D := D71) tab_ok mixed Tryz.func71 (c := bodyOf Tryz.f71) (by kernel_rfl) rfl (by kernel_rfl) (rs := #[.tmp 2]) rfl (by decide +kernel) (by kernel_rfl) (W71_wp v0 H K) h
/-- loop.example/g00649/impl.isVars -/
def D72 : Info := ⟨9, fun i => ([], []), fun i => ([], [])⟩
def W72 (v0 : AV) (H : Heap) (K : AV → Heap → Prop) : Prop :=
 binV tab .geq 3 v0 (AV.p (.int .i64 1)) fun v4 =>
 grdV v4 true (binV tab .leq 3 v0 (AV.p (.int .i64 4)) fun v7 =>
 K v7 H)
 (K (AV.p (.bool false)) H)
theorem W72_wp (v0 : AV) (H : Heap) (K : AV → Heap → Prop) : wpC Tryz.prog tab D72 (bodyOf Tryz.f72) (retF tab [.tmp 2] K) (nthA [v0]) H = W72 v0 H K := by kernel_rfl
theorem W72_ok {v0 : AV} {H : Heap} {K : AV → Heap → Prop} (h : W72 v0 H K) : CallT Tryz.prog 72 [v0] H K :=
  CallT.of_wp (D := D72) tab_ok mixed Tryz.func72 (c := bodyOf Tryz.f72) (by kernel_rfl) rfl (by kernel_rfl) (rs := #[.tmp 2]) rfl (by decide +kernel) (by kernel_rfl) (W72_wp v0 H K) h
/-- slices.ContainsFunc[[]loop.example/g00649/impl.Command,loop.example/g00649/impl.Command] -/
def D73 : Info := ⟨9, fun i => ([], []), fun i => ([], [])⟩
def W73 (v0 : AV) (v1 : AV) (H : Heap) (K : AV → Heap → Prop) : Prop :=
 CallT Tryz.prog 92 [v0, v1] H fun v7 H1 =>
 binV tab .geq 3 v7 (AV.p (.int .i64 0)) fun v8 =>
 K v8 H1
theorem W73_wp (v0 : AV) (v1 : AV) (H : Heap) (K : AV → Heap → Prop) : wpC Tryz.prog tab D73 (bodyOf Tryz.f73) (retF tab [.tmp 4] K) (nthA [v0, v1]) H = W73 v0 v1 H K := by kernel_rfl
theorem W73_ok {v0 v1 : AV} {H : Heap} {K : AV → Heap → Prop} (h : W73 v0 v1 H K) : CallT Tryz.prog 73 [v0, v1] H K :=
  CallT.of_wp (D := D73) tab_ok mixed Tryz.func73 (c := bodyOf Tryz.f73) (by kernel_rfl) rfl (by kernel_rfl) (rs := #[.tmp 4]) rfl (by decide +kernel) (by kernel_rfl) (W73_wp v0 v1 H K) h
/-- loop.example/g00649/impl.GoodProgram$1 -/
def D74 : Info := ⟨8, fun i => ([], []), fun i => ([], [])⟩
def W74 (v0 : AV) (v1 : AV) (H : Heap) (K : AV → Heap → Prop) : Prop :=
 boxV v0 H fun v2 H1 =>
 loadV tab 37 v1 H1 fun v4 =>
 loadV tab 92 v2 H1 fun v5 =>
 CallT Tryz.prog 75 [v4, v5] H1 fun v6 H2 =>
 unV .not v6 fun v7 =>
 K v7 H2
theorem W74_wp (v0 : AV) (v1 : AV) (H : Heap) (K : AV → Heap → Prop) : wpC Tryz.prog tab D74 (bodyOf Tryz.f74) (retF tab [.tmp 3] K) (nthA [v0, v1]) H = W74 v0 v1 H K := by kernel_rfl
theorem W74_ok {v0 v1 : AV} {H : Heap} {K : AV → Heap → Prop} (h : W74 v0 v1 H K) : CallT Tryz.prog 74 [v0, v1] H K :=
  CallT.of_wp (D := D74) tab_ok mixed Tryz.func74 (c := bodyOf Tryz.f74) (by kernel_rfl) rfl (by kernel_rfl) (rs := #[.tmp 3]) rfl (by decide +kernel) (by kernel_rfl) (W74_wp v0 v1 H K) h
/-- (loop.example/g00649/impl.Program).isCommand -/
def D75 : Info := ⟨57, fun i => if i = 6 then ([[], [0], [0, 1], [0, 1, 2], [0, 1, 2, 3], [0, 1, 2, 3, 4], [0, 1, 2, 3], [0, 1, 2, 3, 6], [0, 1, 2, 3, 4, 5, 6, 7], [0, 1, 2, 3, 4, 5, 6, 7, 8], [0, 1, 2, 3, 4, 5, 6, 7, 8, 9], [0, 1, 2, 3, 4, 5, 6, 7, 8, 9, 10], [0, 1, 2, 3, 4, 5, 6, 7, 8, 9, 10, 11], [0, 1, 2, 3, 4, 5, 6, 7, 8, 9, 10, 11, 12], [0, 1, 2, 3, 4, 5, 6, 7, 8, 9, 10, 11, 12, 13], [0, 1, 2, 3, 4, 5, 6, 7, 8, 9, 10, 11, 12, 13, 14], [0, 1, 2, 3, 4, 5, 6, 7, 8, 9, 10, 11, 12, 13], [0, 1, 2, 3, 4, 5, 6, 7, 8, 9, 10, 11, 12, 13, 16], [0, 1, 2, 3, 4, 5, 6, 7, 8, 9, 10, 11, 12, 13, 14, 15, 16, 17], [0, 1, 2, 3, 4, 5, 6, 7, 8, 9, 10, 11, 12, 13, 14, 15, 16, 17, 18], [0, 1, 2, 3, 4, 5, 6, 7, 8, 9, 10, 11, 12, 13, 14, 15, 16, 17, 18, 19], [0, 1, 2, 3, 4, 5, 6, 7, 8, 9, 10, 11, 12, 13], [0, 1, 2, 3, 4, 5, 6, 7, 8, 9, 10, 11, 12, 13, 21], [0, 1, 2, 3, 4, 5, 6, 7, 8, 9, 10, 11, 12, 13, 14, 15, 16, 17, 18, 19, 20, 21, 22], [0, 1, 2, 3, 4, 5, 6, 7, 8, 9, 10, 11, 12, 13, 14, 15, 16, 17, 18, 19, 20, 21, 22, 23], [0, 1, 2, 3, 4, 5, 6, 7, 8, 9, 10, 11, 12, 13, 14, 15, 16, 17, 18, 19, 20, 21, 22, 23, 24], [0, 1, 2, 3, 4, 5, 6, 7, 8, 9, 10, 11, 12, 13, 14, 15, 16, 17, 18, 19, 20, 21, 22, 23, 24, 25], [0, 1, 2, 3, 4, 5, 6, 7, 8, 9, 10, 11, 12, 13, 14, 15, 16, 17, 18, 19, 20, 21, 22, 23, 24, 25, 26], [0, 1, 2, 3, 4, 5, 6, 7, 8, 9, 10, 11, 12, 13, 14, 15, 16, 17, 18, 19, 20, 21, 22, 23, 24, 25, 26, 27], [0, 1, 2, 3, 4, 5, 6, 7, 8, 9, 10, 11, 12, 13, 14, 15, 16, 17, 18, 19, 20, 21, 22, 23, 24, 25, 26], [0, 1, 2, 3, 4, 5, 6, 7, 8, 9, 10, 11, 12, 13, 14, 15, 16, 17, 18, 19, 20, 21, 22, 23, 24, 25, 26, 29], [0, 1, 2, 3, 4, 5, 6, 7, 8, 9, 10, 11, 12, 13, 14, 15, 16, 17, 18, 19, 20, 21, 22, 23, 24, 25, 26], [0, 1, 2, 3, 4, 5, 6, 7, 8, 9, 10, 11, 12, 13, 14, 15, 16, 17, 18, 19, 20, 21, 22, 23, 24, 25, 26, 31], [0, 1, 2, 3, 4, 5, 6, 7, 8, 9, 10, 11, 12, 13, 14, 15, 16, 17, 18, 19, 20, 21, 22, 23, 24, 25, 26, 27, 28, 29, 30, 31, 32], [0, 1, 2, 3, 4, 5, 6, 7, 8, 9, 10, 11, 12, 13, 14, 15, 16, 17, 18, 19, 20, 21, 22, 23, 24, 25, 26, 27, 28, 29, 30, 31, 32, 33], [0, 1, 2, 3, 4, 5, 6, 7, 8, 9, 10, 11, 12, 13, 14, 15, 16, 17, 18, 19, 20, 21, 22, 23, 24, 25, 26, 27, 28, 29, 30, 31, 32, 33, 34]], [(0, []), (1, []), (2, []), (3, []), (4, []), (5, []), (6, []), (7, []), (8, []), (9, []), (10, []), (11, []), (12, []), (13, []), (14, []), (15, []), (16, []), (17, []), (18, []), (19, []), (20, []), (21, []), (22, []), (23, []), (24, []), (25, []), (26, []), (27, []), (28, []), (29, []), (30, []), (31, []), (32, []), (33, []), (34, []), (35, [])]) else ([], []), fun i => if i = 4 then ([2, 3, 13, 14], [15]) else ([], [])⟩
def L75_0 (K : AV → Heap → Prop) (v2 : AV) (v3 : AV) (v13 : AV) (v14 : AV) (v15 : AV) (H : Heap) : Prop := LoopV (wpC Tryz.prog tab D75 (cAt [1, 1, 0, 1, 0, 0] (bodyOf Tryz.f75))) [2, 3, 13, 14] (PostF.block 0 (PostF.thenA (wpC Tryz.prog tab D75 (cAt [1, 1, 1] (bodyOf Tryz.f75))) (retF tab [.tmp 4] K))) [15] [AV.any, AV.any, v2, v3, AV.any, AV.any, AV.any, AV.any, AV.any, AV.any, AV.any, AV.any, AV.any, v13, v14, v15, AV.any, AV.any, AV.any, AV.any, AV.any, AV.any, AV.any, AV.any, AV.any, AV.any, AV.any, AV.any, AV.any, AV.any, AV.any, AV.any, AV.any, AV.any, AV.any, AV.any, AV.any, AV.any, AV.any, AV.any, AV.any, AV.any, AV.any, AV.any, AV.any, AV.any, AV.any, AV.any, AV.any, AV.any, AV.any, AV.any, AV.any, AV.any, AV.any, AV.any, AV.any] H
def B75_0 (K : AV → Heap → Prop) (N1 : AV → Heap → Prop) (v2 : AV) (v3 : AV) (v13 : AV) (v14 : AV) (v15 : AV) (H : Heap) : Prop :=
 binV tab .lss 3 v15 v14 fun v16 =>
 condV v16 (indexAddrV tab 90 v13 v15 fun v18 =>
 loadV tab 123 v18 H fun v19 =>
 allocV tab 123 H fun v6 H4 =>
 storeV tab 123 v6 v19 H4 fun H5 =>
 fieldAddrV tab 123 v6 0 fun v20 =>
 loadV tab 3 v20 H5 fun v21 =>
 binV tab .lss 3 v21 (AV.p (.int .i64 0)) fun v22 =>
 grdV v22 false (fieldAddrV tab 123 v6 0 fun v24 =>
 loadV tab 3 v24 H5 fun v25 =>
 fieldAddrV tab 37 v2 1 fun v26 =>
 loadV tab 3 v26 H5 fun v27 =>
 binV tab .geq 3 v25 v27 fun v28 =>
 grdV v28 false (binV tab .gtr 3 v15 (AV.p (.int .i64 0)) fun v32 =>
 grdV v32 true (fieldAddrV tab 92 v3 1 fun v34 =>
 loadV tab 90 v34 H5 fun v35 =>
 binV tab .sub 3 v15 (AV.p (.int .i64 1)) fun v37 =>
 indexAddrV tab 90 v35 v37 fun v38 =>
 fieldAddrV tab 123 v38 0 fun v39 =>
 loadV tab 3 v39 H5 fun v40 =>
 fieldAddrV tab 123 v6 0 fun v41 =>
 loadV tab 3 v41 H5 fun v42 =>
 binV tab .geq 3 v40 v42 fun v43 =>
 grdV v43 false (fieldAddrV tab 37 v2 0 fun v47 =>
 loadV tab 3 v47 H5 fun v48 =>
 fieldAddrV tab 37 v2 1 fun v49 =>
 loadV tab 3 v49 H5 fun v50 =>
 fieldAddrV tab 123 v6 1 fun v51 =>
 loadV tab 34 v51 H5 fun v52 =>
 CallT Tryz.prog 77 [v48, v50, v52, (AV.p (.int .i64 1))] H5 fun v53 H6 =>
 unV .not v53 fun v54 =>
 condV v54 (K (AV.p (.bool false)) H6)
 (binV tab .add 3 v15 (AV.p (.int .i64 1)) fun v56 =>
 N1 v56 H6))
 (K (AV.p (.bool false)) H5))
 (fieldAddrV tab 37 v2 0 fun v47 =>
 loadV tab 3 v47 H5 fun v48 =>
 fieldAddrV tab 37 v2 1 fun v49 =>
 loadV tab 3 v49 H5 fun v50 =>
 fieldAddrV tab 123 v6 1 fun v51 =>
 loadV tab 34 v51 H5 fun v52 =>
 CallT Tryz.prog 77 [v48, v50, v52, (AV.p (.int .i64 1))] H5 fun v53 H7 =>
 unV .not v53 fun v54 =>
 condV v54 (K (AV.p (.bool false)) H7)
 (binV tab .add 3 v15 (AV.p (.int .i64 1)) fun v56 =>
 N1 v56 H7)))
 (K (AV.p (.bool false)) H5))
 (K (AV.p (.bool false)) H5))
 (K (AV.p (.bool true)) H)
def W75 (v0 : AV) (v1 : AV) (H : Heap) (K : AV → Heap → Prop) : Prop :=
 boxV v0 H fun v2 H1 =>
 boxV v1 H1 fun v3 H2 =>
 loadV tab 37 v2 H2 fun v7 =>
 fieldAddrV tab 92 v3 0 fun v8 =>
 loadV tab 34 v8 H2 fun v9 =>
 CallT Tryz.prog 58 [v7, v9] H2 fun v10 H3 =>
 unV .not v10 fun v11 =>
 condV v11 (K (AV.p (.bool false)) H3)
 (fieldAddrV tab 92 v3 1 fun v12 =>
 loadV tab 90 v12 H3 fun v13 =>
 lenV tab 90 v13 fun v14 =>
 L75_0 K v2 v3 v13 v14 (AV.p (.int .i64 0)) H3)
theorem W75_wp (v0 : AV) (v1 : AV) (H : Heap) (K : AV → Heap → Prop) : wpC Tryz.prog tab D75 (bodyOf Tryz.f75) (retF tab [.tmp 4] K) (nthA [v0, v1]) H = W75 v0 v1 H K := by kernel_rfl
theorem W75_ok {v0 v1 : AV} {H : Heap} {K : AV → Heap → Prop} (h : W75 v0 v1 H K) : CallT Tryz.prog 75 [v0, v1] H K :=
  CallT.of_wp (D := D75) tab_ok mixed Tryz.func75 (c := bodyOf Tryz.f75) (by kernel_rfl) rfl (by kernel_rfl) (rs := #[.tmp 4]) rfl (by decide +kernel) (by kernel_rfl) (W75_wp v0 v1 H K) h
theorem L75_0_rule {K : AV → Heap → Prop} {v2 v3 v13 v14 v15 : AV} {H : Heap} {σ : Type} (s0 : σ) (f15 : σ → AV) (TH : σ → Heap) (pre : σ → Prop) (μ : σ → Nat)
    (h0 : pre s0 ∧ AV.wk v15 (f15 s0) ∧ Heap.le (TH s0) H)
    (round : ∀ s, pre s → B75_0 K (fun w15 H' => ∃ s', pre s' ∧ μ s' < μ s ∧ AV.wk w15 (f15 s') ∧ Heap.le (TH s') H') v2 v3 v13 v14 (f15 s) (TH s)) :
    L75_0 K v2 v3 v13 v14 v15 H := by
  unfold L75_0
  exact LoopV.mk s0 (fun s => [f15 s]) TH pre μ (fun _ => rfl) (Eq.mp (by kernel_rfl) h0) (fun s hs => Eq.mp (by kernel_rfl) (round s hs))
/-- slices.IndexFunc[[][]loop.example/g00649/impl.Node,[]loop.example/g00649/impl.Node] -/
def D76 : Info := ⟨19, fun i => ([], []), fun i => if i = 2 then ([0, 1, 7], [8]) else ([], [])⟩
def L76_0 (K : AV → Heap → Prop) (v0 : AV) (v1 : AV) (v7 : AV) (v8 : AV) (H : Heap) : Prop := LoopV (wpC Tryz.prog tab D76 (cAt [1, 0, 1, 0, 0] (bodyOf Tryz.f76))) [0, 1, 7] (PostF.block 0 (PostF.thenA (wpC Tryz.prog tab D76 (cAt [1, 1] (bodyOf Tryz.f76))) (retF tab [.tmp 4] K))) [8] [v0, v1, AV.any, AV.any, AV.any, AV.any, AV.any, v7, v8, AV.any, AV.any, AV.any, AV.any, AV.any, AV.any, AV.any, AV.any, AV.any, AV.any] H
def B76_0 (K : AV → Heap → Prop) (N1 : AV → Heap → Prop) (v0 : AV) (v1 : AV) (v7 : AV) (v8 : AV) (H : Heap) : Prop :=
 binV tab .lss 3 v8 v7 fun v9 =>
 condV v9 (indexAddrV tab 39 v0 v8 fun v14 =>
 loadV tab 34 v14 H fun v15 =>
 callF Tryz.prog v1 [v15] H fun v16 H1 =>
 condV v16 (K v8 H1)
 (binV tab .add 3 v8 (AV.p (.int .i64 1)) fun v18 =>
 N1 v18 H1))
 (K (AV.p (.int .i64 (-1))) H)
def W76 (v0 : AV) (v1 : AV) (H : Heap) (K : AV → Heap → Prop) : Prop :=
 lenV tab 39 v0 fun v7 =>
 L76_0 K v0 v1 v7 (AV.p (.int .i64 0)) H
theorem W76_wp (v0 : AV) (v1 : AV) (H : Heap) (K : AV → Heap → Prop) : wpC Tryz.prog tab D76 (bodyOf Tryz.f76) (retF tab [.tmp 4] K) (nthA [v0, v1]) H = W76 v0 v1 H K := by kernel_rfl
theorem W76_ok {v0 v1 : AV} {H : Heap} {K : AV → Heap → Prop} (h : W76 v0 v1 H K) : CallT Tryz.prog 76 [v0, v1] H K :=
  CallT.of_wp (D := D76) tab_ok mixed Tryz.func76 (c := bodyOf Tryz.f76) (by kernel_rfl) rfl (by kernel_rfl) (rs := #[.tmp 4]) rfl (by decide +kernel) (by kernel_rfl) (W76_wp v0 v1 H K) h
theorem L76_0_rule {K : AV → Heap → Prop} {v0 v1 v7 v8 : AV} {H : Heap} {σ : Type} (s0 : σ) (f8 : σ → AV) (TH : σ → Heap) (pre : σ → Prop) (μ : σ → Nat)
    (h0 : pre s0 ∧ AV.wk v8 (f8 s0) ∧ Heap.le (TH s0) H)
    (round : ∀ s, pre s → B76_0 K (fun w8 H' => ∃ s', pre s' ∧ μ s' < μ s ∧ AV.wk w8 (f8 s') ∧ Heap.le (TH s') H') v0 v1 v7 (f8 s) (TH s)) :
    L76_0 K v0 v1 v7 v8 H := by
  unfold L76_0
  exact LoopV.mk s0 (fun s => [f8 s]) TH pre μ (fun _ => rfl) (Eq.mp (by kernel_rfl) h0) (fun s hs => Eq.mp (by kernel_rfl) (round s hs))
/-- loop.example/g00649/impl.isTermOf -/
def D77 : Info := ⟨19, fun i => ([], []), fun i => ([], [])⟩
def W77 (v0 : AV) (v1 : AV) (v2 : AV) (v3 : AV) (H : Heap) (K : AV → Heap → Prop) : Prop :=
 CallT Tryz.prog 93 [v0, v1, v2] H fun v12 H1 =>
 grdV v12 true (CallT Tryz.prog 94 [v2] H1 fun v15 H2 =>
 binV tab .eql 3 v15 v3 fun v17 =>
 K v17 H2)
 (K (AV.p (.bool false)) H1)
theorem W77_wp (v0 : AV) (v1 : AV) (v2 : AV) (v3 : AV) (H : Heap) (K : AV → Heap → Prop) : wpC Tryz.prog tab D77 (bodyOf Tryz.f77) (retF tab [.tmp 8] K) (nthA [v0, v1, v2, v3]) H = W77 v0 v1 v2 v3 H K := by kernel_rfl
theorem W77_ok {v0 v1 v2 v3 : AV} {H : Heap} {K : AV → Heap → Prop} (h : W77 v0 v1 v2 v3 H K) : CallT Tryz.prog 77 [v0, v1, v2, v3] H K :=
  CallT.of_wp (D := D77) tab_ok mixed Tryz.func77 (c := bodyOf Tryz.f77) (by kernel_rfl) rfl (by kernel_rfl) (rs := #[.tmp 8]) rfl (by decide +kernel) (by kernel_rfl) (W77_wp v0 v1 v2 v3 H K) h
/-- loop.example/g00649/impl.DivWord -/
def D78 : Info := ⟨31, fun i => ([], []), fun i => ([], [])⟩
def W78 (v0 : AV) (v1 : AV) (v2 : AV) (H : Heap) (K : AV → Heap → Prop) : Prop :=
 CallT Tryz.prog 95 [v0, v1, v2] H fun v15 H1 =>
 unV .not v15 fun v16 =>
 condV v16 (K (.tup [(AV.p (.int .u64 0)), (AV.p (.int .u64 0)), (AV.p (.bool false))]) H1)
 (binV tab .eql 68 v2 (AV.p (.int .u64 0)) fun v19 =>
 condV v19 (CallT Tryz.prog 59 [v0] H1 fun v21 H2 =>
 K (.tup [v21, v1, (AV.p (.bool true))]) H2)
 (CallT Tryz.prog 96 [(AV.p (.int .u64 0)), v1, v2] H1 fun v26 H3 =>
 extractV v26 0 fun v27 =>
 extractV v26 1 fun v28 =>
 K (.tup [v27, v28, (AV.p (.bool true))]) H3))
theorem W78_wp (v0 : AV) (v1 : AV) (v2 : AV) (H : Heap) (K : AV → Heap → Prop) : wpC Tryz.prog tab D78 (bodyOf Tryz.f78) (retF tab [.tmp 6, .tmp 7, .tmp 8] K) (nthA [v0, v1, v2]) H = W78 v0 v1 v2 H K := by kernel_rfl
theorem W78_ok {v0 v1 v2 : AV} {H : Heap} {K : AV → Heap → Prop} (h : W78 v0 v1 v2 H K) : CallT Tryz.prog 78 [v0, v1, v2] H K :=
  CallT.of_wp (D := D78) tab_ok mixed Tryz.func78 (c := bodyOf Tryz.f78) (by kernel_rfl) rfl (by kernel_rfl) (rs := #[.tmp 6, .tmp 7, .tmp 8]) rfl (by decide +kernel) (by kernel_rfl) (W78_wp v0 v1 v2 H K) h
/-- loop.example/g00649/impl.shift -/
def D79 : Info := ⟨25, fun i => ([], []), fun i => ([], [])⟩
def W79 (v0 : AV) (v1 : AV) (v2 : AV) (v3 : AV) (H : Heap) (K : AV → Heap → Prop) : Prop :=
 convV tab 3 68 v0 fun v12 =>
 binV tab .geq 68 v2 v12 fun v13 =>
 condV v13 (K (AV.p (.int .u64 0)) H)
 (condV v3 (binV tab .shl 68 v1 v2 fun v18 =>
 CallT Tryz.prog 59 [v0] H fun v20 H1 =>
 binV tab .and 68 v18 v20 fun v21 =>
 K v21 H1)
 (binV tab .shr 68 v1 v2 fun v24 =>
 K v24 H))
theorem W79_wp (v0 : AV) (v1 : AV) (v2 : AV) (v3 : AV) (H : Heap) (K : AV → Heap → Prop) : wpC Tryz.prog tab D79 (bodyOf Tryz.f79) (retF tab [.tmp 8] K) (nthA [v0, v1, v2, v3]) H = W79 v0 v1 v2 v3 H K := by kernel_rfl
theorem W79_ok {v0 v1 v2 v3 : AV} {H : Heap} {K : AV → Heap → Prop} (h : W79 v0 v1 v2 v3 H K) : CallT Tryz.prog 79 [v0, v1, v2, v3] H K :=
  CallT.of_wp (D := D79) tab_ok mixed Tryz.func79 (c := bodyOf Tryz.f79) (by kernel_rfl) rfl (by kernel_rfl) (rs := #[.tmp 8]) rfl (by decide +kernel) (by kernel_rfl) (W79_wp v0 v1 v2 v3 H K) h
/-- loop.example/g00649/impl.truth -/
def D80 : Info := ⟨4, fun i => ([], []), fun i => ([], [])⟩
def W80 (v0 : AV) (H : Heap) (K : AV → Heap → Prop) : Prop :=
 condV v0 (K (AV.p (.int .u64 1)) H)
 (K (AV.p (.int .u64 0)) H)
theorem W80_wp (v0 : AV) (H : Heap) (K : AV → Heap → Prop) : wpC Tryz.prog tab D80 (bodyOf Tryz.f80) (retF tab [.tmp 2] K) (nthA [v0]) H = W80 v0 H K := by kernel_rfl
theorem W80_ok {v0 : AV} {H : Heap} {K : AV → Heap → Prop} (h : W80 v0 H K) : CallT Tryz.prog 80 [v0] H K :=
  CallT.of_wp (D := D80) tab_ok mixed Tryz.func80 (c := bodyOf Tryz.f80) (by kernel_rfl) rfl (by kernel_rfl) (rs := #[.tmp 2]) rfl (by decide +kernel) (by kernel_rfl) (W80_wp v0 H K) h
/-- loop.example/g00649/impl.signed -/
def D81 : Info := ⟨13, fun i => ([], []), fun i => ([], [])⟩
def W81 (v0 : AV) (v1 : AV) (H : Heap) (K : AV → Heap → Prop) : Prop :=
 binV tab .sub 3 (AV.p (.int .i64 64)) v0 fun v7 =>
 binV tab .shl 68 v1 v7 fun v8 =>
 convV tab 68 2 v8 fun v9 =>
 binV tab .sub 3 (AV.p (.int .i64 64)) v0 fun v11 =>
 binV tab .shr 2 v9 v11 fun v12 =>
 K v12 H
theorem W81_wp (v0 : AV) (v1 : AV) (H : Heap) (K : AV → Heap → Prop) : wpC Tryz.prog tab D81 (bodyOf Tryz.f81) (retF tab [.tmp 4] K) (nthA [v0, v1]) H = W81 v0 v1 H K := by kernel_rfl
theorem W81_ok {v0 v1 : AV} {H : Heap} {K : AV → Heap → Prop} (h : W81 v0 v1 H K) : CallT Tryz.prog 81 [v0, v1] H K :=
  CallT.of_wp (D := D81) tab_ok mixed Tryz.func81 (c := bodyOf Tryz.f81) (by kernel_rfl) rfl (by kernel_rfl) (rs := #[.tmp 4]) rfl (by decide +kernel) (by kernel_rfl) (W81_wp v0 v1 H K) h
/-- loop.example/g00649/laws.eqChangeS -/
def D82 : Info := ⟨27, fun i => if i = 6 then ([[], [], [0, 1], [0, 1, 2], [], [], [4, 5], [4, 5, 6], [0, 1, 2, 3, 4, 5, 6, 7], [0, 1, 2, 3, 4, 5, 6, 7, 8]], [(0, []), (1, []), (2, []), (3, []), (4, []), (5, []), (6, []), (7, []), (8, []), (9, [])]) else ([], []), fun i => if i = 4 then ([0, 1], [5]) else ([], [])⟩
def L82_0 (K : AV → Heap → Prop) (v0 : AV) (v1 : AV) (v5 : AV) (H : Heap) : Prop := LoopV (wpC Tryz.prog tab D82 (cAt [1, 1, 0, 1, 0, 0] (bodyOf Tryz.f82))) [0, 1] (PostF.block 0 (PostF.thenA (wpC Tryz.prog tab D82 (cAt [1, 1, 1] (bodyOf Tryz.f82))) (retF tab [.tmp 4] K))) [5] [v0, v1, AV.any, AV.any, AV.any, v5, AV.any, AV.any, AV.any, AV.any, AV.any, AV.any, AV.any, AV.any, AV.any, AV.any, AV.any, AV.any, AV.any, AV.any, AV.any, AV.any, AV.any, AV.any, AV.any, AV.any, AV.any] H
def B82_0 (K : AV → Heap → Prop) (N1 : AV → Heap → Prop) (v0 : AV) (v1 : AV) (v5 : AV) (H : Heap) : Prop :=
 lenV tab 90 v0 fun v13 =>
 binV tab .lss 3 v5 v13 fun v14 =>
 condV v14 (indexAddrV tab 90 v0 v5 fun v19 =>
 loadV tab 123 v19 H fun v20 =>
 indexAddrV tab 90 v1 v5 fun v23 =>
 loadV tab 123 v23 H fun v24 =>
 CallT Tryz.prog 97 [v20, v24] H fun v25 H1 =>
 unV .not v25 fun v26 =>
 condV v26 (K (AV.p (.bool false)) H1)
 (binV tab .add 3 v5 (AV.p (.int .i64 1)) fun v16 =>
 N1 v16 H1))
 (K (AV.p (.bool true)) H)
def W82 (v0 : AV) (v1 : AV) (H : Heap) (K : AV → Heap → Prop) : Prop :=
 lenV tab 90 v0 fun v7 =>
 lenV tab 90 v1 fun v9 =>
 binV tab .neq 3 v7 v9 fun v10 =>
 condV v10 (K (AV.p (.bool false)) H)
 (L82_0 K v0 v1 (AV.p (.int .i64 0)) H)
theorem W82_wp (v0 : AV) (v1 : AV) (H : Heap) (K : AV → Heap → Prop) : wpC Tryz.prog tab D82 (bodyOf Tryz.f82) (retF tab [.tmp 4] K) (nthA [v0, v1]) H = W82 v0 v1 H K := by kernel_rfl
theorem W82_ok {v0 v1 : AV} {H : Heap} {K : AV → Heap → Prop} (h : W82 v0 v1 H K) : CallT Tryz.prog 82 [v0, v1] H K :=
  CallT.of_wp (D := D82) tab_ok mixed Tryz.func82 (c := bodyOf Tryz.f82) (by kernel_rfl) rfl (by kernel_rfl) (rs := #[.tmp 4]) rfl (by decide +kernel) (by kernel_rfl) (W82_wp v0 v1 H K) h
theorem L82_0_rule {K : AV → Heap → Prop} {v0 v1 v5 : AV} {H : Heap} {σ : Type} (s0 : σ) (f5 : σ → AV) (TH : σ → Heap) (pre : σ → Prop) (μ : σ → Nat)
    (h0 : pre s0 ∧ AV.wk v5 (f5 s0) ∧ Heap.le (TH s0) H)
    (round : ∀ s, pre s → B82_0 K (fun w5 H' => ∃ s', pre s' ∧ μ s' < μ s ∧ AV.wk w5 (f5 s') ∧ Heap.le (TH s') H') v0 v1 (f5 s) (TH s)) :
    L82_0 K v0 v1 v5 H := by
  unfold L82_0
  exact LoopV.mk s0 (fun s => [f5 s]) TH pre μ (fun _ => rfl) (Eq.mp (by kernel_rfl) h0) (fun s hs => Eq.mp (by kernel_rfl) (round s hs))
/-- loop.example/g00649/spec.l1Wide -/
def D83 : Info := ⟨5, fun i => ([], []), fun i => ([], [])⟩
def W83 (v0 : AV) (H : Heap) (K : AV → Heap → Prop) : Prop :=
 CallT Tryz.prog 63 [v0, (AV.p (.int .i64 1)), (AV.p (.int .i64 64))] H fun v4 H1 =>
 K v4 H1
theorem W83_wp (v0 : AV) (H : Heap) (K : AV → Heap → Prop) : wpC Tryz.prog tab D83 (bodyOf Tryz.f83) (retF tab [.tmp 2] K) (nthA [v0]) H = W83 v0 H K := by kernel_rfl
theorem W83_ok {v0 : AV} {H : Heap} {K : AV → Heap → Prop} (h : W83 v0 H K) : CallT Tryz.prog 83 [v0] H K :=
  CallT.of_wp (D := D83) tab_ok mixed Tryz.func83 (c := bodyOf Tryz.f83) (by kernel_rfl) rfl (by kernel_rfl) (rs := #[.tmp 2]) rfl (by decide +kernel) (by kernel_rfl) (W83_wp v0 H K) h
/-- loop.example/g00649/spec.l2Need -/
def D84 : Info := ⟨34, fun i => ([], []), fun i => ([], [])⟩
def W84 (v0 : AV) (H : Heap) (K : AV → Heap → Prop) : Prop :=
 binV tab .eql 3 v0 (AV.p (.int .i64 1)) fun v7 =>
 grdV v7 false (binV tab .eql 3 v0 (AV.p (.int .i64 2)) fun v10 =>
 condV v10 (K (.tup [(AV.p (.int .i64 0)), (AV.p (.int .i64 1)), (AV.p (.int .i64 1))]) H)
 (binV tab .eql 3 v0 (AV.p (.int .i64 20)) fun v14 =>
 condV v14 (K (.tup [(AV.p (.int .i64 0)), (AV.p (.int .i64 2)), (AV.p (.int .i64 2))]) H)
 (binV tab .eql 3 v0 (AV.p (.int .i64 13)) fun v17 =>
 condV v17 (K (.tup [(AV.p (.int .i64 1)), (AV.p (.int .i64 1)), (AV.p (.int .i64 1))]) H)
 (binV tab .eql 3 v0 (AV.p (.int .i64 19)) fun v20 =>
 condV v20 (K (.tup [(AV.p (.int .i64 1)), (AV.p (.int .i64 2)), (AV.p (.int .i64 2))]) H)
 (CallT Tryz.prog 63 [v0, (AV.p (.int .i64 3)), (AV.p (.int .i64 12))] H fun v23 H1 =>
 condV v23 (K (.tup [(AV.p (.int .i64 2)), (AV.p (.int .i64 1)), (AV.p (.int .i64 1))]) H1)
 (CallT Tryz.prog 63 [v0, (AV.p (.int .i64 14)), (AV.p (.int .i64 16))] H1 fun v26 H2 =>
 condV v26 (K (.tup [(AV.p (.int .i64 2)), (AV.p (.int .i64 1)), (AV.p (.int .i64 2))]) H2)
 (binV tab .eql 3 v0 (AV.p (.int .i64 17)) fun v29 =>
 grdV v29 false (binV tab .eql 3 v0 (AV.p (.int .i64 18)) fun v32 =>
 condV v32 (K (.tup [(AV.p (.int .i64 2)), (AV.p (.int .i64 2)), (AV.p (.int .i64 2))]) H2)
 (K (.tup [(AV.p (.int .i64 0)), (AV.p (.int .i64 0)), (AV.p (.int .i64 0))]) H2))
 (K (.tup [(AV.p (.int .i64 2)), (AV.p (.int .i64 2)), (AV.p (.int .i64 2))]) H2))))))))
 (K (.tup [(AV.p (.int .i64 0)), (AV.p (.int .i64 1)), (AV.p (.int .i64 1))]) H)
theorem W84_wp (v0 : AV) (H : Heap) (K : AV → Heap → Prop) : wpC Tryz.prog tab D84 (bodyOf Tryz.f84) (retF tab [.tmp 2, .tmp 3, .tmp 4] K) (nthA [v0]) H = W84 v0 H K := by kernel_rfl
theorem W84_ok {v0 : AV} {H : Heap} {K : AV → Heap → Prop} (h : W84 v0 H K) : CallT Tryz.prog 84 [v0] H K :=
  CallT.of_wp (D := D84) tab_ok mixed Tryz.func84 (c := bodyOf Tryz.f84) (by kernel_rfl) rfl (by kernel_rfl) (rs := #[.tmp 2, .tmp 3, .tmp 4]) rfl (by decide +kernel) (by kernel_rfl) (W84_wp v0 H K) h
/-- loop.example/g00649/spec.l2N -/
def D85 : Info := ⟨30, fun i => ([], []), fun i => ([], [])⟩
def W85 (v0 : AV) (v1 : AV) (v2 : AV) (H : Heap) (K : AV → Heap → Prop) : Prop :=
 boxV v2 H fun v5 H1 =>
 fieldAddrV tab 80 v5 0 fun v7 =>
 loadV tab 3 v7 H1 fun v8 =>
 binV tab .eql 3 v8 (AV.p (.int .i64 1)) fun v10 =>
 condV v10 (fieldAddrV tab 80 v5 1 fun v12 =>
 loadV tab 68 v12 H1 fun v13 =>
 CallT Tryz.prog 98 [v0, v13] H1 fun v14 H2 =>
 K v14 H2)
 (binV tab .eql 3 v8 (AV.p (.int .i64 2)) fun v16 =>
 condV v16 (fieldAddrV tab 80 v5 1 fun v17 =>
 loadV tab 68 v17 H1 fun v18 =>
 convV tab 3 68 v1 fun v20 =>
 binV tab .lss 68 v18 v20 fun v21 =>
 K v21 H1)
 (binV tab .eql 3 v8 (AV.p (.int .i64 20)) fun v23 =>
 condV v23 (fieldAddrV tab 80 v5 1 fun v24 =>
 loadV tab 68 v24 H1 fun v25 =>
 binV tab .lss 68 v25 (AV.p (.int .u64 2)) fun v26 =>
 K v26 H1)
 (fieldAddrV tab 80 v5 1 fun v27 =>
 loadV tab 68 v27 H1 fun v28 =>
 binV tab .eql 68 v28 (AV.p (.int .u64 0)) fun v29 =>
 K v29 H1)))
theorem W85_wp (v0 : AV) (v1 : AV) (v2 : AV) (H : Heap) (K : AV → Heap → Prop) : wpC Tryz.prog tab D85 (bodyOf Tryz.f85) (retF tab [.tmp 6] K) (nthA [v0, v1, v2]) H = W85 v0 v1 v2 H K := by kernel_rfl
theorem W85_ok {v0 v1 v2 : AV} {H : Heap} {K : AV → Heap → Prop} (h : W85 v0 v1 v2 H K) : CallT Tryz.prog 85 [v0, v1, v2] H K :=
  CallT.of_wp (D := D85) tab_ok mixed Tryz.func85 (c := bodyOf Tryz.f85) (by kernel_rfl) rfl (by kernel_rfl) (rs := #[.tmp 6]) rfl (by decide +kernel) (by kernel_rfl) (W85_wp v0 v1 v2 H K) h
end Go.Proofs.YtdnfiacjoghfkaaGreat
