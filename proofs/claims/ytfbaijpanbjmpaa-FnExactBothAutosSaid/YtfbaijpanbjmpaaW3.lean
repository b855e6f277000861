/- What each function's code is asked for, as a formula. Written by wgen.py (a program of this session's) out of Lean's print of the program. -/
import Derived.KernelRfl
import Derived.Test.YtfbaijpanbjmpaaTab
import Derived.Test.YtfbaijpanbjmpaaSepC
namespace Go.Proofs.Ytfbaijpanbjmpaa
open Go Go.Sep
set_option linter.unusedVariables false
attribute [local irreducible] wpC headF
/-- loop.example/g00649/impl.compareEdges -/
def D83 : Info := ⟨22, fun i => if i = 1 then ([[], [0], [], [2], [0, 1, 2, 3], [], [5], [], [7], [0, 1, 2, 3, 4, 5, 6, 7, 8], [], [10], [], [12], [0, 1, 2, 3, 4, 5, 6, 7, 8, 9, 10, 11, 12, 13], [0, 1, 2, 3, 4, 5, 6, 7, 8, 9, 10, 11, 12, 13, 14], [0, 1, 2, 3, 4, 5, 6, 7, 8, 9, 10, 11, 12, 13, 14, 15], [0, 1, 2, 3, 4, 5, 6, 7, 8, 9, 10, 11, 12, 13, 14, 15, 16]], [(0, []), (1, []), (2, []), (3, []), (5, []), (6, []), (7, []), (8, []), (10, []), (11, []), (12, []), (13, []), (4, [6, 8, 11, 13]), (9, [11, 13]), (14, []), (15, []), (16, []), (17, [])]) else ([], []), fun i => ([], [])⟩
def W83 (v0 : AV) (v1 : AV) (H : Heap) (K : AV → Heap → Prop) : Prop :=
 boxV v0 H fun v2 H1 =>
 boxV v1 H1 fun v3 H2 =>
 fieldAddrV tab 61 v2 0 fun v5 =>
 loadV tab 3 v5 H2 fun v6 =>
 fieldAddrV tab 61 v3 0 fun v7 =>
 loadV tab 3 v7 H2 fun v8 =>
 fieldAddrV tab 61 v2 1 fun v10 =>
 loadV tab 3 v10 H2 fun v11 =>
 fieldAddrV tab 61 v3 1 fun v12 =>
 loadV tab 3 v12 H2 fun v13 =>
 fieldAddrV tab 61 v2 2 fun v15 =>
 loadV tab 3 v15 H2 fun v16 =>
 fieldAddrV tab 61 v3 2 fun v17 =>
 loadV tab 3 v17 H2 fun v18 =>
 CallT Try.prog 109 [v6, v8] H2 fun v9 H3 =>
 (loadV tab 3 v10 H3 fun v9011 =>
 v11 = v9011) ∧
 (loadV tab 3 v12 H3 fun v9013 =>
 v13 = v9013) ∧
 (loadV tab 3 v15 H3 fun v9016 =>
 v16 = v9016) ∧
 (loadV tab 3 v17 H3 fun v9018 =>
 v18 = v9018) ∧
 CallT Try.prog 109 [v11, v13] H3 fun v14 H4 =>
 (loadV tab 3 v15 H4 fun v9016 =>
 v16 = v9016) ∧
 (loadV tab 3 v17 H4 fun v9018 =>
 v18 = v9018) ∧
 CallT Try.prog 109 [v16, v18] H4 fun v19 H5 =>
 buildSliceV tab 22 3 [(0, v9), (1, v14), (2, v19)] H5 (wkK fun v20 H6 =>
 CallT Try.prog 108 [v20] H6 fun v21 H7 =>
 K v21 H7)
theorem W83_wp (v0 : AV) (v1 : AV) (H : Heap) (K : AV → Heap → Prop) : wpC Try.prog tab D83 (bodyOf Try.f83) (retF tab [.tmp 4] K) (nthA [v0, v1]) H = W83 v0 v1 H K := by kernel_rfl
theorem W83_ok {v0 v1 : AV} {H : Heap} {K : AV → Heap → Prop} (h : W83 v0 v1 H K) : CallT Try.prog 83 [v0, v1] H K :=
  CallT.of_wp (D := D83) tab_ok mixed Try.func83 (c := bodyOf Try.f83) (by kernel_rfl) rfl (by kernel_rfl) (rs := #[.tmp 4]) rfl (by decide +kernel) (by kernel_rfl) (W83_wp v0 v1 H K) h
theorem W83_hb : HasBody Try.prog 83 := ⟨_, bodyOf Try.f83, Try.func83, by kernel_rfl, rfl⟩
/-- loop.example/g00649/laws.eqEdge -/
def D86 : Info := ⟨20, fun i => ([], []), fun i => ([], [])⟩
def W86 (v0 : AV) (v1 : AV) (H : Heap) (K : AV → Heap → Prop) : Prop :=
 boxV v0 H fun v2 H1 =>
 boxV v1 H1 fun v3 H2 =>
 fieldAddrV tab 61 v2 0 fun v5 =>
 loadV tab 3 v5 H2 fun v6 =>
 fieldAddrV tab 61 v3 0 fun v7 =>
 loadV tab 3 v7 H2 fun v8 =>
 binV tab .neq 3 v6 v8 fun v9 =>
 condV v9 (K (AV.p (.bool false)) H2)
 (fieldAddrV tab 61 v2 1 fun v10 =>
 loadV tab 3 v10 H2 fun v11 =>
 fieldAddrV tab 61 v3 1 fun v12 =>
 loadV tab 3 v12 H2 fun v13 =>
 binV tab .neq 3 v11 v13 fun v14 =>
 condV v14 (K (AV.p (.bool false)) H2)
 (fieldAddrV tab 61 v2 2 fun v15 =>
 loadV tab 3 v15 H2 fun v16 =>
 fieldAddrV tab 61 v3 2 fun v17 =>
 loadV tab 3 v17 H2 fun v18 =>
 binV tab .neq 3 v16 v18 fun v19 =>
 condV v19 (K (AV.p (.bool false)) H2)
 (K (AV.p (.bool true)) H2)))
theorem W86_wp (v0 : AV) (v1 : AV) (H : Heap) (K : AV → Heap → Prop) : wpC Try.prog tab D86 (bodyOf Try.f86) (retF tab [.tmp 4] K) (nthA [v0, v1]) H = W86 v0 v1 H K := by kernel_rfl
theorem W86_ok {v0 v1 : AV} {H : Heap} {K : AV → Heap → Prop} (h : W86 v0 v1 H K) : CallT Try.prog 86 [v0, v1] H K :=
  CallT.of_wp (D := D86) tab_ok mixed Try.func86 (c := bodyOf Try.f86) (by kernel_rfl) rfl (by kernel_rfl) (rs := #[.tmp 4]) rfl (by decide +kernel) (by kernel_rfl) (W86_wp v0 v1 H K) h
theorem W86_hb : HasBody Try.prog 86 := ⟨_, bodyOf Try.f86, Try.func86, by kernel_rfl, rfl⟩
/-- loop.example/g00649/spec.l11Marks -/
def D90 : Info := ⟨21, fun i => ([], []), fun i => if i = 3 then ([5, 10, 11], [12]) else ([], [])⟩
def L90_0 (K : AV → Heap → Prop) (v5 : AV) (v10 : AV) (v11 : AV) (v12 : AV) (H : Heap) : Prop := LoopV (wpC Try.prog tab D90 (cAt [1, 1, 0, 1, 0, 0] (bodyOf Try.f90))) [5, 10, 11] (PostF.block 0 (PostF.thenA (wpC Try.prog tab D90 (cAt [1, 1, 1] (bodyOf Try.f90))) (retF tab [.tmp 4] K))) [12] [AV.any, AV.any, AV.any, AV.any, AV.any, v5, AV.any, AV.any, AV.any, AV.any, v10, v11, v12, AV.any, AV.any, AV.any, AV.any, AV.any, AV.any, AV.any, AV.any] H
def B90_0 (K : AV → Heap → Prop) (N1 : AV → Heap → Prop) (v5 : AV) (v10 : AV) (v11 : AV) (v12 : AV) (H : Heap) : Prop :=
 binV tab .lss 3 v12 v11 fun v13 =>
 condV v13 (indexAddrV tab 22 v10 v12 fun v14 =>
 loadV tab 3 v14 H fun v15 =>
 indexAddrV tab 94 v5 v15 fun v18 =>
 storeV tab 4 v18 (AV.p (.bool true)) H fun H2 =>
 binV tab .add 3 v12 (AV.p (.int .i64 1)) fun v19 =>
 N1 v19 H2)
 (K v5 H)
def W90 (v0 : AV) (v1 : AV) (H : Heap) (K : AV → Heap → Prop) : Prop :=
 makeSliceV tab 94 v0 v0 H fun v9 H1 =>
 lenV tab 22 v1 fun v11 =>
 L90_0 K v9 v1 v11 (AV.p (.int .i64 0)) H1
theorem W90_wp (v0 : AV) (v1 : AV) (H : Heap) (K : AV → Heap → Prop) : wpC Try.prog tab D90 (bodyOf Try.f90) (retF tab [.tmp 4] K) (nthA [v0, v1]) H = W90 v0 v1 H K := by kernel_rfl
theorem W90_ok {v0 v1 : AV} {H : Heap} {K : AV → Heap → Prop} (h : W90 v0 v1 H K) : CallT Try.prog 90 [v0, v1] H K :=
  CallT.of_wp (D := D90) tab_ok mixed Try.func90 (c := bodyOf Try.f90) (by kernel_rfl) rfl (by kernel_rfl) (rs := #[.tmp 4]) rfl (by decide +kernel) (by kernel_rfl) (W90_wp v0 v1 H K) h
theorem W90_hb : HasBody Try.prog 90 := ⟨_, bodyOf Try.f90, Try.func90, by kernel_rfl, rfl⟩
theorem L90_0_rule {K : AV → Heap → Prop} {v5 v10 v11 v12 : AV} {H : Heap} {σ : Type} (s0 : σ) (f12 : σ → AV) (TH : σ → Heap) (pre : σ → Prop) (μ : σ → Nat)
    (h0 : pre s0 ∧ AV.wk v12 (f12 s0) ∧ Heap.le (TH s0) H)
    (round : ∀ s, pre s → B90_0 K (fun w12 H' => ∃ s', pre s' ∧ μ s' < μ s ∧ AV.wk w12 (f12 s') ∧ Heap.le (TH s') H') v5 v10 v11 (f12 s) (TH s)) :
    L90_0 K v5 v10 v11 v12 H := by
  unfold L90_0
  exact LoopV.mk s0 (fun s => [f12 s]) TH pre μ (fun _ => rfl) (Eq.mp (by kernel_rfl) h0) (fun s hs => Eq.mp (by kernel_rfl) (round s hs))
theorem L90_0_ruleG {K : AV → Heap → Prop} {v5 v10 v11 v12 : AV} {H : Heap} {σ : Type} (s0 : σ) (f12 : σ → AV) (TH : σ → Heap) (pre : σ → Prop) (μ : σ → Nat)
    (h0 : pre s0 ∧ AV.wk v12 (f12 s0) ∧ Heap.le (TH s0) H)
    (round : ∀ s, pre s → ∀ q, TH s q = none → B90_0 K (fun w12 H' => ∃ s', pre s' ∧ μ s' < μ s ∧ AV.wk w12 (f12 s') ∧ Heap.le (TH s') H') v5 v10 v11 (f12 s) ((TH s).set q [])) :
    L90_0 K v5 v10 v11 v12 H := by
  unfold L90_0
  exact LoopV.mkG s0 (fun s => [f12 s]) TH pre μ (fun _ => rfl) (Eq.mp (by kernel_rfl) h0) (fun s hs q hq => Eq.mp (by kernel_rfl) (round s hs q hq))
/-- loop.example/g00649/spec.l11List -/
def D99 : Info := ⟨20, fun i => ([], []), fun i => if i = 3 then ([6, 7], [3, 8]) else ([], [])⟩
def L99_0 (K : AV → Heap → Prop) (v3 : AV) (v6 : AV) (v7 : AV) (v8 : AV) (H : Heap) : Prop := LoopV (wpC Try.prog tab D99 (cAt [1, 1, 0, 1, 0, 0] (bodyOf Try.f99))) [6, 7] (PostF.block 0 (PostF.thenA (wpC Try.prog tab D99 (cAt [1, 1, 1] (bodyOf Try.f99))) (retF tab [.tmp 2] K))) [3, 8] [AV.any, AV.any, AV.any, v3, AV.any, AV.any, v6, v7, v8, AV.any, AV.any, AV.any, AV.any, AV.any, AV.any, AV.any, AV.any, AV.any, AV.any, AV.any] H
def B99_0 (K : AV → Heap → Prop) (N1 : AV → AV → Heap → Prop) (v3 : AV) (v6 : AV) (v7 : AV) (v8 : AV) (H : Heap) : Prop :=
 binV tab .lss 3 v8 v7 fun v9 =>
 condV v9 (indexAddrV tab 94 v6 v8 fun v11 =>
 loadV tab 4 v11 H fun v12 =>
 condV v12 (buildSliceV tab 22 1 [(0, v8)] H (wkK fun v16 H1 =>
 appendV tab 22 22 v3 v16 H1 (wkK fun v17 H2 =>
 binV tab .add 3 v8 (AV.p (.int .i64 1)) fun v18 =>
 N1 v17 v18 H2)))
 (binV tab .add 3 v8 (AV.p (.int .i64 1)) fun v18 =>
 N1 v3 v18 H))
 (K v3 H)
def W99 (v0 : AV) (H : Heap) (K : AV → Heap → Prop) : Prop :=
 lenV tab 94 v0 fun v7 =>
 L99_0 K (AV.p .nil) v0 v7 (AV.p (.int .i64 0)) H
theorem W99_wp (v0 : AV) (H : Heap) (K : AV → Heap → Prop) : wpC Try.prog tab D99 (bodyOf Try.f99) (retF tab [.tmp 2] K) (nthA [v0]) H = W99 v0 H K := by kernel_rfl
theorem W99_ok {v0 : AV} {H : Heap} {K : AV → Heap → Prop} (h : W99 v0 H K) : CallT Try.prog 99 [v0] H K :=
  CallT.of_wp (D := D99) tab_ok mixed Try.func99 (c := bodyOf Try.f99) (by kernel_rfl) rfl (by kernel_rfl) (rs := #[.tmp 2]) rfl (by decide +kernel) (by kernel_rfl) (W99_wp v0 H K) h
theorem W99_hb : HasBody Try.prog 99 := ⟨_, bodyOf Try.f99, Try.func99, by kernel_rfl, rfl⟩
theorem L99_0_rule {K : AV → Heap → Prop} {v3 v6 v7 v8 : AV} {H : Heap} {σ : Type} (s0 : σ) (f3 : σ → AV) (f8 : σ → AV) (TH : σ → Heap) (pre : σ → Prop) (μ : σ → Nat)
    (h0 : pre s0 ∧ AV.wk v3 (f3 s0) ∧ AV.wk v8 (f8 s0) ∧ Heap.le (TH s0) H)
    (round : ∀ s, pre s → B99_0 K (fun w3 w8 H' => ∃ s', pre s' ∧ μ s' < μ s ∧ AV.wk w3 (f3 s') ∧ AV.wk w8 (f8 s') ∧ Heap.le (TH s') H') (f3 s) v6 v7 (f8 s) (TH s)) :
    L99_0 K v3 v6 v7 v8 H := by
  unfold L99_0
  exact LoopV.mk s0 (fun s => [f3 s, f8 s]) TH pre μ (fun _ => rfl) (Eq.mp (by kernel_rfl) h0) (fun s hs => Eq.mp (by kernel_rfl) (round s hs))
theorem L99_0_ruleG {K : AV → Heap → Prop} {v3 v6 v7 v8 : AV} {H : Heap} {σ : Type} (s0 : σ) (f3 : σ → AV) (f8 : σ → AV) (TH : σ → Heap) (pre : σ → Prop) (μ : σ → Nat)
    (h0 : pre s0 ∧ AV.wk v3 (f3 s0) ∧ AV.wk v8 (f8 s0) ∧ Heap.le (TH s0) H)
    (round : ∀ s, pre s → ∀ q, TH s q = none → B99_0 K (fun w3 w8 H' => ∃ s', pre s' ∧ μ s' < μ s ∧ AV.wk w3 (f3 s') ∧ AV.wk w8 (f8 s') ∧ Heap.le (TH s') H') (f3 s) v6 v7 (f8 s) ((TH s).set q [])) :
    L99_0 K v3 v6 v7 v8 H := by
  unfold L99_0
  exact LoopV.mkG s0 (fun s => [f3 s, f8 s]) TH pre μ (fun _ => rfl) (Eq.mp (by kernel_rfl) h0) (fun s hs q hq => Eq.mp (by kernel_rfl) (round s hs q hq))
/-- loop.example/g00649/spec.l1Rising -/
def D105 : Info := ⟨35, fun i => ([], []), fun i => if i = 2 then ([0, 1, 2, 9, 10], [11]) else ([], [])⟩
def L105_0 (K : AV → Heap → Prop) (v0 : AV) (v1 : AV) (v2 : AV) (v9 : AV) (v10 : AV) (v11 : AV) (H : Heap) : Prop := LoopV (wpC Try.prog tab D105 (cAt [1, 0, 1, 0, 0] (bodyOf Try.f105))) [0, 1, 2, 9, 10] (PostF.block 0 (PostF.thenA (wpC Try.prog tab D105 (cAt [1, 1] (bodyOf Try.f105))) (retF tab [.tmp 6] K))) [11] [v0, v1, v2, AV.any, AV.any, AV.any, AV.any, AV.any, AV.any, v9, v10, v11, AV.any, AV.any, AV.any, AV.any, AV.any, AV.any, AV.any, AV.any, AV.any, AV.any, AV.any, AV.any, AV.any, AV.any, AV.any, AV.any, AV.any, AV.any, AV.any, AV.any, AV.any, AV.any, AV.any] H
def B105_0 (K : AV → Heap → Prop) (N1 : AV → Heap → Prop) (v0 : AV) (v1 : AV) (v2 : AV) (v9 : AV) (v10 : AV) (v11 : AV) (H : Heap) : Prop :=
 binV tab .lss 3 v11 v10 fun v12 =>
 condV v12 (indexAddrV tab 22 v9 v11 fun v14 =>
 loadV tab 3 v14 H fun v15 =>
 CallT Try.prog 76 [v15, v1, v2] H fun v19 H1 =>
 unV .not v19 fun v20 =>
 grdV v20 false (binV tab .gtr 3 v11 (AV.p (.int .i64 0)) fun v23 =>
 grdV v23 true (binV tab .sub 3 v11 (AV.p (.int .i64 1)) fun v27 =>
 indexAddrV tab 22 v0 v27 fun v28 =>
 loadV tab 3 v28 H1 fun v29 =>
 binV tab .geq 3 v29 v15 fun v31 =>
 condV v31 (K (AV.p (.bool false)) H1)
 (binV tab .add 3 v11 (AV.p (.int .i64 1)) fun v34 =>
 N1 v34 H1))
 (binV tab .add 3 v11 (AV.p (.int .i64 1)) fun v34 =>
 N1 v34 H1))
 (K (AV.p (.bool false)) H1))
 (K (AV.p (.bool true)) H)
def W105 (v0 : AV) (v1 : AV) (v2 : AV) (H : Heap) (K : AV → Heap → Prop) : Prop :=
 lenV tab 22 v0 fun v10 =>
 L105_0 K v0 v1 v2 v0 v10 (AV.p (.int .i64 0)) H
theorem W105_wp (v0 : AV) (v1 : AV) (v2 : AV) (H : Heap) (K : AV → Heap → Prop) : wpC Try.prog tab D105 (bodyOf Try.f105) (retF tab [.tmp 6] K) (nthA [v0, v1, v2]) H = W105 v0 v1 v2 H K := by kernel_rfl
theorem W105_ok {v0 v1 v2 : AV} {H : Heap} {K : AV → Heap → Prop} (h : W105 v0 v1 v2 H K) : CallT Try.prog 105 [v0, v1, v2] H K :=
  CallT.of_wp (D := D105) tab_ok mixed Try.func105 (c := bodyOf Try.f105) (by kernel_rfl) rfl (by kernel_rfl) (rs := #[.tmp 6]) rfl (by decide +kernel) (by kernel_rfl) (W105_wp v0 v1 v2 H K) h
theorem W105_hb : HasBody Try.prog 105 := ⟨_, bodyOf Try.f105, Try.func105, by kernel_rfl, rfl⟩
theorem L105_0_rule {K : AV → Heap → Prop} {v0 v1 v2 v9 v10 v11 : AV} {H : Heap} {σ : Type} (s0 : σ) (f11 : σ → AV) (TH : σ → Heap) (pre : σ → Prop) (μ : σ → Nat)
    (h0 : pre s0 ∧ AV.wk v11 (f11 s0) ∧ Heap.le (TH s0) H)
    (round : ∀ s, pre s → B105_0 K (fun w11 H' => ∃ s', pre s' ∧ μ s' < μ s ∧ AV.wk w11 (f11 s') ∧ Heap.le (TH s') H') v0 v1 v2 v9 v10 (f11 s) (TH s)) :
    L105_0 K v0 v1 v2 v9 v10 v11 H := by
  unfold L105_0
  exact LoopV.mk s0 (fun s => [f11 s]) TH pre μ (fun _ => rfl) (Eq.mp (by kernel_rfl) h0) (fun s hs => Eq.mp (by kernel_rfl) (round s hs))
theorem L105_0_ruleG {K : AV → Heap → Prop} {v0 v1 v2 v9 v10 v11 : AV} {H : Heap} {σ : Type} (s0 : σ) (f11 : σ → AV) (TH : σ → Heap) (pre : σ → Prop) (μ : σ → Nat)
    (h0 : pre s0 ∧ AV.wk v11 (f11 s0) ∧ Heap.le (TH s0) H)
    (round : ∀ s, pre s → ∀ q, TH s q = none → B105_0 K (fun w11 H' => ∃ s', pre s' ∧ μ s' < μ s ∧ AV.wk w11 (f11 s') ∧ Heap.le (TH s') H') v0 v1 v2 v9 v10 (f11 s) ((TH s).set q [])) :
    L105_0 K v0 v1 v2 v9 v10 v11 H := by
  unfold L105_0
  exact LoopV.mkG s0 (fun s => [f11 s]) TH pre μ (fun _ => rfl) (Eq.mp (by kernel_rfl) h0) (fun s hs q hq => Eq.mp (by kernel_rfl) (round s hs q hq))
/-- slices.ContainsFunc[[][]int,[]int] -/
def D106 : Info := ⟨9, fun i => ([], []), fun i => ([], [])⟩
def W106 (v0 : AV) (v1 : AV) (H : Heap) (K : AV → Heap → Prop) : Prop :=
 CallT Try.prog 120 [v0, v1] H fun v7 H1 =>
 binV tab .geq 3 v7 (AV.p (.int .i64 0)) fun v8 =>
 K v8 H1
theorem W106_wp (v0 : AV) (v1 : AV) (H : Heap) (K : AV → Heap → Prop) : wpC Try.prog tab D106 (bodyOf Try.f106) (retF tab [.tmp 4] K) (nthA [v0, v1]) H = W106 v0 v1 H K := by kernel_rfl
theorem W106_ok {v0 v1 : AV} {H : Heap} {K : AV → Heap → Prop} (h : W106 v0 v1 H K) : CallT Try.prog 106 [v0, v1] H K :=
  CallT.of_wp (D := D106) tab_ok mixed Try.func106 (c := bodyOf Try.f106) (by kernel_rfl) rfl (by kernel_rfl) (rs := #[.tmp 4]) rfl (by decide +kernel) (by kernel_rfl) (W106_wp v0 v1 H K) h
theorem W106_hb : HasBody Try.prog 106 := ⟨_, bodyOf Try.f106, Try.func106, by kernel_rfl, rfl⟩
/-- loop.example/g00649/impl.areGoals$1 -/
def D107 : Info := ⟨8, fun i => ([], []), fun i => ([], [])⟩
def W107 (v0 : AV) (v1 : AV) (H : Heap) (K : AV → Heap → Prop) : Prop :=
 loadV tab 3 v1 H fun v5 =>
 CallT Try.prog 81 [v0, v5] H fun v6 H1 =>
 unV .not v6 fun v7 =>
 K v7 H1
theorem W107_wp (v0 : AV) (v1 : AV) (H : Heap) (K : AV → Heap → Prop) : wpC Try.prog tab D107 (bodyOf Try.f107) (retF tab [.tmp 3] K) (nthA [v0, v1]) H = W107 v0 v1 H K := by kernel_rfl
theorem W107_ok {v0 v1 : AV} {H : Heap} {K : AV → Heap → Prop} (h : W107 v0 v1 H K) : CallT Try.prog 107 [v0, v1] H K :=
  CallT.of_wp (D := D107) tab_ok mixed Try.func107 (c := bodyOf Try.f107) (by kernel_rfl) rfl (by kernel_rfl) (rs := #[.tmp 3]) rfl (by decide +kernel) (by kernel_rfl) (W107_wp v0 v1 H K) h
theorem W107_hb : HasBody Try.prog 107 := ⟨_, bodyOf Try.f107, Try.func107, by kernel_rfl, rfl⟩
/-- cmp.Or[int] -/
def D108 : Info := ⟨18, fun i => ([], []), fun i => if i = 3 then ([3, 6, 7], [8]) else ([], [])⟩
def L108_0 (K : AV → Heap → Prop) (v3 : AV) (v6 : AV) (v7 : AV) (v8 : AV) (H : Heap) : Prop := LoopV (wpC Try.prog tab D108 (cAt [1, 1, 0, 1, 0, 0] (bodyOf Try.f108))) [3, 6, 7] (PostF.block 0 (PostF.thenA (wpC Try.prog tab D108 (cAt [1, 1, 1] (bodyOf Try.f108))) (retF tab [.tmp 2] K))) [8] [AV.any, AV.any, AV.any, v3, AV.any, AV.any, v6, v7, v8, AV.any, AV.any, AV.any, AV.any, AV.any, AV.any, AV.any, AV.any, AV.any] H
def B108_0 (K : AV → Heap → Prop) (N1 : AV → Heap → Prop) (v3 : AV) (v6 : AV) (v7 : AV) (v8 : AV) (H : Heap) : Prop :=
 binV tab .lss 3 v8 v7 fun v9 =>
 condV v9 (indexAddrV tab 22 v6 v8 fun v10 =>
 loadV tab 3 v10 H fun v11 =>
 binV tab .neq 3 v11 v3 fun v14 =>
 condV v14 (K v11 H)
 (binV tab .add 3 v8 (AV.p (.int .i64 1)) fun v16 =>
 N1 v16 H))
 (K v3 H)
def W108 (v0 : AV) (H : Heap) (K : AV → Heap → Prop) : Prop :=
 lenV tab 22 v0 fun v7 =>
 L108_0 K (AV.p (.int .i64 0)) v0 v7 (AV.p (.int .i64 0)) H
theorem W108_wp (v0 : AV) (H : Heap) (K : AV → Heap → Prop) : wpC Try.prog tab D108 (bodyOf Try.f108) (retF tab [.tmp 2] K) (nthA [v0]) H = W108 v0 H K := by kernel_rfl
theorem W108_ok {v0 : AV} {H : Heap} {K : AV → Heap → Prop} (h : W108 v0 H K) : CallT Try.prog 108 [v0] H K :=
  CallT.of_wp (D := D108) tab_ok mixed Try.func108 (c := bodyOf Try.f108) (by kernel_rfl) rfl (by kernel_rfl) (rs := #[.tmp 2]) rfl (by decide +kernel) (by kernel_rfl) (W108_wp v0 H K) h
theorem W108_hb : HasBody Try.prog 108 := ⟨_, bodyOf Try.f108, Try.func108, by kernel_rfl, rfl⟩
theorem L108_0_rule {K : AV → Heap → Prop} {v3 v6 v7 v8 : AV} {H : Heap} {σ : Type} (s0 : σ) (f8 : σ → AV) (TH : σ → Heap) (pre : σ → Prop) (μ : σ → Nat)
    (h0 : pre s0 ∧ AV.wk v8 (f8 s0) ∧ Heap.le (TH s0) H)
    (round : ∀ s, pre s → B108_0 K (fun w8 H' => ∃ s', pre s' ∧ μ s' < μ s ∧ AV.wk w8 (f8 s') ∧ Heap.le (TH s') H') v3 v6 v7 (f8 s) (TH s)) :
    L108_0 K v3 v6 v7 v8 H := by
  unfold L108_0
  exact LoopV.mk s0 (fun s => [f8 s]) TH pre μ (fun _ => rfl) (Eq.mp (by kernel_rfl) h0) (fun s hs => Eq.mp (by kernel_rfl) (round s hs))
theorem L108_0_ruleG {K : AV → Heap → Prop} {v3 v6 v7 v8 : AV} {H : Heap} {σ : Type} (s0 : σ) (f8 : σ → AV) (TH : σ → Heap) (pre : σ → Prop) (μ : σ → Nat)
    (h0 : pre s0 ∧ AV.wk v8 (f8 s0) ∧ Heap.le (TH s0) H)
    (round : ∀ s, pre s → ∀ q, TH s q = none → B108_0 K (fun w8 H' => ∃ s', pre s' ∧ μ s' < μ s ∧ AV.wk w8 (f8 s') ∧ Heap.le (TH s') H') v3 v6 v7 (f8 s) ((TH s).set q [])) :
    L108_0 K v3 v6 v7 v8 H := by
  unfold L108_0
  exact LoopV.mkG s0 (fun s => [f8 s]) TH pre μ (fun _ => rfl) (Eq.mp (by kernel_rfl) h0) (fun s hs q hq => Eq.mp (by kernel_rfl) (round s hs q hq))
/-- cmp.Compare[int] -/
def D109 : Info := ⟨20, fun i => ([], []), fun i => ([], [])⟩
def W109 (v0 : AV) (v1 : AV) (H : Heap) (K : AV → Heap → Prop) : Prop :=
 CallT Try.prog 121 [v0] H fun v8 H1 =>
 CallT Try.prog 121 [v1] H1 fun v10 H2 =>
 condV v8 (condV v10 (K (AV.p (.int .i64 0)) H2)
 (K (AV.p (.int .i64 (-1))) H2))
 (condV v10 (K (AV.p (.int .i64 1)) H2)
 (binV tab .lss 3 v0 v1 fun v16 =>
 condV v16 (K (AV.p (.int .i64 (-1))) H2)
 (binV tab .gtr 3 v0 v1 fun v19 =>
 condV v19 (K (AV.p (.int .i64 1)) H2)
 (K (AV.p (.int .i64 0)) H2))))
theorem W109_wp (v0 : AV) (v1 : AV) (H : Heap) (K : AV → Heap → Prop) : wpC Try.prog tab D109 (bodyOf Try.f109) (retF tab [.tmp 4] K) (nthA [v0, v1]) H = W109 v0 v1 H K := by kernel_rfl
theorem W109_ok {v0 v1 : AV} {H : Heap} {K : AV → Heap → Prop} (h : W109 v0 v1 H K) : CallT Try.prog 109 [v0, v1] H K :=
  CallT.of_wp (D := D109) tab_ok mixed Try.func109 (c := bodyOf Try.f109) (by kernel_rfl) rfl (by kernel_rfl) (rs := #[.tmp 4]) rfl (by decide +kernel) (by kernel_rfl) (W109_wp v0 v1 H K) h
theorem W109_hb : HasBody Try.prog 109 := ⟨_, bodyOf Try.f109, Try.func109, by kernel_rfl, rfl⟩
/-- slices.IndexFunc[[][]int,[]int] -/
def D120 : Info := ⟨19, fun i => ([], []), fun i => if i = 2 then ([0, 1, 7], [8]) else ([], [])⟩
def L120_0 (K : AV → Heap → Prop) (v0 : AV) (v1 : AV) (v7 : AV) (v8 : AV) (H : Heap) : Prop := LoopV (wpC Try.prog tab D120 (cAt [1, 0, 1, 0, 0] (bodyOf Try.f120))) [0, 1, 7] (PostF.block 0 (PostF.thenA (wpC Try.prog tab D120 (cAt [1, 1] (bodyOf Try.f120))) (retF tab [.tmp 4] K))) [8] [v0, v1, AV.any, AV.any, AV.any, AV.any, AV.any, v7, v8, AV.any, AV.any, AV.any, AV.any, AV.any, AV.any, AV.any, AV.any, AV.any, AV.any] H
def B120_0 (K : AV → Heap → Prop) (N1 : AV → Heap → Prop) (v0 : AV) (v1 : AV) (v7 : AV) (v8 : AV) (H : Heap) : Prop :=
 binV tab .lss 3 v8 v7 fun v9 =>
 condV v9 (indexAddrV tab 24 v0 v8 fun v14 =>
 loadV tab 22 v14 H fun v15 =>
 callF Try.prog v1 [v15] H fun v16 H1 =>
 condV v16 (K v8 H1)
 (binV tab .add 3 v8 (AV.p (.int .i64 1)) fun v18 =>
 N1 v18 H1))
 (K (AV.p (.int .i64 (-1))) H)
def W120 (v0 : AV) (v1 : AV) (H : Heap) (K : AV → Heap → Prop) : Prop :=
 lenV tab 24 v0 fun v7 =>
 L120_0 K v0 v1 v7 (AV.p (.int .i64 0)) H
theorem W120_wp (v0 : AV) (v1 : AV) (H : Heap) (K : AV → Heap → Prop) : wpC Try.prog tab D120 (bodyOf Try.f120) (retF tab [.tmp 4] K) (nthA [v0, v1]) H = W120 v0 v1 H K := by kernel_rfl
theorem W120_ok {v0 v1 : AV} {H : Heap} {K : AV → Heap → Prop} (h : W120 v0 v1 H K) : CallT Try.prog 120 [v0, v1] H K :=
  CallT.of_wp (D := D120) tab_ok mixed Try.func120 (c := bodyOf Try.f120) (by kernel_rfl) rfl (by kernel_rfl) (rs := #[.tmp 4]) rfl (by decide +kernel) (by kernel_rfl) (W120_wp v0 v1 H K) h
theorem W120_hb : HasBody Try.prog 120 := ⟨_, bodyOf Try.f120, Try.func120, by kernel_rfl, rfl⟩
theorem L120_0_rule {K : AV → Heap → Prop} {v0 v1 v7 v8 : AV} {H : Heap} {σ : Type} (s0 : σ) (f8 : σ → AV) (TH : σ → Heap) (pre : σ → Prop) (μ : σ → Nat)
    (h0 : pre s0 ∧ AV.wk v8 (f8 s0) ∧ Heap.le (TH s0) H)
    (round : ∀ s, pre s → B120_0 K (fun w8 H' => ∃ s', pre s' ∧ μ s' < μ s ∧ AV.wk w8 (f8 s') ∧ Heap.le (TH s') H') v0 v1 v7 (f8 s) (TH s)) :
    L120_0 K v0 v1 v7 v8 H := by
  unfold L120_0
  exact LoopV.mk s0 (fun s => [f8 s]) TH pre μ (fun _ => rfl) (Eq.mp (by kernel_rfl) h0) (fun s hs => Eq.mp (by kernel_rfl) (round s hs))
theorem L120_0_ruleG {K : AV → Heap → Prop} {v0 v1 v7 v8 : AV} {H : Heap} {σ : Type} (s0 : σ) (f8 : σ → AV) (TH : σ → Heap) (pre : σ → Prop) (μ : σ → Nat)
    (h0 : pre s0 ∧ AV.wk v8 (f8 s0) ∧ Heap.le (TH s0) H)
    (round : ∀ s, pre s → ∀ q, TH s q = none → B120_0 K (fun w8 H' => ∃ s', pre s' ∧ μ s' < μ s ∧ AV.wk w8 (f8 s') ∧ Heap.le (TH s') H') v0 v1 v7 (f8 s) ((TH s).set q [])) :
    L120_0 K v0 v1 v7 v8 H := by
  unfold L120_0
  exact LoopV.mkG s0 (fun s => [f8 s]) TH pre μ (fun _ => rfl) (Eq.mp (by kernel_rfl) h0) (fun s hs q hq => Eq.mp (by kernel_rfl) (round s hs q hq))
/-- cmp.isNaN[int] -/
def D121 : Info := ⟨6, fun i => ([], []), fun i => ([], [])⟩
def W121 (v0 : AV) (H : Heap) (K : AV → Heap → Prop) : Prop :=
 binV tab .neq 3 v0 v0 fun v5 =>
 K v5 H
theorem W121_wp (v0 : AV) (H : Heap) (K : AV → Heap → Prop) : wpC Try.prog tab D121 (bodyOf Try.f121) (retF tab [.tmp 2] K) (nthA [v0]) H = W121 v0 H K := by kernel_rfl
theorem W121_ok {v0 : AV} {H : Heap} {K : AV → Heap → Prop} (h : W121 v0 H K) : CallT Try.prog 121 [v0] H K :=
  CallT.of_wp (D := D121) tab_ok mixed Try.func121 (c := bodyOf Try.f121) (by kernel_rfl) rfl (by kernel_rfl) (rs := #[.tmp 2]) rfl (by decide +kernel) (by kernel_rfl) (W121_wp v0 H K) h
theorem W121_hb : HasBody Try.prog 121 := ⟨_, bodyOf Try.f121, Try.func121, by kernel_rfl, rfl⟩
end Go.Proofs.Ytfbaijpanbjmpaa
