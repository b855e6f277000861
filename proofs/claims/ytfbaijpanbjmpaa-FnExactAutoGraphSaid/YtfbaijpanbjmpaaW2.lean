/- What each function's code is asked for, as a formula. Written by wgen.py (a program of this session's) out of Lean's print of the program. -/
import Derived.KernelRfl
import Derived.Test.YtfbaijpanbjmpaaTab
import Derived.Test.YtfbaijpanbjmpaaSepC
namespace Go.Proofs.Ytfbaijpanbjmpaa
open Go Go.Sep
set_option linter.unusedVariables false
attribute [local irreducible] wpC headF
/-- (loop.example/g00649/impl.Auto).goalOf -/
def D46 : Info := ⟨18, fun i => ([], []), fun i => ([], [])⟩
def W46 (v0 : AV) (v1 : AV) (H : Heap) (K : AV → Heap → Prop) : Prop :=
 boxV v0 H fun v2 H1 =>
 fieldAddrV tab 30 v2 3 fun v6 =>
 loadV tab 24 v6 H1 fun v7 =>
 lenV tab 24 v7 fun v8 =>
 binV tab .lss 3 v1 v8 fun v9 =>
 condV v9 (fieldAddrV tab 30 v2 3 fun v10 =>
 loadV tab 24 v10 H1 fun v11 =>
 indexAddrV tab 24 v11 v1 fun v13 =>
 loadV tab 22 v13 H1 fun v14 =>
 K v14 H1)
 (fieldAddrV tab 30 v2 0 fun v15 =>
 loadV tab 3 v15 H1 fun v16 =>
 CallT Try.prog 85 [v16] H1 fun v17 H2 =>
 K v17 H2)
theorem W46_wp (v0 : AV) (v1 : AV) (H : Heap) (K : AV → Heap → Prop) : wpC Try.prog tab D46 (bodyOf Try.f46) (retF tab [.tmp 4] K) (nthA [v0, v1]) H = W46 v0 v1 H K := by kernel_rfl
theorem W46_ok {v0 v1 : AV} {H : Heap} {K : AV → Heap → Prop} (h : W46 v0 v1 H K) : CallT Try.prog 46 [v0, v1] H K :=
  CallT.of_wp (D := D46) tab_ok mixed Try.func46 (c := bodyOf Try.f46) (by kernel_rfl) rfl (by kernel_rfl) (rs := #[.tmp 4]) rfl (by decide +kernel) (by kernel_rfl) (W46_wp v0 v1 H K) h
theorem W46_hb : HasBody Try.prog 46 := ⟨_, bodyOf Try.f46, Try.func46, by kernel_rfl, rfl⟩
/-- loop.example/g00649/impl.checkedAuto -/
def D47 : Info := ⟨9, fun i => ([], []), fun i => ([], [])⟩
def W47 (v0 : AV) (H : Heap) (K : AV → Heap → Prop) : Prop :=
 boxV v0 H fun v1 H1 =>
 allocV tab 30 H1 fun v2 H2 =>
 loadV tab 30 v1 H2 fun v4 =>
 CallT Try.prog 42 [v4] H2 fun v5 H3 =>
 unV .not v5 fun v6 =>
 condV v6 (buildV tab 30 [] fun v7 =>
 storeV tab 30 v2 v7 H3 fun H4 =>
 loadV tab 30 v2 H4 fun r0 =>
 K (.tup [r0, (AV.p (.bool false))]) H4)
 (loadV tab 30 v1 H3 fun v8 =>
 storeV tab 30 v2 v8 H3 fun H5 =>
 loadV tab 30 v2 H5 fun r0 =>
 K (.tup [r0, (AV.p (.bool true))]) H5)
theorem W47_wp (v0 : AV) (H : Heap) (K : AV → Heap → Prop) : wpC Try.prog tab D47 (bodyOf Try.f47) (retF tab [.cell 2 30, .tmp 3] K) (nthA [v0]) H = W47 v0 H K := by kernel_rfl
theorem W47_ok {v0 : AV} {H : Heap} {K : AV → Heap → Prop} (h : W47 v0 H K) : CallT Try.prog 47 [v0] H K :=
  CallT.of_wp (D := D47) tab_ok mixed Try.func47 (c := bodyOf Try.f47) (by kernel_rfl) rfl (by kernel_rfl) (rs := #[.cell 2 30, .tmp 3]) rfl (by decide +kernel) (by kernel_rfl) (W47_wp v0 H K) h
theorem W47_hb : HasBody Try.prog 47 := ⟨_, bodyOf Try.f47, Try.func47, by kernel_rfl, rfl⟩
/-- loop.example/g00649/laws.eqIntS -/
def D48 : Info := ⟨26, fun i => if i = 6 then ([[], [], [0, 1], [0, 1, 2], [], [], [4, 5], [4, 5, 6], [0, 1, 2, 3, 4, 5, 6, 7]], [(0, []), (1, []), (2, []), (3, []), (4, []), (5, []), (6, []), (7, []), (8, [])]) else ([], []), fun i => if i = 4 then ([0, 1], [5]) else ([], [])⟩
def L48_0 (K : AV → Heap → Prop) (v0 : AV) (v1 : AV) (v5 : AV) (H : Heap) : Prop := LoopV (wpC Try.prog tab D48 (cAt [1, 1, 0, 1, 0, 0] (bodyOf Try.f48))) [0, 1] (PostF.block 0 (PostF.thenA (wpC Try.prog tab D48 (cAt [1, 1, 1] (bodyOf Try.f48))) (retF tab [.tmp 4] K))) [5] [v0, v1, AV.any, AV.any, AV.any, v5, AV.any, AV.any, AV.any, AV.any, AV.any, AV.any, AV.any, AV.any, AV.any, AV.any, AV.any, AV.any, AV.any, AV.any, AV.any, AV.any, AV.any, AV.any, AV.any, AV.any] H
def B48_0 (K : AV → Heap → Prop) (N1 : AV → Heap → Prop) (v0 : AV) (v1 : AV) (v5 : AV) (H : Heap) : Prop :=
 lenV tab 22 v0 fun v13 =>
 binV tab .lss 3 v5 v13 fun v14 =>
 condV v14 (indexAddrV tab 22 v0 v5 fun v19 =>
 loadV tab 3 v19 H fun v20 =>
 indexAddrV tab 22 v1 v5 fun v23 =>
 loadV tab 3 v23 H fun v24 =>
 binV tab .neq 3 v20 v24 fun v25 =>
 condV v25 (K (AV.p (.bool false)) H)
 (binV tab .add 3 v5 (AV.p (.int .i64 1)) fun v16 =>
 N1 v16 H))
 (K (AV.p (.bool true)) H)
def W48 (v0 : AV) (v1 : AV) (H : Heap) (K : AV → Heap → Prop) : Prop :=
 lenV tab 22 v0 fun v7 =>
 lenV tab 22 v1 fun v9 =>
 binV tab .neq 3 v7 v9 fun v10 =>
 condV v10 (K (AV.p (.bool false)) H)
 (L48_0 K v0 v1 (AV.p (.int .i64 0)) H)
theorem W48_wp (v0 : AV) (v1 : AV) (H : Heap) (K : AV → Heap → Prop) : wpC Try.prog tab D48 (bodyOf Try.f48) (retF tab [.tmp 4] K) (nthA [v0, v1]) H = W48 v0 v1 H K := by kernel_rfl
theorem W48_ok {v0 v1 : AV} {H : Heap} {K : AV → Heap → Prop} (h : W48 v0 v1 H K) : CallT Try.prog 48 [v0, v1] H K :=
  CallT.of_wp (D := D48) tab_ok mixed Try.func48 (c := bodyOf Try.f48) (by kernel_rfl) rfl (by kernel_rfl) (rs := #[.tmp 4]) rfl (by decide +kernel) (by kernel_rfl) (W48_wp v0 v1 H K) h
theorem W48_hb : HasBody Try.prog 48 := ⟨_, bodyOf Try.f48, Try.func48, by kernel_rfl, rfl⟩
theorem L48_0_rule {K : AV → Heap → Prop} {v0 v1 v5 : AV} {H : Heap} {σ : Type} (s0 : σ) (f5 : σ → AV) (TH : σ → Heap) (pre : σ → Prop) (μ : σ → Nat)
    (h0 : pre s0 ∧ AV.wk v5 (f5 s0) ∧ Heap.le (TH s0) H)
    (round : ∀ s, pre s → B48_0 K (fun w5 H' => ∃ s', pre s' ∧ μ s' < μ s ∧ AV.wk w5 (f5 s') ∧ Heap.le (TH s') H') v0 v1 (f5 s) (TH s)) :
    L48_0 K v0 v1 v5 H := by
  unfold L48_0
  exact LoopV.mk s0 (fun s => [f5 s]) TH pre μ (fun _ => rfl) (Eq.mp (by kernel_rfl) h0) (fun s hs => Eq.mp (by kernel_rfl) (round s hs))
theorem L48_0_ruleG {K : AV → Heap → Prop} {v0 v1 v5 : AV} {H : Heap} {σ : Type} (s0 : σ) (f5 : σ → AV) (TH : σ → Heap) (pre : σ → Prop) (μ : σ → Nat)
    (h0 : pre s0 ∧ AV.wk v5 (f5 s0) ∧ Heap.le (TH s0) H)
    (round : ∀ s, pre s → ∀ q, TH s q = none → B48_0 K (fun w5 H' => ∃ s', pre s' ∧ μ s' < μ s ∧ AV.wk w5 (f5 s') ∧ Heap.le (TH s') H') v0 v1 (f5 s) ((TH s).set q [])) :
    L48_0 K v0 v1 v5 H := by
  unfold L48_0
  exact LoopV.mkG s0 (fun s => [f5 s]) TH pre μ (fun _ => rfl) (Eq.mp (by kernel_rfl) h0) (fun s hs q hq => Eq.mp (by kernel_rfl) (round s hs q hq))
/-- loop.example/g00649/laws.eqEdgeS -/
def D49 : Info := ⟨27, fun i => if i = 6 then ([[], [], [0, 1], [0, 1, 2], [], [], [4, 5], [4, 5, 6], [0, 1, 2, 3, 4, 5, 6, 7], [0, 1, 2, 3, 4, 5, 6, 7, 8]], [(0, []), (1, []), (2, []), (3, []), (4, []), (5, []), (6, []), (7, []), (8, []), (9, [])]) else ([], []), fun i => if i = 4 then ([0, 1], [5]) else ([], [])⟩
def L49_0 (K : AV → Heap → Prop) (v0 : AV) (v1 : AV) (v5 : AV) (H : Heap) : Prop := LoopV (wpC Try.prog tab D49 (cAt [1, 1, 0, 1, 0, 0] (bodyOf Try.f49))) [0, 1] (PostF.block 0 (PostF.thenA (wpC Try.prog tab D49 (cAt [1, 1, 1] (bodyOf Try.f49))) (retF tab [.tmp 4] K))) [5] [v0, v1, AV.any, AV.any, AV.any, v5, AV.any, AV.any, AV.any, AV.any, AV.any, AV.any, AV.any, AV.any, AV.any, AV.any, AV.any, AV.any, AV.any, AV.any, AV.any, AV.any, AV.any, AV.any, AV.any, AV.any, AV.any] H
def B49_0 (K : AV → Heap → Prop) (N1 : AV → Heap → Prop) (v0 : AV) (v1 : AV) (v5 : AV) (H : Heap) : Prop :=
 lenV tab 28 v0 fun v13 =>
 binV tab .lss 3 v5 v13 fun v14 =>
 condV v14 (indexAddrV tab 28 v0 v5 fun v19 =>
 loadV tab 61 v19 H fun v20 =>
 indexAddrV tab 28 v1 v5 fun v23 =>
 loadV tab 61 v23 H fun v24 =>
 CallT Try.prog 86 [v20, v24] H fun v25 H1 =>
 unV .not v25 fun v26 =>
 condV v26 (K (AV.p (.bool false)) H1)
 (binV tab .add 3 v5 (AV.p (.int .i64 1)) fun v16 =>
 N1 v16 H1))
 (K (AV.p (.bool true)) H)
def W49 (v0 : AV) (v1 : AV) (H : Heap) (K : AV → Heap → Prop) : Prop :=
 lenV tab 28 v0 fun v7 =>
 lenV tab 28 v1 fun v9 =>
 binV tab .neq 3 v7 v9 fun v10 =>
 condV v10 (K (AV.p (.bool false)) H)
 (L49_0 K v0 v1 (AV.p (.int .i64 0)) H)
theorem W49_wp (v0 : AV) (v1 : AV) (H : Heap) (K : AV → Heap → Prop) : wpC Try.prog tab D49 (bodyOf Try.f49) (retF tab [.tmp 4] K) (nthA [v0, v1]) H = W49 v0 v1 H K := by kernel_rfl
theorem W49_ok {v0 v1 : AV} {H : Heap} {K : AV → Heap → Prop} (h : W49 v0 v1 H K) : CallT Try.prog 49 [v0, v1] H K :=
  CallT.of_wp (D := D49) tab_ok mixed Try.func49 (c := bodyOf Try.f49) (by kernel_rfl) rfl (by kernel_rfl) (rs := #[.tmp 4]) rfl (by decide +kernel) (by kernel_rfl) (W49_wp v0 v1 H K) h
theorem W49_hb : HasBody Try.prog 49 := ⟨_, bodyOf Try.f49, Try.func49, by kernel_rfl, rfl⟩
theorem L49_0_rule {K : AV → Heap → Prop} {v0 v1 v5 : AV} {H : Heap} {σ : Type} (s0 : σ) (f5 : σ → AV) (TH : σ → Heap) (pre : σ → Prop) (μ : σ → Nat)
    (h0 : pre s0 ∧ AV.wk v5 (f5 s0) ∧ Heap.le (TH s0) H)
    (round : ∀ s, pre s → B49_0 K (fun w5 H' => ∃ s', pre s' ∧ μ s' < μ s ∧ AV.wk w5 (f5 s') ∧ Heap.le (TH s') H') v0 v1 (f5 s) (TH s)) :
    L49_0 K v0 v1 v5 H := by
  unfold L49_0
  exact LoopV.mk s0 (fun s => [f5 s]) TH pre μ (fun _ => rfl) (Eq.mp (by kernel_rfl) h0) (fun s hs => Eq.mp (by kernel_rfl) (round s hs))
theorem L49_0_ruleG {K : AV → Heap → Prop} {v0 v1 v5 : AV} {H : Heap} {σ : Type} (s0 : σ) (f5 : σ → AV) (TH : σ → Heap) (pre : σ → Prop) (μ : σ → Nat)
    (h0 : pre s0 ∧ AV.wk v5 (f5 s0) ∧ Heap.le (TH s0) H)
    (round : ∀ s, pre s → ∀ q, TH s q = none → B49_0 K (fun w5 H' => ∃ s', pre s' ∧ μ s' < μ s ∧ AV.wk w5 (f5 s') ∧ Heap.le (TH s') H') v0 v1 (f5 s) ((TH s).set q [])) :
    L49_0 K v0 v1 v5 H := by
  unfold L49_0
  exact LoopV.mkG s0 (fun s => [f5 s]) TH pre μ (fun _ => rfl) (Eq.mp (by kernel_rfl) h0) (fun s hs q hq => Eq.mp (by kernel_rfl) (round s hs q hq))
/-- loop.example/g00649/laws.eqIntSS -/
def D50 : Info := ⟨27, fun i => if i = 6 then ([[], [], [0, 1], [0, 1, 2], [], [], [4, 5], [4, 5, 6], [0, 1, 2, 3, 4, 5, 6, 7], [0, 1, 2, 3, 4, 5, 6, 7, 8]], [(0, []), (1, []), (2, []), (3, []), (4, []), (5, []), (6, []), (7, []), (8, []), (9, [])]) else ([], []), fun i => if i = 4 then ([0, 1], [5]) else ([], [])⟩
def L50_0 (K : AV → Heap → Prop) (v0 : AV) (v1 : AV) (v5 : AV) (H : Heap) : Prop := LoopV (wpC Try.prog tab D50 (cAt [1, 1, 0, 1, 0, 0] (bodyOf Try.f50))) [0, 1] (PostF.block 0 (PostF.thenA (wpC Try.prog tab D50 (cAt [1, 1, 1] (bodyOf Try.f50))) (retF tab [.tmp 4] K))) [5] [v0, v1, AV.any, AV.any, AV.any, v5, AV.any, AV.any, AV.any, AV.any, AV.any, AV.any, AV.any, AV.any, AV.any, AV.any, AV.any, AV.any, AV.any, AV.any, AV.any, AV.any, AV.any, AV.any, AV.any, AV.any, AV.any] H
def B50_0 (K : AV → Heap → Prop) (N1 : AV → Heap → Prop) (v0 : AV) (v1 : AV) (v5 : AV) (H : Heap) : Prop :=
 lenV tab 24 v0 fun v13 =>
 binV tab .lss 3 v5 v13 fun v14 =>
 condV v14 (indexAddrV tab 24 v0 v5 fun v19 =>
 loadV tab 22 v19 H fun v20 =>
 indexAddrV tab 24 v1 v5 fun v23 =>
 loadV tab 22 v23 H fun v24 =>
 CallT Try.prog 48 [v20, v24] H fun v25 H1 =>
 unV .not v25 fun v26 =>
 condV v26 (K (AV.p (.bool false)) H1)
 (binV tab .add 3 v5 (AV.p (.int .i64 1)) fun v16 =>
 N1 v16 H1))
 (K (AV.p (.bool true)) H)
def W50 (v0 : AV) (v1 : AV) (H : Heap) (K : AV → Heap → Prop) : Prop :=
 lenV tab 24 v0 fun v7 =>
 lenV tab 24 v1 fun v9 =>
 binV tab .neq 3 v7 v9 fun v10 =>
 condV v10 (K (AV.p (.bool false)) H)
 (L50_0 K v0 v1 (AV.p (.int .i64 0)) H)
theorem W50_wp (v0 : AV) (v1 : AV) (H : Heap) (K : AV → Heap → Prop) : wpC Try.prog tab D50 (bodyOf Try.f50) (retF tab [.tmp 4] K) (nthA [v0, v1]) H = W50 v0 v1 H K := by kernel_rfl
theorem W50_ok {v0 v1 : AV} {H : Heap} {K : AV → Heap → Prop} (h : W50 v0 v1 H K) : CallT Try.prog 50 [v0, v1] H K :=
  CallT.of_wp (D := D50) tab_ok mixed Try.func50 (c := bodyOf Try.f50) (by kernel_rfl) rfl (by kernel_rfl) (rs := #[.tmp 4]) rfl (by decide +kernel) (by kernel_rfl) (W50_wp v0 v1 H K) h
theorem W50_hb : HasBody Try.prog 50 := ⟨_, bodyOf Try.f50, Try.func50, by kernel_rfl, rfl⟩
theorem L50_0_rule {K : AV → Heap → Prop} {v0 v1 v5 : AV} {H : Heap} {σ : Type} (s0 : σ) (f5 : σ → AV) (TH : σ → Heap) (pre : σ → Prop) (μ : σ → Nat)
    (h0 : pre s0 ∧ AV.wk v5 (f5 s0) ∧ Heap.le (TH s0) H)
    (round : ∀ s, pre s → B50_0 K (fun w5 H' => ∃ s', pre s' ∧ μ s' < μ s ∧ AV.wk w5 (f5 s') ∧ Heap.le (TH s') H') v0 v1 (f5 s) (TH s)) :
    L50_0 K v0 v1 v5 H := by
  unfold L50_0
  exact LoopV.mk s0 (fun s => [f5 s]) TH pre μ (fun _ => rfl) (Eq.mp (by kernel_rfl) h0) (fun s hs => Eq.mp (by kernel_rfl) (round s hs))
theorem L50_0_ruleG {K : AV → Heap → Prop} {v0 v1 v5 : AV} {H : Heap} {σ : Type} (s0 : σ) (f5 : σ → AV) (TH : σ → Heap) (pre : σ → Prop) (μ : σ → Nat)
    (h0 : pre s0 ∧ AV.wk v5 (f5 s0) ∧ Heap.le (TH s0) H)
    (round : ∀ s, pre s → ∀ q, TH s q = none → B50_0 K (fun w5 H' => ∃ s', pre s' ∧ μ s' < μ s ∧ AV.wk w5 (f5 s') ∧ Heap.le (TH s') H') v0 v1 (f5 s) ((TH s).set q [])) :
    L50_0 K v0 v1 v5 H := by
  unfold L50_0
  exact LoopV.mkG s0 (fun s => [f5 s]) TH pre μ (fun _ => rfl) (Eq.mp (by kernel_rfl) h0) (fun s hs q hq => Eq.mp (by kernel_rfl) (round s hs q hq))
/-- loop.example/g00649/laws.markIntS -/
def D51 : Info := ⟨19, fun i => ([], []), fun i => if i = 2 then ([0], [1, 5]) else ([], [])⟩
def L51_0 (K : AV → Heap → Prop) (v0 : AV) (v1 : AV) (v5 : AV) (H : Heap) : Prop := LoopV (wpC Try.prog tab D51 (cAt [1, 0, 1, 0, 0] (bodyOf Try.f51))) [0] (PostF.block 0 (PostF.thenA (wpC Try.prog tab D51 (cAt [1, 1] (bodyOf Try.f51))) (retF tab [.tmp 4] K))) [1, 5] [v0, v1, AV.any, AV.any, AV.any, v5, AV.any, AV.any, AV.any, AV.any, AV.any, AV.any, AV.any, AV.any, AV.any, AV.any, AV.any, AV.any, AV.any] H
def B51_0 (K : AV → Heap → Prop) (N1 : AV → AV → Heap → Prop) (v0 : AV) (v1 : AV) (v5 : AV) (H : Heap) : Prop :=
 lenV tab 22 v0 fun v8 =>
 binV tab .lss 3 v5 v8 fun v9 =>
 condV v9 (indexAddrV tab 22 v0 v5 fun v15 =>
 storeV tab 3 v15 v1 H fun H1 =>
 binV tab .add 3 v1 (AV.p (.int .i64 1)) fun v17 =>
 binV tab .add 3 v5 (AV.p (.int .i64 1)) fun v11 =>
 N1 v17 v11 H1)
 (K v1 H)
def W51 (v0 : AV) (v1 : AV) (H : Heap) (K : AV → Heap → Prop) : Prop :=
 L51_0 K v0 v1 (AV.p (.int .i64 0)) H
theorem W51_wp (v0 : AV) (v1 : AV) (H : Heap) (K : AV → Heap → Prop) : wpC Try.prog tab D51 (bodyOf Try.f51) (retF tab [.tmp 4] K) (nthA [v0, v1]) H = W51 v0 v1 H K := by kernel_rfl
theorem W51_ok {v0 v1 : AV} {H : Heap} {K : AV → Heap → Prop} (h : W51 v0 v1 H K) : CallT Try.prog 51 [v0, v1] H K :=
  CallT.of_wp (D := D51) tab_ok mixed Try.func51 (c := bodyOf Try.f51) (by kernel_rfl) rfl (by kernel_rfl) (rs := #[.tmp 4]) rfl (by decide +kernel) (by kernel_rfl) (W51_wp v0 v1 H K) h
theorem W51_hb : HasBody Try.prog 51 := ⟨_, bodyOf Try.f51, Try.func51, by kernel_rfl, rfl⟩
theorem L51_0_rule {K : AV → Heap → Prop} {v0 v1 v5 : AV} {H : Heap} {σ : Type} (s0 : σ) (f1 : σ → AV) (f5 : σ → AV) (TH : σ → Heap) (pre : σ → Prop) (μ : σ → Nat)
    (h0 : pre s0 ∧ AV.wk v1 (f1 s0) ∧ AV.wk v5 (f5 s0) ∧ Heap.le (TH s0) H)
    (round : ∀ s, pre s → B51_0 K (fun w1 w5 H' => ∃ s', pre s' ∧ μ s' < μ s ∧ AV.wk w1 (f1 s') ∧ AV.wk w5 (f5 s') ∧ Heap.le (TH s') H') v0 (f1 s) (f5 s) (TH s)) :
    L51_0 K v0 v1 v5 H := by
  unfold L51_0
  exact LoopV.mk s0 (fun s => [f1 s, f5 s]) TH pre μ (fun _ => rfl) (Eq.mp (by kernel_rfl) h0) (fun s hs => Eq.mp (by kernel_rfl) (round s hs))
theorem L51_0_ruleG {K : AV → Heap → Prop} {v0 v1 v5 : AV} {H : Heap} {σ : Type} (s0 : σ) (f1 : σ → AV) (f5 : σ → AV) (TH : σ → Heap) (pre : σ → Prop) (μ : σ → Nat)
    (h0 : pre s0 ∧ AV.wk v1 (f1 s0) ∧ AV.wk v5 (f5 s0) ∧ Heap.le (TH s0) H)
    (round : ∀ s, pre s → ∀ q, TH s q = none → B51_0 K (fun w1 w5 H' => ∃ s', pre s' ∧ μ s' < μ s ∧ AV.wk w1 (f1 s') ∧ AV.wk w5 (f5 s') ∧ Heap.le (TH s') H') v0 (f1 s) (f5 s) ((TH s).set q [])) :
    L51_0 K v0 v1 v5 H := by
  unfold L51_0
  exact LoopV.mkG s0 (fun s => [f1 s, f5 s]) TH pre μ (fun _ => rfl) (Eq.mp (by kernel_rfl) h0) (fun s hs q hq => Eq.mp (by kernel_rfl) (round s hs q hq))
/-- loop.example/g00649/laws.markEdgeS -/
def D52 : Info := ⟨34, fun i => ([], []), fun i => if i = 2 then ([0], [1, 5]) else ([], [])⟩
def L52_0 (K : AV → Heap → Prop) (v0 : AV) (v1 : AV) (v5 : AV) (H : Heap) : Prop := LoopV (wpC Try.prog tab D52 (cAt [1, 0, 1, 0, 0] (bodyOf Try.f52))) [0] (PostF.block 0 (PostF.thenA (wpC Try.prog tab D52 (cAt [1, 1] (bodyOf Try.f52))) (retF tab [.tmp 4] K))) [1, 5] [v0, v1, AV.any, AV.any, AV.any, v5, AV.any, AV.any, AV.any, AV.any, AV.any, AV.any, AV.any, AV.any, AV.any, AV.any, AV.any, AV.any, AV.any, AV.any, AV.any, AV.any, AV.any, AV.any, AV.any, AV.any, AV.any, AV.any, AV.any, AV.any, AV.any, AV.any, AV.any, AV.any] H
def B52_0 (K : AV → Heap → Prop) (N1 : AV → AV → Heap → Prop) (v0 : AV) (v1 : AV) (v5 : AV) (H : Heap) : Prop :=
 lenV tab 28 v0 fun v8 =>
 binV tab .lss 3 v5 v8 fun v9 =>
 condV v9 (indexAddrV tab 28 v0 v5 fun v15 =>
 fieldAddrV tab 61 v15 0 fun v16 =>
 storeV tab 3 v16 v1 H fun H1 =>
 binV tab .add 3 v1 (AV.p (.int .i64 1)) fun v18 =>
 indexAddrV tab 28 v0 v5 fun v22 =>
 fieldAddrV tab 61 v22 1 fun v23 =>
 storeV tab 3 v23 v18 H1 fun H2 =>
 binV tab .add 3 v18 (AV.p (.int .i64 1)) fun v25 =>
 indexAddrV tab 28 v0 v5 fun v29 =>
 fieldAddrV tab 61 v29 2 fun v30 =>
 storeV tab 3 v30 v25 H2 fun H3 =>
 binV tab .add 3 v25 (AV.p (.int .i64 1)) fun v32 =>
 binV tab .add 3 v5 (AV.p (.int .i64 1)) fun v11 =>
 N1 v32 v11 H3)
 (K v1 H)
def W52 (v0 : AV) (v1 : AV) (H : Heap) (K : AV → Heap → Prop) : Prop :=
 L52_0 K v0 v1 (AV.p (.int .i64 0)) H
theorem W52_wp (v0 : AV) (v1 : AV) (H : Heap) (K : AV → Heap → Prop) : wpC Try.prog tab D52 (bodyOf Try.f52) (retF tab [.tmp 4] K) (nthA [v0, v1]) H = W52 v0 v1 H K := by kernel_rfl
theorem W52_ok {v0 v1 : AV} {H : Heap} {K : AV → Heap → Prop} (h : W52 v0 v1 H K) : CallT Try.prog 52 [v0, v1] H K :=
  CallT.of_wp (D := D52) tab_ok mixed Try.func52 (c := bodyOf Try.f52) (by kernel_rfl) rfl (by kernel_rfl) (rs := #[.tmp 4]) rfl (by decide +kernel) (by kernel_rfl) (W52_wp v0 v1 H K) h
theorem W52_hb : HasBody Try.prog 52 := ⟨_, bodyOf Try.f52, Try.func52, by kernel_rfl, rfl⟩
theorem L52_0_rule {K : AV → Heap → Prop} {v0 v1 v5 : AV} {H : Heap} {σ : Type} (s0 : σ) (f1 : σ → AV) (f5 : σ → AV) (TH : σ → Heap) (pre : σ → Prop) (μ : σ → Nat)
    (h0 : pre s0 ∧ AV.wk v1 (f1 s0) ∧ AV.wk v5 (f5 s0) ∧ Heap.le (TH s0) H)
    (round : ∀ s, pre s → B52_0 K (fun w1 w5 H' => ∃ s', pre s' ∧ μ s' < μ s ∧ AV.wk w1 (f1 s') ∧ AV.wk w5 (f5 s') ∧ Heap.le (TH s') H') v0 (f1 s) (f5 s) (TH s)) :
    L52_0 K v0 v1 v5 H := by
  unfold L52_0
  exact LoopV.mk s0 (fun s => [f1 s, f5 s]) TH pre μ (fun _ => rfl) (Eq.mp (by kernel_rfl) h0) (fun s hs => Eq.mp (by kernel_rfl) (round s hs))
theorem L52_0_ruleG {K : AV → Heap → Prop} {v0 v1 v5 : AV} {H : Heap} {σ : Type} (s0 : σ) (f1 : σ → AV) (f5 : σ → AV) (TH : σ → Heap) (pre : σ → Prop) (μ : σ → Nat)
    (h0 : pre s0 ∧ AV.wk v1 (f1 s0) ∧ AV.wk v5 (f5 s0) ∧ Heap.le (TH s0) H)
    (round : ∀ s, pre s → ∀ q, TH s q = none → B52_0 K (fun w1 w5 H' => ∃ s', pre s' ∧ μ s' < μ s ∧ AV.wk w1 (f1 s') ∧ AV.wk w5 (f5 s') ∧ Heap.le (TH s') H') v0 (f1 s) (f5 s) ((TH s).set q [])) :
    L52_0 K v0 v1 v5 H := by
  unfold L52_0
  exact LoopV.mkG s0 (fun s => [f1 s, f5 s]) TH pre μ (fun _ => rfl) (Eq.mp (by kernel_rfl) h0) (fun s hs q hq => Eq.mp (by kernel_rfl) (round s hs q hq))
/-- loop.example/g00649/laws.markIntSS -/
def D53 : Info := ⟨19, fun i => ([], []), fun i => if i = 2 then ([0], [1, 5]) else ([], [])⟩
def L53_0 (K : AV → Heap → Prop) (v0 : AV) (v1 : AV) (v5 : AV) (H : Heap) : Prop := LoopV (wpC Try.prog tab D53 (cAt [1, 0, 1, 0, 0] (bodyOf Try.f53))) [0] (PostF.block 0 (PostF.thenA (wpC Try.prog tab D53 (cAt [1, 1] (bodyOf Try.f53))) (retF tab [.tmp 4] K))) [1, 5] [v0, v1, AV.any, AV.any, AV.any, v5, AV.any, AV.any, AV.any, AV.any, AV.any, AV.any, AV.any, AV.any, AV.any, AV.any, AV.any, AV.any, AV.any] H
def B53_0 (K : AV → Heap → Prop) (N1 : AV → AV → Heap → Prop) (v0 : AV) (v1 : AV) (v5 : AV) (H : Heap) : Prop :=
 lenV tab 24 v0 fun v8 =>
 binV tab .lss 3 v5 v8 fun v9 =>
 condV v9 (indexAddrV tab 24 v0 v5 fun v14 =>
 loadV tab 22 v14 H fun v15 =>
 CallT Try.prog 51 [v15, v1] H fun v17 H1 =>
 binV tab .add 3 v5 (AV.p (.int .i64 1)) fun v11 =>
 N1 v17 v11 H1)
 (K v1 H)
def W53 (v0 : AV) (v1 : AV) (H : Heap) (K : AV → Heap → Prop) : Prop :=
 L53_0 K v0 v1 (AV.p (.int .i64 0)) H
theorem W53_wp (v0 : AV) (v1 : AV) (H : Heap) (K : AV → Heap → Prop) : wpC Try.prog tab D53 (bodyOf Try.f53) (retF tab [.tmp 4] K) (nthA [v0, v1]) H = W53 v0 v1 H K := by kernel_rfl
theorem W53_ok {v0 v1 : AV} {H : Heap} {K : AV → Heap → Prop} (h : W53 v0 v1 H K) : CallT Try.prog 53 [v0, v1] H K :=
  CallT.of_wp (D := D53) tab_ok mixed Try.func53 (c := bodyOf Try.f53) (by kernel_rfl) rfl (by kernel_rfl) (rs := #[.tmp 4]) rfl (by decide +kernel) (by kernel_rfl) (W53_wp v0 v1 H K) h
theorem W53_hb : HasBody Try.prog 53 := ⟨_, bodyOf Try.f53, Try.func53, by kernel_rfl, rfl⟩
theorem L53_0_rule {K : AV → Heap → Prop} {v0 v1 v5 : AV} {H : Heap} {σ : Type} (s0 : σ) (f1 : σ → AV) (f5 : σ → AV) (TH : σ → Heap) (pre : σ → Prop) (μ : σ → Nat)
    (h0 : pre s0 ∧ AV.wk v1 (f1 s0) ∧ AV.wk v5 (f5 s0) ∧ Heap.le (TH s0) H)
    (round : ∀ s, pre s → B53_0 K (fun w1 w5 H' => ∃ s', pre s' ∧ μ s' < μ s ∧ AV.wk w1 (f1 s') ∧ AV.wk w5 (f5 s') ∧ Heap.le (TH s') H') v0 (f1 s) (f5 s) (TH s)) :
    L53_0 K v0 v1 v5 H := by
  unfold L53_0
  exact LoopV.mk s0 (fun s => [f1 s, f5 s]) TH pre μ (fun _ => rfl) (Eq.mp (by kernel_rfl) h0) (fun s hs => Eq.mp (by kernel_rfl) (round s hs))
theorem L53_0_ruleG {K : AV → Heap → Prop} {v0 v1 v5 : AV} {H : Heap} {σ : Type} (s0 : σ) (f1 : σ → AV) (f5 : σ → AV) (TH : σ → Heap) (pre : σ → Prop) (μ : σ → Nat)
    (h0 : pre s0 ∧ AV.wk v1 (f1 s0) ∧ AV.wk v5 (f5 s0) ∧ Heap.le (TH s0) H)
    (round : ∀ s, pre s → ∀ q, TH s q = none → B53_0 K (fun w1 w5 H' => ∃ s', pre s' ∧ μ s' < μ s ∧ AV.wk w1 (f1 s') ∧ AV.wk w5 (f5 s') ∧ Heap.le (TH s') H') v0 (f1 s) (f5 s) ((TH s).set q [])) :
    L53_0 K v0 v1 v5 H := by
  unfold L53_0
  exact LoopV.mkG s0 (fun s => [f1 s, f5 s]) TH pre μ (fun _ => rfl) (Eq.mp (by kernel_rfl) h0) (fun s hs q hq => Eq.mp (by kernel_rfl) (round s hs q hq))
/-- loop.example/g00649/laws.heldIntS -/
def D54 : Info := ⟨21, fun i => ([], []), fun i => if i = 2 then ([0], [1, 5]) else ([], [])⟩
def L54_0 (K : AV → Heap → Prop) (v0 : AV) (v1 : AV) (v5 : AV) (H : Heap) : Prop := LoopV (wpC Try.prog tab D54 (cAt [1, 0, 1, 0, 0] (bodyOf Try.f54))) [0] (PostF.block 0 (PostF.thenA (wpC Try.prog tab D54 (cAt [1, 1] (bodyOf Try.f54))) (retF tab [.tmp 4] K))) [1, 5] [v0, v1, AV.any, AV.any, AV.any, v5, AV.any, AV.any, AV.any, AV.any, AV.any, AV.any, AV.any, AV.any, AV.any, AV.any, AV.any, AV.any, AV.any, AV.any, AV.any] H
def B54_0 (K : AV → Heap → Prop) (N1 : AV → AV → Heap → Prop) (v0 : AV) (v1 : AV) (v5 : AV) (H : Heap) : Prop :=
 lenV tab 22 v0 fun v8 =>
 binV tab .lss 3 v5 v8 fun v9 =>
 condV v9 (indexAddrV tab 22 v0 v5 fun v14 =>
 loadV tab 3 v14 H fun v15 =>
 binV tab .neq 3 v15 v1 fun v17 =>
 condV v17 (K (AV.p (.int .i64 (-1))) H)
 (binV tab .add 3 v1 (AV.p (.int .i64 1)) fun v19 =>
 binV tab .add 3 v5 (AV.p (.int .i64 1)) fun v11 =>
 N1 v19 v11 H))
 (K v1 H)
def W54 (v0 : AV) (v1 : AV) (H : Heap) (K : AV → Heap → Prop) : Prop :=
 L54_0 K v0 v1 (AV.p (.int .i64 0)) H
theorem W54_wp (v0 : AV) (v1 : AV) (H : Heap) (K : AV → Heap → Prop) : wpC Try.prog tab D54 (bodyOf Try.f54) (retF tab [.tmp 4] K) (nthA [v0, v1]) H = W54 v0 v1 H K := by kernel_rfl
theorem W54_ok {v0 v1 : AV} {H : Heap} {K : AV → Heap → Prop} (h : W54 v0 v1 H K) : CallT Try.prog 54 [v0, v1] H K :=
  CallT.of_wp (D := D54) tab_ok mixed Try.func54 (c := bodyOf Try.f54) (by kernel_rfl) rfl (by kernel_rfl) (rs := #[.tmp 4]) rfl (by decide +kernel) (by kernel_rfl) (W54_wp v0 v1 H K) h
theorem W54_hb : HasBody Try.prog 54 := ⟨_, bodyOf Try.f54, Try.func54, by kernel_rfl, rfl⟩
theorem L54_0_rule {K : AV → Heap → Prop} {v0 v1 v5 : AV} {H : Heap} {σ : Type} (s0 : σ) (f1 : σ → AV) (f5 : σ → AV) (TH : σ → Heap) (pre : σ → Prop) (μ : σ → Nat)
    (h0 : pre s0 ∧ AV.wk v1 (f1 s0) ∧ AV.wk v5 (f5 s0) ∧ Heap.le (TH s0) H)
    (round : ∀ s, pre s → B54_0 K (fun w1 w5 H' => ∃ s', pre s' ∧ μ s' < μ s ∧ AV.wk w1 (f1 s') ∧ AV.wk w5 (f5 s') ∧ Heap.le (TH s') H') v0 (f1 s) (f5 s) (TH s)) :
    L54_0 K v0 v1 v5 H := by
  unfold L54_0
  exact LoopV.mk s0 (fun s => [f1 s, f5 s]) TH pre μ (fun _ => rfl) (Eq.mp (by kernel_rfl) h0) (fun s hs => Eq.mp (by kernel_rfl) (round s hs))
theorem L54_0_ruleG {K : AV → Heap → Prop} {v0 v1 v5 : AV} {H : Heap} {σ : Type} (s0 : σ) (f1 : σ → AV) (f5 : σ → AV) (TH : σ → Heap) (pre : σ → Prop) (μ : σ → Nat)
    (h0 : pre s0 ∧ AV.wk v1 (f1 s0) ∧ AV.wk v5 (f5 s0) ∧ Heap.le (TH s0) H)
    (round : ∀ s, pre s → ∀ q, TH s q = none → B54_0 K (fun w1 w5 H' => ∃ s', pre s' ∧ μ s' < μ s ∧ AV.wk w1 (f1 s') ∧ AV.wk w5 (f5 s') ∧ Heap.le (TH s') H') v0 (f1 s) (f5 s) ((TH s).set q [])) :
    L54_0 K v0 v1 v5 H := by
  unfold L54_0
  exact LoopV.mkG s0 (fun s => [f1 s, f5 s]) TH pre μ (fun _ => rfl) (Eq.mp (by kernel_rfl) h0) (fun s hs q hq => Eq.mp (by kernel_rfl) (round s hs q hq))
/-- loop.example/g00649/laws.heldEdgeS -/
def D55 : Info := ⟨40, fun i => ([], []), fun i => if i = 2 then ([0], [1, 5]) else ([], [])⟩
def L55_0 (K : AV → Heap → Prop) (v0 : AV) (v1 : AV) (v5 : AV) (H : Heap) : Prop := LoopV (wpC Try.prog tab D55 (cAt [1, 0, 1, 0, 0] (bodyOf Try.f55))) [0] (PostF.block 0 (PostF.thenA (wpC Try.prog tab D55 (cAt [1, 1] (bodyOf Try.f55))) (retF tab [.tmp 4] K))) [1, 5] [v0, v1, AV.any, AV.any, AV.any, v5, AV.any, AV.any, AV.any, AV.any, AV.any, AV.any, AV.any, AV.any, AV.any, AV.any, AV.any, AV.any, AV.any, AV.any, AV.any, AV.any, AV.any, AV.any, AV.any, AV.any, AV.any, AV.any, AV.any, AV.any, AV.any, AV.any, AV.any, AV.any, AV.any, AV.any, AV.any, AV.any, AV.any, AV.any] H
def B55_0 (K : AV → Heap → Prop) (N1 : AV → AV → Heap → Prop) (v0 : AV) (v1 : AV) (v5 : AV) (H : Heap) : Prop :=
 lenV tab 28 v0 fun v8 =>
 binV tab .lss 3 v5 v8 fun v9 =>
 condV v9 (indexAddrV tab 28 v0 v5 fun v14 =>
 fieldAddrV tab 61 v14 0 fun v15 =>
 loadV tab 3 v15 H fun v16 =>
 binV tab .neq 3 v16 v1 fun v18 =>
 condV v18 (K (AV.p (.int .i64 (-1))) H)
 (binV tab .add 3 v1 (AV.p (.int .i64 1)) fun v20 =>
 indexAddrV tab 28 v0 v5 fun v23 =>
 fieldAddrV tab 61 v23 1 fun v24 =>
 loadV tab 3 v24 H fun v25 =>
 binV tab .neq 3 v25 v20 fun v27 =>
 condV v27 (K (AV.p (.int .i64 (-1))) H)
 (binV tab .add 3 v20 (AV.p (.int .i64 1)) fun v29 =>
 indexAddrV tab 28 v0 v5 fun v32 =>
 fieldAddrV tab 61 v32 2 fun v33 =>
 loadV tab 3 v33 H fun v34 =>
 binV tab .neq 3 v34 v29 fun v36 =>
 condV v36 (K (AV.p (.int .i64 (-1))) H)
 (binV tab .add 3 v29 (AV.p (.int .i64 1)) fun v38 =>
 binV tab .add 3 v5 (AV.p (.int .i64 1)) fun v11 =>
 N1 v38 v11 H))))
 (K v1 H)
def W55 (v0 : AV) (v1 : AV) (H : Heap) (K : AV → Heap → Prop) : Prop :=
 L55_0 K v0 v1 (AV.p (.int .i64 0)) H
theorem W55_wp (v0 : AV) (v1 : AV) (H : Heap) (K : AV → Heap → Prop) : wpC Try.prog tab D55 (bodyOf Try.f55) (retF tab [.tmp 4] K) (nthA [v0, v1]) H = W55 v0 v1 H K := by kernel_rfl
theorem W55_ok {v0 v1 : AV} {H : Heap} {K : AV → Heap → Prop} (h : W55 v0 v1 H K) : CallT Try.prog 55 [v0, v1] H K :=
  CallT.of_wp (D := D55) tab_ok mixed Try.func55 (c := bodyOf Try.f55) (by kernel_rfl) rfl (by kernel_rfl) (rs := #[.tmp 4]) rfl (by decide +kernel) (by kernel_rfl) (W55_wp v0 v1 H K) h
theorem W55_hb : HasBody Try.prog 55 := ⟨_, bodyOf Try.f55, Try.func55, by kernel_rfl, rfl⟩
theorem L55_0_rule {K : AV → Heap → Prop} {v0 v1 v5 : AV} {H : Heap} {σ : Type} (s0 : σ) (f1 : σ → AV) (f5 : σ → AV) (TH : σ → Heap) (pre : σ → Prop) (μ : σ → Nat)
    (h0 : pre s0 ∧ AV.wk v1 (f1 s0) ∧ AV.wk v5 (f5 s0) ∧ Heap.le (TH s0) H)
    (round : ∀ s, pre s → B55_0 K (fun w1 w5 H' => ∃ s', pre s' ∧ μ s' < μ s ∧ AV.wk w1 (f1 s') ∧ AV.wk w5 (f5 s') ∧ Heap.le (TH s') H') v0 (f1 s) (f5 s) (TH s)) :
    L55_0 K v0 v1 v5 H := by
  unfold L55_0
  exact LoopV.mk s0 (fun s => [f1 s, f5 s]) TH pre μ (fun _ => rfl) (Eq.mp (by kernel_rfl) h0) (fun s hs => Eq.mp (by kernel_rfl) (round s hs))
theorem L55_0_ruleG {K : AV → Heap → Prop} {v0 v1 v5 : AV} {H : Heap} {σ : Type} (s0 : σ) (f1 : σ → AV) (f5 : σ → AV) (TH : σ → Heap) (pre : σ → Prop) (μ : σ → Nat)
    (h0 : pre s0 ∧ AV.wk v1 (f1 s0) ∧ AV.wk v5 (f5 s0) ∧ Heap.le (TH s0) H)
    (round : ∀ s, pre s → ∀ q, TH s q = none → B55_0 K (fun w1 w5 H' => ∃ s', pre s' ∧ μ s' < μ s ∧ AV.wk w1 (f1 s') ∧ AV.wk w5 (f5 s') ∧ Heap.le (TH s') H') v0 (f1 s) (f5 s) ((TH s).set q [])) :
    L55_0 K v0 v1 v5 H := by
  unfold L55_0
  exact LoopV.mkG s0 (fun s => [f1 s, f5 s]) TH pre μ (fun _ => rfl) (Eq.mp (by kernel_rfl) h0) (fun s hs q hq => Eq.mp (by kernel_rfl) (round s hs q hq))
/-- loop.example/g00649/laws.heldIntSS -/
def D56 : Info := ⟨21, fun i => ([], []), fun i => if i = 2 then ([0], [1, 5]) else ([], [])⟩
def L56_0 (K : AV → Heap → Prop) (v0 : AV) (v1 : AV) (v5 : AV) (H : Heap) : Prop := LoopV (wpC Try.prog tab D56 (cAt [1, 0, 1, 0, 0] (bodyOf Try.f56))) [0] (PostF.block 0 (PostF.thenA (wpC Try.prog tab D56 (cAt [1, 1] (bodyOf Try.f56))) (retF tab [.tmp 4] K))) [1, 5] [v0, v1, AV.any, AV.any, AV.any, v5, AV.any, AV.any, AV.any, AV.any, AV.any, AV.any, AV.any, AV.any, AV.any, AV.any, AV.any, AV.any, AV.any, AV.any, AV.any] H
def B56_0 (K : AV → Heap → Prop) (N1 : AV → AV → Heap → Prop) (v0 : AV) (v1 : AV) (v5 : AV) (H : Heap) : Prop :=
 lenV tab 24 v0 fun v8 =>
 binV tab .lss 3 v5 v8 fun v9 =>
 condV v9 (indexAddrV tab 24 v0 v5 fun v14 =>
 loadV tab 22 v14 H fun v15 =>
 CallT Try.prog 54 [v15, v1] H fun v17 H1 =>
 binV tab .lss 3 v17 (AV.p (.int .i64 0)) fun v19 =>
 condV v19 (K (AV.p (.int .i64 (-1))) H1)
 (binV tab .add 3 v5 (AV.p (.int .i64 1)) fun v11 =>
 N1 v17 v11 H1))
 (K v1 H)
def W56 (v0 : AV) (v1 : AV) (H : Heap) (K : AV → Heap → Prop) : Prop :=
 L56_0 K v0 v1 (AV.p (.int .i64 0)) H
theorem W56_wp (v0 : AV) (v1 : AV) (H : Heap) (K : AV → Heap → Prop) : wpC Try.prog tab D56 (bodyOf Try.f56) (retF tab [.tmp 4] K) (nthA [v0, v1]) H = W56 v0 v1 H K := by kernel_rfl
theorem W56_ok {v0 v1 : AV} {H : Heap} {K : AV → Heap → Prop} (h : W56 v0 v1 H K) : CallT Try.prog 56 [v0, v1] H K :=
  CallT.of_wp (D := D56) tab_ok mixed Try.func56 (c := bodyOf Try.f56) (by kernel_rfl) rfl (by kernel_rfl) (rs := #[.tmp 4]) rfl (by decide +kernel) (by kernel_rfl) (W56_wp v0 v1 H K) h
theorem W56_hb : HasBody Try.prog 56 := ⟨_, bodyOf Try.f56, Try.func56, by kernel_rfl, rfl⟩
theorem L56_0_rule {K : AV → Heap → Prop} {v0 v1 v5 : AV} {H : Heap} {σ : Type} (s0 : σ) (f1 : σ → AV) (f5 : σ → AV) (TH : σ → Heap) (pre : σ → Prop) (μ : σ → Nat)
    (h0 : pre s0 ∧ AV.wk v1 (f1 s0) ∧ AV.wk v5 (f5 s0) ∧ Heap.le (TH s0) H)
    (round : ∀ s, pre s → B56_0 K (fun w1 w5 H' => ∃ s', pre s' ∧ μ s' < μ s ∧ AV.wk w1 (f1 s') ∧ AV.wk w5 (f5 s') ∧ Heap.le (TH s') H') v0 (f1 s) (f5 s) (TH s)) :
    L56_0 K v0 v1 v5 H := by
  unfold L56_0
  exact LoopV.mk s0 (fun s => [f1 s, f5 s]) TH pre μ (fun _ => rfl) (Eq.mp (by kernel_rfl) h0) (fun s hs => Eq.mp (by kernel_rfl) (round s hs))
theorem L56_0_ruleG {K : AV → Heap → Prop} {v0 v1 v5 : AV} {H : Heap} {σ : Type} (s0 : σ) (f1 : σ → AV) (f5 : σ → AV) (TH : σ → Heap) (pre : σ → Prop) (μ : σ → Nat)
    (h0 : pre s0 ∧ AV.wk v1 (f1 s0) ∧ AV.wk v5 (f5 s0) ∧ Heap.le (TH s0) H)
    (round : ∀ s, pre s → ∀ q, TH s q = none → B56_0 K (fun w1 w5 H' => ∃ s', pre s' ∧ μ s' < μ s ∧ AV.wk w1 (f1 s') ∧ AV.wk w5 (f5 s') ∧ Heap.le (TH s') H') v0 (f1 s) (f5 s) ((TH s).set q [])) :
    L56_0 K v0 v1 v5 H := by
  unfold L56_0
  exact LoopV.mkG s0 (fun s => [f1 s, f5 s]) TH pre μ (fun _ => rfl) (Eq.mp (by kernel_rfl) h0) (fun s hs q hq => Eq.mp (by kernel_rfl) (round s hs q hq))
/-- loop.example/g00649/spec.l12Own -/
def D57 : Info := ⟨32, fun i => if i = 1 then ([[], [0], [], [2], [2, 3], [], [], [6], [2, 3, 4, 5, 6, 7], [0, 1, 2, 3, 4, 5, 6, 7, 8], [], [0, 1, 2, 3, 4, 5, 6, 7, 8, 9, 10]], [(0, []), (1, []), (2, []), (3, []), (6, []), (7, []), (4, [5, 1, 7]), (5, [5]), (8, [1]), (9, []), (10, []), (11, [])]) else if i = 5 then ([[], [0], [], [2], [2, 3], [0, 1, 2, 3, 4], [0, 1, 2, 3, 4, 5], [0, 1, 2, 3, 4, 5, 6]], [(0, []), (1, []), (2, []), (3, [1]), (4, [1]), (5, []), (6, []), (7, [])]) else ([], []), fun i => if i = 3 then ([2, 3, 17, 18], [19]) else ([], [])⟩
def L57_0 (K : AV → Heap → Prop) (v2 : AV) (v3 : AV) (v17 : AV) (v18 : AV) (v19 : AV) (H : Heap) : Prop := LoopV (wpC Try.prog tab D57 (cAt [1, 1, 0, 1, 0, 0] (bodyOf Try.f57))) [2, 3, 17, 18] (PostF.block 0 (PostF.thenA (wpC Try.prog tab D57 (cAt [1, 1, 1] (bodyOf Try.f57))) (retF tab [.cell 2 30] K))) [19] [AV.any, AV.any, v2, v3, AV.any, AV.any, AV.any, AV.any, AV.any, AV.any, AV.any, AV.any, AV.any, AV.any, AV.any, AV.any, AV.any, v17, v18, v19, AV.any, AV.any, AV.any, AV.any, AV.any, AV.any, AV.any, AV.any, AV.any, AV.any, AV.any, AV.any] H
def B57_0 (K : AV → Heap → Prop) (N1 : AV → Heap → Prop) (v2 : AV) (v3 : AV) (v17 : AV) (v18 : AV) (v19 : AV) (H : Heap) : Prop :=
 binV tab .lss 3 v19 v18 fun v20 =>
 condV v20 (indexAddrV tab 24 v17 v19 fun v21 =>
 loadV tab 22 v21 H fun v22 =>
 fieldAddrV tab 30 v3 3 fun v23 =>
 loadV tab 24 v23 H fun v24 =>
 CallT Try.prog 59 [v22] H fun v26 H8 =>
 (loadV tab 24 v23 H8 fun v9024 =>
 v24 = v9024) ∧
 buildSliceV tab 24 1 [(0, v26)] H8 (wkK fun v27 H9 =>
 (loadV tab 24 v23 H9 fun v9024 =>
 v24 = v9024) ∧
 appendV tab 24 24 v24 v27 H9 (wkK fun v28 H10 =>
 fieldAddrV tab 30 v3 3 fun v29 =>
 storeV tab 24 v29 v28 H10 fun H11 =>
 binV tab .add 3 v19 (AV.p (.int .i64 1)) fun v30 =>
 N1 v30 H11)))
 (loadV tab 30 v3 H fun v31 =>
 storeV tab 30 v2 v31 H fun H12 =>
 loadV tab 30 v2 H12 fun r0 =>
 K r0 H12)
def W57 (v0 : AV) (H : Heap) (K : AV → Heap → Prop) : Prop :=
 boxV v0 H fun v1 H1 =>
 allocV tab 30 H1 fun v2 H2 =>
 fieldAddrV tab 30 v1 0 fun v6 =>
 loadV tab 3 v6 H2 fun v7 =>
 fieldAddrV tab 30 v1 1 fun v8 =>
 loadV tab 22 v8 H2 fun v9 =>
 fieldAddrV tab 30 v1 2 fun v12 =>
 loadV tab 28 v12 H2 fun v13 =>
 safeV (buildN tab 28 0 []) ∧
 CallT Try.prog 59 [v9] H2 fun v10 H3 =>
 (loadV tab 3 v6 H3 fun v9007 =>
 v7 = v9007) ∧
 (loadV tab 28 v12 H3 fun v9013 =>
 v13 = v9013) ∧
 newV (buildN tab 28 0 []) H3 fun v11 H4 =>
 appendV tab 28 28 v11 v13 H4 (wkK fun v14 H5 =>
 (loadV tab 3 v6 H5 fun v9007 =>
 v7 = v9007) ∧
 buildV tab 30 [(0, v7), (1, v10), (2, v14)] fun v15 =>
 allocV tab 30 H5 fun v3 H6 =>
 storeV tab 30 v3 v15 H6 fun H7 =>
 fieldAddrV tab 30 v1 3 fun v16 =>
 loadV tab 24 v16 H7 fun v17 =>
 lenV tab 24 v17 fun v18 =>
 L57_0 K v2 v3 v17 v18 (AV.p (.int .i64 0)) H7)
theorem W57_wp (v0 : AV) (H : Heap) (K : AV → Heap → Prop) : wpC Try.prog tab D57 (bodyOf Try.f57) (retF tab [.cell 2 30] K) (nthA [v0]) H = W57 v0 H K := by kernel_rfl
theorem W57_ok {v0 : AV} {H : Heap} {K : AV → Heap → Prop} (h : W57 v0 H K) : CallT Try.prog 57 [v0] H K :=
  CallT.of_wp (D := D57) tab_ok mixed Try.func57 (c := bodyOf Try.f57) (by kernel_rfl) rfl (by kernel_rfl) (rs := #[.cell 2 30]) rfl (by decide +kernel) (by kernel_rfl) (W57_wp v0 H K) h
theorem W57_hb : HasBody Try.prog 57 := ⟨_, bodyOf Try.f57, Try.func57, by kernel_rfl, rfl⟩
theorem L57_0_rule {K : AV → Heap → Prop} {v2 v3 v17 v18 v19 : AV} {H : Heap} {σ : Type} (s0 : σ) (f19 : σ → AV) (TH : σ → Heap) (pre : σ → Prop) (μ : σ → Nat)
    (h0 : pre s0 ∧ AV.wk v19 (f19 s0) ∧ Heap.le (TH s0) H)
    (round : ∀ s, pre s → B57_0 K (fun w19 H' => ∃ s', pre s' ∧ μ s' < μ s ∧ AV.wk w19 (f19 s') ∧ Heap.le (TH s') H') v2 v3 v17 v18 (f19 s) (TH s)) :
    L57_0 K v2 v3 v17 v18 v19 H := by
  unfold L57_0
  exact LoopV.mk s0 (fun s => [f19 s]) TH pre μ (fun _ => rfl) (Eq.mp (by kernel_rfl) h0) (fun s hs => Eq.mp (by kernel_rfl) (round s hs))
theorem L57_0_ruleG {K : AV → Heap → Prop} {v2 v3 v17 v18 v19 : AV} {H : Heap} {σ : Type} (s0 : σ) (f19 : σ → AV) (TH : σ → Heap) (pre : σ → Prop) (μ : σ → Nat)
    (h0 : pre s0 ∧ AV.wk v19 (f19 s0) ∧ Heap.le (TH s0) H)
    (round : ∀ s, pre s → ∀ q, TH s q = none → B57_0 K (fun w19 H' => ∃ s', pre s' ∧ μ s' < μ s ∧ AV.wk w19 (f19 s') ∧ Heap.le (TH s') H') v2 v3 v17 v18 (f19 s) ((TH s).set q [])) :
    L57_0 K v2 v3 v17 v18 v19 H := by
  unfold L57_0
  exact LoopV.mkG s0 (fun s => [f19 s]) TH pre μ (fun _ => rfl) (Eq.mp (by kernel_rfl) h0) (fun s hs q hq => Eq.mp (by kernel_rfl) (round s hs q hq))
/-- loop.example/g00649/spec.l12All -/
def D58 : Info := ⟨15, fun i => ([], []), fun i => if i = 3 then ([0], [3, 4]) else ([], [])⟩
def L58_0 (K : AV → Heap → Prop) (v0 : AV) (v3 : AV) (v4 : AV) (H : Heap) : Prop := LoopV (wpC Try.prog tab D58 (cAt [1, 1, 0, 1, 0, 0] (bodyOf Try.f58))) [0] (PostF.block 0 (PostF.thenA (wpC Try.prog tab D58 (cAt [1, 1, 1] (bodyOf Try.f58))) (retF tab [.tmp 2] K))) [3, 4] [v0, AV.any, AV.any, v3, v4, AV.any, AV.any, AV.any, AV.any, AV.any, AV.any, AV.any, AV.any, AV.any, AV.any] H
def B58_0 (K : AV → Heap → Prop) (N1 : AV → AV → Heap → Prop) (v0 : AV) (v3 : AV) (v4 : AV) (H : Heap) : Prop :=
 binV tab .lss 3 v4 v0 fun v7 =>
 condV v7 (buildSliceV tab 22 1 [(0, v4)] H (wkK fun v12 H1 =>
 appendV tab 22 22 v3 v12 H1 (wkK fun v13 H2 =>
 binV tab .add 3 v4 (AV.p (.int .i64 1)) fun v9 =>
 N1 v13 v9 H2)))
 (K v3 H)
def W58 (v0 : AV) (H : Heap) (K : AV → Heap → Prop) : Prop :=
 L58_0 K v0 (AV.p .nil) (AV.p (.int .i64 0)) H
theorem W58_wp (v0 : AV) (H : Heap) (K : AV → Heap → Prop) : wpC Try.prog tab D58 (bodyOf Try.f58) (retF tab [.tmp 2] K) (nthA [v0]) H = W58 v0 H K := by kernel_rfl
theorem W58_ok {v0 : AV} {H : Heap} {K : AV → Heap → Prop} (h : W58 v0 H K) : CallT Try.prog 58 [v0] H K :=
  CallT.of_wp (D := D58) tab_ok mixed Try.func58 (c := bodyOf Try.f58) (by kernel_rfl) rfl (by kernel_rfl) (rs := #[.tmp 2]) rfl (by decide +kernel) (by kernel_rfl) (W58_wp v0 H K) h
theorem W58_hb : HasBody Try.prog 58 := ⟨_, bodyOf Try.f58, Try.func58, by kernel_rfl, rfl⟩
theorem L58_0_rule {K : AV → Heap → Prop} {v0 v3 v4 : AV} {H : Heap} {σ : Type} (s0 : σ) (f3 : σ → AV) (f4 : σ → AV) (TH : σ → Heap) (pre : σ → Prop) (μ : σ → Nat)
    (h0 : pre s0 ∧ AV.wk v3 (f3 s0) ∧ AV.wk v4 (f4 s0) ∧ Heap.le (TH s0) H)
    (round : ∀ s, pre s → B58_0 K (fun w3 w4 H' => ∃ s', pre s' ∧ μ s' < μ s ∧ AV.wk w3 (f3 s') ∧ AV.wk w4 (f4 s') ∧ Heap.le (TH s') H') v0 (f3 s) (f4 s) (TH s)) :
    L58_0 K v0 v3 v4 H := by
  unfold L58_0
  exact LoopV.mk s0 (fun s => [f3 s, f4 s]) TH pre μ (fun _ => rfl) (Eq.mp (by kernel_rfl) h0) (fun s hs => Eq.mp (by kernel_rfl) (round s hs))
theorem L58_0_ruleG {K : AV → Heap → Prop} {v0 v3 v4 : AV} {H : Heap} {σ : Type} (s0 : σ) (f3 : σ → AV) (f4 : σ → AV) (TH : σ → Heap) (pre : σ → Prop) (μ : σ → Nat)
    (h0 : pre s0 ∧ AV.wk v3 (f3 s0) ∧ AV.wk v4 (f4 s0) ∧ Heap.le (TH s0) H)
    (round : ∀ s, pre s → ∀ q, TH s q = none → B58_0 K (fun w3 w4 H' => ∃ s', pre s' ∧ μ s' < μ s ∧ AV.wk w3 (f3 s') ∧ AV.wk w4 (f4 s') ∧ Heap.le (TH s') H') v0 (f3 s) (f4 s) ((TH s).set q [])) :
    L58_0 K v0 v3 v4 H := by
  unfold L58_0
  exact LoopV.mkG s0 (fun s => [f3 s, f4 s]) TH pre μ (fun _ => rfl) (Eq.mp (by kernel_rfl) h0) (fun s hs q hq => Eq.mp (by kernel_rfl) (round s hs q hq))
/-- loop.example/g00649/spec.l1Own -/
def D59 : Info := ⟨6, fun i => ([], []), fun i => ([], [])⟩
def W59 (v0 : AV) (H : Heap) (K : AV → Heap → Prop) : Prop :=
 buildSliceV tab 22 0 [] H (wkK fun v3 H1 =>
 appendV tab 22 22 v3 v0 H1 (wkK fun v5 H2 =>
 K v5 H2))
theorem W59_wp (v0 : AV) (H : Heap) (K : AV → Heap → Prop) : wpC Try.prog tab D59 (bodyOf Try.f59) (retF tab [.tmp 2] K) (nthA [v0]) H = W59 v0 H K := by kernel_rfl
theorem W59_ok {v0 : AV} {H : Heap} {K : AV → Heap → Prop} (h : W59 v0 H K) : CallT Try.prog 59 [v0] H K :=
  CallT.of_wp (D := D59) tab_ok mixed Try.func59 (c := bodyOf Try.f59) (by kernel_rfl) rfl (by kernel_rfl) (rs := #[.tmp 2]) rfl (by decide +kernel) (by kernel_rfl) (W59_wp v0 H K) h
theorem W59_hb : HasBody Try.prog 59 := ⟨_, bodyOf Try.f59, Try.func59, by kernel_rfl, rfl⟩
/-- loop.example/g00649/spec.l1Has -/
def D60 : Info := ⟨17, fun i => ([], []), fun i => if i = 2 then ([1, 7, 8], [9]) else ([], [])⟩
def L60_0 (K : AV → Heap → Prop) (v1 : AV) (v7 : AV) (v8 : AV) (v9 : AV) (H : Heap) : Prop := LoopV (wpC Try.prog tab D60 (cAt [1, 0, 1, 0, 0] (bodyOf Try.f60))) [1, 7, 8] (PostF.block 0 (PostF.thenA (wpC Try.prog tab D60 (cAt [1, 1] (bodyOf Try.f60))) (retF tab [.tmp 4] K))) [9] [AV.any, v1, AV.any, AV.any, AV.any, AV.any, AV.any, v7, v8, v9, AV.any, AV.any, AV.any, AV.any, AV.any, AV.any, AV.any] H
def B60_0 (K : AV → Heap → Prop) (N1 : AV → Heap → Prop) (v1 : AV) (v7 : AV) (v8 : AV) (v9 : AV) (H : Heap) : Prop :=
 binV tab .lss 3 v9 v8 fun v10 =>
 condV v10 (indexAddrV tab 22 v7 v9 fun v11 =>
 loadV tab 3 v11 H fun v12 =>
 binV tab .eql 3 v12 v1 fun v15 =>
 condV v15 (K (AV.p (.bool true)) H)
 (binV tab .add 3 v9 (AV.p (.int .i64 1)) fun v16 =>
 N1 v16 H))
 (K (AV.p (.bool false)) H)
def W60 (v0 : AV) (v1 : AV) (H : Heap) (K : AV → Heap → Prop) : Prop :=
 lenV tab 22 v0 fun v8 =>
 L60_0 K v1 v0 v8 (AV.p (.int .i64 0)) H
theorem W60_wp (v0 : AV) (v1 : AV) (H : Heap) (K : AV → Heap → Prop) : wpC Try.prog tab D60 (bodyOf Try.f60) (retF tab [.tmp 4] K) (nthA [v0, v1]) H = W60 v0 v1 H K := by kernel_rfl
theorem W60_ok {v0 v1 : AV} {H : Heap} {K : AV → Heap → Prop} (h : W60 v0 v1 H K) : CallT Try.prog 60 [v0, v1] H K :=
  CallT.of_wp (D := D60) tab_ok mixed Try.func60 (c := bodyOf Try.f60) (by kernel_rfl) rfl (by kernel_rfl) (rs := #[.tmp 4]) rfl (by decide +kernel) (by kernel_rfl) (W60_wp v0 v1 H K) h
theorem W60_hb : HasBody Try.prog 60 := ⟨_, bodyOf Try.f60, Try.func60, by kernel_rfl, rfl⟩
theorem L60_0_rule {K : AV → Heap → Prop} {v1 v7 v8 v9 : AV} {H : Heap} {σ : Type} (s0 : σ) (f9 : σ → AV) (TH : σ → Heap) (pre : σ → Prop) (μ : σ → Nat)
    (h0 : pre s0 ∧ AV.wk v9 (f9 s0) ∧ Heap.le (TH s0) H)
    (round : ∀ s, pre s → B60_0 K (fun w9 H' => ∃ s', pre s' ∧ μ s' < μ s ∧ AV.wk w9 (f9 s') ∧ Heap.le (TH s') H') v1 v7 v8 (f9 s) (TH s)) :
    L60_0 K v1 v7 v8 v9 H := by
  unfold L60_0
  exact LoopV.mk s0 (fun s => [f9 s]) TH pre μ (fun _ => rfl) (Eq.mp (by kernel_rfl) h0) (fun s hs => Eq.mp (by kernel_rfl) (round s hs))
theorem L60_0_ruleG {K : AV → Heap → Prop} {v1 v7 v8 v9 : AV} {H : Heap} {σ : Type} (s0 : σ) (f9 : σ → AV) (TH : σ → Heap) (pre : σ → Prop) (μ : σ → Nat)
    (h0 : pre s0 ∧ AV.wk v9 (f9 s0) ∧ Heap.le (TH s0) H)
    (round : ∀ s, pre s → ∀ q, TH s q = none → B60_0 K (fun w9 H' => ∃ s', pre s' ∧ μ s' < μ s ∧ AV.wk w9 (f9 s') ∧ Heap.le (TH s') H') v1 v7 v8 (f9 s) ((TH s).set q [])) :
    L60_0 K v1 v7 v8 v9 H := by
  unfold L60_0
  exact LoopV.mkG s0 (fun s => [f9 s]) TH pre μ (fun _ => rfl) (Eq.mp (by kernel_rfl) h0) (fun s hs q hq => Eq.mp (by kernel_rfl) (round s hs q hq))
/-- loop.example/g00649/impl.copyAuto -/
def D61 : Info := ⟨31, fun i => if i = 1 then ([[], [0], [], [2], [2, 3], [], [5], [2, 3, 4, 5, 6], [0, 1, 2, 3, 4, 5, 6, 7], [], [0, 1, 2, 3, 4, 5, 6, 7, 8, 9]], [(0, []), (1, []), (2, []), (3, []), (5, []), (6, []), (4, [1, 6]), (7, [1]), (8, []), (9, []), (10, [])]) else if i = 5 then ([[], [0], [], [2], [2, 3], [0, 1, 2, 3, 4], [0, 1, 2, 3, 4, 5], [0, 1, 2, 3, 4, 5, 6]], [(0, []), (1, []), (2, []), (3, [1]), (4, [1]), (5, []), (6, []), (7, [])]) else ([], []), fun i => if i = 3 then ([2, 3, 16, 17], [18]) else ([], [])⟩
def L61_0 (K : AV → Heap → Prop) (v2 : AV) (v3 : AV) (v16 : AV) (v17 : AV) (v18 : AV) (H : Heap) : Prop := LoopV (wpC Try.prog tab D61 (cAt [1, 1, 0, 1, 0, 0] (bodyOf Try.f61))) [2, 3, 16, 17] (PostF.block 0 (PostF.thenA (wpC Try.prog tab D61 (cAt [1, 1, 1] (bodyOf Try.f61))) (retF tab [.cell 2 30] K))) [18] [AV.any, AV.any, v2, v3, AV.any, AV.any, AV.any, AV.any, AV.any, AV.any, AV.any, AV.any, AV.any, AV.any, AV.any, AV.any, v16, v17, v18, AV.any, AV.any, AV.any, AV.any, AV.any, AV.any, AV.any, AV.any, AV.any, AV.any, AV.any, AV.any] H
def B61_0 (K : AV → Heap → Prop) (N1 : AV → Heap → Prop) (v2 : AV) (v3 : AV) (v16 : AV) (v17 : AV) (v18 : AV) (H : Heap) : Prop :=
 binV tab .lss 3 v18 v17 fun v19 =>
 condV v19 (indexAddrV tab 24 v16 v18 fun v20 =>
 loadV tab 22 v20 H fun v21 =>
 fieldAddrV tab 30 v3 3 fun v22 =>
 loadV tab 24 v22 H fun v23 =>
 CallT Try.prog 62 [v21] H fun v25 H7 =>
 (loadV tab 24 v22 H7 fun v9023 =>
 v23 = v9023) ∧
 buildSliceV tab 24 1 [(0, v25)] H7 (wkK fun v26 H8 =>
 (loadV tab 24 v22 H8 fun v9023 =>
 v23 = v9023) ∧
 appendV tab 24 24 v23 v26 H8 (wkK fun v27 H9 =>
 fieldAddrV tab 30 v3 3 fun v28 =>
 storeV tab 24 v28 v27 H9 fun H10 =>
 binV tab .add 3 v18 (AV.p (.int .i64 1)) fun v29 =>
 N1 v29 H10)))
 (loadV tab 30 v3 H fun v30 =>
 storeV tab 30 v2 v30 H fun H11 =>
 loadV tab 30 v2 H11 fun r0 =>
 K r0 H11)
def W61 (v0 : AV) (H : Heap) (K : AV → Heap → Prop) : Prop :=
 boxV v0 H fun v1 H1 =>
 allocV tab 30 H1 fun v2 H2 =>
 fieldAddrV tab 30 v1 0 fun v6 =>
 loadV tab 3 v6 H2 fun v7 =>
 fieldAddrV tab 30 v1 1 fun v8 =>
 loadV tab 22 v8 H2 fun v9 =>
 fieldAddrV tab 30 v1 2 fun v11 =>
 loadV tab 28 v11 H2 fun v12 =>
 CallT Try.prog 62 [v9] H2 fun v10 H3 =>
 (loadV tab 3 v6 H3 fun v9007 =>
 v7 = v9007) ∧
 (loadV tab 28 v11 H3 fun v9012 =>
 v12 = v9012) ∧
 CallT Try.prog 45 [v12] H3 fun v13 H4 =>
 (loadV tab 3 v6 H4 fun v9007 =>
 v7 = v9007) ∧
 buildV tab 30 [(0, v7), (1, v10), (2, v13)] fun v14 =>
 allocV tab 30 H4 fun v3 H5 =>
 storeV tab 30 v3 v14 H5 fun H6 =>
 fieldAddrV tab 30 v1 3 fun v15 =>
 loadV tab 24 v15 H6 fun v16 =>
 lenV tab 24 v16 fun v17 =>
 L61_0 K v2 v3 v16 v17 (AV.p (.int .i64 0)) H6
theorem W61_wp (v0 : AV) (H : Heap) (K : AV → Heap → Prop) : wpC Try.prog tab D61 (bodyOf Try.f61) (retF tab [.cell 2 30] K) (nthA [v0]) H = W61 v0 H K := by kernel_rfl
theorem W61_ok {v0 : AV} {H : Heap} {K : AV → Heap → Prop} (h : W61 v0 H K) : CallT Try.prog 61 [v0] H K :=
  CallT.of_wp (D := D61) tab_ok mixed Try.func61 (c := bodyOf Try.f61) (by kernel_rfl) rfl (by kernel_rfl) (rs := #[.cell 2 30]) rfl (by decide +kernel) (by kernel_rfl) (W61_wp v0 H K) h
theorem W61_hb : HasBody Try.prog 61 := ⟨_, bodyOf Try.f61, Try.func61, by kernel_rfl, rfl⟩
theorem L61_0_rule {K : AV → Heap → Prop} {v2 v3 v16 v17 v18 : AV} {H : Heap} {σ : Type} (s0 : σ) (f18 : σ → AV) (TH : σ → Heap) (pre : σ → Prop) (μ : σ → Nat)
    (h0 : pre s0 ∧ AV.wk v18 (f18 s0) ∧ Heap.le (TH s0) H)
    (round : ∀ s, pre s → B61_0 K (fun w18 H' => ∃ s', pre s' ∧ μ s' < μ s ∧ AV.wk w18 (f18 s') ∧ Heap.le (TH s') H') v2 v3 v16 v17 (f18 s) (TH s)) :
    L61_0 K v2 v3 v16 v17 v18 H := by
  unfold L61_0
  exact LoopV.mk s0 (fun s => [f18 s]) TH pre μ (fun _ => rfl) (Eq.mp (by kernel_rfl) h0) (fun s hs => Eq.mp (by kernel_rfl) (round s hs))
theorem L61_0_ruleG {K : AV → Heap → Prop} {v2 v3 v16 v17 v18 : AV} {H : Heap} {σ : Type} (s0 : σ) (f18 : σ → AV) (TH : σ → Heap) (pre : σ → Prop) (μ : σ → Nat)
    (h0 : pre s0 ∧ AV.wk v18 (f18 s0) ∧ Heap.le (TH s0) H)
    (round : ∀ s, pre s → ∀ q, TH s q = none → B61_0 K (fun w18 H' => ∃ s', pre s' ∧ μ s' < μ s ∧ AV.wk w18 (f18 s') ∧ Heap.le (TH s') H') v2 v3 v16 v17 (f18 s) ((TH s).set q [])) :
    L61_0 K v2 v3 v16 v17 v18 H := by
  unfold L61_0
  exact LoopV.mkG s0 (fun s => [f18 s]) TH pre μ (fun _ => rfl) (Eq.mp (by kernel_rfl) h0) (fun s hs q hq => Eq.mp (by kernel_rfl) (round s hs q hq))
/-- slices.Clone[[]int,int] -/
def D62 : Info := ⟨8, fun i => ([], []), fun i => ([], [])⟩
def W62 (v0 : AV) (H : Heap) (K : AV → Heap → Prop) : Prop :=
 binV tab .eql 22 v0 (AV.p .nil) fun v4 =>
 condV v4 (K (AV.p .nil) H)
 (buildSliceV tab 22 0 [] H (wkK fun v5 H1 =>
 appendV tab 22 22 v5 v0 H1 (wkK fun v7 H2 =>
 K v7 H2)))
theorem W62_wp (v0 : AV) (H : Heap) (K : AV → Heap → Prop) : wpC Try.prog tab D62 (bodyOf Try.f62) (retF tab [.tmp 2] K) (nthA [v0]) H = W62 v0 H K := by kernel_rfl
theorem W62_ok {v0 : AV} {H : Heap} {K : AV → Heap → Prop} (h : W62 v0 H K) : CallT Try.prog 62 [v0] H K :=
  CallT.of_wp (D := D62) tab_ok mixed Try.func62 (c := bodyOf Try.f62) (by kernel_rfl) rfl (by kernel_rfl) (rs := #[.tmp 2]) rfl (by decide +kernel) (by kernel_rfl) (W62_wp v0 H K) h
theorem W62_hb : HasBody Try.prog 62 := ⟨_, bodyOf Try.f62, Try.func62, by kernel_rfl, rfl⟩
/-- slices.Contains[[]int,int] -/
def D63 : Info := ⟨9, fun i => ([], []), fun i => ([], [])⟩
def W63 (v0 : AV) (v1 : AV) (H : Heap) (K : AV → Heap → Prop) : Prop :=
 CallT Try.prog 87 [v0, v1] H fun v7 H1 =>
 binV tab .geq 3 v7 (AV.p (.int .i64 0)) fun v8 =>
 K v8 H1
theorem W63_wp (v0 : AV) (v1 : AV) (H : Heap) (K : AV → Heap → Prop) : wpC Try.prog tab D63 (bodyOf Try.f63) (retF tab [.tmp 4] K) (nthA [v0, v1]) H = W63 v0 v1 H K := by kernel_rfl
theorem W63_ok {v0 v1 : AV} {H : Heap} {K : AV → Heap → Prop} (h : W63 v0 v1 H K) : CallT Try.prog 63 [v0, v1] H K :=
  CallT.of_wp (D := D63) tab_ok mixed Try.func63 (c := bodyOf Try.f63) (by kernel_rfl) rfl (by kernel_rfl) (rs := #[.tmp 4]) rfl (by decide +kernel) (by kernel_rfl) (W63_wp v0 v1 H K) h
theorem W63_hb : HasBody Try.prog 63 := ⟨_, bodyOf Try.f63, Try.func63, by kernel_rfl, rfl⟩
/-- loop.example/g00649/spec.l1In -/
def D76 : Info := ⟨15, fun i => ([], []), fun i => ([], [])⟩
def W76 (v0 : AV) (v1 : AV) (v2 : AV) (H : Heap) (K : AV → Heap → Prop) : Prop :=
 binV tab .geq 3 v0 v1 fun v9 =>
 grdV v9 true (binV tab .leq 3 v0 v2 fun v13 =>
 K v13 H)
 (K (AV.p (.bool false)) H)
theorem W76_wp (v0 : AV) (v1 : AV) (v2 : AV) (H : Heap) (K : AV → Heap → Prop) : wpC Try.prog tab D76 (bodyOf Try.f76) (retF tab [.tmp 6] K) (nthA [v0, v1, v2]) H = W76 v0 v1 v2 H K := by kernel_rfl
theorem W76_ok {v0 v1 v2 : AV} {H : Heap} {K : AV → Heap → Prop} (h : W76 v0 v1 v2 H K) : CallT Try.prog 76 [v0, v1, v2] H K :=
  CallT.of_wp (D := D76) tab_ok mixed Try.func76 (c := bodyOf Try.f76) (by kernel_rfl) rfl (by kernel_rfl) (rs := #[.tmp 6]) rfl (by decide +kernel) (by kernel_rfl) (W76_wp v0 v1 v2 H K) h
theorem W76_hb : HasBody Try.prog 76 := ⟨_, bodyOf Try.f76, Try.func76, by kernel_rfl, rfl⟩
/-- loop.example/g00649/spec.l11Points -/
def D77 : Info := ⟨9, fun i => ([], []), fun i => ([], [])⟩
def W77 (v0 : AV) (v1 : AV) (H : Heap) (K : AV → Heap → Prop) : Prop :=
 binV tab .sub 3 v1 (AV.p (.int .i64 1)) fun v7 =>
 CallT Try.prog 105 [v0, (AV.p (.int .i64 0)), v7] H fun v8 H1 =>
 K v8 H1
theorem W77_wp (v0 : AV) (v1 : AV) (H : Heap) (K : AV → Heap → Prop) : wpC Try.prog tab D77 (bodyOf Try.f77) (retF tab [.tmp 4] K) (nthA [v0, v1]) H = W77 v0 v1 H K := by kernel_rfl
theorem W77_ok {v0 v1 : AV} {H : Heap} {K : AV → Heap → Prop} (h : W77 v0 v1 H K) : CallT Try.prog 77 [v0, v1] H K :=
  CallT.of_wp (D := D77) tab_ok mixed Try.func77 (c := bodyOf Try.f77) (by kernel_rfl) rfl (by kernel_rfl) (rs := #[.tmp 4]) rfl (by decide +kernel) (by kernel_rfl) (W77_wp v0 v1 H K) h
theorem W77_hb : HasBody Try.prog 77 := ⟨_, bodyOf Try.f77, Try.func77, by kernel_rfl, rfl⟩
/-- loop.example/g00649/spec.l11Goals -/
def D78 : Info := ⟨21, fun i => ([], []), fun i => if i = 4 then ([1, 10, 11], [12]) else ([], [])⟩
def L78_0 (K : AV → Heap → Prop) (v1 : AV) (v10 : AV) (v11 : AV) (v12 : AV) (H : Heap) : Prop := LoopV (wpC Try.prog tab D78 (cAt [1, 1, 0, 1, 0, 0] (bodyOf Try.f78))) [1, 10, 11] (PostF.block 0 (PostF.thenA (wpC Try.prog tab D78 (cAt [1, 1, 1] (bodyOf Try.f78))) (retF tab [.tmp 4] K))) [12] [AV.any, v1, AV.any, AV.any, AV.any, AV.any, AV.any, AV.any, AV.any, AV.any, v10, v11, v12, AV.any, AV.any, AV.any, AV.any, AV.any, AV.any, AV.any, AV.any] H
def B78_0 (K : AV → Heap → Prop) (N1 : AV → Heap → Prop) (v1 : AV) (v10 : AV) (v11 : AV) (v12 : AV) (H : Heap) : Prop :=
 binV tab .lss 3 v12 v11 fun v13 =>
 condV v13 (indexAddrV tab 24 v10 v12 fun v14 =>
 loadV tab 22 v14 H fun v15 =>
 CallT Try.prog 77 [v15, v1] H fun v18 H1 =>
 unV .not v18 fun v19 =>
 condV v19 (K (AV.p (.bool false)) H1)
 (binV tab .add 3 v12 (AV.p (.int .i64 1)) fun v20 =>
 N1 v20 H1))
 (K (AV.p (.bool true)) H)
def W78 (v0 : AV) (v1 : AV) (H : Heap) (K : AV → Heap → Prop) : Prop :=
 lenV tab 24 v0 fun v8 =>
 binV tab .gtr 3 v8 (AV.p (.int .i64 6)) fun v9 =>
 condV v9 (K (AV.p (.bool false)) H)
 (lenV tab 24 v0 fun v11 =>
 L78_0 K v1 v0 v11 (AV.p (.int .i64 0)) H)
theorem W78_wp (v0 : AV) (v1 : AV) (H : Heap) (K : AV → Heap → Prop) : wpC Try.prog tab D78 (bodyOf Try.f78) (retF tab [.tmp 4] K) (nthA [v0, v1]) H = W78 v0 v1 H K := by kernel_rfl
theorem W78_ok {v0 v1 : AV} {H : Heap} {K : AV → Heap → Prop} (h : W78 v0 v1 H K) : CallT Try.prog 78 [v0, v1] H K :=
  CallT.of_wp (D := D78) tab_ok mixed Try.func78 (c := bodyOf Try.f78) (by kernel_rfl) rfl (by kernel_rfl) (rs := #[.tmp 4]) rfl (by decide +kernel) (by kernel_rfl) (W78_wp v0 v1 H K) h
theorem W78_hb : HasBody Try.prog 78 := ⟨_, bodyOf Try.f78, Try.func78, by kernel_rfl, rfl⟩
theorem L78_0_rule {K : AV → Heap → Prop} {v1 v10 v11 v12 : AV} {H : Heap} {σ : Type} (s0 : σ) (f12 : σ → AV) (TH : σ → Heap) (pre : σ → Prop) (μ : σ → Nat)
    (h0 : pre s0 ∧ AV.wk v12 (f12 s0) ∧ Heap.le (TH s0) H)
    (round : ∀ s, pre s → B78_0 K (fun w12 H' => ∃ s', pre s' ∧ μ s' < μ s ∧ AV.wk w12 (f12 s') ∧ Heap.le (TH s') H') v1 v10 v11 (f12 s) (TH s)) :
    L78_0 K v1 v10 v11 v12 H := by
  unfold L78_0
  exact LoopV.mk s0 (fun s => [f12 s]) TH pre μ (fun _ => rfl) (Eq.mp (by kernel_rfl) h0) (fun s hs => Eq.mp (by kernel_rfl) (round s hs))
theorem L78_0_ruleG {K : AV → Heap → Prop} {v1 v10 v11 v12 : AV} {H : Heap} {σ : Type} (s0 : σ) (f12 : σ → AV) (TH : σ → Heap) (pre : σ → Prop) (μ : σ → Nat)
    (h0 : pre s0 ∧ AV.wk v12 (f12 s0) ∧ Heap.le (TH s0) H)
    (round : ∀ s, pre s → ∀ q, TH s q = none → B78_0 K (fun w12 H' => ∃ s', pre s' ∧ μ s' < μ s ∧ AV.wk w12 (f12 s') ∧ Heap.le (TH s') H') v1 v10 v11 (f12 s) ((TH s).set q [])) :
    L78_0 K v1 v10 v11 v12 H := by
  unfold L78_0
  exact LoopV.mkG s0 (fun s => [f12 s]) TH pre μ (fun _ => rfl) (Eq.mp (by kernel_rfl) h0) (fun s hs q hq => Eq.mp (by kernel_rfl) (round s hs q hq))
/-- loop.example/g00649/spec.l12Less -/
def D79 : Info := ⟨30, fun i => ([], []), fun i => ([], [])⟩
def W79 (v0 : AV) (v1 : AV) (H : Heap) (K : AV → Heap → Prop) : Prop :=
 boxV v0 H fun v2 H1 =>
 boxV v1 H1 fun v3 H2 =>
 fieldAddrV tab 61 v2 0 fun v5 =>
 loadV tab 3 v5 H2 fun v6 =>
 fieldAddrV tab 61 v3 0 fun v7 =>
 loadV tab 3 v7 H2 fun v8 =>
 binV tab .neq 3 v6 v8 fun v9 =>
 condV v9 (fieldAddrV tab 61 v2 0 fun v10 =>
 loadV tab 3 v10 H2 fun v11 =>
 fieldAddrV tab 61 v3 0 fun v12 =>
 loadV tab 3 v12 H2 fun v13 =>
 binV tab .lss 3 v11 v13 fun v14 =>
 K v14 H2)
 (fieldAddrV tab 61 v2 1 fun v15 =>
 loadV tab 3 v15 H2 fun v16 =>
 fieldAddrV tab 61 v3 1 fun v17 =>
 loadV tab 3 v17 H2 fun v18 =>
 binV tab .neq 3 v16 v18 fun v19 =>
 condV v19 (fieldAddrV tab 61 v2 1 fun v20 =>
 loadV tab 3 v20 H2 fun v21 =>
 fieldAddrV tab 61 v3 1 fun v22 =>
 loadV tab 3 v22 H2 fun v23 =>
 binV tab .lss 3 v21 v23 fun v24 =>
 K v24 H2)
 (fieldAddrV tab 61 v2 2 fun v25 =>
 loadV tab 3 v25 H2 fun v26 =>
 fieldAddrV tab 61 v3 2 fun v27 =>
 loadV tab 3 v27 H2 fun v28 =>
 binV tab .lss 3 v26 v28 fun v29 =>
 K v29 H2))
theorem W79_wp (v0 : AV) (v1 : AV) (H : Heap) (K : AV → Heap → Prop) : wpC Try.prog tab D79 (bodyOf Try.f79) (retF tab [.tmp 4] K) (nthA [v0, v1]) H = W79 v0 v1 H K := by kernel_rfl
theorem W79_ok {v0 v1 : AV} {H : Heap} {K : AV → Heap → Prop} (h : W79 v0 v1 H K) : CallT Try.prog 79 [v0, v1] H K :=
  CallT.of_wp (D := D79) tab_ok mixed Try.func79 (c := bodyOf Try.f79) (by kernel_rfl) rfl (by kernel_rfl) (rs := #[.tmp 4]) rfl (by decide +kernel) (by kernel_rfl) (W79_wp v0 v1 H K) h
theorem W79_hb : HasBody Try.prog 79 := ⟨_, bodyOf Try.f79, Try.func79, by kernel_rfl, rfl⟩
/-- loop.example/g00649/laws.toEdge -/
def D80 : Info := ⟨14, fun i => ([], []), fun i => ([], [])⟩
def W80 (v0 : AV) (H : Heap) (K : AV → Heap → Prop) : Prop :=
 boxV v0 H fun v1 H1 =>
 allocV tab 61 H1 fun v2 H2 =>
 allocV tab 61 H2 fun v3 H3 =>
 fieldAddrV tab 90 v1 0 fun v4 =>
 loadV tab 3 v4 H3 fun v5 =>
 fieldAddrV tab 61 v3 0 fun v6 =>
 storeV tab 3 v6 v5 H3 fun H4 =>
 fieldAddrV tab 90 v1 1 fun v7 =>
 loadV tab 3 v7 H4 fun v8 =>
 fieldAddrV tab 61 v3 1 fun v9 =>
 storeV tab 3 v9 v8 H4 fun H5 =>
 fieldAddrV tab 90 v1 2 fun v10 =>
 loadV tab 3 v10 H5 fun v11 =>
 fieldAddrV tab 61 v3 2 fun v12 =>
 storeV tab 3 v12 v11 H5 fun H6 =>
 loadV tab 61 v3 H6 fun v13 =>
 storeV tab 61 v2 v13 H6 fun H7 =>
 loadV tab 61 v2 H7 fun r0 =>
 K r0 H7
theorem W80_wp (v0 : AV) (H : Heap) (K : AV → Heap → Prop) : wpC Try.prog tab D80 (bodyOf Try.f80) (retF tab [.cell 2 61] K) (nthA [v0]) H = W80 v0 H K := by kernel_rfl
theorem W80_ok {v0 : AV} {H : Heap} {K : AV → Heap → Prop} (h : W80 v0 H K) : CallT Try.prog 80 [v0] H K :=
  CallT.of_wp (D := D80) tab_ok mixed Try.func80 (c := bodyOf Try.f80) (by kernel_rfl) rfl (by kernel_rfl) (rs := #[.cell 2 61]) rfl (by decide +kernel) (by kernel_rfl) (W80_wp v0 H K) h
theorem W80_hb : HasBody Try.prog 80 := ⟨_, bodyOf Try.f80, Try.func80, by kernel_rfl, rfl⟩
end Go.Proofs.Ytfbaijpanbjmpaa
