/- What each function's code is asked for, as a formula. Written by wgen.py (a program of this session's) out of Lean's print of the program. -/
import Derived.KernelRfl
import Derived.Test.YthlbkcgnacemgaaTab
import Derived.Test.YthlbkcgnacemgaaSepC
namespace Go.Proofs.Ythlbkcgnacemgaa
open Go Go.Sep
set_option linter.unusedVariables false
attribute [local irreducible] wpC headF
/-- loop.example/g00649/laws.eqCommandS -/
def D39 : Info := ⟨27, fun i => if i = 6 then ([[], [], [0, 1], [0, 1, 2], [], [], [4, 5], [4, 5, 6], [0, 1, 2, 3, 4, 5, 6, 7], [0, 1, 2, 3, 4, 5, 6, 7, 8]], [(0, []), (1, []), (2, []), (3, []), (4, []), (5, []), (6, []), (7, []), (8, []), (9, [])]) else ([], []), fun i => if i = 4 then ([0, 1], [5]) else ([], [])⟩
def L39_0 (K : AV → Heap → Prop) (v0 : AV) (v1 : AV) (v5 : AV) (H : Heap) : Prop := LoopV (wpC Try.prog tab D39 (cAt [1, 1, 0, 1, 0, 0] (bodyOf Try.f39))) [0, 1] (PostF.block 0 (PostF.thenA (wpC Try.prog tab D39 (cAt [1, 1, 1] (bodyOf Try.f39))) (retF tab [.tmp 4] K))) [5] [v0, v1, AV.any, AV.any, AV.any, v5, AV.any, AV.any, AV.any, AV.any, AV.any, AV.any, AV.any, AV.any, AV.any, AV.any, AV.any, AV.any, AV.any, AV.any, AV.any, AV.any, AV.any, AV.any, AV.any, AV.any, AV.any] H
def B39_0 (K : AV → Heap → Prop) (N1 : AV → Heap → Prop) (v0 : AV) (v1 : AV) (v5 : AV) (H : Heap) : Prop :=
 lenV tab 33 v0 fun v13 =>
 binV tab .lss 3 v5 v13 fun v14 =>
 condV v14 (indexAddrV tab 33 v0 v5 fun v19 =>
 loadV tab 83 v19 H fun v20 =>
 indexAddrV tab 33 v1 v5 fun v23 =>
 loadV tab 83 v23 H fun v24 =>
 CallT Try.prog 54 [v20, v24] H fun v25 H1 =>
 unV .not v25 fun v26 =>
 condV v26 (K (AV.p (.bool false)) H1)
 (binV tab .add 3 v5 (AV.p (.int .i64 1)) fun v16 =>
 N1 v16 H1))
 (K (AV.p (.bool true)) H)
def W39 (v0 : AV) (v1 : AV) (H : Heap) (K : AV → Heap → Prop) : Prop :=
 lenV tab 33 v0 fun v7 =>
 lenV tab 33 v1 fun v9 =>
 binV tab .neq 3 v7 v9 fun v10 =>
 condV v10 (K (AV.p (.bool false)) H)
 (L39_0 K v0 v1 (AV.p (.int .i64 0)) H)
theorem W39_wp (v0 : AV) (v1 : AV) (H : Heap) (K : AV → Heap → Prop) : wpC Try.prog tab D39 (bodyOf Try.f39) (retF tab [.tmp 4] K) (nthA [v0, v1]) H = W39 v0 v1 H K := by kernel_rfl
theorem W39_ok {v0 v1 : AV} {H : Heap} {K : AV → Heap → Prop} (h : W39 v0 v1 H K) : CallT Try.prog 39 [v0, v1] H K :=
  CallT.of_wp (D := D39) tab_ok mixed Try.func39 (c := bodyOf Try.f39) (by kernel_rfl) rfl (by kernel_rfl) (rs := #[.tmp 4]) rfl (by decide +kernel) (by kernel_rfl) (W39_wp v0 v1 H K) h
theorem W39_hb : HasBody Try.prog 39 := ⟨_, bodyOf Try.f39, Try.func39, by kernel_rfl, rfl⟩
theorem L39_0_rule {K : AV → Heap → Prop} {v0 v1 v5 : AV} {H : Heap} {σ : Type} (s0 : σ) (f5 : σ → AV) (TH : σ → Heap) (pre : σ → Prop) (μ : σ → Nat)
    (h0 : pre s0 ∧ AV.wk v5 (f5 s0) ∧ Heap.le (TH s0) H)
    (round : ∀ s, pre s → B39_0 K (fun w5 H' => ∃ s', pre s' ∧ μ s' < μ s ∧ AV.wk w5 (f5 s') ∧ Heap.le (TH s') H') v0 v1 (f5 s) (TH s)) :
    L39_0 K v0 v1 v5 H := by
  unfold L39_0
  exact LoopV.mk s0 (fun s => [f5 s]) TH pre μ (fun _ => rfl) (Eq.mp (by kernel_rfl) h0) (fun s hs => Eq.mp (by kernel_rfl) (round s hs))
theorem L39_0_ruleG {K : AV → Heap → Prop} {v0 v1 v5 : AV} {H : Heap} {σ : Type} (s0 : σ) (f5 : σ → AV) (TH : σ → Heap) (pre : σ → Prop) (μ : σ → Nat)
    (h0 : pre s0 ∧ AV.wk v5 (f5 s0) ∧ Heap.le (TH s0) H)
    (round : ∀ s, pre s → ∀ q, TH s q = none → B39_0 K (fun w5 H' => ∃ s', pre s' ∧ μ s' < μ s ∧ AV.wk w5 (f5 s') ∧ Heap.le (TH s') H') v0 v1 (f5 s) ((TH s).set q [])) :
    L39_0 K v0 v1 v5 H := by
  unfold L39_0
  exact LoopV.mkG s0 (fun s => [f5 s]) TH pre μ (fun _ => rfl) (Eq.mp (by kernel_rfl) h0) (fun s hs q hq => Eq.mp (by kernel_rfl) (round s hs q hq))
/-- loop.example/g00649/impl.isNo -/
def D40 : Info := ⟨17, fun i => ([], []), fun i => ([], [])⟩
def W40 (v0 : AV) (v1 : AV) (H : Heap) (K : AV → Heap → Prop) : Prop :=
 boxV v0 H fun v2 H1 =>
 loadV tab 35 v2 H1 fun v5 =>
 CallT Try.prog 35 [v5] H1 fun v6 H2 =>
 grdV v6 true (binV tab .geq 3 v1 (AV.p (.int .i64 0)) fun v9 =>
 grdV v9 true (loadV tab 35 v2 H2 fun v13 =>
 CallT Try.prog 37 [v13] H2 fun v14 H3 =>
 binV tab .lss 3 v1 v14 fun v15 =>
 K v15 H3)
 (K (AV.p (.bool false)) H2))
 (K (AV.p (.bool false)) H2)
theorem W40_wp (v0 : AV) (v1 : AV) (H : Heap) (K : AV → Heap → Prop) : wpC Try.prog tab D40 (bodyOf Try.f40) (retF tab [.tmp 4] K) (nthA [v0, v1]) H = W40 v0 v1 H K := by kernel_rfl
theorem W40_ok {v0 v1 : AV} {H : Heap} {K : AV → Heap → Prop} (h : W40 v0 v1 H K) : CallT Try.prog 40 [v0, v1] H K :=
  CallT.of_wp (D := D40) tab_ok mixed Try.func40 (c := bodyOf Try.f40) (by kernel_rfl) rfl (by kernel_rfl) (rs := #[.tmp 4]) rfl (by decide +kernel) (by kernel_rfl) (W40_wp v0 v1 H K) h
theorem W40_hb : HasBody Try.prog 40 := ⟨_, bodyOf Try.f40, Try.func40, by kernel_rfl, rfl⟩
/-- loop.example/g00649/spec.l15Many -/
def D41 : Info := ⟨20, fun i => ([], []), fun i => if i = 3 then ([7, 8], [3, 9]) else ([], [])⟩
def L41_0 (K : AV → Heap → Prop) (v3 : AV) (v7 : AV) (v8 : AV) (v9 : AV) (H : Heap) : Prop := LoopV (wpC Try.prog tab D41 (cAt [1, 1, 0, 1, 0, 0] (bodyOf Try.f41))) [7, 8] (PostF.block 0 (PostF.thenA (wpC Try.prog tab D41 (cAt [1, 1, 1] (bodyOf Try.f41))) (retF tab [.tmp 2] K))) [3, 9] [AV.any, AV.any, AV.any, v3, AV.any, AV.any, AV.any, v7, v8, v9, AV.any, AV.any, AV.any, AV.any, AV.any, AV.any, AV.any, AV.any, AV.any, AV.any] H
def B41_0 (K : AV → Heap → Prop) (N1 : AV → AV → Heap → Prop) (v3 : AV) (v7 : AV) (v8 : AV) (v9 : AV) (H : Heap) : Prop :=
 binV tab .lss 3 v9 v8 fun v10 =>
 condV v10 (indexAddrV tab 26 v7 v9 fun v11 =>
 loadV tab 3 v11 H fun v12 =>
 binV tab .geq 3 v12 v3 fun v15 =>
 condV v15 (binV tab .add 3 v12 (AV.p (.int .i64 1)) fun v17 =>
 binV tab .add 3 v9 (AV.p (.int .i64 1)) fun v18 =>
 N1 v17 v18 H)
 (binV tab .add 3 v9 (AV.p (.int .i64 1)) fun v18 =>
 N1 v3 v18 H))
 (K v3 H)
def W41 (v0 : AV) (H : Heap) (K : AV → Heap → Prop) : Prop :=
 boxV v0 H fun v1 H1 =>
 fieldAddrV tab 37 v1 0 fun v6 =>
 loadV tab 26 v6 H1 fun v7 =>
 lenV tab 26 v7 fun v8 =>
 L41_0 K (AV.p (.int .i64 0)) v7 v8 (AV.p (.int .i64 0)) H1
theorem W41_wp (v0 : AV) (H : Heap) (K : AV → Heap → Prop) : wpC Try.prog tab D41 (bodyOf Try.f41) (retF tab [.tmp 2] K) (nthA [v0]) H = W41 v0 H K := by kernel_rfl
theorem W41_ok {v0 : AV} {H : Heap} {K : AV → Heap → Prop} (h : W41 v0 H K) : CallT Try.prog 41 [v0] H K :=
  CallT.of_wp (D := D41) tab_ok mixed Try.func41 (c := bodyOf Try.f41) (by kernel_rfl) rfl (by kernel_rfl) (rs := #[.tmp 2]) rfl (by decide +kernel) (by kernel_rfl) (W41_wp v0 H K) h
theorem W41_hb : HasBody Try.prog 41 := ⟨_, bodyOf Try.f41, Try.func41, by kernel_rfl, rfl⟩
theorem L41_0_rule {K : AV → Heap → Prop} {v3 v7 v8 v9 : AV} {H : Heap} {σ : Type} (s0 : σ) (f3 : σ → AV) (f9 : σ → AV) (TH : σ → Heap) (pre : σ → Prop) (μ : σ → Nat)
    (h0 : pre s0 ∧ AV.wk v3 (f3 s0) ∧ AV.wk v9 (f9 s0) ∧ Heap.le (TH s0) H)
    (round : ∀ s, pre s → B41_0 K (fun w3 w9 H' => ∃ s', pre s' ∧ μ s' < μ s ∧ AV.wk w3 (f3 s') ∧ AV.wk w9 (f9 s') ∧ Heap.le (TH s') H') (f3 s) v7 v8 (f9 s) (TH s)) :
    L41_0 K v3 v7 v8 v9 H := by
  unfold L41_0
  exact LoopV.mk s0 (fun s => [f3 s, f9 s]) TH pre μ (fun _ => rfl) (Eq.mp (by kernel_rfl) h0) (fun s hs => Eq.mp (by kernel_rfl) (round s hs))
theorem L41_0_ruleG {K : AV → Heap → Prop} {v3 v7 v8 v9 : AV} {H : Heap} {σ : Type} (s0 : σ) (f3 : σ → AV) (f9 : σ → AV) (TH : σ → Heap) (pre : σ → Prop) (μ : σ → Nat)
    (h0 : pre s0 ∧ AV.wk v3 (f3 s0) ∧ AV.wk v9 (f9 s0) ∧ Heap.le (TH s0) H)
    (round : ∀ s, pre s → ∀ q, TH s q = none → B41_0 K (fun w3 w9 H' => ∃ s', pre s' ∧ μ s' < μ s ∧ AV.wk w3 (f3 s') ∧ AV.wk w9 (f9 s') ∧ Heap.le (TH s') H') (f3 s) v7 v8 (f9 s) ((TH s).set q [])) :
    L41_0 K v3 v7 v8 v9 H := by
  unfold L41_0
  exact LoopV.mkG s0 (fun s => [f3 s, f9 s]) TH pre μ (fun _ => rfl) (Eq.mp (by kernel_rfl) h0) (fun s hs q hq => Eq.mp (by kernel_rfl) (round s hs q hq))
/-- (loop.example/g00649/impl.Sight).classes -/
def D42 : Info := ⟨7, fun i => ([], []), fun i => ([], [])⟩
def W42 (v0 : AV) (H : Heap) (K : AV → Heap → Prop) : Prop :=
 boxV v0 H fun v1 H1 =>
 fieldAddrV tab 37 v1 0 fun v3 =>
 loadV tab 26 v3 H1 fun v4 =>
 CallT Try.prog 55 [v4] H1 fun v5 H2 =>
 binV tab .add 3 v5 (AV.p (.int .i64 1)) fun v6 =>
 K v6 H2
theorem W42_wp (v0 : AV) (H : Heap) (K : AV → Heap → Prop) : wpC Try.prog tab D42 (bodyOf Try.f42) (retF tab [.tmp 2] K) (nthA [v0]) H = W42 v0 H K := by kernel_rfl
theorem W42_ok {v0 : AV} {H : Heap} {K : AV → Heap → Prop} (h : W42 v0 H K) : CallT Try.prog 42 [v0] H K :=
  CallT.of_wp (D := D42) tab_ok mixed Try.func42 (c := bodyOf Try.f42) (by kernel_rfl) rfl (by kernel_rfl) (rs := #[.tmp 2]) rfl (by decide +kernel) (by kernel_rfl) (W42_wp v0 H K) h
theorem W42_hb : HasBody Try.prog 42 := ⟨_, bodyOf Try.f42, Try.func42, by kernel_rfl, rfl⟩
/-- loop.example/g00649/laws.szCommand -/
def D48 : Info := ⟨18, fun i => ([], []), fun i => ([], [])⟩
def W48 (v0 : AV) (v1 : AV) (H : Heap) (K : AV → Heap → Prop) : Prop :=
 boxV v0 H fun v2 H1 =>
 fieldAddrV tab 74 v2 0 fun v5 =>
 loadV tab 22 v5 H1 fun v6 =>
 CallT Try.prog 26 [v6, v1] H1 fun v8 H2 =>
 binV tab .lss 3 v8 (AV.p (.int .i64 0)) fun v10 =>
 condV v10 (K (AV.p (.int .i64 (-1))) H2)
 (fieldAddrV tab 74 v2 1 fun v11 =>
 loadV tab 72 v11 H2 fun v12 =>
 CallT Try.prog 57 [v12, v8] H2 fun v14 H3 =>
 binV tab .lss 3 v14 (AV.p (.int .i64 0)) fun v16 =>
 condV v16 (K (AV.p (.int .i64 (-1))) H3)
 (K v14 H3))
theorem W48_wp (v0 : AV) (v1 : AV) (H : Heap) (K : AV → Heap → Prop) : wpC Try.prog tab D48 (bodyOf Try.f48) (retF tab [.tmp 4] K) (nthA [v0, v1]) H = W48 v0 v1 H K := by kernel_rfl
theorem W48_ok {v0 v1 : AV} {H : Heap} {K : AV → Heap → Prop} (h : W48 v0 v1 H K) : CallT Try.prog 48 [v0, v1] H K :=
  CallT.of_wp (D := D48) tab_ok mixed Try.func48 (c := bodyOf Try.f48) (by kernel_rfl) rfl (by kernel_rfl) (rs := #[.tmp 4]) rfl (by decide +kernel) (by kernel_rfl) (W48_wp v0 v1 H K) h
theorem W48_hb : HasBody Try.prog 48 := ⟨_, bodyOf Try.f48, Try.func48, by kernel_rfl, rfl⟩
/-- loop.example/g00649/spec.GoodProgram -/
def D49 : Info := ⟨29, fun i => ([], []), fun i => if i = 4 then ([1, 18, 19], [20]) else ([], [])⟩
def L49_0 (K : AV → Heap → Prop) (v1 : AV) (v18 : AV) (v19 : AV) (v20 : AV) (H : Heap) : Prop := LoopV (wpC Try.prog tab D49 (cAt [1, 1, 0, 1, 0, 0] (bodyOf Try.f49))) [1, 18, 19] (PostF.block 0 (PostF.thenA (wpC Try.prog tab D49 (cAt [1, 1, 1] (bodyOf Try.f49))) (retF tab [.tmp 2] K))) [20] [AV.any, v1, AV.any, AV.any, AV.any, AV.any, AV.any, AV.any, AV.any, AV.any, AV.any, AV.any, AV.any, AV.any, AV.any, AV.any, AV.any, AV.any, v18, v19, v20, AV.any, AV.any, AV.any, AV.any, AV.any, AV.any, AV.any, AV.any] H
def B49_0 (K : AV → Heap → Prop) (N1 : AV → Heap → Prop) (v1 : AV) (v18 : AV) (v19 : AV) (v20 : AV) (H : Heap) : Prop :=
 binV tab .lss 3 v20 v19 fun v21 =>
 condV v21 (indexAddrV tab 33 v18 v20 fun v22 =>
 loadV tab 83 v22 H fun v23 =>
 allocV tab 83 H fun v4 H4 =>
 storeV tab 83 v4 v23 H4 fun H5 =>
 loadV tab 35 v1 H5 fun v24 =>
 loadV tab 83 v4 H5 fun v25 =>
 CallT Try.prog 59 [v24, v25] H5 fun v26 H6 =>
 unV .not v26 fun v27 =>
 condV v27 (K (AV.p (.bool false)) H6)
 (binV tab .add 3 v20 (AV.p (.int .i64 1)) fun v28 =>
 N1 v28 H6))
 (K (AV.p (.bool true)) H)
def W49 (v0 : AV) (H : Heap) (K : AV → Heap → Prop) : Prop :=
 boxV v0 H fun v1 H1 =>
 loadV tab 35 v1 H1 fun v5 =>
 fieldAddrV tab 35 v1 2 fun v6 =>
 loadV tab 32 v6 H1 fun v7 =>
 CallT Try.prog 58 [v5, v7] H1 fun v8 H2 =>
 unV .not v8 fun v9 =>
 grdV v9 false (fieldAddrV tab 35 v1 3 fun v11 =>
 loadV tab 33 v11 H2 fun v12 =>
 lenV tab 33 v12 fun v13 =>
 CallT Try.prog 31 [v13, (AV.p (.int .i64 1)), (AV.p (.int .i64 6))] H2 fun v14 H3 =>
 unV .not v14 fun v15 =>
 condV v15 (K (AV.p (.bool false)) H3)
 (fieldAddrV tab 35 v1 3 fun v17 =>
 loadV tab 33 v17 H3 fun v18 =>
 lenV tab 33 v18 fun v19 =>
 L49_0 K v1 v18 v19 (AV.p (.int .i64 0)) H3))
 (K (AV.p (.bool false)) H2)
theorem W49_wp (v0 : AV) (H : Heap) (K : AV → Heap → Prop) : wpC Try.prog tab D49 (bodyOf Try.f49) (retF tab [.tmp 2] K) (nthA [v0]) H = W49 v0 H K := by kernel_rfl
theorem W49_ok {v0 : AV} {H : Heap} {K : AV → Heap → Prop} (h : W49 v0 H K) : CallT Try.prog 49 [v0] H K :=
  CallT.of_wp (D := D49) tab_ok mixed Try.func49 (c := bodyOf Try.f49) (by kernel_rfl) rfl (by kernel_rfl) (rs := #[.tmp 2]) rfl (by decide +kernel) (by kernel_rfl) (W49_wp v0 H K) h
theorem W49_hb : HasBody Try.prog 49 := ⟨_, bodyOf Try.f49, Try.func49, by kernel_rfl, rfl⟩
theorem L49_0_rule {K : AV → Heap → Prop} {v1 v18 v19 v20 : AV} {H : Heap} {σ : Type} (s0 : σ) (f20 : σ → AV) (TH : σ → Heap) (pre : σ → Prop) (μ : σ → Nat)
    (h0 : pre s0 ∧ AV.wk v20 (f20 s0) ∧ Heap.le (TH s0) H)
    (round : ∀ s, pre s → B49_0 K (fun w20 H' => ∃ s', pre s' ∧ μ s' < μ s ∧ AV.wk w20 (f20 s') ∧ Heap.le (TH s') H') v1 v18 v19 (f20 s) (TH s)) :
    L49_0 K v1 v18 v19 v20 H := by
  unfold L49_0
  exact LoopV.mk s0 (fun s => [f20 s]) TH pre μ (fun _ => rfl) (Eq.mp (by kernel_rfl) h0) (fun s hs => Eq.mp (by kernel_rfl) (round s hs))
theorem L49_0_ruleG {K : AV → Heap → Prop} {v1 v18 v19 v20 : AV} {H : Heap} {σ : Type} (s0 : σ) (f20 : σ → AV) (TH : σ → Heap) (pre : σ → Prop) (μ : σ → Nat)
    (h0 : pre s0 ∧ AV.wk v20 (f20 s0) ∧ Heap.le (TH s0) H)
    (round : ∀ s, pre s → ∀ q, TH s q = none → B49_0 K (fun w20 H' => ∃ s', pre s' ∧ μ s' < μ s ∧ AV.wk w20 (f20 s') ∧ Heap.le (TH s') H') v1 v18 v19 (f20 s) ((TH s).set q [])) :
    L49_0 K v1 v18 v19 v20 H := by
  unfold L49_0
  exact LoopV.mkG s0 (fun s => [f20 s]) TH pre μ (fun _ => rfl) (Eq.mp (by kernel_rfl) h0) (fun s hs q hq => Eq.mp (by kernel_rfl) (round s hs q hq))
/-- loop.example/g00649/laws.toNode -/
def D50 : Info := ⟨11, fun i => ([], []), fun i => ([], [])⟩
def W50 (v0 : AV) (H : Heap) (K : AV → Heap → Prop) : Prop :=
 boxV v0 H fun v1 H1 =>
 allocV tab 78 H1 fun v2 H2 =>
 allocV tab 78 H2 fun v3 H3 =>
 fieldAddrV tab 80 v1 0 fun v4 =>
 loadV tab 3 v4 H3 fun v5 =>
 fieldAddrV tab 78 v3 0 fun v6 =>
 storeV tab 3 v6 v5 H3 fun H4 =>
 fieldAddrV tab 80 v1 1 fun v7 =>
 loadV tab 76 v7 H4 fun v8 =>
 fieldAddrV tab 78 v3 1 fun v9 =>
 storeV tab 76 v9 v8 H4 fun H5 =>
 loadV tab 78 v3 H5 fun v10 =>
 storeV tab 78 v2 v10 H5 fun H6 =>
 loadV tab 78 v2 H6 fun r0 =>
 K r0 H6
theorem W50_wp (v0 : AV) (H : Heap) (K : AV → Heap → Prop) : wpC Try.prog tab D50 (bodyOf Try.f50) (retF tab [.cell 2 78] K) (nthA [v0]) H = W50 v0 H K := by kernel_rfl
theorem W50_ok {v0 : AV} {H : Heap} {K : AV → Heap → Prop} (h : W50 v0 H K) : CallT Try.prog 50 [v0] H K :=
  CallT.of_wp (D := D50) tab_ok mixed Try.func50 (c := bodyOf Try.f50) (by kernel_rfl) rfl (by kernel_rfl) (rs := #[.cell 2 78]) rfl (by decide +kernel) (by kernel_rfl) (W50_wp v0 H K) h
theorem W50_hb : HasBody Try.prog 50 := ⟨_, bodyOf Try.f50, Try.func50, by kernel_rfl, rfl⟩
/-- loop.example/g00649/laws.toCommand -/
def D51 : Info := ⟨13, fun i => ([], []), fun i => ([], [])⟩
def W51 (v0 : AV) (H : Heap) (K : AV → Heap → Prop) : Prop :=
 boxV v0 H fun v1 H1 =>
 allocV tab 83 H1 fun v2 H2 =>
 allocV tab 83 H2 fun v3 H3 =>
 fieldAddrV tab 74 v1 0 fun v4 =>
 loadV tab 22 v4 H3 fun v5 =>
 CallT Try.prog 32 [v5] H3 fun v6 H4 =>
 fieldAddrV tab 83 v3 0 fun v7 =>
 storeV tab 32 v7 v6 H4 fun H5 =>
 fieldAddrV tab 74 v1 1 fun v8 =>
 loadV tab 72 v8 H5 fun v9 =>
 CallT Try.prog 60 [v9] H5 fun v10 H6 =>
 fieldAddrV tab 83 v3 1 fun v11 =>
 storeV tab 81 v11 v10 H6 fun H7 =>
 loadV tab 83 v3 H7 fun v12 =>
 storeV tab 83 v2 v12 H7 fun H8 =>
 loadV tab 83 v2 H8 fun r0 =>
 K r0 H8
theorem W51_wp (v0 : AV) (H : Heap) (K : AV → Heap → Prop) : wpC Try.prog tab D51 (bodyOf Try.f51) (retF tab [.cell 2 83] K) (nthA [v0]) H = W51 v0 H K := by kernel_rfl
theorem W51_ok {v0 : AV} {H : Heap} {K : AV → Heap → Prop} (h : W51 v0 H K) : CallT Try.prog 51 [v0] H K :=
  CallT.of_wp (D := D51) tab_ok mixed Try.func51 (c := bodyOf Try.f51) (by kernel_rfl) rfl (by kernel_rfl) (rs := #[.cell 2 83]) rfl (by decide +kernel) (by kernel_rfl) (W51_wp v0 H K) h
theorem W51_hb : HasBody Try.prog 51 := ⟨_, bodyOf Try.f51, Try.func51, by kernel_rfl, rfl⟩
/-- loop.example/g00649/impl.GoodProgram -/
def D52 : Info := ⟨37, fun i => ([], []), fun i => ([], [])⟩
def W52 (v0 : AV) (H : Heap) (K : AV → Heap → Prop) : Prop :=
 boxV v0 H fun v1 H1 =>
 fieldAddrV tab 35 v1 0 fun v3 =>
 loadV tab 3 v3 H1 fun v4 =>
 CallT Try.prog 61 [v4] H1 fun v5 H2 =>
 unV .not v5 fun v6 =>
 grdV v6 false (fieldAddrV tab 35 v1 1 fun v8 =>
 loadV tab 3 v8 H2 fun v9 =>
 CallT Try.prog 62 [v9] H2 fun v10 H3 =>
 unV .not v10 fun v11 =>
 grdV v11 false (loadV tab 35 v1 H3 fun v14 =>
 fieldAddrV tab 35 v1 2 fun v15 =>
 loadV tab 32 v15 H3 fun v16 =>
 CallT Try.prog 63 [v14, v16] H3 fun v17 H4 =>
 unV .not v17 fun v18 =>
 grdV v18 false (fieldAddrV tab 35 v1 3 fun v21 =>
 loadV tab 33 v21 H4 fun v22 =>
 lenV tab 33 v22 fun v23 =>
 binV tab .lss 3 v23 (AV.p (.int .i64 1)) fun v24 =>
 grdV v24 false (fieldAddrV tab 35 v1 3 fun v27 =>
 loadV tab 33 v27 H4 fun v28 =>
 lenV tab 33 v28 fun v29 =>
 binV tab .gtr 3 v29 (AV.p (.int .i64 6)) fun v30 =>
 condV v30 (K (AV.p (.bool false)) H4)
 (fieldAddrV tab 35 v1 3 fun v32 =>
 loadV tab 33 v32 H4 fun v33 =>
 CallT Try.prog 64 [v33, (.fn 65 [v1])] H4 fun v35 H5 =>
 unV .not v35 fun v36 =>
 K v36 H5))
 (K (AV.p (.bool false)) H4))
 (K (AV.p (.bool false)) H4))
 (K (AV.p (.bool false)) H3))
 (K (AV.p (.bool false)) H2)
theorem W52_wp (v0 : AV) (H : Heap) (K : AV → Heap → Prop) : wpC Try.prog tab D52 (bodyOf Try.f52) (retF tab [.tmp 2] K) (nthA [v0]) H = W52 v0 H K := by kernel_rfl
theorem W52_ok {v0 : AV} {H : Heap} {K : AV → Heap → Prop} (h : W52 v0 H K) : CallT Try.prog 52 [v0] H K :=
  CallT.of_wp (D := D52) tab_ok mixed Try.func52 (c := bodyOf Try.f52) (by kernel_rfl) rfl (by kernel_rfl) (rs := #[.tmp 2]) rfl (by decide +kernel) (by kernel_rfl) (W52_wp v0 H K) h
theorem W52_hb : HasBody Try.prog 52 := ⟨_, bodyOf Try.f52, Try.func52, by kernel_rfl, rfl⟩
/-- loop.example/g00649/laws.eqNode -/
def D53 : Info := ⟨15, fun i => ([], []), fun i => ([], [])⟩
def W53 (v0 : AV) (v1 : AV) (H : Heap) (K : AV → Heap → Prop) : Prop :=
 boxV v0 H fun v2 H1 =>
 boxV v1 H1 fun v3 H2 =>
 fieldAddrV tab 78 v2 0 fun v5 =>
 loadV tab 3 v5 H2 fun v6 =>
 fieldAddrV tab 78 v3 0 fun v7 =>
 loadV tab 3 v7 H2 fun v8 =>
 binV tab .neq 3 v6 v8 fun v9 =>
 condV v9 (K (AV.p (.bool false)) H2)
 (fieldAddrV tab 78 v2 1 fun v10 =>
 loadV tab 76 v10 H2 fun v11 =>
 fieldAddrV tab 78 v3 1 fun v12 =>
 loadV tab 76 v12 H2 fun v13 =>
 binV tab .neq 76 v11 v13 fun v14 =>
 condV v14 (K (AV.p (.bool false)) H2)
 (K (AV.p (.bool true)) H2))
theorem W53_wp (v0 : AV) (v1 : AV) (H : Heap) (K : AV → Heap → Prop) : wpC Try.prog tab D53 (bodyOf Try.f53) (retF tab [.tmp 4] K) (nthA [v0, v1]) H = W53 v0 v1 H K := by kernel_rfl
theorem W53_ok {v0 v1 : AV} {H : Heap} {K : AV → Heap → Prop} (h : W53 v0 v1 H K) : CallT Try.prog 53 [v0, v1] H K :=
  CallT.of_wp (D := D53) tab_ok mixed Try.func53 (c := bodyOf Try.f53) (by kernel_rfl) rfl (by kernel_rfl) (rs := #[.tmp 4]) rfl (by decide +kernel) (by kernel_rfl) (W53_wp v0 v1 H K) h
theorem W53_hb : HasBody Try.prog 53 := ⟨_, bodyOf Try.f53, Try.func53, by kernel_rfl, rfl⟩
/-- loop.example/g00649/laws.eqCommand -/
def D54 : Info := ⟨17, fun i => ([], []), fun i => ([], [])⟩
def W54 (v0 : AV) (v1 : AV) (H : Heap) (K : AV → Heap → Prop) : Prop :=
 boxV v0 H fun v2 H1 =>
 boxV v1 H1 fun v3 H2 =>
 fieldAddrV tab 83 v2 0 fun v5 =>
 loadV tab 32 v5 H2 fun v6 =>
 fieldAddrV tab 83 v3 0 fun v7 =>
 loadV tab 32 v7 H2 fun v8 =>
 CallT Try.prog 38 [v6, v8] H2 fun v9 H3 =>
 unV .not v9 fun v10 =>
 condV v10 (K (AV.p (.bool false)) H3)
 (fieldAddrV tab 83 v2 1 fun v11 =>
 loadV tab 81 v11 H3 fun v12 =>
 fieldAddrV tab 83 v3 1 fun v13 =>
 loadV tab 81 v13 H3 fun v14 =>
 CallT Try.prog 67 [v12, v14] H3 fun v15 H4 =>
 unV .not v15 fun v16 =>
 condV v16 (K (AV.p (.bool false)) H4)
 (K (AV.p (.bool true)) H4))
theorem W54_wp (v0 : AV) (v1 : AV) (H : Heap) (K : AV → Heap → Prop) : wpC Try.prog tab D54 (bodyOf Try.f54) (retF tab [.tmp 4] K) (nthA [v0, v1]) H = W54 v0 v1 H K := by kernel_rfl
theorem W54_ok {v0 v1 : AV} {H : Heap} {K : AV → Heap → Prop} (h : W54 v0 v1 H K) : CallT Try.prog 54 [v0, v1] H K :=
  CallT.of_wp (D := D54) tab_ok mixed Try.func54 (c := bodyOf Try.f54) (by kernel_rfl) rfl (by kernel_rfl) (rs := #[.tmp 4]) rfl (by decide +kernel) (by kernel_rfl) (W54_wp v0 v1 H K) h
theorem W54_hb : HasBody Try.prog 54 := ⟨_, bodyOf Try.f54, Try.func54, by kernel_rfl, rfl⟩
/-- slices.Max[[]int,int] -/
def D55 : Info := ⟨25, fun i => ([], []), fun i => if i = 5 then ([0], [3, 4]) else ([], [])⟩
def L55_0 (K : AV → Heap → Prop) (v0 : AV) (v3 : AV) (v4 : AV) (H : Heap) : Prop := LoopV (wpC Try.prog tab D55 (cAt [1, 1, 1, 0, 1, 0, 0] (bodyOf Try.f55))) [0] (PostF.block 0 (PostF.thenA (wpC Try.prog tab D55 (cAt [1, 1, 1, 1] (bodyOf Try.f55))) (retF tab [.tmp 2] K))) [3, 4] [v0, AV.any, AV.any, v3, v4, AV.any, AV.any, AV.any, AV.any, AV.any, AV.any, AV.any, AV.any, AV.any, AV.any, AV.any, AV.any, AV.any, AV.any, AV.any, AV.any, AV.any, AV.any, AV.any, AV.any] H
def B55_0 (K : AV → Heap → Prop) (N1 : AV → AV → Heap → Prop) (v0 : AV) (v3 : AV) (v4 : AV) (H : Heap) : Prop :=
 lenV tab 26 v0 fun v14 =>
 binV tab .lss 3 v4 v14 fun v15 =>
 condV v15 (indexAddrV tab 26 v0 v4 fun v21 =>
 loadV tab 3 v21 H fun v22 =>
 mmV .max v3 v22 fun v23 =>
 binV tab .add 3 v4 (AV.p (.int .i64 1)) fun v17 =>
 N1 v23 v17 H)
 (K v3 H)
def W55 (v0 : AV) (H : Heap) (K : AV → Heap → Prop) : Prop :=
 lenV tab 26 v0 fun v6 =>
 binV tab .lss 3 v6 (AV.p (.int .i64 1)) fun v7 =>
 condV v7 (False)
 (indexAddrV tab 26 v0 (AV.p (.int .i64 0)) fun v10 =>
 loadV tab 3 v10 H fun v11 =>
 L55_0 K v0 v11 (AV.p (.int .i64 1)) H)
theorem W55_wp (v0 : AV) (H : Heap) (K : AV → Heap → Prop) : wpC Try.prog tab D55 (bodyOf Try.f55) (retF tab [.tmp 2] K) (nthA [v0]) H = W55 v0 H K := by kernel_rfl
theorem W55_ok {v0 : AV} {H : Heap} {K : AV → Heap → Prop} (h : W55 v0 H K) : CallT Try.prog 55 [v0] H K :=
  CallT.of_wp (D := D55) tab_ok mixed Try.func55 (c := bodyOf Try.f55) (by kernel_rfl) rfl (by kernel_rfl) (rs := #[.tmp 2]) rfl (by decide +kernel) (by kernel_rfl) (W55_wp v0 H K) h
theorem W55_hb : HasBody Try.prog 55 := ⟨_, bodyOf Try.f55, Try.func55, by kernel_rfl, rfl⟩
theorem L55_0_rule {K : AV → Heap → Prop} {v0 v3 v4 : AV} {H : Heap} {σ : Type} (s0 : σ) (f3 : σ → AV) (f4 : σ → AV) (TH : σ → Heap) (pre : σ → Prop) (μ : σ → Nat)
    (h0 : pre s0 ∧ AV.wk v3 (f3 s0) ∧ AV.wk v4 (f4 s0) ∧ Heap.le (TH s0) H)
    (round : ∀ s, pre s → B55_0 K (fun w3 w4 H' => ∃ s', pre s' ∧ μ s' < μ s ∧ AV.wk w3 (f3 s') ∧ AV.wk w4 (f4 s') ∧ Heap.le (TH s') H') v0 (f3 s) (f4 s) (TH s)) :
    L55_0 K v0 v3 v4 H := by
  unfold L55_0
  exact LoopV.mk s0 (fun s => [f3 s, f4 s]) TH pre μ (fun _ => rfl) (Eq.mp (by kernel_rfl) h0) (fun s hs => Eq.mp (by kernel_rfl) (round s hs))
theorem L55_0_ruleG {K : AV → Heap → Prop} {v0 v3 v4 : AV} {H : Heap} {σ : Type} (s0 : σ) (f3 : σ → AV) (f4 : σ → AV) (TH : σ → Heap) (pre : σ → Prop) (μ : σ → Nat)
    (h0 : pre s0 ∧ AV.wk v3 (f3 s0) ∧ AV.wk v4 (f4 s0) ∧ Heap.le (TH s0) H)
    (round : ∀ s, pre s → ∀ q, TH s q = none → B55_0 K (fun w3 w4 H' => ∃ s', pre s' ∧ μ s' < μ s ∧ AV.wk w3 (f3 s') ∧ AV.wk w4 (f4 s') ∧ Heap.le (TH s') H') v0 (f3 s) (f4 s) ((TH s).set q [])) :
    L55_0 K v0 v3 v4 H := by
  unfold L55_0
  exact LoopV.mkG s0 (fun s => [f3 s, f4 s]) TH pre μ (fun _ => rfl) (Eq.mp (by kernel_rfl) h0) (fun s hs q hq => Eq.mp (by kernel_rfl) (round s hs q hq))
/-- loop.example/g00649/laws.szChangeS -/
def D57 : Info := ⟨27, fun i => ([], []), fun i => if i = 5 then ([0], [1, 5]) else ([], [])⟩
def L57_0 (K : AV → Heap → Prop) (v0 : AV) (v1 : AV) (v5 : AV) (H : Heap) : Prop := LoopV (wpC Try.prog tab D57 (cAt [1, 1, 1, 0, 1, 0, 0] (bodyOf Try.f57))) [0] (PostF.block 0 (PostF.thenA (wpC Try.prog tab D57 (cAt [1, 1, 1, 1] (bodyOf Try.f57))) (retF tab [.tmp 4] K))) [1, 5] [v0, v1, AV.any, AV.any, AV.any, v5, AV.any, AV.any, AV.any, AV.any, AV.any, AV.any, AV.any, AV.any, AV.any, AV.any, AV.any, AV.any, AV.any, AV.any, AV.any, AV.any, AV.any, AV.any, AV.any, AV.any, AV.any] H
def B57_0 (K : AV → Heap → Prop) (N1 : AV → AV → Heap → Prop) (v0 : AV) (v1 : AV) (v5 : AV) (H : Heap) : Prop :=
 lenV tab 72 v0 fun v14 =>
 binV tab .lss 3 v5 v14 fun v15 =>
 condV v15 (indexAddrV tab 72 v0 v5 fun v20 =>
 loadV tab 102 v20 H fun v21 =>
 CallT Try.prog 68 [v21, v1] H fun v23 H1 =>
 binV tab .lss 3 v23 (AV.p (.int .i64 0)) fun v25 =>
 condV v25 (K (AV.p (.int .i64 (-1))) H1)
 (binV tab .add 3 v5 (AV.p (.int .i64 1)) fun v17 =>
 N1 v23 v17 H1))
 (K v1 H)
def W57 (v0 : AV) (v1 : AV) (H : Heap) (K : AV → Heap → Prop) : Prop :=
 lenV tab 72 v0 fun v8 =>
 binV tab .sub 3 v1 v8 fun v9 =>
 binV tab .lss 3 v9 (AV.p (.int .i64 0)) fun v11 =>
 condV v11 (K (AV.p (.int .i64 (-1))) H)
 (L57_0 K v0 v9 (AV.p (.int .i64 0)) H)
theorem W57_wp (v0 : AV) (v1 : AV) (H : Heap) (K : AV → Heap → Prop) : wpC Try.prog tab D57 (bodyOf Try.f57) (retF tab [.tmp 4] K) (nthA [v0, v1]) H = W57 v0 v1 H K := by kernel_rfl
theorem W57_ok {v0 v1 : AV} {H : Heap} {K : AV → Heap → Prop} (h : W57 v0 v1 H K) : CallT Try.prog 57 [v0, v1] H K :=
  CallT.of_wp (D := D57) tab_ok mixed Try.func57 (c := bodyOf Try.f57) (by kernel_rfl) rfl (by kernel_rfl) (rs := #[.tmp 4]) rfl (by decide +kernel) (by kernel_rfl) (W57_wp v0 v1 H K) h
theorem W57_hb : HasBody Try.prog 57 := ⟨_, bodyOf Try.f57, Try.func57, by kernel_rfl, rfl⟩
theorem L57_0_rule {K : AV → Heap → Prop} {v0 v1 v5 : AV} {H : Heap} {σ : Type} (s0 : σ) (f1 : σ → AV) (f5 : σ → AV) (TH : σ → Heap) (pre : σ → Prop) (μ : σ → Nat)
    (h0 : pre s0 ∧ AV.wk v1 (f1 s0) ∧ AV.wk v5 (f5 s0) ∧ Heap.le (TH s0) H)
    (round : ∀ s, pre s → B57_0 K (fun w1 w5 H' => ∃ s', pre s' ∧ μ s' < μ s ∧ AV.wk w1 (f1 s') ∧ AV.wk w5 (f5 s') ∧ Heap.le (TH s') H') v0 (f1 s) (f5 s) (TH s)) :
    L57_0 K v0 v1 v5 H := by
  unfold L57_0
  exact LoopV.mk s0 (fun s => [f1 s, f5 s]) TH pre μ (fun _ => rfl) (Eq.mp (by kernel_rfl) h0) (fun s hs => Eq.mp (by kernel_rfl) (round s hs))
theorem L57_0_ruleG {K : AV → Heap → Prop} {v0 v1 v5 : AV} {H : Heap} {σ : Type} (s0 : σ) (f1 : σ → AV) (f5 : σ → AV) (TH : σ → Heap) (pre : σ → Prop) (μ : σ → Nat)
    (h0 : pre s0 ∧ AV.wk v1 (f1 s0) ∧ AV.wk v5 (f5 s0) ∧ Heap.le (TH s0) H)
    (round : ∀ s, pre s → ∀ q, TH s q = none → B57_0 K (fun w1 w5 H' => ∃ s', pre s' ∧ μ s' < μ s ∧ AV.wk w1 (f1 s') ∧ AV.wk w5 (f5 s') ∧ Heap.le (TH s') H') v0 (f1 s) (f5 s) ((TH s).set q [])) :
    L57_0 K v0 v1 v5 H := by
  unfold L57_0
  exact LoopV.mkG s0 (fun s => [f1 s, f5 s]) TH pre μ (fun _ => rfl) (Eq.mp (by kernel_rfl) h0) (fun s hs q hq => Eq.mp (by kernel_rfl) (round s hs q hq))
/-- loop.example/g00649/spec.l7Asks -/
def D58 : Info := ⟨12, fun i => ([], []), fun i => ([], [])⟩
def W58 (v0 : AV) (v1 : AV) (H : Heap) (K : AV → Heap → Prop) : Prop :=
 boxV v0 H fun v2 H1 =>
 fieldAddrV tab 35 v2 0 fun v5 =>
 loadV tab 3 v5 H1 fun v6 =>
 fieldAddrV tab 35 v2 1 fun v7 =>
 loadV tab 3 v7 H1 fun v8 =>
 CallT Try.prog 69 [v6, v8, v1] H1 fun v10 H2 =>
 binV tab .eql 3 v10 (AV.p (.int .i64 2)) fun v11 =>
 K v11 H2
theorem W58_wp (v0 : AV) (v1 : AV) (H : Heap) (K : AV → Heap → Prop) : wpC Try.prog tab D58 (bodyOf Try.f58) (retF tab [.tmp 4] K) (nthA [v0, v1]) H = W58 v0 v1 H K := by kernel_rfl
theorem W58_ok {v0 v1 : AV} {H : Heap} {K : AV → Heap → Prop} (h : W58 v0 v1 H K) : CallT Try.prog 58 [v0, v1] H K :=
  CallT.of_wp (D := D58) tab_ok mixed Try.func58 (c := bodyOf Try.f58) (by kernel_rfl) rfl (by kernel_rfl) (rs := #[.tmp 4]) rfl (by decide +kernel) (by kernel_rfl) (W58_wp v0 v1 H K) h
theorem W58_hb : HasBody Try.prog 58 := ⟨_, bodyOf Try.f58, Try.func58, by kernel_rfl, rfl⟩
/-- loop.example/g00649/spec.l7Command -/
def D59 : Info := ⟨62, fun i => if i = 6 then ([[], [0], [], [2], [2, 3], [0, 1, 2, 3, 4], [0, 1, 2, 3, 4, 5], [0, 1, 2, 3, 4, 5, 6], [0, 1, 2, 3, 4, 5, 6, 7], [0, 1, 2, 3, 4, 5, 6, 7, 8], [0, 1, 2, 3, 4, 5, 6, 7, 8, 9], [0, 1, 2, 3, 4, 5, 6, 7, 8, 9, 10], [0, 1, 2, 3, 4, 5, 6, 7, 8, 9, 10, 11], [0, 1, 2, 3, 4, 5, 6, 7, 8, 9, 10], [0, 1, 2, 3, 4, 5, 6, 7, 8, 9, 10, 13], [0, 1, 2, 3, 4, 5, 6, 7, 8, 9, 10, 11, 12, 13, 14], [0, 1, 2, 3, 4, 5, 6, 7, 8, 9, 10, 11, 12, 13, 14, 15], [0, 1, 2, 3, 4, 5, 6, 7, 8, 9, 10, 11, 12, 13, 14, 15, 16], [0, 1, 2, 3, 4, 5, 6, 7, 8, 9, 10], [0, 1, 2, 3, 4, 5, 6, 7, 8, 9, 10, 18], [0, 1, 2, 3, 4, 5, 6, 7, 8, 9, 10, 11, 12, 13, 14, 15, 16, 17, 18, 19], [0, 1, 2, 3, 4, 5, 6, 7, 8, 9, 10, 11, 12, 13, 14, 15, 16, 17, 18, 19, 20], [0, 1, 2, 3, 4, 5, 6, 7, 8, 9, 10, 11, 12, 13, 14, 15, 16, 17, 18, 19, 20, 21], [0, 1, 2, 3, 4, 5, 6, 7, 8, 9, 10, 11, 12, 13, 14, 15, 16, 17, 18, 19, 20, 21, 22], [0, 1, 2, 3, 4, 5, 6, 7, 8, 9, 10, 11, 12, 13, 14, 15, 16, 17, 18, 19, 20, 21, 22, 23], [0, 1, 2, 3, 4, 5, 6, 7, 8, 9, 10, 11, 12, 13, 14, 15, 16, 17, 18, 19, 20, 21, 22, 23, 24], [0, 1, 2, 3, 4, 5, 6, 7, 8, 9, 10, 11, 12, 13, 14, 15, 16, 17, 18, 19, 20, 21, 22, 23], [0, 1, 2, 3, 4, 5, 6, 7, 8, 9, 10, 11, 12, 13, 14, 15, 16, 17, 18, 19, 20, 21, 22, 23, 26], [0, 1, 2, 3, 4, 5, 6, 7, 8, 9, 10, 11, 12, 13, 14, 15, 16, 17, 18, 19, 20, 21, 22, 23], [0, 1, 2, 3, 4, 5, 6, 7, 8, 9, 10, 11, 12, 13, 14, 15, 16, 17, 18, 19, 20, 21, 22, 23, 28], [0, 1, 2, 3, 4, 5, 6, 7, 8, 9, 10, 11, 12, 13, 14, 15, 16, 17, 18, 19, 20, 21, 22, 23, 24, 25, 26, 27, 28, 29], [0, 1, 2, 3, 4, 5, 6, 7, 8, 9, 10, 11, 12, 13, 14, 15, 16, 17, 18, 19, 20, 21, 22, 23, 24, 25, 26, 27, 28, 29, 30], [0, 1, 2, 3, 4, 5, 6, 7, 8, 9, 10, 11, 12, 13, 14, 15, 16, 17, 18, 19, 20, 21, 22, 23, 24, 25, 26, 27, 28, 29, 30, 31]], [(0, []), (1, []), (2, []), (3, []), (4, []), (5, []), (6, []), (7, []), (8, []), (9, []), (10, []), (11, []), (12, []), (13, []), (14, []), (15, []), (16, []), (17, []), (18, []), (19, []), (20, []), (21, []), (22, []), (23, []), (24, []), (25, []), (26, []), (27, []), (28, []), (29, []), (30, []), (31, []), (32, [])]) else ([], []), fun i => if i = 4 then ([2, 3, 21, 22], [23]) else ([], [])⟩
def L59_0 (K : AV → Heap → Prop) (v2 : AV) (v3 : AV) (v21 : AV) (v22 : AV) (v23 : AV) (H : Heap) : Prop := LoopV (wpC Try.prog tab D59 (cAt [1, 1, 0, 1, 0, 0] (bodyOf Try.f59))) [2, 3, 21, 22] (PostF.block 0 (PostF.thenA (wpC Try.prog tab D59 (cAt [1, 1, 1] (bodyOf Try.f59))) (retF tab [.tmp 4] K))) [23] [AV.any, AV.any, v2, v3, AV.any, AV.any, AV.any, AV.any, AV.any, AV.any, AV.any, AV.any, AV.any, AV.any, AV.any, AV.any, AV.any, AV.any, AV.any, AV.any, AV.any, v21, v22, v23, AV.any, AV.any, AV.any, AV.any, AV.any, AV.any, AV.any, AV.any, AV.any, AV.any, AV.any, AV.any, AV.any, AV.any, AV.any, AV.any, AV.any, AV.any, AV.any, AV.any, AV.any, AV.any, AV.any, AV.any, AV.any, AV.any, AV.any, AV.any, AV.any, AV.any, AV.any, AV.any, AV.any, AV.any, AV.any, AV.any, AV.any, AV.any] H
def B59_0 (K : AV → Heap → Prop) (N1 : AV → Heap → Prop) (v2 : AV) (v3 : AV) (v21 : AV) (v22 : AV) (v23 : AV) (H : Heap) : Prop :=
 binV tab .lss 3 v23 v22 fun v24 =>
 condV v24 (indexAddrV tab 81 v21 v23 fun v26 =>
 loadV tab 99 v26 H fun v27 =>
 allocV tab 99 H fun v6 H4 =>
 storeV tab 99 v6 v27 H4 fun H5 =>
 fieldAddrV tab 99 v6 0 fun v28 =>
 loadV tab 3 v28 H5 fun v29 =>
 fieldAddrV tab 35 v2 1 fun v30 =>
 loadV tab 3 v30 H5 fun v31 =>
 binV tab .sub 3 v31 (AV.p (.int .i64 1)) fun v32 =>
 CallT Try.prog 31 [v29, (AV.p (.int .i64 0)), v32] H5 fun v33 H6 =>
 unV .not v33 fun v34 =>
 grdV v34 false (binV tab .gtr 3 v23 (AV.p (.int .i64 0)) fun v37 =>
 grdV v37 true (fieldAddrV tab 83 v3 1 fun v39 =>
 loadV tab 81 v39 H6 fun v40 =>
 binV tab .sub 3 v23 (AV.p (.int .i64 1)) fun v42 =>
 indexAddrV tab 81 v40 v42 fun v43 =>
 fieldAddrV tab 99 v43 0 fun v44 =>
 loadV tab 3 v44 H6 fun v45 =>
 fieldAddrV tab 99 v6 0 fun v46 =>
 loadV tab 3 v46 H6 fun v47 =>
 binV tab .geq 3 v45 v47 fun v48 =>
 grdV v48 false (fieldAddrV tab 35 v2 0 fun v52 =>
 loadV tab 3 v52 H6 fun v53 =>
 fieldAddrV tab 35 v2 1 fun v54 =>
 loadV tab 3 v54 H6 fun v55 =>
 fieldAddrV tab 99 v6 1 fun v56 =>
 loadV tab 32 v56 H6 fun v57 =>
 CallT Try.prog 69 [v53, v55, v57] H6 fun v58 H7 =>
 binV tab .neq 3 v58 (AV.p (.int .i64 1)) fun v59 =>
 condV v59 (K (AV.p (.bool false)) H7)
 (binV tab .add 3 v23 (AV.p (.int .i64 1)) fun v61 =>
 N1 v61 H7))
 (K (AV.p (.bool false)) H6))
 (fieldAddrV tab 35 v2 0 fun v52 =>
 loadV tab 3 v52 H6 fun v53 =>
 fieldAddrV tab 35 v2 1 fun v54 =>
 loadV tab 3 v54 H6 fun v55 =>
 fieldAddrV tab 99 v6 1 fun v56 =>
 loadV tab 32 v56 H6 fun v57 =>
 CallT Try.prog 69 [v53, v55, v57] H6 fun v58 H8 =>
 binV tab .neq 3 v58 (AV.p (.int .i64 1)) fun v59 =>
 condV v59 (K (AV.p (.bool false)) H8)
 (binV tab .add 3 v23 (AV.p (.int .i64 1)) fun v61 =>
 N1 v61 H8)))
 (K (AV.p (.bool false)) H6))
 (K (AV.p (.bool true)) H)
def W59 (v0 : AV) (v1 : AV) (H : Heap) (K : AV → Heap → Prop) : Prop :=
 boxV v0 H fun v2 H1 =>
 boxV v1 H1 fun v3 H2 =>
 loadV tab 35 v2 H2 fun v7 =>
 fieldAddrV tab 83 v3 0 fun v8 =>
 loadV tab 32 v8 H2 fun v9 =>
 CallT Try.prog 58 [v7, v9] H2 fun v10 H3 =>
 unV .not v10 fun v11 =>
 grdV v11 false (fieldAddrV tab 83 v3 1 fun v13 =>
 loadV tab 81 v13 H3 fun v14 =>
 lenV tab 81 v14 fun v15 =>
 fieldAddrV tab 35 v2 1 fun v16 =>
 loadV tab 3 v16 H3 fun v17 =>
 binV tab .gtr 3 v15 v17 fun v18 =>
 condV v18 (K (AV.p (.bool false)) H3)
 (fieldAddrV tab 83 v3 1 fun v20 =>
 loadV tab 81 v20 H3 fun v21 =>
 lenV tab 81 v21 fun v22 =>
 L59_0 K v2 v3 v21 v22 (AV.p (.int .i64 0)) H3))
 (K (AV.p (.bool false)) H3)
theorem W59_wp (v0 : AV) (v1 : AV) (H : Heap) (K : AV → Heap → Prop) : wpC Try.prog tab D59 (bodyOf Try.f59) (retF tab [.tmp 4] K) (nthA [v0, v1]) H = W59 v0 v1 H K := by kernel_rfl
theorem W59_ok {v0 v1 : AV} {H : Heap} {K : AV → Heap → Prop} (h : W59 v0 v1 H K) : CallT Try.prog 59 [v0, v1] H K :=
  CallT.of_wp (D := D59) tab_ok mixed Try.func59 (c := bodyOf Try.f59) (by kernel_rfl) rfl (by kernel_rfl) (rs := #[.tmp 4]) rfl (by decide +kernel) (by kernel_rfl) (W59_wp v0 v1 H K) h
theorem W59_hb : HasBody Try.prog 59 := ⟨_, bodyOf Try.f59, Try.func59, by kernel_rfl, rfl⟩
theorem L59_0_rule {K : AV → Heap → Prop} {v2 v3 v21 v22 v23 : AV} {H : Heap} {σ : Type} (s0 : σ) (f23 : σ → AV) (TH : σ → Heap) (pre : σ → Prop) (μ : σ → Nat)
    (h0 : pre s0 ∧ AV.wk v23 (f23 s0) ∧ Heap.le (TH s0) H)
    (round : ∀ s, pre s → B59_0 K (fun w23 H' => ∃ s', pre s' ∧ μ s' < μ s ∧ AV.wk w23 (f23 s') ∧ Heap.le (TH s') H') v2 v3 v21 v22 (f23 s) (TH s)) :
    L59_0 K v2 v3 v21 v22 v23 H := by
  unfold L59_0
  exact LoopV.mk s0 (fun s => [f23 s]) TH pre μ (fun _ => rfl) (Eq.mp (by kernel_rfl) h0) (fun s hs => Eq.mp (by kernel_rfl) (round s hs))
theorem L59_0_ruleG {K : AV → Heap → Prop} {v2 v3 v21 v22 v23 : AV} {H : Heap} {σ : Type} (s0 : σ) (f23 : σ → AV) (TH : σ → Heap) (pre : σ → Prop) (μ : σ → Nat)
    (h0 : pre s0 ∧ AV.wk v23 (f23 s0) ∧ Heap.le (TH s0) H)
    (round : ∀ s, pre s → ∀ q, TH s q = none → B59_0 K (fun w23 H' => ∃ s', pre s' ∧ μ s' < μ s ∧ AV.wk w23 (f23 s') ∧ Heap.le (TH s') H') v2 v3 v21 v22 (f23 s) ((TH s).set q [])) :
    L59_0 K v2 v3 v21 v22 v23 H := by
  unfold L59_0
  exact LoopV.mkG s0 (fun s => [f23 s]) TH pre μ (fun _ => rfl) (Eq.mp (by kernel_rfl) h0) (fun s hs q hq => Eq.mp (by kernel_rfl) (round s hs q hq))
/-- loop.example/g00649/laws.toChangeS -/
def D60 : Info := ⟨23, fun i => ([], []), fun i => if i = 3 then ([0, 3], [4]) else ([], [])⟩
def L60_0 (K : AV → Heap → Prop) (v0 : AV) (v3 : AV) (v4 : AV) (H : Heap) : Prop := LoopV (wpC Try.prog tab D60 (cAt [1, 1, 0, 1, 0, 0] (bodyOf Try.f60))) [0, 3] (PostF.block 0 (PostF.thenA (wpC Try.prog tab D60 (cAt [1, 1, 1] (bodyOf Try.f60))) (retF tab [.tmp 2] K))) [4] [v0, AV.any, AV.any, v3, v4, AV.any, AV.any, AV.any, AV.any, AV.any, AV.any, AV.any, AV.any, AV.any, AV.any, AV.any, AV.any, AV.any, AV.any, AV.any, AV.any, AV.any, AV.any] H
def B60_0 (K : AV → Heap → Prop) (N1 : AV → Heap → Prop) (v0 : AV) (v3 : AV) (v4 : AV) (H : Heap) : Prop :=
 lenV tab 72 v0 fun v10 =>
 binV tab .lss 3 v4 v10 fun v11 =>
 condV v11 (indexAddrV tab 72 v0 v4 fun v18 =>
 loadV tab 102 v18 H fun v19 =>
 CallT Try.prog 70 [v19] H fun v20 H2 =>
 indexAddrV tab 81 v3 v4 fun v21 =>
 storeV tab 99 v21 v20 H2 fun H3 =>
 binV tab .add 3 v4 (AV.p (.int .i64 1)) fun v13 =>
 N1 v13 H3)
 (K v3 H)
def W60 (v0 : AV) (H : Heap) (K : AV → Heap → Prop) : Prop :=
 lenV tab 72 v0 fun v6 =>
 makeSliceV tab 81 v6 v6 H fun v7 H1 =>
 L60_0 K v0 v7 (AV.p (.int .i64 0)) H1
theorem W60_wp (v0 : AV) (H : Heap) (K : AV → Heap → Prop) : wpC Try.prog tab D60 (bodyOf Try.f60) (retF tab [.tmp 2] K) (nthA [v0]) H = W60 v0 H K := by kernel_rfl
theorem W60_ok {v0 : AV} {H : Heap} {K : AV → Heap → Prop} (h : W60 v0 H K) : CallT Try.prog 60 [v0] H K :=
  CallT.of_wp (D := D60) tab_ok mixed Try.func60 (c := bodyOf Try.f60) (by kernel_rfl) rfl (by kernel_rfl) (rs := #[.tmp 2]) rfl (by decide +kernel) (by kernel_rfl) (W60_wp v0 H K) h
theorem W60_hb : HasBody Try.prog 60 := ⟨_, bodyOf Try.f60, Try.func60, by kernel_rfl, rfl⟩
theorem L60_0_rule {K : AV → Heap → Prop} {v0 v3 v4 : AV} {H : Heap} {σ : Type} (s0 : σ) (f4 : σ → AV) (TH : σ → Heap) (pre : σ → Prop) (μ : σ → Nat)
    (h0 : pre s0 ∧ AV.wk v4 (f4 s0) ∧ Heap.le (TH s0) H)
    (round : ∀ s, pre s → B60_0 K (fun w4 H' => ∃ s', pre s' ∧ μ s' < μ s ∧ AV.wk w4 (f4 s') ∧ Heap.le (TH s') H') v0 v3 (f4 s) (TH s)) :
    L60_0 K v0 v3 v4 H := by
  unfold L60_0
  exact LoopV.mk s0 (fun s => [f4 s]) TH pre μ (fun _ => rfl) (Eq.mp (by kernel_rfl) h0) (fun s hs => Eq.mp (by kernel_rfl) (round s hs))
theorem L60_0_ruleG {K : AV → Heap → Prop} {v0 v3 v4 : AV} {H : Heap} {σ : Type} (s0 : σ) (f4 : σ → AV) (TH : σ → Heap) (pre : σ → Prop) (μ : σ → Nat)
    (h0 : pre s0 ∧ AV.wk v4 (f4 s0) ∧ Heap.le (TH s0) H)
    (round : ∀ s, pre s → ∀ q, TH s q = none → B60_0 K (fun w4 H' => ∃ s', pre s' ∧ μ s' < μ s ∧ AV.wk w4 (f4 s') ∧ Heap.le (TH s') H') v0 v3 (f4 s) ((TH s).set q [])) :
    L60_0 K v0 v3 v4 H := by
  unfold L60_0
  exact LoopV.mkG s0 (fun s => [f4 s]) TH pre μ (fun _ => rfl) (Eq.mp (by kernel_rfl) h0) (fun s hs q hq => Eq.mp (by kernel_rfl) (round s hs q hq))
/-- loop.example/g00649/impl.isWide -/
def D61 : Info := ⟨9, fun i => ([], []), fun i => ([], [])⟩
def W61 (v0 : AV) (H : Heap) (K : AV → Heap → Prop) : Prop :=
 binV tab .geq 3 v0 (AV.p (.int .i64 1)) fun v4 =>
 grdV v4 true (binV tab .leq 3 v0 (AV.p (.int .i64 64)) fun v7 =>
 K v7 H)
 (K (AV.p (.bool false)) H)
theorem W61_wp (v0 : AV) (H : Heap) (K : AV → Heap → Prop) : wpC Try.prog tab D61 (bodyOf Try.f61) (retF tab [.tmp 2] K) (nthA [v0]) H = W61 v0 H K := by kernel_rfl
theorem W61_ok {v0 : AV} {H : Heap} {K : AV → Heap → Prop} (h : W61 v0 H K) : CallT Try.prog 61 [v0] H K :=
  CallT.of_wp (D := D61) tab_ok mixed Try.func61 (c := bodyOf Try.f61) (by kernel_rfl) rfl (by kernel_rfl) (rs := #[.tmp 2]) rfl (by decide +kernel) (by kernel_rfl) (W61_wp v0 H K) h
theorem W61_hb : HasBody Try.prog 61 := ⟨_, bodyOf Try.f61, Try.func61, by kernel_rfl, rfl⟩
/-- loop.example/g00649/impl.isVars -/
def D62 : Info := ⟨9, fun i => ([], []), fun i => ([], [])⟩
def W62 (v0 : AV) (H : Heap) (K : AV → Heap → Prop) : Prop :=
 binV tab .geq 3 v0 (AV.p (.int .i64 1)) fun v4 =>
 grdV v4 true (binV tab .leq 3 v0 (AV.p (.int .i64 4)) fun v7 =>
 K v7 H)
 (K (AV.p (.bool false)) H)
theorem W62_wp (v0 : AV) (H : Heap) (K : AV → Heap → Prop) : wpC Try.prog tab D62 (bodyOf Try.f62) (retF tab [.tmp 2] K) (nthA [v0]) H = W62 v0 H K := by kernel_rfl
theorem W62_ok {v0 : AV} {H : Heap} {K : AV → Heap → Prop} (h : W62 v0 H K) : CallT Try.prog 62 [v0] H K :=
  CallT.of_wp (D := D62) tab_ok mixed Try.func62 (c := bodyOf Try.f62) (by kernel_rfl) rfl (by kernel_rfl) (rs := #[.tmp 2]) rfl (by decide +kernel) (by kernel_rfl) (W62_wp v0 H K) h
theorem W62_hb : HasBody Try.prog 62 := ⟨_, bodyOf Try.f62, Try.func62, by kernel_rfl, rfl⟩
/-- (loop.example/g00649/impl.Program).isCondition -/
def D63 : Info := ⟨11, fun i => ([], []), fun i => ([], [])⟩
def W63 (v0 : AV) (v1 : AV) (H : Heap) (K : AV → Heap → Prop) : Prop :=
 boxV v0 H fun v2 H1 =>
 fieldAddrV tab 35 v2 0 fun v5 =>
 loadV tab 3 v5 H1 fun v6 =>
 fieldAddrV tab 35 v2 1 fun v7 =>
 loadV tab 3 v7 H1 fun v8 =>
 CallT Try.prog 71 [v6, v8, v1, (AV.p (.int .i64 2))] H1 fun v10 H2 =>
 K v10 H2
theorem W63_wp (v0 : AV) (v1 : AV) (H : Heap) (K : AV → Heap → Prop) : wpC Try.prog tab D63 (bodyOf Try.f63) (retF tab [.tmp 4] K) (nthA [v0, v1]) H = W63 v0 v1 H K := by kernel_rfl
theorem W63_ok {v0 v1 : AV} {H : Heap} {K : AV → Heap → Prop} (h : W63 v0 v1 H K) : CallT Try.prog 63 [v0, v1] H K :=
  CallT.of_wp (D := D63) tab_ok mixed Try.func63 (c := bodyOf Try.f63) (by kernel_rfl) rfl (by kernel_rfl) (rs := #[.tmp 4]) rfl (by decide +kernel) (by kernel_rfl) (W63_wp v0 v1 H K) h
theorem W63_hb : HasBody Try.prog 63 := ⟨_, bodyOf Try.f63, Try.func63, by kernel_rfl, rfl⟩
/-- slices.ContainsFunc[[]loop.example/g00649/impl.Command,loop.example/g00649/impl.Command] -/
def D64 : Info := ⟨9, fun i => ([], []), fun i => ([], [])⟩
def W64 (v0 : AV) (v1 : AV) (H : Heap) (K : AV → Heap → Prop) : Prop :=
 CallT Try.prog 72 [v0, v1] H fun v7 H1 =>
 binV tab .geq 3 v7 (AV.p (.int .i64 0)) fun v8 =>
 K v8 H1
theorem W64_wp (v0 : AV) (v1 : AV) (H : Heap) (K : AV → Heap → Prop) : wpC Try.prog tab D64 (bodyOf Try.f64) (retF tab [.tmp 4] K) (nthA [v0, v1]) H = W64 v0 v1 H K := by kernel_rfl
theorem W64_ok {v0 v1 : AV} {H : Heap} {K : AV → Heap → Prop} (h : W64 v0 v1 H K) : CallT Try.prog 64 [v0, v1] H K :=
  CallT.of_wp (D := D64) tab_ok mixed Try.func64 (c := bodyOf Try.f64) (by kernel_rfl) rfl (by kernel_rfl) (rs := #[.tmp 4]) rfl (by decide +kernel) (by kernel_rfl) (W64_wp v0 v1 H K) h
theorem W64_hb : HasBody Try.prog 64 := ⟨_, bodyOf Try.f64, Try.func64, by kernel_rfl, rfl⟩
/-- loop.example/g00649/impl.GoodProgram$1 -/
def D65 : Info := ⟨8, fun i => ([], []), fun i => ([], [])⟩
def W65 (v0 : AV) (v1 : AV) (H : Heap) (K : AV → Heap → Prop) : Prop :=
 boxV v0 H fun v2 H1 =>
 loadV tab 35 v1 H1 fun v4 =>
 loadV tab 83 v2 H1 fun v5 =>
 CallT Try.prog 66 [v4, v5] H1 fun v6 H2 =>
 unV .not v6 fun v7 =>
 K v7 H2
theorem W65_wp (v0 : AV) (v1 : AV) (H : Heap) (K : AV → Heap → Prop) : wpC Try.prog tab D65 (bodyOf Try.f65) (retF tab [.tmp 3] K) (nthA [v0, v1]) H = W65 v0 v1 H K := by kernel_rfl
theorem W65_ok {v0 v1 : AV} {H : Heap} {K : AV → Heap → Prop} (h : W65 v0 v1 H K) : CallT Try.prog 65 [v0, v1] H K :=
  CallT.of_wp (D := D65) tab_ok mixed Try.func65 (c := bodyOf Try.f65) (by kernel_rfl) rfl (by kernel_rfl) (rs := #[.tmp 3]) rfl (by decide +kernel) (by kernel_rfl) (W65_wp v0 v1 H K) h
theorem W65_hb : HasBody Try.prog 65 := ⟨_, bodyOf Try.f65, Try.func65, by kernel_rfl, rfl⟩
/-- (loop.example/g00649/impl.Program).isCommand -/
def D66 : Info := ⟨57, fun i => if i = 6 then ([[], [0], [0, 1], [0, 1, 2], [0, 1, 2, 3], [0, 1, 2, 3, 4], [0, 1, 2, 3], [0, 1, 2, 3, 6], [0, 1, 2, 3, 4, 5, 6, 7], [0, 1, 2, 3, 4, 5, 6, 7, 8], [0, 1, 2, 3, 4, 5, 6, 7, 8, 9], [0, 1, 2, 3, 4, 5, 6, 7, 8, 9, 10], [0, 1, 2, 3, 4, 5, 6, 7, 8, 9, 10, 11], [0, 1, 2, 3, 4, 5, 6, 7, 8, 9, 10, 11, 12], [0, 1, 2, 3, 4, 5, 6, 7, 8, 9, 10, 11, 12, 13], [0, 1, 2, 3, 4, 5, 6, 7, 8, 9, 10, 11, 12, 13, 14], [0, 1, 2, 3, 4, 5, 6, 7, 8, 9, 10, 11, 12, 13], [0, 1, 2, 3, 4, 5, 6, 7, 8, 9, 10, 11, 12, 13, 16], [0, 1, 2, 3, 4, 5, 6, 7, 8, 9, 10, 11, 12, 13, 14, 15, 16, 17], [0, 1, 2, 3, 4, 5, 6, 7, 8, 9, 10, 11, 12, 13, 14, 15, 16, 17, 18], [0, 1, 2, 3, 4, 5, 6, 7, 8, 9, 10, 11, 12, 13, 14, 15, 16, 17, 18, 19], [0, 1, 2, 3, 4, 5, 6, 7, 8, 9, 10, 11, 12, 13], [0, 1, 2, 3, 4, 5, 6, 7, 8, 9, 10, 11, 12, 13, 21], [0, 1, 2, 3, 4, 5, 6, 7, 8, 9, 10, 11, 12, 13, 14, 15, 16, 17, 18, 19, 20, 21, 22], [0, 1, 2, 3, 4, 5, 6, 7, 8, 9, 10, 11, 12, 13, 14, 15, 16, 17, 18, 19, 20, 21, 22, 23], [0, 1, 2, 3, 4, 5, 6, 7, 8, 9, 10, 11, 12, 13, 14, 15, 16, 17, 18, 19, 20, 21, 22, 23, 24], [0, 1, 2, 3, 4, 5, 6, 7, 8, 9, 10, 11, 12, 13, 14, 15, 16, 17, 18, 19, 20, 21, 22, 23, 24, 25], [0, 1, 2, 3, 4, 5, 6, 7, 8, 9, 10, 11, 12, 13, 14, 15, 16, 17, 18, 19, 20, 21, 22, 23, 24, 25, 26], [0, 1, 2, 3, 4, 5, 6, 7, 8, 9, 10, 11, 12, 13, 14, 15, 16, 17, 18, 19, 20, 21, 22, 23, 24, 25, 26, 27], [0, 1, 2, 3, 4, 5, 6, 7, 8, 9, 10, 11, 12, 13, 14, 15, 16, 17, 18, 19, 20, 21, 22, 23, 24, 25, 26], [0, 1, 2, 3, 4, 5, 6, 7, 8, 9, 10, 11, 12, 13, 14, 15, 16, 17, 18, 19, 20, 21, 22, 23, 24, 25, 26, 29], [0, 1, 2, 3, 4, 5, 6, 7, 8, 9, 10, 11, 12, 13, 14, 15, 16, 17, 18, 19, 20, 21, 22, 23, 24, 25, 26], [0, 1, 2, 3, 4, 5, 6, 7, 8, 9, 10, 11, 12, 13, 14, 15, 16, 17, 18, 19, 20, 21, 22, 23, 24, 25, 26, 31], [0, 1, 2, 3, 4, 5, 6, 7, 8, 9, 10, 11, 12, 13, 14, 15, 16, 17, 18, 19, 20, 21, 22, 23, 24, 25, 26, 27, 28, 29, 30, 31, 32], [0, 1, 2, 3, 4, 5, 6, 7, 8, 9, 10, 11, 12, 13, 14, 15, 16, 17, 18, 19, 20, 21, 22, 23, 24, 25, 26, 27, 28, 29, 30, 31, 32, 33], [0, 1, 2, 3, 4, 5, 6, 7, 8, 9, 10, 11, 12, 13, 14, 15, 16, 17, 18, 19, 20, 21, 22, 23, 24, 25, 26, 27, 28, 29, 30, 31, 32, 33, 34]], [(0, []), (1, []), (2, []), (3, []), (4, []), (5, []), (6, []), (7, []), (8, []), (9, []), (10, []), (11, []), (12, []), (13, []), (14, []), (15, []), (16, []), (17, []), (18, []), (19, []), (20, []), (21, []), (22, []), (23, []), (24, []), (25, []), (26, []), (27, []), (28, []), (29, []), (30, []), (31, []), (32, []), (33, []), (34, []), (35, [])]) else ([], []), fun i => if i = 4 then ([2, 3, 13, 14], [15]) else ([], [])⟩
def L66_0 (K : AV → Heap → Prop) (v2 : AV) (v3 : AV) (v13 : AV) (v14 : AV) (v15 : AV) (H : Heap) : Prop := LoopV (wpC Try.prog tab D66 (cAt [1, 1, 0, 1, 0, 0] (bodyOf Try.f66))) [2, 3, 13, 14] (PostF.block 0 (PostF.thenA (wpC Try.prog tab D66 (cAt [1, 1, 1] (bodyOf Try.f66))) (retF tab [.tmp 4] K))) [15] [AV.any, AV.any, v2, v3, AV.any, AV.any, AV.any, AV.any, AV.any, AV.any, AV.any, AV.any, AV.any, v13, v14, v15, AV.any, AV.any, AV.any, AV.any, AV.any, AV.any, AV.any, AV.any, AV.any, AV.any, AV.any, AV.any, AV.any, AV.any, AV.any, AV.any, AV.any, AV.any, AV.any, AV.any, AV.any, AV.any, AV.any, AV.any, AV.any, AV.any, AV.any, AV.any, AV.any, AV.any, AV.any, AV.any, AV.any, AV.any, AV.any, AV.any, AV.any, AV.any, AV.any, AV.any, AV.any] H
def B66_0 (K : AV → Heap → Prop) (N1 : AV → Heap → Prop) (v2 : AV) (v3 : AV) (v13 : AV) (v14 : AV) (v15 : AV) (H : Heap) : Prop :=
 binV tab .lss 3 v15 v14 fun v16 =>
 condV v16 (indexAddrV tab 81 v13 v15 fun v18 =>
 loadV tab 99 v18 H fun v19 =>
 allocV tab 99 H fun v6 H4 =>
 storeV tab 99 v6 v19 H4 fun H5 =>
 fieldAddrV tab 99 v6 0 fun v20 =>
 loadV tab 3 v20 H5 fun v21 =>
 binV tab .lss 3 v21 (AV.p (.int .i64 0)) fun v22 =>
 grdV v22 false (fieldAddrV tab 99 v6 0 fun v24 =>
 loadV tab 3 v24 H5 fun v25 =>
 fieldAddrV tab 35 v2 1 fun v26 =>
 loadV tab 3 v26 H5 fun v27 =>
 binV tab .geq 3 v25 v27 fun v28 =>
 grdV v28 false (binV tab .gtr 3 v15 (AV.p (.int .i64 0)) fun v32 =>
 grdV v32 true (fieldAddrV tab 83 v3 1 fun v34 =>
 loadV tab 81 v34 H5 fun v35 =>
 binV tab .sub 3 v15 (AV.p (.int .i64 1)) fun v37 =>
 indexAddrV tab 81 v35 v37 fun v38 =>
 fieldAddrV tab 99 v38 0 fun v39 =>
 loadV tab 3 v39 H5 fun v40 =>
 fieldAddrV tab 99 v6 0 fun v41 =>
 loadV tab 3 v41 H5 fun v42 =>
 binV tab .geq 3 v40 v42 fun v43 =>
 grdV v43 false (fieldAddrV tab 35 v2 0 fun v47 =>
 loadV tab 3 v47 H5 fun v48 =>
 fieldAddrV tab 35 v2 1 fun v49 =>
 loadV tab 3 v49 H5 fun v50 =>
 fieldAddrV tab 99 v6 1 fun v51 =>
 loadV tab 32 v51 H5 fun v52 =>
 CallT Try.prog 71 [v48, v50, v52, (AV.p (.int .i64 1))] H5 fun v53 H6 =>
 unV .not v53 fun v54 =>
 condV v54 (K (AV.p (.bool false)) H6)
 (binV tab .add 3 v15 (AV.p (.int .i64 1)) fun v56 =>
 N1 v56 H6))
 (K (AV.p (.bool false)) H5))
 (fieldAddrV tab 35 v2 0 fun v47 =>
 loadV tab 3 v47 H5 fun v48 =>
 fieldAddrV tab 35 v2 1 fun v49 =>
 loadV tab 3 v49 H5 fun v50 =>
 fieldAddrV tab 99 v6 1 fun v51 =>
 loadV tab 32 v51 H5 fun v52 =>
 CallT Try.prog 71 [v48, v50, v52, (AV.p (.int .i64 1))] H5 fun v53 H7 =>
 unV .not v53 fun v54 =>
 condV v54 (K (AV.p (.bool false)) H7)
 (binV tab .add 3 v15 (AV.p (.int .i64 1)) fun v56 =>
 N1 v56 H7)))
 (K (AV.p (.bool false)) H5))
 (K (AV.p (.bool false)) H5))
 (K (AV.p (.bool true)) H)
def W66 (v0 : AV) (v1 : AV) (H : Heap) (K : AV → Heap → Prop) : Prop :=
 boxV v0 H fun v2 H1 =>
 boxV v1 H1 fun v3 H2 =>
 loadV tab 35 v2 H2 fun v7 =>
 fieldAddrV tab 83 v3 0 fun v8 =>
 loadV tab 32 v8 H2 fun v9 =>
 CallT Try.prog 63 [v7, v9] H2 fun v10 H3 =>
 unV .not v10 fun v11 =>
 condV v11 (K (AV.p (.bool false)) H3)
 (fieldAddrV tab 83 v3 1 fun v12 =>
 loadV tab 81 v12 H3 fun v13 =>
 lenV tab 81 v13 fun v14 =>
 L66_0 K v2 v3 v13 v14 (AV.p (.int .i64 0)) H3)
theorem W66_wp (v0 : AV) (v1 : AV) (H : Heap) (K : AV → Heap → Prop) : wpC Try.prog tab D66 (bodyOf Try.f66) (retF tab [.tmp 4] K) (nthA [v0, v1]) H = W66 v0 v1 H K := by kernel_rfl
theorem W66_ok {v0 v1 : AV} {H : Heap} {K : AV → Heap → Prop} (h : W66 v0 v1 H K) : CallT Try.prog 66 [v0, v1] H K :=
  CallT.of_wp (D := D66) tab_ok mixed Try.func66 (c := bodyOf Try.f66) (by kernel_rfl) rfl (by kernel_rfl) (rs := #[.tmp 4]) rfl (by decide +kernel) (by kernel_rfl) (W66_wp v0 v1 H K) h
theorem W66_hb : HasBody Try.prog 66 := ⟨_, bodyOf Try.f66, Try.func66, by kernel_rfl, rfl⟩
theorem L66_0_rule {K : AV → Heap → Prop} {v2 v3 v13 v14 v15 : AV} {H : Heap} {σ : Type} (s0 : σ) (f15 : σ → AV) (TH : σ → Heap) (pre : σ → Prop) (μ : σ → Nat)
    (h0 : pre s0 ∧ AV.wk v15 (f15 s0) ∧ Heap.le (TH s0) H)
    (round : ∀ s, pre s → B66_0 K (fun w15 H' => ∃ s', pre s' ∧ μ s' < μ s ∧ AV.wk w15 (f15 s') ∧ Heap.le (TH s') H') v2 v3 v13 v14 (f15 s) (TH s)) :
    L66_0 K v2 v3 v13 v14 v15 H := by
  unfold L66_0
  exact LoopV.mk s0 (fun s => [f15 s]) TH pre μ (fun _ => rfl) (Eq.mp (by kernel_rfl) h0) (fun s hs => Eq.mp (by kernel_rfl) (round s hs))
theorem L66_0_ruleG {K : AV → Heap → Prop} {v2 v3 v13 v14 v15 : AV} {H : Heap} {σ : Type} (s0 : σ) (f15 : σ → AV) (TH : σ → Heap) (pre : σ → Prop) (μ : σ → Nat)
    (h0 : pre s0 ∧ AV.wk v15 (f15 s0) ∧ Heap.le (TH s0) H)
    (round : ∀ s, pre s → ∀ q, TH s q = none → B66_0 K (fun w15 H' => ∃ s', pre s' ∧ μ s' < μ s ∧ AV.wk w15 (f15 s') ∧ Heap.le (TH s') H') v2 v3 v13 v14 (f15 s) ((TH s).set q [])) :
    L66_0 K v2 v3 v13 v14 v15 H := by
  unfold L66_0
  exact LoopV.mkG s0 (fun s => [f15 s]) TH pre μ (fun _ => rfl) (Eq.mp (by kernel_rfl) h0) (fun s hs q hq => Eq.mp (by kernel_rfl) (round s hs q hq))
/-- loop.example/g00649/laws.eqChangeS -/
def D67 : Info := ⟨27, fun i => if i = 6 then ([[], [], [0, 1], [0, 1, 2], [], [], [4, 5], [4, 5, 6], [0, 1, 2, 3, 4, 5, 6, 7], [0, 1, 2, 3, 4, 5, 6, 7, 8]], [(0, []), (1, []), (2, []), (3, []), (4, []), (5, []), (6, []), (7, []), (8, []), (9, [])]) else ([], []), fun i => if i = 4 then ([0, 1], [5]) else ([], [])⟩
def L67_0 (K : AV → Heap → Prop) (v0 : AV) (v1 : AV) (v5 : AV) (H : Heap) : Prop := LoopV (wpC Try.prog tab D67 (cAt [1, 1, 0, 1, 0, 0] (bodyOf Try.f67))) [0, 1] (PostF.block 0 (PostF.thenA (wpC Try.prog tab D67 (cAt [1, 1, 1] (bodyOf Try.f67))) (retF tab [.tmp 4] K))) [5] [v0, v1, AV.any, AV.any, AV.any, v5, AV.any, AV.any, AV.any, AV.any, AV.any, AV.any, AV.any, AV.any, AV.any, AV.any, AV.any, AV.any, AV.any, AV.any, AV.any, AV.any, AV.any, AV.any, AV.any, AV.any, AV.any] H
def B67_0 (K : AV → Heap → Prop) (N1 : AV → Heap → Prop) (v0 : AV) (v1 : AV) (v5 : AV) (H : Heap) : Prop :=
 lenV tab 81 v0 fun v13 =>
 binV tab .lss 3 v5 v13 fun v14 =>
 condV v14 (indexAddrV tab 81 v0 v5 fun v19 =>
 loadV tab 99 v19 H fun v20 =>
 indexAddrV tab 81 v1 v5 fun v23 =>
 loadV tab 99 v23 H fun v24 =>
 CallT Try.prog 73 [v20, v24] H fun v25 H1 =>
 unV .not v25 fun v26 =>
 condV v26 (K (AV.p (.bool false)) H1)
 (binV tab .add 3 v5 (AV.p (.int .i64 1)) fun v16 =>
 N1 v16 H1))
 (K (AV.p (.bool true)) H)
def W67 (v0 : AV) (v1 : AV) (H : Heap) (K : AV → Heap → Prop) : Prop :=
 lenV tab 81 v0 fun v7 =>
 lenV tab 81 v1 fun v9 =>
 binV tab .neq 3 v7 v9 fun v10 =>
 condV v10 (K (AV.p (.bool false)) H)
 (L67_0 K v0 v1 (AV.p (.int .i64 0)) H)
theorem W67_wp (v0 : AV) (v1 : AV) (H : Heap) (K : AV → Heap → Prop) : wpC Try.prog tab D67 (bodyOf Try.f67) (retF tab [.tmp 4] K) (nthA [v0, v1]) H = W67 v0 v1 H K := by kernel_rfl
theorem W67_ok {v0 v1 : AV} {H : Heap} {K : AV → Heap → Prop} (h : W67 v0 v1 H K) : CallT Try.prog 67 [v0, v1] H K :=
  CallT.of_wp (D := D67) tab_ok mixed Try.func67 (c := bodyOf Try.f67) (by kernel_rfl) rfl (by kernel_rfl) (rs := #[.tmp 4]) rfl (by decide +kernel) (by kernel_rfl) (W67_wp v0 v1 H K) h
theorem W67_hb : HasBody Try.prog 67 := ⟨_, bodyOf Try.f67, Try.func67, by kernel_rfl, rfl⟩
theorem L67_0_rule {K : AV → Heap → Prop} {v0 v1 v5 : AV} {H : Heap} {σ : Type} (s0 : σ) (f5 : σ → AV) (TH : σ → Heap) (pre : σ → Prop) (μ : σ → Nat)
    (h0 : pre s0 ∧ AV.wk v5 (f5 s0) ∧ Heap.le (TH s0) H)
    (round : ∀ s, pre s → B67_0 K (fun w5 H' => ∃ s', pre s' ∧ μ s' < μ s ∧ AV.wk w5 (f5 s') ∧ Heap.le (TH s') H') v0 v1 (f5 s) (TH s)) :
    L67_0 K v0 v1 v5 H := by
  unfold L67_0
  exact LoopV.mk s0 (fun s => [f5 s]) TH pre μ (fun _ => rfl) (Eq.mp (by kernel_rfl) h0) (fun s hs => Eq.mp (by kernel_rfl) (round s hs))
theorem L67_0_ruleG {K : AV → Heap → Prop} {v0 v1 v5 : AV} {H : Heap} {σ : Type} (s0 : σ) (f5 : σ → AV) (TH : σ → Heap) (pre : σ → Prop) (μ : σ → Nat)
    (h0 : pre s0 ∧ AV.wk v5 (f5 s0) ∧ Heap.le (TH s0) H)
    (round : ∀ s, pre s → ∀ q, TH s q = none → B67_0 K (fun w5 H' => ∃ s', pre s' ∧ μ s' < μ s ∧ AV.wk w5 (f5 s') ∧ Heap.le (TH s') H') v0 v1 (f5 s) ((TH s).set q [])) :
    L67_0 K v0 v1 v5 H := by
  unfold L67_0
  exact LoopV.mkG s0 (fun s => [f5 s]) TH pre μ (fun _ => rfl) (Eq.mp (by kernel_rfl) h0) (fun s hs q hq => Eq.mp (by kernel_rfl) (round s hs q hq))
/-- loop.example/g00649/laws.szChange -/
def D68 : Info := ⟨12, fun i => ([], []), fun i => ([], [])⟩
def W68 (v0 : AV) (v1 : AV) (H : Heap) (K : AV → Heap → Prop) : Prop :=
 boxV v0 H fun v2 H1 =>
 fieldAddrV tab 102 v2 1 fun v5 =>
 loadV tab 22 v5 H1 fun v6 =>
 CallT Try.prog 26 [v6, v1] H1 fun v8 H2 =>
 binV tab .lss 3 v8 (AV.p (.int .i64 0)) fun v10 =>
 condV v10 (K (AV.p (.int .i64 (-1))) H2)
 (K v8 H2)
theorem W68_wp (v0 : AV) (v1 : AV) (H : Heap) (K : AV → Heap → Prop) : wpC Try.prog tab D68 (bodyOf Try.f68) (retF tab [.tmp 4] K) (nthA [v0, v1]) H = W68 v0 v1 H K := by kernel_rfl
theorem W68_ok {v0 v1 : AV} {H : Heap} {K : AV → Heap → Prop} (h : W68 v0 v1 H K) : CallT Try.prog 68 [v0, v1] H K :=
  CallT.of_wp (D := D68) tab_ok mixed Try.func68 (c := bodyOf Try.f68) (by kernel_rfl) rfl (by kernel_rfl) (rs := #[.tmp 4]) rfl (by decide +kernel) (by kernel_rfl) (W68_wp v0 v1 H K) h
theorem W68_hb : HasBody Try.prog 68 := ⟨_, bodyOf Try.f68, Try.func68, by kernel_rfl, rfl⟩
end Go.Proofs.Ythlbkcgnacemgaa
