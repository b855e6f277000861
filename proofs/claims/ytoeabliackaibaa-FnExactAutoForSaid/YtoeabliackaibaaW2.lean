/- What each function's code is asked for, as a formula. Written by wgen.py (a program of this session's) out of Lean's print of the program. -/
import Derived.KernelRfl
import Derived.Test.YtoeabliackaibaaTab
import Derived.Test.YtoeabliackaibaaSepC
namespace Go.Proofs.Ytoeabliackaibaa
open Go Go.Sep
set_option linter.unusedVariables false
attribute [local irreducible] wpC headF
/-- loop.example/g00649/spec.l10N -/
def D119 : Info := ⟨18, fun i => ([], []), fun i => ([], [])⟩
def W119 (v0 : AV) (H : Heap) (K : AV → Heap → Prop) : Prop :=
 boxV v0 H fun v1 H1 =>
 fieldAddrV tab 77 v1 0 fun v3 =>
 loadV tab 3 v3 H1 fun v4 =>
 binV tab .eql 3 v4 (AV.p (.int .i64 1)) fun v6 =>
 condV v6 (fieldAddrV tab 77 v1 1 fun v7 =>
 loadV tab 3 v7 H1 fun v8 =>
 CallT Try.prog 89 [v8, (AV.p (.int .i64 0)), (AV.p (.int .i64 2))] H1 fun v9 H2 =>
 K v9 H2)
 (binV tab .eql 3 v4 (AV.p (.int .i64 2)) fun v11 =>
 condV v11 (fieldAddrV tab 77 v1 1 fun v12 =>
 loadV tab 3 v12 H1 fun v13 =>
 CallT Try.prog 89 [v13, (AV.p (.int .i64 0)), (AV.p (.int .i64 1))] H1 fun v14 H3 =>
 K v14 H3)
 (fieldAddrV tab 77 v1 1 fun v15 =>
 loadV tab 3 v15 H1 fun v16 =>
 binV tab .eql 3 v16 (AV.p (.int .i64 0)) fun v17 =>
 K v17 H1))
theorem W119_wp (v0 : AV) (H : Heap) (K : AV → Heap → Prop) : wpC Try.prog tab D119 (bodyOf Try.f119) (retF tab [.tmp 2] K) (nthA [v0]) H = W119 v0 H K := by kernel_rfl
theorem W119_ok {v0 : AV} {H : Heap} {K : AV → Heap → Prop} (h : W119 v0 H K) : CallT Try.prog 119 [v0] H K :=
  CallT.of_wp (D := D119) tab_ok mixed Try.func119 (c := bodyOf Try.f119) (by kernel_rfl) rfl (by kernel_rfl) (rs := #[.tmp 2]) rfl (by decide +kernel) (by kernel_rfl) (W119_wp v0 H K) h
theorem W119_hb : HasBody Try.prog 119 := ⟨_, bodyOf Try.f119, Try.func119, by kernel_rfl, rfl⟩
/-- slices.Index[[]int,int] -/
def D123 : Info := ⟨19, fun i => ([], []), fun i => if i = 2 then ([0, 1, 7], [8]) else ([], [])⟩
def L123_0 (K : AV → Heap → Prop) (v0 : AV) (v1 : AV) (v7 : AV) (v8 : AV) (H : Heap) : Prop := LoopV (wpC Try.prog tab D123 (cAt [1, 0, 1, 0, 0] (bodyOf Try.f123))) [0, 1, 7] (PostF.block 0 (PostF.thenA (wpC Try.prog tab D123 (cAt [1, 1] (bodyOf Try.f123))) (retF tab [.tmp 4] K))) [8] [v0, v1, AV.any, AV.any, AV.any, AV.any, AV.any, v7, v8, AV.any, AV.any, AV.any, AV.any, AV.any, AV.any, AV.any, AV.any, AV.any, AV.any] H
def B123_0 (K : AV → Heap → Prop) (N1 : AV → Heap → Prop) (v0 : AV) (v1 : AV) (v7 : AV) (v8 : AV) (H : Heap) : Prop :=
 binV tab .lss 3 v8 v7 fun v9 =>
 condV v9 (indexAddrV tab 24 v0 v8 fun v14 =>
 loadV tab 3 v14 H fun v15 =>
 binV tab .eql 3 v1 v15 fun v16 =>
 condV v16 (K v8 H)
 (binV tab .add 3 v8 (AV.p (.int .i64 1)) fun v18 =>
 N1 v18 H))
 (K (AV.p (.int .i64 (-1))) H)
def W123 (v0 : AV) (v1 : AV) (H : Heap) (K : AV → Heap → Prop) : Prop :=
 lenV tab 24 v0 fun v7 =>
 L123_0 K v0 v1 v7 (AV.p (.int .i64 0)) H
theorem W123_wp (v0 : AV) (v1 : AV) (H : Heap) (K : AV → Heap → Prop) : wpC Try.prog tab D123 (bodyOf Try.f123) (retF tab [.tmp 4] K) (nthA [v0, v1]) H = W123 v0 v1 H K := by kernel_rfl
theorem W123_ok {v0 v1 : AV} {H : Heap} {K : AV → Heap → Prop} (h : W123 v0 v1 H K) : CallT Try.prog 123 [v0, v1] H K :=
  CallT.of_wp (D := D123) tab_ok mixed Try.func123 (c := bodyOf Try.f123) (by kernel_rfl) rfl (by kernel_rfl) (rs := #[.tmp 4]) rfl (by decide +kernel) (by kernel_rfl) (W123_wp v0 v1 H K) h
theorem W123_hb : HasBody Try.prog 123 := ⟨_, bodyOf Try.f123, Try.func123, by kernel_rfl, rfl⟩
theorem L123_0_rule {K : AV → Heap → Prop} {v0 v1 v7 v8 : AV} {H : Heap} {σ : Type} (s0 : σ) (f8 : σ → AV) (TH : σ → Heap) (pre : σ → Prop) (μ : σ → Nat)
    (h0 : pre s0 ∧ AV.wk v8 (f8 s0) ∧ Heap.le (TH s0) H)
    (round : ∀ s, pre s → B123_0 K (fun w8 H' => ∃ s', pre s' ∧ μ s' < μ s ∧ AV.wk w8 (f8 s') ∧ Heap.le (TH s') H') v0 v1 v7 (f8 s) (TH s)) :
    L123_0 K v0 v1 v7 v8 H := by
  unfold L123_0
  exact LoopV.mk s0 (fun s => [f8 s]) TH pre μ (fun _ => rfl) (Eq.mp (by kernel_rfl) h0) (fun s hs => Eq.mp (by kernel_rfl) (round s hs))
theorem L123_0_ruleG {K : AV → Heap → Prop} {v0 v1 v7 v8 : AV} {H : Heap} {σ : Type} (s0 : σ) (f8 : σ → AV) (TH : σ → Heap) (pre : σ → Prop) (μ : σ → Nat)
    (h0 : pre s0 ∧ AV.wk v8 (f8 s0) ∧ Heap.le (TH s0) H)
    (round : ∀ s, pre s → ∀ q, TH s q = none → B123_0 K (fun w8 H' => ∃ s', pre s' ∧ μ s' < μ s ∧ AV.wk w8 (f8 s') ∧ Heap.le (TH s') H') v0 v1 v7 (f8 s) ((TH s).set q [])) :
    L123_0 K v0 v1 v7 v8 H := by
  unfold L123_0
  exact LoopV.mkG s0 (fun s => [f8 s]) TH pre μ (fun _ => rfl) (Eq.mp (by kernel_rfl) h0) (fun s hs q hq => Eq.mp (by kernel_rfl) (round s hs q hq))
/-- cmp.isNaN[int] -/
def D165 : Info := ⟨6, fun i => ([], []), fun i => ([], [])⟩
def W165 (v0 : AV) (H : Heap) (K : AV → Heap → Prop) : Prop :=
 binV tab .neq 3 v0 v0 fun v5 =>
 K v5 H
theorem W165_wp (v0 : AV) (H : Heap) (K : AV → Heap → Prop) : wpC Try.prog tab D165 (bodyOf Try.f165) (retF tab [.tmp 2] K) (nthA [v0]) H = W165 v0 H K := by kernel_rfl
theorem W165_ok {v0 : AV} {H : Heap} {K : AV → Heap → Prop} (h : W165 v0 H K) : CallT Try.prog 165 [v0] H K :=
  CallT.of_wp (D := D165) tab_ok mixed Try.func165 (c := bodyOf Try.f165) (by kernel_rfl) rfl (by kernel_rfl) (rs := #[.tmp 2]) rfl (by decide +kernel) (by kernel_rfl) (W165_wp v0 H K) h
theorem W165_hb : HasBody Try.prog 165 := ⟨_, bodyOf Try.f165, Try.func165, by kernel_rfl, rfl⟩
end Go.Proofs.Ytoeabliackaibaa
