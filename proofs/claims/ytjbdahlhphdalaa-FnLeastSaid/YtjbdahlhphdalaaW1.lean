/- What each function's code is asked for, as a formula. Written by wgen.py (a program of this session's) out of Lean's print of the program. -/
import Derived.KernelRfl
import Derived.Test.YtjbdahlhphdalaaTab
import Derived.Test.YtjbdahlhphdalaaSep27
namespace Go.Proofs.Ytjbdahlhphdalaa
open Go Go.Sep
set_option linter.unusedVariables false
attribute [local irreducible] wpC headF
/-- loop.example/g00649/spec.l1Own -/
def D73 : Info := ⟨6, fun i => ([], []), fun i => ([], [])⟩
def W73 (v0 : AV) (H : Heap) (K : AV → Heap → Prop) : Prop :=
 buildSliceV tab 24 0 [] H (wkK fun v3 H1 =>
 appendV tab 24 24 v3 v0 H1 (wkK fun v5 H2 =>
 K v5 H2))
theorem W73_wp (v0 : AV) (H : Heap) (K : AV → Heap → Prop) : wpC Try.prog tab D73 (bodyOf Try.f73) (retF tab [.tmp 2] K) (nthA [v0]) H = W73 v0 H K := by kernel_rfl
theorem W73_ok {v0 : AV} {H : Heap} {K : AV → Heap → Prop} (h : W73 v0 H K) : CallT Try.prog 73 [v0] H K :=
  CallT.of_wp (D := D73) tab_ok mixed Try.func73 (c := bodyOf Try.f73) (by kernel_rfl) rfl (by kernel_rfl) (rs := #[.tmp 2]) rfl (by decide +kernel) (by kernel_rfl) (W73_wp v0 H K) h
theorem W73_hb : HasBody Try.prog 73 := ⟨_, bodyOf Try.f73, Try.func73, by kernel_rfl, rfl⟩
/-- loop.example/g00649/impl.areLetters -/
def D74 : Info := ⟨6, fun i => ([], []), fun i => ([], [])⟩
def W74 (v0 : AV) (H : Heap) (K : AV → Heap → Prop) : Prop :=
 CallT Try.prog 137 [v0, (.fn 138 [])] H fun v4 H1 =>
 unV .not v4 fun v5 =>
 K v5 H1
theorem W74_wp (v0 : AV) (H : Heap) (K : AV → Heap → Prop) : wpC Try.prog tab D74 (bodyOf Try.f74) (retF tab [.tmp 2] K) (nthA [v0]) H = W74 v0 H K := by kernel_rfl
theorem W74_ok {v0 : AV} {H : Heap} {K : AV → Heap → Prop} (h : W74 v0 H K) : CallT Try.prog 74 [v0] H K :=
  CallT.of_wp (D := D74) tab_ok mixed Try.func74 (c := bodyOf Try.f74) (by kernel_rfl) rfl (by kernel_rfl) (rs := #[.tmp 2]) rfl (by decide +kernel) (by kernel_rfl) (W74_wp v0 H K) h
theorem W74_hb : HasBody Try.prog 74 := ⟨_, bodyOf Try.f74, Try.func74, by kernel_rfl, rfl⟩
/-- loop.example/g00649/spec.l1In -/
def D75 : Info := ⟨15, fun i => ([], []), fun i => ([], [])⟩
def W75 (v0 : AV) (v1 : AV) (v2 : AV) (H : Heap) (K : AV → Heap → Prop) : Prop :=
 binV tab .geq 3 v0 v1 fun v9 =>
 grdV v9 true (binV tab .leq 3 v0 v2 fun v13 =>
 K v13 H)
 (K (AV.p (.bool false)) H)
theorem W75_wp (v0 : AV) (v1 : AV) (v2 : AV) (H : Heap) (K : AV → Heap → Prop) : wpC Try.prog tab D75 (bodyOf Try.f75) (retF tab [.tmp 6] K) (nthA [v0, v1, v2]) H = W75 v0 v1 v2 H K := by kernel_rfl
theorem W75_ok {v0 v1 v2 : AV} {H : Heap} {K : AV → Heap → Prop} (h : W75 v0 v1 v2 H K) : CallT Try.prog 75 [v0, v1, v2] H K :=
  CallT.of_wp (D := D75) tab_ok mixed Try.func75 (c := bodyOf Try.f75) (by kernel_rfl) rfl (by kernel_rfl) (rs := #[.tmp 6]) rfl (by decide +kernel) (by kernel_rfl) (W75_wp v0 v1 v2 H K) h
theorem W75_hb : HasBody Try.prog 75 := ⟨_, bodyOf Try.f75, Try.func75, by kernel_rfl, rfl⟩
/-- loop.example/g00649/spec.l1All -/
def D76 : Info := ⟨21, fun i => ([], []), fun i => if i = 2 then ([1, 2, 9, 10], [11]) else ([], [])⟩
def L76_0 (K : AV → Heap → Prop) (v1 : AV) (v2 : AV) (v9 : AV) (v10 : AV) (v11 : AV) (H : Heap) : Prop := LoopV (wpC Try.prog tab D76 (cAt [1, 0, 1, 0, 0] (bodyOf Try.f76))) [1, 2, 9, 10] (PostF.block 0 (PostF.thenA (wpC Try.prog tab D76 (cAt [1, 1] (bodyOf Try.f76))) (retF tab [.tmp 6] K))) [11] [AV.any, v1, v2, AV.any, AV.any, AV.any, AV.any, AV.any, AV.any, v9, v10, v11, AV.any, AV.any, AV.any, AV.any, AV.any, AV.any, AV.any, AV.any, AV.any] H
def B76_0 (K : AV → Heap → Prop) (N1 : AV → Heap → Prop) (v1 : AV) (v2 : AV) (v9 : AV) (v10 : AV) (v11 : AV) (H : Heap) : Prop :=
 binV tab .lss 3 v11 v10 fun v12 =>
 condV v12 (indexAddrV tab 24 v9 v11 fun v13 =>
 loadV tab 3 v13 H fun v14 =>
 CallT Try.prog 75 [v14, v1, v2] H fun v18 H1 =>
 unV .not v18 fun v19 =>
 condV v19 (K (AV.p (.bool false)) H1)
 (binV tab .add 3 v11 (AV.p (.int .i64 1)) fun v20 =>
 N1 v20 H1))
 (K (AV.p (.bool true)) H)
def W76 (v0 : AV) (v1 : AV) (v2 : AV) (H : Heap) (K : AV → Heap → Prop) : Prop :=
 lenV tab 24 v0 fun v10 =>
 L76_0 K v1 v2 v0 v10 (AV.p (.int .i64 0)) H
theorem W76_wp (v0 : AV) (v1 : AV) (v2 : AV) (H : Heap) (K : AV → Heap → Prop) : wpC Try.prog tab D76 (bodyOf Try.f76) (retF tab [.tmp 6] K) (nthA [v0, v1, v2]) H = W76 v0 v1 v2 H K := by kernel_rfl
theorem W76_ok {v0 v1 v2 : AV} {H : Heap} {K : AV → Heap → Prop} (h : W76 v0 v1 v2 H K) : CallT Try.prog 76 [v0, v1, v2] H K :=
  CallT.of_wp (D := D76) tab_ok mixed Try.func76 (c := bodyOf Try.f76) (by kernel_rfl) rfl (by kernel_rfl) (rs := #[.tmp 6]) rfl (by decide +kernel) (by kernel_rfl) (W76_wp v0 v1 v2 H K) h
theorem W76_hb : HasBody Try.prog 76 := ⟨_, bodyOf Try.f76, Try.func76, by kernel_rfl, rfl⟩
theorem L76_0_rule {K : AV → Heap → Prop} {v1 v2 v9 v10 v11 : AV} {H : Heap} {σ : Type} (s0 : σ) (f11 : σ → AV) (TH : σ → Heap) (pre : σ → Prop) (μ : σ → Nat)
    (h0 : pre s0 ∧ AV.wk v11 (f11 s0) ∧ Heap.le (TH s0) H)
    (round : ∀ s, pre s → B76_0 K (fun w11 H' => ∃ s', pre s' ∧ μ s' < μ s ∧ AV.wk w11 (f11 s') ∧ Heap.le (TH s') H') v1 v2 v9 v10 (f11 s) (TH s)) :
    L76_0 K v1 v2 v9 v10 v11 H := by
  unfold L76_0
  exact LoopV.mk s0 (fun s => [f11 s]) TH pre μ (fun _ => rfl) (Eq.mp (by kernel_rfl) h0) (fun s hs => Eq.mp (by kernel_rfl) (round s hs))
theorem L76_0_ruleG {K : AV → Heap → Prop} {v1 v2 v9 v10 v11 : AV} {H : Heap} {σ : Type} (s0 : σ) (f11 : σ → AV) (TH : σ → Heap) (pre : σ → Prop) (μ : σ → Nat)
    (h0 : pre s0 ∧ AV.wk v11 (f11 s0) ∧ Heap.le (TH s0) H)
    (round : ∀ s, pre s → ∀ q, TH s q = none → B76_0 K (fun w11 H' => ∃ s', pre s' ∧ μ s' < μ s ∧ AV.wk w11 (f11 s') ∧ Heap.le (TH s') H') v1 v2 v9 v10 (f11 s) ((TH s).set q [])) :
    L76_0 K v1 v2 v9 v10 v11 H := by
  unfold L76_0
  exact LoopV.mkG s0 (fun s => [f11 s]) TH pre μ (fun _ => rfl) (Eq.mp (by kernel_rfl) h0) (fun s hs q hq => Eq.mp (by kernel_rfl) (round s hs q hq))
/-- loop.example/g00649/spec.l9At -/
def D92 : Info := ⟨28, fun i => if i = 3 then ([[], [0], [], [], [3], [3, 4], [2, 3, 4, 5], [], [7], [7, 8], [2, 3, 4, 5, 6, 7, 8, 9], [0, 1, 2, 3, 4, 5, 6, 7, 8, 9, 10], [0, 1, 2, 3, 4, 5, 6, 7, 8, 9, 10, 11], [0, 1, 2, 3, 4, 5, 6, 7, 8, 9, 10, 11, 12]], [(0, []), (1, []), (2, []), (3, []), (4, []), (5, []), (6, []), (7, []), (8, []), (9, []), (10, []), (11, []), (12, []), (13, [])]) else ([], []), fun i => ([], [])⟩
def W92 (v0 : AV) (v1 : AV) (H : Heap) (K : AV → Heap → Prop) : Prop :=
 boxV v0 H fun v2 H1 =>
 fieldAddrV tab 26 v2 0 fun v6 =>
 loadV tab 24 v6 H1 fun v7 =>
 lenV tab 24 v7 fun v8 =>
 binV tab .lss 3 v1 v8 fun v9 =>
 condV v9 (fieldAddrV tab 26 v2 0 fun v10 =>
 loadV tab 24 v10 H1 fun v11 =>
 indexAddrV tab 24 v11 v1 fun v13 =>
 loadV tab 3 v13 H1 fun v14 =>
 K v14 H1)
 (fieldAddrV tab 26 v2 1 fun v15 =>
 loadV tab 24 v15 H1 fun v16 =>
 fieldAddrV tab 26 v2 0 fun v18 =>
 loadV tab 24 v18 H1 fun v19 =>
 lenV tab 24 v19 fun v20 =>
 binV tab .sub 3 v1 v20 fun v21 =>
 fieldAddrV tab 26 v2 1 fun v22 =>
 loadV tab 24 v22 H1 fun v23 =>
 lenV tab 24 v23 fun v24 =>
 binV tab .rem 3 v21 v24 fun v25 =>
 indexAddrV tab 24 v16 v25 fun v26 =>
 loadV tab 3 v26 H1 fun v27 =>
 K v27 H1)
theorem W92_wp (v0 : AV) (v1 : AV) (H : Heap) (K : AV → Heap → Prop) : wpC Try.prog tab D92 (bodyOf Try.f92) (retF tab [.tmp 4] K) (nthA [v0, v1]) H = W92 v0 v1 H K := by kernel_rfl
theorem W92_ok {v0 v1 : AV} {H : Heap} {K : AV → Heap → Prop} (h : W92 v0 v1 H K) : CallT Try.prog 92 [v0, v1] H K :=
  CallT.of_wp (D := D92) tab_ok mixed Try.func92 (c := bodyOf Try.f92) (by kernel_rfl) rfl (by kernel_rfl) (rs := #[.tmp 4]) rfl (by decide +kernel) (by kernel_rfl) (W92_wp v0 v1 H K) h
theorem W92_hb : HasBody Try.prog 92 := ⟨_, bodyOf Try.f92, Try.func92, by kernel_rfl, rfl⟩
/-- loop.example/g00649/spec.l9Made -/
def D93 : Info := ⟨9, fun i => ([], []), fun i => ([], [])⟩
def W93 (v0 : AV) (H : Heap) (K : AV → Heap → Prop) : Prop :=
 boxV v0 H fun v1 H1 =>
 allocV tab 26 H1 fun v2 H2 =>
 loadV tab 26 v1 H2 fun v4 =>
 CallT Try.prog 17 [v4] H2 fun v5 H3 =>
 unV .not v5 fun v6 =>
 condV v6 (buildV tab 26 [] fun v7 =>
 storeV tab 26 v2 v7 H3 fun H4 =>
 loadV tab 26 v2 H4 fun r0 =>
 K (.tup [r0, (AV.p (.bool false))]) H4)
 (loadV tab 26 v1 H3 fun v8 =>
 storeV tab 26 v2 v8 H3 fun H5 =>
 loadV tab 26 v2 H5 fun r0 =>
 K (.tup [r0, (AV.p (.bool true))]) H5)
theorem W93_wp (v0 : AV) (H : Heap) (K : AV → Heap → Prop) : wpC Try.prog tab D93 (bodyOf Try.f93) (retF tab [.cell 2 26, .tmp 3] K) (nthA [v0]) H = W93 v0 H K := by kernel_rfl
theorem W93_ok {v0 : AV} {H : Heap} {K : AV → Heap → Prop} (h : W93 v0 H K) : CallT Try.prog 93 [v0] H K :=
  CallT.of_wp (D := D93) tab_ok mixed Try.func93 (c := bodyOf Try.f93) (by kernel_rfl) rfl (by kernel_rfl) (rs := #[.cell 2 26, .tmp 3]) rfl (by decide +kernel) (by kernel_rfl) (W93_wp v0 H K) h
theorem W93_hb : HasBody Try.prog 93 := ⟨_, bodyOf Try.f93, Try.func93, by kernel_rfl, rfl⟩
/-- (loop.example/g00649/impl.Lasso).letterAt -/
def D95 : Info := ⟨28, fun i => if i = 3 then ([[], [0], [], [], [3], [3, 4], [2, 3, 4, 5], [], [7], [7, 8], [2, 3, 4, 5, 6, 7, 8, 9], [0, 1, 2, 3, 4, 5, 6, 7, 8, 9, 10], [0, 1, 2, 3, 4, 5, 6, 7, 8, 9, 10, 11], [0, 1, 2, 3, 4, 5, 6, 7, 8, 9, 10, 11, 12]], [(0, []), (1, []), (2, []), (3, []), (4, []), (5, []), (6, []), (7, []), (8, []), (9, []), (10, []), (11, []), (12, []), (13, [])]) else ([], []), fun i => ([], [])⟩
def W95 (v0 : AV) (v1 : AV) (H : Heap) (K : AV → Heap → Prop) : Prop :=
 boxV v0 H fun v2 H1 =>
 fieldAddrV tab 26 v2 0 fun v6 =>
 loadV tab 24 v6 H1 fun v7 =>
 lenV tab 24 v7 fun v8 =>
 binV tab .lss 3 v1 v8 fun v9 =>
 condV v9 (fieldAddrV tab 26 v2 0 fun v10 =>
 loadV tab 24 v10 H1 fun v11 =>
 indexAddrV tab 24 v11 v1 fun v13 =>
 loadV tab 3 v13 H1 fun v14 =>
 K v14 H1)
 (fieldAddrV tab 26 v2 1 fun v15 =>
 loadV tab 24 v15 H1 fun v16 =>
 fieldAddrV tab 26 v2 0 fun v18 =>
 loadV tab 24 v18 H1 fun v19 =>
 lenV tab 24 v19 fun v20 =>
 binV tab .sub 3 v1 v20 fun v21 =>
 fieldAddrV tab 26 v2 1 fun v22 =>
 loadV tab 24 v22 H1 fun v23 =>
 lenV tab 24 v23 fun v24 =>
 binV tab .rem 3 v21 v24 fun v25 =>
 indexAddrV tab 24 v16 v25 fun v26 =>
 loadV tab 3 v26 H1 fun v27 =>
 K v27 H1)
theorem W95_wp (v0 : AV) (v1 : AV) (H : Heap) (K : AV → Heap → Prop) : wpC Try.prog tab D95 (bodyOf Try.f95) (retF tab [.tmp 4] K) (nthA [v0, v1]) H = W95 v0 v1 H K := by kernel_rfl
theorem W95_ok {v0 v1 : AV} {H : Heap} {K : AV → Heap → Prop} (h : W95 v0 v1 H K) : CallT Try.prog 95 [v0, v1] H K :=
  CallT.of_wp (D := D95) tab_ok mixed Try.func95 (c := bodyOf Try.f95) (by kernel_rfl) rfl (by kernel_rfl) (rs := #[.tmp 4]) rfl (by decide +kernel) (by kernel_rfl) (W95_wp v0 v1 H K) h
theorem W95_hb : HasBody Try.prog 95 := ⟨_, bodyOf Try.f95, Try.func95, by kernel_rfl, rfl⟩
/-- (*loop.example/g00649/spec.l1Cur).among -/
def D108 : Info := ⟨12, fun i => ([], []), fun i => ([], [])⟩
def W108 (v0 : AV) (v1 : AV) (H : Heap) (K : AV → Heap → Prop) : Prop :=
 lenV tab 24 v1 fun v8 =>
 CallT Try.prog 67 [v0, v8] H fun v9 H1 =>
 indexAddrV tab 24 v1 v9 fun v10 =>
 loadV tab 3 v10 H1 fun v11 =>
 K v11 H1
theorem W108_wp (v0 : AV) (v1 : AV) (H : Heap) (K : AV → Heap → Prop) : wpC Try.prog tab D108 (bodyOf Try.f108) (retF tab [.tmp 4] K) (nthA [v0, v1]) H = W108 v0 v1 H K := by kernel_rfl
theorem W108_ok {v0 v1 : AV} {H : Heap} {K : AV → Heap → Prop} (h : W108 v0 v1 H K) : CallT Try.prog 108 [v0, v1] H K :=
  CallT.of_wp (D := D108) tab_ok mixed Try.func108 (c := bodyOf Try.f108) (by kernel_rfl) rfl (by kernel_rfl) (rs := #[.tmp 4]) rfl (by decide +kernel) (by kernel_rfl) (W108_wp v0 v1 H K) h
theorem W108_hb : HasBody Try.prog 108 := ⟨_, bodyOf Try.f108, Try.func108, by kernel_rfl, rfl⟩
/-- (*loop.example/g00649/spec.l1Cur).letters -/
def D133 : Info := ⟨16, fun i => ([], []), fun i => if i = 2 then ([0], [1, 5]) else ([], [])⟩
def L133_0 (K : AV → Heap → Prop) (v0 : AV) (v1 : AV) (v5 : AV) (H : Heap) : Prop := LoopV (wpC Try.prog tab D133 (cAt [1, 1, 0, 0, 0] (bodyOf Try.f133))) [0] (PostF.block 0 (PostF.thenA (wpC Try.prog tab D133 (cAt [1, 1, 1] (bodyOf Try.f133))) (retF tab [.tmp 4] K))) [1, 5] [v0, v1, AV.any, AV.any, AV.any, v5, AV.any, AV.any, AV.any, AV.any, AV.any, AV.any, AV.any, AV.any, AV.any, AV.any] H
def B133_0 (K : AV → Heap → Prop) (N1 : AV → AV → Heap → Prop) (v0 : AV) (v1 : AV) (v5 : AV) (H : Heap) : Prop :=
 binV tab .gtr 3 v1 (AV.p (.int .i64 0)) fun v7 =>
 condV v7 (CallT Try.prog 67 [v0, (AV.p (.int .i64 8))] H fun v12 H1 =>
 buildSliceV tab 24 1 [(0, v12)] H1 (wkK fun v13 H2 =>
 appendV tab 24 24 v5 v13 H2 (wkK fun v14 H3 =>
 binV tab .sub 3 v1 (AV.p (.int .i64 1)) fun v9 =>
 N1 v9 v14 H3)))
 (K v5 H)
def W133 (v0 : AV) (v1 : AV) (H : Heap) (K : AV → Heap → Prop) : Prop :=
 L133_0 K v0 v1 (AV.p .nil) H
theorem W133_wp (v0 : AV) (v1 : AV) (H : Heap) (K : AV → Heap → Prop) : wpC Try.prog tab D133 (bodyOf Try.f133) (retF tab [.tmp 4] K) (nthA [v0, v1]) H = W133 v0 v1 H K := by kernel_rfl
theorem W133_ok {v0 v1 : AV} {H : Heap} {K : AV → Heap → Prop} (h : W133 v0 v1 H K) : CallT Try.prog 133 [v0, v1] H K :=
  CallT.of_wp (D := D133) tab_ok mixed Try.func133 (c := bodyOf Try.f133) (by kernel_rfl) rfl (by kernel_rfl) (rs := #[.tmp 4]) rfl (by decide +kernel) (by kernel_rfl) (W133_wp v0 v1 H K) h
theorem W133_hb : HasBody Try.prog 133 := ⟨_, bodyOf Try.f133, Try.func133, by kernel_rfl, rfl⟩
theorem L133_0_rule {K : AV → Heap → Prop} {v0 v1 v5 : AV} {H : Heap} {σ : Type} (s0 : σ) (f1 : σ → AV) (f5 : σ → AV) (TH : σ → Heap) (pre : σ → Prop) (μ : σ → Nat)
    (h0 : pre s0 ∧ AV.wk v1 (f1 s0) ∧ AV.wk v5 (f5 s0) ∧ Heap.le (TH s0) H)
    (round : ∀ s, pre s → B133_0 K (fun w1 w5 H' => ∃ s', pre s' ∧ μ s' < μ s ∧ AV.wk w1 (f1 s') ∧ AV.wk w5 (f5 s') ∧ Heap.le (TH s') H') v0 (f1 s) (f5 s) (TH s)) :
    L133_0 K v0 v1 v5 H := by
  unfold L133_0
  exact LoopV.mk s0 (fun s => [f1 s, f5 s]) TH pre μ (fun _ => rfl) (Eq.mp (by kernel_rfl) h0) (fun s hs => Eq.mp (by kernel_rfl) (round s hs))
theorem L133_0_ruleG {K : AV → Heap → Prop} {v0 v1 v5 : AV} {H : Heap} {σ : Type} (s0 : σ) (f1 : σ → AV) (f5 : σ → AV) (TH : σ → Heap) (pre : σ → Prop) (μ : σ → Nat)
    (h0 : pre s0 ∧ AV.wk v1 (f1 s0) ∧ AV.wk v5 (f5 s0) ∧ Heap.le (TH s0) H)
    (round : ∀ s, pre s → ∀ q, TH s q = none → B133_0 K (fun w1 w5 H' => ∃ s', pre s' ∧ μ s' < μ s ∧ AV.wk w1 (f1 s') ∧ AV.wk w5 (f5 s') ∧ Heap.le (TH s') H') v0 (f1 s) (f5 s) ((TH s).set q [])) :
    L133_0 K v0 v1 v5 H := by
  unfold L133_0
  exact LoopV.mkG s0 (fun s => [f1 s, f5 s]) TH pre μ (fun _ => rfl) (Eq.mp (by kernel_rfl) h0) (fun s hs q hq => Eq.mp (by kernel_rfl) (round s hs q hq))
/-- (*loop.example/g00649/spec.l1Cur).one -/
def D134 : Info := ⟨9, fun i => ([], []), fun i => ([], [])⟩
def W134 (v0 : AV) (v1 : AV) (H : Heap) (K : AV → Heap → Prop) : Prop :=
 CallT Try.prog 67 [v0, v1] H fun v7 H1 =>
 binV tab .eql 3 v7 (AV.p (.int .i64 0)) fun v8 =>
 K v8 H1
theorem W134_wp (v0 : AV) (v1 : AV) (H : Heap) (K : AV → Heap → Prop) : wpC Try.prog tab D134 (bodyOf Try.f134) (retF tab [.tmp 4] K) (nthA [v0, v1]) H = W134 v0 v1 H K := by kernel_rfl
theorem W134_ok {v0 v1 : AV} {H : Heap} {K : AV → Heap → Prop} (h : W134 v0 v1 H K) : CallT Try.prog 134 [v0, v1] H K :=
  CallT.of_wp (D := D134) tab_ok mixed Try.func134 (c := bodyOf Try.f134) (by kernel_rfl) rfl (by kernel_rfl) (rs := #[.tmp 4]) rfl (by decide +kernel) (by kernel_rfl) (W134_wp v0 v1 H K) h
theorem W134_hb : HasBody Try.prog 134 := ⟨_, bodyOf Try.f134, Try.func134, by kernel_rfl, rfl⟩
/-- (*loop.example/g00649/spec.l1Cur).next -/
def D135 : Info := ⟨62, fun i => if i = 2 then ([[], [0], [0, 1], [0, 1, 2], [], [4], [4, 5], [4, 5, 6], [4, 5, 6, 7], [0, 1, 2, 3, 4, 5, 6, 7, 8]], [(0, []), (1, []), (2, []), (3, []), (4, []), (5, []), (6, []), (7, []), (8, []), (9, [])]) else if i = 3 then ([[], [0], [0, 1], [0, 1, 2], [], [4], [4, 5], [4, 5, 6], [0, 1, 2, 3, 4, 5, 6, 7], [0, 1, 2, 3, 4, 5, 6, 7, 8], [0, 1, 2, 3, 4, 5, 6, 7, 8, 9], [0, 1, 2, 3, 4, 5, 6, 7, 8, 9, 10]], [(0, []), (1, []), (2, []), (3, []), (4, []), (5, []), (6, []), (7, []), (8, []), (9, []), (10, []), (11, [])]) else if i = 6 then ([[], [0], [0, 1], [0, 1, 2], [], [4], [4, 5], [4, 5, 6], [4, 5, 6, 7], [0, 1, 2, 3, 4, 5, 6, 7, 8]], [(0, []), (1, []), (2, []), (3, []), (4, []), (5, []), (6, []), (7, []), (8, []), (9, [])]) else ([], []), fun i => ([], [])⟩
def J135_0 (K : AV → Heap → Prop) (v0 : AV) (v3 : AV) (H : Heap) : Prop :=
 nilCheckV v0 fun v26 =>
 fieldAddrV tab 92 v26 1 fun v27 =>
 loadV tab 3 v27 H fun v28 =>
 binV tab .add 3 v28 (AV.p (.int .i64 1)) fun v29 =>
 nilCheckV v0 fun v30 =>
 fieldAddrV tab 92 v30 1 fun v31 =>
 storeV tab 3 v31 v29 H fun H1 =>
 nilCheckV v0 fun v34 =>
 fieldAddrV tab 92 v34 2 fun v35 =>
 loadV tab 90 v35 H1 fun v36 =>
 binV tab .mul 90 v36 (AV.p (.int .u64 6364136223846793005)) fun v37 =>
 convV tab 3 90 v3 fun v39 =>
 binV tab .add 90 v37 v39 fun v40 =>
 binV tab .add 90 v40 (AV.p (.int .u64 1442695040888963407)) fun v41 =>
 nilCheckV v0 fun v42 =>
 fieldAddrV tab 92 v42 2 fun v43 =>
 storeV tab 90 v43 v41 H1 fun H2 =>
 nilCheckV v0 fun v45 =>
 fieldAddrV tab 92 v45 1 fun v46 =>
 loadV tab 3 v46 H2 fun v47 =>
 nilCheckV v0 fun v49 =>
 fieldAddrV tab 92 v49 0 fun v50 =>
 loadV tab 22 v50 H2 fun v51 =>
 lenV tab 22 v51 fun v52 =>
 binV tab .leq 3 v47 v52 fun v53 =>
 condV v53 (K v3 H2)
 (nilCheckV v0 fun v56 =>
 fieldAddrV tab 92 v56 2 fun v57 =>
 loadV tab 90 v57 H2 fun v58 =>
 binV tab .shr 90 v58 (AV.p (.int .u64 40)) fun v59 =>
 binV tab .and 90 v59 (AV.p (.int .u64 255)) fun v60 =>
 convV tab 90 3 v60 fun v61 =>
 K v61 H2)
def W135 (v0 : AV) (H : Heap) (K : AV → Heap → Prop) : Prop :=
 nilCheckV v0 fun v5 =>
 fieldAddrV tab 92 v5 1 fun v6 =>
 loadV tab 3 v6 H fun v7 =>
 nilCheckV v0 fun v9 =>
 fieldAddrV tab 92 v9 0 fun v10 =>
 loadV tab 22 v10 H fun v11 =>
 lenV tab 22 v11 fun v12 =>
 binV tab .lss 3 v7 v12 fun v13 =>
 condV v13 (nilCheckV v0 fun v15 =>
 fieldAddrV tab 92 v15 0 fun v16 =>
 loadV tab 22 v16 H fun v17 =>
 nilCheckV v0 fun v19 =>
 fieldAddrV tab 92 v19 1 fun v20 =>
 loadV tab 3 v20 H fun v21 =>
 indexAddrV tab 22 v17 v21 fun v22 =>
 loadV tab 5 v22 H fun v23 =>
 convV tab 5 3 v23 fun v24 =>
 J135_0 K v0 v24 H)
 (J135_0 K v0 (AV.p (.int .i64 0)) H)
theorem W135_wp (v0 : AV) (H : Heap) (K : AV → Heap → Prop) : wpC Try.prog tab D135 (bodyOf Try.f135) (retF tab [.tmp 2] K) (nthA [v0]) H = W135 v0 H K := by kernel_rfl
theorem W135_ok {v0 : AV} {H : Heap} {K : AV → Heap → Prop} (h : W135 v0 H K) : CallT Try.prog 135 [v0] H K :=
  CallT.of_wp (D := D135) tab_ok mixed Try.func135 (c := bodyOf Try.f135) (by kernel_rfl) rfl (by kernel_rfl) (rs := #[.tmp 2]) rfl (by decide +kernel) (by kernel_rfl) (W135_wp v0 H K) h
theorem W135_hb : HasBody Try.prog 135 := ⟨_, bodyOf Try.f135, Try.func135, by kernel_rfl, rfl⟩
/-- loop.example/g00649/spec.l1Same -/
def D136 : Info := ⟨26, fun i => if i = 6 then ([[], [], [0, 1], [0, 1, 2], [], [], [4, 5], [4, 5, 6], [0, 1, 2, 3, 4, 5, 6, 7]], [(0, []), (1, []), (2, []), (3, []), (4, []), (5, []), (6, []), (7, []), (8, [])]) else ([], []), fun i => if i = 4 then ([0, 1, 12], [13]) else ([], [])⟩
def L136_0 (K : AV → Heap → Prop) (v0 : AV) (v1 : AV) (v12 : AV) (v13 : AV) (H : Heap) : Prop := LoopV (wpC Try.prog tab D136 (cAt [1, 1, 0, 1, 0, 0] (bodyOf Try.f136))) [0, 1, 12] (PostF.block 0 (PostF.thenA (wpC Try.prog tab D136 (cAt [1, 1, 1] (bodyOf Try.f136))) (retF tab [.tmp 4] K))) [13] [v0, v1, AV.any, AV.any, AV.any, AV.any, AV.any, AV.any, AV.any, AV.any, AV.any, AV.any, v12, v13, AV.any, AV.any, AV.any, AV.any, AV.any, AV.any, AV.any, AV.any, AV.any, AV.any, AV.any, AV.any] H
def B136_0 (K : AV → Heap → Prop) (N1 : AV → Heap → Prop) (v0 : AV) (v1 : AV) (v12 : AV) (v13 : AV) (H : Heap) : Prop :=
 binV tab .lss 3 v13 v12 fun v14 =>
 condV v14 (indexAddrV tab 24 v0 v13 fun v18 =>
 loadV tab 3 v18 H fun v19 =>
 indexAddrV tab 24 v1 v13 fun v22 =>
 loadV tab 3 v22 H fun v23 =>
 binV tab .neq 3 v19 v23 fun v24 =>
 condV v24 (K (AV.p (.bool false)) H)
 (binV tab .add 3 v13 (AV.p (.int .i64 1)) fun v25 =>
 N1 v25 H))
 (K (AV.p (.bool true)) H)
def W136 (v0 : AV) (v1 : AV) (H : Heap) (K : AV → Heap → Prop) : Prop :=
 lenV tab 24 v0 fun v7 =>
 lenV tab 24 v1 fun v9 =>
 binV tab .neq 3 v7 v9 fun v10 =>
 condV v10 (K (AV.p (.bool false)) H)
 (lenV tab 24 v0 fun v12 =>
 L136_0 K v0 v1 v12 (AV.p (.int .i64 0)) H)
theorem W136_wp (v0 : AV) (v1 : AV) (H : Heap) (K : AV → Heap → Prop) : wpC Try.prog tab D136 (bodyOf Try.f136) (retF tab [.tmp 4] K) (nthA [v0, v1]) H = W136 v0 v1 H K := by kernel_rfl
theorem W136_ok {v0 v1 : AV} {H : Heap} {K : AV → Heap → Prop} (h : W136 v0 v1 H K) : CallT Try.prog 136 [v0, v1] H K :=
  CallT.of_wp (D := D136) tab_ok mixed Try.func136 (c := bodyOf Try.f136) (by kernel_rfl) rfl (by kernel_rfl) (rs := #[.tmp 4]) rfl (by decide +kernel) (by kernel_rfl) (W136_wp v0 v1 H K) h
theorem W136_hb : HasBody Try.prog 136 := ⟨_, bodyOf Try.f136, Try.func136, by kernel_rfl, rfl⟩
theorem L136_0_rule {K : AV → Heap → Prop} {v0 v1 v12 v13 : AV} {H : Heap} {σ : Type} (s0 : σ) (f13 : σ → AV) (TH : σ → Heap) (pre : σ → Prop) (μ : σ → Nat)
    (h0 : pre s0 ∧ AV.wk v13 (f13 s0) ∧ Heap.le (TH s0) H)
    (round : ∀ s, pre s → B136_0 K (fun w13 H' => ∃ s', pre s' ∧ μ s' < μ s ∧ AV.wk w13 (f13 s') ∧ Heap.le (TH s') H') v0 v1 v12 (f13 s) (TH s)) :
    L136_0 K v0 v1 v12 v13 H := by
  unfold L136_0
  exact LoopV.mk s0 (fun s => [f13 s]) TH pre μ (fun _ => rfl) (Eq.mp (by kernel_rfl) h0) (fun s hs => Eq.mp (by kernel_rfl) (round s hs))
theorem L136_0_ruleG {K : AV → Heap → Prop} {v0 v1 v12 v13 : AV} {H : Heap} {σ : Type} (s0 : σ) (f13 : σ → AV) (TH : σ → Heap) (pre : σ → Prop) (μ : σ → Nat)
    (h0 : pre s0 ∧ AV.wk v13 (f13 s0) ∧ Heap.le (TH s0) H)
    (round : ∀ s, pre s → ∀ q, TH s q = none → B136_0 K (fun w13 H' => ∃ s', pre s' ∧ μ s' < μ s ∧ AV.wk w13 (f13 s') ∧ Heap.le (TH s') H') v0 v1 v12 (f13 s) ((TH s).set q [])) :
    L136_0 K v0 v1 v12 v13 H := by
  unfold L136_0
  exact LoopV.mkG s0 (fun s => [f13 s]) TH pre μ (fun _ => rfl) (Eq.mp (by kernel_rfl) h0) (fun s hs q hq => Eq.mp (by kernel_rfl) (round s hs q hq))
/-- slices.ContainsFunc[[]int,int] -/
def D137 : Info := ⟨9, fun i => ([], []), fun i => ([], [])⟩
def W137 (v0 : AV) (v1 : AV) (H : Heap) (K : AV → Heap → Prop) : Prop :=
 CallT Try.prog 172 [v0, v1] H fun v7 H1 =>
 binV tab .geq 3 v7 (AV.p (.int .i64 0)) fun v8 =>
 K v8 H1
theorem W137_wp (v0 : AV) (v1 : AV) (H : Heap) (K : AV → Heap → Prop) : wpC Try.prog tab D137 (bodyOf Try.f137) (retF tab [.tmp 4] K) (nthA [v0, v1]) H = W137 v0 v1 H K := by kernel_rfl
theorem W137_ok {v0 v1 : AV} {H : Heap} {K : AV → Heap → Prop} (h : W137 v0 v1 H K) : CallT Try.prog 137 [v0, v1] H K :=
  CallT.of_wp (D := D137) tab_ok mixed Try.func137 (c := bodyOf Try.f137) (by kernel_rfl) rfl (by kernel_rfl) (rs := #[.tmp 4]) rfl (by decide +kernel) (by kernel_rfl) (W137_wp v0 v1 H K) h
theorem W137_hb : HasBody Try.prog 137 := ⟨_, bodyOf Try.f137, Try.func137, by kernel_rfl, rfl⟩
/-- loop.example/g00649/impl.areLetters$1 -/
def D138 : Info := ⟨9, fun i => ([], []), fun i => ([], [])⟩
def W138 (v0 : AV) (H : Heap) (K : AV → Heap → Prop) : Prop :=
 binV tab .lss 3 v0 (AV.p (.int .i64 0)) fun v4 =>
 grdV v4 false (binV tab .geq 3 v0 (AV.p (.int .i64 8)) fun v7 =>
 K v7 H)
 (K (AV.p (.bool true)) H)
theorem W138_wp (v0 : AV) (H : Heap) (K : AV → Heap → Prop) : wpC Try.prog tab D138 (bodyOf Try.f138) (retF tab [.tmp 2] K) (nthA [v0]) H = W138 v0 H K := by kernel_rfl
theorem W138_ok {v0 : AV} {H : Heap} {K : AV → Heap → Prop} (h : W138 v0 H K) : CallT Try.prog 138 [v0] H K :=
  CallT.of_wp (D := D138) tab_ok mixed Try.func138 (c := bodyOf Try.f138) (by kernel_rfl) rfl (by kernel_rfl) (rs := #[.tmp 2]) rfl (by decide +kernel) (by kernel_rfl) (W138_wp v0 H K) h
theorem W138_hb : HasBody Try.prog 138 := ⟨_, bodyOf Try.f138, Try.func138, by kernel_rfl, rfl⟩
/-- slices.IndexFunc[[]int,int] -/
def D172 : Info := ⟨19, fun i => ([], []), fun i => if i = 2 then ([0, 1, 7], [8]) else ([], [])⟩
def L172_0 (K : AV → Heap → Prop) (v0 : AV) (v1 : AV) (v7 : AV) (v8 : AV) (H : Heap) : Prop := LoopV (wpC Try.prog tab D172 (cAt [1, 0, 1, 0, 0] (bodyOf Try.f172))) [0, 1, 7] (PostF.block 0 (PostF.thenA (wpC Try.prog tab D172 (cAt [1, 1] (bodyOf Try.f172))) (retF tab [.tmp 4] K))) [8] [v0, v1, AV.any, AV.any, AV.any, AV.any, AV.any, v7, v8, AV.any, AV.any, AV.any, AV.any, AV.any, AV.any, AV.any, AV.any, AV.any, AV.any] H
def B172_0 (K : AV → Heap → Prop) (N1 : AV → Heap → Prop) (v0 : AV) (v1 : AV) (v7 : AV) (v8 : AV) (H : Heap) : Prop :=
 binV tab .lss 3 v8 v7 fun v9 =>
 condV v9 (indexAddrV tab 24 v0 v8 fun v14 =>
 loadV tab 3 v14 H fun v15 =>
 callF Try.prog v1 [v15] H fun v16 H1 =>
 condV v16 (K v8 H1)
 (binV tab .add 3 v8 (AV.p (.int .i64 1)) fun v18 =>
 N1 v18 H1))
 (K (AV.p (.int .i64 (-1))) H)
def W172 (v0 : AV) (v1 : AV) (H : Heap) (K : AV → Heap → Prop) : Prop :=
 lenV tab 24 v0 fun v7 =>
 L172_0 K v0 v1 v7 (AV.p (.int .i64 0)) H
theorem W172_wp (v0 : AV) (v1 : AV) (H : Heap) (K : AV → Heap → Prop) : wpC Try.prog tab D172 (bodyOf Try.f172) (retF tab [.tmp 4] K) (nthA [v0, v1]) H = W172 v0 v1 H K := by kernel_rfl
theorem W172_ok {v0 v1 : AV} {H : Heap} {K : AV → Heap → Prop} (h : W172 v0 v1 H K) : CallT Try.prog 172 [v0, v1] H K :=
  CallT.of_wp (D := D172) tab_ok mixed Try.func172 (c := bodyOf Try.f172) (by kernel_rfl) rfl (by kernel_rfl) (rs := #[.tmp 4]) rfl (by decide +kernel) (by kernel_rfl) (W172_wp v0 v1 H K) h
theorem W172_hb : HasBody Try.prog 172 := ⟨_, bodyOf Try.f172, Try.func172, by kernel_rfl, rfl⟩
theorem L172_0_rule {K : AV → Heap → Prop} {v0 v1 v7 v8 : AV} {H : Heap} {σ : Type} (s0 : σ) (f8 : σ → AV) (TH : σ → Heap) (pre : σ → Prop) (μ : σ → Nat)
    (h0 : pre s0 ∧ AV.wk v8 (f8 s0) ∧ Heap.le (TH s0) H)
    (round : ∀ s, pre s → B172_0 K (fun w8 H' => ∃ s', pre s' ∧ μ s' < μ s ∧ AV.wk w8 (f8 s') ∧ Heap.le (TH s') H') v0 v1 v7 (f8 s) (TH s)) :
    L172_0 K v0 v1 v7 v8 H := by
  unfold L172_0
  exact LoopV.mk s0 (fun s => [f8 s]) TH pre μ (fun _ => rfl) (Eq.mp (by kernel_rfl) h0) (fun s hs => Eq.mp (by kernel_rfl) (round s hs))
theorem L172_0_ruleG {K : AV → Heap → Prop} {v0 v1 v7 v8 : AV} {H : Heap} {σ : Type} (s0 : σ) (f8 : σ → AV) (TH : σ → Heap) (pre : σ → Prop) (μ : σ → Nat)
    (h0 : pre s0 ∧ AV.wk v8 (f8 s0) ∧ Heap.le (TH s0) H)
    (round : ∀ s, pre s → ∀ q, TH s q = none → B172_0 K (fun w8 H' => ∃ s', pre s' ∧ μ s' < μ s ∧ AV.wk w8 (f8 s') ∧ Heap.le (TH s') H') v0 v1 v7 (f8 s) ((TH s).set q [])) :
    L172_0 K v0 v1 v7 v8 H := by
  unfold L172_0
  exact LoopV.mkG s0 (fun s => [f8 s]) TH pre μ (fun _ => rfl) (Eq.mp (by kernel_rfl) h0) (fun s hs q hq => Eq.mp (by kernel_rfl) (round s hs q hq))
end Go.Proofs.Ytjbdahlhphdalaa
