/- What each function's code is asked for, as a formula. Written by wgen.py (a program of this session's) out of Lean's print of the program. -/
import Derived.KernelRfl
import Derived.Test.YtlcnoflmlonikaaTab
import Derived.Test.YtlcnoflmlonikaaSepC
namespace Go.Proofs.Ytlcnoflmlonikaa
open Go Go.Sep
set_option linter.unusedVariables false
attribute [local irreducible] wpC headF
/-- loop.example/g00649/spec.l2Need -/
def D70 : Info := ⟨34, fun i => ([], []), fun i => ([], [])⟩
def W70 (v0 : AV) (H : Heap) (K : AV → Heap → Prop) : Prop :=
 binV tab .eql 3 v0 (AV.p (.int .i64 1)) fun v7 =>
 grdV v7 false (binV tab .eql 3 v0 (AV.p (.int .i64 2)) fun v10 =>
 condV v10 (K (.tup [(AV.p (.int .i64 0)), (AV.p (.int .i64 1)), (AV.p (.int .i64 1))]) H)
 (binV tab .eql 3 v0 (AV.p (.int .i64 20)) fun v14 =>
 condV v14 (K (.tup [(AV.p (.int .i64 0)), (AV.p (.int .i64 2)), (AV.p (.int .i64 2))]) H)
 (binV tab .eql 3 v0 (AV.p (.int .i64 13)) fun v17 =>
 condV v17 (K (.tup [(AV.p (.int .i64 1)), (AV.p (.int .i64 1)), (AV.p (.int .i64 1))]) H)
 (binV tab .eql 3 v0 (AV.p (.int .i64 19)) fun v20 =>
 condV v20 (K (.tup [(AV.p (.int .i64 1)), (AV.p (.int .i64 2)), (AV.p (.int .i64 2))]) H)
 (CallT Try.prog 38 [v0, (AV.p (.int .i64 3)), (AV.p (.int .i64 12))] H fun v23 H1 =>
 condV v23 (K (.tup [(AV.p (.int .i64 2)), (AV.p (.int .i64 1)), (AV.p (.int .i64 1))]) H1)
 (CallT Try.prog 38 [v0, (AV.p (.int .i64 14)), (AV.p (.int .i64 16))] H1 fun v26 H2 =>
 condV v26 (K (.tup [(AV.p (.int .i64 2)), (AV.p (.int .i64 1)), (AV.p (.int .i64 2))]) H2)
 (binV tab .eql 3 v0 (AV.p (.int .i64 17)) fun v29 =>
 grdV v29 false (binV tab .eql 3 v0 (AV.p (.int .i64 18)) fun v32 =>
 condV v32 (K (.tup [(AV.p (.int .i64 2)), (AV.p (.int .i64 2)), (AV.p (.int .i64 2))]) H2)
 (K (.tup [(AV.p (.int .i64 0)), (AV.p (.int .i64 0)), (AV.p (.int .i64 0))]) H2))
 (K (.tup [(AV.p (.int .i64 2)), (AV.p (.int .i64 2)), (AV.p (.int .i64 2))]) H2))))))))
 (K (.tup [(AV.p (.int .i64 0)), (AV.p (.int .i64 1)), (AV.p (.int .i64 1))]) H)
theorem W70_wp (v0 : AV) (H : Heap) (K : AV → Heap → Prop) : wpC Try.prog tab D70 (bodyOf Try.f70) (retF tab [.tmp 2, .tmp 3, .tmp 4] K) (nthA [v0]) H = W70 v0 H K := by kernel_rfl
theorem W70_ok {v0 : AV} {H : Heap} {K : AV → Heap → Prop} (h : W70 v0 H K) : CallT Try.prog 70 [v0] H K :=
  CallT.of_wp (D := D70) tab_ok mixed Try.func70 (c := bodyOf Try.f70) (by kernel_rfl) rfl (by kernel_rfl) (rs := #[.tmp 2, .tmp 3, .tmp 4]) rfl (by decide +kernel) (by kernel_rfl) (W70_wp v0 H K) h
theorem W70_hb : HasBody Try.prog 70 := ⟨_, bodyOf Try.f70, Try.func70, by kernel_rfl, rfl⟩
/-- loop.example/g00649/spec.l2N -/
def D71 : Info := ⟨30, fun i => ([], []), fun i => ([], [])⟩
def W71 (v0 : AV) (v1 : AV) (v2 : AV) (H : Heap) (K : AV → Heap → Prop) : Prop :=
 boxV v2 H fun v5 H1 =>
 fieldAddrV tab 48 v5 0 fun v7 =>
 loadV tab 3 v7 H1 fun v8 =>
 binV tab .eql 3 v8 (AV.p (.int .i64 1)) fun v10 =>
 condV v10 (fieldAddrV tab 48 v5 1 fun v12 =>
 loadV tab 46 v12 H1 fun v13 =>
 CallT Try.prog 79 [v0, v13] H1 fun v14 H2 =>
 K v14 H2)
 (binV tab .eql 3 v8 (AV.p (.int .i64 2)) fun v16 =>
 condV v16 (fieldAddrV tab 48 v5 1 fun v17 =>
 loadV tab 46 v17 H1 fun v18 =>
 convV tab 3 46 v1 fun v20 =>
 binV tab .lss 46 v18 v20 fun v21 =>
 K v21 H1)
 (binV tab .eql 3 v8 (AV.p (.int .i64 20)) fun v23 =>
 condV v23 (fieldAddrV tab 48 v5 1 fun v24 =>
 loadV tab 46 v24 H1 fun v25 =>
 binV tab .lss 46 v25 (AV.p (.int .u64 2)) fun v26 =>
 K v26 H1)
 (fieldAddrV tab 48 v5 1 fun v27 =>
 loadV tab 46 v27 H1 fun v28 =>
 binV tab .eql 46 v28 (AV.p (.int .u64 0)) fun v29 =>
 K v29 H1)))
theorem W71_wp (v0 : AV) (v1 : AV) (v2 : AV) (H : Heap) (K : AV → Heap → Prop) : wpC Try.prog tab D71 (bodyOf Try.f71) (retF tab [.tmp 6] K) (nthA [v0, v1, v2]) H = W71 v0 v1 v2 H K := by kernel_rfl
theorem W71_ok {v0 v1 v2 : AV} {H : Heap} {K : AV → Heap → Prop} (h : W71 v0 v1 v2 H K) : CallT Try.prog 71 [v0, v1, v2] H K :=
  CallT.of_wp (D := D71) tab_ok mixed Try.func71 (c := bodyOf Try.f71) (by kernel_rfl) rfl (by kernel_rfl) (rs := #[.tmp 6]) rfl (by decide +kernel) (by kernel_rfl) (W71_wp v0 v1 v2 H K) h
theorem W71_hb : HasBody Try.prog 71 := ⟨_, bodyOf Try.f71, Try.func71, by kernel_rfl, rfl⟩
/-- loop.example/g00649/laws.toChange -/
def D72 : Info := ⟨12, fun i => ([], []), fun i => ([], [])⟩
def W72 (v0 : AV) (H : Heap) (K : AV → Heap → Prop) : Prop :=
 boxV v0 H fun v1 H1 =>
 allocV tab 69 H1 fun v2 H2 =>
 allocV tab 69 H2 fun v3 H3 =>
 fieldAddrV tab 94 v1 0 fun v4 =>
 loadV tab 3 v4 H3 fun v5 =>
 fieldAddrV tab 69 v3 0 fun v6 =>
 storeV tab 3 v6 v5 H3 fun H4 =>
 fieldAddrV tab 94 v1 1 fun v7 =>
 loadV tab 22 v7 H4 fun v8 =>
 CallT Try.prog 10 [v8] H4 fun v9 H5 =>
 fieldAddrV tab 69 v3 1 fun v10 =>
 storeV tab 28 v10 v9 H5 fun H6 =>
 loadV tab 69 v3 H6 fun v11 =>
 storeV tab 69 v2 v11 H6 fun H7 =>
 loadV tab 69 v2 H7 fun r0 =>
 K r0 H7
theorem W72_wp (v0 : AV) (H : Heap) (K : AV → Heap → Prop) : wpC Try.prog tab D72 (bodyOf Try.f72) (retF tab [.cell 2 69] K) (nthA [v0]) H = W72 v0 H K := by kernel_rfl
theorem W72_ok {v0 : AV} {H : Heap} {K : AV → Heap → Prop} (h : W72 v0 H K) : CallT Try.prog 72 [v0] H K :=
  CallT.of_wp (D := D72) tab_ok mixed Try.func72 (c := bodyOf Try.f72) (by kernel_rfl) rfl (by kernel_rfl) (rs := #[.cell 2 69]) rfl (by decide +kernel) (by kernel_rfl) (W72_wp v0 H K) h
theorem W72_hb : HasBody Try.prog 72 := ⟨_, bodyOf Try.f72, Try.func72, by kernel_rfl, rfl⟩
/-- slices.IndexFunc[[]loop.example/g00649/impl.Command,loop.example/g00649/impl.Command] -/
def D73 : Info := ⟨19, fun i => ([], []), fun i => if i = 2 then ([0, 1, 7], [8]) else ([], [])⟩
def L73_0 (K : AV → Heap → Prop) (v0 : AV) (v1 : AV) (v7 : AV) (v8 : AV) (H : Heap) : Prop := LoopV (wpC Try.prog tab D73 (cAt [1, 0, 1, 0, 0] (bodyOf Try.f73))) [0, 1, 7] (PostF.block 0 (PostF.thenA (wpC Try.prog tab D73 (cAt [1, 1] (bodyOf Try.f73))) (retF tab [.tmp 4] K))) [8] [v0, v1, AV.any, AV.any, AV.any, AV.any, AV.any, v7, v8, AV.any, AV.any, AV.any, AV.any, AV.any, AV.any, AV.any, AV.any, AV.any, AV.any] H
def B73_0 (K : AV → Heap → Prop) (N1 : AV → Heap → Prop) (v0 : AV) (v1 : AV) (v7 : AV) (v8 : AV) (H : Heap) : Prop :=
 binV tab .lss 3 v8 v7 fun v9 =>
 condV v9 (indexAddrV tab 31 v0 v8 fun v14 =>
 loadV tab 57 v14 H fun v15 =>
 callF Try.prog v1 [v15] H fun v16 H1 =>
 condV v16 (K v8 H1)
 (binV tab .add 3 v8 (AV.p (.int .i64 1)) fun v18 =>
 N1 v18 H1))
 (K (AV.p (.int .i64 (-1))) H)
def W73 (v0 : AV) (v1 : AV) (H : Heap) (K : AV → Heap → Prop) : Prop :=
 lenV tab 31 v0 fun v7 =>
 L73_0 K v0 v1 v7 (AV.p (.int .i64 0)) H
theorem W73_wp (v0 : AV) (v1 : AV) (H : Heap) (K : AV → Heap → Prop) : wpC Try.prog tab D73 (bodyOf Try.f73) (retF tab [.tmp 4] K) (nthA [v0, v1]) H = W73 v0 v1 H K := by kernel_rfl
theorem W73_ok {v0 v1 : AV} {H : Heap} {K : AV → Heap → Prop} (h : W73 v0 v1 H K) : CallT Try.prog 73 [v0, v1] H K :=
  CallT.of_wp (D := D73) tab_ok mixed Try.func73 (c := bodyOf Try.f73) (by kernel_rfl) rfl (by kernel_rfl) (rs := #[.tmp 4]) rfl (by decide +kernel) (by kernel_rfl) (W73_wp v0 v1 H K) h
theorem W73_hb : HasBody Try.prog 73 := ⟨_, bodyOf Try.f73, Try.func73, by kernel_rfl, rfl⟩
theorem L73_0_rule {K : AV → Heap → Prop} {v0 v1 v7 v8 : AV} {H : Heap} {σ : Type} (s0 : σ) (f8 : σ → AV) (TH : σ → Heap) (pre : σ → Prop) (μ : σ → Nat)
    (h0 : pre s0 ∧ AV.wk v8 (f8 s0) ∧ Heap.le (TH s0) H)
    (round : ∀ s, pre s → B73_0 K (fun w8 H' => ∃ s', pre s' ∧ μ s' < μ s ∧ AV.wk w8 (f8 s') ∧ Heap.le (TH s') H') v0 v1 v7 (f8 s) (TH s)) :
    L73_0 K v0 v1 v7 v8 H := by
  unfold L73_0
  exact LoopV.mk s0 (fun s => [f8 s]) TH pre μ (fun _ => rfl) (Eq.mp (by kernel_rfl) h0) (fun s hs => Eq.mp (by kernel_rfl) (round s hs))
theorem L73_0_ruleG {K : AV → Heap → Prop} {v0 v1 v7 v8 : AV} {H : Heap} {σ : Type} (s0 : σ) (f8 : σ → AV) (TH : σ → Heap) (pre : σ → Prop) (μ : σ → Nat)
    (h0 : pre s0 ∧ AV.wk v8 (f8 s0) ∧ Heap.le (TH s0) H)
    (round : ∀ s, pre s → ∀ q, TH s q = none → B73_0 K (fun w8 H' => ∃ s', pre s' ∧ μ s' < μ s ∧ AV.wk w8 (f8 s') ∧ Heap.le (TH s') H') v0 v1 v7 (f8 s) ((TH s).set q [])) :
    L73_0 K v0 v1 v7 v8 H := by
  unfold L73_0
  exact LoopV.mkG s0 (fun s => [f8 s]) TH pre μ (fun _ => rfl) (Eq.mp (by kernel_rfl) h0) (fun s hs q hq => Eq.mp (by kernel_rfl) (round s hs q hq))
/-- loop.example/g00649/impl.kindOf -/
def D74 : Info := ⟨19, fun i => ([], []), fun i => ([], [])⟩
def W74 (v0 : AV) (H : Heap) (K : AV → Heap → Prop) : Prop :=
 lenV tab 28 v0 fun v9 =>
 binV tab .sub 3 v9 (AV.p (.int .i64 1)) fun v10 =>
 indexAddrV tab 28 v0 v10 fun v11 =>
 fieldAddrV tab 48 v11 0 fun v12 =>
 loadV tab 3 v12 H fun v13 =>
 CallT Try.prog 64 [v13] H fun v14 H1 =>
 extractV v14 0 fun v15 =>
 extractV v14 1 fun v16 =>
 extractV v14 2 fun v17 =>
 K v17 H1
theorem W74_wp (v0 : AV) (H : Heap) (K : AV → Heap → Prop) : wpC Try.prog tab D74 (bodyOf Try.f74) (retF tab [.tmp 2] K) (nthA [v0]) H = W74 v0 H K := by kernel_rfl
theorem W74_ok {v0 : AV} {H : Heap} {K : AV → Heap → Prop} (h : W74 v0 H K) : CallT Try.prog 74 [v0] H K :=
  CallT.of_wp (D := D74) tab_ok mixed Try.func74 (c := bodyOf Try.f74) (by kernel_rfl) rfl (by kernel_rfl) (rs := #[.tmp 2]) rfl (by decide +kernel) (by kernel_rfl) (W74_wp v0 H K) h
theorem W74_hb : HasBody Try.prog 74 := ⟨_, bodyOf Try.f74, Try.func74, by kernel_rfl, rfl⟩
/-- slices.IndexFunc[[][]loop.example/g00649/impl.Node,[]loop.example/g00649/impl.Node] -/
def D75 : Info := ⟨19, fun i => ([], []), fun i => if i = 2 then ([0, 1, 7], [8]) else ([], [])⟩
def L75_0 (K : AV → Heap → Prop) (v0 : AV) (v1 : AV) (v7 : AV) (v8 : AV) (H : Heap) : Prop := LoopV (wpC Try.prog tab D75 (cAt [1, 0, 1, 0, 0] (bodyOf Try.f75))) [0, 1, 7] (PostF.block 0 (PostF.thenA (wpC Try.prog tab D75 (cAt [1, 1] (bodyOf Try.f75))) (retF tab [.tmp 4] K))) [8] [v0, v1, AV.any, AV.any, AV.any, AV.any, AV.any, v7, v8, AV.any, AV.any, AV.any, AV.any, AV.any, AV.any, AV.any, AV.any, AV.any, AV.any] H
def B75_0 (K : AV → Heap → Prop) (N1 : AV → Heap → Prop) (v0 : AV) (v1 : AV) (v7 : AV) (v8 : AV) (H : Heap) : Prop :=
 binV tab .lss 3 v8 v7 fun v9 =>
 condV v9 (indexAddrV tab 67 v0 v8 fun v14 =>
 loadV tab 28 v14 H fun v15 =>
 callF Try.prog v1 [v15] H fun v16 H1 =>
 condV v16 (K v8 H1)
 (binV tab .add 3 v8 (AV.p (.int .i64 1)) fun v18 =>
 N1 v18 H1))
 (K (AV.p (.int .i64 (-1))) H)
def W75 (v0 : AV) (v1 : AV) (H : Heap) (K : AV → Heap → Prop) : Prop :=
 lenV tab 67 v0 fun v7 =>
 L75_0 K v0 v1 v7 (AV.p (.int .i64 0)) H
theorem W75_wp (v0 : AV) (v1 : AV) (H : Heap) (K : AV → Heap → Prop) : wpC Try.prog tab D75 (bodyOf Try.f75) (retF tab [.tmp 4] K) (nthA [v0, v1]) H = W75 v0 v1 H K := by kernel_rfl
theorem W75_ok {v0 v1 : AV} {H : Heap} {K : AV → Heap → Prop} (h : W75 v0 v1 H K) : CallT Try.prog 75 [v0, v1] H K :=
  CallT.of_wp (D := D75) tab_ok mixed Try.func75 (c := bodyOf Try.f75) (by kernel_rfl) rfl (by kernel_rfl) (rs := #[.tmp 4]) rfl (by decide +kernel) (by kernel_rfl) (W75_wp v0 v1 H K) h
theorem W75_hb : HasBody Try.prog 75 := ⟨_, bodyOf Try.f75, Try.func75, by kernel_rfl, rfl⟩
theorem L75_0_rule {K : AV → Heap → Prop} {v0 v1 v7 v8 : AV} {H : Heap} {σ : Type} (s0 : σ) (f8 : σ → AV) (TH : σ → Heap) (pre : σ → Prop) (μ : σ → Nat)
    (h0 : pre s0 ∧ AV.wk v8 (f8 s0) ∧ Heap.le (TH s0) H)
    (round : ∀ s, pre s → B75_0 K (fun w8 H' => ∃ s', pre s' ∧ μ s' < μ s ∧ AV.wk w8 (f8 s') ∧ Heap.le (TH s') H') v0 v1 v7 (f8 s) (TH s)) :
    L75_0 K v0 v1 v7 v8 H := by
  unfold L75_0
  exact LoopV.mk s0 (fun s => [f8 s]) TH pre μ (fun _ => rfl) (Eq.mp (by kernel_rfl) h0) (fun s hs => Eq.mp (by kernel_rfl) (round s hs))
theorem L75_0_ruleG {K : AV → Heap → Prop} {v0 v1 v7 v8 : AV} {H : Heap} {σ : Type} (s0 : σ) (f8 : σ → AV) (TH : σ → Heap) (pre : σ → Prop) (μ : σ → Nat)
    (h0 : pre s0 ∧ AV.wk v8 (f8 s0) ∧ Heap.le (TH s0) H)
    (round : ∀ s, pre s → ∀ q, TH s q = none → B75_0 K (fun w8 H' => ∃ s', pre s' ∧ μ s' < μ s ∧ AV.wk w8 (f8 s') ∧ Heap.le (TH s') H') v0 v1 v7 (f8 s) ((TH s).set q [])) :
    L75_0 K v0 v1 v7 v8 H := by
  unfold L75_0
  exact LoopV.mkG s0 (fun s => [f8 s]) TH pre μ (fun _ => rfl) (Eq.mp (by kernel_rfl) h0) (fun s hs q hq => Eq.mp (by kernel_rfl) (round s hs q hq))
/-- loop.example/g00649/laws.eqChange -/
def D76 : Info := ⟨16, fun i => ([], []), fun i => ([], [])⟩
def W76 (v0 : AV) (v1 : AV) (H : Heap) (K : AV → Heap → Prop) : Prop :=
 boxV v0 H fun v2 H1 =>
 boxV v1 H1 fun v3 H2 =>
 fieldAddrV tab 69 v2 0 fun v5 =>
 loadV tab 3 v5 H2 fun v6 =>
 fieldAddrV tab 69 v3 0 fun v7 =>
 loadV tab 3 v7 H2 fun v8 =>
 binV tab .neq 3 v6 v8 fun v9 =>
 condV v9 (K (AV.p (.bool false)) H2)
 (fieldAddrV tab 69 v2 1 fun v10 =>
 loadV tab 28 v10 H2 fun v11 =>
 fieldAddrV tab 69 v3 1 fun v12 =>
 loadV tab 28 v12 H2 fun v13 =>
 CallT Try.prog 12 [v11, v13] H2 fun v14 H3 =>
 unV .not v14 fun v15 =>
 condV v15 (K (AV.p (.bool false)) H3)
 (K (AV.p (.bool true)) H3))
theorem W76_wp (v0 : AV) (v1 : AV) (H : Heap) (K : AV → Heap → Prop) : wpC Try.prog tab D76 (bodyOf Try.f76) (retF tab [.tmp 4] K) (nthA [v0, v1]) H = W76 v0 v1 H K := by kernel_rfl
theorem W76_ok {v0 v1 : AV} {H : Heap} {K : AV → Heap → Prop} (h : W76 v0 v1 H K) : CallT Try.prog 76 [v0, v1] H K :=
  CallT.of_wp (D := D76) tab_ok mixed Try.func76 (c := bodyOf Try.f76) (by kernel_rfl) rfl (by kernel_rfl) (rs := #[.tmp 4]) rfl (by decide +kernel) (by kernel_rfl) (W76_wp v0 v1 H K) h
theorem W76_hb : HasBody Try.prog 76 := ⟨_, bodyOf Try.f76, Try.func76, by kernel_rfl, rfl⟩
/-- loop.example/g00649/impl.GoodWord -/
def D77 : Info := ⟨13, fun i => ([], []), fun i => ([], [])⟩
def W77 (v0 : AV) (v1 : AV) (H : Heap) (K : AV → Heap → Prop) : Prop :=
 CallT Try.prog 55 [v0] H fun v6 H1 =>
 grdV v6 true (CallT Try.prog 80 [v0] H1 fun v10 H2 =>
 binV tab .leq 46 v1 v10 fun v11 =>
 K v11 H2)
 (K (AV.p (.bool false)) H1)
theorem W77_wp (v0 : AV) (v1 : AV) (H : Heap) (K : AV → Heap → Prop) : wpC Try.prog tab D77 (bodyOf Try.f77) (retF tab [.tmp 4] K) (nthA [v0, v1]) H = W77 v0 v1 H K := by kernel_rfl
theorem W77_ok {v0 v1 : AV} {H : Heap} {K : AV → Heap → Prop} (h : W77 v0 v1 H K) : CallT Try.prog 77 [v0, v1] H K :=
  CallT.of_wp (D := D77) tab_ok mixed Try.func77 (c := bodyOf Try.f77) (by kernel_rfl) rfl (by kernel_rfl) (rs := #[.tmp 4]) rfl (by decide +kernel) (by kernel_rfl) (W77_wp v0 v1 H K) h
theorem W77_hb : HasBody Try.prog 77 := ⟨_, bodyOf Try.f77, Try.func77, by kernel_rfl, rfl⟩
/-- slices.IndexFunc[[]int,int] -/
def D78 : Info := ⟨19, fun i => ([], []), fun i => if i = 2 then ([0, 1, 7], [8]) else ([], [])⟩
def L78_0 (K : AV → Heap → Prop) (v0 : AV) (v1 : AV) (v7 : AV) (v8 : AV) (H : Heap) : Prop := LoopV (wpC Try.prog tab D78 (cAt [1, 0, 1, 0, 0] (bodyOf Try.f78))) [0, 1, 7] (PostF.block 0 (PostF.thenA (wpC Try.prog tab D78 (cAt [1, 1] (bodyOf Try.f78))) (retF tab [.tmp 4] K))) [8] [v0, v1, AV.any, AV.any, AV.any, AV.any, AV.any, v7, v8, AV.any, AV.any, AV.any, AV.any, AV.any, AV.any, AV.any, AV.any, AV.any, AV.any] H
def B78_0 (K : AV → Heap → Prop) (N1 : AV → Heap → Prop) (v0 : AV) (v1 : AV) (v7 : AV) (v8 : AV) (H : Heap) : Prop :=
 binV tab .lss 3 v8 v7 fun v9 =>
 condV v9 (indexAddrV tab 87 v0 v8 fun v14 =>
 loadV tab 3 v14 H fun v15 =>
 callF Try.prog v1 [v15] H fun v16 H1 =>
 condV v16 (K v8 H1)
 (binV tab .add 3 v8 (AV.p (.int .i64 1)) fun v18 =>
 N1 v18 H1))
 (K (AV.p (.int .i64 (-1))) H)
def W78 (v0 : AV) (v1 : AV) (H : Heap) (K : AV → Heap → Prop) : Prop :=
 lenV tab 87 v0 fun v7 =>
 L78_0 K v0 v1 v7 (AV.p (.int .i64 0)) H
theorem W78_wp (v0 : AV) (v1 : AV) (H : Heap) (K : AV → Heap → Prop) : wpC Try.prog tab D78 (bodyOf Try.f78) (retF tab [.tmp 4] K) (nthA [v0, v1]) H = W78 v0 v1 H K := by kernel_rfl
theorem W78_ok {v0 v1 : AV} {H : Heap} {K : AV → Heap → Prop} (h : W78 v0 v1 H K) : CallT Try.prog 78 [v0, v1] H K :=
  CallT.of_wp (D := D78) tab_ok mixed Try.func78 (c := bodyOf Try.f78) (by kernel_rfl) rfl (by kernel_rfl) (rs := #[.tmp 4]) rfl (by decide +kernel) (by kernel_rfl) (W78_wp v0 v1 H K) h
theorem W78_hb : HasBody Try.prog 78 := ⟨_, bodyOf Try.f78, Try.func78, by kernel_rfl, rfl⟩
theorem L78_0_rule {K : AV → Heap → Prop} {v0 v1 v7 v8 : AV} {H : Heap} {σ : Type} (s0 : σ) (f8 : σ → AV) (TH : σ → Heap) (pre : σ → Prop) (μ : σ → Nat)
    (h0 : pre s0 ∧ AV.wk v8 (f8 s0) ∧ Heap.le (TH s0) H)
    (round : ∀ s, pre s → B78_0 K (fun w8 H' => ∃ s', pre s' ∧ μ s' < μ s ∧ AV.wk w8 (f8 s') ∧ Heap.le (TH s') H') v0 v1 v7 (f8 s) (TH s)) :
    L78_0 K v0 v1 v7 v8 H := by
  unfold L78_0
  exact LoopV.mk s0 (fun s => [f8 s]) TH pre μ (fun _ => rfl) (Eq.mp (by kernel_rfl) h0) (fun s hs => Eq.mp (by kernel_rfl) (round s hs))
theorem L78_0_ruleG {K : AV → Heap → Prop} {v0 v1 v7 v8 : AV} {H : Heap} {σ : Type} (s0 : σ) (f8 : σ → AV) (TH : σ → Heap) (pre : σ → Prop) (μ : σ → Nat)
    (h0 : pre s0 ∧ AV.wk v8 (f8 s0) ∧ Heap.le (TH s0) H)
    (round : ∀ s, pre s → ∀ q, TH s q = none → B78_0 K (fun w8 H' => ∃ s', pre s' ∧ μ s' < μ s ∧ AV.wk w8 (f8 s') ∧ Heap.le (TH s') H') v0 v1 v7 (f8 s) ((TH s).set q [])) :
    L78_0 K v0 v1 v7 v8 H := by
  unfold L78_0
  exact LoopV.mkG s0 (fun s => [f8 s]) TH pre μ (fun _ => rfl) (Eq.mp (by kernel_rfl) h0) (fun s hs q hq => Eq.mp (by kernel_rfl) (round s hs q hq))
/-- loop.example/g00649/spec.GoodWord -/
def D79 : Info := ⟨14, fun i => ([], []), fun i => ([], [])⟩
def W79 (v0 : AV) (v1 : AV) (H : Heap) (K : AV → Heap → Prop) : Prop :=
 CallT Try.prog 69 [v0] H fun v6 H1 =>
 grdV v6 true (CallT Try.prog 81 [v0, v1] H1 fun v10 H2 =>
 binV tab .eql 46 v10 v1 fun v12 =>
 K v12 H2)
 (K (AV.p (.bool false)) H1)
theorem W79_wp (v0 : AV) (v1 : AV) (H : Heap) (K : AV → Heap → Prop) : wpC Try.prog tab D79 (bodyOf Try.f79) (retF tab [.tmp 4] K) (nthA [v0, v1]) H = W79 v0 v1 H K := by kernel_rfl
theorem W79_ok {v0 v1 : AV} {H : Heap} {K : AV → Heap → Prop} (h : W79 v0 v1 H K) : CallT Try.prog 79 [v0, v1] H K :=
  CallT.of_wp (D := D79) tab_ok mixed Try.func79 (c := bodyOf Try.f79) (by kernel_rfl) rfl (by kernel_rfl) (rs := #[.tmp 4]) rfl (by decide +kernel) (by kernel_rfl) (W79_wp v0 v1 H K) h
theorem W79_hb : HasBody Try.prog 79 := ⟨_, bodyOf Try.f79, Try.func79, by kernel_rfl, rfl⟩
/-- loop.example/g00649/impl.mask -/
def D80 : Info := ⟨6, fun i => ([], []), fun i => ([], [])⟩
def W80 (v0 : AV) (H : Heap) (K : AV → Heap → Prop) : Prop :=
 binV tab .sub 3 (AV.p (.int .i64 64)) v0 fun v4 =>
 binV tab .shr 46 (AV.p (.int .u64 18446744073709551615)) v4 fun v5 =>
 K v5 H
theorem W80_wp (v0 : AV) (H : Heap) (K : AV → Heap → Prop) : wpC Try.prog tab D80 (bodyOf Try.f80) (retF tab [.tmp 2] K) (nthA [v0]) H = W80 v0 H K := by kernel_rfl
theorem W80_ok {v0 : AV} {H : Heap} {K : AV → Heap → Prop} (h : W80 v0 H K) : CallT Try.prog 80 [v0] H K :=
  CallT.of_wp (D := D80) tab_ok mixed Try.func80 (c := bodyOf Try.f80) (by kernel_rfl) rfl (by kernel_rfl) (rs := #[.tmp 2]) rfl (by decide +kernel) (by kernel_rfl) (W80_wp v0 H K) h
theorem W80_hb : HasBody Try.prog 80 := ⟨_, bodyOf Try.f80, Try.func80, by kernel_rfl, rfl⟩
/-- loop.example/g00649/spec.l1Cut -/
def D81 : Info := ⟨20, fun i => ([], []), fun i => if i = 3 then ([0, 1], [5, 6]) else ([], [])⟩
def L81_0 (K : AV → Heap → Prop) (v0 : AV) (v1 : AV) (v5 : AV) (v6 : AV) (H : Heap) : Prop := LoopV (wpC Try.prog tab D81 (cAt [1, 1, 0, 1, 0, 0] (bodyOf Try.f81))) [0, 1] (PostF.block 0 (PostF.thenA (wpC Try.prog tab D81 (cAt [1, 1, 1] (bodyOf Try.f81))) (retF tab [.tmp 4] K))) [5, 6] [v0, v1, AV.any, AV.any, AV.any, v5, v6, AV.any, AV.any, AV.any, AV.any, AV.any, AV.any, AV.any, AV.any, AV.any, AV.any, AV.any, AV.any, AV.any] H
def B81_0 (K : AV → Heap → Prop) (N1 : AV → AV → Heap → Prop) (v0 : AV) (v1 : AV) (v5 : AV) (v6 : AV) (H : Heap) : Prop :=
 binV tab .lss 3 v6 v0 fun v9 =>
 condV v9 (convV tab 3 104 v6 fun v15 =>
 binV tab .shl 46 (AV.p (.int .u64 1)) v15 fun v16 =>
 binV tab .and 46 v1 v16 fun v17 =>
 binV tab .or 46 v5 v17 fun v18 =>
 binV tab .add 3 v6 (AV.p (.int .i64 1)) fun v11 =>
 N1 v18 v11 H)
 (K v5 H)
def W81 (v0 : AV) (v1 : AV) (H : Heap) (K : AV → Heap → Prop) : Prop :=
 L81_0 K v0 v1 (AV.p (.int .u64 0)) (AV.p (.int .i64 0)) H
theorem W81_wp (v0 : AV) (v1 : AV) (H : Heap) (K : AV → Heap → Prop) : wpC Try.prog tab D81 (bodyOf Try.f81) (retF tab [.tmp 4] K) (nthA [v0, v1]) H = W81 v0 v1 H K := by kernel_rfl
theorem W81_ok {v0 v1 : AV} {H : Heap} {K : AV → Heap → Prop} (h : W81 v0 v1 H K) : CallT Try.prog 81 [v0, v1] H K :=
  CallT.of_wp (D := D81) tab_ok mixed Try.func81 (c := bodyOf Try.f81) (by kernel_rfl) rfl (by kernel_rfl) (rs := #[.tmp 4]) rfl (by decide +kernel) (by kernel_rfl) (W81_wp v0 v1 H K) h
theorem W81_hb : HasBody Try.prog 81 := ⟨_, bodyOf Try.f81, Try.func81, by kernel_rfl, rfl⟩
theorem L81_0_rule {K : AV → Heap → Prop} {v0 v1 v5 v6 : AV} {H : Heap} {σ : Type} (s0 : σ) (f5 : σ → AV) (f6 : σ → AV) (TH : σ → Heap) (pre : σ → Prop) (μ : σ → Nat)
    (h0 : pre s0 ∧ AV.wk v5 (f5 s0) ∧ AV.wk v6 (f6 s0) ∧ Heap.le (TH s0) H)
    (round : ∀ s, pre s → B81_0 K (fun w5 w6 H' => ∃ s', pre s' ∧ μ s' < μ s ∧ AV.wk w5 (f5 s') ∧ AV.wk w6 (f6 s') ∧ Heap.le (TH s') H') v0 v1 (f5 s) (f6 s) (TH s)) :
    L81_0 K v0 v1 v5 v6 H := by
  unfold L81_0
  exact LoopV.mk s0 (fun s => [f5 s, f6 s]) TH pre μ (fun _ => rfl) (Eq.mp (by kernel_rfl) h0) (fun s hs => Eq.mp (by kernel_rfl) (round s hs))
theorem L81_0_ruleG {K : AV → Heap → Prop} {v0 v1 v5 v6 : AV} {H : Heap} {σ : Type} (s0 : σ) (f5 : σ → AV) (f6 : σ → AV) (TH : σ → Heap) (pre : σ → Prop) (μ : σ → Nat)
    (h0 : pre s0 ∧ AV.wk v5 (f5 s0) ∧ AV.wk v6 (f6 s0) ∧ Heap.le (TH s0) H)
    (round : ∀ s, pre s → ∀ q, TH s q = none → B81_0 K (fun w5 w6 H' => ∃ s', pre s' ∧ μ s' < μ s ∧ AV.wk w5 (f5 s') ∧ AV.wk w6 (f6 s') ∧ Heap.le (TH s') H') v0 v1 (f5 s) (f6 s) ((TH s).set q [])) :
    L81_0 K v0 v1 v5 v6 H := by
  unfold L81_0
  exact LoopV.mkG s0 (fun s => [f5 s, f6 s]) TH pre μ (fun _ => rfl) (Eq.mp (by kernel_rfl) h0) (fun s hs q hq => Eq.mp (by kernel_rfl) (round s hs q hq))
end Go.Proofs.Ytlcnoflmlonikaa
