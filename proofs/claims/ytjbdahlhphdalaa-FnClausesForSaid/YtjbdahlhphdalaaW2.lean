/- What each function's code is asked for, as a formula. Written by wgen.py (a program of this session's) out of Lean's print of the program. -/
import Derived.KernelRfl
import Derived.Test.YtjbdahlhphdalaaTab
import Derived.Test.YtjbdahlhphdalaaSep27
namespace Go.Proofs.Ytjbdahlhphdalaa
open Go Go.Sep
set_option linter.unusedVariables false
attribute [local irreducible] wpC headF
/-- loop.example/g00649/spec.l4Wires -/
def D139 : Info := ⟨9, fun i => ([], []), fun i => ([], [])⟩
def W139 (v0 : AV) (H : Heap) (K : AV → Heap → Prop) : Prop :=
 boxV v0 H fun v1 H1 =>
 fieldAddrV tab 37 v1 0 fun v3 =>
 loadV tab 3 v3 H1 fun v4 =>
 fieldAddrV tab 37 v1 1 fun v5 =>
 loadV tab 35 v5 H1 fun v6 =>
 lenV tab 35 v6 fun v7 =>
 binV tab .add 3 v4 v7 fun v8 =>
 K v8 H1
theorem W139_wp (v0 : AV) (H : Heap) (K : AV → Heap → Prop) : wpC Try.prog tab D139 (bodyOf Try.f139) (retF tab [.tmp 2] K) (nthA [v0]) H = W139 v0 H K := by kernel_rfl
theorem W139_ok {v0 : AV} {H : Heap} {K : AV → Heap → Prop} (h : W139 v0 H K) : CallT Try.prog 139 [v0] H K :=
  CallT.of_wp (D := D139) tab_ok mixed Try.func139 (c := bodyOf Try.f139) (by kernel_rfl) rfl (by kernel_rfl) (rs := #[.tmp 2]) rfl (by decide +kernel) (by kernel_rfl) (W139_wp v0 H K) h
theorem W139_hb : HasBody Try.prog 139 := ⟨_, bodyOf Try.f139, Try.func139, by kernel_rfl, rfl⟩
/-- (*loop.example/g00649/spec.l1Cur).wires -/
def D140 : Info := ⟨19, fun i => ([], []), fun i => if i = 2 then ([0, 1], [2, 7]) else ([], [])⟩
def L140_0 (K : AV → Heap → Prop) (v0 : AV) (v1 : AV) (v2 : AV) (v7 : AV) (H : Heap) : Prop := LoopV (wpC Try.prog tab D140 (cAt [1, 1, 0, 0, 0] (bodyOf Try.f140))) [0, 1] (PostF.block 0 (PostF.thenA (wpC Try.prog tab D140 (cAt [1, 1, 1] (bodyOf Try.f140))) (retF tab [.tmp 6] K))) [2, 7] [v0, v1, v2, AV.any, AV.any, AV.any, AV.any, v7, AV.any, AV.any, AV.any, AV.any, AV.any, AV.any, AV.any, AV.any, AV.any, AV.any, AV.any] H
def B140_0 (K : AV → Heap → Prop) (N1 : AV → AV → Heap → Prop) (v0 : AV) (v1 : AV) (v2 : AV) (v7 : AV) (H : Heap) : Prop :=
 binV tab .gtr 3 v2 (AV.p (.int .i64 0)) fun v9 =>
 condV v9 (CallT Try.prog 67 [v0, v1] H fun v15 H1 =>
 buildSliceV tab 24 1 [(0, v15)] H1 (wkK fun v16 H2 =>
 appendV tab 24 24 v7 v16 H2 (wkK fun v17 H3 =>
 binV tab .sub 3 v2 (AV.p (.int .i64 1)) fun v11 =>
 N1 v11 v17 H3)))
 (K v7 H)
def W140 (v0 : AV) (v1 : AV) (v2 : AV) (H : Heap) (K : AV → Heap → Prop) : Prop :=
 L140_0 K v0 v1 v2 (AV.p .nil) H
theorem W140_wp (v0 : AV) (v1 : AV) (v2 : AV) (H : Heap) (K : AV → Heap → Prop) : wpC Try.prog tab D140 (bodyOf Try.f140) (retF tab [.tmp 6] K) (nthA [v0, v1, v2]) H = W140 v0 v1 v2 H K := by kernel_rfl
theorem W140_ok {v0 v1 v2 : AV} {H : Heap} {K : AV → Heap → Prop} (h : W140 v0 v1 v2 H K) : CallT Try.prog 140 [v0, v1, v2] H K :=
  CallT.of_wp (D := D140) tab_ok mixed Try.func140 (c := bodyOf Try.f140) (by kernel_rfl) rfl (by kernel_rfl) (rs := #[.tmp 6]) rfl (by decide +kernel) (by kernel_rfl) (W140_wp v0 v1 v2 H K) h
theorem W140_hb : HasBody Try.prog 140 := ⟨_, bodyOf Try.f140, Try.func140, by kernel_rfl, rfl⟩
theorem L140_0_rule {K : AV → Heap → Prop} {v0 v1 v2 v7 : AV} {H : Heap} {σ : Type} (s0 : σ) (f2 : σ → AV) (f7 : σ → AV) (TH : σ → Heap) (pre : σ → Prop) (μ : σ → Nat)
    (h0 : pre s0 ∧ AV.wk v2 (f2 s0) ∧ AV.wk v7 (f7 s0) ∧ Heap.le (TH s0) H)
    (round : ∀ s, pre s → B140_0 K (fun w2 w7 H' => ∃ s', pre s' ∧ μ s' < μ s ∧ AV.wk w2 (f2 s') ∧ AV.wk w7 (f7 s') ∧ Heap.le (TH s') H') v0 v1 (f2 s) (f7 s) (TH s)) :
    L140_0 K v0 v1 v2 v7 H := by
  unfold L140_0
  exact LoopV.mk s0 (fun s => [f2 s, f7 s]) TH pre μ (fun _ => rfl) (Eq.mp (by kernel_rfl) h0) (fun s hs => Eq.mp (by kernel_rfl) (round s hs))
theorem L140_0_ruleG {K : AV → Heap → Prop} {v0 v1 v2 v7 : AV} {H : Heap} {σ : Type} (s0 : σ) (f2 : σ → AV) (f7 : σ → AV) (TH : σ → Heap) (pre : σ → Prop) (μ : σ → Nat)
    (h0 : pre s0 ∧ AV.wk v2 (f2 s0) ∧ AV.wk v7 (f7 s0) ∧ Heap.le (TH s0) H)
    (round : ∀ s, pre s → ∀ q, TH s q = none → B140_0 K (fun w2 w7 H' => ∃ s', pre s' ∧ μ s' < μ s ∧ AV.wk w2 (f2 s') ∧ AV.wk w7 (f7 s') ∧ Heap.le (TH s') H') v0 v1 (f2 s) (f7 s) ((TH s).set q [])) :
    L140_0 K v0 v1 v2 v7 H := by
  unfold L140_0
  exact LoopV.mkG s0 (fun s => [f2 s, f7 s]) TH pre μ (fun _ => rfl) (Eq.mp (by kernel_rfl) h0) (fun s hs q hq => Eq.mp (by kernel_rfl) (round s hs q hq))
/-- loop.example/g00649/impl.isGate -/
def D141 : Info := ⟨41, fun i => ([], []), fun i => ([], [])⟩
def J141_0 (K : AV → Heap → Prop) (v1 : AV) (v2 : AV) (v35 : AV) (H : Heap) : Prop :=
 condV v35 (K (AV.p (.bool false)) H)
 (loadV tab 106 v2 H fun v37 =>
 CallT Try.prog 173 [v37] H fun v38 H4 =>
 CallT Try.prog 142 [v38, v1] H4 fun v40 H5 =>
 K v40 H5)
def W141 (v0 : AV) (v1 : AV) (H : Heap) (K : AV → Heap → Prop) : Prop :=
 boxV v0 H fun v2 H1 =>
 fieldAddrV tab 106 v2 0 fun v6 =>
 loadV tab 3 v6 H1 fun v7 =>
 binV tab .lss 3 v7 (AV.p (.int .i64 1)) fun v8 =>
 grdV v8 false (fieldAddrV tab 106 v2 0 fun v10 =>
 loadV tab 3 v10 H1 fun v11 =>
 binV tab .gtr 3 v11 (AV.p (.int .i64 5)) fun v12 =>
 condV v12 (K (AV.p (.bool false)) H1)
 (fieldAddrV tab 106 v2 0 fun v15 =>
 loadV tab 3 v15 H1 fun v16 =>
 binV tab .eql 3 v16 (AV.p (.int .i64 1)) fun v17 =>
 grdV v17 true (fieldAddrV tab 106 v2 1 fun v19 =>
 loadV tab 3 v19 H1 fun v20 =>
 binV tab .lss 3 v20 (AV.p (.int .i64 0)) fun v21 =>
 grdV v21 false (fieldAddrV tab 106 v2 1 fun v23 =>
 loadV tab 3 v23 H1 fun v24 =>
 binV tab .gtr 3 v24 (AV.p (.int .i64 1)) fun v25 =>
 condV v25 (K (AV.p (.bool false)) H1)
 (fieldAddrV tab 106 v2 0 fun v29 =>
 loadV tab 3 v29 H1 fun v30 =>
 binV tab .leq 3 v30 (AV.p (.int .i64 2)) fun v31 =>
 grdV v31 true (fieldAddrV tab 106 v2 2 fun v33 =>
 loadV tab 3 v33 H1 fun v34 =>
 binV tab .neq 3 v34 (AV.p (.int .i64 0)) fun v35 =>
 J141_0 K v1 v2 v35 H1)
 (loadV tab 106 v2 H1 fun v37 =>
 CallT Try.prog 173 [v37] H1 fun v38 H8 =>
 CallT Try.prog 142 [v38, v1] H8 fun v40 H9 =>
 K v40 H9)))
 (K (AV.p (.bool false)) H1))
 (fieldAddrV tab 106 v2 0 fun v29 =>
 loadV tab 3 v29 H1 fun v30 =>
 binV tab .leq 3 v30 (AV.p (.int .i64 2)) fun v31 =>
 grdV v31 true (fieldAddrV tab 106 v2 2 fun v33 =>
 loadV tab 3 v33 H1 fun v34 =>
 binV tab .neq 3 v34 (AV.p (.int .i64 0)) fun v35 =>
 J141_0 K v1 v2 v35 H1)
 (loadV tab 106 v2 H1 fun v37 =>
 CallT Try.prog 173 [v37] H1 fun v38 H10 =>
 CallT Try.prog 142 [v38, v1] H10 fun v40 H11 =>
 K v40 H11))))
 (K (AV.p (.bool false)) H1)
theorem W141_wp (v0 : AV) (v1 : AV) (H : Heap) (K : AV → Heap → Prop) : wpC Try.prog tab D141 (bodyOf Try.f141) (retF tab [.tmp 4] K) (nthA [v0, v1]) H = W141 v0 v1 H K := by kernel_rfl
theorem W141_ok {v0 v1 : AV} {H : Heap} {K : AV → Heap → Prop} (h : W141 v0 v1 H K) : CallT Try.prog 141 [v0, v1] H K :=
  CallT.of_wp (D := D141) tab_ok mixed Try.func141 (c := bodyOf Try.f141) (by kernel_rfl) rfl (by kernel_rfl) (rs := #[.tmp 4]) rfl (by decide +kernel) (by kernel_rfl) (W141_wp v0 v1 H K) h
theorem W141_hb : HasBody Try.prog 141 := ⟨_, bodyOf Try.f141, Try.func141, by kernel_rfl, rfl⟩
/-- loop.example/g00649/impl.areWiresBelow -/
def D142 : Info := ⟨9, fun i => ([], []), fun i => ([], [])⟩
def W142 (v0 : AV) (v1 : AV) (H : Heap) (K : AV → Heap → Prop) : Prop :=
 boxV v1 H fun v3 H1 =>
 CallT Try.prog 137 [v0, (.fn 174 [v3])] H1 fun v7 H2 =>
 unV .not v7 fun v8 =>
 K v8 H2
theorem W142_wp (v0 : AV) (v1 : AV) (H : Heap) (K : AV → Heap → Prop) : wpC Try.prog tab D142 (bodyOf Try.f142) (retF tab [.tmp 4] K) (nthA [v0, v1]) H = W142 v0 v1 H K := by kernel_rfl
theorem W142_ok {v0 v1 : AV} {H : Heap} {K : AV → Heap → Prop} (h : W142 v0 v1 H K) : CallT Try.prog 142 [v0, v1] H K :=
  CallT.of_wp (D := D142) tab_ok mixed Try.func142 (c := bodyOf Try.f142) (by kernel_rfl) rfl (by kernel_rfl) (rs := #[.tmp 4]) rfl (by decide +kernel) (by kernel_rfl) (W142_wp v0 v1 H K) h
theorem W142_hb : HasBody Try.prog 142 := ⟨_, bodyOf Try.f142, Try.func142, by kernel_rfl, rfl⟩
/-- loop.example/g00649/spec.l4Gate -/
def D143 : Info := ⟨45, fun i => ([], []), fun i => ([], [])⟩
def J143_0 (K : AV → Heap → Prop) (v1 : AV) (v2 : AV) (v29 : AV) (H : Heap) : Prop :=
 condV v29 (fieldAddrV tab 106 v2 1 fun v33 =>
 loadV tab 3 v33 H fun v34 =>
 binV tab .sub 3 v1 (AV.p (.int .i64 1)) fun v36 =>
 CallT Try.prog 75 [v34, (AV.p (.int .i64 0)), v36] H fun v37 H4 =>
 grdV v37 true (fieldAddrV tab 106 v2 2 fun v39 =>
 loadV tab 3 v39 H4 fun v40 =>
 binV tab .sub 3 v1 (AV.p (.int .i64 1)) fun v42 =>
 CallT Try.prog 75 [v40, (AV.p (.int .i64 0)), v42] H4 fun v43 H5 =>
 K v43 H5)
 (K (AV.p (.bool false)) H4))
 (K (AV.p (.bool false)) H)
def W143 (v0 : AV) (v1 : AV) (H : Heap) (K : AV → Heap → Prop) : Prop :=
 boxV v0 H fun v2 H1 =>
 fieldAddrV tab 106 v2 0 fun v5 =>
 loadV tab 3 v5 H1 fun v6 =>
 binV tab .eql 3 v6 (AV.p (.int .i64 1)) fun v8 =>
 condV v8 (fieldAddrV tab 106 v2 1 fun v9 =>
 loadV tab 3 v9 H1 fun v10 =>
 CallT Try.prog 75 [v10, (AV.p (.int .i64 0)), (AV.p (.int .i64 1))] H1 fun v11 H2 =>
 grdV v11 true (fieldAddrV tab 106 v2 2 fun v13 =>
 loadV tab 3 v13 H2 fun v14 =>
 binV tab .eql 3 v14 (AV.p (.int .i64 0)) fun v15 =>
 K v15 H2)
 (K (AV.p (.bool false)) H2))
 (binV tab .eql 3 v6 (AV.p (.int .i64 2)) fun v18 =>
 condV v18 (fieldAddrV tab 106 v2 1 fun v19 =>
 loadV tab 3 v19 H1 fun v20 =>
 binV tab .sub 3 v1 (AV.p (.int .i64 1)) fun v22 =>
 CallT Try.prog 75 [v20, (AV.p (.int .i64 0)), v22] H1 fun v23 H3 =>
 grdV v23 true (fieldAddrV tab 106 v2 2 fun v25 =>
 loadV tab 3 v25 H3 fun v26 =>
 binV tab .eql 3 v26 (AV.p (.int .i64 0)) fun v27 =>
 K v27 H3)
 (K (AV.p (.bool false)) H3))
 (binV tab .eql 3 v6 (AV.p (.int .i64 3)) fun v30 =>
 condV v30 (J143_0 K v1 v2 v30 H1)
 (binV tab .eql 3 v6 (AV.p (.int .i64 4)) fun v31 =>
 condV v31 (J143_0 K v1 v2 v31 H1)
 (binV tab .eql 3 v6 (AV.p (.int .i64 5)) fun v32 =>
 J143_0 K v1 v2 v32 H1))))
theorem W143_wp (v0 : AV) (v1 : AV) (H : Heap) (K : AV → Heap → Prop) : wpC Try.prog tab D143 (bodyOf Try.f143) (retF tab [.tmp 4] K) (nthA [v0, v1]) H = W143 v0 v1 H K := by kernel_rfl
theorem W143_ok {v0 v1 : AV} {H : Heap} {K : AV → Heap → Prop} (h : W143 v0 v1 H K) : CallT Try.prog 143 [v0, v1] H K :=
  CallT.of_wp (D := D143) tab_ok mixed Try.func143 (c := bodyOf Try.f143) (by kernel_rfl) rfl (by kernel_rfl) (rs := #[.tmp 4]) rfl (by decide +kernel) (by kernel_rfl) (W143_wp v0 v1 H K) h
theorem W143_hb : HasBody Try.prog 143 := ⟨_, bodyOf Try.f143, Try.func143, by kernel_rfl, rfl⟩
/-- slices.Clone[[]bool,bool] -/
def D144 : Info := ⟨8, fun i => ([], []), fun i => ([], [])⟩
def W144 (v0 : AV) (H : Heap) (K : AV → Heap → Prop) : Prop :=
 binV tab .eql 38 v0 (AV.p .nil) fun v4 =>
 condV v4 (K (AV.p .nil) H)
 (buildSliceV tab 38 0 [] H (wkK fun v5 H1 =>
 appendV tab 38 38 v5 v0 H1 (wkK fun v7 H2 =>
 K v7 H2)))
theorem W144_wp (v0 : AV) (H : Heap) (K : AV → Heap → Prop) : wpC Try.prog tab D144 (bodyOf Try.f144) (retF tab [.tmp 2] K) (nthA [v0]) H = W144 v0 H K := by kernel_rfl
theorem W144_ok {v0 : AV} {H : Heap} {K : AV → Heap → Prop} (h : W144 v0 H K) : CallT Try.prog 144 [v0] H K :=
  CallT.of_wp (D := D144) tab_ok mixed Try.func144 (c := bodyOf Try.f144) (by kernel_rfl) rfl (by kernel_rfl) (rs := #[.tmp 2]) rfl (by decide +kernel) (by kernel_rfl) (W144_wp v0 H K) h
theorem W144_hb : HasBody Try.prog 144 := ⟨_, bodyOf Try.f144, Try.func144, by kernel_rfl, rfl⟩
/-- (loop.example/g00649/impl.Cnf).meets$1 -/
def D145 : Info := ⟨8, fun i => ([], []), fun i => ([], [])⟩
def W145 (v0 : AV) (v1 : AV) (H : Heap) (K : AV → Heap → Prop) : Prop :=
 CallT Try.prog 137 [v0, (.fn 146 [v1])] H fun v6 H1 =>
 unV .not v6 fun v7 =>
 K v7 H1
theorem W145_wp (v0 : AV) (v1 : AV) (H : Heap) (K : AV → Heap → Prop) : wpC Try.prog tab D145 (bodyOf Try.f145) (retF tab [.tmp 3] K) (nthA [v0, v1]) H = W145 v0 v1 H K := by kernel_rfl
theorem W145_ok {v0 v1 : AV} {H : Heap} {K : AV → Heap → Prop} (h : W145 v0 v1 H K) : CallT Try.prog 145 [v0, v1] H K :=
  CallT.of_wp (D := D145) tab_ok mixed Try.func145 (c := bodyOf Try.f145) (by kernel_rfl) rfl (by kernel_rfl) (rs := #[.tmp 3]) rfl (by decide +kernel) (by kernel_rfl) (W145_wp v0 v1 H K) h
theorem W145_hb : HasBody Try.prog 145 := ⟨_, bodyOf Try.f145, Try.func145, by kernel_rfl, rfl⟩
/-- (loop.example/g00649/impl.Cnf).meets$1$1 -/
def D146 : Info := ⟨13, fun i => if i = 1 then ([[], [], [1], [1, 2], [0, 1, 2, 3], [0, 1, 2, 3, 4], [], [6], [0, 1, 2, 3, 4, 5, 6, 7], [0, 1, 2, 3, 4, 5, 6, 7, 8]], [(0, []), (1, []), (6, []), (7, []), (2, [0]), (3, []), (4, []), (5, []), (8, []), (9, [])]) else ([], []), fun i => ([], [])⟩
def W146 (v0 : AV) (v1 : AV) (H : Heap) (K : AV → Heap → Prop) : Prop :=
 loadV tab 38 v1 H fun v4 =>
 binV tab .gtr 3 v0 (AV.p (.int .i64 0)) fun v11 =>
 CallT Try.prog 147 [v0] H fun v6 H1 =>
 (loadV tab 38 v1 H1 fun v9004 =>
 v4 = v9004) ∧
 binV tab .sub 3 v6 (AV.p (.int .i64 1)) fun v7 =>
 indexAddrV tab 38 v4 v7 fun v8 =>
 loadV tab 4 v8 H1 fun v9 =>
 binV tab .eql 4 v9 v11 fun v12 =>
 K v12 H1
theorem W146_wp (v0 : AV) (v1 : AV) (H : Heap) (K : AV → Heap → Prop) : wpC Try.prog tab D146 (bodyOf Try.f146) (retF tab [.tmp 3] K) (nthA [v0, v1]) H = W146 v0 v1 H K := by kernel_rfl
theorem W146_ok {v0 v1 : AV} {H : Heap} {K : AV → Heap → Prop} (h : W146 v0 v1 H K) : CallT Try.prog 146 [v0, v1] H K :=
  CallT.of_wp (D := D146) tab_ok mixed Try.func146 (c := bodyOf Try.f146) (by kernel_rfl) rfl (by kernel_rfl) (rs := #[.tmp 3]) rfl (by decide +kernel) (by kernel_rfl) (W146_wp v0 v1 H K) h
theorem W146_hb : HasBody Try.prog 146 := ⟨_, bodyOf Try.f146, Try.func146, by kernel_rfl, rfl⟩
/-- loop.example/g00649/impl.nameOfLiteral -/
def D147 : Info := ⟨7, fun i => ([], []), fun i => ([], [])⟩
def W147 (v0 : AV) (H : Heap) (K : AV → Heap → Prop) : Prop :=
 unV .neg v0 fun v5 =>
 mmV .max v0 v5 fun v6 =>
 K v6 H
theorem W147_wp (v0 : AV) (H : Heap) (K : AV → Heap → Prop) : wpC Try.prog tab D147 (bodyOf Try.f147) (retF tab [.tmp 2] K) (nthA [v0]) H = W147 v0 H K := by kernel_rfl
theorem W147_ok {v0 : AV} {H : Heap} {K : AV → Heap → Prop} (h : W147 v0 H K) : CallT Try.prog 147 [v0] H K :=
  CallT.of_wp (D := D147) tab_ok mixed Try.func147 (c := bodyOf Try.f147) (by kernel_rfl) rfl (by kernel_rfl) (rs := #[.tmp 2]) rfl (by decide +kernel) (by kernel_rfl) (W147_wp v0 H K) h
theorem W147_hb : HasBody Try.prog 147 := ⟨_, bodyOf Try.f147, Try.func147, by kernel_rfl, rfl⟩
/-- slices.IndexFunc[[][]int,[]int] -/
def D160 : Info := ⟨19, fun i => ([], []), fun i => if i = 2 then ([0, 1, 7], [8]) else ([], [])⟩
def L160_0 (K : AV → Heap → Prop) (v0 : AV) (v1 : AV) (v7 : AV) (v8 : AV) (H : Heap) : Prop := LoopV (wpC Try.prog tab D160 (cAt [1, 0, 1, 0, 0] (bodyOf Try.f160))) [0, 1, 7] (PostF.block 0 (PostF.thenA (wpC Try.prog tab D160 (cAt [1, 1] (bodyOf Try.f160))) (retF tab [.tmp 4] K))) [8] [v0, v1, AV.any, AV.any, AV.any, AV.any, AV.any, v7, v8, AV.any, AV.any, AV.any, AV.any, AV.any, AV.any, AV.any, AV.any, AV.any, AV.any] H
def B160_0 (K : AV → Heap → Prop) (N1 : AV → Heap → Prop) (v0 : AV) (v1 : AV) (v7 : AV) (v8 : AV) (H : Heap) : Prop :=
 binV tab .lss 3 v8 v7 fun v9 =>
 condV v9 (indexAddrV tab 41 v0 v8 fun v14 =>
 loadV tab 24 v14 H fun v15 =>
 callF Try.prog v1 [v15] H fun v16 H1 =>
 condV v16 (K v8 H1)
 (binV tab .add 3 v8 (AV.p (.int .i64 1)) fun v18 =>
 N1 v18 H1))
 (K (AV.p (.int .i64 (-1))) H)
def W160 (v0 : AV) (v1 : AV) (H : Heap) (K : AV → Heap → Prop) : Prop :=
 lenV tab 41 v0 fun v7 =>
 L160_0 K v0 v1 v7 (AV.p (.int .i64 0)) H
theorem W160_wp (v0 : AV) (v1 : AV) (H : Heap) (K : AV → Heap → Prop) : wpC Try.prog tab D160 (bodyOf Try.f160) (retF tab [.tmp 4] K) (nthA [v0, v1]) H = W160 v0 v1 H K := by kernel_rfl
theorem W160_ok {v0 v1 : AV} {H : Heap} {K : AV → Heap → Prop} (h : W160 v0 v1 H K) : CallT Try.prog 160 [v0, v1] H K :=
  CallT.of_wp (D := D160) tab_ok mixed Try.func160 (c := bodyOf Try.f160) (by kernel_rfl) rfl (by kernel_rfl) (rs := #[.tmp 4]) rfl (by decide +kernel) (by kernel_rfl) (W160_wp v0 v1 H K) h
theorem W160_hb : HasBody Try.prog 160 := ⟨_, bodyOf Try.f160, Try.func160, by kernel_rfl, rfl⟩
theorem L160_0_rule {K : AV → Heap → Prop} {v0 v1 v7 v8 : AV} {H : Heap} {σ : Type} (s0 : σ) (f8 : σ → AV) (TH : σ → Heap) (pre : σ → Prop) (μ : σ → Nat)
    (h0 : pre s0 ∧ AV.wk v8 (f8 s0) ∧ Heap.le (TH s0) H)
    (round : ∀ s, pre s → B160_0 K (fun w8 H' => ∃ s', pre s' ∧ μ s' < μ s ∧ AV.wk w8 (f8 s') ∧ Heap.le (TH s') H') v0 v1 v7 (f8 s) (TH s)) :
    L160_0 K v0 v1 v7 v8 H := by
  unfold L160_0
  exact LoopV.mk s0 (fun s => [f8 s]) TH pre μ (fun _ => rfl) (Eq.mp (by kernel_rfl) h0) (fun s hs => Eq.mp (by kernel_rfl) (round s hs))
theorem L160_0_ruleG {K : AV → Heap → Prop} {v0 v1 v7 v8 : AV} {H : Heap} {σ : Type} (s0 : σ) (f8 : σ → AV) (TH : σ → Heap) (pre : σ → Prop) (μ : σ → Nat)
    (h0 : pre s0 ∧ AV.wk v8 (f8 s0) ∧ Heap.le (TH s0) H)
    (round : ∀ s, pre s → ∀ q, TH s q = none → B160_0 K (fun w8 H' => ∃ s', pre s' ∧ μ s' < μ s ∧ AV.wk w8 (f8 s') ∧ Heap.le (TH s') H') v0 v1 v7 (f8 s) ((TH s).set q [])) :
    L160_0 K v0 v1 v7 v8 H := by
  unfold L160_0
  exact LoopV.mkG s0 (fun s => [f8 s]) TH pre μ (fun _ => rfl) (Eq.mp (by kernel_rfl) h0) (fun s hs q hq => Eq.mp (by kernel_rfl) (round s hs q hq))
/-- loop.example/g00649/impl.isClause$1 -/
def D161 : Info := ⟨8, fun i => ([], []), fun i => ([], [])⟩
def W161 (v0 : AV) (v1 : AV) (H : Heap) (K : AV → Heap → Prop) : Prop :=
 loadV tab 3 v1 H fun v5 =>
 CallT Try.prog 162 [v0, v5] H fun v6 H1 =>
 unV .not v6 fun v7 =>
 K v7 H1
theorem W161_wp (v0 : AV) (v1 : AV) (H : Heap) (K : AV → Heap → Prop) : wpC Try.prog tab D161 (bodyOf Try.f161) (retF tab [.tmp 3] K) (nthA [v0, v1]) H = W161 v0 v1 H K := by kernel_rfl
theorem W161_ok {v0 v1 : AV} {H : Heap} {K : AV → Heap → Prop} (h : W161 v0 v1 H K) : CallT Try.prog 161 [v0, v1] H K :=
  CallT.of_wp (D := D161) tab_ok mixed Try.func161 (c := bodyOf Try.f161) (by kernel_rfl) rfl (by kernel_rfl) (rs := #[.tmp 3]) rfl (by decide +kernel) (by kernel_rfl) (W161_wp v0 v1 H K) h
theorem W161_hb : HasBody Try.prog 161 := ⟨_, bodyOf Try.f161, Try.func161, by kernel_rfl, rfl⟩
/-- loop.example/g00649/impl.isLiteral -/
def D162 : Info := ⟨18, fun i => ([], []), fun i => ([], [])⟩
def W162 (v0 : AV) (v1 : AV) (H : Heap) (K : AV → Heap → Prop) : Prop :=
 binV tab .neq 3 v0 (AV.p (.int .i64 0)) fun v6 =>
 grdV v6 true (unV .neg v1 fun v10 =>
 binV tab .geq 3 v0 v10 fun v11 =>
 grdV v11 true (binV tab .leq 3 v0 v1 fun v16 =>
 K v16 H)
 (K (AV.p (.bool false)) H))
 (K (AV.p (.bool false)) H)
theorem W162_wp (v0 : AV) (v1 : AV) (H : Heap) (K : AV → Heap → Prop) : wpC Try.prog tab D162 (bodyOf Try.f162) (retF tab [.tmp 4] K) (nthA [v0, v1]) H = W162 v0 v1 H K := by kernel_rfl
theorem W162_ok {v0 v1 : AV} {H : Heap} {K : AV → Heap → Prop} (h : W162 v0 v1 H K) : CallT Try.prog 162 [v0, v1] H K :=
  CallT.of_wp (D := D162) tab_ok mixed Try.func162 (c := bodyOf Try.f162) (by kernel_rfl) rfl (by kernel_rfl) (rs := #[.tmp 4]) rfl (by decide +kernel) (by kernel_rfl) (W162_wp v0 v1 H K) h
theorem W162_hb : HasBody Try.prog 162 := ⟨_, bodyOf Try.f162, Try.func162, by kernel_rfl, rfl⟩
/-- slices.IndexFunc[[]int,int] -/
def D172 : Info := ⟨19, fun i => ([], []), fun i => if i = 2 then ([0, 1, 7], [8]) else ([], [])⟩
def L172_0 (K : AV → Heap → Prop) (v0 : AV) (v1 : AV) (v7 : AV) (v8 : AV) (H : Heap) : Prop := LoopV (wpC Try.prog tab D172 (cAt [1, 0, 1, 0, 0] (bodyOf Try.f172))) [0, 1, 7] (PostF.block 0 (PostF.thenA (wpC Try.prog tab D172 (cAt [1, 1] (bodyOf Try.f172))) (retF tab [.tmp 4] K))) [8] [v0, v1, AV.any, AV.any, AV.any, AV.any, AV.any, v7, v8, AV.any, AV.any, AV.any, AV.any, AV.any, AV.any, AV.any, AV.any, AV.any, AV.any] H
def B172_0 (K : AV → Heap → Prop) (N1 : AV → Heap → Prop) (v0 : AV) (v1 : AV) (v7 : AV) (v8 : AV) (H : Heap) : Prop :=
 binV tab .lss 3 v8 v7 fun v9 =>
 condV v9 (indexAddrV tab 24 v0 v8 fun v14 =>
 loadV tab 3 v14 H fun v15 =>
 callF Try.prog v1 [v15] H fun v16 H1 =>
 condV v16 (K v8 H1)
 (binV tab .add 3 v8 (AV.p (.int .i64 1)) fun v18 =>
 N1 v18 H1))
 (K (AV.p (.int .i64 (-1))) H)
def W172 (v0 : AV) (v1 : AV) (H : Heap) (K : AV → Heap → Prop) : Prop :=
 lenV tab 24 v0 fun v7 =>
 L172_0 K v0 v1 v7 (AV.p (.int .i64 0)) H
theorem W172_wp (v0 : AV) (v1 : AV) (H : Heap) (K : AV → Heap → Prop) : wpC Try.prog tab D172 (bodyOf Try.f172) (retF tab [.tmp 4] K) (nthA [v0, v1]) H = W172 v0 v1 H K := by kernel_rfl
theorem W172_ok {v0 v1 : AV} {H : Heap} {K : AV → Heap → Prop} (h : W172 v0 v1 H K) : CallT Try.prog 172 [v0, v1] H K :=
  CallT.of_wp (D := D172) tab_ok mixed Try.func172 (c := bodyOf Try.f172) (by kernel_rfl) rfl (by kernel_rfl) (rs := #[.tmp 4]) rfl (by decide +kernel) (by kernel_rfl) (W172_wp v0 v1 H K) h
theorem W172_hb : HasBody Try.prog 172 := ⟨_, bodyOf Try.f172, Try.func172, by kernel_rfl, rfl⟩
theorem L172_0_rule {K : AV → Heap → Prop} {v0 v1 v7 v8 : AV} {H : Heap} {σ : Type} (s0 : σ) (f8 : σ → AV) (TH : σ → Heap) (pre : σ → Prop) (μ : σ → Nat)
    (h0 : pre s0 ∧ AV.wk v8 (f8 s0) ∧ Heap.le (TH s0) H)
    (round : ∀ s, pre s → B172_0 K (fun w8 H' => ∃ s', pre s' ∧ μ s' < μ s ∧ AV.wk w8 (f8 s') ∧ Heap.le (TH s') H') v0 v1 v7 (f8 s) (TH s)) :
    L172_0 K v0 v1 v7 v8 H := by
  unfold L172_0
  exact LoopV.mk s0 (fun s => [f8 s]) TH pre μ (fun _ => rfl) (Eq.mp (by kernel_rfl) h0) (fun s hs => Eq.mp (by kernel_rfl) (round s hs))
theorem L172_0_ruleG {K : AV → Heap → Prop} {v0 v1 v7 v8 : AV} {H : Heap} {σ : Type} (s0 : σ) (f8 : σ → AV) (TH : σ → Heap) (pre : σ → Prop) (μ : σ → Nat)
    (h0 : pre s0 ∧ AV.wk v8 (f8 s0) ∧ Heap.le (TH s0) H)
    (round : ∀ s, pre s → ∀ q, TH s q = none → B172_0 K (fun w8 H' => ∃ s', pre s' ∧ μ s' < μ s ∧ AV.wk w8 (f8 s') ∧ Heap.le (TH s') H') v0 v1 v7 (f8 s) ((TH s).set q [])) :
    L172_0 K v0 v1 v7 v8 H := by
  unfold L172_0
  exact LoopV.mkG s0 (fun s => [f8 s]) TH pre μ (fun _ => rfl) (Eq.mp (by kernel_rfl) h0) (fun s hs q hq => Eq.mp (by kernel_rfl) (round s hs q hq))
/-- (loop.example/g00649/impl.Gate).uses -/
def D173 : Info := ⟨17, fun i => ([], []), fun i => ([], [])⟩
def W173 (v0 : AV) (H : Heap) (K : AV → Heap → Prop) : Prop :=
 boxV v0 H fun v1 H1 =>
 fieldAddrV tab 106 v1 0 fun v3 =>
 loadV tab 3 v3 H1 fun v4 =>
 binV tab .eql 3 v4 (AV.p (.int .i64 1)) fun v6 =>
 condV v6 (K (AV.p .nil) H1)
 (binV tab .eql 3 v4 (AV.p (.int .i64 2)) fun v8 =>
 condV v8 (fieldAddrV tab 106 v1 1 fun v9 =>
 loadV tab 3 v9 H1 fun v10 =>
 buildSliceV tab 24 1 [(0, v10)] H1 (wkK fun v11 H2 =>
 K v11 H2))
 (fieldAddrV tab 106 v1 1 fun v12 =>
 loadV tab 3 v12 H1 fun v13 =>
 fieldAddrV tab 106 v1 2 fun v14 =>
 loadV tab 3 v14 H1 fun v15 =>
 buildSliceV tab 24 2 [(0, v13), (1, v15)] H1 (wkK fun v16 H3 =>
 K v16 H3)))
theorem W173_wp (v0 : AV) (H : Heap) (K : AV → Heap → Prop) : wpC Try.prog tab D173 (bodyOf Try.f173) (retF tab [.tmp 2] K) (nthA [v0]) H = W173 v0 H K := by kernel_rfl
theorem W173_ok {v0 : AV} {H : Heap} {K : AV → Heap → Prop} (h : W173 v0 H K) : CallT Try.prog 173 [v0] H K :=
  CallT.of_wp (D := D173) tab_ok mixed Try.func173 (c := bodyOf Try.f173) (by kernel_rfl) rfl (by kernel_rfl) (rs := #[.tmp 2]) rfl (by decide +kernel) (by kernel_rfl) (W173_wp v0 H K) h
theorem W173_hb : HasBody Try.prog 173 := ⟨_, bodyOf Try.f173, Try.func173, by kernel_rfl, rfl⟩
/-- loop.example/g00649/impl.areWiresBelow$1 -/
def D174 : Info := ⟨11, fun i => ([], []), fun i => ([], [])⟩
def W174 (v0 : AV) (v1 : AV) (H : Heap) (K : AV → Heap → Prop) : Prop :=
 binV tab .lss 3 v0 (AV.p (.int .i64 0)) fun v5 =>
 grdV v5 false (loadV tab 3 v1 H fun v8 =>
 binV tab .geq 3 v0 v8 fun v9 =>
 K v9 H)
 (K (AV.p (.bool true)) H)
theorem W174_wp (v0 : AV) (v1 : AV) (H : Heap) (K : AV → Heap → Prop) : wpC Try.prog tab D174 (bodyOf Try.f174) (retF tab [.tmp 3] K) (nthA [v0, v1]) H = W174 v0 v1 H K := by kernel_rfl
theorem W174_ok {v0 v1 : AV} {H : Heap} {K : AV → Heap → Prop} (h : W174 v0 v1 H K) : CallT Try.prog 174 [v0, v1] H K :=
  CallT.of_wp (D := D174) tab_ok mixed Try.func174 (c := bodyOf Try.f174) (by kernel_rfl) rfl (by kernel_rfl) (rs := #[.tmp 3]) rfl (by decide +kernel) (by kernel_rfl) (W174_wp v0 v1 H K) h
theorem W174_hb : HasBody Try.prog 174 := ⟨_, bodyOf Try.f174, Try.func174, by kernel_rfl, rfl⟩
end Go.Proofs.Ytjbdahlhphdalaa
