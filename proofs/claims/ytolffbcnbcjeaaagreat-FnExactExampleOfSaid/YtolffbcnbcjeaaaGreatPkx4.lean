/- Texts laid together: W3 W4 W5 W6. -/
import Derived.Test.YtolffbcnbcjeaaaGreatPkx3
import Derived.KernelRfl
set_option linter.unusedVariables false
set_option linter.unusedSimpArgs false
open Go.Sep.AV renaming any → Q_
open Nat renaming reduceAdd→ν1,reduceLeDiff→ν2,reduceLT→ν3,reduceMul→ν4,reduceSub→ν5
open Int renaming reduceToNat→ι1,reduceSub→ι2,reduceAdd→ι3,reduceNeg→ι4
open Array renaming toList→ι5
open Ne renaming symm→ν6
open List renaming forall_mem_cons→ν7
namespace Go.Proofs.YtolffbcnbcjeaaaGreat
open Go Go.Sep
attribute [local irreducible] wpC headF
def D46:Info:=⟨27,fun i=>if i=6 then ([[],[],[0,1],[0,1,2],[],[],[4,5],[4,5,6],[0,1,2,3,4,5,6,7],[0,1,2,3,4,5,6,7,8]],[(0,[]),(1,[]),(2,[]),(3,[]),(4,[]),(5,[]),(6,[]),(7,[]),(8,[]),(9,[])]) else ([],[]),fun i=>if i=4 then ([0,1],[5]) else ([],[])⟩
def L46_0 (K:AV→Heap→Prop) (v0:AV) (v1:AV) (v5:AV) (H:Heap):Prop:=LoopV (wpC Tryz.prog tab D46 (cAt [1,1,0,1,0,0] (bO_ Tryz.f46))) [0,1] (PostF.block 0 (PostF.thenA (wpC Tryz.prog tab D46 (cAt [1,1,1] (bO_ Tryz.f46))) (retF tab [.tmp 4] K))) [5] [v0,v1,Q_,Q_,Q_,v5,Q_,Q_,Q_,Q_,Q_,Q_,Q_,Q_,Q_,Q_,Q_,Q_,Q_,Q_,Q_,Q_,Q_,Q_,Q_,Q_,Q_] H
def B46_0 (K:AV→Heap→Prop) (N1:AV→Heap→Prop) (v0:AV) (v1:AV) (v5:AV) (H:Heap):Prop:=
 lenV tab 24 v0 fun v13=>
 binV tab .lss 3 v5 v13 fun v14=>
 cV_ v14 (iA_ tab 24 v0 v5 fun v19=>
 lV_ tab 22 v19 H fun v20=>
 iA_ tab 24 v1 v5 fun v23=>
 lV_ tab 22 v23 H fun v24=>
 CallT Tryz.prog 44 [v20,v24] H fun v25 H1=>
 unV .not v25 fun v26=>
 cV_ v26 (K (AV.p (.bool false)) H1)
 (binV tab .add 3 v5 (AV.p (.int .i64 1)) fun v16=>
 N1 v16 H1))
 (K (AV.p (.bool true)) H)
def W46 (v0:AV) (v1:AV) (H:Heap) (K:AV→Heap→Prop):Prop:=
 lenV tab 24 v0 fun v7=>
 lenV tab 24 v1 fun v9=>
 binV tab .neq 3 v7 v9 fun v10=>
 cV_ v10 (K (AV.p (.bool false)) H)
 (L46_0 K v0 v1 (AV.p (.int .i64 0)) H)
theorem W46_wp (v0:AV) (v1:AV) (H:Heap) (K:AV→Heap→Prop):wpC Tryz.prog tab D46 (bO_ Tryz.f46) (retF tab [.tmp 4] K) (nthA [v0,v1]) H=W46 v0 v1 H K:=by kernel_rfl
theorem W46_ok {v0 v1:AV} {H:Heap} {K:AV→Heap→Prop} (h:W46 v0 v1 H K):CallT Tryz.prog 46 [v0,v1] H K:=
 CallT.of_wp (D:=D46) tO_ mixed Tryz.func46 (c:=bO_ Tryz.f46) (by kernel_rfl) rfl (by kernel_rfl) (rs:=#[.tmp 4]) rfl (by decide +kernel) (by kernel_rfl) (W46_wp v0 v1 H K) h
theorem L46_0_rule {K:AV→Heap→Prop} {v0 v1 v5:AV} {H:Heap} {σ:Type} (s0:σ) (f5:σ→AV) (TH:σ→Heap) (pre:σ→Prop) (μ:σ→Nat)
  (h0:pre s0∧AV.wk v5 (f5 s0)∧Heap.le (TH s0) H)
  (round:∀s,pre s→B46_0 K (fun w5 H'=>∃s',pre s'∧μ s' < μ s∧AV.wk w5 (f5 s')∧Heap.le (TH s') H') v0 v1 (f5 s) (TH s)) :
  L46_0 K v0 v1 v5 H:=by
 unfold L46_0
 exact LoopV.mk s0 (fun s=>[f5 s]) TH pre μ (fun _=>rfl) (Eq.mp (by kernel_rfl) h0) (fun s hs=>Eq.mp (by kernel_rfl) (round s hs))
def D47:Info:=⟨19,fun i=>([],[]),fun i=>if i=2 then ([0],[1,5]) else ([],[])⟩
def L47_0 (K:AV→Heap→Prop) (v0:AV) (v1:AV) (v5:AV) (H:Heap):Prop:=LoopV (wpC Tryz.prog tab D47 (cAt [1,0,1,0,0] (bO_ Tryz.f47))) [0] (PostF.block 0 (PostF.thenA (wpC Tryz.prog tab D47 (cAt [1,1] (bO_ Tryz.f47))) (retF tab [.tmp 4] K))) [1,5] [v0,v1,Q_,Q_,Q_,v5,Q_,Q_,Q_,Q_,Q_,Q_,Q_,Q_,Q_,Q_,Q_,Q_,Q_] H
def B47_0 (K:AV→Heap→Prop) (N1:AV→AV→Heap→Prop) (v0:AV) (v1:AV) (v5:AV) (H:Heap):Prop:=
 lenV tab 22 v0 fun v8=>
 binV tab .lss 3 v5 v8 fun v9=>
 cV_ v9 (iA_ tab 22 v0 v5 fun v15=>
 sV_ tab 3 v15 v1 H fun H1=>
 binV tab .add 3 v1 (AV.p (.int .i64 1)) fun v17=>
 binV tab .add 3 v5 (AV.p (.int .i64 1)) fun v11=>
 N1 v17 v11 H1)
 (K v1 H)
def W47 (v0:AV) (v1:AV) (H:Heap) (K:AV→Heap→Prop):Prop:=
 L47_0 K v0 v1 (AV.p (.int .i64 0)) H
theorem W47_wp (v0:AV) (v1:AV) (H:Heap) (K:AV→Heap→Prop):wpC Tryz.prog tab D47 (bO_ Tryz.f47) (retF tab [.tmp 4] K) (nthA [v0,v1]) H=W47 v0 v1 H K:=by kernel_rfl
theorem W47_ok {v0 v1:AV} {H:Heap} {K:AV→Heap→Prop} (h:W47 v0 v1 H K):CallT Tryz.prog 47 [v0,v1] H K:=
 CallT.of_wp (D:=D47) tO_ mixed Tryz.func47 (c:=bO_ Tryz.f47) (by kernel_rfl) rfl (by kernel_rfl) (rs:=#[.tmp 4]) rfl (by decide +kernel) (by kernel_rfl) (W47_wp v0 v1 H K) h
theorem L47_0_rule {K:AV→Heap→Prop} {v0 v1 v5:AV} {H:Heap} {σ:Type} (s0:σ) (f1:σ→AV) (f5:σ→AV) (TH:σ→Heap) (pre:σ→Prop) (μ:σ→Nat)
  (h0:pre s0∧AV.wk v1 (f1 s0)∧AV.wk v5 (f5 s0)∧Heap.le (TH s0) H)
  (round:∀s,pre s→B47_0 K (fun w1 w5 H'=>∃s',pre s'∧μ s' < μ s∧AV.wk w1 (f1 s')∧AV.wk w5 (f5 s')∧Heap.le (TH s') H') v0 (f1 s) (f5 s) (TH s)) :
  L47_0 K v0 v1 v5 H:=by
 unfold L47_0
 exact LoopV.mk s0 (fun s=>[f1 s,f5 s]) TH pre μ (fun _=>rfl) (Eq.mp (by kernel_rfl) h0) (fun s hs=>Eq.mp (by kernel_rfl) (round s hs))
def D50:Info:=⟨21,fun i=>([],[]),fun i=>if i=2 then ([0],[1,5]) else ([],[])⟩
def L50_0 (K:AV→Heap→Prop) (v0:AV) (v1:AV) (v5:AV) (H:Heap):Prop:=LoopV (wpC Tryz.prog tab D50 (cAt [1,0,1,0,0] (bO_ Tryz.f50))) [0] (PostF.block 0 (PostF.thenA (wpC Tryz.prog tab D50 (cAt [1,1] (bO_ Tryz.f50))) (retF tab [.tmp 4] K))) [1,5] [v0,v1,Q_,Q_,Q_,v5,Q_,Q_,Q_,Q_,Q_,Q_,Q_,Q_,Q_,Q_,Q_,Q_,Q_,Q_,Q_] H
def B50_0 (K:AV→Heap→Prop) (N1:AV→AV→Heap→Prop) (v0:AV) (v1:AV) (v5:AV) (H:Heap):Prop:=
 lenV tab 22 v0 fun v8=>
 binV tab .lss 3 v5 v8 fun v9=>
 cV_ v9 (iA_ tab 22 v0 v5 fun v14=>
 lV_ tab 3 v14 H fun v15=>
 binV tab .neq 3 v15 v1 fun v17=>
 cV_ v17 (K (AV.p (.int .i64 (-1))) H)
 (binV tab .add 3 v1 (AV.p (.int .i64 1)) fun v19=>
 binV tab .add 3 v5 (AV.p (.int .i64 1)) fun v11=>
 N1 v19 v11 H))
 (K v1 H)
def W50 (v0:AV) (v1:AV) (H:Heap) (K:AV→Heap→Prop):Prop:=
 L50_0 K v0 v1 (AV.p (.int .i64 0)) H
theorem W50_wp (v0:AV) (v1:AV) (H:Heap) (K:AV→Heap→Prop):wpC Tryz.prog tab D50 (bO_ Tryz.f50) (retF tab [.tmp 4] K) (nthA [v0,v1]) H=W50 v0 v1 H K:=by kernel_rfl
theorem W50_ok {v0 v1:AV} {H:Heap} {K:AV→Heap→Prop} (h:W50 v0 v1 H K):CallT Tryz.prog 50 [v0,v1] H K:=
 CallT.of_wp (D:=D50) tO_ mixed Tryz.func50 (c:=bO_ Tryz.f50) (by kernel_rfl) rfl (by kernel_rfl) (rs:=#[.tmp 4]) rfl (by decide +kernel) (by kernel_rfl) (W50_wp v0 v1 H K) h
theorem L50_0_rule {K:AV→Heap→Prop} {v0 v1 v5:AV} {H:Heap} {σ:Type} (s0:σ) (f1:σ→AV) (f5:σ→AV) (TH:σ→Heap) (pre:σ→Prop) (μ:σ→Nat)
  (h0:pre s0∧AV.wk v1 (f1 s0)∧AV.wk v5 (f5 s0)∧Heap.le (TH s0) H)
  (round:∀s,pre s→B50_0 K (fun w1 w5 H'=>∃s',pre s'∧μ s' < μ s∧AV.wk w1 (f1 s')∧AV.wk w5 (f5 s')∧Heap.le (TH s') H') v0 (f1 s) (f5 s) (TH s)) :
  L50_0 K v0 v1 v5 H:=by
 unfold L50_0
 exact LoopV.mk s0 (fun s=>[f1 s,f5 s]) TH pre μ (fun _=>rfl) (Eq.mp (by kernel_rfl) h0) (fun s hs=>Eq.mp (by kernel_rfl) (round s hs))
def D51:Info:=⟨11,fun i=>([],[]),fun i=>([],[])⟩
def W51 (v0:AV) (H:Heap) (K:AV→Heap→Prop):Prop:=
 CallT Tryz.prog 91 [v0] H fun v4 H1=>
 grdV v4 true (CallT Tryz.prog 92 [v0] H1 fun v7 H2=>
 lenV tab 22 v7 fun v8=>
 binV tab .leq 3 v8 (AV.p (.int .i64 5)) fun v9=>
 K v9 H2)
 (K (AV.p (.bool false)) H1)
theorem W51_wp (v0:AV) (H:Heap) (K:AV→Heap→Prop):wpC Tryz.prog tab D51 (bO_ Tryz.f51) (retF tab [.tmp 2] K) (nthA [v0]) H=W51 v0 H K:=by kernel_rfl
theorem W51_ok {v0:AV} {H:Heap} {K:AV→Heap→Prop} (h:W51 v0 H K):CallT Tryz.prog 51 [v0] H K:=
 CallT.of_wp (D:=D51) tO_ mixed Tryz.func51 (c:=bO_ Tryz.f51) (by kernel_rfl) rfl (by kernel_rfl) (rs:=#[.tmp 2]) rfl (by decide +kernel) (by kernel_rfl) (W51_wp v0 H K) h
def D53:Info:=⟨67,fun i=>([],[]),fun i=>if i=5 then ([0,1,4,5,6,7],[8]) else if i=10 then ([0,1,4,5,6,7,8],[9]) else if i=13 then ([0,1,4,5,6,7,8,9],[10]) else ([],[])⟩
def L53_0 (K:AV→Heap→Prop) (v0:AV) (v1:AV) (v4:AV) (v5:AV) (v6:AV) (v7:AV) (v8:AV) (H:Heap):Prop:=LoopV (wpC Tryz.prog tab D53 (cAt [1,1,1,1,0,1,0,0] (bO_ Tryz.f53))) [0,1,4,5,6,7] (PostF.block 0 (PostF.thenA (wpC Tryz.prog tab D53 (cAt [1,1,1,1,1] (bO_ Tryz.f53))) (retF tab [.cell 4 34] K))) [8] [v0,v1,Q_,Q_,v4,v5,v6,v7,v8,Q_,Q_,Q_,Q_,Q_,Q_,Q_,Q_,Q_,Q_,Q_,Q_,Q_,Q_,Q_,Q_,Q_,Q_,Q_,Q_,Q_,Q_,Q_,Q_,Q_,Q_,Q_,Q_,Q_,Q_,Q_,Q_,Q_,Q_,Q_,Q_,Q_,Q_,Q_,Q_,Q_,Q_,Q_,Q_,Q_,Q_,Q_,Q_,Q_,Q_,Q_,Q_,Q_,Q_,Q_,Q_,Q_,Q_] H
def L53_1 (K:AV→Heap→Prop) (N1:AV→Heap→Prop) (v0:AV) (v1:AV) (v4:AV) (v5:AV) (v6:AV) (v7:AV) (v8:AV) (v9:AV) (H:Heap):Prop:=LoopV (wpC Tryz.prog tab D53 (cAt [1,1,1,1,0,1,0,0,1,0,0,1,1,0,0] (bO_ Tryz.f53))) [0,1,4,5,6,7,8] (PostF.block 2 (PostF.block 1 (PostF.thenA (wpC Tryz.prog tab D53 (cAt [1,1,1,1,0,1,0,0,1,1] (bO_ Tryz.f53))) (loopF (PostF.block 0 (PostF.thenA (wpC Tryz.prog tab D53 (cAt [1,1,1,1,1] (bO_ Tryz.f53))) (retF tab [.cell 4 34] K))) (fun e h=>N1 (e 8) h))))) [9] [v0,v1,Q_,Q_,v4,v5,v6,v7,v8,v9,Q_,Q_,Q_,Q_,Q_,Q_,Q_,Q_,Q_,Q_,Q_,Q_,Q_,Q_,Q_,Q_,Q_,Q_,Q_,Q_,Q_,Q_,Q_,Q_,Q_,Q_,Q_,Q_,Q_,Q_,Q_,Q_,Q_,Q_,Q_,Q_,Q_,Q_,Q_,Q_,Q_,Q_,Q_,Q_,Q_,Q_,Q_,Q_,Q_,Q_,Q_,Q_,Q_,Q_,Q_,Q_,Q_] H
def L53_2 (K:AV→Heap→Prop) (N1:AV→Heap→Prop) (N2:AV→Heap→Prop) (v0:AV) (v1:AV) (v4:AV) (v5:AV) (v6:AV) (v7:AV) (v8:AV) (v9:AV) (v10:AV) (H:Heap):Prop:=LoopV (wpC Tryz.prog tab D53 (cAt [1,1,1,1,0,1,0,0,1,0,0,1,1,0,0,1,0,0,1,0,0] (bO_ Tryz.f53))) [0,1,4,5,6,7,8,9] (PostF.block 4 (PostF.block 3 (PostF.thenA (wpC Tryz.prog tab D53 (cAt [1,1,1,1,0,1,0,0,1,0,0,1,1,0,0,1,1] (bO_ Tryz.f53))) (loopF (PostF.block 2 (PostF.block 1 (PostF.thenA (wpC Tryz.prog tab D53 (cAt [1,1,1,1,0,1,0,0,1,1] (bO_ Tryz.f53))) (loopF (PostF.block 0 (PostF.thenA (wpC Tryz.prog tab D53 (cAt [1,1,1,1,1] (bO_ Tryz.f53))) (retF tab [.cell 4 34] K))) (fun e h=>N1 (e 8) h))))) (fun e h=>N2 (e 9) h))))) [10] [v0,v1,Q_,Q_,v4,v5,v6,v7,v8,v9,v10,Q_,Q_,Q_,Q_,Q_,Q_,Q_,Q_,Q_,Q_,Q_,Q_,Q_,Q_,Q_,Q_,Q_,Q_,Q_,Q_,Q_,Q_,Q_,Q_,Q_,Q_,Q_,Q_,Q_,Q_,Q_,Q_,Q_,Q_,Q_,Q_,Q_,Q_,Q_,Q_,Q_,Q_,Q_,Q_,Q_,Q_,Q_,Q_,Q_,Q_,Q_,Q_,Q_,Q_,Q_,Q_] H
def B53_2 (K:AV→Heap→Prop) (N1:AV→Heap→Prop) (N2:AV→Heap→Prop) (N3:AV→Heap→Prop) (v0:AV) (v1:AV) (v4:AV) (v5:AV) (v6:AV) (v7:AV) (v8:AV) (v9:AV) (v10:AV) (H:Heap):Prop:=
 binV tab .lss 3 v10 v6 fun v47=>
 cV_ v47 (CallT Tryz.prog 95 [v0,v5,v9,v10] H fun v54 H10=>
 binV tab .eql 3 v54 v8 fun v56=>
 cV_ v56 (fA_ tab 34 v7 2 fun v57=>
 lV_ tab 32 v57 H10 fun v58=>
 buildV tab 84 [(0,v8),(1,v9),(2,v10)] fun v62=>
 bS_ tab 32 1 [(0,v62)] H10 (wkK fun v63 H11=>
 aP_ tab 32 32 v58 v63 H11 (wkK fun v64 H12=>
 fA_ tab 34 v7 2 fun v65=>
 sV_ tab 32 v65 v64 H12 fun H13=>
 binV tab .add 3 v10 (AV.p (.int .i64 1)) fun v49=>
 N3 v49 H13)))
 (binV tab .add 3 v10 (AV.p (.int .i64 1)) fun v49=>
 N3 v49 H10))
 (binV tab .add 3 v9 (AV.p (.int .i64 1)) fun v44=>
 N2 v44 H)
def B53_1 (K:AV→Heap→Prop) (N1:AV→Heap→Prop) (N2:AV→Heap→Prop) (v0:AV) (v1:AV) (v4:AV) (v5:AV) (v6:AV) (v7:AV) (v8:AV) (v9:AV) (H:Heap):Prop:=
 binV tab .lss 3 v9 (AV.p (.int .i64 8)) fun v42=>
 cV_ v42 (L53_2 K N1 N2 v0 v1 v4 v5 v6 v7 v8 v9 (AV.p (.int .i64 0)) H)
 (binV tab .add 3 v8 (AV.p (.int .i64 1)) fun v26=>
 N1 v26 H)
def B53_0 (K:AV→Heap→Prop) (N1:AV→Heap→Prop) (v0:AV) (v1:AV) (v4:AV) (v5:AV) (v6:AV) (v7:AV) (v8:AV) (H:Heap):Prop:=
 binV tab .lss 3 v8 v6 fun v24=>
 cV_ v24 (lenV tab 45 v0 fun v30=>
 binV tab .sub 3 v30 (AV.p (.int .i64 1)) fun v31=>
 CallT Tryz.prog 94 [v5,v8,v31] H fun v32 H6=>
 binV tab .neq 4 v32 v1 fun v34=>
 cV_ v34 (fA_ tab 34 v7 1 fun v35=>
 lV_ tab 22 v35 H6 fun v36=>
 bS_ tab 22 1 [(0,v8)] H6 (wkK fun v38 H7=>
 aP_ tab 22 22 v36 v38 H7 (wkK fun v39 H8=>
 fA_ tab 34 v7 1 fun v40=>
 sV_ tab 22 v40 v39 H8 fun H9=>
 L53_1 K N1 v0 v1 v4 v5 v6 v7 v8 (AV.p (.int .i64 0)) H9)))
 (L53_1 K N1 v0 v1 v4 v5 v6 v7 v8 (AV.p (.int .i64 0)) H6))
 (lV_ tab 34 v7 H fun v66=>
 sV_ tab 34 v4 v66 H fun H14=>
 lV_ tab 34 v4 H14 fun r0=>
 K r0 H14)
def W53 (v0:AV) (v1:AV) (H:Heap) (K:AV→Heap→Prop):Prop:=
 allocV tab 34 H fun v4 H1=>
 CallT Tryz.prog 92 [v0] H1 fun v12 H2=>
 lenV tab 22 v12 fun v14=>
 convV tab 3 111 v14 fun v15=>
 binV tab .shl 3 (AV.p (.int .i64 1)) v15 fun v16=>
 CallT Tryz.prog 93 [v0,v12] H2 fun v20 H3=>
 buildV tab 34 [(0,v16),(3,v20)] fun v21=>
 allocV tab 34 H3 fun v7 H4=>
 sV_ tab 34 v7 v21 H4 fun H5=>
 L53_0 K v0 v1 v4 v12 v16 v7 (AV.p (.int .i64 0)) H5
theorem W53_wp (v0:AV) (v1:AV) (H:Heap) (K:AV→Heap→Prop):wpC Tryz.prog tab D53 (bO_ Tryz.f53) (retF tab [.cell 4 34] K) (nthA [v0,v1]) H=W53 v0 v1 H K:=by kernel_rfl
theorem W53_ok {v0 v1:AV} {H:Heap} {K:AV→Heap→Prop} (h:W53 v0 v1 H K):CallT Tryz.prog 53 [v0,v1] H K:=
 CallT.of_wp (D:=D53) tO_ mixed Tryz.func53 (c:=bO_ Tryz.f53) (by kernel_rfl) rfl (by kernel_rfl) (rs:=#[.cell 4 34]) rfl (by decide +kernel) (by kernel_rfl) (W53_wp v0 v1 H K) h
theorem W53_hb:HasBody Tryz.prog 53:=⟨_,bO_ Tryz.f53,Tryz.func53,by kernel_rfl,rfl⟩
theorem L53_2_rule {K:AV→Heap→Prop} {N1:AV→Heap→Prop} {N2:AV→Heap→Prop} {v0 v1 v4 v5 v6 v7 v8 v9 v10:AV} {H:Heap} {σ:Type} (s0:σ) (f10:σ→AV) (TH:σ→Heap) (pre:σ→Prop) (μ:σ→Nat)
  (h0:pre s0∧AV.wk v10 (f10 s0)∧Heap.le (TH s0) H)
  (round:∀s,pre s→B53_2 K N1 N2 (fun w10 H'=>∃s',pre s'∧μ s' < μ s∧AV.wk w10 (f10 s')∧Heap.le (TH s') H') v0 v1 v4 v5 v6 v7 v8 v9 (f10 s) (TH s)) :
  L53_2 K N1 N2 v0 v1 v4 v5 v6 v7 v8 v9 v10 H:=by
 unfold L53_2
 exact LoopV.mk s0 (fun s=>[f10 s]) TH pre μ (fun _=>rfl) (Eq.mp (by kernel_rfl) h0) (fun s hs=>Eq.mp (by kernel_rfl) (round s hs))
theorem L53_1_rule {K:AV→Heap→Prop} {N1:AV→Heap→Prop} {v0 v1 v4 v5 v6 v7 v8 v9:AV} {H:Heap} {σ:Type} (s0:σ) (f9:σ→AV) (TH:σ→Heap) (pre:σ→Prop) (μ:σ→Nat)
  (h0:pre s0∧AV.wk v9 (f9 s0)∧Heap.le (TH s0) H)
  (round:∀s,pre s→B53_1 K N1 (fun w9 H'=>∃s',pre s'∧μ s' < μ s∧AV.wk w9 (f9 s')∧Heap.le (TH s') H') v0 v1 v4 v5 v6 v7 v8 (f9 s) (TH s)) :
  L53_1 K N1 v0 v1 v4 v5 v6 v7 v8 v9 H:=by
 unfold L53_1
 exact LoopV.mk s0 (fun s=>[f9 s]) TH pre μ (fun _=>rfl) (Eq.mp (by kernel_rfl) h0) (fun s hs=>Eq.mp (by kernel_rfl) (round s hs))
theorem L53_0_rule {K:AV→Heap→Prop} {v0 v1 v4 v5 v6 v7 v8:AV} {H:Heap} {σ:Type} (s0:σ) (f8:σ→AV) (TH:σ→Heap) (pre:σ→Prop) (μ:σ→Nat)
  (h0:pre s0∧AV.wk v8 (f8 s0)∧Heap.le (TH s0) H)
  (round:∀s,pre s→B53_0 K (fun w8 H'=>∃s',pre s'∧μ s' < μ s∧AV.wk w8 (f8 s')∧Heap.le (TH s') H') v0 v1 v4 v5 v6 v7 (f8 s) (TH s)) :
  L53_0 K v0 v1 v4 v5 v6 v7 v8 H:=by
 unfold L53_0
 exact LoopV.mk s0 (fun s=>[f8 s]) TH pre μ (fun _=>rfl) (Eq.mp (by kernel_rfl) h0) (fun s hs=>Eq.mp (by kernel_rfl) (round s hs))
def D54:Info:=⟨11,fun i=>([],[]),fun i=>([],[])⟩
def W54 (v0:AV) (H:Heap) (K:AV→Heap→Prop):Prop:=
 boxV v0 H fun v1 H1=>
 allocV tab 76 H1 fun v2 H2=>
 allocV tab 76 H2 fun v3 H3=>
 fA_ tab 78 v1 0 fun v4=>
 lV_ tab 3 v4 H3 fun v5=>
 fA_ tab 76 v3 0 fun v6=>
 sV_ tab 3 v6 v5 H3 fun H4=>
 fA_ tab 78 v1 1 fun v7=>
 lV_ tab 3 v7 H4 fun v8=>
 fA_ tab 76 v3 1 fun v9=>
 sV_ tab 3 v9 v8 H4 fun H5=>
 lV_ tab 76 v3 H5 fun v10=>
 sV_ tab 76 v2 v10 H5 fun H6=>
 lV_ tab 76 v2 H6 fun r0=>
 K r0 H6
theorem W54_wp (v0:AV) (H:Heap) (K:AV→Heap→Prop):wpC Tryz.prog tab D54 (bO_ Tryz.f54) (retF tab [.cell 2 76] K) (nthA [v0]) H=W54 v0 H K:=by kernel_rfl
theorem W54_ok {v0:AV} {H:Heap} {K:AV→Heap→Prop} (h:W54 v0 H K):CallT Tryz.prog 54 [v0] H K:=
 CallT.of_wp (D:=D54) tO_ mixed Tryz.func54 (c:=bO_ Tryz.f54) (by kernel_rfl) rfl (by kernel_rfl) (rs:=#[.cell 2 76]) rfl (by decide +kernel) (by kernel_rfl) (W54_wp v0 H K) h
def D55:Info:=⟨13,fun i=>([],[]),fun i=>([],[])⟩
def W55 (v0:AV) (H:Heap) (K:AV→Heap→Prop):Prop:=
 allocV tab 34 H fun v2 H1=>
 CallT Tryz.prog 60 [v0] H1 fun v5 H2=>
 unV .not v5 fun v6=>
 cV_ v6 (buildV tab 34 [] fun v7=>
 sV_ tab 34 v2 v7 H2 fun H3=>
 lV_ tab 34 v2 H3 fun r0=>
 K (.tup [r0,(AV.p (.bool false))]) H3)
 (CallT Tryz.prog 62 [v0,(AV.p (.bool true))] H2 fun v9 H4=>
 CallT Tryz.prog 96 [v9] H4 fun v10 H5=>
 xV_ v10 0 fun v11=>
 xV_ v10 1 fun v12=>
 sV_ tab 34 v2 v11 H5 fun H6=>
 lV_ tab 34 v2 H6 fun r0=>
 K (.tup [r0,v12]) H6)
theorem W55_wp (v0:AV) (H:Heap) (K:AV→Heap→Prop):wpC Tryz.prog tab D55 (bO_ Tryz.f55) (retF tab [.cell 2 34,.tmp 3] K) (nthA [v0]) H=W55 v0 H K:=by kernel_rfl
theorem W55_ok {v0:AV} {H:Heap} {K:AV→Heap→Prop} (h:W55 v0 H K):CallT Tryz.prog 55 [v0] H K:=
 CallT.of_wp (D:=D55) tO_ mixed Tryz.func55 (c:=bO_ Tryz.f55) (by kernel_rfl) rfl (by kernel_rfl) (rs:=#[.cell 2 34,.tmp 3]) rfl (by decide +kernel) (by kernel_rfl) (W55_wp v0 H K) h
theorem W55_hb:HasBody Tryz.prog 55:=⟨_,bO_ Tryz.f55,Tryz.func55,by kernel_rfl,rfl⟩
def D56:Info:=⟨49,fun i=>if i=5 then ([[],[0],[0,1],[0,1],[0,1,2,3],[0,1,2,3,4],[0,1,2,3,4,5],[0,1,2,3,4,5,6],[0,1,2,3,4,5,6,7],[0,1,2,3,4,5,6,7,8],[0,1,2,3,4,5,6,7,8,9],[0,1,2,3,4,5,6,7,8,9,10],[0,1,2,3,4,5,6,7,8,9,10,11],[0,1,2,3,4,5,6,7,8,9,10,11],[0,1,2,3,4,5,6,7,8,9,10,11,12,13],[0,1,2,3,4,5,6,7,8,9,10,11,12,13,14],[0,1,2,3,4,5,6,7,8,9,10,11],[0,1,2,3,4,5,6,7,8,9,10,11],[0,1,2,3,4,5,6,7,8,9,10,11,16,17],[0,1,2,3,4,5,6,7,8,9,10,11,16,17,18],[0,1,2,3,4,5,6,7,8,9,10,11,12,13,14,15,16,17,18,19],[0,1,2,3,4,5,6,7,8,9,10,11,12,13,14,15,16,17,18,19,20],[0,1,2,3,4,5,6,7,8,9,10,11,12,13,14,15,16,17,18,19,20,21]],[(0,[]),(1,[]),(2,[]),(3,[]),(4,[]),(5,[]),(6,[]),(7,[]),(8,[]),(9,[]),(10,[]),(11,[]),(12,[]),(13,[]),(14,[]),(15,[]),(16,[]),(17,[]),(18,[]),(19,[]),(20,[]),(21,[]),(22,[])]) else ([],[]),fun i=>if i=3 then ([7,16,17],[8,18]) else ([],[])⟩
def L56_0 (K:AV→Heap→Prop) (v7:AV) (v8:AV) (v16:AV) (v17:AV) (v18:AV) (H:Heap):Prop:=LoopV (wpC Tryz.prog tab D56 (cAt [1,1,0,1,0,0] (bO_ Tryz.f56))) [7,16,17] (PostF.block 0 (PostF.thenA (wpC Tryz.prog tab D56 (cAt [1,1,1] (bO_ Tryz.f56))) (retF tab [.tmp 6] K))) [8,18] [Q_,Q_,Q_,Q_,Q_,Q_,Q_,v7,v8,Q_,Q_,Q_,Q_,Q_,Q_,Q_,v16,v17,v18,Q_,Q_,Q_,Q_,Q_,Q_,Q_,Q_,Q_,Q_,Q_,Q_,Q_,Q_,Q_,Q_,Q_,Q_,Q_,Q_,Q_,Q_,Q_,Q_,Q_,Q_,Q_,Q_,Q_,Q_] H
def B56_0 (K:AV→Heap→Prop) (N1:AV→AV→Heap→Prop) (v7:AV) (v8:AV) (v16:AV) (v17:AV) (v18:AV) (H:Heap):Prop:=
 binV tab .lss 3 v18 v17 fun v19=>
 cV_ v19 (iA_ tab 116 v16 v18 fun v21=>
 lV_ tab 4 v21 H fun v22=>
 grdV v22 true (iA_ tab 22 v7 v18 fun v27=>
 lV_ tab 3 v27 H fun v28=>
 binV tab .geq 3 v28 (AV.p (.int .i64 0)) fun v29=>
 grdV v29 true (binV tab .lss 3 v8 (AV.p (.int .i64 0)) fun v33=>
 grdV v33 false (iA_ tab 22 v7 v18 fun v37=>
 lV_ tab 3 v37 H fun v38=>
 iA_ tab 22 v7 v8 fun v41=>
 lV_ tab 3 v41 H fun v42=>
 binV tab .lss 3 v38 v42 fun v43=>
 cV_ v43 (binV tab .add 3 v18 (AV.p (.int .i64 1)) fun v47=>
 N1 v18 v47 H)
 (binV tab .add 3 v18 (AV.p (.int .i64 1)) fun v47=>
 N1 v8 v47 H))
 (binV tab .add 3 v18 (AV.p (.int .i64 1)) fun v47=>
 N1 v18 v47 H))
 (binV tab .add 3 v18 (AV.p (.int .i64 1)) fun v47=>
 N1 v8 v47 H))
 (binV tab .add 3 v18 (AV.p (.int .i64 1)) fun v47=>
 N1 v8 v47 H))
 (K v8 H)
def W56 (v0:AV) (v1:AV) (v2:AV) (H:Heap) (K:AV→Heap→Prop):Prop:=
 CallT Tryz.prog 97 [v0,v1] H fun v13 H1=>
 CallT Tryz.prog 98 [v0,v2] H1 fun v16 H2=>
 lenV tab 116 v16 fun v17=>
 L56_0 K v13 (AV.p (.int .i64 (-1))) v16 v17 (AV.p (.int .i64 0)) H2
theorem W56_wp (v0:AV) (v1:AV) (v2:AV) (H:Heap) (K:AV→Heap→Prop):wpC Tryz.prog tab D56 (bO_ Tryz.f56) (retF tab [.tmp 6] K) (nthA [v0,v1,v2]) H=W56 v0 v1 v2 H K:=by kernel_rfl
theorem W56_ok {v0 v1 v2:AV} {H:Heap} {K:AV→Heap→Prop} (h:W56 v0 v1 v2 H K):CallT Tryz.prog 56 [v0,v1,v2] H K:=
 CallT.of_wp (D:=D56) tO_ mixed Tryz.func56 (c:=bO_ Tryz.f56) (by kernel_rfl) rfl (by kernel_rfl) (rs:=#[.tmp 6]) rfl (by decide +kernel) (by kernel_rfl) (W56_wp v0 v1 v2 H K) h
theorem L56_0_rule {K:AV→Heap→Prop} {v7 v8 v16 v17 v18:AV} {H:Heap} {σ:Type} (s0:σ) (f8:σ→AV) (f18:σ→AV) (TH:σ→Heap) (pre:σ→Prop) (μ:σ→Nat)
  (h0:pre s0∧AV.wk v8 (f8 s0)∧AV.wk v18 (f18 s0)∧Heap.le (TH s0) H)
  (round:∀s,pre s→B56_0 K (fun w8 w18 H'=>∃s',pre s'∧μ s' < μ s∧AV.wk w8 (f8 s')∧AV.wk w18 (f18 s')∧Heap.le (TH s') H') v7 (f8 s) v16 v17 (f18 s) (TH s)) :
  L56_0 K v7 v8 v16 v17 v18 H:=by
 unfold L56_0
 exact LoopV.mk s0 (fun s=>[f8 s,f18 s]) TH pre μ (fun _=>rfl) (Eq.mp (by kernel_rfl) h0) (fun s hs=>Eq.mp (by kernel_rfl) (round s hs))
def D57:Info:=⟨15,fun i=>([],[]),fun i=>([],[])⟩
def W57 (v0:AV) (v1:AV) (H:Heap) (K:AV→Heap→Prop):Prop:=
 boxV v0 H fun v2 H1=>
 boxV v1 H1 fun v3 H2=>
 fA_ tab 76 v2 0 fun v5=>
 lV_ tab 3 v5 H2 fun v6=>
 fA_ tab 76 v3 0 fun v7=>
 lV_ tab 3 v7 H2 fun v8=>
 binV tab .neq 3 v6 v8 fun v9=>
 cV_ v9 (K (AV.p (.bool false)) H2)
 (fA_ tab 76 v2 1 fun v10=>
 lV_ tab 3 v10 H2 fun v11=>
 fA_ tab 76 v3 1 fun v12=>
 lV_ tab 3 v12 H2 fun v13=>
 binV tab .neq 3 v11 v13 fun v14=>
 cV_ v14 (K (AV.p (.bool false)) H2)
 (K (AV.p (.bool true)) H2))
theorem W57_wp (v0:AV) (v1:AV) (H:Heap) (K:AV→Heap→Prop):wpC Tryz.prog tab D57 (bO_ Tryz.f57) (retF tab [.tmp 4] K) (nthA [v0,v1]) H=W57 v0 v1 H K:=by kernel_rfl
theorem W57_ok {v0 v1:AV} {H:Heap} {K:AV→Heap→Prop} (h:W57 v0 v1 H K):CallT Tryz.prog 57 [v0,v1] H K:=
 CallT.of_wp (D:=D57) tO_ mixed Tryz.func57 (c:=bO_ Tryz.f57) (by kernel_rfl) rfl (by kernel_rfl) (rs:=#[.tmp 4]) rfl (by decide +kernel) (by kernel_rfl) (W57_wp v0 v1 H K) h
def D60:Info:=⟨11,fun i=>([],[]),fun i=>([],[])⟩
def W60 (v0:AV) (H:Heap) (K:AV→Heap→Prop):Prop:=
 CallT Tryz.prog 99 [v0] H fun v4 H1=>
 grdV v4 true (CallT Tryz.prog 100 [v0] H1 fun v7 H2=>
 lenV tab 22 v7 fun v8=>
 binV tab .leq 3 v8 (AV.p (.int .i64 5)) fun v9=>
 K v9 H2)
 (K (AV.p (.bool false)) H1)
theorem W60_wp (v0:AV) (H:Heap) (K:AV→Heap→Prop):wpC Tryz.prog tab D60 (bO_ Tryz.f60) (retF tab [.tmp 2] K) (nthA [v0]) H=W60 v0 H K:=by kernel_rfl
theorem W60_ok {v0:AV} {H:Heap} {K:AV→Heap→Prop} (h:W60 v0 H K):CallT Tryz.prog 60 [v0] H K:=
 CallT.of_wp (D:=D60) tO_ mixed Tryz.func60 (c:=bO_ Tryz.f60) (by kernel_rfl) rfl (by kernel_rfl) (rs:=#[.tmp 2]) rfl (by decide +kernel) (by kernel_rfl) (W60_wp v0 H K) h
end Go.Proofs.YtolffbcnbcjeaaaGreat
namespace Go.Proofs.YtolffbcnbcjeaaaGreat
open Go Go.Sep
attribute [local irreducible] wpC headF
def D62:Info:=⟨42,fun i=>if i=8 then ([[],[0],[],[],[],[2,3,4],[],[],[2,3,4,5,6,7],[2,3,4,5,6,7,8],[0,1,2,3,4,5,6,7,8,9],[0,1,2,3,4,5,6,7,8,9,10],[0,1,2,3,4,5,6,7,8,9,10,11]],[(0,[]),(1,[]),(2,[]),(3,[]),(4,[]),(6,[]),(7,[]),(5,[1]),(8,[]),(9,[1]),(10,[]),(11,[]),(12,[])]) else ([],[]),fun i=>if i=3 then ([0,4,5],[16]) else if i=6 then ([0,4,5,6,16,20],[21]) else ([],[])⟩
def L62_0 (K:AV→Heap→Prop) (v0:AV) (v4:AV) (v5:AV) (v16:AV) (H:Heap):Prop:=LoopV (wpC Tryz.prog tab D62 (cAt [1,1,0,1,0,0] (bO_ Tryz.f62))) [0,4,5] (PostF.block 0 (PostF.thenA (wpC Tryz.prog tab D62 (cAt [1,1,1] (bO_ Tryz.f62))) (retF tab [.cell 4 34] K))) [16] [v0,Q_,Q_,Q_,v4,v5,Q_,Q_,Q_,Q_,Q_,Q_,Q_,Q_,Q_,Q_,v16,Q_,Q_,Q_,Q_,Q_,Q_,Q_,Q_,Q_,Q_,Q_,Q_,Q_,Q_,Q_,Q_,Q_,Q_,Q_,Q_,Q_,Q_,Q_,Q_,Q_] H
def L62_1 (K:AV→Heap→Prop) (N1:AV→Heap→Prop) (v0:AV) (v4:AV) (v5:AV) (v6:AV) (v16:AV) (v20:AV) (v21:AV) (H:Heap):Prop:=LoopV (wpC Tryz.prog tab D62 (cAt [1,1,0,1,0,0,1,1,0,0,1,1,0,0] (bO_ Tryz.f62))) [0,4,5,6,16,20] (PostF.block 2 (PostF.block 1 (PostF.thenA (wpC Tryz.prog tab D62 (cAt [1,1,0,1,0,0,1,1,1] (bO_ Tryz.f62))) (loopF (PostF.block 0 (PostF.thenA (wpC Tryz.prog tab D62 (cAt [1,1,1] (bO_ Tryz.f62))) (retF tab [.cell 4 34] K))) (fun e h=>N1 (e 16) h))))) [21] [v0,Q_,Q_,Q_,v4,v5,v6,Q_,Q_,Q_,Q_,Q_,Q_,Q_,Q_,Q_,v16,Q_,Q_,Q_,v20,v21,Q_,Q_,Q_,Q_,Q_,Q_,Q_,Q_,Q_,Q_,Q_,Q_,Q_,Q_,Q_,Q_,Q_,Q_,Q_,Q_] H
def B62_1 (K:AV→Heap→Prop) (N1:AV→Heap→Prop) (N2:AV→Heap→Prop) (v0:AV) (v4:AV) (v5:AV) (v6:AV) (v16:AV) (v20:AV) (v21:AV) (H:Heap):Prop:=
 binV tab .lss 3 v21 v20 fun v22=>
 cV_ v22 (fA_ tab 34 v5 2 fun v24=>
 lV_ tab 32 v24 H fun v25=>
 CallT Tryz.prog 105 [v0,v6,v21] H fun v29 H7=>
 (lV_ tab 32 v24 H7 fun v9025=>
 v25=v9025)∧
 buildV tab 84 [(0,v29),(1,v6),(2,v21)] fun v32=>
 bS_ tab 32 1 [(0,v32)] H7 (wkK fun v33 H8=>
 (lV_ tab 32 v24 H8 fun v9025=>
 v25=v9025)∧
 aP_ tab 32 32 v25 v33 H8 (wkK fun v34 H9=>
 fA_ tab 34 v5 2 fun v35=>
 sV_ tab 32 v35 v34 H9 fun H10=>
 binV tab .add 3 v21 (AV.p (.int .i64 1)) fun v36=>
 N2 v36 H10)))
 (binV tab .add 3 v16 (AV.p (.int .i64 1)) fun v37=>
 N1 v37 H)
def B62_0 (K:AV→Heap→Prop) (N1:AV→Heap→Prop) (v0:AV) (v4:AV) (v5:AV) (v16:AV) (H:Heap):Prop:=
 binV tab .lss 3 v16 (AV.p (.int .i64 8)) fun v17=>
 cV_ v17 (fA_ tab 34 v5 0 fun v19=>
 lV_ tab 3 v19 H fun v20=>
 L62_1 K N1 v0 v4 v5 v16 v16 v20 (AV.p (.int .i64 0)) H)
 (fA_ tab 34 v5 2 fun v38=>
 lV_ tab 32 v38 H fun v39=>
 CallT Tryz.prog 101 [v39,(.fn 77 [])] H fun v40 H11=>
 lV_ tab 34 v5 H11 fun v41=>
 sV_ tab 34 v4 v41 H11 fun H12=>
 lV_ tab 34 v4 H12 fun r0=>
 K r0 H12)
def W62 (v0:AV) (v1:AV) (H:Heap) (K:AV→Heap→Prop):Prop:=
 allocV tab 34 H fun v4 H1=>
 CallT Tryz.prog 102 [v0] H1 fun v9 H2=>
 CallT Tryz.prog 103 [v0,v1] H2 fun v12 H3=>
 CallT Tryz.prog 104 [v0] H3 fun v14 H4=>
 buildV tab 34 [(0,v9),(1,v12),(3,v14)] fun v15=>
 allocV tab 34 H4 fun v5 H5=>
 sV_ tab 34 v5 v15 H5 fun H6=>
 L62_0 K v0 v4 v5 (AV.p (.int .i64 0)) H6
theorem W62_wp (v0:AV) (v1:AV) (H:Heap) (K:AV→Heap→Prop):wpC Tryz.prog tab D62 (bO_ Tryz.f62) (retF tab [.cell 4 34] K) (nthA [v0,v1]) H=W62 v0 v1 H K:=by kernel_rfl
theorem W62_ok {v0 v1:AV} {H:Heap} {K:AV→Heap→Prop} (h:W62 v0 v1 H K):CallT Tryz.prog 62 [v0,v1] H K:=
 CallT.of_wp (D:=D62) tO_ mixed Tryz.func62 (c:=bO_ Tryz.f62) (by kernel_rfl) rfl (by kernel_rfl) (rs:=#[.cell 4 34]) rfl (by decide +kernel) (by kernel_rfl) (W62_wp v0 v1 H K) h
theorem W62_hb:HasBody Tryz.prog 62:=⟨_,bO_ Tryz.f62,Tryz.func62,by kernel_rfl,rfl⟩
theorem L62_1_rule {K:AV→Heap→Prop} {N1:AV→Heap→Prop} {v0 v4 v5 v6 v16 v20 v21:AV} {H:Heap} {σ:Type} (s0:σ) (f21:σ→AV) (TH:σ→Heap) (pre:σ→Prop) (μ:σ→Nat)
  (h0:pre s0∧AV.wk v21 (f21 s0)∧Heap.le (TH s0) H)
  (round:∀s,pre s→B62_1 K N1 (fun w21 H'=>∃s',pre s'∧μ s' < μ s∧AV.wk w21 (f21 s')∧Heap.le (TH s') H') v0 v4 v5 v6 v16 v20 (f21 s) (TH s)) :
  L62_1 K N1 v0 v4 v5 v6 v16 v20 v21 H:=by
 unfold L62_1
 exact LoopV.mk s0 (fun s=>[f21 s]) TH pre μ (fun _=>rfl) (Eq.mp (by kernel_rfl) h0) (fun s hs=>Eq.mp (by kernel_rfl) (round s hs))
theorem L62_0_rule {K:AV→Heap→Prop} {v0 v4 v5 v16:AV} {H:Heap} {σ:Type} (s0:σ) (f16:σ→AV) (TH:σ→Heap) (pre:σ→Prop) (μ:σ→Nat)
  (h0:pre s0∧AV.wk v16 (f16 s0)∧Heap.le (TH s0) H)
  (round:∀s,pre s→B62_0 K (fun w16 H'=>∃s',pre s'∧μ s' < μ s∧AV.wk w16 (f16 s')∧Heap.le (TH s') H') v0 v4 v5 (f16 s) (TH s)) :
  L62_0 K v0 v4 v5 v16 H:=by
 unfold L62_0
 exact LoopV.mk s0 (fun s=>[f16 s]) TH pre μ (fun _=>rfl) (Eq.mp (by kernel_rfl) h0) (fun s hs=>Eq.mp (by kernel_rfl) (round s hs))
def D63:Info:=⟨15,fun i=>([],[]),fun i=>([],[])⟩
def W63 (v0:AV) (v1:AV) (v2:AV) (H:Heap) (K:AV→Heap→Prop):Prop:=
 binV tab .geq 3 v0 v1 fun v9=>
 grdV v9 true (binV tab .leq 3 v0 v2 fun v13=>
 K v13 H)
 (K (AV.p (.bool false)) H)
theorem W63_wp (v0:AV) (v1:AV) (v2:AV) (H:Heap) (K:AV→Heap→Prop):wpC Tryz.prog tab D63 (bO_ Tryz.f63) (retF tab [.tmp 6] K) (nthA [v0,v1,v2]) H=W63 v0 v1 v2 H K:=by kernel_rfl
theorem W63_ok {v0 v1 v2:AV} {H:Heap} {K:AV→Heap→Prop} (h:W63 v0 v1 v2 H K):CallT Tryz.prog 63 [v0,v1,v2] H K:=
 CallT.of_wp (D:=D63) tO_ mixed Tryz.func63 (c:=bO_ Tryz.f63) (by kernel_rfl) rfl (by kernel_rfl) (rs:=#[.tmp 6]) rfl (by decide +kernel) (by kernel_rfl) (W63_wp v0 v1 v2 H K) h
def D64:Info:=⟨9,fun i=>([],[]),fun i=>([],[])⟩
def W64 (v0:AV) (v1:AV) (H:Heap) (K:AV→Heap→Prop):Prop:=
 binV tab .sub 3 v1 (AV.p (.int .i64 1)) fun v7=>
 CallT Tryz.prog 106 [v0,(AV.p (.int .i64 0)),v7] H fun v8 H1=>
 K v8 H1
theorem W64_wp (v0:AV) (v1:AV) (H:Heap) (K:AV→Heap→Prop):wpC Tryz.prog tab D64 (bO_ Tryz.f64) (retF tab [.tmp 4] K) (nthA [v0,v1]) H=W64 v0 v1 H K:=by kernel_rfl
theorem W64_ok {v0 v1:AV} {H:Heap} {K:AV→Heap→Prop} (h:W64 v0 v1 H K):CallT Tryz.prog 64 [v0,v1] H K:=
 CallT.of_wp (D:=D64) tO_ mixed Tryz.func64 (c:=bO_ Tryz.f64) (by kernel_rfl) rfl (by kernel_rfl) (rs:=#[.tmp 4]) rfl (by decide +kernel) (by kernel_rfl) (W64_wp v0 v1 H K) h
def D65:Info:=⟨21,fun i=>([],[]),fun i=>if i=4 then ([1,10,11],[12]) else ([],[])⟩
def L65_0 (K:AV→Heap→Prop) (v1:AV) (v10:AV) (v11:AV) (v12:AV) (H:Heap):Prop:=LoopV (wpC Tryz.prog tab D65 (cAt [1,1,0,1,0,0] (bO_ Tryz.f65))) [1,10,11] (PostF.block 0 (PostF.thenA (wpC Tryz.prog tab D65 (cAt [1,1,1] (bO_ Tryz.f65))) (retF tab [.tmp 4] K))) [12] [Q_,v1,Q_,Q_,Q_,Q_,Q_,Q_,Q_,Q_,v10,v11,v12,Q_,Q_,Q_,Q_,Q_,Q_,Q_,Q_] H
def B65_0 (K:AV→Heap→Prop) (N1:AV→Heap→Prop) (v1:AV) (v10:AV) (v11:AV) (v12:AV) (H:Heap):Prop:=
 binV tab .lss 3 v12 v11 fun v13=>
 cV_ v13 (iA_ tab 24 v10 v12 fun v14=>
 lV_ tab 22 v14 H fun v15=>
 CallT Tryz.prog 64 [v15,v1] H fun v18 H1=>
 unV .not v18 fun v19=>
 cV_ v19 (K (AV.p (.bool false)) H1)
 (binV tab .add 3 v12 (AV.p (.int .i64 1)) fun v20=>
 N1 v20 H1))
 (K (AV.p (.bool true)) H)
def W65 (v0:AV) (v1:AV) (H:Heap) (K:AV→Heap→Prop):Prop:=
 lenV tab 24 v0 fun v8=>
 binV tab .gtr 3 v8 (AV.p (.int .i64 6)) fun v9=>
 cV_ v9 (K (AV.p (.bool false)) H)
 (lenV tab 24 v0 fun v11=>
 L65_0 K v1 v0 v11 (AV.p (.int .i64 0)) H)
theorem W65_wp (v0:AV) (v1:AV) (H:Heap) (K:AV→Heap→Prop):wpC Tryz.prog tab D65 (bO_ Tryz.f65) (retF tab [.tmp 4] K) (nthA [v0,v1]) H=W65 v0 v1 H K:=by kernel_rfl
theorem W65_ok {v0 v1:AV} {H:Heap} {K:AV→Heap→Prop} (h:W65 v0 v1 H K):CallT Tryz.prog 65 [v0,v1] H K:=
 CallT.of_wp (D:=D65) tO_ mixed Tryz.func65 (c:=bO_ Tryz.f65) (by kernel_rfl) rfl (by kernel_rfl) (rs:=#[.tmp 4]) rfl (by decide +kernel) (by kernel_rfl) (W65_wp v0 v1 H K) h
theorem L65_0_rule {K:AV→Heap→Prop} {v1 v10 v11 v12:AV} {H:Heap} {σ:Type} (s0:σ) (f12:σ→AV) (TH:σ→Heap) (pre:σ→Prop) (μ:σ→Nat)
  (h0:pre s0∧AV.wk v12 (f12 s0)∧Heap.le (TH s0) H)
  (round:∀s,pre s→B65_0 K (fun w12 H'=>∃s',pre s'∧μ s' < μ s∧AV.wk w12 (f12 s')∧Heap.le (TH s') H') v1 v10 v11 (f12 s) (TH s)) :
  L65_0 K v1 v10 v11 v12 H:=by
 unfold L65_0
 exact LoopV.mk s0 (fun s=>[f12 s]) TH pre μ (fun _=>rfl) (Eq.mp (by kernel_rfl) h0) (fun s hs=>Eq.mp (by kernel_rfl) (round s hs))
def D66:Info:=⟨30,fun i=>([],[]),fun i=>([],[])⟩
def W66 (v0:AV) (v1:AV) (H:Heap) (K:AV→Heap→Prop):Prop:=
 boxV v0 H fun v2 H1=>
 boxV v1 H1 fun v3 H2=>
 fA_ tab 84 v2 0 fun v5=>
 lV_ tab 3 v5 H2 fun v6=>
 fA_ tab 84 v3 0 fun v7=>
 lV_ tab 3 v7 H2 fun v8=>
 binV tab .neq 3 v6 v8 fun v9=>
 cV_ v9 (fA_ tab 84 v2 0 fun v10=>
 lV_ tab 3 v10 H2 fun v11=>
 fA_ tab 84 v3 0 fun v12=>
 lV_ tab 3 v12 H2 fun v13=>
 binV tab .lss 3 v11 v13 fun v14=>
 K v14 H2)
 (fA_ tab 84 v2 1 fun v15=>
 lV_ tab 3 v15 H2 fun v16=>
 fA_ tab 84 v3 1 fun v17=>
 lV_ tab 3 v17 H2 fun v18=>
 binV tab .neq 3 v16 v18 fun v19=>
 cV_ v19 (fA_ tab 84 v2 1 fun v20=>
 lV_ tab 3 v20 H2 fun v21=>
 fA_ tab 84 v3 1 fun v22=>
 lV_ tab 3 v22 H2 fun v23=>
 binV tab .lss 3 v21 v23 fun v24=>
 K v24 H2)
 (fA_ tab 84 v2 2 fun v25=>
 lV_ tab 3 v25 H2 fun v26=>
 fA_ tab 84 v3 2 fun v27=>
 lV_ tab 3 v27 H2 fun v28=>
 binV tab .lss 3 v26 v28 fun v29=>
 K v29 H2))
theorem W66_wp (v0:AV) (v1:AV) (H:Heap) (K:AV→Heap→Prop):wpC Tryz.prog tab D66 (bO_ Tryz.f66) (retF tab [.tmp 4] K) (nthA [v0,v1]) H=W66 v0 v1 H K:=by kernel_rfl
theorem W66_ok {v0 v1:AV} {H:Heap} {K:AV→Heap→Prop} (h:W66 v0 v1 H K):CallT Tryz.prog 66 [v0,v1] H K:=
 CallT.of_wp (D:=D66) tO_ mixed Tryz.func66 (c:=bO_ Tryz.f66) (by kernel_rfl) rfl (by kernel_rfl) (rs:=#[.tmp 4]) rfl (by decide +kernel) (by kernel_rfl) (W66_wp v0 v1 H K) h
end Go.Proofs.YtolffbcnbcjeaaaGreat
namespace Go.Proofs.YtolffbcnbcjeaaaGreat
open Go Go.Sep
attribute [local irreducible] wpC headF
def D67:Info:=⟨73,fun i=>([],[]),fun i=>if i=3 then ([0,1,5,17],[18]) else if i=8 then ([0,1,5,25,26],[27]) else if i=13 then ([0,5],[9]) else if i=17 then ([0,5,10,48,49],[9,50]) else ([],[])⟩
def L67_0 (K:AV→Heap→Prop) (v0:AV) (v1:AV) (v5:AV) (v17:AV) (v18:AV) (H:Heap):Prop:=LoopV (wpC Tryz.prog tab D67 (cAt [1,1,0,1,0,0] (bO_ Tryz.f67))) [0,1,5,17] (PostF.block 0 (PostF.thenA (wpC Tryz.prog tab D67 (cAt [1,1,1] (bO_ Tryz.f67))) (retF tab [.tmp 4] K))) [18] [v0,v1,Q_,Q_,Q_,v5,Q_,Q_,Q_,Q_,Q_,Q_,Q_,Q_,Q_,Q_,Q_,v17,v18,Q_,Q_,Q_,Q_,Q_,Q_,Q_,Q_,Q_,Q_,Q_,Q_,Q_,Q_,Q_,Q_,Q_,Q_,Q_,Q_,Q_,Q_,Q_,Q_,Q_,Q_,Q_,Q_,Q_,Q_,Q_,Q_,Q_,Q_,Q_,Q_,Q_,Q_,Q_,Q_,Q_,Q_,Q_,Q_,Q_,Q_,Q_,Q_,Q_,Q_,Q_,Q_,Q_,Q_] H
def L67_1 (K:AV→Heap→Prop) (v0:AV) (v1:AV) (v5:AV) (v25:AV) (v26:AV) (v27:AV) (H:Heap):Prop:=LoopV (wpC Tryz.prog tab D67 (cAt [1,1,1,0,1,0,0] (bO_ Tryz.f67))) [0,1,5,25,26] (PostF.block 2 (PostF.thenA (wpC Tryz.prog tab D67 (cAt [1,1,1,1] (bO_ Tryz.f67))) (retF tab [.tmp 4] K))) [27] [v0,v1,Q_,Q_,Q_,v5,Q_,Q_,Q_,Q_,Q_,Q_,Q_,Q_,Q_,Q_,Q_,Q_,Q_,Q_,Q_,Q_,Q_,Q_,Q_,v25,v26,v27,Q_,Q_,Q_,Q_,Q_,Q_,Q_,Q_,Q_,Q_,Q_,Q_,Q_,Q_,Q_,Q_,Q_,Q_,Q_,Q_,Q_,Q_,Q_,Q_,Q_,Q_,Q_,Q_,Q_,Q_,Q_,Q_,Q_,Q_,Q_,Q_,Q_,Q_,Q_,Q_,Q_,Q_,Q_,Q_,Q_] H
def L67_2 (K:AV→Heap→Prop) (v0:AV) (v5:AV) (v9:AV) (H:Heap):Prop:=LoopV (wpC Tryz.prog tab D67 (cAt [1,1,1,1,1,0,0,0] (bO_ Tryz.f67))) [0,5] (PostF.block 4 (PostF.thenA (wpC Tryz.prog tab D67 (cAt [1,1,1,1,1,1] (bO_ Tryz.f67))) (retF tab [.tmp 4] K))) [9] [v0,Q_,Q_,Q_,Q_,v5,Q_,Q_,Q_,v9,Q_,Q_,Q_,Q_,Q_,Q_,Q_,Q_,Q_,Q_,Q_,Q_,Q_,Q_,Q_,Q_,Q_,Q_,Q_,Q_,Q_,Q_,Q_,Q_,Q_,Q_,Q_,Q_,Q_,Q_,Q_,Q_,Q_,Q_,Q_,Q_,Q_,Q_,Q_,Q_,Q_,Q_,Q_,Q_,Q_,Q_,Q_,Q_,Q_,Q_,Q_,Q_,Q_,Q_,Q_,Q_,Q_,Q_,Q_,Q_,Q_,Q_,Q_] H
def L67_3 (K:AV→Heap→Prop) (N1:AV→Heap→Prop) (v0:AV) (v5:AV) (v9:AV) (v10:AV) (v48:AV) (v49:AV) (v50:AV) (H:Heap):Prop:=LoopV (wpC Tryz.prog tab D67 (cAt [1,1,1,1,1,0,0,0,1,0,1,1,1,0,0] (bO_ Tryz.f67))) [0,5,10,48,49] (PostF.block 6 (PostF.block 5 (loopF (PostF.block 4 (PostF.thenA (wpC Tryz.prog tab D67 (cAt [1,1,1,1,1,1] (bO_ Tryz.f67))) (retF tab [.tmp 4] K))) (fun e h=>N1 (e 9) h)))) [9,50] [v0,Q_,Q_,Q_,Q_,v5,Q_,Q_,Q_,v9,v10,Q_,Q_,Q_,Q_,Q_,Q_,Q_,Q_,Q_,Q_,Q_,Q_,Q_,Q_,Q_,Q_,Q_,Q_,Q_,Q_,Q_,Q_,Q_,Q_,Q_,Q_,Q_,Q_,Q_,Q_,Q_,Q_,Q_,Q_,Q_,Q_,Q_,v48,v49,v50,Q_,Q_,Q_,Q_,Q_,Q_,Q_,Q_,Q_,Q_,Q_,Q_,Q_,Q_,Q_,Q_,Q_,Q_,Q_,Q_,Q_,Q_] H
def B67_3 (K:AV→Heap→Prop) (N1:AV→Heap→Prop) (N2:AV→AV→Heap→Prop) (v0:AV) (v5:AV) (v9:AV) (v10:AV) (v48:AV) (v49:AV) (v50:AV) (H:Heap):Prop:=
 binV tab .lss 3 v50 v49 fun v51=>
 cV_ v51 (iA_ tab 22 v48 v50 fun v52=>
 lV_ tab 3 v52 H fun v53=>
 iA_ tab 22 v5 v53 fun v56=>
 lV_ tab 3 v56 H fun v57=>
 binV tab .lss 3 v57 (AV.p (.int .i64 0)) fun v58=>
 cV_ v58 (iA_ tab 22 v5 v10 fun v63=>
 lV_ tab 3 v63 H fun v64=>
 binV tab .add 3 v64 (AV.p (.int .i64 1)) fun v65=>
 iA_ tab 22 v5 v53 fun v66=>
 sV_ tab 3 v66 v65 H fun H5=>
 bS_ tab 22 1 [(0,v53)] H5 (wkK fun v69 H6=>
 aP_ tab 22 22 v9 v69 H6 (wkK fun v70 H7=>
 binV tab .add 3 v50 (AV.p (.int .i64 1)) fun v71=>
 N2 v70 v71 H7)))
 (binV tab .add 3 v50 (AV.p (.int .i64 1)) fun v71=>
 N2 v9 v71 H))
 (N1 v9 H)
def B67_2 (K:AV→Heap→Prop) (N1:AV→Heap→Prop) (v0:AV) (v5:AV) (v9:AV) (H:Heap):Prop:=
 lenV tab 22 v9 fun v38=>
 binV tab .gtr 3 v38 (AV.p (.int .i64 0)) fun v39=>
 cV_ v39 (iA_ tab 22 v9 (AV.p (.int .i64 0)) fun v41=>
 lV_ tab 3 v41 H fun v42=>
 sliceV tab 22 v9 (some (AV.p (.int .i64 1))) none none fun v44=>
 iA_ tab 24 v0 v42 fun v47=>
 lV_ tab 22 v47 H fun v48=>
 lenV tab 22 v48 fun v49=>
 L67_3 K N1 v0 v5 v44 v42 v48 v49 (AV.p (.int .i64 0)) H)
 (K v5 H)
def B67_1 (K:AV→Heap→Prop) (N1:AV→Heap→Prop) (v0:AV) (v1:AV) (v5:AV) (v25:AV) (v26:AV) (v27:AV) (H:Heap):Prop:=
 binV tab .lss 3 v27 v26 fun v28=>
 cV_ v28 (iA_ tab 22 v25 v27 fun v29=>
 lV_ tab 3 v29 H fun v30=>
 iA_ tab 22 v5 v30 fun v33=>
 sV_ tab 3 v33 (AV.p (.int .i64 0)) H fun H3=>
 binV tab .add 3 v27 (AV.p (.int .i64 1)) fun v34=>
 N1 v34 H3)
 (CallT Tryz.prog 32 [v1] H fun v36 H4=>
 L67_2 K v0 v5 v36 H4)
def B67_0 (K:AV→Heap→Prop) (N1:AV→Heap→Prop) (v0:AV) (v1:AV) (v5:AV) (v17:AV) (v18:AV) (H:Heap):Prop:=
 binV tab .lss 3 v18 v17 fun v19=>
 cV_ v19 (iA_ tab 22 v5 v18 fun v23=>
 sV_ tab 3 v23 (AV.p (.int .i64 (-1))) H fun H2=>
 binV tab .add 3 v18 (AV.p (.int .i64 1)) fun v24=>
 N1 v24 H2)
 (lenV tab 22 v1 fun v26=>
 L67_1 K v0 v1 v5 v1 v26 (AV.p (.int .i64 0)) H)
def W67 (v0:AV) (v1:AV) (H:Heap) (K:AV→Heap→Prop):Prop:=
 lenV tab 24 v0 fun v14=>
 mS_ tab 22 v14 v14 H fun v15 H1=>
 lenV tab 22 v15 fun v17=>
 L67_0 K v0 v1 v15 v17 (AV.p (.int .i64 0)) H1
theorem W67_wp (v0:AV) (v1:AV) (H:Heap) (K:AV→Heap→Prop):wpC Tryz.prog tab D67 (bO_ Tryz.f67) (retF tab [.tmp 4] K) (nthA [v0,v1]) H=W67 v0 v1 H K:=by kernel_rfl
theorem W67_ok {v0 v1:AV} {H:Heap} {K:AV→Heap→Prop} (h:W67 v0 v1 H K):CallT Tryz.prog 67 [v0,v1] H K:=
 CallT.of_wp (D:=D67) tO_ mixed Tryz.func67 (c:=bO_ Tryz.f67) (by kernel_rfl) rfl (by kernel_rfl) (rs:=#[.tmp 4]) rfl (by decide +kernel) (by kernel_rfl) (W67_wp v0 v1 H K) h
theorem L67_3_rule {K:AV→Heap→Prop} {N1:AV→Heap→Prop} {v0 v5 v9 v10 v48 v49 v50:AV} {H:Heap} {σ:Type} (s0:σ) (f9:σ→AV) (f50:σ→AV) (TH:σ→Heap) (pre:σ→Prop) (μ:σ→Nat)
  (h0:pre s0∧AV.wk v9 (f9 s0)∧AV.wk v50 (f50 s0)∧Heap.le (TH s0) H)
  (round:∀s,pre s→B67_3 K N1 (fun w9 w50 H'=>∃s',pre s'∧μ s' < μ s∧AV.wk w9 (f9 s')∧AV.wk w50 (f50 s')∧Heap.le (TH s') H') v0 v5 (f9 s) v10 v48 v49 (f50 s) (TH s)) :
  L67_3 K N1 v0 v5 v9 v10 v48 v49 v50 H:=by
 unfold L67_3
 exact LoopV.mk s0 (fun s=>[f9 s,f50 s]) TH pre μ (fun _=>rfl) (Eq.mp (by kernel_rfl) h0) (fun s hs=>Eq.mp (by kernel_rfl) (round s hs))
theorem L67_2_rule {K:AV→Heap→Prop} {v0 v5 v9:AV} {H:Heap} {σ:Type} (s0:σ) (f9:σ→AV) (TH:σ→Heap) (pre:σ→Prop) (μ:σ→Nat)
  (h0:pre s0∧AV.wk v9 (f9 s0)∧Heap.le (TH s0) H)
  (round:∀s,pre s→B67_2 K (fun w9 H'=>∃s',pre s'∧μ s' < μ s∧AV.wk w9 (f9 s')∧Heap.le (TH s') H') v0 v5 (f9 s) (TH s)) :
  L67_2 K v0 v5 v9 H:=by
 unfold L67_2
 exact LoopV.mk s0 (fun s=>[f9 s]) TH pre μ (fun _=>rfl) (Eq.mp (by kernel_rfl) h0) (fun s hs=>Eq.mp (by kernel_rfl) (round s hs))
theorem L67_1_rule {K:AV→Heap→Prop} {v0 v1 v5 v25 v26 v27:AV} {H:Heap} {σ:Type} (s0:σ) (f27:σ→AV) (TH:σ→Heap) (pre:σ→Prop) (μ:σ→Nat)
  (h0:pre s0∧AV.wk v27 (f27 s0)∧Heap.le (TH s0) H)
  (round:∀s,pre s→B67_1 K (fun w27 H'=>∃s',pre s'∧μ s' < μ s∧AV.wk w27 (f27 s')∧Heap.le (TH s') H') v0 v1 v5 v25 v26 (f27 s) (TH s)) :
  L67_1 K v0 v1 v5 v25 v26 v27 H:=by
 unfold L67_1
 exact LoopV.mk s0 (fun s=>[f27 s]) TH pre μ (fun _=>rfl) (Eq.mp (by kernel_rfl) h0) (fun s hs=>Eq.mp (by kernel_rfl) (round s hs))
theorem L67_0_rule {K:AV→Heap→Prop} {v0 v1 v5 v17 v18:AV} {H:Heap} {σ:Type} (s0:σ) (f18:σ→AV) (TH:σ→Heap) (pre:σ→Prop) (μ:σ→Nat)
  (h0:pre s0∧AV.wk v18 (f18 s0)∧Heap.le (TH s0) H)
  (round:∀s,pre s→B67_0 K (fun w18 H'=>∃s',pre s'∧μ s' < μ s∧AV.wk w18 (f18 s')∧Heap.le (TH s') H') v0 v1 v5 v17 (f18 s) (TH s)) :
  L67_0 K v0 v1 v5 v17 v18 H:=by
 unfold L67_0
 exact LoopV.mk s0 (fun s=>[f18 s]) TH pre μ (fun _=>rfl) (Eq.mp (by kernel_rfl) h0) (fun s hs=>Eq.mp (by kernel_rfl) (round s hs))
def D68:Info:=⟨116,fun i=>if i=8 then ([[],[],[],[1,2],[1,2,3],[],[],[],[6,7],[6,7,8],[5,6,7,8,9],[5,6,7,8,9,10],[5,6,7,8,9,10,11],[5,6,7,8,9,10,11,12],[5,6,7,8,9,10,11,12,13],[5,6,7,8,9,10,11,12,13,14],[5,6,7,8,9,10,11,12,13,14,15],[0,1,2,3,4,5,6,7,8,9,10,11,12,13,14,15,16],[0,1,2,3,4,5,6,7,8,9,10,11,12,13,14,15,16,17]],[(0,[]),(1,[]),(2,[]),(3,[]),(4,[]),(5,[]),(6,[]),(7,[]),(8,[]),(9,[]),(10,[]),(11,[]),(12,[]),(13,[]),(14,[]),(15,[]),(16,[]),(17,[]),(18,[])]) else ([],[]),fun i=>if i=6 then ([0,1,5,7,8,28,29],[30]) else if i=11 then ([0,1,5,7,8,54,55],[56]) else if i=14 then ([0,1,5,7,8,11,54,55,56,61,62],[63]) else if i=22 then ([1,5,7,8,87],[15,88]) else ([],[])⟩
def L68_0 (K:AV→Heap→Prop) (v0:AV) (v1:AV) (v5:AV) (v7:AV) (v8:AV) (v28:AV) (v29:AV) (v30:AV) (H:Heap):Prop:=LoopV (wpC Tryz.prog tab D68 (cAt [1,1,1,1,1,0,1,0,0] (bO_ Tryz.f68))) [0,1,5,7,8,28,29] (PostF.block 0 (PostF.thenA (wpC Tryz.prog tab D68 (cAt [1,1,1,1,1,1] (bO_ Tryz.f68))) (retF tab [.tmp 4] K))) [30] [v0,v1,Q_,Q_,Q_,v5,Q_,v7,v8,Q_,Q_,Q_,Q_,Q_,Q_,Q_,Q_,Q_,Q_,Q_,Q_,Q_,Q_,Q_,Q_,Q_,Q_,Q_,v28,v29,v30,Q_,Q_,Q_,Q_,Q_,Q_,Q_,Q_,Q_,Q_,Q_,Q_,Q_,Q_,Q_,Q_,Q_,Q_,Q_,Q_,Q_,Q_,Q_,Q_,Q_,Q_,Q_,Q_,Q_,Q_,Q_,Q_,Q_,Q_,Q_,Q_,Q_,Q_,Q_,Q_,Q_,Q_,Q_,Q_,Q_,Q_,Q_,Q_,Q_,Q_,Q_,Q_,Q_,Q_,Q_,Q_,Q_,Q_,Q_,Q_,Q_,Q_,Q_,Q_,Q_,Q_,Q_,Q_,Q_,Q_,Q_,Q_,Q_,Q_,Q_,Q_,Q_,Q_,Q_,Q_,Q_,Q_,Q_,Q_,Q_] H
def L68_1 (K:AV→Heap→Prop) (v0:AV) (v1:AV) (v5:AV) (v7:AV) (v8:AV) (v54:AV) (v55:AV) (v56:AV) (H:Heap):Prop:=LoopV (wpC Tryz.prog tab D68 (cAt [1,1,1,1,1,1,0,1,0,0] (bO_ Tryz.f68))) [0,1,5,7,8,54,55] (PostF.block 2 (PostF.thenA (wpC Tryz.prog tab D68 (cAt [1,1,1,1,1,1,1] (bO_ Tryz.f68))) (retF tab [.tmp 4] K))) [56] [v0,v1,Q_,Q_,Q_,v5,Q_,v7,v8,Q_,Q_,Q_,Q_,Q_,Q_,Q_,Q_,Q_,Q_,Q_,Q_,Q_,Q_,Q_,Q_,Q_,Q_,Q_,Q_,Q_,Q_,Q_,Q_,Q_,Q_,Q_,Q_,Q_,Q_,Q_,Q_,Q_,Q_,Q_,Q_,Q_,Q_,Q_,Q_,Q_,Q_,Q_,Q_,Q_,v54,v55,v56,Q_,Q_,Q_,Q_,Q_,Q_,Q_,Q_,Q_,Q_,Q_,Q_,Q_,Q_,Q_,Q_,Q_,Q_,Q_,Q_,Q_,Q_,Q_,Q_,Q_,Q_,Q_,Q_,Q_,Q_,Q_,Q_,Q_,Q_,Q_,Q_,Q_,Q_,Q_,Q_,Q_,Q_,Q_,Q_,Q_,Q_,Q_,Q_,Q_,Q_,Q_,Q_,Q_,Q_,Q_,Q_,Q_,Q_,Q_] H
def L68_2 (K:AV→Heap→Prop) (N1:AV→Heap→Prop) (v0:AV) (v1:AV) (v5:AV) (v7:AV) (v8:AV) (v11:AV) (v54:AV) (v55:AV) (v56:AV) (v61:AV) (v62:AV) (v63:AV) (H:Heap):Prop:=LoopV (wpC Tryz.prog tab D68 (cAt [1,1,1,1,1,1,0,1,0,0,1,1,0,0,1,1,0,0] (bO_ Tryz.f68))) [0,1,5,7,8,11,54,55,56,61,62] (PostF.block 4 (PostF.block 3 (PostF.thenA (wpC Tryz.prog tab D68 (cAt [1,1,1,1,1,1,0,1,0,0,1,1,1] (bO_ Tryz.f68))) (loopF (PostF.block 2 (PostF.thenA (wpC Tryz.prog tab D68 (cAt [1,1,1,1,1,1,1] (bO_ Tryz.f68))) (retF tab [.tmp 4] K))) (fun e h=>N1 (e 56) h))))) [63] [v0,v1,Q_,Q_,Q_,v5,Q_,v7,v8,Q_,Q_,v11,Q_,Q_,Q_,Q_,Q_,Q_,Q_,Q_,Q_,Q_,Q_,Q_,Q_,Q_,Q_,Q_,Q_,Q_,Q_,Q_,Q_,Q_,Q_,Q_,Q_,Q_,Q_,Q_,Q_,Q_,Q_,Q_,Q_,Q_,Q_,Q_,Q_,Q_,Q_,Q_,Q_,Q_,v54,v55,v56,Q_,Q_,Q_,Q_,v61,v62,v63,Q_,Q_,Q_,Q_,Q_,Q_,Q_,Q_,Q_,Q_,Q_,Q_,Q_,Q_,Q_,Q_,Q_,Q_,Q_,Q_,Q_,Q_,Q_,Q_,Q_,Q_,Q_,Q_,Q_,Q_,Q_,Q_,Q_,Q_,Q_,Q_,Q_,Q_,Q_,Q_,Q_,Q_,Q_,Q_,Q_,Q_,Q_,Q_,Q_,Q_,Q_,Q_] H
def B68_2 (K:AV→Heap→Prop) (N1:AV→Heap→Prop) (N2:AV→Heap→Prop) (v0:AV) (v1:AV) (v5:AV) (v7:AV) (v8:AV) (v11:AV) (v54:AV) (v55:AV) (v56:AV) (v61:AV) (v62:AV) (v63:AV) (H:Heap):Prop:=
 binV tab .lss 3 v63 v62 fun v64=>
 cV_ v64 (iA_ tab 22 v61 v63 fun v65=>
 lV_ tab 3 v65 H fun v66=>
 iA_ tab 22 v5 v66 fun v70=>
 lV_ tab 3 v70 H fun v71=>
 iA_ tab 22 v8 v71 fun v72=>
 lV_ tab 3 v72 H fun v73=>
 binV tab .eql 3 v73 v11 fun v75=>
 cV_ v75 (iA_ tab 22 v5 v66 fun v79=>
 lV_ tab 3 v79 H fun v80=>
 binV tab .add 3 v11 (AV.p (.int .i64 1)) fun v82=>
 iA_ tab 22 v8 v80 fun v83=>
 sV_ tab 3 v83 v82 H fun H7=>
 binV tab .add 3 v63 (AV.p (.int .i64 1)) fun v84=>
 N2 v84 H7)
 (binV tab .add 3 v63 (AV.p (.int .i64 1)) fun v84=>
 N2 v84 H))
 (binV tab .add 3 v56 (AV.p (.int .i64 1)) fun v85=>
 N1 v85 H)
def L68_3 (K:AV→Heap→Prop) (v1:AV) (v5:AV) (v7:AV) (v8:AV) (v15:AV) (v87:AV) (v88:AV) (H:Heap):Prop:=LoopV (wpC Tryz.prog tab D68 (cAt [1,1,1,1,1,1,1,1,0,1,0,0] (bO_ Tryz.f68))) [1,5,7,8,87] (PostF.block 6 (PostF.thenA (wpC Tryz.prog tab D68 (cAt [1,1,1,1,1,1,1,1,1] (bO_ Tryz.f68))) (retF tab [.tmp 4] K))) [15,88] [Q_,v1,Q_,Q_,Q_,v5,Q_,v7,v8,Q_,Q_,Q_,Q_,Q_,Q_,v15,Q_,Q_,Q_,Q_,Q_,Q_,Q_,Q_,Q_,Q_,Q_,Q_,Q_,Q_,Q_,Q_,Q_,Q_,Q_,Q_,Q_,Q_,Q_,Q_,Q_,Q_,Q_,Q_,Q_,Q_,Q_,Q_,Q_,Q_,Q_,Q_,Q_,Q_,Q_,Q_,Q_,Q_,Q_,Q_,Q_,Q_,Q_,Q_,Q_,Q_,Q_,Q_,Q_,Q_,Q_,Q_,Q_,Q_,Q_,Q_,Q_,Q_,Q_,Q_,Q_,Q_,Q_,Q_,Q_,Q_,Q_,v87,v88,Q_,Q_,Q_,Q_,Q_,Q_,Q_,Q_,Q_,Q_,Q_,Q_,Q_,Q_,Q_,Q_,Q_,Q_,Q_,Q_,Q_,Q_,Q_,Q_,Q_,Q_,Q_] H
def B68_3 (K:AV→Heap→Prop) (N1:AV→AV→Heap→Prop) (v1:AV) (v5:AV) (v7:AV) (v8:AV) (v15:AV) (v87:AV) (v88:AV) (H:Heap):Prop:=
 binV tab .lss 3 v88 v87 fun v89=>
 cV_ v89 (iA_ tab 22 v5 v88 fun v94=>
 lV_ tab 3 v94 H fun v95=>
 iA_ tab 116 v7 v95 fun v96=>
 lV_ tab 4 v96 H fun v97=>
 grdV v97 true (iA_ tab 22 v5 v88 fun v102=>
 lV_ tab 3 v102 H fun v103=>
 iA_ tab 22 v8 v103 fun v104=>
 lV_ tab 3 v104 H fun v105=>
 lenV tab 24 v1 fun v107=>
 binV tab .eql 3 v105 v107 fun v108=>
 cV_ v108 (bS_ tab 22 1 [(0,v88)] H (wkK fun v112 H8=>
 aP_ tab 22 22 v15 v112 H8 (wkK fun v113 H9=>
 binV tab .add 3 v88 (AV.p (.int .i64 1)) fun v114=>
 N1 v113 v114 H9)))
 (binV tab .add 3 v88 (AV.p (.int .i64 1)) fun v114=>
 N1 v15 v114 H))
 (binV tab .add 3 v88 (AV.p (.int .i64 1)) fun v114=>
 N1 v15 v114 H))
 (K v15 H)
def B68_1 (K:AV→Heap→Prop) (N1:AV→Heap→Prop) (v0:AV) (v1:AV) (v5:AV) (v7:AV) (v8:AV) (v54:AV) (v55:AV) (v56:AV) (H:Heap):Prop:=
 binV tab .lss 3 v56 v55 fun v57=>
 cV_ v57 (iA_ tab 24 v54 v56 fun v59=>
 lV_ tab 22 v59 H fun v60=>
 lenV tab 22 v60 fun v62=>
 L68_2 K N1 v0 v1 v5 v7 v8 v56 v54 v55 v56 v60 v62 (AV.p (.int .i64 0)) H)
 (lenV tab 24 v0 fun v87=>
 L68_3 K v1 v5 v7 v8 (AV.p .nil) v87 (AV.p (.int .i64 0)) H)
def B68_0 (K:AV→Heap→Prop) (N1:AV→Heap→Prop) (v0:AV) (v1:AV) (v5:AV) (v7:AV) (v8:AV) (v28:AV) (v29:AV) (v30:AV) (H:Heap):Prop:=
 binV tab .lss 3 v30 v29 fun v31=>
 cV_ v31 (iA_ tab 24 v28 v30 fun v33=>
 lV_ tab 22 v33 H fun v34=>
 iA_ tab 22 v5 v30 fun v38=>
 lV_ tab 3 v38 H fun v39=>
 iA_ tab 22 v5 v30 fun v43=>
 lV_ tab 3 v43 H fun v44=>
 iA_ tab 116 v7 v44 fun v45=>
 lV_ tab 4 v45 H fun v46=>
 grdV v46 false (lenV tab 22 v34 fun v49=>
 binV tab .gtr 3 v49 (AV.p (.int .i64 0)) fun v50=>
 iA_ tab 116 v7 v39 fun v52=>
 sV_ tab 4 v52 v50 H fun H5=>
 binV tab .add 3 v30 (AV.p (.int .i64 1)) fun v53=>
 N1 v53 H5)
 (iA_ tab 116 v7 v39 fun v52=>
 sV_ tab 4 v52 (AV.p (.bool true)) H fun H6=>
 binV tab .add 3 v30 (AV.p (.int .i64 1)) fun v53=>
 N1 v53 H6))
 (lenV tab 24 v1 fun v55=>
 L68_1 K v0 v1 v5 v7 v8 v1 v55 (AV.p (.int .i64 0)) H)
def W68 (v0:AV) (v1:AV) (H:Heap) (K:AV→Heap→Prop):Prop:=
 CallT Tryz.prog 70 [v0] H fun v18 H1=>
 CallT Tryz.prog 71 [v0,v18] H1 fun v21 H2=>
 lenV tab 24 v0 fun v23=>
 mS_ tab 116 v23 v23 H2 fun v24 H3=>
 lenV tab 24 v0 fun v26=>
 mS_ tab 22 v26 v26 H3 fun v27 H4=>
 lenV tab 24 v21 fun v29=>
 L68_0 K v0 v1 v18 v24 v27 v21 v29 (AV.p (.int .i64 0)) H4
theorem W68_wp (v0:AV) (v1:AV) (H:Heap) (K:AV→Heap→Prop):wpC Tryz.prog tab D68 (bO_ Tryz.f68) (retF tab [.tmp 4] K) (nthA [v0,v1]) H=W68 v0 v1 H K:=by kernel_rfl
theorem W68_ok {v0 v1:AV} {H:Heap} {K:AV→Heap→Prop} (h:W68 v0 v1 H K):CallT Tryz.prog 68 [v0,v1] H K:=
 CallT.of_wp (D:=D68) tO_ mixed Tryz.func68 (c:=bO_ Tryz.f68) (by kernel_rfl) rfl (by kernel_rfl) (rs:=#[.tmp 4]) rfl (by decide +kernel) (by kernel_rfl) (W68_wp v0 v1 H K) h
theorem L68_2_rule {K:AV→Heap→Prop} {N1:AV→Heap→Prop} {v0 v1 v5 v7 v8 v11 v54 v55 v56 v61 v62 v63:AV} {H:Heap} {σ:Type} (s0:σ) (f63:σ→AV) (TH:σ→Heap) (pre:σ→Prop) (μ:σ→Nat)
  (h0:pre s0∧AV.wk v63 (f63 s0)∧Heap.le (TH s0) H)
  (round:∀s,pre s→B68_2 K N1 (fun w63 H'=>∃s',pre s'∧μ s' < μ s∧AV.wk w63 (f63 s')∧Heap.le (TH s') H') v0 v1 v5 v7 v8 v11 v54 v55 v56 v61 v62 (f63 s) (TH s)) :
  L68_2 K N1 v0 v1 v5 v7 v8 v11 v54 v55 v56 v61 v62 v63 H:=by
 unfold L68_2
 exact LoopV.mk s0 (fun s=>[f63 s]) TH pre μ (fun _=>rfl) (Eq.mp (by kernel_rfl) h0) (fun s hs=>Eq.mp (by kernel_rfl) (round s hs))
theorem L68_3_rule {K:AV→Heap→Prop} {v1 v5 v7 v8 v15 v87 v88:AV} {H:Heap} {σ:Type} (s0:σ) (f15:σ→AV) (f88:σ→AV) (TH:σ→Heap) (pre:σ→Prop) (μ:σ→Nat)
  (h0:pre s0∧AV.wk v15 (f15 s0)∧AV.wk v88 (f88 s0)∧Heap.le (TH s0) H)
  (round:∀s,pre s→B68_3 K (fun w15 w88 H'=>∃s',pre s'∧μ s' < μ s∧AV.wk w15 (f15 s')∧AV.wk w88 (f88 s')∧Heap.le (TH s') H') v1 v5 v7 v8 (f15 s) v87 (f88 s) (TH s)) :
  L68_3 K v1 v5 v7 v8 v15 v87 v88 H:=by
 unfold L68_3
 exact LoopV.mk s0 (fun s=>[f15 s,f88 s]) TH pre μ (fun _=>rfl) (Eq.mp (by kernel_rfl) h0) (fun s hs=>Eq.mp (by kernel_rfl) (round s hs))
theorem L68_1_rule {K:AV→Heap→Prop} {v0 v1 v5 v7 v8 v54 v55 v56:AV} {H:Heap} {σ:Type} (s0:σ) (f56:σ→AV) (TH:σ→Heap) (pre:σ→Prop) (μ:σ→Nat)
  (h0:pre s0∧AV.wk v56 (f56 s0)∧Heap.le (TH s0) H)
  (round:∀s,pre s→B68_1 K (fun w56 H'=>∃s',pre s'∧μ s' < μ s∧AV.wk w56 (f56 s')∧Heap.le (TH s') H') v0 v1 v5 v7 v8 v54 v55 (f56 s) (TH s)) :
  L68_1 K v0 v1 v5 v7 v8 v54 v55 v56 H:=by
 unfold L68_1
 exact LoopV.mk s0 (fun s=>[f56 s]) TH pre μ (fun _=>rfl) (Eq.mp (by kernel_rfl) h0) (fun s hs=>Eq.mp (by kernel_rfl) (round s hs))
theorem L68_0_rule {K:AV→Heap→Prop} {v0 v1 v5 v7 v8 v28 v29 v30:AV} {H:Heap} {σ:Type} (s0:σ) (f30:σ→AV) (TH:σ→Heap) (pre:σ→Prop) (μ:σ→Nat)
  (h0:pre s0∧AV.wk v30 (f30 s0)∧Heap.le (TH s0) H)
  (round:∀s,pre s→B68_0 K (fun w30 H'=>∃s',pre s'∧μ s' < μ s∧AV.wk w30 (f30 s')∧Heap.le (TH s') H') v0 v1 v5 v7 v8 v28 v29 (f30 s) (TH s)) :
  L68_0 K v0 v1 v5 v7 v8 v28 v29 v30 H:=by
 unfold L68_0
 exact LoopV.mk s0 (fun s=>[f30 s]) TH pre μ (fun _=>rfl) (Eq.mp (by kernel_rfl) h0) (fun s hs=>Eq.mp (by kernel_rfl) (round s hs))
def D69:Info:=⟨82,fun i=>if i=6 then ([[],[],[0,1],[0,1,2],[0,1,2,3],[0,1,2,3,4],[0,1,2,3,4,5],[0,1,2,3,4,5,6],[0,1,2,3,4,5,6,7],[0,1,2,3,4,5,6,7,8],[0,1,2,3,4,5,6,7,8],[0,1,2,3,4,5,6,7,8,9,10],[0,1,2,3,4,5,6,7,8,9,10,11],[0,1,2,3,4,5,6,7,8],[0,1,2,3,4,5,6,7,8],[0,1,2,3,4,5,6,7,8,13,14],[0,1,2,3,4,5,6,7,8,13,14,15],[0,1,2,3,4,5,6,7,8,9,10,11,12,13,14,15,16],[0,1,2,3,4,5,6,7,8,9,10,11,12,13,14,15,16,17],[0,1,2,3,4,5,6,7,8,9,10,11,12,13,14,15,16,17,18]],[(0,[]),(1,[]),(2,[]),(3,[]),(4,[]),(5,[]),(6,[]),(7,[]),(8,[]),(9,[]),(10,[]),(11,[]),(12,[]),(13,[]),(14,[]),(15,[]),(16,[]),(17,[]),(18,[]),(19,[])]) else if i=16 then ([[],[],[0,1],[0,1,2],[],[],[4,5],[4,5,6],[4,5,6,7],[0,1,2,3,4,5,6,7,8]],[(0,[]),(1,[]),(2,[]),(3,[]),(4,[]),(5,[]),(6,[]),(7,[]),(8,[]),(9,[])]) else ([],[]),fun i=>if i=4 then ([0,8,19,20],[9,21]) else if i=12 then ([0,8],[9,12]) else if i=14 then ([0,8,12,59,60],[9,61]) else ([],[])⟩
def L69_0 (K:AV→Heap→Prop) (v0:AV) (v8:AV) (v9:AV) (v19:AV) (v20:AV) (v21:AV) (H:Heap):Prop:=LoopV (wpC Tryz.prog tab D69 (cAt [1,1,1,0,1,0,0] (bO_ Tryz.f69))) [0,8,19,20] (PostF.block 0 (PostF.thenA (wpC Tryz.prog tab D69 (cAt [1,1,1,1] (bO_ Tryz.f69))) (retF tab [.tmp 6,.tmp 7] K))) [9,21] [v0,Q_,Q_,Q_,Q_,Q_,Q_,Q_,v8,v9,Q_,Q_,Q_,Q_,Q_,Q_,Q_,Q_,Q_,v19,v20,v21,Q_,Q_,Q_,Q_,Q_,Q_,Q_,Q_,Q_,Q_,Q_,Q_,Q_,Q_,Q_,Q_,Q_,Q_,Q_,Q_,Q_,Q_,Q_,Q_,Q_,Q_,Q_,Q_,Q_,Q_,Q_,Q_,Q_,Q_,Q_,Q_,Q_,Q_,Q_,Q_,Q_,Q_,Q_,Q_,Q_,Q_,Q_,Q_,Q_,Q_,Q_,Q_,Q_,Q_,Q_,Q_,Q_,Q_,Q_,Q_] H
def L69_1 (K:AV→Heap→Prop) (v0:AV) (v8:AV) (v9:AV) (v12:AV) (H:Heap):Prop:=LoopV (wpC Tryz.prog tab D69 (cAt [1,1,1,1,1,1,0,0,0] (bO_ Tryz.f69))) [0,8] (PostF.block 2 (PostF.thenA (wpC Tryz.prog tab D69 (cAt [1,1,1,1,1,1,1] (bO_ Tryz.f69))) (retF tab [.tmp 6,.tmp 7] K))) [9,12] [v0,Q_,Q_,Q_,Q_,Q_,Q_,Q_,v8,v9,Q_,Q_,v12,Q_,Q_,Q_,Q_,Q_,Q_,Q_,Q_,Q_,Q_,Q_,Q_,Q_,Q_,Q_,Q_,Q_,Q_,Q_,Q_,Q_,Q_,Q_,Q_,Q_,Q_,Q_,Q_,Q_,Q_,Q_,Q_,Q_,Q_,Q_,Q_,Q_,Q_,Q_,Q_,Q_,Q_,Q_,Q_,Q_,Q_,Q_,Q_,Q_,Q_,Q_,Q_,Q_,Q_,Q_,Q_,Q_,Q_,Q_,Q_,Q_,Q_,Q_,Q_,Q_,Q_,Q_,Q_,Q_] H
def L69_2 (K:AV→Heap→Prop) (N1:AV→AV→Heap→Prop) (v0:AV) (v8:AV) (v9:AV) (v12:AV) (v59:AV) (v60:AV) (v61:AV) (H:Heap):Prop:=LoopV (wpC Tryz.prog tab D69 (cAt [1,1,1,1,1,1,0,0,0,1,0,0,1,0,0] (bO_ Tryz.f69))) [0,8,12,59,60] (PostF.block 4 (PostF.thenA (wpC Tryz.prog tab D69 (cAt [1,1,1,1,1,1,0,0,0,1,0,1] (bO_ Tryz.f69))) (PostF.block 3 (loopF (PostF.block 2 (PostF.thenA (wpC Tryz.prog tab D69 (cAt [1,1,1,1,1,1,1] (bO_ Tryz.f69))) (retF tab [.tmp 6,.tmp 7] K))) (fun e h=>N1 (e 9) (e 12) h))))) [9,61] [v0,Q_,Q_,Q_,Q_,Q_,Q_,Q_,v8,v9,Q_,Q_,v12,Q_,Q_,Q_,Q_,Q_,Q_,Q_,Q_,Q_,Q_,Q_,Q_,Q_,Q_,Q_,Q_,Q_,Q_,Q_,Q_,Q_,Q_,Q_,Q_,Q_,Q_,Q_,Q_,Q_,Q_,Q_,Q_,Q_,Q_,Q_,Q_,Q_,Q_,Q_,Q_,Q_,Q_,Q_,Q_,Q_,Q_,v59,v60,v61,Q_,Q_,Q_,Q_,Q_,Q_,Q_,Q_,Q_,Q_,Q_,Q_,Q_,Q_,Q_,Q_,Q_,Q_,Q_,Q_] H
def B69_2 (K:AV→Heap→Prop) (N1:AV→AV→Heap→Prop) (N2:AV→AV→Heap→Prop) (v0:AV) (v8:AV) (v9:AV) (v12:AV) (v59:AV) (v60:AV) (v61:AV) (H:Heap):Prop:=
 binV tab .lss 3 v61 v60 fun v62=>
 cV_ v62 (iA_ tab 22 v59 v61 fun v63=>
 lV_ tab 3 v63 H fun v64=>
 iA_ tab 22 v8 v64 fun v67=>
 lV_ tab 3 v67 H fun v68=>
 iA_ tab 22 v8 v9 fun v71=>
 lV_ tab 3 v71 H fun v72=>
 binV tab .sub 3 v72 (AV.p (.int .i64 1)) fun v73=>
 binV tab .eql 3 v68 v73 fun v74=>
 cV_ v74 (bS_ tab 22 1 [(0,v64)] H (wkK fun v79 H6=>
 aP_ tab 22 22 v12 v79 H6 (wkK fun v80 H7=>
 N1 v64 v80 H7)))
 (binV tab .add 3 v61 (AV.p (.int .i64 1)) fun v76=>
 N2 v9 v76 H))
 (bS_ tab 22 1 [(0,v9)] H (wkK fun v79 H8=>
 aP_ tab 22 22 v12 v79 H8 (wkK fun v80 H9=>
 N1 v9 v80 H9)))
def B69_1 (K:AV→Heap→Prop) (N1:AV→AV→Heap→Prop) (v0:AV) (v8:AV) (v9:AV) (v12:AV) (H:Heap):Prop:=
 iA_ tab 22 v8 v9 fun v53=>
 lV_ tab 3 v53 H fun v54=>
 binV tab .gtr 3 v54 (AV.p (.int .i64 0)) fun v55=>
 cV_ v55 (iA_ tab 24 v0 v9 fun v58=>
 lV_ tab 22 v58 H fun v59=>
 lenV tab 22 v59 fun v60=>
 L69_2 K N1 v0 v8 v9 v12 v59 v60 (AV.p (.int .i64 0)) H)
 (K (.tup [v12,(AV.p (.bool true))]) H)
def B69_0 (K:AV→Heap→Prop) (N1:AV→AV→Heap→Prop) (v0:AV) (v8:AV) (v9:AV) (v19:AV) (v20:AV) (v21:AV) (H:Heap):Prop:=
 binV tab .lss 3 v21 v20 fun v22=>
 cV_ v22 (iA_ tab 22 v19 v21 fun v23=>
 lV_ tab 3 v23 H fun v24=>
 iA_ tab 22 v8 v24 fun v27=>
 lV_ tab 3 v27 H fun v28=>
 binV tab .geq 3 v28 (AV.p (.int .i64 0)) fun v29=>
 grdV v29 true (binV tab .lss 3 v9 (AV.p (.int .i64 0)) fun v32=>
 grdV v32 false (iA_ tab 22 v8 v24 fun v36=>
 lV_ tab 3 v36 H fun v37=>
 iA_ tab 22 v8 v9 fun v40=>
 lV_ tab 3 v40 H fun v41=>
 binV tab .lss 3 v37 v41 fun v42=>
 cV_ v42 (binV tab .add 3 v21 (AV.p (.int .i64 1)) fun v46=>
 N1 v24 v46 H)
 (binV tab .add 3 v21 (AV.p (.int .i64 1)) fun v46=>
 N1 v9 v46 H))
 (binV tab .add 3 v21 (AV.p (.int .i64 1)) fun v46=>
 N1 v24 v46 H))
 (binV tab .add 3 v21 (AV.p (.int .i64 1)) fun v46=>
 N1 v9 v46 H))
 (binV tab .lss 3 v9 (AV.p (.int .i64 0)) fun v48=>
 cV_ v48 (K (.tup [(AV.p .nil),(AV.p (.bool false))]) H)
 (bS_ tab 22 1 [(0,v9)] H (wkK fun v50 H3=>
 L69_1 K v0 v8 v9 v50 H3)))
def W69 (v0:AV) (v1:AV) (v2:AV) (H:Heap) (K:AV→Heap→Prop):Prop:=
 CallT Tryz.prog 107 [v0] H fun v16 H1=>
 CallT Tryz.prog 67 [v16,v2] H1 fun v18 H2=>
 lenV tab 22 v1 fun v20=>
 L69_0 K v0 v18 (AV.p (.int .i64 (-1))) v1 v20 (AV.p (.int .i64 0)) H2
theorem W69_wp (v0:AV) (v1:AV) (v2:AV) (H:Heap) (K:AV→Heap→Prop):wpC Tryz.prog tab D69 (bO_ Tryz.f69) (retF tab [.tmp 6,.tmp 7] K) (nthA [v0,v1,v2]) H=W69 v0 v1 v2 H K:=by kernel_rfl
theorem W69_ok {v0 v1 v2:AV} {H:Heap} {K:AV→Heap→Prop} (h:W69 v0 v1 v2 H K):CallT Tryz.prog 69 [v0,v1,v2] H K:=
 CallT.of_wp (D:=D69) tO_ mixed Tryz.func69 (c:=bO_ Tryz.f69) (by kernel_rfl) rfl (by kernel_rfl) (rs:=#[.tmp 6,.tmp 7]) rfl (by decide +kernel) (by kernel_rfl) (W69_wp v0 v1 v2 H K) h
theorem L69_2_rule {K:AV→Heap→Prop} {N1:AV→AV→Heap→Prop} {v0 v8 v9 v12 v59 v60 v61:AV} {H:Heap} {σ:Type} (s0:σ) (f9:σ→AV) (f61:σ→AV) (TH:σ→Heap) (pre:σ→Prop) (μ:σ→Nat)
  (h0:pre s0∧AV.wk v9 (f9 s0)∧AV.wk v61 (f61 s0)∧Heap.le (TH s0) H)
  (round:∀s,pre s→B69_2 K N1 (fun w9 w61 H'=>∃s',pre s'∧μ s' < μ s∧AV.wk w9 (f9 s')∧AV.wk w61 (f61 s')∧Heap.le (TH s') H') v0 v8 (f9 s) v12 v59 v60 (f61 s) (TH s)) :
  L69_2 K N1 v0 v8 v9 v12 v59 v60 v61 H:=by
 unfold L69_2
 exact LoopV.mk s0 (fun s=>[f9 s,f61 s]) TH pre μ (fun _=>rfl) (Eq.mp (by kernel_rfl) h0) (fun s hs=>Eq.mp (by kernel_rfl) (round s hs))
theorem L69_1_rule {K:AV→Heap→Prop} {v0 v8 v9 v12:AV} {H:Heap} {σ:Type} (s0:σ) (f9:σ→AV) (f12:σ→AV) (TH:σ→Heap) (pre:σ→Prop) (μ:σ→Nat)
  (h0:pre s0∧AV.wk v9 (f9 s0)∧AV.wk v12 (f12 s0)∧Heap.le (TH s0) H)
  (round:∀s,pre s→B69_1 K (fun w9 w12 H'=>∃s',pre s'∧μ s' < μ s∧AV.wk w9 (f9 s')∧AV.wk w12 (f12 s')∧Heap.le (TH s') H') v0 v8 (f9 s) (f12 s) (TH s)) :
  L69_1 K v0 v8 v9 v12 H:=by
 unfold L69_1
 exact LoopV.mk s0 (fun s=>[f9 s,f12 s]) TH pre μ (fun _=>rfl) (Eq.mp (by kernel_rfl) h0) (fun s hs=>Eq.mp (by kernel_rfl) (round s hs))
theorem L69_0_rule {K:AV→Heap→Prop} {v0 v8 v9 v19 v20 v21:AV} {H:Heap} {σ:Type} (s0:σ) (f9:σ→AV) (f21:σ→AV) (TH:σ→Heap) (pre:σ→Prop) (μ:σ→Nat)
  (h0:pre s0∧AV.wk v9 (f9 s0)∧AV.wk v21 (f21 s0)∧Heap.le (TH s0) H)
  (round:∀s,pre s→B69_0 K (fun w9 w21 H'=>∃s',pre s'∧μ s' < μ s∧AV.wk w9 (f9 s')∧AV.wk w21 (f21 s')∧Heap.le (TH s') H') v0 v8 (f9 s) v19 v20 (f21 s) (TH s)) :
  L69_0 K v0 v8 v9 v19 v20 v21 H:=by
 unfold L69_0
 exact LoopV.mk s0 (fun s=>[f9 s,f21 s]) TH pre μ (fun _=>rfl) (Eq.mp (by kernel_rfl) h0) (fun s hs=>Eq.mp (by kernel_rfl) (round s hs))
def D70:Info:=⟨91,fun i=>if i=7 then ([[],[0],[],[2],[2,3],[0,1,2,3,4],[0,1,2,3,4,5],[0,1,2,3,4,5,6]],[(0,[]),(2,[]),(3,[]),(1,[4]),(4,[4]),(5,[]),(6,[]),(7,[])]) else ([],[]),fun i=>if i=3 then ([0,3,20],[21]) else if i=10 then ([0,3,5,6],[7]) else if i=16 then ([0,3,5,6,7,65,66],[8,67]) else if i=22 then ([0,3,5,6,7,8,79,80],[81]) else ([],[])⟩
def L70_0 (K:AV→Heap→Prop) (v0:AV) (v3:AV) (v20:AV) (v21:AV) (H:Heap):Prop:=LoopV (wpC Tryz.prog tab D70 (cAt [1,1,0,1,0,0] (bO_ Tryz.f70))) [0,3,20] (PostF.block 0 (PostF.thenA (wpC Tryz.prog tab D70 (cAt [1,1,1] (bO_ Tryz.f70))) (retF tab [.tmp 2] K))) [21] [v0,Q_,Q_,v3,Q_,Q_,Q_,Q_,Q_,Q_,Q_,Q_,Q_,Q_,Q_,Q_,Q_,Q_,Q_,Q_,v20,v21,Q_,Q_,Q_,Q_,Q_,Q_,Q_,Q_,Q_,Q_,Q_,Q_,Q_,Q_,Q_,Q_,Q_,Q_,Q_,Q_,Q_,Q_,Q_,Q_,Q_,Q_,Q_,Q_,Q_,Q_,Q_,Q_,Q_,Q_,Q_,Q_,Q_,Q_,Q_,Q_,Q_,Q_,Q_,Q_,Q_,Q_,Q_,Q_,Q_,Q_,Q_,Q_,Q_,Q_,Q_,Q_,Q_,Q_,Q_,Q_,Q_,Q_,Q_,Q_,Q_,Q_,Q_,Q_,Q_] H
def L70_1 (K:AV→Heap→Prop) (v0:AV) (v3:AV) (v5:AV) (v6:AV) (v7:AV) (H:Heap):Prop:=LoopV (wpC Tryz.prog tab D70 (cAt [1,1,1,1,1,0,1,0,0] (bO_ Tryz.f70))) [0,3,5,6] (PostF.block 2 (PostF.thenA (wpC Tryz.prog tab D70 (cAt [1,1,1,1,1,1] (bO_ Tryz.f70))) (retF tab [.tmp 2] K))) [7] [v0,Q_,Q_,v3,Q_,v5,v6,v7,Q_,Q_,Q_,Q_,Q_,Q_,Q_,Q_,Q_,Q_,Q_,Q_,Q_,Q_,Q_,Q_,Q_,Q_,Q_,Q_,Q_,Q_,Q_,Q_,Q_,Q_,Q_,Q_,Q_,Q_,Q_,Q_,Q_,Q_,Q_,Q_,Q_,Q_,Q_,Q_,Q_,Q_,Q_,Q_,Q_,Q_,Q_,Q_,Q_,Q_,Q_,Q_,Q_,Q_,Q_,Q_,Q_,Q_,Q_,Q_,Q_,Q_,Q_,Q_,Q_,Q_,Q_,Q_,Q_,Q_,Q_,Q_,Q_,Q_,Q_,Q_,Q_,Q_,Q_,Q_,Q_,Q_,Q_] H
def L70_2 (K:AV→Heap→Prop) (N1:AV→Heap→Prop) (v0:AV) (v3:AV) (v5:AV) (v6:AV) (v7:AV) (v8:AV) (v65:AV) (v66:AV) (v67:AV) (H:Heap):Prop:=LoopV (wpC Tryz.prog tab D70 (cAt [1,1,1,1,1,0,1,0,0,1,0,0,1,1,1,0,1,0,0] (bO_ Tryz.f70))) [0,3,5,6,7,65,66] (PostF.block 4 (PostF.thenA (wpC Tryz.prog tab D70 (cAt [1,1,1,1,1,0,1,0,0,1,0,0,1,1,1,1] (bO_ Tryz.f70))) (PostF.block 3 (PostF.thenA (wpC Tryz.prog tab D70 (cAt [1,1,1,1,1,0,1,0,0,1,1] (bO_ Tryz.f70))) (loopF (PostF.block 2 (PostF.thenA (wpC Tryz.prog tab D70 (cAt [1,1,1,1,1,1] (bO_ Tryz.f70))) (retF tab [.tmp 2] K))) (fun e h=>N1 (e 7) h)))))) [8,67] [v0,Q_,Q_,v3,Q_,v5,v6,v7,v8,Q_,Q_,Q_,Q_,Q_,Q_,Q_,Q_,Q_,Q_,Q_,Q_,Q_,Q_,Q_,Q_,Q_,Q_,Q_,Q_,Q_,Q_,Q_,Q_,Q_,Q_,Q_,Q_,Q_,Q_,Q_,Q_,Q_,Q_,Q_,Q_,Q_,Q_,Q_,Q_,Q_,Q_,Q_,Q_,Q_,Q_,Q_,Q_,Q_,Q_,Q_,Q_,Q_,Q_,Q_,Q_,v65,v66,v67,Q_,Q_,Q_,Q_,Q_,Q_,Q_,Q_,Q_,Q_,Q_,Q_,Q_,Q_,Q_,Q_,Q_,Q_,Q_,Q_,Q_,Q_,Q_] H
def L70_3 (K:AV→Heap→Prop) (N1:AV→Heap→Prop) (v0:AV) (v3:AV) (v5:AV) (v6:AV) (v7:AV) (v8:AV) (v79:AV) (v80:AV) (v81:AV) (H:Heap):Prop:=LoopV (wpC Tryz.prog tab D70 (cAt [1,1,1,1,1,0,1,0,0,1,0,0,1,1,1,1,1,0,0] (bO_ Tryz.f70))) [0,3,5,6,7,8,79,80] (PostF.block 6 (PostF.block 3 (PostF.thenA (wpC Tryz.prog tab D70 (cAt [1,1,1,1,1,0,1,0,0,1,1] (bO_ Tryz.f70))) (loopF (PostF.block 2 (PostF.thenA (wpC Tryz.prog tab D70 (cAt [1,1,1,1,1,1] (bO_ Tryz.f70))) (retF tab [.tmp 2] K))) (fun e h=>N1 (e 7) h))))) [81] [v0,Q_,Q_,v3,Q_,v5,v6,v7,v8,Q_,Q_,Q_,Q_,Q_,Q_,Q_,Q_,Q_,Q_,Q_,Q_,Q_,Q_,Q_,Q_,Q_,Q_,Q_,Q_,Q_,Q_,Q_,Q_,Q_,Q_,Q_,Q_,Q_,Q_,Q_,Q_,Q_,Q_,Q_,Q_,Q_,Q_,Q_,Q_,Q_,Q_,Q_,Q_,Q_,Q_,Q_,Q_,Q_,Q_,Q_,Q_,Q_,Q_,Q_,Q_,Q_,Q_,Q_,Q_,Q_,Q_,Q_,Q_,Q_,Q_,Q_,Q_,Q_,Q_,v79,v80,v81,Q_,Q_,Q_,Q_,Q_,Q_,Q_,Q_,Q_] H
def B70_3 (K:AV→Heap→Prop) (N1:AV→Heap→Prop) (N2:AV→Heap→Prop) (v0:AV) (v3:AV) (v5:AV) (v6:AV) (v7:AV) (v8:AV) (v79:AV) (v80:AV) (v81:AV) (H:Heap):Prop:=
 binV tab .lss 3 v81 v80 fun v82=>
 cV_ v82 (iA_ tab 22 v79 v81 fun v83=>
 lV_ tab 3 v83 H fun v84=>
 iA_ tab 22 v6 v84 fun v88=>
 sV_ tab 3 v88 v8 H fun H10=>
 binV tab .add 3 v81 (AV.p (.int .i64 1)) fun v89=>
 N2 v89 H10)
 (binV tab .sub 3 v7 (AV.p (.int .i64 1)) fun v47=>
 N1 v47 H)
def B70_2 (K:AV→Heap→Prop) (N1:AV→Heap→Prop) (N2:AV→AV→Heap→Prop) (v0:AV) (v3:AV) (v5:AV) (v6:AV) (v7:AV) (v8:AV) (v65:AV) (v66:AV) (v67:AV) (H:Heap):Prop:=
 binV tab .lss 3 v67 v66 fun v68=>
 cV_ v68 (iA_ tab 22 v65 v67 fun v69=>
 lV_ tab 3 v69 H fun v70=>
 binV tab .lss 3 v70 v8 fun v73=>
 cV_ v73 (binV tab .add 3 v67 (AV.p (.int .i64 1)) fun v75=>
 N2 v70 v75 H)
 (binV tab .add 3 v67 (AV.p (.int .i64 1)) fun v75=>
 N2 v8 v75 H))
 (nC_ v5 fun v77=>
 fA_ tab 125 v77 2 fun v78=>
 lV_ tab 22 v78 H fun v79=>
 lenV tab 22 v79 fun v80=>
 L70_3 K N1 v0 v3 v5 v6 v7 v8 v79 v80 (AV.p (.int .i64 0)) H)
def B70_1 (K:AV→Heap→Prop) (N1:AV→Heap→Prop) (v0:AV) (v3:AV) (v5:AV) (v6:AV) (v7:AV) (H:Heap):Prop:=
 binV tab .geq 3 v7 (AV.p (.int .i64 0)) fun v45=>
 cV_ v45 (nC_ v5 fun v49=>
 fA_ tab 125 v49 2 fun v50=>
 sV_ tab 22 v50 (AV.p .nil) H fun H8=>
 nC_ v3 fun v53=>
 fA_ tab 125 v53 2 fun v54=>
 lV_ tab 22 v54 H8 fun v55=>
 iA_ tab 22 v55 v7 fun v57=>
 lV_ tab 3 v57 H8 fun v58=>
 CallT Tryz.prog 108 [v5,v58] H8 fun v59 H9=>
 lenV tab 24 v0 fun v61=>
 nC_ v5 fun v63=>
 fA_ tab 125 v63 2 fun v64=>
 lV_ tab 22 v64 H9 fun v65=>
 lenV tab 22 v65 fun v66=>
 L70_2 K N1 v0 v3 v5 v6 v7 v61 v65 v66 (AV.p (.int .i64 0)) H9)
 (K v6 H)
def B70_0 (K:AV→Heap→Prop) (N1:AV→Heap→Prop) (v0:AV) (v3:AV) (v20:AV) (v21:AV) (H:Heap):Prop:=
 binV tab .lss 3 v21 v20 fun v22=>
 cV_ v22 (CallT Tryz.prog 108 [v3,v21] H fun v26 H3=>
 binV tab .add 3 v21 (AV.p (.int .i64 1)) fun v27=>
 N1 v27 H3)
 (lenV tab 24 v0 fun v31=>
 safeV (makeN tab 116 v31 v31)∧
 CallT Tryz.prog 107 [v0] H fun v29 H4=>
 newV (makeN tab 116 v31 v31) H4 fun v32 H5=>
 buildV tab 125 [(0,v29),(1,v32)] fun v33=>
 boxV v33 H5 fun v34 H6=>
 lenV tab 24 v0 fun v36=>
 mS_ tab 22 v36 v36 H6 fun v37 H7=>
 nC_ v3 fun v39=>
 fA_ tab 125 v39 2 fun v40=>
 lV_ tab 22 v40 H7 fun v41=>
 lenV tab 22 v41 fun v42=>
 binV tab .sub 3 v42 (AV.p (.int .i64 1)) fun v43=>
 L70_1 K v0 v3 v34 v37 v43 H7)
def W70 (v0:AV) (H:Heap) (K:AV→Heap→Prop):Prop:=
 lenV tab 24 v0 fun v15=>
 mS_ tab 116 v15 v15 H fun v16 H1=>
 buildV tab 125 [(0,v0),(1,v16)] fun v17=>
 boxV v17 H1 fun v18 H2=>
 lenV tab 24 v0 fun v20=>
 L70_0 K v0 v18 v20 (AV.p (.int .i64 0)) H2
theorem W70_wp (v0:AV) (H:Heap) (K:AV→Heap→Prop):wpC Tryz.prog tab D70 (bO_ Tryz.f70) (retF tab [.tmp 2] K) (nthA [v0]) H=W70 v0 H K:=by kernel_rfl
theorem W70_ok {v0:AV} {H:Heap} {K:AV→Heap→Prop} (h:W70 v0 H K):CallT Tryz.prog 70 [v0] H K:=
 CallT.of_wp (D:=D70) tO_ mixed Tryz.func70 (c:=bO_ Tryz.f70) (by kernel_rfl) rfl (by kernel_rfl) (rs:=#[.tmp 2]) rfl (by decide +kernel) (by kernel_rfl) (W70_wp v0 H K) h
theorem L70_3_rule {K:AV→Heap→Prop} {N1:AV→Heap→Prop} {v0 v3 v5 v6 v7 v8 v79 v80 v81:AV} {H:Heap} {σ:Type} (s0:σ) (f81:σ→AV) (TH:σ→Heap) (pre:σ→Prop) (μ:σ→Nat)
  (h0:pre s0∧AV.wk v81 (f81 s0)∧Heap.le (TH s0) H)
  (round:∀s,pre s→B70_3 K N1 (fun w81 H'=>∃s',pre s'∧μ s' < μ s∧AV.wk w81 (f81 s')∧Heap.le (TH s') H') v0 v3 v5 v6 v7 v8 v79 v80 (f81 s) (TH s)) :
  L70_3 K N1 v0 v3 v5 v6 v7 v8 v79 v80 v81 H:=by
 unfold L70_3
 exact LoopV.mk s0 (fun s=>[f81 s]) TH pre μ (fun _=>rfl) (Eq.mp (by kernel_rfl) h0) (fun s hs=>Eq.mp (by kernel_rfl) (round s hs))
theorem L70_2_rule {K:AV→Heap→Prop} {N1:AV→Heap→Prop} {v0 v3 v5 v6 v7 v8 v65 v66 v67:AV} {H:Heap} {σ:Type} (s0:σ) (f8:σ→AV) (f67:σ→AV) (TH:σ→Heap) (pre:σ→Prop) (μ:σ→Nat)
  (h0:pre s0∧AV.wk v8 (f8 s0)∧AV.wk v67 (f67 s0)∧Heap.le (TH s0) H)
  (round:∀s,pre s→B70_2 K N1 (fun w8 w67 H'=>∃s',pre s'∧μ s' < μ s∧AV.wk w8 (f8 s')∧AV.wk w67 (f67 s')∧Heap.le (TH s') H') v0 v3 v5 v6 v7 (f8 s) v65 v66 (f67 s) (TH s)) :
  L70_2 K N1 v0 v3 v5 v6 v7 v8 v65 v66 v67 H:=by
 unfold L70_2
 exact LoopV.mk s0 (fun s=>[f8 s,f67 s]) TH pre μ (fun _=>rfl) (Eq.mp (by kernel_rfl) h0) (fun s hs=>Eq.mp (by kernel_rfl) (round s hs))
theorem L70_1_rule {K:AV→Heap→Prop} {v0 v3 v5 v6 v7:AV} {H:Heap} {σ:Type} (s0:σ) (f7:σ→AV) (TH:σ→Heap) (pre:σ→Prop) (μ:σ→Nat)
  (h0:pre s0∧AV.wk v7 (f7 s0)∧Heap.le (TH s0) H)
  (round:∀s,pre s→B70_1 K (fun w7 H'=>∃s',pre s'∧μ s' < μ s∧AV.wk w7 (f7 s')∧Heap.le (TH s') H') v0 v3 v5 v6 (f7 s) (TH s)) :
  L70_1 K v0 v3 v5 v6 v7 H:=by
 unfold L70_1
 exact LoopV.mk s0 (fun s=>[f7 s]) TH pre μ (fun _=>rfl) (Eq.mp (by kernel_rfl) h0) (fun s hs=>Eq.mp (by kernel_rfl) (round s hs))
theorem L70_0_rule {K:AV→Heap→Prop} {v0 v3 v20 v21:AV} {H:Heap} {σ:Type} (s0:σ) (f21:σ→AV) (TH:σ→Heap) (pre:σ→Prop) (μ:σ→Nat)
  (h0:pre s0∧AV.wk v21 (f21 s0)∧Heap.le (TH s0) H)
  (round:∀s,pre s→B70_0 K (fun w21 H'=>∃s',pre s'∧μ s' < μ s∧AV.wk w21 (f21 s')∧Heap.le (TH s') H') v0 v3 v20 (f21 s) (TH s)) :
  L70_0 K v0 v3 v20 v21 H:=by
 unfold L70_0
 exact LoopV.mk s0 (fun s=>[f21 s]) TH pre μ (fun _=>rfl) (Eq.mp (by kernel_rfl) h0) (fun s hs=>Eq.mp (by kernel_rfl) (round s hs))
end Go.Proofs.YtolffbcnbcjeaaaGreat
namespace Go.Proofs.YtolffbcnbcjeaaaGreat
open Go Go.Sep
attribute [local irreducible] wpC headF
def D71:Info:=⟨48,fun i=>if i=8 then ([[],[],[0,1],[0,1,2],[],[],[4,5],[4,5,6],[0,1,2,3,4,5,6,7]],[(0,[]),(1,[]),(2,[]),(3,[]),(4,[]),(5,[]),(6,[]),(7,[]),(8,[])]) else ([],[]),fun i=>if i=3 then ([1,5,13,14],[15]) else if i=6 then ([1,5,6,13,14,15,20,21],[22]) else ([],[])⟩
def L71_0 (K:AV→Heap→Prop) (v1:AV) (v5:AV) (v13:AV) (v14:AV) (v15:AV) (H:Heap):Prop:=LoopV (wpC Tryz.prog tab D71 (cAt [1,1,0,1,0,0] (bO_ Tryz.f71))) [1,5,13,14] (PostF.block 0 (PostF.thenA (wpC Tryz.prog tab D71 (cAt [1,1,1] (bO_ Tryz.f71))) (retF tab [.tmp 4] K))) [15] [Q_,v1,Q_,Q_,Q_,v5,Q_,Q_,Q_,Q_,Q_,Q_,Q_,v13,v14,v15,Q_,Q_,Q_,Q_,Q_,Q_,Q_,Q_,Q_,Q_,Q_,Q_,Q_,Q_,Q_,Q_,Q_,Q_,Q_,Q_,Q_,Q_,Q_,Q_,Q_,Q_,Q_,Q_,Q_,Q_,Q_,Q_] H
def L71_1 (K:AV→Heap→Prop) (N1:AV→Heap→Prop) (v1:AV) (v5:AV) (v6:AV) (v13:AV) (v14:AV) (v15:AV) (v20:AV) (v21:AV) (v22:AV) (H:Heap):Prop:=LoopV (wpC Tryz.prog tab D71 (cAt [1,1,0,1,0,0,1,1,0,0,1,1,0,0] (bO_ Tryz.f71))) [1,5,6,13,14,15,20,21] (PostF.block 2 (PostF.block 1 (PostF.thenA (wpC Tryz.prog tab D71 (cAt [1,1,0,1,0,0,1,1,1] (bO_ Tryz.f71))) (loopF (PostF.block 0 (PostF.thenA (wpC Tryz.prog tab D71 (cAt [1,1,1] (bO_ Tryz.f71))) (retF tab [.tmp 4] K))) (fun e h=>N1 (e 15) h))))) [22] [Q_,v1,Q_,Q_,Q_,v5,v6,Q_,Q_,Q_,Q_,Q_,Q_,v13,v14,v15,Q_,Q_,Q_,Q_,v20,v21,v22,Q_,Q_,Q_,Q_,Q_,Q_,Q_,Q_,Q_,Q_,Q_,Q_,Q_,Q_,Q_,Q_,Q_,Q_,Q_,Q_,Q_,Q_,Q_,Q_,Q_] H
def B71_1 (K:AV→Heap→Prop) (N1:AV→Heap→Prop) (N2:AV→Heap→Prop) (v1:AV) (v5:AV) (v6:AV) (v13:AV) (v14:AV) (v15:AV) (v20:AV) (v21:AV) (v22:AV) (H:Heap):Prop:=
 binV tab .lss 3 v22 v21 fun v23=>
 cV_ v23 (iA_ tab 22 v20 v22 fun v24=>
 lV_ tab 3 v24 H fun v25=>
 iA_ tab 22 v1 v6 fun v28=>
 lV_ tab 3 v28 H fun v29=>
 iA_ tab 22 v1 v25 fun v32=>
 lV_ tab 3 v32 H fun v33=>
 binV tab .eql 3 v29 v33 fun v34=>
 cV_ v34 (iA_ tab 24 v5 v6 fun v39=>
 lV_ tab 22 v39 H fun v40=>
 bS_ tab 22 1 [(0,v25)] H (wkK fun v42 H2=>
 aP_ tab 22 22 v40 v42 H2 (wkK fun v43 H3=>
 iA_ tab 24 v5 v6 fun v44=>
 sV_ tab 22 v44 v43 H3 fun H4=>
 binV tab .add 3 v22 (AV.p (.int .i64 1)) fun v45=>
 N2 v45 H4)))
 (binV tab .add 3 v22 (AV.p (.int .i64 1)) fun v45=>
 N2 v45 H))
 (binV tab .add 3 v15 (AV.p (.int .i64 1)) fun v46=>
 N1 v46 H)
def B71_0 (K:AV→Heap→Prop) (N1:AV→Heap→Prop) (v1:AV) (v5:AV) (v13:AV) (v14:AV) (v15:AV) (H:Heap):Prop:=
 binV tab .lss 3 v15 v14 fun v16=>
 cV_ v16 (iA_ tab 24 v13 v15 fun v18=>
 lV_ tab 22 v18 H fun v19=>
 lenV tab 22 v19 fun v21=>
 L71_1 K N1 v1 v5 v15 v13 v14 v15 v19 v21 (AV.p (.int .i64 0)) H)
 (K v5 H)
def W71 (v0:AV) (v1:AV) (H:Heap) (K:AV→Heap→Prop):Prop:=
 lenV tab 24 v0 fun v11=>
 mS_ tab 24 v11 v11 H fun v12 H1=>
 lenV tab 24 v0 fun v14=>
 L71_0 K v1 v12 v0 v14 (AV.p (.int .i64 0)) H1
theorem W71_wp (v0:AV) (v1:AV) (H:Heap) (K:AV→Heap→Prop):wpC Tryz.prog tab D71 (bO_ Tryz.f71) (retF tab [.tmp 4] K) (nthA [v0,v1]) H=W71 v0 v1 H K:=by kernel_rfl
theorem W71_ok {v0 v1:AV} {H:Heap} {K:AV→Heap→Prop} (h:W71 v0 v1 H K):CallT Tryz.prog 71 [v0,v1] H K:=
 CallT.of_wp (D:=D71) tO_ mixed Tryz.func71 (c:=bO_ Tryz.f71) (by kernel_rfl) rfl (by kernel_rfl) (rs:=#[.tmp 4]) rfl (by decide +kernel) (by kernel_rfl) (W71_wp v0 v1 H K) h
theorem L71_1_rule {K:AV→Heap→Prop} {N1:AV→Heap→Prop} {v1 v5 v6 v13 v14 v15 v20 v21 v22:AV} {H:Heap} {σ:Type} (s0:σ) (f22:σ→AV) (TH:σ→Heap) (pre:σ→Prop) (μ:σ→Nat)
  (h0:pre s0∧AV.wk v22 (f22 s0)∧Heap.le (TH s0) H)
  (round:∀s,pre s→B71_1 K N1 (fun w22 H'=>∃s',pre s'∧μ s' < μ s∧AV.wk w22 (f22 s')∧Heap.le (TH s') H') v1 v5 v6 v13 v14 v15 v20 v21 (f22 s) (TH s)) :
  L71_1 K N1 v1 v5 v6 v13 v14 v15 v20 v21 v22 H:=by
 unfold L71_1
 exact LoopV.mk s0 (fun s=>[f22 s]) TH pre μ (fun _=>rfl) (Eq.mp (by kernel_rfl) h0) (fun s hs=>Eq.mp (by kernel_rfl) (round s hs))
theorem L71_0_rule {K:AV→Heap→Prop} {v1 v5 v13 v14 v15:AV} {H:Heap} {σ:Type} (s0:σ) (f15:σ→AV) (TH:σ→Heap) (pre:σ→Prop) (μ:σ→Nat)
  (h0:pre s0∧AV.wk v15 (f15 s0)∧Heap.le (TH s0) H)
  (round:∀s,pre s→B71_0 K (fun w15 H'=>∃s',pre s'∧μ s' < μ s∧AV.wk w15 (f15 s')∧Heap.le (TH s') H') v1 v5 v13 v14 (f15 s) (TH s)) :
  L71_0 K v1 v5 v13 v14 v15 H:=by
 unfold L71_0
 exact LoopV.mk s0 (fun s=>[f15 s]) TH pre μ (fun _=>rfl) (Eq.mp (by kernel_rfl) h0) (fun s hs=>Eq.mp (by kernel_rfl) (round s hs))
def D72:Info:=⟨48,fun i=>([],[]),fun i=>if i=2 then ([0,1],[5]) else ([],[])⟩
def L72_0 (K:AV→Heap→Prop) (v0:AV) (v1:AV) (v5:AV) (H:Heap):Prop:=LoopV (wpC Tryz.prog tab D72 (cAt [1,1,0,0,0] (bO_ Tryz.f72))) [0,1] (PostF.block 0 (PostF.thenA (wpC Tryz.prog tab D72 (cAt [1,1,1] (bO_ Tryz.f72))) (retF tab [.tmp 4] K))) [5] [v0,v1,Q_,Q_,Q_,v5,Q_,Q_,Q_,Q_,Q_,Q_,Q_,Q_,Q_,Q_,Q_,Q_,Q_,Q_,Q_,Q_,Q_,Q_,Q_,Q_,Q_,Q_,Q_,Q_,Q_,Q_,Q_,Q_,Q_,Q_,Q_,Q_,Q_,Q_,Q_,Q_,Q_,Q_,Q_,Q_,Q_,Q_] H
def J72_1 (K:AV→Heap→Prop) (v0:AV) (v1:AV) (v5:AV) (H:Heap):Prop:=
 bS_ tab 22 0 [] H (wkK fun v34 H1=>
 sliceV tab 22 v0 none (some v5) none fun v37=>
 aP_ tab 22 22 v34 v37 H1 (wkK fun v38 H2=>
 bS_ tab 22 1 [(0,v1)] H2 (wkK fun v41 H3=>
 aP_ tab 22 22 v38 v41 H3 (wkK fun v42 H4=>
 sliceV tab 22 v0 (some v5) none none fun v46=>
 aP_ tab 22 22 v42 v46 H4 (wkK fun v47 H5=>
 K v47 H5)))))
def J72_2 (K:AV→Heap→Prop) (v0:AV) (v1:AV) (v5:AV) (H:Heap):Prop:=
 lenV tab 22 v0 fun v23=>
 binV tab .lss 3 v5 v23 fun v24=>
 grdV v24 true (iA_ tab 22 v0 v5 fun v28=>
 lV_ tab 3 v28 H fun v29=>
 binV tab .eql 3 v29 v1 fun v31=>
 cV_ v31 (K v0 H)
 (J72_1 K v0 v1 v5 H))
 (J72_1 K v0 v1 v5 H)
def B72_0 (K:AV→Heap→Prop) (N1:AV→Heap→Prop) (v0:AV) (v1:AV) (v5:AV) (H:Heap):Prop:=
 lenV tab 22 v0 fun v9=>
 binV tab .lss 3 v5 v9 fun v10=>
 grdV v10 true (iA_ tab 22 v0 v5 fun v14=>
 lV_ tab 3 v14 H fun v15=>
 binV tab .lss 3 v15 v1 fun v17=>
 cV_ v17 (binV tab .add 3 v5 (AV.p (.int .i64 1)) fun v20=>
 N1 v20 H)
 (J72_2 K v0 v1 v5 H))
 (J72_2 K v0 v1 v5 H)
def W72 (v0:AV) (v1:AV) (H:Heap) (K:AV→Heap→Prop):Prop:=
 L72_0 K v0 v1 (AV.p (.int .i64 0)) H
theorem W72_wp (v0:AV) (v1:AV) (H:Heap) (K:AV→Heap→Prop):wpC Tryz.prog tab D72 (bO_ Tryz.f72) (retF tab [.tmp 4] K) (nthA [v0,v1]) H=W72 v0 v1 H K:=by kernel_rfl
theorem W72_ok {v0 v1:AV} {H:Heap} {K:AV→Heap→Prop} (h:W72 v0 v1 H K):CallT Tryz.prog 72 [v0,v1] H K:=
 CallT.of_wp (D:=D72) tO_ mixed Tryz.func72 (c:=bO_ Tryz.f72) (by kernel_rfl) rfl (by kernel_rfl) (rs:=#[.tmp 4]) rfl (by decide +kernel) (by kernel_rfl) (W72_wp v0 v1 H K) h
theorem L72_0_rule {K:AV→Heap→Prop} {v0 v1 v5:AV} {H:Heap} {σ:Type} (s0:σ) (f5:σ→AV) (TH:σ→Heap) (pre:σ→Prop) (μ:σ→Nat)
  (h0:pre s0∧AV.wk v5 (f5 s0)∧Heap.le (TH s0) H)
  (round:∀s,pre s→B72_0 K (fun w5 H'=>∃s',pre s'∧μ s' < μ s∧AV.wk w5 (f5 s')∧Heap.le (TH s') H') v0 v1 (f5 s) (TH s)) :
  L72_0 K v0 v1 v5 H:=by
 unfold L72_0
 exact LoopV.mk s0 (fun s=>[f5 s]) TH pre μ (fun _=>rfl) (Eq.mp (by kernel_rfl) h0) (fun s hs=>Eq.mp (by kernel_rfl) (round s hs))
def D73:Info:=⟨23,fun i=>([],[]),fun i=>([],[])⟩
def W73 (v0:AV) (H:Heap) (K:AV→Heap→Prop):Prop:=
 boxV v0 H fun v1 H1=>
 fA_ tab 29 v1 0 fun v3=>
 lV_ tab 22 v3 H1 fun v4=>
 lenV tab 22 v4 fun v5=>
 binV tab .leq 3 v5 (AV.p (.int .i64 24)) fun v6=>
 grdV v6 true (fA_ tab 29 v1 1 fun v8=>
 lV_ tab 22 v8 H1 fun v9=>
 lenV tab 22 v9 fun v10=>
 CallT Tryz.prog 63 [v10,(AV.p (.int .i64 1)),(AV.p (.int .i64 24))] H1 fun v11 H2=>
 grdV v11 true (fA_ tab 29 v1 0 fun v14=>
 lV_ tab 22 v14 H2 fun v15=>
 CallT Tryz.prog 109 [v15,(AV.p (.int .i64 0)),(AV.p (.int .i64 7))] H2 fun v16 H3=>
 grdV v16 true (fA_ tab 29 v1 1 fun v19=>
 lV_ tab 22 v19 H3 fun v20=>
 CallT Tryz.prog 109 [v20,(AV.p (.int .i64 0)),(AV.p (.int .i64 7))] H3 fun v21 H4=>
 K v21 H4)
 (K (AV.p (.bool false)) H3))
 (K (AV.p (.bool false)) H2))
 (K (AV.p (.bool false)) H1)
theorem W73_wp (v0:AV) (H:Heap) (K:AV→Heap→Prop):wpC Tryz.prog tab D73 (bO_ Tryz.f73) (retF tab [.tmp 2] K) (nthA [v0]) H=W73 v0 H K:=by kernel_rfl
theorem W73_ok {v0:AV} {H:Heap} {K:AV→Heap→Prop} (h:W73 v0 H K):CallT Tryz.prog 73 [v0] H K:=
 CallT.of_wp (D:=D73) tO_ mixed Tryz.func73 (c:=bO_ Tryz.f73) (by kernel_rfl) rfl (by kernel_rfl) (rs:=#[.tmp 2]) rfl (by decide +kernel) (by kernel_rfl) (W73_wp v0 H K) h
def D75:Info:=⟨35,fun i=>([],[]),fun i=>if i=2 then ([0,1,7,8],[9]) else ([],[])⟩
def L75_0 (K:AV→Heap→Prop) (v0:AV) (v1:AV) (v7:AV) (v8:AV) (v9:AV) (H:Heap):Prop:=LoopV (wpC Tryz.prog tab D75 (cAt [1,0,1,0,0] (bO_ Tryz.f75))) [0,1,7,8] (PostF.block 0 (PostF.thenA (wpC Tryz.prog tab D75 (cAt [1,1] (bO_ Tryz.f75))) (retF tab [.tmp 4] K))) [9] [v0,v1,Q_,Q_,Q_,Q_,Q_,v7,v8,v9,Q_,Q_,Q_,Q_,Q_,Q_,Q_,Q_,Q_,Q_,Q_,Q_,Q_,Q_,Q_,Q_,Q_,Q_,Q_,Q_,Q_,Q_,Q_,Q_,Q_] H
def B75_0 (K:AV→Heap→Prop) (N1:AV→Heap→Prop) (v0:AV) (v1:AV) (v7:AV) (v8:AV) (v9:AV) (H:Heap):Prop:=
 binV tab .lss 3 v9 v8 fun v10=>
 cV_ v10 (iA_ tab 22 v7 v9 fun v12=>
 lV_ tab 3 v12 H fun v13=>
 binV tab .lss 3 v13 (AV.p (.int .i64 0)) fun v15=>
 grdV v15 false (binV tab .geq 3 v13 v1 fun v19=>
 grdV v19 false (binV tab .gtr 3 v9 (AV.p (.int .i64 0)) fun v23=>
 grdV v23 true (binV tab .sub 3 v9 (AV.p (.int .i64 1)) fun v27=>
 iA_ tab 22 v0 v27 fun v28=>
 lV_ tab 3 v28 H fun v29=>
 binV tab .geq 3 v29 v13 fun v31=>
 cV_ v31 (K (AV.p (.bool false)) H)
 (binV tab .add 3 v9 (AV.p (.int .i64 1)) fun v34=>
 N1 v34 H))
 (binV tab .add 3 v9 (AV.p (.int .i64 1)) fun v34=>
 N1 v34 H))
 (K (AV.p (.bool false)) H))
 (K (AV.p (.bool false)) H))
 (K (AV.p (.bool true)) H)
def W75 (v0:AV) (v1:AV) (H:Heap) (K:AV→Heap→Prop):Prop:=
 lenV tab 22 v0 fun v8=>
 L75_0 K v0 v1 v0 v8 (AV.p (.int .i64 0)) H
theorem W75_wp (v0:AV) (v1:AV) (H:Heap) (K:AV→Heap→Prop):wpC Tryz.prog tab D75 (bO_ Tryz.f75) (retF tab [.tmp 4] K) (nthA [v0,v1]) H=W75 v0 v1 H K:=by kernel_rfl
theorem W75_ok {v0 v1:AV} {H:Heap} {K:AV→Heap→Prop} (h:W75 v0 v1 H K):CallT Tryz.prog 75 [v0,v1] H K:=
 CallT.of_wp (D:=D75) tO_ mixed Tryz.func75 (c:=bO_ Tryz.f75) (by kernel_rfl) rfl (by kernel_rfl) (rs:=#[.tmp 4]) rfl (by decide +kernel) (by kernel_rfl) (W75_wp v0 v1 H K) h
theorem L75_0_rule {K:AV→Heap→Prop} {v0 v1 v7 v8 v9:AV} {H:Heap} {σ:Type} (s0:σ) (f9:σ→AV) (TH:σ→Heap) (pre:σ→Prop) (μ:σ→Nat)
  (h0:pre s0∧AV.wk v9 (f9 s0)∧Heap.le (TH s0) H)
  (round:∀s,pre s→B75_0 K (fun w9 H'=>∃s',pre s'∧μ s' < μ s∧AV.wk w9 (f9 s')∧Heap.le (TH s') H') v0 v1 v7 v8 (f9 s) (TH s)) :
  L75_0 K v0 v1 v7 v8 v9 H:=by
 unfold L75_0
 exact LoopV.mk s0 (fun s=>[f9 s]) TH pre μ (fun _=>rfl) (Eq.mp (by kernel_rfl) h0) (fun s hs=>Eq.mp (by kernel_rfl) (round s hs))
def D76:Info:=⟨14,fun i=>([],[]),fun i=>([],[])⟩
def W76 (v0:AV) (v1:AV) (H:Heap) (K:AV→Heap→Prop):Prop:=
 boxV v1 H fun v3 H1=>
 lenV tab 24 v0 fun v6=>
 binV tab .leq 3 v6 (AV.p (.int .i64 6)) fun v7=>
 grdV v7 true (CallT Tryz.prog 110 [v0,(.fn 111 [v3])] H1 fun v11 H2=>
 unV .not v11 fun v12=>
 K v12 H2)
 (K (AV.p (.bool false)) H1)
theorem W76_wp (v0:AV) (v1:AV) (H:Heap) (K:AV→Heap→Prop):wpC Tryz.prog tab D76 (bO_ Tryz.f76) (retF tab [.tmp 4] K) (nthA [v0,v1]) H=W76 v0 v1 H K:=by kernel_rfl
theorem W76_ok {v0 v1:AV} {H:Heap} {K:AV→Heap→Prop} (h:W76 v0 v1 H K):CallT Tryz.prog 76 [v0,v1] H K:=
 CallT.of_wp (D:=D76) tO_ mixed Tryz.func76 (c:=bO_ Tryz.f76) (by kernel_rfl) rfl (by kernel_rfl) (rs:=#[.tmp 4]) rfl (by decide +kernel) (by kernel_rfl) (W76_wp v0 v1 H K) h
def D77:Info:=⟨22,fun i=>if i=1 then ([[],[0],[],[2],[0,1,2,3],[],[5],[],[7],[0,1,2,3,4,5,6,7,8],[],[10],[],[12],[0,1,2,3,4,5,6,7,8,9,10,11,12,13],[0,1,2,3,4,5,6,7,8,9,10,11,12,13,14],[0,1,2,3,4,5,6,7,8,9,10,11,12,13,14,15],[0,1,2,3,4,5,6,7,8,9,10,11,12,13,14,15,16]],[(0,[]),(1,[]),(2,[]),(3,[]),(5,[]),(6,[]),(7,[]),(8,[]),(10,[]),(11,[]),(12,[]),(13,[]),(4,[6,8,11,13]),(9,[11,13]),(14,[]),(15,[]),(16,[]),(17,[])]) else ([],[]),fun i=>([],[])⟩
def W77 (v0:AV) (v1:AV) (H:Heap) (K:AV→Heap→Prop):Prop:=
 boxV v0 H fun v2 H1=>
 boxV v1 H1 fun v3 H2=>
 fA_ tab 84 v2 0 fun v5=>
 lV_ tab 3 v5 H2 fun v6=>
 fA_ tab 84 v3 0 fun v7=>
 lV_ tab 3 v7 H2 fun v8=>
 fA_ tab 84 v2 1 fun v10=>
 lV_ tab 3 v10 H2 fun v11=>
 fA_ tab 84 v3 1 fun v12=>
 lV_ tab 3 v12 H2 fun v13=>
 fA_ tab 84 v2 2 fun v15=>
 lV_ tab 3 v15 H2 fun v16=>
 fA_ tab 84 v3 2 fun v17=>
 lV_ tab 3 v17 H2 fun v18=>
 CallT Tryz.prog 113 [v6,v8] H2 fun v9 H3=>
 (lV_ tab 3 v10 H3 fun v9011=>
 v11=v9011)∧
 (lV_ tab 3 v12 H3 fun v9013=>
 v13=v9013)∧
 (lV_ tab 3 v15 H3 fun v9016=>
 v16=v9016)∧
 (lV_ tab 3 v17 H3 fun v9018=>
 v18=v9018)∧
 CallT Tryz.prog 113 [v11,v13] H3 fun v14 H4=>
 (lV_ tab 3 v15 H4 fun v9016=>
 v16=v9016)∧
 (lV_ tab 3 v17 H4 fun v9018=>
 v18=v9018)∧
 CallT Tryz.prog 113 [v16,v18] H4 fun v19 H5=>
 bS_ tab 22 3 [(0,v9),(1,v14),(2,v19)] H5 (wkK fun v20 H6=>
 CallT Tryz.prog 112 [v20] H6 fun v21 H7=>
 K v21 H7)
theorem W77_wp (v0:AV) (v1:AV) (H:Heap) (K:AV→Heap→Prop):wpC Tryz.prog tab D77 (bO_ Tryz.f77) (retF tab [.tmp 4] K) (nthA [v0,v1]) H=W77 v0 v1 H K:=by kernel_rfl
theorem W77_ok {v0 v1:AV} {H:Heap} {K:AV→Heap→Prop} (h:W77 v0 v1 H K):CallT Tryz.prog 77 [v0,v1] H K:=
 CallT.of_wp (D:=D77) tO_ mixed Tryz.func77 (c:=bO_ Tryz.f77) (by kernel_rfl) rfl (by kernel_rfl) (rs:=#[.tmp 4]) rfl (by decide +kernel) (by kernel_rfl) (W77_wp v0 v1 H K) h
def D78:Info:=⟨75,fun i=>if i=5 then ([[],[],[0,1],[0,1,2],[0,1,2,3],[0,1,2,3,4],[0,1,2,3,4,5],[0,1,2,3,4,5,6],[0,1,2,3,4,5,6,7],[0,1,2,3,4,5,6,7,8],[0,1,2,3,4,5,6,7,8],[0,1,2,3,4,5,6,7,8,9,10],[0,1,2,3,4,5,6,7,8,9,10,11],[0,1,2,3,4,5,6,7,8],[0,1,2,3,4,5,6,7,8],[0,1,2,3,4,5,6,7,8,13,14],[0,1,2,3,4,5,6,7,8,13,14,15],[0,1,2,3,4,5,6,7,8,9,10,11,12,13,14,15,16],[0,1,2,3,4,5,6,7,8,9,10,11,12,13,14,15,16,17],[0,1,2,3,4,5,6,7,8,9,10,11,12,13,14,15,16,17,18]],[(0,[]),(1,[]),(2,[]),(3,[]),(4,[]),(5,[]),(6,[]),(7,[]),(8,[]),(9,[]),(10,[]),(11,[]),(12,[]),(13,[]),(14,[]),(15,[]),(16,[]),(17,[]),(18,[]),(19,[])]) else ([],[]),fun i=>if i=3 then ([0,7,18,19],[8,20]) else if i=12 then ([0,7],[11,12]) else ([],[])⟩
def L78_0 (K:AV→Heap→Prop) (v0:AV) (v7:AV) (v8:AV) (v18:AV) (v19:AV) (v20:AV) (H:Heap):Prop:=LoopV (wpC Tryz.prog tab D78 (cAt [1,1,0,1,0,0] (bO_ Tryz.f78))) [0,7,18,19] (PostF.block 0 (PostF.thenA (wpC Tryz.prog tab D78 (cAt [1,1,1] (bO_ Tryz.f78))) (retF tab [.tmp 6] K))) [8,20] [v0,Q_,Q_,Q_,Q_,Q_,Q_,v7,v8,Q_,Q_,Q_,Q_,Q_,Q_,Q_,Q_,Q_,v18,v19,v20,Q_,Q_,Q_,Q_,Q_,Q_,Q_,Q_,Q_,Q_,Q_,Q_,Q_,Q_,Q_,Q_,Q_,Q_,Q_,Q_,Q_,Q_,Q_,Q_,Q_,Q_,Q_,Q_,Q_,Q_,Q_,Q_,Q_,Q_,Q_,Q_,Q_,Q_,Q_,Q_,Q_,Q_,Q_,Q_,Q_,Q_,Q_,Q_,Q_,Q_,Q_,Q_,Q_,Q_] H
def L78_1 (K:AV→Heap→Prop) (v0:AV) (v7:AV) (v11:AV) (v12:AV) (H:Heap):Prop:=LoopV (wpC Tryz.prog tab D78 (cAt [1,1,1,1,1,0,1,0,0] (bO_ Tryz.f78))) [0,7] (PostF.block 2 (PostF.thenA (wpC Tryz.prog tab D78 (cAt [1,1,1,1,1,1] (bO_ Tryz.f78))) (retF tab [.tmp 6] K))) [11,12] [v0,Q_,Q_,Q_,Q_,Q_,Q_,v7,Q_,Q_,Q_,v11,v12,Q_,Q_,Q_,Q_,Q_,Q_,Q_,Q_,Q_,Q_,Q_,Q_,Q_,Q_,Q_,Q_,Q_,Q_,Q_,Q_,Q_,Q_,Q_,Q_,Q_,Q_,Q_,Q_,Q_,Q_,Q_,Q_,Q_,Q_,Q_,Q_,Q_,Q_,Q_,Q_,Q_,Q_,Q_,Q_,Q_,Q_,Q_,Q_,Q_,Q_,Q_,Q_,Q_,Q_,Q_,Q_,Q_,Q_,Q_,Q_,Q_,Q_] H
def B78_1 (K:AV→Heap→Prop) (N1:AV→AV→Heap→Prop) (v0:AV) (v7:AV) (v11:AV) (v12:AV) (H:Heap):Prop:=
 lV_ tab 22 v7 H fun v51=>
 lV_ tab 3 v12 H fun v52=>
 iA_ tab 22 v51 v52 fun v53=>
 lV_ tab 3 v53 H fun v54=>
 binV tab .gtr 3 v54 (AV.p (.int .i64 0)) fun v55=>
 cV_ v55 (lV_ tab 3 v12 H fun v57=>
 iA_ tab 24 v0 v57 fun v58=>
 lV_ tab 22 v58 H fun v59=>
 CallT Tryz.prog 115 [v59,(.fn 116 [v7,v12])] H fun v61 H8=>
 lV_ tab 3 v12 H8 fun v63=>
 iA_ tab 24 v0 v63 fun v64=>
 lV_ tab 22 v64 H8 fun v65=>
 iA_ tab 22 v65 v61 fun v67=>
 lV_ tab 3 v67 H8 fun v68=>
 sV_ tab 3 v12 v68 H8 fun H9=>
 lV_ tab 3 v12 H9 fun v70=>
 bS_ tab 22 1 [(0,v70)] H9 (wkK fun v71 H10=>
 aP_ tab 22 22 v11 v71 H10 (wkK fun v72 H11=>
 lV_ tab 3 v12 H11 fun v73=>
 allocV tab 3 H11 fun v12 H12=>
 sV_ tab 3 v12 v73 H12 fun H13=>
 N1 v72 v12 H13)))
 (K v11 H)
def B78_0 (K:AV→Heap→Prop) (N1:AV→AV→Heap→Prop) (v0:AV) (v7:AV) (v8:AV) (v18:AV) (v19:AV) (v20:AV) (H:Heap):Prop:=
 binV tab .lss 3 v20 v19 fun v21=>
 cV_ v21 (iA_ tab 22 v18 v20 fun v22=>
 lV_ tab 3 v22 H fun v23=>
 lV_ tab 22 v7 H fun v24=>
 iA_ tab 22 v24 v23 fun v26=>
 lV_ tab 3 v26 H fun v27=>
 binV tab .geq 3 v27 (AV.p (.int .i64 0)) fun v28=>
 grdV v28 true (binV tab .lss 3 v8 (AV.p (.int .i64 0)) fun v31=>
 grdV v31 false (lV_ tab 22 v7 H fun v33=>
 iA_ tab 22 v33 v23 fun v35=>
 lV_ tab 3 v35 H fun v36=>
 lV_ tab 22 v7 H fun v37=>
 iA_ tab 22 v37 v8 fun v39=>
 lV_ tab 3 v39 H fun v40=>
 binV tab .lss 3 v36 v40 fun v41=>
 cV_ v41 (binV tab .add 3 v20 (AV.p (.int .i64 1)) fun v45=>
 N1 v23 v45 H)
 (binV tab .add 3 v20 (AV.p (.int .i64 1)) fun v45=>
 N1 v8 v45 H))
 (binV tab .add 3 v20 (AV.p (.int .i64 1)) fun v45=>
 N1 v23 v45 H))
 (binV tab .add 3 v20 (AV.p (.int .i64 1)) fun v45=>
 N1 v8 v45 H))
 (binV tab .lss 3 v8 (AV.p (.int .i64 0)) fun v47=>
 cV_ v47 (K (AV.p .nil) H)
 (bS_ tab 22 1 [(0,v8)] H (wkK fun v49 H5=>
 allocV tab 3 H5 fun v12 H6=>
 sV_ tab 3 v12 v8 H6 fun H7=>
 L78_1 K v0 v7 v49 v12 H7)))
def W78 (v0:AV) (v1:AV) (v2:AV) (H:Heap) (K:AV→Heap→Prop):Prop:=
 CallT Tryz.prog 114 [v0] H fun v15 H1=>
 CallT Tryz.prog 97 [v15,v2] H1 fun v17 H2=>
 allocV tab 22 H2 fun v7 H3=>
 sV_ tab 22 v7 v17 H3 fun H4=>
 lenV tab 22 v1 fun v19=>
 L78_0 K v0 v7 (AV.p (.int .i64 (-1))) v1 v19 (AV.p (.int .i64 0)) H4
theorem W78_wp (v0:AV) (v1:AV) (v2:AV) (H:Heap) (K:AV→Heap→Prop):wpC Tryz.prog tab D78 (bO_ Tryz.f78) (retF tab [.tmp 6] K) (nthA [v0,v1,v2]) H=W78 v0 v1 v2 H K:=by kernel_rfl
theorem W78_ok {v0 v1 v2:AV} {H:Heap} {K:AV→Heap→Prop} (h:W78 v0 v1 v2 H K):CallT Tryz.prog 78 [v0,v1,v2] H K:=
 CallT.of_wp (D:=D78) tO_ mixed Tryz.func78 (c:=bO_ Tryz.f78) (by kernel_rfl) rfl (by kernel_rfl) (rs:=#[.tmp 6]) rfl (by decide +kernel) (by kernel_rfl) (W78_wp v0 v1 v2 H K) h
theorem L78_1_rule {K:AV→Heap→Prop} {v0 v7 v11 v12:AV} {H:Heap} {σ:Type} (s0:σ) (f11:σ→AV) (f12:σ→AV) (TH:σ→Heap) (pre:σ→Prop) (μ:σ→Nat)
  (h0:pre s0∧AV.wk v11 (f11 s0)∧AV.wk v12 (f12 s0)∧Heap.le (TH s0) H)
  (round:∀s,pre s→B78_1 K (fun w11 w12 H'=>∃s',pre s'∧μ s' < μ s∧AV.wk w11 (f11 s')∧AV.wk w12 (f12 s')∧Heap.le (TH s') H') v0 v7 (f11 s) (f12 s) (TH s)) :
  L78_1 K v0 v7 v11 v12 H:=by
 unfold L78_1
 exact LoopV.mk s0 (fun s=>[f11 s,f12 s]) TH pre μ (fun _=>rfl) (Eq.mp (by kernel_rfl) h0) (fun s hs=>Eq.mp (by kernel_rfl) (round s hs))
theorem L78_0_rule {K:AV→Heap→Prop} {v0 v7 v8 v18 v19 v20:AV} {H:Heap} {σ:Type} (s0:σ) (f8:σ→AV) (f20:σ→AV) (TH:σ→Heap) (pre:σ→Prop) (μ:σ→Nat)
  (h0:pre s0∧AV.wk v8 (f8 s0)∧AV.wk v20 (f20 s0)∧Heap.le (TH s0) H)
  (round:∀s,pre s→B78_0 K (fun w8 w20 H'=>∃s',pre s'∧μ s' < μ s∧AV.wk w8 (f8 s')∧AV.wk w20 (f20 s')∧Heap.le (TH s') H') v0 v7 (f8 s) v18 v19 (f20 s) (TH s)) :
  L78_0 K v0 v7 v8 v18 v19 v20 H:=by
 unfold L78_0
 exact LoopV.mk s0 (fun s=>[f8 s,f20 s]) TH pre μ (fun _=>rfl) (Eq.mp (by kernel_rfl) h0) (fun s hs=>Eq.mp (by kernel_rfl) (round s hs))
def D79:Info:=⟨39,fun i=>if i=2 then ([[],[],[1],[],[3],[],[],[5,6],[0,1,2,3,4,5,6,7],[0,1,2,3,4,5,6,7,8],[0,1,2,3,4,5,6,7,8,9]],[(0,[]),(1,[]),(3,[]),(6,[]),(5,[2,4]),(7,[2,4]),(2,[2,4]),(4,[4]),(8,[]),(9,[]),(10,[])]) else ([],[]),fun i=>if i=4 then ([4,19],[20]) else ([],[])⟩
def L79_0 (K:AV→Heap→Prop) (v4:AV) (v19:AV) (v20:AV) (H:Heap):Prop:=LoopV (wpC Tryz.prog tab D79 (cAt [1,1,1,0,1,0,0] (bO_ Tryz.f79))) [4,19] (PostF.block 0 (PostF.thenA (wpC Tryz.prog tab D79 (cAt [1,1,1,1] (bO_ Tryz.f79))) (retF tab [.tmp 2] K))) [20] [Q_,Q_,Q_,Q_,v4,Q_,Q_,Q_,Q_,Q_,Q_,Q_,Q_,Q_,Q_,Q_,Q_,Q_,Q_,v19,v20,Q_,Q_,Q_,Q_,Q_,Q_,Q_,Q_,Q_,Q_,Q_,Q_,Q_,Q_,Q_,Q_,Q_,Q_] H
def B79_0 (K:AV→Heap→Prop) (N1:AV→Heap→Prop) (v4:AV) (v19:AV) (v20:AV) (H:Heap):Prop:=
 binV tab .lss 3 v20 v19 fun v21=>
 cV_ v21 (nC_ v4 fun v24=>
 fA_ tab 133 v24 1 fun v25=>
 lV_ tab 22 v25 H fun v26=>
 iA_ tab 22 v26 v20 fun v28=>
 lV_ tab 3 v28 H fun v29=>
 binV tab .eql 3 v29 (AV.p (.int .i64 0)) fun v30=>
 cV_ v30 (CallT Tryz.prog 118 [v4,v20] H fun v33 H6=>
 binV tab .add 3 v20 (AV.p (.int .i64 1)) fun v34=>
 N1 v34 H6)
 (binV tab .add 3 v20 (AV.p (.int .i64 1)) fun v34=>
 N1 v34 H))
 (nC_ v4 fun v36=>
 fA_ tab 133 v36 3 fun v37=>
 lV_ tab 22 v37 H fun v38=>
 K v38 H)
def W79 (v0:AV) (H:Heap) (K:AV→Heap→Prop):Prop:=
 lenV tab 24 v0 fun v7=>
 safeV (makeN tab 22 v7 v7)∧
 safeV (makeN tab 22 v7 v7)∧
 bS_ tab 22 1 [(0,(AV.p (.int .i64 (-1))))] H (wkK fun v13 H1=>
 safeV (makeN tab 22 v7 v7)∧
 safeV (makeN tab 22 v7 v7)∧
 CallT Tryz.prog 117 [v13,v7] H1 fun v15 H2=>
 safeV (makeN tab 22 v7 v7)∧
 newV (makeN tab 22 v7 v7) H2 fun v10 H3=>
 newV (makeN tab 22 v7 v7) H3 fun v12 H4=>
 buildV tab 133 [(0,v0),(1,v10),(2,v12),(3,v15)] fun v16=>
 boxV v16 H4 fun v17 H5=>
 lenV tab 24 v0 fun v19=>
 L79_0 K v17 v19 (AV.p (.int .i64 0)) H5)
theorem W79_wp (v0:AV) (H:Heap) (K:AV→Heap→Prop):wpC Tryz.prog tab D79 (bO_ Tryz.f79) (retF tab [.tmp 2] K) (nthA [v0]) H=W79 v0 H K:=by kernel_rfl
theorem W79_ok {v0:AV} {H:Heap} {K:AV→Heap→Prop} (h:W79 v0 H K):CallT Tryz.prog 79 [v0] H K:=
 CallT.of_wp (D:=D79) tO_ mixed Tryz.func79 (c:=bO_ Tryz.f79) (by kernel_rfl) rfl (by kernel_rfl) (rs:=#[.tmp 2]) rfl (by decide +kernel) (by kernel_rfl) (W79_wp v0 H K) h
theorem L79_0_rule {K:AV→Heap→Prop} {v4 v19 v20:AV} {H:Heap} {σ:Type} (s0:σ) (f20:σ→AV) (TH:σ→Heap) (pre:σ→Prop) (μ:σ→Nat)
  (h0:pre s0∧AV.wk v20 (f20 s0)∧Heap.le (TH s0) H)
  (round:∀s,pre s→B79_0 K (fun w20 H'=>∃s',pre s'∧μ s' < μ s∧AV.wk w20 (f20 s')∧Heap.le (TH s') H') v4 v19 (f20 s) (TH s)) :
  L79_0 K v4 v19 v20 H:=by
 unfold L79_0
 exact LoopV.mk s0 (fun s=>[f20 s]) TH pre μ (fun _=>rfl) (Eq.mp (by kernel_rfl) h0) (fun s hs=>Eq.mp (by kernel_rfl) (round s hs))
def D80:Info:=⟨55,fun i=>([],[]),fun i=>if i=3 then ([1,2,7,15,16],[17]) else if i=6 then ([1,2,7,8,15,16,17,22,23],[24]) else ([],[])⟩
def L80_0 (K:AV→Heap→Prop) (v1:AV) (v2:AV) (v7:AV) (v15:AV) (v16:AV) (v17:AV) (H:Heap):Prop:=LoopV (wpC Tryz.prog tab D80 (cAt [1,1,0,1,0,0] (bO_ Tryz.f80))) [1,2,7,15,16] (PostF.block 0 (PostF.thenA (wpC Tryz.prog tab D80 (cAt [1,1,1] (bO_ Tryz.f80))) (retF tab [.tmp 6] K))) [17] [Q_,v1,v2,Q_,Q_,Q_,Q_,v7,Q_,Q_,Q_,Q_,Q_,Q_,Q_,v15,v16,v17,Q_,Q_,Q_,Q_,Q_,Q_,Q_,Q_,Q_,Q_,Q_,Q_,Q_,Q_,Q_,Q_,Q_,Q_,Q_,Q_,Q_,Q_,Q_,Q_,Q_,Q_,Q_,Q_,Q_,Q_,Q_,Q_,Q_,Q_,Q_,Q_,Q_] H
def L80_1 (K:AV→Heap→Prop) (N1:AV→Heap→Prop) (v1:AV) (v2:AV) (v7:AV) (v8:AV) (v15:AV) (v16:AV) (v17:AV) (v22:AV) (v23:AV) (v24:AV) (H:Heap):Prop:=LoopV (wpC Tryz.prog tab D80 (cAt [1,1,0,1,0,0,1,1,0,0,1,1,0,0] (bO_ Tryz.f80))) [1,2,7,8,15,16,17,22,23] (PostF.block 2 (PostF.block 1 (PostF.thenA (wpC Tryz.prog tab D80 (cAt [1,1,0,1,0,0,1,1,1] (bO_ Tryz.f80))) (loopF (PostF.block 0 (PostF.thenA (wpC Tryz.prog tab D80 (cAt [1,1,1] (bO_ Tryz.f80))) (retF tab [.tmp 6] K))) (fun e h=>N1 (e 17) h))))) [24] [Q_,v1,v2,Q_,Q_,Q_,Q_,v7,v8,Q_,Q_,Q_,Q_,Q_,Q_,v15,v16,v17,Q_,Q_,Q_,Q_,v22,v23,v24,Q_,Q_,Q_,Q_,Q_,Q_,Q_,Q_,Q_,Q_,Q_,Q_,Q_,Q_,Q_,Q_,Q_,Q_,Q_,Q_,Q_,Q_,Q_,Q_,Q_,Q_,Q_,Q_,Q_,Q_] H
def B80_1 (K:AV→Heap→Prop) (N1:AV→Heap→Prop) (N2:AV→Heap→Prop) (v1:AV) (v2:AV) (v7:AV) (v8:AV) (v15:AV) (v16:AV) (v17:AV) (v22:AV) (v23:AV) (v24:AV) (H:Heap):Prop:=
 binV tab .lss 3 v24 v23 fun v25=>
 cV_ v25 (iA_ tab 22 v22 v24 fun v26=>
 lV_ tab 3 v26 H fun v27=>
 iA_ tab 22 v1 v8 fun v30=>
 lV_ tab 3 v30 H fun v31=>
 binV tab .eql 3 v31 v2 fun v33=>
 grdV v33 true (iA_ tab 22 v1 v27 fun v37=>
 lV_ tab 3 v37 H fun v38=>
 binV tab .eql 3 v38 v2 fun v40=>
 cV_ v40 (iA_ tab 24 v7 v8 fun v46=>
 lV_ tab 22 v46 H fun v47=>
 bS_ tab 22 1 [(0,v27)] H (wkK fun v49 H2=>
 aP_ tab 22 22 v47 v49 H2 (wkK fun v50 H3=>
 iA_ tab 24 v7 v8 fun v51=>
 sV_ tab 22 v51 v50 H3 fun H4=>
 binV tab .add 3 v24 (AV.p (.int .i64 1)) fun v52=>
 N2 v52 H4)))
 (binV tab .add 3 v24 (AV.p (.int .i64 1)) fun v52=>
 N2 v52 H))
 (binV tab .add 3 v24 (AV.p (.int .i64 1)) fun v52=>
 N2 v52 H))
 (binV tab .add 3 v17 (AV.p (.int .i64 1)) fun v53=>
 N1 v53 H)
def B80_0 (K:AV→Heap→Prop) (N1:AV→Heap→Prop) (v1:AV) (v2:AV) (v7:AV) (v15:AV) (v16:AV) (v17:AV) (H:Heap):Prop:=
 binV tab .lss 3 v17 v16 fun v18=>
 cV_ v18 (iA_ tab 24 v15 v17 fun v20=>
 lV_ tab 22 v20 H fun v21=>
 lenV tab 22 v21 fun v23=>
 L80_1 K N1 v1 v2 v7 v17 v15 v16 v17 v21 v23 (AV.p (.int .i64 0)) H)
 (K v7 H)
def W80 (v0:AV) (v1:AV) (v2:AV) (H:Heap) (K:AV→Heap→Prop):Prop:=
 lenV tab 24 v0 fun v13=>
 mS_ tab 24 v13 v13 H fun v14 H1=>
 lenV tab 24 v0 fun v16=>
 L80_0 K v1 v2 v14 v0 v16 (AV.p (.int .i64 0)) H1
theorem W80_wp (v0:AV) (v1:AV) (v2:AV) (H:Heap) (K:AV→Heap→Prop):wpC Tryz.prog tab D80 (bO_ Tryz.f80) (retF tab [.tmp 6] K) (nthA [v0,v1,v2]) H=W80 v0 v1 v2 H K:=by kernel_rfl
theorem W80_ok {v0 v1 v2:AV} {H:Heap} {K:AV→Heap→Prop} (h:W80 v0 v1 v2 H K):CallT Tryz.prog 80 [v0,v1,v2] H K:=
 CallT.of_wp (D:=D80) tO_ mixed Tryz.func80 (c:=bO_ Tryz.f80) (by kernel_rfl) rfl (by kernel_rfl) (rs:=#[.tmp 6]) rfl (by decide +kernel) (by kernel_rfl) (W80_wp v0 v1 v2 H K) h
theorem L80_1_rule {K:AV→Heap→Prop} {N1:AV→Heap→Prop} {v1 v2 v7 v8 v15 v16 v17 v22 v23 v24:AV} {H:Heap} {σ:Type} (s0:σ) (f24:σ→AV) (TH:σ→Heap) (pre:σ→Prop) (μ:σ→Nat)
  (h0:pre s0∧AV.wk v24 (f24 s0)∧Heap.le (TH s0) H)
  (round:∀s,pre s→B80_1 K N1 (fun w24 H'=>∃s',pre s'∧μ s' < μ s∧AV.wk w24 (f24 s')∧Heap.le (TH s') H') v1 v2 v7 v8 v15 v16 v17 v22 v23 (f24 s) (TH s)) :
  L80_1 K N1 v1 v2 v7 v8 v15 v16 v17 v22 v23 v24 H:=by
 unfold L80_1
 exact LoopV.mk s0 (fun s=>[f24 s]) TH pre μ (fun _=>rfl) (Eq.mp (by kernel_rfl) h0) (fun s hs=>Eq.mp (by kernel_rfl) (round s hs))
theorem L80_0_rule {K:AV→Heap→Prop} {v1 v2 v7 v15 v16 v17:AV} {H:Heap} {σ:Type} (s0:σ) (f17:σ→AV) (TH:σ→Heap) (pre:σ→Prop) (μ:σ→Nat)
  (h0:pre s0∧AV.wk v17 (f17 s0)∧Heap.le (TH s0) H)
  (round:∀s,pre s→B80_0 K (fun w17 H'=>∃s',pre s'∧μ s' < μ s∧AV.wk w17 (f17 s')∧Heap.le (TH s') H') v1 v2 v7 v15 v16 (f17 s) (TH s)) :
  L80_0 K v1 v2 v7 v15 v16 v17 H:=by
 unfold L80_0
 exact LoopV.mk s0 (fun s=>[f17 s]) TH pre μ (fun _=>rfl) (Eq.mp (by kernel_rfl) h0) (fun s hs=>Eq.mp (by kernel_rfl) (round s hs))
def D81:Info:=⟨42,fun i=>([],[]),fun i=>if i=5 then ([0,1],[5,6]) else ([],[])⟩
def L81_0 (K:AV→Heap→Prop) (v0:AV) (v1:AV) (v5:AV) (v6:AV) (H:Heap):Prop:=LoopV (wpC Tryz.prog tab D81 (cAt [1,1,1,0,1,0,0] (bO_ Tryz.f81))) [0,1] (PostF.block 0 (PostF.thenA (wpC Tryz.prog tab D81 (cAt [1,1,1,1] (bO_ Tryz.f81))) (retF tab [.tmp 4] K))) [5,6] [v0,v1,Q_,Q_,Q_,v5,v6,Q_,Q_,Q_,Q_,Q_,Q_,Q_,Q_,Q_,Q_,Q_,Q_,Q_,Q_,Q_,Q_,Q_,Q_,Q_,Q_,Q_,Q_,Q_,Q_,Q_,Q_,Q_,Q_,Q_,Q_,Q_,Q_,Q_,Q_,Q_] H
def B81_0 (K:AV→Heap→Prop) (N1:AV→AV→Heap→Prop) (v0:AV) (v1:AV) (v5:AV) (v6:AV) (H:Heap):Prop:=
 lenV tab 22 v0 fun v18=>
 binV tab .lss 3 v6 v18 fun v19=>
 cV_ v19 (iA_ tab 22 v0 v6 fun v24=>
 lV_ tab 3 v24 H fun v25=>
 callF Tryz.prog v1 [v25] H fun v28 H2=>
 unV .not v28 fun v29=>
 cV_ v29 (iA_ tab 22 v0 v5 fun v33=>
 sV_ tab 3 v33 v25 H2 fun H3=>
 binV tab .add 3 v5 (AV.p (.int .i64 1)) fun v35=>
 binV tab .add 3 v6 (AV.p (.int .i64 1)) fun v21=>
 N1 v35 v21 H3)
 (binV tab .add 3 v6 (AV.p (.int .i64 1)) fun v21=>
 N1 v5 v21 H2))
 (sliceV tab 22 v0 (some v5) none none fun v38=>
 clearV tab 22 v38 H fun _ H4=>
 sliceV tab 22 v0 none (some v5) none fun v41=>
 K v41 H4)
def W81 (v0:AV) (v1:AV) (H:Heap) (K:AV→Heap→Prop):Prop:=
 CallT Tryz.prog 115 [v0,v1] H fun v10 H1=>
 binV tab .eql 3 v10 (AV.p (.int .i64 (-1))) fun v12=>
 cV_ v12 (K v0 H1)
 (binV tab .add 3 v10 (AV.p (.int .i64 1)) fun v15=>
 L81_0 K v0 v1 v10 v15 H1)
theorem W81_wp (v0:AV) (v1:AV) (H:Heap) (K:AV→Heap→Prop):wpC Tryz.prog tab D81 (bO_ Tryz.f81) (retF tab [.tmp 4] K) (nthA [v0,v1]) H=W81 v0 v1 H K:=by kernel_rfl
theorem W81_ok {v0 v1:AV} {H:Heap} {K:AV→Heap→Prop} (h:W81 v0 v1 H K):CallT Tryz.prog 81 [v0,v1] H K:=
 CallT.of_wp (D:=D81) tO_ mixed Tryz.func81 (c:=bO_ Tryz.f81) (by kernel_rfl) rfl (by kernel_rfl) (rs:=#[.tmp 4]) rfl (by decide +kernel) (by kernel_rfl) (W81_wp v0 v1 H K) h
theorem L81_0_rule {K:AV→Heap→Prop} {v0 v1 v5 v6:AV} {H:Heap} {σ:Type} (s0:σ) (f5:σ→AV) (f6:σ→AV) (TH:σ→Heap) (pre:σ→Prop) (μ:σ→Nat)
  (h0:pre s0∧AV.wk v5 (f5 s0)∧AV.wk v6 (f6 s0)∧Heap.le (TH s0) H)
  (round:∀s,pre s→B81_0 K (fun w5 w6 H'=>∃s',pre s'∧μ s' < μ s∧AV.wk w5 (f5 s')∧AV.wk w6 (f6 s')∧Heap.le (TH s') H') v0 v1 (f5 s) (f6 s) (TH s)) :
  L81_0 K v0 v1 v5 v6 H:=by
 unfold L81_0
 exact LoopV.mk s0 (fun s=>[f5 s,f6 s]) TH pre μ (fun _=>rfl) (Eq.mp (by kernel_rfl) h0) (fun s hs=>Eq.mp (by kernel_rfl) (round s hs))
def D82:Info:=⟨8,fun i=>([],[]),fun i=>([],[])⟩
def W82 (v0:AV) (H:Heap) (K:AV→Heap→Prop):Prop:=
 binV tab .eql 22 v0 (AV.p .nil) fun v4=>
 cV_ v4 (K (AV.p .nil) H)
 (bS_ tab 22 0 [] H (wkK fun v5 H1=>
 aP_ tab 22 22 v5 v0 H1 (wkK fun v7 H2=>
 K v7 H2)))
theorem W82_wp (v0:AV) (H:Heap) (K:AV→Heap→Prop):wpC Tryz.prog tab D82 (bO_ Tryz.f82) (retF tab [.tmp 2] K) (nthA [v0]) H=W82 v0 H K:=by kernel_rfl
theorem W82_ok {v0:AV} {H:Heap} {K:AV→Heap→Prop} (h:W82 v0 H K):CallT Tryz.prog 82 [v0] H K:=
 CallT.of_wp (D:=D82) tO_ mixed Tryz.func82 (c:=bO_ Tryz.f82) (by kernel_rfl) rfl (by kernel_rfl) (rs:=#[.tmp 2]) rfl (by decide +kernel) (by kernel_rfl) (W82_wp v0 H K) h
theorem W82_hb:HasBody Tryz.prog 82:=⟨_,bO_ Tryz.f82,Tryz.func82,by kernel_rfl,rfl⟩
def D83:Info:=⟨14,fun i=>if i=1 then ([[],[],[0,1],[0,1,2],[],[],[4,5],[4,5,6],[0,1,2,3,4,5,6,7],[0,1,2,3,4,5,6,7,8]],[(0,[]),(1,[]),(2,[]),(3,[]),(4,[]),(5,[]),(6,[]),(7,[]),(8,[]),(9,[])]) else ([],[]),fun i=>([],[])⟩
def W83 (v0:AV) (v1:AV) (v2:AV) (H:Heap) (K:AV→Heap→Prop):Prop:=
 lV_ tab 22 v1 H fun v5=>
 iA_ tab 22 v5 v0 fun v7=>
 lV_ tab 3 v7 H fun v8=>
 lV_ tab 22 v1 H fun v9=>
 lV_ tab 3 v2 H fun v10=>
 iA_ tab 22 v9 v10 fun v11=>
 lV_ tab 3 v11 H fun v12=>
 binV tab .neq 3 v8 v12 fun v13=>
 K v13 H
theorem W83_wp (v0:AV) (v1:AV) (v2:AV) (H:Heap) (K:AV→Heap→Prop):wpC Tryz.prog tab D83 (bO_ Tryz.f83) (retF tab [.tmp 4] K) (nthA [v0,v1,v2]) H=W83 v0 v1 v2 H K:=by kernel_rfl
theorem W83_ok {v0 v1 v2:AV} {H:Heap} {K:AV→Heap→Prop} (h:W83 v0 v1 v2 H K):CallT Tryz.prog 83 [v0,v1,v2] H K:=
 CallT.of_wp (D:=D83) tO_ mixed Tryz.func83 (c:=bO_ Tryz.f83) (by kernel_rfl) rfl (by kernel_rfl) (rs:=#[.tmp 4]) rfl (by decide +kernel) (by kernel_rfl) (W83_wp v0 v1 v2 H K) h
def D86:Info:=⟨27,fun i=>([],[]),fun i=>([],[])⟩
def W86 (v0:AV) (v1:AV) (H:Heap) (K:AV→Heap→Prop):Prop:=
 binV tab .lss 3 v1 (AV.p (.int .i64 0)) fun v6=>
 cV_ v6 (False)
 (capV tab 22 v0 fun v10=>
 lenV tab 22 v0 fun v12=>
 binV tab .sub 3 v10 v12 fun v13=>
 binV tab .sub 3 v1 v13 fun v14=>
 binV tab .gtr 3 v14 (AV.p (.int .i64 0)) fun v16=>
 cV_ v16 (capV tab 22 v0 fun v19=>
 sliceV tab 22 v0 none (some v19) none fun v20=>
 aP_ tab 22 3 v20 v14 H (wkK fun v22 H1=>
 lenV tab 22 v0 fun v24=>
 sliceV tab 22 v22 none (some v24) none fun v25=>
 K v25 H1))
 (K v0 H))
theorem W86_wp (v0:AV) (v1:AV) (H:Heap) (K:AV→Heap→Prop):wpC Tryz.prog tab D86 (bO_ Tryz.f86) (retF tab [.tmp 4] K) (nthA [v0,v1]) H=W86 v0 v1 H K:=by kernel_rfl
theorem W86_ok {v0 v1:AV} {H:Heap} {K:AV→Heap→Prop} (h:W86 v0 v1 H K):CallT Tryz.prog 86 [v0,v1] H K:=
 CallT.of_wp (D:=D86) tO_ mixed Tryz.func86 (c:=bO_ Tryz.f86) (by kernel_rfl) rfl (by kernel_rfl) (rs:=#[.tmp 4]) rfl (by decide +kernel) (by kernel_rfl) (W86_wp v0 v1 H K) h
def D87:Info:=⟨19,fun i=>([],[]),fun i=>if i=2 then ([0,1,7],[8]) else ([],[])⟩
def L87_0 (K:AV→Heap→Prop) (v0:AV) (v1:AV) (v7:AV) (v8:AV) (H:Heap):Prop:=LoopV (wpC Tryz.prog tab D87 (cAt [1,0,1,0,0] (bO_ Tryz.f87))) [0,1,7] (PostF.block 0 (PostF.thenA (wpC Tryz.prog tab D87 (cAt [1,1] (bO_ Tryz.f87))) (retF tab [.tmp 4] K))) [8] [v0,v1,Q_,Q_,Q_,Q_,Q_,v7,v8,Q_,Q_,Q_,Q_,Q_,Q_,Q_,Q_,Q_,Q_] H
def B87_0 (K:AV→Heap→Prop) (N1:AV→Heap→Prop) (v0:AV) (v1:AV) (v7:AV) (v8:AV) (H:Heap):Prop:=
 binV tab .lss 3 v8 v7 fun v9=>
 cV_ v9 (iA_ tab 32 v0 v8 fun v14=>
 lV_ tab 84 v14 H fun v15=>
 callF Tryz.prog v1 [v15] H fun v16 H1=>
 cV_ v16 (K v8 H1)
 (binV tab .add 3 v8 (AV.p (.int .i64 1)) fun v18=>
 N1 v18 H1))
 (K (AV.p (.int .i64 (-1))) H)
def W87 (v0:AV) (v1:AV) (H:Heap) (K:AV→Heap→Prop):Prop:=
 lenV tab 32 v0 fun v7=>
 L87_0 K v0 v1 v7 (AV.p (.int .i64 0)) H
theorem W87_wp (v0:AV) (v1:AV) (H:Heap) (K:AV→Heap→Prop):wpC Tryz.prog tab D87 (bO_ Tryz.f87) (retF tab [.tmp 4] K) (nthA [v0,v1]) H=W87 v0 v1 H K:=by kernel_rfl
theorem W87_ok {v0 v1:AV} {H:Heap} {K:AV→Heap→Prop} (h:W87 v0 v1 H K):CallT Tryz.prog 87 [v0,v1] H K:=
 CallT.of_wp (D:=D87) tO_ mixed Tryz.func87 (c:=bO_ Tryz.f87) (by kernel_rfl) rfl (by kernel_rfl) (rs:=#[.tmp 4]) rfl (by decide +kernel) (by kernel_rfl) (W87_wp v0 v1 H K) h
theorem L87_0_rule {K:AV→Heap→Prop} {v0 v1 v7 v8:AV} {H:Heap} {σ:Type} (s0:σ) (f8:σ→AV) (TH:σ→Heap) (pre:σ→Prop) (μ:σ→Nat)
  (h0:pre s0∧AV.wk v8 (f8 s0)∧Heap.le (TH s0) H)
  (round:∀s,pre s→B87_0 K (fun w8 H'=>∃s',pre s'∧μ s' < μ s∧AV.wk w8 (f8 s')∧Heap.le (TH s') H') v0 v1 v7 (f8 s) (TH s)) :
  L87_0 K v0 v1 v7 v8 H:=by
 unfold L87_0
 exact LoopV.mk s0 (fun s=>[f8 s]) TH pre μ (fun _=>rfl) (Eq.mp (by kernel_rfl) h0) (fun s hs=>Eq.mp (by kernel_rfl) (round s hs))
def D88:Info:=⟨15,fun i=>([],[]),fun i=>([],[])⟩
def W88 (v0:AV) (v1:AV) (v2:AV) (H:Heap) (K:AV→Heap→Prop):Prop:=
 boxV v0 H fun v3 H1=>
 fA_ tab 84 v3 0 fun v5=>
 lV_ tab 3 v5 H1 fun v6=>
 lV_ tab 3 v1 H1 fun v7=>
 binV tab .eql 3 v6 v7 fun v8=>
 grdV v8 true (fA_ tab 84 v3 2 fun v10=>
 lV_ tab 3 v10 H1 fun v11=>
 lV_ tab 3 v2 H1 fun v12=>
 binV tab .eql 3 v11 v12 fun v13=>
 K v13 H1)
 (K (AV.p (.bool false)) H1)
theorem W88_wp (v0:AV) (v1:AV) (v2:AV) (H:Heap) (K:AV→Heap→Prop):wpC Tryz.prog tab D88 (bO_ Tryz.f88) (retF tab [.tmp 4] K) (nthA [v0,v1,v2]) H=W88 v0 v1 v2 H K:=by kernel_rfl
theorem W88_ok {v0 v1 v2:AV} {H:Heap} {K:AV→Heap→Prop} (h:W88 v0 v1 v2 H K):CallT Tryz.prog 88 [v0,v1,v2] H K:=
 CallT.of_wp (D:=D88) tO_ mixed Tryz.func88 (c:=bO_ Tryz.f88) (by kernel_rfl) rfl (by kernel_rfl) (rs:=#[.tmp 4]) rfl (by decide +kernel) (by kernel_rfl) (W88_wp v0 v1 v2 H K) h
def D89:Info:=⟨29,fun i=>([],[]),fun i=>([],[])⟩
def W89 (v0:AV) (H:Heap) (K:AV→Heap→Prop):Prop:=
 boxV v0 H fun v1 H1=>
 fA_ tab 29 v1 0 fun v3=>
 lV_ tab 22 v3 H1 fun v4=>
 lenV tab 22 v4 fun v5=>
 binV tab .leq 3 v5 (AV.p (.int .i64 24)) fun v6=>
 grdV v6 true (fA_ tab 29 v1 1 fun v8=>
 lV_ tab 22 v8 H1 fun v9=>
 lenV tab 22 v9 fun v10=>
 binV tab .geq 3 v10 (AV.p (.int .i64 1)) fun v11=>
 grdV v11 true (fA_ tab 29 v1 1 fun v14=>
 lV_ tab 22 v14 H1 fun v15=>
 lenV tab 22 v15 fun v16=>
 binV tab .leq 3 v16 (AV.p (.int .i64 24)) fun v17=>
 grdV v17 true (fA_ tab 29 v1 0 fun v20=>
 lV_ tab 22 v20 H1 fun v21=>
 CallT Tryz.prog 121 [v21] H1 fun v22 H2=>
 grdV v22 true (fA_ tab 29 v1 1 fun v25=>
 lV_ tab 22 v25 H2 fun v26=>
 CallT Tryz.prog 121 [v26] H2 fun v27 H3=>
 K v27 H3)
 (K (AV.p (.bool false)) H2))
 (K (AV.p (.bool false)) H1))
 (K (AV.p (.bool false)) H1))
 (K (AV.p (.bool false)) H1)
theorem W89_wp (v0:AV) (H:Heap) (K:AV→Heap→Prop):wpC Tryz.prog tab D89 (bO_ Tryz.f89) (retF tab [.tmp 2] K) (nthA [v0]) H=W89 v0 H K:=by kernel_rfl
theorem W89_ok {v0:AV} {H:Heap} {K:AV→Heap→Prop} (h:W89 v0 H K):CallT Tryz.prog 89 [v0] H K:=
 CallT.of_wp (D:=D89) tO_ mixed Tryz.func89 (c:=bO_ Tryz.f89) (by kernel_rfl) rfl (by kernel_rfl) (rs:=#[.tmp 2]) rfl (by decide +kernel) (by kernel_rfl) (W89_wp v0 H K) h
def D90:Info:=⟨20,fun i=>([],[]),fun i=>([],[])⟩
def W90 (v0:AV) (v1:AV) (H:Heap) (K:AV→Heap→Prop):Prop:=
 boxV v0 H fun v2 H1=>
 boxV v1 H1 fun v3 H2=>
 fA_ tab 84 v2 0 fun v5=>
 lV_ tab 3 v5 H2 fun v6=>
 fA_ tab 84 v3 0 fun v7=>
 lV_ tab 3 v7 H2 fun v8=>
 binV tab .neq 3 v6 v8 fun v9=>
 cV_ v9 (K (AV.p (.bool false)) H2)
 (fA_ tab 84 v2 1 fun v10=>
 lV_ tab 3 v10 H2 fun v11=>
 fA_ tab 84 v3 1 fun v12=>
 lV_ tab 3 v12 H2 fun v13=>
 binV tab .neq 3 v11 v13 fun v14=>
 cV_ v14 (K (AV.p (.bool false)) H2)
 (fA_ tab 84 v2 2 fun v15=>
 lV_ tab 3 v15 H2 fun v16=>
 fA_ tab 84 v3 2 fun v17=>
 lV_ tab 3 v17 H2 fun v18=>
 binV tab .neq 3 v16 v18 fun v19=>
 cV_ v19 (K (AV.p (.bool false)) H2)
 (K (AV.p (.bool true)) H2)))
theorem W90_wp (v0:AV) (v1:AV) (H:Heap) (K:AV→Heap→Prop):wpC Tryz.prog tab D90 (bO_ Tryz.f90) (retF tab [.tmp 4] K) (nthA [v0,v1]) H=W90 v0 v1 H K:=by kernel_rfl
theorem W90_ok {v0 v1:AV} {H:Heap} {K:AV→Heap→Prop} (h:W90 v0 v1 H K):CallT Tryz.prog 90 [v0,v1] H K:=
 CallT.of_wp (D:=D90) tO_ mixed Tryz.func90 (c:=bO_ Tryz.f90) (by kernel_rfl) rfl (by kernel_rfl) (rs:=#[.tmp 4]) rfl (by decide +kernel) (by kernel_rfl) (W90_wp v0 v1 H K) h
def D91:Info:=⟨39,fun i=>([],[]),fun i=>if i=5 then ([11,12],[3,13]) else ([],[])⟩
def L91_0 (K:AV→Heap→Prop) (v3:AV) (v11:AV) (v12:AV) (v13:AV) (H:Heap):Prop:=LoopV (wpC Tryz.prog tab D91 (cAt [1,1,1,0,1,0,0] (bO_ Tryz.f91))) [11,12] (PostF.block 0 (PostF.thenA (wpC Tryz.prog tab D91 (cAt [1,1,1,1] (bO_ Tryz.f91))) (retF tab [.tmp 2] K))) [3,13] [Q_,Q_,Q_,v3,Q_,Q_,Q_,Q_,Q_,Q_,Q_,v11,v12,v13,Q_,Q_,Q_,Q_,Q_,Q_,Q_,Q_,Q_,Q_,Q_,Q_,Q_,Q_,Q_,Q_,Q_,Q_,Q_,Q_,Q_,Q_,Q_,Q_,Q_] H
def B91_0 (K:AV→Heap→Prop) (N1:AV→AV→Heap→Prop) (v3:AV) (v11:AV) (v12:AV) (v13:AV) (H:Heap):Prop:=
 binV tab .lss 3 v13 v12 fun v14=>
 cV_ v14 (iA_ tab 45 v11 v13 fun v15=>
 lV_ tab 76 v15 H fun v16=>
 allocV tab 76 H fun v5 H2=>
 sV_ tab 76 v5 v16 H2 fun H3=>
 fA_ tab 76 v5 0 fun v17=>
 lV_ tab 3 v17 H3 fun v18=>
 CallT Tryz.prog 122 [v18] H3 fun v19 H4=>
 binV tab .lss 3 v19 (AV.p (.int .i64 0)) fun v21=>
 grdV v21 false (lV_ tab 76 v5 H4 fun v23=>
 CallT Tryz.prog 123 [v23] H4 fun v24 H5=>
 unV .not v24 fun v25=>
 grdV v25 false (binV tab .lss 3 v3 v19 fun v30=>
 cV_ v30 (K (AV.p (.bool false)) H5)
 (binV tab .sub 3 (AV.p (.int .i64 1)) v19 fun v34=>
 binV tab .add 3 v3 v34 fun v35=>
 binV tab .add 3 v13 (AV.p (.int .i64 1)) fun v36=>
 N1 v35 v36 H5))
 (K (AV.p (.bool false)) H5))
 (K (AV.p (.bool false)) H4))
 (binV tab .eql 3 v3 (AV.p (.int .i64 1)) fun v38=>
 K v38 H)
def W91 (v0:AV) (H:Heap) (K:AV→Heap→Prop):Prop:=
 lenV tab 45 v0 fun v8=>
 CallT Tryz.prog 63 [v8,(AV.p (.int .i64 1)),(AV.p (.int .i64 16))] H fun v9 H1=>
 unV .not v9 fun v10=>
 cV_ v10 (K (AV.p (.bool false)) H1)
 (lenV tab 45 v0 fun v12=>
 L91_0 K (AV.p (.int .i64 0)) v0 v12 (AV.p (.int .i64 0)) H1)
theorem W91_wp (v0:AV) (H:Heap) (K:AV→Heap→Prop):wpC Tryz.prog tab D91 (bO_ Tryz.f91) (retF tab [.tmp 2] K) (nthA [v0]) H=W91 v0 H K:=by kernel_rfl
theorem W91_ok {v0:AV} {H:Heap} {K:AV→Heap→Prop} (h:W91 v0 H K):CallT Tryz.prog 91 [v0] H K:=
 CallT.of_wp (D:=D91) tO_ mixed Tryz.func91 (c:=bO_ Tryz.f91) (by kernel_rfl) rfl (by kernel_rfl) (rs:=#[.tmp 2]) rfl (by decide +kernel) (by kernel_rfl) (W91_wp v0 H K) h
theorem L91_0_rule {K:AV→Heap→Prop} {v3 v11 v12 v13:AV} {H:Heap} {σ:Type} (s0:σ) (f3:σ→AV) (f13:σ→AV) (TH:σ→Heap) (pre:σ→Prop) (μ:σ→Nat)
  (h0:pre s0∧AV.wk v3 (f3 s0)∧AV.wk v13 (f13 s0)∧Heap.le (TH s0) H)
  (round:∀s,pre s→B91_0 K (fun w3 w13 H'=>∃s',pre s'∧μ s' < μ s∧AV.wk w3 (f3 s')∧AV.wk w13 (f13 s')∧Heap.le (TH s') H') (f3 s) v11 v12 (f13 s) (TH s)) :
  L91_0 K v3 v11 v12 v13 H:=by
 unfold L91_0
 exact LoopV.mk s0 (fun s=>[f3 s,f13 s]) TH pre μ (fun _=>rfl) (Eq.mp (by kernel_rfl) h0) (fun s hs=>Eq.mp (by kernel_rfl) (round s hs))
end Go.Proofs.YtolffbcnbcjeaaaGreat
