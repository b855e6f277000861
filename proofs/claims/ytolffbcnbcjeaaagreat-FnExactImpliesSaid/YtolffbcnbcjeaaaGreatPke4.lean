/- Texts laid together: W5 W6 W7. -/
import Derived.Test.YtolffbcnbcjeaaaGreatPke3
import Derived.KernelRfl
set_option linter.unusedVariables false
set_option linter.unusedSimpArgs false
open Go.Sep.AV renaming any → Q_
open Nat renaming reduceAdd→ν1,reduceLeDiff→ν2,reduceLT→ν3,reduceMul→ν4,reduceSub→ν5
open Int renaming reduceToNat→ι1,reduceSub→ι2,reduceAdd→ι3,reduceNeg→ι4
open Array renaming toList→ι5
open Ne renaming symm→ν6
open List renaming forall_mem_cons→ν7
namespace Go.Proofs.YtolffbcnbcjeaaaGreat
open Go Go.Sep
attribute [local irreducible] wpC headF
def D67:Info:=⟨73,fun i=>([],[]),fun i=>if i=3 then ([0,1,5,17],[18]) else if i=8 then ([0,1,5,25,26],[27]) else if i=13 then ([0,5],[9]) else if i=17 then ([0,5,10,48,49],[9,50]) else ([],[])⟩
def L67_0 (K:AV→Heap→Prop) (v0:AV) (v1:AV) (v5:AV) (v17:AV) (v18:AV) (H:Heap):Prop:=LoopV (wpC Tryz.prog tab D67 (cAt [1,1,0,1,0,0] (bO_ Tryz.f67))) [0,1,5,17] (PostF.block 0 (PostF.thenA (wpC Tryz.prog tab D67 (cAt [1,1,1] (bO_ Tryz.f67))) (retF tab [.tmp 4] K))) [18] [v0,v1,Q_,Q_,Q_,v5,Q_,Q_,Q_,Q_,Q_,Q_,Q_,Q_,Q_,Q_,Q_,v17,v18,Q_,Q_,Q_,Q_,Q_,Q_,Q_,Q_,Q_,Q_,Q_,Q_,Q_,Q_,Q_,Q_,Q_,Q_,Q_,Q_,Q_,Q_,Q_,Q_,Q_,Q_,Q_,Q_,Q_,Q_,Q_,Q_,Q_,Q_,Q_,Q_,Q_,Q_,Q_,Q_,Q_,Q_,Q_,Q_,Q_,Q_,Q_,Q_,Q_,Q_,Q_,Q_,Q_,Q_] H
def L67_1 (K:AV→Heap→Prop) (v0:AV) (v1:AV) (v5:AV) (v25:AV) (v26:AV) (v27:AV) (H:Heap):Prop:=LoopV (wpC Tryz.prog tab D67 (cAt [1,1,1,0,1,0,0] (bO_ Tryz.f67))) [0,1,5,25,26] (PostF.block 2 (PostF.thenA (wpC Tryz.prog tab D67 (cAt [1,1,1,1] (bO_ Tryz.f67))) (retF tab [.tmp 4] K))) [27] [v0,v1,Q_,Q_,Q_,v5,Q_,Q_,Q_,Q_,Q_,Q_,Q_,Q_,Q_,Q_,Q_,Q_,Q_,Q_,Q_,Q_,Q_,Q_,Q_,v25,v26,v27,Q_,Q_,Q_,Q_,Q_,Q_,Q_,Q_,Q_,Q_,Q_,Q_,Q_,Q_,Q_,Q_,Q_,Q_,Q_,Q_,Q_,Q_,Q_,Q_,Q_,Q_,Q_,Q_,Q_,Q_,Q_,Q_,Q_,Q_,Q_,Q_,Q_,Q_,Q_,Q_,Q_,Q_,Q_,Q_,Q_] H
def L67_2 (K:AV→Heap→Prop) (v0:AV) (v5:AV) (v9:AV) (H:Heap):Prop:=LoopV (wpC Tryz.prog tab D67 (cAt [1,1,1,1,1,0,0,0] (bO_ Tryz.f67))) [0,5] (PostF.block 4 (PostF.thenA (wpC Tryz.prog tab D67 (cAt [1,1,1,1,1,1] (bO_ Tryz.f67))) (retF tab [.tmp 4] K))) [9] [v0,Q_,Q_,Q_,Q_,v5,Q_,Q_,Q_,v9,Q_,Q_,Q_,Q_,Q_,Q_,Q_,Q_,Q_,Q_,Q_,Q_,Q_,Q_,Q_,Q_,Q_,Q_,Q_,Q_,Q_,Q_,Q_,Q_,Q_,Q_,Q_,Q_,Q_,Q_,Q_,Q_,Q_,Q_,Q_,Q_,Q_,Q_,Q_,Q_,Q_,Q_,Q_,Q_,Q_,Q_,Q_,Q_,Q_,Q_,Q_,Q_,Q_,Q_,Q_,Q_,Q_,Q_,Q_,Q_,Q_,Q_,Q_] H
def L67_3 (K:AV→Heap→Prop) (N1:AV→Heap→Prop) (v0:AV) (v5:AV) (v9:AV) (v10:AV) (v48:AV) (v49:AV) (v50:AV) (H:Heap):Prop:=LoopV (wpC Tryz.prog tab D67 (cAt [1,1,1,1,1,0,0,0,1,0,1,1,1,0,0] (bO_ Tryz.f67))) [0,5,10,48,49] (PostF.block 6 (PostF.block 5 (loopF (PostF.block 4 (PostF.thenA (wpC Tryz.prog tab D67 (cAt [1,1,1,1,1,1] (bO_ Tryz.f67))) (retF tab [.tmp 4] K))) (fun e h=>N1 (e 9) h)))) [9,50] [v0,Q_,Q_,Q_,Q_,v5,Q_,Q_,Q_,v9,v10,Q_,Q_,Q_,Q_,Q_,Q_,Q_,Q_,Q_,Q_,Q_,Q_,Q_,Q_,Q_,Q_,Q_,Q_,Q_,Q_,Q_,Q_,Q_,Q_,Q_,Q_,Q_,Q_,Q_,Q_,Q_,Q_,Q_,Q_,Q_,Q_,Q_,v48,v49,v50,Q_,Q_,Q_,Q_,Q_,Q_,Q_,Q_,Q_,Q_,Q_,Q_,Q_,Q_,Q_,Q_,Q_,Q_,Q_,Q_,Q_,Q_] H
def B67_3 (K:AV→Heap→Prop) (N1:AV→Heap→Prop) (N2:AV→AV→Heap→Prop) (v0:AV) (v5:AV) (v9:AV) (v10:AV) (v48:AV) (v49:AV) (v50:AV) (H:Heap):Prop:=
 binV tab .lss 3 v50 v49 fun v51=>
 cV_ v51 (iA_ tab 22 v48 v50 fun v52=>
 lV_ tab 3 v52 H fun v53=>
 iA_ tab 22 v5 v53 fun v56=>
 lV_ tab 3 v56 H fun v57=>
 binV tab .lss 3 v57 (AV.p (.int .i64 0)) fun v58=>
 cV_ v58 (iA_ tab 22 v5 v10 fun v63=>
 lV_ tab 3 v63 H fun v64=>
 binV tab .add 3 v64 (AV.p (.int .i64 1)) fun v65=>
 iA_ tab 22 v5 v53 fun v66=>
 sV_ tab 3 v66 v65 H fun H5=>
 bS_ tab 22 1 [(0,v53)] H5 (wkK fun v69 H6=>
 aP_ tab 22 22 v9 v69 H6 (wkK fun v70 H7=>
 binV tab .add 3 v50 (AV.p (.int .i64 1)) fun v71=>
 N2 v70 v71 H7)))
 (binV tab .add 3 v50 (AV.p (.int .i64 1)) fun v71=>
 N2 v9 v71 H))
 (N1 v9 H)
def B67_2 (K:AV→Heap→Prop) (N1:AV→Heap→Prop) (v0:AV) (v5:AV) (v9:AV) (H:Heap):Prop:=
 lenV tab 22 v9 fun v38=>
 binV tab .gtr 3 v38 (AV.p (.int .i64 0)) fun v39=>
 cV_ v39 (iA_ tab 22 v9 (AV.p (.int .i64 0)) fun v41=>
 lV_ tab 3 v41 H fun v42=>
 sliceV tab 22 v9 (some (AV.p (.int .i64 1))) none none fun v44=>
 iA_ tab 24 v0 v42 fun v47=>
 lV_ tab 22 v47 H fun v48=>
 lenV tab 22 v48 fun v49=>
 L67_3 K N1 v0 v5 v44 v42 v48 v49 (AV.p (.int .i64 0)) H)
 (K v5 H)
def B67_1 (K:AV→Heap→Prop) (N1:AV→Heap→Prop) (v0:AV) (v1:AV) (v5:AV) (v25:AV) (v26:AV) (v27:AV) (H:Heap):Prop:=
 binV tab .lss 3 v27 v26 fun v28=>
 cV_ v28 (iA_ tab 22 v25 v27 fun v29=>
 lV_ tab 3 v29 H fun v30=>
 iA_ tab 22 v5 v30 fun v33=>
 sV_ tab 3 v33 (AV.p (.int .i64 0)) H fun H3=>
 binV tab .add 3 v27 (AV.p (.int .i64 1)) fun v34=>
 N1 v34 H3)
 (CallT Tryz.prog 32 [v1] H fun v36 H4=>
 L67_2 K v0 v5 v36 H4)
def B67_0 (K:AV→Heap→Prop) (N1:AV→Heap→Prop) (v0:AV) (v1:AV) (v5:AV) (v17:AV) (v18:AV) (H:Heap):Prop:=
 binV tab .lss 3 v18 v17 fun v19=>
 cV_ v19 (iA_ tab 22 v5 v18 fun v23=>
 sV_ tab 3 v23 (AV.p (.int .i64 (-1))) H fun H2=>
 binV tab .add 3 v18 (AV.p (.int .i64 1)) fun v24=>
 N1 v24 H2)
 (lenV tab 22 v1 fun v26=>
 L67_1 K v0 v1 v5 v1 v26 (AV.p (.int .i64 0)) H)
def W67 (v0:AV) (v1:AV) (H:Heap) (K:AV→Heap→Prop):Prop:=
 lenV tab 24 v0 fun v14=>
 mS_ tab 22 v14 v14 H fun v15 H1=>
 lenV tab 22 v15 fun v17=>
 L67_0 K v0 v1 v15 v17 (AV.p (.int .i64 0)) H1
theorem W67_wp (v0:AV) (v1:AV) (H:Heap) (K:AV→Heap→Prop):wpC Tryz.prog tab D67 (bO_ Tryz.f67) (retF tab [.tmp 4] K) (nthA [v0,v1]) H=W67 v0 v1 H K:=by kernel_rfl
theorem W67_ok {v0 v1:AV} {H:Heap} {K:AV→Heap→Prop} (h:W67 v0 v1 H K):CallT Tryz.prog 67 [v0,v1] H K:=
 CallT.of_wp (D:=D67) tO_ mixed Tryz.func67 (c:=bO_ Tryz.f67) (by kernel_rfl) rfl (by kernel_rfl) (rs:=#[.tmp 4]) rfl (by decide +kernel) (by kernel_rfl) (W67_wp v0 v1 H K) h
theorem L67_3_rule {K:AV→Heap→Prop} {N1:AV→Heap→Prop} {v0 v5 v9 v10 v48 v49 v50:AV} {H:Heap} {σ:Type} (s0:σ) (f9:σ→AV) (f50:σ→AV) (TH:σ→Heap) (pre:σ→Prop) (μ:σ→Nat)
  (h0:pre s0∧AV.wk v9 (f9 s0)∧AV.wk v50 (f50 s0)∧Heap.le (TH s0) H)
  (round:∀s,pre s→B67_3 K N1 (fun w9 w50 H'=>∃s',pre s'∧μ s' < μ s∧AV.wk w9 (f9 s')∧AV.wk w50 (f50 s')∧Heap.le (TH s') H') v0 v5 (f9 s) v10 v48 v49 (f50 s) (TH s)) :
  L67_3 K N1 v0 v5 v9 v10 v48 v49 v50 H:=by
 unfold L67_3
 exact LoopV.mk s0 (fun s=>[f9 s,f50 s]) TH pre μ (fun _=>rfl) (Eq.mp (by kernel_rfl) h0) (fun s hs=>Eq.mp (by kernel_rfl) (round s hs))
theorem L67_2_rule {K:AV→Heap→Prop} {v0 v5 v9:AV} {H:Heap} {σ:Type} (s0:σ) (f9:σ→AV) (TH:σ→Heap) (pre:σ→Prop) (μ:σ→Nat)
  (h0:pre s0∧AV.wk v9 (f9 s0)∧Heap.le (TH s0) H)
  (round:∀s,pre s→B67_2 K (fun w9 H'=>∃s',pre s'∧μ s' < μ s∧AV.wk w9 (f9 s')∧Heap.le (TH s') H') v0 v5 (f9 s) (TH s)) :
  L67_2 K v0 v5 v9 H:=by
 unfold L67_2
 exact LoopV.mk s0 (fun s=>[f9 s]) TH pre μ (fun _=>rfl) (Eq.mp (by kernel_rfl) h0) (fun s hs=>Eq.mp (by kernel_rfl) (round s hs))
theorem L67_1_rule {K:AV→Heap→Prop} {v0 v1 v5 v25 v26 v27:AV} {H:Heap} {σ:Type} (s0:σ) (f27:σ→AV) (TH:σ→Heap) (pre:σ→Prop) (μ:σ→Nat)
  (h0:pre s0∧AV.wk v27 (f27 s0)∧Heap.le (TH s0) H)
  (round:∀s,pre s→B67_1 K (fun w27 H'=>∃s',pre s'∧μ s' < μ s∧AV.wk w27 (f27 s')∧Heap.le (TH s') H') v0 v1 v5 v25 v26 (f27 s) (TH s)) :
  L67_1 K v0 v1 v5 v25 v26 v27 H:=by
 unfold L67_1
 exact LoopV.mk s0 (fun s=>[f27 s]) TH pre μ (fun _=>rfl) (Eq.mp (by kernel_rfl) h0) (fun s hs=>Eq.mp (by kernel_rfl) (round s hs))
theorem L67_0_rule {K:AV→Heap→Prop} {v0 v1 v5 v17 v18:AV} {H:Heap} {σ:Type} (s0:σ) (f18:σ→AV) (TH:σ→Heap) (pre:σ→Prop) (μ:σ→Nat)
  (h0:pre s0∧AV.wk v18 (f18 s0)∧Heap.le (TH s0) H)
  (round:∀s,pre s→B67_0 K (fun w18 H'=>∃s',pre s'∧μ s' < μ s∧AV.wk w18 (f18 s')∧Heap.le (TH s') H') v0 v1 v5 v17 (f18 s) (TH s)) :
  L67_0 K v0 v1 v5 v17 v18 H:=by
 unfold L67_0
 exact LoopV.mk s0 (fun s=>[f18 s]) TH pre μ (fun _=>rfl) (Eq.mp (by kernel_rfl) h0) (fun s hs=>Eq.mp (by kernel_rfl) (round s hs))
def D68:Info:=⟨116,fun i=>if i=8 then ([[],[],[],[1,2],[1,2,3],[],[],[],[6,7],[6,7,8],[5,6,7,8,9],[5,6,7,8,9,10],[5,6,7,8,9,10,11],[5,6,7,8,9,10,11,12],[5,6,7,8,9,10,11,12,13],[5,6,7,8,9,10,11,12,13,14],[5,6,7,8,9,10,11,12,13,14,15],[0,1,2,3,4,5,6,7,8,9,10,11,12,13,14,15,16],[0,1,2,3,4,5,6,7,8,9,10,11,12,13,14,15,16,17]],[(0,[]),(1,[]),(2,[]),(3,[]),(4,[]),(5,[]),(6,[]),(7,[]),(8,[]),(9,[]),(10,[]),(11,[]),(12,[]),(13,[]),(14,[]),(15,[]),(16,[]),(17,[]),(18,[])]) else ([],[]),fun i=>if i=6 then ([0,1,5,7,8,28,29],[30]) else if i=11 then ([0,1,5,7,8,54,55],[56]) else if i=14 then ([0,1,5,7,8,11,54,55,56,61,62],[63]) else if i=22 then ([1,5,7,8,87],[15,88]) else ([],[])⟩
def L68_0 (K:AV→Heap→Prop) (v0:AV) (v1:AV) (v5:AV) (v7:AV) (v8:AV) (v28:AV) (v29:AV) (v30:AV) (H:Heap):Prop:=LoopV (wpC Tryz.prog tab D68 (cAt [1,1,1,1,1,0,1,0,0] (bO_ Tryz.f68))) [0,1,5,7,8,28,29] (PostF.block 0 (PostF.thenA (wpC Tryz.prog tab D68 (cAt [1,1,1,1,1,1] (bO_ Tryz.f68))) (retF tab [.tmp 4] K))) [30] [v0,v1,Q_,Q_,Q_,v5,Q_,v7,v8,Q_,Q_,Q_,Q_,Q_,Q_,Q_,Q_,Q_,Q_,Q_,Q_,Q_,Q_,Q_,Q_,Q_,Q_,Q_,v28,v29,v30,Q_,Q_,Q_,Q_,Q_,Q_,Q_,Q_,Q_,Q_,Q_,Q_,Q_,Q_,Q_,Q_,Q_,Q_,Q_,Q_,Q_,Q_,Q_,Q_,Q_,Q_,Q_,Q_,Q_,Q_,Q_,Q_,Q_,Q_,Q_,Q_,Q_,Q_,Q_,Q_,Q_,Q_,Q_,Q_,Q_,Q_,Q_,Q_,Q_,Q_,Q_,Q_,Q_,Q_,Q_,Q_,Q_,Q_,Q_,Q_,Q_,Q_,Q_,Q_,Q_,Q_,Q_,Q_,Q_,Q_,Q_,Q_,Q_,Q_,Q_,Q_,Q_,Q_,Q_,Q_,Q_,Q_,Q_,Q_,Q_] H
def L68_1 (K:AV→Heap→Prop) (v0:AV) (v1:AV) (v5:AV) (v7:AV) (v8:AV) (v54:AV) (v55:AV) (v56:AV) (H:Heap):Prop:=LoopV (wpC Tryz.prog tab D68 (cAt [1,1,1,1,1,1,0,1,0,0] (bO_ Tryz.f68))) [0,1,5,7,8,54,55] (PostF.block 2 (PostF.thenA (wpC Tryz.prog tab D68 (cAt [1,1,1,1,1,1,1] (bO_ Tryz.f68))) (retF tab [.tmp 4] K))) [56] [v0,v1,Q_,Q_,Q_,v5,Q_,v7,v8,Q_,Q_,Q_,Q_,Q_,Q_,Q_,Q_,Q_,Q_,Q_,Q_,Q_,Q_,Q_,Q_,Q_,Q_,Q_,Q_,Q_,Q_,Q_,Q_,Q_,Q_,Q_,Q_,Q_,Q_,Q_,Q_,Q_,Q_,Q_,Q_,Q_,Q_,Q_,Q_,Q_,Q_,Q_,Q_,Q_,v54,v55,v56,Q_,Q_,Q_,Q_,Q_,Q_,Q_,Q_,Q_,Q_,Q_,Q_,Q_,Q_,Q_,Q_,Q_,Q_,Q_,Q_,Q_,Q_,Q_,Q_,Q_,Q_,Q_,Q_,Q_,Q_,Q_,Q_,Q_,Q_,Q_,Q_,Q_,Q_,Q_,Q_,Q_,Q_,Q_,Q_,Q_,Q_,Q_,Q_,Q_,Q_,Q_,Q_,Q_,Q_,Q_,Q_,Q_,Q_,Q_] H
def L68_2 (K:AV→Heap→Prop) (N1:AV→Heap→Prop) (v0:AV) (v1:AV) (v5:AV) (v7:AV) (v8:AV) (v11:AV) (v54:AV) (v55:AV) (v56:AV) (v61:AV) (v62:AV) (v63:AV) (H:Heap):Prop:=LoopV (wpC Tryz.prog tab D68 (cAt [1,1,1,1,1,1,0,1,0,0,1,1,0,0,1,1,0,0] (bO_ Tryz.f68))) [0,1,5,7,8,11,54,55,56,61,62] (PostF.block 4 (PostF.block 3 (PostF.thenA (wpC Tryz.prog tab D68 (cAt [1,1,1,1,1,1,0,1,0,0,1,1,1] (bO_ Tryz.f68))) (loopF (PostF.block 2 (PostF.thenA (wpC Tryz.prog tab D68 (cAt [1,1,1,1,1,1,1] (bO_ Tryz.f68))) (retF tab [.tmp 4] K))) (fun e h=>N1 (e 56) h))))) [63] [v0,v1,Q_,Q_,Q_,v5,Q_,v7,v8,Q_,Q_,v11,Q_,Q_,Q_,Q_,Q_,Q_,Q_,Q_,Q_,Q_,Q_,Q_,Q_,Q_,Q_,Q_,Q_,Q_,Q_,Q_,Q_,Q_,Q_,Q_,Q_,Q_,Q_,Q_,Q_,Q_,Q_,Q_,Q_,Q_,Q_,Q_,Q_,Q_,Q_,Q_,Q_,Q_,v54,v55,v56,Q_,Q_,Q_,Q_,v61,v62,v63,Q_,Q_,Q_,Q_,Q_,Q_,Q_,Q_,Q_,Q_,Q_,Q_,Q_,Q_,Q_,Q_,Q_,Q_,Q_,Q_,Q_,Q_,Q_,Q_,Q_,Q_,Q_,Q_,Q_,Q_,Q_,Q_,Q_,Q_,Q_,Q_,Q_,Q_,Q_,Q_,Q_,Q_,Q_,Q_,Q_,Q_,Q_,Q_,Q_,Q_,Q_,Q_] H
def B68_2 (K:AV→Heap→Prop) (N1:AV→Heap→Prop) (N2:AV→Heap→Prop) (v0:AV) (v1:AV) (v5:AV) (v7:AV) (v8:AV) (v11:AV) (v54:AV) (v55:AV) (v56:AV) (v61:AV) (v62:AV) (v63:AV) (H:Heap):Prop:=
 binV tab .lss 3 v63 v62 fun v64=>
 cV_ v64 (iA_ tab 22 v61 v63 fun v65=>
 lV_ tab 3 v65 H fun v66=>
 iA_ tab 22 v5 v66 fun v70=>
 lV_ tab 3 v70 H fun v71=>
 iA_ tab 22 v8 v71 fun v72=>
 lV_ tab 3 v72 H fun v73=>
 binV tab .eql 3 v73 v11 fun v75=>
 cV_ v75 (iA_ tab 22 v5 v66 fun v79=>
 lV_ tab 3 v79 H fun v80=>
 binV tab .add 3 v11 (AV.p (.int .i64 1)) fun v82=>
 iA_ tab 22 v8 v80 fun v83=>
 sV_ tab 3 v83 v82 H fun H7=>
 binV tab .add 3 v63 (AV.p (.int .i64 1)) fun v84=>
 N2 v84 H7)
 (binV tab .add 3 v63 (AV.p (.int .i64 1)) fun v84=>
 N2 v84 H))
 (binV tab .add 3 v56 (AV.p (.int .i64 1)) fun v85=>
 N1 v85 H)
def L68_3 (K:AV→Heap→Prop) (v1:AV) (v5:AV) (v7:AV) (v8:AV) (v15:AV) (v87:AV) (v88:AV) (H:Heap):Prop:=LoopV (wpC Tryz.prog tab D68 (cAt [1,1,1,1,1,1,1,1,0,1,0,0] (bO_ Tryz.f68))) [1,5,7,8,87] (PostF.block 6 (PostF.thenA (wpC Tryz.prog tab D68 (cAt [1,1,1,1,1,1,1,1,1] (bO_ Tryz.f68))) (retF tab [.tmp 4] K))) [15,88] [Q_,v1,Q_,Q_,Q_,v5,Q_,v7,v8,Q_,Q_,Q_,Q_,Q_,Q_,v15,Q_,Q_,Q_,Q_,Q_,Q_,Q_,Q_,Q_,Q_,Q_,Q_,Q_,Q_,Q_,Q_,Q_,Q_,Q_,Q_,Q_,Q_,Q_,Q_,Q_,Q_,Q_,Q_,Q_,Q_,Q_,Q_,Q_,Q_,Q_,Q_,Q_,Q_,Q_,Q_,Q_,Q_,Q_,Q_,Q_,Q_,Q_,Q_,Q_,Q_,Q_,Q_,Q_,Q_,Q_,Q_,Q_,Q_,Q_,Q_,Q_,Q_,Q_,Q_,Q_,Q_,Q_,Q_,Q_,Q_,Q_,v87,v88,Q_,Q_,Q_,Q_,Q_,Q_,Q_,Q_,Q_,Q_,Q_,Q_,Q_,Q_,Q_,Q_,Q_,Q_,Q_,Q_,Q_,Q_,Q_,Q_,Q_,Q_,Q_] H
def B68_3 (K:AV→Heap→Prop) (N1:AV→AV→Heap→Prop) (v1:AV) (v5:AV) (v7:AV) (v8:AV) (v15:AV) (v87:AV) (v88:AV) (H:Heap):Prop:=
 binV tab .lss 3 v88 v87 fun v89=>
 cV_ v89 (iA_ tab 22 v5 v88 fun v94=>
 lV_ tab 3 v94 H fun v95=>
 iA_ tab 116 v7 v95 fun v96=>
 lV_ tab 4 v96 H fun v97=>
 grdV v97 true (iA_ tab 22 v5 v88 fun v102=>
 lV_ tab 3 v102 H fun v103=>
 iA_ tab 22 v8 v103 fun v104=>
 lV_ tab 3 v104 H fun v105=>
 lenV tab 24 v1 fun v107=>
 binV tab .eql 3 v105 v107 fun v108=>
 cV_ v108 (bS_ tab 22 1 [(0,v88)] H (wkK fun v112 H8=>
 aP_ tab 22 22 v15 v112 H8 (wkK fun v113 H9=>
 binV tab .add 3 v88 (AV.p (.int .i64 1)) fun v114=>
 N1 v113 v114 H9)))
 (binV tab .add 3 v88 (AV.p (.int .i64 1)) fun v114=>
 N1 v15 v114 H))
 (binV tab .add 3 v88 (AV.p (.int .i64 1)) fun v114=>
 N1 v15 v114 H))
 (K v15 H)
def B68_1 (K:AV→Heap→Prop) (N1:AV→Heap→Prop) (v0:AV) (v1:AV) (v5:AV) (v7:AV) (v8:AV) (v54:AV) (v55:AV) (v56:AV) (H:Heap):Prop:=
 binV tab .lss 3 v56 v55 fun v57=>
 cV_ v57 (iA_ tab 24 v54 v56 fun v59=>
 lV_ tab 22 v59 H fun v60=>
 lenV tab 22 v60 fun v62=>
 L68_2 K N1 v0 v1 v5 v7 v8 v56 v54 v55 v56 v60 v62 (AV.p (.int .i64 0)) H)
 (lenV tab 24 v0 fun v87=>
 L68_3 K v1 v5 v7 v8 (AV.p .nil) v87 (AV.p (.int .i64 0)) H)
def B68_0 (K:AV→Heap→Prop) (N1:AV→Heap→Prop) (v0:AV) (v1:AV) (v5:AV) (v7:AV) (v8:AV) (v28:AV) (v29:AV) (v30:AV) (H:Heap):Prop:=
 binV tab .lss 3 v30 v29 fun v31=>
 cV_ v31 (iA_ tab 24 v28 v30 fun v33=>
 lV_ tab 22 v33 H fun v34=>
 iA_ tab 22 v5 v30 fun v38=>
 lV_ tab 3 v38 H fun v39=>
 iA_ tab 22 v5 v30 fun v43=>
 lV_ tab 3 v43 H fun v44=>
 iA_ tab 116 v7 v44 fun v45=>
 lV_ tab 4 v45 H fun v46=>
 grdV v46 false (lenV tab 22 v34 fun v49=>
 binV tab .gtr 3 v49 (AV.p (.int .i64 0)) fun v50=>
 iA_ tab 116 v7 v39 fun v52=>
 sV_ tab 4 v52 v50 H fun H5=>
 binV tab .add 3 v30 (AV.p (.int .i64 1)) fun v53=>
 N1 v53 H5)
 (iA_ tab 116 v7 v39 fun v52=>
 sV_ tab 4 v52 (AV.p (.bool true)) H fun H6=>
 binV tab .add 3 v30 (AV.p (.int .i64 1)) fun v53=>
 N1 v53 H6))
 (lenV tab 24 v1 fun v55=>
 L68_1 K v0 v1 v5 v7 v8 v1 v55 (AV.p (.int .i64 0)) H)
def W68 (v0:AV) (v1:AV) (H:Heap) (K:AV→Heap→Prop):Prop:=
 CallT Tryz.prog 70 [v0] H fun v18 H1=>
 CallT Tryz.prog 71 [v0,v18] H1 fun v21 H2=>
 lenV tab 24 v0 fun v23=>
 mS_ tab 116 v23 v23 H2 fun v24 H3=>
 lenV tab 24 v0 fun v26=>
 mS_ tab 22 v26 v26 H3 fun v27 H4=>
 lenV tab 24 v21 fun v29=>
 L68_0 K v0 v1 v18 v24 v27 v21 v29 (AV.p (.int .i64 0)) H4
theorem W68_wp (v0:AV) (v1:AV) (H:Heap) (K:AV→Heap→Prop):wpC Tryz.prog tab D68 (bO_ Tryz.f68) (retF tab [.tmp 4] K) (nthA [v0,v1]) H=W68 v0 v1 H K:=by kernel_rfl
theorem W68_ok {v0 v1:AV} {H:Heap} {K:AV→Heap→Prop} (h:W68 v0 v1 H K):CallT Tryz.prog 68 [v0,v1] H K:=
 CallT.of_wp (D:=D68) tO_ mixed Tryz.func68 (c:=bO_ Tryz.f68) (by kernel_rfl) rfl (by kernel_rfl) (rs:=#[.tmp 4]) rfl (by decide +kernel) (by kernel_rfl) (W68_wp v0 v1 H K) h
theorem L68_2_rule {K:AV→Heap→Prop} {N1:AV→Heap→Prop} {v0 v1 v5 v7 v8 v11 v54 v55 v56 v61 v62 v63:AV} {H:Heap} {σ:Type} (s0:σ) (f63:σ→AV) (TH:σ→Heap) (pre:σ→Prop) (μ:σ→Nat)
  (h0:pre s0∧AV.wk v63 (f63 s0)∧Heap.le (TH s0) H)
  (round:∀s,pre s→B68_2 K N1 (fun w63 H'=>∃s',pre s'∧μ s' < μ s∧AV.wk w63 (f63 s')∧Heap.le (TH s') H') v0 v1 v5 v7 v8 v11 v54 v55 v56 v61 v62 (f63 s) (TH s)) :
  L68_2 K N1 v0 v1 v5 v7 v8 v11 v54 v55 v56 v61 v62 v63 H:=by
 unfold L68_2
 exact LoopV.mk s0 (fun s=>[f63 s]) TH pre μ (fun _=>rfl) (Eq.mp (by kernel_rfl) h0) (fun s hs=>Eq.mp (by kernel_rfl) (round s hs))
theorem L68_3_rule {K:AV→Heap→Prop} {v1 v5 v7 v8 v15 v87 v88:AV} {H:Heap} {σ:Type} (s0:σ) (f15:σ→AV) (f88:σ→AV) (TH:σ→Heap) (pre:σ→Prop) (μ:σ→Nat)
  (h0:pre s0∧AV.wk v15 (f15 s0)∧AV.wk v88 (f88 s0)∧Heap.le (TH s0) H)
  (round:∀s,pre s→B68_3 K (fun w15 w88 H'=>∃s',pre s'∧μ s' < μ s∧AV.wk w15 (f15 s')∧AV.wk w88 (f88 s')∧Heap.le (TH s') H') v1 v5 v7 v8 (f15 s) v87 (f88 s) (TH s)) :
  L68_3 K v1 v5 v7 v8 v15 v87 v88 H:=by
 unfold L68_3
 exact LoopV.mk s0 (fun s=>[f15 s,f88 s]) TH pre μ (fun _=>rfl) (Eq.mp (by kernel_rfl) h0) (fun s hs=>Eq.mp (by kernel_rfl) (round s hs))
theorem L68_1_rule {K:AV→Heap→Prop} {v0 v1 v5 v7 v8 v54 v55 v56:AV} {H:Heap} {σ:Type} (s0:σ) (f56:σ→AV) (TH:σ→Heap) (pre:σ→Prop) (μ:σ→Nat)
  (h0:pre s0∧AV.wk v56 (f56 s0)∧Heap.le (TH s0) H)
  (round:∀s,pre s→B68_1 K (fun w56 H'=>∃s',pre s'∧μ s' < μ s∧AV.wk w56 (f56 s')∧Heap.le (TH s') H') v0 v1 v5 v7 v8 v54 v55 (f56 s) (TH s)) :
  L68_1 K v0 v1 v5 v7 v8 v54 v55 v56 H:=by
 unfold L68_1
 exact LoopV.mk s0 (fun s=>[f56 s]) TH pre μ (fun _=>rfl) (Eq.mp (by kernel_rfl) h0) (fun s hs=>Eq.mp (by kernel_rfl) (round s hs))
theorem L68_0_rule {K:AV→Heap→Prop} {v0 v1 v5 v7 v8 v28 v29 v30:AV} {H:Heap} {σ:Type} (s0:σ) (f30:σ→AV) (TH:σ→Heap) (pre:σ→Prop) (μ:σ→Nat)
  (h0:pre s0∧AV.wk v30 (f30 s0)∧Heap.le (TH s0) H)
  (round:∀s,pre s→B68_0 K (fun w30 H'=>∃s',pre s'∧μ s' < μ s∧AV.wk w30 (f30 s')∧Heap.le (TH s') H') v0 v1 v5 v7 v8 v28 v29 (f30 s) (TH s)) :
  L68_0 K v0 v1 v5 v7 v8 v28 v29 v30 H:=by
 unfold L68_0
 exact LoopV.mk s0 (fun s=>[f30 s]) TH pre μ (fun _=>rfl) (Eq.mp (by kernel_rfl) h0) (fun s hs=>Eq.mp (by kernel_rfl) (round s hs))
def D69:Info:=⟨82,fun i=>if i=6 then ([[],[],[0,1],[0,1,2],[0,1,2,3],[0,1,2,3,4],[0,1,2,3,4,5],[0,1,2,3,4,5,6],[0,1,2,3,4,5,6,7],[0,1,2,3,4,5,6,7,8],[0,1,2,3,4,5,6,7,8],[0,1,2,3,4,5,6,7,8,9,10],[0,1,2,3,4,5,6,7,8,9,10,11],[0,1,2,3,4,5,6,7,8],[0,1,2,3,4,5,6,7,8],[0,1,2,3,4,5,6,7,8,13,14],[0,1,2,3,4,5,6,7,8,13,14,15],[0,1,2,3,4,5,6,7,8,9,10,11,12,13,14,15,16],[0,1,2,3,4,5,6,7,8,9,10,11,12,13,14,15,16,17],[0,1,2,3,4,5,6,7,8,9,10,11,12,13,14,15,16,17,18]],[(0,[]),(1,[]),(2,[]),(3,[]),(4,[]),(5,[]),(6,[]),(7,[]),(8,[]),(9,[]),(10,[]),(11,[]),(12,[]),(13,[]),(14,[]),(15,[]),(16,[]),(17,[]),(18,[]),(19,[])]) else if i=16 then ([[],[],[0,1],[0,1,2],[],[],[4,5],[4,5,6],[4,5,6,7],[0,1,2,3,4,5,6,7,8]],[(0,[]),(1,[]),(2,[]),(3,[]),(4,[]),(5,[]),(6,[]),(7,[]),(8,[]),(9,[])]) else ([],[]),fun i=>if i=4 then ([0,8,19,20],[9,21]) else if i=12 then ([0,8],[9,12]) else if i=14 then ([0,8,12,59,60],[9,61]) else ([],[])⟩
def L69_0 (K:AV→Heap→Prop) (v0:AV) (v8:AV) (v9:AV) (v19:AV) (v20:AV) (v21:AV) (H:Heap):Prop:=LoopV (wpC Tryz.prog tab D69 (cAt [1,1,1,0,1,0,0] (bO_ Tryz.f69))) [0,8,19,20] (PostF.block 0 (PostF.thenA (wpC Tryz.prog tab D69 (cAt [1,1,1,1] (bO_ Tryz.f69))) (retF tab [.tmp 6,.tmp 7] K))) [9,21] [v0,Q_,Q_,Q_,Q_,Q_,Q_,Q_,v8,v9,Q_,Q_,Q_,Q_,Q_,Q_,Q_,Q_,Q_,v19,v20,v21,Q_,Q_,Q_,Q_,Q_,Q_,Q_,Q_,Q_,Q_,Q_,Q_,Q_,Q_,Q_,Q_,Q_,Q_,Q_,Q_,Q_,Q_,Q_,Q_,Q_,Q_,Q_,Q_,Q_,Q_,Q_,Q_,Q_,Q_,Q_,Q_,Q_,Q_,Q_,Q_,Q_,Q_,Q_,Q_,Q_,Q_,Q_,Q_,Q_,Q_,Q_,Q_,Q_,Q_,Q_,Q_,Q_,Q_,Q_,Q_] H
def L69_1 (K:AV→Heap→Prop) (v0:AV) (v8:AV) (v9:AV) (v12:AV) (H:Heap):Prop:=LoopV (wpC Tryz.prog tab D69 (cAt [1,1,1,1,1,1,0,0,0] (bO_ Tryz.f69))) [0,8] (PostF.block 2 (PostF.thenA (wpC Tryz.prog tab D69 (cAt [1,1,1,1,1,1,1] (bO_ Tryz.f69))) (retF tab [.tmp 6,.tmp 7] K))) [9,12] [v0,Q_,Q_,Q_,Q_,Q_,Q_,Q_,v8,v9,Q_,Q_,v12,Q_,Q_,Q_,Q_,Q_,Q_,Q_,Q_,Q_,Q_,Q_,Q_,Q_,Q_,Q_,Q_,Q_,Q_,Q_,Q_,Q_,Q_,Q_,Q_,Q_,Q_,Q_,Q_,Q_,Q_,Q_,Q_,Q_,Q_,Q_,Q_,Q_,Q_,Q_,Q_,Q_,Q_,Q_,Q_,Q_,Q_,Q_,Q_,Q_,Q_,Q_,Q_,Q_,Q_,Q_,Q_,Q_,Q_,Q_,Q_,Q_,Q_,Q_,Q_,Q_,Q_,Q_,Q_,Q_] H
def L69_2 (K:AV→Heap→Prop) (N1:AV→AV→Heap→Prop) (v0:AV) (v8:AV) (v9:AV) (v12:AV) (v59:AV) (v60:AV) (v61:AV) (H:Heap):Prop:=LoopV (wpC Tryz.prog tab D69 (cAt [1,1,1,1,1,1,0,0,0,1,0,0,1,0,0] (bO_ Tryz.f69))) [0,8,12,59,60] (PostF.block 4 (PostF.thenA (wpC Tryz.prog tab D69 (cAt [1,1,1,1,1,1,0,0,0,1,0,1] (bO_ Tryz.f69))) (PostF.block 3 (loopF (PostF.block 2 (PostF.thenA (wpC Tryz.prog tab D69 (cAt [1,1,1,1,1,1,1] (bO_ Tryz.f69))) (retF tab [.tmp 6,.tmp 7] K))) (fun e h=>N1 (e 9) (e 12) h))))) [9,61] [v0,Q_,Q_,Q_,Q_,Q_,Q_,Q_,v8,v9,Q_,Q_,v12,Q_,Q_,Q_,Q_,Q_,Q_,Q_,Q_,Q_,Q_,Q_,Q_,Q_,Q_,Q_,Q_,Q_,Q_,Q_,Q_,Q_,Q_,Q_,Q_,Q_,Q_,Q_,Q_,Q_,Q_,Q_,Q_,Q_,Q_,Q_,Q_,Q_,Q_,Q_,Q_,Q_,Q_,Q_,Q_,Q_,Q_,v59,v60,v61,Q_,Q_,Q_,Q_,Q_,Q_,Q_,Q_,Q_,Q_,Q_,Q_,Q_,Q_,Q_,Q_,Q_,Q_,Q_,Q_] H
def B69_2 (K:AV→Heap→Prop) (N1:AV→AV→Heap→Prop) (N2:AV→AV→Heap→Prop) (v0:AV) (v8:AV) (v9:AV) (v12:AV) (v59:AV) (v60:AV) (v61:AV) (H:Heap):Prop:=
 binV tab .lss 3 v61 v60 fun v62=>
 cV_ v62 (iA_ tab 22 v59 v61 fun v63=>
 lV_ tab 3 v63 H fun v64=>
 iA_ tab 22 v8 v64 fun v67=>
 lV_ tab 3 v67 H fun v68=>
 iA_ tab 22 v8 v9 fun v71=>
 lV_ tab 3 v71 H fun v72=>
 binV tab .sub 3 v72 (AV.p (.int .i64 1)) fun v73=>
 binV tab .eql 3 v68 v73 fun v74=>
 cV_ v74 (bS_ tab 22 1 [(0,v64)] H (wkK fun v79 H6=>
 aP_ tab 22 22 v12 v79 H6 (wkK fun v80 H7=>
 N1 v64 v80 H7)))
 (binV tab .add 3 v61 (AV.p (.int .i64 1)) fun v76=>
 N2 v9 v76 H))
 (bS_ tab 22 1 [(0,v9)] H (wkK fun v79 H8=>
 aP_ tab 22 22 v12 v79 H8 (wkK fun v80 H9=>
 N1 v9 v80 H9)))
def B69_1 (K:AV→Heap→Prop) (N1:AV→AV→Heap→Prop) (v0:AV) (v8:AV) (v9:AV) (v12:AV) (H:Heap):Prop:=
 iA_ tab 22 v8 v9 fun v53=>
 lV_ tab 3 v53 H fun v54=>
 binV tab .gtr 3 v54 (AV.p (.int .i64 0)) fun v55=>
 cV_ v55 (iA_ tab 24 v0 v9 fun v58=>
 lV_ tab 22 v58 H fun v59=>
 lenV tab 22 v59 fun v60=>
 L69_2 K N1 v0 v8 v9 v12 v59 v60 (AV.p (.int .i64 0)) H)
 (K (.tup [v12,(AV.p (.bool true))]) H)
def B69_0 (K:AV→Heap→Prop) (N1:AV→AV→Heap→Prop) (v0:AV) (v8:AV) (v9:AV) (v19:AV) (v20:AV) (v21:AV) (H:Heap):Prop:=
 binV tab .lss 3 v21 v20 fun v22=>
 cV_ v22 (iA_ tab 22 v19 v21 fun v23=>
 lV_ tab 3 v23 H fun v24=>
 iA_ tab 22 v8 v24 fun v27=>
 lV_ tab 3 v27 H fun v28=>
 binV tab .geq 3 v28 (AV.p (.int .i64 0)) fun v29=>
 grdV v29 true (binV tab .lss 3 v9 (AV.p (.int .i64 0)) fun v32=>
 grdV v32 false (iA_ tab 22 v8 v24 fun v36=>
 lV_ tab 3 v36 H fun v37=>
 iA_ tab 22 v8 v9 fun v40=>
 lV_ tab 3 v40 H fun v41=>
 binV tab .lss 3 v37 v41 fun v42=>
 cV_ v42 (binV tab .add 3 v21 (AV.p (.int .i64 1)) fun v46=>
 N1 v24 v46 H)
 (binV tab .add 3 v21 (AV.p (.int .i64 1)) fun v46=>
 N1 v9 v46 H))
 (binV tab .add 3 v21 (AV.p (.int .i64 1)) fun v46=>
 N1 v24 v46 H))
 (binV tab .add 3 v21 (AV.p (.int .i64 1)) fun v46=>
 N1 v9 v46 H))
 (binV tab .lss 3 v9 (AV.p (.int .i64 0)) fun v48=>
 cV_ v48 (K (.tup [(AV.p .nil),(AV.p (.bool false))]) H)
 (bS_ tab 22 1 [(0,v9)] H (wkK fun v50 H3=>
 L69_1 K v0 v8 v9 v50 H3)))
def W69 (v0:AV) (v1:AV) (v2:AV) (H:Heap) (K:AV→Heap→Prop):Prop:=
 CallT Tryz.prog 107 [v0] H fun v16 H1=>
 CallT Tryz.prog 67 [v16,v2] H1 fun v18 H2=>
 lenV tab 22 v1 fun v20=>
 L69_0 K v0 v18 (AV.p (.int .i64 (-1))) v1 v20 (AV.p (.int .i64 0)) H2
theorem W69_wp (v0:AV) (v1:AV) (v2:AV) (H:Heap) (K:AV→Heap→Prop):wpC Tryz.prog tab D69 (bO_ Tryz.f69) (retF tab [.tmp 6,.tmp 7] K) (nthA [v0,v1,v2]) H=W69 v0 v1 v2 H K:=by kernel_rfl
theorem W69_ok {v0 v1 v2:AV} {H:Heap} {K:AV→Heap→Prop} (h:W69 v0 v1 v2 H K):CallT Tryz.prog 69 [v0,v1,v2] H K:=
 CallT.of_wp (D:=D69) tO_ mixed Tryz.func69 (c:=bO_ Tryz.f69) (by kernel_rfl) rfl (by kernel_rfl) (rs:=#[.tmp 6,.tmp 7]) rfl (by decide +kernel) (by kernel_rfl) (W69_wp v0 v1 v2 H K) h
theorem L69_2_rule {K:AV→Heap→Prop} {N1:AV→AV→Heap→Prop} {v0 v8 v9 v12 v59 v60 v61:AV} {H:Heap} {σ:Type} (s0:σ) (f9:σ→AV) (f61:σ→AV) (TH:σ→Heap) (pre:σ→Prop) (μ:σ→Nat)
  (h0:pre s0∧AV.wk v9 (f9 s0)∧AV.wk v61 (f61 s0)∧Heap.le (TH s0) H)
  (round:∀s,pre s→B69_2 K N1 (fun w9 w61 H'=>∃s',pre s'∧μ s' < μ s∧AV.wk w9 (f9 s')∧AV.wk w61 (f61 s')∧Heap.le (TH s') H') v0 v8 (f9 s) v12 v59 v60 (f61 s) (TH s)) :
  L69_2 K N1 v0 v8 v9 v12 v59 v60 v61 H:=by
 unfold L69_2
 exact LoopV.mk s0 (fun s=>[f9 s,f61 s]) TH pre μ (fun _=>rfl) (Eq.mp (by kernel_rfl) h0) (fun s hs=>Eq.mp (by kernel_rfl) (round s hs))
theorem L69_1_rule {K:AV→Heap→Prop} {v0 v8 v9 v12:AV} {H:Heap} {σ:Type} (s0:σ) (f9:σ→AV) (f12:σ→AV) (TH:σ→Heap) (pre:σ→Prop) (μ:σ→Nat)
  (h0:pre s0∧AV.wk v9 (f9 s0)∧AV.wk v12 (f12 s0)∧Heap.le (TH s0) H)
  (round:∀s,pre s→B69_1 K (fun w9 w12 H'=>∃s',pre s'∧μ s' < μ s∧AV.wk w9 (f9 s')∧AV.wk w12 (f12 s')∧Heap.le (TH s') H') v0 v8 (f9 s) (f12 s) (TH s)) :
  L69_1 K v0 v8 v9 v12 H:=by
 unfold L69_1
 exact LoopV.mk s0 (fun s=>[f9 s,f12 s]) TH pre μ (fun _=>rfl) (Eq.mp (by kernel_rfl) h0) (fun s hs=>Eq.mp (by kernel_rfl) (round s hs))
theorem L69_0_rule {K:AV→Heap→Prop} {v0 v8 v9 v19 v20 v21:AV} {H:Heap} {σ:Type} (s0:σ) (f9:σ→AV) (f21:σ→AV) (TH:σ→Heap) (pre:σ→Prop) (μ:σ→Nat)
  (h0:pre s0∧AV.wk v9 (f9 s0)∧AV.wk v21 (f21 s0)∧Heap.le (TH s0) H)
  (round:∀s,pre s→B69_0 K (fun w9 w21 H'=>∃s',pre s'∧μ s' < μ s∧AV.wk w9 (f9 s')∧AV.wk w21 (f21 s')∧Heap.le (TH s') H') v0 v8 (f9 s) v19 v20 (f21 s) (TH s)) :
  L69_0 K v0 v8 v9 v19 v20 v21 H:=by
 unfold L69_0
 exact LoopV.mk s0 (fun s=>[f9 s,f21 s]) TH pre μ (fun _=>rfl) (Eq.mp (by kernel_rfl) h0) (fun s hs=>Eq.mp (by kernel_rfl) (round s hs))
def D70:Info:=⟨91,fun i=>if i=7 then ([[],[0],[],[2],[2,3],[0,1,2,3,4],[0,1,2,3,4,5],[0,1,2,3,4,5,6]],[(0,[]),(2,[]),(3,[]),(1,[4]),(4,[4]),(5,[]),(6,[]),(7,[])]) else ([],[]),fun i=>if i=3 then ([0,3,20],[21]) else if i=10 then ([0,3,5,6],[7]) else if i=16 then ([0,3,5,6,7,65,66],[8,67]) else if i=22 then ([0,3,5,6,7,8,79,80],[81]) else ([],[])⟩
def L70_0 (K:AV→Heap→Prop) (v0:AV) (v3:AV) (v20:AV) (v21:AV) (H:Heap):Prop:=LoopV (wpC Tryz.prog tab D70 (cAt [1,1,0,1,0,0] (bO_ Tryz.f70))) [0,3,20] (PostF.block 0 (PostF.thenA (wpC Tryz.prog tab D70 (cAt [1,1,1] (bO_ Tryz.f70))) (retF tab [.tmp 2] K))) [21] [v0,Q_,Q_,v3,Q_,Q_,Q_,Q_,Q_,Q_,Q_,Q_,Q_,Q_,Q_,Q_,Q_,Q_,Q_,Q_,v20,v21,Q_,Q_,Q_,Q_,Q_,Q_,Q_,Q_,Q_,Q_,Q_,Q_,Q_,Q_,Q_,Q_,Q_,Q_,Q_,Q_,Q_,Q_,Q_,Q_,Q_,Q_,Q_,Q_,Q_,Q_,Q_,Q_,Q_,Q_,Q_,Q_,Q_,Q_,Q_,Q_,Q_,Q_,Q_,Q_,Q_,Q_,Q_,Q_,Q_,Q_,Q_,Q_,Q_,Q_,Q_,Q_,Q_,Q_,Q_,Q_,Q_,Q_,Q_,Q_,Q_,Q_,Q_,Q_,Q_] H
def L70_1 (K:AV→Heap→Prop) (v0:AV) (v3:AV) (v5:AV) (v6:AV) (v7:AV) (H:Heap):Prop:=LoopV (wpC Tryz.prog tab D70 (cAt [1,1,1,1,1,0,1,0,0] (bO_ Tryz.f70))) [0,3,5,6] (PostF.block 2 (PostF.thenA (wpC Tryz.prog tab D70 (cAt [1,1,1,1,1,1] (bO_ Tryz.f70))) (retF tab [.tmp 2] K))) [7] [v0,Q_,Q_,v3,Q_,v5,v6,v7,Q_,Q_,Q_,Q_,Q_,Q_,Q_,Q_,Q_,Q_,Q_,Q_,Q_,Q_,Q_,Q_,Q_,Q_,Q_,Q_,Q_,Q_,Q_,Q_,Q_,Q_,Q_,Q_,Q_,Q_,Q_,Q_,Q_,Q_,Q_,Q_,Q_,Q_,Q_,Q_,Q_,Q_,Q_,Q_,Q_,Q_,Q_,Q_,Q_,Q_,Q_,Q_,Q_,Q_,Q_,Q_,Q_,Q_,Q_,Q_,Q_,Q_,Q_,Q_,Q_,Q_,Q_,Q_,Q_,Q_,Q_,Q_,Q_,Q_,Q_,Q_,Q_,Q_,Q_,Q_,Q_,Q_,Q_] H
def L70_2 (K:AV→Heap→Prop) (N1:AV→Heap→Prop) (v0:AV) (v3:AV) (v5:AV) (v6:AV) (v7:AV) (v8:AV) (v65:AV) (v66:AV) (v67:AV) (H:Heap):Prop:=LoopV (wpC Tryz.prog tab D70 (cAt [1,1,1,1,1,0,1,0,0,1,0,0,1,1,1,0,1,0,0] (bO_ Tryz.f70))) [0,3,5,6,7,65,66] (PostF.block 4 (PostF.thenA (wpC Tryz.prog tab D70 (cAt [1,1,1,1,1,0,1,0,0,1,0,0,1,1,1,1] (bO_ Tryz.f70))) (PostF.block 3 (PostF.thenA (wpC Tryz.prog tab D70 (cAt [1,1,1,1,1,0,1,0,0,1,1] (bO_ Tryz.f70))) (loopF (PostF.block 2 (PostF.thenA (wpC Tryz.prog tab D70 (cAt [1,1,1,1,1,1] (bO_ Tryz.f70))) (retF tab [.tmp 2] K))) (fun e h=>N1 (e 7) h)))))) [8,67] [v0,Q_,Q_,v3,Q_,v5,v6,v7,v8,Q_,Q_,Q_,Q_,Q_,Q_,Q_,Q_,Q_,Q_,Q_,Q_,Q_,Q_,Q_,Q_,Q_,Q_,Q_,Q_,Q_,Q_,Q_,Q_,Q_,Q_,Q_,Q_,Q_,Q_,Q_,Q_,Q_,Q_,Q_,Q_,Q_,Q_,Q_,Q_,Q_,Q_,Q_,Q_,Q_,Q_,Q_,Q_,Q_,Q_,Q_,Q_,Q_,Q_,Q_,Q_,v65,v66,v67,Q_,Q_,Q_,Q_,Q_,Q_,Q_,Q_,Q_,Q_,Q_,Q_,Q_,Q_,Q_,Q_,Q_,Q_,Q_,Q_,Q_,Q_,Q_] H
def L70_3 (K:AV→Heap→Prop) (N1:AV→Heap→Prop) (v0:AV) (v3:AV) (v5:AV) (v6:AV) (v7:AV) (v8:AV) (v79:AV) (v80:AV) (v81:AV) (H:Heap):Prop:=LoopV (wpC Tryz.prog tab D70 (cAt [1,1,1,1,1,0,1,0,0,1,0,0,1,1,1,1,1,0,0] (bO_ Tryz.f70))) [0,3,5,6,7,8,79,80] (PostF.block 6 (PostF.block 3 (PostF.thenA (wpC Tryz.prog tab D70 (cAt [1,1,1,1,1,0,1,0,0,1,1] (bO_ Tryz.f70))) (loopF (PostF.block 2 (PostF.thenA (wpC Tryz.prog tab D70 (cAt [1,1,1,1,1,1] (bO_ Tryz.f70))) (retF tab [.tmp 2] K))) (fun e h=>N1 (e 7) h))))) [81] [v0,Q_,Q_,v3,Q_,v5,v6,v7,v8,Q_,Q_,Q_,Q_,Q_,Q_,Q_,Q_,Q_,Q_,Q_,Q_,Q_,Q_,Q_,Q_,Q_,Q_,Q_,Q_,Q_,Q_,Q_,Q_,Q_,Q_,Q_,Q_,Q_,Q_,Q_,Q_,Q_,Q_,Q_,Q_,Q_,Q_,Q_,Q_,Q_,Q_,Q_,Q_,Q_,Q_,Q_,Q_,Q_,Q_,Q_,Q_,Q_,Q_,Q_,Q_,Q_,Q_,Q_,Q_,Q_,Q_,Q_,Q_,Q_,Q_,Q_,Q_,Q_,Q_,v79,v80,v81,Q_,Q_,Q_,Q_,Q_,Q_,Q_,Q_,Q_] H
def B70_3 (K:AV→Heap→Prop) (N1:AV→Heap→Prop) (N2:AV→Heap→Prop) (v0:AV) (v3:AV) (v5:AV) (v6:AV) (v7:AV) (v8:AV) (v79:AV) (v80:AV) (v81:AV) (H:Heap):Prop:=
 binV tab .lss 3 v81 v80 fun v82=>
 cV_ v82 (iA_ tab 22 v79 v81 fun v83=>
 lV_ tab 3 v83 H fun v84=>
 iA_ tab 22 v6 v84 fun v88=>
 sV_ tab 3 v88 v8 H fun H10=>
 binV tab .add 3 v81 (AV.p (.int .i64 1)) fun v89=>
 N2 v89 H10)
 (binV tab .sub 3 v7 (AV.p (.int .i64 1)) fun v47=>
 N1 v47 H)
def B70_2 (K:AV→Heap→Prop) (N1:AV→Heap→Prop) (N2:AV→AV→Heap→Prop) (v0:AV) (v3:AV) (v5:AV) (v6:AV) (v7:AV) (v8:AV) (v65:AV) (v66:AV) (v67:AV) (H:Heap):Prop:=
 binV tab .lss 3 v67 v66 fun v68=>
 cV_ v68 (iA_ tab 22 v65 v67 fun v69=>
 lV_ tab 3 v69 H fun v70=>
 binV tab .lss 3 v70 v8 fun v73=>
 cV_ v73 (binV tab .add 3 v67 (AV.p (.int .i64 1)) fun v75=>
 N2 v70 v75 H)
 (binV tab .add 3 v67 (AV.p (.int .i64 1)) fun v75=>
 N2 v8 v75 H))
 (nC_ v5 fun v77=>
 fA_ tab 125 v77 2 fun v78=>
 lV_ tab 22 v78 H fun v79=>
 lenV tab 22 v79 fun v80=>
 L70_3 K N1 v0 v3 v5 v6 v7 v8 v79 v80 (AV.p (.int .i64 0)) H)
def B70_1 (K:AV→Heap→Prop) (N1:AV→Heap→Prop) (v0:AV) (v3:AV) (v5:AV) (v6:AV) (v7:AV) (H:Heap):Prop:=
 binV tab .geq 3 v7 (AV.p (.int .i64 0)) fun v45=>
 cV_ v45 (nC_ v5 fun v49=>
 fA_ tab 125 v49 2 fun v50=>
 sV_ tab 22 v50 (AV.p .nil) H fun H8=>
 nC_ v3 fun v53=>
 fA_ tab 125 v53 2 fun v54=>
 lV_ tab 22 v54 H8 fun v55=>
 iA_ tab 22 v55 v7 fun v57=>
 lV_ tab 3 v57 H8 fun v58=>
 CallT Tryz.prog 108 [v5,v58] H8 fun v59 H9=>
 lenV tab 24 v0 fun v61=>
 nC_ v5 fun v63=>
 fA_ tab 125 v63 2 fun v64=>
 lV_ tab 22 v64 H9 fun v65=>
 lenV tab 22 v65 fun v66=>
 L70_2 K N1 v0 v3 v5 v6 v7 v61 v65 v66 (AV.p (.int .i64 0)) H9)
 (K v6 H)
def B70_0 (K:AV→Heap→Prop) (N1:AV→Heap→Prop) (v0:AV) (v3:AV) (v20:AV) (v21:AV) (H:Heap):Prop:=
 binV tab .lss 3 v21 v20 fun v22=>
 cV_ v22 (CallT Tryz.prog 108 [v3,v21] H fun v26 H3=>
 binV tab .add 3 v21 (AV.p (.int .i64 1)) fun v27=>
 N1 v27 H3)
 (lenV tab 24 v0 fun v31=>
 safeV (makeN tab 116 v31 v31)∧
 CallT Tryz.prog 107 [v0] H fun v29 H4=>
 newV (makeN tab 116 v31 v31) H4 fun v32 H5=>
 buildV tab 125 [(0,v29),(1,v32)] fun v33=>
 boxV v33 H5 fun v34 H6=>
 lenV tab 24 v0 fun v36=>
 mS_ tab 22 v36 v36 H6 fun v37 H7=>
 nC_ v3 fun v39=>
 fA_ tab 125 v39 2 fun v40=>
 lV_ tab 22 v40 H7 fun v41=>
 lenV tab 22 v41 fun v42=>
 binV tab .sub 3 v42 (AV.p (.int .i64 1)) fun v43=>
 L70_1 K v0 v3 v34 v37 v43 H7)
def W70 (v0:AV) (H:Heap) (K:AV→Heap→Prop):Prop:=
 lenV tab 24 v0 fun v15=>
 mS_ tab 116 v15 v15 H fun v16 H1=>
 buildV tab 125 [(0,v0),(1,v16)] fun v17=>
 boxV v17 H1 fun v18 H2=>
 lenV tab 24 v0 fun v20=>
 L70_0 K v0 v18 v20 (AV.p (.int .i64 0)) H2
theorem W70_wp (v0:AV) (H:Heap) (K:AV→Heap→Prop):wpC Tryz.prog tab D70 (bO_ Tryz.f70) (retF tab [.tmp 2] K) (nthA [v0]) H=W70 v0 H K:=by kernel_rfl
theorem W70_ok {v0:AV} {H:Heap} {K:AV→Heap→Prop} (h:W70 v0 H K):CallT Tryz.prog 70 [v0] H K:=
 CallT.of_wp (D:=D70) tO_ mixed Tryz.func70 (c:=bO_ Tryz.f70) (by kernel_rfl) rfl (by kernel_rfl) (rs:=#[.tmp 2]) rfl (by decide +kernel) (by kernel_rfl) (W70_wp v0 H K) h
theorem L70_3_rule {K:AV→Heap→Prop} {N1:AV→Heap→Prop} {v0 v3 v5 v6 v7 v8 v79 v80 v81:AV} {H:Heap} {σ:Type} (s0:σ) (f81:σ→AV) (TH:σ→Heap) (pre:σ→Prop) (μ:σ→Nat)
  (h0:pre s0∧AV.wk v81 (f81 s0)∧Heap.le (TH s0) H)
  (round:∀s,pre s→B70_3 K N1 (fun w81 H'=>∃s',pre s'∧μ s' < μ s∧AV.wk w81 (f81 s')∧Heap.le (TH s') H') v0 v3 v5 v6 v7 v8 v79 v80 (f81 s) (TH s)) :
  L70_3 K N1 v0 v3 v5 v6 v7 v8 v79 v80 v81 H:=by
 unfold L70_3
 exact LoopV.mk s0 (fun s=>[f81 s]) TH pre μ (fun _=>rfl) (Eq.mp (by kernel_rfl) h0) (fun s hs=>Eq.mp (by kernel_rfl) (round s hs))
theorem L70_2_rule {K:AV→Heap→Prop} {N1:AV→Heap→Prop} {v0 v3 v5 v6 v7 v8 v65 v66 v67:AV} {H:Heap} {σ:Type} (s0:σ) (f8:σ→AV) (f67:σ→AV) (TH:σ→Heap) (pre:σ→Prop) (μ:σ→Nat)
  (h0:pre s0∧AV.wk v8 (f8 s0)∧AV.wk v67 (f67 s0)∧Heap.le (TH s0) H)
  (round:∀s,pre s→B70_2 K N1 (fun w8 w67 H'=>∃s',pre s'∧μ s' < μ s∧AV.wk w8 (f8 s')∧AV.wk w67 (f67 s')∧Heap.le (TH s') H') v0 v3 v5 v6 v7 (f8 s) v65 v66 (f67 s) (TH s)) :
  L70_2 K N1 v0 v3 v5 v6 v7 v8 v65 v66 v67 H:=by
 unfold L70_2
 exact LoopV.mk s0 (fun s=>[f8 s,f67 s]) TH pre μ (fun _=>rfl) (Eq.mp (by kernel_rfl) h0) (fun s hs=>Eq.mp (by kernel_rfl) (round s hs))
theorem L70_1_rule {K:AV→Heap→Prop} {v0 v3 v5 v6 v7:AV} {H:Heap} {σ:Type} (s0:σ) (f7:σ→AV) (TH:σ→Heap) (pre:σ→Prop) (μ:σ→Nat)
  (h0:pre s0∧AV.wk v7 (f7 s0)∧Heap.le (TH s0) H)
  (round:∀s,pre s→B70_1 K (fun w7 H'=>∃s',pre s'∧μ s' < μ s∧AV.wk w7 (f7 s')∧Heap.le (TH s') H') v0 v3 v5 v6 (f7 s) (TH s)) :
  L70_1 K v0 v3 v5 v6 v7 H:=by
 unfold L70_1
 exact LoopV.mk s0 (fun s=>[f7 s]) TH pre μ (fun _=>rfl) (Eq.mp (by kernel_rfl) h0) (fun s hs=>Eq.mp (by kernel_rfl) (round s hs))
theorem L70_0_rule {K:AV→Heap→Prop} {v0 v3 v20 v21:AV} {H:Heap} {σ:Type} (s0:σ) (f21:σ→AV) (TH:σ→Heap) (pre:σ→Prop) (μ:σ→Nat)
  (h0:pre s0∧AV.wk v21 (f21 s0)∧Heap.le (TH s0) H)
  (round:∀s,pre s→B70_0 K (fun w21 H'=>∃s',pre s'∧μ s' < μ s∧AV.wk w21 (f21 s')∧Heap.le (TH s') H') v0 v3 v20 (f21 s) (TH s)) :
  L70_0 K v0 v3 v20 v21 H:=by
 unfold L70_0
 exact LoopV.mk s0 (fun s=>[f21 s]) TH pre μ (fun _=>rfl) (Eq.mp (by kernel_rfl) h0) (fun s hs=>Eq.mp (by kernel_rfl) (round s hs))
end Go.Proofs.YtolffbcnbcjeaaaGreat
namespace Go.Proofs.YtolffbcnbcjeaaaGreat
open Go Go.Sep
attribute [local irreducible] wpC headF
def D71:Info:=⟨48,fun i=>if i=8 then ([[],[],[0,1],[0,1,2],[],[],[4,5],[4,5,6],[0,1,2,3,4,5,6,7]],[(0,[]),(1,[]),(2,[]),(3,[]),(4,[]),(5,[]),(6,[]),(7,[]),(8,[])]) else ([],[]),fun i=>if i=3 then ([1,5,13,14],[15]) else if i=6 then ([1,5,6,13,14,15,20,21],[22]) else ([],[])⟩
def L71_0 (K:AV→Heap→Prop) (v1:AV) (v5:AV) (v13:AV) (v14:AV) (v15:AV) (H:Heap):Prop:=LoopV (wpC Tryz.prog tab D71 (cAt [1,1,0,1,0,0] (bO_ Tryz.f71))) [1,5,13,14] (PostF.block 0 (PostF.thenA (wpC Tryz.prog tab D71 (cAt [1,1,1] (bO_ Tryz.f71))) (retF tab [.tmp 4] K))) [15] [Q_,v1,Q_,Q_,Q_,v5,Q_,Q_,Q_,Q_,Q_,Q_,Q_,v13,v14,v15,Q_,Q_,Q_,Q_,Q_,Q_,Q_,Q_,Q_,Q_,Q_,Q_,Q_,Q_,Q_,Q_,Q_,Q_,Q_,Q_,Q_,Q_,Q_,Q_,Q_,Q_,Q_,Q_,Q_,Q_,Q_,Q_] H
def L71_1 (K:AV→Heap→Prop) (N1:AV→Heap→Prop) (v1:AV) (v5:AV) (v6:AV) (v13:AV) (v14:AV) (v15:AV) (v20:AV) (v21:AV) (v22:AV) (H:Heap):Prop:=LoopV (wpC Tryz.prog tab D71 (cAt [1,1,0,1,0,0,1,1,0,0,1,1,0,0] (bO_ Tryz.f71))) [1,5,6,13,14,15,20,21] (PostF.block 2 (PostF.block 1 (PostF.thenA (wpC Tryz.prog tab D71 (cAt [1,1,0,1,0,0,1,1,1] (bO_ Tryz.f71))) (loopF (PostF.block 0 (PostF.thenA (wpC Tryz.prog tab D71 (cAt [1,1,1] (bO_ Tryz.f71))) (retF tab [.tmp 4] K))) (fun e h=>N1 (e 15) h))))) [22] [Q_,v1,Q_,Q_,Q_,v5,v6,Q_,Q_,Q_,Q_,Q_,Q_,v13,v14,v15,Q_,Q_,Q_,Q_,v20,v21,v22,Q_,Q_,Q_,Q_,Q_,Q_,Q_,Q_,Q_,Q_,Q_,Q_,Q_,Q_,Q_,Q_,Q_,Q_,Q_,Q_,Q_,Q_,Q_,Q_,Q_] H
def B71_1 (K:AV→Heap→Prop) (N1:AV→Heap→Prop) (N2:AV→Heap→Prop) (v1:AV) (v5:AV) (v6:AV) (v13:AV) (v14:AV) (v15:AV) (v20:AV) (v21:AV) (v22:AV) (H:Heap):Prop:=
 binV tab .lss 3 v22 v21 fun v23=>
 cV_ v23 (iA_ tab 22 v20 v22 fun v24=>
 lV_ tab 3 v24 H fun v25=>
 iA_ tab 22 v1 v6 fun v28=>
 lV_ tab 3 v28 H fun v29=>
 iA_ tab 22 v1 v25 fun v32=>
 lV_ tab 3 v32 H fun v33=>
 binV tab .eql 3 v29 v33 fun v34=>
 cV_ v34 (iA_ tab 24 v5 v6 fun v39=>
 lV_ tab 22 v39 H fun v40=>
 bS_ tab 22 1 [(0,v25)] H (wkK fun v42 H2=>
 aP_ tab 22 22 v40 v42 H2 (wkK fun v43 H3=>
 iA_ tab 24 v5 v6 fun v44=>
 sV_ tab 22 v44 v43 H3 fun H4=>
 binV tab .add 3 v22 (AV.p (.int .i64 1)) fun v45=>
 N2 v45 H4)))
 (binV tab .add 3 v22 (AV.p (.int .i64 1)) fun v45=>
 N2 v45 H))
 (binV tab .add 3 v15 (AV.p (.int .i64 1)) fun v46=>
 N1 v46 H)
def B71_0 (K:AV→Heap→Prop) (N1:AV→Heap→Prop) (v1:AV) (v5:AV) (v13:AV) (v14:AV) (v15:AV) (H:Heap):Prop:=
 binV tab .lss 3 v15 v14 fun v16=>
 cV_ v16 (iA_ tab 24 v13 v15 fun v18=>
 lV_ tab 22 v18 H fun v19=>
 lenV tab 22 v19 fun v21=>
 L71_1 K N1 v1 v5 v15 v13 v14 v15 v19 v21 (AV.p (.int .i64 0)) H)
 (K v5 H)
def W71 (v0:AV) (v1:AV) (H:Heap) (K:AV→Heap→Prop):Prop:=
 lenV tab 24 v0 fun v11=>
 mS_ tab 24 v11 v11 H fun v12 H1=>
 lenV tab 24 v0 fun v14=>
 L71_0 K v1 v12 v0 v14 (AV.p (.int .i64 0)) H1
theorem W71_wp (v0:AV) (v1:AV) (H:Heap) (K:AV→Heap→Prop):wpC Tryz.prog tab D71 (bO_ Tryz.f71) (retF tab [.tmp 4] K) (nthA [v0,v1]) H=W71 v0 v1 H K:=by kernel_rfl
theorem W71_ok {v0 v1:AV} {H:Heap} {K:AV→Heap→Prop} (h:W71 v0 v1 H K):CallT Tryz.prog 71 [v0,v1] H K:=
 CallT.of_wp (D:=D71) tO_ mixed Tryz.func71 (c:=bO_ Tryz.f71) (by kernel_rfl) rfl (by kernel_rfl) (rs:=#[.tmp 4]) rfl (by decide +kernel) (by kernel_rfl) (W71_wp v0 v1 H K) h
theorem L71_1_rule {K:AV→Heap→Prop} {N1:AV→Heap→Prop} {v1 v5 v6 v13 v14 v15 v20 v21 v22:AV} {H:Heap} {σ:Type} (s0:σ) (f22:σ→AV) (TH:σ→Heap) (pre:σ→Prop) (μ:σ→Nat)
  (h0:pre s0∧AV.wk v22 (f22 s0)∧Heap.le (TH s0) H)
  (round:∀s,pre s→B71_1 K N1 (fun w22 H'=>∃s',pre s'∧μ s' < μ s∧AV.wk w22 (f22 s')∧Heap.le (TH s') H') v1 v5 v6 v13 v14 v15 v20 v21 (f22 s) (TH s)) :
  L71_1 K N1 v1 v5 v6 v13 v14 v15 v20 v21 v22 H:=by
 unfold L71_1
 exact LoopV.mk s0 (fun s=>[f22 s]) TH pre μ (fun _=>rfl) (Eq.mp (by kernel_rfl) h0) (fun s hs=>Eq.mp (by kernel_rfl) (round s hs))
theorem L71_0_rule {K:AV→Heap→Prop} {v1 v5 v13 v14 v15:AV} {H:Heap} {σ:Type} (s0:σ) (f15:σ→AV) (TH:σ→Heap) (pre:σ→Prop) (μ:σ→Nat)
  (h0:pre s0∧AV.wk v15 (f15 s0)∧Heap.le (TH s0) H)
  (round:∀s,pre s→B71_0 K (fun w15 H'=>∃s',pre s'∧μ s' < μ s∧AV.wk w15 (f15 s')∧Heap.le (TH s') H') v1 v5 v13 v14 (f15 s) (TH s)) :
  L71_0 K v1 v5 v13 v14 v15 H:=by
 unfold L71_0
 exact LoopV.mk s0 (fun s=>[f15 s]) TH pre μ (fun _=>rfl) (Eq.mp (by kernel_rfl) h0) (fun s hs=>Eq.mp (by kernel_rfl) (round s hs))
def D72:Info:=⟨48,fun i=>([],[]),fun i=>if i=2 then ([0,1],[5]) else ([],[])⟩
def L72_0 (K:AV→Heap→Prop) (v0:AV) (v1:AV) (v5:AV) (H:Heap):Prop:=LoopV (wpC Tryz.prog tab D72 (cAt [1,1,0,0,0] (bO_ Tryz.f72))) [0,1] (PostF.block 0 (PostF.thenA (wpC Tryz.prog tab D72 (cAt [1,1,1] (bO_ Tryz.f72))) (retF tab [.tmp 4] K))) [5] [v0,v1,Q_,Q_,Q_,v5,Q_,Q_,Q_,Q_,Q_,Q_,Q_,Q_,Q_,Q_,Q_,Q_,Q_,Q_,Q_,Q_,Q_,Q_,Q_,Q_,Q_,Q_,Q_,Q_,Q_,Q_,Q_,Q_,Q_,Q_,Q_,Q_,Q_,Q_,Q_,Q_,Q_,Q_,Q_,Q_,Q_,Q_] H
def J72_1 (K:AV→Heap→Prop) (v0:AV) (v1:AV) (v5:AV) (H:Heap):Prop:=
 bS_ tab 22 0 [] H (wkK fun v34 H1=>
 sliceV tab 22 v0 none (some v5) none fun v37=>
 aP_ tab 22 22 v34 v37 H1 (wkK fun v38 H2=>
 bS_ tab 22 1 [(0,v1)] H2 (wkK fun v41 H3=>
 aP_ tab 22 22 v38 v41 H3 (wkK fun v42 H4=>
 sliceV tab 22 v0 (some v5) none none fun v46=>
 aP_ tab 22 22 v42 v46 H4 (wkK fun v47 H5=>
 K v47 H5)))))
def J72_2 (K:AV→Heap→Prop) (v0:AV) (v1:AV) (v5:AV) (H:Heap):Prop:=
 lenV tab 22 v0 fun v23=>
 binV tab .lss 3 v5 v23 fun v24=>
 grdV v24 true (iA_ tab 22 v0 v5 fun v28=>
 lV_ tab 3 v28 H fun v29=>
 binV tab .eql 3 v29 v1 fun v31=>
 cV_ v31 (K v0 H)
 (J72_1 K v0 v1 v5 H))
 (J72_1 K v0 v1 v5 H)
def B72_0 (K:AV→Heap→Prop) (N1:AV→Heap→Prop) (v0:AV) (v1:AV) (v5:AV) (H:Heap):Prop:=
 lenV tab 22 v0 fun v9=>
 binV tab .lss 3 v5 v9 fun v10=>
 grdV v10 true (iA_ tab 22 v0 v5 fun v14=>
 lV_ tab 3 v14 H fun v15=>
 binV tab .lss 3 v15 v1 fun v17=>
 cV_ v17 (binV tab .add 3 v5 (AV.p (.int .i64 1)) fun v20=>
 N1 v20 H)
 (J72_2 K v0 v1 v5 H))
 (J72_2 K v0 v1 v5 H)
def W72 (v0:AV) (v1:AV) (H:Heap) (K:AV→Heap→Prop):Prop:=
 L72_0 K v0 v1 (AV.p (.int .i64 0)) H
theorem W72_wp (v0:AV) (v1:AV) (H:Heap) (K:AV→Heap→Prop):wpC Tryz.prog tab D72 (bO_ Tryz.f72) (retF tab [.tmp 4] K) (nthA [v0,v1]) H=W72 v0 v1 H K:=by kernel_rfl
theorem W72_ok {v0 v1:AV} {H:Heap} {K:AV→Heap→Prop} (h:W72 v0 v1 H K):CallT Tryz.prog 72 [v0,v1] H K:=
 CallT.of_wp (D:=D72) tO_ mixed Tryz.func72 (c:=bO_ Tryz.f72) (by kernel_rfl) rfl (by kernel_rfl) (rs:=#[.tmp 4]) rfl (by decide +kernel) (by kernel_rfl) (W72_wp v0 v1 H K) h
theorem L72_0_rule {K:AV→Heap→Prop} {v0 v1 v5:AV} {H:Heap} {σ:Type} (s0:σ) (f5:σ→AV) (TH:σ→Heap) (pre:σ→Prop) (μ:σ→Nat)
  (h0:pre s0∧AV.wk v5 (f5 s0)∧Heap.le (TH s0) H)
  (round:∀s,pre s→B72_0 K (fun w5 H'=>∃s',pre s'∧μ s' < μ s∧AV.wk w5 (f5 s')∧Heap.le (TH s') H') v0 v1 (f5 s) (TH s)) :
  L72_0 K v0 v1 v5 H:=by
 unfold L72_0
 exact LoopV.mk s0 (fun s=>[f5 s]) TH pre μ (fun _=>rfl) (Eq.mp (by kernel_rfl) h0) (fun s hs=>Eq.mp (by kernel_rfl) (round s hs))
def D77:Info:=⟨22,fun i=>if i=1 then ([[],[0],[],[2],[0,1,2,3],[],[5],[],[7],[0,1,2,3,4,5,6,7,8],[],[10],[],[12],[0,1,2,3,4,5,6,7,8,9,10,11,12,13],[0,1,2,3,4,5,6,7,8,9,10,11,12,13,14],[0,1,2,3,4,5,6,7,8,9,10,11,12,13,14,15],[0,1,2,3,4,5,6,7,8,9,10,11,12,13,14,15,16]],[(0,[]),(1,[]),(2,[]),(3,[]),(5,[]),(6,[]),(7,[]),(8,[]),(10,[]),(11,[]),(12,[]),(13,[]),(4,[6,8,11,13]),(9,[11,13]),(14,[]),(15,[]),(16,[]),(17,[])]) else ([],[]),fun i=>([],[])⟩
def W77 (v0:AV) (v1:AV) (H:Heap) (K:AV→Heap→Prop):Prop:=
 boxV v0 H fun v2 H1=>
 boxV v1 H1 fun v3 H2=>
 fA_ tab 84 v2 0 fun v5=>
 lV_ tab 3 v5 H2 fun v6=>
 fA_ tab 84 v3 0 fun v7=>
 lV_ tab 3 v7 H2 fun v8=>
 fA_ tab 84 v2 1 fun v10=>
 lV_ tab 3 v10 H2 fun v11=>
 fA_ tab 84 v3 1 fun v12=>
 lV_ tab 3 v12 H2 fun v13=>
 fA_ tab 84 v2 2 fun v15=>
 lV_ tab 3 v15 H2 fun v16=>
 fA_ tab 84 v3 2 fun v17=>
 lV_ tab 3 v17 H2 fun v18=>
 CallT Tryz.prog 113 [v6,v8] H2 fun v9 H3=>
 (lV_ tab 3 v10 H3 fun v9011=>
 v11=v9011)∧
 (lV_ tab 3 v12 H3 fun v9013=>
 v13=v9013)∧
 (lV_ tab 3 v15 H3 fun v9016=>
 v16=v9016)∧
 (lV_ tab 3 v17 H3 fun v9018=>
 v18=v9018)∧
 CallT Tryz.prog 113 [v11,v13] H3 fun v14 H4=>
 (lV_ tab 3 v15 H4 fun v9016=>
 v16=v9016)∧
 (lV_ tab 3 v17 H4 fun v9018=>
 v18=v9018)∧
 CallT Tryz.prog 113 [v16,v18] H4 fun v19 H5=>
 bS_ tab 22 3 [(0,v9),(1,v14),(2,v19)] H5 (wkK fun v20 H6=>
 CallT Tryz.prog 112 [v20] H6 fun v21 H7=>
 K v21 H7)
theorem W77_wp (v0:AV) (v1:AV) (H:Heap) (K:AV→Heap→Prop):wpC Tryz.prog tab D77 (bO_ Tryz.f77) (retF tab [.tmp 4] K) (nthA [v0,v1]) H=W77 v0 v1 H K:=by kernel_rfl
theorem W77_ok {v0 v1:AV} {H:Heap} {K:AV→Heap→Prop} (h:W77 v0 v1 H K):CallT Tryz.prog 77 [v0,v1] H K:=
 CallT.of_wp (D:=D77) tO_ mixed Tryz.func77 (c:=bO_ Tryz.f77) (by kernel_rfl) rfl (by kernel_rfl) (rs:=#[.tmp 4]) rfl (by decide +kernel) (by kernel_rfl) (W77_wp v0 v1 H K) h
def D79:Info:=⟨39,fun i=>if i=2 then ([[],[],[1],[],[3],[],[],[5,6],[0,1,2,3,4,5,6,7],[0,1,2,3,4,5,6,7,8],[0,1,2,3,4,5,6,7,8,9]],[(0,[]),(1,[]),(3,[]),(6,[]),(5,[2,4]),(7,[2,4]),(2,[2,4]),(4,[4]),(8,[]),(9,[]),(10,[])]) else ([],[]),fun i=>if i=4 then ([4,19],[20]) else ([],[])⟩
def L79_0 (K:AV→Heap→Prop) (v4:AV) (v19:AV) (v20:AV) (H:Heap):Prop:=LoopV (wpC Tryz.prog tab D79 (cAt [1,1,1,0,1,0,0] (bO_ Tryz.f79))) [4,19] (PostF.block 0 (PostF.thenA (wpC Tryz.prog tab D79 (cAt [1,1,1,1] (bO_ Tryz.f79))) (retF tab [.tmp 2] K))) [20] [Q_,Q_,Q_,Q_,v4,Q_,Q_,Q_,Q_,Q_,Q_,Q_,Q_,Q_,Q_,Q_,Q_,Q_,Q_,v19,v20,Q_,Q_,Q_,Q_,Q_,Q_,Q_,Q_,Q_,Q_,Q_,Q_,Q_,Q_,Q_,Q_,Q_,Q_] H
def B79_0 (K:AV→Heap→Prop) (N1:AV→Heap→Prop) (v4:AV) (v19:AV) (v20:AV) (H:Heap):Prop:=
 binV tab .lss 3 v20 v19 fun v21=>
 cV_ v21 (nC_ v4 fun v24=>
 fA_ tab 133 v24 1 fun v25=>
 lV_ tab 22 v25 H fun v26=>
 iA_ tab 22 v26 v20 fun v28=>
 lV_ tab 3 v28 H fun v29=>
 binV tab .eql 3 v29 (AV.p (.int .i64 0)) fun v30=>
 cV_ v30 (CallT Tryz.prog 118 [v4,v20] H fun v33 H6=>
 binV tab .add 3 v20 (AV.p (.int .i64 1)) fun v34=>
 N1 v34 H6)
 (binV tab .add 3 v20 (AV.p (.int .i64 1)) fun v34=>
 N1 v34 H))
 (nC_ v4 fun v36=>
 fA_ tab 133 v36 3 fun v37=>
 lV_ tab 22 v37 H fun v38=>
 K v38 H)
def W79 (v0:AV) (H:Heap) (K:AV→Heap→Prop):Prop:=
 lenV tab 24 v0 fun v7=>
 safeV (makeN tab 22 v7 v7)∧
 safeV (makeN tab 22 v7 v7)∧
 bS_ tab 22 1 [(0,(AV.p (.int .i64 (-1))))] H (wkK fun v13 H1=>
 safeV (makeN tab 22 v7 v7)∧
 safeV (makeN tab 22 v7 v7)∧
 CallT Tryz.prog 117 [v13,v7] H1 fun v15 H2=>
 safeV (makeN tab 22 v7 v7)∧
 newV (makeN tab 22 v7 v7) H2 fun v10 H3=>
 newV (makeN tab 22 v7 v7) H3 fun v12 H4=>
 buildV tab 133 [(0,v0),(1,v10),(2,v12),(3,v15)] fun v16=>
 boxV v16 H4 fun v17 H5=>
 lenV tab 24 v0 fun v19=>
 L79_0 K v17 v19 (AV.p (.int .i64 0)) H5)
theorem W79_wp (v0:AV) (H:Heap) (K:AV→Heap→Prop):wpC Tryz.prog tab D79 (bO_ Tryz.f79) (retF tab [.tmp 2] K) (nthA [v0]) H=W79 v0 H K:=by kernel_rfl
theorem W79_ok {v0:AV} {H:Heap} {K:AV→Heap→Prop} (h:W79 v0 H K):CallT Tryz.prog 79 [v0] H K:=
 CallT.of_wp (D:=D79) tO_ mixed Tryz.func79 (c:=bO_ Tryz.f79) (by kernel_rfl) rfl (by kernel_rfl) (rs:=#[.tmp 2]) rfl (by decide +kernel) (by kernel_rfl) (W79_wp v0 H K) h
theorem L79_0_rule {K:AV→Heap→Prop} {v4 v19 v20:AV} {H:Heap} {σ:Type} (s0:σ) (f20:σ→AV) (TH:σ→Heap) (pre:σ→Prop) (μ:σ→Nat)
  (h0:pre s0∧AV.wk v20 (f20 s0)∧Heap.le (TH s0) H)
  (round:∀s,pre s→B79_0 K (fun w20 H'=>∃s',pre s'∧μ s' < μ s∧AV.wk w20 (f20 s')∧Heap.le (TH s') H') v4 v19 (f20 s) (TH s)) :
  L79_0 K v4 v19 v20 H:=by
 unfold L79_0
 exact LoopV.mk s0 (fun s=>[f20 s]) TH pre μ (fun _=>rfl) (Eq.mp (by kernel_rfl) h0) (fun s hs=>Eq.mp (by kernel_rfl) (round s hs))
def D82:Info:=⟨8,fun i=>([],[]),fun i=>([],[])⟩
def W82 (v0:AV) (H:Heap) (K:AV→Heap→Prop):Prop:=
 binV tab .eql 22 v0 (AV.p .nil) fun v4=>
 cV_ v4 (K (AV.p .nil) H)
 (bS_ tab 22 0 [] H (wkK fun v5 H1=>
 aP_ tab 22 22 v5 v0 H1 (wkK fun v7 H2=>
 K v7 H2)))
theorem W82_wp (v0:AV) (H:Heap) (K:AV→Heap→Prop):wpC Tryz.prog tab D82 (bO_ Tryz.f82) (retF tab [.tmp 2] K) (nthA [v0]) H=W82 v0 H K:=by kernel_rfl
theorem W82_ok {v0:AV} {H:Heap} {K:AV→Heap→Prop} (h:W82 v0 H K):CallT Tryz.prog 82 [v0] H K:=
 CallT.of_wp (D:=D82) tO_ mixed Tryz.func82 (c:=bO_ Tryz.f82) (by kernel_rfl) rfl (by kernel_rfl) (rs:=#[.tmp 2]) rfl (by decide +kernel) (by kernel_rfl) (W82_wp v0 H K) h
theorem W82_hb:HasBody Tryz.prog 82:=⟨_,bO_ Tryz.f82,Tryz.func82,by kernel_rfl,rfl⟩
def D91:Info:=⟨39,fun i=>([],[]),fun i=>if i=5 then ([11,12],[3,13]) else ([],[])⟩
def L91_0 (K:AV→Heap→Prop) (v3:AV) (v11:AV) (v12:AV) (v13:AV) (H:Heap):Prop:=LoopV (wpC Tryz.prog tab D91 (cAt [1,1,1,0,1,0,0] (bO_ Tryz.f91))) [11,12] (PostF.block 0 (PostF.thenA (wpC Tryz.prog tab D91 (cAt [1,1,1,1] (bO_ Tryz.f91))) (retF tab [.tmp 2] K))) [3,13] [Q_,Q_,Q_,v3,Q_,Q_,Q_,Q_,Q_,Q_,Q_,v11,v12,v13,Q_,Q_,Q_,Q_,Q_,Q_,Q_,Q_,Q_,Q_,Q_,Q_,Q_,Q_,Q_,Q_,Q_,Q_,Q_,Q_,Q_,Q_,Q_,Q_,Q_] H
def B91_0 (K:AV→Heap→Prop) (N1:AV→AV→Heap→Prop) (v3:AV) (v11:AV) (v12:AV) (v13:AV) (H:Heap):Prop:=
 binV tab .lss 3 v13 v12 fun v14=>
 cV_ v14 (iA_ tab 45 v11 v13 fun v15=>
 lV_ tab 76 v15 H fun v16=>
 allocV tab 76 H fun v5 H2=>
 sV_ tab 76 v5 v16 H2 fun H3=>
 fA_ tab 76 v5 0 fun v17=>
 lV_ tab 3 v17 H3 fun v18=>
 CallT Tryz.prog 122 [v18] H3 fun v19 H4=>
 binV tab .lss 3 v19 (AV.p (.int .i64 0)) fun v21=>
 grdV v21 false (lV_ tab 76 v5 H4 fun v23=>
 CallT Tryz.prog 123 [v23] H4 fun v24 H5=>
 unV .not v24 fun v25=>
 grdV v25 false (binV tab .lss 3 v3 v19 fun v30=>
 cV_ v30 (K (AV.p (.bool false)) H5)
 (binV tab .sub 3 (AV.p (.int .i64 1)) v19 fun v34=>
 binV tab .add 3 v3 v34 fun v35=>
 binV tab .add 3 v13 (AV.p (.int .i64 1)) fun v36=>
 N1 v35 v36 H5))
 (K (AV.p (.bool false)) H5))
 (K (AV.p (.bool false)) H4))
 (binV tab .eql 3 v3 (AV.p (.int .i64 1)) fun v38=>
 K v38 H)
def W91 (v0:AV) (H:Heap) (K:AV→Heap→Prop):Prop:=
 lenV tab 45 v0 fun v8=>
 CallT Tryz.prog 63 [v8,(AV.p (.int .i64 1)),(AV.p (.int .i64 16))] H fun v9 H1=>
 unV .not v9 fun v10=>
 cV_ v10 (K (AV.p (.bool false)) H1)
 (lenV tab 45 v0 fun v12=>
 L91_0 K (AV.p (.int .i64 0)) v0 v12 (AV.p (.int .i64 0)) H1)
theorem W91_wp (v0:AV) (H:Heap) (K:AV→Heap→Prop):wpC Tryz.prog tab D91 (bO_ Tryz.f91) (retF tab [.tmp 2] K) (nthA [v0]) H=W91 v0 H K:=by kernel_rfl
theorem W91_ok {v0:AV} {H:Heap} {K:AV→Heap→Prop} (h:W91 v0 H K):CallT Tryz.prog 91 [v0] H K:=
 CallT.of_wp (D:=D91) tO_ mixed Tryz.func91 (c:=bO_ Tryz.f91) (by kernel_rfl) rfl (by kernel_rfl) (rs:=#[.tmp 2]) rfl (by decide +kernel) (by kernel_rfl) (W91_wp v0 H K) h
theorem L91_0_rule {K:AV→Heap→Prop} {v3 v11 v12 v13:AV} {H:Heap} {σ:Type} (s0:σ) (f3:σ→AV) (f13:σ→AV) (TH:σ→Heap) (pre:σ→Prop) (μ:σ→Nat)
  (h0:pre s0∧AV.wk v3 (f3 s0)∧AV.wk v13 (f13 s0)∧Heap.le (TH s0) H)
  (round:∀s,pre s→B91_0 K (fun w3 w13 H'=>∃s',pre s'∧μ s' < μ s∧AV.wk w3 (f3 s')∧AV.wk w13 (f13 s')∧Heap.le (TH s') H') (f3 s) v11 v12 (f13 s) (TH s)) :
  L91_0 K v3 v11 v12 v13 H:=by
 unfold L91_0
 exact LoopV.mk s0 (fun s=>[f3 s,f13 s]) TH pre μ (fun _=>rfl) (Eq.mp (by kernel_rfl) h0) (fun s hs=>Eq.mp (by kernel_rfl) (round s hs))
end Go.Proofs.YtolffbcnbcjeaaaGreat
namespace Go.Proofs.YtolffbcnbcjeaaaGreat
open Go Go.Sep
attribute [local irreducible] wpC headF
def D92:Info:=⟨36,fun i=>([],[]),fun i=>if i=3 then ([10,11],[3,12]) else ([],[])⟩
def L92_0 (K:AV→Heap→Prop) (v3:AV) (v10:AV) (v11:AV) (v12:AV) (H:Heap):Prop:=LoopV (wpC Tryz.prog tab D92 (cAt [1,1,0,1,0,0] (bO_ Tryz.f92))) [10,11] (PostF.block 0 (PostF.thenA (wpC Tryz.prog tab D92 (cAt [1,1,1] (bO_ Tryz.f92))) (retF tab [.tmp 2] K))) [3,12] [Q_,Q_,Q_,v3,Q_,Q_,Q_,Q_,Q_,Q_,v10,v11,v12,Q_,Q_,Q_,Q_,Q_,Q_,Q_,Q_,Q_,Q_,Q_,Q_,Q_,Q_,Q_,Q_,Q_,Q_,Q_,Q_,Q_,Q_,Q_] H
def J92_1 (K:AV→Heap→Prop) (N1:AV→AV→Heap→Prop) (v3:AV) (v4:AV) (v10:AV) (v11:AV) (v12:AV) (v18:AV) (v19:AV) (H:Heap):Prop:=
 cV_ v19 (CallT Tryz.prog 72 [v3,v4] H fun v24 H4=>
 binV tab .sub 3 v4 (AV.p (.int .i64 1)) fun v26=>
 CallT Tryz.prog 72 [v24,v26] H4 fun v27 H5=>
 binV tab .add 3 v12 (AV.p (.int .i64 1)) fun v34=>
 N1 v27 v34 H5)
 (binV tab .eql 3 v18 (AV.p (.int .i64 4)) fun v29=>
 cV_ v29 (binV tab .sub 3 v4 (AV.p (.int .i64 1)) fun v32=>
 CallT Tryz.prog 72 [v3,v32] H fun v33 H6=>
 binV tab .add 3 v12 (AV.p (.int .i64 1)) fun v34=>
 N1 v33 v34 H6)
 (binV tab .add 3 v12 (AV.p (.int .i64 1)) fun v34=>
 N1 v3 v34 H))
def B92_0 (K:AV→Heap→Prop) (N1:AV→AV→Heap→Prop) (v3:AV) (v10:AV) (v11:AV) (v12:AV) (H:Heap):Prop:=
 binV tab .lss 3 v12 v11 fun v13=>
 cV_ v13 (iA_ tab 45 v10 v12 fun v15=>
 lV_ tab 76 v15 H fun v16=>
 allocV tab 76 H fun v5 H2=>
 sV_ tab 76 v5 v16 H2 fun H3=>
 fA_ tab 76 v5 0 fun v17=>
 lV_ tab 3 v17 H3 fun v18=>
 binV tab .eql 3 v18 (AV.p (.int .i64 7)) fun v20=>
 cV_ v20 (J92_1 K N1 v3 v12 v10 v11 v12 v18 v20 H3)
 (binV tab .eql 3 v18 (AV.p (.int .i64 8)) fun v21=>
 J92_1 K N1 v3 v12 v10 v11 v12 v18 v21 H3))
 (K v3 H)
def W92 (v0:AV) (H:Heap) (K:AV→Heap→Prop):Prop:=
 lenV tab 45 v0 fun v7=>
 binV tab .sub 3 v7 (AV.p (.int .i64 1)) fun v8=>
 bS_ tab 22 1 [(0,v8)] H (wkK fun v9 H1=>
 lenV tab 45 v0 fun v11=>
 L92_0 K v9 v0 v11 (AV.p (.int .i64 0)) H1)
theorem W92_wp (v0:AV) (H:Heap) (K:AV→Heap→Prop):wpC Tryz.prog tab D92 (bO_ Tryz.f92) (retF tab [.tmp 2] K) (nthA [v0]) H=W92 v0 H K:=by kernel_rfl
theorem W92_ok {v0:AV} {H:Heap} {K:AV→Heap→Prop} (h:W92 v0 H K):CallT Tryz.prog 92 [v0] H K:=
 CallT.of_wp (D:=D92) tO_ mixed Tryz.func92 (c:=bO_ Tryz.f92) (by kernel_rfl) rfl (by kernel_rfl) (rs:=#[.tmp 2]) rfl (by decide +kernel) (by kernel_rfl) (W92_wp v0 H K) h
theorem L92_0_rule {K:AV→Heap→Prop} {v3 v10 v11 v12:AV} {H:Heap} {σ:Type} (s0:σ) (f3:σ→AV) (f12:σ→AV) (TH:σ→Heap) (pre:σ→Prop) (μ:σ→Nat)
  (h0:pre s0∧AV.wk v3 (f3 s0)∧AV.wk v12 (f12 s0)∧Heap.le (TH s0) H)
  (round:∀s,pre s→B92_0 K (fun w3 w12 H'=>∃s',pre s'∧μ s' < μ s∧AV.wk w3 (f3 s')∧AV.wk w12 (f12 s')∧Heap.le (TH s') H') (f3 s) v10 v11 (f12 s) (TH s)) :
  L92_0 K v3 v10 v11 v12 H:=by
 unfold L92_0
 exact LoopV.mk s0 (fun s=>[f3 s,f12 s]) TH pre μ (fun _=>rfl) (Eq.mp (by kernel_rfl) h0) (fun s hs=>Eq.mp (by kernel_rfl) (round s hs))
def D93:Info:=⟨76,fun i=>([],[]),fun i=>if i=3 then ([1,12,13],[5,14]) else if i=8 then ([1,5,6,7,12,13,14],[8,9]) else ([],[])⟩
def L93_0 (K:AV→Heap→Prop) (v1:AV) (v5:AV) (v12:AV) (v13:AV) (v14:AV) (H:Heap):Prop:=LoopV (wpC Tryz.prog tab D93 (cAt [1,1,0,1,0,0] (bO_ Tryz.f93))) [1,12,13] (PostF.block 0 (PostF.thenA (wpC Tryz.prog tab D93 (cAt [1,1,1] (bO_ Tryz.f93))) (retF tab [.tmp 4] K))) [5,14] [Q_,v1,Q_,Q_,Q_,v5,Q_,Q_,Q_,Q_,Q_,Q_,v12,v13,v14,Q_,Q_,Q_,Q_,Q_,Q_,Q_,Q_,Q_,Q_,Q_,Q_,Q_,Q_,Q_,Q_,Q_,Q_,Q_,Q_,Q_,Q_,Q_,Q_,Q_,Q_,Q_,Q_,Q_,Q_,Q_,Q_,Q_,Q_,Q_,Q_,Q_,Q_,Q_,Q_,Q_,Q_,Q_,Q_,Q_,Q_,Q_,Q_,Q_,Q_,Q_,Q_,Q_,Q_,Q_,Q_,Q_,Q_,Q_,Q_,Q_] H
def L93_1 (K:AV→Heap→Prop) (N1:AV→AV→Heap→Prop) (v1:AV) (v5:AV) (v6:AV) (v7:AV) (v8:AV) (v9:AV) (v12:AV) (v13:AV) (v14:AV) (H:Heap):Prop:=LoopV (wpC Tryz.prog tab D93 (cAt [1,1,0,1,0,0,1,1,0,0,1,1,1,0,1,0,0] (bO_ Tryz.f93))) [1,5,6,7,12,13,14] (PostF.block 2 (PostF.thenA (wpC Tryz.prog tab D93 (cAt [1,1,0,1,0,0,1,1,0,0,1,1,1,1] (bO_ Tryz.f93))) (PostF.block 1 (PostF.thenA (wpC Tryz.prog tab D93 (cAt [1,1,0,1,0,0,1,1,1] (bO_ Tryz.f93))) (loopF (PostF.block 0 (PostF.thenA (wpC Tryz.prog tab D93 (cAt [1,1,1] (bO_ Tryz.f93))) (retF tab [.tmp 4] K))) (fun e h=>N1 (e 5) (e 14) h)))))) [8,9] [Q_,v1,Q_,Q_,Q_,v5,v6,v7,v8,v9,Q_,Q_,v12,v13,v14,Q_,Q_,Q_,Q_,Q_,Q_,Q_,Q_,Q_,Q_,Q_,Q_,Q_,Q_,Q_,Q_,Q_,Q_,Q_,Q_,Q_,Q_,Q_,Q_,Q_,Q_,Q_,Q_,Q_,Q_,Q_,Q_,Q_,Q_,Q_,Q_,Q_,Q_,Q_,Q_,Q_,Q_,Q_,Q_,Q_,Q_,Q_,Q_,Q_,Q_,Q_,Q_,Q_,Q_,Q_,Q_,Q_,Q_,Q_,Q_,Q_] H
def J93_2 (K:AV→Heap→Prop) (N1:AV→AV→Heap→Prop) (N2:AV→AV→Heap→Prop) (v1:AV) (v5:AV) (v6:AV) (v7:AV) (v8:AV) (v9:AV) (v12:AV) (v13:AV) (v14:AV) (H:Heap):Prop:=
 bS_ tab 22 1 [(0,v9)] H (wkK fun v68 H7=>
 aP_ tab 22 22 v8 v68 H7 (wkK fun v69 H8=>
 binV tab .add 3 v9 (AV.p (.int .i64 1)) fun v34=>
 N2 v69 v34 H8))
def J93_3 (K:AV→Heap→Prop) (N1:AV→AV→Heap→Prop) (N2:AV→AV→Heap→Prop) (v1:AV) (v5:AV) (v6:AV) (v7:AV) (v8:AV) (v9:AV) (v10:AV) (v11:AV) (v12:AV) (v13:AV) (v14:AV) (v58:AV) (H:Heap):Prop:=
 grdV v58 true (grdV v10 false (unV .not v11 fun v62=>
 cV_ v62 (bS_ tab 22 1 [(0,v9)] H (wkK fun v68 H5=>
 aP_ tab 22 22 v8 v68 H5 (wkK fun v69 H6=>
 binV tab .add 3 v9 (AV.p (.int .i64 1)) fun v34=>
 N2 v69 v34 H6)))
 (binV tab .add 3 v9 (AV.p (.int .i64 1)) fun v34=>
 N2 v8 v34 H))
 (J93_2 K N1 N2 v1 v5 v6 v7 v8 v9 v12 v13 v14 H))
 (binV tab .add 3 v9 (AV.p (.int .i64 1)) fun v34=>
 N2 v8 v34 H)
def B93_1 (K:AV→Heap→Prop) (N1:AV→AV→Heap→Prop) (N2:AV→AV→Heap→Prop) (v1:AV) (v5:AV) (v6:AV) (v7:AV) (v8:AV) (v9:AV) (v12:AV) (v13:AV) (v14:AV) (H:Heap):Prop:=
 lenV tab 22 v1 fun v29=>
 convV tab 3 111 v29 fun v30=>
 binV tab .shl 3 (AV.p (.int .i64 1)) v30 fun v31=>
 binV tab .lss 3 v9 v31 fun v32=>
 cV_ v32 (CallT Tryz.prog 94 [v1,v9,v6] H fun v38 H3=>
 binV tab .sub 3 v6 (AV.p (.int .i64 1)) fun v42=>
 CallT Tryz.prog 94 [v1,v9,v42] H3 fun v43 H4=>
 fA_ tab 76 v7 0 fun v44=>
 lV_ tab 3 v44 H4 fun v45=>
 binV tab .eql 3 v45 (AV.p (.int .i64 7)) fun v46=>
 grdV v46 true (unV .not v38 fun v49=>
 grdV v49 false (grdV v43 false (fA_ tab 76 v7 0 fun v55=>
 lV_ tab 3 v55 H4 fun v56=>
 binV tab .eql 3 v56 (AV.p (.int .i64 8)) fun v57=>
 J93_3 K N1 N2 v1 v5 v6 v7 v8 v9 v38 v43 v12 v13 v14 v57 H4)
 (J93_2 K N1 N2 v1 v5 v6 v7 v8 v9 v12 v13 v14 H4))
 (J93_2 K N1 N2 v1 v5 v6 v7 v8 v9 v12 v13 v14 H4))
 (fA_ tab 76 v7 0 fun v55=>
 lV_ tab 3 v55 H4 fun v56=>
 binV tab .eql 3 v56 (AV.p (.int .i64 8)) fun v57=>
 J93_3 K N1 N2 v1 v5 v6 v7 v8 v9 v38 v43 v12 v13 v14 v57 H4))
 (bS_ tab 24 1 [(0,v8)] H (wkK fun v72 H9=>
 aP_ tab 24 24 v5 v72 H9 (wkK fun v73 H10=>
 binV tab .add 3 v14 (AV.p (.int .i64 1)) fun v74=>
 N1 v73 v74 H10)))
def B93_0 (K:AV→Heap→Prop) (N1:AV→AV→Heap→Prop) (v1:AV) (v5:AV) (v12:AV) (v13:AV) (v14:AV) (H:Heap):Prop:=
 binV tab .lss 3 v14 v13 fun v15=>
 cV_ v15 (iA_ tab 45 v12 v14 fun v17=>
 lV_ tab 76 v17 H fun v18=>
 allocV tab 76 H fun v7 H1=>
 sV_ tab 76 v7 v18 H1 fun H2=>
 fA_ tab 76 v7 0 fun v19=>
 lV_ tab 3 v19 H2 fun v20=>
 binV tab .neq 3 v20 (AV.p (.int .i64 7)) fun v21=>
 grdV v21 true (fA_ tab 76 v7 0 fun v23=>
 lV_ tab 3 v23 H2 fun v24=>
 binV tab .neq 3 v24 (AV.p (.int .i64 8)) fun v25=>
 cV_ v25 (binV tab .add 3 v14 (AV.p (.int .i64 1)) fun v74=>
 N1 v5 v74 H2)
 (L93_1 K N1 v1 v5 v14 v7 (AV.p .nil) (AV.p (.int .i64 0)) v12 v13 v14 H2))
 (L93_1 K N1 v1 v5 v14 v7 (AV.p .nil) (AV.p (.int .i64 0)) v12 v13 v14 H2))
 (K v5 H)
def W93 (v0:AV) (v1:AV) (H:Heap) (K:AV→Heap→Prop):Prop:=
 lenV tab 45 v0 fun v13=>
 L93_0 K v1 (AV.p .nil) v0 v13 (AV.p (.int .i64 0)) H
theorem W93_wp (v0:AV) (v1:AV) (H:Heap) (K:AV→Heap→Prop):wpC Tryz.prog tab D93 (bO_ Tryz.f93) (retF tab [.tmp 4] K) (nthA [v0,v1]) H=W93 v0 v1 H K:=by kernel_rfl
theorem W93_ok {v0 v1:AV} {H:Heap} {K:AV→Heap→Prop} (h:W93 v0 v1 H K):CallT Tryz.prog 93 [v0,v1] H K:=
 CallT.of_wp (D:=D93) tO_ mixed Tryz.func93 (c:=bO_ Tryz.f93) (by kernel_rfl) rfl (by kernel_rfl) (rs:=#[.tmp 4]) rfl (by decide +kernel) (by kernel_rfl) (W93_wp v0 v1 H K) h
theorem L93_1_rule {K:AV→Heap→Prop} {N1:AV→AV→Heap→Prop} {v1 v5 v6 v7 v8 v9 v12 v13 v14:AV} {H:Heap} {σ:Type} (s0:σ) (f8:σ→AV) (f9:σ→AV) (TH:σ→Heap) (pre:σ→Prop) (μ:σ→Nat)
  (h0:pre s0∧AV.wk v8 (f8 s0)∧AV.wk v9 (f9 s0)∧Heap.le (TH s0) H)
  (round:∀s,pre s→B93_1 K N1 (fun w8 w9 H'=>∃s',pre s'∧μ s' < μ s∧AV.wk w8 (f8 s')∧AV.wk w9 (f9 s')∧Heap.le (TH s') H') v1 v5 v6 v7 (f8 s) (f9 s) v12 v13 v14 (TH s)) :
  L93_1 K N1 v1 v5 v6 v7 v8 v9 v12 v13 v14 H:=by
 unfold L93_1
 exact LoopV.mk s0 (fun s=>[f8 s,f9 s]) TH pre μ (fun _=>rfl) (Eq.mp (by kernel_rfl) h0) (fun s hs=>Eq.mp (by kernel_rfl) (round s hs))
theorem L93_0_ruleG {K:AV→Heap→Prop} {v1 v5 v12 v13 v14:AV} {H:Heap} {σ:Type} (s0:σ) (f5:σ→AV) (f14:σ→AV) (TH:σ→Heap) (pre:σ→Prop) (μ:σ→Nat)
  (h0:pre s0∧AV.wk v5 (f5 s0)∧AV.wk v14 (f14 s0)∧Heap.le (TH s0) H)
  (round:∀s,pre s→∀q,TH s q=none→B93_0 K (fun w5 w14 H'=>∃s',pre s'∧μ s' < μ s∧AV.wk w5 (f5 s')∧AV.wk w14 (f14 s')∧Heap.le (TH s') H') v1 (f5 s) v12 v13 (f14 s) ((TH s).set q [])) :
  L93_0 K v1 v5 v12 v13 v14 H:=by
 unfold L93_0
 exact LoopV.mkG s0 (fun s=>[f5 s,f14 s]) TH pre μ (fun _=>rfl) (Eq.mp (by kernel_rfl) h0) (fun s hs q hq=>Eq.mp (by kernel_rfl) (round s hs q hq))
def D94:Info:=⟨26,fun i=>([],[]),fun i=>if i=2 then ([1,2,9,10],[11]) else ([],[])⟩
def L94_0 (K:AV→Heap→Prop) (v1:AV) (v2:AV) (v9:AV) (v10:AV) (v11:AV) (H:Heap):Prop:=LoopV (wpC Tryz.prog tab D94 (cAt [1,0,1,0,0] (bO_ Tryz.f94))) [1,2,9,10] (PostF.block 0 (PostF.thenA (wpC Tryz.prog tab D94 (cAt [1,1] (bO_ Tryz.f94))) (retF tab [.tmp 6] K))) [11] [Q_,v1,v2,Q_,Q_,Q_,Q_,Q_,Q_,v9,v10,v11,Q_,Q_,Q_,Q_,Q_,Q_,Q_,Q_,Q_,Q_,Q_,Q_,Q_,Q_] H
def B94_0 (K:AV→Heap→Prop) (N1:AV→Heap→Prop) (v1:AV) (v2:AV) (v9:AV) (v10:AV) (v11:AV) (H:Heap):Prop:=
 binV tab .lss 3 v11 v10 fun v12=>
 cV_ v12 (iA_ tab 22 v9 v11 fun v14=>
 lV_ tab 3 v14 H fun v15=>
 binV tab .eql 3 v15 v2 fun v18=>
 cV_ v18 (convV tab 3 111 v11 fun v21=>
 binV tab .shr 3 v1 v21 fun v22=>
 binV tab .and 3 v22 (AV.p (.int .i64 1)) fun v23=>
 binV tab .eql 3 v23 (AV.p (.int .i64 1)) fun v24=>
 K v24 H)
 (binV tab .add 3 v11 (AV.p (.int .i64 1)) fun v25=>
 N1 v25 H))
 (K (AV.p (.bool false)) H)
def W94 (v0:AV) (v1:AV) (v2:AV) (H:Heap) (K:AV→Heap→Prop):Prop:=
 lenV tab 22 v0 fun v10=>
 L94_0 K v1 v2 v0 v10 (AV.p (.int .i64 0)) H
theorem W94_wp (v0:AV) (v1:AV) (v2:AV) (H:Heap) (K:AV→Heap→Prop):wpC Tryz.prog tab D94 (bO_ Tryz.f94) (retF tab [.tmp 6] K) (nthA [v0,v1,v2]) H=W94 v0 v1 v2 H K:=by kernel_rfl
theorem W94_ok {v0 v1 v2:AV} {H:Heap} {K:AV→Heap→Prop} (h:W94 v0 v1 v2 H K):CallT Tryz.prog 94 [v0,v1,v2] H K:=
 CallT.of_wp (D:=D94) tO_ mixed Tryz.func94 (c:=bO_ Tryz.f94) (by kernel_rfl) rfl (by kernel_rfl) (rs:=#[.tmp 6]) rfl (by decide +kernel) (by kernel_rfl) (W94_wp v0 v1 v2 H K) h
theorem L94_0_rule {K:AV→Heap→Prop} {v1 v2 v9 v10 v11:AV} {H:Heap} {σ:Type} (s0:σ) (f11:σ→AV) (TH:σ→Heap) (pre:σ→Prop) (μ:σ→Nat)
  (h0:pre s0∧AV.wk v11 (f11 s0)∧Heap.le (TH s0) H)
  (round:∀s,pre s→B94_0 K (fun w11 H'=>∃s',pre s'∧μ s' < μ s∧AV.wk w11 (f11 s')∧Heap.le (TH s') H') v1 v2 v9 v10 (f11 s) (TH s)) :
  L94_0 K v1 v2 v9 v10 v11 H:=by
 unfold L94_0
 exact LoopV.mk s0 (fun s=>[f11 s]) TH pre μ (fun _=>rfl) (Eq.mp (by kernel_rfl) h0) (fun s hs=>Eq.mp (by kernel_rfl) (round s hs))
def D95:Info:=⟨36,fun i=>([],[]),fun i=>if i=4 then ([9,18,19],[10,20]) else ([],[])⟩
def L95_0 (K:AV→Heap→Prop) (v9:AV) (v10:AV) (v18:AV) (v19:AV) (v20:AV) (H:Heap):Prop:=LoopV (wpC Tryz.prog tab D95 (cAt [1,1,1,0,1,0,0] (bO_ Tryz.f95))) [9,18,19] (PostF.block 0 (PostF.thenA (wpC Tryz.prog tab D95 (cAt [1,1,1,1] (bO_ Tryz.f95))) (retF tab [.tmp 8] K))) [10,20] [Q_,Q_,Q_,Q_,Q_,Q_,Q_,Q_,Q_,v9,v10,Q_,Q_,Q_,Q_,Q_,Q_,Q_,v18,v19,v20,Q_,Q_,Q_,Q_,Q_,Q_,Q_,Q_,Q_,Q_,Q_,Q_,Q_,Q_,Q_] H
def B95_0 (K:AV→Heap→Prop) (N1:AV→AV→Heap→Prop) (v9:AV) (v10:AV) (v18:AV) (v19:AV) (v20:AV) (H:Heap):Prop:=
 binV tab .lss 3 v20 v19 fun v21=>
 cV_ v21 (iA_ tab 22 v18 v20 fun v23=>
 lV_ tab 3 v23 H fun v24=>
 iA_ tab 116 v9 v24 fun v27=>
 lV_ tab 4 v27 H fun v28=>
 cV_ v28 (convV tab 3 111 v20 fun v31=>
 binV tab .shl 3 (AV.p (.int .i64 1)) v31 fun v32=>
 binV tab .or 3 v10 v32 fun v33=>
 binV tab .add 3 v20 (AV.p (.int .i64 1)) fun v34=>
 N1 v33 v34 H)
 (binV tab .add 3 v20 (AV.p (.int .i64 1)) fun v34=>
 N1 v10 v34 H))
 (K v10 H)
def W95 (v0:AV) (v1:AV) (v2:AV) (v3:AV) (H:Heap) (K:AV→Heap→Prop):Prop:=
 CallT Tryz.prog 124 [v0,v1,v2,v3] H fun v17 H1=>
 lenV tab 22 v1 fun v19=>
 L95_0 K v17 (AV.p (.int .i64 0)) v1 v19 (AV.p (.int .i64 0)) H1
theorem W95_wp (v0:AV) (v1:AV) (v2:AV) (v3:AV) (H:Heap) (K:AV→Heap→Prop):wpC Tryz.prog tab D95 (bO_ Tryz.f95) (retF tab [.tmp 8] K) (nthA [v0,v1,v2,v3]) H=W95 v0 v1 v2 v3 H K:=by kernel_rfl
theorem W95_ok {v0 v1 v2 v3:AV} {H:Heap} {K:AV→Heap→Prop} (h:W95 v0 v1 v2 v3 H K):CallT Tryz.prog 95 [v0,v1,v2,v3] H K:=
 CallT.of_wp (D:=D95) tO_ mixed Tryz.func95 (c:=bO_ Tryz.f95) (by kernel_rfl) rfl (by kernel_rfl) (rs:=#[.tmp 8]) rfl (by decide +kernel) (by kernel_rfl) (W95_wp v0 v1 v2 v3 H K) h
theorem L95_0_rule {K:AV→Heap→Prop} {v9 v10 v18 v19 v20:AV} {H:Heap} {σ:Type} (s0:σ) (f10:σ→AV) (f20:σ→AV) (TH:σ→Heap) (pre:σ→Prop) (μ:σ→Nat)
  (h0:pre s0∧AV.wk v10 (f10 s0)∧AV.wk v20 (f20 s0)∧Heap.le (TH s0) H)
  (round:∀s,pre s→B95_0 K (fun w10 w20 H'=>∃s',pre s'∧μ s' < μ s∧AV.wk w10 (f10 s')∧AV.wk w20 (f20 s')∧Heap.le (TH s') H') v9 (f10 s) v18 v19 (f20 s) (TH s)) :
  L95_0 K v9 v10 v18 v19 v20 H:=by
 unfold L95_0
 exact LoopV.mk s0 (fun s=>[f10 s,f20 s]) TH pre μ (fun _=>rfl) (Eq.mp (by kernel_rfl) h0) (fun s hs=>Eq.mp (by kernel_rfl) (round s hs))
def D97:Info:=⟨64,fun i=>([],[]),fun i=>if i=4 then ([0,5,6,17,18],[19]) else if i=8 then ([0,5],[6]) else if i=11 then ([0,5,37,38],[6,39]) else ([],[])⟩
def L97_0 (K:AV→Heap→Prop) (v0:AV) (v5:AV) (v6:AV) (v17:AV) (v18:AV) (v19:AV) (H:Heap):Prop:=LoopV (wpC Tryz.prog tab D97 (cAt [1,1,1,0,1,0,0] (bO_ Tryz.f97))) [0,5,6,17,18] (PostF.block 0 (PostF.thenA (wpC Tryz.prog tab D97 (cAt [1,1,1,1] (bO_ Tryz.f97))) (retF tab [.tmp 4] K))) [19] [v0,Q_,Q_,Q_,Q_,v5,v6,Q_,Q_,Q_,Q_,Q_,Q_,Q_,Q_,Q_,Q_,v17,v18,v19,Q_,Q_,Q_,Q_,Q_,Q_,Q_,Q_,Q_,Q_,Q_,Q_,Q_,Q_,Q_,Q_,Q_,Q_,Q_,Q_,Q_,Q_,Q_,Q_,Q_,Q_,Q_,Q_,Q_,Q_,Q_,Q_,Q_,Q_,Q_,Q_,Q_,Q_,Q_,Q_,Q_,Q_,Q_,Q_] H
def L97_1 (K:AV→Heap→Prop) (v0:AV) (v5:AV) (v6:AV) (H:Heap):Prop:=LoopV (wpC Tryz.prog tab D97 (cAt [1,1,1,1,0,0,0] (bO_ Tryz.f97))) [0,5] (PostF.block 2 (PostF.thenA (wpC Tryz.prog tab D97 (cAt [1,1,1,1,1] (bO_ Tryz.f97))) (retF tab [.tmp 4] K))) [6] [v0,Q_,Q_,Q_,Q_,v5,v6,Q_,Q_,Q_,Q_,Q_,Q_,Q_,Q_,Q_,Q_,Q_,Q_,Q_,Q_,Q_,Q_,Q_,Q_,Q_,Q_,Q_,Q_,Q_,Q_,Q_,Q_,Q_,Q_,Q_,Q_,Q_,Q_,Q_,Q_,Q_,Q_,Q_,Q_,Q_,Q_,Q_,Q_,Q_,Q_,Q_,Q_,Q_,Q_,Q_,Q_,Q_,Q_,Q_,Q_,Q_,Q_,Q_] H
def L97_2 (K:AV→Heap→Prop) (N1:AV→Heap→Prop) (v0:AV) (v5:AV) (v6:AV) (v37:AV) (v38:AV) (v39:AV) (H:Heap):Prop:=LoopV (wpC Tryz.prog tab D97 (cAt [1,1,1,1,0,0,0,1,0,0,1,0,0] (bO_ Tryz.f97))) [0,5,37,38] (PostF.block 4 (PostF.block 3 (PostF.thenA (wpC Tryz.prog tab D97 (cAt [1,1,1,1,0,0,0,1,1] (bO_ Tryz.f97))) (loopF (PostF.block 2 (PostF.thenA (wpC Tryz.prog tab D97 (cAt [1,1,1,1,1] (bO_ Tryz.f97))) (retF tab [.tmp 4] K))) (fun e h=>N1 (e 6) h))))) [6,39] [v0,Q_,Q_,Q_,Q_,v5,v6,Q_,Q_,Q_,Q_,Q_,Q_,Q_,Q_,Q_,Q_,Q_,Q_,Q_,Q_,Q_,Q_,Q_,Q_,Q_,Q_,Q_,Q_,Q_,Q_,Q_,Q_,Q_,Q_,Q_,Q_,v37,v38,v39,Q_,Q_,Q_,Q_,Q_,Q_,Q_,Q_,Q_,Q_,Q_,Q_,Q_,Q_,Q_,Q_,Q_,Q_,Q_,Q_,Q_,Q_,Q_,Q_] H
def B97_2 (K:AV→Heap→Prop) (N1:AV→Heap→Prop) (N2:AV→AV→Heap→Prop) (v0:AV) (v5:AV) (v6:AV) (v37:AV) (v38:AV) (v39:AV) (H:Heap):Prop:=
 binV tab .lss 3 v39 v38 fun v40=>
 cV_ v40 (iA_ tab 22 v37 v39 fun v41=>
 lV_ tab 3 v41 H fun v42=>
 iA_ tab 22 v5 v42 fun v45=>
 lV_ tab 3 v45 H fun v46=>
 binV tab .lss 3 v46 (AV.p (.int .i64 0)) fun v47=>
 cV_ v47 (iA_ tab 22 v6 (AV.p (.int .i64 0)) fun v52=>
 lV_ tab 3 v52 H fun v53=>
 iA_ tab 22 v5 v53 fun v54=>
 lV_ tab 3 v54 H fun v55=>
 binV tab .add 3 v55 (AV.p (.int .i64 1)) fun v56=>
 iA_ tab 22 v5 v42 fun v57=>
 sV_ tab 3 v57 v56 H fun H5=>
 bS_ tab 22 1 [(0,v42)] H5 (wkK fun v60 H6=>
 aP_ tab 22 22 v6 v60 H6 (wkK fun v61 H7=>
 binV tab .add 3 v39 (AV.p (.int .i64 1)) fun v62=>
 N2 v61 v62 H7)))
 (binV tab .add 3 v39 (AV.p (.int .i64 1)) fun v62=>
 N2 v6 v62 H))
 (sliceV tab 22 v6 (some (AV.p (.int .i64 1))) none none fun v31=>
 N1 v31 H)
def B97_1 (K:AV→Heap→Prop) (N1:AV→Heap→Prop) (v0:AV) (v5:AV) (v6:AV) (H:Heap):Prop:=
 lenV tab 22 v6 fun v28=>
 binV tab .gtr 3 v28 (AV.p (.int .i64 0)) fun v29=>
 cV_ v29 (iA_ tab 22 v6 (AV.p (.int .i64 0)) fun v34=>
 lV_ tab 3 v34 H fun v35=>
 iA_ tab 24 v0 v35 fun v36=>
 lV_ tab 22 v36 H fun v37=>
 lenV tab 22 v37 fun v38=>
 L97_2 K N1 v0 v5 v6 v37 v38 (AV.p (.int .i64 0)) H)
 (K v5 H)
def B97_0 (K:AV→Heap→Prop) (N1:AV→Heap→Prop) (v0:AV) (v5:AV) (v6:AV) (v17:AV) (v18:AV) (v19:AV) (H:Heap):Prop:=
 binV tab .lss 3 v19 v18 fun v20=>
 cV_ v20 (iA_ tab 22 v17 v19 fun v21=>
 lV_ tab 3 v21 H fun v22=>
 iA_ tab 22 v5 v22 fun v25=>
 sV_ tab 3 v25 (AV.p (.int .i64 0)) H fun H4=>
 binV tab .add 3 v19 (AV.p (.int .i64 1)) fun v26=>
 N1 v26 H4)
 (L97_1 K v0 v5 v6 H)
def W97 (v0:AV) (v1:AV) (H:Heap) (K:AV→Heap→Prop):Prop:=
 bS_ tab 22 1 [(0,(AV.p (.int .i64 (-1))))] H (wkK fun v11 H1=>
 lenV tab 24 v0 fun v13=>
 CallT Tryz.prog 117 [v11,v13] H1 fun v14 H2=>
 CallT Tryz.prog 82 [v1] H2 fun v16 H3=>
 lenV tab 22 v1 fun v18=>
 L97_0 K v0 v14 v16 v1 v18 (AV.p (.int .i64 0)) H3)
theorem W97_wp (v0:AV) (v1:AV) (H:Heap) (K:AV→Heap→Prop):wpC Tryz.prog tab D97 (bO_ Tryz.f97) (retF tab [.tmp 4] K) (nthA [v0,v1]) H=W97 v0 v1 H K:=by kernel_rfl
theorem W97_ok {v0 v1:AV} {H:Heap} {K:AV→Heap→Prop} (h:W97 v0 v1 H K):CallT Tryz.prog 97 [v0,v1] H K:=
 CallT.of_wp (D:=D97) tO_ mixed Tryz.func97 (c:=bO_ Tryz.f97) (by kernel_rfl) rfl (by kernel_rfl) (rs:=#[.tmp 4]) rfl (by decide +kernel) (by kernel_rfl) (W97_wp v0 v1 H K) h
theorem L97_2_rule {K:AV→Heap→Prop} {N1:AV→Heap→Prop} {v0 v5 v6 v37 v38 v39:AV} {H:Heap} {σ:Type} (s0:σ) (f6:σ→AV) (f39:σ→AV) (TH:σ→Heap) (pre:σ→Prop) (μ:σ→Nat)
  (h0:pre s0∧AV.wk v6 (f6 s0)∧AV.wk v39 (f39 s0)∧Heap.le (TH s0) H)
  (round:∀s,pre s→B97_2 K N1 (fun w6 w39 H'=>∃s',pre s'∧μ s' < μ s∧AV.wk w6 (f6 s')∧AV.wk w39 (f39 s')∧Heap.le (TH s') H') v0 v5 (f6 s) v37 v38 (f39 s) (TH s)) :
  L97_2 K N1 v0 v5 v6 v37 v38 v39 H:=by
 unfold L97_2
 exact LoopV.mk s0 (fun s=>[f6 s,f39 s]) TH pre μ (fun _=>rfl) (Eq.mp (by kernel_rfl) h0) (fun s hs=>Eq.mp (by kernel_rfl) (round s hs))
theorem L97_1_rule {K:AV→Heap→Prop} {v0 v5 v6:AV} {H:Heap} {σ:Type} (s0:σ) (f6:σ→AV) (TH:σ→Heap) (pre:σ→Prop) (μ:σ→Nat)
  (h0:pre s0∧AV.wk v6 (f6 s0)∧Heap.le (TH s0) H)
  (round:∀s,pre s→B97_1 K (fun w6 H'=>∃s',pre s'∧μ s' < μ s∧AV.wk w6 (f6 s')∧Heap.le (TH s') H') v0 v5 (f6 s) (TH s)) :
  L97_1 K v0 v5 v6 H:=by
 unfold L97_1
 exact LoopV.mk s0 (fun s=>[f6 s]) TH pre μ (fun _=>rfl) (Eq.mp (by kernel_rfl) h0) (fun s hs=>Eq.mp (by kernel_rfl) (round s hs))
theorem L97_0_rule {K:AV→Heap→Prop} {v0 v5 v6 v17 v18 v19:AV} {H:Heap} {σ:Type} (s0:σ) (f19:σ→AV) (TH:σ→Heap) (pre:σ→Prop) (μ:σ→Nat)
  (h0:pre s0∧AV.wk v19 (f19 s0)∧Heap.le (TH s0) H)
  (round:∀s,pre s→B97_0 K (fun w19 H'=>∃s',pre s'∧μ s' < μ s∧AV.wk w19 (f19 s')∧Heap.le (TH s') H') v0 v5 v6 v17 v18 (f19 s) (TH s)) :
  L97_0 K v0 v5 v6 v17 v18 v19 H:=by
 unfold L97_0
 exact LoopV.mk s0 (fun s=>[f19 s]) TH pre μ (fun _=>rfl) (Eq.mp (by kernel_rfl) h0) (fun s hs=>Eq.mp (by kernel_rfl) (round s hs))
def D98:Info:=⟨125,fun i=>if i=2 then ([[],[0],[],[2],[0,1],[0,1,2,3,4]],[(0,[]),(2,[]),(1,[3]),(4,[]),(3,[3]),(5,[])]) else if i=9 then ([[],[],[],[1,2],[1,2,3],[],[],[],[6,7],[6,7,8],[5,6,7,8,9],[5,6,7,8,9,10],[5,6,7,8,9,10,11],[5,6,7,8,9,10,11,12],[5,6,7,8,9,10,11,12],[5,6,7,8,9,10,11,12,13,14],[5,6,7,8,9,10,11,12,13,14,15],[5,6,7,8,9,10,11,12],[5,6,7,8,9,10,11,12],[5,6,7,8,9,10,11,12,17,18],[5,6,7,8,9,10,11,12,17,18,19],[5,6,7,8,9,10,11,12,13,14,15,16,17,18,19,20],[5,6,7,8,9,10,11,12,13,14,15,16,17,18,19,20,21],[0,1,2,3,4,5,6,7,8,9,10,11,12,13,14,15,16,17,18,19,20,21,22],[0,1,2,3,4,5,6,7,8,9,10,11,12,13,14,15,16,17,18,19,20,21,22,23]],[(0,[]),(1,[]),(2,[]),(3,[]),(4,[]),(5,[]),(6,[]),(7,[]),(8,[]),(9,[]),(10,[]),(11,[]),(12,[]),(13,[]),(14,[]),(15,[]),(16,[]),(17,[]),(18,[]),(19,[]),(20,[]),(21,[]),(22,[]),(23,[]),(24,[])]) else ([],[]),fun i=>if i=4 then ([1,5,6,7,8,28,29],[30]) else if i=7 then ([1,5,6,7,8,9,28,29,30,35,36],[37]) else if i=13 then ([5,6,7,8,67,68],[69]) else if i=17 then ([5,6,7,8,15,67,68,69,75,76],[77]) else if i=22 then ([5,6,7,8,15,67,68,69,89],[90]) else if i=28 then ([5,7,8,109],[110]) else ([],[])⟩
def L98_0 (K:AV→Heap→Prop) (v1:AV) (v5:AV) (v6:AV) (v7:AV) (v8:AV) (v28:AV) (v29:AV) (v30:AV) (H:Heap):Prop:=LoopV (wpC Tryz.prog tab D98 (cAt [1,1,1,0,1,0,0] (bO_ Tryz.f98))) [1,5,6,7,8,28,29] (PostF.block 0 (PostF.thenA (wpC Tryz.prog tab D98 (cAt [1,1,1,1] (bO_ Tryz.f98))) (retF tab [.tmp 4] K))) [30] [Q_,v1,Q_,Q_,Q_,v5,v6,v7,v8,Q_,Q_,Q_,Q_,Q_,Q_,Q_,Q_,Q_,Q_,Q_,Q_,Q_,Q_,Q_,Q_,Q_,Q_,Q_,v28,v29,v30,Q_,Q_,Q_,Q_,Q_,Q_,Q_,Q_,Q_,Q_,Q_,Q_,Q_,Q_,Q_,Q_,Q_,Q_,Q_,Q_,Q_,Q_,Q_,Q_,Q_,Q_,Q_,Q_,Q_,Q_,Q_,Q_,Q_,Q_,Q_,Q_,Q_,Q_,Q_,Q_,Q_,Q_,Q_,Q_,Q_,Q_,Q_,Q_,Q_,Q_,Q_,Q_,Q_,Q_,Q_,Q_,Q_,Q_,Q_,Q_,Q_,Q_,Q_,Q_,Q_,Q_,Q_,Q_,Q_,Q_,Q_,Q_,Q_,Q_,Q_,Q_,Q_,Q_,Q_,Q_,Q_,Q_,Q_,Q_,Q_,Q_,Q_,Q_,Q_,Q_,Q_,Q_,Q_,Q_] H
def L98_1 (K:AV→Heap→Prop) (N1:AV→Heap→Prop) (v1:AV) (v5:AV) (v6:AV) (v7:AV) (v8:AV) (v9:AV) (v28:AV) (v29:AV) (v30:AV) (v35:AV) (v36:AV) (v37:AV) (H:Heap):Prop:=LoopV (wpC Tryz.prog tab D98 (cAt [1,1,1,0,1,0,0,1,1,0,0,1,1,0,0] (bO_ Tryz.f98))) [1,5,6,7,8,9,28,29,30,35,36] (PostF.block 2 (PostF.block 1 (PostF.thenA (wpC Tryz.prog tab D98 (cAt [1,1,1,0,1,0,0,1,1,1] (bO_ Tryz.f98))) (loopF (PostF.block 0 (PostF.thenA (wpC Tryz.prog tab D98 (cAt [1,1,1,1] (bO_ Tryz.f98))) (retF tab [.tmp 4] K))) (fun e h=>N1 (e 30) h))))) [37] [Q_,v1,Q_,Q_,Q_,v5,v6,v7,v8,v9,Q_,Q_,Q_,Q_,Q_,Q_,Q_,Q_,Q_,Q_,Q_,Q_,Q_,Q_,Q_,Q_,Q_,Q_,v28,v29,v30,Q_,Q_,Q_,Q_,v35,v36,v37,Q_,Q_,Q_,Q_,Q_,Q_,Q_,Q_,Q_,Q_,Q_,Q_,Q_,Q_,Q_,Q_,Q_,Q_,Q_,Q_,Q_,Q_,Q_,Q_,Q_,Q_,Q_,Q_,Q_,Q_,Q_,Q_,Q_,Q_,Q_,Q_,Q_,Q_,Q_,Q_,Q_,Q_,Q_,Q_,Q_,Q_,Q_,Q_,Q_,Q_,Q_,Q_,Q_,Q_,Q_,Q_,Q_,Q_,Q_,Q_,Q_,Q_,Q_,Q_,Q_,Q_,Q_,Q_,Q_,Q_,Q_,Q_,Q_,Q_,Q_,Q_,Q_,Q_,Q_,Q_,Q_,Q_,Q_,Q_,Q_,Q_,Q_] H
def B98_1 (K:AV→Heap→Prop) (N1:AV→Heap→Prop) (N2:AV→Heap→Prop) (v1:AV) (v5:AV) (v6:AV) (v7:AV) (v8:AV) (v9:AV) (v28:AV) (v29:AV) (v30:AV) (v35:AV) (v36:AV) (v37:AV) (H:Heap):Prop:=
 binV tab .lss 3 v37 v36 fun v38=>
 cV_ v38 (iA_ tab 22 v35 v37 fun v39=>
 lV_ tab 3 v39 H fun v40=>
 iA_ tab 22 v5 v9 fun v44=>
 lV_ tab 3 v44 H fun v45=>
 iA_ tab 22 v5 v9 fun v49=>
 lV_ tab 3 v49 H fun v50=>
 iA_ tab 116 v7 v50 fun v51=>
 lV_ tab 4 v51 H fun v52=>
 grdV v52 false (iA_ tab 22 v5 v40 fun v56=>
 lV_ tab 3 v56 H fun v57=>
 iA_ tab 22 v5 v9 fun v60=>
 lV_ tab 3 v60 H fun v61=>
 binV tab .eql 3 v57 v61 fun v62=>
 iA_ tab 116 v7 v45 fun v64=>
 sV_ tab 4 v64 v62 H fun H4=>
 binV tab .add 3 v37 (AV.p (.int .i64 1)) fun v65=>
 N2 v65 H4)
 (iA_ tab 116 v7 v45 fun v64=>
 sV_ tab 4 v64 (AV.p (.bool true)) H fun H5=>
 binV tab .add 3 v37 (AV.p (.int .i64 1)) fun v65=>
 N2 v65 H5))
 (binV tab .add 3 v30 (AV.p (.int .i64 1)) fun v66=>
 N1 v66 H)
def L98_2 (K:AV→Heap→Prop) (v5:AV) (v6:AV) (v7:AV) (v8:AV) (v67:AV) (v68:AV) (v69:AV) (H:Heap):Prop:=LoopV (wpC Tryz.prog tab D98 (cAt [1,1,1,1,0,1,0,0] (bO_ Tryz.f98))) [5,6,7,8,67,68] (PostF.block 4 (PostF.thenA (wpC Tryz.prog tab D98 (cAt [1,1,1,1,1] (bO_ Tryz.f98))) (retF tab [.tmp 4] K))) [69] [Q_,Q_,Q_,Q_,Q_,v5,v6,v7,v8,Q_,Q_,Q_,Q_,Q_,Q_,Q_,Q_,Q_,Q_,Q_,Q_,Q_,Q_,Q_,Q_,Q_,Q_,Q_,Q_,Q_,Q_,Q_,Q_,Q_,Q_,Q_,Q_,Q_,Q_,Q_,Q_,Q_,Q_,Q_,Q_,Q_,Q_,Q_,Q_,Q_,Q_,Q_,Q_,Q_,Q_,Q_,Q_,Q_,Q_,Q_,Q_,Q_,Q_,Q_,Q_,Q_,Q_,v67,v68,v69,Q_,Q_,Q_,Q_,Q_,Q_,Q_,Q_,Q_,Q_,Q_,Q_,Q_,Q_,Q_,Q_,Q_,Q_,Q_,Q_,Q_,Q_,Q_,Q_,Q_,Q_,Q_,Q_,Q_,Q_,Q_,Q_,Q_,Q_,Q_,Q_,Q_,Q_,Q_,Q_,Q_,Q_,Q_,Q_,Q_,Q_,Q_,Q_,Q_,Q_,Q_,Q_,Q_,Q_,Q_] H
def L98_3 (K:AV→Heap→Prop) (N1:AV→Heap→Prop) (v5:AV) (v6:AV) (v7:AV) (v8:AV) (v15:AV) (v67:AV) (v68:AV) (v69:AV) (v75:AV) (v76:AV) (v77:AV) (H:Heap):Prop:=LoopV (wpC Tryz.prog tab D98 (cAt [1,1,1,1,0,1,0,0,1,1,0,0,1,1,0,1,0,0] (bO_ Tryz.f98))) [5,6,7,8,15,67,68,69,75,76] (PostF.block 6 (PostF.thenA (wpC Tryz.prog tab D98 (cAt [1,1,1,1,0,1,0,0,1,1,0,0,1,1,1] (bO_ Tryz.f98))) (PostF.block 5 (PostF.thenA (wpC Tryz.prog tab D98 (cAt [1,1,1,1,0,1,0,0,1,1,1] (bO_ Tryz.f98))) (loopF (PostF.block 4 (PostF.thenA (wpC Tryz.prog tab D98 (cAt [1,1,1,1,1] (bO_ Tryz.f98))) (retF tab [.tmp 4] K))) (fun e h=>N1 (e 69) h)))))) [77] [Q_,Q_,Q_,Q_,Q_,v5,v6,v7,v8,Q_,Q_,Q_,Q_,Q_,Q_,v15,Q_,Q_,Q_,Q_,Q_,Q_,Q_,Q_,Q_,Q_,Q_,Q_,Q_,Q_,Q_,Q_,Q_,Q_,Q_,Q_,Q_,Q_,Q_,Q_,Q_,Q_,Q_,Q_,Q_,Q_,Q_,Q_,Q_,Q_,Q_,Q_,Q_,Q_,Q_,Q_,Q_,Q_,Q_,Q_,Q_,Q_,Q_,Q_,Q_,Q_,Q_,v67,v68,v69,Q_,Q_,Q_,Q_,Q_,v75,v76,v77,Q_,Q_,Q_,Q_,Q_,Q_,Q_,Q_,Q_,Q_,Q_,Q_,Q_,Q_,Q_,Q_,Q_,Q_,Q_,Q_,Q_,Q_,Q_,Q_,Q_,Q_,Q_,Q_,Q_,Q_,Q_,Q_,Q_,Q_,Q_,Q_,Q_,Q_,Q_,Q_,Q_,Q_,Q_,Q_,Q_,Q_,Q_] H
def L98_4 (K:AV→Heap→Prop) (N1:AV→Heap→Prop) (v5:AV) (v6:AV) (v7:AV) (v8:AV) (v15:AV) (v67:AV) (v68:AV) (v69:AV) (v89:AV) (v90:AV) (H:Heap):Prop:=LoopV (wpC Tryz.prog tab D98 (cAt [1,1,1,1,0,1,0,0,1,1,0,0,1,1,1,1,0,0] (bO_ Tryz.f98))) [5,6,7,8,15,67,68,69,89] (PostF.block 8 (PostF.block 5 (PostF.thenA (wpC Tryz.prog tab D98 (cAt [1,1,1,1,0,1,0,0,1,1,1] (bO_ Tryz.f98))) (loopF (PostF.block 4 (PostF.thenA (wpC Tryz.prog tab D98 (cAt [1,1,1,1,1] (bO_ Tryz.f98))) (retF tab [.tmp 4] K))) (fun e h=>N1 (e 69) h))))) [90] [Q_,Q_,Q_,Q_,Q_,v5,v6,v7,v8,Q_,Q_,Q_,Q_,Q_,Q_,v15,Q_,Q_,Q_,Q_,Q_,Q_,Q_,Q_,Q_,Q_,Q_,Q_,Q_,Q_,Q_,Q_,Q_,Q_,Q_,Q_,Q_,Q_,Q_,Q_,Q_,Q_,Q_,Q_,Q_,Q_,Q_,Q_,Q_,Q_,Q_,Q_,Q_,Q_,Q_,Q_,Q_,Q_,Q_,Q_,Q_,Q_,Q_,Q_,Q_,Q_,Q_,v67,v68,v69,Q_,Q_,Q_,Q_,Q_,Q_,Q_,Q_,Q_,Q_,Q_,Q_,Q_,Q_,Q_,Q_,Q_,Q_,Q_,v89,v90,Q_,Q_,Q_,Q_,Q_,Q_,Q_,Q_,Q_,Q_,Q_,Q_,Q_,Q_,Q_,Q_,Q_,Q_,Q_,Q_,Q_,Q_,Q_,Q_,Q_,Q_,Q_,Q_,Q_,Q_,Q_,Q_,Q_,Q_] H
def B98_4 (K:AV→Heap→Prop) (N1:AV→Heap→Prop) (N2:AV→Heap→Prop) (v5:AV) (v6:AV) (v7:AV) (v8:AV) (v15:AV) (v67:AV) (v68:AV) (v69:AV) (v89:AV) (v90:AV) (H:Heap):Prop:=
 binV tab .lss 3 v90 v89 fun v91=>
 cV_ v91 (iA_ tab 116 v7 v90 fun v97=>
 lV_ tab 4 v97 H fun v98=>
 grdV v98 true (iA_ tab 116 v15 v90 fun v102=>
 lV_ tab 4 v102 H fun v103=>
 iA_ tab 116 v7 v90 fun v105=>
 sV_ tab 4 v105 v103 H fun H8=>
 binV tab .add 3 v90 (AV.p (.int .i64 1)) fun v106=>
 N2 v106 H8)
 (iA_ tab 116 v7 v90 fun v105=>
 sV_ tab 4 v105 (AV.p (.bool false)) H fun H9=>
 binV tab .add 3 v90 (AV.p (.int .i64 1)) fun v106=>
 N2 v106 H9))
 (binV tab .add 3 v69 (AV.p (.int .i64 1)) fun v107=>
 N1 v107 H)
def B98_3 (K:AV→Heap→Prop) (N1:AV→Heap→Prop) (N2:AV→Heap→Prop) (v5:AV) (v6:AV) (v7:AV) (v8:AV) (v15:AV) (v67:AV) (v68:AV) (v69:AV) (v75:AV) (v76:AV) (v77:AV) (H:Heap):Prop:=
 binV tab .lss 3 v77 v76 fun v78=>
 cV_ v78 (iA_ tab 22 v75 v77 fun v79=>
 lV_ tab 3 v79 H fun v80=>
 iA_ tab 22 v5 v80 fun v84=>
 lV_ tab 3 v84 H fun v85=>
 iA_ tab 116 v15 v85 fun v86=>
 sV_ tab 4 v86 (AV.p (.bool true)) H fun H7=>
 binV tab .add 3 v77 (AV.p (.int .i64 1)) fun v87=>
 N2 v87 H7)
 (lenV tab 116 v7 fun v89=>
 L98_4 K N1 v5 v6 v7 v8 v15 v67 v68 v69 v89 (AV.p (.int .i64 0)) H)
def L98_5 (K:AV→Heap→Prop) (v5:AV) (v7:AV) (v8:AV) (v109:AV) (v110:AV) (H:Heap):Prop:=LoopV (wpC Tryz.prog tab D98 (cAt [1,1,1,1,1,0,1,0,0] (bO_ Tryz.f98))) [5,7,8,109] (PostF.block 10 (PostF.thenA (wpC Tryz.prog tab D98 (cAt [1,1,1,1,1,1] (bO_ Tryz.f98))) (retF tab [.tmp 4] K))) [110] [Q_,Q_,Q_,Q_,Q_,v5,Q_,v7,v8,Q_,Q_,Q_,Q_,Q_,Q_,Q_,Q_,Q_,Q_,Q_,Q_,Q_,Q_,Q_,Q_,Q_,Q_,Q_,Q_,Q_,Q_,Q_,Q_,Q_,Q_,Q_,Q_,Q_,Q_,Q_,Q_,Q_,Q_,Q_,Q_,Q_,Q_,Q_,Q_,Q_,Q_,Q_,Q_,Q_,Q_,Q_,Q_,Q_,Q_,Q_,Q_,Q_,Q_,Q_,Q_,Q_,Q_,Q_,Q_,Q_,Q_,Q_,Q_,Q_,Q_,Q_,Q_,Q_,Q_,Q_,Q_,Q_,Q_,Q_,Q_,Q_,Q_,Q_,Q_,Q_,Q_,Q_,Q_,Q_,Q_,Q_,Q_,Q_,Q_,Q_,Q_,Q_,Q_,Q_,Q_,Q_,Q_,Q_,Q_,v109,v110,Q_,Q_,Q_,Q_,Q_,Q_,Q_,Q_,Q_,Q_,Q_,Q_,Q_,Q_] H
def B98_5 (K:AV→Heap→Prop) (N1:AV→Heap→Prop) (v5:AV) (v7:AV) (v8:AV) (v109:AV) (v110:AV) (H:Heap):Prop:=
 binV tab .lss 3 v110 v109 fun v111=>
 cV_ v111 (iA_ tab 22 v5 v110 fun v118=>
 lV_ tab 3 v118 H fun v119=>
 iA_ tab 116 v7 v119 fun v120=>
 lV_ tab 4 v120 H fun v121=>
 iA_ tab 116 v8 v110 fun v122=>
 sV_ tab 4 v122 v121 H fun H10=>
 binV tab .add 3 v110 (AV.p (.int .i64 1)) fun v123=>
 N1 v123 H10)
 (K v8 H)
def B98_2 (K:AV→Heap→Prop) (N1:AV→Heap→Prop) (v5:AV) (v6:AV) (v7:AV) (v8:AV) (v67:AV) (v68:AV) (v69:AV) (H:Heap):Prop:=
 binV tab .lss 3 v69 v68 fun v70=>
 cV_ v70 (iA_ tab 24 v67 v69 fun v71=>
 lV_ tab 22 v71 H fun v72=>
 mS_ tab 116 v6 v6 H fun v74 H6=>
 lenV tab 22 v72 fun v76=>
 L98_3 K N1 v5 v6 v7 v8 v74 v67 v68 v69 v72 v76 (AV.p (.int .i64 0)) H6)
 (lenV tab 116 v8 fun v109=>
 L98_5 K v5 v7 v8 v109 (AV.p (.int .i64 0)) H)
def B98_0 (K:AV→Heap→Prop) (N1:AV→Heap→Prop) (v1:AV) (v5:AV) (v6:AV) (v7:AV) (v8:AV) (v28:AV) (v29:AV) (v30:AV) (H:Heap):Prop:=
 binV tab .lss 3 v30 v29 fun v31=>
 cV_ v31 (iA_ tab 24 v28 v30 fun v33=>
 lV_ tab 22 v33 H fun v34=>
 lenV tab 22 v34 fun v36=>
 L98_1 K N1 v1 v5 v6 v7 v8 v30 v28 v29 v30 v34 v36 (AV.p (.int .i64 0)) H)
 (lenV tab 24 v1 fun v68=>
 L98_2 K v5 v6 v7 v8 v1 v68 (AV.p (.int .i64 0)) H)
def W98 (v0:AV) (v1:AV) (H:Heap) (K:AV→Heap→Prop):Prop:=
 CallT Tryz.prog 79 [v0] H fun v21 H1=>
 lenV tab 24 v0 fun v23=>
 safeV (makeN tab 116 v23 v23)∧
 mS_ tab 116 v23 v23 H1 fun v25 H2=>
 newV (makeN tab 116 v23 v23) H2 fun v27 H3=>
 lenV tab 24 v0 fun v29=>
 L98_0 K v1 v21 v23 v25 v27 v0 v29 (AV.p (.int .i64 0)) H3
theorem W98_wp (v0:AV) (v1:AV) (H:Heap) (K:AV→Heap→Prop):wpC Tryz.prog tab D98 (bO_ Tryz.f98) (retF tab [.tmp 4] K) (nthA [v0,v1]) H=W98 v0 v1 H K:=by kernel_rfl
theorem W98_ok {v0 v1:AV} {H:Heap} {K:AV→Heap→Prop} (h:W98 v0 v1 H K):CallT Tryz.prog 98 [v0,v1] H K:=
 CallT.of_wp (D:=D98) tO_ mixed Tryz.func98 (c:=bO_ Tryz.f98) (by kernel_rfl) rfl (by kernel_rfl) (rs:=#[.tmp 4]) rfl (by decide +kernel) (by kernel_rfl) (W98_wp v0 v1 H K) h
theorem L98_1_rule {K:AV→Heap→Prop} {N1:AV→Heap→Prop} {v1 v5 v6 v7 v8 v9 v28 v29 v30 v35 v36 v37:AV} {H:Heap} {σ:Type} (s0:σ) (f37:σ→AV) (TH:σ→Heap) (pre:σ→Prop) (μ:σ→Nat)
  (h0:pre s0∧AV.wk v37 (f37 s0)∧Heap.le (TH s0) H)
  (round:∀s,pre s→B98_1 K N1 (fun w37 H'=>∃s',pre s'∧μ s' < μ s∧AV.wk w37 (f37 s')∧Heap.le (TH s') H') v1 v5 v6 v7 v8 v9 v28 v29 v30 v35 v36 (f37 s) (TH s)) :
  L98_1 K N1 v1 v5 v6 v7 v8 v9 v28 v29 v30 v35 v36 v37 H:=by
 unfold L98_1
 exact LoopV.mk s0 (fun s=>[f37 s]) TH pre μ (fun _=>rfl) (Eq.mp (by kernel_rfl) h0) (fun s hs=>Eq.mp (by kernel_rfl) (round s hs))
theorem L98_4_rule {K:AV→Heap→Prop} {N1:AV→Heap→Prop} {v5 v6 v7 v8 v15 v67 v68 v69 v89 v90:AV} {H:Heap} {σ:Type} (s0:σ) (f90:σ→AV) (TH:σ→Heap) (pre:σ→Prop) (μ:σ→Nat)
  (h0:pre s0∧AV.wk v90 (f90 s0)∧Heap.le (TH s0) H)
  (round:∀s,pre s→B98_4 K N1 (fun w90 H'=>∃s',pre s'∧μ s' < μ s∧AV.wk w90 (f90 s')∧Heap.le (TH s') H') v5 v6 v7 v8 v15 v67 v68 v69 v89 (f90 s) (TH s)) :
  L98_4 K N1 v5 v6 v7 v8 v15 v67 v68 v69 v89 v90 H:=by
 unfold L98_4
 exact LoopV.mk s0 (fun s=>[f90 s]) TH pre μ (fun _=>rfl) (Eq.mp (by kernel_rfl) h0) (fun s hs=>Eq.mp (by kernel_rfl) (round s hs))
theorem L98_3_rule {K:AV→Heap→Prop} {N1:AV→Heap→Prop} {v5 v6 v7 v8 v15 v67 v68 v69 v75 v76 v77:AV} {H:Heap} {σ:Type} (s0:σ) (f77:σ→AV) (TH:σ→Heap) (pre:σ→Prop) (μ:σ→Nat)
  (h0:pre s0∧AV.wk v77 (f77 s0)∧Heap.le (TH s0) H)
  (round:∀s,pre s→B98_3 K N1 (fun w77 H'=>∃s',pre s'∧μ s' < μ s∧AV.wk w77 (f77 s')∧Heap.le (TH s') H') v5 v6 v7 v8 v15 v67 v68 v69 v75 v76 (f77 s) (TH s)) :
  L98_3 K N1 v5 v6 v7 v8 v15 v67 v68 v69 v75 v76 v77 H:=by
 unfold L98_3
 exact LoopV.mk s0 (fun s=>[f77 s]) TH pre μ (fun _=>rfl) (Eq.mp (by kernel_rfl) h0) (fun s hs=>Eq.mp (by kernel_rfl) (round s hs))
theorem L98_5_rule {K:AV→Heap→Prop} {v5 v7 v8 v109 v110:AV} {H:Heap} {σ:Type} (s0:σ) (f110:σ→AV) (TH:σ→Heap) (pre:σ→Prop) (μ:σ→Nat)
  (h0:pre s0∧AV.wk v110 (f110 s0)∧Heap.le (TH s0) H)
  (round:∀s,pre s→B98_5 K (fun w110 H'=>∃s',pre s'∧μ s' < μ s∧AV.wk w110 (f110 s')∧Heap.le (TH s') H') v5 v7 v8 v109 (f110 s) (TH s)) :
  L98_5 K v5 v7 v8 v109 v110 H:=by
 unfold L98_5
 exact LoopV.mk s0 (fun s=>[f110 s]) TH pre μ (fun _=>rfl) (Eq.mp (by kernel_rfl) h0) (fun s hs=>Eq.mp (by kernel_rfl) (round s hs))
theorem L98_2_rule {K:AV→Heap→Prop} {v5 v6 v7 v8 v67 v68 v69:AV} {H:Heap} {σ:Type} (s0:σ) (f69:σ→AV) (TH:σ→Heap) (pre:σ→Prop) (μ:σ→Nat)
  (h0:pre s0∧AV.wk v69 (f69 s0)∧Heap.le (TH s0) H)
  (round:∀s,pre s→B98_2 K (fun w69 H'=>∃s',pre s'∧μ s' < μ s∧AV.wk w69 (f69 s')∧Heap.le (TH s') H') v5 v6 v7 v8 v67 v68 (f69 s) (TH s)) :
  L98_2 K v5 v6 v7 v8 v67 v68 v69 H:=by
 unfold L98_2
 exact LoopV.mk s0 (fun s=>[f69 s]) TH pre μ (fun _=>rfl) (Eq.mp (by kernel_rfl) h0) (fun s hs=>Eq.mp (by kernel_rfl) (round s hs))
theorem L98_0_rule {K:AV→Heap→Prop} {v1 v5 v6 v7 v8 v28 v29 v30:AV} {H:Heap} {σ:Type} (s0:σ) (f30:σ→AV) (TH:σ→Heap) (pre:σ→Prop) (μ:σ→Nat)
  (h0:pre s0∧AV.wk v30 (f30 s0)∧Heap.le (TH s0) H)
  (round:∀s,pre s→B98_0 K (fun w30 H'=>∃s',pre s'∧μ s' < μ s∧AV.wk w30 (f30 s')∧Heap.le (TH s') H') v1 v5 v6 v7 v8 v28 v29 (f30 s) (TH s)) :
  L98_0 K v1 v5 v6 v7 v8 v28 v29 v30 H:=by
 unfold L98_0
 exact LoopV.mk s0 (fun s=>[f30 s]) TH pre μ (fun _=>rfl) (Eq.mp (by kernel_rfl) h0) (fun s hs=>Eq.mp (by kernel_rfl) (round s hs))
def D99:Info:=⟨39,fun i=>([],[]),fun i=>if i=5 then ([15,16],[3,17]) else ([],[])⟩
def L99_0 (K:AV→Heap→Prop) (v3:AV) (v15:AV) (v16:AV) (v17:AV) (H:Heap):Prop:=LoopV (wpC Tryz.prog tab D99 (cAt [1,1,1,0,1,0,0] (bO_ Tryz.f99))) [15,16] (PostF.block 0 (PostF.thenA (wpC Tryz.prog tab D99 (cAt [1,1,1,1] (bO_ Tryz.f99))) (retF tab [.tmp 2] K))) [3,17] [Q_,Q_,Q_,v3,Q_,Q_,Q_,Q_,Q_,Q_,Q_,Q_,Q_,Q_,Q_,v15,v16,v17,Q_,Q_,Q_,Q_,Q_,Q_,Q_,Q_,Q_,Q_,Q_,Q_,Q_,Q_,Q_,Q_,Q_,Q_,Q_,Q_,Q_] H
def B99_0 (K:AV→Heap→Prop) (N1:AV→AV→Heap→Prop) (v3:AV) (v15:AV) (v16:AV) (v17:AV) (H:Heap):Prop:=
 binV tab .lss 3 v17 v16 fun v18=>
 cV_ v18 (iA_ tab 45 v15 v17 fun v19=>
 lV_ tab 76 v19 H fun v20=>
 allocV tab 76 H fun v5 H1=>
 sV_ tab 76 v5 v20 H1 fun H2=>
 fA_ tab 76 v5 0 fun v21=>
 lV_ tab 3 v21 H2 fun v22=>
 CallT Tryz.prog 125 [v22] H2 fun v23 H3=>
 lV_ tab 76 v5 H3 fun v24=>
 CallT Tryz.prog 126 [v24] H3 fun v25 H4=>
 unV .not v25 fun v26=>
 grdV v26 false (binV tab .lss 3 v3 v23 fun v30=>
 cV_ v30 (K (AV.p (.bool false)) H4)
 (binV tab .sub 3 (AV.p (.int .i64 1)) v23 fun v34=>
 binV tab .add 3 v3 v34 fun v35=>
 binV tab .add 3 v17 (AV.p (.int .i64 1)) fun v36=>
 N1 v35 v36 H4))
 (K (AV.p (.bool false)) H4))
 (binV tab .eql 3 v3 (AV.p (.int .i64 1)) fun v38=>
 K v38 H)
def W99 (v0:AV) (H:Heap) (K:AV→Heap→Prop):Prop:=
 lenV tab 45 v0 fun v8=>
 binV tab .lss 3 v8 (AV.p (.int .i64 1)) fun v9=>
 grdV v9 false (lenV tab 45 v0 fun v12=>
 binV tab .gtr 3 v12 (AV.p (.int .i64 16)) fun v13=>
 cV_ v13 (K (AV.p (.bool false)) H)
 (lenV tab 45 v0 fun v16=>
 L99_0 K (AV.p (.int .i64 0)) v0 v16 (AV.p (.int .i64 0)) H))
 (K (AV.p (.bool false)) H)
theorem W99_wp (v0:AV) (H:Heap) (K:AV→Heap→Prop):wpC Tryz.prog tab D99 (bO_ Tryz.f99) (retF tab [.tmp 2] K) (nthA [v0]) H=W99 v0 H K:=by kernel_rfl
theorem W99_ok {v0:AV} {H:Heap} {K:AV→Heap→Prop} (h:W99 v0 H K):CallT Tryz.prog 99 [v0] H K:=
 CallT.of_wp (D:=D99) tO_ mixed Tryz.func99 (c:=bO_ Tryz.f99) (by kernel_rfl) rfl (by kernel_rfl) (rs:=#[.tmp 2]) rfl (by decide +kernel) (by kernel_rfl) (W99_wp v0 H K) h
theorem L99_0_rule {K:AV→Heap→Prop} {v3 v15 v16 v17:AV} {H:Heap} {σ:Type} (s0:σ) (f3:σ→AV) (f17:σ→AV) (TH:σ→Heap) (pre:σ→Prop) (μ:σ→Nat)
  (h0:pre s0∧AV.wk v3 (f3 s0)∧AV.wk v17 (f17 s0)∧Heap.le (TH s0) H)
  (round:∀s,pre s→B99_0 K (fun w3 w17 H'=>∃s',pre s'∧μ s' < μ s∧AV.wk w3 (f3 s')∧AV.wk w17 (f17 s')∧Heap.le (TH s') H') (f3 s) v15 v16 (f17 s) (TH s)) :
  L99_0 K v3 v15 v16 v17 H:=by
 unfold L99_0
 exact LoopV.mk s0 (fun s=>[f3 s,f17 s]) TH pre μ (fun _=>rfl) (Eq.mp (by kernel_rfl) h0) (fun s hs=>Eq.mp (by kernel_rfl) (round s hs))
end Go.Proofs.YtolffbcnbcjeaaaGreat
