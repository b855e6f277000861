/- Texts laid together: W7 W8 WA Lb0 Lr8 Lb1a Lb3 Pt1 Le1 Le2 Pm1 Ma1. -/
import Derived.Test.YtohkciilfkhomaaPB4
import Derived.KernelRfl
set_option linter.unusedVariables false
set_option linter.unusedSimpArgs false
open Go.Sep.AV renaming any → Q_
open Nat renaming reduceAdd→ν1,reduceLeDiff→ν2,reduceLT→ν3,reduceMul→ν4,reduceSub→ν5
open Int renaming reduceToNat→ι1,reduceSub→ι2,reduceAdd→ι3,reduceNeg→ι4
open Array renaming toList→ι5
open Ne renaming symm→ν6
open List renaming forall_mem_cons→ν7
namespace Go.Proofs.Ytohkciilfkhomaa
open Go Go.Sep
attribute [local irreducible] wpC headF
def D71:Info:=⟨73,fun i=>([],[]),fun i=>if i=3 then ([0,1,5,17],[18]) else if i=8 then ([0,1,5,25,26],[27]) else if i=13 then ([0,5],[9]) else if i=17 then ([0,5,10,48,49],[9,50]) else ([],[])⟩
def L71_0 (K:AV→Heap→Prop) (v0:AV) (v1:AV) (v5:AV) (v17:AV) (v18:AV) (H:Heap):Prop:=LoopV (wpC Try.prog tab D71 (cAt [1,1,0,1,0,0] (bO_ Try.f71))) [0,1,5,17] (PostF.block 0 (PostF.thenA (wpC Try.prog tab D71 (cAt [1,1,1] (bO_ Try.f71))) (retF tab [.tmp 4] K))) [18] [v0,v1,Q_,Q_,Q_,v5,Q_,Q_,Q_,Q_,Q_,Q_,Q_,Q_,Q_,Q_,Q_,v17,v18,Q_,Q_,Q_,Q_,Q_,Q_,Q_,Q_,Q_,Q_,Q_,Q_,Q_,Q_,Q_,Q_,Q_,Q_,Q_,Q_,Q_,Q_,Q_,Q_,Q_,Q_,Q_,Q_,Q_,Q_,Q_,Q_,Q_,Q_,Q_,Q_,Q_,Q_,Q_,Q_,Q_,Q_,Q_,Q_,Q_,Q_,Q_,Q_,Q_,Q_,Q_,Q_,Q_,Q_] H
def L71_1 (K:AV→Heap→Prop) (v0:AV) (v1:AV) (v5:AV) (v25:AV) (v26:AV) (v27:AV) (H:Heap):Prop:=LoopV (wpC Try.prog tab D71 (cAt [1,1,1,0,1,0,0] (bO_ Try.f71))) [0,1,5,25,26] (PostF.block 2 (PostF.thenA (wpC Try.prog tab D71 (cAt [1,1,1,1] (bO_ Try.f71))) (retF tab [.tmp 4] K))) [27] [v0,v1,Q_,Q_,Q_,v5,Q_,Q_,Q_,Q_,Q_,Q_,Q_,Q_,Q_,Q_,Q_,Q_,Q_,Q_,Q_,Q_,Q_,Q_,Q_,v25,v26,v27,Q_,Q_,Q_,Q_,Q_,Q_,Q_,Q_,Q_,Q_,Q_,Q_,Q_,Q_,Q_,Q_,Q_,Q_,Q_,Q_,Q_,Q_,Q_,Q_,Q_,Q_,Q_,Q_,Q_,Q_,Q_,Q_,Q_,Q_,Q_,Q_,Q_,Q_,Q_,Q_,Q_,Q_,Q_,Q_,Q_] H
def L71_2 (K:AV→Heap→Prop) (v0:AV) (v5:AV) (v9:AV) (H:Heap):Prop:=LoopV (wpC Try.prog tab D71 (cAt [1,1,1,1,1,0,0,0] (bO_ Try.f71))) [0,5] (PostF.block 4 (PostF.thenA (wpC Try.prog tab D71 (cAt [1,1,1,1,1,1] (bO_ Try.f71))) (retF tab [.tmp 4] K))) [9] [v0,Q_,Q_,Q_,Q_,v5,Q_,Q_,Q_,v9,Q_,Q_,Q_,Q_,Q_,Q_,Q_,Q_,Q_,Q_,Q_,Q_,Q_,Q_,Q_,Q_,Q_,Q_,Q_,Q_,Q_,Q_,Q_,Q_,Q_,Q_,Q_,Q_,Q_,Q_,Q_,Q_,Q_,Q_,Q_,Q_,Q_,Q_,Q_,Q_,Q_,Q_,Q_,Q_,Q_,Q_,Q_,Q_,Q_,Q_,Q_,Q_,Q_,Q_,Q_,Q_,Q_,Q_,Q_,Q_,Q_,Q_,Q_] H
def L71_3 (K:AV→Heap→Prop) (N1:AV→Heap→Prop) (v0:AV) (v5:AV) (v9:AV) (v10:AV) (v48:AV) (v49:AV) (v50:AV) (H:Heap):Prop:=LoopV (wpC Try.prog tab D71 (cAt [1,1,1,1,1,0,0,0,1,0,1,1,1,0,0] (bO_ Try.f71))) [0,5,10,48,49] (PostF.block 6 (PostF.block 5 (loopF (PostF.block 4 (PostF.thenA (wpC Try.prog tab D71 (cAt [1,1,1,1,1,1] (bO_ Try.f71))) (retF tab [.tmp 4] K))) (fun e h=>N1 (e 9) h)))) [9,50] [v0,Q_,Q_,Q_,Q_,v5,Q_,Q_,Q_,v9,v10,Q_,Q_,Q_,Q_,Q_,Q_,Q_,Q_,Q_,Q_,Q_,Q_,Q_,Q_,Q_,Q_,Q_,Q_,Q_,Q_,Q_,Q_,Q_,Q_,Q_,Q_,Q_,Q_,Q_,Q_,Q_,Q_,Q_,Q_,Q_,Q_,Q_,v48,v49,v50,Q_,Q_,Q_,Q_,Q_,Q_,Q_,Q_,Q_,Q_,Q_,Q_,Q_,Q_,Q_,Q_,Q_,Q_,Q_,Q_,Q_,Q_] H
def B71_3 (K:AV→Heap→Prop) (N1:AV→Heap→Prop) (N2:AV→AV→Heap→Prop) (v0:AV) (v5:AV) (v9:AV) (v10:AV) (v48:AV) (v49:AV) (v50:AV) (H:Heap):Prop:=
 binV tab .lss 3 v50 v49 fun v51=>
 cV_ v51 (iA_ tab 24 v48 v50 fun v52=>
 lV_ tab 3 v52 H fun v53=>
 iA_ tab 24 v5 v53 fun v56=>
 lV_ tab 3 v56 H fun v57=>
 binV tab .lss 3 v57 (AV.p (.int .i64 0)) fun v58=>
 cV_ v58 (iA_ tab 24 v5 v10 fun v63=>
 lV_ tab 3 v63 H fun v64=>
 binV tab .add 3 v64 (AV.p (.int .i64 1)) fun v65=>
 iA_ tab 24 v5 v53 fun v66=>
 sV_ tab 3 v66 v65 H fun H5=>
 bS_ tab 24 1 [(0,v53)] H5 (wkK fun v69 H6=>
 aP_ tab 24 24 v9 v69 H6 (wkK fun v70 H7=>
 binV tab .add 3 v50 (AV.p (.int .i64 1)) fun v71=>
 N2 v70 v71 H7)))
 (binV tab .add 3 v50 (AV.p (.int .i64 1)) fun v71=>
 N2 v9 v71 H))
 (N1 v9 H)
def B71_2 (K:AV→Heap→Prop) (N1:AV→Heap→Prop) (v0:AV) (v5:AV) (v9:AV) (H:Heap):Prop:=
 lenV tab 24 v9 fun v38=>
 binV tab .gtr 3 v38 (AV.p (.int .i64 0)) fun v39=>
 cV_ v39 (iA_ tab 24 v9 (AV.p (.int .i64 0)) fun v41=>
 lV_ tab 3 v41 H fun v42=>
 sliceV tab 24 v9 (some (AV.p (.int .i64 1))) none none fun v44=>
 iA_ tab 26 v0 v42 fun v47=>
 lV_ tab 24 v47 H fun v48=>
 lenV tab 24 v48 fun v49=>
 L71_3 K N1 v0 v5 v44 v42 v48 v49 (AV.p (.int .i64 0)) H)
 (K v5 H)
def B71_1 (K:AV→Heap→Prop) (N1:AV→Heap→Prop) (v0:AV) (v1:AV) (v5:AV) (v25:AV) (v26:AV) (v27:AV) (H:Heap):Prop:=
 binV tab .lss 3 v27 v26 fun v28=>
 cV_ v28 (iA_ tab 24 v25 v27 fun v29=>
 lV_ tab 3 v29 H fun v30=>
 iA_ tab 24 v5 v30 fun v33=>
 sV_ tab 3 v33 (AV.p (.int .i64 0)) H fun H3=>
 binV tab .add 3 v27 (AV.p (.int .i64 1)) fun v34=>
 N1 v34 H3)
 (CallT Try.prog 50 [v1] H fun v36 H4=>
 L71_2 K v0 v5 v36 H4)
def B71_0 (K:AV→Heap→Prop) (N1:AV→Heap→Prop) (v0:AV) (v1:AV) (v5:AV) (v17:AV) (v18:AV) (H:Heap):Prop:=
 binV tab .lss 3 v18 v17 fun v19=>
 cV_ v19 (iA_ tab 24 v5 v18 fun v23=>
 sV_ tab 3 v23 (AV.p (.int .i64 (-1))) H fun H2=>
 binV tab .add 3 v18 (AV.p (.int .i64 1)) fun v24=>
 N1 v24 H2)
 (lenV tab 24 v1 fun v26=>
 L71_1 K v0 v1 v5 v1 v26 (AV.p (.int .i64 0)) H)
def W71 (v0:AV) (v1:AV) (H:Heap) (K:AV→Heap→Prop):Prop:=
 lenV tab 26 v0 fun v14=>
 mS_ tab 24 v14 v14 H fun v15 H1=>
 lenV tab 24 v15 fun v17=>
 L71_0 K v0 v1 v15 v17 (AV.p (.int .i64 0)) H1
theorem W71_wp (v0:AV) (v1:AV) (H:Heap) (K:AV→Heap→Prop):wpC Try.prog tab D71 (bO_ Try.f71) (retF tab [.tmp 4] K) (nthA [v0,v1]) H=W71 v0 v1 H K:=by kernel_rfl
theorem W71_ok {v0 v1:AV} {H:Heap} {K:AV→Heap→Prop} (h:W71 v0 v1 H K):CallT Try.prog 71 [v0,v1] H K:=
 CallT.of_wp (D:=D71) tO_ mixed Try.func71 (c:=bO_ Try.f71) (by kernel_rfl) rfl (by kernel_rfl) (rs:=#[.tmp 4]) rfl (by decide +kernel) (by kernel_rfl) (W71_wp v0 v1 H K) h
theorem L71_3_rule {K:AV→Heap→Prop} {N1:AV→Heap→Prop} {v0 v5 v9 v10 v48 v49 v50:AV} {H:Heap} {σ:Type} (s0:σ) (f9:σ→AV) (f50:σ→AV) (TH:σ→Heap) (pre:σ→Prop) (μ:σ→Nat)
  (h0:pre s0∧AV.wk v9 (f9 s0)∧AV.wk v50 (f50 s0)∧Heap.le (TH s0) H)
  (round:∀s,pre s→B71_3 K N1 (fun w9 w50 H'=>∃s',pre s'∧μ s' < μ s∧AV.wk w9 (f9 s')∧AV.wk w50 (f50 s')∧Heap.le (TH s') H') v0 v5 (f9 s) v10 v48 v49 (f50 s) (TH s)) :
  L71_3 K N1 v0 v5 v9 v10 v48 v49 v50 H:=by
 unfold L71_3
 exact LoopV.mk s0 (fun s=>[f9 s,f50 s]) TH pre μ (fun _=>rfl) (Eq.mp (by kernel_rfl) h0) (fun s hs=>Eq.mp (by kernel_rfl) (round s hs))
theorem L71_2_rule {K:AV→Heap→Prop} {v0 v5 v9:AV} {H:Heap} {σ:Type} (s0:σ) (f9:σ→AV) (TH:σ→Heap) (pre:σ→Prop) (μ:σ→Nat)
  (h0:pre s0∧AV.wk v9 (f9 s0)∧Heap.le (TH s0) H)
  (round:∀s,pre s→B71_2 K (fun w9 H'=>∃s',pre s'∧μ s' < μ s∧AV.wk w9 (f9 s')∧Heap.le (TH s') H') v0 v5 (f9 s) (TH s)) :
  L71_2 K v0 v5 v9 H:=by
 unfold L71_2
 exact LoopV.mk s0 (fun s=>[f9 s]) TH pre μ (fun _=>rfl) (Eq.mp (by kernel_rfl) h0) (fun s hs=>Eq.mp (by kernel_rfl) (round s hs))
theorem L71_1_rule {K:AV→Heap→Prop} {v0 v1 v5 v25 v26 v27:AV} {H:Heap} {σ:Type} (s0:σ) (f27:σ→AV) (TH:σ→Heap) (pre:σ→Prop) (μ:σ→Nat)
  (h0:pre s0∧AV.wk v27 (f27 s0)∧Heap.le (TH s0) H)
  (round:∀s,pre s→B71_1 K (fun w27 H'=>∃s',pre s'∧μ s' < μ s∧AV.wk w27 (f27 s')∧Heap.le (TH s') H') v0 v1 v5 v25 v26 (f27 s) (TH s)) :
  L71_1 K v0 v1 v5 v25 v26 v27 H:=by
 unfold L71_1
 exact LoopV.mk s0 (fun s=>[f27 s]) TH pre μ (fun _=>rfl) (Eq.mp (by kernel_rfl) h0) (fun s hs=>Eq.mp (by kernel_rfl) (round s hs))
theorem L71_0_rule {K:AV→Heap→Prop} {v0 v1 v5 v17 v18:AV} {H:Heap} {σ:Type} (s0:σ) (f18:σ→AV) (TH:σ→Heap) (pre:σ→Prop) (μ:σ→Nat)
  (h0:pre s0∧AV.wk v18 (f18 s0)∧Heap.le (TH s0) H)
  (round:∀s,pre s→B71_0 K (fun w18 H'=>∃s',pre s'∧μ s' < μ s∧AV.wk w18 (f18 s')∧Heap.le (TH s') H') v0 v1 v5 v17 (f18 s) (TH s)) :
  L71_0 K v0 v1 v5 v17 v18 H:=by
 unfold L71_0
 exact LoopV.mk s0 (fun s=>[f18 s]) TH pre μ (fun _=>rfl) (Eq.mp (by kernel_rfl) h0) (fun s hs=>Eq.mp (by kernel_rfl) (round s hs))
def D72:Info:=⟨116,fun i=>if i=8 then ([[],[],[],[1,2],[1,2,3],[],[],[],[6,7],[6,7,8],[5,6,7,8,9],[5,6,7,8,9,10],[5,6,7,8,9,10,11],[5,6,7,8,9,10,11,12],[5,6,7,8,9,10,11,12,13],[5,6,7,8,9,10,11,12,13,14],[5,6,7,8,9,10,11,12,13,14,15],[0,1,2,3,4,5,6,7,8,9,10,11,12,13,14,15,16],[0,1,2,3,4,5,6,7,8,9,10,11,12,13,14,15,16,17]],[(0,[]),(1,[]),(2,[]),(3,[]),(4,[]),(5,[]),(6,[]),(7,[]),(8,[]),(9,[]),(10,[]),(11,[]),(12,[]),(13,[]),(14,[]),(15,[]),(16,[]),(17,[]),(18,[])]) else ([],[]),fun i=>if i=6 then ([0,1,5,7,8,28,29],[30]) else if i=11 then ([0,1,5,7,8,54,55],[56]) else if i=14 then ([0,1,5,7,8,11,54,55,56,61,62],[63]) else if i=22 then ([1,5,7,8,87],[15,88]) else ([],[])⟩
def L72_0 (K:AV→Heap→Prop) (v0:AV) (v1:AV) (v5:AV) (v7:AV) (v8:AV) (v28:AV) (v29:AV) (v30:AV) (H:Heap):Prop:=LoopV (wpC Try.prog tab D72 (cAt [1,1,1,1,1,0,1,0,0] (bO_ Try.f72))) [0,1,5,7,8,28,29] (PostF.block 0 (PostF.thenA (wpC Try.prog tab D72 (cAt [1,1,1,1,1,1] (bO_ Try.f72))) (retF tab [.tmp 4] K))) [30] [v0,v1,Q_,Q_,Q_,v5,Q_,v7,v8,Q_,Q_,Q_,Q_,Q_,Q_,Q_,Q_,Q_,Q_,Q_,Q_,Q_,Q_,Q_,Q_,Q_,Q_,Q_,v28,v29,v30,Q_,Q_,Q_,Q_,Q_,Q_,Q_,Q_,Q_,Q_,Q_,Q_,Q_,Q_,Q_,Q_,Q_,Q_,Q_,Q_,Q_,Q_,Q_,Q_,Q_,Q_,Q_,Q_,Q_,Q_,Q_,Q_,Q_,Q_,Q_,Q_,Q_,Q_,Q_,Q_,Q_,Q_,Q_,Q_,Q_,Q_,Q_,Q_,Q_,Q_,Q_,Q_,Q_,Q_,Q_,Q_,Q_,Q_,Q_,Q_,Q_,Q_,Q_,Q_,Q_,Q_,Q_,Q_,Q_,Q_,Q_,Q_,Q_,Q_,Q_,Q_,Q_,Q_,Q_,Q_,Q_,Q_,Q_,Q_,Q_] H
def L72_1 (K:AV→Heap→Prop) (v0:AV) (v1:AV) (v5:AV) (v7:AV) (v8:AV) (v54:AV) (v55:AV) (v56:AV) (H:Heap):Prop:=LoopV (wpC Try.prog tab D72 (cAt [1,1,1,1,1,1,0,1,0,0] (bO_ Try.f72))) [0,1,5,7,8,54,55] (PostF.block 2 (PostF.thenA (wpC Try.prog tab D72 (cAt [1,1,1,1,1,1,1] (bO_ Try.f72))) (retF tab [.tmp 4] K))) [56] [v0,v1,Q_,Q_,Q_,v5,Q_,v7,v8,Q_,Q_,Q_,Q_,Q_,Q_,Q_,Q_,Q_,Q_,Q_,Q_,Q_,Q_,Q_,Q_,Q_,Q_,Q_,Q_,Q_,Q_,Q_,Q_,Q_,Q_,Q_,Q_,Q_,Q_,Q_,Q_,Q_,Q_,Q_,Q_,Q_,Q_,Q_,Q_,Q_,Q_,Q_,Q_,Q_,v54,v55,v56,Q_,Q_,Q_,Q_,Q_,Q_,Q_,Q_,Q_,Q_,Q_,Q_,Q_,Q_,Q_,Q_,Q_,Q_,Q_,Q_,Q_,Q_,Q_,Q_,Q_,Q_,Q_,Q_,Q_,Q_,Q_,Q_,Q_,Q_,Q_,Q_,Q_,Q_,Q_,Q_,Q_,Q_,Q_,Q_,Q_,Q_,Q_,Q_,Q_,Q_,Q_,Q_,Q_,Q_,Q_,Q_,Q_,Q_,Q_] H
def L72_2 (K:AV→Heap→Prop) (N1:AV→Heap→Prop) (v0:AV) (v1:AV) (v5:AV) (v7:AV) (v8:AV) (v11:AV) (v54:AV) (v55:AV) (v56:AV) (v61:AV) (v62:AV) (v63:AV) (H:Heap):Prop:=LoopV (wpC Try.prog tab D72 (cAt [1,1,1,1,1,1,0,1,0,0,1,1,0,0,1,1,0,0] (bO_ Try.f72))) [0,1,5,7,8,11,54,55,56,61,62] (PostF.block 4 (PostF.block 3 (PostF.thenA (wpC Try.prog tab D72 (cAt [1,1,1,1,1,1,0,1,0,0,1,1,1] (bO_ Try.f72))) (loopF (PostF.block 2 (PostF.thenA (wpC Try.prog tab D72 (cAt [1,1,1,1,1,1,1] (bO_ Try.f72))) (retF tab [.tmp 4] K))) (fun e h=>N1 (e 56) h))))) [63] [v0,v1,Q_,Q_,Q_,v5,Q_,v7,v8,Q_,Q_,v11,Q_,Q_,Q_,Q_,Q_,Q_,Q_,Q_,Q_,Q_,Q_,Q_,Q_,Q_,Q_,Q_,Q_,Q_,Q_,Q_,Q_,Q_,Q_,Q_,Q_,Q_,Q_,Q_,Q_,Q_,Q_,Q_,Q_,Q_,Q_,Q_,Q_,Q_,Q_,Q_,Q_,Q_,v54,v55,v56,Q_,Q_,Q_,Q_,v61,v62,v63,Q_,Q_,Q_,Q_,Q_,Q_,Q_,Q_,Q_,Q_,Q_,Q_,Q_,Q_,Q_,Q_,Q_,Q_,Q_,Q_,Q_,Q_,Q_,Q_,Q_,Q_,Q_,Q_,Q_,Q_,Q_,Q_,Q_,Q_,Q_,Q_,Q_,Q_,Q_,Q_,Q_,Q_,Q_,Q_,Q_,Q_,Q_,Q_,Q_,Q_,Q_,Q_] H
def B72_2 (K:AV→Heap→Prop) (N1:AV→Heap→Prop) (N2:AV→Heap→Prop) (v0:AV) (v1:AV) (v5:AV) (v7:AV) (v8:AV) (v11:AV) (v54:AV) (v55:AV) (v56:AV) (v61:AV) (v62:AV) (v63:AV) (H:Heap):Prop:=
 binV tab .lss 3 v63 v62 fun v64=>
 cV_ v64 (iA_ tab 24 v61 v63 fun v65=>
 lV_ tab 3 v65 H fun v66=>
 iA_ tab 24 v5 v66 fun v70=>
 lV_ tab 3 v70 H fun v71=>
 iA_ tab 24 v8 v71 fun v72=>
 lV_ tab 3 v72 H fun v73=>
 binV tab .eql 3 v73 v11 fun v75=>
 cV_ v75 (iA_ tab 24 v5 v66 fun v79=>
 lV_ tab 3 v79 H fun v80=>
 binV tab .add 3 v11 (AV.p (.int .i64 1)) fun v82=>
 iA_ tab 24 v8 v80 fun v83=>
 sV_ tab 3 v83 v82 H fun H7=>
 binV tab .add 3 v63 (AV.p (.int .i64 1)) fun v84=>
 N2 v84 H7)
 (binV tab .add 3 v63 (AV.p (.int .i64 1)) fun v84=>
 N2 v84 H))
 (binV tab .add 3 v56 (AV.p (.int .i64 1)) fun v85=>
 N1 v85 H)
def L72_3 (K:AV→Heap→Prop) (v1:AV) (v5:AV) (v7:AV) (v8:AV) (v15:AV) (v87:AV) (v88:AV) (H:Heap):Prop:=LoopV (wpC Try.prog tab D72 (cAt [1,1,1,1,1,1,1,1,0,1,0,0] (bO_ Try.f72))) [1,5,7,8,87] (PostF.block 6 (PostF.thenA (wpC Try.prog tab D72 (cAt [1,1,1,1,1,1,1,1,1] (bO_ Try.f72))) (retF tab [.tmp 4] K))) [15,88] [Q_,v1,Q_,Q_,Q_,v5,Q_,v7,v8,Q_,Q_,Q_,Q_,Q_,Q_,v15,Q_,Q_,Q_,Q_,Q_,Q_,Q_,Q_,Q_,Q_,Q_,Q_,Q_,Q_,Q_,Q_,Q_,Q_,Q_,Q_,Q_,Q_,Q_,Q_,Q_,Q_,Q_,Q_,Q_,Q_,Q_,Q_,Q_,Q_,Q_,Q_,Q_,Q_,Q_,Q_,Q_,Q_,Q_,Q_,Q_,Q_,Q_,Q_,Q_,Q_,Q_,Q_,Q_,Q_,Q_,Q_,Q_,Q_,Q_,Q_,Q_,Q_,Q_,Q_,Q_,Q_,Q_,Q_,Q_,Q_,Q_,v87,v88,Q_,Q_,Q_,Q_,Q_,Q_,Q_,Q_,Q_,Q_,Q_,Q_,Q_,Q_,Q_,Q_,Q_,Q_,Q_,Q_,Q_,Q_,Q_,Q_,Q_,Q_,Q_] H
def B72_3 (K:AV→Heap→Prop) (N1:AV→AV→Heap→Prop) (v1:AV) (v5:AV) (v7:AV) (v8:AV) (v15:AV) (v87:AV) (v88:AV) (H:Heap):Prop:=
 binV tab .lss 3 v88 v87 fun v89=>
 cV_ v89 (iA_ tab 24 v5 v88 fun v94=>
 lV_ tab 3 v94 H fun v95=>
 iA_ tab 81 v7 v95 fun v96=>
 lV_ tab 4 v96 H fun v97=>
 grdV v97 true (iA_ tab 24 v5 v88 fun v102=>
 lV_ tab 3 v102 H fun v103=>
 iA_ tab 24 v8 v103 fun v104=>
 lV_ tab 3 v104 H fun v105=>
 lenV tab 26 v1 fun v107=>
 binV tab .eql 3 v105 v107 fun v108=>
 cV_ v108 (bS_ tab 24 1 [(0,v88)] H (wkK fun v112 H8=>
 aP_ tab 24 24 v15 v112 H8 (wkK fun v113 H9=>
 binV tab .add 3 v88 (AV.p (.int .i64 1)) fun v114=>
 N1 v113 v114 H9)))
 (binV tab .add 3 v88 (AV.p (.int .i64 1)) fun v114=>
 N1 v15 v114 H))
 (binV tab .add 3 v88 (AV.p (.int .i64 1)) fun v114=>
 N1 v15 v114 H))
 (K v15 H)
def B72_1 (K:AV→Heap→Prop) (N1:AV→Heap→Prop) (v0:AV) (v1:AV) (v5:AV) (v7:AV) (v8:AV) (v54:AV) (v55:AV) (v56:AV) (H:Heap):Prop:=
 binV tab .lss 3 v56 v55 fun v57=>
 cV_ v57 (iA_ tab 26 v54 v56 fun v59=>
 lV_ tab 24 v59 H fun v60=>
 lenV tab 24 v60 fun v62=>
 L72_2 K N1 v0 v1 v5 v7 v8 v56 v54 v55 v56 v60 v62 (AV.p (.int .i64 0)) H)
 (lenV tab 26 v0 fun v87=>
 L72_3 K v1 v5 v7 v8 (AV.p .nil) v87 (AV.p (.int .i64 0)) H)
def B72_0 (K:AV→Heap→Prop) (N1:AV→Heap→Prop) (v0:AV) (v1:AV) (v5:AV) (v7:AV) (v8:AV) (v28:AV) (v29:AV) (v30:AV) (H:Heap):Prop:=
 binV tab .lss 3 v30 v29 fun v31=>
 cV_ v31 (iA_ tab 26 v28 v30 fun v33=>
 lV_ tab 24 v33 H fun v34=>
 iA_ tab 24 v5 v30 fun v38=>
 lV_ tab 3 v38 H fun v39=>
 iA_ tab 24 v5 v30 fun v43=>
 lV_ tab 3 v43 H fun v44=>
 iA_ tab 81 v7 v44 fun v45=>
 lV_ tab 4 v45 H fun v46=>
 grdV v46 false (lenV tab 24 v34 fun v49=>
 binV tab .gtr 3 v49 (AV.p (.int .i64 0)) fun v50=>
 iA_ tab 81 v7 v39 fun v52=>
 sV_ tab 4 v52 v50 H fun H5=>
 binV tab .add 3 v30 (AV.p (.int .i64 1)) fun v53=>
 N1 v53 H5)
 (iA_ tab 81 v7 v39 fun v52=>
 sV_ tab 4 v52 (AV.p (.bool true)) H fun H6=>
 binV tab .add 3 v30 (AV.p (.int .i64 1)) fun v53=>
 N1 v53 H6))
 (lenV tab 26 v1 fun v55=>
 L72_1 K v0 v1 v5 v7 v8 v1 v55 (AV.p (.int .i64 0)) H)
def W72 (v0:AV) (v1:AV) (H:Heap) (K:AV→Heap→Prop):Prop:=
 CallT Try.prog 74 [v0] H fun v18 H1=>
 CallT Try.prog 75 [v0,v18] H1 fun v21 H2=>
 lenV tab 26 v0 fun v23=>
 mS_ tab 81 v23 v23 H2 fun v24 H3=>
 lenV tab 26 v0 fun v26=>
 mS_ tab 24 v26 v26 H3 fun v27 H4=>
 lenV tab 26 v21 fun v29=>
 L72_0 K v0 v1 v18 v24 v27 v21 v29 (AV.p (.int .i64 0)) H4
theorem W72_wp (v0:AV) (v1:AV) (H:Heap) (K:AV→Heap→Prop):wpC Try.prog tab D72 (bO_ Try.f72) (retF tab [.tmp 4] K) (nthA [v0,v1]) H=W72 v0 v1 H K:=by kernel_rfl
theorem W72_ok {v0 v1:AV} {H:Heap} {K:AV→Heap→Prop} (h:W72 v0 v1 H K):CallT Try.prog 72 [v0,v1] H K:=
 CallT.of_wp (D:=D72) tO_ mixed Try.func72 (c:=bO_ Try.f72) (by kernel_rfl) rfl (by kernel_rfl) (rs:=#[.tmp 4]) rfl (by decide +kernel) (by kernel_rfl) (W72_wp v0 v1 H K) h
theorem L72_2_rule {K:AV→Heap→Prop} {N1:AV→Heap→Prop} {v0 v1 v5 v7 v8 v11 v54 v55 v56 v61 v62 v63:AV} {H:Heap} {σ:Type} (s0:σ) (f63:σ→AV) (TH:σ→Heap) (pre:σ→Prop) (μ:σ→Nat)
  (h0:pre s0∧AV.wk v63 (f63 s0)∧Heap.le (TH s0) H)
  (round:∀s,pre s→B72_2 K N1 (fun w63 H'=>∃s',pre s'∧μ s' < μ s∧AV.wk w63 (f63 s')∧Heap.le (TH s') H') v0 v1 v5 v7 v8 v11 v54 v55 v56 v61 v62 (f63 s) (TH s)) :
  L72_2 K N1 v0 v1 v5 v7 v8 v11 v54 v55 v56 v61 v62 v63 H:=by
 unfold L72_2
 exact LoopV.mk s0 (fun s=>[f63 s]) TH pre μ (fun _=>rfl) (Eq.mp (by kernel_rfl) h0) (fun s hs=>Eq.mp (by kernel_rfl) (round s hs))
theorem L72_3_rule {K:AV→Heap→Prop} {v1 v5 v7 v8 v15 v87 v88:AV} {H:Heap} {σ:Type} (s0:σ) (f15:σ→AV) (f88:σ→AV) (TH:σ→Heap) (pre:σ→Prop) (μ:σ→Nat)
  (h0:pre s0∧AV.wk v15 (f15 s0)∧AV.wk v88 (f88 s0)∧Heap.le (TH s0) H)
  (round:∀s,pre s→B72_3 K (fun w15 w88 H'=>∃s',pre s'∧μ s' < μ s∧AV.wk w15 (f15 s')∧AV.wk w88 (f88 s')∧Heap.le (TH s') H') v1 v5 v7 v8 (f15 s) v87 (f88 s) (TH s)) :
  L72_3 K v1 v5 v7 v8 v15 v87 v88 H:=by
 unfold L72_3
 exact LoopV.mk s0 (fun s=>[f15 s,f88 s]) TH pre μ (fun _=>rfl) (Eq.mp (by kernel_rfl) h0) (fun s hs=>Eq.mp (by kernel_rfl) (round s hs))
theorem L72_1_rule {K:AV→Heap→Prop} {v0 v1 v5 v7 v8 v54 v55 v56:AV} {H:Heap} {σ:Type} (s0:σ) (f56:σ→AV) (TH:σ→Heap) (pre:σ→Prop) (μ:σ→Nat)
  (h0:pre s0∧AV.wk v56 (f56 s0)∧Heap.le (TH s0) H)
  (round:∀s,pre s→B72_1 K (fun w56 H'=>∃s',pre s'∧μ s' < μ s∧AV.wk w56 (f56 s')∧Heap.le (TH s') H') v0 v1 v5 v7 v8 v54 v55 (f56 s) (TH s)) :
  L72_1 K v0 v1 v5 v7 v8 v54 v55 v56 H:=by
 unfold L72_1
 exact LoopV.mk s0 (fun s=>[f56 s]) TH pre μ (fun _=>rfl) (Eq.mp (by kernel_rfl) h0) (fun s hs=>Eq.mp (by kernel_rfl) (round s hs))
theorem L72_0_rule {K:AV→Heap→Prop} {v0 v1 v5 v7 v8 v28 v29 v30:AV} {H:Heap} {σ:Type} (s0:σ) (f30:σ→AV) (TH:σ→Heap) (pre:σ→Prop) (μ:σ→Nat)
  (h0:pre s0∧AV.wk v30 (f30 s0)∧Heap.le (TH s0) H)
  (round:∀s,pre s→B72_0 K (fun w30 H'=>∃s',pre s'∧μ s' < μ s∧AV.wk w30 (f30 s')∧Heap.le (TH s') H') v0 v1 v5 v7 v8 v28 v29 (f30 s) (TH s)) :
  L72_0 K v0 v1 v5 v7 v8 v28 v29 v30 H:=by
 unfold L72_0
 exact LoopV.mk s0 (fun s=>[f30 s]) TH pre μ (fun _=>rfl) (Eq.mp (by kernel_rfl) h0) (fun s hs=>Eq.mp (by kernel_rfl) (round s hs))
def D73:Info:=⟨82,fun i=>if i=6 then ([[],[],[0,1],[0,1,2],[0,1,2,3],[0,1,2,3,4],[0,1,2,3,4,5],[0,1,2,3,4,5,6],[0,1,2,3,4,5,6,7],[0,1,2,3,4,5,6,7,8],[0,1,2,3,4,5,6,7,8],[0,1,2,3,4,5,6,7,8,9,10],[0,1,2,3,4,5,6,7,8,9,10,11],[0,1,2,3,4,5,6,7,8],[0,1,2,3,4,5,6,7,8],[0,1,2,3,4,5,6,7,8,13,14],[0,1,2,3,4,5,6,7,8,13,14,15],[0,1,2,3,4,5,6,7,8,9,10,11,12,13,14,15,16],[0,1,2,3,4,5,6,7,8,9,10,11,12,13,14,15,16,17],[0,1,2,3,4,5,6,7,8,9,10,11,12,13,14,15,16,17,18]],[(0,[]),(1,[]),(2,[]),(3,[]),(4,[]),(5,[]),(6,[]),(7,[]),(8,[]),(9,[]),(10,[]),(11,[]),(12,[]),(13,[]),(14,[]),(15,[]),(16,[]),(17,[]),(18,[]),(19,[])]) else if i=16 then ([[],[],[0,1],[0,1,2],[],[],[4,5],[4,5,6],[4,5,6,7],[0,1,2,3,4,5,6,7,8]],[(0,[]),(1,[]),(2,[]),(3,[]),(4,[]),(5,[]),(6,[]),(7,[]),(8,[]),(9,[])]) else ([],[]),fun i=>if i=4 then ([0,8,19,20],[9,21]) else if i=12 then ([0,8],[9,12]) else if i=14 then ([0,8,12,59,60],[9,61]) else ([],[])⟩
def L73_0 (K:AV→Heap→Prop) (v0:AV) (v8:AV) (v9:AV) (v19:AV) (v20:AV) (v21:AV) (H:Heap):Prop:=LoopV (wpC Try.prog tab D73 (cAt [1,1,1,0,1,0,0] (bO_ Try.f73))) [0,8,19,20] (PostF.block 0 (PostF.thenA (wpC Try.prog tab D73 (cAt [1,1,1,1] (bO_ Try.f73))) (retF tab [.tmp 6,.tmp 7] K))) [9,21] [v0,Q_,Q_,Q_,Q_,Q_,Q_,Q_,v8,v9,Q_,Q_,Q_,Q_,Q_,Q_,Q_,Q_,Q_,v19,v20,v21,Q_,Q_,Q_,Q_,Q_,Q_,Q_,Q_,Q_,Q_,Q_,Q_,Q_,Q_,Q_,Q_,Q_,Q_,Q_,Q_,Q_,Q_,Q_,Q_,Q_,Q_,Q_,Q_,Q_,Q_,Q_,Q_,Q_,Q_,Q_,Q_,Q_,Q_,Q_,Q_,Q_,Q_,Q_,Q_,Q_,Q_,Q_,Q_,Q_,Q_,Q_,Q_,Q_,Q_,Q_,Q_,Q_,Q_,Q_,Q_] H
def L73_1 (K:AV→Heap→Prop) (v0:AV) (v8:AV) (v9:AV) (v12:AV) (H:Heap):Prop:=LoopV (wpC Try.prog tab D73 (cAt [1,1,1,1,1,1,0,0,0] (bO_ Try.f73))) [0,8] (PostF.block 2 (PostF.thenA (wpC Try.prog tab D73 (cAt [1,1,1,1,1,1,1] (bO_ Try.f73))) (retF tab [.tmp 6,.tmp 7] K))) [9,12] [v0,Q_,Q_,Q_,Q_,Q_,Q_,Q_,v8,v9,Q_,Q_,v12,Q_,Q_,Q_,Q_,Q_,Q_,Q_,Q_,Q_,Q_,Q_,Q_,Q_,Q_,Q_,Q_,Q_,Q_,Q_,Q_,Q_,Q_,Q_,Q_,Q_,Q_,Q_,Q_,Q_,Q_,Q_,Q_,Q_,Q_,Q_,Q_,Q_,Q_,Q_,Q_,Q_,Q_,Q_,Q_,Q_,Q_,Q_,Q_,Q_,Q_,Q_,Q_,Q_,Q_,Q_,Q_,Q_,Q_,Q_,Q_,Q_,Q_,Q_,Q_,Q_,Q_,Q_,Q_,Q_] H
def L73_2 (K:AV→Heap→Prop) (N1:AV→AV→Heap→Prop) (v0:AV) (v8:AV) (v9:AV) (v12:AV) (v59:AV) (v60:AV) (v61:AV) (H:Heap):Prop:=LoopV (wpC Try.prog tab D73 (cAt [1,1,1,1,1,1,0,0,0,1,0,0,1,0,0] (bO_ Try.f73))) [0,8,12,59,60] (PostF.block 4 (PostF.thenA (wpC Try.prog tab D73 (cAt [1,1,1,1,1,1,0,0,0,1,0,1] (bO_ Try.f73))) (PostF.block 3 (loopF (PostF.block 2 (PostF.thenA (wpC Try.prog tab D73 (cAt [1,1,1,1,1,1,1] (bO_ Try.f73))) (retF tab [.tmp 6,.tmp 7] K))) (fun e h=>N1 (e 9) (e 12) h))))) [9,61] [v0,Q_,Q_,Q_,Q_,Q_,Q_,Q_,v8,v9,Q_,Q_,v12,Q_,Q_,Q_,Q_,Q_,Q_,Q_,Q_,Q_,Q_,Q_,Q_,Q_,Q_,Q_,Q_,Q_,Q_,Q_,Q_,Q_,Q_,Q_,Q_,Q_,Q_,Q_,Q_,Q_,Q_,Q_,Q_,Q_,Q_,Q_,Q_,Q_,Q_,Q_,Q_,Q_,Q_,Q_,Q_,Q_,Q_,v59,v60,v61,Q_,Q_,Q_,Q_,Q_,Q_,Q_,Q_,Q_,Q_,Q_,Q_,Q_,Q_,Q_,Q_,Q_,Q_,Q_,Q_] H
def B73_2 (K:AV→Heap→Prop) (N1:AV→AV→Heap→Prop) (N2:AV→AV→Heap→Prop) (v0:AV) (v8:AV) (v9:AV) (v12:AV) (v59:AV) (v60:AV) (v61:AV) (H:Heap):Prop:=
 binV tab .lss 3 v61 v60 fun v62=>
 cV_ v62 (iA_ tab 24 v59 v61 fun v63=>
 lV_ tab 3 v63 H fun v64=>
 iA_ tab 24 v8 v64 fun v67=>
 lV_ tab 3 v67 H fun v68=>
 iA_ tab 24 v8 v9 fun v71=>
 lV_ tab 3 v71 H fun v72=>
 binV tab .sub 3 v72 (AV.p (.int .i64 1)) fun v73=>
 binV tab .eql 3 v68 v73 fun v74=>
 cV_ v74 (bS_ tab 24 1 [(0,v64)] H (wkK fun v79 H6=>
 aP_ tab 24 24 v12 v79 H6 (wkK fun v80 H7=>
 N1 v64 v80 H7)))
 (binV tab .add 3 v61 (AV.p (.int .i64 1)) fun v76=>
 N2 v9 v76 H))
 (bS_ tab 24 1 [(0,v9)] H (wkK fun v79 H8=>
 aP_ tab 24 24 v12 v79 H8 (wkK fun v80 H9=>
 N1 v9 v80 H9)))
def B73_1 (K:AV→Heap→Prop) (N1:AV→AV→Heap→Prop) (v0:AV) (v8:AV) (v9:AV) (v12:AV) (H:Heap):Prop:=
 iA_ tab 24 v8 v9 fun v53=>
 lV_ tab 3 v53 H fun v54=>
 binV tab .gtr 3 v54 (AV.p (.int .i64 0)) fun v55=>
 cV_ v55 (iA_ tab 26 v0 v9 fun v58=>
 lV_ tab 24 v58 H fun v59=>
 lenV tab 24 v59 fun v60=>
 L73_2 K N1 v0 v8 v9 v12 v59 v60 (AV.p (.int .i64 0)) H)
 (K (.tup [v12,(AV.p (.bool true))]) H)
def B73_0 (K:AV→Heap→Prop) (N1:AV→AV→Heap→Prop) (v0:AV) (v8:AV) (v9:AV) (v19:AV) (v20:AV) (v21:AV) (H:Heap):Prop:=
 binV tab .lss 3 v21 v20 fun v22=>
 cV_ v22 (iA_ tab 24 v19 v21 fun v23=>
 lV_ tab 3 v23 H fun v24=>
 iA_ tab 24 v8 v24 fun v27=>
 lV_ tab 3 v27 H fun v28=>
 binV tab .geq 3 v28 (AV.p (.int .i64 0)) fun v29=>
 grdV v29 true (binV tab .lss 3 v9 (AV.p (.int .i64 0)) fun v32=>
 grdV v32 false (iA_ tab 24 v8 v24 fun v36=>
 lV_ tab 3 v36 H fun v37=>
 iA_ tab 24 v8 v9 fun v40=>
 lV_ tab 3 v40 H fun v41=>
 binV tab .lss 3 v37 v41 fun v42=>
 cV_ v42 (binV tab .add 3 v21 (AV.p (.int .i64 1)) fun v46=>
 N1 v24 v46 H)
 (binV tab .add 3 v21 (AV.p (.int .i64 1)) fun v46=>
 N1 v9 v46 H))
 (binV tab .add 3 v21 (AV.p (.int .i64 1)) fun v46=>
 N1 v24 v46 H))
 (binV tab .add 3 v21 (AV.p (.int .i64 1)) fun v46=>
 N1 v9 v46 H))
 (binV tab .lss 3 v9 (AV.p (.int .i64 0)) fun v48=>
 cV_ v48 (K (.tup [(AV.p .nil),(AV.p (.bool false))]) H)
 (bS_ tab 24 1 [(0,v9)] H (wkK fun v50 H3=>
 L73_1 K v0 v8 v9 v50 H3)))
def W73 (v0:AV) (v1:AV) (v2:AV) (H:Heap) (K:AV→Heap→Prop):Prop:=
 CallT Try.prog 85 [v0] H fun v16 H1=>
 CallT Try.prog 71 [v16,v2] H1 fun v18 H2=>
 lenV tab 24 v1 fun v20=>
 L73_0 K v0 v18 (AV.p (.int .i64 (-1))) v1 v20 (AV.p (.int .i64 0)) H2
theorem W73_wp (v0:AV) (v1:AV) (v2:AV) (H:Heap) (K:AV→Heap→Prop):wpC Try.prog tab D73 (bO_ Try.f73) (retF tab [.tmp 6,.tmp 7] K) (nthA [v0,v1,v2]) H=W73 v0 v1 v2 H K:=by kernel_rfl
theorem W73_ok {v0 v1 v2:AV} {H:Heap} {K:AV→Heap→Prop} (h:W73 v0 v1 v2 H K):CallT Try.prog 73 [v0,v1,v2] H K:=
 CallT.of_wp (D:=D73) tO_ mixed Try.func73 (c:=bO_ Try.f73) (by kernel_rfl) rfl (by kernel_rfl) (rs:=#[.tmp 6,.tmp 7]) rfl (by decide +kernel) (by kernel_rfl) (W73_wp v0 v1 v2 H K) h
theorem L73_2_rule {K:AV→Heap→Prop} {N1:AV→AV→Heap→Prop} {v0 v8 v9 v12 v59 v60 v61:AV} {H:Heap} {σ:Type} (s0:σ) (f9:σ→AV) (f61:σ→AV) (TH:σ→Heap) (pre:σ→Prop) (μ:σ→Nat)
  (h0:pre s0∧AV.wk v9 (f9 s0)∧AV.wk v61 (f61 s0)∧Heap.le (TH s0) H)
  (round:∀s,pre s→B73_2 K N1 (fun w9 w61 H'=>∃s',pre s'∧μ s' < μ s∧AV.wk w9 (f9 s')∧AV.wk w61 (f61 s')∧Heap.le (TH s') H') v0 v8 (f9 s) v12 v59 v60 (f61 s) (TH s)) :
  L73_2 K N1 v0 v8 v9 v12 v59 v60 v61 H:=by
 unfold L73_2
 exact LoopV.mk s0 (fun s=>[f9 s,f61 s]) TH pre μ (fun _=>rfl) (Eq.mp (by kernel_rfl) h0) (fun s hs=>Eq.mp (by kernel_rfl) (round s hs))
theorem L73_1_rule {K:AV→Heap→Prop} {v0 v8 v9 v12:AV} {H:Heap} {σ:Type} (s0:σ) (f9:σ→AV) (f12:σ→AV) (TH:σ→Heap) (pre:σ→Prop) (μ:σ→Nat)
  (h0:pre s0∧AV.wk v9 (f9 s0)∧AV.wk v12 (f12 s0)∧Heap.le (TH s0) H)
  (round:∀s,pre s→B73_1 K (fun w9 w12 H'=>∃s',pre s'∧μ s' < μ s∧AV.wk w9 (f9 s')∧AV.wk w12 (f12 s')∧Heap.le (TH s') H') v0 v8 (f9 s) (f12 s) (TH s)) :
  L73_1 K v0 v8 v9 v12 H:=by
 unfold L73_1
 exact LoopV.mk s0 (fun s=>[f9 s,f12 s]) TH pre μ (fun _=>rfl) (Eq.mp (by kernel_rfl) h0) (fun s hs=>Eq.mp (by kernel_rfl) (round s hs))
theorem L73_0_rule {K:AV→Heap→Prop} {v0 v8 v9 v19 v20 v21:AV} {H:Heap} {σ:Type} (s0:σ) (f9:σ→AV) (f21:σ→AV) (TH:σ→Heap) (pre:σ→Prop) (μ:σ→Nat)
  (h0:pre s0∧AV.wk v9 (f9 s0)∧AV.wk v21 (f21 s0)∧Heap.le (TH s0) H)
  (round:∀s,pre s→B73_0 K (fun w9 w21 H'=>∃s',pre s'∧μ s' < μ s∧AV.wk w9 (f9 s')∧AV.wk w21 (f21 s')∧Heap.le (TH s') H') v0 v8 (f9 s) v19 v20 (f21 s) (TH s)) :
  L73_0 K v0 v8 v9 v19 v20 v21 H:=by
 unfold L73_0
 exact LoopV.mk s0 (fun s=>[f9 s,f21 s]) TH pre μ (fun _=>rfl) (Eq.mp (by kernel_rfl) h0) (fun s hs=>Eq.mp (by kernel_rfl) (round s hs))
def D74:Info:=⟨91,fun i=>if i=7 then ([[],[0],[],[2],[2,3],[0,1,2,3,4],[0,1,2,3,4,5],[0,1,2,3,4,5,6]],[(0,[]),(2,[]),(3,[]),(1,[4]),(4,[4]),(5,[]),(6,[]),(7,[])]) else ([],[]),fun i=>if i=3 then ([0,3,20],[21]) else if i=10 then ([0,3,5,6],[7]) else if i=16 then ([0,3,5,6,7,65,66],[8,67]) else if i=22 then ([0,3,5,6,7,8,79,80],[81]) else ([],[])⟩
def L74_0 (K:AV→Heap→Prop) (v0:AV) (v3:AV) (v20:AV) (v21:AV) (H:Heap):Prop:=LoopV (wpC Try.prog tab D74 (cAt [1,1,0,1,0,0] (bO_ Try.f74))) [0,3,20] (PostF.block 0 (PostF.thenA (wpC Try.prog tab D74 (cAt [1,1,1] (bO_ Try.f74))) (retF tab [.tmp 2] K))) [21] [v0,Q_,Q_,v3,Q_,Q_,Q_,Q_,Q_,Q_,Q_,Q_,Q_,Q_,Q_,Q_,Q_,Q_,Q_,Q_,v20,v21,Q_,Q_,Q_,Q_,Q_,Q_,Q_,Q_,Q_,Q_,Q_,Q_,Q_,Q_,Q_,Q_,Q_,Q_,Q_,Q_,Q_,Q_,Q_,Q_,Q_,Q_,Q_,Q_,Q_,Q_,Q_,Q_,Q_,Q_,Q_,Q_,Q_,Q_,Q_,Q_,Q_,Q_,Q_,Q_,Q_,Q_,Q_,Q_,Q_,Q_,Q_,Q_,Q_,Q_,Q_,Q_,Q_,Q_,Q_,Q_,Q_,Q_,Q_,Q_,Q_,Q_,Q_,Q_,Q_] H
def L74_1 (K:AV→Heap→Prop) (v0:AV) (v3:AV) (v5:AV) (v6:AV) (v7:AV) (H:Heap):Prop:=LoopV (wpC Try.prog tab D74 (cAt [1,1,1,1,1,0,1,0,0] (bO_ Try.f74))) [0,3,5,6] (PostF.block 2 (PostF.thenA (wpC Try.prog tab D74 (cAt [1,1,1,1,1,1] (bO_ Try.f74))) (retF tab [.tmp 2] K))) [7] [v0,Q_,Q_,v3,Q_,v5,v6,v7,Q_,Q_,Q_,Q_,Q_,Q_,Q_,Q_,Q_,Q_,Q_,Q_,Q_,Q_,Q_,Q_,Q_,Q_,Q_,Q_,Q_,Q_,Q_,Q_,Q_,Q_,Q_,Q_,Q_,Q_,Q_,Q_,Q_,Q_,Q_,Q_,Q_,Q_,Q_,Q_,Q_,Q_,Q_,Q_,Q_,Q_,Q_,Q_,Q_,Q_,Q_,Q_,Q_,Q_,Q_,Q_,Q_,Q_,Q_,Q_,Q_,Q_,Q_,Q_,Q_,Q_,Q_,Q_,Q_,Q_,Q_,Q_,Q_,Q_,Q_,Q_,Q_,Q_,Q_,Q_,Q_,Q_,Q_] H
def L74_2 (K:AV→Heap→Prop) (N1:AV→Heap→Prop) (v0:AV) (v3:AV) (v5:AV) (v6:AV) (v7:AV) (v8:AV) (v65:AV) (v66:AV) (v67:AV) (H:Heap):Prop:=LoopV (wpC Try.prog tab D74 (cAt [1,1,1,1,1,0,1,0,0,1,0,0,1,1,1,0,1,0,0] (bO_ Try.f74))) [0,3,5,6,7,65,66] (PostF.block 4 (PostF.thenA (wpC Try.prog tab D74 (cAt [1,1,1,1,1,0,1,0,0,1,0,0,1,1,1,1] (bO_ Try.f74))) (PostF.block 3 (PostF.thenA (wpC Try.prog tab D74 (cAt [1,1,1,1,1,0,1,0,0,1,1] (bO_ Try.f74))) (loopF (PostF.block 2 (PostF.thenA (wpC Try.prog tab D74 (cAt [1,1,1,1,1,1] (bO_ Try.f74))) (retF tab [.tmp 2] K))) (fun e h=>N1 (e 7) h)))))) [8,67] [v0,Q_,Q_,v3,Q_,v5,v6,v7,v8,Q_,Q_,Q_,Q_,Q_,Q_,Q_,Q_,Q_,Q_,Q_,Q_,Q_,Q_,Q_,Q_,Q_,Q_,Q_,Q_,Q_,Q_,Q_,Q_,Q_,Q_,Q_,Q_,Q_,Q_,Q_,Q_,Q_,Q_,Q_,Q_,Q_,Q_,Q_,Q_,Q_,Q_,Q_,Q_,Q_,Q_,Q_,Q_,Q_,Q_,Q_,Q_,Q_,Q_,Q_,Q_,v65,v66,v67,Q_,Q_,Q_,Q_,Q_,Q_,Q_,Q_,Q_,Q_,Q_,Q_,Q_,Q_,Q_,Q_,Q_,Q_,Q_,Q_,Q_,Q_,Q_] H
def L74_3 (K:AV→Heap→Prop) (N1:AV→Heap→Prop) (v0:AV) (v3:AV) (v5:AV) (v6:AV) (v7:AV) (v8:AV) (v79:AV) (v80:AV) (v81:AV) (H:Heap):Prop:=LoopV (wpC Try.prog tab D74 (cAt [1,1,1,1,1,0,1,0,0,1,0,0,1,1,1,1,1,0,0] (bO_ Try.f74))) [0,3,5,6,7,8,79,80] (PostF.block 6 (PostF.block 3 (PostF.thenA (wpC Try.prog tab D74 (cAt [1,1,1,1,1,0,1,0,0,1,1] (bO_ Try.f74))) (loopF (PostF.block 2 (PostF.thenA (wpC Try.prog tab D74 (cAt [1,1,1,1,1,1] (bO_ Try.f74))) (retF tab [.tmp 2] K))) (fun e h=>N1 (e 7) h))))) [81] [v0,Q_,Q_,v3,Q_,v5,v6,v7,v8,Q_,Q_,Q_,Q_,Q_,Q_,Q_,Q_,Q_,Q_,Q_,Q_,Q_,Q_,Q_,Q_,Q_,Q_,Q_,Q_,Q_,Q_,Q_,Q_,Q_,Q_,Q_,Q_,Q_,Q_,Q_,Q_,Q_,Q_,Q_,Q_,Q_,Q_,Q_,Q_,Q_,Q_,Q_,Q_,Q_,Q_,Q_,Q_,Q_,Q_,Q_,Q_,Q_,Q_,Q_,Q_,Q_,Q_,Q_,Q_,Q_,Q_,Q_,Q_,Q_,Q_,Q_,Q_,Q_,Q_,v79,v80,v81,Q_,Q_,Q_,Q_,Q_,Q_,Q_,Q_,Q_] H
def B74_3 (K:AV→Heap→Prop) (N1:AV→Heap→Prop) (N2:AV→Heap→Prop) (v0:AV) (v3:AV) (v5:AV) (v6:AV) (v7:AV) (v8:AV) (v79:AV) (v80:AV) (v81:AV) (H:Heap):Prop:=
 binV tab .lss 3 v81 v80 fun v82=>
 cV_ v82 (iA_ tab 24 v79 v81 fun v83=>
 lV_ tab 3 v83 H fun v84=>
 iA_ tab 24 v6 v84 fun v88=>
 sV_ tab 3 v88 v8 H fun H10=>
 binV tab .add 3 v81 (AV.p (.int .i64 1)) fun v89=>
 N2 v89 H10)
 (binV tab .sub 3 v7 (AV.p (.int .i64 1)) fun v47=>
 N1 v47 H)
def B74_2 (K:AV→Heap→Prop) (N1:AV→Heap→Prop) (N2:AV→AV→Heap→Prop) (v0:AV) (v3:AV) (v5:AV) (v6:AV) (v7:AV) (v8:AV) (v65:AV) (v66:AV) (v67:AV) (H:Heap):Prop:=
 binV tab .lss 3 v67 v66 fun v68=>
 cV_ v68 (iA_ tab 24 v65 v67 fun v69=>
 lV_ tab 3 v69 H fun v70=>
 binV tab .lss 3 v70 v8 fun v73=>
 cV_ v73 (binV tab .add 3 v67 (AV.p (.int .i64 1)) fun v75=>
 N2 v70 v75 H)
 (binV tab .add 3 v67 (AV.p (.int .i64 1)) fun v75=>
 N2 v8 v75 H))
 (nC_ v5 fun v77=>
 fA_ tab 103 v77 2 fun v78=>
 lV_ tab 24 v78 H fun v79=>
 lenV tab 24 v79 fun v80=>
 L74_3 K N1 v0 v3 v5 v6 v7 v8 v79 v80 (AV.p (.int .i64 0)) H)
def B74_1 (K:AV→Heap→Prop) (N1:AV→Heap→Prop) (v0:AV) (v3:AV) (v5:AV) (v6:AV) (v7:AV) (H:Heap):Prop:=
 binV tab .geq 3 v7 (AV.p (.int .i64 0)) fun v45=>
 cV_ v45 (nC_ v5 fun v49=>
 fA_ tab 103 v49 2 fun v50=>
 sV_ tab 24 v50 (AV.p .nil) H fun H8=>
 nC_ v3 fun v53=>
 fA_ tab 103 v53 2 fun v54=>
 lV_ tab 24 v54 H8 fun v55=>
 iA_ tab 24 v55 v7 fun v57=>
 lV_ tab 3 v57 H8 fun v58=>
 CallT Try.prog 86 [v5,v58] H8 fun v59 H9=>
 lenV tab 26 v0 fun v61=>
 nC_ v5 fun v63=>
 fA_ tab 103 v63 2 fun v64=>
 lV_ tab 24 v64 H9 fun v65=>
 lenV tab 24 v65 fun v66=>
 L74_2 K N1 v0 v3 v5 v6 v7 v61 v65 v66 (AV.p (.int .i64 0)) H9)
 (K v6 H)
def B74_0 (K:AV→Heap→Prop) (N1:AV→Heap→Prop) (v0:AV) (v3:AV) (v20:AV) (v21:AV) (H:Heap):Prop:=
 binV tab .lss 3 v21 v20 fun v22=>
 cV_ v22 (CallT Try.prog 86 [v3,v21] H fun v26 H3=>
 binV tab .add 3 v21 (AV.p (.int .i64 1)) fun v27=>
 N1 v27 H3)
 (lenV tab 26 v0 fun v31=>
 safeV (makeN tab 81 v31 v31)∧
 CallT Try.prog 85 [v0] H fun v29 H4=>
 newV (makeN tab 81 v31 v31) H4 fun v32 H5=>
 buildV tab 103 [(0,v29),(1,v32)] fun v33=>
 boxV v33 H5 fun v34 H6=>
 lenV tab 26 v0 fun v36=>
 mS_ tab 24 v36 v36 H6 fun v37 H7=>
 nC_ v3 fun v39=>
 fA_ tab 103 v39 2 fun v40=>
 lV_ tab 24 v40 H7 fun v41=>
 lenV tab 24 v41 fun v42=>
 binV tab .sub 3 v42 (AV.p (.int .i64 1)) fun v43=>
 L74_1 K v0 v3 v34 v37 v43 H7)
def W74 (v0:AV) (H:Heap) (K:AV→Heap→Prop):Prop:=
 lenV tab 26 v0 fun v15=>
 mS_ tab 81 v15 v15 H fun v16 H1=>
 buildV tab 103 [(0,v0),(1,v16)] fun v17=>
 boxV v17 H1 fun v18 H2=>
 lenV tab 26 v0 fun v20=>
 L74_0 K v0 v18 v20 (AV.p (.int .i64 0)) H2
theorem W74_wp (v0:AV) (H:Heap) (K:AV→Heap→Prop):wpC Try.prog tab D74 (bO_ Try.f74) (retF tab [.tmp 2] K) (nthA [v0]) H=W74 v0 H K:=by kernel_rfl
theorem W74_ok {v0:AV} {H:Heap} {K:AV→Heap→Prop} (h:W74 v0 H K):CallT Try.prog 74 [v0] H K:=
 CallT.of_wp (D:=D74) tO_ mixed Try.func74 (c:=bO_ Try.f74) (by kernel_rfl) rfl (by kernel_rfl) (rs:=#[.tmp 2]) rfl (by decide +kernel) (by kernel_rfl) (W74_wp v0 H K) h
theorem L74_3_rule {K:AV→Heap→Prop} {N1:AV→Heap→Prop} {v0 v3 v5 v6 v7 v8 v79 v80 v81:AV} {H:Heap} {σ:Type} (s0:σ) (f81:σ→AV) (TH:σ→Heap) (pre:σ→Prop) (μ:σ→Nat)
  (h0:pre s0∧AV.wk v81 (f81 s0)∧Heap.le (TH s0) H)
  (round:∀s,pre s→B74_3 K N1 (fun w81 H'=>∃s',pre s'∧μ s' < μ s∧AV.wk w81 (f81 s')∧Heap.le (TH s') H') v0 v3 v5 v6 v7 v8 v79 v80 (f81 s) (TH s)) :
  L74_3 K N1 v0 v3 v5 v6 v7 v8 v79 v80 v81 H:=by
 unfold L74_3
 exact LoopV.mk s0 (fun s=>[f81 s]) TH pre μ (fun _=>rfl) (Eq.mp (by kernel_rfl) h0) (fun s hs=>Eq.mp (by kernel_rfl) (round s hs))
theorem L74_2_rule {K:AV→Heap→Prop} {N1:AV→Heap→Prop} {v0 v3 v5 v6 v7 v8 v65 v66 v67:AV} {H:Heap} {σ:Type} (s0:σ) (f8:σ→AV) (f67:σ→AV) (TH:σ→Heap) (pre:σ→Prop) (μ:σ→Nat)
  (h0:pre s0∧AV.wk v8 (f8 s0)∧AV.wk v67 (f67 s0)∧Heap.le (TH s0) H)
  (round:∀s,pre s→B74_2 K N1 (fun w8 w67 H'=>∃s',pre s'∧μ s' < μ s∧AV.wk w8 (f8 s')∧AV.wk w67 (f67 s')∧Heap.le (TH s') H') v0 v3 v5 v6 v7 (f8 s) v65 v66 (f67 s) (TH s)) :
  L74_2 K N1 v0 v3 v5 v6 v7 v8 v65 v66 v67 H:=by
 unfold L74_2
 exact LoopV.mk s0 (fun s=>[f8 s,f67 s]) TH pre μ (fun _=>rfl) (Eq.mp (by kernel_rfl) h0) (fun s hs=>Eq.mp (by kernel_rfl) (round s hs))
theorem L74_1_rule {K:AV→Heap→Prop} {v0 v3 v5 v6 v7:AV} {H:Heap} {σ:Type} (s0:σ) (f7:σ→AV) (TH:σ→Heap) (pre:σ→Prop) (μ:σ→Nat)
  (h0:pre s0∧AV.wk v7 (f7 s0)∧Heap.le (TH s0) H)
  (round:∀s,pre s→B74_1 K (fun w7 H'=>∃s',pre s'∧μ s' < μ s∧AV.wk w7 (f7 s')∧Heap.le (TH s') H') v0 v3 v5 v6 (f7 s) (TH s)) :
  L74_1 K v0 v3 v5 v6 v7 H:=by
 unfold L74_1
 exact LoopV.mk s0 (fun s=>[f7 s]) TH pre μ (fun _=>rfl) (Eq.mp (by kernel_rfl) h0) (fun s hs=>Eq.mp (by kernel_rfl) (round s hs))
theorem L74_0_rule {K:AV→Heap→Prop} {v0 v3 v20 v21:AV} {H:Heap} {σ:Type} (s0:σ) (f21:σ→AV) (TH:σ→Heap) (pre:σ→Prop) (μ:σ→Nat)
  (h0:pre s0∧AV.wk v21 (f21 s0)∧Heap.le (TH s0) H)
  (round:∀s,pre s→B74_0 K (fun w21 H'=>∃s',pre s'∧μ s' < μ s∧AV.wk w21 (f21 s')∧Heap.le (TH s') H') v0 v3 v20 (f21 s) (TH s)) :
  L74_0 K v0 v3 v20 v21 H:=by
 unfold L74_0
 exact LoopV.mk s0 (fun s=>[f21 s]) TH pre μ (fun _=>rfl) (Eq.mp (by kernel_rfl) h0) (fun s hs=>Eq.mp (by kernel_rfl) (round s hs))
end Go.Proofs.Ytohkciilfkhomaa
namespace Go.Proofs.Ytohkciilfkhomaa
open Go Go.Sep
attribute [local irreducible] wpC headF
def D75:Info:=⟨48,fun i=>if i=8 then ([[],[],[0,1],[0,1,2],[],[],[4,5],[4,5,6],[0,1,2,3,4,5,6,7]],[(0,[]),(1,[]),(2,[]),(3,[]),(4,[]),(5,[]),(6,[]),(7,[]),(8,[])]) else ([],[]),fun i=>if i=3 then ([1,5,13,14],[15]) else if i=6 then ([1,5,6,13,14,15,20,21],[22]) else ([],[])⟩
def L75_0 (K:AV→Heap→Prop) (v1:AV) (v5:AV) (v13:AV) (v14:AV) (v15:AV) (H:Heap):Prop:=LoopV (wpC Try.prog tab D75 (cAt [1,1,0,1,0,0] (bO_ Try.f75))) [1,5,13,14] (PostF.block 0 (PostF.thenA (wpC Try.prog tab D75 (cAt [1,1,1] (bO_ Try.f75))) (retF tab [.tmp 4] K))) [15] [Q_,v1,Q_,Q_,Q_,v5,Q_,Q_,Q_,Q_,Q_,Q_,Q_,v13,v14,v15,Q_,Q_,Q_,Q_,Q_,Q_,Q_,Q_,Q_,Q_,Q_,Q_,Q_,Q_,Q_,Q_,Q_,Q_,Q_,Q_,Q_,Q_,Q_,Q_,Q_,Q_,Q_,Q_,Q_,Q_,Q_,Q_] H
def L75_1 (K:AV→Heap→Prop) (N1:AV→Heap→Prop) (v1:AV) (v5:AV) (v6:AV) (v13:AV) (v14:AV) (v15:AV) (v20:AV) (v21:AV) (v22:AV) (H:Heap):Prop:=LoopV (wpC Try.prog tab D75 (cAt [1,1,0,1,0,0,1,1,0,0,1,1,0,0] (bO_ Try.f75))) [1,5,6,13,14,15,20,21] (PostF.block 2 (PostF.block 1 (PostF.thenA (wpC Try.prog tab D75 (cAt [1,1,0,1,0,0,1,1,1] (bO_ Try.f75))) (loopF (PostF.block 0 (PostF.thenA (wpC Try.prog tab D75 (cAt [1,1,1] (bO_ Try.f75))) (retF tab [.tmp 4] K))) (fun e h=>N1 (e 15) h))))) [22] [Q_,v1,Q_,Q_,Q_,v5,v6,Q_,Q_,Q_,Q_,Q_,Q_,v13,v14,v15,Q_,Q_,Q_,Q_,v20,v21,v22,Q_,Q_,Q_,Q_,Q_,Q_,Q_,Q_,Q_,Q_,Q_,Q_,Q_,Q_,Q_,Q_,Q_,Q_,Q_,Q_,Q_,Q_,Q_,Q_,Q_] H
def B75_1 (K:AV→Heap→Prop) (N1:AV→Heap→Prop) (N2:AV→Heap→Prop) (v1:AV) (v5:AV) (v6:AV) (v13:AV) (v14:AV) (v15:AV) (v20:AV) (v21:AV) (v22:AV) (H:Heap):Prop:=
 binV tab .lss 3 v22 v21 fun v23=>
 cV_ v23 (iA_ tab 24 v20 v22 fun v24=>
 lV_ tab 3 v24 H fun v25=>
 iA_ tab 24 v1 v6 fun v28=>
 lV_ tab 3 v28 H fun v29=>
 iA_ tab 24 v1 v25 fun v32=>
 lV_ tab 3 v32 H fun v33=>
 binV tab .eql 3 v29 v33 fun v34=>
 cV_ v34 (iA_ tab 26 v5 v6 fun v39=>
 lV_ tab 24 v39 H fun v40=>
 bS_ tab 24 1 [(0,v25)] H (wkK fun v42 H2=>
 aP_ tab 24 24 v40 v42 H2 (wkK fun v43 H3=>
 iA_ tab 26 v5 v6 fun v44=>
 sV_ tab 24 v44 v43 H3 fun H4=>
 binV tab .add 3 v22 (AV.p (.int .i64 1)) fun v45=>
 N2 v45 H4)))
 (binV tab .add 3 v22 (AV.p (.int .i64 1)) fun v45=>
 N2 v45 H))
 (binV tab .add 3 v15 (AV.p (.int .i64 1)) fun v46=>
 N1 v46 H)
def B75_0 (K:AV→Heap→Prop) (N1:AV→Heap→Prop) (v1:AV) (v5:AV) (v13:AV) (v14:AV) (v15:AV) (H:Heap):Prop:=
 binV tab .lss 3 v15 v14 fun v16=>
 cV_ v16 (iA_ tab 26 v13 v15 fun v18=>
 lV_ tab 24 v18 H fun v19=>
 lenV tab 24 v19 fun v21=>
 L75_1 K N1 v1 v5 v15 v13 v14 v15 v19 v21 (AV.p (.int .i64 0)) H)
 (K v5 H)
def W75 (v0:AV) (v1:AV) (H:Heap) (K:AV→Heap→Prop):Prop:=
 lenV tab 26 v0 fun v11=>
 mS_ tab 26 v11 v11 H fun v12 H1=>
 lenV tab 26 v0 fun v14=>
 L75_0 K v1 v12 v0 v14 (AV.p (.int .i64 0)) H1
theorem W75_wp (v0:AV) (v1:AV) (H:Heap) (K:AV→Heap→Prop):wpC Try.prog tab D75 (bO_ Try.f75) (retF tab [.tmp 4] K) (nthA [v0,v1]) H=W75 v0 v1 H K:=by kernel_rfl
theorem W75_ok {v0 v1:AV} {H:Heap} {K:AV→Heap→Prop} (h:W75 v0 v1 H K):CallT Try.prog 75 [v0,v1] H K:=
 CallT.of_wp (D:=D75) tO_ mixed Try.func75 (c:=bO_ Try.f75) (by kernel_rfl) rfl (by kernel_rfl) (rs:=#[.tmp 4]) rfl (by decide +kernel) (by kernel_rfl) (W75_wp v0 v1 H K) h
theorem L75_1_rule {K:AV→Heap→Prop} {N1:AV→Heap→Prop} {v1 v5 v6 v13 v14 v15 v20 v21 v22:AV} {H:Heap} {σ:Type} (s0:σ) (f22:σ→AV) (TH:σ→Heap) (pre:σ→Prop) (μ:σ→Nat)
  (h0:pre s0∧AV.wk v22 (f22 s0)∧Heap.le (TH s0) H)
  (round:∀s,pre s→B75_1 K N1 (fun w22 H'=>∃s',pre s'∧μ s' < μ s∧AV.wk w22 (f22 s')∧Heap.le (TH s') H') v1 v5 v6 v13 v14 v15 v20 v21 (f22 s) (TH s)) :
  L75_1 K N1 v1 v5 v6 v13 v14 v15 v20 v21 v22 H:=by
 unfold L75_1
 exact LoopV.mk s0 (fun s=>[f22 s]) TH pre μ (fun _=>rfl) (Eq.mp (by kernel_rfl) h0) (fun s hs=>Eq.mp (by kernel_rfl) (round s hs))
theorem L75_0_rule {K:AV→Heap→Prop} {v1 v5 v13 v14 v15:AV} {H:Heap} {σ:Type} (s0:σ) (f15:σ→AV) (TH:σ→Heap) (pre:σ→Prop) (μ:σ→Nat)
  (h0:pre s0∧AV.wk v15 (f15 s0)∧Heap.le (TH s0) H)
  (round:∀s,pre s→B75_0 K (fun w15 H'=>∃s',pre s'∧μ s' < μ s∧AV.wk w15 (f15 s')∧Heap.le (TH s') H') v1 v5 v13 v14 (f15 s) (TH s)) :
  L75_0 K v1 v5 v13 v14 v15 H:=by
 unfold L75_0
 exact LoopV.mk s0 (fun s=>[f15 s]) TH pre μ (fun _=>rfl) (Eq.mp (by kernel_rfl) h0) (fun s hs=>Eq.mp (by kernel_rfl) (round s hs))
def D76:Info:=⟨9,fun i=>([],[]),fun i=>([],[])⟩
def W76 (v0:AV) (v1:AV) (H:Heap) (K:AV→Heap→Prop):Prop:=
 CallT Try.prog 87 [v0,v1] H fun v7 H1=>
 binV tab .geq 3 v7 (AV.p (.int .i64 0)) fun v8=>
 K v8 H1
theorem W76_wp (v0:AV) (v1:AV) (H:Heap) (K:AV→Heap→Prop):wpC Try.prog tab D76 (bO_ Try.f76) (retF tab [.tmp 4] K) (nthA [v0,v1]) H=W76 v0 v1 H K:=by kernel_rfl
theorem W76_ok {v0 v1:AV} {H:Heap} {K:AV→Heap→Prop} (h:W76 v0 v1 H K):CallT Try.prog 76 [v0,v1] H K:=
 CallT.of_wp (D:=D76) tO_ mixed Try.func76 (c:=bO_ Try.f76) (by kernel_rfl) rfl (by kernel_rfl) (rs:=#[.tmp 4]) rfl (by decide +kernel) (by kernel_rfl) (W76_wp v0 v1 H K) h
def D77:Info:=⟨9,fun i=>([],[]),fun i=>([],[])⟩
def W77 (v0:AV) (H:Heap) (K:AV→Heap→Prop):Prop:=
 binV tab .lss 3 v0 (AV.p (.int .i64 0)) fun v4=>
 grdV v4 false (binV tab .geq 3 v0 (AV.p (.int .i64 8)) fun v7=>
 K v7 H)
 (K (AV.p (.bool true)) H)
theorem W77_wp (v0:AV) (H:Heap) (K:AV→Heap→Prop):wpC Try.prog tab D77 (bO_ Try.f77) (retF tab [.tmp 2] K) (nthA [v0]) H=W77 v0 H K:=by kernel_rfl
theorem W77_ok {v0:AV} {H:Heap} {K:AV→Heap→Prop} (h:W77 v0 H K):CallT Try.prog 77 [v0] H K:=
 CallT.of_wp (D:=D77) tO_ mixed Try.func77 (c:=bO_ Try.f77) (by kernel_rfl) rfl (by kernel_rfl) (rs:=#[.tmp 2]) rfl (by decide +kernel) (by kernel_rfl) (W77_wp v0 H K) h
def D78:Info:=⟨48,fun i=>if i=9 then ([[],[],[],[1,2],[],[],[4,5],[1,2,3,4,5,6],[0,1,2,3,4,5,6,7],[0,1,2,3,4,5,6,7,8]],[(0,[]),(1,[]),(2,[]),(3,[]),(4,[]),(5,[]),(6,[]),(7,[]),(8,[]),(9,[])]) else ([],[]),fun i=>if i=8 then ([7],[8]) else ([],[])⟩
def L78_0 (K:AV→Heap→Prop) (v7:AV) (v8:AV) (H:Heap):Prop:=LoopV (wpC Try.prog tab D78 (cAt [1,1,1,1,1,1,0,0,0] (bO_ Try.f78))) [7] (PostF.block 0 (PostF.thenA (wpC Try.prog tab D78 (cAt [1,1,1,1,1,1,1] (bO_ Try.f78))) (retF tab [.tmp 4] K))) [8] [Q_,Q_,Q_,Q_,Q_,Q_,Q_,v7,v8,Q_,Q_,Q_,Q_,Q_,Q_,Q_,Q_,Q_,Q_,Q_,Q_,Q_,Q_,Q_,Q_,Q_,Q_,Q_,Q_,Q_,Q_,Q_,Q_,Q_,Q_,Q_,Q_,Q_,Q_,Q_,Q_,Q_,Q_,Q_,Q_,Q_,Q_,Q_] H
def B78_0 (K:AV→Heap→Prop) (N1:AV→Heap→Prop) (v7:AV) (v8:AV) (H:Heap):Prop:=
 lenV tab 24 v7 fun v36=>
 binV tab .lss 3 v8 v36 fun v37=>
 cV_ v37 (sliceV tab 24 v7 (some v8) none none fun v41=>
 sliceV tab 24 v7 none (some v8) none fun v44=>
 copyV tab 24 v41 v44 H fun v45 H4=>
 binV tab .add 3 v8 v45 fun v46=>
 N1 v46 H4)
 (K v7 H)
def W78 (v0:AV) (v1:AV) (H:Heap) (K:AV→Heap→Prop):Prop:=
 binV tab .lss 3 v1 (AV.p (.int .i64 0)) fun v10=>
 cV_ v10 (False)
 (lenV tab 24 v0 fun v14=>
 convV tab 3 98 v14 fun v15=>
 convV tab 3 98 v1 fun v17=>
 CallT Try.prog 88 [v15,v17] H fun v18 H1=>
 xV_ v18 0 fun v19=>
 xV_ v18 1 fun v20=>
 binV tab .gtr 98 v19 (AV.p (.int .u64 0)) fun v22=>
 grdV v22 false (binV tab .gtr 98 v20 (AV.p (.int .u64 9223372036854775807)) fun v25=>
 cV_ v25 (False)
 (convV tab 98 3 v20 fun v29=>
 mS_ tab 24 v29 v29 H1 fun v30 H2=>
 copyV tab 24 v30 v0 H2 fun v33 H3=>
 L78_0 K v30 v33 H3))
 (False))
theorem W78_wp (v0:AV) (v1:AV) (H:Heap) (K:AV→Heap→Prop):wpC Try.prog tab D78 (bO_ Try.f78) (retF tab [.tmp 4] K) (nthA [v0,v1]) H=W78 v0 v1 H K:=by kernel_rfl
theorem W78_ok {v0 v1:AV} {H:Heap} {K:AV→Heap→Prop} (h:W78 v0 v1 H K):CallT Try.prog 78 [v0,v1] H K:=
 CallT.of_wp (D:=D78) tO_ mixed Try.func78 (c:=bO_ Try.f78) (by kernel_rfl) rfl (by kernel_rfl) (rs:=#[.tmp 4]) rfl (by decide +kernel) (by kernel_rfl) (W78_wp v0 v1 H K) h
theorem L78_0_rule {K:AV→Heap→Prop} {v7 v8:AV} {H:Heap} {σ:Type} (s0:σ) (f8:σ→AV) (TH:σ→Heap) (pre:σ→Prop) (μ:σ→Nat)
  (h0:pre s0∧AV.wk v8 (f8 s0)∧Heap.le (TH s0) H)
  (round:∀s,pre s→B78_0 K (fun w8 H'=>∃s',pre s'∧μ s' < μ s∧AV.wk w8 (f8 s')∧Heap.le (TH s') H') v7 (f8 s) (TH s)) :
  L78_0 K v7 v8 H:=by
 unfold L78_0
 exact LoopV.mk s0 (fun s=>[f8 s]) TH pre μ (fun _=>rfl) (Eq.mp (by kernel_rfl) h0) (fun s hs=>Eq.mp (by kernel_rfl) (round s hs))
def D79:Info:=⟨8,fun i=>([],[]),fun i=>([],[])⟩
def W79 (v0:AV) (H:Heap) (K:AV→Heap→Prop):Prop:=
 binV tab .eql 24 v0 (AV.p .nil) fun v4=>
 cV_ v4 (K (AV.p .nil) H)
 (bS_ tab 24 0 [] H (wkK fun v5 H1=>
 aP_ tab 24 24 v5 v0 H1 (wkK fun v7 H2=>
 K v7 H2)))
theorem W79_wp (v0:AV) (H:Heap) (K:AV→Heap→Prop):wpC Try.prog tab D79 (bO_ Try.f79) (retF tab [.tmp 2] K) (nthA [v0]) H=W79 v0 H K:=by kernel_rfl
theorem W79_ok {v0:AV} {H:Heap} {K:AV→Heap→Prop} (h:W79 v0 H K):CallT Try.prog 79 [v0] H K:=
 CallT.of_wp (D:=D79) tO_ mixed Try.func79 (c:=bO_ Try.f79) (by kernel_rfl) rfl (by kernel_rfl) (rs:=#[.tmp 2]) rfl (by decide +kernel) (by kernel_rfl) (W79_wp v0 H K) h
theorem W79_hb:HasBody Try.prog 79:=⟨_,bO_ Try.f79,Try.func79,by kernel_rfl,rfl⟩
def D80:Info:=⟨39,fun i=>if i=2 then ([[],[],[1],[],[3],[],[],[5,6],[0,1,2,3,4,5,6,7],[0,1,2,3,4,5,6,7,8],[0,1,2,3,4,5,6,7,8,9]],[(0,[]),(1,[]),(3,[]),(6,[]),(5,[2,4]),(7,[2,4]),(2,[2,4]),(4,[4]),(8,[]),(9,[]),(10,[])]) else ([],[]),fun i=>if i=4 then ([4,19],[20]) else ([],[])⟩
def L80_0 (K:AV→Heap→Prop) (v4:AV) (v19:AV) (v20:AV) (H:Heap):Prop:=LoopV (wpC Try.prog tab D80 (cAt [1,1,1,0,1,0,0] (bO_ Try.f80))) [4,19] (PostF.block 0 (PostF.thenA (wpC Try.prog tab D80 (cAt [1,1,1,1] (bO_ Try.f80))) (retF tab [.tmp 2] K))) [20] [Q_,Q_,Q_,Q_,v4,Q_,Q_,Q_,Q_,Q_,Q_,Q_,Q_,Q_,Q_,Q_,Q_,Q_,Q_,v19,v20,Q_,Q_,Q_,Q_,Q_,Q_,Q_,Q_,Q_,Q_,Q_,Q_,Q_,Q_,Q_,Q_,Q_,Q_] H
def B80_0 (K:AV→Heap→Prop) (N1:AV→Heap→Prop) (v4:AV) (v19:AV) (v20:AV) (H:Heap):Prop:=
 binV tab .lss 3 v20 v19 fun v21=>
 cV_ v21 (nC_ v4 fun v24=>
 fA_ tab 110 v24 1 fun v25=>
 lV_ tab 24 v25 H fun v26=>
 iA_ tab 24 v26 v20 fun v28=>
 lV_ tab 3 v28 H fun v29=>
 binV tab .eql 3 v29 (AV.p (.int .i64 0)) fun v30=>
 cV_ v30 (CallT Try.prog 89 [v4,v20] H fun v33 H6=>
 binV tab .add 3 v20 (AV.p (.int .i64 1)) fun v34=>
 N1 v34 H6)
 (binV tab .add 3 v20 (AV.p (.int .i64 1)) fun v34=>
 N1 v34 H))
 (nC_ v4 fun v36=>
 fA_ tab 110 v36 3 fun v37=>
 lV_ tab 24 v37 H fun v38=>
 K v38 H)
def W80 (v0:AV) (H:Heap) (K:AV→Heap→Prop):Prop:=
 lenV tab 26 v0 fun v7=>
 safeV (makeN tab 24 v7 v7)∧
 safeV (makeN tab 24 v7 v7)∧
 bS_ tab 24 1 [(0,(AV.p (.int .i64 (-1))))] H (wkK fun v13 H1=>
 safeV (makeN tab 24 v7 v7)∧
 safeV (makeN tab 24 v7 v7)∧
 CallT Try.prog 78 [v13,v7] H1 fun v15 H2=>
 safeV (makeN tab 24 v7 v7)∧
 newV (makeN tab 24 v7 v7) H2 fun v10 H3=>
 newV (makeN tab 24 v7 v7) H3 fun v12 H4=>
 buildV tab 110 [(0,v0),(1,v10),(2,v12),(3,v15)] fun v16=>
 boxV v16 H4 fun v17 H5=>
 lenV tab 26 v0 fun v19=>
 L80_0 K v17 v19 (AV.p (.int .i64 0)) H5)
theorem W80_wp (v0:AV) (H:Heap) (K:AV→Heap→Prop):wpC Try.prog tab D80 (bO_ Try.f80) (retF tab [.tmp 2] K) (nthA [v0]) H=W80 v0 H K:=by kernel_rfl
theorem W80_ok {v0:AV} {H:Heap} {K:AV→Heap→Prop} (h:W80 v0 H K):CallT Try.prog 80 [v0] H K:=
 CallT.of_wp (D:=D80) tO_ mixed Try.func80 (c:=bO_ Try.f80) (by kernel_rfl) rfl (by kernel_rfl) (rs:=#[.tmp 2]) rfl (by decide +kernel) (by kernel_rfl) (W80_wp v0 H K) h
theorem L80_0_rule {K:AV→Heap→Prop} {v4 v19 v20:AV} {H:Heap} {σ:Type} (s0:σ) (f20:σ→AV) (TH:σ→Heap) (pre:σ→Prop) (μ:σ→Nat)
  (h0:pre s0∧AV.wk v20 (f20 s0)∧Heap.le (TH s0) H)
  (round:∀s,pre s→B80_0 K (fun w20 H'=>∃s',pre s'∧μ s' < μ s∧AV.wk w20 (f20 s')∧Heap.le (TH s') H') v4 v19 (f20 s) (TH s)) :
  L80_0 K v4 v19 v20 H:=by
 unfold L80_0
 exact LoopV.mk s0 (fun s=>[f20 s]) TH pre μ (fun _=>rfl) (Eq.mp (by kernel_rfl) h0) (fun s hs=>Eq.mp (by kernel_rfl) (round s hs))
def D83:Info:=⟨19,fun i=>([],[]),fun i=>if i=2 then ([0,1,7],[8]) else ([],[])⟩
def L83_0 (K:AV→Heap→Prop) (v0:AV) (v1:AV) (v7:AV) (v8:AV) (H:Heap):Prop:=LoopV (wpC Try.prog tab D83 (cAt [1,0,1,0,0] (bO_ Try.f83))) [0,1,7] (PostF.block 0 (PostF.thenA (wpC Try.prog tab D83 (cAt [1,1] (bO_ Try.f83))) (retF tab [.tmp 4] K))) [8] [v0,v1,Q_,Q_,Q_,Q_,Q_,v7,v8,Q_,Q_,Q_,Q_,Q_,Q_,Q_,Q_,Q_,Q_] H
def B83_0 (K:AV→Heap→Prop) (N1:AV→Heap→Prop) (v0:AV) (v1:AV) (v7:AV) (v8:AV) (H:Heap):Prop:=
 binV tab .lss 3 v8 v7 fun v9=>
 cV_ v9 (iA_ tab 26 v0 v8 fun v14=>
 lV_ tab 24 v14 H fun v15=>
 callF Try.prog v1 [v15] H fun v16 H1=>
 cV_ v16 (K v8 H1)
 (binV tab .add 3 v8 (AV.p (.int .i64 1)) fun v18=>
 N1 v18 H1))
 (K (AV.p (.int .i64 (-1))) H)
def W83 (v0:AV) (v1:AV) (H:Heap) (K:AV→Heap→Prop):Prop:=
 lenV tab 26 v0 fun v7=>
 L83_0 K v0 v1 v7 (AV.p (.int .i64 0)) H
theorem W83_wp (v0:AV) (v1:AV) (H:Heap) (K:AV→Heap→Prop):wpC Try.prog tab D83 (bO_ Try.f83) (retF tab [.tmp 4] K) (nthA [v0,v1]) H=W83 v0 v1 H K:=by kernel_rfl
theorem W83_ok {v0 v1:AV} {H:Heap} {K:AV→Heap→Prop} (h:W83 v0 v1 H K):CallT Try.prog 83 [v0,v1] H K:=
 CallT.of_wp (D:=D83) tO_ mixed Try.func83 (c:=bO_ Try.f83) (by kernel_rfl) rfl (by kernel_rfl) (rs:=#[.tmp 4]) rfl (by decide +kernel) (by kernel_rfl) (W83_wp v0 v1 H K) h
theorem L83_0_rule {K:AV→Heap→Prop} {v0 v1 v7 v8:AV} {H:Heap} {σ:Type} (s0:σ) (f8:σ→AV) (TH:σ→Heap) (pre:σ→Prop) (μ:σ→Nat)
  (h0:pre s0∧AV.wk v8 (f8 s0)∧Heap.le (TH s0) H)
  (round:∀s,pre s→B83_0 K (fun w8 H'=>∃s',pre s'∧μ s' < μ s∧AV.wk w8 (f8 s')∧Heap.le (TH s') H') v0 v1 v7 (f8 s) (TH s)) :
  L83_0 K v0 v1 v7 v8 H:=by
 unfold L83_0
 exact LoopV.mk s0 (fun s=>[f8 s]) TH pre μ (fun _=>rfl) (Eq.mp (by kernel_rfl) h0) (fun s hs=>Eq.mp (by kernel_rfl) (round s hs))
def D84:Info:=⟨6,fun i=>([],[]),fun i=>([],[])⟩
def W84 (v0:AV) (H:Heap) (K:AV→Heap→Prop):Prop:=
 binV tab .neq 3 v0 v0 fun v5=>
 K v5 H
theorem W84_wp (v0:AV) (H:Heap) (K:AV→Heap→Prop):wpC Try.prog tab D84 (bO_ Try.f84) (retF tab [.tmp 2] K) (nthA [v0]) H=W84 v0 H K:=by kernel_rfl
theorem W84_ok {v0:AV} {H:Heap} {K:AV→Heap→Prop} (h:W84 v0 H K):CallT Try.prog 84 [v0] H K:=
 CallT.of_wp (D:=D84) tO_ mixed Try.func84 (c:=bO_ Try.f84) (by kernel_rfl) rfl (by kernel_rfl) (rs:=#[.tmp 2]) rfl (by decide +kernel) (by kernel_rfl) (W84_wp v0 H K) h
def D85:Info:=⟨37,fun i=>([],[]),fun i=>if i=3 then ([3,11,12],[13]) else if i=6 then ([3,4,11,12,13,18,19],[20]) else ([],[])⟩
def L85_0 (K:AV→Heap→Prop) (v3:AV) (v11:AV) (v12:AV) (v13:AV) (H:Heap):Prop:=LoopV (wpC Try.prog tab D85 (cAt [1,1,0,1,0,0] (bO_ Try.f85))) [3,11,12] (PostF.block 0 (PostF.thenA (wpC Try.prog tab D85 (cAt [1,1,1] (bO_ Try.f85))) (retF tab [.tmp 2] K))) [13] [Q_,Q_,Q_,v3,Q_,Q_,Q_,Q_,Q_,Q_,Q_,v11,v12,v13,Q_,Q_,Q_,Q_,Q_,Q_,Q_,Q_,Q_,Q_,Q_,Q_,Q_,Q_,Q_,Q_,Q_,Q_,Q_,Q_,Q_,Q_,Q_] H
def L85_1 (K:AV→Heap→Prop) (N1:AV→Heap→Prop) (v3:AV) (v4:AV) (v11:AV) (v12:AV) (v13:AV) (v18:AV) (v19:AV) (v20:AV) (H:Heap):Prop:=LoopV (wpC Try.prog tab D85 (cAt [1,1,0,1,0,0,1,1,0,0,1,1,0,0] (bO_ Try.f85))) [3,4,11,12,13,18,19] (PostF.block 2 (PostF.block 1 (PostF.thenA (wpC Try.prog tab D85 (cAt [1,1,0,1,0,0,1,1,1] (bO_ Try.f85))) (loopF (PostF.block 0 (PostF.thenA (wpC Try.prog tab D85 (cAt [1,1,1] (bO_ Try.f85))) (retF tab [.tmp 2] K))) (fun e h=>N1 (e 13) h))))) [20] [Q_,Q_,Q_,v3,v4,Q_,Q_,Q_,Q_,Q_,Q_,v11,v12,v13,Q_,Q_,Q_,Q_,v18,v19,v20,Q_,Q_,Q_,Q_,Q_,Q_,Q_,Q_,Q_,Q_,Q_,Q_,Q_,Q_,Q_,Q_] H
def B85_1 (K:AV→Heap→Prop) (N1:AV→Heap→Prop) (N2:AV→Heap→Prop) (v3:AV) (v4:AV) (v11:AV) (v12:AV) (v13:AV) (v18:AV) (v19:AV) (v20:AV) (H:Heap):Prop:=
 binV tab .lss 3 v20 v19 fun v21=>
 cV_ v21 (iA_ tab 24 v18 v20 fun v22=>
 lV_ tab 3 v22 H fun v23=>
 iA_ tab 26 v3 v23 fun v28=>
 lV_ tab 24 v28 H fun v29=>
 bS_ tab 24 1 [(0,v4)] H (wkK fun v31 H2=>
 aP_ tab 24 24 v29 v31 H2 (wkK fun v32 H3=>
 iA_ tab 26 v3 v23 fun v33=>
 sV_ tab 24 v33 v32 H3 fun H4=>
 binV tab .add 3 v20 (AV.p (.int .i64 1)) fun v34=>
 N2 v34 H4)))
 (binV tab .add 3 v13 (AV.p (.int .i64 1)) fun v35=>
 N1 v35 H)
def B85_0 (K:AV→Heap→Prop) (N1:AV→Heap→Prop) (v3:AV) (v11:AV) (v12:AV) (v13:AV) (H:Heap):Prop:=
 binV tab .lss 3 v13 v12 fun v14=>
 cV_ v14 (iA_ tab 26 v11 v13 fun v16=>
 lV_ tab 24 v16 H fun v17=>
 lenV tab 24 v17 fun v19=>
 L85_1 K N1 v3 v13 v11 v12 v13 v17 v19 (AV.p (.int .i64 0)) H)
 (K v3 H)
def W85 (v0:AV) (H:Heap) (K:AV→Heap→Prop):Prop:=
 lenV tab 26 v0 fun v9=>
 mS_ tab 26 v9 v9 H fun v10 H1=>
 lenV tab 26 v0 fun v12=>
 L85_0 K v10 v0 v12 (AV.p (.int .i64 0)) H1
theorem W85_wp (v0:AV) (H:Heap) (K:AV→Heap→Prop):wpC Try.prog tab D85 (bO_ Try.f85) (retF tab [.tmp 2] K) (nthA [v0]) H=W85 v0 H K:=by kernel_rfl
theorem W85_ok {v0:AV} {H:Heap} {K:AV→Heap→Prop} (h:W85 v0 H K):CallT Try.prog 85 [v0] H K:=
 CallT.of_wp (D:=D85) tO_ mixed Try.func85 (c:=bO_ Try.f85) (by kernel_rfl) rfl (by kernel_rfl) (rs:=#[.tmp 2]) rfl (by decide +kernel) (by kernel_rfl) (W85_wp v0 H K) h
theorem L85_1_rule {K:AV→Heap→Prop} {N1:AV→Heap→Prop} {v3 v4 v11 v12 v13 v18 v19 v20:AV} {H:Heap} {σ:Type} (s0:σ) (f20:σ→AV) (TH:σ→Heap) (pre:σ→Prop) (μ:σ→Nat)
  (h0:pre s0∧AV.wk v20 (f20 s0)∧Heap.le (TH s0) H)
  (round:∀s,pre s→B85_1 K N1 (fun w20 H'=>∃s',pre s'∧μ s' < μ s∧AV.wk w20 (f20 s')∧Heap.le (TH s') H') v3 v4 v11 v12 v13 v18 v19 (f20 s) (TH s)) :
  L85_1 K N1 v3 v4 v11 v12 v13 v18 v19 v20 H:=by
 unfold L85_1
 exact LoopV.mk s0 (fun s=>[f20 s]) TH pre μ (fun _=>rfl) (Eq.mp (by kernel_rfl) h0) (fun s hs=>Eq.mp (by kernel_rfl) (round s hs))
theorem L85_0_rule {K:AV→Heap→Prop} {v3 v11 v12 v13:AV} {H:Heap} {σ:Type} (s0:σ) (f13:σ→AV) (TH:σ→Heap) (pre:σ→Prop) (μ:σ→Nat)
  (h0:pre s0∧AV.wk v13 (f13 s0)∧Heap.le (TH s0) H)
  (round:∀s,pre s→B85_0 K (fun w13 H'=>∃s',pre s'∧μ s' < μ s∧AV.wk w13 (f13 s')∧Heap.le (TH s') H') v3 v11 v12 (f13 s) (TH s)) :
  L85_0 K v3 v11 v12 v13 H:=by
 unfold L85_0
 exact LoopV.mk s0 (fun s=>[f13 s]) TH pre μ (fun _=>rfl) (Eq.mp (by kernel_rfl) h0) (fun s hs=>Eq.mp (by kernel_rfl) (round s hs))
def D86:Info:=⟨45,fun i=>([],[]),fun i=>if i=3 then ([0,1,25,26],[27]) else ([],[])⟩
def L86_0 (K:AV→Heap→Prop) (v0:AV) (v1:AV) (v25:AV) (v26:AV) (v27:AV) (H:Heap):Prop:=LoopV (wpC Try.prog tab D86 (cAt [1,1,0,1,0,0] (bO_ Try.f86))) [0,1,25,26] (PostF.block 0 (PostF.thenA (wpC Try.prog tab D86 (cAt [1,1,1] (bO_ Try.f86))) (retF tab [] K))) [27] [v0,v1,Q_,Q_,Q_,Q_,Q_,Q_,Q_,Q_,Q_,Q_,Q_,Q_,Q_,Q_,Q_,Q_,Q_,Q_,Q_,Q_,Q_,Q_,Q_,v25,v26,v27,Q_,Q_,Q_,Q_,Q_,Q_,Q_,Q_,Q_,Q_,Q_,Q_,Q_,Q_,Q_,Q_,Q_] H
def B86_0 (K:AV→Heap→Prop) (N1:AV→Heap→Prop) (v0:AV) (v1:AV) (v25:AV) (v26:AV) (v27:AV) (H:Heap):Prop:=
 binV tab .lss 3 v27 v26 fun v28=>
 cV_ v28 (iA_ tab 24 v25 v27 fun v29=>
 lV_ tab 3 v29 H fun v30=>
 CallT Try.prog 86 [v0,v30] H fun v33 H2=>
 binV tab .add 3 v27 (AV.p (.int .i64 1)) fun v34=>
 N1 v34 H2)
 (nC_ v0 fun v37=>
 fA_ tab 103 v37 2 fun v38=>
 lV_ tab 24 v38 H fun v39=>
 bS_ tab 24 1 [(0,v1)] H (wkK fun v41 H3=>
 aP_ tab 24 24 v39 v41 H3 (wkK fun v42 H4=>
 nC_ v0 fun v43=>
 fA_ tab 103 v43 2 fun v44=>
 sV_ tab 24 v44 v42 H4 fun H5=>
 K (.tup []) H5)))
def W86 (v0:AV) (v1:AV) (H:Heap) (K:AV→Heap→Prop):Prop:=
 nC_ v0 fun v7=>
 fA_ tab 103 v7 1 fun v8=>
 lV_ tab 81 v8 H fun v9=>
 iA_ tab 81 v9 v1 fun v11=>
 lV_ tab 4 v11 H fun v12=>
 cV_ v12 (K (.tup []) H)
 (nC_ v0 fun v14=>
 fA_ tab 103 v14 1 fun v15=>
 lV_ tab 81 v15 H fun v16=>
 iA_ tab 81 v16 v1 fun v18=>
 sV_ tab 4 v18 (AV.p (.bool true)) H fun H1=>
 nC_ v0 fun v20=>
 fA_ tab 103 v20 0 fun v21=>
 lV_ tab 26 v21 H1 fun v22=>
 iA_ tab 26 v22 v1 fun v24=>
 lV_ tab 24 v24 H1 fun v25=>
 lenV tab 24 v25 fun v26=>
 L86_0 K v0 v1 v25 v26 (AV.p (.int .i64 0)) H1)
theorem W86_wp (v0:AV) (v1:AV) (H:Heap) (K:AV→Heap→Prop):wpC Try.prog tab D86 (bO_ Try.f86) (retF tab [] K) (nthA [v0,v1]) H=W86 v0 v1 H K:=by kernel_rfl
theorem W86_ok {v0 v1:AV} {H:Heap} {K:AV→Heap→Prop} (h:W86 v0 v1 H K):CallT Try.prog 86 [v0,v1] H K:=
 CallT.of_wp (D:=D86) tO_ mixed Try.func86 (c:=bO_ Try.f86) (by kernel_rfl) rfl (by kernel_rfl) (rs:=#[]) rfl (by decide +kernel) (by kernel_rfl) (W86_wp v0 v1 H K) h
theorem L86_0_rule {K:AV→Heap→Prop} {v0 v1 v25 v26 v27:AV} {H:Heap} {σ:Type} (s0:σ) (f27:σ→AV) (TH:σ→Heap) (pre:σ→Prop) (μ:σ→Nat)
  (h0:pre s0∧AV.wk v27 (f27 s0)∧Heap.le (TH s0) H)
  (round:∀s,pre s→B86_0 K (fun w27 H'=>∃s',pre s'∧μ s' < μ s∧AV.wk w27 (f27 s')∧Heap.le (TH s') H') v0 v1 v25 v26 (f27 s) (TH s)) :
  L86_0 K v0 v1 v25 v26 v27 H:=by
 unfold L86_0
 exact LoopV.mk s0 (fun s=>[f27 s]) TH pre μ (fun _=>rfl) (Eq.mp (by kernel_rfl) h0) (fun s hs=>Eq.mp (by kernel_rfl) (round s hs))
def D87:Info:=⟨19,fun i=>([],[]),fun i=>if i=2 then ([0,1,7],[8]) else ([],[])⟩
def L87_0 (K:AV→Heap→Prop) (v0:AV) (v1:AV) (v7:AV) (v8:AV) (H:Heap):Prop:=LoopV (wpC Try.prog tab D87 (cAt [1,0,1,0,0] (bO_ Try.f87))) [0,1,7] (PostF.block 0 (PostF.thenA (wpC Try.prog tab D87 (cAt [1,1] (bO_ Try.f87))) (retF tab [.tmp 4] K))) [8] [v0,v1,Q_,Q_,Q_,Q_,Q_,v7,v8,Q_,Q_,Q_,Q_,Q_,Q_,Q_,Q_,Q_,Q_] H
def B87_0 (K:AV→Heap→Prop) (N1:AV→Heap→Prop) (v0:AV) (v1:AV) (v7:AV) (v8:AV) (H:Heap):Prop:=
 binV tab .lss 3 v8 v7 fun v9=>
 cV_ v9 (iA_ tab 24 v0 v8 fun v14=>
 lV_ tab 3 v14 H fun v15=>
 callF Try.prog v1 [v15] H fun v16 H1=>
 cV_ v16 (K v8 H1)
 (binV tab .add 3 v8 (AV.p (.int .i64 1)) fun v18=>
 N1 v18 H1))
 (K (AV.p (.int .i64 (-1))) H)
def W87 (v0:AV) (v1:AV) (H:Heap) (K:AV→Heap→Prop):Prop:=
 lenV tab 24 v0 fun v7=>
 L87_0 K v0 v1 v7 (AV.p (.int .i64 0)) H
theorem W87_wp (v0:AV) (v1:AV) (H:Heap) (K:AV→Heap→Prop):wpC Try.prog tab D87 (bO_ Try.f87) (retF tab [.tmp 4] K) (nthA [v0,v1]) H=W87 v0 v1 H K:=by kernel_rfl
theorem W87_ok {v0 v1:AV} {H:Heap} {K:AV→Heap→Prop} (h:W87 v0 v1 H K):CallT Try.prog 87 [v0,v1] H K:=
 CallT.of_wp (D:=D87) tO_ mixed Try.func87 (c:=bO_ Try.f87) (by kernel_rfl) rfl (by kernel_rfl) (rs:=#[.tmp 4]) rfl (by decide +kernel) (by kernel_rfl) (W87_wp v0 v1 H K) h
theorem L87_0_rule {K:AV→Heap→Prop} {v0 v1 v7 v8:AV} {H:Heap} {σ:Type} (s0:σ) (f8:σ→AV) (TH:σ→Heap) (pre:σ→Prop) (μ:σ→Nat)
  (h0:pre s0∧AV.wk v8 (f8 s0)∧Heap.le (TH s0) H)
  (round:∀s,pre s→B87_0 K (fun w8 H'=>∃s',pre s'∧μ s' < μ s∧AV.wk w8 (f8 s')∧Heap.le (TH s') H') v0 v1 v7 (f8 s) (TH s)) :
  L87_0 K v0 v1 v7 v8 H:=by
 unfold L87_0
 exact LoopV.mk s0 (fun s=>[f8 s]) TH pre μ (fun _=>rfl) (Eq.mp (by kernel_rfl) h0) (fun s hs=>Eq.mp (by kernel_rfl) (round s hs))
def D88:Info:=⟨30,fun i=>([],[]),fun i=>([],[])⟩
def W88 (v0:AV) (v1:AV) (H:Heap) (K:AV→Heap→Prop):Prop:=
 CallT Try.prog 101 [v0,v1] H fun v25 H1=>
 xV_ v25 0 fun v26=>
 xV_ v25 1 fun v27=>
 K (.tup [v26,v27]) H1
theorem W88_wp (v0:AV) (v1:AV) (H:Heap) (K:AV→Heap→Prop):wpC Try.prog tab D88 (bO_ Try.f88) (retF tab [.tmp 4,.tmp 5] K) (nthA [v0,v1]) H=W88 v0 v1 H K:=by kernel_rfl
theorem W88_ok {v0 v1:AV} {H:Heap} {K:AV→Heap→Prop} (h:W88 v0 v1 H K):CallT Try.prog 88 [v0,v1] H K:=
 CallT.of_wp (D:=D88) tO_ mixed Try.func88 (c:=bO_ Try.f88) (by kernel_rfl) rfl (by kernel_rfl) (rs:=#[.tmp 4,.tmp 5]) rfl (by decide +kernel) (by kernel_rfl) (W88_wp v0 v1 H K) h
def D89:Info:=⟨177,fun i=>if i=1 then ([[],[0],[0,1],[0,1,2],[],[],[5],[5,6],[5,6,7],[],[],[10],[10,11],[10,11,12],[],[14],[14,15],[14,15,16],[0,1,2,3,4,5,6,7,8,10,11,12,13,14,15,16,17],[0,1,2,3,4,5,6,7,8,10,11,12,13,14,15,16,17,18],[0,1,2,3,4,5,6,7,8,9,10,11,12,13,14,15,16,17,18,19],[0,1,2,3,4,5,6,7,8,9,10,11,12,13,14,15,16,17,18,19,20]],[(0,[]),(1,[]),(2,[]),(3,[]),(4,[]),(5,[]),(6,[]),(7,[]),(8,[]),(9,[]),(10,[]),(11,[]),(12,[]),(13,[]),(14,[]),(15,[]),(16,[]),(17,[]),(18,[]),(19,[]),(20,[]),(21,[])]) else if i=8 then ([[],[0],[0,1],[0,1,2],[],[],[5],[5,6],[5,6,7],[],[5,6,7,8,9],[5,6,7,8,9,10],[],[12],[12,13],[12,13,14],[],[12,13,14,15,16],[12,13,14,15,16,17],[5,6,7,8,9,10,11,12,13,14,15,16,17,18],[0,1,2,3,4,5,6,7,8,9,10,11,12,13,14,15,16,17,18,19],[0,1,2,3,4,5,6,7,8,9,10,11,12,13,14,15,16,17,18,19,20]],[(0,[]),(1,[]),(2,[]),(3,[]),(4,[]),(5,[]),(6,[]),(7,[]),(8,[]),(9,[]),(10,[]),(11,[]),(12,[]),(13,[]),(14,[]),(15,[]),(16,[]),(17,[]),(18,[]),(19,[]),(20,[]),(21,[])]) else if i=10 then ([[],[0],[0,1],[0,1,2],[],[],[5],[5,6],[5,6,7],[],[5,6,7,8,9],[5,6,7,8,9,10],[],[12],[12,13],[12,13,14],[],[12,13,14,15,16],[12,13,14,15,16,17],[5,6,7,8,9,10,11,12,13,14,15,16,17,18],[0,1,2,3,4,5,6,7,8,9,10,11,12,13,14,15,16,17,18,19],[0,1,2,3,4,5,6,7,8,9,10,11,12,13,14,15,16,17,18,19,20]],[(0,[]),(1,[]),(2,[]),(3,[]),(4,[]),(5,[]),(6,[]),(7,[]),(8,[]),(9,[]),(10,[]),(11,[]),(12,[]),(13,[]),(14,[]),(15,[]),(16,[]),(17,[]),(18,[]),(19,[]),(20,[]),(21,[])]) else if i=12 then ([[],[0],[0,1],[0,1,2],[],[0,1,2,3,4],[0,1,2,3,4,5],[],[7],[7,8],[7,8,9],[],[7,8,9,10,11],[7,8,9,10,11,12],[0,1,2,3,4,5,6,7,8,9,10,11,12,13]],[(0,[]),(1,[]),(2,[]),(3,[]),(4,[]),(5,[]),(6,[]),(7,[]),(8,[]),(9,[]),(10,[]),(11,[]),(12,[]),(13,[]),(14,[])]) else ([],[]),fun i=>if i=4 then ([0,1,53,54],[55]) else if i=16 then ([0,6,7,154,155],[156]) else ([],[])⟩
def L89_0 (K:AV→Heap→Prop) (v0:AV) (v1:AV) (v53:AV) (v54:AV) (v55:AV) (H:Heap):Prop:=LoopV (wpC Try.prog tab D89 (cAt [1,1,1,0,1,0,0] (bO_ Try.f89))) [0,1,53,54] (PostF.block 0 (PostF.thenA (wpC Try.prog tab D89 (cAt [1,1,1,1] (bO_ Try.f89))) (retF tab [] K))) [55] [v0,v1,Q_,Q_,Q_,Q_,Q_,Q_,Q_,Q_,Q_,Q_,Q_,Q_,Q_,Q_,Q_,Q_,Q_,Q_,Q_,Q_,Q_,Q_,Q_,Q_,Q_,Q_,Q_,Q_,Q_,Q_,Q_,Q_,Q_,Q_,Q_,Q_,Q_,Q_,Q_,Q_,Q_,Q_,Q_,Q_,Q_,Q_,Q_,Q_,Q_,Q_,Q_,v53,v54,v55,Q_,Q_,Q_,Q_,Q_,Q_,Q_,Q_,Q_,Q_,Q_,Q_,Q_,Q_,Q_,Q_,Q_,Q_,Q_,Q_,Q_,Q_,Q_,Q_,Q_,Q_,Q_,Q_,Q_,Q_,Q_,Q_,Q_,Q_,Q_,Q_,Q_,Q_,Q_,Q_,Q_,Q_,Q_,Q_,Q_,Q_,Q_,Q_,Q_,Q_,Q_,Q_,Q_,Q_,Q_,Q_,Q_,Q_,Q_,Q_,Q_,Q_,Q_,Q_,Q_,Q_,Q_,Q_,Q_,Q_,Q_,Q_,Q_,Q_,Q_,Q_,Q_,Q_,Q_,Q_,Q_,Q_,Q_,Q_,Q_,Q_,Q_,Q_,Q_,Q_,Q_,Q_,Q_,Q_,Q_,Q_,Q_,Q_,Q_,Q_,Q_,Q_,Q_,Q_,Q_,Q_,Q_,Q_,Q_,Q_,Q_,Q_,Q_,Q_,Q_,Q_,Q_,Q_,Q_,Q_,Q_] H
def L89_1 (K:AV→Heap→Prop) (v0:AV) (v6:AV) (v7:AV) (v154:AV) (v155:AV) (v156:AV) (H:Heap):Prop:=LoopV (wpC Try.prog tab D89 (cAt [1,1,1,1,1,1,1,0,1,0,0] (bO_ Try.f89))) [0,6,7,154,155] (PostF.block 2 (PostF.thenA (wpC Try.prog tab D89 (cAt [1,1,1,1,1,1,1,1] (bO_ Try.f89))) (retF tab [] K))) [156] [v0,Q_,Q_,Q_,Q_,Q_,v6,v7,Q_,Q_,Q_,Q_,Q_,Q_,Q_,Q_,Q_,Q_,Q_,Q_,Q_,Q_,Q_,Q_,Q_,Q_,Q_,Q_,Q_,Q_,Q_,Q_,Q_,Q_,Q_,Q_,Q_,Q_,Q_,Q_,Q_,Q_,Q_,Q_,Q_,Q_,Q_,Q_,Q_,Q_,Q_,Q_,Q_,Q_,Q_,Q_,Q_,Q_,Q_,Q_,Q_,Q_,Q_,Q_,Q_,Q_,Q_,Q_,Q_,Q_,Q_,Q_,Q_,Q_,Q_,Q_,Q_,Q_,Q_,Q_,Q_,Q_,Q_,Q_,Q_,Q_,Q_,Q_,Q_,Q_,Q_,Q_,Q_,Q_,Q_,Q_,Q_,Q_,Q_,Q_,Q_,Q_,Q_,Q_,Q_,Q_,Q_,Q_,Q_,Q_,Q_,Q_,Q_,Q_,Q_,Q_,Q_,Q_,Q_,Q_,Q_,Q_,Q_,Q_,Q_,Q_,Q_,Q_,Q_,Q_,Q_,Q_,Q_,Q_,Q_,Q_,Q_,Q_,Q_,Q_,Q_,Q_,Q_,Q_,Q_,Q_,Q_,Q_,Q_,Q_,Q_,Q_,Q_,Q_,v154,v155,v156,Q_,Q_,Q_,Q_,Q_,Q_,Q_,Q_,Q_,Q_,Q_,Q_,Q_,Q_,Q_,Q_,Q_,Q_,Q_,Q_] H
def B89_1 (K:AV→Heap→Prop) (N1:AV→Heap→Prop) (v0:AV) (v6:AV) (v7:AV) (v154:AV) (v155:AV) (v156:AV) (H:Heap):Prop:=
 binV tab .lss 3 v156 v155 fun v157=>
 cV_ v157 (iA_ tab 24 v154 v156 fun v158=>
 lV_ tab 3 v158 H fun v159=>
 nC_ v0 fun v161=>
 fA_ tab 110 v161 3 fun v162=>
 lV_ tab 24 v162 H fun v163=>
 iA_ tab 24 v163 v159 fun v166=>
 sV_ tab 3 v166 v7 H fun H12=>
 binV tab .add 3 v156 (AV.p (.int .i64 1)) fun v167=>
 N1 v167 H12)
 (nC_ v0 fun v170=>
 fA_ tab 110 v170 4 fun v171=>
 lV_ tab 24 v171 H fun v172=>
 sliceV tab 24 v172 none (some v6) none fun v174=>
 nC_ v0 fun v175=>
 fA_ tab 110 v175 4 fun v176=>
 sV_ tab 24 v176 v174 H fun H13=>
 K (.tup []) H13)
def B89_0 (K:AV→Heap→Prop) (N1:AV→Heap→Prop) (v0:AV) (v1:AV) (v53:AV) (v54:AV) (v55:AV) (H:Heap):Prop:=
 binV tab .lss 3 v55 v54 fun v56=>
 cV_ v56 (iA_ tab 24 v53 v55 fun v57=>
 lV_ tab 3 v57 H fun v58=>
 nC_ v0 fun v60=>
 fA_ tab 110 v60 1 fun v61=>
 lV_ tab 24 v61 H fun v62=>
 iA_ tab 24 v62 v58 fun v64=>
 lV_ tab 3 v64 H fun v65=>
 binV tab .eql 3 v65 (AV.p (.int .i64 0)) fun v66=>
 cV_ v66 (CallT Try.prog 89 [v0,v58] H fun v69 H7=>
 nC_ v0 fun v71=>
 fA_ tab 110 v71 2 fun v72=>
 lV_ tab 24 v72 H7 fun v73=>
 nC_ v0 fun v76=>
 fA_ tab 110 v76 2 fun v77=>
 lV_ tab 24 v77 H7 fun v78=>
 iA_ tab 24 v78 v1 fun v80=>
 lV_ tab 3 v80 H7 fun v81=>
 nC_ v0 fun v83=>
 fA_ tab 110 v83 2 fun v84=>
 lV_ tab 24 v84 H7 fun v85=>
 iA_ tab 24 v85 v58 fun v87=>
 lV_ tab 3 v87 H7 fun v88=>
 mmV .min v81 v88 fun v89=>
 iA_ tab 24 v73 v1 fun v90=>
 sV_ tab 3 v90 v89 H7 fun H8=>
 binV tab .add 3 v55 (AV.p (.int .i64 1)) fun v120=>
 N1 v120 H8)
 (nC_ v0 fun v92=>
 fA_ tab 110 v92 3 fun v93=>
 lV_ tab 24 v93 H fun v94=>
 iA_ tab 24 v94 v58 fun v96=>
 lV_ tab 3 v96 H fun v97=>
 binV tab .lss 3 v97 (AV.p (.int .i64 0)) fun v98=>
 cV_ v98 (nC_ v0 fun v100=>
 fA_ tab 110 v100 2 fun v101=>
 lV_ tab 24 v101 H fun v102=>
 nC_ v0 fun v105=>
 fA_ tab 110 v105 2 fun v106=>
 lV_ tab 24 v106 H fun v107=>
 iA_ tab 24 v107 v1 fun v109=>
 lV_ tab 3 v109 H fun v110=>
 nC_ v0 fun v112=>
 fA_ tab 110 v112 1 fun v113=>
 lV_ tab 24 v113 H fun v114=>
 iA_ tab 24 v114 v58 fun v116=>
 lV_ tab 3 v116 H fun v117=>
 mmV .min v110 v117 fun v118=>
 iA_ tab 24 v102 v1 fun v119=>
 sV_ tab 3 v119 v118 H fun H9=>
 binV tab .add 3 v55 (AV.p (.int .i64 1)) fun v120=>
 N1 v120 H9)
 (binV tab .add 3 v55 (AV.p (.int .i64 1)) fun v120=>
 N1 v120 H)))
 (nC_ v0 fun v122=>
 fA_ tab 110 v122 2 fun v123=>
 lV_ tab 24 v123 H fun v124=>
 iA_ tab 24 v124 v1 fun v126=>
 lV_ tab 3 v126 H fun v127=>
 nC_ v0 fun v129=>
 fA_ tab 110 v129 1 fun v130=>
 lV_ tab 24 v130 H fun v131=>
 iA_ tab 24 v131 v1 fun v133=>
 lV_ tab 3 v133 H fun v134=>
 binV tab .lss 3 v127 v134 fun v135=>
 cV_ v135 (K (.tup []) H)
 (nC_ v0 fun v137=>
 fA_ tab 110 v137 4 fun v138=>
 lV_ tab 24 v138 H fun v139=>
 CallT Try.prog 102 [v139,v1] H fun v141 H10=>
 nC_ v0 fun v143=>
 fA_ tab 110 v143 4 fun v144=>
 lV_ tab 24 v144 H10 fun v145=>
 sliceV tab 24 v145 (some v141) none none fun v147=>
 CallT Try.prog 103 [v147] H10 fun v148 H11=>
 nC_ v0 fun v150=>
 fA_ tab 110 v150 4 fun v151=>
 lV_ tab 24 v151 H11 fun v152=>
 sliceV tab 24 v152 (some v141) none none fun v154=>
 lenV tab 24 v154 fun v155=>
 L89_1 K v0 v141 v148 v154 v155 (AV.p (.int .i64 0)) H11))
def W89 (v0:AV) (v1:AV) (H:Heap) (K:AV→Heap→Prop):Prop:=
 nC_ v0 fun v11=>
 fA_ tab 110 v11 5 fun v12=>
 lV_ tab 3 v12 H fun v13=>
 binV tab .add 3 v13 (AV.p (.int .i64 1)) fun v14=>
 nC_ v0 fun v15=>
 fA_ tab 110 v15 5 fun v16=>
 sV_ tab 3 v16 v14 H fun H1=>
 nC_ v0 fun v18=>
 fA_ tab 110 v18 1 fun v19=>
 lV_ tab 24 v19 H1 fun v20=>
 nC_ v0 fun v23=>
 fA_ tab 110 v23 2 fun v24=>
 lV_ tab 24 v24 H1 fun v25=>
 nC_ v0 fun v28=>
 fA_ tab 110 v28 5 fun v29=>
 lV_ tab 3 v29 H1 fun v30=>
 nC_ v0 fun v32=>
 fA_ tab 110 v32 5 fun v33=>
 lV_ tab 3 v33 H1 fun v34=>
 iA_ tab 24 v20 v1 fun v35=>
 sV_ tab 3 v35 v30 H1 fun H2=>
 iA_ tab 24 v25 v1 fun v36=>
 sV_ tab 3 v36 v34 H2 fun H3=>
 nC_ v0 fun v39=>
 fA_ tab 110 v39 4 fun v40=>
 lV_ tab 24 v40 H3 fun v41=>
 bS_ tab 24 1 [(0,v1)] H3 (wkK fun v43 H4=>
 aP_ tab 24 24 v41 v43 H4 (wkK fun v44 H5=>
 nC_ v0 fun v45=>
 fA_ tab 110 v45 4 fun v46=>
 sV_ tab 24 v46 v44 H5 fun H6=>
 nC_ v0 fun v48=>
 fA_ tab 110 v48 0 fun v49=>
 lV_ tab 26 v49 H6 fun v50=>
 iA_ tab 26 v50 v1 fun v52=>
 lV_ tab 24 v52 H6 fun v53=>
 lenV tab 24 v53 fun v54=>
 L89_0 K v0 v1 v53 v54 (AV.p (.int .i64 0)) H6))
theorem W89_wp (v0:AV) (v1:AV) (H:Heap) (K:AV→Heap→Prop):wpC Try.prog tab D89 (bO_ Try.f89) (retF tab [] K) (nthA [v0,v1]) H=W89 v0 v1 H K:=by kernel_rfl
theorem W89_ok {v0 v1:AV} {H:Heap} {K:AV→Heap→Prop} (h:W89 v0 v1 H K):CallT Try.prog 89 [v0,v1] H K:=
 CallT.of_wp (D:=D89) tO_ mixed Try.func89 (c:=bO_ Try.f89) (by kernel_rfl) rfl (by kernel_rfl) (rs:=#[]) rfl (by decide +kernel) (by kernel_rfl) (W89_wp v0 v1 H K) h
theorem L89_1_rule {K:AV→Heap→Prop} {v0 v6 v7 v154 v155 v156:AV} {H:Heap} {σ:Type} (s0:σ) (f156:σ→AV) (TH:σ→Heap) (pre:σ→Prop) (μ:σ→Nat)
  (h0:pre s0∧AV.wk v156 (f156 s0)∧Heap.le (TH s0) H)
  (round:∀s,pre s→B89_1 K (fun w156 H'=>∃s',pre s'∧μ s' < μ s∧AV.wk w156 (f156 s')∧Heap.le (TH s') H') v0 v6 v7 v154 v155 (f156 s) (TH s)) :
  L89_1 K v0 v6 v7 v154 v155 v156 H:=by
 unfold L89_1
 exact LoopV.mk s0 (fun s=>[f156 s]) TH pre μ (fun _=>rfl) (Eq.mp (by kernel_rfl) h0) (fun s hs=>Eq.mp (by kernel_rfl) (round s hs))
theorem L89_0_rule {K:AV→Heap→Prop} {v0 v1 v53 v54 v55:AV} {H:Heap} {σ:Type} (s0:σ) (f55:σ→AV) (TH:σ→Heap) (pre:σ→Prop) (μ:σ→Nat)
  (h0:pre s0∧AV.wk v55 (f55 s0)∧Heap.le (TH s0) H)
  (round:∀s,pre s→B89_0 K (fun w55 H'=>∃s',pre s'∧μ s' < μ s∧AV.wk w55 (f55 s')∧Heap.le (TH s') H') v0 v1 v53 v54 (f55 s) (TH s)) :
  L89_0 K v0 v1 v53 v54 v55 H:=by
 unfold L89_0
 exact LoopV.mk s0 (fun s=>[f55 s]) TH pre μ (fun _=>rfl) (Eq.mp (by kernel_rfl) h0) (fun s hs=>Eq.mp (by kernel_rfl) (round s hs))
def D101:Info:=⟨51,fun i=>([],[]),fun i=>([],[])⟩
def W101 (v0:AV) (v1:AV) (H:Heap) (K:AV→Heap→Prop):Prop:=
 binV tab .and 54 v0 (AV.p (.int .u64 4294967295)) fun v15=>
 binV tab .shr 54 v0 (AV.p (.int .u64 32)) fun v17=>
 binV tab .and 54 v1 (AV.p (.int .u64 4294967295)) fun v19=>
 binV tab .shr 54 v1 (AV.p (.int .u64 32)) fun v21=>
 binV tab .mul 54 v15 v19 fun v24=>
 binV tab .mul 54 v17 v19 fun v27=>
 binV tab .shr 54 v24 (AV.p (.int .u64 32)) fun v29=>
 binV tab .add 54 v27 v29 fun v30=>
 binV tab .and 54 v30 (AV.p (.int .u64 4294967295)) fun v32=>
 binV tab .shr 54 v30 (AV.p (.int .u64 32)) fun v34=>
 binV tab .mul 54 v15 v21 fun v38=>
 binV tab .add 54 v32 v38 fun v39=>
 binV tab .mul 54 v17 v21 fun v42=>
 binV tab .add 54 v42 v34 fun v44=>
 binV tab .shr 54 v39 (AV.p (.int .u64 32)) fun v46=>
 binV tab .add 54 v44 v46 fun v47=>
 binV tab .mul 54 v0 v1 fun v50=>
 K (.tup [v47,v50]) H
theorem W101_wp (v0:AV) (v1:AV) (H:Heap) (K:AV→Heap→Prop):wpC Try.prog tab D101 (bO_ Try.f101) (retF tab [.tmp 4,.tmp 5] K) (nthA [v0,v1]) H=W101 v0 v1 H K:=by kernel_rfl
theorem W101_ok {v0 v1:AV} {H:Heap} {K:AV→Heap→Prop} (h:W101 v0 v1 H K):CallT Try.prog 101 [v0,v1] H K:=
 CallT.of_wp (D:=D101) tO_ mixed Try.func101 (c:=bO_ Try.f101) (by kernel_rfl) rfl (by kernel_rfl) (rs:=#[.tmp 4,.tmp 5]) rfl (by decide +kernel) (by kernel_rfl) (W101_wp v0 v1 H K) h
def D102:Info:=⟨19,fun i=>([],[]),fun i=>if i=2 then ([0,1,7],[8]) else ([],[])⟩
def L102_0 (K:AV→Heap→Prop) (v0:AV) (v1:AV) (v7:AV) (v8:AV) (H:Heap):Prop:=LoopV (wpC Try.prog tab D102 (cAt [1,0,1,0,0] (bO_ Try.f102))) [0,1,7] (PostF.block 0 (PostF.thenA (wpC Try.prog tab D102 (cAt [1,1] (bO_ Try.f102))) (retF tab [.tmp 4] K))) [8] [v0,v1,Q_,Q_,Q_,Q_,Q_,v7,v8,Q_,Q_,Q_,Q_,Q_,Q_,Q_,Q_,Q_,Q_] H
def B102_0 (K:AV→Heap→Prop) (N1:AV→Heap→Prop) (v0:AV) (v1:AV) (v7:AV) (v8:AV) (H:Heap):Prop:=
 binV tab .lss 3 v8 v7 fun v9=>
 cV_ v9 (iA_ tab 24 v0 v8 fun v14=>
 lV_ tab 3 v14 H fun v15=>
 binV tab .eql 3 v1 v15 fun v16=>
 cV_ v16 (K v8 H)
 (binV tab .add 3 v8 (AV.p (.int .i64 1)) fun v18=>
 N1 v18 H))
 (K (AV.p (.int .i64 (-1))) H)
def W102 (v0:AV) (v1:AV) (H:Heap) (K:AV→Heap→Prop):Prop:=
 lenV tab 24 v0 fun v7=>
 L102_0 K v0 v1 v7 (AV.p (.int .i64 0)) H
theorem W102_wp (v0:AV) (v1:AV) (H:Heap) (K:AV→Heap→Prop):wpC Try.prog tab D102 (bO_ Try.f102) (retF tab [.tmp 4] K) (nthA [v0,v1]) H=W102 v0 v1 H K:=by kernel_rfl
theorem W102_ok {v0 v1:AV} {H:Heap} {K:AV→Heap→Prop} (h:W102 v0 v1 H K):CallT Try.prog 102 [v0,v1] H K:=
 CallT.of_wp (D:=D102) tO_ mixed Try.func102 (c:=bO_ Try.f102) (by kernel_rfl) rfl (by kernel_rfl) (rs:=#[.tmp 4]) rfl (by decide +kernel) (by kernel_rfl) (W102_wp v0 v1 H K) h
theorem L102_0_rule {K:AV→Heap→Prop} {v0 v1 v7 v8:AV} {H:Heap} {σ:Type} (s0:σ) (f8:σ→AV) (TH:σ→Heap) (pre:σ→Prop) (μ:σ→Nat)
  (h0:pre s0∧AV.wk v8 (f8 s0)∧Heap.le (TH s0) H)
  (round:∀s,pre s→B102_0 K (fun w8 H'=>∃s',pre s'∧μ s' < μ s∧AV.wk w8 (f8 s')∧Heap.le (TH s') H') v0 v1 v7 (f8 s) (TH s)) :
  L102_0 K v0 v1 v7 v8 H:=by
 unfold L102_0
 exact LoopV.mk s0 (fun s=>[f8 s]) TH pre μ (fun _=>rfl) (Eq.mp (by kernel_rfl) h0) (fun s hs=>Eq.mp (by kernel_rfl) (round s hs))
def D103:Info:=⟨25,fun i=>([],[]),fun i=>if i=5 then ([0],[3,4]) else ([],[])⟩
def L103_0 (K:AV→Heap→Prop) (v0:AV) (v3:AV) (v4:AV) (H:Heap):Prop:=LoopV (wpC Try.prog tab D103 (cAt [1,1,1,0,1,0,0] (bO_ Try.f103))) [0] (PostF.block 0 (PostF.thenA (wpC Try.prog tab D103 (cAt [1,1,1,1] (bO_ Try.f103))) (retF tab [.tmp 2] K))) [3,4] [v0,Q_,Q_,v3,v4,Q_,Q_,Q_,Q_,Q_,Q_,Q_,Q_,Q_,Q_,Q_,Q_,Q_,Q_,Q_,Q_,Q_,Q_,Q_,Q_] H
def B103_0 (K:AV→Heap→Prop) (N1:AV→AV→Heap→Prop) (v0:AV) (v3:AV) (v4:AV) (H:Heap):Prop:=
 lenV tab 24 v0 fun v14=>
 binV tab .lss 3 v4 v14 fun v15=>
 cV_ v15 (iA_ tab 24 v0 v4 fun v21=>
 lV_ tab 3 v21 H fun v22=>
 mmV .min v3 v22 fun v23=>
 binV tab .add 3 v4 (AV.p (.int .i64 1)) fun v17=>
 N1 v23 v17 H)
 (K v3 H)
def W103 (v0:AV) (H:Heap) (K:AV→Heap→Prop):Prop:=
 lenV tab 24 v0 fun v6=>
 binV tab .lss 3 v6 (AV.p (.int .i64 1)) fun v7=>
 cV_ v7 (False)
 (iA_ tab 24 v0 (AV.p (.int .i64 0)) fun v10=>
 lV_ tab 3 v10 H fun v11=>
 L103_0 K v0 v11 (AV.p (.int .i64 1)) H)
theorem W103_wp (v0:AV) (H:Heap) (K:AV→Heap→Prop):wpC Try.prog tab D103 (bO_ Try.f103) (retF tab [.tmp 2] K) (nthA [v0]) H=W103 v0 H K:=by kernel_rfl
theorem W103_ok {v0:AV} {H:Heap} {K:AV→Heap→Prop} (h:W103 v0 H K):CallT Try.prog 103 [v0] H K:=
 CallT.of_wp (D:=D103) tO_ mixed Try.func103 (c:=bO_ Try.f103) (by kernel_rfl) rfl (by kernel_rfl) (rs:=#[.tmp 2]) rfl (by decide +kernel) (by kernel_rfl) (W103_wp v0 H K) h
theorem L103_0_rule {K:AV→Heap→Prop} {v0 v3 v4:AV} {H:Heap} {σ:Type} (s0:σ) (f3:σ→AV) (f4:σ→AV) (TH:σ→Heap) (pre:σ→Prop) (μ:σ→Nat)
  (h0:pre s0∧AV.wk v3 (f3 s0)∧AV.wk v4 (f4 s0)∧Heap.le (TH s0) H)
  (round:∀s,pre s→B103_0 K (fun w3 w4 H'=>∃s',pre s'∧μ s' < μ s∧AV.wk w3 (f3 s')∧AV.wk w4 (f4 s')∧Heap.le (TH s') H') v0 (f3 s) (f4 s) (TH s)) :
  L103_0 K v0 v3 v4 H:=by
 unfold L103_0
 exact LoopV.mk s0 (fun s=>[f3 s,f4 s]) TH pre μ (fun _=>rfl) (Eq.mp (by kernel_rfl) h0) (fun s hs=>Eq.mp (by kernel_rfl) (round s hs))
end Go.Proofs.Ytohkciilfkhomaa
namespace Go.Proofs.Ytohkciilfkhomaa
open Go Go.Sep
attribute [local irreducible] CallT
theorem i6_ {n:Int} (h0:-9223372036854775808≤n) (h1:n≤9223372036854775807):IntKind.i64.wrap n=n:=wrap64_id h0 h1
theorem wk_int {k:IntKind} {a b:Int}:AV.wk (.p (.int k a)) (.p (.int k b))=(a=b):=by
 apply propext;constructor
 ·intro h;cases h;rfl
 ·rintro rfl;exact .refl _
theorem take_all_succ {α:Type} {p:α→Bool} {xs:List α} {i:Nat} (h:i < xs.length):(xs.take (i+1)).all p=((xs.take i).all p && p xs[i]):=by
 rw [List.take_succ_eq_append_getElem h,List.all_append];simp
theorem getD_lt {α:Type} {xs:List α} {i:Nat} {d:α} (h:i < xs.length):xs.getD i d=xs[i]:=by simp [List.getD,h]
theorem getD_all {α:Type} {p:α→Prop} {l:List α} {d:α} (h:∀b∈l,p b) {i:Nat} (hi:i < l.length):p (l.getD i d):=by
 simp only [List.getD,List.getElem?_eq_getElem hi,Option.getD_some];exact h _ (List.getElem_mem hi)
theorem range_all_succ {p:Nat→Bool} {n:Nat}:(List.range (n+1)).all p=((List.range n).all p && p n):=by
 rw [List.range_succ,List.all_append];simp
theorem range_all_false {p:Nat→Bool} {n i:Nat} (hi:i < n) (h:p i=false):(List.range n).all p=false:=by
 rw [List.all_eq_false];exact ⟨i,List.mem_range.2 hi,by simp [h]⟩
theorem Wk.own_le {q sz:Nat} {es:List (List PV)} {H H':Heap} (hpos:0 < sz) (hs:Sized sz es) (hq:H q=none) (hle:Heap.le (H.set q (cells es)) H'):Wk (own q sz es) H' (.p (.sl es)) H:=by
 have h1:H' q=some (cells es):=hle q _ (Heap.set_same _ _ _)
 refine .trans (.own hpos hs h1) (.forget (Heap.le_del (fun x b hx=>hle x b ?_) hq))
 rw [Heap.set_other (fun e=>by rw [e,hq] at hx;cases hx)];exact hx
theorem CallT.fin {P:Program} {f:Nat} {args:List AV} {H:Heap} {K:AV→Heap→Prop} (h:CallT P f args H (wkK K)):CallT P f args H K:=
 h.wk fun v H1 ⟨v',H2,hw,hk⟩=>⟨v',H2,hw,hk⟩
theorem szI (xs:List Int):Sized 1 (xs.map eI):=sized_map (f:=eI) (fun _=>rfl) xs
theorem cells_I (xs:List Int):cells (xs.map eI)=xs.map fun n=>I n:=by
 induction xs with
 | nil=>rfl
 | cons x xs ih=>simp only [cells,List.map_cons,List.flatten_cons,List.map_append] at ih ⊢;rw [ih];rfl
abbrev eL (l:List Int):List PV:=[.sl (l.map eI)]
abbrev Ls (cs:List (List Int)):AV:=.p (.sl (cs.map eL))
theorem fin_own {q sz:Nat} {es:List (List PV)} {H H':Heap} {K:AV→Heap→Prop} (hpos:0 < sz) (hs:Sized sz es) (hq:H q=none) (hle:Heap.le (H.set q (cells es)) H') (h:K (.p (.sl es)) H):wkK K (own q sz es) H':=
 ⟨_,_,Wk.own_le hpos hs hq hle,h⟩
theorem fin_le {v:AV} {H H':Heap} {K:AV→Heap→Prop} (hle:Heap.le H H') (h:K v H):wkK K v H':=⟨_,_,.forget hle,h⟩
def PuAt (P:Program) (f:Nat) (args:List AV) (H:Heap) (v:AV):Prop:=∀K:AV→Heap→Prop,K v H→CallT P f args H K
theorem Pu.at {P:Program} {f:Nat} {args:List AV} {v:AV} (h:Pu P f args v) (H:Heap):PuAt P f args H v:=fun K hk=>h.use hk
theorem PuAt.use {P:Program} {f:Nat} {args:List AV} {v:AV} {H:Heap} (h:PuAt P f args H v) {K:AV→Heap→Prop} (k:K v H):CallT P f args H K:=h K k
def enumP:Nat→List PV→List (Nat×AV)
 | _,[]=>[]
 | k,v::vs=>(k,.p v)::enumP (k+1) vs
theorem fill_enum:∀(vs:List PV) (k:Nat) (a:List AV) (b:List AV),a.length=k→vs.length≤b.length→
  fillV (fun i=>some (i*1,1)) (a++b) (enumP k vs)=some (a++vs.map .p++b.drop vs.length)
 | [],k,a,b,h1,h2=>by simp [enumP,fillV]
 | v::vs,k,a,b,h1,h2=>by
  match b,h2 with
  | x::b,h2=>
   have hb:vs.length≤b.length:=by simpa using h2
   have ih:=fill_enum vs (k+1) (a++[.p v]) b (by simp [h1]) hb
   simp only [enumP,fillV,AV.cells,List.length_cons,List.length_nil,Nat.zero_add,Nat.mul_one]
   rw [if_pos ⟨trivial,by simp [h1]⟩]
   have hs:splice (a++x::b) k [AV.p v]=(a++[AV.p v])++b:=by
    subst h1
    simp [splice,List.append_assoc,List.drop_append]
   rw [hs]
   simp only [Nat.mul_one] at ih
   rw [ih]
   simp
theorem lit_gen {tab:Tab} {t e:Nat} {d ed:TD} {H:Heap} {K:AV→Heap→Prop} (h1:tab t=some d) (h2:d.k=.slice e) (h3:tab e=some ed) (h4:ed.size=1∧ed.zero.length=1) (vs:List PV)
  (hsm:vs.length≤1000)
  (h:K (.p (.sl (vs.map fun v=>[v]))) H):bS_ tab t vs.length (enumP 0 vs) H (wkK K):=by
 obtain ⟨z,hz⟩:∃z,ed.zero=[z]:=by
  match ed.zero,h4.2 with
  | [z],_=>exact ⟨z,rfl⟩
 simp only [bS_,h1,h2,h3,h4.1]
 refine ⟨by omega,?_⟩
 have hzl:(zA_ vs.length ed.zero).length=vs.length:=by rw [zerosA_len,hz];simp
 have:=fill_enum vs 0 [] (zA_ vs.length ed.zero) rfl (by omega)
 rw [List.nil_append,List.nil_append,List.drop_of_length_le (by omega),List.append_nil] at this
 rw [this]
 intro r hr
 have hf:∀vs:List PV,(vs.map fun v=>[v]).flatten=vs:=by
  intro vs
  induction vs with
  | nil=>rfl
  | cons v vs ih=>simp only [List.map_cons,List.flatten_cons,ih,List.singleton_append]
 refine ⟨_,_,Wk.trans (Wk.frz (r:=r) (sz:=1) (es:=vs.map fun v=>[v]) (v:=.sl r 1 0 vs.length) (v':=.p (.sl (vs.map fun v=>[v]))) (by omega) ?_ ?_ ?_) (.forget ?_),h⟩
 ·rw [Heap.set_same,hf vs]
 ·intro e he;obtain ⟨v,_,rfl⟩:=List.mem_map.1 he;rfl
 ·have:FrzR r 1 (vs.map fun v=>[v]) (.sl r 1 0 (vs.map fun v=>[v]).length) (.p (.sl (vs.map fun v=>[v]))):=.here
  rwa [List.length_map] at this
 ·rw [Heap.del_set hr];exact Heap.le_refl _
theorem lit3 {tab:Tab} {t e:Nat} {d ed:TD} {a b c:PV} {H:Heap} {K:AV→Heap→Prop} (h1:tab t=some d) (h2:d.k=.slice e) (h3:tab e=some ed) (h4:ed.size=1∧ed.zero.length=1)
  (h:K (.p (.sl [[a],[b],[c]])) H):bS_ tab t 3 [(0,.p a),(1,.p b),(2,.p c)] H (wkK K):=lit_gen h1 h2 h3 h4 [a,b,c] (by simp) h
end Go.Proofs.Ytohkciilfkhomaa
namespace Go.Proofs.Ytohkciilfkhomaa
open Go Go.Sep
theorem typed_byte {x:List PV} (h:Typed Try.prog 5 x):∃n:Int,(0≤n∧n < 256)∧x=e8 n:=by
 have hu:Try.prog.underlying 5=some (.int .u8):=by kernel_rfl
 cases h with
 | bool h=>rw [hu] at h;cases h
 | int h hw=>
  rw [hu] at h;cases h
  rename_i n
  refine ⟨n,?_,rfl⟩
  simp only [Lit.wf,Bool.and_eq_true,decide_eq_true_eq] at hw
  have e1:IntKind.u8.min=0:=by decide
  have e2:IntKind.u8.max=255:=by decide
  rw [e1,e2] at hw
  omega
 | str h _=>rw [hu] at h;cases h
 | sl h _ _=>rw [hu] at h;cases h
 | struct h _=>rw [hu] at h;cases h
theorem typed_rows:∀(es:List (List PV)),(∀x∈es,Typed Try.prog 5 x)→∃ns:List Int,(∀b∈ns,0≤b∧b < 256)∧es=ns.map e8
 | [],_=>⟨[],fun b hb=>by simp at hb,rfl⟩
 | x::es,h=>by
  obtain ⟨n,hn,rfl⟩:=typed_byte (h x (by simp))
  obtain ⟨ns,hns,rfl⟩:=typed_rows es fun y hy=>h y (by simp [hy])
  refine ⟨n::ns,?_,rfl⟩
  intro b hb
  rcases List.mem_cons.1 hb with rfl | hb
  ·exact hn
  ·exact hns b hb
theorem arg_bytes {v:AV} (h:ArgT Try.prog 22 v):∃ns:List Int,(∀b∈ns,0≤b∧b < 256)∧v=.p (.sl (ns.map e8)):=by
 have hu:Try.prog.underlying 22=some (.slice 5):=by kernel_rfl
 cases h with
 | cell hs h=>
  cases h with
  | bool h=>rw [hu] at h;cases h
  | int h hw=>rw [hu] at h;cases h
  | str h _=>rw [hu] at h;cases h
  | sl h hl he=>
   rw [hu] at h;cases h
   obtain ⟨ns,hns,rfl⟩:=typed_rows _ he
   exact ⟨ns,hns,rfl⟩
  | struct h _=>rw [hu] at h;cases h
 | agg h _=>rw [hu] at h;cases h
end Go.Proofs.Ytohkciilfkhomaa
namespace Go.Proofs.Ytohkciilfkhomaa
open Go Go.Sep
attribute [local irreducible] CallT
theorem l1In_spec (a lo hi:Int):Pu Try.prog 32 [I a,I lo,I hi] (B (decide (lo≤a) && decide (a≤hi))):=by
 refine Pu.of fun H=>?_
 refine W32_ok ?_;simp (maxSteps:=1000000) (disch:=first | assumption | (apply ν6;assumption)) only [W32,vz,vu,vv,eqS,eF_,↓c1_,↓c2_,tabs,reduceCtorEq,ι5,↓reduceIte,ν1,ν2,ν3,ν4,ν5,ι1,ι2,ι3,ι4]
 exact ⟨fun h=>by simp [h],fun h=>by simp [h]⟩
end Go.Proofs.Ytohkciilfkhomaa
namespace Go.Proofs.Ytohkciilfkhomaa
open Go Go.Sep
theorem zerosA_succ (n:Nat) (z:List AV):zA_ (n+1) z=z++zA_ n z:=by simp [zA_,List.replicate_succ]
end Go.Proofs.Ytohkciilfkhomaa
namespace Go.Pt
structure Nd where
 op:Int
 n:Int
deriving Inhabited,DecidableEq
structure Ch where
 var:Int
 by_:List Nd
deriving Inhabited,DecidableEq
structure Cm where
 when_:List Nd
 chs:List Ch
deriving Inhabited,DecidableEq
structure Pg where
 wide:Int
 vars:Int
 start:List Nd
 cmds:List Cm
deriving Inhabited,DecidableEq
def inB (n lo hi:Int):Bool:=decide (lo≤n) && decide (n≤hi)
theorem inB_iff {n lo hi:Int}:inB n lo hi=true↔lo≤n∧n≤hi:=by simp [inB]
def own (op:Int):Int:=
 if op=1∨op=2∨op=13∨(3≤op∧op≤12) then 1
 else if op=20∨op=19∨(14≤op∧op≤16)∨op=17∨op=18 then 2 else 0
def many (op:Int):Nat:=
 if op=13∨op=19 then 1 else if (3≤op∧op≤12)∨(14≤op∧op≤16)∨op=17∨op=18 then 2 else 0
def part (op:Int):Int:=
 if op=13∨(3≤op∧op≤12)∨(14≤op∧op≤16) then 1 else 2
def leafOk (wide vars:Int) (x:Nd):Bool:=
 if x.op=1 then inB wide 1 64 && decide (x.n < 2^wide.toNat)
 else if x.op=2 then decide (x.n < vars)
 else if x.op=20 then decide (x.n≤1)
 else decide (x.n=0)
def step (w v:Int) (p:List Int) (x:Nd):Option (List Int):=
 if own x.op=0∨leafOk w v x=false∨p.length < many x.op then none
 else if (p.drop (p.length - many x.op)).any (fun k=>decide (k≠part x.op)) then none
 else some (p.take (p.length - many x.op)++[own x.op])
def run (w v:Int):List Int→List Nd→Option (List Int)
 | p,[]=>some p
 | p,x::xs=>(step w v p x).bind fun p'=>run w v p' xs
def frame (w v:Int) (t:List Nd):Bool:=inB w 1 64 && inB v 1 4 && (decide (1≤t.length) && decide (t.length≤48))
def kind (w v:Int) (t:List Nd):Int:=
 if frame w v t then (match run w v [] t with
  | some [k]=>k
  | _=>0) else 0
theorem tS_ {α:Type} [Inhabited α] {xs:List α} {i:Nat} (h:i < xs.length):xs.take (i+1)=xs.take i++[xs.getD i default]:=by
 rw [List.take_succ_eq_append_getElem h];simp [List.getD,h]
end Go.Pt
namespace Go.Proofs.Ytohkciilfkhomaa
open Go Go.Sep Go.Pt
attribute [local irreducible] CallT
abbrev eN (x:Nd):List PV:=[.int .i64 x.op,.int .u64 x.n]
abbrev Ns (xs:List Nd):AV:=.p (.sl (xs.map eN))
abbrev eCh (c:Ch):List PV:=[.int .i64 c.var,.sl (c.by_.map eN)]
abbrev eCm (c:Cm):List PV:=[.sl (c.when_.map eN),.sl (c.chs.map eCh)]
abbrev Cms (cs:List Cm):AV:=.p (.sl (cs.map eCm))
abbrev aPg (p:Pg):AV:=.agg [I p.wide,I p.vars,Ns p.start,Cms p.cmds]
abbrev aS (of:List Int):AV:=.agg [Is of]
def ok (n:Nat):Prop:=n≤9223372036854775807
end Go.Proofs.Ytohkciilfkhomaa
namespace Go.Proofs.Ytohkciilfkhomaa
open Go Go.Sep Go.Pt
attribute [local irreducible] CallT
end Go.Proofs.Ytohkciilfkhomaa
namespace Go.Pt
structure Ed where
 src:Int
 lt:Int
 dst:Int
deriving Inhabited
structure Au where
 states:Int
 first:List Int
 edges:List Ed
 goals:List (List Int)
deriving Inhabited
def riseAt (l:List Int) (n:Int) (i:Nat):Bool:=(decide (0≤l.getD i default) && decide (l.getD i default < n)) && (decide (i=0) || decide (l.getD (i - 1) default < l.getD i default))
def rising (l:List Int) (n:Int):Bool:=(List.range l.length).all (riseAt l n)
def edLt (a b:Ed):Bool:=if a.src=b.src then (if a.lt=b.lt then decide (a.dst < b.dst) else decide (a.lt < b.lt)) else decide (a.src < b.src)
def edIn (n:Int) (e:Ed):Bool:=(decide (0≤e.src) && decide (e.src < n)) && ((decide (0≤e.dst) && decide (e.dst < n)) && (decide (0≤e.lt) && decide (e.lt < 8)))
def edAt (n:Int) (es:List Ed) (i:Nat):Bool:=edIn n (es.getD i default) && (decide (i=0) || edLt (es.getD (i - 1) default) (es.getD i default))
def edsOk (n:Int) (es:List Ed):Bool:=(List.range es.length).all (edAt n es)
def goodA (a:Au):Bool:=(decide (1≤a.states) && decide (a.states≤96)) && (rising a.first a.states && (decide (a.edges.length≤2400) && ((decide (a.goals.length≤6) && a.goals.all (fun g=>rising g a.states)) && edsOk a.states a.edges)))
end Go.Pt
namespace Go.Proofs.Ytohkciilfkhomaa
open Go Go.Sep Go.Pt
attribute [local irreducible] CallT
abbrev eE (x:Ed):List PV:=[.int .i64 x.src,.int .i64 x.lt,.int .i64 x.dst]
abbrev aE (x:Ed):AV:=.agg [I x.src,I x.lt,I x.dst]
abbrev Es (xs:List Ed):AV:=.p (.sl (xs.map eE))
abbrev aAu (a:Au):AV:=.agg [I a.states,Is a.first,Es a.edges,Ls a.goals]
def smLs (cs:List (List Int)):Prop:=cs.length≤1048576∧∀c∈cs,c.length≤1048576
def smAu (a:Au):Prop:=a.first.length≤1048576∧a.edges.length≤1048576∧smLs a.goals
end Go.Proofs.Ytohkciilfkhomaa
