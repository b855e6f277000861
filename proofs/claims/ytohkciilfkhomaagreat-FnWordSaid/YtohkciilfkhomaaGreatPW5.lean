/- Texts laid together: W8 W9 WA Lb0 Lr8 Lb1a Lb3 Pt1 Le1 Le2 Pm1 Ma1 Ma3. -/
import Derived.Test.YtohkciilfkhomaaGreatPW4
import Derived.KernelRfl
set_option linter.unusedVariables false
set_option linter.unusedSimpArgs false
open Go.Sep.AV renaming any → Q_
open Nat renaming reduceAdd→ν1,reduceLeDiff→ν2,reduceLT→ν3,reduceMul→ν4,reduceSub→ν5
open Int renaming reduceToNat→ι1,reduceSub→ι2,reduceAdd→ι3,reduceNeg→ι4
open Array renaming toList→ι5
open Ne renaming symm→ν6
open List renaming forall_mem_cons→ν7
namespace Go.Proofs.YtohkciilfkhomaaGreat
open Go Go.Sep
attribute [local irreducible] wpC headF
def D94:Info:=⟨125,fun i=>if i=2 then ([[],[0],[],[2],[0,1],[0,1,2,3,4]],[(0,[]),(2,[]),(1,[3]),(4,[]),(3,[3]),(5,[])]) else if i=9 then ([[],[],[],[1,2],[1,2,3],[],[],[],[6,7],[6,7,8],[5,6,7,8,9],[5,6,7,8,9,10],[5,6,7,8,9,10,11],[5,6,7,8,9,10,11,12],[5,6,7,8,9,10,11,12],[5,6,7,8,9,10,11,12,13,14],[5,6,7,8,9,10,11,12,13,14,15],[5,6,7,8,9,10,11,12],[5,6,7,8,9,10,11,12],[5,6,7,8,9,10,11,12,17,18],[5,6,7,8,9,10,11,12,17,18,19],[5,6,7,8,9,10,11,12,13,14,15,16,17,18,19,20],[5,6,7,8,9,10,11,12,13,14,15,16,17,18,19,20,21],[0,1,2,3,4,5,6,7,8,9,10,11,12,13,14,15,16,17,18,19,20,21,22],[0,1,2,3,4,5,6,7,8,9,10,11,12,13,14,15,16,17,18,19,20,21,22,23]],[(0,[]),(1,[]),(2,[]),(3,[]),(4,[]),(5,[]),(6,[]),(7,[]),(8,[]),(9,[]),(10,[]),(11,[]),(12,[]),(13,[]),(14,[]),(15,[]),(16,[]),(17,[]),(18,[]),(19,[]),(20,[]),(21,[]),(22,[]),(23,[]),(24,[])]) else ([],[]),fun i=>if i=4 then ([1,5,6,7,8,28,29],[30]) else if i=7 then ([1,5,6,7,8,9,28,29,30,35,36],[37]) else if i=13 then ([5,6,7,8,67,68],[69]) else if i=17 then ([5,6,7,8,15,67,68,69,75,76],[77]) else if i=22 then ([5,6,7,8,15,67,68,69,89],[90]) else if i=28 then ([5,7,8,109],[110]) else ([],[])⟩
def L94_0 (K:AV→Heap→Prop) (v1:AV) (v5:AV) (v6:AV) (v7:AV) (v8:AV) (v28:AV) (v29:AV) (v30:AV) (H:Heap):Prop:=LoopV (wpC Tryz.prog tab D94 (cAt [1,1,1,0,1,0,0] (bO_ Tryz.f94))) [1,5,6,7,8,28,29] (PostF.block 0 (PostF.thenA (wpC Tryz.prog tab D94 (cAt [1,1,1,1] (bO_ Tryz.f94))) (retF tab [.tmp 4] K))) [30] [Q_,v1,Q_,Q_,Q_,v5,v6,v7,v8,Q_,Q_,Q_,Q_,Q_,Q_,Q_,Q_,Q_,Q_,Q_,Q_,Q_,Q_,Q_,Q_,Q_,Q_,Q_,v28,v29,v30,Q_,Q_,Q_,Q_,Q_,Q_,Q_,Q_,Q_,Q_,Q_,Q_,Q_,Q_,Q_,Q_,Q_,Q_,Q_,Q_,Q_,Q_,Q_,Q_,Q_,Q_,Q_,Q_,Q_,Q_,Q_,Q_,Q_,Q_,Q_,Q_,Q_,Q_,Q_,Q_,Q_,Q_,Q_,Q_,Q_,Q_,Q_,Q_,Q_,Q_,Q_,Q_,Q_,Q_,Q_,Q_,Q_,Q_,Q_,Q_,Q_,Q_,Q_,Q_,Q_,Q_,Q_,Q_,Q_,Q_,Q_,Q_,Q_,Q_,Q_,Q_,Q_,Q_,Q_,Q_,Q_,Q_,Q_,Q_,Q_,Q_,Q_,Q_,Q_,Q_,Q_,Q_,Q_,Q_] H
def L94_1 (K:AV→Heap→Prop) (N1:AV→Heap→Prop) (v1:AV) (v5:AV) (v6:AV) (v7:AV) (v8:AV) (v9:AV) (v28:AV) (v29:AV) (v30:AV) (v35:AV) (v36:AV) (v37:AV) (H:Heap):Prop:=LoopV (wpC Tryz.prog tab D94 (cAt [1,1,1,0,1,0,0,1,1,0,0,1,1,0,0] (bO_ Tryz.f94))) [1,5,6,7,8,9,28,29,30,35,36] (PostF.block 2 (PostF.block 1 (PostF.thenA (wpC Tryz.prog tab D94 (cAt [1,1,1,0,1,0,0,1,1,1] (bO_ Tryz.f94))) (loopF (PostF.block 0 (PostF.thenA (wpC Tryz.prog tab D94 (cAt [1,1,1,1] (bO_ Tryz.f94))) (retF tab [.tmp 4] K))) (fun e h=>N1 (e 30) h))))) [37] [Q_,v1,Q_,Q_,Q_,v5,v6,v7,v8,v9,Q_,Q_,Q_,Q_,Q_,Q_,Q_,Q_,Q_,Q_,Q_,Q_,Q_,Q_,Q_,Q_,Q_,Q_,v28,v29,v30,Q_,Q_,Q_,Q_,v35,v36,v37,Q_,Q_,Q_,Q_,Q_,Q_,Q_,Q_,Q_,Q_,Q_,Q_,Q_,Q_,Q_,Q_,Q_,Q_,Q_,Q_,Q_,Q_,Q_,Q_,Q_,Q_,Q_,Q_,Q_,Q_,Q_,Q_,Q_,Q_,Q_,Q_,Q_,Q_,Q_,Q_,Q_,Q_,Q_,Q_,Q_,Q_,Q_,Q_,Q_,Q_,Q_,Q_,Q_,Q_,Q_,Q_,Q_,Q_,Q_,Q_,Q_,Q_,Q_,Q_,Q_,Q_,Q_,Q_,Q_,Q_,Q_,Q_,Q_,Q_,Q_,Q_,Q_,Q_,Q_,Q_,Q_,Q_,Q_,Q_,Q_,Q_,Q_] H
def B94_1 (K:AV→Heap→Prop) (N1:AV→Heap→Prop) (N2:AV→Heap→Prop) (v1:AV) (v5:AV) (v6:AV) (v7:AV) (v8:AV) (v9:AV) (v28:AV) (v29:AV) (v30:AV) (v35:AV) (v36:AV) (v37:AV) (H:Heap):Prop:=
 binV tab .lss 3 v37 v36 fun v38=>
 cV_ v38 (iA_ tab 24 v35 v37 fun v39=>
 lV_ tab 3 v39 H fun v40=>
 iA_ tab 24 v5 v9 fun v44=>
 lV_ tab 3 v44 H fun v45=>
 iA_ tab 24 v5 v9 fun v49=>
 lV_ tab 3 v49 H fun v50=>
 iA_ tab 87 v7 v50 fun v51=>
 lV_ tab 4 v51 H fun v52=>
 grdV v52 false (iA_ tab 24 v5 v40 fun v56=>
 lV_ tab 3 v56 H fun v57=>
 iA_ tab 24 v5 v9 fun v60=>
 lV_ tab 3 v60 H fun v61=>
 binV tab .eql 3 v57 v61 fun v62=>
 iA_ tab 87 v7 v45 fun v64=>
 sV_ tab 4 v64 v62 H fun H4=>
 binV tab .add 3 v37 (AV.p (.int .i64 1)) fun v65=>
 N2 v65 H4)
 (iA_ tab 87 v7 v45 fun v64=>
 sV_ tab 4 v64 (AV.p (.bool true)) H fun H5=>
 binV tab .add 3 v37 (AV.p (.int .i64 1)) fun v65=>
 N2 v65 H5))
 (binV tab .add 3 v30 (AV.p (.int .i64 1)) fun v66=>
 N1 v66 H)
def L94_2 (K:AV→Heap→Prop) (v5:AV) (v6:AV) (v7:AV) (v8:AV) (v67:AV) (v68:AV) (v69:AV) (H:Heap):Prop:=LoopV (wpC Tryz.prog tab D94 (cAt [1,1,1,1,0,1,0,0] (bO_ Tryz.f94))) [5,6,7,8,67,68] (PostF.block 4 (PostF.thenA (wpC Tryz.prog tab D94 (cAt [1,1,1,1,1] (bO_ Tryz.f94))) (retF tab [.tmp 4] K))) [69] [Q_,Q_,Q_,Q_,Q_,v5,v6,v7,v8,Q_,Q_,Q_,Q_,Q_,Q_,Q_,Q_,Q_,Q_,Q_,Q_,Q_,Q_,Q_,Q_,Q_,Q_,Q_,Q_,Q_,Q_,Q_,Q_,Q_,Q_,Q_,Q_,Q_,Q_,Q_,Q_,Q_,Q_,Q_,Q_,Q_,Q_,Q_,Q_,Q_,Q_,Q_,Q_,Q_,Q_,Q_,Q_,Q_,Q_,Q_,Q_,Q_,Q_,Q_,Q_,Q_,Q_,v67,v68,v69,Q_,Q_,Q_,Q_,Q_,Q_,Q_,Q_,Q_,Q_,Q_,Q_,Q_,Q_,Q_,Q_,Q_,Q_,Q_,Q_,Q_,Q_,Q_,Q_,Q_,Q_,Q_,Q_,Q_,Q_,Q_,Q_,Q_,Q_,Q_,Q_,Q_,Q_,Q_,Q_,Q_,Q_,Q_,Q_,Q_,Q_,Q_,Q_,Q_,Q_,Q_,Q_,Q_,Q_,Q_] H
def L94_3 (K:AV→Heap→Prop) (N1:AV→Heap→Prop) (v5:AV) (v6:AV) (v7:AV) (v8:AV) (v15:AV) (v67:AV) (v68:AV) (v69:AV) (v75:AV) (v76:AV) (v77:AV) (H:Heap):Prop:=LoopV (wpC Tryz.prog tab D94 (cAt [1,1,1,1,0,1,0,0,1,1,0,0,1,1,0,1,0,0] (bO_ Tryz.f94))) [5,6,7,8,15,67,68,69,75,76] (PostF.block 6 (PostF.thenA (wpC Tryz.prog tab D94 (cAt [1,1,1,1,0,1,0,0,1,1,0,0,1,1,1] (bO_ Tryz.f94))) (PostF.block 5 (PostF.thenA (wpC Tryz.prog tab D94 (cAt [1,1,1,1,0,1,0,0,1,1,1] (bO_ Tryz.f94))) (loopF (PostF.block 4 (PostF.thenA (wpC Tryz.prog tab D94 (cAt [1,1,1,1,1] (bO_ Tryz.f94))) (retF tab [.tmp 4] K))) (fun e h=>N1 (e 69) h)))))) [77] [Q_,Q_,Q_,Q_,Q_,v5,v6,v7,v8,Q_,Q_,Q_,Q_,Q_,Q_,v15,Q_,Q_,Q_,Q_,Q_,Q_,Q_,Q_,Q_,Q_,Q_,Q_,Q_,Q_,Q_,Q_,Q_,Q_,Q_,Q_,Q_,Q_,Q_,Q_,Q_,Q_,Q_,Q_,Q_,Q_,Q_,Q_,Q_,Q_,Q_,Q_,Q_,Q_,Q_,Q_,Q_,Q_,Q_,Q_,Q_,Q_,Q_,Q_,Q_,Q_,Q_,v67,v68,v69,Q_,Q_,Q_,Q_,Q_,v75,v76,v77,Q_,Q_,Q_,Q_,Q_,Q_,Q_,Q_,Q_,Q_,Q_,Q_,Q_,Q_,Q_,Q_,Q_,Q_,Q_,Q_,Q_,Q_,Q_,Q_,Q_,Q_,Q_,Q_,Q_,Q_,Q_,Q_,Q_,Q_,Q_,Q_,Q_,Q_,Q_,Q_,Q_,Q_,Q_,Q_,Q_,Q_,Q_] H
def L94_4 (K:AV→Heap→Prop) (N1:AV→Heap→Prop) (v5:AV) (v6:AV) (v7:AV) (v8:AV) (v15:AV) (v67:AV) (v68:AV) (v69:AV) (v89:AV) (v90:AV) (H:Heap):Prop:=LoopV (wpC Tryz.prog tab D94 (cAt [1,1,1,1,0,1,0,0,1,1,0,0,1,1,1,1,0,0] (bO_ Tryz.f94))) [5,6,7,8,15,67,68,69,89] (PostF.block 8 (PostF.block 5 (PostF.thenA (wpC Tryz.prog tab D94 (cAt [1,1,1,1,0,1,0,0,1,1,1] (bO_ Tryz.f94))) (loopF (PostF.block 4 (PostF.thenA (wpC Tryz.prog tab D94 (cAt [1,1,1,1,1] (bO_ Tryz.f94))) (retF tab [.tmp 4] K))) (fun e h=>N1 (e 69) h))))) [90] [Q_,Q_,Q_,Q_,Q_,v5,v6,v7,v8,Q_,Q_,Q_,Q_,Q_,Q_,v15,Q_,Q_,Q_,Q_,Q_,Q_,Q_,Q_,Q_,Q_,Q_,Q_,Q_,Q_,Q_,Q_,Q_,Q_,Q_,Q_,Q_,Q_,Q_,Q_,Q_,Q_,Q_,Q_,Q_,Q_,Q_,Q_,Q_,Q_,Q_,Q_,Q_,Q_,Q_,Q_,Q_,Q_,Q_,Q_,Q_,Q_,Q_,Q_,Q_,Q_,Q_,v67,v68,v69,Q_,Q_,Q_,Q_,Q_,Q_,Q_,Q_,Q_,Q_,Q_,Q_,Q_,Q_,Q_,Q_,Q_,Q_,Q_,v89,v90,Q_,Q_,Q_,Q_,Q_,Q_,Q_,Q_,Q_,Q_,Q_,Q_,Q_,Q_,Q_,Q_,Q_,Q_,Q_,Q_,Q_,Q_,Q_,Q_,Q_,Q_,Q_,Q_,Q_,Q_,Q_,Q_,Q_,Q_] H
def B94_4 (K:AV→Heap→Prop) (N1:AV→Heap→Prop) (N2:AV→Heap→Prop) (v5:AV) (v6:AV) (v7:AV) (v8:AV) (v15:AV) (v67:AV) (v68:AV) (v69:AV) (v89:AV) (v90:AV) (H:Heap):Prop:=
 binV tab .lss 3 v90 v89 fun v91=>
 cV_ v91 (iA_ tab 87 v7 v90 fun v97=>
 lV_ tab 4 v97 H fun v98=>
 grdV v98 true (iA_ tab 87 v15 v90 fun v102=>
 lV_ tab 4 v102 H fun v103=>
 iA_ tab 87 v7 v90 fun v105=>
 sV_ tab 4 v105 v103 H fun H8=>
 binV tab .add 3 v90 (AV.p (.int .i64 1)) fun v106=>
 N2 v106 H8)
 (iA_ tab 87 v7 v90 fun v105=>
 sV_ tab 4 v105 (AV.p (.bool false)) H fun H9=>
 binV tab .add 3 v90 (AV.p (.int .i64 1)) fun v106=>
 N2 v106 H9))
 (binV tab .add 3 v69 (AV.p (.int .i64 1)) fun v107=>
 N1 v107 H)
def B94_3 (K:AV→Heap→Prop) (N1:AV→Heap→Prop) (N2:AV→Heap→Prop) (v5:AV) (v6:AV) (v7:AV) (v8:AV) (v15:AV) (v67:AV) (v68:AV) (v69:AV) (v75:AV) (v76:AV) (v77:AV) (H:Heap):Prop:=
 binV tab .lss 3 v77 v76 fun v78=>
 cV_ v78 (iA_ tab 24 v75 v77 fun v79=>
 lV_ tab 3 v79 H fun v80=>
 iA_ tab 24 v5 v80 fun v84=>
 lV_ tab 3 v84 H fun v85=>
 iA_ tab 87 v15 v85 fun v86=>
 sV_ tab 4 v86 (AV.p (.bool true)) H fun H7=>
 binV tab .add 3 v77 (AV.p (.int .i64 1)) fun v87=>
 N2 v87 H7)
 (lenV tab 87 v7 fun v89=>
 L94_4 K N1 v5 v6 v7 v8 v15 v67 v68 v69 v89 (AV.p (.int .i64 0)) H)
def L94_5 (K:AV→Heap→Prop) (v5:AV) (v7:AV) (v8:AV) (v109:AV) (v110:AV) (H:Heap):Prop:=LoopV (wpC Tryz.prog tab D94 (cAt [1,1,1,1,1,0,1,0,0] (bO_ Tryz.f94))) [5,7,8,109] (PostF.block 10 (PostF.thenA (wpC Tryz.prog tab D94 (cAt [1,1,1,1,1,1] (bO_ Tryz.f94))) (retF tab [.tmp 4] K))) [110] [Q_,Q_,Q_,Q_,Q_,v5,Q_,v7,v8,Q_,Q_,Q_,Q_,Q_,Q_,Q_,Q_,Q_,Q_,Q_,Q_,Q_,Q_,Q_,Q_,Q_,Q_,Q_,Q_,Q_,Q_,Q_,Q_,Q_,Q_,Q_,Q_,Q_,Q_,Q_,Q_,Q_,Q_,Q_,Q_,Q_,Q_,Q_,Q_,Q_,Q_,Q_,Q_,Q_,Q_,Q_,Q_,Q_,Q_,Q_,Q_,Q_,Q_,Q_,Q_,Q_,Q_,Q_,Q_,Q_,Q_,Q_,Q_,Q_,Q_,Q_,Q_,Q_,Q_,Q_,Q_,Q_,Q_,Q_,Q_,Q_,Q_,Q_,Q_,Q_,Q_,Q_,Q_,Q_,Q_,Q_,Q_,Q_,Q_,Q_,Q_,Q_,Q_,Q_,Q_,Q_,Q_,Q_,Q_,v109,v110,Q_,Q_,Q_,Q_,Q_,Q_,Q_,Q_,Q_,Q_,Q_,Q_,Q_,Q_] H
def B94_5 (K:AV→Heap→Prop) (N1:AV→Heap→Prop) (v5:AV) (v7:AV) (v8:AV) (v109:AV) (v110:AV) (H:Heap):Prop:=
 binV tab .lss 3 v110 v109 fun v111=>
 cV_ v111 (iA_ tab 24 v5 v110 fun v118=>
 lV_ tab 3 v118 H fun v119=>
 iA_ tab 87 v7 v119 fun v120=>
 lV_ tab 4 v120 H fun v121=>
 iA_ tab 87 v8 v110 fun v122=>
 sV_ tab 4 v122 v121 H fun H10=>
 binV tab .add 3 v110 (AV.p (.int .i64 1)) fun v123=>
 N1 v123 H10)
 (K v8 H)
def B94_2 (K:AV→Heap→Prop) (N1:AV→Heap→Prop) (v5:AV) (v6:AV) (v7:AV) (v8:AV) (v67:AV) (v68:AV) (v69:AV) (H:Heap):Prop:=
 binV tab .lss 3 v69 v68 fun v70=>
 cV_ v70 (iA_ tab 26 v67 v69 fun v71=>
 lV_ tab 24 v71 H fun v72=>
 mS_ tab 87 v6 v6 H fun v74 H6=>
 lenV tab 24 v72 fun v76=>
 L94_3 K N1 v5 v6 v7 v8 v74 v67 v68 v69 v72 v76 (AV.p (.int .i64 0)) H6)
 (lenV tab 87 v8 fun v109=>
 L94_5 K v5 v7 v8 v109 (AV.p (.int .i64 0)) H)
def B94_0 (K:AV→Heap→Prop) (N1:AV→Heap→Prop) (v1:AV) (v5:AV) (v6:AV) (v7:AV) (v8:AV) (v28:AV) (v29:AV) (v30:AV) (H:Heap):Prop:=
 binV tab .lss 3 v30 v29 fun v31=>
 cV_ v31 (iA_ tab 26 v28 v30 fun v33=>
 lV_ tab 24 v33 H fun v34=>
 lenV tab 24 v34 fun v36=>
 L94_1 K N1 v1 v5 v6 v7 v8 v30 v28 v29 v30 v34 v36 (AV.p (.int .i64 0)) H)
 (lenV tab 26 v1 fun v68=>
 L94_2 K v5 v6 v7 v8 v1 v68 (AV.p (.int .i64 0)) H)
def W94 (v0:AV) (v1:AV) (H:Heap) (K:AV→Heap→Prop):Prop:=
 CallT Tryz.prog 78 [v0] H fun v21 H1=>
 lenV tab 26 v0 fun v23=>
 safeV (makeN tab 87 v23 v23)∧
 mS_ tab 87 v23 v23 H1 fun v25 H2=>
 newV (makeN tab 87 v23 v23) H2 fun v27 H3=>
 lenV tab 26 v0 fun v29=>
 L94_0 K v1 v21 v23 v25 v27 v0 v29 (AV.p (.int .i64 0)) H3
theorem W94_wp (v0:AV) (v1:AV) (H:Heap) (K:AV→Heap→Prop):wpC Tryz.prog tab D94 (bO_ Tryz.f94) (retF tab [.tmp 4] K) (nthA [v0,v1]) H=W94 v0 v1 H K:=by kernel_rfl
theorem W94_ok {v0 v1:AV} {H:Heap} {K:AV→Heap→Prop} (h:W94 v0 v1 H K):CallT Tryz.prog 94 [v0,v1] H K:=
 CallT.of_wp (D:=D94) tO_ mixed Tryz.func94 (c:=bO_ Tryz.f94) (by kernel_rfl) rfl (by kernel_rfl) (rs:=#[.tmp 4]) rfl (by decide +kernel) (by kernel_rfl) (W94_wp v0 v1 H K) h
theorem L94_1_rule {K:AV→Heap→Prop} {N1:AV→Heap→Prop} {v1 v5 v6 v7 v8 v9 v28 v29 v30 v35 v36 v37:AV} {H:Heap} {σ:Type} (s0:σ) (f37:σ→AV) (TH:σ→Heap) (pre:σ→Prop) (μ:σ→Nat)
  (h0:pre s0∧AV.wk v37 (f37 s0)∧Heap.le (TH s0) H)
  (round:∀s,pre s→B94_1 K N1 (fun w37 H'=>∃s',pre s'∧μ s' < μ s∧AV.wk w37 (f37 s')∧Heap.le (TH s') H') v1 v5 v6 v7 v8 v9 v28 v29 v30 v35 v36 (f37 s) (TH s)) :
  L94_1 K N1 v1 v5 v6 v7 v8 v9 v28 v29 v30 v35 v36 v37 H:=by
 unfold L94_1
 exact LoopV.mk s0 (fun s=>[f37 s]) TH pre μ (fun _=>rfl) (Eq.mp (by kernel_rfl) h0) (fun s hs=>Eq.mp (by kernel_rfl) (round s hs))
theorem L94_4_rule {K:AV→Heap→Prop} {N1:AV→Heap→Prop} {v5 v6 v7 v8 v15 v67 v68 v69 v89 v90:AV} {H:Heap} {σ:Type} (s0:σ) (f90:σ→AV) (TH:σ→Heap) (pre:σ→Prop) (μ:σ→Nat)
  (h0:pre s0∧AV.wk v90 (f90 s0)∧Heap.le (TH s0) H)
  (round:∀s,pre s→B94_4 K N1 (fun w90 H'=>∃s',pre s'∧μ s' < μ s∧AV.wk w90 (f90 s')∧Heap.le (TH s') H') v5 v6 v7 v8 v15 v67 v68 v69 v89 (f90 s) (TH s)) :
  L94_4 K N1 v5 v6 v7 v8 v15 v67 v68 v69 v89 v90 H:=by
 unfold L94_4
 exact LoopV.mk s0 (fun s=>[f90 s]) TH pre μ (fun _=>rfl) (Eq.mp (by kernel_rfl) h0) (fun s hs=>Eq.mp (by kernel_rfl) (round s hs))
theorem L94_3_rule {K:AV→Heap→Prop} {N1:AV→Heap→Prop} {v5 v6 v7 v8 v15 v67 v68 v69 v75 v76 v77:AV} {H:Heap} {σ:Type} (s0:σ) (f77:σ→AV) (TH:σ→Heap) (pre:σ→Prop) (μ:σ→Nat)
  (h0:pre s0∧AV.wk v77 (f77 s0)∧Heap.le (TH s0) H)
  (round:∀s,pre s→B94_3 K N1 (fun w77 H'=>∃s',pre s'∧μ s' < μ s∧AV.wk w77 (f77 s')∧Heap.le (TH s') H') v5 v6 v7 v8 v15 v67 v68 v69 v75 v76 (f77 s) (TH s)) :
  L94_3 K N1 v5 v6 v7 v8 v15 v67 v68 v69 v75 v76 v77 H:=by
 unfold L94_3
 exact LoopV.mk s0 (fun s=>[f77 s]) TH pre μ (fun _=>rfl) (Eq.mp (by kernel_rfl) h0) (fun s hs=>Eq.mp (by kernel_rfl) (round s hs))
theorem L94_5_rule {K:AV→Heap→Prop} {v5 v7 v8 v109 v110:AV} {H:Heap} {σ:Type} (s0:σ) (f110:σ→AV) (TH:σ→Heap) (pre:σ→Prop) (μ:σ→Nat)
  (h0:pre s0∧AV.wk v110 (f110 s0)∧Heap.le (TH s0) H)
  (round:∀s,pre s→B94_5 K (fun w110 H'=>∃s',pre s'∧μ s' < μ s∧AV.wk w110 (f110 s')∧Heap.le (TH s') H') v5 v7 v8 v109 (f110 s) (TH s)) :
  L94_5 K v5 v7 v8 v109 v110 H:=by
 unfold L94_5
 exact LoopV.mk s0 (fun s=>[f110 s]) TH pre μ (fun _=>rfl) (Eq.mp (by kernel_rfl) h0) (fun s hs=>Eq.mp (by kernel_rfl) (round s hs))
theorem L94_2_rule {K:AV→Heap→Prop} {v5 v6 v7 v8 v67 v68 v69:AV} {H:Heap} {σ:Type} (s0:σ) (f69:σ→AV) (TH:σ→Heap) (pre:σ→Prop) (μ:σ→Nat)
  (h0:pre s0∧AV.wk v69 (f69 s0)∧Heap.le (TH s0) H)
  (round:∀s,pre s→B94_2 K (fun w69 H'=>∃s',pre s'∧μ s' < μ s∧AV.wk w69 (f69 s')∧Heap.le (TH s') H') v5 v6 v7 v8 v67 v68 (f69 s) (TH s)) :
  L94_2 K v5 v6 v7 v8 v67 v68 v69 H:=by
 unfold L94_2
 exact LoopV.mk s0 (fun s=>[f69 s]) TH pre μ (fun _=>rfl) (Eq.mp (by kernel_rfl) h0) (fun s hs=>Eq.mp (by kernel_rfl) (round s hs))
theorem L94_0_rule {K:AV→Heap→Prop} {v1 v5 v6 v7 v8 v28 v29 v30:AV} {H:Heap} {σ:Type} (s0:σ) (f30:σ→AV) (TH:σ→Heap) (pre:σ→Prop) (μ:σ→Nat)
  (h0:pre s0∧AV.wk v30 (f30 s0)∧Heap.le (TH s0) H)
  (round:∀s,pre s→B94_0 K (fun w30 H'=>∃s',pre s'∧μ s' < μ s∧AV.wk w30 (f30 s')∧Heap.le (TH s') H') v1 v5 v6 v7 v8 v28 v29 (f30 s) (TH s)) :
  L94_0 K v1 v5 v6 v7 v8 v28 v29 v30 H:=by
 unfold L94_0
 exact LoopV.mk s0 (fun s=>[f30 s]) TH pre μ (fun _=>rfl) (Eq.mp (by kernel_rfl) h0) (fun s hs=>Eq.mp (by kernel_rfl) (round s hs))
def D95:Info:=⟨6,fun i=>([],[]),fun i=>([],[])⟩
def W95 (v0:AV) (H:Heap) (K:AV→Heap→Prop):Prop:=
 CallT Tryz.prog 119 [v0,(.fn 120 [])] H fun v4 H1=>
 unV .not v4 fun v5=>
 K v5 H1
theorem W95_wp (v0:AV) (H:Heap) (K:AV→Heap→Prop):wpC Tryz.prog tab D95 (bO_ Tryz.f95) (retF tab [.tmp 2] K) (nthA [v0]) H=W95 v0 H K:=by kernel_rfl
theorem W95_ok {v0:AV} {H:Heap} {K:AV→Heap→Prop} (h:W95 v0 H K):CallT Tryz.prog 95 [v0] H K:=
 CallT.of_wp (D:=D95) tO_ mixed Tryz.func95 (c:=bO_ Tryz.f95) (by kernel_rfl) rfl (by kernel_rfl) (rs:=#[.tmp 2]) rfl (by decide +kernel) (by kernel_rfl) (W95_wp v0 H K) h
def D96:Info:=⟨16,fun i=>([],[]),fun i=>if i=2 then ([0],[1,5]) else ([],[])⟩
def L96_0 (K:AV→Heap→Prop) (v0:AV) (v1:AV) (v5:AV) (H:Heap):Prop:=LoopV (wpC Tryz.prog tab D96 (cAt [1,1,0,0,0] (bO_ Tryz.f96))) [0] (PostF.block 0 (PostF.thenA (wpC Tryz.prog tab D96 (cAt [1,1,1] (bO_ Tryz.f96))) (retF tab [.tmp 4] K))) [1,5] [v0,v1,Q_,Q_,Q_,v5,Q_,Q_,Q_,Q_,Q_,Q_,Q_,Q_,Q_,Q_] H
def B96_0 (K:AV→Heap→Prop) (N1:AV→AV→Heap→Prop) (v0:AV) (v1:AV) (v5:AV) (H:Heap):Prop:=
 binV tab .gtr 3 v1 (AV.p (.int .i64 0)) fun v7=>
 cV_ v7 (CallT Tryz.prog 69 [v0,(AV.p (.int .i64 8))] H fun v12 H1=>
 bS_ tab 24 1 [(0,v12)] H1 (wkK fun v13 H2=>
 aP_ tab 24 24 v5 v13 H2 (wkK fun v14 H3=>
 binV tab .sub 3 v1 (AV.p (.int .i64 1)) fun v9=>
 N1 v9 v14 H3)))
 (K v5 H)
def W96 (v0:AV) (v1:AV) (H:Heap) (K:AV→Heap→Prop):Prop:=
 L96_0 K v0 v1 (AV.p .nil) H
theorem W96_wp (v0:AV) (v1:AV) (H:Heap) (K:AV→Heap→Prop):wpC Tryz.prog tab D96 (bO_ Tryz.f96) (retF tab [.tmp 4] K) (nthA [v0,v1]) H=W96 v0 v1 H K:=by kernel_rfl
theorem W96_ok {v0 v1:AV} {H:Heap} {K:AV→Heap→Prop} (h:W96 v0 v1 H K):CallT Tryz.prog 96 [v0,v1] H K:=
 CallT.of_wp (D:=D96) tO_ mixed Tryz.func96 (c:=bO_ Tryz.f96) (by kernel_rfl) rfl (by kernel_rfl) (rs:=#[.tmp 4]) rfl (by decide +kernel) (by kernel_rfl) (W96_wp v0 v1 H K) h
theorem W96_hb:HasBody Tryz.prog 96:=⟨_,bO_ Tryz.f96,Tryz.func96,by kernel_rfl,rfl⟩
theorem L96_0_rule {K:AV→Heap→Prop} {v0 v1 v5:AV} {H:Heap} {σ:Type} (s0:σ) (f1:σ→AV) (f5:σ→AV) (TH:σ→Heap) (pre:σ→Prop) (μ:σ→Nat)
  (h0:pre s0∧AV.wk v1 (f1 s0)∧AV.wk v5 (f5 s0)∧Heap.le (TH s0) H)
  (round:∀s,pre s→B96_0 K (fun w1 w5 H'=>∃s',pre s'∧μ s' < μ s∧AV.wk w1 (f1 s')∧AV.wk w5 (f5 s')∧Heap.le (TH s') H') v0 (f1 s) (f5 s) (TH s)) :
  L96_0 K v0 v1 v5 H:=by
 unfold L96_0
 exact LoopV.mk s0 (fun s=>[f1 s,f5 s]) TH pre μ (fun _=>rfl) (Eq.mp (by kernel_rfl) h0) (fun s hs=>Eq.mp (by kernel_rfl) (round s hs))
def D97:Info:=⟨12,fun i=>([],[]),fun i=>([],[])⟩
def W97 (v0:AV) (v1:AV) (H:Heap) (K:AV→Heap→Prop):Prop:=
 lenV tab 24 v1 fun v8=>
 CallT Tryz.prog 69 [v0,v8] H fun v9 H1=>
 iA_ tab 24 v1 v9 fun v10=>
 lV_ tab 3 v10 H1 fun v11=>
 K v11 H1
theorem W97_wp (v0:AV) (v1:AV) (H:Heap) (K:AV→Heap→Prop):wpC Tryz.prog tab D97 (bO_ Tryz.f97) (retF tab [.tmp 4] K) (nthA [v0,v1]) H=W97 v0 v1 H K:=by kernel_rfl
theorem W97_ok {v0 v1:AV} {H:Heap} {K:AV→Heap→Prop} (h:W97 v0 v1 H K):CallT Tryz.prog 97 [v0,v1] H K:=
 CallT.of_wp (D:=D97) tO_ mixed Tryz.func97 (c:=bO_ Tryz.f97) (by kernel_rfl) rfl (by kernel_rfl) (rs:=#[.tmp 4]) rfl (by decide +kernel) (by kernel_rfl) (W97_wp v0 v1 H K) h
def D102:Info:=⟨19,fun i=>([],[]),fun i=>if i=2 then ([0,1,7],[8]) else ([],[])⟩
def L102_0 (K:AV→Heap→Prop) (v0:AV) (v1:AV) (v7:AV) (v8:AV) (H:Heap):Prop:=LoopV (wpC Tryz.prog tab D102 (cAt [1,0,1,0,0] (bO_ Tryz.f102))) [0,1,7] (PostF.block 0 (PostF.thenA (wpC Tryz.prog tab D102 (cAt [1,1] (bO_ Tryz.f102))) (retF tab [.tmp 4] K))) [8] [v0,v1,Q_,Q_,Q_,Q_,Q_,v7,v8,Q_,Q_,Q_,Q_,Q_,Q_,Q_,Q_,Q_,Q_] H
def B102_0 (K:AV→Heap→Prop) (N1:AV→Heap→Prop) (v0:AV) (v1:AV) (v7:AV) (v8:AV) (H:Heap):Prop:=
 binV tab .lss 3 v8 v7 fun v9=>
 cV_ v9 (iA_ tab 24 v0 v8 fun v14=>
 lV_ tab 3 v14 H fun v15=>
 binV tab .eql 3 v1 v15 fun v16=>
 cV_ v16 (K v8 H)
 (binV tab .add 3 v8 (AV.p (.int .i64 1)) fun v18=>
 N1 v18 H))
 (K (AV.p (.int .i64 (-1))) H)
def W102 (v0:AV) (v1:AV) (H:Heap) (K:AV→Heap→Prop):Prop:=
 lenV tab 24 v0 fun v7=>
 L102_0 K v0 v1 v7 (AV.p (.int .i64 0)) H
theorem W102_wp (v0:AV) (v1:AV) (H:Heap) (K:AV→Heap→Prop):wpC Tryz.prog tab D102 (bO_ Tryz.f102) (retF tab [.tmp 4] K) (nthA [v0,v1]) H=W102 v0 v1 H K:=by kernel_rfl
theorem W102_ok {v0 v1:AV} {H:Heap} {K:AV→Heap→Prop} (h:W102 v0 v1 H K):CallT Tryz.prog 102 [v0,v1] H K:=
 CallT.of_wp (D:=D102) tO_ mixed Tryz.func102 (c:=bO_ Tryz.f102) (by kernel_rfl) rfl (by kernel_rfl) (rs:=#[.tmp 4]) rfl (by decide +kernel) (by kernel_rfl) (W102_wp v0 v1 H K) h
theorem L102_0_rule {K:AV→Heap→Prop} {v0 v1 v7 v8:AV} {H:Heap} {σ:Type} (s0:σ) (f8:σ→AV) (TH:σ→Heap) (pre:σ→Prop) (μ:σ→Nat)
  (h0:pre s0∧AV.wk v8 (f8 s0)∧Heap.le (TH s0) H)
  (round:∀s,pre s→B102_0 K (fun w8 H'=>∃s',pre s'∧μ s' < μ s∧AV.wk w8 (f8 s')∧Heap.le (TH s') H') v0 v1 v7 (f8 s) (TH s)) :
  L102_0 K v0 v1 v7 v8 H:=by
 unfold L102_0
 exact LoopV.mk s0 (fun s=>[f8 s]) TH pre μ (fun _=>rfl) (Eq.mp (by kernel_rfl) h0) (fun s hs=>Eq.mp (by kernel_rfl) (round s hs))
def D103:Info:=⟨30,fun i=>([],[]),fun i=>([],[])⟩
def W103 (v0:AV) (v1:AV) (H:Heap) (K:AV→Heap→Prop):Prop:=
 CallT Tryz.prog 123 [v0,v1] H fun v25 H1=>
 xV_ v25 0 fun v26=>
 xV_ v25 1 fun v27=>
 K (.tup [v26,v27]) H1
theorem W103_wp (v0:AV) (v1:AV) (H:Heap) (K:AV→Heap→Prop):wpC Tryz.prog tab D103 (bO_ Tryz.f103) (retF tab [.tmp 4,.tmp 5] K) (nthA [v0,v1]) H=W103 v0 v1 H K:=by kernel_rfl
theorem W103_ok {v0 v1:AV} {H:Heap} {K:AV→Heap→Prop} (h:W103 v0 v1 H K):CallT Tryz.prog 103 [v0,v1] H K:=
 CallT.of_wp (D:=D103) tO_ mixed Tryz.func103 (c:=bO_ Tryz.f103) (by kernel_rfl) rfl (by kernel_rfl) (rs:=#[.tmp 4,.tmp 5]) rfl (by decide +kernel) (by kernel_rfl) (W103_wp v0 v1 H K) h
def D105:Info:=⟨37,fun i=>([],[]),fun i=>if i=3 then ([3,11,12],[13]) else if i=6 then ([3,4,11,12,13,18,19],[20]) else ([],[])⟩
def L105_0 (K:AV→Heap→Prop) (v3:AV) (v11:AV) (v12:AV) (v13:AV) (H:Heap):Prop:=LoopV (wpC Tryz.prog tab D105 (cAt [1,1,0,1,0,0] (bO_ Tryz.f105))) [3,11,12] (PostF.block 0 (PostF.thenA (wpC Tryz.prog tab D105 (cAt [1,1,1] (bO_ Tryz.f105))) (retF tab [.tmp 2] K))) [13] [Q_,Q_,Q_,v3,Q_,Q_,Q_,Q_,Q_,Q_,Q_,v11,v12,v13,Q_,Q_,Q_,Q_,Q_,Q_,Q_,Q_,Q_,Q_,Q_,Q_,Q_,Q_,Q_,Q_,Q_,Q_,Q_,Q_,Q_,Q_,Q_] H
def L105_1 (K:AV→Heap→Prop) (N1:AV→Heap→Prop) (v3:AV) (v4:AV) (v11:AV) (v12:AV) (v13:AV) (v18:AV) (v19:AV) (v20:AV) (H:Heap):Prop:=LoopV (wpC Tryz.prog tab D105 (cAt [1,1,0,1,0,0,1,1,0,0,1,1,0,0] (bO_ Tryz.f105))) [3,4,11,12,13,18,19] (PostF.block 2 (PostF.block 1 (PostF.thenA (wpC Tryz.prog tab D105 (cAt [1,1,0,1,0,0,1,1,1] (bO_ Tryz.f105))) (loopF (PostF.block 0 (PostF.thenA (wpC Tryz.prog tab D105 (cAt [1,1,1] (bO_ Tryz.f105))) (retF tab [.tmp 2] K))) (fun e h=>N1 (e 13) h))))) [20] [Q_,Q_,Q_,v3,v4,Q_,Q_,Q_,Q_,Q_,Q_,v11,v12,v13,Q_,Q_,Q_,Q_,v18,v19,v20,Q_,Q_,Q_,Q_,Q_,Q_,Q_,Q_,Q_,Q_,Q_,Q_,Q_,Q_,Q_,Q_] H
def B105_1 (K:AV→Heap→Prop) (N1:AV→Heap→Prop) (N2:AV→Heap→Prop) (v3:AV) (v4:AV) (v11:AV) (v12:AV) (v13:AV) (v18:AV) (v19:AV) (v20:AV) (H:Heap):Prop:=
 binV tab .lss 3 v20 v19 fun v21=>
 cV_ v21 (iA_ tab 24 v18 v20 fun v22=>
 lV_ tab 3 v22 H fun v23=>
 iA_ tab 26 v3 v23 fun v28=>
 lV_ tab 24 v28 H fun v29=>
 bS_ tab 24 1 [(0,v4)] H (wkK fun v31 H2=>
 aP_ tab 24 24 v29 v31 H2 (wkK fun v32 H3=>
 iA_ tab 26 v3 v23 fun v33=>
 sV_ tab 24 v33 v32 H3 fun H4=>
 binV tab .add 3 v20 (AV.p (.int .i64 1)) fun v34=>
 N2 v34 H4)))
 (binV tab .add 3 v13 (AV.p (.int .i64 1)) fun v35=>
 N1 v35 H)
def B105_0 (K:AV→Heap→Prop) (N1:AV→Heap→Prop) (v3:AV) (v11:AV) (v12:AV) (v13:AV) (H:Heap):Prop:=
 binV tab .lss 3 v13 v12 fun v14=>
 cV_ v14 (iA_ tab 26 v11 v13 fun v16=>
 lV_ tab 24 v16 H fun v17=>
 lenV tab 24 v17 fun v19=>
 L105_1 K N1 v3 v13 v11 v12 v13 v17 v19 (AV.p (.int .i64 0)) H)
 (K v3 H)
def W105 (v0:AV) (H:Heap) (K:AV→Heap→Prop):Prop:=
 lenV tab 26 v0 fun v9=>
 mS_ tab 26 v9 v9 H fun v10 H1=>
 lenV tab 26 v0 fun v12=>
 L105_0 K v10 v0 v12 (AV.p (.int .i64 0)) H1
theorem W105_wp (v0:AV) (H:Heap) (K:AV→Heap→Prop):wpC Tryz.prog tab D105 (bO_ Tryz.f105) (retF tab [.tmp 2] K) (nthA [v0]) H=W105 v0 H K:=by kernel_rfl
theorem W105_ok {v0:AV} {H:Heap} {K:AV→Heap→Prop} (h:W105 v0 H K):CallT Tryz.prog 105 [v0] H K:=
 CallT.of_wp (D:=D105) tO_ mixed Tryz.func105 (c:=bO_ Tryz.f105) (by kernel_rfl) rfl (by kernel_rfl) (rs:=#[.tmp 2]) rfl (by decide +kernel) (by kernel_rfl) (W105_wp v0 H K) h
theorem L105_1_rule {K:AV→Heap→Prop} {N1:AV→Heap→Prop} {v3 v4 v11 v12 v13 v18 v19 v20:AV} {H:Heap} {σ:Type} (s0:σ) (f20:σ→AV) (TH:σ→Heap) (pre:σ→Prop) (μ:σ→Nat)
  (h0:pre s0∧AV.wk v20 (f20 s0)∧Heap.le (TH s0) H)
  (round:∀s,pre s→B105_1 K N1 (fun w20 H'=>∃s',pre s'∧μ s' < μ s∧AV.wk w20 (f20 s')∧Heap.le (TH s') H') v3 v4 v11 v12 v13 v18 v19 (f20 s) (TH s)) :
  L105_1 K N1 v3 v4 v11 v12 v13 v18 v19 v20 H:=by
 unfold L105_1
 exact LoopV.mk s0 (fun s=>[f20 s]) TH pre μ (fun _=>rfl) (Eq.mp (by kernel_rfl) h0) (fun s hs=>Eq.mp (by kernel_rfl) (round s hs))
theorem L105_0_rule {K:AV→Heap→Prop} {v3 v11 v12 v13:AV} {H:Heap} {σ:Type} (s0:σ) (f13:σ→AV) (TH:σ→Heap) (pre:σ→Prop) (μ:σ→Nat)
  (h0:pre s0∧AV.wk v13 (f13 s0)∧Heap.le (TH s0) H)
  (round:∀s,pre s→B105_0 K (fun w13 H'=>∃s',pre s'∧μ s' < μ s∧AV.wk w13 (f13 s')∧Heap.le (TH s') H') v3 v11 v12 (f13 s) (TH s)) :
  L105_0 K v3 v11 v12 v13 H:=by
 unfold L105_0
 exact LoopV.mk s0 (fun s=>[f13 s]) TH pre μ (fun _=>rfl) (Eq.mp (by kernel_rfl) h0) (fun s hs=>Eq.mp (by kernel_rfl) (round s hs))
end Go.Proofs.YtohkciilfkhomaaGreat
namespace Go.Proofs.YtohkciilfkhomaaGreat
open Go Go.Sep
attribute [local irreducible] wpC headF
def D106:Info:=⟨62,fun i=>if i=2 then ([[],[0],[0,1],[0,1,2],[],[4],[4,5],[4,5,6],[4,5,6,7],[0,1,2,3,4,5,6,7,8]],[(0,[]),(1,[]),(2,[]),(3,[]),(4,[]),(5,[]),(6,[]),(7,[]),(8,[]),(9,[])]) else if i=3 then ([[],[0],[0,1],[0,1,2],[],[4],[4,5],[4,5,6],[0,1,2,3,4,5,6,7],[0,1,2,3,4,5,6,7,8],[0,1,2,3,4,5,6,7,8,9],[0,1,2,3,4,5,6,7,8,9,10]],[(0,[]),(1,[]),(2,[]),(3,[]),(4,[]),(5,[]),(6,[]),(7,[]),(8,[]),(9,[]),(10,[]),(11,[])]) else if i=6 then ([[],[0],[0,1],[0,1,2],[],[4],[4,5],[4,5,6],[4,5,6,7],[0,1,2,3,4,5,6,7,8]],[(0,[]),(1,[]),(2,[]),(3,[]),(4,[]),(5,[]),(6,[]),(7,[]),(8,[]),(9,[])]) else ([],[]),fun i=>([],[])⟩
def J106_0 (K:AV→Heap→Prop) (v0:AV) (v3:AV) (H:Heap):Prop:=
 nC_ v0 fun v26=>
 fA_ tab 71 v26 1 fun v27=>
 lV_ tab 3 v27 H fun v28=>
 binV tab .add 3 v28 (AV.p (.int .i64 1)) fun v29=>
 nC_ v0 fun v30=>
 fA_ tab 71 v30 1 fun v31=>
 sV_ tab 3 v31 v29 H fun H1=>
 nC_ v0 fun v34=>
 fA_ tab 71 v34 2 fun v35=>
 lV_ tab 69 v35 H1 fun v36=>
 binV tab .mul 69 v36 (AV.p (.int .u64 6364136223846793005)) fun v37=>
 convV tab 3 69 v3 fun v39=>
 binV tab .add 69 v37 v39 fun v40=>
 binV tab .add 69 v40 (AV.p (.int .u64 1442695040888963407)) fun v41=>
 nC_ v0 fun v42=>
 fA_ tab 71 v42 2 fun v43=>
 sV_ tab 69 v43 v41 H1 fun H2=>
 nC_ v0 fun v45=>
 fA_ tab 71 v45 1 fun v46=>
 lV_ tab 3 v46 H2 fun v47=>
 nC_ v0 fun v49=>
 fA_ tab 71 v49 0 fun v50=>
 lV_ tab 22 v50 H2 fun v51=>
 lenV tab 22 v51 fun v52=>
 binV tab .leq 3 v47 v52 fun v53=>
 cV_ v53 (K v3 H2)
 (nC_ v0 fun v56=>
 fA_ tab 71 v56 2 fun v57=>
 lV_ tab 69 v57 H2 fun v58=>
 binV tab .shr 69 v58 (AV.p (.int .u64 40)) fun v59=>
 binV tab .and 69 v59 (AV.p (.int .u64 255)) fun v60=>
 convV tab 69 3 v60 fun v61=>
 K v61 H2)
def W106 (v0:AV) (H:Heap) (K:AV→Heap→Prop):Prop:=
 nC_ v0 fun v5=>
 fA_ tab 71 v5 1 fun v6=>
 lV_ tab 3 v6 H fun v7=>
 nC_ v0 fun v9=>
 fA_ tab 71 v9 0 fun v10=>
 lV_ tab 22 v10 H fun v11=>
 lenV tab 22 v11 fun v12=>
 binV tab .lss 3 v7 v12 fun v13=>
 cV_ v13 (nC_ v0 fun v15=>
 fA_ tab 71 v15 0 fun v16=>
 lV_ tab 22 v16 H fun v17=>
 nC_ v0 fun v19=>
 fA_ tab 71 v19 1 fun v20=>
 lV_ tab 3 v20 H fun v21=>
 iA_ tab 22 v17 v21 fun v22=>
 lV_ tab 5 v22 H fun v23=>
 convV tab 5 3 v23 fun v24=>
 J106_0 K v0 v24 H)
 (J106_0 K v0 (AV.p (.int .i64 0)) H)
theorem W106_wp (v0:AV) (H:Heap) (K:AV→Heap→Prop):wpC Tryz.prog tab D106 (bO_ Tryz.f106) (retF tab [.tmp 2] K) (nthA [v0]) H=W106 v0 H K:=by kernel_rfl
theorem W106_ok {v0:AV} {H:Heap} {K:AV→Heap→Prop} (h:W106 v0 H K):CallT Tryz.prog 106 [v0] H K:=
 CallT.of_wp (D:=D106) tO_ mixed Tryz.func106 (c:=bO_ Tryz.f106) (by kernel_rfl) rfl (by kernel_rfl) (rs:=#[.tmp 2]) rfl (by decide +kernel) (by kernel_rfl) (W106_wp v0 H K) h
def D107:Info:=⟨35,fun i=>([],[]),fun i=>if i=2 then ([0,1,2,9,10],[11]) else ([],[])⟩
def L107_0 (K:AV→Heap→Prop) (v0:AV) (v1:AV) (v2:AV) (v9:AV) (v10:AV) (v11:AV) (H:Heap):Prop:=LoopV (wpC Tryz.prog tab D107 (cAt [1,0,1,0,0] (bO_ Tryz.f107))) [0,1,2,9,10] (PostF.block 0 (PostF.thenA (wpC Tryz.prog tab D107 (cAt [1,1] (bO_ Tryz.f107))) (retF tab [.tmp 6] K))) [11] [v0,v1,v2,Q_,Q_,Q_,Q_,Q_,Q_,v9,v10,v11,Q_,Q_,Q_,Q_,Q_,Q_,Q_,Q_,Q_,Q_,Q_,Q_,Q_,Q_,Q_,Q_,Q_,Q_,Q_,Q_,Q_,Q_,Q_] H
def B107_0 (K:AV→Heap→Prop) (N1:AV→Heap→Prop) (v0:AV) (v1:AV) (v2:AV) (v9:AV) (v10:AV) (v11:AV) (H:Heap):Prop:=
 binV tab .lss 3 v11 v10 fun v12=>
 cV_ v12 (iA_ tab 24 v9 v11 fun v14=>
 lV_ tab 3 v14 H fun v15=>
 CallT Tryz.prog 48 [v15,v1,v2] H fun v19 H1=>
 unV .not v19 fun v20=>
 grdV v20 false (binV tab .gtr 3 v11 (AV.p (.int .i64 0)) fun v23=>
 grdV v23 true (binV tab .sub 3 v11 (AV.p (.int .i64 1)) fun v27=>
 iA_ tab 24 v0 v27 fun v28=>
 lV_ tab 3 v28 H1 fun v29=>
 binV tab .geq 3 v29 v15 fun v31=>
 cV_ v31 (K (AV.p (.bool false)) H1)
 (binV tab .add 3 v11 (AV.p (.int .i64 1)) fun v34=>
 N1 v34 H1))
 (binV tab .add 3 v11 (AV.p (.int .i64 1)) fun v34=>
 N1 v34 H1))
 (K (AV.p (.bool false)) H1))
 (K (AV.p (.bool true)) H)
def W107 (v0:AV) (v1:AV) (v2:AV) (H:Heap) (K:AV→Heap→Prop):Prop:=
 lenV tab 24 v0 fun v10=>
 L107_0 K v0 v1 v2 v0 v10 (AV.p (.int .i64 0)) H
theorem W107_wp (v0:AV) (v1:AV) (v2:AV) (H:Heap) (K:AV→Heap→Prop):wpC Tryz.prog tab D107 (bO_ Tryz.f107) (retF tab [.tmp 6] K) (nthA [v0,v1,v2]) H=W107 v0 v1 v2 H K:=by kernel_rfl
theorem W107_ok {v0 v1 v2:AV} {H:Heap} {K:AV→Heap→Prop} (h:W107 v0 v1 v2 H K):CallT Tryz.prog 107 [v0,v1,v2] H K:=
 CallT.of_wp (D:=D107) tO_ mixed Tryz.func107 (c:=bO_ Tryz.f107) (by kernel_rfl) rfl (by kernel_rfl) (rs:=#[.tmp 6]) rfl (by decide +kernel) (by kernel_rfl) (W107_wp v0 v1 v2 H K) h
theorem L107_0_rule {K:AV→Heap→Prop} {v0 v1 v2 v9 v10 v11:AV} {H:Heap} {σ:Type} (s0:σ) (f11:σ→AV) (TH:σ→Heap) (pre:σ→Prop) (μ:σ→Nat)
  (h0:pre s0∧AV.wk v11 (f11 s0)∧Heap.le (TH s0) H)
  (round:∀s,pre s→B107_0 K (fun w11 H'=>∃s',pre s'∧μ s' < μ s∧AV.wk w11 (f11 s')∧Heap.le (TH s') H') v0 v1 v2 v9 v10 (f11 s) (TH s)) :
  L107_0 K v0 v1 v2 v9 v10 v11 H:=by
 unfold L107_0
 exact LoopV.mk s0 (fun s=>[f11 s]) TH pre μ (fun _=>rfl) (Eq.mp (by kernel_rfl) h0) (fun s hs=>Eq.mp (by kernel_rfl) (round s hs))
def D109:Info:=⟨9,fun i=>([],[]),fun i=>([],[])⟩
def W109 (v0:AV) (v1:AV) (H:Heap) (K:AV→Heap→Prop):Prop:=
 CallT Tryz.prog 124 [v0,v1] H fun v7 H1=>
 binV tab .geq 3 v7 (AV.p (.int .i64 0)) fun v8=>
 K v8 H1
theorem W109_wp (v0:AV) (v1:AV) (H:Heap) (K:AV→Heap→Prop):wpC Tryz.prog tab D109 (bO_ Tryz.f109) (retF tab [.tmp 4] K) (nthA [v0,v1]) H=W109 v0 v1 H K:=by kernel_rfl
theorem W109_ok {v0 v1:AV} {H:Heap} {K:AV→Heap→Prop} (h:W109 v0 v1 H K):CallT Tryz.prog 109 [v0,v1] H K:=
 CallT.of_wp (D:=D109) tO_ mixed Tryz.func109 (c:=bO_ Tryz.f109) (by kernel_rfl) rfl (by kernel_rfl) (rs:=#[.tmp 4]) rfl (by decide +kernel) (by kernel_rfl) (W109_wp v0 v1 H K) h
def D110:Info:=⟨8,fun i=>([],[]),fun i=>([],[])⟩
def W110 (v0:AV) (v1:AV) (H:Heap) (K:AV→Heap→Prop):Prop:=
 lV_ tab 3 v1 H fun v5=>
 CallT Tryz.prog 70 [v0,v5] H fun v6 H1=>
 unV .not v6 fun v7=>
 K v7 H1
theorem W110_wp (v0:AV) (v1:AV) (H:Heap) (K:AV→Heap→Prop):wpC Tryz.prog tab D110 (bO_ Tryz.f110) (retF tab [.tmp 3] K) (nthA [v0,v1]) H=W110 v0 v1 H K:=by kernel_rfl
theorem W110_ok {v0 v1:AV} {H:Heap} {K:AV→Heap→Prop} (h:W110 v0 v1 H K):CallT Tryz.prog 110 [v0,v1] H K:=
 CallT.of_wp (D:=D110) tO_ mixed Tryz.func110 (c:=bO_ Tryz.f110) (by kernel_rfl) rfl (by kernel_rfl) (rs:=#[.tmp 3]) rfl (by decide +kernel) (by kernel_rfl) (W110_wp v0 v1 H K) h
def D111:Info:=⟨18,fun i=>([],[]),fun i=>if i=3 then ([3,6,7],[8]) else ([],[])⟩
def L111_0 (K:AV→Heap→Prop) (v3:AV) (v6:AV) (v7:AV) (v8:AV) (H:Heap):Prop:=LoopV (wpC Tryz.prog tab D111 (cAt [1,1,0,1,0,0] (bO_ Tryz.f111))) [3,6,7] (PostF.block 0 (PostF.thenA (wpC Tryz.prog tab D111 (cAt [1,1,1] (bO_ Tryz.f111))) (retF tab [.tmp 2] K))) [8] [Q_,Q_,Q_,v3,Q_,Q_,v6,v7,v8,Q_,Q_,Q_,Q_,Q_,Q_,Q_,Q_,Q_] H
def B111_0 (K:AV→Heap→Prop) (N1:AV→Heap→Prop) (v3:AV) (v6:AV) (v7:AV) (v8:AV) (H:Heap):Prop:=
 binV tab .lss 3 v8 v7 fun v9=>
 cV_ v9 (iA_ tab 24 v6 v8 fun v10=>
 lV_ tab 3 v10 H fun v11=>
 binV tab .neq 3 v11 v3 fun v14=>
 cV_ v14 (K v11 H)
 (binV tab .add 3 v8 (AV.p (.int .i64 1)) fun v16=>
 N1 v16 H))
 (K v3 H)
def W111 (v0:AV) (H:Heap) (K:AV→Heap→Prop):Prop:=
 lenV tab 24 v0 fun v7=>
 L111_0 K (AV.p (.int .i64 0)) v0 v7 (AV.p (.int .i64 0)) H
theorem W111_wp (v0:AV) (H:Heap) (K:AV→Heap→Prop):wpC Tryz.prog tab D111 (bO_ Tryz.f111) (retF tab [.tmp 2] K) (nthA [v0]) H=W111 v0 H K:=by kernel_rfl
theorem W111_ok {v0:AV} {H:Heap} {K:AV→Heap→Prop} (h:W111 v0 H K):CallT Tryz.prog 111 [v0] H K:=
 CallT.of_wp (D:=D111) tO_ mixed Tryz.func111 (c:=bO_ Tryz.f111) (by kernel_rfl) rfl (by kernel_rfl) (rs:=#[.tmp 2]) rfl (by decide +kernel) (by kernel_rfl) (W111_wp v0 H K) h
theorem L111_0_rule {K:AV→Heap→Prop} {v3 v6 v7 v8:AV} {H:Heap} {σ:Type} (s0:σ) (f8:σ→AV) (TH:σ→Heap) (pre:σ→Prop) (μ:σ→Nat)
  (h0:pre s0∧AV.wk v8 (f8 s0)∧Heap.le (TH s0) H)
  (round:∀s,pre s→B111_0 K (fun w8 H'=>∃s',pre s'∧μ s' < μ s∧AV.wk w8 (f8 s')∧Heap.le (TH s') H') v3 v6 v7 (f8 s) (TH s)) :
  L111_0 K v3 v6 v7 v8 H:=by
 unfold L111_0
 exact LoopV.mk s0 (fun s=>[f8 s]) TH pre μ (fun _=>rfl) (Eq.mp (by kernel_rfl) h0) (fun s hs=>Eq.mp (by kernel_rfl) (round s hs))
def D112:Info:=⟨20,fun i=>([],[]),fun i=>([],[])⟩
def W112 (v0:AV) (v1:AV) (H:Heap) (K:AV→Heap→Prop):Prop:=
 CallT Tryz.prog 125 [v0] H fun v8 H1=>
 CallT Tryz.prog 125 [v1] H1 fun v10 H2=>
 cV_ v8 (cV_ v10 (K (AV.p (.int .i64 0)) H2)
 (K (AV.p (.int .i64 (-1))) H2))
 (cV_ v10 (K (AV.p (.int .i64 1)) H2)
 (binV tab .lss 3 v0 v1 fun v16=>
 cV_ v16 (K (AV.p (.int .i64 (-1))) H2)
 (binV tab .gtr 3 v0 v1 fun v19=>
 cV_ v19 (K (AV.p (.int .i64 1)) H2)
 (K (AV.p (.int .i64 0)) H2))))
theorem W112_wp (v0:AV) (v1:AV) (H:Heap) (K:AV→Heap→Prop):wpC Tryz.prog tab D112 (bO_ Tryz.f112) (retF tab [.tmp 4] K) (nthA [v0,v1]) H=W112 v0 v1 H K:=by kernel_rfl
theorem W112_ok {v0 v1:AV} {H:Heap} {K:AV→Heap→Prop} (h:W112 v0 v1 H K):CallT Tryz.prog 112 [v0,v1] H K:=
 CallT.of_wp (D:=D112) tO_ mixed Tryz.func112 (c:=bO_ Tryz.f112) (by kernel_rfl) rfl (by kernel_rfl) (rs:=#[.tmp 4]) rfl (by decide +kernel) (by kernel_rfl) (W112_wp v0 v1 H K) h
def D113:Info:=⟨19,fun i=>([],[]),fun i=>if i=2 then ([0,1,7],[8]) else ([],[])⟩
def L113_0 (K:AV→Heap→Prop) (v0:AV) (v1:AV) (v7:AV) (v8:AV) (H:Heap):Prop:=LoopV (wpC Tryz.prog tab D113 (cAt [1,0,1,0,0] (bO_ Tryz.f113))) [0,1,7] (PostF.block 0 (PostF.thenA (wpC Tryz.prog tab D113 (cAt [1,1] (bO_ Tryz.f113))) (retF tab [.tmp 4] K))) [8] [v0,v1,Q_,Q_,Q_,Q_,Q_,v7,v8,Q_,Q_,Q_,Q_,Q_,Q_,Q_,Q_,Q_,Q_] H
def B113_0 (K:AV→Heap→Prop) (N1:AV→Heap→Prop) (v0:AV) (v1:AV) (v7:AV) (v8:AV) (H:Heap):Prop:=
 binV tab .lss 3 v8 v7 fun v9=>
 cV_ v9 (iA_ tab 24 v0 v8 fun v14=>
 lV_ tab 3 v14 H fun v15=>
 callF Tryz.prog v1 [v15] H fun v16 H1=>
 cV_ v16 (K v8 H1)
 (binV tab .add 3 v8 (AV.p (.int .i64 1)) fun v18=>
 N1 v18 H1))
 (K (AV.p (.int .i64 (-1))) H)
def W113 (v0:AV) (v1:AV) (H:Heap) (K:AV→Heap→Prop):Prop:=
 lenV tab 24 v0 fun v7=>
 L113_0 K v0 v1 v7 (AV.p (.int .i64 0)) H
theorem W113_wp (v0:AV) (v1:AV) (H:Heap) (K:AV→Heap→Prop):wpC Tryz.prog tab D113 (bO_ Tryz.f113) (retF tab [.tmp 4] K) (nthA [v0,v1]) H=W113 v0 v1 H K:=by kernel_rfl
theorem W113_ok {v0 v1:AV} {H:Heap} {K:AV→Heap→Prop} (h:W113 v0 v1 H K):CallT Tryz.prog 113 [v0,v1] H K:=
 CallT.of_wp (D:=D113) tO_ mixed Tryz.func113 (c:=bO_ Tryz.f113) (by kernel_rfl) rfl (by kernel_rfl) (rs:=#[.tmp 4]) rfl (by decide +kernel) (by kernel_rfl) (W113_wp v0 v1 H K) h
theorem L113_0_rule {K:AV→Heap→Prop} {v0 v1 v7 v8:AV} {H:Heap} {σ:Type} (s0:σ) (f8:σ→AV) (TH:σ→Heap) (pre:σ→Prop) (μ:σ→Nat)
  (h0:pre s0∧AV.wk v8 (f8 s0)∧Heap.le (TH s0) H)
  (round:∀s,pre s→B113_0 K (fun w8 H'=>∃s',pre s'∧μ s' < μ s∧AV.wk w8 (f8 s')∧Heap.le (TH s') H') v0 v1 v7 (f8 s) (TH s)) :
  L113_0 K v0 v1 v7 v8 H:=by
 unfold L113_0
 exact LoopV.mk s0 (fun s=>[f8 s]) TH pre μ (fun _=>rfl) (Eq.mp (by kernel_rfl) h0) (fun s hs=>Eq.mp (by kernel_rfl) (round s hs))
def D114:Info:=⟨15,fun i=>if i=1 then ([[],[],[0,1],[0,1,2],[],[],[4,5],[4,5,6],[4,5,6,7],[0,1,2,3,4,5,6,7,8],[0,1,2,3,4,5,6,7,8,9]],[(0,[]),(1,[]),(2,[]),(3,[]),(4,[]),(5,[]),(6,[]),(7,[]),(8,[]),(9,[]),(10,[])]) else ([],[]),fun i=>([],[])⟩
def W114 (v0:AV) (v1:AV) (v2:AV) (H:Heap) (K:AV→Heap→Prop):Prop:=
 lV_ tab 24 v1 H fun v5=>
 iA_ tab 24 v5 v0 fun v7=>
 lV_ tab 3 v7 H fun v8=>
 lV_ tab 24 v1 H fun v9=>
 lV_ tab 3 v2 H fun v10=>
 iA_ tab 24 v9 v10 fun v11=>
 lV_ tab 3 v11 H fun v12=>
 binV tab .sub 3 v12 (AV.p (.int .i64 1)) fun v13=>
 binV tab .eql 3 v8 v13 fun v14=>
 K v14 H
theorem W114_wp (v0:AV) (v1:AV) (v2:AV) (H:Heap) (K:AV→Heap→Prop):wpC Tryz.prog tab D114 (bO_ Tryz.f114) (retF tab [.tmp 4] K) (nthA [v0,v1,v2]) H=W114 v0 v1 v2 H K:=by kernel_rfl
theorem W114_ok {v0 v1 v2:AV} {H:Heap} {K:AV→Heap→Prop} (h:W114 v0 v1 v2 H K):CallT Tryz.prog 114 [v0,v1,v2] H K:=
 CallT.of_wp (D:=D114) tO_ mixed Tryz.func114 (c:=bO_ Tryz.f114) (by kernel_rfl) rfl (by kernel_rfl) (rs:=#[.tmp 4]) rfl (by decide +kernel) (by kernel_rfl) (W114_wp v0 v1 v2 H K) h
def D115:Info:=⟨177,fun i=>if i=1 then ([[],[0],[0,1],[0,1,2],[],[],[5],[5,6],[5,6,7],[],[],[10],[10,11],[10,11,12],[],[14],[14,15],[14,15,16],[0,1,2,3,4,5,6,7,8,10,11,12,13,14,15,16,17],[0,1,2,3,4,5,6,7,8,10,11,12,13,14,15,16,17,18],[0,1,2,3,4,5,6,7,8,9,10,11,12,13,14,15,16,17,18,19],[0,1,2,3,4,5,6,7,8,9,10,11,12,13,14,15,16,17,18,19,20]],[(0,[]),(1,[]),(2,[]),(3,[]),(4,[]),(5,[]),(6,[]),(7,[]),(8,[]),(9,[]),(10,[]),(11,[]),(12,[]),(13,[]),(14,[]),(15,[]),(16,[]),(17,[]),(18,[]),(19,[]),(20,[]),(21,[])]) else if i=8 then ([[],[0],[0,1],[0,1,2],[],[],[5],[5,6],[5,6,7],[],[5,6,7,8,9],[5,6,7,8,9,10],[],[12],[12,13],[12,13,14],[],[12,13,14,15,16],[12,13,14,15,16,17],[5,6,7,8,9,10,11,12,13,14,15,16,17,18],[0,1,2,3,4,5,6,7,8,9,10,11,12,13,14,15,16,17,18,19],[0,1,2,3,4,5,6,7,8,9,10,11,12,13,14,15,16,17,18,19,20]],[(0,[]),(1,[]),(2,[]),(3,[]),(4,[]),(5,[]),(6,[]),(7,[]),(8,[]),(9,[]),(10,[]),(11,[]),(12,[]),(13,[]),(14,[]),(15,[]),(16,[]),(17,[]),(18,[]),(19,[]),(20,[]),(21,[])]) else if i=10 then ([[],[0],[0,1],[0,1,2],[],[],[5],[5,6],[5,6,7],[],[5,6,7,8,9],[5,6,7,8,9,10],[],[12],[12,13],[12,13,14],[],[12,13,14,15,16],[12,13,14,15,16,17],[5,6,7,8,9,10,11,12,13,14,15,16,17,18],[0,1,2,3,4,5,6,7,8,9,10,11,12,13,14,15,16,17,18,19],[0,1,2,3,4,5,6,7,8,9,10,11,12,13,14,15,16,17,18,19,20]],[(0,[]),(1,[]),(2,[]),(3,[]),(4,[]),(5,[]),(6,[]),(7,[]),(8,[]),(9,[]),(10,[]),(11,[]),(12,[]),(13,[]),(14,[]),(15,[]),(16,[]),(17,[]),(18,[]),(19,[]),(20,[]),(21,[])]) else if i=12 then ([[],[0],[0,1],[0,1,2],[],[0,1,2,3,4],[0,1,2,3,4,5],[],[7],[7,8],[7,8,9],[],[7,8,9,10,11],[7,8,9,10,11,12],[0,1,2,3,4,5,6,7,8,9,10,11,12,13]],[(0,[]),(1,[]),(2,[]),(3,[]),(4,[]),(5,[]),(6,[]),(7,[]),(8,[]),(9,[]),(10,[]),(11,[]),(12,[]),(13,[]),(14,[])]) else ([],[]),fun i=>if i=4 then ([0,1,53,54],[55]) else if i=16 then ([0,6,7,154,155],[156]) else ([],[])⟩
def L115_0 (K:AV→Heap→Prop) (v0:AV) (v1:AV) (v53:AV) (v54:AV) (v55:AV) (H:Heap):Prop:=LoopV (wpC Tryz.prog tab D115 (cAt [1,1,1,0,1,0,0] (bO_ Tryz.f115))) [0,1,53,54] (PostF.block 0 (PostF.thenA (wpC Tryz.prog tab D115 (cAt [1,1,1,1] (bO_ Tryz.f115))) (retF tab [] K))) [55] [v0,v1,Q_,Q_,Q_,Q_,Q_,Q_,Q_,Q_,Q_,Q_,Q_,Q_,Q_,Q_,Q_,Q_,Q_,Q_,Q_,Q_,Q_,Q_,Q_,Q_,Q_,Q_,Q_,Q_,Q_,Q_,Q_,Q_,Q_,Q_,Q_,Q_,Q_,Q_,Q_,Q_,Q_,Q_,Q_,Q_,Q_,Q_,Q_,Q_,Q_,Q_,Q_,v53,v54,v55,Q_,Q_,Q_,Q_,Q_,Q_,Q_,Q_,Q_,Q_,Q_,Q_,Q_,Q_,Q_,Q_,Q_,Q_,Q_,Q_,Q_,Q_,Q_,Q_,Q_,Q_,Q_,Q_,Q_,Q_,Q_,Q_,Q_,Q_,Q_,Q_,Q_,Q_,Q_,Q_,Q_,Q_,Q_,Q_,Q_,Q_,Q_,Q_,Q_,Q_,Q_,Q_,Q_,Q_,Q_,Q_,Q_,Q_,Q_,Q_,Q_,Q_,Q_,Q_,Q_,Q_,Q_,Q_,Q_,Q_,Q_,Q_,Q_,Q_,Q_,Q_,Q_,Q_,Q_,Q_,Q_,Q_,Q_,Q_,Q_,Q_,Q_,Q_,Q_,Q_,Q_,Q_,Q_,Q_,Q_,Q_,Q_,Q_,Q_,Q_,Q_,Q_,Q_,Q_,Q_,Q_,Q_,Q_,Q_,Q_,Q_,Q_,Q_,Q_,Q_,Q_,Q_,Q_,Q_,Q_,Q_] H
def L115_1 (K:AV→Heap→Prop) (v0:AV) (v6:AV) (v7:AV) (v154:AV) (v155:AV) (v156:AV) (H:Heap):Prop:=LoopV (wpC Tryz.prog tab D115 (cAt [1,1,1,1,1,1,1,0,1,0,0] (bO_ Tryz.f115))) [0,6,7,154,155] (PostF.block 2 (PostF.thenA (wpC Tryz.prog tab D115 (cAt [1,1,1,1,1,1,1,1] (bO_ Tryz.f115))) (retF tab [] K))) [156] [v0,Q_,Q_,Q_,Q_,Q_,v6,v7,Q_,Q_,Q_,Q_,Q_,Q_,Q_,Q_,Q_,Q_,Q_,Q_,Q_,Q_,Q_,Q_,Q_,Q_,Q_,Q_,Q_,Q_,Q_,Q_,Q_,Q_,Q_,Q_,Q_,Q_,Q_,Q_,Q_,Q_,Q_,Q_,Q_,Q_,Q_,Q_,Q_,Q_,Q_,Q_,Q_,Q_,Q_,Q_,Q_,Q_,Q_,Q_,Q_,Q_,Q_,Q_,Q_,Q_,Q_,Q_,Q_,Q_,Q_,Q_,Q_,Q_,Q_,Q_,Q_,Q_,Q_,Q_,Q_,Q_,Q_,Q_,Q_,Q_,Q_,Q_,Q_,Q_,Q_,Q_,Q_,Q_,Q_,Q_,Q_,Q_,Q_,Q_,Q_,Q_,Q_,Q_,Q_,Q_,Q_,Q_,Q_,Q_,Q_,Q_,Q_,Q_,Q_,Q_,Q_,Q_,Q_,Q_,Q_,Q_,Q_,Q_,Q_,Q_,Q_,Q_,Q_,Q_,Q_,Q_,Q_,Q_,Q_,Q_,Q_,Q_,Q_,Q_,Q_,Q_,Q_,Q_,Q_,Q_,Q_,Q_,Q_,Q_,Q_,Q_,Q_,Q_,v154,v155,v156,Q_,Q_,Q_,Q_,Q_,Q_,Q_,Q_,Q_,Q_,Q_,Q_,Q_,Q_,Q_,Q_,Q_,Q_,Q_,Q_] H
def B115_1 (K:AV→Heap→Prop) (N1:AV→Heap→Prop) (v0:AV) (v6:AV) (v7:AV) (v154:AV) (v155:AV) (v156:AV) (H:Heap):Prop:=
 binV tab .lss 3 v156 v155 fun v157=>
 cV_ v157 (iA_ tab 24 v154 v156 fun v158=>
 lV_ tab 3 v158 H fun v159=>
 nC_ v0 fun v161=>
 fA_ tab 118 v161 3 fun v162=>
 lV_ tab 24 v162 H fun v163=>
 iA_ tab 24 v163 v159 fun v166=>
 sV_ tab 3 v166 v7 H fun H12=>
 binV tab .add 3 v156 (AV.p (.int .i64 1)) fun v167=>
 N1 v167 H12)
 (nC_ v0 fun v170=>
 fA_ tab 118 v170 4 fun v171=>
 lV_ tab 24 v171 H fun v172=>
 sliceV tab 24 v172 none (some v6) none fun v174=>
 nC_ v0 fun v175=>
 fA_ tab 118 v175 4 fun v176=>
 sV_ tab 24 v176 v174 H fun H13=>
 K (.tup []) H13)
def B115_0 (K:AV→Heap→Prop) (N1:AV→Heap→Prop) (v0:AV) (v1:AV) (v53:AV) (v54:AV) (v55:AV) (H:Heap):Prop:=
 binV tab .lss 3 v55 v54 fun v56=>
 cV_ v56 (iA_ tab 24 v53 v55 fun v57=>
 lV_ tab 3 v57 H fun v58=>
 nC_ v0 fun v60=>
 fA_ tab 118 v60 1 fun v61=>
 lV_ tab 24 v61 H fun v62=>
 iA_ tab 24 v62 v58 fun v64=>
 lV_ tab 3 v64 H fun v65=>
 binV tab .eql 3 v65 (AV.p (.int .i64 0)) fun v66=>
 cV_ v66 (CallT Tryz.prog 115 [v0,v58] H fun v69 H7=>
 nC_ v0 fun v71=>
 fA_ tab 118 v71 2 fun v72=>
 lV_ tab 24 v72 H7 fun v73=>
 nC_ v0 fun v76=>
 fA_ tab 118 v76 2 fun v77=>
 lV_ tab 24 v77 H7 fun v78=>
 iA_ tab 24 v78 v1 fun v80=>
 lV_ tab 3 v80 H7 fun v81=>
 nC_ v0 fun v83=>
 fA_ tab 118 v83 2 fun v84=>
 lV_ tab 24 v84 H7 fun v85=>
 iA_ tab 24 v85 v58 fun v87=>
 lV_ tab 3 v87 H7 fun v88=>
 mmV .min v81 v88 fun v89=>
 iA_ tab 24 v73 v1 fun v90=>
 sV_ tab 3 v90 v89 H7 fun H8=>
 binV tab .add 3 v55 (AV.p (.int .i64 1)) fun v120=>
 N1 v120 H8)
 (nC_ v0 fun v92=>
 fA_ tab 118 v92 3 fun v93=>
 lV_ tab 24 v93 H fun v94=>
 iA_ tab 24 v94 v58 fun v96=>
 lV_ tab 3 v96 H fun v97=>
 binV tab .lss 3 v97 (AV.p (.int .i64 0)) fun v98=>
 cV_ v98 (nC_ v0 fun v100=>
 fA_ tab 118 v100 2 fun v101=>
 lV_ tab 24 v101 H fun v102=>
 nC_ v0 fun v105=>
 fA_ tab 118 v105 2 fun v106=>
 lV_ tab 24 v106 H fun v107=>
 iA_ tab 24 v107 v1 fun v109=>
 lV_ tab 3 v109 H fun v110=>
 nC_ v0 fun v112=>
 fA_ tab 118 v112 1 fun v113=>
 lV_ tab 24 v113 H fun v114=>
 iA_ tab 24 v114 v58 fun v116=>
 lV_ tab 3 v116 H fun v117=>
 mmV .min v110 v117 fun v118=>
 iA_ tab 24 v102 v1 fun v119=>
 sV_ tab 3 v119 v118 H fun H9=>
 binV tab .add 3 v55 (AV.p (.int .i64 1)) fun v120=>
 N1 v120 H9)
 (binV tab .add 3 v55 (AV.p (.int .i64 1)) fun v120=>
 N1 v120 H)))
 (nC_ v0 fun v122=>
 fA_ tab 118 v122 2 fun v123=>
 lV_ tab 24 v123 H fun v124=>
 iA_ tab 24 v124 v1 fun v126=>
 lV_ tab 3 v126 H fun v127=>
 nC_ v0 fun v129=>
 fA_ tab 118 v129 1 fun v130=>
 lV_ tab 24 v130 H fun v131=>
 iA_ tab 24 v131 v1 fun v133=>
 lV_ tab 3 v133 H fun v134=>
 binV tab .lss 3 v127 v134 fun v135=>
 cV_ v135 (K (.tup []) H)
 (nC_ v0 fun v137=>
 fA_ tab 118 v137 4 fun v138=>
 lV_ tab 24 v138 H fun v139=>
 CallT Tryz.prog 102 [v139,v1] H fun v141 H10=>
 nC_ v0 fun v143=>
 fA_ tab 118 v143 4 fun v144=>
 lV_ tab 24 v144 H10 fun v145=>
 sliceV tab 24 v145 (some v141) none none fun v147=>
 CallT Tryz.prog 126 [v147] H10 fun v148 H11=>
 nC_ v0 fun v150=>
 fA_ tab 118 v150 4 fun v151=>
 lV_ tab 24 v151 H11 fun v152=>
 sliceV tab 24 v152 (some v141) none none fun v154=>
 lenV tab 24 v154 fun v155=>
 L115_1 K v0 v141 v148 v154 v155 (AV.p (.int .i64 0)) H11))
def W115 (v0:AV) (v1:AV) (H:Heap) (K:AV→Heap→Prop):Prop:=
 nC_ v0 fun v11=>
 fA_ tab 118 v11 5 fun v12=>
 lV_ tab 3 v12 H fun v13=>
 binV tab .add 3 v13 (AV.p (.int .i64 1)) fun v14=>
 nC_ v0 fun v15=>
 fA_ tab 118 v15 5 fun v16=>
 sV_ tab 3 v16 v14 H fun H1=>
 nC_ v0 fun v18=>
 fA_ tab 118 v18 1 fun v19=>
 lV_ tab 24 v19 H1 fun v20=>
 nC_ v0 fun v23=>
 fA_ tab 118 v23 2 fun v24=>
 lV_ tab 24 v24 H1 fun v25=>
 nC_ v0 fun v28=>
 fA_ tab 118 v28 5 fun v29=>
 lV_ tab 3 v29 H1 fun v30=>
 nC_ v0 fun v32=>
 fA_ tab 118 v32 5 fun v33=>
 lV_ tab 3 v33 H1 fun v34=>
 iA_ tab 24 v20 v1 fun v35=>
 sV_ tab 3 v35 v30 H1 fun H2=>
 iA_ tab 24 v25 v1 fun v36=>
 sV_ tab 3 v36 v34 H2 fun H3=>
 nC_ v0 fun v39=>
 fA_ tab 118 v39 4 fun v40=>
 lV_ tab 24 v40 H3 fun v41=>
 bS_ tab 24 1 [(0,v1)] H3 (wkK fun v43 H4=>
 aP_ tab 24 24 v41 v43 H4 (wkK fun v44 H5=>
 nC_ v0 fun v45=>
 fA_ tab 118 v45 4 fun v46=>
 sV_ tab 24 v46 v44 H5 fun H6=>
 nC_ v0 fun v48=>
 fA_ tab 118 v48 0 fun v49=>
 lV_ tab 26 v49 H6 fun v50=>
 iA_ tab 26 v50 v1 fun v52=>
 lV_ tab 24 v52 H6 fun v53=>
 lenV tab 24 v53 fun v54=>
 L115_0 K v0 v1 v53 v54 (AV.p (.int .i64 0)) H6))
theorem W115_wp (v0:AV) (v1:AV) (H:Heap) (K:AV→Heap→Prop):wpC Tryz.prog tab D115 (bO_ Tryz.f115) (retF tab [] K) (nthA [v0,v1]) H=W115 v0 v1 H K:=by kernel_rfl
theorem W115_ok {v0 v1:AV} {H:Heap} {K:AV→Heap→Prop} (h:W115 v0 v1 H K):CallT Tryz.prog 115 [v0,v1] H K:=
 CallT.of_wp (D:=D115) tO_ mixed Tryz.func115 (c:=bO_ Tryz.f115) (by kernel_rfl) rfl (by kernel_rfl) (rs:=#[]) rfl (by decide +kernel) (by kernel_rfl) (W115_wp v0 v1 H K) h
theorem L115_1_rule {K:AV→Heap→Prop} {v0 v6 v7 v154 v155 v156:AV} {H:Heap} {σ:Type} (s0:σ) (f156:σ→AV) (TH:σ→Heap) (pre:σ→Prop) (μ:σ→Nat)
  (h0:pre s0∧AV.wk v156 (f156 s0)∧Heap.le (TH s0) H)
  (round:∀s,pre s→B115_1 K (fun w156 H'=>∃s',pre s'∧μ s' < μ s∧AV.wk w156 (f156 s')∧Heap.le (TH s') H') v0 v6 v7 v154 v155 (f156 s) (TH s)) :
  L115_1 K v0 v6 v7 v154 v155 v156 H:=by
 unfold L115_1
 exact LoopV.mk s0 (fun s=>[f156 s]) TH pre μ (fun _=>rfl) (Eq.mp (by kernel_rfl) h0) (fun s hs=>Eq.mp (by kernel_rfl) (round s hs))
theorem L115_0_rule {K:AV→Heap→Prop} {v0 v1 v53 v54 v55:AV} {H:Heap} {σ:Type} (s0:σ) (f55:σ→AV) (TH:σ→Heap) (pre:σ→Prop) (μ:σ→Nat)
  (h0:pre s0∧AV.wk v55 (f55 s0)∧Heap.le (TH s0) H)
  (round:∀s,pre s→B115_0 K (fun w55 H'=>∃s',pre s'∧μ s' < μ s∧AV.wk w55 (f55 s')∧Heap.le (TH s') H') v0 v1 v53 v54 (f55 s) (TH s)) :
  L115_0 K v0 v1 v53 v54 v55 H:=by
 unfold L115_0
 exact LoopV.mk s0 (fun s=>[f55 s]) TH pre μ (fun _=>rfl) (Eq.mp (by kernel_rfl) h0) (fun s hs=>Eq.mp (by kernel_rfl) (round s hs))
def D118:Info:=⟨45,fun i=>([],[]),fun i=>if i=3 then ([0,1,25,26],[27]) else ([],[])⟩
def L118_0 (K:AV→Heap→Prop) (v0:AV) (v1:AV) (v25:AV) (v26:AV) (v27:AV) (H:Heap):Prop:=LoopV (wpC Tryz.prog tab D118 (cAt [1,1,0,1,0,0] (bO_ Tryz.f118))) [0,1,25,26] (PostF.block 0 (PostF.thenA (wpC Tryz.prog tab D118 (cAt [1,1,1] (bO_ Tryz.f118))) (retF tab [] K))) [27] [v0,v1,Q_,Q_,Q_,Q_,Q_,Q_,Q_,Q_,Q_,Q_,Q_,Q_,Q_,Q_,Q_,Q_,Q_,Q_,Q_,Q_,Q_,Q_,Q_,v25,v26,v27,Q_,Q_,Q_,Q_,Q_,Q_,Q_,Q_,Q_,Q_,Q_,Q_,Q_,Q_,Q_,Q_,Q_] H
def B118_0 (K:AV→Heap→Prop) (N1:AV→Heap→Prop) (v0:AV) (v1:AV) (v25:AV) (v26:AV) (v27:AV) (H:Heap):Prop:=
 binV tab .lss 3 v27 v26 fun v28=>
 cV_ v28 (iA_ tab 24 v25 v27 fun v29=>
 lV_ tab 3 v29 H fun v30=>
 CallT Tryz.prog 118 [v0,v30] H fun v33 H2=>
 binV tab .add 3 v27 (AV.p (.int .i64 1)) fun v34=>
 N1 v34 H2)
 (nC_ v0 fun v37=>
 fA_ tab 124 v37 2 fun v38=>
 lV_ tab 24 v38 H fun v39=>
 bS_ tab 24 1 [(0,v1)] H (wkK fun v41 H3=>
 aP_ tab 24 24 v39 v41 H3 (wkK fun v42 H4=>
 nC_ v0 fun v43=>
 fA_ tab 124 v43 2 fun v44=>
 sV_ tab 24 v44 v42 H4 fun H5=>
 K (.tup []) H5)))
def W118 (v0:AV) (v1:AV) (H:Heap) (K:AV→Heap→Prop):Prop:=
 nC_ v0 fun v7=>
 fA_ tab 124 v7 1 fun v8=>
 lV_ tab 87 v8 H fun v9=>
 iA_ tab 87 v9 v1 fun v11=>
 lV_ tab 4 v11 H fun v12=>
 cV_ v12 (K (.tup []) H)
 (nC_ v0 fun v14=>
 fA_ tab 124 v14 1 fun v15=>
 lV_ tab 87 v15 H fun v16=>
 iA_ tab 87 v16 v1 fun v18=>
 sV_ tab 4 v18 (AV.p (.bool true)) H fun H1=>
 nC_ v0 fun v20=>
 fA_ tab 124 v20 0 fun v21=>
 lV_ tab 26 v21 H1 fun v22=>
 iA_ tab 26 v22 v1 fun v24=>
 lV_ tab 24 v24 H1 fun v25=>
 lenV tab 24 v25 fun v26=>
 L118_0 K v0 v1 v25 v26 (AV.p (.int .i64 0)) H1)
theorem W118_wp (v0:AV) (v1:AV) (H:Heap) (K:AV→Heap→Prop):wpC Tryz.prog tab D118 (bO_ Tryz.f118) (retF tab [] K) (nthA [v0,v1]) H=W118 v0 v1 H K:=by kernel_rfl
theorem W118_ok {v0 v1:AV} {H:Heap} {K:AV→Heap→Prop} (h:W118 v0 v1 H K):CallT Tryz.prog 118 [v0,v1] H K:=
 CallT.of_wp (D:=D118) tO_ mixed Tryz.func118 (c:=bO_ Tryz.f118) (by kernel_rfl) rfl (by kernel_rfl) (rs:=#[]) rfl (by decide +kernel) (by kernel_rfl) (W118_wp v0 v1 H K) h
theorem L118_0_rule {K:AV→Heap→Prop} {v0 v1 v25 v26 v27:AV} {H:Heap} {σ:Type} (s0:σ) (f27:σ→AV) (TH:σ→Heap) (pre:σ→Prop) (μ:σ→Nat)
  (h0:pre s0∧AV.wk v27 (f27 s0)∧Heap.le (TH s0) H)
  (round:∀s,pre s→B118_0 K (fun w27 H'=>∃s',pre s'∧μ s' < μ s∧AV.wk w27 (f27 s')∧Heap.le (TH s') H') v0 v1 v25 v26 (f27 s) (TH s)) :
  L118_0 K v0 v1 v25 v26 v27 H:=by
 unfold L118_0
 exact LoopV.mk s0 (fun s=>[f27 s]) TH pre μ (fun _=>rfl) (Eq.mp (by kernel_rfl) h0) (fun s hs=>Eq.mp (by kernel_rfl) (round s hs))
def D119:Info:=⟨9,fun i=>([],[]),fun i=>([],[])⟩
def W119 (v0:AV) (v1:AV) (H:Heap) (K:AV→Heap→Prop):Prop:=
 CallT Tryz.prog 113 [v0,v1] H fun v7 H1=>
 binV tab .geq 3 v7 (AV.p (.int .i64 0)) fun v8=>
 K v8 H1
theorem W119_wp (v0:AV) (v1:AV) (H:Heap) (K:AV→Heap→Prop):wpC Tryz.prog tab D119 (bO_ Tryz.f119) (retF tab [.tmp 4] K) (nthA [v0,v1]) H=W119 v0 v1 H K:=by kernel_rfl
theorem W119_ok {v0 v1:AV} {H:Heap} {K:AV→Heap→Prop} (h:W119 v0 v1 H K):CallT Tryz.prog 119 [v0,v1] H K:=
 CallT.of_wp (D:=D119) tO_ mixed Tryz.func119 (c:=bO_ Tryz.f119) (by kernel_rfl) rfl (by kernel_rfl) (rs:=#[.tmp 4]) rfl (by decide +kernel) (by kernel_rfl) (W119_wp v0 v1 H K) h
def D120:Info:=⟨9,fun i=>([],[]),fun i=>([],[])⟩
def W120 (v0:AV) (H:Heap) (K:AV→Heap→Prop):Prop:=
 binV tab .lss 3 v0 (AV.p (.int .i64 0)) fun v4=>
 grdV v4 false (binV tab .geq 3 v0 (AV.p (.int .i64 8)) fun v7=>
 K v7 H)
 (K (AV.p (.bool true)) H)
theorem W120_wp (v0:AV) (H:Heap) (K:AV→Heap→Prop):wpC Tryz.prog tab D120 (bO_ Tryz.f120) (retF tab [.tmp 2] K) (nthA [v0]) H=W120 v0 H K:=by kernel_rfl
theorem W120_ok {v0:AV} {H:Heap} {K:AV→Heap→Prop} (h:W120 v0 H K):CallT Tryz.prog 120 [v0] H K:=
 CallT.of_wp (D:=D120) tO_ mixed Tryz.func120 (c:=bO_ Tryz.f120) (by kernel_rfl) rfl (by kernel_rfl) (rs:=#[.tmp 2]) rfl (by decide +kernel) (by kernel_rfl) (W120_wp v0 H K) h
def D123:Info:=⟨51,fun i=>([],[]),fun i=>([],[])⟩
def W123 (v0:AV) (v1:AV) (H:Heap) (K:AV→Heap→Prop):Prop:=
 binV tab .and 69 v0 (AV.p (.int .u64 4294967295)) fun v15=>
 binV tab .shr 69 v0 (AV.p (.int .u64 32)) fun v17=>
 binV tab .and 69 v1 (AV.p (.int .u64 4294967295)) fun v19=>
 binV tab .shr 69 v1 (AV.p (.int .u64 32)) fun v21=>
 binV tab .mul 69 v15 v19 fun v24=>
 binV tab .mul 69 v17 v19 fun v27=>
 binV tab .shr 69 v24 (AV.p (.int .u64 32)) fun v29=>
 binV tab .add 69 v27 v29 fun v30=>
 binV tab .and 69 v30 (AV.p (.int .u64 4294967295)) fun v32=>
 binV tab .shr 69 v30 (AV.p (.int .u64 32)) fun v34=>
 binV tab .mul 69 v15 v21 fun v38=>
 binV tab .add 69 v32 v38 fun v39=>
 binV tab .mul 69 v17 v21 fun v42=>
 binV tab .add 69 v42 v34 fun v44=>
 binV tab .shr 69 v39 (AV.p (.int .u64 32)) fun v46=>
 binV tab .add 69 v44 v46 fun v47=>
 binV tab .mul 69 v0 v1 fun v50=>
 K (.tup [v47,v50]) H
theorem W123_wp (v0:AV) (v1:AV) (H:Heap) (K:AV→Heap→Prop):wpC Tryz.prog tab D123 (bO_ Tryz.f123) (retF tab [.tmp 4,.tmp 5] K) (nthA [v0,v1]) H=W123 v0 v1 H K:=by kernel_rfl
theorem W123_ok {v0 v1:AV} {H:Heap} {K:AV→Heap→Prop} (h:W123 v0 v1 H K):CallT Tryz.prog 123 [v0,v1] H K:=
 CallT.of_wp (D:=D123) tO_ mixed Tryz.func123 (c:=bO_ Tryz.f123) (by kernel_rfl) rfl (by kernel_rfl) (rs:=#[.tmp 4,.tmp 5]) rfl (by decide +kernel) (by kernel_rfl) (W123_wp v0 v1 H K) h
def D124:Info:=⟨19,fun i=>([],[]),fun i=>if i=2 then ([0,1,7],[8]) else ([],[])⟩
def L124_0 (K:AV→Heap→Prop) (v0:AV) (v1:AV) (v7:AV) (v8:AV) (H:Heap):Prop:=LoopV (wpC Tryz.prog tab D124 (cAt [1,0,1,0,0] (bO_ Tryz.f124))) [0,1,7] (PostF.block 0 (PostF.thenA (wpC Tryz.prog tab D124 (cAt [1,1] (bO_ Tryz.f124))) (retF tab [.tmp 4] K))) [8] [v0,v1,Q_,Q_,Q_,Q_,Q_,v7,v8,Q_,Q_,Q_,Q_,Q_,Q_,Q_,Q_,Q_,Q_] H
def B124_0 (K:AV→Heap→Prop) (N1:AV→Heap→Prop) (v0:AV) (v1:AV) (v7:AV) (v8:AV) (H:Heap):Prop:=
 binV tab .lss 3 v8 v7 fun v9=>
 cV_ v9 (iA_ tab 26 v0 v8 fun v14=>
 lV_ tab 24 v14 H fun v15=>
 callF Tryz.prog v1 [v15] H fun v16 H1=>
 cV_ v16 (K v8 H1)
 (binV tab .add 3 v8 (AV.p (.int .i64 1)) fun v18=>
 N1 v18 H1))
 (K (AV.p (.int .i64 (-1))) H)
def W124 (v0:AV) (v1:AV) (H:Heap) (K:AV→Heap→Prop):Prop:=
 lenV tab 26 v0 fun v7=>
 L124_0 K v0 v1 v7 (AV.p (.int .i64 0)) H
theorem W124_wp (v0:AV) (v1:AV) (H:Heap) (K:AV→Heap→Prop):wpC Tryz.prog tab D124 (bO_ Tryz.f124) (retF tab [.tmp 4] K) (nthA [v0,v1]) H=W124 v0 v1 H K:=by kernel_rfl
theorem W124_ok {v0 v1:AV} {H:Heap} {K:AV→Heap→Prop} (h:W124 v0 v1 H K):CallT Tryz.prog 124 [v0,v1] H K:=
 CallT.of_wp (D:=D124) tO_ mixed Tryz.func124 (c:=bO_ Tryz.f124) (by kernel_rfl) rfl (by kernel_rfl) (rs:=#[.tmp 4]) rfl (by decide +kernel) (by kernel_rfl) (W124_wp v0 v1 H K) h
theorem L124_0_rule {K:AV→Heap→Prop} {v0 v1 v7 v8:AV} {H:Heap} {σ:Type} (s0:σ) (f8:σ→AV) (TH:σ→Heap) (pre:σ→Prop) (μ:σ→Nat)
  (h0:pre s0∧AV.wk v8 (f8 s0)∧Heap.le (TH s0) H)
  (round:∀s,pre s→B124_0 K (fun w8 H'=>∃s',pre s'∧μ s' < μ s∧AV.wk w8 (f8 s')∧Heap.le (TH s') H') v0 v1 v7 (f8 s) (TH s)) :
  L124_0 K v0 v1 v7 v8 H:=by
 unfold L124_0
 exact LoopV.mk s0 (fun s=>[f8 s]) TH pre μ (fun _=>rfl) (Eq.mp (by kernel_rfl) h0) (fun s hs=>Eq.mp (by kernel_rfl) (round s hs))
def D125:Info:=⟨6,fun i=>([],[]),fun i=>([],[])⟩
def W125 (v0:AV) (H:Heap) (K:AV→Heap→Prop):Prop:=
 binV tab .neq 3 v0 v0 fun v5=>
 K v5 H
theorem W125_wp (v0:AV) (H:Heap) (K:AV→Heap→Prop):wpC Tryz.prog tab D125 (bO_ Tryz.f125) (retF tab [.tmp 2] K) (nthA [v0]) H=W125 v0 H K:=by kernel_rfl
theorem W125_ok {v0:AV} {H:Heap} {K:AV→Heap→Prop} (h:W125 v0 H K):CallT Tryz.prog 125 [v0] H K:=
 CallT.of_wp (D:=D125) tO_ mixed Tryz.func125 (c:=bO_ Tryz.f125) (by kernel_rfl) rfl (by kernel_rfl) (rs:=#[.tmp 2]) rfl (by decide +kernel) (by kernel_rfl) (W125_wp v0 H K) h
def D126:Info:=⟨25,fun i=>([],[]),fun i=>if i=5 then ([0],[3,4]) else ([],[])⟩
def L126_0 (K:AV→Heap→Prop) (v0:AV) (v3:AV) (v4:AV) (H:Heap):Prop:=LoopV (wpC Tryz.prog tab D126 (cAt [1,1,1,0,1,0,0] (bO_ Tryz.f126))) [0] (PostF.block 0 (PostF.thenA (wpC Tryz.prog tab D126 (cAt [1,1,1,1] (bO_ Tryz.f126))) (retF tab [.tmp 2] K))) [3,4] [v0,Q_,Q_,v3,v4,Q_,Q_,Q_,Q_,Q_,Q_,Q_,Q_,Q_,Q_,Q_,Q_,Q_,Q_,Q_,Q_,Q_,Q_,Q_,Q_] H
def B126_0 (K:AV→Heap→Prop) (N1:AV→AV→Heap→Prop) (v0:AV) (v3:AV) (v4:AV) (H:Heap):Prop:=
 lenV tab 24 v0 fun v14=>
 binV tab .lss 3 v4 v14 fun v15=>
 cV_ v15 (iA_ tab 24 v0 v4 fun v21=>
 lV_ tab 3 v21 H fun v22=>
 mmV .min v3 v22 fun v23=>
 binV tab .add 3 v4 (AV.p (.int .i64 1)) fun v17=>
 N1 v23 v17 H)
 (K v3 H)
def W126 (v0:AV) (H:Heap) (K:AV→Heap→Prop):Prop:=
 lenV tab 24 v0 fun v6=>
 binV tab .lss 3 v6 (AV.p (.int .i64 1)) fun v7=>
 cV_ v7 (False)
 (iA_ tab 24 v0 (AV.p (.int .i64 0)) fun v10=>
 lV_ tab 3 v10 H fun v11=>
 L126_0 K v0 v11 (AV.p (.int .i64 1)) H)
theorem W126_wp (v0:AV) (H:Heap) (K:AV→Heap→Prop):wpC Tryz.prog tab D126 (bO_ Tryz.f126) (retF tab [.tmp 2] K) (nthA [v0]) H=W126 v0 H K:=by kernel_rfl
theorem W126_ok {v0:AV} {H:Heap} {K:AV→Heap→Prop} (h:W126 v0 H K):CallT Tryz.prog 126 [v0] H K:=
 CallT.of_wp (D:=D126) tO_ mixed Tryz.func126 (c:=bO_ Tryz.f126) (by kernel_rfl) rfl (by kernel_rfl) (rs:=#[.tmp 2]) rfl (by decide +kernel) (by kernel_rfl) (W126_wp v0 H K) h
theorem L126_0_rule {K:AV→Heap→Prop} {v0 v3 v4:AV} {H:Heap} {σ:Type} (s0:σ) (f3:σ→AV) (f4:σ→AV) (TH:σ→Heap) (pre:σ→Prop) (μ:σ→Nat)
  (h0:pre s0∧AV.wk v3 (f3 s0)∧AV.wk v4 (f4 s0)∧Heap.le (TH s0) H)
  (round:∀s,pre s→B126_0 K (fun w3 w4 H'=>∃s',pre s'∧μ s' < μ s∧AV.wk w3 (f3 s')∧AV.wk w4 (f4 s')∧Heap.le (TH s') H') v0 (f3 s) (f4 s) (TH s)) :
  L126_0 K v0 v3 v4 H:=by
 unfold L126_0
 exact LoopV.mk s0 (fun s=>[f3 s,f4 s]) TH pre μ (fun _=>rfl) (Eq.mp (by kernel_rfl) h0) (fun s hs=>Eq.mp (by kernel_rfl) (round s hs))
end Go.Proofs.YtohkciilfkhomaaGreat
namespace Go.Proofs.YtohkciilfkhomaaGreat
open Go Go.Sep
attribute [local irreducible] CallT
theorem i6_ {n:Int} (h0:-9223372036854775808≤n) (h1:n≤9223372036854775807):IntKind.i64.wrap n=n:=wrap64_id h0 h1
theorem wk_int {k:IntKind} {a b:Int}:AV.wk (.p (.int k a)) (.p (.int k b))=(a=b):=by
 apply propext;constructor
 ·intro h;cases h;rfl
 ·rintro rfl;exact .refl _
theorem take_all_succ {α:Type} {p:α→Bool} {xs:List α} {i:Nat} (h:i < xs.length):(xs.take (i+1)).all p=((xs.take i).all p && p xs[i]):=by
 rw [List.take_succ_eq_append_getElem h,List.all_append];simp
theorem getD_lt {α:Type} {xs:List α} {i:Nat} {d:α} (h:i < xs.length):xs.getD i d=xs[i]:=by simp [List.getD,h]
theorem getD_all {α:Type} {p:α→Prop} {l:List α} {d:α} (h:∀b∈l,p b) {i:Nat} (hi:i < l.length):p (l.getD i d):=by
 simp only [List.getD,List.getElem?_eq_getElem hi,Option.getD_some];exact h _ (List.getElem_mem hi)
theorem range_all_succ {p:Nat→Bool} {n:Nat}:(List.range (n+1)).all p=((List.range n).all p && p n):=by
 rw [List.range_succ,List.all_append];simp
theorem range_all_false {p:Nat→Bool} {n i:Nat} (hi:i < n) (h:p i=false):(List.range n).all p=false:=by
 rw [List.all_eq_false];exact ⟨i,List.mem_range.2 hi,by simp [h]⟩
theorem Wk.own_le {q sz:Nat} {es:List (List PV)} {H H':Heap} (hpos:0 < sz) (hs:Sized sz es) (hq:H q=none) (hle:Heap.le (H.set q (cells es)) H'):Wk (own q sz es) H' (.p (.sl es)) H:=by
 have h1:H' q=some (cells es):=hle q _ (Heap.set_same _ _ _)
 refine .trans (.own hpos hs h1) (.forget (Heap.le_del (fun x b hx=>hle x b ?_) hq))
 rw [Heap.set_other (fun e=>by rw [e,hq] at hx;cases hx)];exact hx
theorem CallT.fin {P:Program} {f:Nat} {args:List AV} {H:Heap} {K:AV→Heap→Prop} (h:CallT P f args H (wkK K)):CallT P f args H K:=
 h.wk fun v H1 ⟨v',H2,hw,hk⟩=>⟨v',H2,hw,hk⟩
theorem szI (xs:List Int):Sized 1 (xs.map eI):=sized_map (f:=eI) (fun _=>rfl) xs
theorem cells_I (xs:List Int):cells (xs.map eI)=xs.map fun n=>I n:=by
 induction xs with
 | nil=>rfl
 | cons x xs ih=>simp only [cells,List.map_cons,List.flatten_cons,List.map_append] at ih ⊢;rw [ih];rfl
abbrev eL (l:List Int):List PV:=[.sl (l.map eI)]
abbrev Ls (cs:List (List Int)):AV:=.p (.sl (cs.map eL))
theorem fin_own {q sz:Nat} {es:List (List PV)} {H H':Heap} {K:AV→Heap→Prop} (hpos:0 < sz) (hs:Sized sz es) (hq:H q=none) (hle:Heap.le (H.set q (cells es)) H') (h:K (.p (.sl es)) H):wkK K (own q sz es) H':=
 ⟨_,_,Wk.own_le hpos hs hq hle,h⟩
theorem fin_le {v:AV} {H H':Heap} {K:AV→Heap→Prop} (hle:Heap.le H H') (h:K v H):wkK K v H':=⟨_,_,.forget hle,h⟩
def PuAt (P:Program) (f:Nat) (args:List AV) (H:Heap) (v:AV):Prop:=∀K:AV→Heap→Prop,K v H→CallT P f args H K
theorem Pu.at {P:Program} {f:Nat} {args:List AV} {v:AV} (h:Pu P f args v) (H:Heap):PuAt P f args H v:=fun K hk=>h.use hk
theorem PuAt.use {P:Program} {f:Nat} {args:List AV} {v:AV} {H:Heap} (h:PuAt P f args H v) {K:AV→Heap→Prop} (k:K v H):CallT P f args H K:=h K k
def enumP:Nat→List PV→List (Nat×AV)
 | _,[]=>[]
 | k,v::vs=>(k,.p v)::enumP (k+1) vs
theorem fill_enum:∀(vs:List PV) (k:Nat) (a:List AV) (b:List AV),a.length=k→vs.length≤b.length→
  fillV (fun i=>some (i*1,1)) (a++b) (enumP k vs)=some (a++vs.map .p++b.drop vs.length)
 | [],k,a,b,h1,h2=>by simp [enumP,fillV]
 | v::vs,k,a,b,h1,h2=>by
  match b,h2 with
  | x::b,h2=>
   have hb:vs.length≤b.length:=by simpa using h2
   have ih:=fill_enum vs (k+1) (a++[.p v]) b (by simp [h1]) hb
   simp only [enumP,fillV,AV.cells,List.length_cons,List.length_nil,Nat.zero_add,Nat.mul_one]
   rw [if_pos ⟨trivial,by simp [h1]⟩]
   have hs:splice (a++x::b) k [AV.p v]=(a++[AV.p v])++b:=by
    subst h1
    simp [splice,List.append_assoc,List.drop_append]
   rw [hs]
   simp only [Nat.mul_one] at ih
   rw [ih]
   simp
theorem lit_gen {tab:Tab} {t e:Nat} {d ed:TD} {H:Heap} {K:AV→Heap→Prop} (h1:tab t=some d) (h2:d.k=.slice e) (h3:tab e=some ed) (h4:ed.size=1∧ed.zero.length=1) (vs:List PV)
  (hsm:vs.length≤1000)
  (h:K (.p (.sl (vs.map fun v=>[v]))) H):bS_ tab t vs.length (enumP 0 vs) H (wkK K):=by
 obtain ⟨z,hz⟩:∃z,ed.zero=[z]:=by
  match ed.zero,h4.2 with
  | [z],_=>exact ⟨z,rfl⟩
 simp only [bS_,h1,h2,h3,h4.1]
 refine ⟨by omega,?_⟩
 have hzl:(zA_ vs.length ed.zero).length=vs.length:=by rw [zerosA_len,hz];simp
 have:=fill_enum vs 0 [] (zA_ vs.length ed.zero) rfl (by omega)
 rw [List.nil_append,List.nil_append,List.drop_of_length_le (by omega),List.append_nil] at this
 rw [this]
 intro r hr
 have hf:∀vs:List PV,(vs.map fun v=>[v]).flatten=vs:=by
  intro vs
  induction vs with
  | nil=>rfl
  | cons v vs ih=>simp only [List.map_cons,List.flatten_cons,ih,List.singleton_append]
 refine ⟨_,_,Wk.trans (Wk.frz (r:=r) (sz:=1) (es:=vs.map fun v=>[v]) (v:=.sl r 1 0 vs.length) (v':=.p (.sl (vs.map fun v=>[v]))) (by omega) ?_ ?_ ?_) (.forget ?_),h⟩
 ·rw [Heap.set_same,hf vs]
 ·intro e he;obtain ⟨v,_,rfl⟩:=List.mem_map.1 he;rfl
 ·have:FrzR r 1 (vs.map fun v=>[v]) (.sl r 1 0 (vs.map fun v=>[v]).length) (.p (.sl (vs.map fun v=>[v]))):=.here
  rwa [List.length_map] at this
 ·rw [Heap.del_set hr];exact Heap.le_refl _
theorem lit3 {tab:Tab} {t e:Nat} {d ed:TD} {a b c:PV} {H:Heap} {K:AV→Heap→Prop} (h1:tab t=some d) (h2:d.k=.slice e) (h3:tab e=some ed) (h4:ed.size=1∧ed.zero.length=1)
  (h:K (.p (.sl [[a],[b],[c]])) H):bS_ tab t 3 [(0,.p a),(1,.p b),(2,.p c)] H (wkK K):=lit_gen h1 h2 h3 h4 [a,b,c] (by simp) h
end Go.Proofs.YtohkciilfkhomaaGreat
namespace Go.Proofs.YtohkciilfkhomaaGreat
open Go Go.Sep
theorem typed_byte {x:List PV} (h:Typed Tryz.prog 5 x):∃n:Int,(0≤n∧n < 256)∧x=e8 n:=by
 have hu:Tryz.prog.underlying 5=some (.int .u8):=by kernel_rfl
 cases h with
 | bool h=>rw [hu] at h;cases h
 | int h hw=>
  rw [hu] at h;cases h
  rename_i n
  refine ⟨n,?_,rfl⟩
  simp only [Lit.wf,Bool.and_eq_true,decide_eq_true_eq] at hw
  have e1:IntKind.u8.min=0:=by decide
  have e2:IntKind.u8.max=255:=by decide
  rw [e1,e2] at hw
  omega
 | str h _=>rw [hu] at h;cases h
 | sl h _ _=>rw [hu] at h;cases h
 | struct h _=>rw [hu] at h;cases h
theorem typed_rows:∀(es:List (List PV)),(∀x∈es,Typed Tryz.prog 5 x)→∃ns:List Int,(∀b∈ns,0≤b∧b < 256)∧es=ns.map e8
 | [],_=>⟨[],fun b hb=>by simp at hb,rfl⟩
 | x::es,h=>by
  obtain ⟨n,hn,rfl⟩:=typed_byte (h x (by simp))
  obtain ⟨ns,hns,rfl⟩:=typed_rows es fun y hy=>h y (by simp [hy])
  refine ⟨n::ns,?_,rfl⟩
  intro b hb
  rcases List.mem_cons.1 hb with rfl | hb
  ·exact hn
  ·exact hns b hb
theorem arg_bytes {v:AV} (h:ArgT Tryz.prog 22 v):∃ns:List Int,(∀b∈ns,0≤b∧b < 256)∧v=.p (.sl (ns.map e8)):=by
 have hu:Tryz.prog.underlying 22=some (.slice 5):=by kernel_rfl
 cases h with
 | cell hs h=>
  cases h with
  | bool h=>rw [hu] at h;cases h
  | int h hw=>rw [hu] at h;cases h
  | str h _=>rw [hu] at h;cases h
  | sl h hl he=>
   rw [hu] at h;cases h
   obtain ⟨ns,hns,rfl⟩:=typed_rows _ he
   exact ⟨ns,hns,rfl⟩
  | struct h _=>rw [hu] at h;cases h
 | agg h _=>rw [hu] at h;cases h
end Go.Proofs.YtohkciilfkhomaaGreat
namespace Go.Proofs.YtohkciilfkhomaaGreat
open Go Go.Sep
attribute [local irreducible] CallT
theorem l1In_spec (a lo hi:Int):Pu Tryz.prog 48 [I a,I lo,I hi] (B (decide (lo≤a) && decide (a≤hi))):=by
 refine Pu.of fun H=>?_
 refine W48_ok ?_;simp (maxSteps:=1000000) (disch:=first | assumption | (apply ν6;assumption)) only [W48,vz,vu,vv,eqS,eF_,↓c1_,↓c2_,tabs,reduceCtorEq,ι5,↓reduceIte,ν1,ν2,ν3,ν4,ν5,ι1,ι2,ι3,ι4]
 exact ⟨fun h=>by simp [h],fun h=>by simp [h]⟩
end Go.Proofs.YtohkciilfkhomaaGreat
namespace Go.Proofs.YtohkciilfkhomaaGreat
open Go Go.Sep
theorem zerosA_succ (n:Nat) (z:List AV):zA_ (n+1) z=z++zA_ n z:=by simp [zA_,List.replicate_succ]
end Go.Proofs.YtohkciilfkhomaaGreat
namespace Go.Pt
structure Nd where
 op:Int
 n:Int
deriving Inhabited,DecidableEq
structure Ch where
 var:Int
 by_:List Nd
deriving Inhabited,DecidableEq
structure Cm where
 when_:List Nd
 chs:List Ch
deriving Inhabited,DecidableEq
structure Pg where
 wide:Int
 vars:Int
 start:List Nd
 cmds:List Cm
deriving Inhabited,DecidableEq
def inB (n lo hi:Int):Bool:=decide (lo≤n) && decide (n≤hi)
theorem inB_iff {n lo hi:Int}:inB n lo hi=true↔lo≤n∧n≤hi:=by simp [inB]
def own (op:Int):Int:=
 if op=1∨op=2∨op=13∨(3≤op∧op≤12) then 1
 else if op=20∨op=19∨(14≤op∧op≤16)∨op=17∨op=18 then 2 else 0
def many (op:Int):Nat:=
 if op=13∨op=19 then 1 else if (3≤op∧op≤12)∨(14≤op∧op≤16)∨op=17∨op=18 then 2 else 0
def part (op:Int):Int:=
 if op=13∨(3≤op∧op≤12)∨(14≤op∧op≤16) then 1 else 2
def leafOk (wide vars:Int) (x:Nd):Bool:=
 if x.op=1 then inB wide 1 64 && decide (x.n < 2^wide.toNat)
 else if x.op=2 then decide (x.n < vars)
 else if x.op=20 then decide (x.n≤1)
 else decide (x.n=0)
def step (w v:Int) (p:List Int) (x:Nd):Option (List Int):=
 if own x.op=0∨leafOk w v x=false∨p.length < many x.op then none
 else if (p.drop (p.length - many x.op)).any (fun k=>decide (k≠part x.op)) then none
 else some (p.take (p.length - many x.op)++[own x.op])
def run (w v:Int):List Int→List Nd→Option (List Int)
 | p,[]=>some p
 | p,x::xs=>(step w v p x).bind fun p'=>run w v p' xs
def frame (w v:Int) (t:List Nd):Bool:=inB w 1 64 && inB v 1 4 && (decide (1≤t.length) && decide (t.length≤48))
def kind (w v:Int) (t:List Nd):Int:=
 if frame w v t then (match run w v [] t with
  | some [k]=>k
  | _=>0) else 0
theorem tS_ {α:Type} [Inhabited α] {xs:List α} {i:Nat} (h:i < xs.length):xs.take (i+1)=xs.take i++[xs.getD i default]:=by
 rw [List.take_succ_eq_append_getElem h];simp [List.getD,h]
end Go.Pt
namespace Go.Proofs.YtohkciilfkhomaaGreat
open Go Go.Sep Go.Pt
attribute [local irreducible] CallT
abbrev eN (x:Nd):List PV:=[.int .i64 x.op,.int .u64 x.n]
abbrev Ns (xs:List Nd):AV:=.p (.sl (xs.map eN))
abbrev eCh (c:Ch):List PV:=[.int .i64 c.var,.sl (c.by_.map eN)]
abbrev eCm (c:Cm):List PV:=[.sl (c.when_.map eN),.sl (c.chs.map eCh)]
abbrev Cms (cs:List Cm):AV:=.p (.sl (cs.map eCm))
abbrev aPg (p:Pg):AV:=.agg [I p.wide,I p.vars,Ns p.start,Cms p.cmds]
abbrev aS (of:List Int):AV:=.agg [Is of]
def ok (n:Nat):Prop:=n≤9223372036854775807
end Go.Proofs.YtohkciilfkhomaaGreat
namespace Go.Proofs.YtohkciilfkhomaaGreat
open Go Go.Sep Go.Pt
attribute [local irreducible] CallT
end Go.Proofs.YtohkciilfkhomaaGreat
namespace Go.Pt
structure Ed where
 src:Int
 lt:Int
 dst:Int
deriving Inhabited
structure Au where
 states:Int
 first:List Int
 edges:List Ed
 goals:List (List Int)
deriving Inhabited
def riseAt (l:List Int) (n:Int) (i:Nat):Bool:=(decide (0≤l.getD i default) && decide (l.getD i default < n)) && (decide (i=0) || decide (l.getD (i - 1) default < l.getD i default))
def rising (l:List Int) (n:Int):Bool:=(List.range l.length).all (riseAt l n)
def edLt (a b:Ed):Bool:=if a.src=b.src then (if a.lt=b.lt then decide (a.dst < b.dst) else decide (a.lt < b.lt)) else decide (a.src < b.src)
def edIn (n:Int) (e:Ed):Bool:=(decide (0≤e.src) && decide (e.src < n)) && ((decide (0≤e.dst) && decide (e.dst < n)) && (decide (0≤e.lt) && decide (e.lt < 8)))
def edAt (n:Int) (es:List Ed) (i:Nat):Bool:=edIn n (es.getD i default) && (decide (i=0) || edLt (es.getD (i - 1) default) (es.getD i default))
def edsOk (n:Int) (es:List Ed):Bool:=(List.range es.length).all (edAt n es)
def goodA (a:Au):Bool:=(decide (1≤a.states) && decide (a.states≤96)) && (rising a.first a.states && (decide (a.edges.length≤2400) && ((decide (a.goals.length≤6) && a.goals.all (fun g=>rising g a.states)) && edsOk a.states a.edges)))
end Go.Pt
namespace Go.Proofs.YtohkciilfkhomaaGreat
open Go Go.Sep Go.Pt
attribute [local irreducible] CallT
abbrev eE (x:Ed):List PV:=[.int .i64 x.src,.int .i64 x.lt,.int .i64 x.dst]
abbrev aE (x:Ed):AV:=.agg [I x.src,I x.lt,I x.dst]
abbrev Es (xs:List Ed):AV:=.p (.sl (xs.map eE))
abbrev aAu (a:Au):AV:=.agg [I a.states,Is a.first,Es a.edges,Ls a.goals]
def smLs (cs:List (List Int)):Prop:=cs.length≤1048576∧∀c∈cs,c.length≤1048576
def smAu (a:Au):Prop:=a.first.length≤1048576∧a.edges.length≤1048576∧smLs a.goals
end Go.Proofs.YtohkciilfkhomaaGreat
namespace Go.Proofs.YtohkciilfkhomaaGreat
open Go Go.Sep Go.Pt
attribute [local irreducible] CallT
theorem riseAt_iff {l:List Int} {n:Int} {i:Nat}:riseAt l n i=true↔0≤l.getD i default∧l.getD i default < n∧(i=0∨l.getD (i - 1) default < l.getD i default):=by
 simp only [riseAt,Bool.and_eq_true,Bool.or_eq_true,decide_eq_true_eq,and_assoc]
theorem rise_not {l:List Int} {n:Int} {i:Nat} (h:¬(0≤l.getD i default∧l.getD i default < n∧(i=0∨l.getD (i - 1) default < l.getD i default))):riseAt l n i=false:=by
 rw [Bool.eq_false_iff];exact fun hh=>h (riseAt_iff.1 hh)
theorem isIncreasing_spec (l:List Int) (n:Int) (hl:l.length≤1048576):Pu Tryz.prog 70 [Is l,I n] (B (rising l n)):=by
 refine Pu.of fun H=>?_
 refine W70_ok ?_;simp (maxSteps:=1000000) (disch:=first | assumption | (apply ν6;assumption)) only [W70,vz,vu,vv,eqS,eF_,↓c1_,↓c2_,tabs,reduceCtorEq,ι5,↓reduceIte,ν1,ν2,ν3,ν4,ν5,ι1,ι2,ι3,ι4]
 refine L70_0_rule (0:Nat) (fun i=>I i) (fun _=>H) (fun i=>i≤l.length∧(List.range i).all (riseAt l n)=true) (fun i=>l.length - i) ⟨⟨by omega,rfl⟩,.refl _,Heap.le_refl _⟩ ?_
 rintro i ⟨hi,ha⟩
 have ra:∀j,j < l.length→riseAt l n j=false→rising l n=false:=fun j hj h=>range_all_false hj h
 have e1:0 < (i:Int)→IntKind.i64.wrap ((i:Int) - 1)=i - 1:=fun _=>i6_ (by omega) (by omega)
 have e2:((i:Int) - 1).toNat=i - 1:=by omega
 have nx:riseAt l n i=true→(List.range (i+1)).all (riseAt l n)=true:=fun h=>by rw [range_all_succ,ha,h];rfl
 (try simp (maxSteps:=1000000) (disch:=first | assumption | (apply ν6;assumption)) only [vz,vu,vv,eqS,eF_,↓c1_,↓c2_,tabs,reduceCtorEq,ι5,↓reduceIte,ν1,ν2,ν3,ν4,ν5,ι1,ι2,ι3,ι4,B70_0])
 refine ⟨fun h1=>⟨by omega,h1,fun h2=>?_,fun h2=>⟨fun h3=>?_,fun h3=>⟨fun h4=>?_,fun h4=>?_⟩⟩⟩,fun h1=>?_⟩
 ·rw [ra i (by omega) (rise_not (by omega))]
 ·rw [ra i (by omega) (rise_not (by omega))]
 ·rw [e1 h4,e2]
  refine ⟨by omega,by omega,fun h5=>?_,fun h5=>⟨i+1,⟨by omega,nx ?_⟩,by omega,?_⟩⟩
  ·rw [ra i (by omega) (rise_not (by omega))]
  ·exact riseAt_iff.2 (by omega)
  ·rw [wk_int,i6_ (by omega) (by omega)];simp
 ·refine ⟨i+1,⟨by omega,nx ?_⟩,by omega,?_⟩
  ·exact riseAt_iff.2 (by omega)
  ·rw [wk_int,i6_ (by omega) (by omega)];simp
 ·have:i=l.length:=by omega
  subst this
  rw [rising,ha]
theorem l1Rising_spec (l:List Int) (n:Int) (hl:l.length≤1048576):Pu Tryz.prog 107 [Is l,I 0,I (n - 1)] (B (rising l n)):=by
 refine Pu.of fun H=>?_
 refine W107_ok ?_;simp (maxSteps:=1000000) (disch:=first | assumption | (apply ν6;assumption)) only [W107,vz,vu,vv,eqS,eF_,↓c1_,↓c2_,tabs,reduceCtorEq,ι5,↓reduceIte,ν1,ν2,ν3,ν4,ν5,ι1,ι2,ι3,ι4]
 refine L107_0_rule (0:Nat) (fun i=>I i) (fun _=>H) (fun i=>i≤l.length∧(List.range i).all (riseAt l n)=true) (fun i=>l.length - i) ⟨⟨by omega,rfl⟩,.refl _,Heap.le_refl _⟩ ?_
 rintro i ⟨hi,ha⟩
 have ra:∀j,j < l.length→riseAt l n j=false→rising l n=false:=fun j hj h=>range_all_false hj h
 have e1:0 < (i:Int)→IntKind.i64.wrap ((i:Int) - 1)=i - 1:=fun _=>i6_ (by omega) (by omega)
 have e2:((i:Int) - 1).toNat=i - 1:=by omega
 have nx:riseAt l n i=true→(List.range (i+1)).all (riseAt l n)=true:=fun h=>by rw [range_all_succ,ha,h];rfl
 (try simp (maxSteps:=1000000) (disch:=first | assumption | (apply ν6;assumption)) only [vz,vu,vv,eqS,eF_,↓c1_,↓c2_,tabs,reduceCtorEq,ι5,↓reduceIte,ν1,ν2,ν3,ν4,ν5,ι1,ι2,ι3,ι4,B107_0])
 refine ⟨fun h1=>⟨by omega,h1,?_⟩,fun h1=>?_⟩
 ·refine Pu.use (l1In_spec (l.getD i default) 0 (n - 1)) ?_
  cases h2:(decide (0≤l.getD i default) && decide (l.getD i default≤n - 1))
  ·(try simp (maxSteps:=1000000) (disch:=first | assumption | (apply ν6;assumption)) only [vz,vu,vv,eqS,eF_,↓c1_,↓c2_,tabs,reduceCtorEq,ι5,↓reduceIte,ν1,ν2,ν3,ν4,ν5,ι1,ι2,ι3,ι4])
   simp only [Bool.and_eq_false_iff,decide_eq_false_iff_not] at h2
   rw [ra i (by omega) (rise_not (by omega))]
  simp only [Bool.and_eq_true,decide_eq_true_eq] at h2
  (try simp (maxSteps:=1000000) (disch:=first | assumption | (apply ν6;assumption)) only [vz,vu,vv,eqS,eF_,↓c1_,↓c2_,tabs,reduceCtorEq,ι5,↓reduceIte,ν1,ν2,ν3,ν4,ν5,ι1,ι2,ι3,ι4])
  refine ⟨fun h4=>?_,fun h4=>?_⟩
  ·rw [e1 h4,e2]
   refine ⟨by omega,by omega,fun h5=>?_,fun h5=>⟨i+1,⟨by omega,nx ?_⟩,by omega,?_⟩⟩
   ·rw [ra i (by omega) (rise_not (by omega))]
   ·exact riseAt_iff.2 (by omega)
   ·rw [wk_int,i6_ (by omega) (by omega)];simp
  ·refine ⟨i+1,⟨by omega,nx ?_⟩,by omega,?_⟩
   ·exact riseAt_iff.2 (by omega)
   ·rw [wk_int,i6_ (by omega) (by omega)];simp
 ·have:i=l.length:=by omega
  subst this
  rw [rising,ha]
theorem Compare_spec (a b:Int):Pu Tryz.prog 112 [I a,I b] (I (if a < b then -1 else if a=b then 0 else 1)):=by
 have nan:∀c:Int,Pu Tryz.prog 125 [I c] (B false):=fun c=>by
  refine Pu.of fun H=>?_
  refine W125_ok ?_;simp (maxSteps:=1000000) (disch:=first | assumption | (apply ν6;assumption)) only [W125,vz,vu,vv,eqS,eF_,↓c1_,↓c2_,tabs,reduceCtorEq,ι5,↓reduceIte,ν1,ν2,ν3,ν4,ν5,ι1,ι2,ι3,ι4]
 refine Pu.of fun H=>?_
 refine W112_ok ?_;simp (maxSteps:=1000000) (disch:=first | assumption | (apply ν6;assumption)) only [W112,vz,vu,vv,eqS,eF_,↓c1_,↓c2_,tabs,reduceCtorEq,ι5,↓reduceIte,ν1,ν2,ν3,ν4,ν5,ι1,ι2,ι3,ι4]
 refine Pu.use (nan a) ?_
 (try simp (maxSteps:=1000000) (disch:=first | assumption | (apply ν6;assumption)) only [vz,vu,vv,eqS,eF_,↓c1_,↓c2_,tabs,reduceCtorEq,ι5,↓reduceIte,ν1,ν2,ν3,ν4,ν5,ι1,ι2,ι3,ι4])
 refine Pu.use (nan b) ?_
 (try simp (maxSteps:=1000000) (disch:=first | assumption | (apply ν6;assumption)) only [vz,vu,vv,eqS,eF_,↓c1_,↓c2_,tabs,reduceCtorEq,ι5,↓reduceIte,ν1,ν2,ν3,ν4,ν5,ι1,ι2,ι3,ι4])
 refine ⟨fun h=>by rw [if_pos h],fun h=>⟨fun h2=>by rw [if_neg h,if_neg (by omega)],fun h2=>by rw [if_neg h,if_pos (by omega)]⟩⟩
theorem Or3_spec (a b c:Int):Pu Tryz.prog 111 [Is [a,b,c]] (I (if a≠0 then a else if b≠0 then b else c)):=by
 refine Pu.of fun H=>?_
 refine W111_ok ?_;simp (maxSteps:=1000000) (disch:=first | assumption | (apply ν6;assumption)) only [W111,vz,vu,vv,eqS,eF_,↓c1_,↓c2_,tabs,reduceCtorEq,ι5,↓reduceIte,ν1,ν2,ν3,ν4,ν5,ι1,ι2,ι3,ι4]
 refine L111_0_rule (0:Nat) (fun i=>I i) (fun _=>H) (fun i=>i≤3∧∀j,j < i→[a,b,c].getD j 0=0) (fun i=>3 - i) ⟨⟨by omega,by intros;omega⟩,.refl _,Heap.le_refl _⟩ ?_
 rintro i ⟨hi,ha⟩
 (try simp (maxSteps:=1000000) (disch:=first | assumption | (apply ν6;assumption)) only [vz,vu,vv,eqS,eF_,↓c1_,↓c2_,tabs,reduceCtorEq,ι5,↓reduceIte,ν1,ν2,ν3,ν4,ν5,ι1,ι2,ι3,ι4,B111_0])
 have e3:∀j,[a,b,c].getD j default=[a,b,c].getD j 0:=fun _=>rfl
 rw [e3]
 refine ⟨fun h1=>⟨by omega,h1,fun h2=>?_,fun h2=>⟨i+1,⟨by omega,fun j hj=>?_⟩,by omega,?_⟩⟩,fun h1=>?_⟩
 ·refine congrArg (fun n:Int=>I n) ?_
  have a0:=ha 0
  have a1:=ha 1
  obtain rfl | rfl | rfl:i=0∨i=1∨i=2:=by omega
  ·rw [if_pos (by simpa using h2)];rfl
  ·rw [if_neg (by simpa using a0 (by omega)),if_pos (by simpa using h2)];rfl
  ·rw [if_neg (by simpa using a0 (by omega)),if_neg (by simpa using a1 (by omega))];rfl
 ·rcases Nat.lt_succ_iff_lt_or_eq.1 hj with h | rfl
  ·exact ha j h
  ·exact h2
 ·rw [wk_int,i6_ (by omega) (by omega)];simp
 ·have a0:=ha 0 (by omega)
  have a1:=ha 1 (by omega)
  have a2:=ha 2 (by omega)
  rw [if_neg (by simpa using a0),if_neg (by simpa using a1)]
  exact congrArg (fun n:Int=>I n) a2.symm
theorem compareEdges_spec (a b:Ed):Pu Tryz.prog 76 [aE a,aE b] (I (if edLt a b then -1 else if edLt b a then 1 else 0)):=by
 refine Pu.of fun H=>?_
 refine W76_ok ?_;simp (maxSteps:=1000000) (disch:=first | assumption | (apply ν6;assumption)) only [W76,vz,vu,vv,eqS,eF_,↓c1_,↓c2_,tabs,reduceCtorEq,ι5,↓reduceIte,ν1,ν2,ν3,ν4,ν5,ι1,ι2,ι3,ι4]
 intro r hr r2 n2 hr2
 have nn2:r≠r2:=Ne.symm n2
 have hle:=Heap.le_setN (b:=[I b.src,I b.lt,I b.dst]) (Heap.le_set (b:=[I a.src,I a.lt,I a.dst]) hr) hr2
 (try simp (maxSteps:=1000000) (disch:=first | assumption | (apply ν6;assumption)) only [vz,vu,vv,eqS,eF_,↓c1_,↓c2_,tabs,reduceCtorEq,ι5,↓reduceIte,ν1,ν2,ν3,ν4,ν5,ι1,ι2,ι3,ι4])
 refine Pu.use (Compare_spec a.src b.src) ?_
 (try simp (maxSteps:=1000000) (disch:=first | assumption | (apply ν6;assumption)) only [vz,vu,vv,eqS,eF_,↓c1_,↓c2_,tabs,reduceCtorEq,ι5,↓reduceIte,ν1,ν2,ν3,ν4,ν5,ι1,ι2,ι3,ι4])
 refine Pu.use (Compare_spec a.lt b.lt) ?_
 (try simp (maxSteps:=1000000) (disch:=first | assumption | (apply ν6;assumption)) only [vz,vu,vv,eqS,eF_,↓c1_,↓c2_,tabs,reduceCtorEq,ι5,↓reduceIte,ν1,ν2,ν3,ν4,ν5,ι1,ι2,ι3,ι4])
 refine Pu.use (Compare_spec a.dst b.dst) ?_
 refine lit3 tab_24 rfl tab_3 ⟨rfl,rfl⟩ ?_
 refine Pu.use (Or3_spec _ _ _) ?_
 refine ⟨?_,hle⟩
 refine congrArg (fun n:Int=>I n) ?_
 have c1:∀x y:Int,(if x < y then (-1:Int) else if x=y then 0 else 1)≠0↔x≠y:=fun x y=>by
  constructor
  ·intro h e;subst e;simp at h
  ·intro h;split<;>first | decide | (rw [if_neg h];decide)
 have key:∀x y:Int,(if x < y then (-1:Int) else if x=y then 0 else 1)=(if decide (x < y)=true then -1 else if decide (y < x)=true then 1 else 0):=fun x y=>by
  simp only [decide_eq_true_eq]
  rcases Int.lt_trichotomy x y with h | h | h
  ·rw [if_pos h,if_pos h]
  ·subst h;simp
  ·rw [if_neg (by omega),if_neg (by omega),if_neg (by omega),if_pos h]
 unfold edLt
 by_cases h1:a.src=b.src
 ·rw [if_neg (by rw [c1];exact not_not_intro h1),if_pos h1,if_pos h1.symm]
  by_cases h2:a.lt=b.lt
  ·rw [if_neg (by rw [c1];exact not_not_intro h2),if_pos h2,if_pos h2.symm]
   exact key _ _
  ·rw [if_pos (by rw [c1];exact h2)]
   have:=key a.lt b.lt
   simpa only [if_neg h2,if_neg (Ne.symm h2)] using this
 ·rw [if_pos (by rw [c1];exact h1)]
  have:=key a.src b.src
  simpa only [if_neg h1,if_neg (Ne.symm h1)] using this
theorem l12Less_spec (a b:Ed):Pu Tryz.prog 88 [aE a,aE b] (B (edLt a b)):=by
 refine Pu.of fun H=>?_
 refine W88_ok ?_;simp (maxSteps:=1000000) (disch:=first | assumption | (apply ν6;assumption)) only [W88,vz,vu,vv,eqS,eF_,↓c1_,↓c2_,tabs,reduceCtorEq,ι5,↓reduceIte,ν1,ν2,ν3,ν4,ν5,ι1,ι2,ι3,ι4]
 intro r hr r2 n2 hr2
 have nn2:r≠r2:=Ne.symm n2
 have hle:=Heap.le_setN (b:=[I b.src,I b.lt,I b.dst]) (Heap.le_set (b:=[I a.src,I a.lt,I a.dst]) hr) hr2
 (try simp (maxSteps:=1000000) (disch:=first | assumption | (apply ν6;assumption)) only [vz,vu,vv,eqS,eF_,↓c1_,↓c2_,tabs,reduceCtorEq,ι5,↓reduceIte,ν1,ν2,ν3,ν4,ν5,ι1,ι2,ι3,ι4])
 unfold edLt
 exact ⟨fun h=>⟨by rw [if_neg h],hle⟩,fun h=>⟨fun h2=>⟨by rw [if_pos h,if_neg h2],hle⟩,fun h2=>⟨by rw [if_pos h,if_pos h2],hle⟩⟩⟩
theorem areGoals1_at (l:List Int) (n:Int) (r:Nat) {H:Heap} (hr:H r=some [I n]) (hl:l.length≤1048576):PuAt Tryz.prog 110 [Is l,.ptr r 0] H (B (!rising l n)):=by
 intro K hK
 refine W110_ok ?_;simp (maxSteps:=1000000) (disch:=first | assumption | (apply ν6;assumption)) only [W110,vz,vu,vv,eqS,eF_,↓c1_,↓c2_,tabs,reduceCtorEq,ι5,↓reduceIte,ν1,ν2,ν3,ν4,ν5,ι1,ι2,ι3,ι4,lA_ hr]
 refine Pu.use (isIncreasing_spec l n hl) ?_
 (try simp (maxSteps:=1000000) (disch:=first | assumption | (apply ν6;assumption)) only [vz,vu,vv,eqS,eF_,↓c1_,↓c2_,tabs,reduceCtorEq,ι5,↓reduceIte,ν1,ν2,ν3,ν4,ν5,ι1,ι2,ι3,ι4])
 simpa using hK
theorem IndexFuncL_at (xs:List (List Int)) (g:Nat) (caps:List AV) (p:List Int→Bool) {H:Heap} (hl:xs.length≤1000000000) (hp:∀x∈xs,PuAt Tryz.prog g (Is x::caps) H (B (p x))) :
  PuAt Tryz.prog 124 [Ls xs,.fn g caps] H (I (if xs.any p then (xs.findIdx p:Int) else -1)):=by
 intro K hK
 refine CallT.fin ?_
 refine W124_ok ?_;simp (maxSteps:=1000000) (disch:=first | assumption | (apply ν6;assumption)) only [W124,vz,vu,vv,eqS,eF_,↓c1_,↓c2_,tabs,reduceCtorEq,ι5,↓reduceIte,ν1,ν2,ν3,ν4,ν5,ι1,ι2,ι3,ι4]
 refine L124_0_rule (0:Nat) (fun i=>I i) (fun _=>H) (fun i=>i≤xs.length∧∀j (hj:j < xs.length),j < i→p xs[j]=false) (fun i=>xs.length - i) ⟨⟨by omega,by intros;omega⟩,.refl _,Heap.le_refl _⟩ ?_
 rintro i ⟨hi1,ha⟩
 (try simp (maxSteps:=1000000) (disch:=first | assumption | (apply ν6;assumption)) only [vz,vu,vv,eqS,eF_,↓c1_,↓c2_,tabs,reduceCtorEq,ι5,↓reduceIte,ν1,ν2,ν3,ν4,ν5,ι1,ι2,ι3,ι4,B124_0])
 refine ⟨fun h=>⟨by omega,h,?_⟩,fun h=>?_⟩
 ·have hlt:i < xs.length:=by omega
  rw [getD_lt hlt]
  refine PuAt.use (hp _ (List.getElem_mem hlt)) ?_
  (try simp (maxSteps:=1000000) (disch:=first | assumption | (apply ν6;assumption)) only [vz,vu,vv,eqS,eF_,↓c1_,↓c2_,tabs,reduceCtorEq,ι5,↓reduceIte,ν1,ν2,ν3,ν4,ν5,ι1,ι2,ι3,ι4])
  refine ⟨fun h1=>?_,fun h1=>⟨i+1,⟨by omega,fun j hj hji=>?_⟩,by omega,?_⟩⟩
  ·have h2:xs.any p=true:=List.any_eq_true.2 ⟨xs[i],List.getElem_mem hlt,h1⟩
   have h3:xs.findIdx p=i:=by
    rw [List.findIdx_eq hlt];exact ⟨h1,fun j hj=>ha j (by omega) hj⟩
   rw [h2,h3] at hK;exact wkK.keep (by simpa using hK)
  ·rcases Nat.lt_succ_iff_lt_or_eq.1 hji with h2 | rfl
   ·exact ha j hj h2
   ·exact h1
  ·rw [wk_int,i6_ (by omega) (by omega)];simp
 ·have hi:i=xs.length:=by omega
  have h2:xs.any p=false:=by
   rw [List.any_eq_false]
   intro x hx
   obtain ⟨j,hj,rfl⟩:=List.mem_iff_getElem.1 hx
   rw [ha j hj (by omega)];simp
  rw [h2] at hK;exact wkK.keep (by simpa using hK)
theorem ContainsFuncL_at (xs:List (List Int)) (g:Nat) (caps:List AV) (p:List Int→Bool) {H:Heap} (hl:xs.length≤1000000000) (hp:∀x∈xs,PuAt Tryz.prog g (Is x::caps) H (B (p x))) :
  PuAt Tryz.prog 109 [Ls xs,.fn g caps] H (B (xs.any p)):=by
 intro K hK
 refine W109_ok ?_;simp (maxSteps:=1000000) (disch:=first | assumption | (apply ν6;assumption)) only [W109,vz,vu,vv,eqS,eF_,↓c1_,↓c2_,tabs,reduceCtorEq,ι5,↓reduceIte,ν1,ν2,ν3,ν4,ν5,ι1,ι2,ι3,ι4]
 refine PuAt.use (IndexFuncL_at xs g caps p hl hp) ?_
 (try simp (maxSteps:=1000000) (disch:=first | assumption | (apply ν6;assumption)) only [vz,vu,vv,eqS,eF_,↓c1_,↓c2_,tabs,reduceCtorEq,ι5,↓reduceIte,ν1,ν2,ν3,ν4,ν5,ι1,ι2,ι3,ι4])
 cases h:xs.any p<;>simp [h] at hK ⊢<;>exact hK
def goalsOk (n:Int) (gs:List (List Int)):Bool:=decide (gs.length≤6) && gs.all (fun g=>rising g n)
theorem not_any_not {α:Type} {p:α→Bool} {l:List α}:(!l.any fun x=>!p x)=l.all p:=by
 induction l with
 | nil=>rfl
 | cons a l ih=>simp only [List.any_cons,List.all_cons,Bool.not_or,Bool.not_not,ih]
theorem areGoals_spec (gs:List (List Int)) (n:Int) (hs:smLs gs):Pu Tryz.prog 75 [Ls gs,I n] (B (goalsOk n gs)):=by
 refine Pu.of fun H=>?_
 refine W75_ok ?_;simp (maxSteps:=1000000) (disch:=first | assumption | (apply ν6;assumption)) only [W75,vz,vu,vv,eqS,eF_,↓c1_,↓c2_,tabs,reduceCtorEq,ι5,↓reduceIte,ν1,ν2,ν3,ν4,ν5,ι1,ι2,ι3,ι4]
 intro r hr
 refine ⟨fun h=>?_,fun h=>⟨by rw [goalsOk,decide_eq_false (by omega)];rfl,Heap.le_set hr⟩⟩
 refine PuAt.use (ContainsFuncL_at gs _ _ (fun g=>!rising g n) (by have:=hs.1;omega) fun g hg=>areGoals1_at g n r (Heap.set_same _ _ _) (hs.2 g hg)) ?_
 (try simp (maxSteps:=1000000) (disch:=first | assumption | (apply ν6;assumption)) only [vz,vu,vv,eqS,eF_,↓c1_,↓c2_,tabs,reduceCtorEq,ι5,↓reduceIte,ν1,ν2,ν3,ν4,ν5,ι1,ι2,ι3,ι4])
 refine ⟨?_,Heap.le_set hr⟩
 rw [goalsOk,decide_eq_true (by omega),Bool.true_and,← not_any_not]
theorem l11Points_spec (l:List Int) (n:Int) (hl:l.length≤1048576) (hn:1≤n∧n≤96):Pu Tryz.prog 73 [Is l,I n] (B (rising l n)):=by
 refine Pu.of fun H=>?_
 have e:IntKind.i64.wrap (n - 1)=n - 1:=i6_ (by omega) (by omega)
 refine W73_ok ?_;simp (maxSteps:=1000000) (disch:=first | assumption | (apply ν6;assumption)) only [W73,vz,vu,vv,eqS,eF_,↓c1_,↓c2_,tabs,reduceCtorEq,ι5,↓reduceIte,ν1,ν2,ν3,ν4,ν5,ι1,ι2,ι3,ι4,e]
 exact Pu.use (l1Rising_spec l n hl) ⟨rfl,Heap.le_refl _⟩
theorem l11Goals_spec (gs:List (List Int)) (n:Int) (hs:smLs gs) (hn:1≤n∧n≤96):Pu Tryz.prog 87 [Ls gs,I n] (B (goalsOk n gs)):=by
 have hl:=hs.1
 refine Pu.of fun H=>?_
 refine W87_ok ?_;simp (maxSteps:=1000000) (disch:=first | assumption | (apply ν6;assumption)) only [W87,vz,vu,vv,eqS,eF_,↓c1_,↓c2_,tabs,reduceCtorEq,ι5,↓reduceIte,ν1,ν2,ν3,ν4,ν5,ι1,ι2,ι3,ι4]
 refine ⟨fun h=>by rw [goalsOk,decide_eq_false (by omega)];rfl,fun h=>?_⟩
 have hd:goalsOk n gs=gs.all (fun g=>rising g n):=by rw [goalsOk,decide_eq_true (by omega),Bool.true_and]
 refine L87_0_rule (0:Nat) (fun i=>I i) (fun _=>H) (fun i=>i≤gs.length∧(gs.take i).all (fun g=>rising g n)=true) (fun i=>gs.length - i) ⟨⟨by omega,rfl⟩,.refl _,Heap.le_refl _⟩ ?_
 rintro i ⟨hi,ha⟩
 (try simp (maxSteps:=1000000) (disch:=first | assumption | (apply ν6;assumption)) only [vz,vu,vv,eqS,eF_,↓c1_,↓c2_,tabs,reduceCtorEq,ι5,↓reduceIte,ν1,ν2,ν3,ν4,ν5,ι1,ι2,ι3,ι4,B87_0])
 refine ⟨fun h1=>⟨by omega,h1,?_⟩,fun h1=>?_⟩
 ·have hlt:i < gs.length:=by omega
  have hm:gs.getD i default∈gs:=getD_all (p:=fun x=>x∈gs) (fun _ h=>h) hlt
  refine Pu.use (l11Points_spec (gs.getD i default) n (hs.2 _ hm) hn) ?_
  cases hr:rising (gs.getD i default) n
  ·(try simp (maxSteps:=1000000) (disch:=first | assumption | (apply ν6;assumption)) only [vz,vu,vv,eqS,eF_,↓c1_,↓c2_,tabs,reduceCtorEq,ι5,↓reduceIte,ν1,ν2,ν3,ν4,ν5,ι1,ι2,ι3,ι4])
   rw [hd]
   exact congrArg (fun b:Bool=>B b) (List.all_eq_false.2 ⟨_,hm,by rw [hr];simp⟩).symm
  ·(try simp (maxSteps:=1000000) (disch:=first | assumption | (apply ν6;assumption)) only [vz,vu,vv,eqS,eF_,↓c1_,↓c2_,tabs,reduceCtorEq,ι5,↓reduceIte,ν1,ν2,ν3,ν4,ν5,ι1,ι2,ι3,ι4])
   refine ⟨i+1,⟨by omega,?_⟩,by omega,?_⟩
   ·rw [take_all_succ hlt,ha,Bool.true_and,← getD_lt (d:=default) hlt];exact hr
   ·rw [wk_int,i6_ (by omega) (by omega)];simp
 ·have:i=gs.length:=by omega
  subst this
  rw [List.take_length] at ha
  rw [hd,ha]
theorem edIn_iff {n:Int} {e:Ed}:edIn n e=true↔(0≤e.src∧e.src < n)∧(0≤e.dst∧e.dst < n)∧(0≤e.lt∧e.lt < 8):=by
 simp only [edIn,Bool.and_eq_true,decide_eq_true_eq]
theorem edAt_iff {n:Int} {es:List Ed} {i:Nat}:edAt n es i=true↔edIn n (es.getD i default)=true∧(i=0∨edLt (es.getD (i - 1) default) (es.getD i default)=true):=by
 simp only [edAt,Bool.and_eq_true,Bool.or_eq_true,decide_eq_true_eq]
theorem edAt_not {n:Int} {es:List Ed} {i:Nat} (h:¬(edIn n (es.getD i default)=true∧(i=0∨edLt (es.getD (i - 1) default) (es.getD i default)=true))):edAt n es i=false:=by
 rw [Bool.eq_false_iff];exact fun hh=>h (edAt_iff.1 hh)
theorem goodA_def (a:Au):goodA a=((decide (1≤a.states) && decide (a.states≤96)) && (rising a.first a.states && (decide (a.edges.length≤2400) && (goalsOk a.states a.goals && edsOk a.states a.edges)))):=rfl
theorem GoodAuto_impl (a:Au) (hs:smAu a):Pu Tryz.prog 29 [aAu a] (B (goodA a)):=by
 refine Pu.of fun H=>?_
 have gd:=goodA_def a
 refine W29_ok ?_;simp (maxSteps:=1000000) (disch:=first | assumption | (apply ν6;assumption)) only [W29,vz,vu,vv,eqS,eF_,↓c1_,↓c2_,tabs,reduceCtorEq,ι5,↓reduceIte,ν1,ν2,ν3,ν4,ν5,ι1,ι2,ι3,ι4]
 intro r hr
 have hle:=Heap.le_set (b:=[I a.states,Is a.first,Es a.edges,Ls a.goals]) hr
 have bad:goodA a=false→AV.p (.bool false)=B (goodA a)∧Heap.le H (H.set r [I a.states,Is a.first,Es a.edges,Ls a.goals]):=fun h=>⟨by rw [h],hle⟩
 refine ⟨fun h1=>bad (by rw [gd,decide_eq_false (by omega)];rfl),fun h1=>⟨fun h2=>bad (by rw [gd,decide_eq_false (by omega:¬a.states≤96),Bool.and_false];rfl),fun h2=>?_⟩⟩
 rw [decide_eq_true (by omega:1≤a.states),decide_eq_true (by omega:a.states≤96),Bool.true_and,Bool.true_and] at gd
 refine Pu.use (isIncreasing_spec a.first a.states hs.1) ?_
 cases h3:rising a.first a.states
 ·(try simp (maxSteps:=1000000) (disch:=first | assumption | (apply ν6;assumption)) only [vz,vu,vv,eqS,eF_,↓c1_,↓c2_,tabs,reduceCtorEq,ι5,↓reduceIte,ν1,ν2,ν3,ν4,ν5,ι1,ι2,ι3,ι4])
  exact bad (by rw [gd,h3];rfl)
 rw [h3,Bool.true_and] at gd
 (try simp (maxSteps:=1000000) (disch:=first | assumption | (apply ν6;assumption)) only [vz,vu,vv,eqS,eF_,↓c1_,↓c2_,tabs,reduceCtorEq,ι5,↓reduceIte,ν1,ν2,ν3,ν4,ν5,ι1,ι2,ι3,ι4])
 refine ⟨fun h4=>bad (by rw [gd,decide_eq_false (by omega)];rfl),fun h4=>?_⟩
 rw [decide_eq_true (by omega:a.edges.length≤2400),Bool.true_and] at gd
 refine Pu.use (areGoals_spec a.goals a.states hs.2.2) ?_
 cases h5:goalsOk a.states a.goals
 ·(try simp (maxSteps:=1000000) (disch:=first | assumption | (apply ν6;assumption)) only [vz,vu,vv,eqS,eF_,↓c1_,↓c2_,tabs,reduceCtorEq,ι5,↓reduceIte,ν1,ν2,ν3,ν4,ν5,ι1,ι2,ι3,ι4])
  exact bad (by rw [gd,h5];rfl)
 rw [h5,Bool.true_and] at gd
 (try simp (maxSteps:=1000000) (disch:=first | assumption | (apply ν6;assumption)) only [vz,vu,vv,eqS,eF_,↓c1_,↓c2_,tabs,reduceCtorEq,ι5,↓reduceIte,ν1,ν2,ν3,ν4,ν5,ι1,ι2,ι3,ι4])
 have hG:(H.set r [I a.states,Is a.first,Es a.edges,Ls a.goals]) r=some [I a.states,Is a.first,Es a.edges,Ls a.goals]:=Heap.set_same _ _ _
 generalize H.set r [I a.states,Is a.first,Es a.edges,Ls a.goals]=G at hle bad hG ⊢
 refine L29_0_rule (0:Nat) (fun i=>I i) (fun _=>G) (fun i=>i≤a.edges.length∧(List.range i).all (edAt a.states a.edges)=true) (fun i=>a.edges.length - i) ⟨⟨by omega,rfl⟩,.refl _,Heap.le_refl _⟩ ?_
 rintro i ⟨hi,ha⟩
 (try simp (maxSteps:=1000000) (disch:=first | assumption | (apply ν6;assumption)) only [vz,vu,vv,eqS,eF_,↓c1_,↓c2_,tabs,reduceCtorEq,ι5,↓reduceIte,ν1,ν2,ν3,ν4,ν5,ι1,ι2,ι3,ι4,B29_0])
 refine ⟨fun h6=>⟨by omega,h6,fun r4 hr4=>?_⟩,fun h6=>?_⟩
 ·have hlt:i < a.edges.length:=by omega
  have nr:r≠r4:=fun e=>by rw [e,hr4] at hG;cases hG
  have nr':r4≠r:=Ne.symm nr
  have ra:edAt a.states a.edges i=false→AV.p (.bool false)=B (goodA a)∧Heap.le H (G.set r4 [I (a.edges.getD i default).src,I (a.edges.getD i default).lt,I (a.edges.getD i default).dst]):=fun h=>⟨by rw [gd,edsOk,range_all_false hlt h],Heap.le_trans hle (Heap.le_set hr4)⟩
  have e1:0 < (i:Int)→IntKind.i64.wrap ((i:Int) - 1)=i - 1:=fun _=>i6_ (by omega) (by omega)
  have e2:((i:Int) - 1).toNat=i - 1:=by omega
  have nx:edAt a.states a.edges i=true→(List.range (i+1)).all (edAt a.states a.edges)=true:=fun h=>by rw [range_all_succ,ha,h];rfl
  have hne:¬(edIn a.states (a.edges.getD i default)=true)→edAt a.states a.edges i=false:=fun h=>edAt_not fun hh=>h hh.1
  rw [edIn_iff] at hne
  (try simp (maxSteps:=1000000) (disch:=first | assumption | (apply ν6;assumption)) only [vz,vu,vv,eqS,eF_,↓c1_,↓c2_,tabs,reduceCtorEq,ι5,↓reduceIte,ν1,ν2,ν3,ν4,ν5,ι1,ι2,ι3,ι4,lA_ hG])
  refine ⟨fun g=>ra (hne (by omega)),fun g1=>⟨fun g=>ra (hne (by omega)),fun g2=>⟨fun g=>ra (hne (by omega)),fun g3=>⟨fun g=>ra (hne (by omega)),fun g4=>⟨fun g=>ra (hne (by omega)),fun g5=>⟨fun g=>ra (hne (by omega)),fun g6=>⟨fun g7=>?_,fun g7=>?_⟩⟩⟩⟩⟩⟩⟩
  ·rw [e1 g7,e2]
   refine ⟨by omega,by omega,?_⟩
   refine Pu.use (compareEdges_spec (a.edges.getD (i - 1) default) (a.edges.getD i default)) ?_
   cases h8:edLt (a.edges.getD (i - 1) default) (a.edges.getD i default)
   ·have e3:(if false=true then (-1:Int) else if edLt (a.edges.getD i default) (a.edges.getD (i - 1) default)=true then 1 else 0) ≥ 0:=by
     rw [if_neg (by decide)];split<;>decide
    (try simp (maxSteps:=1000000) (disch:=first | assumption | (apply ν6;assumption)) only [vz,vu,vv,eqS,eF_,↓c1_,↓c2_,tabs,reduceCtorEq,ι5,↓reduceIte,ν1,ν2,ν3,ν4,ν5,ι1,ι2,ι3,ι4])
    refine ⟨fun _=>ra (edAt_not fun hh=>?_),fun h9=>absurd e3 (by simpa using h9)⟩
    rcases hh.2 with h | h
    ·omega
    ·rw [h8] at h;cases h
   ·(try simp (maxSteps:=1000000) (disch:=first | assumption | (apply ν6;assumption)) only [vz,vu,vv,eqS,eF_,↓c1_,↓c2_,tabs,reduceCtorEq,ι5,↓reduceIte,ν1,ν2,ν3,ν4,ν5,ι1,ι2,ι3,ι4])
    refine ⟨fun h=>absurd h (by decide),fun _=>⟨i+1,⟨by omega,nx (edAt_iff.2 ⟨edIn_iff.2 (by omega),.inr h8⟩)⟩,by omega,?_,Heap.le_set hr4⟩⟩
    rw [wk_int,i6_ (by omega) (by omega)];simp
  ·refine ⟨i+1,⟨by omega,nx (edAt_iff.2 ⟨edIn_iff.2 (by omega),.inl (by omega)⟩)⟩,by omega,?_,Heap.le_set hr4⟩
   rw [wk_int,i6_ (by omega) (by omega)];simp
 ·have:i=a.edges.length:=by omega
  subst this
  exact ⟨by rw [gd,edsOk,ha],hle⟩
theorem GoodAuto_spec (a:Au) (hs:smAu a):Pu Tryz.prog 35 [aAu a] (B (goodA a)):=by
 refine Pu.of fun H=>?_
 have gd:=goodA_def a
 refine W35_ok ?_;simp (maxSteps:=1000000) (disch:=first | assumption | (apply ν6;assumption)) only [W35,vz,vu,vv,eqS,eF_,↓c1_,↓c2_,tabs,reduceCtorEq,ι5,↓reduceIte,ν1,ν2,ν3,ν4,ν5,ι1,ι2,ι3,ι4]
 intro r hr
 have hle:=Heap.le_set (b:=[I a.states,Is a.first,Es a.edges,Ls a.goals]) hr
 have bad:goodA a=false→AV.p (.bool false)=B (goodA a)∧Heap.le H (H.set r [I a.states,Is a.first,Es a.edges,Ls a.goals]):=fun h=>⟨by rw [h],hle⟩
 refine Pu.use (l1In_spec a.states 1 96) ?_
 cases h1:(decide (1≤a.states) && decide (a.states≤96))
 ·(try simp (maxSteps:=1000000) (disch:=first | assumption | (apply ν6;assumption)) only [vz,vu,vv,eqS,eF_,↓c1_,↓c2_,tabs,reduceCtorEq,ι5,↓reduceIte,ν1,ν2,ν3,ν4,ν5,ι1,ι2,ι3,ι4])
  exact bad (by rw [gd,h1];rfl)
 rw [h1,Bool.true_and] at gd
 simp only [Bool.and_eq_true,decide_eq_true_eq] at h1
 (try simp (maxSteps:=1000000) (disch:=first | assumption | (apply ν6;assumption)) only [vz,vu,vv,eqS,eF_,↓c1_,↓c2_,tabs,reduceCtorEq,ι5,↓reduceIte,ν1,ν2,ν3,ν4,ν5,ι1,ι2,ι3,ι4])
 refine Pu.use (l11Points_spec a.first a.states hs.1 h1) ?_
 cases h3:rising a.first a.states
 ·(try simp (maxSteps:=1000000) (disch:=first | assumption | (apply ν6;assumption)) only [vz,vu,vv,eqS,eF_,↓c1_,↓c2_,tabs,reduceCtorEq,ι5,↓reduceIte,ν1,ν2,ν3,ν4,ν5,ι1,ι2,ι3,ι4])
  exact bad (by rw [gd,h3];rfl)
 rw [h3,Bool.true_and] at gd
 (try simp (maxSteps:=1000000) (disch:=first | assumption | (apply ν6;assumption)) only [vz,vu,vv,eqS,eF_,↓c1_,↓c2_,tabs,reduceCtorEq,ι5,↓reduceIte,ν1,ν2,ν3,ν4,ν5,ι1,ι2,ι3,ι4])
 refine ⟨fun h4=>bad (by rw [gd,decide_eq_false (by omega)];rfl),fun h4=>?_⟩
 rw [decide_eq_true (by omega:a.edges.length≤2400),Bool.true_and] at gd
 refine Pu.use (l11Goals_spec a.goals a.states hs.2.2 h1) ?_
 cases h5:goalsOk a.states a.goals
 ·(try simp (maxSteps:=1000000) (disch:=first | assumption | (apply ν6;assumption)) only [vz,vu,vv,eqS,eF_,↓c1_,↓c2_,tabs,reduceCtorEq,ι5,↓reduceIte,ν1,ν2,ν3,ν4,ν5,ι1,ι2,ι3,ι4])
  exact bad (by rw [gd,h5];rfl)
 rw [h5,Bool.true_and] at gd
 (try simp (maxSteps:=1000000) (disch:=first | assumption | (apply ν6;assumption)) only [vz,vu,vv,eqS,eF_,↓c1_,↓c2_,tabs,reduceCtorEq,ι5,↓reduceIte,ν1,ν2,ν3,ν4,ν5,ι1,ι2,ι3,ι4])
 have hG:(H.set r [I a.states,Is a.first,Es a.edges,Ls a.goals]) r=some [I a.states,Is a.first,Es a.edges,Ls a.goals]:=Heap.set_same _ _ _
 generalize H.set r [I a.states,Is a.first,Es a.edges,Ls a.goals]=G at hle bad hG ⊢
 have e0:IntKind.i64.wrap (a.states - 1)=a.states - 1:=i6_ (by omega) (by omega)
 refine L35_0_rule (0:Nat) (fun i=>I i) (fun _=>G) (fun i=>i≤a.edges.length∧(List.range i).all (edAt a.states a.edges)=true) (fun i=>a.edges.length - i) ⟨⟨by omega,rfl⟩,.refl _,Heap.le_refl _⟩ ?_
 rintro i ⟨hi,ha⟩
 (try simp (maxSteps:=1000000) (disch:=first | assumption | (apply ν6;assumption)) only [vz,vu,vv,eqS,eF_,↓c1_,↓c2_,tabs,reduceCtorEq,ι5,↓reduceIte,ν1,ν2,ν3,ν4,ν5,ι1,ι2,ι3,ι4,B35_0])
 refine ⟨fun h6=>⟨by omega,h6,fun r4 hr4=>?_⟩,fun h6=>?_⟩
 ·have hlt:i < a.edges.length:=by omega
  have nr:r≠r4:=fun e=>by rw [e,hr4] at hG;cases hG
  have nr':r4≠r:=Ne.symm nr
  have ra:edAt a.states a.edges i=false→AV.p (.bool false)=B (goodA a)∧Heap.le H (G.set r4 [I (a.edges.getD i default).src,I (a.edges.getD i default).lt,I (a.edges.getD i default).dst]):=fun h=>⟨by rw [gd,edsOk,range_all_false hlt h],Heap.le_trans hle (Heap.le_set hr4)⟩
  have e1:0 < (i:Int)→IntKind.i64.wrap ((i:Int) - 1)=i - 1:=fun _=>i6_ (by omega) (by omega)
  have e2:((i:Int) - 1).toNat=i - 1:=by omega
  have nx:edAt a.states a.edges i=true→(List.range (i+1)).all (edAt a.states a.edges)=true:=fun h=>by rw [range_all_succ,ha,h];rfl
  have hne:¬(edIn a.states (a.edges.getD i default)=true)→edAt a.states a.edges i=false:=fun h=>edAt_not fun hh=>h hh.1
  rw [edIn_iff] at hne
  (try simp (maxSteps:=1000000) (disch:=first | assumption | (apply ν6;assumption)) only [vz,vu,vv,eqS,eF_,↓c1_,↓c2_,tabs,reduceCtorEq,ι5,↓reduceIte,ν1,ν2,ν3,ν4,ν5,ι1,ι2,ι3,ι4,lA_ hG,e0])
  refine Pu.use (l1In_spec (a.edges.getD i default).src 0 (a.states - 1)) ?_
  cases g1:(decide (0≤(a.edges.getD i default).src) && decide ((a.edges.getD i default).src≤a.states - 1))
  ·simp only [Bool.and_eq_false_iff,decide_eq_false_iff_not] at g1
   (try simp (maxSteps:=1000000) (disch:=first | assumption | (apply ν6;assumption)) only [vz,vu,vv,eqS,eF_,↓c1_,↓c2_,tabs,reduceCtorEq,ι5,↓reduceIte,ν1,ν2,ν3,ν4,ν5,ι1,ι2,ι3,ι4])
   exact ra (hne (by omega))
  simp only [Bool.and_eq_true,decide_eq_true_eq] at g1
  (try simp (maxSteps:=1000000) (disch:=first | assumption | (apply ν6;assumption)) only [vz,vu,vv,eqS,eF_,↓c1_,↓c2_,tabs,reduceCtorEq,ι5,↓reduceIte,ν1,ν2,ν3,ν4,ν5,ι1,ι2,ι3,ι4])
  refine Pu.use (l1In_spec (a.edges.getD i default).lt 0 7) ?_
  cases g2:(decide (0≤(a.edges.getD i default).lt) && decide ((a.edges.getD i default).lt≤7))
  ·simp only [Bool.and_eq_false_iff,decide_eq_false_iff_not] at g2
   (try simp (maxSteps:=1000000) (disch:=first | assumption | (apply ν6;assumption)) only [vz,vu,vv,eqS,eF_,↓c1_,↓c2_,tabs,reduceCtorEq,ι5,↓reduceIte,ν1,ν2,ν3,ν4,ν5,ι1,ι2,ι3,ι4])
   exact ra (hne (by omega))
  simp only [Bool.and_eq_true,decide_eq_true_eq] at g2
  (try simp (maxSteps:=1000000) (disch:=first | assumption | (apply ν6;assumption)) only [vz,vu,vv,eqS,eF_,↓c1_,↓c2_,tabs,reduceCtorEq,ι5,↓reduceIte,ν1,ν2,ν3,ν4,ν5,ι1,ι2,ι3,ι4,lA_ hG,e0])
  refine Pu.use (l1In_spec (a.edges.getD i default).dst 0 (a.states - 1)) ?_
  cases g3:(decide (0≤(a.edges.getD i default).dst) && decide ((a.edges.getD i default).dst≤a.states - 1))
  ·simp only [Bool.and_eq_false_iff,decide_eq_false_iff_not] at g3
   (try simp (maxSteps:=1000000) (disch:=first | assumption | (apply ν6;assumption)) only [vz,vu,vv,eqS,eF_,↓c1_,↓c2_,tabs,reduceCtorEq,ι5,↓reduceIte,ν1,ν2,ν3,ν4,ν5,ι1,ι2,ι3,ι4])
   exact ra (hne (by omega))
  simp only [Bool.and_eq_true,decide_eq_true_eq] at g3
  (try simp (maxSteps:=1000000) (disch:=first | assumption | (apply ν6;assumption)) only [vz,vu,vv,eqS,eF_,↓c1_,↓c2_,tabs,reduceCtorEq,ι5,↓reduceIte,ν1,ν2,ν3,ν4,ν5,ι1,ι2,ι3,ι4,lA_ hG])
  refine ⟨fun g7=>?_,fun g7=>?_⟩
  ·rw [e1 g7,e2]
   refine ⟨by omega,by omega,?_⟩
   refine Pu.use (l12Less_spec (a.edges.getD (i - 1) default) (a.edges.getD i default)) ?_
   cases h8:edLt (a.edges.getD (i - 1) default) (a.edges.getD i default)
   ·(try simp (maxSteps:=1000000) (disch:=first | assumption | (apply ν6;assumption)) only [vz,vu,vv,eqS,eF_,↓c1_,↓c2_,tabs,reduceCtorEq,ι5,↓reduceIte,ν1,ν2,ν3,ν4,ν5,ι1,ι2,ι3,ι4])
    refine ra (edAt_not fun hh=>?_)
    rcases hh.2 with h | h
    ·omega
    ·rw [h8] at h;cases h
   ·(try simp (maxSteps:=1000000) (disch:=first | assumption | (apply ν6;assumption)) only [vz,vu,vv,eqS,eF_,↓c1_,↓c2_,tabs,reduceCtorEq,ι5,↓reduceIte,ν1,ν2,ν3,ν4,ν5,ι1,ι2,ι3,ι4])
    refine ⟨i+1,⟨by omega,nx (edAt_iff.2 ⟨edIn_iff.2 (by omega),.inr h8⟩)⟩,by omega,?_,Heap.le_set hr4⟩
    rw [wk_int,i6_ (by omega) (by omega)];simp
  ·refine ⟨i+1,⟨by omega,nx (edAt_iff.2 ⟨edIn_iff.2 (by omega),.inl (by omega)⟩)⟩,by omega,?_,Heap.le_set hr4⟩
   rw [wk_int,i6_ (by omega) (by omega)];simp
 ·have:i=a.edges.length:=by omega
  subst this
  exact ⟨by rw [gd,edsOk,ha],hle⟩
end Go.Proofs.YtohkciilfkhomaaGreat
