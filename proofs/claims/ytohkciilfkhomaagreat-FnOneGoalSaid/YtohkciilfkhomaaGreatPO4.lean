/- Texts laid together: W3 W4 W5. -/
import Derived.Test.YtohkciilfkhomaaGreatPO3
import Derived.KernelRfl
set_option linter.unusedVariables false
set_option linter.unusedSimpArgs false
open Go.Sep.AV renaming any → Q_
open Nat renaming reduceAdd→Y1,reduceLeDiff→Y2,reduceLT→Y3,reduceMul→Y4,reduceSub→Y5
open Int renaming reduceToNat→X1,reduceSub→X2,reduceAdd→X3,reduceNeg→X4
open Array renaming toList→X5
open Ne renaming symm→Y6
open List renaming forall_mem_cons→Y7
namespace Go.Proofs.YtohkciilfkhomaaGreat
open Go Go.Sep
attribute [local irreducible] wpC b_2
def D35:Info:=⟨77,fun i=>if i=6 then ([[],[0],[],[2],[2,3],[0,1,2,3,4],[0,1,2,3,4,5],[0,1,2,3,4,5,6],[0,1,2,3,4,5,6,7],[0,1,2,3,4,5,6,7,8],[0,1,2,3,4,5,6,7,8,9],[0,1,2,3,4,5,6,7,8,9,10],[0,1,2,3,4,5,6,7,8,9,10,11],[0,1,2,3,4,5,6,7,8,9,10,11,12],[0,1,2,3,4,5,6,7,8,9,10,11,12,13],[0,1,2,3,4,5,6,7,8,9,10,11,12,13,14],[0,1,2,3,4,5,6,7,8,9,10,11,12,13],[0,1,2,3,4,5,6,7,8,9,10,11,12,13,16],[0,1,2,3,4,5,6,7,8,9,10,11,12,13,16,17],[0,1,2,3,4,5,6,7,8,9,10,11,12,13,14,15,16,17,18],[0,1,2,3,4,5,6,7,8,9,10,11,12,13,14,15,16,17,18,19],[0,1,2,3,4,5,6,7,8,9,10,11,12,13,14,15,16,17,18,19,20],[0,1,2,3,4,5,6,7,8,9,10,11,12,13,14,15,16,17,18,19,20,21],[0,1,2,3,4,5,6,7,8,9,10,11,12,13,14,15,16,17,18,19,20,21,22],[0,1,2,3,4,5,6,7,8,9,10,11,12,13,14,15,16,17,18,19,20,21,22,23],[0,1,2,3,4,5,6,7,8,9,10,11,12,13,14,15,16,17,18,19,20,21,22,23,24],[0,1,2,3,4,5,6,7,8,9,10,11,12,13,14,15,16,17,18,19,20,21,22,23,24,25],[0,1,2,3,4,5,6,7,8,9,10,11,12,13,14,15,16,17,18,19,20,21,22,23,24,25,26],[0,1,2,3,4,5,6,7,8,9,10,11,12,13,14,15,16,17,18,19,20,21,22,23,24,25],[0,1,2,3,4,5,6,7,8,9,10,11,12,13,14,15,16,17,18,19,20,21,22,23,24,25,28],[0,1,2,3,4,5,6,7,8,9,10,11,12,13,14,15,16,17,18,19,20,21,22,23,24,25,26,27,28,29],[0,1,2,3,4,5,6,7,8,9,10,11,12,13,14,15,16,17,18,19,20,21,22,23,24,25,26,27,28,29,30],[0,1,2,3,4,5,6,7,8,9,10,11,12,13,14,15,16,17,18,19,20,21,22,23,24,25],[0,1,2,3,4,5,6,7,8,9,10,11,12,13,14,15,16,17,18,19,20,21,22,23,24,25,26,27,28,29,30,31,32],[0,1,2,3,4,5,6,7,8,9,10,11,12,13,14,15,16,17,18,19,20,21,22,23,24,25,26,27,28,29,30,31,32,33],[0,1,2,3,4,5,6,7,8,9,10,11,12,13,14,15,16,17,18,19,20,21,22,23,24,25,26,27,28,29,30,31,32,33,34],[0,1,2,3,4,5,6,7,8,9,10,11,12,13,14,15,16,17,18,19,20,21,22,23,24,25,26,27,28,29,30,31,32,33,34,35]],[(0,[]),(1,[]),(2,[]),(3,[]),(4,[]),(5,[]),(6,[]),(7,[]),(8,[]),(9,[]),(10,[]),(11,[]),(12,[]),(13,[]),(14,[]),(15,[]),(16,[]),(17,[]),(18,[]),(19,[]),(20,[]),(21,[]),(22,[]),(23,[]),(24,[]),(25,[]),(26,[]),(27,[]),(28,[]),(29,[]),(30,[]),(31,[]),(32,[]),(33,[]),(34,[]),(35,[]),(36,[])]) else ([],[]),fun i=>if i=4 then ([1,32,33],[34]) else ([],[])⟩
def L35_0 (K:k_) (v1 v32:AV) (v33 v34:AV) (H:Heap):Prop:=a_c (wpC Tryz.prog tab D35 (cAt [1,1,0,1,0,0] (bO_ Tryz.f35))) [1,32,33] (a_b.block 0 (a_b.thenA (wpC Tryz.prog tab D35 (cAt [1,1,1] (bO_ Tryz.f35))) (retF tab [.tmp 2] K))) [34] [Q_,v1,Q_,Q_,Q_,Q_,Q_,Q_,Q_,Q_,Q_,Q_,Q_,Q_,Q_,Q_,Q_,Q_,Q_,Q_,Q_,Q_,Q_,Q_,Q_,Q_,Q_,Q_,Q_,Q_,Q_,Q_,v32,v33,v34,Q_,Q_,Q_,Q_,Q_,Q_,Q_,Q_,Q_,Q_,Q_,Q_,Q_,Q_,Q_,Q_,Q_,Q_,Q_,Q_,Q_,Q_,Q_,Q_,Q_,Q_,Q_,Q_,Q_,Q_,Q_,Q_,Q_,Q_,Q_,Q_,Q_,Q_,Q_,Q_,Q_,Q_] H
def B35_0 (K:k_) (N1:k_) (v1 v32:AV) (v33 v34:AV) (H:Heap):Prop:=
 binV tab .lss 3 v34 v33 fun v35=>
 cV_ v35 (iA_ tab 25 v32 v34 fun v37=>
 lV_ tab 66 v37 H fun v38=>
 a_d tab 66 H fun v4 H5=>
 sV_ tab 66 v4 v38 H5 fun H6=>
 fA_ tab 66 v4 0 fun v39=>
 lV_ tab 3 v39 H6 fun v40=>
 fA_ tab 28 v1 0 fun v41=>
 lV_ tab 3 v41 H6 fun v42=>
 binV tab .sub 3 v42 (AV.p (.int .i64 1)) fun v43=>
 a_a Tryz.prog 48 [v40,(AV.p (.int .i64 0)),v43] H6 fun v44 H7=>
 unV .not v44 fun v45=>
 grdV v45 false (fA_ tab 66 v4 1 fun v47=>
 lV_ tab 3 v47 H7 fun v48=>
 a_a Tryz.prog 48 [v48,(AV.p (.int .i64 0)),(AV.p (.int .i64 7))] H7 fun v49 H8=>
 unV .not v49 fun v50=>
 grdV v50 false (fA_ tab 66 v4 2 fun v53=>
 lV_ tab 3 v53 H8 fun v54=>
 fA_ tab 28 v1 0 fun v55=>
 lV_ tab 3 v55 H8 fun v56=>
 binV tab .sub 3 v56 (AV.p (.int .i64 1)) fun v57=>
 a_a Tryz.prog 48 [v54,(AV.p (.int .i64 0)),v57] H8 fun v58 H9=>
 unV .not v58 fun v59=>
 grdV v59 false (binV tab .gtr 3 v34 (AV.p (.int .i64 0)) fun v63=>
 grdV v63 true (fA_ tab 28 v1 2 fun v65=>
 lV_ tab 25 v65 H9 fun v66=>
 binV tab .sub 3 v34 (AV.p (.int .i64 1)) fun v68=>
 iA_ tab 25 v66 v68 fun v69=>
 lV_ tab 66 v69 H9 fun v70=>
 lV_ tab 66 v4 H9 fun v71=>
 a_a Tryz.prog 88 [v70,v71] H9 fun v72 H10=>
 unV .not v72 fun v73=>
 cV_ v73 (K (AV.p (.bool false)) H10)
 (binV tab .add 3 v34 (AV.p (.int .i64 1)) fun v76=>
 N1 v76 H10))
 (binV tab .add 3 v34 (AV.p (.int .i64 1)) fun v76=>
 N1 v76 H9))
 (K (AV.p (.bool false)) H9))
 (K (AV.p (.bool false)) H8))
 (K (AV.p (.bool false)) H7))
 (K (AV.p (.bool true)) H)
def W35 (v0:AV) (H:Heap) (K:k_):Prop:=
 boxV v0 H fun v1 H1=>
 fA_ tab 28 v1 0 fun v5=>
 lV_ tab 3 v5 H1 fun v6=>
 a_a Tryz.prog 48 [v6,(AV.p (.int .i64 1)),(AV.p (.int .i64 96))] H1 fun v7 H2=>
 unV .not v7 fun v8=>
 grdV v8 false (fA_ tab 28 v1 1 fun v10=>
 lV_ tab 24 v10 H2 fun v11=>
 fA_ tab 28 v1 0 fun v12=>
 lV_ tab 3 v12 H2 fun v13=>
 a_a Tryz.prog 73 [v11,v13] H2 fun v14 H3=>
 unV .not v14 fun v15=>
 grdV v15 false (fA_ tab 28 v1 2 fun v18=>
 lV_ tab 25 v18 H3 fun v19=>
 lenV tab 25 v19 fun v20=>
 binV tab .gtr 3 v20 (AV.p (.int .i64 2400)) fun v21=>
 grdV v21 false (fA_ tab 28 v1 3 fun v24=>
 lV_ tab 26 v24 H3 fun v25=>
 fA_ tab 28 v1 0 fun v26=>
 lV_ tab 3 v26 H3 fun v27=>
 a_a Tryz.prog 87 [v25,v27] H3 fun v28 H4=>
 unV .not v28 fun v29=>
 cV_ v29 (K (AV.p (.bool false)) H4)
 (fA_ tab 28 v1 2 fun v31=>
 lV_ tab 25 v31 H4 fun v32=>
 lenV tab 25 v32 fun v33=>
 L35_0 K v1 v32 v33 (AV.p (.int .i64 0)) H4))
 (K (AV.p (.bool false)) H3))
 (K (AV.p (.bool false)) H3))
 (K (AV.p (.bool false)) H2)
theorem W35_ok {v0:AV} {H:Heap} {K:k_} (h:W35 v0 H K):a_a Tryz.prog 35 [v0] H K:=
 a_a.of_wp (D:=D35) tO_ mixed Tryz.func35 (c:=bO_ Tryz.f35) (by kernel_rfl) rfl (by kernel_rfl) (rs:=#[.tmp 2]) rfl (by decide +kernel) (by kernel_rfl) (by kernel_rfl) h
theorem L35_0_rule {K:k_} {v1 v32 v33 v34:AV} {H:Heap} {σ:Type} (s0:σ) (f34:σ→AV) (TH:σ→Heap) (pre:σ→Prop) (μ:σ→Nat)
  (h0:pre s0∧AV.wk v34 (f34 s0)∧Heap.le (TH s0) H)
  (round:∀s,pre s→B35_0 K (fun w34 H'=>∃s',pre s'∧μ s' < μ s∧AV.wk w34 (f34 s')∧Heap.le (TH s') H') v1 v32 v33 (f34 s) (TH s)) :
  L35_0 K v1 v32 v33 v34 H:=by
 unfold L35_0
 exact a_c.mk s0 (fun s=>[f34 s]) TH pre μ (fun _=>rfl) (Eq.mp (by kernel_rfl) h0) (fun s hs=>Eq.mp (by kernel_rfl) (round s hs))
def D36:Info:=⟨147,fun i=>if i=6 then ([[],[],[0,1],[0,1,2],[0,1,2,3],[0,1,2,3,4],[0,1,2,3,4,5],[0,1,2,3,4,5,6],[0,1,2,3,4,5,6,7],[0,1,2,3,4,5,6,7,8],[0,1,2,3,4,5,6,7,8],[0,1,2,3,4,5,6,7,8,9,10],[0,1,2,3,4,5,6,7,8,9,10,11],[0,1,2,3,4,5,6,7,8],[0,1,2,3,4,5,6,7,8],[0,1,2,3,4,5,6,7,8,13,14],[0,1,2,3,4,5,6,7,8,13,14,15],[0,1,2,3,4,5,6,7,8,9,10,11,12,13,14,15,16],[0,1,2,3,4,5,6,7,8,9,10,11,12,13,14,15,16,17],[0,1,2,3,4,5,6,7,8,9,10,11,12,13,14,15,16,17,18]],[(0,[]),(1,[]),(2,[]),(3,[]),(4,[]),(5,[]),(6,[]),(7,[]),(8,[]),(9,[]),(10,[]),(11,[]),(12,[]),(13,[]),(14,[]),(15,[]),(16,[]),(17,[]),(18,[]),(19,[])]) else if i=22 then ([[],[],[0,1],[0,1,2],[],[],[4,5],[4,5,6],[0,1,2,3,4,5,6,7]],[(0,[]),(1,[]),(2,[]),(3,[]),(4,[]),(5,[]),(6,[]),(7,[]),(8,[])]) else if i=29 then ([[],[],[1],[1,2],[0,1,2,3],[],[],[],[7],[7,8],[6,7,8,9],[5,6,7,8,9,10],[0,1,2,3,4,5,6,7,8,9,10,11],[0,1,2,3,4,5,6,7,8,9,10,11,12],[0,1,2,3,4,5,6,7,8,9,10,11,12,13]],[(0,[]),(1,[]),(2,[]),(3,[]),(4,[]),(5,[]),(6,[]),(7,[]),(8,[]),(9,[]),(10,[]),(11,[]),(12,[]),(13,[]),(14,[])]) else ([],[]),fun i=>if i=4 then ([0,1,2,9,32,33],[10,34]) else if i=16 then ([10,13,15,16,77,78],[17,79]) else if i=20 then ([10,13,15,16,17,77,78,79,83,84],[20,85]) else ([],[])⟩
def L36_0 (K:k_) (v0 v1:AV) (v2 v9:AV) (v10 v32:AV) (v33 v34:AV) (H:Heap):Prop:=a_c (wpC Tryz.prog tab D36 (cAt [1,1,1,0,1,0,0] (bO_ Tryz.f36))) [0,1,2,9,32,33] (a_b.block 0 (a_b.thenA (wpC Tryz.prog tab D36 (cAt [1,1,1,1] (bO_ Tryz.f36))) (retF tab [.tmp 6,.tmp 7,.tmp 8] K))) [10,34] [v0,v1,v2,Q_,Q_,Q_,Q_,Q_,Q_,v9,v10,Q_,Q_,Q_,Q_,Q_,Q_,Q_,Q_,Q_,Q_,Q_,Q_,Q_,Q_,Q_,Q_,Q_,Q_,Q_,Q_,Q_,v32,v33,v34,Q_,Q_,Q_,Q_,Q_,Q_,Q_,Q_,Q_,Q_,Q_,Q_,Q_,Q_,Q_,Q_,Q_,Q_,Q_,Q_,Q_,Q_,Q_,Q_,Q_,Q_,Q_,Q_,Q_,Q_,Q_,Q_,Q_,Q_,Q_,Q_,Q_,Q_,Q_,Q_,Q_,Q_,Q_,Q_,Q_,Q_,Q_,Q_,Q_,Q_,Q_,Q_,Q_,Q_,Q_,Q_,Q_,Q_,Q_,Q_,Q_,Q_,Q_,Q_,Q_,Q_,Q_,Q_,Q_,Q_,Q_,Q_,Q_,Q_,Q_,Q_,Q_,Q_,Q_,Q_,Q_,Q_,Q_,Q_,Q_,Q_,Q_,Q_,Q_,Q_,Q_,Q_,Q_,Q_,Q_,Q_,Q_,Q_,Q_,Q_,Q_,Q_,Q_,Q_,Q_,Q_,Q_,Q_,Q_,Q_,Q_,Q_] H
def L36_1 (K:k_) (v10 v13:AV) (v15 v16:AV) (v17 v77:AV) (v78 v79:AV) (H:Heap):Prop:=a_c (wpC Tryz.prog tab D36 (cAt [1,1,1,1,1,1,1,1,1,0,1,0,0] (bO_ Tryz.f36))) [10,13,15,16,77,78] (a_b.block 2 (a_b.thenA (wpC Tryz.prog tab D36 (cAt [1,1,1,1,1,1,1,1,1,1] (bO_ Tryz.f36))) (retF tab [.tmp 6,.tmp 7,.tmp 8] K))) [17,79] [Q_,Q_,Q_,Q_,Q_,Q_,Q_,Q_,Q_,Q_,v10,Q_,Q_,v13,Q_,v15,v16,v17,Q_,Q_,Q_,Q_,Q_,Q_,Q_,Q_,Q_,Q_,Q_,Q_,Q_,Q_,Q_,Q_,Q_,Q_,Q_,Q_,Q_,Q_,Q_,Q_,Q_,Q_,Q_,Q_,Q_,Q_,Q_,Q_,Q_,Q_,Q_,Q_,Q_,Q_,Q_,Q_,Q_,Q_,Q_,Q_,Q_,Q_,Q_,Q_,Q_,Q_,Q_,Q_,Q_,Q_,Q_,Q_,Q_,Q_,Q_,v77,v78,v79,Q_,Q_,Q_,Q_,Q_,Q_,Q_,Q_,Q_,Q_,Q_,Q_,Q_,Q_,Q_,Q_,Q_,Q_,Q_,Q_,Q_,Q_,Q_,Q_,Q_,Q_,Q_,Q_,Q_,Q_,Q_,Q_,Q_,Q_,Q_,Q_,Q_,Q_,Q_,Q_,Q_,Q_,Q_,Q_,Q_,Q_,Q_,Q_,Q_,Q_,Q_,Q_,Q_,Q_,Q_,Q_,Q_,Q_,Q_,Q_,Q_,Q_,Q_,Q_,Q_,Q_,Q_] H
def L36_2 (K:k_) (N1:AV→k_) (v10 v13:AV) (v15 v16:AV) (v17 v20:AV) (v77 v78:AV) (v79 v83:AV) (v84 v85:AV) (H:Heap):Prop:=a_c (wpC Tryz.prog tab D36 (cAt [1,1,1,1,1,1,1,1,1,0,1,0,0,1,1,0,0,1,1,0,1,0,0] (bO_ Tryz.f36))) [10,13,15,16,17,77,78,79,83,84] (a_b.block 4 (a_b.thenA (wpC Tryz.prog tab D36 (cAt [1,1,1,1,1,1,1,1,1,0,1,0,0,1,1,0,0,1,1,1] (bO_ Tryz.f36))) (a_b.block 3 (a_b.thenA (wpC Tryz.prog tab D36 (cAt [1,1,1,1,1,1,1,1,1,0,1,0,0,1,1,1] (bO_ Tryz.f36))) (a_w (a_b.block 2 (a_b.thenA (wpC Tryz.prog tab D36 (cAt [1,1,1,1,1,1,1,1,1,1] (bO_ Tryz.f36))) (retF tab [.tmp 6,.tmp 7,.tmp 8] K))) (fun e h=>N1 (e 17) (e 79) h)))))) [20,85] [Q_,Q_,Q_,Q_,Q_,Q_,Q_,Q_,Q_,Q_,v10,Q_,Q_,v13,Q_,v15,v16,v17,Q_,Q_,v20,Q_,Q_,Q_,Q_,Q_,Q_,Q_,Q_,Q_,Q_,Q_,Q_,Q_,Q_,Q_,Q_,Q_,Q_,Q_,Q_,Q_,Q_,Q_,Q_,Q_,Q_,Q_,Q_,Q_,Q_,Q_,Q_,Q_,Q_,Q_,Q_,Q_,Q_,Q_,Q_,Q_,Q_,Q_,Q_,Q_,Q_,Q_,Q_,Q_,Q_,Q_,Q_,Q_,Q_,Q_,Q_,v77,v78,v79,Q_,Q_,Q_,v83,v84,v85,Q_,Q_,Q_,Q_,Q_,Q_,Q_,Q_,Q_,Q_,Q_,Q_,Q_,Q_,Q_,Q_,Q_,Q_,Q_,Q_,Q_,Q_,Q_,Q_,Q_,Q_,Q_,Q_,Q_,Q_,Q_,Q_,Q_,Q_,Q_,Q_,Q_,Q_,Q_,Q_,Q_,Q_,Q_,Q_,Q_,Q_,Q_,Q_,Q_,Q_,Q_,Q_,Q_,Q_,Q_,Q_,Q_,Q_,Q_,Q_,Q_] H
def B36_2 (K:k_) (N1:AV→k_) (N2:AV→k_) (v10 v13:AV) (v15 v16:AV) (v17 v20:AV) (v77 v78:AV) (v79 v83:AV) (v84 v85:AV) (H:Heap):Prop:=
 binV tab .lss 3 v85 v84 fun v86=>
 cV_ v86 (iA_ tab 24 v83 v85 fun v87=>
 lV_ tab 3 v87 H fun v88=>
 iA_ tab 24 v15 v88 fun v91=>
 lV_ tab 3 v91 H fun v92=>
 iA_ tab 24 v15 v10 fun v95=>
 lV_ tab 3 v95 H fun v96=>
 binV tab .eql 3 v92 v96 fun v97=>
 cV_ v97 (bS_ tab 24 1 [(0,v88)] H (wkK fun v100 H8=>
 aP_ tab 24 24 v20 v100 H8 (wkK fun v101 H9=>
 binV tab .add 3 v85 (AV.p (.int .i64 1)) fun v102=>
 N2 v101 v102 H9)))
 (binV tab .add 3 v85 (AV.p (.int .i64 1)) fun v102=>
 N2 v20 v102 H))
 (lenV tab 24 v17 fun v107=>
 binV tab .sub 3 v107 (AV.p (.int .i64 1)) fun v108=>
 a_z tab 24 v17 (some v108) none none fun v109=>
 a_a Tryz.prog 90 [v16,v109,v20] H fun v111 H10=>
 xV_ v111 0 fun v112=>
 xV_ v111 1 fun v113=>
 a_z tab 24 v112 (some (AV.p (.int .i64 1))) none none fun v116=>
 aP_ tab 24 24 v17 v116 H10 (wkK fun v117 H11=>
 binV tab .add 3 v79 (AV.p (.int .i64 1)) fun v118=>
 N1 v117 v118 H11))
def B36_1 (K:k_) (N1:AV→k_) (v10 v13:AV) (v15 v16:AV) (v17 v77:AV) (v78 v79:AV) (H:Heap):Prop:=
 binV tab .lss 3 v79 v78 fun v80=>
 cV_ v80 (iA_ tab 26 v77 v79 fun v81=>
 lV_ tab 24 v81 H fun v82=>
 lenV tab 24 v82 fun v84=>
 L36_2 K N1 v10 v13 v15 v16 v17 (AV.p .nil) v77 v78 v79 v82 v84 (AV.p (.int .i64 0)) H)
 (lenV tab 24 v17 fun v124=>
 binV tab .sub 3 v124 (AV.p (.int .i64 1)) fun v125=>
 iA_ tab 24 v17 v125 fun v126=>
 lV_ tab 3 v126 H fun v127=>
 iA_ tab 26 v16 v127 fun v128=>
 lV_ tab 24 v128 H fun v129=>
 bS_ tab 24 1 [(0,v10)] H (wkK fun v131 H12=>
 a_a Tryz.prog 90 [v16,v129,v131] H12 fun v132 H13=>
 xV_ v132 0 fun v133=>
 xV_ v132 1 fun v134=>
 lenV tab 24 v13 fun v137=>
 binV tab .sub 3 v137 (AV.p (.int .i64 1)) fun v138=>
 a_z tab 24 v13 none (some v138) none fun v139=>
 lenV tab 24 v133 fun v143=>
 binV tab .sub 3 v143 (AV.p (.int .i64 1)) fun v144=>
 a_z tab 24 v133 none (some v144) none fun v145=>
 aP_ tab 24 24 v17 v145 H13 (wkK fun v146 H14=>
 K (.tup [v139,v146,(AV.p (.bool true))]) H14)))
def B36_0 (K:k_) (N1:AV→k_) (v0 v1:AV) (v2 v9:AV) (v10 v32:AV) (v33 v34:AV) (H:Heap):Prop:=
 binV tab .lss 3 v34 v33 fun v35=>
 cV_ v35 (iA_ tab 24 v32 v34 fun v36=>
 lV_ tab 3 v36 H fun v37=>
 iA_ tab 24 v9 v37 fun v40=>
 lV_ tab 3 v40 H fun v41=>
 binV tab .geq 3 v41 (AV.p (.int .i64 0)) fun v42=>
 grdV v42 true (binV tab .lss 3 v10 (AV.p (.int .i64 0)) fun v45=>
 grdV v45 false (iA_ tab 24 v9 v37 fun v49=>
 lV_ tab 3 v49 H fun v50=>
 iA_ tab 24 v9 v10 fun v53=>
 lV_ tab 3 v53 H fun v54=>
 binV tab .lss 3 v50 v54 fun v55=>
 cV_ v55 (binV tab .add 3 v34 (AV.p (.int .i64 1)) fun v59=>
 N1 v37 v59 H)
 (binV tab .add 3 v34 (AV.p (.int .i64 1)) fun v59=>
 N1 v10 v59 H))
 (binV tab .add 3 v34 (AV.p (.int .i64 1)) fun v59=>
 N1 v37 v59 H))
 (binV tab .add 3 v34 (AV.p (.int .i64 1)) fun v59=>
 N1 v10 v59 H))
 (binV tab .lss 3 v10 (AV.p (.int .i64 0)) fun v61=>
 cV_ v61 (K (.tup [(AV.p .nil),(AV.p .nil),(AV.p (.bool false))]) H)
 (bS_ tab 24 1 [(0,v10)] H (wkK fun v66 H3=>
 a_a Tryz.prog 90 [v0,v1,v66] H3 fun v67 H4=>
 xV_ v67 0 fun v68=>
 xV_ v67 1 fun v69=>
 a_a Tryz.prog 91 [v0] H4 fun v71 H5=>
 a_a Tryz.prog 92 [v0,v71] H5 fun v74 H6=>
 bS_ tab 24 1 [(0,v10)] H6 (wkK fun v76 H7=>
 lenV tab 26 v2 fun v78=>
 L36_1 K v10 v68 v71 v74 v76 v2 v78 (AV.p (.int .i64 0)) H7))))
def W36 (v0 v1 v2:AV) (H:Heap) (K:k_):Prop:=
 a_a Tryz.prog 89 [v0,v1] H fun v29 H1=>
 a_a Tryz.prog 66 [v0,v2] H1 fun v32 H2=>
 lenV tab 24 v32 fun v33=>
 L36_0 K v0 v1 v2 v29 (AV.p (.int .i64 (-1))) v32 v33 (AV.p (.int .i64 0)) H2
theorem W36_ok {v0 v1 v2:AV} {H:Heap} {K:k_} (h:W36 v0 v1 v2 H K):a_a Tryz.prog 36 [v0,v1,v2] H K:=
 a_a.of_wp (D:=D36) tO_ mixed Tryz.func36 (c:=bO_ Tryz.f36) (by kernel_rfl) rfl (by kernel_rfl) (rs:=#[.tmp 6,.tmp 7,.tmp 8]) rfl (by decide +kernel) (by kernel_rfl) (by kernel_rfl) h
theorem L36_2_rule {K:k_} {N1:AV→k_} {v10 v13 v15 v16 v17 v20 v77 v78 v79 v83 v84 v85:AV} {H:Heap} {σ:Type} (s0:σ) (f20:σ→AV) (f85:σ→AV) (TH:σ→Heap) (pre:σ→Prop) (μ:σ→Nat)
  (h0:pre s0∧AV.wk v20 (f20 s0)∧AV.wk v85 (f85 s0)∧Heap.le (TH s0) H)
  (round:∀s,pre s→B36_2 K N1 (fun w20 w85 H'=>∃s',pre s'∧μ s' < μ s∧AV.wk w20 (f20 s')∧AV.wk w85 (f85 s')∧Heap.le (TH s') H') v10 v13 v15 v16 v17 (f20 s) v77 v78 v79 v83 v84 (f85 s) (TH s)) :
  L36_2 K N1 v10 v13 v15 v16 v17 v20 v77 v78 v79 v83 v84 v85 H:=by
 unfold L36_2
 exact a_c.mk s0 (fun s=>[f20 s,f85 s]) TH pre μ (fun _=>rfl) (Eq.mp (by kernel_rfl) h0) (fun s hs=>Eq.mp (by kernel_rfl) (round s hs))
theorem L36_1_rule {K:k_} {v10 v13 v15 v16 v17 v77 v78 v79:AV} {H:Heap} {σ:Type} (s0:σ) (f17:σ→AV) (f79:σ→AV) (TH:σ→Heap) (pre:σ→Prop) (μ:σ→Nat)
  (h0:pre s0∧AV.wk v17 (f17 s0)∧AV.wk v79 (f79 s0)∧Heap.le (TH s0) H)
  (round:∀s,pre s→B36_1 K (fun w17 w79 H'=>∃s',pre s'∧μ s' < μ s∧AV.wk w17 (f17 s')∧AV.wk w79 (f79 s')∧Heap.le (TH s') H') v10 v13 v15 v16 (f17 s) v77 v78 (f79 s) (TH s)) :
  L36_1 K v10 v13 v15 v16 v17 v77 v78 v79 H:=by
 unfold L36_1
 exact a_c.mk s0 (fun s=>[f17 s,f79 s]) TH pre μ (fun _=>rfl) (Eq.mp (by kernel_rfl) h0) (fun s hs=>Eq.mp (by kernel_rfl) (round s hs))
theorem L36_0_rule {K:k_} {v0 v1 v2 v9 v10 v32 v33 v34:AV} {H:Heap} {σ:Type} (s0:σ) (f10:σ→AV) (f34:σ→AV) (TH:σ→Heap) (pre:σ→Prop) (μ:σ→Nat)
  (h0:pre s0∧AV.wk v10 (f10 s0)∧AV.wk v34 (f34 s0)∧Heap.le (TH s0) H)
  (round:∀s,pre s→B36_0 K (fun w10 w34 H'=>∃s',pre s'∧μ s' < μ s∧AV.wk w10 (f10 s')∧AV.wk w34 (f34 s')∧Heap.le (TH s') H') v0 v1 v2 v9 (f10 s) v32 v33 (f34 s) (TH s)) :
  L36_0 K v0 v1 v2 v9 v10 v32 v33 v34 H:=by
 unfold L36_0
 exact a_c.mk s0 (fun s=>[f10 s,f34 s]) TH pre μ (fun _=>rfl) (Eq.mp (by kernel_rfl) h0) (fun s hs=>Eq.mp (by kernel_rfl) (round s hs))
def D37:Info:=⟨30,fun i=>if i=5 then ([[],[],[1],[],[],[4],[3,4,5],[3,4,5,6],[],[8],[3,4,5,6,7,8,9],[0,1,2,3,4,5,6,7,8,9,10],[0,1,2,3,4,5,6,7,8,9,10,11]],[(0,[]),(1,[]),(2,[]),(3,[]),(4,[]),(5,[]),(6,[]),(7,[]),(8,[]),(9,[]),(10,[2]),(11,[]),(12,[])]) else ([],[]),fun i=>if i=3 then ([3,10,11],[12]) else ([],[])⟩
def L37_0 (K:k_) (v3 v10:AV) (v11 v12:AV) (H:Heap):Prop:=a_c (wpC Tryz.prog tab D37 (cAt [1,1,0,1,0,0] (bO_ Tryz.f37))) [3,10,11] (a_b.block 0 (a_b.thenA (wpC Tryz.prog tab D37 (cAt [1,1,1] (bO_ Tryz.f37))) (retF tab [.tmp 2] K))) [12] [Q_,Q_,Q_,v3,Q_,Q_,Q_,Q_,Q_,Q_,v10,v11,v12,Q_,Q_,Q_,Q_,Q_,Q_,Q_,Q_,Q_,Q_,Q_,Q_,Q_,Q_,Q_,Q_,Q_] H
def B37_0 (K:k_) (N1:k_) (v3 v10:AV) (v11 v12:AV) (H:Heap):Prop:=
 binV tab .lss 3 v12 v11 fun v13=>
 cV_ v13 (iA_ tab 25 v10 v12 fun v14=>
 lV_ tab 66 v14 H fun v15=>
 a_d tab 66 H fun v5 H3=>
 sV_ tab 66 v5 v15 H3 fun H4=>
 fA_ tab 66 v5 0 fun v17=>
 lV_ tab 3 v17 H4 fun v18=>
 fA_ tab 66 v5 0 fun v20=>
 lV_ tab 3 v20 H4 fun v21=>
 iA_ tab 26 v3 v21 fun v22=>
 lV_ tab 24 v22 H4 fun v23=>
 fA_ tab 66 v5 2 fun v24=>
 lV_ tab 3 v24 H4 fun v25=>
 a_a Tryz.prog 93 [v23,v25] H4 fun v26 H5=>
 (lV_ tab 3 v17 H5 fun v9018=>
 v18=v9018)∧
 iA_ tab 26 v3 v18 fun v27=>
 sV_ tab 24 v27 v26 H5 fun H6=>
 binV tab .add 3 v12 (AV.p (.int .i64 1)) fun v28=>
 N1 v28 H6)
 (K v3 H)
def W37 (v0:AV) (H:Heap) (K:k_):Prop:=
 boxV v0 H fun v1 H1=>
 fA_ tab 28 v1 0 fun v6=>
 lV_ tab 3 v6 H1 fun v7=>
 mS_ tab 26 v7 v7 H1 fun v8 H2=>
 fA_ tab 28 v1 2 fun v9=>
 lV_ tab 25 v9 H2 fun v10=>
 lenV tab 25 v10 fun v11=>
 L37_0 K v8 v10 v11 (AV.p (.int .i64 0)) H2
theorem W37_ok {v0:AV} {H:Heap} {K:k_} (h:W37 v0 H K):a_a Tryz.prog 37 [v0] H K:=
 a_a.of_wp (D:=D37) tO_ mixed Tryz.func37 (c:=bO_ Tryz.f37) (by kernel_rfl) rfl (by kernel_rfl) (rs:=#[.tmp 2]) rfl (by decide +kernel) (by kernel_rfl) (by kernel_rfl) h
theorem L37_0_rule {K:k_} {v3 v10 v11 v12:AV} {H:Heap} {σ:Type} (s0:σ) (f12:σ→AV) (TH:σ→Heap) (pre:σ→Prop) (μ:σ→Nat)
  (h0:pre s0∧AV.wk v12 (f12 s0)∧Heap.le (TH s0) H)
  (round:∀s,pre s→B37_0 K (fun w12 H'=>∃s',pre s'∧μ s' < μ s∧AV.wk w12 (f12 s')∧Heap.le (TH s') H') v3 v10 v11 (f12 s) (TH s)) :
  L37_0 K v3 v10 v11 v12 H:=by
 unfold L37_0
 exact a_c.mk s0 (fun s=>[f12 s]) TH pre μ (fun _=>rfl) (Eq.mp (by kernel_rfl) h0) (fun s hs=>Eq.mp (by kernel_rfl) (round s hs))
def D38:Info:=⟨6,fun i=>([],[]),fun i=>([],[])⟩
def W38 (v0:AV) (H:Heap) (K:k_):Prop:=
 bS_ tab 24 0 [] H (wkK fun v3 H1=>
 aP_ tab 24 24 v3 v0 H1 (wkK fun v5 H2=>
 K v5 H2))
theorem W38_ok {v0:AV} {H:Heap} {K:k_} (h:W38 v0 H K):a_a Tryz.prog 38 [v0] H K:=
 a_a.of_wp (D:=D38) tO_ mixed Tryz.func38 (c:=bO_ Tryz.f38) (by kernel_rfl) rfl (by kernel_rfl) (rs:=#[.tmp 2]) rfl (by decide +kernel) (by kernel_rfl) (by kernel_rfl) h
def D39:Info:=⟨29,fun i=>([],[]),fun i=>if i=2 then ([1,2,10,11],[12]) else ([],[])⟩
def L39_0 (K:k_) (v1 v2:AV) (v10 v11 v12:AV) (H:Heap):Prop:=a_c (wpC Tryz.prog tab D39 (cAt [1,0,1,0,0] (bO_ Tryz.f39))) [1,2,10,11] (a_b.block 0 (a_b.thenA (wpC Tryz.prog tab D39 (cAt [1,1] (bO_ Tryz.f39))) (retF tab [.tmp 6] K))) [12] [Q_,v1,v2,Q_,Q_,Q_,Q_,Q_,Q_,Q_,v10,v11,v12,Q_,Q_,Q_,Q_,Q_,Q_,Q_,Q_,Q_,Q_,Q_,Q_,Q_,Q_,Q_,Q_] H
def B39_0 (K:k_) (N1:k_) (v1 v2:AV) (v10 v11 v12:AV) (H:Heap):Prop:=
 binV tab .lss 3 v12 v11 fun v13=>
 cV_ v13 (iA_ tab 25 v10 v12 fun v14=>
 lV_ tab 66 v14 H fun v15=>
 a_d tab 66 H fun v8 H2=>
 sV_ tab 66 v8 v15 H2 fun H3=>
 fA_ tab 66 v8 0 fun v16=>
 lV_ tab 3 v16 H3 fun v17=>
 binV tab .eql 3 v17 v1 fun v19=>
 grdV v19 true (fA_ tab 66 v8 2 fun v21=>
 lV_ tab 3 v21 H3 fun v22=>
 binV tab .eql 3 v22 v2 fun v24=>
 cV_ v24 (fA_ tab 66 v8 1 fun v26=>
 lV_ tab 3 v26 H3 fun v27=>
 K v27 H3)
 (binV tab .add 3 v12 (AV.p (.int .i64 1)) fun v28=>
 N1 v28 H3))
 (binV tab .add 3 v12 (AV.p (.int .i64 1)) fun v28=>
 N1 v28 H3))
 (K (AV.p (.int .i64 0)) H)
def W39 (v0 v1 v2:AV) (H:Heap) (K:k_):Prop:=
 boxV v0 H fun v3 H1=>
 fA_ tab 28 v3 2 fun v9=>
 lV_ tab 25 v9 H1 fun v10=>
 lenV tab 25 v10 fun v11=>
 L39_0 K v1 v2 v10 v11 (AV.p (.int .i64 0)) H1
theorem W39_ok {v0 v1 v2:AV} {H:Heap} {K:k_} (h:W39 v0 v1 v2 H K):a_a Tryz.prog 39 [v0,v1,v2] H K:=
 a_a.of_wp (D:=D39) tO_ mixed Tryz.func39 (c:=bO_ Tryz.f39) (by kernel_rfl) rfl (by kernel_rfl) (rs:=#[.tmp 6]) rfl (by decide +kernel) (by kernel_rfl) (by kernel_rfl) h
theorem L39_0_rule {K:k_} {v1 v2 v10 v11 v12:AV} {H:Heap} {σ:Type} (s0:σ) (f12:σ→AV) (TH:σ→Heap) (pre:σ→Prop) (μ:σ→Nat)
  (h0:pre s0∧AV.wk v12 (f12 s0)∧Heap.le (TH s0) H)
  (round:∀s,pre s→B39_0 K (fun w12 H'=>∃s',pre s'∧μ s' < μ s∧AV.wk w12 (f12 s')∧Heap.le (TH s') H') v1 v2 v10 v11 (f12 s) (TH s)) :
  L39_0 K v1 v2 v10 v11 v12 H:=by
 unfold L39_0
 exact a_c.mk s0 (fun s=>[f12 s]) TH pre μ (fun _=>rfl) (Eq.mp (by kernel_rfl) h0) (fun s hs=>Eq.mp (by kernel_rfl) (round s hs))
def D40:Info:=⟨9,fun i=>([],[]),fun i=>([],[])⟩
def W40 (v0:AV) (H:Heap) (K:k_):Prop:=
 boxV v0 H fun v1 H1=>
 a_d tab 31 H1 fun v2 H2=>
 lV_ tab 31 v1 H2 fun v4=>
 a_a Tryz.prog 14 [v4] H2 fun v5 H3=>
 unV .not v5 fun v6=>
 cV_ v6 (a_i tab 31 [] fun v7=>
 sV_ tab 31 v2 v7 H3 fun H4=>
 lV_ tab 31 v2 H4 fun r0=>
 K (.tup [r0,(AV.p (.bool false))]) H4)
 (lV_ tab 31 v1 H3 fun v8=>
 sV_ tab 31 v2 v8 H3 fun H5=>
 lV_ tab 31 v2 H5 fun r0=>
 K (.tup [r0,(AV.p (.bool true))]) H5)
theorem W40_ok {v0:AV} {H:Heap} {K:k_} (h:W40 v0 H K):a_a Tryz.prog 40 [v0] H K:=
 a_a.of_wp (D:=D40) tO_ mixed Tryz.func40 (c:=bO_ Tryz.f40) (by kernel_rfl) rfl (by kernel_rfl) (rs:=#[.cell 2 31,.tmp 3]) rfl (by decide +kernel) (by kernel_rfl) (by kernel_rfl) h
def D41:Info:=⟨49,fun i=>if i=5 then ([[],[0],[0,1],[0,1],[0,1,2,3],[0,1,2,3,4],[0,1,2,3,4,5],[0,1,2,3,4,5,6],[0,1,2,3,4,5,6,7],[0,1,2,3,4,5,6,7,8],[0,1,2,3,4,5,6,7,8,9],[0,1,2,3,4,5,6,7,8,9,10],[0,1,2,3,4,5,6,7,8,9,10,11],[0,1,2,3,4,5,6,7,8,9,10,11],[0,1,2,3,4,5,6,7,8,9,10,11,12,13],[0,1,2,3,4,5,6,7,8,9,10,11,12,13,14],[0,1,2,3,4,5,6,7,8,9,10,11],[0,1,2,3,4,5,6,7,8,9,10,11],[0,1,2,3,4,5,6,7,8,9,10,11,16,17],[0,1,2,3,4,5,6,7,8,9,10,11,16,17,18],[0,1,2,3,4,5,6,7,8,9,10,11,12,13,14,15,16,17,18,19],[0,1,2,3,4,5,6,7,8,9,10,11,12,13,14,15,16,17,18,19,20],[0,1,2,3,4,5,6,7,8,9,10,11,12,13,14,15,16,17,18,19,20,21]],[(0,[]),(1,[]),(2,[]),(3,[]),(4,[]),(5,[]),(6,[]),(7,[]),(8,[]),(9,[]),(10,[]),(11,[]),(12,[]),(13,[]),(14,[]),(15,[]),(16,[]),(17,[]),(18,[]),(19,[]),(20,[]),(21,[]),(22,[])]) else ([],[]),fun i=>if i=3 then ([7,16,17],[8,18]) else ([],[])⟩
def L41_0 (K:k_) (v7 v8:AV) (v16 v17 v18:AV) (H:Heap):Prop:=a_c (wpC Tryz.prog tab D41 (cAt [1,1,0,1,0,0] (bO_ Tryz.f41))) [7,16,17] (a_b.block 0 (a_b.thenA (wpC Tryz.prog tab D41 (cAt [1,1,1] (bO_ Tryz.f41))) (retF tab [.tmp 6] K))) [8,18] [Q_,Q_,Q_,Q_,Q_,Q_,Q_,v7,v8,Q_,Q_,Q_,Q_,Q_,Q_,Q_,v16,v17,v18,Q_,Q_,Q_,Q_,Q_,Q_,Q_,Q_,Q_,Q_,Q_,Q_,Q_,Q_,Q_,Q_,Q_,Q_,Q_,Q_,Q_,Q_,Q_,Q_,Q_,Q_,Q_,Q_,Q_,Q_] H
def B41_0 (K:k_) (N1:AV→k_) (v7 v8:AV) (v16 v17 v18:AV) (H:Heap):Prop:=
 binV tab .lss 3 v18 v17 fun v19=>
 cV_ v19 (iA_ tab 87 v16 v18 fun v21=>
 lV_ tab 4 v21 H fun v22=>
 grdV v22 true (iA_ tab 24 v7 v18 fun v27=>
 lV_ tab 3 v27 H fun v28=>
 binV tab .geq 3 v28 (AV.p (.int .i64 0)) fun v29=>
 grdV v29 true (binV tab .lss 3 v8 (AV.p (.int .i64 0)) fun v33=>
 grdV v33 false (iA_ tab 24 v7 v18 fun v37=>
 lV_ tab 3 v37 H fun v38=>
 iA_ tab 24 v7 v8 fun v41=>
 lV_ tab 3 v41 H fun v42=>
 binV tab .lss 3 v38 v42 fun v43=>
 cV_ v43 (binV tab .add 3 v18 (AV.p (.int .i64 1)) fun v47=>
 N1 v18 v47 H)
 (binV tab .add 3 v18 (AV.p (.int .i64 1)) fun v47=>
 N1 v8 v47 H))
 (binV tab .add 3 v18 (AV.p (.int .i64 1)) fun v47=>
 N1 v18 v47 H))
 (binV tab .add 3 v18 (AV.p (.int .i64 1)) fun v47=>
 N1 v8 v47 H))
 (binV tab .add 3 v18 (AV.p (.int .i64 1)) fun v47=>
 N1 v8 v47 H))
 (K v8 H)
def W41 (v0 v1 v2:AV) (H:Heap) (K:k_):Prop:=
 a_a Tryz.prog 60 [v0,v1] H fun v13 H1=>
 a_a Tryz.prog 94 [v0,v2] H1 fun v16 H2=>
 lenV tab 87 v16 fun v17=>
 L41_0 K v13 (AV.p (.int .i64 (-1))) v16 v17 (AV.p (.int .i64 0)) H2
theorem W41_ok {v0 v1 v2:AV} {H:Heap} {K:k_} (h:W41 v0 v1 v2 H K):a_a Tryz.prog 41 [v0,v1,v2] H K:=
 a_a.of_wp (D:=D41) tO_ mixed Tryz.func41 (c:=bO_ Tryz.f41) (by kernel_rfl) rfl (by kernel_rfl) (rs:=#[.tmp 6]) rfl (by decide +kernel) (by kernel_rfl) (by kernel_rfl) h
theorem L41_0_rule {K:k_} {v7 v8 v16 v17 v18:AV} {H:Heap} {σ:Type} (s0:σ) (f8:σ→AV) (f18:σ→AV) (TH:σ→Heap) (pre:σ→Prop) (μ:σ→Nat)
  (h0:pre s0∧AV.wk v8 (f8 s0)∧AV.wk v18 (f18 s0)∧Heap.le (TH s0) H)
  (round:∀s,pre s→B41_0 K (fun w8 w18 H'=>∃s',pre s'∧μ s' < μ s∧AV.wk w8 (f8 s')∧AV.wk w18 (f18 s')∧Heap.le (TH s') H') v7 (f8 s) v16 v17 (f18 s) (TH s)) :
  L41_0 K v7 v8 v16 v17 v18 H:=by
 unfold L41_0
 exact a_c.mk s0 (fun s=>[f8 s,f18 s]) TH pre μ (fun _=>rfl) (Eq.mp (by kernel_rfl) h0) (fun s hs=>Eq.mp (by kernel_rfl) (round s hs))
def D42:Info:=⟨29,fun i=>([],[]),fun i=>([],[])⟩
def W42 (v0:AV) (H:Heap) (K:k_):Prop:=
 boxV v0 H fun v1 H1=>
 fA_ tab 31 v1 0 fun v3=>
 lV_ tab 24 v3 H1 fun v4=>
 lenV tab 24 v4 fun v5=>
 binV tab .leq 3 v5 (AV.p (.int .i64 24)) fun v6=>
 grdV v6 true (fA_ tab 31 v1 1 fun v8=>
 lV_ tab 24 v8 H1 fun v9=>
 lenV tab 24 v9 fun v10=>
 binV tab .geq 3 v10 (AV.p (.int .i64 1)) fun v11=>
 grdV v11 true (fA_ tab 31 v1 1 fun v14=>
 lV_ tab 24 v14 H1 fun v15=>
 lenV tab 24 v15 fun v16=>
 binV tab .leq 3 v16 (AV.p (.int .i64 24)) fun v17=>
 grdV v17 true (fA_ tab 31 v1 0 fun v20=>
 lV_ tab 24 v20 H1 fun v21=>
 a_a Tryz.prog 95 [v21] H1 fun v22 H2=>
 grdV v22 true (fA_ tab 31 v1 1 fun v25=>
 lV_ tab 24 v25 H2 fun v26=>
 a_a Tryz.prog 95 [v26] H2 fun v27 H3=>
 K v27 H3)
 (K (AV.p (.bool false)) H2))
 (K (AV.p (.bool false)) H1))
 (K (AV.p (.bool false)) H1))
 (K (AV.p (.bool false)) H1)
theorem W42_ok {v0:AV} {H:Heap} {K:k_} (h:W42 v0 H K):a_a Tryz.prog 42 [v0] H K:=
 a_a.of_wp (D:=D42) tO_ mixed Tryz.func42 (c:=bO_ Tryz.f42) (by kernel_rfl) rfl (by kernel_rfl) (rs:=#[.tmp 2]) rfl (by decide +kernel) (by kernel_rfl) (by kernel_rfl) h
def D43:Info:=⟨28,fun i=>if i=3 then ([[],[0],[],[],[3],[3,4],[2,3,4,5],[],[7],[7,8],[2,3,4,5,6,7,8,9],[0,1,2,3,4,5,6,7,8,9,10],[0,1,2,3,4,5,6,7,8,9,10,11],[0,1,2,3,4,5,6,7,8,9,10,11,12]],[(0,[]),(1,[]),(2,[]),(3,[]),(4,[]),(5,[]),(6,[]),(7,[]),(8,[]),(9,[]),(10,[]),(11,[]),(12,[]),(13,[])]) else ([],[]),fun i=>([],[])⟩
def W43 (v0 v1:AV) (H:Heap) (K:k_):Prop:=
 boxV v0 H fun v2 H1=>
 fA_ tab 31 v2 0 fun v6=>
 lV_ tab 24 v6 H1 fun v7=>
 lenV tab 24 v7 fun v8=>
 binV tab .lss 3 v1 v8 fun v9=>
 cV_ v9 (fA_ tab 31 v2 0 fun v10=>
 lV_ tab 24 v10 H1 fun v11=>
 iA_ tab 24 v11 v1 fun v13=>
 lV_ tab 3 v13 H1 fun v14=>
 K v14 H1)
 (fA_ tab 31 v2 1 fun v15=>
 lV_ tab 24 v15 H1 fun v16=>
 fA_ tab 31 v2 0 fun v18=>
 lV_ tab 24 v18 H1 fun v19=>
 lenV tab 24 v19 fun v20=>
 binV tab .sub 3 v1 v20 fun v21=>
 fA_ tab 31 v2 1 fun v22=>
 lV_ tab 24 v22 H1 fun v23=>
 lenV tab 24 v23 fun v24=>
 binV tab .rem 3 v21 v24 fun v25=>
 iA_ tab 24 v16 v25 fun v26=>
 lV_ tab 3 v26 H1 fun v27=>
 K v27 H1)
theorem W43_ok {v0 v1:AV} {H:Heap} {K:k_} (h:W43 v0 v1 H K):a_a Tryz.prog 43 [v0,v1] H K:=
 a_a.of_wp (D:=D43) tO_ mixed Tryz.func43 (c:=bO_ Tryz.f43) (by kernel_rfl) rfl (by kernel_rfl) (rs:=#[.tmp 4]) rfl (by decide +kernel) (by kernel_rfl) (by kernel_rfl) h
def D44:Info:=⟨20,fun i=>([],[]),fun i=>([],[])⟩
def W44 (v0 v1:AV) (H:Heap) (K:k_):Prop:=
 boxV v0 H fun v2 H1=>
 binV tab .add 3 v1 (AV.p (.int .i64 1)) fun v6=>
 fA_ tab 31 v2 0 fun v7=>
 lV_ tab 24 v7 H1 fun v8=>
 lenV tab 24 v8 fun v9=>
 fA_ tab 31 v2 1 fun v10=>
 lV_ tab 24 v10 H1 fun v11=>
 lenV tab 24 v11 fun v12=>
 binV tab .add 3 v9 v12 fun v13=>
 binV tab .lss 3 v6 v13 fun v14=>
 cV_ v14 (binV tab .add 3 v1 (AV.p (.int .i64 1)) fun v16=>
 K v16 H1)
 (fA_ tab 31 v2 0 fun v17=>
 lV_ tab 24 v17 H1 fun v18=>
 lenV tab 24 v18 fun v19=>
 K v19 H1)
theorem W44_ok {v0 v1:AV} {H:Heap} {K:k_} (h:W44 v0 v1 H K):a_a Tryz.prog 44 [v0,v1] H K:=
 a_a.of_wp (D:=D44) tO_ mixed Tryz.func44 (c:=bO_ Tryz.f44) (by kernel_rfl) rfl (by kernel_rfl) (rs:=#[.tmp 4]) rfl (by decide +kernel) (by kernel_rfl) (by kernel_rfl) h
end Go.Proofs.YtohkciilfkhomaaGreat
namespace Go.Proofs.YtohkciilfkhomaaGreat
open Go Go.Sep
attribute [local irreducible] wpC b_2
def D45:Info:=⟨118,fun i=>([],[]),fun i=>if i=4 then ([0,4,5],[6]) else if i=7 then ([0,4,5,6],[7]) else if i=11 then ([0,4,5,6,7],[8,9]) else if i=15 then ([0,4,5,6,7,47,48],[49]) else if i=20 then ([0,4,5],[12]) else ([],[])⟩
def L45_0 (K:k_) (v0 v4:AV) (v5 v6:AV) (H:Heap):Prop:=a_c (wpC Tryz.prog tab D45 (cAt [1,1,1,0,1,0,0] (bO_ Tryz.f45))) [0,4,5] (a_b.block 0 (a_b.thenA (wpC Tryz.prog tab D45 (cAt [1,1,1,1] (bO_ Tryz.f45))) (retF tab [.cell 4 28] K))) [6] [v0,Q_,Q_,Q_,v4,v5,v6,Q_,Q_,Q_,Q_,Q_,Q_,Q_,Q_,Q_,Q_,Q_,Q_,Q_,Q_,Q_,Q_,Q_,Q_,Q_,Q_,Q_,Q_,Q_,Q_,Q_,Q_,Q_,Q_,Q_,Q_,Q_,Q_,Q_,Q_,Q_,Q_,Q_,Q_,Q_,Q_,Q_,Q_,Q_,Q_,Q_,Q_,Q_,Q_,Q_,Q_,Q_,Q_,Q_,Q_,Q_,Q_,Q_,Q_,Q_,Q_,Q_,Q_,Q_,Q_,Q_,Q_,Q_,Q_,Q_,Q_,Q_,Q_,Q_,Q_,Q_,Q_,Q_,Q_,Q_,Q_,Q_,Q_,Q_,Q_,Q_,Q_,Q_,Q_,Q_,Q_,Q_,Q_,Q_,Q_,Q_,Q_,Q_,Q_,Q_,Q_,Q_,Q_,Q_,Q_,Q_,Q_,Q_,Q_,Q_,Q_,Q_] H
def L45_1 (K:k_) (N1:k_) (v0 v4:AV) (v5 v6 v7:AV) (H:Heap):Prop:=a_c (wpC Tryz.prog tab D45 (cAt [1,1,1,0,1,0,0,1,0,0,1,0,0] (bO_ Tryz.f45))) [0,4,5,6] (a_b.block 2 (a_b.block 1 (a_b.thenA (wpC Tryz.prog tab D45 (cAt [1,1,1,0,1,0,0,1,1] (bO_ Tryz.f45))) (a_w (a_b.block 0 (a_b.thenA (wpC Tryz.prog tab D45 (cAt [1,1,1,1] (bO_ Tryz.f45))) (retF tab [.cell 4 28] K))) (fun e h=>N1 (e 6) h))))) [7] [v0,Q_,Q_,Q_,v4,v5,v6,v7,Q_,Q_,Q_,Q_,Q_,Q_,Q_,Q_,Q_,Q_,Q_,Q_,Q_,Q_,Q_,Q_,Q_,Q_,Q_,Q_,Q_,Q_,Q_,Q_,Q_,Q_,Q_,Q_,Q_,Q_,Q_,Q_,Q_,Q_,Q_,Q_,Q_,Q_,Q_,Q_,Q_,Q_,Q_,Q_,Q_,Q_,Q_,Q_,Q_,Q_,Q_,Q_,Q_,Q_,Q_,Q_,Q_,Q_,Q_,Q_,Q_,Q_,Q_,Q_,Q_,Q_,Q_,Q_,Q_,Q_,Q_,Q_,Q_,Q_,Q_,Q_,Q_,Q_,Q_,Q_,Q_,Q_,Q_,Q_,Q_,Q_,Q_,Q_,Q_,Q_,Q_,Q_,Q_,Q_,Q_,Q_,Q_,Q_,Q_,Q_,Q_,Q_,Q_,Q_,Q_,Q_,Q_,Q_,Q_,Q_] H
def L45_2 (K:k_) (N1:k_) (N2:k_) (v0 v4:AV) (v5 v6:AV) (v7 v8 v9:AV) (H:Heap):Prop:=a_c (wpC Tryz.prog tab D45 (cAt [1,1,1,0,1,0,0,1,0,0,1,0,0,1,0,0,1,0,1,0,0] (bO_ Tryz.f45))) [0,4,5,6,7] (a_b.block 4 (a_b.thenA (wpC Tryz.prog tab D45 (cAt [1,1,1,0,1,0,0,1,0,0,1,0,0,1,0,0,1,1] (bO_ Tryz.f45))) (a_b.block 3 (a_b.thenA (wpC Tryz.prog tab D45 (cAt [1,1,1,0,1,0,0,1,0,0,1,0,0,1,1] (bO_ Tryz.f45))) (a_w (a_b.block 2 (a_b.block 1 (a_b.thenA (wpC Tryz.prog tab D45 (cAt [1,1,1,0,1,0,0,1,1] (bO_ Tryz.f45))) (a_w (a_b.block 0 (a_b.thenA (wpC Tryz.prog tab D45 (cAt [1,1,1,1] (bO_ Tryz.f45))) (retF tab [.cell 4 28] K))) (fun e h=>N1 (e 6) h))))) (fun e h=>N2 (e 7) h)))))) [8,9] [v0,Q_,Q_,Q_,v4,v5,v6,v7,v8,v9,Q_,Q_,Q_,Q_,Q_,Q_,Q_,Q_,Q_,Q_,Q_,Q_,Q_,Q_,Q_,Q_,Q_,Q_,Q_,Q_,Q_,Q_,Q_,Q_,Q_,Q_,Q_,Q_,Q_,Q_,Q_,Q_,Q_,Q_,Q_,Q_,Q_,Q_,Q_,Q_,Q_,Q_,Q_,Q_,Q_,Q_,Q_,Q_,Q_,Q_,Q_,Q_,Q_,Q_,Q_,Q_,Q_,Q_,Q_,Q_,Q_,Q_,Q_,Q_,Q_,Q_,Q_,Q_,Q_,Q_,Q_,Q_,Q_,Q_,Q_,Q_,Q_,Q_,Q_,Q_,Q_,Q_,Q_,Q_,Q_,Q_,Q_,Q_,Q_,Q_,Q_,Q_,Q_,Q_,Q_,Q_,Q_,Q_,Q_,Q_,Q_,Q_,Q_,Q_,Q_,Q_,Q_,Q_] H
def L45_3 (K:k_) (N1:k_) (N2:k_) (v0 v4:AV) (v5 v6:AV) (v7 v47:AV) (v48 v49:AV) (H:Heap):Prop:=a_c (wpC Tryz.prog tab D45 (cAt [1,1,1,0,1,0,0,1,0,0,1,0,0,1,0,0,1,1,1,0,0] (bO_ Tryz.f45))) [0,4,5,6,7,47,48] (a_b.block 6 (a_b.block 3 (a_b.thenA (wpC Tryz.prog tab D45 (cAt [1,1,1,0,1,0,0,1,0,0,1,0,0,1,1] (bO_ Tryz.f45))) (a_w (a_b.block 2 (a_b.block 1 (a_b.thenA (wpC Tryz.prog tab D45 (cAt [1,1,1,0,1,0,0,1,1] (bO_ Tryz.f45))) (a_w (a_b.block 0 (a_b.thenA (wpC Tryz.prog tab D45 (cAt [1,1,1,1] (bO_ Tryz.f45))) (retF tab [.cell 4 28] K))) (fun e h=>N1 (e 6) h))))) (fun e h=>N2 (e 7) h))))) [49] [v0,Q_,Q_,Q_,v4,v5,v6,v7,Q_,Q_,Q_,Q_,Q_,Q_,Q_,Q_,Q_,Q_,Q_,Q_,Q_,Q_,Q_,Q_,Q_,Q_,Q_,Q_,Q_,Q_,Q_,Q_,Q_,Q_,Q_,Q_,Q_,Q_,Q_,Q_,Q_,Q_,Q_,Q_,Q_,Q_,Q_,v47,v48,v49,Q_,Q_,Q_,Q_,Q_,Q_,Q_,Q_,Q_,Q_,Q_,Q_,Q_,Q_,Q_,Q_,Q_,Q_,Q_,Q_,Q_,Q_,Q_,Q_,Q_,Q_,Q_,Q_,Q_,Q_,Q_,Q_,Q_,Q_,Q_,Q_,Q_,Q_,Q_,Q_,Q_,Q_,Q_,Q_,Q_,Q_,Q_,Q_,Q_,Q_,Q_,Q_,Q_,Q_,Q_,Q_,Q_,Q_,Q_,Q_,Q_,Q_,Q_,Q_,Q_,Q_,Q_,Q_] H
def B45_3 (K:k_) (N1:k_) (N2:k_) (N3:k_) (v0 v4:AV) (v5 v6:AV) (v7 v47:AV) (v48 v49:AV) (H:Heap):Prop:=
 binV tab .lss 3 v49 v48 fun v50=>
 cV_ v50 (iA_ tab 24 v47 v49 fun v51=>
 lV_ tab 3 v51 H fun v52=>
 fA_ tab 28 v5 2 fun v53=>
 lV_ tab 25 v53 H fun v54=>
 a_i tab 66 [(0,v6),(1,v7),(2,v52)] fun v58=>
 bS_ tab 25 1 [(0,v58)] H (wkK fun v59 H11=>
 aP_ tab 25 25 v54 v59 H11 (wkK fun v60 H12=>
 fA_ tab 28 v5 2 fun v61=>
 sV_ tab 25 v61 v60 H12 fun H13=>
 binV tab .add 3 v49 (AV.p (.int .i64 1)) fun v62=>
 N3 v62 H13)))
 (binV tab .add 3 v7 (AV.p (.int .i64 1)) fun v34=>
 N2 v34 H)
def B45_2 (K:k_) (N1:k_) (N2:k_) (N3:AV→k_) (v0 v4:AV) (v5 v6:AV) (v7 v8 v9:AV) (H:Heap):Prop:=
 binV tab .gtr 3 v9 (AV.p (.int .i64 0)) fun v38=>
 cV_ v38 (fA_ tab 28 v5 0 fun v43=>
 lV_ tab 3 v43 H fun v44=>
 a_a Tryz.prog 69 [v0,v44] H fun v45 H9=>
 a_a Tryz.prog 93 [v8,v45] H9 fun v46 H10=>
 binV tab .sub 3 v9 (AV.p (.int .i64 1)) fun v40=>
 N3 v46 v40 H10)
 (lenV tab 24 v8 fun v48=>
 L45_3 K N1 N2 v0 v4 v5 v6 v7 v8 v48 (AV.p (.int .i64 0)) H)
def B45_1 (K:k_) (N1:k_) (N2:k_) (v0 v4:AV) (v5 v6 v7:AV) (H:Heap):Prop:=
 binV tab .lss 3 v7 (AV.p (.int .i64 8)) fun v32=>
 cV_ v32 (a_a Tryz.prog 69 [v0,(AV.p (.int .i64 3))] H fun v36 H8=>
 L45_2 K N1 N2 v0 v4 v5 v6 v7 (AV.p .nil) v36 H8)
 (binV tab .add 3 v6 (AV.p (.int .i64 1)) fun v30=>
 N1 v30 H)
def L45_4 (K:k_) (v0 v4:AV) (v5 v12:AV) (H:Heap):Prop:=a_c (wpC Tryz.prog tab D45 (cAt [1,1,1,1,0,1,0,0] (bO_ Tryz.f45))) [0,4,5] (a_b.block 8 (a_b.thenA (wpC Tryz.prog tab D45 (cAt [1,1,1,1,1] (bO_ Tryz.f45))) (retF tab [.cell 4 28] K))) [12] [v0,Q_,Q_,Q_,v4,v5,Q_,Q_,Q_,Q_,Q_,Q_,v12,Q_,Q_,Q_,Q_,Q_,Q_,Q_,Q_,Q_,Q_,Q_,Q_,Q_,Q_,Q_,Q_,Q_,Q_,Q_,Q_,Q_,Q_,Q_,Q_,Q_,Q_,Q_,Q_,Q_,Q_,Q_,Q_,Q_,Q_,Q_,Q_,Q_,Q_,Q_,Q_,Q_,Q_,Q_,Q_,Q_,Q_,Q_,Q_,Q_,Q_,Q_,Q_,Q_,Q_,Q_,Q_,Q_,Q_,Q_,Q_,Q_,Q_,Q_,Q_,Q_,Q_,Q_,Q_,Q_,Q_,Q_,Q_,Q_,Q_,Q_,Q_,Q_,Q_,Q_,Q_,Q_,Q_,Q_,Q_,Q_,Q_,Q_,Q_,Q_,Q_,Q_,Q_,Q_,Q_,Q_,Q_,Q_,Q_,Q_,Q_,Q_,Q_,Q_,Q_,Q_] H
def J45_5 (K:k_) (N1:k_) (v0 v4:AV) (v5 v12 v13:AV) (H:Heap):Prop:=
 fA_ tab 28 v5 3 fun v82=>
 lV_ tab 26 v82 H fun v83=>
 bS_ tab 26 1 [(0,v13)] H (wkK fun v85 H20=>
 aP_ tab 26 26 v83 v85 H20 (wkK fun v86 H21=>
 fA_ tab 28 v5 3 fun v87=>
 sV_ tab 26 v87 v86 H21 fun H22=>
 binV tab .sub 3 v12 (AV.p (.int .i64 1)) fun v68=>
 N1 v68 H22))
def B45_4 (K:k_) (N1:k_) (v0 v4:AV) (v5 v12:AV) (H:Heap):Prop:=
 binV tab .gtr 3 v12 (AV.p (.int .i64 0)) fun v66=>
 cV_ v66 (fA_ tab 28 v5 0 fun v70=>
 lV_ tab 3 v70 H fun v71=>
 a_a Tryz.prog 69 [v0,v71] H fun v72 H15=>
 a_a Tryz.prog 93 [(AV.p .nil),v72] H15 fun v73 H16=>
 a_a Tryz.prog 47 [v0,(AV.p (.int .i64 2))] H16 fun v75 H17=>
 cV_ v75 (fA_ tab 28 v5 0 fun v78=>
 lV_ tab 3 v78 H17 fun v79=>
 a_a Tryz.prog 69 [v0,v79] H17 fun v80 H18=>
 a_a Tryz.prog 93 [v73,v80] H18 fun v81 H19=>
 J45_5 K N1 v0 v4 v5 v12 v81 H19)
 (J45_5 K N1 v0 v4 v5 v12 v73 H17))
 (a_a Tryz.prog 69 [v0,(AV.p (.int .i64 40))] H fun v89 H23=>
 binV tab .eql 3 v89 (AV.p (.int .i64 0)) fun v91=>
 cV_ v91 (fA_ tab 28 v5 1 fun v92=>
 lV_ tab 24 v92 H23 fun v93=>
 fA_ tab 28 v5 0 fun v94=>
 lV_ tab 3 v94 H23 fun v95=>
 bS_ tab 24 1 [(0,v95)] H23 (wkK fun v96 H24=>
 aP_ tab 24 24 v93 v96 H24 (wkK fun v97 H25=>
 fA_ tab 28 v5 1 fun v98=>
 sV_ tab 24 v98 v97 H25 fun H26=>
 lV_ tab 28 v5 H26 fun v117=>
 sV_ tab 28 v4 v117 H26 fun H28=>
 lV_ tab 28 v4 H28 fun r0=>
 K r0 H28)))
 (binV tab .eql 3 v89 (AV.p (.int .i64 1)) fun v100=>
 cV_ v100 (fA_ tab 28 v5 2 fun v101=>
 lV_ tab 25 v101 H23 fun v102=>
 a_i tab 66 [] fun v103=>
 bS_ tab 25 1 [(0,v103)] H23 (wkK fun v104 H29=>
 aP_ tab 25 25 v102 v104 H29 (wkK fun v105 H30=>
 fA_ tab 28 v5 2 fun v106=>
 sV_ tab 25 v106 v105 H30 fun H31=>
 lV_ tab 28 v5 H31 fun v117=>
 sV_ tab 28 v4 v117 H31 fun H32=>
 lV_ tab 28 v4 H32 fun r0=>
 K r0 H32)))
 (binV tab .eql 3 v89 (AV.p (.int .i64 2)) fun v108=>
 cV_ v108 (a_a Tryz.prog 69 [v0,(AV.p (.int .i64 2))] H23 fun v110 H33=>
 binV tab .add 3 (AV.p (.int .i64 6)) v110 fun v111=>
 mS_ tab 26 v111 v111 H33 fun v112 H34=>
 fA_ tab 28 v5 3 fun v113=>
 sV_ tab 26 v113 v112 H34 fun H35=>
 lV_ tab 28 v5 H35 fun v117=>
 sV_ tab 28 v4 v117 H35 fun H36=>
 lV_ tab 28 v4 H36 fun r0=>
 K r0 H36)
 (binV tab .eql 3 v89 (AV.p (.int .i64 3)) fun v115=>
 cV_ v115 (fA_ tab 28 v5 1 fun v116=>
 sV_ tab 24 v116 (AV.p .nil) H23 fun H37=>
 lV_ tab 28 v5 H37 fun v117=>
 sV_ tab 28 v4 v117 H37 fun H38=>
 lV_ tab 28 v4 H38 fun r0=>
 K r0 H38)
 (lV_ tab 28 v5 H23 fun v117=>
 sV_ tab 28 v4 v117 H23 fun H39=>
 lV_ tab 28 v4 H39 fun r0=>
 K r0 H39)))))
def B45_0 (K:k_) (N1:k_) (v0 v4:AV) (v5 v6:AV) (H:Heap):Prop:=
 fA_ tab 28 v5 0 fun v26=>
 lV_ tab 3 v26 H fun v27=>
 binV tab .lss 3 v6 v27 fun v28=>
 cV_ v28 (L45_1 K N1 v0 v4 v5 v6 (AV.p (.int .i64 0)) H)
 (a_a Tryz.prog 69 [v0,(AV.p (.int .i64 4))] H fun v64 H14=>
 L45_4 K v0 v4 v5 v64 H14)
def W45 (v0 v1:AV) (H:Heap) (K:k_):Prop:=
 a_d tab 28 H fun v4 H1=>
 a_a Tryz.prog 69 [v0,v1] H1 fun v16 H2=>
 binV tab .add 3 (AV.p (.int .i64 1)) v16 fun v17=>
 a_i tab 28 [(0,v17)] fun v18=>
 a_d tab 28 H2 fun v5 H3=>
 sV_ tab 28 v5 v18 H3 fun H4=>
 fA_ tab 28 v5 0 fun v20=>
 lV_ tab 3 v20 H4 fun v21=>
 a_a Tryz.prog 69 [v0,v21] H4 fun v22 H5=>
 a_a Tryz.prog 93 [(AV.p .nil),v22] H5 fun v23 H6=>
 fA_ tab 28 v5 1 fun v24=>
 sV_ tab 24 v24 v23 H6 fun H7=>
 L45_0 K v0 v4 v5 (AV.p (.int .i64 0)) H7
theorem W45_ok {v0 v1:AV} {H:Heap} {K:k_} (h:W45 v0 v1 H K):a_a Tryz.prog 45 [v0,v1] H K:=
 a_a.of_wp (D:=D45) tO_ mixed Tryz.func45 (c:=bO_ Tryz.f45) (by kernel_rfl) rfl (by kernel_rfl) (rs:=#[.cell 4 28]) rfl (by decide +kernel) (by kernel_rfl) (by kernel_rfl) h
theorem W45_hb:a_p Tryz.prog 45:=⟨_,bO_ Tryz.f45,Tryz.func45,by kernel_rfl,rfl⟩
theorem L45_3_rule {K:k_} {N1:k_} {N2:k_} {v0 v4 v5 v6 v7 v47 v48 v49:AV} {H:Heap} {σ:Type} (s0:σ) (f49:σ→AV) (TH:σ→Heap) (pre:σ→Prop) (μ:σ→Nat)
  (h0:pre s0∧AV.wk v49 (f49 s0)∧Heap.le (TH s0) H)
  (round:∀s,pre s→B45_3 K N1 N2 (fun w49 H'=>∃s',pre s'∧μ s' < μ s∧AV.wk w49 (f49 s')∧Heap.le (TH s') H') v0 v4 v5 v6 v7 v47 v48 (f49 s) (TH s)) :
  L45_3 K N1 N2 v0 v4 v5 v6 v7 v47 v48 v49 H:=by
 unfold L45_3
 exact a_c.mk s0 (fun s=>[f49 s]) TH pre μ (fun _=>rfl) (Eq.mp (by kernel_rfl) h0) (fun s hs=>Eq.mp (by kernel_rfl) (round s hs))
theorem L45_2_rule {K:k_} {N1:k_} {N2:k_} {v0 v4 v5 v6 v7 v8 v9:AV} {H:Heap} {σ:Type} (s0:σ) (f8:σ→AV) (f9:σ→AV) (TH:σ→Heap) (pre:σ→Prop) (μ:σ→Nat)
  (h0:pre s0∧AV.wk v8 (f8 s0)∧AV.wk v9 (f9 s0)∧Heap.le (TH s0) H)
  (round:∀s,pre s→B45_2 K N1 N2 (fun w8 w9 H'=>∃s',pre s'∧μ s' < μ s∧AV.wk w8 (f8 s')∧AV.wk w9 (f9 s')∧Heap.le (TH s') H') v0 v4 v5 v6 v7 (f8 s) (f9 s) (TH s)) :
  L45_2 K N1 N2 v0 v4 v5 v6 v7 v8 v9 H:=by
 unfold L45_2
 exact a_c.mk s0 (fun s=>[f8 s,f9 s]) TH pre μ (fun _=>rfl) (Eq.mp (by kernel_rfl) h0) (fun s hs=>Eq.mp (by kernel_rfl) (round s hs))
theorem L45_1_rule {K:k_} {N1:k_} {v0 v4 v5 v6 v7:AV} {H:Heap} {σ:Type} (s0:σ) (f7:σ→AV) (TH:σ→Heap) (pre:σ→Prop) (μ:σ→Nat)
  (h0:pre s0∧AV.wk v7 (f7 s0)∧Heap.le (TH s0) H)
  (round:∀s,pre s→B45_1 K N1 (fun w7 H'=>∃s',pre s'∧μ s' < μ s∧AV.wk w7 (f7 s')∧Heap.le (TH s') H') v0 v4 v5 v6 (f7 s) (TH s)) :
  L45_1 K N1 v0 v4 v5 v6 v7 H:=by
 unfold L45_1
 exact a_c.mk s0 (fun s=>[f7 s]) TH pre μ (fun _=>rfl) (Eq.mp (by kernel_rfl) h0) (fun s hs=>Eq.mp (by kernel_rfl) (round s hs))
theorem L45_4_rule {K:k_} {v0 v4 v5 v12:AV} {H:Heap} {σ:Type} (s0:σ) (f12:σ→AV) (TH:σ→Heap) (pre:σ→Prop) (μ:σ→Nat)
  (h0:pre s0∧AV.wk v12 (f12 s0)∧Heap.le (TH s0) H)
  (round:∀s,pre s→B45_4 K (fun w12 H'=>∃s',pre s'∧μ s' < μ s∧AV.wk w12 (f12 s')∧Heap.le (TH s') H') v0 v4 v5 (f12 s) (TH s)) :
  L45_4 K v0 v4 v5 v12 H:=by
 unfold L45_4
 exact a_c.mk s0 (fun s=>[f12 s]) TH pre μ (fun _=>rfl) (Eq.mp (by kernel_rfl) h0) (fun s hs=>Eq.mp (by kernel_rfl) (round s hs))
theorem L45_0_rule {K:k_} {v0 v4 v5 v6:AV} {H:Heap} {σ:Type} (s0:σ) (f6:σ→AV) (TH:σ→Heap) (pre:σ→Prop) (μ:σ→Nat)
  (h0:pre s0∧AV.wk v6 (f6 s0)∧Heap.le (TH s0) H)
  (round:∀s,pre s→B45_0 K (fun w6 H'=>∃s',pre s'∧μ s' < μ s∧AV.wk w6 (f6 s')∧Heap.le (TH s') H') v0 v4 v5 (f6 s) (TH s)) :
  L45_0 K v0 v4 v5 v6 H:=by
 unfold L45_0
 exact a_c.mk s0 (fun s=>[f6 s]) TH pre μ (fun _=>rfl) (Eq.mp (by kernel_rfl) h0) (fun s hs=>Eq.mp (by kernel_rfl) (round s hs))
def D46:Info:=⟨57,fun i=>if i=12 then ([[],[0],[],[],[2,3],[0,1,2,3,4],[0,1,2,3,4,5]],[(0,[]),(1,[]),(2,[]),(3,[1]),(4,[1]),(5,[]),(6,[])]) else ([],[]),fun i=>([],[])⟩
def J46_0 (K:k_) (v0 v2 v3:AV) (H:Heap):Prop:=
 a_a Tryz.prog 69 [v0,(AV.p (.int .i64 40))] H fun v31 H14=>
 binV tab .eql 3 v31 (AV.p (.int .i64 0)) fun v33=>
 cV_ v33 (bS_ tab 24 3 [(0,(AV.p (.int .i64 0))),(1,(AV.p (.int .i64 24))),(2,(AV.p (.int .i64 25)))] H14 (wkK fun v36 H15=>
 a_a Tryz.prog 97 [v0,v36] H15 fun v37 H16=>
 a_a Tryz.prog 96 [v0,v37] H16 fun v38 H17=>
 fA_ tab 31 v3 1 fun v39=>
 sV_ tab 24 v39 v38 H17 fun H18=>
 lV_ tab 31 v3 H18 fun v56=>
 sV_ tab 31 v2 v56 H18 fun H20=>
 lV_ tab 31 v2 H20 fun r0=>
 K r0 H20))
 (binV tab .eql 3 v31 (AV.p (.int .i64 1)) fun v41=>
 cV_ v41 (bS_ tab 24 2 [(0,(AV.p (.int .i64 24))),(1,(AV.p (.int .i64 25)))] H14 (wkK fun v44 H21=>
 a_a Tryz.prog 97 [v0,v44] H21 fun v45 H22=>
 a_a Tryz.prog 96 [v0,v45] H22 fun v46 H23=>
 fA_ tab 31 v3 0 fun v47=>
 sV_ tab 24 v47 v46 H23 fun H24=>
 lV_ tab 31 v3 H24 fun v56=>
 sV_ tab 31 v2 v56 H24 fun H25=>
 lV_ tab 31 v2 H25 fun r0=>
 K r0 H25))
 (binV tab .eql 3 v31 (AV.p (.int .i64 2)) fun v49=>
 cV_ v49 (fA_ tab 31 v3 1 fun v50=>
 lV_ tab 24 v50 H14 fun v51=>
 bS_ tab 24 3 [(0,(AV.p (.int .i64 (-1)))),(1,(AV.p (.int .i64 7))),(2,(AV.p (.int .i64 8)))] H14 (wkK fun v53 H26=>
 (lV_ tab 24 v50 H26 fun v9051=>
 v51=v9051)∧
 a_a Tryz.prog 97 [v0,v53] H26 fun v54 H27=>
 (lV_ tab 24 v50 H27 fun v9051=>
 v51=v9051)∧
 iA_ tab 24 v51 (AV.p (.int .i64 0)) fun v55=>
 sV_ tab 3 v55 v54 H27 fun H28=>
 lV_ tab 31 v3 H28 fun v56=>
 sV_ tab 31 v2 v56 H28 fun H29=>
 lV_ tab 31 v2 H29 fun r0=>
 K r0 H29))
 (lV_ tab 31 v3 H14 fun v56=>
 sV_ tab 31 v2 v56 H14 fun H30=>
 lV_ tab 31 v2 H30 fun r0=>
 K r0 H30)))
def J46_1 (K:k_) (v0 v2 v3:AV) (H:Heap):Prop:=
 a_a Tryz.prog 47 [v0,(AV.p (.int .i64 4))] H fun v23 H11=>
 cV_ v23 (fA_ tab 31 v3 0 fun v24=>
 lV_ tab 24 v24 H11 fun v25=>
 fA_ tab 31 v3 1 fun v26=>
 lV_ tab 24 v26 H11 fun v27=>
 aP_ tab 24 24 v25 v27 H11 (wkK fun v28 H12=>
 fA_ tab 31 v3 0 fun v29=>
 sV_ tab 24 v29 v28 H12 fun H13=>
 J46_0 K v0 v2 v3 H13))
 (J46_0 K v0 v2 v3 H11)
def W46 (v0:AV) (H:Heap) (K:k_):Prop:=
 a_d tab 31 H fun v2 H1=>
 a_a Tryz.prog 69 [v0,(AV.p (.int .i64 6))] H1 fun v6 H2=>
 a_a Tryz.prog 96 [v0,v6] H2 fun v7 H3=>
 a_a Tryz.prog 69 [v0,(AV.p (.int .i64 5))] H3 fun v10 H4=>
 binV tab .add 3 (AV.p (.int .i64 1)) v10 fun v11=>
 a_a Tryz.prog 96 [v0,v11] H4 fun v12 H5=>
 a_i tab 31 [(0,v7),(1,v12)] fun v13=>
 a_d tab 31 H5 fun v3 H6=>
 sV_ tab 31 v3 v13 H6 fun H7=>
 a_a Tryz.prog 47 [v0,(AV.p (.int .i64 4))] H7 fun v15 H8=>
 cV_ v15 (fA_ tab 31 v3 1 fun v16=>
 lV_ tab 24 v16 H8 fun v17=>
 fA_ tab 31 v3 1 fun v18=>
 lV_ tab 24 v18 H8 fun v19=>
 aP_ tab 24 24 v17 v19 H8 (wkK fun v20 H9=>
 fA_ tab 31 v3 1 fun v21=>
 sV_ tab 24 v21 v20 H9 fun H10=>
 J46_1 K v0 v2 v3 H10))
 (J46_1 K v0 v2 v3 H8)
theorem W46_ok {v0:AV} {H:Heap} {K:k_} (h:W46 v0 H K):a_a Tryz.prog 46 [v0] H K:=
 a_a.of_wp (D:=D46) tO_ mixed Tryz.func46 (c:=bO_ Tryz.f46) (by kernel_rfl) rfl (by kernel_rfl) (rs:=#[.cell 2 31]) rfl (by decide +kernel) (by kernel_rfl) (by kernel_rfl) h
def D47:Info:=⟨9,fun i=>([],[]),fun i=>([],[])⟩
def W47 (v0 v1:AV) (H:Heap) (K:k_):Prop:=
 a_a Tryz.prog 69 [v0,v1] H fun v7 H1=>
 binV tab .eql 3 v7 (AV.p (.int .i64 0)) fun v8=>
 K v8 H1
theorem W47_ok {v0 v1:AV} {H:Heap} {K:k_} (h:W47 v0 v1 H K):a_a Tryz.prog 47 [v0,v1] H K:=
 a_a.of_wp (D:=D47) tO_ mixed Tryz.func47 (c:=bO_ Tryz.f47) (by kernel_rfl) rfl (by kernel_rfl) (rs:=#[.tmp 4]) rfl (by decide +kernel) (by kernel_rfl) (by kernel_rfl) h
def D48:Info:=⟨15,fun i=>([],[]),fun i=>([],[])⟩
def W48 (v0 v1 v2:AV) (H:Heap) (K:k_):Prop:=
 binV tab .geq 3 v0 v1 fun v9=>
 grdV v9 true (binV tab .leq 3 v0 v2 fun v13=>
 K v13 H)
 (K (AV.p (.bool false)) H)
theorem W48_ok {v0 v1 v2:AV} {H:Heap} {K:k_} (h:W48 v0 v1 v2 H K):a_a Tryz.prog 48 [v0,v1,v2] H K:=
 a_a.of_wp (D:=D48) tO_ mixed Tryz.func48 (c:=bO_ Tryz.f48) (by kernel_rfl) rfl (by kernel_rfl) (rs:=#[.tmp 6]) rfl (by decide +kernel) (by kernel_rfl) (by kernel_rfl) h
def D49:Info:=⟨21,fun i=>([],[]),fun i=>if i=2 then ([1,2,9,10],[11]) else ([],[])⟩
def L49_0 (K:k_) (v1 v2:AV) (v9 v10 v11:AV) (H:Heap):Prop:=a_c (wpC Tryz.prog tab D49 (cAt [1,0,1,0,0] (bO_ Tryz.f49))) [1,2,9,10] (a_b.block 0 (a_b.thenA (wpC Tryz.prog tab D49 (cAt [1,1] (bO_ Tryz.f49))) (retF tab [.tmp 6] K))) [11] [Q_,v1,v2,Q_,Q_,Q_,Q_,Q_,Q_,v9,v10,v11,Q_,Q_,Q_,Q_,Q_,Q_,Q_,Q_,Q_] H
def B49_0 (K:k_) (N1:k_) (v1 v2:AV) (v9 v10 v11:AV) (H:Heap):Prop:=
 binV tab .lss 3 v11 v10 fun v12=>
 cV_ v12 (iA_ tab 24 v9 v11 fun v13=>
 lV_ tab 3 v13 H fun v14=>
 a_a Tryz.prog 48 [v14,v1,v2] H fun v18 H1=>
 unV .not v18 fun v19=>
 cV_ v19 (K (AV.p (.bool false)) H1)
 (binV tab .add 3 v11 (AV.p (.int .i64 1)) fun v20=>
 N1 v20 H1))
 (K (AV.p (.bool true)) H)
def W49 (v0 v1 v2:AV) (H:Heap) (K:k_):Prop:=
 lenV tab 24 v0 fun v10=>
 L49_0 K v1 v2 v0 v10 (AV.p (.int .i64 0)) H
theorem W49_ok {v0 v1 v2:AV} {H:Heap} {K:k_} (h:W49 v0 v1 v2 H K):a_a Tryz.prog 49 [v0,v1,v2] H K:=
 a_a.of_wp (D:=D49) tO_ mixed Tryz.func49 (c:=bO_ Tryz.f49) (by kernel_rfl) rfl (by kernel_rfl) (rs:=#[.tmp 6]) rfl (by decide +kernel) (by kernel_rfl) (by kernel_rfl) h
theorem L49_0_rule {K:k_} {v1 v2 v9 v10 v11:AV} {H:Heap} {σ:Type} (s0:σ) (f11:σ→AV) (TH:σ→Heap) (pre:σ→Prop) (μ:σ→Nat)
  (h0:pre s0∧AV.wk v11 (f11 s0)∧Heap.le (TH s0) H)
  (round:∀s,pre s→B49_0 K (fun w11 H'=>∃s',pre s'∧μ s' < μ s∧AV.wk w11 (f11 s')∧Heap.le (TH s') H') v1 v2 v9 v10 (f11 s) (TH s)) :
  L49_0 K v1 v2 v9 v10 v11 H:=by
 unfold L49_0
 exact a_c.mk s0 (fun s=>[f11 s]) TH pre μ (fun _=>rfl) (Eq.mp (by kernel_rfl) h0) (fun s hs=>Eq.mp (by kernel_rfl) (round s hs))
def D50:Info:=⟨80,fun i=>([],[]),fun i=>if i=4 then ([2,3,5,25,26],[6,27]) else if i=8 then ([2,3,5,6,8,25,26,27],[9,10]) else if i=11 then ([2,3,5,6,8,10,25,26,27,36,37],[9,38]) else if i=20 then ([14,69,70],[71]) else ([],[])⟩
def L50_0 (K:k_) (v2 v3:AV) (v5 v6:AV) (v25 v26 v27:AV) (H:Heap):Prop:=a_c (wpC Tryz.prog tab D50 (cAt [1,1,1,0,1,0,0] (bO_ Tryz.f50))) [2,3,5,25,26] (a_b.block 0 (a_b.thenA (wpC Tryz.prog tab D50 (cAt [1,1,1,1] (bO_ Tryz.f50))) (retF tab [.tmp 4] K))) [6,27] [Q_,Q_,v2,v3,Q_,v5,v6,Q_,Q_,Q_,Q_,Q_,Q_,Q_,Q_,Q_,Q_,Q_,Q_,Q_,Q_,Q_,Q_,Q_,Q_,v25,v26,v27,Q_,Q_,Q_,Q_,Q_,Q_,Q_,Q_,Q_,Q_,Q_,Q_,Q_,Q_,Q_,Q_,Q_,Q_,Q_,Q_,Q_,Q_,Q_,Q_,Q_,Q_,Q_,Q_,Q_,Q_,Q_,Q_,Q_,Q_,Q_,Q_,Q_,Q_,Q_,Q_,Q_,Q_,Q_,Q_,Q_,Q_,Q_,Q_,Q_,Q_,Q_,Q_] H
def L50_1 (K:k_) (N1:AV→k_) (v2 v3:AV) (v5 v6:AV) (v8 v9:AV) (v10 v25:AV) (v26 v27:AV) (H:Heap):Prop:=a_c (wpC Tryz.prog tab D50 (cAt [1,1,1,0,1,0,0,1,1,0,0,1,1,0,1,0,0] (bO_ Tryz.f50))) [2,3,5,6,8,25,26,27] (a_b.block 2 (a_b.thenA (wpC Tryz.prog tab D50 (cAt [1,1,1,0,1,0,0,1,1,0,0,1,1,1] (bO_ Tryz.f50))) (a_b.block 1 (a_b.thenA (wpC Tryz.prog tab D50 (cAt [1,1,1,0,1,0,0,1,1,1] (bO_ Tryz.f50))) (a_w (a_b.block 0 (a_b.thenA (wpC Tryz.prog tab D50 (cAt [1,1,1,1] (bO_ Tryz.f50))) (retF tab [.tmp 4] K))) (fun e h=>N1 (e 6) (e 27) h)))))) [9,10] [Q_,Q_,v2,v3,Q_,v5,v6,Q_,v8,v9,v10,Q_,Q_,Q_,Q_,Q_,Q_,Q_,Q_,Q_,Q_,Q_,Q_,Q_,Q_,v25,v26,v27,Q_,Q_,Q_,Q_,Q_,Q_,Q_,Q_,Q_,Q_,Q_,Q_,Q_,Q_,Q_,Q_,Q_,Q_,Q_,Q_,Q_,Q_,Q_,Q_,Q_,Q_,Q_,Q_,Q_,Q_,Q_,Q_,Q_,Q_,Q_,Q_,Q_,Q_,Q_,Q_,Q_,Q_,Q_,Q_,Q_,Q_,Q_,Q_,Q_,Q_,Q_,Q_] H
def L50_2 (K:k_) (N1:AV→k_) (N2:AV→k_) (v2 v3:AV) (v5 v6:AV) (v8 v9:AV) (v10 v25:AV) (v26 v27:AV) (v36 v37 v38:AV) (H:Heap):Prop:=a_c (wpC Tryz.prog tab D50 (cAt [1,1,1,0,1,0,0,1,1,0,0,1,1,0,1,0,0,1,0,0,1,0,0] (bO_ Tryz.f50))) [2,3,5,6,8,10,25,26,27,36,37] (a_b.block 4 (a_b.block 3 (a_b.thenA (wpC Tryz.prog tab D50 (cAt [1,1,1,0,1,0,0,1,1,0,0,1,1,0,1,0,0,1,1] (bO_ Tryz.f50))) (a_w (a_b.block 2 (a_b.thenA (wpC Tryz.prog tab D50 (cAt [1,1,1,0,1,0,0,1,1,0,0,1,1,1] (bO_ Tryz.f50))) (a_b.block 1 (a_b.thenA (wpC Tryz.prog tab D50 (cAt [1,1,1,0,1,0,0,1,1,1] (bO_ Tryz.f50))) (a_w (a_b.block 0 (a_b.thenA (wpC Tryz.prog tab D50 (cAt [1,1,1,1] (bO_ Tryz.f50))) (retF tab [.tmp 4] K))) (fun e h=>N1 (e 6) (e 27) h)))))) (fun e h=>N2 (e 9) (e 10) h))))) [9,38] [Q_,Q_,v2,v3,Q_,v5,v6,Q_,v8,v9,v10,Q_,Q_,Q_,Q_,Q_,Q_,Q_,Q_,Q_,Q_,Q_,Q_,Q_,Q_,v25,v26,v27,Q_,Q_,Q_,Q_,Q_,Q_,Q_,Q_,v36,v37,v38,Q_,Q_,Q_,Q_,Q_,Q_,Q_,Q_,Q_,Q_,Q_,Q_,Q_,Q_,Q_,Q_,Q_,Q_,Q_,Q_,Q_,Q_,Q_,Q_,Q_,Q_,Q_,Q_,Q_,Q_,Q_,Q_,Q_,Q_,Q_,Q_,Q_,Q_,Q_,Q_,Q_] H
def B50_2 (K:k_) (N1:AV→k_) (N2:AV→k_) (N3:AV→k_) (v2 v3:AV) (v5 v6:AV) (v8 v9:AV) (v10 v25:AV) (v26 v27:AV) (v36 v37 v38:AV) (H:Heap):Prop:=
 binV tab .lss 3 v38 v37 fun v39=>
 cV_ v39 (iA_ tab 24 v36 v38 fun v40=>
 lV_ tab 3 v40 H fun v41=>
 fA_ tab 28 v2 0 fun v44=>
 lV_ tab 3 v44 H fun v45=>
 binV tab .mul 3 v10 v45 fun v46=>
 binV tab .add 3 v46 v41 fun v48=>
 bS_ tab 24 1 [(0,v48)] H (wkK fun v49 H3=>
 aP_ tab 24 24 v9 v49 H3 (wkK fun v50 H4=>
 binV tab .add 3 v38 (AV.p (.int .i64 1)) fun v51=>
 N3 v50 v51 H4)))
 (binV tab .add 3 v10 (AV.p (.int .i64 1)) fun v35=>
 N2 v9 v35 H)
def B50_1 (K:k_) (N1:AV→k_) (N2:AV→k_) (v2 v3:AV) (v5 v6:AV) (v8 v9:AV) (v10 v25:AV) (v26 v27:AV) (H:Heap):Prop:=
 binV tab .lss 3 v10 v5 fun v33=>
 cV_ v33 (lenV tab 24 v8 fun v37=>
 L50_2 K N1 N2 v2 v3 v5 v6 v8 v9 v10 v25 v26 v27 v8 v37 (AV.p (.int .i64 0)) H)
 (bS_ tab 26 1 [(0,v9)] H (wkK fun v54 H5=>
 aP_ tab 26 26 v6 v54 H5 (wkK fun v55 H6=>
 binV tab .add 3 v27 (AV.p (.int .i64 1)) fun v56=>
 N1 v55 v56 H6)))
def L50_3 (K:k_) (v14 v69:AV) (v70 v71:AV) (H:Heap):Prop:=a_c (wpC Tryz.prog tab D50 (cAt [1,1,1,1,1,1,0,1,0,0] (bO_ Tryz.f50))) [14,69,70] (a_b.block 6 (a_b.thenA (wpC Tryz.prog tab D50 (cAt [1,1,1,1,1,1,1] (bO_ Tryz.f50))) (retF tab [.tmp 4] K))) [71] [Q_,Q_,Q_,Q_,Q_,Q_,Q_,Q_,Q_,Q_,Q_,Q_,Q_,Q_,v14,Q_,Q_,Q_,Q_,Q_,Q_,Q_,Q_,Q_,Q_,Q_,Q_,Q_,Q_,Q_,Q_,Q_,Q_,Q_,Q_,Q_,Q_,Q_,Q_,Q_,Q_,Q_,Q_,Q_,Q_,Q_,Q_,Q_,Q_,Q_,Q_,Q_,Q_,Q_,Q_,Q_,Q_,Q_,Q_,Q_,Q_,Q_,Q_,Q_,Q_,Q_,Q_,Q_,Q_,v69,v70,v71,Q_,Q_,Q_,Q_,Q_,Q_,Q_,Q_] H
def B50_3 (K:k_) (N1:k_) (v14 v69:AV) (v70 v71:AV) (H:Heap):Prop:=
 binV tab .lss 3 v71 v70 fun v72=>
 cV_ v72 (iA_ tab 24 v69 v71 fun v73=>
 lV_ tab 3 v73 H fun v74=>
 iA_ tab 87 v14 v74 fun v77=>
 lV_ tab 4 v77 H fun v78=>
 cV_ v78 (K (AV.p (.bool true)) H)
 (binV tab .add 3 v71 (AV.p (.int .i64 1)) fun v79=>
 N1 v79 H))
 (K (AV.p (.bool false)) H)
def B50_0 (K:k_) (N1:AV→k_) (v2 v3:AV) (v5 v6:AV) (v25 v26 v27:AV) (H:Heap):Prop:=
 binV tab .lss 3 v27 v26 fun v28=>
 cV_ v28 (iA_ tab 26 v25 v27 fun v29=>
 lV_ tab 24 v29 H fun v30=>
 L50_1 K N1 v2 v3 v5 v6 v30 (AV.p .nil) (AV.p (.int .i64 0)) v25 v26 v27 H)
 (lV_ tab 28 v2 H fun v57=>
 lV_ tab 31 v3 H fun v58=>
 a_a Tryz.prog 98 [v57,v58] H fun v59 H7=>
 lenV tab 26 v59 fun v61=>
 a_a Tryz.prog 66 [v59,v6] H7 fun v64 H8=>
 a_a Tryz.prog 99 [v61,v64] H8 fun v65 H9=>
 fA_ tab 28 v2 1 fun v67=>
 lV_ tab 24 v67 H9 fun v68=>
 a_a Tryz.prog 64 [v59,v68] H9 fun v69 H10=>
 lenV tab 24 v69 fun v70=>
 L50_3 K v65 v69 v70 (AV.p (.int .i64 0)) H10)
def W50 (v0 v1:AV) (H:Heap) (K:k_):Prop:=
 boxV v0 H fun v2 H1=>
 boxV v1 H1 fun v3 H2=>
 fA_ tab 31 v3 0 fun v17=>
 lV_ tab 24 v17 H2 fun v18=>
 lenV tab 24 v18 fun v19=>
 fA_ tab 31 v3 1 fun v20=>
 lV_ tab 24 v20 H2 fun v21=>
 lenV tab 24 v21 fun v22=>
 binV tab .add 3 v19 v22 fun v23=>
 fA_ tab 28 v2 3 fun v24=>
 lV_ tab 26 v24 H2 fun v25=>
 lenV tab 26 v25 fun v26=>
 L50_0 K v2 v3 v23 (AV.p .nil) v25 v26 (AV.p (.int .i64 0)) H2
theorem W50_ok {v0 v1:AV} {H:Heap} {K:k_} (h:W50 v0 v1 H K):a_a Tryz.prog 50 [v0,v1] H K:=
 a_a.of_wp (D:=D50) tO_ mixed Tryz.func50 (c:=bO_ Tryz.f50) (by kernel_rfl) rfl (by kernel_rfl) (rs:=#[.tmp 4]) rfl (by decide +kernel) (by kernel_rfl) (by kernel_rfl) h
theorem W50_hb:a_p Tryz.prog 50:=⟨_,bO_ Tryz.f50,Tryz.func50,by kernel_rfl,rfl⟩
theorem L50_2_rule {K:k_} {N1:AV→k_} {N2:AV→k_} {v2 v3 v5 v6 v8 v9 v10 v25 v26 v27 v36 v37 v38:AV} {H:Heap} {σ:Type} (s0:σ) (f9:σ→AV) (f38:σ→AV) (TH:σ→Heap) (pre:σ→Prop) (μ:σ→Nat)
  (h0:pre s0∧AV.wk v9 (f9 s0)∧AV.wk v38 (f38 s0)∧Heap.le (TH s0) H)
  (round:∀s,pre s→B50_2 K N1 N2 (fun w9 w38 H'=>∃s',pre s'∧μ s' < μ s∧AV.wk w9 (f9 s')∧AV.wk w38 (f38 s')∧Heap.le (TH s') H') v2 v3 v5 v6 v8 (f9 s) v10 v25 v26 v27 v36 v37 (f38 s) (TH s)) :
  L50_2 K N1 N2 v2 v3 v5 v6 v8 v9 v10 v25 v26 v27 v36 v37 v38 H:=by
 unfold L50_2
 exact a_c.mk s0 (fun s=>[f9 s,f38 s]) TH pre μ (fun _=>rfl) (Eq.mp (by kernel_rfl) h0) (fun s hs=>Eq.mp (by kernel_rfl) (round s hs))
theorem L50_1_rule {K:k_} {N1:AV→k_} {v2 v3 v5 v6 v8 v9 v10 v25 v26 v27:AV} {H:Heap} {σ:Type} (s0:σ) (f9:σ→AV) (f10:σ→AV) (TH:σ→Heap) (pre:σ→Prop) (μ:σ→Nat)
  (h0:pre s0∧AV.wk v9 (f9 s0)∧AV.wk v10 (f10 s0)∧Heap.le (TH s0) H)
  (round:∀s,pre s→B50_1 K N1 (fun w9 w10 H'=>∃s',pre s'∧μ s' < μ s∧AV.wk w9 (f9 s')∧AV.wk w10 (f10 s')∧Heap.le (TH s') H') v2 v3 v5 v6 v8 (f9 s) (f10 s) v25 v26 v27 (TH s)) :
  L50_1 K N1 v2 v3 v5 v6 v8 v9 v10 v25 v26 v27 H:=by
 unfold L50_1
 exact a_c.mk s0 (fun s=>[f9 s,f10 s]) TH pre μ (fun _=>rfl) (Eq.mp (by kernel_rfl) h0) (fun s hs=>Eq.mp (by kernel_rfl) (round s hs))
theorem L50_3_rule {K:k_} {v14 v69 v70 v71:AV} {H:Heap} {σ:Type} (s0:σ) (f71:σ→AV) (TH:σ→Heap) (pre:σ→Prop) (μ:σ→Nat)
  (h0:pre s0∧AV.wk v71 (f71 s0)∧Heap.le (TH s0) H)
  (round:∀s,pre s→B50_3 K (fun w71 H'=>∃s',pre s'∧μ s' < μ s∧AV.wk w71 (f71 s')∧Heap.le (TH s') H') v14 v69 v70 (f71 s) (TH s)) :
  L50_3 K v14 v69 v70 v71 H:=by
 unfold L50_3
 exact a_c.mk s0 (fun s=>[f71 s]) TH pre μ (fun _=>rfl) (Eq.mp (by kernel_rfl) h0) (fun s hs=>Eq.mp (by kernel_rfl) (round s hs))
theorem L50_0_ruleG {K:k_} {v2 v3 v5 v6 v25 v26 v27:AV} {H:Heap} {σ:Type} (s0:σ) (f6:σ→AV) (f27:σ→AV) (TH:σ→Heap) (pre:σ→Prop) (μ:σ→Nat)
  (h0:pre s0∧AV.wk v6 (f6 s0)∧AV.wk v27 (f27 s0)∧Heap.le (TH s0) H)
  (round:∀s,pre s→∀q,TH s q=none→B50_0 K (fun w6 w27 H'=>∃s',pre s'∧μ s' < μ s∧AV.wk w6 (f6 s')∧AV.wk w27 (f27 s')∧Heap.le (TH s') H') v2 v3 v5 (f6 s) v25 v26 (f27 s) ((TH s).set q [])) :
  L50_0 K v2 v3 v5 v6 v25 v26 v27 H:=by
 unfold L50_0
 exact a_c.mkG s0 (fun s=>[f6 s,f27 s]) TH pre μ (fun _=>rfl) (Eq.mp (by kernel_rfl) h0) (fun s hs q hq=>Eq.mp (by kernel_rfl) (round s hs q hq))
def D51:Info:=⟨31,fun i=>if i=1 then ([[],[0],[],[2],[2,3],[],[5],[2,3,4,5,6],[0,1,2,3,4,5,6,7],[],[0,1,2,3,4,5,6,7,8,9]],[(0,[]),(1,[]),(2,[]),(3,[]),(5,[]),(6,[]),(4,[1,6]),(7,[1]),(8,[]),(9,[]),(10,[])]) else if i=5 then ([[],[0],[],[2],[2,3],[0,1,2,3,4],[0,1,2,3,4,5],[0,1,2,3,4,5,6]],[(0,[]),(1,[]),(2,[]),(3,[1]),(4,[1]),(5,[]),(6,[]),(7,[])]) else ([],[]),fun i=>if i=3 then ([2,3,16,17],[18]) else ([],[])⟩
def L51_0 (K:k_) (v2 v3:AV) (v16 v17 v18:AV) (H:Heap):Prop:=a_c (wpC Tryz.prog tab D51 (cAt [1,1,0,1,0,0] (bO_ Tryz.f51))) [2,3,16,17] (a_b.block 0 (a_b.thenA (wpC Tryz.prog tab D51 (cAt [1,1,1] (bO_ Tryz.f51))) (retF tab [.cell 2 28] K))) [18] [Q_,Q_,v2,v3,Q_,Q_,Q_,Q_,Q_,Q_,Q_,Q_,Q_,Q_,Q_,Q_,v16,v17,v18,Q_,Q_,Q_,Q_,Q_,Q_,Q_,Q_,Q_,Q_,Q_,Q_] H
def B51_0 (K:k_) (N1:k_) (v2 v3:AV) (v16 v17 v18:AV) (H:Heap):Prop:=
 binV tab .lss 3 v18 v17 fun v19=>
 cV_ v19 (iA_ tab 26 v16 v18 fun v20=>
 lV_ tab 24 v20 H fun v21=>
 fA_ tab 28 v3 3 fun v22=>
 lV_ tab 26 v22 H fun v23=>
 a_a Tryz.prog 52 [v21] H fun v25 H7=>
 (lV_ tab 26 v22 H7 fun v9023=>
 v23=v9023)∧
 bS_ tab 26 1 [(0,v25)] H7 (wkK fun v26 H8=>
 (lV_ tab 26 v22 H8 fun v9023=>
 v23=v9023)∧
 aP_ tab 26 26 v23 v26 H8 (wkK fun v27 H9=>
 fA_ tab 28 v3 3 fun v28=>
 sV_ tab 26 v28 v27 H9 fun H10=>
 binV tab .add 3 v18 (AV.p (.int .i64 1)) fun v29=>
 N1 v29 H10)))
 (lV_ tab 28 v3 H fun v30=>
 sV_ tab 28 v2 v30 H fun H11=>
 lV_ tab 28 v2 H11 fun r0=>
 K r0 H11)
def W51 (v0:AV) (H:Heap) (K:k_):Prop:=
 boxV v0 H fun v1 H1=>
 a_d tab 28 H1 fun v2 H2=>
 fA_ tab 28 v1 0 fun v6=>
 lV_ tab 3 v6 H2 fun v7=>
 fA_ tab 28 v1 1 fun v8=>
 lV_ tab 24 v8 H2 fun v9=>
 fA_ tab 28 v1 2 fun v11=>
 lV_ tab 25 v11 H2 fun v12=>
 a_a Tryz.prog 52 [v9] H2 fun v10 H3=>
 (lV_ tab 3 v6 H3 fun v9007=>
 v7=v9007)∧
 (lV_ tab 25 v11 H3 fun v9012=>
 v12=v9012)∧
 a_a Tryz.prog 100 [v12] H3 fun v13 H4=>
 (lV_ tab 3 v6 H4 fun v9007=>
 v7=v9007)∧
 a_i tab 28 [(0,v7),(1,v10),(2,v13)] fun v14=>
 a_d tab 28 H4 fun v3 H5=>
 sV_ tab 28 v3 v14 H5 fun H6=>
 fA_ tab 28 v1 3 fun v15=>
 lV_ tab 26 v15 H6 fun v16=>
 lenV tab 26 v16 fun v17=>
 L51_0 K v2 v3 v16 v17 (AV.p (.int .i64 0)) H6
theorem W51_ok {v0:AV} {H:Heap} {K:k_} (h:W51 v0 H K):a_a Tryz.prog 51 [v0] H K:=
 a_a.of_wp (D:=D51) tO_ mixed Tryz.func51 (c:=bO_ Tryz.f51) (by kernel_rfl) rfl (by kernel_rfl) (rs:=#[.cell 2 28]) rfl (by decide +kernel) (by kernel_rfl) (by kernel_rfl) h
theorem W51_hb:a_p Tryz.prog 51:=⟨_,bO_ Tryz.f51,Tryz.func51,by kernel_rfl,rfl⟩
theorem L51_0_rule {K:k_} {v2 v3 v16 v17 v18:AV} {H:Heap} {σ:Type} (s0:σ) (f18:σ→AV) (TH:σ→Heap) (pre:σ→Prop) (μ:σ→Nat)
  (h0:pre s0∧AV.wk v18 (f18 s0)∧Heap.le (TH s0) H)
  (round:∀s,pre s→B51_0 K (fun w18 H'=>∃s',pre s'∧μ s' < μ s∧AV.wk w18 (f18 s')∧Heap.le (TH s') H') v2 v3 v16 v17 (f18 s) (TH s)) :
  L51_0 K v2 v3 v16 v17 v18 H:=by
 unfold L51_0
 exact a_c.mk s0 (fun s=>[f18 s]) TH pre μ (fun _=>rfl) (Eq.mp (by kernel_rfl) h0) (fun s hs=>Eq.mp (by kernel_rfl) (round s hs))
def D52:Info:=⟨8,fun i=>([],[]),fun i=>([],[])⟩
def W52 (v0:AV) (H:Heap) (K:k_):Prop:=
 binV tab .eql 24 v0 (AV.p .nil) fun v4=>
 cV_ v4 (K (AV.p .nil) H)
 (bS_ tab 24 0 [] H (wkK fun v5 H1=>
 aP_ tab 24 24 v5 v0 H1 (wkK fun v7 H2=>
 K v7 H2)))
theorem W52_ok {v0:AV} {H:Heap} {K:k_} (h:W52 v0 H K):a_a Tryz.prog 52 [v0] H K:=
 a_a.of_wp (D:=D52) tO_ mixed Tryz.func52 (c:=bO_ Tryz.f52) (by kernel_rfl) rfl (by kernel_rfl) (rs:=#[.tmp 2]) rfl (by decide +kernel) (by kernel_rfl) (by kernel_rfl) h
theorem W52_hb:a_p Tryz.prog 52:=⟨_,bO_ Tryz.f52,Tryz.func52,by kernel_rfl,rfl⟩
def D53:Info:=⟨18,fun i=>([],[]),fun i=>([],[])⟩
def W53 (v0 v1:AV) (H:Heap) (K:k_):Prop:=
 boxV v0 H fun v2 H1=>
 fA_ tab 28 v2 3 fun v6=>
 lV_ tab 26 v6 H1 fun v7=>
 lenV tab 26 v7 fun v8=>
 binV tab .lss 3 v1 v8 fun v9=>
 cV_ v9 (fA_ tab 28 v2 3 fun v10=>
 lV_ tab 26 v10 H1 fun v11=>
 iA_ tab 26 v11 v1 fun v13=>
 lV_ tab 24 v13 H1 fun v14=>
 K v14 H1)
 (fA_ tab 28 v2 0 fun v15=>
 lV_ tab 3 v15 H1 fun v16=>
 a_a Tryz.prog 101 [v16] H1 fun v17 H2=>
 K v17 H2)
theorem W53_ok {v0 v1:AV} {H:Heap} {K:k_} (h:W53 v0 v1 H K):a_a Tryz.prog 53 [v0,v1] H K:=
 a_a.of_wp (D:=D53) tO_ mixed Tryz.func53 (c:=bO_ Tryz.f53) (by kernel_rfl) rfl (by kernel_rfl) (rs:=#[.tmp 4]) rfl (by decide +kernel) (by kernel_rfl) (by kernel_rfl) h
def D54:Info:=⟨9,fun i=>([],[]),fun i=>([],[])⟩
def W54 (v0 v1:AV) (H:Heap) (K:k_):Prop:=
 a_a Tryz.prog 102 [v0,v1] H fun v7 H1=>
 binV tab .geq 3 v7 (AV.p (.int .i64 0)) fun v8=>
 K v8 H1
theorem W54_ok {v0 v1:AV} {H:Heap} {K:k_} (h:W54 v0 v1 H K):a_a Tryz.prog 54 [v0,v1] H K:=
 a_a.of_wp (D:=D54) tO_ mixed Tryz.func54 (c:=bO_ Tryz.f54) (by kernel_rfl) rfl (by kernel_rfl) (rs:=#[.tmp 4]) rfl (by decide +kernel) (by kernel_rfl) (by kernel_rfl) h
def D55:Info:=⟨9,fun i=>([],[]),fun i=>([],[])⟩
def W55 (v0:AV) (H:Heap) (K:k_):Prop:=
 boxV v0 H fun v1 H1=>
 a_d tab 28 H1 fun v2 H2=>
 lV_ tab 28 v1 H2 fun v4=>
 a_a Tryz.prog 29 [v4] H2 fun v5 H3=>
 unV .not v5 fun v6=>
 cV_ v6 (a_i tab 28 [] fun v7=>
 sV_ tab 28 v2 v7 H3 fun H4=>
 lV_ tab 28 v2 H4 fun r0=>
 K (.tup [r0,(AV.p (.bool false))]) H4)
 (lV_ tab 28 v1 H3 fun v8=>
 sV_ tab 28 v2 v8 H3 fun H5=>
 lV_ tab 28 v2 H5 fun r0=>
 K (.tup [r0,(AV.p (.bool true))]) H5)
theorem W55_ok {v0:AV} {H:Heap} {K:k_} (h:W55 v0 H K):a_a Tryz.prog 55 [v0] H K:=
 a_a.of_wp (D:=D55) tO_ mixed Tryz.func55 (c:=bO_ Tryz.f55) (by kernel_rfl) rfl (by kernel_rfl) (rs:=#[.cell 2 28,.tmp 3]) rfl (by decide +kernel) (by kernel_rfl) (by kernel_rfl) h
def D56:Info:=⟨32,fun i=>if i=1 then ([[],[0],[],[2],[2,3],[],[],[6],[2,3,4,5,6,7],[0,1,2,3,4,5,6,7,8],[],[0,1,2,3,4,5,6,7,8,9,10]],[(0,[]),(1,[]),(2,[]),(3,[]),(6,[]),(7,[]),(4,[5,1,7]),(5,[5]),(8,[1]),(9,[]),(10,[]),(11,[])]) else if i=5 then ([[],[0],[],[2],[2,3],[0,1,2,3,4],[0,1,2,3,4,5],[0,1,2,3,4,5,6]],[(0,[]),(1,[]),(2,[]),(3,[1]),(4,[1]),(5,[]),(6,[]),(7,[])]) else ([],[]),fun i=>if i=3 then ([2,3,17,18],[19]) else ([],[])⟩
def L56_0 (K:k_) (v2 v3:AV) (v17 v18 v19:AV) (H:Heap):Prop:=a_c (wpC Tryz.prog tab D56 (cAt [1,1,0,1,0,0] (bO_ Tryz.f56))) [2,3,17,18] (a_b.block 0 (a_b.thenA (wpC Tryz.prog tab D56 (cAt [1,1,1] (bO_ Tryz.f56))) (retF tab [.cell 2 28] K))) [19] [Q_,Q_,v2,v3,Q_,Q_,Q_,Q_,Q_,Q_,Q_,Q_,Q_,Q_,Q_,Q_,Q_,v17,v18,v19,Q_,Q_,Q_,Q_,Q_,Q_,Q_,Q_,Q_,Q_,Q_,Q_] H
def B56_0 (K:k_) (N1:k_) (v2 v3:AV) (v17 v18 v19:AV) (H:Heap):Prop:=
 binV tab .lss 3 v19 v18 fun v20=>
 cV_ v20 (iA_ tab 26 v17 v19 fun v21=>
 lV_ tab 24 v21 H fun v22=>
 fA_ tab 28 v3 3 fun v23=>
 lV_ tab 26 v23 H fun v24=>
 a_a Tryz.prog 38 [v22] H fun v26 H8=>
 (lV_ tab 26 v23 H8 fun v9024=>
 v24=v9024)∧
 bS_ tab 26 1 [(0,v26)] H8 (wkK fun v27 H9=>
 (lV_ tab 26 v23 H9 fun v9024=>
 v24=v9024)∧
 aP_ tab 26 26 v24 v27 H9 (wkK fun v28 H10=>
 fA_ tab 28 v3 3 fun v29=>
 sV_ tab 26 v29 v28 H10 fun H11=>
 binV tab .add 3 v19 (AV.p (.int .i64 1)) fun v30=>
 N1 v30 H11)))
 (lV_ tab 28 v3 H fun v31=>
 sV_ tab 28 v2 v31 H fun H12=>
 lV_ tab 28 v2 H12 fun r0=>
 K r0 H12)
def W56 (v0:AV) (H:Heap) (K:k_):Prop:=
 boxV v0 H fun v1 H1=>
 a_d tab 28 H1 fun v2 H2=>
 fA_ tab 28 v1 0 fun v6=>
 lV_ tab 3 v6 H2 fun v7=>
 fA_ tab 28 v1 1 fun v8=>
 lV_ tab 24 v8 H2 fun v9=>
 fA_ tab 28 v1 2 fun v12=>
 lV_ tab 25 v12 H2 fun v13=>
 b_g (b_f tab 25 0 [])∧
 a_a Tryz.prog 38 [v9] H2 fun v10 H3=>
 (lV_ tab 3 v6 H3 fun v9007=>
 v7=v9007)∧
 (lV_ tab 25 v12 H3 fun v9013=>
 v13=v9013)∧
 newV (b_f tab 25 0 []) H3 fun v11 H4=>
 aP_ tab 25 25 v11 v13 H4 (wkK fun v14 H5=>
 (lV_ tab 3 v6 H5 fun v9007=>
 v7=v9007)∧
 a_i tab 28 [(0,v7),(1,v10),(2,v14)] fun v15=>
 a_d tab 28 H5 fun v3 H6=>
 sV_ tab 28 v3 v15 H6 fun H7=>
 fA_ tab 28 v1 3 fun v16=>
 lV_ tab 26 v16 H7 fun v17=>
 lenV tab 26 v17 fun v18=>
 L56_0 K v2 v3 v17 v18 (AV.p (.int .i64 0)) H7)
theorem W56_ok {v0:AV} {H:Heap} {K:k_} (h:W56 v0 H K):a_a Tryz.prog 56 [v0] H K:=
 a_a.of_wp (D:=D56) tO_ mixed Tryz.func56 (c:=bO_ Tryz.f56) (by kernel_rfl) rfl (by kernel_rfl) (rs:=#[.cell 2 28]) rfl (by decide +kernel) (by kernel_rfl) (by kernel_rfl) h
theorem W56_hb:a_p Tryz.prog 56:=⟨_,bO_ Tryz.f56,Tryz.func56,by kernel_rfl,rfl⟩
theorem L56_0_rule {K:k_} {v2 v3 v17 v18 v19:AV} {H:Heap} {σ:Type} (s0:σ) (f19:σ→AV) (TH:σ→Heap) (pre:σ→Prop) (μ:σ→Nat)
  (h0:pre s0∧AV.wk v19 (f19 s0)∧Heap.le (TH s0) H)
  (round:∀s,pre s→B56_0 K (fun w19 H'=>∃s',pre s'∧μ s' < μ s∧AV.wk w19 (f19 s')∧Heap.le (TH s') H') v2 v3 v17 v18 (f19 s) (TH s)) :
  L56_0 K v2 v3 v17 v18 v19 H:=by
 unfold L56_0
 exact a_c.mk s0 (fun s=>[f19 s]) TH pre μ (fun _=>rfl) (Eq.mp (by kernel_rfl) h0) (fun s hs=>Eq.mp (by kernel_rfl) (round s hs))
end Go.Proofs.YtohkciilfkhomaaGreat
namespace Go.Proofs.YtohkciilfkhomaaGreat
open Go Go.Sep
attribute [local irreducible] wpC b_2
def D57:Info:=⟨15,fun i=>([],[]),fun i=>if i=3 then ([0],[3,4]) else ([],[])⟩
def L57_0 (K:k_) (v0 v3 v4:AV) (H:Heap):Prop:=a_c (wpC Tryz.prog tab D57 (cAt [1,1,0,1,0,0] (bO_ Tryz.f57))) [0] (a_b.block 0 (a_b.thenA (wpC Tryz.prog tab D57 (cAt [1,1,1] (bO_ Tryz.f57))) (retF tab [.tmp 2] K))) [3,4] [v0,Q_,Q_,v3,v4,Q_,Q_,Q_,Q_,Q_,Q_,Q_,Q_,Q_,Q_] H
def B57_0 (K:k_) (N1:AV→k_) (v0 v3 v4:AV) (H:Heap):Prop:=
 binV tab .lss 3 v4 v0 fun v7=>
 cV_ v7 (bS_ tab 24 1 [(0,v4)] H (wkK fun v12 H1=>
 aP_ tab 24 24 v3 v12 H1 (wkK fun v13 H2=>
 binV tab .add 3 v4 (AV.p (.int .i64 1)) fun v9=>
 N1 v13 v9 H2)))
 (K v3 H)
def W57 (v0:AV) (H:Heap) (K:k_):Prop:=
 L57_0 K v0 (AV.p .nil) (AV.p (.int .i64 0)) H
theorem W57_ok {v0:AV} {H:Heap} {K:k_} (h:W57 v0 H K):a_a Tryz.prog 57 [v0] H K:=
 a_a.of_wp (D:=D57) tO_ mixed Tryz.func57 (c:=bO_ Tryz.f57) (by kernel_rfl) rfl (by kernel_rfl) (rs:=#[.tmp 2]) rfl (by decide +kernel) (by kernel_rfl) (by kernel_rfl) h
theorem W57_hb:a_p Tryz.prog 57:=⟨_,bO_ Tryz.f57,Tryz.func57,by kernel_rfl,rfl⟩
theorem L57_0_rule {K:k_} {v0 v3 v4:AV} {H:Heap} {σ:Type} (s0:σ) (f3:σ→AV) (f4:σ→AV) (TH:σ→Heap) (pre:σ→Prop) (μ:σ→Nat)
  (h0:pre s0∧AV.wk v3 (f3 s0)∧AV.wk v4 (f4 s0)∧Heap.le (TH s0) H)
  (round:∀s,pre s→B57_0 K (fun w3 w4 H'=>∃s',pre s'∧μ s' < μ s∧AV.wk w3 (f3 s')∧AV.wk w4 (f4 s')∧Heap.le (TH s') H') v0 (f3 s) (f4 s) (TH s)) :
  L57_0 K v0 v3 v4 H:=by
 unfold L57_0
 exact a_c.mk s0 (fun s=>[f3 s,f4 s]) TH pre μ (fun _=>rfl) (Eq.mp (by kernel_rfl) h0) (fun s hs=>Eq.mp (by kernel_rfl) (round s hs))
def D58:Info:=⟨17,fun i=>([],[]),fun i=>if i=2 then ([1,7,8],[9]) else ([],[])⟩
def L58_0 (K:k_) (v1 v7:AV) (v8 v9:AV) (H:Heap):Prop:=a_c (wpC Tryz.prog tab D58 (cAt [1,0,1,0,0] (bO_ Tryz.f58))) [1,7,8] (a_b.block 0 (a_b.thenA (wpC Tryz.prog tab D58 (cAt [1,1] (bO_ Tryz.f58))) (retF tab [.tmp 4] K))) [9] [Q_,v1,Q_,Q_,Q_,Q_,Q_,v7,v8,v9,Q_,Q_,Q_,Q_,Q_,Q_,Q_] H
def B58_0 (K:k_) (N1:k_) (v1 v7:AV) (v8 v9:AV) (H:Heap):Prop:=
 binV tab .lss 3 v9 v8 fun v10=>
 cV_ v10 (iA_ tab 24 v7 v9 fun v11=>
 lV_ tab 3 v11 H fun v12=>
 binV tab .eql 3 v12 v1 fun v15=>
 cV_ v15 (K (AV.p (.bool true)) H)
 (binV tab .add 3 v9 (AV.p (.int .i64 1)) fun v16=>
 N1 v16 H))
 (K (AV.p (.bool false)) H)
def W58 (v0 v1:AV) (H:Heap) (K:k_):Prop:=
 lenV tab 24 v0 fun v8=>
 L58_0 K v1 v0 v8 (AV.p (.int .i64 0)) H
theorem W58_ok {v0 v1:AV} {H:Heap} {K:k_} (h:W58 v0 v1 H K):a_a Tryz.prog 58 [v0,v1] H K:=
 a_a.of_wp (D:=D58) tO_ mixed Tryz.func58 (c:=bO_ Tryz.f58) (by kernel_rfl) rfl (by kernel_rfl) (rs:=#[.tmp 4]) rfl (by decide +kernel) (by kernel_rfl) (by kernel_rfl) h
theorem e_4 {K:k_} {v1 v7 v8 v9:AV} {H:Heap} {σ:Type} (s0:σ) (f9:σ→AV) (TH:σ→Heap) (pre:σ→Prop) (μ:σ→Nat)
  (h0:pre s0∧AV.wk v9 (f9 s0)∧Heap.le (TH s0) H)
  (round:∀s,pre s→B58_0 K (fun w9 H'=>∃s',pre s'∧μ s' < μ s∧AV.wk w9 (f9 s')∧Heap.le (TH s') H') v1 v7 v8 (f9 s) (TH s)) :
  L58_0 K v1 v7 v8 v9 H:=by
 unfold L58_0
 exact a_c.mk s0 (fun s=>[f9 s]) TH pre μ (fun _=>rfl) (Eq.mp (by kernel_rfl) h0) (fun s hs=>Eq.mp (by kernel_rfl) (round s hs))
def D59:Info:=⟨9,fun i=>([],[]),fun i=>([],[])⟩
def W59 (v0:AV) (H:Heap) (K:k_):Prop:=
 boxV v0 H fun v1 H1=>
 a_d tab 28 H1 fun v2 H2=>
 lV_ tab 28 v1 H2 fun v4=>
 a_a Tryz.prog 35 [v4] H2 fun v5 H3=>
 unV .not v5 fun v6=>
 cV_ v6 (a_i tab 28 [] fun v7=>
 sV_ tab 28 v2 v7 H3 fun H4=>
 lV_ tab 28 v2 H4 fun r0=>
 K (.tup [r0,(AV.p (.bool false))]) H4)
 (lV_ tab 28 v1 H3 fun v8=>
 sV_ tab 28 v2 v8 H3 fun H5=>
 lV_ tab 28 v2 H5 fun r0=>
 K (.tup [r0,(AV.p (.bool true))]) H5)
theorem W59_ok {v0:AV} {H:Heap} {K:k_} (h:W59 v0 H K):a_a Tryz.prog 59 [v0] H K:=
 a_a.of_wp (D:=D59) tO_ mixed Tryz.func59 (c:=bO_ Tryz.f59) (by kernel_rfl) rfl (by kernel_rfl) (rs:=#[.cell 2 28,.tmp 3]) rfl (by decide +kernel) (by kernel_rfl) (by kernel_rfl) h
def D60:Info:=⟨64,fun i=>([],[]),fun i=>if i=4 then ([0,5,6,17,18],[19]) else if i=8 then ([0,5],[6]) else if i=11 then ([0,5,37,38],[6,39]) else ([],[])⟩
def L60_0 (K:k_) (v0 v5:AV) (v6 v17:AV) (v18 v19:AV) (H:Heap):Prop:=a_c (wpC Tryz.prog tab D60 (cAt [1,1,1,0,1,0,0] (bO_ Tryz.f60))) [0,5,6,17,18] (a_b.block 0 (a_b.thenA (wpC Tryz.prog tab D60 (cAt [1,1,1,1] (bO_ Tryz.f60))) (retF tab [.tmp 4] K))) [19] [v0,Q_,Q_,Q_,Q_,v5,v6,Q_,Q_,Q_,Q_,Q_,Q_,Q_,Q_,Q_,Q_,v17,v18,v19,Q_,Q_,Q_,Q_,Q_,Q_,Q_,Q_,Q_,Q_,Q_,Q_,Q_,Q_,Q_,Q_,Q_,Q_,Q_,Q_,Q_,Q_,Q_,Q_,Q_,Q_,Q_,Q_,Q_,Q_,Q_,Q_,Q_,Q_,Q_,Q_,Q_,Q_,Q_,Q_,Q_,Q_,Q_,Q_] H
def L60_1 (K:k_) (v0 v5 v6:AV) (H:Heap):Prop:=a_c (wpC Tryz.prog tab D60 (cAt [1,1,1,1,0,0,0] (bO_ Tryz.f60))) [0,5] (a_b.block 2 (a_b.thenA (wpC Tryz.prog tab D60 (cAt [1,1,1,1,1] (bO_ Tryz.f60))) (retF tab [.tmp 4] K))) [6] [v0,Q_,Q_,Q_,Q_,v5,v6,Q_,Q_,Q_,Q_,Q_,Q_,Q_,Q_,Q_,Q_,Q_,Q_,Q_,Q_,Q_,Q_,Q_,Q_,Q_,Q_,Q_,Q_,Q_,Q_,Q_,Q_,Q_,Q_,Q_,Q_,Q_,Q_,Q_,Q_,Q_,Q_,Q_,Q_,Q_,Q_,Q_,Q_,Q_,Q_,Q_,Q_,Q_,Q_,Q_,Q_,Q_,Q_,Q_,Q_,Q_,Q_,Q_] H
def L60_2 (K:k_) (N1:k_) (v0 v5:AV) (v6 v37:AV) (v38 v39:AV) (H:Heap):Prop:=a_c (wpC Tryz.prog tab D60 (cAt [1,1,1,1,0,0,0,1,0,0,1,0,0] (bO_ Tryz.f60))) [0,5,37,38] (a_b.block 4 (a_b.block 3 (a_b.thenA (wpC Tryz.prog tab D60 (cAt [1,1,1,1,0,0,0,1,1] (bO_ Tryz.f60))) (a_w (a_b.block 2 (a_b.thenA (wpC Tryz.prog tab D60 (cAt [1,1,1,1,1] (bO_ Tryz.f60))) (retF tab [.tmp 4] K))) (fun e h=>N1 (e 6) h))))) [6,39] [v0,Q_,Q_,Q_,Q_,v5,v6,Q_,Q_,Q_,Q_,Q_,Q_,Q_,Q_,Q_,Q_,Q_,Q_,Q_,Q_,Q_,Q_,Q_,Q_,Q_,Q_,Q_,Q_,Q_,Q_,Q_,Q_,Q_,Q_,Q_,Q_,v37,v38,v39,Q_,Q_,Q_,Q_,Q_,Q_,Q_,Q_,Q_,Q_,Q_,Q_,Q_,Q_,Q_,Q_,Q_,Q_,Q_,Q_,Q_,Q_,Q_,Q_] H
def B60_2 (K:k_) (N1:k_) (N2:AV→k_) (v0 v5:AV) (v6 v37:AV) (v38 v39:AV) (H:Heap):Prop:=
 binV tab .lss 3 v39 v38 fun v40=>
 cV_ v40 (iA_ tab 24 v37 v39 fun v41=>
 lV_ tab 3 v41 H fun v42=>
 iA_ tab 24 v5 v42 fun v45=>
 lV_ tab 3 v45 H fun v46=>
 binV tab .lss 3 v46 (AV.p (.int .i64 0)) fun v47=>
 cV_ v47 (iA_ tab 24 v6 (AV.p (.int .i64 0)) fun v52=>
 lV_ tab 3 v52 H fun v53=>
 iA_ tab 24 v5 v53 fun v54=>
 lV_ tab 3 v54 H fun v55=>
 binV tab .add 3 v55 (AV.p (.int .i64 1)) fun v56=>
 iA_ tab 24 v5 v42 fun v57=>
 sV_ tab 3 v57 v56 H fun H5=>
 bS_ tab 24 1 [(0,v42)] H5 (wkK fun v60 H6=>
 aP_ tab 24 24 v6 v60 H6 (wkK fun v61 H7=>
 binV tab .add 3 v39 (AV.p (.int .i64 1)) fun v62=>
 N2 v61 v62 H7)))
 (binV tab .add 3 v39 (AV.p (.int .i64 1)) fun v62=>
 N2 v6 v62 H))
 (a_z tab 24 v6 (some (AV.p (.int .i64 1))) none none fun v31=>
 N1 v31 H)
def B60_1 (K:k_) (N1:k_) (v0 v5 v6:AV) (H:Heap):Prop:=
 lenV tab 24 v6 fun v28=>
 binV tab .gtr 3 v28 (AV.p (.int .i64 0)) fun v29=>
 cV_ v29 (iA_ tab 24 v6 (AV.p (.int .i64 0)) fun v34=>
 lV_ tab 3 v34 H fun v35=>
 iA_ tab 26 v0 v35 fun v36=>
 lV_ tab 24 v36 H fun v37=>
 lenV tab 24 v37 fun v38=>
 L60_2 K N1 v0 v5 v6 v37 v38 (AV.p (.int .i64 0)) H)
 (K v5 H)
def B60_0 (K:k_) (N1:k_) (v0 v5:AV) (v6 v17:AV) (v18 v19:AV) (H:Heap):Prop:=
 binV tab .lss 3 v19 v18 fun v20=>
 cV_ v20 (iA_ tab 24 v17 v19 fun v21=>
 lV_ tab 3 v21 H fun v22=>
 iA_ tab 24 v5 v22 fun v25=>
 sV_ tab 3 v25 (AV.p (.int .i64 0)) H fun H4=>
 binV tab .add 3 v19 (AV.p (.int .i64 1)) fun v26=>
 N1 v26 H4)
 (L60_1 K v0 v5 v6 H)
def W60 (v0 v1:AV) (H:Heap) (K:k_):Prop:=
 bS_ tab 24 1 [(0,(AV.p (.int .i64 (-1))))] H (wkK fun v11 H1=>
 lenV tab 26 v0 fun v13=>
 a_a Tryz.prog 61 [v11,v13] H1 fun v14 H2=>
 a_a Tryz.prog 52 [v1] H2 fun v16 H3=>
 lenV tab 24 v1 fun v18=>
 L60_0 K v0 v14 v16 v1 v18 (AV.p (.int .i64 0)) H3)
theorem W60_ok {v0 v1:AV} {H:Heap} {K:k_} (h:W60 v0 v1 H K):a_a Tryz.prog 60 [v0,v1] H K:=
 a_a.of_wp (D:=D60) tO_ mixed Tryz.func60 (c:=bO_ Tryz.f60) (by kernel_rfl) rfl (by kernel_rfl) (rs:=#[.tmp 4]) rfl (by decide +kernel) (by kernel_rfl) (by kernel_rfl) h
theorem L60_2_rule {K:k_} {N1:k_} {v0 v5 v6 v37 v38 v39:AV} {H:Heap} {σ:Type} (s0:σ) (f6:σ→AV) (f39:σ→AV) (TH:σ→Heap) (pre:σ→Prop) (μ:σ→Nat)
  (h0:pre s0∧AV.wk v6 (f6 s0)∧AV.wk v39 (f39 s0)∧Heap.le (TH s0) H)
  (round:∀s,pre s→B60_2 K N1 (fun w6 w39 H'=>∃s',pre s'∧μ s' < μ s∧AV.wk w6 (f6 s')∧AV.wk w39 (f39 s')∧Heap.le (TH s') H') v0 v5 (f6 s) v37 v38 (f39 s) (TH s)) :
  L60_2 K N1 v0 v5 v6 v37 v38 v39 H:=by
 unfold L60_2
 exact a_c.mk s0 (fun s=>[f6 s,f39 s]) TH pre μ (fun _=>rfl) (Eq.mp (by kernel_rfl) h0) (fun s hs=>Eq.mp (by kernel_rfl) (round s hs))
theorem L60_1_rule {K:k_} {v0 v5 v6:AV} {H:Heap} {σ:Type} (s0:σ) (f6:σ→AV) (TH:σ→Heap) (pre:σ→Prop) (μ:σ→Nat)
  (h0:pre s0∧AV.wk v6 (f6 s0)∧Heap.le (TH s0) H)
  (round:∀s,pre s→B60_1 K (fun w6 H'=>∃s',pre s'∧μ s' < μ s∧AV.wk w6 (f6 s')∧Heap.le (TH s') H') v0 v5 (f6 s) (TH s)) :
  L60_1 K v0 v5 v6 H:=by
 unfold L60_1
 exact a_c.mk s0 (fun s=>[f6 s]) TH pre μ (fun _=>rfl) (Eq.mp (by kernel_rfl) h0) (fun s hs=>Eq.mp (by kernel_rfl) (round s hs))
theorem L60_0_rule {K:k_} {v0 v5 v6 v17 v18 v19:AV} {H:Heap} {σ:Type} (s0:σ) (f19:σ→AV) (TH:σ→Heap) (pre:σ→Prop) (μ:σ→Nat)
  (h0:pre s0∧AV.wk v19 (f19 s0)∧Heap.le (TH s0) H)
  (round:∀s,pre s→B60_0 K (fun w19 H'=>∃s',pre s'∧μ s' < μ s∧AV.wk w19 (f19 s')∧Heap.le (TH s') H') v0 v5 v6 v17 v18 (f19 s) (TH s)) :
  L60_0 K v0 v5 v6 v17 v18 v19 H:=by
 unfold L60_0
 exact a_c.mk s0 (fun s=>[f19 s]) TH pre μ (fun _=>rfl) (Eq.mp (by kernel_rfl) h0) (fun s hs=>Eq.mp (by kernel_rfl) (round s hs))
def D61:Info:=⟨48,fun i=>if i=9 then ([[],[],[],[1,2],[],[],[4,5],[1,2,3,4,5,6],[0,1,2,3,4,5,6,7],[0,1,2,3,4,5,6,7,8]],[(0,[]),(1,[]),(2,[]),(3,[]),(4,[]),(5,[]),(6,[]),(7,[]),(8,[]),(9,[])]) else ([],[]),fun i=>if i=8 then ([7],[8]) else ([],[])⟩
def L61_0 (K:k_) (v7 v8:AV) (H:Heap):Prop:=a_c (wpC Tryz.prog tab D61 (cAt [1,1,1,1,1,1,0,0,0] (bO_ Tryz.f61))) [7] (a_b.block 0 (a_b.thenA (wpC Tryz.prog tab D61 (cAt [1,1,1,1,1,1,1] (bO_ Tryz.f61))) (retF tab [.tmp 4] K))) [8] [Q_,Q_,Q_,Q_,Q_,Q_,Q_,v7,v8,Q_,Q_,Q_,Q_,Q_,Q_,Q_,Q_,Q_,Q_,Q_,Q_,Q_,Q_,Q_,Q_,Q_,Q_,Q_,Q_,Q_,Q_,Q_,Q_,Q_,Q_,Q_,Q_,Q_,Q_,Q_,Q_,Q_,Q_,Q_,Q_,Q_,Q_,Q_] H
def B61_0 (K:k_) (N1:k_) (v7 v8:AV) (H:Heap):Prop:=
 lenV tab 24 v7 fun v36=>
 binV tab .lss 3 v8 v36 fun v37=>
 cV_ v37 (a_z tab 24 v7 (some v8) none none fun v41=>
 a_z tab 24 v7 none (some v8) none fun v44=>
 c_P tab 24 v41 v44 H fun v45 H4=>
 binV tab .add 3 v8 v45 fun v46=>
 N1 v46 H4)
 (K v7 H)
def W61 (v0 v1:AV) (H:Heap) (K:k_):Prop:=
 binV tab .lss 3 v1 (AV.p (.int .i64 0)) fun v10=>
 cV_ v10 (False)
 (lenV tab 24 v0 fun v14=>
 c_O tab 3 109 v14 fun v15=>
 c_O tab 3 109 v1 fun v17=>
 a_a Tryz.prog 103 [v15,v17] H fun v18 H1=>
 xV_ v18 0 fun v19=>
 xV_ v18 1 fun v20=>
 binV tab .gtr 109 v19 (AV.p (.int .u64 0)) fun v22=>
 grdV v22 false (binV tab .gtr 109 v20 (AV.p (.int .u64 9223372036854775807)) fun v25=>
 cV_ v25 (False)
 (c_O tab 109 3 v20 fun v29=>
 mS_ tab 24 v29 v29 H1 fun v30 H2=>
 c_P tab 24 v30 v0 H2 fun v33 H3=>
 L61_0 K v30 v33 H3))
 (False))
theorem W61_ok {v0 v1:AV} {H:Heap} {K:k_} (h:W61 v0 v1 H K):a_a Tryz.prog 61 [v0,v1] H K:=
 a_a.of_wp (D:=D61) tO_ mixed Tryz.func61 (c:=bO_ Tryz.f61) (by kernel_rfl) rfl (by kernel_rfl) (rs:=#[.tmp 4]) rfl (by decide +kernel) (by kernel_rfl) (by kernel_rfl) h
theorem L61_0_rule {K:k_} {v7 v8:AV} {H:Heap} {σ:Type} (s0:σ) (f8:σ→AV) (TH:σ→Heap) (pre:σ→Prop) (μ:σ→Nat)
  (h0:pre s0∧AV.wk v8 (f8 s0)∧Heap.le (TH s0) H)
  (round:∀s,pre s→B61_0 K (fun w8 H'=>∃s',pre s'∧μ s' < μ s∧AV.wk w8 (f8 s')∧Heap.le (TH s') H') v7 (f8 s) (TH s)) :
  L61_0 K v7 v8 H:=by
 unfold L61_0
 exact a_c.mk s0 (fun s=>[f8 s]) TH pre μ (fun _=>rfl) (Eq.mp (by kernel_rfl) h0) (fun s hs=>Eq.mp (by kernel_rfl) (round s hs))
def D62:Info:=⟨12,fun i=>([],[]),fun i=>([],[])⟩
def W62 (v0 v1:AV) (H:Heap) (K:k_):Prop:=
 a_a Tryz.prog 105 [v0] H fun v6 H1=>
 a_a Tryz.prog 94 [v0,v1] H1 fun v9 H2=>
 a_a Tryz.prog 72 [v9] H2 fun v10 H3=>
 a_a Tryz.prog 104 [v6,v10] H3 fun v11 H4=>
 K v11 H4
theorem W62_ok {v0 v1:AV} {H:Heap} {K:k_} (h:W62 v0 v1 H K):a_a Tryz.prog 62 [v0,v1] H K:=
 a_a.of_wp (D:=D62) tO_ mixed Tryz.func62 (c:=bO_ Tryz.f62) (by kernel_rfl) rfl (by kernel_rfl) (rs:=#[.tmp 4]) rfl (by decide +kernel) (by kernel_rfl) (by kernel_rfl) h
def D63:Info:=⟨28,fun i=>([],[]),fun i=>if i=3 then ([1,8,9],[4,10]) else ([],[])⟩
def L63_0 (K:k_) (v1 v4:AV) (v8 v9 v10:AV) (H:Heap):Prop:=a_c (wpC Tryz.prog tab D63 (cAt [1,1,0,1,0,0] (bO_ Tryz.f63))) [1,8,9] (a_b.block 0 (a_b.thenA (wpC Tryz.prog tab D63 (cAt [1,1,1] (bO_ Tryz.f63))) (retF tab [.tmp 3] K))) [4,10] [Q_,v1,Q_,Q_,v4,Q_,Q_,Q_,v8,v9,v10,Q_,Q_,Q_,Q_,Q_,Q_,Q_,Q_,Q_,Q_,Q_,Q_,Q_,Q_,Q_,Q_,Q_] H
def B63_0 (K:k_) (N1:AV→k_) (v1 v4:AV) (v8 v9 v10:AV) (H:Heap):Prop:=
 binV tab .lss 3 v10 v9 fun v11=>
 cV_ v11 (iA_ tab 24 v8 v10 fun v12=>
 lV_ tab 3 v12 H fun v13=>
 lV_ tab 24 v1 H fun v14=>
 iA_ tab 24 v14 v13 fun v16=>
 lV_ tab 3 v16 H fun v17=>
 binV tab .geq 3 v17 (AV.p (.int .i64 0)) fun v18=>
 cV_ v18 (lV_ tab 24 v1 H fun v20=>
 iA_ tab 24 v20 v13 fun v22=>
 lV_ tab 3 v22 H fun v23=>
 bS_ tab 24 1 [(0,v23)] H (wkK fun v24 H2=>
 aP_ tab 24 24 v4 v24 H2 (wkK fun v25 H3=>
 binV tab .add 3 v10 (AV.p (.int .i64 1)) fun v26=>
 N1 v25 v26 H3)))
 (binV tab .add 3 v10 (AV.p (.int .i64 1)) fun v26=>
 N1 v4 v26 H))
 (K v4 H)
def W63 (v0 v1:AV) (H:Heap) (K:k_):Prop:=
 bS_ tab 24 0 [] H (wkK fun v7 H1=>
 lenV tab 24 v0 fun v9=>
 L63_0 K v1 v7 v0 v9 (AV.p (.int .i64 0)) H1)
theorem W63_ok {v0 v1:AV} {H:Heap} {K:k_} (h:W63 v0 v1 H K):a_a Tryz.prog 63 [v0,v1] H K:=
 a_a.of_wp (D:=D63) tO_ mixed Tryz.func63 (c:=bO_ Tryz.f63) (by kernel_rfl) rfl (by kernel_rfl) (rs:=#[.tmp 3]) rfl (by decide +kernel) (by kernel_rfl) (by kernel_rfl) h
theorem L63_0_rule {K:k_} {v1 v4 v8 v9 v10:AV} {H:Heap} {σ:Type} (s0:σ) (f4:σ→AV) (f10:σ→AV) (TH:σ→Heap) (pre:σ→Prop) (μ:σ→Nat)
  (h0:pre s0∧AV.wk v4 (f4 s0)∧AV.wk v10 (f10 s0)∧Heap.le (TH s0) H)
  (round:∀s,pre s→B63_0 K (fun w4 w10 H'=>∃s',pre s'∧μ s' < μ s∧AV.wk w4 (f4 s')∧AV.wk w10 (f10 s')∧Heap.le (TH s') H') v1 (f4 s) v8 v9 (f10 s) (TH s)) :
  L63_0 K v1 v4 v8 v9 v10 H:=by
 unfold L63_0
 exact a_c.mk s0 (fun s=>[f4 s,f10 s]) TH pre μ (fun _=>rfl) (Eq.mp (by kernel_rfl) h0) (fun s hs=>Eq.mp (by kernel_rfl) (round s hs))
def D64:Info:=⟨25,fun i=>([],[]),fun i=>if i=3 then ([10,11],[5,12]) else ([],[])⟩
def L64_0 (K:k_) (v5 v10:AV) (v11 v12:AV) (H:Heap):Prop:=a_c (wpC Tryz.prog tab D64 (cAt [1,1,0,1,0,0] (bO_ Tryz.f64))) [10,11] (a_b.block 0 (a_b.thenA (wpC Tryz.prog tab D64 (cAt [1,1,1] (bO_ Tryz.f64))) (retF tab [.tmp 4] K))) [5,12] [Q_,Q_,Q_,Q_,Q_,v5,Q_,Q_,Q_,Q_,v10,v11,v12,Q_,Q_,Q_,Q_,Q_,Q_,Q_,Q_,Q_,Q_,Q_,Q_] H
def B64_0 (K:k_) (N1:AV→k_) (v5 v10:AV) (v11 v12:AV) (H:Heap):Prop:=
 binV tab .lss 3 v12 v11 fun v13=>
 cV_ v13 (iA_ tab 24 v10 v12 fun v15=>
 lV_ tab 3 v15 H fun v16=>
 binV tab .geq 3 v16 (AV.p (.int .i64 0)) fun v18=>
 cV_ v18 (bS_ tab 24 1 [(0,v12)] H (wkK fun v21 H2=>
 aP_ tab 24 24 v5 v21 H2 (wkK fun v22 H3=>
 binV tab .add 3 v12 (AV.p (.int .i64 1)) fun v23=>
 N1 v22 v23 H3)))
 (binV tab .add 3 v12 (AV.p (.int .i64 1)) fun v23=>
 N1 v5 v23 H))
 (K v5 H)
def W64 (v0 v1:AV) (H:Heap) (K:k_):Prop:=
 a_a Tryz.prog 89 [v0,v1] H fun v10 H1=>
 lenV tab 24 v10 fun v11=>
 L64_0 K (AV.p .nil) v10 v11 (AV.p (.int .i64 0)) H1
theorem W64_ok {v0 v1:AV} {H:Heap} {K:k_} (h:W64 v0 v1 H K):a_a Tryz.prog 64 [v0,v1] H K:=
 a_a.of_wp (D:=D64) tO_ mixed Tryz.func64 (c:=bO_ Tryz.f64) (by kernel_rfl) rfl (by kernel_rfl) (rs:=#[.tmp 4]) rfl (by decide +kernel) (by kernel_rfl) (by kernel_rfl) h
theorem W64_hb:a_p Tryz.prog 64:=⟨_,bO_ Tryz.f64,Tryz.func64,by kernel_rfl,rfl⟩
theorem e_5 {K:k_} {v5 v10 v11 v12:AV} {H:Heap} {σ:Type} (s0:σ) (f5:σ→AV) (f12:σ→AV) (TH:σ→Heap) (pre:σ→Prop) (μ:σ→Nat)
  (h0:pre s0∧AV.wk v5 (f5 s0)∧AV.wk v12 (f12 s0)∧Heap.le (TH s0) H)
  (round:∀s,pre s→B64_0 K (fun w5 w12 H'=>∃s',pre s'∧μ s' < μ s∧AV.wk w5 (f5 s')∧AV.wk w12 (f12 s')∧Heap.le (TH s') H') (f5 s) v10 v11 (f12 s) (TH s)) :
  L64_0 K v5 v10 v11 v12 H:=by
 unfold L64_0
 exact a_c.mk s0 (fun s=>[f5 s,f12 s]) TH pre μ (fun _=>rfl) (Eq.mp (by kernel_rfl) h0) (fun s hs=>Eq.mp (by kernel_rfl) (round s hs))
def D65:Info:=⟨37,fun i=>([],[]),fun i=>if i=3 then ([3,11,12],[13]) else if i=6 then ([3,4,11,12,13,18,19],[20]) else ([],[])⟩
def L65_0 (K:k_) (v3 v11:AV) (v12 v13:AV) (H:Heap):Prop:=a_c (wpC Tryz.prog tab D65 (cAt [1,1,0,1,0,0] (bO_ Tryz.f65))) [3,11,12] (a_b.block 0 (a_b.thenA (wpC Tryz.prog tab D65 (cAt [1,1,1] (bO_ Tryz.f65))) (retF tab [.tmp 2] K))) [13] [Q_,Q_,Q_,v3,Q_,Q_,Q_,Q_,Q_,Q_,Q_,v11,v12,v13,Q_,Q_,Q_,Q_,Q_,Q_,Q_,Q_,Q_,Q_,Q_,Q_,Q_,Q_,Q_,Q_,Q_,Q_,Q_,Q_,Q_,Q_,Q_] H
def L65_1 (K:k_) (N1:k_) (v3 v4:AV) (v11 v12:AV) (v13 v18:AV) (v19 v20:AV) (H:Heap):Prop:=a_c (wpC Tryz.prog tab D65 (cAt [1,1,0,1,0,0,1,1,0,0,1,1,0,0] (bO_ Tryz.f65))) [3,4,11,12,13,18,19] (a_b.block 2 (a_b.block 1 (a_b.thenA (wpC Tryz.prog tab D65 (cAt [1,1,0,1,0,0,1,1,1] (bO_ Tryz.f65))) (a_w (a_b.block 0 (a_b.thenA (wpC Tryz.prog tab D65 (cAt [1,1,1] (bO_ Tryz.f65))) (retF tab [.tmp 2] K))) (fun e h=>N1 (e 13) h))))) [20] [Q_,Q_,Q_,v3,v4,Q_,Q_,Q_,Q_,Q_,Q_,v11,v12,v13,Q_,Q_,Q_,Q_,v18,v19,v20,Q_,Q_,Q_,Q_,Q_,Q_,Q_,Q_,Q_,Q_,Q_,Q_,Q_,Q_,Q_,Q_] H
def B65_1 (K:k_) (N1:k_) (N2:k_) (v3 v4:AV) (v11 v12:AV) (v13 v18:AV) (v19 v20:AV) (H:Heap):Prop:=
 binV tab .lss 3 v20 v19 fun v21=>
 cV_ v21 (iA_ tab 24 v18 v20 fun v22=>
 lV_ tab 3 v22 H fun v23=>
 iA_ tab 26 v3 v23 fun v28=>
 lV_ tab 24 v28 H fun v29=>
 bS_ tab 24 1 [(0,v4)] H (wkK fun v31 H2=>
 aP_ tab 24 24 v29 v31 H2 (wkK fun v32 H3=>
 iA_ tab 26 v3 v23 fun v33=>
 sV_ tab 24 v33 v32 H3 fun H4=>
 binV tab .add 3 v20 (AV.p (.int .i64 1)) fun v34=>
 N2 v34 H4)))
 (binV tab .add 3 v13 (AV.p (.int .i64 1)) fun v35=>
 N1 v35 H)
def B65_0 (K:k_) (N1:k_) (v3 v11:AV) (v12 v13:AV) (H:Heap):Prop:=
 binV tab .lss 3 v13 v12 fun v14=>
 cV_ v14 (iA_ tab 26 v11 v13 fun v16=>
 lV_ tab 24 v16 H fun v17=>
 lenV tab 24 v17 fun v19=>
 L65_1 K N1 v3 v13 v11 v12 v13 v17 v19 (AV.p (.int .i64 0)) H)
 (K v3 H)
def W65 (v0:AV) (H:Heap) (K:k_):Prop:=
 lenV tab 26 v0 fun v9=>
 mS_ tab 26 v9 v9 H fun v10 H1=>
 lenV tab 26 v0 fun v12=>
 L65_0 K v10 v0 v12 (AV.p (.int .i64 0)) H1
theorem W65_ok {v0:AV} {H:Heap} {K:k_} (h:W65 v0 H K):a_a Tryz.prog 65 [v0] H K:=
 a_a.of_wp (D:=D65) tO_ mixed Tryz.func65 (c:=bO_ Tryz.f65) (by kernel_rfl) rfl (by kernel_rfl) (rs:=#[.tmp 2]) rfl (by decide +kernel) (by kernel_rfl) (by kernel_rfl) h
theorem L65_1_rule {K:k_} {N1:k_} {v3 v4 v11 v12 v13 v18 v19 v20:AV} {H:Heap} {σ:Type} (s0:σ) (f20:σ→AV) (TH:σ→Heap) (pre:σ→Prop) (μ:σ→Nat)
  (h0:pre s0∧AV.wk v20 (f20 s0)∧Heap.le (TH s0) H)
  (round:∀s,pre s→B65_1 K N1 (fun w20 H'=>∃s',pre s'∧μ s' < μ s∧AV.wk w20 (f20 s')∧Heap.le (TH s') H') v3 v4 v11 v12 v13 v18 v19 (f20 s) (TH s)) :
  L65_1 K N1 v3 v4 v11 v12 v13 v18 v19 v20 H:=by
 unfold L65_1
 exact a_c.mk s0 (fun s=>[f20 s]) TH pre μ (fun _=>rfl) (Eq.mp (by kernel_rfl) h0) (fun s hs=>Eq.mp (by kernel_rfl) (round s hs))
theorem L65_0_rule {K:k_} {v3 v11 v12 v13:AV} {H:Heap} {σ:Type} (s0:σ) (f13:σ→AV) (TH:σ→Heap) (pre:σ→Prop) (μ:σ→Nat)
  (h0:pre s0∧AV.wk v13 (f13 s0)∧Heap.le (TH s0) H)
  (round:∀s,pre s→B65_0 K (fun w13 H'=>∃s',pre s'∧μ s' < μ s∧AV.wk w13 (f13 s')∧Heap.le (TH s') H') v3 v11 v12 (f13 s) (TH s)) :
  L65_0 K v3 v11 v12 v13 H:=by
 unfold L65_0
 exact a_c.mk s0 (fun s=>[f13 s]) TH pre μ (fun _=>rfl) (Eq.mp (by kernel_rfl) h0) (fun s hs=>Eq.mp (by kernel_rfl) (round s hs))
def D66:Info:=⟨116,fun i=>if i=8 then ([[],[],[],[1,2],[1,2,3],[],[],[],[6,7],[6,7,8],[5,6,7,8,9],[5,6,7,8,9,10],[5,6,7,8,9,10,11],[5,6,7,8,9,10,11,12],[5,6,7,8,9,10,11,12,13],[5,6,7,8,9,10,11,12,13,14],[5,6,7,8,9,10,11,12,13,14,15],[0,1,2,3,4,5,6,7,8,9,10,11,12,13,14,15,16],[0,1,2,3,4,5,6,7,8,9,10,11,12,13,14,15,16,17]],[(0,[]),(1,[]),(2,[]),(3,[]),(4,[]),(5,[]),(6,[]),(7,[]),(8,[]),(9,[]),(10,[]),(11,[]),(12,[]),(13,[]),(14,[]),(15,[]),(16,[]),(17,[]),(18,[])]) else ([],[]),fun i=>if i=6 then ([0,1,5,7,8,28,29],[30]) else if i=11 then ([0,1,5,7,8,54,55],[56]) else if i=14 then ([0,1,5,7,8,11,54,55,56,61,62],[63]) else if i=22 then ([1,5,7,8,87],[15,88]) else ([],[])⟩
def L66_0 (K:k_) (v0 v1:AV) (v5 v7:AV) (v8 v28:AV) (v29 v30:AV) (H:Heap):Prop:=a_c (wpC Tryz.prog tab D66 (cAt [1,1,1,1,1,0,1,0,0] (bO_ Tryz.f66))) [0,1,5,7,8,28,29] (a_b.block 0 (a_b.thenA (wpC Tryz.prog tab D66 (cAt [1,1,1,1,1,1] (bO_ Tryz.f66))) (retF tab [.tmp 4] K))) [30] [v0,v1,Q_,Q_,Q_,v5,Q_,v7,v8,Q_,Q_,Q_,Q_,Q_,Q_,Q_,Q_,Q_,Q_,Q_,Q_,Q_,Q_,Q_,Q_,Q_,Q_,Q_,v28,v29,v30,Q_,Q_,Q_,Q_,Q_,Q_,Q_,Q_,Q_,Q_,Q_,Q_,Q_,Q_,Q_,Q_,Q_,Q_,Q_,Q_,Q_,Q_,Q_,Q_,Q_,Q_,Q_,Q_,Q_,Q_,Q_,Q_,Q_,Q_,Q_,Q_,Q_,Q_,Q_,Q_,Q_,Q_,Q_,Q_,Q_,Q_,Q_,Q_,Q_,Q_,Q_,Q_,Q_,Q_,Q_,Q_,Q_,Q_,Q_,Q_,Q_,Q_,Q_,Q_,Q_,Q_,Q_,Q_,Q_,Q_,Q_,Q_,Q_,Q_,Q_,Q_,Q_,Q_,Q_,Q_,Q_,Q_,Q_,Q_,Q_] H
def L66_1 (K:k_) (v0 v1:AV) (v5 v7:AV) (v8 v54:AV) (v55 v56:AV) (H:Heap):Prop:=a_c (wpC Tryz.prog tab D66 (cAt [1,1,1,1,1,1,0,1,0,0] (bO_ Tryz.f66))) [0,1,5,7,8,54,55] (a_b.block 2 (a_b.thenA (wpC Tryz.prog tab D66 (cAt [1,1,1,1,1,1,1] (bO_ Tryz.f66))) (retF tab [.tmp 4] K))) [56] [v0,v1,Q_,Q_,Q_,v5,Q_,v7,v8,Q_,Q_,Q_,Q_,Q_,Q_,Q_,Q_,Q_,Q_,Q_,Q_,Q_,Q_,Q_,Q_,Q_,Q_,Q_,Q_,Q_,Q_,Q_,Q_,Q_,Q_,Q_,Q_,Q_,Q_,Q_,Q_,Q_,Q_,Q_,Q_,Q_,Q_,Q_,Q_,Q_,Q_,Q_,Q_,Q_,v54,v55,v56,Q_,Q_,Q_,Q_,Q_,Q_,Q_,Q_,Q_,Q_,Q_,Q_,Q_,Q_,Q_,Q_,Q_,Q_,Q_,Q_,Q_,Q_,Q_,Q_,Q_,Q_,Q_,Q_,Q_,Q_,Q_,Q_,Q_,Q_,Q_,Q_,Q_,Q_,Q_,Q_,Q_,Q_,Q_,Q_,Q_,Q_,Q_,Q_,Q_,Q_,Q_,Q_,Q_,Q_,Q_,Q_,Q_,Q_,Q_] H
def L66_2 (K:k_) (N1:k_) (v0 v1:AV) (v5 v7:AV) (v8 v11:AV) (v54 v55:AV) (v56 v61:AV) (v62 v63:AV) (H:Heap):Prop:=a_c (wpC Tryz.prog tab D66 (cAt [1,1,1,1,1,1,0,1,0,0,1,1,0,0,1,1,0,0] (bO_ Tryz.f66))) [0,1,5,7,8,11,54,55,56,61,62] (a_b.block 4 (a_b.block 3 (a_b.thenA (wpC Tryz.prog tab D66 (cAt [1,1,1,1,1,1,0,1,0,0,1,1,1] (bO_ Tryz.f66))) (a_w (a_b.block 2 (a_b.thenA (wpC Tryz.prog tab D66 (cAt [1,1,1,1,1,1,1] (bO_ Tryz.f66))) (retF tab [.tmp 4] K))) (fun e h=>N1 (e 56) h))))) [63] [v0,v1,Q_,Q_,Q_,v5,Q_,v7,v8,Q_,Q_,v11,Q_,Q_,Q_,Q_,Q_,Q_,Q_,Q_,Q_,Q_,Q_,Q_,Q_,Q_,Q_,Q_,Q_,Q_,Q_,Q_,Q_,Q_,Q_,Q_,Q_,Q_,Q_,Q_,Q_,Q_,Q_,Q_,Q_,Q_,Q_,Q_,Q_,Q_,Q_,Q_,Q_,Q_,v54,v55,v56,Q_,Q_,Q_,Q_,v61,v62,v63,Q_,Q_,Q_,Q_,Q_,Q_,Q_,Q_,Q_,Q_,Q_,Q_,Q_,Q_,Q_,Q_,Q_,Q_,Q_,Q_,Q_,Q_,Q_,Q_,Q_,Q_,Q_,Q_,Q_,Q_,Q_,Q_,Q_,Q_,Q_,Q_,Q_,Q_,Q_,Q_,Q_,Q_,Q_,Q_,Q_,Q_,Q_,Q_,Q_,Q_,Q_,Q_] H
def B66_2 (K:k_) (N1:k_) (N2:k_) (v0 v1:AV) (v5 v7:AV) (v8 v11:AV) (v54 v55:AV) (v56 v61:AV) (v62 v63:AV) (H:Heap):Prop:=
 binV tab .lss 3 v63 v62 fun v64=>
 cV_ v64 (iA_ tab 24 v61 v63 fun v65=>
 lV_ tab 3 v65 H fun v66=>
 iA_ tab 24 v5 v66 fun v70=>
 lV_ tab 3 v70 H fun v71=>
 iA_ tab 24 v8 v71 fun v72=>
 lV_ tab 3 v72 H fun v73=>
 binV tab .eql 3 v73 v11 fun v75=>
 cV_ v75 (iA_ tab 24 v5 v66 fun v79=>
 lV_ tab 3 v79 H fun v80=>
 binV tab .add 3 v11 (AV.p (.int .i64 1)) fun v82=>
 iA_ tab 24 v8 v80 fun v83=>
 sV_ tab 3 v83 v82 H fun H7=>
 binV tab .add 3 v63 (AV.p (.int .i64 1)) fun v84=>
 N2 v84 H7)
 (binV tab .add 3 v63 (AV.p (.int .i64 1)) fun v84=>
 N2 v84 H))
 (binV tab .add 3 v56 (AV.p (.int .i64 1)) fun v85=>
 N1 v85 H)
def L66_3 (K:k_) (v1 v5:AV) (v7 v8:AV) (v15 v87 v88:AV) (H:Heap):Prop:=a_c (wpC Tryz.prog tab D66 (cAt [1,1,1,1,1,1,1,1,0,1,0,0] (bO_ Tryz.f66))) [1,5,7,8,87] (a_b.block 6 (a_b.thenA (wpC Tryz.prog tab D66 (cAt [1,1,1,1,1,1,1,1,1] (bO_ Tryz.f66))) (retF tab [.tmp 4] K))) [15,88] [Q_,v1,Q_,Q_,Q_,v5,Q_,v7,v8,Q_,Q_,Q_,Q_,Q_,Q_,v15,Q_,Q_,Q_,Q_,Q_,Q_,Q_,Q_,Q_,Q_,Q_,Q_,Q_,Q_,Q_,Q_,Q_,Q_,Q_,Q_,Q_,Q_,Q_,Q_,Q_,Q_,Q_,Q_,Q_,Q_,Q_,Q_,Q_,Q_,Q_,Q_,Q_,Q_,Q_,Q_,Q_,Q_,Q_,Q_,Q_,Q_,Q_,Q_,Q_,Q_,Q_,Q_,Q_,Q_,Q_,Q_,Q_,Q_,Q_,Q_,Q_,Q_,Q_,Q_,Q_,Q_,Q_,Q_,Q_,Q_,Q_,v87,v88,Q_,Q_,Q_,Q_,Q_,Q_,Q_,Q_,Q_,Q_,Q_,Q_,Q_,Q_,Q_,Q_,Q_,Q_,Q_,Q_,Q_,Q_,Q_,Q_,Q_,Q_,Q_] H
def B66_3 (K:k_) (N1:AV→k_) (v1 v5:AV) (v7 v8:AV) (v15 v87 v88:AV) (H:Heap):Prop:=
 binV tab .lss 3 v88 v87 fun v89=>
 cV_ v89 (iA_ tab 24 v5 v88 fun v94=>
 lV_ tab 3 v94 H fun v95=>
 iA_ tab 87 v7 v95 fun v96=>
 lV_ tab 4 v96 H fun v97=>
 grdV v97 true (iA_ tab 24 v5 v88 fun v102=>
 lV_ tab 3 v102 H fun v103=>
 iA_ tab 24 v8 v103 fun v104=>
 lV_ tab 3 v104 H fun v105=>
 lenV tab 26 v1 fun v107=>
 binV tab .eql 3 v105 v107 fun v108=>
 cV_ v108 (bS_ tab 24 1 [(0,v88)] H (wkK fun v112 H8=>
 aP_ tab 24 24 v15 v112 H8 (wkK fun v113 H9=>
 binV tab .add 3 v88 (AV.p (.int .i64 1)) fun v114=>
 N1 v113 v114 H9)))
 (binV tab .add 3 v88 (AV.p (.int .i64 1)) fun v114=>
 N1 v15 v114 H))
 (binV tab .add 3 v88 (AV.p (.int .i64 1)) fun v114=>
 N1 v15 v114 H))
 (K v15 H)
def B66_1 (K:k_) (N1:k_) (v0 v1:AV) (v5 v7:AV) (v8 v54:AV) (v55 v56:AV) (H:Heap):Prop:=
 binV tab .lss 3 v56 v55 fun v57=>
 cV_ v57 (iA_ tab 26 v54 v56 fun v59=>
 lV_ tab 24 v59 H fun v60=>
 lenV tab 24 v60 fun v62=>
 L66_2 K N1 v0 v1 v5 v7 v8 v56 v54 v55 v56 v60 v62 (AV.p (.int .i64 0)) H)
 (lenV tab 26 v0 fun v87=>
 L66_3 K v1 v5 v7 v8 (AV.p .nil) v87 (AV.p (.int .i64 0)) H)
def B66_0 (K:k_) (N1:k_) (v0 v1:AV) (v5 v7:AV) (v8 v28:AV) (v29 v30:AV) (H:Heap):Prop:=
 binV tab .lss 3 v30 v29 fun v31=>
 cV_ v31 (iA_ tab 26 v28 v30 fun v33=>
 lV_ tab 24 v33 H fun v34=>
 iA_ tab 24 v5 v30 fun v38=>
 lV_ tab 3 v38 H fun v39=>
 iA_ tab 24 v5 v30 fun v43=>
 lV_ tab 3 v43 H fun v44=>
 iA_ tab 87 v7 v44 fun v45=>
 lV_ tab 4 v45 H fun v46=>
 grdV v46 false (lenV tab 24 v34 fun v49=>
 binV tab .gtr 3 v49 (AV.p (.int .i64 0)) fun v50=>
 iA_ tab 87 v7 v39 fun v52=>
 sV_ tab 4 v52 v50 H fun H5=>
 binV tab .add 3 v30 (AV.p (.int .i64 1)) fun v53=>
 N1 v53 H5)
 (iA_ tab 87 v7 v39 fun v52=>
 sV_ tab 4 v52 (AV.p (.bool true)) H fun H6=>
 binV tab .add 3 v30 (AV.p (.int .i64 1)) fun v53=>
 N1 v53 H6))
 (lenV tab 26 v1 fun v55=>
 L66_1 K v0 v1 v5 v7 v8 v1 v55 (AV.p (.int .i64 0)) H)
def W66 (v0 v1:AV) (H:Heap) (K:k_):Prop:=
 a_a Tryz.prog 91 [v0] H fun v18 H1=>
 a_a Tryz.prog 92 [v0,v18] H1 fun v21 H2=>
 lenV tab 26 v0 fun v23=>
 mS_ tab 87 v23 v23 H2 fun v24 H3=>
 lenV tab 26 v0 fun v26=>
 mS_ tab 24 v26 v26 H3 fun v27 H4=>
 lenV tab 26 v21 fun v29=>
 L66_0 K v0 v1 v18 v24 v27 v21 v29 (AV.p (.int .i64 0)) H4
theorem W66_ok {v0 v1:AV} {H:Heap} {K:k_} (h:W66 v0 v1 H K):a_a Tryz.prog 66 [v0,v1] H K:=
 a_a.of_wp (D:=D66) tO_ mixed Tryz.func66 (c:=bO_ Tryz.f66) (by kernel_rfl) rfl (by kernel_rfl) (rs:=#[.tmp 4]) rfl (by decide +kernel) (by kernel_rfl) (by kernel_rfl) h
theorem L66_2_rule {K:k_} {N1:k_} {v0 v1 v5 v7 v8 v11 v54 v55 v56 v61 v62 v63:AV} {H:Heap} {σ:Type} (s0:σ) (f63:σ→AV) (TH:σ→Heap) (pre:σ→Prop) (μ:σ→Nat)
  (h0:pre s0∧AV.wk v63 (f63 s0)∧Heap.le (TH s0) H)
  (round:∀s,pre s→B66_2 K N1 (fun w63 H'=>∃s',pre s'∧μ s' < μ s∧AV.wk w63 (f63 s')∧Heap.le (TH s') H') v0 v1 v5 v7 v8 v11 v54 v55 v56 v61 v62 (f63 s) (TH s)) :
  L66_2 K N1 v0 v1 v5 v7 v8 v11 v54 v55 v56 v61 v62 v63 H:=by
 unfold L66_2
 exact a_c.mk s0 (fun s=>[f63 s]) TH pre μ (fun _=>rfl) (Eq.mp (by kernel_rfl) h0) (fun s hs=>Eq.mp (by kernel_rfl) (round s hs))
theorem L66_3_rule {K:k_} {v1 v5 v7 v8 v15 v87 v88:AV} {H:Heap} {σ:Type} (s0:σ) (f15:σ→AV) (f88:σ→AV) (TH:σ→Heap) (pre:σ→Prop) (μ:σ→Nat)
  (h0:pre s0∧AV.wk v15 (f15 s0)∧AV.wk v88 (f88 s0)∧Heap.le (TH s0) H)
  (round:∀s,pre s→B66_3 K (fun w15 w88 H'=>∃s',pre s'∧μ s' < μ s∧AV.wk w15 (f15 s')∧AV.wk w88 (f88 s')∧Heap.le (TH s') H') v1 v5 v7 v8 (f15 s) v87 (f88 s) (TH s)) :
  L66_3 K v1 v5 v7 v8 v15 v87 v88 H:=by
 unfold L66_3
 exact a_c.mk s0 (fun s=>[f15 s,f88 s]) TH pre μ (fun _=>rfl) (Eq.mp (by kernel_rfl) h0) (fun s hs=>Eq.mp (by kernel_rfl) (round s hs))
theorem L66_1_rule {K:k_} {v0 v1 v5 v7 v8 v54 v55 v56:AV} {H:Heap} {σ:Type} (s0:σ) (f56:σ→AV) (TH:σ→Heap) (pre:σ→Prop) (μ:σ→Nat)
  (h0:pre s0∧AV.wk v56 (f56 s0)∧Heap.le (TH s0) H)
  (round:∀s,pre s→B66_1 K (fun w56 H'=>∃s',pre s'∧μ s' < μ s∧AV.wk w56 (f56 s')∧Heap.le (TH s') H') v0 v1 v5 v7 v8 v54 v55 (f56 s) (TH s)) :
  L66_1 K v0 v1 v5 v7 v8 v54 v55 v56 H:=by
 unfold L66_1
 exact a_c.mk s0 (fun s=>[f56 s]) TH pre μ (fun _=>rfl) (Eq.mp (by kernel_rfl) h0) (fun s hs=>Eq.mp (by kernel_rfl) (round s hs))
theorem L66_0_rule {K:k_} {v0 v1 v5 v7 v8 v28 v29 v30:AV} {H:Heap} {σ:Type} (s0:σ) (f30:σ→AV) (TH:σ→Heap) (pre:σ→Prop) (μ:σ→Nat)
  (h0:pre s0∧AV.wk v30 (f30 s0)∧Heap.le (TH s0) H)
  (round:∀s,pre s→B66_0 K (fun w30 H'=>∃s',pre s'∧μ s' < μ s∧AV.wk w30 (f30 s')∧Heap.le (TH s') H') v0 v1 v5 v7 v8 v28 v29 (f30 s) (TH s)) :
  L66_0 K v0 v1 v5 v7 v8 v28 v29 v30 H:=by
 unfold L66_0
 exact a_c.mk s0 (fun s=>[f30 s]) TH pre μ (fun _=>rfl) (Eq.mp (by kernel_rfl) h0) (fun s hs=>Eq.mp (by kernel_rfl) (round s hs))
def D67:Info:=⟨28,fun i=>([],[]),fun i=>if i=3 then ([1,8,9],[5,10]) else ([],[])⟩
def L67_0 (K:k_) (v1 v5:AV) (v8 v9 v10:AV) (H:Heap):Prop:=a_c (wpC Tryz.prog tab D67 (cAt [1,1,0,1,0,0] (bO_ Tryz.f67))) [1,8,9] (a_b.block 0 (a_b.thenA (wpC Tryz.prog tab D67 (cAt [1,1,1] (bO_ Tryz.f67))) (retF tab [.tmp 4] K))) [5,10] [Q_,v1,Q_,Q_,Q_,v5,Q_,Q_,v8,v9,v10,Q_,Q_,Q_,Q_,Q_,Q_,Q_,Q_,Q_,Q_,Q_,Q_,Q_,Q_,Q_,Q_,Q_] H
def B67_0 (K:k_) (N1:AV→k_) (v1 v5:AV) (v8 v9 v10:AV) (H:Heap):Prop:=
 binV tab .lss 3 v10 v9 fun v11=>
 cV_ v11 (iA_ tab 24 v8 v10 fun v12=>
 lV_ tab 3 v12 H fun v13=>
 iA_ tab 24 v1 v13 fun v16=>
 lV_ tab 3 v16 H fun v17=>
 binV tab .geq 3 v17 (AV.p (.int .i64 0)) fun v18=>
 cV_ v18 (iA_ tab 24 v1 v13 fun v22=>
 lV_ tab 3 v22 H fun v23=>
 bS_ tab 24 1 [(0,v23)] H (wkK fun v24 H1=>
 aP_ tab 24 24 v5 v24 H1 (wkK fun v25 H2=>
 binV tab .add 3 v10 (AV.p (.int .i64 1)) fun v26=>
 N1 v25 v26 H2)))
 (binV tab .add 3 v10 (AV.p (.int .i64 1)) fun v26=>
 N1 v5 v26 H))
 (K v5 H)
def W67 (v0 v1:AV) (H:Heap) (K:k_):Prop:=
 lenV tab 24 v0 fun v9=>
 L67_0 K v1 (AV.p .nil) v0 v9 (AV.p (.int .i64 0)) H
theorem W67_ok {v0 v1:AV} {H:Heap} {K:k_} (h:W67 v0 v1 H K):a_a Tryz.prog 67 [v0,v1] H K:=
 a_a.of_wp (D:=D67) tO_ mixed Tryz.func67 (c:=bO_ Tryz.f67) (by kernel_rfl) rfl (by kernel_rfl) (rs:=#[.tmp 4]) rfl (by decide +kernel) (by kernel_rfl) (by kernel_rfl) h
theorem W67_hb:a_p Tryz.prog 67:=⟨_,bO_ Tryz.f67,Tryz.func67,by kernel_rfl,rfl⟩
theorem L67_0_rule {K:k_} {v1 v5 v8 v9 v10:AV} {H:Heap} {σ:Type} (s0:σ) (f5:σ→AV) (f10:σ→AV) (TH:σ→Heap) (pre:σ→Prop) (μ:σ→Nat)
  (h0:pre s0∧AV.wk v5 (f5 s0)∧AV.wk v10 (f10 s0)∧Heap.le (TH s0) H)
  (round:∀s,pre s→B67_0 K (fun w5 w10 H'=>∃s',pre s'∧μ s' < μ s∧AV.wk w5 (f5 s')∧AV.wk w10 (f10 s')∧Heap.le (TH s') H') v1 (f5 s) v8 v9 (f10 s) (TH s)) :
  L67_0 K v1 v5 v8 v9 v10 H:=by
 unfold L67_0
 exact a_c.mk s0 (fun s=>[f5 s,f10 s]) TH pre μ (fun _=>rfl) (Eq.mp (by kernel_rfl) h0) (fun s hs=>Eq.mp (by kernel_rfl) (round s hs))
def D68:Info:=⟨29,fun i=>([],[]),fun i=>if i=3 then ([0,1],[7,8]) else ([],[])⟩
def L68_0 (K:k_) (v0 v1:AV) (v7 v8:AV) (H:Heap):Prop:=a_c (wpC Tryz.prog tab D68 (cAt [1,1,0,1,0,0] (bO_ Tryz.f68))) [0,1] (a_b.block 0 (a_b.thenA (wpC Tryz.prog tab D68 (cAt [1,1,1] (bO_ Tryz.f68))) (retF tab [.tmp 6] K))) [7,8] [v0,v1,Q_,Q_,Q_,Q_,Q_,v7,v8,Q_,Q_,Q_,Q_,Q_,Q_,Q_,Q_,Q_,Q_,Q_,Q_,Q_,Q_,Q_,Q_,Q_,Q_,Q_,Q_] H
def B68_0 (K:k_) (N1:AV→k_) (v0 v1:AV) (v7 v8:AV) (H:Heap):Prop:=
 binV tab .gtr 3 v8 (AV.p (.int .i64 0)) fun v14=>
 cV_ v14 (a_a Tryz.prog 69 [v0,v1] H fun v20 H2=>
 a_a Tryz.prog 93 [v7,v20] H2 fun v21 H3=>
 binV tab .sub 3 v8 (AV.p (.int .i64 1)) fun v16=>
 N1 v21 v16 H3)
 (a_a Tryz.prog 47 [v0,(AV.p (.int .i64 40))] H fun v23 H4=>
 cV_ v23 (bS_ tab 24 1 [(0,v1)] H4 (wkK fun v26 H5=>
 aP_ tab 24 24 v7 v26 H5 (wkK fun v27 H6=>
 K v27 H6)))
 (K v7 H4))
def W68 (v0 v1 v2:AV) (H:Heap) (K:k_):Prop:=
 binV tab .add 3 v2 (AV.p (.int .i64 1)) fun v11=>
 a_a Tryz.prog 69 [v0,v11] H fun v12 H1=>
 L68_0 K v0 v1 (AV.p .nil) v12 H1
theorem W68_ok {v0 v1 v2:AV} {H:Heap} {K:k_} (h:W68 v0 v1 v2 H K):a_a Tryz.prog 68 [v0,v1,v2] H K:=
 a_a.of_wp (D:=D68) tO_ mixed Tryz.func68 (c:=bO_ Tryz.f68) (by kernel_rfl) rfl (by kernel_rfl) (rs:=#[.tmp 6]) rfl (by decide +kernel) (by kernel_rfl) (by kernel_rfl) h
theorem W68_hb:a_p Tryz.prog 68:=⟨_,bO_ Tryz.f68,Tryz.func68,by kernel_rfl,rfl⟩
theorem L68_0_rule {K:k_} {v0 v1 v7 v8:AV} {H:Heap} {σ:Type} (s0:σ) (f7:σ→AV) (f8:σ→AV) (TH:σ→Heap) (pre:σ→Prop) (μ:σ→Nat)
  (h0:pre s0∧AV.wk v7 (f7 s0)∧AV.wk v8 (f8 s0)∧Heap.le (TH s0) H)
  (round:∀s,pre s→B68_0 K (fun w7 w8 H'=>∃s',pre s'∧μ s' < μ s∧AV.wk w7 (f7 s')∧AV.wk w8 (f8 s')∧Heap.le (TH s') H') v0 v1 (f7 s) (f8 s) (TH s)) :
  L68_0 K v0 v1 v7 v8 H:=by
 unfold L68_0
 exact a_c.mk s0 (fun s=>[f7 s,f8 s]) TH pre μ (fun _=>rfl) (Eq.mp (by kernel_rfl) h0) (fun s hs=>Eq.mp (by kernel_rfl) (round s hs))
def D69:Info:=⟨20,fun i=>([],[]),fun i=>([],[])⟩
def W69 (v0 v1:AV) (H:Heap) (K:k_):Prop:=
 binV tab .leq 3 v1 (AV.p (.int .i64 1)) fun v7=>
 cV_ v7 (K (AV.p (.int .i64 0)) H)
 (a_a Tryz.prog 106 [v0] H fun v9 H1=>
 binV tab .gtr 3 v1 (AV.p (.int .i64 200)) fun v11=>
 cV_ v11 (binV tab .mul 3 v9 (AV.p (.int .i64 256)) fun v13=>
 a_a Tryz.prog 106 [v0] H1 fun v15 H2=>
 binV tab .add 3 v13 v15 fun v16=>
 binV tab .rem 3 v16 v1 fun v19=>
 K v19 H2)
 (binV tab .rem 3 v9 v1 fun v19=>
 K v19 H1))
theorem W69_ok {v0 v1:AV} {H:Heap} {K:k_} (h:W69 v0 v1 H K):a_a Tryz.prog 69 [v0,v1] H K:=
 a_a.of_wp (D:=D69) tO_ mixed Tryz.func69 (c:=bO_ Tryz.f69) (by kernel_rfl) rfl (by kernel_rfl) (rs:=#[.tmp 4]) rfl (by decide +kernel) (by kernel_rfl) (by kernel_rfl) h
end Go.Proofs.YtohkciilfkhomaaGreat
