/- Texts laid together: W9 W10 WA Lb0 Lb1a Lb3 Pt1 Le1 Le2 Lt1 Lt2 Mt0 Pm1 Ma1 Lb2 Lt3 Lt4. -/
import Derived.Test.YtolffbcnbcjeaaaGreatPkx5
import Derived.KernelRfl
set_option linter.unusedVariables false
set_option linter.unusedSimpArgs false
open Go.Sep.AV renaming any → Q_
open Nat renaming reduceAdd→ν1,reduceLeDiff→ν2,reduceLT→ν3,reduceMul→ν4,reduceSub→ν5
open Int renaming reduceToNat→ι1,reduceSub→ι2,reduceAdd→ι3,reduceNeg→ι4
open Array renaming toList→ι5
open Ne renaming symm→ν6
open List renaming forall_mem_cons→ν7
namespace Go.Proofs.YtolffbcnbcjeaaaGreat
open Go Go.Sep
attribute [local irreducible] wpC headF
def D118:Info:=⟨177,fun i=>if i=1 then ([[],[0],[0,1],[0,1,2],[],[],[5],[5,6],[5,6,7],[],[],[10],[10,11],[10,11,12],[],[14],[14,15],[14,15,16],[0,1,2,3,4,5,6,7,8,10,11,12,13,14,15,16,17],[0,1,2,3,4,5,6,7,8,10,11,12,13,14,15,16,17,18],[0,1,2,3,4,5,6,7,8,9,10,11,12,13,14,15,16,17,18,19],[0,1,2,3,4,5,6,7,8,9,10,11,12,13,14,15,16,17,18,19,20]],[(0,[]),(1,[]),(2,[]),(3,[]),(4,[]),(5,[]),(6,[]),(7,[]),(8,[]),(9,[]),(10,[]),(11,[]),(12,[]),(13,[]),(14,[]),(15,[]),(16,[]),(17,[]),(18,[]),(19,[]),(20,[]),(21,[])]) else if i=8 then ([[],[0],[0,1],[0,1,2],[],[],[5],[5,6],[5,6,7],[],[5,6,7,8,9],[5,6,7,8,9,10],[],[12],[12,13],[12,13,14],[],[12,13,14,15,16],[12,13,14,15,16,17],[5,6,7,8,9,10,11,12,13,14,15,16,17,18],[0,1,2,3,4,5,6,7,8,9,10,11,12,13,14,15,16,17,18,19],[0,1,2,3,4,5,6,7,8,9,10,11,12,13,14,15,16,17,18,19,20]],[(0,[]),(1,[]),(2,[]),(3,[]),(4,[]),(5,[]),(6,[]),(7,[]),(8,[]),(9,[]),(10,[]),(11,[]),(12,[]),(13,[]),(14,[]),(15,[]),(16,[]),(17,[]),(18,[]),(19,[]),(20,[]),(21,[])]) else if i=10 then ([[],[0],[0,1],[0,1,2],[],[],[5],[5,6],[5,6,7],[],[5,6,7,8,9],[5,6,7,8,9,10],[],[12],[12,13],[12,13,14],[],[12,13,14,15,16],[12,13,14,15,16,17],[5,6,7,8,9,10,11,12,13,14,15,16,17,18],[0,1,2,3,4,5,6,7,8,9,10,11,12,13,14,15,16,17,18,19],[0,1,2,3,4,5,6,7,8,9,10,11,12,13,14,15,16,17,18,19,20]],[(0,[]),(1,[]),(2,[]),(3,[]),(4,[]),(5,[]),(6,[]),(7,[]),(8,[]),(9,[]),(10,[]),(11,[]),(12,[]),(13,[]),(14,[]),(15,[]),(16,[]),(17,[]),(18,[]),(19,[]),(20,[]),(21,[])]) else if i=12 then ([[],[0],[0,1],[0,1,2],[],[0,1,2,3,4],[0,1,2,3,4,5],[],[7],[7,8],[7,8,9],[],[7,8,9,10,11],[7,8,9,10,11,12],[0,1,2,3,4,5,6,7,8,9,10,11,12,13]],[(0,[]),(1,[]),(2,[]),(3,[]),(4,[]),(5,[]),(6,[]),(7,[]),(8,[]),(9,[]),(10,[]),(11,[]),(12,[]),(13,[]),(14,[])]) else ([],[]),fun i=>if i=4 then ([0,1,53,54],[55]) else if i=16 then ([0,6,7,154,155],[156]) else ([],[])⟩
def L118_0 (K:AV→Heap→Prop) (v0:AV) (v1:AV) (v53:AV) (v54:AV) (v55:AV) (H:Heap):Prop:=LoopV (wpC Tryz.prog tab D118 (cAt [1,1,1,0,1,0,0] (bO_ Tryz.f118))) [0,1,53,54] (PostF.block 0 (PostF.thenA (wpC Tryz.prog tab D118 (cAt [1,1,1,1] (bO_ Tryz.f118))) (retF tab [] K))) [55] [v0,v1,Q_,Q_,Q_,Q_,Q_,Q_,Q_,Q_,Q_,Q_,Q_,Q_,Q_,Q_,Q_,Q_,Q_,Q_,Q_,Q_,Q_,Q_,Q_,Q_,Q_,Q_,Q_,Q_,Q_,Q_,Q_,Q_,Q_,Q_,Q_,Q_,Q_,Q_,Q_,Q_,Q_,Q_,Q_,Q_,Q_,Q_,Q_,Q_,Q_,Q_,Q_,v53,v54,v55,Q_,Q_,Q_,Q_,Q_,Q_,Q_,Q_,Q_,Q_,Q_,Q_,Q_,Q_,Q_,Q_,Q_,Q_,Q_,Q_,Q_,Q_,Q_,Q_,Q_,Q_,Q_,Q_,Q_,Q_,Q_,Q_,Q_,Q_,Q_,Q_,Q_,Q_,Q_,Q_,Q_,Q_,Q_,Q_,Q_,Q_,Q_,Q_,Q_,Q_,Q_,Q_,Q_,Q_,Q_,Q_,Q_,Q_,Q_,Q_,Q_,Q_,Q_,Q_,Q_,Q_,Q_,Q_,Q_,Q_,Q_,Q_,Q_,Q_,Q_,Q_,Q_,Q_,Q_,Q_,Q_,Q_,Q_,Q_,Q_,Q_,Q_,Q_,Q_,Q_,Q_,Q_,Q_,Q_,Q_,Q_,Q_,Q_,Q_,Q_,Q_,Q_,Q_,Q_,Q_,Q_,Q_,Q_,Q_,Q_,Q_,Q_,Q_,Q_,Q_,Q_,Q_,Q_,Q_,Q_,Q_] H
def L118_1 (K:AV→Heap→Prop) (v0:AV) (v6:AV) (v7:AV) (v154:AV) (v155:AV) (v156:AV) (H:Heap):Prop:=LoopV (wpC Tryz.prog tab D118 (cAt [1,1,1,1,1,1,1,0,1,0,0] (bO_ Tryz.f118))) [0,6,7,154,155] (PostF.block 2 (PostF.thenA (wpC Tryz.prog tab D118 (cAt [1,1,1,1,1,1,1,1] (bO_ Tryz.f118))) (retF tab [] K))) [156] [v0,Q_,Q_,Q_,Q_,Q_,v6,v7,Q_,Q_,Q_,Q_,Q_,Q_,Q_,Q_,Q_,Q_,Q_,Q_,Q_,Q_,Q_,Q_,Q_,Q_,Q_,Q_,Q_,Q_,Q_,Q_,Q_,Q_,Q_,Q_,Q_,Q_,Q_,Q_,Q_,Q_,Q_,Q_,Q_,Q_,Q_,Q_,Q_,Q_,Q_,Q_,Q_,Q_,Q_,Q_,Q_,Q_,Q_,Q_,Q_,Q_,Q_,Q_,Q_,Q_,Q_,Q_,Q_,Q_,Q_,Q_,Q_,Q_,Q_,Q_,Q_,Q_,Q_,Q_,Q_,Q_,Q_,Q_,Q_,Q_,Q_,Q_,Q_,Q_,Q_,Q_,Q_,Q_,Q_,Q_,Q_,Q_,Q_,Q_,Q_,Q_,Q_,Q_,Q_,Q_,Q_,Q_,Q_,Q_,Q_,Q_,Q_,Q_,Q_,Q_,Q_,Q_,Q_,Q_,Q_,Q_,Q_,Q_,Q_,Q_,Q_,Q_,Q_,Q_,Q_,Q_,Q_,Q_,Q_,Q_,Q_,Q_,Q_,Q_,Q_,Q_,Q_,Q_,Q_,Q_,Q_,Q_,Q_,Q_,Q_,Q_,Q_,Q_,v154,v155,v156,Q_,Q_,Q_,Q_,Q_,Q_,Q_,Q_,Q_,Q_,Q_,Q_,Q_,Q_,Q_,Q_,Q_,Q_,Q_,Q_] H
def B118_1 (K:AV→Heap→Prop) (N1:AV→Heap→Prop) (v0:AV) (v6:AV) (v7:AV) (v154:AV) (v155:AV) (v156:AV) (H:Heap):Prop:=
 binV tab .lss 3 v156 v155 fun v157=>
 cV_ v157 (iA_ tab 22 v154 v156 fun v158=>
 lV_ tab 3 v158 H fun v159=>
 nC_ v0 fun v161=>
 fA_ tab 133 v161 3 fun v162=>
 lV_ tab 22 v162 H fun v163=>
 iA_ tab 22 v163 v159 fun v166=>
 sV_ tab 3 v166 v7 H fun H12=>
 binV tab .add 3 v156 (AV.p (.int .i64 1)) fun v167=>
 N1 v167 H12)
 (nC_ v0 fun v170=>
 fA_ tab 133 v170 4 fun v171=>
 lV_ tab 22 v171 H fun v172=>
 sliceV tab 22 v172 none (some v6) none fun v174=>
 nC_ v0 fun v175=>
 fA_ tab 133 v175 4 fun v176=>
 sV_ tab 22 v176 v174 H fun H13=>
 K (.tup []) H13)
def B118_0 (K:AV→Heap→Prop) (N1:AV→Heap→Prop) (v0:AV) (v1:AV) (v53:AV) (v54:AV) (v55:AV) (H:Heap):Prop:=
 binV tab .lss 3 v55 v54 fun v56=>
 cV_ v56 (iA_ tab 22 v53 v55 fun v57=>
 lV_ tab 3 v57 H fun v58=>
 nC_ v0 fun v60=>
 fA_ tab 133 v60 1 fun v61=>
 lV_ tab 22 v61 H fun v62=>
 iA_ tab 22 v62 v58 fun v64=>
 lV_ tab 3 v64 H fun v65=>
 binV tab .eql 3 v65 (AV.p (.int .i64 0)) fun v66=>
 cV_ v66 (CallT Tryz.prog 118 [v0,v58] H fun v69 H7=>
 nC_ v0 fun v71=>
 fA_ tab 133 v71 2 fun v72=>
 lV_ tab 22 v72 H7 fun v73=>
 nC_ v0 fun v76=>
 fA_ tab 133 v76 2 fun v77=>
 lV_ tab 22 v77 H7 fun v78=>
 iA_ tab 22 v78 v1 fun v80=>
 lV_ tab 3 v80 H7 fun v81=>
 nC_ v0 fun v83=>
 fA_ tab 133 v83 2 fun v84=>
 lV_ tab 22 v84 H7 fun v85=>
 iA_ tab 22 v85 v58 fun v87=>
 lV_ tab 3 v87 H7 fun v88=>
 mmV .min v81 v88 fun v89=>
 iA_ tab 22 v73 v1 fun v90=>
 sV_ tab 3 v90 v89 H7 fun H8=>
 binV tab .add 3 v55 (AV.p (.int .i64 1)) fun v120=>
 N1 v120 H8)
 (nC_ v0 fun v92=>
 fA_ tab 133 v92 3 fun v93=>
 lV_ tab 22 v93 H fun v94=>
 iA_ tab 22 v94 v58 fun v96=>
 lV_ tab 3 v96 H fun v97=>
 binV tab .lss 3 v97 (AV.p (.int .i64 0)) fun v98=>
 cV_ v98 (nC_ v0 fun v100=>
 fA_ tab 133 v100 2 fun v101=>
 lV_ tab 22 v101 H fun v102=>
 nC_ v0 fun v105=>
 fA_ tab 133 v105 2 fun v106=>
 lV_ tab 22 v106 H fun v107=>
 iA_ tab 22 v107 v1 fun v109=>
 lV_ tab 3 v109 H fun v110=>
 nC_ v0 fun v112=>
 fA_ tab 133 v112 1 fun v113=>
 lV_ tab 22 v113 H fun v114=>
 iA_ tab 22 v114 v58 fun v116=>
 lV_ tab 3 v116 H fun v117=>
 mmV .min v110 v117 fun v118=>
 iA_ tab 22 v102 v1 fun v119=>
 sV_ tab 3 v119 v118 H fun H9=>
 binV tab .add 3 v55 (AV.p (.int .i64 1)) fun v120=>
 N1 v120 H9)
 (binV tab .add 3 v55 (AV.p (.int .i64 1)) fun v120=>
 N1 v120 H)))
 (nC_ v0 fun v122=>
 fA_ tab 133 v122 2 fun v123=>
 lV_ tab 22 v123 H fun v124=>
 iA_ tab 22 v124 v1 fun v126=>
 lV_ tab 3 v126 H fun v127=>
 nC_ v0 fun v129=>
 fA_ tab 133 v129 1 fun v130=>
 lV_ tab 22 v130 H fun v131=>
 iA_ tab 22 v131 v1 fun v133=>
 lV_ tab 3 v133 H fun v134=>
 binV tab .lss 3 v127 v134 fun v135=>
 cV_ v135 (K (.tup []) H)
 (nC_ v0 fun v137=>
 fA_ tab 133 v137 4 fun v138=>
 lV_ tab 22 v138 H fun v139=>
 CallT Tryz.prog 137 [v139,v1] H fun v141 H10=>
 nC_ v0 fun v143=>
 fA_ tab 133 v143 4 fun v144=>
 lV_ tab 22 v144 H10 fun v145=>
 sliceV tab 22 v145 (some v141) none none fun v147=>
 CallT Tryz.prog 138 [v147] H10 fun v148 H11=>
 nC_ v0 fun v150=>
 fA_ tab 133 v150 4 fun v151=>
 lV_ tab 22 v151 H11 fun v152=>
 sliceV tab 22 v152 (some v141) none none fun v154=>
 lenV tab 22 v154 fun v155=>
 L118_1 K v0 v141 v148 v154 v155 (AV.p (.int .i64 0)) H11))
def W118 (v0:AV) (v1:AV) (H:Heap) (K:AV→Heap→Prop):Prop:=
 nC_ v0 fun v11=>
 fA_ tab 133 v11 5 fun v12=>
 lV_ tab 3 v12 H fun v13=>
 binV tab .add 3 v13 (AV.p (.int .i64 1)) fun v14=>
 nC_ v0 fun v15=>
 fA_ tab 133 v15 5 fun v16=>
 sV_ tab 3 v16 v14 H fun H1=>
 nC_ v0 fun v18=>
 fA_ tab 133 v18 1 fun v19=>
 lV_ tab 22 v19 H1 fun v20=>
 nC_ v0 fun v23=>
 fA_ tab 133 v23 2 fun v24=>
 lV_ tab 22 v24 H1 fun v25=>
 nC_ v0 fun v28=>
 fA_ tab 133 v28 5 fun v29=>
 lV_ tab 3 v29 H1 fun v30=>
 nC_ v0 fun v32=>
 fA_ tab 133 v32 5 fun v33=>
 lV_ tab 3 v33 H1 fun v34=>
 iA_ tab 22 v20 v1 fun v35=>
 sV_ tab 3 v35 v30 H1 fun H2=>
 iA_ tab 22 v25 v1 fun v36=>
 sV_ tab 3 v36 v34 H2 fun H3=>
 nC_ v0 fun v39=>
 fA_ tab 133 v39 4 fun v40=>
 lV_ tab 22 v40 H3 fun v41=>
 bS_ tab 22 1 [(0,v1)] H3 (wkK fun v43 H4=>
 aP_ tab 22 22 v41 v43 H4 (wkK fun v44 H5=>
 nC_ v0 fun v45=>
 fA_ tab 133 v45 4 fun v46=>
 sV_ tab 22 v46 v44 H5 fun H6=>
 nC_ v0 fun v48=>
 fA_ tab 133 v48 0 fun v49=>
 lV_ tab 24 v49 H6 fun v50=>
 iA_ tab 24 v50 v1 fun v52=>
 lV_ tab 22 v52 H6 fun v53=>
 lenV tab 22 v53 fun v54=>
 L118_0 K v0 v1 v53 v54 (AV.p (.int .i64 0)) H6))
theorem W118_wp (v0:AV) (v1:AV) (H:Heap) (K:AV→Heap→Prop):wpC Tryz.prog tab D118 (bO_ Tryz.f118) (retF tab [] K) (nthA [v0,v1]) H=W118 v0 v1 H K:=by kernel_rfl
theorem W118_ok {v0 v1:AV} {H:Heap} {K:AV→Heap→Prop} (h:W118 v0 v1 H K):CallT Tryz.prog 118 [v0,v1] H K:=
 CallT.of_wp (D:=D118) tO_ mixed Tryz.func118 (c:=bO_ Tryz.f118) (by kernel_rfl) rfl (by kernel_rfl) (rs:=#[]) rfl (by decide +kernel) (by kernel_rfl) (W118_wp v0 v1 H K) h
theorem L118_1_rule {K:AV→Heap→Prop} {v0 v6 v7 v154 v155 v156:AV} {H:Heap} {σ:Type} (s0:σ) (f156:σ→AV) (TH:σ→Heap) (pre:σ→Prop) (μ:σ→Nat)
  (h0:pre s0∧AV.wk v156 (f156 s0)∧Heap.le (TH s0) H)
  (round:∀s,pre s→B118_1 K (fun w156 H'=>∃s',pre s'∧μ s' < μ s∧AV.wk w156 (f156 s')∧Heap.le (TH s') H') v0 v6 v7 v154 v155 (f156 s) (TH s)) :
  L118_1 K v0 v6 v7 v154 v155 v156 H:=by
 unfold L118_1
 exact LoopV.mk s0 (fun s=>[f156 s]) TH pre μ (fun _=>rfl) (Eq.mp (by kernel_rfl) h0) (fun s hs=>Eq.mp (by kernel_rfl) (round s hs))
theorem L118_0_rule {K:AV→Heap→Prop} {v0 v1 v53 v54 v55:AV} {H:Heap} {σ:Type} (s0:σ) (f55:σ→AV) (TH:σ→Heap) (pre:σ→Prop) (μ:σ→Nat)
  (h0:pre s0∧AV.wk v55 (f55 s0)∧Heap.le (TH s0) H)
  (round:∀s,pre s→B118_0 K (fun w55 H'=>∃s',pre s'∧μ s' < μ s∧AV.wk w55 (f55 s')∧Heap.le (TH s') H') v0 v1 v53 v54 (f55 s) (TH s)) :
  L118_0 K v0 v1 v53 v54 v55 H:=by
 unfold L118_0
 exact LoopV.mk s0 (fun s=>[f55 s]) TH pre μ (fun _=>rfl) (Eq.mp (by kernel_rfl) h0) (fun s hs=>Eq.mp (by kernel_rfl) (round s hs))
def D121:Info:=⟨6,fun i=>([],[]),fun i=>([],[])⟩
def W121 (v0:AV) (H:Heap) (K:AV→Heap→Prop):Prop:=
 CallT Tryz.prog 150 [v0,(.fn 151 [])] H fun v4 H1=>
 unV .not v4 fun v5=>
 K v5 H1
theorem W121_wp (v0:AV) (H:Heap) (K:AV→Heap→Prop):wpC Tryz.prog tab D121 (bO_ Tryz.f121) (retF tab [.tmp 2] K) (nthA [v0]) H=W121 v0 H K:=by kernel_rfl
theorem W121_ok {v0:AV} {H:Heap} {K:AV→Heap→Prop} (h:W121 v0 H K):CallT Tryz.prog 121 [v0] H K:=
 CallT.of_wp (D:=D121) tO_ mixed Tryz.func121 (c:=bO_ Tryz.f121) (by kernel_rfl) rfl (by kernel_rfl) (rs:=#[.tmp 2]) rfl (by decide +kernel) (by kernel_rfl) (W121_wp v0 H K) h
def D122:Info:=⟨15,fun i=>([],[]),fun i=>([],[])⟩
def J122_0 (K:AV→Heap→Prop) (v3:AV) (v7:AV) (H:Heap):Prop:=
 cV_ v7 (K (AV.p (.int .i64 1)) H)
 (binV tab .eql 3 v3 (AV.p (.int .i64 5)) fun v11=>
 cV_ v11 (cV_ v11 (K (AV.p (.int .i64 2)) H)
 (K (AV.p (.int .i64 (-1))) H))
 (binV tab .eql 3 v3 (AV.p (.int .i64 6)) fun v12=>
 cV_ v12 (cV_ v12 (K (AV.p (.int .i64 2)) H)
 (K (AV.p (.int .i64 (-1))) H))
 (binV tab .eql 3 v3 (AV.p (.int .i64 7)) fun v13=>
 cV_ v13 (cV_ v13 (K (AV.p (.int .i64 2)) H)
 (K (AV.p (.int .i64 (-1))) H))
 (binV tab .eql 3 v3 (AV.p (.int .i64 8)) fun v14=>
 cV_ v14 (K (AV.p (.int .i64 2)) H)
 (K (AV.p (.int .i64 (-1))) H)))))
def J122_1 (K:AV→Heap→Prop) (v3:AV) (v4:AV) (H:Heap):Prop:=
 cV_ v4 (K (AV.p (.int .i64 0)) H)
 (binV tab .eql 3 v3 (AV.p (.int .i64 3)) fun v8=>
 cV_ v8 (J122_0 K v3 v8 H)
 (binV tab .eql 3 v3 (AV.p (.int .i64 4)) fun v9=>
 J122_0 K v3 v9 H))
def W122 (v0:AV) (H:Heap) (K:AV→Heap→Prop):Prop:=
 binV tab .eql 3 v0 (AV.p (.int .i64 1)) fun v5=>
 cV_ v5 (J122_1 K v0 v5 H)
 (binV tab .eql 3 v0 (AV.p (.int .i64 2)) fun v6=>
 J122_1 K v0 v6 H)
theorem W122_wp (v0:AV) (H:Heap) (K:AV→Heap→Prop):wpC Tryz.prog tab D122 (bO_ Tryz.f122) (retF tab [.tmp 2] K) (nthA [v0]) H=W122 v0 H K:=by kernel_rfl
theorem W122_ok {v0:AV} {H:Heap} {K:AV→Heap→Prop} (h:W122 v0 H K):CallT Tryz.prog 122 [v0] H K:=
 CallT.of_wp (D:=D122) tO_ mixed Tryz.func122 (c:=bO_ Tryz.f122) (by kernel_rfl) rfl (by kernel_rfl) (rs:=#[.tmp 2]) rfl (by decide +kernel) (by kernel_rfl) (W122_wp v0 H K) h
def D123:Info:=⟨18,fun i=>([],[]),fun i=>([],[])⟩
def W123 (v0:AV) (H:Heap) (K:AV→Heap→Prop):Prop:=
 boxV v0 H fun v1 H1=>
 fA_ tab 76 v1 0 fun v3=>
 lV_ tab 3 v3 H1 fun v4=>
 binV tab .eql 3 v4 (AV.p (.int .i64 1)) fun v6=>
 cV_ v6 (fA_ tab 76 v1 1 fun v7=>
 lV_ tab 3 v7 H1 fun v8=>
 CallT Tryz.prog 63 [v8,(AV.p (.int .i64 0)),(AV.p (.int .i64 2))] H1 fun v9 H2=>
 K v9 H2)
 (binV tab .eql 3 v4 (AV.p (.int .i64 2)) fun v11=>
 cV_ v11 (fA_ tab 76 v1 1 fun v12=>
 lV_ tab 3 v12 H1 fun v13=>
 CallT Tryz.prog 63 [v13,(AV.p (.int .i64 0)),(AV.p (.int .i64 1))] H1 fun v14 H3=>
 K v14 H3)
 (fA_ tab 76 v1 1 fun v15=>
 lV_ tab 3 v15 H1 fun v16=>
 binV tab .eql 3 v16 (AV.p (.int .i64 0)) fun v17=>
 K v17 H1))
theorem W123_wp (v0:AV) (H:Heap) (K:AV→Heap→Prop):wpC Tryz.prog tab D123 (bO_ Tryz.f123) (retF tab [.tmp 2] K) (nthA [v0]) H=W123 v0 H K:=by kernel_rfl
theorem W123_ok {v0:AV} {H:Heap} {K:AV→Heap→Prop} (h:W123 v0 H K):CallT Tryz.prog 123 [v0] H K:=
 CallT.of_wp (D:=D123) tO_ mixed Tryz.func123 (c:=bO_ Tryz.f123) (by kernel_rfl) rfl (by kernel_rfl) (rs:=#[.tmp 2]) rfl (by decide +kernel) (by kernel_rfl) (W123_wp v0 H K) h
def D124:Info:=⟨137,fun i=>([],[]),fun i=>if i=3 then ([0,1,2,3,13,14],[9,15]) else ([],[])⟩
def L124_0 (K:AV→Heap→Prop) (v0:AV) (v1:AV) (v2:AV) (v3:AV) (v9:AV) (v13:AV) (v14:AV) (v15:AV) (H:Heap):Prop:=LoopV (wpC Tryz.prog tab D124 (cAt [1,1,0,1,0,0] (bO_ Tryz.f124))) [0,1,2,3,13,14] (PostF.block 0 (PostF.thenA (wpC Tryz.prog tab D124 (cAt [1,1,1] (bO_ Tryz.f124))) (retF tab [.tmp 8] K))) [9,15] [v0,v1,v2,v3,Q_,Q_,Q_,Q_,Q_,v9,Q_,Q_,Q_,v13,v14,v15,Q_,Q_,Q_,Q_,Q_,Q_,Q_,Q_,Q_,Q_,Q_,Q_,Q_,Q_,Q_,Q_,Q_,Q_,Q_,Q_,Q_,Q_,Q_,Q_,Q_,Q_,Q_,Q_,Q_,Q_,Q_,Q_,Q_,Q_,Q_,Q_,Q_,Q_,Q_,Q_,Q_,Q_,Q_,Q_,Q_,Q_,Q_,Q_,Q_,Q_,Q_,Q_,Q_,Q_,Q_,Q_,Q_,Q_,Q_,Q_,Q_,Q_,Q_,Q_,Q_,Q_,Q_,Q_,Q_,Q_,Q_,Q_,Q_,Q_,Q_,Q_,Q_,Q_,Q_,Q_,Q_,Q_,Q_,Q_,Q_,Q_,Q_,Q_,Q_,Q_,Q_,Q_,Q_,Q_,Q_,Q_,Q_,Q_,Q_,Q_,Q_,Q_,Q_,Q_,Q_,Q_,Q_,Q_,Q_,Q_,Q_,Q_,Q_,Q_,Q_,Q_,Q_,Q_,Q_,Q_,Q_] H
def J124_1 (K:AV→Heap→Prop) (N1:AV→AV→Heap→Prop) (v0:AV) (v1:AV) (v2:AV) (v3:AV) (v9:AV) (v12:AV) (v13:AV) (v14:AV) (v15:AV) (H:Heap):Prop:=
 bS_ tab 116 1 [(0,v12)] H (wkK fun v133 H3=>
 aP_ tab 116 116 v9 v133 H3 (wkK fun v134 H4=>
 binV tab .add 3 v15 (AV.p (.int .i64 1)) fun v135=>
 N1 v134 v135 H4))
def J124_2 (K:AV→Heap→Prop) (N1:AV→AV→Heap→Prop) (v0:AV) (v1:AV) (v2:AV) (v3:AV) (v9:AV) (v13:AV) (v14:AV) (v15:AV) (H:Heap):Prop:=
 bS_ tab 116 1 [(0,(AV.p (.bool false)))] H (wkK fun v133 H7=>
 aP_ tab 116 116 v9 v133 H7 (wkK fun v134 H8=>
 binV tab .add 3 v15 (AV.p (.int .i64 1)) fun v135=>
 N1 v134 v135 H8))
def J124_3 (K:AV→Heap→Prop) (N1:AV→AV→Heap→Prop) (v0:AV) (v1:AV) (v2:AV) (v3:AV) (v9:AV) (v13:AV) (v14:AV) (v15:AV) (H:Heap):Prop:=
 bS_ tab 116 1 [(0,(AV.p (.bool true)))] H (wkK fun v133 H10=>
 aP_ tab 116 116 v9 v133 H10 (wkK fun v134 H11=>
 binV tab .add 3 v15 (AV.p (.int .i64 1)) fun v135=>
 N1 v134 v135 H11))
def B124_0 (K:AV→Heap→Prop) (N1:AV→AV→Heap→Prop) (v0:AV) (v1:AV) (v2:AV) (v3:AV) (v9:AV) (v13:AV) (v14:AV) (v15:AV) (H:Heap):Prop:=
 binV tab .lss 3 v15 v14 fun v16=>
 cV_ v16 (iA_ tab 45 v13 v15 fun v18=>
 lV_ tab 76 v18 H fun v19=>
 allocV tab 76 H fun v11 H1=>
 sV_ tab 76 v11 v19 H1 fun H2=>
 fA_ tab 76 v11 0 fun v20=>
 lV_ tab 3 v20 H2 fun v21=>
 binV tab .eql 3 v21 (AV.p (.int .i64 1)) fun v23=>
 cV_ v23 (fA_ tab 76 v11 1 fun v25=>
 lV_ tab 3 v25 H2 fun v26=>
 convV tab 3 111 v26 fun v27=>
 binV tab .shr 3 v2 v27 fun v28=>
 binV tab .and 3 v28 (AV.p (.int .i64 1)) fun v29=>
 binV tab .eql 3 v29 (AV.p (.int .i64 1)) fun v30=>
 J124_1 K N1 v0 v1 v2 v3 v9 v30 v13 v14 v15 H2)
 (binV tab .eql 3 v21 (AV.p (.int .i64 2)) fun v32=>
 cV_ v32 (fA_ tab 76 v11 1 fun v33=>
 lV_ tab 3 v33 H2 fun v34=>
 binV tab .eql 3 v34 (AV.p (.int .i64 1)) fun v35=>
 J124_1 K N1 v0 v1 v2 v3 v9 v35 v13 v14 v15 H2)
 (binV tab .eql 3 v21 (AV.p (.int .i64 3)) fun v37=>
 cV_ v37 (binV tab .sub 3 v15 (AV.p (.int .i64 1)) fun v40=>
 iA_ tab 116 v9 v40 fun v41=>
 lV_ tab 4 v41 H2 fun v42=>
 unV .not v42 fun v43=>
 J124_1 K N1 v0 v1 v2 v3 v9 v43 v13 v14 v15 H2)
 (binV tab .eql 3 v21 (AV.p (.int .i64 4)) fun v45=>
 cV_ v45 (binV tab .sub 3 v15 (AV.p (.int .i64 1)) fun v49=>
 CallT Tryz.prog 94 [v1,v3,v49] H2 fun v50 H5=>
 J124_1 K N1 v0 v1 v2 v3 v9 v50 v13 v14 v15 H5)
 (binV tab .eql 3 v21 (AV.p (.int .i64 5)) fun v52=>
 cV_ v52 (binV tab .sub 3 v15 (AV.p (.int .i64 1)) fun v56=>
 CallT Tryz.prog 152 [v0,v56] H2 fun v57 H6=>
 binV tab .sub 3 v57 (AV.p (.int .i64 1)) fun v58=>
 iA_ tab 116 v9 v58 fun v59=>
 lV_ tab 4 v59 H6 fun v60=>
 grdV v60 true (binV tab .sub 3 v15 (AV.p (.int .i64 1)) fun v64=>
 iA_ tab 116 v9 v64 fun v65=>
 lV_ tab 4 v65 H6 fun v66=>
 J124_1 K N1 v0 v1 v2 v3 v9 v66 v13 v14 v15 H6)
 (J124_2 K N1 v0 v1 v2 v3 v9 v13 v14 v15 H6))
 (binV tab .eql 3 v21 (AV.p (.int .i64 6)) fun v69=>
 cV_ v69 (binV tab .sub 3 v15 (AV.p (.int .i64 1)) fun v73=>
 CallT Tryz.prog 152 [v0,v73] H2 fun v74 H9=>
 binV tab .sub 3 v74 (AV.p (.int .i64 1)) fun v75=>
 iA_ tab 116 v9 v75 fun v76=>
 lV_ tab 4 v76 H9 fun v77=>
 grdV v77 false (binV tab .sub 3 v15 (AV.p (.int .i64 1)) fun v81=>
 iA_ tab 116 v9 v81 fun v82=>
 lV_ tab 4 v82 H9 fun v83=>
 J124_1 K N1 v0 v1 v2 v3 v9 v83 v13 v14 v15 H9)
 (J124_3 K N1 v0 v1 v2 v3 v9 v13 v14 v15 H9))
 (binV tab .eql 3 v21 (AV.p (.int .i64 7)) fun v86=>
 cV_ v86 (binV tab .sub 3 v15 (AV.p (.int .i64 1)) fun v89=>
 iA_ tab 116 v9 v89 fun v90=>
 lV_ tab 4 v90 H2 fun v91=>
 grdV v91 false (binV tab .sub 3 v15 (AV.p (.int .i64 1)) fun v96=>
 CallT Tryz.prog 152 [v0,v96] H2 fun v97 H12=>
 binV tab .sub 3 v97 (AV.p (.int .i64 1)) fun v98=>
 iA_ tab 116 v9 v98 fun v99=>
 lV_ tab 4 v99 H12 fun v100=>
 grdV v100 true (CallT Tryz.prog 94 [v1,v3,v15] H12 fun v105 H13=>
 J124_1 K N1 v0 v1 v2 v3 v9 v105 v13 v14 v15 H13)
 (J124_2 K N1 v0 v1 v2 v3 v9 v13 v14 v15 H12))
 (J124_3 K N1 v0 v1 v2 v3 v9 v13 v14 v15 H2))
 (binV tab .eql 3 v21 (AV.p (.int .i64 8)) fun v109=>
 cV_ v109 (binV tab .sub 3 v15 (AV.p (.int .i64 1)) fun v112=>
 iA_ tab 116 v9 v112 fun v113=>
 lV_ tab 4 v113 H2 fun v114=>
 grdV v114 true (binV tab .sub 3 v15 (AV.p (.int .i64 1)) fun v119=>
 CallT Tryz.prog 152 [v0,v119] H2 fun v120 H14=>
 binV tab .sub 3 v120 (AV.p (.int .i64 1)) fun v121=>
 iA_ tab 116 v9 v121 fun v122=>
 lV_ tab 4 v122 H14 fun v123=>
 grdV v123 false (CallT Tryz.prog 94 [v1,v3,v15] H14 fun v128 H15=>
 J124_1 K N1 v0 v1 v2 v3 v9 v128 v13 v14 v15 H15)
 (J124_3 K N1 v0 v1 v2 v3 v9 v13 v14 v15 H14))
 (J124_2 K N1 v0 v1 v2 v3 v9 v13 v14 v15 H2))
 (J124_2 K N1 v0 v1 v2 v3 v9 v13 v14 v15 H2)))))))))
 (K v9 H)
def W124 (v0:AV) (v1:AV) (v2:AV) (v3:AV) (H:Heap) (K:AV→Heap→Prop):Prop:=
 lenV tab 45 v0 fun v14=>
 L124_0 K v0 v1 v2 v3 (AV.p .nil) v0 v14 (AV.p (.int .i64 0)) H
theorem W124_wp (v0:AV) (v1:AV) (v2:AV) (v3:AV) (H:Heap) (K:AV→Heap→Prop):wpC Tryz.prog tab D124 (bO_ Tryz.f124) (retF tab [.tmp 8] K) (nthA [v0,v1,v2,v3]) H=W124 v0 v1 v2 v3 H K:=by kernel_rfl
theorem W124_ok {v0 v1 v2 v3:AV} {H:Heap} {K:AV→Heap→Prop} (h:W124 v0 v1 v2 v3 H K):CallT Tryz.prog 124 [v0,v1,v2,v3] H K:=
 CallT.of_wp (D:=D124) tO_ mixed Tryz.func124 (c:=bO_ Tryz.f124) (by kernel_rfl) rfl (by kernel_rfl) (rs:=#[.tmp 8]) rfl (by decide +kernel) (by kernel_rfl) (W124_wp v0 v1 v2 v3 H K) h
theorem L124_0_rule {K:AV→Heap→Prop} {v0 v1 v2 v3 v9 v13 v14 v15:AV} {H:Heap} {σ:Type} (s0:σ) (f9:σ→AV) (f15:σ→AV) (TH:σ→Heap) (pre:σ→Prop) (μ:σ→Nat)
  (h0:pre s0∧AV.wk v9 (f9 s0)∧AV.wk v15 (f15 s0)∧Heap.le (TH s0) H)
  (round:∀s,pre s→B124_0 K (fun w9 w15 H'=>∃s',pre s'∧μ s' < μ s∧AV.wk w9 (f9 s')∧AV.wk w15 (f15 s')∧Heap.le (TH s') H') v0 v1 v2 v3 (f9 s) v13 v14 (f15 s) (TH s)) :
  L124_0 K v0 v1 v2 v3 v9 v13 v14 v15 H:=by
 unfold L124_0
 exact LoopV.mk s0 (fun s=>[f9 s,f15 s]) TH pre μ (fun _=>rfl) (Eq.mp (by kernel_rfl) h0) (fun s hs=>Eq.mp (by kernel_rfl) (round s hs))
def D125:Info:=⟨15,fun i=>([],[]),fun i=>([],[])⟩
def J125_0 (K:AV→Heap→Prop) (v3:AV) (v7:AV) (H:Heap):Prop:=
 cV_ v7 (K (AV.p (.int .i64 1)) H)
 (binV tab .eql 3 v3 (AV.p (.int .i64 5)) fun v11=>
 cV_ v11 (cV_ v11 (K (AV.p (.int .i64 2)) H)
 (K (AV.p (.int .i64 (-1))) H))
 (binV tab .eql 3 v3 (AV.p (.int .i64 6)) fun v12=>
 cV_ v12 (cV_ v12 (K (AV.p (.int .i64 2)) H)
 (K (AV.p (.int .i64 (-1))) H))
 (binV tab .eql 3 v3 (AV.p (.int .i64 7)) fun v13=>
 cV_ v13 (cV_ v13 (K (AV.p (.int .i64 2)) H)
 (K (AV.p (.int .i64 (-1))) H))
 (binV tab .eql 3 v3 (AV.p (.int .i64 8)) fun v14=>
 cV_ v14 (K (AV.p (.int .i64 2)) H)
 (K (AV.p (.int .i64 (-1))) H)))))
def J125_1 (K:AV→Heap→Prop) (v3:AV) (v4:AV) (H:Heap):Prop:=
 cV_ v4 (K (AV.p (.int .i64 0)) H)
 (binV tab .eql 3 v3 (AV.p (.int .i64 3)) fun v8=>
 cV_ v8 (J125_0 K v3 v8 H)
 (binV tab .eql 3 v3 (AV.p (.int .i64 4)) fun v9=>
 J125_0 K v3 v9 H))
def W125 (v0:AV) (H:Heap) (K:AV→Heap→Prop):Prop:=
 binV tab .eql 3 v0 (AV.p (.int .i64 1)) fun v5=>
 cV_ v5 (J125_1 K v0 v5 H)
 (binV tab .eql 3 v0 (AV.p (.int .i64 2)) fun v6=>
 J125_1 K v0 v6 H)
theorem W125_wp (v0:AV) (H:Heap) (K:AV→Heap→Prop):wpC Tryz.prog tab D125 (bO_ Tryz.f125) (retF tab [.tmp 2] K) (nthA [v0]) H=W125 v0 H K:=by kernel_rfl
theorem W125_ok {v0:AV} {H:Heap} {K:AV→Heap→Prop} (h:W125 v0 H K):CallT Tryz.prog 125 [v0] H K:=
 CallT.of_wp (D:=D125) tO_ mixed Tryz.func125 (c:=bO_ Tryz.f125) (by kernel_rfl) rfl (by kernel_rfl) (rs:=#[.tmp 2]) rfl (by decide +kernel) (by kernel_rfl) (W125_wp v0 H K) h
def D126:Info:=⟨34,fun i=>([],[]),fun i=>([],[])⟩
def W126 (v0:AV) (H:Heap) (K:AV→Heap→Prop):Prop:=
 boxV v0 H fun v1 H1=>
 fA_ tab 76 v1 0 fun v3=>
 lV_ tab 3 v3 H1 fun v4=>
 binV tab .eql 3 v4 (AV.p (.int .i64 1)) fun v6=>
 cV_ v6 (fA_ tab 76 v1 1 fun v7=>
 lV_ tab 3 v7 H1 fun v8=>
 binV tab .geq 3 v8 (AV.p (.int .i64 0)) fun v9=>
 grdV v9 true (fA_ tab 76 v1 1 fun v11=>
 lV_ tab 3 v11 H1 fun v12=>
 binV tab .lss 3 v12 (AV.p (.int .i64 3)) fun v13=>
 K v13 H1)
 (K (AV.p (.bool false)) H1))
 (binV tab .eql 3 v4 (AV.p (.int .i64 2)) fun v16=>
 cV_ v16 (fA_ tab 76 v1 1 fun v17=>
 lV_ tab 3 v17 H1 fun v18=>
 binV tab .eql 3 v18 (AV.p (.int .i64 0)) fun v19=>
 grdV v19 false (fA_ tab 76 v1 1 fun v21=>
 lV_ tab 3 v21 H1 fun v22=>
 binV tab .eql 3 v22 (AV.p (.int .i64 1)) fun v23=>
 K v23 H1)
 (K (AV.p (.bool true)) H1))
 (fA_ tab 76 v1 0 fun v25=>
 lV_ tab 3 v25 H1 fun v26=>
 CallT Tryz.prog 125 [v26] H1 fun v27 H2=>
 binV tab .gtr 3 v27 (AV.p (.int .i64 0)) fun v28=>
 grdV v28 true (fA_ tab 76 v1 1 fun v30=>
 lV_ tab 3 v30 H2 fun v31=>
 binV tab .eql 3 v31 (AV.p (.int .i64 0)) fun v32=>
 K v32 H2)
 (K (AV.p (.bool false)) H2)))
theorem W126_wp (v0:AV) (H:Heap) (K:AV→Heap→Prop):wpC Tryz.prog tab D126 (bO_ Tryz.f126) (retF tab [.tmp 2] K) (nthA [v0]) H=W126 v0 H K:=by kernel_rfl
theorem W126_ok {v0:AV} {H:Heap} {K:AV→Heap→Prop} (h:W126 v0 H K):CallT Tryz.prog 126 [v0] H K:=
 CallT.of_wp (D:=D126) tO_ mixed Tryz.func126 (c:=bO_ Tryz.f126) (by kernel_rfl) rfl (by kernel_rfl) (rs:=#[.tmp 2]) rfl (by decide +kernel) (by kernel_rfl) (W126_wp v0 H K) h
def D127:Info:=⟨38,fun i=>([],[]),fun i=>if i=3 then ([10,11],[3,4,12]) else ([],[])⟩
def L127_0 (K:AV→Heap→Prop) (v3:AV) (v4:AV) (v10:AV) (v11:AV) (v12:AV) (H:Heap):Prop:=LoopV (wpC Tryz.prog tab D127 (cAt [1,1,0,1,0,0] (bO_ Tryz.f127))) [10,11] (PostF.block 0 (PostF.thenA (wpC Tryz.prog tab D127 (cAt [1,1,1] (bO_ Tryz.f127))) (retF tab [.tmp 2] K))) [3,4,12] [Q_,Q_,Q_,v3,v4,Q_,Q_,Q_,Q_,Q_,v10,v11,v12,Q_,Q_,Q_,Q_,Q_,Q_,Q_,Q_,Q_,Q_,Q_,Q_,Q_,Q_,Q_,Q_,Q_,Q_,Q_,Q_,Q_,Q_,Q_,Q_,Q_] H
def B127_0 (K:AV→Heap→Prop) (N1:AV→AV→AV→Heap→Prop) (v3:AV) (v4:AV) (v10:AV) (v11:AV) (v12:AV) (H:Heap):Prop:=
 binV tab .lss 3 v12 v11 fun v13=>
 cV_ v13 (iA_ tab 45 v10 v12 fun v15=>
 lV_ tab 76 v15 H fun v16=>
 allocV tab 76 H fun v6 H3=>
 sV_ tab 76 v6 v16 H3 fun H4=>
 lenV tab 22 v4 fun v18=>
 fA_ tab 76 v6 0 fun v19=>
 lV_ tab 3 v19 H4 fun v20=>
 CallT Tryz.prog 125 [v20] H4 fun v21 H5=>
 binV tab .sub 3 v18 v21 fun v22=>
 sliceV tab 22 v4 (some v22) none none fun v26=>
 CallT Tryz.prog 82 [v26] H5 fun v27 H6=>
 bS_ tab 24 1 [(0,v27)] H6 (wkK fun v28 H7=>
 aP_ tab 24 24 v3 v28 H7 (wkK fun v29 H8=>
 sliceV tab 22 v4 none (some v22) none fun v32=>
 bS_ tab 22 1 [(0,v12)] H8 (wkK fun v34 H9=>
 aP_ tab 22 22 v32 v34 H9 (wkK fun v35 H10=>
 binV tab .add 3 v12 (AV.p (.int .i64 1)) fun v36=>
 N1 v29 v35 v36 H10)))))
 (K v3 H)
def W127 (v0:AV) (H:Heap) (K:AV→Heap→Prop):Prop:=
 bS_ tab 24 0 [] H (wkK fun v8 H1=>
 bS_ tab 22 0 [] H1 (wkK fun v9 H2=>
 lenV tab 45 v0 fun v11=>
 L127_0 K v8 v9 v0 v11 (AV.p (.int .i64 0)) H2))
theorem W127_wp (v0:AV) (H:Heap) (K:AV→Heap→Prop):wpC Tryz.prog tab D127 (bO_ Tryz.f127) (retF tab [.tmp 2] K) (nthA [v0]) H=W127 v0 H K:=by kernel_rfl
theorem W127_ok {v0:AV} {H:Heap} {K:AV→Heap→Prop} (h:W127 v0 H K):CallT Tryz.prog 127 [v0] H K:=
 CallT.of_wp (D:=D127) tO_ mixed Tryz.func127 (c:=bO_ Tryz.f127) (by kernel_rfl) rfl (by kernel_rfl) (rs:=#[.tmp 2]) rfl (by decide +kernel) (by kernel_rfl) (W127_wp v0 H K) h
theorem L127_0_rule {K:AV→Heap→Prop} {v3 v4 v10 v11 v12:AV} {H:Heap} {σ:Type} (s0:σ) (f3:σ→AV) (f4:σ→AV) (f12:σ→AV) (TH:σ→Heap) (pre:σ→Prop) (μ:σ→Nat)
  (h0:pre s0∧AV.wk v3 (f3 s0)∧AV.wk v4 (f4 s0)∧AV.wk v12 (f12 s0)∧Heap.le (TH s0) H)
  (round:∀s,pre s→B127_0 K (fun w3 w4 w12 H'=>∃s',pre s'∧μ s' < μ s∧AV.wk w3 (f3 s')∧AV.wk w4 (f4 s')∧AV.wk w12 (f12 s')∧Heap.le (TH s') H') (f3 s) (f4 s) v10 v11 (f12 s) (TH s)) :
  L127_0 K v3 v4 v10 v11 v12 H:=by
 unfold L127_0
 exact LoopV.mk s0 (fun s=>[f3 s,f4 s,f12 s]) TH pre μ (fun _=>rfl) (Eq.mp (by kernel_rfl) h0) (fun s hs=>Eq.mp (by kernel_rfl) (round s hs))
def D129:Info:=⟨22,fun i=>([],[]),fun i=>if i=3 then ([1,9],[5,10]) else ([],[])⟩
def L129_0 (K:AV→Heap→Prop) (v1:AV) (v5:AV) (v9:AV) (v10:AV) (H:Heap):Prop:=LoopV (wpC Tryz.prog tab D129 (cAt [1,1,0,1,0,0] (bO_ Tryz.f129))) [1,9] (PostF.block 0 (PostF.thenA (wpC Tryz.prog tab D129 (cAt [1,1,1] (bO_ Tryz.f129))) (retF tab [.tmp 4] K))) [5,10] [Q_,v1,Q_,Q_,Q_,v5,Q_,Q_,Q_,v9,v10,Q_,Q_,Q_,Q_,Q_,Q_,Q_,Q_,Q_,Q_,Q_] H
def B129_0 (K:AV→Heap→Prop) (N1:AV→AV→Heap→Prop) (v1:AV) (v5:AV) (v9:AV) (v10:AV) (H:Heap):Prop:=
 binV tab .lss 3 v10 v9 fun v11=>
 cV_ v11 (callF Tryz.prog v1 [v10] H fun v15 H3=>
 cV_ v15 (bS_ tab 22 1 [(0,v10)] H3 (wkK fun v18 H4=>
 aP_ tab 22 22 v5 v18 H4 (wkK fun v19 H5=>
 binV tab .add 3 v10 (AV.p (.int .i64 1)) fun v20=>
 N1 v19 v20 H5)))
 (binV tab .add 3 v10 (AV.p (.int .i64 1)) fun v20=>
 N1 v5 v20 H3))
 (K v5 H)
def W129 (v0:AV) (v1:AV) (H:Heap) (K:AV→Heap→Prop):Prop:=
 bS_ tab 22 0 [] H (wkK fun v7 H1=>
 CallT Tryz.prog 102 [v0] H1 fun v9 H2=>
 L129_0 K v1 v7 v9 (AV.p (.int .i64 0)) H2)
theorem W129_wp (v0:AV) (v1:AV) (H:Heap) (K:AV→Heap→Prop):wpC Tryz.prog tab D129 (bO_ Tryz.f129) (retF tab [.tmp 4] K) (nthA [v0,v1]) H=W129 v0 v1 H K:=by kernel_rfl
theorem W129_ok {v0 v1:AV} {H:Heap} {K:AV→Heap→Prop} (h:W129 v0 v1 H K):CallT Tryz.prog 129 [v0,v1] H K:=
 CallT.of_wp (D:=D129) tO_ mixed Tryz.func129 (c:=bO_ Tryz.f129) (by kernel_rfl) rfl (by kernel_rfl) (rs:=#[.tmp 4]) rfl (by decide +kernel) (by kernel_rfl) (W129_wp v0 v1 H K) h
theorem L129_0_rule {K:AV→Heap→Prop} {v1 v5 v9 v10:AV} {H:Heap} {σ:Type} (s0:σ) (f5:σ→AV) (f10:σ→AV) (TH:σ→Heap) (pre:σ→Prop) (μ:σ→Nat)
  (h0:pre s0∧AV.wk v5 (f5 s0)∧AV.wk v10 (f10 s0)∧Heap.le (TH s0) H)
  (round:∀s,pre s→B129_0 K (fun w5 w10 H'=>∃s',pre s'∧μ s' < μ s∧AV.wk w5 (f5 s')∧AV.wk w10 (f10 s')∧Heap.le (TH s') H') v1 (f5 s) v9 (f10 s) (TH s)) :
  L129_0 K v1 v5 v9 v10 H:=by
 unfold L129_0
 exact LoopV.mk s0 (fun s=>[f5 s,f10 s]) TH pre μ (fun _=>rfl) (Eq.mp (by kernel_rfl) h0) (fun s hs=>Eq.mp (by kernel_rfl) (round s hs))
def D130:Info:=⟨14,fun i=>if i=1 then ([[],[],[],[2],[2,3],[0,1,2,3,4],[],[0,1,2,3,4,5,6],[0,1,2,3,4,5,6,7]],[(0,[]),(1,[]),(2,[]),(3,[]),(4,[]),(6,[]),(5,[6]),(7,[]),(8,[])]) else ([],[]),fun i=>([],[])⟩
def W130 (v0:AV) (v1:AV) (v2:AV) (v3:AV) (H:Heap) (K:AV→Heap→Prop):Prop:=
 lV_ tab 22 v1 H fun v6=>
 lV_ tab 45 v2 H fun v8=>
 lenV tab 45 v8 fun v9=>
 binV tab .sub 3 v9 (AV.p (.int .i64 1)) fun v10=>
 lV_ tab 4 v3 H fun v12=>
 CallT Tryz.prog 131 [v6,v0,v10] H fun v11 H1=>
 (lV_ tab 4 v3 H1 fun v9012=>
 v12=v9012)∧
 binV tab .eql 4 v11 v12 fun v13=>
 K v13 H1
theorem W130_wp (v0:AV) (v1:AV) (v2:AV) (v3:AV) (H:Heap) (K:AV→Heap→Prop):wpC Tryz.prog tab D130 (bO_ Tryz.f130) (retF tab [.tmp 5] K) (nthA [v0,v1,v2,v3]) H=W130 v0 v1 v2 v3 H K:=by kernel_rfl
theorem W130_ok {v0 v1 v2 v3:AV} {H:Heap} {K:AV→Heap→Prop} (h:W130 v0 v1 v2 v3 H K):CallT Tryz.prog 130 [v0,v1,v2,v3] H K:=
 CallT.of_wp (D:=D130) tO_ mixed Tryz.func130 (c:=bO_ Tryz.f130) (by kernel_rfl) rfl (by kernel_rfl) (rs:=#[.tmp 5]) rfl (by decide +kernel) (by kernel_rfl) (W130_wp v0 v1 v2 v3 H K) h
def D131:Info:=⟨14,fun i=>([],[]),fun i=>([],[])⟩
def W131 (v0:AV) (v1:AV) (v2:AV) (H:Heap) (K:AV→Heap→Prop):Prop:=
 CallT Tryz.prog 137 [v0,v2] H fun v10 H1=>
 binV tab .shr 3 v1 v10 fun v11=>
 binV tab .and 3 v11 (AV.p (.int .i64 1)) fun v12=>
 binV tab .eql 3 v12 (AV.p (.int .i64 1)) fun v13=>
 K v13 H1
theorem W131_wp (v0:AV) (v1:AV) (v2:AV) (H:Heap) (K:AV→Heap→Prop):wpC Tryz.prog tab D131 (bO_ Tryz.f131) (retF tab [.tmp 6] K) (nthA [v0,v1,v2]) H=W131 v0 v1 v2 H K:=by kernel_rfl
theorem W131_ok {v0 v1 v2:AV} {H:Heap} {K:AV→Heap→Prop} (h:W131 v0 v1 v2 H K):CallT Tryz.prog 131 [v0,v1,v2] H K:=
 CallT.of_wp (D:=D131) tO_ mixed Tryz.func131 (c:=bO_ Tryz.f131) (by kernel_rfl) rfl (by kernel_rfl) (rs:=#[.tmp 6]) rfl (by decide +kernel) (by kernel_rfl) (W131_wp v0 v1 v2 H K) h
def D132:Info:=⟨44,fun i=>if i=1 then ([[],[],[],[0,1,2],[],[],[],[],[6,7],[6,7,8],[6,7,8,9],[6,7,8,9,10],[0,1,2,3,4,5,6,7,8,9,10,11],[0,1,2,3,4,5,6,7,8,9,10,11,12],[0,1,2,3,4,5,6,7,8,9,10,11,12,13]],[(0,[]),(1,[]),(2,[]),(4,[]),(5,[]),(6,[]),(7,[]),(8,[]),(9,[]),(10,[]),(11,[]),(3,[4,6,7,9,11]),(12,[]),(13,[]),(14,[])]) else ([],[]),fun i=>([],[])⟩
def W132 (v0:AV) (v1:AV) (v2:AV) (v3:AV) (v4:AV) (H:Heap) (K:AV→Heap→Prop):Prop:=
 lV_ tab 22 v1 H fun v9=>
 lV_ tab 3 v2 H fun v11=>
 lV_ tab 22 v1 H fun v13=>
 lV_ tab 24 v3 H fun v15=>
 lV_ tab 3 v2 H fun v16=>
 iA_ tab 24 v15 v16 fun v17=>
 lV_ tab 22 v17 H fun v18=>
 iA_ tab 22 v18 (AV.p (.int .i64 1)) fun v19=>
 lV_ tab 3 v19 H fun v20=>
 CallT Tryz.prog 131 [v9,v0,v11] H fun v12 H1=>
 (lV_ tab 22 v1 H1 fun v9013=>
 v13=v9013)∧
 (lV_ tab 24 v3 H1 fun v9015=>
 v15=v9015)∧
 (lV_ tab 3 v2 H1 fun v9016=>
 v16=v9016)∧
 (lV_ tab 22 v17 H1 fun v9018=>
 v18=v9018)∧
 (lV_ tab 3 v19 H1 fun v9020=>
 v20=v9020)∧
 CallT Tryz.prog 131 [v13,v0,v20] H1 fun v21 H2=>
 fA_ tab 76 v4 0 fun v22=>
 lV_ tab 3 v22 H2 fun v23=>
 binV tab .eql 3 v23 (AV.p (.int .i64 7)) fun v24=>
 grdV v24 true (unV .not v12 fun v27=>
 grdV v27 false (grdV v21 false (fA_ tab 76 v4 0 fun v33=>
 lV_ tab 3 v33 H2 fun v34=>
 binV tab .eql 3 v34 (AV.p (.int .i64 8)) fun v35=>
 grdV v35 true (grdV v12 false (unV .not v21 fun v40=>
 K v40 H2)
 (K (AV.p (.bool true)) H2))
 (K (AV.p (.bool false)) H2))
 (K (AV.p (.bool true)) H2))
 (K (AV.p (.bool true)) H2))
 (fA_ tab 76 v4 0 fun v33=>
 lV_ tab 3 v33 H2 fun v34=>
 binV tab .eql 3 v34 (AV.p (.int .i64 8)) fun v35=>
 grdV v35 true (grdV v12 false (unV .not v21 fun v40=>
 K v40 H2)
 (K (AV.p (.bool true)) H2))
 (K (AV.p (.bool false)) H2))
theorem W132_wp (v0:AV) (v1:AV) (v2:AV) (v3:AV) (v4:AV) (H:Heap) (K:AV→Heap→Prop):wpC Tryz.prog tab D132 (bO_ Tryz.f132) (retF tab [.tmp 6] K) (nthA [v0,v1,v2,v3,v4]) H=W132 v0 v1 v2 v3 v4 H K:=by kernel_rfl
theorem W132_ok {v0 v1 v2 v3 v4:AV} {H:Heap} {K:AV→Heap→Prop} (h:W132 v0 v1 v2 v3 v4 H K):CallT Tryz.prog 132 [v0,v1,v2,v3,v4] H K:=
 CallT.of_wp (D:=D132) tO_ mixed Tryz.func132 (c:=bO_ Tryz.f132) (by kernel_rfl) rfl (by kernel_rfl) (rs:=#[.tmp 6]) rfl (by decide +kernel) (by kernel_rfl) (W132_wp v0 v1 v2 v3 v4 H K) h
def D133:Info:=⟨167,fun i=>([],[]),fun i=>if i=3 then ([1,2,8,9,18,19],[7,20]) else ([],[])⟩
def L133_0 (K:AV→Heap→Prop) (v1:AV) (v2:AV) (v7:AV) (v8:AV) (v9:AV) (v18:AV) (v19:AV) (v20:AV) (H:Heap):Prop:=LoopV (wpC Tryz.prog tab D133 (cAt [1,1,0,1,0,0] (bO_ Tryz.f133))) [1,2,8,9,18,19] (PostF.block 0 (PostF.thenA (wpC Tryz.prog tab D133 (cAt [1,1,1] (bO_ Tryz.f133))) (retF tab [.tmp 6] K))) [7,20] [Q_,v1,v2,Q_,Q_,Q_,Q_,v7,v8,v9,Q_,Q_,Q_,Q_,Q_,Q_,Q_,Q_,v18,v19,v20,Q_,Q_,Q_,Q_,Q_,Q_,Q_,Q_,Q_,Q_,Q_,Q_,Q_,Q_,Q_,Q_,Q_,Q_,Q_,Q_,Q_,Q_,Q_,Q_,Q_,Q_,Q_,Q_,Q_,Q_,Q_,Q_,Q_,Q_,Q_,Q_,Q_,Q_,Q_,Q_,Q_,Q_,Q_,Q_,Q_,Q_,Q_,Q_,Q_,Q_,Q_,Q_,Q_,Q_,Q_,Q_,Q_,Q_,Q_,Q_,Q_,Q_,Q_,Q_,Q_,Q_,Q_,Q_,Q_,Q_,Q_,Q_,Q_,Q_,Q_,Q_,Q_,Q_,Q_,Q_,Q_,Q_,Q_,Q_,Q_,Q_,Q_,Q_,Q_,Q_,Q_,Q_,Q_,Q_,Q_,Q_,Q_,Q_,Q_,Q_,Q_,Q_,Q_,Q_,Q_,Q_,Q_,Q_,Q_,Q_,Q_,Q_,Q_,Q_,Q_,Q_,Q_,Q_,Q_,Q_,Q_,Q_,Q_,Q_,Q_,Q_,Q_,Q_,Q_,Q_,Q_,Q_,Q_,Q_,Q_,Q_,Q_,Q_,Q_,Q_,Q_,Q_,Q_,Q_,Q_,Q_] H
def J133_1 (K:AV→Heap→Prop) (N1:AV→AV→Heap→Prop) (v1:AV) (v2:AV) (v7:AV) (v8:AV) (v9:AV) (v12:AV) (v18:AV) (v19:AV) (v20:AV) (H:Heap):Prop:=
 bS_ tab 116 1 [(0,v12)] H (wkK fun v163 H6=>
 aP_ tab 116 116 v7 v163 H6 (wkK fun v164 H7=>
 binV tab .add 3 v20 (AV.p (.int .i64 1)) fun v165=>
 N1 v164 v165 H7))
def J133_2 (K:AV→Heap→Prop) (N1:AV→AV→Heap→Prop) (v1:AV) (v2:AV) (v7:AV) (v8:AV) (v9:AV) (v18:AV) (v19:AV) (v20:AV) (H:Heap):Prop:=
 bS_ tab 116 1 [(0,(AV.p (.bool false)))] H (wkK fun v163 H9=>
 aP_ tab 116 116 v7 v163 H9 (wkK fun v164 H10=>
 binV tab .add 3 v20 (AV.p (.int .i64 1)) fun v165=>
 N1 v164 v165 H10))
def J133_3 (K:AV→Heap→Prop) (N1:AV→AV→Heap→Prop) (v1:AV) (v2:AV) (v7:AV) (v8:AV) (v9:AV) (v18:AV) (v19:AV) (v20:AV) (H:Heap):Prop:=
 bS_ tab 116 1 [(0,(AV.p (.bool true)))] H (wkK fun v163 H11=>
 aP_ tab 116 116 v7 v163 H11 (wkK fun v164 H12=>
 binV tab .add 3 v20 (AV.p (.int .i64 1)) fun v165=>
 N1 v164 v165 H12))
def B133_0 (K:AV→Heap→Prop) (N1:AV→AV→Heap→Prop) (v1:AV) (v2:AV) (v7:AV) (v8:AV) (v9:AV) (v18:AV) (v19:AV) (v20:AV) (H:Heap):Prop:=
 binV tab .lss 3 v20 v19 fun v21=>
 cV_ v21 (iA_ tab 45 v18 v20 fun v23=>
 lV_ tab 76 v23 H fun v24=>
 allocV tab 76 H fun v11 H4=>
 sV_ tab 76 v11 v24 H4 fun H5=>
 fA_ tab 76 v11 1 fun v25=>
 lV_ tab 3 v25 H5 fun v26=>
 binV tab .eql 3 v26 (AV.p (.int .i64 1)) fun v27=>
 fA_ tab 76 v11 0 fun v28=>
 lV_ tab 3 v28 H5 fun v29=>
 binV tab .eql 3 v29 (AV.p (.int .i64 1)) fun v31=>
 cV_ v31 (fA_ tab 76 v11 1 fun v33=>
 lV_ tab 3 v33 H5 fun v34=>
 binV tab .shr 3 v1 v34 fun v35=>
 binV tab .and 3 v35 (AV.p (.int .i64 1)) fun v36=>
 binV tab .eql 3 v36 (AV.p (.int .i64 1)) fun v37=>
 J133_1 K N1 v1 v2 v7 v8 v9 v37 v18 v19 v20 H5)
 (binV tab .eql 3 v29 (AV.p (.int .i64 3)) fun v39=>
 cV_ v39 (iA_ tab 24 v8 v20 fun v43=>
 lV_ tab 22 v43 H5 fun v44=>
 iA_ tab 22 v44 (AV.p (.int .i64 0)) fun v45=>
 lV_ tab 3 v45 H5 fun v46=>
 iA_ tab 116 v7 v46 fun v47=>
 lV_ tab 4 v47 H5 fun v48=>
 unV .not v48 fun v49=>
 J133_1 K N1 v1 v2 v7 v8 v9 v49 v18 v19 v20 H5)
 (binV tab .eql 3 v29 (AV.p (.int .i64 4)) fun v51=>
 cV_ v51 (iA_ tab 24 v8 v20 fun v56=>
 lV_ tab 22 v56 H5 fun v57=>
 iA_ tab 22 v57 (AV.p (.int .i64 0)) fun v58=>
 lV_ tab 3 v58 H5 fun v59=>
 CallT Tryz.prog 131 [v9,v2,v59] H5 fun v60 H8=>
 J133_1 K N1 v1 v2 v7 v8 v9 v60 v18 v19 v20 H8)
 (binV tab .eql 3 v29 (AV.p (.int .i64 5)) fun v62=>
 cV_ v62 (iA_ tab 24 v8 v20 fun v66=>
 lV_ tab 22 v66 H5 fun v67=>
 iA_ tab 22 v67 (AV.p (.int .i64 0)) fun v68=>
 lV_ tab 3 v68 H5 fun v69=>
 iA_ tab 116 v7 v69 fun v70=>
 lV_ tab 4 v70 H5 fun v71=>
 grdV v71 true (iA_ tab 24 v8 v20 fun v76=>
 lV_ tab 22 v76 H5 fun v77=>
 iA_ tab 22 v77 (AV.p (.int .i64 1)) fun v78=>
 lV_ tab 3 v78 H5 fun v79=>
 iA_ tab 116 v7 v79 fun v80=>
 lV_ tab 4 v80 H5 fun v81=>
 J133_1 K N1 v1 v2 v7 v8 v9 v81 v18 v19 v20 H5)
 (J133_2 K N1 v1 v2 v7 v8 v9 v18 v19 v20 H5))
 (binV tab .eql 3 v29 (AV.p (.int .i64 6)) fun v84=>
 cV_ v84 (iA_ tab 24 v8 v20 fun v88=>
 lV_ tab 22 v88 H5 fun v89=>
 iA_ tab 22 v89 (AV.p (.int .i64 0)) fun v90=>
 lV_ tab 3 v90 H5 fun v91=>
 iA_ tab 116 v7 v91 fun v92=>
 lV_ tab 4 v92 H5 fun v93=>
 grdV v93 false (iA_ tab 24 v8 v20 fun v98=>
 lV_ tab 22 v98 H5 fun v99=>
 iA_ tab 22 v99 (AV.p (.int .i64 1)) fun v100=>
 lV_ tab 3 v100 H5 fun v101=>
 iA_ tab 116 v7 v101 fun v102=>
 lV_ tab 4 v102 H5 fun v103=>
 J133_1 K N1 v1 v2 v7 v8 v9 v103 v18 v19 v20 H5)
 (J133_3 K N1 v1 v2 v7 v8 v9 v18 v19 v20 H5))
 (binV tab .eql 3 v29 (AV.p (.int .i64 7)) fun v106=>
 cV_ v106 (iA_ tab 24 v8 v20 fun v110=>
 lV_ tab 22 v110 H5 fun v111=>
 iA_ tab 22 v111 (AV.p (.int .i64 1)) fun v112=>
 lV_ tab 3 v112 H5 fun v113=>
 iA_ tab 116 v7 v113 fun v114=>
 lV_ tab 4 v114 H5 fun v115=>
 grdV v115 false (iA_ tab 24 v8 v20 fun v120=>
 lV_ tab 22 v120 H5 fun v121=>
 iA_ tab 22 v121 (AV.p (.int .i64 0)) fun v122=>
 lV_ tab 3 v122 H5 fun v123=>
 iA_ tab 116 v7 v123 fun v124=>
 lV_ tab 4 v124 H5 fun v125=>
 grdV v125 true (CallT Tryz.prog 131 [v9,v2,v20] H5 fun v130 H13=>
 J133_1 K N1 v1 v2 v7 v8 v9 v130 v18 v19 v20 H13)
 (J133_2 K N1 v1 v2 v7 v8 v9 v18 v19 v20 H5))
 (J133_3 K N1 v1 v2 v7 v8 v9 v18 v19 v20 H5))
 (binV tab .eql 3 v29 (AV.p (.int .i64 8)) fun v134=>
 cV_ v134 (iA_ tab 24 v8 v20 fun v138=>
 lV_ tab 22 v138 H5 fun v139=>
 iA_ tab 22 v139 (AV.p (.int .i64 1)) fun v140=>
 lV_ tab 3 v140 H5 fun v141=>
 iA_ tab 116 v7 v141 fun v142=>
 lV_ tab 4 v142 H5 fun v143=>
 grdV v143 true (iA_ tab 24 v8 v20 fun v148=>
 lV_ tab 22 v148 H5 fun v149=>
 iA_ tab 22 v149 (AV.p (.int .i64 0)) fun v150=>
 lV_ tab 3 v150 H5 fun v151=>
 iA_ tab 116 v7 v151 fun v152=>
 lV_ tab 4 v152 H5 fun v153=>
 grdV v153 false (CallT Tryz.prog 131 [v9,v2,v20] H5 fun v158 H14=>
 J133_1 K N1 v1 v2 v7 v8 v9 v158 v18 v19 v20 H14)
 (J133_3 K N1 v1 v2 v7 v8 v9 v18 v19 v20 H5))
 (J133_2 K N1 v1 v2 v7 v8 v9 v18 v19 v20 H5))
 (J133_1 K N1 v1 v2 v7 v8 v9 v27 v18 v19 v20 H5))))))))
 (K v7 H)
def W133 (v0:AV) (v1:AV) (v2:AV) (H:Heap) (K:AV→Heap→Prop):Prop:=
 bS_ tab 116 0 [] H (wkK fun v13 H1=>
 CallT Tryz.prog 127 [v0] H1 fun v15 H2=>
 CallT Tryz.prog 100 [v0] H2 fun v17 H3=>
 lenV tab 45 v0 fun v19=>
 L133_0 K v1 v2 v13 v15 v17 v0 v19 (AV.p (.int .i64 0)) H3)
theorem W133_wp (v0:AV) (v1:AV) (v2:AV) (H:Heap) (K:AV→Heap→Prop):wpC Tryz.prog tab D133 (bO_ Tryz.f133) (retF tab [.tmp 6] K) (nthA [v0,v1,v2]) H=W133 v0 v1 v2 H K:=by kernel_rfl
theorem W133_ok {v0 v1 v2:AV} {H:Heap} {K:AV→Heap→Prop} (h:W133 v0 v1 v2 H K):CallT Tryz.prog 133 [v0,v1,v2] H K:=
 CallT.of_wp (D:=D133) tO_ mixed Tryz.func133 (c:=bO_ Tryz.f133) (by kernel_rfl) rfl (by kernel_rfl) (rs:=#[.tmp 6]) rfl (by decide +kernel) (by kernel_rfl) (W133_wp v0 v1 v2 H K) h
theorem L133_0_rule {K:AV→Heap→Prop} {v1 v2 v7 v8 v9 v18 v19 v20:AV} {H:Heap} {σ:Type} (s0:σ) (f7:σ→AV) (f20:σ→AV) (TH:σ→Heap) (pre:σ→Prop) (μ:σ→Nat)
  (h0:pre s0∧AV.wk v7 (f7 s0)∧AV.wk v20 (f20 s0)∧Heap.le (TH s0) H)
  (round:∀s,pre s→B133_0 K (fun w7 w20 H'=>∃s',pre s'∧μ s' < μ s∧AV.wk w7 (f7 s')∧AV.wk w20 (f20 s')∧Heap.le (TH s') H') v1 v2 (f7 s) v8 v9 v18 v19 (f20 s) (TH s)) :
  L133_0 K v1 v2 v7 v8 v9 v18 v19 v20 H:=by
 unfold L133_0
 exact LoopV.mk s0 (fun s=>[f7 s,f20 s]) TH pre μ (fun _=>rfl) (Eq.mp (by kernel_rfl) h0) (fun s hs=>Eq.mp (by kernel_rfl) (round s hs))
def D134:Info:=⟨19,fun i=>([],[]),fun i=>if i=2 then ([0,1,7],[8]) else ([],[])⟩
def L134_0 (K:AV→Heap→Prop) (v0:AV) (v1:AV) (v7:AV) (v8:AV) (H:Heap):Prop:=LoopV (wpC Tryz.prog tab D134 (cAt [1,0,1,0,0] (bO_ Tryz.f134))) [0,1,7] (PostF.block 0 (PostF.thenA (wpC Tryz.prog tab D134 (cAt [1,1] (bO_ Tryz.f134))) (retF tab [.tmp 4] K))) [8] [v0,v1,Q_,Q_,Q_,Q_,Q_,v7,v8,Q_,Q_,Q_,Q_,Q_,Q_,Q_,Q_,Q_,Q_] H
def B134_0 (K:AV→Heap→Prop) (N1:AV→Heap→Prop) (v0:AV) (v1:AV) (v7:AV) (v8:AV) (H:Heap):Prop:=
 binV tab .lss 3 v8 v7 fun v9=>
 cV_ v9 (iA_ tab 24 v0 v8 fun v14=>
 lV_ tab 22 v14 H fun v15=>
 callF Tryz.prog v1 [v15] H fun v16 H1=>
 cV_ v16 (K v8 H1)
 (binV tab .add 3 v8 (AV.p (.int .i64 1)) fun v18=>
 N1 v18 H1))
 (K (AV.p (.int .i64 (-1))) H)
def W134 (v0:AV) (v1:AV) (H:Heap) (K:AV→Heap→Prop):Prop:=
 lenV tab 24 v0 fun v7=>
 L134_0 K v0 v1 v7 (AV.p (.int .i64 0)) H
theorem W134_wp (v0:AV) (v1:AV) (H:Heap) (K:AV→Heap→Prop):wpC Tryz.prog tab D134 (bO_ Tryz.f134) (retF tab [.tmp 4] K) (nthA [v0,v1]) H=W134 v0 v1 H K:=by kernel_rfl
theorem W134_ok {v0 v1:AV} {H:Heap} {K:AV→Heap→Prop} (h:W134 v0 v1 H K):CallT Tryz.prog 134 [v0,v1] H K:=
 CallT.of_wp (D:=D134) tO_ mixed Tryz.func134 (c:=bO_ Tryz.f134) (by kernel_rfl) rfl (by kernel_rfl) (rs:=#[.tmp 4]) rfl (by decide +kernel) (by kernel_rfl) (W134_wp v0 v1 H K) h
theorem L134_0_rule {K:AV→Heap→Prop} {v0 v1 v7 v8:AV} {H:Heap} {σ:Type} (s0:σ) (f8:σ→AV) (TH:σ→Heap) (pre:σ→Prop) (μ:σ→Nat)
  (h0:pre s0∧AV.wk v8 (f8 s0)∧Heap.le (TH s0) H)
  (round:∀s,pre s→B134_0 K (fun w8 H'=>∃s',pre s'∧μ s' < μ s∧AV.wk w8 (f8 s')∧Heap.le (TH s') H') v0 v1 v7 (f8 s) (TH s)) :
  L134_0 K v0 v1 v7 v8 H:=by
 unfold L134_0
 exact LoopV.mk s0 (fun s=>[f8 s]) TH pre μ (fun _=>rfl) (Eq.mp (by kernel_rfl) h0) (fun s hs=>Eq.mp (by kernel_rfl) (round s hs))
def D135:Info:=⟨6,fun i=>([],[]),fun i=>([],[])⟩
def W135 (v0:AV) (H:Heap) (K:AV→Heap→Prop):Prop:=
 binV tab .neq 3 v0 v0 fun v5=>
 K v5 H
theorem W135_wp (v0:AV) (H:Heap) (K:AV→Heap→Prop):wpC Tryz.prog tab D135 (bO_ Tryz.f135) (retF tab [.tmp 2] K) (nthA [v0]) H=W135 v0 H K:=by kernel_rfl
theorem W135_ok {v0:AV} {H:Heap} {K:AV→Heap→Prop} (h:W135 v0 H K):CallT Tryz.prog 135 [v0] H K:=
 CallT.of_wp (D:=D135) tO_ mixed Tryz.func135 (c:=bO_ Tryz.f135) (by kernel_rfl) rfl (by kernel_rfl) (rs:=#[.tmp 2]) rfl (by decide +kernel) (by kernel_rfl) (W135_wp v0 H K) h
def D136:Info:=⟨30,fun i=>([],[]),fun i=>([],[])⟩
def W136 (v0:AV) (v1:AV) (H:Heap) (K:AV→Heap→Prop):Prop:=
 CallT Tryz.prog 162 [v0,v1] H fun v25 H1=>
 xV_ v25 0 fun v26=>
 xV_ v25 1 fun v27=>
 K (.tup [v26,v27]) H1
theorem W136_wp (v0:AV) (v1:AV) (H:Heap) (K:AV→Heap→Prop):wpC Tryz.prog tab D136 (bO_ Tryz.f136) (retF tab [.tmp 4,.tmp 5] K) (nthA [v0,v1]) H=W136 v0 v1 H K:=by kernel_rfl
theorem W136_ok {v0 v1:AV} {H:Heap} {K:AV→Heap→Prop} (h:W136 v0 v1 H K):CallT Tryz.prog 136 [v0,v1] H K:=
 CallT.of_wp (D:=D136) tO_ mixed Tryz.func136 (c:=bO_ Tryz.f136) (by kernel_rfl) rfl (by kernel_rfl) (rs:=#[.tmp 4,.tmp 5]) rfl (by decide +kernel) (by kernel_rfl) (W136_wp v0 v1 H K) h
end Go.Proofs.YtolffbcnbcjeaaaGreat
namespace Go.Proofs.YtolffbcnbcjeaaaGreat
open Go Go.Sep
attribute [local irreducible] wpC headF
def D137:Info:=⟨19,fun i=>([],[]),fun i=>if i=2 then ([0,1,7],[8]) else ([],[])⟩
def L137_0 (K:AV→Heap→Prop) (v0:AV) (v1:AV) (v7:AV) (v8:AV) (H:Heap):Prop:=LoopV (wpC Tryz.prog tab D137 (cAt [1,0,1,0,0] (bO_ Tryz.f137))) [0,1,7] (PostF.block 0 (PostF.thenA (wpC Tryz.prog tab D137 (cAt [1,1] (bO_ Tryz.f137))) (retF tab [.tmp 4] K))) [8] [v0,v1,Q_,Q_,Q_,Q_,Q_,v7,v8,Q_,Q_,Q_,Q_,Q_,Q_,Q_,Q_,Q_,Q_] H
def B137_0 (K:AV→Heap→Prop) (N1:AV→Heap→Prop) (v0:AV) (v1:AV) (v7:AV) (v8:AV) (H:Heap):Prop:=
 binV tab .lss 3 v8 v7 fun v9=>
 cV_ v9 (iA_ tab 22 v0 v8 fun v14=>
 lV_ tab 3 v14 H fun v15=>
 binV tab .eql 3 v1 v15 fun v16=>
 cV_ v16 (K v8 H)
 (binV tab .add 3 v8 (AV.p (.int .i64 1)) fun v18=>
 N1 v18 H))
 (K (AV.p (.int .i64 (-1))) H)
def W137 (v0:AV) (v1:AV) (H:Heap) (K:AV→Heap→Prop):Prop:=
 lenV tab 22 v0 fun v7=>
 L137_0 K v0 v1 v7 (AV.p (.int .i64 0)) H
theorem W137_wp (v0:AV) (v1:AV) (H:Heap) (K:AV→Heap→Prop):wpC Tryz.prog tab D137 (bO_ Tryz.f137) (retF tab [.tmp 4] K) (nthA [v0,v1]) H=W137 v0 v1 H K:=by kernel_rfl
theorem W137_ok {v0 v1:AV} {H:Heap} {K:AV→Heap→Prop} (h:W137 v0 v1 H K):CallT Tryz.prog 137 [v0,v1] H K:=
 CallT.of_wp (D:=D137) tO_ mixed Tryz.func137 (c:=bO_ Tryz.f137) (by kernel_rfl) rfl (by kernel_rfl) (rs:=#[.tmp 4]) rfl (by decide +kernel) (by kernel_rfl) (W137_wp v0 v1 H K) h
theorem L137_0_rule {K:AV→Heap→Prop} {v0 v1 v7 v8:AV} {H:Heap} {σ:Type} (s0:σ) (f8:σ→AV) (TH:σ→Heap) (pre:σ→Prop) (μ:σ→Nat)
  (h0:pre s0∧AV.wk v8 (f8 s0)∧Heap.le (TH s0) H)
  (round:∀s,pre s→B137_0 K (fun w8 H'=>∃s',pre s'∧μ s' < μ s∧AV.wk w8 (f8 s')∧Heap.le (TH s') H') v0 v1 v7 (f8 s) (TH s)) :
  L137_0 K v0 v1 v7 v8 H:=by
 unfold L137_0
 exact LoopV.mk s0 (fun s=>[f8 s]) TH pre μ (fun _=>rfl) (Eq.mp (by kernel_rfl) h0) (fun s hs=>Eq.mp (by kernel_rfl) (round s hs))
def D138:Info:=⟨25,fun i=>([],[]),fun i=>if i=5 then ([0],[3,4]) else ([],[])⟩
def L138_0 (K:AV→Heap→Prop) (v0:AV) (v3:AV) (v4:AV) (H:Heap):Prop:=LoopV (wpC Tryz.prog tab D138 (cAt [1,1,1,0,1,0,0] (bO_ Tryz.f138))) [0] (PostF.block 0 (PostF.thenA (wpC Tryz.prog tab D138 (cAt [1,1,1,1] (bO_ Tryz.f138))) (retF tab [.tmp 2] K))) [3,4] [v0,Q_,Q_,v3,v4,Q_,Q_,Q_,Q_,Q_,Q_,Q_,Q_,Q_,Q_,Q_,Q_,Q_,Q_,Q_,Q_,Q_,Q_,Q_,Q_] H
def B138_0 (K:AV→Heap→Prop) (N1:AV→AV→Heap→Prop) (v0:AV) (v3:AV) (v4:AV) (H:Heap):Prop:=
 lenV tab 22 v0 fun v14=>
 binV tab .lss 3 v4 v14 fun v15=>
 cV_ v15 (iA_ tab 22 v0 v4 fun v21=>
 lV_ tab 3 v21 H fun v22=>
 mmV .min v3 v22 fun v23=>
 binV tab .add 3 v4 (AV.p (.int .i64 1)) fun v17=>
 N1 v23 v17 H)
 (K v3 H)
def W138 (v0:AV) (H:Heap) (K:AV→Heap→Prop):Prop:=
 lenV tab 22 v0 fun v6=>
 binV tab .lss 3 v6 (AV.p (.int .i64 1)) fun v7=>
 cV_ v7 (False)
 (iA_ tab 22 v0 (AV.p (.int .i64 0)) fun v10=>
 lV_ tab 3 v10 H fun v11=>
 L138_0 K v0 v11 (AV.p (.int .i64 1)) H)
theorem W138_wp (v0:AV) (H:Heap) (K:AV→Heap→Prop):wpC Tryz.prog tab D138 (bO_ Tryz.f138) (retF tab [.tmp 2] K) (nthA [v0]) H=W138 v0 H K:=by kernel_rfl
theorem W138_ok {v0:AV} {H:Heap} {K:AV→Heap→Prop} (h:W138 v0 H K):CallT Tryz.prog 138 [v0] H K:=
 CallT.of_wp (D:=D138) tO_ mixed Tryz.func138 (c:=bO_ Tryz.f138) (by kernel_rfl) rfl (by kernel_rfl) (rs:=#[.tmp 2]) rfl (by decide +kernel) (by kernel_rfl) (W138_wp v0 H K) h
theorem L138_0_rule {K:AV→Heap→Prop} {v0 v3 v4:AV} {H:Heap} {σ:Type} (s0:σ) (f3:σ→AV) (f4:σ→AV) (TH:σ→Heap) (pre:σ→Prop) (μ:σ→Nat)
  (h0:pre s0∧AV.wk v3 (f3 s0)∧AV.wk v4 (f4 s0)∧Heap.le (TH s0) H)
  (round:∀s,pre s→B138_0 K (fun w3 w4 H'=>∃s',pre s'∧μ s' < μ s∧AV.wk w3 (f3 s')∧AV.wk w4 (f4 s')∧Heap.le (TH s') H') v0 (f3 s) (f4 s) (TH s)) :
  L138_0 K v0 v3 v4 H:=by
 unfold L138_0
 exact LoopV.mk s0 (fun s=>[f3 s,f4 s]) TH pre μ (fun _=>rfl) (Eq.mp (by kernel_rfl) h0) (fun s hs=>Eq.mp (by kernel_rfl) (round s hs))
def D150:Info:=⟨9,fun i=>([],[]),fun i=>([],[])⟩
def W150 (v0:AV) (v1:AV) (H:Heap) (K:AV→Heap→Prop):Prop:=
 CallT Tryz.prog 115 [v0,v1] H fun v7 H1=>
 binV tab .geq 3 v7 (AV.p (.int .i64 0)) fun v8=>
 K v8 H1
theorem W150_wp (v0:AV) (v1:AV) (H:Heap) (K:AV→Heap→Prop):wpC Tryz.prog tab D150 (bO_ Tryz.f150) (retF tab [.tmp 4] K) (nthA [v0,v1]) H=W150 v0 v1 H K:=by kernel_rfl
theorem W150_ok {v0 v1:AV} {H:Heap} {K:AV→Heap→Prop} (h:W150 v0 v1 H K):CallT Tryz.prog 150 [v0,v1] H K:=
 CallT.of_wp (D:=D150) tO_ mixed Tryz.func150 (c:=bO_ Tryz.f150) (by kernel_rfl) rfl (by kernel_rfl) (rs:=#[.tmp 4]) rfl (by decide +kernel) (by kernel_rfl) (W150_wp v0 v1 H K) h
def D151:Info:=⟨9,fun i=>([],[]),fun i=>([],[])⟩
def W151 (v0:AV) (H:Heap) (K:AV→Heap→Prop):Prop:=
 binV tab .lss 3 v0 (AV.p (.int .i64 0)) fun v4=>
 grdV v4 false (binV tab .geq 3 v0 (AV.p (.int .i64 8)) fun v7=>
 K v7 H)
 (K (AV.p (.bool true)) H)
theorem W151_wp (v0:AV) (H:Heap) (K:AV→Heap→Prop):wpC Tryz.prog tab D151 (bO_ Tryz.f151) (retF tab [.tmp 2] K) (nthA [v0]) H=W151 v0 H K:=by kernel_rfl
theorem W151_ok {v0:AV} {H:Heap} {K:AV→Heap→Prop} (h:W151 v0 H K):CallT Tryz.prog 151 [v0] H K:=
 CallT.of_wp (D:=D151) tO_ mixed Tryz.func151 (c:=bO_ Tryz.f151) (by kernel_rfl) rfl (by kernel_rfl) (rs:=#[.tmp 2]) rfl (by decide +kernel) (by kernel_rfl) (W151_wp v0 H K) h
def D152:Info:=⟨23,fun i=>([],[]),fun i=>if i=3 then ([0],[5,6]) else ([],[])⟩
def L152_0 (K:AV→Heap→Prop) (v0:AV) (v5:AV) (v6:AV) (H:Heap):Prop:=LoopV (wpC Tryz.prog tab D152 (cAt [1,1,0,1,0,0] (bO_ Tryz.f152))) [0] (PostF.block 0 (PostF.thenA (wpC Tryz.prog tab D152 (cAt [1,1,1] (bO_ Tryz.f152))) (retF tab [.tmp 4] K))) [5,6] [v0,Q_,Q_,Q_,Q_,v5,v6,Q_,Q_,Q_,Q_,Q_,Q_,Q_,Q_,Q_,Q_,Q_,Q_,Q_,Q_,Q_,Q_] H
def B152_0 (K:AV→Heap→Prop) (N1:AV→AV→Heap→Prop) (v0:AV) (v5:AV) (v6:AV) (H:Heap):Prop:=
 binV tab .gtr 3 v6 (AV.p (.int .i64 0)) fun v15=>
 cV_ v15 (binV tab .sub 3 v5 (AV.p (.int .i64 1)) fun v20=>
 CallT Tryz.prog 152 [v0,v20] H fun v21 H2=>
 binV tab .sub 3 v6 (AV.p (.int .i64 1)) fun v17=>
 N1 v21 v17 H2)
 (K v5 H)
def W152 (v0:AV) (v1:AV) (H:Heap) (K:AV→Heap→Prop):Prop:=
 iA_ tab 45 v0 v1 fun v10=>
 fA_ tab 76 v10 0 fun v11=>
 lV_ tab 3 v11 H fun v12=>
 CallT Tryz.prog 122 [v12] H fun v13 H1=>
 L152_0 K v0 v1 v13 H1
theorem W152_wp (v0:AV) (v1:AV) (H:Heap) (K:AV→Heap→Prop):wpC Tryz.prog tab D152 (bO_ Tryz.f152) (retF tab [.tmp 4] K) (nthA [v0,v1]) H=W152 v0 v1 H K:=by kernel_rfl
theorem W152_ok {v0 v1:AV} {H:Heap} {K:AV→Heap→Prop} (h:W152 v0 v1 H K):CallT Tryz.prog 152 [v0,v1] H K:=
 CallT.of_wp (D:=D152) tO_ mixed Tryz.func152 (c:=bO_ Tryz.f152) (by kernel_rfl) rfl (by kernel_rfl) (rs:=#[.tmp 4]) rfl (by decide +kernel) (by kernel_rfl) (W152_wp v0 v1 H K) h
theorem L152_0_rule {K:AV→Heap→Prop} {v0 v5 v6:AV} {H:Heap} {σ:Type} (s0:σ) (f5:σ→AV) (f6:σ→AV) (TH:σ→Heap) (pre:σ→Prop) (μ:σ→Nat)
  (h0:pre s0∧AV.wk v5 (f5 s0)∧AV.wk v6 (f6 s0)∧Heap.le (TH s0) H)
  (round:∀s,pre s→B152_0 K (fun w5 w6 H'=>∃s',pre s'∧μ s' < μ s∧AV.wk w5 (f5 s')∧AV.wk w6 (f6 s')∧Heap.le (TH s') H') v0 (f5 s) (f6 s) (TH s)) :
  L152_0 K v0 v5 v6 H:=by
 unfold L152_0
 exact LoopV.mk s0 (fun s=>[f5 s,f6 s]) TH pre μ (fun _=>rfl) (Eq.mp (by kernel_rfl) h0) (fun s hs=>Eq.mp (by kernel_rfl) (round s hs))
def D162:Info:=⟨51,fun i=>([],[]),fun i=>([],[])⟩
def W162 (v0:AV) (v1:AV) (H:Heap) (K:AV→Heap→Prop):Prop:=
 binV tab .and 157 v0 (AV.p (.int .u64 4294967295)) fun v15=>
 binV tab .shr 157 v0 (AV.p (.int .u64 32)) fun v17=>
 binV tab .and 157 v1 (AV.p (.int .u64 4294967295)) fun v19=>
 binV tab .shr 157 v1 (AV.p (.int .u64 32)) fun v21=>
 binV tab .mul 157 v15 v19 fun v24=>
 binV tab .mul 157 v17 v19 fun v27=>
 binV tab .shr 157 v24 (AV.p (.int .u64 32)) fun v29=>
 binV tab .add 157 v27 v29 fun v30=>
 binV tab .and 157 v30 (AV.p (.int .u64 4294967295)) fun v32=>
 binV tab .shr 157 v30 (AV.p (.int .u64 32)) fun v34=>
 binV tab .mul 157 v15 v21 fun v38=>
 binV tab .add 157 v32 v38 fun v39=>
 binV tab .mul 157 v17 v21 fun v42=>
 binV tab .add 157 v42 v34 fun v44=>
 binV tab .shr 157 v39 (AV.p (.int .u64 32)) fun v46=>
 binV tab .add 157 v44 v46 fun v47=>
 binV tab .mul 157 v0 v1 fun v50=>
 K (.tup [v47,v50]) H
theorem W162_wp (v0:AV) (v1:AV) (H:Heap) (K:AV→Heap→Prop):wpC Tryz.prog tab D162 (bO_ Tryz.f162) (retF tab [.tmp 4,.tmp 5] K) (nthA [v0,v1]) H=W162 v0 v1 H K:=by kernel_rfl
theorem W162_ok {v0 v1:AV} {H:Heap} {K:AV→Heap→Prop} (h:W162 v0 v1 H K):CallT Tryz.prog 162 [v0,v1] H K:=
 CallT.of_wp (D:=D162) tO_ mixed Tryz.func162 (c:=bO_ Tryz.f162) (by kernel_rfl) rfl (by kernel_rfl) (rs:=#[.tmp 4,.tmp 5]) rfl (by decide +kernel) (by kernel_rfl) (W162_wp v0 v1 H K) h
end Go.Proofs.YtolffbcnbcjeaaaGreat
namespace Go.Proofs.YtolffbcnbcjeaaaGreat
open Go Go.Sep
attribute [local irreducible] CallT
theorem i6_ {n:Int} (h0:-9223372036854775808≤n) (h1:n≤9223372036854775807):IntKind.i64.wrap n=n:=wrap64_id h0 h1
theorem wk_int {k:IntKind} {a b:Int}:AV.wk (.p (.int k a)) (.p (.int k b))=(a=b):=by
 apply propext;constructor
 ·intro h;cases h;rfl
 ·rintro rfl;exact .refl _
theorem take_all_succ {α:Type} {p:α→Bool} {xs:List α} {i:Nat} (h:i < xs.length):(xs.take (i+1)).all p=((xs.take i).all p && p xs[i]):=by
 rw [List.take_succ_eq_append_getElem h,List.all_append];simp
theorem getD_lt {α:Type} {xs:List α} {i:Nat} {d:α} (h:i < xs.length):xs.getD i d=xs[i]:=by simp [List.getD,h]
theorem getD_all {α:Type} {p:α→Prop} {l:List α} {d:α} (h:∀b∈l,p b) {i:Nat} (hi:i < l.length):p (l.getD i d):=by
 simp only [List.getD,List.getElem?_eq_getElem hi,Option.getD_some];exact h _ (List.getElem_mem hi)
theorem range_all_succ {p:Nat→Bool} {n:Nat}:(List.range (n+1)).all p=((List.range n).all p && p n):=by
 rw [List.range_succ,List.all_append];simp
theorem range_all_false {p:Nat→Bool} {n i:Nat} (hi:i < n) (h:p i=false):(List.range n).all p=false:=by
 rw [List.all_eq_false];exact ⟨i,List.mem_range.2 hi,by simp [h]⟩
theorem Wk.own_le {q sz:Nat} {es:List (List PV)} {H H':Heap} (hpos:0 < sz) (hs:Sized sz es) (hq:H q=none) (hle:Heap.le (H.set q (cells es)) H'):Wk (own q sz es) H' (.p (.sl es)) H:=by
 have h1:H' q=some (cells es):=hle q _ (Heap.set_same _ _ _)
 refine .trans (.own hpos hs h1) (.forget (Heap.le_del (fun x b hx=>hle x b ?_) hq))
 rw [Heap.set_other (fun e=>by rw [e,hq] at hx;cases hx)];exact hx
theorem CallT.fin {P:Program} {f:Nat} {args:List AV} {H:Heap} {K:AV→Heap→Prop} (h:CallT P f args H (wkK K)):CallT P f args H K:=
 h.wk fun v H1 ⟨v',H2,hw,hk⟩=>⟨v',H2,hw,hk⟩
theorem szI (xs:List Int):Sized 1 (xs.map eI):=sized_map (f:=eI) (fun _=>rfl) xs
theorem cells_I (xs:List Int):cells (xs.map eI)=xs.map fun n=>I n:=by
 induction xs with
 | nil=>rfl
 | cons x xs ih=>simp only [cells,List.map_cons,List.flatten_cons,List.map_append] at ih ⊢;rw [ih];rfl
abbrev eL (l:List Int):List PV:=[.sl (l.map eI)]
abbrev Ls (cs:List (List Int)):AV:=.p (.sl (cs.map eL))
theorem fin_own {q sz:Nat} {es:List (List PV)} {H H':Heap} {K:AV→Heap→Prop} (hpos:0 < sz) (hs:Sized sz es) (hq:H q=none) (hle:Heap.le (H.set q (cells es)) H') (h:K (.p (.sl es)) H):wkK K (own q sz es) H':=
 ⟨_,_,Wk.own_le hpos hs hq hle,h⟩
theorem fin_le {v:AV} {H H':Heap} {K:AV→Heap→Prop} (hle:Heap.le H H') (h:K v H):wkK K v H':=⟨_,_,.forget hle,h⟩
def PuAt (P:Program) (f:Nat) (args:List AV) (H:Heap) (v:AV):Prop:=∀K:AV→Heap→Prop,K v H→CallT P f args H K
theorem Pu.at {P:Program} {f:Nat} {args:List AV} {v:AV} (h:Pu P f args v) (H:Heap):PuAt P f args H v:=fun K hk=>h.use hk
theorem PuAt.use {P:Program} {f:Nat} {args:List AV} {v:AV} {H:Heap} (h:PuAt P f args H v) {K:AV→Heap→Prop} (k:K v H):CallT P f args H K:=h K k
def enumP:Nat→List PV→List (Nat×AV)
 | _,[]=>[]
 | k,v::vs=>(k,.p v)::enumP (k+1) vs
theorem fill_enum:∀(vs:List PV) (k:Nat) (a:List AV) (b:List AV),a.length=k→vs.length≤b.length→
  fillV (fun i=>some (i*1,1)) (a++b) (enumP k vs)=some (a++vs.map .p++b.drop vs.length)
 | [],k,a,b,h1,h2=>by simp [enumP,fillV]
 | v::vs,k,a,b,h1,h2=>by
  match b,h2 with
  | x::b,h2=>
   have hb:vs.length≤b.length:=by simpa using h2
   have ih:=fill_enum vs (k+1) (a++[.p v]) b (by simp [h1]) hb
   simp only [enumP,fillV,AV.cells,List.length_cons,List.length_nil,Nat.zero_add,Nat.mul_one]
   rw [if_pos ⟨trivial,by simp [h1]⟩]
   have hs:splice (a++x::b) k [AV.p v]=(a++[AV.p v])++b:=by
    subst h1
    simp [splice,List.append_assoc,List.drop_append]
   rw [hs]
   simp only [Nat.mul_one] at ih
   rw [ih]
   simp
theorem lit_gen {tab:Tab} {t e:Nat} {d ed:TD} {H:Heap} {K:AV→Heap→Prop} (h1:tab t=some d) (h2:d.k=.slice e) (h3:tab e=some ed) (h4:ed.size=1∧ed.zero.length=1) (vs:List PV)
  (hsm:vs.length≤1000)
  (h:K (.p (.sl (vs.map fun v=>[v]))) H):bS_ tab t vs.length (enumP 0 vs) H (wkK K):=by
 obtain ⟨z,hz⟩:∃z,ed.zero=[z]:=by
  match ed.zero,h4.2 with
  | [z],_=>exact ⟨z,rfl⟩
 simp only [bS_,h1,h2,h3,h4.1]
 refine ⟨by omega,?_⟩
 have hzl:(zA_ vs.length ed.zero).length=vs.length:=by rw [zerosA_len,hz];simp
 have:=fill_enum vs 0 [] (zA_ vs.length ed.zero) rfl (by omega)
 rw [List.nil_append,List.nil_append,List.drop_of_length_le (by omega),List.append_nil] at this
 rw [this]
 intro r hr
 have hf:∀vs:List PV,(vs.map fun v=>[v]).flatten=vs:=by
  intro vs
  induction vs with
  | nil=>rfl
  | cons v vs ih=>simp only [List.map_cons,List.flatten_cons,ih,List.singleton_append]
 refine ⟨_,_,Wk.trans (Wk.frz (r:=r) (sz:=1) (es:=vs.map fun v=>[v]) (v:=.sl r 1 0 vs.length) (v':=.p (.sl (vs.map fun v=>[v]))) (by omega) ?_ ?_ ?_) (.forget ?_),h⟩
 ·rw [Heap.set_same,hf vs]
 ·intro e he;obtain ⟨v,_,rfl⟩:=List.mem_map.1 he;rfl
 ·have:FrzR r 1 (vs.map fun v=>[v]) (.sl r 1 0 (vs.map fun v=>[v]).length) (.p (.sl (vs.map fun v=>[v]))):=.here
  rwa [List.length_map] at this
 ·rw [Heap.del_set hr];exact Heap.le_refl _
theorem lit2 {tab:Tab} {t e:Nat} {d ed:TD} {a b:PV} {H:Heap} {K:AV→Heap→Prop} (h1:tab t=some d) (h2:d.k=.slice e) (h3:tab e=some ed) (h4:ed.size=1∧ed.zero.length=1)
  (h:K (.p (.sl [[a],[b]])) H):bS_ tab t 2 [(0,.p a),(1,.p b)] H (wkK K):=lit_gen h1 h2 h3 h4 [a,b] (by simp) h
theorem lit3 {tab:Tab} {t e:Nat} {d ed:TD} {a b c:PV} {H:Heap} {K:AV→Heap→Prop} (h1:tab t=some d) (h2:d.k=.slice e) (h3:tab e=some ed) (h4:ed.size=1∧ed.zero.length=1)
  (h:K (.p (.sl [[a],[b],[c]])) H):bS_ tab t 3 [(0,.p a),(1,.p b),(2,.p c)] H (wkK K):=lit_gen h1 h2 h3 h4 [a,b,c] (by simp) h
end Go.Proofs.YtolffbcnbcjeaaaGreat
namespace Go.Proofs.YtolffbcnbcjeaaaGreat
open Go Go.Sep
attribute [local irreducible] CallT
theorem l1In_spec (a lo hi:Int):Pu Tryz.prog 63 [I a,I lo,I hi] (B (decide (lo≤a) && decide (a≤hi))):=by
 refine Pu.of fun H=>?_
 refine W63_ok ?_;simp (maxSteps:=1000000) (disch:=first | assumption | (apply ν6;assumption)) only [W63,vz,vu,vv,eqS,eF_,↓c1_,↓c2_,tabs,reduceCtorEq,ι5,↓reduceIte,ν1,ν2,ν3,ν4,ν5,ι1,ι2,ι3,ι4]
 exact ⟨fun h=>by simp [h],fun h=>by simp [h]⟩
end Go.Proofs.YtolffbcnbcjeaaaGreat
namespace Go.Proofs.YtolffbcnbcjeaaaGreat
open Go Go.Sep
def rowZ {α:Type} (e:α→List PV) (zero:List AV) (xs:List α) (i:Nat):List AV:=cells ((xs.take i).map e)++zA_ (xs.length - i) zero
theorem rowZ_zero {α:Type} {e:α→List PV} {zero:List AV} {xs:List α}:rowZ e zero xs 0=zA_ xs.length zero:=by simp [rowZ,cells]
theorem rowZ_end {α:Type} {e:α→List PV} {zero:List AV} {xs:List α}:rowZ e zero xs xs.length=cells (xs.map e):=by
 simp [rowZ,zA_]
theorem cells_map_len {α:Type} {e:α→List PV} {sz:Nat} (h:∀a,(e a).length=sz) (xs:List α):(cells (xs.map e)).length=xs.length*sz:=by
 rw [cells_len (sized_map h xs),List.length_map]
theorem rowZ_len {α:Type} {e:α→List PV} {zero:List AV} {xs:List α} {i sz:Nat} (h:∀a,(e a).length=sz) (hz:zero.length=sz) (hi:i≤xs.length):(rowZ e zero xs i).length=xs.length*sz:=by
 rw [rowZ,List.length_append,cells_map_len h,zerosA_len,hz,List.length_take,Nat.min_eq_left hi,← Nat.add_mul]
 congr 1;omega
theorem zerosA_succ (n:Nat) (z:List AV):zA_ (n+1) z=z++zA_ n z:=by simp [zA_,List.replicate_succ]
theorem rowZ_put {α:Type} [Inhabited α] {e:α→List PV} {zero:List AV} {xs:List α} {i sz:Nat} (h:∀a,(e a).length=sz) (hz:zero.length=sz) (hi:i < xs.length) {off:Nat} (ho:off=i*sz) {n:Nat} (hn:n=sz) :
  List.take off (rowZ e zero xs i)++(e (xs.getD i default)).map .p++List.drop (off+n) (rowZ e zero xs i)=rowZ e zero xs (i+1):=by
 subst ho;subst hn
 have hl:(cells ((xs.take i).map e)).length=i*n:=by rw [cells_map_len h,List.length_take,Nat.min_eq_left (Nat.le_of_lt hi)]
 have e1:List.take (i*n) (rowZ e zero xs i)=cells ((xs.take i).map e):=by
  rw [rowZ,List.take_append_of_le_length (by omega),List.take_of_length_le (by omega)]
 have e2:List.drop (i*n+n) (rowZ e zero xs i)=zA_ (xs.length - (i+1)) zero:=by
  rw [rowZ,List.drop_append,List.drop_of_length_le (by omega),List.nil_append,hl,Nat.add_sub_cancel_left]
  obtain ⟨m,hm⟩:∃m,xs.length - i=m+1:=⟨xs.length - i - 1,by omega⟩
  rw [hm,zerosA_succ,List.drop_append_of_le_length (by omega),List.drop_of_length_le (by omega),List.nil_append]
  congr 1;omega
 rw [e1,e2,rowZ]
 congr 1
 rw [List.take_succ_eq_append_getElem hi,List.map_append,cells_app]
 congr 1
 simp [cells,List.getD,hi]
end Go.Proofs.YtolffbcnbcjeaaaGreat
namespace Go.Pt
structure Nd where
 op:Int
 n:Int
deriving Inhabited,DecidableEq
structure Ch where
 var:Int
 by_:List Nd
deriving Inhabited,DecidableEq
structure Cm where
 when_:List Nd
 chs:List Ch
deriving Inhabited,DecidableEq
structure Pg where
 wide:Int
 vars:Int
 start:List Nd
 cmds:List Cm
deriving Inhabited,DecidableEq
def inB (n lo hi:Int):Bool:=decide (lo≤n) && decide (n≤hi)
theorem inB_iff {n lo hi:Int}:inB n lo hi=true↔lo≤n∧n≤hi:=by simp [inB]
def own (op:Int):Int:=
 if op=1∨op=2∨op=13∨(3≤op∧op≤12) then 1
 else if op=20∨op=19∨(14≤op∧op≤16)∨op=17∨op=18 then 2 else 0
def many (op:Int):Nat:=
 if op=13∨op=19 then 1 else if (3≤op∧op≤12)∨(14≤op∧op≤16)∨op=17∨op=18 then 2 else 0
def part (op:Int):Int:=
 if op=13∨(3≤op∧op≤12)∨(14≤op∧op≤16) then 1 else 2
def leafOk (wide vars:Int) (x:Nd):Bool:=
 if x.op=1 then inB wide 1 64 && decide (x.n < 2^wide.toNat)
 else if x.op=2 then decide (x.n < vars)
 else if x.op=20 then decide (x.n≤1)
 else decide (x.n=0)
def step (w v:Int) (p:List Int) (x:Nd):Option (List Int):=
 if own x.op=0∨leafOk w v x=false∨p.length < many x.op then none
 else if (p.drop (p.length - many x.op)).any (fun k=>decide (k≠part x.op)) then none
 else some (p.take (p.length - many x.op)++[own x.op])
def run (w v:Int):List Int→List Nd→Option (List Int)
 | p,[]=>some p
 | p,x::xs=>(step w v p x).bind fun p'=>run w v p' xs
def frame (w v:Int) (t:List Nd):Bool:=inB w 1 64 && inB v 1 4 && (decide (1≤t.length) && decide (t.length≤48))
def kind (w v:Int) (t:List Nd):Int:=
 if frame w v t then (match run w v [] t with
  | some [k]=>k
  | _=>0) else 0
theorem tS_ {α:Type} [Inhabited α] {xs:List α} {i:Nat} (h:i < xs.length):xs.take (i+1)=xs.take i++[xs.getD i default]:=by
 rw [List.take_succ_eq_append_getElem h];simp [List.getD,h]
end Go.Pt
namespace Go.Proofs.YtolffbcnbcjeaaaGreat
open Go Go.Sep Go.Pt
attribute [local irreducible] CallT
abbrev eN (x:Nd):List PV:=[.int .i64 x.op,.int .u64 x.n]
abbrev Ns (xs:List Nd):AV:=.p (.sl (xs.map eN))
abbrev eCh (c:Ch):List PV:=[.int .i64 c.var,.sl (c.by_.map eN)]
abbrev eCm (c:Cm):List PV:=[.sl (c.when_.map eN),.sl (c.chs.map eCh)]
abbrev Cms (cs:List Cm):AV:=.p (.sl (cs.map eCm))
abbrev aPg (p:Pg):AV:=.agg [I p.wide,I p.vars,Ns p.start,Cms p.cmds]
abbrev aS (of:List Int):AV:=.agg [Is of]
def ok (n:Nat):Prop:=n≤9223372036854775807
def szR (left:Int) (n:Nat):Int:=if (n:Int)≤left then left - n else -1
theorem szR_neg {left:Int} {n:Nat} (h:left < n):szR left n=-1:=by rw [szR,if_neg (by omega)]
theorem szR_pos {left:Int} {n:Nat} (h:(n:Int)≤left):szR left n=left - n:=by rw [szR,if_pos h]
end Go.Proofs.YtolffbcnbcjeaaaGreat
namespace Go.Proofs.YtolffbcnbcjeaaaGreat
open Go Go.Sep Go.Pt
attribute [local irreducible] CallT
theorem eqIntS_spec (xs:List Int) (hl:xs.length≤1048576):Pu Tryz.prog 44 [Is xs,Is xs] (B true):=by
 refine Pu.of fun H=>?_
 refine W44_ok ?_;simp (maxSteps:=1000000) (disch:=first | assumption | (apply ν6;assumption)) only [W44,vz,vu,vv,eqS,eF_,↓c1_,↓c2_,tabs,reduceCtorEq,ι5,↓reduceIte,ν1,ν2,ν3,ν4,ν5,ι1,ι2,ι3,ι4]
 refine L44_0_rule (0:Nat) (fun i=>I i) (fun _=>H) (fun i=>i≤xs.length) (fun i=>xs.length - i) ⟨by omega,.refl _,Heap.le_refl _⟩ ?_
 intro i hi
 (try simp (maxSteps:=1000000) (disch:=first | assumption | (apply ν6;assumption)) only [vz,vu,vv,eqS,eF_,↓c1_,↓c2_,tabs,reduceCtorEq,ι5,↓reduceIte,ν1,ν2,ν3,ν4,ν5,ι1,ι2,ι3,ι4,B44_0])
 intro h
 have hlt:i < xs.length:=by omega
 refine ⟨by omega,h,by omega,h,?_⟩
 (try simp (maxSteps:=1000000) (disch:=first | assumption | (apply ν6;assumption)) only [vz,vu,vv,eqS,eF_,↓c1_,↓c2_,tabs,reduceCtorEq,ι5,↓reduceIte,ν1,ν2,ν3,ν4,ν5,ι1,ι2,ι3,ι4])
 refine ⟨i+1,by omega,by omega,?_⟩
 rw [wk_int,i6_ (by omega) (by omega)];simp
end Go.Proofs.YtolffbcnbcjeaaaGreat
namespace Go.Sep
open Go Go.RowKit
abbrev Lay (α:Type):=α→List AV→Heap→List Nat→Prop
def LPl {α:Type} (e:α→List PV):Lay α:=fun a cs _ D=>cs=(e a).map .p∧D=[]
def LL {α:Type} (L:Lay α):List α→List AV→Heap→List Nat→Prop
 | [],cs,_,D=>cs=[]∧D=[]
 | a::az,cs,G,D=>∃c1 c2 D1 D2,cs=c1++c2∧D=D1++D2∧L a c1 G D1∧LL L az c2 G D2
def LRow {α:Type} (L:Lay α) (sz:Nat):List α→AV→Heap→List Nat→Prop:=fun xs x G D=>∃q cs D',x=.sl q sz 0 xs.length∧G q=some cs∧LL L xs cs G D'∧D=q::D'
def Lay.Local {α:Type} (L:Lay α):Prop:=∀a cs G G' D,L a cs G D→(∀y∈D,∀b,G y=some b→G' y=some b)→L a cs G' D
def Lay.Size {α:Type} (L:Lay α) (sz:Nat):Prop:=∀a cs G D,L a cs G D→cs.length=sz
theorem LPl.local {α:Type} (e:α→List PV):Lay.Local (LPl e):=fun a cs G G' D h _=>h
theorem LPl.size {α:Type} {e:α→List PV} {sz:Nat} (h:∀a,(e a).length=sz):Lay.Size (LPl e) sz:=fun a cs G D hl=>by rw [hl.1,List.length_map,h]
theorem LL.local {α:Type} {L:Lay α} (hL:L.Local):∀{az:List α} {cs:List AV} {G G':Heap} {D:List Nat},LL L az cs G D→(∀y∈D,∀b,G y=some b→G' y=some b)→LL L az cs G' D
 | [],cs,G,G',D,h,_=>h
 | a::az,cs,G,G',D,⟨c1,c2,D1,D2,e1,e2,h1,h2⟩,hf=>by
  subst e2
  exact ⟨c1,c2,D1,D2,e1,rfl,hL _ _ _ _ _ h1 (fun y hy=>hf y (List.mem_append_left _ hy)),LL.local hL h2 (fun y hy=>hf y (List.mem_append_right _ hy))⟩
theorem LL.size {α:Type} {L:Lay α} {sz:Nat} (hL:L.Size sz):∀{az:List α} {cs:List AV} {G:Heap} {D:List Nat},LL L az cs G D→cs.length=az.length*sz
 | [],cs,G,D,h=>by rw [h.1];simp
 | a::az,cs,G,D,⟨c1,c2,D1,D2,e1,e2,h1,h2⟩=>by
  rw [e1,List.length_append,hL _ _ _ _ h1,LL.size hL h2,List.length_cons,Nat.add_mul,Nat.one_mul];omega
theorem LRow.local {α:Type} {L:Lay α} {sz:Nat} (hL:L.Local) {xs:List α} {x:AV} {G G':Heap} {D:List Nat} (h:LRow L sz xs x G D) (hf:∀y∈D,∀b,G y=some b→G' y=some b):LRow L sz xs x G' D:=by
 obtain ⟨q,cs,D',e1,e2,e3,e4⟩:=h
 subst e4
 exact ⟨q,cs,D',e1,hf q (by simp) _ e2,LL.local hL e3 (fun y hy=>hf y (by simp [hy])),rfl⟩
def Lay.Has {α:Type} (L:Lay α):Prop:=∀a cs G D,L a cs G D→∀y∈D,G y≠none
theorem LPl.has {α:Type} (e:α→List PV):Lay.Has (LPl e):=fun a cs G D h y hy=>by rw [h.2] at hy;cases hy
theorem LL.has {α:Type} {L:Lay α} (hL:L.Has):∀{az:List α} {cs:List AV} {G:Heap} {D:List Nat},LL L az cs G D→∀y∈D,G y≠none
 | [],cs,G,D,h=>fun y hy=>by rw [h.2] at hy;cases hy
 | a::az,cs,G,D,⟨c1,c2,D1,D2,e1,e2,h1,h2⟩=>fun y hy=>by
  rw [e2] at hy
  rcases List.mem_append.1 hy with hy | hy
  ·exact hL _ _ _ _ h1 y hy
  ·exact LL.has hL h2 y hy
theorem LRow.has {α:Type} {L:Lay α} {sz:Nat} (hL:L.Has) {xs:List α} {x:AV} {G:Heap} {D:List Nat} (h:LRow L sz xs x G D):∀y∈D,G y≠none:=by
 obtain ⟨q,cs,D',e1,e2,e3,e4⟩:=h
 intro y hy
 rw [e4] at hy
 rcases List.mem_cons.1 hy with rfl | hy
 ·rw [e2];simp
 ·exact LL.has hL e3 y hy
theorem LL.plain {α:Type} {e:α→List PV} {G:Heap}:∀(xs:List α),LL (LPl e) xs (cells (xs.map e)) G []
 | []=>⟨rfl,rfl⟩
 | x::xs=>⟨(e x).map .p,cells (xs.map e),[],[],by simp [cells],rfl,⟨rfl,rfl⟩,LL.plain xs⟩
theorem splice_at {pre c c' post:List AV} {off n:Nat} (ho:off=pre.length) (hn:n=c'.length) (hc:c.length=c'.length):List.take off (pre++(c++post))++c'++List.drop (off+n) (pre++(c++post))=pre++(c'++post):=by
 subst ho;subst hn
 rw [List.take_left',List.append_assoc]
 ·congr 2
  rw [List.drop_append,← hc]
  simp
 ·rfl
theorem LL.snoc {α:Type} {L:Lay α} {a:α} {c2:List AV} {G:Heap} {D2:List Nat} (h2:L a c2 G D2):∀{az:List α} {c1:List AV} {D1:List Nat},LL L az c1 G D1→LL L (az++[a]) (c1++c2) G (D1++D2)
 | [],c1,D1,h=>by
  obtain ⟨rfl,rfl⟩:=h
  exact ⟨c2,[],D2,[],by simp,by simp,h2,rfl,rfl⟩
 | b::az,c1,D1,⟨d1,d2,E1,E2,e1,e2,h1,h3⟩=>by
  subst e1;subst e2
  exact ⟨d1,d2++c2,E1,E2++D2,by simp,by simp,h1,LL.snoc h2 h3⟩
theorem LL.split {α:Type} [Inhabited α] {L:Lay α} {sz:Nat} (hL:L.Size sz):∀{az:List α} {cs:List AV} {G:Heap} {D:List Nat} {i:Nat},LL L az cs G D→i < az.length→
  ∃c1 c c2 D1 Di D2,cs=c1++(c++c2)∧D=D1++(Di++D2)∧c1.length=i*sz∧L (az.getD i default) c G Di∧LL L (az.take i) c1 G D1∧LL L (az.drop (i+1)) c2 G D2
 | a::az,cs,G,D,0,⟨c1,c2,D1,D2,e1,e2,h1,h2⟩,_=>⟨[],c1,c2,[],D1,D2,by simpa using e1,by simpa using e2,by simp,by simpa using h1,⟨rfl,rfl⟩,by simpa using h2⟩
 | a::az,cs,G,D,i+1,⟨c1,c2,D1,D2,e1,e2,h1,h2⟩,hi=>by
  obtain ⟨d1,d,d2,E1,Ei,E2,f1,f2,f3,f4,f5,f6⟩:=LL.split hL h2 (i:=i) (by simpa using hi)
  subst e1;subst e2;subst f1;subst f2
  refine ⟨c1++d1,d,d2,D1++E1,Ei,E2,by simp,by simp,?_,by simpa using f4,⟨c1,d1,D1,E1,rfl,rfl,h1,f5⟩,by simpa using f6⟩
  rw [List.length_append,hL _ _ _ _ h1,f3,Nat.add_mul,Nat.one_mul];omega
theorem LL.join {α:Type} {L:Lay α}:∀{az bs:List α} {c1 c2:List AV} {G:Heap} {D1 D2:List Nat},LL L az c1 G D1→LL L bs c2 G D2→LL L (az++bs) (c1++c2) G (D1++D2)
 | [],bs,c1,c2,G,D1,D2,h1,h2=>by
  obtain ⟨rfl,rfl⟩:=h1
  simpa using h2
 | a::az,bs,c1,c2,G,D1,D2,⟨d1,d2,E1,E2,e1,e2,h1,h3⟩,h2=>by
  subst e1;subst e2
  exact ⟨d1,d2++c2,E1,E2++D2,by simp,by simp,h1,LL.join h3 h2⟩
def Lay.Frz {α:Type} (L:Lay α) (e:α→List PV):Prop:=∀(a:α) (cs:List AV) (G:Heap) (D:List Nat) (v:AV) (s:Nat) (pre post:List AV),L a cs G D→D.Nodup→s∉D→G s=some (pre++(cs++post))→
 ∃G',Wk v G v G'∧G' s=some (pre++((e a).map .p++post))∧∀y,y≠s→y∉D→G' y=G y
theorem LPl.frz {α:Type} (e:α→List PV):(LPl e).Frz e:=by
 rintro a cs G D v s pre post ⟨rfl,rfl⟩ _ _ hs
 exact ⟨G,.refl _ _,hs,fun _ _ _=>rfl⟩
theorem LL.frz {α:Type} {L:Lay α} {e:α→List PV} (hl:L.Local) (hf:L.Frz e):∀(az:List α) (cs:List AV) (G:Heap) (D:List Nat) (v:AV) (s:Nat) (pre post:List AV),LL L az cs G D→D.Nodup→s∉D→G s=some (pre++(cs++post))→
  ∃G',Wk v G v G'∧G' s=some (pre++((az.map e).flatten.map .p++post))∧∀y,y≠s→y∉D→G' y=G y
 | [],cs,G,D,v,s,pre,post,h,hD,hs,hG=>by
  obtain ⟨rfl,rfl⟩:=h
  exact ⟨G,.refl _ _,by simpa using hG,fun _ _ _=>rfl⟩
 | a::az,cs,G,D,v,s,pre,post,⟨c1,c2,D1,D2,e1,e2,h1,h2⟩,hD,hs,hG=>by
  subst e1;subst e2
  rw [List.nodup_append] at hD
  rw [List.mem_append,not_or] at hs
  obtain ⟨G1,w1,k1,f1⟩:=hf a c1 G D1 v s pre (c2++post) h1 hD.1 hs.1 (by rw [hG];simp)
  have h2':LL L az c2 G1 D2:=LL.local hl h2 fun y hy b hb=>by rw [f1 y (fun e=>hs.2 (e ▸ hy)) (fun hy1=>hD.2.2 y hy1 y hy rfl)];exact hb
  obtain ⟨G2,w2,k2,f2⟩:=LL.frz hl hf az c2 G1 D2 v s (pre++(e a).map .p) post h2' hD.2.1 hs.2 (by rw [k1];simp)
  refine ⟨G2,.trans w1 w2,by rw [k2];simp,fun y hy hyD=>?_⟩
  rw [List.mem_append,not_or] at hyD
  rw [f2 y hy hyD.2,f1 y hy hyD.1]
theorem FrzL.refl' {r sz:Nat} {es:List (List PV)}:∀vs,FrzL r sz es vs vs
 | []=>.nil
 | v::vs=>.cons (.same v) (FrzL.refl' vs)
theorem FrzL.at {r sz:Nat} {es:List (List PV)} {x x':AV} (h:FrzR r sz es x x') (post:List AV):∀pre,FrzL r sz es (pre++([x]++post)) (pre++([x']++post))
 | []=>.cons h (FrzL.refl' post)
 | v::pre=>.cons (.same v) (FrzL.at h post pre)
theorem LRow.frzIn {α:Type} {L:Lay α} {e:α→List PV} {sz:Nat} (hpos:0 < sz) (he:∀a,(e a).length=sz) (hl:L.Local) (hf:L.Frz e) {xs:List α} {x:AV} {G:Heap} {D:List Nat} {v:AV} {s:Nat} {pre post:List AV} (h:LRow L sz xs x G D) (hD:D.Nodup) (hs:s∉D) (hG:G s=some (pre++([x]++post))) :
  ∃G',Wk v G v G'∧G' s=some (pre++([.p (.sl (xs.map e))]++post))∧∀y,y≠s→y∉D→G' y=G y:=by
 obtain ⟨q,cs,D',rfl,hq,hll,rfl⟩:=h
 rw [List.nodup_cons] at hD
 rw [List.mem_cons,not_or] at hs
 obtain ⟨G1,w1,k1,f1⟩:=LL.frz hl hf xs cs G D' v q [] [] hll hD.2 hD.1 (by simpa using hq)
 have hG1:G1 s=some (pre++([.sl q sz 0 xs.length]++post)):=by rw [f1 s hs.1 hs.2];exact hG
 have k1':G1 q=some ((xs.map e).flatten.map .p):=by simpa using k1
 have hr:FrzR q sz (xs.map e) (.sl q sz 0 xs.length) (.p (.sl (xs.map e))):=by
  have:FrzR q sz (xs.map e) (.sl q sz 0 (xs.map e).length) (.p (.sl (xs.map e))):=.here
  rwa [List.length_map] at this
 refine ⟨(G1.del q).set s (pre++([.p (.sl (xs.map e))]++post)),.trans w1 (Wk.frzAt hpos k1' (sized_map he xs) hG1 hs.1 (FrzL.at hr post pre) (.same v) (by simp)),Heap.set_same _ _ _,fun y hy hyD=>?_⟩
 rw [List.mem_cons,not_or] at hyD
 rw [Heap.set_other hy,Heap.del_other hyD.1,f1 y hyD.1 hyD.2]
theorem LRow.frzV {α:Type} {L:Lay α} {e:α→List PV} {sz:Nat} (hpos:0 < sz) (he:∀a,(e a).length=sz) (hl:L.Local) (hf:L.Frz e) {xs:List α} {x:AV} {G:Heap} {D:List Nat} {v v':AV} (h:LRow L sz xs x G D) (hD:D.Nodup)
  (hv:∀q,x=.sl q sz 0 xs.length→FrzR q sz (xs.map e) x (.p (.sl (xs.map e)))→FrzR q sz (xs.map e) v v') :
  ∃G',Wk v G v' G'∧∀y,y∉D→G' y=G y:=by
 obtain ⟨q,cs,D',rfl,hq,hll,rfl⟩:=h
 rw [List.nodup_cons] at hD
 obtain ⟨G1,w1,k1,f1⟩:=LL.frz hl hf xs cs G D' v q [] [] hll hD.2 hD.1 (by simpa using hq)
 have k1':G1 q=some ((xs.map e).flatten.map .p):=by simpa using k1
 have hr:FrzR q sz (xs.map e) (.sl q sz 0 xs.length) (.p (.sl (xs.map e))):=by
  have:FrzR q sz (xs.map e) (.sl q sz 0 (xs.map e).length) (.p (.sl (xs.map e))):=.here
  rwa [List.length_map] at this
 refine ⟨G1.del q,.trans w1 (Wk.frz hpos k1' (sized_map he xs) (hv q rfl hr)),fun y hyD=>?_⟩
 rw [List.mem_cons,not_or] at hyD
 rw [Heap.del_other hyD.1,f1 y hyD.1 hyD.2]
def Lay.Gd {α:Type} (L:Lay α):Prop:=∀a cs G D,L a cs G D→(∀c∈cs,GdC c)∧∀y∈D,∀bs,G y=some bs→∀c∈bs,GdC c
def Lay.Sh {α:Type} (L:Lay α):Prop:=∀a cs G D n G0,(∀q,n≤q→G0 q=none)→L a cs G D→L a (cs.map (shC n)) (Heap.or G0 (shH n G)) (D.map (·+n))
theorem LPl.gd {α:Type} {e:α→List PV} (h:∀a,∀x∈e a,Plain (.p x)):Lay.Gd (LPl e):=by
 rintro a cs G D ⟨rfl,rfl⟩
 refine ⟨fun c hc=>?_,fun y hy=>by cases hy⟩
 obtain ⟨x,hx,rfl⟩:=List.mem_map.1 hc
 exact .p (h a x hx)
theorem LPl.sh {α:Type} (e:α→List PV):Lay.Sh (LPl e):=by
 rintro a cs G D n G0 _ ⟨rfl,rfl⟩
 exact ⟨by rw [List.map_map];rfl,rfl⟩
theorem LL.gd {α:Type} {L:Lay α} (hL:L.Gd):∀{az:List α} {cs:List AV} {G:Heap} {D:List Nat},LL L az cs G D→(∀c∈cs,GdC c)∧∀y∈D,∀bs,G y=some bs→∀c∈bs,GdC c
 | [],_,_,_,⟨e1,e2⟩=>by subst e1;subst e2;exact ⟨(fun c hc=>by cases hc),(fun y hy=>by cases hy)⟩
 | a::az,_,_,_,⟨c1,c2,D1,D2,e1,e2,h1,h2⟩=>by
  subst e1;subst e2
  obtain ⟨a1,a2⟩:=hL _ _ _ _ h1
  obtain ⟨b1,b2⟩:=LL.gd hL h2
  refine ⟨fun c hc=>?_,fun y hy=>?_⟩
  ·rcases List.mem_append.1 hc with hc | hc
   ·exact a1 c hc
   ·exact b1 c hc
  ·rcases List.mem_append.1 hy with hy | hy
   ·exact a2 y hy
   ·exact b2 y hy
theorem LL.sh {α:Type} {L:Lay α} (hL:L.Sh) {n:Nat} {G0:Heap} (h0:∀q,n≤q→G0 q=none):∀{az:List α} {cs:List AV} {G:Heap} {D:List Nat},LL L az cs G D→LL L az (cs.map (shC n)) (Heap.or G0 (shH n G)) (D.map (·+n))
 | [],_,_,_,⟨e1,e2⟩=>by subst e1;subst e2;exact ⟨rfl,rfl⟩
 | a::az,_,_,_,⟨c1,c2,D1,D2,e1,e2,h1,h2⟩=>by
  subst e1;subst e2
  exact ⟨_,_,_,_,List.map_append,List.map_append,hL _ _ _ _ n G0 h0 h1,LL.sh hL h0 h2⟩
theorem or_sh {G0 G:Heap} {n q:Nat} (h0:∀q,n≤q→G0 q=none):(Heap.or G0 (shH n G)) (q+n)=(G q).map (List.map (shC n)):=by
 simp only [Heap.or,shH,h0 (q+n) (by omega),show n≤q+n by omega,if_true,Nat.add_sub_cancel]
theorem LRow.gd {α:Type} {L:Lay α} {sz:Nat} (hL:L.Gd) {xs:List α} {x:AV} {G:Heap} {D:List Nat} (h:LRow L sz xs x G D):GdC x∧∀y∈D,∀bs,G y=some bs→∀c∈bs,GdC c:=by
 obtain ⟨q,cs,D',rfl,hq,hll,rfl⟩:=h
 obtain ⟨h1,h2⟩:=LL.gd hL hll
 refine ⟨.inl ⟨_,_,_,_,rfl⟩,fun y hy bs hb=>?_⟩
 rcases List.mem_cons.1 hy with rfl | hy
 ·rw [hq] at hb;cases hb;exact h1
 ·exact h2 y hy bs hb
theorem LRow.sh {α:Type} {L:Lay α} {sz:Nat} (hL:L.Sh) {n:Nat} {G0:Heap} (h0:∀q,n≤q→G0 q=none) {xs:List α} {x:AV} {G:Heap} {D:List Nat} (h:LRow L sz xs x G D):LRow L sz xs (shC n x) (Heap.or G0 (shH n G)) (D.map (·+n)):=by
 obtain ⟨q,cs,D',rfl,hq,hll,rfl⟩:=h
 exact ⟨q+n,cs.map (shC n),D'.map (·+n),rfl,by rw [or_sh h0,hq];rfl,LL.sh hL h0 hll,rfl⟩
def only (D:List Nat) (G:Heap):Heap:=fun y=>if y∈D then G y else none
theorem only_le (D:List Nat) (G:Heap):Heap.le (only D G) G:=fun y b hb=>by
 unfold only at hb;split at hb
 ·exact hb
 ·cases hb
theorem only_in {D:List Nat} {G:Heap} {y:Nat} (h:y∈D):only D G y=G y:=if_pos h
theorem only_out {D:List Nat} {G:Heap} {y:Nat} (h:y∉D):only D G y=none:=if_neg h
end Go.Sep
namespace Go.Proofs.YtolffbcnbcjeaaaGreat
open Go Go.Sep Go.Pt
attribute [local irreducible] CallT
abbrev LN:List Nd→AV→Heap→List Nat→Prop:=LRow (LPl eN) 2
abbrev LI:List Int→AV→Heap→List Nat→Prop:=LRow (LPl eI) 1
def LCh:Lay Ch:=fun c cs G D=>∃x,cs=[I c.var,x]∧LN c.by_ x G D
def LCm:Lay Cm:=fun c cs G D=>∃x y D1 D2,cs=[x,y]∧D=D1++D2∧LN c.when_ x G D1∧LRow LCh 2 c.chs y G D2
theorem LCh.local:Lay.Local LCh:=by
 rintro c cs G G' D ⟨x,e,h⟩ hf
 exact ⟨x,e,LRow.local (LPl.local eN) h hf⟩
theorem LCh.size:Lay.Size LCh 2:=by
 rintro c cs G D ⟨x,rfl,h⟩;rfl
theorem LCh.has:Lay.Has LCh:=by
 rintro c cs G D ⟨x,e,h⟩
 exact LRow.has (LPl.has eN) h
theorem LCh.frz:Lay.Frz LCh eCh:=by
 rintro c cs G D v s pre post ⟨x,rfl,h⟩ hD hs hG
 obtain ⟨G',w,k,f⟩:=LRow.frzIn (e:=eN) (sz:=2) (pre:=pre++[I c.var]) (post:=post) (v:=v) (by omega) (fun _=>rfl) (LPl.local eN) (LPl.frz eN) h hD hs (by rw [hG];simp)
 exact ⟨G',w,by rw [k];simp,f⟩
theorem LCm.local:Lay.Local LCm:=by
 rintro c cs G G' D ⟨x,y,D1,D2,e,rfl,h1,h2⟩ hf
 exact ⟨x,y,D1,D2,e,rfl,LRow.local (LPl.local eN) h1 (fun z hz=>hf z (List.mem_append_left _ hz)),LRow.local LCh.local h2 (fun z hz=>hf z (List.mem_append_right _ hz))⟩
theorem LCm.size:Lay.Size LCm 2:=by
 rintro c cs G D ⟨x,y,D1,D2,rfl,e,h1,h2⟩;rfl
theorem LCm.has:Lay.Has LCm:=by
 rintro c cs G D ⟨x,y,D1,D2,e,rfl,h1,h2⟩ z hz
 rcases List.mem_append.1 hz with hz | hz
 ·exact LRow.has (LPl.has eN) h1 z hz
 ·exact LRow.has LCh.has h2 z hz
theorem LCm.frz:Lay.Frz LCm eCm:=by
 rintro c cs G D v s pre post ⟨x,y,D1,D2,rfl,rfl,h1,h2⟩ hD hs hG
 rw [List.nodup_append] at hD
 rw [List.mem_append,not_or] at hs
 obtain ⟨G1,w1,k1,f1⟩:=LRow.frzIn (e:=eN) (sz:=2) (pre:=pre) (post:=y::post) (v:=v) (by omega) (fun _=>rfl) (LPl.local eN) (LPl.frz eN) h1 hD.1 hs.1 (by rw [hG];simp)
 have h2':LRow LCh 2 c.chs y G1 D2:=LRow.local LCh.local h2 fun z hz b hb=>by rw [f1 z (fun e=>hs.2 (e ▸ hz)) (fun hz1=>hD.2.2 z hz1 z hz rfl)];exact hb
 obtain ⟨G2,w2,k2,f2⟩:=LRow.frzIn (e:=eCh) (sz:=2) (pre:=pre++[Ns c.when_]) (post:=post) (v:=v) (by omega) (fun _=>rfl) LCh.local LCh.frz h2' hD.2.1 hs.2 (by rw [k1];simp)
 refine ⟨G2,.trans w1 w2,by rw [k2];simp,fun z hz hzD=>?_⟩
 rw [List.mem_append,not_or] at hzD
 rw [f2 z hz hzD.2,f1 z hz hzD.1]
structure New (H G:Heap) (D:List Nat):Prop where
 nd:D.Nodup
 fr:∀y∈D,H y=none
 le:Heap.le H G
theorem New.trans {H G G':Heap} {D D':List Nat} (n:New H G D) (m:New G G' D') (hh:∀y∈D,G y≠none):New H G' (D++D'):=by
 refine ⟨List.nodup_append.2 ⟨n.nd,m.nd,fun a ha b hb e=>hh a ha (by rw [e];exact m.fr b hb)⟩,fun y hy=>?_,Heap.le_trans n.le m.le⟩
 rcases List.mem_append.1 hy with hy | hy
 ·exact n.fr y hy
 ·cases hh:H y with
  | none=>rfl
  | some b=>rw [← m.fr y hy,n.le y b hh]
theorem New.base {H H' G:Heap} {D:List Nat} (n:New H' G D) (hle:Heap.le H H'):New H G D:=
 ⟨n.nd,fun y hy=>by
  cases hh:H y with
  | none=>rfl
  | some b=>rw [← n.fr y hy,hle y b hh],Heap.le_trans hle n.le⟩
theorem New.put {H G:Heap} {D:List Nat} (n:New H G D) {q:Nat} (hq:H q=none) (b:List AV):New H (G.set q b) D:=⟨n.nd,n.fr,Heap.le_setN n.le hq⟩
theorem LRow.sl {α:Type} {L:Lay α} {sz:Nat} {xs:List α} {x:AV} {G:Heap} {D:List Nat} (h:LRow L sz xs x G D):∃q,x=.sl q sz 0 xs.length:=by
 obtain ⟨q,cs,D',e1,e2,e3,e4⟩:=h;exact ⟨q,e1⟩
end Go.Proofs.YtolffbcnbcjeaaaGreat
namespace Go.Sep
open Go Go.RowKit Go.Proofs.YtolffbcnbcjeaaaGreat
structure Th where
 D:List Nat
 P:Heap→Prop
 loc:∀{G G':Heap},P G→(∀y∈D,∀b,G y=some b→G' y=some b)→P G'
 has:∀{G:Heap},P G→∀y∈D,G y≠none
def cT_ (r:Nat) (b:List AV):Th:=⟨[r],fun G=>G r=some b,fun h f=>f r (List.mem_singleton.2 rfl) b h,fun h y hy=>by rw [List.mem_singleton.1 hy,h];simp⟩
structure St (H:Heap) (Ts:List Th) (G:Heap):Prop where
 le:Heap.le H G
 nd:(Ts.flatMap Th.D).Nodup
 fr:∀t∈Ts,∀y∈t.D,H y=none
 ok:∀t∈Ts,t.P G
theorem St.nil (H:Heap):St H [] H:=⟨Heap.le_refl _,List.nodup_nil,fun t ht=>(by cases ht),fun t ht=>(by cases ht)⟩
theorem St.get {H G:Heap} {Ts:List Th} {t:Th} (s:St H Ts G) (i:Nat) (h:Ts[i]?=some t):t.P G:=s.ok t (List.mem_of_getElem? h)
theorem St.ndT {H G:Heap} {Ts:List Th} {t:Th} (s:St H Ts G) (i:Nat) (h:Ts[i]?=some t):t.D.Nodup:=by
 obtain ⟨pre,post,e⟩:=List.append_of_mem (List.mem_of_getElem? h)
 have:=s.nd
 rw [e,List.flatMap_append,List.flatMap_cons,List.nodup_append,List.nodup_append] at this
 exact this.2.1.1
theorem St.push {H G G':Heap} {Ts:List Th} (s:St H Ts G) (t:Th) (hn:New G G' t.D) (hp:t.P G'):St H (t::Ts) G':=by
 refine ⟨Heap.le_trans s.le hn.le,?_,?_,?_⟩
 ·rw [List.flatMap_cons,List.nodup_append]
  refine ⟨hn.nd,s.nd,fun a ha b hb e=>?_⟩
  obtain ⟨u,hu,hbu⟩:=List.mem_flatMap.1 hb
  exact u.has (s.ok u hu) b hbu (by rw [← e];exact hn.fr a ha)
 ·intro u hu y hy
  rcases List.mem_cons.1 hu with rfl | hu
  ·cases hh:H y with
   | none=>rfl
   | some b=>rw [← hn.fr y hy,s.le y b hh]
  ·exact s.fr u hu y hy
 ·intro u hu
  rcases List.mem_cons.1 hu with rfl | hu
  ·exact hp
  ·exact u.loc (s.ok u hu) fun y _ b hb=>hn.le y b hb
theorem New.cell {G:Heap} {r:Nat} {b:List AV} (hr:G r=none):New G (G.set r b) [r]:=⟨by simp,by simpa using hr,Heap.le_set hr⟩
theorem St.cell {H G:Heap} {Ts:List Th} (s:St H Ts G) {r:Nat} (hr:G r=none) (b:List AV):St H (cT_ r b::Ts) (G.set r b):=s.push (cT_ r b) (New.cell hr) (Heap.set_same _ _ _)
theorem St.upd {H G G':Heap} {Ts:List Th} {t:Th} (s:St H Ts G) (i:Nat) (h:Ts[i]?=some t) (t':Th) (hD:t'.D=t.D) (hf:∀y,y∉t.D→G' y=G y) (hp:t'.P G'):St H (Ts.set i t') G':=by
 obtain ⟨hi,hti⟩:=List.getElem?_eq_some_iff.1 h
 have e:Ts=Ts.take i++t::Ts.drop (i+1):=by rw [← hti,List.getElem_cons_drop,List.take_append_drop]
 have e':Ts.set i t'=Ts.take i++t'::Ts.drop (i+1):=by rw [List.set_eq_take_append_cons_drop,if_pos hi]
 generalize Ts.take i=pre at e e'
 generalize Ts.drop (i+1)=post at e e'
 rw [e']
 subst e
 have hnd:=s.nd
 rw [List.flatMap_append,List.flatMap_cons] at hnd
 have hdis:∀u∈pre++post,∀y∈u.D,y∉t.D:=by
  intro u hu y hy hyt
  rw [List.nodup_append,List.nodup_append] at hnd
  rcases List.mem_append.1 hu with hu | hu
  ·exact hnd.2.2 y (List.mem_flatMap.2 ⟨u,hu,hy⟩) y (List.mem_append_left _ hyt) rfl
  ·exact hnd.2.1.2.2 y hyt y (List.mem_flatMap.2 ⟨u,hu,hy⟩) rfl
 refine ⟨fun y b hb=>?_,by rw [List.flatMap_append,List.flatMap_cons,hD];exact hnd,fun u hu y hy=>?_,fun u hu=>?_⟩
 ·rw [hf y (fun hy=>by have:=s.fr t (by simp) y hy;rw [this] at hb;cases hb)];exact s.le y b hb
 ·rcases List.mem_append.1 hu with hu | hu
  ·exact s.fr u (List.mem_append_left _ hu) y hy
  ·rcases List.mem_cons.1 hu with rfl | hu
   ·exact s.fr t (by simp) y (hD ▸ hy)
   ·exact s.fr u (by simp [hu]) y hy
 ·have old:∀u∈pre++post,u.P G':=fun u hu=>u.loc (s.ok u (by
   rcases List.mem_append.1 hu with hu | hu
   ·exact List.mem_append_left _ hu
   ·exact List.mem_append_right _ (List.mem_cons_of_mem _ hu))) fun y hy b hb=>by rw [hf y (hdis u hu y hy)];exact hb
  rcases List.mem_append.1 hu with hu | hu
  ·exact old u (List.mem_append_left _ hu)
  ·rcases List.mem_cons.1 hu with rfl | hu
   ·exact hp
   ·exact old u (List.mem_append_right _ hu)
theorem St.drop {H G:Heap} {t:Th} {Ts:List Th} (s:St H (t::Ts) G):St H Ts G:=⟨s.le,(by have:=s.nd;rw [List.flatMap_cons,List.nodup_append] at this;exact this.2.1),fun u hu=>s.fr u (List.mem_cons_of_mem _ hu),fun u hu=>s.ok u (List.mem_cons_of_mem _ hu)⟩
theorem St.perm {H G:Heap} {Ts Us:List Th} (s:St H Ts G) (h:List.Perm Ts Us):St H Us G:=
 ⟨s.le,(h.flatMap_right _).nodup s.nd,fun t ht=>s.fr t (h.mem_iff.2 ht),fun t ht=>s.ok t (h.mem_iff.2 ht)⟩
theorem St.disj {H G:Heap} {t u:Th} {Ts:List Th} (s:St H (t::u::Ts) G):∀y∈t.D,y∉u.D:=by
 have:=s.nd
 rw [List.flatMap_cons,List.flatMap_cons,List.nodup_append] at this
 exact fun y hy hu=>this.2.2 y hy y (List.mem_append_left _ hu) rfl
theorem Th.dis:∀{Ts:List Th} {t u:Th} {i j:Nat},(Ts.flatMap Th.D).Nodup→Ts[i]?=some t→Ts[j]?=some u→i < j→∀y∈t.D,y∉u.D
 | [],_,_,_,_,_,hi,_,_=>by simp at hi
 | a::Ts,t,u,0,j+1,nd,hi,hj,_=>by
  rw [List.flatMap_cons,List.nodup_append] at nd
  simp only [List.getElem?_cons_zero,Option.some.injEq] at hi
  subst hi
  exact fun y hy hu=>nd.2.2 y hy y (List.mem_flatMap.2 ⟨u,List.mem_of_getElem? (by simpa using hj),hu⟩) rfl
 | a::Ts,t,u,i+1,j+1,nd,hi,hj,h=>by
  rw [List.flatMap_cons,List.nodup_append] at nd
  exact Th.dis nd.2.1 (by simpa using hi) (by simpa using hj) (by omega)
theorem St.disjI {H G:Heap} {t u:Th} {Ts:List Th} (s:St H Ts G) (i j:Nat) (hi:Ts[i]?=some t) (hj:Ts[j]?=some u) (hij:i≠j):∀y∈t.D,y∉u.D:=by
 rcases Nat.lt_or_gt_of_ne hij with h | h
 ·exact Th.dis s.nd hi hj h
 ·exact fun y hy hu=>Th.dis s.nd hj hi h y hu hy
theorem St.fresh {H G:Heap} {Ts:List Th} {t:Th} (s:St H Ts G) (i:Nat) (h:Ts[i]?=some t) {q:Nat} (hq:G q=none):q∉t.D:=fun hm=>t.has (s.get i h) q hm hq
theorem perm_pick {α:Type}:∀(Ts:List α) (i:Nat) (hi:i < Ts.length),List.Perm Ts (Ts[i]::Ts.eraseIdx i)
 | a::Ts,0,_=>List.Perm.refl _
 | a::Ts,i+1,hi=>((perm_pick Ts i (by simpa using hi)).cons a).trans (List.Perm.swap _ _ _)
theorem perm_set {α:Type}:∀(Ts:List α) (i:Nat) (hi:i < Ts.length) (t:α),List.Perm (Ts.set i t) (t::Ts.eraseIdx i)
 | a::Ts,0,_,_=>List.Perm.refl _
 | a::Ts,i+1,hi,t=>((perm_set Ts i (by simpa using hi) t).cons a).trans (List.Perm.swap _ _ _)
theorem sub_flat {α β:Type} {f:α→List β} {l m:List α} (h:List.Sublist l m):List.Sublist (l.flatMap f) (m.flatMap f):=by
 induction h with
 | slnil=>exact List.Sublist.refl _
 | cons a _ ih=>rw [List.flatMap_cons];exact ih.trans (List.sublist_append_right _ _)
 | cons_cons a _ ih=>rw [List.flatMap_cons,List.flatMap_cons];exact List.Sublist.append_left ih _
theorem St.pick {H G:Heap} {Ts:List Th} {t:Th} (s:St H Ts G) (i:Nat) (h:Ts[i]?=some t):St H (t::Ts.eraseIdx i) G:=by
 obtain ⟨hi,rfl⟩:=List.getElem?_eq_some_iff.1 h
 exact s.perm (perm_pick Ts i hi)
theorem St.step {H G G':Heap} {old rest:List Th} (s:St H (old++rest) G) (new:List Th) (hnd:(new.flatMap Th.D).Nodup) (hfr:∀t∈new,∀y∈t.D,(∃u∈old,y∈u.D)∨G y=none)
  (hf:∀y b,G y=some b→(∀u∈old,y∉u.D)→G' y=some b) (hp:∀t∈new,t.P G'):St H (new++rest) G':=by
 have hs:=s.nd
 rw [List.flatMap_append,List.nodup_append] at hs
 have hdis:∀u∈rest,∀y∈u.D,∀t∈old,y∉t.D:=fun u hu y hy t ht hyt=>hs.2.2 y (List.mem_flatMap.2 ⟨t,ht,hyt⟩) y (List.mem_flatMap.2 ⟨u,hu,hy⟩) rfl
 refine ⟨fun y b hb=>?_,?_,fun u hu y hy=>?_,fun u hu=>?_⟩
 ·refine hf y b (s.le y b hb) fun u hu hy=>?_
  rw [s.fr u (List.mem_append_left _ hu) y hy] at hb;cases hb
 ·rw [List.flatMap_append,List.nodup_append]
  refine ⟨hnd,hs.2.1,fun a ha b hb e=>?_⟩
  subst e
  obtain ⟨t,ht,hat⟩:=List.mem_flatMap.1 ha
  obtain ⟨u,hu,hau⟩:=List.mem_flatMap.1 hb
  rcases hfr t ht a hat with ⟨v,hv,hav⟩ | hn
  ·exact hdis u hu a hau v hv hav
  ·exact u.has (s.ok u (List.mem_append_right _ hu)) a hau hn
 ·rcases List.mem_append.1 hu with hu | hu
  ·rcases hfr u hu y hy with ⟨v,hv,hav⟩ | hn
   ·exact s.fr v (List.mem_append_left _ hv) y hav
   ·cases hh:H y with
    | none=>rfl
    | some b=>rw [← hn,s.le y b hh]
  ·exact s.fr u (List.mem_append_right _ hu) y hy
 ·rcases List.mem_append.1 hu with hu | hu
  ·exact hp u hu
  ·exact u.loc (s.ok u (List.mem_append_right _ hu)) fun y hy b hb=>hf y b hb (hdis u hu y hy)
theorem St.repl {H G G':Heap} {Ts:List Th} {t:Th} (s:St H Ts G) (i:Nat) (h:Ts[i]?=some t) (t':Th) (hnd:t'.D.Nodup) (hfr:∀y∈t'.D,y∈t.D∨G y=none)
  (hf:∀y b,G y=some b→y∉t.D→G' y=some b) (hp:t'.P G'):St H (Ts.set i t') G':=by
 obtain ⟨hi,-⟩:=List.getElem?_eq_some_iff.1 h
 have:=St.step (old:=[t]) (s.pick i h) [t'] (by simpa using hnd) (fun u hu y hy=>by
  rw [List.mem_singleton] at hu;subst hu
  rcases hfr y hy with h1 | h1
  ·exact .inl ⟨t,by simp,h1⟩
  ·exact .inr h1) (fun y b hb hy=>hf y b hb (hy t (by simp))) (fun u hu=>by rw [List.mem_singleton] at hu;subst hu;exact hp)
 exact this.perm (perm_set Ts i hi t').symm
theorem St.moved {H G:Heap} {Ts:List Th} {q q':Nat} {b c:List AV} (s:St H Ts G) (i:Nat) (h:Ts[i]?=some (cT_ q b)) (hq:G q'=none):St H (Ts.set i (cT_ q' c)) ((G.del q).set q' c):=by
 have hg:G q=some b:=s.get i h
 refine s.repl i h (cT_ q' c) (by simp [cT_]) (fun y hy=>?_) (fun y bb hb hy=>?_) (Heap.set_same _ _ _)
 ·simp only [cT_,List.mem_singleton] at hy;subst hy;exact .inr hq
 ·simp only [cT_,List.mem_singleton] at hy
  rw [Heap.set_other (fun e=>by rw [e,hq] at hb;cases hb),Heap.del_other hy];exact hb
theorem St.put {H G:Heap} {Ts:List Th} {q:Nat} {b:List AV} (s:St H Ts G) (i:Nat) (h:Ts[i]?=some (cT_ q b)) (c:List AV):St H (Ts.set i (cT_ q c)) (G.set q c):=by
 refine s.repl i h (cT_ q c) (by simp [cT_]) (fun y hy=>.inl hy) (fun y bb hb hy=>?_) (Heap.set_same _ _ _)
 simp only [cT_,List.mem_singleton] at hy
 rw [Heap.set_other hy];exact hb
theorem St.sub {H G:Heap} {Ts Us:List Th} (s:St H Ts G) (h:List.Sublist Us Ts):St H Us G:=
 ⟨s.le,List.Nodup.sublist (sub_flat h) s.nd,fun t ht=>s.fr t (h.subset ht),fun t ht=>s.ok t (h.subset ht)⟩
theorem St.erase {H G:Heap} {Ts:List Th} (s:St H Ts G) (i:Nat):St H (Ts.eraseIdx i) G:=s.sub (List.eraseIdx_sublist Ts i)
theorem St.new {H G:Heap} {Ts:List Th} (s:St H Ts G):New H G (Ts.flatMap Th.D):=⟨s.nd,fun y hy=>by
 obtain ⟨t,ht,hyt⟩:=List.mem_flatMap.1 hy
 exact s.fr t ht y hyt,s.le⟩
theorem St.wkNone {H G:Heap} {Ts:List Th} (s:St H Ts G):∀y b,H y=some b→∀t∈Ts,y∉t.D:=fun y b hb t ht hy=>by rw [s.fr t ht y hy] at hb;cases hb
end Go.Sep
namespace Go.Pt
structure Ed where
 src:Int
 lt:Int
 dst:Int
deriving Inhabited
structure Au where
 states:Int
 first:List Int
 edges:List Ed
 goals:List (List Int)
deriving Inhabited
def riseAt (l:List Int) (n:Int) (i:Nat):Bool:=(decide (0≤l.getD i default) && decide (l.getD i default < n)) && (decide (i=0) || decide (l.getD (i - 1) default < l.getD i default))
def rising (l:List Int) (n:Int):Bool:=(List.range l.length).all (riseAt l n)
def edLt (a b:Ed):Bool:=if a.src=b.src then (if a.lt=b.lt then decide (a.dst < b.dst) else decide (a.lt < b.lt)) else decide (a.src < b.src)
def edIn (n:Int) (e:Ed):Bool:=(decide (0≤e.src) && decide (e.src < n)) && ((decide (0≤e.dst) && decide (e.dst < n)) && (decide (0≤e.lt) && decide (e.lt < 8)))
def edAt (n:Int) (es:List Ed) (i:Nat):Bool:=edIn n (es.getD i default) && (decide (i=0) || edLt (es.getD (i - 1) default) (es.getD i default))
def edsOk (n:Int) (es:List Ed):Bool:=(List.range es.length).all (edAt n es)
def goodA (a:Au):Bool:=(decide (1≤a.states) && decide (a.states≤96)) && (rising a.first a.states && (decide (a.edges.length≤2400) && ((decide (a.goals.length≤6) && a.goals.all (fun g=>rising g a.states)) && edsOk a.states a.edges)))
end Go.Pt
namespace Go.Proofs.YtolffbcnbcjeaaaGreat
open Go Go.Sep Go.Pt
attribute [local irreducible] CallT
abbrev eE (x:Ed):List PV:=[.int .i64 x.src,.int .i64 x.lt,.int .i64 x.dst]
abbrev aE (x:Ed):AV:=.agg [I x.src,I x.lt,I x.dst]
abbrev Es (xs:List Ed):AV:=.p (.sl (xs.map eE))
abbrev aAu (a:Au):AV:=.agg [I a.states,Is a.first,Es a.edges,Ls a.goals]
def smLs (cs:List (List Int)):Prop:=cs.length≤1048576∧∀c∈cs,c.length≤1048576
def smAu (a:Au):Prop:=a.first.length≤1048576∧a.edges.length≤1048576∧smLs a.goals
theorem eqEdge_spec (c:Ed):Pu Tryz.prog 90 [aE c,aE c] (B true):=by
 refine Pu.of fun H=>?_
 refine W90_ok ?_;simp (maxSteps:=1000000) (disch:=first | assumption | (apply ν6;assumption)) only [W90,vz,vu,vv,eqS,eF_,↓c1_,↓c2_,tabs,reduceCtorEq,ι5,↓reduceIte,ν1,ν2,ν3,ν4,ν5,ι1,ι2,ι3,ι4]
 intro r hr r2 n1 h2
 (try simp (maxSteps:=1000000) (disch:=first | assumption | (apply ν6;assumption)) only [vz,vu,vv,eqS,eF_,↓c1_,↓c2_,tabs,reduceCtorEq,ι5,↓reduceIte,ν1,ν2,ν3,ν4,ν5,ι1,ι2,ι3,ι4])
 (repeat first | exact Heap.le_refl _ | refine Heap.le_setN ?_ (by assumption))
theorem eqEdgeS_spec (xs:List Ed) (hl:xs.length≤1048576):Pu Tryz.prog 45 [Es xs,Es xs] (B true):=by
 refine Pu.of fun H=>?_
 refine W45_ok ?_;simp (maxSteps:=1000000) (disch:=first | assumption | (apply ν6;assumption)) only [W45,vz,vu,vv,eqS,eF_,↓c1_,↓c2_,tabs,reduceCtorEq,ι5,↓reduceIte,ν1,ν2,ν3,ν4,ν5,ι1,ι2,ι3,ι4]
 refine L45_0_rule (0:Nat) (fun i=>I i) (fun _=>H) (fun i=>i≤xs.length) (fun i=>xs.length - i) ⟨by omega,.refl _,Heap.le_refl _⟩ ?_
 intro i hi
 (try simp (maxSteps:=1000000) (disch:=first | assumption | (apply ν6;assumption)) only [vz,vu,vv,eqS,eF_,↓c1_,↓c2_,tabs,reduceCtorEq,ι5,↓reduceIte,ν1,ν2,ν3,ν4,ν5,ι1,ι2,ι3,ι4,B45_0])
 intro h
 have hlt:i < xs.length:=by omega
 refine ⟨by omega,h,by omega,h,?_⟩
 refine Pu.use (eqEdge_spec (xs.getD i default)) ?_
 (try simp (maxSteps:=1000000) (disch:=first | assumption | (apply ν6;assumption)) only [vz,vu,vv,eqS,eF_,↓c1_,↓c2_,tabs,reduceCtorEq,ι5,↓reduceIte,ν1,ν2,ν3,ν4,ν5,ι1,ι2,ι3,ι4])
 refine ⟨i+1,by omega,by omega,?_⟩
 rw [wk_int,i6_ (by omega) (by omega)];simp
theorem eqIntSS_spec (xs:List (List Int)) (hs:smLs xs):Pu Tryz.prog 46 [Ls xs,Ls xs] (B true):=by
 have hl:=hs.1
 refine Pu.of fun H=>?_
 refine W46_ok ?_;simp (maxSteps:=1000000) (disch:=first | assumption | (apply ν6;assumption)) only [W46,vz,vu,vv,eqS,eF_,↓c1_,↓c2_,tabs,reduceCtorEq,ι5,↓reduceIte,ν1,ν2,ν3,ν4,ν5,ι1,ι2,ι3,ι4]
 refine L46_0_rule (0:Nat) (fun i=>I i) (fun _=>H) (fun i=>i≤xs.length) (fun i=>xs.length - i) ⟨by omega,.refl _,Heap.le_refl _⟩ ?_
 intro i hi
 (try simp (maxSteps:=1000000) (disch:=first | assumption | (apply ν6;assumption)) only [vz,vu,vv,eqS,eF_,↓c1_,↓c2_,tabs,reduceCtorEq,ι5,↓reduceIte,ν1,ν2,ν3,ν4,ν5,ι1,ι2,ι3,ι4,B46_0])
 intro h
 have hlt:i < xs.length:=by omega
 have hm:xs.getD i default∈xs:=getD_all (p:=fun x=>x∈xs) (fun _ h=>h) hlt
 refine ⟨by omega,h,by omega,h,?_⟩
 refine Pu.use (eqIntS_spec (xs.getD i default) (hs.2 _ hm)) ?_
 (try simp (maxSteps:=1000000) (disch:=first | assumption | (apply ν6;assumption)) only [vz,vu,vv,eqS,eF_,↓c1_,↓c2_,tabs,reduceCtorEq,ι5,↓reduceIte,ν1,ν2,ν3,ν4,ν5,ι1,ι2,ι3,ι4])
 refine ⟨i+1,by omega,by omega,?_⟩
 rw [wk_int,i6_ (by omega) (by omega)];simp
theorem eqAuto_spec (c:Au) (h:smAu c):Pu Tryz.prog 12 [aAu c,aAu c] (B true):=by
 refine Pu.of fun H=>?_
 refine W12_ok ?_;simp (maxSteps:=1000000) (disch:=first | assumption | (apply ν6;assumption)) only [W12,vz,vu,vv,eqS,eF_,↓c1_,↓c2_,tabs,reduceCtorEq,ι5,↓reduceIte,ν1,ν2,ν3,ν4,ν5,ι1,ι2,ι3,ι4]
 intro r hr r2 n1 h2
 (try simp (maxSteps:=1000000) (disch:=first | assumption | (apply ν6;assumption)) only [vz,vu,vv,eqS,eF_,↓c1_,↓c2_,tabs,reduceCtorEq,ι5,↓reduceIte,ν1,ν2,ν3,ν4,ν5,ι1,ι2,ι3,ι4])
 refine Pu.use (eqIntS_spec c.first h.1) ?_
 (try simp (maxSteps:=1000000) (disch:=first | assumption | (apply ν6;assumption)) only [vz,vu,vv,eqS,eF_,↓c1_,↓c2_,tabs,reduceCtorEq,ι5,↓reduceIte,ν1,ν2,ν3,ν4,ν5,ι1,ι2,ι3,ι4])
 refine Pu.use (eqEdgeS_spec c.edges h.2.1) ?_
 (try simp (maxSteps:=1000000) (disch:=first | assumption | (apply ν6;assumption)) only [vz,vu,vv,eqS,eF_,↓c1_,↓c2_,tabs,reduceCtorEq,ι5,↓reduceIte,ν1,ν2,ν3,ν4,ν5,ι1,ι2,ι3,ι4])
 refine Pu.use (eqIntSS_spec c.goals h.2.2) ?_
 (try simp (maxSteps:=1000000) (disch:=first | assumption | (apply ν6;assumption)) only [vz,vu,vv,eqS,eF_,↓c1_,↓c2_,tabs,reduceCtorEq,ι5,↓reduceIte,ν1,ν2,ν3,ν4,ν5,ι1,ι2,ι3,ι4])
 (repeat first | exact Heap.le_refl _ | refine Heap.le_setN ?_ (by assumption))
end Go.Proofs.YtolffbcnbcjeaaaGreat
namespace Go.Proofs.YtolffbcnbcjeaaaGreat
open Go Go.Sep
attribute [local irreducible] CallT
abbrev fI (n:Int):PV:=.int .i64 n
abbrev rowP {α:Type} (q:Nat) (xs:List α):AV:=.sl q 1 0 xs.length
abbrev cP {α:Type} (f:α→PV) (xs:List α):List AV:=xs.map fun x=>AV.p (f x)
abbrev vP {α:Type} (f:α→PV) (xs:List α):AV:=.p (.sl (xs.map fun x=>[f x]))
theorem cells_P {α:Type} (f:α→PV) (xs:List α):cells (xs.map fun x=>[f x])=cP f xs:=by
 induction xs with
 | nil=>rfl
 | cons x xs ih=>simp only [cells,List.map_cons,List.flatten_cons,List.map_append] at ih ⊢;rw [ih];rfl
theorem flat_P {α:Type} (f:α→PV) (xs:List α):(xs.map fun x=>[f x]).flatten.map AV.p=cP f xs:=cells_P f xs
theorem szP {α:Type} (f:α→PV) (xs:List α):Sized 1 (xs.map fun x=>[f x]):=sized_map (f:=fun x=>[f x]) (fun _=>rfl) xs
def Base {α:Type} (f:α→PV) (x:AV) (xs:List α) (G:Heap):Prop:=(x=.p .nil∧xs=[])∨∃q,x=rowP q xs∧G q=some (cP f xs)
theorem app_row {α:Type} {f:α→PV} {tab:Tab} {t e:Nat} {d ed:TD} {q:Nat} {xs ys:List α} {G:Heap} {K:AV→Heap→Prop} (h1:tab t=some d) (h2:d.k=.slice e) (h3:tab e=some ed) (h6:ed.size=1) (h7:ed.bytes≤64)
  (hq:G q=some (cP f xs)) (hl:xs.length+ys.length≤1000000000)
  (h:∀q',G q'=none→K (rowP q' (xs++ys)) ((G.del q).set q' (cP f (xs++ys)))):aP_ tab t t (rowP q xs) (vP f ys) G (wkK K):=by
 have:=app_own (x:=vP f ys) (r:=q) (es:=xs.map fun x=>[f x]) (fs:=ys.map fun x=>[f x]) (H:=G) (K:=K) h1 h2 h3 h1 h2 h6 (bz:=ed.bytes) rfl (.inl rfl) (by rw [cells_P];exact hq) (szP f xs) (szP f ys)
  (by simp only [List.length_map];exact Nat.le_trans (Nat.mul_le_mul hl h7) (by omega)) (by simp only [List.length_map];omega) fun r' hr'=>by
   have:=h r' hr'
   rw [← List.map_append,cells_P]
   simpa only [own,List.length_map] using this
 simpa only [own,List.length_map] using this
theorem app_base {α:Type} {f:α→PV} {tab:Tab} {t e:Nat} {d ed:TD} {x:AV} {xs ys:List α} {G:Heap} {K:AV→Heap→Prop} (h1:tab t=some d) (h2:d.k=.slice e) (h3:tab e=some ed) (h6:ed.size=1) (h7:ed.bytes≤64)
  (hb:Base f x xs G) (hl:xs.length+ys.length≤1000000000)
  (h:∀q' G1,G q'=none→G1 q'=some (cP f (xs++ys))→(∀y,y≠q'→(∀q,x=rowP q xs→y≠q)→G1 y=G y)→K (rowP q' (xs++ys)) G1):aP_ tab t t x (vP f ys) G (wkK K):=by
 rcases hb with ⟨rfl,rfl⟩ | ⟨q,rfl,hq⟩
 ·simp only [aP_,h1,h2,h3,h6,srcV,baseV]
  refine ⟨szP f ys,?_,?_,?_,fun r' hr'=>wkK.keep ?_⟩
  ·have hl2:0+(ys.map fun x=>[f x]).length≤1000000000:=by simpa using hl
   exact Nat.le_trans (Nat.mul_le_mul hl2 h7) (by omega)
  ·simp only [List.length_map];simp at hl;omega
  ·exact cells_cell _
  ·have:=h r' (G.set r' (cP f ys)) hr' (by rw [Heap.set_same];rfl) (fun y hy _=>Heap.set_other hy)
   rw [flat_P]
   simpa using this
 ·refine app_row h1 h2 h3 h6 h7 hq hl fun q' hq'=>?_
  have hne:q'≠q:=by rintro rfl;rw [hq] at hq';cases hq'
  refine h q' _ hq' (Heap.set_same _ _ _) fun y hy hy2=>?_
  rw [Heap.set_other hy,Heap.del_other (hy2 q rfl)]
structure Own1 {α:Type} (f:α→PV) (H0 G:Heap) (r:Nat) (pre:List AV) (x:AV) (xs:List α):Prop where
 hr:G r=some (pre++[x])
 base:(x=.p .nil∧xs=[])∨∃q,x=rowP q xs∧G q=some (cP f xs)∧H0 q=none∧q≠r
 le:Heap.le H0 G
 nr:H0 r=none
theorem Own1.alloc {α:Type} {f:α→PV} {H0 G:Heap} {r:Nat} {pre:List AV} {x:AV} {xs:List α} (o:Own1 f H0 G r pre x xs) {q:Nat} (hq:G q=none) (b:List AV):Own1 f H0 (G.set q b) r pre x xs:=by
 have ne:∀{y c},G y=some c→y≠q:=fun h e=>by rw [e,hq] at h;cases h
 refine ⟨by rw [Heap.set_other (ne o.hr)];exact o.hr,?_,Heap.le_setN o.le ?_,o.nr⟩
 ·rcases o.base with h | ⟨q1,h1,h2,h3,h4⟩
  ·exact .inl h
  ·exact .inr ⟨q1,h1,by rw [Heap.set_other (ne h2)];exact h2,h3,h4⟩
 ·cases hh:H0 q with
  | none=>rfl
  | some c=>rw [o.le q c hh] at hq;cases hq
theorem Own1.app {α:Type} {f:α→PV} {H0 G:Heap} {r:Nat} {pre:List AV} {x:AV} {xs:List α} (o:Own1 f H0 G r pre x xs) {tab:Tab} {t e:Nat} {d ed:TD} {ys:List α} {K:AV→Heap→Prop} (h1:tab t=some d) (h2:d.k=.slice e) (h3:tab e=some ed) (h6:ed.size=1) (h7:ed.bytes≤64)
  (hl:xs.length+ys.length≤1000000000)
  (h:∀q' m G1,G1 r=some (pre++[x])→Own1 f H0 (G1.set r (pre++[.sl q' 1 0 m])) r pre (.sl q' 1 0 m) (xs++ys)→(∀y b,y≠r→H0 y=some b→G1 y=some b)→K (.sl q' 1 0 m) G1):aP_ tab t t x (vP f ys) G (wkK K):=by
 refine app_base (f:=f) h1 h2 h3 h6 h7 (xs:=xs) ?_ hl fun q' G1 hq' hG1 hfr=>?_
 ·rcases o.base with h | ⟨q1,h1,h2,h3,h4⟩
  ·exact .inl h
  ·exact .inr ⟨q1,h1,h2⟩
 ·have hrq:r≠q':=fun e=>by rw [← e,o.hr] at hq';cases hq'
  have hxr:∀q,x=rowP q xs→H0 q=none∧q≠r:=by
   intro q hx
   rcases o.base with ⟨h,_⟩ | ⟨q1,h1,h2,h3,h4⟩
   ·rw [h] at hx;cases hx
   ·rw [h1] at hx;cases hx;exact ⟨h3,h4⟩
  have hle1:∀y b,H0 y=some b→G1 y=some b:=by
   intro y b hy
   rw [hfr y (fun e=>by rw [← e,o.le y b hy] at hq';cases hq') (fun q hx e=>by rw [e,(hxr q hx).1] at hy;cases hy)]
   exact o.le y b hy
  have hnq:H0 q'=none:=by
   cases hh:H0 q' with
   | none=>rfl
   | some c=>rw [o.le q' c hh] at hq';cases hq'
  refine h q' _ G1 ?_ ⟨Heap.set_same _ _ _,.inr ⟨q',rfl,by rw [Heap.set_other hrq.symm];exact hG1,hnq,hrq.symm⟩,?_,o.nr⟩ fun y b _ hy=>hle1 y b hy
  ·rw [hfr r hrq (fun q hx e=>(hxr q hx).2 e.symm)];exact o.hr
  ·refine Heap.le_setN (fun y b hy=>hle1 y b hy) o.nr
theorem Own1.wk {α:Type} {f:α→PV} {H0 G:Heap} {r:Nat} {pre:List AV} {x:AV} {xs:List α} (o:Own1 f H0 G r pre x xs) {v v':AV}
  (hn:x=.p .nil→xs=[]→AV.wk v v') (hf:∀q,x=rowP q xs→FrzR q 1 (xs.map fun x=>[f x]) v v') (hp:∀q,q≠r→FrzL q 1 (xs.map fun x=>[f x]) (pre++[rowP q xs]) (pre++[vP f xs])) :
  ∃G',Wk v G v' G'∧G' r=some (pre++[vP f xs])∧Heap.le H0 G':=by
 rcases o.base with ⟨rfl,rfl⟩ | ⟨q,rfl,hq,hq0,hqr⟩
 ·refine ⟨G.set r (pre++[vP f []]),.trans (.val (hn rfl rfl)) (.cell o.hr (by simp) fun i a a' ha ha'=>?_),Heap.set_same _ _ _,Heap.le_setN o.le o.nr⟩
  by_cases hi:i < pre.length
  ·rw [List.getElem?_append_left hi] at ha ha'
   rw [ha] at ha';cases ha';exact .refl _
  ·rw [List.getElem?_append_right (by omega)] at ha ha'
   cases hj:i - pre.length with
   | zero=>
    rw [hj] at ha ha'
    simp at ha ha'
    subst ha;subst ha';exact .nil
   | succ j=>rw [hj] at ha;simp at ha
 ·refine ⟨(G.del q).set r (pre++[vP f xs]),Wk.frzAt (r:=q) (s:=r) (sz:=1) (es:=xs.map fun x=>[f x]) (by omega) (by rw [flat_P];exact hq) (szP f xs) o.hr hqr.symm (hp q hqr) (hf q rfl) (by simp),Heap.set_same _ _ _,?_⟩
  exact Heap.le_setN (Heap.le_del o.le hq0) o.nr
theorem FrzL.refl {r sz:Nat} {es:List (List PV)}:∀vs,FrzL r sz es vs vs
 | []=>.nil
 | v::vs=>.cons (.same v) (FrzL.refl vs)
theorem FrzL.app {r sz:Nat} {es:List (List PV)}:∀{vs ws ws':List AV},FrzL r sz es ws ws'→FrzL r sz es (vs++ws) (vs++ws')
 | [],_,_,h=>h
 | v::vs,_,_,h=>.cons (.same v) (FrzL.app (vs:=vs) h)
theorem frz_row {α:Type} {f:α→PV} {q:Nat} {xs:List α}:FrzR q 1 (xs.map fun x=>[f x]) (rowP q xs) (vP f xs):=by
 have:FrzR q 1 (xs.map fun x=>[f x]) (.sl q 1 0 (xs.map fun x=>[f x]).length) (.p (.sl (xs.map fun x=>[f x]))):=.here
 rwa [List.length_map] at this
end Go.Proofs.YtolffbcnbcjeaaaGreat
namespace Go.Proofs.YtolffbcnbcjeaaaGreat
open Go Go.Sep Go.Pt
attribute [local irreducible] CallT
def LPg (p:Pg) (v:AV) (G:Heap) (D:List Nat):Prop:=∃x y D1 D2,v=.agg [I p.wide,I p.vars,x,y]∧D=D1++D2∧LN p.start x G D1∧LRow LCm 2 p.cmds y G D2
theorem LPg.local {p:Pg} {v:AV} {G G':Heap} {D:List Nat} (h:LPg p v G D) (hf:∀y∈D,∀b,G y=some b→G' y=some b):LPg p v G' D:=by
 obtain ⟨x,y,D1,D2,e,rfl,h1,h2⟩:=h
 exact ⟨x,y,D1,D2,e,rfl,LRow.local (LPl.local eN) h1 (fun z hz=>hf z (List.mem_append_left _ hz)),LRow.local LCm.local h2 (fun z hz=>hf z (List.mem_append_right _ hz))⟩
theorem LPg.has {p:Pg} {v:AV} {G:Heap} {D:List Nat} (h:LPg p v G D):∀y∈D,G y≠none:=by
 obtain ⟨x,y,D1,D2,e,rfl,h1,h2⟩:=h
 intro z hz
 rcases List.mem_append.1 hz with hz | hz
 ·exact LRow.has (LPl.has eN) h1 z hz
 ·exact LRow.has LCm.has h2 z hz
theorem LPg.wk {p:Pg} {v:AV} {G:Heap} {D:List Nat} (h:LPg p v G D) (hD:D.Nodup) (C:AV→AV) (hC:∀{q sz es a a'},FrzR q sz es a a'→FrzR q sz es (C a) (C a')):∃G',Wk (C v) G (C (aPg p)) G'∧∀y,y∉D→G' y=G y:=by
 obtain ⟨x,y,D1,D2,rfl,rfl,h1,h2⟩:=h
 rw [List.nodup_append] at hD
 obtain ⟨G1,w1,f1⟩:=LRow.frzV (e:=eN) (sz:=2) (v:=C (.agg [I p.wide,I p.vars,x,y])) (v':=C (.agg [I p.wide,I p.vars,Ns p.start,y])) (by omega) (fun _=>rfl) (LPl.local eN) (LPl.frz eN) h1 hD.1
  (fun q _ hr=>hC (.agg (.cons (.same _) (.cons (.same _) (.cons hr (.cons (.same _) .nil))))))
 have h2':=LRow.local LCm.local h2 (G':=G1) fun z hz b hb=>by rw [f1 z (fun hz1=>hD.2.2 z hz1 z hz rfl)];exact hb
 obtain ⟨G2,w2,f2⟩:=LRow.frzV (e:=eCm) (sz:=2) (v:=C (.agg [I p.wide,I p.vars,Ns p.start,y])) (v':=C (aPg p)) (by omega) (fun _=>rfl) LCm.local LCm.frz h2' hD.2.1
  (fun q _ hr=>hC (.agg (.cons (.same _) (.cons (.same _) (.cons (.same _) (.cons hr .nil))))))
 refine ⟨G2,.trans w1 w2,fun z hz=>?_⟩
 rw [List.mem_append,not_or] at hz
 rw [f2 z hz.2,f1 z hz.1]
def LSt (of:List Int) (v:AV) (G:Heap) (D:List Nat):Prop:=∃x,v=.agg [x]∧LI of x G D
theorem LI_mk {xs:List Int} {q:Nat} {G:Heap} (h:G q=some (cells (xs.map eI))):LI xs (rowP q xs) G [q]:=⟨q,_,[],rfl,h,LL.plain xs,rfl⟩
theorem LSt.local {of:List Int} {v:AV} {G G':Heap} {D:List Nat} (h:LSt of v G D) (hf:∀y∈D,∀b,G y=some b→G' y=some b):LSt of v G' D:=by
 obtain ⟨x,e,h⟩:=h;exact ⟨x,e,LRow.local (LPl.local eI) h hf⟩
theorem LSt.has {of:List Int} {v:AV} {G:Heap} {D:List Nat} (h:LSt of v G D):∀y∈D,G y≠none:=by
 obtain ⟨x,e,h⟩:=h;exact LRow.has (LPl.has eI) h
theorem LSt.wk {of:List Int} {v:AV} {G:Heap} {D:List Nat} (h:LSt of v G D) (hD:D.Nodup) (C:AV→AV) (hC:∀{q sz es a a'},FrzR q sz es a a'→FrzR q sz es (C a) (C a')):∃G',Wk (C v) G (C (aS of)) G'∧∀y,y∉D→G' y=G y:=by
 obtain ⟨x,rfl,h⟩:=h
 exact LRow.frzV (e:=eI) (sz:=1) (v:=C (.agg [x])) (v':=C (aS of)) (by omega) (fun _=>rfl) (LPl.local eI) (LPl.frz eI) h hD (fun q _ hr=>hC (.agg (.cons hr .nil)))
def marked (k:Int) (n:Nat):List Int:=(List.range n).map fun (j:Nat)=>k+(j:Int)
theorem marked_len (k:Int) (n:Nat):(marked k n).length=n:=by simp [marked]
theorem markIntS_live (xs:List Int) (hl:xs.length≤1048576) {k:Int} (h0:0≤k) (h1:k≤1000000000) {q:Nat} {G:Heap} (hG:G q=some (cells (xs.map eI))) {K:AV→Heap→Prop}
  (h:K (I (k+xs.length)) (G.set q (cells ((marked k xs.length).map eI)))):CallT Tryz.prog 47 [rowP q xs,I k] G K:=by
 refine W47_ok ?_;simp (maxSteps:=1000000) (disch:=first | assumption | (apply ν6;assumption)) only [W47,vz,vu,vv,eqS,eF_,↓c1_,↓c2_,tabs,reduceCtorEq,ι5,↓reduceIte,ν1,ν2,ν3,ν4,ν5,ι1,ι2,ι3,ι4]
 refine L47_0_rule (0:Nat) (fun i=>I (k+i)) (fun i=>I i) (fun i=>G.set q (cells ((marked k i++xs.drop i).map eI))) (fun i=>i≤xs.length) (fun i=>xs.length - i) ⟨by omega,?_,.refl _,?_⟩ ?_
 ·rw [wk_int];simp
 ·intro y b hy
  by_cases e:y=q
  ·subst e;rw [Heap.set_same] at hy;rw [hG];simpa [marked] using hy
  ·rw [Heap.set_other e] at hy;exact hy
 intro i hi
 have hcl:(cells ((marked k i++xs.drop i).map eI)).length=xs.length:=by
  rw [cells_I,List.length_map,List.length_append,marked_len,List.length_drop];omega
 (try simp (maxSteps:=1000000) (disch:=first | assumption | (apply ν6;assumption)) only [vz,vu,vv,eqS,eF_,↓c1_,↓c2_,tabs,reduceCtorEq,ι5,↓reduceIte,ν1,ν2,ν3,ν4,ν5,ι1,ι2,ι3,ι4,B47_0,hcl])
 refine ⟨fun h5=>?_,fun h5=>?_⟩
 ·have hlt:i < xs.length:=by omega
  refine ⟨by omega,h5,by omega,i+1,by omega,by omega,?_,?_,?_⟩
  ·rw [wk_int,i6_ (by omega) (by omega)];omega
  ·rw [wk_int,i6_ (by omega) (by omega)];simp
  ·have e1:xs.drop i=xs.getD i 0::xs.drop (i+1):=by rw [List.drop_eq_getElem_cons hlt];simp [List.getD,hlt]
   have e2:marked k (i+1)=marked k i++[k+i]:=by simp [marked,List.range_succ]
   have e3:cells ((marked k i++xs.drop i).map eI)=cells ((marked k i).map eI)++([I (xs.getD i 0)]++cells ((xs.drop (i+1)).map eI)):=by rw [e1,List.map_append,cells_app];rfl
   have e4:cells ((marked k (i+1)++xs.drop (i+1)).map eI)=cells ((marked k i).map eI)++([I (k+i)]++cells ((xs.drop (i+1)).map eI)):=by rw [e2,List.append_assoc,List.map_append,cells_app];rfl
   have e5:=splice_at (pre:=cells ((marked k i).map eI)) (c:=[I (xs.getD i 0)]) (c':=[I (k+i)]) (post:=cells ((xs.drop (i+1)).map eI)) (off:=i*1) (n:=1) (by rw [cells_I,List.length_map,marked_len,Nat.mul_one]) rfl rfl
   rw [← e3,← e4] at e5
   rw [← e5];exact Heap.le_refl _
 ·have:i=xs.length:=by omega
  subst this
  simpa using h
theorem heldIntS_spec (n:Nat) (hl:n≤1048576) {k:Int} (h0:0≤k) (h1:k≤1000000000):Pu Tryz.prog 50 [Is (marked k n),I k] (I (k+n)):=by
 refine Pu.of fun H=>?_
 have hml:=marked_len k n
 refine W50_ok ?_;simp (maxSteps:=1000000) (disch:=first | assumption | (apply ν6;assumption)) only [W50,vz,vu,vv,eqS,eF_,↓c1_,↓c2_,tabs,reduceCtorEq,ι5,↓reduceIte,ν1,ν2,ν3,ν4,ν5,ι1,ι2,ι3,ι4]
 refine L50_0_rule (0:Nat) (fun i=>I (k+i)) (fun i=>I i) (fun _=>H) (fun i=>i≤n) (fun i=>n - i) ⟨by omega,?_,.refl _,Heap.le_refl _⟩ ?_
 ·rw [wk_int];simp
 intro i hi
 (try simp (maxSteps:=1000000) (disch:=first | assumption | (apply ν6;assumption)) only [vz,vu,vv,eqS,eF_,↓c1_,↓c2_,tabs,reduceCtorEq,ι5,↓reduceIte,ν1,ν2,ν3,ν4,ν5,ι1,ι2,ι3,ι4,B50_0,hml])
 refine ⟨fun h5=>?_,fun h5=>?_⟩
 ·have hlt:i < n:=by omega
  have e:(marked k n).getD i default=k+i:=by simp [marked,List.getD,hlt]
  rw [e]
  refine ⟨by omega,h5,fun h6=>absurd rfl h6,fun _=>⟨i+1,by omega,by omega,?_,?_⟩⟩
  ·rw [wk_int,i6_ (by omega) (by omega)];omega
  ·rw [wk_int,i6_ (by omega) (by omega)];simp
 ·have:i=n:=by omega
  subst this;rfl
end Go.Proofs.YtolffbcnbcjeaaaGreat
namespace Go.Proofs.YtolffbcnbcjeaaaGreat
open Go Go.Sep Go.Pt
attribute [local irreducible] CallT
theorem drop_cons {α:Type} [Inhabited α] {xs:List α} {i:Nat} (h:i < xs.length):xs.drop i=xs.getD i default::xs.drop (i+1):=by
 rw [List.drop_eq_getElem_cons h];simp [List.getD,h]
structure Half {α:Type} (L:Lay α) (G0:Heap) (q:Nat) (D:List Nat) (xs:List α) (i:Nat) (G:Heap) (done:List α):Prop where
 ex:∃cd cr Dd Dr,G q=some (cd++cr)∧LL L done cd G Dd∧LL L (xs.drop i) cr G Dr∧D=Dd++Dr
 len:done.length=i
 fr:∀y,y∉q::D→G y=G0 y
end Go.Proofs.YtolffbcnbcjeaaaGreat
