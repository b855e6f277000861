/- Texts laid together: W4 W5 W6. -/
import Derived.Test.YtohkciilfkhomaaPB3
import Derived.KernelRfl
set_option linter.unusedVariables false
set_option linter.unusedSimpArgs false
open Go.Sep.AV renaming any → Q_
open Nat renaming reduceAdd→ν1,reduceLeDiff→ν2,reduceLT→ν3,reduceMul→ν4,reduceSub→ν5
open Int renaming reduceToNat→ι1,reduceSub→ι2,reduceAdd→ι3,reduceNeg→ι4
open Array renaming toList→ι5
open Ne renaming symm→ν6
open List renaming forall_mem_cons→ν7
namespace Go.Proofs.Ytohkciilfkhomaa
open Go Go.Sep
attribute [local irreducible] wpC headF
def D38:Info:=⟨182,fun i=>([],[]),fun i=>if i=3 then ([2,3,4,5,33,34],[35]) else if i=6 then ([2,3,4,5,7,33,34,35,40,41],[42]) else if i=12 then ([2,3,4,5,60,61],[62]) else if i=15 then ([2,3,4,5,11,60,61,62,67,68],[69]) else if i=23 then ([2,3,4,5,108,109],[110]) else if i=27 then ([2,3,4,5,108,109,110,115,116],[16,117]) else if i=30 then ([2,3,4,5,18,108,109,110,115,116,117,122],[16,123]) else if i=38 then ([2,3,4,5,145,146],[147]) else if i=42 then ([2,3,4,5,21,145,146,147,153],[22,154]) else if i=45 then ([2,3,4,5,21,23,145,146,147,153,154,157,158],[22,159]) else ([],[])⟩
def L38_0 (K:AV→Heap→Prop) (v2:AV) (v3:AV) (v4:AV) (v5:AV) (v33:AV) (v34:AV) (v35:AV) (H:Heap):Prop:=LoopV (wpC Try.prog tab D38 (cAt [1,1,0,1,0,0] (bO_ Try.f38))) [2,3,4,5,33,34] (PostF.block 0 (PostF.thenA (wpC Try.prog tab D38 (cAt [1,1,1] (bO_ Try.f38))) (retF tab [.cell 4 28] K))) [35] [Q_,Q_,v2,v3,v4,v5,Q_,Q_,Q_,Q_,Q_,Q_,Q_,Q_,Q_,Q_,Q_,Q_,Q_,Q_,Q_,Q_,Q_,Q_,Q_,Q_,Q_,Q_,Q_,Q_,Q_,Q_,Q_,v33,v34,v35,Q_,Q_,Q_,Q_,Q_,Q_,Q_,Q_,Q_,Q_,Q_,Q_,Q_,Q_,Q_,Q_,Q_,Q_,Q_,Q_,Q_,Q_,Q_,Q_,Q_,Q_,Q_,Q_,Q_,Q_,Q_,Q_,Q_,Q_,Q_,Q_,Q_,Q_,Q_,Q_,Q_,Q_,Q_,Q_,Q_,Q_,Q_,Q_,Q_,Q_,Q_,Q_,Q_,Q_,Q_,Q_,Q_,Q_,Q_,Q_,Q_,Q_,Q_,Q_,Q_,Q_,Q_,Q_,Q_,Q_,Q_,Q_,Q_,Q_,Q_,Q_,Q_,Q_,Q_,Q_,Q_,Q_,Q_,Q_,Q_,Q_,Q_,Q_,Q_,Q_,Q_,Q_,Q_,Q_,Q_,Q_,Q_,Q_,Q_,Q_,Q_,Q_,Q_,Q_,Q_,Q_,Q_,Q_,Q_,Q_,Q_,Q_,Q_,Q_,Q_,Q_,Q_,Q_,Q_,Q_,Q_,Q_,Q_,Q_,Q_,Q_,Q_,Q_,Q_,Q_,Q_,Q_,Q_,Q_,Q_,Q_,Q_,Q_,Q_,Q_,Q_,Q_,Q_,Q_,Q_,Q_] H
def L38_1 (K:AV→Heap→Prop) (N1:AV→Heap→Prop) (v2:AV) (v3:AV) (v4:AV) (v5:AV) (v7:AV) (v33:AV) (v34:AV) (v35:AV) (v40:AV) (v41:AV) (v42:AV) (H:Heap):Prop:=LoopV (wpC Try.prog tab D38 (cAt [1,1,0,1,0,0,1,1,0,0,1,1,0,0] (bO_ Try.f38))) [2,3,4,5,7,33,34,35,40,41] (PostF.block 2 (PostF.block 1 (PostF.thenA (wpC Try.prog tab D38 (cAt [1,1,0,1,0,0,1,1,1] (bO_ Try.f38))) (loopF (PostF.block 0 (PostF.thenA (wpC Try.prog tab D38 (cAt [1,1,1] (bO_ Try.f38))) (retF tab [.cell 4 28] K))) (fun e h=>N1 (e 35) h))))) [42] [Q_,Q_,v2,v3,v4,v5,Q_,v7,Q_,Q_,Q_,Q_,Q_,Q_,Q_,Q_,Q_,Q_,Q_,Q_,Q_,Q_,Q_,Q_,Q_,Q_,Q_,Q_,Q_,Q_,Q_,Q_,Q_,v33,v34,v35,Q_,Q_,Q_,Q_,v40,v41,v42,Q_,Q_,Q_,Q_,Q_,Q_,Q_,Q_,Q_,Q_,Q_,Q_,Q_,Q_,Q_,Q_,Q_,Q_,Q_,Q_,Q_,Q_,Q_,Q_,Q_,Q_,Q_,Q_,Q_,Q_,Q_,Q_,Q_,Q_,Q_,Q_,Q_,Q_,Q_,Q_,Q_,Q_,Q_,Q_,Q_,Q_,Q_,Q_,Q_,Q_,Q_,Q_,Q_,Q_,Q_,Q_,Q_,Q_,Q_,Q_,Q_,Q_,Q_,Q_,Q_,Q_,Q_,Q_,Q_,Q_,Q_,Q_,Q_,Q_,Q_,Q_,Q_,Q_,Q_,Q_,Q_,Q_,Q_,Q_,Q_,Q_,Q_,Q_,Q_,Q_,Q_,Q_,Q_,Q_,Q_,Q_,Q_,Q_,Q_,Q_,Q_,Q_,Q_,Q_,Q_,Q_,Q_,Q_,Q_,Q_,Q_,Q_,Q_,Q_,Q_,Q_,Q_,Q_,Q_,Q_,Q_,Q_,Q_,Q_,Q_,Q_,Q_,Q_,Q_,Q_,Q_,Q_,Q_,Q_,Q_,Q_,Q_,Q_,Q_] H
def B38_1 (K:AV→Heap→Prop) (N1:AV→Heap→Prop) (N2:AV→Heap→Prop) (v2:AV) (v3:AV) (v4:AV) (v5:AV) (v7:AV) (v33:AV) (v34:AV) (v35:AV) (v40:AV) (v41:AV) (v42:AV) (H:Heap):Prop:=
 binV tab .lss 3 v42 v41 fun v43=>
 cV_ v43 (iA_ tab 24 v40 v42 fun v44=>
 lV_ tab 3 v44 H fun v45=>
 fA_ tab 28 v5 1 fun v46=>
 lV_ tab 24 v46 H fun v47=>
 fA_ tab 28 v3 0 fun v49=>
 lV_ tab 3 v49 H fun v50=>
 binV tab .mul 3 v7 v50 fun v51=>
 binV tab .add 3 v51 v45 fun v53=>
 bS_ tab 24 1 [(0,v53)] H (wkK fun v54 H6=>
 aP_ tab 24 24 v47 v54 H6 (wkK fun v55 H7=>
 fA_ tab 28 v5 1 fun v56=>
 sV_ tab 24 v56 v55 H7 fun H8=>
 binV tab .add 3 v42 (AV.p (.int .i64 1)) fun v57=>
 N2 v57 H8)))
 (binV tab .add 3 v35 (AV.p (.int .i64 1)) fun v58=>
 N1 v58 H)
def L38_2 (K:AV→Heap→Prop) (v2:AV) (v3:AV) (v4:AV) (v5:AV) (v60:AV) (v61:AV) (v62:AV) (H:Heap):Prop:=LoopV (wpC Try.prog tab D38 (cAt [1,1,1,0,1,0,0] (bO_ Try.f38))) [2,3,4,5,60,61] (PostF.block 4 (PostF.thenA (wpC Try.prog tab D38 (cAt [1,1,1,1] (bO_ Try.f38))) (retF tab [.cell 4 28] K))) [62] [Q_,Q_,v2,v3,v4,v5,Q_,Q_,Q_,Q_,Q_,Q_,Q_,Q_,Q_,Q_,Q_,Q_,Q_,Q_,Q_,Q_,Q_,Q_,Q_,Q_,Q_,Q_,Q_,Q_,Q_,Q_,Q_,Q_,Q_,Q_,Q_,Q_,Q_,Q_,Q_,Q_,Q_,Q_,Q_,Q_,Q_,Q_,Q_,Q_,Q_,Q_,Q_,Q_,Q_,Q_,Q_,Q_,Q_,Q_,v60,v61,v62,Q_,Q_,Q_,Q_,Q_,Q_,Q_,Q_,Q_,Q_,Q_,Q_,Q_,Q_,Q_,Q_,Q_,Q_,Q_,Q_,Q_,Q_,Q_,Q_,Q_,Q_,Q_,Q_,Q_,Q_,Q_,Q_,Q_,Q_,Q_,Q_,Q_,Q_,Q_,Q_,Q_,Q_,Q_,Q_,Q_,Q_,Q_,Q_,Q_,Q_,Q_,Q_,Q_,Q_,Q_,Q_,Q_,Q_,Q_,Q_,Q_,Q_,Q_,Q_,Q_,Q_,Q_,Q_,Q_,Q_,Q_,Q_,Q_,Q_,Q_,Q_,Q_,Q_,Q_,Q_,Q_,Q_,Q_,Q_,Q_,Q_,Q_,Q_,Q_,Q_,Q_,Q_,Q_,Q_,Q_,Q_,Q_,Q_,Q_,Q_,Q_,Q_,Q_,Q_,Q_,Q_,Q_,Q_,Q_,Q_,Q_,Q_,Q_,Q_,Q_,Q_,Q_,Q_,Q_] H
def L38_3 (K:AV→Heap→Prop) (N1:AV→Heap→Prop) (v2:AV) (v3:AV) (v4:AV) (v5:AV) (v11:AV) (v60:AV) (v61:AV) (v62:AV) (v67:AV) (v68:AV) (v69:AV) (H:Heap):Prop:=LoopV (wpC Try.prog tab D38 (cAt [1,1,1,0,1,0,0,1,1,0,0,1,1,0,0] (bO_ Try.f38))) [2,3,4,5,11,60,61,62,67,68] (PostF.block 6 (PostF.block 5 (PostF.thenA (wpC Try.prog tab D38 (cAt [1,1,1,0,1,0,0,1,1,1] (bO_ Try.f38))) (loopF (PostF.block 4 (PostF.thenA (wpC Try.prog tab D38 (cAt [1,1,1,1] (bO_ Try.f38))) (retF tab [.cell 4 28] K))) (fun e h=>N1 (e 62) h))))) [69] [Q_,Q_,v2,v3,v4,v5,Q_,Q_,Q_,Q_,Q_,v11,Q_,Q_,Q_,Q_,Q_,Q_,Q_,Q_,Q_,Q_,Q_,Q_,Q_,Q_,Q_,Q_,Q_,Q_,Q_,Q_,Q_,Q_,Q_,Q_,Q_,Q_,Q_,Q_,Q_,Q_,Q_,Q_,Q_,Q_,Q_,Q_,Q_,Q_,Q_,Q_,Q_,Q_,Q_,Q_,Q_,Q_,Q_,Q_,v60,v61,v62,Q_,Q_,Q_,Q_,v67,v68,v69,Q_,Q_,Q_,Q_,Q_,Q_,Q_,Q_,Q_,Q_,Q_,Q_,Q_,Q_,Q_,Q_,Q_,Q_,Q_,Q_,Q_,Q_,Q_,Q_,Q_,Q_,Q_,Q_,Q_,Q_,Q_,Q_,Q_,Q_,Q_,Q_,Q_,Q_,Q_,Q_,Q_,Q_,Q_,Q_,Q_,Q_,Q_,Q_,Q_,Q_,Q_,Q_,Q_,Q_,Q_,Q_,Q_,Q_,Q_,Q_,Q_,Q_,Q_,Q_,Q_,Q_,Q_,Q_,Q_,Q_,Q_,Q_,Q_,Q_,Q_,Q_,Q_,Q_,Q_,Q_,Q_,Q_,Q_,Q_,Q_,Q_,Q_,Q_,Q_,Q_,Q_,Q_,Q_,Q_,Q_,Q_,Q_,Q_,Q_,Q_,Q_,Q_,Q_,Q_,Q_,Q_,Q_,Q_,Q_,Q_,Q_,Q_] H
def B38_3 (K:AV→Heap→Prop) (N1:AV→Heap→Prop) (N2:AV→Heap→Prop) (v2:AV) (v3:AV) (v4:AV) (v5:AV) (v11:AV) (v60:AV) (v61:AV) (v62:AV) (v67:AV) (v68:AV) (v69:AV) (H:Heap):Prop:=
 binV tab .lss 3 v69 v68 fun v70=>
 cV_ v70 (iA_ tab 25 v67 v69 fun v71=>
 lV_ tab 46 v71 H fun v72=>
 allocV tab 46 H fun v13 H11=>
 sV_ tab 46 v13 v72 H11 fun H12=>
 fA_ tab 46 v11 1 fun v73=>
 lV_ tab 3 v73 H12 fun v74=>
 fA_ tab 46 v13 1 fun v75=>
 lV_ tab 3 v75 H12 fun v76=>
 binV tab .eql 3 v74 v76 fun v77=>
 cV_ v77 (fA_ tab 28 v5 2 fun v78=>
 lV_ tab 25 v78 H12 fun v79=>
 fA_ tab 46 v11 0 fun v80=>
 lV_ tab 3 v80 H12 fun v81=>
 fA_ tab 28 v3 0 fun v82=>
 lV_ tab 3 v82 H12 fun v83=>
 binV tab .mul 3 v81 v83 fun v84=>
 fA_ tab 46 v13 0 fun v85=>
 lV_ tab 3 v85 H12 fun v86=>
 binV tab .add 3 v84 v86 fun v87=>
 fA_ tab 46 v11 1 fun v88=>
 lV_ tab 3 v88 H12 fun v89=>
 fA_ tab 46 v11 2 fun v90=>
 lV_ tab 3 v90 H12 fun v91=>
 fA_ tab 28 v3 0 fun v92=>
 lV_ tab 3 v92 H12 fun v93=>
 binV tab .mul 3 v91 v93 fun v94=>
 fA_ tab 46 v13 2 fun v95=>
 lV_ tab 3 v95 H12 fun v96=>
 binV tab .add 3 v94 v96 fun v97=>
 buildV tab 46 [(0,v87),(1,v89),(2,v97)] fun v98=>
 bS_ tab 25 1 [(0,v98)] H12 (wkK fun v99 H13=>
 aP_ tab 25 25 v79 v99 H13 (wkK fun v100 H14=>
 fA_ tab 28 v5 2 fun v101=>
 sV_ tab 25 v101 v100 H14 fun H15=>
 binV tab .add 3 v69 (AV.p (.int .i64 1)) fun v102=>
 N2 v102 H15)))
 (binV tab .add 3 v69 (AV.p (.int .i64 1)) fun v102=>
 N2 v102 H12))
 (binV tab .add 3 v62 (AV.p (.int .i64 1)) fun v103=>
 N1 v103 H)
def L38_4 (K:AV→Heap→Prop) (v2:AV) (v3:AV) (v4:AV) (v5:AV) (v108:AV) (v109:AV) (v110:AV) (H:Heap):Prop:=LoopV (wpC Try.prog tab D38 (cAt [1,1,1,1,1,0,1,0,0] (bO_ Try.f38))) [2,3,4,5,108,109] (PostF.block 8 (PostF.thenA (wpC Try.prog tab D38 (cAt [1,1,1,1,1,1] (bO_ Try.f38))) (retF tab [.cell 4 28] K))) [110] [Q_,Q_,v2,v3,v4,v5,Q_,Q_,Q_,Q_,Q_,Q_,Q_,Q_,Q_,Q_,Q_,Q_,Q_,Q_,Q_,Q_,Q_,Q_,Q_,Q_,Q_,Q_,Q_,Q_,Q_,Q_,Q_,Q_,Q_,Q_,Q_,Q_,Q_,Q_,Q_,Q_,Q_,Q_,Q_,Q_,Q_,Q_,Q_,Q_,Q_,Q_,Q_,Q_,Q_,Q_,Q_,Q_,Q_,Q_,Q_,Q_,Q_,Q_,Q_,Q_,Q_,Q_,Q_,Q_,Q_,Q_,Q_,Q_,Q_,Q_,Q_,Q_,Q_,Q_,Q_,Q_,Q_,Q_,Q_,Q_,Q_,Q_,Q_,Q_,Q_,Q_,Q_,Q_,Q_,Q_,Q_,Q_,Q_,Q_,Q_,Q_,Q_,Q_,Q_,Q_,Q_,Q_,v108,v109,v110,Q_,Q_,Q_,Q_,Q_,Q_,Q_,Q_,Q_,Q_,Q_,Q_,Q_,Q_,Q_,Q_,Q_,Q_,Q_,Q_,Q_,Q_,Q_,Q_,Q_,Q_,Q_,Q_,Q_,Q_,Q_,Q_,Q_,Q_,Q_,Q_,Q_,Q_,Q_,Q_,Q_,Q_,Q_,Q_,Q_,Q_,Q_,Q_,Q_,Q_,Q_,Q_,Q_,Q_,Q_,Q_,Q_,Q_,Q_,Q_,Q_,Q_,Q_,Q_,Q_,Q_,Q_,Q_,Q_,Q_,Q_] H
def L38_5 (K:AV→Heap→Prop) (N1:AV→Heap→Prop) (v2:AV) (v3:AV) (v4:AV) (v5:AV) (v16:AV) (v108:AV) (v109:AV) (v110:AV) (v115:AV) (v116:AV) (v117:AV) (H:Heap):Prop:=LoopV (wpC Try.prog tab D38 (cAt [1,1,1,1,1,0,1,0,0,1,1,0,0,1,1,0,1,0,0] (bO_ Try.f38))) [2,3,4,5,108,109,110,115,116] (PostF.block 10 (PostF.thenA (wpC Try.prog tab D38 (cAt [1,1,1,1,1,0,1,0,0,1,1,0,0,1,1,1] (bO_ Try.f38))) (PostF.block 9 (PostF.thenA (wpC Try.prog tab D38 (cAt [1,1,1,1,1,0,1,0,0,1,1,1] (bO_ Try.f38))) (loopF (PostF.block 8 (PostF.thenA (wpC Try.prog tab D38 (cAt [1,1,1,1,1,1] (bO_ Try.f38))) (retF tab [.cell 4 28] K))) (fun e h=>N1 (e 110) h)))))) [16,117] [Q_,Q_,v2,v3,v4,v5,Q_,Q_,Q_,Q_,Q_,Q_,Q_,Q_,Q_,Q_,v16,Q_,Q_,Q_,Q_,Q_,Q_,Q_,Q_,Q_,Q_,Q_,Q_,Q_,Q_,Q_,Q_,Q_,Q_,Q_,Q_,Q_,Q_,Q_,Q_,Q_,Q_,Q_,Q_,Q_,Q_,Q_,Q_,Q_,Q_,Q_,Q_,Q_,Q_,Q_,Q_,Q_,Q_,Q_,Q_,Q_,Q_,Q_,Q_,Q_,Q_,Q_,Q_,Q_,Q_,Q_,Q_,Q_,Q_,Q_,Q_,Q_,Q_,Q_,Q_,Q_,Q_,Q_,Q_,Q_,Q_,Q_,Q_,Q_,Q_,Q_,Q_,Q_,Q_,Q_,Q_,Q_,Q_,Q_,Q_,Q_,Q_,Q_,Q_,Q_,Q_,Q_,v108,v109,v110,Q_,Q_,Q_,Q_,v115,v116,v117,Q_,Q_,Q_,Q_,Q_,Q_,Q_,Q_,Q_,Q_,Q_,Q_,Q_,Q_,Q_,Q_,Q_,Q_,Q_,Q_,Q_,Q_,Q_,Q_,Q_,Q_,Q_,Q_,Q_,Q_,Q_,Q_,Q_,Q_,Q_,Q_,Q_,Q_,Q_,Q_,Q_,Q_,Q_,Q_,Q_,Q_,Q_,Q_,Q_,Q_,Q_,Q_,Q_,Q_,Q_,Q_,Q_,Q_,Q_,Q_,Q_,Q_,Q_,Q_] H
def L38_6 (K:AV→Heap→Prop) (N1:AV→Heap→Prop) (N2:AV→AV→Heap→Prop) (v2:AV) (v3:AV) (v4:AV) (v5:AV) (v16:AV) (v18:AV) (v108:AV) (v109:AV) (v110:AV) (v115:AV) (v116:AV) (v117:AV) (v122:AV) (v123:AV) (H:Heap):Prop:=LoopV (wpC Try.prog tab D38 (cAt [1,1,1,1,1,0,1,0,0,1,1,0,0,1,1,0,1,0,0,1,1,0,0,1,1,0,0] (bO_ Try.f38))) [2,3,4,5,18,108,109,110,115,116,117,122] (PostF.block 12 (PostF.block 11 (PostF.thenA (wpC Try.prog tab D38 (cAt [1,1,1,1,1,0,1,0,0,1,1,0,0,1,1,0,1,0,0,1,1,1] (bO_ Try.f38))) (loopF (PostF.block 10 (PostF.thenA (wpC Try.prog tab D38 (cAt [1,1,1,1,1,0,1,0,0,1,1,0,0,1,1,1] (bO_ Try.f38))) (PostF.block 9 (PostF.thenA (wpC Try.prog tab D38 (cAt [1,1,1,1,1,0,1,0,0,1,1,1] (bO_ Try.f38))) (loopF (PostF.block 8 (PostF.thenA (wpC Try.prog tab D38 (cAt [1,1,1,1,1,1] (bO_ Try.f38))) (retF tab [.cell 4 28] K))) (fun e h=>N1 (e 110) h)))))) (fun e h=>N2 (e 16) (e 117) h))))) [16,123] [Q_,Q_,v2,v3,v4,v5,Q_,Q_,Q_,Q_,Q_,Q_,Q_,Q_,Q_,Q_,v16,Q_,v18,Q_,Q_,Q_,Q_,Q_,Q_,Q_,Q_,Q_,Q_,Q_,Q_,Q_,Q_,Q_,Q_,Q_,Q_,Q_,Q_,Q_,Q_,Q_,Q_,Q_,Q_,Q_,Q_,Q_,Q_,Q_,Q_,Q_,Q_,Q_,Q_,Q_,Q_,Q_,Q_,Q_,Q_,Q_,Q_,Q_,Q_,Q_,Q_,Q_,Q_,Q_,Q_,Q_,Q_,Q_,Q_,Q_,Q_,Q_,Q_,Q_,Q_,Q_,Q_,Q_,Q_,Q_,Q_,Q_,Q_,Q_,Q_,Q_,Q_,Q_,Q_,Q_,Q_,Q_,Q_,Q_,Q_,Q_,Q_,Q_,Q_,Q_,Q_,Q_,v108,v109,v110,Q_,Q_,Q_,Q_,v115,v116,v117,Q_,Q_,Q_,Q_,v122,v123,Q_,Q_,Q_,Q_,Q_,Q_,Q_,Q_,Q_,Q_,Q_,Q_,Q_,Q_,Q_,Q_,Q_,Q_,Q_,Q_,Q_,Q_,Q_,Q_,Q_,Q_,Q_,Q_,Q_,Q_,Q_,Q_,Q_,Q_,Q_,Q_,Q_,Q_,Q_,Q_,Q_,Q_,Q_,Q_,Q_,Q_,Q_,Q_,Q_,Q_,Q_,Q_,Q_,Q_,Q_,Q_,Q_,Q_] H
def B38_6 (K:AV→Heap→Prop) (N1:AV→Heap→Prop) (N2:AV→AV→Heap→Prop) (N3:AV→AV→Heap→Prop) (v2:AV) (v3:AV) (v4:AV) (v5:AV) (v16:AV) (v18:AV) (v108:AV) (v109:AV) (v110:AV) (v115:AV) (v116:AV) (v117:AV) (v122:AV) (v123:AV) (H:Heap):Prop:=
 binV tab .lss 3 v123 v122 fun v124=>
 cV_ v124 (fA_ tab 28 v3 0 fun v128=>
 lV_ tab 3 v128 H fun v129=>
 binV tab .mul 3 v18 v129 fun v130=>
 binV tab .add 3 v130 v123 fun v132=>
 bS_ tab 24 1 [(0,v132)] H (wkK fun v133 H18=>
 aP_ tab 24 24 v16 v133 H18 (wkK fun v134 H19=>
 binV tab .add 3 v123 (AV.p (.int .i64 1)) fun v135=>
 N3 v134 v135 H19)))
 (binV tab .add 3 v117 (AV.p (.int .i64 1)) fun v136=>
 N2 v16 v136 H)
def B38_5 (K:AV→Heap→Prop) (N1:AV→Heap→Prop) (N2:AV→AV→Heap→Prop) (v2:AV) (v3:AV) (v4:AV) (v5:AV) (v16:AV) (v108:AV) (v109:AV) (v110:AV) (v115:AV) (v116:AV) (v117:AV) (H:Heap):Prop:=
 binV tab .lss 3 v117 v116 fun v118=>
 cV_ v118 (iA_ tab 24 v115 v117 fun v119=>
 lV_ tab 3 v119 H fun v120=>
 fA_ tab 28 v3 0 fun v121=>
 lV_ tab 3 v121 H fun v122=>
 L38_6 K N1 N2 v2 v3 v4 v5 v16 v120 v108 v109 v110 v115 v116 v117 v122 (AV.p (.int .i64 0)) H)
 (fA_ tab 28 v5 3 fun v137=>
 lV_ tab 26 v137 H fun v138=>
 bS_ tab 26 1 [(0,v16)] H (wkK fun v140 H20=>
 aP_ tab 26 26 v138 v140 H20 (wkK fun v141 H21=>
 fA_ tab 28 v5 3 fun v142=>
 sV_ tab 26 v142 v141 H21 fun H22=>
 binV tab .add 3 v110 (AV.p (.int .i64 1)) fun v143=>
 N1 v143 H22)))
def L38_7 (K:AV→Heap→Prop) (v2:AV) (v3:AV) (v4:AV) (v5:AV) (v145:AV) (v146:AV) (v147:AV) (H:Heap):Prop:=LoopV (wpC Try.prog tab D38 (cAt [1,1,1,1,1,1,0,1,0,0] (bO_ Try.f38))) [2,3,4,5,145,146] (PostF.block 14 (PostF.thenA (wpC Try.prog tab D38 (cAt [1,1,1,1,1,1,1] (bO_ Try.f38))) (retF tab [.cell 4 28] K))) [147] [Q_,Q_,v2,v3,v4,v5,Q_,Q_,Q_,Q_,Q_,Q_,Q_,Q_,Q_,Q_,Q_,Q_,Q_,Q_,Q_,Q_,Q_,Q_,Q_,Q_,Q_,Q_,Q_,Q_,Q_,Q_,Q_,Q_,Q_,Q_,Q_,Q_,Q_,Q_,Q_,Q_,Q_,Q_,Q_,Q_,Q_,Q_,Q_,Q_,Q_,Q_,Q_,Q_,Q_,Q_,Q_,Q_,Q_,Q_,Q_,Q_,Q_,Q_,Q_,Q_,Q_,Q_,Q_,Q_,Q_,Q_,Q_,Q_,Q_,Q_,Q_,Q_,Q_,Q_,Q_,Q_,Q_,Q_,Q_,Q_,Q_,Q_,Q_,Q_,Q_,Q_,Q_,Q_,Q_,Q_,Q_,Q_,Q_,Q_,Q_,Q_,Q_,Q_,Q_,Q_,Q_,Q_,Q_,Q_,Q_,Q_,Q_,Q_,Q_,Q_,Q_,Q_,Q_,Q_,Q_,Q_,Q_,Q_,Q_,Q_,Q_,Q_,Q_,Q_,Q_,Q_,Q_,Q_,Q_,Q_,Q_,Q_,Q_,Q_,Q_,Q_,Q_,Q_,Q_,v145,v146,v147,Q_,Q_,Q_,Q_,Q_,Q_,Q_,Q_,Q_,Q_,Q_,Q_,Q_,Q_,Q_,Q_,Q_,Q_,Q_,Q_,Q_,Q_,Q_,Q_,Q_,Q_,Q_,Q_,Q_,Q_,Q_,Q_,Q_,Q_] H
def L38_8 (K:AV→Heap→Prop) (N1:AV→Heap→Prop) (v2:AV) (v3:AV) (v4:AV) (v5:AV) (v21:AV) (v22:AV) (v145:AV) (v146:AV) (v147:AV) (v153:AV) (v154:AV) (H:Heap):Prop:=LoopV (wpC Try.prog tab D38 (cAt [1,1,1,1,1,1,0,1,0,0,1,1,0,0,1,1,0,1,0,0] (bO_ Try.f38))) [2,3,4,5,21,145,146,147,153] (PostF.block 16 (PostF.thenA (wpC Try.prog tab D38 (cAt [1,1,1,1,1,1,0,1,0,0,1,1,0,0,1,1,1] (bO_ Try.f38))) (PostF.block 15 (PostF.thenA (wpC Try.prog tab D38 (cAt [1,1,1,1,1,1,0,1,0,0,1,1,1] (bO_ Try.f38))) (loopF (PostF.block 14 (PostF.thenA (wpC Try.prog tab D38 (cAt [1,1,1,1,1,1,1] (bO_ Try.f38))) (retF tab [.cell 4 28] K))) (fun e h=>N1 (e 147) h)))))) [22,154] [Q_,Q_,v2,v3,v4,v5,Q_,Q_,Q_,Q_,Q_,Q_,Q_,Q_,Q_,Q_,Q_,Q_,Q_,Q_,Q_,v21,v22,Q_,Q_,Q_,Q_,Q_,Q_,Q_,Q_,Q_,Q_,Q_,Q_,Q_,Q_,Q_,Q_,Q_,Q_,Q_,Q_,Q_,Q_,Q_,Q_,Q_,Q_,Q_,Q_,Q_,Q_,Q_,Q_,Q_,Q_,Q_,Q_,Q_,Q_,Q_,Q_,Q_,Q_,Q_,Q_,Q_,Q_,Q_,Q_,Q_,Q_,Q_,Q_,Q_,Q_,Q_,Q_,Q_,Q_,Q_,Q_,Q_,Q_,Q_,Q_,Q_,Q_,Q_,Q_,Q_,Q_,Q_,Q_,Q_,Q_,Q_,Q_,Q_,Q_,Q_,Q_,Q_,Q_,Q_,Q_,Q_,Q_,Q_,Q_,Q_,Q_,Q_,Q_,Q_,Q_,Q_,Q_,Q_,Q_,Q_,Q_,Q_,Q_,Q_,Q_,Q_,Q_,Q_,Q_,Q_,Q_,Q_,Q_,Q_,Q_,Q_,Q_,Q_,Q_,Q_,Q_,Q_,Q_,v145,v146,v147,Q_,Q_,Q_,Q_,Q_,v153,v154,Q_,Q_,Q_,Q_,Q_,Q_,Q_,Q_,Q_,Q_,Q_,Q_,Q_,Q_,Q_,Q_,Q_,Q_,Q_,Q_,Q_,Q_,Q_,Q_,Q_,Q_,Q_] H
def L38_9 (K:AV→Heap→Prop) (N1:AV→Heap→Prop) (N2:AV→AV→Heap→Prop) (v2:AV) (v3:AV) (v4:AV) (v5:AV) (v21:AV) (v22:AV) (v23:AV) (v145:AV) (v146:AV) (v147:AV) (v153:AV) (v154:AV) (v157:AV) (v158:AV) (v159:AV) (H:Heap):Prop:=LoopV (wpC Try.prog tab D38 (cAt [1,1,1,1,1,1,0,1,0,0,1,1,0,0,1,1,0,1,0,0,1,1,0,0,1,1,0,0] (bO_ Try.f38))) [2,3,4,5,21,23,145,146,147,153,154,157,158] (PostF.block 18 (PostF.block 17 (PostF.thenA (wpC Try.prog tab D38 (cAt [1,1,1,1,1,1,0,1,0,0,1,1,0,0,1,1,0,1,0,0,1,1,1] (bO_ Try.f38))) (loopF (PostF.block 16 (PostF.thenA (wpC Try.prog tab D38 (cAt [1,1,1,1,1,1,0,1,0,0,1,1,0,0,1,1,1] (bO_ Try.f38))) (PostF.block 15 (PostF.thenA (wpC Try.prog tab D38 (cAt [1,1,1,1,1,1,0,1,0,0,1,1,1] (bO_ Try.f38))) (loopF (PostF.block 14 (PostF.thenA (wpC Try.prog tab D38 (cAt [1,1,1,1,1,1,1] (bO_ Try.f38))) (retF tab [.cell 4 28] K))) (fun e h=>N1 (e 147) h)))))) (fun e h=>N2 (e 22) (e 154) h))))) [22,159] [Q_,Q_,v2,v3,v4,v5,Q_,Q_,Q_,Q_,Q_,Q_,Q_,Q_,Q_,Q_,Q_,Q_,Q_,Q_,Q_,v21,v22,v23,Q_,Q_,Q_,Q_,Q_,Q_,Q_,Q_,Q_,Q_,Q_,Q_,Q_,Q_,Q_,Q_,Q_,Q_,Q_,Q_,Q_,Q_,Q_,Q_,Q_,Q_,Q_,Q_,Q_,Q_,Q_,Q_,Q_,Q_,Q_,Q_,Q_,Q_,Q_,Q_,Q_,Q_,Q_,Q_,Q_,Q_,Q_,Q_,Q_,Q_,Q_,Q_,Q_,Q_,Q_,Q_,Q_,Q_,Q_,Q_,Q_,Q_,Q_,Q_,Q_,Q_,Q_,Q_,Q_,Q_,Q_,Q_,Q_,Q_,Q_,Q_,Q_,Q_,Q_,Q_,Q_,Q_,Q_,Q_,Q_,Q_,Q_,Q_,Q_,Q_,Q_,Q_,Q_,Q_,Q_,Q_,Q_,Q_,Q_,Q_,Q_,Q_,Q_,Q_,Q_,Q_,Q_,Q_,Q_,Q_,Q_,Q_,Q_,Q_,Q_,Q_,Q_,Q_,Q_,Q_,Q_,v145,v146,v147,Q_,Q_,Q_,Q_,Q_,v153,v154,Q_,Q_,v157,v158,v159,Q_,Q_,Q_,Q_,Q_,Q_,Q_,Q_,Q_,Q_,Q_,Q_,Q_,Q_,Q_,Q_,Q_,Q_,Q_,Q_,Q_,Q_] H
def B38_9 (K:AV→Heap→Prop) (N1:AV→Heap→Prop) (N2:AV→AV→Heap→Prop) (N3:AV→AV→Heap→Prop) (v2:AV) (v3:AV) (v4:AV) (v5:AV) (v21:AV) (v22:AV) (v23:AV) (v145:AV) (v146:AV) (v147:AV) (v153:AV) (v154:AV) (v157:AV) (v158:AV) (v159:AV) (H:Heap):Prop:=
 binV tab .lss 3 v159 v158 fun v160=>
 cV_ v160 (iA_ tab 24 v157 v159 fun v161=>
 lV_ tab 3 v161 H fun v162=>
 fA_ tab 28 v3 0 fun v165=>
 lV_ tab 3 v165 H fun v166=>
 binV tab .mul 3 v23 v166 fun v167=>
 binV tab .add 3 v167 v162 fun v169=>
 bS_ tab 24 1 [(0,v169)] H (wkK fun v170 H24=>
 aP_ tab 24 24 v22 v170 H24 (wkK fun v171 H25=>
 binV tab .add 3 v159 (AV.p (.int .i64 1)) fun v172=>
 N3 v171 v172 H25)))
 (binV tab .add 3 v154 (AV.p (.int .i64 1)) fun v173=>
 N2 v22 v173 H)
def B38_8 (K:AV→Heap→Prop) (N1:AV→Heap→Prop) (N2:AV→AV→Heap→Prop) (v2:AV) (v3:AV) (v4:AV) (v5:AV) (v21:AV) (v22:AV) (v145:AV) (v146:AV) (v147:AV) (v153:AV) (v154:AV) (H:Heap):Prop:=
 binV tab .lss 3 v154 v153 fun v155=>
 cV_ v155 (lenV tab 24 v21 fun v158=>
 L38_9 K N1 N2 v2 v3 v4 v5 v21 v22 v154 v145 v146 v147 v153 v154 v21 v158 (AV.p (.int .i64 0)) H)
 (fA_ tab 28 v5 3 fun v174=>
 lV_ tab 26 v174 H fun v175=>
 bS_ tab 26 1 [(0,v22)] H (wkK fun v177 H26=>
 aP_ tab 26 26 v175 v177 H26 (wkK fun v178 H27=>
 fA_ tab 28 v5 3 fun v179=>
 sV_ tab 26 v179 v178 H27 fun H28=>
 binV tab .add 3 v147 (AV.p (.int .i64 1)) fun v180=>
 N1 v180 H28)))
def B38_7 (K:AV→Heap→Prop) (N1:AV→Heap→Prop) (v2:AV) (v3:AV) (v4:AV) (v5:AV) (v145:AV) (v146:AV) (v147:AV) (H:Heap):Prop:=
 binV tab .lss 3 v147 v146 fun v148=>
 cV_ v148 (iA_ tab 26 v145 v147 fun v149=>
 lV_ tab 24 v149 H fun v150=>
 bS_ tab 24 0 [] H (wkK fun v151 H23=>
 fA_ tab 28 v2 0 fun v152=>
 lV_ tab 3 v152 H23 fun v153=>
 L38_8 K N1 v2 v3 v4 v5 v150 v151 v145 v146 v147 v153 (AV.p (.int .i64 0)) H23))
 (lV_ tab 28 v5 H fun v181=>
 sV_ tab 28 v4 v181 H fun H29=>
 lV_ tab 28 v4 H29 fun r0=>
 K r0 H29)
def B38_4 (K:AV→Heap→Prop) (N1:AV→Heap→Prop) (v2:AV) (v3:AV) (v4:AV) (v5:AV) (v108:AV) (v109:AV) (v110:AV) (H:Heap):Prop:=
 binV tab .lss 3 v110 v109 fun v111=>
 cV_ v111 (iA_ tab 26 v108 v110 fun v112=>
 lV_ tab 24 v112 H fun v113=>
 bS_ tab 24 0 [] H (wkK fun v114 H17=>
 lenV tab 24 v113 fun v116=>
 L38_5 K N1 v2 v3 v4 v5 v114 v108 v109 v110 v113 v116 (AV.p (.int .i64 0)) H17))
 (fA_ tab 28 v3 3 fun v144=>
 lV_ tab 26 v144 H fun v145=>
 lenV tab 26 v145 fun v146=>
 L38_7 K v2 v3 v4 v5 v145 v146 (AV.p (.int .i64 0)) H)
def B38_2 (K:AV→Heap→Prop) (N1:AV→Heap→Prop) (v2:AV) (v3:AV) (v4:AV) (v5:AV) (v60:AV) (v61:AV) (v62:AV) (H:Heap):Prop:=
 binV tab .lss 3 v62 v61 fun v63=>
 cV_ v63 (iA_ tab 25 v60 v62 fun v64=>
 lV_ tab 46 v64 H fun v65=>
 allocV tab 46 H fun v11 H9=>
 sV_ tab 46 v11 v65 H9 fun H10=>
 fA_ tab 28 v3 2 fun v66=>
 lV_ tab 25 v66 H10 fun v67=>
 lenV tab 25 v67 fun v68=>
 L38_3 K N1 v2 v3 v4 v5 v11 v60 v61 v62 v67 v68 (AV.p (.int .i64 0)) H10)
 (fA_ tab 28 v5 2 fun v104=>
 lV_ tab 25 v104 H fun v105=>
 CallT Try.prog 62 [v105,(.fn 44 [])] H fun v106 H16=>
 fA_ tab 28 v2 3 fun v107=>
 lV_ tab 26 v107 H16 fun v108=>
 lenV tab 26 v108 fun v109=>
 L38_4 K v2 v3 v4 v5 v108 v109 (AV.p (.int .i64 0)) H16)
def B38_0 (K:AV→Heap→Prop) (N1:AV→Heap→Prop) (v2:AV) (v3:AV) (v4:AV) (v5:AV) (v33:AV) (v34:AV) (v35:AV) (H:Heap):Prop:=
 binV tab .lss 3 v35 v34 fun v36=>
 cV_ v36 (iA_ tab 24 v33 v35 fun v37=>
 lV_ tab 3 v37 H fun v38=>
 fA_ tab 28 v3 1 fun v39=>
 lV_ tab 24 v39 H fun v40=>
 lenV tab 24 v40 fun v41=>
 L38_1 K N1 v2 v3 v4 v5 v38 v33 v34 v35 v40 v41 (AV.p (.int .i64 0)) H)
 (fA_ tab 28 v2 2 fun v59=>
 lV_ tab 25 v59 H fun v60=>
 lenV tab 25 v60 fun v61=>
 L38_2 K v2 v3 v4 v5 v60 v61 (AV.p (.int .i64 0)) H)
def W38 (v0:AV) (v1:AV) (H:Heap) (K:AV→Heap→Prop):Prop:=
 boxV v0 H fun v2 H1=>
 boxV v1 H1 fun v3 H2=>
 allocV tab 28 H2 fun v4 H3=>
 fA_ tab 28 v2 0 fun v26=>
 lV_ tab 3 v26 H3 fun v27=>
 fA_ tab 28 v3 0 fun v28=>
 lV_ tab 3 v28 H3 fun v29=>
 binV tab .mul 3 v27 v29 fun v30=>
 buildV tab 28 [(0,v30)] fun v31=>
 allocV tab 28 H3 fun v5 H4=>
 sV_ tab 28 v5 v31 H4 fun H5=>
 fA_ tab 28 v2 1 fun v32=>
 lV_ tab 24 v32 H5 fun v33=>
 lenV tab 24 v33 fun v34=>
 L38_0 K v2 v3 v4 v5 v33 v34 (AV.p (.int .i64 0)) H5
theorem W38_wp (v0:AV) (v1:AV) (H:Heap) (K:AV→Heap→Prop):wpC Try.prog tab D38 (bO_ Try.f38) (retF tab [.cell 4 28] K) (nthA [v0,v1]) H=W38 v0 v1 H K:=by kernel_rfl
theorem W38_ok {v0 v1:AV} {H:Heap} {K:AV→Heap→Prop} (h:W38 v0 v1 H K):CallT Try.prog 38 [v0,v1] H K:=
 CallT.of_wp (D:=D38) tO_ mixed Try.func38 (c:=bO_ Try.f38) (by kernel_rfl) rfl (by kernel_rfl) (rs:=#[.cell 4 28]) rfl (by decide +kernel) (by kernel_rfl) (W38_wp v0 v1 H K) h
theorem W38_hb:HasBody Try.prog 38:=⟨_,bO_ Try.f38,Try.func38,by kernel_rfl,rfl⟩
theorem L38_1_rule {K:AV→Heap→Prop} {N1:AV→Heap→Prop} {v2 v3 v4 v5 v7 v33 v34 v35 v40 v41 v42:AV} {H:Heap} {σ:Type} (s0:σ) (f42:σ→AV) (TH:σ→Heap) (pre:σ→Prop) (μ:σ→Nat)
  (h0:pre s0∧AV.wk v42 (f42 s0)∧Heap.le (TH s0) H)
  (round:∀s,pre s→B38_1 K N1 (fun w42 H'=>∃s',pre s'∧μ s' < μ s∧AV.wk w42 (f42 s')∧Heap.le (TH s') H') v2 v3 v4 v5 v7 v33 v34 v35 v40 v41 (f42 s) (TH s)) :
  L38_1 K N1 v2 v3 v4 v5 v7 v33 v34 v35 v40 v41 v42 H:=by
 unfold L38_1
 exact LoopV.mk s0 (fun s=>[f42 s]) TH pre μ (fun _=>rfl) (Eq.mp (by kernel_rfl) h0) (fun s hs=>Eq.mp (by kernel_rfl) (round s hs))
theorem L38_3_rule {K:AV→Heap→Prop} {N1:AV→Heap→Prop} {v2 v3 v4 v5 v11 v60 v61 v62 v67 v68 v69:AV} {H:Heap} {σ:Type} (s0:σ) (f69:σ→AV) (TH:σ→Heap) (pre:σ→Prop) (μ:σ→Nat)
  (h0:pre s0∧AV.wk v69 (f69 s0)∧Heap.le (TH s0) H)
  (round:∀s,pre s→B38_3 K N1 (fun w69 H'=>∃s',pre s'∧μ s' < μ s∧AV.wk w69 (f69 s')∧Heap.le (TH s') H') v2 v3 v4 v5 v11 v60 v61 v62 v67 v68 (f69 s) (TH s)) :
  L38_3 K N1 v2 v3 v4 v5 v11 v60 v61 v62 v67 v68 v69 H:=by
 unfold L38_3
 exact LoopV.mk s0 (fun s=>[f69 s]) TH pre μ (fun _=>rfl) (Eq.mp (by kernel_rfl) h0) (fun s hs=>Eq.mp (by kernel_rfl) (round s hs))
theorem L38_6_rule {K:AV→Heap→Prop} {N1:AV→Heap→Prop} {N2:AV→AV→Heap→Prop} {v2 v3 v4 v5 v16 v18 v108 v109 v110 v115 v116 v117 v122 v123:AV} {H:Heap} {σ:Type} (s0:σ) (f16:σ→AV) (f123:σ→AV) (TH:σ→Heap) (pre:σ→Prop) (μ:σ→Nat)
  (h0:pre s0∧AV.wk v16 (f16 s0)∧AV.wk v123 (f123 s0)∧Heap.le (TH s0) H)
  (round:∀s,pre s→B38_6 K N1 N2 (fun w16 w123 H'=>∃s',pre s'∧μ s' < μ s∧AV.wk w16 (f16 s')∧AV.wk w123 (f123 s')∧Heap.le (TH s') H') v2 v3 v4 v5 (f16 s) v18 v108 v109 v110 v115 v116 v117 v122 (f123 s) (TH s)) :
  L38_6 K N1 N2 v2 v3 v4 v5 v16 v18 v108 v109 v110 v115 v116 v117 v122 v123 H:=by
 unfold L38_6
 exact LoopV.mk s0 (fun s=>[f16 s,f123 s]) TH pre μ (fun _=>rfl) (Eq.mp (by kernel_rfl) h0) (fun s hs=>Eq.mp (by kernel_rfl) (round s hs))
theorem L38_5_rule {K:AV→Heap→Prop} {N1:AV→Heap→Prop} {v2 v3 v4 v5 v16 v108 v109 v110 v115 v116 v117:AV} {H:Heap} {σ:Type} (s0:σ) (f16:σ→AV) (f117:σ→AV) (TH:σ→Heap) (pre:σ→Prop) (μ:σ→Nat)
  (h0:pre s0∧AV.wk v16 (f16 s0)∧AV.wk v117 (f117 s0)∧Heap.le (TH s0) H)
  (round:∀s,pre s→B38_5 K N1 (fun w16 w117 H'=>∃s',pre s'∧μ s' < μ s∧AV.wk w16 (f16 s')∧AV.wk w117 (f117 s')∧Heap.le (TH s') H') v2 v3 v4 v5 (f16 s) v108 v109 v110 v115 v116 (f117 s) (TH s)) :
  L38_5 K N1 v2 v3 v4 v5 v16 v108 v109 v110 v115 v116 v117 H:=by
 unfold L38_5
 exact LoopV.mk s0 (fun s=>[f16 s,f117 s]) TH pre μ (fun _=>rfl) (Eq.mp (by kernel_rfl) h0) (fun s hs=>Eq.mp (by kernel_rfl) (round s hs))
theorem L38_9_rule {K:AV→Heap→Prop} {N1:AV→Heap→Prop} {N2:AV→AV→Heap→Prop} {v2 v3 v4 v5 v21 v22 v23 v145 v146 v147 v153 v154 v157 v158 v159:AV} {H:Heap} {σ:Type} (s0:σ) (f22:σ→AV) (f159:σ→AV) (TH:σ→Heap) (pre:σ→Prop) (μ:σ→Nat)
  (h0:pre s0∧AV.wk v22 (f22 s0)∧AV.wk v159 (f159 s0)∧Heap.le (TH s0) H)
  (round:∀s,pre s→B38_9 K N1 N2 (fun w22 w159 H'=>∃s',pre s'∧μ s' < μ s∧AV.wk w22 (f22 s')∧AV.wk w159 (f159 s')∧Heap.le (TH s') H') v2 v3 v4 v5 v21 (f22 s) v23 v145 v146 v147 v153 v154 v157 v158 (f159 s) (TH s)) :
  L38_9 K N1 N2 v2 v3 v4 v5 v21 v22 v23 v145 v146 v147 v153 v154 v157 v158 v159 H:=by
 unfold L38_9
 exact LoopV.mk s0 (fun s=>[f22 s,f159 s]) TH pre μ (fun _=>rfl) (Eq.mp (by kernel_rfl) h0) (fun s hs=>Eq.mp (by kernel_rfl) (round s hs))
theorem L38_8_rule {K:AV→Heap→Prop} {N1:AV→Heap→Prop} {v2 v3 v4 v5 v21 v22 v145 v146 v147 v153 v154:AV} {H:Heap} {σ:Type} (s0:σ) (f22:σ→AV) (f154:σ→AV) (TH:σ→Heap) (pre:σ→Prop) (μ:σ→Nat)
  (h0:pre s0∧AV.wk v22 (f22 s0)∧AV.wk v154 (f154 s0)∧Heap.le (TH s0) H)
  (round:∀s,pre s→B38_8 K N1 (fun w22 w154 H'=>∃s',pre s'∧μ s' < μ s∧AV.wk w22 (f22 s')∧AV.wk w154 (f154 s')∧Heap.le (TH s') H') v2 v3 v4 v5 v21 (f22 s) v145 v146 v147 v153 (f154 s) (TH s)) :
  L38_8 K N1 v2 v3 v4 v5 v21 v22 v145 v146 v147 v153 v154 H:=by
 unfold L38_8
 exact LoopV.mk s0 (fun s=>[f22 s,f154 s]) TH pre μ (fun _=>rfl) (Eq.mp (by kernel_rfl) h0) (fun s hs=>Eq.mp (by kernel_rfl) (round s hs))
theorem L38_7_rule {K:AV→Heap→Prop} {v2 v3 v4 v5 v145 v146 v147:AV} {H:Heap} {σ:Type} (s0:σ) (f147:σ→AV) (TH:σ→Heap) (pre:σ→Prop) (μ:σ→Nat)
  (h0:pre s0∧AV.wk v147 (f147 s0)∧Heap.le (TH s0) H)
  (round:∀s,pre s→B38_7 K (fun w147 H'=>∃s',pre s'∧μ s' < μ s∧AV.wk w147 (f147 s')∧Heap.le (TH s') H') v2 v3 v4 v5 v145 v146 (f147 s) (TH s)) :
  L38_7 K v2 v3 v4 v5 v145 v146 v147 H:=by
 unfold L38_7
 exact LoopV.mk s0 (fun s=>[f147 s]) TH pre μ (fun _=>rfl) (Eq.mp (by kernel_rfl) h0) (fun s hs=>Eq.mp (by kernel_rfl) (round s hs))
theorem L38_4_rule {K:AV→Heap→Prop} {v2 v3 v4 v5 v108 v109 v110:AV} {H:Heap} {σ:Type} (s0:σ) (f110:σ→AV) (TH:σ→Heap) (pre:σ→Prop) (μ:σ→Nat)
  (h0:pre s0∧AV.wk v110 (f110 s0)∧Heap.le (TH s0) H)
  (round:∀s,pre s→B38_4 K (fun w110 H'=>∃s',pre s'∧μ s' < μ s∧AV.wk w110 (f110 s')∧Heap.le (TH s') H') v2 v3 v4 v5 v108 v109 (f110 s) (TH s)) :
  L38_4 K v2 v3 v4 v5 v108 v109 v110 H:=by
 unfold L38_4
 exact LoopV.mk s0 (fun s=>[f110 s]) TH pre μ (fun _=>rfl) (Eq.mp (by kernel_rfl) h0) (fun s hs=>Eq.mp (by kernel_rfl) (round s hs))
theorem L38_2_rule {K:AV→Heap→Prop} {v2 v3 v4 v5 v60 v61 v62:AV} {H:Heap} {σ:Type} (s0:σ) (f62:σ→AV) (TH:σ→Heap) (pre:σ→Prop) (μ:σ→Nat)
  (h0:pre s0∧AV.wk v62 (f62 s0)∧Heap.le (TH s0) H)
  (round:∀s,pre s→B38_2 K (fun w62 H'=>∃s',pre s'∧μ s' < μ s∧AV.wk w62 (f62 s')∧Heap.le (TH s') H') v2 v3 v4 v5 v60 v61 (f62 s) (TH s)) :
  L38_2 K v2 v3 v4 v5 v60 v61 v62 H:=by
 unfold L38_2
 exact LoopV.mk s0 (fun s=>[f62 s]) TH pre μ (fun _=>rfl) (Eq.mp (by kernel_rfl) h0) (fun s hs=>Eq.mp (by kernel_rfl) (round s hs))
theorem L38_0_rule {K:AV→Heap→Prop} {v2 v3 v4 v5 v33 v34 v35:AV} {H:Heap} {σ:Type} (s0:σ) (f35:σ→AV) (TH:σ→Heap) (pre:σ→Prop) (μ:σ→Nat)
  (h0:pre s0∧AV.wk v35 (f35 s0)∧Heap.le (TH s0) H)
  (round:∀s,pre s→B38_0 K (fun w35 H'=>∃s',pre s'∧μ s' < μ s∧AV.wk w35 (f35 s')∧Heap.le (TH s') H') v2 v3 v4 v5 v33 v34 (f35 s) (TH s)) :
  L38_0 K v2 v3 v4 v5 v33 v34 v35 H:=by
 unfold L38_0
 exact LoopV.mk s0 (fun s=>[f35 s]) TH pre μ (fun _=>rfl) (Eq.mp (by kernel_rfl) h0) (fun s hs=>Eq.mp (by kernel_rfl) (round s hs))
def D39:Info:=⟨35,fun i=>([],[]),fun i=>if i=3 then ([1,2,12,13],[7,14]) else if i=6 then ([1,2,9,12,13,14,18,19],[7,20]) else ([],[])⟩
def L39_0 (K:AV→Heap→Prop) (v1:AV) (v2:AV) (v7:AV) (v12:AV) (v13:AV) (v14:AV) (H:Heap):Prop:=LoopV (wpC Try.prog tab D39 (cAt [1,1,0,1,0,0] (bO_ Try.f39))) [1,2,12,13] (PostF.block 0 (PostF.thenA (wpC Try.prog tab D39 (cAt [1,1,1] (bO_ Try.f39))) (retF tab [.tmp 6] K))) [7,14] [Q_,v1,v2,Q_,Q_,Q_,Q_,v7,Q_,Q_,Q_,Q_,v12,v13,v14,Q_,Q_,Q_,Q_,Q_,Q_,Q_,Q_,Q_,Q_,Q_,Q_,Q_,Q_,Q_,Q_,Q_,Q_,Q_,Q_] H
def L39_1 (K:AV→Heap→Prop) (N1:AV→AV→Heap→Prop) (v1:AV) (v2:AV) (v7:AV) (v9:AV) (v12:AV) (v13:AV) (v14:AV) (v18:AV) (v19:AV) (v20:AV) (H:Heap):Prop:=LoopV (wpC Try.prog tab D39 (cAt [1,1,0,1,0,0,1,1,0,0,1,1,0,0] (bO_ Try.f39))) [1,2,9,12,13,14,18,19] (PostF.block 2 (PostF.block 1 (PostF.thenA (wpC Try.prog tab D39 (cAt [1,1,0,1,0,0,1,1,1] (bO_ Try.f39))) (loopF (PostF.block 0 (PostF.thenA (wpC Try.prog tab D39 (cAt [1,1,1] (bO_ Try.f39))) (retF tab [.tmp 6] K))) (fun e h=>N1 (e 7) (e 14) h))))) [7,20] [Q_,v1,v2,Q_,Q_,Q_,Q_,v7,Q_,v9,Q_,Q_,v12,v13,v14,Q_,Q_,Q_,v18,v19,v20,Q_,Q_,Q_,Q_,Q_,Q_,Q_,Q_,Q_,Q_,Q_,Q_,Q_,Q_] H
def B39_1 (K:AV→Heap→Prop) (N1:AV→AV→Heap→Prop) (N2:AV→AV→Heap→Prop) (v1:AV) (v2:AV) (v7:AV) (v9:AV) (v12:AV) (v13:AV) (v14:AV) (v18:AV) (v19:AV) (v20:AV) (H:Heap):Prop:=
 binV tab .lss 3 v20 v19 fun v21=>
 cV_ v21 (iA_ tab 24 v18 v20 fun v22=>
 lV_ tab 3 v22 H fun v23=>
 binV tab .mul 3 v9 v2 fun v27=>
 binV tab .add 3 v27 v23 fun v29=>
 bS_ tab 24 1 [(0,v29)] H (wkK fun v30 H1=>
 aP_ tab 24 24 v7 v30 H1 (wkK fun v31 H2=>
 binV tab .add 3 v20 (AV.p (.int .i64 1)) fun v32=>
 N2 v31 v32 H2)))
 (binV tab .add 3 v14 (AV.p (.int .i64 1)) fun v33=>
 N1 v7 v33 H)
def B39_0 (K:AV→Heap→Prop) (N1:AV→AV→Heap→Prop) (v1:AV) (v2:AV) (v7:AV) (v12:AV) (v13:AV) (v14:AV) (H:Heap):Prop:=
 binV tab .lss 3 v14 v13 fun v15=>
 cV_ v15 (iA_ tab 24 v12 v14 fun v16=>
 lV_ tab 3 v16 H fun v17=>
 lenV tab 24 v1 fun v19=>
 L39_1 K N1 v1 v2 v7 v17 v12 v13 v14 v1 v19 (AV.p (.int .i64 0)) H)
 (K v7 H)
def W39 (v0:AV) (v1:AV) (v2:AV) (H:Heap) (K:AV→Heap→Prop):Prop:=
 lenV tab 24 v0 fun v13=>
 L39_0 K v1 v2 (AV.p .nil) v0 v13 (AV.p (.int .i64 0)) H
theorem W39_wp (v0:AV) (v1:AV) (v2:AV) (H:Heap) (K:AV→Heap→Prop):wpC Try.prog tab D39 (bO_ Try.f39) (retF tab [.tmp 6] K) (nthA [v0,v1,v2]) H=W39 v0 v1 v2 H K:=by kernel_rfl
theorem W39_ok {v0 v1 v2:AV} {H:Heap} {K:AV→Heap→Prop} (h:W39 v0 v1 v2 H K):CallT Try.prog 39 [v0,v1,v2] H K:=
 CallT.of_wp (D:=D39) tO_ mixed Try.func39 (c:=bO_ Try.f39) (by kernel_rfl) rfl (by kernel_rfl) (rs:=#[.tmp 6]) rfl (by decide +kernel) (by kernel_rfl) (W39_wp v0 v1 v2 H K) h
theorem W39_hb:HasBody Try.prog 39:=⟨_,bO_ Try.f39,Try.func39,by kernel_rfl,rfl⟩
theorem L39_1_rule {K:AV→Heap→Prop} {N1:AV→AV→Heap→Prop} {v1 v2 v7 v9 v12 v13 v14 v18 v19 v20:AV} {H:Heap} {σ:Type} (s0:σ) (f7:σ→AV) (f20:σ→AV) (TH:σ→Heap) (pre:σ→Prop) (μ:σ→Nat)
  (h0:pre s0∧AV.wk v7 (f7 s0)∧AV.wk v20 (f20 s0)∧Heap.le (TH s0) H)
  (round:∀s,pre s→B39_1 K N1 (fun w7 w20 H'=>∃s',pre s'∧μ s' < μ s∧AV.wk w7 (f7 s')∧AV.wk w20 (f20 s')∧Heap.le (TH s') H') v1 v2 (f7 s) v9 v12 v13 v14 v18 v19 (f20 s) (TH s)) :
  L39_1 K N1 v1 v2 v7 v9 v12 v13 v14 v18 v19 v20 H:=by
 unfold L39_1
 exact LoopV.mk s0 (fun s=>[f7 s,f20 s]) TH pre μ (fun _=>rfl) (Eq.mp (by kernel_rfl) h0) (fun s hs=>Eq.mp (by kernel_rfl) (round s hs))
theorem L39_0_rule {K:AV→Heap→Prop} {v1 v2 v7 v12 v13 v14:AV} {H:Heap} {σ:Type} (s0:σ) (f7:σ→AV) (f14:σ→AV) (TH:σ→Heap) (pre:σ→Prop) (μ:σ→Nat)
  (h0:pre s0∧AV.wk v7 (f7 s0)∧AV.wk v14 (f14 s0)∧Heap.le (TH s0) H)
  (round:∀s,pre s→B39_0 K (fun w7 w14 H'=>∃s',pre s'∧μ s' < μ s∧AV.wk w7 (f7 s')∧AV.wk w14 (f14 s')∧Heap.le (TH s') H') v1 v2 (f7 s) v12 v13 (f14 s) (TH s)) :
  L39_0 K v1 v2 v7 v12 v13 v14 H:=by
 unfold L39_0
 exact LoopV.mk s0 (fun s=>[f7 s,f14 s]) TH pre μ (fun _=>rfl) (Eq.mp (by kernel_rfl) h0) (fun s hs=>Eq.mp (by kernel_rfl) (round s hs))
def D40:Info:=⟨43,fun i=>([],[]),fun i=>if i=4 then ([2,7,8,19,20],[21]) else ([],[])⟩
def L40_0 (K:AV→Heap→Prop) (v2:AV) (v7:AV) (v8:AV) (v19:AV) (v20:AV) (v21:AV) (H:Heap):Prop:=LoopV (wpC Try.prog tab D40 (cAt [1,1,1,0,1,0,0] (bO_ Try.f40))) [2,7,8,19,20] (PostF.block 0 (PostF.thenA (wpC Try.prog tab D40 (cAt [1,1,1,1] (bO_ Try.f40))) (retF tab [.tmp 6] K))) [21] [Q_,Q_,v2,Q_,Q_,Q_,Q_,v7,v8,Q_,Q_,Q_,Q_,Q_,Q_,Q_,Q_,Q_,Q_,v19,v20,v21,Q_,Q_,Q_,Q_,Q_,Q_,Q_,Q_,Q_,Q_,Q_,Q_,Q_,Q_,Q_,Q_,Q_,Q_,Q_,Q_,Q_] H
def B40_0 (K:AV→Heap→Prop) (N1:AV→Heap→Prop) (v2:AV) (v7:AV) (v8:AV) (v19:AV) (v20:AV) (v21:AV) (H:Heap):Prop:=
 binV tab .lss 3 v21 v20 fun v22=>
 cV_ v22 (iA_ tab 25 v19 v21 fun v23=>
 lV_ tab 46 v23 H fun v24=>
 allocV tab 46 H fun v10 H4=>
 sV_ tab 46 v10 v24 H4 fun H5=>
 fA_ tab 46 v10 1 fun v25=>
 lV_ tab 3 v25 H5 fun v26=>
 binV tab .eql 3 v26 v2 fun v28=>
 grdV v28 true (fA_ tab 46 v10 0 fun v31=>
 lV_ tab 3 v31 H5 fun v32=>
 iA_ tab 81 v8 v32 fun v33=>
 lV_ tab 4 v33 H5 fun v34=>
 cV_ v34 (fA_ tab 46 v10 2 fun v37=>
 lV_ tab 3 v37 H5 fun v38=>
 iA_ tab 81 v7 v38 fun v39=>
 sV_ tab 4 v39 (AV.p (.bool true)) H5 fun H6=>
 binV tab .add 3 v21 (AV.p (.int .i64 1)) fun v40=>
 N1 v40 H6)
 (binV tab .add 3 v21 (AV.p (.int .i64 1)) fun v40=>
 N1 v40 H5))
 (binV tab .add 3 v21 (AV.p (.int .i64 1)) fun v40=>
 N1 v40 H5))
 (CallT Try.prog 64 [v7] H fun v42 H7=>
 K v42 H7)
def W40 (v0:AV) (v1:AV) (v2:AV) (H:Heap) (K:AV→Heap→Prop):Prop:=
 boxV v0 H fun v3 H1=>
 fA_ tab 28 v3 0 fun v11=>
 lV_ tab 3 v11 H1 fun v12=>
 mS_ tab 81 v12 v12 H1 fun v13 H2=>
 fA_ tab 28 v3 0 fun v14=>
 lV_ tab 3 v14 H2 fun v15=>
 CallT Try.prog 63 [v15,v1] H2 fun v17 H3=>
 fA_ tab 28 v3 2 fun v18=>
 lV_ tab 25 v18 H3 fun v19=>
 lenV tab 25 v19 fun v20=>
 L40_0 K v2 v13 v17 v19 v20 (AV.p (.int .i64 0)) H3
theorem W40_wp (v0:AV) (v1:AV) (v2:AV) (H:Heap) (K:AV→Heap→Prop):wpC Try.prog tab D40 (bO_ Try.f40) (retF tab [.tmp 6] K) (nthA [v0,v1,v2]) H=W40 v0 v1 v2 H K:=by kernel_rfl
theorem W40_ok {v0 v1 v2:AV} {H:Heap} {K:AV→Heap→Prop} (h:W40 v0 v1 v2 H K):CallT Try.prog 40 [v0,v1,v2] H K:=
 CallT.of_wp (D:=D40) tO_ mixed Try.func40 (c:=bO_ Try.f40) (by kernel_rfl) rfl (by kernel_rfl) (rs:=#[.tmp 6]) rfl (by decide +kernel) (by kernel_rfl) (W40_wp v0 v1 v2 H K) h
theorem L40_0_rule {K:AV→Heap→Prop} {v2 v7 v8 v19 v20 v21:AV} {H:Heap} {σ:Type} (s0:σ) (f21:σ→AV) (TH:σ→Heap) (pre:σ→Prop) (μ:σ→Nat)
  (h0:pre s0∧AV.wk v21 (f21 s0)∧Heap.le (TH s0) H)
  (round:∀s,pre s→B40_0 K (fun w21 H'=>∃s',pre s'∧μ s' < μ s∧AV.wk w21 (f21 s')∧Heap.le (TH s') H') v2 v7 v8 v19 v20 (f21 s) (TH s)) :
  L40_0 K v2 v7 v8 v19 v20 v21 H:=by
 unfold L40_0
 exact LoopV.mk s0 (fun s=>[f21 s]) TH pre μ (fun _=>rfl) (Eq.mp (by kernel_rfl) h0) (fun s hs=>Eq.mp (by kernel_rfl) (round s hs))
def D41:Info:=⟨15,fun i=>([],[]),fun i=>if i=3 then ([0],[3,4]) else ([],[])⟩
def L41_0 (K:AV→Heap→Prop) (v0:AV) (v3:AV) (v4:AV) (H:Heap):Prop:=LoopV (wpC Try.prog tab D41 (cAt [1,1,0,1,0,0] (bO_ Try.f41))) [0] (PostF.block 0 (PostF.thenA (wpC Try.prog tab D41 (cAt [1,1,1] (bO_ Try.f41))) (retF tab [.tmp 2] K))) [3,4] [v0,Q_,Q_,v3,v4,Q_,Q_,Q_,Q_,Q_,Q_,Q_,Q_,Q_,Q_] H
def B41_0 (K:AV→Heap→Prop) (N1:AV→AV→Heap→Prop) (v0:AV) (v3:AV) (v4:AV) (H:Heap):Prop:=
 binV tab .lss 3 v4 v0 fun v7=>
 cV_ v7 (bS_ tab 24 1 [(0,v4)] H (wkK fun v12 H1=>
 aP_ tab 24 24 v3 v12 H1 (wkK fun v13 H2=>
 binV tab .add 3 v4 (AV.p (.int .i64 1)) fun v9=>
 N1 v13 v9 H2)))
 (K v3 H)
def W41 (v0:AV) (H:Heap) (K:AV→Heap→Prop):Prop:=
 L41_0 K v0 (AV.p .nil) (AV.p (.int .i64 0)) H
theorem W41_wp (v0:AV) (H:Heap) (K:AV→Heap→Prop):wpC Try.prog tab D41 (bO_ Try.f41) (retF tab [.tmp 2] K) (nthA [v0]) H=W41 v0 H K:=by kernel_rfl
theorem W41_ok {v0:AV} {H:Heap} {K:AV→Heap→Prop} (h:W41 v0 H K):CallT Try.prog 41 [v0] H K:=
 CallT.of_wp (D:=D41) tO_ mixed Try.func41 (c:=bO_ Try.f41) (by kernel_rfl) rfl (by kernel_rfl) (rs:=#[.tmp 2]) rfl (by decide +kernel) (by kernel_rfl) (W41_wp v0 H K) h
theorem W41_hb:HasBody Try.prog 41:=⟨_,bO_ Try.f41,Try.func41,by kernel_rfl,rfl⟩
theorem L41_0_rule {K:AV→Heap→Prop} {v0 v3 v4:AV} {H:Heap} {σ:Type} (s0:σ) (f3:σ→AV) (f4:σ→AV) (TH:σ→Heap) (pre:σ→Prop) (μ:σ→Nat)
  (h0:pre s0∧AV.wk v3 (f3 s0)∧AV.wk v4 (f4 s0)∧Heap.le (TH s0) H)
  (round:∀s,pre s→B41_0 K (fun w3 w4 H'=>∃s',pre s'∧μ s' < μ s∧AV.wk w3 (f3 s')∧AV.wk w4 (f4 s')∧Heap.le (TH s') H') v0 (f3 s) (f4 s) (TH s)) :
  L41_0 K v0 v3 v4 H:=by
 unfold L41_0
 exact LoopV.mk s0 (fun s=>[f3 s,f4 s]) TH pre μ (fun _=>rfl) (Eq.mp (by kernel_rfl) h0) (fun s hs=>Eq.mp (by kernel_rfl) (round s hs))
end Go.Proofs.Ytohkciilfkhomaa
namespace Go.Proofs.Ytohkciilfkhomaa
open Go Go.Sep
attribute [local irreducible] wpC headF
def D42:Info:=⟨35,fun i=>([],[]),fun i=>if i=2 then ([0,1,7,8],[9]) else ([],[])⟩
def L42_0 (K:AV→Heap→Prop) (v0:AV) (v1:AV) (v7:AV) (v8:AV) (v9:AV) (H:Heap):Prop:=LoopV (wpC Try.prog tab D42 (cAt [1,0,1,0,0] (bO_ Try.f42))) [0,1,7,8] (PostF.block 0 (PostF.thenA (wpC Try.prog tab D42 (cAt [1,1] (bO_ Try.f42))) (retF tab [.tmp 4] K))) [9] [v0,v1,Q_,Q_,Q_,Q_,Q_,v7,v8,v9,Q_,Q_,Q_,Q_,Q_,Q_,Q_,Q_,Q_,Q_,Q_,Q_,Q_,Q_,Q_,Q_,Q_,Q_,Q_,Q_,Q_,Q_,Q_,Q_,Q_] H
def B42_0 (K:AV→Heap→Prop) (N1:AV→Heap→Prop) (v0:AV) (v1:AV) (v7:AV) (v8:AV) (v9:AV) (H:Heap):Prop:=
 binV tab .lss 3 v9 v8 fun v10=>
 cV_ v10 (iA_ tab 24 v7 v9 fun v12=>
 lV_ tab 3 v12 H fun v13=>
 binV tab .lss 3 v13 (AV.p (.int .i64 0)) fun v15=>
 grdV v15 false (binV tab .geq 3 v13 v1 fun v19=>
 grdV v19 false (binV tab .gtr 3 v9 (AV.p (.int .i64 0)) fun v23=>
 grdV v23 true (binV tab .sub 3 v9 (AV.p (.int .i64 1)) fun v27=>
 iA_ tab 24 v0 v27 fun v28=>
 lV_ tab 3 v28 H fun v29=>
 binV tab .geq 3 v29 v13 fun v31=>
 cV_ v31 (K (AV.p (.bool false)) H)
 (binV tab .add 3 v9 (AV.p (.int .i64 1)) fun v34=>
 N1 v34 H))
 (binV tab .add 3 v9 (AV.p (.int .i64 1)) fun v34=>
 N1 v34 H))
 (K (AV.p (.bool false)) H))
 (K (AV.p (.bool false)) H))
 (K (AV.p (.bool true)) H)
def W42 (v0:AV) (v1:AV) (H:Heap) (K:AV→Heap→Prop):Prop:=
 lenV tab 24 v0 fun v8=>
 L42_0 K v0 v1 v0 v8 (AV.p (.int .i64 0)) H
theorem W42_wp (v0:AV) (v1:AV) (H:Heap) (K:AV→Heap→Prop):wpC Try.prog tab D42 (bO_ Try.f42) (retF tab [.tmp 4] K) (nthA [v0,v1]) H=W42 v0 v1 H K:=by kernel_rfl
theorem W42_ok {v0 v1:AV} {H:Heap} {K:AV→Heap→Prop} (h:W42 v0 v1 H K):CallT Try.prog 42 [v0,v1] H K:=
 CallT.of_wp (D:=D42) tO_ mixed Try.func42 (c:=bO_ Try.f42) (by kernel_rfl) rfl (by kernel_rfl) (rs:=#[.tmp 4]) rfl (by decide +kernel) (by kernel_rfl) (W42_wp v0 v1 H K) h
theorem L42_0_rule {K:AV→Heap→Prop} {v0 v1 v7 v8 v9:AV} {H:Heap} {σ:Type} (s0:σ) (f9:σ→AV) (TH:σ→Heap) (pre:σ→Prop) (μ:σ→Nat)
  (h0:pre s0∧AV.wk v9 (f9 s0)∧Heap.le (TH s0) H)
  (round:∀s,pre s→B42_0 K (fun w9 H'=>∃s',pre s'∧μ s' < μ s∧AV.wk w9 (f9 s')∧Heap.le (TH s') H') v0 v1 v7 v8 (f9 s) (TH s)) :
  L42_0 K v0 v1 v7 v8 v9 H:=by
 unfold L42_0
 exact LoopV.mk s0 (fun s=>[f9 s]) TH pre μ (fun _=>rfl) (Eq.mp (by kernel_rfl) h0) (fun s hs=>Eq.mp (by kernel_rfl) (round s hs))
def D43:Info:=⟨14,fun i=>([],[]),fun i=>([],[])⟩
def W43 (v0:AV) (v1:AV) (H:Heap) (K:AV→Heap→Prop):Prop:=
 boxV v1 H fun v3 H1=>
 lenV tab 26 v0 fun v6=>
 binV tab .leq 3 v6 (AV.p (.int .i64 6)) fun v7=>
 grdV v7 true (CallT Try.prog 65 [v0,(.fn 66 [v3])] H1 fun v11 H2=>
 unV .not v11 fun v12=>
 K v12 H2)
 (K (AV.p (.bool false)) H1)
theorem W43_wp (v0:AV) (v1:AV) (H:Heap) (K:AV→Heap→Prop):wpC Try.prog tab D43 (bO_ Try.f43) (retF tab [.tmp 4] K) (nthA [v0,v1]) H=W43 v0 v1 H K:=by kernel_rfl
theorem W43_ok {v0 v1:AV} {H:Heap} {K:AV→Heap→Prop} (h:W43 v0 v1 H K):CallT Try.prog 43 [v0,v1] H K:=
 CallT.of_wp (D:=D43) tO_ mixed Try.func43 (c:=bO_ Try.f43) (by kernel_rfl) rfl (by kernel_rfl) (rs:=#[.tmp 4]) rfl (by decide +kernel) (by kernel_rfl) (W43_wp v0 v1 H K) h
def D44:Info:=⟨22,fun i=>if i=1 then ([[],[0],[],[2],[0,1,2,3],[],[5],[],[7],[0,1,2,3,4,5,6,7,8],[],[10],[],[12],[0,1,2,3,4,5,6,7,8,9,10,11,12,13],[0,1,2,3,4,5,6,7,8,9,10,11,12,13,14],[0,1,2,3,4,5,6,7,8,9,10,11,12,13,14,15],[0,1,2,3,4,5,6,7,8,9,10,11,12,13,14,15,16]],[(0,[]),(1,[]),(2,[]),(3,[]),(5,[]),(6,[]),(7,[]),(8,[]),(10,[]),(11,[]),(12,[]),(13,[]),(4,[6,8,11,13]),(9,[11,13]),(14,[]),(15,[]),(16,[]),(17,[])]) else ([],[]),fun i=>([],[])⟩
def W44 (v0:AV) (v1:AV) (H:Heap) (K:AV→Heap→Prop):Prop:=
 boxV v0 H fun v2 H1=>
 boxV v1 H1 fun v3 H2=>
 fA_ tab 46 v2 0 fun v5=>
 lV_ tab 3 v5 H2 fun v6=>
 fA_ tab 46 v3 0 fun v7=>
 lV_ tab 3 v7 H2 fun v8=>
 fA_ tab 46 v2 1 fun v10=>
 lV_ tab 3 v10 H2 fun v11=>
 fA_ tab 46 v3 1 fun v12=>
 lV_ tab 3 v12 H2 fun v13=>
 fA_ tab 46 v2 2 fun v15=>
 lV_ tab 3 v15 H2 fun v16=>
 fA_ tab 46 v3 2 fun v17=>
 lV_ tab 3 v17 H2 fun v18=>
 CallT Try.prog 68 [v6,v8] H2 fun v9 H3=>
 (lV_ tab 3 v10 H3 fun v9011=>
 v11=v9011)∧
 (lV_ tab 3 v12 H3 fun v9013=>
 v13=v9013)∧
 (lV_ tab 3 v15 H3 fun v9016=>
 v16=v9016)∧
 (lV_ tab 3 v17 H3 fun v9018=>
 v18=v9018)∧
 CallT Try.prog 68 [v11,v13] H3 fun v14 H4=>
 (lV_ tab 3 v15 H4 fun v9016=>
 v16=v9016)∧
 (lV_ tab 3 v17 H4 fun v9018=>
 v18=v9018)∧
 CallT Try.prog 68 [v16,v18] H4 fun v19 H5=>
 bS_ tab 24 3 [(0,v9),(1,v14),(2,v19)] H5 (wkK fun v20 H6=>
 CallT Try.prog 67 [v20] H6 fun v21 H7=>
 K v21 H7)
theorem W44_wp (v0:AV) (v1:AV) (H:Heap) (K:AV→Heap→Prop):wpC Try.prog tab D44 (bO_ Try.f44) (retF tab [.tmp 4] K) (nthA [v0,v1]) H=W44 v0 v1 H K:=by kernel_rfl
theorem W44_ok {v0 v1:AV} {H:Heap} {K:AV→Heap→Prop} (h:W44 v0 v1 H K):CallT Try.prog 44 [v0,v1] H K:=
 CallT.of_wp (D:=D44) tO_ mixed Try.func44 (c:=bO_ Try.f44) (by kernel_rfl) rfl (by kernel_rfl) (rs:=#[.tmp 4]) rfl (by decide +kernel) (by kernel_rfl) (W44_wp v0 v1 H K) h
def D45:Info:=⟨9,fun i=>([],[]),fun i=>([],[])⟩
def W45 (v0:AV) (v1:AV) (H:Heap) (K:AV→Heap→Prop):Prop:=
 binV tab .sub 3 v1 (AV.p (.int .i64 1)) fun v7=>
 CallT Try.prog 69 [v0,(AV.p (.int .i64 0)),v7] H fun v8 H1=>
 K v8 H1
theorem W45_wp (v0:AV) (v1:AV) (H:Heap) (K:AV→Heap→Prop):wpC Try.prog tab D45 (bO_ Try.f45) (retF tab [.tmp 4] K) (nthA [v0,v1]) H=W45 v0 v1 H K:=by kernel_rfl
theorem W45_ok {v0 v1:AV} {H:Heap} {K:AV→Heap→Prop} (h:W45 v0 v1 H K):CallT Try.prog 45 [v0,v1] H K:=
 CallT.of_wp (D:=D45) tO_ mixed Try.func45 (c:=bO_ Try.f45) (by kernel_rfl) rfl (by kernel_rfl) (rs:=#[.tmp 4]) rfl (by decide +kernel) (by kernel_rfl) (W45_wp v0 v1 H K) h
def D46:Info:=⟨21,fun i=>([],[]),fun i=>if i=4 then ([1,10,11],[12]) else ([],[])⟩
def L46_0 (K:AV→Heap→Prop) (v1:AV) (v10:AV) (v11:AV) (v12:AV) (H:Heap):Prop:=LoopV (wpC Try.prog tab D46 (cAt [1,1,0,1,0,0] (bO_ Try.f46))) [1,10,11] (PostF.block 0 (PostF.thenA (wpC Try.prog tab D46 (cAt [1,1,1] (bO_ Try.f46))) (retF tab [.tmp 4] K))) [12] [Q_,v1,Q_,Q_,Q_,Q_,Q_,Q_,Q_,Q_,v10,v11,v12,Q_,Q_,Q_,Q_,Q_,Q_,Q_,Q_] H
def B46_0 (K:AV→Heap→Prop) (N1:AV→Heap→Prop) (v1:AV) (v10:AV) (v11:AV) (v12:AV) (H:Heap):Prop:=
 binV tab .lss 3 v12 v11 fun v13=>
 cV_ v13 (iA_ tab 26 v10 v12 fun v14=>
 lV_ tab 24 v14 H fun v15=>
 CallT Try.prog 45 [v15,v1] H fun v18 H1=>
 unV .not v18 fun v19=>
 cV_ v19 (K (AV.p (.bool false)) H1)
 (binV tab .add 3 v12 (AV.p (.int .i64 1)) fun v20=>
 N1 v20 H1))
 (K (AV.p (.bool true)) H)
def W46 (v0:AV) (v1:AV) (H:Heap) (K:AV→Heap→Prop):Prop:=
 lenV tab 26 v0 fun v8=>
 binV tab .gtr 3 v8 (AV.p (.int .i64 6)) fun v9=>
 cV_ v9 (K (AV.p (.bool false)) H)
 (lenV tab 26 v0 fun v11=>
 L46_0 K v1 v0 v11 (AV.p (.int .i64 0)) H)
theorem W46_wp (v0:AV) (v1:AV) (H:Heap) (K:AV→Heap→Prop):wpC Try.prog tab D46 (bO_ Try.f46) (retF tab [.tmp 4] K) (nthA [v0,v1]) H=W46 v0 v1 H K:=by kernel_rfl
theorem W46_ok {v0 v1:AV} {H:Heap} {K:AV→Heap→Prop} (h:W46 v0 v1 H K):CallT Try.prog 46 [v0,v1] H K:=
 CallT.of_wp (D:=D46) tO_ mixed Try.func46 (c:=bO_ Try.f46) (by kernel_rfl) rfl (by kernel_rfl) (rs:=#[.tmp 4]) rfl (by decide +kernel) (by kernel_rfl) (W46_wp v0 v1 H K) h
theorem L46_0_rule {K:AV→Heap→Prop} {v1 v10 v11 v12:AV} {H:Heap} {σ:Type} (s0:σ) (f12:σ→AV) (TH:σ→Heap) (pre:σ→Prop) (μ:σ→Nat)
  (h0:pre s0∧AV.wk v12 (f12 s0)∧Heap.le (TH s0) H)
  (round:∀s,pre s→B46_0 K (fun w12 H'=>∃s',pre s'∧μ s' < μ s∧AV.wk w12 (f12 s')∧Heap.le (TH s') H') v1 v10 v11 (f12 s) (TH s)) :
  L46_0 K v1 v10 v11 v12 H:=by
 unfold L46_0
 exact LoopV.mk s0 (fun s=>[f12 s]) TH pre μ (fun _=>rfl) (Eq.mp (by kernel_rfl) h0) (fun s hs=>Eq.mp (by kernel_rfl) (round s hs))
def D47:Info:=⟨30,fun i=>([],[]),fun i=>([],[])⟩
def W47 (v0:AV) (v1:AV) (H:Heap) (K:AV→Heap→Prop):Prop:=
 boxV v0 H fun v2 H1=>
 boxV v1 H1 fun v3 H2=>
 fA_ tab 46 v2 0 fun v5=>
 lV_ tab 3 v5 H2 fun v6=>
 fA_ tab 46 v3 0 fun v7=>
 lV_ tab 3 v7 H2 fun v8=>
 binV tab .neq 3 v6 v8 fun v9=>
 cV_ v9 (fA_ tab 46 v2 0 fun v10=>
 lV_ tab 3 v10 H2 fun v11=>
 fA_ tab 46 v3 0 fun v12=>
 lV_ tab 3 v12 H2 fun v13=>
 binV tab .lss 3 v11 v13 fun v14=>
 K v14 H2)
 (fA_ tab 46 v2 1 fun v15=>
 lV_ tab 3 v15 H2 fun v16=>
 fA_ tab 46 v3 1 fun v17=>
 lV_ tab 3 v17 H2 fun v18=>
 binV tab .neq 3 v16 v18 fun v19=>
 cV_ v19 (fA_ tab 46 v2 1 fun v20=>
 lV_ tab 3 v20 H2 fun v21=>
 fA_ tab 46 v3 1 fun v22=>
 lV_ tab 3 v22 H2 fun v23=>
 binV tab .lss 3 v21 v23 fun v24=>
 K v24 H2)
 (fA_ tab 46 v2 2 fun v25=>
 lV_ tab 3 v25 H2 fun v26=>
 fA_ tab 46 v3 2 fun v27=>
 lV_ tab 3 v27 H2 fun v28=>
 binV tab .lss 3 v26 v28 fun v29=>
 K v29 H2))
theorem W47_wp (v0:AV) (v1:AV) (H:Heap) (K:AV→Heap→Prop):wpC Try.prog tab D47 (bO_ Try.f47) (retF tab [.tmp 4] K) (nthA [v0,v1]) H=W47 v0 v1 H K:=by kernel_rfl
theorem W47_ok {v0 v1:AV} {H:Heap} {K:AV→Heap→Prop} (h:W47 v0 v1 H K):CallT Try.prog 47 [v0,v1] H K:=
 CallT.of_wp (D:=D47) tO_ mixed Try.func47 (c:=bO_ Try.f47) (by kernel_rfl) rfl (by kernel_rfl) (rs:=#[.tmp 4]) rfl (by decide +kernel) (by kernel_rfl) (W47_wp v0 v1 H K) h
def D50:Info:=⟨6,fun i=>([],[]),fun i=>([],[])⟩
def W50 (v0:AV) (H:Heap) (K:AV→Heap→Prop):Prop:=
 bS_ tab 24 0 [] H (wkK fun v3 H1=>
 aP_ tab 24 24 v3 v0 H1 (wkK fun v5 H2=>
 K v5 H2))
theorem W50_wp (v0:AV) (H:Heap) (K:AV→Heap→Prop):wpC Try.prog tab D50 (bO_ Try.f50) (retF tab [.tmp 2] K) (nthA [v0]) H=W50 v0 H K:=by kernel_rfl
theorem W50_ok {v0:AV} {H:Heap} {K:AV→Heap→Prop} (h:W50 v0 H K):CallT Try.prog 50 [v0] H K:=
 CallT.of_wp (D:=D50) tO_ mixed Try.func50 (c:=bO_ Try.f50) (by kernel_rfl) rfl (by kernel_rfl) (rs:=#[.tmp 2]) rfl (by decide +kernel) (by kernel_rfl) (W50_wp v0 H K) h
def D51:Info:=⟨20,fun i=>([],[]),fun i=>([],[])⟩
def W51 (v0:AV) (v1:AV) (H:Heap) (K:AV→Heap→Prop):Prop:=
 binV tab .leq 3 v1 (AV.p (.int .i64 1)) fun v7=>
 cV_ v7 (K (AV.p (.int .i64 0)) H)
 (CallT Try.prog 70 [v0] H fun v9 H1=>
 binV tab .gtr 3 v1 (AV.p (.int .i64 200)) fun v11=>
 cV_ v11 (binV tab .mul 3 v9 (AV.p (.int .i64 256)) fun v13=>
 CallT Try.prog 70 [v0] H1 fun v15 H2=>
 binV tab .add 3 v13 v15 fun v16=>
 binV tab .rem 3 v16 v1 fun v19=>
 K v19 H2)
 (binV tab .rem 3 v9 v1 fun v19=>
 K v19 H1))
theorem W51_wp (v0:AV) (v1:AV) (H:Heap) (K:AV→Heap→Prop):wpC Try.prog tab D51 (bO_ Try.f51) (retF tab [.tmp 4] K) (nthA [v0,v1]) H=W51 v0 v1 H K:=by kernel_rfl
theorem W51_ok {v0 v1:AV} {H:Heap} {K:AV→Heap→Prop} (h:W51 v0 v1 H K):CallT Try.prog 51 [v0,v1] H K:=
 CallT.of_wp (D:=D51) tO_ mixed Try.func51 (c:=bO_ Try.f51) (by kernel_rfl) rfl (by kernel_rfl) (rs:=#[.tmp 4]) rfl (by decide +kernel) (by kernel_rfl) (W51_wp v0 v1 H K) h
def D52:Info:=⟨48,fun i=>([],[]),fun i=>if i=2 then ([0,1],[5]) else ([],[])⟩
def L52_0 (K:AV→Heap→Prop) (v0:AV) (v1:AV) (v5:AV) (H:Heap):Prop:=LoopV (wpC Try.prog tab D52 (cAt [1,1,0,0,0] (bO_ Try.f52))) [0,1] (PostF.block 0 (PostF.thenA (wpC Try.prog tab D52 (cAt [1,1,1] (bO_ Try.f52))) (retF tab [.tmp 4] K))) [5] [v0,v1,Q_,Q_,Q_,v5,Q_,Q_,Q_,Q_,Q_,Q_,Q_,Q_,Q_,Q_,Q_,Q_,Q_,Q_,Q_,Q_,Q_,Q_,Q_,Q_,Q_,Q_,Q_,Q_,Q_,Q_,Q_,Q_,Q_,Q_,Q_,Q_,Q_,Q_,Q_,Q_,Q_,Q_,Q_,Q_,Q_,Q_] H
def J52_1 (K:AV→Heap→Prop) (v0:AV) (v1:AV) (v5:AV) (H:Heap):Prop:=
 bS_ tab 24 0 [] H (wkK fun v34 H1=>
 sliceV tab 24 v0 none (some v5) none fun v37=>
 aP_ tab 24 24 v34 v37 H1 (wkK fun v38 H2=>
 bS_ tab 24 1 [(0,v1)] H2 (wkK fun v41 H3=>
 aP_ tab 24 24 v38 v41 H3 (wkK fun v42 H4=>
 sliceV tab 24 v0 (some v5) none none fun v46=>
 aP_ tab 24 24 v42 v46 H4 (wkK fun v47 H5=>
 K v47 H5)))))
def J52_2 (K:AV→Heap→Prop) (v0:AV) (v1:AV) (v5:AV) (H:Heap):Prop:=
 lenV tab 24 v0 fun v23=>
 binV tab .lss 3 v5 v23 fun v24=>
 grdV v24 true (iA_ tab 24 v0 v5 fun v28=>
 lV_ tab 3 v28 H fun v29=>
 binV tab .eql 3 v29 v1 fun v31=>
 cV_ v31 (K v0 H)
 (J52_1 K v0 v1 v5 H))
 (J52_1 K v0 v1 v5 H)
def B52_0 (K:AV→Heap→Prop) (N1:AV→Heap→Prop) (v0:AV) (v1:AV) (v5:AV) (H:Heap):Prop:=
 lenV tab 24 v0 fun v9=>
 binV tab .lss 3 v5 v9 fun v10=>
 grdV v10 true (iA_ tab 24 v0 v5 fun v14=>
 lV_ tab 3 v14 H fun v15=>
 binV tab .lss 3 v15 v1 fun v17=>
 cV_ v17 (binV tab .add 3 v5 (AV.p (.int .i64 1)) fun v20=>
 N1 v20 H)
 (J52_2 K v0 v1 v5 H))
 (J52_2 K v0 v1 v5 H)
def W52 (v0:AV) (v1:AV) (H:Heap) (K:AV→Heap→Prop):Prop:=
 L52_0 K v0 v1 (AV.p (.int .i64 0)) H
theorem W52_wp (v0:AV) (v1:AV) (H:Heap) (K:AV→Heap→Prop):wpC Try.prog tab D52 (bO_ Try.f52) (retF tab [.tmp 4] K) (nthA [v0,v1]) H=W52 v0 v1 H K:=by kernel_rfl
theorem W52_ok {v0 v1:AV} {H:Heap} {K:AV→Heap→Prop} (h:W52 v0 v1 H K):CallT Try.prog 52 [v0,v1] H K:=
 CallT.of_wp (D:=D52) tO_ mixed Try.func52 (c:=bO_ Try.f52) (by kernel_rfl) rfl (by kernel_rfl) (rs:=#[.tmp 4]) rfl (by decide +kernel) (by kernel_rfl) (W52_wp v0 v1 H K) h
theorem L52_0_rule {K:AV→Heap→Prop} {v0 v1 v5:AV} {H:Heap} {σ:Type} (s0:σ) (f5:σ→AV) (TH:σ→Heap) (pre:σ→Prop) (μ:σ→Nat)
  (h0:pre s0∧AV.wk v5 (f5 s0)∧Heap.le (TH s0) H)
  (round:∀s,pre s→B52_0 K (fun w5 H'=>∃s',pre s'∧μ s' < μ s∧AV.wk w5 (f5 s')∧Heap.le (TH s') H') v0 v1 (f5 s) (TH s)) :
  L52_0 K v0 v1 v5 H:=by
 unfold L52_0
 exact LoopV.mk s0 (fun s=>[f5 s]) TH pre μ (fun _=>rfl) (Eq.mp (by kernel_rfl) h0) (fun s hs=>Eq.mp (by kernel_rfl) (round s hs))
def D53:Info:=⟨16,fun i=>([],[]),fun i=>if i=2 then ([0],[1,5]) else ([],[])⟩
def L53_0 (K:AV→Heap→Prop) (v0:AV) (v1:AV) (v5:AV) (H:Heap):Prop:=LoopV (wpC Try.prog tab D53 (cAt [1,1,0,0,0] (bO_ Try.f53))) [0] (PostF.block 0 (PostF.thenA (wpC Try.prog tab D53 (cAt [1,1,1] (bO_ Try.f53))) (retF tab [.tmp 4] K))) [1,5] [v0,v1,Q_,Q_,Q_,v5,Q_,Q_,Q_,Q_,Q_,Q_,Q_,Q_,Q_,Q_] H
def B53_0 (K:AV→Heap→Prop) (N1:AV→AV→Heap→Prop) (v0:AV) (v1:AV) (v5:AV) (H:Heap):Prop:=
 binV tab .gtr 3 v1 (AV.p (.int .i64 0)) fun v7=>
 cV_ v7 (CallT Try.prog 51 [v0,(AV.p (.int .i64 8))] H fun v12 H1=>
 bS_ tab 24 1 [(0,v12)] H1 (wkK fun v13 H2=>
 aP_ tab 24 24 v5 v13 H2 (wkK fun v14 H3=>
 binV tab .sub 3 v1 (AV.p (.int .i64 1)) fun v9=>
 N1 v9 v14 H3)))
 (K v5 H)
def W53 (v0:AV) (v1:AV) (H:Heap) (K:AV→Heap→Prop):Prop:=
 L53_0 K v0 v1 (AV.p .nil) H
theorem W53_wp (v0:AV) (v1:AV) (H:Heap) (K:AV→Heap→Prop):wpC Try.prog tab D53 (bO_ Try.f53) (retF tab [.tmp 4] K) (nthA [v0,v1]) H=W53 v0 v1 H K:=by kernel_rfl
theorem W53_ok {v0 v1:AV} {H:Heap} {K:AV→Heap→Prop} (h:W53 v0 v1 H K):CallT Try.prog 53 [v0,v1] H K:=
 CallT.of_wp (D:=D53) tO_ mixed Try.func53 (c:=bO_ Try.f53) (by kernel_rfl) rfl (by kernel_rfl) (rs:=#[.tmp 4]) rfl (by decide +kernel) (by kernel_rfl) (W53_wp v0 v1 H K) h
theorem W53_hb:HasBody Try.prog 53:=⟨_,bO_ Try.f53,Try.func53,by kernel_rfl,rfl⟩
theorem L53_0_rule {K:AV→Heap→Prop} {v0 v1 v5:AV} {H:Heap} {σ:Type} (s0:σ) (f1:σ→AV) (f5:σ→AV) (TH:σ→Heap) (pre:σ→Prop) (μ:σ→Nat)
  (h0:pre s0∧AV.wk v1 (f1 s0)∧AV.wk v5 (f5 s0)∧Heap.le (TH s0) H)
  (round:∀s,pre s→B53_0 K (fun w1 w5 H'=>∃s',pre s'∧μ s' < μ s∧AV.wk w1 (f1 s')∧AV.wk w5 (f5 s')∧Heap.le (TH s') H') v0 (f1 s) (f5 s) (TH s)) :
  L53_0 K v0 v1 v5 H:=by
 unfold L53_0
 exact LoopV.mk s0 (fun s=>[f1 s,f5 s]) TH pre μ (fun _=>rfl) (Eq.mp (by kernel_rfl) h0) (fun s hs=>Eq.mp (by kernel_rfl) (round s hs))
def D54:Info:=⟨12,fun i=>([],[]),fun i=>([],[])⟩
def W54 (v0:AV) (v1:AV) (H:Heap) (K:AV→Heap→Prop):Prop:=
 lenV tab 24 v1 fun v8=>
 CallT Try.prog 51 [v0,v8] H fun v9 H1=>
 iA_ tab 24 v1 v9 fun v10=>
 lV_ tab 3 v10 H1 fun v11=>
 K v11 H1
theorem W54_wp (v0:AV) (v1:AV) (H:Heap) (K:AV→Heap→Prop):wpC Try.prog tab D54 (bO_ Try.f54) (retF tab [.tmp 4] K) (nthA [v0,v1]) H=W54 v0 v1 H K:=by kernel_rfl
theorem W54_ok {v0 v1:AV} {H:Heap} {K:AV→Heap→Prop} (h:W54 v0 v1 H K):CallT Try.prog 54 [v0,v1] H K:=
 CallT.of_wp (D:=D54) tO_ mixed Try.func54 (c:=bO_ Try.f54) (by kernel_rfl) rfl (by kernel_rfl) (rs:=#[.tmp 4]) rfl (by decide +kernel) (by kernel_rfl) (W54_wp v0 v1 H K) h
def D55:Info:=⟨147,fun i=>if i=6 then ([[],[],[0,1],[0,1,2],[0,1,2,3],[0,1,2,3,4],[0,1,2,3,4,5],[0,1,2,3,4,5,6],[0,1,2,3,4,5,6,7],[0,1,2,3,4,5,6,7,8],[0,1,2,3,4,5,6,7,8],[0,1,2,3,4,5,6,7,8,9,10],[0,1,2,3,4,5,6,7,8,9,10,11],[0,1,2,3,4,5,6,7,8],[0,1,2,3,4,5,6,7,8],[0,1,2,3,4,5,6,7,8,13,14],[0,1,2,3,4,5,6,7,8,13,14,15],[0,1,2,3,4,5,6,7,8,9,10,11,12,13,14,15,16],[0,1,2,3,4,5,6,7,8,9,10,11,12,13,14,15,16,17],[0,1,2,3,4,5,6,7,8,9,10,11,12,13,14,15,16,17,18]],[(0,[]),(1,[]),(2,[]),(3,[]),(4,[]),(5,[]),(6,[]),(7,[]),(8,[]),(9,[]),(10,[]),(11,[]),(12,[]),(13,[]),(14,[]),(15,[]),(16,[]),(17,[]),(18,[]),(19,[])]) else if i=22 then ([[],[],[0,1],[0,1,2],[],[],[4,5],[4,5,6],[0,1,2,3,4,5,6,7]],[(0,[]),(1,[]),(2,[]),(3,[]),(4,[]),(5,[]),(6,[]),(7,[]),(8,[])]) else if i=29 then ([[],[],[1],[1,2],[0,1,2,3],[],[],[],[7],[7,8],[6,7,8,9],[5,6,7,8,9,10],[0,1,2,3,4,5,6,7,8,9,10,11],[0,1,2,3,4,5,6,7,8,9,10,11,12],[0,1,2,3,4,5,6,7,8,9,10,11,12,13]],[(0,[]),(1,[]),(2,[]),(3,[]),(4,[]),(5,[]),(6,[]),(7,[]),(8,[]),(9,[]),(10,[]),(11,[]),(12,[]),(13,[]),(14,[])]) else ([],[]),fun i=>if i=4 then ([0,1,2,9,32,33],[10,34]) else if i=16 then ([10,13,15,16,77,78],[17,79]) else if i=20 then ([10,13,15,16,17,77,78,79,83,84],[20,85]) else ([],[])⟩
def L55_0 (K:AV→Heap→Prop) (v0:AV) (v1:AV) (v2:AV) (v9:AV) (v10:AV) (v32:AV) (v33:AV) (v34:AV) (H:Heap):Prop:=LoopV (wpC Try.prog tab D55 (cAt [1,1,1,0,1,0,0] (bO_ Try.f55))) [0,1,2,9,32,33] (PostF.block 0 (PostF.thenA (wpC Try.prog tab D55 (cAt [1,1,1,1] (bO_ Try.f55))) (retF tab [.tmp 6,.tmp 7,.tmp 8] K))) [10,34] [v0,v1,v2,Q_,Q_,Q_,Q_,Q_,Q_,v9,v10,Q_,Q_,Q_,Q_,Q_,Q_,Q_,Q_,Q_,Q_,Q_,Q_,Q_,Q_,Q_,Q_,Q_,Q_,Q_,Q_,Q_,v32,v33,v34,Q_,Q_,Q_,Q_,Q_,Q_,Q_,Q_,Q_,Q_,Q_,Q_,Q_,Q_,Q_,Q_,Q_,Q_,Q_,Q_,Q_,Q_,Q_,Q_,Q_,Q_,Q_,Q_,Q_,Q_,Q_,Q_,Q_,Q_,Q_,Q_,Q_,Q_,Q_,Q_,Q_,Q_,Q_,Q_,Q_,Q_,Q_,Q_,Q_,Q_,Q_,Q_,Q_,Q_,Q_,Q_,Q_,Q_,Q_,Q_,Q_,Q_,Q_,Q_,Q_,Q_,Q_,Q_,Q_,Q_,Q_,Q_,Q_,Q_,Q_,Q_,Q_,Q_,Q_,Q_,Q_,Q_,Q_,Q_,Q_,Q_,Q_,Q_,Q_,Q_,Q_,Q_,Q_,Q_,Q_,Q_,Q_,Q_,Q_,Q_,Q_,Q_,Q_,Q_,Q_,Q_,Q_,Q_,Q_,Q_,Q_,Q_] H
def L55_1 (K:AV→Heap→Prop) (v10:AV) (v13:AV) (v15:AV) (v16:AV) (v17:AV) (v77:AV) (v78:AV) (v79:AV) (H:Heap):Prop:=LoopV (wpC Try.prog tab D55 (cAt [1,1,1,1,1,1,1,1,1,0,1,0,0] (bO_ Try.f55))) [10,13,15,16,77,78] (PostF.block 2 (PostF.thenA (wpC Try.prog tab D55 (cAt [1,1,1,1,1,1,1,1,1,1] (bO_ Try.f55))) (retF tab [.tmp 6,.tmp 7,.tmp 8] K))) [17,79] [Q_,Q_,Q_,Q_,Q_,Q_,Q_,Q_,Q_,Q_,v10,Q_,Q_,v13,Q_,v15,v16,v17,Q_,Q_,Q_,Q_,Q_,Q_,Q_,Q_,Q_,Q_,Q_,Q_,Q_,Q_,Q_,Q_,Q_,Q_,Q_,Q_,Q_,Q_,Q_,Q_,Q_,Q_,Q_,Q_,Q_,Q_,Q_,Q_,Q_,Q_,Q_,Q_,Q_,Q_,Q_,Q_,Q_,Q_,Q_,Q_,Q_,Q_,Q_,Q_,Q_,Q_,Q_,Q_,Q_,Q_,Q_,Q_,Q_,Q_,Q_,v77,v78,v79,Q_,Q_,Q_,Q_,Q_,Q_,Q_,Q_,Q_,Q_,Q_,Q_,Q_,Q_,Q_,Q_,Q_,Q_,Q_,Q_,Q_,Q_,Q_,Q_,Q_,Q_,Q_,Q_,Q_,Q_,Q_,Q_,Q_,Q_,Q_,Q_,Q_,Q_,Q_,Q_,Q_,Q_,Q_,Q_,Q_,Q_,Q_,Q_,Q_,Q_,Q_,Q_,Q_,Q_,Q_,Q_,Q_,Q_,Q_,Q_,Q_,Q_,Q_,Q_,Q_,Q_,Q_] H
def L55_2 (K:AV→Heap→Prop) (N1:AV→AV→Heap→Prop) (v10:AV) (v13:AV) (v15:AV) (v16:AV) (v17:AV) (v20:AV) (v77:AV) (v78:AV) (v79:AV) (v83:AV) (v84:AV) (v85:AV) (H:Heap):Prop:=LoopV (wpC Try.prog tab D55 (cAt [1,1,1,1,1,1,1,1,1,0,1,0,0,1,1,0,0,1,1,0,1,0,0] (bO_ Try.f55))) [10,13,15,16,17,77,78,79,83,84] (PostF.block 4 (PostF.thenA (wpC Try.prog tab D55 (cAt [1,1,1,1,1,1,1,1,1,0,1,0,0,1,1,0,0,1,1,1] (bO_ Try.f55))) (PostF.block 3 (PostF.thenA (wpC Try.prog tab D55 (cAt [1,1,1,1,1,1,1,1,1,0,1,0,0,1,1,1] (bO_ Try.f55))) (loopF (PostF.block 2 (PostF.thenA (wpC Try.prog tab D55 (cAt [1,1,1,1,1,1,1,1,1,1] (bO_ Try.f55))) (retF tab [.tmp 6,.tmp 7,.tmp 8] K))) (fun e h=>N1 (e 17) (e 79) h)))))) [20,85] [Q_,Q_,Q_,Q_,Q_,Q_,Q_,Q_,Q_,Q_,v10,Q_,Q_,v13,Q_,v15,v16,v17,Q_,Q_,v20,Q_,Q_,Q_,Q_,Q_,Q_,Q_,Q_,Q_,Q_,Q_,Q_,Q_,Q_,Q_,Q_,Q_,Q_,Q_,Q_,Q_,Q_,Q_,Q_,Q_,Q_,Q_,Q_,Q_,Q_,Q_,Q_,Q_,Q_,Q_,Q_,Q_,Q_,Q_,Q_,Q_,Q_,Q_,Q_,Q_,Q_,Q_,Q_,Q_,Q_,Q_,Q_,Q_,Q_,Q_,Q_,v77,v78,v79,Q_,Q_,Q_,v83,v84,v85,Q_,Q_,Q_,Q_,Q_,Q_,Q_,Q_,Q_,Q_,Q_,Q_,Q_,Q_,Q_,Q_,Q_,Q_,Q_,Q_,Q_,Q_,Q_,Q_,Q_,Q_,Q_,Q_,Q_,Q_,Q_,Q_,Q_,Q_,Q_,Q_,Q_,Q_,Q_,Q_,Q_,Q_,Q_,Q_,Q_,Q_,Q_,Q_,Q_,Q_,Q_,Q_,Q_,Q_,Q_,Q_,Q_,Q_,Q_,Q_,Q_] H
def B55_2 (K:AV→Heap→Prop) (N1:AV→AV→Heap→Prop) (N2:AV→AV→Heap→Prop) (v10:AV) (v13:AV) (v15:AV) (v16:AV) (v17:AV) (v20:AV) (v77:AV) (v78:AV) (v79:AV) (v83:AV) (v84:AV) (v85:AV) (H:Heap):Prop:=
 binV tab .lss 3 v85 v84 fun v86=>
 cV_ v86 (iA_ tab 24 v83 v85 fun v87=>
 lV_ tab 3 v87 H fun v88=>
 iA_ tab 24 v15 v88 fun v91=>
 lV_ tab 3 v91 H fun v92=>
 iA_ tab 24 v15 v10 fun v95=>
 lV_ tab 3 v95 H fun v96=>
 binV tab .eql 3 v92 v96 fun v97=>
 cV_ v97 (bS_ tab 24 1 [(0,v88)] H (wkK fun v100 H8=>
 aP_ tab 24 24 v20 v100 H8 (wkK fun v101 H9=>
 binV tab .add 3 v85 (AV.p (.int .i64 1)) fun v102=>
 N2 v101 v102 H9)))
 (binV tab .add 3 v85 (AV.p (.int .i64 1)) fun v102=>
 N2 v20 v102 H))
 (lenV tab 24 v17 fun v107=>
 binV tab .sub 3 v107 (AV.p (.int .i64 1)) fun v108=>
 sliceV tab 24 v17 (some v108) none none fun v109=>
 CallT Try.prog 73 [v16,v109,v20] H fun v111 H10=>
 xV_ v111 0 fun v112=>
 xV_ v111 1 fun v113=>
 sliceV tab 24 v112 (some (AV.p (.int .i64 1))) none none fun v116=>
 aP_ tab 24 24 v17 v116 H10 (wkK fun v117 H11=>
 binV tab .add 3 v79 (AV.p (.int .i64 1)) fun v118=>
 N1 v117 v118 H11))
def B55_1 (K:AV→Heap→Prop) (N1:AV→AV→Heap→Prop) (v10:AV) (v13:AV) (v15:AV) (v16:AV) (v17:AV) (v77:AV) (v78:AV) (v79:AV) (H:Heap):Prop:=
 binV tab .lss 3 v79 v78 fun v80=>
 cV_ v80 (iA_ tab 26 v77 v79 fun v81=>
 lV_ tab 24 v81 H fun v82=>
 lenV tab 24 v82 fun v84=>
 L55_2 K N1 v10 v13 v15 v16 v17 (AV.p .nil) v77 v78 v79 v82 v84 (AV.p (.int .i64 0)) H)
 (lenV tab 24 v17 fun v124=>
 binV tab .sub 3 v124 (AV.p (.int .i64 1)) fun v125=>
 iA_ tab 24 v17 v125 fun v126=>
 lV_ tab 3 v126 H fun v127=>
 iA_ tab 26 v16 v127 fun v128=>
 lV_ tab 24 v128 H fun v129=>
 bS_ tab 24 1 [(0,v10)] H (wkK fun v131 H12=>
 CallT Try.prog 73 [v16,v129,v131] H12 fun v132 H13=>
 xV_ v132 0 fun v133=>
 xV_ v132 1 fun v134=>
 lenV tab 24 v13 fun v137=>
 binV tab .sub 3 v137 (AV.p (.int .i64 1)) fun v138=>
 sliceV tab 24 v13 none (some v138) none fun v139=>
 lenV tab 24 v133 fun v143=>
 binV tab .sub 3 v143 (AV.p (.int .i64 1)) fun v144=>
 sliceV tab 24 v133 none (some v144) none fun v145=>
 aP_ tab 24 24 v17 v145 H13 (wkK fun v146 H14=>
 K (.tup [v139,v146,(AV.p (.bool true))]) H14)))
def B55_0 (K:AV→Heap→Prop) (N1:AV→AV→Heap→Prop) (v0:AV) (v1:AV) (v2:AV) (v9:AV) (v10:AV) (v32:AV) (v33:AV) (v34:AV) (H:Heap):Prop:=
 binV tab .lss 3 v34 v33 fun v35=>
 cV_ v35 (iA_ tab 24 v32 v34 fun v36=>
 lV_ tab 3 v36 H fun v37=>
 iA_ tab 24 v9 v37 fun v40=>
 lV_ tab 3 v40 H fun v41=>
 binV tab .geq 3 v41 (AV.p (.int .i64 0)) fun v42=>
 grdV v42 true (binV tab .lss 3 v10 (AV.p (.int .i64 0)) fun v45=>
 grdV v45 false (iA_ tab 24 v9 v37 fun v49=>
 lV_ tab 3 v49 H fun v50=>
 iA_ tab 24 v9 v10 fun v53=>
 lV_ tab 3 v53 H fun v54=>
 binV tab .lss 3 v50 v54 fun v55=>
 cV_ v55 (binV tab .add 3 v34 (AV.p (.int .i64 1)) fun v59=>
 N1 v37 v59 H)
 (binV tab .add 3 v34 (AV.p (.int .i64 1)) fun v59=>
 N1 v10 v59 H))
 (binV tab .add 3 v34 (AV.p (.int .i64 1)) fun v59=>
 N1 v37 v59 H))
 (binV tab .add 3 v34 (AV.p (.int .i64 1)) fun v59=>
 N1 v10 v59 H))
 (binV tab .lss 3 v10 (AV.p (.int .i64 0)) fun v61=>
 cV_ v61 (K (.tup [(AV.p .nil),(AV.p .nil),(AV.p (.bool false))]) H)
 (bS_ tab 24 1 [(0,v10)] H (wkK fun v66 H3=>
 CallT Try.prog 73 [v0,v1,v66] H3 fun v67 H4=>
 xV_ v67 0 fun v68=>
 xV_ v67 1 fun v69=>
 CallT Try.prog 74 [v0] H4 fun v71 H5=>
 CallT Try.prog 75 [v0,v71] H5 fun v74 H6=>
 bS_ tab 24 1 [(0,v10)] H6 (wkK fun v76 H7=>
 lenV tab 26 v2 fun v78=>
 L55_1 K v10 v68 v71 v74 v76 v2 v78 (AV.p (.int .i64 0)) H7))))
def W55 (v0:AV) (v1:AV) (v2:AV) (H:Heap) (K:AV→Heap→Prop):Prop:=
 CallT Try.prog 71 [v0,v1] H fun v29 H1=>
 CallT Try.prog 72 [v0,v2] H1 fun v32 H2=>
 lenV tab 24 v32 fun v33=>
 L55_0 K v0 v1 v2 v29 (AV.p (.int .i64 (-1))) v32 v33 (AV.p (.int .i64 0)) H2
theorem W55_wp (v0:AV) (v1:AV) (v2:AV) (H:Heap) (K:AV→Heap→Prop):wpC Try.prog tab D55 (bO_ Try.f55) (retF tab [.tmp 6,.tmp 7,.tmp 8] K) (nthA [v0,v1,v2]) H=W55 v0 v1 v2 H K:=by kernel_rfl
theorem W55_ok {v0 v1 v2:AV} {H:Heap} {K:AV→Heap→Prop} (h:W55 v0 v1 v2 H K):CallT Try.prog 55 [v0,v1,v2] H K:=
 CallT.of_wp (D:=D55) tO_ mixed Try.func55 (c:=bO_ Try.f55) (by kernel_rfl) rfl (by kernel_rfl) (rs:=#[.tmp 6,.tmp 7,.tmp 8]) rfl (by decide +kernel) (by kernel_rfl) (W55_wp v0 v1 v2 H K) h
theorem L55_2_rule {K:AV→Heap→Prop} {N1:AV→AV→Heap→Prop} {v10 v13 v15 v16 v17 v20 v77 v78 v79 v83 v84 v85:AV} {H:Heap} {σ:Type} (s0:σ) (f20:σ→AV) (f85:σ→AV) (TH:σ→Heap) (pre:σ→Prop) (μ:σ→Nat)
  (h0:pre s0∧AV.wk v20 (f20 s0)∧AV.wk v85 (f85 s0)∧Heap.le (TH s0) H)
  (round:∀s,pre s→B55_2 K N1 (fun w20 w85 H'=>∃s',pre s'∧μ s' < μ s∧AV.wk w20 (f20 s')∧AV.wk w85 (f85 s')∧Heap.le (TH s') H') v10 v13 v15 v16 v17 (f20 s) v77 v78 v79 v83 v84 (f85 s) (TH s)) :
  L55_2 K N1 v10 v13 v15 v16 v17 v20 v77 v78 v79 v83 v84 v85 H:=by
 unfold L55_2
 exact LoopV.mk s0 (fun s=>[f20 s,f85 s]) TH pre μ (fun _=>rfl) (Eq.mp (by kernel_rfl) h0) (fun s hs=>Eq.mp (by kernel_rfl) (round s hs))
theorem L55_1_rule {K:AV→Heap→Prop} {v10 v13 v15 v16 v17 v77 v78 v79:AV} {H:Heap} {σ:Type} (s0:σ) (f17:σ→AV) (f79:σ→AV) (TH:σ→Heap) (pre:σ→Prop) (μ:σ→Nat)
  (h0:pre s0∧AV.wk v17 (f17 s0)∧AV.wk v79 (f79 s0)∧Heap.le (TH s0) H)
  (round:∀s,pre s→B55_1 K (fun w17 w79 H'=>∃s',pre s'∧μ s' < μ s∧AV.wk w17 (f17 s')∧AV.wk w79 (f79 s')∧Heap.le (TH s') H') v10 v13 v15 v16 (f17 s) v77 v78 (f79 s) (TH s)) :
  L55_1 K v10 v13 v15 v16 v17 v77 v78 v79 H:=by
 unfold L55_1
 exact LoopV.mk s0 (fun s=>[f17 s,f79 s]) TH pre μ (fun _=>rfl) (Eq.mp (by kernel_rfl) h0) (fun s hs=>Eq.mp (by kernel_rfl) (round s hs))
theorem L55_0_rule {K:AV→Heap→Prop} {v0 v1 v2 v9 v10 v32 v33 v34:AV} {H:Heap} {σ:Type} (s0:σ) (f10:σ→AV) (f34:σ→AV) (TH:σ→Heap) (pre:σ→Prop) (μ:σ→Nat)
  (h0:pre s0∧AV.wk v10 (f10 s0)∧AV.wk v34 (f34 s0)∧Heap.le (TH s0) H)
  (round:∀s,pre s→B55_0 K (fun w10 w34 H'=>∃s',pre s'∧μ s' < μ s∧AV.wk w10 (f10 s')∧AV.wk w34 (f34 s')∧Heap.le (TH s') H') v0 v1 v2 v9 (f10 s) v32 v33 (f34 s) (TH s)) :
  L55_0 K v0 v1 v2 v9 v10 v32 v33 v34 H:=by
 unfold L55_0
 exact LoopV.mk s0 (fun s=>[f10 s,f34 s]) TH pre μ (fun _=>rfl) (Eq.mp (by kernel_rfl) h0) (fun s hs=>Eq.mp (by kernel_rfl) (round s hs))
def D56:Info:=⟨30,fun i=>if i=5 then ([[],[],[1],[],[],[4],[3,4,5],[3,4,5,6],[],[8],[3,4,5,6,7,8,9],[0,1,2,3,4,5,6,7,8,9,10],[0,1,2,3,4,5,6,7,8,9,10,11]],[(0,[]),(1,[]),(2,[]),(3,[]),(4,[]),(5,[]),(6,[]),(7,[]),(8,[]),(9,[]),(10,[2]),(11,[]),(12,[])]) else ([],[]),fun i=>if i=3 then ([3,10,11],[12]) else ([],[])⟩
def L56_0 (K:AV→Heap→Prop) (v3:AV) (v10:AV) (v11:AV) (v12:AV) (H:Heap):Prop:=LoopV (wpC Try.prog tab D56 (cAt [1,1,0,1,0,0] (bO_ Try.f56))) [3,10,11] (PostF.block 0 (PostF.thenA (wpC Try.prog tab D56 (cAt [1,1,1] (bO_ Try.f56))) (retF tab [.tmp 2] K))) [12] [Q_,Q_,Q_,v3,Q_,Q_,Q_,Q_,Q_,Q_,v10,v11,v12,Q_,Q_,Q_,Q_,Q_,Q_,Q_,Q_,Q_,Q_,Q_,Q_,Q_,Q_,Q_,Q_,Q_] H
def B56_0 (K:AV→Heap→Prop) (N1:AV→Heap→Prop) (v3:AV) (v10:AV) (v11:AV) (v12:AV) (H:Heap):Prop:=
 binV tab .lss 3 v12 v11 fun v13=>
 cV_ v13 (iA_ tab 25 v10 v12 fun v14=>
 lV_ tab 46 v14 H fun v15=>
 allocV tab 46 H fun v5 H3=>
 sV_ tab 46 v5 v15 H3 fun H4=>
 fA_ tab 46 v5 0 fun v17=>
 lV_ tab 3 v17 H4 fun v18=>
 fA_ tab 46 v5 0 fun v20=>
 lV_ tab 3 v20 H4 fun v21=>
 iA_ tab 26 v3 v21 fun v22=>
 lV_ tab 24 v22 H4 fun v23=>
 fA_ tab 46 v5 2 fun v24=>
 lV_ tab 3 v24 H4 fun v25=>
 CallT Try.prog 52 [v23,v25] H4 fun v26 H5=>
 (lV_ tab 3 v17 H5 fun v9018=>
 v18=v9018)∧
 iA_ tab 26 v3 v18 fun v27=>
 sV_ tab 24 v27 v26 H5 fun H6=>
 binV tab .add 3 v12 (AV.p (.int .i64 1)) fun v28=>
 N1 v28 H6)
 (K v3 H)
def W56 (v0:AV) (H:Heap) (K:AV→Heap→Prop):Prop:=
 boxV v0 H fun v1 H1=>
 fA_ tab 28 v1 0 fun v6=>
 lV_ tab 3 v6 H1 fun v7=>
 mS_ tab 26 v7 v7 H1 fun v8 H2=>
 fA_ tab 28 v1 2 fun v9=>
 lV_ tab 25 v9 H2 fun v10=>
 lenV tab 25 v10 fun v11=>
 L56_0 K v8 v10 v11 (AV.p (.int .i64 0)) H2
theorem W56_wp (v0:AV) (H:Heap) (K:AV→Heap→Prop):wpC Try.prog tab D56 (bO_ Try.f56) (retF tab [.tmp 2] K) (nthA [v0]) H=W56 v0 H K:=by kernel_rfl
theorem W56_ok {v0:AV} {H:Heap} {K:AV→Heap→Prop} (h:W56 v0 H K):CallT Try.prog 56 [v0] H K:=
 CallT.of_wp (D:=D56) tO_ mixed Try.func56 (c:=bO_ Try.f56) (by kernel_rfl) rfl (by kernel_rfl) (rs:=#[.tmp 2]) rfl (by decide +kernel) (by kernel_rfl) (W56_wp v0 H K) h
theorem L56_0_rule {K:AV→Heap→Prop} {v3 v10 v11 v12:AV} {H:Heap} {σ:Type} (s0:σ) (f12:σ→AV) (TH:σ→Heap) (pre:σ→Prop) (μ:σ→Nat)
  (h0:pre s0∧AV.wk v12 (f12 s0)∧Heap.le (TH s0) H)
  (round:∀s,pre s→B56_0 K (fun w12 H'=>∃s',pre s'∧μ s' < μ s∧AV.wk w12 (f12 s')∧Heap.le (TH s') H') v3 v10 v11 (f12 s) (TH s)) :
  L56_0 K v3 v10 v11 v12 H:=by
 unfold L56_0
 exact LoopV.mk s0 (fun s=>[f12 s]) TH pre μ (fun _=>rfl) (Eq.mp (by kernel_rfl) h0) (fun s hs=>Eq.mp (by kernel_rfl) (round s hs))
def D57:Info:=⟨29,fun i=>([],[]),fun i=>if i=2 then ([1,2,10,11],[12]) else ([],[])⟩
def L57_0 (K:AV→Heap→Prop) (v1:AV) (v2:AV) (v10:AV) (v11:AV) (v12:AV) (H:Heap):Prop:=LoopV (wpC Try.prog tab D57 (cAt [1,0,1,0,0] (bO_ Try.f57))) [1,2,10,11] (PostF.block 0 (PostF.thenA (wpC Try.prog tab D57 (cAt [1,1] (bO_ Try.f57))) (retF tab [.tmp 6] K))) [12] [Q_,v1,v2,Q_,Q_,Q_,Q_,Q_,Q_,Q_,v10,v11,v12,Q_,Q_,Q_,Q_,Q_,Q_,Q_,Q_,Q_,Q_,Q_,Q_,Q_,Q_,Q_,Q_] H
def B57_0 (K:AV→Heap→Prop) (N1:AV→Heap→Prop) (v1:AV) (v2:AV) (v10:AV) (v11:AV) (v12:AV) (H:Heap):Prop:=
 binV tab .lss 3 v12 v11 fun v13=>
 cV_ v13 (iA_ tab 25 v10 v12 fun v14=>
 lV_ tab 46 v14 H fun v15=>
 allocV tab 46 H fun v8 H2=>
 sV_ tab 46 v8 v15 H2 fun H3=>
 fA_ tab 46 v8 0 fun v16=>
 lV_ tab 3 v16 H3 fun v17=>
 binV tab .eql 3 v17 v1 fun v19=>
 grdV v19 true (fA_ tab 46 v8 2 fun v21=>
 lV_ tab 3 v21 H3 fun v22=>
 binV tab .eql 3 v22 v2 fun v24=>
 cV_ v24 (fA_ tab 46 v8 1 fun v26=>
 lV_ tab 3 v26 H3 fun v27=>
 K v27 H3)
 (binV tab .add 3 v12 (AV.p (.int .i64 1)) fun v28=>
 N1 v28 H3))
 (binV tab .add 3 v12 (AV.p (.int .i64 1)) fun v28=>
 N1 v28 H3))
 (K (AV.p (.int .i64 0)) H)
def W57 (v0:AV) (v1:AV) (v2:AV) (H:Heap) (K:AV→Heap→Prop):Prop:=
 boxV v0 H fun v3 H1=>
 fA_ tab 28 v3 2 fun v9=>
 lV_ tab 25 v9 H1 fun v10=>
 lenV tab 25 v10 fun v11=>
 L57_0 K v1 v2 v10 v11 (AV.p (.int .i64 0)) H1
theorem W57_wp (v0:AV) (v1:AV) (v2:AV) (H:Heap) (K:AV→Heap→Prop):wpC Try.prog tab D57 (bO_ Try.f57) (retF tab [.tmp 6] K) (nthA [v0,v1,v2]) H=W57 v0 v1 v2 H K:=by kernel_rfl
theorem W57_ok {v0 v1 v2:AV} {H:Heap} {K:AV→Heap→Prop} (h:W57 v0 v1 v2 H K):CallT Try.prog 57 [v0,v1,v2] H K:=
 CallT.of_wp (D:=D57) tO_ mixed Try.func57 (c:=bO_ Try.f57) (by kernel_rfl) rfl (by kernel_rfl) (rs:=#[.tmp 6]) rfl (by decide +kernel) (by kernel_rfl) (W57_wp v0 v1 v2 H K) h
theorem L57_0_rule {K:AV→Heap→Prop} {v1 v2 v10 v11 v12:AV} {H:Heap} {σ:Type} (s0:σ) (f12:σ→AV) (TH:σ→Heap) (pre:σ→Prop) (μ:σ→Nat)
  (h0:pre s0∧AV.wk v12 (f12 s0)∧Heap.le (TH s0) H)
  (round:∀s,pre s→B57_0 K (fun w12 H'=>∃s',pre s'∧μ s' < μ s∧AV.wk w12 (f12 s')∧Heap.le (TH s') H') v1 v2 v10 v11 (f12 s) (TH s)) :
  L57_0 K v1 v2 v10 v11 v12 H:=by
 unfold L57_0
 exact LoopV.mk s0 (fun s=>[f12 s]) TH pre μ (fun _=>rfl) (Eq.mp (by kernel_rfl) h0) (fun s hs=>Eq.mp (by kernel_rfl) (round s hs))
def D58:Info:=⟨9,fun i=>([],[]),fun i=>([],[])⟩
def W58 (v0:AV) (H:Heap) (K:AV→Heap→Prop):Prop:=
 boxV v0 H fun v1 H1=>
 allocV tab 35 H1 fun v2 H2=>
 lV_ tab 35 v1 H2 fun v4=>
 CallT Try.prog 11 [v4] H2 fun v5 H3=>
 unV .not v5 fun v6=>
 cV_ v6 (buildV tab 35 [] fun v7=>
 sV_ tab 35 v2 v7 H3 fun H4=>
 lV_ tab 35 v2 H4 fun r0=>
 K (.tup [r0,(AV.p (.bool false))]) H4)
 (lV_ tab 35 v1 H3 fun v8=>
 sV_ tab 35 v2 v8 H3 fun H5=>
 lV_ tab 35 v2 H5 fun r0=>
 K (.tup [r0,(AV.p (.bool true))]) H5)
theorem W58_wp (v0:AV) (H:Heap) (K:AV→Heap→Prop):wpC Try.prog tab D58 (bO_ Try.f58) (retF tab [.cell 2 35,.tmp 3] K) (nthA [v0]) H=W58 v0 H K:=by kernel_rfl
theorem W58_ok {v0:AV} {H:Heap} {K:AV→Heap→Prop} (h:W58 v0 H K):CallT Try.prog 58 [v0] H K:=
 CallT.of_wp (D:=D58) tO_ mixed Try.func58 (c:=bO_ Try.f58) (by kernel_rfl) rfl (by kernel_rfl) (rs:=#[.cell 2 35,.tmp 3]) rfl (by decide +kernel) (by kernel_rfl) (W58_wp v0 H K) h
def D59:Info:=⟨6,fun i=>([],[]),fun i=>([],[])⟩
def W59 (v0:AV) (H:Heap) (K:AV→Heap→Prop):Prop:=
 CallT Try.prog 76 [v0,(.fn 77 [])] H fun v4 H1=>
 unV .not v4 fun v5=>
 K v5 H1
theorem W59_wp (v0:AV) (H:Heap) (K:AV→Heap→Prop):wpC Try.prog tab D59 (bO_ Try.f59) (retF tab [.tmp 2] K) (nthA [v0]) H=W59 v0 H K:=by kernel_rfl
theorem W59_ok {v0:AV} {H:Heap} {K:AV→Heap→Prop} (h:W59 v0 H K):CallT Try.prog 59 [v0] H K:=
 CallT.of_wp (D:=D59) tO_ mixed Try.func59 (c:=bO_ Try.f59) (by kernel_rfl) rfl (by kernel_rfl) (rs:=#[.tmp 2]) rfl (by decide +kernel) (by kernel_rfl) (W59_wp v0 H K) h
end Go.Proofs.Ytohkciilfkhomaa
namespace Go.Proofs.Ytohkciilfkhomaa
open Go Go.Sep
attribute [local irreducible] wpC headF
def D60:Info:=⟨64,fun i=>([],[]),fun i=>if i=4 then ([0,5,6,17,18],[19]) else if i=8 then ([0,5],[6]) else if i=11 then ([0,5,37,38],[6,39]) else ([],[])⟩
def L60_0 (K:AV→Heap→Prop) (v0:AV) (v5:AV) (v6:AV) (v17:AV) (v18:AV) (v19:AV) (H:Heap):Prop:=LoopV (wpC Try.prog tab D60 (cAt [1,1,1,0,1,0,0] (bO_ Try.f60))) [0,5,6,17,18] (PostF.block 0 (PostF.thenA (wpC Try.prog tab D60 (cAt [1,1,1,1] (bO_ Try.f60))) (retF tab [.tmp 4] K))) [19] [v0,Q_,Q_,Q_,Q_,v5,v6,Q_,Q_,Q_,Q_,Q_,Q_,Q_,Q_,Q_,Q_,v17,v18,v19,Q_,Q_,Q_,Q_,Q_,Q_,Q_,Q_,Q_,Q_,Q_,Q_,Q_,Q_,Q_,Q_,Q_,Q_,Q_,Q_,Q_,Q_,Q_,Q_,Q_,Q_,Q_,Q_,Q_,Q_,Q_,Q_,Q_,Q_,Q_,Q_,Q_,Q_,Q_,Q_,Q_,Q_,Q_,Q_] H
def L60_1 (K:AV→Heap→Prop) (v0:AV) (v5:AV) (v6:AV) (H:Heap):Prop:=LoopV (wpC Try.prog tab D60 (cAt [1,1,1,1,0,0,0] (bO_ Try.f60))) [0,5] (PostF.block 2 (PostF.thenA (wpC Try.prog tab D60 (cAt [1,1,1,1,1] (bO_ Try.f60))) (retF tab [.tmp 4] K))) [6] [v0,Q_,Q_,Q_,Q_,v5,v6,Q_,Q_,Q_,Q_,Q_,Q_,Q_,Q_,Q_,Q_,Q_,Q_,Q_,Q_,Q_,Q_,Q_,Q_,Q_,Q_,Q_,Q_,Q_,Q_,Q_,Q_,Q_,Q_,Q_,Q_,Q_,Q_,Q_,Q_,Q_,Q_,Q_,Q_,Q_,Q_,Q_,Q_,Q_,Q_,Q_,Q_,Q_,Q_,Q_,Q_,Q_,Q_,Q_,Q_,Q_,Q_,Q_] H
def L60_2 (K:AV→Heap→Prop) (N1:AV→Heap→Prop) (v0:AV) (v5:AV) (v6:AV) (v37:AV) (v38:AV) (v39:AV) (H:Heap):Prop:=LoopV (wpC Try.prog tab D60 (cAt [1,1,1,1,0,0,0,1,0,0,1,0,0] (bO_ Try.f60))) [0,5,37,38] (PostF.block 4 (PostF.block 3 (PostF.thenA (wpC Try.prog tab D60 (cAt [1,1,1,1,0,0,0,1,1] (bO_ Try.f60))) (loopF (PostF.block 2 (PostF.thenA (wpC Try.prog tab D60 (cAt [1,1,1,1,1] (bO_ Try.f60))) (retF tab [.tmp 4] K))) (fun e h=>N1 (e 6) h))))) [6,39] [v0,Q_,Q_,Q_,Q_,v5,v6,Q_,Q_,Q_,Q_,Q_,Q_,Q_,Q_,Q_,Q_,Q_,Q_,Q_,Q_,Q_,Q_,Q_,Q_,Q_,Q_,Q_,Q_,Q_,Q_,Q_,Q_,Q_,Q_,Q_,Q_,v37,v38,v39,Q_,Q_,Q_,Q_,Q_,Q_,Q_,Q_,Q_,Q_,Q_,Q_,Q_,Q_,Q_,Q_,Q_,Q_,Q_,Q_,Q_,Q_,Q_,Q_] H
def B60_2 (K:AV→Heap→Prop) (N1:AV→Heap→Prop) (N2:AV→AV→Heap→Prop) (v0:AV) (v5:AV) (v6:AV) (v37:AV) (v38:AV) (v39:AV) (H:Heap):Prop:=
 binV tab .lss 3 v39 v38 fun v40=>
 cV_ v40 (iA_ tab 24 v37 v39 fun v41=>
 lV_ tab 3 v41 H fun v42=>
 iA_ tab 24 v5 v42 fun v45=>
 lV_ tab 3 v45 H fun v46=>
 binV tab .lss 3 v46 (AV.p (.int .i64 0)) fun v47=>
 cV_ v47 (iA_ tab 24 v6 (AV.p (.int .i64 0)) fun v52=>
 lV_ tab 3 v52 H fun v53=>
 iA_ tab 24 v5 v53 fun v54=>
 lV_ tab 3 v54 H fun v55=>
 binV tab .add 3 v55 (AV.p (.int .i64 1)) fun v56=>
 iA_ tab 24 v5 v42 fun v57=>
 sV_ tab 3 v57 v56 H fun H5=>
 bS_ tab 24 1 [(0,v42)] H5 (wkK fun v60 H6=>
 aP_ tab 24 24 v6 v60 H6 (wkK fun v61 H7=>
 binV tab .add 3 v39 (AV.p (.int .i64 1)) fun v62=>
 N2 v61 v62 H7)))
 (binV tab .add 3 v39 (AV.p (.int .i64 1)) fun v62=>
 N2 v6 v62 H))
 (sliceV tab 24 v6 (some (AV.p (.int .i64 1))) none none fun v31=>
 N1 v31 H)
def B60_1 (K:AV→Heap→Prop) (N1:AV→Heap→Prop) (v0:AV) (v5:AV) (v6:AV) (H:Heap):Prop:=
 lenV tab 24 v6 fun v28=>
 binV tab .gtr 3 v28 (AV.p (.int .i64 0)) fun v29=>
 cV_ v29 (iA_ tab 24 v6 (AV.p (.int .i64 0)) fun v34=>
 lV_ tab 3 v34 H fun v35=>
 iA_ tab 26 v0 v35 fun v36=>
 lV_ tab 24 v36 H fun v37=>
 lenV tab 24 v37 fun v38=>
 L60_2 K N1 v0 v5 v6 v37 v38 (AV.p (.int .i64 0)) H)
 (K v5 H)
def B60_0 (K:AV→Heap→Prop) (N1:AV→Heap→Prop) (v0:AV) (v5:AV) (v6:AV) (v17:AV) (v18:AV) (v19:AV) (H:Heap):Prop:=
 binV tab .lss 3 v19 v18 fun v20=>
 cV_ v20 (iA_ tab 24 v17 v19 fun v21=>
 lV_ tab 3 v21 H fun v22=>
 iA_ tab 24 v5 v22 fun v25=>
 sV_ tab 3 v25 (AV.p (.int .i64 0)) H fun H4=>
 binV tab .add 3 v19 (AV.p (.int .i64 1)) fun v26=>
 N1 v26 H4)
 (L60_1 K v0 v5 v6 H)
def W60 (v0:AV) (v1:AV) (H:Heap) (K:AV→Heap→Prop):Prop:=
 bS_ tab 24 1 [(0,(AV.p (.int .i64 (-1))))] H (wkK fun v11 H1=>
 lenV tab 26 v0 fun v13=>
 CallT Try.prog 78 [v11,v13] H1 fun v14 H2=>
 CallT Try.prog 79 [v1] H2 fun v16 H3=>
 lenV tab 24 v1 fun v18=>
 L60_0 K v0 v14 v16 v1 v18 (AV.p (.int .i64 0)) H3)
theorem W60_wp (v0:AV) (v1:AV) (H:Heap) (K:AV→Heap→Prop):wpC Try.prog tab D60 (bO_ Try.f60) (retF tab [.tmp 4] K) (nthA [v0,v1]) H=W60 v0 v1 H K:=by kernel_rfl
theorem W60_ok {v0 v1:AV} {H:Heap} {K:AV→Heap→Prop} (h:W60 v0 v1 H K):CallT Try.prog 60 [v0,v1] H K:=
 CallT.of_wp (D:=D60) tO_ mixed Try.func60 (c:=bO_ Try.f60) (by kernel_rfl) rfl (by kernel_rfl) (rs:=#[.tmp 4]) rfl (by decide +kernel) (by kernel_rfl) (W60_wp v0 v1 H K) h
theorem L60_2_rule {K:AV→Heap→Prop} {N1:AV→Heap→Prop} {v0 v5 v6 v37 v38 v39:AV} {H:Heap} {σ:Type} (s0:σ) (f6:σ→AV) (f39:σ→AV) (TH:σ→Heap) (pre:σ→Prop) (μ:σ→Nat)
  (h0:pre s0∧AV.wk v6 (f6 s0)∧AV.wk v39 (f39 s0)∧Heap.le (TH s0) H)
  (round:∀s,pre s→B60_2 K N1 (fun w6 w39 H'=>∃s',pre s'∧μ s' < μ s∧AV.wk w6 (f6 s')∧AV.wk w39 (f39 s')∧Heap.le (TH s') H') v0 v5 (f6 s) v37 v38 (f39 s) (TH s)) :
  L60_2 K N1 v0 v5 v6 v37 v38 v39 H:=by
 unfold L60_2
 exact LoopV.mk s0 (fun s=>[f6 s,f39 s]) TH pre μ (fun _=>rfl) (Eq.mp (by kernel_rfl) h0) (fun s hs=>Eq.mp (by kernel_rfl) (round s hs))
theorem L60_1_rule {K:AV→Heap→Prop} {v0 v5 v6:AV} {H:Heap} {σ:Type} (s0:σ) (f6:σ→AV) (TH:σ→Heap) (pre:σ→Prop) (μ:σ→Nat)
  (h0:pre s0∧AV.wk v6 (f6 s0)∧Heap.le (TH s0) H)
  (round:∀s,pre s→B60_1 K (fun w6 H'=>∃s',pre s'∧μ s' < μ s∧AV.wk w6 (f6 s')∧Heap.le (TH s') H') v0 v5 (f6 s) (TH s)) :
  L60_1 K v0 v5 v6 H:=by
 unfold L60_1
 exact LoopV.mk s0 (fun s=>[f6 s]) TH pre μ (fun _=>rfl) (Eq.mp (by kernel_rfl) h0) (fun s hs=>Eq.mp (by kernel_rfl) (round s hs))
theorem L60_0_rule {K:AV→Heap→Prop} {v0 v5 v6 v17 v18 v19:AV} {H:Heap} {σ:Type} (s0:σ) (f19:σ→AV) (TH:σ→Heap) (pre:σ→Prop) (μ:σ→Nat)
  (h0:pre s0∧AV.wk v19 (f19 s0)∧Heap.le (TH s0) H)
  (round:∀s,pre s→B60_0 K (fun w19 H'=>∃s',pre s'∧μ s' < μ s∧AV.wk w19 (f19 s')∧Heap.le (TH s') H') v0 v5 v6 v17 v18 (f19 s) (TH s)) :
  L60_0 K v0 v5 v6 v17 v18 v19 H:=by
 unfold L60_0
 exact LoopV.mk s0 (fun s=>[f19 s]) TH pre μ (fun _=>rfl) (Eq.mp (by kernel_rfl) h0) (fun s hs=>Eq.mp (by kernel_rfl) (round s hs))
def D61:Info:=⟨125,fun i=>if i=2 then ([[],[0],[],[2],[0,1],[0,1,2,3,4]],[(0,[]),(2,[]),(1,[3]),(4,[]),(3,[3]),(5,[])]) else if i=9 then ([[],[],[],[1,2],[1,2,3],[],[],[],[6,7],[6,7,8],[5,6,7,8,9],[5,6,7,8,9,10],[5,6,7,8,9,10,11],[5,6,7,8,9,10,11,12],[5,6,7,8,9,10,11,12],[5,6,7,8,9,10,11,12,13,14],[5,6,7,8,9,10,11,12,13,14,15],[5,6,7,8,9,10,11,12],[5,6,7,8,9,10,11,12],[5,6,7,8,9,10,11,12,17,18],[5,6,7,8,9,10,11,12,17,18,19],[5,6,7,8,9,10,11,12,13,14,15,16,17,18,19,20],[5,6,7,8,9,10,11,12,13,14,15,16,17,18,19,20,21],[0,1,2,3,4,5,6,7,8,9,10,11,12,13,14,15,16,17,18,19,20,21,22],[0,1,2,3,4,5,6,7,8,9,10,11,12,13,14,15,16,17,18,19,20,21,22,23]],[(0,[]),(1,[]),(2,[]),(3,[]),(4,[]),(5,[]),(6,[]),(7,[]),(8,[]),(9,[]),(10,[]),(11,[]),(12,[]),(13,[]),(14,[]),(15,[]),(16,[]),(17,[]),(18,[]),(19,[]),(20,[]),(21,[]),(22,[]),(23,[]),(24,[])]) else ([],[]),fun i=>if i=4 then ([1,5,6,7,8,28,29],[30]) else if i=7 then ([1,5,6,7,8,9,28,29,30,35,36],[37]) else if i=13 then ([5,6,7,8,67,68],[69]) else if i=17 then ([5,6,7,8,15,67,68,69,75,76],[77]) else if i=22 then ([5,6,7,8,15,67,68,69,89],[90]) else if i=28 then ([5,7,8,109],[110]) else ([],[])⟩
def L61_0 (K:AV→Heap→Prop) (v1:AV) (v5:AV) (v6:AV) (v7:AV) (v8:AV) (v28:AV) (v29:AV) (v30:AV) (H:Heap):Prop:=LoopV (wpC Try.prog tab D61 (cAt [1,1,1,0,1,0,0] (bO_ Try.f61))) [1,5,6,7,8,28,29] (PostF.block 0 (PostF.thenA (wpC Try.prog tab D61 (cAt [1,1,1,1] (bO_ Try.f61))) (retF tab [.tmp 4] K))) [30] [Q_,v1,Q_,Q_,Q_,v5,v6,v7,v8,Q_,Q_,Q_,Q_,Q_,Q_,Q_,Q_,Q_,Q_,Q_,Q_,Q_,Q_,Q_,Q_,Q_,Q_,Q_,v28,v29,v30,Q_,Q_,Q_,Q_,Q_,Q_,Q_,Q_,Q_,Q_,Q_,Q_,Q_,Q_,Q_,Q_,Q_,Q_,Q_,Q_,Q_,Q_,Q_,Q_,Q_,Q_,Q_,Q_,Q_,Q_,Q_,Q_,Q_,Q_,Q_,Q_,Q_,Q_,Q_,Q_,Q_,Q_,Q_,Q_,Q_,Q_,Q_,Q_,Q_,Q_,Q_,Q_,Q_,Q_,Q_,Q_,Q_,Q_,Q_,Q_,Q_,Q_,Q_,Q_,Q_,Q_,Q_,Q_,Q_,Q_,Q_,Q_,Q_,Q_,Q_,Q_,Q_,Q_,Q_,Q_,Q_,Q_,Q_,Q_,Q_,Q_,Q_,Q_,Q_,Q_,Q_,Q_,Q_,Q_] H
def L61_1 (K:AV→Heap→Prop) (N1:AV→Heap→Prop) (v1:AV) (v5:AV) (v6:AV) (v7:AV) (v8:AV) (v9:AV) (v28:AV) (v29:AV) (v30:AV) (v35:AV) (v36:AV) (v37:AV) (H:Heap):Prop:=LoopV (wpC Try.prog tab D61 (cAt [1,1,1,0,1,0,0,1,1,0,0,1,1,0,0] (bO_ Try.f61))) [1,5,6,7,8,9,28,29,30,35,36] (PostF.block 2 (PostF.block 1 (PostF.thenA (wpC Try.prog tab D61 (cAt [1,1,1,0,1,0,0,1,1,1] (bO_ Try.f61))) (loopF (PostF.block 0 (PostF.thenA (wpC Try.prog tab D61 (cAt [1,1,1,1] (bO_ Try.f61))) (retF tab [.tmp 4] K))) (fun e h=>N1 (e 30) h))))) [37] [Q_,v1,Q_,Q_,Q_,v5,v6,v7,v8,v9,Q_,Q_,Q_,Q_,Q_,Q_,Q_,Q_,Q_,Q_,Q_,Q_,Q_,Q_,Q_,Q_,Q_,Q_,v28,v29,v30,Q_,Q_,Q_,Q_,v35,v36,v37,Q_,Q_,Q_,Q_,Q_,Q_,Q_,Q_,Q_,Q_,Q_,Q_,Q_,Q_,Q_,Q_,Q_,Q_,Q_,Q_,Q_,Q_,Q_,Q_,Q_,Q_,Q_,Q_,Q_,Q_,Q_,Q_,Q_,Q_,Q_,Q_,Q_,Q_,Q_,Q_,Q_,Q_,Q_,Q_,Q_,Q_,Q_,Q_,Q_,Q_,Q_,Q_,Q_,Q_,Q_,Q_,Q_,Q_,Q_,Q_,Q_,Q_,Q_,Q_,Q_,Q_,Q_,Q_,Q_,Q_,Q_,Q_,Q_,Q_,Q_,Q_,Q_,Q_,Q_,Q_,Q_,Q_,Q_,Q_,Q_,Q_,Q_] H
def B61_1 (K:AV→Heap→Prop) (N1:AV→Heap→Prop) (N2:AV→Heap→Prop) (v1:AV) (v5:AV) (v6:AV) (v7:AV) (v8:AV) (v9:AV) (v28:AV) (v29:AV) (v30:AV) (v35:AV) (v36:AV) (v37:AV) (H:Heap):Prop:=
 binV tab .lss 3 v37 v36 fun v38=>
 cV_ v38 (iA_ tab 24 v35 v37 fun v39=>
 lV_ tab 3 v39 H fun v40=>
 iA_ tab 24 v5 v9 fun v44=>
 lV_ tab 3 v44 H fun v45=>
 iA_ tab 24 v5 v9 fun v49=>
 lV_ tab 3 v49 H fun v50=>
 iA_ tab 81 v7 v50 fun v51=>
 lV_ tab 4 v51 H fun v52=>
 grdV v52 false (iA_ tab 24 v5 v40 fun v56=>
 lV_ tab 3 v56 H fun v57=>
 iA_ tab 24 v5 v9 fun v60=>
 lV_ tab 3 v60 H fun v61=>
 binV tab .eql 3 v57 v61 fun v62=>
 iA_ tab 81 v7 v45 fun v64=>
 sV_ tab 4 v64 v62 H fun H4=>
 binV tab .add 3 v37 (AV.p (.int .i64 1)) fun v65=>
 N2 v65 H4)
 (iA_ tab 81 v7 v45 fun v64=>
 sV_ tab 4 v64 (AV.p (.bool true)) H fun H5=>
 binV tab .add 3 v37 (AV.p (.int .i64 1)) fun v65=>
 N2 v65 H5))
 (binV tab .add 3 v30 (AV.p (.int .i64 1)) fun v66=>
 N1 v66 H)
def L61_2 (K:AV→Heap→Prop) (v5:AV) (v6:AV) (v7:AV) (v8:AV) (v67:AV) (v68:AV) (v69:AV) (H:Heap):Prop:=LoopV (wpC Try.prog tab D61 (cAt [1,1,1,1,0,1,0,0] (bO_ Try.f61))) [5,6,7,8,67,68] (PostF.block 4 (PostF.thenA (wpC Try.prog tab D61 (cAt [1,1,1,1,1] (bO_ Try.f61))) (retF tab [.tmp 4] K))) [69] [Q_,Q_,Q_,Q_,Q_,v5,v6,v7,v8,Q_,Q_,Q_,Q_,Q_,Q_,Q_,Q_,Q_,Q_,Q_,Q_,Q_,Q_,Q_,Q_,Q_,Q_,Q_,Q_,Q_,Q_,Q_,Q_,Q_,Q_,Q_,Q_,Q_,Q_,Q_,Q_,Q_,Q_,Q_,Q_,Q_,Q_,Q_,Q_,Q_,Q_,Q_,Q_,Q_,Q_,Q_,Q_,Q_,Q_,Q_,Q_,Q_,Q_,Q_,Q_,Q_,Q_,v67,v68,v69,Q_,Q_,Q_,Q_,Q_,Q_,Q_,Q_,Q_,Q_,Q_,Q_,Q_,Q_,Q_,Q_,Q_,Q_,Q_,Q_,Q_,Q_,Q_,Q_,Q_,Q_,Q_,Q_,Q_,Q_,Q_,Q_,Q_,Q_,Q_,Q_,Q_,Q_,Q_,Q_,Q_,Q_,Q_,Q_,Q_,Q_,Q_,Q_,Q_,Q_,Q_,Q_,Q_,Q_,Q_] H
def L61_3 (K:AV→Heap→Prop) (N1:AV→Heap→Prop) (v5:AV) (v6:AV) (v7:AV) (v8:AV) (v15:AV) (v67:AV) (v68:AV) (v69:AV) (v75:AV) (v76:AV) (v77:AV) (H:Heap):Prop:=LoopV (wpC Try.prog tab D61 (cAt [1,1,1,1,0,1,0,0,1,1,0,0,1,1,0,1,0,0] (bO_ Try.f61))) [5,6,7,8,15,67,68,69,75,76] (PostF.block 6 (PostF.thenA (wpC Try.prog tab D61 (cAt [1,1,1,1,0,1,0,0,1,1,0,0,1,1,1] (bO_ Try.f61))) (PostF.block 5 (PostF.thenA (wpC Try.prog tab D61 (cAt [1,1,1,1,0,1,0,0,1,1,1] (bO_ Try.f61))) (loopF (PostF.block 4 (PostF.thenA (wpC Try.prog tab D61 (cAt [1,1,1,1,1] (bO_ Try.f61))) (retF tab [.tmp 4] K))) (fun e h=>N1 (e 69) h)))))) [77] [Q_,Q_,Q_,Q_,Q_,v5,v6,v7,v8,Q_,Q_,Q_,Q_,Q_,Q_,v15,Q_,Q_,Q_,Q_,Q_,Q_,Q_,Q_,Q_,Q_,Q_,Q_,Q_,Q_,Q_,Q_,Q_,Q_,Q_,Q_,Q_,Q_,Q_,Q_,Q_,Q_,Q_,Q_,Q_,Q_,Q_,Q_,Q_,Q_,Q_,Q_,Q_,Q_,Q_,Q_,Q_,Q_,Q_,Q_,Q_,Q_,Q_,Q_,Q_,Q_,Q_,v67,v68,v69,Q_,Q_,Q_,Q_,Q_,v75,v76,v77,Q_,Q_,Q_,Q_,Q_,Q_,Q_,Q_,Q_,Q_,Q_,Q_,Q_,Q_,Q_,Q_,Q_,Q_,Q_,Q_,Q_,Q_,Q_,Q_,Q_,Q_,Q_,Q_,Q_,Q_,Q_,Q_,Q_,Q_,Q_,Q_,Q_,Q_,Q_,Q_,Q_,Q_,Q_,Q_,Q_,Q_,Q_] H
def L61_4 (K:AV→Heap→Prop) (N1:AV→Heap→Prop) (v5:AV) (v6:AV) (v7:AV) (v8:AV) (v15:AV) (v67:AV) (v68:AV) (v69:AV) (v89:AV) (v90:AV) (H:Heap):Prop:=LoopV (wpC Try.prog tab D61 (cAt [1,1,1,1,0,1,0,0,1,1,0,0,1,1,1,1,0,0] (bO_ Try.f61))) [5,6,7,8,15,67,68,69,89] (PostF.block 8 (PostF.block 5 (PostF.thenA (wpC Try.prog tab D61 (cAt [1,1,1,1,0,1,0,0,1,1,1] (bO_ Try.f61))) (loopF (PostF.block 4 (PostF.thenA (wpC Try.prog tab D61 (cAt [1,1,1,1,1] (bO_ Try.f61))) (retF tab [.tmp 4] K))) (fun e h=>N1 (e 69) h))))) [90] [Q_,Q_,Q_,Q_,Q_,v5,v6,v7,v8,Q_,Q_,Q_,Q_,Q_,Q_,v15,Q_,Q_,Q_,Q_,Q_,Q_,Q_,Q_,Q_,Q_,Q_,Q_,Q_,Q_,Q_,Q_,Q_,Q_,Q_,Q_,Q_,Q_,Q_,Q_,Q_,Q_,Q_,Q_,Q_,Q_,Q_,Q_,Q_,Q_,Q_,Q_,Q_,Q_,Q_,Q_,Q_,Q_,Q_,Q_,Q_,Q_,Q_,Q_,Q_,Q_,Q_,v67,v68,v69,Q_,Q_,Q_,Q_,Q_,Q_,Q_,Q_,Q_,Q_,Q_,Q_,Q_,Q_,Q_,Q_,Q_,Q_,Q_,v89,v90,Q_,Q_,Q_,Q_,Q_,Q_,Q_,Q_,Q_,Q_,Q_,Q_,Q_,Q_,Q_,Q_,Q_,Q_,Q_,Q_,Q_,Q_,Q_,Q_,Q_,Q_,Q_,Q_,Q_,Q_,Q_,Q_,Q_,Q_] H
def B61_4 (K:AV→Heap→Prop) (N1:AV→Heap→Prop) (N2:AV→Heap→Prop) (v5:AV) (v6:AV) (v7:AV) (v8:AV) (v15:AV) (v67:AV) (v68:AV) (v69:AV) (v89:AV) (v90:AV) (H:Heap):Prop:=
 binV tab .lss 3 v90 v89 fun v91=>
 cV_ v91 (iA_ tab 81 v7 v90 fun v97=>
 lV_ tab 4 v97 H fun v98=>
 grdV v98 true (iA_ tab 81 v15 v90 fun v102=>
 lV_ tab 4 v102 H fun v103=>
 iA_ tab 81 v7 v90 fun v105=>
 sV_ tab 4 v105 v103 H fun H8=>
 binV tab .add 3 v90 (AV.p (.int .i64 1)) fun v106=>
 N2 v106 H8)
 (iA_ tab 81 v7 v90 fun v105=>
 sV_ tab 4 v105 (AV.p (.bool false)) H fun H9=>
 binV tab .add 3 v90 (AV.p (.int .i64 1)) fun v106=>
 N2 v106 H9))
 (binV tab .add 3 v69 (AV.p (.int .i64 1)) fun v107=>
 N1 v107 H)
def B61_3 (K:AV→Heap→Prop) (N1:AV→Heap→Prop) (N2:AV→Heap→Prop) (v5:AV) (v6:AV) (v7:AV) (v8:AV) (v15:AV) (v67:AV) (v68:AV) (v69:AV) (v75:AV) (v76:AV) (v77:AV) (H:Heap):Prop:=
 binV tab .lss 3 v77 v76 fun v78=>
 cV_ v78 (iA_ tab 24 v75 v77 fun v79=>
 lV_ tab 3 v79 H fun v80=>
 iA_ tab 24 v5 v80 fun v84=>
 lV_ tab 3 v84 H fun v85=>
 iA_ tab 81 v15 v85 fun v86=>
 sV_ tab 4 v86 (AV.p (.bool true)) H fun H7=>
 binV tab .add 3 v77 (AV.p (.int .i64 1)) fun v87=>
 N2 v87 H7)
 (lenV tab 81 v7 fun v89=>
 L61_4 K N1 v5 v6 v7 v8 v15 v67 v68 v69 v89 (AV.p (.int .i64 0)) H)
def L61_5 (K:AV→Heap→Prop) (v5:AV) (v7:AV) (v8:AV) (v109:AV) (v110:AV) (H:Heap):Prop:=LoopV (wpC Try.prog tab D61 (cAt [1,1,1,1,1,0,1,0,0] (bO_ Try.f61))) [5,7,8,109] (PostF.block 10 (PostF.thenA (wpC Try.prog tab D61 (cAt [1,1,1,1,1,1] (bO_ Try.f61))) (retF tab [.tmp 4] K))) [110] [Q_,Q_,Q_,Q_,Q_,v5,Q_,v7,v8,Q_,Q_,Q_,Q_,Q_,Q_,Q_,Q_,Q_,Q_,Q_,Q_,Q_,Q_,Q_,Q_,Q_,Q_,Q_,Q_,Q_,Q_,Q_,Q_,Q_,Q_,Q_,Q_,Q_,Q_,Q_,Q_,Q_,Q_,Q_,Q_,Q_,Q_,Q_,Q_,Q_,Q_,Q_,Q_,Q_,Q_,Q_,Q_,Q_,Q_,Q_,Q_,Q_,Q_,Q_,Q_,Q_,Q_,Q_,Q_,Q_,Q_,Q_,Q_,Q_,Q_,Q_,Q_,Q_,Q_,Q_,Q_,Q_,Q_,Q_,Q_,Q_,Q_,Q_,Q_,Q_,Q_,Q_,Q_,Q_,Q_,Q_,Q_,Q_,Q_,Q_,Q_,Q_,Q_,Q_,Q_,Q_,Q_,Q_,Q_,v109,v110,Q_,Q_,Q_,Q_,Q_,Q_,Q_,Q_,Q_,Q_,Q_,Q_,Q_,Q_] H
def B61_5 (K:AV→Heap→Prop) (N1:AV→Heap→Prop) (v5:AV) (v7:AV) (v8:AV) (v109:AV) (v110:AV) (H:Heap):Prop:=
 binV tab .lss 3 v110 v109 fun v111=>
 cV_ v111 (iA_ tab 24 v5 v110 fun v118=>
 lV_ tab 3 v118 H fun v119=>
 iA_ tab 81 v7 v119 fun v120=>
 lV_ tab 4 v120 H fun v121=>
 iA_ tab 81 v8 v110 fun v122=>
 sV_ tab 4 v122 v121 H fun H10=>
 binV tab .add 3 v110 (AV.p (.int .i64 1)) fun v123=>
 N1 v123 H10)
 (K v8 H)
def B61_2 (K:AV→Heap→Prop) (N1:AV→Heap→Prop) (v5:AV) (v6:AV) (v7:AV) (v8:AV) (v67:AV) (v68:AV) (v69:AV) (H:Heap):Prop:=
 binV tab .lss 3 v69 v68 fun v70=>
 cV_ v70 (iA_ tab 26 v67 v69 fun v71=>
 lV_ tab 24 v71 H fun v72=>
 mS_ tab 81 v6 v6 H fun v74 H6=>
 lenV tab 24 v72 fun v76=>
 L61_3 K N1 v5 v6 v7 v8 v74 v67 v68 v69 v72 v76 (AV.p (.int .i64 0)) H6)
 (lenV tab 81 v8 fun v109=>
 L61_5 K v5 v7 v8 v109 (AV.p (.int .i64 0)) H)
def B61_0 (K:AV→Heap→Prop) (N1:AV→Heap→Prop) (v1:AV) (v5:AV) (v6:AV) (v7:AV) (v8:AV) (v28:AV) (v29:AV) (v30:AV) (H:Heap):Prop:=
 binV tab .lss 3 v30 v29 fun v31=>
 cV_ v31 (iA_ tab 26 v28 v30 fun v33=>
 lV_ tab 24 v33 H fun v34=>
 lenV tab 24 v34 fun v36=>
 L61_1 K N1 v1 v5 v6 v7 v8 v30 v28 v29 v30 v34 v36 (AV.p (.int .i64 0)) H)
 (lenV tab 26 v1 fun v68=>
 L61_2 K v5 v6 v7 v8 v1 v68 (AV.p (.int .i64 0)) H)
def W61 (v0:AV) (v1:AV) (H:Heap) (K:AV→Heap→Prop):Prop:=
 CallT Try.prog 80 [v0] H fun v21 H1=>
 lenV tab 26 v0 fun v23=>
 safeV (makeN tab 81 v23 v23)∧
 mS_ tab 81 v23 v23 H1 fun v25 H2=>
 newV (makeN tab 81 v23 v23) H2 fun v27 H3=>
 lenV tab 26 v0 fun v29=>
 L61_0 K v1 v21 v23 v25 v27 v0 v29 (AV.p (.int .i64 0)) H3
theorem W61_wp (v0:AV) (v1:AV) (H:Heap) (K:AV→Heap→Prop):wpC Try.prog tab D61 (bO_ Try.f61) (retF tab [.tmp 4] K) (nthA [v0,v1]) H=W61 v0 v1 H K:=by kernel_rfl
theorem W61_ok {v0 v1:AV} {H:Heap} {K:AV→Heap→Prop} (h:W61 v0 v1 H K):CallT Try.prog 61 [v0,v1] H K:=
 CallT.of_wp (D:=D61) tO_ mixed Try.func61 (c:=bO_ Try.f61) (by kernel_rfl) rfl (by kernel_rfl) (rs:=#[.tmp 4]) rfl (by decide +kernel) (by kernel_rfl) (W61_wp v0 v1 H K) h
theorem L61_1_rule {K:AV→Heap→Prop} {N1:AV→Heap→Prop} {v1 v5 v6 v7 v8 v9 v28 v29 v30 v35 v36 v37:AV} {H:Heap} {σ:Type} (s0:σ) (f37:σ→AV) (TH:σ→Heap) (pre:σ→Prop) (μ:σ→Nat)
  (h0:pre s0∧AV.wk v37 (f37 s0)∧Heap.le (TH s0) H)
  (round:∀s,pre s→B61_1 K N1 (fun w37 H'=>∃s',pre s'∧μ s' < μ s∧AV.wk w37 (f37 s')∧Heap.le (TH s') H') v1 v5 v6 v7 v8 v9 v28 v29 v30 v35 v36 (f37 s) (TH s)) :
  L61_1 K N1 v1 v5 v6 v7 v8 v9 v28 v29 v30 v35 v36 v37 H:=by
 unfold L61_1
 exact LoopV.mk s0 (fun s=>[f37 s]) TH pre μ (fun _=>rfl) (Eq.mp (by kernel_rfl) h0) (fun s hs=>Eq.mp (by kernel_rfl) (round s hs))
theorem L61_4_rule {K:AV→Heap→Prop} {N1:AV→Heap→Prop} {v5 v6 v7 v8 v15 v67 v68 v69 v89 v90:AV} {H:Heap} {σ:Type} (s0:σ) (f90:σ→AV) (TH:σ→Heap) (pre:σ→Prop) (μ:σ→Nat)
  (h0:pre s0∧AV.wk v90 (f90 s0)∧Heap.le (TH s0) H)
  (round:∀s,pre s→B61_4 K N1 (fun w90 H'=>∃s',pre s'∧μ s' < μ s∧AV.wk w90 (f90 s')∧Heap.le (TH s') H') v5 v6 v7 v8 v15 v67 v68 v69 v89 (f90 s) (TH s)) :
  L61_4 K N1 v5 v6 v7 v8 v15 v67 v68 v69 v89 v90 H:=by
 unfold L61_4
 exact LoopV.mk s0 (fun s=>[f90 s]) TH pre μ (fun _=>rfl) (Eq.mp (by kernel_rfl) h0) (fun s hs=>Eq.mp (by kernel_rfl) (round s hs))
theorem L61_3_rule {K:AV→Heap→Prop} {N1:AV→Heap→Prop} {v5 v6 v7 v8 v15 v67 v68 v69 v75 v76 v77:AV} {H:Heap} {σ:Type} (s0:σ) (f77:σ→AV) (TH:σ→Heap) (pre:σ→Prop) (μ:σ→Nat)
  (h0:pre s0∧AV.wk v77 (f77 s0)∧Heap.le (TH s0) H)
  (round:∀s,pre s→B61_3 K N1 (fun w77 H'=>∃s',pre s'∧μ s' < μ s∧AV.wk w77 (f77 s')∧Heap.le (TH s') H') v5 v6 v7 v8 v15 v67 v68 v69 v75 v76 (f77 s) (TH s)) :
  L61_3 K N1 v5 v6 v7 v8 v15 v67 v68 v69 v75 v76 v77 H:=by
 unfold L61_3
 exact LoopV.mk s0 (fun s=>[f77 s]) TH pre μ (fun _=>rfl) (Eq.mp (by kernel_rfl) h0) (fun s hs=>Eq.mp (by kernel_rfl) (round s hs))
theorem L61_5_rule {K:AV→Heap→Prop} {v5 v7 v8 v109 v110:AV} {H:Heap} {σ:Type} (s0:σ) (f110:σ→AV) (TH:σ→Heap) (pre:σ→Prop) (μ:σ→Nat)
  (h0:pre s0∧AV.wk v110 (f110 s0)∧Heap.le (TH s0) H)
  (round:∀s,pre s→B61_5 K (fun w110 H'=>∃s',pre s'∧μ s' < μ s∧AV.wk w110 (f110 s')∧Heap.le (TH s') H') v5 v7 v8 v109 (f110 s) (TH s)) :
  L61_5 K v5 v7 v8 v109 v110 H:=by
 unfold L61_5
 exact LoopV.mk s0 (fun s=>[f110 s]) TH pre μ (fun _=>rfl) (Eq.mp (by kernel_rfl) h0) (fun s hs=>Eq.mp (by kernel_rfl) (round s hs))
theorem L61_2_rule {K:AV→Heap→Prop} {v5 v6 v7 v8 v67 v68 v69:AV} {H:Heap} {σ:Type} (s0:σ) (f69:σ→AV) (TH:σ→Heap) (pre:σ→Prop) (μ:σ→Nat)
  (h0:pre s0∧AV.wk v69 (f69 s0)∧Heap.le (TH s0) H)
  (round:∀s,pre s→B61_2 K (fun w69 H'=>∃s',pre s'∧μ s' < μ s∧AV.wk w69 (f69 s')∧Heap.le (TH s') H') v5 v6 v7 v8 v67 v68 (f69 s) (TH s)) :
  L61_2 K v5 v6 v7 v8 v67 v68 v69 H:=by
 unfold L61_2
 exact LoopV.mk s0 (fun s=>[f69 s]) TH pre μ (fun _=>rfl) (Eq.mp (by kernel_rfl) h0) (fun s hs=>Eq.mp (by kernel_rfl) (round s hs))
theorem L61_0_rule {K:AV→Heap→Prop} {v1 v5 v6 v7 v8 v28 v29 v30:AV} {H:Heap} {σ:Type} (s0:σ) (f30:σ→AV) (TH:σ→Heap) (pre:σ→Prop) (μ:σ→Nat)
  (h0:pre s0∧AV.wk v30 (f30 s0)∧Heap.le (TH s0) H)
  (round:∀s,pre s→B61_0 K (fun w30 H'=>∃s',pre s'∧μ s' < μ s∧AV.wk w30 (f30 s')∧Heap.le (TH s') H') v1 v5 v6 v7 v8 v28 v29 (f30 s) (TH s)) :
  L61_0 K v1 v5 v6 v7 v8 v28 v29 v30 H:=by
 unfold L61_0
 exact LoopV.mk s0 (fun s=>[f30 s]) TH pre μ (fun _=>rfl) (Eq.mp (by kernel_rfl) h0) (fun s hs=>Eq.mp (by kernel_rfl) (round s hs))
def D63:Info:=⟨21,fun i=>([],[]),fun i=>if i=3 then ([5,10,11],[12]) else ([],[])⟩
def L63_0 (K:AV→Heap→Prop) (v5:AV) (v10:AV) (v11:AV) (v12:AV) (H:Heap):Prop:=LoopV (wpC Try.prog tab D63 (cAt [1,1,0,1,0,0] (bO_ Try.f63))) [5,10,11] (PostF.block 0 (PostF.thenA (wpC Try.prog tab D63 (cAt [1,1,1] (bO_ Try.f63))) (retF tab [.tmp 4] K))) [12] [Q_,Q_,Q_,Q_,Q_,v5,Q_,Q_,Q_,Q_,v10,v11,v12,Q_,Q_,Q_,Q_,Q_,Q_,Q_,Q_] H
def B63_0 (K:AV→Heap→Prop) (N1:AV→Heap→Prop) (v5:AV) (v10:AV) (v11:AV) (v12:AV) (H:Heap):Prop:=
 binV tab .lss 3 v12 v11 fun v13=>
 cV_ v13 (iA_ tab 24 v10 v12 fun v14=>
 lV_ tab 3 v14 H fun v15=>
 iA_ tab 81 v5 v15 fun v18=>
 sV_ tab 4 v18 (AV.p (.bool true)) H fun H2=>
 binV tab .add 3 v12 (AV.p (.int .i64 1)) fun v19=>
 N1 v19 H2)
 (K v5 H)
def W63 (v0:AV) (v1:AV) (H:Heap) (K:AV→Heap→Prop):Prop:=
 mS_ tab 81 v0 v0 H fun v9 H1=>
 lenV tab 24 v1 fun v11=>
 L63_0 K v9 v1 v11 (AV.p (.int .i64 0)) H1
theorem W63_wp (v0:AV) (v1:AV) (H:Heap) (K:AV→Heap→Prop):wpC Try.prog tab D63 (bO_ Try.f63) (retF tab [.tmp 4] K) (nthA [v0,v1]) H=W63 v0 v1 H K:=by kernel_rfl
theorem W63_ok {v0 v1:AV} {H:Heap} {K:AV→Heap→Prop} (h:W63 v0 v1 H K):CallT Try.prog 63 [v0,v1] H K:=
 CallT.of_wp (D:=D63) tO_ mixed Try.func63 (c:=bO_ Try.f63) (by kernel_rfl) rfl (by kernel_rfl) (rs:=#[.tmp 4]) rfl (by decide +kernel) (by kernel_rfl) (W63_wp v0 v1 H K) h
theorem L63_0_rule {K:AV→Heap→Prop} {v5 v10 v11 v12:AV} {H:Heap} {σ:Type} (s0:σ) (f12:σ→AV) (TH:σ→Heap) (pre:σ→Prop) (μ:σ→Nat)
  (h0:pre s0∧AV.wk v12 (f12 s0)∧Heap.le (TH s0) H)
  (round:∀s,pre s→B63_0 K (fun w12 H'=>∃s',pre s'∧μ s' < μ s∧AV.wk w12 (f12 s')∧Heap.le (TH s') H') v5 v10 v11 (f12 s) (TH s)) :
  L63_0 K v5 v10 v11 v12 H:=by
 unfold L63_0
 exact LoopV.mk s0 (fun s=>[f12 s]) TH pre μ (fun _=>rfl) (Eq.mp (by kernel_rfl) h0) (fun s hs=>Eq.mp (by kernel_rfl) (round s hs))
def D64:Info:=⟨20,fun i=>([],[]),fun i=>if i=3 then ([6,7],[3,8]) else ([],[])⟩
def L64_0 (K:AV→Heap→Prop) (v3:AV) (v6:AV) (v7:AV) (v8:AV) (H:Heap):Prop:=LoopV (wpC Try.prog tab D64 (cAt [1,1,0,1,0,0] (bO_ Try.f64))) [6,7] (PostF.block 0 (PostF.thenA (wpC Try.prog tab D64 (cAt [1,1,1] (bO_ Try.f64))) (retF tab [.tmp 2] K))) [3,8] [Q_,Q_,Q_,v3,Q_,Q_,v6,v7,v8,Q_,Q_,Q_,Q_,Q_,Q_,Q_,Q_,Q_,Q_,Q_] H
def B64_0 (K:AV→Heap→Prop) (N1:AV→AV→Heap→Prop) (v3:AV) (v6:AV) (v7:AV) (v8:AV) (H:Heap):Prop:=
 binV tab .lss 3 v8 v7 fun v9=>
 cV_ v9 (iA_ tab 81 v6 v8 fun v11=>
 lV_ tab 4 v11 H fun v12=>
 cV_ v12 (bS_ tab 24 1 [(0,v8)] H (wkK fun v16 H1=>
 aP_ tab 24 24 v3 v16 H1 (wkK fun v17 H2=>
 binV tab .add 3 v8 (AV.p (.int .i64 1)) fun v18=>
 N1 v17 v18 H2)))
 (binV tab .add 3 v8 (AV.p (.int .i64 1)) fun v18=>
 N1 v3 v18 H))
 (K v3 H)
def W64 (v0:AV) (H:Heap) (K:AV→Heap→Prop):Prop:=
 lenV tab 81 v0 fun v7=>
 L64_0 K (AV.p .nil) v0 v7 (AV.p (.int .i64 0)) H
theorem W64_wp (v0:AV) (H:Heap) (K:AV→Heap→Prop):wpC Try.prog tab D64 (bO_ Try.f64) (retF tab [.tmp 2] K) (nthA [v0]) H=W64 v0 H K:=by kernel_rfl
theorem W64_ok {v0:AV} {H:Heap} {K:AV→Heap→Prop} (h:W64 v0 H K):CallT Try.prog 64 [v0] H K:=
 CallT.of_wp (D:=D64) tO_ mixed Try.func64 (c:=bO_ Try.f64) (by kernel_rfl) rfl (by kernel_rfl) (rs:=#[.tmp 2]) rfl (by decide +kernel) (by kernel_rfl) (W64_wp v0 H K) h
theorem W64_hb:HasBody Try.prog 64:=⟨_,bO_ Try.f64,Try.func64,by kernel_rfl,rfl⟩
theorem L64_0_rule {K:AV→Heap→Prop} {v3 v6 v7 v8:AV} {H:Heap} {σ:Type} (s0:σ) (f3:σ→AV) (f8:σ→AV) (TH:σ→Heap) (pre:σ→Prop) (μ:σ→Nat)
  (h0:pre s0∧AV.wk v3 (f3 s0)∧AV.wk v8 (f8 s0)∧Heap.le (TH s0) H)
  (round:∀s,pre s→B64_0 K (fun w3 w8 H'=>∃s',pre s'∧μ s' < μ s∧AV.wk w3 (f3 s')∧AV.wk w8 (f8 s')∧Heap.le (TH s') H') (f3 s) v6 v7 (f8 s) (TH s)) :
  L64_0 K v3 v6 v7 v8 H:=by
 unfold L64_0
 exact LoopV.mk s0 (fun s=>[f3 s,f8 s]) TH pre μ (fun _=>rfl) (Eq.mp (by kernel_rfl) h0) (fun s hs=>Eq.mp (by kernel_rfl) (round s hs))
def D65:Info:=⟨9,fun i=>([],[]),fun i=>([],[])⟩
def W65 (v0:AV) (v1:AV) (H:Heap) (K:AV→Heap→Prop):Prop:=
 CallT Try.prog 83 [v0,v1] H fun v7 H1=>
 binV tab .geq 3 v7 (AV.p (.int .i64 0)) fun v8=>
 K v8 H1
theorem W65_wp (v0:AV) (v1:AV) (H:Heap) (K:AV→Heap→Prop):wpC Try.prog tab D65 (bO_ Try.f65) (retF tab [.tmp 4] K) (nthA [v0,v1]) H=W65 v0 v1 H K:=by kernel_rfl
theorem W65_ok {v0 v1:AV} {H:Heap} {K:AV→Heap→Prop} (h:W65 v0 v1 H K):CallT Try.prog 65 [v0,v1] H K:=
 CallT.of_wp (D:=D65) tO_ mixed Try.func65 (c:=bO_ Try.f65) (by kernel_rfl) rfl (by kernel_rfl) (rs:=#[.tmp 4]) rfl (by decide +kernel) (by kernel_rfl) (W65_wp v0 v1 H K) h
def D66:Info:=⟨8,fun i=>([],[]),fun i=>([],[])⟩
def W66 (v0:AV) (v1:AV) (H:Heap) (K:AV→Heap→Prop):Prop:=
 lV_ tab 3 v1 H fun v5=>
 CallT Try.prog 42 [v0,v5] H fun v6 H1=>
 unV .not v6 fun v7=>
 K v7 H1
theorem W66_wp (v0:AV) (v1:AV) (H:Heap) (K:AV→Heap→Prop):wpC Try.prog tab D66 (bO_ Try.f66) (retF tab [.tmp 3] K) (nthA [v0,v1]) H=W66 v0 v1 H K:=by kernel_rfl
theorem W66_ok {v0 v1:AV} {H:Heap} {K:AV→Heap→Prop} (h:W66 v0 v1 H K):CallT Try.prog 66 [v0,v1] H K:=
 CallT.of_wp (D:=D66) tO_ mixed Try.func66 (c:=bO_ Try.f66) (by kernel_rfl) rfl (by kernel_rfl) (rs:=#[.tmp 3]) rfl (by decide +kernel) (by kernel_rfl) (W66_wp v0 v1 H K) h
def D67:Info:=⟨18,fun i=>([],[]),fun i=>if i=3 then ([3,6,7],[8]) else ([],[])⟩
def L67_0 (K:AV→Heap→Prop) (v3:AV) (v6:AV) (v7:AV) (v8:AV) (H:Heap):Prop:=LoopV (wpC Try.prog tab D67 (cAt [1,1,0,1,0,0] (bO_ Try.f67))) [3,6,7] (PostF.block 0 (PostF.thenA (wpC Try.prog tab D67 (cAt [1,1,1] (bO_ Try.f67))) (retF tab [.tmp 2] K))) [8] [Q_,Q_,Q_,v3,Q_,Q_,v6,v7,v8,Q_,Q_,Q_,Q_,Q_,Q_,Q_,Q_,Q_] H
def B67_0 (K:AV→Heap→Prop) (N1:AV→Heap→Prop) (v3:AV) (v6:AV) (v7:AV) (v8:AV) (H:Heap):Prop:=
 binV tab .lss 3 v8 v7 fun v9=>
 cV_ v9 (iA_ tab 24 v6 v8 fun v10=>
 lV_ tab 3 v10 H fun v11=>
 binV tab .neq 3 v11 v3 fun v14=>
 cV_ v14 (K v11 H)
 (binV tab .add 3 v8 (AV.p (.int .i64 1)) fun v16=>
 N1 v16 H))
 (K v3 H)
def W67 (v0:AV) (H:Heap) (K:AV→Heap→Prop):Prop:=
 lenV tab 24 v0 fun v7=>
 L67_0 K (AV.p (.int .i64 0)) v0 v7 (AV.p (.int .i64 0)) H
theorem W67_wp (v0:AV) (H:Heap) (K:AV→Heap→Prop):wpC Try.prog tab D67 (bO_ Try.f67) (retF tab [.tmp 2] K) (nthA [v0]) H=W67 v0 H K:=by kernel_rfl
theorem W67_ok {v0:AV} {H:Heap} {K:AV→Heap→Prop} (h:W67 v0 H K):CallT Try.prog 67 [v0] H K:=
 CallT.of_wp (D:=D67) tO_ mixed Try.func67 (c:=bO_ Try.f67) (by kernel_rfl) rfl (by kernel_rfl) (rs:=#[.tmp 2]) rfl (by decide +kernel) (by kernel_rfl) (W67_wp v0 H K) h
theorem L67_0_rule {K:AV→Heap→Prop} {v3 v6 v7 v8:AV} {H:Heap} {σ:Type} (s0:σ) (f8:σ→AV) (TH:σ→Heap) (pre:σ→Prop) (μ:σ→Nat)
  (h0:pre s0∧AV.wk v8 (f8 s0)∧Heap.le (TH s0) H)
  (round:∀s,pre s→B67_0 K (fun w8 H'=>∃s',pre s'∧μ s' < μ s∧AV.wk w8 (f8 s')∧Heap.le (TH s') H') v3 v6 v7 (f8 s) (TH s)) :
  L67_0 K v3 v6 v7 v8 H:=by
 unfold L67_0
 exact LoopV.mk s0 (fun s=>[f8 s]) TH pre μ (fun _=>rfl) (Eq.mp (by kernel_rfl) h0) (fun s hs=>Eq.mp (by kernel_rfl) (round s hs))
def D68:Info:=⟨20,fun i=>([],[]),fun i=>([],[])⟩
def W68 (v0:AV) (v1:AV) (H:Heap) (K:AV→Heap→Prop):Prop:=
 CallT Try.prog 84 [v0] H fun v8 H1=>
 CallT Try.prog 84 [v1] H1 fun v10 H2=>
 cV_ v8 (cV_ v10 (K (AV.p (.int .i64 0)) H2)
 (K (AV.p (.int .i64 (-1))) H2))
 (cV_ v10 (K (AV.p (.int .i64 1)) H2)
 (binV tab .lss 3 v0 v1 fun v16=>
 cV_ v16 (K (AV.p (.int .i64 (-1))) H2)
 (binV tab .gtr 3 v0 v1 fun v19=>
 cV_ v19 (K (AV.p (.int .i64 1)) H2)
 (K (AV.p (.int .i64 0)) H2))))
theorem W68_wp (v0:AV) (v1:AV) (H:Heap) (K:AV→Heap→Prop):wpC Try.prog tab D68 (bO_ Try.f68) (retF tab [.tmp 4] K) (nthA [v0,v1]) H=W68 v0 v1 H K:=by kernel_rfl
theorem W68_ok {v0 v1:AV} {H:Heap} {K:AV→Heap→Prop} (h:W68 v0 v1 H K):CallT Try.prog 68 [v0,v1] H K:=
 CallT.of_wp (D:=D68) tO_ mixed Try.func68 (c:=bO_ Try.f68) (by kernel_rfl) rfl (by kernel_rfl) (rs:=#[.tmp 4]) rfl (by decide +kernel) (by kernel_rfl) (W68_wp v0 v1 H K) h
def D69:Info:=⟨35,fun i=>([],[]),fun i=>if i=2 then ([0,1,2,9,10],[11]) else ([],[])⟩
def L69_0 (K:AV→Heap→Prop) (v0:AV) (v1:AV) (v2:AV) (v9:AV) (v10:AV) (v11:AV) (H:Heap):Prop:=LoopV (wpC Try.prog tab D69 (cAt [1,0,1,0,0] (bO_ Try.f69))) [0,1,2,9,10] (PostF.block 0 (PostF.thenA (wpC Try.prog tab D69 (cAt [1,1] (bO_ Try.f69))) (retF tab [.tmp 6] K))) [11] [v0,v1,v2,Q_,Q_,Q_,Q_,Q_,Q_,v9,v10,v11,Q_,Q_,Q_,Q_,Q_,Q_,Q_,Q_,Q_,Q_,Q_,Q_,Q_,Q_,Q_,Q_,Q_,Q_,Q_,Q_,Q_,Q_,Q_] H
def B69_0 (K:AV→Heap→Prop) (N1:AV→Heap→Prop) (v0:AV) (v1:AV) (v2:AV) (v9:AV) (v10:AV) (v11:AV) (H:Heap):Prop:=
 binV tab .lss 3 v11 v10 fun v12=>
 cV_ v12 (iA_ tab 24 v9 v11 fun v14=>
 lV_ tab 3 v14 H fun v15=>
 CallT Try.prog 32 [v15,v1,v2] H fun v19 H1=>
 unV .not v19 fun v20=>
 grdV v20 false (binV tab .gtr 3 v11 (AV.p (.int .i64 0)) fun v23=>
 grdV v23 true (binV tab .sub 3 v11 (AV.p (.int .i64 1)) fun v27=>
 iA_ tab 24 v0 v27 fun v28=>
 lV_ tab 3 v28 H1 fun v29=>
 binV tab .geq 3 v29 v15 fun v31=>
 cV_ v31 (K (AV.p (.bool false)) H1)
 (binV tab .add 3 v11 (AV.p (.int .i64 1)) fun v34=>
 N1 v34 H1))
 (binV tab .add 3 v11 (AV.p (.int .i64 1)) fun v34=>
 N1 v34 H1))
 (K (AV.p (.bool false)) H1))
 (K (AV.p (.bool true)) H)
def W69 (v0:AV) (v1:AV) (v2:AV) (H:Heap) (K:AV→Heap→Prop):Prop:=
 lenV tab 24 v0 fun v10=>
 L69_0 K v0 v1 v2 v0 v10 (AV.p (.int .i64 0)) H
theorem W69_wp (v0:AV) (v1:AV) (v2:AV) (H:Heap) (K:AV→Heap→Prop):wpC Try.prog tab D69 (bO_ Try.f69) (retF tab [.tmp 6] K) (nthA [v0,v1,v2]) H=W69 v0 v1 v2 H K:=by kernel_rfl
theorem W69_ok {v0 v1 v2:AV} {H:Heap} {K:AV→Heap→Prop} (h:W69 v0 v1 v2 H K):CallT Try.prog 69 [v0,v1,v2] H K:=
 CallT.of_wp (D:=D69) tO_ mixed Try.func69 (c:=bO_ Try.f69) (by kernel_rfl) rfl (by kernel_rfl) (rs:=#[.tmp 6]) rfl (by decide +kernel) (by kernel_rfl) (W69_wp v0 v1 v2 H K) h
theorem L69_0_rule {K:AV→Heap→Prop} {v0 v1 v2 v9 v10 v11:AV} {H:Heap} {σ:Type} (s0:σ) (f11:σ→AV) (TH:σ→Heap) (pre:σ→Prop) (μ:σ→Nat)
  (h0:pre s0∧AV.wk v11 (f11 s0)∧Heap.le (TH s0) H)
  (round:∀s,pre s→B69_0 K (fun w11 H'=>∃s',pre s'∧μ s' < μ s∧AV.wk w11 (f11 s')∧Heap.le (TH s') H') v0 v1 v2 v9 v10 (f11 s) (TH s)) :
  L69_0 K v0 v1 v2 v9 v10 v11 H:=by
 unfold L69_0
 exact LoopV.mk s0 (fun s=>[f11 s]) TH pre μ (fun _=>rfl) (Eq.mp (by kernel_rfl) h0) (fun s hs=>Eq.mp (by kernel_rfl) (round s hs))
def D70:Info:=⟨62,fun i=>if i=2 then ([[],[0],[0,1],[0,1,2],[],[4],[4,5],[4,5,6],[4,5,6,7],[0,1,2,3,4,5,6,7,8]],[(0,[]),(1,[]),(2,[]),(3,[]),(4,[]),(5,[]),(6,[]),(7,[]),(8,[]),(9,[])]) else if i=3 then ([[],[0],[0,1],[0,1,2],[],[4],[4,5],[4,5,6],[0,1,2,3,4,5,6,7],[0,1,2,3,4,5,6,7,8],[0,1,2,3,4,5,6,7,8,9],[0,1,2,3,4,5,6,7,8,9,10]],[(0,[]),(1,[]),(2,[]),(3,[]),(4,[]),(5,[]),(6,[]),(7,[]),(8,[]),(9,[]),(10,[]),(11,[])]) else if i=6 then ([[],[0],[0,1],[0,1,2],[],[4],[4,5],[4,5,6],[4,5,6,7],[0,1,2,3,4,5,6,7,8]],[(0,[]),(1,[]),(2,[]),(3,[]),(4,[]),(5,[]),(6,[]),(7,[]),(8,[]),(9,[])]) else ([],[]),fun i=>([],[])⟩
def J70_0 (K:AV→Heap→Prop) (v0:AV) (v3:AV) (H:Heap):Prop:=
 nC_ v0 fun v26=>
 fA_ tab 56 v26 1 fun v27=>
 lV_ tab 3 v27 H fun v28=>
 binV tab .add 3 v28 (AV.p (.int .i64 1)) fun v29=>
 nC_ v0 fun v30=>
 fA_ tab 56 v30 1 fun v31=>
 sV_ tab 3 v31 v29 H fun H1=>
 nC_ v0 fun v34=>
 fA_ tab 56 v34 2 fun v35=>
 lV_ tab 54 v35 H1 fun v36=>
 binV tab .mul 54 v36 (AV.p (.int .u64 6364136223846793005)) fun v37=>
 convV tab 3 54 v3 fun v39=>
 binV tab .add 54 v37 v39 fun v40=>
 binV tab .add 54 v40 (AV.p (.int .u64 1442695040888963407)) fun v41=>
 nC_ v0 fun v42=>
 fA_ tab 56 v42 2 fun v43=>
 sV_ tab 54 v43 v41 H1 fun H2=>
 nC_ v0 fun v45=>
 fA_ tab 56 v45 1 fun v46=>
 lV_ tab 3 v46 H2 fun v47=>
 nC_ v0 fun v49=>
 fA_ tab 56 v49 0 fun v50=>
 lV_ tab 22 v50 H2 fun v51=>
 lenV tab 22 v51 fun v52=>
 binV tab .leq 3 v47 v52 fun v53=>
 cV_ v53 (K v3 H2)
 (nC_ v0 fun v56=>
 fA_ tab 56 v56 2 fun v57=>
 lV_ tab 54 v57 H2 fun v58=>
 binV tab .shr 54 v58 (AV.p (.int .u64 40)) fun v59=>
 binV tab .and 54 v59 (AV.p (.int .u64 255)) fun v60=>
 convV tab 54 3 v60 fun v61=>
 K v61 H2)
def W70 (v0:AV) (H:Heap) (K:AV→Heap→Prop):Prop:=
 nC_ v0 fun v5=>
 fA_ tab 56 v5 1 fun v6=>
 lV_ tab 3 v6 H fun v7=>
 nC_ v0 fun v9=>
 fA_ tab 56 v9 0 fun v10=>
 lV_ tab 22 v10 H fun v11=>
 lenV tab 22 v11 fun v12=>
 binV tab .lss 3 v7 v12 fun v13=>
 cV_ v13 (nC_ v0 fun v15=>
 fA_ tab 56 v15 0 fun v16=>
 lV_ tab 22 v16 H fun v17=>
 nC_ v0 fun v19=>
 fA_ tab 56 v19 1 fun v20=>
 lV_ tab 3 v20 H fun v21=>
 iA_ tab 22 v17 v21 fun v22=>
 lV_ tab 5 v22 H fun v23=>
 convV tab 5 3 v23 fun v24=>
 J70_0 K v0 v24 H)
 (J70_0 K v0 (AV.p (.int .i64 0)) H)
theorem W70_wp (v0:AV) (H:Heap) (K:AV→Heap→Prop):wpC Try.prog tab D70 (bO_ Try.f70) (retF tab [.tmp 2] K) (nthA [v0]) H=W70 v0 H K:=by kernel_rfl
theorem W70_ok {v0:AV} {H:Heap} {K:AV→Heap→Prop} (h:W70 v0 H K):CallT Try.prog 70 [v0] H K:=
 CallT.of_wp (D:=D70) tO_ mixed Try.func70 (c:=bO_ Try.f70) (by kernel_rfl) rfl (by kernel_rfl) (rs:=#[.tmp 2]) rfl (by decide +kernel) (by kernel_rfl) (W70_wp v0 H K) h
end Go.Proofs.Ytohkciilfkhomaa
