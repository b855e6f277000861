/- Texts laid together: W4 W5 W6 W7. -/
import Derived.Test.YtohkciilfkhomaaGreatPW3
import Derived.KernelRfl
set_option linter.unusedVariables false
set_option linter.unusedSimpArgs false
open Go.Sep.AV renaming any → Q_
open Nat renaming reduceAdd→ν1,reduceLeDiff→ν2,reduceLT→ν3,reduceMul→ν4,reduceSub→ν5
open Int renaming reduceToNat→ι1,reduceSub→ι2,reduceAdd→ι3,reduceNeg→ι4
open Array renaming toList→ι5
open Ne renaming symm→ν6
open List renaming forall_mem_cons→ν7
namespace Go.Proofs.YtohkciilfkhomaaGreat
open Go Go.Sep
attribute [local irreducible] wpC headF
def D45:Info:=⟨118,fun i=>([],[]),fun i=>if i=4 then ([0,4,5],[6]) else if i=7 then ([0,4,5,6],[7]) else if i=11 then ([0,4,5,6,7],[8,9]) else if i=15 then ([0,4,5,6,7,47,48],[49]) else if i=20 then ([0,4,5],[12]) else ([],[])⟩
def L45_0 (K:AV→Heap→Prop) (v0:AV) (v4:AV) (v5:AV) (v6:AV) (H:Heap):Prop:=LoopV (wpC Tryz.prog tab D45 (cAt [1,1,1,0,1,0,0] (bO_ Tryz.f45))) [0,4,5] (PostF.block 0 (PostF.thenA (wpC Tryz.prog tab D45 (cAt [1,1,1,1] (bO_ Tryz.f45))) (retF tab [.cell 4 28] K))) [6] [v0,Q_,Q_,Q_,v4,v5,v6,Q_,Q_,Q_,Q_,Q_,Q_,Q_,Q_,Q_,Q_,Q_,Q_,Q_,Q_,Q_,Q_,Q_,Q_,Q_,Q_,Q_,Q_,Q_,Q_,Q_,Q_,Q_,Q_,Q_,Q_,Q_,Q_,Q_,Q_,Q_,Q_,Q_,Q_,Q_,Q_,Q_,Q_,Q_,Q_,Q_,Q_,Q_,Q_,Q_,Q_,Q_,Q_,Q_,Q_,Q_,Q_,Q_,Q_,Q_,Q_,Q_,Q_,Q_,Q_,Q_,Q_,Q_,Q_,Q_,Q_,Q_,Q_,Q_,Q_,Q_,Q_,Q_,Q_,Q_,Q_,Q_,Q_,Q_,Q_,Q_,Q_,Q_,Q_,Q_,Q_,Q_,Q_,Q_,Q_,Q_,Q_,Q_,Q_,Q_,Q_,Q_,Q_,Q_,Q_,Q_,Q_,Q_,Q_,Q_,Q_,Q_] H
def L45_1 (K:AV→Heap→Prop) (N1:AV→Heap→Prop) (v0:AV) (v4:AV) (v5:AV) (v6:AV) (v7:AV) (H:Heap):Prop:=LoopV (wpC Tryz.prog tab D45 (cAt [1,1,1,0,1,0,0,1,0,0,1,0,0] (bO_ Tryz.f45))) [0,4,5,6] (PostF.block 2 (PostF.block 1 (PostF.thenA (wpC Tryz.prog tab D45 (cAt [1,1,1,0,1,0,0,1,1] (bO_ Tryz.f45))) (loopF (PostF.block 0 (PostF.thenA (wpC Tryz.prog tab D45 (cAt [1,1,1,1] (bO_ Tryz.f45))) (retF tab [.cell 4 28] K))) (fun e h=>N1 (e 6) h))))) [7] [v0,Q_,Q_,Q_,v4,v5,v6,v7,Q_,Q_,Q_,Q_,Q_,Q_,Q_,Q_,Q_,Q_,Q_,Q_,Q_,Q_,Q_,Q_,Q_,Q_,Q_,Q_,Q_,Q_,Q_,Q_,Q_,Q_,Q_,Q_,Q_,Q_,Q_,Q_,Q_,Q_,Q_,Q_,Q_,Q_,Q_,Q_,Q_,Q_,Q_,Q_,Q_,Q_,Q_,Q_,Q_,Q_,Q_,Q_,Q_,Q_,Q_,Q_,Q_,Q_,Q_,Q_,Q_,Q_,Q_,Q_,Q_,Q_,Q_,Q_,Q_,Q_,Q_,Q_,Q_,Q_,Q_,Q_,Q_,Q_,Q_,Q_,Q_,Q_,Q_,Q_,Q_,Q_,Q_,Q_,Q_,Q_,Q_,Q_,Q_,Q_,Q_,Q_,Q_,Q_,Q_,Q_,Q_,Q_,Q_,Q_,Q_,Q_,Q_,Q_,Q_,Q_] H
def L45_2 (K:AV→Heap→Prop) (N1:AV→Heap→Prop) (N2:AV→Heap→Prop) (v0:AV) (v4:AV) (v5:AV) (v6:AV) (v7:AV) (v8:AV) (v9:AV) (H:Heap):Prop:=LoopV (wpC Tryz.prog tab D45 (cAt [1,1,1,0,1,0,0,1,0,0,1,0,0,1,0,0,1,0,1,0,0] (bO_ Tryz.f45))) [0,4,5,6,7] (PostF.block 4 (PostF.thenA (wpC Tryz.prog tab D45 (cAt [1,1,1,0,1,0,0,1,0,0,1,0,0,1,0,0,1,1] (bO_ Tryz.f45))) (PostF.block 3 (PostF.thenA (wpC Tryz.prog tab D45 (cAt [1,1,1,0,1,0,0,1,0,0,1,0,0,1,1] (bO_ Tryz.f45))) (loopF (PostF.block 2 (PostF.block 1 (PostF.thenA (wpC Tryz.prog tab D45 (cAt [1,1,1,0,1,0,0,1,1] (bO_ Tryz.f45))) (loopF (PostF.block 0 (PostF.thenA (wpC Tryz.prog tab D45 (cAt [1,1,1,1] (bO_ Tryz.f45))) (retF tab [.cell 4 28] K))) (fun e h=>N1 (e 6) h))))) (fun e h=>N2 (e 7) h)))))) [8,9] [v0,Q_,Q_,Q_,v4,v5,v6,v7,v8,v9,Q_,Q_,Q_,Q_,Q_,Q_,Q_,Q_,Q_,Q_,Q_,Q_,Q_,Q_,Q_,Q_,Q_,Q_,Q_,Q_,Q_,Q_,Q_,Q_,Q_,Q_,Q_,Q_,Q_,Q_,Q_,Q_,Q_,Q_,Q_,Q_,Q_,Q_,Q_,Q_,Q_,Q_,Q_,Q_,Q_,Q_,Q_,Q_,Q_,Q_,Q_,Q_,Q_,Q_,Q_,Q_,Q_,Q_,Q_,Q_,Q_,Q_,Q_,Q_,Q_,Q_,Q_,Q_,Q_,Q_,Q_,Q_,Q_,Q_,Q_,Q_,Q_,Q_,Q_,Q_,Q_,Q_,Q_,Q_,Q_,Q_,Q_,Q_,Q_,Q_,Q_,Q_,Q_,Q_,Q_,Q_,Q_,Q_,Q_,Q_,Q_,Q_,Q_,Q_,Q_,Q_,Q_,Q_] H
def L45_3 (K:AV→Heap→Prop) (N1:AV→Heap→Prop) (N2:AV→Heap→Prop) (v0:AV) (v4:AV) (v5:AV) (v6:AV) (v7:AV) (v47:AV) (v48:AV) (v49:AV) (H:Heap):Prop:=LoopV (wpC Tryz.prog tab D45 (cAt [1,1,1,0,1,0,0,1,0,0,1,0,0,1,0,0,1,1,1,0,0] (bO_ Tryz.f45))) [0,4,5,6,7,47,48] (PostF.block 6 (PostF.block 3 (PostF.thenA (wpC Tryz.prog tab D45 (cAt [1,1,1,0,1,0,0,1,0,0,1,0,0,1,1] (bO_ Tryz.f45))) (loopF (PostF.block 2 (PostF.block 1 (PostF.thenA (wpC Tryz.prog tab D45 (cAt [1,1,1,0,1,0,0,1,1] (bO_ Tryz.f45))) (loopF (PostF.block 0 (PostF.thenA (wpC Tryz.prog tab D45 (cAt [1,1,1,1] (bO_ Tryz.f45))) (retF tab [.cell 4 28] K))) (fun e h=>N1 (e 6) h))))) (fun e h=>N2 (e 7) h))))) [49] [v0,Q_,Q_,Q_,v4,v5,v6,v7,Q_,Q_,Q_,Q_,Q_,Q_,Q_,Q_,Q_,Q_,Q_,Q_,Q_,Q_,Q_,Q_,Q_,Q_,Q_,Q_,Q_,Q_,Q_,Q_,Q_,Q_,Q_,Q_,Q_,Q_,Q_,Q_,Q_,Q_,Q_,Q_,Q_,Q_,Q_,v47,v48,v49,Q_,Q_,Q_,Q_,Q_,Q_,Q_,Q_,Q_,Q_,Q_,Q_,Q_,Q_,Q_,Q_,Q_,Q_,Q_,Q_,Q_,Q_,Q_,Q_,Q_,Q_,Q_,Q_,Q_,Q_,Q_,Q_,Q_,Q_,Q_,Q_,Q_,Q_,Q_,Q_,Q_,Q_,Q_,Q_,Q_,Q_,Q_,Q_,Q_,Q_,Q_,Q_,Q_,Q_,Q_,Q_,Q_,Q_,Q_,Q_,Q_,Q_,Q_,Q_,Q_,Q_,Q_,Q_] H
def B45_3 (K:AV→Heap→Prop) (N1:AV→Heap→Prop) (N2:AV→Heap→Prop) (N3:AV→Heap→Prop) (v0:AV) (v4:AV) (v5:AV) (v6:AV) (v7:AV) (v47:AV) (v48:AV) (v49:AV) (H:Heap):Prop:=
 binV tab .lss 3 v49 v48 fun v50=>
 cV_ v50 (iA_ tab 24 v47 v49 fun v51=>
 lV_ tab 3 v51 H fun v52=>
 fA_ tab 28 v5 2 fun v53=>
 lV_ tab 25 v53 H fun v54=>
 buildV tab 66 [(0,v6),(1,v7),(2,v52)] fun v58=>
 bS_ tab 25 1 [(0,v58)] H (wkK fun v59 H11=>
 aP_ tab 25 25 v54 v59 H11 (wkK fun v60 H12=>
 fA_ tab 28 v5 2 fun v61=>
 sV_ tab 25 v61 v60 H12 fun H13=>
 binV tab .add 3 v49 (AV.p (.int .i64 1)) fun v62=>
 N3 v62 H13)))
 (binV tab .add 3 v7 (AV.p (.int .i64 1)) fun v34=>
 N2 v34 H)
def B45_2 (K:AV→Heap→Prop) (N1:AV→Heap→Prop) (N2:AV→Heap→Prop) (N3:AV→AV→Heap→Prop) (v0:AV) (v4:AV) (v5:AV) (v6:AV) (v7:AV) (v8:AV) (v9:AV) (H:Heap):Prop:=
 binV tab .gtr 3 v9 (AV.p (.int .i64 0)) fun v38=>
 cV_ v38 (fA_ tab 28 v5 0 fun v43=>
 lV_ tab 3 v43 H fun v44=>
 CallT Tryz.prog 69 [v0,v44] H fun v45 H9=>
 CallT Tryz.prog 93 [v8,v45] H9 fun v46 H10=>
 binV tab .sub 3 v9 (AV.p (.int .i64 1)) fun v40=>
 N3 v46 v40 H10)
 (lenV tab 24 v8 fun v48=>
 L45_3 K N1 N2 v0 v4 v5 v6 v7 v8 v48 (AV.p (.int .i64 0)) H)
def B45_1 (K:AV→Heap→Prop) (N1:AV→Heap→Prop) (N2:AV→Heap→Prop) (v0:AV) (v4:AV) (v5:AV) (v6:AV) (v7:AV) (H:Heap):Prop:=
 binV tab .lss 3 v7 (AV.p (.int .i64 8)) fun v32=>
 cV_ v32 (CallT Tryz.prog 69 [v0,(AV.p (.int .i64 3))] H fun v36 H8=>
 L45_2 K N1 N2 v0 v4 v5 v6 v7 (AV.p .nil) v36 H8)
 (binV tab .add 3 v6 (AV.p (.int .i64 1)) fun v30=>
 N1 v30 H)
def L45_4 (K:AV→Heap→Prop) (v0:AV) (v4:AV) (v5:AV) (v12:AV) (H:Heap):Prop:=LoopV (wpC Tryz.prog tab D45 (cAt [1,1,1,1,0,1,0,0] (bO_ Tryz.f45))) [0,4,5] (PostF.block 8 (PostF.thenA (wpC Tryz.prog tab D45 (cAt [1,1,1,1,1] (bO_ Tryz.f45))) (retF tab [.cell 4 28] K))) [12] [v0,Q_,Q_,Q_,v4,v5,Q_,Q_,Q_,Q_,Q_,Q_,v12,Q_,Q_,Q_,Q_,Q_,Q_,Q_,Q_,Q_,Q_,Q_,Q_,Q_,Q_,Q_,Q_,Q_,Q_,Q_,Q_,Q_,Q_,Q_,Q_,Q_,Q_,Q_,Q_,Q_,Q_,Q_,Q_,Q_,Q_,Q_,Q_,Q_,Q_,Q_,Q_,Q_,Q_,Q_,Q_,Q_,Q_,Q_,Q_,Q_,Q_,Q_,Q_,Q_,Q_,Q_,Q_,Q_,Q_,Q_,Q_,Q_,Q_,Q_,Q_,Q_,Q_,Q_,Q_,Q_,Q_,Q_,Q_,Q_,Q_,Q_,Q_,Q_,Q_,Q_,Q_,Q_,Q_,Q_,Q_,Q_,Q_,Q_,Q_,Q_,Q_,Q_,Q_,Q_,Q_,Q_,Q_,Q_,Q_,Q_,Q_,Q_,Q_,Q_,Q_,Q_] H
def J45_5 (K:AV→Heap→Prop) (N1:AV→Heap→Prop) (v0:AV) (v4:AV) (v5:AV) (v12:AV) (v13:AV) (H:Heap):Prop:=
 fA_ tab 28 v5 3 fun v82=>
 lV_ tab 26 v82 H fun v83=>
 bS_ tab 26 1 [(0,v13)] H (wkK fun v85 H20=>
 aP_ tab 26 26 v83 v85 H20 (wkK fun v86 H21=>
 fA_ tab 28 v5 3 fun v87=>
 sV_ tab 26 v87 v86 H21 fun H22=>
 binV tab .sub 3 v12 (AV.p (.int .i64 1)) fun v68=>
 N1 v68 H22))
def B45_4 (K:AV→Heap→Prop) (N1:AV→Heap→Prop) (v0:AV) (v4:AV) (v5:AV) (v12:AV) (H:Heap):Prop:=
 binV tab .gtr 3 v12 (AV.p (.int .i64 0)) fun v66=>
 cV_ v66 (fA_ tab 28 v5 0 fun v70=>
 lV_ tab 3 v70 H fun v71=>
 CallT Tryz.prog 69 [v0,v71] H fun v72 H15=>
 CallT Tryz.prog 93 [(AV.p .nil),v72] H15 fun v73 H16=>
 CallT Tryz.prog 47 [v0,(AV.p (.int .i64 2))] H16 fun v75 H17=>
 cV_ v75 (fA_ tab 28 v5 0 fun v78=>
 lV_ tab 3 v78 H17 fun v79=>
 CallT Tryz.prog 69 [v0,v79] H17 fun v80 H18=>
 CallT Tryz.prog 93 [v73,v80] H18 fun v81 H19=>
 J45_5 K N1 v0 v4 v5 v12 v81 H19)
 (J45_5 K N1 v0 v4 v5 v12 v73 H17))
 (CallT Tryz.prog 69 [v0,(AV.p (.int .i64 40))] H fun v89 H23=>
 binV tab .eql 3 v89 (AV.p (.int .i64 0)) fun v91=>
 cV_ v91 (fA_ tab 28 v5 1 fun v92=>
 lV_ tab 24 v92 H23 fun v93=>
 fA_ tab 28 v5 0 fun v94=>
 lV_ tab 3 v94 H23 fun v95=>
 bS_ tab 24 1 [(0,v95)] H23 (wkK fun v96 H24=>
 aP_ tab 24 24 v93 v96 H24 (wkK fun v97 H25=>
 fA_ tab 28 v5 1 fun v98=>
 sV_ tab 24 v98 v97 H25 fun H26=>
 lV_ tab 28 v5 H26 fun v117=>
 sV_ tab 28 v4 v117 H26 fun H28=>
 lV_ tab 28 v4 H28 fun r0=>
 K r0 H28)))
 (binV tab .eql 3 v89 (AV.p (.int .i64 1)) fun v100=>
 cV_ v100 (fA_ tab 28 v5 2 fun v101=>
 lV_ tab 25 v101 H23 fun v102=>
 buildV tab 66 [] fun v103=>
 bS_ tab 25 1 [(0,v103)] H23 (wkK fun v104 H29=>
 aP_ tab 25 25 v102 v104 H29 (wkK fun v105 H30=>
 fA_ tab 28 v5 2 fun v106=>
 sV_ tab 25 v106 v105 H30 fun H31=>
 lV_ tab 28 v5 H31 fun v117=>
 sV_ tab 28 v4 v117 H31 fun H32=>
 lV_ tab 28 v4 H32 fun r0=>
 K r0 H32)))
 (binV tab .eql 3 v89 (AV.p (.int .i64 2)) fun v108=>
 cV_ v108 (CallT Tryz.prog 69 [v0,(AV.p (.int .i64 2))] H23 fun v110 H33=>
 binV tab .add 3 (AV.p (.int .i64 6)) v110 fun v111=>
 mS_ tab 26 v111 v111 H33 fun v112 H34=>
 fA_ tab 28 v5 3 fun v113=>
 sV_ tab 26 v113 v112 H34 fun H35=>
 lV_ tab 28 v5 H35 fun v117=>
 sV_ tab 28 v4 v117 H35 fun H36=>
 lV_ tab 28 v4 H36 fun r0=>
 K r0 H36)
 (binV tab .eql 3 v89 (AV.p (.int .i64 3)) fun v115=>
 cV_ v115 (fA_ tab 28 v5 1 fun v116=>
 sV_ tab 24 v116 (AV.p .nil) H23 fun H37=>
 lV_ tab 28 v5 H37 fun v117=>
 sV_ tab 28 v4 v117 H37 fun H38=>
 lV_ tab 28 v4 H38 fun r0=>
 K r0 H38)
 (lV_ tab 28 v5 H23 fun v117=>
 sV_ tab 28 v4 v117 H23 fun H39=>
 lV_ tab 28 v4 H39 fun r0=>
 K r0 H39)))))
def B45_0 (K:AV→Heap→Prop) (N1:AV→Heap→Prop) (v0:AV) (v4:AV) (v5:AV) (v6:AV) (H:Heap):Prop:=
 fA_ tab 28 v5 0 fun v26=>
 lV_ tab 3 v26 H fun v27=>
 binV tab .lss 3 v6 v27 fun v28=>
 cV_ v28 (L45_1 K N1 v0 v4 v5 v6 (AV.p (.int .i64 0)) H)
 (CallT Tryz.prog 69 [v0,(AV.p (.int .i64 4))] H fun v64 H14=>
 L45_4 K v0 v4 v5 v64 H14)
def W45 (v0:AV) (v1:AV) (H:Heap) (K:AV→Heap→Prop):Prop:=
 allocV tab 28 H fun v4 H1=>
 CallT Tryz.prog 69 [v0,v1] H1 fun v16 H2=>
 binV tab .add 3 (AV.p (.int .i64 1)) v16 fun v17=>
 buildV tab 28 [(0,v17)] fun v18=>
 allocV tab 28 H2 fun v5 H3=>
 sV_ tab 28 v5 v18 H3 fun H4=>
 fA_ tab 28 v5 0 fun v20=>
 lV_ tab 3 v20 H4 fun v21=>
 CallT Tryz.prog 69 [v0,v21] H4 fun v22 H5=>
 CallT Tryz.prog 93 [(AV.p .nil),v22] H5 fun v23 H6=>
 fA_ tab 28 v5 1 fun v24=>
 sV_ tab 24 v24 v23 H6 fun H7=>
 L45_0 K v0 v4 v5 (AV.p (.int .i64 0)) H7
theorem W45_wp (v0:AV) (v1:AV) (H:Heap) (K:AV→Heap→Prop):wpC Tryz.prog tab D45 (bO_ Tryz.f45) (retF tab [.cell 4 28] K) (nthA [v0,v1]) H=W45 v0 v1 H K:=by kernel_rfl
theorem W45_ok {v0 v1:AV} {H:Heap} {K:AV→Heap→Prop} (h:W45 v0 v1 H K):CallT Tryz.prog 45 [v0,v1] H K:=
 CallT.of_wp (D:=D45) tO_ mixed Tryz.func45 (c:=bO_ Tryz.f45) (by kernel_rfl) rfl (by kernel_rfl) (rs:=#[.cell 4 28]) rfl (by decide +kernel) (by kernel_rfl) (W45_wp v0 v1 H K) h
theorem W45_hb:HasBody Tryz.prog 45:=⟨_,bO_ Tryz.f45,Tryz.func45,by kernel_rfl,rfl⟩
theorem L45_3_rule {K:AV→Heap→Prop} {N1:AV→Heap→Prop} {N2:AV→Heap→Prop} {v0 v4 v5 v6 v7 v47 v48 v49:AV} {H:Heap} {σ:Type} (s0:σ) (f49:σ→AV) (TH:σ→Heap) (pre:σ→Prop) (μ:σ→Nat)
  (h0:pre s0∧AV.wk v49 (f49 s0)∧Heap.le (TH s0) H)
  (round:∀s,pre s→B45_3 K N1 N2 (fun w49 H'=>∃s',pre s'∧μ s' < μ s∧AV.wk w49 (f49 s')∧Heap.le (TH s') H') v0 v4 v5 v6 v7 v47 v48 (f49 s) (TH s)) :
  L45_3 K N1 N2 v0 v4 v5 v6 v7 v47 v48 v49 H:=by
 unfold L45_3
 exact LoopV.mk s0 (fun s=>[f49 s]) TH pre μ (fun _=>rfl) (Eq.mp (by kernel_rfl) h0) (fun s hs=>Eq.mp (by kernel_rfl) (round s hs))
theorem L45_2_rule {K:AV→Heap→Prop} {N1:AV→Heap→Prop} {N2:AV→Heap→Prop} {v0 v4 v5 v6 v7 v8 v9:AV} {H:Heap} {σ:Type} (s0:σ) (f8:σ→AV) (f9:σ→AV) (TH:σ→Heap) (pre:σ→Prop) (μ:σ→Nat)
  (h0:pre s0∧AV.wk v8 (f8 s0)∧AV.wk v9 (f9 s0)∧Heap.le (TH s0) H)
  (round:∀s,pre s→B45_2 K N1 N2 (fun w8 w9 H'=>∃s',pre s'∧μ s' < μ s∧AV.wk w8 (f8 s')∧AV.wk w9 (f9 s')∧Heap.le (TH s') H') v0 v4 v5 v6 v7 (f8 s) (f9 s) (TH s)) :
  L45_2 K N1 N2 v0 v4 v5 v6 v7 v8 v9 H:=by
 unfold L45_2
 exact LoopV.mk s0 (fun s=>[f8 s,f9 s]) TH pre μ (fun _=>rfl) (Eq.mp (by kernel_rfl) h0) (fun s hs=>Eq.mp (by kernel_rfl) (round s hs))
theorem L45_1_rule {K:AV→Heap→Prop} {N1:AV→Heap→Prop} {v0 v4 v5 v6 v7:AV} {H:Heap} {σ:Type} (s0:σ) (f7:σ→AV) (TH:σ→Heap) (pre:σ→Prop) (μ:σ→Nat)
  (h0:pre s0∧AV.wk v7 (f7 s0)∧Heap.le (TH s0) H)
  (round:∀s,pre s→B45_1 K N1 (fun w7 H'=>∃s',pre s'∧μ s' < μ s∧AV.wk w7 (f7 s')∧Heap.le (TH s') H') v0 v4 v5 v6 (f7 s) (TH s)) :
  L45_1 K N1 v0 v4 v5 v6 v7 H:=by
 unfold L45_1
 exact LoopV.mk s0 (fun s=>[f7 s]) TH pre μ (fun _=>rfl) (Eq.mp (by kernel_rfl) h0) (fun s hs=>Eq.mp (by kernel_rfl) (round s hs))
theorem L45_4_rule {K:AV→Heap→Prop} {v0 v4 v5 v12:AV} {H:Heap} {σ:Type} (s0:σ) (f12:σ→AV) (TH:σ→Heap) (pre:σ→Prop) (μ:σ→Nat)
  (h0:pre s0∧AV.wk v12 (f12 s0)∧Heap.le (TH s0) H)
  (round:∀s,pre s→B45_4 K (fun w12 H'=>∃s',pre s'∧μ s' < μ s∧AV.wk w12 (f12 s')∧Heap.le (TH s') H') v0 v4 v5 (f12 s) (TH s)) :
  L45_4 K v0 v4 v5 v12 H:=by
 unfold L45_4
 exact LoopV.mk s0 (fun s=>[f12 s]) TH pre μ (fun _=>rfl) (Eq.mp (by kernel_rfl) h0) (fun s hs=>Eq.mp (by kernel_rfl) (round s hs))
theorem L45_0_rule {K:AV→Heap→Prop} {v0 v4 v5 v6:AV} {H:Heap} {σ:Type} (s0:σ) (f6:σ→AV) (TH:σ→Heap) (pre:σ→Prop) (μ:σ→Nat)
  (h0:pre s0∧AV.wk v6 (f6 s0)∧Heap.le (TH s0) H)
  (round:∀s,pre s→B45_0 K (fun w6 H'=>∃s',pre s'∧μ s' < μ s∧AV.wk w6 (f6 s')∧Heap.le (TH s') H') v0 v4 v5 (f6 s) (TH s)) :
  L45_0 K v0 v4 v5 v6 H:=by
 unfold L45_0
 exact LoopV.mk s0 (fun s=>[f6 s]) TH pre μ (fun _=>rfl) (Eq.mp (by kernel_rfl) h0) (fun s hs=>Eq.mp (by kernel_rfl) (round s hs))
def D46:Info:=⟨57,fun i=>if i=12 then ([[],[0],[],[],[2,3],[0,1,2,3,4],[0,1,2,3,4,5]],[(0,[]),(1,[]),(2,[]),(3,[1]),(4,[1]),(5,[]),(6,[])]) else ([],[]),fun i=>([],[])⟩
def J46_0 (K:AV→Heap→Prop) (v0:AV) (v2:AV) (v3:AV) (H:Heap):Prop:=
 CallT Tryz.prog 69 [v0,(AV.p (.int .i64 40))] H fun v31 H14=>
 binV tab .eql 3 v31 (AV.p (.int .i64 0)) fun v33=>
 cV_ v33 (bS_ tab 24 3 [(0,(AV.p (.int .i64 0))),(1,(AV.p (.int .i64 24))),(2,(AV.p (.int .i64 25)))] H14 (wkK fun v36 H15=>
 CallT Tryz.prog 97 [v0,v36] H15 fun v37 H16=>
 CallT Tryz.prog 96 [v0,v37] H16 fun v38 H17=>
 fA_ tab 31 v3 1 fun v39=>
 sV_ tab 24 v39 v38 H17 fun H18=>
 lV_ tab 31 v3 H18 fun v56=>
 sV_ tab 31 v2 v56 H18 fun H20=>
 lV_ tab 31 v2 H20 fun r0=>
 K r0 H20))
 (binV tab .eql 3 v31 (AV.p (.int .i64 1)) fun v41=>
 cV_ v41 (bS_ tab 24 2 [(0,(AV.p (.int .i64 24))),(1,(AV.p (.int .i64 25)))] H14 (wkK fun v44 H21=>
 CallT Tryz.prog 97 [v0,v44] H21 fun v45 H22=>
 CallT Tryz.prog 96 [v0,v45] H22 fun v46 H23=>
 fA_ tab 31 v3 0 fun v47=>
 sV_ tab 24 v47 v46 H23 fun H24=>
 lV_ tab 31 v3 H24 fun v56=>
 sV_ tab 31 v2 v56 H24 fun H25=>
 lV_ tab 31 v2 H25 fun r0=>
 K r0 H25))
 (binV tab .eql 3 v31 (AV.p (.int .i64 2)) fun v49=>
 cV_ v49 (fA_ tab 31 v3 1 fun v50=>
 lV_ tab 24 v50 H14 fun v51=>
 bS_ tab 24 3 [(0,(AV.p (.int .i64 (-1)))),(1,(AV.p (.int .i64 7))),(2,(AV.p (.int .i64 8)))] H14 (wkK fun v53 H26=>
 (lV_ tab 24 v50 H26 fun v9051=>
 v51=v9051)∧
 CallT Tryz.prog 97 [v0,v53] H26 fun v54 H27=>
 (lV_ tab 24 v50 H27 fun v9051=>
 v51=v9051)∧
 iA_ tab 24 v51 (AV.p (.int .i64 0)) fun v55=>
 sV_ tab 3 v55 v54 H27 fun H28=>
 lV_ tab 31 v3 H28 fun v56=>
 sV_ tab 31 v2 v56 H28 fun H29=>
 lV_ tab 31 v2 H29 fun r0=>
 K r0 H29))
 (lV_ tab 31 v3 H14 fun v56=>
 sV_ tab 31 v2 v56 H14 fun H30=>
 lV_ tab 31 v2 H30 fun r0=>
 K r0 H30)))
def J46_1 (K:AV→Heap→Prop) (v0:AV) (v2:AV) (v3:AV) (H:Heap):Prop:=
 CallT Tryz.prog 47 [v0,(AV.p (.int .i64 4))] H fun v23 H11=>
 cV_ v23 (fA_ tab 31 v3 0 fun v24=>
 lV_ tab 24 v24 H11 fun v25=>
 fA_ tab 31 v3 1 fun v26=>
 lV_ tab 24 v26 H11 fun v27=>
 aP_ tab 24 24 v25 v27 H11 (wkK fun v28 H12=>
 fA_ tab 31 v3 0 fun v29=>
 sV_ tab 24 v29 v28 H12 fun H13=>
 J46_0 K v0 v2 v3 H13))
 (J46_0 K v0 v2 v3 H11)
def W46 (v0:AV) (H:Heap) (K:AV→Heap→Prop):Prop:=
 allocV tab 31 H fun v2 H1=>
 CallT Tryz.prog 69 [v0,(AV.p (.int .i64 6))] H1 fun v6 H2=>
 CallT Tryz.prog 96 [v0,v6] H2 fun v7 H3=>
 CallT Tryz.prog 69 [v0,(AV.p (.int .i64 5))] H3 fun v10 H4=>
 binV tab .add 3 (AV.p (.int .i64 1)) v10 fun v11=>
 CallT Tryz.prog 96 [v0,v11] H4 fun v12 H5=>
 buildV tab 31 [(0,v7),(1,v12)] fun v13=>
 allocV tab 31 H5 fun v3 H6=>
 sV_ tab 31 v3 v13 H6 fun H7=>
 CallT Tryz.prog 47 [v0,(AV.p (.int .i64 4))] H7 fun v15 H8=>
 cV_ v15 (fA_ tab 31 v3 1 fun v16=>
 lV_ tab 24 v16 H8 fun v17=>
 fA_ tab 31 v3 1 fun v18=>
 lV_ tab 24 v18 H8 fun v19=>
 aP_ tab 24 24 v17 v19 H8 (wkK fun v20 H9=>
 fA_ tab 31 v3 1 fun v21=>
 sV_ tab 24 v21 v20 H9 fun H10=>
 J46_1 K v0 v2 v3 H10))
 (J46_1 K v0 v2 v3 H8)
theorem W46_wp (v0:AV) (H:Heap) (K:AV→Heap→Prop):wpC Tryz.prog tab D46 (bO_ Tryz.f46) (retF tab [.cell 2 31] K) (nthA [v0]) H=W46 v0 H K:=by kernel_rfl
theorem W46_ok {v0:AV} {H:Heap} {K:AV→Heap→Prop} (h:W46 v0 H K):CallT Tryz.prog 46 [v0] H K:=
 CallT.of_wp (D:=D46) tO_ mixed Tryz.func46 (c:=bO_ Tryz.f46) (by kernel_rfl) rfl (by kernel_rfl) (rs:=#[.cell 2 31]) rfl (by decide +kernel) (by kernel_rfl) (W46_wp v0 H K) h
def D47:Info:=⟨9,fun i=>([],[]),fun i=>([],[])⟩
def W47 (v0:AV) (v1:AV) (H:Heap) (K:AV→Heap→Prop):Prop:=
 CallT Tryz.prog 69 [v0,v1] H fun v7 H1=>
 binV tab .eql 3 v7 (AV.p (.int .i64 0)) fun v8=>
 K v8 H1
theorem W47_wp (v0:AV) (v1:AV) (H:Heap) (K:AV→Heap→Prop):wpC Tryz.prog tab D47 (bO_ Tryz.f47) (retF tab [.tmp 4] K) (nthA [v0,v1]) H=W47 v0 v1 H K:=by kernel_rfl
theorem W47_ok {v0 v1:AV} {H:Heap} {K:AV→Heap→Prop} (h:W47 v0 v1 H K):CallT Tryz.prog 47 [v0,v1] H K:=
 CallT.of_wp (D:=D47) tO_ mixed Tryz.func47 (c:=bO_ Tryz.f47) (by kernel_rfl) rfl (by kernel_rfl) (rs:=#[.tmp 4]) rfl (by decide +kernel) (by kernel_rfl) (W47_wp v0 v1 H K) h
def D48:Info:=⟨15,fun i=>([],[]),fun i=>([],[])⟩
def W48 (v0:AV) (v1:AV) (v2:AV) (H:Heap) (K:AV→Heap→Prop):Prop:=
 binV tab .geq 3 v0 v1 fun v9=>
 grdV v9 true (binV tab .leq 3 v0 v2 fun v13=>
 K v13 H)
 (K (AV.p (.bool false)) H)
theorem W48_wp (v0:AV) (v1:AV) (v2:AV) (H:Heap) (K:AV→Heap→Prop):wpC Tryz.prog tab D48 (bO_ Tryz.f48) (retF tab [.tmp 6] K) (nthA [v0,v1,v2]) H=W48 v0 v1 v2 H K:=by kernel_rfl
theorem W48_ok {v0 v1 v2:AV} {H:Heap} {K:AV→Heap→Prop} (h:W48 v0 v1 v2 H K):CallT Tryz.prog 48 [v0,v1,v2] H K:=
 CallT.of_wp (D:=D48) tO_ mixed Tryz.func48 (c:=bO_ Tryz.f48) (by kernel_rfl) rfl (by kernel_rfl) (rs:=#[.tmp 6]) rfl (by decide +kernel) (by kernel_rfl) (W48_wp v0 v1 v2 H K) h
def D49:Info:=⟨21,fun i=>([],[]),fun i=>if i=2 then ([1,2,9,10],[11]) else ([],[])⟩
def L49_0 (K:AV→Heap→Prop) (v1:AV) (v2:AV) (v9:AV) (v10:AV) (v11:AV) (H:Heap):Prop:=LoopV (wpC Tryz.prog tab D49 (cAt [1,0,1,0,0] (bO_ Tryz.f49))) [1,2,9,10] (PostF.block 0 (PostF.thenA (wpC Tryz.prog tab D49 (cAt [1,1] (bO_ Tryz.f49))) (retF tab [.tmp 6] K))) [11] [Q_,v1,v2,Q_,Q_,Q_,Q_,Q_,Q_,v9,v10,v11,Q_,Q_,Q_,Q_,Q_,Q_,Q_,Q_,Q_] H
def B49_0 (K:AV→Heap→Prop) (N1:AV→Heap→Prop) (v1:AV) (v2:AV) (v9:AV) (v10:AV) (v11:AV) (H:Heap):Prop:=
 binV tab .lss 3 v11 v10 fun v12=>
 cV_ v12 (iA_ tab 24 v9 v11 fun v13=>
 lV_ tab 3 v13 H fun v14=>
 CallT Tryz.prog 48 [v14,v1,v2] H fun v18 H1=>
 unV .not v18 fun v19=>
 cV_ v19 (K (AV.p (.bool false)) H1)
 (binV tab .add 3 v11 (AV.p (.int .i64 1)) fun v20=>
 N1 v20 H1))
 (K (AV.p (.bool true)) H)
def W49 (v0:AV) (v1:AV) (v2:AV) (H:Heap) (K:AV→Heap→Prop):Prop:=
 lenV tab 24 v0 fun v10=>
 L49_0 K v1 v2 v0 v10 (AV.p (.int .i64 0)) H
theorem W49_wp (v0:AV) (v1:AV) (v2:AV) (H:Heap) (K:AV→Heap→Prop):wpC Tryz.prog tab D49 (bO_ Tryz.f49) (retF tab [.tmp 6] K) (nthA [v0,v1,v2]) H=W49 v0 v1 v2 H K:=by kernel_rfl
theorem W49_ok {v0 v1 v2:AV} {H:Heap} {K:AV→Heap→Prop} (h:W49 v0 v1 v2 H K):CallT Tryz.prog 49 [v0,v1,v2] H K:=
 CallT.of_wp (D:=D49) tO_ mixed Tryz.func49 (c:=bO_ Tryz.f49) (by kernel_rfl) rfl (by kernel_rfl) (rs:=#[.tmp 6]) rfl (by decide +kernel) (by kernel_rfl) (W49_wp v0 v1 v2 H K) h
theorem L49_0_rule {K:AV→Heap→Prop} {v1 v2 v9 v10 v11:AV} {H:Heap} {σ:Type} (s0:σ) (f11:σ→AV) (TH:σ→Heap) (pre:σ→Prop) (μ:σ→Nat)
  (h0:pre s0∧AV.wk v11 (f11 s0)∧Heap.le (TH s0) H)
  (round:∀s,pre s→B49_0 K (fun w11 H'=>∃s',pre s'∧μ s' < μ s∧AV.wk w11 (f11 s')∧Heap.le (TH s') H') v1 v2 v9 v10 (f11 s) (TH s)) :
  L49_0 K v1 v2 v9 v10 v11 H:=by
 unfold L49_0
 exact LoopV.mk s0 (fun s=>[f11 s]) TH pre μ (fun _=>rfl) (Eq.mp (by kernel_rfl) h0) (fun s hs=>Eq.mp (by kernel_rfl) (round s hs))
def D52:Info:=⟨8,fun i=>([],[]),fun i=>([],[])⟩
def W52 (v0:AV) (H:Heap) (K:AV→Heap→Prop):Prop:=
 binV tab .eql 24 v0 (AV.p .nil) fun v4=>
 cV_ v4 (K (AV.p .nil) H)
 (bS_ tab 24 0 [] H (wkK fun v5 H1=>
 aP_ tab 24 24 v5 v0 H1 (wkK fun v7 H2=>
 K v7 H2)))
theorem W52_wp (v0:AV) (H:Heap) (K:AV→Heap→Prop):wpC Tryz.prog tab D52 (bO_ Tryz.f52) (retF tab [.tmp 2] K) (nthA [v0]) H=W52 v0 H K:=by kernel_rfl
theorem W52_ok {v0:AV} {H:Heap} {K:AV→Heap→Prop} (h:W52 v0 H K):CallT Tryz.prog 52 [v0] H K:=
 CallT.of_wp (D:=D52) tO_ mixed Tryz.func52 (c:=bO_ Tryz.f52) (by kernel_rfl) rfl (by kernel_rfl) (rs:=#[.tmp 2]) rfl (by decide +kernel) (by kernel_rfl) (W52_wp v0 H K) h
theorem W52_hb:HasBody Tryz.prog 52:=⟨_,bO_ Tryz.f52,Tryz.func52,by kernel_rfl,rfl⟩
end Go.Proofs.YtohkciilfkhomaaGreat
namespace Go.Proofs.YtohkciilfkhomaaGreat
open Go Go.Sep
attribute [local irreducible] wpC headF
def D60:Info:=⟨64,fun i=>([],[]),fun i=>if i=4 then ([0,5,6,17,18],[19]) else if i=8 then ([0,5],[6]) else if i=11 then ([0,5,37,38],[6,39]) else ([],[])⟩
def L60_0 (K:AV→Heap→Prop) (v0:AV) (v5:AV) (v6:AV) (v17:AV) (v18:AV) (v19:AV) (H:Heap):Prop:=LoopV (wpC Tryz.prog tab D60 (cAt [1,1,1,0,1,0,0] (bO_ Tryz.f60))) [0,5,6,17,18] (PostF.block 0 (PostF.thenA (wpC Tryz.prog tab D60 (cAt [1,1,1,1] (bO_ Tryz.f60))) (retF tab [.tmp 4] K))) [19] [v0,Q_,Q_,Q_,Q_,v5,v6,Q_,Q_,Q_,Q_,Q_,Q_,Q_,Q_,Q_,Q_,v17,v18,v19,Q_,Q_,Q_,Q_,Q_,Q_,Q_,Q_,Q_,Q_,Q_,Q_,Q_,Q_,Q_,Q_,Q_,Q_,Q_,Q_,Q_,Q_,Q_,Q_,Q_,Q_,Q_,Q_,Q_,Q_,Q_,Q_,Q_,Q_,Q_,Q_,Q_,Q_,Q_,Q_,Q_,Q_,Q_,Q_] H
def L60_1 (K:AV→Heap→Prop) (v0:AV) (v5:AV) (v6:AV) (H:Heap):Prop:=LoopV (wpC Tryz.prog tab D60 (cAt [1,1,1,1,0,0,0] (bO_ Tryz.f60))) [0,5] (PostF.block 2 (PostF.thenA (wpC Tryz.prog tab D60 (cAt [1,1,1,1,1] (bO_ Tryz.f60))) (retF tab [.tmp 4] K))) [6] [v0,Q_,Q_,Q_,Q_,v5,v6,Q_,Q_,Q_,Q_,Q_,Q_,Q_,Q_,Q_,Q_,Q_,Q_,Q_,Q_,Q_,Q_,Q_,Q_,Q_,Q_,Q_,Q_,Q_,Q_,Q_,Q_,Q_,Q_,Q_,Q_,Q_,Q_,Q_,Q_,Q_,Q_,Q_,Q_,Q_,Q_,Q_,Q_,Q_,Q_,Q_,Q_,Q_,Q_,Q_,Q_,Q_,Q_,Q_,Q_,Q_,Q_,Q_] H
def L60_2 (K:AV→Heap→Prop) (N1:AV→Heap→Prop) (v0:AV) (v5:AV) (v6:AV) (v37:AV) (v38:AV) (v39:AV) (H:Heap):Prop:=LoopV (wpC Tryz.prog tab D60 (cAt [1,1,1,1,0,0,0,1,0,0,1,0,0] (bO_ Tryz.f60))) [0,5,37,38] (PostF.block 4 (PostF.block 3 (PostF.thenA (wpC Tryz.prog tab D60 (cAt [1,1,1,1,0,0,0,1,1] (bO_ Tryz.f60))) (loopF (PostF.block 2 (PostF.thenA (wpC Tryz.prog tab D60 (cAt [1,1,1,1,1] (bO_ Tryz.f60))) (retF tab [.tmp 4] K))) (fun e h=>N1 (e 6) h))))) [6,39] [v0,Q_,Q_,Q_,Q_,v5,v6,Q_,Q_,Q_,Q_,Q_,Q_,Q_,Q_,Q_,Q_,Q_,Q_,Q_,Q_,Q_,Q_,Q_,Q_,Q_,Q_,Q_,Q_,Q_,Q_,Q_,Q_,Q_,Q_,Q_,Q_,v37,v38,v39,Q_,Q_,Q_,Q_,Q_,Q_,Q_,Q_,Q_,Q_,Q_,Q_,Q_,Q_,Q_,Q_,Q_,Q_,Q_,Q_,Q_,Q_,Q_,Q_] H
def B60_2 (K:AV→Heap→Prop) (N1:AV→Heap→Prop) (N2:AV→AV→Heap→Prop) (v0:AV) (v5:AV) (v6:AV) (v37:AV) (v38:AV) (v39:AV) (H:Heap):Prop:=
 binV tab .lss 3 v39 v38 fun v40=>
 cV_ v40 (iA_ tab 24 v37 v39 fun v41=>
 lV_ tab 3 v41 H fun v42=>
 iA_ tab 24 v5 v42 fun v45=>
 lV_ tab 3 v45 H fun v46=>
 binV tab .lss 3 v46 (AV.p (.int .i64 0)) fun v47=>
 cV_ v47 (iA_ tab 24 v6 (AV.p (.int .i64 0)) fun v52=>
 lV_ tab 3 v52 H fun v53=>
 iA_ tab 24 v5 v53 fun v54=>
 lV_ tab 3 v54 H fun v55=>
 binV tab .add 3 v55 (AV.p (.int .i64 1)) fun v56=>
 iA_ tab 24 v5 v42 fun v57=>
 sV_ tab 3 v57 v56 H fun H5=>
 bS_ tab 24 1 [(0,v42)] H5 (wkK fun v60 H6=>
 aP_ tab 24 24 v6 v60 H6 (wkK fun v61 H7=>
 binV tab .add 3 v39 (AV.p (.int .i64 1)) fun v62=>
 N2 v61 v62 H7)))
 (binV tab .add 3 v39 (AV.p (.int .i64 1)) fun v62=>
 N2 v6 v62 H))
 (sliceV tab 24 v6 (some (AV.p (.int .i64 1))) none none fun v31=>
 N1 v31 H)
def B60_1 (K:AV→Heap→Prop) (N1:AV→Heap→Prop) (v0:AV) (v5:AV) (v6:AV) (H:Heap):Prop:=
 lenV tab 24 v6 fun v28=>
 binV tab .gtr 3 v28 (AV.p (.int .i64 0)) fun v29=>
 cV_ v29 (iA_ tab 24 v6 (AV.p (.int .i64 0)) fun v34=>
 lV_ tab 3 v34 H fun v35=>
 iA_ tab 26 v0 v35 fun v36=>
 lV_ tab 24 v36 H fun v37=>
 lenV tab 24 v37 fun v38=>
 L60_2 K N1 v0 v5 v6 v37 v38 (AV.p (.int .i64 0)) H)
 (K v5 H)
def B60_0 (K:AV→Heap→Prop) (N1:AV→Heap→Prop) (v0:AV) (v5:AV) (v6:AV) (v17:AV) (v18:AV) (v19:AV) (H:Heap):Prop:=
 binV tab .lss 3 v19 v18 fun v20=>
 cV_ v20 (iA_ tab 24 v17 v19 fun v21=>
 lV_ tab 3 v21 H fun v22=>
 iA_ tab 24 v5 v22 fun v25=>
 sV_ tab 3 v25 (AV.p (.int .i64 0)) H fun H4=>
 binV tab .add 3 v19 (AV.p (.int .i64 1)) fun v26=>
 N1 v26 H4)
 (L60_1 K v0 v5 v6 H)
def W60 (v0:AV) (v1:AV) (H:Heap) (K:AV→Heap→Prop):Prop:=
 bS_ tab 24 1 [(0,(AV.p (.int .i64 (-1))))] H (wkK fun v11 H1=>
 lenV tab 26 v0 fun v13=>
 CallT Tryz.prog 61 [v11,v13] H1 fun v14 H2=>
 CallT Tryz.prog 52 [v1] H2 fun v16 H3=>
 lenV tab 24 v1 fun v18=>
 L60_0 K v0 v14 v16 v1 v18 (AV.p (.int .i64 0)) H3)
theorem W60_wp (v0:AV) (v1:AV) (H:Heap) (K:AV→Heap→Prop):wpC Tryz.prog tab D60 (bO_ Tryz.f60) (retF tab [.tmp 4] K) (nthA [v0,v1]) H=W60 v0 v1 H K:=by kernel_rfl
theorem W60_ok {v0 v1:AV} {H:Heap} {K:AV→Heap→Prop} (h:W60 v0 v1 H K):CallT Tryz.prog 60 [v0,v1] H K:=
 CallT.of_wp (D:=D60) tO_ mixed Tryz.func60 (c:=bO_ Tryz.f60) (by kernel_rfl) rfl (by kernel_rfl) (rs:=#[.tmp 4]) rfl (by decide +kernel) (by kernel_rfl) (W60_wp v0 v1 H K) h
theorem L60_2_rule {K:AV→Heap→Prop} {N1:AV→Heap→Prop} {v0 v5 v6 v37 v38 v39:AV} {H:Heap} {σ:Type} (s0:σ) (f6:σ→AV) (f39:σ→AV) (TH:σ→Heap) (pre:σ→Prop) (μ:σ→Nat)
  (h0:pre s0∧AV.wk v6 (f6 s0)∧AV.wk v39 (f39 s0)∧Heap.le (TH s0) H)
  (round:∀s,pre s→B60_2 K N1 (fun w6 w39 H'=>∃s',pre s'∧μ s' < μ s∧AV.wk w6 (f6 s')∧AV.wk w39 (f39 s')∧Heap.le (TH s') H') v0 v5 (f6 s) v37 v38 (f39 s) (TH s)) :
  L60_2 K N1 v0 v5 v6 v37 v38 v39 H:=by
 unfold L60_2
 exact LoopV.mk s0 (fun s=>[f6 s,f39 s]) TH pre μ (fun _=>rfl) (Eq.mp (by kernel_rfl) h0) (fun s hs=>Eq.mp (by kernel_rfl) (round s hs))
theorem L60_1_rule {K:AV→Heap→Prop} {v0 v5 v6:AV} {H:Heap} {σ:Type} (s0:σ) (f6:σ→AV) (TH:σ→Heap) (pre:σ→Prop) (μ:σ→Nat)
  (h0:pre s0∧AV.wk v6 (f6 s0)∧Heap.le (TH s0) H)
  (round:∀s,pre s→B60_1 K (fun w6 H'=>∃s',pre s'∧μ s' < μ s∧AV.wk w6 (f6 s')∧Heap.le (TH s') H') v0 v5 (f6 s) (TH s)) :
  L60_1 K v0 v5 v6 H:=by
 unfold L60_1
 exact LoopV.mk s0 (fun s=>[f6 s]) TH pre μ (fun _=>rfl) (Eq.mp (by kernel_rfl) h0) (fun s hs=>Eq.mp (by kernel_rfl) (round s hs))
theorem L60_0_rule {K:AV→Heap→Prop} {v0 v5 v6 v17 v18 v19:AV} {H:Heap} {σ:Type} (s0:σ) (f19:σ→AV) (TH:σ→Heap) (pre:σ→Prop) (μ:σ→Nat)
  (h0:pre s0∧AV.wk v19 (f19 s0)∧Heap.le (TH s0) H)
  (round:∀s,pre s→B60_0 K (fun w19 H'=>∃s',pre s'∧μ s' < μ s∧AV.wk w19 (f19 s')∧Heap.le (TH s') H') v0 v5 v6 v17 v18 (f19 s) (TH s)) :
  L60_0 K v0 v5 v6 v17 v18 v19 H:=by
 unfold L60_0
 exact LoopV.mk s0 (fun s=>[f19 s]) TH pre μ (fun _=>rfl) (Eq.mp (by kernel_rfl) h0) (fun s hs=>Eq.mp (by kernel_rfl) (round s hs))
def D61:Info:=⟨48,fun i=>if i=9 then ([[],[],[],[1,2],[],[],[4,5],[1,2,3,4,5,6],[0,1,2,3,4,5,6,7],[0,1,2,3,4,5,6,7,8]],[(0,[]),(1,[]),(2,[]),(3,[]),(4,[]),(5,[]),(6,[]),(7,[]),(8,[]),(9,[])]) else ([],[]),fun i=>if i=8 then ([7],[8]) else ([],[])⟩
def L61_0 (K:AV→Heap→Prop) (v7:AV) (v8:AV) (H:Heap):Prop:=LoopV (wpC Tryz.prog tab D61 (cAt [1,1,1,1,1,1,0,0,0] (bO_ Tryz.f61))) [7] (PostF.block 0 (PostF.thenA (wpC Tryz.prog tab D61 (cAt [1,1,1,1,1,1,1] (bO_ Tryz.f61))) (retF tab [.tmp 4] K))) [8] [Q_,Q_,Q_,Q_,Q_,Q_,Q_,v7,v8,Q_,Q_,Q_,Q_,Q_,Q_,Q_,Q_,Q_,Q_,Q_,Q_,Q_,Q_,Q_,Q_,Q_,Q_,Q_,Q_,Q_,Q_,Q_,Q_,Q_,Q_,Q_,Q_,Q_,Q_,Q_,Q_,Q_,Q_,Q_,Q_,Q_,Q_,Q_] H
def B61_0 (K:AV→Heap→Prop) (N1:AV→Heap→Prop) (v7:AV) (v8:AV) (H:Heap):Prop:=
 lenV tab 24 v7 fun v36=>
 binV tab .lss 3 v8 v36 fun v37=>
 cV_ v37 (sliceV tab 24 v7 (some v8) none none fun v41=>
 sliceV tab 24 v7 none (some v8) none fun v44=>
 copyV tab 24 v41 v44 H fun v45 H4=>
 binV tab .add 3 v8 v45 fun v46=>
 N1 v46 H4)
 (K v7 H)
def W61 (v0:AV) (v1:AV) (H:Heap) (K:AV→Heap→Prop):Prop:=
 binV tab .lss 3 v1 (AV.p (.int .i64 0)) fun v10=>
 cV_ v10 (False)
 (lenV tab 24 v0 fun v14=>
 convV tab 3 109 v14 fun v15=>
 convV tab 3 109 v1 fun v17=>
 CallT Tryz.prog 103 [v15,v17] H fun v18 H1=>
 xV_ v18 0 fun v19=>
 xV_ v18 1 fun v20=>
 binV tab .gtr 109 v19 (AV.p (.int .u64 0)) fun v22=>
 grdV v22 false (binV tab .gtr 109 v20 (AV.p (.int .u64 9223372036854775807)) fun v25=>
 cV_ v25 (False)
 (convV tab 109 3 v20 fun v29=>
 mS_ tab 24 v29 v29 H1 fun v30 H2=>
 copyV tab 24 v30 v0 H2 fun v33 H3=>
 L61_0 K v30 v33 H3))
 (False))
theorem W61_wp (v0:AV) (v1:AV) (H:Heap) (K:AV→Heap→Prop):wpC Tryz.prog tab D61 (bO_ Tryz.f61) (retF tab [.tmp 4] K) (nthA [v0,v1]) H=W61 v0 v1 H K:=by kernel_rfl
theorem W61_ok {v0 v1:AV} {H:Heap} {K:AV→Heap→Prop} (h:W61 v0 v1 H K):CallT Tryz.prog 61 [v0,v1] H K:=
 CallT.of_wp (D:=D61) tO_ mixed Tryz.func61 (c:=bO_ Tryz.f61) (by kernel_rfl) rfl (by kernel_rfl) (rs:=#[.tmp 4]) rfl (by decide +kernel) (by kernel_rfl) (W61_wp v0 v1 H K) h
theorem L61_0_rule {K:AV→Heap→Prop} {v7 v8:AV} {H:Heap} {σ:Type} (s0:σ) (f8:σ→AV) (TH:σ→Heap) (pre:σ→Prop) (μ:σ→Nat)
  (h0:pre s0∧AV.wk v8 (f8 s0)∧Heap.le (TH s0) H)
  (round:∀s,pre s→B61_0 K (fun w8 H'=>∃s',pre s'∧μ s' < μ s∧AV.wk w8 (f8 s')∧Heap.le (TH s') H') v7 (f8 s) (TH s)) :
  L61_0 K v7 v8 H:=by
 unfold L61_0
 exact LoopV.mk s0 (fun s=>[f8 s]) TH pre μ (fun _=>rfl) (Eq.mp (by kernel_rfl) h0) (fun s hs=>Eq.mp (by kernel_rfl) (round s hs))
def D65:Info:=⟨37,fun i=>([],[]),fun i=>if i=3 then ([3,11,12],[13]) else if i=6 then ([3,4,11,12,13,18,19],[20]) else ([],[])⟩
def L65_0 (K:AV→Heap→Prop) (v3:AV) (v11:AV) (v12:AV) (v13:AV) (H:Heap):Prop:=LoopV (wpC Tryz.prog tab D65 (cAt [1,1,0,1,0,0] (bO_ Tryz.f65))) [3,11,12] (PostF.block 0 (PostF.thenA (wpC Tryz.prog tab D65 (cAt [1,1,1] (bO_ Tryz.f65))) (retF tab [.tmp 2] K))) [13] [Q_,Q_,Q_,v3,Q_,Q_,Q_,Q_,Q_,Q_,Q_,v11,v12,v13,Q_,Q_,Q_,Q_,Q_,Q_,Q_,Q_,Q_,Q_,Q_,Q_,Q_,Q_,Q_,Q_,Q_,Q_,Q_,Q_,Q_,Q_,Q_] H
def L65_1 (K:AV→Heap→Prop) (N1:AV→Heap→Prop) (v3:AV) (v4:AV) (v11:AV) (v12:AV) (v13:AV) (v18:AV) (v19:AV) (v20:AV) (H:Heap):Prop:=LoopV (wpC Tryz.prog tab D65 (cAt [1,1,0,1,0,0,1,1,0,0,1,1,0,0] (bO_ Tryz.f65))) [3,4,11,12,13,18,19] (PostF.block 2 (PostF.block 1 (PostF.thenA (wpC Tryz.prog tab D65 (cAt [1,1,0,1,0,0,1,1,1] (bO_ Tryz.f65))) (loopF (PostF.block 0 (PostF.thenA (wpC Tryz.prog tab D65 (cAt [1,1,1] (bO_ Tryz.f65))) (retF tab [.tmp 2] K))) (fun e h=>N1 (e 13) h))))) [20] [Q_,Q_,Q_,v3,v4,Q_,Q_,Q_,Q_,Q_,Q_,v11,v12,v13,Q_,Q_,Q_,Q_,v18,v19,v20,Q_,Q_,Q_,Q_,Q_,Q_,Q_,Q_,Q_,Q_,Q_,Q_,Q_,Q_,Q_,Q_] H
def B65_1 (K:AV→Heap→Prop) (N1:AV→Heap→Prop) (N2:AV→Heap→Prop) (v3:AV) (v4:AV) (v11:AV) (v12:AV) (v13:AV) (v18:AV) (v19:AV) (v20:AV) (H:Heap):Prop:=
 binV tab .lss 3 v20 v19 fun v21=>
 cV_ v21 (iA_ tab 24 v18 v20 fun v22=>
 lV_ tab 3 v22 H fun v23=>
 iA_ tab 26 v3 v23 fun v28=>
 lV_ tab 24 v28 H fun v29=>
 bS_ tab 24 1 [(0,v4)] H (wkK fun v31 H2=>
 aP_ tab 24 24 v29 v31 H2 (wkK fun v32 H3=>
 iA_ tab 26 v3 v23 fun v33=>
 sV_ tab 24 v33 v32 H3 fun H4=>
 binV tab .add 3 v20 (AV.p (.int .i64 1)) fun v34=>
 N2 v34 H4)))
 (binV tab .add 3 v13 (AV.p (.int .i64 1)) fun v35=>
 N1 v35 H)
def B65_0 (K:AV→Heap→Prop) (N1:AV→Heap→Prop) (v3:AV) (v11:AV) (v12:AV) (v13:AV) (H:Heap):Prop:=
 binV tab .lss 3 v13 v12 fun v14=>
 cV_ v14 (iA_ tab 26 v11 v13 fun v16=>
 lV_ tab 24 v16 H fun v17=>
 lenV tab 24 v17 fun v19=>
 L65_1 K N1 v3 v13 v11 v12 v13 v17 v19 (AV.p (.int .i64 0)) H)
 (K v3 H)
def W65 (v0:AV) (H:Heap) (K:AV→Heap→Prop):Prop:=
 lenV tab 26 v0 fun v9=>
 mS_ tab 26 v9 v9 H fun v10 H1=>
 lenV tab 26 v0 fun v12=>
 L65_0 K v10 v0 v12 (AV.p (.int .i64 0)) H1
theorem W65_wp (v0:AV) (H:Heap) (K:AV→Heap→Prop):wpC Tryz.prog tab D65 (bO_ Tryz.f65) (retF tab [.tmp 2] K) (nthA [v0]) H=W65 v0 H K:=by kernel_rfl
theorem W65_ok {v0:AV} {H:Heap} {K:AV→Heap→Prop} (h:W65 v0 H K):CallT Tryz.prog 65 [v0] H K:=
 CallT.of_wp (D:=D65) tO_ mixed Tryz.func65 (c:=bO_ Tryz.f65) (by kernel_rfl) rfl (by kernel_rfl) (rs:=#[.tmp 2]) rfl (by decide +kernel) (by kernel_rfl) (W65_wp v0 H K) h
theorem L65_1_rule {K:AV→Heap→Prop} {N1:AV→Heap→Prop} {v3 v4 v11 v12 v13 v18 v19 v20:AV} {H:Heap} {σ:Type} (s0:σ) (f20:σ→AV) (TH:σ→Heap) (pre:σ→Prop) (μ:σ→Nat)
  (h0:pre s0∧AV.wk v20 (f20 s0)∧Heap.le (TH s0) H)
  (round:∀s,pre s→B65_1 K N1 (fun w20 H'=>∃s',pre s'∧μ s' < μ s∧AV.wk w20 (f20 s')∧Heap.le (TH s') H') v3 v4 v11 v12 v13 v18 v19 (f20 s) (TH s)) :
  L65_1 K N1 v3 v4 v11 v12 v13 v18 v19 v20 H:=by
 unfold L65_1
 exact LoopV.mk s0 (fun s=>[f20 s]) TH pre μ (fun _=>rfl) (Eq.mp (by kernel_rfl) h0) (fun s hs=>Eq.mp (by kernel_rfl) (round s hs))
theorem L65_0_rule {K:AV→Heap→Prop} {v3 v11 v12 v13:AV} {H:Heap} {σ:Type} (s0:σ) (f13:σ→AV) (TH:σ→Heap) (pre:σ→Prop) (μ:σ→Nat)
  (h0:pre s0∧AV.wk v13 (f13 s0)∧Heap.le (TH s0) H)
  (round:∀s,pre s→B65_0 K (fun w13 H'=>∃s',pre s'∧μ s' < μ s∧AV.wk w13 (f13 s')∧Heap.le (TH s') H') v3 v11 v12 (f13 s) (TH s)) :
  L65_0 K v3 v11 v12 v13 H:=by
 unfold L65_0
 exact LoopV.mk s0 (fun s=>[f13 s]) TH pre μ (fun _=>rfl) (Eq.mp (by kernel_rfl) h0) (fun s hs=>Eq.mp (by kernel_rfl) (round s hs))
def D66:Info:=⟨116,fun i=>if i=8 then ([[],[],[],[1,2],[1,2,3],[],[],[],[6,7],[6,7,8],[5,6,7,8,9],[5,6,7,8,9,10],[5,6,7,8,9,10,11],[5,6,7,8,9,10,11,12],[5,6,7,8,9,10,11,12,13],[5,6,7,8,9,10,11,12,13,14],[5,6,7,8,9,10,11,12,13,14,15],[0,1,2,3,4,5,6,7,8,9,10,11,12,13,14,15,16],[0,1,2,3,4,5,6,7,8,9,10,11,12,13,14,15,16,17]],[(0,[]),(1,[]),(2,[]),(3,[]),(4,[]),(5,[]),(6,[]),(7,[]),(8,[]),(9,[]),(10,[]),(11,[]),(12,[]),(13,[]),(14,[]),(15,[]),(16,[]),(17,[]),(18,[])]) else ([],[]),fun i=>if i=6 then ([0,1,5,7,8,28,29],[30]) else if i=11 then ([0,1,5,7,8,54,55],[56]) else if i=14 then ([0,1,5,7,8,11,54,55,56,61,62],[63]) else if i=22 then ([1,5,7,8,87],[15,88]) else ([],[])⟩
def L66_0 (K:AV→Heap→Prop) (v0:AV) (v1:AV) (v5:AV) (v7:AV) (v8:AV) (v28:AV) (v29:AV) (v30:AV) (H:Heap):Prop:=LoopV (wpC Tryz.prog tab D66 (cAt [1,1,1,1,1,0,1,0,0] (bO_ Tryz.f66))) [0,1,5,7,8,28,29] (PostF.block 0 (PostF.thenA (wpC Tryz.prog tab D66 (cAt [1,1,1,1,1,1] (bO_ Tryz.f66))) (retF tab [.tmp 4] K))) [30] [v0,v1,Q_,Q_,Q_,v5,Q_,v7,v8,Q_,Q_,Q_,Q_,Q_,Q_,Q_,Q_,Q_,Q_,Q_,Q_,Q_,Q_,Q_,Q_,Q_,Q_,Q_,v28,v29,v30,Q_,Q_,Q_,Q_,Q_,Q_,Q_,Q_,Q_,Q_,Q_,Q_,Q_,Q_,Q_,Q_,Q_,Q_,Q_,Q_,Q_,Q_,Q_,Q_,Q_,Q_,Q_,Q_,Q_,Q_,Q_,Q_,Q_,Q_,Q_,Q_,Q_,Q_,Q_,Q_,Q_,Q_,Q_,Q_,Q_,Q_,Q_,Q_,Q_,Q_,Q_,Q_,Q_,Q_,Q_,Q_,Q_,Q_,Q_,Q_,Q_,Q_,Q_,Q_,Q_,Q_,Q_,Q_,Q_,Q_,Q_,Q_,Q_,Q_,Q_,Q_,Q_,Q_,Q_,Q_,Q_,Q_,Q_,Q_,Q_] H
def L66_1 (K:AV→Heap→Prop) (v0:AV) (v1:AV) (v5:AV) (v7:AV) (v8:AV) (v54:AV) (v55:AV) (v56:AV) (H:Heap):Prop:=LoopV (wpC Tryz.prog tab D66 (cAt [1,1,1,1,1,1,0,1,0,0] (bO_ Tryz.f66))) [0,1,5,7,8,54,55] (PostF.block 2 (PostF.thenA (wpC Tryz.prog tab D66 (cAt [1,1,1,1,1,1,1] (bO_ Tryz.f66))) (retF tab [.tmp 4] K))) [56] [v0,v1,Q_,Q_,Q_,v5,Q_,v7,v8,Q_,Q_,Q_,Q_,Q_,Q_,Q_,Q_,Q_,Q_,Q_,Q_,Q_,Q_,Q_,Q_,Q_,Q_,Q_,Q_,Q_,Q_,Q_,Q_,Q_,Q_,Q_,Q_,Q_,Q_,Q_,Q_,Q_,Q_,Q_,Q_,Q_,Q_,Q_,Q_,Q_,Q_,Q_,Q_,Q_,v54,v55,v56,Q_,Q_,Q_,Q_,Q_,Q_,Q_,Q_,Q_,Q_,Q_,Q_,Q_,Q_,Q_,Q_,Q_,Q_,Q_,Q_,Q_,Q_,Q_,Q_,Q_,Q_,Q_,Q_,Q_,Q_,Q_,Q_,Q_,Q_,Q_,Q_,Q_,Q_,Q_,Q_,Q_,Q_,Q_,Q_,Q_,Q_,Q_,Q_,Q_,Q_,Q_,Q_,Q_,Q_,Q_,Q_,Q_,Q_,Q_] H
def L66_2 (K:AV→Heap→Prop) (N1:AV→Heap→Prop) (v0:AV) (v1:AV) (v5:AV) (v7:AV) (v8:AV) (v11:AV) (v54:AV) (v55:AV) (v56:AV) (v61:AV) (v62:AV) (v63:AV) (H:Heap):Prop:=LoopV (wpC Tryz.prog tab D66 (cAt [1,1,1,1,1,1,0,1,0,0,1,1,0,0,1,1,0,0] (bO_ Tryz.f66))) [0,1,5,7,8,11,54,55,56,61,62] (PostF.block 4 (PostF.block 3 (PostF.thenA (wpC Tryz.prog tab D66 (cAt [1,1,1,1,1,1,0,1,0,0,1,1,1] (bO_ Tryz.f66))) (loopF (PostF.block 2 (PostF.thenA (wpC Tryz.prog tab D66 (cAt [1,1,1,1,1,1,1] (bO_ Tryz.f66))) (retF tab [.tmp 4] K))) (fun e h=>N1 (e 56) h))))) [63] [v0,v1,Q_,Q_,Q_,v5,Q_,v7,v8,Q_,Q_,v11,Q_,Q_,Q_,Q_,Q_,Q_,Q_,Q_,Q_,Q_,Q_,Q_,Q_,Q_,Q_,Q_,Q_,Q_,Q_,Q_,Q_,Q_,Q_,Q_,Q_,Q_,Q_,Q_,Q_,Q_,Q_,Q_,Q_,Q_,Q_,Q_,Q_,Q_,Q_,Q_,Q_,Q_,v54,v55,v56,Q_,Q_,Q_,Q_,v61,v62,v63,Q_,Q_,Q_,Q_,Q_,Q_,Q_,Q_,Q_,Q_,Q_,Q_,Q_,Q_,Q_,Q_,Q_,Q_,Q_,Q_,Q_,Q_,Q_,Q_,Q_,Q_,Q_,Q_,Q_,Q_,Q_,Q_,Q_,Q_,Q_,Q_,Q_,Q_,Q_,Q_,Q_,Q_,Q_,Q_,Q_,Q_,Q_,Q_,Q_,Q_,Q_,Q_] H
def B66_2 (K:AV→Heap→Prop) (N1:AV→Heap→Prop) (N2:AV→Heap→Prop) (v0:AV) (v1:AV) (v5:AV) (v7:AV) (v8:AV) (v11:AV) (v54:AV) (v55:AV) (v56:AV) (v61:AV) (v62:AV) (v63:AV) (H:Heap):Prop:=
 binV tab .lss 3 v63 v62 fun v64=>
 cV_ v64 (iA_ tab 24 v61 v63 fun v65=>
 lV_ tab 3 v65 H fun v66=>
 iA_ tab 24 v5 v66 fun v70=>
 lV_ tab 3 v70 H fun v71=>
 iA_ tab 24 v8 v71 fun v72=>
 lV_ tab 3 v72 H fun v73=>
 binV tab .eql 3 v73 v11 fun v75=>
 cV_ v75 (iA_ tab 24 v5 v66 fun v79=>
 lV_ tab 3 v79 H fun v80=>
 binV tab .add 3 v11 (AV.p (.int .i64 1)) fun v82=>
 iA_ tab 24 v8 v80 fun v83=>
 sV_ tab 3 v83 v82 H fun H7=>
 binV tab .add 3 v63 (AV.p (.int .i64 1)) fun v84=>
 N2 v84 H7)
 (binV tab .add 3 v63 (AV.p (.int .i64 1)) fun v84=>
 N2 v84 H))
 (binV tab .add 3 v56 (AV.p (.int .i64 1)) fun v85=>
 N1 v85 H)
def L66_3 (K:AV→Heap→Prop) (v1:AV) (v5:AV) (v7:AV) (v8:AV) (v15:AV) (v87:AV) (v88:AV) (H:Heap):Prop:=LoopV (wpC Tryz.prog tab D66 (cAt [1,1,1,1,1,1,1,1,0,1,0,0] (bO_ Tryz.f66))) [1,5,7,8,87] (PostF.block 6 (PostF.thenA (wpC Tryz.prog tab D66 (cAt [1,1,1,1,1,1,1,1,1] (bO_ Tryz.f66))) (retF tab [.tmp 4] K))) [15,88] [Q_,v1,Q_,Q_,Q_,v5,Q_,v7,v8,Q_,Q_,Q_,Q_,Q_,Q_,v15,Q_,Q_,Q_,Q_,Q_,Q_,Q_,Q_,Q_,Q_,Q_,Q_,Q_,Q_,Q_,Q_,Q_,Q_,Q_,Q_,Q_,Q_,Q_,Q_,Q_,Q_,Q_,Q_,Q_,Q_,Q_,Q_,Q_,Q_,Q_,Q_,Q_,Q_,Q_,Q_,Q_,Q_,Q_,Q_,Q_,Q_,Q_,Q_,Q_,Q_,Q_,Q_,Q_,Q_,Q_,Q_,Q_,Q_,Q_,Q_,Q_,Q_,Q_,Q_,Q_,Q_,Q_,Q_,Q_,Q_,Q_,v87,v88,Q_,Q_,Q_,Q_,Q_,Q_,Q_,Q_,Q_,Q_,Q_,Q_,Q_,Q_,Q_,Q_,Q_,Q_,Q_,Q_,Q_,Q_,Q_,Q_,Q_,Q_,Q_] H
def B66_3 (K:AV→Heap→Prop) (N1:AV→AV→Heap→Prop) (v1:AV) (v5:AV) (v7:AV) (v8:AV) (v15:AV) (v87:AV) (v88:AV) (H:Heap):Prop:=
 binV tab .lss 3 v88 v87 fun v89=>
 cV_ v89 (iA_ tab 24 v5 v88 fun v94=>
 lV_ tab 3 v94 H fun v95=>
 iA_ tab 87 v7 v95 fun v96=>
 lV_ tab 4 v96 H fun v97=>
 grdV v97 true (iA_ tab 24 v5 v88 fun v102=>
 lV_ tab 3 v102 H fun v103=>
 iA_ tab 24 v8 v103 fun v104=>
 lV_ tab 3 v104 H fun v105=>
 lenV tab 26 v1 fun v107=>
 binV tab .eql 3 v105 v107 fun v108=>
 cV_ v108 (bS_ tab 24 1 [(0,v88)] H (wkK fun v112 H8=>
 aP_ tab 24 24 v15 v112 H8 (wkK fun v113 H9=>
 binV tab .add 3 v88 (AV.p (.int .i64 1)) fun v114=>
 N1 v113 v114 H9)))
 (binV tab .add 3 v88 (AV.p (.int .i64 1)) fun v114=>
 N1 v15 v114 H))
 (binV tab .add 3 v88 (AV.p (.int .i64 1)) fun v114=>
 N1 v15 v114 H))
 (K v15 H)
def B66_1 (K:AV→Heap→Prop) (N1:AV→Heap→Prop) (v0:AV) (v1:AV) (v5:AV) (v7:AV) (v8:AV) (v54:AV) (v55:AV) (v56:AV) (H:Heap):Prop:=
 binV tab .lss 3 v56 v55 fun v57=>
 cV_ v57 (iA_ tab 26 v54 v56 fun v59=>
 lV_ tab 24 v59 H fun v60=>
 lenV tab 24 v60 fun v62=>
 L66_2 K N1 v0 v1 v5 v7 v8 v56 v54 v55 v56 v60 v62 (AV.p (.int .i64 0)) H)
 (lenV tab 26 v0 fun v87=>
 L66_3 K v1 v5 v7 v8 (AV.p .nil) v87 (AV.p (.int .i64 0)) H)
def B66_0 (K:AV→Heap→Prop) (N1:AV→Heap→Prop) (v0:AV) (v1:AV) (v5:AV) (v7:AV) (v8:AV) (v28:AV) (v29:AV) (v30:AV) (H:Heap):Prop:=
 binV tab .lss 3 v30 v29 fun v31=>
 cV_ v31 (iA_ tab 26 v28 v30 fun v33=>
 lV_ tab 24 v33 H fun v34=>
 iA_ tab 24 v5 v30 fun v38=>
 lV_ tab 3 v38 H fun v39=>
 iA_ tab 24 v5 v30 fun v43=>
 lV_ tab 3 v43 H fun v44=>
 iA_ tab 87 v7 v44 fun v45=>
 lV_ tab 4 v45 H fun v46=>
 grdV v46 false (lenV tab 24 v34 fun v49=>
 binV tab .gtr 3 v49 (AV.p (.int .i64 0)) fun v50=>
 iA_ tab 87 v7 v39 fun v52=>
 sV_ tab 4 v52 v50 H fun H5=>
 binV tab .add 3 v30 (AV.p (.int .i64 1)) fun v53=>
 N1 v53 H5)
 (iA_ tab 87 v7 v39 fun v52=>
 sV_ tab 4 v52 (AV.p (.bool true)) H fun H6=>
 binV tab .add 3 v30 (AV.p (.int .i64 1)) fun v53=>
 N1 v53 H6))
 (lenV tab 26 v1 fun v55=>
 L66_1 K v0 v1 v5 v7 v8 v1 v55 (AV.p (.int .i64 0)) H)
def W66 (v0:AV) (v1:AV) (H:Heap) (K:AV→Heap→Prop):Prop:=
 CallT Tryz.prog 91 [v0] H fun v18 H1=>
 CallT Tryz.prog 92 [v0,v18] H1 fun v21 H2=>
 lenV tab 26 v0 fun v23=>
 mS_ tab 87 v23 v23 H2 fun v24 H3=>
 lenV tab 26 v0 fun v26=>
 mS_ tab 24 v26 v26 H3 fun v27 H4=>
 lenV tab 26 v21 fun v29=>
 L66_0 K v0 v1 v18 v24 v27 v21 v29 (AV.p (.int .i64 0)) H4
theorem W66_wp (v0:AV) (v1:AV) (H:Heap) (K:AV→Heap→Prop):wpC Tryz.prog tab D66 (bO_ Tryz.f66) (retF tab [.tmp 4] K) (nthA [v0,v1]) H=W66 v0 v1 H K:=by kernel_rfl
theorem W66_ok {v0 v1:AV} {H:Heap} {K:AV→Heap→Prop} (h:W66 v0 v1 H K):CallT Tryz.prog 66 [v0,v1] H K:=
 CallT.of_wp (D:=D66) tO_ mixed Tryz.func66 (c:=bO_ Tryz.f66) (by kernel_rfl) rfl (by kernel_rfl) (rs:=#[.tmp 4]) rfl (by decide +kernel) (by kernel_rfl) (W66_wp v0 v1 H K) h
theorem L66_2_rule {K:AV→Heap→Prop} {N1:AV→Heap→Prop} {v0 v1 v5 v7 v8 v11 v54 v55 v56 v61 v62 v63:AV} {H:Heap} {σ:Type} (s0:σ) (f63:σ→AV) (TH:σ→Heap) (pre:σ→Prop) (μ:σ→Nat)
  (h0:pre s0∧AV.wk v63 (f63 s0)∧Heap.le (TH s0) H)
  (round:∀s,pre s→B66_2 K N1 (fun w63 H'=>∃s',pre s'∧μ s' < μ s∧AV.wk w63 (f63 s')∧Heap.le (TH s') H') v0 v1 v5 v7 v8 v11 v54 v55 v56 v61 v62 (f63 s) (TH s)) :
  L66_2 K N1 v0 v1 v5 v7 v8 v11 v54 v55 v56 v61 v62 v63 H:=by
 unfold L66_2
 exact LoopV.mk s0 (fun s=>[f63 s]) TH pre μ (fun _=>rfl) (Eq.mp (by kernel_rfl) h0) (fun s hs=>Eq.mp (by kernel_rfl) (round s hs))
theorem L66_3_rule {K:AV→Heap→Prop} {v1 v5 v7 v8 v15 v87 v88:AV} {H:Heap} {σ:Type} (s0:σ) (f15:σ→AV) (f88:σ→AV) (TH:σ→Heap) (pre:σ→Prop) (μ:σ→Nat)
  (h0:pre s0∧AV.wk v15 (f15 s0)∧AV.wk v88 (f88 s0)∧Heap.le (TH s0) H)
  (round:∀s,pre s→B66_3 K (fun w15 w88 H'=>∃s',pre s'∧μ s' < μ s∧AV.wk w15 (f15 s')∧AV.wk w88 (f88 s')∧Heap.le (TH s') H') v1 v5 v7 v8 (f15 s) v87 (f88 s) (TH s)) :
  L66_3 K v1 v5 v7 v8 v15 v87 v88 H:=by
 unfold L66_3
 exact LoopV.mk s0 (fun s=>[f15 s,f88 s]) TH pre μ (fun _=>rfl) (Eq.mp (by kernel_rfl) h0) (fun s hs=>Eq.mp (by kernel_rfl) (round s hs))
theorem L66_1_rule {K:AV→Heap→Prop} {v0 v1 v5 v7 v8 v54 v55 v56:AV} {H:Heap} {σ:Type} (s0:σ) (f56:σ→AV) (TH:σ→Heap) (pre:σ→Prop) (μ:σ→Nat)
  (h0:pre s0∧AV.wk v56 (f56 s0)∧Heap.le (TH s0) H)
  (round:∀s,pre s→B66_1 K (fun w56 H'=>∃s',pre s'∧μ s' < μ s∧AV.wk w56 (f56 s')∧Heap.le (TH s') H') v0 v1 v5 v7 v8 v54 v55 (f56 s) (TH s)) :
  L66_1 K v0 v1 v5 v7 v8 v54 v55 v56 H:=by
 unfold L66_1
 exact LoopV.mk s0 (fun s=>[f56 s]) TH pre μ (fun _=>rfl) (Eq.mp (by kernel_rfl) h0) (fun s hs=>Eq.mp (by kernel_rfl) (round s hs))
theorem L66_0_rule {K:AV→Heap→Prop} {v0 v1 v5 v7 v8 v28 v29 v30:AV} {H:Heap} {σ:Type} (s0:σ) (f30:σ→AV) (TH:σ→Heap) (pre:σ→Prop) (μ:σ→Nat)
  (h0:pre s0∧AV.wk v30 (f30 s0)∧Heap.le (TH s0) H)
  (round:∀s,pre s→B66_0 K (fun w30 H'=>∃s',pre s'∧μ s' < μ s∧AV.wk w30 (f30 s')∧Heap.le (TH s') H') v0 v1 v5 v7 v8 v28 v29 (f30 s) (TH s)) :
  L66_0 K v0 v1 v5 v7 v8 v28 v29 v30 H:=by
 unfold L66_0
 exact LoopV.mk s0 (fun s=>[f30 s]) TH pre μ (fun _=>rfl) (Eq.mp (by kernel_rfl) h0) (fun s hs=>Eq.mp (by kernel_rfl) (round s hs))
def D69:Info:=⟨20,fun i=>([],[]),fun i=>([],[])⟩
def W69 (v0:AV) (v1:AV) (H:Heap) (K:AV→Heap→Prop):Prop:=
 binV tab .leq 3 v1 (AV.p (.int .i64 1)) fun v7=>
 cV_ v7 (K (AV.p (.int .i64 0)) H)
 (CallT Tryz.prog 106 [v0] H fun v9 H1=>
 binV tab .gtr 3 v1 (AV.p (.int .i64 200)) fun v11=>
 cV_ v11 (binV tab .mul 3 v9 (AV.p (.int .i64 256)) fun v13=>
 CallT Tryz.prog 106 [v0] H1 fun v15 H2=>
 binV tab .add 3 v13 v15 fun v16=>
 binV tab .rem 3 v16 v1 fun v19=>
 K v19 H2)
 (binV tab .rem 3 v9 v1 fun v19=>
 K v19 H1))
theorem W69_wp (v0:AV) (v1:AV) (H:Heap) (K:AV→Heap→Prop):wpC Tryz.prog tab D69 (bO_ Tryz.f69) (retF tab [.tmp 4] K) (nthA [v0,v1]) H=W69 v0 v1 H K:=by kernel_rfl
theorem W69_ok {v0 v1:AV} {H:Heap} {K:AV→Heap→Prop} (h:W69 v0 v1 H K):CallT Tryz.prog 69 [v0,v1] H K:=
 CallT.of_wp (D:=D69) tO_ mixed Tryz.func69 (c:=bO_ Tryz.f69) (by kernel_rfl) rfl (by kernel_rfl) (rs:=#[.tmp 4]) rfl (by decide +kernel) (by kernel_rfl) (W69_wp v0 v1 H K) h
end Go.Proofs.YtohkciilfkhomaaGreat
namespace Go.Proofs.YtohkciilfkhomaaGreat
open Go Go.Sep
attribute [local irreducible] wpC headF
def D70:Info:=⟨35,fun i=>([],[]),fun i=>if i=2 then ([0,1,7,8],[9]) else ([],[])⟩
def L70_0 (K:AV→Heap→Prop) (v0:AV) (v1:AV) (v7:AV) (v8:AV) (v9:AV) (H:Heap):Prop:=LoopV (wpC Tryz.prog tab D70 (cAt [1,0,1,0,0] (bO_ Tryz.f70))) [0,1,7,8] (PostF.block 0 (PostF.thenA (wpC Tryz.prog tab D70 (cAt [1,1] (bO_ Tryz.f70))) (retF tab [.tmp 4] K))) [9] [v0,v1,Q_,Q_,Q_,Q_,Q_,v7,v8,v9,Q_,Q_,Q_,Q_,Q_,Q_,Q_,Q_,Q_,Q_,Q_,Q_,Q_,Q_,Q_,Q_,Q_,Q_,Q_,Q_,Q_,Q_,Q_,Q_,Q_] H
def B70_0 (K:AV→Heap→Prop) (N1:AV→Heap→Prop) (v0:AV) (v1:AV) (v7:AV) (v8:AV) (v9:AV) (H:Heap):Prop:=
 binV tab .lss 3 v9 v8 fun v10=>
 cV_ v10 (iA_ tab 24 v7 v9 fun v12=>
 lV_ tab 3 v12 H fun v13=>
 binV tab .lss 3 v13 (AV.p (.int .i64 0)) fun v15=>
 grdV v15 false (binV tab .geq 3 v13 v1 fun v19=>
 grdV v19 false (binV tab .gtr 3 v9 (AV.p (.int .i64 0)) fun v23=>
 grdV v23 true (binV tab .sub 3 v9 (AV.p (.int .i64 1)) fun v27=>
 iA_ tab 24 v0 v27 fun v28=>
 lV_ tab 3 v28 H fun v29=>
 binV tab .geq 3 v29 v13 fun v31=>
 cV_ v31 (K (AV.p (.bool false)) H)
 (binV tab .add 3 v9 (AV.p (.int .i64 1)) fun v34=>
 N1 v34 H))
 (binV tab .add 3 v9 (AV.p (.int .i64 1)) fun v34=>
 N1 v34 H))
 (K (AV.p (.bool false)) H))
 (K (AV.p (.bool false)) H))
 (K (AV.p (.bool true)) H)
def W70 (v0:AV) (v1:AV) (H:Heap) (K:AV→Heap→Prop):Prop:=
 lenV tab 24 v0 fun v8=>
 L70_0 K v0 v1 v0 v8 (AV.p (.int .i64 0)) H
theorem W70_wp (v0:AV) (v1:AV) (H:Heap) (K:AV→Heap→Prop):wpC Tryz.prog tab D70 (bO_ Tryz.f70) (retF tab [.tmp 4] K) (nthA [v0,v1]) H=W70 v0 v1 H K:=by kernel_rfl
theorem W70_ok {v0 v1:AV} {H:Heap} {K:AV→Heap→Prop} (h:W70 v0 v1 H K):CallT Tryz.prog 70 [v0,v1] H K:=
 CallT.of_wp (D:=D70) tO_ mixed Tryz.func70 (c:=bO_ Tryz.f70) (by kernel_rfl) rfl (by kernel_rfl) (rs:=#[.tmp 4]) rfl (by decide +kernel) (by kernel_rfl) (W70_wp v0 v1 H K) h
theorem L70_0_rule {K:AV→Heap→Prop} {v0 v1 v7 v8 v9:AV} {H:Heap} {σ:Type} (s0:σ) (f9:σ→AV) (TH:σ→Heap) (pre:σ→Prop) (μ:σ→Nat)
  (h0:pre s0∧AV.wk v9 (f9 s0)∧Heap.le (TH s0) H)
  (round:∀s,pre s→B70_0 K (fun w9 H'=>∃s',pre s'∧μ s' < μ s∧AV.wk w9 (f9 s')∧Heap.le (TH s') H') v0 v1 v7 v8 (f9 s) (TH s)) :
  L70_0 K v0 v1 v7 v8 v9 H:=by
 unfold L70_0
 exact LoopV.mk s0 (fun s=>[f9 s]) TH pre μ (fun _=>rfl) (Eq.mp (by kernel_rfl) h0) (fun s hs=>Eq.mp (by kernel_rfl) (round s hs))
def D73:Info:=⟨9,fun i=>([],[]),fun i=>([],[])⟩
def W73 (v0:AV) (v1:AV) (H:Heap) (K:AV→Heap→Prop):Prop:=
 binV tab .sub 3 v1 (AV.p (.int .i64 1)) fun v7=>
 CallT Tryz.prog 107 [v0,(AV.p (.int .i64 0)),v7] H fun v8 H1=>
 K v8 H1
theorem W73_wp (v0:AV) (v1:AV) (H:Heap) (K:AV→Heap→Prop):wpC Tryz.prog tab D73 (bO_ Tryz.f73) (retF tab [.tmp 4] K) (nthA [v0,v1]) H=W73 v0 v1 H K:=by kernel_rfl
theorem W73_ok {v0 v1:AV} {H:Heap} {K:AV→Heap→Prop} (h:W73 v0 v1 H K):CallT Tryz.prog 73 [v0,v1] H K:=
 CallT.of_wp (D:=D73) tO_ mixed Tryz.func73 (c:=bO_ Tryz.f73) (by kernel_rfl) rfl (by kernel_rfl) (rs:=#[.tmp 4]) rfl (by decide +kernel) (by kernel_rfl) (W73_wp v0 v1 H K) h
def D75:Info:=⟨14,fun i=>([],[]),fun i=>([],[])⟩
def W75 (v0:AV) (v1:AV) (H:Heap) (K:AV→Heap→Prop):Prop:=
 boxV v1 H fun v3 H1=>
 lenV tab 26 v0 fun v6=>
 binV tab .leq 3 v6 (AV.p (.int .i64 6)) fun v7=>
 grdV v7 true (CallT Tryz.prog 109 [v0,(.fn 110 [v3])] H1 fun v11 H2=>
 unV .not v11 fun v12=>
 K v12 H2)
 (K (AV.p (.bool false)) H1)
theorem W75_wp (v0:AV) (v1:AV) (H:Heap) (K:AV→Heap→Prop):wpC Tryz.prog tab D75 (bO_ Tryz.f75) (retF tab [.tmp 4] K) (nthA [v0,v1]) H=W75 v0 v1 H K:=by kernel_rfl
theorem W75_ok {v0 v1:AV} {H:Heap} {K:AV→Heap→Prop} (h:W75 v0 v1 H K):CallT Tryz.prog 75 [v0,v1] H K:=
 CallT.of_wp (D:=D75) tO_ mixed Tryz.func75 (c:=bO_ Tryz.f75) (by kernel_rfl) rfl (by kernel_rfl) (rs:=#[.tmp 4]) rfl (by decide +kernel) (by kernel_rfl) (W75_wp v0 v1 H K) h
def D76:Info:=⟨22,fun i=>if i=1 then ([[],[0],[],[2],[0,1,2,3],[],[5],[],[7],[0,1,2,3,4,5,6,7,8],[],[10],[],[12],[0,1,2,3,4,5,6,7,8,9,10,11,12,13],[0,1,2,3,4,5,6,7,8,9,10,11,12,13,14],[0,1,2,3,4,5,6,7,8,9,10,11,12,13,14,15],[0,1,2,3,4,5,6,7,8,9,10,11,12,13,14,15,16]],[(0,[]),(1,[]),(2,[]),(3,[]),(5,[]),(6,[]),(7,[]),(8,[]),(10,[]),(11,[]),(12,[]),(13,[]),(4,[6,8,11,13]),(9,[11,13]),(14,[]),(15,[]),(16,[]),(17,[])]) else ([],[]),fun i=>([],[])⟩
def W76 (v0:AV) (v1:AV) (H:Heap) (K:AV→Heap→Prop):Prop:=
 boxV v0 H fun v2 H1=>
 boxV v1 H1 fun v3 H2=>
 fA_ tab 66 v2 0 fun v5=>
 lV_ tab 3 v5 H2 fun v6=>
 fA_ tab 66 v3 0 fun v7=>
 lV_ tab 3 v7 H2 fun v8=>
 fA_ tab 66 v2 1 fun v10=>
 lV_ tab 3 v10 H2 fun v11=>
 fA_ tab 66 v3 1 fun v12=>
 lV_ tab 3 v12 H2 fun v13=>
 fA_ tab 66 v2 2 fun v15=>
 lV_ tab 3 v15 H2 fun v16=>
 fA_ tab 66 v3 2 fun v17=>
 lV_ tab 3 v17 H2 fun v18=>
 CallT Tryz.prog 112 [v6,v8] H2 fun v9 H3=>
 (lV_ tab 3 v10 H3 fun v9011=>
 v11=v9011)∧
 (lV_ tab 3 v12 H3 fun v9013=>
 v13=v9013)∧
 (lV_ tab 3 v15 H3 fun v9016=>
 v16=v9016)∧
 (lV_ tab 3 v17 H3 fun v9018=>
 v18=v9018)∧
 CallT Tryz.prog 112 [v11,v13] H3 fun v14 H4=>
 (lV_ tab 3 v15 H4 fun v9016=>
 v16=v9016)∧
 (lV_ tab 3 v17 H4 fun v9018=>
 v18=v9018)∧
 CallT Tryz.prog 112 [v16,v18] H4 fun v19 H5=>
 bS_ tab 24 3 [(0,v9),(1,v14),(2,v19)] H5 (wkK fun v20 H6=>
 CallT Tryz.prog 111 [v20] H6 fun v21 H7=>
 K v21 H7)
theorem W76_wp (v0:AV) (v1:AV) (H:Heap) (K:AV→Heap→Prop):wpC Tryz.prog tab D76 (bO_ Tryz.f76) (retF tab [.tmp 4] K) (nthA [v0,v1]) H=W76 v0 v1 H K:=by kernel_rfl
theorem W76_ok {v0 v1:AV} {H:Heap} {K:AV→Heap→Prop} (h:W76 v0 v1 H K):CallT Tryz.prog 76 [v0,v1] H K:=
 CallT.of_wp (D:=D76) tO_ mixed Tryz.func76 (c:=bO_ Tryz.f76) (by kernel_rfl) rfl (by kernel_rfl) (rs:=#[.tmp 4]) rfl (by decide +kernel) (by kernel_rfl) (W76_wp v0 v1 H K) h
def D77:Info:=⟨75,fun i=>if i=5 then ([[],[],[0,1],[0,1,2],[0,1,2,3],[0,1,2,3,4],[0,1,2,3,4,5],[0,1,2,3,4,5,6],[0,1,2,3,4,5,6,7],[0,1,2,3,4,5,6,7,8],[0,1,2,3,4,5,6,7,8],[0,1,2,3,4,5,6,7,8,9,10],[0,1,2,3,4,5,6,7,8,9,10,11],[0,1,2,3,4,5,6,7,8],[0,1,2,3,4,5,6,7,8],[0,1,2,3,4,5,6,7,8,13,14],[0,1,2,3,4,5,6,7,8,13,14,15],[0,1,2,3,4,5,6,7,8,9,10,11,12,13,14,15,16],[0,1,2,3,4,5,6,7,8,9,10,11,12,13,14,15,16,17],[0,1,2,3,4,5,6,7,8,9,10,11,12,13,14,15,16,17,18]],[(0,[]),(1,[]),(2,[]),(3,[]),(4,[]),(5,[]),(6,[]),(7,[]),(8,[]),(9,[]),(10,[]),(11,[]),(12,[]),(13,[]),(14,[]),(15,[]),(16,[]),(17,[]),(18,[]),(19,[])]) else ([],[]),fun i=>if i=3 then ([0,7,18,19],[8,20]) else if i=12 then ([0,7],[11,12]) else ([],[])⟩
def L77_0 (K:AV→Heap→Prop) (v0:AV) (v7:AV) (v8:AV) (v18:AV) (v19:AV) (v20:AV) (H:Heap):Prop:=LoopV (wpC Tryz.prog tab D77 (cAt [1,1,0,1,0,0] (bO_ Tryz.f77))) [0,7,18,19] (PostF.block 0 (PostF.thenA (wpC Tryz.prog tab D77 (cAt [1,1,1] (bO_ Tryz.f77))) (retF tab [.tmp 6] K))) [8,20] [v0,Q_,Q_,Q_,Q_,Q_,Q_,v7,v8,Q_,Q_,Q_,Q_,Q_,Q_,Q_,Q_,Q_,v18,v19,v20,Q_,Q_,Q_,Q_,Q_,Q_,Q_,Q_,Q_,Q_,Q_,Q_,Q_,Q_,Q_,Q_,Q_,Q_,Q_,Q_,Q_,Q_,Q_,Q_,Q_,Q_,Q_,Q_,Q_,Q_,Q_,Q_,Q_,Q_,Q_,Q_,Q_,Q_,Q_,Q_,Q_,Q_,Q_,Q_,Q_,Q_,Q_,Q_,Q_,Q_,Q_,Q_,Q_,Q_] H
def L77_1 (K:AV→Heap→Prop) (v0:AV) (v7:AV) (v11:AV) (v12:AV) (H:Heap):Prop:=LoopV (wpC Tryz.prog tab D77 (cAt [1,1,1,1,1,0,1,0,0] (bO_ Tryz.f77))) [0,7] (PostF.block 2 (PostF.thenA (wpC Tryz.prog tab D77 (cAt [1,1,1,1,1,1] (bO_ Tryz.f77))) (retF tab [.tmp 6] K))) [11,12] [v0,Q_,Q_,Q_,Q_,Q_,Q_,v7,Q_,Q_,Q_,v11,v12,Q_,Q_,Q_,Q_,Q_,Q_,Q_,Q_,Q_,Q_,Q_,Q_,Q_,Q_,Q_,Q_,Q_,Q_,Q_,Q_,Q_,Q_,Q_,Q_,Q_,Q_,Q_,Q_,Q_,Q_,Q_,Q_,Q_,Q_,Q_,Q_,Q_,Q_,Q_,Q_,Q_,Q_,Q_,Q_,Q_,Q_,Q_,Q_,Q_,Q_,Q_,Q_,Q_,Q_,Q_,Q_,Q_,Q_,Q_,Q_,Q_,Q_] H
def B77_1 (K:AV→Heap→Prop) (N1:AV→AV→Heap→Prop) (v0:AV) (v7:AV) (v11:AV) (v12:AV) (H:Heap):Prop:=
 lV_ tab 24 v7 H fun v51=>
 lV_ tab 3 v12 H fun v52=>
 iA_ tab 24 v51 v52 fun v53=>
 lV_ tab 3 v53 H fun v54=>
 binV tab .gtr 3 v54 (AV.p (.int .i64 0)) fun v55=>
 cV_ v55 (lV_ tab 3 v12 H fun v57=>
 iA_ tab 26 v0 v57 fun v58=>
 lV_ tab 24 v58 H fun v59=>
 CallT Tryz.prog 113 [v59,(.fn 114 [v7,v12])] H fun v61 H8=>
 lV_ tab 3 v12 H8 fun v63=>
 iA_ tab 26 v0 v63 fun v64=>
 lV_ tab 24 v64 H8 fun v65=>
 iA_ tab 24 v65 v61 fun v67=>
 lV_ tab 3 v67 H8 fun v68=>
 sV_ tab 3 v12 v68 H8 fun H9=>
 lV_ tab 3 v12 H9 fun v70=>
 bS_ tab 24 1 [(0,v70)] H9 (wkK fun v71 H10=>
 aP_ tab 24 24 v11 v71 H10 (wkK fun v72 H11=>
 lV_ tab 3 v12 H11 fun v73=>
 allocV tab 3 H11 fun v12 H12=>
 sV_ tab 3 v12 v73 H12 fun H13=>
 N1 v72 v12 H13)))
 (K v11 H)
def B77_0 (K:AV→Heap→Prop) (N1:AV→AV→Heap→Prop) (v0:AV) (v7:AV) (v8:AV) (v18:AV) (v19:AV) (v20:AV) (H:Heap):Prop:=
 binV tab .lss 3 v20 v19 fun v21=>
 cV_ v21 (iA_ tab 24 v18 v20 fun v22=>
 lV_ tab 3 v22 H fun v23=>
 lV_ tab 24 v7 H fun v24=>
 iA_ tab 24 v24 v23 fun v26=>
 lV_ tab 3 v26 H fun v27=>
 binV tab .geq 3 v27 (AV.p (.int .i64 0)) fun v28=>
 grdV v28 true (binV tab .lss 3 v8 (AV.p (.int .i64 0)) fun v31=>
 grdV v31 false (lV_ tab 24 v7 H fun v33=>
 iA_ tab 24 v33 v23 fun v35=>
 lV_ tab 3 v35 H fun v36=>
 lV_ tab 24 v7 H fun v37=>
 iA_ tab 24 v37 v8 fun v39=>
 lV_ tab 3 v39 H fun v40=>
 binV tab .lss 3 v36 v40 fun v41=>
 cV_ v41 (binV tab .add 3 v20 (AV.p (.int .i64 1)) fun v45=>
 N1 v23 v45 H)
 (binV tab .add 3 v20 (AV.p (.int .i64 1)) fun v45=>
 N1 v8 v45 H))
 (binV tab .add 3 v20 (AV.p (.int .i64 1)) fun v45=>
 N1 v23 v45 H))
 (binV tab .add 3 v20 (AV.p (.int .i64 1)) fun v45=>
 N1 v8 v45 H))
 (binV tab .lss 3 v8 (AV.p (.int .i64 0)) fun v47=>
 cV_ v47 (K (AV.p .nil) H)
 (bS_ tab 24 1 [(0,v8)] H (wkK fun v49 H5=>
 allocV tab 3 H5 fun v12 H6=>
 sV_ tab 3 v12 v8 H6 fun H7=>
 L77_1 K v0 v7 v49 v12 H7)))
def W77 (v0:AV) (v1:AV) (v2:AV) (H:Heap) (K:AV→Heap→Prop):Prop:=
 CallT Tryz.prog 105 [v0] H fun v15 H1=>
 CallT Tryz.prog 60 [v15,v2] H1 fun v17 H2=>
 allocV tab 24 H2 fun v7 H3=>
 sV_ tab 24 v7 v17 H3 fun H4=>
 lenV tab 24 v1 fun v19=>
 L77_0 K v0 v7 (AV.p (.int .i64 (-1))) v1 v19 (AV.p (.int .i64 0)) H4
theorem W77_wp (v0:AV) (v1:AV) (v2:AV) (H:Heap) (K:AV→Heap→Prop):wpC Tryz.prog tab D77 (bO_ Tryz.f77) (retF tab [.tmp 6] K) (nthA [v0,v1,v2]) H=W77 v0 v1 v2 H K:=by kernel_rfl
theorem W77_ok {v0 v1 v2:AV} {H:Heap} {K:AV→Heap→Prop} (h:W77 v0 v1 v2 H K):CallT Tryz.prog 77 [v0,v1,v2] H K:=
 CallT.of_wp (D:=D77) tO_ mixed Tryz.func77 (c:=bO_ Tryz.f77) (by kernel_rfl) rfl (by kernel_rfl) (rs:=#[.tmp 6]) rfl (by decide +kernel) (by kernel_rfl) (W77_wp v0 v1 v2 H K) h
theorem L77_1_rule {K:AV→Heap→Prop} {v0 v7 v11 v12:AV} {H:Heap} {σ:Type} (s0:σ) (f11:σ→AV) (f12:σ→AV) (TH:σ→Heap) (pre:σ→Prop) (μ:σ→Nat)
  (h0:pre s0∧AV.wk v11 (f11 s0)∧AV.wk v12 (f12 s0)∧Heap.le (TH s0) H)
  (round:∀s,pre s→B77_1 K (fun w11 w12 H'=>∃s',pre s'∧μ s' < μ s∧AV.wk w11 (f11 s')∧AV.wk w12 (f12 s')∧Heap.le (TH s') H') v0 v7 (f11 s) (f12 s) (TH s)) :
  L77_1 K v0 v7 v11 v12 H:=by
 unfold L77_1
 exact LoopV.mk s0 (fun s=>[f11 s,f12 s]) TH pre μ (fun _=>rfl) (Eq.mp (by kernel_rfl) h0) (fun s hs=>Eq.mp (by kernel_rfl) (round s hs))
theorem L77_0_rule {K:AV→Heap→Prop} {v0 v7 v8 v18 v19 v20:AV} {H:Heap} {σ:Type} (s0:σ) (f8:σ→AV) (f20:σ→AV) (TH:σ→Heap) (pre:σ→Prop) (μ:σ→Nat)
  (h0:pre s0∧AV.wk v8 (f8 s0)∧AV.wk v20 (f20 s0)∧Heap.le (TH s0) H)
  (round:∀s,pre s→B77_0 K (fun w8 w20 H'=>∃s',pre s'∧μ s' < μ s∧AV.wk w8 (f8 s')∧AV.wk w20 (f20 s')∧Heap.le (TH s') H') v0 v7 (f8 s) v18 v19 (f20 s) (TH s)) :
  L77_0 K v0 v7 v8 v18 v19 v20 H:=by
 unfold L77_0
 exact LoopV.mk s0 (fun s=>[f8 s,f20 s]) TH pre μ (fun _=>rfl) (Eq.mp (by kernel_rfl) h0) (fun s hs=>Eq.mp (by kernel_rfl) (round s hs))
def D78:Info:=⟨39,fun i=>if i=2 then ([[],[],[1],[],[3],[],[],[5,6],[0,1,2,3,4,5,6,7],[0,1,2,3,4,5,6,7,8],[0,1,2,3,4,5,6,7,8,9]],[(0,[]),(1,[]),(3,[]),(6,[]),(5,[2,4]),(7,[2,4]),(2,[2,4]),(4,[4]),(8,[]),(9,[]),(10,[])]) else ([],[]),fun i=>if i=4 then ([4,19],[20]) else ([],[])⟩
def L78_0 (K:AV→Heap→Prop) (v4:AV) (v19:AV) (v20:AV) (H:Heap):Prop:=LoopV (wpC Tryz.prog tab D78 (cAt [1,1,1,0,1,0,0] (bO_ Tryz.f78))) [4,19] (PostF.block 0 (PostF.thenA (wpC Tryz.prog tab D78 (cAt [1,1,1,1] (bO_ Tryz.f78))) (retF tab [.tmp 2] K))) [20] [Q_,Q_,Q_,Q_,v4,Q_,Q_,Q_,Q_,Q_,Q_,Q_,Q_,Q_,Q_,Q_,Q_,Q_,Q_,v19,v20,Q_,Q_,Q_,Q_,Q_,Q_,Q_,Q_,Q_,Q_,Q_,Q_,Q_,Q_,Q_,Q_,Q_,Q_] H
def B78_0 (K:AV→Heap→Prop) (N1:AV→Heap→Prop) (v4:AV) (v19:AV) (v20:AV) (H:Heap):Prop:=
 binV tab .lss 3 v20 v19 fun v21=>
 cV_ v21 (nC_ v4 fun v24=>
 fA_ tab 118 v24 1 fun v25=>
 lV_ tab 24 v25 H fun v26=>
 iA_ tab 24 v26 v20 fun v28=>
 lV_ tab 3 v28 H fun v29=>
 binV tab .eql 3 v29 (AV.p (.int .i64 0)) fun v30=>
 cV_ v30 (CallT Tryz.prog 115 [v4,v20] H fun v33 H6=>
 binV tab .add 3 v20 (AV.p (.int .i64 1)) fun v34=>
 N1 v34 H6)
 (binV tab .add 3 v20 (AV.p (.int .i64 1)) fun v34=>
 N1 v34 H))
 (nC_ v4 fun v36=>
 fA_ tab 118 v36 3 fun v37=>
 lV_ tab 24 v37 H fun v38=>
 K v38 H)
def W78 (v0:AV) (H:Heap) (K:AV→Heap→Prop):Prop:=
 lenV tab 26 v0 fun v7=>
 safeV (makeN tab 24 v7 v7)∧
 safeV (makeN tab 24 v7 v7)∧
 bS_ tab 24 1 [(0,(AV.p (.int .i64 (-1))))] H (wkK fun v13 H1=>
 safeV (makeN tab 24 v7 v7)∧
 safeV (makeN tab 24 v7 v7)∧
 CallT Tryz.prog 61 [v13,v7] H1 fun v15 H2=>
 safeV (makeN tab 24 v7 v7)∧
 newV (makeN tab 24 v7 v7) H2 fun v10 H3=>
 newV (makeN tab 24 v7 v7) H3 fun v12 H4=>
 buildV tab 118 [(0,v0),(1,v10),(2,v12),(3,v15)] fun v16=>
 boxV v16 H4 fun v17 H5=>
 lenV tab 26 v0 fun v19=>
 L78_0 K v17 v19 (AV.p (.int .i64 0)) H5)
theorem W78_wp (v0:AV) (H:Heap) (K:AV→Heap→Prop):wpC Tryz.prog tab D78 (bO_ Tryz.f78) (retF tab [.tmp 2] K) (nthA [v0]) H=W78 v0 H K:=by kernel_rfl
theorem W78_ok {v0:AV} {H:Heap} {K:AV→Heap→Prop} (h:W78 v0 H K):CallT Tryz.prog 78 [v0] H K:=
 CallT.of_wp (D:=D78) tO_ mixed Tryz.func78 (c:=bO_ Tryz.f78) (by kernel_rfl) rfl (by kernel_rfl) (rs:=#[.tmp 2]) rfl (by decide +kernel) (by kernel_rfl) (W78_wp v0 H K) h
theorem L78_0_rule {K:AV→Heap→Prop} {v4 v19 v20:AV} {H:Heap} {σ:Type} (s0:σ) (f20:σ→AV) (TH:σ→Heap) (pre:σ→Prop) (μ:σ→Nat)
  (h0:pre s0∧AV.wk v20 (f20 s0)∧Heap.le (TH s0) H)
  (round:∀s,pre s→B78_0 K (fun w20 H'=>∃s',pre s'∧μ s' < μ s∧AV.wk w20 (f20 s')∧Heap.le (TH s') H') v4 v19 (f20 s) (TH s)) :
  L78_0 K v4 v19 v20 H:=by
 unfold L78_0
 exact LoopV.mk s0 (fun s=>[f20 s]) TH pre μ (fun _=>rfl) (Eq.mp (by kernel_rfl) h0) (fun s hs=>Eq.mp (by kernel_rfl) (round s hs))
def D79:Info:=⟨55,fun i=>([],[]),fun i=>if i=3 then ([1,2,7,15,16],[17]) else if i=6 then ([1,2,7,8,15,16,17,22,23],[24]) else ([],[])⟩
def L79_0 (K:AV→Heap→Prop) (v1:AV) (v2:AV) (v7:AV) (v15:AV) (v16:AV) (v17:AV) (H:Heap):Prop:=LoopV (wpC Tryz.prog tab D79 (cAt [1,1,0,1,0,0] (bO_ Tryz.f79))) [1,2,7,15,16] (PostF.block 0 (PostF.thenA (wpC Tryz.prog tab D79 (cAt [1,1,1] (bO_ Tryz.f79))) (retF tab [.tmp 6] K))) [17] [Q_,v1,v2,Q_,Q_,Q_,Q_,v7,Q_,Q_,Q_,Q_,Q_,Q_,Q_,v15,v16,v17,Q_,Q_,Q_,Q_,Q_,Q_,Q_,Q_,Q_,Q_,Q_,Q_,Q_,Q_,Q_,Q_,Q_,Q_,Q_,Q_,Q_,Q_,Q_,Q_,Q_,Q_,Q_,Q_,Q_,Q_,Q_,Q_,Q_,Q_,Q_,Q_,Q_] H
def L79_1 (K:AV→Heap→Prop) (N1:AV→Heap→Prop) (v1:AV) (v2:AV) (v7:AV) (v8:AV) (v15:AV) (v16:AV) (v17:AV) (v22:AV) (v23:AV) (v24:AV) (H:Heap):Prop:=LoopV (wpC Tryz.prog tab D79 (cAt [1,1,0,1,0,0,1,1,0,0,1,1,0,0] (bO_ Tryz.f79))) [1,2,7,8,15,16,17,22,23] (PostF.block 2 (PostF.block 1 (PostF.thenA (wpC Tryz.prog tab D79 (cAt [1,1,0,1,0,0,1,1,1] (bO_ Tryz.f79))) (loopF (PostF.block 0 (PostF.thenA (wpC Tryz.prog tab D79 (cAt [1,1,1] (bO_ Tryz.f79))) (retF tab [.tmp 6] K))) (fun e h=>N1 (e 17) h))))) [24] [Q_,v1,v2,Q_,Q_,Q_,Q_,v7,v8,Q_,Q_,Q_,Q_,Q_,Q_,v15,v16,v17,Q_,Q_,Q_,Q_,v22,v23,v24,Q_,Q_,Q_,Q_,Q_,Q_,Q_,Q_,Q_,Q_,Q_,Q_,Q_,Q_,Q_,Q_,Q_,Q_,Q_,Q_,Q_,Q_,Q_,Q_,Q_,Q_,Q_,Q_,Q_,Q_] H
def B79_1 (K:AV→Heap→Prop) (N1:AV→Heap→Prop) (N2:AV→Heap→Prop) (v1:AV) (v2:AV) (v7:AV) (v8:AV) (v15:AV) (v16:AV) (v17:AV) (v22:AV) (v23:AV) (v24:AV) (H:Heap):Prop:=
 binV tab .lss 3 v24 v23 fun v25=>
 cV_ v25 (iA_ tab 24 v22 v24 fun v26=>
 lV_ tab 3 v26 H fun v27=>
 iA_ tab 24 v1 v8 fun v30=>
 lV_ tab 3 v30 H fun v31=>
 binV tab .eql 3 v31 v2 fun v33=>
 grdV v33 true (iA_ tab 24 v1 v27 fun v37=>
 lV_ tab 3 v37 H fun v38=>
 binV tab .eql 3 v38 v2 fun v40=>
 cV_ v40 (iA_ tab 26 v7 v8 fun v46=>
 lV_ tab 24 v46 H fun v47=>
 bS_ tab 24 1 [(0,v27)] H (wkK fun v49 H2=>
 aP_ tab 24 24 v47 v49 H2 (wkK fun v50 H3=>
 iA_ tab 26 v7 v8 fun v51=>
 sV_ tab 24 v51 v50 H3 fun H4=>
 binV tab .add 3 v24 (AV.p (.int .i64 1)) fun v52=>
 N2 v52 H4)))
 (binV tab .add 3 v24 (AV.p (.int .i64 1)) fun v52=>
 N2 v52 H))
 (binV tab .add 3 v24 (AV.p (.int .i64 1)) fun v52=>
 N2 v52 H))
 (binV tab .add 3 v17 (AV.p (.int .i64 1)) fun v53=>
 N1 v53 H)
def B79_0 (K:AV→Heap→Prop) (N1:AV→Heap→Prop) (v1:AV) (v2:AV) (v7:AV) (v15:AV) (v16:AV) (v17:AV) (H:Heap):Prop:=
 binV tab .lss 3 v17 v16 fun v18=>
 cV_ v18 (iA_ tab 26 v15 v17 fun v20=>
 lV_ tab 24 v20 H fun v21=>
 lenV tab 24 v21 fun v23=>
 L79_1 K N1 v1 v2 v7 v17 v15 v16 v17 v21 v23 (AV.p (.int .i64 0)) H)
 (K v7 H)
def W79 (v0:AV) (v1:AV) (v2:AV) (H:Heap) (K:AV→Heap→Prop):Prop:=
 lenV tab 26 v0 fun v13=>
 mS_ tab 26 v13 v13 H fun v14 H1=>
 lenV tab 26 v0 fun v16=>
 L79_0 K v1 v2 v14 v0 v16 (AV.p (.int .i64 0)) H1
theorem W79_wp (v0:AV) (v1:AV) (v2:AV) (H:Heap) (K:AV→Heap→Prop):wpC Tryz.prog tab D79 (bO_ Tryz.f79) (retF tab [.tmp 6] K) (nthA [v0,v1,v2]) H=W79 v0 v1 v2 H K:=by kernel_rfl
theorem W79_ok {v0 v1 v2:AV} {H:Heap} {K:AV→Heap→Prop} (h:W79 v0 v1 v2 H K):CallT Tryz.prog 79 [v0,v1,v2] H K:=
 CallT.of_wp (D:=D79) tO_ mixed Tryz.func79 (c:=bO_ Tryz.f79) (by kernel_rfl) rfl (by kernel_rfl) (rs:=#[.tmp 6]) rfl (by decide +kernel) (by kernel_rfl) (W79_wp v0 v1 v2 H K) h
theorem L79_1_rule {K:AV→Heap→Prop} {N1:AV→Heap→Prop} {v1 v2 v7 v8 v15 v16 v17 v22 v23 v24:AV} {H:Heap} {σ:Type} (s0:σ) (f24:σ→AV) (TH:σ→Heap) (pre:σ→Prop) (μ:σ→Nat)
  (h0:pre s0∧AV.wk v24 (f24 s0)∧Heap.le (TH s0) H)
  (round:∀s,pre s→B79_1 K N1 (fun w24 H'=>∃s',pre s'∧μ s' < μ s∧AV.wk w24 (f24 s')∧Heap.le (TH s') H') v1 v2 v7 v8 v15 v16 v17 v22 v23 (f24 s) (TH s)) :
  L79_1 K N1 v1 v2 v7 v8 v15 v16 v17 v22 v23 v24 H:=by
 unfold L79_1
 exact LoopV.mk s0 (fun s=>[f24 s]) TH pre μ (fun _=>rfl) (Eq.mp (by kernel_rfl) h0) (fun s hs=>Eq.mp (by kernel_rfl) (round s hs))
theorem L79_0_rule {K:AV→Heap→Prop} {v1 v2 v7 v15 v16 v17:AV} {H:Heap} {σ:Type} (s0:σ) (f17:σ→AV) (TH:σ→Heap) (pre:σ→Prop) (μ:σ→Nat)
  (h0:pre s0∧AV.wk v17 (f17 s0)∧Heap.le (TH s0) H)
  (round:∀s,pre s→B79_0 K (fun w17 H'=>∃s',pre s'∧μ s' < μ s∧AV.wk w17 (f17 s')∧Heap.le (TH s') H') v1 v2 v7 v15 v16 (f17 s) (TH s)) :
  L79_0 K v1 v2 v7 v15 v16 v17 H:=by
 unfold L79_0
 exact LoopV.mk s0 (fun s=>[f17 s]) TH pre μ (fun _=>rfl) (Eq.mp (by kernel_rfl) h0) (fun s hs=>Eq.mp (by kernel_rfl) (round s hs))
def D80:Info:=⟨42,fun i=>([],[]),fun i=>if i=5 then ([0,1],[5,6]) else ([],[])⟩
def L80_0 (K:AV→Heap→Prop) (v0:AV) (v1:AV) (v5:AV) (v6:AV) (H:Heap):Prop:=LoopV (wpC Tryz.prog tab D80 (cAt [1,1,1,0,1,0,0] (bO_ Tryz.f80))) [0,1] (PostF.block 0 (PostF.thenA (wpC Tryz.prog tab D80 (cAt [1,1,1,1] (bO_ Tryz.f80))) (retF tab [.tmp 4] K))) [5,6] [v0,v1,Q_,Q_,Q_,v5,v6,Q_,Q_,Q_,Q_,Q_,Q_,Q_,Q_,Q_,Q_,Q_,Q_,Q_,Q_,Q_,Q_,Q_,Q_,Q_,Q_,Q_,Q_,Q_,Q_,Q_,Q_,Q_,Q_,Q_,Q_,Q_,Q_,Q_,Q_,Q_] H
def B80_0 (K:AV→Heap→Prop) (N1:AV→AV→Heap→Prop) (v0:AV) (v1:AV) (v5:AV) (v6:AV) (H:Heap):Prop:=
 lenV tab 24 v0 fun v18=>
 binV tab .lss 3 v6 v18 fun v19=>
 cV_ v19 (iA_ tab 24 v0 v6 fun v24=>
 lV_ tab 3 v24 H fun v25=>
 callF Tryz.prog v1 [v25] H fun v28 H2=>
 unV .not v28 fun v29=>
 cV_ v29 (iA_ tab 24 v0 v5 fun v33=>
 sV_ tab 3 v33 v25 H2 fun H3=>
 binV tab .add 3 v5 (AV.p (.int .i64 1)) fun v35=>
 binV tab .add 3 v6 (AV.p (.int .i64 1)) fun v21=>
 N1 v35 v21 H3)
 (binV tab .add 3 v6 (AV.p (.int .i64 1)) fun v21=>
 N1 v5 v21 H2))
 (sliceV tab 24 v0 (some v5) none none fun v38=>
 clearV tab 24 v38 H fun _ H4=>
 sliceV tab 24 v0 none (some v5) none fun v41=>
 K v41 H4)
def W80 (v0:AV) (v1:AV) (H:Heap) (K:AV→Heap→Prop):Prop:=
 CallT Tryz.prog 113 [v0,v1] H fun v10 H1=>
 binV tab .eql 3 v10 (AV.p (.int .i64 (-1))) fun v12=>
 cV_ v12 (K v0 H1)
 (binV tab .add 3 v10 (AV.p (.int .i64 1)) fun v15=>
 L80_0 K v0 v1 v10 v15 H1)
theorem W80_wp (v0:AV) (v1:AV) (H:Heap) (K:AV→Heap→Prop):wpC Tryz.prog tab D80 (bO_ Tryz.f80) (retF tab [.tmp 4] K) (nthA [v0,v1]) H=W80 v0 v1 H K:=by kernel_rfl
theorem W80_ok {v0 v1:AV} {H:Heap} {K:AV→Heap→Prop} (h:W80 v0 v1 H K):CallT Tryz.prog 80 [v0,v1] H K:=
 CallT.of_wp (D:=D80) tO_ mixed Tryz.func80 (c:=bO_ Tryz.f80) (by kernel_rfl) rfl (by kernel_rfl) (rs:=#[.tmp 4]) rfl (by decide +kernel) (by kernel_rfl) (W80_wp v0 v1 H K) h
theorem L80_0_rule {K:AV→Heap→Prop} {v0 v1 v5 v6:AV} {H:Heap} {σ:Type} (s0:σ) (f5:σ→AV) (f6:σ→AV) (TH:σ→Heap) (pre:σ→Prop) (μ:σ→Nat)
  (h0:pre s0∧AV.wk v5 (f5 s0)∧AV.wk v6 (f6 s0)∧Heap.le (TH s0) H)
  (round:∀s,pre s→B80_0 K (fun w5 w6 H'=>∃s',pre s'∧μ s' < μ s∧AV.wk w5 (f5 s')∧AV.wk w6 (f6 s')∧Heap.le (TH s') H') v0 v1 (f5 s) (f6 s) (TH s)) :
  L80_0 K v0 v1 v5 v6 H:=by
 unfold L80_0
 exact LoopV.mk s0 (fun s=>[f5 s,f6 s]) TH pre μ (fun _=>rfl) (Eq.mp (by kernel_rfl) h0) (fun s hs=>Eq.mp (by kernel_rfl) (round s hs))
def D81:Info:=⟨14,fun i=>if i=1 then ([[],[],[0,1],[0,1,2],[],[],[4,5],[4,5,6],[0,1,2,3,4,5,6,7],[0,1,2,3,4,5,6,7,8]],[(0,[]),(1,[]),(2,[]),(3,[]),(4,[]),(5,[]),(6,[]),(7,[]),(8,[]),(9,[])]) else ([],[]),fun i=>([],[])⟩
def W81 (v0:AV) (v1:AV) (v2:AV) (H:Heap) (K:AV→Heap→Prop):Prop:=
 lV_ tab 24 v1 H fun v5=>
 iA_ tab 24 v5 v0 fun v7=>
 lV_ tab 3 v7 H fun v8=>
 lV_ tab 24 v1 H fun v9=>
 lV_ tab 3 v2 H fun v10=>
 iA_ tab 24 v9 v10 fun v11=>
 lV_ tab 3 v11 H fun v12=>
 binV tab .neq 3 v8 v12 fun v13=>
 K v13 H
theorem W81_wp (v0:AV) (v1:AV) (v2:AV) (H:Heap) (K:AV→Heap→Prop):wpC Tryz.prog tab D81 (bO_ Tryz.f81) (retF tab [.tmp 4] K) (nthA [v0,v1,v2]) H=W81 v0 v1 v2 H K:=by kernel_rfl
theorem W81_ok {v0 v1 v2:AV} {H:Heap} {K:AV→Heap→Prop} (h:W81 v0 v1 v2 H K):CallT Tryz.prog 81 [v0,v1,v2] H K:=
 CallT.of_wp (D:=D81) tO_ mixed Tryz.func81 (c:=bO_ Tryz.f81) (by kernel_rfl) rfl (by kernel_rfl) (rs:=#[.tmp 4]) rfl (by decide +kernel) (by kernel_rfl) (W81_wp v0 v1 v2 H K) h
def D84:Info:=⟨27,fun i=>([],[]),fun i=>([],[])⟩
def W84 (v0:AV) (v1:AV) (H:Heap) (K:AV→Heap→Prop):Prop:=
 binV tab .lss 3 v1 (AV.p (.int .i64 0)) fun v6=>
 cV_ v6 (False)
 (capV tab 24 v0 fun v10=>
 lenV tab 24 v0 fun v12=>
 binV tab .sub 3 v10 v12 fun v13=>
 binV tab .sub 3 v1 v13 fun v14=>
 binV tab .gtr 3 v14 (AV.p (.int .i64 0)) fun v16=>
 cV_ v16 (capV tab 24 v0 fun v19=>
 sliceV tab 24 v0 none (some v19) none fun v20=>
 aP_ tab 24 3 v20 v14 H (wkK fun v22 H1=>
 lenV tab 24 v0 fun v24=>
 sliceV tab 24 v22 none (some v24) none fun v25=>
 K v25 H1))
 (K v0 H))
theorem W84_wp (v0:AV) (v1:AV) (H:Heap) (K:AV→Heap→Prop):wpC Tryz.prog tab D84 (bO_ Tryz.f84) (retF tab [.tmp 4] K) (nthA [v0,v1]) H=W84 v0 v1 H K:=by kernel_rfl
theorem W84_ok {v0 v1:AV} {H:Heap} {K:AV→Heap→Prop} (h:W84 v0 v1 H K):CallT Tryz.prog 84 [v0,v1] H K:=
 CallT.of_wp (D:=D84) tO_ mixed Tryz.func84 (c:=bO_ Tryz.f84) (by kernel_rfl) rfl (by kernel_rfl) (rs:=#[.tmp 4]) rfl (by decide +kernel) (by kernel_rfl) (W84_wp v0 v1 H K) h
def D85:Info:=⟨19,fun i=>([],[]),fun i=>if i=2 then ([0,1,7],[8]) else ([],[])⟩
def L85_0 (K:AV→Heap→Prop) (v0:AV) (v1:AV) (v7:AV) (v8:AV) (H:Heap):Prop:=LoopV (wpC Tryz.prog tab D85 (cAt [1,0,1,0,0] (bO_ Tryz.f85))) [0,1,7] (PostF.block 0 (PostF.thenA (wpC Tryz.prog tab D85 (cAt [1,1] (bO_ Tryz.f85))) (retF tab [.tmp 4] K))) [8] [v0,v1,Q_,Q_,Q_,Q_,Q_,v7,v8,Q_,Q_,Q_,Q_,Q_,Q_,Q_,Q_,Q_,Q_] H
def B85_0 (K:AV→Heap→Prop) (N1:AV→Heap→Prop) (v0:AV) (v1:AV) (v7:AV) (v8:AV) (H:Heap):Prop:=
 binV tab .lss 3 v8 v7 fun v9=>
 cV_ v9 (iA_ tab 25 v0 v8 fun v14=>
 lV_ tab 66 v14 H fun v15=>
 callF Tryz.prog v1 [v15] H fun v16 H1=>
 cV_ v16 (K v8 H1)
 (binV tab .add 3 v8 (AV.p (.int .i64 1)) fun v18=>
 N1 v18 H1))
 (K (AV.p (.int .i64 (-1))) H)
def W85 (v0:AV) (v1:AV) (H:Heap) (K:AV→Heap→Prop):Prop:=
 lenV tab 25 v0 fun v7=>
 L85_0 K v0 v1 v7 (AV.p (.int .i64 0)) H
theorem W85_wp (v0:AV) (v1:AV) (H:Heap) (K:AV→Heap→Prop):wpC Tryz.prog tab D85 (bO_ Tryz.f85) (retF tab [.tmp 4] K) (nthA [v0,v1]) H=W85 v0 v1 H K:=by kernel_rfl
theorem W85_ok {v0 v1:AV} {H:Heap} {K:AV→Heap→Prop} (h:W85 v0 v1 H K):CallT Tryz.prog 85 [v0,v1] H K:=
 CallT.of_wp (D:=D85) tO_ mixed Tryz.func85 (c:=bO_ Tryz.f85) (by kernel_rfl) rfl (by kernel_rfl) (rs:=#[.tmp 4]) rfl (by decide +kernel) (by kernel_rfl) (W85_wp v0 v1 H K) h
theorem L85_0_rule {K:AV→Heap→Prop} {v0 v1 v7 v8:AV} {H:Heap} {σ:Type} (s0:σ) (f8:σ→AV) (TH:σ→Heap) (pre:σ→Prop) (μ:σ→Nat)
  (h0:pre s0∧AV.wk v8 (f8 s0)∧Heap.le (TH s0) H)
  (round:∀s,pre s→B85_0 K (fun w8 H'=>∃s',pre s'∧μ s' < μ s∧AV.wk w8 (f8 s')∧Heap.le (TH s') H') v0 v1 v7 (f8 s) (TH s)) :
  L85_0 K v0 v1 v7 v8 H:=by
 unfold L85_0
 exact LoopV.mk s0 (fun s=>[f8 s]) TH pre μ (fun _=>rfl) (Eq.mp (by kernel_rfl) h0) (fun s hs=>Eq.mp (by kernel_rfl) (round s hs))
def D86:Info:=⟨15,fun i=>([],[]),fun i=>([],[])⟩
def W86 (v0:AV) (v1:AV) (v2:AV) (H:Heap) (K:AV→Heap→Prop):Prop:=
 boxV v0 H fun v3 H1=>
 fA_ tab 66 v3 0 fun v5=>
 lV_ tab 3 v5 H1 fun v6=>
 lV_ tab 3 v1 H1 fun v7=>
 binV tab .eql 3 v6 v7 fun v8=>
 grdV v8 true (fA_ tab 66 v3 2 fun v10=>
 lV_ tab 3 v10 H1 fun v11=>
 lV_ tab 3 v2 H1 fun v12=>
 binV tab .eql 3 v11 v12 fun v13=>
 K v13 H1)
 (K (AV.p (.bool false)) H1)
theorem W86_wp (v0:AV) (v1:AV) (v2:AV) (H:Heap) (K:AV→Heap→Prop):wpC Tryz.prog tab D86 (bO_ Tryz.f86) (retF tab [.tmp 4] K) (nthA [v0,v1,v2]) H=W86 v0 v1 v2 H K:=by kernel_rfl
theorem W86_ok {v0 v1 v2:AV} {H:Heap} {K:AV→Heap→Prop} (h:W86 v0 v1 v2 H K):CallT Tryz.prog 86 [v0,v1,v2] H K:=
 CallT.of_wp (D:=D86) tO_ mixed Tryz.func86 (c:=bO_ Tryz.f86) (by kernel_rfl) rfl (by kernel_rfl) (rs:=#[.tmp 4]) rfl (by decide +kernel) (by kernel_rfl) (W86_wp v0 v1 v2 H K) h
def D87:Info:=⟨21,fun i=>([],[]),fun i=>if i=4 then ([1,10,11],[12]) else ([],[])⟩
def L87_0 (K:AV→Heap→Prop) (v1:AV) (v10:AV) (v11:AV) (v12:AV) (H:Heap):Prop:=LoopV (wpC Tryz.prog tab D87 (cAt [1,1,0,1,0,0] (bO_ Tryz.f87))) [1,10,11] (PostF.block 0 (PostF.thenA (wpC Tryz.prog tab D87 (cAt [1,1,1] (bO_ Tryz.f87))) (retF tab [.tmp 4] K))) [12] [Q_,v1,Q_,Q_,Q_,Q_,Q_,Q_,Q_,Q_,v10,v11,v12,Q_,Q_,Q_,Q_,Q_,Q_,Q_,Q_] H
def B87_0 (K:AV→Heap→Prop) (N1:AV→Heap→Prop) (v1:AV) (v10:AV) (v11:AV) (v12:AV) (H:Heap):Prop:=
 binV tab .lss 3 v12 v11 fun v13=>
 cV_ v13 (iA_ tab 26 v10 v12 fun v14=>
 lV_ tab 24 v14 H fun v15=>
 CallT Tryz.prog 73 [v15,v1] H fun v18 H1=>
 unV .not v18 fun v19=>
 cV_ v19 (K (AV.p (.bool false)) H1)
 (binV tab .add 3 v12 (AV.p (.int .i64 1)) fun v20=>
 N1 v20 H1))
 (K (AV.p (.bool true)) H)
def W87 (v0:AV) (v1:AV) (H:Heap) (K:AV→Heap→Prop):Prop:=
 lenV tab 26 v0 fun v8=>
 binV tab .gtr 3 v8 (AV.p (.int .i64 6)) fun v9=>
 cV_ v9 (K (AV.p (.bool false)) H)
 (lenV tab 26 v0 fun v11=>
 L87_0 K v1 v0 v11 (AV.p (.int .i64 0)) H)
theorem W87_wp (v0:AV) (v1:AV) (H:Heap) (K:AV→Heap→Prop):wpC Tryz.prog tab D87 (bO_ Tryz.f87) (retF tab [.tmp 4] K) (nthA [v0,v1]) H=W87 v0 v1 H K:=by kernel_rfl
theorem W87_ok {v0 v1:AV} {H:Heap} {K:AV→Heap→Prop} (h:W87 v0 v1 H K):CallT Tryz.prog 87 [v0,v1] H K:=
 CallT.of_wp (D:=D87) tO_ mixed Tryz.func87 (c:=bO_ Tryz.f87) (by kernel_rfl) rfl (by kernel_rfl) (rs:=#[.tmp 4]) rfl (by decide +kernel) (by kernel_rfl) (W87_wp v0 v1 H K) h
theorem L87_0_rule {K:AV→Heap→Prop} {v1 v10 v11 v12:AV} {H:Heap} {σ:Type} (s0:σ) (f12:σ→AV) (TH:σ→Heap) (pre:σ→Prop) (μ:σ→Nat)
  (h0:pre s0∧AV.wk v12 (f12 s0)∧Heap.le (TH s0) H)
  (round:∀s,pre s→B87_0 K (fun w12 H'=>∃s',pre s'∧μ s' < μ s∧AV.wk w12 (f12 s')∧Heap.le (TH s') H') v1 v10 v11 (f12 s) (TH s)) :
  L87_0 K v1 v10 v11 v12 H:=by
 unfold L87_0
 exact LoopV.mk s0 (fun s=>[f12 s]) TH pre μ (fun _=>rfl) (Eq.mp (by kernel_rfl) h0) (fun s hs=>Eq.mp (by kernel_rfl) (round s hs))
def D88:Info:=⟨30,fun i=>([],[]),fun i=>([],[])⟩
def W88 (v0:AV) (v1:AV) (H:Heap) (K:AV→Heap→Prop):Prop:=
 boxV v0 H fun v2 H1=>
 boxV v1 H1 fun v3 H2=>
 fA_ tab 66 v2 0 fun v5=>
 lV_ tab 3 v5 H2 fun v6=>
 fA_ tab 66 v3 0 fun v7=>
 lV_ tab 3 v7 H2 fun v8=>
 binV tab .neq 3 v6 v8 fun v9=>
 cV_ v9 (fA_ tab 66 v2 0 fun v10=>
 lV_ tab 3 v10 H2 fun v11=>
 fA_ tab 66 v3 0 fun v12=>
 lV_ tab 3 v12 H2 fun v13=>
 binV tab .lss 3 v11 v13 fun v14=>
 K v14 H2)
 (fA_ tab 66 v2 1 fun v15=>
 lV_ tab 3 v15 H2 fun v16=>
 fA_ tab 66 v3 1 fun v17=>
 lV_ tab 3 v17 H2 fun v18=>
 binV tab .neq 3 v16 v18 fun v19=>
 cV_ v19 (fA_ tab 66 v2 1 fun v20=>
 lV_ tab 3 v20 H2 fun v21=>
 fA_ tab 66 v3 1 fun v22=>
 lV_ tab 3 v22 H2 fun v23=>
 binV tab .lss 3 v21 v23 fun v24=>
 K v24 H2)
 (fA_ tab 66 v2 2 fun v25=>
 lV_ tab 3 v25 H2 fun v26=>
 fA_ tab 66 v3 2 fun v27=>
 lV_ tab 3 v27 H2 fun v28=>
 binV tab .lss 3 v26 v28 fun v29=>
 K v29 H2))
theorem W88_wp (v0:AV) (v1:AV) (H:Heap) (K:AV→Heap→Prop):wpC Tryz.prog tab D88 (bO_ Tryz.f88) (retF tab [.tmp 4] K) (nthA [v0,v1]) H=W88 v0 v1 H K:=by kernel_rfl
theorem W88_ok {v0 v1:AV} {H:Heap} {K:AV→Heap→Prop} (h:W88 v0 v1 H K):CallT Tryz.prog 88 [v0,v1] H K:=
 CallT.of_wp (D:=D88) tO_ mixed Tryz.func88 (c:=bO_ Tryz.f88) (by kernel_rfl) rfl (by kernel_rfl) (rs:=#[.tmp 4]) rfl (by decide +kernel) (by kernel_rfl) (W88_wp v0 v1 H K) h
end Go.Proofs.YtohkciilfkhomaaGreat
namespace Go.Proofs.YtohkciilfkhomaaGreat
open Go Go.Sep
attribute [local irreducible] wpC headF
def D89:Info:=⟨73,fun i=>([],[]),fun i=>if i=3 then ([0,1,5,17],[18]) else if i=8 then ([0,1,5,25,26],[27]) else if i=13 then ([0,5],[9]) else if i=17 then ([0,5,10,48,49],[9,50]) else ([],[])⟩
def L89_0 (K:AV→Heap→Prop) (v0:AV) (v1:AV) (v5:AV) (v17:AV) (v18:AV) (H:Heap):Prop:=LoopV (wpC Tryz.prog tab D89 (cAt [1,1,0,1,0,0] (bO_ Tryz.f89))) [0,1,5,17] (PostF.block 0 (PostF.thenA (wpC Tryz.prog tab D89 (cAt [1,1,1] (bO_ Tryz.f89))) (retF tab [.tmp 4] K))) [18] [v0,v1,Q_,Q_,Q_,v5,Q_,Q_,Q_,Q_,Q_,Q_,Q_,Q_,Q_,Q_,Q_,v17,v18,Q_,Q_,Q_,Q_,Q_,Q_,Q_,Q_,Q_,Q_,Q_,Q_,Q_,Q_,Q_,Q_,Q_,Q_,Q_,Q_,Q_,Q_,Q_,Q_,Q_,Q_,Q_,Q_,Q_,Q_,Q_,Q_,Q_,Q_,Q_,Q_,Q_,Q_,Q_,Q_,Q_,Q_,Q_,Q_,Q_,Q_,Q_,Q_,Q_,Q_,Q_,Q_,Q_,Q_] H
def L89_1 (K:AV→Heap→Prop) (v0:AV) (v1:AV) (v5:AV) (v25:AV) (v26:AV) (v27:AV) (H:Heap):Prop:=LoopV (wpC Tryz.prog tab D89 (cAt [1,1,1,0,1,0,0] (bO_ Tryz.f89))) [0,1,5,25,26] (PostF.block 2 (PostF.thenA (wpC Tryz.prog tab D89 (cAt [1,1,1,1] (bO_ Tryz.f89))) (retF tab [.tmp 4] K))) [27] [v0,v1,Q_,Q_,Q_,v5,Q_,Q_,Q_,Q_,Q_,Q_,Q_,Q_,Q_,Q_,Q_,Q_,Q_,Q_,Q_,Q_,Q_,Q_,Q_,v25,v26,v27,Q_,Q_,Q_,Q_,Q_,Q_,Q_,Q_,Q_,Q_,Q_,Q_,Q_,Q_,Q_,Q_,Q_,Q_,Q_,Q_,Q_,Q_,Q_,Q_,Q_,Q_,Q_,Q_,Q_,Q_,Q_,Q_,Q_,Q_,Q_,Q_,Q_,Q_,Q_,Q_,Q_,Q_,Q_,Q_,Q_] H
def L89_2 (K:AV→Heap→Prop) (v0:AV) (v5:AV) (v9:AV) (H:Heap):Prop:=LoopV (wpC Tryz.prog tab D89 (cAt [1,1,1,1,1,0,0,0] (bO_ Tryz.f89))) [0,5] (PostF.block 4 (PostF.thenA (wpC Tryz.prog tab D89 (cAt [1,1,1,1,1,1] (bO_ Tryz.f89))) (retF tab [.tmp 4] K))) [9] [v0,Q_,Q_,Q_,Q_,v5,Q_,Q_,Q_,v9,Q_,Q_,Q_,Q_,Q_,Q_,Q_,Q_,Q_,Q_,Q_,Q_,Q_,Q_,Q_,Q_,Q_,Q_,Q_,Q_,Q_,Q_,Q_,Q_,Q_,Q_,Q_,Q_,Q_,Q_,Q_,Q_,Q_,Q_,Q_,Q_,Q_,Q_,Q_,Q_,Q_,Q_,Q_,Q_,Q_,Q_,Q_,Q_,Q_,Q_,Q_,Q_,Q_,Q_,Q_,Q_,Q_,Q_,Q_,Q_,Q_,Q_,Q_] H
def L89_3 (K:AV→Heap→Prop) (N1:AV→Heap→Prop) (v0:AV) (v5:AV) (v9:AV) (v10:AV) (v48:AV) (v49:AV) (v50:AV) (H:Heap):Prop:=LoopV (wpC Tryz.prog tab D89 (cAt [1,1,1,1,1,0,0,0,1,0,1,1,1,0,0] (bO_ Tryz.f89))) [0,5,10,48,49] (PostF.block 6 (PostF.block 5 (loopF (PostF.block 4 (PostF.thenA (wpC Tryz.prog tab D89 (cAt [1,1,1,1,1,1] (bO_ Tryz.f89))) (retF tab [.tmp 4] K))) (fun e h=>N1 (e 9) h)))) [9,50] [v0,Q_,Q_,Q_,Q_,v5,Q_,Q_,Q_,v9,v10,Q_,Q_,Q_,Q_,Q_,Q_,Q_,Q_,Q_,Q_,Q_,Q_,Q_,Q_,Q_,Q_,Q_,Q_,Q_,Q_,Q_,Q_,Q_,Q_,Q_,Q_,Q_,Q_,Q_,Q_,Q_,Q_,Q_,Q_,Q_,Q_,Q_,v48,v49,v50,Q_,Q_,Q_,Q_,Q_,Q_,Q_,Q_,Q_,Q_,Q_,Q_,Q_,Q_,Q_,Q_,Q_,Q_,Q_,Q_,Q_,Q_] H
def B89_3 (K:AV→Heap→Prop) (N1:AV→Heap→Prop) (N2:AV→AV→Heap→Prop) (v0:AV) (v5:AV) (v9:AV) (v10:AV) (v48:AV) (v49:AV) (v50:AV) (H:Heap):Prop:=
 binV tab .lss 3 v50 v49 fun v51=>
 cV_ v51 (iA_ tab 24 v48 v50 fun v52=>
 lV_ tab 3 v52 H fun v53=>
 iA_ tab 24 v5 v53 fun v56=>
 lV_ tab 3 v56 H fun v57=>
 binV tab .lss 3 v57 (AV.p (.int .i64 0)) fun v58=>
 cV_ v58 (iA_ tab 24 v5 v10 fun v63=>
 lV_ tab 3 v63 H fun v64=>
 binV tab .add 3 v64 (AV.p (.int .i64 1)) fun v65=>
 iA_ tab 24 v5 v53 fun v66=>
 sV_ tab 3 v66 v65 H fun H5=>
 bS_ tab 24 1 [(0,v53)] H5 (wkK fun v69 H6=>
 aP_ tab 24 24 v9 v69 H6 (wkK fun v70 H7=>
 binV tab .add 3 v50 (AV.p (.int .i64 1)) fun v71=>
 N2 v70 v71 H7)))
 (binV tab .add 3 v50 (AV.p (.int .i64 1)) fun v71=>
 N2 v9 v71 H))
 (N1 v9 H)
def B89_2 (K:AV→Heap→Prop) (N1:AV→Heap→Prop) (v0:AV) (v5:AV) (v9:AV) (H:Heap):Prop:=
 lenV tab 24 v9 fun v38=>
 binV tab .gtr 3 v38 (AV.p (.int .i64 0)) fun v39=>
 cV_ v39 (iA_ tab 24 v9 (AV.p (.int .i64 0)) fun v41=>
 lV_ tab 3 v41 H fun v42=>
 sliceV tab 24 v9 (some (AV.p (.int .i64 1))) none none fun v44=>
 iA_ tab 26 v0 v42 fun v47=>
 lV_ tab 24 v47 H fun v48=>
 lenV tab 24 v48 fun v49=>
 L89_3 K N1 v0 v5 v44 v42 v48 v49 (AV.p (.int .i64 0)) H)
 (K v5 H)
def B89_1 (K:AV→Heap→Prop) (N1:AV→Heap→Prop) (v0:AV) (v1:AV) (v5:AV) (v25:AV) (v26:AV) (v27:AV) (H:Heap):Prop:=
 binV tab .lss 3 v27 v26 fun v28=>
 cV_ v28 (iA_ tab 24 v25 v27 fun v29=>
 lV_ tab 3 v29 H fun v30=>
 iA_ tab 24 v5 v30 fun v33=>
 sV_ tab 3 v33 (AV.p (.int .i64 0)) H fun H3=>
 binV tab .add 3 v27 (AV.p (.int .i64 1)) fun v34=>
 N1 v34 H3)
 (CallT Tryz.prog 38 [v1] H fun v36 H4=>
 L89_2 K v0 v5 v36 H4)
def B89_0 (K:AV→Heap→Prop) (N1:AV→Heap→Prop) (v0:AV) (v1:AV) (v5:AV) (v17:AV) (v18:AV) (H:Heap):Prop:=
 binV tab .lss 3 v18 v17 fun v19=>
 cV_ v19 (iA_ tab 24 v5 v18 fun v23=>
 sV_ tab 3 v23 (AV.p (.int .i64 (-1))) H fun H2=>
 binV tab .add 3 v18 (AV.p (.int .i64 1)) fun v24=>
 N1 v24 H2)
 (lenV tab 24 v1 fun v26=>
 L89_1 K v0 v1 v5 v1 v26 (AV.p (.int .i64 0)) H)
def W89 (v0:AV) (v1:AV) (H:Heap) (K:AV→Heap→Prop):Prop:=
 lenV tab 26 v0 fun v14=>
 mS_ tab 24 v14 v14 H fun v15 H1=>
 lenV tab 24 v15 fun v17=>
 L89_0 K v0 v1 v15 v17 (AV.p (.int .i64 0)) H1
theorem W89_wp (v0:AV) (v1:AV) (H:Heap) (K:AV→Heap→Prop):wpC Tryz.prog tab D89 (bO_ Tryz.f89) (retF tab [.tmp 4] K) (nthA [v0,v1]) H=W89 v0 v1 H K:=by kernel_rfl
theorem W89_ok {v0 v1:AV} {H:Heap} {K:AV→Heap→Prop} (h:W89 v0 v1 H K):CallT Tryz.prog 89 [v0,v1] H K:=
 CallT.of_wp (D:=D89) tO_ mixed Tryz.func89 (c:=bO_ Tryz.f89) (by kernel_rfl) rfl (by kernel_rfl) (rs:=#[.tmp 4]) rfl (by decide +kernel) (by kernel_rfl) (W89_wp v0 v1 H K) h
theorem L89_3_rule {K:AV→Heap→Prop} {N1:AV→Heap→Prop} {v0 v5 v9 v10 v48 v49 v50:AV} {H:Heap} {σ:Type} (s0:σ) (f9:σ→AV) (f50:σ→AV) (TH:σ→Heap) (pre:σ→Prop) (μ:σ→Nat)
  (h0:pre s0∧AV.wk v9 (f9 s0)∧AV.wk v50 (f50 s0)∧Heap.le (TH s0) H)
  (round:∀s,pre s→B89_3 K N1 (fun w9 w50 H'=>∃s',pre s'∧μ s' < μ s∧AV.wk w9 (f9 s')∧AV.wk w50 (f50 s')∧Heap.le (TH s') H') v0 v5 (f9 s) v10 v48 v49 (f50 s) (TH s)) :
  L89_3 K N1 v0 v5 v9 v10 v48 v49 v50 H:=by
 unfold L89_3
 exact LoopV.mk s0 (fun s=>[f9 s,f50 s]) TH pre μ (fun _=>rfl) (Eq.mp (by kernel_rfl) h0) (fun s hs=>Eq.mp (by kernel_rfl) (round s hs))
theorem L89_2_rule {K:AV→Heap→Prop} {v0 v5 v9:AV} {H:Heap} {σ:Type} (s0:σ) (f9:σ→AV) (TH:σ→Heap) (pre:σ→Prop) (μ:σ→Nat)
  (h0:pre s0∧AV.wk v9 (f9 s0)∧Heap.le (TH s0) H)
  (round:∀s,pre s→B89_2 K (fun w9 H'=>∃s',pre s'∧μ s' < μ s∧AV.wk w9 (f9 s')∧Heap.le (TH s') H') v0 v5 (f9 s) (TH s)) :
  L89_2 K v0 v5 v9 H:=by
 unfold L89_2
 exact LoopV.mk s0 (fun s=>[f9 s]) TH pre μ (fun _=>rfl) (Eq.mp (by kernel_rfl) h0) (fun s hs=>Eq.mp (by kernel_rfl) (round s hs))
theorem L89_1_rule {K:AV→Heap→Prop} {v0 v1 v5 v25 v26 v27:AV} {H:Heap} {σ:Type} (s0:σ) (f27:σ→AV) (TH:σ→Heap) (pre:σ→Prop) (μ:σ→Nat)
  (h0:pre s0∧AV.wk v27 (f27 s0)∧Heap.le (TH s0) H)
  (round:∀s,pre s→B89_1 K (fun w27 H'=>∃s',pre s'∧μ s' < μ s∧AV.wk w27 (f27 s')∧Heap.le (TH s') H') v0 v1 v5 v25 v26 (f27 s) (TH s)) :
  L89_1 K v0 v1 v5 v25 v26 v27 H:=by
 unfold L89_1
 exact LoopV.mk s0 (fun s=>[f27 s]) TH pre μ (fun _=>rfl) (Eq.mp (by kernel_rfl) h0) (fun s hs=>Eq.mp (by kernel_rfl) (round s hs))
theorem L89_0_rule {K:AV→Heap→Prop} {v0 v1 v5 v17 v18:AV} {H:Heap} {σ:Type} (s0:σ) (f18:σ→AV) (TH:σ→Heap) (pre:σ→Prop) (μ:σ→Nat)
  (h0:pre s0∧AV.wk v18 (f18 s0)∧Heap.le (TH s0) H)
  (round:∀s,pre s→B89_0 K (fun w18 H'=>∃s',pre s'∧μ s' < μ s∧AV.wk w18 (f18 s')∧Heap.le (TH s') H') v0 v1 v5 v17 (f18 s) (TH s)) :
  L89_0 K v0 v1 v5 v17 v18 H:=by
 unfold L89_0
 exact LoopV.mk s0 (fun s=>[f18 s]) TH pre μ (fun _=>rfl) (Eq.mp (by kernel_rfl) h0) (fun s hs=>Eq.mp (by kernel_rfl) (round s hs))
def D90:Info:=⟨82,fun i=>if i=6 then ([[],[],[0,1],[0,1,2],[0,1,2,3],[0,1,2,3,4],[0,1,2,3,4,5],[0,1,2,3,4,5,6],[0,1,2,3,4,5,6,7],[0,1,2,3,4,5,6,7,8],[0,1,2,3,4,5,6,7,8],[0,1,2,3,4,5,6,7,8,9,10],[0,1,2,3,4,5,6,7,8,9,10,11],[0,1,2,3,4,5,6,7,8],[0,1,2,3,4,5,6,7,8],[0,1,2,3,4,5,6,7,8,13,14],[0,1,2,3,4,5,6,7,8,13,14,15],[0,1,2,3,4,5,6,7,8,9,10,11,12,13,14,15,16],[0,1,2,3,4,5,6,7,8,9,10,11,12,13,14,15,16,17],[0,1,2,3,4,5,6,7,8,9,10,11,12,13,14,15,16,17,18]],[(0,[]),(1,[]),(2,[]),(3,[]),(4,[]),(5,[]),(6,[]),(7,[]),(8,[]),(9,[]),(10,[]),(11,[]),(12,[]),(13,[]),(14,[]),(15,[]),(16,[]),(17,[]),(18,[]),(19,[])]) else if i=16 then ([[],[],[0,1],[0,1,2],[],[],[4,5],[4,5,6],[4,5,6,7],[0,1,2,3,4,5,6,7,8]],[(0,[]),(1,[]),(2,[]),(3,[]),(4,[]),(5,[]),(6,[]),(7,[]),(8,[]),(9,[])]) else ([],[]),fun i=>if i=4 then ([0,8,19,20],[9,21]) else if i=12 then ([0,8],[9,12]) else if i=14 then ([0,8,12,59,60],[9,61]) else ([],[])⟩
def L90_0 (K:AV→Heap→Prop) (v0:AV) (v8:AV) (v9:AV) (v19:AV) (v20:AV) (v21:AV) (H:Heap):Prop:=LoopV (wpC Tryz.prog tab D90 (cAt [1,1,1,0,1,0,0] (bO_ Tryz.f90))) [0,8,19,20] (PostF.block 0 (PostF.thenA (wpC Tryz.prog tab D90 (cAt [1,1,1,1] (bO_ Tryz.f90))) (retF tab [.tmp 6,.tmp 7] K))) [9,21] [v0,Q_,Q_,Q_,Q_,Q_,Q_,Q_,v8,v9,Q_,Q_,Q_,Q_,Q_,Q_,Q_,Q_,Q_,v19,v20,v21,Q_,Q_,Q_,Q_,Q_,Q_,Q_,Q_,Q_,Q_,Q_,Q_,Q_,Q_,Q_,Q_,Q_,Q_,Q_,Q_,Q_,Q_,Q_,Q_,Q_,Q_,Q_,Q_,Q_,Q_,Q_,Q_,Q_,Q_,Q_,Q_,Q_,Q_,Q_,Q_,Q_,Q_,Q_,Q_,Q_,Q_,Q_,Q_,Q_,Q_,Q_,Q_,Q_,Q_,Q_,Q_,Q_,Q_,Q_,Q_] H
def L90_1 (K:AV→Heap→Prop) (v0:AV) (v8:AV) (v9:AV) (v12:AV) (H:Heap):Prop:=LoopV (wpC Tryz.prog tab D90 (cAt [1,1,1,1,1,1,0,0,0] (bO_ Tryz.f90))) [0,8] (PostF.block 2 (PostF.thenA (wpC Tryz.prog tab D90 (cAt [1,1,1,1,1,1,1] (bO_ Tryz.f90))) (retF tab [.tmp 6,.tmp 7] K))) [9,12] [v0,Q_,Q_,Q_,Q_,Q_,Q_,Q_,v8,v9,Q_,Q_,v12,Q_,Q_,Q_,Q_,Q_,Q_,Q_,Q_,Q_,Q_,Q_,Q_,Q_,Q_,Q_,Q_,Q_,Q_,Q_,Q_,Q_,Q_,Q_,Q_,Q_,Q_,Q_,Q_,Q_,Q_,Q_,Q_,Q_,Q_,Q_,Q_,Q_,Q_,Q_,Q_,Q_,Q_,Q_,Q_,Q_,Q_,Q_,Q_,Q_,Q_,Q_,Q_,Q_,Q_,Q_,Q_,Q_,Q_,Q_,Q_,Q_,Q_,Q_,Q_,Q_,Q_,Q_,Q_,Q_] H
def L90_2 (K:AV→Heap→Prop) (N1:AV→AV→Heap→Prop) (v0:AV) (v8:AV) (v9:AV) (v12:AV) (v59:AV) (v60:AV) (v61:AV) (H:Heap):Prop:=LoopV (wpC Tryz.prog tab D90 (cAt [1,1,1,1,1,1,0,0,0,1,0,0,1,0,0] (bO_ Tryz.f90))) [0,8,12,59,60] (PostF.block 4 (PostF.thenA (wpC Tryz.prog tab D90 (cAt [1,1,1,1,1,1,0,0,0,1,0,1] (bO_ Tryz.f90))) (PostF.block 3 (loopF (PostF.block 2 (PostF.thenA (wpC Tryz.prog tab D90 (cAt [1,1,1,1,1,1,1] (bO_ Tryz.f90))) (retF tab [.tmp 6,.tmp 7] K))) (fun e h=>N1 (e 9) (e 12) h))))) [9,61] [v0,Q_,Q_,Q_,Q_,Q_,Q_,Q_,v8,v9,Q_,Q_,v12,Q_,Q_,Q_,Q_,Q_,Q_,Q_,Q_,Q_,Q_,Q_,Q_,Q_,Q_,Q_,Q_,Q_,Q_,Q_,Q_,Q_,Q_,Q_,Q_,Q_,Q_,Q_,Q_,Q_,Q_,Q_,Q_,Q_,Q_,Q_,Q_,Q_,Q_,Q_,Q_,Q_,Q_,Q_,Q_,Q_,Q_,v59,v60,v61,Q_,Q_,Q_,Q_,Q_,Q_,Q_,Q_,Q_,Q_,Q_,Q_,Q_,Q_,Q_,Q_,Q_,Q_,Q_,Q_] H
def B90_2 (K:AV→Heap→Prop) (N1:AV→AV→Heap→Prop) (N2:AV→AV→Heap→Prop) (v0:AV) (v8:AV) (v9:AV) (v12:AV) (v59:AV) (v60:AV) (v61:AV) (H:Heap):Prop:=
 binV tab .lss 3 v61 v60 fun v62=>
 cV_ v62 (iA_ tab 24 v59 v61 fun v63=>
 lV_ tab 3 v63 H fun v64=>
 iA_ tab 24 v8 v64 fun v67=>
 lV_ tab 3 v67 H fun v68=>
 iA_ tab 24 v8 v9 fun v71=>
 lV_ tab 3 v71 H fun v72=>
 binV tab .sub 3 v72 (AV.p (.int .i64 1)) fun v73=>
 binV tab .eql 3 v68 v73 fun v74=>
 cV_ v74 (bS_ tab 24 1 [(0,v64)] H (wkK fun v79 H6=>
 aP_ tab 24 24 v12 v79 H6 (wkK fun v80 H7=>
 N1 v64 v80 H7)))
 (binV tab .add 3 v61 (AV.p (.int .i64 1)) fun v76=>
 N2 v9 v76 H))
 (bS_ tab 24 1 [(0,v9)] H (wkK fun v79 H8=>
 aP_ tab 24 24 v12 v79 H8 (wkK fun v80 H9=>
 N1 v9 v80 H9)))
def B90_1 (K:AV→Heap→Prop) (N1:AV→AV→Heap→Prop) (v0:AV) (v8:AV) (v9:AV) (v12:AV) (H:Heap):Prop:=
 iA_ tab 24 v8 v9 fun v53=>
 lV_ tab 3 v53 H fun v54=>
 binV tab .gtr 3 v54 (AV.p (.int .i64 0)) fun v55=>
 cV_ v55 (iA_ tab 26 v0 v9 fun v58=>
 lV_ tab 24 v58 H fun v59=>
 lenV tab 24 v59 fun v60=>
 L90_2 K N1 v0 v8 v9 v12 v59 v60 (AV.p (.int .i64 0)) H)
 (K (.tup [v12,(AV.p (.bool true))]) H)
def B90_0 (K:AV→Heap→Prop) (N1:AV→AV→Heap→Prop) (v0:AV) (v8:AV) (v9:AV) (v19:AV) (v20:AV) (v21:AV) (H:Heap):Prop:=
 binV tab .lss 3 v21 v20 fun v22=>
 cV_ v22 (iA_ tab 24 v19 v21 fun v23=>
 lV_ tab 3 v23 H fun v24=>
 iA_ tab 24 v8 v24 fun v27=>
 lV_ tab 3 v27 H fun v28=>
 binV tab .geq 3 v28 (AV.p (.int .i64 0)) fun v29=>
 grdV v29 true (binV tab .lss 3 v9 (AV.p (.int .i64 0)) fun v32=>
 grdV v32 false (iA_ tab 24 v8 v24 fun v36=>
 lV_ tab 3 v36 H fun v37=>
 iA_ tab 24 v8 v9 fun v40=>
 lV_ tab 3 v40 H fun v41=>
 binV tab .lss 3 v37 v41 fun v42=>
 cV_ v42 (binV tab .add 3 v21 (AV.p (.int .i64 1)) fun v46=>
 N1 v24 v46 H)
 (binV tab .add 3 v21 (AV.p (.int .i64 1)) fun v46=>
 N1 v9 v46 H))
 (binV tab .add 3 v21 (AV.p (.int .i64 1)) fun v46=>
 N1 v24 v46 H))
 (binV tab .add 3 v21 (AV.p (.int .i64 1)) fun v46=>
 N1 v9 v46 H))
 (binV tab .lss 3 v9 (AV.p (.int .i64 0)) fun v48=>
 cV_ v48 (K (.tup [(AV.p .nil),(AV.p (.bool false))]) H)
 (bS_ tab 24 1 [(0,v9)] H (wkK fun v50 H3=>
 L90_1 K v0 v8 v9 v50 H3)))
def W90 (v0:AV) (v1:AV) (v2:AV) (H:Heap) (K:AV→Heap→Prop):Prop:=
 CallT Tryz.prog 65 [v0] H fun v16 H1=>
 CallT Tryz.prog 89 [v16,v2] H1 fun v18 H2=>
 lenV tab 24 v1 fun v20=>
 L90_0 K v0 v18 (AV.p (.int .i64 (-1))) v1 v20 (AV.p (.int .i64 0)) H2
theorem W90_wp (v0:AV) (v1:AV) (v2:AV) (H:Heap) (K:AV→Heap→Prop):wpC Tryz.prog tab D90 (bO_ Tryz.f90) (retF tab [.tmp 6,.tmp 7] K) (nthA [v0,v1,v2]) H=W90 v0 v1 v2 H K:=by kernel_rfl
theorem W90_ok {v0 v1 v2:AV} {H:Heap} {K:AV→Heap→Prop} (h:W90 v0 v1 v2 H K):CallT Tryz.prog 90 [v0,v1,v2] H K:=
 CallT.of_wp (D:=D90) tO_ mixed Tryz.func90 (c:=bO_ Tryz.f90) (by kernel_rfl) rfl (by kernel_rfl) (rs:=#[.tmp 6,.tmp 7]) rfl (by decide +kernel) (by kernel_rfl) (W90_wp v0 v1 v2 H K) h
theorem L90_2_rule {K:AV→Heap→Prop} {N1:AV→AV→Heap→Prop} {v0 v8 v9 v12 v59 v60 v61:AV} {H:Heap} {σ:Type} (s0:σ) (f9:σ→AV) (f61:σ→AV) (TH:σ→Heap) (pre:σ→Prop) (μ:σ→Nat)
  (h0:pre s0∧AV.wk v9 (f9 s0)∧AV.wk v61 (f61 s0)∧Heap.le (TH s0) H)
  (round:∀s,pre s→B90_2 K N1 (fun w9 w61 H'=>∃s',pre s'∧μ s' < μ s∧AV.wk w9 (f9 s')∧AV.wk w61 (f61 s')∧Heap.le (TH s') H') v0 v8 (f9 s) v12 v59 v60 (f61 s) (TH s)) :
  L90_2 K N1 v0 v8 v9 v12 v59 v60 v61 H:=by
 unfold L90_2
 exact LoopV.mk s0 (fun s=>[f9 s,f61 s]) TH pre μ (fun _=>rfl) (Eq.mp (by kernel_rfl) h0) (fun s hs=>Eq.mp (by kernel_rfl) (round s hs))
theorem L90_1_rule {K:AV→Heap→Prop} {v0 v8 v9 v12:AV} {H:Heap} {σ:Type} (s0:σ) (f9:σ→AV) (f12:σ→AV) (TH:σ→Heap) (pre:σ→Prop) (μ:σ→Nat)
  (h0:pre s0∧AV.wk v9 (f9 s0)∧AV.wk v12 (f12 s0)∧Heap.le (TH s0) H)
  (round:∀s,pre s→B90_1 K (fun w9 w12 H'=>∃s',pre s'∧μ s' < μ s∧AV.wk w9 (f9 s')∧AV.wk w12 (f12 s')∧Heap.le (TH s') H') v0 v8 (f9 s) (f12 s) (TH s)) :
  L90_1 K v0 v8 v9 v12 H:=by
 unfold L90_1
 exact LoopV.mk s0 (fun s=>[f9 s,f12 s]) TH pre μ (fun _=>rfl) (Eq.mp (by kernel_rfl) h0) (fun s hs=>Eq.mp (by kernel_rfl) (round s hs))
theorem L90_0_rule {K:AV→Heap→Prop} {v0 v8 v9 v19 v20 v21:AV} {H:Heap} {σ:Type} (s0:σ) (f9:σ→AV) (f21:σ→AV) (TH:σ→Heap) (pre:σ→Prop) (μ:σ→Nat)
  (h0:pre s0∧AV.wk v9 (f9 s0)∧AV.wk v21 (f21 s0)∧Heap.le (TH s0) H)
  (round:∀s,pre s→B90_0 K (fun w9 w21 H'=>∃s',pre s'∧μ s' < μ s∧AV.wk w9 (f9 s')∧AV.wk w21 (f21 s')∧Heap.le (TH s') H') v0 v8 (f9 s) v19 v20 (f21 s) (TH s)) :
  L90_0 K v0 v8 v9 v19 v20 v21 H:=by
 unfold L90_0
 exact LoopV.mk s0 (fun s=>[f9 s,f21 s]) TH pre μ (fun _=>rfl) (Eq.mp (by kernel_rfl) h0) (fun s hs=>Eq.mp (by kernel_rfl) (round s hs))
def D91:Info:=⟨91,fun i=>if i=7 then ([[],[0],[],[2],[2,3],[0,1,2,3,4],[0,1,2,3,4,5],[0,1,2,3,4,5,6]],[(0,[]),(2,[]),(3,[]),(1,[4]),(4,[4]),(5,[]),(6,[]),(7,[])]) else ([],[]),fun i=>if i=3 then ([0,3,20],[21]) else if i=10 then ([0,3,5,6],[7]) else if i=16 then ([0,3,5,6,7,65,66],[8,67]) else if i=22 then ([0,3,5,6,7,8,79,80],[81]) else ([],[])⟩
def L91_0 (K:AV→Heap→Prop) (v0:AV) (v3:AV) (v20:AV) (v21:AV) (H:Heap):Prop:=LoopV (wpC Tryz.prog tab D91 (cAt [1,1,0,1,0,0] (bO_ Tryz.f91))) [0,3,20] (PostF.block 0 (PostF.thenA (wpC Tryz.prog tab D91 (cAt [1,1,1] (bO_ Tryz.f91))) (retF tab [.tmp 2] K))) [21] [v0,Q_,Q_,v3,Q_,Q_,Q_,Q_,Q_,Q_,Q_,Q_,Q_,Q_,Q_,Q_,Q_,Q_,Q_,Q_,v20,v21,Q_,Q_,Q_,Q_,Q_,Q_,Q_,Q_,Q_,Q_,Q_,Q_,Q_,Q_,Q_,Q_,Q_,Q_,Q_,Q_,Q_,Q_,Q_,Q_,Q_,Q_,Q_,Q_,Q_,Q_,Q_,Q_,Q_,Q_,Q_,Q_,Q_,Q_,Q_,Q_,Q_,Q_,Q_,Q_,Q_,Q_,Q_,Q_,Q_,Q_,Q_,Q_,Q_,Q_,Q_,Q_,Q_,Q_,Q_,Q_,Q_,Q_,Q_,Q_,Q_,Q_,Q_,Q_,Q_] H
def L91_1 (K:AV→Heap→Prop) (v0:AV) (v3:AV) (v5:AV) (v6:AV) (v7:AV) (H:Heap):Prop:=LoopV (wpC Tryz.prog tab D91 (cAt [1,1,1,1,1,0,1,0,0] (bO_ Tryz.f91))) [0,3,5,6] (PostF.block 2 (PostF.thenA (wpC Tryz.prog tab D91 (cAt [1,1,1,1,1,1] (bO_ Tryz.f91))) (retF tab [.tmp 2] K))) [7] [v0,Q_,Q_,v3,Q_,v5,v6,v7,Q_,Q_,Q_,Q_,Q_,Q_,Q_,Q_,Q_,Q_,Q_,Q_,Q_,Q_,Q_,Q_,Q_,Q_,Q_,Q_,Q_,Q_,Q_,Q_,Q_,Q_,Q_,Q_,Q_,Q_,Q_,Q_,Q_,Q_,Q_,Q_,Q_,Q_,Q_,Q_,Q_,Q_,Q_,Q_,Q_,Q_,Q_,Q_,Q_,Q_,Q_,Q_,Q_,Q_,Q_,Q_,Q_,Q_,Q_,Q_,Q_,Q_,Q_,Q_,Q_,Q_,Q_,Q_,Q_,Q_,Q_,Q_,Q_,Q_,Q_,Q_,Q_,Q_,Q_,Q_,Q_,Q_,Q_] H
def L91_2 (K:AV→Heap→Prop) (N1:AV→Heap→Prop) (v0:AV) (v3:AV) (v5:AV) (v6:AV) (v7:AV) (v8:AV) (v65:AV) (v66:AV) (v67:AV) (H:Heap):Prop:=LoopV (wpC Tryz.prog tab D91 (cAt [1,1,1,1,1,0,1,0,0,1,0,0,1,1,1,0,1,0,0] (bO_ Tryz.f91))) [0,3,5,6,7,65,66] (PostF.block 4 (PostF.thenA (wpC Tryz.prog tab D91 (cAt [1,1,1,1,1,0,1,0,0,1,0,0,1,1,1,1] (bO_ Tryz.f91))) (PostF.block 3 (PostF.thenA (wpC Tryz.prog tab D91 (cAt [1,1,1,1,1,0,1,0,0,1,1] (bO_ Tryz.f91))) (loopF (PostF.block 2 (PostF.thenA (wpC Tryz.prog tab D91 (cAt [1,1,1,1,1,1] (bO_ Tryz.f91))) (retF tab [.tmp 2] K))) (fun e h=>N1 (e 7) h)))))) [8,67] [v0,Q_,Q_,v3,Q_,v5,v6,v7,v8,Q_,Q_,Q_,Q_,Q_,Q_,Q_,Q_,Q_,Q_,Q_,Q_,Q_,Q_,Q_,Q_,Q_,Q_,Q_,Q_,Q_,Q_,Q_,Q_,Q_,Q_,Q_,Q_,Q_,Q_,Q_,Q_,Q_,Q_,Q_,Q_,Q_,Q_,Q_,Q_,Q_,Q_,Q_,Q_,Q_,Q_,Q_,Q_,Q_,Q_,Q_,Q_,Q_,Q_,Q_,Q_,v65,v66,v67,Q_,Q_,Q_,Q_,Q_,Q_,Q_,Q_,Q_,Q_,Q_,Q_,Q_,Q_,Q_,Q_,Q_,Q_,Q_,Q_,Q_,Q_,Q_] H
def L91_3 (K:AV→Heap→Prop) (N1:AV→Heap→Prop) (v0:AV) (v3:AV) (v5:AV) (v6:AV) (v7:AV) (v8:AV) (v79:AV) (v80:AV) (v81:AV) (H:Heap):Prop:=LoopV (wpC Tryz.prog tab D91 (cAt [1,1,1,1,1,0,1,0,0,1,0,0,1,1,1,1,1,0,0] (bO_ Tryz.f91))) [0,3,5,6,7,8,79,80] (PostF.block 6 (PostF.block 3 (PostF.thenA (wpC Tryz.prog tab D91 (cAt [1,1,1,1,1,0,1,0,0,1,1] (bO_ Tryz.f91))) (loopF (PostF.block 2 (PostF.thenA (wpC Tryz.prog tab D91 (cAt [1,1,1,1,1,1] (bO_ Tryz.f91))) (retF tab [.tmp 2] K))) (fun e h=>N1 (e 7) h))))) [81] [v0,Q_,Q_,v3,Q_,v5,v6,v7,v8,Q_,Q_,Q_,Q_,Q_,Q_,Q_,Q_,Q_,Q_,Q_,Q_,Q_,Q_,Q_,Q_,Q_,Q_,Q_,Q_,Q_,Q_,Q_,Q_,Q_,Q_,Q_,Q_,Q_,Q_,Q_,Q_,Q_,Q_,Q_,Q_,Q_,Q_,Q_,Q_,Q_,Q_,Q_,Q_,Q_,Q_,Q_,Q_,Q_,Q_,Q_,Q_,Q_,Q_,Q_,Q_,Q_,Q_,Q_,Q_,Q_,Q_,Q_,Q_,Q_,Q_,Q_,Q_,Q_,Q_,v79,v80,v81,Q_,Q_,Q_,Q_,Q_,Q_,Q_,Q_,Q_] H
def B91_3 (K:AV→Heap→Prop) (N1:AV→Heap→Prop) (N2:AV→Heap→Prop) (v0:AV) (v3:AV) (v5:AV) (v6:AV) (v7:AV) (v8:AV) (v79:AV) (v80:AV) (v81:AV) (H:Heap):Prop:=
 binV tab .lss 3 v81 v80 fun v82=>
 cV_ v82 (iA_ tab 24 v79 v81 fun v83=>
 lV_ tab 3 v83 H fun v84=>
 iA_ tab 24 v6 v84 fun v88=>
 sV_ tab 3 v88 v8 H fun H10=>
 binV tab .add 3 v81 (AV.p (.int .i64 1)) fun v89=>
 N2 v89 H10)
 (binV tab .sub 3 v7 (AV.p (.int .i64 1)) fun v47=>
 N1 v47 H)
def B91_2 (K:AV→Heap→Prop) (N1:AV→Heap→Prop) (N2:AV→AV→Heap→Prop) (v0:AV) (v3:AV) (v5:AV) (v6:AV) (v7:AV) (v8:AV) (v65:AV) (v66:AV) (v67:AV) (H:Heap):Prop:=
 binV tab .lss 3 v67 v66 fun v68=>
 cV_ v68 (iA_ tab 24 v65 v67 fun v69=>
 lV_ tab 3 v69 H fun v70=>
 binV tab .lss 3 v70 v8 fun v73=>
 cV_ v73 (binV tab .add 3 v67 (AV.p (.int .i64 1)) fun v75=>
 N2 v70 v75 H)
 (binV tab .add 3 v67 (AV.p (.int .i64 1)) fun v75=>
 N2 v8 v75 H))
 (nC_ v5 fun v77=>
 fA_ tab 124 v77 2 fun v78=>
 lV_ tab 24 v78 H fun v79=>
 lenV tab 24 v79 fun v80=>
 L91_3 K N1 v0 v3 v5 v6 v7 v8 v79 v80 (AV.p (.int .i64 0)) H)
def B91_1 (K:AV→Heap→Prop) (N1:AV→Heap→Prop) (v0:AV) (v3:AV) (v5:AV) (v6:AV) (v7:AV) (H:Heap):Prop:=
 binV tab .geq 3 v7 (AV.p (.int .i64 0)) fun v45=>
 cV_ v45 (nC_ v5 fun v49=>
 fA_ tab 124 v49 2 fun v50=>
 sV_ tab 24 v50 (AV.p .nil) H fun H8=>
 nC_ v3 fun v53=>
 fA_ tab 124 v53 2 fun v54=>
 lV_ tab 24 v54 H8 fun v55=>
 iA_ tab 24 v55 v7 fun v57=>
 lV_ tab 3 v57 H8 fun v58=>
 CallT Tryz.prog 118 [v5,v58] H8 fun v59 H9=>
 lenV tab 26 v0 fun v61=>
 nC_ v5 fun v63=>
 fA_ tab 124 v63 2 fun v64=>
 lV_ tab 24 v64 H9 fun v65=>
 lenV tab 24 v65 fun v66=>
 L91_2 K N1 v0 v3 v5 v6 v7 v61 v65 v66 (AV.p (.int .i64 0)) H9)
 (K v6 H)
def B91_0 (K:AV→Heap→Prop) (N1:AV→Heap→Prop) (v0:AV) (v3:AV) (v20:AV) (v21:AV) (H:Heap):Prop:=
 binV tab .lss 3 v21 v20 fun v22=>
 cV_ v22 (CallT Tryz.prog 118 [v3,v21] H fun v26 H3=>
 binV tab .add 3 v21 (AV.p (.int .i64 1)) fun v27=>
 N1 v27 H3)
 (lenV tab 26 v0 fun v31=>
 safeV (makeN tab 87 v31 v31)∧
 CallT Tryz.prog 65 [v0] H fun v29 H4=>
 newV (makeN tab 87 v31 v31) H4 fun v32 H5=>
 buildV tab 124 [(0,v29),(1,v32)] fun v33=>
 boxV v33 H5 fun v34 H6=>
 lenV tab 26 v0 fun v36=>
 mS_ tab 24 v36 v36 H6 fun v37 H7=>
 nC_ v3 fun v39=>
 fA_ tab 124 v39 2 fun v40=>
 lV_ tab 24 v40 H7 fun v41=>
 lenV tab 24 v41 fun v42=>
 binV tab .sub 3 v42 (AV.p (.int .i64 1)) fun v43=>
 L91_1 K v0 v3 v34 v37 v43 H7)
def W91 (v0:AV) (H:Heap) (K:AV→Heap→Prop):Prop:=
 lenV tab 26 v0 fun v15=>
 mS_ tab 87 v15 v15 H fun v16 H1=>
 buildV tab 124 [(0,v0),(1,v16)] fun v17=>
 boxV v17 H1 fun v18 H2=>
 lenV tab 26 v0 fun v20=>
 L91_0 K v0 v18 v20 (AV.p (.int .i64 0)) H2
theorem W91_wp (v0:AV) (H:Heap) (K:AV→Heap→Prop):wpC Tryz.prog tab D91 (bO_ Tryz.f91) (retF tab [.tmp 2] K) (nthA [v0]) H=W91 v0 H K:=by kernel_rfl
theorem W91_ok {v0:AV} {H:Heap} {K:AV→Heap→Prop} (h:W91 v0 H K):CallT Tryz.prog 91 [v0] H K:=
 CallT.of_wp (D:=D91) tO_ mixed Tryz.func91 (c:=bO_ Tryz.f91) (by kernel_rfl) rfl (by kernel_rfl) (rs:=#[.tmp 2]) rfl (by decide +kernel) (by kernel_rfl) (W91_wp v0 H K) h
theorem L91_3_rule {K:AV→Heap→Prop} {N1:AV→Heap→Prop} {v0 v3 v5 v6 v7 v8 v79 v80 v81:AV} {H:Heap} {σ:Type} (s0:σ) (f81:σ→AV) (TH:σ→Heap) (pre:σ→Prop) (μ:σ→Nat)
  (h0:pre s0∧AV.wk v81 (f81 s0)∧Heap.le (TH s0) H)
  (round:∀s,pre s→B91_3 K N1 (fun w81 H'=>∃s',pre s'∧μ s' < μ s∧AV.wk w81 (f81 s')∧Heap.le (TH s') H') v0 v3 v5 v6 v7 v8 v79 v80 (f81 s) (TH s)) :
  L91_3 K N1 v0 v3 v5 v6 v7 v8 v79 v80 v81 H:=by
 unfold L91_3
 exact LoopV.mk s0 (fun s=>[f81 s]) TH pre μ (fun _=>rfl) (Eq.mp (by kernel_rfl) h0) (fun s hs=>Eq.mp (by kernel_rfl) (round s hs))
theorem L91_2_rule {K:AV→Heap→Prop} {N1:AV→Heap→Prop} {v0 v3 v5 v6 v7 v8 v65 v66 v67:AV} {H:Heap} {σ:Type} (s0:σ) (f8:σ→AV) (f67:σ→AV) (TH:σ→Heap) (pre:σ→Prop) (μ:σ→Nat)
  (h0:pre s0∧AV.wk v8 (f8 s0)∧AV.wk v67 (f67 s0)∧Heap.le (TH s0) H)
  (round:∀s,pre s→B91_2 K N1 (fun w8 w67 H'=>∃s',pre s'∧μ s' < μ s∧AV.wk w8 (f8 s')∧AV.wk w67 (f67 s')∧Heap.le (TH s') H') v0 v3 v5 v6 v7 (f8 s) v65 v66 (f67 s) (TH s)) :
  L91_2 K N1 v0 v3 v5 v6 v7 v8 v65 v66 v67 H:=by
 unfold L91_2
 exact LoopV.mk s0 (fun s=>[f8 s,f67 s]) TH pre μ (fun _=>rfl) (Eq.mp (by kernel_rfl) h0) (fun s hs=>Eq.mp (by kernel_rfl) (round s hs))
theorem L91_1_rule {K:AV→Heap→Prop} {v0 v3 v5 v6 v7:AV} {H:Heap} {σ:Type} (s0:σ) (f7:σ→AV) (TH:σ→Heap) (pre:σ→Prop) (μ:σ→Nat)
  (h0:pre s0∧AV.wk v7 (f7 s0)∧Heap.le (TH s0) H)
  (round:∀s,pre s→B91_1 K (fun w7 H'=>∃s',pre s'∧μ s' < μ s∧AV.wk w7 (f7 s')∧Heap.le (TH s') H') v0 v3 v5 v6 (f7 s) (TH s)) :
  L91_1 K v0 v3 v5 v6 v7 H:=by
 unfold L91_1
 exact LoopV.mk s0 (fun s=>[f7 s]) TH pre μ (fun _=>rfl) (Eq.mp (by kernel_rfl) h0) (fun s hs=>Eq.mp (by kernel_rfl) (round s hs))
theorem L91_0_rule {K:AV→Heap→Prop} {v0 v3 v20 v21:AV} {H:Heap} {σ:Type} (s0:σ) (f21:σ→AV) (TH:σ→Heap) (pre:σ→Prop) (μ:σ→Nat)
  (h0:pre s0∧AV.wk v21 (f21 s0)∧Heap.le (TH s0) H)
  (round:∀s,pre s→B91_0 K (fun w21 H'=>∃s',pre s'∧μ s' < μ s∧AV.wk w21 (f21 s')∧Heap.le (TH s') H') v0 v3 v20 (f21 s) (TH s)) :
  L91_0 K v0 v3 v20 v21 H:=by
 unfold L91_0
 exact LoopV.mk s0 (fun s=>[f21 s]) TH pre μ (fun _=>rfl) (Eq.mp (by kernel_rfl) h0) (fun s hs=>Eq.mp (by kernel_rfl) (round s hs))
def D92:Info:=⟨48,fun i=>if i=8 then ([[],[],[0,1],[0,1,2],[],[],[4,5],[4,5,6],[0,1,2,3,4,5,6,7]],[(0,[]),(1,[]),(2,[]),(3,[]),(4,[]),(5,[]),(6,[]),(7,[]),(8,[])]) else ([],[]),fun i=>if i=3 then ([1,5,13,14],[15]) else if i=6 then ([1,5,6,13,14,15,20,21],[22]) else ([],[])⟩
def L92_0 (K:AV→Heap→Prop) (v1:AV) (v5:AV) (v13:AV) (v14:AV) (v15:AV) (H:Heap):Prop:=LoopV (wpC Tryz.prog tab D92 (cAt [1,1,0,1,0,0] (bO_ Tryz.f92))) [1,5,13,14] (PostF.block 0 (PostF.thenA (wpC Tryz.prog tab D92 (cAt [1,1,1] (bO_ Tryz.f92))) (retF tab [.tmp 4] K))) [15] [Q_,v1,Q_,Q_,Q_,v5,Q_,Q_,Q_,Q_,Q_,Q_,Q_,v13,v14,v15,Q_,Q_,Q_,Q_,Q_,Q_,Q_,Q_,Q_,Q_,Q_,Q_,Q_,Q_,Q_,Q_,Q_,Q_,Q_,Q_,Q_,Q_,Q_,Q_,Q_,Q_,Q_,Q_,Q_,Q_,Q_,Q_] H
def L92_1 (K:AV→Heap→Prop) (N1:AV→Heap→Prop) (v1:AV) (v5:AV) (v6:AV) (v13:AV) (v14:AV) (v15:AV) (v20:AV) (v21:AV) (v22:AV) (H:Heap):Prop:=LoopV (wpC Tryz.prog tab D92 (cAt [1,1,0,1,0,0,1,1,0,0,1,1,0,0] (bO_ Tryz.f92))) [1,5,6,13,14,15,20,21] (PostF.block 2 (PostF.block 1 (PostF.thenA (wpC Tryz.prog tab D92 (cAt [1,1,0,1,0,0,1,1,1] (bO_ Tryz.f92))) (loopF (PostF.block 0 (PostF.thenA (wpC Tryz.prog tab D92 (cAt [1,1,1] (bO_ Tryz.f92))) (retF tab [.tmp 4] K))) (fun e h=>N1 (e 15) h))))) [22] [Q_,v1,Q_,Q_,Q_,v5,v6,Q_,Q_,Q_,Q_,Q_,Q_,v13,v14,v15,Q_,Q_,Q_,Q_,v20,v21,v22,Q_,Q_,Q_,Q_,Q_,Q_,Q_,Q_,Q_,Q_,Q_,Q_,Q_,Q_,Q_,Q_,Q_,Q_,Q_,Q_,Q_,Q_,Q_,Q_,Q_] H
def B92_1 (K:AV→Heap→Prop) (N1:AV→Heap→Prop) (N2:AV→Heap→Prop) (v1:AV) (v5:AV) (v6:AV) (v13:AV) (v14:AV) (v15:AV) (v20:AV) (v21:AV) (v22:AV) (H:Heap):Prop:=
 binV tab .lss 3 v22 v21 fun v23=>
 cV_ v23 (iA_ tab 24 v20 v22 fun v24=>
 lV_ tab 3 v24 H fun v25=>
 iA_ tab 24 v1 v6 fun v28=>
 lV_ tab 3 v28 H fun v29=>
 iA_ tab 24 v1 v25 fun v32=>
 lV_ tab 3 v32 H fun v33=>
 binV tab .eql 3 v29 v33 fun v34=>
 cV_ v34 (iA_ tab 26 v5 v6 fun v39=>
 lV_ tab 24 v39 H fun v40=>
 bS_ tab 24 1 [(0,v25)] H (wkK fun v42 H2=>
 aP_ tab 24 24 v40 v42 H2 (wkK fun v43 H3=>
 iA_ tab 26 v5 v6 fun v44=>
 sV_ tab 24 v44 v43 H3 fun H4=>
 binV tab .add 3 v22 (AV.p (.int .i64 1)) fun v45=>
 N2 v45 H4)))
 (binV tab .add 3 v22 (AV.p (.int .i64 1)) fun v45=>
 N2 v45 H))
 (binV tab .add 3 v15 (AV.p (.int .i64 1)) fun v46=>
 N1 v46 H)
def B92_0 (K:AV→Heap→Prop) (N1:AV→Heap→Prop) (v1:AV) (v5:AV) (v13:AV) (v14:AV) (v15:AV) (H:Heap):Prop:=
 binV tab .lss 3 v15 v14 fun v16=>
 cV_ v16 (iA_ tab 26 v13 v15 fun v18=>
 lV_ tab 24 v18 H fun v19=>
 lenV tab 24 v19 fun v21=>
 L92_1 K N1 v1 v5 v15 v13 v14 v15 v19 v21 (AV.p (.int .i64 0)) H)
 (K v5 H)
def W92 (v0:AV) (v1:AV) (H:Heap) (K:AV→Heap→Prop):Prop:=
 lenV tab 26 v0 fun v11=>
 mS_ tab 26 v11 v11 H fun v12 H1=>
 lenV tab 26 v0 fun v14=>
 L92_0 K v1 v12 v0 v14 (AV.p (.int .i64 0)) H1
theorem W92_wp (v0:AV) (v1:AV) (H:Heap) (K:AV→Heap→Prop):wpC Tryz.prog tab D92 (bO_ Tryz.f92) (retF tab [.tmp 4] K) (nthA [v0,v1]) H=W92 v0 v1 H K:=by kernel_rfl
theorem W92_ok {v0 v1:AV} {H:Heap} {K:AV→Heap→Prop} (h:W92 v0 v1 H K):CallT Tryz.prog 92 [v0,v1] H K:=
 CallT.of_wp (D:=D92) tO_ mixed Tryz.func92 (c:=bO_ Tryz.f92) (by kernel_rfl) rfl (by kernel_rfl) (rs:=#[.tmp 4]) rfl (by decide +kernel) (by kernel_rfl) (W92_wp v0 v1 H K) h
theorem L92_1_rule {K:AV→Heap→Prop} {N1:AV→Heap→Prop} {v1 v5 v6 v13 v14 v15 v20 v21 v22:AV} {H:Heap} {σ:Type} (s0:σ) (f22:σ→AV) (TH:σ→Heap) (pre:σ→Prop) (μ:σ→Nat)
  (h0:pre s0∧AV.wk v22 (f22 s0)∧Heap.le (TH s0) H)
  (round:∀s,pre s→B92_1 K N1 (fun w22 H'=>∃s',pre s'∧μ s' < μ s∧AV.wk w22 (f22 s')∧Heap.le (TH s') H') v1 v5 v6 v13 v14 v15 v20 v21 (f22 s) (TH s)) :
  L92_1 K N1 v1 v5 v6 v13 v14 v15 v20 v21 v22 H:=by
 unfold L92_1
 exact LoopV.mk s0 (fun s=>[f22 s]) TH pre μ (fun _=>rfl) (Eq.mp (by kernel_rfl) h0) (fun s hs=>Eq.mp (by kernel_rfl) (round s hs))
theorem L92_0_rule {K:AV→Heap→Prop} {v1 v5 v13 v14 v15:AV} {H:Heap} {σ:Type} (s0:σ) (f15:σ→AV) (TH:σ→Heap) (pre:σ→Prop) (μ:σ→Nat)
  (h0:pre s0∧AV.wk v15 (f15 s0)∧Heap.le (TH s0) H)
  (round:∀s,pre s→B92_0 K (fun w15 H'=>∃s',pre s'∧μ s' < μ s∧AV.wk w15 (f15 s')∧Heap.le (TH s') H') v1 v5 v13 v14 (f15 s) (TH s)) :
  L92_0 K v1 v5 v13 v14 v15 H:=by
 unfold L92_0
 exact LoopV.mk s0 (fun s=>[f15 s]) TH pre μ (fun _=>rfl) (Eq.mp (by kernel_rfl) h0) (fun s hs=>Eq.mp (by kernel_rfl) (round s hs))
def D93:Info:=⟨48,fun i=>([],[]),fun i=>if i=2 then ([0,1],[5]) else ([],[])⟩
def L93_0 (K:AV→Heap→Prop) (v0:AV) (v1:AV) (v5:AV) (H:Heap):Prop:=LoopV (wpC Tryz.prog tab D93 (cAt [1,1,0,0,0] (bO_ Tryz.f93))) [0,1] (PostF.block 0 (PostF.thenA (wpC Tryz.prog tab D93 (cAt [1,1,1] (bO_ Tryz.f93))) (retF tab [.tmp 4] K))) [5] [v0,v1,Q_,Q_,Q_,v5,Q_,Q_,Q_,Q_,Q_,Q_,Q_,Q_,Q_,Q_,Q_,Q_,Q_,Q_,Q_,Q_,Q_,Q_,Q_,Q_,Q_,Q_,Q_,Q_,Q_,Q_,Q_,Q_,Q_,Q_,Q_,Q_,Q_,Q_,Q_,Q_,Q_,Q_,Q_,Q_,Q_,Q_] H
def J93_1 (K:AV→Heap→Prop) (v0:AV) (v1:AV) (v5:AV) (H:Heap):Prop:=
 bS_ tab 24 0 [] H (wkK fun v34 H1=>
 sliceV tab 24 v0 none (some v5) none fun v37=>
 aP_ tab 24 24 v34 v37 H1 (wkK fun v38 H2=>
 bS_ tab 24 1 [(0,v1)] H2 (wkK fun v41 H3=>
 aP_ tab 24 24 v38 v41 H3 (wkK fun v42 H4=>
 sliceV tab 24 v0 (some v5) none none fun v46=>
 aP_ tab 24 24 v42 v46 H4 (wkK fun v47 H5=>
 K v47 H5)))))
def J93_2 (K:AV→Heap→Prop) (v0:AV) (v1:AV) (v5:AV) (H:Heap):Prop:=
 lenV tab 24 v0 fun v23=>
 binV tab .lss 3 v5 v23 fun v24=>
 grdV v24 true (iA_ tab 24 v0 v5 fun v28=>
 lV_ tab 3 v28 H fun v29=>
 binV tab .eql 3 v29 v1 fun v31=>
 cV_ v31 (K v0 H)
 (J93_1 K v0 v1 v5 H))
 (J93_1 K v0 v1 v5 H)
def B93_0 (K:AV→Heap→Prop) (N1:AV→Heap→Prop) (v0:AV) (v1:AV) (v5:AV) (H:Heap):Prop:=
 lenV tab 24 v0 fun v9=>
 binV tab .lss 3 v5 v9 fun v10=>
 grdV v10 true (iA_ tab 24 v0 v5 fun v14=>
 lV_ tab 3 v14 H fun v15=>
 binV tab .lss 3 v15 v1 fun v17=>
 cV_ v17 (binV tab .add 3 v5 (AV.p (.int .i64 1)) fun v20=>
 N1 v20 H)
 (J93_2 K v0 v1 v5 H))
 (J93_2 K v0 v1 v5 H)
def W93 (v0:AV) (v1:AV) (H:Heap) (K:AV→Heap→Prop):Prop:=
 L93_0 K v0 v1 (AV.p (.int .i64 0)) H
theorem W93_wp (v0:AV) (v1:AV) (H:Heap) (K:AV→Heap→Prop):wpC Tryz.prog tab D93 (bO_ Tryz.f93) (retF tab [.tmp 4] K) (nthA [v0,v1]) H=W93 v0 v1 H K:=by kernel_rfl
theorem W93_ok {v0 v1:AV} {H:Heap} {K:AV→Heap→Prop} (h:W93 v0 v1 H K):CallT Tryz.prog 93 [v0,v1] H K:=
 CallT.of_wp (D:=D93) tO_ mixed Tryz.func93 (c:=bO_ Tryz.f93) (by kernel_rfl) rfl (by kernel_rfl) (rs:=#[.tmp 4]) rfl (by decide +kernel) (by kernel_rfl) (W93_wp v0 v1 H K) h
theorem L93_0_rule {K:AV→Heap→Prop} {v0 v1 v5:AV} {H:Heap} {σ:Type} (s0:σ) (f5:σ→AV) (TH:σ→Heap) (pre:σ→Prop) (μ:σ→Nat)
  (h0:pre s0∧AV.wk v5 (f5 s0)∧Heap.le (TH s0) H)
  (round:∀s,pre s→B93_0 K (fun w5 H'=>∃s',pre s'∧μ s' < μ s∧AV.wk w5 (f5 s')∧Heap.le (TH s') H') v0 v1 (f5 s) (TH s)) :
  L93_0 K v0 v1 v5 H:=by
 unfold L93_0
 exact LoopV.mk s0 (fun s=>[f5 s]) TH pre μ (fun _=>rfl) (Eq.mp (by kernel_rfl) h0) (fun s hs=>Eq.mp (by kernel_rfl) (round s hs))
end Go.Proofs.YtohkciilfkhomaaGreat
