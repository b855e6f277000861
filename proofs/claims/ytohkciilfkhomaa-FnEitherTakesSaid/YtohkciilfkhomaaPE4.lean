/- Texts laid together: W2 W3 W4 W5. -/
import Derived.Test.YtohkciilfkhomaaPE3
import Derived.KernelRfl
set_option linter.unusedVariables false
set_option linter.unusedSimpArgs false
open Nat renaming reduceAdd→ν1,reduceLeDiff→ν2,reduceLT→ν3,reduceMul→ν4,reduceSub→ν5
open Int renaming reduceToNat→ι1,reduceSub→ι2,reduceAdd→ι3,reduceNeg→ι4
open Array renaming toList→ι5
open Ne renaming symm→ν6
open List renaming forall_mem_cons→ν7
namespace Go.Proofs.Ytohkciilfkhomaa
open Go Go.Sep
attribute [local irreducible] wpC headF
def D17:Info:=⟨77,fun i=>if i=6 then ([[],[0],[],[2],[2,3],[0,1,2,3,4],[0,1,2,3,4,5],[0,1,2,3,4,5,6],[0,1,2,3,4,5,6,7],[0,1,2,3,4,5,6,7,8],[0,1,2,3,4,5,6,7,8,9],[0,1,2,3,4,5,6,7,8,9,10],[0,1,2,3,4,5,6,7,8,9,10,11],[0,1,2,3,4,5,6,7,8,9,10,11,12],[0,1,2,3,4,5,6,7,8,9,10,11,12,13],[0,1,2,3,4,5,6,7,8,9,10,11,12,13,14],[0,1,2,3,4,5,6,7,8,9,10,11,12,13],[0,1,2,3,4,5,6,7,8,9,10,11,12,13,16],[0,1,2,3,4,5,6,7,8,9,10,11,12,13,16,17],[0,1,2,3,4,5,6,7,8,9,10,11,12,13,14,15,16,17,18],[0,1,2,3,4,5,6,7,8,9,10,11,12,13,14,15,16,17,18,19],[0,1,2,3,4,5,6,7,8,9,10,11,12,13,14,15,16,17,18,19,20],[0,1,2,3,4,5,6,7,8,9,10,11,12,13,14,15,16,17,18,19,20,21],[0,1,2,3,4,5,6,7,8,9,10,11,12,13,14,15,16,17,18,19,20,21,22],[0,1,2,3,4,5,6,7,8,9,10,11,12,13,14,15,16,17,18,19,20,21,22,23],[0,1,2,3,4,5,6,7,8,9,10,11,12,13,14,15,16,17,18,19,20,21,22,23,24],[0,1,2,3,4,5,6,7,8,9,10,11,12,13,14,15,16,17,18,19,20,21,22,23,24,25],[0,1,2,3,4,5,6,7,8,9,10,11,12,13,14,15,16,17,18,19,20,21,22,23,24,25,26],[0,1,2,3,4,5,6,7,8,9,10,11,12,13,14,15,16,17,18,19,20,21,22,23,24,25],[0,1,2,3,4,5,6,7,8,9,10,11,12,13,14,15,16,17,18,19,20,21,22,23,24,25,28],[0,1,2,3,4,5,6,7,8,9,10,11,12,13,14,15,16,17,18,19,20,21,22,23,24,25,26,27,28,29],[0,1,2,3,4,5,6,7,8,9,10,11,12,13,14,15,16,17,18,19,20,21,22,23,24,25,26,27,28,29,30],[0,1,2,3,4,5,6,7,8,9,10,11,12,13,14,15,16,17,18,19,20,21,22,23,24,25],[0,1,2,3,4,5,6,7,8,9,10,11,12,13,14,15,16,17,18,19,20,21,22,23,24,25,26,27,28,29,30,31,32],[0,1,2,3,4,5,6,7,8,9,10,11,12,13,14,15,16,17,18,19,20,21,22,23,24,25,26,27,28,29,30,31,32,33],[0,1,2,3,4,5,6,7,8,9,10,11,12,13,14,15,16,17,18,19,20,21,22,23,24,25,26,27,28,29,30,31,32,33,34],[0,1,2,3,4,5,6,7,8,9,10,11,12,13,14,15,16,17,18,19,20,21,22,23,24,25,26,27,28,29,30,31,32,33,34,35]],[(0,[]),(1,[]),(2,[]),(3,[]),(4,[]),(5,[]),(6,[]),(7,[]),(8,[]),(9,[]),(10,[]),(11,[]),(12,[]),(13,[]),(14,[]),(15,[]),(16,[]),(17,[]),(18,[]),(19,[]),(20,[]),(21,[]),(22,[]),(23,[]),(24,[]),(25,[]),(26,[]),(27,[]),(28,[]),(29,[]),(30,[]),(31,[]),(32,[]),(33,[]),(34,[]),(35,[]),(36,[])]) else ([],[]),fun i=>if i=4 then ([1,32,33],[34]) else ([],[])⟩
def L17_0 (K:AV→Heap→Prop) (v1:AV) (v32:AV) (v33:AV) (v34:AV) (H:Heap):Prop:=LoopV (wpC Try.prog tab D17 (cAt [1,1,0,1,0,0] (bodyOf Try.f17))) [1,32,33] (PostF.block 0 (PostF.thenA (wpC Try.prog tab D17 (cAt [1,1,1] (bodyOf Try.f17))) (retF tab [.tmp 2] K))) [34] [AV.any,v1,AV.any,AV.any,AV.any,AV.any,AV.any,AV.any,AV.any,AV.any,AV.any,AV.any,AV.any,AV.any,AV.any,AV.any,AV.any,AV.any,AV.any,AV.any,AV.any,AV.any,AV.any,AV.any,AV.any,AV.any,AV.any,AV.any,AV.any,AV.any,AV.any,AV.any,v32,v33,v34,AV.any,AV.any,AV.any,AV.any,AV.any,AV.any,AV.any,AV.any,AV.any,AV.any,AV.any,AV.any,AV.any,AV.any,AV.any,AV.any,AV.any,AV.any,AV.any,AV.any,AV.any,AV.any,AV.any,AV.any,AV.any,AV.any,AV.any,AV.any,AV.any,AV.any,AV.any,AV.any,AV.any,AV.any,AV.any,AV.any,AV.any,AV.any,AV.any,AV.any,AV.any,AV.any] H
def B17_0 (K:AV→Heap→Prop) (N1:AV→Heap→Prop) (v1:AV) (v32:AV) (v33:AV) (v34:AV) (H:Heap):Prop:=
 binV tab .lss 3 v34 v33 fun v35=>
 condV v35 (indexAddrV tab 25 v32 v34 fun v37=>
 loadV tab 46 v37 H fun v38=>
 allocV tab 46 H fun v4 H5=>
 storeV tab 46 v4 v38 H5 fun H6=>
 fieldAddrV tab 46 v4 0 fun v39=>
 loadV tab 3 v39 H6 fun v40=>
 fieldAddrV tab 28 v1 0 fun v41=>
 loadV tab 3 v41 H6 fun v42=>
 binV tab .sub 3 v42 (AV.p (.int .i64 1)) fun v43=>
 CallT Try.prog 32 [v40,(AV.p (.int .i64 0)),v43] H6 fun v44 H7=>
 unV .not v44 fun v45=>
 grdV v45 false (fieldAddrV tab 46 v4 1 fun v47=>
 loadV tab 3 v47 H7 fun v48=>
 CallT Try.prog 32 [v48,(AV.p (.int .i64 0)),(AV.p (.int .i64 7))] H7 fun v49 H8=>
 unV .not v49 fun v50=>
 grdV v50 false (fieldAddrV tab 46 v4 2 fun v53=>
 loadV tab 3 v53 H8 fun v54=>
 fieldAddrV tab 28 v1 0 fun v55=>
 loadV tab 3 v55 H8 fun v56=>
 binV tab .sub 3 v56 (AV.p (.int .i64 1)) fun v57=>
 CallT Try.prog 32 [v54,(AV.p (.int .i64 0)),v57] H8 fun v58 H9=>
 unV .not v58 fun v59=>
 grdV v59 false (binV tab .gtr 3 v34 (AV.p (.int .i64 0)) fun v63=>
 grdV v63 true (fieldAddrV tab 28 v1 2 fun v65=>
 loadV tab 25 v65 H9 fun v66=>
 binV tab .sub 3 v34 (AV.p (.int .i64 1)) fun v68=>
 indexAddrV tab 25 v66 v68 fun v69=>
 loadV tab 46 v69 H9 fun v70=>
 loadV tab 46 v4 H9 fun v71=>
 CallT Try.prog 47 [v70,v71] H9 fun v72 H10=>
 unV .not v72 fun v73=>
 condV v73 (K (AV.p (.bool false)) H10)
 (binV tab .add 3 v34 (AV.p (.int .i64 1)) fun v76=>
 N1 v76 H10))
 (binV tab .add 3 v34 (AV.p (.int .i64 1)) fun v76=>
 N1 v76 H9))
 (K (AV.p (.bool false)) H9))
 (K (AV.p (.bool false)) H8))
 (K (AV.p (.bool false)) H7))
 (K (AV.p (.bool true)) H)
def W17 (v0:AV) (H:Heap) (K:AV→Heap→Prop):Prop:=
 boxV v0 H fun v1 H1=>
 fieldAddrV tab 28 v1 0 fun v5=>
 loadV tab 3 v5 H1 fun v6=>
 CallT Try.prog 32 [v6,(AV.p (.int .i64 1)),(AV.p (.int .i64 96))] H1 fun v7 H2=>
 unV .not v7 fun v8=>
 grdV v8 false (fieldAddrV tab 28 v1 1 fun v10=>
 loadV tab 24 v10 H2 fun v11=>
 fieldAddrV tab 28 v1 0 fun v12=>
 loadV tab 3 v12 H2 fun v13=>
 CallT Try.prog 45 [v11,v13] H2 fun v14 H3=>
 unV .not v14 fun v15=>
 grdV v15 false (fieldAddrV tab 28 v1 2 fun v18=>
 loadV tab 25 v18 H3 fun v19=>
 lenV tab 25 v19 fun v20=>
 binV tab .gtr 3 v20 (AV.p (.int .i64 2400)) fun v21=>
 grdV v21 false (fieldAddrV tab 28 v1 3 fun v24=>
 loadV tab 26 v24 H3 fun v25=>
 fieldAddrV tab 28 v1 0 fun v26=>
 loadV tab 3 v26 H3 fun v27=>
 CallT Try.prog 46 [v25,v27] H3 fun v28 H4=>
 unV .not v28 fun v29=>
 condV v29 (K (AV.p (.bool false)) H4)
 (fieldAddrV tab 28 v1 2 fun v31=>
 loadV tab 25 v31 H4 fun v32=>
 lenV tab 25 v32 fun v33=>
 L17_0 K v1 v32 v33 (AV.p (.int .i64 0)) H4))
 (K (AV.p (.bool false)) H3))
 (K (AV.p (.bool false)) H3))
 (K (AV.p (.bool false)) H2)
theorem W17_wp (v0:AV) (H:Heap) (K:AV→Heap→Prop):wpC Try.prog tab D17 (bodyOf Try.f17) (retF tab [.tmp 2] K) (nthA [v0]) H=W17 v0 H K:=by kernel_rfl
theorem W17_ok {v0:AV} {H:Heap} {K:AV→Heap→Prop} (h:W17 v0 H K):CallT Try.prog 17 [v0] H K:=
  CallT.of_wp (D:=D17) tab_ok mixed Try.func17 (c:=bodyOf Try.f17) (by kernel_rfl) rfl (by kernel_rfl) (rs:=#[.tmp 2]) rfl (by decide +kernel) (by kernel_rfl) (W17_wp v0 H K) h
theorem L17_0_rule {K:AV→Heap→Prop} {v1 v32 v33 v34:AV} {H:Heap} {σ:Type} (s0:σ) (f34:σ→AV) (TH:σ→Heap) (pre:σ→Prop) (μ:σ→Nat)
    (h0:pre s0∧AV.wk v34 (f34 s0)∧Heap.le (TH s0) H)
    (round:∀s,pre s→B17_0 K (fun w34 H'=>∃s',pre s'∧μ s' < μ s∧AV.wk w34 (f34 s')∧Heap.le (TH s') H') v1 v32 v33 (f34 s) (TH s)) :
    L17_0 K v1 v32 v33 v34 H:=by
  unfold L17_0
  exact LoopV.mk s0 (fun s=>[f34 s]) TH pre μ (fun _=>rfl) (Eq.mp (by kernel_rfl) h0) (fun s hs=>Eq.mp (by kernel_rfl) (round s hs))
def D18:Info:=⟨36,fun i=>([],[]),fun i=>if i=3 then ([0,9,10],[3,11]) else if i=11 then ([25,26],[6,27]) else ([],[])⟩
def L18_0 (K:AV→Heap→Prop) (v0:AV) (v3:AV) (v9:AV) (v10:AV) (v11:AV) (H:Heap):Prop:=LoopV (wpC Try.prog tab D18 (cAt [1,1,0,1,0,0] (bodyOf Try.f18))) [0,9,10] (PostF.block 0 (PostF.thenA (wpC Try.prog tab D18 (cAt [1,1,1] (bodyOf Try.f18))) (retF tab [.tmp 2] K))) [3,11] [v0,AV.any,AV.any,v3,AV.any,AV.any,AV.any,AV.any,AV.any,v9,v10,v11,AV.any,AV.any,AV.any,AV.any,AV.any,AV.any,AV.any,AV.any,AV.any,AV.any,AV.any,AV.any,AV.any,AV.any,AV.any,AV.any,AV.any,AV.any,AV.any,AV.any,AV.any,AV.any,AV.any,AV.any] H
def L18_1 (K:AV→Heap→Prop) (v6:AV) (v25:AV) (v26:AV) (v27:AV) (H:Heap):Prop:=LoopV (wpC Try.prog tab D18 (cAt [1,1,1,1,0,1,0,0] (bodyOf Try.f18))) [25,26] (PostF.block 2 (PostF.thenA (wpC Try.prog tab D18 (cAt [1,1,1,1,1] (bodyOf Try.f18))) (retF tab [.tmp 2] K))) [6,27] [AV.any,AV.any,AV.any,AV.any,AV.any,AV.any,v6,AV.any,AV.any,AV.any,AV.any,AV.any,AV.any,AV.any,AV.any,AV.any,AV.any,AV.any,AV.any,AV.any,AV.any,AV.any,AV.any,AV.any,AV.any,v25,v26,v27,AV.any,AV.any,AV.any,AV.any,AV.any,AV.any,AV.any,AV.any] H
def B18_1 (K:AV→Heap→Prop) (N1:AV→AV→Heap→Prop) (v6:AV) (v25:AV) (v26:AV) (v27:AV) (H:Heap):Prop:=
 binV tab .lss 3 v27 v26 fun v28=>
 condV v28 (indexAddrV tab 26 v25 v27 fun v29=>
 loadV tab 24 v29 H fun v30=>
 appendV tab 24 24 v6 v30 H (wkK fun v33 H2=>
 binV tab .add 3 v27 (AV.p (.int .i64 1)) fun v34=>
 N1 v33 v34 H2))
 (K v6 H)
def B18_0 (K:AV→Heap→Prop) (N1:AV→AV→Heap→Prop) (v0:AV) (v3:AV) (v9:AV) (v10:AV) (v11:AV) (H:Heap):Prop:=
 binV tab .lss 3 v11 v10 fun v12=>
 condV v12 (indexAddrV tab 26 v9 v11 fun v13=>
 loadV tab 24 v13 H fun v14=>
 lenV tab 24 v14 fun v17=>
 binV tab .add 3 v3 v17 fun v18=>
 binV tab .lss 3 v18 (AV.p (.int .i64 0)) fun v20=>
 condV v20 (False)
 (binV tab .add 3 v11 (AV.p (.int .i64 1)) fun v22=>
 N1 v18 v22 H))
 (CallT Try.prog 48 [(AV.p .nil),v3] H fun v24 H1=>
 lenV tab 26 v0 fun v26=>
 L18_1 K v24 v0 v26 (AV.p (.int .i64 0)) H1)
def W18 (v0:AV) (H:Heap) (K:AV→Heap→Prop):Prop:=
 lenV tab 26 v0 fun v10=>
 L18_0 K v0 (AV.p (.int .i64 0)) v0 v10 (AV.p (.int .i64 0)) H
theorem W18_wp (v0:AV) (H:Heap) (K:AV→Heap→Prop):wpC Try.prog tab D18 (bodyOf Try.f18) (retF tab [.tmp 2] K) (nthA [v0]) H=W18 v0 H K:=by kernel_rfl
theorem W18_ok {v0:AV} {H:Heap} {K:AV→Heap→Prop} (h:W18 v0 H K):CallT Try.prog 18 [v0] H K:=
  CallT.of_wp (D:=D18) tab_ok mixed Try.func18 (c:=bodyOf Try.f18) (by kernel_rfl) rfl (by kernel_rfl) (rs:=#[.tmp 2]) rfl (by decide +kernel) (by kernel_rfl) (W18_wp v0 H K) h
theorem W18_hb:HasBody Try.prog 18:=⟨_,bodyOf Try.f18,Try.func18,by kernel_rfl,rfl⟩
theorem L18_1_rule {K:AV→Heap→Prop} {v6 v25 v26 v27:AV} {H:Heap} {σ:Type} (s0:σ) (f6:σ→AV) (f27:σ→AV) (TH:σ→Heap) (pre:σ→Prop) (μ:σ→Nat)
    (h0:pre s0∧AV.wk v6 (f6 s0)∧AV.wk v27 (f27 s0)∧Heap.le (TH s0) H)
    (round:∀s,pre s→B18_1 K (fun w6 w27 H'=>∃s',pre s'∧μ s' < μ s∧AV.wk w6 (f6 s')∧AV.wk w27 (f27 s')∧Heap.le (TH s') H') (f6 s) v25 v26 (f27 s) (TH s)) :
    L18_1 K v6 v25 v26 v27 H:=by
  unfold L18_1
  exact LoopV.mk s0 (fun s=>[f6 s,f27 s]) TH pre μ (fun _=>rfl) (Eq.mp (by kernel_rfl) h0) (fun s hs=>Eq.mp (by kernel_rfl) (round s hs))
theorem L18_0_rule {K:AV→Heap→Prop} {v0 v3 v9 v10 v11:AV} {H:Heap} {σ:Type} (s0:σ) (f3:σ→AV) (f11:σ→AV) (TH:σ→Heap) (pre:σ→Prop) (μ:σ→Nat)
    (h0:pre s0∧AV.wk v3 (f3 s0)∧AV.wk v11 (f11 s0)∧Heap.le (TH s0) H)
    (round:∀s,pre s→B18_0 K (fun w3 w11 H'=>∃s',pre s'∧μ s' < μ s∧AV.wk w3 (f3 s')∧AV.wk w11 (f11 s')∧Heap.le (TH s') H') v0 (f3 s) v9 v10 (f11 s) (TH s)) :
    L18_0 K v0 v3 v9 v10 v11 H:=by
  unfold L18_0
  exact LoopV.mk s0 (fun s=>[f3 s,f11 s]) TH pre μ (fun _=>rfl) (Eq.mp (by kernel_rfl) h0) (fun s hs=>Eq.mp (by kernel_rfl) (round s hs))
def D19:Info:=⟨23,fun i=>([],[]),fun i=>if i=3 then ([1,9,10],[5,11]) else ([],[])⟩
def L19_0 (K:AV→Heap→Prop) (v1:AV) (v5:AV) (v9:AV) (v10:AV) (v11:AV) (H:Heap):Prop:=LoopV (wpC Try.prog tab D19 (cAt [1,1,0,1,0,0] (bodyOf Try.f19))) [1,9,10] (PostF.block 0 (PostF.thenA (wpC Try.prog tab D19 (cAt [1,1,1] (bodyOf Try.f19))) (retF tab [.tmp 4] K))) [5,11] [AV.any,v1,AV.any,AV.any,AV.any,v5,AV.any,AV.any,AV.any,v9,v10,v11,AV.any,AV.any,AV.any,AV.any,AV.any,AV.any,AV.any,AV.any,AV.any,AV.any,AV.any] H
def B19_0 (K:AV→Heap→Prop) (N1:AV→AV→Heap→Prop) (v1:AV) (v5:AV) (v9:AV) (v10:AV) (v11:AV) (H:Heap):Prop:=
 binV tab .lss 3 v11 v10 fun v12=>
 condV v12 (indexAddrV tab 24 v9 v11 fun v13=>
 loadV tab 3 v13 H fun v14=>
 binV tab .add 3 v14 v1 fun v18=>
 buildSliceV tab 24 1 [(0,v18)] H (wkK fun v19 H2=>
 appendV tab 24 24 v5 v19 H2 (wkK fun v20 H3=>
 binV tab .add 3 v11 (AV.p (.int .i64 1)) fun v21=>
 N1 v20 v21 H3)))
 (K v5 H)
def W19 (v0:AV) (v1:AV) (H:Heap) (K:AV→Heap→Prop):Prop:=
 buildSliceV tab 24 0 [] H (wkK fun v8 H1=>
 lenV tab 24 v0 fun v10=>
 L19_0 K v1 v8 v0 v10 (AV.p (.int .i64 0)) H1)
theorem W19_wp (v0:AV) (v1:AV) (H:Heap) (K:AV→Heap→Prop):wpC Try.prog tab D19 (bodyOf Try.f19) (retF tab [.tmp 4] K) (nthA [v0,v1]) H=W19 v0 v1 H K:=by kernel_rfl
theorem W19_ok {v0 v1:AV} {H:Heap} {K:AV→Heap→Prop} (h:W19 v0 v1 H K):CallT Try.prog 19 [v0,v1] H K:=
  CallT.of_wp (D:=D19) tab_ok mixed Try.func19 (c:=bodyOf Try.f19) (by kernel_rfl) rfl (by kernel_rfl) (rs:=#[.tmp 4]) rfl (by decide +kernel) (by kernel_rfl) (W19_wp v0 v1 H K) h
theorem L19_0_rule {K:AV→Heap→Prop} {v1 v5 v9 v10 v11:AV} {H:Heap} {σ:Type} (s0:σ) (f5:σ→AV) (f11:σ→AV) (TH:σ→Heap) (pre:σ→Prop) (μ:σ→Nat)
    (h0:pre s0∧AV.wk v5 (f5 s0)∧AV.wk v11 (f11 s0)∧Heap.le (TH s0) H)
    (round:∀s,pre s→B19_0 K (fun w5 w11 H'=>∃s',pre s'∧μ s' < μ s∧AV.wk w5 (f5 s')∧AV.wk w11 (f11 s')∧Heap.le (TH s') H') v1 (f5 s) v9 v10 (f11 s) (TH s)) :
    L19_0 K v1 v5 v9 v10 v11 H:=by
  unfold L19_0
  exact LoopV.mk s0 (fun s=>[f5 s,f11 s]) TH pre μ (fun _=>rfl) (Eq.mp (by kernel_rfl) h0) (fun s hs=>Eq.mp (by kernel_rfl) (round s hs))
def D20:Info:=⟨8,fun i=>([],[]),fun i=>([],[])⟩
def W20 (v0:AV) (H:Heap) (K:AV→Heap→Prop):Prop:=
 binV tab .eql 25 v0 (AV.p .nil) fun v4=>
 condV v4 (K (AV.p .nil) H)
 (buildSliceV tab 25 0 [] H (wkK fun v5 H1=>
 appendV tab 25 25 v5 v0 H1 (wkK fun v7 H2=>
 K v7 H2)))
theorem W20_wp (v0:AV) (H:Heap) (K:AV→Heap→Prop):wpC Try.prog tab D20 (bodyOf Try.f20) (retF tab [.tmp 2] K) (nthA [v0]) H=W20 v0 H K:=by kernel_rfl
theorem W20_ok {v0:AV} {H:Heap} {K:AV→Heap→Prop} (h:W20 v0 H K):CallT Try.prog 20 [v0] H K:=
  CallT.of_wp (D:=D20) tab_ok mixed Try.func20 (c:=bodyOf Try.f20) (by kernel_rfl) rfl (by kernel_rfl) (rs:=#[.tmp 2]) rfl (by decide +kernel) (by kernel_rfl) (W20_wp v0 H K) h
theorem W20_hb:HasBody Try.prog 20:=⟨_,bodyOf Try.f20,Try.func20,by kernel_rfl,rfl⟩
def D21:Info:=⟨18,fun i=>([],[]),fun i=>([],[])⟩
def W21 (v0:AV) (v1:AV) (H:Heap) (K:AV→Heap→Prop):Prop:=
 boxV v0 H fun v2 H1=>
 fieldAddrV tab 28 v2 3 fun v6=>
 loadV tab 26 v6 H1 fun v7=>
 lenV tab 26 v7 fun v8=>
 binV tab .lss 3 v1 v8 fun v9=>
 condV v9 (fieldAddrV tab 28 v2 3 fun v10=>
 loadV tab 26 v10 H1 fun v11=>
 indexAddrV tab 26 v11 v1 fun v13=>
 loadV tab 24 v13 H1 fun v14=>
 K v14 H1)
 (fieldAddrV tab 28 v2 0 fun v15=>
 loadV tab 3 v15 H1 fun v16=>
 CallT Try.prog 49 [v16] H1 fun v17 H2=>
 K v17 H2)
theorem W21_wp (v0:AV) (v1:AV) (H:Heap) (K:AV→Heap→Prop):wpC Try.prog tab D21 (bodyOf Try.f21) (retF tab [.tmp 4] K) (nthA [v0,v1]) H=W21 v0 v1 H K:=by kernel_rfl
theorem W21_ok {v0 v1:AV} {H:Heap} {K:AV→Heap→Prop} (h:W21 v0 v1 H K):CallT Try.prog 21 [v0,v1] H K:=
  CallT.of_wp (D:=D21) tab_ok mixed Try.func21 (c:=bodyOf Try.f21) (by kernel_rfl) rfl (by kernel_rfl) (rs:=#[.tmp 4]) rfl (by decide +kernel) (by kernel_rfl) (W21_wp v0 v1 H K) h
def D22:Info:=⟨9,fun i=>([],[]),fun i=>([],[])⟩
def W22 (v0:AV) (H:Heap) (K:AV→Heap→Prop):Prop:=
 boxV v0 H fun v1 H1=>
 allocV tab 28 H1 fun v2 H2=>
 loadV tab 28 v1 H2 fun v4=>
 CallT Try.prog 16 [v4] H2 fun v5 H3=>
 unV .not v5 fun v6=>
 condV v6 (buildV tab 28 [] fun v7=>
 storeV tab 28 v2 v7 H3 fun H4=>
 loadV tab 28 v2 H4 fun r0=>
 K (.tup [r0,(AV.p (.bool false))]) H4)
 (loadV tab 28 v1 H3 fun v8=>
 storeV tab 28 v2 v8 H3 fun H5=>
 loadV tab 28 v2 H5 fun r0=>
 K (.tup [r0,(AV.p (.bool true))]) H5)
theorem W22_wp (v0:AV) (H:Heap) (K:AV→Heap→Prop):wpC Try.prog tab D22 (bodyOf Try.f22) (retF tab [.cell 2 28,.tmp 3] K) (nthA [v0]) H=W22 v0 H K:=by kernel_rfl
theorem W22_ok {v0:AV} {H:Heap} {K:AV→Heap→Prop} (h:W22 v0 H K):CallT Try.prog 22 [v0] H K:=
  CallT.of_wp (D:=D22) tab_ok mixed Try.func22 (c:=bodyOf Try.f22) (by kernel_rfl) rfl (by kernel_rfl) (rs:=#[.cell 2 28,.tmp 3]) rfl (by decide +kernel) (by kernel_rfl) (W22_wp v0 H K) h
def D23:Info:=⟨26,fun i=>([],[]),fun i=>if i=3 then ([2,12,13],[7,14]) else ([],[])⟩
def L23_0 (K:AV→Heap→Prop) (v2:AV) (v7:AV) (v12:AV) (v13:AV) (v14:AV) (H:Heap):Prop:=LoopV (wpC Try.prog tab D23 (cAt [1,1,0,1,0,0] (bodyOf Try.f23))) [2,12,13] (PostF.block 0 (PostF.thenA (wpC Try.prog tab D23 (cAt [1,1,1] (bodyOf Try.f23))) (retF tab [.tmp 6] K))) [7,14] [AV.any,AV.any,v2,AV.any,AV.any,AV.any,AV.any,v7,AV.any,AV.any,AV.any,AV.any,v12,v13,v14,AV.any,AV.any,AV.any,AV.any,AV.any,AV.any,AV.any,AV.any,AV.any,AV.any,AV.any] H
def B23_0 (K:AV→Heap→Prop) (N1:AV→AV→Heap→Prop) (v2:AV) (v7:AV) (v12:AV) (v13:AV) (v14:AV) (H:Heap):Prop:=
 binV tab .lss 3 v14 v13 fun v15=>
 condV v15 (indexAddrV tab 24 v12 v14 fun v16=>
 loadV tab 3 v16 H fun v17=>
 binV tab .add 3 v17 v2 fun v21=>
 buildSliceV tab 24 1 [(0,v21)] H (wkK fun v22 H2=>
 appendV tab 24 24 v7 v22 H2 (wkK fun v23 H3=>
 binV tab .add 3 v14 (AV.p (.int .i64 1)) fun v24=>
 N1 v23 v24 H3)))
 (K v7 H)
def W23 (v0:AV) (v1:AV) (v2:AV) (H:Heap) (K:AV→Heap→Prop):Prop:=
 CallT Try.prog 50 [v0] H fun v11 H1=>
 lenV tab 24 v1 fun v13=>
 L23_0 K v2 v11 v1 v13 (AV.p (.int .i64 0)) H1
theorem W23_wp (v0:AV) (v1:AV) (v2:AV) (H:Heap) (K:AV→Heap→Prop):wpC Try.prog tab D23 (bodyOf Try.f23) (retF tab [.tmp 6] K) (nthA [v0,v1,v2]) H=W23 v0 v1 v2 H K:=by kernel_rfl
theorem W23_ok {v0 v1 v2:AV} {H:Heap} {K:AV→Heap→Prop} (h:W23 v0 v1 v2 H K):CallT Try.prog 23 [v0,v1,v2] H K:=
  CallT.of_wp (D:=D23) tab_ok mixed Try.func23 (c:=bodyOf Try.f23) (by kernel_rfl) rfl (by kernel_rfl) (rs:=#[.tmp 6]) rfl (by decide +kernel) (by kernel_rfl) (W23_wp v0 v1 v2 H K) h
theorem L23_0_rule {K:AV→Heap→Prop} {v2 v7 v12 v13 v14:AV} {H:Heap} {σ:Type} (s0:σ) (f7:σ→AV) (f14:σ→AV) (TH:σ→Heap) (pre:σ→Prop) (μ:σ→Nat)
    (h0:pre s0∧AV.wk v7 (f7 s0)∧AV.wk v14 (f14 s0)∧Heap.le (TH s0) H)
    (round:∀s,pre s→B23_0 K (fun w7 w14 H'=>∃s',pre s'∧μ s' < μ s∧AV.wk w7 (f7 s')∧AV.wk w14 (f14 s')∧Heap.le (TH s') H') v2 (f7 s) v12 v13 (f14 s) (TH s)) :
    L23_0 K v2 v7 v12 v13 v14 H:=by
  unfold L23_0
  exact LoopV.mk s0 (fun s=>[f7 s,f14 s]) TH pre μ (fun _=>rfl) (Eq.mp (by kernel_rfl) h0) (fun s hs=>Eq.mp (by kernel_rfl) (round s hs))
def D24:Info:=⟨18,fun i=>([],[]),fun i=>([],[])⟩
def W24 (v0:AV) (v1:AV) (H:Heap) (K:AV→Heap→Prop):Prop:=
 boxV v0 H fun v2 H1=>
 fieldAddrV tab 28 v2 3 fun v6=>
 loadV tab 26 v6 H1 fun v7=>
 lenV tab 26 v7 fun v8=>
 binV tab .lss 3 v1 v8 fun v9=>
 condV v9 (fieldAddrV tab 28 v2 3 fun v10=>
 loadV tab 26 v10 H1 fun v11=>
 indexAddrV tab 26 v11 v1 fun v13=>
 loadV tab 24 v13 H1 fun v14=>
 K v14 H1)
 (fieldAddrV tab 28 v2 0 fun v15=>
 loadV tab 3 v15 H1 fun v16=>
 CallT Try.prog 41 [v16] H1 fun v17 H2=>
 K v17 H2)
theorem W24_wp (v0:AV) (v1:AV) (H:Heap) (K:AV→Heap→Prop):wpC Try.prog tab D24 (bodyOf Try.f24) (retF tab [.tmp 4] K) (nthA [v0,v1]) H=W24 v0 v1 H K:=by kernel_rfl
theorem W24_ok {v0 v1:AV} {H:Heap} {K:AV→Heap→Prop} (h:W24 v0 v1 H K):CallT Try.prog 24 [v0,v1] H K:=
  CallT.of_wp (D:=D24) tab_ok mixed Try.func24 (c:=bodyOf Try.f24) (by kernel_rfl) rfl (by kernel_rfl) (rs:=#[.tmp 4]) rfl (by decide +kernel) (by kernel_rfl) (W24_wp v0 v1 H K) h
def D25:Info:=⟨9,fun i=>([],[]),fun i=>([],[])⟩
def W25 (v0:AV) (H:Heap) (K:AV→Heap→Prop):Prop:=
 boxV v0 H fun v1 H1=>
 allocV tab 28 H1 fun v2 H2=>
 loadV tab 28 v1 H2 fun v4=>
 CallT Try.prog 17 [v4] H2 fun v5 H3=>
 unV .not v5 fun v6=>
 condV v6 (buildV tab 28 [] fun v7=>
 storeV tab 28 v2 v7 H3 fun H4=>
 loadV tab 28 v2 H4 fun r0=>
 K (.tup [r0,(AV.p (.bool false))]) H4)
 (loadV tab 28 v1 H3 fun v8=>
 storeV tab 28 v2 v8 H3 fun H5=>
 loadV tab 28 v2 H5 fun r0=>
 K (.tup [r0,(AV.p (.bool true))]) H5)
theorem W25_wp (v0:AV) (H:Heap) (K:AV→Heap→Prop):wpC Try.prog tab D25 (bodyOf Try.f25) (retF tab [.cell 2 28,.tmp 3] K) (nthA [v0]) H=W25 v0 H K:=by kernel_rfl
theorem W25_ok {v0:AV} {H:Heap} {K:AV→Heap→Prop} (h:W25 v0 H K):CallT Try.prog 25 [v0] H K:=
  CallT.of_wp (D:=D25) tab_ok mixed Try.func25 (c:=bodyOf Try.f25) (by kernel_rfl) rfl (by kernel_rfl) (rs:=#[.cell 2 28,.tmp 3]) rfl (by decide +kernel) (by kernel_rfl) (W25_wp v0 H K) h
def D26:Info:=⟨26,fun i=>if i=6 then ([[],[],[0,1],[0,1,2],[],[],[4,5],[4,5,6],[0,1,2,3,4,5,6,7]],[(0,[]),(1,[]),(2,[]),(3,[]),(4,[]),(5,[]),(6,[]),(7,[]),(8,[])]) else ([],[]),fun i=>if i=4 then ([0,1,12],[13]) else ([],[])⟩
def L26_0 (K:AV→Heap→Prop) (v0:AV) (v1:AV) (v12:AV) (v13:AV) (H:Heap):Prop:=LoopV (wpC Try.prog tab D26 (cAt [1,1,0,1,0,0] (bodyOf Try.f26))) [0,1,12] (PostF.block 0 (PostF.thenA (wpC Try.prog tab D26 (cAt [1,1,1] (bodyOf Try.f26))) (retF tab [.tmp 4] K))) [13] [v0,v1,AV.any,AV.any,AV.any,AV.any,AV.any,AV.any,AV.any,AV.any,AV.any,AV.any,v12,v13,AV.any,AV.any,AV.any,AV.any,AV.any,AV.any,AV.any,AV.any,AV.any,AV.any,AV.any,AV.any] H
def B26_0 (K:AV→Heap→Prop) (N1:AV→Heap→Prop) (v0:AV) (v1:AV) (v12:AV) (v13:AV) (H:Heap):Prop:=
 binV tab .lss 3 v13 v12 fun v14=>
 condV v14 (indexAddrV tab 24 v0 v13 fun v18=>
 loadV tab 3 v18 H fun v19=>
 indexAddrV tab 24 v1 v13 fun v22=>
 loadV tab 3 v22 H fun v23=>
 binV tab .neq 3 v19 v23 fun v24=>
 condV v24 (K (AV.p (.bool false)) H)
 (binV tab .add 3 v13 (AV.p (.int .i64 1)) fun v25=>
 N1 v25 H))
 (K (AV.p (.bool true)) H)
def W26 (v0:AV) (v1:AV) (H:Heap) (K:AV→Heap→Prop):Prop:=
 lenV tab 24 v0 fun v7=>
 lenV tab 24 v1 fun v9=>
 binV tab .neq 3 v7 v9 fun v10=>
 condV v10 (K (AV.p (.bool false)) H)
 (lenV tab 24 v0 fun v12=>
 L26_0 K v0 v1 v12 (AV.p (.int .i64 0)) H)
theorem W26_wp (v0:AV) (v1:AV) (H:Heap) (K:AV→Heap→Prop):wpC Try.prog tab D26 (bodyOf Try.f26) (retF tab [.tmp 4] K) (nthA [v0,v1]) H=W26 v0 v1 H K:=by kernel_rfl
theorem W26_ok {v0 v1:AV} {H:Heap} {K:AV→Heap→Prop} (h:W26 v0 v1 H K):CallT Try.prog 26 [v0,v1] H K:=
  CallT.of_wp (D:=D26) tab_ok mixed Try.func26 (c:=bodyOf Try.f26) (by kernel_rfl) rfl (by kernel_rfl) (rs:=#[.tmp 4]) rfl (by decide +kernel) (by kernel_rfl) (W26_wp v0 v1 H K) h
theorem L26_0_rule {K:AV→Heap→Prop} {v0 v1 v12 v13:AV} {H:Heap} {σ:Type} (s0:σ) (f13:σ→AV) (TH:σ→Heap) (pre:σ→Prop) (μ:σ→Nat)
    (h0:pre s0∧AV.wk v13 (f13 s0)∧Heap.le (TH s0) H)
    (round:∀s,pre s→B26_0 K (fun w13 H'=>∃s',pre s'∧μ s' < μ s∧AV.wk w13 (f13 s')∧Heap.le (TH s') H') v0 v1 v12 (f13 s) (TH s)) :
    L26_0 K v0 v1 v12 v13 H:=by
  unfold L26_0
  exact LoopV.mk s0 (fun s=>[f13 s]) TH pre μ (fun _=>rfl) (Eq.mp (by kernel_rfl) h0) (fun s hs=>Eq.mp (by kernel_rfl) (round s hs))
def D27:Info:=⟨27,fun i=>if i=6 then ([[],[],[0,1],[0,1,2],[],[],[4,5],[4,5,6],[0,1,2,3,4,5,6,7],[0,1,2,3,4,5,6,7,8]],[(0,[]),(1,[]),(2,[]),(3,[]),(4,[]),(5,[]),(6,[]),(7,[]),(8,[]),(9,[])]) else ([],[]),fun i=>if i=4 then ([0,1,12],[13]) else ([],[])⟩
def L27_0 (K:AV→Heap→Prop) (v0:AV) (v1:AV) (v12:AV) (v13:AV) (H:Heap):Prop:=LoopV (wpC Try.prog tab D27 (cAt [1,1,0,1,0,0] (bodyOf Try.f27))) [0,1,12] (PostF.block 0 (PostF.thenA (wpC Try.prog tab D27 (cAt [1,1,1] (bodyOf Try.f27))) (retF tab [.tmp 4] K))) [13] [v0,v1,AV.any,AV.any,AV.any,AV.any,AV.any,AV.any,AV.any,AV.any,AV.any,AV.any,v12,v13,AV.any,AV.any,AV.any,AV.any,AV.any,AV.any,AV.any,AV.any,AV.any,AV.any,AV.any,AV.any,AV.any] H
def B27_0 (K:AV→Heap→Prop) (N1:AV→Heap→Prop) (v0:AV) (v1:AV) (v12:AV) (v13:AV) (H:Heap):Prop:=
 binV tab .lss 3 v13 v12 fun v14=>
 condV v14 (indexAddrV tab 26 v0 v13 fun v18=>
 loadV tab 24 v18 H fun v19=>
 indexAddrV tab 26 v1 v13 fun v22=>
 loadV tab 24 v22 H fun v23=>
 CallT Try.prog 26 [v19,v23] H fun v24 H1=>
 unV .not v24 fun v25=>
 condV v25 (K (AV.p (.bool false)) H1)
 (binV tab .add 3 v13 (AV.p (.int .i64 1)) fun v26=>
 N1 v26 H1))
 (K (AV.p (.bool true)) H)
def W27 (v0:AV) (v1:AV) (H:Heap) (K:AV→Heap→Prop):Prop:=
 lenV tab 26 v0 fun v7=>
 lenV tab 26 v1 fun v9=>
 binV tab .neq 3 v7 v9 fun v10=>
 condV v10 (K (AV.p (.bool false)) H)
 (lenV tab 26 v0 fun v12=>
 L27_0 K v0 v1 v12 (AV.p (.int .i64 0)) H)
theorem W27_wp (v0:AV) (v1:AV) (H:Heap) (K:AV→Heap→Prop):wpC Try.prog tab D27 (bodyOf Try.f27) (retF tab [.tmp 4] K) (nthA [v0,v1]) H=W27 v0 v1 H K:=by kernel_rfl
theorem W27_ok {v0 v1:AV} {H:Heap} {K:AV→Heap→Prop} (h:W27 v0 v1 H K):CallT Try.prog 27 [v0,v1] H K:=
  CallT.of_wp (D:=D27) tab_ok mixed Try.func27 (c:=bodyOf Try.f27) (by kernel_rfl) rfl (by kernel_rfl) (rs:=#[.tmp 4]) rfl (by decide +kernel) (by kernel_rfl) (W27_wp v0 v1 H K) h
theorem L27_0_rule {K:AV→Heap→Prop} {v0 v1 v12 v13:AV} {H:Heap} {σ:Type} (s0:σ) (f13:σ→AV) (TH:σ→Heap) (pre:σ→Prop) (μ:σ→Nat)
    (h0:pre s0∧AV.wk v13 (f13 s0)∧Heap.le (TH s0) H)
    (round:∀s,pre s→B27_0 K (fun w13 H'=>∃s',pre s'∧μ s' < μ s∧AV.wk w13 (f13 s')∧Heap.le (TH s') H') v0 v1 v12 (f13 s) (TH s)) :
    L27_0 K v0 v1 v12 v13 H:=by
  unfold L27_0
  exact LoopV.mk s0 (fun s=>[f13 s]) TH pre μ (fun _=>rfl) (Eq.mp (by kernel_rfl) h0) (fun s hs=>Eq.mp (by kernel_rfl) (round s hs))
def D28:Info:=⟨118,fun i=>([],[]),fun i=>if i=4 then ([0,4,5],[6]) else if i=7 then ([0,4,5,6],[7]) else if i=11 then ([0,4,5,6,7],[8,9]) else if i=15 then ([0,4,5,6,7,47,48],[49]) else if i=20 then ([0,4,5],[12]) else ([],[])⟩
def L28_0 (K:AV→Heap→Prop) (v0:AV) (v4:AV) (v5:AV) (v6:AV) (H:Heap):Prop:=LoopV (wpC Try.prog tab D28 (cAt [1,1,1,0,1,0,0] (bodyOf Try.f28))) [0,4,5] (PostF.block 0 (PostF.thenA (wpC Try.prog tab D28 (cAt [1,1,1,1] (bodyOf Try.f28))) (retF tab [.cell 4 28] K))) [6] [v0,AV.any,AV.any,AV.any,v4,v5,v6,AV.any,AV.any,AV.any,AV.any,AV.any,AV.any,AV.any,AV.any,AV.any,AV.any,AV.any,AV.any,AV.any,AV.any,AV.any,AV.any,AV.any,AV.any,AV.any,AV.any,AV.any,AV.any,AV.any,AV.any,AV.any,AV.any,AV.any,AV.any,AV.any,AV.any,AV.any,AV.any,AV.any,AV.any,AV.any,AV.any,AV.any,AV.any,AV.any,AV.any,AV.any,AV.any,AV.any,AV.any,AV.any,AV.any,AV.any,AV.any,AV.any,AV.any,AV.any,AV.any,AV.any,AV.any,AV.any,AV.any,AV.any,AV.any,AV.any,AV.any,AV.any,AV.any,AV.any,AV.any,AV.any,AV.any,AV.any,AV.any,AV.any,AV.any,AV.any,AV.any,AV.any,AV.any,AV.any,AV.any,AV.any,AV.any,AV.any,AV.any,AV.any,AV.any,AV.any,AV.any,AV.any,AV.any,AV.any,AV.any,AV.any,AV.any,AV.any,AV.any,AV.any,AV.any,AV.any,AV.any,AV.any,AV.any,AV.any,AV.any,AV.any,AV.any,AV.any,AV.any,AV.any,AV.any,AV.any,AV.any,AV.any,AV.any,AV.any] H
def L28_1 (K:AV→Heap→Prop) (N1:AV→Heap→Prop) (v0:AV) (v4:AV) (v5:AV) (v6:AV) (v7:AV) (H:Heap):Prop:=LoopV (wpC Try.prog tab D28 (cAt [1,1,1,0,1,0,0,1,0,0,1,0,0] (bodyOf Try.f28))) [0,4,5,6] (PostF.block 2 (PostF.block 1 (PostF.thenA (wpC Try.prog tab D28 (cAt [1,1,1,0,1,0,0,1,1] (bodyOf Try.f28))) (loopF (PostF.block 0 (PostF.thenA (wpC Try.prog tab D28 (cAt [1,1,1,1] (bodyOf Try.f28))) (retF tab [.cell 4 28] K))) (fun e h=>N1 (e 6) h))))) [7] [v0,AV.any,AV.any,AV.any,v4,v5,v6,v7,AV.any,AV.any,AV.any,AV.any,AV.any,AV.any,AV.any,AV.any,AV.any,AV.any,AV.any,AV.any,AV.any,AV.any,AV.any,AV.any,AV.any,AV.any,AV.any,AV.any,AV.any,AV.any,AV.any,AV.any,AV.any,AV.any,AV.any,AV.any,AV.any,AV.any,AV.any,AV.any,AV.any,AV.any,AV.any,AV.any,AV.any,AV.any,AV.any,AV.any,AV.any,AV.any,AV.any,AV.any,AV.any,AV.any,AV.any,AV.any,AV.any,AV.any,AV.any,AV.any,AV.any,AV.any,AV.any,AV.any,AV.any,AV.any,AV.any,AV.any,AV.any,AV.any,AV.any,AV.any,AV.any,AV.any,AV.any,AV.any,AV.any,AV.any,AV.any,AV.any,AV.any,AV.any,AV.any,AV.any,AV.any,AV.any,AV.any,AV.any,AV.any,AV.any,AV.any,AV.any,AV.any,AV.any,AV.any,AV.any,AV.any,AV.any,AV.any,AV.any,AV.any,AV.any,AV.any,AV.any,AV.any,AV.any,AV.any,AV.any,AV.any,AV.any,AV.any,AV.any,AV.any,AV.any,AV.any,AV.any,AV.any,AV.any] H
def L28_2 (K:AV→Heap→Prop) (N1:AV→Heap→Prop) (N2:AV→Heap→Prop) (v0:AV) (v4:AV) (v5:AV) (v6:AV) (v7:AV) (v8:AV) (v9:AV) (H:Heap):Prop:=LoopV (wpC Try.prog tab D28 (cAt [1,1,1,0,1,0,0,1,0,0,1,0,0,1,0,0,1,0,1,0,0] (bodyOf Try.f28))) [0,4,5,6,7] (PostF.block 4 (PostF.thenA (wpC Try.prog tab D28 (cAt [1,1,1,0,1,0,0,1,0,0,1,0,0,1,0,0,1,1] (bodyOf Try.f28))) (PostF.block 3 (PostF.thenA (wpC Try.prog tab D28 (cAt [1,1,1,0,1,0,0,1,0,0,1,0,0,1,1] (bodyOf Try.f28))) (loopF (PostF.block 2 (PostF.block 1 (PostF.thenA (wpC Try.prog tab D28 (cAt [1,1,1,0,1,0,0,1,1] (bodyOf Try.f28))) (loopF (PostF.block 0 (PostF.thenA (wpC Try.prog tab D28 (cAt [1,1,1,1] (bodyOf Try.f28))) (retF tab [.cell 4 28] K))) (fun e h=>N1 (e 6) h))))) (fun e h=>N2 (e 7) h)))))) [8,9] [v0,AV.any,AV.any,AV.any,v4,v5,v6,v7,v8,v9,AV.any,AV.any,AV.any,AV.any,AV.any,AV.any,AV.any,AV.any,AV.any,AV.any,AV.any,AV.any,AV.any,AV.any,AV.any,AV.any,AV.any,AV.any,AV.any,AV.any,AV.any,AV.any,AV.any,AV.any,AV.any,AV.any,AV.any,AV.any,AV.any,AV.any,AV.any,AV.any,AV.any,AV.any,AV.any,AV.any,AV.any,AV.any,AV.any,AV.any,AV.any,AV.any,AV.any,AV.any,AV.any,AV.any,AV.any,AV.any,AV.any,AV.any,AV.any,AV.any,AV.any,AV.any,AV.any,AV.any,AV.any,AV.any,AV.any,AV.any,AV.any,AV.any,AV.any,AV.any,AV.any,AV.any,AV.any,AV.any,AV.any,AV.any,AV.any,AV.any,AV.any,AV.any,AV.any,AV.any,AV.any,AV.any,AV.any,AV.any,AV.any,AV.any,AV.any,AV.any,AV.any,AV.any,AV.any,AV.any,AV.any,AV.any,AV.any,AV.any,AV.any,AV.any,AV.any,AV.any,AV.any,AV.any,AV.any,AV.any,AV.any,AV.any,AV.any,AV.any,AV.any,AV.any,AV.any,AV.any] H
def L28_3 (K:AV→Heap→Prop) (N1:AV→Heap→Prop) (N2:AV→Heap→Prop) (v0:AV) (v4:AV) (v5:AV) (v6:AV) (v7:AV) (v47:AV) (v48:AV) (v49:AV) (H:Heap):Prop:=LoopV (wpC Try.prog tab D28 (cAt [1,1,1,0,1,0,0,1,0,0,1,0,0,1,0,0,1,1,1,0,0] (bodyOf Try.f28))) [0,4,5,6,7,47,48] (PostF.block 6 (PostF.block 3 (PostF.thenA (wpC Try.prog tab D28 (cAt [1,1,1,0,1,0,0,1,0,0,1,0,0,1,1] (bodyOf Try.f28))) (loopF (PostF.block 2 (PostF.block 1 (PostF.thenA (wpC Try.prog tab D28 (cAt [1,1,1,0,1,0,0,1,1] (bodyOf Try.f28))) (loopF (PostF.block 0 (PostF.thenA (wpC Try.prog tab D28 (cAt [1,1,1,1] (bodyOf Try.f28))) (retF tab [.cell 4 28] K))) (fun e h=>N1 (e 6) h))))) (fun e h=>N2 (e 7) h))))) [49] [v0,AV.any,AV.any,AV.any,v4,v5,v6,v7,AV.any,AV.any,AV.any,AV.any,AV.any,AV.any,AV.any,AV.any,AV.any,AV.any,AV.any,AV.any,AV.any,AV.any,AV.any,AV.any,AV.any,AV.any,AV.any,AV.any,AV.any,AV.any,AV.any,AV.any,AV.any,AV.any,AV.any,AV.any,AV.any,AV.any,AV.any,AV.any,AV.any,AV.any,AV.any,AV.any,AV.any,AV.any,AV.any,v47,v48,v49,AV.any,AV.any,AV.any,AV.any,AV.any,AV.any,AV.any,AV.any,AV.any,AV.any,AV.any,AV.any,AV.any,AV.any,AV.any,AV.any,AV.any,AV.any,AV.any,AV.any,AV.any,AV.any,AV.any,AV.any,AV.any,AV.any,AV.any,AV.any,AV.any,AV.any,AV.any,AV.any,AV.any,AV.any,AV.any,AV.any,AV.any,AV.any,AV.any,AV.any,AV.any,AV.any,AV.any,AV.any,AV.any,AV.any,AV.any,AV.any,AV.any,AV.any,AV.any,AV.any,AV.any,AV.any,AV.any,AV.any,AV.any,AV.any,AV.any,AV.any,AV.any,AV.any,AV.any,AV.any,AV.any,AV.any,AV.any,AV.any] H
def B28_3 (K:AV→Heap→Prop) (N1:AV→Heap→Prop) (N2:AV→Heap→Prop) (N3:AV→Heap→Prop) (v0:AV) (v4:AV) (v5:AV) (v6:AV) (v7:AV) (v47:AV) (v48:AV) (v49:AV) (H:Heap):Prop:=
 binV tab .lss 3 v49 v48 fun v50=>
 condV v50 (indexAddrV tab 24 v47 v49 fun v51=>
 loadV tab 3 v51 H fun v52=>
 fieldAddrV tab 28 v5 2 fun v53=>
 loadV tab 25 v53 H fun v54=>
 buildV tab 46 [(0,v6),(1,v7),(2,v52)] fun v58=>
 buildSliceV tab 25 1 [(0,v58)] H (wkK fun v59 H11=>
 appendV tab 25 25 v54 v59 H11 (wkK fun v60 H12=>
 fieldAddrV tab 28 v5 2 fun v61=>
 storeV tab 25 v61 v60 H12 fun H13=>
 binV tab .add 3 v49 (AV.p (.int .i64 1)) fun v62=>
 N3 v62 H13)))
 (binV tab .add 3 v7 (AV.p (.int .i64 1)) fun v34=>
 N2 v34 H)
def B28_2 (K:AV→Heap→Prop) (N1:AV→Heap→Prop) (N2:AV→Heap→Prop) (N3:AV→AV→Heap→Prop) (v0:AV) (v4:AV) (v5:AV) (v6:AV) (v7:AV) (v8:AV) (v9:AV) (H:Heap):Prop:=
 binV tab .gtr 3 v9 (AV.p (.int .i64 0)) fun v38=>
 condV v38 (fieldAddrV tab 28 v5 0 fun v43=>
 loadV tab 3 v43 H fun v44=>
 CallT Try.prog 51 [v0,v44] H fun v45 H9=>
 CallT Try.prog 52 [v8,v45] H9 fun v46 H10=>
 binV tab .sub 3 v9 (AV.p (.int .i64 1)) fun v40=>
 N3 v46 v40 H10)
 (lenV tab 24 v8 fun v48=>
 L28_3 K N1 N2 v0 v4 v5 v6 v7 v8 v48 (AV.p (.int .i64 0)) H)
def B28_1 (K:AV→Heap→Prop) (N1:AV→Heap→Prop) (N2:AV→Heap→Prop) (v0:AV) (v4:AV) (v5:AV) (v6:AV) (v7:AV) (H:Heap):Prop:=
 binV tab .lss 3 v7 (AV.p (.int .i64 8)) fun v32=>
 condV v32 (CallT Try.prog 51 [v0,(AV.p (.int .i64 3))] H fun v36 H8=>
 L28_2 K N1 N2 v0 v4 v5 v6 v7 (AV.p .nil) v36 H8)
 (binV tab .add 3 v6 (AV.p (.int .i64 1)) fun v30=>
 N1 v30 H)
def L28_4 (K:AV→Heap→Prop) (v0:AV) (v4:AV) (v5:AV) (v12:AV) (H:Heap):Prop:=LoopV (wpC Try.prog tab D28 (cAt [1,1,1,1,0,1,0,0] (bodyOf Try.f28))) [0,4,5] (PostF.block 8 (PostF.thenA (wpC Try.prog tab D28 (cAt [1,1,1,1,1] (bodyOf Try.f28))) (retF tab [.cell 4 28] K))) [12] [v0,AV.any,AV.any,AV.any,v4,v5,AV.any,AV.any,AV.any,AV.any,AV.any,AV.any,v12,AV.any,AV.any,AV.any,AV.any,AV.any,AV.any,AV.any,AV.any,AV.any,AV.any,AV.any,AV.any,AV.any,AV.any,AV.any,AV.any,AV.any,AV.any,AV.any,AV.any,AV.any,AV.any,AV.any,AV.any,AV.any,AV.any,AV.any,AV.any,AV.any,AV.any,AV.any,AV.any,AV.any,AV.any,AV.any,AV.any,AV.any,AV.any,AV.any,AV.any,AV.any,AV.any,AV.any,AV.any,AV.any,AV.any,AV.any,AV.any,AV.any,AV.any,AV.any,AV.any,AV.any,AV.any,AV.any,AV.any,AV.any,AV.any,AV.any,AV.any,AV.any,AV.any,AV.any,AV.any,AV.any,AV.any,AV.any,AV.any,AV.any,AV.any,AV.any,AV.any,AV.any,AV.any,AV.any,AV.any,AV.any,AV.any,AV.any,AV.any,AV.any,AV.any,AV.any,AV.any,AV.any,AV.any,AV.any,AV.any,AV.any,AV.any,AV.any,AV.any,AV.any,AV.any,AV.any,AV.any,AV.any,AV.any,AV.any,AV.any,AV.any,AV.any,AV.any,AV.any,AV.any] H
def J28_5 (K:AV→Heap→Prop) (N1:AV→Heap→Prop) (v0:AV) (v4:AV) (v5:AV) (v12:AV) (v13:AV) (H:Heap):Prop:=
 fieldAddrV tab 28 v5 3 fun v82=>
 loadV tab 26 v82 H fun v83=>
 buildSliceV tab 26 1 [(0,v13)] H (wkK fun v85 H20=>
 appendV tab 26 26 v83 v85 H20 (wkK fun v86 H21=>
 fieldAddrV tab 28 v5 3 fun v87=>
 storeV tab 26 v87 v86 H21 fun H22=>
 binV tab .sub 3 v12 (AV.p (.int .i64 1)) fun v68=>
 N1 v68 H22))
def B28_4 (K:AV→Heap→Prop) (N1:AV→Heap→Prop) (v0:AV) (v4:AV) (v5:AV) (v12:AV) (H:Heap):Prop:=
 binV tab .gtr 3 v12 (AV.p (.int .i64 0)) fun v66=>
 condV v66 (fieldAddrV tab 28 v5 0 fun v70=>
 loadV tab 3 v70 H fun v71=>
 CallT Try.prog 51 [v0,v71] H fun v72 H15=>
 CallT Try.prog 52 [(AV.p .nil),v72] H15 fun v73 H16=>
 CallT Try.prog 31 [v0,(AV.p (.int .i64 2))] H16 fun v75 H17=>
 condV v75 (fieldAddrV tab 28 v5 0 fun v78=>
 loadV tab 3 v78 H17 fun v79=>
 CallT Try.prog 51 [v0,v79] H17 fun v80 H18=>
 CallT Try.prog 52 [v73,v80] H18 fun v81 H19=>
 J28_5 K N1 v0 v4 v5 v12 v81 H19)
 (J28_5 K N1 v0 v4 v5 v12 v73 H17))
 (CallT Try.prog 51 [v0,(AV.p (.int .i64 40))] H fun v89 H23=>
 binV tab .eql 3 v89 (AV.p (.int .i64 0)) fun v91=>
 condV v91 (fieldAddrV tab 28 v5 1 fun v92=>
 loadV tab 24 v92 H23 fun v93=>
 fieldAddrV tab 28 v5 0 fun v94=>
 loadV tab 3 v94 H23 fun v95=>
 buildSliceV tab 24 1 [(0,v95)] H23 (wkK fun v96 H24=>
 appendV tab 24 24 v93 v96 H24 (wkK fun v97 H25=>
 fieldAddrV tab 28 v5 1 fun v98=>
 storeV tab 24 v98 v97 H25 fun H26=>
 loadV tab 28 v5 H26 fun v117=>
 storeV tab 28 v4 v117 H26 fun H28=>
 loadV tab 28 v4 H28 fun r0=>
 K r0 H28)))
 (binV tab .eql 3 v89 (AV.p (.int .i64 1)) fun v100=>
 condV v100 (fieldAddrV tab 28 v5 2 fun v101=>
 loadV tab 25 v101 H23 fun v102=>
 buildV tab 46 [] fun v103=>
 buildSliceV tab 25 1 [(0,v103)] H23 (wkK fun v104 H29=>
 appendV tab 25 25 v102 v104 H29 (wkK fun v105 H30=>
 fieldAddrV tab 28 v5 2 fun v106=>
 storeV tab 25 v106 v105 H30 fun H31=>
 loadV tab 28 v5 H31 fun v117=>
 storeV tab 28 v4 v117 H31 fun H32=>
 loadV tab 28 v4 H32 fun r0=>
 K r0 H32)))
 (binV tab .eql 3 v89 (AV.p (.int .i64 2)) fun v108=>
 condV v108 (CallT Try.prog 51 [v0,(AV.p (.int .i64 2))] H23 fun v110 H33=>
 binV tab .add 3 (AV.p (.int .i64 6)) v110 fun v111=>
 makeSliceV tab 26 v111 v111 H33 fun v112 H34=>
 fieldAddrV tab 28 v5 3 fun v113=>
 storeV tab 26 v113 v112 H34 fun H35=>
 loadV tab 28 v5 H35 fun v117=>
 storeV tab 28 v4 v117 H35 fun H36=>
 loadV tab 28 v4 H36 fun r0=>
 K r0 H36)
 (binV tab .eql 3 v89 (AV.p (.int .i64 3)) fun v115=>
 condV v115 (fieldAddrV tab 28 v5 1 fun v116=>
 storeV tab 24 v116 (AV.p .nil) H23 fun H37=>
 loadV tab 28 v5 H37 fun v117=>
 storeV tab 28 v4 v117 H37 fun H38=>
 loadV tab 28 v4 H38 fun r0=>
 K r0 H38)
 (loadV tab 28 v5 H23 fun v117=>
 storeV tab 28 v4 v117 H23 fun H39=>
 loadV tab 28 v4 H39 fun r0=>
 K r0 H39)))))
def B28_0 (K:AV→Heap→Prop) (N1:AV→Heap→Prop) (v0:AV) (v4:AV) (v5:AV) (v6:AV) (H:Heap):Prop:=
 fieldAddrV tab 28 v5 0 fun v26=>
 loadV tab 3 v26 H fun v27=>
 binV tab .lss 3 v6 v27 fun v28=>
 condV v28 (L28_1 K N1 v0 v4 v5 v6 (AV.p (.int .i64 0)) H)
 (CallT Try.prog 51 [v0,(AV.p (.int .i64 4))] H fun v64 H14=>
 L28_4 K v0 v4 v5 v64 H14)
def W28 (v0:AV) (v1:AV) (H:Heap) (K:AV→Heap→Prop):Prop:=
 allocV tab 28 H fun v4 H1=>
 CallT Try.prog 51 [v0,v1] H1 fun v16 H2=>
 binV tab .add 3 (AV.p (.int .i64 1)) v16 fun v17=>
 buildV tab 28 [(0,v17)] fun v18=>
 allocV tab 28 H2 fun v5 H3=>
 storeV tab 28 v5 v18 H3 fun H4=>
 fieldAddrV tab 28 v5 0 fun v20=>
 loadV tab 3 v20 H4 fun v21=>
 CallT Try.prog 51 [v0,v21] H4 fun v22 H5=>
 CallT Try.prog 52 [(AV.p .nil),v22] H5 fun v23 H6=>
 fieldAddrV tab 28 v5 1 fun v24=>
 storeV tab 24 v24 v23 H6 fun H7=>
 L28_0 K v0 v4 v5 (AV.p (.int .i64 0)) H7
theorem W28_wp (v0:AV) (v1:AV) (H:Heap) (K:AV→Heap→Prop):wpC Try.prog tab D28 (bodyOf Try.f28) (retF tab [.cell 4 28] K) (nthA [v0,v1]) H=W28 v0 v1 H K:=by kernel_rfl
theorem W28_ok {v0 v1:AV} {H:Heap} {K:AV→Heap→Prop} (h:W28 v0 v1 H K):CallT Try.prog 28 [v0,v1] H K:=
  CallT.of_wp (D:=D28) tab_ok mixed Try.func28 (c:=bodyOf Try.f28) (by kernel_rfl) rfl (by kernel_rfl) (rs:=#[.cell 4 28]) rfl (by decide +kernel) (by kernel_rfl) (W28_wp v0 v1 H K) h
theorem W28_hb:HasBody Try.prog 28:=⟨_,bodyOf Try.f28,Try.func28,by kernel_rfl,rfl⟩
theorem L28_3_rule {K:AV→Heap→Prop} {N1:AV→Heap→Prop} {N2:AV→Heap→Prop} {v0 v4 v5 v6 v7 v47 v48 v49:AV} {H:Heap} {σ:Type} (s0:σ) (f49:σ→AV) (TH:σ→Heap) (pre:σ→Prop) (μ:σ→Nat)
    (h0:pre s0∧AV.wk v49 (f49 s0)∧Heap.le (TH s0) H)
    (round:∀s,pre s→B28_3 K N1 N2 (fun w49 H'=>∃s',pre s'∧μ s' < μ s∧AV.wk w49 (f49 s')∧Heap.le (TH s') H') v0 v4 v5 v6 v7 v47 v48 (f49 s) (TH s)) :
    L28_3 K N1 N2 v0 v4 v5 v6 v7 v47 v48 v49 H:=by
  unfold L28_3
  exact LoopV.mk s0 (fun s=>[f49 s]) TH pre μ (fun _=>rfl) (Eq.mp (by kernel_rfl) h0) (fun s hs=>Eq.mp (by kernel_rfl) (round s hs))
theorem L28_2_rule {K:AV→Heap→Prop} {N1:AV→Heap→Prop} {N2:AV→Heap→Prop} {v0 v4 v5 v6 v7 v8 v9:AV} {H:Heap} {σ:Type} (s0:σ) (f8:σ→AV) (f9:σ→AV) (TH:σ→Heap) (pre:σ→Prop) (μ:σ→Nat)
    (h0:pre s0∧AV.wk v8 (f8 s0)∧AV.wk v9 (f9 s0)∧Heap.le (TH s0) H)
    (round:∀s,pre s→B28_2 K N1 N2 (fun w8 w9 H'=>∃s',pre s'∧μ s' < μ s∧AV.wk w8 (f8 s')∧AV.wk w9 (f9 s')∧Heap.le (TH s') H') v0 v4 v5 v6 v7 (f8 s) (f9 s) (TH s)) :
    L28_2 K N1 N2 v0 v4 v5 v6 v7 v8 v9 H:=by
  unfold L28_2
  exact LoopV.mk s0 (fun s=>[f8 s,f9 s]) TH pre μ (fun _=>rfl) (Eq.mp (by kernel_rfl) h0) (fun s hs=>Eq.mp (by kernel_rfl) (round s hs))
theorem L28_1_rule {K:AV→Heap→Prop} {N1:AV→Heap→Prop} {v0 v4 v5 v6 v7:AV} {H:Heap} {σ:Type} (s0:σ) (f7:σ→AV) (TH:σ→Heap) (pre:σ→Prop) (μ:σ→Nat)
    (h0:pre s0∧AV.wk v7 (f7 s0)∧Heap.le (TH s0) H)
    (round:∀s,pre s→B28_1 K N1 (fun w7 H'=>∃s',pre s'∧μ s' < μ s∧AV.wk w7 (f7 s')∧Heap.le (TH s') H') v0 v4 v5 v6 (f7 s) (TH s)) :
    L28_1 K N1 v0 v4 v5 v6 v7 H:=by
  unfold L28_1
  exact LoopV.mk s0 (fun s=>[f7 s]) TH pre μ (fun _=>rfl) (Eq.mp (by kernel_rfl) h0) (fun s hs=>Eq.mp (by kernel_rfl) (round s hs))
theorem L28_4_rule {K:AV→Heap→Prop} {v0 v4 v5 v12:AV} {H:Heap} {σ:Type} (s0:σ) (f12:σ→AV) (TH:σ→Heap) (pre:σ→Prop) (μ:σ→Nat)
    (h0:pre s0∧AV.wk v12 (f12 s0)∧Heap.le (TH s0) H)
    (round:∀s,pre s→B28_4 K (fun w12 H'=>∃s',pre s'∧μ s' < μ s∧AV.wk w12 (f12 s')∧Heap.le (TH s') H') v0 v4 v5 (f12 s) (TH s)) :
    L28_4 K v0 v4 v5 v12 H:=by
  unfold L28_4
  exact LoopV.mk s0 (fun s=>[f12 s]) TH pre μ (fun _=>rfl) (Eq.mp (by kernel_rfl) h0) (fun s hs=>Eq.mp (by kernel_rfl) (round s hs))
theorem L28_0_rule {K:AV→Heap→Prop} {v0 v4 v5 v6:AV} {H:Heap} {σ:Type} (s0:σ) (f6:σ→AV) (TH:σ→Heap) (pre:σ→Prop) (μ:σ→Nat)
    (h0:pre s0∧AV.wk v6 (f6 s0)∧Heap.le (TH s0) H)
    (round:∀s,pre s→B28_0 K (fun w6 H'=>∃s',pre s'∧μ s' < μ s∧AV.wk w6 (f6 s')∧Heap.le (TH s') H') v0 v4 v5 (f6 s) (TH s)) :
    L28_0 K v0 v4 v5 v6 H:=by
  unfold L28_0
  exact LoopV.mk s0 (fun s=>[f6 s]) TH pre μ (fun _=>rfl) (Eq.mp (by kernel_rfl) h0) (fun s hs=>Eq.mp (by kernel_rfl) (round s hs))
def D29:Info:=⟨57,fun i=>if i=12 then ([[],[0],[],[],[2,3],[0,1,2,3,4],[0,1,2,3,4,5]],[(0,[]),(1,[]),(2,[]),(3,[1]),(4,[1]),(5,[]),(6,[])]) else ([],[]),fun i=>([],[])⟩
def J29_0 (K:AV→Heap→Prop) (v0:AV) (v2:AV) (v3:AV) (H:Heap):Prop:=
 CallT Try.prog 51 [v0,(AV.p (.int .i64 40))] H fun v31 H14=>
 binV tab .eql 3 v31 (AV.p (.int .i64 0)) fun v33=>
 condV v33 (buildSliceV tab 24 3 [(0,(AV.p (.int .i64 0))),(1,(AV.p (.int .i64 24))),(2,(AV.p (.int .i64 25)))] H14 (wkK fun v36 H15=>
 CallT Try.prog 54 [v0,v36] H15 fun v37 H16=>
 CallT Try.prog 53 [v0,v37] H16 fun v38 H17=>
 fieldAddrV tab 35 v3 1 fun v39=>
 storeV tab 24 v39 v38 H17 fun H18=>
 loadV tab 35 v3 H18 fun v56=>
 storeV tab 35 v2 v56 H18 fun H20=>
 loadV tab 35 v2 H20 fun r0=>
 K r0 H20))
 (binV tab .eql 3 v31 (AV.p (.int .i64 1)) fun v41=>
 condV v41 (buildSliceV tab 24 2 [(0,(AV.p (.int .i64 24))),(1,(AV.p (.int .i64 25)))] H14 (wkK fun v44 H21=>
 CallT Try.prog 54 [v0,v44] H21 fun v45 H22=>
 CallT Try.prog 53 [v0,v45] H22 fun v46 H23=>
 fieldAddrV tab 35 v3 0 fun v47=>
 storeV tab 24 v47 v46 H23 fun H24=>
 loadV tab 35 v3 H24 fun v56=>
 storeV tab 35 v2 v56 H24 fun H25=>
 loadV tab 35 v2 H25 fun r0=>
 K r0 H25))
 (binV tab .eql 3 v31 (AV.p (.int .i64 2)) fun v49=>
 condV v49 (fieldAddrV tab 35 v3 1 fun v50=>
 loadV tab 24 v50 H14 fun v51=>
 buildSliceV tab 24 3 [(0,(AV.p (.int .i64 (-1)))),(1,(AV.p (.int .i64 7))),(2,(AV.p (.int .i64 8)))] H14 (wkK fun v53 H26=>
 (loadV tab 24 v50 H26 fun v9051=>
 v51=v9051)∧
 CallT Try.prog 54 [v0,v53] H26 fun v54 H27=>
 (loadV tab 24 v50 H27 fun v9051=>
 v51=v9051)∧
 indexAddrV tab 24 v51 (AV.p (.int .i64 0)) fun v55=>
 storeV tab 3 v55 v54 H27 fun H28=>
 loadV tab 35 v3 H28 fun v56=>
 storeV tab 35 v2 v56 H28 fun H29=>
 loadV tab 35 v2 H29 fun r0=>
 K r0 H29))
 (loadV tab 35 v3 H14 fun v56=>
 storeV tab 35 v2 v56 H14 fun H30=>
 loadV tab 35 v2 H30 fun r0=>
 K r0 H30)))
def J29_1 (K:AV→Heap→Prop) (v0:AV) (v2:AV) (v3:AV) (H:Heap):Prop:=
 CallT Try.prog 31 [v0,(AV.p (.int .i64 4))] H fun v23 H11=>
 condV v23 (fieldAddrV tab 35 v3 0 fun v24=>
 loadV tab 24 v24 H11 fun v25=>
 fieldAddrV tab 35 v3 1 fun v26=>
 loadV tab 24 v26 H11 fun v27=>
 appendV tab 24 24 v25 v27 H11 (wkK fun v28 H12=>
 fieldAddrV tab 35 v3 0 fun v29=>
 storeV tab 24 v29 v28 H12 fun H13=>
 J29_0 K v0 v2 v3 H13))
 (J29_0 K v0 v2 v3 H11)
def W29 (v0:AV) (H:Heap) (K:AV→Heap→Prop):Prop:=
 allocV tab 35 H fun v2 H1=>
 CallT Try.prog 51 [v0,(AV.p (.int .i64 6))] H1 fun v6 H2=>
 CallT Try.prog 53 [v0,v6] H2 fun v7 H3=>
 CallT Try.prog 51 [v0,(AV.p (.int .i64 5))] H3 fun v10 H4=>
 binV tab .add 3 (AV.p (.int .i64 1)) v10 fun v11=>
 CallT Try.prog 53 [v0,v11] H4 fun v12 H5=>
 buildV tab 35 [(0,v7),(1,v12)] fun v13=>
 allocV tab 35 H5 fun v3 H6=>
 storeV tab 35 v3 v13 H6 fun H7=>
 CallT Try.prog 31 [v0,(AV.p (.int .i64 4))] H7 fun v15 H8=>
 condV v15 (fieldAddrV tab 35 v3 1 fun v16=>
 loadV tab 24 v16 H8 fun v17=>
 fieldAddrV tab 35 v3 1 fun v18=>
 loadV tab 24 v18 H8 fun v19=>
 appendV tab 24 24 v17 v19 H8 (wkK fun v20 H9=>
 fieldAddrV tab 35 v3 1 fun v21=>
 storeV tab 24 v21 v20 H9 fun H10=>
 J29_1 K v0 v2 v3 H10))
 (J29_1 K v0 v2 v3 H8)
theorem W29_wp (v0:AV) (H:Heap) (K:AV→Heap→Prop):wpC Try.prog tab D29 (bodyOf Try.f29) (retF tab [.cell 2 35] K) (nthA [v0]) H=W29 v0 H K:=by kernel_rfl
theorem W29_ok {v0:AV} {H:Heap} {K:AV→Heap→Prop} (h:W29 v0 H K):CallT Try.prog 29 [v0] H K:=
  CallT.of_wp (D:=D29) tab_ok mixed Try.func29 (c:=bodyOf Try.f29) (by kernel_rfl) rfl (by kernel_rfl) (rs:=#[.cell 2 35]) rfl (by decide +kernel) (by kernel_rfl) (W29_wp v0 H K) h
end Go.Proofs.Ytohkciilfkhomaa
namespace Go.Proofs.Ytohkciilfkhomaa
open Go Go.Sep
attribute [local irreducible] wpC headF
def D30:Info:=⟨76,fun i=>if i=3 then ([[],[0],[],[2],[],[4],[0,1,2,3,4,5],[0,1,2,3,4,5,6],[0,1,2,3,4,5,6,7],[0,1,2,3,4,5,6,7],[0,1,2,3,4,5,6,7],[0,1,2,3,4,5,6,7,8],[0,1,2,3,4,5,6,7,8,9,11],[0,1,2,3,4,5,6,7,8,9,10,11,12]],[(0,[]),(2,[]),(3,[]),(4,[]),(5,[]),(1,[3,5]),(6,[]),(7,[]),(8,[]),(9,[]),(10,[]),(11,[]),(12,[]),(13,[])]) else if i=6 then ([[],[0],[],[0,1,2],[],[4],[4,5],[4,5,6],[0,1,2,3,4,5,6,7],[0,1,2,3,4,5,6,7,8]],[(0,[]),(2,[]),(4,[]),(5,[]),(6,[]),(1,[7,6]),(3,[7,6]),(7,[7]),(8,[]),(9,[])]) else if i=11 then ([[],[],[],[1,2],[1,2,3],[],[],[6],[5,6,7],[5,6,7,8],[0,1,2,3,4,5,6,7,8,9],[0,1,2,3,4,5,6,7,8,9,10]],[(0,[]),(1,[]),(2,[]),(3,[]),(4,[]),(5,[]),(6,[]),(7,[]),(8,[]),(9,[]),(10,[]),(11,[])]) else ([],[]),fun i=>if i=9 then ([1,2,4,7,8],[9]) else ([],[])⟩
def L30_0 (K:AV→Heap→Prop) (v1:AV) (v2:AV) (v4:AV) (v7:AV) (v8:AV) (v9:AV) (H:Heap):Prop:=LoopV (wpC Try.prog tab D30 (cAt [1,1,1,1,1,1,0,1,0,0] (bodyOf Try.f30))) [1,2,4,7,8] (PostF.block 0 (PostF.thenA (wpC Try.prog tab D30 (cAt [1,1,1,1,1,1,1] (bodyOf Try.f30))) (retF tab [.cell 2 35,.tmp 3] K))) [9] [AV.any,v1,v2,AV.any,v4,AV.any,AV.any,v7,v8,v9,AV.any,AV.any,AV.any,AV.any,AV.any,AV.any,AV.any,AV.any,AV.any,AV.any,AV.any,AV.any,AV.any,AV.any,AV.any,AV.any,AV.any,AV.any,AV.any,AV.any,AV.any,AV.any,AV.any,AV.any,AV.any,AV.any,AV.any,AV.any,AV.any,AV.any,AV.any,AV.any,AV.any,AV.any,AV.any,AV.any,AV.any,AV.any,AV.any,AV.any,AV.any,AV.any,AV.any,AV.any,AV.any,AV.any,AV.any,AV.any,AV.any,AV.any,AV.any,AV.any,AV.any,AV.any,AV.any,AV.any,AV.any,AV.any,AV.any,AV.any,AV.any,AV.any,AV.any,AV.any,AV.any,AV.any] H
def B30_0 (K:AV→Heap→Prop) (N1:AV→Heap→Prop) (v1:AV) (v2:AV) (v4:AV) (v7:AV) (v8:AV) (v9:AV) (H:Heap):Prop:=
 binV tab .add 3 v9 (AV.p (.int .i64 1)) fun v39=>
 lenV tab 24 v7 fun v41=>
 binV tab .lss 3 v39 v41 fun v42=>
 condV v42 (loadV tab 28 v1 H fun v45=>
 indexAddrV tab 24 v7 v9 fun v48=>
 loadV tab 3 v48 H fun v49=>
 binV tab .add 3 v9 (AV.p (.int .i64 1)) fun v52=>
 indexAddrV tab 24 v7 v52 fun v53=>
 loadV tab 3 v53 H fun v54=>
 CallT Try.prog 57 [v45,v49,v54] H fun v55 H13=>
 lenV tab 24 v4 fun v58=>
 binV tab .lss 3 v9 v58 fun v59=>
 condV v59 (fieldAddrV tab 35 v8 0 fun v60=>
 loadV tab 24 v60 H13 fun v61=>
 buildSliceV tab 24 1 [(0,v55)] H13 (wkK fun v63 H14=>
 appendV tab 24 24 v61 v63 H14 (wkK fun v64 H15=>
 fieldAddrV tab 35 v8 0 fun v65=>
 storeV tab 24 v65 v64 H15 fun H16=>
 binV tab .add 3 v9 (AV.p (.int .i64 1)) fun v44=>
 N1 v44 H16)))
 (fieldAddrV tab 35 v8 1 fun v66=>
 loadV tab 24 v66 H13 fun v67=>
 buildSliceV tab 24 1 [(0,v55)] H13 (wkK fun v69 H17=>
 appendV tab 24 24 v67 v69 H17 (wkK fun v70 H18=>
 fieldAddrV tab 35 v8 1 fun v71=>
 storeV tab 24 v71 v70 H18 fun H19=>
 binV tab .add 3 v9 (AV.p (.int .i64 1)) fun v44=>
 N1 v44 H19))))
 (loadV tab 35 v8 H fun v72=>
 CallT Try.prog 58 [v72] H fun v73 H20=>
 extractV v73 0 fun v74=>
 extractV v73 1 fun v75=>
 storeV tab 35 v2 v74 H20 fun H21=>
 loadV tab 35 v2 H21 fun r0=>
 K (.tup [r0,v75]) H21)
def W30 (v0:AV) (H:Heap) (K:AV→Heap→Prop):Prop:=
 boxV v0 H fun v1 H1=>
 allocV tab 35 H1 fun v2 H2=>
 loadV tab 28 v1 H2 fun v11=>
 CallT Try.prog 17 [v11] H2 fun v12 H3=>
 unV .not v12 fun v13=>
 condV v13 (buildV tab 35 [] fun v14=>
 storeV tab 35 v2 v14 H3 fun H4=>
 loadV tab 35 v2 H4 fun r0=>
 K (.tup [r0,(AV.p (.bool false))]) H4)
 (loadV tab 28 v1 H3 fun v16=>
 fieldAddrV tab 28 v1 1 fun v18=>
 loadV tab 24 v18 H3 fun v19=>
 fieldAddrV tab 28 v1 3 fun v20=>
 loadV tab 26 v20 H3 fun v21=>
 CallT Try.prog 56 [v16] H3 fun v17 H5=>
 (loadV tab 24 v18 H5 fun v9019=>
 v19=v9019)∧
 (loadV tab 26 v20 H5 fun v9021=>
 v21=v9021)∧
 CallT Try.prog 55 [v17,v19,v21] H5 fun v22 H6=>
 extractV v22 0 fun v23=>
 extractV v22 1 fun v24=>
 extractV v22 2 fun v25=>
 unV .not v25 fun v27=>
 condV v27 (buildV tab 35 [] fun v28=>
 storeV tab 35 v2 v28 H6 fun H7=>
 loadV tab 35 v2 H7 fun r0=>
 K (.tup [r0,(AV.p (.bool false))]) H7)
 (indexAddrV tab 24 v24 (AV.p (.int .i64 0)) fun v34=>
 loadV tab 3 v34 H6 fun v35=>
 safeV (buildN tab 24 1 [(0,v35)])∧
 CallT Try.prog 50 [v23] H6 fun v30 H8=>
 (loadV tab 3 v34 H8 fun v9035=>
 v35=v9035)∧
 safeV (buildN tab 24 1 [(0,v35)])∧
 appendV tab 24 24 v30 v24 H8 (wkK fun v32 H9=>
 (loadV tab 3 v34 H9 fun v9035=>
 v35=v9035)∧
 newV (buildN tab 24 1 [(0,v35)]) H9 fun v36 H10=>
 appendV tab 24 24 v32 v36 H10 (wkK fun v37 H11=>
 allocV tab 35 H11 fun v8 H12=>
 L30_0 K v1 v2 v23 v37 v8 (AV.p (.int .i64 0)) H12))))
theorem W30_wp (v0:AV) (H:Heap) (K:AV→Heap→Prop):wpC Try.prog tab D30 (bodyOf Try.f30) (retF tab [.cell 2 35,.tmp 3] K) (nthA [v0]) H=W30 v0 H K:=by kernel_rfl
theorem W30_ok {v0:AV} {H:Heap} {K:AV→Heap→Prop} (h:W30 v0 H K):CallT Try.prog 30 [v0] H K:=
  CallT.of_wp (D:=D30) tab_ok mixed Try.func30 (c:=bodyOf Try.f30) (by kernel_rfl) rfl (by kernel_rfl) (rs:=#[.cell 2 35,.tmp 3]) rfl (by decide +kernel) (by kernel_rfl) (W30_wp v0 H K) h
theorem W30_hb:HasBody Try.prog 30:=⟨_,bodyOf Try.f30,Try.func30,by kernel_rfl,rfl⟩
theorem L30_0_rule {K:AV→Heap→Prop} {v1 v2 v4 v7 v8 v9:AV} {H:Heap} {σ:Type} (s0:σ) (f9:σ→AV) (TH:σ→Heap) (pre:σ→Prop) (μ:σ→Nat)
    (h0:pre s0∧AV.wk v9 (f9 s0)∧Heap.le (TH s0) H)
    (round:∀s,pre s→B30_0 K (fun w9 H'=>∃s',pre s'∧μ s' < μ s∧AV.wk w9 (f9 s')∧Heap.le (TH s') H') v1 v2 v4 v7 v8 (f9 s) (TH s)) :
    L30_0 K v1 v2 v4 v7 v8 v9 H:=by
  unfold L30_0
  exact LoopV.mk s0 (fun s=>[f9 s]) TH pre μ (fun _=>rfl) (Eq.mp (by kernel_rfl) h0) (fun s hs=>Eq.mp (by kernel_rfl) (round s hs))
def D31:Info:=⟨9,fun i=>([],[]),fun i=>([],[])⟩
def W31 (v0:AV) (v1:AV) (H:Heap) (K:AV→Heap→Prop):Prop:=
 CallT Try.prog 51 [v0,v1] H fun v7 H1=>
 binV tab .eql 3 v7 (AV.p (.int .i64 0)) fun v8=>
 K v8 H1
theorem W31_wp (v0:AV) (v1:AV) (H:Heap) (K:AV→Heap→Prop):wpC Try.prog tab D31 (bodyOf Try.f31) (retF tab [.tmp 4] K) (nthA [v0,v1]) H=W31 v0 v1 H K:=by kernel_rfl
theorem W31_ok {v0 v1:AV} {H:Heap} {K:AV→Heap→Prop} (h:W31 v0 v1 H K):CallT Try.prog 31 [v0,v1] H K:=
  CallT.of_wp (D:=D31) tab_ok mixed Try.func31 (c:=bodyOf Try.f31) (by kernel_rfl) rfl (by kernel_rfl) (rs:=#[.tmp 4]) rfl (by decide +kernel) (by kernel_rfl) (W31_wp v0 v1 H K) h
def D32:Info:=⟨15,fun i=>([],[]),fun i=>([],[])⟩
def W32 (v0:AV) (v1:AV) (v2:AV) (H:Heap) (K:AV→Heap→Prop):Prop:=
 binV tab .geq 3 v0 v1 fun v9=>
 grdV v9 true (binV tab .leq 3 v0 v2 fun v13=>
 K v13 H)
 (K (AV.p (.bool false)) H)
theorem W32_wp (v0:AV) (v1:AV) (v2:AV) (H:Heap) (K:AV→Heap→Prop):wpC Try.prog tab D32 (bodyOf Try.f32) (retF tab [.tmp 6] K) (nthA [v0,v1,v2]) H=W32 v0 v1 v2 H K:=by kernel_rfl
theorem W32_ok {v0 v1 v2:AV} {H:Heap} {K:AV→Heap→Prop} (h:W32 v0 v1 v2 H K):CallT Try.prog 32 [v0,v1,v2] H K:=
  CallT.of_wp (D:=D32) tab_ok mixed Try.func32 (c:=bodyOf Try.f32) (by kernel_rfl) rfl (by kernel_rfl) (rs:=#[.tmp 6]) rfl (by decide +kernel) (by kernel_rfl) (W32_wp v0 v1 v2 H K) h
def D33:Info:=⟨21,fun i=>([],[]),fun i=>if i=2 then ([1,2,9,10],[11]) else ([],[])⟩
def L33_0 (K:AV→Heap→Prop) (v1:AV) (v2:AV) (v9:AV) (v10:AV) (v11:AV) (H:Heap):Prop:=LoopV (wpC Try.prog tab D33 (cAt [1,0,1,0,0] (bodyOf Try.f33))) [1,2,9,10] (PostF.block 0 (PostF.thenA (wpC Try.prog tab D33 (cAt [1,1] (bodyOf Try.f33))) (retF tab [.tmp 6] K))) [11] [AV.any,v1,v2,AV.any,AV.any,AV.any,AV.any,AV.any,AV.any,v9,v10,v11,AV.any,AV.any,AV.any,AV.any,AV.any,AV.any,AV.any,AV.any,AV.any] H
def B33_0 (K:AV→Heap→Prop) (N1:AV→Heap→Prop) (v1:AV) (v2:AV) (v9:AV) (v10:AV) (v11:AV) (H:Heap):Prop:=
 binV tab .lss 3 v11 v10 fun v12=>
 condV v12 (indexAddrV tab 24 v9 v11 fun v13=>
 loadV tab 3 v13 H fun v14=>
 CallT Try.prog 32 [v14,v1,v2] H fun v18 H1=>
 unV .not v18 fun v19=>
 condV v19 (K (AV.p (.bool false)) H1)
 (binV tab .add 3 v11 (AV.p (.int .i64 1)) fun v20=>
 N1 v20 H1))
 (K (AV.p (.bool true)) H)
def W33 (v0:AV) (v1:AV) (v2:AV) (H:Heap) (K:AV→Heap→Prop):Prop:=
 lenV tab 24 v0 fun v10=>
 L33_0 K v1 v2 v0 v10 (AV.p (.int .i64 0)) H
theorem W33_wp (v0:AV) (v1:AV) (v2:AV) (H:Heap) (K:AV→Heap→Prop):wpC Try.prog tab D33 (bodyOf Try.f33) (retF tab [.tmp 6] K) (nthA [v0,v1,v2]) H=W33 v0 v1 v2 H K:=by kernel_rfl
theorem W33_ok {v0 v1 v2:AV} {H:Heap} {K:AV→Heap→Prop} (h:W33 v0 v1 v2 H K):CallT Try.prog 33 [v0,v1,v2] H K:=
  CallT.of_wp (D:=D33) tab_ok mixed Try.func33 (c:=bodyOf Try.f33) (by kernel_rfl) rfl (by kernel_rfl) (rs:=#[.tmp 6]) rfl (by decide +kernel) (by kernel_rfl) (W33_wp v0 v1 v2 H K) h
theorem L33_0_rule {K:AV→Heap→Prop} {v1 v2 v9 v10 v11:AV} {H:Heap} {σ:Type} (s0:σ) (f11:σ→AV) (TH:σ→Heap) (pre:σ→Prop) (μ:σ→Nat)
    (h0:pre s0∧AV.wk v11 (f11 s0)∧Heap.le (TH s0) H)
    (round:∀s,pre s→B33_0 K (fun w11 H'=>∃s',pre s'∧μ s' < μ s∧AV.wk w11 (f11 s')∧Heap.le (TH s') H') v1 v2 v9 v10 (f11 s) (TH s)) :
    L33_0 K v1 v2 v9 v10 v11 H:=by
  unfold L33_0
  exact LoopV.mk s0 (fun s=>[f11 s]) TH pre μ (fun _=>rfl) (Eq.mp (by kernel_rfl) h0) (fun s hs=>Eq.mp (by kernel_rfl) (round s hs))
def D34:Info:=⟨29,fun i=>([],[]),fun i=>([],[])⟩
def W34 (v0:AV) (H:Heap) (K:AV→Heap→Prop):Prop:=
 boxV v0 H fun v1 H1=>
 fieldAddrV tab 35 v1 0 fun v3=>
 loadV tab 24 v3 H1 fun v4=>
 lenV tab 24 v4 fun v5=>
 binV tab .leq 3 v5 (AV.p (.int .i64 24)) fun v6=>
 grdV v6 true (fieldAddrV tab 35 v1 1 fun v8=>
 loadV tab 24 v8 H1 fun v9=>
 lenV tab 24 v9 fun v10=>
 binV tab .geq 3 v10 (AV.p (.int .i64 1)) fun v11=>
 grdV v11 true (fieldAddrV tab 35 v1 1 fun v14=>
 loadV tab 24 v14 H1 fun v15=>
 lenV tab 24 v15 fun v16=>
 binV tab .leq 3 v16 (AV.p (.int .i64 24)) fun v17=>
 grdV v17 true (fieldAddrV tab 35 v1 0 fun v20=>
 loadV tab 24 v20 H1 fun v21=>
 CallT Try.prog 59 [v21] H1 fun v22 H2=>
 grdV v22 true (fieldAddrV tab 35 v1 1 fun v25=>
 loadV tab 24 v25 H2 fun v26=>
 CallT Try.prog 59 [v26] H2 fun v27 H3=>
 K v27 H3)
 (K (AV.p (.bool false)) H2))
 (K (AV.p (.bool false)) H1))
 (K (AV.p (.bool false)) H1))
 (K (AV.p (.bool false)) H1)
theorem W34_wp (v0:AV) (H:Heap) (K:AV→Heap→Prop):wpC Try.prog tab D34 (bodyOf Try.f34) (retF tab [.tmp 2] K) (nthA [v0]) H=W34 v0 H K:=by kernel_rfl
theorem W34_ok {v0:AV} {H:Heap} {K:AV→Heap→Prop} (h:W34 v0 H K):CallT Try.prog 34 [v0] H K:=
  CallT.of_wp (D:=D34) tab_ok mixed Try.func34 (c:=bodyOf Try.f34) (by kernel_rfl) rfl (by kernel_rfl) (rs:=#[.tmp 2]) rfl (by decide +kernel) (by kernel_rfl) (W34_wp v0 H K) h
def D35:Info:=⟨28,fun i=>if i=3 then ([[],[0],[],[],[3],[3,4],[2,3,4,5],[],[7],[7,8],[2,3,4,5,6,7,8,9],[0,1,2,3,4,5,6,7,8,9,10],[0,1,2,3,4,5,6,7,8,9,10,11],[0,1,2,3,4,5,6,7,8,9,10,11,12]],[(0,[]),(1,[]),(2,[]),(3,[]),(4,[]),(5,[]),(6,[]),(7,[]),(8,[]),(9,[]),(10,[]),(11,[]),(12,[]),(13,[])]) else ([],[]),fun i=>([],[])⟩
def W35 (v0:AV) (v1:AV) (H:Heap) (K:AV→Heap→Prop):Prop:=
 boxV v0 H fun v2 H1=>
 fieldAddrV tab 35 v2 0 fun v6=>
 loadV tab 24 v6 H1 fun v7=>
 lenV tab 24 v7 fun v8=>
 binV tab .lss 3 v1 v8 fun v9=>
 condV v9 (fieldAddrV tab 35 v2 0 fun v10=>
 loadV tab 24 v10 H1 fun v11=>
 indexAddrV tab 24 v11 v1 fun v13=>
 loadV tab 3 v13 H1 fun v14=>
 K v14 H1)
 (fieldAddrV tab 35 v2 1 fun v15=>
 loadV tab 24 v15 H1 fun v16=>
 fieldAddrV tab 35 v2 0 fun v18=>
 loadV tab 24 v18 H1 fun v19=>
 lenV tab 24 v19 fun v20=>
 binV tab .sub 3 v1 v20 fun v21=>
 fieldAddrV tab 35 v2 1 fun v22=>
 loadV tab 24 v22 H1 fun v23=>
 lenV tab 24 v23 fun v24=>
 binV tab .rem 3 v21 v24 fun v25=>
 indexAddrV tab 24 v16 v25 fun v26=>
 loadV tab 3 v26 H1 fun v27=>
 K v27 H1)
theorem W35_wp (v0:AV) (v1:AV) (H:Heap) (K:AV→Heap→Prop):wpC Try.prog tab D35 (bodyOf Try.f35) (retF tab [.tmp 4] K) (nthA [v0,v1]) H=W35 v0 v1 H K:=by kernel_rfl
theorem W35_ok {v0 v1:AV} {H:Heap} {K:AV→Heap→Prop} (h:W35 v0 v1 H K):CallT Try.prog 35 [v0,v1] H K:=
  CallT.of_wp (D:=D35) tab_ok mixed Try.func35 (c:=bodyOf Try.f35) (by kernel_rfl) rfl (by kernel_rfl) (rs:=#[.tmp 4]) rfl (by decide +kernel) (by kernel_rfl) (W35_wp v0 v1 H K) h
def D36:Info:=⟨20,fun i=>([],[]),fun i=>([],[])⟩
def W36 (v0:AV) (v1:AV) (H:Heap) (K:AV→Heap→Prop):Prop:=
 boxV v0 H fun v2 H1=>
 binV tab .add 3 v1 (AV.p (.int .i64 1)) fun v6=>
 fieldAddrV tab 35 v2 0 fun v7=>
 loadV tab 24 v7 H1 fun v8=>
 lenV tab 24 v8 fun v9=>
 fieldAddrV tab 35 v2 1 fun v10=>
 loadV tab 24 v10 H1 fun v11=>
 lenV tab 24 v11 fun v12=>
 binV tab .add 3 v9 v12 fun v13=>
 binV tab .lss 3 v6 v13 fun v14=>
 condV v14 (binV tab .add 3 v1 (AV.p (.int .i64 1)) fun v16=>
 K v16 H1)
 (fieldAddrV tab 35 v2 0 fun v17=>
 loadV tab 24 v17 H1 fun v18=>
 lenV tab 24 v18 fun v19=>
 K v19 H1)
theorem W36_wp (v0:AV) (v1:AV) (H:Heap) (K:AV→Heap→Prop):wpC Try.prog tab D36 (bodyOf Try.f36) (retF tab [.tmp 4] K) (nthA [v0,v1]) H=W36 v0 v1 H K:=by kernel_rfl
theorem W36_ok {v0 v1:AV} {H:Heap} {K:AV→Heap→Prop} (h:W36 v0 v1 H K):CallT Try.prog 36 [v0,v1] H K:=
  CallT.of_wp (D:=D36) tab_ok mixed Try.func36 (c:=bodyOf Try.f36) (by kernel_rfl) rfl (by kernel_rfl) (rs:=#[.tmp 4]) rfl (by decide +kernel) (by kernel_rfl) (W36_wp v0 v1 H K) h
def D37:Info:=⟨49,fun i=>if i=5 then ([[],[0],[0,1],[0,1],[0,1,2,3],[0,1,2,3,4],[0,1,2,3,4,5],[0,1,2,3,4,5,6],[0,1,2,3,4,5,6,7],[0,1,2,3,4,5,6,7,8],[0,1,2,3,4,5,6,7,8,9],[0,1,2,3,4,5,6,7,8,9,10],[0,1,2,3,4,5,6,7,8,9,10,11],[0,1,2,3,4,5,6,7,8,9,10,11],[0,1,2,3,4,5,6,7,8,9,10,11,12,13],[0,1,2,3,4,5,6,7,8,9,10,11,12,13,14],[0,1,2,3,4,5,6,7,8,9,10,11],[0,1,2,3,4,5,6,7,8,9,10,11],[0,1,2,3,4,5,6,7,8,9,10,11,16,17],[0,1,2,3,4,5,6,7,8,9,10,11,16,17,18],[0,1,2,3,4,5,6,7,8,9,10,11,12,13,14,15,16,17,18,19],[0,1,2,3,4,5,6,7,8,9,10,11,12,13,14,15,16,17,18,19,20],[0,1,2,3,4,5,6,7,8,9,10,11,12,13,14,15,16,17,18,19,20,21]],[(0,[]),(1,[]),(2,[]),(3,[]),(4,[]),(5,[]),(6,[]),(7,[]),(8,[]),(9,[]),(10,[]),(11,[]),(12,[]),(13,[]),(14,[]),(15,[]),(16,[]),(17,[]),(18,[]),(19,[]),(20,[]),(21,[]),(22,[])]) else ([],[]),fun i=>if i=3 then ([7,16,17],[8,18]) else ([],[])⟩
def L37_0 (K:AV→Heap→Prop) (v7:AV) (v8:AV) (v16:AV) (v17:AV) (v18:AV) (H:Heap):Prop:=LoopV (wpC Try.prog tab D37 (cAt [1,1,0,1,0,0] (bodyOf Try.f37))) [7,16,17] (PostF.block 0 (PostF.thenA (wpC Try.prog tab D37 (cAt [1,1,1] (bodyOf Try.f37))) (retF tab [.tmp 6] K))) [8,18] [AV.any,AV.any,AV.any,AV.any,AV.any,AV.any,AV.any,v7,v8,AV.any,AV.any,AV.any,AV.any,AV.any,AV.any,AV.any,v16,v17,v18,AV.any,AV.any,AV.any,AV.any,AV.any,AV.any,AV.any,AV.any,AV.any,AV.any,AV.any,AV.any,AV.any,AV.any,AV.any,AV.any,AV.any,AV.any,AV.any,AV.any,AV.any,AV.any,AV.any,AV.any,AV.any,AV.any,AV.any,AV.any,AV.any,AV.any] H
def B37_0 (K:AV→Heap→Prop) (N1:AV→AV→Heap→Prop) (v7:AV) (v8:AV) (v16:AV) (v17:AV) (v18:AV) (H:Heap):Prop:=
 binV tab .lss 3 v18 v17 fun v19=>
 condV v19 (indexAddrV tab 81 v16 v18 fun v21=>
 loadV tab 4 v21 H fun v22=>
 grdV v22 true (indexAddrV tab 24 v7 v18 fun v27=>
 loadV tab 3 v27 H fun v28=>
 binV tab .geq 3 v28 (AV.p (.int .i64 0)) fun v29=>
 grdV v29 true (binV tab .lss 3 v8 (AV.p (.int .i64 0)) fun v33=>
 grdV v33 false (indexAddrV tab 24 v7 v18 fun v37=>
 loadV tab 3 v37 H fun v38=>
 indexAddrV tab 24 v7 v8 fun v41=>
 loadV tab 3 v41 H fun v42=>
 binV tab .lss 3 v38 v42 fun v43=>
 condV v43 (binV tab .add 3 v18 (AV.p (.int .i64 1)) fun v47=>
 N1 v18 v47 H)
 (binV tab .add 3 v18 (AV.p (.int .i64 1)) fun v47=>
 N1 v8 v47 H))
 (binV tab .add 3 v18 (AV.p (.int .i64 1)) fun v47=>
 N1 v18 v47 H))
 (binV tab .add 3 v18 (AV.p (.int .i64 1)) fun v47=>
 N1 v8 v47 H))
 (binV tab .add 3 v18 (AV.p (.int .i64 1)) fun v47=>
 N1 v8 v47 H))
 (K v8 H)
def W37 (v0:AV) (v1:AV) (v2:AV) (H:Heap) (K:AV→Heap→Prop):Prop:=
 CallT Try.prog 60 [v0,v1] H fun v13 H1=>
 CallT Try.prog 61 [v0,v2] H1 fun v16 H2=>
 lenV tab 81 v16 fun v17=>
 L37_0 K v13 (AV.p (.int .i64 (-1))) v16 v17 (AV.p (.int .i64 0)) H2
theorem W37_wp (v0:AV) (v1:AV) (v2:AV) (H:Heap) (K:AV→Heap→Prop):wpC Try.prog tab D37 (bodyOf Try.f37) (retF tab [.tmp 6] K) (nthA [v0,v1,v2]) H=W37 v0 v1 v2 H K:=by kernel_rfl
theorem W37_ok {v0 v1 v2:AV} {H:Heap} {K:AV→Heap→Prop} (h:W37 v0 v1 v2 H K):CallT Try.prog 37 [v0,v1,v2] H K:=
  CallT.of_wp (D:=D37) tab_ok mixed Try.func37 (c:=bodyOf Try.f37) (by kernel_rfl) rfl (by kernel_rfl) (rs:=#[.tmp 6]) rfl (by decide +kernel) (by kernel_rfl) (W37_wp v0 v1 v2 H K) h
theorem L37_0_rule {K:AV→Heap→Prop} {v7 v8 v16 v17 v18:AV} {H:Heap} {σ:Type} (s0:σ) (f8:σ→AV) (f18:σ→AV) (TH:σ→Heap) (pre:σ→Prop) (μ:σ→Nat)
    (h0:pre s0∧AV.wk v8 (f8 s0)∧AV.wk v18 (f18 s0)∧Heap.le (TH s0) H)
    (round:∀s,pre s→B37_0 K (fun w8 w18 H'=>∃s',pre s'∧μ s' < μ s∧AV.wk w8 (f8 s')∧AV.wk w18 (f18 s')∧Heap.le (TH s') H') v7 (f8 s) v16 v17 (f18 s) (TH s)) :
    L37_0 K v7 v8 v16 v17 v18 H:=by
  unfold L37_0
  exact LoopV.mk s0 (fun s=>[f8 s,f18 s]) TH pre μ (fun _=>rfl) (Eq.mp (by kernel_rfl) h0) (fun s hs=>Eq.mp (by kernel_rfl) (round s hs))
end Go.Proofs.Ytohkciilfkhomaa
namespace Go.Proofs.Ytohkciilfkhomaa
open Go Go.Sep
attribute [local irreducible] wpC headF
def D41:Info:=⟨15,fun i=>([],[]),fun i=>if i=3 then ([0],[3,4]) else ([],[])⟩
def L41_0 (K:AV→Heap→Prop) (v0:AV) (v3:AV) (v4:AV) (H:Heap):Prop:=LoopV (wpC Try.prog tab D41 (cAt [1,1,0,1,0,0] (bodyOf Try.f41))) [0] (PostF.block 0 (PostF.thenA (wpC Try.prog tab D41 (cAt [1,1,1] (bodyOf Try.f41))) (retF tab [.tmp 2] K))) [3,4] [v0,AV.any,AV.any,v3,v4,AV.any,AV.any,AV.any,AV.any,AV.any,AV.any,AV.any,AV.any,AV.any,AV.any] H
def B41_0 (K:AV→Heap→Prop) (N1:AV→AV→Heap→Prop) (v0:AV) (v3:AV) (v4:AV) (H:Heap):Prop:=
 binV tab .lss 3 v4 v0 fun v7=>
 condV v7 (buildSliceV tab 24 1 [(0,v4)] H (wkK fun v12 H1=>
 appendV tab 24 24 v3 v12 H1 (wkK fun v13 H2=>
 binV tab .add 3 v4 (AV.p (.int .i64 1)) fun v9=>
 N1 v13 v9 H2)))
 (K v3 H)
def W41 (v0:AV) (H:Heap) (K:AV→Heap→Prop):Prop:=
 L41_0 K v0 (AV.p .nil) (AV.p (.int .i64 0)) H
theorem W41_wp (v0:AV) (H:Heap) (K:AV→Heap→Prop):wpC Try.prog tab D41 (bodyOf Try.f41) (retF tab [.tmp 2] K) (nthA [v0]) H=W41 v0 H K:=by kernel_rfl
theorem W41_ok {v0:AV} {H:Heap} {K:AV→Heap→Prop} (h:W41 v0 H K):CallT Try.prog 41 [v0] H K:=
  CallT.of_wp (D:=D41) tab_ok mixed Try.func41 (c:=bodyOf Try.f41) (by kernel_rfl) rfl (by kernel_rfl) (rs:=#[.tmp 2]) rfl (by decide +kernel) (by kernel_rfl) (W41_wp v0 H K) h
theorem W41_hb:HasBody Try.prog 41:=⟨_,bodyOf Try.f41,Try.func41,by kernel_rfl,rfl⟩
theorem L41_0_rule {K:AV→Heap→Prop} {v0 v3 v4:AV} {H:Heap} {σ:Type} (s0:σ) (f3:σ→AV) (f4:σ→AV) (TH:σ→Heap) (pre:σ→Prop) (μ:σ→Nat)
    (h0:pre s0∧AV.wk v3 (f3 s0)∧AV.wk v4 (f4 s0)∧Heap.le (TH s0) H)
    (round:∀s,pre s→B41_0 K (fun w3 w4 H'=>∃s',pre s'∧μ s' < μ s∧AV.wk w3 (f3 s')∧AV.wk w4 (f4 s')∧Heap.le (TH s') H') v0 (f3 s) (f4 s) (TH s)) :
    L41_0 K v0 v3 v4 H:=by
  unfold L41_0
  exact LoopV.mk s0 (fun s=>[f3 s,f4 s]) TH pre μ (fun _=>rfl) (Eq.mp (by kernel_rfl) h0) (fun s hs=>Eq.mp (by kernel_rfl) (round s hs))
end Go.Proofs.Ytohkciilfkhomaa
namespace Go.Proofs.Ytohkciilfkhomaa
open Go Go.Sep
attribute [local irreducible] wpC headF
def D42:Info:=⟨35,fun i=>([],[]),fun i=>if i=2 then ([0,1,7,8],[9]) else ([],[])⟩
def L42_0 (K:AV→Heap→Prop) (v0:AV) (v1:AV) (v7:AV) (v8:AV) (v9:AV) (H:Heap):Prop:=LoopV (wpC Try.prog tab D42 (cAt [1,0,1,0,0] (bodyOf Try.f42))) [0,1,7,8] (PostF.block 0 (PostF.thenA (wpC Try.prog tab D42 (cAt [1,1] (bodyOf Try.f42))) (retF tab [.tmp 4] K))) [9] [v0,v1,AV.any,AV.any,AV.any,AV.any,AV.any,v7,v8,v9,AV.any,AV.any,AV.any,AV.any,AV.any,AV.any,AV.any,AV.any,AV.any,AV.any,AV.any,AV.any,AV.any,AV.any,AV.any,AV.any,AV.any,AV.any,AV.any,AV.any,AV.any,AV.any,AV.any,AV.any,AV.any] H
def B42_0 (K:AV→Heap→Prop) (N1:AV→Heap→Prop) (v0:AV) (v1:AV) (v7:AV) (v8:AV) (v9:AV) (H:Heap):Prop:=
 binV tab .lss 3 v9 v8 fun v10=>
 condV v10 (indexAddrV tab 24 v7 v9 fun v12=>
 loadV tab 3 v12 H fun v13=>
 binV tab .lss 3 v13 (AV.p (.int .i64 0)) fun v15=>
 grdV v15 false (binV tab .geq 3 v13 v1 fun v19=>
 grdV v19 false (binV tab .gtr 3 v9 (AV.p (.int .i64 0)) fun v23=>
 grdV v23 true (binV tab .sub 3 v9 (AV.p (.int .i64 1)) fun v27=>
 indexAddrV tab 24 v0 v27 fun v28=>
 loadV tab 3 v28 H fun v29=>
 binV tab .geq 3 v29 v13 fun v31=>
 condV v31 (K (AV.p (.bool false)) H)
 (binV tab .add 3 v9 (AV.p (.int .i64 1)) fun v34=>
 N1 v34 H))
 (binV tab .add 3 v9 (AV.p (.int .i64 1)) fun v34=>
 N1 v34 H))
 (K (AV.p (.bool false)) H))
 (K (AV.p (.bool false)) H))
 (K (AV.p (.bool true)) H)
def W42 (v0:AV) (v1:AV) (H:Heap) (K:AV→Heap→Prop):Prop:=
 lenV tab 24 v0 fun v8=>
 L42_0 K v0 v1 v0 v8 (AV.p (.int .i64 0)) H
theorem W42_wp (v0:AV) (v1:AV) (H:Heap) (K:AV→Heap→Prop):wpC Try.prog tab D42 (bodyOf Try.f42) (retF tab [.tmp 4] K) (nthA [v0,v1]) H=W42 v0 v1 H K:=by kernel_rfl
theorem W42_ok {v0 v1:AV} {H:Heap} {K:AV→Heap→Prop} (h:W42 v0 v1 H K):CallT Try.prog 42 [v0,v1] H K:=
  CallT.of_wp (D:=D42) tab_ok mixed Try.func42 (c:=bodyOf Try.f42) (by kernel_rfl) rfl (by kernel_rfl) (rs:=#[.tmp 4]) rfl (by decide +kernel) (by kernel_rfl) (W42_wp v0 v1 H K) h
theorem L42_0_rule {K:AV→Heap→Prop} {v0 v1 v7 v8 v9:AV} {H:Heap} {σ:Type} (s0:σ) (f9:σ→AV) (TH:σ→Heap) (pre:σ→Prop) (μ:σ→Nat)
    (h0:pre s0∧AV.wk v9 (f9 s0)∧Heap.le (TH s0) H)
    (round:∀s,pre s→B42_0 K (fun w9 H'=>∃s',pre s'∧μ s' < μ s∧AV.wk w9 (f9 s')∧Heap.le (TH s') H') v0 v1 v7 v8 (f9 s) (TH s)) :
    L42_0 K v0 v1 v7 v8 v9 H:=by
  unfold L42_0
  exact LoopV.mk s0 (fun s=>[f9 s]) TH pre μ (fun _=>rfl) (Eq.mp (by kernel_rfl) h0) (fun s hs=>Eq.mp (by kernel_rfl) (round s hs))
def D43:Info:=⟨14,fun i=>([],[]),fun i=>([],[])⟩
def W43 (v0:AV) (v1:AV) (H:Heap) (K:AV→Heap→Prop):Prop:=
 boxV v1 H fun v3 H1=>
 lenV tab 26 v0 fun v6=>
 binV tab .leq 3 v6 (AV.p (.int .i64 6)) fun v7=>
 grdV v7 true (CallT Try.prog 65 [v0,(.fn 66 [v3])] H1 fun v11 H2=>
 unV .not v11 fun v12=>
 K v12 H2)
 (K (AV.p (.bool false)) H1)
theorem W43_wp (v0:AV) (v1:AV) (H:Heap) (K:AV→Heap→Prop):wpC Try.prog tab D43 (bodyOf Try.f43) (retF tab [.tmp 4] K) (nthA [v0,v1]) H=W43 v0 v1 H K:=by kernel_rfl
theorem W43_ok {v0 v1:AV} {H:Heap} {K:AV→Heap→Prop} (h:W43 v0 v1 H K):CallT Try.prog 43 [v0,v1] H K:=
  CallT.of_wp (D:=D43) tab_ok mixed Try.func43 (c:=bodyOf Try.f43) (by kernel_rfl) rfl (by kernel_rfl) (rs:=#[.tmp 4]) rfl (by decide +kernel) (by kernel_rfl) (W43_wp v0 v1 H K) h
def D44:Info:=⟨22,fun i=>if i=1 then ([[],[0],[],[2],[0,1,2,3],[],[5],[],[7],[0,1,2,3,4,5,6,7,8],[],[10],[],[12],[0,1,2,3,4,5,6,7,8,9,10,11,12,13],[0,1,2,3,4,5,6,7,8,9,10,11,12,13,14],[0,1,2,3,4,5,6,7,8,9,10,11,12,13,14,15],[0,1,2,3,4,5,6,7,8,9,10,11,12,13,14,15,16]],[(0,[]),(1,[]),(2,[]),(3,[]),(5,[]),(6,[]),(7,[]),(8,[]),(10,[]),(11,[]),(12,[]),(13,[]),(4,[6,8,11,13]),(9,[11,13]),(14,[]),(15,[]),(16,[]),(17,[])]) else ([],[]),fun i=>([],[])⟩
def W44 (v0:AV) (v1:AV) (H:Heap) (K:AV→Heap→Prop):Prop:=
 boxV v0 H fun v2 H1=>
 boxV v1 H1 fun v3 H2=>
 fieldAddrV tab 46 v2 0 fun v5=>
 loadV tab 3 v5 H2 fun v6=>
 fieldAddrV tab 46 v3 0 fun v7=>
 loadV tab 3 v7 H2 fun v8=>
 fieldAddrV tab 46 v2 1 fun v10=>
 loadV tab 3 v10 H2 fun v11=>
 fieldAddrV tab 46 v3 1 fun v12=>
 loadV tab 3 v12 H2 fun v13=>
 fieldAddrV tab 46 v2 2 fun v15=>
 loadV tab 3 v15 H2 fun v16=>
 fieldAddrV tab 46 v3 2 fun v17=>
 loadV tab 3 v17 H2 fun v18=>
 CallT Try.prog 68 [v6,v8] H2 fun v9 H3=>
 (loadV tab 3 v10 H3 fun v9011=>
 v11=v9011)∧
 (loadV tab 3 v12 H3 fun v9013=>
 v13=v9013)∧
 (loadV tab 3 v15 H3 fun v9016=>
 v16=v9016)∧
 (loadV tab 3 v17 H3 fun v9018=>
 v18=v9018)∧
 CallT Try.prog 68 [v11,v13] H3 fun v14 H4=>
 (loadV tab 3 v15 H4 fun v9016=>
 v16=v9016)∧
 (loadV tab 3 v17 H4 fun v9018=>
 v18=v9018)∧
 CallT Try.prog 68 [v16,v18] H4 fun v19 H5=>
 buildSliceV tab 24 3 [(0,v9),(1,v14),(2,v19)] H5 (wkK fun v20 H6=>
 CallT Try.prog 67 [v20] H6 fun v21 H7=>
 K v21 H7)
theorem W44_wp (v0:AV) (v1:AV) (H:Heap) (K:AV→Heap→Prop):wpC Try.prog tab D44 (bodyOf Try.f44) (retF tab [.tmp 4] K) (nthA [v0,v1]) H=W44 v0 v1 H K:=by kernel_rfl
theorem W44_ok {v0 v1:AV} {H:Heap} {K:AV→Heap→Prop} (h:W44 v0 v1 H K):CallT Try.prog 44 [v0,v1] H K:=
  CallT.of_wp (D:=D44) tab_ok mixed Try.func44 (c:=bodyOf Try.f44) (by kernel_rfl) rfl (by kernel_rfl) (rs:=#[.tmp 4]) rfl (by decide +kernel) (by kernel_rfl) (W44_wp v0 v1 H K) h
def D45:Info:=⟨9,fun i=>([],[]),fun i=>([],[])⟩
def W45 (v0:AV) (v1:AV) (H:Heap) (K:AV→Heap→Prop):Prop:=
 binV tab .sub 3 v1 (AV.p (.int .i64 1)) fun v7=>
 CallT Try.prog 69 [v0,(AV.p (.int .i64 0)),v7] H fun v8 H1=>
 K v8 H1
theorem W45_wp (v0:AV) (v1:AV) (H:Heap) (K:AV→Heap→Prop):wpC Try.prog tab D45 (bodyOf Try.f45) (retF tab [.tmp 4] K) (nthA [v0,v1]) H=W45 v0 v1 H K:=by kernel_rfl
theorem W45_ok {v0 v1:AV} {H:Heap} {K:AV→Heap→Prop} (h:W45 v0 v1 H K):CallT Try.prog 45 [v0,v1] H K:=
  CallT.of_wp (D:=D45) tab_ok mixed Try.func45 (c:=bodyOf Try.f45) (by kernel_rfl) rfl (by kernel_rfl) (rs:=#[.tmp 4]) rfl (by decide +kernel) (by kernel_rfl) (W45_wp v0 v1 H K) h
def D46:Info:=⟨21,fun i=>([],[]),fun i=>if i=4 then ([1,10,11],[12]) else ([],[])⟩
def L46_0 (K:AV→Heap→Prop) (v1:AV) (v10:AV) (v11:AV) (v12:AV) (H:Heap):Prop:=LoopV (wpC Try.prog tab D46 (cAt [1,1,0,1,0,0] (bodyOf Try.f46))) [1,10,11] (PostF.block 0 (PostF.thenA (wpC Try.prog tab D46 (cAt [1,1,1] (bodyOf Try.f46))) (retF tab [.tmp 4] K))) [12] [AV.any,v1,AV.any,AV.any,AV.any,AV.any,AV.any,AV.any,AV.any,AV.any,v10,v11,v12,AV.any,AV.any,AV.any,AV.any,AV.any,AV.any,AV.any,AV.any] H
def B46_0 (K:AV→Heap→Prop) (N1:AV→Heap→Prop) (v1:AV) (v10:AV) (v11:AV) (v12:AV) (H:Heap):Prop:=
 binV tab .lss 3 v12 v11 fun v13=>
 condV v13 (indexAddrV tab 26 v10 v12 fun v14=>
 loadV tab 24 v14 H fun v15=>
 CallT Try.prog 45 [v15,v1] H fun v18 H1=>
 unV .not v18 fun v19=>
 condV v19 (K (AV.p (.bool false)) H1)
 (binV tab .add 3 v12 (AV.p (.int .i64 1)) fun v20=>
 N1 v20 H1))
 (K (AV.p (.bool true)) H)
def W46 (v0:AV) (v1:AV) (H:Heap) (K:AV→Heap→Prop):Prop:=
 lenV tab 26 v0 fun v8=>
 binV tab .gtr 3 v8 (AV.p (.int .i64 6)) fun v9=>
 condV v9 (K (AV.p (.bool false)) H)
 (lenV tab 26 v0 fun v11=>
 L46_0 K v1 v0 v11 (AV.p (.int .i64 0)) H)
theorem W46_wp (v0:AV) (v1:AV) (H:Heap) (K:AV→Heap→Prop):wpC Try.prog tab D46 (bodyOf Try.f46) (retF tab [.tmp 4] K) (nthA [v0,v1]) H=W46 v0 v1 H K:=by kernel_rfl
theorem W46_ok {v0 v1:AV} {H:Heap} {K:AV→Heap→Prop} (h:W46 v0 v1 H K):CallT Try.prog 46 [v0,v1] H K:=
  CallT.of_wp (D:=D46) tab_ok mixed Try.func46 (c:=bodyOf Try.f46) (by kernel_rfl) rfl (by kernel_rfl) (rs:=#[.tmp 4]) rfl (by decide +kernel) (by kernel_rfl) (W46_wp v0 v1 H K) h
theorem L46_0_rule {K:AV→Heap→Prop} {v1 v10 v11 v12:AV} {H:Heap} {σ:Type} (s0:σ) (f12:σ→AV) (TH:σ→Heap) (pre:σ→Prop) (μ:σ→Nat)
    (h0:pre s0∧AV.wk v12 (f12 s0)∧Heap.le (TH s0) H)
    (round:∀s,pre s→B46_0 K (fun w12 H'=>∃s',pre s'∧μ s' < μ s∧AV.wk w12 (f12 s')∧Heap.le (TH s') H') v1 v10 v11 (f12 s) (TH s)) :
    L46_0 K v1 v10 v11 v12 H:=by
  unfold L46_0
  exact LoopV.mk s0 (fun s=>[f12 s]) TH pre μ (fun _=>rfl) (Eq.mp (by kernel_rfl) h0) (fun s hs=>Eq.mp (by kernel_rfl) (round s hs))
def D47:Info:=⟨30,fun i=>([],[]),fun i=>([],[])⟩
def W47 (v0:AV) (v1:AV) (H:Heap) (K:AV→Heap→Prop):Prop:=
 boxV v0 H fun v2 H1=>
 boxV v1 H1 fun v3 H2=>
 fieldAddrV tab 46 v2 0 fun v5=>
 loadV tab 3 v5 H2 fun v6=>
 fieldAddrV tab 46 v3 0 fun v7=>
 loadV tab 3 v7 H2 fun v8=>
 binV tab .neq 3 v6 v8 fun v9=>
 condV v9 (fieldAddrV tab 46 v2 0 fun v10=>
 loadV tab 3 v10 H2 fun v11=>
 fieldAddrV tab 46 v3 0 fun v12=>
 loadV tab 3 v12 H2 fun v13=>
 binV tab .lss 3 v11 v13 fun v14=>
 K v14 H2)
 (fieldAddrV tab 46 v2 1 fun v15=>
 loadV tab 3 v15 H2 fun v16=>
 fieldAddrV tab 46 v3 1 fun v17=>
 loadV tab 3 v17 H2 fun v18=>
 binV tab .neq 3 v16 v18 fun v19=>
 condV v19 (fieldAddrV tab 46 v2 1 fun v20=>
 loadV tab 3 v20 H2 fun v21=>
 fieldAddrV tab 46 v3 1 fun v22=>
 loadV tab 3 v22 H2 fun v23=>
 binV tab .lss 3 v21 v23 fun v24=>
 K v24 H2)
 (fieldAddrV tab 46 v2 2 fun v25=>
 loadV tab 3 v25 H2 fun v26=>
 fieldAddrV tab 46 v3 2 fun v27=>
 loadV tab 3 v27 H2 fun v28=>
 binV tab .lss 3 v26 v28 fun v29=>
 K v29 H2))
theorem W47_wp (v0:AV) (v1:AV) (H:Heap) (K:AV→Heap→Prop):wpC Try.prog tab D47 (bodyOf Try.f47) (retF tab [.tmp 4] K) (nthA [v0,v1]) H=W47 v0 v1 H K:=by kernel_rfl
theorem W47_ok {v0 v1:AV} {H:Heap} {K:AV→Heap→Prop} (h:W47 v0 v1 H K):CallT Try.prog 47 [v0,v1] H K:=
  CallT.of_wp (D:=D47) tab_ok mixed Try.func47 (c:=bodyOf Try.f47) (by kernel_rfl) rfl (by kernel_rfl) (rs:=#[.tmp 4]) rfl (by decide +kernel) (by kernel_rfl) (W47_wp v0 v1 H K) h
def D48:Info:=⟨27,fun i=>([],[]),fun i=>([],[])⟩
def W48 (v0:AV) (v1:AV) (H:Heap) (K:AV→Heap→Prop):Prop:=
 binV tab .lss 3 v1 (AV.p (.int .i64 0)) fun v6=>
 condV v6 (False)
 (capV tab 24 v0 fun v10=>
 lenV tab 24 v0 fun v12=>
 binV tab .sub 3 v10 v12 fun v13=>
 binV tab .sub 3 v1 v13 fun v14=>
 binV tab .gtr 3 v14 (AV.p (.int .i64 0)) fun v16=>
 condV v16 (capV tab 24 v0 fun v19=>
 sliceV tab 24 v0 none (some v19) none fun v20=>
 appendV tab 24 3 v20 v14 H (wkK fun v22 H1=>
 lenV tab 24 v0 fun v24=>
 sliceV tab 24 v22 none (some v24) none fun v25=>
 K v25 H1))
 (K v0 H))
theorem W48_wp (v0:AV) (v1:AV) (H:Heap) (K:AV→Heap→Prop):wpC Try.prog tab D48 (bodyOf Try.f48) (retF tab [.tmp 4] K) (nthA [v0,v1]) H=W48 v0 v1 H K:=by kernel_rfl
theorem W48_ok {v0 v1:AV} {H:Heap} {K:AV→Heap→Prop} (h:W48 v0 v1 H K):CallT Try.prog 48 [v0,v1] H K:=
  CallT.of_wp (D:=D48) tab_ok mixed Try.func48 (c:=bodyOf Try.f48) (by kernel_rfl) rfl (by kernel_rfl) (rs:=#[.tmp 4]) rfl (by decide +kernel) (by kernel_rfl) (W48_wp v0 v1 H K) h
def D49:Info:=⟨16,fun i=>([],[]),fun i=>if i=3 then ([6],[3,7]) else ([],[])⟩
def L49_0 (K:AV→Heap→Prop) (v3:AV) (v6:AV) (v7:AV) (H:Heap):Prop:=LoopV (wpC Try.prog tab D49 (cAt [1,1,0,1,0,0] (bodyOf Try.f49))) [6] (PostF.block 0 (PostF.thenA (wpC Try.prog tab D49 (cAt [1,1,1] (bodyOf Try.f49))) (retF tab [.tmp 2] K))) [3,7] [AV.any,AV.any,AV.any,v3,AV.any,AV.any,v6,v7,AV.any,AV.any,AV.any,AV.any,AV.any,AV.any,AV.any,AV.any] H
def B49_0 (K:AV→Heap→Prop) (N1:AV→AV→Heap→Prop) (v3:AV) (v6:AV) (v7:AV) (H:Heap):Prop:=
 binV tab .lss 3 v7 v6 fun v8=>
 condV v8 (buildSliceV tab 24 1 [(0,v7)] H (wkK fun v12 H2=>
 appendV tab 24 24 v3 v12 H2 (wkK fun v13 H3=>
 binV tab .add 3 v7 (AV.p (.int .i64 1)) fun v14=>
 N1 v13 v14 H3)))
 (K v3 H)
def W49 (v0:AV) (H:Heap) (K:AV→Heap→Prop):Prop:=
 buildSliceV tab 24 0 [] H (wkK fun v5 H1=>
 L49_0 K v5 v0 (AV.p (.int .i64 0)) H1)
theorem W49_wp (v0:AV) (H:Heap) (K:AV→Heap→Prop):wpC Try.prog tab D49 (bodyOf Try.f49) (retF tab [.tmp 2] K) (nthA [v0]) H=W49 v0 H K:=by kernel_rfl
theorem W49_ok {v0:AV} {H:Heap} {K:AV→Heap→Prop} (h:W49 v0 H K):CallT Try.prog 49 [v0] H K:=
  CallT.of_wp (D:=D49) tab_ok mixed Try.func49 (c:=bodyOf Try.f49) (by kernel_rfl) rfl (by kernel_rfl) (rs:=#[.tmp 2]) rfl (by decide +kernel) (by kernel_rfl) (W49_wp v0 H K) h
theorem L49_0_rule {K:AV→Heap→Prop} {v3 v6 v7:AV} {H:Heap} {σ:Type} (s0:σ) (f3:σ→AV) (f7:σ→AV) (TH:σ→Heap) (pre:σ→Prop) (μ:σ→Nat)
    (h0:pre s0∧AV.wk v3 (f3 s0)∧AV.wk v7 (f7 s0)∧Heap.le (TH s0) H)
    (round:∀s,pre s→B49_0 K (fun w3 w7 H'=>∃s',pre s'∧μ s' < μ s∧AV.wk w3 (f3 s')∧AV.wk w7 (f7 s')∧Heap.le (TH s') H') (f3 s) v6 (f7 s) (TH s)) :
    L49_0 K v3 v6 v7 H:=by
  unfold L49_0
  exact LoopV.mk s0 (fun s=>[f3 s,f7 s]) TH pre μ (fun _=>rfl) (Eq.mp (by kernel_rfl) h0) (fun s hs=>Eq.mp (by kernel_rfl) (round s hs))
def D50:Info:=⟨6,fun i=>([],[]),fun i=>([],[])⟩
def W50 (v0:AV) (H:Heap) (K:AV→Heap→Prop):Prop:=
 buildSliceV tab 24 0 [] H (wkK fun v3 H1=>
 appendV tab 24 24 v3 v0 H1 (wkK fun v5 H2=>
 K v5 H2))
theorem W50_wp (v0:AV) (H:Heap) (K:AV→Heap→Prop):wpC Try.prog tab D50 (bodyOf Try.f50) (retF tab [.tmp 2] K) (nthA [v0]) H=W50 v0 H K:=by kernel_rfl
theorem W50_ok {v0:AV} {H:Heap} {K:AV→Heap→Prop} (h:W50 v0 H K):CallT Try.prog 50 [v0] H K:=
  CallT.of_wp (D:=D50) tab_ok mixed Try.func50 (c:=bodyOf Try.f50) (by kernel_rfl) rfl (by kernel_rfl) (rs:=#[.tmp 2]) rfl (by decide +kernel) (by kernel_rfl) (W50_wp v0 H K) h
def D51:Info:=⟨20,fun i=>([],[]),fun i=>([],[])⟩
def W51 (v0:AV) (v1:AV) (H:Heap) (K:AV→Heap→Prop):Prop:=
 binV tab .leq 3 v1 (AV.p (.int .i64 1)) fun v7=>
 condV v7 (K (AV.p (.int .i64 0)) H)
 (CallT Try.prog 70 [v0] H fun v9 H1=>
 binV tab .gtr 3 v1 (AV.p (.int .i64 200)) fun v11=>
 condV v11 (binV tab .mul 3 v9 (AV.p (.int .i64 256)) fun v13=>
 CallT Try.prog 70 [v0] H1 fun v15 H2=>
 binV tab .add 3 v13 v15 fun v16=>
 binV tab .rem 3 v16 v1 fun v19=>
 K v19 H2)
 (binV tab .rem 3 v9 v1 fun v19=>
 K v19 H1))
theorem W51_wp (v0:AV) (v1:AV) (H:Heap) (K:AV→Heap→Prop):wpC Try.prog tab D51 (bodyOf Try.f51) (retF tab [.tmp 4] K) (nthA [v0,v1]) H=W51 v0 v1 H K:=by kernel_rfl
theorem W51_ok {v0 v1:AV} {H:Heap} {K:AV→Heap→Prop} (h:W51 v0 v1 H K):CallT Try.prog 51 [v0,v1] H K:=
  CallT.of_wp (D:=D51) tab_ok mixed Try.func51 (c:=bodyOf Try.f51) (by kernel_rfl) rfl (by kernel_rfl) (rs:=#[.tmp 4]) rfl (by decide +kernel) (by kernel_rfl) (W51_wp v0 v1 H K) h
def D52:Info:=⟨48,fun i=>([],[]),fun i=>if i=2 then ([0,1],[5]) else ([],[])⟩
def L52_0 (K:AV→Heap→Prop) (v0:AV) (v1:AV) (v5:AV) (H:Heap):Prop:=LoopV (wpC Try.prog tab D52 (cAt [1,1,0,0,0] (bodyOf Try.f52))) [0,1] (PostF.block 0 (PostF.thenA (wpC Try.prog tab D52 (cAt [1,1,1] (bodyOf Try.f52))) (retF tab [.tmp 4] K))) [5] [v0,v1,AV.any,AV.any,AV.any,v5,AV.any,AV.any,AV.any,AV.any,AV.any,AV.any,AV.any,AV.any,AV.any,AV.any,AV.any,AV.any,AV.any,AV.any,AV.any,AV.any,AV.any,AV.any,AV.any,AV.any,AV.any,AV.any,AV.any,AV.any,AV.any,AV.any,AV.any,AV.any,AV.any,AV.any,AV.any,AV.any,AV.any,AV.any,AV.any,AV.any,AV.any,AV.any,AV.any,AV.any,AV.any,AV.any] H
def J52_1 (K:AV→Heap→Prop) (v0:AV) (v1:AV) (v5:AV) (H:Heap):Prop:=
 buildSliceV tab 24 0 [] H (wkK fun v34 H1=>
 sliceV tab 24 v0 none (some v5) none fun v37=>
 appendV tab 24 24 v34 v37 H1 (wkK fun v38 H2=>
 buildSliceV tab 24 1 [(0,v1)] H2 (wkK fun v41 H3=>
 appendV tab 24 24 v38 v41 H3 (wkK fun v42 H4=>
 sliceV tab 24 v0 (some v5) none none fun v46=>
 appendV tab 24 24 v42 v46 H4 (wkK fun v47 H5=>
 K v47 H5)))))
def J52_2 (K:AV→Heap→Prop) (v0:AV) (v1:AV) (v5:AV) (H:Heap):Prop:=
 lenV tab 24 v0 fun v23=>
 binV tab .lss 3 v5 v23 fun v24=>
 grdV v24 true (indexAddrV tab 24 v0 v5 fun v28=>
 loadV tab 3 v28 H fun v29=>
 binV tab .eql 3 v29 v1 fun v31=>
 condV v31 (K v0 H)
 (J52_1 K v0 v1 v5 H))
 (J52_1 K v0 v1 v5 H)
def B52_0 (K:AV→Heap→Prop) (N1:AV→Heap→Prop) (v0:AV) (v1:AV) (v5:AV) (H:Heap):Prop:=
 lenV tab 24 v0 fun v9=>
 binV tab .lss 3 v5 v9 fun v10=>
 grdV v10 true (indexAddrV tab 24 v0 v5 fun v14=>
 loadV tab 3 v14 H fun v15=>
 binV tab .lss 3 v15 v1 fun v17=>
 condV v17 (binV tab .add 3 v5 (AV.p (.int .i64 1)) fun v20=>
 N1 v20 H)
 (J52_2 K v0 v1 v5 H))
 (J52_2 K v0 v1 v5 H)
def W52 (v0:AV) (v1:AV) (H:Heap) (K:AV→Heap→Prop):Prop:=
 L52_0 K v0 v1 (AV.p (.int .i64 0)) H
theorem W52_wp (v0:AV) (v1:AV) (H:Heap) (K:AV→Heap→Prop):wpC Try.prog tab D52 (bodyOf Try.f52) (retF tab [.tmp 4] K) (nthA [v0,v1]) H=W52 v0 v1 H K:=by kernel_rfl
theorem W52_ok {v0 v1:AV} {H:Heap} {K:AV→Heap→Prop} (h:W52 v0 v1 H K):CallT Try.prog 52 [v0,v1] H K:=
  CallT.of_wp (D:=D52) tab_ok mixed Try.func52 (c:=bodyOf Try.f52) (by kernel_rfl) rfl (by kernel_rfl) (rs:=#[.tmp 4]) rfl (by decide +kernel) (by kernel_rfl) (W52_wp v0 v1 H K) h
theorem L52_0_rule {K:AV→Heap→Prop} {v0 v1 v5:AV} {H:Heap} {σ:Type} (s0:σ) (f5:σ→AV) (TH:σ→Heap) (pre:σ→Prop) (μ:σ→Nat)
    (h0:pre s0∧AV.wk v5 (f5 s0)∧Heap.le (TH s0) H)
    (round:∀s,pre s→B52_0 K (fun w5 H'=>∃s',pre s'∧μ s' < μ s∧AV.wk w5 (f5 s')∧Heap.le (TH s') H') v0 v1 (f5 s) (TH s)) :
    L52_0 K v0 v1 v5 H:=by
  unfold L52_0
  exact LoopV.mk s0 (fun s=>[f5 s]) TH pre μ (fun _=>rfl) (Eq.mp (by kernel_rfl) h0) (fun s hs=>Eq.mp (by kernel_rfl) (round s hs))
def D53:Info:=⟨16,fun i=>([],[]),fun i=>if i=2 then ([0],[1,5]) else ([],[])⟩
def L53_0 (K:AV→Heap→Prop) (v0:AV) (v1:AV) (v5:AV) (H:Heap):Prop:=LoopV (wpC Try.prog tab D53 (cAt [1,1,0,0,0] (bodyOf Try.f53))) [0] (PostF.block 0 (PostF.thenA (wpC Try.prog tab D53 (cAt [1,1,1] (bodyOf Try.f53))) (retF tab [.tmp 4] K))) [1,5] [v0,v1,AV.any,AV.any,AV.any,v5,AV.any,AV.any,AV.any,AV.any,AV.any,AV.any,AV.any,AV.any,AV.any,AV.any] H
def B53_0 (K:AV→Heap→Prop) (N1:AV→AV→Heap→Prop) (v0:AV) (v1:AV) (v5:AV) (H:Heap):Prop:=
 binV tab .gtr 3 v1 (AV.p (.int .i64 0)) fun v7=>
 condV v7 (CallT Try.prog 51 [v0,(AV.p (.int .i64 8))] H fun v12 H1=>
 buildSliceV tab 24 1 [(0,v12)] H1 (wkK fun v13 H2=>
 appendV tab 24 24 v5 v13 H2 (wkK fun v14 H3=>
 binV tab .sub 3 v1 (AV.p (.int .i64 1)) fun v9=>
 N1 v9 v14 H3)))
 (K v5 H)
def W53 (v0:AV) (v1:AV) (H:Heap) (K:AV→Heap→Prop):Prop:=
 L53_0 K v0 v1 (AV.p .nil) H
theorem W53_wp (v0:AV) (v1:AV) (H:Heap) (K:AV→Heap→Prop):wpC Try.prog tab D53 (bodyOf Try.f53) (retF tab [.tmp 4] K) (nthA [v0,v1]) H=W53 v0 v1 H K:=by kernel_rfl
theorem W53_ok {v0 v1:AV} {H:Heap} {K:AV→Heap→Prop} (h:W53 v0 v1 H K):CallT Try.prog 53 [v0,v1] H K:=
  CallT.of_wp (D:=D53) tab_ok mixed Try.func53 (c:=bodyOf Try.f53) (by kernel_rfl) rfl (by kernel_rfl) (rs:=#[.tmp 4]) rfl (by decide +kernel) (by kernel_rfl) (W53_wp v0 v1 H K) h
theorem W53_hb:HasBody Try.prog 53:=⟨_,bodyOf Try.f53,Try.func53,by kernel_rfl,rfl⟩
theorem L53_0_rule {K:AV→Heap→Prop} {v0 v1 v5:AV} {H:Heap} {σ:Type} (s0:σ) (f1:σ→AV) (f5:σ→AV) (TH:σ→Heap) (pre:σ→Prop) (μ:σ→Nat)
    (h0:pre s0∧AV.wk v1 (f1 s0)∧AV.wk v5 (f5 s0)∧Heap.le (TH s0) H)
    (round:∀s,pre s→B53_0 K (fun w1 w5 H'=>∃s',pre s'∧μ s' < μ s∧AV.wk w1 (f1 s')∧AV.wk w5 (f5 s')∧Heap.le (TH s') H') v0 (f1 s) (f5 s) (TH s)) :
    L53_0 K v0 v1 v5 H:=by
  unfold L53_0
  exact LoopV.mk s0 (fun s=>[f1 s,f5 s]) TH pre μ (fun _=>rfl) (Eq.mp (by kernel_rfl) h0) (fun s hs=>Eq.mp (by kernel_rfl) (round s hs))
def D54:Info:=⟨12,fun i=>([],[]),fun i=>([],[])⟩
def W54 (v0:AV) (v1:AV) (H:Heap) (K:AV→Heap→Prop):Prop:=
 lenV tab 24 v1 fun v8=>
 CallT Try.prog 51 [v0,v8] H fun v9 H1=>
 indexAddrV tab 24 v1 v9 fun v10=>
 loadV tab 3 v10 H1 fun v11=>
 K v11 H1
theorem W54_wp (v0:AV) (v1:AV) (H:Heap) (K:AV→Heap→Prop):wpC Try.prog tab D54 (bodyOf Try.f54) (retF tab [.tmp 4] K) (nthA [v0,v1]) H=W54 v0 v1 H K:=by kernel_rfl
theorem W54_ok {v0 v1:AV} {H:Heap} {K:AV→Heap→Prop} (h:W54 v0 v1 H K):CallT Try.prog 54 [v0,v1] H K:=
  CallT.of_wp (D:=D54) tab_ok mixed Try.func54 (c:=bodyOf Try.f54) (by kernel_rfl) rfl (by kernel_rfl) (rs:=#[.tmp 4]) rfl (by decide +kernel) (by kernel_rfl) (W54_wp v0 v1 H K) h
def D55:Info:=⟨147,fun i=>if i=6 then ([[],[],[0,1],[0,1,2],[0,1,2,3],[0,1,2,3,4],[0,1,2,3,4,5],[0,1,2,3,4,5,6],[0,1,2,3,4,5,6,7],[0,1,2,3,4,5,6,7,8],[0,1,2,3,4,5,6,7,8],[0,1,2,3,4,5,6,7,8,9,10],[0,1,2,3,4,5,6,7,8,9,10,11],[0,1,2,3,4,5,6,7,8],[0,1,2,3,4,5,6,7,8],[0,1,2,3,4,5,6,7,8,13,14],[0,1,2,3,4,5,6,7,8,13,14,15],[0,1,2,3,4,5,6,7,8,9,10,11,12,13,14,15,16],[0,1,2,3,4,5,6,7,8,9,10,11,12,13,14,15,16,17],[0,1,2,3,4,5,6,7,8,9,10,11,12,13,14,15,16,17,18]],[(0,[]),(1,[]),(2,[]),(3,[]),(4,[]),(5,[]),(6,[]),(7,[]),(8,[]),(9,[]),(10,[]),(11,[]),(12,[]),(13,[]),(14,[]),(15,[]),(16,[]),(17,[]),(18,[]),(19,[])]) else if i=22 then ([[],[],[0,1],[0,1,2],[],[],[4,5],[4,5,6],[0,1,2,3,4,5,6,7]],[(0,[]),(1,[]),(2,[]),(3,[]),(4,[]),(5,[]),(6,[]),(7,[]),(8,[])]) else if i=29 then ([[],[],[1],[1,2],[0,1,2,3],[],[],[],[7],[7,8],[6,7,8,9],[5,6,7,8,9,10],[0,1,2,3,4,5,6,7,8,9,10,11],[0,1,2,3,4,5,6,7,8,9,10,11,12],[0,1,2,3,4,5,6,7,8,9,10,11,12,13]],[(0,[]),(1,[]),(2,[]),(3,[]),(4,[]),(5,[]),(6,[]),(7,[]),(8,[]),(9,[]),(10,[]),(11,[]),(12,[]),(13,[]),(14,[])]) else ([],[]),fun i=>if i=4 then ([0,1,2,9,32,33],[10,34]) else if i=16 then ([10,13,15,16,77,78],[17,79]) else if i=20 then ([10,13,15,16,17,77,78,79,83,84],[20,85]) else ([],[])⟩
def L55_0 (K:AV→Heap→Prop) (v0:AV) (v1:AV) (v2:AV) (v9:AV) (v10:AV) (v32:AV) (v33:AV) (v34:AV) (H:Heap):Prop:=LoopV (wpC Try.prog tab D55 (cAt [1,1,1,0,1,0,0] (bodyOf Try.f55))) [0,1,2,9,32,33] (PostF.block 0 (PostF.thenA (wpC Try.prog tab D55 (cAt [1,1,1,1] (bodyOf Try.f55))) (retF tab [.tmp 6,.tmp 7,.tmp 8] K))) [10,34] [v0,v1,v2,AV.any,AV.any,AV.any,AV.any,AV.any,AV.any,v9,v10,AV.any,AV.any,AV.any,AV.any,AV.any,AV.any,AV.any,AV.any,AV.any,AV.any,AV.any,AV.any,AV.any,AV.any,AV.any,AV.any,AV.any,AV.any,AV.any,AV.any,AV.any,v32,v33,v34,AV.any,AV.any,AV.any,AV.any,AV.any,AV.any,AV.any,AV.any,AV.any,AV.any,AV.any,AV.any,AV.any,AV.any,AV.any,AV.any,AV.any,AV.any,AV.any,AV.any,AV.any,AV.any,AV.any,AV.any,AV.any,AV.any,AV.any,AV.any,AV.any,AV.any,AV.any,AV.any,AV.any,AV.any,AV.any,AV.any,AV.any,AV.any,AV.any,AV.any,AV.any,AV.any,AV.any,AV.any,AV.any,AV.any,AV.any,AV.any,AV.any,AV.any,AV.any,AV.any,AV.any,AV.any,AV.any,AV.any,AV.any,AV.any,AV.any,AV.any,AV.any,AV.any,AV.any,AV.any,AV.any,AV.any,AV.any,AV.any,AV.any,AV.any,AV.any,AV.any,AV.any,AV.any,AV.any,AV.any,AV.any,AV.any,AV.any,AV.any,AV.any,AV.any,AV.any,AV.any,AV.any,AV.any,AV.any,AV.any,AV.any,AV.any,AV.any,AV.any,AV.any,AV.any,AV.any,AV.any,AV.any,AV.any,AV.any,AV.any,AV.any,AV.any,AV.any,AV.any,AV.any,AV.any,AV.any,AV.any,AV.any,AV.any,AV.any,AV.any] H
def L55_1 (K:AV→Heap→Prop) (v10:AV) (v13:AV) (v15:AV) (v16:AV) (v17:AV) (v77:AV) (v78:AV) (v79:AV) (H:Heap):Prop:=LoopV (wpC Try.prog tab D55 (cAt [1,1,1,1,1,1,1,1,1,0,1,0,0] (bodyOf Try.f55))) [10,13,15,16,77,78] (PostF.block 2 (PostF.thenA (wpC Try.prog tab D55 (cAt [1,1,1,1,1,1,1,1,1,1] (bodyOf Try.f55))) (retF tab [.tmp 6,.tmp 7,.tmp 8] K))) [17,79] [AV.any,AV.any,AV.any,AV.any,AV.any,AV.any,AV.any,AV.any,AV.any,AV.any,v10,AV.any,AV.any,v13,AV.any,v15,v16,v17,AV.any,AV.any,AV.any,AV.any,AV.any,AV.any,AV.any,AV.any,AV.any,AV.any,AV.any,AV.any,AV.any,AV.any,AV.any,AV.any,AV.any,AV.any,AV.any,AV.any,AV.any,AV.any,AV.any,AV.any,AV.any,AV.any,AV.any,AV.any,AV.any,AV.any,AV.any,AV.any,AV.any,AV.any,AV.any,AV.any,AV.any,AV.any,AV.any,AV.any,AV.any,AV.any,AV.any,AV.any,AV.any,AV.any,AV.any,AV.any,AV.any,AV.any,AV.any,AV.any,AV.any,AV.any,AV.any,AV.any,AV.any,AV.any,AV.any,v77,v78,v79,AV.any,AV.any,AV.any,AV.any,AV.any,AV.any,AV.any,AV.any,AV.any,AV.any,AV.any,AV.any,AV.any,AV.any,AV.any,AV.any,AV.any,AV.any,AV.any,AV.any,AV.any,AV.any,AV.any,AV.any,AV.any,AV.any,AV.any,AV.any,AV.any,AV.any,AV.any,AV.any,AV.any,AV.any,AV.any,AV.any,AV.any,AV.any,AV.any,AV.any,AV.any,AV.any,AV.any,AV.any,AV.any,AV.any,AV.any,AV.any,AV.any,AV.any,AV.any,AV.any,AV.any,AV.any,AV.any,AV.any,AV.any,AV.any,AV.any,AV.any,AV.any,AV.any,AV.any,AV.any,AV.any,AV.any,AV.any] H
def L55_2 (K:AV→Heap→Prop) (N1:AV→AV→Heap→Prop) (v10:AV) (v13:AV) (v15:AV) (v16:AV) (v17:AV) (v20:AV) (v77:AV) (v78:AV) (v79:AV) (v83:AV) (v84:AV) (v85:AV) (H:Heap):Prop:=LoopV (wpC Try.prog tab D55 (cAt [1,1,1,1,1,1,1,1,1,0,1,0,0,1,1,0,0,1,1,0,1,0,0] (bodyOf Try.f55))) [10,13,15,16,17,77,78,79,83,84] (PostF.block 4 (PostF.thenA (wpC Try.prog tab D55 (cAt [1,1,1,1,1,1,1,1,1,0,1,0,0,1,1,0,0,1,1,1] (bodyOf Try.f55))) (PostF.block 3 (PostF.thenA (wpC Try.prog tab D55 (cAt [1,1,1,1,1,1,1,1,1,0,1,0,0,1,1,1] (bodyOf Try.f55))) (loopF (PostF.block 2 (PostF.thenA (wpC Try.prog tab D55 (cAt [1,1,1,1,1,1,1,1,1,1] (bodyOf Try.f55))) (retF tab [.tmp 6,.tmp 7,.tmp 8] K))) (fun e h=>N1 (e 17) (e 79) h)))))) [20,85] [AV.any,AV.any,AV.any,AV.any,AV.any,AV.any,AV.any,AV.any,AV.any,AV.any,v10,AV.any,AV.any,v13,AV.any,v15,v16,v17,AV.any,AV.any,v20,AV.any,AV.any,AV.any,AV.any,AV.any,AV.any,AV.any,AV.any,AV.any,AV.any,AV.any,AV.any,AV.any,AV.any,AV.any,AV.any,AV.any,AV.any,AV.any,AV.any,AV.any,AV.any,AV.any,AV.any,AV.any,AV.any,AV.any,AV.any,AV.any,AV.any,AV.any,AV.any,AV.any,AV.any,AV.any,AV.any,AV.any,AV.any,AV.any,AV.any,AV.any,AV.any,AV.any,AV.any,AV.any,AV.any,AV.any,AV.any,AV.any,AV.any,AV.any,AV.any,AV.any,AV.any,AV.any,AV.any,v77,v78,v79,AV.any,AV.any,AV.any,v83,v84,v85,AV.any,AV.any,AV.any,AV.any,AV.any,AV.any,AV.any,AV.any,AV.any,AV.any,AV.any,AV.any,AV.any,AV.any,AV.any,AV.any,AV.any,AV.any,AV.any,AV.any,AV.any,AV.any,AV.any,AV.any,AV.any,AV.any,AV.any,AV.any,AV.any,AV.any,AV.any,AV.any,AV.any,AV.any,AV.any,AV.any,AV.any,AV.any,AV.any,AV.any,AV.any,AV.any,AV.any,AV.any,AV.any,AV.any,AV.any,AV.any,AV.any,AV.any,AV.any,AV.any,AV.any,AV.any,AV.any,AV.any,AV.any,AV.any,AV.any,AV.any,AV.any] H
def B55_2 (K:AV→Heap→Prop) (N1:AV→AV→Heap→Prop) (N2:AV→AV→Heap→Prop) (v10:AV) (v13:AV) (v15:AV) (v16:AV) (v17:AV) (v20:AV) (v77:AV) (v78:AV) (v79:AV) (v83:AV) (v84:AV) (v85:AV) (H:Heap):Prop:=
 binV tab .lss 3 v85 v84 fun v86=>
 condV v86 (indexAddrV tab 24 v83 v85 fun v87=>
 loadV tab 3 v87 H fun v88=>
 indexAddrV tab 24 v15 v88 fun v91=>
 loadV tab 3 v91 H fun v92=>
 indexAddrV tab 24 v15 v10 fun v95=>
 loadV tab 3 v95 H fun v96=>
 binV tab .eql 3 v92 v96 fun v97=>
 condV v97 (buildSliceV tab 24 1 [(0,v88)] H (wkK fun v100 H8=>
 appendV tab 24 24 v20 v100 H8 (wkK fun v101 H9=>
 binV tab .add 3 v85 (AV.p (.int .i64 1)) fun v102=>
 N2 v101 v102 H9)))
 (binV tab .add 3 v85 (AV.p (.int .i64 1)) fun v102=>
 N2 v20 v102 H))
 (lenV tab 24 v17 fun v107=>
 binV tab .sub 3 v107 (AV.p (.int .i64 1)) fun v108=>
 sliceV tab 24 v17 (some v108) none none fun v109=>
 CallT Try.prog 73 [v16,v109,v20] H fun v111 H10=>
 extractV v111 0 fun v112=>
 extractV v111 1 fun v113=>
 sliceV tab 24 v112 (some (AV.p (.int .i64 1))) none none fun v116=>
 appendV tab 24 24 v17 v116 H10 (wkK fun v117 H11=>
 binV tab .add 3 v79 (AV.p (.int .i64 1)) fun v118=>
 N1 v117 v118 H11))
def B55_1 (K:AV→Heap→Prop) (N1:AV→AV→Heap→Prop) (v10:AV) (v13:AV) (v15:AV) (v16:AV) (v17:AV) (v77:AV) (v78:AV) (v79:AV) (H:Heap):Prop:=
 binV tab .lss 3 v79 v78 fun v80=>
 condV v80 (indexAddrV tab 26 v77 v79 fun v81=>
 loadV tab 24 v81 H fun v82=>
 lenV tab 24 v82 fun v84=>
 L55_2 K N1 v10 v13 v15 v16 v17 (AV.p .nil) v77 v78 v79 v82 v84 (AV.p (.int .i64 0)) H)
 (lenV tab 24 v17 fun v124=>
 binV tab .sub 3 v124 (AV.p (.int .i64 1)) fun v125=>
 indexAddrV tab 24 v17 v125 fun v126=>
 loadV tab 3 v126 H fun v127=>
 indexAddrV tab 26 v16 v127 fun v128=>
 loadV tab 24 v128 H fun v129=>
 buildSliceV tab 24 1 [(0,v10)] H (wkK fun v131 H12=>
 CallT Try.prog 73 [v16,v129,v131] H12 fun v132 H13=>
 extractV v132 0 fun v133=>
 extractV v132 1 fun v134=>
 lenV tab 24 v13 fun v137=>
 binV tab .sub 3 v137 (AV.p (.int .i64 1)) fun v138=>
 sliceV tab 24 v13 none (some v138) none fun v139=>
 lenV tab 24 v133 fun v143=>
 binV tab .sub 3 v143 (AV.p (.int .i64 1)) fun v144=>
 sliceV tab 24 v133 none (some v144) none fun v145=>
 appendV tab 24 24 v17 v145 H13 (wkK fun v146 H14=>
 K (.tup [v139,v146,(AV.p (.bool true))]) H14)))
def B55_0 (K:AV→Heap→Prop) (N1:AV→AV→Heap→Prop) (v0:AV) (v1:AV) (v2:AV) (v9:AV) (v10:AV) (v32:AV) (v33:AV) (v34:AV) (H:Heap):Prop:=
 binV tab .lss 3 v34 v33 fun v35=>
 condV v35 (indexAddrV tab 24 v32 v34 fun v36=>
 loadV tab 3 v36 H fun v37=>
 indexAddrV tab 24 v9 v37 fun v40=>
 loadV tab 3 v40 H fun v41=>
 binV tab .geq 3 v41 (AV.p (.int .i64 0)) fun v42=>
 grdV v42 true (binV tab .lss 3 v10 (AV.p (.int .i64 0)) fun v45=>
 grdV v45 false (indexAddrV tab 24 v9 v37 fun v49=>
 loadV tab 3 v49 H fun v50=>
 indexAddrV tab 24 v9 v10 fun v53=>
 loadV tab 3 v53 H fun v54=>
 binV tab .lss 3 v50 v54 fun v55=>
 condV v55 (binV tab .add 3 v34 (AV.p (.int .i64 1)) fun v59=>
 N1 v37 v59 H)
 (binV tab .add 3 v34 (AV.p (.int .i64 1)) fun v59=>
 N1 v10 v59 H))
 (binV tab .add 3 v34 (AV.p (.int .i64 1)) fun v59=>
 N1 v37 v59 H))
 (binV tab .add 3 v34 (AV.p (.int .i64 1)) fun v59=>
 N1 v10 v59 H))
 (binV tab .lss 3 v10 (AV.p (.int .i64 0)) fun v61=>
 condV v61 (K (.tup [(AV.p .nil),(AV.p .nil),(AV.p (.bool false))]) H)
 (buildSliceV tab 24 1 [(0,v10)] H (wkK fun v66 H3=>
 CallT Try.prog 73 [v0,v1,v66] H3 fun v67 H4=>
 extractV v67 0 fun v68=>
 extractV v67 1 fun v69=>
 CallT Try.prog 74 [v0] H4 fun v71 H5=>
 CallT Try.prog 75 [v0,v71] H5 fun v74 H6=>
 buildSliceV tab 24 1 [(0,v10)] H6 (wkK fun v76 H7=>
 lenV tab 26 v2 fun v78=>
 L55_1 K v10 v68 v71 v74 v76 v2 v78 (AV.p (.int .i64 0)) H7))))
def W55 (v0:AV) (v1:AV) (v2:AV) (H:Heap) (K:AV→Heap→Prop):Prop:=
 CallT Try.prog 71 [v0,v1] H fun v29 H1=>
 CallT Try.prog 72 [v0,v2] H1 fun v32 H2=>
 lenV tab 24 v32 fun v33=>
 L55_0 K v0 v1 v2 v29 (AV.p (.int .i64 (-1))) v32 v33 (AV.p (.int .i64 0)) H2
theorem W55_wp (v0:AV) (v1:AV) (v2:AV) (H:Heap) (K:AV→Heap→Prop):wpC Try.prog tab D55 (bodyOf Try.f55) (retF tab [.tmp 6,.tmp 7,.tmp 8] K) (nthA [v0,v1,v2]) H=W55 v0 v1 v2 H K:=by kernel_rfl
theorem W55_ok {v0 v1 v2:AV} {H:Heap} {K:AV→Heap→Prop} (h:W55 v0 v1 v2 H K):CallT Try.prog 55 [v0,v1,v2] H K:=
  CallT.of_wp (D:=D55) tab_ok mixed Try.func55 (c:=bodyOf Try.f55) (by kernel_rfl) rfl (by kernel_rfl) (rs:=#[.tmp 6,.tmp 7,.tmp 8]) rfl (by decide +kernel) (by kernel_rfl) (W55_wp v0 v1 v2 H K) h
theorem L55_2_rule {K:AV→Heap→Prop} {N1:AV→AV→Heap→Prop} {v10 v13 v15 v16 v17 v20 v77 v78 v79 v83 v84 v85:AV} {H:Heap} {σ:Type} (s0:σ) (f20:σ→AV) (f85:σ→AV) (TH:σ→Heap) (pre:σ→Prop) (μ:σ→Nat)
    (h0:pre s0∧AV.wk v20 (f20 s0)∧AV.wk v85 (f85 s0)∧Heap.le (TH s0) H)
    (round:∀s,pre s→B55_2 K N1 (fun w20 w85 H'=>∃s',pre s'∧μ s' < μ s∧AV.wk w20 (f20 s')∧AV.wk w85 (f85 s')∧Heap.le (TH s') H') v10 v13 v15 v16 v17 (f20 s) v77 v78 v79 v83 v84 (f85 s) (TH s)) :
    L55_2 K N1 v10 v13 v15 v16 v17 v20 v77 v78 v79 v83 v84 v85 H:=by
  unfold L55_2
  exact LoopV.mk s0 (fun s=>[f20 s,f85 s]) TH pre μ (fun _=>rfl) (Eq.mp (by kernel_rfl) h0) (fun s hs=>Eq.mp (by kernel_rfl) (round s hs))
theorem L55_1_rule {K:AV→Heap→Prop} {v10 v13 v15 v16 v17 v77 v78 v79:AV} {H:Heap} {σ:Type} (s0:σ) (f17:σ→AV) (f79:σ→AV) (TH:σ→Heap) (pre:σ→Prop) (μ:σ→Nat)
    (h0:pre s0∧AV.wk v17 (f17 s0)∧AV.wk v79 (f79 s0)∧Heap.le (TH s0) H)
    (round:∀s,pre s→B55_1 K (fun w17 w79 H'=>∃s',pre s'∧μ s' < μ s∧AV.wk w17 (f17 s')∧AV.wk w79 (f79 s')∧Heap.le (TH s') H') v10 v13 v15 v16 (f17 s) v77 v78 (f79 s) (TH s)) :
    L55_1 K v10 v13 v15 v16 v17 v77 v78 v79 H:=by
  unfold L55_1
  exact LoopV.mk s0 (fun s=>[f17 s,f79 s]) TH pre μ (fun _=>rfl) (Eq.mp (by kernel_rfl) h0) (fun s hs=>Eq.mp (by kernel_rfl) (round s hs))
theorem L55_0_rule {K:AV→Heap→Prop} {v0 v1 v2 v9 v10 v32 v33 v34:AV} {H:Heap} {σ:Type} (s0:σ) (f10:σ→AV) (f34:σ→AV) (TH:σ→Heap) (pre:σ→Prop) (μ:σ→Nat)
    (h0:pre s0∧AV.wk v10 (f10 s0)∧AV.wk v34 (f34 s0)∧Heap.le (TH s0) H)
    (round:∀s,pre s→B55_0 K (fun w10 w34 H'=>∃s',pre s'∧μ s' < μ s∧AV.wk w10 (f10 s')∧AV.wk w34 (f34 s')∧Heap.le (TH s') H') v0 v1 v2 v9 (f10 s) v32 v33 (f34 s) (TH s)) :
    L55_0 K v0 v1 v2 v9 v10 v32 v33 v34 H:=by
  unfold L55_0
  exact LoopV.mk s0 (fun s=>[f10 s,f34 s]) TH pre μ (fun _=>rfl) (Eq.mp (by kernel_rfl) h0) (fun s hs=>Eq.mp (by kernel_rfl) (round s hs))
def D56:Info:=⟨30,fun i=>if i=5 then ([[],[],[1],[],[],[4],[3,4,5],[3,4,5,6],[],[8],[3,4,5,6,7,8,9],[0,1,2,3,4,5,6,7,8,9,10],[0,1,2,3,4,5,6,7,8,9,10,11]],[(0,[]),(1,[]),(2,[]),(3,[]),(4,[]),(5,[]),(6,[]),(7,[]),(8,[]),(9,[]),(10,[2]),(11,[]),(12,[])]) else ([],[]),fun i=>if i=3 then ([3,10,11],[12]) else ([],[])⟩
def L56_0 (K:AV→Heap→Prop) (v3:AV) (v10:AV) (v11:AV) (v12:AV) (H:Heap):Prop:=LoopV (wpC Try.prog tab D56 (cAt [1,1,0,1,0,0] (bodyOf Try.f56))) [3,10,11] (PostF.block 0 (PostF.thenA (wpC Try.prog tab D56 (cAt [1,1,1] (bodyOf Try.f56))) (retF tab [.tmp 2] K))) [12] [AV.any,AV.any,AV.any,v3,AV.any,AV.any,AV.any,AV.any,AV.any,AV.any,v10,v11,v12,AV.any,AV.any,AV.any,AV.any,AV.any,AV.any,AV.any,AV.any,AV.any,AV.any,AV.any,AV.any,AV.any,AV.any,AV.any,AV.any,AV.any] H
def B56_0 (K:AV→Heap→Prop) (N1:AV→Heap→Prop) (v3:AV) (v10:AV) (v11:AV) (v12:AV) (H:Heap):Prop:=
 binV tab .lss 3 v12 v11 fun v13=>
 condV v13 (indexAddrV tab 25 v10 v12 fun v14=>
 loadV tab 46 v14 H fun v15=>
 allocV tab 46 H fun v5 H3=>
 storeV tab 46 v5 v15 H3 fun H4=>
 fieldAddrV tab 46 v5 0 fun v17=>
 loadV tab 3 v17 H4 fun v18=>
 fieldAddrV tab 46 v5 0 fun v20=>
 loadV tab 3 v20 H4 fun v21=>
 indexAddrV tab 26 v3 v21 fun v22=>
 loadV tab 24 v22 H4 fun v23=>
 fieldAddrV tab 46 v5 2 fun v24=>
 loadV tab 3 v24 H4 fun v25=>
 CallT Try.prog 52 [v23,v25] H4 fun v26 H5=>
 (loadV tab 3 v17 H5 fun v9018=>
 v18=v9018)∧
 indexAddrV tab 26 v3 v18 fun v27=>
 storeV tab 24 v27 v26 H5 fun H6=>
 binV tab .add 3 v12 (AV.p (.int .i64 1)) fun v28=>
 N1 v28 H6)
 (K v3 H)
def W56 (v0:AV) (H:Heap) (K:AV→Heap→Prop):Prop:=
 boxV v0 H fun v1 H1=>
 fieldAddrV tab 28 v1 0 fun v6=>
 loadV tab 3 v6 H1 fun v7=>
 makeSliceV tab 26 v7 v7 H1 fun v8 H2=>
 fieldAddrV tab 28 v1 2 fun v9=>
 loadV tab 25 v9 H2 fun v10=>
 lenV tab 25 v10 fun v11=>
 L56_0 K v8 v10 v11 (AV.p (.int .i64 0)) H2
theorem W56_wp (v0:AV) (H:Heap) (K:AV→Heap→Prop):wpC Try.prog tab D56 (bodyOf Try.f56) (retF tab [.tmp 2] K) (nthA [v0]) H=W56 v0 H K:=by kernel_rfl
theorem W56_ok {v0:AV} {H:Heap} {K:AV→Heap→Prop} (h:W56 v0 H K):CallT Try.prog 56 [v0] H K:=
  CallT.of_wp (D:=D56) tab_ok mixed Try.func56 (c:=bodyOf Try.f56) (by kernel_rfl) rfl (by kernel_rfl) (rs:=#[.tmp 2]) rfl (by decide +kernel) (by kernel_rfl) (W56_wp v0 H K) h
theorem L56_0_rule {K:AV→Heap→Prop} {v3 v10 v11 v12:AV} {H:Heap} {σ:Type} (s0:σ) (f12:σ→AV) (TH:σ→Heap) (pre:σ→Prop) (μ:σ→Nat)
    (h0:pre s0∧AV.wk v12 (f12 s0)∧Heap.le (TH s0) H)
    (round:∀s,pre s→B56_0 K (fun w12 H'=>∃s',pre s'∧μ s' < μ s∧AV.wk w12 (f12 s')∧Heap.le (TH s') H') v3 v10 v11 (f12 s) (TH s)) :
    L56_0 K v3 v10 v11 v12 H:=by
  unfold L56_0
  exact LoopV.mk s0 (fun s=>[f12 s]) TH pre μ (fun _=>rfl) (Eq.mp (by kernel_rfl) h0) (fun s hs=>Eq.mp (by kernel_rfl) (round s hs))
def D57:Info:=⟨29,fun i=>([],[]),fun i=>if i=2 then ([1,2,10,11],[12]) else ([],[])⟩
def L57_0 (K:AV→Heap→Prop) (v1:AV) (v2:AV) (v10:AV) (v11:AV) (v12:AV) (H:Heap):Prop:=LoopV (wpC Try.prog tab D57 (cAt [1,0,1,0,0] (bodyOf Try.f57))) [1,2,10,11] (PostF.block 0 (PostF.thenA (wpC Try.prog tab D57 (cAt [1,1] (bodyOf Try.f57))) (retF tab [.tmp 6] K))) [12] [AV.any,v1,v2,AV.any,AV.any,AV.any,AV.any,AV.any,AV.any,AV.any,v10,v11,v12,AV.any,AV.any,AV.any,AV.any,AV.any,AV.any,AV.any,AV.any,AV.any,AV.any,AV.any,AV.any,AV.any,AV.any,AV.any,AV.any] H
def B57_0 (K:AV→Heap→Prop) (N1:AV→Heap→Prop) (v1:AV) (v2:AV) (v10:AV) (v11:AV) (v12:AV) (H:Heap):Prop:=
 binV tab .lss 3 v12 v11 fun v13=>
 condV v13 (indexAddrV tab 25 v10 v12 fun v14=>
 loadV tab 46 v14 H fun v15=>
 allocV tab 46 H fun v8 H2=>
 storeV tab 46 v8 v15 H2 fun H3=>
 fieldAddrV tab 46 v8 0 fun v16=>
 loadV tab 3 v16 H3 fun v17=>
 binV tab .eql 3 v17 v1 fun v19=>
 grdV v19 true (fieldAddrV tab 46 v8 2 fun v21=>
 loadV tab 3 v21 H3 fun v22=>
 binV tab .eql 3 v22 v2 fun v24=>
 condV v24 (fieldAddrV tab 46 v8 1 fun v26=>
 loadV tab 3 v26 H3 fun v27=>
 K v27 H3)
 (binV tab .add 3 v12 (AV.p (.int .i64 1)) fun v28=>
 N1 v28 H3))
 (binV tab .add 3 v12 (AV.p (.int .i64 1)) fun v28=>
 N1 v28 H3))
 (K (AV.p (.int .i64 0)) H)
def W57 (v0:AV) (v1:AV) (v2:AV) (H:Heap) (K:AV→Heap→Prop):Prop:=
 boxV v0 H fun v3 H1=>
 fieldAddrV tab 28 v3 2 fun v9=>
 loadV tab 25 v9 H1 fun v10=>
 lenV tab 25 v10 fun v11=>
 L57_0 K v1 v2 v10 v11 (AV.p (.int .i64 0)) H1
theorem W57_wp (v0:AV) (v1:AV) (v2:AV) (H:Heap) (K:AV→Heap→Prop):wpC Try.prog tab D57 (bodyOf Try.f57) (retF tab [.tmp 6] K) (nthA [v0,v1,v2]) H=W57 v0 v1 v2 H K:=by kernel_rfl
theorem W57_ok {v0 v1 v2:AV} {H:Heap} {K:AV→Heap→Prop} (h:W57 v0 v1 v2 H K):CallT Try.prog 57 [v0,v1,v2] H K:=
  CallT.of_wp (D:=D57) tab_ok mixed Try.func57 (c:=bodyOf Try.f57) (by kernel_rfl) rfl (by kernel_rfl) (rs:=#[.tmp 6]) rfl (by decide +kernel) (by kernel_rfl) (W57_wp v0 v1 v2 H K) h
theorem L57_0_rule {K:AV→Heap→Prop} {v1 v2 v10 v11 v12:AV} {H:Heap} {σ:Type} (s0:σ) (f12:σ→AV) (TH:σ→Heap) (pre:σ→Prop) (μ:σ→Nat)
    (h0:pre s0∧AV.wk v12 (f12 s0)∧Heap.le (TH s0) H)
    (round:∀s,pre s→B57_0 K (fun w12 H'=>∃s',pre s'∧μ s' < μ s∧AV.wk w12 (f12 s')∧Heap.le (TH s') H') v1 v2 v10 v11 (f12 s) (TH s)) :
    L57_0 K v1 v2 v10 v11 v12 H:=by
  unfold L57_0
  exact LoopV.mk s0 (fun s=>[f12 s]) TH pre μ (fun _=>rfl) (Eq.mp (by kernel_rfl) h0) (fun s hs=>Eq.mp (by kernel_rfl) (round s hs))
def D58:Info:=⟨9,fun i=>([],[]),fun i=>([],[])⟩
def W58 (v0:AV) (H:Heap) (K:AV→Heap→Prop):Prop:=
 boxV v0 H fun v1 H1=>
 allocV tab 35 H1 fun v2 H2=>
 loadV tab 35 v1 H2 fun v4=>
 CallT Try.prog 11 [v4] H2 fun v5 H3=>
 unV .not v5 fun v6=>
 condV v6 (buildV tab 35 [] fun v7=>
 storeV tab 35 v2 v7 H3 fun H4=>
 loadV tab 35 v2 H4 fun r0=>
 K (.tup [r0,(AV.p (.bool false))]) H4)
 (loadV tab 35 v1 H3 fun v8=>
 storeV tab 35 v2 v8 H3 fun H5=>
 loadV tab 35 v2 H5 fun r0=>
 K (.tup [r0,(AV.p (.bool true))]) H5)
theorem W58_wp (v0:AV) (H:Heap) (K:AV→Heap→Prop):wpC Try.prog tab D58 (bodyOf Try.f58) (retF tab [.cell 2 35,.tmp 3] K) (nthA [v0]) H=W58 v0 H K:=by kernel_rfl
theorem W58_ok {v0:AV} {H:Heap} {K:AV→Heap→Prop} (h:W58 v0 H K):CallT Try.prog 58 [v0] H K:=
  CallT.of_wp (D:=D58) tab_ok mixed Try.func58 (c:=bodyOf Try.f58) (by kernel_rfl) rfl (by kernel_rfl) (rs:=#[.cell 2 35,.tmp 3]) rfl (by decide +kernel) (by kernel_rfl) (W58_wp v0 H K) h
def D59:Info:=⟨6,fun i=>([],[]),fun i=>([],[])⟩
def W59 (v0:AV) (H:Heap) (K:AV→Heap→Prop):Prop:=
 CallT Try.prog 76 [v0,(.fn 77 [])] H fun v4 H1=>
 unV .not v4 fun v5=>
 K v5 H1
theorem W59_wp (v0:AV) (H:Heap) (K:AV→Heap→Prop):wpC Try.prog tab D59 (bodyOf Try.f59) (retF tab [.tmp 2] K) (nthA [v0]) H=W59 v0 H K:=by kernel_rfl
theorem W59_ok {v0:AV} {H:Heap} {K:AV→Heap→Prop} (h:W59 v0 H K):CallT Try.prog 59 [v0] H K:=
  CallT.of_wp (D:=D59) tab_ok mixed Try.func59 (c:=bodyOf Try.f59) (by kernel_rfl) rfl (by kernel_rfl) (rs:=#[.tmp 2]) rfl (by decide +kernel) (by kernel_rfl) (W59_wp v0 H K) h
end Go.Proofs.Ytohkciilfkhomaa
