/- Texts laid together: W1 W2 W3 W4. -/
import Derived.Test.YtolffbcnbcjeaaaGreatPkc3
import Derived.KernelRfl
set_option linter.unusedVariables false
set_option linter.unusedSimpArgs false
open Nat renaming reduceAdd→ν1,reduceLeDiff→ν2,reduceLT→ν3,reduceMul→ν4,reduceSub→ν5
open Int renaming reduceToNat→ι1,reduceSub→ι2,reduceAdd→ι3,reduceNeg→ι4
open Array renaming toList→ι5
open Ne renaming symm→ν6
open List renaming forall_mem_cons→ν7
namespace Go.Proofs.YtolffbcnbcjeaaaGreat
open Go Go.Sep
attribute [local irreducible] wpC headF
def D26:Info:=⟨12,fun i=>([],[]),fun i=>([],[])⟩
def W26 (v0:AV) (v1:AV) (H:Heap) (K:AV→Heap→Prop):Prop:=
 lenV tab 22 v0 fun v7=>
 binV tab .sub 3 v1 v7 fun v8=>
 binV tab .lss 3 v8 (AV.p (.int .i64 0)) fun v10=>
 condV v10 (K (AV.p (.int .i64 (-1))) H)
 (K v8 H)
theorem W26_wp (v0:AV) (v1:AV) (H:Heap) (K:AV→Heap→Prop):wpC Tryz.prog tab D26 (bodyOf Tryz.f26) (retF tab [.tmp 4] K) (nthA [v0,v1]) H=W26 v0 v1 H K:=by kernel_rfl
theorem W26_ok {v0 v1:AV} {H:Heap} {K:AV→Heap→Prop} (h:W26 v0 v1 H K):CallT Tryz.prog 26 [v0,v1] H K:=
  CallT.of_wp (D:=D26) tab_ok mixed Tryz.func26 (c:=bodyOf Tryz.f26) (by kernel_rfl) rfl (by kernel_rfl) (rs:=#[.tmp 4]) rfl (by decide +kernel) (by kernel_rfl) (W26_wp v0 v1 H K) h
def D27:Info:=⟨12,fun i=>([],[]),fun i=>([],[])⟩
def W27 (v0:AV) (v1:AV) (H:Heap) (K:AV→Heap→Prop):Prop:=
 lenV tab 23 v0 fun v7=>
 binV tab .sub 3 v1 v7 fun v8=>
 binV tab .lss 3 v8 (AV.p (.int .i64 0)) fun v10=>
 condV v10 (K (AV.p (.int .i64 (-1))) H)
 (K v8 H)
theorem W27_wp (v0:AV) (v1:AV) (H:Heap) (K:AV→Heap→Prop):wpC Tryz.prog tab D27 (bodyOf Tryz.f27) (retF tab [.tmp 4] K) (nthA [v0,v1]) H=W27 v0 v1 H K:=by kernel_rfl
theorem W27_ok {v0 v1:AV} {H:Heap} {K:AV→Heap→Prop} (h:W27 v0 v1 H K):CallT Tryz.prog 27 [v0,v1] H K:=
  CallT.of_wp (D:=D27) tab_ok mixed Tryz.func27 (c:=bodyOf Tryz.f27) (by kernel_rfl) rfl (by kernel_rfl) (rs:=#[.tmp 4]) rfl (by decide +kernel) (by kernel_rfl) (W27_wp v0 v1 H K) h
def D28:Info:=⟨27,fun i=>([],[]),fun i=>if i=5 then ([0],[1,5]) else ([],[])⟩
def L28_0 (K:AV→Heap→Prop) (v0:AV) (v1:AV) (v5:AV) (H:Heap):Prop:=LoopV (wpC Tryz.prog tab D28 (cAt [1,1,1,0,1,0,0] (bodyOf Tryz.f28))) [0] (PostF.block 0 (PostF.thenA (wpC Tryz.prog tab D28 (cAt [1,1,1,1] (bodyOf Tryz.f28))) (retF tab [.tmp 4] K))) [1,5] [v0,v1,AV.any,AV.any,AV.any,v5,AV.any,AV.any,AV.any,AV.any,AV.any,AV.any,AV.any,AV.any,AV.any,AV.any,AV.any,AV.any,AV.any,AV.any,AV.any,AV.any,AV.any,AV.any,AV.any,AV.any,AV.any] H
def B28_0 (K:AV→Heap→Prop) (N1:AV→AV→Heap→Prop) (v0:AV) (v1:AV) (v5:AV) (H:Heap):Prop:=
 lenV tab 24 v0 fun v14=>
 binV tab .lss 3 v5 v14 fun v15=>
 condV v15 (indexAddrV tab 24 v0 v5 fun v20=>
 loadV tab 22 v20 H fun v21=>
 CallT Tryz.prog 26 [v21,v1] H fun v23 H1=>
 binV tab .lss 3 v23 (AV.p (.int .i64 0)) fun v25=>
 condV v25 (K (AV.p (.int .i64 (-1))) H1)
 (binV tab .add 3 v5 (AV.p (.int .i64 1)) fun v17=>
 N1 v23 v17 H1))
 (K v1 H)
def W28 (v0:AV) (v1:AV) (H:Heap) (K:AV→Heap→Prop):Prop:=
 lenV tab 24 v0 fun v8=>
 binV tab .sub 3 v1 v8 fun v9=>
 binV tab .lss 3 v9 (AV.p (.int .i64 0)) fun v11=>
 condV v11 (K (AV.p (.int .i64 (-1))) H)
 (L28_0 K v0 v9 (AV.p (.int .i64 0)) H)
theorem W28_wp (v0:AV) (v1:AV) (H:Heap) (K:AV→Heap→Prop):wpC Tryz.prog tab D28 (bodyOf Tryz.f28) (retF tab [.tmp 4] K) (nthA [v0,v1]) H=W28 v0 v1 H K:=by kernel_rfl
theorem W28_ok {v0 v1:AV} {H:Heap} {K:AV→Heap→Prop} (h:W28 v0 v1 H K):CallT Tryz.prog 28 [v0,v1] H K:=
  CallT.of_wp (D:=D28) tab_ok mixed Tryz.func28 (c:=bodyOf Tryz.f28) (by kernel_rfl) rfl (by kernel_rfl) (rs:=#[.tmp 4]) rfl (by decide +kernel) (by kernel_rfl) (W28_wp v0 v1 H K) h
theorem L28_0_rule {K:AV→Heap→Prop} {v0 v1 v5:AV} {H:Heap} {σ:Type} (s0:σ) (f1:σ→AV) (f5:σ→AV) (TH:σ→Heap) (pre:σ→Prop) (μ:σ→Nat)
    (h0:pre s0∧AV.wk v1 (f1 s0)∧AV.wk v5 (f5 s0)∧Heap.le (TH s0) H)
    (round:∀s,pre s→B28_0 K (fun w1 w5 H'=>∃s',pre s'∧μ s' < μ s∧AV.wk w1 (f1 s')∧AV.wk w5 (f5 s')∧Heap.le (TH s') H') v0 (f1 s) (f5 s) (TH s)) :
    L28_0 K v0 v1 v5 H:=by
  unfold L28_0
  exact LoopV.mk s0 (fun s=>[f1 s,f5 s]) TH pre μ (fun _=>rfl) (Eq.mp (by kernel_rfl) h0) (fun s hs=>Eq.mp (by kernel_rfl) (round s hs))
def D29:Info:=⟨77,fun i=>if i=6 then ([[],[0],[],[2],[2,3],[0,1,2,3,4],[0,1,2,3,4,5],[0,1,2,3,4,5,6],[0,1,2,3,4,5,6,7],[0,1,2,3,4,5,6,7,8],[0,1,2,3,4,5,6,7,8,9],[0,1,2,3,4,5,6,7,8,9,10],[0,1,2,3,4,5,6,7,8,9,10,11],[0,1,2,3,4,5,6,7,8,9,10,11,12],[0,1,2,3,4,5,6,7,8,9,10,11,12,13],[0,1,2,3,4,5,6,7,8,9,10,11,12,13,14],[0,1,2,3,4,5,6,7,8,9,10,11,12,13],[0,1,2,3,4,5,6,7,8,9,10,11,12,13,16],[0,1,2,3,4,5,6,7,8,9,10,11,12,13,16,17],[0,1,2,3,4,5,6,7,8,9,10,11,12,13,14,15,16,17,18],[0,1,2,3,4,5,6,7,8,9,10,11,12,13,14,15,16,17,18,19],[0,1,2,3,4,5,6,7,8,9,10,11,12,13,14,15,16,17,18,19,20],[0,1,2,3,4,5,6,7,8,9,10,11,12,13,14,15,16,17,18,19,20,21],[0,1,2,3,4,5,6,7,8,9,10,11,12,13,14,15,16,17,18,19,20,21,22],[0,1,2,3,4,5,6,7,8,9,10,11,12,13,14,15,16,17,18,19,20,21,22,23],[0,1,2,3,4,5,6,7,8,9,10,11,12,13,14,15,16,17,18,19,20,21,22,23,24],[0,1,2,3,4,5,6,7,8,9,10,11,12,13,14,15,16,17,18,19,20,21,22,23,24,25],[0,1,2,3,4,5,6,7,8,9,10,11,12,13,14,15,16,17,18,19,20,21,22,23,24,25,26],[0,1,2,3,4,5,6,7,8,9,10,11,12,13,14,15,16,17,18,19,20,21,22,23,24,25],[0,1,2,3,4,5,6,7,8,9,10,11,12,13,14,15,16,17,18,19,20,21,22,23,24,25,28],[0,1,2,3,4,5,6,7,8,9,10,11,12,13,14,15,16,17,18,19,20,21,22,23,24,25,26,27,28,29],[0,1,2,3,4,5,6,7,8,9,10,11,12,13,14,15,16,17,18,19,20,21,22,23,24,25,26,27,28,29,30],[0,1,2,3,4,5,6,7,8,9,10,11,12,13,14,15,16,17,18,19,20,21,22,23,24,25],[0,1,2,3,4,5,6,7,8,9,10,11,12,13,14,15,16,17,18,19,20,21,22,23,24,25,26,27,28,29,30,31,32],[0,1,2,3,4,5,6,7,8,9,10,11,12,13,14,15,16,17,18,19,20,21,22,23,24,25,26,27,28,29,30,31,32,33],[0,1,2,3,4,5,6,7,8,9,10,11,12,13,14,15,16,17,18,19,20,21,22,23,24,25,26,27,28,29,30,31,32,33,34],[0,1,2,3,4,5,6,7,8,9,10,11,12,13,14,15,16,17,18,19,20,21,22,23,24,25,26,27,28,29,30,31,32,33,34,35]],[(0,[]),(1,[]),(2,[]),(3,[]),(4,[]),(5,[]),(6,[]),(7,[]),(8,[]),(9,[]),(10,[]),(11,[]),(12,[]),(13,[]),(14,[]),(15,[]),(16,[]),(17,[]),(18,[]),(19,[]),(20,[]),(21,[]),(22,[]),(23,[]),(24,[]),(25,[]),(26,[]),(27,[]),(28,[]),(29,[]),(30,[]),(31,[]),(32,[]),(33,[]),(34,[]),(35,[]),(36,[])]) else ([],[]),fun i=>if i=4 then ([1,32,33],[34]) else ([],[])⟩
def L29_0 (K:AV→Heap→Prop) (v1:AV) (v32:AV) (v33:AV) (v34:AV) (H:Heap):Prop:=LoopV (wpC Tryz.prog tab D29 (cAt [1,1,0,1,0,0] (bodyOf Tryz.f29))) [1,32,33] (PostF.block 0 (PostF.thenA (wpC Tryz.prog tab D29 (cAt [1,1,1] (bodyOf Tryz.f29))) (retF tab [.tmp 2] K))) [34] [AV.any,v1,AV.any,AV.any,AV.any,AV.any,AV.any,AV.any,AV.any,AV.any,AV.any,AV.any,AV.any,AV.any,AV.any,AV.any,AV.any,AV.any,AV.any,AV.any,AV.any,AV.any,AV.any,AV.any,AV.any,AV.any,AV.any,AV.any,AV.any,AV.any,AV.any,AV.any,v32,v33,v34,AV.any,AV.any,AV.any,AV.any,AV.any,AV.any,AV.any,AV.any,AV.any,AV.any,AV.any,AV.any,AV.any,AV.any,AV.any,AV.any,AV.any,AV.any,AV.any,AV.any,AV.any,AV.any,AV.any,AV.any,AV.any,AV.any,AV.any,AV.any,AV.any,AV.any,AV.any,AV.any,AV.any,AV.any,AV.any,AV.any,AV.any,AV.any,AV.any,AV.any,AV.any,AV.any] H
def B29_0 (K:AV→Heap→Prop) (N1:AV→Heap→Prop) (v1:AV) (v32:AV) (v33:AV) (v34:AV) (H:Heap):Prop:=
 binV tab .lss 3 v34 v33 fun v35=>
 condV v35 (indexAddrV tab 32 v32 v34 fun v37=>
 loadV tab 84 v37 H fun v38=>
 allocV tab 84 H fun v4 H5=>
 storeV tab 84 v4 v38 H5 fun H6=>
 fieldAddrV tab 84 v4 0 fun v39=>
 loadV tab 3 v39 H6 fun v40=>
 fieldAddrV tab 34 v1 0 fun v41=>
 loadV tab 3 v41 H6 fun v42=>
 binV tab .sub 3 v42 (AV.p (.int .i64 1)) fun v43=>
 CallT Tryz.prog 63 [v40,(AV.p (.int .i64 0)),v43] H6 fun v44 H7=>
 unV .not v44 fun v45=>
 grdV v45 false (fieldAddrV tab 84 v4 1 fun v47=>
 loadV tab 3 v47 H7 fun v48=>
 CallT Tryz.prog 63 [v48,(AV.p (.int .i64 0)),(AV.p (.int .i64 7))] H7 fun v49 H8=>
 unV .not v49 fun v50=>
 grdV v50 false (fieldAddrV tab 84 v4 2 fun v53=>
 loadV tab 3 v53 H8 fun v54=>
 fieldAddrV tab 34 v1 0 fun v55=>
 loadV tab 3 v55 H8 fun v56=>
 binV tab .sub 3 v56 (AV.p (.int .i64 1)) fun v57=>
 CallT Tryz.prog 63 [v54,(AV.p (.int .i64 0)),v57] H8 fun v58 H9=>
 unV .not v58 fun v59=>
 grdV v59 false (binV tab .gtr 3 v34 (AV.p (.int .i64 0)) fun v63=>
 grdV v63 true (fieldAddrV tab 34 v1 2 fun v65=>
 loadV tab 32 v65 H9 fun v66=>
 binV tab .sub 3 v34 (AV.p (.int .i64 1)) fun v68=>
 indexAddrV tab 32 v66 v68 fun v69=>
 loadV tab 84 v69 H9 fun v70=>
 loadV tab 84 v4 H9 fun v71=>
 CallT Tryz.prog 66 [v70,v71] H9 fun v72 H10=>
 unV .not v72 fun v73=>
 condV v73 (K (AV.p (.bool false)) H10)
 (binV tab .add 3 v34 (AV.p (.int .i64 1)) fun v76=>
 N1 v76 H10))
 (binV tab .add 3 v34 (AV.p (.int .i64 1)) fun v76=>
 N1 v76 H9))
 (K (AV.p (.bool false)) H9))
 (K (AV.p (.bool false)) H8))
 (K (AV.p (.bool false)) H7))
 (K (AV.p (.bool true)) H)
def W29 (v0:AV) (H:Heap) (K:AV→Heap→Prop):Prop:=
 boxV v0 H fun v1 H1=>
 fieldAddrV tab 34 v1 0 fun v5=>
 loadV tab 3 v5 H1 fun v6=>
 CallT Tryz.prog 63 [v6,(AV.p (.int .i64 1)),(AV.p (.int .i64 96))] H1 fun v7 H2=>
 unV .not v7 fun v8=>
 grdV v8 false (fieldAddrV tab 34 v1 1 fun v10=>
 loadV tab 22 v10 H2 fun v11=>
 fieldAddrV tab 34 v1 0 fun v12=>
 loadV tab 3 v12 H2 fun v13=>
 CallT Tryz.prog 64 [v11,v13] H2 fun v14 H3=>
 unV .not v14 fun v15=>
 grdV v15 false (fieldAddrV tab 34 v1 2 fun v18=>
 loadV tab 32 v18 H3 fun v19=>
 lenV tab 32 v19 fun v20=>
 binV tab .gtr 3 v20 (AV.p (.int .i64 2400)) fun v21=>
 grdV v21 false (fieldAddrV tab 34 v1 3 fun v24=>
 loadV tab 24 v24 H3 fun v25=>
 fieldAddrV tab 34 v1 0 fun v26=>
 loadV tab 3 v26 H3 fun v27=>
 CallT Tryz.prog 65 [v25,v27] H3 fun v28 H4=>
 unV .not v28 fun v29=>
 condV v29 (K (AV.p (.bool false)) H4)
 (fieldAddrV tab 34 v1 2 fun v31=>
 loadV tab 32 v31 H4 fun v32=>
 lenV tab 32 v32 fun v33=>
 L29_0 K v1 v32 v33 (AV.p (.int .i64 0)) H4))
 (K (AV.p (.bool false)) H3))
 (K (AV.p (.bool false)) H3))
 (K (AV.p (.bool false)) H2)
theorem W29_wp (v0:AV) (H:Heap) (K:AV→Heap→Prop):wpC Tryz.prog tab D29 (bodyOf Tryz.f29) (retF tab [.tmp 2] K) (nthA [v0]) H=W29 v0 H K:=by kernel_rfl
theorem W29_ok {v0:AV} {H:Heap} {K:AV→Heap→Prop} (h:W29 v0 H K):CallT Tryz.prog 29 [v0] H K:=
  CallT.of_wp (D:=D29) tab_ok mixed Tryz.func29 (c:=bodyOf Tryz.f29) (by kernel_rfl) rfl (by kernel_rfl) (rs:=#[.tmp 2]) rfl (by decide +kernel) (by kernel_rfl) (W29_wp v0 H K) h
theorem L29_0_rule {K:AV→Heap→Prop} {v1 v32 v33 v34:AV} {H:Heap} {σ:Type} (s0:σ) (f34:σ→AV) (TH:σ→Heap) (pre:σ→Prop) (μ:σ→Nat)
    (h0:pre s0∧AV.wk v34 (f34 s0)∧Heap.le (TH s0) H)
    (round:∀s,pre s→B29_0 K (fun w34 H'=>∃s',pre s'∧μ s' < μ s∧AV.wk w34 (f34 s')∧Heap.le (TH s') H') v1 v32 v33 (f34 s) (TH s)) :
    L29_0 K v1 v32 v33 v34 H:=by
  unfold L29_0
  exact LoopV.mk s0 (fun s=>[f34 s]) TH pre μ (fun _=>rfl) (Eq.mp (by kernel_rfl) h0) (fun s hs=>Eq.mp (by kernel_rfl) (round s hs))
def D30:Info:=⟨147,fun i=>if i=6 then ([[],[],[0,1],[0,1,2],[0,1,2,3],[0,1,2,3,4],[0,1,2,3,4,5],[0,1,2,3,4,5,6],[0,1,2,3,4,5,6,7],[0,1,2,3,4,5,6,7,8],[0,1,2,3,4,5,6,7,8],[0,1,2,3,4,5,6,7,8,9,10],[0,1,2,3,4,5,6,7,8,9,10,11],[0,1,2,3,4,5,6,7,8],[0,1,2,3,4,5,6,7,8],[0,1,2,3,4,5,6,7,8,13,14],[0,1,2,3,4,5,6,7,8,13,14,15],[0,1,2,3,4,5,6,7,8,9,10,11,12,13,14,15,16],[0,1,2,3,4,5,6,7,8,9,10,11,12,13,14,15,16,17],[0,1,2,3,4,5,6,7,8,9,10,11,12,13,14,15,16,17,18]],[(0,[]),(1,[]),(2,[]),(3,[]),(4,[]),(5,[]),(6,[]),(7,[]),(8,[]),(9,[]),(10,[]),(11,[]),(12,[]),(13,[]),(14,[]),(15,[]),(16,[]),(17,[]),(18,[]),(19,[])]) else if i=22 then ([[],[],[0,1],[0,1,2],[],[],[4,5],[4,5,6],[0,1,2,3,4,5,6,7]],[(0,[]),(1,[]),(2,[]),(3,[]),(4,[]),(5,[]),(6,[]),(7,[]),(8,[])]) else if i=29 then ([[],[],[1],[1,2],[0,1,2,3],[],[],[],[7],[7,8],[6,7,8,9],[5,6,7,8,9,10],[0,1,2,3,4,5,6,7,8,9,10,11],[0,1,2,3,4,5,6,7,8,9,10,11,12],[0,1,2,3,4,5,6,7,8,9,10,11,12,13]],[(0,[]),(1,[]),(2,[]),(3,[]),(4,[]),(5,[]),(6,[]),(7,[]),(8,[]),(9,[]),(10,[]),(11,[]),(12,[]),(13,[]),(14,[])]) else ([],[]),fun i=>if i=4 then ([0,1,2,9,32,33],[10,34]) else if i=16 then ([10,13,15,16,77,78],[17,79]) else if i=20 then ([10,13,15,16,17,77,78,79,83,84],[20,85]) else ([],[])⟩
def L30_0 (K:AV→Heap→Prop) (v0:AV) (v1:AV) (v2:AV) (v9:AV) (v10:AV) (v32:AV) (v33:AV) (v34:AV) (H:Heap):Prop:=LoopV (wpC Tryz.prog tab D30 (cAt [1,1,1,0,1,0,0] (bodyOf Tryz.f30))) [0,1,2,9,32,33] (PostF.block 0 (PostF.thenA (wpC Tryz.prog tab D30 (cAt [1,1,1,1] (bodyOf Tryz.f30))) (retF tab [.tmp 6,.tmp 7,.tmp 8] K))) [10,34] [v0,v1,v2,AV.any,AV.any,AV.any,AV.any,AV.any,AV.any,v9,v10,AV.any,AV.any,AV.any,AV.any,AV.any,AV.any,AV.any,AV.any,AV.any,AV.any,AV.any,AV.any,AV.any,AV.any,AV.any,AV.any,AV.any,AV.any,AV.any,AV.any,AV.any,v32,v33,v34,AV.any,AV.any,AV.any,AV.any,AV.any,AV.any,AV.any,AV.any,AV.any,AV.any,AV.any,AV.any,AV.any,AV.any,AV.any,AV.any,AV.any,AV.any,AV.any,AV.any,AV.any,AV.any,AV.any,AV.any,AV.any,AV.any,AV.any,AV.any,AV.any,AV.any,AV.any,AV.any,AV.any,AV.any,AV.any,AV.any,AV.any,AV.any,AV.any,AV.any,AV.any,AV.any,AV.any,AV.any,AV.any,AV.any,AV.any,AV.any,AV.any,AV.any,AV.any,AV.any,AV.any,AV.any,AV.any,AV.any,AV.any,AV.any,AV.any,AV.any,AV.any,AV.any,AV.any,AV.any,AV.any,AV.any,AV.any,AV.any,AV.any,AV.any,AV.any,AV.any,AV.any,AV.any,AV.any,AV.any,AV.any,AV.any,AV.any,AV.any,AV.any,AV.any,AV.any,AV.any,AV.any,AV.any,AV.any,AV.any,AV.any,AV.any,AV.any,AV.any,AV.any,AV.any,AV.any,AV.any,AV.any,AV.any,AV.any,AV.any,AV.any,AV.any,AV.any,AV.any,AV.any,AV.any,AV.any,AV.any,AV.any,AV.any,AV.any,AV.any] H
def L30_1 (K:AV→Heap→Prop) (v10:AV) (v13:AV) (v15:AV) (v16:AV) (v17:AV) (v77:AV) (v78:AV) (v79:AV) (H:Heap):Prop:=LoopV (wpC Tryz.prog tab D30 (cAt [1,1,1,1,1,1,1,1,1,0,1,0,0] (bodyOf Tryz.f30))) [10,13,15,16,77,78] (PostF.block 2 (PostF.thenA (wpC Tryz.prog tab D30 (cAt [1,1,1,1,1,1,1,1,1,1] (bodyOf Tryz.f30))) (retF tab [.tmp 6,.tmp 7,.tmp 8] K))) [17,79] [AV.any,AV.any,AV.any,AV.any,AV.any,AV.any,AV.any,AV.any,AV.any,AV.any,v10,AV.any,AV.any,v13,AV.any,v15,v16,v17,AV.any,AV.any,AV.any,AV.any,AV.any,AV.any,AV.any,AV.any,AV.any,AV.any,AV.any,AV.any,AV.any,AV.any,AV.any,AV.any,AV.any,AV.any,AV.any,AV.any,AV.any,AV.any,AV.any,AV.any,AV.any,AV.any,AV.any,AV.any,AV.any,AV.any,AV.any,AV.any,AV.any,AV.any,AV.any,AV.any,AV.any,AV.any,AV.any,AV.any,AV.any,AV.any,AV.any,AV.any,AV.any,AV.any,AV.any,AV.any,AV.any,AV.any,AV.any,AV.any,AV.any,AV.any,AV.any,AV.any,AV.any,AV.any,AV.any,v77,v78,v79,AV.any,AV.any,AV.any,AV.any,AV.any,AV.any,AV.any,AV.any,AV.any,AV.any,AV.any,AV.any,AV.any,AV.any,AV.any,AV.any,AV.any,AV.any,AV.any,AV.any,AV.any,AV.any,AV.any,AV.any,AV.any,AV.any,AV.any,AV.any,AV.any,AV.any,AV.any,AV.any,AV.any,AV.any,AV.any,AV.any,AV.any,AV.any,AV.any,AV.any,AV.any,AV.any,AV.any,AV.any,AV.any,AV.any,AV.any,AV.any,AV.any,AV.any,AV.any,AV.any,AV.any,AV.any,AV.any,AV.any,AV.any,AV.any,AV.any,AV.any,AV.any,AV.any,AV.any,AV.any,AV.any,AV.any,AV.any] H
def L30_2 (K:AV→Heap→Prop) (N1:AV→AV→Heap→Prop) (v10:AV) (v13:AV) (v15:AV) (v16:AV) (v17:AV) (v20:AV) (v77:AV) (v78:AV) (v79:AV) (v83:AV) (v84:AV) (v85:AV) (H:Heap):Prop:=LoopV (wpC Tryz.prog tab D30 (cAt [1,1,1,1,1,1,1,1,1,0,1,0,0,1,1,0,0,1,1,0,1,0,0] (bodyOf Tryz.f30))) [10,13,15,16,17,77,78,79,83,84] (PostF.block 4 (PostF.thenA (wpC Tryz.prog tab D30 (cAt [1,1,1,1,1,1,1,1,1,0,1,0,0,1,1,0,0,1,1,1] (bodyOf Tryz.f30))) (PostF.block 3 (PostF.thenA (wpC Tryz.prog tab D30 (cAt [1,1,1,1,1,1,1,1,1,0,1,0,0,1,1,1] (bodyOf Tryz.f30))) (loopF (PostF.block 2 (PostF.thenA (wpC Tryz.prog tab D30 (cAt [1,1,1,1,1,1,1,1,1,1] (bodyOf Tryz.f30))) (retF tab [.tmp 6,.tmp 7,.tmp 8] K))) (fun e h=>N1 (e 17) (e 79) h)))))) [20,85] [AV.any,AV.any,AV.any,AV.any,AV.any,AV.any,AV.any,AV.any,AV.any,AV.any,v10,AV.any,AV.any,v13,AV.any,v15,v16,v17,AV.any,AV.any,v20,AV.any,AV.any,AV.any,AV.any,AV.any,AV.any,AV.any,AV.any,AV.any,AV.any,AV.any,AV.any,AV.any,AV.any,AV.any,AV.any,AV.any,AV.any,AV.any,AV.any,AV.any,AV.any,AV.any,AV.any,AV.any,AV.any,AV.any,AV.any,AV.any,AV.any,AV.any,AV.any,AV.any,AV.any,AV.any,AV.any,AV.any,AV.any,AV.any,AV.any,AV.any,AV.any,AV.any,AV.any,AV.any,AV.any,AV.any,AV.any,AV.any,AV.any,AV.any,AV.any,AV.any,AV.any,AV.any,AV.any,v77,v78,v79,AV.any,AV.any,AV.any,v83,v84,v85,AV.any,AV.any,AV.any,AV.any,AV.any,AV.any,AV.any,AV.any,AV.any,AV.any,AV.any,AV.any,AV.any,AV.any,AV.any,AV.any,AV.any,AV.any,AV.any,AV.any,AV.any,AV.any,AV.any,AV.any,AV.any,AV.any,AV.any,AV.any,AV.any,AV.any,AV.any,AV.any,AV.any,AV.any,AV.any,AV.any,AV.any,AV.any,AV.any,AV.any,AV.any,AV.any,AV.any,AV.any,AV.any,AV.any,AV.any,AV.any,AV.any,AV.any,AV.any,AV.any,AV.any,AV.any,AV.any,AV.any,AV.any,AV.any,AV.any,AV.any,AV.any] H
def B30_2 (K:AV→Heap→Prop) (N1:AV→AV→Heap→Prop) (N2:AV→AV→Heap→Prop) (v10:AV) (v13:AV) (v15:AV) (v16:AV) (v17:AV) (v20:AV) (v77:AV) (v78:AV) (v79:AV) (v83:AV) (v84:AV) (v85:AV) (H:Heap):Prop:=
 binV tab .lss 3 v85 v84 fun v86=>
 condV v86 (indexAddrV tab 22 v83 v85 fun v87=>
 loadV tab 3 v87 H fun v88=>
 indexAddrV tab 22 v15 v88 fun v91=>
 loadV tab 3 v91 H fun v92=>
 indexAddrV tab 22 v15 v10 fun v95=>
 loadV tab 3 v95 H fun v96=>
 binV tab .eql 3 v92 v96 fun v97=>
 condV v97 (buildSliceV tab 22 1 [(0,v88)] H (wkK fun v100 H8=>
 appendV tab 22 22 v20 v100 H8 (wkK fun v101 H9=>
 binV tab .add 3 v85 (AV.p (.int .i64 1)) fun v102=>
 N2 v101 v102 H9)))
 (binV tab .add 3 v85 (AV.p (.int .i64 1)) fun v102=>
 N2 v20 v102 H))
 (lenV tab 22 v17 fun v107=>
 binV tab .sub 3 v107 (AV.p (.int .i64 1)) fun v108=>
 sliceV tab 22 v17 (some v108) none none fun v109=>
 CallT Tryz.prog 69 [v16,v109,v20] H fun v111 H10=>
 extractV v111 0 fun v112=>
 extractV v111 1 fun v113=>
 sliceV tab 22 v112 (some (AV.p (.int .i64 1))) none none fun v116=>
 appendV tab 22 22 v17 v116 H10 (wkK fun v117 H11=>
 binV tab .add 3 v79 (AV.p (.int .i64 1)) fun v118=>
 N1 v117 v118 H11))
def B30_1 (K:AV→Heap→Prop) (N1:AV→AV→Heap→Prop) (v10:AV) (v13:AV) (v15:AV) (v16:AV) (v17:AV) (v77:AV) (v78:AV) (v79:AV) (H:Heap):Prop:=
 binV tab .lss 3 v79 v78 fun v80=>
 condV v80 (indexAddrV tab 24 v77 v79 fun v81=>
 loadV tab 22 v81 H fun v82=>
 lenV tab 22 v82 fun v84=>
 L30_2 K N1 v10 v13 v15 v16 v17 (AV.p .nil) v77 v78 v79 v82 v84 (AV.p (.int .i64 0)) H)
 (lenV tab 22 v17 fun v124=>
 binV tab .sub 3 v124 (AV.p (.int .i64 1)) fun v125=>
 indexAddrV tab 22 v17 v125 fun v126=>
 loadV tab 3 v126 H fun v127=>
 indexAddrV tab 24 v16 v127 fun v128=>
 loadV tab 22 v128 H fun v129=>
 buildSliceV tab 22 1 [(0,v10)] H (wkK fun v131 H12=>
 CallT Tryz.prog 69 [v16,v129,v131] H12 fun v132 H13=>
 extractV v132 0 fun v133=>
 extractV v132 1 fun v134=>
 lenV tab 22 v13 fun v137=>
 binV tab .sub 3 v137 (AV.p (.int .i64 1)) fun v138=>
 sliceV tab 22 v13 none (some v138) none fun v139=>
 lenV tab 22 v133 fun v143=>
 binV tab .sub 3 v143 (AV.p (.int .i64 1)) fun v144=>
 sliceV tab 22 v133 none (some v144) none fun v145=>
 appendV tab 22 22 v17 v145 H13 (wkK fun v146 H14=>
 K (.tup [v139,v146,(AV.p (.bool true))]) H14)))
def B30_0 (K:AV→Heap→Prop) (N1:AV→AV→Heap→Prop) (v0:AV) (v1:AV) (v2:AV) (v9:AV) (v10:AV) (v32:AV) (v33:AV) (v34:AV) (H:Heap):Prop:=
 binV tab .lss 3 v34 v33 fun v35=>
 condV v35 (indexAddrV tab 22 v32 v34 fun v36=>
 loadV tab 3 v36 H fun v37=>
 indexAddrV tab 22 v9 v37 fun v40=>
 loadV tab 3 v40 H fun v41=>
 binV tab .geq 3 v41 (AV.p (.int .i64 0)) fun v42=>
 grdV v42 true (binV tab .lss 3 v10 (AV.p (.int .i64 0)) fun v45=>
 grdV v45 false (indexAddrV tab 22 v9 v37 fun v49=>
 loadV tab 3 v49 H fun v50=>
 indexAddrV tab 22 v9 v10 fun v53=>
 loadV tab 3 v53 H fun v54=>
 binV tab .lss 3 v50 v54 fun v55=>
 condV v55 (binV tab .add 3 v34 (AV.p (.int .i64 1)) fun v59=>
 N1 v37 v59 H)
 (binV tab .add 3 v34 (AV.p (.int .i64 1)) fun v59=>
 N1 v10 v59 H))
 (binV tab .add 3 v34 (AV.p (.int .i64 1)) fun v59=>
 N1 v37 v59 H))
 (binV tab .add 3 v34 (AV.p (.int .i64 1)) fun v59=>
 N1 v10 v59 H))
 (binV tab .lss 3 v10 (AV.p (.int .i64 0)) fun v61=>
 condV v61 (K (.tup [(AV.p .nil),(AV.p .nil),(AV.p (.bool false))]) H)
 (buildSliceV tab 22 1 [(0,v10)] H (wkK fun v66 H3=>
 CallT Tryz.prog 69 [v0,v1,v66] H3 fun v67 H4=>
 extractV v67 0 fun v68=>
 extractV v67 1 fun v69=>
 CallT Tryz.prog 70 [v0] H4 fun v71 H5=>
 CallT Tryz.prog 71 [v0,v71] H5 fun v74 H6=>
 buildSliceV tab 22 1 [(0,v10)] H6 (wkK fun v76 H7=>
 lenV tab 24 v2 fun v78=>
 L30_1 K v10 v68 v71 v74 v76 v2 v78 (AV.p (.int .i64 0)) H7))))
def W30 (v0:AV) (v1:AV) (v2:AV) (H:Heap) (K:AV→Heap→Prop):Prop:=
 CallT Tryz.prog 67 [v0,v1] H fun v29 H1=>
 CallT Tryz.prog 68 [v0,v2] H1 fun v32 H2=>
 lenV tab 22 v32 fun v33=>
 L30_0 K v0 v1 v2 v29 (AV.p (.int .i64 (-1))) v32 v33 (AV.p (.int .i64 0)) H2
theorem W30_wp (v0:AV) (v1:AV) (v2:AV) (H:Heap) (K:AV→Heap→Prop):wpC Tryz.prog tab D30 (bodyOf Tryz.f30) (retF tab [.tmp 6,.tmp 7,.tmp 8] K) (nthA [v0,v1,v2]) H=W30 v0 v1 v2 H K:=by kernel_rfl
theorem W30_ok {v0 v1 v2:AV} {H:Heap} {K:AV→Heap→Prop} (h:W30 v0 v1 v2 H K):CallT Tryz.prog 30 [v0,v1,v2] H K:=
  CallT.of_wp (D:=D30) tab_ok mixed Tryz.func30 (c:=bodyOf Tryz.f30) (by kernel_rfl) rfl (by kernel_rfl) (rs:=#[.tmp 6,.tmp 7,.tmp 8]) rfl (by decide +kernel) (by kernel_rfl) (W30_wp v0 v1 v2 H K) h
theorem L30_2_rule {K:AV→Heap→Prop} {N1:AV→AV→Heap→Prop} {v10 v13 v15 v16 v17 v20 v77 v78 v79 v83 v84 v85:AV} {H:Heap} {σ:Type} (s0:σ) (f20:σ→AV) (f85:σ→AV) (TH:σ→Heap) (pre:σ→Prop) (μ:σ→Nat)
    (h0:pre s0∧AV.wk v20 (f20 s0)∧AV.wk v85 (f85 s0)∧Heap.le (TH s0) H)
    (round:∀s,pre s→B30_2 K N1 (fun w20 w85 H'=>∃s',pre s'∧μ s' < μ s∧AV.wk w20 (f20 s')∧AV.wk w85 (f85 s')∧Heap.le (TH s') H') v10 v13 v15 v16 v17 (f20 s) v77 v78 v79 v83 v84 (f85 s) (TH s)) :
    L30_2 K N1 v10 v13 v15 v16 v17 v20 v77 v78 v79 v83 v84 v85 H:=by
  unfold L30_2
  exact LoopV.mk s0 (fun s=>[f20 s,f85 s]) TH pre μ (fun _=>rfl) (Eq.mp (by kernel_rfl) h0) (fun s hs=>Eq.mp (by kernel_rfl) (round s hs))
theorem L30_1_rule {K:AV→Heap→Prop} {v10 v13 v15 v16 v17 v77 v78 v79:AV} {H:Heap} {σ:Type} (s0:σ) (f17:σ→AV) (f79:σ→AV) (TH:σ→Heap) (pre:σ→Prop) (μ:σ→Nat)
    (h0:pre s0∧AV.wk v17 (f17 s0)∧AV.wk v79 (f79 s0)∧Heap.le (TH s0) H)
    (round:∀s,pre s→B30_1 K (fun w17 w79 H'=>∃s',pre s'∧μ s' < μ s∧AV.wk w17 (f17 s')∧AV.wk w79 (f79 s')∧Heap.le (TH s') H') v10 v13 v15 v16 (f17 s) v77 v78 (f79 s) (TH s)) :
    L30_1 K v10 v13 v15 v16 v17 v77 v78 v79 H:=by
  unfold L30_1
  exact LoopV.mk s0 (fun s=>[f17 s,f79 s]) TH pre μ (fun _=>rfl) (Eq.mp (by kernel_rfl) h0) (fun s hs=>Eq.mp (by kernel_rfl) (round s hs))
theorem L30_0_rule {K:AV→Heap→Prop} {v0 v1 v2 v9 v10 v32 v33 v34:AV} {H:Heap} {σ:Type} (s0:σ) (f10:σ→AV) (f34:σ→AV) (TH:σ→Heap) (pre:σ→Prop) (μ:σ→Nat)
    (h0:pre s0∧AV.wk v10 (f10 s0)∧AV.wk v34 (f34 s0)∧Heap.le (TH s0) H)
    (round:∀s,pre s→B30_0 K (fun w10 w34 H'=>∃s',pre s'∧μ s' < μ s∧AV.wk w10 (f10 s')∧AV.wk w34 (f34 s')∧Heap.le (TH s') H') v0 v1 v2 v9 (f10 s) v32 v33 (f34 s) (TH s)) :
    L30_0 K v0 v1 v2 v9 v10 v32 v33 v34 H:=by
  unfold L30_0
  exact LoopV.mk s0 (fun s=>[f10 s,f34 s]) TH pre μ (fun _=>rfl) (Eq.mp (by kernel_rfl) h0) (fun s hs=>Eq.mp (by kernel_rfl) (round s hs))
def D31:Info:=⟨30,fun i=>if i=5 then ([[],[],[1],[],[],[4],[3,4,5],[3,4,5,6],[],[8],[3,4,5,6,7,8,9],[0,1,2,3,4,5,6,7,8,9,10],[0,1,2,3,4,5,6,7,8,9,10,11]],[(0,[]),(1,[]),(2,[]),(3,[]),(4,[]),(5,[]),(6,[]),(7,[]),(8,[]),(9,[]),(10,[2]),(11,[]),(12,[])]) else ([],[]),fun i=>if i=3 then ([3,10,11],[12]) else ([],[])⟩
def L31_0 (K:AV→Heap→Prop) (v3:AV) (v10:AV) (v11:AV) (v12:AV) (H:Heap):Prop:=LoopV (wpC Tryz.prog tab D31 (cAt [1,1,0,1,0,0] (bodyOf Tryz.f31))) [3,10,11] (PostF.block 0 (PostF.thenA (wpC Tryz.prog tab D31 (cAt [1,1,1] (bodyOf Tryz.f31))) (retF tab [.tmp 2] K))) [12] [AV.any,AV.any,AV.any,v3,AV.any,AV.any,AV.any,AV.any,AV.any,AV.any,v10,v11,v12,AV.any,AV.any,AV.any,AV.any,AV.any,AV.any,AV.any,AV.any,AV.any,AV.any,AV.any,AV.any,AV.any,AV.any,AV.any,AV.any,AV.any] H
def B31_0 (K:AV→Heap→Prop) (N1:AV→Heap→Prop) (v3:AV) (v10:AV) (v11:AV) (v12:AV) (H:Heap):Prop:=
 binV tab .lss 3 v12 v11 fun v13=>
 condV v13 (indexAddrV tab 32 v10 v12 fun v14=>
 loadV tab 84 v14 H fun v15=>
 allocV tab 84 H fun v5 H3=>
 storeV tab 84 v5 v15 H3 fun H4=>
 fieldAddrV tab 84 v5 0 fun v17=>
 loadV tab 3 v17 H4 fun v18=>
 fieldAddrV tab 84 v5 0 fun v20=>
 loadV tab 3 v20 H4 fun v21=>
 indexAddrV tab 24 v3 v21 fun v22=>
 loadV tab 22 v22 H4 fun v23=>
 fieldAddrV tab 84 v5 2 fun v24=>
 loadV tab 3 v24 H4 fun v25=>
 CallT Tryz.prog 72 [v23,v25] H4 fun v26 H5=>
 (loadV tab 3 v17 H5 fun v9018=>
 v18=v9018)∧
 indexAddrV tab 24 v3 v18 fun v27=>
 storeV tab 22 v27 v26 H5 fun H6=>
 binV tab .add 3 v12 (AV.p (.int .i64 1)) fun v28=>
 N1 v28 H6)
 (K v3 H)
def W31 (v0:AV) (H:Heap) (K:AV→Heap→Prop):Prop:=
 boxV v0 H fun v1 H1=>
 fieldAddrV tab 34 v1 0 fun v6=>
 loadV tab 3 v6 H1 fun v7=>
 makeSliceV tab 24 v7 v7 H1 fun v8 H2=>
 fieldAddrV tab 34 v1 2 fun v9=>
 loadV tab 32 v9 H2 fun v10=>
 lenV tab 32 v10 fun v11=>
 L31_0 K v8 v10 v11 (AV.p (.int .i64 0)) H2
theorem W31_wp (v0:AV) (H:Heap) (K:AV→Heap→Prop):wpC Tryz.prog tab D31 (bodyOf Tryz.f31) (retF tab [.tmp 2] K) (nthA [v0]) H=W31 v0 H K:=by kernel_rfl
theorem W31_ok {v0:AV} {H:Heap} {K:AV→Heap→Prop} (h:W31 v0 H K):CallT Tryz.prog 31 [v0] H K:=
  CallT.of_wp (D:=D31) tab_ok mixed Tryz.func31 (c:=bodyOf Tryz.f31) (by kernel_rfl) rfl (by kernel_rfl) (rs:=#[.tmp 2]) rfl (by decide +kernel) (by kernel_rfl) (W31_wp v0 H K) h
theorem L31_0_rule {K:AV→Heap→Prop} {v3 v10 v11 v12:AV} {H:Heap} {σ:Type} (s0:σ) (f12:σ→AV) (TH:σ→Heap) (pre:σ→Prop) (μ:σ→Nat)
    (h0:pre s0∧AV.wk v12 (f12 s0)∧Heap.le (TH s0) H)
    (round:∀s,pre s→B31_0 K (fun w12 H'=>∃s',pre s'∧μ s' < μ s∧AV.wk w12 (f12 s')∧Heap.le (TH s') H') v3 v10 v11 (f12 s) (TH s)) :
    L31_0 K v3 v10 v11 v12 H:=by
  unfold L31_0
  exact LoopV.mk s0 (fun s=>[f12 s]) TH pre μ (fun _=>rfl) (Eq.mp (by kernel_rfl) h0) (fun s hs=>Eq.mp (by kernel_rfl) (round s hs))
def D32:Info:=⟨6,fun i=>([],[]),fun i=>([],[])⟩
def W32 (v0:AV) (H:Heap) (K:AV→Heap→Prop):Prop:=
 buildSliceV tab 22 0 [] H (wkK fun v3 H1=>
 appendV tab 22 22 v3 v0 H1 (wkK fun v5 H2=>
 K v5 H2))
theorem W32_wp (v0:AV) (H:Heap) (K:AV→Heap→Prop):wpC Tryz.prog tab D32 (bodyOf Tryz.f32) (retF tab [.tmp 2] K) (nthA [v0]) H=W32 v0 H K:=by kernel_rfl
theorem W32_ok {v0:AV} {H:Heap} {K:AV→Heap→Prop} (h:W32 v0 H K):CallT Tryz.prog 32 [v0] H K:=
  CallT.of_wp (D:=D32) tab_ok mixed Tryz.func32 (c:=bodyOf Tryz.f32) (by kernel_rfl) rfl (by kernel_rfl) (rs:=#[.tmp 2]) rfl (by decide +kernel) (by kernel_rfl) (W32_wp v0 H K) h
end Go.Proofs.YtolffbcnbcjeaaaGreat
namespace Go.Proofs.YtolffbcnbcjeaaaGreat
open Go Go.Sep
attribute [local irreducible] wpC headF
def D33:Info:=⟨29,fun i=>([],[]),fun i=>if i=2 then ([1,2,10,11],[12]) else ([],[])⟩
def L33_0 (K:AV→Heap→Prop) (v1:AV) (v2:AV) (v10:AV) (v11:AV) (v12:AV) (H:Heap):Prop:=LoopV (wpC Tryz.prog tab D33 (cAt [1,0,1,0,0] (bodyOf Tryz.f33))) [1,2,10,11] (PostF.block 0 (PostF.thenA (wpC Tryz.prog tab D33 (cAt [1,1] (bodyOf Tryz.f33))) (retF tab [.tmp 6] K))) [12] [AV.any,v1,v2,AV.any,AV.any,AV.any,AV.any,AV.any,AV.any,AV.any,v10,v11,v12,AV.any,AV.any,AV.any,AV.any,AV.any,AV.any,AV.any,AV.any,AV.any,AV.any,AV.any,AV.any,AV.any,AV.any,AV.any,AV.any] H
def B33_0 (K:AV→Heap→Prop) (N1:AV→Heap→Prop) (v1:AV) (v2:AV) (v10:AV) (v11:AV) (v12:AV) (H:Heap):Prop:=
 binV tab .lss 3 v12 v11 fun v13=>
 condV v13 (indexAddrV tab 32 v10 v12 fun v14=>
 loadV tab 84 v14 H fun v15=>
 allocV tab 84 H fun v8 H2=>
 storeV tab 84 v8 v15 H2 fun H3=>
 fieldAddrV tab 84 v8 0 fun v16=>
 loadV tab 3 v16 H3 fun v17=>
 binV tab .eql 3 v17 v1 fun v19=>
 grdV v19 true (fieldAddrV tab 84 v8 2 fun v21=>
 loadV tab 3 v21 H3 fun v22=>
 binV tab .eql 3 v22 v2 fun v24=>
 condV v24 (fieldAddrV tab 84 v8 1 fun v26=>
 loadV tab 3 v26 H3 fun v27=>
 K v27 H3)
 (binV tab .add 3 v12 (AV.p (.int .i64 1)) fun v28=>
 N1 v28 H3))
 (binV tab .add 3 v12 (AV.p (.int .i64 1)) fun v28=>
 N1 v28 H3))
 (K (AV.p (.int .i64 0)) H)
def W33 (v0:AV) (v1:AV) (v2:AV) (H:Heap) (K:AV→Heap→Prop):Prop:=
 boxV v0 H fun v3 H1=>
 fieldAddrV tab 34 v3 2 fun v9=>
 loadV tab 32 v9 H1 fun v10=>
 lenV tab 32 v10 fun v11=>
 L33_0 K v1 v2 v10 v11 (AV.p (.int .i64 0)) H1
theorem W33_wp (v0:AV) (v1:AV) (v2:AV) (H:Heap) (K:AV→Heap→Prop):wpC Tryz.prog tab D33 (bodyOf Tryz.f33) (retF tab [.tmp 6] K) (nthA [v0,v1,v2]) H=W33 v0 v1 v2 H K:=by kernel_rfl
theorem W33_ok {v0 v1 v2:AV} {H:Heap} {K:AV→Heap→Prop} (h:W33 v0 v1 v2 H K):CallT Tryz.prog 33 [v0,v1,v2] H K:=
  CallT.of_wp (D:=D33) tab_ok mixed Tryz.func33 (c:=bodyOf Tryz.f33) (by kernel_rfl) rfl (by kernel_rfl) (rs:=#[.tmp 6]) rfl (by decide +kernel) (by kernel_rfl) (W33_wp v0 v1 v2 H K) h
theorem L33_0_rule {K:AV→Heap→Prop} {v1 v2 v10 v11 v12:AV} {H:Heap} {σ:Type} (s0:σ) (f12:σ→AV) (TH:σ→Heap) (pre:σ→Prop) (μ:σ→Nat)
    (h0:pre s0∧AV.wk v12 (f12 s0)∧Heap.le (TH s0) H)
    (round:∀s,pre s→B33_0 K (fun w12 H'=>∃s',pre s'∧μ s' < μ s∧AV.wk w12 (f12 s')∧Heap.le (TH s') H') v1 v2 v10 v11 (f12 s) (TH s)) :
    L33_0 K v1 v2 v10 v11 v12 H:=by
  unfold L33_0
  exact LoopV.mk s0 (fun s=>[f12 s]) TH pre μ (fun _=>rfl) (Eq.mp (by kernel_rfl) h0) (fun s hs=>Eq.mp (by kernel_rfl) (round s hs))
def D34:Info:=⟨9,fun i=>([],[]),fun i=>([],[])⟩
def W34 (v0:AV) (H:Heap) (K:AV→Heap→Prop):Prop:=
 boxV v0 H fun v1 H1=>
 allocV tab 29 H1 fun v2 H2=>
 loadV tab 29 v1 H2 fun v4=>
 CallT Tryz.prog 73 [v4] H2 fun v5 H3=>
 unV .not v5 fun v6=>
 condV v6 (buildV tab 29 [] fun v7=>
 storeV tab 29 v2 v7 H3 fun H4=>
 loadV tab 29 v2 H4 fun r0=>
 K (.tup [r0,(AV.p (.bool false))]) H4)
 (loadV tab 29 v1 H3 fun v8=>
 storeV tab 29 v2 v8 H3 fun H5=>
 loadV tab 29 v2 H5 fun r0=>
 K (.tup [r0,(AV.p (.bool true))]) H5)
theorem W34_wp (v0:AV) (H:Heap) (K:AV→Heap→Prop):wpC Tryz.prog tab D34 (bodyOf Tryz.f34) (retF tab [.cell 2 29,.tmp 3] K) (nthA [v0]) H=W34 v0 H K:=by kernel_rfl
theorem W34_ok {v0:AV} {H:Heap} {K:AV→Heap→Prop} (h:W34 v0 H K):CallT Tryz.prog 34 [v0] H K:=
  CallT.of_wp (D:=D34) tab_ok mixed Tryz.func34 (c:=bodyOf Tryz.f34) (by kernel_rfl) rfl (by kernel_rfl) (rs:=#[.cell 2 29,.tmp 3]) rfl (by decide +kernel) (by kernel_rfl) (W34_wp v0 H K) h
def D35:Info:=⟨22,fun i=>([],[]),fun i=>if i=3 then ([0,3],[4]) else ([],[])⟩
def L35_0 (K:AV→Heap→Prop) (v0:AV) (v3:AV) (v4:AV) (H:Heap):Prop:=LoopV (wpC Tryz.prog tab D35 (cAt [1,1,0,1,0,0] (bodyOf Tryz.f35))) [0,3] (PostF.block 0 (PostF.thenA (wpC Tryz.prog tab D35 (cAt [1,1,1] (bodyOf Tryz.f35))) (retF tab [.tmp 2] K))) [4] [v0,AV.any,AV.any,v3,v4,AV.any,AV.any,AV.any,AV.any,AV.any,AV.any,AV.any,AV.any,AV.any,AV.any,AV.any,AV.any,AV.any,AV.any,AV.any,AV.any,AV.any] H
def B35_0 (K:AV→Heap→Prop) (N1:AV→Heap→Prop) (v0:AV) (v3:AV) (v4:AV) (H:Heap):Prop:=
 lenV tab 22 v0 fun v10=>
 binV tab .lss 3 v4 v10 fun v11=>
 condV v11 (indexAddrV tab 22 v0 v4 fun v18=>
 loadV tab 3 v18 H fun v19=>
 indexAddrV tab 22 v3 v4 fun v20=>
 storeV tab 3 v20 v19 H fun H2=>
 binV tab .add 3 v4 (AV.p (.int .i64 1)) fun v13=>
 N1 v13 H2)
 (K v3 H)
def W35 (v0:AV) (H:Heap) (K:AV→Heap→Prop):Prop:=
 lenV tab 22 v0 fun v6=>
 makeSliceV tab 22 v6 v6 H fun v7 H1=>
 L35_0 K v0 v7 (AV.p (.int .i64 0)) H1
theorem W35_wp (v0:AV) (H:Heap) (K:AV→Heap→Prop):wpC Tryz.prog tab D35 (bodyOf Tryz.f35) (retF tab [.tmp 2] K) (nthA [v0]) H=W35 v0 H K:=by kernel_rfl
theorem W35_ok {v0:AV} {H:Heap} {K:AV→Heap→Prop} (h:W35 v0 H K):CallT Tryz.prog 35 [v0] H K:=
  CallT.of_wp (D:=D35) tab_ok mixed Tryz.func35 (c:=bodyOf Tryz.f35) (by kernel_rfl) rfl (by kernel_rfl) (rs:=#[.tmp 2]) rfl (by decide +kernel) (by kernel_rfl) (W35_wp v0 H K) h
theorem L35_0_rule {K:AV→Heap→Prop} {v0 v3 v4:AV} {H:Heap} {σ:Type} (s0:σ) (f4:σ→AV) (TH:σ→Heap) (pre:σ→Prop) (μ:σ→Nat)
    (h0:pre s0∧AV.wk v4 (f4 s0)∧Heap.le (TH s0) H)
    (round:∀s,pre s→B35_0 K (fun w4 H'=>∃s',pre s'∧μ s' < μ s∧AV.wk w4 (f4 s')∧Heap.le (TH s') H') v0 v3 (f4 s) (TH s)) :
    L35_0 K v0 v3 v4 H:=by
  unfold L35_0
  exact LoopV.mk s0 (fun s=>[f4 s]) TH pre μ (fun _=>rfl) (Eq.mp (by kernel_rfl) h0) (fun s hs=>Eq.mp (by kernel_rfl) (round s hs))
def D36:Info:=⟨23,fun i=>([],[]),fun i=>if i=3 then ([0,3],[4]) else ([],[])⟩
def L36_0 (K:AV→Heap→Prop) (v0:AV) (v3:AV) (v4:AV) (H:Heap):Prop:=LoopV (wpC Tryz.prog tab D36 (cAt [1,1,0,1,0,0] (bodyOf Tryz.f36))) [0,3] (PostF.block 0 (PostF.thenA (wpC Tryz.prog tab D36 (cAt [1,1,1] (bodyOf Tryz.f36))) (retF tab [.tmp 2] K))) [4] [v0,AV.any,AV.any,v3,v4,AV.any,AV.any,AV.any,AV.any,AV.any,AV.any,AV.any,AV.any,AV.any,AV.any,AV.any,AV.any,AV.any,AV.any,AV.any,AV.any,AV.any,AV.any] H
def B36_0 (K:AV→Heap→Prop) (N1:AV→Heap→Prop) (v0:AV) (v3:AV) (v4:AV) (H:Heap):Prop:=
 lenV tab 23 v0 fun v10=>
 binV tab .lss 3 v4 v10 fun v11=>
 condV v11 (indexAddrV tab 23 v0 v4 fun v18=>
 loadV tab 101 v18 H fun v19=>
 CallT Tryz.prog 74 [v19] H fun v20 H2=>
 indexAddrV tab 32 v3 v4 fun v21=>
 storeV tab 84 v21 v20 H2 fun H3=>
 binV tab .add 3 v4 (AV.p (.int .i64 1)) fun v13=>
 N1 v13 H3)
 (K v3 H)
def W36 (v0:AV) (H:Heap) (K:AV→Heap→Prop):Prop:=
 lenV tab 23 v0 fun v6=>
 makeSliceV tab 32 v6 v6 H fun v7 H1=>
 L36_0 K v0 v7 (AV.p (.int .i64 0)) H1
theorem W36_wp (v0:AV) (H:Heap) (K:AV→Heap→Prop):wpC Tryz.prog tab D36 (bodyOf Tryz.f36) (retF tab [.tmp 2] K) (nthA [v0]) H=W36 v0 H K:=by kernel_rfl
theorem W36_ok {v0:AV} {H:Heap} {K:AV→Heap→Prop} (h:W36 v0 H K):CallT Tryz.prog 36 [v0] H K:=
  CallT.of_wp (D:=D36) tab_ok mixed Tryz.func36 (c:=bodyOf Tryz.f36) (by kernel_rfl) rfl (by kernel_rfl) (rs:=#[.tmp 2]) rfl (by decide +kernel) (by kernel_rfl) (W36_wp v0 H K) h
theorem L36_0_rule {K:AV→Heap→Prop} {v0 v3 v4:AV} {H:Heap} {σ:Type} (s0:σ) (f4:σ→AV) (TH:σ→Heap) (pre:σ→Prop) (μ:σ→Nat)
    (h0:pre s0∧AV.wk v4 (f4 s0)∧Heap.le (TH s0) H)
    (round:∀s,pre s→B36_0 K (fun w4 H'=>∃s',pre s'∧μ s' < μ s∧AV.wk w4 (f4 s')∧Heap.le (TH s') H') v0 v3 (f4 s) (TH s)) :
    L36_0 K v0 v3 v4 H:=by
  unfold L36_0
  exact LoopV.mk s0 (fun s=>[f4 s]) TH pre μ (fun _=>rfl) (Eq.mp (by kernel_rfl) h0) (fun s hs=>Eq.mp (by kernel_rfl) (round s hs))
def D37:Info:=⟨23,fun i=>([],[]),fun i=>if i=3 then ([0,3],[4]) else ([],[])⟩
def L37_0 (K:AV→Heap→Prop) (v0:AV) (v3:AV) (v4:AV) (H:Heap):Prop:=LoopV (wpC Tryz.prog tab D37 (cAt [1,1,0,1,0,0] (bodyOf Tryz.f37))) [0,3] (PostF.block 0 (PostF.thenA (wpC Tryz.prog tab D37 (cAt [1,1,1] (bodyOf Tryz.f37))) (retF tab [.tmp 2] K))) [4] [v0,AV.any,AV.any,v3,v4,AV.any,AV.any,AV.any,AV.any,AV.any,AV.any,AV.any,AV.any,AV.any,AV.any,AV.any,AV.any,AV.any,AV.any,AV.any,AV.any,AV.any,AV.any] H
def B37_0 (K:AV→Heap→Prop) (N1:AV→Heap→Prop) (v0:AV) (v3:AV) (v4:AV) (H:Heap):Prop:=
 lenV tab 24 v0 fun v10=>
 binV tab .lss 3 v4 v10 fun v11=>
 condV v11 (indexAddrV tab 24 v0 v4 fun v18=>
 loadV tab 22 v18 H fun v19=>
 CallT Tryz.prog 35 [v19] H fun v20 H2=>
 indexAddrV tab 24 v3 v4 fun v21=>
 storeV tab 22 v21 v20 H2 fun H3=>
 binV tab .add 3 v4 (AV.p (.int .i64 1)) fun v13=>
 N1 v13 H3)
 (K v3 H)
def W37 (v0:AV) (H:Heap) (K:AV→Heap→Prop):Prop:=
 lenV tab 24 v0 fun v6=>
 makeSliceV tab 24 v6 v6 H fun v7 H1=>
 L37_0 K v0 v7 (AV.p (.int .i64 0)) H1
theorem W37_wp (v0:AV) (H:Heap) (K:AV→Heap→Prop):wpC Tryz.prog tab D37 (bodyOf Tryz.f37) (retF tab [.tmp 2] K) (nthA [v0]) H=W37 v0 H K:=by kernel_rfl
theorem W37_ok {v0:AV} {H:Heap} {K:AV→Heap→Prop} (h:W37 v0 H K):CallT Tryz.prog 37 [v0] H K:=
  CallT.of_wp (D:=D37) tab_ok mixed Tryz.func37 (c:=bodyOf Tryz.f37) (by kernel_rfl) rfl (by kernel_rfl) (rs:=#[.tmp 2]) rfl (by decide +kernel) (by kernel_rfl) (W37_wp v0 H K) h
theorem L37_0_rule {K:AV→Heap→Prop} {v0 v3 v4:AV} {H:Heap} {σ:Type} (s0:σ) (f4:σ→AV) (TH:σ→Heap) (pre:σ→Prop) (μ:σ→Nat)
    (h0:pre s0∧AV.wk v4 (f4 s0)∧Heap.le (TH s0) H)
    (round:∀s,pre s→B37_0 K (fun w4 H'=>∃s',pre s'∧μ s' < μ s∧AV.wk w4 (f4 s')∧Heap.le (TH s') H') v0 v3 (f4 s) (TH s)) :
    L37_0 K v0 v3 v4 H:=by
  unfold L37_0
  exact LoopV.mk s0 (fun s=>[f4 s]) TH pre μ (fun _=>rfl) (Eq.mp (by kernel_rfl) h0) (fun s hs=>Eq.mp (by kernel_rfl) (round s hs))
def D38:Info:=⟨91,fun i=>if i=6 then ([[],[0],[0,1],[0,1,2],[0,1,2,3],[0,1,2,3,4],[0,1,2,3],[0,1,2,3,6],[0,1,2,3,4,5,6,7],[0,1,2,3,4,5,6,7,8],[0,1,2,3,4,5,6,7,8,9],[0,1,2,3,4,5,6,7,8,9,10],[0,1,2,3,4,5,6,7,8,9,10,11],[0,1,2,3,4,5,6,7,8,9,10,11,12],[0,1,2,3,4,5,6,7,8,9,10,11,12,13],[0,1,2,3,4,5,6,7,8,9,10,11,12,13,14],[0,1,2,3,4,5,6,7,8,9,10,11,12,13,14,15],[0,1,2,3,4,5,6,7,8,9,10,11,12,13,14,15,16],[0,1,2,3,4,5,6,7,8,9,10,11,12,13,14,15],[0,1,2,3,4,5,6,7,8,9,10,11,12,13,14,15,18],[0,1,2,3,4,5,6,7,8,9,10,11,12,13,14,15,16,17,18,19],[0,1,2,3,4,5,6,7,8,9,10,11,12,13,14,15,16,17,18,19,20],[0,1,2,3,4,5,6,7,8,9,10,11,12,13,14,15,16,17,18,19,20,21],[0,1,2,3,4,5,6,7,8,9,10,11,12,13,14,15,16,17,18,19,20,21,22],[0,1,2,3,4,5,6,7,8,9,10,11,12,13,14,15,16,17,18,19,20,21,22,23],[0,1,2,3,4,5,6,7,8,9,10,11,12,13,14,15,16,17,18,19,20,21,22,23,24],[0,1,2,3,4,5,6,7,8,9,10,11,12,13,14,15,16,17,18,19,20,21,22,23,24,25],[0,1,2,3,4,5,6,7,8,9,10,11,12,13,14,15,16,17,18,19,20,21,22,23,24,25,26],[0,1,2,3,4,5,6,7,8,9,10,11,12,13,14,15,16,17,18,19,20,21,22,23,24,25,26,27],[0,1,2,3,4,5,6,7,8,9,10,11,12,13,14,15,16,17,18,19,20,21,22,23,24,25,26,27,28],[0,1,2,3,4,5,6,7,8,9,10,11,12,13,14,15,16,17,18,19,20,21,22,23,24,25,26,27,28,29],[0,1,2,3,4,5,6,7,8,9,10,11,12,13,14,15,16,17,18,19,20,21,22,23,24,25,26,27,28,29,30],[0,1,2,3,4,5,6,7,8,9,10,11,12,13,14,15,16,17,18,19,20,21,22,23,24,25,26,27,28,29,30,31],[0,1,2,3,4,5,6,7,8,9,10,11,12,13,14,15,16,17,18,19,20,21,22,23,24,25,26,27,28,29,30,31,32],[0,1,2,3,4,5,6,7,8,9,10,11,12,13,14,15,16,17,18,19,20,21,22,23,24,25,26,27,28,29,30,31,32,33],[0,1,2,3,4,5,6,7,8,9,10,11,12,13,14,15,16,17,18,19,20,21,22,23,24,25,26,27,28,29,30,31,32,33,34],[0,1,2,3,4,5,6,7,8,9,10,11,12,13,14,15,16,17,18,19,20,21,22,23,24,25,26,27,28,29,30,31,32,33,34,35],[0,1,2,3,4,5,6,7,8,9,10,11,12,13,14,15,16,17,18,19,20,21,22,23,24,25,26,27,28,29,30,31,32,33,34,35,36],[0,1,2,3,4,5,6,7,8,9,10,11,12,13,14,15,16,17,18,19,20,21,22,23,24,25,26,27,28,29,30,31,32,33,34,35],[0,1,2,3,4,5,6,7,8,9,10,11,12,13,14,15,16,17,18,19,20,21,22,23,24,25,26,27,28,29,30,31,32,33,34,35,38],[0,1,2,3,4,5,6,7,8,9,10,11,12,13,14,15,16,17,18,19,20,21,22,23,24,25,26,27,28,29,30,31,32,33,34,35,36,37,38,39],[0,1,2,3,4,5,6,7,8,9,10,11,12,13,14,15,16,17,18,19,20,21,22,23,24,25,26,27,28,29,30,31,32,33,34,35,36,37,38,39,40],[0,1,2,3,4,5,6,7,8,9,10,11,12,13,14,15,16,17,18,19,20,21,22,23,24,25,26,27,28,29,30,31,32,33,34,35],[0,1,2,3,4,5,6,7,8,9,10,11,12,13,14,15,16,17,18,19,20,21,22,23,24,25,26,27,28,29,30,31,32,33,34,35,36,37,38,39,40,41,42],[0,1,2,3,4,5,6,7,8,9,10,11,12,13,14,15,16,17,18,19,20,21,22,23,24,25,26,27,28,29,30,31,32,33,34,35,36,37,38,39,40,41,42,43],[0,1,2,3,4,5,6,7,8,9,10,11,12,13,14,15,16,17,18,19,20,21,22,23,24,25,26,27,28,29,30,31,32,33,34,35,36,37,38,39,40,41,42,43,44],[0,1,2,3,4,5,6,7,8,9,10,11,12,13,14,15,16,17,18,19,20,21,22,23,24,25,26,27,28,29,30,31,32,33,34,35,36,37,38,39,40,41,42,43,44,45]],[(0,[]),(1,[]),(2,[]),(3,[]),(4,[]),(5,[]),(6,[]),(7,[]),(8,[]),(9,[]),(10,[]),(11,[]),(12,[]),(13,[]),(14,[]),(15,[]),(16,[]),(17,[]),(18,[]),(19,[]),(20,[]),(21,[]),(22,[]),(23,[]),(24,[]),(25,[]),(26,[]),(27,[]),(28,[]),(29,[]),(30,[]),(31,[]),(32,[]),(33,[]),(34,[]),(35,[]),(36,[]),(37,[]),(38,[]),(39,[]),(40,[]),(41,[]),(42,[]),(43,[]),(44,[]),(45,[]),(46,[])]) else ([],[]),fun i=>if i=4 then ([1,36,37],[38]) else ([],[])⟩
def L38_0 (K:AV→Heap→Prop) (v1:AV) (v36:AV) (v37:AV) (v38:AV) (H:Heap):Prop:=LoopV (wpC Tryz.prog tab D38 (cAt [1,1,0,1,0,0] (bodyOf Tryz.f38))) [1,36,37] (PostF.block 0 (PostF.thenA (wpC Tryz.prog tab D38 (cAt [1,1,1] (bodyOf Tryz.f38))) (retF tab [.tmp 2] K))) [38] [AV.any,v1,AV.any,AV.any,AV.any,AV.any,AV.any,AV.any,AV.any,AV.any,AV.any,AV.any,AV.any,AV.any,AV.any,AV.any,AV.any,AV.any,AV.any,AV.any,AV.any,AV.any,AV.any,AV.any,AV.any,AV.any,AV.any,AV.any,AV.any,AV.any,AV.any,AV.any,AV.any,AV.any,AV.any,AV.any,v36,v37,v38,AV.any,AV.any,AV.any,AV.any,AV.any,AV.any,AV.any,AV.any,AV.any,AV.any,AV.any,AV.any,AV.any,AV.any,AV.any,AV.any,AV.any,AV.any,AV.any,AV.any,AV.any,AV.any,AV.any,AV.any,AV.any,AV.any,AV.any,AV.any,AV.any,AV.any,AV.any,AV.any,AV.any,AV.any,AV.any,AV.any,AV.any,AV.any,AV.any,AV.any,AV.any,AV.any,AV.any,AV.any,AV.any,AV.any,AV.any,AV.any,AV.any,AV.any,AV.any,AV.any] H
def B38_0 (K:AV→Heap→Prop) (N1:AV→Heap→Prop) (v1:AV) (v36:AV) (v37:AV) (v38:AV) (H:Heap):Prop:=
 binV tab .lss 3 v38 v37 fun v39=>
 condV v39 (indexAddrV tab 32 v36 v38 fun v41=>
 loadV tab 84 v41 H fun v42=>
 allocV tab 84 H fun v4 H4=>
 storeV tab 84 v4 v42 H4 fun H5=>
 fieldAddrV tab 84 v4 0 fun v43=>
 loadV tab 3 v43 H5 fun v44=>
 binV tab .lss 3 v44 (AV.p (.int .i64 0)) fun v45=>
 grdV v45 false (fieldAddrV tab 84 v4 0 fun v47=>
 loadV tab 3 v47 H5 fun v48=>
 fieldAddrV tab 34 v1 0 fun v49=>
 loadV tab 3 v49 H5 fun v50=>
 binV tab .geq 3 v48 v50 fun v51=>
 grdV v51 false (fieldAddrV tab 84 v4 2 fun v54=>
 loadV tab 3 v54 H5 fun v55=>
 binV tab .lss 3 v55 (AV.p (.int .i64 0)) fun v56=>
 grdV v56 false (fieldAddrV tab 84 v4 2 fun v59=>
 loadV tab 3 v59 H5 fun v60=>
 fieldAddrV tab 34 v1 0 fun v61=>
 loadV tab 3 v61 H5 fun v62=>
 binV tab .geq 3 v60 v62 fun v63=>
 grdV v63 false (fieldAddrV tab 84 v4 1 fun v66=>
 loadV tab 3 v66 H5 fun v67=>
 binV tab .lss 3 v67 (AV.p (.int .i64 0)) fun v68=>
 grdV v68 false (fieldAddrV tab 84 v4 1 fun v71=>
 loadV tab 3 v71 H5 fun v72=>
 binV tab .geq 3 v72 (AV.p (.int .i64 8)) fun v73=>
 grdV v73 false (binV tab .gtr 3 v38 (AV.p (.int .i64 0)) fun v77=>
 grdV v77 true (fieldAddrV tab 34 v1 2 fun v79=>
 loadV tab 32 v79 H5 fun v80=>
 binV tab .sub 3 v38 (AV.p (.int .i64 1)) fun v82=>
 indexAddrV tab 32 v80 v82 fun v83=>
 loadV tab 84 v83 H5 fun v84=>
 loadV tab 84 v4 H5 fun v85=>
 CallT Tryz.prog 77 [v84,v85] H5 fun v86 H6=>
 binV tab .geq 3 v86 (AV.p (.int .i64 0)) fun v87=>
 condV v87 (K (AV.p (.bool false)) H6)
 (binV tab .add 3 v38 (AV.p (.int .i64 1)) fun v90=>
 N1 v90 H6))
 (binV tab .add 3 v38 (AV.p (.int .i64 1)) fun v90=>
 N1 v90 H5))
 (K (AV.p (.bool false)) H5))
 (K (AV.p (.bool false)) H5))
 (K (AV.p (.bool false)) H5))
 (K (AV.p (.bool false)) H5))
 (K (AV.p (.bool false)) H5))
 (K (AV.p (.bool false)) H5))
 (K (AV.p (.bool true)) H)
def W38 (v0:AV) (H:Heap) (K:AV→Heap→Prop):Prop:=
 boxV v0 H fun v1 H1=>
 fieldAddrV tab 34 v1 0 fun v5=>
 loadV tab 3 v5 H1 fun v6=>
 binV tab .lss 3 v6 (AV.p (.int .i64 1)) fun v7=>
 grdV v7 false (fieldAddrV tab 34 v1 0 fun v9=>
 loadV tab 3 v9 H1 fun v10=>
 binV tab .gtr 3 v10 (AV.p (.int .i64 96)) fun v11=>
 grdV v11 false (fieldAddrV tab 34 v1 1 fun v14=>
 loadV tab 22 v14 H1 fun v15=>
 fieldAddrV tab 34 v1 0 fun v16=>
 loadV tab 3 v16 H1 fun v17=>
 CallT Tryz.prog 75 [v15,v17] H1 fun v18 H2=>
 unV .not v18 fun v19=>
 grdV v19 false (fieldAddrV tab 34 v1 2 fun v22=>
 loadV tab 32 v22 H2 fun v23=>
 lenV tab 32 v23 fun v24=>
 binV tab .gtr 3 v24 (AV.p (.int .i64 2400)) fun v25=>
 grdV v25 false (fieldAddrV tab 34 v1 3 fun v28=>
 loadV tab 24 v28 H2 fun v29=>
 fieldAddrV tab 34 v1 0 fun v30=>
 loadV tab 3 v30 H2 fun v31=>
 CallT Tryz.prog 76 [v29,v31] H2 fun v32 H3=>
 unV .not v32 fun v33=>
 condV v33 (K (AV.p (.bool false)) H3)
 (fieldAddrV tab 34 v1 2 fun v35=>
 loadV tab 32 v35 H3 fun v36=>
 lenV tab 32 v36 fun v37=>
 L38_0 K v1 v36 v37 (AV.p (.int .i64 0)) H3))
 (K (AV.p (.bool false)) H2))
 (K (AV.p (.bool false)) H2))
 (K (AV.p (.bool false)) H1))
 (K (AV.p (.bool false)) H1)
theorem W38_wp (v0:AV) (H:Heap) (K:AV→Heap→Prop):wpC Tryz.prog tab D38 (bodyOf Tryz.f38) (retF tab [.tmp 2] K) (nthA [v0]) H=W38 v0 H K:=by kernel_rfl
theorem W38_ok {v0:AV} {H:Heap} {K:AV→Heap→Prop} (h:W38 v0 H K):CallT Tryz.prog 38 [v0] H K:=
  CallT.of_wp (D:=D38) tab_ok mixed Tryz.func38 (c:=bodyOf Tryz.f38) (by kernel_rfl) rfl (by kernel_rfl) (rs:=#[.tmp 2]) rfl (by decide +kernel) (by kernel_rfl) (W38_wp v0 H K) h
theorem L38_0_rule {K:AV→Heap→Prop} {v1 v36 v37 v38:AV} {H:Heap} {σ:Type} (s0:σ) (f38:σ→AV) (TH:σ→Heap) (pre:σ→Prop) (μ:σ→Nat)
    (h0:pre s0∧AV.wk v38 (f38 s0)∧Heap.le (TH s0) H)
    (round:∀s,pre s→B38_0 K (fun w38 H'=>∃s',pre s'∧μ s' < μ s∧AV.wk w38 (f38 s')∧Heap.le (TH s') H') v1 v36 v37 (f38 s) (TH s)) :
    L38_0 K v1 v36 v37 v38 H:=by
  unfold L38_0
  exact LoopV.mk s0 (fun s=>[f38 s]) TH pre μ (fun _=>rfl) (Eq.mp (by kernel_rfl) h0) (fun s hs=>Eq.mp (by kernel_rfl) (round s hs))
def D39:Info:=⟨89,fun i=>if i=5 then ([[],[],[],[],[2,3],[2,3,4],[0,1,2,3,4,5],[],[7],[0,1,2,3,4,5,6],[0,1,2,3,4,5,6,7,8,9]],[(0,[]),(1,[]),(2,[]),(3,[]),(4,[]),(5,[]),(7,[]),(6,[8,7]),(9,[]),(8,[8]),(10,[])]) else if i=13 then ([[],[],[],[],[3],[3,4],[2,3,4,5],[2,3,4,5,6],[1,2,3,4,5,6,7],[1,2,3,4,5,6,7,8],[],[10],[0,1,2,3,4,5,6,7,8,9,10,11],[0,1,2,3,4,5,6,7,8,9,10,11,12]],[(0,[]),(1,[]),(2,[]),(3,[]),(4,[]),(5,[]),(6,[]),(7,[]),(8,[]),(9,[]),(10,[]),(11,[7,9]),(12,[]),(13,[])]) else if i=14 then ([[],[],[1],[1,2],[0,1,2,3],[],[],[],[7],[7,8],[6,7,8,9],[5,6,7,8,9,10],[0,1,2,3,4,5,6,7,8,9,10,11],[0,1,2,3,4,5,6,7,8,9,10,11,12],[0,1,2,3,4,5,6,7,8,9,10,11,12,13]],[(0,[]),(1,[]),(2,[]),(3,[]),(4,[]),(5,[]),(6,[]),(7,[]),(8,[]),(9,[]),(10,[]),(11,[]),(12,[]),(13,[]),(14,[])]) else ([],[]),fun i=>if i=7 then ([9,10,11,12,41,42],[13,43]) else ([],[])⟩
def L39_0 (K:AV→Heap→Prop) (v9:AV) (v10:AV) (v11:AV) (v12:AV) (v13:AV) (v41:AV) (v42:AV) (v43:AV) (H:Heap):Prop:=LoopV (wpC Tryz.prog tab D39 (cAt [1,1,1,1,1,0,1,0,0] (bodyOf Tryz.f39))) [9,10,11,12,41,42] (PostF.block 0 (PostF.thenA (wpC Tryz.prog tab D39 (cAt [1,1,1,1,1,1] (bodyOf Tryz.f39))) (retF tab [.tmp 6,.tmp 7,.tmp 8] K))) [13,43] [AV.any,AV.any,AV.any,AV.any,AV.any,AV.any,AV.any,AV.any,AV.any,v9,v10,v11,v12,v13,AV.any,AV.any,AV.any,AV.any,AV.any,AV.any,AV.any,AV.any,AV.any,AV.any,AV.any,AV.any,AV.any,AV.any,AV.any,AV.any,AV.any,AV.any,AV.any,AV.any,AV.any,AV.any,AV.any,AV.any,AV.any,AV.any,AV.any,v41,v42,v43,AV.any,AV.any,AV.any,AV.any,AV.any,AV.any,AV.any,AV.any,AV.any,AV.any,AV.any,AV.any,AV.any,AV.any,AV.any,AV.any,AV.any,AV.any,AV.any,AV.any,AV.any,AV.any,AV.any,AV.any,AV.any,AV.any,AV.any,AV.any,AV.any,AV.any,AV.any,AV.any,AV.any,AV.any,AV.any,AV.any,AV.any,AV.any,AV.any,AV.any,AV.any,AV.any,AV.any,AV.any,AV.any] H
def B39_0 (K:AV→Heap→Prop) (N1:AV→AV→Heap→Prop) (v9:AV) (v10:AV) (v11:AV) (v12:AV) (v13:AV) (v41:AV) (v42:AV) (v43:AV) (H:Heap):Prop:=
 binV tab .lss 3 v43 v42 fun v44=>
 condV v44 (indexAddrV tab 24 v41 v43 fun v45=>
 loadV tab 22 v45 H fun v46=>
 CallT Tryz.prog 82 [v46] H fun v48 H11=>
 CallT Tryz.prog 81 [v48,(.fn 83 [v11,v9])] H11 fun v50 H12=>
 lenV tab 22 v13 fun v54=>
 binV tab .sub 3 v54 (AV.p (.int .i64 1)) fun v55=>
 sliceV tab 22 v13 (some v55) none none fun v56=>
 CallT Tryz.prog 78 [v12,v56,v50] H12 fun v58 H13=>
 sliceV tab 22 v58 (some (AV.p (.int .i64 1))) none none fun v61=>
 appendV tab 22 22 v13 v61 H13 (wkK fun v62 H14=>
 binV tab .add 3 v43 (AV.p (.int .i64 1)) fun v63=>
 N1 v62 v63 H14))
 (lenV tab 22 v13 fun v68=>
 binV tab .sub 3 v68 (AV.p (.int .i64 1)) fun v69=>
 indexAddrV tab 22 v13 v69 fun v70=>
 loadV tab 3 v70 H fun v71=>
 indexAddrV tab 24 v12 v71 fun v72=>
 loadV tab 22 v72 H fun v73=>
 loadV tab 3 v9 H fun v74=>
 buildSliceV tab 22 1 [(0,v74)] H (wkK fun v75 H15=>
 (loadV tab 3 v70 H15 fun v9071=>
 v71=v9071)∧
 (loadV tab 22 v72 H15 fun v9073=>
 v73=v9073)∧
 CallT Tryz.prog 78 [v12,v73,v75] H15 fun v76 H16=>
 lenV tab 22 v10 fun v79=>
 binV tab .sub 3 v79 (AV.p (.int .i64 1)) fun v80=>
 sliceV tab 22 v10 none (some v80) none fun v81=>
 lenV tab 22 v76 fun v85=>
 binV tab .sub 3 v85 (AV.p (.int .i64 1)) fun v86=>
 sliceV tab 22 v76 none (some v86) none fun v87=>
 appendV tab 22 22 v13 v87 H16 (wkK fun v88 H17=>
 K (.tup [v81,v88,(AV.p (.bool true))]) H17)))
def W39 (v0:AV) (v1:AV) (v2:AV) (H:Heap) (K:AV→Heap→Prop):Prop:=
 CallT Tryz.prog 56 [v0,v1,v2] H fun v22 H1=>
 allocV tab 3 H1 fun v9 H2=>
 storeV tab 3 v9 v22 H2 fun H3=>
 loadV tab 3 v9 H3 fun v23=>
 binV tab .lss 3 v23 (AV.p (.int .i64 0)) fun v24=>
 condV v24 (K (.tup [(AV.p .nil),(AV.p .nil),(AV.p (.bool false))]) H3)
 (loadV tab 3 v9 H3 fun v27=>
 buildSliceV tab 22 1 [(0,v27)] H3 (wkK fun v28 H4=>
 CallT Tryz.prog 78 [v0,v1,v28] H4 fun v29 H5=>
 CallT Tryz.prog 79 [v0] H5 fun v31 H6=>
 allocV tab 22 H6 fun v11 H7=>
 storeV tab 22 v11 v31 H7 fun H8=>
 loadV tab 22 v11 H8 fun v33=>
 loadV tab 22 v11 H8 fun v34=>
 loadV tab 3 v9 H8 fun v35=>
 indexAddrV tab 22 v34 v35 fun v36=>
 loadV tab 3 v36 H8 fun v37=>
 loadV tab 3 v9 H8 fun v39=>
 safeV (buildN tab 22 1 [(0,v39)])∧
 CallT Tryz.prog 80 [v0,v33,v37] H8 fun v38 H9=>
 (loadV tab 3 v9 H9 fun v9039=>
 v39=v9039)∧
 newV (buildN tab 22 1 [(0,v39)]) H9 fun v40 H10=>
 lenV tab 24 v2 fun v42=>
 L39_0 K v9 v29 v11 v38 v40 v2 v42 (AV.p (.int .i64 0)) H10))
theorem W39_wp (v0:AV) (v1:AV) (v2:AV) (H:Heap) (K:AV→Heap→Prop):wpC Tryz.prog tab D39 (bodyOf Tryz.f39) (retF tab [.tmp 6,.tmp 7,.tmp 8] K) (nthA [v0,v1,v2]) H=W39 v0 v1 v2 H K:=by kernel_rfl
theorem W39_ok {v0 v1 v2:AV} {H:Heap} {K:AV→Heap→Prop} (h:W39 v0 v1 v2 H K):CallT Tryz.prog 39 [v0,v1,v2] H K:=
  CallT.of_wp (D:=D39) tab_ok mixed Tryz.func39 (c:=bodyOf Tryz.f39) (by kernel_rfl) rfl (by kernel_rfl) (rs:=#[.tmp 6,.tmp 7,.tmp 8]) rfl (by decide +kernel) (by kernel_rfl) (W39_wp v0 v1 v2 H K) h
theorem L39_0_rule {K:AV→Heap→Prop} {v9 v10 v11 v12 v13 v41 v42 v43:AV} {H:Heap} {σ:Type} (s0:σ) (f13:σ→AV) (f43:σ→AV) (TH:σ→Heap) (pre:σ→Prop) (μ:σ→Nat)
    (h0:pre s0∧AV.wk v13 (f13 s0)∧AV.wk v43 (f43 s0)∧Heap.le (TH s0) H)
    (round:∀s,pre s→B39_0 K (fun w13 w43 H'=>∃s',pre s'∧μ s' < μ s∧AV.wk w13 (f13 s')∧AV.wk w43 (f43 s')∧Heap.le (TH s') H') v9 v10 v11 v12 (f13 s) v41 v42 (f43 s) (TH s)) :
    L39_0 K v9 v10 v11 v12 v13 v41 v42 v43 H:=by
  unfold L39_0
  exact LoopV.mk s0 (fun s=>[f13 s,f43 s]) TH pre μ (fun _=>rfl) (Eq.mp (by kernel_rfl) h0) (fun s hs=>Eq.mp (by kernel_rfl) (round s hs))
def D40:Info:=⟨51,fun i=>if i=5 then ([[],[],[1],[],[],[4],[3,4,5],[3,4,5,6],[],[8],[8,9],[3,4,5,6,7,8,9,10],[0,1,2,3,4,5,6,7,8,9,10,11],[0,1,2,3,4,5,6,7,8,9,10,11,12]],[(0,[]),(1,[]),(2,[]),(3,[]),(4,[]),(5,[]),(6,[]),(7,[]),(8,[]),(9,[]),(10,[2,5,7]),(11,[2]),(12,[]),(13,[])]) else ([],[]),fun i=>if i=3 then ([3,11,12],[13]) else if i=8 then ([3,32],[33]) else ([],[])⟩
def L40_0 (K:AV→Heap→Prop) (v3:AV) (v11:AV) (v12:AV) (v13:AV) (H:Heap):Prop:=LoopV (wpC Tryz.prog tab D40 (cAt [1,1,0,1,0,0] (bodyOf Tryz.f40))) [3,11,12] (PostF.block 0 (PostF.thenA (wpC Tryz.prog tab D40 (cAt [1,1,1] (bodyOf Tryz.f40))) (retF tab [.tmp 2] K))) [13] [AV.any,AV.any,AV.any,v3,AV.any,AV.any,AV.any,AV.any,AV.any,AV.any,AV.any,v11,v12,v13,AV.any,AV.any,AV.any,AV.any,AV.any,AV.any,AV.any,AV.any,AV.any,AV.any,AV.any,AV.any,AV.any,AV.any,AV.any,AV.any,AV.any,AV.any,AV.any,AV.any,AV.any,AV.any,AV.any,AV.any,AV.any,AV.any,AV.any,AV.any,AV.any,AV.any,AV.any,AV.any,AV.any,AV.any,AV.any,AV.any,AV.any] H
def L40_1 (K:AV→Heap→Prop) (v3:AV) (v32:AV) (v33:AV) (H:Heap):Prop:=LoopV (wpC Tryz.prog tab D40 (cAt [1,1,1,0,1,0,0] (bodyOf Tryz.f40))) [3,32] (PostF.block 2 (PostF.thenA (wpC Tryz.prog tab D40 (cAt [1,1,1,1] (bodyOf Tryz.f40))) (retF tab [.tmp 2] K))) [33] [AV.any,AV.any,AV.any,v3,AV.any,AV.any,AV.any,AV.any,AV.any,AV.any,AV.any,AV.any,AV.any,AV.any,AV.any,AV.any,AV.any,AV.any,AV.any,AV.any,AV.any,AV.any,AV.any,AV.any,AV.any,AV.any,AV.any,AV.any,AV.any,AV.any,AV.any,AV.any,v32,v33,AV.any,AV.any,AV.any,AV.any,AV.any,AV.any,AV.any,AV.any,AV.any,AV.any,AV.any,AV.any,AV.any,AV.any,AV.any,AV.any,AV.any] H
def B40_1 (K:AV→Heap→Prop) (N1:AV→Heap→Prop) (v3:AV) (v32:AV) (v33:AV) (H:Heap):Prop:=
 binV tab .lss 3 v33 v32 fun v34=>
 condV v34 (indexAddrV tab 24 v3 v33 fun v38=>
 loadV tab 22 v38 H fun v39=>
 CallT Tryz.prog 84 [v39] H fun v40 H8=>
 indexAddrV tab 24 v3 v33 fun v45=>
 loadV tab 22 v45 H8 fun v46=>
 CallT Tryz.prog 85 [v46] H8 fun v47 H9=>
 indexAddrV tab 24 v3 v33 fun v48=>
 storeV tab 22 v48 v47 H9 fun H10=>
 binV tab .add 3 v33 (AV.p (.int .i64 1)) fun v49=>
 N1 v49 H10)
 (K v3 H)
def B40_0 (K:AV→Heap→Prop) (N1:AV→Heap→Prop) (v3:AV) (v11:AV) (v12:AV) (v13:AV) (H:Heap):Prop:=
 binV tab .lss 3 v13 v12 fun v14=>
 condV v14 (indexAddrV tab 32 v11 v13 fun v15=>
 loadV tab 84 v15 H fun v16=>
 allocV tab 84 H fun v5 H3=>
 storeV tab 84 v5 v16 H3 fun H4=>
 fieldAddrV tab 84 v5 0 fun v18=>
 loadV tab 3 v18 H4 fun v19=>
 fieldAddrV tab 84 v5 0 fun v21=>
 loadV tab 3 v21 H4 fun v22=>
 indexAddrV tab 24 v3 v22 fun v23=>
 loadV tab 22 v23 H4 fun v24=>
 fieldAddrV tab 84 v5 2 fun v25=>
 loadV tab 3 v25 H4 fun v26=>
 buildSliceV tab 22 1 [(0,v26)] H4 (wkK fun v27 H5=>
 (loadV tab 3 v18 H5 fun v9019=>
 v19=v9019)∧
 (loadV tab 3 v21 H5 fun v9022=>
 v22=v9022)∧
 (loadV tab 22 v23 H5 fun v9024=>
 v24=v9024)∧
 appendV tab 22 22 v24 v27 H5 (wkK fun v28 H6=>
 (loadV tab 3 v18 H6 fun v9019=>
 v19=v9019)∧
 indexAddrV tab 24 v3 v19 fun v29=>
 storeV tab 22 v29 v28 H6 fun H7=>
 binV tab .add 3 v13 (AV.p (.int .i64 1)) fun v30=>
 N1 v30 H7)))
 (lenV tab 24 v3 fun v32=>
 L40_1 K v3 v32 (AV.p (.int .i64 0)) H)
def W40 (v0:AV) (H:Heap) (K:AV→Heap→Prop):Prop:=
 boxV v0 H fun v1 H1=>
 fieldAddrV tab 34 v1 0 fun v7=>
 loadV tab 3 v7 H1 fun v8=>
 makeSliceV tab 24 v8 v8 H1 fun v9 H2=>
 fieldAddrV tab 34 v1 2 fun v10=>
 loadV tab 32 v10 H2 fun v11=>
 lenV tab 32 v11 fun v12=>
 L40_0 K v9 v11 v12 (AV.p (.int .i64 0)) H2
theorem W40_wp (v0:AV) (H:Heap) (K:AV→Heap→Prop):wpC Tryz.prog tab D40 (bodyOf Tryz.f40) (retF tab [.tmp 2] K) (nthA [v0]) H=W40 v0 H K:=by kernel_rfl
theorem W40_ok {v0:AV} {H:Heap} {K:AV→Heap→Prop} (h:W40 v0 H K):CallT Tryz.prog 40 [v0] H K:=
  CallT.of_wp (D:=D40) tab_ok mixed Tryz.func40 (c:=bodyOf Tryz.f40) (by kernel_rfl) rfl (by kernel_rfl) (rs:=#[.tmp 2]) rfl (by decide +kernel) (by kernel_rfl) (W40_wp v0 H K) h
theorem L40_1_rule {K:AV→Heap→Prop} {v3 v32 v33:AV} {H:Heap} {σ:Type} (s0:σ) (f33:σ→AV) (TH:σ→Heap) (pre:σ→Prop) (μ:σ→Nat)
    (h0:pre s0∧AV.wk v33 (f33 s0)∧Heap.le (TH s0) H)
    (round:∀s,pre s→B40_1 K (fun w33 H'=>∃s',pre s'∧μ s' < μ s∧AV.wk w33 (f33 s')∧Heap.le (TH s') H') v3 v32 (f33 s) (TH s)) :
    L40_1 K v3 v32 v33 H:=by
  unfold L40_1
  exact LoopV.mk s0 (fun s=>[f33 s]) TH pre μ (fun _=>rfl) (Eq.mp (by kernel_rfl) h0) (fun s hs=>Eq.mp (by kernel_rfl) (round s hs))
theorem L40_0_rule {K:AV→Heap→Prop} {v3 v11 v12 v13:AV} {H:Heap} {σ:Type} (s0:σ) (f13:σ→AV) (TH:σ→Heap) (pre:σ→Prop) (μ:σ→Nat)
    (h0:pre s0∧AV.wk v13 (f13 s0)∧Heap.le (TH s0) H)
    (round:∀s,pre s→B40_0 K (fun w13 H'=>∃s',pre s'∧μ s' < μ s∧AV.wk w13 (f13 s')∧Heap.le (TH s') H') v3 v11 v12 (f13 s) (TH s)) :
    L40_0 K v3 v11 v12 v13 H:=by
  unfold L40_0
  exact LoopV.mk s0 (fun s=>[f13 s]) TH pre μ (fun _=>rfl) (Eq.mp (by kernel_rfl) h0) (fun s hs=>Eq.mp (by kernel_rfl) (round s hs))
def D41:Info:=⟨36,fun i=>([],[]),fun i=>if i=3 then ([0,9,10],[3,11]) else if i=11 then ([25,26],[6,27]) else ([],[])⟩
def L41_0 (K:AV→Heap→Prop) (v0:AV) (v3:AV) (v9:AV) (v10:AV) (v11:AV) (H:Heap):Prop:=LoopV (wpC Tryz.prog tab D41 (cAt [1,1,0,1,0,0] (bodyOf Tryz.f41))) [0,9,10] (PostF.block 0 (PostF.thenA (wpC Tryz.prog tab D41 (cAt [1,1,1] (bodyOf Tryz.f41))) (retF tab [.tmp 2] K))) [3,11] [v0,AV.any,AV.any,v3,AV.any,AV.any,AV.any,AV.any,AV.any,v9,v10,v11,AV.any,AV.any,AV.any,AV.any,AV.any,AV.any,AV.any,AV.any,AV.any,AV.any,AV.any,AV.any,AV.any,AV.any,AV.any,AV.any,AV.any,AV.any,AV.any,AV.any,AV.any,AV.any,AV.any,AV.any] H
def L41_1 (K:AV→Heap→Prop) (v6:AV) (v25:AV) (v26:AV) (v27:AV) (H:Heap):Prop:=LoopV (wpC Tryz.prog tab D41 (cAt [1,1,1,1,0,1,0,0] (bodyOf Tryz.f41))) [25,26] (PostF.block 2 (PostF.thenA (wpC Tryz.prog tab D41 (cAt [1,1,1,1,1] (bodyOf Tryz.f41))) (retF tab [.tmp 2] K))) [6,27] [AV.any,AV.any,AV.any,AV.any,AV.any,AV.any,v6,AV.any,AV.any,AV.any,AV.any,AV.any,AV.any,AV.any,AV.any,AV.any,AV.any,AV.any,AV.any,AV.any,AV.any,AV.any,AV.any,AV.any,AV.any,v25,v26,v27,AV.any,AV.any,AV.any,AV.any,AV.any,AV.any,AV.any,AV.any] H
def B41_1 (K:AV→Heap→Prop) (N1:AV→AV→Heap→Prop) (v6:AV) (v25:AV) (v26:AV) (v27:AV) (H:Heap):Prop:=
 binV tab .lss 3 v27 v26 fun v28=>
 condV v28 (indexAddrV tab 24 v25 v27 fun v29=>
 loadV tab 22 v29 H fun v30=>
 appendV tab 22 22 v6 v30 H (wkK fun v33 H2=>
 binV tab .add 3 v27 (AV.p (.int .i64 1)) fun v34=>
 N1 v33 v34 H2))
 (K v6 H)
def B41_0 (K:AV→Heap→Prop) (N1:AV→AV→Heap→Prop) (v0:AV) (v3:AV) (v9:AV) (v10:AV) (v11:AV) (H:Heap):Prop:=
 binV tab .lss 3 v11 v10 fun v12=>
 condV v12 (indexAddrV tab 24 v9 v11 fun v13=>
 loadV tab 22 v13 H fun v14=>
 lenV tab 22 v14 fun v17=>
 binV tab .add 3 v3 v17 fun v18=>
 binV tab .lss 3 v18 (AV.p (.int .i64 0)) fun v20=>
 condV v20 (False)
 (binV tab .add 3 v11 (AV.p (.int .i64 1)) fun v22=>
 N1 v18 v22 H))
 (CallT Tryz.prog 86 [(AV.p .nil),v3] H fun v24 H1=>
 lenV tab 24 v0 fun v26=>
 L41_1 K v24 v0 v26 (AV.p (.int .i64 0)) H1)
def W41 (v0:AV) (H:Heap) (K:AV→Heap→Prop):Prop:=
 lenV tab 24 v0 fun v10=>
 L41_0 K v0 (AV.p (.int .i64 0)) v0 v10 (AV.p (.int .i64 0)) H
theorem W41_wp (v0:AV) (H:Heap) (K:AV→Heap→Prop):wpC Tryz.prog tab D41 (bodyOf Tryz.f41) (retF tab [.tmp 2] K) (nthA [v0]) H=W41 v0 H K:=by kernel_rfl
theorem W41_ok {v0:AV} {H:Heap} {K:AV→Heap→Prop} (h:W41 v0 H K):CallT Tryz.prog 41 [v0] H K:=
  CallT.of_wp (D:=D41) tab_ok mixed Tryz.func41 (c:=bodyOf Tryz.f41) (by kernel_rfl) rfl (by kernel_rfl) (rs:=#[.tmp 2]) rfl (by decide +kernel) (by kernel_rfl) (W41_wp v0 H K) h
theorem W41_hb:HasBody Tryz.prog 41:=⟨_,bodyOf Tryz.f41,Tryz.func41,by kernel_rfl,rfl⟩
theorem L41_1_rule {K:AV→Heap→Prop} {v6 v25 v26 v27:AV} {H:Heap} {σ:Type} (s0:σ) (f6:σ→AV) (f27:σ→AV) (TH:σ→Heap) (pre:σ→Prop) (μ:σ→Nat)
    (h0:pre s0∧AV.wk v6 (f6 s0)∧AV.wk v27 (f27 s0)∧Heap.le (TH s0) H)
    (round:∀s,pre s→B41_1 K (fun w6 w27 H'=>∃s',pre s'∧μ s' < μ s∧AV.wk w6 (f6 s')∧AV.wk w27 (f27 s')∧Heap.le (TH s') H') (f6 s) v25 v26 (f27 s) (TH s)) :
    L41_1 K v6 v25 v26 v27 H:=by
  unfold L41_1
  exact LoopV.mk s0 (fun s=>[f6 s,f27 s]) TH pre μ (fun _=>rfl) (Eq.mp (by kernel_rfl) h0) (fun s hs=>Eq.mp (by kernel_rfl) (round s hs))
theorem L41_0_rule {K:AV→Heap→Prop} {v0 v3 v9 v10 v11:AV} {H:Heap} {σ:Type} (s0:σ) (f3:σ→AV) (f11:σ→AV) (TH:σ→Heap) (pre:σ→Prop) (μ:σ→Nat)
    (h0:pre s0∧AV.wk v3 (f3 s0)∧AV.wk v11 (f11 s0)∧Heap.le (TH s0) H)
    (round:∀s,pre s→B41_0 K (fun w3 w11 H'=>∃s',pre s'∧μ s' < μ s∧AV.wk w3 (f3 s')∧AV.wk w11 (f11 s')∧Heap.le (TH s') H') v0 (f3 s) v9 v10 (f11 s) (TH s)) :
    L41_0 K v0 v3 v9 v10 v11 H:=by
  unfold L41_0
  exact LoopV.mk s0 (fun s=>[f3 s,f11 s]) TH pre μ (fun _=>rfl) (Eq.mp (by kernel_rfl) h0) (fun s hs=>Eq.mp (by kernel_rfl) (round s hs))
def D42:Info:=⟨51,fun i=>if i=5 then ([[],[0],[],[0,1,2],[0,1,2,3],[0,1,2,3,4],[0,1,2,3,4,5],[0,1,2,3,4],[0,1,2,3,4,5,6,7],[0,1,2,3,4,5,6,7,8],[0,1,2,3,4,5,6,7,8,9],[0,1,2,3,4,5,6,7,8,9,10],[0,1,2,3,4,5,6,7,8,9,10,11],[0,1,2,3,4,5,6,7,8,9,10],[0,1,2,3,4,5,6,7,8,9,10,13],[0,1,2,3,4,5,6,7,8,9,10],[0,1,2,3,4,5,6,7,8,9,10,13,14,15],[0,1,2,3,4,5,6,7,8,9,10,13,14,15,16],[0,1,2,3,4,5,6,7,8,9,10,13,14,15,16,17],[0,1,2,3,4,5,6,7,8,9,10,11,12,13,14,15,16,17,18],[0,1,2,3,4,5,6,7,8,9,10,11,12,13,14,15,16,17,18,19]],[(0,[]),(1,[]),(2,[]),(3,[]),(4,[]),(5,[]),(6,[]),(7,[]),(8,[]),(9,[]),(10,[]),(11,[]),(12,[]),(13,[]),(14,[]),(15,[]),(16,[]),(17,[]),(18,[]),(19,[]),(20,[])]) else ([],[]),fun i=>if i=3 then ([3,4,5,7,15,16],[17]) else ([],[])⟩
def L42_0 (K:AV→Heap→Prop) (v3:AV) (v4:AV) (v5:AV) (v7:AV) (v15:AV) (v16:AV) (v17:AV) (H:Heap):Prop:=LoopV (wpC Tryz.prog tab D42 (cAt [1,1,0,1,0,0] (bodyOf Tryz.f42))) [3,4,5,7,15,16] (PostF.block 0 (PostF.thenA (wpC Tryz.prog tab D42 (cAt [1,1,1] (bodyOf Tryz.f42))) (retF tab [.tmp 6] K))) [17] [AV.any,AV.any,AV.any,v3,v4,v5,AV.any,v7,AV.any,AV.any,AV.any,AV.any,AV.any,AV.any,AV.any,v15,v16,v17,AV.any,AV.any,AV.any,AV.any,AV.any,AV.any,AV.any,AV.any,AV.any,AV.any,AV.any,AV.any,AV.any,AV.any,AV.any,AV.any,AV.any,AV.any,AV.any,AV.any,AV.any,AV.any,AV.any,AV.any,AV.any,AV.any,AV.any,AV.any,AV.any,AV.any,AV.any,AV.any,AV.any] H
def B42_0 (K:AV→Heap→Prop) (N1:AV→Heap→Prop) (v3:AV) (v4:AV) (v5:AV) (v7:AV) (v15:AV) (v16:AV) (v17:AV) (H:Heap):Prop:=
 binV tab .lss 3 v17 v16 fun v18=>
 condV v18 (indexAddrV tab 32 v15 v17 fun v19=>
 loadV tab 84 v19 H fun v20=>
 allocV tab 84 H fun v9 H5=>
 storeV tab 84 v9 v20 H5 fun H6=>
 fieldAddrV tab 84 v9 0 fun v21=>
 loadV tab 3 v21 H6 fun v22=>
 loadV tab 3 v4 H6 fun v23=>
 binV tab .eql 3 v22 v23 fun v24=>
 grdV v24 true (fieldAddrV tab 84 v9 2 fun v26=>
 loadV tab 3 v26 H6 fun v27=>
 loadV tab 3 v5 H6 fun v28=>
 binV tab .eql 3 v27 v28 fun v29=>
 grdV v29 true (fieldAddrV tab 84 v9 1 fun v32=>
 loadV tab 3 v32 H6 fun v33=>
 fieldAddrV tab 34 v3 2 fun v34=>
 loadV tab 32 v34 H6 fun v35=>
 indexAddrV tab 32 v35 v7 fun v37=>
 fieldAddrV tab 84 v37 1 fun v38=>
 loadV tab 3 v38 H6 fun v39=>
 binV tab .lss 3 v33 v39 fun v40=>
 condV v40 (fieldAddrV tab 84 v9 1 fun v42=>
 loadV tab 3 v42 H6 fun v43=>
 K v43 H6)
 (binV tab .add 3 v17 (AV.p (.int .i64 1)) fun v44=>
 N1 v44 H6))
 (binV tab .add 3 v17 (AV.p (.int .i64 1)) fun v44=>
 N1 v44 H6))
 (binV tab .add 3 v17 (AV.p (.int .i64 1)) fun v44=>
 N1 v44 H6))
 (fieldAddrV tab 34 v3 2 fun v45=>
 loadV tab 32 v45 H fun v46=>
 indexAddrV tab 32 v46 v7 fun v48=>
 fieldAddrV tab 84 v48 1 fun v49=>
 loadV tab 3 v49 H fun v50=>
 K v50 H)
def W42 (v0:AV) (v1:AV) (v2:AV) (H:Heap) (K:AV→Heap→Prop):Prop:=
 boxV v0 H fun v3 H1=>
 boxV v1 H1 fun v4 H2=>
 boxV v2 H2 fun v5 H3=>
 fieldAddrV tab 34 v3 2 fun v10=>
 loadV tab 32 v10 H3 fun v11=>
 CallT Tryz.prog 87 [v11,(.fn 88 [v4,v5])] H3 fun v13 H4=>
 fieldAddrV tab 34 v3 2 fun v14=>
 loadV tab 32 v14 H4 fun v15=>
 lenV tab 32 v15 fun v16=>
 L42_0 K v3 v4 v5 v13 v15 v16 (AV.p (.int .i64 0)) H4
theorem W42_wp (v0:AV) (v1:AV) (v2:AV) (H:Heap) (K:AV→Heap→Prop):wpC Tryz.prog tab D42 (bodyOf Tryz.f42) (retF tab [.tmp 6] K) (nthA [v0,v1,v2]) H=W42 v0 v1 v2 H K:=by kernel_rfl
theorem W42_ok {v0 v1 v2:AV} {H:Heap} {K:AV→Heap→Prop} (h:W42 v0 v1 v2 H K):CallT Tryz.prog 42 [v0,v1,v2] H K:=
  CallT.of_wp (D:=D42) tab_ok mixed Tryz.func42 (c:=bodyOf Tryz.f42) (by kernel_rfl) rfl (by kernel_rfl) (rs:=#[.tmp 6]) rfl (by decide +kernel) (by kernel_rfl) (W42_wp v0 v1 v2 H K) h
theorem L42_0_rule {K:AV→Heap→Prop} {v3 v4 v5 v7 v15 v16 v17:AV} {H:Heap} {σ:Type} (s0:σ) (f17:σ→AV) (TH:σ→Heap) (pre:σ→Prop) (μ:σ→Nat)
    (h0:pre s0∧AV.wk v17 (f17 s0)∧Heap.le (TH s0) H)
    (round:∀s,pre s→B42_0 K (fun w17 H'=>∃s',pre s'∧μ s' < μ s∧AV.wk w17 (f17 s')∧Heap.le (TH s') H') v3 v4 v5 v7 v15 v16 (f17 s) (TH s)) :
    L42_0 K v3 v4 v5 v7 v15 v16 v17 H:=by
  unfold L42_0
  exact LoopV.mk s0 (fun s=>[f17 s]) TH pre μ (fun _=>rfl) (Eq.mp (by kernel_rfl) h0) (fun s hs=>Eq.mp (by kernel_rfl) (round s hs))
def D43:Info:=⟨9,fun i=>([],[]),fun i=>([],[])⟩
def W43 (v0:AV) (H:Heap) (K:AV→Heap→Prop):Prop:=
 boxV v0 H fun v1 H1=>
 allocV tab 29 H1 fun v2 H2=>
 loadV tab 29 v1 H2 fun v4=>
 CallT Tryz.prog 89 [v4] H2 fun v5 H3=>
 unV .not v5 fun v6=>
 condV v6 (buildV tab 29 [] fun v7=>
 storeV tab 29 v2 v7 H3 fun H4=>
 loadV tab 29 v2 H4 fun r0=>
 K (.tup [r0,(AV.p (.bool false))]) H4)
 (loadV tab 29 v1 H3 fun v8=>
 storeV tab 29 v2 v8 H3 fun H5=>
 loadV tab 29 v2 H5 fun r0=>
 K (.tup [r0,(AV.p (.bool true))]) H5)
theorem W43_wp (v0:AV) (H:Heap) (K:AV→Heap→Prop):wpC Tryz.prog tab D43 (bodyOf Tryz.f43) (retF tab [.cell 2 29,.tmp 3] K) (nthA [v0]) H=W43 v0 H K:=by kernel_rfl
theorem W43_ok {v0:AV} {H:Heap} {K:AV→Heap→Prop} (h:W43 v0 H K):CallT Tryz.prog 43 [v0] H K:=
  CallT.of_wp (D:=D43) tab_ok mixed Tryz.func43 (c:=bodyOf Tryz.f43) (by kernel_rfl) rfl (by kernel_rfl) (rs:=#[.cell 2 29,.tmp 3]) rfl (by decide +kernel) (by kernel_rfl) (W43_wp v0 H K) h
def D44:Info:=⟨26,fun i=>if i=6 then ([[],[],[0,1],[0,1,2],[],[],[4,5],[4,5,6],[0,1,2,3,4,5,6,7]],[(0,[]),(1,[]),(2,[]),(3,[]),(4,[]),(5,[]),(6,[]),(7,[]),(8,[])]) else ([],[]),fun i=>if i=4 then ([0,1],[5]) else ([],[])⟩
def L44_0 (K:AV→Heap→Prop) (v0:AV) (v1:AV) (v5:AV) (H:Heap):Prop:=LoopV (wpC Tryz.prog tab D44 (cAt [1,1,0,1,0,0] (bodyOf Tryz.f44))) [0,1] (PostF.block 0 (PostF.thenA (wpC Tryz.prog tab D44 (cAt [1,1,1] (bodyOf Tryz.f44))) (retF tab [.tmp 4] K))) [5] [v0,v1,AV.any,AV.any,AV.any,v5,AV.any,AV.any,AV.any,AV.any,AV.any,AV.any,AV.any,AV.any,AV.any,AV.any,AV.any,AV.any,AV.any,AV.any,AV.any,AV.any,AV.any,AV.any,AV.any,AV.any] H
def B44_0 (K:AV→Heap→Prop) (N1:AV→Heap→Prop) (v0:AV) (v1:AV) (v5:AV) (H:Heap):Prop:=
 lenV tab 22 v0 fun v13=>
 binV tab .lss 3 v5 v13 fun v14=>
 condV v14 (indexAddrV tab 22 v0 v5 fun v19=>
 loadV tab 3 v19 H fun v20=>
 indexAddrV tab 22 v1 v5 fun v23=>
 loadV tab 3 v23 H fun v24=>
 binV tab .neq 3 v20 v24 fun v25=>
 condV v25 (K (AV.p (.bool false)) H)
 (binV tab .add 3 v5 (AV.p (.int .i64 1)) fun v16=>
 N1 v16 H))
 (K (AV.p (.bool true)) H)
def W44 (v0:AV) (v1:AV) (H:Heap) (K:AV→Heap→Prop):Prop:=
 lenV tab 22 v0 fun v7=>
 lenV tab 22 v1 fun v9=>
 binV tab .neq 3 v7 v9 fun v10=>
 condV v10 (K (AV.p (.bool false)) H)
 (L44_0 K v0 v1 (AV.p (.int .i64 0)) H)
theorem W44_wp (v0:AV) (v1:AV) (H:Heap) (K:AV→Heap→Prop):wpC Tryz.prog tab D44 (bodyOf Tryz.f44) (retF tab [.tmp 4] K) (nthA [v0,v1]) H=W44 v0 v1 H K:=by kernel_rfl
theorem W44_ok {v0 v1:AV} {H:Heap} {K:AV→Heap→Prop} (h:W44 v0 v1 H K):CallT Tryz.prog 44 [v0,v1] H K:=
  CallT.of_wp (D:=D44) tab_ok mixed Tryz.func44 (c:=bodyOf Tryz.f44) (by kernel_rfl) rfl (by kernel_rfl) (rs:=#[.tmp 4]) rfl (by decide +kernel) (by kernel_rfl) (W44_wp v0 v1 H K) h
theorem L44_0_rule {K:AV→Heap→Prop} {v0 v1 v5:AV} {H:Heap} {σ:Type} (s0:σ) (f5:σ→AV) (TH:σ→Heap) (pre:σ→Prop) (μ:σ→Nat)
    (h0:pre s0∧AV.wk v5 (f5 s0)∧Heap.le (TH s0) H)
    (round:∀s,pre s→B44_0 K (fun w5 H'=>∃s',pre s'∧μ s' < μ s∧AV.wk w5 (f5 s')∧Heap.le (TH s') H') v0 v1 (f5 s) (TH s)) :
    L44_0 K v0 v1 v5 H:=by
  unfold L44_0
  exact LoopV.mk s0 (fun s=>[f5 s]) TH pre μ (fun _=>rfl) (Eq.mp (by kernel_rfl) h0) (fun s hs=>Eq.mp (by kernel_rfl) (round s hs))
def D45:Info:=⟨27,fun i=>if i=6 then ([[],[],[0,1],[0,1,2],[],[],[4,5],[4,5,6],[0,1,2,3,4,5,6,7],[0,1,2,3,4,5,6,7,8]],[(0,[]),(1,[]),(2,[]),(3,[]),(4,[]),(5,[]),(6,[]),(7,[]),(8,[]),(9,[])]) else ([],[]),fun i=>if i=4 then ([0,1],[5]) else ([],[])⟩
def L45_0 (K:AV→Heap→Prop) (v0:AV) (v1:AV) (v5:AV) (H:Heap):Prop:=LoopV (wpC Tryz.prog tab D45 (cAt [1,1,0,1,0,0] (bodyOf Tryz.f45))) [0,1] (PostF.block 0 (PostF.thenA (wpC Tryz.prog tab D45 (cAt [1,1,1] (bodyOf Tryz.f45))) (retF tab [.tmp 4] K))) [5] [v0,v1,AV.any,AV.any,AV.any,v5,AV.any,AV.any,AV.any,AV.any,AV.any,AV.any,AV.any,AV.any,AV.any,AV.any,AV.any,AV.any,AV.any,AV.any,AV.any,AV.any,AV.any,AV.any,AV.any,AV.any,AV.any] H
def B45_0 (K:AV→Heap→Prop) (N1:AV→Heap→Prop) (v0:AV) (v1:AV) (v5:AV) (H:Heap):Prop:=
 lenV tab 32 v0 fun v13=>
 binV tab .lss 3 v5 v13 fun v14=>
 condV v14 (indexAddrV tab 32 v0 v5 fun v19=>
 loadV tab 84 v19 H fun v20=>
 indexAddrV tab 32 v1 v5 fun v23=>
 loadV tab 84 v23 H fun v24=>
 CallT Tryz.prog 90 [v20,v24] H fun v25 H1=>
 unV .not v25 fun v26=>
 condV v26 (K (AV.p (.bool false)) H1)
 (binV tab .add 3 v5 (AV.p (.int .i64 1)) fun v16=>
 N1 v16 H1))
 (K (AV.p (.bool true)) H)
def W45 (v0:AV) (v1:AV) (H:Heap) (K:AV→Heap→Prop):Prop:=
 lenV tab 32 v0 fun v7=>
 lenV tab 32 v1 fun v9=>
 binV tab .neq 3 v7 v9 fun v10=>
 condV v10 (K (AV.p (.bool false)) H)
 (L45_0 K v0 v1 (AV.p (.int .i64 0)) H)
theorem W45_wp (v0:AV) (v1:AV) (H:Heap) (K:AV→Heap→Prop):wpC Tryz.prog tab D45 (bodyOf Tryz.f45) (retF tab [.tmp 4] K) (nthA [v0,v1]) H=W45 v0 v1 H K:=by kernel_rfl
theorem W45_ok {v0 v1:AV} {H:Heap} {K:AV→Heap→Prop} (h:W45 v0 v1 H K):CallT Tryz.prog 45 [v0,v1] H K:=
  CallT.of_wp (D:=D45) tab_ok mixed Tryz.func45 (c:=bodyOf Tryz.f45) (by kernel_rfl) rfl (by kernel_rfl) (rs:=#[.tmp 4]) rfl (by decide +kernel) (by kernel_rfl) (W45_wp v0 v1 H K) h
theorem L45_0_rule {K:AV→Heap→Prop} {v0 v1 v5:AV} {H:Heap} {σ:Type} (s0:σ) (f5:σ→AV) (TH:σ→Heap) (pre:σ→Prop) (μ:σ→Nat)
    (h0:pre s0∧AV.wk v5 (f5 s0)∧Heap.le (TH s0) H)
    (round:∀s,pre s→B45_0 K (fun w5 H'=>∃s',pre s'∧μ s' < μ s∧AV.wk w5 (f5 s')∧Heap.le (TH s') H') v0 v1 (f5 s) (TH s)) :
    L45_0 K v0 v1 v5 H:=by
  unfold L45_0
  exact LoopV.mk s0 (fun s=>[f5 s]) TH pre μ (fun _=>rfl) (Eq.mp (by kernel_rfl) h0) (fun s hs=>Eq.mp (by kernel_rfl) (round s hs))
end Go.Proofs.YtolffbcnbcjeaaaGreat
namespace Go.Proofs.YtolffbcnbcjeaaaGreat
open Go Go.Sep
attribute [local irreducible] wpC headF
def D46:Info:=⟨27,fun i=>if i=6 then ([[],[],[0,1],[0,1,2],[],[],[4,5],[4,5,6],[0,1,2,3,4,5,6,7],[0,1,2,3,4,5,6,7,8]],[(0,[]),(1,[]),(2,[]),(3,[]),(4,[]),(5,[]),(6,[]),(7,[]),(8,[]),(9,[])]) else ([],[]),fun i=>if i=4 then ([0,1],[5]) else ([],[])⟩
def L46_0 (K:AV→Heap→Prop) (v0:AV) (v1:AV) (v5:AV) (H:Heap):Prop:=LoopV (wpC Tryz.prog tab D46 (cAt [1,1,0,1,0,0] (bodyOf Tryz.f46))) [0,1] (PostF.block 0 (PostF.thenA (wpC Tryz.prog tab D46 (cAt [1,1,1] (bodyOf Tryz.f46))) (retF tab [.tmp 4] K))) [5] [v0,v1,AV.any,AV.any,AV.any,v5,AV.any,AV.any,AV.any,AV.any,AV.any,AV.any,AV.any,AV.any,AV.any,AV.any,AV.any,AV.any,AV.any,AV.any,AV.any,AV.any,AV.any,AV.any,AV.any,AV.any,AV.any] H
def B46_0 (K:AV→Heap→Prop) (N1:AV→Heap→Prop) (v0:AV) (v1:AV) (v5:AV) (H:Heap):Prop:=
 lenV tab 24 v0 fun v13=>
 binV tab .lss 3 v5 v13 fun v14=>
 condV v14 (indexAddrV tab 24 v0 v5 fun v19=>
 loadV tab 22 v19 H fun v20=>
 indexAddrV tab 24 v1 v5 fun v23=>
 loadV tab 22 v23 H fun v24=>
 CallT Tryz.prog 44 [v20,v24] H fun v25 H1=>
 unV .not v25 fun v26=>
 condV v26 (K (AV.p (.bool false)) H1)
 (binV tab .add 3 v5 (AV.p (.int .i64 1)) fun v16=>
 N1 v16 H1))
 (K (AV.p (.bool true)) H)
def W46 (v0:AV) (v1:AV) (H:Heap) (K:AV→Heap→Prop):Prop:=
 lenV tab 24 v0 fun v7=>
 lenV tab 24 v1 fun v9=>
 binV tab .neq 3 v7 v9 fun v10=>
 condV v10 (K (AV.p (.bool false)) H)
 (L46_0 K v0 v1 (AV.p (.int .i64 0)) H)
theorem W46_wp (v0:AV) (v1:AV) (H:Heap) (K:AV→Heap→Prop):wpC Tryz.prog tab D46 (bodyOf Tryz.f46) (retF tab [.tmp 4] K) (nthA [v0,v1]) H=W46 v0 v1 H K:=by kernel_rfl
theorem W46_ok {v0 v1:AV} {H:Heap} {K:AV→Heap→Prop} (h:W46 v0 v1 H K):CallT Tryz.prog 46 [v0,v1] H K:=
  CallT.of_wp (D:=D46) tab_ok mixed Tryz.func46 (c:=bodyOf Tryz.f46) (by kernel_rfl) rfl (by kernel_rfl) (rs:=#[.tmp 4]) rfl (by decide +kernel) (by kernel_rfl) (W46_wp v0 v1 H K) h
theorem L46_0_rule {K:AV→Heap→Prop} {v0 v1 v5:AV} {H:Heap} {σ:Type} (s0:σ) (f5:σ→AV) (TH:σ→Heap) (pre:σ→Prop) (μ:σ→Nat)
    (h0:pre s0∧AV.wk v5 (f5 s0)∧Heap.le (TH s0) H)
    (round:∀s,pre s→B46_0 K (fun w5 H'=>∃s',pre s'∧μ s' < μ s∧AV.wk w5 (f5 s')∧Heap.le (TH s') H') v0 v1 (f5 s) (TH s)) :
    L46_0 K v0 v1 v5 H:=by
  unfold L46_0
  exact LoopV.mk s0 (fun s=>[f5 s]) TH pre μ (fun _=>rfl) (Eq.mp (by kernel_rfl) h0) (fun s hs=>Eq.mp (by kernel_rfl) (round s hs))
def D47:Info:=⟨19,fun i=>([],[]),fun i=>if i=2 then ([0],[1,5]) else ([],[])⟩
def L47_0 (K:AV→Heap→Prop) (v0:AV) (v1:AV) (v5:AV) (H:Heap):Prop:=LoopV (wpC Tryz.prog tab D47 (cAt [1,0,1,0,0] (bodyOf Tryz.f47))) [0] (PostF.block 0 (PostF.thenA (wpC Tryz.prog tab D47 (cAt [1,1] (bodyOf Tryz.f47))) (retF tab [.tmp 4] K))) [1,5] [v0,v1,AV.any,AV.any,AV.any,v5,AV.any,AV.any,AV.any,AV.any,AV.any,AV.any,AV.any,AV.any,AV.any,AV.any,AV.any,AV.any,AV.any] H
def B47_0 (K:AV→Heap→Prop) (N1:AV→AV→Heap→Prop) (v0:AV) (v1:AV) (v5:AV) (H:Heap):Prop:=
 lenV tab 22 v0 fun v8=>
 binV tab .lss 3 v5 v8 fun v9=>
 condV v9 (indexAddrV tab 22 v0 v5 fun v15=>
 storeV tab 3 v15 v1 H fun H1=>
 binV tab .add 3 v1 (AV.p (.int .i64 1)) fun v17=>
 binV tab .add 3 v5 (AV.p (.int .i64 1)) fun v11=>
 N1 v17 v11 H1)
 (K v1 H)
def W47 (v0:AV) (v1:AV) (H:Heap) (K:AV→Heap→Prop):Prop:=
 L47_0 K v0 v1 (AV.p (.int .i64 0)) H
theorem W47_wp (v0:AV) (v1:AV) (H:Heap) (K:AV→Heap→Prop):wpC Tryz.prog tab D47 (bodyOf Tryz.f47) (retF tab [.tmp 4] K) (nthA [v0,v1]) H=W47 v0 v1 H K:=by kernel_rfl
theorem W47_ok {v0 v1:AV} {H:Heap} {K:AV→Heap→Prop} (h:W47 v0 v1 H K):CallT Tryz.prog 47 [v0,v1] H K:=
  CallT.of_wp (D:=D47) tab_ok mixed Tryz.func47 (c:=bodyOf Tryz.f47) (by kernel_rfl) rfl (by kernel_rfl) (rs:=#[.tmp 4]) rfl (by decide +kernel) (by kernel_rfl) (W47_wp v0 v1 H K) h
theorem L47_0_rule {K:AV→Heap→Prop} {v0 v1 v5:AV} {H:Heap} {σ:Type} (s0:σ) (f1:σ→AV) (f5:σ→AV) (TH:σ→Heap) (pre:σ→Prop) (μ:σ→Nat)
    (h0:pre s0∧AV.wk v1 (f1 s0)∧AV.wk v5 (f5 s0)∧Heap.le (TH s0) H)
    (round:∀s,pre s→B47_0 K (fun w1 w5 H'=>∃s',pre s'∧μ s' < μ s∧AV.wk w1 (f1 s')∧AV.wk w5 (f5 s')∧Heap.le (TH s') H') v0 (f1 s) (f5 s) (TH s)) :
    L47_0 K v0 v1 v5 H:=by
  unfold L47_0
  exact LoopV.mk s0 (fun s=>[f1 s,f5 s]) TH pre μ (fun _=>rfl) (Eq.mp (by kernel_rfl) h0) (fun s hs=>Eq.mp (by kernel_rfl) (round s hs))
def D48:Info:=⟨34,fun i=>([],[]),fun i=>if i=2 then ([0],[1,5]) else ([],[])⟩
def L48_0 (K:AV→Heap→Prop) (v0:AV) (v1:AV) (v5:AV) (H:Heap):Prop:=LoopV (wpC Tryz.prog tab D48 (cAt [1,0,1,0,0] (bodyOf Tryz.f48))) [0] (PostF.block 0 (PostF.thenA (wpC Tryz.prog tab D48 (cAt [1,1] (bodyOf Tryz.f48))) (retF tab [.tmp 4] K))) [1,5] [v0,v1,AV.any,AV.any,AV.any,v5,AV.any,AV.any,AV.any,AV.any,AV.any,AV.any,AV.any,AV.any,AV.any,AV.any,AV.any,AV.any,AV.any,AV.any,AV.any,AV.any,AV.any,AV.any,AV.any,AV.any,AV.any,AV.any,AV.any,AV.any,AV.any,AV.any,AV.any,AV.any] H
def B48_0 (K:AV→Heap→Prop) (N1:AV→AV→Heap→Prop) (v0:AV) (v1:AV) (v5:AV) (H:Heap):Prop:=
 lenV tab 32 v0 fun v8=>
 binV tab .lss 3 v5 v8 fun v9=>
 condV v9 (indexAddrV tab 32 v0 v5 fun v15=>
 fieldAddrV tab 84 v15 0 fun v16=>
 storeV tab 3 v16 v1 H fun H1=>
 binV tab .add 3 v1 (AV.p (.int .i64 1)) fun v18=>
 indexAddrV tab 32 v0 v5 fun v22=>
 fieldAddrV tab 84 v22 1 fun v23=>
 storeV tab 3 v23 v18 H1 fun H2=>
 binV tab .add 3 v18 (AV.p (.int .i64 1)) fun v25=>
 indexAddrV tab 32 v0 v5 fun v29=>
 fieldAddrV tab 84 v29 2 fun v30=>
 storeV tab 3 v30 v25 H2 fun H3=>
 binV tab .add 3 v25 (AV.p (.int .i64 1)) fun v32=>
 binV tab .add 3 v5 (AV.p (.int .i64 1)) fun v11=>
 N1 v32 v11 H3)
 (K v1 H)
def W48 (v0:AV) (v1:AV) (H:Heap) (K:AV→Heap→Prop):Prop:=
 L48_0 K v0 v1 (AV.p (.int .i64 0)) H
theorem W48_wp (v0:AV) (v1:AV) (H:Heap) (K:AV→Heap→Prop):wpC Tryz.prog tab D48 (bodyOf Tryz.f48) (retF tab [.tmp 4] K) (nthA [v0,v1]) H=W48 v0 v1 H K:=by kernel_rfl
theorem W48_ok {v0 v1:AV} {H:Heap} {K:AV→Heap→Prop} (h:W48 v0 v1 H K):CallT Tryz.prog 48 [v0,v1] H K:=
  CallT.of_wp (D:=D48) tab_ok mixed Tryz.func48 (c:=bodyOf Tryz.f48) (by kernel_rfl) rfl (by kernel_rfl) (rs:=#[.tmp 4]) rfl (by decide +kernel) (by kernel_rfl) (W48_wp v0 v1 H K) h
theorem L48_0_rule {K:AV→Heap→Prop} {v0 v1 v5:AV} {H:Heap} {σ:Type} (s0:σ) (f1:σ→AV) (f5:σ→AV) (TH:σ→Heap) (pre:σ→Prop) (μ:σ→Nat)
    (h0:pre s0∧AV.wk v1 (f1 s0)∧AV.wk v5 (f5 s0)∧Heap.le (TH s0) H)
    (round:∀s,pre s→B48_0 K (fun w1 w5 H'=>∃s',pre s'∧μ s' < μ s∧AV.wk w1 (f1 s')∧AV.wk w5 (f5 s')∧Heap.le (TH s') H') v0 (f1 s) (f5 s) (TH s)) :
    L48_0 K v0 v1 v5 H:=by
  unfold L48_0
  exact LoopV.mk s0 (fun s=>[f1 s,f5 s]) TH pre μ (fun _=>rfl) (Eq.mp (by kernel_rfl) h0) (fun s hs=>Eq.mp (by kernel_rfl) (round s hs))
def D49:Info:=⟨19,fun i=>([],[]),fun i=>if i=2 then ([0],[1,5]) else ([],[])⟩
def L49_0 (K:AV→Heap→Prop) (v0:AV) (v1:AV) (v5:AV) (H:Heap):Prop:=LoopV (wpC Tryz.prog tab D49 (cAt [1,0,1,0,0] (bodyOf Tryz.f49))) [0] (PostF.block 0 (PostF.thenA (wpC Tryz.prog tab D49 (cAt [1,1] (bodyOf Tryz.f49))) (retF tab [.tmp 4] K))) [1,5] [v0,v1,AV.any,AV.any,AV.any,v5,AV.any,AV.any,AV.any,AV.any,AV.any,AV.any,AV.any,AV.any,AV.any,AV.any,AV.any,AV.any,AV.any] H
def B49_0 (K:AV→Heap→Prop) (N1:AV→AV→Heap→Prop) (v0:AV) (v1:AV) (v5:AV) (H:Heap):Prop:=
 lenV tab 24 v0 fun v8=>
 binV tab .lss 3 v5 v8 fun v9=>
 condV v9 (indexAddrV tab 24 v0 v5 fun v14=>
 loadV tab 22 v14 H fun v15=>
 CallT Tryz.prog 47 [v15,v1] H fun v17 H1=>
 binV tab .add 3 v5 (AV.p (.int .i64 1)) fun v11=>
 N1 v17 v11 H1)
 (K v1 H)
def W49 (v0:AV) (v1:AV) (H:Heap) (K:AV→Heap→Prop):Prop:=
 L49_0 K v0 v1 (AV.p (.int .i64 0)) H
theorem W49_wp (v0:AV) (v1:AV) (H:Heap) (K:AV→Heap→Prop):wpC Tryz.prog tab D49 (bodyOf Tryz.f49) (retF tab [.tmp 4] K) (nthA [v0,v1]) H=W49 v0 v1 H K:=by kernel_rfl
theorem W49_ok {v0 v1:AV} {H:Heap} {K:AV→Heap→Prop} (h:W49 v0 v1 H K):CallT Tryz.prog 49 [v0,v1] H K:=
  CallT.of_wp (D:=D49) tab_ok mixed Tryz.func49 (c:=bodyOf Tryz.f49) (by kernel_rfl) rfl (by kernel_rfl) (rs:=#[.tmp 4]) rfl (by decide +kernel) (by kernel_rfl) (W49_wp v0 v1 H K) h
theorem L49_0_rule {K:AV→Heap→Prop} {v0 v1 v5:AV} {H:Heap} {σ:Type} (s0:σ) (f1:σ→AV) (f5:σ→AV) (TH:σ→Heap) (pre:σ→Prop) (μ:σ→Nat)
    (h0:pre s0∧AV.wk v1 (f1 s0)∧AV.wk v5 (f5 s0)∧Heap.le (TH s0) H)
    (round:∀s,pre s→B49_0 K (fun w1 w5 H'=>∃s',pre s'∧μ s' < μ s∧AV.wk w1 (f1 s')∧AV.wk w5 (f5 s')∧Heap.le (TH s') H') v0 (f1 s) (f5 s) (TH s)) :
    L49_0 K v0 v1 v5 H:=by
  unfold L49_0
  exact LoopV.mk s0 (fun s=>[f1 s,f5 s]) TH pre μ (fun _=>rfl) (Eq.mp (by kernel_rfl) h0) (fun s hs=>Eq.mp (by kernel_rfl) (round s hs))
def D50:Info:=⟨21,fun i=>([],[]),fun i=>if i=2 then ([0],[1,5]) else ([],[])⟩
def L50_0 (K:AV→Heap→Prop) (v0:AV) (v1:AV) (v5:AV) (H:Heap):Prop:=LoopV (wpC Tryz.prog tab D50 (cAt [1,0,1,0,0] (bodyOf Tryz.f50))) [0] (PostF.block 0 (PostF.thenA (wpC Tryz.prog tab D50 (cAt [1,1] (bodyOf Tryz.f50))) (retF tab [.tmp 4] K))) [1,5] [v0,v1,AV.any,AV.any,AV.any,v5,AV.any,AV.any,AV.any,AV.any,AV.any,AV.any,AV.any,AV.any,AV.any,AV.any,AV.any,AV.any,AV.any,AV.any,AV.any] H
def B50_0 (K:AV→Heap→Prop) (N1:AV→AV→Heap→Prop) (v0:AV) (v1:AV) (v5:AV) (H:Heap):Prop:=
 lenV tab 22 v0 fun v8=>
 binV tab .lss 3 v5 v8 fun v9=>
 condV v9 (indexAddrV tab 22 v0 v5 fun v14=>
 loadV tab 3 v14 H fun v15=>
 binV tab .neq 3 v15 v1 fun v17=>
 condV v17 (K (AV.p (.int .i64 (-1))) H)
 (binV tab .add 3 v1 (AV.p (.int .i64 1)) fun v19=>
 binV tab .add 3 v5 (AV.p (.int .i64 1)) fun v11=>
 N1 v19 v11 H))
 (K v1 H)
def W50 (v0:AV) (v1:AV) (H:Heap) (K:AV→Heap→Prop):Prop:=
 L50_0 K v0 v1 (AV.p (.int .i64 0)) H
theorem W50_wp (v0:AV) (v1:AV) (H:Heap) (K:AV→Heap→Prop):wpC Tryz.prog tab D50 (bodyOf Tryz.f50) (retF tab [.tmp 4] K) (nthA [v0,v1]) H=W50 v0 v1 H K:=by kernel_rfl
theorem W50_ok {v0 v1:AV} {H:Heap} {K:AV→Heap→Prop} (h:W50 v0 v1 H K):CallT Tryz.prog 50 [v0,v1] H K:=
  CallT.of_wp (D:=D50) tab_ok mixed Tryz.func50 (c:=bodyOf Tryz.f50) (by kernel_rfl) rfl (by kernel_rfl) (rs:=#[.tmp 4]) rfl (by decide +kernel) (by kernel_rfl) (W50_wp v0 v1 H K) h
theorem L50_0_rule {K:AV→Heap→Prop} {v0 v1 v5:AV} {H:Heap} {σ:Type} (s0:σ) (f1:σ→AV) (f5:σ→AV) (TH:σ→Heap) (pre:σ→Prop) (μ:σ→Nat)
    (h0:pre s0∧AV.wk v1 (f1 s0)∧AV.wk v5 (f5 s0)∧Heap.le (TH s0) H)
    (round:∀s,pre s→B50_0 K (fun w1 w5 H'=>∃s',pre s'∧μ s' < μ s∧AV.wk w1 (f1 s')∧AV.wk w5 (f5 s')∧Heap.le (TH s') H') v0 (f1 s) (f5 s) (TH s)) :
    L50_0 K v0 v1 v5 H:=by
  unfold L50_0
  exact LoopV.mk s0 (fun s=>[f1 s,f5 s]) TH pre μ (fun _=>rfl) (Eq.mp (by kernel_rfl) h0) (fun s hs=>Eq.mp (by kernel_rfl) (round s hs))
def D56:Info:=⟨49,fun i=>if i=5 then ([[],[0],[0,1],[0,1],[0,1,2,3],[0,1,2,3,4],[0,1,2,3,4,5],[0,1,2,3,4,5,6],[0,1,2,3,4,5,6,7],[0,1,2,3,4,5,6,7,8],[0,1,2,3,4,5,6,7,8,9],[0,1,2,3,4,5,6,7,8,9,10],[0,1,2,3,4,5,6,7,8,9,10,11],[0,1,2,3,4,5,6,7,8,9,10,11],[0,1,2,3,4,5,6,7,8,9,10,11,12,13],[0,1,2,3,4,5,6,7,8,9,10,11,12,13,14],[0,1,2,3,4,5,6,7,8,9,10,11],[0,1,2,3,4,5,6,7,8,9,10,11],[0,1,2,3,4,5,6,7,8,9,10,11,16,17],[0,1,2,3,4,5,6,7,8,9,10,11,16,17,18],[0,1,2,3,4,5,6,7,8,9,10,11,12,13,14,15,16,17,18,19],[0,1,2,3,4,5,6,7,8,9,10,11,12,13,14,15,16,17,18,19,20],[0,1,2,3,4,5,6,7,8,9,10,11,12,13,14,15,16,17,18,19,20,21]],[(0,[]),(1,[]),(2,[]),(3,[]),(4,[]),(5,[]),(6,[]),(7,[]),(8,[]),(9,[]),(10,[]),(11,[]),(12,[]),(13,[]),(14,[]),(15,[]),(16,[]),(17,[]),(18,[]),(19,[]),(20,[]),(21,[]),(22,[])]) else ([],[]),fun i=>if i=3 then ([7,16,17],[8,18]) else ([],[])⟩
def L56_0 (K:AV→Heap→Prop) (v7:AV) (v8:AV) (v16:AV) (v17:AV) (v18:AV) (H:Heap):Prop:=LoopV (wpC Tryz.prog tab D56 (cAt [1,1,0,1,0,0] (bodyOf Tryz.f56))) [7,16,17] (PostF.block 0 (PostF.thenA (wpC Tryz.prog tab D56 (cAt [1,1,1] (bodyOf Tryz.f56))) (retF tab [.tmp 6] K))) [8,18] [AV.any,AV.any,AV.any,AV.any,AV.any,AV.any,AV.any,v7,v8,AV.any,AV.any,AV.any,AV.any,AV.any,AV.any,AV.any,v16,v17,v18,AV.any,AV.any,AV.any,AV.any,AV.any,AV.any,AV.any,AV.any,AV.any,AV.any,AV.any,AV.any,AV.any,AV.any,AV.any,AV.any,AV.any,AV.any,AV.any,AV.any,AV.any,AV.any,AV.any,AV.any,AV.any,AV.any,AV.any,AV.any,AV.any,AV.any] H
def B56_0 (K:AV→Heap→Prop) (N1:AV→AV→Heap→Prop) (v7:AV) (v8:AV) (v16:AV) (v17:AV) (v18:AV) (H:Heap):Prop:=
 binV tab .lss 3 v18 v17 fun v19=>
 condV v19 (indexAddrV tab 116 v16 v18 fun v21=>
 loadV tab 4 v21 H fun v22=>
 grdV v22 true (indexAddrV tab 22 v7 v18 fun v27=>
 loadV tab 3 v27 H fun v28=>
 binV tab .geq 3 v28 (AV.p (.int .i64 0)) fun v29=>
 grdV v29 true (binV tab .lss 3 v8 (AV.p (.int .i64 0)) fun v33=>
 grdV v33 false (indexAddrV tab 22 v7 v18 fun v37=>
 loadV tab 3 v37 H fun v38=>
 indexAddrV tab 22 v7 v8 fun v41=>
 loadV tab 3 v41 H fun v42=>
 binV tab .lss 3 v38 v42 fun v43=>
 condV v43 (binV tab .add 3 v18 (AV.p (.int .i64 1)) fun v47=>
 N1 v18 v47 H)
 (binV tab .add 3 v18 (AV.p (.int .i64 1)) fun v47=>
 N1 v8 v47 H))
 (binV tab .add 3 v18 (AV.p (.int .i64 1)) fun v47=>
 N1 v18 v47 H))
 (binV tab .add 3 v18 (AV.p (.int .i64 1)) fun v47=>
 N1 v8 v47 H))
 (binV tab .add 3 v18 (AV.p (.int .i64 1)) fun v47=>
 N1 v8 v47 H))
 (K v8 H)
def W56 (v0:AV) (v1:AV) (v2:AV) (H:Heap) (K:AV→Heap→Prop):Prop:=
 CallT Tryz.prog 97 [v0,v1] H fun v13 H1=>
 CallT Tryz.prog 98 [v0,v2] H1 fun v16 H2=>
 lenV tab 116 v16 fun v17=>
 L56_0 K v13 (AV.p (.int .i64 (-1))) v16 v17 (AV.p (.int .i64 0)) H2
theorem W56_wp (v0:AV) (v1:AV) (v2:AV) (H:Heap) (K:AV→Heap→Prop):wpC Tryz.prog tab D56 (bodyOf Tryz.f56) (retF tab [.tmp 6] K) (nthA [v0,v1,v2]) H=W56 v0 v1 v2 H K:=by kernel_rfl
theorem W56_ok {v0 v1 v2:AV} {H:Heap} {K:AV→Heap→Prop} (h:W56 v0 v1 v2 H K):CallT Tryz.prog 56 [v0,v1,v2] H K:=
  CallT.of_wp (D:=D56) tab_ok mixed Tryz.func56 (c:=bodyOf Tryz.f56) (by kernel_rfl) rfl (by kernel_rfl) (rs:=#[.tmp 6]) rfl (by decide +kernel) (by kernel_rfl) (W56_wp v0 v1 v2 H K) h
theorem L56_0_rule {K:AV→Heap→Prop} {v7 v8 v16 v17 v18:AV} {H:Heap} {σ:Type} (s0:σ) (f8:σ→AV) (f18:σ→AV) (TH:σ→Heap) (pre:σ→Prop) (μ:σ→Nat)
    (h0:pre s0∧AV.wk v8 (f8 s0)∧AV.wk v18 (f18 s0)∧Heap.le (TH s0) H)
    (round:∀s,pre s→B56_0 K (fun w8 w18 H'=>∃s',pre s'∧μ s' < μ s∧AV.wk w8 (f8 s')∧AV.wk w18 (f18 s')∧Heap.le (TH s') H') v7 (f8 s) v16 v17 (f18 s) (TH s)) :
    L56_0 K v7 v8 v16 v17 v18 H:=by
  unfold L56_0
  exact LoopV.mk s0 (fun s=>[f8 s,f18 s]) TH pre μ (fun _=>rfl) (Eq.mp (by kernel_rfl) h0) (fun s hs=>Eq.mp (by kernel_rfl) (round s hs))
end Go.Proofs.YtolffbcnbcjeaaaGreat
namespace Go.Proofs.YtolffbcnbcjeaaaGreat
open Go Go.Sep
attribute [local irreducible] wpC headF
def D63:Info:=⟨15,fun i=>([],[]),fun i=>([],[])⟩
def W63 (v0:AV) (v1:AV) (v2:AV) (H:Heap) (K:AV→Heap→Prop):Prop:=
 binV tab .geq 3 v0 v1 fun v9=>
 grdV v9 true (binV tab .leq 3 v0 v2 fun v13=>
 K v13 H)
 (K (AV.p (.bool false)) H)
theorem W63_wp (v0:AV) (v1:AV) (v2:AV) (H:Heap) (K:AV→Heap→Prop):wpC Tryz.prog tab D63 (bodyOf Tryz.f63) (retF tab [.tmp 6] K) (nthA [v0,v1,v2]) H=W63 v0 v1 v2 H K:=by kernel_rfl
theorem W63_ok {v0 v1 v2:AV} {H:Heap} {K:AV→Heap→Prop} (h:W63 v0 v1 v2 H K):CallT Tryz.prog 63 [v0,v1,v2] H K:=
  CallT.of_wp (D:=D63) tab_ok mixed Tryz.func63 (c:=bodyOf Tryz.f63) (by kernel_rfl) rfl (by kernel_rfl) (rs:=#[.tmp 6]) rfl (by decide +kernel) (by kernel_rfl) (W63_wp v0 v1 v2 H K) h
def D64:Info:=⟨9,fun i=>([],[]),fun i=>([],[])⟩
def W64 (v0:AV) (v1:AV) (H:Heap) (K:AV→Heap→Prop):Prop:=
 binV tab .sub 3 v1 (AV.p (.int .i64 1)) fun v7=>
 CallT Tryz.prog 106 [v0,(AV.p (.int .i64 0)),v7] H fun v8 H1=>
 K v8 H1
theorem W64_wp (v0:AV) (v1:AV) (H:Heap) (K:AV→Heap→Prop):wpC Tryz.prog tab D64 (bodyOf Tryz.f64) (retF tab [.tmp 4] K) (nthA [v0,v1]) H=W64 v0 v1 H K:=by kernel_rfl
theorem W64_ok {v0 v1:AV} {H:Heap} {K:AV→Heap→Prop} (h:W64 v0 v1 H K):CallT Tryz.prog 64 [v0,v1] H K:=
  CallT.of_wp (D:=D64) tab_ok mixed Tryz.func64 (c:=bodyOf Tryz.f64) (by kernel_rfl) rfl (by kernel_rfl) (rs:=#[.tmp 4]) rfl (by decide +kernel) (by kernel_rfl) (W64_wp v0 v1 H K) h
def D65:Info:=⟨21,fun i=>([],[]),fun i=>if i=4 then ([1,10,11],[12]) else ([],[])⟩
def L65_0 (K:AV→Heap→Prop) (v1:AV) (v10:AV) (v11:AV) (v12:AV) (H:Heap):Prop:=LoopV (wpC Tryz.prog tab D65 (cAt [1,1,0,1,0,0] (bodyOf Tryz.f65))) [1,10,11] (PostF.block 0 (PostF.thenA (wpC Tryz.prog tab D65 (cAt [1,1,1] (bodyOf Tryz.f65))) (retF tab [.tmp 4] K))) [12] [AV.any,v1,AV.any,AV.any,AV.any,AV.any,AV.any,AV.any,AV.any,AV.any,v10,v11,v12,AV.any,AV.any,AV.any,AV.any,AV.any,AV.any,AV.any,AV.any] H
def B65_0 (K:AV→Heap→Prop) (N1:AV→Heap→Prop) (v1:AV) (v10:AV) (v11:AV) (v12:AV) (H:Heap):Prop:=
 binV tab .lss 3 v12 v11 fun v13=>
 condV v13 (indexAddrV tab 24 v10 v12 fun v14=>
 loadV tab 22 v14 H fun v15=>
 CallT Tryz.prog 64 [v15,v1] H fun v18 H1=>
 unV .not v18 fun v19=>
 condV v19 (K (AV.p (.bool false)) H1)
 (binV tab .add 3 v12 (AV.p (.int .i64 1)) fun v20=>
 N1 v20 H1))
 (K (AV.p (.bool true)) H)
def W65 (v0:AV) (v1:AV) (H:Heap) (K:AV→Heap→Prop):Prop:=
 lenV tab 24 v0 fun v8=>
 binV tab .gtr 3 v8 (AV.p (.int .i64 6)) fun v9=>
 condV v9 (K (AV.p (.bool false)) H)
 (lenV tab 24 v0 fun v11=>
 L65_0 K v1 v0 v11 (AV.p (.int .i64 0)) H)
theorem W65_wp (v0:AV) (v1:AV) (H:Heap) (K:AV→Heap→Prop):wpC Tryz.prog tab D65 (bodyOf Tryz.f65) (retF tab [.tmp 4] K) (nthA [v0,v1]) H=W65 v0 v1 H K:=by kernel_rfl
theorem W65_ok {v0 v1:AV} {H:Heap} {K:AV→Heap→Prop} (h:W65 v0 v1 H K):CallT Tryz.prog 65 [v0,v1] H K:=
  CallT.of_wp (D:=D65) tab_ok mixed Tryz.func65 (c:=bodyOf Tryz.f65) (by kernel_rfl) rfl (by kernel_rfl) (rs:=#[.tmp 4]) rfl (by decide +kernel) (by kernel_rfl) (W65_wp v0 v1 H K) h
theorem L65_0_rule {K:AV→Heap→Prop} {v1 v10 v11 v12:AV} {H:Heap} {σ:Type} (s0:σ) (f12:σ→AV) (TH:σ→Heap) (pre:σ→Prop) (μ:σ→Nat)
    (h0:pre s0∧AV.wk v12 (f12 s0)∧Heap.le (TH s0) H)
    (round:∀s,pre s→B65_0 K (fun w12 H'=>∃s',pre s'∧μ s' < μ s∧AV.wk w12 (f12 s')∧Heap.le (TH s') H') v1 v10 v11 (f12 s) (TH s)) :
    L65_0 K v1 v10 v11 v12 H:=by
  unfold L65_0
  exact LoopV.mk s0 (fun s=>[f12 s]) TH pre μ (fun _=>rfl) (Eq.mp (by kernel_rfl) h0) (fun s hs=>Eq.mp (by kernel_rfl) (round s hs))
def D66:Info:=⟨30,fun i=>([],[]),fun i=>([],[])⟩
def W66 (v0:AV) (v1:AV) (H:Heap) (K:AV→Heap→Prop):Prop:=
 boxV v0 H fun v2 H1=>
 boxV v1 H1 fun v3 H2=>
 fieldAddrV tab 84 v2 0 fun v5=>
 loadV tab 3 v5 H2 fun v6=>
 fieldAddrV tab 84 v3 0 fun v7=>
 loadV tab 3 v7 H2 fun v8=>
 binV tab .neq 3 v6 v8 fun v9=>
 condV v9 (fieldAddrV tab 84 v2 0 fun v10=>
 loadV tab 3 v10 H2 fun v11=>
 fieldAddrV tab 84 v3 0 fun v12=>
 loadV tab 3 v12 H2 fun v13=>
 binV tab .lss 3 v11 v13 fun v14=>
 K v14 H2)
 (fieldAddrV tab 84 v2 1 fun v15=>
 loadV tab 3 v15 H2 fun v16=>
 fieldAddrV tab 84 v3 1 fun v17=>
 loadV tab 3 v17 H2 fun v18=>
 binV tab .neq 3 v16 v18 fun v19=>
 condV v19 (fieldAddrV tab 84 v2 1 fun v20=>
 loadV tab 3 v20 H2 fun v21=>
 fieldAddrV tab 84 v3 1 fun v22=>
 loadV tab 3 v22 H2 fun v23=>
 binV tab .lss 3 v21 v23 fun v24=>
 K v24 H2)
 (fieldAddrV tab 84 v2 2 fun v25=>
 loadV tab 3 v25 H2 fun v26=>
 fieldAddrV tab 84 v3 2 fun v27=>
 loadV tab 3 v27 H2 fun v28=>
 binV tab .lss 3 v26 v28 fun v29=>
 K v29 H2))
theorem W66_wp (v0:AV) (v1:AV) (H:Heap) (K:AV→Heap→Prop):wpC Tryz.prog tab D66 (bodyOf Tryz.f66) (retF tab [.tmp 4] K) (nthA [v0,v1]) H=W66 v0 v1 H K:=by kernel_rfl
theorem W66_ok {v0 v1:AV} {H:Heap} {K:AV→Heap→Prop} (h:W66 v0 v1 H K):CallT Tryz.prog 66 [v0,v1] H K:=
  CallT.of_wp (D:=D66) tab_ok mixed Tryz.func66 (c:=bodyOf Tryz.f66) (by kernel_rfl) rfl (by kernel_rfl) (rs:=#[.tmp 4]) rfl (by decide +kernel) (by kernel_rfl) (W66_wp v0 v1 H K) h
end Go.Proofs.YtolffbcnbcjeaaaGreat
