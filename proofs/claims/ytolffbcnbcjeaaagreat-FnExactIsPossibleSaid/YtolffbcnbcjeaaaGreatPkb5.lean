/- Texts laid together: W7 W8 W9. -/
import Derived.Test.YtolffbcnbcjeaaaGreatPkb4
import Derived.KernelRfl
set_option linter.unusedVariables false
set_option linter.unusedSimpArgs false
open Nat renaming reduceAdd→ν1,reduceLeDiff→ν2,reduceLT→ν3,reduceMul→ν4,reduceSub→ν5
open Int renaming reduceToNat→ι1,reduceSub→ι2,reduceAdd→ι3,reduceNeg→ι4
open Array renaming toList→ι5
open Ne renaming symm→ν6
open List renaming forall_mem_cons→ν7
namespace Go.Proofs.YtolffbcnbcjeaaaGreat
open Go Go.Sep
attribute [local irreducible] wpC headF
def D92:Info:=⟨36,fun i=>([],[]),fun i=>if i=3 then ([10,11],[3,12]) else ([],[])⟩
def L92_0 (K:AV→Heap→Prop) (v3:AV) (v10:AV) (v11:AV) (v12:AV) (H:Heap):Prop:=LoopV (wpC Tryz.prog tab D92 (cAt [1,1,0,1,0,0] (bodyOf Tryz.f92))) [10,11] (PostF.block 0 (PostF.thenA (wpC Tryz.prog tab D92 (cAt [1,1,1] (bodyOf Tryz.f92))) (retF tab [.tmp 2] K))) [3,12] [AV.any,AV.any,AV.any,v3,AV.any,AV.any,AV.any,AV.any,AV.any,AV.any,v10,v11,v12,AV.any,AV.any,AV.any,AV.any,AV.any,AV.any,AV.any,AV.any,AV.any,AV.any,AV.any,AV.any,AV.any,AV.any,AV.any,AV.any,AV.any,AV.any,AV.any,AV.any,AV.any,AV.any,AV.any] H
def J92_1 (K:AV→Heap→Prop) (N1:AV→AV→Heap→Prop) (v3:AV) (v4:AV) (v10:AV) (v11:AV) (v12:AV) (v18:AV) (v19:AV) (H:Heap):Prop:=
 condV v19 (CallT Tryz.prog 72 [v3,v4] H fun v24 H4=>
 binV tab .sub 3 v4 (AV.p (.int .i64 1)) fun v26=>
 CallT Tryz.prog 72 [v24,v26] H4 fun v27 H5=>
 binV tab .add 3 v12 (AV.p (.int .i64 1)) fun v34=>
 N1 v27 v34 H5)
 (binV tab .eql 3 v18 (AV.p (.int .i64 4)) fun v29=>
 condV v29 (binV tab .sub 3 v4 (AV.p (.int .i64 1)) fun v32=>
 CallT Tryz.prog 72 [v3,v32] H fun v33 H6=>
 binV tab .add 3 v12 (AV.p (.int .i64 1)) fun v34=>
 N1 v33 v34 H6)
 (binV tab .add 3 v12 (AV.p (.int .i64 1)) fun v34=>
 N1 v3 v34 H))
def B92_0 (K:AV→Heap→Prop) (N1:AV→AV→Heap→Prop) (v3:AV) (v10:AV) (v11:AV) (v12:AV) (H:Heap):Prop:=
 binV tab .lss 3 v12 v11 fun v13=>
 condV v13 (indexAddrV tab 45 v10 v12 fun v15=>
 loadV tab 76 v15 H fun v16=>
 allocV tab 76 H fun v5 H2=>
 storeV tab 76 v5 v16 H2 fun H3=>
 fieldAddrV tab 76 v5 0 fun v17=>
 loadV tab 3 v17 H3 fun v18=>
 binV tab .eql 3 v18 (AV.p (.int .i64 7)) fun v20=>
 condV v20 (J92_1 K N1 v3 v12 v10 v11 v12 v18 v20 H3)
 (binV tab .eql 3 v18 (AV.p (.int .i64 8)) fun v21=>
 J92_1 K N1 v3 v12 v10 v11 v12 v18 v21 H3))
 (K v3 H)
def W92 (v0:AV) (H:Heap) (K:AV→Heap→Prop):Prop:=
 lenV tab 45 v0 fun v7=>
 binV tab .sub 3 v7 (AV.p (.int .i64 1)) fun v8=>
 buildSliceV tab 22 1 [(0,v8)] H (wkK fun v9 H1=>
 lenV tab 45 v0 fun v11=>
 L92_0 K v9 v0 v11 (AV.p (.int .i64 0)) H1)
theorem W92_wp (v0:AV) (H:Heap) (K:AV→Heap→Prop):wpC Tryz.prog tab D92 (bodyOf Tryz.f92) (retF tab [.tmp 2] K) (nthA [v0]) H=W92 v0 H K:=by kernel_rfl
theorem W92_ok {v0:AV} {H:Heap} {K:AV→Heap→Prop} (h:W92 v0 H K):CallT Tryz.prog 92 [v0] H K:=
  CallT.of_wp (D:=D92) tab_ok mixed Tryz.func92 (c:=bodyOf Tryz.f92) (by kernel_rfl) rfl (by kernel_rfl) (rs:=#[.tmp 2]) rfl (by decide +kernel) (by kernel_rfl) (W92_wp v0 H K) h
theorem L92_0_rule {K:AV→Heap→Prop} {v3 v10 v11 v12:AV} {H:Heap} {σ:Type} (s0:σ) (f3:σ→AV) (f12:σ→AV) (TH:σ→Heap) (pre:σ→Prop) (μ:σ→Nat)
    (h0:pre s0∧AV.wk v3 (f3 s0)∧AV.wk v12 (f12 s0)∧Heap.le (TH s0) H)
    (round:∀s,pre s→B92_0 K (fun w3 w12 H'=>∃s',pre s'∧μ s' < μ s∧AV.wk w3 (f3 s')∧AV.wk w12 (f12 s')∧Heap.le (TH s') H') (f3 s) v10 v11 (f12 s) (TH s)) :
    L92_0 K v3 v10 v11 v12 H:=by
  unfold L92_0
  exact LoopV.mk s0 (fun s=>[f3 s,f12 s]) TH pre μ (fun _=>rfl) (Eq.mp (by kernel_rfl) h0) (fun s hs=>Eq.mp (by kernel_rfl) (round s hs))
def D93:Info:=⟨76,fun i=>([],[]),fun i=>if i=3 then ([1,12,13],[5,14]) else if i=8 then ([1,5,6,7,12,13,14],[8,9]) else ([],[])⟩
def L93_0 (K:AV→Heap→Prop) (v1:AV) (v5:AV) (v12:AV) (v13:AV) (v14:AV) (H:Heap):Prop:=LoopV (wpC Tryz.prog tab D93 (cAt [1,1,0,1,0,0] (bodyOf Tryz.f93))) [1,12,13] (PostF.block 0 (PostF.thenA (wpC Tryz.prog tab D93 (cAt [1,1,1] (bodyOf Tryz.f93))) (retF tab [.tmp 4] K))) [5,14] [AV.any,v1,AV.any,AV.any,AV.any,v5,AV.any,AV.any,AV.any,AV.any,AV.any,AV.any,v12,v13,v14,AV.any,AV.any,AV.any,AV.any,AV.any,AV.any,AV.any,AV.any,AV.any,AV.any,AV.any,AV.any,AV.any,AV.any,AV.any,AV.any,AV.any,AV.any,AV.any,AV.any,AV.any,AV.any,AV.any,AV.any,AV.any,AV.any,AV.any,AV.any,AV.any,AV.any,AV.any,AV.any,AV.any,AV.any,AV.any,AV.any,AV.any,AV.any,AV.any,AV.any,AV.any,AV.any,AV.any,AV.any,AV.any,AV.any,AV.any,AV.any,AV.any,AV.any,AV.any,AV.any,AV.any,AV.any,AV.any,AV.any,AV.any,AV.any,AV.any,AV.any,AV.any] H
def L93_1 (K:AV→Heap→Prop) (N1:AV→AV→Heap→Prop) (v1:AV) (v5:AV) (v6:AV) (v7:AV) (v8:AV) (v9:AV) (v12:AV) (v13:AV) (v14:AV) (H:Heap):Prop:=LoopV (wpC Tryz.prog tab D93 (cAt [1,1,0,1,0,0,1,1,0,0,1,1,1,0,1,0,0] (bodyOf Tryz.f93))) [1,5,6,7,12,13,14] (PostF.block 2 (PostF.thenA (wpC Tryz.prog tab D93 (cAt [1,1,0,1,0,0,1,1,0,0,1,1,1,1] (bodyOf Tryz.f93))) (PostF.block 1 (PostF.thenA (wpC Tryz.prog tab D93 (cAt [1,1,0,1,0,0,1,1,1] (bodyOf Tryz.f93))) (loopF (PostF.block 0 (PostF.thenA (wpC Tryz.prog tab D93 (cAt [1,1,1] (bodyOf Tryz.f93))) (retF tab [.tmp 4] K))) (fun e h=>N1 (e 5) (e 14) h)))))) [8,9] [AV.any,v1,AV.any,AV.any,AV.any,v5,v6,v7,v8,v9,AV.any,AV.any,v12,v13,v14,AV.any,AV.any,AV.any,AV.any,AV.any,AV.any,AV.any,AV.any,AV.any,AV.any,AV.any,AV.any,AV.any,AV.any,AV.any,AV.any,AV.any,AV.any,AV.any,AV.any,AV.any,AV.any,AV.any,AV.any,AV.any,AV.any,AV.any,AV.any,AV.any,AV.any,AV.any,AV.any,AV.any,AV.any,AV.any,AV.any,AV.any,AV.any,AV.any,AV.any,AV.any,AV.any,AV.any,AV.any,AV.any,AV.any,AV.any,AV.any,AV.any,AV.any,AV.any,AV.any,AV.any,AV.any,AV.any,AV.any,AV.any,AV.any,AV.any,AV.any,AV.any] H
def J93_2 (K:AV→Heap→Prop) (N1:AV→AV→Heap→Prop) (N2:AV→AV→Heap→Prop) (v1:AV) (v5:AV) (v6:AV) (v7:AV) (v8:AV) (v9:AV) (v12:AV) (v13:AV) (v14:AV) (H:Heap):Prop:=
 buildSliceV tab 22 1 [(0,v9)] H (wkK fun v68 H7=>
 appendV tab 22 22 v8 v68 H7 (wkK fun v69 H8=>
 binV tab .add 3 v9 (AV.p (.int .i64 1)) fun v34=>
 N2 v69 v34 H8))
def J93_3 (K:AV→Heap→Prop) (N1:AV→AV→Heap→Prop) (N2:AV→AV→Heap→Prop) (v1:AV) (v5:AV) (v6:AV) (v7:AV) (v8:AV) (v9:AV) (v10:AV) (v11:AV) (v12:AV) (v13:AV) (v14:AV) (v58:AV) (H:Heap):Prop:=
 grdV v58 true (grdV v10 false (unV .not v11 fun v62=>
 condV v62 (buildSliceV tab 22 1 [(0,v9)] H (wkK fun v68 H5=>
 appendV tab 22 22 v8 v68 H5 (wkK fun v69 H6=>
 binV tab .add 3 v9 (AV.p (.int .i64 1)) fun v34=>
 N2 v69 v34 H6)))
 (binV tab .add 3 v9 (AV.p (.int .i64 1)) fun v34=>
 N2 v8 v34 H))
 (J93_2 K N1 N2 v1 v5 v6 v7 v8 v9 v12 v13 v14 H))
 (binV tab .add 3 v9 (AV.p (.int .i64 1)) fun v34=>
 N2 v8 v34 H)
def B93_1 (K:AV→Heap→Prop) (N1:AV→AV→Heap→Prop) (N2:AV→AV→Heap→Prop) (v1:AV) (v5:AV) (v6:AV) (v7:AV) (v8:AV) (v9:AV) (v12:AV) (v13:AV) (v14:AV) (H:Heap):Prop:=
 lenV tab 22 v1 fun v29=>
 convV tab 3 111 v29 fun v30=>
 binV tab .shl 3 (AV.p (.int .i64 1)) v30 fun v31=>
 binV tab .lss 3 v9 v31 fun v32=>
 condV v32 (CallT Tryz.prog 94 [v1,v9,v6] H fun v38 H3=>
 binV tab .sub 3 v6 (AV.p (.int .i64 1)) fun v42=>
 CallT Tryz.prog 94 [v1,v9,v42] H3 fun v43 H4=>
 fieldAddrV tab 76 v7 0 fun v44=>
 loadV tab 3 v44 H4 fun v45=>
 binV tab .eql 3 v45 (AV.p (.int .i64 7)) fun v46=>
 grdV v46 true (unV .not v38 fun v49=>
 grdV v49 false (grdV v43 false (fieldAddrV tab 76 v7 0 fun v55=>
 loadV tab 3 v55 H4 fun v56=>
 binV tab .eql 3 v56 (AV.p (.int .i64 8)) fun v57=>
 J93_3 K N1 N2 v1 v5 v6 v7 v8 v9 v38 v43 v12 v13 v14 v57 H4)
 (J93_2 K N1 N2 v1 v5 v6 v7 v8 v9 v12 v13 v14 H4))
 (J93_2 K N1 N2 v1 v5 v6 v7 v8 v9 v12 v13 v14 H4))
 (fieldAddrV tab 76 v7 0 fun v55=>
 loadV tab 3 v55 H4 fun v56=>
 binV tab .eql 3 v56 (AV.p (.int .i64 8)) fun v57=>
 J93_3 K N1 N2 v1 v5 v6 v7 v8 v9 v38 v43 v12 v13 v14 v57 H4))
 (buildSliceV tab 24 1 [(0,v8)] H (wkK fun v72 H9=>
 appendV tab 24 24 v5 v72 H9 (wkK fun v73 H10=>
 binV tab .add 3 v14 (AV.p (.int .i64 1)) fun v74=>
 N1 v73 v74 H10)))
def B93_0 (K:AV→Heap→Prop) (N1:AV→AV→Heap→Prop) (v1:AV) (v5:AV) (v12:AV) (v13:AV) (v14:AV) (H:Heap):Prop:=
 binV tab .lss 3 v14 v13 fun v15=>
 condV v15 (indexAddrV tab 45 v12 v14 fun v17=>
 loadV tab 76 v17 H fun v18=>
 allocV tab 76 H fun v7 H1=>
 storeV tab 76 v7 v18 H1 fun H2=>
 fieldAddrV tab 76 v7 0 fun v19=>
 loadV tab 3 v19 H2 fun v20=>
 binV tab .neq 3 v20 (AV.p (.int .i64 7)) fun v21=>
 grdV v21 true (fieldAddrV tab 76 v7 0 fun v23=>
 loadV tab 3 v23 H2 fun v24=>
 binV tab .neq 3 v24 (AV.p (.int .i64 8)) fun v25=>
 condV v25 (binV tab .add 3 v14 (AV.p (.int .i64 1)) fun v74=>
 N1 v5 v74 H2)
 (L93_1 K N1 v1 v5 v14 v7 (AV.p .nil) (AV.p (.int .i64 0)) v12 v13 v14 H2))
 (L93_1 K N1 v1 v5 v14 v7 (AV.p .nil) (AV.p (.int .i64 0)) v12 v13 v14 H2))
 (K v5 H)
def W93 (v0:AV) (v1:AV) (H:Heap) (K:AV→Heap→Prop):Prop:=
 lenV tab 45 v0 fun v13=>
 L93_0 K v1 (AV.p .nil) v0 v13 (AV.p (.int .i64 0)) H
theorem W93_wp (v0:AV) (v1:AV) (H:Heap) (K:AV→Heap→Prop):wpC Tryz.prog tab D93 (bodyOf Tryz.f93) (retF tab [.tmp 4] K) (nthA [v0,v1]) H=W93 v0 v1 H K:=by kernel_rfl
theorem W93_ok {v0 v1:AV} {H:Heap} {K:AV→Heap→Prop} (h:W93 v0 v1 H K):CallT Tryz.prog 93 [v0,v1] H K:=
  CallT.of_wp (D:=D93) tab_ok mixed Tryz.func93 (c:=bodyOf Tryz.f93) (by kernel_rfl) rfl (by kernel_rfl) (rs:=#[.tmp 4]) rfl (by decide +kernel) (by kernel_rfl) (W93_wp v0 v1 H K) h
theorem L93_1_rule {K:AV→Heap→Prop} {N1:AV→AV→Heap→Prop} {v1 v5 v6 v7 v8 v9 v12 v13 v14:AV} {H:Heap} {σ:Type} (s0:σ) (f8:σ→AV) (f9:σ→AV) (TH:σ→Heap) (pre:σ→Prop) (μ:σ→Nat)
    (h0:pre s0∧AV.wk v8 (f8 s0)∧AV.wk v9 (f9 s0)∧Heap.le (TH s0) H)
    (round:∀s,pre s→B93_1 K N1 (fun w8 w9 H'=>∃s',pre s'∧μ s' < μ s∧AV.wk w8 (f8 s')∧AV.wk w9 (f9 s')∧Heap.le (TH s') H') v1 v5 v6 v7 (f8 s) (f9 s) v12 v13 v14 (TH s)) :
    L93_1 K N1 v1 v5 v6 v7 v8 v9 v12 v13 v14 H:=by
  unfold L93_1
  exact LoopV.mk s0 (fun s=>[f8 s,f9 s]) TH pre μ (fun _=>rfl) (Eq.mp (by kernel_rfl) h0) (fun s hs=>Eq.mp (by kernel_rfl) (round s hs))
theorem L93_0_ruleG {K:AV→Heap→Prop} {v1 v5 v12 v13 v14:AV} {H:Heap} {σ:Type} (s0:σ) (f5:σ→AV) (f14:σ→AV) (TH:σ→Heap) (pre:σ→Prop) (μ:σ→Nat)
    (h0:pre s0∧AV.wk v5 (f5 s0)∧AV.wk v14 (f14 s0)∧Heap.le (TH s0) H)
    (round:∀s,pre s→∀q,TH s q=none→B93_0 K (fun w5 w14 H'=>∃s',pre s'∧μ s' < μ s∧AV.wk w5 (f5 s')∧AV.wk w14 (f14 s')∧Heap.le (TH s') H') v1 (f5 s) v12 v13 (f14 s) ((TH s).set q [])) :
    L93_0 K v1 v5 v12 v13 v14 H:=by
  unfold L93_0
  exact LoopV.mkG s0 (fun s=>[f5 s,f14 s]) TH pre μ (fun _=>rfl) (Eq.mp (by kernel_rfl) h0) (fun s hs q hq=>Eq.mp (by kernel_rfl) (round s hs q hq))
def D94:Info:=⟨26,fun i=>([],[]),fun i=>if i=2 then ([1,2,9,10],[11]) else ([],[])⟩
def L94_0 (K:AV→Heap→Prop) (v1:AV) (v2:AV) (v9:AV) (v10:AV) (v11:AV) (H:Heap):Prop:=LoopV (wpC Tryz.prog tab D94 (cAt [1,0,1,0,0] (bodyOf Tryz.f94))) [1,2,9,10] (PostF.block 0 (PostF.thenA (wpC Tryz.prog tab D94 (cAt [1,1] (bodyOf Tryz.f94))) (retF tab [.tmp 6] K))) [11] [AV.any,v1,v2,AV.any,AV.any,AV.any,AV.any,AV.any,AV.any,v9,v10,v11,AV.any,AV.any,AV.any,AV.any,AV.any,AV.any,AV.any,AV.any,AV.any,AV.any,AV.any,AV.any,AV.any,AV.any] H
def B94_0 (K:AV→Heap→Prop) (N1:AV→Heap→Prop) (v1:AV) (v2:AV) (v9:AV) (v10:AV) (v11:AV) (H:Heap):Prop:=
 binV tab .lss 3 v11 v10 fun v12=>
 condV v12 (indexAddrV tab 22 v9 v11 fun v14=>
 loadV tab 3 v14 H fun v15=>
 binV tab .eql 3 v15 v2 fun v18=>
 condV v18 (convV tab 3 111 v11 fun v21=>
 binV tab .shr 3 v1 v21 fun v22=>
 binV tab .and 3 v22 (AV.p (.int .i64 1)) fun v23=>
 binV tab .eql 3 v23 (AV.p (.int .i64 1)) fun v24=>
 K v24 H)
 (binV tab .add 3 v11 (AV.p (.int .i64 1)) fun v25=>
 N1 v25 H))
 (K (AV.p (.bool false)) H)
def W94 (v0:AV) (v1:AV) (v2:AV) (H:Heap) (K:AV→Heap→Prop):Prop:=
 lenV tab 22 v0 fun v10=>
 L94_0 K v1 v2 v0 v10 (AV.p (.int .i64 0)) H
theorem W94_wp (v0:AV) (v1:AV) (v2:AV) (H:Heap) (K:AV→Heap→Prop):wpC Tryz.prog tab D94 (bodyOf Tryz.f94) (retF tab [.tmp 6] K) (nthA [v0,v1,v2]) H=W94 v0 v1 v2 H K:=by kernel_rfl
theorem W94_ok {v0 v1 v2:AV} {H:Heap} {K:AV→Heap→Prop} (h:W94 v0 v1 v2 H K):CallT Tryz.prog 94 [v0,v1,v2] H K:=
  CallT.of_wp (D:=D94) tab_ok mixed Tryz.func94 (c:=bodyOf Tryz.f94) (by kernel_rfl) rfl (by kernel_rfl) (rs:=#[.tmp 6]) rfl (by decide +kernel) (by kernel_rfl) (W94_wp v0 v1 v2 H K) h
theorem L94_0_rule {K:AV→Heap→Prop} {v1 v2 v9 v10 v11:AV} {H:Heap} {σ:Type} (s0:σ) (f11:σ→AV) (TH:σ→Heap) (pre:σ→Prop) (μ:σ→Nat)
    (h0:pre s0∧AV.wk v11 (f11 s0)∧Heap.le (TH s0) H)
    (round:∀s,pre s→B94_0 K (fun w11 H'=>∃s',pre s'∧μ s' < μ s∧AV.wk w11 (f11 s')∧Heap.le (TH s') H') v1 v2 v9 v10 (f11 s) (TH s)) :
    L94_0 K v1 v2 v9 v10 v11 H:=by
  unfold L94_0
  exact LoopV.mk s0 (fun s=>[f11 s]) TH pre μ (fun _=>rfl) (Eq.mp (by kernel_rfl) h0) (fun s hs=>Eq.mp (by kernel_rfl) (round s hs))
def D95:Info:=⟨36,fun i=>([],[]),fun i=>if i=4 then ([9,18,19],[10,20]) else ([],[])⟩
def L95_0 (K:AV→Heap→Prop) (v9:AV) (v10:AV) (v18:AV) (v19:AV) (v20:AV) (H:Heap):Prop:=LoopV (wpC Tryz.prog tab D95 (cAt [1,1,1,0,1,0,0] (bodyOf Tryz.f95))) [9,18,19] (PostF.block 0 (PostF.thenA (wpC Tryz.prog tab D95 (cAt [1,1,1,1] (bodyOf Tryz.f95))) (retF tab [.tmp 8] K))) [10,20] [AV.any,AV.any,AV.any,AV.any,AV.any,AV.any,AV.any,AV.any,AV.any,v9,v10,AV.any,AV.any,AV.any,AV.any,AV.any,AV.any,AV.any,v18,v19,v20,AV.any,AV.any,AV.any,AV.any,AV.any,AV.any,AV.any,AV.any,AV.any,AV.any,AV.any,AV.any,AV.any,AV.any,AV.any] H
def B95_0 (K:AV→Heap→Prop) (N1:AV→AV→Heap→Prop) (v9:AV) (v10:AV) (v18:AV) (v19:AV) (v20:AV) (H:Heap):Prop:=
 binV tab .lss 3 v20 v19 fun v21=>
 condV v21 (indexAddrV tab 22 v18 v20 fun v23=>
 loadV tab 3 v23 H fun v24=>
 indexAddrV tab 116 v9 v24 fun v27=>
 loadV tab 4 v27 H fun v28=>
 condV v28 (convV tab 3 111 v20 fun v31=>
 binV tab .shl 3 (AV.p (.int .i64 1)) v31 fun v32=>
 binV tab .or 3 v10 v32 fun v33=>
 binV tab .add 3 v20 (AV.p (.int .i64 1)) fun v34=>
 N1 v33 v34 H)
 (binV tab .add 3 v20 (AV.p (.int .i64 1)) fun v34=>
 N1 v10 v34 H))
 (K v10 H)
def W95 (v0:AV) (v1:AV) (v2:AV) (v3:AV) (H:Heap) (K:AV→Heap→Prop):Prop:=
 CallT Tryz.prog 124 [v0,v1,v2,v3] H fun v17 H1=>
 lenV tab 22 v1 fun v19=>
 L95_0 K v17 (AV.p (.int .i64 0)) v1 v19 (AV.p (.int .i64 0)) H1
theorem W95_wp (v0:AV) (v1:AV) (v2:AV) (v3:AV) (H:Heap) (K:AV→Heap→Prop):wpC Tryz.prog tab D95 (bodyOf Tryz.f95) (retF tab [.tmp 8] K) (nthA [v0,v1,v2,v3]) H=W95 v0 v1 v2 v3 H K:=by kernel_rfl
theorem W95_ok {v0 v1 v2 v3:AV} {H:Heap} {K:AV→Heap→Prop} (h:W95 v0 v1 v2 v3 H K):CallT Tryz.prog 95 [v0,v1,v2,v3] H K:=
  CallT.of_wp (D:=D95) tab_ok mixed Tryz.func95 (c:=bodyOf Tryz.f95) (by kernel_rfl) rfl (by kernel_rfl) (rs:=#[.tmp 8]) rfl (by decide +kernel) (by kernel_rfl) (W95_wp v0 v1 v2 v3 H K) h
theorem L95_0_rule {K:AV→Heap→Prop} {v9 v10 v18 v19 v20:AV} {H:Heap} {σ:Type} (s0:σ) (f10:σ→AV) (f20:σ→AV) (TH:σ→Heap) (pre:σ→Prop) (μ:σ→Nat)
    (h0:pre s0∧AV.wk v10 (f10 s0)∧AV.wk v20 (f20 s0)∧Heap.le (TH s0) H)
    (round:∀s,pre s→B95_0 K (fun w10 w20 H'=>∃s',pre s'∧μ s' < μ s∧AV.wk w10 (f10 s')∧AV.wk w20 (f20 s')∧Heap.le (TH s') H') v9 (f10 s) v18 v19 (f20 s) (TH s)) :
    L95_0 K v9 v10 v18 v19 v20 H:=by
  unfold L95_0
  exact LoopV.mk s0 (fun s=>[f10 s,f20 s]) TH pre μ (fun _=>rfl) (Eq.mp (by kernel_rfl) h0) (fun s hs=>Eq.mp (by kernel_rfl) (round s hs))
def D96:Info:=⟨9,fun i=>([],[]),fun i=>([],[])⟩
def W96 (v0:AV) (H:Heap) (K:AV→Heap→Prop):Prop:=
 boxV v0 H fun v1 H1=>
 allocV tab 34 H1 fun v2 H2=>
 loadV tab 34 v1 H2 fun v4=>
 CallT Tryz.prog 38 [v4] H2 fun v5 H3=>
 unV .not v5 fun v6=>
 condV v6 (buildV tab 34 [] fun v7=>
 storeV tab 34 v2 v7 H3 fun H4=>
 loadV tab 34 v2 H4 fun r0=>
 K (.tup [r0,(AV.p (.bool false))]) H4)
 (loadV tab 34 v1 H3 fun v8=>
 storeV tab 34 v2 v8 H3 fun H5=>
 loadV tab 34 v2 H5 fun r0=>
 K (.tup [r0,(AV.p (.bool true))]) H5)
theorem W96_wp (v0:AV) (H:Heap) (K:AV→Heap→Prop):wpC Tryz.prog tab D96 (bodyOf Tryz.f96) (retF tab [.cell 2 34,.tmp 3] K) (nthA [v0]) H=W96 v0 H K:=by kernel_rfl
theorem W96_ok {v0:AV} {H:Heap} {K:AV→Heap→Prop} (h:W96 v0 H K):CallT Tryz.prog 96 [v0] H K:=
  CallT.of_wp (D:=D96) tab_ok mixed Tryz.func96 (c:=bodyOf Tryz.f96) (by kernel_rfl) rfl (by kernel_rfl) (rs:=#[.cell 2 34,.tmp 3]) rfl (by decide +kernel) (by kernel_rfl) (W96_wp v0 H K) h
def D97:Info:=⟨64,fun i=>([],[]),fun i=>if i=4 then ([0,5,6,17,18],[19]) else if i=8 then ([0,5],[6]) else if i=11 then ([0,5,37,38],[6,39]) else ([],[])⟩
def L97_0 (K:AV→Heap→Prop) (v0:AV) (v5:AV) (v6:AV) (v17:AV) (v18:AV) (v19:AV) (H:Heap):Prop:=LoopV (wpC Tryz.prog tab D97 (cAt [1,1,1,0,1,0,0] (bodyOf Tryz.f97))) [0,5,6,17,18] (PostF.block 0 (PostF.thenA (wpC Tryz.prog tab D97 (cAt [1,1,1,1] (bodyOf Tryz.f97))) (retF tab [.tmp 4] K))) [19] [v0,AV.any,AV.any,AV.any,AV.any,v5,v6,AV.any,AV.any,AV.any,AV.any,AV.any,AV.any,AV.any,AV.any,AV.any,AV.any,v17,v18,v19,AV.any,AV.any,AV.any,AV.any,AV.any,AV.any,AV.any,AV.any,AV.any,AV.any,AV.any,AV.any,AV.any,AV.any,AV.any,AV.any,AV.any,AV.any,AV.any,AV.any,AV.any,AV.any,AV.any,AV.any,AV.any,AV.any,AV.any,AV.any,AV.any,AV.any,AV.any,AV.any,AV.any,AV.any,AV.any,AV.any,AV.any,AV.any,AV.any,AV.any,AV.any,AV.any,AV.any,AV.any] H
def L97_1 (K:AV→Heap→Prop) (v0:AV) (v5:AV) (v6:AV) (H:Heap):Prop:=LoopV (wpC Tryz.prog tab D97 (cAt [1,1,1,1,0,0,0] (bodyOf Tryz.f97))) [0,5] (PostF.block 2 (PostF.thenA (wpC Tryz.prog tab D97 (cAt [1,1,1,1,1] (bodyOf Tryz.f97))) (retF tab [.tmp 4] K))) [6] [v0,AV.any,AV.any,AV.any,AV.any,v5,v6,AV.any,AV.any,AV.any,AV.any,AV.any,AV.any,AV.any,AV.any,AV.any,AV.any,AV.any,AV.any,AV.any,AV.any,AV.any,AV.any,AV.any,AV.any,AV.any,AV.any,AV.any,AV.any,AV.any,AV.any,AV.any,AV.any,AV.any,AV.any,AV.any,AV.any,AV.any,AV.any,AV.any,AV.any,AV.any,AV.any,AV.any,AV.any,AV.any,AV.any,AV.any,AV.any,AV.any,AV.any,AV.any,AV.any,AV.any,AV.any,AV.any,AV.any,AV.any,AV.any,AV.any,AV.any,AV.any,AV.any,AV.any] H
def L97_2 (K:AV→Heap→Prop) (N1:AV→Heap→Prop) (v0:AV) (v5:AV) (v6:AV) (v37:AV) (v38:AV) (v39:AV) (H:Heap):Prop:=LoopV (wpC Tryz.prog tab D97 (cAt [1,1,1,1,0,0,0,1,0,0,1,0,0] (bodyOf Tryz.f97))) [0,5,37,38] (PostF.block 4 (PostF.block 3 (PostF.thenA (wpC Tryz.prog tab D97 (cAt [1,1,1,1,0,0,0,1,1] (bodyOf Tryz.f97))) (loopF (PostF.block 2 (PostF.thenA (wpC Tryz.prog tab D97 (cAt [1,1,1,1,1] (bodyOf Tryz.f97))) (retF tab [.tmp 4] K))) (fun e h=>N1 (e 6) h))))) [6,39] [v0,AV.any,AV.any,AV.any,AV.any,v5,v6,AV.any,AV.any,AV.any,AV.any,AV.any,AV.any,AV.any,AV.any,AV.any,AV.any,AV.any,AV.any,AV.any,AV.any,AV.any,AV.any,AV.any,AV.any,AV.any,AV.any,AV.any,AV.any,AV.any,AV.any,AV.any,AV.any,AV.any,AV.any,AV.any,AV.any,v37,v38,v39,AV.any,AV.any,AV.any,AV.any,AV.any,AV.any,AV.any,AV.any,AV.any,AV.any,AV.any,AV.any,AV.any,AV.any,AV.any,AV.any,AV.any,AV.any,AV.any,AV.any,AV.any,AV.any,AV.any,AV.any] H
def B97_2 (K:AV→Heap→Prop) (N1:AV→Heap→Prop) (N2:AV→AV→Heap→Prop) (v0:AV) (v5:AV) (v6:AV) (v37:AV) (v38:AV) (v39:AV) (H:Heap):Prop:=
 binV tab .lss 3 v39 v38 fun v40=>
 condV v40 (indexAddrV tab 22 v37 v39 fun v41=>
 loadV tab 3 v41 H fun v42=>
 indexAddrV tab 22 v5 v42 fun v45=>
 loadV tab 3 v45 H fun v46=>
 binV tab .lss 3 v46 (AV.p (.int .i64 0)) fun v47=>
 condV v47 (indexAddrV tab 22 v6 (AV.p (.int .i64 0)) fun v52=>
 loadV tab 3 v52 H fun v53=>
 indexAddrV tab 22 v5 v53 fun v54=>
 loadV tab 3 v54 H fun v55=>
 binV tab .add 3 v55 (AV.p (.int .i64 1)) fun v56=>
 indexAddrV tab 22 v5 v42 fun v57=>
 storeV tab 3 v57 v56 H fun H5=>
 buildSliceV tab 22 1 [(0,v42)] H5 (wkK fun v60 H6=>
 appendV tab 22 22 v6 v60 H6 (wkK fun v61 H7=>
 binV tab .add 3 v39 (AV.p (.int .i64 1)) fun v62=>
 N2 v61 v62 H7)))
 (binV tab .add 3 v39 (AV.p (.int .i64 1)) fun v62=>
 N2 v6 v62 H))
 (sliceV tab 22 v6 (some (AV.p (.int .i64 1))) none none fun v31=>
 N1 v31 H)
def B97_1 (K:AV→Heap→Prop) (N1:AV→Heap→Prop) (v0:AV) (v5:AV) (v6:AV) (H:Heap):Prop:=
 lenV tab 22 v6 fun v28=>
 binV tab .gtr 3 v28 (AV.p (.int .i64 0)) fun v29=>
 condV v29 (indexAddrV tab 22 v6 (AV.p (.int .i64 0)) fun v34=>
 loadV tab 3 v34 H fun v35=>
 indexAddrV tab 24 v0 v35 fun v36=>
 loadV tab 22 v36 H fun v37=>
 lenV tab 22 v37 fun v38=>
 L97_2 K N1 v0 v5 v6 v37 v38 (AV.p (.int .i64 0)) H)
 (K v5 H)
def B97_0 (K:AV→Heap→Prop) (N1:AV→Heap→Prop) (v0:AV) (v5:AV) (v6:AV) (v17:AV) (v18:AV) (v19:AV) (H:Heap):Prop:=
 binV tab .lss 3 v19 v18 fun v20=>
 condV v20 (indexAddrV tab 22 v17 v19 fun v21=>
 loadV tab 3 v21 H fun v22=>
 indexAddrV tab 22 v5 v22 fun v25=>
 storeV tab 3 v25 (AV.p (.int .i64 0)) H fun H4=>
 binV tab .add 3 v19 (AV.p (.int .i64 1)) fun v26=>
 N1 v26 H4)
 (L97_1 K v0 v5 v6 H)
def W97 (v0:AV) (v1:AV) (H:Heap) (K:AV→Heap→Prop):Prop:=
 buildSliceV tab 22 1 [(0,(AV.p (.int .i64 (-1))))] H (wkK fun v11 H1=>
 lenV tab 24 v0 fun v13=>
 CallT Tryz.prog 117 [v11,v13] H1 fun v14 H2=>
 CallT Tryz.prog 82 [v1] H2 fun v16 H3=>
 lenV tab 22 v1 fun v18=>
 L97_0 K v0 v14 v16 v1 v18 (AV.p (.int .i64 0)) H3)
theorem W97_wp (v0:AV) (v1:AV) (H:Heap) (K:AV→Heap→Prop):wpC Tryz.prog tab D97 (bodyOf Tryz.f97) (retF tab [.tmp 4] K) (nthA [v0,v1]) H=W97 v0 v1 H K:=by kernel_rfl
theorem W97_ok {v0 v1:AV} {H:Heap} {K:AV→Heap→Prop} (h:W97 v0 v1 H K):CallT Tryz.prog 97 [v0,v1] H K:=
  CallT.of_wp (D:=D97) tab_ok mixed Tryz.func97 (c:=bodyOf Tryz.f97) (by kernel_rfl) rfl (by kernel_rfl) (rs:=#[.tmp 4]) rfl (by decide +kernel) (by kernel_rfl) (W97_wp v0 v1 H K) h
theorem L97_2_rule {K:AV→Heap→Prop} {N1:AV→Heap→Prop} {v0 v5 v6 v37 v38 v39:AV} {H:Heap} {σ:Type} (s0:σ) (f6:σ→AV) (f39:σ→AV) (TH:σ→Heap) (pre:σ→Prop) (μ:σ→Nat)
    (h0:pre s0∧AV.wk v6 (f6 s0)∧AV.wk v39 (f39 s0)∧Heap.le (TH s0) H)
    (round:∀s,pre s→B97_2 K N1 (fun w6 w39 H'=>∃s',pre s'∧μ s' < μ s∧AV.wk w6 (f6 s')∧AV.wk w39 (f39 s')∧Heap.le (TH s') H') v0 v5 (f6 s) v37 v38 (f39 s) (TH s)) :
    L97_2 K N1 v0 v5 v6 v37 v38 v39 H:=by
  unfold L97_2
  exact LoopV.mk s0 (fun s=>[f6 s,f39 s]) TH pre μ (fun _=>rfl) (Eq.mp (by kernel_rfl) h0) (fun s hs=>Eq.mp (by kernel_rfl) (round s hs))
theorem L97_1_rule {K:AV→Heap→Prop} {v0 v5 v6:AV} {H:Heap} {σ:Type} (s0:σ) (f6:σ→AV) (TH:σ→Heap) (pre:σ→Prop) (μ:σ→Nat)
    (h0:pre s0∧AV.wk v6 (f6 s0)∧Heap.le (TH s0) H)
    (round:∀s,pre s→B97_1 K (fun w6 H'=>∃s',pre s'∧μ s' < μ s∧AV.wk w6 (f6 s')∧Heap.le (TH s') H') v0 v5 (f6 s) (TH s)) :
    L97_1 K v0 v5 v6 H:=by
  unfold L97_1
  exact LoopV.mk s0 (fun s=>[f6 s]) TH pre μ (fun _=>rfl) (Eq.mp (by kernel_rfl) h0) (fun s hs=>Eq.mp (by kernel_rfl) (round s hs))
theorem L97_0_rule {K:AV→Heap→Prop} {v0 v5 v6 v17 v18 v19:AV} {H:Heap} {σ:Type} (s0:σ) (f19:σ→AV) (TH:σ→Heap) (pre:σ→Prop) (μ:σ→Nat)
    (h0:pre s0∧AV.wk v19 (f19 s0)∧Heap.le (TH s0) H)
    (round:∀s,pre s→B97_0 K (fun w19 H'=>∃s',pre s'∧μ s' < μ s∧AV.wk w19 (f19 s')∧Heap.le (TH s') H') v0 v5 v6 v17 v18 (f19 s) (TH s)) :
    L97_0 K v0 v5 v6 v17 v18 v19 H:=by
  unfold L97_0
  exact LoopV.mk s0 (fun s=>[f19 s]) TH pre μ (fun _=>rfl) (Eq.mp (by kernel_rfl) h0) (fun s hs=>Eq.mp (by kernel_rfl) (round s hs))
def D98:Info:=⟨125,fun i=>if i=2 then ([[],[0],[],[2],[0,1],[0,1,2,3,4]],[(0,[]),(2,[]),(1,[3]),(4,[]),(3,[3]),(5,[])]) else if i=9 then ([[],[],[],[1,2],[1,2,3],[],[],[],[6,7],[6,7,8],[5,6,7,8,9],[5,6,7,8,9,10],[5,6,7,8,9,10,11],[5,6,7,8,9,10,11,12],[5,6,7,8,9,10,11,12],[5,6,7,8,9,10,11,12,13,14],[5,6,7,8,9,10,11,12,13,14,15],[5,6,7,8,9,10,11,12],[5,6,7,8,9,10,11,12],[5,6,7,8,9,10,11,12,17,18],[5,6,7,8,9,10,11,12,17,18,19],[5,6,7,8,9,10,11,12,13,14,15,16,17,18,19,20],[5,6,7,8,9,10,11,12,13,14,15,16,17,18,19,20,21],[0,1,2,3,4,5,6,7,8,9,10,11,12,13,14,15,16,17,18,19,20,21,22],[0,1,2,3,4,5,6,7,8,9,10,11,12,13,14,15,16,17,18,19,20,21,22,23]],[(0,[]),(1,[]),(2,[]),(3,[]),(4,[]),(5,[]),(6,[]),(7,[]),(8,[]),(9,[]),(10,[]),(11,[]),(12,[]),(13,[]),(14,[]),(15,[]),(16,[]),(17,[]),(18,[]),(19,[]),(20,[]),(21,[]),(22,[]),(23,[]),(24,[])]) else ([],[]),fun i=>if i=4 then ([1,5,6,7,8,28,29],[30]) else if i=7 then ([1,5,6,7,8,9,28,29,30,35,36],[37]) else if i=13 then ([5,6,7,8,67,68],[69]) else if i=17 then ([5,6,7,8,15,67,68,69,75,76],[77]) else if i=22 then ([5,6,7,8,15,67,68,69,89],[90]) else if i=28 then ([5,7,8,109],[110]) else ([],[])⟩
def L98_0 (K:AV→Heap→Prop) (v1:AV) (v5:AV) (v6:AV) (v7:AV) (v8:AV) (v28:AV) (v29:AV) (v30:AV) (H:Heap):Prop:=LoopV (wpC Tryz.prog tab D98 (cAt [1,1,1,0,1,0,0] (bodyOf Tryz.f98))) [1,5,6,7,8,28,29] (PostF.block 0 (PostF.thenA (wpC Tryz.prog tab D98 (cAt [1,1,1,1] (bodyOf Tryz.f98))) (retF tab [.tmp 4] K))) [30] [AV.any,v1,AV.any,AV.any,AV.any,v5,v6,v7,v8,AV.any,AV.any,AV.any,AV.any,AV.any,AV.any,AV.any,AV.any,AV.any,AV.any,AV.any,AV.any,AV.any,AV.any,AV.any,AV.any,AV.any,AV.any,AV.any,v28,v29,v30,AV.any,AV.any,AV.any,AV.any,AV.any,AV.any,AV.any,AV.any,AV.any,AV.any,AV.any,AV.any,AV.any,AV.any,AV.any,AV.any,AV.any,AV.any,AV.any,AV.any,AV.any,AV.any,AV.any,AV.any,AV.any,AV.any,AV.any,AV.any,AV.any,AV.any,AV.any,AV.any,AV.any,AV.any,AV.any,AV.any,AV.any,AV.any,AV.any,AV.any,AV.any,AV.any,AV.any,AV.any,AV.any,AV.any,AV.any,AV.any,AV.any,AV.any,AV.any,AV.any,AV.any,AV.any,AV.any,AV.any,AV.any,AV.any,AV.any,AV.any,AV.any,AV.any,AV.any,AV.any,AV.any,AV.any,AV.any,AV.any,AV.any,AV.any,AV.any,AV.any,AV.any,AV.any,AV.any,AV.any,AV.any,AV.any,AV.any,AV.any,AV.any,AV.any,AV.any,AV.any,AV.any,AV.any,AV.any,AV.any,AV.any,AV.any,AV.any,AV.any,AV.any,AV.any] H
def L98_1 (K:AV→Heap→Prop) (N1:AV→Heap→Prop) (v1:AV) (v5:AV) (v6:AV) (v7:AV) (v8:AV) (v9:AV) (v28:AV) (v29:AV) (v30:AV) (v35:AV) (v36:AV) (v37:AV) (H:Heap):Prop:=LoopV (wpC Tryz.prog tab D98 (cAt [1,1,1,0,1,0,0,1,1,0,0,1,1,0,0] (bodyOf Tryz.f98))) [1,5,6,7,8,9,28,29,30,35,36] (PostF.block 2 (PostF.block 1 (PostF.thenA (wpC Tryz.prog tab D98 (cAt [1,1,1,0,1,0,0,1,1,1] (bodyOf Tryz.f98))) (loopF (PostF.block 0 (PostF.thenA (wpC Tryz.prog tab D98 (cAt [1,1,1,1] (bodyOf Tryz.f98))) (retF tab [.tmp 4] K))) (fun e h=>N1 (e 30) h))))) [37] [AV.any,v1,AV.any,AV.any,AV.any,v5,v6,v7,v8,v9,AV.any,AV.any,AV.any,AV.any,AV.any,AV.any,AV.any,AV.any,AV.any,AV.any,AV.any,AV.any,AV.any,AV.any,AV.any,AV.any,AV.any,AV.any,v28,v29,v30,AV.any,AV.any,AV.any,AV.any,v35,v36,v37,AV.any,AV.any,AV.any,AV.any,AV.any,AV.any,AV.any,AV.any,AV.any,AV.any,AV.any,AV.any,AV.any,AV.any,AV.any,AV.any,AV.any,AV.any,AV.any,AV.any,AV.any,AV.any,AV.any,AV.any,AV.any,AV.any,AV.any,AV.any,AV.any,AV.any,AV.any,AV.any,AV.any,AV.any,AV.any,AV.any,AV.any,AV.any,AV.any,AV.any,AV.any,AV.any,AV.any,AV.any,AV.any,AV.any,AV.any,AV.any,AV.any,AV.any,AV.any,AV.any,AV.any,AV.any,AV.any,AV.any,AV.any,AV.any,AV.any,AV.any,AV.any,AV.any,AV.any,AV.any,AV.any,AV.any,AV.any,AV.any,AV.any,AV.any,AV.any,AV.any,AV.any,AV.any,AV.any,AV.any,AV.any,AV.any,AV.any,AV.any,AV.any,AV.any,AV.any,AV.any,AV.any,AV.any,AV.any] H
def B98_1 (K:AV→Heap→Prop) (N1:AV→Heap→Prop) (N2:AV→Heap→Prop) (v1:AV) (v5:AV) (v6:AV) (v7:AV) (v8:AV) (v9:AV) (v28:AV) (v29:AV) (v30:AV) (v35:AV) (v36:AV) (v37:AV) (H:Heap):Prop:=
 binV tab .lss 3 v37 v36 fun v38=>
 condV v38 (indexAddrV tab 22 v35 v37 fun v39=>
 loadV tab 3 v39 H fun v40=>
 indexAddrV tab 22 v5 v9 fun v44=>
 loadV tab 3 v44 H fun v45=>
 indexAddrV tab 22 v5 v9 fun v49=>
 loadV tab 3 v49 H fun v50=>
 indexAddrV tab 116 v7 v50 fun v51=>
 loadV tab 4 v51 H fun v52=>
 grdV v52 false (indexAddrV tab 22 v5 v40 fun v56=>
 loadV tab 3 v56 H fun v57=>
 indexAddrV tab 22 v5 v9 fun v60=>
 loadV tab 3 v60 H fun v61=>
 binV tab .eql 3 v57 v61 fun v62=>
 indexAddrV tab 116 v7 v45 fun v64=>
 storeV tab 4 v64 v62 H fun H4=>
 binV tab .add 3 v37 (AV.p (.int .i64 1)) fun v65=>
 N2 v65 H4)
 (indexAddrV tab 116 v7 v45 fun v64=>
 storeV tab 4 v64 (AV.p (.bool true)) H fun H5=>
 binV tab .add 3 v37 (AV.p (.int .i64 1)) fun v65=>
 N2 v65 H5))
 (binV tab .add 3 v30 (AV.p (.int .i64 1)) fun v66=>
 N1 v66 H)
def L98_2 (K:AV→Heap→Prop) (v5:AV) (v6:AV) (v7:AV) (v8:AV) (v67:AV) (v68:AV) (v69:AV) (H:Heap):Prop:=LoopV (wpC Tryz.prog tab D98 (cAt [1,1,1,1,0,1,0,0] (bodyOf Tryz.f98))) [5,6,7,8,67,68] (PostF.block 4 (PostF.thenA (wpC Tryz.prog tab D98 (cAt [1,1,1,1,1] (bodyOf Tryz.f98))) (retF tab [.tmp 4] K))) [69] [AV.any,AV.any,AV.any,AV.any,AV.any,v5,v6,v7,v8,AV.any,AV.any,AV.any,AV.any,AV.any,AV.any,AV.any,AV.any,AV.any,AV.any,AV.any,AV.any,AV.any,AV.any,AV.any,AV.any,AV.any,AV.any,AV.any,AV.any,AV.any,AV.any,AV.any,AV.any,AV.any,AV.any,AV.any,AV.any,AV.any,AV.any,AV.any,AV.any,AV.any,AV.any,AV.any,AV.any,AV.any,AV.any,AV.any,AV.any,AV.any,AV.any,AV.any,AV.any,AV.any,AV.any,AV.any,AV.any,AV.any,AV.any,AV.any,AV.any,AV.any,AV.any,AV.any,AV.any,AV.any,AV.any,v67,v68,v69,AV.any,AV.any,AV.any,AV.any,AV.any,AV.any,AV.any,AV.any,AV.any,AV.any,AV.any,AV.any,AV.any,AV.any,AV.any,AV.any,AV.any,AV.any,AV.any,AV.any,AV.any,AV.any,AV.any,AV.any,AV.any,AV.any,AV.any,AV.any,AV.any,AV.any,AV.any,AV.any,AV.any,AV.any,AV.any,AV.any,AV.any,AV.any,AV.any,AV.any,AV.any,AV.any,AV.any,AV.any,AV.any,AV.any,AV.any,AV.any,AV.any,AV.any,AV.any,AV.any,AV.any,AV.any,AV.any] H
def L98_3 (K:AV→Heap→Prop) (N1:AV→Heap→Prop) (v5:AV) (v6:AV) (v7:AV) (v8:AV) (v15:AV) (v67:AV) (v68:AV) (v69:AV) (v75:AV) (v76:AV) (v77:AV) (H:Heap):Prop:=LoopV (wpC Tryz.prog tab D98 (cAt [1,1,1,1,0,1,0,0,1,1,0,0,1,1,0,1,0,0] (bodyOf Tryz.f98))) [5,6,7,8,15,67,68,69,75,76] (PostF.block 6 (PostF.thenA (wpC Tryz.prog tab D98 (cAt [1,1,1,1,0,1,0,0,1,1,0,0,1,1,1] (bodyOf Tryz.f98))) (PostF.block 5 (PostF.thenA (wpC Tryz.prog tab D98 (cAt [1,1,1,1,0,1,0,0,1,1,1] (bodyOf Tryz.f98))) (loopF (PostF.block 4 (PostF.thenA (wpC Tryz.prog tab D98 (cAt [1,1,1,1,1] (bodyOf Tryz.f98))) (retF tab [.tmp 4] K))) (fun e h=>N1 (e 69) h)))))) [77] [AV.any,AV.any,AV.any,AV.any,AV.any,v5,v6,v7,v8,AV.any,AV.any,AV.any,AV.any,AV.any,AV.any,v15,AV.any,AV.any,AV.any,AV.any,AV.any,AV.any,AV.any,AV.any,AV.any,AV.any,AV.any,AV.any,AV.any,AV.any,AV.any,AV.any,AV.any,AV.any,AV.any,AV.any,AV.any,AV.any,AV.any,AV.any,AV.any,AV.any,AV.any,AV.any,AV.any,AV.any,AV.any,AV.any,AV.any,AV.any,AV.any,AV.any,AV.any,AV.any,AV.any,AV.any,AV.any,AV.any,AV.any,AV.any,AV.any,AV.any,AV.any,AV.any,AV.any,AV.any,AV.any,v67,v68,v69,AV.any,AV.any,AV.any,AV.any,AV.any,v75,v76,v77,AV.any,AV.any,AV.any,AV.any,AV.any,AV.any,AV.any,AV.any,AV.any,AV.any,AV.any,AV.any,AV.any,AV.any,AV.any,AV.any,AV.any,AV.any,AV.any,AV.any,AV.any,AV.any,AV.any,AV.any,AV.any,AV.any,AV.any,AV.any,AV.any,AV.any,AV.any,AV.any,AV.any,AV.any,AV.any,AV.any,AV.any,AV.any,AV.any,AV.any,AV.any,AV.any,AV.any,AV.any,AV.any,AV.any,AV.any] H
def L98_4 (K:AV→Heap→Prop) (N1:AV→Heap→Prop) (v5:AV) (v6:AV) (v7:AV) (v8:AV) (v15:AV) (v67:AV) (v68:AV) (v69:AV) (v89:AV) (v90:AV) (H:Heap):Prop:=LoopV (wpC Tryz.prog tab D98 (cAt [1,1,1,1,0,1,0,0,1,1,0,0,1,1,1,1,0,0] (bodyOf Tryz.f98))) [5,6,7,8,15,67,68,69,89] (PostF.block 8 (PostF.block 5 (PostF.thenA (wpC Tryz.prog tab D98 (cAt [1,1,1,1,0,1,0,0,1,1,1] (bodyOf Tryz.f98))) (loopF (PostF.block 4 (PostF.thenA (wpC Tryz.prog tab D98 (cAt [1,1,1,1,1] (bodyOf Tryz.f98))) (retF tab [.tmp 4] K))) (fun e h=>N1 (e 69) h))))) [90] [AV.any,AV.any,AV.any,AV.any,AV.any,v5,v6,v7,v8,AV.any,AV.any,AV.any,AV.any,AV.any,AV.any,v15,AV.any,AV.any,AV.any,AV.any,AV.any,AV.any,AV.any,AV.any,AV.any,AV.any,AV.any,AV.any,AV.any,AV.any,AV.any,AV.any,AV.any,AV.any,AV.any,AV.any,AV.any,AV.any,AV.any,AV.any,AV.any,AV.any,AV.any,AV.any,AV.any,AV.any,AV.any,AV.any,AV.any,AV.any,AV.any,AV.any,AV.any,AV.any,AV.any,AV.any,AV.any,AV.any,AV.any,AV.any,AV.any,AV.any,AV.any,AV.any,AV.any,AV.any,AV.any,v67,v68,v69,AV.any,AV.any,AV.any,AV.any,AV.any,AV.any,AV.any,AV.any,AV.any,AV.any,AV.any,AV.any,AV.any,AV.any,AV.any,AV.any,AV.any,AV.any,AV.any,v89,v90,AV.any,AV.any,AV.any,AV.any,AV.any,AV.any,AV.any,AV.any,AV.any,AV.any,AV.any,AV.any,AV.any,AV.any,AV.any,AV.any,AV.any,AV.any,AV.any,AV.any,AV.any,AV.any,AV.any,AV.any,AV.any,AV.any,AV.any,AV.any,AV.any,AV.any,AV.any,AV.any,AV.any,AV.any] H
def B98_4 (K:AV→Heap→Prop) (N1:AV→Heap→Prop) (N2:AV→Heap→Prop) (v5:AV) (v6:AV) (v7:AV) (v8:AV) (v15:AV) (v67:AV) (v68:AV) (v69:AV) (v89:AV) (v90:AV) (H:Heap):Prop:=
 binV tab .lss 3 v90 v89 fun v91=>
 condV v91 (indexAddrV tab 116 v7 v90 fun v97=>
 loadV tab 4 v97 H fun v98=>
 grdV v98 true (indexAddrV tab 116 v15 v90 fun v102=>
 loadV tab 4 v102 H fun v103=>
 indexAddrV tab 116 v7 v90 fun v105=>
 storeV tab 4 v105 v103 H fun H8=>
 binV tab .add 3 v90 (AV.p (.int .i64 1)) fun v106=>
 N2 v106 H8)
 (indexAddrV tab 116 v7 v90 fun v105=>
 storeV tab 4 v105 (AV.p (.bool false)) H fun H9=>
 binV tab .add 3 v90 (AV.p (.int .i64 1)) fun v106=>
 N2 v106 H9))
 (binV tab .add 3 v69 (AV.p (.int .i64 1)) fun v107=>
 N1 v107 H)
def B98_3 (K:AV→Heap→Prop) (N1:AV→Heap→Prop) (N2:AV→Heap→Prop) (v5:AV) (v6:AV) (v7:AV) (v8:AV) (v15:AV) (v67:AV) (v68:AV) (v69:AV) (v75:AV) (v76:AV) (v77:AV) (H:Heap):Prop:=
 binV tab .lss 3 v77 v76 fun v78=>
 condV v78 (indexAddrV tab 22 v75 v77 fun v79=>
 loadV tab 3 v79 H fun v80=>
 indexAddrV tab 22 v5 v80 fun v84=>
 loadV tab 3 v84 H fun v85=>
 indexAddrV tab 116 v15 v85 fun v86=>
 storeV tab 4 v86 (AV.p (.bool true)) H fun H7=>
 binV tab .add 3 v77 (AV.p (.int .i64 1)) fun v87=>
 N2 v87 H7)
 (lenV tab 116 v7 fun v89=>
 L98_4 K N1 v5 v6 v7 v8 v15 v67 v68 v69 v89 (AV.p (.int .i64 0)) H)
def L98_5 (K:AV→Heap→Prop) (v5:AV) (v7:AV) (v8:AV) (v109:AV) (v110:AV) (H:Heap):Prop:=LoopV (wpC Tryz.prog tab D98 (cAt [1,1,1,1,1,0,1,0,0] (bodyOf Tryz.f98))) [5,7,8,109] (PostF.block 10 (PostF.thenA (wpC Tryz.prog tab D98 (cAt [1,1,1,1,1,1] (bodyOf Tryz.f98))) (retF tab [.tmp 4] K))) [110] [AV.any,AV.any,AV.any,AV.any,AV.any,v5,AV.any,v7,v8,AV.any,AV.any,AV.any,AV.any,AV.any,AV.any,AV.any,AV.any,AV.any,AV.any,AV.any,AV.any,AV.any,AV.any,AV.any,AV.any,AV.any,AV.any,AV.any,AV.any,AV.any,AV.any,AV.any,AV.any,AV.any,AV.any,AV.any,AV.any,AV.any,AV.any,AV.any,AV.any,AV.any,AV.any,AV.any,AV.any,AV.any,AV.any,AV.any,AV.any,AV.any,AV.any,AV.any,AV.any,AV.any,AV.any,AV.any,AV.any,AV.any,AV.any,AV.any,AV.any,AV.any,AV.any,AV.any,AV.any,AV.any,AV.any,AV.any,AV.any,AV.any,AV.any,AV.any,AV.any,AV.any,AV.any,AV.any,AV.any,AV.any,AV.any,AV.any,AV.any,AV.any,AV.any,AV.any,AV.any,AV.any,AV.any,AV.any,AV.any,AV.any,AV.any,AV.any,AV.any,AV.any,AV.any,AV.any,AV.any,AV.any,AV.any,AV.any,AV.any,AV.any,AV.any,AV.any,AV.any,AV.any,AV.any,AV.any,AV.any,v109,v110,AV.any,AV.any,AV.any,AV.any,AV.any,AV.any,AV.any,AV.any,AV.any,AV.any,AV.any,AV.any,AV.any,AV.any] H
def B98_5 (K:AV→Heap→Prop) (N1:AV→Heap→Prop) (v5:AV) (v7:AV) (v8:AV) (v109:AV) (v110:AV) (H:Heap):Prop:=
 binV tab .lss 3 v110 v109 fun v111=>
 condV v111 (indexAddrV tab 22 v5 v110 fun v118=>
 loadV tab 3 v118 H fun v119=>
 indexAddrV tab 116 v7 v119 fun v120=>
 loadV tab 4 v120 H fun v121=>
 indexAddrV tab 116 v8 v110 fun v122=>
 storeV tab 4 v122 v121 H fun H10=>
 binV tab .add 3 v110 (AV.p (.int .i64 1)) fun v123=>
 N1 v123 H10)
 (K v8 H)
def B98_2 (K:AV→Heap→Prop) (N1:AV→Heap→Prop) (v5:AV) (v6:AV) (v7:AV) (v8:AV) (v67:AV) (v68:AV) (v69:AV) (H:Heap):Prop:=
 binV tab .lss 3 v69 v68 fun v70=>
 condV v70 (indexAddrV tab 24 v67 v69 fun v71=>
 loadV tab 22 v71 H fun v72=>
 makeSliceV tab 116 v6 v6 H fun v74 H6=>
 lenV tab 22 v72 fun v76=>
 L98_3 K N1 v5 v6 v7 v8 v74 v67 v68 v69 v72 v76 (AV.p (.int .i64 0)) H6)
 (lenV tab 116 v8 fun v109=>
 L98_5 K v5 v7 v8 v109 (AV.p (.int .i64 0)) H)
def B98_0 (K:AV→Heap→Prop) (N1:AV→Heap→Prop) (v1:AV) (v5:AV) (v6:AV) (v7:AV) (v8:AV) (v28:AV) (v29:AV) (v30:AV) (H:Heap):Prop:=
 binV tab .lss 3 v30 v29 fun v31=>
 condV v31 (indexAddrV tab 24 v28 v30 fun v33=>
 loadV tab 22 v33 H fun v34=>
 lenV tab 22 v34 fun v36=>
 L98_1 K N1 v1 v5 v6 v7 v8 v30 v28 v29 v30 v34 v36 (AV.p (.int .i64 0)) H)
 (lenV tab 24 v1 fun v68=>
 L98_2 K v5 v6 v7 v8 v1 v68 (AV.p (.int .i64 0)) H)
def W98 (v0:AV) (v1:AV) (H:Heap) (K:AV→Heap→Prop):Prop:=
 CallT Tryz.prog 79 [v0] H fun v21 H1=>
 lenV tab 24 v0 fun v23=>
 safeV (makeN tab 116 v23 v23)∧
 makeSliceV tab 116 v23 v23 H1 fun v25 H2=>
 newV (makeN tab 116 v23 v23) H2 fun v27 H3=>
 lenV tab 24 v0 fun v29=>
 L98_0 K v1 v21 v23 v25 v27 v0 v29 (AV.p (.int .i64 0)) H3
theorem W98_wp (v0:AV) (v1:AV) (H:Heap) (K:AV→Heap→Prop):wpC Tryz.prog tab D98 (bodyOf Tryz.f98) (retF tab [.tmp 4] K) (nthA [v0,v1]) H=W98 v0 v1 H K:=by kernel_rfl
theorem W98_ok {v0 v1:AV} {H:Heap} {K:AV→Heap→Prop} (h:W98 v0 v1 H K):CallT Tryz.prog 98 [v0,v1] H K:=
  CallT.of_wp (D:=D98) tab_ok mixed Tryz.func98 (c:=bodyOf Tryz.f98) (by kernel_rfl) rfl (by kernel_rfl) (rs:=#[.tmp 4]) rfl (by decide +kernel) (by kernel_rfl) (W98_wp v0 v1 H K) h
theorem L98_1_rule {K:AV→Heap→Prop} {N1:AV→Heap→Prop} {v1 v5 v6 v7 v8 v9 v28 v29 v30 v35 v36 v37:AV} {H:Heap} {σ:Type} (s0:σ) (f37:σ→AV) (TH:σ→Heap) (pre:σ→Prop) (μ:σ→Nat)
    (h0:pre s0∧AV.wk v37 (f37 s0)∧Heap.le (TH s0) H)
    (round:∀s,pre s→B98_1 K N1 (fun w37 H'=>∃s',pre s'∧μ s' < μ s∧AV.wk w37 (f37 s')∧Heap.le (TH s') H') v1 v5 v6 v7 v8 v9 v28 v29 v30 v35 v36 (f37 s) (TH s)) :
    L98_1 K N1 v1 v5 v6 v7 v8 v9 v28 v29 v30 v35 v36 v37 H:=by
  unfold L98_1
  exact LoopV.mk s0 (fun s=>[f37 s]) TH pre μ (fun _=>rfl) (Eq.mp (by kernel_rfl) h0) (fun s hs=>Eq.mp (by kernel_rfl) (round s hs))
theorem L98_4_rule {K:AV→Heap→Prop} {N1:AV→Heap→Prop} {v5 v6 v7 v8 v15 v67 v68 v69 v89 v90:AV} {H:Heap} {σ:Type} (s0:σ) (f90:σ→AV) (TH:σ→Heap) (pre:σ→Prop) (μ:σ→Nat)
    (h0:pre s0∧AV.wk v90 (f90 s0)∧Heap.le (TH s0) H)
    (round:∀s,pre s→B98_4 K N1 (fun w90 H'=>∃s',pre s'∧μ s' < μ s∧AV.wk w90 (f90 s')∧Heap.le (TH s') H') v5 v6 v7 v8 v15 v67 v68 v69 v89 (f90 s) (TH s)) :
    L98_4 K N1 v5 v6 v7 v8 v15 v67 v68 v69 v89 v90 H:=by
  unfold L98_4
  exact LoopV.mk s0 (fun s=>[f90 s]) TH pre μ (fun _=>rfl) (Eq.mp (by kernel_rfl) h0) (fun s hs=>Eq.mp (by kernel_rfl) (round s hs))
theorem L98_3_rule {K:AV→Heap→Prop} {N1:AV→Heap→Prop} {v5 v6 v7 v8 v15 v67 v68 v69 v75 v76 v77:AV} {H:Heap} {σ:Type} (s0:σ) (f77:σ→AV) (TH:σ→Heap) (pre:σ→Prop) (μ:σ→Nat)
    (h0:pre s0∧AV.wk v77 (f77 s0)∧Heap.le (TH s0) H)
    (round:∀s,pre s→B98_3 K N1 (fun w77 H'=>∃s',pre s'∧μ s' < μ s∧AV.wk w77 (f77 s')∧Heap.le (TH s') H') v5 v6 v7 v8 v15 v67 v68 v69 v75 v76 (f77 s) (TH s)) :
    L98_3 K N1 v5 v6 v7 v8 v15 v67 v68 v69 v75 v76 v77 H:=by
  unfold L98_3
  exact LoopV.mk s0 (fun s=>[f77 s]) TH pre μ (fun _=>rfl) (Eq.mp (by kernel_rfl) h0) (fun s hs=>Eq.mp (by kernel_rfl) (round s hs))
theorem L98_5_rule {K:AV→Heap→Prop} {v5 v7 v8 v109 v110:AV} {H:Heap} {σ:Type} (s0:σ) (f110:σ→AV) (TH:σ→Heap) (pre:σ→Prop) (μ:σ→Nat)
    (h0:pre s0∧AV.wk v110 (f110 s0)∧Heap.le (TH s0) H)
    (round:∀s,pre s→B98_5 K (fun w110 H'=>∃s',pre s'∧μ s' < μ s∧AV.wk w110 (f110 s')∧Heap.le (TH s') H') v5 v7 v8 v109 (f110 s) (TH s)) :
    L98_5 K v5 v7 v8 v109 v110 H:=by
  unfold L98_5
  exact LoopV.mk s0 (fun s=>[f110 s]) TH pre μ (fun _=>rfl) (Eq.mp (by kernel_rfl) h0) (fun s hs=>Eq.mp (by kernel_rfl) (round s hs))
theorem L98_2_rule {K:AV→Heap→Prop} {v5 v6 v7 v8 v67 v68 v69:AV} {H:Heap} {σ:Type} (s0:σ) (f69:σ→AV) (TH:σ→Heap) (pre:σ→Prop) (μ:σ→Nat)
    (h0:pre s0∧AV.wk v69 (f69 s0)∧Heap.le (TH s0) H)
    (round:∀s,pre s→B98_2 K (fun w69 H'=>∃s',pre s'∧μ s' < μ s∧AV.wk w69 (f69 s')∧Heap.le (TH s') H') v5 v6 v7 v8 v67 v68 (f69 s) (TH s)) :
    L98_2 K v5 v6 v7 v8 v67 v68 v69 H:=by
  unfold L98_2
  exact LoopV.mk s0 (fun s=>[f69 s]) TH pre μ (fun _=>rfl) (Eq.mp (by kernel_rfl) h0) (fun s hs=>Eq.mp (by kernel_rfl) (round s hs))
theorem L98_0_rule {K:AV→Heap→Prop} {v1 v5 v6 v7 v8 v28 v29 v30:AV} {H:Heap} {σ:Type} (s0:σ) (f30:σ→AV) (TH:σ→Heap) (pre:σ→Prop) (μ:σ→Nat)
    (h0:pre s0∧AV.wk v30 (f30 s0)∧Heap.le (TH s0) H)
    (round:∀s,pre s→B98_0 K (fun w30 H'=>∃s',pre s'∧μ s' < μ s∧AV.wk w30 (f30 s')∧Heap.le (TH s') H') v1 v5 v6 v7 v8 v28 v29 (f30 s) (TH s)) :
    L98_0 K v1 v5 v6 v7 v8 v28 v29 v30 H:=by
  unfold L98_0
  exact LoopV.mk s0 (fun s=>[f30 s]) TH pre μ (fun _=>rfl) (Eq.mp (by kernel_rfl) h0) (fun s hs=>Eq.mp (by kernel_rfl) (round s hs))
def D99:Info:=⟨39,fun i=>([],[]),fun i=>if i=5 then ([15,16],[3,17]) else ([],[])⟩
def L99_0 (K:AV→Heap→Prop) (v3:AV) (v15:AV) (v16:AV) (v17:AV) (H:Heap):Prop:=LoopV (wpC Tryz.prog tab D99 (cAt [1,1,1,0,1,0,0] (bodyOf Tryz.f99))) [15,16] (PostF.block 0 (PostF.thenA (wpC Tryz.prog tab D99 (cAt [1,1,1,1] (bodyOf Tryz.f99))) (retF tab [.tmp 2] K))) [3,17] [AV.any,AV.any,AV.any,v3,AV.any,AV.any,AV.any,AV.any,AV.any,AV.any,AV.any,AV.any,AV.any,AV.any,AV.any,v15,v16,v17,AV.any,AV.any,AV.any,AV.any,AV.any,AV.any,AV.any,AV.any,AV.any,AV.any,AV.any,AV.any,AV.any,AV.any,AV.any,AV.any,AV.any,AV.any,AV.any,AV.any,AV.any] H
def B99_0 (K:AV→Heap→Prop) (N1:AV→AV→Heap→Prop) (v3:AV) (v15:AV) (v16:AV) (v17:AV) (H:Heap):Prop:=
 binV tab .lss 3 v17 v16 fun v18=>
 condV v18 (indexAddrV tab 45 v15 v17 fun v19=>
 loadV tab 76 v19 H fun v20=>
 allocV tab 76 H fun v5 H1=>
 storeV tab 76 v5 v20 H1 fun H2=>
 fieldAddrV tab 76 v5 0 fun v21=>
 loadV tab 3 v21 H2 fun v22=>
 CallT Tryz.prog 125 [v22] H2 fun v23 H3=>
 loadV tab 76 v5 H3 fun v24=>
 CallT Tryz.prog 126 [v24] H3 fun v25 H4=>
 unV .not v25 fun v26=>
 grdV v26 false (binV tab .lss 3 v3 v23 fun v30=>
 condV v30 (K (AV.p (.bool false)) H4)
 (binV tab .sub 3 (AV.p (.int .i64 1)) v23 fun v34=>
 binV tab .add 3 v3 v34 fun v35=>
 binV tab .add 3 v17 (AV.p (.int .i64 1)) fun v36=>
 N1 v35 v36 H4))
 (K (AV.p (.bool false)) H4))
 (binV tab .eql 3 v3 (AV.p (.int .i64 1)) fun v38=>
 K v38 H)
def W99 (v0:AV) (H:Heap) (K:AV→Heap→Prop):Prop:=
 lenV tab 45 v0 fun v8=>
 binV tab .lss 3 v8 (AV.p (.int .i64 1)) fun v9=>
 grdV v9 false (lenV tab 45 v0 fun v12=>
 binV tab .gtr 3 v12 (AV.p (.int .i64 16)) fun v13=>
 condV v13 (K (AV.p (.bool false)) H)
 (lenV tab 45 v0 fun v16=>
 L99_0 K (AV.p (.int .i64 0)) v0 v16 (AV.p (.int .i64 0)) H))
 (K (AV.p (.bool false)) H)
theorem W99_wp (v0:AV) (H:Heap) (K:AV→Heap→Prop):wpC Tryz.prog tab D99 (bodyOf Tryz.f99) (retF tab [.tmp 2] K) (nthA [v0]) H=W99 v0 H K:=by kernel_rfl
theorem W99_ok {v0:AV} {H:Heap} {K:AV→Heap→Prop} (h:W99 v0 H K):CallT Tryz.prog 99 [v0] H K:=
  CallT.of_wp (D:=D99) tab_ok mixed Tryz.func99 (c:=bodyOf Tryz.f99) (by kernel_rfl) rfl (by kernel_rfl) (rs:=#[.tmp 2]) rfl (by decide +kernel) (by kernel_rfl) (W99_wp v0 H K) h
theorem L99_0_rule {K:AV→Heap→Prop} {v3 v15 v16 v17:AV} {H:Heap} {σ:Type} (s0:σ) (f3:σ→AV) (f17:σ→AV) (TH:σ→Heap) (pre:σ→Prop) (μ:σ→Nat)
    (h0:pre s0∧AV.wk v3 (f3 s0)∧AV.wk v17 (f17 s0)∧Heap.le (TH s0) H)
    (round:∀s,pre s→B99_0 K (fun w3 w17 H'=>∃s',pre s'∧μ s' < μ s∧AV.wk w3 (f3 s')∧AV.wk w17 (f17 s')∧Heap.le (TH s') H') (f3 s) v15 v16 (f17 s) (TH s)) :
    L99_0 K v3 v15 v16 v17 H:=by
  unfold L99_0
  exact LoopV.mk s0 (fun s=>[f3 s,f17 s]) TH pre μ (fun _=>rfl) (Eq.mp (by kernel_rfl) h0) (fun s hs=>Eq.mp (by kernel_rfl) (round s hs))
end Go.Proofs.YtolffbcnbcjeaaaGreat
namespace Go.Proofs.YtolffbcnbcjeaaaGreat
open Go Go.Sep
attribute [local irreducible] wpC headF
def D100:Info:=⟨51,fun i=>([],[]),fun i=>if i=3 then ([4,13,14],[3,15]) else ([],[])⟩
def L100_0 (K:AV→Heap→Prop) (v3:AV) (v4:AV) (v13:AV) (v14:AV) (v15:AV) (H:Heap):Prop:=LoopV (wpC Tryz.prog tab D100 (cAt [1,1,0,1,0,0] (bodyOf Tryz.f100))) [4,13,14] (PostF.block 0 (PostF.thenA (wpC Tryz.prog tab D100 (cAt [1,1,1] (bodyOf Tryz.f100))) (retF tab [.tmp 2] K))) [3,15] [AV.any,AV.any,AV.any,v3,v4,AV.any,AV.any,AV.any,AV.any,AV.any,AV.any,AV.any,AV.any,v13,v14,v15,AV.any,AV.any,AV.any,AV.any,AV.any,AV.any,AV.any,AV.any,AV.any,AV.any,AV.any,AV.any,AV.any,AV.any,AV.any,AV.any,AV.any,AV.any,AV.any,AV.any,AV.any,AV.any,AV.any,AV.any,AV.any,AV.any,AV.any,AV.any,AV.any,AV.any,AV.any,AV.any,AV.any,AV.any,AV.any] H
def J100_1 (K:AV→Heap→Prop) (N1:AV→AV→Heap→Prop) (v3:AV) (v4:AV) (v5:AV) (v13:AV) (v14:AV) (v15:AV) (v21:AV) (v22:AV) (H:Heap):Prop:=
 condV v22 (indexAddrV tab 24 v4 v5 fun v29=>
 loadV tab 22 v29 H fun v30=>
 indexAddrV tab 22 v30 (AV.p (.int .i64 1)) fun v31=>
 loadV tab 3 v31 H fun v32=>
 buildSliceV tab 22 2 [(0,v5),(1,v32)] H (wkK fun v33 H5=>
 appendV tab 22 22 v3 v33 H5 (wkK fun v34 H6=>
 binV tab .add 3 v15 (AV.p (.int .i64 1)) fun v46=>
 N1 v34 v46 H6)))
 (binV tab .eql 3 v21 (AV.p (.int .i64 4)) fun v36=>
 condV v36 (indexAddrV tab 24 v4 v5 fun v40=>
 loadV tab 22 v40 H fun v41=>
 indexAddrV tab 22 v41 (AV.p (.int .i64 0)) fun v42=>
 loadV tab 3 v42 H fun v43=>
 buildSliceV tab 22 1 [(0,v43)] H (wkK fun v44 H7=>
 appendV tab 22 22 v3 v44 H7 (wkK fun v45 H8=>
 binV tab .add 3 v15 (AV.p (.int .i64 1)) fun v46=>
 N1 v45 v46 H8)))
 (binV tab .add 3 v15 (AV.p (.int .i64 1)) fun v46=>
 N1 v3 v46 H))
def B100_0 (K:AV→Heap→Prop) (N1:AV→AV→Heap→Prop) (v3:AV) (v4:AV) (v13:AV) (v14:AV) (v15:AV) (H:Heap):Prop:=
 binV tab .lss 3 v15 v14 fun v16=>
 condV v16 (indexAddrV tab 45 v13 v15 fun v18=>
 loadV tab 76 v18 H fun v19=>
 allocV tab 76 H fun v6 H3=>
 storeV tab 76 v6 v19 H3 fun H4=>
 fieldAddrV tab 76 v6 0 fun v20=>
 loadV tab 3 v20 H4 fun v21=>
 binV tab .eql 3 v21 (AV.p (.int .i64 7)) fun v23=>
 condV v23 (J100_1 K N1 v3 v4 v15 v13 v14 v15 v21 v23 H4)
 (binV tab .eql 3 v21 (AV.p (.int .i64 8)) fun v24=>
 J100_1 K N1 v3 v4 v15 v13 v14 v15 v21 v24 H4))
 (CallT Tryz.prog 84 [v3] H fun v48 H9=>
 CallT Tryz.prog 85 [v3] H9 fun v50 H10=>
 K v50 H10)
def W100 (v0:AV) (H:Heap) (K:AV→Heap→Prop):Prop:=
 lenV tab 45 v0 fun v8=>
 binV tab .sub 3 v8 (AV.p (.int .i64 1)) fun v9=>
 buildSliceV tab 22 1 [(0,v9)] H (wkK fun v10 H1=>
 CallT Tryz.prog 127 [v0] H1 fun v12 H2=>
 lenV tab 45 v0 fun v14=>
 L100_0 K v10 v12 v0 v14 (AV.p (.int .i64 0)) H2)
theorem W100_wp (v0:AV) (H:Heap) (K:AV→Heap→Prop):wpC Tryz.prog tab D100 (bodyOf Tryz.f100) (retF tab [.tmp 2] K) (nthA [v0]) H=W100 v0 H K:=by kernel_rfl
theorem W100_ok {v0:AV} {H:Heap} {K:AV→Heap→Prop} (h:W100 v0 H K):CallT Tryz.prog 100 [v0] H K:=
  CallT.of_wp (D:=D100) tab_ok mixed Tryz.func100 (c:=bodyOf Tryz.f100) (by kernel_rfl) rfl (by kernel_rfl) (rs:=#[.tmp 2]) rfl (by decide +kernel) (by kernel_rfl) (W100_wp v0 H K) h
theorem L100_0_rule {K:AV→Heap→Prop} {v3 v4 v13 v14 v15:AV} {H:Heap} {σ:Type} (s0:σ) (f3:σ→AV) (f15:σ→AV) (TH:σ→Heap) (pre:σ→Prop) (μ:σ→Nat)
    (h0:pre s0∧AV.wk v3 (f3 s0)∧AV.wk v15 (f15 s0)∧Heap.le (TH s0) H)
    (round:∀s,pre s→B100_0 K (fun w3 w15 H'=>∃s',pre s'∧μ s' < μ s∧AV.wk w3 (f3 s')∧AV.wk w15 (f15 s')∧Heap.le (TH s') H') (f3 s) v4 v13 v14 (f15 s) (TH s)) :
    L100_0 K v3 v4 v13 v14 v15 H:=by
  unfold L100_0
  exact LoopV.mk s0 (fun s=>[f3 s,f15 s]) TH pre μ (fun _=>rfl) (Eq.mp (by kernel_rfl) h0) (fun s hs=>Eq.mp (by kernel_rfl) (round s hs))
def D102:Info:=⟨7,fun i=>([],[]),fun i=>([],[])⟩
def W102 (v0:AV) (H:Heap) (K:AV→Heap→Prop):Prop:=
 CallT Tryz.prog 100 [v0] H fun v4 H1=>
 lenV tab 22 v4 fun v5=>
 binV tab .shl 3 (AV.p (.int .i64 1)) v5 fun v6=>
 K v6 H1
theorem W102_wp (v0:AV) (H:Heap) (K:AV→Heap→Prop):wpC Tryz.prog tab D102 (bodyOf Tryz.f102) (retF tab [.tmp 2] K) (nthA [v0]) H=W102 v0 H K:=by kernel_rfl
theorem W102_ok {v0:AV} {H:Heap} {K:AV→Heap→Prop} (h:W102 v0 H K):CallT Tryz.prog 102 [v0] H K:=
  CallT.of_wp (D:=D102) tab_ok mixed Tryz.func102 (c:=bodyOf Tryz.f102) (by kernel_rfl) rfl (by kernel_rfl) (rs:=#[.tmp 2]) rfl (by decide +kernel) (by kernel_rfl) (W102_wp v0 H K) h
def D103:Info:=⟨11,fun i=>([],[]),fun i=>([],[])⟩
def W103 (v0:AV) (v1:AV) (H:Heap) (K:AV→Heap→Prop):Prop:=
 boxV v0 H fun v2 H1=>
 boxV v1 H1 fun v3 H2=>
 loadV tab 45 v2 H2 fun v6=>
 CallT Tryz.prog 100 [v6] H2 fun v7 H3=>
 allocV tab 22 H3 fun v5 H4=>
 storeV tab 22 v5 v7 H4 fun H5=>
 loadV tab 45 v2 H5 fun v8=>
 CallT Tryz.prog 129 [v8,(.fn 130 [v5,v2,v3])] H5 fun v10 H6=>
 K v10 H6
theorem W103_wp (v0:AV) (v1:AV) (H:Heap) (K:AV→Heap→Prop):wpC Tryz.prog tab D103 (bodyOf Tryz.f103) (retF tab [.tmp 4] K) (nthA [v0,v1]) H=W103 v0 v1 H K:=by kernel_rfl
theorem W103_ok {v0 v1:AV} {H:Heap} {K:AV→Heap→Prop} (h:W103 v0 v1 H K):CallT Tryz.prog 103 [v0,v1] H K:=
  CallT.of_wp (D:=D103) tab_ok mixed Tryz.func103 (c:=bodyOf Tryz.f103) (by kernel_rfl) rfl (by kernel_rfl) (rs:=#[.tmp 4]) rfl (by decide +kernel) (by kernel_rfl) (W103_wp v0 v1 H K) h
def D104:Info:=⟨36,fun i=>([],[]),fun i=>if i=3 then ([0,4,5,13,14],[3,15]) else ([],[])⟩
def L104_0 (K:AV→Heap→Prop) (v0:AV) (v3:AV) (v4:AV) (v5:AV) (v13:AV) (v14:AV) (v15:AV) (H:Heap):Prop:=LoopV (wpC Tryz.prog tab D104 (cAt [1,1,0,1,0,0] (bodyOf Tryz.f104))) [0,4,5,13,14] (PostF.block 0 (PostF.thenA (wpC Tryz.prog tab D104 (cAt [1,1,1] (bodyOf Tryz.f104))) (retF tab [.tmp 2] K))) [3,15] [v0,AV.any,AV.any,v3,v4,v5,AV.any,AV.any,AV.any,AV.any,AV.any,AV.any,AV.any,v13,v14,v15,AV.any,AV.any,AV.any,AV.any,AV.any,AV.any,AV.any,AV.any,AV.any,AV.any,AV.any,AV.any,AV.any,AV.any,AV.any,AV.any,AV.any,AV.any,AV.any,AV.any] H
def J104_1 (K:AV→Heap→Prop) (N1:AV→AV→Heap→Prop) (v0:AV) (v3:AV) (v4:AV) (v5:AV) (v6:AV) (v7:AV) (v13:AV) (v14:AV) (v15:AV) (H:Heap):Prop:=
 CallT Tryz.prog 129 [v0,(.fn 132 [v5,v6,v4,v7])] H fun v31 H12=>
 buildSliceV tab 24 1 [(0,v31)] H12 (wkK fun v32 H13=>
 appendV tab 24 24 v3 v32 H13 (wkK fun v33 H14=>
 binV tab .add 3 v15 (AV.p (.int .i64 1)) fun v34=>
 N1 v33 v34 H14))
def B104_0 (K:AV→Heap→Prop) (N1:AV→AV→Heap→Prop) (v0:AV) (v3:AV) (v4:AV) (v5:AV) (v13:AV) (v14:AV) (v15:AV) (H:Heap):Prop:=
 binV tab .lss 3 v15 v14 fun v16=>
 condV v16 (indexAddrV tab 45 v13 v15 fun v18=>
 loadV tab 76 v18 H fun v19=>
 allocV tab 3 H fun v6 H8=>
 allocV tab 76 H8 fun v7 H9=>
 storeV tab 3 v6 v15 H9 fun H10=>
 storeV tab 76 v7 v19 H10 fun H11=>
 fieldAddrV tab 76 v7 0 fun v20=>
 loadV tab 3 v20 H11 fun v21=>
 binV tab .neq 3 v21 (AV.p (.int .i64 7)) fun v22=>
 grdV v22 true (fieldAddrV tab 76 v7 0 fun v24=>
 loadV tab 3 v24 H11 fun v25=>
 binV tab .neq 3 v25 (AV.p (.int .i64 8)) fun v26=>
 condV v26 (binV tab .add 3 v15 (AV.p (.int .i64 1)) fun v34=>
 N1 v3 v34 H11)
 (J104_1 K N1 v0 v3 v4 v5 v6 v7 v13 v14 v15 H11))
 (J104_1 K N1 v0 v3 v4 v5 v6 v7 v13 v14 v15 H11))
 (K v3 H)
def W104 (v0:AV) (H:Heap) (K:AV→Heap→Prop):Prop:=
 buildSliceV tab 24 0 [] H (wkK fun v8 H1=>
 CallT Tryz.prog 127 [v0] H1 fun v10 H2=>
 CallT Tryz.prog 100 [v0] H2 fun v12 H3=>
 allocV tab 24 H3 fun v4 H4=>
 allocV tab 22 H4 fun v5 H5=>
 storeV tab 24 v4 v10 H5 fun H6=>
 storeV tab 22 v5 v12 H6 fun H7=>
 lenV tab 45 v0 fun v14=>
 L104_0 K v0 v8 v4 v5 v0 v14 (AV.p (.int .i64 0)) H7)
theorem W104_wp (v0:AV) (H:Heap) (K:AV→Heap→Prop):wpC Tryz.prog tab D104 (bodyOf Tryz.f104) (retF tab [.tmp 2] K) (nthA [v0]) H=W104 v0 H K:=by kernel_rfl
theorem W104_ok {v0:AV} {H:Heap} {K:AV→Heap→Prop} (h:W104 v0 H K):CallT Tryz.prog 104 [v0] H K:=
  CallT.of_wp (D:=D104) tab_ok mixed Tryz.func104 (c:=bodyOf Tryz.f104) (by kernel_rfl) rfl (by kernel_rfl) (rs:=#[.tmp 2]) rfl (by decide +kernel) (by kernel_rfl) (W104_wp v0 H K) h
theorem L104_0_rule {K:AV→Heap→Prop} {v0 v3 v4 v5 v13 v14 v15:AV} {H:Heap} {σ:Type} (s0:σ) (f3:σ→AV) (f15:σ→AV) (TH:σ→Heap) (pre:σ→Prop) (μ:σ→Nat)
    (h0:pre s0∧AV.wk v3 (f3 s0)∧AV.wk v15 (f15 s0)∧Heap.le (TH s0) H)
    (round:∀s,pre s→B104_0 K (fun w3 w15 H'=>∃s',pre s'∧μ s' < μ s∧AV.wk w3 (f3 s')∧AV.wk w15 (f15 s')∧Heap.le (TH s') H') v0 (f3 s) v4 v5 v13 v14 (f15 s) (TH s)) :
    L104_0 K v0 v3 v4 v5 v13 v14 v15 H:=by
  unfold L104_0
  exact LoopV.mk s0 (fun s=>[f3 s,f15 s]) TH pre μ (fun _=>rfl) (Eq.mp (by kernel_rfl) h0) (fun s hs=>Eq.mp (by kernel_rfl) (round s hs))
def D105:Info:=⟨33,fun i=>([],[]),fun i=>if i=3 then ([7,16,17],[8,18]) else ([],[])⟩
def L105_0 (K:AV→Heap→Prop) (v7:AV) (v8:AV) (v16:AV) (v17:AV) (v18:AV) (H:Heap):Prop:=LoopV (wpC Tryz.prog tab D105 (cAt [1,1,0,1,0,0] (bodyOf Tryz.f105))) [7,16,17] (PostF.block 0 (PostF.thenA (wpC Tryz.prog tab D105 (cAt [1,1,1] (bodyOf Tryz.f105))) (retF tab [.tmp 6] K))) [8,18] [AV.any,AV.any,AV.any,AV.any,AV.any,AV.any,AV.any,v7,v8,AV.any,AV.any,AV.any,AV.any,AV.any,AV.any,AV.any,v16,v17,v18,AV.any,AV.any,AV.any,AV.any,AV.any,AV.any,AV.any,AV.any,AV.any,AV.any,AV.any,AV.any,AV.any,AV.any] H
def B105_0 (K:AV→Heap→Prop) (N1:AV→AV→Heap→Prop) (v7:AV) (v8:AV) (v16:AV) (v17:AV) (v18:AV) (H:Heap):Prop:=
 binV tab .lss 3 v18 v17 fun v19=>
 condV v19 (indexAddrV tab 22 v16 v18 fun v21=>
 loadV tab 3 v21 H fun v22=>
 indexAddrV tab 116 v7 v22 fun v25=>
 loadV tab 4 v25 H fun v26=>
 condV v26 (binV tab .shl 3 (AV.p (.int .i64 1)) v18 fun v29=>
 binV tab .or 3 v8 v29 fun v30=>
 binV tab .add 3 v18 (AV.p (.int .i64 1)) fun v31=>
 N1 v30 v31 H)
 (binV tab .add 3 v18 (AV.p (.int .i64 1)) fun v31=>
 N1 v8 v31 H))
 (K v8 H)
def W105 (v0:AV) (v1:AV) (v2:AV) (H:Heap) (K:AV→Heap→Prop):Prop:=
 CallT Tryz.prog 133 [v0,v1,v2] H fun v14 H1=>
 CallT Tryz.prog 100 [v0] H1 fun v16 H2=>
 lenV tab 22 v16 fun v17=>
 L105_0 K v14 (AV.p (.int .i64 0)) v16 v17 (AV.p (.int .i64 0)) H2
theorem W105_wp (v0:AV) (v1:AV) (v2:AV) (H:Heap) (K:AV→Heap→Prop):wpC Tryz.prog tab D105 (bodyOf Tryz.f105) (retF tab [.tmp 6] K) (nthA [v0,v1,v2]) H=W105 v0 v1 v2 H K:=by kernel_rfl
theorem W105_ok {v0 v1 v2:AV} {H:Heap} {K:AV→Heap→Prop} (h:W105 v0 v1 v2 H K):CallT Tryz.prog 105 [v0,v1,v2] H K:=
  CallT.of_wp (D:=D105) tab_ok mixed Tryz.func105 (c:=bodyOf Tryz.f105) (by kernel_rfl) rfl (by kernel_rfl) (rs:=#[.tmp 6]) rfl (by decide +kernel) (by kernel_rfl) (W105_wp v0 v1 v2 H K) h
theorem L105_0_rule {K:AV→Heap→Prop} {v7 v8 v16 v17 v18:AV} {H:Heap} {σ:Type} (s0:σ) (f8:σ→AV) (f18:σ→AV) (TH:σ→Heap) (pre:σ→Prop) (μ:σ→Nat)
    (h0:pre s0∧AV.wk v8 (f8 s0)∧AV.wk v18 (f18 s0)∧Heap.le (TH s0) H)
    (round:∀s,pre s→B105_0 K (fun w8 w18 H'=>∃s',pre s'∧μ s' < μ s∧AV.wk w8 (f8 s')∧AV.wk w18 (f18 s')∧Heap.le (TH s') H') v7 (f8 s) v16 v17 (f18 s) (TH s)) :
    L105_0 K v7 v8 v16 v17 v18 H:=by
  unfold L105_0
  exact LoopV.mk s0 (fun s=>[f8 s,f18 s]) TH pre μ (fun _=>rfl) (Eq.mp (by kernel_rfl) h0) (fun s hs=>Eq.mp (by kernel_rfl) (round s hs))
def D106:Info:=⟨35,fun i=>([],[]),fun i=>if i=2 then ([0,1,2,9,10],[11]) else ([],[])⟩
def L106_0 (K:AV→Heap→Prop) (v0:AV) (v1:AV) (v2:AV) (v9:AV) (v10:AV) (v11:AV) (H:Heap):Prop:=LoopV (wpC Tryz.prog tab D106 (cAt [1,0,1,0,0] (bodyOf Tryz.f106))) [0,1,2,9,10] (PostF.block 0 (PostF.thenA (wpC Tryz.prog tab D106 (cAt [1,1] (bodyOf Tryz.f106))) (retF tab [.tmp 6] K))) [11] [v0,v1,v2,AV.any,AV.any,AV.any,AV.any,AV.any,AV.any,v9,v10,v11,AV.any,AV.any,AV.any,AV.any,AV.any,AV.any,AV.any,AV.any,AV.any,AV.any,AV.any,AV.any,AV.any,AV.any,AV.any,AV.any,AV.any,AV.any,AV.any,AV.any,AV.any,AV.any,AV.any] H
def B106_0 (K:AV→Heap→Prop) (N1:AV→Heap→Prop) (v0:AV) (v1:AV) (v2:AV) (v9:AV) (v10:AV) (v11:AV) (H:Heap):Prop:=
 binV tab .lss 3 v11 v10 fun v12=>
 condV v12 (indexAddrV tab 22 v9 v11 fun v14=>
 loadV tab 3 v14 H fun v15=>
 CallT Tryz.prog 63 [v15,v1,v2] H fun v19 H1=>
 unV .not v19 fun v20=>
 grdV v20 false (binV tab .gtr 3 v11 (AV.p (.int .i64 0)) fun v23=>
 grdV v23 true (binV tab .sub 3 v11 (AV.p (.int .i64 1)) fun v27=>
 indexAddrV tab 22 v0 v27 fun v28=>
 loadV tab 3 v28 H1 fun v29=>
 binV tab .geq 3 v29 v15 fun v31=>
 condV v31 (K (AV.p (.bool false)) H1)
 (binV tab .add 3 v11 (AV.p (.int .i64 1)) fun v34=>
 N1 v34 H1))
 (binV tab .add 3 v11 (AV.p (.int .i64 1)) fun v34=>
 N1 v34 H1))
 (K (AV.p (.bool false)) H1))
 (K (AV.p (.bool true)) H)
def W106 (v0:AV) (v1:AV) (v2:AV) (H:Heap) (K:AV→Heap→Prop):Prop:=
 lenV tab 22 v0 fun v10=>
 L106_0 K v0 v1 v2 v0 v10 (AV.p (.int .i64 0)) H
theorem W106_wp (v0:AV) (v1:AV) (v2:AV) (H:Heap) (K:AV→Heap→Prop):wpC Tryz.prog tab D106 (bodyOf Tryz.f106) (retF tab [.tmp 6] K) (nthA [v0,v1,v2]) H=W106 v0 v1 v2 H K:=by kernel_rfl
theorem W106_ok {v0 v1 v2:AV} {H:Heap} {K:AV→Heap→Prop} (h:W106 v0 v1 v2 H K):CallT Tryz.prog 106 [v0,v1,v2] H K:=
  CallT.of_wp (D:=D106) tab_ok mixed Tryz.func106 (c:=bodyOf Tryz.f106) (by kernel_rfl) rfl (by kernel_rfl) (rs:=#[.tmp 6]) rfl (by decide +kernel) (by kernel_rfl) (W106_wp v0 v1 v2 H K) h
theorem L106_0_rule {K:AV→Heap→Prop} {v0 v1 v2 v9 v10 v11:AV} {H:Heap} {σ:Type} (s0:σ) (f11:σ→AV) (TH:σ→Heap) (pre:σ→Prop) (μ:σ→Nat)
    (h0:pre s0∧AV.wk v11 (f11 s0)∧Heap.le (TH s0) H)
    (round:∀s,pre s→B106_0 K (fun w11 H'=>∃s',pre s'∧μ s' < μ s∧AV.wk w11 (f11 s')∧Heap.le (TH s') H') v0 v1 v2 v9 v10 (f11 s) (TH s)) :
    L106_0 K v0 v1 v2 v9 v10 v11 H:=by
  unfold L106_0
  exact LoopV.mk s0 (fun s=>[f11 s]) TH pre μ (fun _=>rfl) (Eq.mp (by kernel_rfl) h0) (fun s hs=>Eq.mp (by kernel_rfl) (round s hs))
def D107:Info:=⟨37,fun i=>([],[]),fun i=>if i=3 then ([3,11,12],[13]) else if i=6 then ([3,4,11,12,13,18,19],[20]) else ([],[])⟩
def L107_0 (K:AV→Heap→Prop) (v3:AV) (v11:AV) (v12:AV) (v13:AV) (H:Heap):Prop:=LoopV (wpC Tryz.prog tab D107 (cAt [1,1,0,1,0,0] (bodyOf Tryz.f107))) [3,11,12] (PostF.block 0 (PostF.thenA (wpC Tryz.prog tab D107 (cAt [1,1,1] (bodyOf Tryz.f107))) (retF tab [.tmp 2] K))) [13] [AV.any,AV.any,AV.any,v3,AV.any,AV.any,AV.any,AV.any,AV.any,AV.any,AV.any,v11,v12,v13,AV.any,AV.any,AV.any,AV.any,AV.any,AV.any,AV.any,AV.any,AV.any,AV.any,AV.any,AV.any,AV.any,AV.any,AV.any,AV.any,AV.any,AV.any,AV.any,AV.any,AV.any,AV.any,AV.any] H
def L107_1 (K:AV→Heap→Prop) (N1:AV→Heap→Prop) (v3:AV) (v4:AV) (v11:AV) (v12:AV) (v13:AV) (v18:AV) (v19:AV) (v20:AV) (H:Heap):Prop:=LoopV (wpC Tryz.prog tab D107 (cAt [1,1,0,1,0,0,1,1,0,0,1,1,0,0] (bodyOf Tryz.f107))) [3,4,11,12,13,18,19] (PostF.block 2 (PostF.block 1 (PostF.thenA (wpC Tryz.prog tab D107 (cAt [1,1,0,1,0,0,1,1,1] (bodyOf Tryz.f107))) (loopF (PostF.block 0 (PostF.thenA (wpC Tryz.prog tab D107 (cAt [1,1,1] (bodyOf Tryz.f107))) (retF tab [.tmp 2] K))) (fun e h=>N1 (e 13) h))))) [20] [AV.any,AV.any,AV.any,v3,v4,AV.any,AV.any,AV.any,AV.any,AV.any,AV.any,v11,v12,v13,AV.any,AV.any,AV.any,AV.any,v18,v19,v20,AV.any,AV.any,AV.any,AV.any,AV.any,AV.any,AV.any,AV.any,AV.any,AV.any,AV.any,AV.any,AV.any,AV.any,AV.any,AV.any] H
def B107_1 (K:AV→Heap→Prop) (N1:AV→Heap→Prop) (N2:AV→Heap→Prop) (v3:AV) (v4:AV) (v11:AV) (v12:AV) (v13:AV) (v18:AV) (v19:AV) (v20:AV) (H:Heap):Prop:=
 binV tab .lss 3 v20 v19 fun v21=>
 condV v21 (indexAddrV tab 22 v18 v20 fun v22=>
 loadV tab 3 v22 H fun v23=>
 indexAddrV tab 24 v3 v23 fun v28=>
 loadV tab 22 v28 H fun v29=>
 buildSliceV tab 22 1 [(0,v4)] H (wkK fun v31 H2=>
 appendV tab 22 22 v29 v31 H2 (wkK fun v32 H3=>
 indexAddrV tab 24 v3 v23 fun v33=>
 storeV tab 22 v33 v32 H3 fun H4=>
 binV tab .add 3 v20 (AV.p (.int .i64 1)) fun v34=>
 N2 v34 H4)))
 (binV tab .add 3 v13 (AV.p (.int .i64 1)) fun v35=>
 N1 v35 H)
def B107_0 (K:AV→Heap→Prop) (N1:AV→Heap→Prop) (v3:AV) (v11:AV) (v12:AV) (v13:AV) (H:Heap):Prop:=
 binV tab .lss 3 v13 v12 fun v14=>
 condV v14 (indexAddrV tab 24 v11 v13 fun v16=>
 loadV tab 22 v16 H fun v17=>
 lenV tab 22 v17 fun v19=>
 L107_1 K N1 v3 v13 v11 v12 v13 v17 v19 (AV.p (.int .i64 0)) H)
 (K v3 H)
def W107 (v0:AV) (H:Heap) (K:AV→Heap→Prop):Prop:=
 lenV tab 24 v0 fun v9=>
 makeSliceV tab 24 v9 v9 H fun v10 H1=>
 lenV tab 24 v0 fun v12=>
 L107_0 K v10 v0 v12 (AV.p (.int .i64 0)) H1
theorem W107_wp (v0:AV) (H:Heap) (K:AV→Heap→Prop):wpC Tryz.prog tab D107 (bodyOf Tryz.f107) (retF tab [.tmp 2] K) (nthA [v0]) H=W107 v0 H K:=by kernel_rfl
theorem W107_ok {v0:AV} {H:Heap} {K:AV→Heap→Prop} (h:W107 v0 H K):CallT Tryz.prog 107 [v0] H K:=
  CallT.of_wp (D:=D107) tab_ok mixed Tryz.func107 (c:=bodyOf Tryz.f107) (by kernel_rfl) rfl (by kernel_rfl) (rs:=#[.tmp 2]) rfl (by decide +kernel) (by kernel_rfl) (W107_wp v0 H K) h
theorem L107_1_rule {K:AV→Heap→Prop} {N1:AV→Heap→Prop} {v3 v4 v11 v12 v13 v18 v19 v20:AV} {H:Heap} {σ:Type} (s0:σ) (f20:σ→AV) (TH:σ→Heap) (pre:σ→Prop) (μ:σ→Nat)
    (h0:pre s0∧AV.wk v20 (f20 s0)∧Heap.le (TH s0) H)
    (round:∀s,pre s→B107_1 K N1 (fun w20 H'=>∃s',pre s'∧μ s' < μ s∧AV.wk w20 (f20 s')∧Heap.le (TH s') H') v3 v4 v11 v12 v13 v18 v19 (f20 s) (TH s)) :
    L107_1 K N1 v3 v4 v11 v12 v13 v18 v19 v20 H:=by
  unfold L107_1
  exact LoopV.mk s0 (fun s=>[f20 s]) TH pre μ (fun _=>rfl) (Eq.mp (by kernel_rfl) h0) (fun s hs=>Eq.mp (by kernel_rfl) (round s hs))
theorem L107_0_rule {K:AV→Heap→Prop} {v3 v11 v12 v13:AV} {H:Heap} {σ:Type} (s0:σ) (f13:σ→AV) (TH:σ→Heap) (pre:σ→Prop) (μ:σ→Nat)
    (h0:pre s0∧AV.wk v13 (f13 s0)∧Heap.le (TH s0) H)
    (round:∀s,pre s→B107_0 K (fun w13 H'=>∃s',pre s'∧μ s' < μ s∧AV.wk w13 (f13 s')∧Heap.le (TH s') H') v3 v11 v12 (f13 s) (TH s)) :
    L107_0 K v3 v11 v12 v13 H:=by
  unfold L107_0
  exact LoopV.mk s0 (fun s=>[f13 s]) TH pre μ (fun _=>rfl) (Eq.mp (by kernel_rfl) h0) (fun s hs=>Eq.mp (by kernel_rfl) (round s hs))
def D108:Info:=⟨45,fun i=>([],[]),fun i=>if i=3 then ([0,1,25,26],[27]) else ([],[])⟩
def L108_0 (K:AV→Heap→Prop) (v0:AV) (v1:AV) (v25:AV) (v26:AV) (v27:AV) (H:Heap):Prop:=LoopV (wpC Tryz.prog tab D108 (cAt [1,1,0,1,0,0] (bodyOf Tryz.f108))) [0,1,25,26] (PostF.block 0 (PostF.thenA (wpC Tryz.prog tab D108 (cAt [1,1,1] (bodyOf Tryz.f108))) (retF tab [] K))) [27] [v0,v1,AV.any,AV.any,AV.any,AV.any,AV.any,AV.any,AV.any,AV.any,AV.any,AV.any,AV.any,AV.any,AV.any,AV.any,AV.any,AV.any,AV.any,AV.any,AV.any,AV.any,AV.any,AV.any,AV.any,v25,v26,v27,AV.any,AV.any,AV.any,AV.any,AV.any,AV.any,AV.any,AV.any,AV.any,AV.any,AV.any,AV.any,AV.any,AV.any,AV.any,AV.any,AV.any] H
def B108_0 (K:AV→Heap→Prop) (N1:AV→Heap→Prop) (v0:AV) (v1:AV) (v25:AV) (v26:AV) (v27:AV) (H:Heap):Prop:=
 binV tab .lss 3 v27 v26 fun v28=>
 condV v28 (indexAddrV tab 22 v25 v27 fun v29=>
 loadV tab 3 v29 H fun v30=>
 CallT Tryz.prog 108 [v0,v30] H fun v33 H2=>
 binV tab .add 3 v27 (AV.p (.int .i64 1)) fun v34=>
 N1 v34 H2)
 (nilCheckV v0 fun v37=>
 fieldAddrV tab 125 v37 2 fun v38=>
 loadV tab 22 v38 H fun v39=>
 buildSliceV tab 22 1 [(0,v1)] H (wkK fun v41 H3=>
 appendV tab 22 22 v39 v41 H3 (wkK fun v42 H4=>
 nilCheckV v0 fun v43=>
 fieldAddrV tab 125 v43 2 fun v44=>
 storeV tab 22 v44 v42 H4 fun H5=>
 K (.tup []) H5)))
def W108 (v0:AV) (v1:AV) (H:Heap) (K:AV→Heap→Prop):Prop:=
 nilCheckV v0 fun v7=>
 fieldAddrV tab 125 v7 1 fun v8=>
 loadV tab 116 v8 H fun v9=>
 indexAddrV tab 116 v9 v1 fun v11=>
 loadV tab 4 v11 H fun v12=>
 condV v12 (K (.tup []) H)
 (nilCheckV v0 fun v14=>
 fieldAddrV tab 125 v14 1 fun v15=>
 loadV tab 116 v15 H fun v16=>
 indexAddrV tab 116 v16 v1 fun v18=>
 storeV tab 4 v18 (AV.p (.bool true)) H fun H1=>
 nilCheckV v0 fun v20=>
 fieldAddrV tab 125 v20 0 fun v21=>
 loadV tab 24 v21 H1 fun v22=>
 indexAddrV tab 24 v22 v1 fun v24=>
 loadV tab 22 v24 H1 fun v25=>
 lenV tab 22 v25 fun v26=>
 L108_0 K v0 v1 v25 v26 (AV.p (.int .i64 0)) H1)
theorem W108_wp (v0:AV) (v1:AV) (H:Heap) (K:AV→Heap→Prop):wpC Tryz.prog tab D108 (bodyOf Tryz.f108) (retF tab [] K) (nthA [v0,v1]) H=W108 v0 v1 H K:=by kernel_rfl
theorem W108_ok {v0 v1:AV} {H:Heap} {K:AV→Heap→Prop} (h:W108 v0 v1 H K):CallT Tryz.prog 108 [v0,v1] H K:=
  CallT.of_wp (D:=D108) tab_ok mixed Tryz.func108 (c:=bodyOf Tryz.f108) (by kernel_rfl) rfl (by kernel_rfl) (rs:=#[]) rfl (by decide +kernel) (by kernel_rfl) (W108_wp v0 v1 H K) h
theorem L108_0_rule {K:AV→Heap→Prop} {v0 v1 v25 v26 v27:AV} {H:Heap} {σ:Type} (s0:σ) (f27:σ→AV) (TH:σ→Heap) (pre:σ→Prop) (μ:σ→Nat)
    (h0:pre s0∧AV.wk v27 (f27 s0)∧Heap.le (TH s0) H)
    (round:∀s,pre s→B108_0 K (fun w27 H'=>∃s',pre s'∧μ s' < μ s∧AV.wk w27 (f27 s')∧Heap.le (TH s') H') v0 v1 v25 v26 (f27 s) (TH s)) :
    L108_0 K v0 v1 v25 v26 v27 H:=by
  unfold L108_0
  exact LoopV.mk s0 (fun s=>[f27 s]) TH pre μ (fun _=>rfl) (Eq.mp (by kernel_rfl) h0) (fun s hs=>Eq.mp (by kernel_rfl) (round s hs))
def D110:Info:=⟨9,fun i=>([],[]),fun i=>([],[])⟩
def W110 (v0:AV) (v1:AV) (H:Heap) (K:AV→Heap→Prop):Prop:=
 CallT Tryz.prog 134 [v0,v1] H fun v7 H1=>
 binV tab .geq 3 v7 (AV.p (.int .i64 0)) fun v8=>
 K v8 H1
theorem W110_wp (v0:AV) (v1:AV) (H:Heap) (K:AV→Heap→Prop):wpC Tryz.prog tab D110 (bodyOf Tryz.f110) (retF tab [.tmp 4] K) (nthA [v0,v1]) H=W110 v0 v1 H K:=by kernel_rfl
theorem W110_ok {v0 v1:AV} {H:Heap} {K:AV→Heap→Prop} (h:W110 v0 v1 H K):CallT Tryz.prog 110 [v0,v1] H K:=
  CallT.of_wp (D:=D110) tab_ok mixed Tryz.func110 (c:=bodyOf Tryz.f110) (by kernel_rfl) rfl (by kernel_rfl) (rs:=#[.tmp 4]) rfl (by decide +kernel) (by kernel_rfl) (W110_wp v0 v1 H K) h
def D111:Info:=⟨8,fun i=>([],[]),fun i=>([],[])⟩
def W111 (v0:AV) (v1:AV) (H:Heap) (K:AV→Heap→Prop):Prop:=
 loadV tab 3 v1 H fun v5=>
 CallT Tryz.prog 75 [v0,v5] H fun v6 H1=>
 unV .not v6 fun v7=>
 K v7 H1
theorem W111_wp (v0:AV) (v1:AV) (H:Heap) (K:AV→Heap→Prop):wpC Tryz.prog tab D111 (bodyOf Tryz.f111) (retF tab [.tmp 3] K) (nthA [v0,v1]) H=W111 v0 v1 H K:=by kernel_rfl
theorem W111_ok {v0 v1:AV} {H:Heap} {K:AV→Heap→Prop} (h:W111 v0 v1 H K):CallT Tryz.prog 111 [v0,v1] H K:=
  CallT.of_wp (D:=D111) tab_ok mixed Tryz.func111 (c:=bodyOf Tryz.f111) (by kernel_rfl) rfl (by kernel_rfl) (rs:=#[.tmp 3]) rfl (by decide +kernel) (by kernel_rfl) (W111_wp v0 v1 H K) h
def D112:Info:=⟨18,fun i=>([],[]),fun i=>if i=3 then ([3,6,7],[8]) else ([],[])⟩
def L112_0 (K:AV→Heap→Prop) (v3:AV) (v6:AV) (v7:AV) (v8:AV) (H:Heap):Prop:=LoopV (wpC Tryz.prog tab D112 (cAt [1,1,0,1,0,0] (bodyOf Tryz.f112))) [3,6,7] (PostF.block 0 (PostF.thenA (wpC Tryz.prog tab D112 (cAt [1,1,1] (bodyOf Tryz.f112))) (retF tab [.tmp 2] K))) [8] [AV.any,AV.any,AV.any,v3,AV.any,AV.any,v6,v7,v8,AV.any,AV.any,AV.any,AV.any,AV.any,AV.any,AV.any,AV.any,AV.any] H
def B112_0 (K:AV→Heap→Prop) (N1:AV→Heap→Prop) (v3:AV) (v6:AV) (v7:AV) (v8:AV) (H:Heap):Prop:=
 binV tab .lss 3 v8 v7 fun v9=>
 condV v9 (indexAddrV tab 22 v6 v8 fun v10=>
 loadV tab 3 v10 H fun v11=>
 binV tab .neq 3 v11 v3 fun v14=>
 condV v14 (K v11 H)
 (binV tab .add 3 v8 (AV.p (.int .i64 1)) fun v16=>
 N1 v16 H))
 (K v3 H)
def W112 (v0:AV) (H:Heap) (K:AV→Heap→Prop):Prop:=
 lenV tab 22 v0 fun v7=>
 L112_0 K (AV.p (.int .i64 0)) v0 v7 (AV.p (.int .i64 0)) H
theorem W112_wp (v0:AV) (H:Heap) (K:AV→Heap→Prop):wpC Tryz.prog tab D112 (bodyOf Tryz.f112) (retF tab [.tmp 2] K) (nthA [v0]) H=W112 v0 H K:=by kernel_rfl
theorem W112_ok {v0:AV} {H:Heap} {K:AV→Heap→Prop} (h:W112 v0 H K):CallT Tryz.prog 112 [v0] H K:=
  CallT.of_wp (D:=D112) tab_ok mixed Tryz.func112 (c:=bodyOf Tryz.f112) (by kernel_rfl) rfl (by kernel_rfl) (rs:=#[.tmp 2]) rfl (by decide +kernel) (by kernel_rfl) (W112_wp v0 H K) h
theorem L112_0_rule {K:AV→Heap→Prop} {v3 v6 v7 v8:AV} {H:Heap} {σ:Type} (s0:σ) (f8:σ→AV) (TH:σ→Heap) (pre:σ→Prop) (μ:σ→Nat)
    (h0:pre s0∧AV.wk v8 (f8 s0)∧Heap.le (TH s0) H)
    (round:∀s,pre s→B112_0 K (fun w8 H'=>∃s',pre s'∧μ s' < μ s∧AV.wk w8 (f8 s')∧Heap.le (TH s') H') v3 v6 v7 (f8 s) (TH s)) :
    L112_0 K v3 v6 v7 v8 H:=by
  unfold L112_0
  exact LoopV.mk s0 (fun s=>[f8 s]) TH pre μ (fun _=>rfl) (Eq.mp (by kernel_rfl) h0) (fun s hs=>Eq.mp (by kernel_rfl) (round s hs))
def D113:Info:=⟨20,fun i=>([],[]),fun i=>([],[])⟩
def W113 (v0:AV) (v1:AV) (H:Heap) (K:AV→Heap→Prop):Prop:=
 CallT Tryz.prog 135 [v0] H fun v8 H1=>
 CallT Tryz.prog 135 [v1] H1 fun v10 H2=>
 condV v8 (condV v10 (K (AV.p (.int .i64 0)) H2)
 (K (AV.p (.int .i64 (-1))) H2))
 (condV v10 (K (AV.p (.int .i64 1)) H2)
 (binV tab .lss 3 v0 v1 fun v16=>
 condV v16 (K (AV.p (.int .i64 (-1))) H2)
 (binV tab .gtr 3 v0 v1 fun v19=>
 condV v19 (K (AV.p (.int .i64 1)) H2)
 (K (AV.p (.int .i64 0)) H2))))
theorem W113_wp (v0:AV) (v1:AV) (H:Heap) (K:AV→Heap→Prop):wpC Tryz.prog tab D113 (bodyOf Tryz.f113) (retF tab [.tmp 4] K) (nthA [v0,v1]) H=W113 v0 v1 H K:=by kernel_rfl
theorem W113_ok {v0 v1:AV} {H:Heap} {K:AV→Heap→Prop} (h:W113 v0 v1 H K):CallT Tryz.prog 113 [v0,v1] H K:=
  CallT.of_wp (D:=D113) tab_ok mixed Tryz.func113 (c:=bodyOf Tryz.f113) (by kernel_rfl) rfl (by kernel_rfl) (rs:=#[.tmp 4]) rfl (by decide +kernel) (by kernel_rfl) (W113_wp v0 v1 H K) h
def D114:Info:=⟨37,fun i=>([],[]),fun i=>if i=3 then ([3,11,12],[13]) else if i=6 then ([3,4,11,12,13,18,19],[20]) else ([],[])⟩
def L114_0 (K:AV→Heap→Prop) (v3:AV) (v11:AV) (v12:AV) (v13:AV) (H:Heap):Prop:=LoopV (wpC Tryz.prog tab D114 (cAt [1,1,0,1,0,0] (bodyOf Tryz.f114))) [3,11,12] (PostF.block 0 (PostF.thenA (wpC Tryz.prog tab D114 (cAt [1,1,1] (bodyOf Tryz.f114))) (retF tab [.tmp 2] K))) [13] [AV.any,AV.any,AV.any,v3,AV.any,AV.any,AV.any,AV.any,AV.any,AV.any,AV.any,v11,v12,v13,AV.any,AV.any,AV.any,AV.any,AV.any,AV.any,AV.any,AV.any,AV.any,AV.any,AV.any,AV.any,AV.any,AV.any,AV.any,AV.any,AV.any,AV.any,AV.any,AV.any,AV.any,AV.any,AV.any] H
def L114_1 (K:AV→Heap→Prop) (N1:AV→Heap→Prop) (v3:AV) (v4:AV) (v11:AV) (v12:AV) (v13:AV) (v18:AV) (v19:AV) (v20:AV) (H:Heap):Prop:=LoopV (wpC Tryz.prog tab D114 (cAt [1,1,0,1,0,0,1,1,0,0,1,1,0,0] (bodyOf Tryz.f114))) [3,4,11,12,13,18,19] (PostF.block 2 (PostF.block 1 (PostF.thenA (wpC Tryz.prog tab D114 (cAt [1,1,0,1,0,0,1,1,1] (bodyOf Tryz.f114))) (loopF (PostF.block 0 (PostF.thenA (wpC Tryz.prog tab D114 (cAt [1,1,1] (bodyOf Tryz.f114))) (retF tab [.tmp 2] K))) (fun e h=>N1 (e 13) h))))) [20] [AV.any,AV.any,AV.any,v3,v4,AV.any,AV.any,AV.any,AV.any,AV.any,AV.any,v11,v12,v13,AV.any,AV.any,AV.any,AV.any,v18,v19,v20,AV.any,AV.any,AV.any,AV.any,AV.any,AV.any,AV.any,AV.any,AV.any,AV.any,AV.any,AV.any,AV.any,AV.any,AV.any,AV.any] H
def B114_1 (K:AV→Heap→Prop) (N1:AV→Heap→Prop) (N2:AV→Heap→Prop) (v3:AV) (v4:AV) (v11:AV) (v12:AV) (v13:AV) (v18:AV) (v19:AV) (v20:AV) (H:Heap):Prop:=
 binV tab .lss 3 v20 v19 fun v21=>
 condV v21 (indexAddrV tab 22 v18 v20 fun v22=>
 loadV tab 3 v22 H fun v23=>
 indexAddrV tab 24 v3 v23 fun v28=>
 loadV tab 22 v28 H fun v29=>
 buildSliceV tab 22 1 [(0,v4)] H (wkK fun v31 H2=>
 appendV tab 22 22 v29 v31 H2 (wkK fun v32 H3=>
 indexAddrV tab 24 v3 v23 fun v33=>
 storeV tab 22 v33 v32 H3 fun H4=>
 binV tab .add 3 v20 (AV.p (.int .i64 1)) fun v34=>
 N2 v34 H4)))
 (binV tab .add 3 v13 (AV.p (.int .i64 1)) fun v35=>
 N1 v35 H)
def B114_0 (K:AV→Heap→Prop) (N1:AV→Heap→Prop) (v3:AV) (v11:AV) (v12:AV) (v13:AV) (H:Heap):Prop:=
 binV tab .lss 3 v13 v12 fun v14=>
 condV v14 (indexAddrV tab 24 v11 v13 fun v16=>
 loadV tab 22 v16 H fun v17=>
 lenV tab 22 v17 fun v19=>
 L114_1 K N1 v3 v13 v11 v12 v13 v17 v19 (AV.p (.int .i64 0)) H)
 (K v3 H)
def W114 (v0:AV) (H:Heap) (K:AV→Heap→Prop):Prop:=
 lenV tab 24 v0 fun v9=>
 makeSliceV tab 24 v9 v9 H fun v10 H1=>
 lenV tab 24 v0 fun v12=>
 L114_0 K v10 v0 v12 (AV.p (.int .i64 0)) H1
theorem W114_wp (v0:AV) (H:Heap) (K:AV→Heap→Prop):wpC Tryz.prog tab D114 (bodyOf Tryz.f114) (retF tab [.tmp 2] K) (nthA [v0]) H=W114 v0 H K:=by kernel_rfl
theorem W114_ok {v0:AV} {H:Heap} {K:AV→Heap→Prop} (h:W114 v0 H K):CallT Tryz.prog 114 [v0] H K:=
  CallT.of_wp (D:=D114) tab_ok mixed Tryz.func114 (c:=bodyOf Tryz.f114) (by kernel_rfl) rfl (by kernel_rfl) (rs:=#[.tmp 2]) rfl (by decide +kernel) (by kernel_rfl) (W114_wp v0 H K) h
theorem L114_1_rule {K:AV→Heap→Prop} {N1:AV→Heap→Prop} {v3 v4 v11 v12 v13 v18 v19 v20:AV} {H:Heap} {σ:Type} (s0:σ) (f20:σ→AV) (TH:σ→Heap) (pre:σ→Prop) (μ:σ→Nat)
    (h0:pre s0∧AV.wk v20 (f20 s0)∧Heap.le (TH s0) H)
    (round:∀s,pre s→B114_1 K N1 (fun w20 H'=>∃s',pre s'∧μ s' < μ s∧AV.wk w20 (f20 s')∧Heap.le (TH s') H') v3 v4 v11 v12 v13 v18 v19 (f20 s) (TH s)) :
    L114_1 K N1 v3 v4 v11 v12 v13 v18 v19 v20 H:=by
  unfold L114_1
  exact LoopV.mk s0 (fun s=>[f20 s]) TH pre μ (fun _=>rfl) (Eq.mp (by kernel_rfl) h0) (fun s hs=>Eq.mp (by kernel_rfl) (round s hs))
theorem L114_0_rule {K:AV→Heap→Prop} {v3 v11 v12 v13:AV} {H:Heap} {σ:Type} (s0:σ) (f13:σ→AV) (TH:σ→Heap) (pre:σ→Prop) (μ:σ→Nat)
    (h0:pre s0∧AV.wk v13 (f13 s0)∧Heap.le (TH s0) H)
    (round:∀s,pre s→B114_0 K (fun w13 H'=>∃s',pre s'∧μ s' < μ s∧AV.wk w13 (f13 s')∧Heap.le (TH s') H') v3 v11 v12 (f13 s) (TH s)) :
    L114_0 K v3 v11 v12 v13 H:=by
  unfold L114_0
  exact LoopV.mk s0 (fun s=>[f13 s]) TH pre μ (fun _=>rfl) (Eq.mp (by kernel_rfl) h0) (fun s hs=>Eq.mp (by kernel_rfl) (round s hs))
def D117:Info:=⟨48,fun i=>if i=9 then ([[],[],[],[1,2],[],[],[4,5],[1,2,3,4,5,6],[0,1,2,3,4,5,6,7],[0,1,2,3,4,5,6,7,8]],[(0,[]),(1,[]),(2,[]),(3,[]),(4,[]),(5,[]),(6,[]),(7,[]),(8,[]),(9,[])]) else ([],[]),fun i=>if i=8 then ([7],[8]) else ([],[])⟩
def L117_0 (K:AV→Heap→Prop) (v7:AV) (v8:AV) (H:Heap):Prop:=LoopV (wpC Tryz.prog tab D117 (cAt [1,1,1,1,1,1,0,0,0] (bodyOf Tryz.f117))) [7] (PostF.block 0 (PostF.thenA (wpC Tryz.prog tab D117 (cAt [1,1,1,1,1,1,1] (bodyOf Tryz.f117))) (retF tab [.tmp 4] K))) [8] [AV.any,AV.any,AV.any,AV.any,AV.any,AV.any,AV.any,v7,v8,AV.any,AV.any,AV.any,AV.any,AV.any,AV.any,AV.any,AV.any,AV.any,AV.any,AV.any,AV.any,AV.any,AV.any,AV.any,AV.any,AV.any,AV.any,AV.any,AV.any,AV.any,AV.any,AV.any,AV.any,AV.any,AV.any,AV.any,AV.any,AV.any,AV.any,AV.any,AV.any,AV.any,AV.any,AV.any,AV.any,AV.any,AV.any,AV.any] H
def B117_0 (K:AV→Heap→Prop) (N1:AV→Heap→Prop) (v7:AV) (v8:AV) (H:Heap):Prop:=
 lenV tab 22 v7 fun v36=>
 binV tab .lss 3 v8 v36 fun v37=>
 condV v37 (sliceV tab 22 v7 (some v8) none none fun v41=>
 sliceV tab 22 v7 none (some v8) none fun v44=>
 copyV tab 22 v41 v44 H fun v45 H4=>
 binV tab .add 3 v8 v45 fun v46=>
 N1 v46 H4)
 (K v7 H)
def W117 (v0:AV) (v1:AV) (H:Heap) (K:AV→Heap→Prop):Prop:=
 binV tab .lss 3 v1 (AV.p (.int .i64 0)) fun v10=>
 condV v10 (False)
 (lenV tab 22 v0 fun v14=>
 convV tab 3 111 v14 fun v15=>
 convV tab 3 111 v1 fun v17=>
 CallT Tryz.prog 136 [v15,v17] H fun v18 H1=>
 extractV v18 0 fun v19=>
 extractV v18 1 fun v20=>
 binV tab .gtr 111 v19 (AV.p (.int .u64 0)) fun v22=>
 grdV v22 false (binV tab .gtr 111 v20 (AV.p (.int .u64 9223372036854775807)) fun v25=>
 condV v25 (False)
 (convV tab 111 3 v20 fun v29=>
 makeSliceV tab 22 v29 v29 H1 fun v30 H2=>
 copyV tab 22 v30 v0 H2 fun v33 H3=>
 L117_0 K v30 v33 H3))
 (False))
theorem W117_wp (v0:AV) (v1:AV) (H:Heap) (K:AV→Heap→Prop):wpC Tryz.prog tab D117 (bodyOf Tryz.f117) (retF tab [.tmp 4] K) (nthA [v0,v1]) H=W117 v0 v1 H K:=by kernel_rfl
theorem W117_ok {v0 v1:AV} {H:Heap} {K:AV→Heap→Prop} (h:W117 v0 v1 H K):CallT Tryz.prog 117 [v0,v1] H K:=
  CallT.of_wp (D:=D117) tab_ok mixed Tryz.func117 (c:=bodyOf Tryz.f117) (by kernel_rfl) rfl (by kernel_rfl) (rs:=#[.tmp 4]) rfl (by decide +kernel) (by kernel_rfl) (W117_wp v0 v1 H K) h
theorem L117_0_rule {K:AV→Heap→Prop} {v7 v8:AV} {H:Heap} {σ:Type} (s0:σ) (f8:σ→AV) (TH:σ→Heap) (pre:σ→Prop) (μ:σ→Nat)
    (h0:pre s0∧AV.wk v8 (f8 s0)∧Heap.le (TH s0) H)
    (round:∀s,pre s→B117_0 K (fun w8 H'=>∃s',pre s'∧μ s' < μ s∧AV.wk w8 (f8 s')∧Heap.le (TH s') H') v7 (f8 s) (TH s)) :
    L117_0 K v7 v8 H:=by
  unfold L117_0
  exact LoopV.mk s0 (fun s=>[f8 s]) TH pre μ (fun _=>rfl) (Eq.mp (by kernel_rfl) h0) (fun s hs=>Eq.mp (by kernel_rfl) (round s hs))
end Go.Proofs.YtolffbcnbcjeaaaGreat
namespace Go.Proofs.YtolffbcnbcjeaaaGreat
open Go Go.Sep
attribute [local irreducible] wpC headF
def D118:Info:=⟨177,fun i=>if i=1 then ([[],[0],[0,1],[0,1,2],[],[],[5],[5,6],[5,6,7],[],[],[10],[10,11],[10,11,12],[],[14],[14,15],[14,15,16],[0,1,2,3,4,5,6,7,8,10,11,12,13,14,15,16,17],[0,1,2,3,4,5,6,7,8,10,11,12,13,14,15,16,17,18],[0,1,2,3,4,5,6,7,8,9,10,11,12,13,14,15,16,17,18,19],[0,1,2,3,4,5,6,7,8,9,10,11,12,13,14,15,16,17,18,19,20]],[(0,[]),(1,[]),(2,[]),(3,[]),(4,[]),(5,[]),(6,[]),(7,[]),(8,[]),(9,[]),(10,[]),(11,[]),(12,[]),(13,[]),(14,[]),(15,[]),(16,[]),(17,[]),(18,[]),(19,[]),(20,[]),(21,[])]) else if i=8 then ([[],[0],[0,1],[0,1,2],[],[],[5],[5,6],[5,6,7],[],[5,6,7,8,9],[5,6,7,8,9,10],[],[12],[12,13],[12,13,14],[],[12,13,14,15,16],[12,13,14,15,16,17],[5,6,7,8,9,10,11,12,13,14,15,16,17,18],[0,1,2,3,4,5,6,7,8,9,10,11,12,13,14,15,16,17,18,19],[0,1,2,3,4,5,6,7,8,9,10,11,12,13,14,15,16,17,18,19,20]],[(0,[]),(1,[]),(2,[]),(3,[]),(4,[]),(5,[]),(6,[]),(7,[]),(8,[]),(9,[]),(10,[]),(11,[]),(12,[]),(13,[]),(14,[]),(15,[]),(16,[]),(17,[]),(18,[]),(19,[]),(20,[]),(21,[])]) else if i=10 then ([[],[0],[0,1],[0,1,2],[],[],[5],[5,6],[5,6,7],[],[5,6,7,8,9],[5,6,7,8,9,10],[],[12],[12,13],[12,13,14],[],[12,13,14,15,16],[12,13,14,15,16,17],[5,6,7,8,9,10,11,12,13,14,15,16,17,18],[0,1,2,3,4,5,6,7,8,9,10,11,12,13,14,15,16,17,18,19],[0,1,2,3,4,5,6,7,8,9,10,11,12,13,14,15,16,17,18,19,20]],[(0,[]),(1,[]),(2,[]),(3,[]),(4,[]),(5,[]),(6,[]),(7,[]),(8,[]),(9,[]),(10,[]),(11,[]),(12,[]),(13,[]),(14,[]),(15,[]),(16,[]),(17,[]),(18,[]),(19,[]),(20,[]),(21,[])]) else if i=12 then ([[],[0],[0,1],[0,1,2],[],[0,1,2,3,4],[0,1,2,3,4,5],[],[7],[7,8],[7,8,9],[],[7,8,9,10,11],[7,8,9,10,11,12],[0,1,2,3,4,5,6,7,8,9,10,11,12,13]],[(0,[]),(1,[]),(2,[]),(3,[]),(4,[]),(5,[]),(6,[]),(7,[]),(8,[]),(9,[]),(10,[]),(11,[]),(12,[]),(13,[]),(14,[])]) else ([],[]),fun i=>if i=4 then ([0,1,53,54],[55]) else if i=16 then ([0,6,7,154,155],[156]) else ([],[])⟩
def L118_0 (K:AV→Heap→Prop) (v0:AV) (v1:AV) (v53:AV) (v54:AV) (v55:AV) (H:Heap):Prop:=LoopV (wpC Tryz.prog tab D118 (cAt [1,1,1,0,1,0,0] (bodyOf Tryz.f118))) [0,1,53,54] (PostF.block 0 (PostF.thenA (wpC Tryz.prog tab D118 (cAt [1,1,1,1] (bodyOf Tryz.f118))) (retF tab [] K))) [55] [v0,v1,AV.any,AV.any,AV.any,AV.any,AV.any,AV.any,AV.any,AV.any,AV.any,AV.any,AV.any,AV.any,AV.any,AV.any,AV.any,AV.any,AV.any,AV.any,AV.any,AV.any,AV.any,AV.any,AV.any,AV.any,AV.any,AV.any,AV.any,AV.any,AV.any,AV.any,AV.any,AV.any,AV.any,AV.any,AV.any,AV.any,AV.any,AV.any,AV.any,AV.any,AV.any,AV.any,AV.any,AV.any,AV.any,AV.any,AV.any,AV.any,AV.any,AV.any,AV.any,v53,v54,v55,AV.any,AV.any,AV.any,AV.any,AV.any,AV.any,AV.any,AV.any,AV.any,AV.any,AV.any,AV.any,AV.any,AV.any,AV.any,AV.any,AV.any,AV.any,AV.any,AV.any,AV.any,AV.any,AV.any,AV.any,AV.any,AV.any,AV.any,AV.any,AV.any,AV.any,AV.any,AV.any,AV.any,AV.any,AV.any,AV.any,AV.any,AV.any,AV.any,AV.any,AV.any,AV.any,AV.any,AV.any,AV.any,AV.any,AV.any,AV.any,AV.any,AV.any,AV.any,AV.any,AV.any,AV.any,AV.any,AV.any,AV.any,AV.any,AV.any,AV.any,AV.any,AV.any,AV.any,AV.any,AV.any,AV.any,AV.any,AV.any,AV.any,AV.any,AV.any,AV.any,AV.any,AV.any,AV.any,AV.any,AV.any,AV.any,AV.any,AV.any,AV.any,AV.any,AV.any,AV.any,AV.any,AV.any,AV.any,AV.any,AV.any,AV.any,AV.any,AV.any,AV.any,AV.any,AV.any,AV.any,AV.any,AV.any,AV.any,AV.any,AV.any,AV.any,AV.any,AV.any,AV.any,AV.any,AV.any,AV.any,AV.any,AV.any,AV.any,AV.any,AV.any,AV.any,AV.any,AV.any,AV.any,AV.any,AV.any,AV.any,AV.any] H
def L118_1 (K:AV→Heap→Prop) (v0:AV) (v6:AV) (v7:AV) (v154:AV) (v155:AV) (v156:AV) (H:Heap):Prop:=LoopV (wpC Tryz.prog tab D118 (cAt [1,1,1,1,1,1,1,0,1,0,0] (bodyOf Tryz.f118))) [0,6,7,154,155] (PostF.block 2 (PostF.thenA (wpC Tryz.prog tab D118 (cAt [1,1,1,1,1,1,1,1] (bodyOf Tryz.f118))) (retF tab [] K))) [156] [v0,AV.any,AV.any,AV.any,AV.any,AV.any,v6,v7,AV.any,AV.any,AV.any,AV.any,AV.any,AV.any,AV.any,AV.any,AV.any,AV.any,AV.any,AV.any,AV.any,AV.any,AV.any,AV.any,AV.any,AV.any,AV.any,AV.any,AV.any,AV.any,AV.any,AV.any,AV.any,AV.any,AV.any,AV.any,AV.any,AV.any,AV.any,AV.any,AV.any,AV.any,AV.any,AV.any,AV.any,AV.any,AV.any,AV.any,AV.any,AV.any,AV.any,AV.any,AV.any,AV.any,AV.any,AV.any,AV.any,AV.any,AV.any,AV.any,AV.any,AV.any,AV.any,AV.any,AV.any,AV.any,AV.any,AV.any,AV.any,AV.any,AV.any,AV.any,AV.any,AV.any,AV.any,AV.any,AV.any,AV.any,AV.any,AV.any,AV.any,AV.any,AV.any,AV.any,AV.any,AV.any,AV.any,AV.any,AV.any,AV.any,AV.any,AV.any,AV.any,AV.any,AV.any,AV.any,AV.any,AV.any,AV.any,AV.any,AV.any,AV.any,AV.any,AV.any,AV.any,AV.any,AV.any,AV.any,AV.any,AV.any,AV.any,AV.any,AV.any,AV.any,AV.any,AV.any,AV.any,AV.any,AV.any,AV.any,AV.any,AV.any,AV.any,AV.any,AV.any,AV.any,AV.any,AV.any,AV.any,AV.any,AV.any,AV.any,AV.any,AV.any,AV.any,AV.any,AV.any,AV.any,AV.any,AV.any,AV.any,AV.any,AV.any,AV.any,AV.any,AV.any,AV.any,AV.any,AV.any,AV.any,AV.any,AV.any,AV.any,AV.any,v154,v155,v156,AV.any,AV.any,AV.any,AV.any,AV.any,AV.any,AV.any,AV.any,AV.any,AV.any,AV.any,AV.any,AV.any,AV.any,AV.any,AV.any,AV.any,AV.any,AV.any,AV.any] H
def B118_1 (K:AV→Heap→Prop) (N1:AV→Heap→Prop) (v0:AV) (v6:AV) (v7:AV) (v154:AV) (v155:AV) (v156:AV) (H:Heap):Prop:=
 binV tab .lss 3 v156 v155 fun v157=>
 condV v157 (indexAddrV tab 22 v154 v156 fun v158=>
 loadV tab 3 v158 H fun v159=>
 nilCheckV v0 fun v161=>
 fieldAddrV tab 133 v161 3 fun v162=>
 loadV tab 22 v162 H fun v163=>
 indexAddrV tab 22 v163 v159 fun v166=>
 storeV tab 3 v166 v7 H fun H12=>
 binV tab .add 3 v156 (AV.p (.int .i64 1)) fun v167=>
 N1 v167 H12)
 (nilCheckV v0 fun v170=>
 fieldAddrV tab 133 v170 4 fun v171=>
 loadV tab 22 v171 H fun v172=>
 sliceV tab 22 v172 none (some v6) none fun v174=>
 nilCheckV v0 fun v175=>
 fieldAddrV tab 133 v175 4 fun v176=>
 storeV tab 22 v176 v174 H fun H13=>
 K (.tup []) H13)
def B118_0 (K:AV→Heap→Prop) (N1:AV→Heap→Prop) (v0:AV) (v1:AV) (v53:AV) (v54:AV) (v55:AV) (H:Heap):Prop:=
 binV tab .lss 3 v55 v54 fun v56=>
 condV v56 (indexAddrV tab 22 v53 v55 fun v57=>
 loadV tab 3 v57 H fun v58=>
 nilCheckV v0 fun v60=>
 fieldAddrV tab 133 v60 1 fun v61=>
 loadV tab 22 v61 H fun v62=>
 indexAddrV tab 22 v62 v58 fun v64=>
 loadV tab 3 v64 H fun v65=>
 binV tab .eql 3 v65 (AV.p (.int .i64 0)) fun v66=>
 condV v66 (CallT Tryz.prog 118 [v0,v58] H fun v69 H7=>
 nilCheckV v0 fun v71=>
 fieldAddrV tab 133 v71 2 fun v72=>
 loadV tab 22 v72 H7 fun v73=>
 nilCheckV v0 fun v76=>
 fieldAddrV tab 133 v76 2 fun v77=>
 loadV tab 22 v77 H7 fun v78=>
 indexAddrV tab 22 v78 v1 fun v80=>
 loadV tab 3 v80 H7 fun v81=>
 nilCheckV v0 fun v83=>
 fieldAddrV tab 133 v83 2 fun v84=>
 loadV tab 22 v84 H7 fun v85=>
 indexAddrV tab 22 v85 v58 fun v87=>
 loadV tab 3 v87 H7 fun v88=>
 mmV .min v81 v88 fun v89=>
 indexAddrV tab 22 v73 v1 fun v90=>
 storeV tab 3 v90 v89 H7 fun H8=>
 binV tab .add 3 v55 (AV.p (.int .i64 1)) fun v120=>
 N1 v120 H8)
 (nilCheckV v0 fun v92=>
 fieldAddrV tab 133 v92 3 fun v93=>
 loadV tab 22 v93 H fun v94=>
 indexAddrV tab 22 v94 v58 fun v96=>
 loadV tab 3 v96 H fun v97=>
 binV tab .lss 3 v97 (AV.p (.int .i64 0)) fun v98=>
 condV v98 (nilCheckV v0 fun v100=>
 fieldAddrV tab 133 v100 2 fun v101=>
 loadV tab 22 v101 H fun v102=>
 nilCheckV v0 fun v105=>
 fieldAddrV tab 133 v105 2 fun v106=>
 loadV tab 22 v106 H fun v107=>
 indexAddrV tab 22 v107 v1 fun v109=>
 loadV tab 3 v109 H fun v110=>
 nilCheckV v0 fun v112=>
 fieldAddrV tab 133 v112 1 fun v113=>
 loadV tab 22 v113 H fun v114=>
 indexAddrV tab 22 v114 v58 fun v116=>
 loadV tab 3 v116 H fun v117=>
 mmV .min v110 v117 fun v118=>
 indexAddrV tab 22 v102 v1 fun v119=>
 storeV tab 3 v119 v118 H fun H9=>
 binV tab .add 3 v55 (AV.p (.int .i64 1)) fun v120=>
 N1 v120 H9)
 (binV tab .add 3 v55 (AV.p (.int .i64 1)) fun v120=>
 N1 v120 H)))
 (nilCheckV v0 fun v122=>
 fieldAddrV tab 133 v122 2 fun v123=>
 loadV tab 22 v123 H fun v124=>
 indexAddrV tab 22 v124 v1 fun v126=>
 loadV tab 3 v126 H fun v127=>
 nilCheckV v0 fun v129=>
 fieldAddrV tab 133 v129 1 fun v130=>
 loadV tab 22 v130 H fun v131=>
 indexAddrV tab 22 v131 v1 fun v133=>
 loadV tab 3 v133 H fun v134=>
 binV tab .lss 3 v127 v134 fun v135=>
 condV v135 (K (.tup []) H)
 (nilCheckV v0 fun v137=>
 fieldAddrV tab 133 v137 4 fun v138=>
 loadV tab 22 v138 H fun v139=>
 CallT Tryz.prog 137 [v139,v1] H fun v141 H10=>
 nilCheckV v0 fun v143=>
 fieldAddrV tab 133 v143 4 fun v144=>
 loadV tab 22 v144 H10 fun v145=>
 sliceV tab 22 v145 (some v141) none none fun v147=>
 CallT Tryz.prog 138 [v147] H10 fun v148 H11=>
 nilCheckV v0 fun v150=>
 fieldAddrV tab 133 v150 4 fun v151=>
 loadV tab 22 v151 H11 fun v152=>
 sliceV tab 22 v152 (some v141) none none fun v154=>
 lenV tab 22 v154 fun v155=>
 L118_1 K v0 v141 v148 v154 v155 (AV.p (.int .i64 0)) H11))
def W118 (v0:AV) (v1:AV) (H:Heap) (K:AV→Heap→Prop):Prop:=
 nilCheckV v0 fun v11=>
 fieldAddrV tab 133 v11 5 fun v12=>
 loadV tab 3 v12 H fun v13=>
 binV tab .add 3 v13 (AV.p (.int .i64 1)) fun v14=>
 nilCheckV v0 fun v15=>
 fieldAddrV tab 133 v15 5 fun v16=>
 storeV tab 3 v16 v14 H fun H1=>
 nilCheckV v0 fun v18=>
 fieldAddrV tab 133 v18 1 fun v19=>
 loadV tab 22 v19 H1 fun v20=>
 nilCheckV v0 fun v23=>
 fieldAddrV tab 133 v23 2 fun v24=>
 loadV tab 22 v24 H1 fun v25=>
 nilCheckV v0 fun v28=>
 fieldAddrV tab 133 v28 5 fun v29=>
 loadV tab 3 v29 H1 fun v30=>
 nilCheckV v0 fun v32=>
 fieldAddrV tab 133 v32 5 fun v33=>
 loadV tab 3 v33 H1 fun v34=>
 indexAddrV tab 22 v20 v1 fun v35=>
 storeV tab 3 v35 v30 H1 fun H2=>
 indexAddrV tab 22 v25 v1 fun v36=>
 storeV tab 3 v36 v34 H2 fun H3=>
 nilCheckV v0 fun v39=>
 fieldAddrV tab 133 v39 4 fun v40=>
 loadV tab 22 v40 H3 fun v41=>
 buildSliceV tab 22 1 [(0,v1)] H3 (wkK fun v43 H4=>
 appendV tab 22 22 v41 v43 H4 (wkK fun v44 H5=>
 nilCheckV v0 fun v45=>
 fieldAddrV tab 133 v45 4 fun v46=>
 storeV tab 22 v46 v44 H5 fun H6=>
 nilCheckV v0 fun v48=>
 fieldAddrV tab 133 v48 0 fun v49=>
 loadV tab 24 v49 H6 fun v50=>
 indexAddrV tab 24 v50 v1 fun v52=>
 loadV tab 22 v52 H6 fun v53=>
 lenV tab 22 v53 fun v54=>
 L118_0 K v0 v1 v53 v54 (AV.p (.int .i64 0)) H6))
theorem W118_wp (v0:AV) (v1:AV) (H:Heap) (K:AV→Heap→Prop):wpC Tryz.prog tab D118 (bodyOf Tryz.f118) (retF tab [] K) (nthA [v0,v1]) H=W118 v0 v1 H K:=by kernel_rfl
theorem W118_ok {v0 v1:AV} {H:Heap} {K:AV→Heap→Prop} (h:W118 v0 v1 H K):CallT Tryz.prog 118 [v0,v1] H K:=
  CallT.of_wp (D:=D118) tab_ok mixed Tryz.func118 (c:=bodyOf Tryz.f118) (by kernel_rfl) rfl (by kernel_rfl) (rs:=#[]) rfl (by decide +kernel) (by kernel_rfl) (W118_wp v0 v1 H K) h
theorem L118_1_rule {K:AV→Heap→Prop} {v0 v6 v7 v154 v155 v156:AV} {H:Heap} {σ:Type} (s0:σ) (f156:σ→AV) (TH:σ→Heap) (pre:σ→Prop) (μ:σ→Nat)
    (h0:pre s0∧AV.wk v156 (f156 s0)∧Heap.le (TH s0) H)
    (round:∀s,pre s→B118_1 K (fun w156 H'=>∃s',pre s'∧μ s' < μ s∧AV.wk w156 (f156 s')∧Heap.le (TH s') H') v0 v6 v7 v154 v155 (f156 s) (TH s)) :
    L118_1 K v0 v6 v7 v154 v155 v156 H:=by
  unfold L118_1
  exact LoopV.mk s0 (fun s=>[f156 s]) TH pre μ (fun _=>rfl) (Eq.mp (by kernel_rfl) h0) (fun s hs=>Eq.mp (by kernel_rfl) (round s hs))
theorem L118_0_rule {K:AV→Heap→Prop} {v0 v1 v53 v54 v55:AV} {H:Heap} {σ:Type} (s0:σ) (f55:σ→AV) (TH:σ→Heap) (pre:σ→Prop) (μ:σ→Nat)
    (h0:pre s0∧AV.wk v55 (f55 s0)∧Heap.le (TH s0) H)
    (round:∀s,pre s→B118_0 K (fun w55 H'=>∃s',pre s'∧μ s' < μ s∧AV.wk w55 (f55 s')∧Heap.le (TH s') H') v0 v1 v53 v54 (f55 s) (TH s)) :
    L118_0 K v0 v1 v53 v54 v55 H:=by
  unfold L118_0
  exact LoopV.mk s0 (fun s=>[f55 s]) TH pre μ (fun _=>rfl) (Eq.mp (by kernel_rfl) h0) (fun s hs=>Eq.mp (by kernel_rfl) (round s hs))
def D122:Info:=⟨15,fun i=>([],[]),fun i=>([],[])⟩
def J122_0 (K:AV→Heap→Prop) (v3:AV) (v7:AV) (H:Heap):Prop:=
 condV v7 (K (AV.p (.int .i64 1)) H)
 (binV tab .eql 3 v3 (AV.p (.int .i64 5)) fun v11=>
 condV v11 (condV v11 (K (AV.p (.int .i64 2)) H)
 (K (AV.p (.int .i64 (-1))) H))
 (binV tab .eql 3 v3 (AV.p (.int .i64 6)) fun v12=>
 condV v12 (condV v12 (K (AV.p (.int .i64 2)) H)
 (K (AV.p (.int .i64 (-1))) H))
 (binV tab .eql 3 v3 (AV.p (.int .i64 7)) fun v13=>
 condV v13 (condV v13 (K (AV.p (.int .i64 2)) H)
 (K (AV.p (.int .i64 (-1))) H))
 (binV tab .eql 3 v3 (AV.p (.int .i64 8)) fun v14=>
 condV v14 (K (AV.p (.int .i64 2)) H)
 (K (AV.p (.int .i64 (-1))) H)))))
def J122_1 (K:AV→Heap→Prop) (v3:AV) (v4:AV) (H:Heap):Prop:=
 condV v4 (K (AV.p (.int .i64 0)) H)
 (binV tab .eql 3 v3 (AV.p (.int .i64 3)) fun v8=>
 condV v8 (J122_0 K v3 v8 H)
 (binV tab .eql 3 v3 (AV.p (.int .i64 4)) fun v9=>
 J122_0 K v3 v9 H))
def W122 (v0:AV) (H:Heap) (K:AV→Heap→Prop):Prop:=
 binV tab .eql 3 v0 (AV.p (.int .i64 1)) fun v5=>
 condV v5 (J122_1 K v0 v5 H)
 (binV tab .eql 3 v0 (AV.p (.int .i64 2)) fun v6=>
 J122_1 K v0 v6 H)
theorem W122_wp (v0:AV) (H:Heap) (K:AV→Heap→Prop):wpC Tryz.prog tab D122 (bodyOf Tryz.f122) (retF tab [.tmp 2] K) (nthA [v0]) H=W122 v0 H K:=by kernel_rfl
theorem W122_ok {v0:AV} {H:Heap} {K:AV→Heap→Prop} (h:W122 v0 H K):CallT Tryz.prog 122 [v0] H K:=
  CallT.of_wp (D:=D122) tab_ok mixed Tryz.func122 (c:=bodyOf Tryz.f122) (by kernel_rfl) rfl (by kernel_rfl) (rs:=#[.tmp 2]) rfl (by decide +kernel) (by kernel_rfl) (W122_wp v0 H K) h
def D123:Info:=⟨18,fun i=>([],[]),fun i=>([],[])⟩
def W123 (v0:AV) (H:Heap) (K:AV→Heap→Prop):Prop:=
 boxV v0 H fun v1 H1=>
 fieldAddrV tab 76 v1 0 fun v3=>
 loadV tab 3 v3 H1 fun v4=>
 binV tab .eql 3 v4 (AV.p (.int .i64 1)) fun v6=>
 condV v6 (fieldAddrV tab 76 v1 1 fun v7=>
 loadV tab 3 v7 H1 fun v8=>
 CallT Tryz.prog 63 [v8,(AV.p (.int .i64 0)),(AV.p (.int .i64 2))] H1 fun v9 H2=>
 K v9 H2)
 (binV tab .eql 3 v4 (AV.p (.int .i64 2)) fun v11=>
 condV v11 (fieldAddrV tab 76 v1 1 fun v12=>
 loadV tab 3 v12 H1 fun v13=>
 CallT Tryz.prog 63 [v13,(AV.p (.int .i64 0)),(AV.p (.int .i64 1))] H1 fun v14 H3=>
 K v14 H3)
 (fieldAddrV tab 76 v1 1 fun v15=>
 loadV tab 3 v15 H1 fun v16=>
 binV tab .eql 3 v16 (AV.p (.int .i64 0)) fun v17=>
 K v17 H1))
theorem W123_wp (v0:AV) (H:Heap) (K:AV→Heap→Prop):wpC Tryz.prog tab D123 (bodyOf Tryz.f123) (retF tab [.tmp 2] K) (nthA [v0]) H=W123 v0 H K:=by kernel_rfl
theorem W123_ok {v0:AV} {H:Heap} {K:AV→Heap→Prop} (h:W123 v0 H K):CallT Tryz.prog 123 [v0] H K:=
  CallT.of_wp (D:=D123) tab_ok mixed Tryz.func123 (c:=bodyOf Tryz.f123) (by kernel_rfl) rfl (by kernel_rfl) (rs:=#[.tmp 2]) rfl (by decide +kernel) (by kernel_rfl) (W123_wp v0 H K) h
def D124:Info:=⟨137,fun i=>([],[]),fun i=>if i=3 then ([0,1,2,3,13,14],[9,15]) else ([],[])⟩
def L124_0 (K:AV→Heap→Prop) (v0:AV) (v1:AV) (v2:AV) (v3:AV) (v9:AV) (v13:AV) (v14:AV) (v15:AV) (H:Heap):Prop:=LoopV (wpC Tryz.prog tab D124 (cAt [1,1,0,1,0,0] (bodyOf Tryz.f124))) [0,1,2,3,13,14] (PostF.block 0 (PostF.thenA (wpC Tryz.prog tab D124 (cAt [1,1,1] (bodyOf Tryz.f124))) (retF tab [.tmp 8] K))) [9,15] [v0,v1,v2,v3,AV.any,AV.any,AV.any,AV.any,AV.any,v9,AV.any,AV.any,AV.any,v13,v14,v15,AV.any,AV.any,AV.any,AV.any,AV.any,AV.any,AV.any,AV.any,AV.any,AV.any,AV.any,AV.any,AV.any,AV.any,AV.any,AV.any,AV.any,AV.any,AV.any,AV.any,AV.any,AV.any,AV.any,AV.any,AV.any,AV.any,AV.any,AV.any,AV.any,AV.any,AV.any,AV.any,AV.any,AV.any,AV.any,AV.any,AV.any,AV.any,AV.any,AV.any,AV.any,AV.any,AV.any,AV.any,AV.any,AV.any,AV.any,AV.any,AV.any,AV.any,AV.any,AV.any,AV.any,AV.any,AV.any,AV.any,AV.any,AV.any,AV.any,AV.any,AV.any,AV.any,AV.any,AV.any,AV.any,AV.any,AV.any,AV.any,AV.any,AV.any,AV.any,AV.any,AV.any,AV.any,AV.any,AV.any,AV.any,AV.any,AV.any,AV.any,AV.any,AV.any,AV.any,AV.any,AV.any,AV.any,AV.any,AV.any,AV.any,AV.any,AV.any,AV.any,AV.any,AV.any,AV.any,AV.any,AV.any,AV.any,AV.any,AV.any,AV.any,AV.any,AV.any,AV.any,AV.any,AV.any,AV.any,AV.any,AV.any,AV.any,AV.any,AV.any,AV.any,AV.any,AV.any,AV.any,AV.any,AV.any,AV.any,AV.any,AV.any] H
def J124_1 (K:AV→Heap→Prop) (N1:AV→AV→Heap→Prop) (v0:AV) (v1:AV) (v2:AV) (v3:AV) (v9:AV) (v12:AV) (v13:AV) (v14:AV) (v15:AV) (H:Heap):Prop:=
 buildSliceV tab 116 1 [(0,v12)] H (wkK fun v133 H3=>
 appendV tab 116 116 v9 v133 H3 (wkK fun v134 H4=>
 binV tab .add 3 v15 (AV.p (.int .i64 1)) fun v135=>
 N1 v134 v135 H4))
def J124_2 (K:AV→Heap→Prop) (N1:AV→AV→Heap→Prop) (v0:AV) (v1:AV) (v2:AV) (v3:AV) (v9:AV) (v13:AV) (v14:AV) (v15:AV) (H:Heap):Prop:=
 buildSliceV tab 116 1 [(0,(AV.p (.bool false)))] H (wkK fun v133 H7=>
 appendV tab 116 116 v9 v133 H7 (wkK fun v134 H8=>
 binV tab .add 3 v15 (AV.p (.int .i64 1)) fun v135=>
 N1 v134 v135 H8))
def J124_3 (K:AV→Heap→Prop) (N1:AV→AV→Heap→Prop) (v0:AV) (v1:AV) (v2:AV) (v3:AV) (v9:AV) (v13:AV) (v14:AV) (v15:AV) (H:Heap):Prop:=
 buildSliceV tab 116 1 [(0,(AV.p (.bool true)))] H (wkK fun v133 H10=>
 appendV tab 116 116 v9 v133 H10 (wkK fun v134 H11=>
 binV tab .add 3 v15 (AV.p (.int .i64 1)) fun v135=>
 N1 v134 v135 H11))
def B124_0 (K:AV→Heap→Prop) (N1:AV→AV→Heap→Prop) (v0:AV) (v1:AV) (v2:AV) (v3:AV) (v9:AV) (v13:AV) (v14:AV) (v15:AV) (H:Heap):Prop:=
 binV tab .lss 3 v15 v14 fun v16=>
 condV v16 (indexAddrV tab 45 v13 v15 fun v18=>
 loadV tab 76 v18 H fun v19=>
 allocV tab 76 H fun v11 H1=>
 storeV tab 76 v11 v19 H1 fun H2=>
 fieldAddrV tab 76 v11 0 fun v20=>
 loadV tab 3 v20 H2 fun v21=>
 binV tab .eql 3 v21 (AV.p (.int .i64 1)) fun v23=>
 condV v23 (fieldAddrV tab 76 v11 1 fun v25=>
 loadV tab 3 v25 H2 fun v26=>
 convV tab 3 111 v26 fun v27=>
 binV tab .shr 3 v2 v27 fun v28=>
 binV tab .and 3 v28 (AV.p (.int .i64 1)) fun v29=>
 binV tab .eql 3 v29 (AV.p (.int .i64 1)) fun v30=>
 J124_1 K N1 v0 v1 v2 v3 v9 v30 v13 v14 v15 H2)
 (binV tab .eql 3 v21 (AV.p (.int .i64 2)) fun v32=>
 condV v32 (fieldAddrV tab 76 v11 1 fun v33=>
 loadV tab 3 v33 H2 fun v34=>
 binV tab .eql 3 v34 (AV.p (.int .i64 1)) fun v35=>
 J124_1 K N1 v0 v1 v2 v3 v9 v35 v13 v14 v15 H2)
 (binV tab .eql 3 v21 (AV.p (.int .i64 3)) fun v37=>
 condV v37 (binV tab .sub 3 v15 (AV.p (.int .i64 1)) fun v40=>
 indexAddrV tab 116 v9 v40 fun v41=>
 loadV tab 4 v41 H2 fun v42=>
 unV .not v42 fun v43=>
 J124_1 K N1 v0 v1 v2 v3 v9 v43 v13 v14 v15 H2)
 (binV tab .eql 3 v21 (AV.p (.int .i64 4)) fun v45=>
 condV v45 (binV tab .sub 3 v15 (AV.p (.int .i64 1)) fun v49=>
 CallT Tryz.prog 94 [v1,v3,v49] H2 fun v50 H5=>
 J124_1 K N1 v0 v1 v2 v3 v9 v50 v13 v14 v15 H5)
 (binV tab .eql 3 v21 (AV.p (.int .i64 5)) fun v52=>
 condV v52 (binV tab .sub 3 v15 (AV.p (.int .i64 1)) fun v56=>
 CallT Tryz.prog 152 [v0,v56] H2 fun v57 H6=>
 binV tab .sub 3 v57 (AV.p (.int .i64 1)) fun v58=>
 indexAddrV tab 116 v9 v58 fun v59=>
 loadV tab 4 v59 H6 fun v60=>
 grdV v60 true (binV tab .sub 3 v15 (AV.p (.int .i64 1)) fun v64=>
 indexAddrV tab 116 v9 v64 fun v65=>
 loadV tab 4 v65 H6 fun v66=>
 J124_1 K N1 v0 v1 v2 v3 v9 v66 v13 v14 v15 H6)
 (J124_2 K N1 v0 v1 v2 v3 v9 v13 v14 v15 H6))
 (binV tab .eql 3 v21 (AV.p (.int .i64 6)) fun v69=>
 condV v69 (binV tab .sub 3 v15 (AV.p (.int .i64 1)) fun v73=>
 CallT Tryz.prog 152 [v0,v73] H2 fun v74 H9=>
 binV tab .sub 3 v74 (AV.p (.int .i64 1)) fun v75=>
 indexAddrV tab 116 v9 v75 fun v76=>
 loadV tab 4 v76 H9 fun v77=>
 grdV v77 false (binV tab .sub 3 v15 (AV.p (.int .i64 1)) fun v81=>
 indexAddrV tab 116 v9 v81 fun v82=>
 loadV tab 4 v82 H9 fun v83=>
 J124_1 K N1 v0 v1 v2 v3 v9 v83 v13 v14 v15 H9)
 (J124_3 K N1 v0 v1 v2 v3 v9 v13 v14 v15 H9))
 (binV tab .eql 3 v21 (AV.p (.int .i64 7)) fun v86=>
 condV v86 (binV tab .sub 3 v15 (AV.p (.int .i64 1)) fun v89=>
 indexAddrV tab 116 v9 v89 fun v90=>
 loadV tab 4 v90 H2 fun v91=>
 grdV v91 false (binV tab .sub 3 v15 (AV.p (.int .i64 1)) fun v96=>
 CallT Tryz.prog 152 [v0,v96] H2 fun v97 H12=>
 binV tab .sub 3 v97 (AV.p (.int .i64 1)) fun v98=>
 indexAddrV tab 116 v9 v98 fun v99=>
 loadV tab 4 v99 H12 fun v100=>
 grdV v100 true (CallT Tryz.prog 94 [v1,v3,v15] H12 fun v105 H13=>
 J124_1 K N1 v0 v1 v2 v3 v9 v105 v13 v14 v15 H13)
 (J124_2 K N1 v0 v1 v2 v3 v9 v13 v14 v15 H12))
 (J124_3 K N1 v0 v1 v2 v3 v9 v13 v14 v15 H2))
 (binV tab .eql 3 v21 (AV.p (.int .i64 8)) fun v109=>
 condV v109 (binV tab .sub 3 v15 (AV.p (.int .i64 1)) fun v112=>
 indexAddrV tab 116 v9 v112 fun v113=>
 loadV tab 4 v113 H2 fun v114=>
 grdV v114 true (binV tab .sub 3 v15 (AV.p (.int .i64 1)) fun v119=>
 CallT Tryz.prog 152 [v0,v119] H2 fun v120 H14=>
 binV tab .sub 3 v120 (AV.p (.int .i64 1)) fun v121=>
 indexAddrV tab 116 v9 v121 fun v122=>
 loadV tab 4 v122 H14 fun v123=>
 grdV v123 false (CallT Tryz.prog 94 [v1,v3,v15] H14 fun v128 H15=>
 J124_1 K N1 v0 v1 v2 v3 v9 v128 v13 v14 v15 H15)
 (J124_3 K N1 v0 v1 v2 v3 v9 v13 v14 v15 H14))
 (J124_2 K N1 v0 v1 v2 v3 v9 v13 v14 v15 H2))
 (J124_2 K N1 v0 v1 v2 v3 v9 v13 v14 v15 H2)))))))))
 (K v9 H)
def W124 (v0:AV) (v1:AV) (v2:AV) (v3:AV) (H:Heap) (K:AV→Heap→Prop):Prop:=
 lenV tab 45 v0 fun v14=>
 L124_0 K v0 v1 v2 v3 (AV.p .nil) v0 v14 (AV.p (.int .i64 0)) H
theorem W124_wp (v0:AV) (v1:AV) (v2:AV) (v3:AV) (H:Heap) (K:AV→Heap→Prop):wpC Tryz.prog tab D124 (bodyOf Tryz.f124) (retF tab [.tmp 8] K) (nthA [v0,v1,v2,v3]) H=W124 v0 v1 v2 v3 H K:=by kernel_rfl
theorem W124_ok {v0 v1 v2 v3:AV} {H:Heap} {K:AV→Heap→Prop} (h:W124 v0 v1 v2 v3 H K):CallT Tryz.prog 124 [v0,v1,v2,v3] H K:=
  CallT.of_wp (D:=D124) tab_ok mixed Tryz.func124 (c:=bodyOf Tryz.f124) (by kernel_rfl) rfl (by kernel_rfl) (rs:=#[.tmp 8]) rfl (by decide +kernel) (by kernel_rfl) (W124_wp v0 v1 v2 v3 H K) h
theorem L124_0_rule {K:AV→Heap→Prop} {v0 v1 v2 v3 v9 v13 v14 v15:AV} {H:Heap} {σ:Type} (s0:σ) (f9:σ→AV) (f15:σ→AV) (TH:σ→Heap) (pre:σ→Prop) (μ:σ→Nat)
    (h0:pre s0∧AV.wk v9 (f9 s0)∧AV.wk v15 (f15 s0)∧Heap.le (TH s0) H)
    (round:∀s,pre s→B124_0 K (fun w9 w15 H'=>∃s',pre s'∧μ s' < μ s∧AV.wk w9 (f9 s')∧AV.wk w15 (f15 s')∧Heap.le (TH s') H') v0 v1 v2 v3 (f9 s) v13 v14 (f15 s) (TH s)) :
    L124_0 K v0 v1 v2 v3 v9 v13 v14 v15 H:=by
  unfold L124_0
  exact LoopV.mk s0 (fun s=>[f9 s,f15 s]) TH pre μ (fun _=>rfl) (Eq.mp (by kernel_rfl) h0) (fun s hs=>Eq.mp (by kernel_rfl) (round s hs))
def D125:Info:=⟨15,fun i=>([],[]),fun i=>([],[])⟩
def J125_0 (K:AV→Heap→Prop) (v3:AV) (v7:AV) (H:Heap):Prop:=
 condV v7 (K (AV.p (.int .i64 1)) H)
 (binV tab .eql 3 v3 (AV.p (.int .i64 5)) fun v11=>
 condV v11 (condV v11 (K (AV.p (.int .i64 2)) H)
 (K (AV.p (.int .i64 (-1))) H))
 (binV tab .eql 3 v3 (AV.p (.int .i64 6)) fun v12=>
 condV v12 (condV v12 (K (AV.p (.int .i64 2)) H)
 (K (AV.p (.int .i64 (-1))) H))
 (binV tab .eql 3 v3 (AV.p (.int .i64 7)) fun v13=>
 condV v13 (condV v13 (K (AV.p (.int .i64 2)) H)
 (K (AV.p (.int .i64 (-1))) H))
 (binV tab .eql 3 v3 (AV.p (.int .i64 8)) fun v14=>
 condV v14 (K (AV.p (.int .i64 2)) H)
 (K (AV.p (.int .i64 (-1))) H)))))
def J125_1 (K:AV→Heap→Prop) (v3:AV) (v4:AV) (H:Heap):Prop:=
 condV v4 (K (AV.p (.int .i64 0)) H)
 (binV tab .eql 3 v3 (AV.p (.int .i64 3)) fun v8=>
 condV v8 (J125_0 K v3 v8 H)
 (binV tab .eql 3 v3 (AV.p (.int .i64 4)) fun v9=>
 J125_0 K v3 v9 H))
def W125 (v0:AV) (H:Heap) (K:AV→Heap→Prop):Prop:=
 binV tab .eql 3 v0 (AV.p (.int .i64 1)) fun v5=>
 condV v5 (J125_1 K v0 v5 H)
 (binV tab .eql 3 v0 (AV.p (.int .i64 2)) fun v6=>
 J125_1 K v0 v6 H)
theorem W125_wp (v0:AV) (H:Heap) (K:AV→Heap→Prop):wpC Tryz.prog tab D125 (bodyOf Tryz.f125) (retF tab [.tmp 2] K) (nthA [v0]) H=W125 v0 H K:=by kernel_rfl
theorem W125_ok {v0:AV} {H:Heap} {K:AV→Heap→Prop} (h:W125 v0 H K):CallT Tryz.prog 125 [v0] H K:=
  CallT.of_wp (D:=D125) tab_ok mixed Tryz.func125 (c:=bodyOf Tryz.f125) (by kernel_rfl) rfl (by kernel_rfl) (rs:=#[.tmp 2]) rfl (by decide +kernel) (by kernel_rfl) (W125_wp v0 H K) h
def D126:Info:=⟨34,fun i=>([],[]),fun i=>([],[])⟩
def W126 (v0:AV) (H:Heap) (K:AV→Heap→Prop):Prop:=
 boxV v0 H fun v1 H1=>
 fieldAddrV tab 76 v1 0 fun v3=>
 loadV tab 3 v3 H1 fun v4=>
 binV tab .eql 3 v4 (AV.p (.int .i64 1)) fun v6=>
 condV v6 (fieldAddrV tab 76 v1 1 fun v7=>
 loadV tab 3 v7 H1 fun v8=>
 binV tab .geq 3 v8 (AV.p (.int .i64 0)) fun v9=>
 grdV v9 true (fieldAddrV tab 76 v1 1 fun v11=>
 loadV tab 3 v11 H1 fun v12=>
 binV tab .lss 3 v12 (AV.p (.int .i64 3)) fun v13=>
 K v13 H1)
 (K (AV.p (.bool false)) H1))
 (binV tab .eql 3 v4 (AV.p (.int .i64 2)) fun v16=>
 condV v16 (fieldAddrV tab 76 v1 1 fun v17=>
 loadV tab 3 v17 H1 fun v18=>
 binV tab .eql 3 v18 (AV.p (.int .i64 0)) fun v19=>
 grdV v19 false (fieldAddrV tab 76 v1 1 fun v21=>
 loadV tab 3 v21 H1 fun v22=>
 binV tab .eql 3 v22 (AV.p (.int .i64 1)) fun v23=>
 K v23 H1)
 (K (AV.p (.bool true)) H1))
 (fieldAddrV tab 76 v1 0 fun v25=>
 loadV tab 3 v25 H1 fun v26=>
 CallT Tryz.prog 125 [v26] H1 fun v27 H2=>
 binV tab .gtr 3 v27 (AV.p (.int .i64 0)) fun v28=>
 grdV v28 true (fieldAddrV tab 76 v1 1 fun v30=>
 loadV tab 3 v30 H2 fun v31=>
 binV tab .eql 3 v31 (AV.p (.int .i64 0)) fun v32=>
 K v32 H2)
 (K (AV.p (.bool false)) H2)))
theorem W126_wp (v0:AV) (H:Heap) (K:AV→Heap→Prop):wpC Tryz.prog tab D126 (bodyOf Tryz.f126) (retF tab [.tmp 2] K) (nthA [v0]) H=W126 v0 H K:=by kernel_rfl
theorem W126_ok {v0:AV} {H:Heap} {K:AV→Heap→Prop} (h:W126 v0 H K):CallT Tryz.prog 126 [v0] H K:=
  CallT.of_wp (D:=D126) tab_ok mixed Tryz.func126 (c:=bodyOf Tryz.f126) (by kernel_rfl) rfl (by kernel_rfl) (rs:=#[.tmp 2]) rfl (by decide +kernel) (by kernel_rfl) (W126_wp v0 H K) h
def D127:Info:=⟨38,fun i=>([],[]),fun i=>if i=3 then ([10,11],[3,4,12]) else ([],[])⟩
def L127_0 (K:AV→Heap→Prop) (v3:AV) (v4:AV) (v10:AV) (v11:AV) (v12:AV) (H:Heap):Prop:=LoopV (wpC Tryz.prog tab D127 (cAt [1,1,0,1,0,0] (bodyOf Tryz.f127))) [10,11] (PostF.block 0 (PostF.thenA (wpC Tryz.prog tab D127 (cAt [1,1,1] (bodyOf Tryz.f127))) (retF tab [.tmp 2] K))) [3,4,12] [AV.any,AV.any,AV.any,v3,v4,AV.any,AV.any,AV.any,AV.any,AV.any,v10,v11,v12,AV.any,AV.any,AV.any,AV.any,AV.any,AV.any,AV.any,AV.any,AV.any,AV.any,AV.any,AV.any,AV.any,AV.any,AV.any,AV.any,AV.any,AV.any,AV.any,AV.any,AV.any,AV.any,AV.any,AV.any,AV.any] H
def B127_0 (K:AV→Heap→Prop) (N1:AV→AV→AV→Heap→Prop) (v3:AV) (v4:AV) (v10:AV) (v11:AV) (v12:AV) (H:Heap):Prop:=
 binV tab .lss 3 v12 v11 fun v13=>
 condV v13 (indexAddrV tab 45 v10 v12 fun v15=>
 loadV tab 76 v15 H fun v16=>
 allocV tab 76 H fun v6 H3=>
 storeV tab 76 v6 v16 H3 fun H4=>
 lenV tab 22 v4 fun v18=>
 fieldAddrV tab 76 v6 0 fun v19=>
 loadV tab 3 v19 H4 fun v20=>
 CallT Tryz.prog 125 [v20] H4 fun v21 H5=>
 binV tab .sub 3 v18 v21 fun v22=>
 sliceV tab 22 v4 (some v22) none none fun v26=>
 CallT Tryz.prog 82 [v26] H5 fun v27 H6=>
 buildSliceV tab 24 1 [(0,v27)] H6 (wkK fun v28 H7=>
 appendV tab 24 24 v3 v28 H7 (wkK fun v29 H8=>
 sliceV tab 22 v4 none (some v22) none fun v32=>
 buildSliceV tab 22 1 [(0,v12)] H8 (wkK fun v34 H9=>
 appendV tab 22 22 v32 v34 H9 (wkK fun v35 H10=>
 binV tab .add 3 v12 (AV.p (.int .i64 1)) fun v36=>
 N1 v29 v35 v36 H10)))))
 (K v3 H)
def W127 (v0:AV) (H:Heap) (K:AV→Heap→Prop):Prop:=
 buildSliceV tab 24 0 [] H (wkK fun v8 H1=>
 buildSliceV tab 22 0 [] H1 (wkK fun v9 H2=>
 lenV tab 45 v0 fun v11=>
 L127_0 K v8 v9 v0 v11 (AV.p (.int .i64 0)) H2))
theorem W127_wp (v0:AV) (H:Heap) (K:AV→Heap→Prop):wpC Tryz.prog tab D127 (bodyOf Tryz.f127) (retF tab [.tmp 2] K) (nthA [v0]) H=W127 v0 H K:=by kernel_rfl
theorem W127_ok {v0:AV} {H:Heap} {K:AV→Heap→Prop} (h:W127 v0 H K):CallT Tryz.prog 127 [v0] H K:=
  CallT.of_wp (D:=D127) tab_ok mixed Tryz.func127 (c:=bodyOf Tryz.f127) (by kernel_rfl) rfl (by kernel_rfl) (rs:=#[.tmp 2]) rfl (by decide +kernel) (by kernel_rfl) (W127_wp v0 H K) h
theorem L127_0_rule {K:AV→Heap→Prop} {v3 v4 v10 v11 v12:AV} {H:Heap} {σ:Type} (s0:σ) (f3:σ→AV) (f4:σ→AV) (f12:σ→AV) (TH:σ→Heap) (pre:σ→Prop) (μ:σ→Nat)
    (h0:pre s0∧AV.wk v3 (f3 s0)∧AV.wk v4 (f4 s0)∧AV.wk v12 (f12 s0)∧Heap.le (TH s0) H)
    (round:∀s,pre s→B127_0 K (fun w3 w4 w12 H'=>∃s',pre s'∧μ s' < μ s∧AV.wk w3 (f3 s')∧AV.wk w4 (f4 s')∧AV.wk w12 (f12 s')∧Heap.le (TH s') H') (f3 s) (f4 s) v10 v11 (f12 s) (TH s)) :
    L127_0 K v3 v4 v10 v11 v12 H:=by
  unfold L127_0
  exact LoopV.mk s0 (fun s=>[f3 s,f4 s,f12 s]) TH pre μ (fun _=>rfl) (Eq.mp (by kernel_rfl) h0) (fun s hs=>Eq.mp (by kernel_rfl) (round s hs))
def D129:Info:=⟨22,fun i=>([],[]),fun i=>if i=3 then ([1,9],[5,10]) else ([],[])⟩
def L129_0 (K:AV→Heap→Prop) (v1:AV) (v5:AV) (v9:AV) (v10:AV) (H:Heap):Prop:=LoopV (wpC Tryz.prog tab D129 (cAt [1,1,0,1,0,0] (bodyOf Tryz.f129))) [1,9] (PostF.block 0 (PostF.thenA (wpC Tryz.prog tab D129 (cAt [1,1,1] (bodyOf Tryz.f129))) (retF tab [.tmp 4] K))) [5,10] [AV.any,v1,AV.any,AV.any,AV.any,v5,AV.any,AV.any,AV.any,v9,v10,AV.any,AV.any,AV.any,AV.any,AV.any,AV.any,AV.any,AV.any,AV.any,AV.any,AV.any] H
def B129_0 (K:AV→Heap→Prop) (N1:AV→AV→Heap→Prop) (v1:AV) (v5:AV) (v9:AV) (v10:AV) (H:Heap):Prop:=
 binV tab .lss 3 v10 v9 fun v11=>
 condV v11 (callF Tryz.prog v1 [v10] H fun v15 H3=>
 condV v15 (buildSliceV tab 22 1 [(0,v10)] H3 (wkK fun v18 H4=>
 appendV tab 22 22 v5 v18 H4 (wkK fun v19 H5=>
 binV tab .add 3 v10 (AV.p (.int .i64 1)) fun v20=>
 N1 v19 v20 H5)))
 (binV tab .add 3 v10 (AV.p (.int .i64 1)) fun v20=>
 N1 v5 v20 H3))
 (K v5 H)
def W129 (v0:AV) (v1:AV) (H:Heap) (K:AV→Heap→Prop):Prop:=
 buildSliceV tab 22 0 [] H (wkK fun v7 H1=>
 CallT Tryz.prog 102 [v0] H1 fun v9 H2=>
 L129_0 K v1 v7 v9 (AV.p (.int .i64 0)) H2)
theorem W129_wp (v0:AV) (v1:AV) (H:Heap) (K:AV→Heap→Prop):wpC Tryz.prog tab D129 (bodyOf Tryz.f129) (retF tab [.tmp 4] K) (nthA [v0,v1]) H=W129 v0 v1 H K:=by kernel_rfl
theorem W129_ok {v0 v1:AV} {H:Heap} {K:AV→Heap→Prop} (h:W129 v0 v1 H K):CallT Tryz.prog 129 [v0,v1] H K:=
  CallT.of_wp (D:=D129) tab_ok mixed Tryz.func129 (c:=bodyOf Tryz.f129) (by kernel_rfl) rfl (by kernel_rfl) (rs:=#[.tmp 4]) rfl (by decide +kernel) (by kernel_rfl) (W129_wp v0 v1 H K) h
theorem L129_0_rule {K:AV→Heap→Prop} {v1 v5 v9 v10:AV} {H:Heap} {σ:Type} (s0:σ) (f5:σ→AV) (f10:σ→AV) (TH:σ→Heap) (pre:σ→Prop) (μ:σ→Nat)
    (h0:pre s0∧AV.wk v5 (f5 s0)∧AV.wk v10 (f10 s0)∧Heap.le (TH s0) H)
    (round:∀s,pre s→B129_0 K (fun w5 w10 H'=>∃s',pre s'∧μ s' < μ s∧AV.wk w5 (f5 s')∧AV.wk w10 (f10 s')∧Heap.le (TH s') H') v1 (f5 s) v9 (f10 s) (TH s)) :
    L129_0 K v1 v5 v9 v10 H:=by
  unfold L129_0
  exact LoopV.mk s0 (fun s=>[f5 s,f10 s]) TH pre μ (fun _=>rfl) (Eq.mp (by kernel_rfl) h0) (fun s hs=>Eq.mp (by kernel_rfl) (round s hs))
def D130:Info:=⟨14,fun i=>if i=1 then ([[],[],[],[2],[2,3],[0,1,2,3,4],[],[0,1,2,3,4,5,6],[0,1,2,3,4,5,6,7]],[(0,[]),(1,[]),(2,[]),(3,[]),(4,[]),(6,[]),(5,[6]),(7,[]),(8,[])]) else ([],[]),fun i=>([],[])⟩
def W130 (v0:AV) (v1:AV) (v2:AV) (v3:AV) (H:Heap) (K:AV→Heap→Prop):Prop:=
 loadV tab 22 v1 H fun v6=>
 loadV tab 45 v2 H fun v8=>
 lenV tab 45 v8 fun v9=>
 binV tab .sub 3 v9 (AV.p (.int .i64 1)) fun v10=>
 loadV tab 4 v3 H fun v12=>
 CallT Tryz.prog 131 [v6,v0,v10] H fun v11 H1=>
 (loadV tab 4 v3 H1 fun v9012=>
 v12=v9012)∧
 binV tab .eql 4 v11 v12 fun v13=>
 K v13 H1
theorem W130_wp (v0:AV) (v1:AV) (v2:AV) (v3:AV) (H:Heap) (K:AV→Heap→Prop):wpC Tryz.prog tab D130 (bodyOf Tryz.f130) (retF tab [.tmp 5] K) (nthA [v0,v1,v2,v3]) H=W130 v0 v1 v2 v3 H K:=by kernel_rfl
theorem W130_ok {v0 v1 v2 v3:AV} {H:Heap} {K:AV→Heap→Prop} (h:W130 v0 v1 v2 v3 H K):CallT Tryz.prog 130 [v0,v1,v2,v3] H K:=
  CallT.of_wp (D:=D130) tab_ok mixed Tryz.func130 (c:=bodyOf Tryz.f130) (by kernel_rfl) rfl (by kernel_rfl) (rs:=#[.tmp 5]) rfl (by decide +kernel) (by kernel_rfl) (W130_wp v0 v1 v2 v3 H K) h
def D131:Info:=⟨14,fun i=>([],[]),fun i=>([],[])⟩
def W131 (v0:AV) (v1:AV) (v2:AV) (H:Heap) (K:AV→Heap→Prop):Prop:=
 CallT Tryz.prog 137 [v0,v2] H fun v10 H1=>
 binV tab .shr 3 v1 v10 fun v11=>
 binV tab .and 3 v11 (AV.p (.int .i64 1)) fun v12=>
 binV tab .eql 3 v12 (AV.p (.int .i64 1)) fun v13=>
 K v13 H1
theorem W131_wp (v0:AV) (v1:AV) (v2:AV) (H:Heap) (K:AV→Heap→Prop):wpC Tryz.prog tab D131 (bodyOf Tryz.f131) (retF tab [.tmp 6] K) (nthA [v0,v1,v2]) H=W131 v0 v1 v2 H K:=by kernel_rfl
theorem W131_ok {v0 v1 v2:AV} {H:Heap} {K:AV→Heap→Prop} (h:W131 v0 v1 v2 H K):CallT Tryz.prog 131 [v0,v1,v2] H K:=
  CallT.of_wp (D:=D131) tab_ok mixed Tryz.func131 (c:=bodyOf Tryz.f131) (by kernel_rfl) rfl (by kernel_rfl) (rs:=#[.tmp 6]) rfl (by decide +kernel) (by kernel_rfl) (W131_wp v0 v1 v2 H K) h
def D132:Info:=⟨44,fun i=>if i=1 then ([[],[],[],[0,1,2],[],[],[],[],[6,7],[6,7,8],[6,7,8,9],[6,7,8,9,10],[0,1,2,3,4,5,6,7,8,9,10,11],[0,1,2,3,4,5,6,7,8,9,10,11,12],[0,1,2,3,4,5,6,7,8,9,10,11,12,13]],[(0,[]),(1,[]),(2,[]),(4,[]),(5,[]),(6,[]),(7,[]),(8,[]),(9,[]),(10,[]),(11,[]),(3,[4,6,7,9,11]),(12,[]),(13,[]),(14,[])]) else ([],[]),fun i=>([],[])⟩
def W132 (v0:AV) (v1:AV) (v2:AV) (v3:AV) (v4:AV) (H:Heap) (K:AV→Heap→Prop):Prop:=
 loadV tab 22 v1 H fun v9=>
 loadV tab 3 v2 H fun v11=>
 loadV tab 22 v1 H fun v13=>
 loadV tab 24 v3 H fun v15=>
 loadV tab 3 v2 H fun v16=>
 indexAddrV tab 24 v15 v16 fun v17=>
 loadV tab 22 v17 H fun v18=>
 indexAddrV tab 22 v18 (AV.p (.int .i64 1)) fun v19=>
 loadV tab 3 v19 H fun v20=>
 CallT Tryz.prog 131 [v9,v0,v11] H fun v12 H1=>
 (loadV tab 22 v1 H1 fun v9013=>
 v13=v9013)∧
 (loadV tab 24 v3 H1 fun v9015=>
 v15=v9015)∧
 (loadV tab 3 v2 H1 fun v9016=>
 v16=v9016)∧
 (loadV tab 22 v17 H1 fun v9018=>
 v18=v9018)∧
 (loadV tab 3 v19 H1 fun v9020=>
 v20=v9020)∧
 CallT Tryz.prog 131 [v13,v0,v20] H1 fun v21 H2=>
 fieldAddrV tab 76 v4 0 fun v22=>
 loadV tab 3 v22 H2 fun v23=>
 binV tab .eql 3 v23 (AV.p (.int .i64 7)) fun v24=>
 grdV v24 true (unV .not v12 fun v27=>
 grdV v27 false (grdV v21 false (fieldAddrV tab 76 v4 0 fun v33=>
 loadV tab 3 v33 H2 fun v34=>
 binV tab .eql 3 v34 (AV.p (.int .i64 8)) fun v35=>
 grdV v35 true (grdV v12 false (unV .not v21 fun v40=>
 K v40 H2)
 (K (AV.p (.bool true)) H2))
 (K (AV.p (.bool false)) H2))
 (K (AV.p (.bool true)) H2))
 (K (AV.p (.bool true)) H2))
 (fieldAddrV tab 76 v4 0 fun v33=>
 loadV tab 3 v33 H2 fun v34=>
 binV tab .eql 3 v34 (AV.p (.int .i64 8)) fun v35=>
 grdV v35 true (grdV v12 false (unV .not v21 fun v40=>
 K v40 H2)
 (K (AV.p (.bool true)) H2))
 (K (AV.p (.bool false)) H2))
theorem W132_wp (v0:AV) (v1:AV) (v2:AV) (v3:AV) (v4:AV) (H:Heap) (K:AV→Heap→Prop):wpC Tryz.prog tab D132 (bodyOf Tryz.f132) (retF tab [.tmp 6] K) (nthA [v0,v1,v2,v3,v4]) H=W132 v0 v1 v2 v3 v4 H K:=by kernel_rfl
theorem W132_ok {v0 v1 v2 v3 v4:AV} {H:Heap} {K:AV→Heap→Prop} (h:W132 v0 v1 v2 v3 v4 H K):CallT Tryz.prog 132 [v0,v1,v2,v3,v4] H K:=
  CallT.of_wp (D:=D132) tab_ok mixed Tryz.func132 (c:=bodyOf Tryz.f132) (by kernel_rfl) rfl (by kernel_rfl) (rs:=#[.tmp 6]) rfl (by decide +kernel) (by kernel_rfl) (W132_wp v0 v1 v2 v3 v4 H K) h
def D133:Info:=⟨167,fun i=>([],[]),fun i=>if i=3 then ([1,2,8,9,18,19],[7,20]) else ([],[])⟩
def L133_0 (K:AV→Heap→Prop) (v1:AV) (v2:AV) (v7:AV) (v8:AV) (v9:AV) (v18:AV) (v19:AV) (v20:AV) (H:Heap):Prop:=LoopV (wpC Tryz.prog tab D133 (cAt [1,1,0,1,0,0] (bodyOf Tryz.f133))) [1,2,8,9,18,19] (PostF.block 0 (PostF.thenA (wpC Tryz.prog tab D133 (cAt [1,1,1] (bodyOf Tryz.f133))) (retF tab [.tmp 6] K))) [7,20] [AV.any,v1,v2,AV.any,AV.any,AV.any,AV.any,v7,v8,v9,AV.any,AV.any,AV.any,AV.any,AV.any,AV.any,AV.any,AV.any,v18,v19,v20,AV.any,AV.any,AV.any,AV.any,AV.any,AV.any,AV.any,AV.any,AV.any,AV.any,AV.any,AV.any,AV.any,AV.any,AV.any,AV.any,AV.any,AV.any,AV.any,AV.any,AV.any,AV.any,AV.any,AV.any,AV.any,AV.any,AV.any,AV.any,AV.any,AV.any,AV.any,AV.any,AV.any,AV.any,AV.any,AV.any,AV.any,AV.any,AV.any,AV.any,AV.any,AV.any,AV.any,AV.any,AV.any,AV.any,AV.any,AV.any,AV.any,AV.any,AV.any,AV.any,AV.any,AV.any,AV.any,AV.any,AV.any,AV.any,AV.any,AV.any,AV.any,AV.any,AV.any,AV.any,AV.any,AV.any,AV.any,AV.any,AV.any,AV.any,AV.any,AV.any,AV.any,AV.any,AV.any,AV.any,AV.any,AV.any,AV.any,AV.any,AV.any,AV.any,AV.any,AV.any,AV.any,AV.any,AV.any,AV.any,AV.any,AV.any,AV.any,AV.any,AV.any,AV.any,AV.any,AV.any,AV.any,AV.any,AV.any,AV.any,AV.any,AV.any,AV.any,AV.any,AV.any,AV.any,AV.any,AV.any,AV.any,AV.any,AV.any,AV.any,AV.any,AV.any,AV.any,AV.any,AV.any,AV.any,AV.any,AV.any,AV.any,AV.any,AV.any,AV.any,AV.any,AV.any,AV.any,AV.any,AV.any,AV.any,AV.any,AV.any,AV.any,AV.any,AV.any,AV.any,AV.any,AV.any,AV.any,AV.any,AV.any,AV.any,AV.any,AV.any,AV.any,AV.any] H
def J133_1 (K:AV→Heap→Prop) (N1:AV→AV→Heap→Prop) (v1:AV) (v2:AV) (v7:AV) (v8:AV) (v9:AV) (v12:AV) (v18:AV) (v19:AV) (v20:AV) (H:Heap):Prop:=
 buildSliceV tab 116 1 [(0,v12)] H (wkK fun v163 H6=>
 appendV tab 116 116 v7 v163 H6 (wkK fun v164 H7=>
 binV tab .add 3 v20 (AV.p (.int .i64 1)) fun v165=>
 N1 v164 v165 H7))
def J133_2 (K:AV→Heap→Prop) (N1:AV→AV→Heap→Prop) (v1:AV) (v2:AV) (v7:AV) (v8:AV) (v9:AV) (v18:AV) (v19:AV) (v20:AV) (H:Heap):Prop:=
 buildSliceV tab 116 1 [(0,(AV.p (.bool false)))] H (wkK fun v163 H9=>
 appendV tab 116 116 v7 v163 H9 (wkK fun v164 H10=>
 binV tab .add 3 v20 (AV.p (.int .i64 1)) fun v165=>
 N1 v164 v165 H10))
def J133_3 (K:AV→Heap→Prop) (N1:AV→AV→Heap→Prop) (v1:AV) (v2:AV) (v7:AV) (v8:AV) (v9:AV) (v18:AV) (v19:AV) (v20:AV) (H:Heap):Prop:=
 buildSliceV tab 116 1 [(0,(AV.p (.bool true)))] H (wkK fun v163 H11=>
 appendV tab 116 116 v7 v163 H11 (wkK fun v164 H12=>
 binV tab .add 3 v20 (AV.p (.int .i64 1)) fun v165=>
 N1 v164 v165 H12))
def B133_0 (K:AV→Heap→Prop) (N1:AV→AV→Heap→Prop) (v1:AV) (v2:AV) (v7:AV) (v8:AV) (v9:AV) (v18:AV) (v19:AV) (v20:AV) (H:Heap):Prop:=
 binV tab .lss 3 v20 v19 fun v21=>
 condV v21 (indexAddrV tab 45 v18 v20 fun v23=>
 loadV tab 76 v23 H fun v24=>
 allocV tab 76 H fun v11 H4=>
 storeV tab 76 v11 v24 H4 fun H5=>
 fieldAddrV tab 76 v11 1 fun v25=>
 loadV tab 3 v25 H5 fun v26=>
 binV tab .eql 3 v26 (AV.p (.int .i64 1)) fun v27=>
 fieldAddrV tab 76 v11 0 fun v28=>
 loadV tab 3 v28 H5 fun v29=>
 binV tab .eql 3 v29 (AV.p (.int .i64 1)) fun v31=>
 condV v31 (fieldAddrV tab 76 v11 1 fun v33=>
 loadV tab 3 v33 H5 fun v34=>
 binV tab .shr 3 v1 v34 fun v35=>
 binV tab .and 3 v35 (AV.p (.int .i64 1)) fun v36=>
 binV tab .eql 3 v36 (AV.p (.int .i64 1)) fun v37=>
 J133_1 K N1 v1 v2 v7 v8 v9 v37 v18 v19 v20 H5)
 (binV tab .eql 3 v29 (AV.p (.int .i64 3)) fun v39=>
 condV v39 (indexAddrV tab 24 v8 v20 fun v43=>
 loadV tab 22 v43 H5 fun v44=>
 indexAddrV tab 22 v44 (AV.p (.int .i64 0)) fun v45=>
 loadV tab 3 v45 H5 fun v46=>
 indexAddrV tab 116 v7 v46 fun v47=>
 loadV tab 4 v47 H5 fun v48=>
 unV .not v48 fun v49=>
 J133_1 K N1 v1 v2 v7 v8 v9 v49 v18 v19 v20 H5)
 (binV tab .eql 3 v29 (AV.p (.int .i64 4)) fun v51=>
 condV v51 (indexAddrV tab 24 v8 v20 fun v56=>
 loadV tab 22 v56 H5 fun v57=>
 indexAddrV tab 22 v57 (AV.p (.int .i64 0)) fun v58=>
 loadV tab 3 v58 H5 fun v59=>
 CallT Tryz.prog 131 [v9,v2,v59] H5 fun v60 H8=>
 J133_1 K N1 v1 v2 v7 v8 v9 v60 v18 v19 v20 H8)
 (binV tab .eql 3 v29 (AV.p (.int .i64 5)) fun v62=>
 condV v62 (indexAddrV tab 24 v8 v20 fun v66=>
 loadV tab 22 v66 H5 fun v67=>
 indexAddrV tab 22 v67 (AV.p (.int .i64 0)) fun v68=>
 loadV tab 3 v68 H5 fun v69=>
 indexAddrV tab 116 v7 v69 fun v70=>
 loadV tab 4 v70 H5 fun v71=>
 grdV v71 true (indexAddrV tab 24 v8 v20 fun v76=>
 loadV tab 22 v76 H5 fun v77=>
 indexAddrV tab 22 v77 (AV.p (.int .i64 1)) fun v78=>
 loadV tab 3 v78 H5 fun v79=>
 indexAddrV tab 116 v7 v79 fun v80=>
 loadV tab 4 v80 H5 fun v81=>
 J133_1 K N1 v1 v2 v7 v8 v9 v81 v18 v19 v20 H5)
 (J133_2 K N1 v1 v2 v7 v8 v9 v18 v19 v20 H5))
 (binV tab .eql 3 v29 (AV.p (.int .i64 6)) fun v84=>
 condV v84 (indexAddrV tab 24 v8 v20 fun v88=>
 loadV tab 22 v88 H5 fun v89=>
 indexAddrV tab 22 v89 (AV.p (.int .i64 0)) fun v90=>
 loadV tab 3 v90 H5 fun v91=>
 indexAddrV tab 116 v7 v91 fun v92=>
 loadV tab 4 v92 H5 fun v93=>
 grdV v93 false (indexAddrV tab 24 v8 v20 fun v98=>
 loadV tab 22 v98 H5 fun v99=>
 indexAddrV tab 22 v99 (AV.p (.int .i64 1)) fun v100=>
 loadV tab 3 v100 H5 fun v101=>
 indexAddrV tab 116 v7 v101 fun v102=>
 loadV tab 4 v102 H5 fun v103=>
 J133_1 K N1 v1 v2 v7 v8 v9 v103 v18 v19 v20 H5)
 (J133_3 K N1 v1 v2 v7 v8 v9 v18 v19 v20 H5))
 (binV tab .eql 3 v29 (AV.p (.int .i64 7)) fun v106=>
 condV v106 (indexAddrV tab 24 v8 v20 fun v110=>
 loadV tab 22 v110 H5 fun v111=>
 indexAddrV tab 22 v111 (AV.p (.int .i64 1)) fun v112=>
 loadV tab 3 v112 H5 fun v113=>
 indexAddrV tab 116 v7 v113 fun v114=>
 loadV tab 4 v114 H5 fun v115=>
 grdV v115 false (indexAddrV tab 24 v8 v20 fun v120=>
 loadV tab 22 v120 H5 fun v121=>
 indexAddrV tab 22 v121 (AV.p (.int .i64 0)) fun v122=>
 loadV tab 3 v122 H5 fun v123=>
 indexAddrV tab 116 v7 v123 fun v124=>
 loadV tab 4 v124 H5 fun v125=>
 grdV v125 true (CallT Tryz.prog 131 [v9,v2,v20] H5 fun v130 H13=>
 J133_1 K N1 v1 v2 v7 v8 v9 v130 v18 v19 v20 H13)
 (J133_2 K N1 v1 v2 v7 v8 v9 v18 v19 v20 H5))
 (J133_3 K N1 v1 v2 v7 v8 v9 v18 v19 v20 H5))
 (binV tab .eql 3 v29 (AV.p (.int .i64 8)) fun v134=>
 condV v134 (indexAddrV tab 24 v8 v20 fun v138=>
 loadV tab 22 v138 H5 fun v139=>
 indexAddrV tab 22 v139 (AV.p (.int .i64 1)) fun v140=>
 loadV tab 3 v140 H5 fun v141=>
 indexAddrV tab 116 v7 v141 fun v142=>
 loadV tab 4 v142 H5 fun v143=>
 grdV v143 true (indexAddrV tab 24 v8 v20 fun v148=>
 loadV tab 22 v148 H5 fun v149=>
 indexAddrV tab 22 v149 (AV.p (.int .i64 0)) fun v150=>
 loadV tab 3 v150 H5 fun v151=>
 indexAddrV tab 116 v7 v151 fun v152=>
 loadV tab 4 v152 H5 fun v153=>
 grdV v153 false (CallT Tryz.prog 131 [v9,v2,v20] H5 fun v158 H14=>
 J133_1 K N1 v1 v2 v7 v8 v9 v158 v18 v19 v20 H14)
 (J133_3 K N1 v1 v2 v7 v8 v9 v18 v19 v20 H5))
 (J133_2 K N1 v1 v2 v7 v8 v9 v18 v19 v20 H5))
 (J133_1 K N1 v1 v2 v7 v8 v9 v27 v18 v19 v20 H5))))))))
 (K v7 H)
def W133 (v0:AV) (v1:AV) (v2:AV) (H:Heap) (K:AV→Heap→Prop):Prop:=
 buildSliceV tab 116 0 [] H (wkK fun v13 H1=>
 CallT Tryz.prog 127 [v0] H1 fun v15 H2=>
 CallT Tryz.prog 100 [v0] H2 fun v17 H3=>
 lenV tab 45 v0 fun v19=>
 L133_0 K v1 v2 v13 v15 v17 v0 v19 (AV.p (.int .i64 0)) H3)
theorem W133_wp (v0:AV) (v1:AV) (v2:AV) (H:Heap) (K:AV→Heap→Prop):wpC Tryz.prog tab D133 (bodyOf Tryz.f133) (retF tab [.tmp 6] K) (nthA [v0,v1,v2]) H=W133 v0 v1 v2 H K:=by kernel_rfl
theorem W133_ok {v0 v1 v2:AV} {H:Heap} {K:AV→Heap→Prop} (h:W133 v0 v1 v2 H K):CallT Tryz.prog 133 [v0,v1,v2] H K:=
  CallT.of_wp (D:=D133) tab_ok mixed Tryz.func133 (c:=bodyOf Tryz.f133) (by kernel_rfl) rfl (by kernel_rfl) (rs:=#[.tmp 6]) rfl (by decide +kernel) (by kernel_rfl) (W133_wp v0 v1 v2 H K) h
theorem L133_0_rule {K:AV→Heap→Prop} {v1 v2 v7 v8 v9 v18 v19 v20:AV} {H:Heap} {σ:Type} (s0:σ) (f7:σ→AV) (f20:σ→AV) (TH:σ→Heap) (pre:σ→Prop) (μ:σ→Nat)
    (h0:pre s0∧AV.wk v7 (f7 s0)∧AV.wk v20 (f20 s0)∧Heap.le (TH s0) H)
    (round:∀s,pre s→B133_0 K (fun w7 w20 H'=>∃s',pre s'∧μ s' < μ s∧AV.wk w7 (f7 s')∧AV.wk w20 (f20 s')∧Heap.le (TH s') H') v1 v2 (f7 s) v8 v9 v18 v19 (f20 s) (TH s)) :
    L133_0 K v1 v2 v7 v8 v9 v18 v19 v20 H:=by
  unfold L133_0
  exact LoopV.mk s0 (fun s=>[f7 s,f20 s]) TH pre μ (fun _=>rfl) (Eq.mp (by kernel_rfl) h0) (fun s hs=>Eq.mp (by kernel_rfl) (round s hs))
def D134:Info:=⟨19,fun i=>([],[]),fun i=>if i=2 then ([0,1,7],[8]) else ([],[])⟩
def L134_0 (K:AV→Heap→Prop) (v0:AV) (v1:AV) (v7:AV) (v8:AV) (H:Heap):Prop:=LoopV (wpC Tryz.prog tab D134 (cAt [1,0,1,0,0] (bodyOf Tryz.f134))) [0,1,7] (PostF.block 0 (PostF.thenA (wpC Tryz.prog tab D134 (cAt [1,1] (bodyOf Tryz.f134))) (retF tab [.tmp 4] K))) [8] [v0,v1,AV.any,AV.any,AV.any,AV.any,AV.any,v7,v8,AV.any,AV.any,AV.any,AV.any,AV.any,AV.any,AV.any,AV.any,AV.any,AV.any] H
def B134_0 (K:AV→Heap→Prop) (N1:AV→Heap→Prop) (v0:AV) (v1:AV) (v7:AV) (v8:AV) (H:Heap):Prop:=
 binV tab .lss 3 v8 v7 fun v9=>
 condV v9 (indexAddrV tab 24 v0 v8 fun v14=>
 loadV tab 22 v14 H fun v15=>
 callF Tryz.prog v1 [v15] H fun v16 H1=>
 condV v16 (K v8 H1)
 (binV tab .add 3 v8 (AV.p (.int .i64 1)) fun v18=>
 N1 v18 H1))
 (K (AV.p (.int .i64 (-1))) H)
def W134 (v0:AV) (v1:AV) (H:Heap) (K:AV→Heap→Prop):Prop:=
 lenV tab 24 v0 fun v7=>
 L134_0 K v0 v1 v7 (AV.p (.int .i64 0)) H
theorem W134_wp (v0:AV) (v1:AV) (H:Heap) (K:AV→Heap→Prop):wpC Tryz.prog tab D134 (bodyOf Tryz.f134) (retF tab [.tmp 4] K) (nthA [v0,v1]) H=W134 v0 v1 H K:=by kernel_rfl
theorem W134_ok {v0 v1:AV} {H:Heap} {K:AV→Heap→Prop} (h:W134 v0 v1 H K):CallT Tryz.prog 134 [v0,v1] H K:=
  CallT.of_wp (D:=D134) tab_ok mixed Tryz.func134 (c:=bodyOf Tryz.f134) (by kernel_rfl) rfl (by kernel_rfl) (rs:=#[.tmp 4]) rfl (by decide +kernel) (by kernel_rfl) (W134_wp v0 v1 H K) h
theorem L134_0_rule {K:AV→Heap→Prop} {v0 v1 v7 v8:AV} {H:Heap} {σ:Type} (s0:σ) (f8:σ→AV) (TH:σ→Heap) (pre:σ→Prop) (μ:σ→Nat)
    (h0:pre s0∧AV.wk v8 (f8 s0)∧Heap.le (TH s0) H)
    (round:∀s,pre s→B134_0 K (fun w8 H'=>∃s',pre s'∧μ s' < μ s∧AV.wk w8 (f8 s')∧Heap.le (TH s') H') v0 v1 v7 (f8 s) (TH s)) :
    L134_0 K v0 v1 v7 v8 H:=by
  unfold L134_0
  exact LoopV.mk s0 (fun s=>[f8 s]) TH pre μ (fun _=>rfl) (Eq.mp (by kernel_rfl) h0) (fun s hs=>Eq.mp (by kernel_rfl) (round s hs))
def D135:Info:=⟨6,fun i=>([],[]),fun i=>([],[])⟩
def W135 (v0:AV) (H:Heap) (K:AV→Heap→Prop):Prop:=
 binV tab .neq 3 v0 v0 fun v5=>
 K v5 H
theorem W135_wp (v0:AV) (H:Heap) (K:AV→Heap→Prop):wpC Tryz.prog tab D135 (bodyOf Tryz.f135) (retF tab [.tmp 2] K) (nthA [v0]) H=W135 v0 H K:=by kernel_rfl
theorem W135_ok {v0:AV} {H:Heap} {K:AV→Heap→Prop} (h:W135 v0 H K):CallT Tryz.prog 135 [v0] H K:=
  CallT.of_wp (D:=D135) tab_ok mixed Tryz.func135 (c:=bodyOf Tryz.f135) (by kernel_rfl) rfl (by kernel_rfl) (rs:=#[.tmp 2]) rfl (by decide +kernel) (by kernel_rfl) (W135_wp v0 H K) h
def D136:Info:=⟨30,fun i=>([],[]),fun i=>([],[])⟩
def W136 (v0:AV) (v1:AV) (H:Heap) (K:AV→Heap→Prop):Prop:=
 CallT Tryz.prog 162 [v0,v1] H fun v25 H1=>
 extractV v25 0 fun v26=>
 extractV v25 1 fun v27=>
 K (.tup [v26,v27]) H1
theorem W136_wp (v0:AV) (v1:AV) (H:Heap) (K:AV→Heap→Prop):wpC Tryz.prog tab D136 (bodyOf Tryz.f136) (retF tab [.tmp 4,.tmp 5] K) (nthA [v0,v1]) H=W136 v0 v1 H K:=by kernel_rfl
theorem W136_ok {v0 v1:AV} {H:Heap} {K:AV→Heap→Prop} (h:W136 v0 v1 H K):CallT Tryz.prog 136 [v0,v1] H K:=
  CallT.of_wp (D:=D136) tab_ok mixed Tryz.func136 (c:=bodyOf Tryz.f136) (by kernel_rfl) rfl (by kernel_rfl) (rs:=#[.tmp 4,.tmp 5]) rfl (by decide +kernel) (by kernel_rfl) (W136_wp v0 v1 H K) h
end Go.Proofs.YtolffbcnbcjeaaaGreat
