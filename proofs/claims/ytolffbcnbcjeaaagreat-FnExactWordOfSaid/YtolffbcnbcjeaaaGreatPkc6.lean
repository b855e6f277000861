/- Texts laid together: W8 W9 W10 WA Lb0 Lb1a Lb3 Pt1 Le1 Le2 Pm1 Ma1 Lr2 Lt1 Lt2 Mt0. -/
import Derived.Test.YtolffbcnbcjeaaaGreatPkc5
import Derived.KernelRfl
set_option linter.unusedVariables false
set_option linter.unusedSimpArgs false
open Nat renaming reduceAdd→ν1,reduceLeDiff→ν2,reduceLT→ν3,reduceMul→ν4,reduceSub→ν5
open Int renaming reduceToNat→ι1,reduceSub→ι2,reduceAdd→ι3,reduceNeg→ι4
open Array renaming toList→ι5
open Ne renaming symm→ν6
open List renaming forall_mem_cons→ν7
namespace Go.Proofs.YtolffbcnbcjeaaaGreat
open Go Go.Sep
attribute [local irreducible] wpC headF
def D106:Info:=⟨35,fun i=>([],[]),fun i=>if i=2 then ([0,1,2,9,10],[11]) else ([],[])⟩
def L106_0 (K:AV→Heap→Prop) (v0:AV) (v1:AV) (v2:AV) (v9:AV) (v10:AV) (v11:AV) (H:Heap):Prop:=LoopV (wpC Tryz.prog tab D106 (cAt [1,0,1,0,0] (bodyOf Tryz.f106))) [0,1,2,9,10] (PostF.block 0 (PostF.thenA (wpC Tryz.prog tab D106 (cAt [1,1] (bodyOf Tryz.f106))) (retF tab [.tmp 6] K))) [11] [v0,v1,v2,AV.any,AV.any,AV.any,AV.any,AV.any,AV.any,v9,v10,v11,AV.any,AV.any,AV.any,AV.any,AV.any,AV.any,AV.any,AV.any,AV.any,AV.any,AV.any,AV.any,AV.any,AV.any,AV.any,AV.any,AV.any,AV.any,AV.any,AV.any,AV.any,AV.any,AV.any] H
def B106_0 (K:AV→Heap→Prop) (N1:AV→Heap→Prop) (v0:AV) (v1:AV) (v2:AV) (v9:AV) (v10:AV) (v11:AV) (H:Heap):Prop:=
 binV tab .lss 3 v11 v10 fun v12=>
 condV v12 (indexAddrV tab 22 v9 v11 fun v14=>
 loadV tab 3 v14 H fun v15=>
 CallT Tryz.prog 63 [v15,v1,v2] H fun v19 H1=>
 unV .not v19 fun v20=>
 grdV v20 false (binV tab .gtr 3 v11 (AV.p (.int .i64 0)) fun v23=>
 grdV v23 true (binV tab .sub 3 v11 (AV.p (.int .i64 1)) fun v27=>
 indexAddrV tab 22 v0 v27 fun v28=>
 loadV tab 3 v28 H1 fun v29=>
 binV tab .geq 3 v29 v15 fun v31=>
 condV v31 (K (AV.p (.bool false)) H1)
 (binV tab .add 3 v11 (AV.p (.int .i64 1)) fun v34=>
 N1 v34 H1))
 (binV tab .add 3 v11 (AV.p (.int .i64 1)) fun v34=>
 N1 v34 H1))
 (K (AV.p (.bool false)) H1))
 (K (AV.p (.bool true)) H)
def W106 (v0:AV) (v1:AV) (v2:AV) (H:Heap) (K:AV→Heap→Prop):Prop:=
 lenV tab 22 v0 fun v10=>
 L106_0 K v0 v1 v2 v0 v10 (AV.p (.int .i64 0)) H
theorem W106_wp (v0:AV) (v1:AV) (v2:AV) (H:Heap) (K:AV→Heap→Prop):wpC Tryz.prog tab D106 (bodyOf Tryz.f106) (retF tab [.tmp 6] K) (nthA [v0,v1,v2]) H=W106 v0 v1 v2 H K:=by kernel_rfl
theorem W106_ok {v0 v1 v2:AV} {H:Heap} {K:AV→Heap→Prop} (h:W106 v0 v1 v2 H K):CallT Tryz.prog 106 [v0,v1,v2] H K:=
  CallT.of_wp (D:=D106) tab_ok mixed Tryz.func106 (c:=bodyOf Tryz.f106) (by kernel_rfl) rfl (by kernel_rfl) (rs:=#[.tmp 6]) rfl (by decide +kernel) (by kernel_rfl) (W106_wp v0 v1 v2 H K) h
theorem L106_0_rule {K:AV→Heap→Prop} {v0 v1 v2 v9 v10 v11:AV} {H:Heap} {σ:Type} (s0:σ) (f11:σ→AV) (TH:σ→Heap) (pre:σ→Prop) (μ:σ→Nat)
    (h0:pre s0∧AV.wk v11 (f11 s0)∧Heap.le (TH s0) H)
    (round:∀s,pre s→B106_0 K (fun w11 H'=>∃s',pre s'∧μ s' < μ s∧AV.wk w11 (f11 s')∧Heap.le (TH s') H') v0 v1 v2 v9 v10 (f11 s) (TH s)) :
    L106_0 K v0 v1 v2 v9 v10 v11 H:=by
  unfold L106_0
  exact LoopV.mk s0 (fun s=>[f11 s]) TH pre μ (fun _=>rfl) (Eq.mp (by kernel_rfl) h0) (fun s hs=>Eq.mp (by kernel_rfl) (round s hs))
def D107:Info:=⟨37,fun i=>([],[]),fun i=>if i=3 then ([3,11,12],[13]) else if i=6 then ([3,4,11,12,13,18,19],[20]) else ([],[])⟩
def L107_0 (K:AV→Heap→Prop) (v3:AV) (v11:AV) (v12:AV) (v13:AV) (H:Heap):Prop:=LoopV (wpC Tryz.prog tab D107 (cAt [1,1,0,1,0,0] (bodyOf Tryz.f107))) [3,11,12] (PostF.block 0 (PostF.thenA (wpC Tryz.prog tab D107 (cAt [1,1,1] (bodyOf Tryz.f107))) (retF tab [.tmp 2] K))) [13] [AV.any,AV.any,AV.any,v3,AV.any,AV.any,AV.any,AV.any,AV.any,AV.any,AV.any,v11,v12,v13,AV.any,AV.any,AV.any,AV.any,AV.any,AV.any,AV.any,AV.any,AV.any,AV.any,AV.any,AV.any,AV.any,AV.any,AV.any,AV.any,AV.any,AV.any,AV.any,AV.any,AV.any,AV.any,AV.any] H
def L107_1 (K:AV→Heap→Prop) (N1:AV→Heap→Prop) (v3:AV) (v4:AV) (v11:AV) (v12:AV) (v13:AV) (v18:AV) (v19:AV) (v20:AV) (H:Heap):Prop:=LoopV (wpC Tryz.prog tab D107 (cAt [1,1,0,1,0,0,1,1,0,0,1,1,0,0] (bodyOf Tryz.f107))) [3,4,11,12,13,18,19] (PostF.block 2 (PostF.block 1 (PostF.thenA (wpC Tryz.prog tab D107 (cAt [1,1,0,1,0,0,1,1,1] (bodyOf Tryz.f107))) (loopF (PostF.block 0 (PostF.thenA (wpC Tryz.prog tab D107 (cAt [1,1,1] (bodyOf Tryz.f107))) (retF tab [.tmp 2] K))) (fun e h=>N1 (e 13) h))))) [20] [AV.any,AV.any,AV.any,v3,v4,AV.any,AV.any,AV.any,AV.any,AV.any,AV.any,v11,v12,v13,AV.any,AV.any,AV.any,AV.any,v18,v19,v20,AV.any,AV.any,AV.any,AV.any,AV.any,AV.any,AV.any,AV.any,AV.any,AV.any,AV.any,AV.any,AV.any,AV.any,AV.any,AV.any] H
def B107_1 (K:AV→Heap→Prop) (N1:AV→Heap→Prop) (N2:AV→Heap→Prop) (v3:AV) (v4:AV) (v11:AV) (v12:AV) (v13:AV) (v18:AV) (v19:AV) (v20:AV) (H:Heap):Prop:=
 binV tab .lss 3 v20 v19 fun v21=>
 condV v21 (indexAddrV tab 22 v18 v20 fun v22=>
 loadV tab 3 v22 H fun v23=>
 indexAddrV tab 24 v3 v23 fun v28=>
 loadV tab 22 v28 H fun v29=>
 buildSliceV tab 22 1 [(0,v4)] H (wkK fun v31 H2=>
 appendV tab 22 22 v29 v31 H2 (wkK fun v32 H3=>
 indexAddrV tab 24 v3 v23 fun v33=>
 storeV tab 22 v33 v32 H3 fun H4=>
 binV tab .add 3 v20 (AV.p (.int .i64 1)) fun v34=>
 N2 v34 H4)))
 (binV tab .add 3 v13 (AV.p (.int .i64 1)) fun v35=>
 N1 v35 H)
def B107_0 (K:AV→Heap→Prop) (N1:AV→Heap→Prop) (v3:AV) (v11:AV) (v12:AV) (v13:AV) (H:Heap):Prop:=
 binV tab .lss 3 v13 v12 fun v14=>
 condV v14 (indexAddrV tab 24 v11 v13 fun v16=>
 loadV tab 22 v16 H fun v17=>
 lenV tab 22 v17 fun v19=>
 L107_1 K N1 v3 v13 v11 v12 v13 v17 v19 (AV.p (.int .i64 0)) H)
 (K v3 H)
def W107 (v0:AV) (H:Heap) (K:AV→Heap→Prop):Prop:=
 lenV tab 24 v0 fun v9=>
 makeSliceV tab 24 v9 v9 H fun v10 H1=>
 lenV tab 24 v0 fun v12=>
 L107_0 K v10 v0 v12 (AV.p (.int .i64 0)) H1
theorem W107_wp (v0:AV) (H:Heap) (K:AV→Heap→Prop):wpC Tryz.prog tab D107 (bodyOf Tryz.f107) (retF tab [.tmp 2] K) (nthA [v0]) H=W107 v0 H K:=by kernel_rfl
theorem W107_ok {v0:AV} {H:Heap} {K:AV→Heap→Prop} (h:W107 v0 H K):CallT Tryz.prog 107 [v0] H K:=
  CallT.of_wp (D:=D107) tab_ok mixed Tryz.func107 (c:=bodyOf Tryz.f107) (by kernel_rfl) rfl (by kernel_rfl) (rs:=#[.tmp 2]) rfl (by decide +kernel) (by kernel_rfl) (W107_wp v0 H K) h
theorem L107_1_rule {K:AV→Heap→Prop} {N1:AV→Heap→Prop} {v3 v4 v11 v12 v13 v18 v19 v20:AV} {H:Heap} {σ:Type} (s0:σ) (f20:σ→AV) (TH:σ→Heap) (pre:σ→Prop) (μ:σ→Nat)
    (h0:pre s0∧AV.wk v20 (f20 s0)∧Heap.le (TH s0) H)
    (round:∀s,pre s→B107_1 K N1 (fun w20 H'=>∃s',pre s'∧μ s' < μ s∧AV.wk w20 (f20 s')∧Heap.le (TH s') H') v3 v4 v11 v12 v13 v18 v19 (f20 s) (TH s)) :
    L107_1 K N1 v3 v4 v11 v12 v13 v18 v19 v20 H:=by
  unfold L107_1
  exact LoopV.mk s0 (fun s=>[f20 s]) TH pre μ (fun _=>rfl) (Eq.mp (by kernel_rfl) h0) (fun s hs=>Eq.mp (by kernel_rfl) (round s hs))
theorem L107_0_rule {K:AV→Heap→Prop} {v3 v11 v12 v13:AV} {H:Heap} {σ:Type} (s0:σ) (f13:σ→AV) (TH:σ→Heap) (pre:σ→Prop) (μ:σ→Nat)
    (h0:pre s0∧AV.wk v13 (f13 s0)∧Heap.le (TH s0) H)
    (round:∀s,pre s→B107_0 K (fun w13 H'=>∃s',pre s'∧μ s' < μ s∧AV.wk w13 (f13 s')∧Heap.le (TH s') H') v3 v11 v12 (f13 s) (TH s)) :
    L107_0 K v3 v11 v12 v13 H:=by
  unfold L107_0
  exact LoopV.mk s0 (fun s=>[f13 s]) TH pre μ (fun _=>rfl) (Eq.mp (by kernel_rfl) h0) (fun s hs=>Eq.mp (by kernel_rfl) (round s hs))
def D108:Info:=⟨45,fun i=>([],[]),fun i=>if i=3 then ([0,1,25,26],[27]) else ([],[])⟩
def L108_0 (K:AV→Heap→Prop) (v0:AV) (v1:AV) (v25:AV) (v26:AV) (v27:AV) (H:Heap):Prop:=LoopV (wpC Tryz.prog tab D108 (cAt [1,1,0,1,0,0] (bodyOf Tryz.f108))) [0,1,25,26] (PostF.block 0 (PostF.thenA (wpC Tryz.prog tab D108 (cAt [1,1,1] (bodyOf Tryz.f108))) (retF tab [] K))) [27] [v0,v1,AV.any,AV.any,AV.any,AV.any,AV.any,AV.any,AV.any,AV.any,AV.any,AV.any,AV.any,AV.any,AV.any,AV.any,AV.any,AV.any,AV.any,AV.any,AV.any,AV.any,AV.any,AV.any,AV.any,v25,v26,v27,AV.any,AV.any,AV.any,AV.any,AV.any,AV.any,AV.any,AV.any,AV.any,AV.any,AV.any,AV.any,AV.any,AV.any,AV.any,AV.any,AV.any] H
def B108_0 (K:AV→Heap→Prop) (N1:AV→Heap→Prop) (v0:AV) (v1:AV) (v25:AV) (v26:AV) (v27:AV) (H:Heap):Prop:=
 binV tab .lss 3 v27 v26 fun v28=>
 condV v28 (indexAddrV tab 22 v25 v27 fun v29=>
 loadV tab 3 v29 H fun v30=>
 CallT Tryz.prog 108 [v0,v30] H fun v33 H2=>
 binV tab .add 3 v27 (AV.p (.int .i64 1)) fun v34=>
 N1 v34 H2)
 (nilCheckV v0 fun v37=>
 fieldAddrV tab 125 v37 2 fun v38=>
 loadV tab 22 v38 H fun v39=>
 buildSliceV tab 22 1 [(0,v1)] H (wkK fun v41 H3=>
 appendV tab 22 22 v39 v41 H3 (wkK fun v42 H4=>
 nilCheckV v0 fun v43=>
 fieldAddrV tab 125 v43 2 fun v44=>
 storeV tab 22 v44 v42 H4 fun H5=>
 K (.tup []) H5)))
def W108 (v0:AV) (v1:AV) (H:Heap) (K:AV→Heap→Prop):Prop:=
 nilCheckV v0 fun v7=>
 fieldAddrV tab 125 v7 1 fun v8=>
 loadV tab 116 v8 H fun v9=>
 indexAddrV tab 116 v9 v1 fun v11=>
 loadV tab 4 v11 H fun v12=>
 condV v12 (K (.tup []) H)
 (nilCheckV v0 fun v14=>
 fieldAddrV tab 125 v14 1 fun v15=>
 loadV tab 116 v15 H fun v16=>
 indexAddrV tab 116 v16 v1 fun v18=>
 storeV tab 4 v18 (AV.p (.bool true)) H fun H1=>
 nilCheckV v0 fun v20=>
 fieldAddrV tab 125 v20 0 fun v21=>
 loadV tab 24 v21 H1 fun v22=>
 indexAddrV tab 24 v22 v1 fun v24=>
 loadV tab 22 v24 H1 fun v25=>
 lenV tab 22 v25 fun v26=>
 L108_0 K v0 v1 v25 v26 (AV.p (.int .i64 0)) H1)
theorem W108_wp (v0:AV) (v1:AV) (H:Heap) (K:AV→Heap→Prop):wpC Tryz.prog tab D108 (bodyOf Tryz.f108) (retF tab [] K) (nthA [v0,v1]) H=W108 v0 v1 H K:=by kernel_rfl
theorem W108_ok {v0 v1:AV} {H:Heap} {K:AV→Heap→Prop} (h:W108 v0 v1 H K):CallT Tryz.prog 108 [v0,v1] H K:=
  CallT.of_wp (D:=D108) tab_ok mixed Tryz.func108 (c:=bodyOf Tryz.f108) (by kernel_rfl) rfl (by kernel_rfl) (rs:=#[]) rfl (by decide +kernel) (by kernel_rfl) (W108_wp v0 v1 H K) h
theorem L108_0_rule {K:AV→Heap→Prop} {v0 v1 v25 v26 v27:AV} {H:Heap} {σ:Type} (s0:σ) (f27:σ→AV) (TH:σ→Heap) (pre:σ→Prop) (μ:σ→Nat)
    (h0:pre s0∧AV.wk v27 (f27 s0)∧Heap.le (TH s0) H)
    (round:∀s,pre s→B108_0 K (fun w27 H'=>∃s',pre s'∧μ s' < μ s∧AV.wk w27 (f27 s')∧Heap.le (TH s') H') v0 v1 v25 v26 (f27 s) (TH s)) :
    L108_0 K v0 v1 v25 v26 v27 H:=by
  unfold L108_0
  exact LoopV.mk s0 (fun s=>[f27 s]) TH pre μ (fun _=>rfl) (Eq.mp (by kernel_rfl) h0) (fun s hs=>Eq.mp (by kernel_rfl) (round s hs))
def D109:Info:=⟨21,fun i=>([],[]),fun i=>if i=2 then ([1,2,9,10],[11]) else ([],[])⟩
def L109_0 (K:AV→Heap→Prop) (v1:AV) (v2:AV) (v9:AV) (v10:AV) (v11:AV) (H:Heap):Prop:=LoopV (wpC Tryz.prog tab D109 (cAt [1,0,1,0,0] (bodyOf Tryz.f109))) [1,2,9,10] (PostF.block 0 (PostF.thenA (wpC Tryz.prog tab D109 (cAt [1,1] (bodyOf Tryz.f109))) (retF tab [.tmp 6] K))) [11] [AV.any,v1,v2,AV.any,AV.any,AV.any,AV.any,AV.any,AV.any,v9,v10,v11,AV.any,AV.any,AV.any,AV.any,AV.any,AV.any,AV.any,AV.any,AV.any] H
def B109_0 (K:AV→Heap→Prop) (N1:AV→Heap→Prop) (v1:AV) (v2:AV) (v9:AV) (v10:AV) (v11:AV) (H:Heap):Prop:=
 binV tab .lss 3 v11 v10 fun v12=>
 condV v12 (indexAddrV tab 22 v9 v11 fun v13=>
 loadV tab 3 v13 H fun v14=>
 CallT Tryz.prog 63 [v14,v1,v2] H fun v18 H1=>
 unV .not v18 fun v19=>
 condV v19 (K (AV.p (.bool false)) H1)
 (binV tab .add 3 v11 (AV.p (.int .i64 1)) fun v20=>
 N1 v20 H1))
 (K (AV.p (.bool true)) H)
def W109 (v0:AV) (v1:AV) (v2:AV) (H:Heap) (K:AV→Heap→Prop):Prop:=
 lenV tab 22 v0 fun v10=>
 L109_0 K v1 v2 v0 v10 (AV.p (.int .i64 0)) H
theorem W109_wp (v0:AV) (v1:AV) (v2:AV) (H:Heap) (K:AV→Heap→Prop):wpC Tryz.prog tab D109 (bodyOf Tryz.f109) (retF tab [.tmp 6] K) (nthA [v0,v1,v2]) H=W109 v0 v1 v2 H K:=by kernel_rfl
theorem W109_ok {v0 v1 v2:AV} {H:Heap} {K:AV→Heap→Prop} (h:W109 v0 v1 v2 H K):CallT Tryz.prog 109 [v0,v1,v2] H K:=
  CallT.of_wp (D:=D109) tab_ok mixed Tryz.func109 (c:=bodyOf Tryz.f109) (by kernel_rfl) rfl (by kernel_rfl) (rs:=#[.tmp 6]) rfl (by decide +kernel) (by kernel_rfl) (W109_wp v0 v1 v2 H K) h
theorem L109_0_rule {K:AV→Heap→Prop} {v1 v2 v9 v10 v11:AV} {H:Heap} {σ:Type} (s0:σ) (f11:σ→AV) (TH:σ→Heap) (pre:σ→Prop) (μ:σ→Nat)
    (h0:pre s0∧AV.wk v11 (f11 s0)∧Heap.le (TH s0) H)
    (round:∀s,pre s→B109_0 K (fun w11 H'=>∃s',pre s'∧μ s' < μ s∧AV.wk w11 (f11 s')∧Heap.le (TH s') H') v1 v2 v9 v10 (f11 s) (TH s)) :
    L109_0 K v1 v2 v9 v10 v11 H:=by
  unfold L109_0
  exact LoopV.mk s0 (fun s=>[f11 s]) TH pre μ (fun _=>rfl) (Eq.mp (by kernel_rfl) h0) (fun s hs=>Eq.mp (by kernel_rfl) (round s hs))
def D110:Info:=⟨9,fun i=>([],[]),fun i=>([],[])⟩
def W110 (v0:AV) (v1:AV) (H:Heap) (K:AV→Heap→Prop):Prop:=
 CallT Tryz.prog 134 [v0,v1] H fun v7 H1=>
 binV tab .geq 3 v7 (AV.p (.int .i64 0)) fun v8=>
 K v8 H1
theorem W110_wp (v0:AV) (v1:AV) (H:Heap) (K:AV→Heap→Prop):wpC Tryz.prog tab D110 (bodyOf Tryz.f110) (retF tab [.tmp 4] K) (nthA [v0,v1]) H=W110 v0 v1 H K:=by kernel_rfl
theorem W110_ok {v0 v1:AV} {H:Heap} {K:AV→Heap→Prop} (h:W110 v0 v1 H K):CallT Tryz.prog 110 [v0,v1] H K:=
  CallT.of_wp (D:=D110) tab_ok mixed Tryz.func110 (c:=bodyOf Tryz.f110) (by kernel_rfl) rfl (by kernel_rfl) (rs:=#[.tmp 4]) rfl (by decide +kernel) (by kernel_rfl) (W110_wp v0 v1 H K) h
def D111:Info:=⟨8,fun i=>([],[]),fun i=>([],[])⟩
def W111 (v0:AV) (v1:AV) (H:Heap) (K:AV→Heap→Prop):Prop:=
 loadV tab 3 v1 H fun v5=>
 CallT Tryz.prog 75 [v0,v5] H fun v6 H1=>
 unV .not v6 fun v7=>
 K v7 H1
theorem W111_wp (v0:AV) (v1:AV) (H:Heap) (K:AV→Heap→Prop):wpC Tryz.prog tab D111 (bodyOf Tryz.f111) (retF tab [.tmp 3] K) (nthA [v0,v1]) H=W111 v0 v1 H K:=by kernel_rfl
theorem W111_ok {v0 v1:AV} {H:Heap} {K:AV→Heap→Prop} (h:W111 v0 v1 H K):CallT Tryz.prog 111 [v0,v1] H K:=
  CallT.of_wp (D:=D111) tab_ok mixed Tryz.func111 (c:=bodyOf Tryz.f111) (by kernel_rfl) rfl (by kernel_rfl) (rs:=#[.tmp 3]) rfl (by decide +kernel) (by kernel_rfl) (W111_wp v0 v1 H K) h
def D112:Info:=⟨18,fun i=>([],[]),fun i=>if i=3 then ([3,6,7],[8]) else ([],[])⟩
def L112_0 (K:AV→Heap→Prop) (v3:AV) (v6:AV) (v7:AV) (v8:AV) (H:Heap):Prop:=LoopV (wpC Tryz.prog tab D112 (cAt [1,1,0,1,0,0] (bodyOf Tryz.f112))) [3,6,7] (PostF.block 0 (PostF.thenA (wpC Tryz.prog tab D112 (cAt [1,1,1] (bodyOf Tryz.f112))) (retF tab [.tmp 2] K))) [8] [AV.any,AV.any,AV.any,v3,AV.any,AV.any,v6,v7,v8,AV.any,AV.any,AV.any,AV.any,AV.any,AV.any,AV.any,AV.any,AV.any] H
def B112_0 (K:AV→Heap→Prop) (N1:AV→Heap→Prop) (v3:AV) (v6:AV) (v7:AV) (v8:AV) (H:Heap):Prop:=
 binV tab .lss 3 v8 v7 fun v9=>
 condV v9 (indexAddrV tab 22 v6 v8 fun v10=>
 loadV tab 3 v10 H fun v11=>
 binV tab .neq 3 v11 v3 fun v14=>
 condV v14 (K v11 H)
 (binV tab .add 3 v8 (AV.p (.int .i64 1)) fun v16=>
 N1 v16 H))
 (K v3 H)
def W112 (v0:AV) (H:Heap) (K:AV→Heap→Prop):Prop:=
 lenV tab 22 v0 fun v7=>
 L112_0 K (AV.p (.int .i64 0)) v0 v7 (AV.p (.int .i64 0)) H
theorem W112_wp (v0:AV) (H:Heap) (K:AV→Heap→Prop):wpC Tryz.prog tab D112 (bodyOf Tryz.f112) (retF tab [.tmp 2] K) (nthA [v0]) H=W112 v0 H K:=by kernel_rfl
theorem W112_ok {v0:AV} {H:Heap} {K:AV→Heap→Prop} (h:W112 v0 H K):CallT Tryz.prog 112 [v0] H K:=
  CallT.of_wp (D:=D112) tab_ok mixed Tryz.func112 (c:=bodyOf Tryz.f112) (by kernel_rfl) rfl (by kernel_rfl) (rs:=#[.tmp 2]) rfl (by decide +kernel) (by kernel_rfl) (W112_wp v0 H K) h
theorem L112_0_rule {K:AV→Heap→Prop} {v3 v6 v7 v8:AV} {H:Heap} {σ:Type} (s0:σ) (f8:σ→AV) (TH:σ→Heap) (pre:σ→Prop) (μ:σ→Nat)
    (h0:pre s0∧AV.wk v8 (f8 s0)∧Heap.le (TH s0) H)
    (round:∀s,pre s→B112_0 K (fun w8 H'=>∃s',pre s'∧μ s' < μ s∧AV.wk w8 (f8 s')∧Heap.le (TH s') H') v3 v6 v7 (f8 s) (TH s)) :
    L112_0 K v3 v6 v7 v8 H:=by
  unfold L112_0
  exact LoopV.mk s0 (fun s=>[f8 s]) TH pre μ (fun _=>rfl) (Eq.mp (by kernel_rfl) h0) (fun s hs=>Eq.mp (by kernel_rfl) (round s hs))
def D113:Info:=⟨20,fun i=>([],[]),fun i=>([],[])⟩
def W113 (v0:AV) (v1:AV) (H:Heap) (K:AV→Heap→Prop):Prop:=
 CallT Tryz.prog 135 [v0] H fun v8 H1=>
 CallT Tryz.prog 135 [v1] H1 fun v10 H2=>
 condV v8 (condV v10 (K (AV.p (.int .i64 0)) H2)
 (K (AV.p (.int .i64 (-1))) H2))
 (condV v10 (K (AV.p (.int .i64 1)) H2)
 (binV tab .lss 3 v0 v1 fun v16=>
 condV v16 (K (AV.p (.int .i64 (-1))) H2)
 (binV tab .gtr 3 v0 v1 fun v19=>
 condV v19 (K (AV.p (.int .i64 1)) H2)
 (K (AV.p (.int .i64 0)) H2))))
theorem W113_wp (v0:AV) (v1:AV) (H:Heap) (K:AV→Heap→Prop):wpC Tryz.prog tab D113 (bodyOf Tryz.f113) (retF tab [.tmp 4] K) (nthA [v0,v1]) H=W113 v0 v1 H K:=by kernel_rfl
theorem W113_ok {v0 v1:AV} {H:Heap} {K:AV→Heap→Prop} (h:W113 v0 v1 H K):CallT Tryz.prog 113 [v0,v1] H K:=
  CallT.of_wp (D:=D113) tab_ok mixed Tryz.func113 (c:=bodyOf Tryz.f113) (by kernel_rfl) rfl (by kernel_rfl) (rs:=#[.tmp 4]) rfl (by decide +kernel) (by kernel_rfl) (W113_wp v0 v1 H K) h
def D114:Info:=⟨37,fun i=>([],[]),fun i=>if i=3 then ([3,11,12],[13]) else if i=6 then ([3,4,11,12,13,18,19],[20]) else ([],[])⟩
def L114_0 (K:AV→Heap→Prop) (v3:AV) (v11:AV) (v12:AV) (v13:AV) (H:Heap):Prop:=LoopV (wpC Tryz.prog tab D114 (cAt [1,1,0,1,0,0] (bodyOf Tryz.f114))) [3,11,12] (PostF.block 0 (PostF.thenA (wpC Tryz.prog tab D114 (cAt [1,1,1] (bodyOf Tryz.f114))) (retF tab [.tmp 2] K))) [13] [AV.any,AV.any,AV.any,v3,AV.any,AV.any,AV.any,AV.any,AV.any,AV.any,AV.any,v11,v12,v13,AV.any,AV.any,AV.any,AV.any,AV.any,AV.any,AV.any,AV.any,AV.any,AV.any,AV.any,AV.any,AV.any,AV.any,AV.any,AV.any,AV.any,AV.any,AV.any,AV.any,AV.any,AV.any,AV.any] H
def L114_1 (K:AV→Heap→Prop) (N1:AV→Heap→Prop) (v3:AV) (v4:AV) (v11:AV) (v12:AV) (v13:AV) (v18:AV) (v19:AV) (v20:AV) (H:Heap):Prop:=LoopV (wpC Tryz.prog tab D114 (cAt [1,1,0,1,0,0,1,1,0,0,1,1,0,0] (bodyOf Tryz.f114))) [3,4,11,12,13,18,19] (PostF.block 2 (PostF.block 1 (PostF.thenA (wpC Tryz.prog tab D114 (cAt [1,1,0,1,0,0,1,1,1] (bodyOf Tryz.f114))) (loopF (PostF.block 0 (PostF.thenA (wpC Tryz.prog tab D114 (cAt [1,1,1] (bodyOf Tryz.f114))) (retF tab [.tmp 2] K))) (fun e h=>N1 (e 13) h))))) [20] [AV.any,AV.any,AV.any,v3,v4,AV.any,AV.any,AV.any,AV.any,AV.any,AV.any,v11,v12,v13,AV.any,AV.any,AV.any,AV.any,v18,v19,v20,AV.any,AV.any,AV.any,AV.any,AV.any,AV.any,AV.any,AV.any,AV.any,AV.any,AV.any,AV.any,AV.any,AV.any,AV.any,AV.any] H
def B114_1 (K:AV→Heap→Prop) (N1:AV→Heap→Prop) (N2:AV→Heap→Prop) (v3:AV) (v4:AV) (v11:AV) (v12:AV) (v13:AV) (v18:AV) (v19:AV) (v20:AV) (H:Heap):Prop:=
 binV tab .lss 3 v20 v19 fun v21=>
 condV v21 (indexAddrV tab 22 v18 v20 fun v22=>
 loadV tab 3 v22 H fun v23=>
 indexAddrV tab 24 v3 v23 fun v28=>
 loadV tab 22 v28 H fun v29=>
 buildSliceV tab 22 1 [(0,v4)] H (wkK fun v31 H2=>
 appendV tab 22 22 v29 v31 H2 (wkK fun v32 H3=>
 indexAddrV tab 24 v3 v23 fun v33=>
 storeV tab 22 v33 v32 H3 fun H4=>
 binV tab .add 3 v20 (AV.p (.int .i64 1)) fun v34=>
 N2 v34 H4)))
 (binV tab .add 3 v13 (AV.p (.int .i64 1)) fun v35=>
 N1 v35 H)
def B114_0 (K:AV→Heap→Prop) (N1:AV→Heap→Prop) (v3:AV) (v11:AV) (v12:AV) (v13:AV) (H:Heap):Prop:=
 binV tab .lss 3 v13 v12 fun v14=>
 condV v14 (indexAddrV tab 24 v11 v13 fun v16=>
 loadV tab 22 v16 H fun v17=>
 lenV tab 22 v17 fun v19=>
 L114_1 K N1 v3 v13 v11 v12 v13 v17 v19 (AV.p (.int .i64 0)) H)
 (K v3 H)
def W114 (v0:AV) (H:Heap) (K:AV→Heap→Prop):Prop:=
 lenV tab 24 v0 fun v9=>
 makeSliceV tab 24 v9 v9 H fun v10 H1=>
 lenV tab 24 v0 fun v12=>
 L114_0 K v10 v0 v12 (AV.p (.int .i64 0)) H1
theorem W114_wp (v0:AV) (H:Heap) (K:AV→Heap→Prop):wpC Tryz.prog tab D114 (bodyOf Tryz.f114) (retF tab [.tmp 2] K) (nthA [v0]) H=W114 v0 H K:=by kernel_rfl
theorem W114_ok {v0:AV} {H:Heap} {K:AV→Heap→Prop} (h:W114 v0 H K):CallT Tryz.prog 114 [v0] H K:=
  CallT.of_wp (D:=D114) tab_ok mixed Tryz.func114 (c:=bodyOf Tryz.f114) (by kernel_rfl) rfl (by kernel_rfl) (rs:=#[.tmp 2]) rfl (by decide +kernel) (by kernel_rfl) (W114_wp v0 H K) h
theorem L114_1_rule {K:AV→Heap→Prop} {N1:AV→Heap→Prop} {v3 v4 v11 v12 v13 v18 v19 v20:AV} {H:Heap} {σ:Type} (s0:σ) (f20:σ→AV) (TH:σ→Heap) (pre:σ→Prop) (μ:σ→Nat)
    (h0:pre s0∧AV.wk v20 (f20 s0)∧Heap.le (TH s0) H)
    (round:∀s,pre s→B114_1 K N1 (fun w20 H'=>∃s',pre s'∧μ s' < μ s∧AV.wk w20 (f20 s')∧Heap.le (TH s') H') v3 v4 v11 v12 v13 v18 v19 (f20 s) (TH s)) :
    L114_1 K N1 v3 v4 v11 v12 v13 v18 v19 v20 H:=by
  unfold L114_1
  exact LoopV.mk s0 (fun s=>[f20 s]) TH pre μ (fun _=>rfl) (Eq.mp (by kernel_rfl) h0) (fun s hs=>Eq.mp (by kernel_rfl) (round s hs))
theorem L114_0_rule {K:AV→Heap→Prop} {v3 v11 v12 v13:AV} {H:Heap} {σ:Type} (s0:σ) (f13:σ→AV) (TH:σ→Heap) (pre:σ→Prop) (μ:σ→Nat)
    (h0:pre s0∧AV.wk v13 (f13 s0)∧Heap.le (TH s0) H)
    (round:∀s,pre s→B114_0 K (fun w13 H'=>∃s',pre s'∧μ s' < μ s∧AV.wk w13 (f13 s')∧Heap.le (TH s') H') v3 v11 v12 (f13 s) (TH s)) :
    L114_0 K v3 v11 v12 v13 H:=by
  unfold L114_0
  exact LoopV.mk s0 (fun s=>[f13 s]) TH pre μ (fun _=>rfl) (Eq.mp (by kernel_rfl) h0) (fun s hs=>Eq.mp (by kernel_rfl) (round s hs))
def D115:Info:=⟨19,fun i=>([],[]),fun i=>if i=2 then ([0,1,7],[8]) else ([],[])⟩
def L115_0 (K:AV→Heap→Prop) (v0:AV) (v1:AV) (v7:AV) (v8:AV) (H:Heap):Prop:=LoopV (wpC Tryz.prog tab D115 (cAt [1,0,1,0,0] (bodyOf Tryz.f115))) [0,1,7] (PostF.block 0 (PostF.thenA (wpC Tryz.prog tab D115 (cAt [1,1] (bodyOf Tryz.f115))) (retF tab [.tmp 4] K))) [8] [v0,v1,AV.any,AV.any,AV.any,AV.any,AV.any,v7,v8,AV.any,AV.any,AV.any,AV.any,AV.any,AV.any,AV.any,AV.any,AV.any,AV.any] H
def B115_0 (K:AV→Heap→Prop) (N1:AV→Heap→Prop) (v0:AV) (v1:AV) (v7:AV) (v8:AV) (H:Heap):Prop:=
 binV tab .lss 3 v8 v7 fun v9=>
 condV v9 (indexAddrV tab 22 v0 v8 fun v14=>
 loadV tab 3 v14 H fun v15=>
 callF Tryz.prog v1 [v15] H fun v16 H1=>
 condV v16 (K v8 H1)
 (binV tab .add 3 v8 (AV.p (.int .i64 1)) fun v18=>
 N1 v18 H1))
 (K (AV.p (.int .i64 (-1))) H)
def W115 (v0:AV) (v1:AV) (H:Heap) (K:AV→Heap→Prop):Prop:=
 lenV tab 22 v0 fun v7=>
 L115_0 K v0 v1 v7 (AV.p (.int .i64 0)) H
theorem W115_wp (v0:AV) (v1:AV) (H:Heap) (K:AV→Heap→Prop):wpC Tryz.prog tab D115 (bodyOf Tryz.f115) (retF tab [.tmp 4] K) (nthA [v0,v1]) H=W115 v0 v1 H K:=by kernel_rfl
theorem W115_ok {v0 v1:AV} {H:Heap} {K:AV→Heap→Prop} (h:W115 v0 v1 H K):CallT Tryz.prog 115 [v0,v1] H K:=
  CallT.of_wp (D:=D115) tab_ok mixed Tryz.func115 (c:=bodyOf Tryz.f115) (by kernel_rfl) rfl (by kernel_rfl) (rs:=#[.tmp 4]) rfl (by decide +kernel) (by kernel_rfl) (W115_wp v0 v1 H K) h
theorem L115_0_rule {K:AV→Heap→Prop} {v0 v1 v7 v8:AV} {H:Heap} {σ:Type} (s0:σ) (f8:σ→AV) (TH:σ→Heap) (pre:σ→Prop) (μ:σ→Nat)
    (h0:pre s0∧AV.wk v8 (f8 s0)∧Heap.le (TH s0) H)
    (round:∀s,pre s→B115_0 K (fun w8 H'=>∃s',pre s'∧μ s' < μ s∧AV.wk w8 (f8 s')∧Heap.le (TH s') H') v0 v1 v7 (f8 s) (TH s)) :
    L115_0 K v0 v1 v7 v8 H:=by
  unfold L115_0
  exact LoopV.mk s0 (fun s=>[f8 s]) TH pre μ (fun _=>rfl) (Eq.mp (by kernel_rfl) h0) (fun s hs=>Eq.mp (by kernel_rfl) (round s hs))
def D116:Info:=⟨15,fun i=>if i=1 then ([[],[],[0,1],[0,1,2],[],[],[4,5],[4,5,6],[4,5,6,7],[0,1,2,3,4,5,6,7,8],[0,1,2,3,4,5,6,7,8,9]],[(0,[]),(1,[]),(2,[]),(3,[]),(4,[]),(5,[]),(6,[]),(7,[]),(8,[]),(9,[]),(10,[])]) else ([],[]),fun i=>([],[])⟩
def W116 (v0:AV) (v1:AV) (v2:AV) (H:Heap) (K:AV→Heap→Prop):Prop:=
 loadV tab 22 v1 H fun v5=>
 indexAddrV tab 22 v5 v0 fun v7=>
 loadV tab 3 v7 H fun v8=>
 loadV tab 22 v1 H fun v9=>
 loadV tab 3 v2 H fun v10=>
 indexAddrV tab 22 v9 v10 fun v11=>
 loadV tab 3 v11 H fun v12=>
 binV tab .sub 3 v12 (AV.p (.int .i64 1)) fun v13=>
 binV tab .eql 3 v8 v13 fun v14=>
 K v14 H
theorem W116_wp (v0:AV) (v1:AV) (v2:AV) (H:Heap) (K:AV→Heap→Prop):wpC Tryz.prog tab D116 (bodyOf Tryz.f116) (retF tab [.tmp 4] K) (nthA [v0,v1,v2]) H=W116 v0 v1 v2 H K:=by kernel_rfl
theorem W116_ok {v0 v1 v2:AV} {H:Heap} {K:AV→Heap→Prop} (h:W116 v0 v1 v2 H K):CallT Tryz.prog 116 [v0,v1,v2] H K:=
  CallT.of_wp (D:=D116) tab_ok mixed Tryz.func116 (c:=bodyOf Tryz.f116) (by kernel_rfl) rfl (by kernel_rfl) (rs:=#[.tmp 4]) rfl (by decide +kernel) (by kernel_rfl) (W116_wp v0 v1 v2 H K) h
def D117:Info:=⟨48,fun i=>if i=9 then ([[],[],[],[1,2],[],[],[4,5],[1,2,3,4,5,6],[0,1,2,3,4,5,6,7],[0,1,2,3,4,5,6,7,8]],[(0,[]),(1,[]),(2,[]),(3,[]),(4,[]),(5,[]),(6,[]),(7,[]),(8,[]),(9,[])]) else ([],[]),fun i=>if i=8 then ([7],[8]) else ([],[])⟩
def L117_0 (K:AV→Heap→Prop) (v7:AV) (v8:AV) (H:Heap):Prop:=LoopV (wpC Tryz.prog tab D117 (cAt [1,1,1,1,1,1,0,0,0] (bodyOf Tryz.f117))) [7] (PostF.block 0 (PostF.thenA (wpC Tryz.prog tab D117 (cAt [1,1,1,1,1,1,1] (bodyOf Tryz.f117))) (retF tab [.tmp 4] K))) [8] [AV.any,AV.any,AV.any,AV.any,AV.any,AV.any,AV.any,v7,v8,AV.any,AV.any,AV.any,AV.any,AV.any,AV.any,AV.any,AV.any,AV.any,AV.any,AV.any,AV.any,AV.any,AV.any,AV.any,AV.any,AV.any,AV.any,AV.any,AV.any,AV.any,AV.any,AV.any,AV.any,AV.any,AV.any,AV.any,AV.any,AV.any,AV.any,AV.any,AV.any,AV.any,AV.any,AV.any,AV.any,AV.any,AV.any,AV.any] H
def B117_0 (K:AV→Heap→Prop) (N1:AV→Heap→Prop) (v7:AV) (v8:AV) (H:Heap):Prop:=
 lenV tab 22 v7 fun v36=>
 binV tab .lss 3 v8 v36 fun v37=>
 condV v37 (sliceV tab 22 v7 (some v8) none none fun v41=>
 sliceV tab 22 v7 none (some v8) none fun v44=>
 copyV tab 22 v41 v44 H fun v45 H4=>
 binV tab .add 3 v8 v45 fun v46=>
 N1 v46 H4)
 (K v7 H)
def W117 (v0:AV) (v1:AV) (H:Heap) (K:AV→Heap→Prop):Prop:=
 binV tab .lss 3 v1 (AV.p (.int .i64 0)) fun v10=>
 condV v10 (False)
 (lenV tab 22 v0 fun v14=>
 convV tab 3 111 v14 fun v15=>
 convV tab 3 111 v1 fun v17=>
 CallT Tryz.prog 136 [v15,v17] H fun v18 H1=>
 extractV v18 0 fun v19=>
 extractV v18 1 fun v20=>
 binV tab .gtr 111 v19 (AV.p (.int .u64 0)) fun v22=>
 grdV v22 false (binV tab .gtr 111 v20 (AV.p (.int .u64 9223372036854775807)) fun v25=>
 condV v25 (False)
 (convV tab 111 3 v20 fun v29=>
 makeSliceV tab 22 v29 v29 H1 fun v30 H2=>
 copyV tab 22 v30 v0 H2 fun v33 H3=>
 L117_0 K v30 v33 H3))
 (False))
theorem W117_wp (v0:AV) (v1:AV) (H:Heap) (K:AV→Heap→Prop):wpC Tryz.prog tab D117 (bodyOf Tryz.f117) (retF tab [.tmp 4] K) (nthA [v0,v1]) H=W117 v0 v1 H K:=by kernel_rfl
theorem W117_ok {v0 v1:AV} {H:Heap} {K:AV→Heap→Prop} (h:W117 v0 v1 H K):CallT Tryz.prog 117 [v0,v1] H K:=
  CallT.of_wp (D:=D117) tab_ok mixed Tryz.func117 (c:=bodyOf Tryz.f117) (by kernel_rfl) rfl (by kernel_rfl) (rs:=#[.tmp 4]) rfl (by decide +kernel) (by kernel_rfl) (W117_wp v0 v1 H K) h
theorem L117_0_rule {K:AV→Heap→Prop} {v7 v8:AV} {H:Heap} {σ:Type} (s0:σ) (f8:σ→AV) (TH:σ→Heap) (pre:σ→Prop) (μ:σ→Nat)
    (h0:pre s0∧AV.wk v8 (f8 s0)∧Heap.le (TH s0) H)
    (round:∀s,pre s→B117_0 K (fun w8 H'=>∃s',pre s'∧μ s' < μ s∧AV.wk w8 (f8 s')∧Heap.le (TH s') H') v7 (f8 s) (TH s)) :
    L117_0 K v7 v8 H:=by
  unfold L117_0
  exact LoopV.mk s0 (fun s=>[f8 s]) TH pre μ (fun _=>rfl) (Eq.mp (by kernel_rfl) h0) (fun s hs=>Eq.mp (by kernel_rfl) (round s hs))
end Go.Proofs.YtolffbcnbcjeaaaGreat
namespace Go.Proofs.YtolffbcnbcjeaaaGreat
open Go Go.Sep
attribute [local irreducible] wpC headF
def D118:Info:=⟨177,fun i=>if i=1 then ([[],[0],[0,1],[0,1,2],[],[],[5],[5,6],[5,6,7],[],[],[10],[10,11],[10,11,12],[],[14],[14,15],[14,15,16],[0,1,2,3,4,5,6,7,8,10,11,12,13,14,15,16,17],[0,1,2,3,4,5,6,7,8,10,11,12,13,14,15,16,17,18],[0,1,2,3,4,5,6,7,8,9,10,11,12,13,14,15,16,17,18,19],[0,1,2,3,4,5,6,7,8,9,10,11,12,13,14,15,16,17,18,19,20]],[(0,[]),(1,[]),(2,[]),(3,[]),(4,[]),(5,[]),(6,[]),(7,[]),(8,[]),(9,[]),(10,[]),(11,[]),(12,[]),(13,[]),(14,[]),(15,[]),(16,[]),(17,[]),(18,[]),(19,[]),(20,[]),(21,[])]) else if i=8 then ([[],[0],[0,1],[0,1,2],[],[],[5],[5,6],[5,6,7],[],[5,6,7,8,9],[5,6,7,8,9,10],[],[12],[12,13],[12,13,14],[],[12,13,14,15,16],[12,13,14,15,16,17],[5,6,7,8,9,10,11,12,13,14,15,16,17,18],[0,1,2,3,4,5,6,7,8,9,10,11,12,13,14,15,16,17,18,19],[0,1,2,3,4,5,6,7,8,9,10,11,12,13,14,15,16,17,18,19,20]],[(0,[]),(1,[]),(2,[]),(3,[]),(4,[]),(5,[]),(6,[]),(7,[]),(8,[]),(9,[]),(10,[]),(11,[]),(12,[]),(13,[]),(14,[]),(15,[]),(16,[]),(17,[]),(18,[]),(19,[]),(20,[]),(21,[])]) else if i=10 then ([[],[0],[0,1],[0,1,2],[],[],[5],[5,6],[5,6,7],[],[5,6,7,8,9],[5,6,7,8,9,10],[],[12],[12,13],[12,13,14],[],[12,13,14,15,16],[12,13,14,15,16,17],[5,6,7,8,9,10,11,12,13,14,15,16,17,18],[0,1,2,3,4,5,6,7,8,9,10,11,12,13,14,15,16,17,18,19],[0,1,2,3,4,5,6,7,8,9,10,11,12,13,14,15,16,17,18,19,20]],[(0,[]),(1,[]),(2,[]),(3,[]),(4,[]),(5,[]),(6,[]),(7,[]),(8,[]),(9,[]),(10,[]),(11,[]),(12,[]),(13,[]),(14,[]),(15,[]),(16,[]),(17,[]),(18,[]),(19,[]),(20,[]),(21,[])]) else if i=12 then ([[],[0],[0,1],[0,1,2],[],[0,1,2,3,4],[0,1,2,3,4,5],[],[7],[7,8],[7,8,9],[],[7,8,9,10,11],[7,8,9,10,11,12],[0,1,2,3,4,5,6,7,8,9,10,11,12,13]],[(0,[]),(1,[]),(2,[]),(3,[]),(4,[]),(5,[]),(6,[]),(7,[]),(8,[]),(9,[]),(10,[]),(11,[]),(12,[]),(13,[]),(14,[])]) else ([],[]),fun i=>if i=4 then ([0,1,53,54],[55]) else if i=16 then ([0,6,7,154,155],[156]) else ([],[])⟩
def L118_0 (K:AV→Heap→Prop) (v0:AV) (v1:AV) (v53:AV) (v54:AV) (v55:AV) (H:Heap):Prop:=LoopV (wpC Tryz.prog tab D118 (cAt [1,1,1,0,1,0,0] (bodyOf Tryz.f118))) [0,1,53,54] (PostF.block 0 (PostF.thenA (wpC Tryz.prog tab D118 (cAt [1,1,1,1] (bodyOf Tryz.f118))) (retF tab [] K))) [55] [v0,v1,AV.any,AV.any,AV.any,AV.any,AV.any,AV.any,AV.any,AV.any,AV.any,AV.any,AV.any,AV.any,AV.any,AV.any,AV.any,AV.any,AV.any,AV.any,AV.any,AV.any,AV.any,AV.any,AV.any,AV.any,AV.any,AV.any,AV.any,AV.any,AV.any,AV.any,AV.any,AV.any,AV.any,AV.any,AV.any,AV.any,AV.any,AV.any,AV.any,AV.any,AV.any,AV.any,AV.any,AV.any,AV.any,AV.any,AV.any,AV.any,AV.any,AV.any,AV.any,v53,v54,v55,AV.any,AV.any,AV.any,AV.any,AV.any,AV.any,AV.any,AV.any,AV.any,AV.any,AV.any,AV.any,AV.any,AV.any,AV.any,AV.any,AV.any,AV.any,AV.any,AV.any,AV.any,AV.any,AV.any,AV.any,AV.any,AV.any,AV.any,AV.any,AV.any,AV.any,AV.any,AV.any,AV.any,AV.any,AV.any,AV.any,AV.any,AV.any,AV.any,AV.any,AV.any,AV.any,AV.any,AV.any,AV.any,AV.any,AV.any,AV.any,AV.any,AV.any,AV.any,AV.any,AV.any,AV.any,AV.any,AV.any,AV.any,AV.any,AV.any,AV.any,AV.any,AV.any,AV.any,AV.any,AV.any,AV.any,AV.any,AV.any,AV.any,AV.any,AV.any,AV.any,AV.any,AV.any,AV.any,AV.any,AV.any,AV.any,AV.any,AV.any,AV.any,AV.any,AV.any,AV.any,AV.any,AV.any,AV.any,AV.any,AV.any,AV.any,AV.any,AV.any,AV.any,AV.any,AV.any,AV.any,AV.any,AV.any,AV.any,AV.any,AV.any,AV.any,AV.any,AV.any,AV.any,AV.any,AV.any,AV.any,AV.any,AV.any,AV.any,AV.any,AV.any,AV.any,AV.any,AV.any,AV.any,AV.any,AV.any,AV.any,AV.any] H
def L118_1 (K:AV→Heap→Prop) (v0:AV) (v6:AV) (v7:AV) (v154:AV) (v155:AV) (v156:AV) (H:Heap):Prop:=LoopV (wpC Tryz.prog tab D118 (cAt [1,1,1,1,1,1,1,0,1,0,0] (bodyOf Tryz.f118))) [0,6,7,154,155] (PostF.block 2 (PostF.thenA (wpC Tryz.prog tab D118 (cAt [1,1,1,1,1,1,1,1] (bodyOf Tryz.f118))) (retF tab [] K))) [156] [v0,AV.any,AV.any,AV.any,AV.any,AV.any,v6,v7,AV.any,AV.any,AV.any,AV.any,AV.any,AV.any,AV.any,AV.any,AV.any,AV.any,AV.any,AV.any,AV.any,AV.any,AV.any,AV.any,AV.any,AV.any,AV.any,AV.any,AV.any,AV.any,AV.any,AV.any,AV.any,AV.any,AV.any,AV.any,AV.any,AV.any,AV.any,AV.any,AV.any,AV.any,AV.any,AV.any,AV.any,AV.any,AV.any,AV.any,AV.any,AV.any,AV.any,AV.any,AV.any,AV.any,AV.any,AV.any,AV.any,AV.any,AV.any,AV.any,AV.any,AV.any,AV.any,AV.any,AV.any,AV.any,AV.any,AV.any,AV.any,AV.any,AV.any,AV.any,AV.any,AV.any,AV.any,AV.any,AV.any,AV.any,AV.any,AV.any,AV.any,AV.any,AV.any,AV.any,AV.any,AV.any,AV.any,AV.any,AV.any,AV.any,AV.any,AV.any,AV.any,AV.any,AV.any,AV.any,AV.any,AV.any,AV.any,AV.any,AV.any,AV.any,AV.any,AV.any,AV.any,AV.any,AV.any,AV.any,AV.any,AV.any,AV.any,AV.any,AV.any,AV.any,AV.any,AV.any,AV.any,AV.any,AV.any,AV.any,AV.any,AV.any,AV.any,AV.any,AV.any,AV.any,AV.any,AV.any,AV.any,AV.any,AV.any,AV.any,AV.any,AV.any,AV.any,AV.any,AV.any,AV.any,AV.any,AV.any,AV.any,AV.any,AV.any,AV.any,AV.any,AV.any,AV.any,AV.any,AV.any,AV.any,AV.any,AV.any,AV.any,AV.any,v154,v155,v156,AV.any,AV.any,AV.any,AV.any,AV.any,AV.any,AV.any,AV.any,AV.any,AV.any,AV.any,AV.any,AV.any,AV.any,AV.any,AV.any,AV.any,AV.any,AV.any,AV.any] H
def B118_1 (K:AV→Heap→Prop) (N1:AV→Heap→Prop) (v0:AV) (v6:AV) (v7:AV) (v154:AV) (v155:AV) (v156:AV) (H:Heap):Prop:=
 binV tab .lss 3 v156 v155 fun v157=>
 condV v157 (indexAddrV tab 22 v154 v156 fun v158=>
 loadV tab 3 v158 H fun v159=>
 nilCheckV v0 fun v161=>
 fieldAddrV tab 133 v161 3 fun v162=>
 loadV tab 22 v162 H fun v163=>
 indexAddrV tab 22 v163 v159 fun v166=>
 storeV tab 3 v166 v7 H fun H12=>
 binV tab .add 3 v156 (AV.p (.int .i64 1)) fun v167=>
 N1 v167 H12)
 (nilCheckV v0 fun v170=>
 fieldAddrV tab 133 v170 4 fun v171=>
 loadV tab 22 v171 H fun v172=>
 sliceV tab 22 v172 none (some v6) none fun v174=>
 nilCheckV v0 fun v175=>
 fieldAddrV tab 133 v175 4 fun v176=>
 storeV tab 22 v176 v174 H fun H13=>
 K (.tup []) H13)
def B118_0 (K:AV→Heap→Prop) (N1:AV→Heap→Prop) (v0:AV) (v1:AV) (v53:AV) (v54:AV) (v55:AV) (H:Heap):Prop:=
 binV tab .lss 3 v55 v54 fun v56=>
 condV v56 (indexAddrV tab 22 v53 v55 fun v57=>
 loadV tab 3 v57 H fun v58=>
 nilCheckV v0 fun v60=>
 fieldAddrV tab 133 v60 1 fun v61=>
 loadV tab 22 v61 H fun v62=>
 indexAddrV tab 22 v62 v58 fun v64=>
 loadV tab 3 v64 H fun v65=>
 binV tab .eql 3 v65 (AV.p (.int .i64 0)) fun v66=>
 condV v66 (CallT Tryz.prog 118 [v0,v58] H fun v69 H7=>
 nilCheckV v0 fun v71=>
 fieldAddrV tab 133 v71 2 fun v72=>
 loadV tab 22 v72 H7 fun v73=>
 nilCheckV v0 fun v76=>
 fieldAddrV tab 133 v76 2 fun v77=>
 loadV tab 22 v77 H7 fun v78=>
 indexAddrV tab 22 v78 v1 fun v80=>
 loadV tab 3 v80 H7 fun v81=>
 nilCheckV v0 fun v83=>
 fieldAddrV tab 133 v83 2 fun v84=>
 loadV tab 22 v84 H7 fun v85=>
 indexAddrV tab 22 v85 v58 fun v87=>
 loadV tab 3 v87 H7 fun v88=>
 mmV .min v81 v88 fun v89=>
 indexAddrV tab 22 v73 v1 fun v90=>
 storeV tab 3 v90 v89 H7 fun H8=>
 binV tab .add 3 v55 (AV.p (.int .i64 1)) fun v120=>
 N1 v120 H8)
 (nilCheckV v0 fun v92=>
 fieldAddrV tab 133 v92 3 fun v93=>
 loadV tab 22 v93 H fun v94=>
 indexAddrV tab 22 v94 v58 fun v96=>
 loadV tab 3 v96 H fun v97=>
 binV tab .lss 3 v97 (AV.p (.int .i64 0)) fun v98=>
 condV v98 (nilCheckV v0 fun v100=>
 fieldAddrV tab 133 v100 2 fun v101=>
 loadV tab 22 v101 H fun v102=>
 nilCheckV v0 fun v105=>
 fieldAddrV tab 133 v105 2 fun v106=>
 loadV tab 22 v106 H fun v107=>
 indexAddrV tab 22 v107 v1 fun v109=>
 loadV tab 3 v109 H fun v110=>
 nilCheckV v0 fun v112=>
 fieldAddrV tab 133 v112 1 fun v113=>
 loadV tab 22 v113 H fun v114=>
 indexAddrV tab 22 v114 v58 fun v116=>
 loadV tab 3 v116 H fun v117=>
 mmV .min v110 v117 fun v118=>
 indexAddrV tab 22 v102 v1 fun v119=>
 storeV tab 3 v119 v118 H fun H9=>
 binV tab .add 3 v55 (AV.p (.int .i64 1)) fun v120=>
 N1 v120 H9)
 (binV tab .add 3 v55 (AV.p (.int .i64 1)) fun v120=>
 N1 v120 H)))
 (nilCheckV v0 fun v122=>
 fieldAddrV tab 133 v122 2 fun v123=>
 loadV tab 22 v123 H fun v124=>
 indexAddrV tab 22 v124 v1 fun v126=>
 loadV tab 3 v126 H fun v127=>
 nilCheckV v0 fun v129=>
 fieldAddrV tab 133 v129 1 fun v130=>
 loadV tab 22 v130 H fun v131=>
 indexAddrV tab 22 v131 v1 fun v133=>
 loadV tab 3 v133 H fun v134=>
 binV tab .lss 3 v127 v134 fun v135=>
 condV v135 (K (.tup []) H)
 (nilCheckV v0 fun v137=>
 fieldAddrV tab 133 v137 4 fun v138=>
 loadV tab 22 v138 H fun v139=>
 CallT Tryz.prog 137 [v139,v1] H fun v141 H10=>
 nilCheckV v0 fun v143=>
 fieldAddrV tab 133 v143 4 fun v144=>
 loadV tab 22 v144 H10 fun v145=>
 sliceV tab 22 v145 (some v141) none none fun v147=>
 CallT Tryz.prog 138 [v147] H10 fun v148 H11=>
 nilCheckV v0 fun v150=>
 fieldAddrV tab 133 v150 4 fun v151=>
 loadV tab 22 v151 H11 fun v152=>
 sliceV tab 22 v152 (some v141) none none fun v154=>
 lenV tab 22 v154 fun v155=>
 L118_1 K v0 v141 v148 v154 v155 (AV.p (.int .i64 0)) H11))
def W118 (v0:AV) (v1:AV) (H:Heap) (K:AV→Heap→Prop):Prop:=
 nilCheckV v0 fun v11=>
 fieldAddrV tab 133 v11 5 fun v12=>
 loadV tab 3 v12 H fun v13=>
 binV tab .add 3 v13 (AV.p (.int .i64 1)) fun v14=>
 nilCheckV v0 fun v15=>
 fieldAddrV tab 133 v15 5 fun v16=>
 storeV tab 3 v16 v14 H fun H1=>
 nilCheckV v0 fun v18=>
 fieldAddrV tab 133 v18 1 fun v19=>
 loadV tab 22 v19 H1 fun v20=>
 nilCheckV v0 fun v23=>
 fieldAddrV tab 133 v23 2 fun v24=>
 loadV tab 22 v24 H1 fun v25=>
 nilCheckV v0 fun v28=>
 fieldAddrV tab 133 v28 5 fun v29=>
 loadV tab 3 v29 H1 fun v30=>
 nilCheckV v0 fun v32=>
 fieldAddrV tab 133 v32 5 fun v33=>
 loadV tab 3 v33 H1 fun v34=>
 indexAddrV tab 22 v20 v1 fun v35=>
 storeV tab 3 v35 v30 H1 fun H2=>
 indexAddrV tab 22 v25 v1 fun v36=>
 storeV tab 3 v36 v34 H2 fun H3=>
 nilCheckV v0 fun v39=>
 fieldAddrV tab 133 v39 4 fun v40=>
 loadV tab 22 v40 H3 fun v41=>
 buildSliceV tab 22 1 [(0,v1)] H3 (wkK fun v43 H4=>
 appendV tab 22 22 v41 v43 H4 (wkK fun v44 H5=>
 nilCheckV v0 fun v45=>
 fieldAddrV tab 133 v45 4 fun v46=>
 storeV tab 22 v46 v44 H5 fun H6=>
 nilCheckV v0 fun v48=>
 fieldAddrV tab 133 v48 0 fun v49=>
 loadV tab 24 v49 H6 fun v50=>
 indexAddrV tab 24 v50 v1 fun v52=>
 loadV tab 22 v52 H6 fun v53=>
 lenV tab 22 v53 fun v54=>
 L118_0 K v0 v1 v53 v54 (AV.p (.int .i64 0)) H6))
theorem W118_wp (v0:AV) (v1:AV) (H:Heap) (K:AV→Heap→Prop):wpC Tryz.prog tab D118 (bodyOf Tryz.f118) (retF tab [] K) (nthA [v0,v1]) H=W118 v0 v1 H K:=by kernel_rfl
theorem W118_ok {v0 v1:AV} {H:Heap} {K:AV→Heap→Prop} (h:W118 v0 v1 H K):CallT Tryz.prog 118 [v0,v1] H K:=
  CallT.of_wp (D:=D118) tab_ok mixed Tryz.func118 (c:=bodyOf Tryz.f118) (by kernel_rfl) rfl (by kernel_rfl) (rs:=#[]) rfl (by decide +kernel) (by kernel_rfl) (W118_wp v0 v1 H K) h
theorem L118_1_rule {K:AV→Heap→Prop} {v0 v6 v7 v154 v155 v156:AV} {H:Heap} {σ:Type} (s0:σ) (f156:σ→AV) (TH:σ→Heap) (pre:σ→Prop) (μ:σ→Nat)
    (h0:pre s0∧AV.wk v156 (f156 s0)∧Heap.le (TH s0) H)
    (round:∀s,pre s→B118_1 K (fun w156 H'=>∃s',pre s'∧μ s' < μ s∧AV.wk w156 (f156 s')∧Heap.le (TH s') H') v0 v6 v7 v154 v155 (f156 s) (TH s)) :
    L118_1 K v0 v6 v7 v154 v155 v156 H:=by
  unfold L118_1
  exact LoopV.mk s0 (fun s=>[f156 s]) TH pre μ (fun _=>rfl) (Eq.mp (by kernel_rfl) h0) (fun s hs=>Eq.mp (by kernel_rfl) (round s hs))
theorem L118_0_rule {K:AV→Heap→Prop} {v0 v1 v53 v54 v55:AV} {H:Heap} {σ:Type} (s0:σ) (f55:σ→AV) (TH:σ→Heap) (pre:σ→Prop) (μ:σ→Nat)
    (h0:pre s0∧AV.wk v55 (f55 s0)∧Heap.le (TH s0) H)
    (round:∀s,pre s→B118_0 K (fun w55 H'=>∃s',pre s'∧μ s' < μ s∧AV.wk w55 (f55 s')∧Heap.le (TH s') H') v0 v1 v53 v54 (f55 s) (TH s)) :
    L118_0 K v0 v1 v53 v54 v55 H:=by
  unfold L118_0
  exact LoopV.mk s0 (fun s=>[f55 s]) TH pre μ (fun _=>rfl) (Eq.mp (by kernel_rfl) h0) (fun s hs=>Eq.mp (by kernel_rfl) (round s hs))
def D121:Info:=⟨6,fun i=>([],[]),fun i=>([],[])⟩
def W121 (v0:AV) (H:Heap) (K:AV→Heap→Prop):Prop:=
 CallT Tryz.prog 150 [v0,(.fn 151 [])] H fun v4 H1=>
 unV .not v4 fun v5=>
 K v5 H1
theorem W121_wp (v0:AV) (H:Heap) (K:AV→Heap→Prop):wpC Tryz.prog tab D121 (bodyOf Tryz.f121) (retF tab [.tmp 2] K) (nthA [v0]) H=W121 v0 H K:=by kernel_rfl
theorem W121_ok {v0:AV} {H:Heap} {K:AV→Heap→Prop} (h:W121 v0 H K):CallT Tryz.prog 121 [v0] H K:=
  CallT.of_wp (D:=D121) tab_ok mixed Tryz.func121 (c:=bodyOf Tryz.f121) (by kernel_rfl) rfl (by kernel_rfl) (rs:=#[.tmp 2]) rfl (by decide +kernel) (by kernel_rfl) (W121_wp v0 H K) h
def D134:Info:=⟨19,fun i=>([],[]),fun i=>if i=2 then ([0,1,7],[8]) else ([],[])⟩
def L134_0 (K:AV→Heap→Prop) (v0:AV) (v1:AV) (v7:AV) (v8:AV) (H:Heap):Prop:=LoopV (wpC Tryz.prog tab D134 (cAt [1,0,1,0,0] (bodyOf Tryz.f134))) [0,1,7] (PostF.block 0 (PostF.thenA (wpC Tryz.prog tab D134 (cAt [1,1] (bodyOf Tryz.f134))) (retF tab [.tmp 4] K))) [8] [v0,v1,AV.any,AV.any,AV.any,AV.any,AV.any,v7,v8,AV.any,AV.any,AV.any,AV.any,AV.any,AV.any,AV.any,AV.any,AV.any,AV.any] H
def B134_0 (K:AV→Heap→Prop) (N1:AV→Heap→Prop) (v0:AV) (v1:AV) (v7:AV) (v8:AV) (H:Heap):Prop:=
 binV tab .lss 3 v8 v7 fun v9=>
 condV v9 (indexAddrV tab 24 v0 v8 fun v14=>
 loadV tab 22 v14 H fun v15=>
 callF Tryz.prog v1 [v15] H fun v16 H1=>
 condV v16 (K v8 H1)
 (binV tab .add 3 v8 (AV.p (.int .i64 1)) fun v18=>
 N1 v18 H1))
 (K (AV.p (.int .i64 (-1))) H)
def W134 (v0:AV) (v1:AV) (H:Heap) (K:AV→Heap→Prop):Prop:=
 lenV tab 24 v0 fun v7=>
 L134_0 K v0 v1 v7 (AV.p (.int .i64 0)) H
theorem W134_wp (v0:AV) (v1:AV) (H:Heap) (K:AV→Heap→Prop):wpC Tryz.prog tab D134 (bodyOf Tryz.f134) (retF tab [.tmp 4] K) (nthA [v0,v1]) H=W134 v0 v1 H K:=by kernel_rfl
theorem W134_ok {v0 v1:AV} {H:Heap} {K:AV→Heap→Prop} (h:W134 v0 v1 H K):CallT Tryz.prog 134 [v0,v1] H K:=
  CallT.of_wp (D:=D134) tab_ok mixed Tryz.func134 (c:=bodyOf Tryz.f134) (by kernel_rfl) rfl (by kernel_rfl) (rs:=#[.tmp 4]) rfl (by decide +kernel) (by kernel_rfl) (W134_wp v0 v1 H K) h
theorem L134_0_rule {K:AV→Heap→Prop} {v0 v1 v7 v8:AV} {H:Heap} {σ:Type} (s0:σ) (f8:σ→AV) (TH:σ→Heap) (pre:σ→Prop) (μ:σ→Nat)
    (h0:pre s0∧AV.wk v8 (f8 s0)∧Heap.le (TH s0) H)
    (round:∀s,pre s→B134_0 K (fun w8 H'=>∃s',pre s'∧μ s' < μ s∧AV.wk w8 (f8 s')∧Heap.le (TH s') H') v0 v1 v7 (f8 s) (TH s)) :
    L134_0 K v0 v1 v7 v8 H:=by
  unfold L134_0
  exact LoopV.mk s0 (fun s=>[f8 s]) TH pre μ (fun _=>rfl) (Eq.mp (by kernel_rfl) h0) (fun s hs=>Eq.mp (by kernel_rfl) (round s hs))
def D135:Info:=⟨6,fun i=>([],[]),fun i=>([],[])⟩
def W135 (v0:AV) (H:Heap) (K:AV→Heap→Prop):Prop:=
 binV tab .neq 3 v0 v0 fun v5=>
 K v5 H
theorem W135_wp (v0:AV) (H:Heap) (K:AV→Heap→Prop):wpC Tryz.prog tab D135 (bodyOf Tryz.f135) (retF tab [.tmp 2] K) (nthA [v0]) H=W135 v0 H K:=by kernel_rfl
theorem W135_ok {v0:AV} {H:Heap} {K:AV→Heap→Prop} (h:W135 v0 H K):CallT Tryz.prog 135 [v0] H K:=
  CallT.of_wp (D:=D135) tab_ok mixed Tryz.func135 (c:=bodyOf Tryz.f135) (by kernel_rfl) rfl (by kernel_rfl) (rs:=#[.tmp 2]) rfl (by decide +kernel) (by kernel_rfl) (W135_wp v0 H K) h
def D136:Info:=⟨30,fun i=>([],[]),fun i=>([],[])⟩
def W136 (v0:AV) (v1:AV) (H:Heap) (K:AV→Heap→Prop):Prop:=
 CallT Tryz.prog 162 [v0,v1] H fun v25 H1=>
 extractV v25 0 fun v26=>
 extractV v25 1 fun v27=>
 K (.tup [v26,v27]) H1
theorem W136_wp (v0:AV) (v1:AV) (H:Heap) (K:AV→Heap→Prop):wpC Tryz.prog tab D136 (bodyOf Tryz.f136) (retF tab [.tmp 4,.tmp 5] K) (nthA [v0,v1]) H=W136 v0 v1 H K:=by kernel_rfl
theorem W136_ok {v0 v1:AV} {H:Heap} {K:AV→Heap→Prop} (h:W136 v0 v1 H K):CallT Tryz.prog 136 [v0,v1] H K:=
  CallT.of_wp (D:=D136) tab_ok mixed Tryz.func136 (c:=bodyOf Tryz.f136) (by kernel_rfl) rfl (by kernel_rfl) (rs:=#[.tmp 4,.tmp 5]) rfl (by decide +kernel) (by kernel_rfl) (W136_wp v0 v1 H K) h
end Go.Proofs.YtolffbcnbcjeaaaGreat
namespace Go.Proofs.YtolffbcnbcjeaaaGreat
open Go Go.Sep
attribute [local irreducible] wpC headF
def D137:Info:=⟨19,fun i=>([],[]),fun i=>if i=2 then ([0,1,7],[8]) else ([],[])⟩
def L137_0 (K:AV→Heap→Prop) (v0:AV) (v1:AV) (v7:AV) (v8:AV) (H:Heap):Prop:=LoopV (wpC Tryz.prog tab D137 (cAt [1,0,1,0,0] (bodyOf Tryz.f137))) [0,1,7] (PostF.block 0 (PostF.thenA (wpC Tryz.prog tab D137 (cAt [1,1] (bodyOf Tryz.f137))) (retF tab [.tmp 4] K))) [8] [v0,v1,AV.any,AV.any,AV.any,AV.any,AV.any,v7,v8,AV.any,AV.any,AV.any,AV.any,AV.any,AV.any,AV.any,AV.any,AV.any,AV.any] H
def B137_0 (K:AV→Heap→Prop) (N1:AV→Heap→Prop) (v0:AV) (v1:AV) (v7:AV) (v8:AV) (H:Heap):Prop:=
 binV tab .lss 3 v8 v7 fun v9=>
 condV v9 (indexAddrV tab 22 v0 v8 fun v14=>
 loadV tab 3 v14 H fun v15=>
 binV tab .eql 3 v1 v15 fun v16=>
 condV v16 (K v8 H)
 (binV tab .add 3 v8 (AV.p (.int .i64 1)) fun v18=>
 N1 v18 H))
 (K (AV.p (.int .i64 (-1))) H)
def W137 (v0:AV) (v1:AV) (H:Heap) (K:AV→Heap→Prop):Prop:=
 lenV tab 22 v0 fun v7=>
 L137_0 K v0 v1 v7 (AV.p (.int .i64 0)) H
theorem W137_wp (v0:AV) (v1:AV) (H:Heap) (K:AV→Heap→Prop):wpC Tryz.prog tab D137 (bodyOf Tryz.f137) (retF tab [.tmp 4] K) (nthA [v0,v1]) H=W137 v0 v1 H K:=by kernel_rfl
theorem W137_ok {v0 v1:AV} {H:Heap} {K:AV→Heap→Prop} (h:W137 v0 v1 H K):CallT Tryz.prog 137 [v0,v1] H K:=
  CallT.of_wp (D:=D137) tab_ok mixed Tryz.func137 (c:=bodyOf Tryz.f137) (by kernel_rfl) rfl (by kernel_rfl) (rs:=#[.tmp 4]) rfl (by decide +kernel) (by kernel_rfl) (W137_wp v0 v1 H K) h
theorem L137_0_rule {K:AV→Heap→Prop} {v0 v1 v7 v8:AV} {H:Heap} {σ:Type} (s0:σ) (f8:σ→AV) (TH:σ→Heap) (pre:σ→Prop) (μ:σ→Nat)
    (h0:pre s0∧AV.wk v8 (f8 s0)∧Heap.le (TH s0) H)
    (round:∀s,pre s→B137_0 K (fun w8 H'=>∃s',pre s'∧μ s' < μ s∧AV.wk w8 (f8 s')∧Heap.le (TH s') H') v0 v1 v7 (f8 s) (TH s)) :
    L137_0 K v0 v1 v7 v8 H:=by
  unfold L137_0
  exact LoopV.mk s0 (fun s=>[f8 s]) TH pre μ (fun _=>rfl) (Eq.mp (by kernel_rfl) h0) (fun s hs=>Eq.mp (by kernel_rfl) (round s hs))
def D138:Info:=⟨25,fun i=>([],[]),fun i=>if i=5 then ([0],[3,4]) else ([],[])⟩
def L138_0 (K:AV→Heap→Prop) (v0:AV) (v3:AV) (v4:AV) (H:Heap):Prop:=LoopV (wpC Tryz.prog tab D138 (cAt [1,1,1,0,1,0,0] (bodyOf Tryz.f138))) [0] (PostF.block 0 (PostF.thenA (wpC Tryz.prog tab D138 (cAt [1,1,1,1] (bodyOf Tryz.f138))) (retF tab [.tmp 2] K))) [3,4] [v0,AV.any,AV.any,v3,v4,AV.any,AV.any,AV.any,AV.any,AV.any,AV.any,AV.any,AV.any,AV.any,AV.any,AV.any,AV.any,AV.any,AV.any,AV.any,AV.any,AV.any,AV.any,AV.any,AV.any] H
def B138_0 (K:AV→Heap→Prop) (N1:AV→AV→Heap→Prop) (v0:AV) (v3:AV) (v4:AV) (H:Heap):Prop:=
 lenV tab 22 v0 fun v14=>
 binV tab .lss 3 v4 v14 fun v15=>
 condV v15 (indexAddrV tab 22 v0 v4 fun v21=>
 loadV tab 3 v21 H fun v22=>
 mmV .min v3 v22 fun v23=>
 binV tab .add 3 v4 (AV.p (.int .i64 1)) fun v17=>
 N1 v23 v17 H)
 (K v3 H)
def W138 (v0:AV) (H:Heap) (K:AV→Heap→Prop):Prop:=
 lenV tab 22 v0 fun v6=>
 binV tab .lss 3 v6 (AV.p (.int .i64 1)) fun v7=>
 condV v7 (False)
 (indexAddrV tab 22 v0 (AV.p (.int .i64 0)) fun v10=>
 loadV tab 3 v10 H fun v11=>
 L138_0 K v0 v11 (AV.p (.int .i64 1)) H)
theorem W138_wp (v0:AV) (H:Heap) (K:AV→Heap→Prop):wpC Tryz.prog tab D138 (bodyOf Tryz.f138) (retF tab [.tmp 2] K) (nthA [v0]) H=W138 v0 H K:=by kernel_rfl
theorem W138_ok {v0:AV} {H:Heap} {K:AV→Heap→Prop} (h:W138 v0 H K):CallT Tryz.prog 138 [v0] H K:=
  CallT.of_wp (D:=D138) tab_ok mixed Tryz.func138 (c:=bodyOf Tryz.f138) (by kernel_rfl) rfl (by kernel_rfl) (rs:=#[.tmp 2]) rfl (by decide +kernel) (by kernel_rfl) (W138_wp v0 H K) h
theorem L138_0_rule {K:AV→Heap→Prop} {v0 v3 v4:AV} {H:Heap} {σ:Type} (s0:σ) (f3:σ→AV) (f4:σ→AV) (TH:σ→Heap) (pre:σ→Prop) (μ:σ→Nat)
    (h0:pre s0∧AV.wk v3 (f3 s0)∧AV.wk v4 (f4 s0)∧Heap.le (TH s0) H)
    (round:∀s,pre s→B138_0 K (fun w3 w4 H'=>∃s',pre s'∧μ s' < μ s∧AV.wk w3 (f3 s')∧AV.wk w4 (f4 s')∧Heap.le (TH s') H') v0 (f3 s) (f4 s) (TH s)) :
    L138_0 K v0 v3 v4 H:=by
  unfold L138_0
  exact LoopV.mk s0 (fun s=>[f3 s,f4 s]) TH pre μ (fun _=>rfl) (Eq.mp (by kernel_rfl) h0) (fun s hs=>Eq.mp (by kernel_rfl) (round s hs))
def D150:Info:=⟨9,fun i=>([],[]),fun i=>([],[])⟩
def W150 (v0:AV) (v1:AV) (H:Heap) (K:AV→Heap→Prop):Prop:=
 CallT Tryz.prog 115 [v0,v1] H fun v7 H1=>
 binV tab .geq 3 v7 (AV.p (.int .i64 0)) fun v8=>
 K v8 H1
theorem W150_wp (v0:AV) (v1:AV) (H:Heap) (K:AV→Heap→Prop):wpC Tryz.prog tab D150 (bodyOf Tryz.f150) (retF tab [.tmp 4] K) (nthA [v0,v1]) H=W150 v0 v1 H K:=by kernel_rfl
theorem W150_ok {v0 v1:AV} {H:Heap} {K:AV→Heap→Prop} (h:W150 v0 v1 H K):CallT Tryz.prog 150 [v0,v1] H K:=
  CallT.of_wp (D:=D150) tab_ok mixed Tryz.func150 (c:=bodyOf Tryz.f150) (by kernel_rfl) rfl (by kernel_rfl) (rs:=#[.tmp 4]) rfl (by decide +kernel) (by kernel_rfl) (W150_wp v0 v1 H K) h
def D151:Info:=⟨9,fun i=>([],[]),fun i=>([],[])⟩
def W151 (v0:AV) (H:Heap) (K:AV→Heap→Prop):Prop:=
 binV tab .lss 3 v0 (AV.p (.int .i64 0)) fun v4=>
 grdV v4 false (binV tab .geq 3 v0 (AV.p (.int .i64 8)) fun v7=>
 K v7 H)
 (K (AV.p (.bool true)) H)
theorem W151_wp (v0:AV) (H:Heap) (K:AV→Heap→Prop):wpC Tryz.prog tab D151 (bodyOf Tryz.f151) (retF tab [.tmp 2] K) (nthA [v0]) H=W151 v0 H K:=by kernel_rfl
theorem W151_ok {v0:AV} {H:Heap} {K:AV→Heap→Prop} (h:W151 v0 H K):CallT Tryz.prog 151 [v0] H K:=
  CallT.of_wp (D:=D151) tab_ok mixed Tryz.func151 (c:=bodyOf Tryz.f151) (by kernel_rfl) rfl (by kernel_rfl) (rs:=#[.tmp 2]) rfl (by decide +kernel) (by kernel_rfl) (W151_wp v0 H K) h
def D162:Info:=⟨51,fun i=>([],[]),fun i=>([],[])⟩
def W162 (v0:AV) (v1:AV) (H:Heap) (K:AV→Heap→Prop):Prop:=
 binV tab .and 157 v0 (AV.p (.int .u64 4294967295)) fun v15=>
 binV tab .shr 157 v0 (AV.p (.int .u64 32)) fun v17=>
 binV tab .and 157 v1 (AV.p (.int .u64 4294967295)) fun v19=>
 binV tab .shr 157 v1 (AV.p (.int .u64 32)) fun v21=>
 binV tab .mul 157 v15 v19 fun v24=>
 binV tab .mul 157 v17 v19 fun v27=>
 binV tab .shr 157 v24 (AV.p (.int .u64 32)) fun v29=>
 binV tab .add 157 v27 v29 fun v30=>
 binV tab .and 157 v30 (AV.p (.int .u64 4294967295)) fun v32=>
 binV tab .shr 157 v30 (AV.p (.int .u64 32)) fun v34=>
 binV tab .mul 157 v15 v21 fun v38=>
 binV tab .add 157 v32 v38 fun v39=>
 binV tab .mul 157 v17 v21 fun v42=>
 binV tab .add 157 v42 v34 fun v44=>
 binV tab .shr 157 v39 (AV.p (.int .u64 32)) fun v46=>
 binV tab .add 157 v44 v46 fun v47=>
 binV tab .mul 157 v0 v1 fun v50=>
 K (.tup [v47,v50]) H
theorem W162_wp (v0:AV) (v1:AV) (H:Heap) (K:AV→Heap→Prop):wpC Tryz.prog tab D162 (bodyOf Tryz.f162) (retF tab [.tmp 4,.tmp 5] K) (nthA [v0,v1]) H=W162 v0 v1 H K:=by kernel_rfl
theorem W162_ok {v0 v1:AV} {H:Heap} {K:AV→Heap→Prop} (h:W162 v0 v1 H K):CallT Tryz.prog 162 [v0,v1] H K:=
  CallT.of_wp (D:=D162) tab_ok mixed Tryz.func162 (c:=bodyOf Tryz.f162) (by kernel_rfl) rfl (by kernel_rfl) (rs:=#[.tmp 4,.tmp 5]) rfl (by decide +kernel) (by kernel_rfl) (W162_wp v0 v1 H K) h
end Go.Proofs.YtolffbcnbcjeaaaGreat
namespace Go.Proofs.YtolffbcnbcjeaaaGreat
open Go Go.Sep
attribute [local irreducible] CallT
theorem i64_id {n:Int} (h0:-9223372036854775808≤n) (h1:n≤9223372036854775807):IntKind.i64.wrap n=n:=wrap64_id h0 h1
theorem wk_int {k:IntKind} {a b:Int}:AV.wk (.p (.int k a)) (.p (.int k b))=(a=b):=by
  apply propext;constructor
  · intro h;cases h;rfl
  · rintro rfl;exact .refl _
theorem take_all_succ {α:Type} {p:α→Bool} {xs:List α} {i:Nat} (h:i < xs.length):(xs.take (i+1)).all p=((xs.take i).all p && p xs[i]):=by
  rw [List.take_succ_eq_append_getElem h,List.all_append];simp
theorem getD_lt {α:Type} {xs:List α} {i:Nat} {d:α} (h:i < xs.length):xs.getD i d=xs[i]:=by simp [List.getD,h]
theorem getD_all {α:Type} {p:α→Prop} {l:List α} {d:α} (h:∀b∈l,p b) {i:Nat} (hi:i < l.length):p (l.getD i d):=by
  simp only [List.getD,List.getElem?_eq_getElem hi,Option.getD_some];exact h _ (List.getElem_mem hi)
theorem range_all_succ {p:Nat→Bool} {n:Nat}:(List.range (n+1)).all p=((List.range n).all p && p n):=by
  rw [List.range_succ,List.all_append];simp
theorem range_all_false {p:Nat→Bool} {n i:Nat} (hi:i < n) (h:p i=false):(List.range n).all p=false:=by
  rw [List.all_eq_false];exact ⟨i,List.mem_range.2 hi,by simp [h]⟩
theorem Wk.own_le {q sz:Nat} {es:List (List PV)} {H H':Heap} (hpos:0 < sz) (hs:Sized sz es) (hq:H q=none) (hle:Heap.le (H.set q (cells es)) H'):Wk (own q sz es) H' (.p (.sl es)) H:=by
  have h1:H' q=some (cells es):=hle q _ (Heap.set_same _ _ _)
  refine .trans (.own hpos hs h1) (.forget (Heap.le_del (fun x b hx=>hle x b ?_) hq))
  rw [Heap.set_other (fun e=>by rw [e,hq] at hx;cases hx)];exact hx
theorem CallT.fin {P:Program} {f:Nat} {args:List AV} {H:Heap} {K:AV→Heap→Prop} (h:CallT P f args H (wkK K)):CallT P f args H K:=
  h.wk fun v H1 ⟨v',H2,hw,hk⟩=>⟨v',H2,hw,hk⟩
theorem szI (xs:List Int):Sized 1 (xs.map eI):=sized_map (f:=eI) (fun _=>rfl) xs
theorem cells_I (xs:List Int):cells (xs.map eI)=xs.map fun n=>I n:=by
  induction xs with
  | nil=>rfl
  | cons x xs ih=>simp only [cells,List.map_cons,List.flatten_cons,List.map_append] at ih ⊢;rw [ih];rfl
abbrev eL (l:List Int):List PV:=[.sl (l.map eI)]
abbrev Ls (cs:List (List Int)):AV:=.p (.sl (cs.map eL))
theorem fin_own {q sz:Nat} {es:List (List PV)} {H H':Heap} {K:AV→Heap→Prop} (hpos:0 < sz) (hs:Sized sz es) (hq:H q=none) (hle:Heap.le (H.set q (cells es)) H') (h:K (.p (.sl es)) H):wkK K (own q sz es) H':=
  ⟨_,_,Wk.own_le hpos hs hq hle,h⟩
theorem fin_le {v:AV} {H H':Heap} {K:AV→Heap→Prop} (hle:Heap.le H H') (h:K v H):wkK K v H':=⟨_,_,.forget hle,h⟩
def PuAt (P:Program) (f:Nat) (args:List AV) (H:Heap) (v:AV):Prop:=∀K:AV→Heap→Prop,K v H→CallT P f args H K
theorem Pu.at {P:Program} {f:Nat} {args:List AV} {v:AV} (h:Pu P f args v) (H:Heap):PuAt P f args H v:=fun K hk=>h.use hk
theorem PuAt.use {P:Program} {f:Nat} {args:List AV} {v:AV} {H:Heap} (h:PuAt P f args H v) {K:AV→Heap→Prop} (k:K v H):CallT P f args H K:=h K k
def enumP:Nat→List PV→List (Nat×AV)
  | _,[]=>[]
  | k,v::vs=>(k,.p v)::enumP (k+1) vs
theorem fill_enum:∀(vs:List PV) (k:Nat) (a:List AV) (b:List AV),a.length=k→vs.length≤b.length→
    fillV (fun i=>some (i*1,1)) (a++b) (enumP k vs)=some (a++vs.map .p++b.drop vs.length)
  | [],k,a,b,h1,h2=>by simp [enumP,fillV]
  | v::vs,k,a,b,h1,h2=>by
    match b,h2 with
    | x::b,h2=>
      have hb:vs.length≤b.length:=by simpa using h2
      have ih:=fill_enum vs (k+1) (a++[.p v]) b (by simp [h1]) hb
      simp only [enumP,fillV,AV.cells,List.length_cons,List.length_nil,Nat.zero_add,Nat.mul_one]
      rw [if_pos ⟨trivial,by simp [h1]⟩]
      have hs:splice (a++x::b) k [AV.p v]=(a++[AV.p v])++b:=by
        subst h1
        simp [splice,List.append_assoc,List.drop_append]
      rw [hs]
      simp only [Nat.mul_one] at ih
      rw [ih]
      simp
theorem lit_gen {tab:Tab} {t e:Nat} {d ed:TD} {H:Heap} {K:AV→Heap→Prop} (h1:tab t=some d) (h2:d.k=.slice e) (h3:tab e=some ed) (h4:ed.size=1∧ed.zero.length=1) (vs:List PV)
    (hsm:vs.length≤1000)
    (h:K (.p (.sl (vs.map fun v=>[v]))) H):buildSliceV tab t vs.length (enumP 0 vs) H (wkK K):=by
  obtain ⟨z,hz⟩:∃z,ed.zero=[z]:=by
    match ed.zero,h4.2 with
    | [z],_=>exact ⟨z,rfl⟩
  simp only [buildSliceV,h1,h2,h3,h4.1]
  refine ⟨by omega,?_⟩
  have hzl:(zerosA vs.length ed.zero).length=vs.length:=by rw [zerosA_len,hz];simp
  have:=fill_enum vs 0 [] (zerosA vs.length ed.zero) rfl (by omega)
  rw [List.nil_append,List.nil_append,List.drop_of_length_le (by omega),List.append_nil] at this
  rw [this]
  intro r hr
  have hf:∀vs:List PV,(vs.map fun v=>[v]).flatten=vs:=by
    intro vs
    induction vs with
    | nil=>rfl
    | cons v vs ih=>simp only [List.map_cons,List.flatten_cons,ih,List.singleton_append]
  refine ⟨_,_,Wk.trans (Wk.frz (r:=r) (sz:=1) (es:=vs.map fun v=>[v]) (v:=.sl r 1 0 vs.length) (v':=.p (.sl (vs.map fun v=>[v]))) (by omega) ?_ ?_ ?_) (.forget ?_),h⟩
  · rw [Heap.set_same,hf vs]
  · intro e he;obtain ⟨v,_,rfl⟩:=List.mem_map.1 he;rfl
  · have:FrzR r 1 (vs.map fun v=>[v]) (.sl r 1 0 (vs.map fun v=>[v]).length) (.p (.sl (vs.map fun v=>[v]))):=.here
    rwa [List.length_map] at this
  · rw [Heap.del_set hr];exact Heap.le_refl _
theorem lit3 {tab:Tab} {t e:Nat} {d ed:TD} {a b c:PV} {H:Heap} {K:AV→Heap→Prop} (h1:tab t=some d) (h2:d.k=.slice e) (h3:tab e=some ed) (h4:ed.size=1∧ed.zero.length=1)
    (h:K (.p (.sl [[a],[b],[c]])) H):buildSliceV tab t 3 [(0,.p a),(1,.p b),(2,.p c)] H (wkK K):=lit_gen h1 h2 h3 h4 [a,b,c] (by simp) h
end Go.Proofs.YtolffbcnbcjeaaaGreat
namespace Go.Proofs.YtolffbcnbcjeaaaGreat
open Go Go.Sep
attribute [local irreducible] CallT
theorem l1In_spec (a lo hi:Int):Pu Tryz.prog 63 [I a,I lo,I hi] (B (decide (lo≤a) && decide (a≤hi))):=by
  refine Pu.of fun H=>?_
  refine W63_ok ?_;simp (maxSteps:=1000000) (disch:=first | assumption | (apply ν6;assumption)) only [W63,vz,vu,vv,eqS,eF_,↓c1_,↓c2_,tabs,reduceCtorEq,ι5,↓reduceIte,ν1,ν2,ν3,ν4,ν5,ι1,ι2,ι3,ι4]
  exact ⟨fun h=>by simp [h],fun h=>by simp [h]⟩
end Go.Proofs.YtolffbcnbcjeaaaGreat
namespace Go.Proofs.YtolffbcnbcjeaaaGreat
open Go Go.Sep
def rowZ {α:Type} (e:α→List PV) (zero:List AV) (xs:List α) (i:Nat):List AV:=cells ((xs.take i).map e)++zerosA (xs.length - i) zero
theorem rowZ_zero {α:Type} {e:α→List PV} {zero:List AV} {xs:List α}:rowZ e zero xs 0=zerosA xs.length zero:=by simp [rowZ,cells]
theorem rowZ_end {α:Type} {e:α→List PV} {zero:List AV} {xs:List α}:rowZ e zero xs xs.length=cells (xs.map e):=by
  simp [rowZ,zerosA]
theorem cells_map_len {α:Type} {e:α→List PV} {sz:Nat} (h:∀a,(e a).length=sz) (xs:List α):(cells (xs.map e)).length=xs.length*sz:=by
  rw [cells_len (sized_map h xs),List.length_map]
theorem rowZ_len {α:Type} {e:α→List PV} {zero:List AV} {xs:List α} {i sz:Nat} (h:∀a,(e a).length=sz) (hz:zero.length=sz) (hi:i≤xs.length):(rowZ e zero xs i).length=xs.length*sz:=by
  rw [rowZ,List.length_append,cells_map_len h,zerosA_len,hz,List.length_take,Nat.min_eq_left hi,← Nat.add_mul]
  congr 1;omega
theorem zerosA_succ (n:Nat) (z:List AV):zerosA (n+1) z=z++zerosA n z:=by simp [zerosA,List.replicate_succ]
theorem rowZ_put {α:Type} [Inhabited α] {e:α→List PV} {zero:List AV} {xs:List α} {i sz:Nat} (h:∀a,(e a).length=sz) (hz:zero.length=sz) (hi:i < xs.length) {off:Nat} (ho:off=i*sz) {n:Nat} (hn:n=sz) :
    List.take off (rowZ e zero xs i)++(e (xs.getD i default)).map .p++List.drop (off+n) (rowZ e zero xs i)=rowZ e zero xs (i+1):=by
  subst ho;subst hn
  have hl:(cells ((xs.take i).map e)).length=i*n:=by rw [cells_map_len h,List.length_take,Nat.min_eq_left (Nat.le_of_lt hi)]
  have e1:List.take (i*n) (rowZ e zero xs i)=cells ((xs.take i).map e):=by
    rw [rowZ,List.take_append_of_le_length (by omega),List.take_of_length_le (by omega)]
  have e2:List.drop (i*n+n) (rowZ e zero xs i)=zerosA (xs.length - (i+1)) zero:=by
    rw [rowZ,List.drop_append,List.drop_of_length_le (by omega),List.nil_append,hl,Nat.add_sub_cancel_left]
    obtain ⟨m,hm⟩:∃m,xs.length - i=m+1:=⟨xs.length - i - 1,by omega⟩
    rw [hm,zerosA_succ,List.drop_append_of_le_length (by omega),List.drop_of_length_le (by omega),List.nil_append]
    congr 1;omega
  rw [e1,e2,rowZ]
  congr 1
  rw [List.take_succ_eq_append_getElem hi,List.map_append,cells_app]
  congr 1
  simp [cells,List.getD,hi]
end Go.Proofs.YtolffbcnbcjeaaaGreat
namespace Go.Pt
structure Nd where
  op:Int
  n:Int
deriving Inhabited,DecidableEq
structure Ch where
  var:Int
  by_:List Nd
deriving Inhabited,DecidableEq
structure Cm where
  when_:List Nd
  chs:List Ch
deriving Inhabited,DecidableEq
structure Pg where
  wide:Int
  vars:Int
  start:List Nd
  cmds:List Cm
deriving Inhabited,DecidableEq
def inB (n lo hi:Int):Bool:=decide (lo≤n) && decide (n≤hi)
theorem inB_iff {n lo hi:Int}:inB n lo hi=true↔lo≤n∧n≤hi:=by simp [inB]
def own (op:Int):Int:=
  if op=1∨op=2∨op=13∨(3≤op∧op≤12) then 1
  else if op=20∨op=19∨(14≤op∧op≤16)∨op=17∨op=18 then 2 else 0
def many (op:Int):Nat:=
  if op=13∨op=19 then 1 else if (3≤op∧op≤12)∨(14≤op∧op≤16)∨op=17∨op=18 then 2 else 0
def part (op:Int):Int:=
  if op=13∨(3≤op∧op≤12)∨(14≤op∧op≤16) then 1 else 2
def leafOk (wide vars:Int) (x:Nd):Bool:=
  if x.op=1 then inB wide 1 64 && decide (x.n < 2^wide.toNat)
  else if x.op=2 then decide (x.n < vars)
  else if x.op=20 then decide (x.n≤1)
  else decide (x.n=0)
def step (w v:Int) (p:List Int) (x:Nd):Option (List Int):=
  if own x.op=0∨leafOk w v x=false∨p.length < many x.op then none
  else if (p.drop (p.length - many x.op)).any (fun k=>decide (k≠part x.op)) then none
  else some (p.take (p.length - many x.op)++[own x.op])
def run (w v:Int):List Int→List Nd→Option (List Int)
  | p,[]=>some p
  | p,x::xs=>(step w v p x).bind fun p'=>run w v p' xs
def frame (w v:Int) (t:List Nd):Bool:=inB w 1 64 && inB v 1 4 && (decide (1≤t.length) && decide (t.length≤48))
def kind (w v:Int) (t:List Nd):Int:=
  if frame w v t then (match run w v [] t with
    | some [k]=>k
    | _=>0) else 0
theorem take_succ_snoc {α:Type} [Inhabited α] {xs:List α} {i:Nat} (h:i < xs.length):xs.take (i+1)=xs.take i++[xs.getD i default]:=by
  rw [List.take_succ_eq_append_getElem h];simp [List.getD,h]
end Go.Pt
namespace Go.Proofs.YtolffbcnbcjeaaaGreat
open Go Go.Sep Go.Pt
attribute [local irreducible] CallT
abbrev eN (x:Nd):List PV:=[.int .i64 x.op,.int .u64 x.n]
abbrev Ns (xs:List Nd):AV:=.p (.sl (xs.map eN))
abbrev eCh (c:Ch):List PV:=[.int .i64 c.var,.sl (c.by_.map eN)]
abbrev eCm (c:Cm):List PV:=[.sl (c.when_.map eN),.sl (c.chs.map eCh)]
abbrev Cms (cs:List Cm):AV:=.p (.sl (cs.map eCm))
abbrev aPg (p:Pg):AV:=.agg [I p.wide,I p.vars,Ns p.start,Cms p.cmds]
abbrev aS (of:List Int):AV:=.agg [Is of]
def ok (n:Nat):Prop:=n≤9223372036854775807
def psum {α:Type} (f:α→Nat) (xs:List α) (i:Nat):Nat:=((xs.take i).map f).sum
theorem psum_succ {α:Type} [Inhabited α] {f:α→Nat} {xs:List α} {i:Nat} (h:i < xs.length):psum f xs (i+1)=psum f xs i+f (xs.getD i default):=by
  rw [psum,take_succ_snoc h,List.map_append,List.sum_append];simp [psum]
theorem psum_le {α:Type} {f:α→Nat} {xs:List α} (i:Nat):psum f xs i≤psum f xs xs.length:=by
  rw [psum,psum,List.take_length]
  conv=>rhs;rw [← List.take_append_drop i xs]
  rw [List.map_append,List.sum_append];omega
def szR (left:Int) (n:Nat):Int:=if (n:Int)≤left then left - n else -1
theorem szR_neg {left:Int} {n:Nat} (h:left < n):szR left n=-1:=by rw [szR,if_neg (by omega)]
theorem szR_pos {left:Int} {n:Nat} (h:(n:Int)≤left):szR left n=left - n:=by rw [szR,if_pos h]
theorem szIntS_spec (t:List Int) (left:Int) (h0:0≤left) (h1:left≤1048576) (hl:ok t.length):Pu Tryz.prog 26 [Is t,I left] (I (szR left t.length)):=by
  refine Pu.of fun H=>?_
  unfold ok at hl
  have e:IntKind.i64.wrap (left - t.length)=left - t.length:=i64_id (by omega) (by omega)
  refine W26_ok ?_;simp (maxSteps:=1000000) (disch:=first | assumption | (apply ν6;assumption)) only [W26,vz,vu,vv,eqS,eF_,↓c1_,↓c2_,tabs,reduceCtorEq,ι5,↓reduceIte,ν1,ν2,ν3,ν4,ν5,ι1,ι2,ι3,ι4,e]
  refine ⟨fun h=>by rw [szR_neg (by omega)],fun h=>by rw [szR_pos (by omega)]⟩
end Go.Proofs.YtolffbcnbcjeaaaGreat
namespace Go.Proofs.YtolffbcnbcjeaaaGreat
open Go Go.Sep Go.Pt
attribute [local irreducible] CallT
theorem psum_mem {α:Type} {f:α→Nat} {xs:List α} {x:α} (h:x∈xs):f x≤psum f xs xs.length:=by
  rw [psum,List.take_length]
  induction xs with
  | nil=>cases h
  | cons y ys ih=>
    simp only [List.map_cons,List.sum_cons]
    rcases List.mem_cons.1 h with rfl | h
    · omega
    · have:=ih h;omega
theorem toIntS_spec (xs:List Int) (hl:xs.length≤1048576):Pu Tryz.prog 35 [Is xs] (Is xs):=by
  refine ⟨fun H=>CallT.fin ?_⟩
  refine W35_ok ?_;simp (maxSteps:=1000000) (disch:=first | assumption | (apply ν6;assumption)) only [W35,vz,vu,vv,eqS,eF_,↓c1_,↓c2_,tabs,reduceCtorEq,ι5,↓reduceIte,ν1,ν2,ν3,ν4,ν5,ι1,ι2,ι3,ι4,makeSliceV]
  refine ⟨by omega,by omega,by omega,by omega,fun q hq=>?_⟩
  have z0:rowZ eI [I 0] xs 0=zerosA xs.length [I 0]:=rowZ_zero
  rw [← z0]
  refine L35_0_rule (0:Nat) (fun i=>I i) (fun i=>H.set q (rowZ eI [I 0] xs i)) (fun i=>i≤xs.length) (fun i=>xs.length - i) ⟨by omega,.refl _,Heap.le_refl _⟩ ?_
  intro i hi
  have hrl:=rowZ_len (e:=eI) (zero:=[I 0]) (xs:=xs) (i:=i) (sz:=1) (fun _=>rfl) rfl hi
  (try simp (maxSteps:=1000000) (disch:=first | assumption | (apply ν6;assumption)) only [vz,vu,vv,eqS,eF_,↓c1_,↓c2_,tabs,reduceCtorEq,ι5,↓reduceIte,ν1,ν2,ν3,ν4,ν5,ι1,ι2,ι3,ι4,B35_0])
  refine ⟨fun h=>⟨by omega,h,?_⟩,fun h=>?_⟩
  · have hlt:i < xs.length:=by omega
    have hput:=rowZ_put (e:=eI) (zero:=[I 0]) (xs:=xs) (i:=i) (sz:=1) (fun _=>rfl) rfl hlt rfl rfl
    (try simp (maxSteps:=1000000) (disch:=first | assumption | (apply ν6;assumption)) only [vz,vu,vv,eqS,eF_,↓c1_,↓c2_,tabs,reduceCtorEq,ι5,↓reduceIte,ν1,ν2,ν3,ν4,ν5,ι1,ι2,ι3,ι4])
    refine ⟨by omega,h,by omega,i+1,by omega,by omega,?_,?_⟩
    · rw [wk_int,i64_id (by omega) (by omega)];simp
    · rw [← hput];exact Heap.le_refl _
  · have:i=xs.length:=by omega
    subst this
    have:=fin_own (sz:=1) (es:=xs.map eI) (q:=q) (H:=H) (H':=H.set q (rowZ eI [I 0] xs xs.length)) (K:=fun r H'=>r=Is xs∧H'=H) (by omega) (sized_map (f:=eI) (fun _=>rfl) xs) hq (by rw [rowZ_end];exact Heap.le_refl _) ⟨rfl,rfl⟩
    simpa only [Go.Sep.own,List.length_map] using this
theorem eqIntS_spec (xs:List Int) (hl:xs.length≤1048576):Pu Tryz.prog 44 [Is xs,Is xs] (B true):=by
  refine Pu.of fun H=>?_
  refine W44_ok ?_;simp (maxSteps:=1000000) (disch:=first | assumption | (apply ν6;assumption)) only [W44,vz,vu,vv,eqS,eF_,↓c1_,↓c2_,tabs,reduceCtorEq,ι5,↓reduceIte,ν1,ν2,ν3,ν4,ν5,ι1,ι2,ι3,ι4]
  refine L44_0_rule (0:Nat) (fun i=>I i) (fun _=>H) (fun i=>i≤xs.length) (fun i=>xs.length - i) ⟨by omega,.refl _,Heap.le_refl _⟩ ?_
  intro i hi
  (try simp (maxSteps:=1000000) (disch:=first | assumption | (apply ν6;assumption)) only [vz,vu,vv,eqS,eF_,↓c1_,↓c2_,tabs,reduceCtorEq,ι5,↓reduceIte,ν1,ν2,ν3,ν4,ν5,ι1,ι2,ι3,ι4,B44_0])
  intro h
  have hlt:i < xs.length:=by omega
  refine ⟨by omega,h,by omega,h,?_⟩
  (try simp (maxSteps:=1000000) (disch:=first | assumption | (apply ν6;assumption)) only [vz,vu,vv,eqS,eF_,↓c1_,↓c2_,tabs,reduceCtorEq,ι5,↓reduceIte,ν1,ν2,ν3,ν4,ν5,ι1,ι2,ι3,ι4])
  refine ⟨i+1,by omega,by omega,?_⟩
  rw [wk_int,i64_id (by omega) (by omega)];simp
end Go.Proofs.YtolffbcnbcjeaaaGreat
namespace Go.Pt
structure Ed where
  src:Int
  lt:Int
  dst:Int
deriving Inhabited
structure Au where
  states:Int
  first:List Int
  edges:List Ed
  goals:List (List Int)
deriving Inhabited
def riseAt (l:List Int) (n:Int) (i:Nat):Bool:=(decide (0≤l.getD i default) && decide (l.getD i default < n)) && (decide (i=0) || decide (l.getD (i - 1) default < l.getD i default))
def rising (l:List Int) (n:Int):Bool:=(List.range l.length).all (riseAt l n)
def edLt (a b:Ed):Bool:=if a.src=b.src then (if a.lt=b.lt then decide (a.dst < b.dst) else decide (a.lt < b.lt)) else decide (a.src < b.src)
def edIn (n:Int) (e:Ed):Bool:=(decide (0≤e.src) && decide (e.src < n)) && ((decide (0≤e.dst) && decide (e.dst < n)) && (decide (0≤e.lt) && decide (e.lt < 8)))
def edAt (n:Int) (es:List Ed) (i:Nat):Bool:=edIn n (es.getD i default) && (decide (i=0) || edLt (es.getD (i - 1) default) (es.getD i default))
def edsOk (n:Int) (es:List Ed):Bool:=(List.range es.length).all (edAt n es)
def goodA (a:Au):Bool:=(decide (1≤a.states) && decide (a.states≤96)) && (rising a.first a.states && (decide (a.edges.length≤2400) && ((decide (a.goals.length≤6) && a.goals.all (fun g=>rising g a.states)) && edsOk a.states a.edges)))
end Go.Pt
namespace Go.Proofs.YtolffbcnbcjeaaaGreat
open Go Go.Sep Go.Pt
attribute [local irreducible] CallT
abbrev eE (x:Ed):List PV:=[.int .i64 x.src,.int .i64 x.lt,.int .i64 x.dst]
abbrev aE (x:Ed):AV:=.agg [I x.src,I x.lt,I x.dst]
abbrev Es (xs:List Ed):AV:=.p (.sl (xs.map eE))
abbrev aAu (a:Au):AV:=.agg [I a.states,Is a.first,Es a.edges,Ls a.goals]
def okLs (cs:List (List Int)):Prop:=ok cs.length∧∀c∈cs,ok c.length
def okAu (a:Au):Prop:=ok a.first.length∧ok a.edges.length∧okLs a.goals
def totL (l:List Int):Nat:=l.length
def totLs (cs:List (List Int)):Nat:=cs.length+psum totL cs cs.length
def totAu (a:Au):Nat:=a.first.length+a.edges.length+totLs a.goals
def smLs (cs:List (List Int)):Prop:=cs.length≤1048576∧∀c∈cs,c.length≤1048576
def smAu (a:Au):Prop:=a.first.length≤1048576∧a.edges.length≤1048576∧smLs a.goals
theorem smAu_of {a:Au} (h:(totAu a:Int)≤1048576):smAu a:=by
  unfold totAu totLs at h
  refine ⟨by omega,by omega,by omega,fun c hc=>?_⟩
  have:=psum_mem (f:=totL) hc
  unfold totL at *
  omega
theorem szEdgeS_spec (t:List Ed) (left:Int) (h0:0≤left) (h1:left≤1048576) (hl:ok t.length):Pu Tryz.prog 27 [Es t,I left] (I (szR left t.length)):=by
  refine Pu.of fun H=>?_
  unfold ok at hl
  have e:IntKind.i64.wrap (left - t.length)=left - t.length:=i64_id (by omega) (by omega)
  refine W27_ok ?_;simp (maxSteps:=1000000) (disch:=first | assumption | (apply ν6;assumption)) only [W27,vz,vu,vv,eqS,eF_,↓c1_,↓c2_,tabs,reduceCtorEq,ι5,↓reduceIte,ν1,ν2,ν3,ν4,ν5,ι1,ι2,ι3,ι4,e]
  refine ⟨fun h=>by rw [szR_neg (by omega)],fun h=>by rw [szR_pos (by omega)]⟩
theorem szIntSS_spec (cs:List (List Int)) (left:Int) (h0:0≤left) (h1:left≤1048576) (hl:okLs cs):Pu Tryz.prog 28 [Ls cs,I left] (I (szR left (totLs cs))):=by
  refine Pu.of fun H=>?_
  have hl1:=hl.1
  unfold ok at hl1
  have e:IntKind.i64.wrap (left - cs.length)=left - cs.length:=i64_id (by omega) (by omega)
  refine W28_ok ?_;simp (maxSteps:=1000000) (disch:=first | assumption | (apply ν6;assumption)) only [W28,vz,vu,vv,eqS,eF_,↓c1_,↓c2_,tabs,reduceCtorEq,ι5,↓reduceIte,ν1,ν2,ν3,ν4,ν5,ι1,ι2,ι3,ι4,e]
  refine ⟨fun h=>by rw [szR_neg (by unfold totLs;omega)],fun h=>?_⟩
  refine L28_0_rule (0:Nat) (fun i=>I (left - cs.length - psum totL cs i)) (fun i=>I i) (fun _=>H) (fun i=>i≤cs.length∧(cs.length:Int)+psum totL cs i≤left) (fun i=>cs.length - i) ⟨⟨by omega,by simp [psum];omega⟩,?_,.refl _,Heap.le_refl _⟩ ?_
  · rw [wk_int];simp [psum]
  rintro i ⟨hi,hs⟩
  (try simp (maxSteps:=1000000) (disch:=first | assumption | (apply ν6;assumption)) only [vz,vu,vv,eqS,eF_,↓c1_,↓c2_,tabs,reduceCtorEq,ι5,↓reduceIte,ν1,ν2,ν3,ν4,ν5,ι1,ι2,ι3,ι4,B28_0])
  refine ⟨fun h2=>⟨by omega,h2,?_⟩,fun h2=>?_⟩
  · have hlt:i < cs.length:=by omega
    have hm:cs.getD i default∈cs:=getD_all (p:=fun x=>x∈cs) (fun _ h=>h) hlt
    refine Pu.use (szIntS_spec (cs.getD i default) _ (by omega) (by omega) (hl.2 _ hm)) ?_
    have hsucc:=psum_succ (f:=totL) hlt
    have hle:=psum_le (f:=totL) (xs:=cs) (i+1)
    have et:totL (cs.getD i default)=(cs.getD i default).length:=rfl
    rw [et] at hsucc
    (try simp (maxSteps:=1000000) (disch:=first | assumption | (apply ν6;assumption)) only [vz,vu,vv,eqS,eF_,↓c1_,↓c2_,tabs,reduceCtorEq,ι5,↓reduceIte,ν1,ν2,ν3,ν4,ν5,ι1,ι2,ι3,ι4])
    refine ⟨fun h3=>?_,fun h3=>⟨i+1,⟨by omega,?_⟩,by omega,?_,?_⟩⟩
    · rw [szR_neg]
      unfold szR at h3
      unfold totLs
      split at h3<;>omega
    · unfold szR at h3
      split at h3<;>omega
    · rw [wk_int]
      unfold szR at h3 ⊢
      split at h3
      · rename_i h4;rw [if_pos h4];omega
      · omega
    · rw [wk_int,i64_id (by omega) (by omega)];simp
  · have:i=cs.length:=by omega
    subst this
    rw [szR_pos (by unfold totLs;omega)]
    unfold totLs
    exact congrArg (fun n:Int=>I n) (by omega)
theorem szAuto_spec (a:Au) (left:Int) (h0:0≤left) (h1:left≤1048576) (hl:okAu a):Pu Tryz.prog 7 [aAu a,I left] (I (szR left (totAu a))):=by
  refine Pu.of fun H=>?_
  refine W7_ok ?_;simp (maxSteps:=1000000) (disch:=first | assumption | (apply ν6;assumption)) only [W7,vz,vu,vv,eqS,eF_,↓c1_,↓c2_,tabs,reduceCtorEq,ι5,↓reduceIte,ν1,ν2,ν3,ν4,ν5,ι1,ι2,ι3,ι4]
  intro r hr
  refine Pu.use (szIntS_spec a.first left h0 h1 hl.1) ?_
  (try simp (maxSteps:=1000000) (disch:=first | assumption | (apply ν6;assumption)) only [vz,vu,vv,eqS,eF_,↓c1_,↓c2_,tabs,reduceCtorEq,ι5,↓reduceIte,ν1,ν2,ν3,ν4,ν5,ι1,ι2,ι3,ι4])
  refine ⟨fun h=>⟨?_,Heap.le_set hr⟩,fun h=>?_⟩
  · unfold szR at h
    rw [szR_neg]
    unfold totAu
    split at h<;>omega
  have e1:szR left a.first.length=left - a.first.length:=by
    unfold szR at h ⊢
    split at h
    · rename_i h2;rw [if_pos h2]
    · omega
  rw [e1] at h ⊢
  refine Pu.use (szEdgeS_spec a.edges _ (by omega) (by omega) hl.2.1) ?_
  (try simp (maxSteps:=1000000) (disch:=first | assumption | (apply ν6;assumption)) only [vz,vu,vv,eqS,eF_,↓c1_,↓c2_,tabs,reduceCtorEq,ι5,↓reduceIte,ν1,ν2,ν3,ν4,ν5,ι1,ι2,ι3,ι4])
  refine ⟨fun h3=>⟨?_,Heap.le_set hr⟩,fun h3=>?_⟩
  · unfold szR at h3
    rw [szR_neg]
    unfold totAu
    split at h3<;>omega
  have e2:szR (left - a.first.length) a.edges.length=left - a.first.length - a.edges.length:=by
    unfold szR at h3 ⊢
    split at h3
    · rename_i h2;rw [if_pos h2]
    · omega
  rw [e2] at h3 ⊢
  refine Pu.use (szIntSS_spec a.goals _ (by omega) (by omega) hl.2.2) ?_
  (try simp (maxSteps:=1000000) (disch:=first | assumption | (apply ν6;assumption)) only [vz,vu,vv,eqS,eF_,↓c1_,↓c2_,tabs,reduceCtorEq,ι5,↓reduceIte,ν1,ν2,ν3,ν4,ν5,ι1,ι2,ι3,ι4])
  refine ⟨fun h4=>⟨?_,Heap.le_set hr⟩,fun h4=>⟨?_,Heap.le_set hr⟩⟩
  · unfold szR at h4
    rw [szR_neg]
    unfold totAu
    split at h4<;>omega
  · unfold szR at h4 ⊢
    unfold totAu
    split at h4
    · rename_i h2;rw [if_pos h2,if_pos (by omega)]
      exact congrArg (fun n:Int=>I n) (by omega)
    · omega
theorem toEdge_spec (c:Ed):Pu Tryz.prog 74 [aE c] (aE c):=by
  refine Pu.of fun H=>?_
  refine W74_ok ?_;simp (maxSteps:=1000000) (disch:=first | assumption | (apply ν6;assumption)) only [W74,vz,vu,vv,eqS,eF_,↓c1_,↓c2_,tabs,reduceCtorEq,ι5,↓reduceIte,ν1,ν2,ν3,ν4,ν5,ι1,ι2,ι3,ι4]
  intro r hr r2 n1 h2 r3 n2 n3 h3
  (try simp (maxSteps:=1000000) (disch:=first | assumption | (apply ν6;assumption)) only [vz,vu,vv,eqS,eF_,↓c1_,↓c2_,tabs,reduceCtorEq,ι5,↓reduceIte,ν1,ν2,ν3,ν4,ν5,ι1,ι2,ι3,ι4])
  (repeat first | exact Heap.le_refl _ | refine Heap.le_setN ?_ (by assumption))
theorem toEdgeS_spec (xs:List Ed) (hl:xs.length≤1048576):Pu Tryz.prog 36 [Es xs] (Es xs):=by
  refine ⟨fun H=>CallT.fin ?_⟩
  refine W36_ok ?_;simp (maxSteps:=1000000) (disch:=first | assumption | (apply ν6;assumption)) only [W36,vz,vu,vv,eqS,eF_,↓c1_,↓c2_,tabs,reduceCtorEq,ι5,↓reduceIte,ν1,ν2,ν3,ν4,ν5,ι1,ι2,ι3,ι4,makeSliceV]
  refine ⟨by omega,by omega,by omega,by omega,fun q hq=>?_⟩
  have z0:rowZ eE [I 0,I 0,I 0] xs 0=zerosA xs.length [I 0,I 0,I 0]:=rowZ_zero
  rw [← z0]
  refine L36_0_rule (0:Nat) (fun i=>I i) (fun i=>H.set q (rowZ eE [I 0,I 0,I 0] xs i)) (fun i=>i≤xs.length) (fun i=>xs.length - i) ⟨by omega,.refl _,Heap.le_refl _⟩ ?_
  intro i hi
  have hrl:=rowZ_len (e:=eE) (zero:=[I 0,I 0,I 0]) (xs:=xs) (i:=i) (sz:=3) (fun _=>rfl) rfl hi
  (try simp (maxSteps:=1000000) (disch:=first | assumption | (apply ν6;assumption)) only [vz,vu,vv,eqS,eF_,↓c1_,↓c2_,tabs,reduceCtorEq,ι5,↓reduceIte,ν1,ν2,ν3,ν4,ν5,ι1,ι2,ι3,ι4,B36_0])
  refine ⟨fun h=>⟨by omega,h,?_⟩,fun h=>?_⟩
  · have hlt:i < xs.length:=by omega
    have hput:=rowZ_put (e:=eE) (zero:=[I 0,I 0,I 0]) (xs:=xs) (i:=i) (sz:=3) (fun _=>rfl) rfl hlt rfl rfl
    refine Pu.use (toEdge_spec (xs.getD i default)) ?_
    (try simp (maxSteps:=1000000) (disch:=first | assumption | (apply ν6;assumption)) only [vz,vu,vv,eqS,eF_,↓c1_,↓c2_,tabs,reduceCtorEq,ι5,↓reduceIte,ν1,ν2,ν3,ν4,ν5,ι1,ι2,ι3,ι4])
    refine ⟨by omega,h,by omega,i+1,by omega,by omega,?_,?_⟩
    · rw [wk_int,i64_id (by omega) (by omega)];simp
    · rw [← hput];exact Heap.le_refl _
  · have:i=xs.length:=by omega
    subst this
    have:=fin_own (sz:=3) (es:=xs.map eE) (q:=q) (H:=H) (H':=H.set q (rowZ eE [I 0,I 0,I 0] xs xs.length)) (K:=fun r H'=>r=Es xs∧H'=H) (by omega) (sized_map (f:=eE) (fun _=>rfl) xs) hq (by rw [rowZ_end];exact Heap.le_refl _) ⟨rfl,rfl⟩
    simpa only [Go.Sep.own,List.length_map] using this
theorem toIntSS_spec (xs:List (List Int)) (hs:smLs xs):Pu Tryz.prog 37 [Ls xs] (Ls xs):=by
  have hl:=hs.1
  refine ⟨fun H=>CallT.fin ?_⟩
  refine W37_ok ?_;simp (maxSteps:=1000000) (disch:=first | assumption | (apply ν6;assumption)) only [W37,vz,vu,vv,eqS,eF_,↓c1_,↓c2_,tabs,reduceCtorEq,ι5,↓reduceIte,ν1,ν2,ν3,ν4,ν5,ι1,ι2,ι3,ι4,makeSliceV]
  refine ⟨by omega,by omega,by omega,by omega,fun q hq=>?_⟩
  have z0:rowZ eL [.p .nil] xs 0=zerosA xs.length [.p .nil]:=rowZ_zero
  rw [← z0]
  refine L37_0_rule (0:Nat) (fun i=>I i) (fun i=>H.set q (rowZ eL [.p .nil] xs i)) (fun i=>i≤xs.length) (fun i=>xs.length - i) ⟨by omega,.refl _,Heap.le_refl _⟩ ?_
  intro i hi
  have hrl:=rowZ_len (e:=eL) (zero:=[.p .nil]) (xs:=xs) (i:=i) (sz:=1) (fun _=>rfl) rfl hi
  (try simp (maxSteps:=1000000) (disch:=first | assumption | (apply ν6;assumption)) only [vz,vu,vv,eqS,eF_,↓c1_,↓c2_,tabs,reduceCtorEq,ι5,↓reduceIte,ν1,ν2,ν3,ν4,ν5,ι1,ι2,ι3,ι4,B37_0])
  refine ⟨fun h=>⟨by omega,h,?_⟩,fun h=>?_⟩
  · have hlt:i < xs.length:=by omega
    have hput:=rowZ_put (e:=eL) (zero:=[.p .nil]) (xs:=xs) (i:=i) (sz:=1) (fun _=>rfl) rfl hlt rfl rfl
    have hm:xs.getD i default∈xs:=getD_all (p:=fun x=>x∈xs) (fun _ h=>h) hlt
    refine Pu.use (toIntS_spec (xs.getD i default) (hs.2 _ hm)) ?_
    (try simp (maxSteps:=1000000) (disch:=first | assumption | (apply ν6;assumption)) only [vz,vu,vv,eqS,eF_,↓c1_,↓c2_,tabs,reduceCtorEq,ι5,↓reduceIte,ν1,ν2,ν3,ν4,ν5,ι1,ι2,ι3,ι4])
    refine ⟨by omega,h,by omega,i+1,by omega,by omega,?_,?_⟩
    · rw [wk_int,i64_id (by omega) (by omega)];simp
    · rw [← hput];exact Heap.le_refl _
  · have:i=xs.length:=by omega
    subst this
    have:=fin_own (sz:=1) (es:=xs.map eL) (q:=q) (H:=H) (H':=H.set q (rowZ eL [.p .nil] xs xs.length)) (K:=fun r H'=>r=Ls xs∧H'=H) (by omega) (sized_map (f:=eL) (fun _=>rfl) xs) hq (by rw [rowZ_end];exact Heap.le_refl _) ⟨rfl,rfl⟩
    simpa only [Go.Sep.own,List.length_map] using this
theorem toAuto_spec (c:Au) (h:smAu c):Pu Tryz.prog 9 [aAu c] (aAu c):=by
  refine Pu.of fun H=>?_
  refine W9_ok ?_;simp (maxSteps:=1000000) (disch:=first | assumption | (apply ν6;assumption)) only [W9,vz,vu,vv,eqS,eF_,↓c1_,↓c2_,tabs,reduceCtorEq,ι5,↓reduceIte,ν1,ν2,ν3,ν4,ν5,ι1,ι2,ι3,ι4]
  intro r hr r2 n1 h2 r3 n2 n3 h3
  (try simp (maxSteps:=1000000) (disch:=first | assumption | (apply ν6;assumption)) only [vz,vu,vv,eqS,eF_,↓c1_,↓c2_,tabs,reduceCtorEq,ι5,↓reduceIte,ν1,ν2,ν3,ν4,ν5,ι1,ι2,ι3,ι4])
  refine Pu.use (toIntS_spec c.first h.1) ?_
  (try simp (maxSteps:=1000000) (disch:=first | assumption | (apply ν6;assumption)) only [vz,vu,vv,eqS,eF_,↓c1_,↓c2_,tabs,reduceCtorEq,ι5,↓reduceIte,ν1,ν2,ν3,ν4,ν5,ι1,ι2,ι3,ι4])
  refine Pu.use (toEdgeS_spec c.edges h.2.1) ?_
  (try simp (maxSteps:=1000000) (disch:=first | assumption | (apply ν6;assumption)) only [vz,vu,vv,eqS,eF_,↓c1_,↓c2_,tabs,reduceCtorEq,ι5,↓reduceIte,ν1,ν2,ν3,ν4,ν5,ι1,ι2,ι3,ι4])
  refine Pu.use (toIntSS_spec c.goals h.2.2) ?_
  (try simp (maxSteps:=1000000) (disch:=first | assumption | (apply ν6;assumption)) only [vz,vu,vv,eqS,eF_,↓c1_,↓c2_,tabs,reduceCtorEq,ι5,↓reduceIte,ν1,ν2,ν3,ν4,ν5,ι1,ι2,ι3,ι4])
  (repeat first | exact Heap.le_refl _ | refine Heap.le_setN ?_ (by assumption))
theorem eqEdge_spec (c:Ed):Pu Tryz.prog 90 [aE c,aE c] (B true):=by
  refine Pu.of fun H=>?_
  refine W90_ok ?_;simp (maxSteps:=1000000) (disch:=first | assumption | (apply ν6;assumption)) only [W90,vz,vu,vv,eqS,eF_,↓c1_,↓c2_,tabs,reduceCtorEq,ι5,↓reduceIte,ν1,ν2,ν3,ν4,ν5,ι1,ι2,ι3,ι4]
  intro r hr r2 n1 h2
  (try simp (maxSteps:=1000000) (disch:=first | assumption | (apply ν6;assumption)) only [vz,vu,vv,eqS,eF_,↓c1_,↓c2_,tabs,reduceCtorEq,ι5,↓reduceIte,ν1,ν2,ν3,ν4,ν5,ι1,ι2,ι3,ι4])
  (repeat first | exact Heap.le_refl _ | refine Heap.le_setN ?_ (by assumption))
theorem eqEdgeS_spec (xs:List Ed) (hl:xs.length≤1048576):Pu Tryz.prog 45 [Es xs,Es xs] (B true):=by
  refine Pu.of fun H=>?_
  refine W45_ok ?_;simp (maxSteps:=1000000) (disch:=first | assumption | (apply ν6;assumption)) only [W45,vz,vu,vv,eqS,eF_,↓c1_,↓c2_,tabs,reduceCtorEq,ι5,↓reduceIte,ν1,ν2,ν3,ν4,ν5,ι1,ι2,ι3,ι4]
  refine L45_0_rule (0:Nat) (fun i=>I i) (fun _=>H) (fun i=>i≤xs.length) (fun i=>xs.length - i) ⟨by omega,.refl _,Heap.le_refl _⟩ ?_
  intro i hi
  (try simp (maxSteps:=1000000) (disch:=first | assumption | (apply ν6;assumption)) only [vz,vu,vv,eqS,eF_,↓c1_,↓c2_,tabs,reduceCtorEq,ι5,↓reduceIte,ν1,ν2,ν3,ν4,ν5,ι1,ι2,ι3,ι4,B45_0])
  intro h
  have hlt:i < xs.length:=by omega
  refine ⟨by omega,h,by omega,h,?_⟩
  refine Pu.use (eqEdge_spec (xs.getD i default)) ?_
  (try simp (maxSteps:=1000000) (disch:=first | assumption | (apply ν6;assumption)) only [vz,vu,vv,eqS,eF_,↓c1_,↓c2_,tabs,reduceCtorEq,ι5,↓reduceIte,ν1,ν2,ν3,ν4,ν5,ι1,ι2,ι3,ι4])
  refine ⟨i+1,by omega,by omega,?_⟩
  rw [wk_int,i64_id (by omega) (by omega)];simp
theorem eqIntSS_spec (xs:List (List Int)) (hs:smLs xs):Pu Tryz.prog 46 [Ls xs,Ls xs] (B true):=by
  have hl:=hs.1
  refine Pu.of fun H=>?_
  refine W46_ok ?_;simp (maxSteps:=1000000) (disch:=first | assumption | (apply ν6;assumption)) only [W46,vz,vu,vv,eqS,eF_,↓c1_,↓c2_,tabs,reduceCtorEq,ι5,↓reduceIte,ν1,ν2,ν3,ν4,ν5,ι1,ι2,ι3,ι4]
  refine L46_0_rule (0:Nat) (fun i=>I i) (fun _=>H) (fun i=>i≤xs.length) (fun i=>xs.length - i) ⟨by omega,.refl _,Heap.le_refl _⟩ ?_
  intro i hi
  (try simp (maxSteps:=1000000) (disch:=first | assumption | (apply ν6;assumption)) only [vz,vu,vv,eqS,eF_,↓c1_,↓c2_,tabs,reduceCtorEq,ι5,↓reduceIte,ν1,ν2,ν3,ν4,ν5,ι1,ι2,ι3,ι4,B46_0])
  intro h
  have hlt:i < xs.length:=by omega
  have hm:xs.getD i default∈xs:=getD_all (p:=fun x=>x∈xs) (fun _ h=>h) hlt
  refine ⟨by omega,h,by omega,h,?_⟩
  refine Pu.use (eqIntS_spec (xs.getD i default) (hs.2 _ hm)) ?_
  (try simp (maxSteps:=1000000) (disch:=first | assumption | (apply ν6;assumption)) only [vz,vu,vv,eqS,eF_,↓c1_,↓c2_,tabs,reduceCtorEq,ι5,↓reduceIte,ν1,ν2,ν3,ν4,ν5,ι1,ι2,ι3,ι4])
  refine ⟨i+1,by omega,by omega,?_⟩
  rw [wk_int,i64_id (by omega) (by omega)];simp
theorem eqAuto_spec (c:Au) (h:smAu c):Pu Tryz.prog 12 [aAu c,aAu c] (B true):=by
  refine Pu.of fun H=>?_
  refine W12_ok ?_;simp (maxSteps:=1000000) (disch:=first | assumption | (apply ν6;assumption)) only [W12,vz,vu,vv,eqS,eF_,↓c1_,↓c2_,tabs,reduceCtorEq,ι5,↓reduceIte,ν1,ν2,ν3,ν4,ν5,ι1,ι2,ι3,ι4]
  intro r hr r2 n1 h2
  (try simp (maxSteps:=1000000) (disch:=first | assumption | (apply ν6;assumption)) only [vz,vu,vv,eqS,eF_,↓c1_,↓c2_,tabs,reduceCtorEq,ι5,↓reduceIte,ν1,ν2,ν3,ν4,ν5,ι1,ι2,ι3,ι4])
  refine Pu.use (eqIntS_spec c.first h.1) ?_
  (try simp (maxSteps:=1000000) (disch:=first | assumption | (apply ν6;assumption)) only [vz,vu,vv,eqS,eF_,↓c1_,↓c2_,tabs,reduceCtorEq,ι5,↓reduceIte,ν1,ν2,ν3,ν4,ν5,ι1,ι2,ι3,ι4])
  refine Pu.use (eqEdgeS_spec c.edges h.2.1) ?_
  (try simp (maxSteps:=1000000) (disch:=first | assumption | (apply ν6;assumption)) only [vz,vu,vv,eqS,eF_,↓c1_,↓c2_,tabs,reduceCtorEq,ι5,↓reduceIte,ν1,ν2,ν3,ν4,ν5,ι1,ι2,ι3,ι4])
  refine Pu.use (eqIntSS_spec c.goals h.2.2) ?_
  (try simp (maxSteps:=1000000) (disch:=first | assumption | (apply ν6;assumption)) only [vz,vu,vv,eqS,eF_,↓c1_,↓c2_,tabs,reduceCtorEq,ι5,↓reduceIte,ν1,ν2,ν3,ν4,ν5,ι1,ι2,ι3,ι4])
  (repeat first | exact Heap.le_refl _ | refine Heap.le_setN ?_ (by assumption))
end Go.Proofs.YtolffbcnbcjeaaaGreat
namespace Go.Proofs.YtolffbcnbcjeaaaGreat
open Go Go.Sep Go.Pt Go.RowKit
theorem typed_i64 {x:List PV} (h:Typed Tryz.prog 3 x):∃n:Int,x=[.int .i64 n]:=by
  obtain ⟨n,_,rfl⟩:=typed_int (k:=.i64) (by kernel_rfl) h
  exact ⟨n,rfl⟩
theorem typed_intl {x:List PV} (h:Typed Tryz.prog 22 x):∃t:List Int,ok t.length∧x=[.sl (t.map eI)]:=by
  obtain ⟨es,rfl,hl,he⟩:=typed_slice (e:=3) (by kernel_rfl) h
  obtain ⟨t,h1,rfl,h3⟩:=rows_of (Q:=fun _=>True) (e:=eI) es fun y hy=>by
    obtain ⟨n,rfl⟩:=typed_i64 (he y hy)
    exact ⟨n,trivial,rfl⟩
  exact ⟨t,by unfold ok;omega,rfl⟩
theorem typed_intll {x:List PV} (h:Typed Tryz.prog 24 x):∃t:List (List Int),okLs t∧x=[.sl (t.map eL)]:=by
  obtain ⟨es,rfl,hl,he⟩:=typed_slice (e:=22) (by kernel_rfl) h
  obtain ⟨t,h1,rfl,h3⟩:=rows_of (Q:=fun l:List Int=>ok l.length) (e:=eL) es fun y hy=>by
    obtain ⟨l,hl,rfl⟩:=typed_intl (he y hy)
    exact ⟨l,hl,rfl⟩
  exact ⟨t,⟨by unfold ok;omega,h1⟩,rfl⟩
theorem typed_edge {x:List PV} (h:Typed Tryz.prog 101 x):∃a:Ed,x=eE a:=by
  have h:=typed_fields (ts:=[3,3,3]) (by kernel_rfl) h
  obtain ⟨a,b,rfl,h1,h⟩:=typedAll_cons h
  obtain ⟨b,c,rfl,h2,h⟩:=typedAll_cons h
  obtain ⟨c,d,rfl,h3,h⟩:=typedAll_cons h
  cases typedAll_nil h
  obtain ⟨n,rfl⟩:=typed_i64 h1
  obtain ⟨m,rfl⟩:=typed_i64 h2
  obtain ⟨k,rfl⟩:=typed_i64 h3
  exact ⟨⟨n,m,k⟩,rfl⟩
theorem typed_edges {x:List PV} (h:Typed Tryz.prog 23 x):∃t:List Ed,ok t.length∧x=[.sl (t.map eE)]:=by
  obtain ⟨es,rfl,hl,he⟩:=typed_slice (e:=101) (by kernel_rfl) h
  obtain ⟨t,h1,rfl,h3⟩:=rows_of (Q:=fun _=>True) (e:=eE) es fun y hy=>by
    obtain ⟨a,rfl⟩:=typed_edge (he y hy)
    exact ⟨a,trivial,rfl⟩
  exact ⟨t,by unfold ok;omega,rfl⟩
theorem arg_auto {v:AV} (h:ArgT Tryz.prog 26 v):∃a:Au,okAu a∧v=aAu a:=by
  obtain ⟨pvs,g,rfl⟩:=arg_struct (ts:=[3,22,23,24]) (by kernel_rfl) h
  clear h
  have h:=g
  obtain ⟨a,b,rfl,h1,h⟩:=typedAll_cons h
  obtain ⟨b,c,rfl,h2,h⟩:=typedAll_cons h
  obtain ⟨c,d,rfl,h3,h⟩:=typedAll_cons h
  obtain ⟨d,e,rfl,h4,h⟩:=typedAll_cons h
  cases typedAll_nil h
  obtain ⟨n,rfl⟩:=typed_i64 h1
  obtain ⟨f,hf,rfl⟩:=typed_intl h2
  obtain ⟨es,he,rfl⟩:=typed_edges h3
  obtain ⟨gs,hg,rfl⟩:=typed_intll h4
  exact ⟨⟨n,f,es,gs⟩,⟨hf,he,hg⟩,rfl⟩
end Go.Proofs.YtolffbcnbcjeaaaGreat
namespace Go.Sep
open Go Go.RowKit
abbrev Lay (α:Type):=α→List AV→Heap→List Nat→Prop
def LPl {α:Type} (e:α→List PV):Lay α:=fun a cs _ D=>cs=(e a).map .p∧D=[]
def LL {α:Type} (L:Lay α):List α→List AV→Heap→List Nat→Prop
  | [],cs,_,D=>cs=[]∧D=[]
  | a::az,cs,G,D=>∃c1 c2 D1 D2,cs=c1++c2∧D=D1++D2∧L a c1 G D1∧LL L az c2 G D2
def LRow {α:Type} (L:Lay α) (sz:Nat):List α→AV→Heap→List Nat→Prop:=fun xs x G D=>∃q cs D',x=.sl q sz 0 xs.length∧G q=some cs∧LL L xs cs G D'∧D=q::D'
def Lay.Local {α:Type} (L:Lay α):Prop:=∀a cs G G' D,L a cs G D→(∀y∈D,∀b,G y=some b→G' y=some b)→L a cs G' D
def Lay.Size {α:Type} (L:Lay α) (sz:Nat):Prop:=∀a cs G D,L a cs G D→cs.length=sz
theorem LPl.local {α:Type} (e:α→List PV):Lay.Local (LPl e):=fun a cs G G' D h _=>h
theorem LPl.size {α:Type} {e:α→List PV} {sz:Nat} (h:∀a,(e a).length=sz):Lay.Size (LPl e) sz:=fun a cs G D hl=>by rw [hl.1,List.length_map,h]
theorem LL.local {α:Type} {L:Lay α} (hL:L.Local):∀{az:List α} {cs:List AV} {G G':Heap} {D:List Nat},LL L az cs G D→(∀y∈D,∀b,G y=some b→G' y=some b)→LL L az cs G' D
  | [],cs,G,G',D,h,_=>h
  | a::az,cs,G,G',D,⟨c1,c2,D1,D2,e1,e2,h1,h2⟩,hf=>by
    subst e2
    exact ⟨c1,c2,D1,D2,e1,rfl,hL _ _ _ _ _ h1 (fun y hy=>hf y (List.mem_append_left _ hy)),LL.local hL h2 (fun y hy=>hf y (List.mem_append_right _ hy))⟩
theorem LL.size {α:Type} {L:Lay α} {sz:Nat} (hL:L.Size sz):∀{az:List α} {cs:List AV} {G:Heap} {D:List Nat},LL L az cs G D→cs.length=az.length*sz
  | [],cs,G,D,h=>by rw [h.1];simp
  | a::az,cs,G,D,⟨c1,c2,D1,D2,e1,e2,h1,h2⟩=>by
    rw [e1,List.length_append,hL _ _ _ _ h1,LL.size hL h2,List.length_cons,Nat.add_mul,Nat.one_mul];omega
theorem LRow.local {α:Type} {L:Lay α} {sz:Nat} (hL:L.Local) {xs:List α} {x:AV} {G G':Heap} {D:List Nat} (h:LRow L sz xs x G D) (hf:∀y∈D,∀b,G y=some b→G' y=some b):LRow L sz xs x G' D:=by
  obtain ⟨q,cs,D',e1,e2,e3,e4⟩:=h
  subst e4
  exact ⟨q,cs,D',e1,hf q (by simp) _ e2,LL.local hL e3 (fun y hy=>hf y (by simp [hy])),rfl⟩
def Lay.Has {α:Type} (L:Lay α):Prop:=∀a cs G D,L a cs G D→∀y∈D,G y≠none
theorem LPl.has {α:Type} (e:α→List PV):Lay.Has (LPl e):=fun a cs G D h y hy=>by rw [h.2] at hy;cases hy
theorem LL.has {α:Type} {L:Lay α} (hL:L.Has):∀{az:List α} {cs:List AV} {G:Heap} {D:List Nat},LL L az cs G D→∀y∈D,G y≠none
  | [],cs,G,D,h=>fun y hy=>by rw [h.2] at hy;cases hy
  | a::az,cs,G,D,⟨c1,c2,D1,D2,e1,e2,h1,h2⟩=>fun y hy=>by
    rw [e2] at hy
    rcases List.mem_append.1 hy with hy | hy
    · exact hL _ _ _ _ h1 y hy
    · exact LL.has hL h2 y hy
theorem LRow.has {α:Type} {L:Lay α} {sz:Nat} (hL:L.Has) {xs:List α} {x:AV} {G:Heap} {D:List Nat} (h:LRow L sz xs x G D):∀y∈D,G y≠none:=by
  obtain ⟨q,cs,D',e1,e2,e3,e4⟩:=h
  intro y hy
  rw [e4] at hy
  rcases List.mem_cons.1 hy with rfl | hy
  · rw [e2];simp
  · exact LL.has hL e3 y hy
theorem LL.plain {α:Type} {e:α→List PV} {G:Heap}:∀(xs:List α),LL (LPl e) xs (cells (xs.map e)) G []
  | []=>⟨rfl,rfl⟩
  | x::xs=>⟨(e x).map .p,cells (xs.map e),[],[],by simp [cells],rfl,⟨rfl,rfl⟩,LL.plain xs⟩
theorem splice_at {pre c c' post:List AV} {off n:Nat} (ho:off=pre.length) (hn:n=c'.length) (hc:c.length=c'.length):List.take off (pre++(c++post))++c'++List.drop (off+n) (pre++(c++post))=pre++(c'++post):=by
  subst ho;subst hn
  rw [List.take_left',List.append_assoc]
  · congr 2
    rw [List.drop_append,← hc]
    simp
  · rfl
theorem LL.snoc {α:Type} {L:Lay α} {a:α} {c2:List AV} {G:Heap} {D2:List Nat} (h2:L a c2 G D2):∀{az:List α} {c1:List AV} {D1:List Nat},LL L az c1 G D1→LL L (az++[a]) (c1++c2) G (D1++D2)
  | [],c1,D1,h=>by
    obtain ⟨rfl,rfl⟩:=h
    exact ⟨c2,[],D2,[],by simp,by simp,h2,rfl,rfl⟩
  | b::az,c1,D1,⟨d1,d2,E1,E2,e1,e2,h1,h3⟩=>by
    subst e1;subst e2
    exact ⟨d1,d2++c2,E1,E2++D2,by simp,by simp,h1,LL.snoc h2 h3⟩
theorem LL.split {α:Type} [Inhabited α] {L:Lay α} {sz:Nat} (hL:L.Size sz):∀{az:List α} {cs:List AV} {G:Heap} {D:List Nat} {i:Nat},LL L az cs G D→i < az.length→
    ∃c1 c c2 D1 Di D2,cs=c1++(c++c2)∧D=D1++(Di++D2)∧c1.length=i*sz∧L (az.getD i default) c G Di∧LL L (az.take i) c1 G D1∧LL L (az.drop (i+1)) c2 G D2
  | a::az,cs,G,D,0,⟨c1,c2,D1,D2,e1,e2,h1,h2⟩,_=>⟨[],c1,c2,[],D1,D2,by simpa using e1,by simpa using e2,by simp,by simpa using h1,⟨rfl,rfl⟩,by simpa using h2⟩
  | a::az,cs,G,D,i+1,⟨c1,c2,D1,D2,e1,e2,h1,h2⟩,hi=>by
    obtain ⟨d1,d,d2,E1,Ei,E2,f1,f2,f3,f4,f5,f6⟩:=LL.split hL h2 (i:=i) (by simpa using hi)
    subst e1;subst e2;subst f1;subst f2
    refine ⟨c1++d1,d,d2,D1++E1,Ei,E2,by simp,by simp,?_,by simpa using f4,⟨c1,d1,D1,E1,rfl,rfl,h1,f5⟩,by simpa using f6⟩
    rw [List.length_append,hL _ _ _ _ h1,f3,Nat.add_mul,Nat.one_mul];omega
theorem LL.join {α:Type} {L:Lay α}:∀{az bs:List α} {c1 c2:List AV} {G:Heap} {D1 D2:List Nat},LL L az c1 G D1→LL L bs c2 G D2→LL L (az++bs) (c1++c2) G (D1++D2)
  | [],bs,c1,c2,G,D1,D2,h1,h2=>by
    obtain ⟨rfl,rfl⟩:=h1
    simpa using h2
  | a::az,bs,c1,c2,G,D1,D2,⟨d1,d2,E1,E2,e1,e2,h1,h3⟩,h2=>by
    subst e1;subst e2
    exact ⟨d1,d2++c2,E1,E2++D2,by simp,by simp,h1,LL.join h3 h2⟩
def Lay.Frz {α:Type} (L:Lay α) (e:α→List PV):Prop:=∀(a:α) (cs:List AV) (G:Heap) (D:List Nat) (v:AV) (s:Nat) (pre post:List AV),L a cs G D→D.Nodup→s∉D→G s=some (pre++(cs++post))→
  ∃G',Wk v G v G'∧G' s=some (pre++((e a).map .p++post))∧∀y,y≠s→y∉D→G' y=G y
theorem LPl.frz {α:Type} (e:α→List PV):(LPl e).Frz e:=by
  rintro a cs G D v s pre post ⟨rfl,rfl⟩ _ _ hs
  exact ⟨G,.refl _ _,hs,fun _ _ _=>rfl⟩
theorem LL.frz {α:Type} {L:Lay α} {e:α→List PV} (hl:L.Local) (hf:L.Frz e):∀(az:List α) (cs:List AV) (G:Heap) (D:List Nat) (v:AV) (s:Nat) (pre post:List AV),LL L az cs G D→D.Nodup→s∉D→G s=some (pre++(cs++post))→
    ∃G',Wk v G v G'∧G' s=some (pre++((az.map e).flatten.map .p++post))∧∀y,y≠s→y∉D→G' y=G y
  | [],cs,G,D,v,s,pre,post,h,hD,hs,hG=>by
    obtain ⟨rfl,rfl⟩:=h
    exact ⟨G,.refl _ _,by simpa using hG,fun _ _ _=>rfl⟩
  | a::az,cs,G,D,v,s,pre,post,⟨c1,c2,D1,D2,e1,e2,h1,h2⟩,hD,hs,hG=>by
    subst e1;subst e2
    rw [List.nodup_append] at hD
    rw [List.mem_append,not_or] at hs
    obtain ⟨G1,w1,k1,f1⟩:=hf a c1 G D1 v s pre (c2++post) h1 hD.1 hs.1 (by rw [hG];simp)
    have h2':LL L az c2 G1 D2:=LL.local hl h2 fun y hy b hb=>by rw [f1 y (fun e=>hs.2 (e ▸ hy)) (fun hy1=>hD.2.2 y hy1 y hy rfl)];exact hb
    obtain ⟨G2,w2,k2,f2⟩:=LL.frz hl hf az c2 G1 D2 v s (pre++(e a).map .p) post h2' hD.2.1 hs.2 (by rw [k1];simp)
    refine ⟨G2,.trans w1 w2,by rw [k2];simp,fun y hy hyD=>?_⟩
    rw [List.mem_append,not_or] at hyD
    rw [f2 y hy hyD.2,f1 y hy hyD.1]
theorem FrzL.refl' {r sz:Nat} {es:List (List PV)}:∀vs,FrzL r sz es vs vs
  | []=>.nil
  | v::vs=>.cons (.same v) (FrzL.refl' vs)
theorem FrzL.at {r sz:Nat} {es:List (List PV)} {x x':AV} (h:FrzR r sz es x x') (post:List AV):∀pre,FrzL r sz es (pre++([x]++post)) (pre++([x']++post))
  | []=>.cons h (FrzL.refl' post)
  | v::pre=>.cons (.same v) (FrzL.at h post pre)
theorem LRow.frzIn {α:Type} {L:Lay α} {e:α→List PV} {sz:Nat} (hpos:0 < sz) (he:∀a,(e a).length=sz) (hl:L.Local) (hf:L.Frz e) {xs:List α} {x:AV} {G:Heap} {D:List Nat} {v:AV} {s:Nat} {pre post:List AV} (h:LRow L sz xs x G D) (hD:D.Nodup) (hs:s∉D) (hG:G s=some (pre++([x]++post))) :
    ∃G',Wk v G v G'∧G' s=some (pre++([.p (.sl (xs.map e))]++post))∧∀y,y≠s→y∉D→G' y=G y:=by
  obtain ⟨q,cs,D',rfl,hq,hll,rfl⟩:=h
  rw [List.nodup_cons] at hD
  rw [List.mem_cons,not_or] at hs
  obtain ⟨G1,w1,k1,f1⟩:=LL.frz hl hf xs cs G D' v q [] [] hll hD.2 hD.1 (by simpa using hq)
  have hG1:G1 s=some (pre++([.sl q sz 0 xs.length]++post)):=by rw [f1 s hs.1 hs.2];exact hG
  have k1':G1 q=some ((xs.map e).flatten.map .p):=by simpa using k1
  have hr:FrzR q sz (xs.map e) (.sl q sz 0 xs.length) (.p (.sl (xs.map e))):=by
    have:FrzR q sz (xs.map e) (.sl q sz 0 (xs.map e).length) (.p (.sl (xs.map e))):=.here
    rwa [List.length_map] at this
  refine ⟨(G1.del q).set s (pre++([.p (.sl (xs.map e))]++post)),.trans w1 (Wk.frzAt hpos k1' (sized_map he xs) hG1 hs.1 (FrzL.at hr post pre) (.same v) (by simp)),Heap.set_same _ _ _,fun y hy hyD=>?_⟩
  rw [List.mem_cons,not_or] at hyD
  rw [Heap.set_other hy,Heap.del_other hyD.1,f1 y hyD.1 hyD.2]
theorem LRow.frzV {α:Type} {L:Lay α} {e:α→List PV} {sz:Nat} (hpos:0 < sz) (he:∀a,(e a).length=sz) (hl:L.Local) (hf:L.Frz e) {xs:List α} {x:AV} {G:Heap} {D:List Nat} {v v':AV} (h:LRow L sz xs x G D) (hD:D.Nodup)
    (hv:∀q,x=.sl q sz 0 xs.length→FrzR q sz (xs.map e) x (.p (.sl (xs.map e)))→FrzR q sz (xs.map e) v v') :
    ∃G',Wk v G v' G'∧∀y,y∉D→G' y=G y:=by
  obtain ⟨q,cs,D',rfl,hq,hll,rfl⟩:=h
  rw [List.nodup_cons] at hD
  obtain ⟨G1,w1,k1,f1⟩:=LL.frz hl hf xs cs G D' v q [] [] hll hD.2 hD.1 (by simpa using hq)
  have k1':G1 q=some ((xs.map e).flatten.map .p):=by simpa using k1
  have hr:FrzR q sz (xs.map e) (.sl q sz 0 xs.length) (.p (.sl (xs.map e))):=by
    have:FrzR q sz (xs.map e) (.sl q sz 0 (xs.map e).length) (.p (.sl (xs.map e))):=.here
    rwa [List.length_map] at this
  refine ⟨G1.del q,.trans w1 (Wk.frz hpos k1' (sized_map he xs) (hv q rfl hr)),fun y hyD=>?_⟩
  rw [List.mem_cons,not_or] at hyD
  rw [Heap.del_other hyD.1,f1 y hyD.1 hyD.2]
def Lay.Gd {α:Type} (L:Lay α):Prop:=∀a cs G D,L a cs G D→(∀c∈cs,GdC c)∧∀y∈D,∀bs,G y=some bs→∀c∈bs,GdC c
def Lay.Sh {α:Type} (L:Lay α):Prop:=∀a cs G D n G0,(∀q,n≤q→G0 q=none)→L a cs G D→L a (cs.map (shC n)) (Heap.or G0 (shH n G)) (D.map (·+n))
theorem LPl.gd {α:Type} {e:α→List PV} (h:∀a,∀x∈e a,Plain (.p x)):Lay.Gd (LPl e):=by
  rintro a cs G D ⟨rfl,rfl⟩
  refine ⟨fun c hc=>?_,fun y hy=>by cases hy⟩
  obtain ⟨x,hx,rfl⟩:=List.mem_map.1 hc
  exact .p (h a x hx)
theorem LPl.sh {α:Type} (e:α→List PV):Lay.Sh (LPl e):=by
  rintro a cs G D n G0 _ ⟨rfl,rfl⟩
  exact ⟨by rw [List.map_map];rfl,rfl⟩
theorem LL.gd {α:Type} {L:Lay α} (hL:L.Gd):∀{az:List α} {cs:List AV} {G:Heap} {D:List Nat},LL L az cs G D→(∀c∈cs,GdC c)∧∀y∈D,∀bs,G y=some bs→∀c∈bs,GdC c
  | [],_,_,_,⟨e1,e2⟩=>by subst e1;subst e2;exact ⟨(fun c hc=>by cases hc),(fun y hy=>by cases hy)⟩
  | a::az,_,_,_,⟨c1,c2,D1,D2,e1,e2,h1,h2⟩=>by
    subst e1;subst e2
    obtain ⟨a1,a2⟩:=hL _ _ _ _ h1
    obtain ⟨b1,b2⟩:=LL.gd hL h2
    refine ⟨fun c hc=>?_,fun y hy=>?_⟩
    · rcases List.mem_append.1 hc with hc | hc
      · exact a1 c hc
      · exact b1 c hc
    · rcases List.mem_append.1 hy with hy | hy
      · exact a2 y hy
      · exact b2 y hy
theorem LL.sh {α:Type} {L:Lay α} (hL:L.Sh) {n:Nat} {G0:Heap} (h0:∀q,n≤q→G0 q=none):∀{az:List α} {cs:List AV} {G:Heap} {D:List Nat},LL L az cs G D→LL L az (cs.map (shC n)) (Heap.or G0 (shH n G)) (D.map (·+n))
  | [],_,_,_,⟨e1,e2⟩=>by subst e1;subst e2;exact ⟨rfl,rfl⟩
  | a::az,_,_,_,⟨c1,c2,D1,D2,e1,e2,h1,h2⟩=>by
    subst e1;subst e2
    exact ⟨_,_,_,_,List.map_append,List.map_append,hL _ _ _ _ n G0 h0 h1,LL.sh hL h0 h2⟩
theorem or_sh {G0 G:Heap} {n q:Nat} (h0:∀q,n≤q→G0 q=none):(Heap.or G0 (shH n G)) (q+n)=(G q).map (List.map (shC n)):=by
  simp only [Heap.or,shH,h0 (q+n) (by omega),show n≤q+n by omega,if_true,Nat.add_sub_cancel]
theorem LRow.gd {α:Type} {L:Lay α} {sz:Nat} (hL:L.Gd) {xs:List α} {x:AV} {G:Heap} {D:List Nat} (h:LRow L sz xs x G D):GdC x∧∀y∈D,∀bs,G y=some bs→∀c∈bs,GdC c:=by
  obtain ⟨q,cs,D',rfl,hq,hll,rfl⟩:=h
  obtain ⟨h1,h2⟩:=LL.gd hL hll
  refine ⟨.inl ⟨_,_,_,_,rfl⟩,fun y hy bs hb=>?_⟩
  rcases List.mem_cons.1 hy with rfl | hy
  · rw [hq] at hb;cases hb;exact h1
  · exact h2 y hy bs hb
theorem LRow.sh {α:Type} {L:Lay α} {sz:Nat} (hL:L.Sh) {n:Nat} {G0:Heap} (h0:∀q,n≤q→G0 q=none) {xs:List α} {x:AV} {G:Heap} {D:List Nat} (h:LRow L sz xs x G D):LRow L sz xs (shC n x) (Heap.or G0 (shH n G)) (D.map (·+n)):=by
  obtain ⟨q,cs,D',rfl,hq,hll,rfl⟩:=h
  exact ⟨q+n,cs.map (shC n),D'.map (·+n),rfl,by rw [or_sh h0,hq];rfl,LL.sh hL h0 hll,rfl⟩
def only (D:List Nat) (G:Heap):Heap:=fun y=>if y∈D then G y else none
theorem only_le (D:List Nat) (G:Heap):Heap.le (only D G) G:=fun y b hb=>by
  unfold only at hb;split at hb
  · exact hb
  · cases hb
theorem only_in {D:List Nat} {G:Heap} {y:Nat} (h:y∈D):only D G y=G y:=if_pos h
theorem only_out {D:List Nat} {G:Heap} {y:Nat} (h:y∉D):only D G y=none:=if_neg h
end Go.Sep
namespace Go.Proofs.YtolffbcnbcjeaaaGreat
open Go Go.Sep Go.Pt
attribute [local irreducible] CallT
abbrev LN:List Nd→AV→Heap→List Nat→Prop:=LRow (LPl eN) 2
abbrev LI:List Int→AV→Heap→List Nat→Prop:=LRow (LPl eI) 1
def LCh:Lay Ch:=fun c cs G D=>∃x,cs=[I c.var,x]∧LN c.by_ x G D
def LCm:Lay Cm:=fun c cs G D=>∃x y D1 D2,cs=[x,y]∧D=D1++D2∧LN c.when_ x G D1∧LRow LCh 2 c.chs y G D2
theorem LCh.local:Lay.Local LCh:=by
  rintro c cs G G' D ⟨x,e,h⟩ hf
  exact ⟨x,e,LRow.local (LPl.local eN) h hf⟩
theorem LCh.size:Lay.Size LCh 2:=by
  rintro c cs G D ⟨x,rfl,h⟩;rfl
theorem LCh.has:Lay.Has LCh:=by
  rintro c cs G D ⟨x,e,h⟩
  exact LRow.has (LPl.has eN) h
theorem LCh.frz:Lay.Frz LCh eCh:=by
  rintro c cs G D v s pre post ⟨x,rfl,h⟩ hD hs hG
  obtain ⟨G',w,k,f⟩:=LRow.frzIn (e:=eN) (sz:=2) (pre:=pre++[I c.var]) (post:=post) (v:=v) (by omega) (fun _=>rfl) (LPl.local eN) (LPl.frz eN) h hD hs (by rw [hG];simp)
  exact ⟨G',w,by rw [k];simp,f⟩
theorem LCm.local:Lay.Local LCm:=by
  rintro c cs G G' D ⟨x,y,D1,D2,e,rfl,h1,h2⟩ hf
  exact ⟨x,y,D1,D2,e,rfl,LRow.local (LPl.local eN) h1 (fun z hz=>hf z (List.mem_append_left _ hz)),LRow.local LCh.local h2 (fun z hz=>hf z (List.mem_append_right _ hz))⟩
theorem LCm.size:Lay.Size LCm 2:=by
  rintro c cs G D ⟨x,y,D1,D2,rfl,e,h1,h2⟩;rfl
theorem LCm.has:Lay.Has LCm:=by
  rintro c cs G D ⟨x,y,D1,D2,e,rfl,h1,h2⟩ z hz
  rcases List.mem_append.1 hz with hz | hz
  · exact LRow.has (LPl.has eN) h1 z hz
  · exact LRow.has LCh.has h2 z hz
theorem LCm.frz:Lay.Frz LCm eCm:=by
  rintro c cs G D v s pre post ⟨x,y,D1,D2,rfl,rfl,h1,h2⟩ hD hs hG
  rw [List.nodup_append] at hD
  rw [List.mem_append,not_or] at hs
  obtain ⟨G1,w1,k1,f1⟩:=LRow.frzIn (e:=eN) (sz:=2) (pre:=pre) (post:=y::post) (v:=v) (by omega) (fun _=>rfl) (LPl.local eN) (LPl.frz eN) h1 hD.1 hs.1 (by rw [hG];simp)
  have h2':LRow LCh 2 c.chs y G1 D2:=LRow.local LCh.local h2 fun z hz b hb=>by rw [f1 z (fun e=>hs.2 (e ▸ hz)) (fun hz1=>hD.2.2 z hz1 z hz rfl)];exact hb
  obtain ⟨G2,w2,k2,f2⟩:=LRow.frzIn (e:=eCh) (sz:=2) (pre:=pre++[Ns c.when_]) (post:=post) (v:=v) (by omega) (fun _=>rfl) LCh.local LCh.frz h2' hD.2.1 hs.2 (by rw [k1];simp)
  refine ⟨G2,.trans w1 w2,by rw [k2];simp,fun z hz hzD=>?_⟩
  rw [List.mem_append,not_or] at hzD
  rw [f2 z hz hzD.2,f1 z hz hzD.1]
structure New (H G:Heap) (D:List Nat):Prop where
  nd:D.Nodup
  fr:∀y∈D,H y=none
  le:Heap.le H G
theorem New.trans {H G G':Heap} {D D':List Nat} (n:New H G D) (m:New G G' D') (hh:∀y∈D,G y≠none):New H G' (D++D'):=by
  refine ⟨List.nodup_append.2 ⟨n.nd,m.nd,fun a ha b hb e=>hh a ha (by rw [e];exact m.fr b hb)⟩,fun y hy=>?_,Heap.le_trans n.le m.le⟩
  rcases List.mem_append.1 hy with hy | hy
  · exact n.fr y hy
  · cases hh:H y with
    | none=>rfl
    | some b=>rw [← m.fr y hy,n.le y b hh]
theorem New.base {H H' G:Heap} {D:List Nat} (n:New H' G D) (hle:Heap.le H H'):New H G D:=
  ⟨n.nd,fun y hy=>by
    cases hh:H y with
    | none=>rfl
    | some b=>rw [← n.fr y hy,hle y b hh],Heap.le_trans hle n.le⟩
theorem New.put {H G:Heap} {D:List Nat} (n:New H G D) {q:Nat} (hq:H q=none) (b:List AV):New H (G.set q b) D:=⟨n.nd,n.fr,Heap.le_setN n.le hq⟩
theorem toIntS_live (xs:List Int) (hl:xs.length≤1048576) {H:Heap} {K:AV→Heap→Prop} (h:∀x G D,LI xs x G D→New H G D→K x G):CallT Tryz.prog 35 [Is xs] H K:=by
  refine W35_ok ?_;simp (maxSteps:=1000000) (disch:=first | assumption | (apply ν6;assumption)) only [W35,vz,vu,vv,eqS,eF_,↓c1_,↓c2_,tabs,reduceCtorEq,ι5,↓reduceIte,ν1,ν2,ν3,ν4,ν5,ι1,ι2,ι3,ι4,makeSliceV]
  refine ⟨by omega,by omega,by omega,by omega,fun q hq=>?_⟩
  have z0:rowZ eI [I 0] xs 0=zerosA xs.length [I 0]:=rowZ_zero
  rw [← z0]
  refine L35_0_rule (0:Nat) (fun i=>I i) (fun i=>H.set q (rowZ eI [I 0] xs i)) (fun i=>i≤xs.length) (fun i=>xs.length - i) ⟨by omega,.refl _,Heap.le_refl _⟩ ?_
  intro i hi
  have hrl:=rowZ_len (e:=eI) (zero:=[I 0]) (xs:=xs) (i:=i) (sz:=1) (fun _=>rfl) rfl hi
  (try simp (maxSteps:=1000000) (disch:=first | assumption | (apply ν6;assumption)) only [vz,vu,vv,eqS,eF_,↓c1_,↓c2_,tabs,reduceCtorEq,ι5,↓reduceIte,ν1,ν2,ν3,ν4,ν5,ι1,ι2,ι3,ι4,B35_0])
  refine ⟨fun h=>⟨by omega,h,?_⟩,fun h5=>?_⟩
  · have hlt:i < xs.length:=by omega
    have hput:=rowZ_put (e:=eI) (zero:=[I 0]) (xs:=xs) (i:=i) (sz:=1) (fun _=>rfl) rfl hlt rfl rfl
    (try simp (maxSteps:=1000000) (disch:=first | assumption | (apply ν6;assumption)) only [vz,vu,vv,eqS,eF_,↓c1_,↓c2_,tabs,reduceCtorEq,ι5,↓reduceIte,ν1,ν2,ν3,ν4,ν5,ι1,ι2,ι3,ι4])
    refine ⟨by omega,h,by omega,i+1,by omega,by omega,?_,?_⟩
    · rw [wk_int,i64_id (by omega) (by omega)];simp
    · rw [← hput];exact Heap.le_refl _
  · have:i=xs.length:=by omega
    subst this
    refine h _ _ [q] ⟨q,_,[],rfl,Heap.set_same _ _ _,?_,rfl⟩ ⟨by simp,by simpa using hq,Heap.le_set hq⟩
    rw [rowZ_end];exact LL.plain xs
theorem LRow.sl {α:Type} {L:Lay α} {sz:Nat} {xs:List α} {x:AV} {G:Heap} {D:List Nat} (h:LRow L sz xs x G D):∃q,x=.sl q sz 0 xs.length:=by
  obtain ⟨q,cs,D',e1,e2,e3,e4⟩:=h;exact ⟨q,e1⟩
theorem ne_mem {D:List Nat} {y z:Nat} (hy:y∈D) (hz:z∉D):y≠z:=fun e=>hz (e ▸ hy)
theorem ne_of_new {H G:Heap} {D:List Nat} (n:New H G D) {y:Nat} {b:List AV} (h:H y=some b):y∉D:=fun hy=>by rw [n.fr y hy] at h;cases h
end Go.Proofs.YtolffbcnbcjeaaaGreat
namespace Go.Sep
open Go Go.RowKit Go.Proofs.YtolffbcnbcjeaaaGreat
structure Th where
  D:List Nat
  P:Heap→Prop
  loc:∀{G G':Heap},P G→(∀y∈D,∀b,G y=some b→G' y=some b)→P G'
  has:∀{G:Heap},P G→∀y∈D,G y≠none
def cellT (r:Nat) (b:List AV):Th:=⟨[r],fun G=>G r=some b,fun h f=>f r (List.mem_singleton.2 rfl) b h,fun h y hy=>by rw [List.mem_singleton.1 hy,h];simp⟩
structure St (H:Heap) (Ts:List Th) (G:Heap):Prop where
  le:Heap.le H G
  nd:(Ts.flatMap Th.D).Nodup
  fr:∀t∈Ts,∀y∈t.D,H y=none
  ok:∀t∈Ts,t.P G
theorem St.nil (H:Heap):St H [] H:=⟨Heap.le_refl _,List.nodup_nil,fun t ht=>(by cases ht),fun t ht=>(by cases ht)⟩
theorem St.get {H G:Heap} {Ts:List Th} {t:Th} (s:St H Ts G) (i:Nat) (h:Ts[i]?=some t):t.P G:=s.ok t (List.mem_of_getElem? h)
theorem St.ndT {H G:Heap} {Ts:List Th} {t:Th} (s:St H Ts G) (i:Nat) (h:Ts[i]?=some t):t.D.Nodup:=by
  obtain ⟨pre,post,e⟩:=List.append_of_mem (List.mem_of_getElem? h)
  have:=s.nd
  rw [e,List.flatMap_append,List.flatMap_cons,List.nodup_append,List.nodup_append] at this
  exact this.2.1.1
theorem St.push {H G G':Heap} {Ts:List Th} (s:St H Ts G) (t:Th) (hn:New G G' t.D) (hp:t.P G'):St H (t::Ts) G':=by
  refine ⟨Heap.le_trans s.le hn.le,?_,?_,?_⟩
  · rw [List.flatMap_cons,List.nodup_append]
    refine ⟨hn.nd,s.nd,fun a ha b hb e=>?_⟩
    obtain ⟨u,hu,hbu⟩:=List.mem_flatMap.1 hb
    exact u.has (s.ok u hu) b hbu (by rw [← e];exact hn.fr a ha)
  · intro u hu y hy
    rcases List.mem_cons.1 hu with rfl | hu
    · cases hh:H y with
      | none=>rfl
      | some b=>rw [← hn.fr y hy,s.le y b hh]
    · exact s.fr u hu y hy
  · intro u hu
    rcases List.mem_cons.1 hu with rfl | hu
    · exact hp
    · exact u.loc (s.ok u hu) fun y _ b hb=>hn.le y b hb
theorem New.cell {G:Heap} {r:Nat} {b:List AV} (hr:G r=none):New G (G.set r b) [r]:=⟨by simp,by simpa using hr,Heap.le_set hr⟩
theorem St.cell {H G:Heap} {Ts:List Th} (s:St H Ts G) {r:Nat} (hr:G r=none) (b:List AV):St H (cellT r b::Ts) (G.set r b):=s.push (cellT r b) (New.cell hr) (Heap.set_same _ _ _)
theorem St.upd {H G G':Heap} {Ts:List Th} {t:Th} (s:St H Ts G) (i:Nat) (h:Ts[i]?=some t) (t':Th) (hD:t'.D=t.D) (hf:∀y,y∉t.D→G' y=G y) (hp:t'.P G'):St H (Ts.set i t') G':=by
  obtain ⟨hi,hti⟩:=List.getElem?_eq_some_iff.1 h
  have e:Ts=Ts.take i++t::Ts.drop (i+1):=by rw [← hti,List.getElem_cons_drop,List.take_append_drop]
  have e':Ts.set i t'=Ts.take i++t'::Ts.drop (i+1):=by rw [List.set_eq_take_append_cons_drop,if_pos hi]
  generalize Ts.take i=pre at e e'
  generalize Ts.drop (i+1)=post at e e'
  rw [e']
  subst e
  have hnd:=s.nd
  rw [List.flatMap_append,List.flatMap_cons] at hnd
  have hdis:∀u∈pre++post,∀y∈u.D,y∉t.D:=by
    intro u hu y hy hyt
    rw [List.nodup_append,List.nodup_append] at hnd
    rcases List.mem_append.1 hu with hu | hu
    · exact hnd.2.2 y (List.mem_flatMap.2 ⟨u,hu,hy⟩) y (List.mem_append_left _ hyt) rfl
    · exact hnd.2.1.2.2 y hyt y (List.mem_flatMap.2 ⟨u,hu,hy⟩) rfl
  refine ⟨fun y b hb=>?_,by rw [List.flatMap_append,List.flatMap_cons,hD];exact hnd,fun u hu y hy=>?_,fun u hu=>?_⟩
  · rw [hf y (fun hy=>by have:=s.fr t (by simp) y hy;rw [this] at hb;cases hb)];exact s.le y b hb
  · rcases List.mem_append.1 hu with hu | hu
    · exact s.fr u (List.mem_append_left _ hu) y hy
    · rcases List.mem_cons.1 hu with rfl | hu
      · exact s.fr t (by simp) y (hD ▸ hy)
      · exact s.fr u (by simp [hu]) y hy
  · have old:∀u∈pre++post,u.P G':=fun u hu=>u.loc (s.ok u (by
      rcases List.mem_append.1 hu with hu | hu
      · exact List.mem_append_left _ hu
      · exact List.mem_append_right _ (List.mem_cons_of_mem _ hu))) fun y hy b hb=>by rw [hf y (hdis u hu y hy)];exact hb
    rcases List.mem_append.1 hu with hu | hu
    · exact old u (List.mem_append_left _ hu)
    · rcases List.mem_cons.1 hu with rfl | hu
      · exact hp
      · exact old u (List.mem_append_right _ hu)
theorem St.drop {H G:Heap} {t:Th} {Ts:List Th} (s:St H (t::Ts) G):St H Ts G:=⟨s.le,(by have:=s.nd;rw [List.flatMap_cons,List.nodup_append] at this;exact this.2.1),fun u hu=>s.fr u (List.mem_cons_of_mem _ hu),fun u hu=>s.ok u (List.mem_cons_of_mem _ hu)⟩
theorem St.perm {H G:Heap} {Ts Us:List Th} (s:St H Ts G) (h:List.Perm Ts Us):St H Us G:=
  ⟨s.le,(h.flatMap_right _).nodup s.nd,fun t ht=>s.fr t (h.mem_iff.2 ht),fun t ht=>s.ok t (h.mem_iff.2 ht)⟩
theorem St.disj {H G:Heap} {t u:Th} {Ts:List Th} (s:St H (t::u::Ts) G):∀y∈t.D,y∉u.D:=by
  have:=s.nd
  rw [List.flatMap_cons,List.flatMap_cons,List.nodup_append] at this
  exact fun y hy hu=>this.2.2 y hy y (List.mem_append_left _ hu) rfl
theorem Th.dis:∀{Ts:List Th} {t u:Th} {i j:Nat},(Ts.flatMap Th.D).Nodup→Ts[i]?=some t→Ts[j]?=some u→i < j→∀y∈t.D,y∉u.D
  | [],_,_,_,_,_,hi,_,_=>by simp at hi
  | a::Ts,t,u,0,j+1,nd,hi,hj,_=>by
    rw [List.flatMap_cons,List.nodup_append] at nd
    simp only [List.getElem?_cons_zero,Option.some.injEq] at hi
    subst hi
    exact fun y hy hu=>nd.2.2 y hy y (List.mem_flatMap.2 ⟨u,List.mem_of_getElem? (by simpa using hj),hu⟩) rfl
  | a::Ts,t,u,i+1,j+1,nd,hi,hj,h=>by
    rw [List.flatMap_cons,List.nodup_append] at nd
    exact Th.dis nd.2.1 (by simpa using hi) (by simpa using hj) (by omega)
theorem St.disjI {H G:Heap} {t u:Th} {Ts:List Th} (s:St H Ts G) (i j:Nat) (hi:Ts[i]?=some t) (hj:Ts[j]?=some u) (hij:i≠j):∀y∈t.D,y∉u.D:=by
  rcases Nat.lt_or_gt_of_ne hij with h | h
  · exact Th.dis s.nd hi hj h
  · exact fun y hy hu=>Th.dis s.nd hj hi h y hu hy
theorem St.fresh {H G:Heap} {Ts:List Th} {t:Th} (s:St H Ts G) (i:Nat) (h:Ts[i]?=some t) {q:Nat} (hq:G q=none):q∉t.D:=fun hm=>t.has (s.get i h) q hm hq
theorem perm_pick {α:Type}:∀(Ts:List α) (i:Nat) (hi:i < Ts.length),List.Perm Ts (Ts[i]::Ts.eraseIdx i)
  | a::Ts,0,_=>List.Perm.refl _
  | a::Ts,i+1,hi=>((perm_pick Ts i (by simpa using hi)).cons a).trans (List.Perm.swap _ _ _)
theorem perm_set {α:Type}:∀(Ts:List α) (i:Nat) (hi:i < Ts.length) (t:α),List.Perm (Ts.set i t) (t::Ts.eraseIdx i)
  | a::Ts,0,_,_=>List.Perm.refl _
  | a::Ts,i+1,hi,t=>((perm_set Ts i (by simpa using hi) t).cons a).trans (List.Perm.swap _ _ _)
theorem sub_flat {α β:Type} {f:α→List β} {l m:List α} (h:List.Sublist l m):List.Sublist (l.flatMap f) (m.flatMap f):=by
  induction h with
  | slnil=>exact List.Sublist.refl _
  | cons a _ ih=>rw [List.flatMap_cons];exact ih.trans (List.sublist_append_right _ _)
  | cons_cons a _ ih=>rw [List.flatMap_cons,List.flatMap_cons];exact List.Sublist.append_left ih _
theorem St.pick {H G:Heap} {Ts:List Th} {t:Th} (s:St H Ts G) (i:Nat) (h:Ts[i]?=some t):St H (t::Ts.eraseIdx i) G:=by
  obtain ⟨hi,rfl⟩:=List.getElem?_eq_some_iff.1 h
  exact s.perm (perm_pick Ts i hi)
theorem St.step {H G G':Heap} {old rest:List Th} (s:St H (old++rest) G) (new:List Th) (hnd:(new.flatMap Th.D).Nodup) (hfr:∀t∈new,∀y∈t.D,(∃u∈old,y∈u.D)∨G y=none)
    (hf:∀y b,G y=some b→(∀u∈old,y∉u.D)→G' y=some b) (hp:∀t∈new,t.P G'):St H (new++rest) G':=by
  have hs:=s.nd
  rw [List.flatMap_append,List.nodup_append] at hs
  have hdis:∀u∈rest,∀y∈u.D,∀t∈old,y∉t.D:=fun u hu y hy t ht hyt=>hs.2.2 y (List.mem_flatMap.2 ⟨t,ht,hyt⟩) y (List.mem_flatMap.2 ⟨u,hu,hy⟩) rfl
  refine ⟨fun y b hb=>?_,?_,fun u hu y hy=>?_,fun u hu=>?_⟩
  · refine hf y b (s.le y b hb) fun u hu hy=>?_
    rw [s.fr u (List.mem_append_left _ hu) y hy] at hb;cases hb
  · rw [List.flatMap_append,List.nodup_append]
    refine ⟨hnd,hs.2.1,fun a ha b hb e=>?_⟩
    subst e
    obtain ⟨t,ht,hat⟩:=List.mem_flatMap.1 ha
    obtain ⟨u,hu,hau⟩:=List.mem_flatMap.1 hb
    rcases hfr t ht a hat with ⟨v,hv,hav⟩ | hn
    · exact hdis u hu a hau v hv hav
    · exact u.has (s.ok u (List.mem_append_right _ hu)) a hau hn
  · rcases List.mem_append.1 hu with hu | hu
    · rcases hfr u hu y hy with ⟨v,hv,hav⟩ | hn
      · exact s.fr v (List.mem_append_left _ hv) y hav
      · cases hh:H y with
        | none=>rfl
        | some b=>rw [← hn,s.le y b hh]
    · exact s.fr u (List.mem_append_right _ hu) y hy
  · rcases List.mem_append.1 hu with hu | hu
    · exact hp u hu
    · exact u.loc (s.ok u (List.mem_append_right _ hu)) fun y hy b hb=>hf y b hb (hdis u hu y hy)
theorem St.repl {H G G':Heap} {Ts:List Th} {t:Th} (s:St H Ts G) (i:Nat) (h:Ts[i]?=some t) (t':Th) (hnd:t'.D.Nodup) (hfr:∀y∈t'.D,y∈t.D∨G y=none)
    (hf:∀y b,G y=some b→y∉t.D→G' y=some b) (hp:t'.P G'):St H (Ts.set i t') G':=by
  obtain ⟨hi,-⟩:=List.getElem?_eq_some_iff.1 h
  have:=St.step (old:=[t]) (s.pick i h) [t'] (by simpa using hnd) (fun u hu y hy=>by
    rw [List.mem_singleton] at hu;subst hu
    rcases hfr y hy with h1 | h1
    · exact .inl ⟨t,by simp,h1⟩
    · exact .inr h1) (fun y b hb hy=>hf y b hb (hy t (by simp))) (fun u hu=>by rw [List.mem_singleton] at hu;subst hu;exact hp)
  exact this.perm (perm_set Ts i hi t').symm
theorem St.moved {H G:Heap} {Ts:List Th} {q q':Nat} {b c:List AV} (s:St H Ts G) (i:Nat) (h:Ts[i]?=some (cellT q b)) (hq:G q'=none):St H (Ts.set i (cellT q' c)) ((G.del q).set q' c):=by
  have hg:G q=some b:=s.get i h
  refine s.repl i h (cellT q' c) (by simp [cellT]) (fun y hy=>?_) (fun y bb hb hy=>?_) (Heap.set_same _ _ _)
  · simp only [cellT,List.mem_singleton] at hy;subst hy;exact .inr hq
  · simp only [cellT,List.mem_singleton] at hy
    rw [Heap.set_other (fun e=>by rw [e,hq] at hb;cases hb),Heap.del_other hy];exact hb
theorem St.put {H G:Heap} {Ts:List Th} {q:Nat} {b:List AV} (s:St H Ts G) (i:Nat) (h:Ts[i]?=some (cellT q b)) (c:List AV):St H (Ts.set i (cellT q c)) (G.set q c):=by
  refine s.repl i h (cellT q c) (by simp [cellT]) (fun y hy=>.inl hy) (fun y bb hb hy=>?_) (Heap.set_same _ _ _)
  simp only [cellT,List.mem_singleton] at hy
  rw [Heap.set_other hy];exact hb
theorem St.sub {H G:Heap} {Ts Us:List Th} (s:St H Ts G) (h:List.Sublist Us Ts):St H Us G:=
  ⟨s.le,List.Nodup.sublist (sub_flat h) s.nd,fun t ht=>s.fr t (h.subset ht),fun t ht=>s.ok t (h.subset ht)⟩
theorem St.erase {H G:Heap} {Ts:List Th} (s:St H Ts G) (i:Nat):St H (Ts.eraseIdx i) G:=s.sub (List.eraseIdx_sublist Ts i)
theorem St.new {H G:Heap} {Ts:List Th} (s:St H Ts G):New H G (Ts.flatMap Th.D):=⟨s.nd,fun y hy=>by
  obtain ⟨t,ht,hyt⟩:=List.mem_flatMap.1 hy
  exact s.fr t ht y hyt,s.le⟩
theorem St.wkNone {H G:Heap} {Ts:List Th} (s:St H Ts G):∀y b,H y=some b→∀t∈Ts,y∉t.D:=fun y b hb t ht hy=>by rw [s.fr t ht y hy] at hb;cases hb
end Go.Sep
