/- Texts laid together: W7 W8. -/
import Derived.Test.YtolffbcnbcjeaaaGreatPkx4
import Derived.KernelRfl
set_option linter.unusedVariables false
set_option linter.unusedSimpArgs false
open Go.Sep.AV renaming any → Q_
open Nat renaming reduceAdd→ν1,reduceLeDiff→ν2,reduceLT→ν3,reduceMul→ν4,reduceSub→ν5
open Int renaming reduceToNat→ι1,reduceSub→ι2,reduceAdd→ι3,reduceNeg→ι4
open Array renaming toList→ι5
open Ne renaming symm→ν6
open List renaming forall_mem_cons→ν7
namespace Go.Proofs.YtolffbcnbcjeaaaGreat
open Go Go.Sep
attribute [local irreducible] wpC headF
def D92:Info:=⟨36,fun i=>([],[]),fun i=>if i=3 then ([10,11],[3,12]) else ([],[])⟩
def L92_0 (K:AV→Heap→Prop) (v3:AV) (v10:AV) (v11:AV) (v12:AV) (H:Heap):Prop:=LoopV (wpC Tryz.prog tab D92 (cAt [1,1,0,1,0,0] (bO_ Tryz.f92))) [10,11] (PostF.block 0 (PostF.thenA (wpC Tryz.prog tab D92 (cAt [1,1,1] (bO_ Tryz.f92))) (retF tab [.tmp 2] K))) [3,12] [Q_,Q_,Q_,v3,Q_,Q_,Q_,Q_,Q_,Q_,v10,v11,v12,Q_,Q_,Q_,Q_,Q_,Q_,Q_,Q_,Q_,Q_,Q_,Q_,Q_,Q_,Q_,Q_,Q_,Q_,Q_,Q_,Q_,Q_,Q_] H
def J92_1 (K:AV→Heap→Prop) (N1:AV→AV→Heap→Prop) (v3:AV) (v4:AV) (v10:AV) (v11:AV) (v12:AV) (v18:AV) (v19:AV) (H:Heap):Prop:=
 cV_ v19 (CallT Tryz.prog 72 [v3,v4] H fun v24 H4=>
 binV tab .sub 3 v4 (AV.p (.int .i64 1)) fun v26=>
 CallT Tryz.prog 72 [v24,v26] H4 fun v27 H5=>
 binV tab .add 3 v12 (AV.p (.int .i64 1)) fun v34=>
 N1 v27 v34 H5)
 (binV tab .eql 3 v18 (AV.p (.int .i64 4)) fun v29=>
 cV_ v29 (binV tab .sub 3 v4 (AV.p (.int .i64 1)) fun v32=>
 CallT Tryz.prog 72 [v3,v32] H fun v33 H6=>
 binV tab .add 3 v12 (AV.p (.int .i64 1)) fun v34=>
 N1 v33 v34 H6)
 (binV tab .add 3 v12 (AV.p (.int .i64 1)) fun v34=>
 N1 v3 v34 H))
def B92_0 (K:AV→Heap→Prop) (N1:AV→AV→Heap→Prop) (v3:AV) (v10:AV) (v11:AV) (v12:AV) (H:Heap):Prop:=
 binV tab .lss 3 v12 v11 fun v13=>
 cV_ v13 (iA_ tab 45 v10 v12 fun v15=>
 lV_ tab 76 v15 H fun v16=>
 allocV tab 76 H fun v5 H2=>
 sV_ tab 76 v5 v16 H2 fun H3=>
 fA_ tab 76 v5 0 fun v17=>
 lV_ tab 3 v17 H3 fun v18=>
 binV tab .eql 3 v18 (AV.p (.int .i64 7)) fun v20=>
 cV_ v20 (J92_1 K N1 v3 v12 v10 v11 v12 v18 v20 H3)
 (binV tab .eql 3 v18 (AV.p (.int .i64 8)) fun v21=>
 J92_1 K N1 v3 v12 v10 v11 v12 v18 v21 H3))
 (K v3 H)
def W92 (v0:AV) (H:Heap) (K:AV→Heap→Prop):Prop:=
 lenV tab 45 v0 fun v7=>
 binV tab .sub 3 v7 (AV.p (.int .i64 1)) fun v8=>
 bS_ tab 22 1 [(0,v8)] H (wkK fun v9 H1=>
 lenV tab 45 v0 fun v11=>
 L92_0 K v9 v0 v11 (AV.p (.int .i64 0)) H1)
theorem W92_wp (v0:AV) (H:Heap) (K:AV→Heap→Prop):wpC Tryz.prog tab D92 (bO_ Tryz.f92) (retF tab [.tmp 2] K) (nthA [v0]) H=W92 v0 H K:=by kernel_rfl
theorem W92_ok {v0:AV} {H:Heap} {K:AV→Heap→Prop} (h:W92 v0 H K):CallT Tryz.prog 92 [v0] H K:=
 CallT.of_wp (D:=D92) tO_ mixed Tryz.func92 (c:=bO_ Tryz.f92) (by kernel_rfl) rfl (by kernel_rfl) (rs:=#[.tmp 2]) rfl (by decide +kernel) (by kernel_rfl) (W92_wp v0 H K) h
theorem L92_0_rule {K:AV→Heap→Prop} {v3 v10 v11 v12:AV} {H:Heap} {σ:Type} (s0:σ) (f3:σ→AV) (f12:σ→AV) (TH:σ→Heap) (pre:σ→Prop) (μ:σ→Nat)
  (h0:pre s0∧AV.wk v3 (f3 s0)∧AV.wk v12 (f12 s0)∧Heap.le (TH s0) H)
  (round:∀s,pre s→B92_0 K (fun w3 w12 H'=>∃s',pre s'∧μ s' < μ s∧AV.wk w3 (f3 s')∧AV.wk w12 (f12 s')∧Heap.le (TH s') H') (f3 s) v10 v11 (f12 s) (TH s)) :
  L92_0 K v3 v10 v11 v12 H:=by
 unfold L92_0
 exact LoopV.mk s0 (fun s=>[f3 s,f12 s]) TH pre μ (fun _=>rfl) (Eq.mp (by kernel_rfl) h0) (fun s hs=>Eq.mp (by kernel_rfl) (round s hs))
def D93:Info:=⟨76,fun i=>([],[]),fun i=>if i=3 then ([1,12,13],[5,14]) else if i=8 then ([1,5,6,7,12,13,14],[8,9]) else ([],[])⟩
def L93_0 (K:AV→Heap→Prop) (v1:AV) (v5:AV) (v12:AV) (v13:AV) (v14:AV) (H:Heap):Prop:=LoopV (wpC Tryz.prog tab D93 (cAt [1,1,0,1,0,0] (bO_ Tryz.f93))) [1,12,13] (PostF.block 0 (PostF.thenA (wpC Tryz.prog tab D93 (cAt [1,1,1] (bO_ Tryz.f93))) (retF tab [.tmp 4] K))) [5,14] [Q_,v1,Q_,Q_,Q_,v5,Q_,Q_,Q_,Q_,Q_,Q_,v12,v13,v14,Q_,Q_,Q_,Q_,Q_,Q_,Q_,Q_,Q_,Q_,Q_,Q_,Q_,Q_,Q_,Q_,Q_,Q_,Q_,Q_,Q_,Q_,Q_,Q_,Q_,Q_,Q_,Q_,Q_,Q_,Q_,Q_,Q_,Q_,Q_,Q_,Q_,Q_,Q_,Q_,Q_,Q_,Q_,Q_,Q_,Q_,Q_,Q_,Q_,Q_,Q_,Q_,Q_,Q_,Q_,Q_,Q_,Q_,Q_,Q_,Q_] H
def L93_1 (K:AV→Heap→Prop) (N1:AV→AV→Heap→Prop) (v1:AV) (v5:AV) (v6:AV) (v7:AV) (v8:AV) (v9:AV) (v12:AV) (v13:AV) (v14:AV) (H:Heap):Prop:=LoopV (wpC Tryz.prog tab D93 (cAt [1,1,0,1,0,0,1,1,0,0,1,1,1,0,1,0,0] (bO_ Tryz.f93))) [1,5,6,7,12,13,14] (PostF.block 2 (PostF.thenA (wpC Tryz.prog tab D93 (cAt [1,1,0,1,0,0,1,1,0,0,1,1,1,1] (bO_ Tryz.f93))) (PostF.block 1 (PostF.thenA (wpC Tryz.prog tab D93 (cAt [1,1,0,1,0,0,1,1,1] (bO_ Tryz.f93))) (loopF (PostF.block 0 (PostF.thenA (wpC Tryz.prog tab D93 (cAt [1,1,1] (bO_ Tryz.f93))) (retF tab [.tmp 4] K))) (fun e h=>N1 (e 5) (e 14) h)))))) [8,9] [Q_,v1,Q_,Q_,Q_,v5,v6,v7,v8,v9,Q_,Q_,v12,v13,v14,Q_,Q_,Q_,Q_,Q_,Q_,Q_,Q_,Q_,Q_,Q_,Q_,Q_,Q_,Q_,Q_,Q_,Q_,Q_,Q_,Q_,Q_,Q_,Q_,Q_,Q_,Q_,Q_,Q_,Q_,Q_,Q_,Q_,Q_,Q_,Q_,Q_,Q_,Q_,Q_,Q_,Q_,Q_,Q_,Q_,Q_,Q_,Q_,Q_,Q_,Q_,Q_,Q_,Q_,Q_,Q_,Q_,Q_,Q_,Q_,Q_] H
def J93_2 (K:AV→Heap→Prop) (N1:AV→AV→Heap→Prop) (N2:AV→AV→Heap→Prop) (v1:AV) (v5:AV) (v6:AV) (v7:AV) (v8:AV) (v9:AV) (v12:AV) (v13:AV) (v14:AV) (H:Heap):Prop:=
 bS_ tab 22 1 [(0,v9)] H (wkK fun v68 H7=>
 aP_ tab 22 22 v8 v68 H7 (wkK fun v69 H8=>
 binV tab .add 3 v9 (AV.p (.int .i64 1)) fun v34=>
 N2 v69 v34 H8))
def J93_3 (K:AV→Heap→Prop) (N1:AV→AV→Heap→Prop) (N2:AV→AV→Heap→Prop) (v1:AV) (v5:AV) (v6:AV) (v7:AV) (v8:AV) (v9:AV) (v10:AV) (v11:AV) (v12:AV) (v13:AV) (v14:AV) (v58:AV) (H:Heap):Prop:=
 grdV v58 true (grdV v10 false (unV .not v11 fun v62=>
 cV_ v62 (bS_ tab 22 1 [(0,v9)] H (wkK fun v68 H5=>
 aP_ tab 22 22 v8 v68 H5 (wkK fun v69 H6=>
 binV tab .add 3 v9 (AV.p (.int .i64 1)) fun v34=>
 N2 v69 v34 H6)))
 (binV tab .add 3 v9 (AV.p (.int .i64 1)) fun v34=>
 N2 v8 v34 H))
 (J93_2 K N1 N2 v1 v5 v6 v7 v8 v9 v12 v13 v14 H))
 (binV tab .add 3 v9 (AV.p (.int .i64 1)) fun v34=>
 N2 v8 v34 H)
def B93_1 (K:AV→Heap→Prop) (N1:AV→AV→Heap→Prop) (N2:AV→AV→Heap→Prop) (v1:AV) (v5:AV) (v6:AV) (v7:AV) (v8:AV) (v9:AV) (v12:AV) (v13:AV) (v14:AV) (H:Heap):Prop:=
 lenV tab 22 v1 fun v29=>
 convV tab 3 111 v29 fun v30=>
 binV tab .shl 3 (AV.p (.int .i64 1)) v30 fun v31=>
 binV tab .lss 3 v9 v31 fun v32=>
 cV_ v32 (CallT Tryz.prog 94 [v1,v9,v6] H fun v38 H3=>
 binV tab .sub 3 v6 (AV.p (.int .i64 1)) fun v42=>
 CallT Tryz.prog 94 [v1,v9,v42] H3 fun v43 H4=>
 fA_ tab 76 v7 0 fun v44=>
 lV_ tab 3 v44 H4 fun v45=>
 binV tab .eql 3 v45 (AV.p (.int .i64 7)) fun v46=>
 grdV v46 true (unV .not v38 fun v49=>
 grdV v49 false (grdV v43 false (fA_ tab 76 v7 0 fun v55=>
 lV_ tab 3 v55 H4 fun v56=>
 binV tab .eql 3 v56 (AV.p (.int .i64 8)) fun v57=>
 J93_3 K N1 N2 v1 v5 v6 v7 v8 v9 v38 v43 v12 v13 v14 v57 H4)
 (J93_2 K N1 N2 v1 v5 v6 v7 v8 v9 v12 v13 v14 H4))
 (J93_2 K N1 N2 v1 v5 v6 v7 v8 v9 v12 v13 v14 H4))
 (fA_ tab 76 v7 0 fun v55=>
 lV_ tab 3 v55 H4 fun v56=>
 binV tab .eql 3 v56 (AV.p (.int .i64 8)) fun v57=>
 J93_3 K N1 N2 v1 v5 v6 v7 v8 v9 v38 v43 v12 v13 v14 v57 H4))
 (bS_ tab 24 1 [(0,v8)] H (wkK fun v72 H9=>
 aP_ tab 24 24 v5 v72 H9 (wkK fun v73 H10=>
 binV tab .add 3 v14 (AV.p (.int .i64 1)) fun v74=>
 N1 v73 v74 H10)))
def B93_0 (K:AV→Heap→Prop) (N1:AV→AV→Heap→Prop) (v1:AV) (v5:AV) (v12:AV) (v13:AV) (v14:AV) (H:Heap):Prop:=
 binV tab .lss 3 v14 v13 fun v15=>
 cV_ v15 (iA_ tab 45 v12 v14 fun v17=>
 lV_ tab 76 v17 H fun v18=>
 allocV tab 76 H fun v7 H1=>
 sV_ tab 76 v7 v18 H1 fun H2=>
 fA_ tab 76 v7 0 fun v19=>
 lV_ tab 3 v19 H2 fun v20=>
 binV tab .neq 3 v20 (AV.p (.int .i64 7)) fun v21=>
 grdV v21 true (fA_ tab 76 v7 0 fun v23=>
 lV_ tab 3 v23 H2 fun v24=>
 binV tab .neq 3 v24 (AV.p (.int .i64 8)) fun v25=>
 cV_ v25 (binV tab .add 3 v14 (AV.p (.int .i64 1)) fun v74=>
 N1 v5 v74 H2)
 (L93_1 K N1 v1 v5 v14 v7 (AV.p .nil) (AV.p (.int .i64 0)) v12 v13 v14 H2))
 (L93_1 K N1 v1 v5 v14 v7 (AV.p .nil) (AV.p (.int .i64 0)) v12 v13 v14 H2))
 (K v5 H)
def W93 (v0:AV) (v1:AV) (H:Heap) (K:AV→Heap→Prop):Prop:=
 lenV tab 45 v0 fun v13=>
 L93_0 K v1 (AV.p .nil) v0 v13 (AV.p (.int .i64 0)) H
theorem W93_wp (v0:AV) (v1:AV) (H:Heap) (K:AV→Heap→Prop):wpC Tryz.prog tab D93 (bO_ Tryz.f93) (retF tab [.tmp 4] K) (nthA [v0,v1]) H=W93 v0 v1 H K:=by kernel_rfl
theorem W93_ok {v0 v1:AV} {H:Heap} {K:AV→Heap→Prop} (h:W93 v0 v1 H K):CallT Tryz.prog 93 [v0,v1] H K:=
 CallT.of_wp (D:=D93) tO_ mixed Tryz.func93 (c:=bO_ Tryz.f93) (by kernel_rfl) rfl (by kernel_rfl) (rs:=#[.tmp 4]) rfl (by decide +kernel) (by kernel_rfl) (W93_wp v0 v1 H K) h
theorem L93_1_rule {K:AV→Heap→Prop} {N1:AV→AV→Heap→Prop} {v1 v5 v6 v7 v8 v9 v12 v13 v14:AV} {H:Heap} {σ:Type} (s0:σ) (f8:σ→AV) (f9:σ→AV) (TH:σ→Heap) (pre:σ→Prop) (μ:σ→Nat)
  (h0:pre s0∧AV.wk v8 (f8 s0)∧AV.wk v9 (f9 s0)∧Heap.le (TH s0) H)
  (round:∀s,pre s→B93_1 K N1 (fun w8 w9 H'=>∃s',pre s'∧μ s' < μ s∧AV.wk w8 (f8 s')∧AV.wk w9 (f9 s')∧Heap.le (TH s') H') v1 v5 v6 v7 (f8 s) (f9 s) v12 v13 v14 (TH s)) :
  L93_1 K N1 v1 v5 v6 v7 v8 v9 v12 v13 v14 H:=by
 unfold L93_1
 exact LoopV.mk s0 (fun s=>[f8 s,f9 s]) TH pre μ (fun _=>rfl) (Eq.mp (by kernel_rfl) h0) (fun s hs=>Eq.mp (by kernel_rfl) (round s hs))
theorem L93_0_ruleG {K:AV→Heap→Prop} {v1 v5 v12 v13 v14:AV} {H:Heap} {σ:Type} (s0:σ) (f5:σ→AV) (f14:σ→AV) (TH:σ→Heap) (pre:σ→Prop) (μ:σ→Nat)
  (h0:pre s0∧AV.wk v5 (f5 s0)∧AV.wk v14 (f14 s0)∧Heap.le (TH s0) H)
  (round:∀s,pre s→∀q,TH s q=none→B93_0 K (fun w5 w14 H'=>∃s',pre s'∧μ s' < μ s∧AV.wk w5 (f5 s')∧AV.wk w14 (f14 s')∧Heap.le (TH s') H') v1 (f5 s) v12 v13 (f14 s) ((TH s).set q [])) :
  L93_0 K v1 v5 v12 v13 v14 H:=by
 unfold L93_0
 exact LoopV.mkG s0 (fun s=>[f5 s,f14 s]) TH pre μ (fun _=>rfl) (Eq.mp (by kernel_rfl) h0) (fun s hs q hq=>Eq.mp (by kernel_rfl) (round s hs q hq))
def D94:Info:=⟨26,fun i=>([],[]),fun i=>if i=2 then ([1,2,9,10],[11]) else ([],[])⟩
def L94_0 (K:AV→Heap→Prop) (v1:AV) (v2:AV) (v9:AV) (v10:AV) (v11:AV) (H:Heap):Prop:=LoopV (wpC Tryz.prog tab D94 (cAt [1,0,1,0,0] (bO_ Tryz.f94))) [1,2,9,10] (PostF.block 0 (PostF.thenA (wpC Tryz.prog tab D94 (cAt [1,1] (bO_ Tryz.f94))) (retF tab [.tmp 6] K))) [11] [Q_,v1,v2,Q_,Q_,Q_,Q_,Q_,Q_,v9,v10,v11,Q_,Q_,Q_,Q_,Q_,Q_,Q_,Q_,Q_,Q_,Q_,Q_,Q_,Q_] H
def B94_0 (K:AV→Heap→Prop) (N1:AV→Heap→Prop) (v1:AV) (v2:AV) (v9:AV) (v10:AV) (v11:AV) (H:Heap):Prop:=
 binV tab .lss 3 v11 v10 fun v12=>
 cV_ v12 (iA_ tab 22 v9 v11 fun v14=>
 lV_ tab 3 v14 H fun v15=>
 binV tab .eql 3 v15 v2 fun v18=>
 cV_ v18 (convV tab 3 111 v11 fun v21=>
 binV tab .shr 3 v1 v21 fun v22=>
 binV tab .and 3 v22 (AV.p (.int .i64 1)) fun v23=>
 binV tab .eql 3 v23 (AV.p (.int .i64 1)) fun v24=>
 K v24 H)
 (binV tab .add 3 v11 (AV.p (.int .i64 1)) fun v25=>
 N1 v25 H))
 (K (AV.p (.bool false)) H)
def W94 (v0:AV) (v1:AV) (v2:AV) (H:Heap) (K:AV→Heap→Prop):Prop:=
 lenV tab 22 v0 fun v10=>
 L94_0 K v1 v2 v0 v10 (AV.p (.int .i64 0)) H
theorem W94_wp (v0:AV) (v1:AV) (v2:AV) (H:Heap) (K:AV→Heap→Prop):wpC Tryz.prog tab D94 (bO_ Tryz.f94) (retF tab [.tmp 6] K) (nthA [v0,v1,v2]) H=W94 v0 v1 v2 H K:=by kernel_rfl
theorem W94_ok {v0 v1 v2:AV} {H:Heap} {K:AV→Heap→Prop} (h:W94 v0 v1 v2 H K):CallT Tryz.prog 94 [v0,v1,v2] H K:=
 CallT.of_wp (D:=D94) tO_ mixed Tryz.func94 (c:=bO_ Tryz.f94) (by kernel_rfl) rfl (by kernel_rfl) (rs:=#[.tmp 6]) rfl (by decide +kernel) (by kernel_rfl) (W94_wp v0 v1 v2 H K) h
theorem L94_0_rule {K:AV→Heap→Prop} {v1 v2 v9 v10 v11:AV} {H:Heap} {σ:Type} (s0:σ) (f11:σ→AV) (TH:σ→Heap) (pre:σ→Prop) (μ:σ→Nat)
  (h0:pre s0∧AV.wk v11 (f11 s0)∧Heap.le (TH s0) H)
  (round:∀s,pre s→B94_0 K (fun w11 H'=>∃s',pre s'∧μ s' < μ s∧AV.wk w11 (f11 s')∧Heap.le (TH s') H') v1 v2 v9 v10 (f11 s) (TH s)) :
  L94_0 K v1 v2 v9 v10 v11 H:=by
 unfold L94_0
 exact LoopV.mk s0 (fun s=>[f11 s]) TH pre μ (fun _=>rfl) (Eq.mp (by kernel_rfl) h0) (fun s hs=>Eq.mp (by kernel_rfl) (round s hs))
def D95:Info:=⟨36,fun i=>([],[]),fun i=>if i=4 then ([9,18,19],[10,20]) else ([],[])⟩
def L95_0 (K:AV→Heap→Prop) (v9:AV) (v10:AV) (v18:AV) (v19:AV) (v20:AV) (H:Heap):Prop:=LoopV (wpC Tryz.prog tab D95 (cAt [1,1,1,0,1,0,0] (bO_ Tryz.f95))) [9,18,19] (PostF.block 0 (PostF.thenA (wpC Tryz.prog tab D95 (cAt [1,1,1,1] (bO_ Tryz.f95))) (retF tab [.tmp 8] K))) [10,20] [Q_,Q_,Q_,Q_,Q_,Q_,Q_,Q_,Q_,v9,v10,Q_,Q_,Q_,Q_,Q_,Q_,Q_,v18,v19,v20,Q_,Q_,Q_,Q_,Q_,Q_,Q_,Q_,Q_,Q_,Q_,Q_,Q_,Q_,Q_] H
def B95_0 (K:AV→Heap→Prop) (N1:AV→AV→Heap→Prop) (v9:AV) (v10:AV) (v18:AV) (v19:AV) (v20:AV) (H:Heap):Prop:=
 binV tab .lss 3 v20 v19 fun v21=>
 cV_ v21 (iA_ tab 22 v18 v20 fun v23=>
 lV_ tab 3 v23 H fun v24=>
 iA_ tab 116 v9 v24 fun v27=>
 lV_ tab 4 v27 H fun v28=>
 cV_ v28 (convV tab 3 111 v20 fun v31=>
 binV tab .shl 3 (AV.p (.int .i64 1)) v31 fun v32=>
 binV tab .or 3 v10 v32 fun v33=>
 binV tab .add 3 v20 (AV.p (.int .i64 1)) fun v34=>
 N1 v33 v34 H)
 (binV tab .add 3 v20 (AV.p (.int .i64 1)) fun v34=>
 N1 v10 v34 H))
 (K v10 H)
def W95 (v0:AV) (v1:AV) (v2:AV) (v3:AV) (H:Heap) (K:AV→Heap→Prop):Prop:=
 CallT Tryz.prog 124 [v0,v1,v2,v3] H fun v17 H1=>
 lenV tab 22 v1 fun v19=>
 L95_0 K v17 (AV.p (.int .i64 0)) v1 v19 (AV.p (.int .i64 0)) H1
theorem W95_wp (v0:AV) (v1:AV) (v2:AV) (v3:AV) (H:Heap) (K:AV→Heap→Prop):wpC Tryz.prog tab D95 (bO_ Tryz.f95) (retF tab [.tmp 8] K) (nthA [v0,v1,v2,v3]) H=W95 v0 v1 v2 v3 H K:=by kernel_rfl
theorem W95_ok {v0 v1 v2 v3:AV} {H:Heap} {K:AV→Heap→Prop} (h:W95 v0 v1 v2 v3 H K):CallT Tryz.prog 95 [v0,v1,v2,v3] H K:=
 CallT.of_wp (D:=D95) tO_ mixed Tryz.func95 (c:=bO_ Tryz.f95) (by kernel_rfl) rfl (by kernel_rfl) (rs:=#[.tmp 8]) rfl (by decide +kernel) (by kernel_rfl) (W95_wp v0 v1 v2 v3 H K) h
theorem L95_0_rule {K:AV→Heap→Prop} {v9 v10 v18 v19 v20:AV} {H:Heap} {σ:Type} (s0:σ) (f10:σ→AV) (f20:σ→AV) (TH:σ→Heap) (pre:σ→Prop) (μ:σ→Nat)
  (h0:pre s0∧AV.wk v10 (f10 s0)∧AV.wk v20 (f20 s0)∧Heap.le (TH s0) H)
  (round:∀s,pre s→B95_0 K (fun w10 w20 H'=>∃s',pre s'∧μ s' < μ s∧AV.wk w10 (f10 s')∧AV.wk w20 (f20 s')∧Heap.le (TH s') H') v9 (f10 s) v18 v19 (f20 s) (TH s)) :
  L95_0 K v9 v10 v18 v19 v20 H:=by
 unfold L95_0
 exact LoopV.mk s0 (fun s=>[f10 s,f20 s]) TH pre μ (fun _=>rfl) (Eq.mp (by kernel_rfl) h0) (fun s hs=>Eq.mp (by kernel_rfl) (round s hs))
def D96:Info:=⟨9,fun i=>([],[]),fun i=>([],[])⟩
def W96 (v0:AV) (H:Heap) (K:AV→Heap→Prop):Prop:=
 boxV v0 H fun v1 H1=>
 allocV tab 34 H1 fun v2 H2=>
 lV_ tab 34 v1 H2 fun v4=>
 CallT Tryz.prog 38 [v4] H2 fun v5 H3=>
 unV .not v5 fun v6=>
 cV_ v6 (buildV tab 34 [] fun v7=>
 sV_ tab 34 v2 v7 H3 fun H4=>
 lV_ tab 34 v2 H4 fun r0=>
 K (.tup [r0,(AV.p (.bool false))]) H4)
 (lV_ tab 34 v1 H3 fun v8=>
 sV_ tab 34 v2 v8 H3 fun H5=>
 lV_ tab 34 v2 H5 fun r0=>
 K (.tup [r0,(AV.p (.bool true))]) H5)
theorem W96_wp (v0:AV) (H:Heap) (K:AV→Heap→Prop):wpC Tryz.prog tab D96 (bO_ Tryz.f96) (retF tab [.cell 2 34,.tmp 3] K) (nthA [v0]) H=W96 v0 H K:=by kernel_rfl
theorem W96_ok {v0:AV} {H:Heap} {K:AV→Heap→Prop} (h:W96 v0 H K):CallT Tryz.prog 96 [v0] H K:=
 CallT.of_wp (D:=D96) tO_ mixed Tryz.func96 (c:=bO_ Tryz.f96) (by kernel_rfl) rfl (by kernel_rfl) (rs:=#[.cell 2 34,.tmp 3]) rfl (by decide +kernel) (by kernel_rfl) (W96_wp v0 H K) h
def D97:Info:=⟨64,fun i=>([],[]),fun i=>if i=4 then ([0,5,6,17,18],[19]) else if i=8 then ([0,5],[6]) else if i=11 then ([0,5,37,38],[6,39]) else ([],[])⟩
def L97_0 (K:AV→Heap→Prop) (v0:AV) (v5:AV) (v6:AV) (v17:AV) (v18:AV) (v19:AV) (H:Heap):Prop:=LoopV (wpC Tryz.prog tab D97 (cAt [1,1,1,0,1,0,0] (bO_ Tryz.f97))) [0,5,6,17,18] (PostF.block 0 (PostF.thenA (wpC Tryz.prog tab D97 (cAt [1,1,1,1] (bO_ Tryz.f97))) (retF tab [.tmp 4] K))) [19] [v0,Q_,Q_,Q_,Q_,v5,v6,Q_,Q_,Q_,Q_,Q_,Q_,Q_,Q_,Q_,Q_,v17,v18,v19,Q_,Q_,Q_,Q_,Q_,Q_,Q_,Q_,Q_,Q_,Q_,Q_,Q_,Q_,Q_,Q_,Q_,Q_,Q_,Q_,Q_,Q_,Q_,Q_,Q_,Q_,Q_,Q_,Q_,Q_,Q_,Q_,Q_,Q_,Q_,Q_,Q_,Q_,Q_,Q_,Q_,Q_,Q_,Q_] H
def L97_1 (K:AV→Heap→Prop) (v0:AV) (v5:AV) (v6:AV) (H:Heap):Prop:=LoopV (wpC Tryz.prog tab D97 (cAt [1,1,1,1,0,0,0] (bO_ Tryz.f97))) [0,5] (PostF.block 2 (PostF.thenA (wpC Tryz.prog tab D97 (cAt [1,1,1,1,1] (bO_ Tryz.f97))) (retF tab [.tmp 4] K))) [6] [v0,Q_,Q_,Q_,Q_,v5,v6,Q_,Q_,Q_,Q_,Q_,Q_,Q_,Q_,Q_,Q_,Q_,Q_,Q_,Q_,Q_,Q_,Q_,Q_,Q_,Q_,Q_,Q_,Q_,Q_,Q_,Q_,Q_,Q_,Q_,Q_,Q_,Q_,Q_,Q_,Q_,Q_,Q_,Q_,Q_,Q_,Q_,Q_,Q_,Q_,Q_,Q_,Q_,Q_,Q_,Q_,Q_,Q_,Q_,Q_,Q_,Q_,Q_] H
def L97_2 (K:AV→Heap→Prop) (N1:AV→Heap→Prop) (v0:AV) (v5:AV) (v6:AV) (v37:AV) (v38:AV) (v39:AV) (H:Heap):Prop:=LoopV (wpC Tryz.prog tab D97 (cAt [1,1,1,1,0,0,0,1,0,0,1,0,0] (bO_ Tryz.f97))) [0,5,37,38] (PostF.block 4 (PostF.block 3 (PostF.thenA (wpC Tryz.prog tab D97 (cAt [1,1,1,1,0,0,0,1,1] (bO_ Tryz.f97))) (loopF (PostF.block 2 (PostF.thenA (wpC Tryz.prog tab D97 (cAt [1,1,1,1,1] (bO_ Tryz.f97))) (retF tab [.tmp 4] K))) (fun e h=>N1 (e 6) h))))) [6,39] [v0,Q_,Q_,Q_,Q_,v5,v6,Q_,Q_,Q_,Q_,Q_,Q_,Q_,Q_,Q_,Q_,Q_,Q_,Q_,Q_,Q_,Q_,Q_,Q_,Q_,Q_,Q_,Q_,Q_,Q_,Q_,Q_,Q_,Q_,Q_,Q_,v37,v38,v39,Q_,Q_,Q_,Q_,Q_,Q_,Q_,Q_,Q_,Q_,Q_,Q_,Q_,Q_,Q_,Q_,Q_,Q_,Q_,Q_,Q_,Q_,Q_,Q_] H
def B97_2 (K:AV→Heap→Prop) (N1:AV→Heap→Prop) (N2:AV→AV→Heap→Prop) (v0:AV) (v5:AV) (v6:AV) (v37:AV) (v38:AV) (v39:AV) (H:Heap):Prop:=
 binV tab .lss 3 v39 v38 fun v40=>
 cV_ v40 (iA_ tab 22 v37 v39 fun v41=>
 lV_ tab 3 v41 H fun v42=>
 iA_ tab 22 v5 v42 fun v45=>
 lV_ tab 3 v45 H fun v46=>
 binV tab .lss 3 v46 (AV.p (.int .i64 0)) fun v47=>
 cV_ v47 (iA_ tab 22 v6 (AV.p (.int .i64 0)) fun v52=>
 lV_ tab 3 v52 H fun v53=>
 iA_ tab 22 v5 v53 fun v54=>
 lV_ tab 3 v54 H fun v55=>
 binV tab .add 3 v55 (AV.p (.int .i64 1)) fun v56=>
 iA_ tab 22 v5 v42 fun v57=>
 sV_ tab 3 v57 v56 H fun H5=>
 bS_ tab 22 1 [(0,v42)] H5 (wkK fun v60 H6=>
 aP_ tab 22 22 v6 v60 H6 (wkK fun v61 H7=>
 binV tab .add 3 v39 (AV.p (.int .i64 1)) fun v62=>
 N2 v61 v62 H7)))
 (binV tab .add 3 v39 (AV.p (.int .i64 1)) fun v62=>
 N2 v6 v62 H))
 (sliceV tab 22 v6 (some (AV.p (.int .i64 1))) none none fun v31=>
 N1 v31 H)
def B97_1 (K:AV→Heap→Prop) (N1:AV→Heap→Prop) (v0:AV) (v5:AV) (v6:AV) (H:Heap):Prop:=
 lenV tab 22 v6 fun v28=>
 binV tab .gtr 3 v28 (AV.p (.int .i64 0)) fun v29=>
 cV_ v29 (iA_ tab 22 v6 (AV.p (.int .i64 0)) fun v34=>
 lV_ tab 3 v34 H fun v35=>
 iA_ tab 24 v0 v35 fun v36=>
 lV_ tab 22 v36 H fun v37=>
 lenV tab 22 v37 fun v38=>
 L97_2 K N1 v0 v5 v6 v37 v38 (AV.p (.int .i64 0)) H)
 (K v5 H)
def B97_0 (K:AV→Heap→Prop) (N1:AV→Heap→Prop) (v0:AV) (v5:AV) (v6:AV) (v17:AV) (v18:AV) (v19:AV) (H:Heap):Prop:=
 binV tab .lss 3 v19 v18 fun v20=>
 cV_ v20 (iA_ tab 22 v17 v19 fun v21=>
 lV_ tab 3 v21 H fun v22=>
 iA_ tab 22 v5 v22 fun v25=>
 sV_ tab 3 v25 (AV.p (.int .i64 0)) H fun H4=>
 binV tab .add 3 v19 (AV.p (.int .i64 1)) fun v26=>
 N1 v26 H4)
 (L97_1 K v0 v5 v6 H)
def W97 (v0:AV) (v1:AV) (H:Heap) (K:AV→Heap→Prop):Prop:=
 bS_ tab 22 1 [(0,(AV.p (.int .i64 (-1))))] H (wkK fun v11 H1=>
 lenV tab 24 v0 fun v13=>
 CallT Tryz.prog 117 [v11,v13] H1 fun v14 H2=>
 CallT Tryz.prog 82 [v1] H2 fun v16 H3=>
 lenV tab 22 v1 fun v18=>
 L97_0 K v0 v14 v16 v1 v18 (AV.p (.int .i64 0)) H3)
theorem W97_wp (v0:AV) (v1:AV) (H:Heap) (K:AV→Heap→Prop):wpC Tryz.prog tab D97 (bO_ Tryz.f97) (retF tab [.tmp 4] K) (nthA [v0,v1]) H=W97 v0 v1 H K:=by kernel_rfl
theorem W97_ok {v0 v1:AV} {H:Heap} {K:AV→Heap→Prop} (h:W97 v0 v1 H K):CallT Tryz.prog 97 [v0,v1] H K:=
 CallT.of_wp (D:=D97) tO_ mixed Tryz.func97 (c:=bO_ Tryz.f97) (by kernel_rfl) rfl (by kernel_rfl) (rs:=#[.tmp 4]) rfl (by decide +kernel) (by kernel_rfl) (W97_wp v0 v1 H K) h
theorem L97_2_rule {K:AV→Heap→Prop} {N1:AV→Heap→Prop} {v0 v5 v6 v37 v38 v39:AV} {H:Heap} {σ:Type} (s0:σ) (f6:σ→AV) (f39:σ→AV) (TH:σ→Heap) (pre:σ→Prop) (μ:σ→Nat)
  (h0:pre s0∧AV.wk v6 (f6 s0)∧AV.wk v39 (f39 s0)∧Heap.le (TH s0) H)
  (round:∀s,pre s→B97_2 K N1 (fun w6 w39 H'=>∃s',pre s'∧μ s' < μ s∧AV.wk w6 (f6 s')∧AV.wk w39 (f39 s')∧Heap.le (TH s') H') v0 v5 (f6 s) v37 v38 (f39 s) (TH s)) :
  L97_2 K N1 v0 v5 v6 v37 v38 v39 H:=by
 unfold L97_2
 exact LoopV.mk s0 (fun s=>[f6 s,f39 s]) TH pre μ (fun _=>rfl) (Eq.mp (by kernel_rfl) h0) (fun s hs=>Eq.mp (by kernel_rfl) (round s hs))
theorem L97_1_rule {K:AV→Heap→Prop} {v0 v5 v6:AV} {H:Heap} {σ:Type} (s0:σ) (f6:σ→AV) (TH:σ→Heap) (pre:σ→Prop) (μ:σ→Nat)
  (h0:pre s0∧AV.wk v6 (f6 s0)∧Heap.le (TH s0) H)
  (round:∀s,pre s→B97_1 K (fun w6 H'=>∃s',pre s'∧μ s' < μ s∧AV.wk w6 (f6 s')∧Heap.le (TH s') H') v0 v5 (f6 s) (TH s)) :
  L97_1 K v0 v5 v6 H:=by
 unfold L97_1
 exact LoopV.mk s0 (fun s=>[f6 s]) TH pre μ (fun _=>rfl) (Eq.mp (by kernel_rfl) h0) (fun s hs=>Eq.mp (by kernel_rfl) (round s hs))
theorem L97_0_rule {K:AV→Heap→Prop} {v0 v5 v6 v17 v18 v19:AV} {H:Heap} {σ:Type} (s0:σ) (f19:σ→AV) (TH:σ→Heap) (pre:σ→Prop) (μ:σ→Nat)
  (h0:pre s0∧AV.wk v19 (f19 s0)∧Heap.le (TH s0) H)
  (round:∀s,pre s→B97_0 K (fun w19 H'=>∃s',pre s'∧μ s' < μ s∧AV.wk w19 (f19 s')∧Heap.le (TH s') H') v0 v5 v6 v17 v18 (f19 s) (TH s)) :
  L97_0 K v0 v5 v6 v17 v18 v19 H:=by
 unfold L97_0
 exact LoopV.mk s0 (fun s=>[f19 s]) TH pre μ (fun _=>rfl) (Eq.mp (by kernel_rfl) h0) (fun s hs=>Eq.mp (by kernel_rfl) (round s hs))
def D98:Info:=⟨125,fun i=>if i=2 then ([[],[0],[],[2],[0,1],[0,1,2,3,4]],[(0,[]),(2,[]),(1,[3]),(4,[]),(3,[3]),(5,[])]) else if i=9 then ([[],[],[],[1,2],[1,2,3],[],[],[],[6,7],[6,7,8],[5,6,7,8,9],[5,6,7,8,9,10],[5,6,7,8,9,10,11],[5,6,7,8,9,10,11,12],[5,6,7,8,9,10,11,12],[5,6,7,8,9,10,11,12,13,14],[5,6,7,8,9,10,11,12,13,14,15],[5,6,7,8,9,10,11,12],[5,6,7,8,9,10,11,12],[5,6,7,8,9,10,11,12,17,18],[5,6,7,8,9,10,11,12,17,18,19],[5,6,7,8,9,10,11,12,13,14,15,16,17,18,19,20],[5,6,7,8,9,10,11,12,13,14,15,16,17,18,19,20,21],[0,1,2,3,4,5,6,7,8,9,10,11,12,13,14,15,16,17,18,19,20,21,22],[0,1,2,3,4,5,6,7,8,9,10,11,12,13,14,15,16,17,18,19,20,21,22,23]],[(0,[]),(1,[]),(2,[]),(3,[]),(4,[]),(5,[]),(6,[]),(7,[]),(8,[]),(9,[]),(10,[]),(11,[]),(12,[]),(13,[]),(14,[]),(15,[]),(16,[]),(17,[]),(18,[]),(19,[]),(20,[]),(21,[]),(22,[]),(23,[]),(24,[])]) else ([],[]),fun i=>if i=4 then ([1,5,6,7,8,28,29],[30]) else if i=7 then ([1,5,6,7,8,9,28,29,30,35,36],[37]) else if i=13 then ([5,6,7,8,67,68],[69]) else if i=17 then ([5,6,7,8,15,67,68,69,75,76],[77]) else if i=22 then ([5,6,7,8,15,67,68,69,89],[90]) else if i=28 then ([5,7,8,109],[110]) else ([],[])⟩
def L98_0 (K:AV→Heap→Prop) (v1:AV) (v5:AV) (v6:AV) (v7:AV) (v8:AV) (v28:AV) (v29:AV) (v30:AV) (H:Heap):Prop:=LoopV (wpC Tryz.prog tab D98 (cAt [1,1,1,0,1,0,0] (bO_ Tryz.f98))) [1,5,6,7,8,28,29] (PostF.block 0 (PostF.thenA (wpC Tryz.prog tab D98 (cAt [1,1,1,1] (bO_ Tryz.f98))) (retF tab [.tmp 4] K))) [30] [Q_,v1,Q_,Q_,Q_,v5,v6,v7,v8,Q_,Q_,Q_,Q_,Q_,Q_,Q_,Q_,Q_,Q_,Q_,Q_,Q_,Q_,Q_,Q_,Q_,Q_,Q_,v28,v29,v30,Q_,Q_,Q_,Q_,Q_,Q_,Q_,Q_,Q_,Q_,Q_,Q_,Q_,Q_,Q_,Q_,Q_,Q_,Q_,Q_,Q_,Q_,Q_,Q_,Q_,Q_,Q_,Q_,Q_,Q_,Q_,Q_,Q_,Q_,Q_,Q_,Q_,Q_,Q_,Q_,Q_,Q_,Q_,Q_,Q_,Q_,Q_,Q_,Q_,Q_,Q_,Q_,Q_,Q_,Q_,Q_,Q_,Q_,Q_,Q_,Q_,Q_,Q_,Q_,Q_,Q_,Q_,Q_,Q_,Q_,Q_,Q_,Q_,Q_,Q_,Q_,Q_,Q_,Q_,Q_,Q_,Q_,Q_,Q_,Q_,Q_,Q_,Q_,Q_,Q_,Q_,Q_,Q_,Q_] H
def L98_1 (K:AV→Heap→Prop) (N1:AV→Heap→Prop) (v1:AV) (v5:AV) (v6:AV) (v7:AV) (v8:AV) (v9:AV) (v28:AV) (v29:AV) (v30:AV) (v35:AV) (v36:AV) (v37:AV) (H:Heap):Prop:=LoopV (wpC Tryz.prog tab D98 (cAt [1,1,1,0,1,0,0,1,1,0,0,1,1,0,0] (bO_ Tryz.f98))) [1,5,6,7,8,9,28,29,30,35,36] (PostF.block 2 (PostF.block 1 (PostF.thenA (wpC Tryz.prog tab D98 (cAt [1,1,1,0,1,0,0,1,1,1] (bO_ Tryz.f98))) (loopF (PostF.block 0 (PostF.thenA (wpC Tryz.prog tab D98 (cAt [1,1,1,1] (bO_ Tryz.f98))) (retF tab [.tmp 4] K))) (fun e h=>N1 (e 30) h))))) [37] [Q_,v1,Q_,Q_,Q_,v5,v6,v7,v8,v9,Q_,Q_,Q_,Q_,Q_,Q_,Q_,Q_,Q_,Q_,Q_,Q_,Q_,Q_,Q_,Q_,Q_,Q_,v28,v29,v30,Q_,Q_,Q_,Q_,v35,v36,v37,Q_,Q_,Q_,Q_,Q_,Q_,Q_,Q_,Q_,Q_,Q_,Q_,Q_,Q_,Q_,Q_,Q_,Q_,Q_,Q_,Q_,Q_,Q_,Q_,Q_,Q_,Q_,Q_,Q_,Q_,Q_,Q_,Q_,Q_,Q_,Q_,Q_,Q_,Q_,Q_,Q_,Q_,Q_,Q_,Q_,Q_,Q_,Q_,Q_,Q_,Q_,Q_,Q_,Q_,Q_,Q_,Q_,Q_,Q_,Q_,Q_,Q_,Q_,Q_,Q_,Q_,Q_,Q_,Q_,Q_,Q_,Q_,Q_,Q_,Q_,Q_,Q_,Q_,Q_,Q_,Q_,Q_,Q_,Q_,Q_,Q_,Q_] H
def B98_1 (K:AV→Heap→Prop) (N1:AV→Heap→Prop) (N2:AV→Heap→Prop) (v1:AV) (v5:AV) (v6:AV) (v7:AV) (v8:AV) (v9:AV) (v28:AV) (v29:AV) (v30:AV) (v35:AV) (v36:AV) (v37:AV) (H:Heap):Prop:=
 binV tab .lss 3 v37 v36 fun v38=>
 cV_ v38 (iA_ tab 22 v35 v37 fun v39=>
 lV_ tab 3 v39 H fun v40=>
 iA_ tab 22 v5 v9 fun v44=>
 lV_ tab 3 v44 H fun v45=>
 iA_ tab 22 v5 v9 fun v49=>
 lV_ tab 3 v49 H fun v50=>
 iA_ tab 116 v7 v50 fun v51=>
 lV_ tab 4 v51 H fun v52=>
 grdV v52 false (iA_ tab 22 v5 v40 fun v56=>
 lV_ tab 3 v56 H fun v57=>
 iA_ tab 22 v5 v9 fun v60=>
 lV_ tab 3 v60 H fun v61=>
 binV tab .eql 3 v57 v61 fun v62=>
 iA_ tab 116 v7 v45 fun v64=>
 sV_ tab 4 v64 v62 H fun H4=>
 binV tab .add 3 v37 (AV.p (.int .i64 1)) fun v65=>
 N2 v65 H4)
 (iA_ tab 116 v7 v45 fun v64=>
 sV_ tab 4 v64 (AV.p (.bool true)) H fun H5=>
 binV tab .add 3 v37 (AV.p (.int .i64 1)) fun v65=>
 N2 v65 H5))
 (binV tab .add 3 v30 (AV.p (.int .i64 1)) fun v66=>
 N1 v66 H)
def L98_2 (K:AV→Heap→Prop) (v5:AV) (v6:AV) (v7:AV) (v8:AV) (v67:AV) (v68:AV) (v69:AV) (H:Heap):Prop:=LoopV (wpC Tryz.prog tab D98 (cAt [1,1,1,1,0,1,0,0] (bO_ Tryz.f98))) [5,6,7,8,67,68] (PostF.block 4 (PostF.thenA (wpC Tryz.prog tab D98 (cAt [1,1,1,1,1] (bO_ Tryz.f98))) (retF tab [.tmp 4] K))) [69] [Q_,Q_,Q_,Q_,Q_,v5,v6,v7,v8,Q_,Q_,Q_,Q_,Q_,Q_,Q_,Q_,Q_,Q_,Q_,Q_,Q_,Q_,Q_,Q_,Q_,Q_,Q_,Q_,Q_,Q_,Q_,Q_,Q_,Q_,Q_,Q_,Q_,Q_,Q_,Q_,Q_,Q_,Q_,Q_,Q_,Q_,Q_,Q_,Q_,Q_,Q_,Q_,Q_,Q_,Q_,Q_,Q_,Q_,Q_,Q_,Q_,Q_,Q_,Q_,Q_,Q_,v67,v68,v69,Q_,Q_,Q_,Q_,Q_,Q_,Q_,Q_,Q_,Q_,Q_,Q_,Q_,Q_,Q_,Q_,Q_,Q_,Q_,Q_,Q_,Q_,Q_,Q_,Q_,Q_,Q_,Q_,Q_,Q_,Q_,Q_,Q_,Q_,Q_,Q_,Q_,Q_,Q_,Q_,Q_,Q_,Q_,Q_,Q_,Q_,Q_,Q_,Q_,Q_,Q_,Q_,Q_,Q_,Q_] H
def L98_3 (K:AV→Heap→Prop) (N1:AV→Heap→Prop) (v5:AV) (v6:AV) (v7:AV) (v8:AV) (v15:AV) (v67:AV) (v68:AV) (v69:AV) (v75:AV) (v76:AV) (v77:AV) (H:Heap):Prop:=LoopV (wpC Tryz.prog tab D98 (cAt [1,1,1,1,0,1,0,0,1,1,0,0,1,1,0,1,0,0] (bO_ Tryz.f98))) [5,6,7,8,15,67,68,69,75,76] (PostF.block 6 (PostF.thenA (wpC Tryz.prog tab D98 (cAt [1,1,1,1,0,1,0,0,1,1,0,0,1,1,1] (bO_ Tryz.f98))) (PostF.block 5 (PostF.thenA (wpC Tryz.prog tab D98 (cAt [1,1,1,1,0,1,0,0,1,1,1] (bO_ Tryz.f98))) (loopF (PostF.block 4 (PostF.thenA (wpC Tryz.prog tab D98 (cAt [1,1,1,1,1] (bO_ Tryz.f98))) (retF tab [.tmp 4] K))) (fun e h=>N1 (e 69) h)))))) [77] [Q_,Q_,Q_,Q_,Q_,v5,v6,v7,v8,Q_,Q_,Q_,Q_,Q_,Q_,v15,Q_,Q_,Q_,Q_,Q_,Q_,Q_,Q_,Q_,Q_,Q_,Q_,Q_,Q_,Q_,Q_,Q_,Q_,Q_,Q_,Q_,Q_,Q_,Q_,Q_,Q_,Q_,Q_,Q_,Q_,Q_,Q_,Q_,Q_,Q_,Q_,Q_,Q_,Q_,Q_,Q_,Q_,Q_,Q_,Q_,Q_,Q_,Q_,Q_,Q_,Q_,v67,v68,v69,Q_,Q_,Q_,Q_,Q_,v75,v76,v77,Q_,Q_,Q_,Q_,Q_,Q_,Q_,Q_,Q_,Q_,Q_,Q_,Q_,Q_,Q_,Q_,Q_,Q_,Q_,Q_,Q_,Q_,Q_,Q_,Q_,Q_,Q_,Q_,Q_,Q_,Q_,Q_,Q_,Q_,Q_,Q_,Q_,Q_,Q_,Q_,Q_,Q_,Q_,Q_,Q_,Q_,Q_] H
def L98_4 (K:AV→Heap→Prop) (N1:AV→Heap→Prop) (v5:AV) (v6:AV) (v7:AV) (v8:AV) (v15:AV) (v67:AV) (v68:AV) (v69:AV) (v89:AV) (v90:AV) (H:Heap):Prop:=LoopV (wpC Tryz.prog tab D98 (cAt [1,1,1,1,0,1,0,0,1,1,0,0,1,1,1,1,0,0] (bO_ Tryz.f98))) [5,6,7,8,15,67,68,69,89] (PostF.block 8 (PostF.block 5 (PostF.thenA (wpC Tryz.prog tab D98 (cAt [1,1,1,1,0,1,0,0,1,1,1] (bO_ Tryz.f98))) (loopF (PostF.block 4 (PostF.thenA (wpC Tryz.prog tab D98 (cAt [1,1,1,1,1] (bO_ Tryz.f98))) (retF tab [.tmp 4] K))) (fun e h=>N1 (e 69) h))))) [90] [Q_,Q_,Q_,Q_,Q_,v5,v6,v7,v8,Q_,Q_,Q_,Q_,Q_,Q_,v15,Q_,Q_,Q_,Q_,Q_,Q_,Q_,Q_,Q_,Q_,Q_,Q_,Q_,Q_,Q_,Q_,Q_,Q_,Q_,Q_,Q_,Q_,Q_,Q_,Q_,Q_,Q_,Q_,Q_,Q_,Q_,Q_,Q_,Q_,Q_,Q_,Q_,Q_,Q_,Q_,Q_,Q_,Q_,Q_,Q_,Q_,Q_,Q_,Q_,Q_,Q_,v67,v68,v69,Q_,Q_,Q_,Q_,Q_,Q_,Q_,Q_,Q_,Q_,Q_,Q_,Q_,Q_,Q_,Q_,Q_,Q_,Q_,v89,v90,Q_,Q_,Q_,Q_,Q_,Q_,Q_,Q_,Q_,Q_,Q_,Q_,Q_,Q_,Q_,Q_,Q_,Q_,Q_,Q_,Q_,Q_,Q_,Q_,Q_,Q_,Q_,Q_,Q_,Q_,Q_,Q_,Q_,Q_] H
def B98_4 (K:AV→Heap→Prop) (N1:AV→Heap→Prop) (N2:AV→Heap→Prop) (v5:AV) (v6:AV) (v7:AV) (v8:AV) (v15:AV) (v67:AV) (v68:AV) (v69:AV) (v89:AV) (v90:AV) (H:Heap):Prop:=
 binV tab .lss 3 v90 v89 fun v91=>
 cV_ v91 (iA_ tab 116 v7 v90 fun v97=>
 lV_ tab 4 v97 H fun v98=>
 grdV v98 true (iA_ tab 116 v15 v90 fun v102=>
 lV_ tab 4 v102 H fun v103=>
 iA_ tab 116 v7 v90 fun v105=>
 sV_ tab 4 v105 v103 H fun H8=>
 binV tab .add 3 v90 (AV.p (.int .i64 1)) fun v106=>
 N2 v106 H8)
 (iA_ tab 116 v7 v90 fun v105=>
 sV_ tab 4 v105 (AV.p (.bool false)) H fun H9=>
 binV tab .add 3 v90 (AV.p (.int .i64 1)) fun v106=>
 N2 v106 H9))
 (binV tab .add 3 v69 (AV.p (.int .i64 1)) fun v107=>
 N1 v107 H)
def B98_3 (K:AV→Heap→Prop) (N1:AV→Heap→Prop) (N2:AV→Heap→Prop) (v5:AV) (v6:AV) (v7:AV) (v8:AV) (v15:AV) (v67:AV) (v68:AV) (v69:AV) (v75:AV) (v76:AV) (v77:AV) (H:Heap):Prop:=
 binV tab .lss 3 v77 v76 fun v78=>
 cV_ v78 (iA_ tab 22 v75 v77 fun v79=>
 lV_ tab 3 v79 H fun v80=>
 iA_ tab 22 v5 v80 fun v84=>
 lV_ tab 3 v84 H fun v85=>
 iA_ tab 116 v15 v85 fun v86=>
 sV_ tab 4 v86 (AV.p (.bool true)) H fun H7=>
 binV tab .add 3 v77 (AV.p (.int .i64 1)) fun v87=>
 N2 v87 H7)
 (lenV tab 116 v7 fun v89=>
 L98_4 K N1 v5 v6 v7 v8 v15 v67 v68 v69 v89 (AV.p (.int .i64 0)) H)
def L98_5 (K:AV→Heap→Prop) (v5:AV) (v7:AV) (v8:AV) (v109:AV) (v110:AV) (H:Heap):Prop:=LoopV (wpC Tryz.prog tab D98 (cAt [1,1,1,1,1,0,1,0,0] (bO_ Tryz.f98))) [5,7,8,109] (PostF.block 10 (PostF.thenA (wpC Tryz.prog tab D98 (cAt [1,1,1,1,1,1] (bO_ Tryz.f98))) (retF tab [.tmp 4] K))) [110] [Q_,Q_,Q_,Q_,Q_,v5,Q_,v7,v8,Q_,Q_,Q_,Q_,Q_,Q_,Q_,Q_,Q_,Q_,Q_,Q_,Q_,Q_,Q_,Q_,Q_,Q_,Q_,Q_,Q_,Q_,Q_,Q_,Q_,Q_,Q_,Q_,Q_,Q_,Q_,Q_,Q_,Q_,Q_,Q_,Q_,Q_,Q_,Q_,Q_,Q_,Q_,Q_,Q_,Q_,Q_,Q_,Q_,Q_,Q_,Q_,Q_,Q_,Q_,Q_,Q_,Q_,Q_,Q_,Q_,Q_,Q_,Q_,Q_,Q_,Q_,Q_,Q_,Q_,Q_,Q_,Q_,Q_,Q_,Q_,Q_,Q_,Q_,Q_,Q_,Q_,Q_,Q_,Q_,Q_,Q_,Q_,Q_,Q_,Q_,Q_,Q_,Q_,Q_,Q_,Q_,Q_,Q_,Q_,v109,v110,Q_,Q_,Q_,Q_,Q_,Q_,Q_,Q_,Q_,Q_,Q_,Q_,Q_,Q_] H
def B98_5 (K:AV→Heap→Prop) (N1:AV→Heap→Prop) (v5:AV) (v7:AV) (v8:AV) (v109:AV) (v110:AV) (H:Heap):Prop:=
 binV tab .lss 3 v110 v109 fun v111=>
 cV_ v111 (iA_ tab 22 v5 v110 fun v118=>
 lV_ tab 3 v118 H fun v119=>
 iA_ tab 116 v7 v119 fun v120=>
 lV_ tab 4 v120 H fun v121=>
 iA_ tab 116 v8 v110 fun v122=>
 sV_ tab 4 v122 v121 H fun H10=>
 binV tab .add 3 v110 (AV.p (.int .i64 1)) fun v123=>
 N1 v123 H10)
 (K v8 H)
def B98_2 (K:AV→Heap→Prop) (N1:AV→Heap→Prop) (v5:AV) (v6:AV) (v7:AV) (v8:AV) (v67:AV) (v68:AV) (v69:AV) (H:Heap):Prop:=
 binV tab .lss 3 v69 v68 fun v70=>
 cV_ v70 (iA_ tab 24 v67 v69 fun v71=>
 lV_ tab 22 v71 H fun v72=>
 mS_ tab 116 v6 v6 H fun v74 H6=>
 lenV tab 22 v72 fun v76=>
 L98_3 K N1 v5 v6 v7 v8 v74 v67 v68 v69 v72 v76 (AV.p (.int .i64 0)) H6)
 (lenV tab 116 v8 fun v109=>
 L98_5 K v5 v7 v8 v109 (AV.p (.int .i64 0)) H)
def B98_0 (K:AV→Heap→Prop) (N1:AV→Heap→Prop) (v1:AV) (v5:AV) (v6:AV) (v7:AV) (v8:AV) (v28:AV) (v29:AV) (v30:AV) (H:Heap):Prop:=
 binV tab .lss 3 v30 v29 fun v31=>
 cV_ v31 (iA_ tab 24 v28 v30 fun v33=>
 lV_ tab 22 v33 H fun v34=>
 lenV tab 22 v34 fun v36=>
 L98_1 K N1 v1 v5 v6 v7 v8 v30 v28 v29 v30 v34 v36 (AV.p (.int .i64 0)) H)
 (lenV tab 24 v1 fun v68=>
 L98_2 K v5 v6 v7 v8 v1 v68 (AV.p (.int .i64 0)) H)
def W98 (v0:AV) (v1:AV) (H:Heap) (K:AV→Heap→Prop):Prop:=
 CallT Tryz.prog 79 [v0] H fun v21 H1=>
 lenV tab 24 v0 fun v23=>
 safeV (makeN tab 116 v23 v23)∧
 mS_ tab 116 v23 v23 H1 fun v25 H2=>
 newV (makeN tab 116 v23 v23) H2 fun v27 H3=>
 lenV tab 24 v0 fun v29=>
 L98_0 K v1 v21 v23 v25 v27 v0 v29 (AV.p (.int .i64 0)) H3
theorem W98_wp (v0:AV) (v1:AV) (H:Heap) (K:AV→Heap→Prop):wpC Tryz.prog tab D98 (bO_ Tryz.f98) (retF tab [.tmp 4] K) (nthA [v0,v1]) H=W98 v0 v1 H K:=by kernel_rfl
theorem W98_ok {v0 v1:AV} {H:Heap} {K:AV→Heap→Prop} (h:W98 v0 v1 H K):CallT Tryz.prog 98 [v0,v1] H K:=
 CallT.of_wp (D:=D98) tO_ mixed Tryz.func98 (c:=bO_ Tryz.f98) (by kernel_rfl) rfl (by kernel_rfl) (rs:=#[.tmp 4]) rfl (by decide +kernel) (by kernel_rfl) (W98_wp v0 v1 H K) h
theorem L98_1_rule {K:AV→Heap→Prop} {N1:AV→Heap→Prop} {v1 v5 v6 v7 v8 v9 v28 v29 v30 v35 v36 v37:AV} {H:Heap} {σ:Type} (s0:σ) (f37:σ→AV) (TH:σ→Heap) (pre:σ→Prop) (μ:σ→Nat)
  (h0:pre s0∧AV.wk v37 (f37 s0)∧Heap.le (TH s0) H)
  (round:∀s,pre s→B98_1 K N1 (fun w37 H'=>∃s',pre s'∧μ s' < μ s∧AV.wk w37 (f37 s')∧Heap.le (TH s') H') v1 v5 v6 v7 v8 v9 v28 v29 v30 v35 v36 (f37 s) (TH s)) :
  L98_1 K N1 v1 v5 v6 v7 v8 v9 v28 v29 v30 v35 v36 v37 H:=by
 unfold L98_1
 exact LoopV.mk s0 (fun s=>[f37 s]) TH pre μ (fun _=>rfl) (Eq.mp (by kernel_rfl) h0) (fun s hs=>Eq.mp (by kernel_rfl) (round s hs))
theorem L98_4_rule {K:AV→Heap→Prop} {N1:AV→Heap→Prop} {v5 v6 v7 v8 v15 v67 v68 v69 v89 v90:AV} {H:Heap} {σ:Type} (s0:σ) (f90:σ→AV) (TH:σ→Heap) (pre:σ→Prop) (μ:σ→Nat)
  (h0:pre s0∧AV.wk v90 (f90 s0)∧Heap.le (TH s0) H)
  (round:∀s,pre s→B98_4 K N1 (fun w90 H'=>∃s',pre s'∧μ s' < μ s∧AV.wk w90 (f90 s')∧Heap.le (TH s') H') v5 v6 v7 v8 v15 v67 v68 v69 v89 (f90 s) (TH s)) :
  L98_4 K N1 v5 v6 v7 v8 v15 v67 v68 v69 v89 v90 H:=by
 unfold L98_4
 exact LoopV.mk s0 (fun s=>[f90 s]) TH pre μ (fun _=>rfl) (Eq.mp (by kernel_rfl) h0) (fun s hs=>Eq.mp (by kernel_rfl) (round s hs))
theorem L98_3_rule {K:AV→Heap→Prop} {N1:AV→Heap→Prop} {v5 v6 v7 v8 v15 v67 v68 v69 v75 v76 v77:AV} {H:Heap} {σ:Type} (s0:σ) (f77:σ→AV) (TH:σ→Heap) (pre:σ→Prop) (μ:σ→Nat)
  (h0:pre s0∧AV.wk v77 (f77 s0)∧Heap.le (TH s0) H)
  (round:∀s,pre s→B98_3 K N1 (fun w77 H'=>∃s',pre s'∧μ s' < μ s∧AV.wk w77 (f77 s')∧Heap.le (TH s') H') v5 v6 v7 v8 v15 v67 v68 v69 v75 v76 (f77 s) (TH s)) :
  L98_3 K N1 v5 v6 v7 v8 v15 v67 v68 v69 v75 v76 v77 H:=by
 unfold L98_3
 exact LoopV.mk s0 (fun s=>[f77 s]) TH pre μ (fun _=>rfl) (Eq.mp (by kernel_rfl) h0) (fun s hs=>Eq.mp (by kernel_rfl) (round s hs))
theorem L98_5_rule {K:AV→Heap→Prop} {v5 v7 v8 v109 v110:AV} {H:Heap} {σ:Type} (s0:σ) (f110:σ→AV) (TH:σ→Heap) (pre:σ→Prop) (μ:σ→Nat)
  (h0:pre s0∧AV.wk v110 (f110 s0)∧Heap.le (TH s0) H)
  (round:∀s,pre s→B98_5 K (fun w110 H'=>∃s',pre s'∧μ s' < μ s∧AV.wk w110 (f110 s')∧Heap.le (TH s') H') v5 v7 v8 v109 (f110 s) (TH s)) :
  L98_5 K v5 v7 v8 v109 v110 H:=by
 unfold L98_5
 exact LoopV.mk s0 (fun s=>[f110 s]) TH pre μ (fun _=>rfl) (Eq.mp (by kernel_rfl) h0) (fun s hs=>Eq.mp (by kernel_rfl) (round s hs))
theorem L98_2_rule {K:AV→Heap→Prop} {v5 v6 v7 v8 v67 v68 v69:AV} {H:Heap} {σ:Type} (s0:σ) (f69:σ→AV) (TH:σ→Heap) (pre:σ→Prop) (μ:σ→Nat)
  (h0:pre s0∧AV.wk v69 (f69 s0)∧Heap.le (TH s0) H)
  (round:∀s,pre s→B98_2 K (fun w69 H'=>∃s',pre s'∧μ s' < μ s∧AV.wk w69 (f69 s')∧Heap.le (TH s') H') v5 v6 v7 v8 v67 v68 (f69 s) (TH s)) :
  L98_2 K v5 v6 v7 v8 v67 v68 v69 H:=by
 unfold L98_2
 exact LoopV.mk s0 (fun s=>[f69 s]) TH pre μ (fun _=>rfl) (Eq.mp (by kernel_rfl) h0) (fun s hs=>Eq.mp (by kernel_rfl) (round s hs))
theorem L98_0_rule {K:AV→Heap→Prop} {v1 v5 v6 v7 v8 v28 v29 v30:AV} {H:Heap} {σ:Type} (s0:σ) (f30:σ→AV) (TH:σ→Heap) (pre:σ→Prop) (μ:σ→Nat)
  (h0:pre s0∧AV.wk v30 (f30 s0)∧Heap.le (TH s0) H)
  (round:∀s,pre s→B98_0 K (fun w30 H'=>∃s',pre s'∧μ s' < μ s∧AV.wk w30 (f30 s')∧Heap.le (TH s') H') v1 v5 v6 v7 v8 v28 v29 (f30 s) (TH s)) :
  L98_0 K v1 v5 v6 v7 v8 v28 v29 v30 H:=by
 unfold L98_0
 exact LoopV.mk s0 (fun s=>[f30 s]) TH pre μ (fun _=>rfl) (Eq.mp (by kernel_rfl) h0) (fun s hs=>Eq.mp (by kernel_rfl) (round s hs))
def D99:Info:=⟨39,fun i=>([],[]),fun i=>if i=5 then ([15,16],[3,17]) else ([],[])⟩
def L99_0 (K:AV→Heap→Prop) (v3:AV) (v15:AV) (v16:AV) (v17:AV) (H:Heap):Prop:=LoopV (wpC Tryz.prog tab D99 (cAt [1,1,1,0,1,0,0] (bO_ Tryz.f99))) [15,16] (PostF.block 0 (PostF.thenA (wpC Tryz.prog tab D99 (cAt [1,1,1,1] (bO_ Tryz.f99))) (retF tab [.tmp 2] K))) [3,17] [Q_,Q_,Q_,v3,Q_,Q_,Q_,Q_,Q_,Q_,Q_,Q_,Q_,Q_,Q_,v15,v16,v17,Q_,Q_,Q_,Q_,Q_,Q_,Q_,Q_,Q_,Q_,Q_,Q_,Q_,Q_,Q_,Q_,Q_,Q_,Q_,Q_,Q_] H
def B99_0 (K:AV→Heap→Prop) (N1:AV→AV→Heap→Prop) (v3:AV) (v15:AV) (v16:AV) (v17:AV) (H:Heap):Prop:=
 binV tab .lss 3 v17 v16 fun v18=>
 cV_ v18 (iA_ tab 45 v15 v17 fun v19=>
 lV_ tab 76 v19 H fun v20=>
 allocV tab 76 H fun v5 H1=>
 sV_ tab 76 v5 v20 H1 fun H2=>
 fA_ tab 76 v5 0 fun v21=>
 lV_ tab 3 v21 H2 fun v22=>
 CallT Tryz.prog 125 [v22] H2 fun v23 H3=>
 lV_ tab 76 v5 H3 fun v24=>
 CallT Tryz.prog 126 [v24] H3 fun v25 H4=>
 unV .not v25 fun v26=>
 grdV v26 false (binV tab .lss 3 v3 v23 fun v30=>
 cV_ v30 (K (AV.p (.bool false)) H4)
 (binV tab .sub 3 (AV.p (.int .i64 1)) v23 fun v34=>
 binV tab .add 3 v3 v34 fun v35=>
 binV tab .add 3 v17 (AV.p (.int .i64 1)) fun v36=>
 N1 v35 v36 H4))
 (K (AV.p (.bool false)) H4))
 (binV tab .eql 3 v3 (AV.p (.int .i64 1)) fun v38=>
 K v38 H)
def W99 (v0:AV) (H:Heap) (K:AV→Heap→Prop):Prop:=
 lenV tab 45 v0 fun v8=>
 binV tab .lss 3 v8 (AV.p (.int .i64 1)) fun v9=>
 grdV v9 false (lenV tab 45 v0 fun v12=>
 binV tab .gtr 3 v12 (AV.p (.int .i64 16)) fun v13=>
 cV_ v13 (K (AV.p (.bool false)) H)
 (lenV tab 45 v0 fun v16=>
 L99_0 K (AV.p (.int .i64 0)) v0 v16 (AV.p (.int .i64 0)) H))
 (K (AV.p (.bool false)) H)
theorem W99_wp (v0:AV) (H:Heap) (K:AV→Heap→Prop):wpC Tryz.prog tab D99 (bO_ Tryz.f99) (retF tab [.tmp 2] K) (nthA [v0]) H=W99 v0 H K:=by kernel_rfl
theorem W99_ok {v0:AV} {H:Heap} {K:AV→Heap→Prop} (h:W99 v0 H K):CallT Tryz.prog 99 [v0] H K:=
 CallT.of_wp (D:=D99) tO_ mixed Tryz.func99 (c:=bO_ Tryz.f99) (by kernel_rfl) rfl (by kernel_rfl) (rs:=#[.tmp 2]) rfl (by decide +kernel) (by kernel_rfl) (W99_wp v0 H K) h
theorem L99_0_rule {K:AV→Heap→Prop} {v3 v15 v16 v17:AV} {H:Heap} {σ:Type} (s0:σ) (f3:σ→AV) (f17:σ→AV) (TH:σ→Heap) (pre:σ→Prop) (μ:σ→Nat)
  (h0:pre s0∧AV.wk v3 (f3 s0)∧AV.wk v17 (f17 s0)∧Heap.le (TH s0) H)
  (round:∀s,pre s→B99_0 K (fun w3 w17 H'=>∃s',pre s'∧μ s' < μ s∧AV.wk w3 (f3 s')∧AV.wk w17 (f17 s')∧Heap.le (TH s') H') (f3 s) v15 v16 (f17 s) (TH s)) :
  L99_0 K v3 v15 v16 v17 H:=by
 unfold L99_0
 exact LoopV.mk s0 (fun s=>[f3 s,f17 s]) TH pre μ (fun _=>rfl) (Eq.mp (by kernel_rfl) h0) (fun s hs=>Eq.mp (by kernel_rfl) (round s hs))
end Go.Proofs.YtolffbcnbcjeaaaGreat
namespace Go.Proofs.YtolffbcnbcjeaaaGreat
open Go Go.Sep
attribute [local irreducible] wpC headF
def D100:Info:=⟨51,fun i=>([],[]),fun i=>if i=3 then ([4,13,14],[3,15]) else ([],[])⟩
def L100_0 (K:AV→Heap→Prop) (v3:AV) (v4:AV) (v13:AV) (v14:AV) (v15:AV) (H:Heap):Prop:=LoopV (wpC Tryz.prog tab D100 (cAt [1,1,0,1,0,0] (bO_ Tryz.f100))) [4,13,14] (PostF.block 0 (PostF.thenA (wpC Tryz.prog tab D100 (cAt [1,1,1] (bO_ Tryz.f100))) (retF tab [.tmp 2] K))) [3,15] [Q_,Q_,Q_,v3,v4,Q_,Q_,Q_,Q_,Q_,Q_,Q_,Q_,v13,v14,v15,Q_,Q_,Q_,Q_,Q_,Q_,Q_,Q_,Q_,Q_,Q_,Q_,Q_,Q_,Q_,Q_,Q_,Q_,Q_,Q_,Q_,Q_,Q_,Q_,Q_,Q_,Q_,Q_,Q_,Q_,Q_,Q_,Q_,Q_,Q_] H
def J100_1 (K:AV→Heap→Prop) (N1:AV→AV→Heap→Prop) (v3:AV) (v4:AV) (v5:AV) (v13:AV) (v14:AV) (v15:AV) (v21:AV) (v22:AV) (H:Heap):Prop:=
 cV_ v22 (iA_ tab 24 v4 v5 fun v29=>
 lV_ tab 22 v29 H fun v30=>
 iA_ tab 22 v30 (AV.p (.int .i64 1)) fun v31=>
 lV_ tab 3 v31 H fun v32=>
 bS_ tab 22 2 [(0,v5),(1,v32)] H (wkK fun v33 H5=>
 aP_ tab 22 22 v3 v33 H5 (wkK fun v34 H6=>
 binV tab .add 3 v15 (AV.p (.int .i64 1)) fun v46=>
 N1 v34 v46 H6)))
 (binV tab .eql 3 v21 (AV.p (.int .i64 4)) fun v36=>
 cV_ v36 (iA_ tab 24 v4 v5 fun v40=>
 lV_ tab 22 v40 H fun v41=>
 iA_ tab 22 v41 (AV.p (.int .i64 0)) fun v42=>
 lV_ tab 3 v42 H fun v43=>
 bS_ tab 22 1 [(0,v43)] H (wkK fun v44 H7=>
 aP_ tab 22 22 v3 v44 H7 (wkK fun v45 H8=>
 binV tab .add 3 v15 (AV.p (.int .i64 1)) fun v46=>
 N1 v45 v46 H8)))
 (binV tab .add 3 v15 (AV.p (.int .i64 1)) fun v46=>
 N1 v3 v46 H))
def B100_0 (K:AV→Heap→Prop) (N1:AV→AV→Heap→Prop) (v3:AV) (v4:AV) (v13:AV) (v14:AV) (v15:AV) (H:Heap):Prop:=
 binV tab .lss 3 v15 v14 fun v16=>
 cV_ v16 (iA_ tab 45 v13 v15 fun v18=>
 lV_ tab 76 v18 H fun v19=>
 allocV tab 76 H fun v6 H3=>
 sV_ tab 76 v6 v19 H3 fun H4=>
 fA_ tab 76 v6 0 fun v20=>
 lV_ tab 3 v20 H4 fun v21=>
 binV tab .eql 3 v21 (AV.p (.int .i64 7)) fun v23=>
 cV_ v23 (J100_1 K N1 v3 v4 v15 v13 v14 v15 v21 v23 H4)
 (binV tab .eql 3 v21 (AV.p (.int .i64 8)) fun v24=>
 J100_1 K N1 v3 v4 v15 v13 v14 v15 v21 v24 H4))
 (CallT Tryz.prog 84 [v3] H fun v48 H9=>
 CallT Tryz.prog 85 [v3] H9 fun v50 H10=>
 K v50 H10)
def W100 (v0:AV) (H:Heap) (K:AV→Heap→Prop):Prop:=
 lenV tab 45 v0 fun v8=>
 binV tab .sub 3 v8 (AV.p (.int .i64 1)) fun v9=>
 bS_ tab 22 1 [(0,v9)] H (wkK fun v10 H1=>
 CallT Tryz.prog 127 [v0] H1 fun v12 H2=>
 lenV tab 45 v0 fun v14=>
 L100_0 K v10 v12 v0 v14 (AV.p (.int .i64 0)) H2)
theorem W100_wp (v0:AV) (H:Heap) (K:AV→Heap→Prop):wpC Tryz.prog tab D100 (bO_ Tryz.f100) (retF tab [.tmp 2] K) (nthA [v0]) H=W100 v0 H K:=by kernel_rfl
theorem W100_ok {v0:AV} {H:Heap} {K:AV→Heap→Prop} (h:W100 v0 H K):CallT Tryz.prog 100 [v0] H K:=
 CallT.of_wp (D:=D100) tO_ mixed Tryz.func100 (c:=bO_ Tryz.f100) (by kernel_rfl) rfl (by kernel_rfl) (rs:=#[.tmp 2]) rfl (by decide +kernel) (by kernel_rfl) (W100_wp v0 H K) h
theorem L100_0_rule {K:AV→Heap→Prop} {v3 v4 v13 v14 v15:AV} {H:Heap} {σ:Type} (s0:σ) (f3:σ→AV) (f15:σ→AV) (TH:σ→Heap) (pre:σ→Prop) (μ:σ→Nat)
  (h0:pre s0∧AV.wk v3 (f3 s0)∧AV.wk v15 (f15 s0)∧Heap.le (TH s0) H)
  (round:∀s,pre s→B100_0 K (fun w3 w15 H'=>∃s',pre s'∧μ s' < μ s∧AV.wk w3 (f3 s')∧AV.wk w15 (f15 s')∧Heap.le (TH s') H') (f3 s) v4 v13 v14 (f15 s) (TH s)) :
  L100_0 K v3 v4 v13 v14 v15 H:=by
 unfold L100_0
 exact LoopV.mk s0 (fun s=>[f3 s,f15 s]) TH pre μ (fun _=>rfl) (Eq.mp (by kernel_rfl) h0) (fun s hs=>Eq.mp (by kernel_rfl) (round s hs))
def D102:Info:=⟨7,fun i=>([],[]),fun i=>([],[])⟩
def W102 (v0:AV) (H:Heap) (K:AV→Heap→Prop):Prop:=
 CallT Tryz.prog 100 [v0] H fun v4 H1=>
 lenV tab 22 v4 fun v5=>
 binV tab .shl 3 (AV.p (.int .i64 1)) v5 fun v6=>
 K v6 H1
theorem W102_wp (v0:AV) (H:Heap) (K:AV→Heap→Prop):wpC Tryz.prog tab D102 (bO_ Tryz.f102) (retF tab [.tmp 2] K) (nthA [v0]) H=W102 v0 H K:=by kernel_rfl
theorem W102_ok {v0:AV} {H:Heap} {K:AV→Heap→Prop} (h:W102 v0 H K):CallT Tryz.prog 102 [v0] H K:=
 CallT.of_wp (D:=D102) tO_ mixed Tryz.func102 (c:=bO_ Tryz.f102) (by kernel_rfl) rfl (by kernel_rfl) (rs:=#[.tmp 2]) rfl (by decide +kernel) (by kernel_rfl) (W102_wp v0 H K) h
def D103:Info:=⟨11,fun i=>([],[]),fun i=>([],[])⟩
def W103 (v0:AV) (v1:AV) (H:Heap) (K:AV→Heap→Prop):Prop:=
 boxV v0 H fun v2 H1=>
 boxV v1 H1 fun v3 H2=>
 lV_ tab 45 v2 H2 fun v6=>
 CallT Tryz.prog 100 [v6] H2 fun v7 H3=>
 allocV tab 22 H3 fun v5 H4=>
 sV_ tab 22 v5 v7 H4 fun H5=>
 lV_ tab 45 v2 H5 fun v8=>
 CallT Tryz.prog 129 [v8,(.fn 130 [v5,v2,v3])] H5 fun v10 H6=>
 K v10 H6
theorem W103_wp (v0:AV) (v1:AV) (H:Heap) (K:AV→Heap→Prop):wpC Tryz.prog tab D103 (bO_ Tryz.f103) (retF tab [.tmp 4] K) (nthA [v0,v1]) H=W103 v0 v1 H K:=by kernel_rfl
theorem W103_ok {v0 v1:AV} {H:Heap} {K:AV→Heap→Prop} (h:W103 v0 v1 H K):CallT Tryz.prog 103 [v0,v1] H K:=
 CallT.of_wp (D:=D103) tO_ mixed Tryz.func103 (c:=bO_ Tryz.f103) (by kernel_rfl) rfl (by kernel_rfl) (rs:=#[.tmp 4]) rfl (by decide +kernel) (by kernel_rfl) (W103_wp v0 v1 H K) h
def D104:Info:=⟨36,fun i=>([],[]),fun i=>if i=3 then ([0,4,5,13,14],[3,15]) else ([],[])⟩
def L104_0 (K:AV→Heap→Prop) (v0:AV) (v3:AV) (v4:AV) (v5:AV) (v13:AV) (v14:AV) (v15:AV) (H:Heap):Prop:=LoopV (wpC Tryz.prog tab D104 (cAt [1,1,0,1,0,0] (bO_ Tryz.f104))) [0,4,5,13,14] (PostF.block 0 (PostF.thenA (wpC Tryz.prog tab D104 (cAt [1,1,1] (bO_ Tryz.f104))) (retF tab [.tmp 2] K))) [3,15] [v0,Q_,Q_,v3,v4,v5,Q_,Q_,Q_,Q_,Q_,Q_,Q_,v13,v14,v15,Q_,Q_,Q_,Q_,Q_,Q_,Q_,Q_,Q_,Q_,Q_,Q_,Q_,Q_,Q_,Q_,Q_,Q_,Q_,Q_] H
def J104_1 (K:AV→Heap→Prop) (N1:AV→AV→Heap→Prop) (v0:AV) (v3:AV) (v4:AV) (v5:AV) (v6:AV) (v7:AV) (v13:AV) (v14:AV) (v15:AV) (H:Heap):Prop:=
 CallT Tryz.prog 129 [v0,(.fn 132 [v5,v6,v4,v7])] H fun v31 H12=>
 bS_ tab 24 1 [(0,v31)] H12 (wkK fun v32 H13=>
 aP_ tab 24 24 v3 v32 H13 (wkK fun v33 H14=>
 binV tab .add 3 v15 (AV.p (.int .i64 1)) fun v34=>
 N1 v33 v34 H14))
def B104_0 (K:AV→Heap→Prop) (N1:AV→AV→Heap→Prop) (v0:AV) (v3:AV) (v4:AV) (v5:AV) (v13:AV) (v14:AV) (v15:AV) (H:Heap):Prop:=
 binV tab .lss 3 v15 v14 fun v16=>
 cV_ v16 (iA_ tab 45 v13 v15 fun v18=>
 lV_ tab 76 v18 H fun v19=>
 allocV tab 3 H fun v6 H8=>
 allocV tab 76 H8 fun v7 H9=>
 sV_ tab 3 v6 v15 H9 fun H10=>
 sV_ tab 76 v7 v19 H10 fun H11=>
 fA_ tab 76 v7 0 fun v20=>
 lV_ tab 3 v20 H11 fun v21=>
 binV tab .neq 3 v21 (AV.p (.int .i64 7)) fun v22=>
 grdV v22 true (fA_ tab 76 v7 0 fun v24=>
 lV_ tab 3 v24 H11 fun v25=>
 binV tab .neq 3 v25 (AV.p (.int .i64 8)) fun v26=>
 cV_ v26 (binV tab .add 3 v15 (AV.p (.int .i64 1)) fun v34=>
 N1 v3 v34 H11)
 (J104_1 K N1 v0 v3 v4 v5 v6 v7 v13 v14 v15 H11))
 (J104_1 K N1 v0 v3 v4 v5 v6 v7 v13 v14 v15 H11))
 (K v3 H)
def W104 (v0:AV) (H:Heap) (K:AV→Heap→Prop):Prop:=
 bS_ tab 24 0 [] H (wkK fun v8 H1=>
 CallT Tryz.prog 127 [v0] H1 fun v10 H2=>
 CallT Tryz.prog 100 [v0] H2 fun v12 H3=>
 allocV tab 24 H3 fun v4 H4=>
 allocV tab 22 H4 fun v5 H5=>
 sV_ tab 24 v4 v10 H5 fun H6=>
 sV_ tab 22 v5 v12 H6 fun H7=>
 lenV tab 45 v0 fun v14=>
 L104_0 K v0 v8 v4 v5 v0 v14 (AV.p (.int .i64 0)) H7)
theorem W104_wp (v0:AV) (H:Heap) (K:AV→Heap→Prop):wpC Tryz.prog tab D104 (bO_ Tryz.f104) (retF tab [.tmp 2] K) (nthA [v0]) H=W104 v0 H K:=by kernel_rfl
theorem W104_ok {v0:AV} {H:Heap} {K:AV→Heap→Prop} (h:W104 v0 H K):CallT Tryz.prog 104 [v0] H K:=
 CallT.of_wp (D:=D104) tO_ mixed Tryz.func104 (c:=bO_ Tryz.f104) (by kernel_rfl) rfl (by kernel_rfl) (rs:=#[.tmp 2]) rfl (by decide +kernel) (by kernel_rfl) (W104_wp v0 H K) h
theorem L104_0_rule {K:AV→Heap→Prop} {v0 v3 v4 v5 v13 v14 v15:AV} {H:Heap} {σ:Type} (s0:σ) (f3:σ→AV) (f15:σ→AV) (TH:σ→Heap) (pre:σ→Prop) (μ:σ→Nat)
  (h0:pre s0∧AV.wk v3 (f3 s0)∧AV.wk v15 (f15 s0)∧Heap.le (TH s0) H)
  (round:∀s,pre s→B104_0 K (fun w3 w15 H'=>∃s',pre s'∧μ s' < μ s∧AV.wk w3 (f3 s')∧AV.wk w15 (f15 s')∧Heap.le (TH s') H') v0 (f3 s) v4 v5 v13 v14 (f15 s) (TH s)) :
  L104_0 K v0 v3 v4 v5 v13 v14 v15 H:=by
 unfold L104_0
 exact LoopV.mk s0 (fun s=>[f3 s,f15 s]) TH pre μ (fun _=>rfl) (Eq.mp (by kernel_rfl) h0) (fun s hs=>Eq.mp (by kernel_rfl) (round s hs))
def D105:Info:=⟨33,fun i=>([],[]),fun i=>if i=3 then ([7,16,17],[8,18]) else ([],[])⟩
def L105_0 (K:AV→Heap→Prop) (v7:AV) (v8:AV) (v16:AV) (v17:AV) (v18:AV) (H:Heap):Prop:=LoopV (wpC Tryz.prog tab D105 (cAt [1,1,0,1,0,0] (bO_ Tryz.f105))) [7,16,17] (PostF.block 0 (PostF.thenA (wpC Tryz.prog tab D105 (cAt [1,1,1] (bO_ Tryz.f105))) (retF tab [.tmp 6] K))) [8,18] [Q_,Q_,Q_,Q_,Q_,Q_,Q_,v7,v8,Q_,Q_,Q_,Q_,Q_,Q_,Q_,v16,v17,v18,Q_,Q_,Q_,Q_,Q_,Q_,Q_,Q_,Q_,Q_,Q_,Q_,Q_,Q_] H
def B105_0 (K:AV→Heap→Prop) (N1:AV→AV→Heap→Prop) (v7:AV) (v8:AV) (v16:AV) (v17:AV) (v18:AV) (H:Heap):Prop:=
 binV tab .lss 3 v18 v17 fun v19=>
 cV_ v19 (iA_ tab 22 v16 v18 fun v21=>
 lV_ tab 3 v21 H fun v22=>
 iA_ tab 116 v7 v22 fun v25=>
 lV_ tab 4 v25 H fun v26=>
 cV_ v26 (binV tab .shl 3 (AV.p (.int .i64 1)) v18 fun v29=>
 binV tab .or 3 v8 v29 fun v30=>
 binV tab .add 3 v18 (AV.p (.int .i64 1)) fun v31=>
 N1 v30 v31 H)
 (binV tab .add 3 v18 (AV.p (.int .i64 1)) fun v31=>
 N1 v8 v31 H))
 (K v8 H)
def W105 (v0:AV) (v1:AV) (v2:AV) (H:Heap) (K:AV→Heap→Prop):Prop:=
 CallT Tryz.prog 133 [v0,v1,v2] H fun v14 H1=>
 CallT Tryz.prog 100 [v0] H1 fun v16 H2=>
 lenV tab 22 v16 fun v17=>
 L105_0 K v14 (AV.p (.int .i64 0)) v16 v17 (AV.p (.int .i64 0)) H2
theorem W105_wp (v0:AV) (v1:AV) (v2:AV) (H:Heap) (K:AV→Heap→Prop):wpC Tryz.prog tab D105 (bO_ Tryz.f105) (retF tab [.tmp 6] K) (nthA [v0,v1,v2]) H=W105 v0 v1 v2 H K:=by kernel_rfl
theorem W105_ok {v0 v1 v2:AV} {H:Heap} {K:AV→Heap→Prop} (h:W105 v0 v1 v2 H K):CallT Tryz.prog 105 [v0,v1,v2] H K:=
 CallT.of_wp (D:=D105) tO_ mixed Tryz.func105 (c:=bO_ Tryz.f105) (by kernel_rfl) rfl (by kernel_rfl) (rs:=#[.tmp 6]) rfl (by decide +kernel) (by kernel_rfl) (W105_wp v0 v1 v2 H K) h
theorem L105_0_rule {K:AV→Heap→Prop} {v7 v8 v16 v17 v18:AV} {H:Heap} {σ:Type} (s0:σ) (f8:σ→AV) (f18:σ→AV) (TH:σ→Heap) (pre:σ→Prop) (μ:σ→Nat)
  (h0:pre s0∧AV.wk v8 (f8 s0)∧AV.wk v18 (f18 s0)∧Heap.le (TH s0) H)
  (round:∀s,pre s→B105_0 K (fun w8 w18 H'=>∃s',pre s'∧μ s' < μ s∧AV.wk w8 (f8 s')∧AV.wk w18 (f18 s')∧Heap.le (TH s') H') v7 (f8 s) v16 v17 (f18 s) (TH s)) :
  L105_0 K v7 v8 v16 v17 v18 H:=by
 unfold L105_0
 exact LoopV.mk s0 (fun s=>[f8 s,f18 s]) TH pre μ (fun _=>rfl) (Eq.mp (by kernel_rfl) h0) (fun s hs=>Eq.mp (by kernel_rfl) (round s hs))
def D106:Info:=⟨35,fun i=>([],[]),fun i=>if i=2 then ([0,1,2,9,10],[11]) else ([],[])⟩
def L106_0 (K:AV→Heap→Prop) (v0:AV) (v1:AV) (v2:AV) (v9:AV) (v10:AV) (v11:AV) (H:Heap):Prop:=LoopV (wpC Tryz.prog tab D106 (cAt [1,0,1,0,0] (bO_ Tryz.f106))) [0,1,2,9,10] (PostF.block 0 (PostF.thenA (wpC Tryz.prog tab D106 (cAt [1,1] (bO_ Tryz.f106))) (retF tab [.tmp 6] K))) [11] [v0,v1,v2,Q_,Q_,Q_,Q_,Q_,Q_,v9,v10,v11,Q_,Q_,Q_,Q_,Q_,Q_,Q_,Q_,Q_,Q_,Q_,Q_,Q_,Q_,Q_,Q_,Q_,Q_,Q_,Q_,Q_,Q_,Q_] H
def B106_0 (K:AV→Heap→Prop) (N1:AV→Heap→Prop) (v0:AV) (v1:AV) (v2:AV) (v9:AV) (v10:AV) (v11:AV) (H:Heap):Prop:=
 binV tab .lss 3 v11 v10 fun v12=>
 cV_ v12 (iA_ tab 22 v9 v11 fun v14=>
 lV_ tab 3 v14 H fun v15=>
 CallT Tryz.prog 63 [v15,v1,v2] H fun v19 H1=>
 unV .not v19 fun v20=>
 grdV v20 false (binV tab .gtr 3 v11 (AV.p (.int .i64 0)) fun v23=>
 grdV v23 true (binV tab .sub 3 v11 (AV.p (.int .i64 1)) fun v27=>
 iA_ tab 22 v0 v27 fun v28=>
 lV_ tab 3 v28 H1 fun v29=>
 binV tab .geq 3 v29 v15 fun v31=>
 cV_ v31 (K (AV.p (.bool false)) H1)
 (binV tab .add 3 v11 (AV.p (.int .i64 1)) fun v34=>
 N1 v34 H1))
 (binV tab .add 3 v11 (AV.p (.int .i64 1)) fun v34=>
 N1 v34 H1))
 (K (AV.p (.bool false)) H1))
 (K (AV.p (.bool true)) H)
def W106 (v0:AV) (v1:AV) (v2:AV) (H:Heap) (K:AV→Heap→Prop):Prop:=
 lenV tab 22 v0 fun v10=>
 L106_0 K v0 v1 v2 v0 v10 (AV.p (.int .i64 0)) H
theorem W106_wp (v0:AV) (v1:AV) (v2:AV) (H:Heap) (K:AV→Heap→Prop):wpC Tryz.prog tab D106 (bO_ Tryz.f106) (retF tab [.tmp 6] K) (nthA [v0,v1,v2]) H=W106 v0 v1 v2 H K:=by kernel_rfl
theorem W106_ok {v0 v1 v2:AV} {H:Heap} {K:AV→Heap→Prop} (h:W106 v0 v1 v2 H K):CallT Tryz.prog 106 [v0,v1,v2] H K:=
 CallT.of_wp (D:=D106) tO_ mixed Tryz.func106 (c:=bO_ Tryz.f106) (by kernel_rfl) rfl (by kernel_rfl) (rs:=#[.tmp 6]) rfl (by decide +kernel) (by kernel_rfl) (W106_wp v0 v1 v2 H K) h
theorem L106_0_rule {K:AV→Heap→Prop} {v0 v1 v2 v9 v10 v11:AV} {H:Heap} {σ:Type} (s0:σ) (f11:σ→AV) (TH:σ→Heap) (pre:σ→Prop) (μ:σ→Nat)
  (h0:pre s0∧AV.wk v11 (f11 s0)∧Heap.le (TH s0) H)
  (round:∀s,pre s→B106_0 K (fun w11 H'=>∃s',pre s'∧μ s' < μ s∧AV.wk w11 (f11 s')∧Heap.le (TH s') H') v0 v1 v2 v9 v10 (f11 s) (TH s)) :
  L106_0 K v0 v1 v2 v9 v10 v11 H:=by
 unfold L106_0
 exact LoopV.mk s0 (fun s=>[f11 s]) TH pre μ (fun _=>rfl) (Eq.mp (by kernel_rfl) h0) (fun s hs=>Eq.mp (by kernel_rfl) (round s hs))
def D107:Info:=⟨37,fun i=>([],[]),fun i=>if i=3 then ([3,11,12],[13]) else if i=6 then ([3,4,11,12,13,18,19],[20]) else ([],[])⟩
def L107_0 (K:AV→Heap→Prop) (v3:AV) (v11:AV) (v12:AV) (v13:AV) (H:Heap):Prop:=LoopV (wpC Tryz.prog tab D107 (cAt [1,1,0,1,0,0] (bO_ Tryz.f107))) [3,11,12] (PostF.block 0 (PostF.thenA (wpC Tryz.prog tab D107 (cAt [1,1,1] (bO_ Tryz.f107))) (retF tab [.tmp 2] K))) [13] [Q_,Q_,Q_,v3,Q_,Q_,Q_,Q_,Q_,Q_,Q_,v11,v12,v13,Q_,Q_,Q_,Q_,Q_,Q_,Q_,Q_,Q_,Q_,Q_,Q_,Q_,Q_,Q_,Q_,Q_,Q_,Q_,Q_,Q_,Q_,Q_] H
def L107_1 (K:AV→Heap→Prop) (N1:AV→Heap→Prop) (v3:AV) (v4:AV) (v11:AV) (v12:AV) (v13:AV) (v18:AV) (v19:AV) (v20:AV) (H:Heap):Prop:=LoopV (wpC Tryz.prog tab D107 (cAt [1,1,0,1,0,0,1,1,0,0,1,1,0,0] (bO_ Tryz.f107))) [3,4,11,12,13,18,19] (PostF.block 2 (PostF.block 1 (PostF.thenA (wpC Tryz.prog tab D107 (cAt [1,1,0,1,0,0,1,1,1] (bO_ Tryz.f107))) (loopF (PostF.block 0 (PostF.thenA (wpC Tryz.prog tab D107 (cAt [1,1,1] (bO_ Tryz.f107))) (retF tab [.tmp 2] K))) (fun e h=>N1 (e 13) h))))) [20] [Q_,Q_,Q_,v3,v4,Q_,Q_,Q_,Q_,Q_,Q_,v11,v12,v13,Q_,Q_,Q_,Q_,v18,v19,v20,Q_,Q_,Q_,Q_,Q_,Q_,Q_,Q_,Q_,Q_,Q_,Q_,Q_,Q_,Q_,Q_] H
def B107_1 (K:AV→Heap→Prop) (N1:AV→Heap→Prop) (N2:AV→Heap→Prop) (v3:AV) (v4:AV) (v11:AV) (v12:AV) (v13:AV) (v18:AV) (v19:AV) (v20:AV) (H:Heap):Prop:=
 binV tab .lss 3 v20 v19 fun v21=>
 cV_ v21 (iA_ tab 22 v18 v20 fun v22=>
 lV_ tab 3 v22 H fun v23=>
 iA_ tab 24 v3 v23 fun v28=>
 lV_ tab 22 v28 H fun v29=>
 bS_ tab 22 1 [(0,v4)] H (wkK fun v31 H2=>
 aP_ tab 22 22 v29 v31 H2 (wkK fun v32 H3=>
 iA_ tab 24 v3 v23 fun v33=>
 sV_ tab 22 v33 v32 H3 fun H4=>
 binV tab .add 3 v20 (AV.p (.int .i64 1)) fun v34=>
 N2 v34 H4)))
 (binV tab .add 3 v13 (AV.p (.int .i64 1)) fun v35=>
 N1 v35 H)
def B107_0 (K:AV→Heap→Prop) (N1:AV→Heap→Prop) (v3:AV) (v11:AV) (v12:AV) (v13:AV) (H:Heap):Prop:=
 binV tab .lss 3 v13 v12 fun v14=>
 cV_ v14 (iA_ tab 24 v11 v13 fun v16=>
 lV_ tab 22 v16 H fun v17=>
 lenV tab 22 v17 fun v19=>
 L107_1 K N1 v3 v13 v11 v12 v13 v17 v19 (AV.p (.int .i64 0)) H)
 (K v3 H)
def W107 (v0:AV) (H:Heap) (K:AV→Heap→Prop):Prop:=
 lenV tab 24 v0 fun v9=>
 mS_ tab 24 v9 v9 H fun v10 H1=>
 lenV tab 24 v0 fun v12=>
 L107_0 K v10 v0 v12 (AV.p (.int .i64 0)) H1
theorem W107_wp (v0:AV) (H:Heap) (K:AV→Heap→Prop):wpC Tryz.prog tab D107 (bO_ Tryz.f107) (retF tab [.tmp 2] K) (nthA [v0]) H=W107 v0 H K:=by kernel_rfl
theorem W107_ok {v0:AV} {H:Heap} {K:AV→Heap→Prop} (h:W107 v0 H K):CallT Tryz.prog 107 [v0] H K:=
 CallT.of_wp (D:=D107) tO_ mixed Tryz.func107 (c:=bO_ Tryz.f107) (by kernel_rfl) rfl (by kernel_rfl) (rs:=#[.tmp 2]) rfl (by decide +kernel) (by kernel_rfl) (W107_wp v0 H K) h
theorem L107_1_rule {K:AV→Heap→Prop} {N1:AV→Heap→Prop} {v3 v4 v11 v12 v13 v18 v19 v20:AV} {H:Heap} {σ:Type} (s0:σ) (f20:σ→AV) (TH:σ→Heap) (pre:σ→Prop) (μ:σ→Nat)
  (h0:pre s0∧AV.wk v20 (f20 s0)∧Heap.le (TH s0) H)
  (round:∀s,pre s→B107_1 K N1 (fun w20 H'=>∃s',pre s'∧μ s' < μ s∧AV.wk w20 (f20 s')∧Heap.le (TH s') H') v3 v4 v11 v12 v13 v18 v19 (f20 s) (TH s)) :
  L107_1 K N1 v3 v4 v11 v12 v13 v18 v19 v20 H:=by
 unfold L107_1
 exact LoopV.mk s0 (fun s=>[f20 s]) TH pre μ (fun _=>rfl) (Eq.mp (by kernel_rfl) h0) (fun s hs=>Eq.mp (by kernel_rfl) (round s hs))
theorem L107_0_rule {K:AV→Heap→Prop} {v3 v11 v12 v13:AV} {H:Heap} {σ:Type} (s0:σ) (f13:σ→AV) (TH:σ→Heap) (pre:σ→Prop) (μ:σ→Nat)
  (h0:pre s0∧AV.wk v13 (f13 s0)∧Heap.le (TH s0) H)
  (round:∀s,pre s→B107_0 K (fun w13 H'=>∃s',pre s'∧μ s' < μ s∧AV.wk w13 (f13 s')∧Heap.le (TH s') H') v3 v11 v12 (f13 s) (TH s)) :
  L107_0 K v3 v11 v12 v13 H:=by
 unfold L107_0
 exact LoopV.mk s0 (fun s=>[f13 s]) TH pre μ (fun _=>rfl) (Eq.mp (by kernel_rfl) h0) (fun s hs=>Eq.mp (by kernel_rfl) (round s hs))
def D108:Info:=⟨45,fun i=>([],[]),fun i=>if i=3 then ([0,1,25,26],[27]) else ([],[])⟩
def L108_0 (K:AV→Heap→Prop) (v0:AV) (v1:AV) (v25:AV) (v26:AV) (v27:AV) (H:Heap):Prop:=LoopV (wpC Tryz.prog tab D108 (cAt [1,1,0,1,0,0] (bO_ Tryz.f108))) [0,1,25,26] (PostF.block 0 (PostF.thenA (wpC Tryz.prog tab D108 (cAt [1,1,1] (bO_ Tryz.f108))) (retF tab [] K))) [27] [v0,v1,Q_,Q_,Q_,Q_,Q_,Q_,Q_,Q_,Q_,Q_,Q_,Q_,Q_,Q_,Q_,Q_,Q_,Q_,Q_,Q_,Q_,Q_,Q_,v25,v26,v27,Q_,Q_,Q_,Q_,Q_,Q_,Q_,Q_,Q_,Q_,Q_,Q_,Q_,Q_,Q_,Q_,Q_] H
def B108_0 (K:AV→Heap→Prop) (N1:AV→Heap→Prop) (v0:AV) (v1:AV) (v25:AV) (v26:AV) (v27:AV) (H:Heap):Prop:=
 binV tab .lss 3 v27 v26 fun v28=>
 cV_ v28 (iA_ tab 22 v25 v27 fun v29=>
 lV_ tab 3 v29 H fun v30=>
 CallT Tryz.prog 108 [v0,v30] H fun v33 H2=>
 binV tab .add 3 v27 (AV.p (.int .i64 1)) fun v34=>
 N1 v34 H2)
 (nC_ v0 fun v37=>
 fA_ tab 125 v37 2 fun v38=>
 lV_ tab 22 v38 H fun v39=>
 bS_ tab 22 1 [(0,v1)] H (wkK fun v41 H3=>
 aP_ tab 22 22 v39 v41 H3 (wkK fun v42 H4=>
 nC_ v0 fun v43=>
 fA_ tab 125 v43 2 fun v44=>
 sV_ tab 22 v44 v42 H4 fun H5=>
 K (.tup []) H5)))
def W108 (v0:AV) (v1:AV) (H:Heap) (K:AV→Heap→Prop):Prop:=
 nC_ v0 fun v7=>
 fA_ tab 125 v7 1 fun v8=>
 lV_ tab 116 v8 H fun v9=>
 iA_ tab 116 v9 v1 fun v11=>
 lV_ tab 4 v11 H fun v12=>
 cV_ v12 (K (.tup []) H)
 (nC_ v0 fun v14=>
 fA_ tab 125 v14 1 fun v15=>
 lV_ tab 116 v15 H fun v16=>
 iA_ tab 116 v16 v1 fun v18=>
 sV_ tab 4 v18 (AV.p (.bool true)) H fun H1=>
 nC_ v0 fun v20=>
 fA_ tab 125 v20 0 fun v21=>
 lV_ tab 24 v21 H1 fun v22=>
 iA_ tab 24 v22 v1 fun v24=>
 lV_ tab 22 v24 H1 fun v25=>
 lenV tab 22 v25 fun v26=>
 L108_0 K v0 v1 v25 v26 (AV.p (.int .i64 0)) H1)
theorem W108_wp (v0:AV) (v1:AV) (H:Heap) (K:AV→Heap→Prop):wpC Tryz.prog tab D108 (bO_ Tryz.f108) (retF tab [] K) (nthA [v0,v1]) H=W108 v0 v1 H K:=by kernel_rfl
theorem W108_ok {v0 v1:AV} {H:Heap} {K:AV→Heap→Prop} (h:W108 v0 v1 H K):CallT Tryz.prog 108 [v0,v1] H K:=
 CallT.of_wp (D:=D108) tO_ mixed Tryz.func108 (c:=bO_ Tryz.f108) (by kernel_rfl) rfl (by kernel_rfl) (rs:=#[]) rfl (by decide +kernel) (by kernel_rfl) (W108_wp v0 v1 H K) h
theorem L108_0_rule {K:AV→Heap→Prop} {v0 v1 v25 v26 v27:AV} {H:Heap} {σ:Type} (s0:σ) (f27:σ→AV) (TH:σ→Heap) (pre:σ→Prop) (μ:σ→Nat)
  (h0:pre s0∧AV.wk v27 (f27 s0)∧Heap.le (TH s0) H)
  (round:∀s,pre s→B108_0 K (fun w27 H'=>∃s',pre s'∧μ s' < μ s∧AV.wk w27 (f27 s')∧Heap.le (TH s') H') v0 v1 v25 v26 (f27 s) (TH s)) :
  L108_0 K v0 v1 v25 v26 v27 H:=by
 unfold L108_0
 exact LoopV.mk s0 (fun s=>[f27 s]) TH pre μ (fun _=>rfl) (Eq.mp (by kernel_rfl) h0) (fun s hs=>Eq.mp (by kernel_rfl) (round s hs))
def D109:Info:=⟨21,fun i=>([],[]),fun i=>if i=2 then ([1,2,9,10],[11]) else ([],[])⟩
def L109_0 (K:AV→Heap→Prop) (v1:AV) (v2:AV) (v9:AV) (v10:AV) (v11:AV) (H:Heap):Prop:=LoopV (wpC Tryz.prog tab D109 (cAt [1,0,1,0,0] (bO_ Tryz.f109))) [1,2,9,10] (PostF.block 0 (PostF.thenA (wpC Tryz.prog tab D109 (cAt [1,1] (bO_ Tryz.f109))) (retF tab [.tmp 6] K))) [11] [Q_,v1,v2,Q_,Q_,Q_,Q_,Q_,Q_,v9,v10,v11,Q_,Q_,Q_,Q_,Q_,Q_,Q_,Q_,Q_] H
def B109_0 (K:AV→Heap→Prop) (N1:AV→Heap→Prop) (v1:AV) (v2:AV) (v9:AV) (v10:AV) (v11:AV) (H:Heap):Prop:=
 binV tab .lss 3 v11 v10 fun v12=>
 cV_ v12 (iA_ tab 22 v9 v11 fun v13=>
 lV_ tab 3 v13 H fun v14=>
 CallT Tryz.prog 63 [v14,v1,v2] H fun v18 H1=>
 unV .not v18 fun v19=>
 cV_ v19 (K (AV.p (.bool false)) H1)
 (binV tab .add 3 v11 (AV.p (.int .i64 1)) fun v20=>
 N1 v20 H1))
 (K (AV.p (.bool true)) H)
def W109 (v0:AV) (v1:AV) (v2:AV) (H:Heap) (K:AV→Heap→Prop):Prop:=
 lenV tab 22 v0 fun v10=>
 L109_0 K v1 v2 v0 v10 (AV.p (.int .i64 0)) H
theorem W109_wp (v0:AV) (v1:AV) (v2:AV) (H:Heap) (K:AV→Heap→Prop):wpC Tryz.prog tab D109 (bO_ Tryz.f109) (retF tab [.tmp 6] K) (nthA [v0,v1,v2]) H=W109 v0 v1 v2 H K:=by kernel_rfl
theorem W109_ok {v0 v1 v2:AV} {H:Heap} {K:AV→Heap→Prop} (h:W109 v0 v1 v2 H K):CallT Tryz.prog 109 [v0,v1,v2] H K:=
 CallT.of_wp (D:=D109) tO_ mixed Tryz.func109 (c:=bO_ Tryz.f109) (by kernel_rfl) rfl (by kernel_rfl) (rs:=#[.tmp 6]) rfl (by decide +kernel) (by kernel_rfl) (W109_wp v0 v1 v2 H K) h
theorem L109_0_rule {K:AV→Heap→Prop} {v1 v2 v9 v10 v11:AV} {H:Heap} {σ:Type} (s0:σ) (f11:σ→AV) (TH:σ→Heap) (pre:σ→Prop) (μ:σ→Nat)
  (h0:pre s0∧AV.wk v11 (f11 s0)∧Heap.le (TH s0) H)
  (round:∀s,pre s→B109_0 K (fun w11 H'=>∃s',pre s'∧μ s' < μ s∧AV.wk w11 (f11 s')∧Heap.le (TH s') H') v1 v2 v9 v10 (f11 s) (TH s)) :
  L109_0 K v1 v2 v9 v10 v11 H:=by
 unfold L109_0
 exact LoopV.mk s0 (fun s=>[f11 s]) TH pre μ (fun _=>rfl) (Eq.mp (by kernel_rfl) h0) (fun s hs=>Eq.mp (by kernel_rfl) (round s hs))
def D110:Info:=⟨9,fun i=>([],[]),fun i=>([],[])⟩
def W110 (v0:AV) (v1:AV) (H:Heap) (K:AV→Heap→Prop):Prop:=
 CallT Tryz.prog 134 [v0,v1] H fun v7 H1=>
 binV tab .geq 3 v7 (AV.p (.int .i64 0)) fun v8=>
 K v8 H1
theorem W110_wp (v0:AV) (v1:AV) (H:Heap) (K:AV→Heap→Prop):wpC Tryz.prog tab D110 (bO_ Tryz.f110) (retF tab [.tmp 4] K) (nthA [v0,v1]) H=W110 v0 v1 H K:=by kernel_rfl
theorem W110_ok {v0 v1:AV} {H:Heap} {K:AV→Heap→Prop} (h:W110 v0 v1 H K):CallT Tryz.prog 110 [v0,v1] H K:=
 CallT.of_wp (D:=D110) tO_ mixed Tryz.func110 (c:=bO_ Tryz.f110) (by kernel_rfl) rfl (by kernel_rfl) (rs:=#[.tmp 4]) rfl (by decide +kernel) (by kernel_rfl) (W110_wp v0 v1 H K) h
def D111:Info:=⟨8,fun i=>([],[]),fun i=>([],[])⟩
def W111 (v0:AV) (v1:AV) (H:Heap) (K:AV→Heap→Prop):Prop:=
 lV_ tab 3 v1 H fun v5=>
 CallT Tryz.prog 75 [v0,v5] H fun v6 H1=>
 unV .not v6 fun v7=>
 K v7 H1
theorem W111_wp (v0:AV) (v1:AV) (H:Heap) (K:AV→Heap→Prop):wpC Tryz.prog tab D111 (bO_ Tryz.f111) (retF tab [.tmp 3] K) (nthA [v0,v1]) H=W111 v0 v1 H K:=by kernel_rfl
theorem W111_ok {v0 v1:AV} {H:Heap} {K:AV→Heap→Prop} (h:W111 v0 v1 H K):CallT Tryz.prog 111 [v0,v1] H K:=
 CallT.of_wp (D:=D111) tO_ mixed Tryz.func111 (c:=bO_ Tryz.f111) (by kernel_rfl) rfl (by kernel_rfl) (rs:=#[.tmp 3]) rfl (by decide +kernel) (by kernel_rfl) (W111_wp v0 v1 H K) h
def D112:Info:=⟨18,fun i=>([],[]),fun i=>if i=3 then ([3,6,7],[8]) else ([],[])⟩
def L112_0 (K:AV→Heap→Prop) (v3:AV) (v6:AV) (v7:AV) (v8:AV) (H:Heap):Prop:=LoopV (wpC Tryz.prog tab D112 (cAt [1,1,0,1,0,0] (bO_ Tryz.f112))) [3,6,7] (PostF.block 0 (PostF.thenA (wpC Tryz.prog tab D112 (cAt [1,1,1] (bO_ Tryz.f112))) (retF tab [.tmp 2] K))) [8] [Q_,Q_,Q_,v3,Q_,Q_,v6,v7,v8,Q_,Q_,Q_,Q_,Q_,Q_,Q_,Q_,Q_] H
def B112_0 (K:AV→Heap→Prop) (N1:AV→Heap→Prop) (v3:AV) (v6:AV) (v7:AV) (v8:AV) (H:Heap):Prop:=
 binV tab .lss 3 v8 v7 fun v9=>
 cV_ v9 (iA_ tab 22 v6 v8 fun v10=>
 lV_ tab 3 v10 H fun v11=>
 binV tab .neq 3 v11 v3 fun v14=>
 cV_ v14 (K v11 H)
 (binV tab .add 3 v8 (AV.p (.int .i64 1)) fun v16=>
 N1 v16 H))
 (K v3 H)
def W112 (v0:AV) (H:Heap) (K:AV→Heap→Prop):Prop:=
 lenV tab 22 v0 fun v7=>
 L112_0 K (AV.p (.int .i64 0)) v0 v7 (AV.p (.int .i64 0)) H
theorem W112_wp (v0:AV) (H:Heap) (K:AV→Heap→Prop):wpC Tryz.prog tab D112 (bO_ Tryz.f112) (retF tab [.tmp 2] K) (nthA [v0]) H=W112 v0 H K:=by kernel_rfl
theorem W112_ok {v0:AV} {H:Heap} {K:AV→Heap→Prop} (h:W112 v0 H K):CallT Tryz.prog 112 [v0] H K:=
 CallT.of_wp (D:=D112) tO_ mixed Tryz.func112 (c:=bO_ Tryz.f112) (by kernel_rfl) rfl (by kernel_rfl) (rs:=#[.tmp 2]) rfl (by decide +kernel) (by kernel_rfl) (W112_wp v0 H K) h
theorem L112_0_rule {K:AV→Heap→Prop} {v3 v6 v7 v8:AV} {H:Heap} {σ:Type} (s0:σ) (f8:σ→AV) (TH:σ→Heap) (pre:σ→Prop) (μ:σ→Nat)
  (h0:pre s0∧AV.wk v8 (f8 s0)∧Heap.le (TH s0) H)
  (round:∀s,pre s→B112_0 K (fun w8 H'=>∃s',pre s'∧μ s' < μ s∧AV.wk w8 (f8 s')∧Heap.le (TH s') H') v3 v6 v7 (f8 s) (TH s)) :
  L112_0 K v3 v6 v7 v8 H:=by
 unfold L112_0
 exact LoopV.mk s0 (fun s=>[f8 s]) TH pre μ (fun _=>rfl) (Eq.mp (by kernel_rfl) h0) (fun s hs=>Eq.mp (by kernel_rfl) (round s hs))
def D113:Info:=⟨20,fun i=>([],[]),fun i=>([],[])⟩
def W113 (v0:AV) (v1:AV) (H:Heap) (K:AV→Heap→Prop):Prop:=
 CallT Tryz.prog 135 [v0] H fun v8 H1=>
 CallT Tryz.prog 135 [v1] H1 fun v10 H2=>
 cV_ v8 (cV_ v10 (K (AV.p (.int .i64 0)) H2)
 (K (AV.p (.int .i64 (-1))) H2))
 (cV_ v10 (K (AV.p (.int .i64 1)) H2)
 (binV tab .lss 3 v0 v1 fun v16=>
 cV_ v16 (K (AV.p (.int .i64 (-1))) H2)
 (binV tab .gtr 3 v0 v1 fun v19=>
 cV_ v19 (K (AV.p (.int .i64 1)) H2)
 (K (AV.p (.int .i64 0)) H2))))
theorem W113_wp (v0:AV) (v1:AV) (H:Heap) (K:AV→Heap→Prop):wpC Tryz.prog tab D113 (bO_ Tryz.f113) (retF tab [.tmp 4] K) (nthA [v0,v1]) H=W113 v0 v1 H K:=by kernel_rfl
theorem W113_ok {v0 v1:AV} {H:Heap} {K:AV→Heap→Prop} (h:W113 v0 v1 H K):CallT Tryz.prog 113 [v0,v1] H K:=
 CallT.of_wp (D:=D113) tO_ mixed Tryz.func113 (c:=bO_ Tryz.f113) (by kernel_rfl) rfl (by kernel_rfl) (rs:=#[.tmp 4]) rfl (by decide +kernel) (by kernel_rfl) (W113_wp v0 v1 H K) h
def D114:Info:=⟨37,fun i=>([],[]),fun i=>if i=3 then ([3,11,12],[13]) else if i=6 then ([3,4,11,12,13,18,19],[20]) else ([],[])⟩
def L114_0 (K:AV→Heap→Prop) (v3:AV) (v11:AV) (v12:AV) (v13:AV) (H:Heap):Prop:=LoopV (wpC Tryz.prog tab D114 (cAt [1,1,0,1,0,0] (bO_ Tryz.f114))) [3,11,12] (PostF.block 0 (PostF.thenA (wpC Tryz.prog tab D114 (cAt [1,1,1] (bO_ Tryz.f114))) (retF tab [.tmp 2] K))) [13] [Q_,Q_,Q_,v3,Q_,Q_,Q_,Q_,Q_,Q_,Q_,v11,v12,v13,Q_,Q_,Q_,Q_,Q_,Q_,Q_,Q_,Q_,Q_,Q_,Q_,Q_,Q_,Q_,Q_,Q_,Q_,Q_,Q_,Q_,Q_,Q_] H
def L114_1 (K:AV→Heap→Prop) (N1:AV→Heap→Prop) (v3:AV) (v4:AV) (v11:AV) (v12:AV) (v13:AV) (v18:AV) (v19:AV) (v20:AV) (H:Heap):Prop:=LoopV (wpC Tryz.prog tab D114 (cAt [1,1,0,1,0,0,1,1,0,0,1,1,0,0] (bO_ Tryz.f114))) [3,4,11,12,13,18,19] (PostF.block 2 (PostF.block 1 (PostF.thenA (wpC Tryz.prog tab D114 (cAt [1,1,0,1,0,0,1,1,1] (bO_ Tryz.f114))) (loopF (PostF.block 0 (PostF.thenA (wpC Tryz.prog tab D114 (cAt [1,1,1] (bO_ Tryz.f114))) (retF tab [.tmp 2] K))) (fun e h=>N1 (e 13) h))))) [20] [Q_,Q_,Q_,v3,v4,Q_,Q_,Q_,Q_,Q_,Q_,v11,v12,v13,Q_,Q_,Q_,Q_,v18,v19,v20,Q_,Q_,Q_,Q_,Q_,Q_,Q_,Q_,Q_,Q_,Q_,Q_,Q_,Q_,Q_,Q_] H
def B114_1 (K:AV→Heap→Prop) (N1:AV→Heap→Prop) (N2:AV→Heap→Prop) (v3:AV) (v4:AV) (v11:AV) (v12:AV) (v13:AV) (v18:AV) (v19:AV) (v20:AV) (H:Heap):Prop:=
 binV tab .lss 3 v20 v19 fun v21=>
 cV_ v21 (iA_ tab 22 v18 v20 fun v22=>
 lV_ tab 3 v22 H fun v23=>
 iA_ tab 24 v3 v23 fun v28=>
 lV_ tab 22 v28 H fun v29=>
 bS_ tab 22 1 [(0,v4)] H (wkK fun v31 H2=>
 aP_ tab 22 22 v29 v31 H2 (wkK fun v32 H3=>
 iA_ tab 24 v3 v23 fun v33=>
 sV_ tab 22 v33 v32 H3 fun H4=>
 binV tab .add 3 v20 (AV.p (.int .i64 1)) fun v34=>
 N2 v34 H4)))
 (binV tab .add 3 v13 (AV.p (.int .i64 1)) fun v35=>
 N1 v35 H)
def B114_0 (K:AV→Heap→Prop) (N1:AV→Heap→Prop) (v3:AV) (v11:AV) (v12:AV) (v13:AV) (H:Heap):Prop:=
 binV tab .lss 3 v13 v12 fun v14=>
 cV_ v14 (iA_ tab 24 v11 v13 fun v16=>
 lV_ tab 22 v16 H fun v17=>
 lenV tab 22 v17 fun v19=>
 L114_1 K N1 v3 v13 v11 v12 v13 v17 v19 (AV.p (.int .i64 0)) H)
 (K v3 H)
def W114 (v0:AV) (H:Heap) (K:AV→Heap→Prop):Prop:=
 lenV tab 24 v0 fun v9=>
 mS_ tab 24 v9 v9 H fun v10 H1=>
 lenV tab 24 v0 fun v12=>
 L114_0 K v10 v0 v12 (AV.p (.int .i64 0)) H1
theorem W114_wp (v0:AV) (H:Heap) (K:AV→Heap→Prop):wpC Tryz.prog tab D114 (bO_ Tryz.f114) (retF tab [.tmp 2] K) (nthA [v0]) H=W114 v0 H K:=by kernel_rfl
theorem W114_ok {v0:AV} {H:Heap} {K:AV→Heap→Prop} (h:W114 v0 H K):CallT Tryz.prog 114 [v0] H K:=
 CallT.of_wp (D:=D114) tO_ mixed Tryz.func114 (c:=bO_ Tryz.f114) (by kernel_rfl) rfl (by kernel_rfl) (rs:=#[.tmp 2]) rfl (by decide +kernel) (by kernel_rfl) (W114_wp v0 H K) h
theorem L114_1_rule {K:AV→Heap→Prop} {N1:AV→Heap→Prop} {v3 v4 v11 v12 v13 v18 v19 v20:AV} {H:Heap} {σ:Type} (s0:σ) (f20:σ→AV) (TH:σ→Heap) (pre:σ→Prop) (μ:σ→Nat)
  (h0:pre s0∧AV.wk v20 (f20 s0)∧Heap.le (TH s0) H)
  (round:∀s,pre s→B114_1 K N1 (fun w20 H'=>∃s',pre s'∧μ s' < μ s∧AV.wk w20 (f20 s')∧Heap.le (TH s') H') v3 v4 v11 v12 v13 v18 v19 (f20 s) (TH s)) :
  L114_1 K N1 v3 v4 v11 v12 v13 v18 v19 v20 H:=by
 unfold L114_1
 exact LoopV.mk s0 (fun s=>[f20 s]) TH pre μ (fun _=>rfl) (Eq.mp (by kernel_rfl) h0) (fun s hs=>Eq.mp (by kernel_rfl) (round s hs))
theorem L114_0_rule {K:AV→Heap→Prop} {v3 v11 v12 v13:AV} {H:Heap} {σ:Type} (s0:σ) (f13:σ→AV) (TH:σ→Heap) (pre:σ→Prop) (μ:σ→Nat)
  (h0:pre s0∧AV.wk v13 (f13 s0)∧Heap.le (TH s0) H)
  (round:∀s,pre s→B114_0 K (fun w13 H'=>∃s',pre s'∧μ s' < μ s∧AV.wk w13 (f13 s')∧Heap.le (TH s') H') v3 v11 v12 (f13 s) (TH s)) :
  L114_0 K v3 v11 v12 v13 H:=by
 unfold L114_0
 exact LoopV.mk s0 (fun s=>[f13 s]) TH pre μ (fun _=>rfl) (Eq.mp (by kernel_rfl) h0) (fun s hs=>Eq.mp (by kernel_rfl) (round s hs))
def D115:Info:=⟨19,fun i=>([],[]),fun i=>if i=2 then ([0,1,7],[8]) else ([],[])⟩
def L115_0 (K:AV→Heap→Prop) (v0:AV) (v1:AV) (v7:AV) (v8:AV) (H:Heap):Prop:=LoopV (wpC Tryz.prog tab D115 (cAt [1,0,1,0,0] (bO_ Tryz.f115))) [0,1,7] (PostF.block 0 (PostF.thenA (wpC Tryz.prog tab D115 (cAt [1,1] (bO_ Tryz.f115))) (retF tab [.tmp 4] K))) [8] [v0,v1,Q_,Q_,Q_,Q_,Q_,v7,v8,Q_,Q_,Q_,Q_,Q_,Q_,Q_,Q_,Q_,Q_] H
def B115_0 (K:AV→Heap→Prop) (N1:AV→Heap→Prop) (v0:AV) (v1:AV) (v7:AV) (v8:AV) (H:Heap):Prop:=
 binV tab .lss 3 v8 v7 fun v9=>
 cV_ v9 (iA_ tab 22 v0 v8 fun v14=>
 lV_ tab 3 v14 H fun v15=>
 callF Tryz.prog v1 [v15] H fun v16 H1=>
 cV_ v16 (K v8 H1)
 (binV tab .add 3 v8 (AV.p (.int .i64 1)) fun v18=>
 N1 v18 H1))
 (K (AV.p (.int .i64 (-1))) H)
def W115 (v0:AV) (v1:AV) (H:Heap) (K:AV→Heap→Prop):Prop:=
 lenV tab 22 v0 fun v7=>
 L115_0 K v0 v1 v7 (AV.p (.int .i64 0)) H
theorem W115_wp (v0:AV) (v1:AV) (H:Heap) (K:AV→Heap→Prop):wpC Tryz.prog tab D115 (bO_ Tryz.f115) (retF tab [.tmp 4] K) (nthA [v0,v1]) H=W115 v0 v1 H K:=by kernel_rfl
theorem W115_ok {v0 v1:AV} {H:Heap} {K:AV→Heap→Prop} (h:W115 v0 v1 H K):CallT Tryz.prog 115 [v0,v1] H K:=
 CallT.of_wp (D:=D115) tO_ mixed Tryz.func115 (c:=bO_ Tryz.f115) (by kernel_rfl) rfl (by kernel_rfl) (rs:=#[.tmp 4]) rfl (by decide +kernel) (by kernel_rfl) (W115_wp v0 v1 H K) h
theorem L115_0_rule {K:AV→Heap→Prop} {v0 v1 v7 v8:AV} {H:Heap} {σ:Type} (s0:σ) (f8:σ→AV) (TH:σ→Heap) (pre:σ→Prop) (μ:σ→Nat)
  (h0:pre s0∧AV.wk v8 (f8 s0)∧Heap.le (TH s0) H)
  (round:∀s,pre s→B115_0 K (fun w8 H'=>∃s',pre s'∧μ s' < μ s∧AV.wk w8 (f8 s')∧Heap.le (TH s') H') v0 v1 v7 (f8 s) (TH s)) :
  L115_0 K v0 v1 v7 v8 H:=by
 unfold L115_0
 exact LoopV.mk s0 (fun s=>[f8 s]) TH pre μ (fun _=>rfl) (Eq.mp (by kernel_rfl) h0) (fun s hs=>Eq.mp (by kernel_rfl) (round s hs))
def D116:Info:=⟨15,fun i=>if i=1 then ([[],[],[0,1],[0,1,2],[],[],[4,5],[4,5,6],[4,5,6,7],[0,1,2,3,4,5,6,7,8],[0,1,2,3,4,5,6,7,8,9]],[(0,[]),(1,[]),(2,[]),(3,[]),(4,[]),(5,[]),(6,[]),(7,[]),(8,[]),(9,[]),(10,[])]) else ([],[]),fun i=>([],[])⟩
def W116 (v0:AV) (v1:AV) (v2:AV) (H:Heap) (K:AV→Heap→Prop):Prop:=
 lV_ tab 22 v1 H fun v5=>
 iA_ tab 22 v5 v0 fun v7=>
 lV_ tab 3 v7 H fun v8=>
 lV_ tab 22 v1 H fun v9=>
 lV_ tab 3 v2 H fun v10=>
 iA_ tab 22 v9 v10 fun v11=>
 lV_ tab 3 v11 H fun v12=>
 binV tab .sub 3 v12 (AV.p (.int .i64 1)) fun v13=>
 binV tab .eql 3 v8 v13 fun v14=>
 K v14 H
theorem W116_wp (v0:AV) (v1:AV) (v2:AV) (H:Heap) (K:AV→Heap→Prop):wpC Tryz.prog tab D116 (bO_ Tryz.f116) (retF tab [.tmp 4] K) (nthA [v0,v1,v2]) H=W116 v0 v1 v2 H K:=by kernel_rfl
theorem W116_ok {v0 v1 v2:AV} {H:Heap} {K:AV→Heap→Prop} (h:W116 v0 v1 v2 H K):CallT Tryz.prog 116 [v0,v1,v2] H K:=
 CallT.of_wp (D:=D116) tO_ mixed Tryz.func116 (c:=bO_ Tryz.f116) (by kernel_rfl) rfl (by kernel_rfl) (rs:=#[.tmp 4]) rfl (by decide +kernel) (by kernel_rfl) (W116_wp v0 v1 v2 H K) h
def D117:Info:=⟨48,fun i=>if i=9 then ([[],[],[],[1,2],[],[],[4,5],[1,2,3,4,5,6],[0,1,2,3,4,5,6,7],[0,1,2,3,4,5,6,7,8]],[(0,[]),(1,[]),(2,[]),(3,[]),(4,[]),(5,[]),(6,[]),(7,[]),(8,[]),(9,[])]) else ([],[]),fun i=>if i=8 then ([7],[8]) else ([],[])⟩
def L117_0 (K:AV→Heap→Prop) (v7:AV) (v8:AV) (H:Heap):Prop:=LoopV (wpC Tryz.prog tab D117 (cAt [1,1,1,1,1,1,0,0,0] (bO_ Tryz.f117))) [7] (PostF.block 0 (PostF.thenA (wpC Tryz.prog tab D117 (cAt [1,1,1,1,1,1,1] (bO_ Tryz.f117))) (retF tab [.tmp 4] K))) [8] [Q_,Q_,Q_,Q_,Q_,Q_,Q_,v7,v8,Q_,Q_,Q_,Q_,Q_,Q_,Q_,Q_,Q_,Q_,Q_,Q_,Q_,Q_,Q_,Q_,Q_,Q_,Q_,Q_,Q_,Q_,Q_,Q_,Q_,Q_,Q_,Q_,Q_,Q_,Q_,Q_,Q_,Q_,Q_,Q_,Q_,Q_,Q_] H
def B117_0 (K:AV→Heap→Prop) (N1:AV→Heap→Prop) (v7:AV) (v8:AV) (H:Heap):Prop:=
 lenV tab 22 v7 fun v36=>
 binV tab .lss 3 v8 v36 fun v37=>
 cV_ v37 (sliceV tab 22 v7 (some v8) none none fun v41=>
 sliceV tab 22 v7 none (some v8) none fun v44=>
 copyV tab 22 v41 v44 H fun v45 H4=>
 binV tab .add 3 v8 v45 fun v46=>
 N1 v46 H4)
 (K v7 H)
def W117 (v0:AV) (v1:AV) (H:Heap) (K:AV→Heap→Prop):Prop:=
 binV tab .lss 3 v1 (AV.p (.int .i64 0)) fun v10=>
 cV_ v10 (False)
 (lenV tab 22 v0 fun v14=>
 convV tab 3 111 v14 fun v15=>
 convV tab 3 111 v1 fun v17=>
 CallT Tryz.prog 136 [v15,v17] H fun v18 H1=>
 xV_ v18 0 fun v19=>
 xV_ v18 1 fun v20=>
 binV tab .gtr 111 v19 (AV.p (.int .u64 0)) fun v22=>
 grdV v22 false (binV tab .gtr 111 v20 (AV.p (.int .u64 9223372036854775807)) fun v25=>
 cV_ v25 (False)
 (convV tab 111 3 v20 fun v29=>
 mS_ tab 22 v29 v29 H1 fun v30 H2=>
 copyV tab 22 v30 v0 H2 fun v33 H3=>
 L117_0 K v30 v33 H3))
 (False))
theorem W117_wp (v0:AV) (v1:AV) (H:Heap) (K:AV→Heap→Prop):wpC Tryz.prog tab D117 (bO_ Tryz.f117) (retF tab [.tmp 4] K) (nthA [v0,v1]) H=W117 v0 v1 H K:=by kernel_rfl
theorem W117_ok {v0 v1:AV} {H:Heap} {K:AV→Heap→Prop} (h:W117 v0 v1 H K):CallT Tryz.prog 117 [v0,v1] H K:=
 CallT.of_wp (D:=D117) tO_ mixed Tryz.func117 (c:=bO_ Tryz.f117) (by kernel_rfl) rfl (by kernel_rfl) (rs:=#[.tmp 4]) rfl (by decide +kernel) (by kernel_rfl) (W117_wp v0 v1 H K) h
theorem L117_0_rule {K:AV→Heap→Prop} {v7 v8:AV} {H:Heap} {σ:Type} (s0:σ) (f8:σ→AV) (TH:σ→Heap) (pre:σ→Prop) (μ:σ→Nat)
  (h0:pre s0∧AV.wk v8 (f8 s0)∧Heap.le (TH s0) H)
  (round:∀s,pre s→B117_0 K (fun w8 H'=>∃s',pre s'∧μ s' < μ s∧AV.wk w8 (f8 s')∧Heap.le (TH s') H') v7 (f8 s) (TH s)) :
  L117_0 K v7 v8 H:=by
 unfold L117_0
 exact LoopV.mk s0 (fun s=>[f8 s]) TH pre μ (fun _=>rfl) (Eq.mp (by kernel_rfl) h0) (fun s hs=>Eq.mp (by kernel_rfl) (round s hs))
end Go.Proofs.YtolffbcnbcjeaaaGreat
