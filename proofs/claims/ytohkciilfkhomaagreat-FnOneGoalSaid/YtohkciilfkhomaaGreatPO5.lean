/- Texts laid together: W6 W7 W8. -/
import Derived.Test.YtohkciilfkhomaaGreatPO4
import Derived.KernelRfl
set_option linter.unusedVariables false
set_option linter.unusedSimpArgs false
open Go.Sep.AV renaming any → Q_
open Nat renaming reduceAdd→Y1,reduceLeDiff→Y2,reduceLT→Y3,reduceMul→Y4,reduceSub→Y5
open Int renaming reduceToNat→X1,reduceSub→X2,reduceAdd→X3,reduceNeg→X4
open Array renaming toList→X5
open Ne renaming symm→Y6
open List renaming forall_mem_cons→Y7
namespace Go.Proofs.YtohkciilfkhomaaGreat
open Go Go.Sep
attribute [local irreducible] wpC b_2
def D70:Info:=⟨35,fun i=>([],[]),fun i=>if i=2 then ([0,1,7,8],[9]) else ([],[])⟩
def L70_0 (K:k_) (v0 v1:AV) (v7 v8 v9:AV) (H:Heap):Prop:=a_c (wpC Tryz.prog tab D70 (cAt [1,0,1,0,0] (bO_ Tryz.f70))) [0,1,7,8] (a_b.block 0 (a_b.thenA (wpC Tryz.prog tab D70 (cAt [1,1] (bO_ Tryz.f70))) (retF tab [.tmp 4] K))) [9] [v0,v1,Q_,Q_,Q_,Q_,Q_,v7,v8,v9,Q_,Q_,Q_,Q_,Q_,Q_,Q_,Q_,Q_,Q_,Q_,Q_,Q_,Q_,Q_,Q_,Q_,Q_,Q_,Q_,Q_,Q_,Q_,Q_,Q_] H
def B70_0 (K:k_) (N1:k_) (v0 v1:AV) (v7 v8 v9:AV) (H:Heap):Prop:=
 binV tab .lss 3 v9 v8 fun v10=>
 cV_ v10 (iA_ tab 24 v7 v9 fun v12=>
 lV_ tab 3 v12 H fun v13=>
 binV tab .lss 3 v13 (AV.p (.int .i64 0)) fun v15=>
 grdV v15 false (binV tab .geq 3 v13 v1 fun v19=>
 grdV v19 false (binV tab .gtr 3 v9 (AV.p (.int .i64 0)) fun v23=>
 grdV v23 true (binV tab .sub 3 v9 (AV.p (.int .i64 1)) fun v27=>
 iA_ tab 24 v0 v27 fun v28=>
 lV_ tab 3 v28 H fun v29=>
 binV tab .geq 3 v29 v13 fun v31=>
 cV_ v31 (K (AV.p (.bool false)) H)
 (binV tab .add 3 v9 (AV.p (.int .i64 1)) fun v34=>
 N1 v34 H))
 (binV tab .add 3 v9 (AV.p (.int .i64 1)) fun v34=>
 N1 v34 H))
 (K (AV.p (.bool false)) H))
 (K (AV.p (.bool false)) H))
 (K (AV.p (.bool true)) H)
def W70 (v0 v1:AV) (H:Heap) (K:k_):Prop:=
 lenV tab 24 v0 fun v8=>
 L70_0 K v0 v1 v0 v8 (AV.p (.int .i64 0)) H
theorem W70_ok {v0 v1:AV} {H:Heap} {K:k_} (h:W70 v0 v1 H K):a_a Tryz.prog 70 [v0,v1] H K:=
 a_a.of_wp (D:=D70) tO_ mixed Tryz.func70 (c:=bO_ Tryz.f70) (by kernel_rfl) rfl (by kernel_rfl) (rs:=#[.tmp 4]) rfl (by decide +kernel) (by kernel_rfl) (by kernel_rfl) h
theorem L70_0_rule {K:k_} {v0 v1 v7 v8 v9:AV} {H:Heap} {σ:Type} (s0:σ) (f9:σ→AV) (TH:σ→Heap) (pre:σ→Prop) (μ:σ→Nat)
  (h0:pre s0∧AV.wk v9 (f9 s0)∧Heap.le (TH s0) H)
  (round:∀s,pre s→B70_0 K (fun w9 H'=>∃s',pre s'∧μ s' < μ s∧AV.wk w9 (f9 s')∧Heap.le (TH s') H') v0 v1 v7 v8 (f9 s) (TH s)) :
  L70_0 K v0 v1 v7 v8 v9 H:=by
 unfold L70_0
 exact a_c.mk s0 (fun s=>[f9 s]) TH pre μ (fun _=>rfl) (Eq.mp (by kernel_rfl) h0) (fun s hs=>Eq.mp (by kernel_rfl) (round s hs))
def D71:Info:=⟨9,fun i=>([],[]),fun i=>([],[])⟩
def W71 (v0:AV) (H:Heap) (K:k_):Prop:=
 binV tab .geq 3 v0 (AV.p (.int .i64 0)) fun v4=>
 grdV v4 true (binV tab .lss 3 v0 (AV.p (.int .i64 8)) fun v7=>
 K v7 H)
 (K (AV.p (.bool false)) H)
theorem W71_ok {v0:AV} {H:Heap} {K:k_} (h:W71 v0 H K):a_a Tryz.prog 71 [v0] H K:=
 a_a.of_wp (D:=D71) tO_ mixed Tryz.func71 (c:=bO_ Tryz.f71) (by kernel_rfl) rfl (by kernel_rfl) (rs:=#[.tmp 2]) rfl (by decide +kernel) (by kernel_rfl) (by kernel_rfl) h
def D72:Info:=⟨21,fun i=>([],[]),fun i=>if i=3 then ([7,8],[3,9]) else ([],[])⟩
def L72_0 (K:k_) (v3 v7:AV) (v8 v9:AV) (H:Heap):Prop:=a_c (wpC Tryz.prog tab D72 (cAt [1,1,0,1,0,0] (bO_ Tryz.f72))) [7,8] (a_b.block 0 (a_b.thenA (wpC Tryz.prog tab D72 (cAt [1,1,1] (bO_ Tryz.f72))) (retF tab [.tmp 2] K))) [3,9] [Q_,Q_,Q_,v3,Q_,Q_,Q_,v7,v8,v9,Q_,Q_,Q_,Q_,Q_,Q_,Q_,Q_,Q_,Q_,Q_] H
def B72_0 (K:k_) (N1:AV→k_) (v3 v7:AV) (v8 v9:AV) (H:Heap):Prop:=
 binV tab .lss 3 v9 v8 fun v10=>
 cV_ v10 (iA_ tab 87 v7 v9 fun v12=>
 lV_ tab 4 v12 H fun v13=>
 cV_ v13 (bS_ tab 24 1 [(0,v9)] H (wkK fun v17 H2=>
 aP_ tab 24 24 v3 v17 H2 (wkK fun v18 H3=>
 binV tab .add 3 v9 (AV.p (.int .i64 1)) fun v19=>
 N1 v18 v19 H3)))
 (binV tab .add 3 v9 (AV.p (.int .i64 1)) fun v19=>
 N1 v3 v19 H))
 (K v3 H)
def W72 (v0:AV) (H:Heap) (K:k_):Prop:=
 bS_ tab 24 0 [] H (wkK fun v6 H1=>
 lenV tab 87 v0 fun v8=>
 L72_0 K v6 v0 v8 (AV.p (.int .i64 0)) H1)
theorem W72_ok {v0:AV} {H:Heap} {K:k_} (h:W72 v0 H K):a_a Tryz.prog 72 [v0] H K:=
 a_a.of_wp (D:=D72) tO_ mixed Tryz.func72 (c:=bO_ Tryz.f72) (by kernel_rfl) rfl (by kernel_rfl) (rs:=#[.tmp 2]) rfl (by decide +kernel) (by kernel_rfl) (by kernel_rfl) h
theorem L72_0_rule {K:k_} {v3 v7 v8 v9:AV} {H:Heap} {σ:Type} (s0:σ) (f3:σ→AV) (f9:σ→AV) (TH:σ→Heap) (pre:σ→Prop) (μ:σ→Nat)
  (h0:pre s0∧AV.wk v3 (f3 s0)∧AV.wk v9 (f9 s0)∧Heap.le (TH s0) H)
  (round:∀s,pre s→B72_0 K (fun w3 w9 H'=>∃s',pre s'∧μ s' < μ s∧AV.wk w3 (f3 s')∧AV.wk w9 (f9 s')∧Heap.le (TH s') H') (f3 s) v7 v8 (f9 s) (TH s)) :
  L72_0 K v3 v7 v8 v9 H:=by
 unfold L72_0
 exact a_c.mk s0 (fun s=>[f3 s,f9 s]) TH pre μ (fun _=>rfl) (Eq.mp (by kernel_rfl) h0) (fun s hs=>Eq.mp (by kernel_rfl) (round s hs))
def D73:Info:=⟨9,fun i=>([],[]),fun i=>([],[])⟩
def W73 (v0 v1:AV) (H:Heap) (K:k_):Prop:=
 binV tab .sub 3 v1 (AV.p (.int .i64 1)) fun v7=>
 a_a Tryz.prog 107 [v0,(AV.p (.int .i64 0)),v7] H fun v8 H1=>
 K v8 H1
theorem W73_ok {v0 v1:AV} {H:Heap} {K:k_} (h:W73 v0 v1 H K):a_a Tryz.prog 73 [v0,v1] H K:=
 a_a.of_wp (D:=D73) tO_ mixed Tryz.func73 (c:=bO_ Tryz.f73) (by kernel_rfl) rfl (by kernel_rfl) (rs:=#[.tmp 4]) rfl (by decide +kernel) (by kernel_rfl) (by kernel_rfl) h
def D74:Info:=⟨43,fun i=>([],[]),fun i=>if i=4 then ([2,7,8,19,20],[21]) else ([],[])⟩
def L74_0 (K:k_) (v2 v7:AV) (v8 v19:AV) (v20 v21:AV) (H:Heap):Prop:=a_c (wpC Tryz.prog tab D74 (cAt [1,1,1,0,1,0,0] (bO_ Tryz.f74))) [2,7,8,19,20] (a_b.block 0 (a_b.thenA (wpC Tryz.prog tab D74 (cAt [1,1,1,1] (bO_ Tryz.f74))) (retF tab [.tmp 6] K))) [21] [Q_,Q_,v2,Q_,Q_,Q_,Q_,v7,v8,Q_,Q_,Q_,Q_,Q_,Q_,Q_,Q_,Q_,Q_,v19,v20,v21,Q_,Q_,Q_,Q_,Q_,Q_,Q_,Q_,Q_,Q_,Q_,Q_,Q_,Q_,Q_,Q_,Q_,Q_,Q_,Q_,Q_] H
def B74_0 (K:k_) (N1:k_) (v2 v7:AV) (v8 v19:AV) (v20 v21:AV) (H:Heap):Prop:=
 binV tab .lss 3 v21 v20 fun v22=>
 cV_ v22 (iA_ tab 25 v19 v21 fun v23=>
 lV_ tab 66 v23 H fun v24=>
 a_d tab 66 H fun v10 H4=>
 sV_ tab 66 v10 v24 H4 fun H5=>
 fA_ tab 66 v10 1 fun v25=>
 lV_ tab 3 v25 H5 fun v26=>
 binV tab .eql 3 v26 v2 fun v28=>
 grdV v28 true (fA_ tab 66 v10 0 fun v31=>
 lV_ tab 3 v31 H5 fun v32=>
 iA_ tab 87 v8 v32 fun v33=>
 lV_ tab 4 v33 H5 fun v34=>
 cV_ v34 (fA_ tab 66 v10 2 fun v37=>
 lV_ tab 3 v37 H5 fun v38=>
 iA_ tab 87 v7 v38 fun v39=>
 sV_ tab 4 v39 (AV.p (.bool true)) H5 fun H6=>
 binV tab .add 3 v21 (AV.p (.int .i64 1)) fun v40=>
 N1 v40 H6)
 (binV tab .add 3 v21 (AV.p (.int .i64 1)) fun v40=>
 N1 v40 H5))
 (binV tab .add 3 v21 (AV.p (.int .i64 1)) fun v40=>
 N1 v40 H5))
 (a_a Tryz.prog 108 [v7] H fun v42 H7=>
 K v42 H7)
def W74 (v0 v1 v2:AV) (H:Heap) (K:k_):Prop:=
 boxV v0 H fun v3 H1=>
 fA_ tab 28 v3 0 fun v11=>
 lV_ tab 3 v11 H1 fun v12=>
 mS_ tab 87 v12 v12 H1 fun v13 H2=>
 fA_ tab 28 v3 0 fun v14=>
 lV_ tab 3 v14 H2 fun v15=>
 a_a Tryz.prog 99 [v15,v1] H2 fun v17 H3=>
 fA_ tab 28 v3 2 fun v18=>
 lV_ tab 25 v18 H3 fun v19=>
 lenV tab 25 v19 fun v20=>
 L74_0 K v2 v13 v17 v19 v20 (AV.p (.int .i64 0)) H3
theorem W74_ok {v0 v1 v2:AV} {H:Heap} {K:k_} (h:W74 v0 v1 v2 H K):a_a Tryz.prog 74 [v0,v1,v2] H K:=
 a_a.of_wp (D:=D74) tO_ mixed Tryz.func74 (c:=bO_ Tryz.f74) (by kernel_rfl) rfl (by kernel_rfl) (rs:=#[.tmp 6]) rfl (by decide +kernel) (by kernel_rfl) (by kernel_rfl) h
theorem L74_0_rule {K:k_} {v2 v7 v8 v19 v20 v21:AV} {H:Heap} {σ:Type} (s0:σ) (f21:σ→AV) (TH:σ→Heap) (pre:σ→Prop) (μ:σ→Nat)
  (h0:pre s0∧AV.wk v21 (f21 s0)∧Heap.le (TH s0) H)
  (round:∀s,pre s→B74_0 K (fun w21 H'=>∃s',pre s'∧μ s' < μ s∧AV.wk w21 (f21 s')∧Heap.le (TH s') H') v2 v7 v8 v19 v20 (f21 s) (TH s)) :
  L74_0 K v2 v7 v8 v19 v20 v21 H:=by
 unfold L74_0
 exact a_c.mk s0 (fun s=>[f21 s]) TH pre μ (fun _=>rfl) (Eq.mp (by kernel_rfl) h0) (fun s hs=>Eq.mp (by kernel_rfl) (round s hs))
def D75:Info:=⟨14,fun i=>([],[]),fun i=>([],[])⟩
def W75 (v0 v1:AV) (H:Heap) (K:k_):Prop:=
 boxV v1 H fun v3 H1=>
 lenV tab 26 v0 fun v6=>
 binV tab .leq 3 v6 (AV.p (.int .i64 6)) fun v7=>
 grdV v7 true (a_a Tryz.prog 109 [v0,(.fn 110 [v3])] H1 fun v11 H2=>
 unV .not v11 fun v12=>
 K v12 H2)
 (K (AV.p (.bool false)) H1)
theorem W75_ok {v0 v1:AV} {H:Heap} {K:k_} (h:W75 v0 v1 H K):a_a Tryz.prog 75 [v0,v1] H K:=
 a_a.of_wp (D:=D75) tO_ mixed Tryz.func75 (c:=bO_ Tryz.f75) (by kernel_rfl) rfl (by kernel_rfl) (rs:=#[.tmp 4]) rfl (by decide +kernel) (by kernel_rfl) (by kernel_rfl) h
def D76:Info:=⟨22,fun i=>if i=1 then ([[],[0],[],[2],[0,1,2,3],[],[5],[],[7],[0,1,2,3,4,5,6,7,8],[],[10],[],[12],[0,1,2,3,4,5,6,7,8,9,10,11,12,13],[0,1,2,3,4,5,6,7,8,9,10,11,12,13,14],[0,1,2,3,4,5,6,7,8,9,10,11,12,13,14,15],[0,1,2,3,4,5,6,7,8,9,10,11,12,13,14,15,16]],[(0,[]),(1,[]),(2,[]),(3,[]),(5,[]),(6,[]),(7,[]),(8,[]),(10,[]),(11,[]),(12,[]),(13,[]),(4,[6,8,11,13]),(9,[11,13]),(14,[]),(15,[]),(16,[]),(17,[])]) else ([],[]),fun i=>([],[])⟩
def W76 (v0 v1:AV) (H:Heap) (K:k_):Prop:=
 boxV v0 H fun v2 H1=>
 boxV v1 H1 fun v3 H2=>
 fA_ tab 66 v2 0 fun v5=>
 lV_ tab 3 v5 H2 fun v6=>
 fA_ tab 66 v3 0 fun v7=>
 lV_ tab 3 v7 H2 fun v8=>
 fA_ tab 66 v2 1 fun v10=>
 lV_ tab 3 v10 H2 fun v11=>
 fA_ tab 66 v3 1 fun v12=>
 lV_ tab 3 v12 H2 fun v13=>
 fA_ tab 66 v2 2 fun v15=>
 lV_ tab 3 v15 H2 fun v16=>
 fA_ tab 66 v3 2 fun v17=>
 lV_ tab 3 v17 H2 fun v18=>
 a_a Tryz.prog 112 [v6,v8] H2 fun v9 H3=>
 (lV_ tab 3 v10 H3 fun v9011=>
 v11=v9011)∧
 (lV_ tab 3 v12 H3 fun v9013=>
 v13=v9013)∧
 (lV_ tab 3 v15 H3 fun v9016=>
 v16=v9016)∧
 (lV_ tab 3 v17 H3 fun v9018=>
 v18=v9018)∧
 a_a Tryz.prog 112 [v11,v13] H3 fun v14 H4=>
 (lV_ tab 3 v15 H4 fun v9016=>
 v16=v9016)∧
 (lV_ tab 3 v17 H4 fun v9018=>
 v18=v9018)∧
 a_a Tryz.prog 112 [v16,v18] H4 fun v19 H5=>
 bS_ tab 24 3 [(0,v9),(1,v14),(2,v19)] H5 (wkK fun v20 H6=>
 a_a Tryz.prog 111 [v20] H6 fun v21 H7=>
 K v21 H7)
theorem W76_ok {v0 v1:AV} {H:Heap} {K:k_} (h:W76 v0 v1 H K):a_a Tryz.prog 76 [v0,v1] H K:=
 a_a.of_wp (D:=D76) tO_ mixed Tryz.func76 (c:=bO_ Tryz.f76) (by kernel_rfl) rfl (by kernel_rfl) (rs:=#[.tmp 4]) rfl (by decide +kernel) (by kernel_rfl) (by kernel_rfl) h
def D78:Info:=⟨39,fun i=>if i=2 then ([[],[],[1],[],[3],[],[],[5,6],[0,1,2,3,4,5,6,7],[0,1,2,3,4,5,6,7,8],[0,1,2,3,4,5,6,7,8,9]],[(0,[]),(1,[]),(3,[]),(6,[]),(5,[2,4]),(7,[2,4]),(2,[2,4]),(4,[4]),(8,[]),(9,[]),(10,[])]) else ([],[]),fun i=>if i=4 then ([4,19],[20]) else ([],[])⟩
def L78_0 (K:k_) (v4 v19 v20:AV) (H:Heap):Prop:=a_c (wpC Tryz.prog tab D78 (cAt [1,1,1,0,1,0,0] (bO_ Tryz.f78))) [4,19] (a_b.block 0 (a_b.thenA (wpC Tryz.prog tab D78 (cAt [1,1,1,1] (bO_ Tryz.f78))) (retF tab [.tmp 2] K))) [20] [Q_,Q_,Q_,Q_,v4,Q_,Q_,Q_,Q_,Q_,Q_,Q_,Q_,Q_,Q_,Q_,Q_,Q_,Q_,v19,v20,Q_,Q_,Q_,Q_,Q_,Q_,Q_,Q_,Q_,Q_,Q_,Q_,Q_,Q_,Q_,Q_,Q_,Q_] H
def B78_0 (K:k_) (N1:k_) (v4 v19 v20:AV) (H:Heap):Prop:=
 binV tab .lss 3 v20 v19 fun v21=>
 cV_ v21 (nC_ v4 fun v24=>
 fA_ tab 118 v24 1 fun v25=>
 lV_ tab 24 v25 H fun v26=>
 iA_ tab 24 v26 v20 fun v28=>
 lV_ tab 3 v28 H fun v29=>
 binV tab .eql 3 v29 (AV.p (.int .i64 0)) fun v30=>
 cV_ v30 (a_a Tryz.prog 115 [v4,v20] H fun v33 H6=>
 binV tab .add 3 v20 (AV.p (.int .i64 1)) fun v34=>
 N1 v34 H6)
 (binV tab .add 3 v20 (AV.p (.int .i64 1)) fun v34=>
 N1 v34 H))
 (nC_ v4 fun v36=>
 fA_ tab 118 v36 3 fun v37=>
 lV_ tab 24 v37 H fun v38=>
 K v38 H)
def W78 (v0:AV) (H:Heap) (K:k_):Prop:=
 lenV tab 26 v0 fun v7=>
 b_g (b_1 tab 24 v7 v7)∧
 b_g (b_1 tab 24 v7 v7)∧
 bS_ tab 24 1 [(0,(AV.p (.int .i64 (-1))))] H (wkK fun v13 H1=>
 b_g (b_1 tab 24 v7 v7)∧
 b_g (b_1 tab 24 v7 v7)∧
 a_a Tryz.prog 61 [v13,v7] H1 fun v15 H2=>
 b_g (b_1 tab 24 v7 v7)∧
 newV (b_1 tab 24 v7 v7) H2 fun v10 H3=>
 newV (b_1 tab 24 v7 v7) H3 fun v12 H4=>
 a_i tab 118 [(0,v0),(1,v10),(2,v12),(3,v15)] fun v16=>
 boxV v16 H4 fun v17 H5=>
 lenV tab 26 v0 fun v19=>
 L78_0 K v17 v19 (AV.p (.int .i64 0)) H5)
theorem W78_ok {v0:AV} {H:Heap} {K:k_} (h:W78 v0 H K):a_a Tryz.prog 78 [v0] H K:=
 a_a.of_wp (D:=D78) tO_ mixed Tryz.func78 (c:=bO_ Tryz.f78) (by kernel_rfl) rfl (by kernel_rfl) (rs:=#[.tmp 2]) rfl (by decide +kernel) (by kernel_rfl) (by kernel_rfl) h
theorem L78_0_rule {K:k_} {v4 v19 v20:AV} {H:Heap} {σ:Type} (s0:σ) (f20:σ→AV) (TH:σ→Heap) (pre:σ→Prop) (μ:σ→Nat)
  (h0:pre s0∧AV.wk v20 (f20 s0)∧Heap.le (TH s0) H)
  (round:∀s,pre s→B78_0 K (fun w20 H'=>∃s',pre s'∧μ s' < μ s∧AV.wk w20 (f20 s')∧Heap.le (TH s') H') v4 v19 (f20 s) (TH s)) :
  L78_0 K v4 v19 v20 H:=by
 unfold L78_0
 exact a_c.mk s0 (fun s=>[f20 s]) TH pre μ (fun _=>rfl) (Eq.mp (by kernel_rfl) h0) (fun s hs=>Eq.mp (by kernel_rfl) (round s hs))
def D87:Info:=⟨21,fun i=>([],[]),fun i=>if i=4 then ([1,10,11],[12]) else ([],[])⟩
def L87_0 (K:k_) (v1 v10:AV) (v11 v12:AV) (H:Heap):Prop:=a_c (wpC Tryz.prog tab D87 (cAt [1,1,0,1,0,0] (bO_ Tryz.f87))) [1,10,11] (a_b.block 0 (a_b.thenA (wpC Tryz.prog tab D87 (cAt [1,1,1] (bO_ Tryz.f87))) (retF tab [.tmp 4] K))) [12] [Q_,v1,Q_,Q_,Q_,Q_,Q_,Q_,Q_,Q_,v10,v11,v12,Q_,Q_,Q_,Q_,Q_,Q_,Q_,Q_] H
def B87_0 (K:k_) (N1:k_) (v1 v10:AV) (v11 v12:AV) (H:Heap):Prop:=
 binV tab .lss 3 v12 v11 fun v13=>
 cV_ v13 (iA_ tab 26 v10 v12 fun v14=>
 lV_ tab 24 v14 H fun v15=>
 a_a Tryz.prog 73 [v15,v1] H fun v18 H1=>
 unV .not v18 fun v19=>
 cV_ v19 (K (AV.p (.bool false)) H1)
 (binV tab .add 3 v12 (AV.p (.int .i64 1)) fun v20=>
 N1 v20 H1))
 (K (AV.p (.bool true)) H)
def W87 (v0 v1:AV) (H:Heap) (K:k_):Prop:=
 lenV tab 26 v0 fun v8=>
 binV tab .gtr 3 v8 (AV.p (.int .i64 6)) fun v9=>
 cV_ v9 (K (AV.p (.bool false)) H)
 (lenV tab 26 v0 fun v11=>
 L87_0 K v1 v0 v11 (AV.p (.int .i64 0)) H)
theorem W87_ok {v0 v1:AV} {H:Heap} {K:k_} (h:W87 v0 v1 H K):a_a Tryz.prog 87 [v0,v1] H K:=
 a_a.of_wp (D:=D87) tO_ mixed Tryz.func87 (c:=bO_ Tryz.f87) (by kernel_rfl) rfl (by kernel_rfl) (rs:=#[.tmp 4]) rfl (by decide +kernel) (by kernel_rfl) (by kernel_rfl) h
theorem L87_0_rule {K:k_} {v1 v10 v11 v12:AV} {H:Heap} {σ:Type} (s0:σ) (f12:σ→AV) (TH:σ→Heap) (pre:σ→Prop) (μ:σ→Nat)
  (h0:pre s0∧AV.wk v12 (f12 s0)∧Heap.le (TH s0) H)
  (round:∀s,pre s→B87_0 K (fun w12 H'=>∃s',pre s'∧μ s' < μ s∧AV.wk w12 (f12 s')∧Heap.le (TH s') H') v1 v10 v11 (f12 s) (TH s)) :
  L87_0 K v1 v10 v11 v12 H:=by
 unfold L87_0
 exact a_c.mk s0 (fun s=>[f12 s]) TH pre μ (fun _=>rfl) (Eq.mp (by kernel_rfl) h0) (fun s hs=>Eq.mp (by kernel_rfl) (round s hs))
def D88:Info:=⟨30,fun i=>([],[]),fun i=>([],[])⟩
def W88 (v0 v1:AV) (H:Heap) (K:k_):Prop:=
 boxV v0 H fun v2 H1=>
 boxV v1 H1 fun v3 H2=>
 fA_ tab 66 v2 0 fun v5=>
 lV_ tab 3 v5 H2 fun v6=>
 fA_ tab 66 v3 0 fun v7=>
 lV_ tab 3 v7 H2 fun v8=>
 binV tab .neq 3 v6 v8 fun v9=>
 cV_ v9 (fA_ tab 66 v2 0 fun v10=>
 lV_ tab 3 v10 H2 fun v11=>
 fA_ tab 66 v3 0 fun v12=>
 lV_ tab 3 v12 H2 fun v13=>
 binV tab .lss 3 v11 v13 fun v14=>
 K v14 H2)
 (fA_ tab 66 v2 1 fun v15=>
 lV_ tab 3 v15 H2 fun v16=>
 fA_ tab 66 v3 1 fun v17=>
 lV_ tab 3 v17 H2 fun v18=>
 binV tab .neq 3 v16 v18 fun v19=>
 cV_ v19 (fA_ tab 66 v2 1 fun v20=>
 lV_ tab 3 v20 H2 fun v21=>
 fA_ tab 66 v3 1 fun v22=>
 lV_ tab 3 v22 H2 fun v23=>
 binV tab .lss 3 v21 v23 fun v24=>
 K v24 H2)
 (fA_ tab 66 v2 2 fun v25=>
 lV_ tab 3 v25 H2 fun v26=>
 fA_ tab 66 v3 2 fun v27=>
 lV_ tab 3 v27 H2 fun v28=>
 binV tab .lss 3 v26 v28 fun v29=>
 K v29 H2))
theorem W88_ok {v0 v1:AV} {H:Heap} {K:k_} (h:W88 v0 v1 H K):a_a Tryz.prog 88 [v0,v1] H K:=
 a_a.of_wp (D:=D88) tO_ mixed Tryz.func88 (c:=bO_ Tryz.f88) (by kernel_rfl) rfl (by kernel_rfl) (rs:=#[.tmp 4]) rfl (by decide +kernel) (by kernel_rfl) (by kernel_rfl) h
end Go.Proofs.YtohkciilfkhomaaGreat
namespace Go.Proofs.YtohkciilfkhomaaGreat
open Go Go.Sep
attribute [local irreducible] wpC b_2
def D89:Info:=⟨73,fun i=>([],[]),fun i=>if i=3 then ([0,1,5,17],[18]) else if i=8 then ([0,1,5,25,26],[27]) else if i=13 then ([0,5],[9]) else if i=17 then ([0,5,10,48,49],[9,50]) else ([],[])⟩
def L89_0 (K:k_) (v0 v1:AV) (v5 v17 v18:AV) (H:Heap):Prop:=a_c (wpC Tryz.prog tab D89 (cAt [1,1,0,1,0,0] (bO_ Tryz.f89))) [0,1,5,17] (a_b.block 0 (a_b.thenA (wpC Tryz.prog tab D89 (cAt [1,1,1] (bO_ Tryz.f89))) (retF tab [.tmp 4] K))) [18] [v0,v1,Q_,Q_,Q_,v5,Q_,Q_,Q_,Q_,Q_,Q_,Q_,Q_,Q_,Q_,Q_,v17,v18,Q_,Q_,Q_,Q_,Q_,Q_,Q_,Q_,Q_,Q_,Q_,Q_,Q_,Q_,Q_,Q_,Q_,Q_,Q_,Q_,Q_,Q_,Q_,Q_,Q_,Q_,Q_,Q_,Q_,Q_,Q_,Q_,Q_,Q_,Q_,Q_,Q_,Q_,Q_,Q_,Q_,Q_,Q_,Q_,Q_,Q_,Q_,Q_,Q_,Q_,Q_,Q_,Q_,Q_] H
def L89_1 (K:k_) (v0 v1:AV) (v5 v25:AV) (v26 v27:AV) (H:Heap):Prop:=a_c (wpC Tryz.prog tab D89 (cAt [1,1,1,0,1,0,0] (bO_ Tryz.f89))) [0,1,5,25,26] (a_b.block 2 (a_b.thenA (wpC Tryz.prog tab D89 (cAt [1,1,1,1] (bO_ Tryz.f89))) (retF tab [.tmp 4] K))) [27] [v0,v1,Q_,Q_,Q_,v5,Q_,Q_,Q_,Q_,Q_,Q_,Q_,Q_,Q_,Q_,Q_,Q_,Q_,Q_,Q_,Q_,Q_,Q_,Q_,v25,v26,v27,Q_,Q_,Q_,Q_,Q_,Q_,Q_,Q_,Q_,Q_,Q_,Q_,Q_,Q_,Q_,Q_,Q_,Q_,Q_,Q_,Q_,Q_,Q_,Q_,Q_,Q_,Q_,Q_,Q_,Q_,Q_,Q_,Q_,Q_,Q_,Q_,Q_,Q_,Q_,Q_,Q_,Q_,Q_,Q_,Q_] H
def L89_2 (K:k_) (v0 v5 v9:AV) (H:Heap):Prop:=a_c (wpC Tryz.prog tab D89 (cAt [1,1,1,1,1,0,0,0] (bO_ Tryz.f89))) [0,5] (a_b.block 4 (a_b.thenA (wpC Tryz.prog tab D89 (cAt [1,1,1,1,1,1] (bO_ Tryz.f89))) (retF tab [.tmp 4] K))) [9] [v0,Q_,Q_,Q_,Q_,v5,Q_,Q_,Q_,v9,Q_,Q_,Q_,Q_,Q_,Q_,Q_,Q_,Q_,Q_,Q_,Q_,Q_,Q_,Q_,Q_,Q_,Q_,Q_,Q_,Q_,Q_,Q_,Q_,Q_,Q_,Q_,Q_,Q_,Q_,Q_,Q_,Q_,Q_,Q_,Q_,Q_,Q_,Q_,Q_,Q_,Q_,Q_,Q_,Q_,Q_,Q_,Q_,Q_,Q_,Q_,Q_,Q_,Q_,Q_,Q_,Q_,Q_,Q_,Q_,Q_,Q_,Q_] H
def L89_3 (K:k_) (N1:k_) (v0 v5:AV) (v9 v10:AV) (v48 v49 v50:AV) (H:Heap):Prop:=a_c (wpC Tryz.prog tab D89 (cAt [1,1,1,1,1,0,0,0,1,0,1,1,1,0,0] (bO_ Tryz.f89))) [0,5,10,48,49] (a_b.block 6 (a_b.block 5 (a_w (a_b.block 4 (a_b.thenA (wpC Tryz.prog tab D89 (cAt [1,1,1,1,1,1] (bO_ Tryz.f89))) (retF tab [.tmp 4] K))) (fun e h=>N1 (e 9) h)))) [9,50] [v0,Q_,Q_,Q_,Q_,v5,Q_,Q_,Q_,v9,v10,Q_,Q_,Q_,Q_,Q_,Q_,Q_,Q_,Q_,Q_,Q_,Q_,Q_,Q_,Q_,Q_,Q_,Q_,Q_,Q_,Q_,Q_,Q_,Q_,Q_,Q_,Q_,Q_,Q_,Q_,Q_,Q_,Q_,Q_,Q_,Q_,Q_,v48,v49,v50,Q_,Q_,Q_,Q_,Q_,Q_,Q_,Q_,Q_,Q_,Q_,Q_,Q_,Q_,Q_,Q_,Q_,Q_,Q_,Q_,Q_,Q_] H
def B89_3 (K:k_) (N1:k_) (N2:AV→k_) (v0 v5:AV) (v9 v10:AV) (v48 v49 v50:AV) (H:Heap):Prop:=
 binV tab .lss 3 v50 v49 fun v51=>
 cV_ v51 (iA_ tab 24 v48 v50 fun v52=>
 lV_ tab 3 v52 H fun v53=>
 iA_ tab 24 v5 v53 fun v56=>
 lV_ tab 3 v56 H fun v57=>
 binV tab .lss 3 v57 (AV.p (.int .i64 0)) fun v58=>
 cV_ v58 (iA_ tab 24 v5 v10 fun v63=>
 lV_ tab 3 v63 H fun v64=>
 binV tab .add 3 v64 (AV.p (.int .i64 1)) fun v65=>
 iA_ tab 24 v5 v53 fun v66=>
 sV_ tab 3 v66 v65 H fun H5=>
 bS_ tab 24 1 [(0,v53)] H5 (wkK fun v69 H6=>
 aP_ tab 24 24 v9 v69 H6 (wkK fun v70 H7=>
 binV tab .add 3 v50 (AV.p (.int .i64 1)) fun v71=>
 N2 v70 v71 H7)))
 (binV tab .add 3 v50 (AV.p (.int .i64 1)) fun v71=>
 N2 v9 v71 H))
 (N1 v9 H)
def B89_2 (K:k_) (N1:k_) (v0 v5 v9:AV) (H:Heap):Prop:=
 lenV tab 24 v9 fun v38=>
 binV tab .gtr 3 v38 (AV.p (.int .i64 0)) fun v39=>
 cV_ v39 (iA_ tab 24 v9 (AV.p (.int .i64 0)) fun v41=>
 lV_ tab 3 v41 H fun v42=>
 a_z tab 24 v9 (some (AV.p (.int .i64 1))) none none fun v44=>
 iA_ tab 26 v0 v42 fun v47=>
 lV_ tab 24 v47 H fun v48=>
 lenV tab 24 v48 fun v49=>
 L89_3 K N1 v0 v5 v44 v42 v48 v49 (AV.p (.int .i64 0)) H)
 (K v5 H)
def B89_1 (K:k_) (N1:k_) (v0 v1:AV) (v5 v25:AV) (v26 v27:AV) (H:Heap):Prop:=
 binV tab .lss 3 v27 v26 fun v28=>
 cV_ v28 (iA_ tab 24 v25 v27 fun v29=>
 lV_ tab 3 v29 H fun v30=>
 iA_ tab 24 v5 v30 fun v33=>
 sV_ tab 3 v33 (AV.p (.int .i64 0)) H fun H3=>
 binV tab .add 3 v27 (AV.p (.int .i64 1)) fun v34=>
 N1 v34 H3)
 (a_a Tryz.prog 38 [v1] H fun v36 H4=>
 L89_2 K v0 v5 v36 H4)
def B89_0 (K:k_) (N1:k_) (v0 v1:AV) (v5 v17 v18:AV) (H:Heap):Prop:=
 binV tab .lss 3 v18 v17 fun v19=>
 cV_ v19 (iA_ tab 24 v5 v18 fun v23=>
 sV_ tab 3 v23 (AV.p (.int .i64 (-1))) H fun H2=>
 binV tab .add 3 v18 (AV.p (.int .i64 1)) fun v24=>
 N1 v24 H2)
 (lenV tab 24 v1 fun v26=>
 L89_1 K v0 v1 v5 v1 v26 (AV.p (.int .i64 0)) H)
def W89 (v0 v1:AV) (H:Heap) (K:k_):Prop:=
 lenV tab 26 v0 fun v14=>
 mS_ tab 24 v14 v14 H fun v15 H1=>
 lenV tab 24 v15 fun v17=>
 L89_0 K v0 v1 v15 v17 (AV.p (.int .i64 0)) H1
theorem W89_ok {v0 v1:AV} {H:Heap} {K:k_} (h:W89 v0 v1 H K):a_a Tryz.prog 89 [v0,v1] H K:=
 a_a.of_wp (D:=D89) tO_ mixed Tryz.func89 (c:=bO_ Tryz.f89) (by kernel_rfl) rfl (by kernel_rfl) (rs:=#[.tmp 4]) rfl (by decide +kernel) (by kernel_rfl) (by kernel_rfl) h
theorem L89_3_rule {K:k_} {N1:k_} {v0 v5 v9 v10 v48 v49 v50:AV} {H:Heap} {σ:Type} (s0:σ) (f9:σ→AV) (f50:σ→AV) (TH:σ→Heap) (pre:σ→Prop) (μ:σ→Nat)
  (h0:pre s0∧AV.wk v9 (f9 s0)∧AV.wk v50 (f50 s0)∧Heap.le (TH s0) H)
  (round:∀s,pre s→B89_3 K N1 (fun w9 w50 H'=>∃s',pre s'∧μ s' < μ s∧AV.wk w9 (f9 s')∧AV.wk w50 (f50 s')∧Heap.le (TH s') H') v0 v5 (f9 s) v10 v48 v49 (f50 s) (TH s)) :
  L89_3 K N1 v0 v5 v9 v10 v48 v49 v50 H:=by
 unfold L89_3
 exact a_c.mk s0 (fun s=>[f9 s,f50 s]) TH pre μ (fun _=>rfl) (Eq.mp (by kernel_rfl) h0) (fun s hs=>Eq.mp (by kernel_rfl) (round s hs))
theorem L89_2_rule {K:k_} {v0 v5 v9:AV} {H:Heap} {σ:Type} (s0:σ) (f9:σ→AV) (TH:σ→Heap) (pre:σ→Prop) (μ:σ→Nat)
  (h0:pre s0∧AV.wk v9 (f9 s0)∧Heap.le (TH s0) H)
  (round:∀s,pre s→B89_2 K (fun w9 H'=>∃s',pre s'∧μ s' < μ s∧AV.wk w9 (f9 s')∧Heap.le (TH s') H') v0 v5 (f9 s) (TH s)) :
  L89_2 K v0 v5 v9 H:=by
 unfold L89_2
 exact a_c.mk s0 (fun s=>[f9 s]) TH pre μ (fun _=>rfl) (Eq.mp (by kernel_rfl) h0) (fun s hs=>Eq.mp (by kernel_rfl) (round s hs))
theorem L89_1_rule {K:k_} {v0 v1 v5 v25 v26 v27:AV} {H:Heap} {σ:Type} (s0:σ) (f27:σ→AV) (TH:σ→Heap) (pre:σ→Prop) (μ:σ→Nat)
  (h0:pre s0∧AV.wk v27 (f27 s0)∧Heap.le (TH s0) H)
  (round:∀s,pre s→B89_1 K (fun w27 H'=>∃s',pre s'∧μ s' < μ s∧AV.wk w27 (f27 s')∧Heap.le (TH s') H') v0 v1 v5 v25 v26 (f27 s) (TH s)) :
  L89_1 K v0 v1 v5 v25 v26 v27 H:=by
 unfold L89_1
 exact a_c.mk s0 (fun s=>[f27 s]) TH pre μ (fun _=>rfl) (Eq.mp (by kernel_rfl) h0) (fun s hs=>Eq.mp (by kernel_rfl) (round s hs))
theorem L89_0_rule {K:k_} {v0 v1 v5 v17 v18:AV} {H:Heap} {σ:Type} (s0:σ) (f18:σ→AV) (TH:σ→Heap) (pre:σ→Prop) (μ:σ→Nat)
  (h0:pre s0∧AV.wk v18 (f18 s0)∧Heap.le (TH s0) H)
  (round:∀s,pre s→B89_0 K (fun w18 H'=>∃s',pre s'∧μ s' < μ s∧AV.wk w18 (f18 s')∧Heap.le (TH s') H') v0 v1 v5 v17 (f18 s) (TH s)) :
  L89_0 K v0 v1 v5 v17 v18 H:=by
 unfold L89_0
 exact a_c.mk s0 (fun s=>[f18 s]) TH pre μ (fun _=>rfl) (Eq.mp (by kernel_rfl) h0) (fun s hs=>Eq.mp (by kernel_rfl) (round s hs))
def D90:Info:=⟨82,fun i=>if i=6 then ([[],[],[0,1],[0,1,2],[0,1,2,3],[0,1,2,3,4],[0,1,2,3,4,5],[0,1,2,3,4,5,6],[0,1,2,3,4,5,6,7],[0,1,2,3,4,5,6,7,8],[0,1,2,3,4,5,6,7,8],[0,1,2,3,4,5,6,7,8,9,10],[0,1,2,3,4,5,6,7,8,9,10,11],[0,1,2,3,4,5,6,7,8],[0,1,2,3,4,5,6,7,8],[0,1,2,3,4,5,6,7,8,13,14],[0,1,2,3,4,5,6,7,8,13,14,15],[0,1,2,3,4,5,6,7,8,9,10,11,12,13,14,15,16],[0,1,2,3,4,5,6,7,8,9,10,11,12,13,14,15,16,17],[0,1,2,3,4,5,6,7,8,9,10,11,12,13,14,15,16,17,18]],[(0,[]),(1,[]),(2,[]),(3,[]),(4,[]),(5,[]),(6,[]),(7,[]),(8,[]),(9,[]),(10,[]),(11,[]),(12,[]),(13,[]),(14,[]),(15,[]),(16,[]),(17,[]),(18,[]),(19,[])]) else if i=16 then ([[],[],[0,1],[0,1,2],[],[],[4,5],[4,5,6],[4,5,6,7],[0,1,2,3,4,5,6,7,8]],[(0,[]),(1,[]),(2,[]),(3,[]),(4,[]),(5,[]),(6,[]),(7,[]),(8,[]),(9,[])]) else ([],[]),fun i=>if i=4 then ([0,8,19,20],[9,21]) else if i=12 then ([0,8],[9,12]) else if i=14 then ([0,8,12,59,60],[9,61]) else ([],[])⟩
def L90_0 (K:k_) (v0 v8:AV) (v9 v19:AV) (v20 v21:AV) (H:Heap):Prop:=a_c (wpC Tryz.prog tab D90 (cAt [1,1,1,0,1,0,0] (bO_ Tryz.f90))) [0,8,19,20] (a_b.block 0 (a_b.thenA (wpC Tryz.prog tab D90 (cAt [1,1,1,1] (bO_ Tryz.f90))) (retF tab [.tmp 6,.tmp 7] K))) [9,21] [v0,Q_,Q_,Q_,Q_,Q_,Q_,Q_,v8,v9,Q_,Q_,Q_,Q_,Q_,Q_,Q_,Q_,Q_,v19,v20,v21,Q_,Q_,Q_,Q_,Q_,Q_,Q_,Q_,Q_,Q_,Q_,Q_,Q_,Q_,Q_,Q_,Q_,Q_,Q_,Q_,Q_,Q_,Q_,Q_,Q_,Q_,Q_,Q_,Q_,Q_,Q_,Q_,Q_,Q_,Q_,Q_,Q_,Q_,Q_,Q_,Q_,Q_,Q_,Q_,Q_,Q_,Q_,Q_,Q_,Q_,Q_,Q_,Q_,Q_,Q_,Q_,Q_,Q_,Q_,Q_] H
def L90_1 (K:k_) (v0 v8:AV) (v9 v12:AV) (H:Heap):Prop:=a_c (wpC Tryz.prog tab D90 (cAt [1,1,1,1,1,1,0,0,0] (bO_ Tryz.f90))) [0,8] (a_b.block 2 (a_b.thenA (wpC Tryz.prog tab D90 (cAt [1,1,1,1,1,1,1] (bO_ Tryz.f90))) (retF tab [.tmp 6,.tmp 7] K))) [9,12] [v0,Q_,Q_,Q_,Q_,Q_,Q_,Q_,v8,v9,Q_,Q_,v12,Q_,Q_,Q_,Q_,Q_,Q_,Q_,Q_,Q_,Q_,Q_,Q_,Q_,Q_,Q_,Q_,Q_,Q_,Q_,Q_,Q_,Q_,Q_,Q_,Q_,Q_,Q_,Q_,Q_,Q_,Q_,Q_,Q_,Q_,Q_,Q_,Q_,Q_,Q_,Q_,Q_,Q_,Q_,Q_,Q_,Q_,Q_,Q_,Q_,Q_,Q_,Q_,Q_,Q_,Q_,Q_,Q_,Q_,Q_,Q_,Q_,Q_,Q_,Q_,Q_,Q_,Q_,Q_,Q_] H
def L90_2 (K:k_) (N1:AV→k_) (v0 v8:AV) (v9 v12:AV) (v59 v60 v61:AV) (H:Heap):Prop:=a_c (wpC Tryz.prog tab D90 (cAt [1,1,1,1,1,1,0,0,0,1,0,0,1,0,0] (bO_ Tryz.f90))) [0,8,12,59,60] (a_b.block 4 (a_b.thenA (wpC Tryz.prog tab D90 (cAt [1,1,1,1,1,1,0,0,0,1,0,1] (bO_ Tryz.f90))) (a_b.block 3 (a_w (a_b.block 2 (a_b.thenA (wpC Tryz.prog tab D90 (cAt [1,1,1,1,1,1,1] (bO_ Tryz.f90))) (retF tab [.tmp 6,.tmp 7] K))) (fun e h=>N1 (e 9) (e 12) h))))) [9,61] [v0,Q_,Q_,Q_,Q_,Q_,Q_,Q_,v8,v9,Q_,Q_,v12,Q_,Q_,Q_,Q_,Q_,Q_,Q_,Q_,Q_,Q_,Q_,Q_,Q_,Q_,Q_,Q_,Q_,Q_,Q_,Q_,Q_,Q_,Q_,Q_,Q_,Q_,Q_,Q_,Q_,Q_,Q_,Q_,Q_,Q_,Q_,Q_,Q_,Q_,Q_,Q_,Q_,Q_,Q_,Q_,Q_,Q_,v59,v60,v61,Q_,Q_,Q_,Q_,Q_,Q_,Q_,Q_,Q_,Q_,Q_,Q_,Q_,Q_,Q_,Q_,Q_,Q_,Q_,Q_] H
def B90_2 (K:k_) (N1:AV→k_) (N2:AV→k_) (v0 v8:AV) (v9 v12:AV) (v59 v60 v61:AV) (H:Heap):Prop:=
 binV tab .lss 3 v61 v60 fun v62=>
 cV_ v62 (iA_ tab 24 v59 v61 fun v63=>
 lV_ tab 3 v63 H fun v64=>
 iA_ tab 24 v8 v64 fun v67=>
 lV_ tab 3 v67 H fun v68=>
 iA_ tab 24 v8 v9 fun v71=>
 lV_ tab 3 v71 H fun v72=>
 binV tab .sub 3 v72 (AV.p (.int .i64 1)) fun v73=>
 binV tab .eql 3 v68 v73 fun v74=>
 cV_ v74 (bS_ tab 24 1 [(0,v64)] H (wkK fun v79 H6=>
 aP_ tab 24 24 v12 v79 H6 (wkK fun v80 H7=>
 N1 v64 v80 H7)))
 (binV tab .add 3 v61 (AV.p (.int .i64 1)) fun v76=>
 N2 v9 v76 H))
 (bS_ tab 24 1 [(0,v9)] H (wkK fun v79 H8=>
 aP_ tab 24 24 v12 v79 H8 (wkK fun v80 H9=>
 N1 v9 v80 H9)))
def B90_1 (K:k_) (N1:AV→k_) (v0 v8:AV) (v9 v12:AV) (H:Heap):Prop:=
 iA_ tab 24 v8 v9 fun v53=>
 lV_ tab 3 v53 H fun v54=>
 binV tab .gtr 3 v54 (AV.p (.int .i64 0)) fun v55=>
 cV_ v55 (iA_ tab 26 v0 v9 fun v58=>
 lV_ tab 24 v58 H fun v59=>
 lenV tab 24 v59 fun v60=>
 L90_2 K N1 v0 v8 v9 v12 v59 v60 (AV.p (.int .i64 0)) H)
 (K (.tup [v12,(AV.p (.bool true))]) H)
def B90_0 (K:k_) (N1:AV→k_) (v0 v8:AV) (v9 v19:AV) (v20 v21:AV) (H:Heap):Prop:=
 binV tab .lss 3 v21 v20 fun v22=>
 cV_ v22 (iA_ tab 24 v19 v21 fun v23=>
 lV_ tab 3 v23 H fun v24=>
 iA_ tab 24 v8 v24 fun v27=>
 lV_ tab 3 v27 H fun v28=>
 binV tab .geq 3 v28 (AV.p (.int .i64 0)) fun v29=>
 grdV v29 true (binV tab .lss 3 v9 (AV.p (.int .i64 0)) fun v32=>
 grdV v32 false (iA_ tab 24 v8 v24 fun v36=>
 lV_ tab 3 v36 H fun v37=>
 iA_ tab 24 v8 v9 fun v40=>
 lV_ tab 3 v40 H fun v41=>
 binV tab .lss 3 v37 v41 fun v42=>
 cV_ v42 (binV tab .add 3 v21 (AV.p (.int .i64 1)) fun v46=>
 N1 v24 v46 H)
 (binV tab .add 3 v21 (AV.p (.int .i64 1)) fun v46=>
 N1 v9 v46 H))
 (binV tab .add 3 v21 (AV.p (.int .i64 1)) fun v46=>
 N1 v24 v46 H))
 (binV tab .add 3 v21 (AV.p (.int .i64 1)) fun v46=>
 N1 v9 v46 H))
 (binV tab .lss 3 v9 (AV.p (.int .i64 0)) fun v48=>
 cV_ v48 (K (.tup [(AV.p .nil),(AV.p (.bool false))]) H)
 (bS_ tab 24 1 [(0,v9)] H (wkK fun v50 H3=>
 L90_1 K v0 v8 v9 v50 H3)))
def W90 (v0 v1 v2:AV) (H:Heap) (K:k_):Prop:=
 a_a Tryz.prog 65 [v0] H fun v16 H1=>
 a_a Tryz.prog 89 [v16,v2] H1 fun v18 H2=>
 lenV tab 24 v1 fun v20=>
 L90_0 K v0 v18 (AV.p (.int .i64 (-1))) v1 v20 (AV.p (.int .i64 0)) H2
theorem W90_ok {v0 v1 v2:AV} {H:Heap} {K:k_} (h:W90 v0 v1 v2 H K):a_a Tryz.prog 90 [v0,v1,v2] H K:=
 a_a.of_wp (D:=D90) tO_ mixed Tryz.func90 (c:=bO_ Tryz.f90) (by kernel_rfl) rfl (by kernel_rfl) (rs:=#[.tmp 6,.tmp 7]) rfl (by decide +kernel) (by kernel_rfl) (by kernel_rfl) h
theorem L90_2_rule {K:k_} {N1:AV→k_} {v0 v8 v9 v12 v59 v60 v61:AV} {H:Heap} {σ:Type} (s0:σ) (f9:σ→AV) (f61:σ→AV) (TH:σ→Heap) (pre:σ→Prop) (μ:σ→Nat)
  (h0:pre s0∧AV.wk v9 (f9 s0)∧AV.wk v61 (f61 s0)∧Heap.le (TH s0) H)
  (round:∀s,pre s→B90_2 K N1 (fun w9 w61 H'=>∃s',pre s'∧μ s' < μ s∧AV.wk w9 (f9 s')∧AV.wk w61 (f61 s')∧Heap.le (TH s') H') v0 v8 (f9 s) v12 v59 v60 (f61 s) (TH s)) :
  L90_2 K N1 v0 v8 v9 v12 v59 v60 v61 H:=by
 unfold L90_2
 exact a_c.mk s0 (fun s=>[f9 s,f61 s]) TH pre μ (fun _=>rfl) (Eq.mp (by kernel_rfl) h0) (fun s hs=>Eq.mp (by kernel_rfl) (round s hs))
theorem L90_1_rule {K:k_} {v0 v8 v9 v12:AV} {H:Heap} {σ:Type} (s0:σ) (f9:σ→AV) (f12:σ→AV) (TH:σ→Heap) (pre:σ→Prop) (μ:σ→Nat)
  (h0:pre s0∧AV.wk v9 (f9 s0)∧AV.wk v12 (f12 s0)∧Heap.le (TH s0) H)
  (round:∀s,pre s→B90_1 K (fun w9 w12 H'=>∃s',pre s'∧μ s' < μ s∧AV.wk w9 (f9 s')∧AV.wk w12 (f12 s')∧Heap.le (TH s') H') v0 v8 (f9 s) (f12 s) (TH s)) :
  L90_1 K v0 v8 v9 v12 H:=by
 unfold L90_1
 exact a_c.mk s0 (fun s=>[f9 s,f12 s]) TH pre μ (fun _=>rfl) (Eq.mp (by kernel_rfl) h0) (fun s hs=>Eq.mp (by kernel_rfl) (round s hs))
theorem L90_0_rule {K:k_} {v0 v8 v9 v19 v20 v21:AV} {H:Heap} {σ:Type} (s0:σ) (f9:σ→AV) (f21:σ→AV) (TH:σ→Heap) (pre:σ→Prop) (μ:σ→Nat)
  (h0:pre s0∧AV.wk v9 (f9 s0)∧AV.wk v21 (f21 s0)∧Heap.le (TH s0) H)
  (round:∀s,pre s→B90_0 K (fun w9 w21 H'=>∃s',pre s'∧μ s' < μ s∧AV.wk w9 (f9 s')∧AV.wk w21 (f21 s')∧Heap.le (TH s') H') v0 v8 (f9 s) v19 v20 (f21 s) (TH s)) :
  L90_0 K v0 v8 v9 v19 v20 v21 H:=by
 unfold L90_0
 exact a_c.mk s0 (fun s=>[f9 s,f21 s]) TH pre μ (fun _=>rfl) (Eq.mp (by kernel_rfl) h0) (fun s hs=>Eq.mp (by kernel_rfl) (round s hs))
def D91:Info:=⟨91,fun i=>if i=7 then ([[],[0],[],[2],[2,3],[0,1,2,3,4],[0,1,2,3,4,5],[0,1,2,3,4,5,6]],[(0,[]),(2,[]),(3,[]),(1,[4]),(4,[4]),(5,[]),(6,[]),(7,[])]) else ([],[]),fun i=>if i=3 then ([0,3,20],[21]) else if i=10 then ([0,3,5,6],[7]) else if i=16 then ([0,3,5,6,7,65,66],[8,67]) else if i=22 then ([0,3,5,6,7,8,79,80],[81]) else ([],[])⟩
def L91_0 (K:k_) (v0 v3:AV) (v20 v21:AV) (H:Heap):Prop:=a_c (wpC Tryz.prog tab D91 (cAt [1,1,0,1,0,0] (bO_ Tryz.f91))) [0,3,20] (a_b.block 0 (a_b.thenA (wpC Tryz.prog tab D91 (cAt [1,1,1] (bO_ Tryz.f91))) (retF tab [.tmp 2] K))) [21] [v0,Q_,Q_,v3,Q_,Q_,Q_,Q_,Q_,Q_,Q_,Q_,Q_,Q_,Q_,Q_,Q_,Q_,Q_,Q_,v20,v21,Q_,Q_,Q_,Q_,Q_,Q_,Q_,Q_,Q_,Q_,Q_,Q_,Q_,Q_,Q_,Q_,Q_,Q_,Q_,Q_,Q_,Q_,Q_,Q_,Q_,Q_,Q_,Q_,Q_,Q_,Q_,Q_,Q_,Q_,Q_,Q_,Q_,Q_,Q_,Q_,Q_,Q_,Q_,Q_,Q_,Q_,Q_,Q_,Q_,Q_,Q_,Q_,Q_,Q_,Q_,Q_,Q_,Q_,Q_,Q_,Q_,Q_,Q_,Q_,Q_,Q_,Q_,Q_,Q_] H
def L91_1 (K:k_) (v0 v3:AV) (v5 v6 v7:AV) (H:Heap):Prop:=a_c (wpC Tryz.prog tab D91 (cAt [1,1,1,1,1,0,1,0,0] (bO_ Tryz.f91))) [0,3,5,6] (a_b.block 2 (a_b.thenA (wpC Tryz.prog tab D91 (cAt [1,1,1,1,1,1] (bO_ Tryz.f91))) (retF tab [.tmp 2] K))) [7] [v0,Q_,Q_,v3,Q_,v5,v6,v7,Q_,Q_,Q_,Q_,Q_,Q_,Q_,Q_,Q_,Q_,Q_,Q_,Q_,Q_,Q_,Q_,Q_,Q_,Q_,Q_,Q_,Q_,Q_,Q_,Q_,Q_,Q_,Q_,Q_,Q_,Q_,Q_,Q_,Q_,Q_,Q_,Q_,Q_,Q_,Q_,Q_,Q_,Q_,Q_,Q_,Q_,Q_,Q_,Q_,Q_,Q_,Q_,Q_,Q_,Q_,Q_,Q_,Q_,Q_,Q_,Q_,Q_,Q_,Q_,Q_,Q_,Q_,Q_,Q_,Q_,Q_,Q_,Q_,Q_,Q_,Q_,Q_,Q_,Q_,Q_,Q_,Q_,Q_] H
def L91_2 (K:k_) (N1:k_) (v0 v3:AV) (v5 v6:AV) (v7 v8:AV) (v65 v66 v67:AV) (H:Heap):Prop:=a_c (wpC Tryz.prog tab D91 (cAt [1,1,1,1,1,0,1,0,0,1,0,0,1,1,1,0,1,0,0] (bO_ Tryz.f91))) [0,3,5,6,7,65,66] (a_b.block 4 (a_b.thenA (wpC Tryz.prog tab D91 (cAt [1,1,1,1,1,0,1,0,0,1,0,0,1,1,1,1] (bO_ Tryz.f91))) (a_b.block 3 (a_b.thenA (wpC Tryz.prog tab D91 (cAt [1,1,1,1,1,0,1,0,0,1,1] (bO_ Tryz.f91))) (a_w (a_b.block 2 (a_b.thenA (wpC Tryz.prog tab D91 (cAt [1,1,1,1,1,1] (bO_ Tryz.f91))) (retF tab [.tmp 2] K))) (fun e h=>N1 (e 7) h)))))) [8,67] [v0,Q_,Q_,v3,Q_,v5,v6,v7,v8,Q_,Q_,Q_,Q_,Q_,Q_,Q_,Q_,Q_,Q_,Q_,Q_,Q_,Q_,Q_,Q_,Q_,Q_,Q_,Q_,Q_,Q_,Q_,Q_,Q_,Q_,Q_,Q_,Q_,Q_,Q_,Q_,Q_,Q_,Q_,Q_,Q_,Q_,Q_,Q_,Q_,Q_,Q_,Q_,Q_,Q_,Q_,Q_,Q_,Q_,Q_,Q_,Q_,Q_,Q_,Q_,v65,v66,v67,Q_,Q_,Q_,Q_,Q_,Q_,Q_,Q_,Q_,Q_,Q_,Q_,Q_,Q_,Q_,Q_,Q_,Q_,Q_,Q_,Q_,Q_,Q_] H
def L91_3 (K:k_) (N1:k_) (v0 v3:AV) (v5 v6:AV) (v7 v8:AV) (v79 v80 v81:AV) (H:Heap):Prop:=a_c (wpC Tryz.prog tab D91 (cAt [1,1,1,1,1,0,1,0,0,1,0,0,1,1,1,1,1,0,0] (bO_ Tryz.f91))) [0,3,5,6,7,8,79,80] (a_b.block 6 (a_b.block 3 (a_b.thenA (wpC Tryz.prog tab D91 (cAt [1,1,1,1,1,0,1,0,0,1,1] (bO_ Tryz.f91))) (a_w (a_b.block 2 (a_b.thenA (wpC Tryz.prog tab D91 (cAt [1,1,1,1,1,1] (bO_ Tryz.f91))) (retF tab [.tmp 2] K))) (fun e h=>N1 (e 7) h))))) [81] [v0,Q_,Q_,v3,Q_,v5,v6,v7,v8,Q_,Q_,Q_,Q_,Q_,Q_,Q_,Q_,Q_,Q_,Q_,Q_,Q_,Q_,Q_,Q_,Q_,Q_,Q_,Q_,Q_,Q_,Q_,Q_,Q_,Q_,Q_,Q_,Q_,Q_,Q_,Q_,Q_,Q_,Q_,Q_,Q_,Q_,Q_,Q_,Q_,Q_,Q_,Q_,Q_,Q_,Q_,Q_,Q_,Q_,Q_,Q_,Q_,Q_,Q_,Q_,Q_,Q_,Q_,Q_,Q_,Q_,Q_,Q_,Q_,Q_,Q_,Q_,Q_,Q_,v79,v80,v81,Q_,Q_,Q_,Q_,Q_,Q_,Q_,Q_,Q_] H
def B91_3 (K:k_) (N1:k_) (N2:k_) (v0 v3:AV) (v5 v6:AV) (v7 v8:AV) (v79 v80 v81:AV) (H:Heap):Prop:=
 binV tab .lss 3 v81 v80 fun v82=>
 cV_ v82 (iA_ tab 24 v79 v81 fun v83=>
 lV_ tab 3 v83 H fun v84=>
 iA_ tab 24 v6 v84 fun v88=>
 sV_ tab 3 v88 v8 H fun H10=>
 binV tab .add 3 v81 (AV.p (.int .i64 1)) fun v89=>
 N2 v89 H10)
 (binV tab .sub 3 v7 (AV.p (.int .i64 1)) fun v47=>
 N1 v47 H)
def B91_2 (K:k_) (N1:k_) (N2:AV→k_) (v0 v3:AV) (v5 v6:AV) (v7 v8:AV) (v65 v66 v67:AV) (H:Heap):Prop:=
 binV tab .lss 3 v67 v66 fun v68=>
 cV_ v68 (iA_ tab 24 v65 v67 fun v69=>
 lV_ tab 3 v69 H fun v70=>
 binV tab .lss 3 v70 v8 fun v73=>
 cV_ v73 (binV tab .add 3 v67 (AV.p (.int .i64 1)) fun v75=>
 N2 v70 v75 H)
 (binV tab .add 3 v67 (AV.p (.int .i64 1)) fun v75=>
 N2 v8 v75 H))
 (nC_ v5 fun v77=>
 fA_ tab 124 v77 2 fun v78=>
 lV_ tab 24 v78 H fun v79=>
 lenV tab 24 v79 fun v80=>
 L91_3 K N1 v0 v3 v5 v6 v7 v8 v79 v80 (AV.p (.int .i64 0)) H)
def B91_1 (K:k_) (N1:k_) (v0 v3:AV) (v5 v6 v7:AV) (H:Heap):Prop:=
 binV tab .geq 3 v7 (AV.p (.int .i64 0)) fun v45=>
 cV_ v45 (nC_ v5 fun v49=>
 fA_ tab 124 v49 2 fun v50=>
 sV_ tab 24 v50 (AV.p .nil) H fun H8=>
 nC_ v3 fun v53=>
 fA_ tab 124 v53 2 fun v54=>
 lV_ tab 24 v54 H8 fun v55=>
 iA_ tab 24 v55 v7 fun v57=>
 lV_ tab 3 v57 H8 fun v58=>
 a_a Tryz.prog 118 [v5,v58] H8 fun v59 H9=>
 lenV tab 26 v0 fun v61=>
 nC_ v5 fun v63=>
 fA_ tab 124 v63 2 fun v64=>
 lV_ tab 24 v64 H9 fun v65=>
 lenV tab 24 v65 fun v66=>
 L91_2 K N1 v0 v3 v5 v6 v7 v61 v65 v66 (AV.p (.int .i64 0)) H9)
 (K v6 H)
def B91_0 (K:k_) (N1:k_) (v0 v3:AV) (v20 v21:AV) (H:Heap):Prop:=
 binV tab .lss 3 v21 v20 fun v22=>
 cV_ v22 (a_a Tryz.prog 118 [v3,v21] H fun v26 H3=>
 binV tab .add 3 v21 (AV.p (.int .i64 1)) fun v27=>
 N1 v27 H3)
 (lenV tab 26 v0 fun v31=>
 b_g (b_1 tab 87 v31 v31)∧
 a_a Tryz.prog 65 [v0] H fun v29 H4=>
 newV (b_1 tab 87 v31 v31) H4 fun v32 H5=>
 a_i tab 124 [(0,v29),(1,v32)] fun v33=>
 boxV v33 H5 fun v34 H6=>
 lenV tab 26 v0 fun v36=>
 mS_ tab 24 v36 v36 H6 fun v37 H7=>
 nC_ v3 fun v39=>
 fA_ tab 124 v39 2 fun v40=>
 lV_ tab 24 v40 H7 fun v41=>
 lenV tab 24 v41 fun v42=>
 binV tab .sub 3 v42 (AV.p (.int .i64 1)) fun v43=>
 L91_1 K v0 v3 v34 v37 v43 H7)
def W91 (v0:AV) (H:Heap) (K:k_):Prop:=
 lenV tab 26 v0 fun v15=>
 mS_ tab 87 v15 v15 H fun v16 H1=>
 a_i tab 124 [(0,v0),(1,v16)] fun v17=>
 boxV v17 H1 fun v18 H2=>
 lenV tab 26 v0 fun v20=>
 L91_0 K v0 v18 v20 (AV.p (.int .i64 0)) H2
theorem W91_ok {v0:AV} {H:Heap} {K:k_} (h:W91 v0 H K):a_a Tryz.prog 91 [v0] H K:=
 a_a.of_wp (D:=D91) tO_ mixed Tryz.func91 (c:=bO_ Tryz.f91) (by kernel_rfl) rfl (by kernel_rfl) (rs:=#[.tmp 2]) rfl (by decide +kernel) (by kernel_rfl) (by kernel_rfl) h
theorem L91_3_rule {K:k_} {N1:k_} {v0 v3 v5 v6 v7 v8 v79 v80 v81:AV} {H:Heap} {σ:Type} (s0:σ) (f81:σ→AV) (TH:σ→Heap) (pre:σ→Prop) (μ:σ→Nat)
  (h0:pre s0∧AV.wk v81 (f81 s0)∧Heap.le (TH s0) H)
  (round:∀s,pre s→B91_3 K N1 (fun w81 H'=>∃s',pre s'∧μ s' < μ s∧AV.wk w81 (f81 s')∧Heap.le (TH s') H') v0 v3 v5 v6 v7 v8 v79 v80 (f81 s) (TH s)) :
  L91_3 K N1 v0 v3 v5 v6 v7 v8 v79 v80 v81 H:=by
 unfold L91_3
 exact a_c.mk s0 (fun s=>[f81 s]) TH pre μ (fun _=>rfl) (Eq.mp (by kernel_rfl) h0) (fun s hs=>Eq.mp (by kernel_rfl) (round s hs))
theorem L91_2_rule {K:k_} {N1:k_} {v0 v3 v5 v6 v7 v8 v65 v66 v67:AV} {H:Heap} {σ:Type} (s0:σ) (f8:σ→AV) (f67:σ→AV) (TH:σ→Heap) (pre:σ→Prop) (μ:σ→Nat)
  (h0:pre s0∧AV.wk v8 (f8 s0)∧AV.wk v67 (f67 s0)∧Heap.le (TH s0) H)
  (round:∀s,pre s→B91_2 K N1 (fun w8 w67 H'=>∃s',pre s'∧μ s' < μ s∧AV.wk w8 (f8 s')∧AV.wk w67 (f67 s')∧Heap.le (TH s') H') v0 v3 v5 v6 v7 (f8 s) v65 v66 (f67 s) (TH s)) :
  L91_2 K N1 v0 v3 v5 v6 v7 v8 v65 v66 v67 H:=by
 unfold L91_2
 exact a_c.mk s0 (fun s=>[f8 s,f67 s]) TH pre μ (fun _=>rfl) (Eq.mp (by kernel_rfl) h0) (fun s hs=>Eq.mp (by kernel_rfl) (round s hs))
theorem L91_1_rule {K:k_} {v0 v3 v5 v6 v7:AV} {H:Heap} {σ:Type} (s0:σ) (f7:σ→AV) (TH:σ→Heap) (pre:σ→Prop) (μ:σ→Nat)
  (h0:pre s0∧AV.wk v7 (f7 s0)∧Heap.le (TH s0) H)
  (round:∀s,pre s→B91_1 K (fun w7 H'=>∃s',pre s'∧μ s' < μ s∧AV.wk w7 (f7 s')∧Heap.le (TH s') H') v0 v3 v5 v6 (f7 s) (TH s)) :
  L91_1 K v0 v3 v5 v6 v7 H:=by
 unfold L91_1
 exact a_c.mk s0 (fun s=>[f7 s]) TH pre μ (fun _=>rfl) (Eq.mp (by kernel_rfl) h0) (fun s hs=>Eq.mp (by kernel_rfl) (round s hs))
theorem L91_0_rule {K:k_} {v0 v3 v20 v21:AV} {H:Heap} {σ:Type} (s0:σ) (f21:σ→AV) (TH:σ→Heap) (pre:σ→Prop) (μ:σ→Nat)
  (h0:pre s0∧AV.wk v21 (f21 s0)∧Heap.le (TH s0) H)
  (round:∀s,pre s→B91_0 K (fun w21 H'=>∃s',pre s'∧μ s' < μ s∧AV.wk w21 (f21 s')∧Heap.le (TH s') H') v0 v3 v20 (f21 s) (TH s)) :
  L91_0 K v0 v3 v20 v21 H:=by
 unfold L91_0
 exact a_c.mk s0 (fun s=>[f21 s]) TH pre μ (fun _=>rfl) (Eq.mp (by kernel_rfl) h0) (fun s hs=>Eq.mp (by kernel_rfl) (round s hs))
def D92:Info:=⟨48,fun i=>if i=8 then ([[],[],[0,1],[0,1,2],[],[],[4,5],[4,5,6],[0,1,2,3,4,5,6,7]],[(0,[]),(1,[]),(2,[]),(3,[]),(4,[]),(5,[]),(6,[]),(7,[]),(8,[])]) else ([],[]),fun i=>if i=3 then ([1,5,13,14],[15]) else if i=6 then ([1,5,6,13,14,15,20,21],[22]) else ([],[])⟩
def L92_0 (K:k_) (v1 v5:AV) (v13 v14 v15:AV) (H:Heap):Prop:=a_c (wpC Tryz.prog tab D92 (cAt [1,1,0,1,0,0] (bO_ Tryz.f92))) [1,5,13,14] (a_b.block 0 (a_b.thenA (wpC Tryz.prog tab D92 (cAt [1,1,1] (bO_ Tryz.f92))) (retF tab [.tmp 4] K))) [15] [Q_,v1,Q_,Q_,Q_,v5,Q_,Q_,Q_,Q_,Q_,Q_,Q_,v13,v14,v15,Q_,Q_,Q_,Q_,Q_,Q_,Q_,Q_,Q_,Q_,Q_,Q_,Q_,Q_,Q_,Q_,Q_,Q_,Q_,Q_,Q_,Q_,Q_,Q_,Q_,Q_,Q_,Q_,Q_,Q_,Q_,Q_] H
def L92_1 (K:k_) (N1:k_) (v1 v5:AV) (v6 v13:AV) (v14 v15:AV) (v20 v21 v22:AV) (H:Heap):Prop:=a_c (wpC Tryz.prog tab D92 (cAt [1,1,0,1,0,0,1,1,0,0,1,1,0,0] (bO_ Tryz.f92))) [1,5,6,13,14,15,20,21] (a_b.block 2 (a_b.block 1 (a_b.thenA (wpC Tryz.prog tab D92 (cAt [1,1,0,1,0,0,1,1,1] (bO_ Tryz.f92))) (a_w (a_b.block 0 (a_b.thenA (wpC Tryz.prog tab D92 (cAt [1,1,1] (bO_ Tryz.f92))) (retF tab [.tmp 4] K))) (fun e h=>N1 (e 15) h))))) [22] [Q_,v1,Q_,Q_,Q_,v5,v6,Q_,Q_,Q_,Q_,Q_,Q_,v13,v14,v15,Q_,Q_,Q_,Q_,v20,v21,v22,Q_,Q_,Q_,Q_,Q_,Q_,Q_,Q_,Q_,Q_,Q_,Q_,Q_,Q_,Q_,Q_,Q_,Q_,Q_,Q_,Q_,Q_,Q_,Q_,Q_] H
def B92_1 (K:k_) (N1:k_) (N2:k_) (v1 v5:AV) (v6 v13:AV) (v14 v15:AV) (v20 v21 v22:AV) (H:Heap):Prop:=
 binV tab .lss 3 v22 v21 fun v23=>
 cV_ v23 (iA_ tab 24 v20 v22 fun v24=>
 lV_ tab 3 v24 H fun v25=>
 iA_ tab 24 v1 v6 fun v28=>
 lV_ tab 3 v28 H fun v29=>
 iA_ tab 24 v1 v25 fun v32=>
 lV_ tab 3 v32 H fun v33=>
 binV tab .eql 3 v29 v33 fun v34=>
 cV_ v34 (iA_ tab 26 v5 v6 fun v39=>
 lV_ tab 24 v39 H fun v40=>
 bS_ tab 24 1 [(0,v25)] H (wkK fun v42 H2=>
 aP_ tab 24 24 v40 v42 H2 (wkK fun v43 H3=>
 iA_ tab 26 v5 v6 fun v44=>
 sV_ tab 24 v44 v43 H3 fun H4=>
 binV tab .add 3 v22 (AV.p (.int .i64 1)) fun v45=>
 N2 v45 H4)))
 (binV tab .add 3 v22 (AV.p (.int .i64 1)) fun v45=>
 N2 v45 H))
 (binV tab .add 3 v15 (AV.p (.int .i64 1)) fun v46=>
 N1 v46 H)
def B92_0 (K:k_) (N1:k_) (v1 v5:AV) (v13 v14 v15:AV) (H:Heap):Prop:=
 binV tab .lss 3 v15 v14 fun v16=>
 cV_ v16 (iA_ tab 26 v13 v15 fun v18=>
 lV_ tab 24 v18 H fun v19=>
 lenV tab 24 v19 fun v21=>
 L92_1 K N1 v1 v5 v15 v13 v14 v15 v19 v21 (AV.p (.int .i64 0)) H)
 (K v5 H)
def W92 (v0 v1:AV) (H:Heap) (K:k_):Prop:=
 lenV tab 26 v0 fun v11=>
 mS_ tab 26 v11 v11 H fun v12 H1=>
 lenV tab 26 v0 fun v14=>
 L92_0 K v1 v12 v0 v14 (AV.p (.int .i64 0)) H1
theorem W92_ok {v0 v1:AV} {H:Heap} {K:k_} (h:W92 v0 v1 H K):a_a Tryz.prog 92 [v0,v1] H K:=
 a_a.of_wp (D:=D92) tO_ mixed Tryz.func92 (c:=bO_ Tryz.f92) (by kernel_rfl) rfl (by kernel_rfl) (rs:=#[.tmp 4]) rfl (by decide +kernel) (by kernel_rfl) (by kernel_rfl) h
theorem L92_1_rule {K:k_} {N1:k_} {v1 v5 v6 v13 v14 v15 v20 v21 v22:AV} {H:Heap} {σ:Type} (s0:σ) (f22:σ→AV) (TH:σ→Heap) (pre:σ→Prop) (μ:σ→Nat)
  (h0:pre s0∧AV.wk v22 (f22 s0)∧Heap.le (TH s0) H)
  (round:∀s,pre s→B92_1 K N1 (fun w22 H'=>∃s',pre s'∧μ s' < μ s∧AV.wk w22 (f22 s')∧Heap.le (TH s') H') v1 v5 v6 v13 v14 v15 v20 v21 (f22 s) (TH s)) :
  L92_1 K N1 v1 v5 v6 v13 v14 v15 v20 v21 v22 H:=by
 unfold L92_1
 exact a_c.mk s0 (fun s=>[f22 s]) TH pre μ (fun _=>rfl) (Eq.mp (by kernel_rfl) h0) (fun s hs=>Eq.mp (by kernel_rfl) (round s hs))
theorem L92_0_rule {K:k_} {v1 v5 v13 v14 v15:AV} {H:Heap} {σ:Type} (s0:σ) (f15:σ→AV) (TH:σ→Heap) (pre:σ→Prop) (μ:σ→Nat)
  (h0:pre s0∧AV.wk v15 (f15 s0)∧Heap.le (TH s0) H)
  (round:∀s,pre s→B92_0 K (fun w15 H'=>∃s',pre s'∧μ s' < μ s∧AV.wk w15 (f15 s')∧Heap.le (TH s') H') v1 v5 v13 v14 (f15 s) (TH s)) :
  L92_0 K v1 v5 v13 v14 v15 H:=by
 unfold L92_0
 exact a_c.mk s0 (fun s=>[f15 s]) TH pre μ (fun _=>rfl) (Eq.mp (by kernel_rfl) h0) (fun s hs=>Eq.mp (by kernel_rfl) (round s hs))
def D93:Info:=⟨48,fun i=>([],[]),fun i=>if i=2 then ([0,1],[5]) else ([],[])⟩
def L93_0 (K:k_) (v0 v1 v5:AV) (H:Heap):Prop:=a_c (wpC Tryz.prog tab D93 (cAt [1,1,0,0,0] (bO_ Tryz.f93))) [0,1] (a_b.block 0 (a_b.thenA (wpC Tryz.prog tab D93 (cAt [1,1,1] (bO_ Tryz.f93))) (retF tab [.tmp 4] K))) [5] [v0,v1,Q_,Q_,Q_,v5,Q_,Q_,Q_,Q_,Q_,Q_,Q_,Q_,Q_,Q_,Q_,Q_,Q_,Q_,Q_,Q_,Q_,Q_,Q_,Q_,Q_,Q_,Q_,Q_,Q_,Q_,Q_,Q_,Q_,Q_,Q_,Q_,Q_,Q_,Q_,Q_,Q_,Q_,Q_,Q_,Q_,Q_] H
def J93_1 (K:k_) (v0 v1 v5:AV) (H:Heap):Prop:=
 bS_ tab 24 0 [] H (wkK fun v34 H1=>
 a_z tab 24 v0 none (some v5) none fun v37=>
 aP_ tab 24 24 v34 v37 H1 (wkK fun v38 H2=>
 bS_ tab 24 1 [(0,v1)] H2 (wkK fun v41 H3=>
 aP_ tab 24 24 v38 v41 H3 (wkK fun v42 H4=>
 a_z tab 24 v0 (some v5) none none fun v46=>
 aP_ tab 24 24 v42 v46 H4 (wkK fun v47 H5=>
 K v47 H5)))))
def J93_2 (K:k_) (v0 v1 v5:AV) (H:Heap):Prop:=
 lenV tab 24 v0 fun v23=>
 binV tab .lss 3 v5 v23 fun v24=>
 grdV v24 true (iA_ tab 24 v0 v5 fun v28=>
 lV_ tab 3 v28 H fun v29=>
 binV tab .eql 3 v29 v1 fun v31=>
 cV_ v31 (K v0 H)
 (J93_1 K v0 v1 v5 H))
 (J93_1 K v0 v1 v5 H)
def B93_0 (K:k_) (N1:k_) (v0 v1 v5:AV) (H:Heap):Prop:=
 lenV tab 24 v0 fun v9=>
 binV tab .lss 3 v5 v9 fun v10=>
 grdV v10 true (iA_ tab 24 v0 v5 fun v14=>
 lV_ tab 3 v14 H fun v15=>
 binV tab .lss 3 v15 v1 fun v17=>
 cV_ v17 (binV tab .add 3 v5 (AV.p (.int .i64 1)) fun v20=>
 N1 v20 H)
 (J93_2 K v0 v1 v5 H))
 (J93_2 K v0 v1 v5 H)
def W93 (v0 v1:AV) (H:Heap) (K:k_):Prop:=
 L93_0 K v0 v1 (AV.p (.int .i64 0)) H
theorem W93_ok {v0 v1:AV} {H:Heap} {K:k_} (h:W93 v0 v1 H K):a_a Tryz.prog 93 [v0,v1] H K:=
 a_a.of_wp (D:=D93) tO_ mixed Tryz.func93 (c:=bO_ Tryz.f93) (by kernel_rfl) rfl (by kernel_rfl) (rs:=#[.tmp 4]) rfl (by decide +kernel) (by kernel_rfl) (by kernel_rfl) h
theorem d_g {K:k_} {v0 v1 v5:AV} {H:Heap} {σ:Type} (s0:σ) (f5:σ→AV) (TH:σ→Heap) (pre:σ→Prop) (μ:σ→Nat)
  (h0:pre s0∧AV.wk v5 (f5 s0)∧Heap.le (TH s0) H)
  (round:∀s,pre s→B93_0 K (fun w5 H'=>∃s',pre s'∧μ s' < μ s∧AV.wk w5 (f5 s')∧Heap.le (TH s') H') v0 v1 (f5 s) (TH s)) :
  L93_0 K v0 v1 v5 H:=by
 unfold L93_0
 exact a_c.mk s0 (fun s=>[f5 s]) TH pre μ (fun _=>rfl) (Eq.mp (by kernel_rfl) h0) (fun s hs=>Eq.mp (by kernel_rfl) (round s hs))
end Go.Proofs.YtohkciilfkhomaaGreat
namespace Go.Proofs.YtohkciilfkhomaaGreat
open Go Go.Sep
attribute [local irreducible] wpC b_2
def D94:Info:=⟨125,fun i=>if i=2 then ([[],[0],[],[2],[0,1],[0,1,2,3,4]],[(0,[]),(2,[]),(1,[3]),(4,[]),(3,[3]),(5,[])]) else if i=9 then ([[],[],[],[1,2],[1,2,3],[],[],[],[6,7],[6,7,8],[5,6,7,8,9],[5,6,7,8,9,10],[5,6,7,8,9,10,11],[5,6,7,8,9,10,11,12],[5,6,7,8,9,10,11,12],[5,6,7,8,9,10,11,12,13,14],[5,6,7,8,9,10,11,12,13,14,15],[5,6,7,8,9,10,11,12],[5,6,7,8,9,10,11,12],[5,6,7,8,9,10,11,12,17,18],[5,6,7,8,9,10,11,12,17,18,19],[5,6,7,8,9,10,11,12,13,14,15,16,17,18,19,20],[5,6,7,8,9,10,11,12,13,14,15,16,17,18,19,20,21],[0,1,2,3,4,5,6,7,8,9,10,11,12,13,14,15,16,17,18,19,20,21,22],[0,1,2,3,4,5,6,7,8,9,10,11,12,13,14,15,16,17,18,19,20,21,22,23]],[(0,[]),(1,[]),(2,[]),(3,[]),(4,[]),(5,[]),(6,[]),(7,[]),(8,[]),(9,[]),(10,[]),(11,[]),(12,[]),(13,[]),(14,[]),(15,[]),(16,[]),(17,[]),(18,[]),(19,[]),(20,[]),(21,[]),(22,[]),(23,[]),(24,[])]) else ([],[]),fun i=>if i=4 then ([1,5,6,7,8,28,29],[30]) else if i=7 then ([1,5,6,7,8,9,28,29,30,35,36],[37]) else if i=13 then ([5,6,7,8,67,68],[69]) else if i=17 then ([5,6,7,8,15,67,68,69,75,76],[77]) else if i=22 then ([5,6,7,8,15,67,68,69,89],[90]) else if i=28 then ([5,7,8,109],[110]) else ([],[])⟩
def L94_0 (K:k_) (v1 v5:AV) (v6 v7:AV) (v8 v28:AV) (v29 v30:AV) (H:Heap):Prop:=a_c (wpC Tryz.prog tab D94 (cAt [1,1,1,0,1,0,0] (bO_ Tryz.f94))) [1,5,6,7,8,28,29] (a_b.block 0 (a_b.thenA (wpC Tryz.prog tab D94 (cAt [1,1,1,1] (bO_ Tryz.f94))) (retF tab [.tmp 4] K))) [30] [Q_,v1,Q_,Q_,Q_,v5,v6,v7,v8,Q_,Q_,Q_,Q_,Q_,Q_,Q_,Q_,Q_,Q_,Q_,Q_,Q_,Q_,Q_,Q_,Q_,Q_,Q_,v28,v29,v30,Q_,Q_,Q_,Q_,Q_,Q_,Q_,Q_,Q_,Q_,Q_,Q_,Q_,Q_,Q_,Q_,Q_,Q_,Q_,Q_,Q_,Q_,Q_,Q_,Q_,Q_,Q_,Q_,Q_,Q_,Q_,Q_,Q_,Q_,Q_,Q_,Q_,Q_,Q_,Q_,Q_,Q_,Q_,Q_,Q_,Q_,Q_,Q_,Q_,Q_,Q_,Q_,Q_,Q_,Q_,Q_,Q_,Q_,Q_,Q_,Q_,Q_,Q_,Q_,Q_,Q_,Q_,Q_,Q_,Q_,Q_,Q_,Q_,Q_,Q_,Q_,Q_,Q_,Q_,Q_,Q_,Q_,Q_,Q_,Q_,Q_,Q_,Q_,Q_,Q_,Q_,Q_,Q_,Q_] H
def L94_1 (K:k_) (N1:k_) (v1 v5:AV) (v6 v7:AV) (v8 v9:AV) (v28 v29:AV) (v30 v35:AV) (v36 v37:AV) (H:Heap):Prop:=a_c (wpC Tryz.prog tab D94 (cAt [1,1,1,0,1,0,0,1,1,0,0,1,1,0,0] (bO_ Tryz.f94))) [1,5,6,7,8,9,28,29,30,35,36] (a_b.block 2 (a_b.block 1 (a_b.thenA (wpC Tryz.prog tab D94 (cAt [1,1,1,0,1,0,0,1,1,1] (bO_ Tryz.f94))) (a_w (a_b.block 0 (a_b.thenA (wpC Tryz.prog tab D94 (cAt [1,1,1,1] (bO_ Tryz.f94))) (retF tab [.tmp 4] K))) (fun e h=>N1 (e 30) h))))) [37] [Q_,v1,Q_,Q_,Q_,v5,v6,v7,v8,v9,Q_,Q_,Q_,Q_,Q_,Q_,Q_,Q_,Q_,Q_,Q_,Q_,Q_,Q_,Q_,Q_,Q_,Q_,v28,v29,v30,Q_,Q_,Q_,Q_,v35,v36,v37,Q_,Q_,Q_,Q_,Q_,Q_,Q_,Q_,Q_,Q_,Q_,Q_,Q_,Q_,Q_,Q_,Q_,Q_,Q_,Q_,Q_,Q_,Q_,Q_,Q_,Q_,Q_,Q_,Q_,Q_,Q_,Q_,Q_,Q_,Q_,Q_,Q_,Q_,Q_,Q_,Q_,Q_,Q_,Q_,Q_,Q_,Q_,Q_,Q_,Q_,Q_,Q_,Q_,Q_,Q_,Q_,Q_,Q_,Q_,Q_,Q_,Q_,Q_,Q_,Q_,Q_,Q_,Q_,Q_,Q_,Q_,Q_,Q_,Q_,Q_,Q_,Q_,Q_,Q_,Q_,Q_,Q_,Q_,Q_,Q_,Q_,Q_] H
def B94_1 (K:k_) (N1:k_) (N2:k_) (v1 v5:AV) (v6 v7:AV) (v8 v9:AV) (v28 v29:AV) (v30 v35:AV) (v36 v37:AV) (H:Heap):Prop:=
 binV tab .lss 3 v37 v36 fun v38=>
 cV_ v38 (iA_ tab 24 v35 v37 fun v39=>
 lV_ tab 3 v39 H fun v40=>
 iA_ tab 24 v5 v9 fun v44=>
 lV_ tab 3 v44 H fun v45=>
 iA_ tab 24 v5 v9 fun v49=>
 lV_ tab 3 v49 H fun v50=>
 iA_ tab 87 v7 v50 fun v51=>
 lV_ tab 4 v51 H fun v52=>
 grdV v52 false (iA_ tab 24 v5 v40 fun v56=>
 lV_ tab 3 v56 H fun v57=>
 iA_ tab 24 v5 v9 fun v60=>
 lV_ tab 3 v60 H fun v61=>
 binV tab .eql 3 v57 v61 fun v62=>
 iA_ tab 87 v7 v45 fun v64=>
 sV_ tab 4 v64 v62 H fun H4=>
 binV tab .add 3 v37 (AV.p (.int .i64 1)) fun v65=>
 N2 v65 H4)
 (iA_ tab 87 v7 v45 fun v64=>
 sV_ tab 4 v64 (AV.p (.bool true)) H fun H5=>
 binV tab .add 3 v37 (AV.p (.int .i64 1)) fun v65=>
 N2 v65 H5))
 (binV tab .add 3 v30 (AV.p (.int .i64 1)) fun v66=>
 N1 v66 H)
def L94_2 (K:k_) (v5 v6:AV) (v7 v8:AV) (v67 v68 v69:AV) (H:Heap):Prop:=a_c (wpC Tryz.prog tab D94 (cAt [1,1,1,1,0,1,0,0] (bO_ Tryz.f94))) [5,6,7,8,67,68] (a_b.block 4 (a_b.thenA (wpC Tryz.prog tab D94 (cAt [1,1,1,1,1] (bO_ Tryz.f94))) (retF tab [.tmp 4] K))) [69] [Q_,Q_,Q_,Q_,Q_,v5,v6,v7,v8,Q_,Q_,Q_,Q_,Q_,Q_,Q_,Q_,Q_,Q_,Q_,Q_,Q_,Q_,Q_,Q_,Q_,Q_,Q_,Q_,Q_,Q_,Q_,Q_,Q_,Q_,Q_,Q_,Q_,Q_,Q_,Q_,Q_,Q_,Q_,Q_,Q_,Q_,Q_,Q_,Q_,Q_,Q_,Q_,Q_,Q_,Q_,Q_,Q_,Q_,Q_,Q_,Q_,Q_,Q_,Q_,Q_,Q_,v67,v68,v69,Q_,Q_,Q_,Q_,Q_,Q_,Q_,Q_,Q_,Q_,Q_,Q_,Q_,Q_,Q_,Q_,Q_,Q_,Q_,Q_,Q_,Q_,Q_,Q_,Q_,Q_,Q_,Q_,Q_,Q_,Q_,Q_,Q_,Q_,Q_,Q_,Q_,Q_,Q_,Q_,Q_,Q_,Q_,Q_,Q_,Q_,Q_,Q_,Q_,Q_,Q_,Q_,Q_,Q_,Q_] H
def L94_3 (K:k_) (N1:k_) (v5 v6:AV) (v7 v8:AV) (v15 v67:AV) (v68 v69:AV) (v75 v76 v77:AV) (H:Heap):Prop:=a_c (wpC Tryz.prog tab D94 (cAt [1,1,1,1,0,1,0,0,1,1,0,0,1,1,0,1,0,0] (bO_ Tryz.f94))) [5,6,7,8,15,67,68,69,75,76] (a_b.block 6 (a_b.thenA (wpC Tryz.prog tab D94 (cAt [1,1,1,1,0,1,0,0,1,1,0,0,1,1,1] (bO_ Tryz.f94))) (a_b.block 5 (a_b.thenA (wpC Tryz.prog tab D94 (cAt [1,1,1,1,0,1,0,0,1,1,1] (bO_ Tryz.f94))) (a_w (a_b.block 4 (a_b.thenA (wpC Tryz.prog tab D94 (cAt [1,1,1,1,1] (bO_ Tryz.f94))) (retF tab [.tmp 4] K))) (fun e h=>N1 (e 69) h)))))) [77] [Q_,Q_,Q_,Q_,Q_,v5,v6,v7,v8,Q_,Q_,Q_,Q_,Q_,Q_,v15,Q_,Q_,Q_,Q_,Q_,Q_,Q_,Q_,Q_,Q_,Q_,Q_,Q_,Q_,Q_,Q_,Q_,Q_,Q_,Q_,Q_,Q_,Q_,Q_,Q_,Q_,Q_,Q_,Q_,Q_,Q_,Q_,Q_,Q_,Q_,Q_,Q_,Q_,Q_,Q_,Q_,Q_,Q_,Q_,Q_,Q_,Q_,Q_,Q_,Q_,Q_,v67,v68,v69,Q_,Q_,Q_,Q_,Q_,v75,v76,v77,Q_,Q_,Q_,Q_,Q_,Q_,Q_,Q_,Q_,Q_,Q_,Q_,Q_,Q_,Q_,Q_,Q_,Q_,Q_,Q_,Q_,Q_,Q_,Q_,Q_,Q_,Q_,Q_,Q_,Q_,Q_,Q_,Q_,Q_,Q_,Q_,Q_,Q_,Q_,Q_,Q_,Q_,Q_,Q_,Q_,Q_,Q_] H
def L94_4 (K:k_) (N1:k_) (v5 v6:AV) (v7 v8:AV) (v15 v67:AV) (v68 v69:AV) (v89 v90:AV) (H:Heap):Prop:=a_c (wpC Tryz.prog tab D94 (cAt [1,1,1,1,0,1,0,0,1,1,0,0,1,1,1,1,0,0] (bO_ Tryz.f94))) [5,6,7,8,15,67,68,69,89] (a_b.block 8 (a_b.block 5 (a_b.thenA (wpC Tryz.prog tab D94 (cAt [1,1,1,1,0,1,0,0,1,1,1] (bO_ Tryz.f94))) (a_w (a_b.block 4 (a_b.thenA (wpC Tryz.prog tab D94 (cAt [1,1,1,1,1] (bO_ Tryz.f94))) (retF tab [.tmp 4] K))) (fun e h=>N1 (e 69) h))))) [90] [Q_,Q_,Q_,Q_,Q_,v5,v6,v7,v8,Q_,Q_,Q_,Q_,Q_,Q_,v15,Q_,Q_,Q_,Q_,Q_,Q_,Q_,Q_,Q_,Q_,Q_,Q_,Q_,Q_,Q_,Q_,Q_,Q_,Q_,Q_,Q_,Q_,Q_,Q_,Q_,Q_,Q_,Q_,Q_,Q_,Q_,Q_,Q_,Q_,Q_,Q_,Q_,Q_,Q_,Q_,Q_,Q_,Q_,Q_,Q_,Q_,Q_,Q_,Q_,Q_,Q_,v67,v68,v69,Q_,Q_,Q_,Q_,Q_,Q_,Q_,Q_,Q_,Q_,Q_,Q_,Q_,Q_,Q_,Q_,Q_,Q_,Q_,v89,v90,Q_,Q_,Q_,Q_,Q_,Q_,Q_,Q_,Q_,Q_,Q_,Q_,Q_,Q_,Q_,Q_,Q_,Q_,Q_,Q_,Q_,Q_,Q_,Q_,Q_,Q_,Q_,Q_,Q_,Q_,Q_,Q_,Q_,Q_] H
def B94_4 (K:k_) (N1:k_) (N2:k_) (v5 v6:AV) (v7 v8:AV) (v15 v67:AV) (v68 v69:AV) (v89 v90:AV) (H:Heap):Prop:=
 binV tab .lss 3 v90 v89 fun v91=>
 cV_ v91 (iA_ tab 87 v7 v90 fun v97=>
 lV_ tab 4 v97 H fun v98=>
 grdV v98 true (iA_ tab 87 v15 v90 fun v102=>
 lV_ tab 4 v102 H fun v103=>
 iA_ tab 87 v7 v90 fun v105=>
 sV_ tab 4 v105 v103 H fun H8=>
 binV tab .add 3 v90 (AV.p (.int .i64 1)) fun v106=>
 N2 v106 H8)
 (iA_ tab 87 v7 v90 fun v105=>
 sV_ tab 4 v105 (AV.p (.bool false)) H fun H9=>
 binV tab .add 3 v90 (AV.p (.int .i64 1)) fun v106=>
 N2 v106 H9))
 (binV tab .add 3 v69 (AV.p (.int .i64 1)) fun v107=>
 N1 v107 H)
def B94_3 (K:k_) (N1:k_) (N2:k_) (v5 v6:AV) (v7 v8:AV) (v15 v67:AV) (v68 v69:AV) (v75 v76 v77:AV) (H:Heap):Prop:=
 binV tab .lss 3 v77 v76 fun v78=>
 cV_ v78 (iA_ tab 24 v75 v77 fun v79=>
 lV_ tab 3 v79 H fun v80=>
 iA_ tab 24 v5 v80 fun v84=>
 lV_ tab 3 v84 H fun v85=>
 iA_ tab 87 v15 v85 fun v86=>
 sV_ tab 4 v86 (AV.p (.bool true)) H fun H7=>
 binV tab .add 3 v77 (AV.p (.int .i64 1)) fun v87=>
 N2 v87 H7)
 (lenV tab 87 v7 fun v89=>
 L94_4 K N1 v5 v6 v7 v8 v15 v67 v68 v69 v89 (AV.p (.int .i64 0)) H)
def L94_5 (K:k_) (v5 v7:AV) (v8 v109 v110:AV) (H:Heap):Prop:=a_c (wpC Tryz.prog tab D94 (cAt [1,1,1,1,1,0,1,0,0] (bO_ Tryz.f94))) [5,7,8,109] (a_b.block 10 (a_b.thenA (wpC Tryz.prog tab D94 (cAt [1,1,1,1,1,1] (bO_ Tryz.f94))) (retF tab [.tmp 4] K))) [110] [Q_,Q_,Q_,Q_,Q_,v5,Q_,v7,v8,Q_,Q_,Q_,Q_,Q_,Q_,Q_,Q_,Q_,Q_,Q_,Q_,Q_,Q_,Q_,Q_,Q_,Q_,Q_,Q_,Q_,Q_,Q_,Q_,Q_,Q_,Q_,Q_,Q_,Q_,Q_,Q_,Q_,Q_,Q_,Q_,Q_,Q_,Q_,Q_,Q_,Q_,Q_,Q_,Q_,Q_,Q_,Q_,Q_,Q_,Q_,Q_,Q_,Q_,Q_,Q_,Q_,Q_,Q_,Q_,Q_,Q_,Q_,Q_,Q_,Q_,Q_,Q_,Q_,Q_,Q_,Q_,Q_,Q_,Q_,Q_,Q_,Q_,Q_,Q_,Q_,Q_,Q_,Q_,Q_,Q_,Q_,Q_,Q_,Q_,Q_,Q_,Q_,Q_,Q_,Q_,Q_,Q_,Q_,Q_,v109,v110,Q_,Q_,Q_,Q_,Q_,Q_,Q_,Q_,Q_,Q_,Q_,Q_,Q_,Q_] H
def B94_5 (K:k_) (N1:k_) (v5 v7:AV) (v8 v109 v110:AV) (H:Heap):Prop:=
 binV tab .lss 3 v110 v109 fun v111=>
 cV_ v111 (iA_ tab 24 v5 v110 fun v118=>
 lV_ tab 3 v118 H fun v119=>
 iA_ tab 87 v7 v119 fun v120=>
 lV_ tab 4 v120 H fun v121=>
 iA_ tab 87 v8 v110 fun v122=>
 sV_ tab 4 v122 v121 H fun H10=>
 binV tab .add 3 v110 (AV.p (.int .i64 1)) fun v123=>
 N1 v123 H10)
 (K v8 H)
def B94_2 (K:k_) (N1:k_) (v5 v6:AV) (v7 v8:AV) (v67 v68 v69:AV) (H:Heap):Prop:=
 binV tab .lss 3 v69 v68 fun v70=>
 cV_ v70 (iA_ tab 26 v67 v69 fun v71=>
 lV_ tab 24 v71 H fun v72=>
 mS_ tab 87 v6 v6 H fun v74 H6=>
 lenV tab 24 v72 fun v76=>
 L94_3 K N1 v5 v6 v7 v8 v74 v67 v68 v69 v72 v76 (AV.p (.int .i64 0)) H6)
 (lenV tab 87 v8 fun v109=>
 L94_5 K v5 v7 v8 v109 (AV.p (.int .i64 0)) H)
def B94_0 (K:k_) (N1:k_) (v1 v5:AV) (v6 v7:AV) (v8 v28:AV) (v29 v30:AV) (H:Heap):Prop:=
 binV tab .lss 3 v30 v29 fun v31=>
 cV_ v31 (iA_ tab 26 v28 v30 fun v33=>
 lV_ tab 24 v33 H fun v34=>
 lenV tab 24 v34 fun v36=>
 L94_1 K N1 v1 v5 v6 v7 v8 v30 v28 v29 v30 v34 v36 (AV.p (.int .i64 0)) H)
 (lenV tab 26 v1 fun v68=>
 L94_2 K v5 v6 v7 v8 v1 v68 (AV.p (.int .i64 0)) H)
def W94 (v0 v1:AV) (H:Heap) (K:k_):Prop:=
 a_a Tryz.prog 78 [v0] H fun v21 H1=>
 lenV tab 26 v0 fun v23=>
 b_g (b_1 tab 87 v23 v23)∧
 mS_ tab 87 v23 v23 H1 fun v25 H2=>
 newV (b_1 tab 87 v23 v23) H2 fun v27 H3=>
 lenV tab 26 v0 fun v29=>
 L94_0 K v1 v21 v23 v25 v27 v0 v29 (AV.p (.int .i64 0)) H3
theorem W94_ok {v0 v1:AV} {H:Heap} {K:k_} (h:W94 v0 v1 H K):a_a Tryz.prog 94 [v0,v1] H K:=
 a_a.of_wp (D:=D94) tO_ mixed Tryz.func94 (c:=bO_ Tryz.f94) (by kernel_rfl) rfl (by kernel_rfl) (rs:=#[.tmp 4]) rfl (by decide +kernel) (by kernel_rfl) (by kernel_rfl) h
theorem L94_1_rule {K:k_} {N1:k_} {v1 v5 v6 v7 v8 v9 v28 v29 v30 v35 v36 v37:AV} {H:Heap} {σ:Type} (s0:σ) (f37:σ→AV) (TH:σ→Heap) (pre:σ→Prop) (μ:σ→Nat)
  (h0:pre s0∧AV.wk v37 (f37 s0)∧Heap.le (TH s0) H)
  (round:∀s,pre s→B94_1 K N1 (fun w37 H'=>∃s',pre s'∧μ s' < μ s∧AV.wk w37 (f37 s')∧Heap.le (TH s') H') v1 v5 v6 v7 v8 v9 v28 v29 v30 v35 v36 (f37 s) (TH s)) :
  L94_1 K N1 v1 v5 v6 v7 v8 v9 v28 v29 v30 v35 v36 v37 H:=by
 unfold L94_1
 exact a_c.mk s0 (fun s=>[f37 s]) TH pre μ (fun _=>rfl) (Eq.mp (by kernel_rfl) h0) (fun s hs=>Eq.mp (by kernel_rfl) (round s hs))
theorem L94_4_rule {K:k_} {N1:k_} {v5 v6 v7 v8 v15 v67 v68 v69 v89 v90:AV} {H:Heap} {σ:Type} (s0:σ) (f90:σ→AV) (TH:σ→Heap) (pre:σ→Prop) (μ:σ→Nat)
  (h0:pre s0∧AV.wk v90 (f90 s0)∧Heap.le (TH s0) H)
  (round:∀s,pre s→B94_4 K N1 (fun w90 H'=>∃s',pre s'∧μ s' < μ s∧AV.wk w90 (f90 s')∧Heap.le (TH s') H') v5 v6 v7 v8 v15 v67 v68 v69 v89 (f90 s) (TH s)) :
  L94_4 K N1 v5 v6 v7 v8 v15 v67 v68 v69 v89 v90 H:=by
 unfold L94_4
 exact a_c.mk s0 (fun s=>[f90 s]) TH pre μ (fun _=>rfl) (Eq.mp (by kernel_rfl) h0) (fun s hs=>Eq.mp (by kernel_rfl) (round s hs))
theorem L94_3_rule {K:k_} {N1:k_} {v5 v6 v7 v8 v15 v67 v68 v69 v75 v76 v77:AV} {H:Heap} {σ:Type} (s0:σ) (f77:σ→AV) (TH:σ→Heap) (pre:σ→Prop) (μ:σ→Nat)
  (h0:pre s0∧AV.wk v77 (f77 s0)∧Heap.le (TH s0) H)
  (round:∀s,pre s→B94_3 K N1 (fun w77 H'=>∃s',pre s'∧μ s' < μ s∧AV.wk w77 (f77 s')∧Heap.le (TH s') H') v5 v6 v7 v8 v15 v67 v68 v69 v75 v76 (f77 s) (TH s)) :
  L94_3 K N1 v5 v6 v7 v8 v15 v67 v68 v69 v75 v76 v77 H:=by
 unfold L94_3
 exact a_c.mk s0 (fun s=>[f77 s]) TH pre μ (fun _=>rfl) (Eq.mp (by kernel_rfl) h0) (fun s hs=>Eq.mp (by kernel_rfl) (round s hs))
theorem L94_5_rule {K:k_} {v5 v7 v8 v109 v110:AV} {H:Heap} {σ:Type} (s0:σ) (f110:σ→AV) (TH:σ→Heap) (pre:σ→Prop) (μ:σ→Nat)
  (h0:pre s0∧AV.wk v110 (f110 s0)∧Heap.le (TH s0) H)
  (round:∀s,pre s→B94_5 K (fun w110 H'=>∃s',pre s'∧μ s' < μ s∧AV.wk w110 (f110 s')∧Heap.le (TH s') H') v5 v7 v8 v109 (f110 s) (TH s)) :
  L94_5 K v5 v7 v8 v109 v110 H:=by
 unfold L94_5
 exact a_c.mk s0 (fun s=>[f110 s]) TH pre μ (fun _=>rfl) (Eq.mp (by kernel_rfl) h0) (fun s hs=>Eq.mp (by kernel_rfl) (round s hs))
theorem L94_2_rule {K:k_} {v5 v6 v7 v8 v67 v68 v69:AV} {H:Heap} {σ:Type} (s0:σ) (f69:σ→AV) (TH:σ→Heap) (pre:σ→Prop) (μ:σ→Nat)
  (h0:pre s0∧AV.wk v69 (f69 s0)∧Heap.le (TH s0) H)
  (round:∀s,pre s→B94_2 K (fun w69 H'=>∃s',pre s'∧μ s' < μ s∧AV.wk w69 (f69 s')∧Heap.le (TH s') H') v5 v6 v7 v8 v67 v68 (f69 s) (TH s)) :
  L94_2 K v5 v6 v7 v8 v67 v68 v69 H:=by
 unfold L94_2
 exact a_c.mk s0 (fun s=>[f69 s]) TH pre μ (fun _=>rfl) (Eq.mp (by kernel_rfl) h0) (fun s hs=>Eq.mp (by kernel_rfl) (round s hs))
theorem L94_0_rule {K:k_} {v1 v5 v6 v7 v8 v28 v29 v30:AV} {H:Heap} {σ:Type} (s0:σ) (f30:σ→AV) (TH:σ→Heap) (pre:σ→Prop) (μ:σ→Nat)
  (h0:pre s0∧AV.wk v30 (f30 s0)∧Heap.le (TH s0) H)
  (round:∀s,pre s→B94_0 K (fun w30 H'=>∃s',pre s'∧μ s' < μ s∧AV.wk w30 (f30 s')∧Heap.le (TH s') H') v1 v5 v6 v7 v8 v28 v29 (f30 s) (TH s)) :
  L94_0 K v1 v5 v6 v7 v8 v28 v29 v30 H:=by
 unfold L94_0
 exact a_c.mk s0 (fun s=>[f30 s]) TH pre μ (fun _=>rfl) (Eq.mp (by kernel_rfl) h0) (fun s hs=>Eq.mp (by kernel_rfl) (round s hs))
def D95:Info:=⟨6,fun i=>([],[]),fun i=>([],[])⟩
def W95 (v0:AV) (H:Heap) (K:k_):Prop:=
 a_a Tryz.prog 119 [v0,(.fn 120 [])] H fun v4 H1=>
 unV .not v4 fun v5=>
 K v5 H1
theorem W95_ok {v0:AV} {H:Heap} {K:k_} (h:W95 v0 H K):a_a Tryz.prog 95 [v0] H K:=
 a_a.of_wp (D:=D95) tO_ mixed Tryz.func95 (c:=bO_ Tryz.f95) (by kernel_rfl) rfl (by kernel_rfl) (rs:=#[.tmp 2]) rfl (by decide +kernel) (by kernel_rfl) (by kernel_rfl) h
def D96:Info:=⟨16,fun i=>([],[]),fun i=>if i=2 then ([0],[1,5]) else ([],[])⟩
def L96_0 (K:k_) (v0 v1 v5:AV) (H:Heap):Prop:=a_c (wpC Tryz.prog tab D96 (cAt [1,1,0,0,0] (bO_ Tryz.f96))) [0] (a_b.block 0 (a_b.thenA (wpC Tryz.prog tab D96 (cAt [1,1,1] (bO_ Tryz.f96))) (retF tab [.tmp 4] K))) [1,5] [v0,v1,Q_,Q_,Q_,v5,Q_,Q_,Q_,Q_,Q_,Q_,Q_,Q_,Q_,Q_] H
def B96_0 (K:k_) (N1:AV→k_) (v0 v1 v5:AV) (H:Heap):Prop:=
 binV tab .gtr 3 v1 (AV.p (.int .i64 0)) fun v7=>
 cV_ v7 (a_a Tryz.prog 69 [v0,(AV.p (.int .i64 8))] H fun v12 H1=>
 bS_ tab 24 1 [(0,v12)] H1 (wkK fun v13 H2=>
 aP_ tab 24 24 v5 v13 H2 (wkK fun v14 H3=>
 binV tab .sub 3 v1 (AV.p (.int .i64 1)) fun v9=>
 N1 v9 v14 H3)))
 (K v5 H)
def W96 (v0 v1:AV) (H:Heap) (K:k_):Prop:=
 L96_0 K v0 v1 (AV.p .nil) H
theorem W96_ok {v0 v1:AV} {H:Heap} {K:k_} (h:W96 v0 v1 H K):a_a Tryz.prog 96 [v0,v1] H K:=
 a_a.of_wp (D:=D96) tO_ mixed Tryz.func96 (c:=bO_ Tryz.f96) (by kernel_rfl) rfl (by kernel_rfl) (rs:=#[.tmp 4]) rfl (by decide +kernel) (by kernel_rfl) (by kernel_rfl) h
theorem W96_hb:a_p Tryz.prog 96:=⟨_,bO_ Tryz.f96,Tryz.func96,by kernel_rfl,rfl⟩
theorem L96_0_rule {K:k_} {v0 v1 v5:AV} {H:Heap} {σ:Type} (s0:σ) (f1:σ→AV) (f5:σ→AV) (TH:σ→Heap) (pre:σ→Prop) (μ:σ→Nat)
  (h0:pre s0∧AV.wk v1 (f1 s0)∧AV.wk v5 (f5 s0)∧Heap.le (TH s0) H)
  (round:∀s,pre s→B96_0 K (fun w1 w5 H'=>∃s',pre s'∧μ s' < μ s∧AV.wk w1 (f1 s')∧AV.wk w5 (f5 s')∧Heap.le (TH s') H') v0 (f1 s) (f5 s) (TH s)) :
  L96_0 K v0 v1 v5 H:=by
 unfold L96_0
 exact a_c.mk s0 (fun s=>[f1 s,f5 s]) TH pre μ (fun _=>rfl) (Eq.mp (by kernel_rfl) h0) (fun s hs=>Eq.mp (by kernel_rfl) (round s hs))
def D97:Info:=⟨12,fun i=>([],[]),fun i=>([],[])⟩
def W97 (v0 v1:AV) (H:Heap) (K:k_):Prop:=
 lenV tab 24 v1 fun v8=>
 a_a Tryz.prog 69 [v0,v8] H fun v9 H1=>
 iA_ tab 24 v1 v9 fun v10=>
 lV_ tab 3 v10 H1 fun v11=>
 K v11 H1
theorem W97_ok {v0 v1:AV} {H:Heap} {K:k_} (h:W97 v0 v1 H K):a_a Tryz.prog 97 [v0,v1] H K:=
 a_a.of_wp (D:=D97) tO_ mixed Tryz.func97 (c:=bO_ Tryz.f97) (by kernel_rfl) rfl (by kernel_rfl) (rs:=#[.tmp 4]) rfl (by decide +kernel) (by kernel_rfl) (by kernel_rfl) h
def D98:Info:=⟨79,fun i=>if i=12 then ([[],[0],[],[],[2,3],[0,1,2,3,4]],[(0,[]),(1,[]),(2,[]),(3,[]),(4,[1]),(5,[])]) else if i=13 then ([[],[],[],[2],[1,2,3],[],[5],[1,2,3,4,5,6],[],[],[],[10],[9,10,11],[],[13],[9,10,11,12,13,14],[8,9,10,11,12,13,14,15],[8,9,10,11,12,13,14,15,16],[],[],[19],[18,19,20],[],[22],[18,19,20,21,22,23],[18,19,20,21,22,23,24],[8,9,10,11,12,13,14,15,16,17,18,19,20,21,22,23,24,25],[0,1,2,3,4,5,6,7,8,9,10,11,12,13,14,15,16,17,18,19,20,21,22,23,24,25,26],[0,1,2,3,4,5,6,7,8,9,10,11,12,13,14,15,16,17,18,19,20,21,22,23,24,25,26,27]],[(0,[]),(1,[]),(2,[]),(3,[]),(4,[]),(5,[]),(6,[]),(7,[]),(8,[]),(9,[]),(10,[]),(11,[]),(12,[]),(13,[]),(14,[]),(15,[]),(16,[]),(17,[]),(18,[]),(19,[]),(20,[]),(21,[]),(22,[]),(23,[]),(24,[]),(25,[3,6,11,14,17]),(26,[3,6]),(27,[]),(28,[])]) else ([],[]),fun i=>if i=4 then ([2,3,5,6],[7]) else if i=10 then ([2,3,5,6,7,8,37,38],[39]) else ([],[])⟩
def L98_0 (K:k_) (v2 v3:AV) (v5 v6 v7:AV) (H:Heap):Prop:=a_c (wpC Tryz.prog tab D98 (cAt [1,1,1,0,1,0,0] (bO_ Tryz.f98))) [2,3,5,6] (a_b.block 0 (a_b.thenA (wpC Tryz.prog tab D98 (cAt [1,1,1,1] (bO_ Tryz.f98))) (retF tab [.tmp 4] K))) [7] [Q_,Q_,v2,v3,Q_,v5,v6,v7,Q_,Q_,Q_,Q_,Q_,Q_,Q_,Q_,Q_,Q_,Q_,Q_,Q_,Q_,Q_,Q_,Q_,Q_,Q_,Q_,Q_,Q_,Q_,Q_,Q_,Q_,Q_,Q_,Q_,Q_,Q_,Q_,Q_,Q_,Q_,Q_,Q_,Q_,Q_,Q_,Q_,Q_,Q_,Q_,Q_,Q_,Q_,Q_,Q_,Q_,Q_,Q_,Q_,Q_,Q_,Q_,Q_,Q_,Q_,Q_,Q_,Q_,Q_,Q_,Q_,Q_,Q_,Q_,Q_,Q_,Q_] H
def L98_1 (K:k_) (N1:k_) (v2 v3:AV) (v5 v6:AV) (v7 v8:AV) (v37 v38 v39:AV) (H:Heap):Prop:=a_c (wpC Tryz.prog tab D98 (cAt [1,1,1,0,1,0,0,1,0,0,1,1,1,0,0] (bO_ Tryz.f98))) [2,3,5,6,7,8,37,38] (a_b.block 2 (a_b.block 1 (a_b.thenA (wpC Tryz.prog tab D98 (cAt [1,1,1,0,1,0,0,1,1] (bO_ Tryz.f98))) (a_w (a_b.block 0 (a_b.thenA (wpC Tryz.prog tab D98 (cAt [1,1,1,1] (bO_ Tryz.f98))) (retF tab [.tmp 4] K))) (fun e h=>N1 (e 7) h))))) [39] [Q_,Q_,v2,v3,Q_,v5,v6,v7,v8,Q_,Q_,Q_,Q_,Q_,Q_,Q_,Q_,Q_,Q_,Q_,Q_,Q_,Q_,Q_,Q_,Q_,Q_,Q_,Q_,Q_,Q_,Q_,Q_,Q_,Q_,Q_,Q_,v37,v38,v39,Q_,Q_,Q_,Q_,Q_,Q_,Q_,Q_,Q_,Q_,Q_,Q_,Q_,Q_,Q_,Q_,Q_,Q_,Q_,Q_,Q_,Q_,Q_,Q_,Q_,Q_,Q_,Q_,Q_,Q_,Q_,Q_,Q_,Q_,Q_,Q_,Q_,Q_,Q_] H
def B98_1 (K:k_) (N1:k_) (N2:k_) (v2 v3:AV) (v5 v6:AV) (v7 v8:AV) (v37 v38 v39:AV) (H:Heap):Prop:=
 binV tab .lss 3 v39 v38 fun v40=>
 cV_ v40 (iA_ tab 25 v37 v39 fun v41=>
 lV_ tab 66 v41 H fun v42=>
 a_d tab 66 H fun v10 H4=>
 sV_ tab 66 v10 v42 H4 fun H5=>
 fA_ tab 66 v10 1 fun v43=>
 lV_ tab 3 v43 H5 fun v44=>
 lV_ tab 31 v3 H5 fun v45=>
 a_a Tryz.prog 121 [v45,v7] H5 fun v47 H6=>
 (lV_ tab 3 v43 H6 fun v9044=>
 v44=v9044)∧
 binV tab .eql 3 v44 v47 fun v48=>
 cV_ v48 (fA_ tab 28 v2 0 fun v51=>
 lV_ tab 3 v51 H6 fun v52=>
 binV tab .mul 3 v7 v52 fun v53=>
 fA_ tab 66 v10 0 fun v54=>
 lV_ tab 3 v54 H6 fun v55=>
 binV tab .add 3 v53 v55 fun v56=>
 fA_ tab 28 v2 0 fun v59=>
 lV_ tab 3 v59 H6 fun v60=>
 binV tab .mul 3 v7 v60 fun v61=>
 fA_ tab 66 v10 0 fun v62=>
 lV_ tab 3 v62 H6 fun v63=>
 binV tab .add 3 v61 v63 fun v64=>
 iA_ tab 26 v6 v64 fun v65=>
 lV_ tab 24 v65 H6 fun v66=>
 fA_ tab 28 v2 0 fun v68=>
 lV_ tab 3 v68 H6 fun v69=>
 binV tab .mul 3 v8 v69 fun v70=>
 fA_ tab 66 v10 2 fun v71=>
 lV_ tab 3 v71 H6 fun v72=>
 binV tab .add 3 v70 v72 fun v73=>
 bS_ tab 24 1 [(0,v73)] H6 (wkK fun v74 H7=>
 (lV_ tab 3 v51 H7 fun v9052=>
 v52=v9052)∧
 (lV_ tab 3 v54 H7 fun v9055=>
 v55=v9055)∧
 (lV_ tab 3 v59 H7 fun v9060=>
 v60=v9060)∧
 (lV_ tab 3 v62 H7 fun v9063=>
 v63=v9063)∧
 (lV_ tab 24 v65 H7 fun v9066=>
 v66=v9066)∧
 aP_ tab 24 24 v66 v74 H7 (wkK fun v75 H8=>
 (lV_ tab 3 v51 H8 fun v9052=>
 v52=v9052)∧
 (lV_ tab 3 v54 H8 fun v9055=>
 v55=v9055)∧
 iA_ tab 26 v6 v56 fun v76=>
 sV_ tab 24 v76 v75 H8 fun H9=>
 binV tab .add 3 v39 (AV.p (.int .i64 1)) fun v77=>
 N2 v77 H9)))
 (binV tab .add 3 v39 (AV.p (.int .i64 1)) fun v77=>
 N2 v77 H6))
 (binV tab .add 3 v7 (AV.p (.int .i64 1)) fun v27=>
 N1 v27 H)
def B98_0 (K:k_) (N1:k_) (v2 v3:AV) (v5 v6 v7:AV) (H:Heap):Prop:=
 binV tab .lss 3 v7 v5 fun v25=>
 cV_ v25 (binV tab .add 3 v7 (AV.p (.int .i64 1)) fun v29=>
 binV tab .eql 3 v29 v5 fun v32=>
 cV_ v32 (fA_ tab 31 v3 0 fun v33=>
 lV_ tab 24 v33 H fun v34=>
 lenV tab 24 v34 fun v35=>
 fA_ tab 28 v2 2 fun v36=>
 lV_ tab 25 v36 H fun v37=>
 lenV tab 25 v37 fun v38=>
 L98_1 K N1 v2 v3 v5 v6 v7 v35 v37 v38 (AV.p (.int .i64 0)) H)
 (fA_ tab 28 v2 2 fun v36=>
 lV_ tab 25 v36 H fun v37=>
 lenV tab 25 v37 fun v38=>
 L98_1 K N1 v2 v3 v5 v6 v7 v29 v37 v38 (AV.p (.int .i64 0)) H))
 (K v6 H)
def W98 (v0 v1:AV) (H:Heap) (K:k_):Prop:=
 boxV v0 H fun v2 H1=>
 boxV v1 H1 fun v3 H2=>
 fA_ tab 31 v3 0 fun v11=>
 lV_ tab 24 v11 H2 fun v12=>
 lenV tab 24 v12 fun v13=>
 fA_ tab 31 v3 1 fun v14=>
 lV_ tab 24 v14 H2 fun v15=>
 lenV tab 24 v15 fun v16=>
 binV tab .add 3 v13 v16 fun v17=>
 fA_ tab 28 v2 0 fun v19=>
 lV_ tab 3 v19 H2 fun v20=>
 binV tab .mul 3 v17 v20 fun v21=>
 mS_ tab 26 v21 v21 H2 fun v22 H3=>
 L98_0 K v2 v3 v17 v22 (AV.p (.int .i64 0)) H3
theorem W98_ok {v0 v1:AV} {H:Heap} {K:k_} (h:W98 v0 v1 H K):a_a Tryz.prog 98 [v0,v1] H K:=
 a_a.of_wp (D:=D98) tO_ mixed Tryz.func98 (c:=bO_ Tryz.f98) (by kernel_rfl) rfl (by kernel_rfl) (rs:=#[.tmp 4]) rfl (by decide +kernel) (by kernel_rfl) (by kernel_rfl) h
theorem L98_1_rule {K:k_} {N1:k_} {v2 v3 v5 v6 v7 v8 v37 v38 v39:AV} {H:Heap} {σ:Type} (s0:σ) (f39:σ→AV) (TH:σ→Heap) (pre:σ→Prop) (μ:σ→Nat)
  (h0:pre s0∧AV.wk v39 (f39 s0)∧Heap.le (TH s0) H)
  (round:∀s,pre s→B98_1 K N1 (fun w39 H'=>∃s',pre s'∧μ s' < μ s∧AV.wk w39 (f39 s')∧Heap.le (TH s') H') v2 v3 v5 v6 v7 v8 v37 v38 (f39 s) (TH s)) :
  L98_1 K N1 v2 v3 v5 v6 v7 v8 v37 v38 v39 H:=by
 unfold L98_1
 exact a_c.mk s0 (fun s=>[f39 s]) TH pre μ (fun _=>rfl) (Eq.mp (by kernel_rfl) h0) (fun s hs=>Eq.mp (by kernel_rfl) (round s hs))
theorem L98_0_rule {K:k_} {v2 v3 v5 v6 v7:AV} {H:Heap} {σ:Type} (s0:σ) (f7:σ→AV) (TH:σ→Heap) (pre:σ→Prop) (μ:σ→Nat)
  (h0:pre s0∧AV.wk v7 (f7 s0)∧Heap.le (TH s0) H)
  (round:∀s,pre s→B98_0 K (fun w7 H'=>∃s',pre s'∧μ s' < μ s∧AV.wk w7 (f7 s')∧Heap.le (TH s') H') v2 v3 v5 v6 (f7 s) (TH s)) :
  L98_0 K v2 v3 v5 v6 v7 H:=by
 unfold L98_0
 exact a_c.mk s0 (fun s=>[f7 s]) TH pre μ (fun _=>rfl) (Eq.mp (by kernel_rfl) h0) (fun s hs=>Eq.mp (by kernel_rfl) (round s hs))
def D99:Info:=⟨21,fun i=>([],[]),fun i=>if i=3 then ([5,10,11],[12]) else ([],[])⟩
def L99_0 (K:k_) (v5 v10:AV) (v11 v12:AV) (H:Heap):Prop:=a_c (wpC Tryz.prog tab D99 (cAt [1,1,0,1,0,0] (bO_ Tryz.f99))) [5,10,11] (a_b.block 0 (a_b.thenA (wpC Tryz.prog tab D99 (cAt [1,1,1] (bO_ Tryz.f99))) (retF tab [.tmp 4] K))) [12] [Q_,Q_,Q_,Q_,Q_,v5,Q_,Q_,Q_,Q_,v10,v11,v12,Q_,Q_,Q_,Q_,Q_,Q_,Q_,Q_] H
def B99_0 (K:k_) (N1:k_) (v5 v10:AV) (v11 v12:AV) (H:Heap):Prop:=
 binV tab .lss 3 v12 v11 fun v13=>
 cV_ v13 (iA_ tab 24 v10 v12 fun v14=>
 lV_ tab 3 v14 H fun v15=>
 iA_ tab 87 v5 v15 fun v18=>
 sV_ tab 4 v18 (AV.p (.bool true)) H fun H2=>
 binV tab .add 3 v12 (AV.p (.int .i64 1)) fun v19=>
 N1 v19 H2)
 (K v5 H)
def W99 (v0 v1:AV) (H:Heap) (K:k_):Prop:=
 mS_ tab 87 v0 v0 H fun v9 H1=>
 lenV tab 24 v1 fun v11=>
 L99_0 K v9 v1 v11 (AV.p (.int .i64 0)) H1
theorem W99_ok {v0 v1:AV} {H:Heap} {K:k_} (h:W99 v0 v1 H K):a_a Tryz.prog 99 [v0,v1] H K:=
 a_a.of_wp (D:=D99) tO_ mixed Tryz.func99 (c:=bO_ Tryz.f99) (by kernel_rfl) rfl (by kernel_rfl) (rs:=#[.tmp 4]) rfl (by decide +kernel) (by kernel_rfl) (by kernel_rfl) h
theorem L99_0_rule {K:k_} {v5 v10 v11 v12:AV} {H:Heap} {σ:Type} (s0:σ) (f12:σ→AV) (TH:σ→Heap) (pre:σ→Prop) (μ:σ→Nat)
  (h0:pre s0∧AV.wk v12 (f12 s0)∧Heap.le (TH s0) H)
  (round:∀s,pre s→B99_0 K (fun w12 H'=>∃s',pre s'∧μ s' < μ s∧AV.wk w12 (f12 s')∧Heap.le (TH s') H') v5 v10 v11 (f12 s) (TH s)) :
  L99_0 K v5 v10 v11 v12 H:=by
 unfold L99_0
 exact a_c.mk s0 (fun s=>[f12 s]) TH pre μ (fun _=>rfl) (Eq.mp (by kernel_rfl) h0) (fun s hs=>Eq.mp (by kernel_rfl) (round s hs))
def D100:Info:=⟨8,fun i=>([],[]),fun i=>([],[])⟩
def W100 (v0:AV) (H:Heap) (K:k_):Prop:=
 binV tab .eql 25 v0 (AV.p .nil) fun v4=>
 cV_ v4 (K (AV.p .nil) H)
 (bS_ tab 25 0 [] H (wkK fun v5 H1=>
 aP_ tab 25 25 v5 v0 H1 (wkK fun v7 H2=>
 K v7 H2)))
theorem W100_ok {v0:AV} {H:Heap} {K:k_} (h:W100 v0 H K):a_a Tryz.prog 100 [v0] H K:=
 a_a.of_wp (D:=D100) tO_ mixed Tryz.func100 (c:=bO_ Tryz.f100) (by kernel_rfl) rfl (by kernel_rfl) (rs:=#[.tmp 2]) rfl (by decide +kernel) (by kernel_rfl) (by kernel_rfl) h
theorem W100_hb:a_p Tryz.prog 100:=⟨_,bO_ Tryz.f100,Tryz.func100,by kernel_rfl,rfl⟩
def D101:Info:=⟨16,fun i=>([],[]),fun i=>if i=3 then ([6],[3,7]) else ([],[])⟩
def L101_0 (K:k_) (v3 v6 v7:AV) (H:Heap):Prop:=a_c (wpC Tryz.prog tab D101 (cAt [1,1,0,1,0,0] (bO_ Tryz.f101))) [6] (a_b.block 0 (a_b.thenA (wpC Tryz.prog tab D101 (cAt [1,1,1] (bO_ Tryz.f101))) (retF tab [.tmp 2] K))) [3,7] [Q_,Q_,Q_,v3,Q_,Q_,v6,v7,Q_,Q_,Q_,Q_,Q_,Q_,Q_,Q_] H
def B101_0 (K:k_) (N1:AV→k_) (v3 v6 v7:AV) (H:Heap):Prop:=
 binV tab .lss 3 v7 v6 fun v8=>
 cV_ v8 (bS_ tab 24 1 [(0,v7)] H (wkK fun v12 H2=>
 aP_ tab 24 24 v3 v12 H2 (wkK fun v13 H3=>
 binV tab .add 3 v7 (AV.p (.int .i64 1)) fun v14=>
 N1 v13 v14 H3)))
 (K v3 H)
def W101 (v0:AV) (H:Heap) (K:k_):Prop:=
 bS_ tab 24 0 [] H (wkK fun v5 H1=>
 L101_0 K v5 v0 (AV.p (.int .i64 0)) H1)
theorem W101_ok {v0:AV} {H:Heap} {K:k_} (h:W101 v0 H K):a_a Tryz.prog 101 [v0] H K:=
 a_a.of_wp (D:=D101) tO_ mixed Tryz.func101 (c:=bO_ Tryz.f101) (by kernel_rfl) rfl (by kernel_rfl) (rs:=#[.tmp 2]) rfl (by decide +kernel) (by kernel_rfl) (by kernel_rfl) h
theorem L101_0_rule {K:k_} {v3 v6 v7:AV} {H:Heap} {σ:Type} (s0:σ) (f3:σ→AV) (f7:σ→AV) (TH:σ→Heap) (pre:σ→Prop) (μ:σ→Nat)
  (h0:pre s0∧AV.wk v3 (f3 s0)∧AV.wk v7 (f7 s0)∧Heap.le (TH s0) H)
  (round:∀s,pre s→B101_0 K (fun w3 w7 H'=>∃s',pre s'∧μ s' < μ s∧AV.wk w3 (f3 s')∧AV.wk w7 (f7 s')∧Heap.le (TH s') H') (f3 s) v6 (f7 s) (TH s)) :
  L101_0 K v3 v6 v7 H:=by
 unfold L101_0
 exact a_c.mk s0 (fun s=>[f3 s,f7 s]) TH pre μ (fun _=>rfl) (Eq.mp (by kernel_rfl) h0) (fun s hs=>Eq.mp (by kernel_rfl) (round s hs))
def D102:Info:=⟨19,fun i=>([],[]),fun i=>if i=2 then ([0,1,7],[8]) else ([],[])⟩
def L102_0 (K:k_) (v0 v1:AV) (v7 v8:AV) (H:Heap):Prop:=a_c (wpC Tryz.prog tab D102 (cAt [1,0,1,0,0] (bO_ Tryz.f102))) [0,1,7] (a_b.block 0 (a_b.thenA (wpC Tryz.prog tab D102 (cAt [1,1] (bO_ Tryz.f102))) (retF tab [.tmp 4] K))) [8] [v0,v1,Q_,Q_,Q_,Q_,Q_,v7,v8,Q_,Q_,Q_,Q_,Q_,Q_,Q_,Q_,Q_,Q_] H
def B102_0 (K:k_) (N1:k_) (v0 v1:AV) (v7 v8:AV) (H:Heap):Prop:=
 binV tab .lss 3 v8 v7 fun v9=>
 cV_ v9 (iA_ tab 24 v0 v8 fun v14=>
 lV_ tab 3 v14 H fun v15=>
 binV tab .eql 3 v1 v15 fun v16=>
 cV_ v16 (K v8 H)
 (binV tab .add 3 v8 (AV.p (.int .i64 1)) fun v18=>
 N1 v18 H))
 (K (AV.p (.int .i64 (-1))) H)
def W102 (v0 v1:AV) (H:Heap) (K:k_):Prop:=
 lenV tab 24 v0 fun v7=>
 L102_0 K v0 v1 v7 (AV.p (.int .i64 0)) H
theorem W102_ok {v0 v1:AV} {H:Heap} {K:k_} (h:W102 v0 v1 H K):a_a Tryz.prog 102 [v0,v1] H K:=
 a_a.of_wp (D:=D102) tO_ mixed Tryz.func102 (c:=bO_ Tryz.f102) (by kernel_rfl) rfl (by kernel_rfl) (rs:=#[.tmp 4]) rfl (by decide +kernel) (by kernel_rfl) (by kernel_rfl) h
theorem L102_0_rule {K:k_} {v0 v1 v7 v8:AV} {H:Heap} {σ:Type} (s0:σ) (f8:σ→AV) (TH:σ→Heap) (pre:σ→Prop) (μ:σ→Nat)
  (h0:pre s0∧AV.wk v8 (f8 s0)∧Heap.le (TH s0) H)
  (round:∀s,pre s→B102_0 K (fun w8 H'=>∃s',pre s'∧μ s' < μ s∧AV.wk w8 (f8 s')∧Heap.le (TH s') H') v0 v1 v7 (f8 s) (TH s)) :
  L102_0 K v0 v1 v7 v8 H:=by
 unfold L102_0
 exact a_c.mk s0 (fun s=>[f8 s]) TH pre μ (fun _=>rfl) (Eq.mp (by kernel_rfl) h0) (fun s hs=>Eq.mp (by kernel_rfl) (round s hs))
def D103:Info:=⟨30,fun i=>([],[]),fun i=>([],[])⟩
def W103 (v0 v1:AV) (H:Heap) (K:k_):Prop:=
 a_a Tryz.prog 123 [v0,v1] H fun v25 H1=>
 xV_ v25 0 fun v26=>
 xV_ v25 1 fun v27=>
 K (.tup [v26,v27]) H1
theorem W103_ok {v0 v1:AV} {H:Heap} {K:k_} (h:W103 v0 v1 H K):a_a Tryz.prog 103 [v0,v1] H K:=
 a_a.of_wp (D:=D103) tO_ mixed Tryz.func103 (c:=bO_ Tryz.f103) (by kernel_rfl) rfl (by kernel_rfl) (rs:=#[.tmp 4,.tmp 5]) rfl (by decide +kernel) (by kernel_rfl) (by kernel_rfl) h
def D104:Info:=⟨26,fun i=>([],[]),fun i=>if i=3 then ([11,12],[5,13]) else ([],[])⟩
def L104_0 (K:k_) (v5 v11:AV) (v12 v13:AV) (H:Heap):Prop:=a_c (wpC Tryz.prog tab D104 (cAt [1,1,0,1,0,0] (bO_ Tryz.f104))) [11,12] (a_b.block 0 (a_b.thenA (wpC Tryz.prog tab D104 (cAt [1,1,1] (bO_ Tryz.f104))) (retF tab [.tmp 4] K))) [5,13] [Q_,Q_,Q_,Q_,Q_,v5,Q_,Q_,Q_,Q_,Q_,v11,v12,v13,Q_,Q_,Q_,Q_,Q_,Q_,Q_,Q_,Q_,Q_,Q_,Q_] H
def B104_0 (K:k_) (N1:AV→k_) (v5 v11:AV) (v12 v13:AV) (H:Heap):Prop:=
 binV tab .lss 3 v13 v12 fun v14=>
 cV_ v14 (iA_ tab 24 v11 v13 fun v16=>
 lV_ tab 3 v16 H fun v17=>
 binV tab .geq 3 v17 (AV.p (.int .i64 0)) fun v19=>
 cV_ v19 (bS_ tab 24 1 [(0,v13)] H (wkK fun v22 H3=>
 aP_ tab 24 24 v5 v22 H3 (wkK fun v23 H4=>
 binV tab .add 3 v13 (AV.p (.int .i64 1)) fun v24=>
 N1 v23 v24 H4)))
 (binV tab .add 3 v13 (AV.p (.int .i64 1)) fun v24=>
 N1 v5 v24 H))
 (K v5 H)
def W104 (v0 v1:AV) (H:Heap) (K:k_):Prop:=
 bS_ tab 24 0 [] H (wkK fun v8 H1=>
 a_a Tryz.prog 60 [v0,v1] H1 fun v11 H2=>
 lenV tab 24 v11 fun v12=>
 L104_0 K v8 v11 v12 (AV.p (.int .i64 0)) H2)
theorem W104_ok {v0 v1:AV} {H:Heap} {K:k_} (h:W104 v0 v1 H K):a_a Tryz.prog 104 [v0,v1] H K:=
 a_a.of_wp (D:=D104) tO_ mixed Tryz.func104 (c:=bO_ Tryz.f104) (by kernel_rfl) rfl (by kernel_rfl) (rs:=#[.tmp 4]) rfl (by decide +kernel) (by kernel_rfl) (by kernel_rfl) h
theorem L104_0_rule {K:k_} {v5 v11 v12 v13:AV} {H:Heap} {σ:Type} (s0:σ) (f5:σ→AV) (f13:σ→AV) (TH:σ→Heap) (pre:σ→Prop) (μ:σ→Nat)
  (h0:pre s0∧AV.wk v5 (f5 s0)∧AV.wk v13 (f13 s0)∧Heap.le (TH s0) H)
  (round:∀s,pre s→B104_0 K (fun w5 w13 H'=>∃s',pre s'∧μ s' < μ s∧AV.wk w5 (f5 s')∧AV.wk w13 (f13 s')∧Heap.le (TH s') H') (f5 s) v11 v12 (f13 s) (TH s)) :
  L104_0 K v5 v11 v12 v13 H:=by
 unfold L104_0
 exact a_c.mk s0 (fun s=>[f5 s,f13 s]) TH pre μ (fun _=>rfl) (Eq.mp (by kernel_rfl) h0) (fun s hs=>Eq.mp (by kernel_rfl) (round s hs))
def D105:Info:=⟨37,fun i=>([],[]),fun i=>if i=3 then ([3,11,12],[13]) else if i=6 then ([3,4,11,12,13,18,19],[20]) else ([],[])⟩
def L105_0 (K:k_) (v3 v11:AV) (v12 v13:AV) (H:Heap):Prop:=a_c (wpC Tryz.prog tab D105 (cAt [1,1,0,1,0,0] (bO_ Tryz.f105))) [3,11,12] (a_b.block 0 (a_b.thenA (wpC Tryz.prog tab D105 (cAt [1,1,1] (bO_ Tryz.f105))) (retF tab [.tmp 2] K))) [13] [Q_,Q_,Q_,v3,Q_,Q_,Q_,Q_,Q_,Q_,Q_,v11,v12,v13,Q_,Q_,Q_,Q_,Q_,Q_,Q_,Q_,Q_,Q_,Q_,Q_,Q_,Q_,Q_,Q_,Q_,Q_,Q_,Q_,Q_,Q_,Q_] H
def L105_1 (K:k_) (N1:k_) (v3 v4:AV) (v11 v12:AV) (v13 v18:AV) (v19 v20:AV) (H:Heap):Prop:=a_c (wpC Tryz.prog tab D105 (cAt [1,1,0,1,0,0,1,1,0,0,1,1,0,0] (bO_ Tryz.f105))) [3,4,11,12,13,18,19] (a_b.block 2 (a_b.block 1 (a_b.thenA (wpC Tryz.prog tab D105 (cAt [1,1,0,1,0,0,1,1,1] (bO_ Tryz.f105))) (a_w (a_b.block 0 (a_b.thenA (wpC Tryz.prog tab D105 (cAt [1,1,1] (bO_ Tryz.f105))) (retF tab [.tmp 2] K))) (fun e h=>N1 (e 13) h))))) [20] [Q_,Q_,Q_,v3,v4,Q_,Q_,Q_,Q_,Q_,Q_,v11,v12,v13,Q_,Q_,Q_,Q_,v18,v19,v20,Q_,Q_,Q_,Q_,Q_,Q_,Q_,Q_,Q_,Q_,Q_,Q_,Q_,Q_,Q_,Q_] H
def B105_1 (K:k_) (N1:k_) (N2:k_) (v3 v4:AV) (v11 v12:AV) (v13 v18:AV) (v19 v20:AV) (H:Heap):Prop:=
 binV tab .lss 3 v20 v19 fun v21=>
 cV_ v21 (iA_ tab 24 v18 v20 fun v22=>
 lV_ tab 3 v22 H fun v23=>
 iA_ tab 26 v3 v23 fun v28=>
 lV_ tab 24 v28 H fun v29=>
 bS_ tab 24 1 [(0,v4)] H (wkK fun v31 H2=>
 aP_ tab 24 24 v29 v31 H2 (wkK fun v32 H3=>
 iA_ tab 26 v3 v23 fun v33=>
 sV_ tab 24 v33 v32 H3 fun H4=>
 binV tab .add 3 v20 (AV.p (.int .i64 1)) fun v34=>
 N2 v34 H4)))
 (binV tab .add 3 v13 (AV.p (.int .i64 1)) fun v35=>
 N1 v35 H)
def B105_0 (K:k_) (N1:k_) (v3 v11:AV) (v12 v13:AV) (H:Heap):Prop:=
 binV tab .lss 3 v13 v12 fun v14=>
 cV_ v14 (iA_ tab 26 v11 v13 fun v16=>
 lV_ tab 24 v16 H fun v17=>
 lenV tab 24 v17 fun v19=>
 L105_1 K N1 v3 v13 v11 v12 v13 v17 v19 (AV.p (.int .i64 0)) H)
 (K v3 H)
def W105 (v0:AV) (H:Heap) (K:k_):Prop:=
 lenV tab 26 v0 fun v9=>
 mS_ tab 26 v9 v9 H fun v10 H1=>
 lenV tab 26 v0 fun v12=>
 L105_0 K v10 v0 v12 (AV.p (.int .i64 0)) H1
theorem W105_ok {v0:AV} {H:Heap} {K:k_} (h:W105 v0 H K):a_a Tryz.prog 105 [v0] H K:=
 a_a.of_wp (D:=D105) tO_ mixed Tryz.func105 (c:=bO_ Tryz.f105) (by kernel_rfl) rfl (by kernel_rfl) (rs:=#[.tmp 2]) rfl (by decide +kernel) (by kernel_rfl) (by kernel_rfl) h
theorem L105_1_rule {K:k_} {N1:k_} {v3 v4 v11 v12 v13 v18 v19 v20:AV} {H:Heap} {σ:Type} (s0:σ) (f20:σ→AV) (TH:σ→Heap) (pre:σ→Prop) (μ:σ→Nat)
  (h0:pre s0∧AV.wk v20 (f20 s0)∧Heap.le (TH s0) H)
  (round:∀s,pre s→B105_1 K N1 (fun w20 H'=>∃s',pre s'∧μ s' < μ s∧AV.wk w20 (f20 s')∧Heap.le (TH s') H') v3 v4 v11 v12 v13 v18 v19 (f20 s) (TH s)) :
  L105_1 K N1 v3 v4 v11 v12 v13 v18 v19 v20 H:=by
 unfold L105_1
 exact a_c.mk s0 (fun s=>[f20 s]) TH pre μ (fun _=>rfl) (Eq.mp (by kernel_rfl) h0) (fun s hs=>Eq.mp (by kernel_rfl) (round s hs))
theorem L105_0_rule {K:k_} {v3 v11 v12 v13:AV} {H:Heap} {σ:Type} (s0:σ) (f13:σ→AV) (TH:σ→Heap) (pre:σ→Prop) (μ:σ→Nat)
  (h0:pre s0∧AV.wk v13 (f13 s0)∧Heap.le (TH s0) H)
  (round:∀s,pre s→B105_0 K (fun w13 H'=>∃s',pre s'∧μ s' < μ s∧AV.wk w13 (f13 s')∧Heap.le (TH s') H') v3 v11 v12 (f13 s) (TH s)) :
  L105_0 K v3 v11 v12 v13 H:=by
 unfold L105_0
 exact a_c.mk s0 (fun s=>[f13 s]) TH pre μ (fun _=>rfl) (Eq.mp (by kernel_rfl) h0) (fun s hs=>Eq.mp (by kernel_rfl) (round s hs))
end Go.Proofs.YtohkciilfkhomaaGreat
