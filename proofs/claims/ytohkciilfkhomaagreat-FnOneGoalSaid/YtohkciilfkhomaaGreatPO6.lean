/- Texts laid together: W9 WA Lb0 Lr8 Lb1a Lb3 Pt1 Le1 Le2 Pm1 Ma1 Ma3 Lt1 Lt2 Lb2 Lt3 Lt4 Ma2 Ma4. -/
import Derived.Test.YtohkciilfkhomaaGreatPO5
import Derived.KernelRfl
set_option linter.unusedVariables false
set_option linter.unusedSimpArgs false
open Go.Sep.AV renaming any → Q_
open Nat renaming reduceAdd→Y1,reduceLeDiff→Y2,reduceLT→Y3,reduceMul→Y4,reduceSub→Y5
open Int renaming reduceToNat→X1,reduceSub→X2,reduceAdd→X3,reduceNeg→X4
open Array renaming toList→X5
open Ne renaming symm→Y6
open List renaming forall_mem_cons→Y7
namespace Go.Proofs.YtohkciilfkhomaaGreat
open Go Go.Sep
attribute [local irreducible] wpC b_2
def D106:Info:=⟨62,fun i=>if i=2 then ([[],[0],[0,1],[0,1,2],[],[4],[4,5],[4,5,6],[4,5,6,7],[0,1,2,3,4,5,6,7,8]],[(0,[]),(1,[]),(2,[]),(3,[]),(4,[]),(5,[]),(6,[]),(7,[]),(8,[]),(9,[])]) else if i=3 then ([[],[0],[0,1],[0,1,2],[],[4],[4,5],[4,5,6],[0,1,2,3,4,5,6,7],[0,1,2,3,4,5,6,7,8],[0,1,2,3,4,5,6,7,8,9],[0,1,2,3,4,5,6,7,8,9,10]],[(0,[]),(1,[]),(2,[]),(3,[]),(4,[]),(5,[]),(6,[]),(7,[]),(8,[]),(9,[]),(10,[]),(11,[])]) else if i=6 then ([[],[0],[0,1],[0,1,2],[],[4],[4,5],[4,5,6],[4,5,6,7],[0,1,2,3,4,5,6,7,8]],[(0,[]),(1,[]),(2,[]),(3,[]),(4,[]),(5,[]),(6,[]),(7,[]),(8,[]),(9,[])]) else ([],[]),fun i=>([],[])⟩
def J106_0 (K:k_) (v0 v3:AV) (H:Heap):Prop:=
 nC_ v0 fun v26=>
 fA_ tab 71 v26 1 fun v27=>
 lV_ tab 3 v27 H fun v28=>
 binV tab .add 3 v28 (AV.p (.int .i64 1)) fun v29=>
 nC_ v0 fun v30=>
 fA_ tab 71 v30 1 fun v31=>
 sV_ tab 3 v31 v29 H fun H1=>
 nC_ v0 fun v34=>
 fA_ tab 71 v34 2 fun v35=>
 lV_ tab 69 v35 H1 fun v36=>
 binV tab .mul 69 v36 (AV.p (.int .u64 6364136223846793005)) fun v37=>
 c_O tab 3 69 v3 fun v39=>
 binV tab .add 69 v37 v39 fun v40=>
 binV tab .add 69 v40 (AV.p (.int .u64 1442695040888963407)) fun v41=>
 nC_ v0 fun v42=>
 fA_ tab 71 v42 2 fun v43=>
 sV_ tab 69 v43 v41 H1 fun H2=>
 nC_ v0 fun v45=>
 fA_ tab 71 v45 1 fun v46=>
 lV_ tab 3 v46 H2 fun v47=>
 nC_ v0 fun v49=>
 fA_ tab 71 v49 0 fun v50=>
 lV_ tab 22 v50 H2 fun v51=>
 lenV tab 22 v51 fun v52=>
 binV tab .leq 3 v47 v52 fun v53=>
 cV_ v53 (K v3 H2)
 (nC_ v0 fun v56=>
 fA_ tab 71 v56 2 fun v57=>
 lV_ tab 69 v57 H2 fun v58=>
 binV tab .shr 69 v58 (AV.p (.int .u64 40)) fun v59=>
 binV tab .and 69 v59 (AV.p (.int .u64 255)) fun v60=>
 c_O tab 69 3 v60 fun v61=>
 K v61 H2)
def W106 (v0:AV) (H:Heap) (K:k_):Prop:=
 nC_ v0 fun v5=>
 fA_ tab 71 v5 1 fun v6=>
 lV_ tab 3 v6 H fun v7=>
 nC_ v0 fun v9=>
 fA_ tab 71 v9 0 fun v10=>
 lV_ tab 22 v10 H fun v11=>
 lenV tab 22 v11 fun v12=>
 binV tab .lss 3 v7 v12 fun v13=>
 cV_ v13 (nC_ v0 fun v15=>
 fA_ tab 71 v15 0 fun v16=>
 lV_ tab 22 v16 H fun v17=>
 nC_ v0 fun v19=>
 fA_ tab 71 v19 1 fun v20=>
 lV_ tab 3 v20 H fun v21=>
 iA_ tab 22 v17 v21 fun v22=>
 lV_ tab 5 v22 H fun v23=>
 c_O tab 5 3 v23 fun v24=>
 J106_0 K v0 v24 H)
 (J106_0 K v0 (AV.p (.int .i64 0)) H)
theorem W106_ok {v0:AV} {H:Heap} {K:k_} (h:W106 v0 H K):a_a Tryz.prog 106 [v0] H K:=
 a_a.of_wp (D:=D106) tO_ mixed Tryz.func106 (c:=bO_ Tryz.f106) (by kernel_rfl) rfl (by kernel_rfl) (rs:=#[.tmp 2]) rfl (by decide +kernel) (by kernel_rfl) (by kernel_rfl) h
def D107:Info:=⟨35,fun i=>([],[]),fun i=>if i=2 then ([0,1,2,9,10],[11]) else ([],[])⟩
def L107_0 (K:k_) (v0 v1:AV) (v2 v9:AV) (v10 v11:AV) (H:Heap):Prop:=a_c (wpC Tryz.prog tab D107 (cAt [1,0,1,0,0] (bO_ Tryz.f107))) [0,1,2,9,10] (a_b.block 0 (a_b.thenA (wpC Tryz.prog tab D107 (cAt [1,1] (bO_ Tryz.f107))) (retF tab [.tmp 6] K))) [11] [v0,v1,v2,Q_,Q_,Q_,Q_,Q_,Q_,v9,v10,v11,Q_,Q_,Q_,Q_,Q_,Q_,Q_,Q_,Q_,Q_,Q_,Q_,Q_,Q_,Q_,Q_,Q_,Q_,Q_,Q_,Q_,Q_,Q_] H
def B107_0 (K:k_) (N1:k_) (v0 v1:AV) (v2 v9:AV) (v10 v11:AV) (H:Heap):Prop:=
 binV tab .lss 3 v11 v10 fun v12=>
 cV_ v12 (iA_ tab 24 v9 v11 fun v14=>
 lV_ tab 3 v14 H fun v15=>
 a_a Tryz.prog 48 [v15,v1,v2] H fun v19 H1=>
 unV .not v19 fun v20=>
 grdV v20 false (binV tab .gtr 3 v11 (AV.p (.int .i64 0)) fun v23=>
 grdV v23 true (binV tab .sub 3 v11 (AV.p (.int .i64 1)) fun v27=>
 iA_ tab 24 v0 v27 fun v28=>
 lV_ tab 3 v28 H1 fun v29=>
 binV tab .geq 3 v29 v15 fun v31=>
 cV_ v31 (K (AV.p (.bool false)) H1)
 (binV tab .add 3 v11 (AV.p (.int .i64 1)) fun v34=>
 N1 v34 H1))
 (binV tab .add 3 v11 (AV.p (.int .i64 1)) fun v34=>
 N1 v34 H1))
 (K (AV.p (.bool false)) H1))
 (K (AV.p (.bool true)) H)
def W107 (v0 v1 v2:AV) (H:Heap) (K:k_):Prop:=
 lenV tab 24 v0 fun v10=>
 L107_0 K v0 v1 v2 v0 v10 (AV.p (.int .i64 0)) H
theorem W107_ok {v0 v1 v2:AV} {H:Heap} {K:k_} (h:W107 v0 v1 v2 H K):a_a Tryz.prog 107 [v0,v1,v2] H K:=
 a_a.of_wp (D:=D107) tO_ mixed Tryz.func107 (c:=bO_ Tryz.f107) (by kernel_rfl) rfl (by kernel_rfl) (rs:=#[.tmp 6]) rfl (by decide +kernel) (by kernel_rfl) (by kernel_rfl) h
theorem L107_0_rule {K:k_} {v0 v1 v2 v9 v10 v11:AV} {H:Heap} {σ:Type} (s0:σ) (f11:σ→AV) (TH:σ→Heap) (pre:σ→Prop) (μ:σ→Nat)
  (h0:pre s0∧AV.wk v11 (f11 s0)∧Heap.le (TH s0) H)
  (round:∀s,pre s→B107_0 K (fun w11 H'=>∃s',pre s'∧μ s' < μ s∧AV.wk w11 (f11 s')∧Heap.le (TH s') H') v0 v1 v2 v9 v10 (f11 s) (TH s)) :
  L107_0 K v0 v1 v2 v9 v10 v11 H:=by
 unfold L107_0
 exact a_c.mk s0 (fun s=>[f11 s]) TH pre μ (fun _=>rfl) (Eq.mp (by kernel_rfl) h0) (fun s hs=>Eq.mp (by kernel_rfl) (round s hs))
def D108:Info:=⟨20,fun i=>([],[]),fun i=>if i=3 then ([6,7],[3,8]) else ([],[])⟩
def L108_0 (K:k_) (v3 v6:AV) (v7 v8:AV) (H:Heap):Prop:=a_c (wpC Tryz.prog tab D108 (cAt [1,1,0,1,0,0] (bO_ Tryz.f108))) [6,7] (a_b.block 0 (a_b.thenA (wpC Tryz.prog tab D108 (cAt [1,1,1] (bO_ Tryz.f108))) (retF tab [.tmp 2] K))) [3,8] [Q_,Q_,Q_,v3,Q_,Q_,v6,v7,v8,Q_,Q_,Q_,Q_,Q_,Q_,Q_,Q_,Q_,Q_,Q_] H
def B108_0 (K:k_) (N1:AV→k_) (v3 v6:AV) (v7 v8:AV) (H:Heap):Prop:=
 binV tab .lss 3 v8 v7 fun v9=>
 cV_ v9 (iA_ tab 87 v6 v8 fun v11=>
 lV_ tab 4 v11 H fun v12=>
 cV_ v12 (bS_ tab 24 1 [(0,v8)] H (wkK fun v16 H1=>
 aP_ tab 24 24 v3 v16 H1 (wkK fun v17 H2=>
 binV tab .add 3 v8 (AV.p (.int .i64 1)) fun v18=>
 N1 v17 v18 H2)))
 (binV tab .add 3 v8 (AV.p (.int .i64 1)) fun v18=>
 N1 v3 v18 H))
 (K v3 H)
def W108 (v0:AV) (H:Heap) (K:k_):Prop:=
 lenV tab 87 v0 fun v7=>
 L108_0 K (AV.p .nil) v0 v7 (AV.p (.int .i64 0)) H
theorem W108_ok {v0:AV} {H:Heap} {K:k_} (h:W108 v0 H K):a_a Tryz.prog 108 [v0] H K:=
 a_a.of_wp (D:=D108) tO_ mixed Tryz.func108 (c:=bO_ Tryz.f108) (by kernel_rfl) rfl (by kernel_rfl) (rs:=#[.tmp 2]) rfl (by decide +kernel) (by kernel_rfl) (by kernel_rfl) h
theorem W108_hb:a_p Tryz.prog 108:=⟨_,bO_ Tryz.f108,Tryz.func108,by kernel_rfl,rfl⟩
theorem L108_0_rule {K:k_} {v3 v6 v7 v8:AV} {H:Heap} {σ:Type} (s0:σ) (f3:σ→AV) (f8:σ→AV) (TH:σ→Heap) (pre:σ→Prop) (μ:σ→Nat)
  (h0:pre s0∧AV.wk v3 (f3 s0)∧AV.wk v8 (f8 s0)∧Heap.le (TH s0) H)
  (round:∀s,pre s→B108_0 K (fun w3 w8 H'=>∃s',pre s'∧μ s' < μ s∧AV.wk w3 (f3 s')∧AV.wk w8 (f8 s')∧Heap.le (TH s') H') (f3 s) v6 v7 (f8 s) (TH s)) :
  L108_0 K v3 v6 v7 v8 H:=by
 unfold L108_0
 exact a_c.mk s0 (fun s=>[f3 s,f8 s]) TH pre μ (fun _=>rfl) (Eq.mp (by kernel_rfl) h0) (fun s hs=>Eq.mp (by kernel_rfl) (round s hs))
def D109:Info:=⟨9,fun i=>([],[]),fun i=>([],[])⟩
def W109 (v0 v1:AV) (H:Heap) (K:k_):Prop:=
 a_a Tryz.prog 124 [v0,v1] H fun v7 H1=>
 binV tab .geq 3 v7 (AV.p (.int .i64 0)) fun v8=>
 K v8 H1
theorem W109_ok {v0 v1:AV} {H:Heap} {K:k_} (h:W109 v0 v1 H K):a_a Tryz.prog 109 [v0,v1] H K:=
 a_a.of_wp (D:=D109) tO_ mixed Tryz.func109 (c:=bO_ Tryz.f109) (by kernel_rfl) rfl (by kernel_rfl) (rs:=#[.tmp 4]) rfl (by decide +kernel) (by kernel_rfl) (by kernel_rfl) h
def D110:Info:=⟨8,fun i=>([],[]),fun i=>([],[])⟩
def W110 (v0 v1:AV) (H:Heap) (K:k_):Prop:=
 lV_ tab 3 v1 H fun v5=>
 a_a Tryz.prog 70 [v0,v5] H fun v6 H1=>
 unV .not v6 fun v7=>
 K v7 H1
theorem W110_ok {v0 v1:AV} {H:Heap} {K:k_} (h:W110 v0 v1 H K):a_a Tryz.prog 110 [v0,v1] H K:=
 a_a.of_wp (D:=D110) tO_ mixed Tryz.func110 (c:=bO_ Tryz.f110) (by kernel_rfl) rfl (by kernel_rfl) (rs:=#[.tmp 3]) rfl (by decide +kernel) (by kernel_rfl) (by kernel_rfl) h
def D111:Info:=⟨18,fun i=>([],[]),fun i=>if i=3 then ([3,6,7],[8]) else ([],[])⟩
def L111_0 (K:k_) (v3 v6:AV) (v7 v8:AV) (H:Heap):Prop:=a_c (wpC Tryz.prog tab D111 (cAt [1,1,0,1,0,0] (bO_ Tryz.f111))) [3,6,7] (a_b.block 0 (a_b.thenA (wpC Tryz.prog tab D111 (cAt [1,1,1] (bO_ Tryz.f111))) (retF tab [.tmp 2] K))) [8] [Q_,Q_,Q_,v3,Q_,Q_,v6,v7,v8,Q_,Q_,Q_,Q_,Q_,Q_,Q_,Q_,Q_] H
def B111_0 (K:k_) (N1:k_) (v3 v6:AV) (v7 v8:AV) (H:Heap):Prop:=
 binV tab .lss 3 v8 v7 fun v9=>
 cV_ v9 (iA_ tab 24 v6 v8 fun v10=>
 lV_ tab 3 v10 H fun v11=>
 binV tab .neq 3 v11 v3 fun v14=>
 cV_ v14 (K v11 H)
 (binV tab .add 3 v8 (AV.p (.int .i64 1)) fun v16=>
 N1 v16 H))
 (K v3 H)
def W111 (v0:AV) (H:Heap) (K:k_):Prop:=
 lenV tab 24 v0 fun v7=>
 L111_0 K (AV.p (.int .i64 0)) v0 v7 (AV.p (.int .i64 0)) H
theorem W111_ok {v0:AV} {H:Heap} {K:k_} (h:W111 v0 H K):a_a Tryz.prog 111 [v0] H K:=
 a_a.of_wp (D:=D111) tO_ mixed Tryz.func111 (c:=bO_ Tryz.f111) (by kernel_rfl) rfl (by kernel_rfl) (rs:=#[.tmp 2]) rfl (by decide +kernel) (by kernel_rfl) (by kernel_rfl) h
theorem L111_0_rule {K:k_} {v3 v6 v7 v8:AV} {H:Heap} {σ:Type} (s0:σ) (f8:σ→AV) (TH:σ→Heap) (pre:σ→Prop) (μ:σ→Nat)
  (h0:pre s0∧AV.wk v8 (f8 s0)∧Heap.le (TH s0) H)
  (round:∀s,pre s→B111_0 K (fun w8 H'=>∃s',pre s'∧μ s' < μ s∧AV.wk w8 (f8 s')∧Heap.le (TH s') H') v3 v6 v7 (f8 s) (TH s)) :
  L111_0 K v3 v6 v7 v8 H:=by
 unfold L111_0
 exact a_c.mk s0 (fun s=>[f8 s]) TH pre μ (fun _=>rfl) (Eq.mp (by kernel_rfl) h0) (fun s hs=>Eq.mp (by kernel_rfl) (round s hs))
def D112:Info:=⟨20,fun i=>([],[]),fun i=>([],[])⟩
def W112 (v0 v1:AV) (H:Heap) (K:k_):Prop:=
 a_a Tryz.prog 125 [v0] H fun v8 H1=>
 a_a Tryz.prog 125 [v1] H1 fun v10 H2=>
 cV_ v8 (cV_ v10 (K (AV.p (.int .i64 0)) H2)
 (K (AV.p (.int .i64 (-1))) H2))
 (cV_ v10 (K (AV.p (.int .i64 1)) H2)
 (binV tab .lss 3 v0 v1 fun v16=>
 cV_ v16 (K (AV.p (.int .i64 (-1))) H2)
 (binV tab .gtr 3 v0 v1 fun v19=>
 cV_ v19 (K (AV.p (.int .i64 1)) H2)
 (K (AV.p (.int .i64 0)) H2))))
theorem W112_ok {v0 v1:AV} {H:Heap} {K:k_} (h:W112 v0 v1 H K):a_a Tryz.prog 112 [v0,v1] H K:=
 a_a.of_wp (D:=D112) tO_ mixed Tryz.func112 (c:=bO_ Tryz.f112) (by kernel_rfl) rfl (by kernel_rfl) (rs:=#[.tmp 4]) rfl (by decide +kernel) (by kernel_rfl) (by kernel_rfl) h
def D113:Info:=⟨19,fun i=>([],[]),fun i=>if i=2 then ([0,1,7],[8]) else ([],[])⟩
def L113_0 (K:k_) (v0 v1:AV) (v7 v8:AV) (H:Heap):Prop:=a_c (wpC Tryz.prog tab D113 (cAt [1,0,1,0,0] (bO_ Tryz.f113))) [0,1,7] (a_b.block 0 (a_b.thenA (wpC Tryz.prog tab D113 (cAt [1,1] (bO_ Tryz.f113))) (retF tab [.tmp 4] K))) [8] [v0,v1,Q_,Q_,Q_,Q_,Q_,v7,v8,Q_,Q_,Q_,Q_,Q_,Q_,Q_,Q_,Q_,Q_] H
def B113_0 (K:k_) (N1:k_) (v0 v1:AV) (v7 v8:AV) (H:Heap):Prop:=
 binV tab .lss 3 v8 v7 fun v9=>
 cV_ v9 (iA_ tab 24 v0 v8 fun v14=>
 lV_ tab 3 v14 H fun v15=>
 f_w Tryz.prog v1 [v15] H fun v16 H1=>
 cV_ v16 (K v8 H1)
 (binV tab .add 3 v8 (AV.p (.int .i64 1)) fun v18=>
 N1 v18 H1))
 (K (AV.p (.int .i64 (-1))) H)
def W113 (v0 v1:AV) (H:Heap) (K:k_):Prop:=
 lenV tab 24 v0 fun v7=>
 L113_0 K v0 v1 v7 (AV.p (.int .i64 0)) H
theorem W113_ok {v0 v1:AV} {H:Heap} {K:k_} (h:W113 v0 v1 H K):a_a Tryz.prog 113 [v0,v1] H K:=
 a_a.of_wp (D:=D113) tO_ mixed Tryz.func113 (c:=bO_ Tryz.f113) (by kernel_rfl) rfl (by kernel_rfl) (rs:=#[.tmp 4]) rfl (by decide +kernel) (by kernel_rfl) (by kernel_rfl) h
theorem L113_0_rule {K:k_} {v0 v1 v7 v8:AV} {H:Heap} {σ:Type} (s0:σ) (f8:σ→AV) (TH:σ→Heap) (pre:σ→Prop) (μ:σ→Nat)
  (h0:pre s0∧AV.wk v8 (f8 s0)∧Heap.le (TH s0) H)
  (round:∀s,pre s→B113_0 K (fun w8 H'=>∃s',pre s'∧μ s' < μ s∧AV.wk w8 (f8 s')∧Heap.le (TH s') H') v0 v1 v7 (f8 s) (TH s)) :
  L113_0 K v0 v1 v7 v8 H:=by
 unfold L113_0
 exact a_c.mk s0 (fun s=>[f8 s]) TH pre μ (fun _=>rfl) (Eq.mp (by kernel_rfl) h0) (fun s hs=>Eq.mp (by kernel_rfl) (round s hs))
def D115:Info:=⟨177,fun i=>if i=1 then ([[],[0],[0,1],[0,1,2],[],[],[5],[5,6],[5,6,7],[],[],[10],[10,11],[10,11,12],[],[14],[14,15],[14,15,16],[0,1,2,3,4,5,6,7,8,10,11,12,13,14,15,16,17],[0,1,2,3,4,5,6,7,8,10,11,12,13,14,15,16,17,18],[0,1,2,3,4,5,6,7,8,9,10,11,12,13,14,15,16,17,18,19],[0,1,2,3,4,5,6,7,8,9,10,11,12,13,14,15,16,17,18,19,20]],[(0,[]),(1,[]),(2,[]),(3,[]),(4,[]),(5,[]),(6,[]),(7,[]),(8,[]),(9,[]),(10,[]),(11,[]),(12,[]),(13,[]),(14,[]),(15,[]),(16,[]),(17,[]),(18,[]),(19,[]),(20,[]),(21,[])]) else if i=8 then ([[],[0],[0,1],[0,1,2],[],[],[5],[5,6],[5,6,7],[],[5,6,7,8,9],[5,6,7,8,9,10],[],[12],[12,13],[12,13,14],[],[12,13,14,15,16],[12,13,14,15,16,17],[5,6,7,8,9,10,11,12,13,14,15,16,17,18],[0,1,2,3,4,5,6,7,8,9,10,11,12,13,14,15,16,17,18,19],[0,1,2,3,4,5,6,7,8,9,10,11,12,13,14,15,16,17,18,19,20]],[(0,[]),(1,[]),(2,[]),(3,[]),(4,[]),(5,[]),(6,[]),(7,[]),(8,[]),(9,[]),(10,[]),(11,[]),(12,[]),(13,[]),(14,[]),(15,[]),(16,[]),(17,[]),(18,[]),(19,[]),(20,[]),(21,[])]) else if i=10 then ([[],[0],[0,1],[0,1,2],[],[],[5],[5,6],[5,6,7],[],[5,6,7,8,9],[5,6,7,8,9,10],[],[12],[12,13],[12,13,14],[],[12,13,14,15,16],[12,13,14,15,16,17],[5,6,7,8,9,10,11,12,13,14,15,16,17,18],[0,1,2,3,4,5,6,7,8,9,10,11,12,13,14,15,16,17,18,19],[0,1,2,3,4,5,6,7,8,9,10,11,12,13,14,15,16,17,18,19,20]],[(0,[]),(1,[]),(2,[]),(3,[]),(4,[]),(5,[]),(6,[]),(7,[]),(8,[]),(9,[]),(10,[]),(11,[]),(12,[]),(13,[]),(14,[]),(15,[]),(16,[]),(17,[]),(18,[]),(19,[]),(20,[]),(21,[])]) else if i=12 then ([[],[0],[0,1],[0,1,2],[],[0,1,2,3,4],[0,1,2,3,4,5],[],[7],[7,8],[7,8,9],[],[7,8,9,10,11],[7,8,9,10,11,12],[0,1,2,3,4,5,6,7,8,9,10,11,12,13]],[(0,[]),(1,[]),(2,[]),(3,[]),(4,[]),(5,[]),(6,[]),(7,[]),(8,[]),(9,[]),(10,[]),(11,[]),(12,[]),(13,[]),(14,[])]) else ([],[]),fun i=>if i=4 then ([0,1,53,54],[55]) else if i=16 then ([0,6,7,154,155],[156]) else ([],[])⟩
def L115_0 (K:k_) (v0 v1:AV) (v53 v54 v55:AV) (H:Heap):Prop:=a_c (wpC Tryz.prog tab D115 (cAt [1,1,1,0,1,0,0] (bO_ Tryz.f115))) [0,1,53,54] (a_b.block 0 (a_b.thenA (wpC Tryz.prog tab D115 (cAt [1,1,1,1] (bO_ Tryz.f115))) (retF tab [] K))) [55] [v0,v1,Q_,Q_,Q_,Q_,Q_,Q_,Q_,Q_,Q_,Q_,Q_,Q_,Q_,Q_,Q_,Q_,Q_,Q_,Q_,Q_,Q_,Q_,Q_,Q_,Q_,Q_,Q_,Q_,Q_,Q_,Q_,Q_,Q_,Q_,Q_,Q_,Q_,Q_,Q_,Q_,Q_,Q_,Q_,Q_,Q_,Q_,Q_,Q_,Q_,Q_,Q_,v53,v54,v55,Q_,Q_,Q_,Q_,Q_,Q_,Q_,Q_,Q_,Q_,Q_,Q_,Q_,Q_,Q_,Q_,Q_,Q_,Q_,Q_,Q_,Q_,Q_,Q_,Q_,Q_,Q_,Q_,Q_,Q_,Q_,Q_,Q_,Q_,Q_,Q_,Q_,Q_,Q_,Q_,Q_,Q_,Q_,Q_,Q_,Q_,Q_,Q_,Q_,Q_,Q_,Q_,Q_,Q_,Q_,Q_,Q_,Q_,Q_,Q_,Q_,Q_,Q_,Q_,Q_,Q_,Q_,Q_,Q_,Q_,Q_,Q_,Q_,Q_,Q_,Q_,Q_,Q_,Q_,Q_,Q_,Q_,Q_,Q_,Q_,Q_,Q_,Q_,Q_,Q_,Q_,Q_,Q_,Q_,Q_,Q_,Q_,Q_,Q_,Q_,Q_,Q_,Q_,Q_,Q_,Q_,Q_,Q_,Q_,Q_,Q_,Q_,Q_,Q_,Q_,Q_,Q_,Q_,Q_,Q_,Q_] H
def L115_1 (K:k_) (v0 v6:AV) (v7 v154:AV) (v155 v156:AV) (H:Heap):Prop:=a_c (wpC Tryz.prog tab D115 (cAt [1,1,1,1,1,1,1,0,1,0,0] (bO_ Tryz.f115))) [0,6,7,154,155] (a_b.block 2 (a_b.thenA (wpC Tryz.prog tab D115 (cAt [1,1,1,1,1,1,1,1] (bO_ Tryz.f115))) (retF tab [] K))) [156] [v0,Q_,Q_,Q_,Q_,Q_,v6,v7,Q_,Q_,Q_,Q_,Q_,Q_,Q_,Q_,Q_,Q_,Q_,Q_,Q_,Q_,Q_,Q_,Q_,Q_,Q_,Q_,Q_,Q_,Q_,Q_,Q_,Q_,Q_,Q_,Q_,Q_,Q_,Q_,Q_,Q_,Q_,Q_,Q_,Q_,Q_,Q_,Q_,Q_,Q_,Q_,Q_,Q_,Q_,Q_,Q_,Q_,Q_,Q_,Q_,Q_,Q_,Q_,Q_,Q_,Q_,Q_,Q_,Q_,Q_,Q_,Q_,Q_,Q_,Q_,Q_,Q_,Q_,Q_,Q_,Q_,Q_,Q_,Q_,Q_,Q_,Q_,Q_,Q_,Q_,Q_,Q_,Q_,Q_,Q_,Q_,Q_,Q_,Q_,Q_,Q_,Q_,Q_,Q_,Q_,Q_,Q_,Q_,Q_,Q_,Q_,Q_,Q_,Q_,Q_,Q_,Q_,Q_,Q_,Q_,Q_,Q_,Q_,Q_,Q_,Q_,Q_,Q_,Q_,Q_,Q_,Q_,Q_,Q_,Q_,Q_,Q_,Q_,Q_,Q_,Q_,Q_,Q_,Q_,Q_,Q_,Q_,Q_,Q_,Q_,Q_,Q_,Q_,v154,v155,v156,Q_,Q_,Q_,Q_,Q_,Q_,Q_,Q_,Q_,Q_,Q_,Q_,Q_,Q_,Q_,Q_,Q_,Q_,Q_,Q_] H
def B115_1 (K:k_) (N1:k_) (v0 v6:AV) (v7 v154:AV) (v155 v156:AV) (H:Heap):Prop:=
 binV tab .lss 3 v156 v155 fun v157=>
 cV_ v157 (iA_ tab 24 v154 v156 fun v158=>
 lV_ tab 3 v158 H fun v159=>
 nC_ v0 fun v161=>
 fA_ tab 118 v161 3 fun v162=>
 lV_ tab 24 v162 H fun v163=>
 iA_ tab 24 v163 v159 fun v166=>
 sV_ tab 3 v166 v7 H fun H12=>
 binV tab .add 3 v156 (AV.p (.int .i64 1)) fun v167=>
 N1 v167 H12)
 (nC_ v0 fun v170=>
 fA_ tab 118 v170 4 fun v171=>
 lV_ tab 24 v171 H fun v172=>
 a_z tab 24 v172 none (some v6) none fun v174=>
 nC_ v0 fun v175=>
 fA_ tab 118 v175 4 fun v176=>
 sV_ tab 24 v176 v174 H fun H13=>
 K (.tup []) H13)
def B115_0 (K:k_) (N1:k_) (v0 v1:AV) (v53 v54 v55:AV) (H:Heap):Prop:=
 binV tab .lss 3 v55 v54 fun v56=>
 cV_ v56 (iA_ tab 24 v53 v55 fun v57=>
 lV_ tab 3 v57 H fun v58=>
 nC_ v0 fun v60=>
 fA_ tab 118 v60 1 fun v61=>
 lV_ tab 24 v61 H fun v62=>
 iA_ tab 24 v62 v58 fun v64=>
 lV_ tab 3 v64 H fun v65=>
 binV tab .eql 3 v65 (AV.p (.int .i64 0)) fun v66=>
 cV_ v66 (a_a Tryz.prog 115 [v0,v58] H fun v69 H7=>
 nC_ v0 fun v71=>
 fA_ tab 118 v71 2 fun v72=>
 lV_ tab 24 v72 H7 fun v73=>
 nC_ v0 fun v76=>
 fA_ tab 118 v76 2 fun v77=>
 lV_ tab 24 v77 H7 fun v78=>
 iA_ tab 24 v78 v1 fun v80=>
 lV_ tab 3 v80 H7 fun v81=>
 nC_ v0 fun v83=>
 fA_ tab 118 v83 2 fun v84=>
 lV_ tab 24 v84 H7 fun v85=>
 iA_ tab 24 v85 v58 fun v87=>
 lV_ tab 3 v87 H7 fun v88=>
 mmV .min v81 v88 fun v89=>
 iA_ tab 24 v73 v1 fun v90=>
 sV_ tab 3 v90 v89 H7 fun H8=>
 binV tab .add 3 v55 (AV.p (.int .i64 1)) fun v120=>
 N1 v120 H8)
 (nC_ v0 fun v92=>
 fA_ tab 118 v92 3 fun v93=>
 lV_ tab 24 v93 H fun v94=>
 iA_ tab 24 v94 v58 fun v96=>
 lV_ tab 3 v96 H fun v97=>
 binV tab .lss 3 v97 (AV.p (.int .i64 0)) fun v98=>
 cV_ v98 (nC_ v0 fun v100=>
 fA_ tab 118 v100 2 fun v101=>
 lV_ tab 24 v101 H fun v102=>
 nC_ v0 fun v105=>
 fA_ tab 118 v105 2 fun v106=>
 lV_ tab 24 v106 H fun v107=>
 iA_ tab 24 v107 v1 fun v109=>
 lV_ tab 3 v109 H fun v110=>
 nC_ v0 fun v112=>
 fA_ tab 118 v112 1 fun v113=>
 lV_ tab 24 v113 H fun v114=>
 iA_ tab 24 v114 v58 fun v116=>
 lV_ tab 3 v116 H fun v117=>
 mmV .min v110 v117 fun v118=>
 iA_ tab 24 v102 v1 fun v119=>
 sV_ tab 3 v119 v118 H fun H9=>
 binV tab .add 3 v55 (AV.p (.int .i64 1)) fun v120=>
 N1 v120 H9)
 (binV tab .add 3 v55 (AV.p (.int .i64 1)) fun v120=>
 N1 v120 H)))
 (nC_ v0 fun v122=>
 fA_ tab 118 v122 2 fun v123=>
 lV_ tab 24 v123 H fun v124=>
 iA_ tab 24 v124 v1 fun v126=>
 lV_ tab 3 v126 H fun v127=>
 nC_ v0 fun v129=>
 fA_ tab 118 v129 1 fun v130=>
 lV_ tab 24 v130 H fun v131=>
 iA_ tab 24 v131 v1 fun v133=>
 lV_ tab 3 v133 H fun v134=>
 binV tab .lss 3 v127 v134 fun v135=>
 cV_ v135 (K (.tup []) H)
 (nC_ v0 fun v137=>
 fA_ tab 118 v137 4 fun v138=>
 lV_ tab 24 v138 H fun v139=>
 a_a Tryz.prog 102 [v139,v1] H fun v141 H10=>
 nC_ v0 fun v143=>
 fA_ tab 118 v143 4 fun v144=>
 lV_ tab 24 v144 H10 fun v145=>
 a_z tab 24 v145 (some v141) none none fun v147=>
 a_a Tryz.prog 126 [v147] H10 fun v148 H11=>
 nC_ v0 fun v150=>
 fA_ tab 118 v150 4 fun v151=>
 lV_ tab 24 v151 H11 fun v152=>
 a_z tab 24 v152 (some v141) none none fun v154=>
 lenV tab 24 v154 fun v155=>
 L115_1 K v0 v141 v148 v154 v155 (AV.p (.int .i64 0)) H11))
def W115 (v0 v1:AV) (H:Heap) (K:k_):Prop:=
 nC_ v0 fun v11=>
 fA_ tab 118 v11 5 fun v12=>
 lV_ tab 3 v12 H fun v13=>
 binV tab .add 3 v13 (AV.p (.int .i64 1)) fun v14=>
 nC_ v0 fun v15=>
 fA_ tab 118 v15 5 fun v16=>
 sV_ tab 3 v16 v14 H fun H1=>
 nC_ v0 fun v18=>
 fA_ tab 118 v18 1 fun v19=>
 lV_ tab 24 v19 H1 fun v20=>
 nC_ v0 fun v23=>
 fA_ tab 118 v23 2 fun v24=>
 lV_ tab 24 v24 H1 fun v25=>
 nC_ v0 fun v28=>
 fA_ tab 118 v28 5 fun v29=>
 lV_ tab 3 v29 H1 fun v30=>
 nC_ v0 fun v32=>
 fA_ tab 118 v32 5 fun v33=>
 lV_ tab 3 v33 H1 fun v34=>
 iA_ tab 24 v20 v1 fun v35=>
 sV_ tab 3 v35 v30 H1 fun H2=>
 iA_ tab 24 v25 v1 fun v36=>
 sV_ tab 3 v36 v34 H2 fun H3=>
 nC_ v0 fun v39=>
 fA_ tab 118 v39 4 fun v40=>
 lV_ tab 24 v40 H3 fun v41=>
 bS_ tab 24 1 [(0,v1)] H3 (wkK fun v43 H4=>
 aP_ tab 24 24 v41 v43 H4 (wkK fun v44 H5=>
 nC_ v0 fun v45=>
 fA_ tab 118 v45 4 fun v46=>
 sV_ tab 24 v46 v44 H5 fun H6=>
 nC_ v0 fun v48=>
 fA_ tab 118 v48 0 fun v49=>
 lV_ tab 26 v49 H6 fun v50=>
 iA_ tab 26 v50 v1 fun v52=>
 lV_ tab 24 v52 H6 fun v53=>
 lenV tab 24 v53 fun v54=>
 L115_0 K v0 v1 v53 v54 (AV.p (.int .i64 0)) H6))
theorem W115_ok {v0 v1:AV} {H:Heap} {K:k_} (h:W115 v0 v1 H K):a_a Tryz.prog 115 [v0,v1] H K:=
 a_a.of_wp (D:=D115) tO_ mixed Tryz.func115 (c:=bO_ Tryz.f115) (by kernel_rfl) rfl (by kernel_rfl) (rs:=#[]) rfl (by decide +kernel) (by kernel_rfl) (by kernel_rfl) h
theorem L115_1_rule {K:k_} {v0 v6 v7 v154 v155 v156:AV} {H:Heap} {σ:Type} (s0:σ) (f156:σ→AV) (TH:σ→Heap) (pre:σ→Prop) (μ:σ→Nat)
  (h0:pre s0∧AV.wk v156 (f156 s0)∧Heap.le (TH s0) H)
  (round:∀s,pre s→B115_1 K (fun w156 H'=>∃s',pre s'∧μ s' < μ s∧AV.wk w156 (f156 s')∧Heap.le (TH s') H') v0 v6 v7 v154 v155 (f156 s) (TH s)) :
  L115_1 K v0 v6 v7 v154 v155 v156 H:=by
 unfold L115_1
 exact a_c.mk s0 (fun s=>[f156 s]) TH pre μ (fun _=>rfl) (Eq.mp (by kernel_rfl) h0) (fun s hs=>Eq.mp (by kernel_rfl) (round s hs))
theorem L115_0_rule {K:k_} {v0 v1 v53 v54 v55:AV} {H:Heap} {σ:Type} (s0:σ) (f55:σ→AV) (TH:σ→Heap) (pre:σ→Prop) (μ:σ→Nat)
  (h0:pre s0∧AV.wk v55 (f55 s0)∧Heap.le (TH s0) H)
  (round:∀s,pre s→B115_0 K (fun w55 H'=>∃s',pre s'∧μ s' < μ s∧AV.wk w55 (f55 s')∧Heap.le (TH s') H') v0 v1 v53 v54 (f55 s) (TH s)) :
  L115_0 K v0 v1 v53 v54 v55 H:=by
 unfold L115_0
 exact a_c.mk s0 (fun s=>[f55 s]) TH pre μ (fun _=>rfl) (Eq.mp (by kernel_rfl) h0) (fun s hs=>Eq.mp (by kernel_rfl) (round s hs))
def D118:Info:=⟨45,fun i=>([],[]),fun i=>if i=3 then ([0,1,25,26],[27]) else ([],[])⟩
def L118_0 (K:k_) (v0 v1:AV) (v25 v26 v27:AV) (H:Heap):Prop:=a_c (wpC Tryz.prog tab D118 (cAt [1,1,0,1,0,0] (bO_ Tryz.f118))) [0,1,25,26] (a_b.block 0 (a_b.thenA (wpC Tryz.prog tab D118 (cAt [1,1,1] (bO_ Tryz.f118))) (retF tab [] K))) [27] [v0,v1,Q_,Q_,Q_,Q_,Q_,Q_,Q_,Q_,Q_,Q_,Q_,Q_,Q_,Q_,Q_,Q_,Q_,Q_,Q_,Q_,Q_,Q_,Q_,v25,v26,v27,Q_,Q_,Q_,Q_,Q_,Q_,Q_,Q_,Q_,Q_,Q_,Q_,Q_,Q_,Q_,Q_,Q_] H
def B118_0 (K:k_) (N1:k_) (v0 v1:AV) (v25 v26 v27:AV) (H:Heap):Prop:=
 binV tab .lss 3 v27 v26 fun v28=>
 cV_ v28 (iA_ tab 24 v25 v27 fun v29=>
 lV_ tab 3 v29 H fun v30=>
 a_a Tryz.prog 118 [v0,v30] H fun v33 H2=>
 binV tab .add 3 v27 (AV.p (.int .i64 1)) fun v34=>
 N1 v34 H2)
 (nC_ v0 fun v37=>
 fA_ tab 124 v37 2 fun v38=>
 lV_ tab 24 v38 H fun v39=>
 bS_ tab 24 1 [(0,v1)] H (wkK fun v41 H3=>
 aP_ tab 24 24 v39 v41 H3 (wkK fun v42 H4=>
 nC_ v0 fun v43=>
 fA_ tab 124 v43 2 fun v44=>
 sV_ tab 24 v44 v42 H4 fun H5=>
 K (.tup []) H5)))
def W118 (v0 v1:AV) (H:Heap) (K:k_):Prop:=
 nC_ v0 fun v7=>
 fA_ tab 124 v7 1 fun v8=>
 lV_ tab 87 v8 H fun v9=>
 iA_ tab 87 v9 v1 fun v11=>
 lV_ tab 4 v11 H fun v12=>
 cV_ v12 (K (.tup []) H)
 (nC_ v0 fun v14=>
 fA_ tab 124 v14 1 fun v15=>
 lV_ tab 87 v15 H fun v16=>
 iA_ tab 87 v16 v1 fun v18=>
 sV_ tab 4 v18 (AV.p (.bool true)) H fun H1=>
 nC_ v0 fun v20=>
 fA_ tab 124 v20 0 fun v21=>
 lV_ tab 26 v21 H1 fun v22=>
 iA_ tab 26 v22 v1 fun v24=>
 lV_ tab 24 v24 H1 fun v25=>
 lenV tab 24 v25 fun v26=>
 L118_0 K v0 v1 v25 v26 (AV.p (.int .i64 0)) H1)
theorem W118_ok {v0 v1:AV} {H:Heap} {K:k_} (h:W118 v0 v1 H K):a_a Tryz.prog 118 [v0,v1] H K:=
 a_a.of_wp (D:=D118) tO_ mixed Tryz.func118 (c:=bO_ Tryz.f118) (by kernel_rfl) rfl (by kernel_rfl) (rs:=#[]) rfl (by decide +kernel) (by kernel_rfl) (by kernel_rfl) h
theorem L118_0_rule {K:k_} {v0 v1 v25 v26 v27:AV} {H:Heap} {σ:Type} (s0:σ) (f27:σ→AV) (TH:σ→Heap) (pre:σ→Prop) (μ:σ→Nat)
  (h0:pre s0∧AV.wk v27 (f27 s0)∧Heap.le (TH s0) H)
  (round:∀s,pre s→B118_0 K (fun w27 H'=>∃s',pre s'∧μ s' < μ s∧AV.wk w27 (f27 s')∧Heap.le (TH s') H') v0 v1 v25 v26 (f27 s) (TH s)) :
  L118_0 K v0 v1 v25 v26 v27 H:=by
 unfold L118_0
 exact a_c.mk s0 (fun s=>[f27 s]) TH pre μ (fun _=>rfl) (Eq.mp (by kernel_rfl) h0) (fun s hs=>Eq.mp (by kernel_rfl) (round s hs))
def D119:Info:=⟨9,fun i=>([],[]),fun i=>([],[])⟩
def W119 (v0 v1:AV) (H:Heap) (K:k_):Prop:=
 a_a Tryz.prog 113 [v0,v1] H fun v7 H1=>
 binV tab .geq 3 v7 (AV.p (.int .i64 0)) fun v8=>
 K v8 H1
theorem W119_ok {v0 v1:AV} {H:Heap} {K:k_} (h:W119 v0 v1 H K):a_a Tryz.prog 119 [v0,v1] H K:=
 a_a.of_wp (D:=D119) tO_ mixed Tryz.func119 (c:=bO_ Tryz.f119) (by kernel_rfl) rfl (by kernel_rfl) (rs:=#[.tmp 4]) rfl (by decide +kernel) (by kernel_rfl) (by kernel_rfl) h
def D120:Info:=⟨9,fun i=>([],[]),fun i=>([],[])⟩
def W120 (v0:AV) (H:Heap) (K:k_):Prop:=
 binV tab .lss 3 v0 (AV.p (.int .i64 0)) fun v4=>
 grdV v4 false (binV tab .geq 3 v0 (AV.p (.int .i64 8)) fun v7=>
 K v7 H)
 (K (AV.p (.bool true)) H)
theorem W120_ok {v0:AV} {H:Heap} {K:k_} (h:W120 v0 H K):a_a Tryz.prog 120 [v0] H K:=
 a_a.of_wp (D:=D120) tO_ mixed Tryz.func120 (c:=bO_ Tryz.f120) (by kernel_rfl) rfl (by kernel_rfl) (rs:=#[.tmp 2]) rfl (by decide +kernel) (by kernel_rfl) (by kernel_rfl) h
def D121:Info:=⟨28,fun i=>if i=3 then ([[],[0],[],[],[3],[3,4],[2,3,4,5],[],[7],[7,8],[2,3,4,5,6,7,8,9],[0,1,2,3,4,5,6,7,8,9,10],[0,1,2,3,4,5,6,7,8,9,10,11],[0,1,2,3,4,5,6,7,8,9,10,11,12]],[(0,[]),(1,[]),(2,[]),(3,[]),(4,[]),(5,[]),(6,[]),(7,[]),(8,[]),(9,[]),(10,[]),(11,[]),(12,[]),(13,[])]) else ([],[]),fun i=>([],[])⟩
def W121 (v0 v1:AV) (H:Heap) (K:k_):Prop:=
 boxV v0 H fun v2 H1=>
 fA_ tab 31 v2 0 fun v6=>
 lV_ tab 24 v6 H1 fun v7=>
 lenV tab 24 v7 fun v8=>
 binV tab .lss 3 v1 v8 fun v9=>
 cV_ v9 (fA_ tab 31 v2 0 fun v10=>
 lV_ tab 24 v10 H1 fun v11=>
 iA_ tab 24 v11 v1 fun v13=>
 lV_ tab 3 v13 H1 fun v14=>
 K v14 H1)
 (fA_ tab 31 v2 1 fun v15=>
 lV_ tab 24 v15 H1 fun v16=>
 fA_ tab 31 v2 0 fun v18=>
 lV_ tab 24 v18 H1 fun v19=>
 lenV tab 24 v19 fun v20=>
 binV tab .sub 3 v1 v20 fun v21=>
 fA_ tab 31 v2 1 fun v22=>
 lV_ tab 24 v22 H1 fun v23=>
 lenV tab 24 v23 fun v24=>
 binV tab .rem 3 v21 v24 fun v25=>
 iA_ tab 24 v16 v25 fun v26=>
 lV_ tab 3 v26 H1 fun v27=>
 K v27 H1)
theorem W121_ok {v0 v1:AV} {H:Heap} {K:k_} (h:W121 v0 v1 H K):a_a Tryz.prog 121 [v0,v1] H K:=
 a_a.of_wp (D:=D121) tO_ mixed Tryz.func121 (c:=bO_ Tryz.f121) (by kernel_rfl) rfl (by kernel_rfl) (rs:=#[.tmp 4]) rfl (by decide +kernel) (by kernel_rfl) (by kernel_rfl) h
def D123:Info:=⟨51,fun i=>([],[]),fun i=>([],[])⟩
def W123 (v0 v1:AV) (H:Heap) (K:k_):Prop:=
 binV tab .and 69 v0 (AV.p (.int .u64 4294967295)) fun v15=>
 binV tab .shr 69 v0 (AV.p (.int .u64 32)) fun v17=>
 binV tab .and 69 v1 (AV.p (.int .u64 4294967295)) fun v19=>
 binV tab .shr 69 v1 (AV.p (.int .u64 32)) fun v21=>
 binV tab .mul 69 v15 v19 fun v24=>
 binV tab .mul 69 v17 v19 fun v27=>
 binV tab .shr 69 v24 (AV.p (.int .u64 32)) fun v29=>
 binV tab .add 69 v27 v29 fun v30=>
 binV tab .and 69 v30 (AV.p (.int .u64 4294967295)) fun v32=>
 binV tab .shr 69 v30 (AV.p (.int .u64 32)) fun v34=>
 binV tab .mul 69 v15 v21 fun v38=>
 binV tab .add 69 v32 v38 fun v39=>
 binV tab .mul 69 v17 v21 fun v42=>
 binV tab .add 69 v42 v34 fun v44=>
 binV tab .shr 69 v39 (AV.p (.int .u64 32)) fun v46=>
 binV tab .add 69 v44 v46 fun v47=>
 binV tab .mul 69 v0 v1 fun v50=>
 K (.tup [v47,v50]) H
theorem W123_ok {v0 v1:AV} {H:Heap} {K:k_} (h:W123 v0 v1 H K):a_a Tryz.prog 123 [v0,v1] H K:=
 a_a.of_wp (D:=D123) tO_ mixed Tryz.func123 (c:=bO_ Tryz.f123) (by kernel_rfl) rfl (by kernel_rfl) (rs:=#[.tmp 4,.tmp 5]) rfl (by decide +kernel) (by kernel_rfl) (by kernel_rfl) h
def D124:Info:=⟨19,fun i=>([],[]),fun i=>if i=2 then ([0,1,7],[8]) else ([],[])⟩
def L124_0 (K:k_) (v0 v1:AV) (v7 v8:AV) (H:Heap):Prop:=a_c (wpC Tryz.prog tab D124 (cAt [1,0,1,0,0] (bO_ Tryz.f124))) [0,1,7] (a_b.block 0 (a_b.thenA (wpC Tryz.prog tab D124 (cAt [1,1] (bO_ Tryz.f124))) (retF tab [.tmp 4] K))) [8] [v0,v1,Q_,Q_,Q_,Q_,Q_,v7,v8,Q_,Q_,Q_,Q_,Q_,Q_,Q_,Q_,Q_,Q_] H
def B124_0 (K:k_) (N1:k_) (v0 v1:AV) (v7 v8:AV) (H:Heap):Prop:=
 binV tab .lss 3 v8 v7 fun v9=>
 cV_ v9 (iA_ tab 26 v0 v8 fun v14=>
 lV_ tab 24 v14 H fun v15=>
 f_w Tryz.prog v1 [v15] H fun v16 H1=>
 cV_ v16 (K v8 H1)
 (binV tab .add 3 v8 (AV.p (.int .i64 1)) fun v18=>
 N1 v18 H1))
 (K (AV.p (.int .i64 (-1))) H)
def W124 (v0 v1:AV) (H:Heap) (K:k_):Prop:=
 lenV tab 26 v0 fun v7=>
 L124_0 K v0 v1 v7 (AV.p (.int .i64 0)) H
theorem W124_ok {v0 v1:AV} {H:Heap} {K:k_} (h:W124 v0 v1 H K):a_a Tryz.prog 124 [v0,v1] H K:=
 a_a.of_wp (D:=D124) tO_ mixed Tryz.func124 (c:=bO_ Tryz.f124) (by kernel_rfl) rfl (by kernel_rfl) (rs:=#[.tmp 4]) rfl (by decide +kernel) (by kernel_rfl) (by kernel_rfl) h
theorem L124_0_rule {K:k_} {v0 v1 v7 v8:AV} {H:Heap} {σ:Type} (s0:σ) (f8:σ→AV) (TH:σ→Heap) (pre:σ→Prop) (μ:σ→Nat)
  (h0:pre s0∧AV.wk v8 (f8 s0)∧Heap.le (TH s0) H)
  (round:∀s,pre s→B124_0 K (fun w8 H'=>∃s',pre s'∧μ s' < μ s∧AV.wk w8 (f8 s')∧Heap.le (TH s') H') v0 v1 v7 (f8 s) (TH s)) :
  L124_0 K v0 v1 v7 v8 H:=by
 unfold L124_0
 exact a_c.mk s0 (fun s=>[f8 s]) TH pre μ (fun _=>rfl) (Eq.mp (by kernel_rfl) h0) (fun s hs=>Eq.mp (by kernel_rfl) (round s hs))
def D125:Info:=⟨6,fun i=>([],[]),fun i=>([],[])⟩
def W125 (v0:AV) (H:Heap) (K:k_):Prop:=
 binV tab .neq 3 v0 v0 fun v5=>
 K v5 H
theorem W125_ok {v0:AV} {H:Heap} {K:k_} (h:W125 v0 H K):a_a Tryz.prog 125 [v0] H K:=
 a_a.of_wp (D:=D125) tO_ mixed Tryz.func125 (c:=bO_ Tryz.f125) (by kernel_rfl) rfl (by kernel_rfl) (rs:=#[.tmp 2]) rfl (by decide +kernel) (by kernel_rfl) (by kernel_rfl) h
def D126:Info:=⟨25,fun i=>([],[]),fun i=>if i=5 then ([0],[3,4]) else ([],[])⟩
def L126_0 (K:k_) (v0 v3 v4:AV) (H:Heap):Prop:=a_c (wpC Tryz.prog tab D126 (cAt [1,1,1,0,1,0,0] (bO_ Tryz.f126))) [0] (a_b.block 0 (a_b.thenA (wpC Tryz.prog tab D126 (cAt [1,1,1,1] (bO_ Tryz.f126))) (retF tab [.tmp 2] K))) [3,4] [v0,Q_,Q_,v3,v4,Q_,Q_,Q_,Q_,Q_,Q_,Q_,Q_,Q_,Q_,Q_,Q_,Q_,Q_,Q_,Q_,Q_,Q_,Q_,Q_] H
def B126_0 (K:k_) (N1:AV→k_) (v0 v3 v4:AV) (H:Heap):Prop:=
 lenV tab 24 v0 fun v14=>
 binV tab .lss 3 v4 v14 fun v15=>
 cV_ v15 (iA_ tab 24 v0 v4 fun v21=>
 lV_ tab 3 v21 H fun v22=>
 mmV .min v3 v22 fun v23=>
 binV tab .add 3 v4 (AV.p (.int .i64 1)) fun v17=>
 N1 v23 v17 H)
 (K v3 H)
def W126 (v0:AV) (H:Heap) (K:k_):Prop:=
 lenV tab 24 v0 fun v6=>
 binV tab .lss 3 v6 (AV.p (.int .i64 1)) fun v7=>
 cV_ v7 (False)
 (iA_ tab 24 v0 (AV.p (.int .i64 0)) fun v10=>
 lV_ tab 3 v10 H fun v11=>
 L126_0 K v0 v11 (AV.p (.int .i64 1)) H)
theorem W126_ok {v0:AV} {H:Heap} {K:k_} (h:W126 v0 H K):a_a Tryz.prog 126 [v0] H K:=
 a_a.of_wp (D:=D126) tO_ mixed Tryz.func126 (c:=bO_ Tryz.f126) (by kernel_rfl) rfl (by kernel_rfl) (rs:=#[.tmp 2]) rfl (by decide +kernel) (by kernel_rfl) (by kernel_rfl) h
theorem L126_0_rule {K:k_} {v0 v3 v4:AV} {H:Heap} {σ:Type} (s0:σ) (f3:σ→AV) (f4:σ→AV) (TH:σ→Heap) (pre:σ→Prop) (μ:σ→Nat)
  (h0:pre s0∧AV.wk v3 (f3 s0)∧AV.wk v4 (f4 s0)∧Heap.le (TH s0) H)
  (round:∀s,pre s→B126_0 K (fun w3 w4 H'=>∃s',pre s'∧μ s' < μ s∧AV.wk w3 (f3 s')∧AV.wk w4 (f4 s')∧Heap.le (TH s') H') v0 (f3 s) (f4 s) (TH s)) :
  L126_0 K v0 v3 v4 H:=by
 unfold L126_0
 exact a_c.mk s0 (fun s=>[f3 s,f4 s]) TH pre μ (fun _=>rfl) (Eq.mp (by kernel_rfl) h0) (fun s hs=>Eq.mp (by kernel_rfl) (round s hs))
end Go.Proofs.YtohkciilfkhomaaGreat
namespace Go.Proofs.YtohkciilfkhomaaGreat
open Go Go.Sep
attribute [local irreducible] a_a
theorem i6_ {n:Int} (h0:-9223372036854775808≤n) (h1:n≤9223372036854775807):IntKind.i64.wrap n=n:=c_N h0 h1
theorem a_r {k:IntKind} {a b:Int}:AV.wk (.p (.int k a)) (.p (.int k b))=(a=b):=by
 apply propext;constructor
 ·intro h;cases h;rfl
 ·rintro rfl;exact .refl _
theorem c_W {α:Type} {p:α→Bool} {xs:List α} {i:Nat} (h:i < xs.length):(xs.take (i+1)).all p=((xs.take i).all p && p xs[i]):=by
 rw [List.take_succ_eq_append_getElem h,List.all_append];simp
theorem a_k {α:Type} {xs:List α} {i:Nat} {d:α} (h:i < xs.length):xs.getD i d=xs[i]:=by simp [List.getD,h]
theorem a_e {α:Type} {p:α→Prop} {l:List α} {d:α} (h:∀b∈l,p b) {i:Nat} (hi:i < l.length):p (l.getD i d):=by
 simp only [List.getD,List.getElem?_eq_getElem hi,Option.getD_some];exact h _ (List.getElem_mem hi)
theorem a_9 {p:Nat→Bool} {n:Nat}:(List.range (n+1)).all p=((List.range n).all p && p n):=by
 rw [List.range_succ,List.all_append];simp
theorem a_0 {p:Nat→Bool} {n i:Nat} (hi:i < n) (h:p i=false):(List.range n).all p=false:=by
 rw [List.all_eq_false];exact ⟨i,List.mem_range.2 hi,by simp [h]⟩
theorem Wk.own_le {q sz:Nat} {es:List (List PV)} {H H':Heap} (hpos:0 < sz) (hs:d_e sz es) (hq:H q=none) (hle:Heap.le (H.set q (cells es)) H'):Wk (own q sz es) H' (.p (.sl es)) H:=by
 have h1:H' q=some (cells es):=hle q _ (Heap.set_same _ _ _)
 refine .trans (.own hpos hs h1) (.forget (Heap.le_del (fun x b hx=>hle x b ?_) hq))
 rw [Heap.set_other (fun e=>by rw [e,hq] at hx;cases hx)];exact hx
theorem a_a.fin {P:Program} {f:Nat} {args:List AV} {H:Heap} {K:k_} (h:a_a P f args H (wkK K)):a_a P f args H K:=
 h.wk fun v H1 ⟨v',H2,hw,hk⟩=>⟨v',H2,hw,hk⟩
theorem szI (xs:List Int):d_e 1 (xs.map eI):=a_q (f:=eI) (fun _=>rfl) xs
theorem d_h (xs:List Int):cells (xs.map eI)=xs.map fun n=>I n:=by
 induction xs with
 | nil=>rfl
 | cons x xs ih=>simp only [cells,List.map_cons,List.flatten_cons,List.map_append] at ih ⊢;rw [ih];rfl
abbrev eL (l:List Int):List PV:=[.sl (l.map eI)]
abbrev Ls (cs:List (List Int)):AV:=.p (.sl (cs.map eL))
theorem f_x {q sz:Nat} {es:List (List PV)} {H H':Heap} {K:k_} (hpos:0 < sz) (hs:d_e sz es) (hq:H q=none) (hle:Heap.le (H.set q (cells es)) H') (h:K (.p (.sl es)) H):wkK K (own q sz es) H':=
 ⟨_,_,Wk.own_le hpos hs hq hle,h⟩
theorem e_6 {v:AV} {H H':Heap} {K:k_} (hle:Heap.le H H') (h:K v H):wkK K v H':=⟨_,_,.forget hle,h⟩
def PuAt (P:Program) (f:Nat) (args:List AV) (H:Heap) (v:AV):Prop:=∀K:k_,K v H→a_a P f args H K
theorem PuAt.use {P:Program} {f:Nat} {args:List AV} {v:AV} {H:Heap} (h:PuAt P f args H v) {K:k_} (k:K v H):a_a P f args H K:=h K k
def enumP:Nat→List PV→List (Nat×AV)
 | _,[]=>[]
 | k,v::vs=>(k,.p v)::enumP (k+1) vs
theorem fill_enum:∀(vs:List PV) (k:Nat) (a:List AV) (b:List AV),a.length=k→vs.length≤b.length→
  a_C (fun i=>some (i*1,1)) (a++b) (enumP k vs)=some (a++vs.map .p++b.drop vs.length)
 | [],k,a,b,h1,h2=>by simp [enumP,a_C]
 | v::vs,k,a,b,h1,h2=>by
  match b,h2 with
  | x::b,h2=>
   have hb:vs.length≤b.length:=by simpa using h2
   have ih:=fill_enum vs (k+1) (a++[.p v]) b (by simp [h1]) hb
   simp only [enumP,a_C,AV.cells,List.length_cons,List.length_nil,Nat.zero_add,Nat.mul_one]
   rw [if_pos ⟨trivial,by simp [h1]⟩]
   have hs:splice (a++x::b) k [AV.p v]=(a++[AV.p v])++b:=by
    subst h1
    simp [splice,List.append_assoc,List.drop_append]
   rw [hs]
   simp only [Nat.mul_one] at ih
   rw [ih]
   simp
theorem lit_gen {tab:Tab} {t e:Nat} {d ed:TD} {H:Heap} {K:k_} (h1:tab t=some d) (h2:d.k=.slice e) (h3:tab e=some ed) (h4:ed.size=1∧ed.zero.length=1) (vs:List PV)
  (hsm:vs.length≤1000)
  (h:K (.p (.sl (vs.map fun v=>[v]))) H):bS_ tab t vs.length (enumP 0 vs) H (wkK K):=by
 obtain ⟨z,hz⟩:∃z,ed.zero=[z]:=by
  match ed.zero,h4.2 with
  | [z],_=>exact ⟨z,rfl⟩
 simp only [bS_,h1,h2,h3,h4.1]
 refine ⟨by omega,?_⟩
 have hzl:(zA_ vs.length ed.zero).length=vs.length:=by rw [a_V,hz];simp
 have:=fill_enum vs 0 [] (zA_ vs.length ed.zero) rfl (by omega)
 rw [List.nil_append,List.nil_append,List.drop_of_length_le (by omega),List.append_nil] at this
 rw [this]
 intro r hr
 have hf:∀vs:List PV,(vs.map fun v=>[v]).flatten=vs:=by
  intro vs
  induction vs with
  | nil=>rfl
  | cons v vs ih=>simp only [List.map_cons,List.flatten_cons,ih,List.singleton_append]
 refine ⟨_,_,Wk.trans (Wk.frz (r:=r) (sz:=1) (es:=vs.map fun v=>[v]) (v:=.sl r 1 0 vs.length) (v':=.p (.sl (vs.map fun v=>[v]))) (by omega) ?_ ?_ ?_) (.forget ?_),h⟩
 ·rw [Heap.set_same,hf vs]
 ·intro e he;obtain ⟨v,_,rfl⟩:=List.mem_map.1 he;rfl
 ·have:FrzR r 1 (vs.map fun v=>[v]) (.sl r 1 0 (vs.map fun v=>[v]).length) (.p (.sl (vs.map fun v=>[v]))):=.here
  rwa [List.length_map] at this
 ·rw [Heap.del_set hr];exact Heap.le_refl _
theorem lit3 {tab:Tab} {t e:Nat} {d ed:TD} {a b c:PV} {H:Heap} {K:k_} (h1:tab t=some d) (h2:d.k=.slice e) (h3:tab e=some ed) (h4:ed.size=1∧ed.zero.length=1)
  (h:K (.p (.sl [[a],[b],[c]])) H):bS_ tab t 3 [(0,.p a),(1,.p b),(2,.p c)] H (wkK K):=lit_gen h1 h2 h3 h4 [a,b,c] (by simp) h
end Go.Proofs.YtohkciilfkhomaaGreat
namespace Go.Proofs.YtohkciilfkhomaaGreat
open Go Go.Sep
theorem typed_byte {x:List PV} (h:Typed Tryz.prog 5 x):∃n:Int,(0≤n∧n < 256)∧x=e8 n:=by
 have hu:Tryz.prog.underlying 5=some (.int .u8):=by kernel_rfl
 cases h with
 | bool h=>rw [hu] at h;cases h
 | int h hw=>
  rw [hu] at h;cases h
  rename_i n
  refine ⟨n,?_,rfl⟩
  simp only [Lit.wf,Bool.and_eq_true,decide_eq_true_eq] at hw
  have e1:IntKind.u8.min=0:=by decide
  have e2:IntKind.u8.max=255:=by decide
  rw [e1,e2] at hw
  omega
 | str h _=>rw [hu] at h;cases h
 | sl h _ _=>rw [hu] at h;cases h
 | struct h _=>rw [hu] at h;cases h
theorem e_7:∀(es:List (List PV)),(∀x∈es,Typed Tryz.prog 5 x)→∃ns:List Int,(∀b∈ns,0≤b∧b < 256)∧es=ns.map e8
 | [],_=>⟨[],fun b hb=>by simp at hb,rfl⟩
 | x::es,h=>by
  obtain ⟨n,hn,rfl⟩:=typed_byte (h x (by simp))
  obtain ⟨ns,hns,rfl⟩:=e_7 es fun y hy=>h y (by simp [hy])
  refine ⟨n::ns,?_,rfl⟩
  intro b hb
  rcases List.mem_cons.1 hb with rfl | hb
  ·exact hn
  ·exact hns b hb
theorem arg_bytes {v:AV} (h:ArgT Tryz.prog 22 v):∃ns:List Int,(∀b∈ns,0≤b∧b < 256)∧v=.p (.sl (ns.map e8)):=by
 have hu:Tryz.prog.underlying 22=some (.slice 5):=by kernel_rfl
 cases h with
 | cell hs h=>
  cases h with
  | bool h=>rw [hu] at h;cases h
  | int h hw=>rw [hu] at h;cases h
  | str h _=>rw [hu] at h;cases h
  | sl h hl he=>
   rw [hu] at h;cases h
   obtain ⟨ns,hns,rfl⟩:=e_7 _ he
   exact ⟨ns,hns,rfl⟩
  | struct h _=>rw [hu] at h;cases h
 | agg h _=>rw [hu] at h;cases h
end Go.Proofs.YtohkciilfkhomaaGreat
namespace Go.Proofs.YtohkciilfkhomaaGreat
open Go Go.Sep
attribute [local irreducible] a_a
theorem b_a (a lo hi:Int):Pu Tryz.prog 48 [I a,I lo,I hi] (B (decide (lo≤a) && decide (a≤hi))):=by
 refine Pu.of fun H=>?_
 refine W48_ok ?_;simp (maxSteps:=1000000) (disch:=first|assumption|apply Y6;assumption) only [W48,vz,vu,vv,eqS,eF_,↓c1_,↓c2_,tabs,reduceCtorEq,X5,↓reduceIte,Y1,Y2,Y3,Y4,Y5,X1,X2,X3,X4]
 exact ⟨fun h=>by simp [h],fun h=>by simp [h]⟩
end Go.Proofs.YtohkciilfkhomaaGreat
namespace Go.Proofs.YtohkciilfkhomaaGreat
open Go Go.Sep
theorem a_5 (n:Nat) (z:List AV):zA_ (n+1) z=z++zA_ n z:=by simp [zA_,List.replicate_succ]
end Go.Proofs.YtohkciilfkhomaaGreat
namespace Go.Pt
structure Nd where
 op:Int
 n:Int
deriving Inhabited,DecidableEq
structure Ch where
 var:Int
 by_:List Nd
deriving Inhabited,DecidableEq
structure Cm where
 when_:List Nd
 chs:List Ch
deriving Inhabited,DecidableEq
structure Pg where
 wide:Int
 vars:Int
 start:List Nd
 cmds:List Cm
deriving Inhabited,DecidableEq
def inB (n lo hi:Int):Bool:=decide (lo≤n) && decide (n≤hi)
theorem inB_iff {n lo hi:Int}:inB n lo hi=true↔lo≤n∧n≤hi:=by simp [inB]
def own (op:Int):Int:=
 if op=1∨op=2∨op=13∨(3≤op∧op≤12) then 1
 else if op=20∨op=19∨(14≤op∧op≤16)∨op=17∨op=18 then 2 else 0
def many (op:Int):Nat:=
 if op=13∨op=19 then 1 else if (3≤op∧op≤12)∨(14≤op∧op≤16)∨op=17∨op=18 then 2 else 0
def part (op:Int):Int:=
 if op=13∨(3≤op∧op≤12)∨(14≤op∧op≤16) then 1 else 2
def leafOk (wide vars:Int) (x:Nd):Bool:=
 if x.op=1 then inB wide 1 64 && decide (x.n < 2^wide.toNat)
 else if x.op=2 then decide (x.n < vars)
 else if x.op=20 then decide (x.n≤1)
 else decide (x.n=0)
def step (w v:Int) (p:List Int) (x:Nd):Option (List Int):=
 if own x.op=0∨leafOk w v x=false∨p.length < many x.op then none
 else if (p.drop (p.length - many x.op)).any (fun k=>decide (k≠part x.op)) then none
 else some (p.take (p.length - many x.op)++[own x.op])
def run (w v:Int):List Int→List Nd→Option (List Int)
 | p,[]=>some p
 | p,x::xs=>(step w v p x).bind fun p'=>run w v p' xs
def frame (w v:Int) (t:List Nd):Bool:=inB w 1 64 && inB v 1 4 && (decide (1≤t.length) && decide (t.length≤48))
def kind (w v:Int) (t:List Nd):Int:=
 if frame w v t then (match run w v [] t with
  | some [k]=>k
  | _=>0) else 0
theorem tS_ {α:Type} [Inhabited α] {xs:List α} {i:Nat} (h:i < xs.length):xs.take (i+1)=xs.take i++[xs.getD i default]:=by
 rw [List.take_succ_eq_append_getElem h];simp [List.getD,h]
end Go.Pt
namespace Go.Proofs.YtohkciilfkhomaaGreat
open Go Go.Sep Go.Pt
attribute [local irreducible] a_a
def ok (n:Nat):Prop:=n≤9223372036854775807
end Go.Proofs.YtohkciilfkhomaaGreat
namespace Go.Proofs.YtohkciilfkhomaaGreat
open Go Go.Sep Go.Pt
attribute [local irreducible] a_a
end Go.Proofs.YtohkciilfkhomaaGreat
namespace Go.Pt
structure Ed where
 src:Int
 lt:Int
 dst:Int
deriving Inhabited
structure Au where
 states:Int
 first:List Int
 edges:List Ed
 goals:List (List Int)
deriving Inhabited
def b_I (l:List Int) (n:Int) (i:Nat):Bool:=(decide (0≤l.getD i default) && decide (l.getD i default < n)) && (decide (i=0) || decide (l.getD (i - 1) default < l.getD i default))
def a_x (l:List Int) (n:Int):Bool:=(List.range l.length).all (b_I l n)
def edLt (a b:Ed):Bool:=if a.src=b.src then (if a.lt=b.lt then decide (a.dst < b.dst) else decide (a.lt < b.lt)) else decide (a.src < b.src)
def edIn (n:Int) (e:Ed):Bool:=(decide (0≤e.src) && decide (e.src < n)) && ((decide (0≤e.dst) && decide (e.dst < n)) && (decide (0≤e.lt) && decide (e.lt < 8)))
def edAt (n:Int) (es:List Ed) (i:Nat):Bool:=edIn n (es.getD i default) && (decide (i=0) || edLt (es.getD (i - 1) default) (es.getD i default))
def e_H (n:Int) (es:List Ed):Bool:=(List.range es.length).all (edAt n es)
def a_l (a:Au):Bool:=(decide (1≤a.states) && decide (a.states≤96)) && (a_x a.first a.states && (decide (a.edges.length≤2400) && ((decide (a.goals.length≤6) && a.goals.all (fun g=>a_x g a.states)) && e_H a.states a.edges)))
end Go.Pt
namespace Go.Proofs.YtohkciilfkhomaaGreat
open Go Go.Sep Go.Pt
attribute [local irreducible] a_a
abbrev eE (x:Ed):List PV:=[.int .i64 x.src,.int .i64 x.lt,.int .i64 x.dst]
abbrev aE (x:Ed):AV:=.agg [I x.src,I x.lt,I x.dst]
abbrev Es (xs:List Ed):AV:=.p (.sl (xs.map eE))
abbrev aAu (a:Au):AV:=.agg [I a.states,Is a.first,Es a.edges,Ls a.goals]
def smLs (cs:List (List Int)):Prop:=cs.length≤1048576∧∀c∈cs,c.length≤1048576
def smAu (a:Au):Prop:=a.first.length≤1048576∧a.edges.length≤1048576∧smLs a.goals
end Go.Proofs.YtohkciilfkhomaaGreat
namespace Go.Proofs.YtohkciilfkhomaaGreat
open Go Go.Sep Go.Pt
attribute [local irreducible] a_a
theorem a_N {l:List Int} {n:Int} {i:Nat}:b_I l n i=true↔0≤l.getD i default∧l.getD i default < n∧(i=0∨l.getD (i - 1) default < l.getD i default):=by
 simp only [b_I,Bool.and_eq_true,Bool.or_eq_true,decide_eq_true_eq,and_assoc]
theorem c_X {l:List Int} {n:Int} {i:Nat} (h:¬(0≤l.getD i default∧l.getD i default < n∧(i=0∨l.getD (i - 1) default < l.getD i default))):b_I l n i=false:=by
 rw [Bool.eq_false_iff];exact fun hh=>h (a_N.1 hh)
theorem a_6 (l:List Int) (n:Int) (hl:l.length≤1048576):Pu Tryz.prog 70 [Is l,I n] (B (a_x l n)):=by
 refine Pu.of fun H=>?_
 refine W70_ok ?_;simp (maxSteps:=1000000) (disch:=first|assumption|apply Y6;assumption) only [W70,vz,vu,vv,eqS,eF_,↓c1_,↓c2_,tabs,reduceCtorEq,X5,↓reduceIte,Y1,Y2,Y3,Y4,Y5,X1,X2,X3,X4]
 refine L70_0_rule (0:Nat) (fun i=>I i) (fun _=>H) (fun i=>i≤l.length∧(List.range i).all (b_I l n)=true) (fun i=>l.length - i) ⟨⟨by omega,rfl⟩,.refl _,Heap.le_refl _⟩ ?_
 rintro i ⟨hi,ha⟩
 have ra:∀j,j < l.length→b_I l n j=false→a_x l n=false:=fun j hj h=>a_0 hj h
 have e1:0 < (i:Int)→IntKind.i64.wrap ((i:Int) - 1)=i - 1:=fun _=>i6_ (by omega) (by omega)
 have e2:((i:Int) - 1).toNat=i - 1:=by omega
 have nx:b_I l n i=true→(List.range (i+1)).all (b_I l n)=true:=fun h=>by rw [a_9,ha,h];rfl
 (try simp (disch:=first|assumption|apply Y6;assumption) only [vz,vu,vv,eqS,eF_,↓c1_,↓c2_,tabs,reduceCtorEq,X5,↓reduceIte,Y1,Y2,Y3,Y4,Y5,X1,X2,X3,X4,B70_0])
 refine ⟨fun h1=>⟨by omega,h1,fun h2=>?_,fun h2=>⟨fun h3=>?_,fun h3=>⟨fun h4=>?_,fun h4=>?_⟩⟩⟩,fun h1=>?_⟩
 ·rw [ra i (by omega) (c_X (by omega))]
 ·rw [ra i (by omega) (c_X (by omega))]
 ·rw [e1 h4,e2]
  refine ⟨by omega,by omega,fun h5=>?_,fun h5=>⟨i+1,⟨by omega,nx ?_⟩,by omega,?_⟩⟩
  ·rw [ra i (by omega) (c_X (by omega))]
  ·exact a_N.2 (by omega)
  ·rw [a_r,i6_ (by omega) (by omega)];simp
 ·refine ⟨i+1,⟨by omega,nx ?_⟩,by omega,?_⟩
  ·exact a_N.2 (by omega)
  ·rw [a_r,i6_ (by omega) (by omega)];simp
 ·have:i=l.length:=by omega
  subst this
  rw [a_x,ha]
theorem f_y (l:List Int) (n:Int) (hl:l.length≤1048576):Pu Tryz.prog 107 [Is l,I 0,I (n - 1)] (B (a_x l n)):=by
 refine Pu.of fun H=>?_
 refine W107_ok ?_;simp (maxSteps:=1000000) (disch:=first|assumption|apply Y6;assumption) only [W107,vz,vu,vv,eqS,eF_,↓c1_,↓c2_,tabs,reduceCtorEq,X5,↓reduceIte,Y1,Y2,Y3,Y4,Y5,X1,X2,X3,X4]
 refine L107_0_rule (0:Nat) (fun i=>I i) (fun _=>H) (fun i=>i≤l.length∧(List.range i).all (b_I l n)=true) (fun i=>l.length - i) ⟨⟨by omega,rfl⟩,.refl _,Heap.le_refl _⟩ ?_
 rintro i ⟨hi,ha⟩
 have ra:∀j,j < l.length→b_I l n j=false→a_x l n=false:=fun j hj h=>a_0 hj h
 have e1:0 < (i:Int)→IntKind.i64.wrap ((i:Int) - 1)=i - 1:=fun _=>i6_ (by omega) (by omega)
 have e2:((i:Int) - 1).toNat=i - 1:=by omega
 have nx:b_I l n i=true→(List.range (i+1)).all (b_I l n)=true:=fun h=>by rw [a_9,ha,h];rfl
 (try simp (disch:=first|assumption|apply Y6;assumption) only [vz,vu,vv,eqS,eF_,↓c1_,↓c2_,tabs,reduceCtorEq,X5,↓reduceIte,Y1,Y2,Y3,Y4,Y5,X1,X2,X3,X4,B107_0])
 refine ⟨fun h1=>⟨by omega,h1,?_⟩,fun h1=>?_⟩
 ·refine Pu.use (b_a (l.getD i default) 0 (n - 1)) ?_
  cases h2:(decide (0≤l.getD i default) && decide (l.getD i default≤n - 1))
  ·(try simp (disch:=first|assumption|apply Y6;assumption) only [vz,vu,vv,eqS,eF_,↓c1_,↓c2_,tabs,reduceCtorEq,X5,↓reduceIte,Y1,Y2,Y3,Y4,Y5,X1,X2,X3,X4])
   simp only [Bool.and_eq_false_iff,decide_eq_false_iff_not] at h2
   rw [ra i (by omega) (c_X (by omega))]
  simp only [Bool.and_eq_true,decide_eq_true_eq] at h2
  (try simp (disch:=first|assumption|apply Y6;assumption) only [vz,vu,vv,eqS,eF_,↓c1_,↓c2_,tabs,reduceCtorEq,X5,↓reduceIte,Y1,Y2,Y3,Y4,Y5,X1,X2,X3,X4])
  refine ⟨fun h4=>?_,fun h4=>?_⟩
  ·rw [e1 h4,e2]
   refine ⟨by omega,by omega,fun h5=>?_,fun h5=>⟨i+1,⟨by omega,nx ?_⟩,by omega,?_⟩⟩
   ·rw [ra i (by omega) (c_X (by omega))]
   ·exact a_N.2 (by omega)
   ·rw [a_r,i6_ (by omega) (by omega)];simp
  ·refine ⟨i+1,⟨by omega,nx ?_⟩,by omega,?_⟩
   ·exact a_N.2 (by omega)
   ·rw [a_r,i6_ (by omega) (by omega)];simp
 ·have:i=l.length:=by omega
  subst this
  rw [a_x,ha]
theorem c_b (a b:Int):Pu Tryz.prog 112 [I a,I b] (I (if a < b then -1 else if a=b then 0 else 1)):=by
 have nan:∀c:Int,Pu Tryz.prog 125 [I c] (B false):=fun c=>by
  refine Pu.of fun H=>?_
  refine W125_ok ?_;simp (maxSteps:=1000000) (disch:=first|assumption|apply Y6;assumption) only [W125,vz,vu,vv,eqS,eF_,↓c1_,↓c2_,tabs,reduceCtorEq,X5,↓reduceIte,Y1,Y2,Y3,Y4,Y5,X1,X2,X3,X4]
 refine Pu.of fun H=>?_
 refine W112_ok ?_;simp (maxSteps:=1000000) (disch:=first|assumption|apply Y6;assumption) only [W112,vz,vu,vv,eqS,eF_,↓c1_,↓c2_,tabs,reduceCtorEq,X5,↓reduceIte,Y1,Y2,Y3,Y4,Y5,X1,X2,X3,X4]
 refine Pu.use (nan a) ?_
 (try simp (disch:=first|assumption|apply Y6;assumption) only [vz,vu,vv,eqS,eF_,↓c1_,↓c2_,tabs,reduceCtorEq,X5,↓reduceIte,Y1,Y2,Y3,Y4,Y5,X1,X2,X3,X4])
 refine Pu.use (nan b) ?_
 (try simp (disch:=first|assumption|apply Y6;assumption) only [vz,vu,vv,eqS,eF_,↓c1_,↓c2_,tabs,reduceCtorEq,X5,↓reduceIte,Y1,Y2,Y3,Y4,Y5,X1,X2,X3,X4])
 refine ⟨fun h=>by rw [if_pos h],fun h=>⟨fun h2=>by rw [if_neg h,if_neg (by omega)],fun h2=>by rw [if_neg h,if_pos (by omega)]⟩⟩
theorem Or3_spec (a b c:Int):Pu Tryz.prog 111 [Is [a,b,c]] (I (if a≠0 then a else if b≠0 then b else c)):=by
 refine Pu.of fun H=>?_
 refine W111_ok ?_;simp (maxSteps:=1000000) (disch:=first|assumption|apply Y6;assumption) only [W111,vz,vu,vv,eqS,eF_,↓c1_,↓c2_,tabs,reduceCtorEq,X5,↓reduceIte,Y1,Y2,Y3,Y4,Y5,X1,X2,X3,X4]
 refine L111_0_rule (0:Nat) (fun i=>I i) (fun _=>H) (fun i=>i≤3∧∀j,j < i→[a,b,c].getD j 0=0) (fun i=>3 - i) ⟨⟨by omega,by intros;omega⟩,.refl _,Heap.le_refl _⟩ ?_
 rintro i ⟨hi,ha⟩
 (try simp (disch:=first|assumption|apply Y6;assumption) only [vz,vu,vv,eqS,eF_,↓c1_,↓c2_,tabs,reduceCtorEq,X5,↓reduceIte,Y1,Y2,Y3,Y4,Y5,X1,X2,X3,X4,B111_0])
 have e3:∀j,[a,b,c].getD j default=[a,b,c].getD j 0:=fun _=>rfl
 rw [e3]
 refine ⟨fun h1=>⟨by omega,h1,fun h2=>?_,fun h2=>⟨i+1,⟨by omega,fun j hj=>?_⟩,by omega,?_⟩⟩,fun h1=>?_⟩
 ·refine congrArg (fun n:Int=>I n) ?_
  have a0:=ha 0
  have a1:=ha 1
  obtain rfl | rfl | rfl:i=0∨i=1∨i=2:=by omega
  ·rw [if_pos (by simpa using h2)];rfl
  ·rw [if_neg (by simpa using a0 (by omega)),if_pos (by simpa using h2)];rfl
  ·rw [if_neg (by simpa using a0 (by omega)),if_neg (by simpa using a1 (by omega))];rfl
 ·rcases Nat.lt_succ_iff_lt_or_eq.1 hj with h | rfl
  ·exact ha j h
  ·exact h2
 ·rw [a_r,i6_ (by omega) (by omega)];simp
 ·have a0:=ha 0 (by omega)
  have a1:=ha 1 (by omega)
  have a2:=ha 2 (by omega)
  rw [if_neg (by simpa using a0),if_neg (by simpa using a1)]
  exact congrArg (fun n:Int=>I n) a2.symm
theorem d_i (a b:Ed):Pu Tryz.prog 76 [aE a,aE b] (I (if edLt a b then -1 else if edLt b a then 1 else 0)):=by
 refine Pu.of fun H=>?_
 refine W76_ok ?_;simp (maxSteps:=1000000) (disch:=first|assumption|apply Y6;assumption) only [W76,vz,vu,vv,eqS,eF_,↓c1_,↓c2_,tabs,reduceCtorEq,X5,↓reduceIte,Y1,Y2,Y3,Y4,Y5,X1,X2,X3,X4]
 intro r hr r2 n2 hr2
 have nn2:r≠r2:=Ne.symm n2
 have hle:=Heap.le_setN (b:=[I b.src,I b.lt,I b.dst]) (Heap.le_set (b:=[I a.src,I a.lt,I a.dst]) hr) hr2
 (try simp (disch:=first|assumption|apply Y6;assumption) only [vz,vu,vv,eqS,eF_,↓c1_,↓c2_,tabs,reduceCtorEq,X5,↓reduceIte,Y1,Y2,Y3,Y4,Y5,X1,X2,X3,X4])
 refine Pu.use (c_b a.src b.src) ?_
 (try simp (disch:=first|assumption|apply Y6;assumption) only [vz,vu,vv,eqS,eF_,↓c1_,↓c2_,tabs,reduceCtorEq,X5,↓reduceIte,Y1,Y2,Y3,Y4,Y5,X1,X2,X3,X4])
 refine Pu.use (c_b a.lt b.lt) ?_
 (try simp (disch:=first|assumption|apply Y6;assumption) only [vz,vu,vv,eqS,eF_,↓c1_,↓c2_,tabs,reduceCtorEq,X5,↓reduceIte,Y1,Y2,Y3,Y4,Y5,X1,X2,X3,X4])
 refine Pu.use (c_b a.dst b.dst) ?_
 refine lit3 a_g rfl a_u ⟨rfl,rfl⟩ ?_
 refine Pu.use (Or3_spec _ _ _) ?_
 refine ⟨?_,hle⟩
 refine congrArg (fun n:Int=>I n) ?_
 have c1:∀x y:Int,(if x < y then (-1:Int) else if x=y then 0 else 1)≠0↔x≠y:=fun x y=>by
  constructor
  ·intro h e;subst e;simp at h
  ·intro h;split<;>first | decide | (rw [if_neg h];decide)
 have key:∀x y:Int,(if x < y then (-1:Int) else if x=y then 0 else 1)=(if decide (x < y)=true then -1 else if decide (y < x)=true then 1 else 0):=fun x y=>by
  simp only [decide_eq_true_eq]
  rcases Int.lt_trichotomy x y with h | h | h
  ·rw [if_pos h,if_pos h]
  ·subst h;simp
  ·rw [if_neg (by omega),if_neg (by omega),if_neg (by omega),if_pos h]
 unfold edLt
 by_cases h1:a.src=b.src
 ·rw [if_neg (by rw [c1];exact not_not_intro h1),if_pos h1,if_pos h1.symm]
  by_cases h2:a.lt=b.lt
  ·rw [if_neg (by rw [c1];exact not_not_intro h2),if_pos h2,if_pos h2.symm]
   exact key _ _
  ·rw [if_pos (by rw [c1];exact h2)]
   have:=key a.lt b.lt
   simpa only [if_neg h2,if_neg (Ne.symm h2)] using this
 ·rw [if_pos (by rw [c1];exact h1)]
  have:=key a.src b.src
  simpa only [if_neg h1,if_neg (Ne.symm h1)] using this
theorem l12Less_spec (a b:Ed):Pu Tryz.prog 88 [aE a,aE b] (B (edLt a b)):=by
 refine Pu.of fun H=>?_
 refine W88_ok ?_;simp (maxSteps:=1000000) (disch:=first|assumption|apply Y6;assumption) only [W88,vz,vu,vv,eqS,eF_,↓c1_,↓c2_,tabs,reduceCtorEq,X5,↓reduceIte,Y1,Y2,Y3,Y4,Y5,X1,X2,X3,X4]
 intro r hr r2 n2 hr2
 have nn2:r≠r2:=Ne.symm n2
 have hle:=Heap.le_setN (b:=[I b.src,I b.lt,I b.dst]) (Heap.le_set (b:=[I a.src,I a.lt,I a.dst]) hr) hr2
 (try simp (disch:=first|assumption|apply Y6;assumption) only [vz,vu,vv,eqS,eF_,↓c1_,↓c2_,tabs,reduceCtorEq,X5,↓reduceIte,Y1,Y2,Y3,Y4,Y5,X1,X2,X3,X4])
 unfold edLt
 exact ⟨fun h=>⟨by rw [if_neg h],hle⟩,fun h=>⟨fun h2=>⟨by rw [if_pos h,if_neg h2],hle⟩,fun h2=>⟨by rw [if_pos h,if_pos h2],hle⟩⟩⟩
theorem areGoals1_at (l:List Int) (n:Int) (r:Nat) {H:Heap} (hr:H r=some [I n]) (hl:l.length≤1048576):PuAt Tryz.prog 110 [Is l,.ptr r 0] H (B (!a_x l n)):=by
 intro K hK
 refine W110_ok ?_;simp (maxSteps:=1000000) (disch:=first|assumption|apply Y6;assumption) only [W110,vz,vu,vv,eqS,eF_,↓c1_,↓c2_,tabs,reduceCtorEq,X5,↓reduceIte,Y1,Y2,Y3,Y4,Y5,X1,X2,X3,X4,lA_ hr]
 refine Pu.use (a_6 l n hl) ?_
 (try simp (disch:=first|assumption|apply Y6;assumption) only [vz,vu,vv,eqS,eF_,↓c1_,↓c2_,tabs,reduceCtorEq,X5,↓reduceIte,Y1,Y2,Y3,Y4,Y5,X1,X2,X3,X4])
 simpa using hK
theorem f_z (xs:List (List Int)) (g:Nat) (caps:List AV) (p:List Int→Bool) {H:Heap} (hl:xs.length≤1000000000) (hp:∀x∈xs,PuAt Tryz.prog g (Is x::caps) H (B (p x))) :
  PuAt Tryz.prog 124 [Ls xs,.fn g caps] H (I (if xs.any p then (xs.findIdx p:Int) else -1)):=by
 intro K hK
 refine a_a.fin ?_
 refine W124_ok ?_;simp (maxSteps:=1000000) (disch:=first|assumption|apply Y6;assumption) only [W124,vz,vu,vv,eqS,eF_,↓c1_,↓c2_,tabs,reduceCtorEq,X5,↓reduceIte,Y1,Y2,Y3,Y4,Y5,X1,X2,X3,X4]
 refine L124_0_rule (0:Nat) (fun i=>I i) (fun _=>H) (fun i=>i≤xs.length∧∀j (hj:j < xs.length),j < i→p xs[j]=false) (fun i=>xs.length - i) ⟨⟨by omega,by intros;omega⟩,.refl _,Heap.le_refl _⟩ ?_
 rintro i ⟨hi1,ha⟩
 (try simp (disch:=first|assumption|apply Y6;assumption) only [vz,vu,vv,eqS,eF_,↓c1_,↓c2_,tabs,reduceCtorEq,X5,↓reduceIte,Y1,Y2,Y3,Y4,Y5,X1,X2,X3,X4,B124_0])
 refine ⟨fun h=>⟨by omega,h,?_⟩,fun h=>?_⟩
 ·have hlt:i < xs.length:=by omega
  rw [a_k hlt]
  refine PuAt.use (hp _ (List.getElem_mem hlt)) ?_
  (try simp (disch:=first|assumption|apply Y6;assumption) only [vz,vu,vv,eqS,eF_,↓c1_,↓c2_,tabs,reduceCtorEq,X5,↓reduceIte,Y1,Y2,Y3,Y4,Y5,X1,X2,X3,X4])
  refine ⟨fun h1=>?_,fun h1=>⟨i+1,⟨by omega,fun j hj hji=>?_⟩,by omega,?_⟩⟩
  ·have h2:xs.any p=true:=List.any_eq_true.2 ⟨xs[i],List.getElem_mem hlt,h1⟩
   have h3:xs.findIdx p=i:=by
    rw [List.findIdx_eq hlt];exact ⟨h1,fun j hj=>ha j (by omega) hj⟩
   rw [h2,h3] at hK;exact wkK.keep (by simpa using hK)
  ·rcases Nat.lt_succ_iff_lt_or_eq.1 hji with h2 | rfl
   ·exact ha j hj h2
   ·exact h1
  ·rw [a_r,i6_ (by omega) (by omega)];simp
 ·have hi:i=xs.length:=by omega
  have h2:xs.any p=false:=by
   rw [List.any_eq_false]
   intro x hx
   obtain ⟨j,hj,rfl⟩:=List.mem_iff_getElem.1 hx
   rw [ha j hj (by omega)];simp
  rw [h2] at hK;exact wkK.keep (by simpa using hK)
theorem d_E (xs:List (List Int)) (g:Nat) (caps:List AV) (p:List Int→Bool) {H:Heap} (hl:xs.length≤1000000000) (hp:∀x∈xs,PuAt Tryz.prog g (Is x::caps) H (B (p x))) :
  PuAt Tryz.prog 109 [Ls xs,.fn g caps] H (B (xs.any p)):=by
 intro K hK
 refine W109_ok ?_;simp (maxSteps:=1000000) (disch:=first|assumption|apply Y6;assumption) only [W109,vz,vu,vv,eqS,eF_,↓c1_,↓c2_,tabs,reduceCtorEq,X5,↓reduceIte,Y1,Y2,Y3,Y4,Y5,X1,X2,X3,X4]
 refine PuAt.use (f_z xs g caps p hl hp) ?_
 (try simp (disch:=first|assumption|apply Y6;assumption) only [vz,vu,vv,eqS,eF_,↓c1_,↓c2_,tabs,reduceCtorEq,X5,↓reduceIte,Y1,Y2,Y3,Y4,Y5,X1,X2,X3,X4])
 cases h:xs.any p<;>simp [h] at hK ⊢<;>exact hK
def a_1 (n:Int) (gs:List (List Int)):Bool:=decide (gs.length≤6) && gs.all (fun g=>a_x g n)
theorem not_any_not {α:Type} {p:α→Bool} {l:List α}:(!l.any fun x=>!p x)=l.all p:=by
 induction l with
 | nil=>rfl
 | cons a l ih=>simp only [List.any_cons,List.all_cons,Bool.not_or,Bool.not_not,ih]
theorem f_A (gs:List (List Int)) (n:Int) (hs:smLs gs):Pu Tryz.prog 75 [Ls gs,I n] (B (a_1 n gs)):=by
 refine Pu.of fun H=>?_
 refine W75_ok ?_;simp (maxSteps:=1000000) (disch:=first|assumption|apply Y6;assumption) only [W75,vz,vu,vv,eqS,eF_,↓c1_,↓c2_,tabs,reduceCtorEq,X5,↓reduceIte,Y1,Y2,Y3,Y4,Y5,X1,X2,X3,X4]
 intro r hr
 refine ⟨fun h=>?_,fun h=>⟨by rw [a_1,decide_eq_false (by omega)];rfl,Heap.le_set hr⟩⟩
 refine PuAt.use (d_E gs _ _ (fun g=>!a_x g n) (by have:=hs.1;omega) fun g hg=>areGoals1_at g n r (Heap.set_same _ _ _) (hs.2 g hg)) ?_
 (try simp (disch:=first|assumption|apply Y6;assumption) only [vz,vu,vv,eqS,eF_,↓c1_,↓c2_,tabs,reduceCtorEq,X5,↓reduceIte,Y1,Y2,Y3,Y4,Y5,X1,X2,X3,X4])
 refine ⟨?_,Heap.le_set hr⟩
 rw [a_1,decide_eq_true (by omega),Bool.true_and,← not_any_not]
theorem b_z (l:List Int) (n:Int) (hl:l.length≤1048576) (hn:1≤n∧n≤96):Pu Tryz.prog 73 [Is l,I n] (B (a_x l n)):=by
 refine Pu.of fun H=>?_
 have e:IntKind.i64.wrap (n - 1)=n - 1:=i6_ (by omega) (by omega)
 refine W73_ok ?_;simp (maxSteps:=1000000) (disch:=first|assumption|apply Y6;assumption) only [W73,vz,vu,vv,eqS,eF_,↓c1_,↓c2_,tabs,reduceCtorEq,X5,↓reduceIte,Y1,Y2,Y3,Y4,Y5,X1,X2,X3,X4,e]
 exact Pu.use (f_y l n hl) ⟨rfl,Heap.le_refl _⟩
theorem f_B (gs:List (List Int)) (n:Int) (hs:smLs gs) (hn:1≤n∧n≤96):Pu Tryz.prog 87 [Ls gs,I n] (B (a_1 n gs)):=by
 have hl:=hs.1
 refine Pu.of fun H=>?_
 refine W87_ok ?_;simp (maxSteps:=1000000) (disch:=first|assumption|apply Y6;assumption) only [W87,vz,vu,vv,eqS,eF_,↓c1_,↓c2_,tabs,reduceCtorEq,X5,↓reduceIte,Y1,Y2,Y3,Y4,Y5,X1,X2,X3,X4]
 refine ⟨fun h=>by rw [a_1,decide_eq_false (by omega)];rfl,fun h=>?_⟩
 have hd:a_1 n gs=gs.all (fun g=>a_x g n):=by rw [a_1,decide_eq_true (by omega),Bool.true_and]
 refine L87_0_rule (0:Nat) (fun i=>I i) (fun _=>H) (fun i=>i≤gs.length∧(gs.take i).all (fun g=>a_x g n)=true) (fun i=>gs.length - i) ⟨⟨by omega,rfl⟩,.refl _,Heap.le_refl _⟩ ?_
 rintro i ⟨hi,ha⟩
 (try simp (disch:=first|assumption|apply Y6;assumption) only [vz,vu,vv,eqS,eF_,↓c1_,↓c2_,tabs,reduceCtorEq,X5,↓reduceIte,Y1,Y2,Y3,Y4,Y5,X1,X2,X3,X4,B87_0])
 refine ⟨fun h1=>⟨by omega,h1,?_⟩,fun h1=>?_⟩
 ·have hlt:i < gs.length:=by omega
  have hm:gs.getD i default∈gs:=a_e (p:=fun x=>x∈gs) (fun _ h=>h) hlt
  refine Pu.use (b_z (gs.getD i default) n (hs.2 _ hm) hn) ?_
  cases hr:a_x (gs.getD i default) n
  ·(try simp (disch:=first|assumption|apply Y6;assumption) only [vz,vu,vv,eqS,eF_,↓c1_,↓c2_,tabs,reduceCtorEq,X5,↓reduceIte,Y1,Y2,Y3,Y4,Y5,X1,X2,X3,X4])
   rw [hd]
   exact congrArg (fun b:Bool=>B b) (List.all_eq_false.2 ⟨_,hm,by rw [hr];simp⟩).symm
  ·(try simp (disch:=first|assumption|apply Y6;assumption) only [vz,vu,vv,eqS,eF_,↓c1_,↓c2_,tabs,reduceCtorEq,X5,↓reduceIte,Y1,Y2,Y3,Y4,Y5,X1,X2,X3,X4])
   refine ⟨i+1,⟨by omega,?_⟩,by omega,?_⟩
   ·rw [c_W hlt,ha,Bool.true_and,← a_k (d:=default) hlt];exact hr
   ·rw [a_r,i6_ (by omega) (by omega)];simp
 ·have:i=gs.length:=by omega
  subst this
  rw [List.take_length] at ha
  rw [hd,ha]
theorem a_h {n:Int} {e:Ed}:edIn n e=true↔(0≤e.src∧e.src < n)∧(0≤e.dst∧e.dst < n)∧(0≤e.lt∧e.lt < 8):=by
 simp only [edIn,Bool.and_eq_true,decide_eq_true_eq]
theorem c_m {n:Int} {es:List Ed} {i:Nat}:edAt n es i=true↔edIn n (es.getD i default)=true∧(i=0∨edLt (es.getD (i - 1) default) (es.getD i default)=true):=by
 simp only [edAt,Bool.and_eq_true,Bool.or_eq_true,decide_eq_true_eq]
theorem d_J {n:Int} {es:List Ed} {i:Nat} (h:¬(edIn n (es.getD i default)=true∧(i=0∨edLt (es.getD (i - 1) default) (es.getD i default)=true))):edAt n es i=false:=by
 rw [Bool.eq_false_iff];exact fun hh=>h (c_m.1 hh)
theorem b_J (a:Au):a_l a=((decide (1≤a.states) && decide (a.states≤96)) && (a_x a.first a.states && (decide (a.edges.length≤2400) && (a_1 a.states a.goals && e_H a.states a.edges)))):=rfl
theorem a_O (a:Au) (hs:smAu a):Pu Tryz.prog 29 [aAu a] (B (a_l a)):=by
 refine Pu.of fun H=>?_
 have gd:=b_J a
 refine W29_ok ?_;simp (maxSteps:=1000000) (disch:=first|assumption|apply Y6;assumption) only [W29,vz,vu,vv,eqS,eF_,↓c1_,↓c2_,tabs,reduceCtorEq,X5,↓reduceIte,Y1,Y2,Y3,Y4,Y5,X1,X2,X3,X4]
 intro r hr
 have hle:=Heap.le_set (b:=[I a.states,Is a.first,Es a.edges,Ls a.goals]) hr
 have bad:a_l a=false→AV.p (.bool false)=B (a_l a)∧Heap.le H (H.set r [I a.states,Is a.first,Es a.edges,Ls a.goals]):=fun h=>⟨by rw [h],hle⟩
 refine ⟨fun h1=>bad (by rw [gd,decide_eq_false (by omega)];rfl),fun h1=>⟨fun h2=>bad (by rw [gd,decide_eq_false (by omega:¬a.states≤96),Bool.and_false];rfl),fun h2=>?_⟩⟩
 rw [decide_eq_true (by omega:1≤a.states),decide_eq_true (by omega:a.states≤96),Bool.true_and,Bool.true_and] at gd
 refine Pu.use (a_6 a.first a.states hs.1) ?_
 cases h3:a_x a.first a.states
 ·(try simp (disch:=first|assumption|apply Y6;assumption) only [vz,vu,vv,eqS,eF_,↓c1_,↓c2_,tabs,reduceCtorEq,X5,↓reduceIte,Y1,Y2,Y3,Y4,Y5,X1,X2,X3,X4])
  exact bad (by rw [gd,h3];rfl)
 rw [h3,Bool.true_and] at gd
 (try simp (disch:=first|assumption|apply Y6;assumption) only [vz,vu,vv,eqS,eF_,↓c1_,↓c2_,tabs,reduceCtorEq,X5,↓reduceIte,Y1,Y2,Y3,Y4,Y5,X1,X2,X3,X4])
 refine ⟨fun h4=>bad (by rw [gd,decide_eq_false (by omega)];rfl),fun h4=>?_⟩
 rw [decide_eq_true (by omega:a.edges.length≤2400),Bool.true_and] at gd
 refine Pu.use (f_A a.goals a.states hs.2.2) ?_
 cases h5:a_1 a.states a.goals
 ·(try simp (disch:=first|assumption|apply Y6;assumption) only [vz,vu,vv,eqS,eF_,↓c1_,↓c2_,tabs,reduceCtorEq,X5,↓reduceIte,Y1,Y2,Y3,Y4,Y5,X1,X2,X3,X4])
  exact bad (by rw [gd,h5];rfl)
 rw [h5,Bool.true_and] at gd
 (try simp (disch:=first|assumption|apply Y6;assumption) only [vz,vu,vv,eqS,eF_,↓c1_,↓c2_,tabs,reduceCtorEq,X5,↓reduceIte,Y1,Y2,Y3,Y4,Y5,X1,X2,X3,X4])
 have hG:(H.set r [I a.states,Is a.first,Es a.edges,Ls a.goals]) r=some [I a.states,Is a.first,Es a.edges,Ls a.goals]:=Heap.set_same _ _ _
 generalize H.set r [I a.states,Is a.first,Es a.edges,Ls a.goals]=G at hle bad hG ⊢
 refine L29_0_rule (0:Nat) (fun i=>I i) (fun _=>G) (fun i=>i≤a.edges.length∧(List.range i).all (edAt a.states a.edges)=true) (fun i=>a.edges.length - i) ⟨⟨by omega,rfl⟩,.refl _,Heap.le_refl _⟩ ?_
 rintro i ⟨hi,ha⟩
 (try simp (disch:=first|assumption|apply Y6;assumption) only [vz,vu,vv,eqS,eF_,↓c1_,↓c2_,tabs,reduceCtorEq,X5,↓reduceIte,Y1,Y2,Y3,Y4,Y5,X1,X2,X3,X4,B29_0])
 refine ⟨fun h6=>⟨by omega,h6,fun r4 hr4=>?_⟩,fun h6=>?_⟩
 ·have hlt:i < a.edges.length:=by omega
  have nr:r≠r4:=fun e=>by rw [e,hr4] at hG;cases hG
  have nr':r4≠r:=Ne.symm nr
  have ra:edAt a.states a.edges i=false→AV.p (.bool false)=B (a_l a)∧Heap.le H (G.set r4 [I (a.edges.getD i default).src,I (a.edges.getD i default).lt,I (a.edges.getD i default).dst]):=fun h=>⟨by rw [gd,e_H,a_0 hlt h],Heap.le_trans hle (Heap.le_set hr4)⟩
  have e1:0 < (i:Int)→IntKind.i64.wrap ((i:Int) - 1)=i - 1:=fun _=>i6_ (by omega) (by omega)
  have e2:((i:Int) - 1).toNat=i - 1:=by omega
  have nx:edAt a.states a.edges i=true→(List.range (i+1)).all (edAt a.states a.edges)=true:=fun h=>by rw [a_9,ha,h];rfl
  have hne:¬(edIn a.states (a.edges.getD i default)=true)→edAt a.states a.edges i=false:=fun h=>d_J fun hh=>h hh.1
  rw [a_h] at hne
  (try simp (disch:=first|assumption|apply Y6;assumption) only [vz,vu,vv,eqS,eF_,↓c1_,↓c2_,tabs,reduceCtorEq,X5,↓reduceIte,Y1,Y2,Y3,Y4,Y5,X1,X2,X3,X4,lA_ hG])
  refine ⟨fun g=>ra (hne (by omega)),fun g1=>⟨fun g=>ra (hne (by omega)),fun g2=>⟨fun g=>ra (hne (by omega)),fun g3=>⟨fun g=>ra (hne (by omega)),fun g4=>⟨fun g=>ra (hne (by omega)),fun g5=>⟨fun g=>ra (hne (by omega)),fun g6=>⟨fun g7=>?_,fun g7=>?_⟩⟩⟩⟩⟩⟩⟩
  ·rw [e1 g7,e2]
   refine ⟨by omega,by omega,?_⟩
   refine Pu.use (d_i (a.edges.getD (i - 1) default) (a.edges.getD i default)) ?_
   cases h8:edLt (a.edges.getD (i - 1) default) (a.edges.getD i default)
   ·have e3:(if false=true then (-1:Int) else if edLt (a.edges.getD i default) (a.edges.getD (i - 1) default)=true then 1 else 0) ≥ 0:=by
     rw [if_neg (by decide)];split<;>decide
    (try simp (disch:=first|assumption|apply Y6;assumption) only [vz,vu,vv,eqS,eF_,↓c1_,↓c2_,tabs,reduceCtorEq,X5,↓reduceIte,Y1,Y2,Y3,Y4,Y5,X1,X2,X3,X4])
    refine ⟨fun _=>ra (d_J fun hh=>?_),fun h9=>absurd e3 (by simpa using h9)⟩
    rcases hh.2 with h | h
    ·omega
    ·rw [h8] at h;cases h
   ·(try simp (disch:=first|assumption|apply Y6;assumption) only [vz,vu,vv,eqS,eF_,↓c1_,↓c2_,tabs,reduceCtorEq,X5,↓reduceIte,Y1,Y2,Y3,Y4,Y5,X1,X2,X3,X4])
    refine ⟨fun h=>absurd h (by decide),fun _=>⟨i+1,⟨by omega,nx (c_m.2 ⟨a_h.2 (by omega),.inr h8⟩)⟩,by omega,?_,Heap.le_set hr4⟩⟩
    rw [a_r,i6_ (by omega) (by omega)];simp
  ·refine ⟨i+1,⟨by omega,nx (c_m.2 ⟨a_h.2 (by omega),.inl (by omega)⟩)⟩,by omega,?_,Heap.le_set hr4⟩
   rw [a_r,i6_ (by omega) (by omega)];simp
 ·have:i=a.edges.length:=by omega
  subst this
  exact ⟨by rw [gd,e_H,ha],hle⟩
theorem a_F (a:Au) (hs:smAu a):Pu Tryz.prog 35 [aAu a] (B (a_l a)):=by
 refine Pu.of fun H=>?_
 have gd:=b_J a
 refine W35_ok ?_;simp (maxSteps:=1000000) (disch:=first|assumption|apply Y6;assumption) only [W35,vz,vu,vv,eqS,eF_,↓c1_,↓c2_,tabs,reduceCtorEq,X5,↓reduceIte,Y1,Y2,Y3,Y4,Y5,X1,X2,X3,X4]
 intro r hr
 have hle:=Heap.le_set (b:=[I a.states,Is a.first,Es a.edges,Ls a.goals]) hr
 have bad:a_l a=false→AV.p (.bool false)=B (a_l a)∧Heap.le H (H.set r [I a.states,Is a.first,Es a.edges,Ls a.goals]):=fun h=>⟨by rw [h],hle⟩
 refine Pu.use (b_a a.states 1 96) ?_
 cases h1:(decide (1≤a.states) && decide (a.states≤96))
 ·(try simp (disch:=first|assumption|apply Y6;assumption) only [vz,vu,vv,eqS,eF_,↓c1_,↓c2_,tabs,reduceCtorEq,X5,↓reduceIte,Y1,Y2,Y3,Y4,Y5,X1,X2,X3,X4])
  exact bad (by rw [gd,h1];rfl)
 rw [h1,Bool.true_and] at gd
 simp only [Bool.and_eq_true,decide_eq_true_eq] at h1
 (try simp (disch:=first|assumption|apply Y6;assumption) only [vz,vu,vv,eqS,eF_,↓c1_,↓c2_,tabs,reduceCtorEq,X5,↓reduceIte,Y1,Y2,Y3,Y4,Y5,X1,X2,X3,X4])
 refine Pu.use (b_z a.first a.states hs.1 h1) ?_
 cases h3:a_x a.first a.states
 ·(try simp (disch:=first|assumption|apply Y6;assumption) only [vz,vu,vv,eqS,eF_,↓c1_,↓c2_,tabs,reduceCtorEq,X5,↓reduceIte,Y1,Y2,Y3,Y4,Y5,X1,X2,X3,X4])
  exact bad (by rw [gd,h3];rfl)
 rw [h3,Bool.true_and] at gd
 (try simp (disch:=first|assumption|apply Y6;assumption) only [vz,vu,vv,eqS,eF_,↓c1_,↓c2_,tabs,reduceCtorEq,X5,↓reduceIte,Y1,Y2,Y3,Y4,Y5,X1,X2,X3,X4])
 refine ⟨fun h4=>bad (by rw [gd,decide_eq_false (by omega)];rfl),fun h4=>?_⟩
 rw [decide_eq_true (by omega:a.edges.length≤2400),Bool.true_and] at gd
 refine Pu.use (f_B a.goals a.states hs.2.2 h1) ?_
 cases h5:a_1 a.states a.goals
 ·(try simp (disch:=first|assumption|apply Y6;assumption) only [vz,vu,vv,eqS,eF_,↓c1_,↓c2_,tabs,reduceCtorEq,X5,↓reduceIte,Y1,Y2,Y3,Y4,Y5,X1,X2,X3,X4])
  exact bad (by rw [gd,h5];rfl)
 rw [h5,Bool.true_and] at gd
 (try simp (disch:=first|assumption|apply Y6;assumption) only [vz,vu,vv,eqS,eF_,↓c1_,↓c2_,tabs,reduceCtorEq,X5,↓reduceIte,Y1,Y2,Y3,Y4,Y5,X1,X2,X3,X4])
 have hG:(H.set r [I a.states,Is a.first,Es a.edges,Ls a.goals]) r=some [I a.states,Is a.first,Es a.edges,Ls a.goals]:=Heap.set_same _ _ _
 generalize H.set r [I a.states,Is a.first,Es a.edges,Ls a.goals]=G at hle bad hG ⊢
 have e0:IntKind.i64.wrap (a.states - 1)=a.states - 1:=i6_ (by omega) (by omega)
 refine L35_0_rule (0:Nat) (fun i=>I i) (fun _=>G) (fun i=>i≤a.edges.length∧(List.range i).all (edAt a.states a.edges)=true) (fun i=>a.edges.length - i) ⟨⟨by omega,rfl⟩,.refl _,Heap.le_refl _⟩ ?_
 rintro i ⟨hi,ha⟩
 (try simp (disch:=first|assumption|apply Y6;assumption) only [vz,vu,vv,eqS,eF_,↓c1_,↓c2_,tabs,reduceCtorEq,X5,↓reduceIte,Y1,Y2,Y3,Y4,Y5,X1,X2,X3,X4,B35_0])
 refine ⟨fun h6=>⟨by omega,h6,fun r4 hr4=>?_⟩,fun h6=>?_⟩
 ·have hlt:i < a.edges.length:=by omega
  have nr:r≠r4:=fun e=>by rw [e,hr4] at hG;cases hG
  have nr':r4≠r:=Ne.symm nr
  have ra:edAt a.states a.edges i=false→AV.p (.bool false)=B (a_l a)∧Heap.le H (G.set r4 [I (a.edges.getD i default).src,I (a.edges.getD i default).lt,I (a.edges.getD i default).dst]):=fun h=>⟨by rw [gd,e_H,a_0 hlt h],Heap.le_trans hle (Heap.le_set hr4)⟩
  have e1:0 < (i:Int)→IntKind.i64.wrap ((i:Int) - 1)=i - 1:=fun _=>i6_ (by omega) (by omega)
  have e2:((i:Int) - 1).toNat=i - 1:=by omega
  have nx:edAt a.states a.edges i=true→(List.range (i+1)).all (edAt a.states a.edges)=true:=fun h=>by rw [a_9,ha,h];rfl
  have hne:¬(edIn a.states (a.edges.getD i default)=true)→edAt a.states a.edges i=false:=fun h=>d_J fun hh=>h hh.1
  rw [a_h] at hne
  (try simp (disch:=first|assumption|apply Y6;assumption) only [vz,vu,vv,eqS,eF_,↓c1_,↓c2_,tabs,reduceCtorEq,X5,↓reduceIte,Y1,Y2,Y3,Y4,Y5,X1,X2,X3,X4,lA_ hG,e0])
  refine Pu.use (b_a (a.edges.getD i default).src 0 (a.states - 1)) ?_
  cases g1:(decide (0≤(a.edges.getD i default).src) && decide ((a.edges.getD i default).src≤a.states - 1))
  ·simp only [Bool.and_eq_false_iff,decide_eq_false_iff_not] at g1
   (try simp (disch:=first|assumption|apply Y6;assumption) only [vz,vu,vv,eqS,eF_,↓c1_,↓c2_,tabs,reduceCtorEq,X5,↓reduceIte,Y1,Y2,Y3,Y4,Y5,X1,X2,X3,X4])
   exact ra (hne (by omega))
  simp only [Bool.and_eq_true,decide_eq_true_eq] at g1
  (try simp (disch:=first|assumption|apply Y6;assumption) only [vz,vu,vv,eqS,eF_,↓c1_,↓c2_,tabs,reduceCtorEq,X5,↓reduceIte,Y1,Y2,Y3,Y4,Y5,X1,X2,X3,X4])
  refine Pu.use (b_a (a.edges.getD i default).lt 0 7) ?_
  cases g2:(decide (0≤(a.edges.getD i default).lt) && decide ((a.edges.getD i default).lt≤7))
  ·simp only [Bool.and_eq_false_iff,decide_eq_false_iff_not] at g2
   (try simp (disch:=first|assumption|apply Y6;assumption) only [vz,vu,vv,eqS,eF_,↓c1_,↓c2_,tabs,reduceCtorEq,X5,↓reduceIte,Y1,Y2,Y3,Y4,Y5,X1,X2,X3,X4])
   exact ra (hne (by omega))
  simp only [Bool.and_eq_true,decide_eq_true_eq] at g2
  (try simp (disch:=first|assumption|apply Y6;assumption) only [vz,vu,vv,eqS,eF_,↓c1_,↓c2_,tabs,reduceCtorEq,X5,↓reduceIte,Y1,Y2,Y3,Y4,Y5,X1,X2,X3,X4,lA_ hG,e0])
  refine Pu.use (b_a (a.edges.getD i default).dst 0 (a.states - 1)) ?_
  cases g3:(decide (0≤(a.edges.getD i default).dst) && decide ((a.edges.getD i default).dst≤a.states - 1))
  ·simp only [Bool.and_eq_false_iff,decide_eq_false_iff_not] at g3
   (try simp (disch:=first|assumption|apply Y6;assumption) only [vz,vu,vv,eqS,eF_,↓c1_,↓c2_,tabs,reduceCtorEq,X5,↓reduceIte,Y1,Y2,Y3,Y4,Y5,X1,X2,X3,X4])
   exact ra (hne (by omega))
  simp only [Bool.and_eq_true,decide_eq_true_eq] at g3
  (try simp (disch:=first|assumption|apply Y6;assumption) only [vz,vu,vv,eqS,eF_,↓c1_,↓c2_,tabs,reduceCtorEq,X5,↓reduceIte,Y1,Y2,Y3,Y4,Y5,X1,X2,X3,X4,lA_ hG])
  refine ⟨fun g7=>?_,fun g7=>?_⟩
  ·rw [e1 g7,e2]
   refine ⟨by omega,by omega,?_⟩
   refine Pu.use (l12Less_spec (a.edges.getD (i - 1) default) (a.edges.getD i default)) ?_
   cases h8:edLt (a.edges.getD (i - 1) default) (a.edges.getD i default)
   ·(try simp (disch:=first|assumption|apply Y6;assumption) only [vz,vu,vv,eqS,eF_,↓c1_,↓c2_,tabs,reduceCtorEq,X5,↓reduceIte,Y1,Y2,Y3,Y4,Y5,X1,X2,X3,X4])
    refine ra (d_J fun hh=>?_)
    rcases hh.2 with h | h
    ·omega
    ·rw [h8] at h;cases h
   ·(try simp (disch:=first|assumption|apply Y6;assumption) only [vz,vu,vv,eqS,eF_,↓c1_,↓c2_,tabs,reduceCtorEq,X5,↓reduceIte,Y1,Y2,Y3,Y4,Y5,X1,X2,X3,X4])
    refine ⟨i+1,⟨by omega,nx (c_m.2 ⟨a_h.2 (by omega),.inr h8⟩)⟩,by omega,?_,Heap.le_set hr4⟩
    rw [a_r,i6_ (by omega) (by omega)];simp
  ·refine ⟨i+1,⟨by omega,nx (c_m.2 ⟨a_h.2 (by omega),.inl (by omega)⟩)⟩,by omega,?_,Heap.le_set hr4⟩
   rw [a_r,i6_ (by omega) (by omega)];simp
 ·have:i=a.edges.length:=by omega
  subst this
  exact ⟨by rw [gd,e_H,ha],hle⟩
end Go.Proofs.YtohkciilfkhomaaGreat
namespace Go.Sep
open Go Go.RowKit
abbrev Lay (α:Type):=α→List AV→Heap→List Nat→Prop
def LPl {α:Type} (e:α→List PV):Lay α:=fun a cs _ D=>cs=(e a).map .p∧D=[]
def LL {α:Type} (L:Lay α):List α→List AV→Heap→List Nat→Prop
 | [],cs,_,D=>cs=[]∧D=[]
 | a::az,cs,G,D=>∃c1 c2 D1 D2,cs=c1++c2∧D=D1++D2∧L a c1 G D1∧LL L az c2 G D2
def LRow {α:Type} (L:Lay α) (sz:Nat):List α→AV→Heap→List Nat→Prop:=fun xs x G D=>∃q cs D',x=.sl q sz 0 xs.length∧G q=some cs∧LL L xs cs G D'∧D=q::D'
def Lay.Local {α:Type} (L:Lay α):Prop:=∀a cs G G' D,L a cs G D→(∀y∈D,∀b,G y=some b→G' y=some b)→L a cs G' D
def Lay.Size {α:Type} (L:Lay α) (sz:Nat):Prop:=∀a cs G D,L a cs G D→cs.length=sz
theorem LPl.local {α:Type} (e:α→List PV):Lay.Local (LPl e):=fun a cs G G' D h _=>h
theorem LL.local {α:Type} {L:Lay α} (hL:L.Local):∀{az:List α} {cs:List AV} {G G':Heap} {D:List Nat},LL L az cs G D→(∀y∈D,∀b,G y=some b→G' y=some b)→LL L az cs G' D
 | [],cs,G,G',D,h,_=>h
 | a::az,cs,G,G',D,⟨c1,c2,D1,D2,e1,e2,h1,h2⟩,hf=>by
  subst e2
  exact ⟨c1,c2,D1,D2,e1,rfl,hL _ _ _ _ _ h1 (fun y hy=>hf y (List.mem_append_left _ hy)),LL.local hL h2 (fun y hy=>hf y (List.mem_append_right _ hy))⟩
theorem LL.size {α:Type} {L:Lay α} {sz:Nat} (hL:L.Size sz):∀{az:List α} {cs:List AV} {G:Heap} {D:List Nat},LL L az cs G D→cs.length=az.length*sz
 | [],cs,G,D,h=>by rw [h.1];simp
 | a::az,cs,G,D,⟨c1,c2,D1,D2,e1,e2,h1,h2⟩=>by
  rw [e1,List.length_append,hL _ _ _ _ h1,LL.size hL h2,List.length_cons,Nat.add_mul,Nat.one_mul];omega
theorem LRow.local {α:Type} {L:Lay α} {sz:Nat} (hL:L.Local) {xs:List α} {x:AV} {G G':Heap} {D:List Nat} (h:LRow L sz xs x G D) (hf:∀y∈D,∀b,G y=some b→G' y=some b):LRow L sz xs x G' D:=by
 obtain ⟨q,cs,D',e1,e2,e3,e4⟩:=h
 subst e4
 exact ⟨q,cs,D',e1,hf q (by simp) _ e2,LL.local hL e3 (fun y hy=>hf y (by simp [hy])),rfl⟩
def Lay.Has {α:Type} (L:Lay α):Prop:=∀a cs G D,L a cs G D→∀y∈D,G y≠none
theorem LPl.has {α:Type} (e:α→List PV):Lay.Has (LPl e):=fun a cs G D h y hy=>by rw [h.2] at hy;cases hy
theorem LL.has {α:Type} {L:Lay α} (hL:L.Has):∀{az:List α} {cs:List AV} {G:Heap} {D:List Nat},LL L az cs G D→∀y∈D,G y≠none
 | [],cs,G,D,h=>fun y hy=>by rw [h.2] at hy;cases hy
 | a::az,cs,G,D,⟨c1,c2,D1,D2,e1,e2,h1,h2⟩=>fun y hy=>by
  rw [e2] at hy
  rcases List.mem_append.1 hy with hy | hy
  ·exact hL _ _ _ _ h1 y hy
  ·exact LL.has hL h2 y hy
theorem LRow.has {α:Type} {L:Lay α} {sz:Nat} (hL:L.Has) {xs:List α} {x:AV} {G:Heap} {D:List Nat} (h:LRow L sz xs x G D):∀y∈D,G y≠none:=by
 obtain ⟨q,cs,D',e1,e2,e3,e4⟩:=h
 intro y hy
 rw [e4] at hy
 rcases List.mem_cons.1 hy with rfl | hy
 ·rw [e2];simp
 ·exact LL.has hL e3 y hy
theorem LL.plain {α:Type} {e:α→List PV} {G:Heap}:∀(xs:List α),LL (LPl e) xs (cells (xs.map e)) G []
 | []=>⟨rfl,rfl⟩
 | x::xs=>⟨(e x).map .p,cells (xs.map e),[],[],by simp [cells],rfl,⟨rfl,rfl⟩,LL.plain xs⟩
theorem splice_at {pre c c' post:List AV} {off n:Nat} (ho:off=pre.length) (hn:n=c'.length) (hc:c.length=c'.length):List.take off (pre++(c++post))++c'++List.drop (off+n) (pre++(c++post))=pre++(c'++post):=by
 subst ho;subst hn
 rw [List.take_left',List.append_assoc]
 ·congr 2
  rw [List.drop_append,← hc]
  simp
 ·rfl
theorem LL.snoc {α:Type} {L:Lay α} {a:α} {c2:List AV} {G:Heap} {D2:List Nat} (h2:L a c2 G D2):∀{az:List α} {c1:List AV} {D1:List Nat},LL L az c1 G D1→LL L (az++[a]) (c1++c2) G (D1++D2)
 | [],c1,D1,h=>by
  obtain ⟨rfl,rfl⟩:=h
  exact ⟨c2,[],D2,[],by simp,by simp,h2,rfl,rfl⟩
 | b::az,c1,D1,⟨d1,d2,E1,E2,e1,e2,h1,h3⟩=>by
  subst e1;subst e2
  exact ⟨d1,d2++c2,E1,E2++D2,by simp,by simp,h1,LL.snoc h2 h3⟩
theorem LL.split {α:Type} [Inhabited α] {L:Lay α} {sz:Nat} (hL:L.Size sz):∀{az:List α} {cs:List AV} {G:Heap} {D:List Nat} {i:Nat},LL L az cs G D→i < az.length→
  ∃c1 c c2 D1 Di D2,cs=c1++(c++c2)∧D=D1++(Di++D2)∧c1.length=i*sz∧L (az.getD i default) c G Di∧LL L (az.take i) c1 G D1∧LL L (az.drop (i+1)) c2 G D2
 | a::az,cs,G,D,0,⟨c1,c2,D1,D2,e1,e2,h1,h2⟩,_=>⟨[],c1,c2,[],D1,D2,by simpa using e1,by simpa using e2,by simp,by simpa using h1,⟨rfl,rfl⟩,by simpa using h2⟩
 | a::az,cs,G,D,i+1,⟨c1,c2,D1,D2,e1,e2,h1,h2⟩,hi=>by
  obtain ⟨d1,d,d2,E1,Ei,E2,f1,f2,f3,f4,f5,f6⟩:=LL.split hL h2 (i:=i) (by simpa using hi)
  subst e1;subst e2;subst f1;subst f2
  refine ⟨c1++d1,d,d2,D1++E1,Ei,E2,by simp,by simp,?_,by simpa using f4,⟨c1,d1,D1,E1,rfl,rfl,h1,f5⟩,by simpa using f6⟩
  rw [List.length_append,hL _ _ _ _ h1,f3,Nat.add_mul,Nat.one_mul];omega
theorem LL.join {α:Type} {L:Lay α}:∀{az bs:List α} {c1 c2:List AV} {G:Heap} {D1 D2:List Nat},LL L az c1 G D1→LL L bs c2 G D2→LL L (az++bs) (c1++c2) G (D1++D2)
 | [],bs,c1,c2,G,D1,D2,h1,h2=>by
  obtain ⟨rfl,rfl⟩:=h1
  simpa using h2
 | a::az,bs,c1,c2,G,D1,D2,⟨d1,d2,E1,E2,e1,e2,h1,h3⟩,h2=>by
  subst e1;subst e2
  exact ⟨d1,d2++c2,E1,E2++D2,by simp,by simp,h1,LL.join h3 h2⟩
def Lay.Frz {α:Type} (L:Lay α) (e:α→List PV):Prop:=∀(a:α) (cs:List AV) (G:Heap) (D:List Nat) (v:AV) (s:Nat) (pre post:List AV),L a cs G D→D.Nodup→s∉D→G s=some (pre++(cs++post))→
 ∃G',Wk v G v G'∧G' s=some (pre++((e a).map .p++post))∧∀y,y≠s→y∉D→G' y=G y
theorem LPl.frz {α:Type} (e:α→List PV):(LPl e).Frz e:=by
 rintro a cs G D v s pre post ⟨rfl,rfl⟩ _ _ hs
 exact ⟨G,.refl _ _,hs,fun _ _ _=>rfl⟩
theorem LL.frz {α:Type} {L:Lay α} {e:α→List PV} (hl:L.Local) (hf:L.Frz e):∀(az:List α) (cs:List AV) (G:Heap) (D:List Nat) (v:AV) (s:Nat) (pre post:List AV),LL L az cs G D→D.Nodup→s∉D→G s=some (pre++(cs++post))→
  ∃G',Wk v G v G'∧G' s=some (pre++((az.map e).flatten.map .p++post))∧∀y,y≠s→y∉D→G' y=G y
 | [],cs,G,D,v,s,pre,post,h,hD,hs,hG=>by
  obtain ⟨rfl,rfl⟩:=h
  exact ⟨G,.refl _ _,by simpa using hG,fun _ _ _=>rfl⟩
 | a::az,cs,G,D,v,s,pre,post,⟨c1,c2,D1,D2,e1,e2,h1,h2⟩,hD,hs,hG=>by
  subst e1;subst e2
  rw [List.nodup_append] at hD
  rw [List.mem_append,not_or] at hs
  obtain ⟨G1,w1,k1,f1⟩:=hf a c1 G D1 v s pre (c2++post) h1 hD.1 hs.1 (by rw [hG];simp)
  have h2':LL L az c2 G1 D2:=LL.local hl h2 fun y hy b hb=>by rw [f1 y (fun e=>hs.2 (e ▸ hy)) (fun hy1=>hD.2.2 y hy1 y hy rfl)];exact hb
  obtain ⟨G2,w2,k2,f2⟩:=LL.frz hl hf az c2 G1 D2 v s (pre++(e a).map .p) post h2' hD.2.1 hs.2 (by rw [k1];simp)
  refine ⟨G2,.trans w1 w2,by rw [k2];simp,fun y hy hyD=>?_⟩
  rw [List.mem_append,not_or] at hyD
  rw [f2 y hy hyD.2,f1 y hy hyD.1]
theorem FrzL.refl' {r sz:Nat} {es:List (List PV)}:∀vs,FrzL r sz es vs vs
 | []=>.nil
 | v::vs=>.cons (.same v) (FrzL.refl' vs)
theorem FrzL.at {r sz:Nat} {es:List (List PV)} {x x':AV} (h:FrzR r sz es x x') (post:List AV):∀pre,FrzL r sz es (pre++([x]++post)) (pre++([x']++post))
 | []=>.cons h (FrzL.refl' post)
 | v::pre=>.cons (.same v) (FrzL.at h post pre)
theorem LRow.frzIn {α:Type} {L:Lay α} {e:α→List PV} {sz:Nat} (hpos:0 < sz) (he:∀a,(e a).length=sz) (hl:L.Local) (hf:L.Frz e) {xs:List α} {x:AV} {G:Heap} {D:List Nat} {v:AV} {s:Nat} {pre post:List AV} (h:LRow L sz xs x G D) (hD:D.Nodup) (hs:s∉D) (hG:G s=some (pre++([x]++post))) :
  ∃G',Wk v G v G'∧G' s=some (pre++([.p (.sl (xs.map e))]++post))∧∀y,y≠s→y∉D→G' y=G y:=by
 obtain ⟨q,cs,D',rfl,hq,hll,rfl⟩:=h
 rw [List.nodup_cons] at hD
 rw [List.mem_cons,not_or] at hs
 obtain ⟨G1,w1,k1,f1⟩:=LL.frz hl hf xs cs G D' v q [] [] hll hD.2 hD.1 (by simpa using hq)
 have hG1:G1 s=some (pre++([.sl q sz 0 xs.length]++post)):=by rw [f1 s hs.1 hs.2];exact hG
 have k1':G1 q=some ((xs.map e).flatten.map .p):=by simpa using k1
 have hr:FrzR q sz (xs.map e) (.sl q sz 0 xs.length) (.p (.sl (xs.map e))):=by
  have:FrzR q sz (xs.map e) (.sl q sz 0 (xs.map e).length) (.p (.sl (xs.map e))):=.here
  rwa [List.length_map] at this
 refine ⟨(G1.del q).set s (pre++([.p (.sl (xs.map e))]++post)),.trans w1 (Wk.frzAt hpos k1' (a_q he xs) hG1 hs.1 (FrzL.at hr post pre) (.same v) (by simp)),Heap.set_same _ _ _,fun y hy hyD=>?_⟩
 rw [List.mem_cons,not_or] at hyD
 rw [Heap.set_other hy,Heap.del_other hyD.1,f1 y hyD.1 hyD.2]
theorem LRow.frzV {α:Type} {L:Lay α} {e:α→List PV} {sz:Nat} (hpos:0 < sz) (he:∀a,(e a).length=sz) (hl:L.Local) (hf:L.Frz e) {xs:List α} {x:AV} {G:Heap} {D:List Nat} {v v':AV} (h:LRow L sz xs x G D) (hD:D.Nodup)
  (hv:∀q,x=.sl q sz 0 xs.length→FrzR q sz (xs.map e) x (.p (.sl (xs.map e)))→FrzR q sz (xs.map e) v v') :
  ∃G',Wk v G v' G'∧∀y,y∉D→G' y=G y:=by
 obtain ⟨q,cs,D',rfl,hq,hll,rfl⟩:=h
 rw [List.nodup_cons] at hD
 obtain ⟨G1,w1,k1,f1⟩:=LL.frz hl hf xs cs G D' v q [] [] hll hD.2 hD.1 (by simpa using hq)
 have k1':G1 q=some ((xs.map e).flatten.map .p):=by simpa using k1
 have hr:FrzR q sz (xs.map e) (.sl q sz 0 xs.length) (.p (.sl (xs.map e))):=by
  have:FrzR q sz (xs.map e) (.sl q sz 0 (xs.map e).length) (.p (.sl (xs.map e))):=.here
  rwa [List.length_map] at this
 refine ⟨G1.del q,.trans w1 (Wk.frz hpos k1' (a_q he xs) (hv q rfl hr)),fun y hyD=>?_⟩
 rw [List.mem_cons,not_or] at hyD
 rw [Heap.del_other hyD.1,f1 y hyD.1 hyD.2]
def only (D:List Nat) (G:Heap):Heap:=fun y=>if y∈D then G y else none
theorem only_le (D:List Nat) (G:Heap):Heap.le (only D G) G:=fun y b hb=>by
 unfold only at hb;split at hb
 ·exact hb
 ·cases hb
theorem only_in {D:List Nat} {G:Heap} {y:Nat} (h:y∈D):only D G y=G y:=if_pos h
theorem only_out {D:List Nat} {G:Heap} {y:Nat} (h:y∉D):only D G y=none:=if_neg h
end Go.Sep
namespace Go.Proofs.YtohkciilfkhomaaGreat
open Go Go.Sep Go.Pt
attribute [local irreducible] a_a
abbrev LI:List Int→AV→Heap→List Nat→Prop:=LRow (LPl eI) 1
structure New (H G:Heap) (D:List Nat):Prop where
 nd:D.Nodup
 fr:∀y∈D,H y=none
 le:Heap.le H G
theorem LRow.sl {α:Type} {L:Lay α} {sz:Nat} {xs:List α} {x:AV} {G:Heap} {D:List Nat} (h:LRow L sz xs x G D):∃q,x=.sl q sz 0 xs.length:=by
 obtain ⟨q,cs,D',e1,e2,e3,e4⟩:=h;exact ⟨q,e1⟩
end Go.Proofs.YtohkciilfkhomaaGreat
namespace Go.Proofs.YtohkciilfkhomaaGreat
open Go Go.Sep
attribute [local irreducible] a_a
abbrev fI (n:Int):PV:=.int .i64 n
abbrev rowP {α:Type} (q:Nat) (xs:List α):AV:=.sl q 1 0 xs.length
abbrev cP {α:Type} (f:α→PV) (xs:List α):List AV:=xs.map fun x=>AV.p (f x)
abbrev vP {α:Type} (f:α→PV) (xs:List α):AV:=.p (.sl (xs.map fun x=>[f x]))
theorem b_o {α:Type} (f:α→PV) (xs:List α):cells (xs.map fun x=>[f x])=cP f xs:=by
 induction xs with
 | nil=>rfl
 | cons x xs ih=>simp only [cells,List.map_cons,List.flatten_cons,List.map_append] at ih ⊢;rw [ih];rfl
theorem flat_P {α:Type} (f:α→PV) (xs:List α):(xs.map fun x=>[f x]).flatten.map AV.p=cP f xs:=b_o f xs
theorem szP {α:Type} (f:α→PV) (xs:List α):d_e 1 (xs.map fun x=>[f x]):=a_q (f:=fun x=>[f x]) (fun _=>rfl) xs
theorem cP_cell {α:Type} (f:α→PV) (xs:List α):(cP f xs).all AV.isCell=true:=by
 rw [← b_o];exact b_E _
theorem app_row {α:Type} {f:α→PV} {tab:Tab} {t e:Nat} {d ed:TD} {q:Nat} {xs ys:List α} {G:Heap} {K:k_} (h1:tab t=some d) (h2:d.k=.slice e) (h3:tab e=some ed) (h6:ed.size=1) (h7:ed.bytes≤64)
  (hq:G q=some (cP f xs)) (hl:xs.length+ys.length≤1000000000)
  (h:∀q',G q'=none→K (rowP q' (xs++ys)) ((G.del q).set q' (cP f (xs++ys)))):aP_ tab t t (rowP q xs) (vP f ys) G (wkK K):=by
 have:=d_4 (x:=vP f ys) (r:=q) (es:=xs.map fun x=>[f x]) (fs:=ys.map fun x=>[f x]) (H:=G) (K:=K) h1 h2 h3 h1 h2 h6 (bz:=ed.bytes) rfl (.inl rfl) (by rw [b_o];exact hq) (szP f xs) (szP f ys)
  (by simp only [List.length_map];exact Nat.le_trans (Nat.mul_le_mul hl h7) (by omega)) (by simp only [List.length_map];omega) fun r' hr'=>by
   have:=h r' hr'
   rw [← List.map_append,b_o]
   simpa only [own,List.length_map] using this
 simpa only [own,List.length_map] using this
structure Own1 {α:Type} (f:α→PV) (H0 G:Heap) (r:Nat) (pre:List AV) (x:AV) (xs:List α):Prop where
 hr:G r=some (pre++[x])
 base:(x=.p .nil∧xs=[])∨∃q,x=rowP q xs∧G q=some (cP f xs)∧H0 q=none∧q≠r
 le:Heap.le H0 G
 nr:H0 r=none
theorem frz_row {α:Type} {f:α→PV} {q:Nat} {xs:List α}:FrzR q 1 (xs.map fun x=>[f x]) (rowP q xs) (vP f xs):=by
 have:FrzR q 1 (xs.map fun x=>[f x]) (.sl q 1 0 (xs.map fun x=>[f x]).length) (.p (.sl (xs.map fun x=>[f x]))):=.here
 rwa [List.length_map] at this
end Go.Proofs.YtohkciilfkhomaaGreat
namespace Go.Proofs.YtohkciilfkhomaaGreat
open Go Go.Sep Go.Pt
attribute [local irreducible] a_a
theorem LI_mk {xs:List Int} {q:Nat} {G:Heap} (h:G q=some (cells (xs.map eI))):LI xs (rowP q xs) G [q]:=⟨q,_,[],rfl,h,LL.plain xs,rfl⟩
def marked (k:Int) (n:Nat):List Int:=(List.range n).map fun (j:Nat)=>k+(j:Int)
end Go.Proofs.YtohkciilfkhomaaGreat
namespace Go.Proofs.YtohkciilfkhomaaGreat
open Go Go.Sep Go.Pt
attribute [local irreducible] a_a
theorem a_K {α:Type} [Inhabited α] {xs:List α} {i:Nat} (h:i < xs.length):xs.drop i=xs.getD i default::xs.drop (i+1):=by
 rw [List.drop_eq_getElem_cons h];simp [List.getD,h]
structure Half {α:Type} (L:Lay α) (G0:Heap) (q:Nat) (D:List Nat) (xs:List α) (i:Nat) (G:Heap) (done:List α):Prop where
 ex:∃cd cr Dd Dr,G q=some (cd++cr)∧LL L done cd G Dd∧LL L (xs.drop i) cr G Dr∧D=Dd++Dr
 len:done.length=i
 fr:∀y,y∉q::D→G y=G0 y
end Go.Proofs.YtohkciilfkhomaaGreat
namespace Go.Proofs.YtohkciilfkhomaaGreat
open Go Go.Sep Go.Pt
attribute [local irreducible] a_a
abbrev LE:List Ed→AV→Heap→List Nat→Prop:=LRow (LPl eE) 3
def LIc:Lay (List Int):=fun l cs G D=>∃x,cs=[x]∧LI l x G D
abbrev LII:List (List Int)→AV→Heap→List Nat→Prop:=LRow LIc 1
theorem LIc.local:Lay.Local LIc:=by
 rintro c cs G G' D ⟨x,e,h⟩ hf
 exact ⟨x,e,LRow.local (LPl.local eI) h hf⟩
theorem LIc.size:Lay.Size LIc 1:=by
 rintro c cs G D ⟨x,rfl,h⟩;rfl
theorem LIc.has:Lay.Has LIc:=by
 rintro c cs G D ⟨x,e,h⟩
 exact LRow.has (LPl.has eI) h
theorem LIc.frz:Lay.Frz LIc eL:=by
 rintro c cs G D v s pre post ⟨x,rfl,h⟩ hD hs hG
 obtain ⟨G',w,k,f⟩:=LRow.frzIn (e:=eI) (sz:=1) (pre:=pre) (post:=post) (v:=v) (by omega) (fun _=>rfl) (LPl.local eI) (LPl.frz eI) h hD hs (by rw [hG])
 exact ⟨G',w,by rw [k];rfl,f⟩
def LAu (a:Au) (v:AV) (G:Heap) (D:List Nat):Prop:=∃x y z D1 D2 D3,v=.agg [I a.states,x,y,z]∧D=D1++(D2++D3)∧LI a.first x G D1∧LE a.edges y G D2∧LII a.goals z G D3
theorem LAu.local {a:Au} {v:AV} {G G':Heap} {D:List Nat} (h:LAu a v G D) (hf:∀y∈D,∀b,G y=some b→G' y=some b):LAu a v G' D:=by
 obtain ⟨x,y,z,D1,D2,D3,e,rfl,h1,h2,h3⟩:=h
 exact ⟨x,y,z,D1,D2,D3,e,rfl,LRow.local (LPl.local eI) h1 (fun u hu=>hf u (by simp [hu])),LRow.local (LPl.local eE) h2 (fun u hu=>hf u (by simp [hu])),LRow.local LIc.local h3 (fun u hu=>hf u (by simp [hu]))⟩
theorem LAu.has {a:Au} {v:AV} {G:Heap} {D:List Nat} (h:LAu a v G D):∀y∈D,G y≠none:=by
 obtain ⟨x,y,z,D1,D2,D3,e,rfl,h1,h2,h3⟩:=h
 intro u hu
 simp only [List.mem_append] at hu
 rcases hu with hu | hu | hu
 ·exact LRow.has (LPl.has eI) h1 u hu
 ·exact LRow.has (LPl.has eE) h2 u hu
 ·exact LRow.has LIc.has h3 u hu
theorem nd3' {A B C:List Nat} (h:(A++(B++C)).Nodup):A.Nodup∧B.Nodup∧C.Nodup∧(∀y∈A,y∉B)∧(∀y∈A,y∉C)∧(∀y∈B,y∉C):=by
 rw [List.nodup_append,List.nodup_append] at h
 obtain ⟨h1,⟨h2,h3,h4⟩,h5⟩:=h
 exact ⟨h1,h2,h3,fun y hy hb=>h5 y hy y (List.mem_append_left _ hb) rfl,fun y hy hb=>h5 y hy y (List.mem_append_right _ hb) rfl,fun y hy hb=>h4 y hy y hb rfl⟩
theorem LAu.wk {a:Au} {v:AV} {G:Heap} {D:List Nat} (h:LAu a v G D) (hD:D.Nodup) (C:AV→AV) (hC:∀{q sz es a a'},FrzR q sz es a a'→FrzR q sz es (C a) (C a')):∃G',Wk (C v) G (C (aAu a)) G'∧∀y,y∉D→G' y=G y:=by
 obtain ⟨x,y,z,D1,D2,D3,rfl,rfl,h1,h2,h3⟩:=h
 obtain ⟨n1,n2,n3,d12,d13,d23⟩:=nd3' hD
 obtain ⟨G1,w1,f1⟩:=LRow.frzV (e:=eI) (sz:=1) (v:=C (.agg [I a.states,x,y,z])) (v':=C (.agg [I a.states,Is a.first,y,z])) (by omega) (fun _=>rfl) (LPl.local eI) (LPl.frz eI) h1 n1
  (fun q _ hr=>hC (.agg (.cons (.same _) (.cons hr (.cons (.same _) (.cons (.same _) .nil))))))
 have h2':=LRow.local (LPl.local eE) h2 (G':=G1) fun u hu b hb=>by rw [f1 u (fun h=>d12 u h hu)];exact hb
 obtain ⟨G2,w2,f2⟩:=LRow.frzV (e:=eE) (sz:=3) (v:=C (.agg [I a.states,Is a.first,y,z])) (v':=C (.agg [I a.states,Is a.first,Es a.edges,z])) (by omega) (fun _=>rfl) (LPl.local eE) (LPl.frz eE) h2' n2
  (fun q _ hr=>hC (.agg (.cons (.same _) (.cons (.same _) (.cons hr (.cons (.same _) .nil))))))
 have h3':=LRow.local LIc.local h3 (G':=G2) fun u hu b hb=>by rw [f2 u (fun h=>d23 u h hu),f1 u (fun h=>d13 u h hu)];exact hb
 obtain ⟨G3,w3,f3⟩:=LRow.frzV (e:=eL) (sz:=1) (v:=C (.agg [I a.states,Is a.first,Es a.edges,z])) (v':=C (aAu a)) (by omega) (fun _=>rfl) LIc.local LIc.frz h3' n3
  (fun q _ hr=>hC (.agg (.cons (.same _) (.cons (.same _) (.cons (.same _) (.cons hr .nil))))))
 refine ⟨G3,.trans w1 (.trans w2 w3),fun u hu=>?_⟩
 simp only [List.mem_append,not_or] at hu
 rw [f3 u hu.2.2,f2 u hu.2.1,f1 u hu.1]
end Go.Proofs.YtohkciilfkhomaaGreat
namespace Go.Proofs.YtohkciilfkhomaaGreat
open Go Go.Sep Go.Pt
attribute [local irreducible] a_a
theorem a_R (xs:List Int):(cP fI xs).length=xs.length:=by simp [cP]
theorem d_A (xs ys:List Int):cP fI (xs++ys)=cP fI xs++cP fI ys:=by simp [cP]
theorem app_intsX {q:Nat} {xs ys:List Int} {ex:List AV} {G:Heap} {K:k_} (hq:G q=some (cP fI xs++ex)) (hl:xs.length+ys.length≤1000000000)
  (h:∀q',G q'=none→q'≠q→K (rowP q' (xs++ys)) ((G.del q).set q' (cP fI (xs++ys)))):aP_ tab 24 24 (rowP q xs) (Is ys) G (wkK K):=by
 have hlen:=a_R xs
 simp only [aP_,a_g,a_u,srcV,c_s,hq]
 have e2:List.map AV.p (List.map eI ys).flatten=cP fI ys:=flat_P fI ys
 refine ⟨szI ys,trivial,by rw [List.length_append,hlen];omega,by simp only [List.length_map];omega,by simp only [List.length_map];omega,b_E _,fun q' hq'=>wkK.keep ?_⟩
 have hne:q'≠q:=fun e=>by rw [e,hq] at hq';cases hq'
 have:=h q' hq' hne
 have e:List.take (xs.length*1) (List.drop 0 (cP fI xs++ex))=cP fI xs:=by rw [List.drop_zero,Nat.mul_one,← hlen,List.take_left]
 rw [e,e2,List.length_map]
 rw [d_A] at this
 simpa only [rowP,List.length_append] using this
theorem b_R {q:Nat} {xs ys:List Int} {G:Heap} {K:k_} (hq:G q=none) (hl:xs.length+ys.length≤1000000) (h:∀q',G q'=none→K (rowP q' (xs++ys)) (G.set q' (cP fI (xs++ys)))) :
  aP_ tab 24 24 (rowP q xs) (Is ys) (G.set q (cP fI xs)) (wkK K):=
 app_intsX (ex:=[]) (by rw [Heap.set_same,List.append_nil]) (by omega) fun q' hq' hne=>by
  rw [Heap.del_set hq]
  rw [Heap.set_none] at hq'
  exact h q' hq'.2
theorem c_c {q:Nat} {xs:List Int} {b:Int} {G:Heap} {K:k_} (hq:G q=none) (hl:xs.length≤100000) (h:∀q',G q'=none→K (rowP q' (xs++[b])) (G.set q' (cP fI (xs++[b])))) :
  bS_ tab 24 1 [(0,I b)] (G.set q (cP fI xs)) (wkK fun v H1=>aP_ tab 24 24 (rowP q xs) v H1 (wkK K)):=by
 refine lit1 a_g rfl a_u ⟨rfl,rfl⟩ ?_
 exact b_R (ys:=[b]) hq (by simp;omega) h
theorem e_I {G:Heap} {K:k_} (h:∀q,G q=none→K (rowP q ([]:List Int)) (G.set q (cP fI []))):bS_ tab 24 0 [] G (wkK K):=by
 simp only [bS_,a_g,a_u]
 refine ⟨by omega,?_⟩
 simp only [a_C,zA_,List.replicate_zero,List.flatten_nil]
 exact fun r hr=>wkK.keep (h r hr)
def below (n:Nat):List Int:=(List.range n).map fun (i:Nat)=>(i:Int)
theorem e_8 (n:Nat):below (n+1)=below n++[(n:Int)]:=by simp [below,List.range_succ]
theorem a_H (n:Nat):(below n).length=n:=by simp [below]
def smI (l:List Int):Prop:=l.length≤10000∧∀x∈l,0≤x∧x≤100000
theorem f_C {q:Nat} {xs:List Int} {H G:Heap} (hq:H q=none) (hG:Heap.le (H.set q (cP fI xs)) G):wkK (fun r H'=>r=Is xs∧H'=H) (rowP q xs) G:=by
 have:=f_x (sz:=1) (es:=xs.map eI) (q:=q) (H:=H) (H':=G) (K:=fun r H'=>r=Is xs∧H'=H) (by omega) (szI _) hq (by
  have e:cells (xs.map eI)=cP fI xs:=b_o fI xs
  rw [e];exact hG) ⟨rfl,rfl⟩
 simpa only [Go.Sep.own,List.length_map] using this
theorem f_D (n:Nat) (hn:n≤10000):Pu Tryz.prog 101 [I n] (Is (below n)):=by
 refine ⟨fun H=>a_a.fin ?_⟩
 refine W101_ok ?_;simp (maxSteps:=1000000) (disch:=first|assumption|apply Y6;assumption) only [W101,vz,vu,vv,eqS,eF_,↓c1_,↓c2_,tabs,reduceCtorEq,X5,↓reduceIte,Y1,Y2,Y3,Y4,Y5,X1,X2,X3,X4]
 refine e_I fun q0 hq0=>?_
 refine L101_0_rule ((0:Nat),q0) (fun s=>rowP s.2 (below s.1)) (fun s=>I s.1) (fun s=>H.set s.2 (cP fI (below s.1))) (fun s=>s.1≤n∧H s.2=none) (fun s=>n - s.1) ⟨⟨by simp,hq0⟩,.refl _,.refl _,Heap.le_refl _⟩ ?_
 rintro ⟨i,q⟩ ⟨hi,hq⟩
 dsimp only at hi hq
 have hml:=a_H i
 (try simp (disch:=first|assumption|apply Y6;assumption) only [vz,vu,vv,eqS,eF_,↓c1_,↓c2_,tabs,reduceCtorEq,X5,↓reduceIte,Y1,Y2,Y3,Y4,Y5,X1,X2,X3,X4,B101_0])
 refine ⟨fun h1=>?_,fun h1=>?_⟩
 ·refine c_c hq (by omega) fun q' hq'=>?_
  rw [← e_8]
  (try simp (disch:=first|assumption|apply Y6;assumption) only [vz,vu,vv,eqS,eF_,↓c1_,↓c2_,tabs,reduceCtorEq,X5,↓reduceIte,Y1,Y2,Y3,Y4,Y5,X1,X2,X3,X4])
  refine ⟨(i+1,q'),⟨by simp only;omega,hq'⟩,by simp only;omega,.refl _,?_,Heap.le_refl _⟩
  rw [a_r,i6_ (by omega) (by omega)];simp
 ·have:i=n:=by omega
  subst this
  exact f_C hq (Heap.le_refl _)
def a_o (a:Au) (k:Int):List Int:=if k < a.goals.length then a.goals.getD k.toNat default else below a.states.toNat
theorem goalOf_spec (a:Au) (k:Int) (hk:0≤k) (hs:0≤a.states∧a.states≤10000):Pu Tryz.prog 53 [aAu a,I k] (Is (a_o a k)):=by
 refine Pu.of fun H=>?_
 refine W53_ok ?_;simp (maxSteps:=1000000) (disch:=first|assumption|apply Y6;assumption) only [W53,vz,vu,vv,eqS,eF_,↓c1_,↓c2_,tabs,reduceCtorEq,X5,↓reduceIte,Y1,Y2,Y3,Y4,Y5,X1,X2,X3,X4]
 intro r hr
 refine ⟨fun h1=>⟨by omega,h1,?_⟩,fun h1=>?_⟩
 ·exact ⟨by simp only [a_o,if_pos h1],Heap.le_set hr⟩
 ·have e:(a.states:Int)=(a.states.toNat:Nat):=by omega
  rw [e]
  refine Pu.use (f_D a.states.toNat (by omega)) ⟨by simp only [a_o,if_neg h1],Heap.le_set hr⟩
theorem b_K (l:List Int) (hl:l.length≤100000) {H:Heap} {K:k_} (h:∀q,H q=none→K (rowP q l) (H.set q (cP fI l))):a_a Tryz.prog 38 [Is l] H K:=by
 refine a_a.fin ?_
 refine W38_ok ?_;simp (maxSteps:=1000000) (disch:=first|assumption|apply Y6;assumption) only [W38,vz,vu,vv,eqS,eF_,↓c1_,↓c2_,tabs,reduceCtorEq,X5,↓reduceIte,Y1,Y2,Y3,Y4,Y5,X1,X2,X3,X4]
 refine e_I fun q0 hq0=>?_
 refine b_R (xs:=[]) (ys:=l) hq0 (by simp;omega) fun q hq=>?_
 rw [List.nil_append]
 exact wkK.keep (h q hq)
theorem e_9 {xs:List Int} {q:Nat} {G:Heap} (h:G q=some (cP fI xs)):LI xs (rowP q xs) G [q]:=LI_mk (by
 have e:cells (xs.map eI)=cP fI xs:=b_o fI xs
 rw [e];exact h)
theorem a_2 {G:Heap} {K:k_} {q n:Nat} (h:∀ql,G ql=none→K (.sl ql 1 0 1) (G.set ql [.sl q 1 0 n])):bS_ tab 26 1 [(0,.sl q 1 0 n)] G (wkK K):=by
 simp only [bS_,c_x,a_g]
 refine ⟨by omega,?_⟩
 simp only [a_C,zA_,List.replicate_succ,List.replicate_zero,List.flatten_cons,List.flatten_nil,List.append_nil,AV.cells,splice]
 simp only [List.length_cons,List.length_nil,Nat.reduceAdd,Nat.zero_mul,Nat.zero_add,Nat.le_refl,and_self,if_true,List.take_zero,List.nil_append,List.drop_succ_cons,List.drop_zero,List.append_nil]
 exact fun r hr=>wkK.keep (h r hr)
theorem b_j (xs:List Int) (hl:xs.length≤100000) {H:Heap} {K:k_} (h:∀q,H q=none→K (rowP q xs) (H.set q (cP fI xs))):a_a Tryz.prog 52 [Is xs] H K:=by
 refine a_a.fin ?_
 refine a_a.ghost W52_hb fun q0 hq0=>?_
 refine W52_ok ?_;simp (maxSteps:=1000000) (disch:=first|assumption|apply Y6;assumption) only [W52,vz,vu,vv,eqS,eF_,↓c1_,↓c2_,tabs,reduceCtorEq,X5,↓reduceIte,Y1,Y2,Y3,Y4,Y5,X1,X2,X3,X4]
 have main:bS_ tab 24 0 [] (H.set q0 []) (wkK fun v5 H1=>aP_ tab 24 24 v5 (Is xs) H1 (wkK fun v7 H2=>wkK K v7 H2)):=by
  refine e_I fun q1 hq1=>?_
  refine b_R (xs:=[]) (ys:=xs) hq1 (by simp;omega) fun q2 hq2=>?_
  rw [Heap.set_none] at hq2
  rw [List.nil_append]
  refine e_6 ?_ (h q2 hq2.2)
  generalize cP fI xs=z
  have:=hq2.2
  have:=hq2.1
  (intro y b hy;simp only [Heap.set,Heap.del] at hy ⊢;(repeat' split at hy)<;>(repeat' split)<;>simp_all [cells])
 refine ⟨fun h0=>⟨?_,main⟩,fun _=>main⟩
 have hx:xs=[]:=List.map_eq_nil_iff.1 h0
 subst hx
 exact ⟨_,_,.val (.nilo q0 1 0),h q0 hq0⟩
theorem d_7 (l:List Int) (x:Int) (hl:l.length≤1048576):Pu Tryz.prog 102 [Is l,I x] (I (if x∈l then (l.idxOf x:Int) else -1)):=by
 refine Pu.of fun H=>?_
 refine W102_ok ?_;simp (maxSteps:=1000000) (disch:=first|assumption|apply Y6;assumption) only [W102,vz,vu,vv,eqS,eF_,↓c1_,↓c2_,tabs,reduceCtorEq,X5,↓reduceIte,Y1,Y2,Y3,Y4,Y5,X1,X2,X3,X4]
 refine L102_0_rule (0:Nat) (fun i=>I i) (fun _=>H) (fun i=>i≤l.length∧∀j,j < i→l.getD j default≠x) (fun i=>l.length - i) ⟨⟨by omega,by intros;omega⟩,.refl _,Heap.le_refl _⟩ ?_
 rintro i ⟨hi,ha⟩
 (try simp (disch:=first|assumption|apply Y6;assumption) only [vz,vu,vv,eqS,eF_,↓c1_,↓c2_,tabs,reduceCtorEq,X5,↓reduceIte,Y1,Y2,Y3,Y4,Y5,X1,X2,X3,X4,B102_0])
 refine ⟨fun h1=>⟨by omega,h1,fun h2=>?_,fun h2=>⟨i+1,⟨by omega,fun j hj=>?_⟩,by omega,?_⟩⟩,fun h1=>?_⟩
 ·have hlt:i < l.length:=by omega
  have hm:x∈l:=by rw [h2];exact a_e (p:=fun x=>x∈l) (fun _ h=>h) hlt
  rw [if_pos hm]
  refine congrArg (fun n:Int=>I n) ?_
  have:l.idxOf x=i:=by
   rw [List.idxOf,List.findIdx_eq hlt]
   refine ⟨by rw [← a_k (d:=default) hlt,← h2];simp,fun j hj=>?_⟩
   have:=ha j hj
   rw [a_k (by omega:j < l.length)] at this
   simpa using this
  omega
 ·rcases Nat.lt_succ_iff_lt_or_eq.1 hj with h | rfl
  ·exact ha j h
  ·exact fun e=>h2 e.symm
 ·rw [a_r,i6_ (by omega) (by omega)];simp
 ·have hm:x∉l:=by
   intro hm
   obtain ⟨j,hj,e⟩:=List.mem_iff_getElem.1 hm
   exact ha j (by omega) (by rw [a_k hj];exact e)
  rw [if_neg hm]
theorem c_y (l:List Int) (x:Int) (hl:l.length≤1048576):Pu Tryz.prog 54 [Is l,I x] (B (decide (x∈l))):=by
 refine Pu.of fun H=>?_
 refine W54_ok ?_;simp (maxSteps:=1000000) (disch:=first|assumption|apply Y6;assumption) only [W54,vz,vu,vv,eqS,eF_,↓c1_,↓c2_,tabs,reduceCtorEq,X5,↓reduceIte,Y1,Y2,Y3,Y4,Y5,X1,X2,X3,X4]
 refine Pu.use (d_7 l x hl) ?_
 (try simp (disch:=first|assumption|apply Y6;assumption) only [vz,vu,vv,eqS,eF_,↓c1_,↓c2_,tabs,reduceCtorEq,X5,↓reduceIte,Y1,Y2,Y3,Y4,Y5,X1,X2,X3,X4])
 refine congrArg (fun b:Bool=>B b) ?_
 by_cases h:x∈l
 ·simp [h]
 ·simp [h]
theorem l1Has_spec (l:List Int) (x:Int) (hl:l.length≤1048576):Pu Tryz.prog 58 [Is l,I x] (B (decide (x∈l))):=by
 refine Pu.of fun H=>?_
 refine W58_ok ?_;simp (maxSteps:=1000000) (disch:=first|assumption|apply Y6;assumption) only [W58,vz,vu,vv,eqS,eF_,↓c1_,↓c2_,tabs,reduceCtorEq,X5,↓reduceIte,Y1,Y2,Y3,Y4,Y5,X1,X2,X3,X4]
 refine e_4 (0:Nat) (fun i=>I i) (fun _=>H) (fun i=>i≤l.length∧∀j,j < i→l.getD j default≠x) (fun i=>l.length - i) ⟨⟨by omega,by intros;omega⟩,.refl _,Heap.le_refl _⟩ ?_
 rintro i ⟨hi,ha⟩
 (try simp (disch:=first|assumption|apply Y6;assumption) only [vz,vu,vv,eqS,eF_,↓c1_,↓c2_,tabs,reduceCtorEq,X5,↓reduceIte,Y1,Y2,Y3,Y4,Y5,X1,X2,X3,X4,B58_0])
 refine ⟨fun h1=>⟨by omega,h1,fun h2=>?_,fun h2=>⟨i+1,⟨by omega,fun j hj=>?_⟩,by omega,?_⟩⟩,fun h1=>?_⟩
 ·have hlt:i < l.length:=by omega
  have hm:x∈l:=by rw [← h2];exact a_e (p:=fun x=>x∈l) (fun _ h=>h) hlt
  rw [decide_eq_true hm]
 ·rcases Nat.lt_succ_iff_lt_or_eq.1 hj with h | rfl
  ·exact ha j h
  ·exact h2
 ·rw [a_r,i6_ (by omega) (by omega)];simp
 ·have hm:x∉l:=by
   intro hm
   obtain ⟨j,hj,e⟩:=List.mem_iff_getElem.1 hm
   exact ha j (by omega) (by rw [a_k hj];exact e)
  rw [decide_eq_false hm]
end Go.Proofs.YtohkciilfkhomaaGreat
